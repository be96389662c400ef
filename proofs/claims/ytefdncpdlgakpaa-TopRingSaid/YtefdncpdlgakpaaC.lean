import Derived.Test.YtefdncpdlgakpaaA
import Derived.Test.YtefdncpdlgakpaaB
import Derived.WalkSpells
namespace Go.Proofs.Ytefdncpdlgakpaa
open Go.RowKit

structure Sh where
  pairs : Int
  works : List Wk

def okWk (p : Int) (x : Wk) : Prop := (x.kind = 1 ∨ (x.kind = 2 ∧ x.word.data.toList = [])) ∧ 0 ≤ x.pos ∧ x.pos ≤ p - 2 ∧ okWord x.word.data.toList
def okSh (p : Int) (ws : List Wk) : Prop := 2 ≤ p ∧ p ≤ 24 ∧ ws.length ≤ 400 ∧ ∀ x ∈ ws, okWk p x

theorem okSh_no1 {p : Int} {ws : List Wk} (h : 24 < p ∨ 400 < ws.length ∨ p < 2) : ¬ okSh p ws := by
  unfold okSh; omega
theorem okSh_no2 {p : Int} {ws : List Wk} {x : Wk} {i : Nat} (hx : ws[i]? = some x) (h : ¬ okWk p x) : ¬ okSh p ws := fun ⟨_, _, _, h'⟩ => h (h' x (List.mem_of_getElem? hx))
theorem no_iff {P : Prop} {n : Int} (h : ¬ P) (hn : n ≠ 0) : n = 0 ↔ P := ⟨fun e => absurd e hn, fun e => absurd e h⟩

/-- the first i of a list have a property -/
def Upto {α : Type} (l : List α) (i : Nat) (P : α → Prop) : Prop := ∀ (j : Nat) (x : α), j < i → l[j]? = some x → P x
theorem Upto.zero {α : Type} (l : List α) (P : α → Prop) : Upto l 0 P := fun j x h => by omega
theorem Upto.succ {α : Type} {l : List α} {i : Nat} {P : α → Prop} {x : α} (h : Upto l i P) (hx : l[i]? = some x) (hp : P x) : Upto l (i + 1) P := fun j y hj hy => by
  by_cases e : j = i
  · subst e; rw [hx] at hy; cases hy; exact hp
  · exact h j y (by omega) hy
theorem Upto.all {α : Type} {l : List α} {i : Nat} {P : α → Prop} (h : Upto l i P) (hi : l.length ≤ i) : ∀ x ∈ l, P x := fun x hx => by
  obtain ⟨j, hj, rfl⟩ := List.getElem_of_mem hx
  exact h j _ (by omega) (List.getElem?_eq_getElem hj)

def okWk1 (p : Int) (x : Wk) : Prop := (x.kind = 1 ∨ (x.kind = 2 ∧ x.word.data.toList = [])) ∧ 0 ≤ x.pos ∧ x.pos ≤ p - 2

set_option maxHeartbeats 1000000 in
theorem ref04_any (p : Int) (a : Option Addr) (cap : Nat) (ws : List Wk) (w : World) (h : Ar eW w a ws) (hl : ws.length ≤ 9223372036854775807) (hz : ∀ x ∈ ws, x.word.size ≤ 9223372036854775807) (hp : -9223372036854775808 ≤ p ∧ p ≤ 9223372036854775807) :
    Calls Try.prog 4 #[.agg #[.int .i64 p, .slice a ws.length cap]] w fun e w' => OkRes (okSh p ws) e ∧ Grow w w' := by
  by_cases h1 : 24 < p
  · go_enter Try.func4, Try.ntmps4
    go_wp2
    go_ret
    exact ⟨⟨3, rfl, no_iff (okSh_no1 (.inl h1)) (by decide)⟩, (Below.refl _ _).alloc (Nat.le_refl _) _⟩
  by_cases h2 : 400 < ws.length
  · go_enter Try.func4, Try.ntmps4
    go_wp2
    go_ret
    exact ⟨⟨3, rfl, no_iff (okSh_no1 (.inr (.inl h2))) (by decide)⟩, (Below.refl _ _).alloc (Nat.le_refl _) _⟩
  have hn : ws.length ≤ 400 := by omega
  have hp24 : p ≤ 24 := by omega
  clear h1 h2 hl
  have HZ : Hid (∀ x ∈ ws, x.word.size ≤ 9223372036854775807) := hz
  have HA : Hid (Ar eW w a ws) := h
  clear hz h
  go_enter Try.func4, Try.ntmps4
  go_wp2
  go_loop [3] (fun i => ∃ k : Nat, k ≤ ws.length ∧ i = .int .i64 k ∧ Hid (Upto ws k fun x => x.word.size ≤ 16)) (fun i => ws.length - (intOf i).toNat)
  case atStart => exact ⟨0, Nat.zero_le _, rfl, Upto.zero _ _⟩
  case round =>
    obtain ⟨k, hk, rfl, hu⟩ := hrel
    by_cases hlt : k < ws.length
    · obtain ⟨b, o, x, hx, rfl, hb, hc0, hc1, hc2⟩ := HA.out.wk hlt
      have hzx := HZ.out x (List.mem_of_getElem? hx)
      have HX : Hid (ws[k]? = some x) := hx
      clear hx hc0 hc1
      by_cases hs : 16 < x.word.size
      · go_wp2
        go_ret
        exact ⟨⟨3, rfl, no_iff (okSh_no2 HX.out fun h => by have := h.2.2.2.1; simp at this; omega) (by decide)⟩, (Below.refl _ _).alloc (Nat.le_refl _) _⟩
      · go_wp2
        go_round
        case rel => exact ⟨k + 1, by omega, by go_num, hu.out.succ HX.out (by omega)⟩
        case measure => simp [intOf]; omega
    · have HU : Hid (∀ x ∈ ws, x.word.size ≤ 16) := hu.out.all (by omega)
      clear hu
      by_cases h2 : p < 2
      · go_wp2
        go_ret
        exact ⟨⟨2, rfl, no_iff (okSh_no1 (.inr (.inr h2))) (by decide)⟩, (Below.refl _ _).alloc (Nat.le_refl _) _⟩
      have hp2 : 2 ≤ p := by omega
      clear h2
      go_wp2
      go_loopw [4, 5] (fun i _ wr => ∃ k : Nat, k ≤ ws.length ∧ i = .int .i64 k ∧ Hid (Upto ws k (okWk1 p)) ∧ Hid (Below (w.heap.size + 1) (w.alloc (Obj.cells #[Value.int IntKind.i64 p, Value.slice a ws.length cap] 24)) wr)) (fun i _ _ => ws.length - (intOf i).toNat)
      case atStart => exact ⟨0, Nat.zero_le _, rfl, Upto.zero _ _, Below.refl _ _⟩
      case round =>
        obtain ⟨i, hi, rfl, hu, hg⟩ := hrel
        have hgw : Hid (Grow w wr) := ((Below.refl _ _).alloc (Nat.le_refl _) _).trans (hg.out.mono (Nat.le_succ _))
        have hsz : w.heap.size < wr.heap.size := by have := hg.out.size; simp at this; omega
        have hp0 : wr.cell? ⟨w.heap.size, 0, none⟩ = some (.int .i64 p) := by rw [hg.out.cell (p := ⟨w.heap.size, 0, none⟩) (by simp)]; simp [go_sem]
        have hp1 : wr.cell? ⟨w.heap.size, 1, none⟩ = some (.slice a ws.length cap) := by rw [hg.out.cell (p := ⟨w.heap.size, 1, none⟩) (by simp)]; simp [go_sem]
        by_cases hlt : i < ws.length
        · obtain ⟨b, o, x, hx, rfl, hb, hc0, hc1, hc2⟩ := (HA.out.grow hgw.out).wk hlt
          have HX : Hid (ws[i]? = some x) := hx
          clear hx
          go_wp2
          all_goals
            have hd : x.word.toList.isEmpty = true ↔ x.word.data.toList = [] := by rw [ByteArray.toList_eq]; simp
          all_goals first
            | (go_ret
               refine ⟨⟨2, rfl, no_iff (okSh_no2 HX.out fun h => ?_) (by decide)⟩, hgw.out.trans ((Below.refl _ _).alloc hgw.out.size _)⟩
               have ha := h.1
               have hb := h.2.1
               have hc := h.2.2.1
               clear hc0 hc1 hc2 hp0 hp1
               grind)
            | (go_roundw
               case rel =>
                 refine ⟨i + 1, by omega, by go_num, hu.out.succ HX.out ?_, hg.out.trans ((Below.refl _ _).alloc (by omega) _)⟩
                 unfold okWk1
                 clear hc0 hc1 hc2 hp0 hp1
                 grind
               case measure => simp [intOf]; omega)
        · have HU1 : Hid (∀ x ∈ ws, okWk1 p x) := hu.out.all (by omega)
          clear hu
          go_wp2
          go_loopw [6] (fun i wr' => ∃ k : Nat, k ≤ ws.length ∧ i = .int .i64 k ∧ Hid (Upto ws k (fun x => okWord x.word.data.toList)) ∧ wr = wr') (fun i _ => ws.length - (intOf i).toNat)
          case atStart => exact ⟨0, Nat.zero_le _, rfl, Upto.zero _ _, rfl⟩
          case round =>
            obtain ⟨i, hi, rfl, hu, rfl⟩ := hrel
            by_cases hlt : i < ws.length
            · obtain ⟨b, o, x, hx, rfl, hb, hc0, hc1, hc2⟩ := (HA.out.grow hgw.out).wk hlt
              have hzx := HZ.out x (List.mem_of_getElem? hx)
              have HX : Hid (ws[i]? = some x) := hx
              clear hx
              go_wp2_with (go_at_call 19; refine (ref03_any _ _ hzx).mono ?_; rintro e w' ⟨⟨n, rfl, hn0⟩, rfl⟩; have HN : Hid (n = 0 ↔ okWord x.word.data.toList) := hn0; clear hn0)
              all_goals first
                | (go_ret
                   exact ⟨⟨6, rfl, no_iff (okSh_no2 HX.out fun h => by have := HN.out.2 h.2.2.2; grind) (by decide)⟩, hgw.out⟩)
                | (go_roundw
                   case rel => exact ⟨i + 1, by omega, by go_num, hu.out.succ HX.out (HN.out.1 (by grind)), trivial⟩
                   case measure => simp [intOf]; omega)
            · go_wp2
              go_ret
              exact ⟨⟨0, rfl, ⟨fun _ => ⟨hp2, hp24, hn, fun x hx => ⟨(HU1.out x hx).1, (HU1.out x hx).2.1, (HU1.out x hx).2.2, hu.out.all (by omega) x hx⟩⟩, fun _ => rfl⟩⟩, hgw.out⟩
end Go.Proofs.Ytefdncpdlgakpaa
