import Derived.Test.YtefdncpdlgakpaaC
import Derived.Test.YtefdncpdlgakpaaD
import Derived.WalkLawsBesides
namespace Go.Proofs.Ytefdncpdlgakpaa
open Go.RowKit

theorem okSh.short {p : Int} {ws : List Wk} (h : okSh p ws) : ∀ x ∈ ws, x.word.size ≤ 16 := fun x hx => by simpa using (h.2.2.2 x hx).2.2.2.1

theorem long_any (k q : Int) (s : ByteArray) (w : World) (hs : s.size ≤ 16) : Calls Try.prog 39 #[.agg #[.int .i64 k, .int .i64 q, .string s]] w fun e w' => e = .returned (.bool false) ∧ Grow w w' := by
  go_enter Try.func39, Try.ntmps39
  go_wp2
  go_ret
  have h : decide (16 < (s.size : Int)) = false := decide_eq_false (by omega)
  exact ⟨by simp [h], (Below.refl _ _).alloc (Nat.le_refl _) _⟩

theorem idxLong_any (a : Option Addr) (cap : Nat) (ws : List Wk) (w : World) (h : Ar eW w a ws) (hl : ws.length ≤ 400) (hz : ∀ x ∈ ws, x.word.size ≤ 16) :
    Calls Try.prog 49 #[.slice a ws.length cap, .func (.func 39) #[] #[]] w fun e w' => e = .returned (.int .i64 (-1)) ∧ Grow w w' := by
  have HZ := Lib.hid hz
  have HA := Lib.hid h
  clear hz h
  go_enter Try.func49, Try.ntmps49
  go_wp2
  go_loopw [8, 5] (fun i _ wr => ∃ k : Nat, k ≤ ws.length ∧ i = .int .i64 k ∧ Hid (Grow w wr)) (fun i _ _ => ws.length - (intOf i).toNat)
  case atStart => exact ⟨0, Nat.zero_le _, rfl, Below.refl _ _⟩
  case round =>
    obtain ⟨k, hk, rfl, hg⟩ := hrel
    by_cases hlt : k < ws.length
    · obtain ⟨b, o, x, hx, rfl, hb, hc0, hc1, hc2⟩ := (HA.out.grow hg.out).wk hlt
      have hzx := HZ.out x (List.mem_of_getElem? hx)
      clear hx
      go_wp2_with (go_at_call 39; refine (long_any _ _ _ _ hzx).mono ?_; rintro e w1 ⟨rfl, hg1⟩; have HG := Lib.hid (hg.out.trans (hg1.mono hg.out.size)); clear hg1)
      go_roundw
      case rel => exact ⟨k + 1, by omega, by go_num, HG.out⟩
      case measure => simp [intOf]; omega
    · go_wp2
      go_ret
      exact ⟨rfl, hg.out⟩

theorem hasLong_any (a : Option Addr) (cap : Nat) (ws : List Wk) (w : World) (h : Ar eW w a ws) (hl : ws.length ≤ 400) (hz : ∀ x ∈ ws, x.word.size ≤ 16) :
    Calls Try.prog 38 #[.slice a ws.length cap, .func (.func 39) #[] #[]] w fun e w' => e = .returned (.bool false) ∧ Grow w w' := by
  have HC := Lib.hid (idxLong_any a cap ws w h hl hz)
  clear h hz
  go_enter Try.func38, Try.ntmps38
  go_wp2_with (go_at_call 49; refine HC.out.mono ?_; rintro e w1 ⟨rfl, hg1⟩)
  go_ret
  exact ⟨rfl, hg1⟩

set_option maxHeartbeats 1000000 in
theorem sheet_ok (p : Int) (a : Option Addr) (cap : Nat) (ws : List Wk) (w : World) (h : Ar eW w a ws) (hok : okSh p ws) :
    Calls Try.prog 20 #[.agg #[.int .i64 p, .slice a ws.length cap]] w fun e w' => e = .returned (.int .i64 0) ∧ Grow w w' := by
  have hp2 := hok.1
  have hp24 := hok.2.1
  have hn := hok.2.2.1
  have HL := Lib.hid hok
  have HA := Lib.hid h
  clear h hok
  go_enter Try.func20, Try.ntmps20
  go_wp2_with (go_at_call 38; refine (hasLong_any _ _ _ _ (HA.out.alloc _) hn HL.out.short).mono ?_; rintro e w1 ⟨rfl, hg1⟩; obtain ⟨hc, hf⟩ := bcell hg1; have HG := Lib.hid hg1; clear hg1)
  have HG1 := Lib.hid (((Below.refl _ w).alloc (Nat.le_refl _) (Obj.cells #[Value.int IntKind.i64 p, Value.slice a ws.length cap] 24)).trans (HG.out.mono (by simp)))
  have hp0 : w1.cell? ⟨w.heap.size, 0, none⟩ = some (.int .i64 p) := by rw [hc _ _ (by simp)]; simp [go_sem]
  have hl1 : w.heap.size < w1.heap.size := cell_lt hp0
  have HP0 := Lib.hid hp0
  clear hc hf HG hp0
  go_loopw [26, 3, 5] (fun i fo _ wr => ∃ k : Nat, k ≤ ws.length ∧ i = .int .i64 k ∧ fo = .int .i64 0 ∧ Hid (Grow w1 wr)) (fun i _ _ _ => ws.length - (intOf i).toNat)
  case atStart => exact ⟨0, Nat.zero_le _, rfl, rfl, Below.refl _ _⟩
  case round =>
    obtain ⟨i, hi, rfl, rfl, HGr⟩ := hrel
    have hsz := HGr.out.size
    by_cases hlt : i < ws.length
    · obtain ⟨b, o, x, hx, rfl, hb, hc0, hc1, hc2⟩ := ((HA.out.grow HG1.out).grow HGr.out).wk hlt
      have hc : wr.cell? ⟨w.heap.size, 0, none⟩ = some (.int .i64 p) := by rw [HGr.out.cell (p := ⟨w.heap.size, 0, none⟩) hl1]; exact HP0.out
      have hl2 : w.heap.size < wr.heap.size := by omega
      obtain ⟨hkind, hq0, hq1, hword⟩ := HL.out.2.2.2 x (List.mem_of_getElem? hx)
      have h16 : x.word.size ≤ 16 := hword.1
      have HW := Lib.hid hword
      clear hx hword
      rcases hkind with hk1 | ⟨hk2, hw0⟩
      · have hk : x.kind = 1 := hk1
        go_wp2_with (go_at_call 40; refine (stCheck_any _ _ (by omega)).mono ?_; rintro e w' ⟨⟨n, rfl, hn0⟩, rfl⟩; have hn := hn0.2 HW.out; clear hn0; subst hn)
        go_roundw
        case rel => exact ⟨i + 1, by omega, by go_num, rfl, (HGr.out.alloc (by omega) _)⟩
        case measure => simp [intOf]; omega
      · have hw : x.word.toList.isEmpty = true := by rw [ByteArray.toList_eq, hw0]; rfl
        clear hw0
        go_wp2_with (go_at_call 40; refine (stCheck_any _ _ (by omega)).mono ?_; rintro e w' ⟨⟨n, rfl, hn0⟩, rfl⟩; have hn := hn0.2 HW.out; clear hn0; subst hn)
        go_roundw
        case rel => exact ⟨i + 1, by omega, by go_num, rfl, (HGr.out.alloc (by omega) _)⟩
        case measure => simp [intOf]; omega
    · go_wp2
      go_ret
      exact ⟨rfl, HG1.out.trans (HGr.out.mono (by omega))⟩

theorem asked_ok (p sh : Int) (a : Option Addr) (cap : Nat) (ws : List Wk) (w : World) (h : Ar eW w a ws) (hok : okSh p ws) (h0 : 0 ≤ sh) (h1 : sh < p) :
    Calls Try.prog 25 #[.agg #[.int .i64 p, .slice a ws.length cap], .int .i64 sh] w fun e w' => e = .returned (.int .i64 0) ∧ Grow w w' := by
  have hp2 := hok.1
  have hp24 := hok.2.1
  have hn := hok.2.2.1
  have HC := Lib.hid (fun o => sheet_ok p a cap ws (w.alloc o) (h.alloc o) hok)
  clear h hok
  go_enter Try.func25, Try.ntmps25
  go_wp2_with (go_at_call 20; refine (HC.out _).mono ?_; rintro e w1 ⟨rfl, hg1⟩; obtain ⟨hc, hf⟩ := bcell hg1; have HG := Lib.hid hg1; clear hg1)
  go_ret
  refine ⟨rfl, ((Below.refl _ _).alloc (Nat.le_refl _) _).trans (HG.out.mono (by simp))⟩
end Go.Proofs.Ytefdncpdlgakpaa
