import Derived.Test.YtefdncpdlgakpaaProg
import Derived.WalkKit
import Derived.KernelRfl
import Derived.Deep.QuietTactic
import Derived.BigQuiet
import Derived.BigRegion
namespace Go.Proofs.Ytefdncpdlgakpaa
open Go.RowKit

def inB (a b c : Int) : Bool := decide (b ≤ a) && decide (a ≤ c)

theorem in_any (a b c : Int) (w : World) : Calls Try.prog 52 #[.int .i64 a, .int .i64 b, .int .i64 c] w fun e w' => e = .returned (.bool (inB a b c)) ∧ w = w' := by
  by_cases h : b ≤ a
  · go_enter Try.func52, Try.ntmps52
    go_wp2
    go_ret
    exact ⟨by simp [inB, h], rfl⟩
  · have h' : decide (b ≤ a) = false := decide_eq_false h
    go_enter Try.func52, Try.ntmps52
    go_wp2
    go_ret
    exact ⟨by simp [inB, h'], rfl⟩

/-- the index of the first c in l, or -1 -/
def oi (x : Option Nat) : Int := match x with | some i => (i : Int) | none => -1
def idxI (l : List UInt8) (c : UInt8) : Int := oi (l.idxOf? c)

theorem idxI_found {l : List UInt8} {c : UInt8} {k : Nat} (hk : k < l.length) (hc : l[k] = c) (hn : ∀ j (h : j < k), l[j]'(by omega) ≠ c) : idxI l c = k := by
  have : l.idxOf? c = some k := by
    rw [List.idxOf?, List.findIdx?_eq_some_iff_getElem]
    exact ⟨hk, by simp [hc], fun j hj => by simpa using hn j hj⟩
  simp [idxI, oi, this]

theorem idxI_none {l : List UInt8} {c : UInt8} (hn : ∀ j (h : j < l.length), l[j] ≠ c) : idxI l c = -1 := by
  have : l.idxOf? c = none := by
    rw [List.idxOf?, List.findIdx?_eq_none_iff]
    intro x hx
    obtain ⟨j, hj, rfl⟩ := List.getElem_of_mem hx
    simpa using hn j hj
  simp [idxI, oi, this]

theorem u8_beq (a b : UInt8) : ((a.toNat : Int) == (b.toNat : Int)) = (a == b) := by
  rw [Bool.eq_iff_iff]; simp [UInt8.toNat_inj, Int.ofNat_inj]

theorem index_any (s : ByteArray) (c : UInt8) (w : World) (hs : s.size ≤ 100) : Calls Try.prog 37 #[.string s, .int .u8 c.toNat] w fun e w' => e = .returned (.int .i64 (idxI s.data.toList c)) ∧ w = w' := by
  go_enter Try.func37, Try.ntmps37
  go_wp2
  go_loop [5] (fun i => ∃ k : Nat, k ≤ s.size ∧ i = .int .i64 k ∧ Hid (∀ j (h : j < k) (h' : j < s.size), s[j] ≠ c)) (fun i => s.size - (intOf i).toNat)
  case atStart => exact ⟨0, Nat.zero_le _, rfl, fun j h => by omega⟩
  case round =>
    obtain ⟨k, hk, rfl, hn⟩ := hrel
    by_cases hlt : k < s.size
    · by_cases hc : s[k] = c
      · have H : Hid (idxI s.data.toList c = k) := idxI_found (by simpa using hlt) hc (fun j hj => hn.out j hj (by omega))
        have hb : ((s[k].toNat : Int) == (c.toNat : Int)) = true := by rw [u8_beq]; simpa using hc
        clear hc hn
        go_wp2
        go_ret
        exact ⟨by rw [H.out]; rfl, rfl⟩
      · have hb : ((s[k].toNat : Int) == (c.toNat : Int)) = false := by rw [u8_beq]; simpa using hc
        have H : Hid (s[k] ≠ c) := hc
        clear hc
        go_wp2
        go_round
        case rel => exact ⟨k + 1, by omega, by go_num, fun j hj h' => by
          by_cases e : j = k
          · subst e; exact H.out
          · exact hn.out j (by omega) h'⟩
        case measure => simp [intOf]; omega
    · have H : Hid (idxI s.data.toList c = -1) := idxI_none (fun j hj => hn.out j (by simp at hj; omega) (by simpa using hj))
      clear hn
      go_wp2
      go_ret
      exact ⟨by rw [H.out]; rfl, rfl⟩

def letters : List UInt8 := [67, 84, 76, 82, 80, 99, 116, 108, 114]

def okWord (s : List UInt8) : Prop := s.length ≤ 16 ∧ ∀ c ∈ s, c ∈ letters

theorem lit_letters : ({ data := #[67, 84, 76, 82, 80, 99, 116, 108, 114] } : ByteArray).data.toList = letters := rfl
theorem idxI_mem {l : List UInt8} {c : UInt8} (h : c ∈ l) : 0 ≤ idxI l c := by
  unfold idxI oi
  split
  · omega
  · rename_i hn
    rw [List.idxOf?, List.findIdx?_eq_none_iff] at hn
    exact absurd (hn c h) (by simp)
theorem idxI_not_mem {l : List UInt8} {c : UInt8} (h : c ∉ l) : idxI l c < 0 := by
  rw [idxI_none]
  · omega
  · intro j hj e
    exact h (e ▸ List.getElem_mem hj)

def OkRes (p : Prop) (e : Ending) : Prop := ∃ n : Int, e = .returned (.int .i64 n) ∧ (n = 0 ↔ p)

theorem ref03_any (s : ByteArray) (w : World) (hsz : s.size ≤ 9223372036854775807) : Calls Try.prog 19 #[.string s] w fun e w' => OkRes (okWord s.data.toList) e ∧ w = w' := by
  by_cases hs : 16 < s.size
  · go_enter Try.func19, Try.ntmps19
    go_wp2
    go_ret
    exact ⟨⟨3, rfl, by simp [okWord]; omega⟩, rfl⟩
  · have hs' : s.size ≤ 16 := by omega
    go_enter Try.func19, Try.ntmps19
    go_wp2
    go_loop [3] (fun i => ∃ k : Nat, k ≤ s.size ∧ i = .int .i64 k ∧ Hid (∀ j (h : j < k) (h' : j < s.size), s[j] ∈ letters)) (fun i => s.size - (intOf i).toNat)
    case atStart => exact ⟨0, Nat.zero_le _, rfl, fun j h => by omega⟩
    case round =>
      obtain ⟨k, hk, rfl, hn⟩ := hrel
      by_cases hlt : k < s.size
      · by_cases hc : s[k] ∈ letters
        · have h0 := idxI_mem hc
          have H : Hid (s[k] ∈ letters) := hc
          clear hc
          go_wp2_with (go_at_call 37; refine (index_any _ _ _ (by decide)).mono ?_; rintro e w' ⟨rfl, rfl⟩; rw [lit_letters])
          go_round
          case rel => exact ⟨k + 1, by omega, by go_num, fun j hj h' => by
            by_cases e : j = k
            · subst e; exact H.out
            · exact hn.out j (by omega) h'⟩
          case measure => simp [intOf]; omega
        · have h0 := idxI_not_mem hc
          have H : Hid (s[k] ∉ letters) := hc
          clear hc
          go_wp2_with (go_at_call 37; refine (index_any _ _ _ (by decide)).mono ?_; rintro e w' ⟨rfl, rfl⟩; rw [lit_letters])
          go_ret
          exact ⟨⟨6, rfl, by simp only [okWord]; exact ⟨fun h => by omega, fun h => absurd (h.2 s[k] (Array.getElem_mem_toList _)) H.out⟩⟩, rfl⟩
      · have H : Hid (okWord s.data.toList) := ⟨by simpa using hs', fun c hc => by
          obtain ⟨j, hj, rfl⟩ := List.getElem_of_mem hc
          exact hn.out j (by simp at hj; omega) (by simpa using hj)⟩
        clear hn
        go_wp2
        go_ret
        exact ⟨⟨0, rfl, ⟨fun _ => H.out, fun _ => rfl⟩⟩, rfl⟩
end Go.Proofs.Ytefdncpdlgakpaa
