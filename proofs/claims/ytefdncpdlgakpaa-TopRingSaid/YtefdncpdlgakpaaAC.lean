import Derived.Test.YtefdncpdlgakpaaAB
namespace Go.Proofs.Ytefdncpdlgakpaa
open Go.RowKit

/-! TopRing: the walk. -/
set_option maxRecDepth 1000000 in
set_option maxHeartbeats 4000000 in
/-- a sheet that the statement does not speak of -/
theorem ring_long (p sh tm : Int) (a ad aq : Option Addr) (n cap nd capd nq capq : Nat) (w : World) (h : 40 < n ∨ 100 < nq) :
    Calls Try.prog 3 #[.agg #[.int .i64 p, .slice a n cap], .int .i64 sh, .slice ad nd capd, .slice aq nq capq, .int .u8 tm] w fun e w' => e = .returned (.bool true) ∧ Grow w w' := by
  by_cases h1 : 40 < n
  · have h1' : (40 : Int) < n := by omega
    clear h
    go_enter Try.func3, Try.ntmps3
    go_wp2
    go_ret
    exact ⟨rfl, (Below.refl _ _).alloc (Nat.le_refl _) _⟩
  · have h2 : 100 < nq := by omega
    have h2' : (100 : Int) < nq := by omega
    have h1' : ¬ (40 : Int) < n := by omega
    clear h
    go_enter Try.func3, Try.ntmps3
    go_wp2
    go_ret
    exact ⟨rfl, (Below.refl _ _).alloc (Nat.le_refl _) _⟩

set_option maxRecDepth 1000000 in
set_option maxHeartbeats 4000000 in
theorem ring_no (p sh tm : Int) (a ad aq : Option Addr) (cap nd capd nq capq : Nat) (ws : List Wk) (w : World) (h : Ar eW w a ws) (hz : ∀ x ∈ ws, x.word.size ≤ 9223372036854775807) (hp : -9223372036854775808 ≤ p ∧ p ≤ 9223372036854775807)
    (h1 : ws.length ≤ 40) (h2 : nq ≤ 100) (h3 : ¬ okSh p ws ∨ sh < 0 ∨ p ≤ sh) :
    Calls Try.prog 3 #[.agg #[.int .i64 p, .slice a ws.length cap], .int .i64 sh, .slice ad nd capd, .slice aq nq capq, .int .u8 tm] w fun e w' => e = .returned (.bool true) ∧ Grow w w' := by
  have hC := fun o => ref04_any p a cap ws (w.alloc o) (h.alloc o) (by omega) hz hp
  have HC := Lib.hid hC
  have h1' : ¬ (40 : Int) < ws.length := by omega
  have h2' : ¬ (100 : Int) < nq := by omega
  clear hC h hz hp h1 h2
  have G0 : ∀ o, Grow w (w.alloc o) := fun o => (Below.refl _ _).alloc (Nat.le_refl _) o
  have HG := Lib.hid G0
  clear G0
  by_cases hok : okSh p ws
  · have hsh : sh < 0 ∨ p ≤ sh := by
      rcases h3 with h | h
      · exact absurd hok h
      · exact h
    have HK := Lib.hid hok
    clear h3 hok
    by_cases hs0 : sh < 0
    · clear hsh
      go_enter Try.func3, Try.ntmps3
      go_wp2_with fail
      refine (HC.out _).mono ?_
      rintro e w1 ⟨⟨m, rfl, hm⟩, hg⟩
      obtain rfl := hm.2 HK.out
      have HG1 := Lib.hid ((HG.out _).trans (hg.mono (by simp)))
      clear hg hm
      go_wp2
      go_ret
      exact ⟨rfl, HG1.out⟩
    · have hs1 : p ≤ sh := by omega
      clear hsh
      go_enter Try.func3, Try.ntmps3
      go_wp2_with fail
      refine (HC.out _).mono ?_
      rintro e w1 ⟨⟨m, rfl, hm⟩, hg⟩
      obtain rfl := hm.2 HK.out
      have HG1 := Lib.hid ((HG.out _).trans (hg.mono (by simp)))
      have S1 := (Blk.new w #[.int .i64 p, .slice a ws.length cap] 24).grow hg
      have hs0' : w1.cell? ⟨w.heap.size, 0, none⟩ = some (.int .i64 p) := by rw [S1.cell]; rfl
      have hsl := S1.lt
      clear hg hm S1
      go_wp2
      go_ret
      exact ⟨rfl, HG1.out⟩
  · have HK := Lib.hid hok
    clear h3 hok
    go_enter Try.func3, Try.ntmps3
    go_wp2_with fail
    refine (HC.out _).mono ?_
    rintro e w1 ⟨⟨m, rfl, hm⟩, hg⟩
    have hm0 : m ≠ 0 := fun e => HK.out (hm.1 e)
    have HG1 := Lib.hid ((HG.out _).trans (hg.mono (by simp)))
    clear hg hm
    go_wp2
    go_ret
    exact ⟨rfl, HG1.out⟩
end Go.Proofs.Ytefdncpdlgakpaa
