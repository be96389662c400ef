import Derived.Test.YtefdncpdlgakpaaC
import Derived.Test.YtefdncpdlgakpaaD
namespace Go.Proofs.Ytefdncpdlgakpaa

/-! What the program reckons, in plain Lean. -/

/-- the threads in their places, the crossings, the pins -/
structure Cl where
  line : List Int
  cr : List Q4
  pins : List Q4

def swapL (l : List Int) (n : Nat) : List Int := (l.set n (l.getD (n + 1) 0)).set (n + 1) (l.getD n 0)
def stC (i mid : Int) (st : Cl) (n : Int) : Cl :=
  { line := swapL st.line (mid - 2 + max n (-n)).toNat
    cr := st.cr ++ [⟨i, mid - 2 + max n (-n), if n < 0 then st.line.getD ((mid - 2 + max n (-n)).toNat + 1) 0 else st.line.getD (mid - 2 + max n (-n)).toNat 0, if n < 0 then st.line.getD (mid - 2 + max n (-n)).toNat 0 else st.line.getD ((mid - 2 + max n (-n)).toNat + 1) 0⟩]
    pins := st.pins }
def pinC (i mid : Int) (st : Cl) : Cl := { st with pins := st.pins ++ [⟨i, mid, st.line.getD mid.toNat 0, st.line.getD (mid.toNat + 1) 0⟩] }
/-- a letter of the word of work i -/
def stL (i mid : Int) (st : Cl) (c : UInt8) : Cl := if c = 80 then pinC i mid st else (cr3 (tw c) 3).foldl (stC i mid) st
def stK (i mid kind : Int) (st : Cl) : Cl := if kind = 2 then pinC i mid st else st
/-- a work -/
def stW (i : Int) (x : Wk) (st : Cl) : Cl := x.word.data.toList.foldl (stL i (2 * x.pos + 1)) (stK i (2 * x.pos + 1) x.kind st)
/-- the first k works -/
def mkTo (l0 : List Int) (ws : List Wk) : Nat → Cl
  | 0 => ⟨l0, [], []⟩
  | k + 1 => match ws[k]? with
    | some x => stW k x (mkTo l0 ws k)
    | none => mkTo l0 ws k

theorem stC_cr (i mid : Int) (st : Cl) (n : Int) : (stC i mid st n).cr.length = st.cr.length + 1 := by simp [stC]
theorem stC_pins (i mid : Int) (st : Cl) (n : Int) : (stC i mid st n).pins = st.pins := rfl
theorem swapL_len (l : List Int) (n : Nat) : (swapL l n).length = l.length := by simp [swapL]
theorem stC_len (i mid : Int) (st : Cl) (n : Int) : (stC i mid st n).line.length = st.line.length := by simp [stC, swapL]
theorem foldC_len (i mid : Int) (L : List Int) : ∀ st : Cl, (L.foldl (stC i mid) st).line.length = st.line.length ∧ (L.foldl (stC i mid) st).cr.length = st.cr.length + L.length ∧ (L.foldl (stC i mid) st).pins = st.pins := by
  induction L with
  | nil => exact fun st => ⟨rfl, rfl, rfl⟩
  | cons n L ih =>
    intro st
    obtain ⟨h1, h2, h3⟩ := ih (stC i mid st n)
    refine ⟨?_, ?_, ?_⟩
    · rw [List.foldl_cons, h1, stC_len]
    · rw [List.foldl_cons, h2, stC_cr]; simp; omega
    · rw [List.foldl_cons, h3, stC_pins]
theorem stL_len (i mid : Int) (st : Cl) (c : UInt8) : (stL i mid st c).line.length = st.line.length ∧ (stL i mid st c).cr.length ≤ st.cr.length + 3 ∧ (stL i mid st c).pins.length ≤ st.pins.length + 1 := by
  unfold stL
  split
  · simp [pinC]
  · obtain ⟨h1, h2, h3⟩ := foldC_len i mid (cr3 (tw c) 3) st
    have := cr3_len (tw c) 3
    exact ⟨h1, by omega, by rw [h3]; omega⟩
theorem foldL_len (i mid : Int) (L : List UInt8) : ∀ st : Cl, (L.foldl (stL i mid) st).line.length = st.line.length ∧ (L.foldl (stL i mid) st).cr.length ≤ st.cr.length + 3 * L.length ∧ (L.foldl (stL i mid) st).pins.length ≤ st.pins.length + L.length := by
  induction L with
  | nil => exact fun st => ⟨rfl, by simp, by simp⟩
  | cons c L ih =>
    intro st
    obtain ⟨h1, h2, h3⟩ := ih (stL i mid st c)
    obtain ⟨g1, g2, g3⟩ := stL_len i mid st c
    refine ⟨?_, ?_, ?_⟩
    · rw [List.foldl_cons, h1, g1]
    · rw [List.foldl_cons, List.length_cons]; omega
    · rw [List.foldl_cons, List.length_cons]; omega
theorem stW_len (i : Int) (x : Wk) (st : Cl) (hx : x.word.data.toList.length ≤ 16) : (stW i x st).line.length = st.line.length ∧ (stW i x st).cr.length ≤ st.cr.length + 48 ∧ (stW i x st).pins.length ≤ st.pins.length + 17 := by
  unfold stW
  obtain ⟨h1, h2, h3⟩ := foldL_len i (2 * x.pos + 1) x.word.data.toList (stK i (2 * x.pos + 1) x.kind st)
  have k1 : (stK i (2 * x.pos + 1) x.kind st).line = st.line := by unfold stK; split <;> rfl
  have k2 : (stK i (2 * x.pos + 1) x.kind st).cr = st.cr := by unfold stK; split <;> rfl
  have k3 : (stK i (2 * x.pos + 1) x.kind st).pins.length ≤ st.pins.length + 1 := by unfold stK; split <;> simp [pinC]
  rw [k1] at h1
  rw [k2] at h2
  exact ⟨h1, by omega, by omega⟩
theorem mkTo_some (l0 : List Int) {ws : List Wk} {k : Nat} {x : Wk} (hx : ws[k]? = some x) : mkTo l0 ws (k + 1) = stW k x (mkTo l0 ws k) := by simp [mkTo, hx]
theorem mkTo_none (l0 : List Int) {ws : List Wk} {k : Nat} (hx : ws[k]? = none) : mkTo l0 ws (k + 1) = mkTo l0 ws k := by simp [mkTo, hx]
theorem mkTo_len {p : Int} {ws : List Wk} (hok : okSh p ws) (l0 : List Int) : ∀ k, (mkTo l0 ws k).line.length = l0.length ∧ (mkTo l0 ws k).cr.length ≤ 48 * k ∧ (mkTo l0 ws k).pins.length ≤ 17 * k := by
  intro k
  induction k with
  | zero => exact ⟨rfl, Nat.le_refl _, Nat.le_refl _⟩
  | succ k ih =>
    cases hx : ws[k]? with
    | none => rw [mkTo_none l0 hx]; exact ⟨ih.1, by omega, by omega⟩
    | some x =>
      rw [mkTo_some l0 hx]
      obtain ⟨h1, h2, h3⟩ := stW_len k x (mkTo l0 ws k) (hok.2.2.2 x (List.mem_of_getElem? hx)).2.2.2.1
      exact ⟨h1.trans ih.1, by omega, by omega⟩
theorem cr3_mem (c : UInt8) : ∀ n ∈ cr3 (tw c) 3, n ≠ 0 ∧ -3 ≤ n ∧ n ≤ 3 := by
  have h := tw_bd c
  intro n hn
  simp only [cr3, List.mem_append] at hn
  rcases hn with (hn | hn) | hn
  all_goals
    split at hn
    · rename_i h1
      simp only [List.mem_singleton] at hn
      subst hn
      omega
    · cases hn

end Go.Proofs.Ytefdncpdlgakpaa
