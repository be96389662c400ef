import Derived.Test.YtefdncpdlgakpaaW
namespace Go.Proofs.Ytefdncpdlgakpaa
open Go.RowKit

/-! Plain laws: the ends of a sheet's threads, by the places of its exchanges; works that do not touch may be exchanged. -/
def runA (l : List Int) (al : List Nat) : List Int := al.foldl swapL l
def atsW (x : Wk) : List Nat := (opsW 0 x).map (·.at_)
theorem atsW_i (i : Int) (x : Wk) : (opsW i x).map (·.at_) = atsW x := by
  unfold atsW opsW
  rw [List.map_flatMap, List.map_flatMap]
  congr 1
  funext c
  unfold opsL
  split
  · rfl
  · simp [opN, Function.comp_def]
theorem runA_app (l : List Int) (a b : List Nat) : runA l (a ++ b) = runA (runA l a) b := by simp [runA]
theorem runL_runA (ops : List Op3) (l : List Int) : runL l ops = runA l (ops.map (·.at_)) := by simp [runL, runA, List.foldl_map]
theorem runA_len (al : List Nat) : ∀ l : List Int, (runA l al).length = l.length := by
  induction al with
  | nil => exact fun _ => rfl
  | cons a al ih => intro l; show (runA (swapL l a) al).length = _; rw [ih, swapL_len]
theorem opsTo_ats (ws : List Wk) : ∀ k, k ≤ ws.length → (opsTo ws k).map (·.at_) = (ws.take k).flatMap atsW := by
  intro k
  induction k with
  | zero => intro _; rfl
  | succ k ih =>
    intro hk
    have hx := List.getElem?_eq_getElem (l := ws) (i := k) (by omega)
    rw [opsTo, hx]
    simp only [List.map_append, ih (by omega), atsW_i]
    rw [List.take_add_one, hx]
    show _ = List.flatMap atsW (ws.take k ++ [ws[k]])
    rw [List.flatMap_append]
    simp only [List.flatMap_cons, List.flatMap_nil, List.append_nil]
theorem endL_runA {p : Int} {ws : List Wk} (hok : okSh p ws) : endL ws = runA id48 (ws.flatMap atsW) := by
  have h := (made_mkTo hok id48 ws.length).1
  unfold endL
  rw [h, runL_runA, opsTo_ats ws _ (Nat.le_refl _), List.take_length]
theorem list_ext0 {l l' : List Int} (hl : l.length = l'.length) (h : ∀ j, j < l.length → l.getD j 0 = l'.getD j 0) : l = l' := by
  apply List.ext_getElem hl
  intro j h1 h2
  have := h j h1
  rw [List.getD_eq_getElem?_getD, List.getD_eq_getElem?_getD, List.getElem?_eq_getElem h1, List.getElem?_eq_getElem h2] at this
  exact this
theorem swapL_comm {l : List Int} {m n : Nat} (hm : m + 1 < l.length) (hn : n + 1 < l.length) (h : m + 2 ≤ n ∨ n + 2 ≤ m) : swapL (swapL l m) n = swapL (swapL l n) m := by
  apply list_ext0
  · simp [swapL_len]
  · intro j hj
    rw [swapL_tr _ n _ (by rw [swapL_len]; omega), swapL_tr _ m _ (by omega), swapL_tr _ m _ (by rw [swapL_len]; omega), swapL_tr _ n _ (by omega)]
    congr 1
    unfold tr
    repeat' split
    all_goals omega
theorem runA_swap {m : Nat} (al : List Nat) : ∀ {l : List Int}, m + 1 < l.length → (∀ a ∈ al, a + 1 < l.length ∧ (m + 2 ≤ a ∨ a + 2 ≤ m)) → runA (swapL l m) al = swapL (runA l al) m := by
  induction al with
  | nil => intro l _ _; rfl
  | cons a al ih =>
    intro l hm h
    obtain ⟨h1, h2⟩ := h a List.mem_cons_self
    show runA (swapL (swapL l m) a) al = swapL (runA (swapL l a) al) m
    rw [swapL_comm hm h1 h2]
    exact ih (by rw [swapL_len]; exact hm) (fun b hb => by rw [swapL_len]; exact h b (List.mem_cons_of_mem _ hb))
theorem runA_comm (bs : List Nat) (al : List Nat) : ∀ {l : List Int}, (∀ b ∈ bs, b + 1 < l.length) → (∀ a ∈ al, a + 1 < l.length) → (∀ a ∈ al, ∀ b ∈ bs, b + 2 ≤ a ∨ a + 2 ≤ b) → runA (runA l al) bs = runA (runA l bs) al := by
  induction bs with
  | nil => intro l _ _ _; rfl
  | cons b bs ih =>
    intro l hb ha h
    show runA (swapL (runA l al) b) bs = runA (runA (swapL l b) bs) al
    rw [← runA_swap al (hb b List.mem_cons_self) (fun a h1 => ⟨ha a h1, h a h1 b List.mem_cons_self⟩)]
    exact ih (fun c hc => by rw [swapL_len]; exact hb c (List.mem_cons_of_mem _ hc)) (fun a h1 => by rw [swapL_len]; exact ha a h1) (fun a h1 c hc => h a h1 c (List.mem_cons_of_mem _ hc))
theorem atsW_rng {p : Int} {x : Wk} (hok : okSh p [x]) : ∀ a ∈ atsW x, 2 * x.pos ≤ a ∧ (a : Int) ≤ 2 * x.pos + 2 := by
  intro a ha
  unfold atsW at ha
  obtain ⟨o, ho, rfl⟩ := List.mem_map.1 ha
  have := opsW_at hok (x := x) (by simp) 0 o ho
  exact this.2

theorem swap_split {α : Type} {x y : α} : ∀ {l : List α} {q : Nat}, l[q]? = some x → l[q + 1]? = some y → l = l.take q ++ x :: y :: l.drop (q + 2) ∧ (l.set q y).set (q + 1) x = l.take q ++ y :: x :: l.drop (q + 2)
  | [], q, hx, _ => by simp at hx
  | [z], q, _, hy => by simp at hy
  | z :: z' :: l, 0, hx, hy => by
    simp at hx hy
    subst hx hy
    exact ⟨rfl, rfl⟩
  | z :: z' :: l, q + 1, hx, hy => by
    obtain ⟨h1, h2⟩ := swap_split (l := z' :: l) (q := q) (by simpa using hx) (by simpa using hy)
    constructor
    · conv => lhs; rw [h1]
      rfl
    · have : ((z :: z' :: l).set (q + 1) y).set (q + 1 + 1) x = z :: (((z' :: l).set q y).set (q + 1) x) := rfl
      rw [this, h2]
      rfl

/-- two neighbouring works that do not touch, exchanged -/
theorem shuf_swap {p : Int} {ws : List Wk} (hok : okSh p ws) {q : Nat} {x y : Wk} (hx : ws[q]? = some x) (hy : ws[q + 1]? = some y) (hfar : ¬ (x.pos - y.pos ≤ 1 ∧ y.pos - x.pos ≤ 1)) :
    okSh p ((ws.set q y).set (q + 1) x) ∧ endL ((ws.set q y).set (q + 1) x) = endL ws := by
  obtain ⟨e1, e2⟩ := swap_split hx hy
  have h2 := hok.1
  have h24 := hok.2.1
  have hmem := hok.2.2.2
  have hok' : okSh p ((ws.set q y).set (q + 1) x) := by
    refine ⟨h2, h24, by simp only [List.length_set]; exact hok.2.2.1, fun z hz => ?_⟩
    rw [e2] at hz
    refine hmem z ?_
    rw [e1]
    simp only [List.mem_append, List.mem_cons] at hz ⊢
    rcases hz with h | h | h | h
    · exact .inl h
    · exact .inr (.inr (.inl h))
    · exact .inr (.inl h)
    · exact .inr (.inr (.inr h))
  refine ⟨hok', ?_⟩
  rw [endL_runA hok, endL_runA hok', e2]
  conv => rhs; rw [e1]
  have one : ∀ z ∈ ws, okSh p [z] := fun z hz => ⟨h2, h24, by simp, fun u hu => by simp at hu; exact hu ▸ hmem z hz⟩
  have hxm := List.mem_of_getElem? hx
  have hym := List.mem_of_getElem? hy
  have ax := atsW_rng (one x hxm)
  have ay := atsW_rng (one y hym)
  have px := hmem x hxm
  have py := hmem y hym
  have px1 := px.2.1
  have px2 := px.2.2.1
  have py1 := py.2.1
  have py2 := py.2.2.1
  simp only [List.flatMap_append, List.flatMap_cons, runA_app]
  have hl : (runA id48 ((ws.take q).flatMap atsW)).length = 48 := by rw [runA_len]; rfl
  rw [runA_comm (atsW y) (atsW x)]
  · intro b hb; rw [hl]; have := ay b hb; omega
  · intro b hb; rw [hl]; have := ax b hb; omega
  · intro c hc b hb
    have := ax c hc
    have := ay b hb
    omega

theorem flat_set (ws : List Wk) : ∀ (q : Nat) (y : Wk), q < ws.length → (((ws.flatMap eW.c).set (q * 3) (.int .i64 y.kind)).set (q * 3 + 1) (.int .i64 y.pos)).set (q * 3 + 2) (.string y.word) = (ws.set q y).flatMap eW.c := by
  induction ws with
  | nil => intro q y h; simp at h
  | cons x ws ih =>
    intro q y h
    cases q with
    | zero => rfl
    | succ q =>
      have := ih q y (by simpa using h)
      have e1 : (q + 1) * 3 = q * 3 + 3 := by omega
      simp only [List.flatMap_cons, List.set_cons_succ, e1]
      rw [← this]
      rfl
end Go.Proofs.Ytefdncpdlgakpaa
