import Derived.Test.YtefdncpdlgakpaaAA
namespace Go.Proofs.Ytefdncpdlgakpaa
open Go.RowKit

/-! Plain laws: what is sewn; colours on loops; the colours of a repeated sheet. -/
def Sewn (next xs : List Int) (T : Nat) : Prop := ∀ t, t < T → xs.getD t 0 = xs.getD (next.getD t 0).toNat 0

theorem run_get {T : Nat} (hT : T ≤ 48) {xs : List Int} (hx : xs.length = T) : ∀ (n : Nat) (al : List Nat), al.length = n → (∀ a ∈ al, a + 1 < T) → ∀ j, j < T → (runA xs al).getD j 0 = xs.getD ((runA id48 al).getD j 0).toNat 0 := by
  intro n
  induction n with
  | zero =>
    intro al h0 _ j hj
    have e : al = [] := List.eq_nil_of_length_eq_zero h0
    subst e
    show xs.getD j 0 = xs.getD (id48.getD j 0).toNat 0
    rw [id48_get j (by omega), Int.toNat_natCast]
  | succ n ih =>
    intro al hl h j hj
    have hne : al ≠ [] := by rintro rfl; simp at hl
    have e := List.dropLast_concat_getLast hne
    obtain ⟨b, hb⟩ : ∃ b, al.dropLast = b := ⟨_, rfl⟩
    obtain ⟨a, ha⟩ : ∃ a, al.getLast hne = a := ⟨_, rfl⟩
    rw [hb, ha] at e
    subst e
    have hbl : b.length = n := by simp at hl; exact hl
    have ha1 : a + 1 < T := h a (by simp)
    rw [runA_app, runA_app]
    show (swapL (runA xs b) a).getD j 0 = xs.getD ((swapL (runA id48 b) a).getD j 0).toNat 0
    rw [swapL_tr _ _ _ (by rw [runA_len]; omega), swapL_tr _ _ _ (by rw [runA_len]; simp [id48]; omega)]
    exact ih b hbl (fun c hc => h c (List.mem_append_left _ hc)) _ (tr_lt ha1 hj)

def prO (o : Op3) : Nat × Bool := (o.at_, o.neg)
def anW (x : Wk) : List (Nat × Bool) := (opsW 0 x).map prO
theorem anW_i (i : Int) (x : Wk) : (opsW i x).map prO = anW x := by
  unfold anW opsW
  rw [List.map_flatMap, List.map_flatMap]
  congr 1
  funext c
  unfold opsL
  split
  · rfl
  · simp [opN, prO, Function.comp_def]
theorem opsTo_pr (ws : List Wk) : ∀ k, k ≤ ws.length → (opsTo ws k).map prO = (ws.take k).flatMap anW := by
  intro k
  induction k with
  | zero => intro _; rfl
  | succ k ih =>
    intro hk
    have hx := List.getElem?_eq_getElem (l := ws) (i := k) (by omega)
    rw [opsTo, hx]
    simp only [List.map_append, ih (by omega), anW_i]
    rw [List.take_add_one, hx]
    show _ = List.flatMap anW (ws.take k ++ [ws[k]])
    rw [List.flatMap_append]
    simp only [List.flatMap_cons, List.flatMap_nil, List.append_nil]
def anL (ws : List Wk) : List (Nat × Bool) := ws.flatMap anW
def crM (ws : List Wk) : List Q4 := (mkTo id48 ws ws.length).cr
theorem crM_run {p : Int} {ws : List Wk} (hok : okSh p ws) : crM ws = runC id48 (opsTo ws ws.length) := (made_mkTo hok id48 ws.length).2
theorem ops_an (ws : List Wk) : (opsTo ws ws.length).map prO = anL ws := by rw [opsTo_pr ws _ (Nat.le_refl _), List.take_length]; rfl
theorem an_at (ws : List Wk) : (opsTo ws ws.length).map (·.at_) = (anL ws).map (·.1) := by rw [← ops_an, List.map_map]; rfl
theorem crM_len {p : Int} {ws : List Wk} (hok : okSh p ws) : (crM ws).length = (anL ws).length := by rw [crM_run hok, runC_len, ← ops_an, List.length_map]
theorem an_lt {p : Nat} {ws : List Wk} (hok : okSh p ws) : ∀ a ∈ (anL ws).map (·.1), a + 1 < 2 * p := by
  intro a ha
  rw [← an_at] at ha
  obtain ⟨o, ho, rfl⟩ := List.mem_map.1 ha
  have := (opsTo_at hok ws.length o ho).2
  omega
theorem lineAt_an {p : Int} {ws : List Wk} (hok : okSh p ws) (xs : List Int) : lineAt xs (crM ws) (crM ws).length = runA xs ((anL ws).map (·.1)) := by
  rw [crM_run hok, lineAt_runC, runC_len, List.take_length, runL_runA, an_at]
theorem endL_an {p : Int} {ws : List Wk} (hok : okSh p ws) : endL ws = runA id48 ((anL ws).map (·.1)) := by
  rw [← lineAt_all hok]
  exact lineAt_an hok id48
theorem line_get {p : Nat} {ws : List Wk} (hok : okSh p ws) {xs : List Int} (hx : xs.length = 2 * p) {j : Nat} (hj : j < 2 * p) : (lineAt xs (crM ws) (crM ws).length).getD j 0 = xs.getD ((endL ws).getD j 0).toNat 0 := by
  have hp := hok.2.1
  rw [lineAt_an hok, endL_an hok]
  exact run_get (T := 2 * p) (by omega) hx _ _ rfl (an_lt hok) j hj

theorem mod_two (p sh q i : Nat) (hi : i < 2) (hp : 0 < p) : (2 * q + i + 2 * sh) % (2 * p) = 2 * ((q + sh) % p) + i := by
  have h := Nat.div_add_mod (q + sh) p
  have hm := Nat.mod_lt (q + sh) hp
  have e : 2 * q + i + 2 * sh = (2 * ((q + sh) % p) + i) + 2 * p * ((q + sh) / p) := by
    have : 2 * p * ((q + sh) / p) = 2 * (p * ((q + sh) / p)) := Nat.mul_assoc _ _ _
    omega
  rw [e, Nat.add_mul_mod_self_left]
  exact Nat.mod_eq_of_lt (by omega)

theorem sewn_iff {p sh : Nat} {ws : List Wk} (hok : okSh p ws) {xs : List Int} (hx : xs.length = 2 * p) :
    (∀ q < p, ∀ i < 2, (lineAt xs (crM ws) (crM ws).length).getD (2 * q + i) 0 = xs.getD (2 * ((q + sh) % p) + i) 0) ↔ Sewn (nextOf p sh ws) xs (2 * p) := by
  obtain ⟨hpm, _⟩ := endL_pm hok
  have hp2 := hok.1
  have key : ∀ j, j < 2 * p → (2 * ((j / 2 + sh) % p) + j % 2 : Nat) = (j + 2 * sh) % (2 * p) := fun j hj => by
    have := mod_two p sh (j / 2) (j % 2) (by omega) (by omega)
    rw [← this]
    congr 1
    omega
  constructor
  · intro h t ht
    obtain ⟨j, hj, e⟩ := hpm.sur t ht
    have h1 := h (j / 2) (by omega) (j % 2) (by omega)
    rw [show 2 * (j / 2) + j % 2 = j by omega, line_get hok hx hj, e, Int.toNat_natCast, key j hj] at h1
    have h2 := nextOf_spec (sh := sh) hok hj
    rw [e, Int.toNat_natCast] at h2
    rw [h2, Int.toNat_natCast]
    exact h1
  · intro h q hq i hi
    have hj : 2 * q + i < 2 * p := by omega
    rw [line_get hok hx hj]
    have h2 := nextOf_spec (sh := sh) hok hj
    have hr := hpm.rng _ hj
    have h3 := h ((endL ws).getD (2 * q + i) 0).toNat (by omega)
    rw [h2, Int.toNat_natCast, mod_two p sh q i hi (by omega)] at h3
    exact h3

theorem nextOf_inj {p sh : Nat} {ws : List Wk} (hok : okSh p ws) (hsh : sh < p) : ∀ i j, i < 2 * p → j < 2 * p → (nextOf p sh ws).getD i 0 = (nextOf p sh ws).getD j 0 → i = j := by
  obtain ⟨hpm, _⟩ := endL_pm hok
  intro i j hi hj e
  obtain ⟨a, ha, ea⟩ := hpm.sur i hi
  obtain ⟨b, hb, eb⟩ := hpm.sur j hj
  have h1 := nextOf_spec (sh := sh) hok ha
  have h2 := nextOf_spec (sh := sh) hok hb
  rw [ea, Int.toNat_natCast] at h1
  rw [eb, Int.toNat_natCast] at h2
  rw [h1, h2] at e
  have m : ∀ a, a < 2 * p → (a + 2 * sh) % (2 * p) = if a + 2 * sh < 2 * p then a + 2 * sh else a + 2 * sh - 2 * p := fun a ha => by
    split
    · exact Nat.mod_eq_of_lt (by assumption)
    · rw [Nat.mod_eq_sub_mod (by omega)]
      exact Nat.mod_eq_of_lt (by omega)
  have e' : (a + 2 * sh) % (2 * p) = (b + 2 * sh) % (2 * p) := by omega
  rw [m a ha, m b hb] at e'
  have hab : a = b := by split at e' <;> split at e' <;> omega
  subst hab
  rw [ea] at eb
  omega
theorem loopsOf_res {p sh : Nat} {ws : List Wk} (hok : okSh p ws) (hsh : sh < p) : Loops (nextOf p sh ws) (2 * p) (2 * p) (loopsTo (nextOf p sh ws) (2 * p)).1 (loopsOf p sh ws) := by
  have hp := hok.2.1
  exact loopsTo_res (by omega) (fun t ht => nextOf_rng hok t ht) (nextOf_inj hok hsh) (2 * p) (Nat.le_refl _)
theorem loopsOf_endL {p sh : Nat} {ws ws' : List Wk} (h : endL ws' = endL ws) : loopsOf p sh ws' = loopsOf p sh ws := by unfold loopsOf nextOf; rw [h]

/-! plain and one -/
def hd (raw l : List Int) : Int := raw.getD (l.getD 0 0).toNat 0
def plI (raw l : List Int) (b : Bool) (i : Nat) : Bool := (l.take i).foldl (fun b t => b && decide (raw.getD t.toNat 0 = hd raw l)) b
def plO (raw : List Int) (out : List (List Int)) (k : Nat) : Bool := (out.take k).foldl (fun b l => plI raw l b l.length) true
def onI (raw l o : List Int) (i : Nat) : List Int := (l.take i).foldl (fun o t => o.set t.toNat (hd raw l)) o
def onO (raw : List Int) (out : List (List Int)) (k : Nat) : List Int := (out.take k).foldl (fun o l => onI raw l o l.length) raw
theorem plI_succ {raw l : List Int} {b : Bool} {i : Nat} {t : Int} (h : l[i]? = some t) : plI raw l b (i + 1) = (plI raw l b i && decide (raw.getD t.toNat 0 = hd raw l)) := by
  unfold plI; rw [List.take_add_one, h, List.foldl_append]; rfl
theorem onI_succ {raw l o : List Int} {i : Nat} {t : Int} (h : l[i]? = some t) : onI raw l o (i + 1) = (onI raw l o i).set t.toNat (hd raw l) := by
  unfold onI; rw [List.take_add_one, h, List.foldl_append]; rfl
theorem plO_succ {raw : List Int} {out : List (List Int)} {k : Nat} {l : List Int} (h : out[k]? = some l) : plO raw out (k + 1) = plI raw l (plO raw out k) l.length := by
  unfold plO; rw [List.take_add_one, h, List.foldl_append]; rfl
theorem onO_succ {raw : List Int} {out : List (List Int)} {k : Nat} {l : List Int} (h : out[k]? = some l) : onO raw out (k + 1) = onI raw l (onO raw out k) l.length := by
  unfold onO; rw [List.take_add_one, h, List.foldl_append]; rfl
theorem onI_len (raw l o : List Int) (i : Nat) : (onI raw l o i).length = o.length := by
  unfold onI
  generalize l.take i = m
  induction m generalizing o with
  | nil => rfl
  | cons t m ih => simp only [List.foldl_cons]; rw [ih, List.length_set]
theorem onO_len (raw : List Int) (out : List (List Int)) (k : Nat) : (onO raw out k).length = raw.length := by
  unfold onO
  generalize out.take k = m
  suffices ∀ o : List Int, (m.foldl (fun o l => onI raw l o l.length) o).length = o.length from this raw
  induction m with
  | nil => intro o; rfl
  | cons l m ih => intro o; simp only [List.foldl_cons]; rw [ih, onI_len]

theorem foldl_and {α : Type} (f : α → Bool) (l : List α) (b : Bool) : l.foldl (fun b t => b && f t) b = true ↔ b = true ∧ ∀ t ∈ l, f t = true := by
  induction l generalizing b with
  | nil => simp
  | cons x l ih =>
    simp only [List.foldl_cons]
    rw [ih]
    simp [and_assoc]
theorem plO_iff (raw : List Int) (out : List (List Int)) : plO raw out out.length = true ↔ ∀ l ∈ out, ∀ t ∈ l, raw.getD t.toNat 0 = hd raw l := by
  unfold plO
  rw [List.take_length]
  suffices ∀ b : Bool, out.foldl (fun b l => plI raw l b l.length) b = true ↔ b = true ∧ ∀ l ∈ out, ∀ t ∈ l, raw.getD t.toNat 0 = hd raw l by
    rw [this]; simp
  induction out with
  | nil => intro b; simp
  | cons l out ih =>
    intro b
    simp only [List.foldl_cons]
    rw [ih]
    unfold plI
    rw [List.take_length, foldl_and]
    simp [and_assoc]

theorem plO_sewn {next : List Int} {T : Nat} {seen : List Bool} {out : List (List Int)} (h : Loops next T T seen out) (hT : T ≤ 48) (raw : List Int) : plO raw out out.length = true ↔ Sewn next raw T := by
  rw [plO_iff]
  constructor
  · intro hp t ht
    obtain ⟨l, hl, hm⟩ := (h.iff t (by omega)).1 (h.cov t ht)
    have h1 := hp l hl _ hm
    have h2 := hp l hl _ (h.closed l hl _ hm)
    unfold nx at h2
    rw [Int.toNat_natCast] at h1 h2
    rw [h1, h2]
  · intro hs l hl t htl
    have hi : ∀ i, i < l.length → raw.getD (l.getD i 0).toNat 0 = hd raw l := by
      intro i
      induction i with
      | zero => intro _; rfl
      | succ i ih =>
        intro hi
        have hx := (h.rng l hl).2 _ (getD_mem (l := l) (i := i) (by omega))
        rw [h.link l hl i hi]
        unfold nx
        rw [← hs (l.getD i 0).toNat (by omega)]
        exact ih (by omega)
    obtain ⟨i, hil, e⟩ := mem_getD htl
    rw [← e]
    exact hi i hil

theorem onI_get {raw l : List Int} {o : List Int} {j : Nat} (hj : j < o.length) (h0 : ∀ x ∈ l, 0 ≤ x) : (onI raw l o l.length).getD j 0 = if (j : Int) ∈ l then hd raw l else o.getD j 0 := by
  unfold onI
  rw [List.take_length]
  generalize hd raw l = v
  induction l generalizing o with
  | nil => simp
  | cons x l ih =>
    simp only [List.foldl_cons]
    rw [ih (by rw [List.length_set]; exact hj) (fun y hy => h0 y (List.mem_cons_of_mem _ hy))]
    have hx := h0 x List.mem_cons_self
    by_cases hm : (j : Int) ∈ l
    · rw [if_pos hm, if_pos (List.mem_cons_of_mem _ hm)]
    · rw [if_neg hm]
      by_cases e : (j : Int) = x
      · rw [if_pos (by rw [e]; exact List.mem_cons_self)]
        rw [getD_set _ _ _ _ (by omega), if_pos (by omega)]
      · rw [if_neg (by simp only [List.mem_cons, not_or]; exact ⟨e, hm⟩)]
        simp only [List.getD_eq_getElem?_getD]
        rw [List.getElem?_set_ne (by omega)]

theorem onO_get {raw : List Int} : ∀ (out : List (List Int)), out.Pairwise (fun l l' => ∀ x ∈ l, x ∉ l') → (∀ l ∈ out, ∀ x ∈ l, 0 ≤ x) → ∀ (o : List Int) (l : List Int) (j : Nat), j < o.length → l ∈ out → (j : Int) ∈ l →
    (out.foldl (fun o l => onI raw l o l.length) o).getD j 0 = hd raw l := by
  intro out
  induction out with
  | nil => intro _ _ o l j _ hl; simp at hl
  | cons m out ih =>
    intro hp h0 o l j hj hl hjl
    obtain ⟨hm, hp'⟩ := List.pairwise_cons.1 hp
    have h0' : ∀ l ∈ out, ∀ x ∈ l, 0 ≤ x := fun l hl => h0 l (List.mem_cons_of_mem _ hl)
    simp only [List.foldl_cons]
    rcases List.mem_cons.1 hl with rfl | hl'
    · have stay : ∀ (out' : List (List Int)) (o' : List Int), (∀ l' ∈ out', (j : Int) ∉ l') → (∀ l ∈ out', ∀ x ∈ l, 0 ≤ x) → j < o'.length → (out'.foldl (fun o l => onI raw l o l.length) o').getD j 0 = o'.getD j 0 := by
        intro out'
        induction out' with
        | nil => intro o' _ _ _; rfl
        | cons n out' ih' =>
          intro o' hn h0n hjo
          simp only [List.foldl_cons]
          rw [ih' _ (fun l' h' => hn l' (List.mem_cons_of_mem _ h')) (fun l' h' => h0n l' (List.mem_cons_of_mem _ h')) (by rw [onI_len]; exact hjo)]
          rw [onI_get hjo (h0n n List.mem_cons_self), if_neg (hn n List.mem_cons_self)]
      rw [stay out _ (fun l' h' => hm l' h' _ hjl) h0' (by rw [onI_len]; exact hj)]
      rw [onI_get hj (h0 l List.mem_cons_self), if_pos hjl]
    · exact ih hp' h0' _ l j (by rw [onI_len]; exact hj) hl' hjl

theorem one_sewn {next : List Int} {T : Nat} {seen : List Bool} {out : List (List Int)} (h : Loops next T T seen out) (hT : T ≤ 48) {raw : List Int} (hr : raw.length = T) (hn : ∀ t, t < T → 0 ≤ next.getD t 0 ∧ next.getD t 0 < T) : Sewn next (onO raw out out.length) T := by
  intro t ht
  obtain ⟨l, hl, hm⟩ := (h.iff t (by omega)).1 (h.cov t ht)
  have h2 := h.closed l hl _ hm
  unfold nx at h2
  rw [Int.toNat_natCast] at h2
  have hnt := hn t ht
  unfold onO
  rw [List.take_length]
  have h0 : ∀ l ∈ out, ∀ x ∈ l, 0 ≤ x := fun l hl x hx => ((h.rng l hl).2 x hx).1
  rw [onO_get out h.disj h0 raw l t (by omega) hl hm, onO_get out h.disj h0 raw l (next.getD t 0).toNat (by omega) hl (by rw [show (((next.getD t 0).toNat : Nat) : Int) = next.getD t 0 by omega]; exact h2)]
theorem one_rng {raw : List Int} (out : List (List Int)) (hr : ∀ x ∈ raw, 0 ≤ x ∧ x < 16) (k : Nat) : ∀ x ∈ onO raw out k, 0 ≤ x ∧ x < 16 := by
  have hh : ∀ l, 0 ≤ hd raw l ∧ hd raw l < 16 := fun l => by
    unfold hd
    rw [List.getD_eq_getElem?_getD]
    cases e : raw[(l.getD 0 0).toNat]? with
    | none => simp
    | some v => exact hr v (List.mem_of_getElem? e)
  have hi : ∀ (l m : List Int) (o : List Int), (∀ x ∈ o, 0 ≤ x ∧ x < 16) → ∀ x ∈ m.foldl (fun o t => o.set t.toNat (hd raw l)) o, 0 ≤ x ∧ x < 16 := by
    intro l m
    induction m with
    | nil => intro o ho; exact ho
    | cons t m ih =>
      intro o ho
      simp only [List.foldl_cons]
      refine ih _ (fun x hx => ?_)
      rcases List.mem_or_eq_of_mem_set hx with h | h
      · exact ho x h
      · exact h ▸ hh l
  unfold onO
  generalize out.take k = m
  suffices ∀ o : List Int, (∀ x ∈ o, 0 ≤ x ∧ x < 16) → ∀ x ∈ m.foldl (fun o l => onI raw l o l.length) o, 0 ≤ x ∧ x < 16 from this raw hr
  induction m with
  | nil => intro o ho; exact ho
  | cons l m ih =>
    intro o ho
    simp only [List.foldl_cons]
    refine ih _ ?_
    unfold onI
    exact hi l _ o ho

/-! the colours of a sheet that is repeated -/
def colP (back : Bool) : List Int → List (Nat × Bool) → List Int
  | _, [] => []
  | y, a :: r => selV back (if a.2 then y.getD (a.1 + 1) 0 else y.getD a.1 0) (if a.2 then y.getD a.1 0 else y.getD (a.1 + 1) 0) :: colP back (swapL y a.1) r
theorem colP_app (back : Bool) (A B : List (Nat × Bool)) : ∀ y, colP back y (A ++ B) = colP back y A ++ colP back (runA y (A.map (·.1))) B := by
  induction A with
  | nil => intro y; rfl
  | cons a A ih => intro y; simp only [List.cons_append, colP, ih]; rfl
theorem seen_colP {T : Nat} (back : Bool) (xs : List Int) (ops : List Op3) : ∀ (l y : List Int), (∀ o ∈ ops, o.at_ + 1 < T) → T ≤ l.length → y.length = T → (∀ j, j < T → y.getD j 0 = xs.getD (l.getD j 0).toNat 0) →
    seenL back xs (runC l ops) = colP back y (ops.map prO) := by
  induction ops with
  | nil => intro l y _ _ _ _; rfl
  | cons o ops ih =>
    intro l y ho hl hy h
    have h1 := ho o List.mem_cons_self
    have e0 := h o.at_ (by omega)
    have e1 := h (o.at_ + 1) h1
    have hrec := ih (swapL l o.at_) (swapL y o.at_) (fun o' ho' => ho o' (List.mem_cons_of_mem _ ho')) (by rw [swapL_len]; exact hl) (by rw [swapL_len]; exact hy) (fun j hj => by
      rw [swapL_tr _ _ _ (by omega), swapL_tr _ _ _ (by omega)]
      exact h _ (tr_lt h1 hj))
    show selV back (xs.getD (crO l o).c.toNat 0) (xs.getD (crO l o).d.toNat 0) :: seenL back xs (runC (swapL l o.at_) ops) = _
    rw [hrec]
    show _ = selV back (if o.neg then y.getD (o.at_ + 1) 0 else y.getD o.at_ 0) (if o.neg then y.getD o.at_ 0 else y.getD (o.at_ + 1) 0) :: colP back (swapL y o.at_) (ops.map prO)
    rw [e0, e1]
    unfold crO
    cases o.neg <;> rfl
theorem seen_an {p : Nat} {ws : List Wk} (hok : okSh p ws) (back : Bool) {xs : List Int} (hx : xs.length = 2 * p) : seenL back xs (crM ws) = colP back xs (anL ws) := by
  have hp := hok.2.1
  rw [crM_run hok, ← ops_an]
  refine seen_colP (T := 2 * p) back xs _ _ _ (fun o ho => ?_) (by simp [id48]; omega) hx (fun j hj => ?_)
  · have := (opsTo_at hok ws.length o ho).2
    omega
  · rw [id48_get j (by omega), Int.toNat_natCast]

theorem okSh_rep {p : Int} {ws : List Wk} (hok : okSh p ws) (n : Nat) (hl : ws.length * n ≤ 400) : okSh p (repC n ws) := by
  refine ⟨hok.1, hok.2.1, by rw [repC_len, Nat.mul_comm]; exact hl, fun x hx => hok.2.2.2 x ?_⟩
  unfold repC at hx
  obtain ⟨l, h1, h2⟩ := List.mem_flatten.1 hx
  rw [List.eq_of_mem_replicate h1] at h2
  exact h2
theorem anL_rep (n : Nat) (ws : List Wk) : anL (repC n ws) = repC n (anL ws) := repC_flatMap anW n ws
theorem runA_rep {xs : List Int} {al : List Nat} (h : runA xs al = xs) (n : Nat) : runA xs (repC n al) = xs := by
  induction n with
  | zero => rfl
  | succ n ih => rw [repC_succ, runA_app, h, ih]
theorem map_rep {α β : Type} (f : α → β) (n : Nat) (l : List α) : (repC n l).map f = repC n (l.map f) := by
  induction n with
  | zero => rfl
  | succ n ih => rw [repC_succ, repC_succ, List.map_append, ih]
theorem colP_rep {back : Bool} {xs : List Int} {A : List (Nat × Bool)} (h : runA xs (A.map (·.1)) = xs) (n : Nat) : colP back xs (repC n A) = repC n (colP back xs A) := by
  induction n with
  | zero => rfl
  | succ n ih => rw [repC_succ, repC_succ, colP_app, h, ih]

theorem ring_line {p : Nat} {ws : List Wk} (hok : okSh p ws) {xs : List Int} (hx : xs.length = 2 * p) (h : Sewn (nextOf p 0 ws) xs (2 * p)) : runA xs ((anL ws).map (·.1)) = xs := by
  apply list_ext0
  · rw [runA_len]
  · intro j hj
    rw [runA_len, hx] at hj
    rw [← lineAt_an hok, line_get hok hx hj]
    obtain ⟨hpm, _⟩ := endL_pm hok
    have hr := hpm.rng j hj
    have h2 := nextOf_spec (sh := 0) hok hj
    rw [h _ (by omega : ((endL ws).getD j 0).toNat < 2 * p), h2, Int.toNat_natCast]
    congr 1
    exact Nat.mod_eq_of_lt hj
theorem ring_seen {p : Nat} {ws : List Wk} (hok : okSh p ws) {xs : List Int} (hx : xs.length = 2 * p) (h : Sewn (nextOf p 0 ws) xs (2 * p)) (back : Bool) (n : Nat) (hl : ws.length * n ≤ 400) :
    seenL back xs (crM (repC n ws)) = repC n (seenL back xs (crM ws)) := by
  rw [seen_an (okSh_rep hok n hl) back hx, seen_an hok back hx, anL_rep, colP_rep (ring_line hok hx h)]
theorem ring_end {p : Nat} {ws : List Wk} (hok : okSh p ws) {xs : List Int} (hx : xs.length = 2 * p) (h : Sewn (nextOf p 0 ws) xs (2 * p)) (n : Nat) (hl : ws.length * n ≤ 400) :
    lineAt xs (crM (repC n ws)) (crM (repC n ws)).length = xs := by
  rw [lineAt_an (okSh_rep hok n hl), anL_rep, map_rep, runA_rep (ring_line hok hx h)]
theorem crM_rep {p : Int} {ws : List Wk} (hok : okSh p ws) (n : Nat) (hl : ws.length * n ≤ 400) : (crM (repC n ws)).length = n * (crM ws).length := by
  rw [crM_len (okSh_rep hok n hl), anL_rep, repC_len, crM_len hok]
end Go.Proofs.Ytefdncpdlgakpaa
