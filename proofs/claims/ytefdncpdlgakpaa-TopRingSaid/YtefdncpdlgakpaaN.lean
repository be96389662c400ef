import Derived.Test.YtefdncpdlgakpaaK
namespace Go.Proofs.Ytefdncpdlgakpaa

/-! What cloth.Make reckons, as a list of exchanges. -/

/-- the first T places hold the threads 0 .. T - 1 -/
structure Pm (T : Nat) (l : List Int) : Prop where
  len : T ≤ l.length
  rng : ∀ j, j < T → 0 ≤ l.getD j 0 ∧ l.getD j 0 < T
  inj : ∀ i j, i < T → j < T → l.getD i 0 = l.getD j 0 → i = j
  sur : ∀ t : Nat, t < T → ∃ j, j < T ∧ l.getD j 0 = t

theorem getD_set (l : List Int) (n j : Nat) (x : Int) (hn : n < l.length) : (l.set n x).getD j 0 = if j = n then x else l.getD j 0 := by
  simp only [List.getD_eq_getElem?_getD, List.getElem?_set]
  by_cases e : n = j
  · subst e; simp [hn]
  · rw [if_neg e, if_neg (fun e' => e e'.symm)]

theorem swapL_get (l : List Int) (n j : Nat) (hn : n + 1 < l.length) : (swapL l n).getD j 0 = if j = n then l.getD (n + 1) 0 else if j = n + 1 then l.getD n 0 else l.getD j 0 := by
  unfold swapL
  rw [getD_set _ _ _ _ (by simp; omega), getD_set _ _ _ _ (by omega)]
  by_cases h1 : j = n
  · subst h1; simp
  · simp [h1]

/-- where place j's thread comes from -/
def tr (n j : Nat) : Nat := if j = n then n + 1 else if j = n + 1 then n else j
theorem tr_tr (n j : Nat) : tr n (tr n j) = j := by unfold tr; split <;> (try split) <;> (try split) <;> omega
theorem tr_lt {n j T : Nat} (hn : n + 1 < T) (hj : j < T) : tr n j < T := by unfold tr; split <;> (try split) <;> omega
theorem swapL_tr (l : List Int) (n j : Nat) (hn : n + 1 < l.length) : (swapL l n).getD j 0 = l.getD (tr n j) 0 := by
  rw [swapL_get l n j hn]
  unfold tr
  split <;> (try split) <;> rfl

theorem Pm.swap {T : Nat} {l : List Int} (h : Pm T l) {n : Nat} (hn : n + 1 < T) : Pm T (swapL l n) := by
  have hl := h.len
  refine ⟨by rw [swapL_len]; exact h.len, fun j hj => ?_, fun i j hi hj e => ?_, fun t ht => ?_⟩
  · rw [swapL_tr _ _ _ (by omega)]
    exact h.rng _ (tr_lt hn hj)
  · rw [swapL_tr _ _ _ (by omega), swapL_tr _ _ _ (by omega)] at e
    have := h.inj _ _ (tr_lt hn hi) (tr_lt hn hj) e
    rw [← tr_tr n i, this, tr_tr]
  · obtain ⟨j, hj, e⟩ := h.sur t ht
    exact ⟨tr n j, tr_lt hn hj, by rw [swapL_tr _ _ _ (by omega), tr_tr, e]⟩

theorem id48_get (j : Nat) (hj : j < 48) : id48.getD j 0 = j := by
  unfold id48
  rw [List.getD_eq_getElem?_getD, List.getElem?_map, List.getElem?_range hj]
  rfl
theorem Pm.id {T : Nat} (hT : T ≤ 48) : Pm T id48 := by
  refine ⟨by simpa [id48] using hT, fun j hj => ?_, fun i j hi hj e => ?_, fun t ht => ⟨t, ht, id48_get t (by omega)⟩⟩
  · rw [id48_get j (by omega)]; omega
  · rw [id48_get j (by omega), id48_get i (by omega)] at e
    omega

/-- a crossing to be: the work, the place, whether the right one goes over -/
structure Op3 where
  i : Int
  at_ : Nat
  neg : Bool

def opN (i mid n : Int) : Op3 := ⟨i, (mid - 2 + max n (-n)).toNat, decide (n < 0)⟩
def opsL (i mid : Int) (c : UInt8) : List Op3 := if c = 80 then [] else (cr3 (tw c) 3).map (opN i mid)
def opsW (i : Int) (x : Wk) : List Op3 := x.word.data.toList.flatMap (opsL i (2 * x.pos + 1))
def opsTo (ws : List Wk) : Nat → List Op3
  | 0 => []
  | k + 1 => match ws[k]? with
    | some x => opsTo ws k ++ opsW k x
    | none => opsTo ws k

/-- one crossing -/
def crO (l : List Int) (o : Op3) : Q4 := ⟨o.i, o.at_, if o.neg then l.getD (o.at_ + 1) 0 else l.getD o.at_ 0, if o.neg then l.getD o.at_ 0 else l.getD (o.at_ + 1) 0⟩
def runL (l : List Int) (ops : List Op3) : List Int := ops.foldl (fun l o => swapL l o.at_) l
def runC : List Int → List Op3 → List Q4
  | _, [] => []
  | l, o :: ops => crO l o :: runC (swapL l o.at_) ops

theorem runL_app (l : List Int) (a b : List Op3) : runL l (a ++ b) = runL (runL l a) b := by simp [runL]
theorem runC_app (a b : List Op3) : ∀ l : List Int, runC l (a ++ b) = runC l a ++ runC (runL l a) b := by
  induction a with
  | nil => exact fun _ => rfl
  | cons o a ih => intro l; simp only [List.cons_append, runC, ih]; rfl
theorem runL_len (ops : List Op3) : ∀ l : List Int, (runL l ops).length = l.length := by
  induction ops with
  | nil => exact fun _ => rfl
  | cons o ops ih => intro l; show (runL (swapL l o.at_) ops).length = _; rw [ih, swapL_len]
theorem runC_len (ops : List Op3) : ∀ l : List Int, (runC l ops).length = ops.length := by
  induction ops with
  | nil => exact fun _ => rfl
  | cons o ops ih => intro l; simp [runC, ih]
theorem Pm.run {T : Nat} (ops : List Op3) (ho : ∀ o ∈ ops, o.at_ + 1 < T) : ∀ {l : List Int}, Pm T l → Pm T (runL l ops) := by
  induction ops with
  | nil => exact fun h => h
  | cons o ops ih => intro l h; exact ih (fun o ho' => ho o (List.mem_cons_of_mem _ ho')) (h.swap (ho o (List.mem_cons_self)))

/-- what a state of Make owes to its exchanges -/
def Made (l0 : List Int) (ops : List Op3) (st : Cl) : Prop := st.line = runL l0 ops ∧ st.cr = runC l0 ops

theorem made_stC {l0 : List Int} {ops : List Op3} {st : Cl} (h : Made l0 ops st) (i mid n : Int) (hb : 0 ≤ mid - 2 + max n (-n)) : Made l0 (ops ++ [opN i mid n]) (stC i mid st n) := by
  obtain ⟨h1, h2⟩ := h
  refine ⟨?_, ?_⟩
  · rw [runL_app, ← h1]; rfl
  · rw [runC_app, ← h1, ← h2]
    simp only [stC, runC, crO, opN]
    congr 2
    by_cases hn : n < 0 <;> simp [hn] <;> omega
theorem made_fold {l0 : List Int} (i mid : Int) (L : List Int) (hb : ∀ n ∈ L, 0 ≤ mid - 2 + max n (-n)) : ∀ {ops : List Op3} {st : Cl}, Made l0 ops st → Made l0 (ops ++ L.map (opN i mid)) (L.foldl (stC i mid) st) := by
  induction L with
  | nil => intro ops st h; simpa using h
  | cons n L ih =>
    intro ops st h
    have := ih (fun n hn => hb n (List.mem_cons_of_mem _ hn)) (made_stC h i mid n (hb n List.mem_cons_self))
    simpa using this
theorem made_stL {l0 : List Int} {ops : List Op3} {st : Cl} (h : Made l0 ops st) (i mid : Int) (c : UInt8) (hm : 1 ≤ mid) : Made l0 (ops ++ opsL i mid c) (stL i mid st c) := by
  unfold opsL stL
  split
  · rw [List.append_nil]; exact h
  · exact made_fold i mid _ (fun n hn => by have := cr3_mem c n hn; omega) h
theorem made_foldL {l0 : List Int} (i mid : Int) (hm : 1 ≤ mid) (L : List UInt8) : ∀ {ops : List Op3} {st : Cl}, Made l0 ops st → Made l0 (ops ++ L.flatMap (opsL i mid)) (L.foldl (stL i mid) st) := by
  induction L with
  | nil => intro ops st h; simpa using h
  | cons c L ih =>
    intro ops st h
    have := ih (made_stL h i mid c hm)
    simpa using this
theorem made_stW {l0 : List Int} {ops : List Op3} {st : Cl} (h : Made l0 ops st) (i : Int) (x : Wk) (hp : 0 ≤ x.pos) : Made l0 (ops ++ opsW i x) (stW i x st) := by
  refine made_foldL i _ (by omega) _ ?_
  unfold stK
  split
  · exact h
  · exact h
theorem made_mkTo {p : Int} {ws : List Wk} (hok : okSh p ws) (l0 : List Int) : ∀ k, Made l0 (opsTo ws k) (mkTo l0 ws k) := by
  intro k
  induction k with
  | zero => exact ⟨rfl, rfl⟩
  | succ k ih =>
    cases hx : ws[k]? with
    | none => rw [mkTo_none l0 hx]; simp only [opsTo, hx]; exact ih
    | some x =>
      rw [mkTo_some l0 hx]
      simp only [opsTo, hx]
      exact made_stW ih k x (hok.2.2.2 x (List.mem_of_getElem? hx)).2.1

/-- each exchange stays within the work's four places -/
theorem opsW_at {p : Int} {ws : List Wk} (hok : okSh p ws) {x : Wk} (hx : x ∈ ws) (i : Int) : ∀ o ∈ opsW i x, o.i = i ∧ 2 * x.pos ≤ o.at_ ∧ (o.at_ : Int) ≤ 2 * x.pos + 2 := by
  intro o ho
  have hp := (hok.2.2.2 x hx).2.1
  unfold opsW at ho
  rw [List.mem_flatMap] at ho
  obtain ⟨c, _, ho⟩ := ho
  unfold opsL at ho
  split at ho
  · cases ho
  · rw [List.mem_map] at ho
    obtain ⟨n, hn, rfl⟩ := ho
    have := cr3_mem c n hn
    unfold opN
    refine ⟨rfl, ?_, ?_⟩ <;> simp only <;> omega
theorem opsTo_at {p : Int} {ws : List Wk} (hok : okSh p ws) : ∀ k, ∀ o ∈ opsTo ws k, 0 ≤ o.i ∧ (o.at_ : Int) + 1 < 2 * p := by
  intro k
  induction k with
  | zero => intro o ho; cases ho
  | succ k ih =>
    intro o ho
    cases hx : ws[k]? with
    | none => simp only [opsTo, hx] at ho; exact ih o ho
    | some x =>
      simp only [opsTo, hx, List.mem_append] at ho
      rcases ho with ho | ho
      · exact ih o ho
      · have h1 := opsW_at hok (List.mem_of_getElem? hx) k o ho
        have h2 := (hok.2.2.2 x (List.mem_of_getElem? hx))
        have h3 := h2.2.2.1
        omega

theorem runC_get (ops : List Op3) : ∀ (l : List Int) (k : Nat) (o : Op3), ops[k]? = some o → (runC l ops)[k]? = some (crO (runL l (ops.take k)) o) := by
  induction ops with
  | nil => intro l k o h; simp at h
  | cons o' ops ih =>
    intro l k o h
    cases k with
    | zero => simp at h; subst h; rfl
    | succ k =>
      simp only [List.getElem?_cons_succ] at h
      simp only [runC, List.getElem?_cons_succ, List.take_succ_cons]
      rw [ih _ k o h]
      rfl
/-- the crossings bear their places -/
theorem foldSwap_runC (ops : List Op3) : ∀ (l l' : List Int), (runC l ops).foldl (fun l x => swapL l x.b.toNat) l' = runL l' ops := by
  induction ops with
  | nil => exact fun _ _ => rfl
  | cons o ops ih =>
    intro l l'
    simp only [runC, List.foldl_cons]
    rw [ih]
    simp [crO, runL]
theorem take_runC (ops : List Op3) : ∀ (l : List Int) (k : Nat), (runC l ops).take k = runC l (ops.take k) := by
  induction ops with
  | nil => intro l k; simp [runC]
  | cons o ops ih =>
    intro l k
    cases k with
    | zero => rfl
    | succ k => simp only [runC, List.take_succ_cons, ih]
theorem lineAt_runC (l l' : List Int) (ops : List Op3) (k : Nat) : lineAt l' (runC l ops) k = runL l' (ops.take k) := by
  unfold lineAt
  rw [take_runC, foldSwap_runC]

/-! pins -/
def okPin (T : Int) (x : Q4) : Prop := 0 ≤ x.b ∧ x.b ≤ T - 2 ∧ 0 ≤ x.a ∧ 0 ≤ x.c ∧ x.c ≤ T - 1 ∧ 0 ≤ x.d ∧ x.d ≤ T - 1 ∧ x.c ≠ x.d
structure PinInv (T : Nat) (st : Cl) : Prop where
  pm : Pm T st.line
  pins : ∀ x ∈ st.pins, okPin T x

theorem PinInv.stC {T : Nat} {st : Cl} (h : PinInv T st) (i mid n : Int) (hb : 0 ≤ mid - 2 + max n (-n)) (hb2 : mid - 2 + max n (-n) + 1 < T) : PinInv T (stC i mid st n) :=
  ⟨h.pm.swap (by omega), h.pins⟩
theorem PinInv.pinC {T : Nat} {st : Cl} (h : PinInv T st) (i mid : Int) (hi : 0 ≤ i) (hm : 0 ≤ mid) (hm2 : mid + 1 < T) : PinInv T (pinC i mid st) := by
  refine ⟨h.pm, fun x hx => ?_⟩
  simp only [Go.Proofs.Ytefdncpdlgakpaa.pinC, List.mem_append, List.mem_singleton] at hx
  rcases hx with hx | rfl
  · exact h.pins x hx
  · have h1 := h.pm.rng mid.toNat (by omega)
    have h2 := h.pm.rng (mid.toNat + 1) (by omega)
    have h3 := h.pm.inj mid.toNat (mid.toNat + 1) (by omega) (by omega)
    unfold okPin
    dsimp only
    refine ⟨hm, by omega, hi, h1.1, by omega, h2.1, by omega, fun e => ?_⟩
    have := h3 e
    omega
theorem PinInv.foldC {T : Nat} (i mid : Int) (L : List Int) (hb : ∀ n ∈ L, 0 ≤ mid - 2 + max n (-n) ∧ mid - 2 + max n (-n) + 1 < T) : ∀ {st : Cl}, PinInv T st → PinInv T (L.foldl (Go.Proofs.Ytefdncpdlgakpaa.stC i mid) st) := by
  induction L with
  | nil => exact fun h => h
  | cons n L ih => intro st h; exact ih (fun n hn => hb n (List.mem_cons_of_mem _ hn)) (h.stC i mid n (hb n List.mem_cons_self).1 (hb n List.mem_cons_self).2)
theorem PinInv.stL {T : Nat} {st : Cl} (h : PinInv T st) (i mid : Int) (c : UInt8) (hi : 0 ≤ i) (hm : 1 ≤ mid) (hm2 : mid + 2 < T) : PinInv T (stL i mid st c) := by
  unfold Go.Proofs.Ytefdncpdlgakpaa.stL
  split
  · exact h.pinC i mid hi (by omega) (by omega)
  · exact PinInv.foldC i mid _ (fun n hn => by have := cr3_mem c n hn; omega) h
theorem PinInv.foldL {T : Nat} (i mid : Int) (hi : 0 ≤ i) (hm : 1 ≤ mid) (hm2 : mid + 2 < T) (L : List UInt8) : ∀ {st : Cl}, PinInv T st → PinInv T (L.foldl (Go.Proofs.Ytefdncpdlgakpaa.stL i mid) st) := by
  induction L with
  | nil => exact fun h => h
  | cons n L ih => intro st h; exact ih (h.stL i mid n hi hm hm2)
theorem PinInv.stW {T : Nat} {st : Cl} (h : PinInv T st) (i : Int) (x : Wk) (hi : 0 ≤ i) (hp : 0 ≤ x.pos) (hp2 : 2 * x.pos + 3 < T) : PinInv T (stW i x st) := by
  refine PinInv.foldL i _ hi (by omega) (by omega) _ ?_
  unfold stK
  split
  · exact h.pinC i _ hi (by omega) (by omega)
  · exact h
theorem pinInv_mkTo {p : Int} {ws : List Wk} (hok : okSh p ws) {l0 : List Int} (h0 : Pm (2 * p).toNat l0) : ∀ k, PinInv (2 * p).toNat (mkTo l0 ws k) := by
  intro k
  have hp := hok.1
  induction k with
  | zero => exact ⟨h0, fun x hx => by cases hx⟩
  | succ k ih =>
    cases hx : ws[k]? with
    | none => rw [mkTo_none l0 hx]; exact ih
    | some x =>
      rw [mkTo_some l0 hx]
      have h2 := hok.2.2.2 x (List.mem_of_getElem? hx)
      have h3 := h2.2.1
      have h4 := h2.2.2.1
      exact ih.stW k x (by omega) h3 (by omega)

/-- of a work: at most 16 pins, 48 crossings -/
theorem stW_len2 (i : Int) (x : Wk) (st : Cl) (hk : x.kind = 1 ∧ x.word.data.toList.length ≤ 16 ∨ x.word.data.toList = []) : (stW i x st).cr.length ≤ st.cr.length + 48 ∧ (stW i x st).pins.length ≤ st.pins.length + 16 := by
  unfold stW
  obtain ⟨h1, h2, h3⟩ := foldL_len i (2 * x.pos + 1) x.word.data.toList (stK i (2 * x.pos + 1) x.kind st)
  have k2 : (stK i (2 * x.pos + 1) x.kind st).cr = st.cr := by unfold stK; split <;> rfl
  rw [k2] at h2
  rcases hk with ⟨hk, hl⟩ | hl
  · have k3 : (stK i (2 * x.pos + 1) x.kind st).pins = st.pins := by unfold stK; rw [hk, if_neg (by decide)]
    rw [k3] at h3
    exact ⟨by omega, by omega⟩
  · have k3 : (stK i (2 * x.pos + 1) x.kind st).pins.length ≤ st.pins.length + 1 := by unfold stK; split <;> simp [pinC]
    rw [hl] at h2 h3 ⊢
    simp only [List.length_nil] at h2 h3
    simp only [List.foldl_nil] at h2 h3 ⊢
    exact ⟨by omega, by omega⟩
theorem mkTo_len2 {p : Int} {ws : List Wk} (hok : okSh p ws) (l0 : List Int) : ∀ k, (mkTo l0 ws k).cr.length ≤ 48 * k ∧ (mkTo l0 ws k).pins.length ≤ 16 * k := by
  intro k
  induction k with
  | zero => exact ⟨Nat.le_refl _, Nat.le_refl _⟩
  | succ k ih =>
    cases hx : ws[k]? with
    | none => rw [mkTo_none l0 hx]; exact ⟨by omega, by omega⟩
    | some x =>
      rw [mkTo_some l0 hx]
      have h2 := hok.2.2.2 x (List.mem_of_getElem? hx)
      obtain ⟨g1, g2⟩ := stW_len2 k x (mkTo l0 ws k) (by
        rcases h2.1 with h | h
        · exact .inl ⟨h, h2.2.2.2.1⟩
        · exact .inr h.2)
      exact ⟨by omega, by omega⟩

/-- **What Make makes of a valid sheet is a valid cloth.** -/
theorem okCl_mk {p : Int} {ws : List Wk} (hok : okSh p ws) : okCl (2 * p) (mkTo id48 ws ws.length).cr (mkTo id48 ws ws.length).pins := by
  have hp := hok.1
  have hp24 := hok.2.1
  have hn := hok.2.2.1
  obtain ⟨h1, h2⟩ := made_mkTo hok id48 ws.length
  obtain ⟨l1, l2⟩ := mkTo_len2 hok id48 ws.length
  have hpin := pinInv_mkTo hok (Pm.id (T := (2 * p).toNat) (by omega)) ws.length
  have hat := opsTo_at hok ws.length
  refine ⟨by omega, by omega, by omega, by omega, fun x hx => ?_, fun x hx => ?_, fun k x hx => ?_⟩
  · rw [h2] at hx
    obtain ⟨k, hk⟩ := List.getElem?_of_mem hx
    have hkl := (List.getElem?_eq_some_iff.1 hk).1
    rw [runC_len] at hkl
    rw [runC_get _ _ k _ (List.getElem?_eq_getElem hkl)] at hk
    cases hk
    have := hat _ (List.getElem_mem hkl)
    refine ⟨?_, ?_, ?_⟩ <;> simp only [crO] <;> omega
  · have := hpin.pins x hx
    rw [show (((2 * p).toNat : Nat) : Int) = 2 * p from by omega] at this
    exact this
  · rw [h2] at hx ⊢
    have hkl := (List.getElem?_eq_some_iff.1 hx).1
    rw [runC_len] at hkl
    rw [runC_get _ _ k _ (List.getElem?_eq_getElem hkl)] at hx
    cases hx
    rw [lineAt_runC]
    simp only [crO, Int.toNat_natCast]
    cases ((opsTo ws ws.length)[k]).neg <;> simp
end Go.Proofs.Ytefdncpdlgakpaa
