import Derived.Test.YtefdncpdlgakpaaL
namespace Go.Proofs.Ytefdncpdlgakpaa
open Go.RowKit

/-! Plain laws: the loops of a seam are a partition; colours on loops; the colours of a repeated sheet. -/
def nx (next : List Int) (t : Int) : Int := next.getD t.toNat 0
/-- the loop that begins at t0, as far as it goes -/
structure Chain (next : List Int) (T : Nat) (S0 : List Bool) (t0 : Nat) (l : List Int) : Prop where
  rng : ∀ x ∈ l, 0 ≤ x ∧ x < T ∧ S0.getD x.toNat true = false
  link : ∀ i, i + 1 < l.length → l.getD (i + 1) 0 = nx next (l.getD i 0)
  head : l ≠ [] → l.getD 0 0 = t0
  nodup : l.Nodup

theorem getD_append_left {l : List Int} {x : Int} {i : Nat} (h : i < l.length) : (l ++ [x]).getD i 0 = l.getD i 0 := by
  simp only [List.getD_eq_getElem?_getD, List.getElem?_append, if_pos h]
theorem getD_append_last {l : List Int} {x : Int} : (l ++ [x]).getD l.length 0 = x := by
  simp [List.getD_eq_getElem?_getD]

/-- what loopW goes through -/
structure LoopRes (next : List Int) (T : Nat) (S0 : List Bool) (t0 : Nat) (seen : List Bool) (l : List Int) : Prop where
  ch : Chain next T S0 t0 l
  len : seen.length = 48
  seen_iff : ∀ j, j < 48 → (seen.getD j true = true ↔ S0.getD j true = true ∨ (j : Int) ∈ l)
  stop : ∃ k : Nat, k < T ∧ seen.getD k true = true ∧ (if l = [] then k = t0 else (k : Int) = nx next (l.getD (l.length - 1) 0))

theorem getD_setB (s : List Bool) (k j : Nat) (hk : k < s.length) : (s.set k true).getD j true = if j = k then true else s.getD j true := by
  simp only [List.getD_eq_getElem?_getD, List.getElem?_set]
  by_cases e : k = j
  · subst e; simp [hk]
  · rw [if_neg e, if_neg (fun e' => e e'.symm)]

theorem loopW_res {next : List Int} {T : Nat} {S0 : List Bool} {t0 : Nat} (hT : T ≤ 48) (hn : ∀ t, t < T → 0 ≤ next.getD t 0 ∧ next.getD t 0 < T) :
    ∀ (f : Nat) (seen : List Bool) (k : Nat) (acc : List Int), Chain next T S0 t0 acc → seen.length = 48 → (∀ j, j < 48 → (seen.getD j true = true ↔ S0.getD j true = true ∨ (j : Int) ∈ acc)) → k < T →
      (if acc = [] then k = t0 else (k : Int) = nx next (acc.getD (acc.length - 1) 0)) → unseen seen < f → LoopRes next T S0 t0 (loopW next f seen k acc).1 (loopW next f seen k acc).2 := by
  intro f
  induction f with
  | zero => intro seen k acc _ _ _ _ _ h; omega
  | succ f ih =>
    intro seen k acc hc hl hs hk hkk hu
    unfold loopW
    by_cases hsk : seen.getD k true = true
    · rw [if_pos hsk]
      exact ⟨hc, hl, hs, k, hk, hsk, hkk⟩
    · rw [if_neg hsk]
      have hk48 : k < 48 := by omega
      have hskf : seen[k]? = some false := by
        rw [List.getD_eq_getElem?_getD, List.getElem?_eq_getElem (by omega)] at hsk
        rw [List.getElem?_eq_getElem (by omega)]
        simpa using hsk
      have hnot := fun h => hsk ((hs k hk48).2 h)
      have hun := unseen_set hskf
      refine ih (seen.set k true) (next.getD k 0).toNat (acc ++ [(k : Int)]) ?_ (by rw [List.length_set]; exact hl) ?_ ?_ ?_ (by omega)
      · refine ⟨fun x hx => ?_, fun i hi => ?_, fun _ => ?_, ?_⟩
        · rcases List.mem_append.1 hx with h | h
          · exact hc.rng x h
          · simp at h
            subst h
            refine ⟨by omega, by omega, ?_⟩
            rw [Int.toNat_natCast]
            have : ¬ S0.getD k true = true := fun h => hnot (.inl h)
            simpa using this
        · simp only [List.length_append, List.length_cons, List.length_nil] at hi
          by_cases h1 : i + 1 < acc.length
          · rw [getD_append_left h1, getD_append_left (by omega)]
            exact hc.link i h1
          · have e : i + 1 = acc.length := by omega
            rw [e, getD_append_last, getD_append_left (by omega)]
            have hne : acc ≠ [] := by rintro rfl; simp at e
            rw [if_neg hne] at hkk
            rw [hkk]
            congr 2
            omega
        · by_cases hne : acc = []
          · subst hne
            rw [if_pos rfl] at hkk
            subst hkk
            rfl
          · rw [getD_append_left (List.length_pos_iff.2 hne)]
            exact hc.head hne
        · refine List.nodup_append.2 ⟨hc.nodup, by simp, fun a ha b hb => ?_⟩
          simp at hb
          subst hb
          rintro rfl
          exact hnot (.inr ha)
      · intro j hj
        rw [getD_setB _ _ _ (by omega), List.mem_append]
        by_cases e : j = k
        · subst e; simp
        · rw [if_neg e, hs j hj]
          simp
          constructor
          · rintro (h | h)
            · exact .inl h
            · exact .inr (.inl h)
          · rintro (h | h | h)
            · exact .inl h
            · exact .inr h
            · exact (e (by omega)).elim
      · have := hn k hk; omega
      · rw [if_neg (by simp)]
        have := hn k hk
        have e : (acc ++ [(k : Int)]).length - 1 = acc.length := by simp
        rw [e, getD_append_last, nx, Int.toNat_natCast]
        omega

/-- the loops so far -/
structure Loops (next : List Int) (T t : Nat) (seen : List Bool) (out : List (List Int)) : Prop where
  len : seen.length = 48
  back : ∀ j, j < T → seen.getD j true = false → seen.getD (nx next j).toNat true = false
  cov : ∀ j, j < t → seen.getD j true = true
  iff : ∀ j, j < 48 → (seen.getD j true = true ↔ ∃ l ∈ out, (j : Int) ∈ l)
  rng : ∀ l ∈ out, l ≠ [] ∧ ∀ x ∈ l, 0 ≤ x ∧ x < T
  link : ∀ l ∈ out, ∀ i, i + 1 < l.length → l.getD (i + 1) 0 = nx next (l.getD i 0)
  closed : ∀ l ∈ out, ∀ x ∈ l, nx next x ∈ l
  disj : out.Pairwise (fun l l' => ∀ x ∈ l, x ∉ l')
  nodup : ∀ l ∈ out, l.length ≤ T

theorem mem_getD {l : List Int} {x : Int} (h : x ∈ l) : ∃ i, i < l.length ∧ l.getD i 0 = x := by
  obtain ⟨i, hi⟩ := List.getElem?_of_mem h
  exact ⟨i, (List.getElem?_eq_some_iff.1 hi).1, by rw [List.getD_eq_getElem?_getD, hi]; rfl⟩
theorem getD_mem {l : List Int} {i : Nat} (h : i < l.length) : l.getD i 0 ∈ l := by
  rw [List.getD_eq_getElem?_getD, List.getElem?_eq_getElem h]
  exact List.getElem_mem h
theorem nodup_get {l : List Int} (h : l.Nodup) {i j : Nat} (hi : i < l.length) (hj : j < l.length) (e : l.getD i 0 = l.getD j 0) : i = j := by
  rw [List.getD_eq_getElem?_getD, List.getD_eq_getElem?_getD, List.getElem?_eq_getElem hi, List.getElem?_eq_getElem hj] at e
  simp only [Option.getD_some] at e
  have hp := List.pairwise_iff_getElem.1 h
  rcases Nat.lt_trichotomy i j with hlt | heq | hgt
  · exact (hp i j hi hj hlt e).elim
  · exact heq
  · exact (hp j i hj hi hgt e.symm).elim

theorem nodup_len {T : Nat} : ∀ {l : List Int}, l.Nodup → (∀ x ∈ l, 0 ≤ x ∧ x < T) → l.length ≤ T := by
  induction T with
  | zero =>
    intro l _ h
    cases l with
    | nil => simp
    | cons x l => have := h x List.mem_cons_self; omega
  | succ T ih =>
    intro l hn h
    have h2 := ih (l := l.erase (T : Int)) (hn.erase _) (fun x hx => by
      have hx' := h x (List.mem_of_mem_erase hx)
      have hne : x ≠ T := by
        rintro rfl
        exact (List.Nodup.not_mem_erase hn) hx
      omega)
    by_cases hm : (T : Int) ∈ l
    · have := List.length_erase_of_mem hm; omega
    · rw [List.erase_of_not_mem hm] at h2; omega

theorem loops_step {next : List Int} {T t : Nat} {seen : List Bool} {out : List (List Int)} (hT : T ≤ 48) (hn : ∀ t, t < T → 0 ≤ next.getD t 0 ∧ next.getD t 0 < T)
    (hinj : ∀ i j, i < T → j < T → next.getD i 0 = next.getD j 0 → i = j) (ht : t < T) (h : Loops next T t seen out) :
    Loops next T (t + 1) (loopW next 49 seen t []).1 (if (loopW next 49 seen t []).2 = [] then out else out ++ [(loopW next 49 seen t []).2]) := by
  have hr := loopW_res (S0 := seen) (t0 := t) hT hn 49 seen t [] ⟨fun x hx => by simp at hx, fun i hi => by simp at hi, fun e => absurd rfl e, List.nodup_nil⟩ h.len (fun j hj => by simp) ht (by simp)
    (by have := unseen_le seen; rw [h.len] at this; omega)
  obtain ⟨seen', hseen'⟩ : ∃ s, (loopW next 49 seen t []).1 = s := ⟨_, rfl⟩
  obtain ⟨l, hl⟩ : ∃ s, (loopW next 49 seen t []).2 = s := ⟨_, rfl⟩
  rw [hseen', hl] at hr ⊢
  clear hseen' hl
  obtain ⟨k, hkT, hks, hkk⟩ := hr.stop
  have inj' : ∀ a b : Int, 0 ≤ a → a < T → 0 ≤ b → b < T → nx next a = nx next b → a = b := fun a b h1 h2 h3 h4 e => by
    have := hinj a.toNat b.toNat (by omega) (by omega) e
    omega
  by_cases hne : l = []
  · subst hne
    rw [if_pos rfl] at hkk ⊢
    subst hkk
    have hsame : ∀ j, j < 48 → (seen'.getD j true = true ↔ seen.getD j true = true) := fun j hj => by rw [hr.seen_iff j hj]; simp
    have hsame' : ∀ j, j < 48 → (seen'.getD j true = false ↔ seen.getD j true = false) := fun j hj => by
      have := hsame j hj
      cases hA : seen'.getD j true <;> cases hB : seen.getD j true <;> simp_all
    refine ⟨hr.len, fun j hj hs => ?_, fun j hj => ?_, fun j hj => (hsame j hj).trans (h.iff j hj), h.rng, h.link, h.closed, h.disj, h.nodup⟩
    · have hnj := hn j hj
      have e : (nx next j).toNat < 48 := by unfold nx; rw [Int.toNat_natCast]; omega
      exact (hsame' _ e).2 (h.back j hj ((hsame' j (by omega)).1 hs))
    · by_cases e : j = k
      · subst e; exact hks
      · exact (hsame j (by omega)).2 (h.cov j (by omega))
  · rw [if_neg hne] at hkk ⊢
    have hlp := List.length_pos_iff.2 hne
    have hlast := getD_mem (l := l) (i := l.length - 1) (by omega)
    obtain ⟨r0, r1, r2⟩ := hr.ch.rng _ hlast
    -- the last one leads back to the first
    have hkl : (k : Int) ∈ l := by
      rcases (hr.seen_iff k (by omega)).1 hks with hs | hs
      · have := h.back (l.getD (l.length - 1) 0).toNat (by omega) r2
        rw [show (((l.getD (l.length - 1) 0).toNat : Nat) : Int) = l.getD (l.length - 1) 0 by omega, ← hkk, Int.toNat_natCast, hs] at this
        cases this
      · exact hs
    have hk0 : (k : Int) = l.getD 0 0 := by
      obtain ⟨i, hi, e⟩ := mem_getD hkl
      cases i with
      | zero => exact e.symm
      | succ i =>
        have e2 := hr.ch.link i hi
        rw [e, hkk] at e2
        obtain ⟨s0, s1, _⟩ := hr.ch.rng _ (getD_mem (l := l) (i := i) (by omega))
        have e3 := inj' _ _ r0 r1 s0 s1 e2
        have := nodup_get hr.ch.nodup (by omega) (by omega) e3
        omega
    have hclosed : ∀ x ∈ l, nx next x ∈ l := fun x hx => by
      obtain ⟨i, hi, e⟩ := mem_getD hx
      by_cases h1 : i + 1 < l.length
      · rw [← e, ← hr.ch.link i h1]; exact getD_mem h1
      · have e1 : i = l.length - 1 := by omega
        rw [← e, e1, ← hkk]; exact hkl
    refine ⟨hr.len, fun j hj hs => ?_, fun j hj => ?_, fun j hj => ?_, fun l' hl' => ?_, fun l' hl' => ?_, fun l' hl' => ?_, ?_, fun l' hl' => ?_⟩
    · have hnj := hn j hj
      have e : (nx next j).toNat < 48 := by unfold nx; rw [Int.toNat_natCast]; omega
      have hj48 : j < 48 := by omega
      have hjn : ¬ (seen.getD j true = true ∨ (j : Int) ∈ l) := fun h' => by rw [(hr.seen_iff j hj48).2 h'] at hs; cases hs
      have hb := h.back j hj (by cases hA : seen.getD j true <;> simp_all)
      cases hA : seen'.getD (nx next j).toNat true with
      | false => rfl
      | true =>
        rcases (hr.seen_iff _ e).1 hA with h' | h'
        · rw [hb] at h'; cases h'
        · have ej : ((nx next j).toNat : Int) = nx next j := by unfold nx; rw [Int.toNat_natCast]; omega
          rw [ej] at h'
          obtain ⟨i, hi, e'⟩ := mem_getD h'
          refine (hjn (.inr ?_)).elim
          cases i with
          | zero =>
            rw [← hk0, hkk] at e'
            have := inj' _ _ r0 r1 (by omega) (by omega) e'
            rw [← this]; exact hlast
          | succ i =>
            rw [hr.ch.link i hi] at e'
            obtain ⟨s0, s1, _⟩ := hr.ch.rng _ (getD_mem (l := l) (i := i) (by omega))
            have := inj' _ _ s0 s1 (by omega) (by omega) e'
            rw [← this]; exact getD_mem (by omega)
    · by_cases e : j = t
      · subst e
        refine (hr.seen_iff j (by omega)).2 (.inr ?_)
        rw [← hr.ch.head hne]
        exact getD_mem hlp
      · exact (hr.seen_iff j (by omega)).2 (.inl (h.cov j (by omega)))
    · rw [hr.seen_iff j hj, h.iff j hj]
      constructor
      · rintro (⟨l', h1, h2⟩ | h')
        · exact ⟨l', List.mem_append_left _ h1, h2⟩
        · exact ⟨l, by simp, h'⟩
      · rintro ⟨l', h1, h2⟩
        rcases List.mem_append.1 h1 with h' | h'
        · exact .inl ⟨l', h', h2⟩
        · simp at h'
          subst h'
          exact .inr h2
    · rcases List.mem_append.1 hl' with h' | h'
      · exact h.rng l' h'
      · simp at h'
        subst h'
        exact ⟨hne, fun x hx => ⟨(hr.ch.rng x hx).1, (hr.ch.rng x hx).2.1⟩⟩
    · rcases List.mem_append.1 hl' with h' | h'
      · exact h.link l' h'
      · simp at h'
        subst h'
        exact hr.ch.link
    · rcases List.mem_append.1 hl' with h' | h'
      · exact h.closed l' h'
      · simp at h'
        subst h'
        exact hclosed
    · refine List.pairwise_append.2 ⟨h.disj, by simp, fun l1 h1 l2 h2 x hx => ?_⟩
      simp at h2
      subst h2
      intro hx2
      obtain ⟨s0, s1, s2⟩ := hr.ch.rng x hx2
      have := (h.iff x.toNat (by omega)).2 ⟨l1, h1, by rw [show ((x.toNat : Nat) : Int) = x by omega]; exact hx⟩
      rw [this] at s2
      cases s2
    · rcases List.mem_append.1 hl' with h' | h'
      · exact h.nodup l' h'
      · simp at h'
        subst h'
        exact nodup_len hr.ch.nodup (fun x hx => ⟨(hr.ch.rng x hx).1, (hr.ch.rng x hx).2.1⟩)

theorem loopsTo_res {next : List Int} {T : Nat} (hT : T ≤ 48) (hn : ∀ t, t < T → 0 ≤ next.getD t 0 ∧ next.getD t 0 < T) (hinj : ∀ i j, i < T → j < T → next.getD i 0 = next.getD j 0 → i = j) :
    ∀ t, t ≤ T → Loops next T t (loopsTo next t).1 (loopsTo next t).2 := by
  intro t
  induction t with
  | zero =>
    intro _
    have e : ∀ j, j < 48 → (List.replicate 48 false).getD j true = false := fun j hj => by
      rw [List.getD_eq_getElem?_getD, List.getElem?_replicate, if_pos hj]; rfl
    refine ⟨by simp [loopsTo], fun j hj _ => e _ ?_, fun j hj => by omega, fun j hj => ?_, fun l hl => ?_, fun l hl => ?_, fun l hl => ?_, List.Pairwise.nil, fun l hl => ?_⟩
    · have := hn j hj
      unfold nx
      rw [Int.toNat_natCast]
      omega
    · simp only [loopsTo]
      rw [e j hj]
      simp
    all_goals (simp [loopsTo] at hl)
  | succ t ih =>
    intro ht
    exact loops_step hT hn hinj (by omega) (ih (by omega))
end Go.Proofs.Ytefdncpdlgakpaa
