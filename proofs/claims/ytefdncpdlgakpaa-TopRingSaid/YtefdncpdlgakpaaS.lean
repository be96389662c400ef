import Derived.Test.YtefdncpdlgakpaaR
import Derived.RangeFuncNested
import Derived.RangeFuncBound
import Derived.RangeFuncCalls
import Derived.RangeFuncLeaves
import Derived.Shelf.Abstract
import Derived.Shelf.RegionOpen
import Derived.OwnWalkIn
import Derived.TacticsInMore
import Derived.LoopNIn
import Derived.LoopIn
import Derived.Sort.QuietIn
namespace Go.Proofs.Ytefdncpdlgakpaa
open Go.RowKit

/-! Inside a fence: a region that draws its order, whose last operations wait for all others; and the law for a range over a function whose rounds all go on. -/
section
variable {F : Fence} {n : Nat} {P : Program} {md : Region.Mode} {l : List Oper} {last : Oper}

/-- each operation is waited for by the last one or by a later one -/
def waitsB (md : Region.Mode) (l : List Oper) (last : Oper) : Bool :=
  (List.range l.length).all fun i => last.after.toList.any (fun e => Region.binds md e && e.on == i) || (List.range l.length).any fun j => decide (i < j) && match l[j]? with | some o => o.after.toList.any (fun e => Region.binds md e && e.on == i) | none => false

/-- what is listed has what it waits for listed -/
def Down (md : Region.Mode) (l : List Oper) (listed : Array Bool) : Prop := ∀ (j : Nat) (o : Oper), l[j]? = some o → listed.getD j false = true → ∀ e ∈ o.after, Region.binds md e = true → listed.getD e.on false = true

theorem Down.init : Down md l (Array.replicate l.length false) := fun j o _ h => by
  exfalso
  simp [Array.getElem?_replicate] at h
  split at h <;> simp at h

theorem Down.ready {listed : Array Bool} (h : Down md l listed) {i : Nat} (hi : i ∈ Region.ready md l.toArray listed) : Down md l (listed.setIfInBounds i true) := fun j o ho hj e he hb => by
  obtain ⟨h1, o', ho', h2⟩ := ready_mem.1 hi
  by_cases hji : i = j
  · subst hji
    simp at ho'
    rw [ho] at ho'; cases ho'
    exact getD_set_true (h2 e he hb)
  · rw [getD_set_ne false hji] at hj
    exact getD_set_true (h j o ho hj e he hb)

theorem waits_all {listed : Array Bool} (hw : waitsB md l last = true) (hd : Down md l listed) (hl : ∀ e ∈ last.after, Region.binds md e = true → listed.getD e.on false = true) : ∀ k i, i < l.length → l.length - i ≤ k → listed.getD i false = true := by
  intro k
  induction k with
  | zero => intro i hi hk; omega
  | succ k ih =>
    intro i hi hk
    have h1 := List.all_eq_true.1 hw i (List.mem_range.2 hi)
    rw [Bool.or_eq_true] at h1
    rcases h1 with h1 | h1
    · obtain ⟨e, he, h2⟩ := List.any_eq_true.1 h1
      simp at h2
      have := hl e (Array.mem_toList_iff.1 he) h2.1
      rwa [h2.2] at this
    · obtain ⟨j, hj, h2⟩ := List.any_eq_true.1 h1
      simp only [Bool.and_eq_true, decide_eq_true_eq] at h2
      have hjl := List.mem_range.1 hj
      have ho : l[j]? = some l[j] := List.getElem?_eq_getElem hjl
      rw [ho] at h2
      obtain ⟨e, he, h3⟩ := List.any_eq_true.1 h2.2
      simp at h3
      have := hd j _ ho (ih j hjl (by omega)) e (Array.mem_toList_iff.1 he) h3.1
      rwa [h3.2] at this

theorem last_not_readyD (hw : waitsB md l last = true) {listed : Array Bool} (hs : listed.size = l.length) (hlb : lastBackB md last l.length = true) (hd : Down md l listed) {i : Nat} (hi : i ∈ Region.ready md l.toArray listed) : l.length ∉ Region.ready md (l ++ [last]).toArray (listed.push false) := by
  intro hm
  obtain ⟨_, o, ho, h2⟩ := ready_mem.1 hm
  rw [arr_get_n] at ho
  cases ho
  obtain ⟨h1, o, ho, _⟩ := ready_mem.1 hi
  have hil : i < l.length := by have := (Array.getElem?_eq_some_iff.1 ho).1; simpa using this
  have := waits_all hw hd (fun e he hb => by
    have h4 := List.all_eq_true.1 hlb e (Array.mem_toList_iff.2 he)
    simp [hb] at h4
    have := h2 e he hb
    rwa [getD_push (by omega)] at this) _ i hil (Nat.le_refl _)
  have h3 : i < listed.size := by omega
  simp [h3] at h1 this
  rw [h1] at this
  cases this

theorem wpOpIn_push {Q : Exit → Act → World → Prop} (hgd : guardsB l = true) {i : Nat} (hi : i < l.length) {K : Act → World → Prop} {a : Act} {w : World} (h : wpOpIn F n P l.toArray Q i K a w) : wpOpIn F n P (l ++ [last]).toArray Q i K a w := by
  unfold wpOpIn at *
  rw [arr_get_lt hi]
  have ho : l[i]? = some l[i] := List.getElem?_eq_getElem hi
  have ho' : l.toArray[i]? = some l[i] := by simp [hi]
  simp only [ho'] at h ⊢
  rw [wanted_push hgd ho]
  exact h

/-- What is asked behind the others: the last operation, then Q. -/
def behindIn (F : Fence) (n : Nat) (P : Program) (l : List Oper) (last : Oper) (Q : Exit → Act → World → Prop) : Exit → Act → World → Prop
  | .normal, a, w => wpOpIn F n P (l ++ [last]).toArray Q l.length (fun a w => Q .normal a w) a w
  | e, a, w => Q e a w

theorem wpOpIn_behind {i : Nat} {Q : Exit → Act → World → Prop} {K : Act → World → Prop} {a : Act} {w : World} (h : wpOpIn F n P l.toArray (behindIn F n P l last Q) i K a w) : wpOpIn F n P l.toArray Q i K a w := by
  unfold wpOpIn at *
  split
  · rename_i ho; simp only [ho] at h; exact h
  · rename_i o ho
    simp only [ho] at h
    split
    · rename_i hw
      simp only [hw, if_true] at h
      unfold Oper.wpIn at *
      refine ⟨h.1, ?_⟩
      have h := h.2
      generalize (o.semAt F.round a.eval).run P w = r at *
      cases r with
      | ok n w' =>
        cases n <;> simp only [Oper.uponIn] at h ⊢ <;> first
          | exact h
          | exact ⟨h.1, CallsIn.mono h.2 (fun e w'' he => by cases e <;> first | exact he | (obtain ⟨a, w, hq⟩ := he; exact ⟨a, w, hq⟩))⟩
          | exact ⟨h.1, RoundIn.mono h.2 (fun e w'' he => by cases e <;> first | exact he | (obtain ⟨a, w, hq⟩ := he; exact ⟨a, w, hq⟩))⟩
      | halt x w' => cases x <;> simp only [Oper.uponIn] at h ⊢ <;> exact h
    · rename_i hw; simp only [hw] at h; exact h

theorem wpAnyIn_peel {Q : Exit → Act → World → Prop} (h : backB md l = true) (hlb : lastBackB md last l.length = true) (hw : waitsB md l last = true) (hgd : guardsB l = true) :
    ∀ (fuel : Nat) (listed : Array Bool) (a : Act) (w : World), listed.size = l.length → Down md l listed → wpAnyIn F n P md l.toArray (behindIn F n P l last Q) fuel listed a w →
      wpAnyIn F n P md (l ++ [last]).toArray Q (fuel + 1) (listed.push false) a w := by
  have fin : ∀ (listed : Array Bool) (a : Act) (w : World), listed.size = l.length → Region.ready md l.toArray listed = [] → wpOpIn F n P (l ++ [last]).toArray Q l.length (fun a w => Q .normal a w) a w →
      (∀ fuel, ∀ i ∈ Region.ready md (l ++ [last]).toArray (listed.push false), wpOpIn F n P (l ++ [last]).toArray Q i (wpAnyIn F n P md (l ++ [last]).toArray Q fuel ((listed.push false).setIfInBounds i true)) a w) ∧ Region.ready md (l ++ [last]).toArray (listed.push false) ≠ [] := by
    intro listed a w hs hr hq
    have hall := none_ready h hs hr
    have hone : ∀ i ∈ Region.ready md (l ++ [last]).toArray (listed.push false), i = l.length := by
      intro i hi
      obtain ⟨_, o, ho, _⟩ := ready_mem.1 hi
      have hil : i < l.length + 1 := by have := (Array.getElem?_eq_some_iff.1 ho).1; simpa using this
      rcases Nat.lt_or_ge i l.length with h' | h'
      · have := (ready_push (last := last) h hs h').1 hi
        rw [hr] at this; cases this
      · omega
    constructor
    · intro fuel i hi
      obtain rfl := hone i hi
      refine wpOpIn_mono (fun a' w' hq' => ?_) hq
      have hrd : Region.ready md (l ++ [last]).toArray ((listed.push false).setIfInBounds l.length true) = [] := by
        cases hc : Region.ready md (l ++ [last]).toArray ((listed.push false).setIfInBounds l.length true) with
        | nil => rfl
        | cons j js =>
          exfalso
          have hj : j ∈ Region.ready md (l ++ [last]).toArray ((listed.push false).setIfInBounds l.length true) := by rw [hc]; exact List.mem_cons_self
          obtain ⟨h1, o, ho, _⟩ := ready_mem.1 hj
          have hjl : j < l.length + 1 := by have := (Array.getElem?_eq_some_iff.1 ho).1; simpa using this
          by_cases e : j = l.length
          · subst e
            simp [hs] at h1
          · have hjl' : j < l.length := by omega
            have h2 := hall j hjl'
            rw [getD_set_ne true (Ne.symm e), getD_push (by omega)] at h1
            have h3 : j < listed.size := by omega
            simp [h3] at h1 h2
            rw [h1] at h2; cases h2
      cases fuel with
      | zero => exact ⟨hrd, hq'⟩
      | succ fuel => exact ⟨fun _ => hq', fun i hi => by rw [hrd] at hi; cases hi⟩
    · intro e
      have : l.length ∈ Region.ready md (l ++ [last]).toArray (listed.push false) := by
        refine ready_mem.2 ⟨by rw [← hs]; simp, last, arr_get_n, fun e he hb => ?_⟩
        have h2 := List.all_eq_true.1 hlb e (Array.mem_toList_iff.2 he)
        simp [hb] at h2
        rw [getD_push (by omega)]
        exact hall _ h2
      rw [e] at this; cases this
  intro fuel
  induction fuel with
  | zero =>
    intro listed a w hs hd hq
    obtain ⟨h1, h2⟩ := fin listed a w hs hq.1 hq.2
    exact ⟨fun e => absurd e h2, h1 0⟩
  | succ fuel ih =>
    intro listed a w hs hd hq
    by_cases hr : Region.ready md l.toArray listed = []
    · obtain ⟨h1, h2⟩ := fin listed a w hs hr (hq.1 hr)
      exact ⟨fun e => absurd e h2, h1 _⟩
    · obtain ⟨i0, hi0⟩ := List.exists_mem_of_ne_nil _ hr
      have hlt0 : i0 < l.length := by
        obtain ⟨_, o, ho, _⟩ := ready_mem.1 hi0
        have := (Array.getElem?_eq_some_iff.1 ho).1; simpa using this
      refine ⟨fun e => ?_, fun i hi => ?_⟩
      · have := (ready_push (last := last) h hs hlt0).2 hi0
        rw [e] at this; cases this
      · by_cases e : i = l.length
        · subst e
          exact absurd hi (last_not_readyD hw hs hlb hd hi0)
        · have hil : i < l.length := by
            obtain ⟨_, o, ho, _⟩ := ready_mem.1 hi
            have : i < l.length + 1 := by have := (Array.getElem?_eq_some_iff.1 ho).1; simpa using this
            omega
          have hir := (ready_push h hs hil).1 hi
          have := hq.2 i hir
          refine wpOpIn_mono (fun a' w' hq' => ?_) (wpOpIn_push hgd hil (wpOpIn_behind this))
          have := ih (listed.setIfInBounds i true) a' w' (by simp [hs]) (hd.ready hir) hq'
          rw [show (listed.push false).setIfInBounds i true = (listed.setIfInBounds i true).push false by
            apply Array.ext_getElem?
            intro j
            rw [Array.getElem?_setIfInBounds, Array.getElem?_push, Array.getElem?_push, Array.getElem?_setIfInBounds]
            by_cases e1 : i = j
            · subst e1
              simp [hs, hil, Nat.ne_of_lt hil, Nat.lt_succ_of_lt hil]
            · simp [e1]]
          exact this

theorem behindIn_step {Q : Exit → Act → World → Prop} {a : Act} {w : World} (hg : last.guard = none) (h : ∀ K : Act → World → Prop, (∀ a w, Q .normal a w → K a w) → last.wpIn F n P a w K Q) : behindIn F n P l last Q .normal a w := by
  show wpOpIn F n P (l ++ [last]).toArray Q l.length (fun a w => Q .normal a w) a w
  unfold wpOpIn
  rw [arr_get_n]
  simp only [Region.wanted, hg, if_true]
  exact h _ (fun _ _ h => h)

/-- **The last two peeled off, the others quiet: walked once, in the order of the text.** -/
theorem wpIn_region_quiet2 {id : Nat} {A : List Oper} {o1 o2 : Oper} {Q : Exit → Act → World → Prop} {a : Act} {w : World} (hro : F.round = none) (hm : P.follows .mixedOrders = true)
    (hb1 : backB .any A = true) (hb2 : backB .any (A ++ [o1]) = true) (hl1 : lastBackB .any o1 A.length = true) (hl2 : lastBackB .any o2 (A ++ [o1]).length = true)
    (hw1 : waitsB .any A o1 = true) (hw2 : waitsB .any (A ++ [o1]) o2 = true) (hg1 : guardsB A = true) (hg2 : guardsB (A ++ [o1]) = true) (hB : Region.lexB .any A.toArray = true)
    (h : wpQuietIn F n P A.toArray (fun w' => w' = w.drew) (fun a' => behindIn F n P A o1 (behindIn F n P (A ++ [o1]) o2 Q) .normal a' w.drew) A a) :
    (Code.region id (A ++ [o1] ++ [o2]).toArray true).wpIn F n P Q a w := by
  refine wpIn_region_any hm ?_
  simp only [Region.lexB, Bool.and_eq_true] at hB
  have q0 := wpAnyQIn_lex (F := F) (n := n) (P := P) (md := .any) (C := fun w' => w' = w.drew) hB.1 A 0 (Array.replicate A.toArray.size false) a (by simp) (by simpa using hB.2) h
  have q1 : wpAnyIn F n P .any A.toArray (behindIn F n P A o1 (behindIn F n P (A ++ [o1]) o2 Q)) A.length (Array.replicate A.length false) a w.drew := by
    rw [List.size_toArray] at q0
    exact wpAnyIn_of_quiet (C := fun w' => w' = w.drew) (Q := fun a' => behindIn F n P A o1 (behindIn F n P (A ++ [o1]) o2 Q) .normal a' w.drew) hro (fun a' w' hw' hq => by rw [hw']; exact hq) _ _ _ _ rfl q0
  have q2 := wpAnyIn_peel hb1 hl1 hw1 hg1 A.length _ a w.drew (by simp) Down.init q1
  have e1 : (Array.replicate A.length false).push false = Array.replicate (A ++ [o1]).length false := by simp [Array.replicate_succ]
  rw [e1] at q2
  have q3 := wpAnyIn_peel hb2 hl2 hw2 hg2 (A.length + 1) _ a w.drew (by simp) Down.init q2
  have e2 : (Array.replicate (A ++ [o1]).length false).push false = Array.replicate (A ++ [o1] ++ [o2]).toArray.size false := by
    have : (A ++ [o1] ++ [o2]).toArray.size = (A ++ [o1]).length + 1 := by simp
    rw [this, Array.replicate_succ]
  rw [e2] at q3
  have e3 : A.length + 1 + 1 = (A ++ [o1] ++ [o2]).toArray.size := by simp
  rw [e3] at q3
  exact q3
end

/-- The same, the region's operations written out. -/
theorem wpIn_region_quiet_two {F : Fence} {n : Nat} {P : Program} {id : Nat} {lst : List Oper} {Q : Exit → Act → World → Prop} {a : Act} {w : World} (hne : lst ≠ []) (hne2 : lst.dropLast ≠ []) (hro : F.round = none) (hm : P.follows .mixedOrders = true)
    (hb1 : backB .any lst.dropLast.dropLast = true) (hb2 : backB .any lst.dropLast = true) (hl1 : lastBackB .any (lst.dropLast.getLast hne2) lst.dropLast.dropLast.length = true) (hl2 : lastBackB .any (lst.getLast hne) lst.dropLast.length = true)
    (hw1 : waitsB .any lst.dropLast.dropLast (lst.dropLast.getLast hne2) = true) (hw2 : waitsB .any lst.dropLast (lst.getLast hne) = true) (hg1 : guardsB lst.dropLast.dropLast = true) (hg2 : guardsB lst.dropLast = true) (hB : Region.lexB .any lst.dropLast.dropLast.toArray = true)
    (h : wpQuietIn F n P lst.dropLast.dropLast.toArray (fun w' => w' = w.drew) (fun a' => behindIn F n P lst.dropLast.dropLast (lst.dropLast.getLast hne2) (behindIn F n P lst.dropLast (lst.getLast hne) Q) .normal a' w.drew) lst.dropLast.dropLast a) :
    (Code.region id lst.toArray true).wpIn F n P Q a w := by
  have e2 : lst.dropLast.dropLast ++ [lst.dropLast.getLast hne2] = lst.dropLast := List.dropLast_concat_getLast hne2
  have e1 : lst.dropLast ++ [lst.getLast hne] = lst := List.dropLast_concat_getLast hne
  have := wpIn_region_quiet2 (F := F) (n := n) (P := P) (id := id) (A := lst.dropLast.dropLast) (o1 := lst.dropLast.getLast hne2) (o2 := lst.getLast hne) (Q := Q) (a := a) (w := w) hro hm hb1 (by rw [e2]; exact hb2) hl1 (by rw [e2]; exact hl2) hw1 (by rw [e2]; exact hw2) hg1 (by rw [e2]; exact hg2) hB (by rw [e2]; exact h)
  rw [e2, e1] at this
  exact this

section
variable {F : Fence} {n : Nat} {P : Program}

/-- **'for .. := range g { .. }', every round going on to its end.** Pre: what the function knows when it calls yield; Pst: what a round makes; J: what the function leaves. -/
theorem wpIn_range_raw {g : Operand} {ps : Array Tmp} {assign body : Code} {Q : Exit → Act → World → Prop} {a : Act} {w : World}
    (hro : F.round = none) (h1 : 1 ≤ n) {gf : Nat} {lb : Array Value} (hg : a.eval g = .func (.func gf) #[] lb) (hFg : F.fn gf) (eg : ∀ args w, (callFunc gf args).run P w = .ok (.enter gf args) w)
    {ι : Type} (Pre : ι → Array Value → World → Prop) (Pst : ι → Array Value → World → World → Prop) (J : World → Prop) (hps : ∀ i vals W, Pre i vals W → vals.size = ps.size)
    (hround : ∀ (i : ι) (l : Nat) (rd bs : Obj) (vals : Array Value) (W : World), l = w.heap.size + 1 → rd.isCells = false → bs.isCells = false → Pre i vals W → W.heap[l]? = some rd → W.heap[w.heap.size]? = some (.deferred (some [])) →
      assign.wpIn (F.inRound l) (n - 1 - 1) P (Exit.then (fun a₁ W₁ => W₁.heap[l]? = some rd ∧
          body.wpIn (F.inRound l) (n - 1 - 1) P (fun e _ W₃ => e = .normal ∧ W₃.heap[l]? = some bs ∧ Pst i vals W (W₃.putObj l rd)) a₁ (W₁.putObj l bs)) (fun _ _ _ => False))
        { tmps := (ps.zip vals).foldl (fun t (p, v) => t.setIfInBounds p v) a.tmps, defers := [] } W)
    (hiter : ∀ (l : Nat) (rd : Obj), l = w.heap.size + 1 → rd.isCells = false →
      (∀ i vals W, Pre i vals W → W.heap[l]? = some rd → W.heap[w.heap.size]? = some (.deferred (some [])) → YieldAt F (n - 1 - 1) P l vals W fun e W' => e = .returned (.bool true) ∧ Pst i vals W W' ∧ W'.heap[l]? = some rd) →
      CallsIn F (n - 1) P gf (#[.func (.yield l) #[] #[]] ++ lb) ((w.alloc (.deferred (some []))).alloc rd) fun e W' => (∃ v, e = .returned v) ∧ J W' ∧ W'.heap[l]? = some rd ∧ W'.heap[w.heap.size]? = some (.deferred (some [])))
    (hdone : ∀ (W : World) (rd ex : Obj), rd.isCells = false → ex.isCells = false → J W → W.heap[w.heap.size + 1]? = some rd → W.heap[w.heap.size]? = some (.deferred (some [])) →
      Q .normal { a with defers := { target := .collected w.heap.size, args := #[] } :: a.defers } (W.putObj (w.heap.size + 1) ex)) :
    (Code.rangeFunc g ps assign body).wpIn F n P Q a w := by
  refine wpIn_rangeFunc ?_
  intro fn hfn
  rw [hro]
  obtain ⟨rec, hrec⟩ : ∃ rec : LoopState → Option Code → Loop, rec = fun st pe => { state := st, pending := pe, fn, tmps := a.tmps, params := ps, assign, body, defers := w.heap.size } := ⟨_, rfl⟩
  refine ⟨w.heap.size + 1, [{ target := .collected w.heap.size, args := #[] }], (w.alloc (.deferred (some []))).alloc (.loop (rec .ready none)), { target := .fn (.func gf) lb, args := #[.func (.yield (w.heap.size + 1)) #[] #[]] }, (w.alloc (.deferred (some []))).alloc (.loop (rec .ready none)), gf,
    #[.func (.yield (w.heap.size + 1)) #[] #[]] ++ lb, (w.alloc (.deferred (some []))).alloc (.loop (rec .ready none)), ?_, ?_, ?_, ?_, fun _ => h1, ?_⟩
  · rw [hrec]; exact run_enterLoop_outer _ _ _ _ _
  · simp only [resolve, hg]
    simp [go_sem]
  · intro f' hf'; simp [Target.leads] at hf'; subst hf'; exact hFg
  · simp [invoke, go_sem, eg]
  · refine (hiter _ (.loop (rec .ready none)) rfl rfl ?_).mono ?_
    · intro i vals W hp hl hD
      have hlt : w.heap.size + 1 < W.heap.size := (Array.getElem?_eq_some_iff.1 hl).1
      have hy := run_yield (P := P) (args := vals) hl (by rw [hrec]; exact hps i vals W hp)
      rw [hrec] at hy
      refine ⟨fn, _, assign, body, hy, roundIn_of_wpIn hfn ?_⟩
      refine wpIn_mono (hround i _ (.loop (rec .ready none)) (.loop { rec .ready none with state := .busy }) vals W rfl rfl rfl hp hl hD) ?_
      rintro e a1 W1 he
      cases e with
      | normal =>
        obtain ⟨hl1, hb⟩ := he
        refine ⟨_, run_beginRound hl1 (by rw [hrec]), ?_⟩
        refine wpIn_mono hb ?_
        rintro e a3 W3 ⟨rfl, hl3, hP⟩
        have hend := run_endRound (P := P) none hl3
        refine ⟨_, _, hend, rfl, ?_, ?_⟩
        · rw [hrec] at hP ⊢; exact hP
        · rw [hrec]; exact World.putObj_heap_same (Array.getElem?_eq_some_iff.1 hl3).1
      | _ => exact he.elim
    · rintro e W2 ⟨⟨v, rfl⟩, hJ, hl, hD⟩
      exact ⟨none, _, by have := run_endLoop (P := P) hl (by rw [hrec]; simp); rw [hrec] at this; exact this, hdone W2 _ _ rfl rfl hJ hl hD⟩
end
end Go.Proofs.Ytefdncpdlgakpaa
