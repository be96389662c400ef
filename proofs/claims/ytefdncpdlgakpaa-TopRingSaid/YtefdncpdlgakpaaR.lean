import Derived.WalkKit
import Derived.KernelRfl
import Derived.Orders
import Derived.Still
namespace Go.Proofs.Ytefdncpdlgakpaa
open Go.RowKit

/-! A region that draws its order and whose last operation waits for all others: the others first, in whatever order, then the last one. -/
section
variable {P : Program}

/-- all edges lead back -/
def backB (md : Region.Mode) (l : List Oper) : Bool :=
  (List.range l.length).all fun i => match l[i]? with | some o => o.after.toList.all fun e => !Region.binds md e || decide (e.on < i) | none => true
def waitsAllB (md : Region.Mode) (o : Oper) (n : Nat) : Bool :=
  (List.range n).all fun i => o.after.toList.any fun e => Region.binds md e && e.on == i
def lastBackB (md : Region.Mode) (o : Oper) (n : Nat) : Bool := o.after.toList.all fun e => !Region.binds md e || decide (e.on < n)
def guardsB (l : List Oper) : Bool := l.all fun o => match o.guard with | some (g, _) => decide (g < l.length) | none => true

variable {md : Region.Mode} {l : List Oper} {last : Oper}

theorem arr_get_lt {i : Nat} (hi : i < l.length) : (l ++ [last]).toArray[i]? = l.toArray[i]? := by
  simp [List.getElem?_append_left hi]
theorem arr_get_n : (l ++ [last]).toArray[l.length]? = some last := by simp

theorem ready_mem {ops : Array Oper} {listed : Array Bool} {i : Nat} : i ∈ Region.ready md ops listed ↔ listed.getD i true = false ∧ ∃ o, ops[i]? = some o ∧ ∀ e ∈ o.after, Region.binds md e = true → listed.getD e.on false = true := by
  exact mem_ready

theorem getD_push {listed : Array Bool} {b d : Bool} {i : Nat} (hi : i < listed.size) : (listed.push b).getD i d = listed.getD i d := by
  simp [Array.getElem?_push, Nat.ne_of_lt hi]

theorem back_spec (h : backB md l = true) {i : Nat} {o : Oper} (ho : l[i]? = some o) : ∀ e ∈ o.after, Region.binds md e = true → e.on < i := by
  intro e he hb
  have hi := (List.getElem?_eq_some_iff.1 ho).1
  have h1 := List.all_eq_true.1 h i (List.mem_range.2 hi)
  rw [ho] at h1
  have h2 := List.all_eq_true.1 h1 e (Array.mem_toList_iff.2 he)
  simp [hb] at h2
  exact h2

/-- while something is not listed, something is ready -/
theorem none_ready (h : backB md l = true) {listed : Array Bool} (hs : listed.size = l.length) (hr : Region.ready md l.toArray listed = []) : ∀ i, i < l.length → listed.getD i false = true := by
  intro i
  induction i using Nat.strongRecOn with
  | _ i ih =>
    intro hi
    cases hl : listed.getD i false with
    | true => rfl
    | false =>
      exfalso
      have hmem : i ∈ Region.ready md l.toArray listed := ready_mem.2 ⟨by
        have : i < listed.size := by omega
        simp [this] at hl ⊢; exact hl, l[i], by simp [hi], fun e he hb => ih e.on (back_spec h (List.getElem?_eq_getElem hi) e he hb) (by have := back_spec h (List.getElem?_eq_getElem hi) e he hb; omega)⟩
      rw [hr] at hmem
      cases hmem

theorem ready_push (h : backB md l = true) {listed : Array Bool} (hs : listed.size = l.length) {i : Nat} (hi : i < l.length) : i ∈ Region.ready md (l ++ [last]).toArray (listed.push false) ↔ i ∈ Region.ready md l.toArray listed := by
  rw [ready_mem, ready_mem, getD_push (by omega), arr_get_lt hi]
  constructor
  · rintro ⟨h1, o, ho, h2⟩
    exact ⟨h1, o, ho, fun e he hb => by
      have := back_spec h (by simpa using ho) e he hb
      rw [← h2 e he hb, getD_push (by omega)]⟩
  · rintro ⟨h1, o, ho, h2⟩
    exact ⟨h1, o, ho, fun e he hb => by
      have := back_spec h (by simpa using ho) e he hb
      rw [getD_push (by omega)]; exact h2 e he hb⟩

theorem waits_spec {n : Nat} (h : waitsAllB md last n = true) {i : Nat} (hi : i < n) : ∃ e ∈ last.after, Region.binds md e = true ∧ e.on = i := by
  have h1 := List.all_eq_true.1 h i (List.mem_range.2 hi)
  obtain ⟨e, he, h2⟩ := List.any_eq_true.1 h1
  simp at h2
  exact ⟨e, Array.mem_toList_iff.1 he, h2.1, h2.2⟩

theorem last_not_ready (hw : waitsAllB md last l.length = true) {listed : Array Bool} (hs : listed.size = l.length) {i : Nat} (hi : i ∈ Region.ready md l.toArray listed) : l.length ∉ Region.ready md (l ++ [last]).toArray (listed.push false) := by
  intro hm
  obtain ⟨_, o, ho, h2⟩ := ready_mem.1 hm
  rw [arr_get_n] at ho
  cases ho
  obtain ⟨h1, o, ho, _⟩ := ready_mem.1 hi
  have hil : i < l.length := by have := (Array.getElem?_eq_some_iff.1 ho).1; simpa using this
  obtain ⟨e, he, hb, rfl⟩ := waits_spec hw hil
  have := h2 e he hb
  rw [getD_push (by omega)] at this
  have h3 : e.on < listed.size := by omega
  simp [h3] at h1 this
  rw [h1] at this
  cases this

theorem yielded_push (tmps : Array Value) {g : Nat} (hg : g < l.length) : yielded (l ++ [last]).toArray tmps g = yielded l.toArray tmps g := by
  unfold yielded
  rw [arr_get_lt hg]

theorem wanted_push (hgd : guardsB l = true) {i : Nat} {o : Oper} (ho : l[i]? = some o) (tmps : Array Value) : Region.wanted o (yielded (l ++ [last]).toArray tmps) = Region.wanted o (yielded l.toArray tmps) := by
  have h1 := List.all_eq_true.1 hgd o (List.mem_of_getElem? ho)
  unfold Region.wanted
  cases hg : o.guard with
  | none => rfl
  | some gw =>
    obtain ⟨g, want⟩ := gw
    rw [hg] at h1
    simp at h1
    simp only [yielded_push tmps h1]

theorem wpOp_push {Q : Exit → Act → World → Prop} (hgd : guardsB l = true) {i : Nat} (hi : i < l.length) {K : Act → World → Prop} {a : Act} {w : World} (h : wpOp P l.toArray Q i K a w) : wpOp P (l ++ [last]).toArray Q i K a w := by
  unfold wpOp at *
  rw [arr_get_lt hi]
  have ho : l[i]? = some l[i] := List.getElem?_eq_getElem hi
  have ho' : l.toArray[i]? = some l[i] := by simp [hi]
  simp only [ho'] at h ⊢
  rw [wanted_push hgd ho]
  exact h

/-- What is asked behind the others: the last operation, then Q. -/
def behind (P : Program) (l : List Oper) (last : Oper) (Q : Exit → Act → World → Prop) : Exit → Act → World → Prop
  | .normal, a, w => wpOp P (l ++ [last]).toArray Q l.length (fun a w => Q .normal a w) a w
  | e, a, w => Q e a w

theorem wpOp_behind {i : Nat} {Q : Exit → Act → World → Prop} {K : Act → World → Prop} {a : Act} {w : World} (h : wpOp P l.toArray (behind P l last Q) i K a w) : wpOp P l.toArray Q i K a w := by
  unfold wpOp at *
  split
  · rename_i ho; simp only [ho] at h; exact h
  · rename_i o ho
    simp only [ho] at h
    split
    · rename_i hw
      simp only [hw, if_true] at h
      rcases h with h | ⟨h1, h2⟩
      · refine .inl ?_
        unfold Oper.wp at *
        generalize (execOp a.eval o).run P w = r at *
        cases r with
        | ok n w' =>
          cases n <;> simp only [Oper.upon] at h ⊢ <;> first
            | exact h
            | exact Calls.mono h (fun e w'' he => by cases e <;> first | exact he | (obtain ⟨a, w, hq⟩ := he; exact ⟨a, w, hq⟩))
        | halt x w' => cases x <;> simp only [Oper.upon] at h ⊢ <;> exact h
      · exact .inr ⟨h1, h2⟩
    · rename_i hw; simp only [hw] at h; exact h

theorem wpAny_peel {Q : Exit → Act → World → Prop} (h : backB md l = true) (hlb : lastBackB md last l.length = true) (hw : waitsAllB md last l.length = true) (hgd : guardsB l = true) :
    ∀ (fuel : Nat) (listed : Array Bool) (a : Act) (w : World), listed.size = l.length → wpAny P md l.toArray (behind P l last Q) fuel listed a w →
      wpAny P md (l ++ [last]).toArray Q (fuel + 1) (listed.push false) a w := by
  -- behind the last one nothing is left
  have fin : ∀ (listed : Array Bool) (a : Act) (w : World), listed.size = l.length → Region.ready md l.toArray listed = [] → wpOp P (l ++ [last]).toArray Q l.length (fun a w => Q .normal a w) a w →
      (∀ fuel, ∀ i ∈ Region.ready md (l ++ [last]).toArray (listed.push false), wpOp P (l ++ [last]).toArray Q i (wpAny P md (l ++ [last]).toArray Q fuel ((listed.push false).setIfInBounds i true)) a w) ∧ Region.ready md (l ++ [last]).toArray (listed.push false) ≠ [] := by
    intro listed a w hs hr hq
    have hall := none_ready h hs hr
    have hone : ∀ i ∈ Region.ready md (l ++ [last]).toArray (listed.push false), i = l.length := by
      intro i hi
      obtain ⟨_, o, ho, _⟩ := ready_mem.1 hi
      have hil : i < l.length + 1 := by have := (Array.getElem?_eq_some_iff.1 ho).1; simpa using this
      rcases Nat.lt_or_ge i l.length with h' | h'
      · have := (ready_push (last := last) h hs h').1 hi
        rw [hr] at this; cases this
      · omega
    constructor
    · intro fuel i hi
      obtain rfl := hone i hi
      refine wpOp_mono (fun a' w' hq' => ?_) hq
      have hrd : Region.ready md (l ++ [last]).toArray ((listed.push false).setIfInBounds l.length true) = [] := by
        cases hc : Region.ready md (l ++ [last]).toArray ((listed.push false).setIfInBounds l.length true) with
        | nil => rfl
        | cons j js =>
          exfalso
          have hj : j ∈ Region.ready md (l ++ [last]).toArray ((listed.push false).setIfInBounds l.length true) := by rw [hc]; exact List.mem_cons_self
          obtain ⟨h1, o, ho, _⟩ := ready_mem.1 hj
          have hjl : j < l.length + 1 := by have := (Array.getElem?_eq_some_iff.1 ho).1; simpa using this
          by_cases e : j = l.length
          · subst e
            simp [hs] at h1
          · have hjl' : j < l.length := by omega
            have h2 := hall j hjl'
            rw [getD_set_ne true (Ne.symm e), getD_push (by omega)] at h1
            have h3 : j < listed.size := by omega
            simp [h3] at h1 h2
            rw [h1] at h2; cases h2
      cases fuel with
      | zero => exact ⟨hrd, hq'⟩
      | succ fuel => exact ⟨fun _ => hq', fun i hi => by rw [hrd] at hi; cases hi⟩
    · intro e
      have : l.length ∈ Region.ready md (l ++ [last]).toArray (listed.push false) := by
        refine ready_mem.2 ⟨by rw [← hs]; simp, last, arr_get_n, fun e he hb => ?_⟩
        have h2 := List.all_eq_true.1 hlb e (Array.mem_toList_iff.2 he)
        simp [hb] at h2
        rw [getD_push (by omega)]
        exact hall _ h2
      rw [e] at this; cases this
  intro fuel
  induction fuel with
  | zero =>
    intro listed a w hs hq
    obtain ⟨h1, h2⟩ := fin listed a w hs hq.1 hq.2
    exact ⟨fun e => absurd e h2, h1 0⟩
  | succ fuel ih =>
    intro listed a w hs hq
    by_cases hr : Region.ready md l.toArray listed = []
    · obtain ⟨h1, h2⟩ := fin listed a w hs hr (hq.1 hr)
      exact ⟨fun e => absurd e h2, h1 _⟩
    · obtain ⟨i0, hi0⟩ := List.exists_mem_of_ne_nil _ hr
      have hlt0 : i0 < l.length := by
        obtain ⟨_, o, ho, _⟩ := ready_mem.1 hi0
        have := (Array.getElem?_eq_some_iff.1 ho).1; simpa using this
      refine ⟨fun e => ?_, fun i hi => ?_⟩
      · have := (ready_push (last := last) h hs hlt0).2 hi0
        rw [e] at this; cases this
      · by_cases e : i = l.length
        · subst e
          exact absurd hi (last_not_ready hw hs hi0)
        · have hil : i < l.length := by
            obtain ⟨_, o, ho, _⟩ := ready_mem.1 hi
            have : i < l.length + 1 := by have := (Array.getElem?_eq_some_iff.1 ho).1; simpa using this
            omega
          have := hq.2 i ((ready_push h hs hil).1 hi)
          refine wpOp_mono (fun a' w' hq' => ?_) (wpOp_push hgd hil (wpOp_behind this))
          have := ih (listed.setIfInBounds i true) a' w' (by simp [hs]) hq'
          rw [show (listed.push false).setIfInBounds i true = (listed.setIfInBounds i true).push false by
            apply Array.ext_getElem?
            intro j
            rw [Array.getElem?_setIfInBounds, Array.getElem?_push, Array.getElem?_push, Array.getElem?_setIfInBounds]
            by_cases e1 : i = j
            · subst e1
              simp [hs, hil, Nat.ne_of_lt hil, Nat.lt_succ_of_lt hil]
            · simp [e1]]
          exact this

theorem behind_step {Q : Exit → Act → World → Prop} {a : Act} {w : World} (hg : last.guard = none) (h : ∀ K : Act → World → Prop, (∀ a w, Q .normal a w → K a w) → last.wp P a w K Q) : behind P l last Q .normal a w := by
  show wpOp P (l ++ [last]).toArray Q l.length (fun a w => Q .normal a w) a w
  unfold wpOp
  rw [arr_get_n]
  simp only [Region.wanted, hg, if_true]
  exact .inl (h _ (fun _ _ h => h))

/-- **The last one peeled off.** 'lst': the region's operations, written out. -/
theorem wp_region_peel {id : Nat} {lst : List Oper} {Q : Exit → Act → World → Prop} {a : Act} {w : World} (hm : P.follows .mixedOrders = true) (hne : lst ≠ [])
    (hb : backB .any lst.dropLast = true) (hlb : lastBackB .any (lst.getLast hne) lst.dropLast.length = true) (hw : waitsAllB .any (lst.getLast hne) lst.dropLast.length = true) (hg : guardsB lst.dropLast = true)
    (h : wpAny P .any lst.dropLast.toArray (behind P lst.dropLast (lst.getLast hne) Q) lst.dropLast.length (Array.replicate lst.dropLast.length false) a w.drew) : (Code.region id lst.toArray true).wp P Q a w := by
  have e : lst = lst.dropLast ++ [lst.getLast hne] := (List.dropLast_concat_getLast hne).symm
  refine wp_region_any hm ?_
  have := wpAny_peel (P := P) (Q := Q) hb hlb hw hg lst.dropLast.length (Array.replicate lst.dropLast.length false) a w.drew (by simp) h
  rw [← e] at this
  have e2 : (Array.replicate lst.dropLast.length false).push false = Array.replicate lst.toArray.size false := by
    have : lst.toArray.size = lst.dropLast.length + 1 := by
      have := congrArg List.length e
      simp only [List.length_append, List.length_singleton] at this
      rw [List.size_toArray]; exact this
    rw [this, Array.replicate_succ]
  rw [e2] at this
  have e3 : lst.toArray.size = lst.dropLast.length + 1 := by
    have := congrArg List.length e
    simp only [List.length_append, List.length_singleton] at this
    rw [List.size_toArray]; exact this
  rw [e3]
  rw [e3] at this
  exact this
end
end Go.Proofs.Ytefdncpdlgakpaa
