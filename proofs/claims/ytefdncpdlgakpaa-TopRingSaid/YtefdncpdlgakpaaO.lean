import Derived.Test.YtefdncpdlgakpaaJ
import Derived.Deep.LoopGhost
import Derived.WalkSpells
namespace Go.Proofs.Ytefdncpdlgakpaa
open Go.RowKit

/-! The loops of a seam: the iterator. -/
def loopW (next : List Int) : Nat → List Bool → Nat → List Int → List Bool × List Int
  | 0, seen, _, acc => (seen, acc)
  | f + 1, seen, k, acc => if seen.getD k true then (seen, acc) else loopW next f (seen.set k true) (next.getD k 0).toNat (acc ++ [(k : Int)])
def loopsTo (next : List Int) : Nat → List Bool × List (List Int)
  | 0 => (List.replicate 48 false, [])
  | t + 1 => ((loopW next 49 (loopsTo next t).1 t []).1, if (loopW next 49 (loopsTo next t).1 t []).2 = [] then (loopsTo next t).2 else (loopsTo next t).2 ++ [(loopW next 49 (loopsTo next t).1 t []).2])

def unseen (s : List Bool) : Nat := s.countP (fun b => !b)
theorem unseen_set {s : List Bool} {k : Nat} (h : s[k]? = some false) : unseen (s.set k true) + 1 = unseen s := by
  unfold unseen
  induction s generalizing k with
  | nil => simp at h
  | cons b s ih =>
    cases k with
    | zero => simp at h; subst h; simp
    | succ k =>
      simp only [List.getElem?_cons_succ] at h
      have := ih h
      simp only [List.set_cons_succ, List.countP_cons]
      omega
theorem unseen_le (s : List Bool) : unseen s ≤ s.length := List.countP_le_length
theorem loopW_len (next : List Int) : ∀ (f : Nat) (seen : List Bool) (k : Nat) (acc : List Int), (loopW next f seen k acc).1.length = seen.length := by
  intro f
  induction f with
  | zero => intro seen k acc; rfl
  | succ f ih =>
    intro seen k acc
    unfold loopW
    split
    · rfl
    · rw [ih, List.length_set]
theorem loopsTo_len (next : List Int) : ∀ t, (loopsTo next t).1.length = 48 := by
  intro t
  induction t with
  | zero => simp [loopsTo]
  | succ t ih => simp only [loopsTo]; rw [loopW_len, ih]

theorem loopsTo_out (next : List Int) : ∀ t, (loopsTo next t).2.length ≤ t := by
  intro t
  induction t with
  | zero => exact Nat.le_refl _
  | succ t ih =>
    simp only [loopsTo]
    split
    · omega
    · simp; omega

def boolC (s : List Bool) : Array Value := (s.map Value.bool).toArray
theorem boolC_get {s : List Bool} {i : Nat} {x : Bool} (h : s[i]? = some x) : (boolC s)[i]? = some (.bool x) := by simp [boolC, h]
theorem boolC_set (s : List Bool) (i : Nat) (x : Bool) : (boolC s).setIfInBounds i (.bool x) = boolC (s.set i x) := by simp [boolC, List.map_set]

/-- blocks of cells of the body's types -/
def bodyB (W : World) (k : Nat) : Prop := ∃ cs T fr, W.heap[k]? = some (.cells cs T fr) ∧ (T = 38 ∨ T = 43)
/-- blocks that the iterator writes -/
def iterB (n0 base : Nat) (W : World) (k : Nat) : Prop := base ≤ k ∨ n0 ≤ k ∧ ∃ cs fr, W.heap[k]? = some (.cells cs 96 fr)

theorem Blk.not_bodyB {W : World} {b : Nat} {cs : Array Value} {T : TypeId} (h : Blk W b cs T) (h1 : T ≠ 38) (h2 : T ≠ 43) : ¬ bodyB W b := by
  rintro ⟨cs', T', fr, he, ht⟩
  rw [show W.heap[b]? = _ from h] at he
  simp at he
  rcases ht with rfl | rfl
  · exact h1 he.2.1
  · exact h2 he.2.1
theorem not_bodyB_obj {W : World} {b : Nat} {o : Obj} (h : W.heap[b]? = some o) (ho : o.isCells = false) : ¬ bodyB W b := by
  rintro ⟨cs', T', fr, he, ht⟩
  rw [h] at he
  cases he
  cases ho

/-- between two rounds of the iterator's own loop -/
structure LoopI (b1 bx bS l D : Nat) (rd : Obj) (next : List Int) (T : Nat) (J : List (List Int) → Nat → World → Prop) (t base : Nat) (wr : World) : Prop where
  h1 : Blk wr b1 #[.pointer (some ⟨bx, 0, none⟩)] 73
  hx : Blk wr bx (seamC next T) 93
  hS : Blk wr bS (boolC (loopsTo next t).1) 96
  j : J (loopsTo next t).2 base wr
  b : base ≤ wr.heap.size
  l1 : b1 < base
  lx : bx < base
  ll : l < base
  lD : D < base
  rd : wr.heap[l]? = some rd
  d : wr.heap[D]? = some (.deferred (some []))

theorem Blk.ne {w : World} {b b' : Nat} {cs cs' : Array Value} {T T' : TypeId} (h : Blk w b cs T) (h' : Blk w b' cs' T') (hne : T ≠ T') : b ≠ b' := by
  intro e
  subst e
  have := (show w.heap[b]? = _ from h).symm.trans h'
  simp at this
  exact hne this.2

section
variable {b1 bx bS l D : Nat} {rd : Obj} {next : List Int} {T : Nat} {J : List (List Int) → Nat → World → Prop} {t base : Nat} {wr wr' : World}
theorem LoopI.iter (h : LoopI b1 bx bS l D rd next T J t base wr) {n0 : Nat} (h0 : n0 ≤ bS) (ht : Turn (fun k => base ≤ k ∨ k = bS) wr wr') : Turn (iterB n0 base wr) wr wr' :=
  ht.mono fun k _ e => by
    rcases e with e | e
    · exact .inl e
    · subst e; exact .inr ⟨h0, _, _, h.hS⟩
theorem LoopI.k1 (h : LoopI b1 bx bS l D rd next T J t base wr) (ht : Turn (fun k => base ≤ k ∨ k = bS) wr wr') : Blk wr' b1 #[.pointer (some ⟨bx, 0, none⟩)] 73 :=
  h.h1.turn ht (fun e => by
    rcases e with e | e
    · have := h.l1; omega
    · exact h.h1.ne h.hS (by decide) e)
theorem LoopI.kx (h : LoopI b1 bx bS l D rd next T J t base wr) (ht : Turn (fun k => base ≤ k ∨ k = bS) wr wr') : Blk wr' bx (seamC next T) 93 :=
  h.hx.turn ht (fun e => by
    rcases e with e | e
    · have := h.lx; omega
    · exact h.hx.ne h.hS (by decide) e)
theorem ne_of_obj {w : World} {b k : Nat} {cs : Array Value} {Tt : TypeId} {o : Obj} (h : w.heap[k]? = some o) (ho : o.isCells = false) (hb : Blk w b cs Tt) : k ≠ b := by
  intro e
  subst e
  rw [show w.heap[k]? = _ from hb] at h
  cases h
  cases ho
theorem LoopI.kl (h : LoopI b1 bx bS l D rd next T J t base wr) (hc : rd.isCells = false) (ht : Turn (fun k => base ≤ k ∨ k = bS) wr wr') : wr'.heap[l]? = some rd :=
  ht.heap h.rd (fun e => by
    rcases e with e | e
    · have := h.ll; omega
    · exact ne_of_obj h.rd hc h.hS e)
theorem LoopI.kD (h : LoopI b1 bx bS l D rd next T J t base wr) (ht : Turn (fun k => base ≤ k ∨ k = bS) wr wr') : wr'.heap[D]? = some (.deferred (some [])) :=
  ht.heap h.d (fun e => by
    rcases e with e | e
    · have := h.lD; omega
    · exact ne_of_obj h.d rfl h.hS e)
end

/-- within the inner loop: fuel g, at thread k, with seen s, of the loop acc -/
structure LoopJ (bS base : Nat) (next : List Int) (g k : Nat) (s : List Bool) (acc : List Int) (v : Value) (tgt : List Bool × List Int) (wo wr : World) : Prop where
  t : Turn (fun k => base ≤ k ∨ k = bS) wo wr
  hS : Blk wr bS (boolC s) 96
  o : wr.ownsRow base 3 1 v acc.length (acc.map (Value.int .i64))
  e : loopW next g s k acc = tgt
  u : unseen s < g
  sl : s.length = 48

theorem LoopJ.fin {bS base : Nat} {next : List Int} {g k : Nat} {s : List Bool} {acc : List Int} {v : Value} {tgt : List Bool × List Int} {wo wr : World} (h : LoopJ bS base next g k s acc v tgt wo wr) (hs : s[k]? = some true) : tgt = (s, acc) := by
  have e := h.e
  have hu := h.u
  obtain ⟨g', rfl⟩ : ∃ g', g = g' + 1 := ⟨g - 1, by omega⟩
  rw [loopW, List.getD_eq_getElem?_getD, hs] at e
  exact e.symm
theorem LoopJ.step {bS base : Nat} {next : List Int} {g k : Nat} {s : List Bool} {acc : List Int} {v v' : Value} {tgt : List Bool × List Int} {wo wr w' : World} (h : LoopJ bS base next g k s acc v tgt wo wr) (hb : base ≤ wo.heap.size)
    (hk : s[k]? = some false) {o : Obj}
    (ho : w'.ownsRow base 3 1 v' (acc.length + 1) (acc.map (Value.int .i64) ++ [.int .i64 k])) (hg : ((wr.setCell ⟨bS, k, none⟩ (.bool true)).alloc o).grownBy w' v.ownBlock) :
    LoopJ bS base next (g - 1) (next.getD k 0).toNat (s.set k true) (acc ++ [(k : Int)]) v' tgt wo w' := by
  have hu := unseen_set hk
  have hu2 := h.u
  have hS1 : Blk (wr.setCell ⟨bS, k, none⟩ (.bool true)) bS (boolC (s.set k true)) 96 := by
    have := h.hS.set k (.bool true)
    rwa [boolC_set] at this
  have hown1 : (wr.setCell ⟨bS, k, none⟩ (.bool true)).ownsRow base 3 1 v acc.length (acc.map (Value.int .i64)) :=
    own_turn h.o (Turn.grown (S := fun j => j = bS) (grownBy_setCell _ _ _ _) (fun j e => by cases e; rfl)) (fun j hj => h.hS.not_row (by decide) h.o j hj)
  refine ⟨?_, ?_, ?_, ?_, by omega, by rw [List.length_set]; exact h.sl⟩
  · refine ((h.t.setCell (.inr rfl) _).alloc o).trans (Turn.grown hg (fun j hj => .inl ?_))
    exact (hown1.lt j hj.symm).1
  · exact (hS1.alloc o).kept hg (fun e => hS1.not_row (by decide) hown1 bS e.symm rfl)
  · simpa using ho
  · have e := h.e
    obtain ⟨g', rfl⟩ : ∃ g', g = g' + 1 := ⟨g - 1, by omega⟩
    rw [loopW, List.getD_eq_getElem?_getD, hk] at e
    exact e

set_option maxRecDepth 100000 in
set_option maxHeartbeats 1000000 in
theorem loops1_in (n l D b1 bx : Nat) (rd : Obj) (next : List Int) (T : Nat) (w1 : World) (J : List (List Int) → Nat → World → Prop)
    (h1 : Blk w1 b1 #[.pointer (some ⟨bx, 0, none⟩)] 73) (hx : Blk w1 bx (seamC next T) 93) (hlen : next.length = 48) (hT : T ≤ 48) (hnext : ∀ t, t < T → 0 ≤ next.getD t 0 ∧ next.getD t 0 < T)
    (hrd : w1.heap[l]? = some rd) (hrdc : rd.isCells = false) (hD : w1.heap[D]? = some (.deferred (some []))) (h0 : J [] w1.heap.size w1)
    (hJ : ∀ out base W W', J out base W → Turn (iterB w1.heap.size base W) W W' → J out base W')
    (hY : ∀ (out : List (List Int)) (base : Nat) (x : List Int) (W : World) (v : Value), J out base W → base ≤ W.heap.size → out.length < 48 → x ≠ [] → W.ownsRow base 3 1 v x.length (x.map (Value.int .i64)) → W.heap[l]? = some rd → W.heap[D]? = some (.deferred (some [])) →
      YieldAt Fence.wide (n - 1) Try.prog l #[v] W fun e W' => e = .returned (.bool true) ∧ J (out ++ [x]) W'.heap.size W' ∧ Turn (bodyB W) W W' ∧ W'.heap[l]? = some rd) :
    Calls Try.prog 44 #[.func (.yield l) #[] #[], .pointer (some ⟨b1, 0, none⟩)] w1 fun e W' => e = .returned (.tuple #[]) ∧ (∃ base, J (loopsTo next T).2 base W') ∧ W'.heap[l]? = some rd ∧ W'.heap[D]? = some (.deferred (some [])) := by
  obtain ⟨i0, hi, hz0, hz1, hz2⟩ := info_parts Try.infoInt
  have q43 : ∀ (w : World) (a : Option Addr) (n c n' c' : Nat), (binOp .neq 43 (.slice a n c) (.slice none n' c')).run Try.prog w = .ok (.bool (!a.isNone)) w := fun w a n c n' c' => run_neq_slice_nil_any w _ _ a n c n' c' Try.underlying43
  have hc1 : w1.cell? ⟨b1, 0, none⟩ = some (.pointer (some ⟨bx, 0, none⟩)) := by rw [h1.cell]; rfl
  have hcx : w1.cell? ⟨bx, 48, none⟩ = some (.int .i64 T) := by rw [hx.cell, seamC_last hlen]
  have hl1 := h1.lt
  have hlx := hx.lt
  have H1 := Lib.hid h1
  have HX := Lib.hid hx
  have HJ := Lib.hid hJ
  have HY := Lib.hid hY
  have HN := Lib.hid hnext
  have J0 := Lib.hid h0
  have HRD := Lib.hid hrd
  have HD := Lib.hid hD
  have HRC := Lib.hid hrdc
  clear h1 hx hJ hY hnext h0 hrd hD hrdc
  go_enter Try.func44, Try.ntmps44
  go_wp2
  have hB0 : Blk (w1.alloc (.cells (boolC (loopsTo next 0).1) 96)) w1.heap.size (boolC (loopsTo next 0).1) 96 := Blk.new w1 _ _
  have hT0 : Turn (iterB w1.heap.size w1.heap.size w1) w1 (w1.alloc (.cells (boolC (loopsTo next 0).1) 96)) := (Turn.refl _ _).alloc _
  have hs0 : (w1.alloc (.cells (boolC (loopsTo next 0).1) 96)).heap.size = w1.heap.size + 1 := by simp
  obtain ⟨w2, hw2⟩ : ∃ w2, w1.alloc (.cells (boolC (loopsTo next 0).1) 96) = w2 := ⟨_, rfl⟩
  rw [show w1.alloc (.cells #[Value.bool false, Value.bool false, Value.bool false, Value.bool false, Value.bool false, Value.bool false,
          Value.bool false, Value.bool false, Value.bool false, Value.bool false, Value.bool false, Value.bool false,
          Value.bool false, Value.bool false, Value.bool false, Value.bool false, Value.bool false, Value.bool false,
          Value.bool false, Value.bool false, Value.bool false, Value.bool false, Value.bool false, Value.bool false,
          Value.bool false, Value.bool false, Value.bool false, Value.bool false, Value.bool false, Value.bool false,
          Value.bool false, Value.bool false, Value.bool false, Value.bool false, Value.bool false, Value.bool false,
          Value.bool false, Value.bool false, Value.bool false, Value.bool false, Value.bool false, Value.bool false,
          Value.bool false, Value.bool false, Value.bool false, Value.bool false, Value.bool false, Value.bool false] 96) = w1.alloc (.cells (boolC (loopsTo next 0).1) 96) from rfl]
  rw [hw2] at hB0 hT0 hs0 ⊢
  have J1 := Lib.hid (HJ.out _ _ _ _ J0.out hT0)
  have ll := (Array.getElem?_eq_some_iff.1 HRD.out).1
  have lD := (Array.getElem?_eq_some_iff.1 HD.out).1
  have nb : ∀ {b : Nat} {cs : Array Value} {Tt : TypeId}, Blk w1 b cs Tt → Tt ≠ 96 → ¬ iterB w1.heap.size w1.heap.size w1 b := fun h hne e => by
    rcases e with e | ⟨_, cs, fr, e⟩
    · have := h.lt; omega
    · rw [show w1.heap[_]? = _ from h] at e; simp at e; exact hne e.2.1
  have no : ∀ {k : Nat} {o : Obj}, w1.heap[k]? = some o → o.isCells = false → ¬ iterB w1.heap.size w1.heap.size w1 k := fun h ho e => by
    rcases e with e | ⟨_, cs, fr, e⟩
    · have := (Array.getElem?_eq_some_iff.1 h).1; omega
    · rw [h] at e; cases e; cases ho
  have I0 : LoopI b1 bx w1.heap.size l D rd next T J 0 w1.heap.size w2 :=
    ⟨H1.out.turn hT0 (nb H1.out (by decide)), HX.out.turn hT0 (nb HX.out (by decide)), hB0, J1.out, by omega, hl1, hlx, ll, lD, hT0.heap HRD.out (no HRD.out HRC.out), hT0.heap HD.out (no HD.out rfl)⟩
  replace I0 := Lib.hid I0
  clear J1 hB0 hT0 hs0 hw2 ll lD nb no J0 H1 HX HRD HD
  go_loopw [11] (fun i wr => ∃ t base : Nat, t ≤ T ∧ i = .int .i64 t ∧ Hid (LoopI b1 bx w1.heap.size l D rd next T J t base wr)) (fun i _ => T - (intOf i).toNat)
  case atStart => exact ⟨0, _, Nat.zero_le _, rfl, I0.out⟩
  case round =>
    clear I0
    obtain ⟨t, base, ht, rfl, hI⟩ := hrel
    by_cases hlt : t < T
    · obtain ⟨wo, rfl⟩ : ∃ wo : World, wo = wr := ⟨_, rfl⟩
      have hJ0 : LoopJ w1.heap.size base next 49 t (loopsTo next t).1 [] (.slice none 0 0) (loopW next 49 (loopsTo next t).1 t []) wo wo :=
        ⟨Turn.refl _ _, hI.out.hS, World.ownsRow_nil _ _ _ _, rfl, by have := unseen_le (loopsTo next t).1; rw [loopsTo_len] at this; omega, loopsTo_len next t⟩
      replace hJ0 := Lib.hid hJ0
      obtain ⟨tgt, htg⟩ : ∃ tgt, loopW next 49 (loopsTo next t).1 t [] = tgt := ⟨_, rfl⟩
      rw [htg] at hJ0
      have HTG := Lib.hid htg
      clear htg
      go_wp2
      rename_i K10 hK10
      have hK11 : ∀ (a : Act) (w : World), Code.wpIn Fence.wide n Try.prog _ _ a w → K10 a w := fun a w h => hK10 a w ((wpIn_wide (n := n)).1 h)
      clear hK10
      go_loopg [5, 6] 49 (fun g v k wr => ∃ (k' : Nat) (s : List Bool) (acc : List Int), k' < T ∧ k = .int .i64 k' ∧ Hid (LoopJ w1.heap.size base next g k' s acc v tgt wo wr) ∧ acc.length + g ≤ 49 ∧ Hid (v = .slice none 0 0 ∧ acc = [] ∨ acc ≠ [] ∧ ∃ gg cap, v = .slice (some ⟨gg, 0, none⟩) acc.length cap))
      case atStart => exact ⟨t, _, [], hlt, rfl, hJ0.out, by simp, .inl ⟨rfl, rfl⟩⟩
      case round =>
        clear hJ0
        obtain ⟨k, s, acc, hk, rfl, hJ, hacc, hv⟩ := hrel
        have hsl := hJ.out.sl
        have hgu := hJ.out.u
        obtain ⟨sb, hsb⟩ : ∃ sb, s[k]? = some sb := ⟨_, List.getElem?_eq_getElem (by omega)⟩
        have hsc : wr.cell? ⟨w1.heap.size, k, none⟩ = some (.bool sb) := by rw [hJ.out.hS.cell, boolC_get hsb]
        have hsf := hJ.out.hS.frozen k
        have hsl1 := hJ.out.hS.lt
        have hk48 : (k : Int) < 48 := by omega
        cases sb with
        | true =>
          have HT : Hid (tgt = (s, acc)) := hJ.out.fin hsb
          clear hsb
          rcases hv with ⟨rfl, rfl⟩ | ⟨hne, gg, cap, rfl⟩
          · go_wp2
            gi_wp2
            repeat (refine ⟨fun _ _ => trivial, ?_⟩; gi_wp2)
            go_wp2
            go_roundw
            case rel =>
              have e1 : loopsTo next (t + 1) = (s, (loopsTo next t).2) := by
                simp only [loopsTo]
                rw [HTG.out, HT.out]
                rfl
              refine ⟨t + 1, base, by omega, by go_num, ⟨hI.out.k1 hJ.out.t, hI.out.kx hJ.out.t, ?_, ?_, Nat.le_trans hI.out.b hJ.out.t.size, hI.out.l1, hI.out.lx, hI.out.ll, hI.out.lD, hI.out.kl HRC.out hJ.out.t, hI.out.kD hJ.out.t⟩⟩
              · rw [e1]; exact hJ.out.hS
              · rw [e1]; exact HJ.out _ _ _ _ hI.out.j (hI.out.iter (Nat.le_refl _) hJ.out.t)
            case measure => simp [intOf]; omega
          · obtain ⟨fn, tm, ac, bo, hy, hR⟩ := HY.out (loopsTo next t).2 base acc wr _ (HJ.out _ _ _ _ hI.out.j (hI.out.iter (Nat.le_refl _) hJ.out.t)) (Nat.le_trans hI.out.b hJ.out.t.size) (by have := loopsTo_out next t; omega) hne hJ.out.o (hI.out.kl HRC.out hJ.out.t) (hI.out.kD hJ.out.t)
            have HR := Lib.hid hR
            have HNE := Lib.hid hne
            have HYY := Lib.hid hy
            clear hR hne hy
            go_wp2
            have hy := HYY.out
            gi_wp2_with fail
            refine ⟨(by intro h; cases h), HR.out.mono ?_⟩
            rintro e w3 ⟨rfl, hj3, ht3, hl3⟩
            clear hy HR HYY
            gi_wp2
            go_wp2
            go_roundw
            case rel =>
              have e1 : loopsTo next (t + 1) = (s, (loopsTo next t).2 ++ [acc]) := by
                simp only [loopsTo]
                rw [HTG.out, HT.out]
                simp only [if_neg HNE.out]
              have k1 := (hI.out.k1 hJ.out.t)
              have kx := (hI.out.kx hJ.out.t)
              have kb := Nat.le_trans hI.out.b (Nat.le_trans hJ.out.t.size ht3.size)
              refine ⟨t + 1, w3.heap.size, by omega, by go_num, ⟨k1.turn ht3 (k1.not_bodyB (by decide) (by decide)), kx.turn ht3 (kx.not_bodyB (by decide) (by decide)), ?_, ?_, Nat.le_refl _, Nat.lt_of_lt_of_le hI.out.l1 kb, Nat.lt_of_lt_of_le hI.out.lx kb, Nat.lt_of_lt_of_le hI.out.ll kb, Nat.lt_of_lt_of_le hI.out.lD kb, hl3, ht3.heap (hI.out.kD hJ.out.t) (not_bodyB_obj (hI.out.kD hJ.out.t) rfl)⟩⟩
              · rw [e1]; exact hJ.out.hS.turn ht3 (hJ.out.hS.not_bodyB (by decide) (by decide))
              · rw [e1]; exact hj3
            case measure => simp [intOf]; omega
        | false =>
          obtain ⟨y, hy⟩ : ∃ y, next[k]? = some y := ⟨_, List.getElem?_eq_getElem (by omega)⟩
          have hyr := HN.out k hk
          rw [List.getD_eq_getElem?_getD, hy] at hyr
          simp only [Option.getD_some] at hyr
          obtain ⟨yn, rfl⟩ : ∃ yn : Nat, y = yn := ⟨y.toNat, by omega⟩
          have hsb' := Lib.hid hsb
          have HY2 : Hid ((next.getD k 0).toNat = yn) := by unfold Hid; rw [List.getD_eq_getElem?_getD, hy]; rfl
          have HYC : Hid ((seamC next T)[k]? = some (.int .i64 yn)) := seamC_get hy
          clear hsb hy
          go_wp2_with (at_builtin; go_must (refine wpList_app1g (wr.setCell ⟨w1.heap.size, k, none⟩ (.bool true)) wr.heap.size (by simp [World.setCell]) rfl _ _ 43 rfl base 3 i0 (.int .i64 0) 1 8 Try.underlying43 hi hz0 hz1 hz2 rfl (by decide) u5 acc.length _ rfl (own_turn hJ.out.o (Turn.grown (S := fun j => j = w1.heap.size) (grownBy_setCell _ _ k (.bool true)) (fun j e => by cases e; rfl)) (fun j hj => hJ.out.hS.not_row (by decide) hJ.out.o j hj)) [.int .i64 k] rfl rfl (by simp [Value.oneCell']) (by unfold maxLen; omega) (by omega) (by have := hI.out.b; have := hJ.out.t.size; simp [World.setCell]; omega) ?_); intro g' cap' w5 hown' hgrow; have hJ5 := hJ.out.step hI.out.b hsb'.out hown' hgrow; have k1 := (hI.out.k1 hJ5.t).cell 0; have kx := (hI.out.kx hJ5.t).cell k; rw [HYC.out] at kx; have kl1 := (hI.out.k1 hJ5.t).lt; have klx := (hI.out.kx hJ5.t).lt; have HJ5 := Lib.hid hJ5; clear hJ5 hown' hgrow)
          go_roundg (gk - 1)
          case measure => omega
          case rel =>
            have hj := HJ5.out
            rw [HY2.out] at hj
            exact ⟨yn, _, _, by omega, rfl, hj, by simp; omega, .inr ⟨by simp, g', cap', by simp⟩⟩
    · go_wp2
      go_end0
      have ht' : t = T := by omega
      subst ht'
      exact ⟨rfl, ⟨_, hI.out.j⟩, hI.out.rd, hI.out.d⟩
end Go.Proofs.Ytefdncpdlgakpaa
