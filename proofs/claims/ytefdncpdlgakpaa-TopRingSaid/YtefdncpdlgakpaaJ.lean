import Derived.Test.YtefdncpdlgakpaaI
import Derived.Test.YtefdncpdlgakpaaN
namespace Go.Proofs.Ytefdncpdlgakpaa
open Go.RowKit

/-! seams.ends, sewn, loops, Knots. -/

theorem wpList_makeN {P : Program} (w : World) {ops : Array Oper} {rest : List Oper} {o : Oper} {a : Act} {Q : Exit → Act → World → Prop}
    (hg : o.guard = none) (l c : Operand) (t : TypeId) (hop : o.op = Op.makeSlice t l c) (e : TypeId) (i : TypeInfo) (z : Value) (size : Nat) (h1 : P.underlying t = some (.slice e)) (h2 : P.info? e = some i) (h3 : i.zero = some z) (h4 : i.size = size)
    (kl kc : IntKind) (n : Nat) (hl : a.eval l = .int kl n) (hc : a.eval c = .int kc n) (b2 : i.bytes * n ≤ 281474976710656) (b3 : n ≤ maxLen)
    (hK : wpList P ops Q rest (a.put o.dst (.slice (some ⟨w.heap.size, 0, none⟩) n n)) (w.alloc (.cells (madeCells z.cells (n * size)) e))) :
    wpList P ops Q (o :: rest) a w := by
  refine wpList_plain hg fun K hK' => ?_
  have hb' : (i.bytes : Int) * (n : Int) ≤ 281474976710656 := by rw [← Int.natCast_mul]; omega
  have h63 : (n : Int) ≤ 9223372036854775807 := by simp [maxLen] at b3; omega
  have hrun := run_make (P := P) w t e i z h1 h2 h3 kl kc (n : Int) (n : Int) (by omega) (by omega) hb' h63
  subst h4
  rw [Int.toNat_natCast] at hrun
  unfold Oper.wp
  simp [execOp, hop, hl, hc, hrun, Result.andThen]
  exact hK' _ _ hK

/-- the threads in their places at the end -/
def endL (ws : List Wk) : List Int := (mkTo id48 ws ws.length).line
theorem lineAt_all {p : Int} {ws : List Wk} (hok : okSh p ws) : lineAt id48 (mkTo id48 ws ws.length).cr (mkTo id48 ws ws.length).cr.length = endL ws := by
  obtain ⟨h1, h2⟩ := made_mkTo hok id48 ws.length
  rw [h2, lineAt_runC, runC_len, List.take_length, endL, h1]

set_option maxHeartbeats 1000000 in
theorem sends_any (p T : Nat) (hT : T = 2 * p) (a : Option Addr) (cap : Nat) (ws : List Wk) (w : World) (h : Ar eW w a ws) (hok : okSh p ws) :
    Calls Try.prog 28 #[.agg #[.int .i64 p, .slice a ws.length cap]] w fun e w' =>
      (∃ v, e = .returned v ∧ w'.ownsRow w.heap.size 3 1 v T (((endL ws).take T).map (Value.int .i64))) ∧ Grow w w' := by
  have HA := Lib.hid h
  have HK := Lib.hid hok
  clear h hok
  go_enter Try.func28, Try.ntmps28
  go_wp2_with fail
  refine (make_any p a cap ws _ (HA.out.alloc _) HK.out).mono ?_
  rintro e w1 ⟨aC, cC, aP, cP, rfl, hC, hP, b1, b2, b3, b4, hg1⟩
  have hok := okCl_mk HK.out
  have hla := lineAt_all HK.out
  have HE := Lib.hid (fun o => ends_any T aC aP cC cP _ _ (w1.alloc o) (hC.alloc o) (hP.alloc o) (by rw [hT, Int.natCast_mul]; exact hok))
  rw [hla] at HE
  have G1 := Lib.hid (((Below.refl w.heap.size w).alloc (Nat.le_refl _) (Obj.cells #[Value.int IntKind.i64 p, Value.slice a ws.length cap] 24)).trans (hg1.mono (by simp)))
  have hT2 : (2 : Int) * p = T := by omega
  rw [hT2]
  clear hg1 hC hP hok hla b1 b2 b3 b4 hT hT2
  obtain ⟨st, hst⟩ : ∃ st, mkTo id48 ws ws.length = st := ⟨_, rfl⟩
  rw [hst] at HE ⊢
  clear hst
  go_wp2_with (go_at_call 43; go_must (refine (HE.out _).mono ?_); rintro e w5 ⟨⟨v, rfl, ho⟩, hg5⟩; have HO := Lib.hid (own_base (base' := w.heap.size) ho (by have := G1.out.size; simp; omega)); have HG5 := Lib.hid ((G1.out.alloc G1.out.size _).trans (hg5.mono (by have := G1.out.size; simp; omega))); clear ho hg5)
  go_ret
  exact ⟨⟨v, rfl, HO.out⟩, HG5.out⟩

/-- the seam: to whose beginning the end of each thread is sewn; how many threads -/
def seamC (l : List Int) (T : Int) : Array Value := (l.map (Value.int .i64) ++ [Value.int .i64 T]).toArray
theorem seamC_set {l : List Int} {T : Int} {t : Nat} (ht : t < l.length) (x : Int) : (seamC l T).setIfInBounds t (.int .i64 x) = seamC (l.set t x) T := by
  unfold seamC
  rw [List.setIfInBounds_toArray, List.set_append_left _ _ (by simpa using ht), List.map_set]
theorem seamC_get {l : List Int} {T : Int} {t : Nat} {x : Int} (hx : l[t]? = some x) : (seamC l T)[t]? = some (.int .i64 x) := by
  have ht := (List.getElem?_eq_some_iff.1 hx).1
  unfold seamC
  rw [List.getElem?_toArray, List.getElem?_append_left (by simpa using ht), List.getElem?_map, hx]
  rfl
theorem seamC_last {l : List Int} {T : Int} (hl : l.length = 48) : (seamC l T)[48]? = some (.int .i64 T) := by
  unfold seamC
  rw [List.getElem?_toArray, List.getElem?_append_right (by simp [hl])]
  simp [hl]

def nextTo (ends : List Int) (T sh : Nat) (k : Nat) : List Int := (List.range k).foldl (fun l q => l.set (ends.getD q 0).toNat (((q + 2 * sh) % T : Nat) : Int)) (List.replicate 48 0)
theorem nextTo_succ (ends : List Int) (T sh k : Nat) : nextTo ends T sh (k + 1) = (nextTo ends T sh k).set (ends.getD k 0).toNat (((k + 2 * sh) % T : Nat) : Int) := by
  unfold nextTo
  rw [List.range_succ, List.foldl_append]
  rfl
theorem nextTo_len (ends : List Int) (T sh : Nat) : ∀ k, (nextTo ends T sh k).length = 48 := by
  intro k
  induction k with
  | zero => simp [nextTo]
  | succ k ih => rw [nextTo_succ, List.length_set, ih]

set_option maxRecDepth 100000 in
set_option maxHeartbeats 1000000 in
theorem sewn_any (T sh : Nat) (vS : Value) (p : Int) (aS : Option Addr) (nS cS : Nat) (hvS : vS = .agg #[.int .i64 p, .slice aS nS cS]) (a : Option Addr) (cap : Nat) (ends : List Int) (w : World) (h : Ar (eI .i64) w a ends) (hT : ends.length = T) (h48 : T ≤ 48) (hsh : sh ≤ 100) (hr : ∀ x ∈ ends, 0 ≤ x ∧ x < T) :
    Calls Try.prog 27 #[vS, .slice a T cap, .int .i64 sh] w fun e w' =>
      (∃ b, e = .returned (.pointer (some ⟨b, 0, none⟩)) ∧ w.heap.size ≤ b ∧ Blk w' b (seamC (nextTo ends T sh T) T) 93) ∧ Grow w w' := by
  subst hvS
  have HA := Lib.hid h
  have HR := Lib.hid hr
  have HT := Lib.hid hT
  clear h hr hT
  go_enter Try.func27, Try.ntmps27
  go_wp2
  have hB0 := Lib.hid (Blk.new' (w.alloc (.cells #[.int .i64 p, .slice aS nS cS] 24)) (seamC (nextTo ends T sh 0) T) 93 (w.heap.size + 1) (by simp))
  have hG0 := Lib.hid (((Below.refl w.heap.size w).alloc (Nat.le_refl _) (Obj.cells #[.int .i64 p, .slice aS nS cS] 24)).alloc (by simp) (.cells (seamC (nextTo ends T sh 0) T) 93))
  go_loopw [16] (fun i wr => ∃ k : Nat, k ≤ T ∧ i = .int .i64 k ∧ Hid (Blk wr (w.heap.size + 1) (seamC (nextTo ends T sh k) T) 93) ∧ Hid (Grow w wr)) (fun i _ => T - (intOf i).toNat)
  case atStart => exact ⟨0, Nat.zero_le _, rfl, hB0.out, hG0.out⟩
  case round =>
    clear hB0 hG0
    obtain ⟨k, hk, rfl, hb, hg⟩ := hrel
    by_cases hlt : k < T
    · obtain ⟨b, o, x, hx, rfl, hbb, hcx⟩ := (HA.out.grow hg.out).int (i := k) (by rw [HT.out]; exact hlt)
      obtain ⟨hx0, hx1⟩ := HR.out x (List.mem_of_getElem? hx)
      obtain ⟨m, rfl⟩ : ∃ m : Nat, x = m := ⟨x.toNat, by omega⟩
      have hlen := nextTo_len ends T sh k
      have HN : Hid ((nextTo ends T sh k).set m (((k + 2 * sh) % T : Nat) : Int) = nextTo ends T sh (k + 1)) := by
        unfold Hid
        rw [nextTo_succ, List.getD_eq_getElem?_getD, hx]
        rfl
      obtain ⟨y, hy⟩ : ∃ y, (nextTo ends T sh k)[m]? = some y := ⟨_, List.getElem?_eq_getElem (by omega)⟩
      have hcy : wr.cell? ⟨w.heap.size + 1, m, none⟩ = some (.int .i64 y) := by rw [hb.out.cell, seamC_get hy]
      have hf := hb.out.frozen m
      have hbl := hb.out.lt
      have HM : Hid (m < 48) := by show _ < _; omega
      clear hx hy
      go_wp2_with fail
      go_region
      have hval : (((k + 2 * sh) % T : Nat) : Int) = ((k : Int) + 2 * (sh : Int)) % (T : Int) := by
        rw [Int.natCast_emod, Int.natCast_add, Int.natCast_mul]
        rfl
      have HB1 : Hid (Blk (wr.setCell ⟨w.heap.size + 1, m, none⟩ (.int .i64 (((k : Int) + 2 * (sh : Int)) % (T : Int)))).drew (w.heap.size + 1) (seamC (nextTo ends T sh (k + 1)) T) 93) := by
        have := hb.out.set m (.int .i64 (((k : Int) + 2 * (sh : Int)) % (T : Int)))
        rw [seamC_set (by rw [hlen]; exact HM.out), ← hval, HN.out] at this
        rw [← hval]
        exact this.drew
      have HG1 := Lib.hid ((hg.out.setCell (p := ⟨w.heap.size + 1, m, none⟩) (by simp) (.int .i64 (((k : Int) + 2 * (sh : Int)) % (T : Int)))).drew)
      clear hval hb hg hcy hf
      go_wp2
      go_roundw
      case rel => exact ⟨k + 1, by omega, by go_num, HB1.out, HG1.out⟩
      case measure => simp [intOf]; omega
    · go_wp2
      go_ret
      have hk' : k = T := by omega
      subst hk'
      exact ⟨⟨_, rfl, by omega, hb.out⟩, hg.out⟩

/-! Knots -/
def knF (p sh k j : Nat) : Int := if j / 2 < k then (if j % 2 = 0 then ((j / 2 : Nat) : Int) else (((j / 2 + sh) % p : Nat) : Int)) else 0
def knC (p sh k : Nat) : Array Value := ((List.range (2 * p)).map fun j => Value.int .i64 (knF p sh k j)).toArray
theorem knC_get {p sh k j : Nat} (hj : j < 2 * p) : (knC p sh k)[j]? = some (.int .i64 (knF p sh k j)) := by
  unfold knC
  rw [List.getElem?_toArray, List.getElem?_map, List.getElem?_range hj]
  rfl
theorem knC_set {p sh k : Nat} (hk : k < p) : ((knC p sh k).setIfInBounds (2 * k) (.int .i64 k)).setIfInBounds (2 * k + 1) (.int .i64 (((k + sh) % p : Nat) : Int)) = knC p sh (k + 1) := by
  apply Array.ext_getElem?
  intro j
  simp only [Array.getElem?_setIfInBounds]
  have hs : (knC p sh k).size = 2 * p := by simp [knC]
  by_cases h1 : 2 * k + 1 = j
  · subst h1
    rw [if_pos rfl, knC_get (by omega), if_pos (by simp [hs]; omega)]
    unfold knF
    rw [if_pos (by omega), if_neg (by omega), show (2 * k + 1) / 2 = k by omega]
  · rw [if_neg h1]
    by_cases h2 : 2 * k = j
    · subst h2
      rw [if_pos rfl, knC_get (by omega), if_pos (by omega)]
      unfold knF
      rw [if_pos (by omega), if_pos (by omega), show (2 * k) / 2 = k by omega]
    · rw [if_neg h2]
      by_cases hj : j < 2 * p
      · rw [knC_get hj, knC_get hj]
        congr 2
        unfold knF
        by_cases h3 : j / 2 < k
        · simp only [if_pos h3, if_pos (show j / 2 < k + 1 by omega)]
        · simp only [if_neg h3, if_neg (show ¬ j / 2 < k + 1 by omega)]
      · rw [Array.getElem?_eq_none (by omega), Array.getElem?_eq_none (by simp [knC]; omega)]
theorem knC_zero (p sh : Nat) : madeCells #[.int .i64 0, .int .i64 0] (p * 2) = knC p sh 0 := by
  apply Array.ext_getElem?
  intro j
  by_cases hj : j < 2 * p
  · rw [knC_get hj]
    unfold madeCells
    rw [Array.getElem?_map, Array.getElem?_range]
    rw [if_pos (by omega)]
    simp only [Option.map_some, knF, Nat.not_lt_zero, if_false]
    have : j % 2 = 0 ∨ j % 2 = 1 := by omega
    rcases this with h | h <;> simp [h]
  · rw [Array.getElem?_eq_none (by simp [madeCells]; omega), Array.getElem?_eq_none (by simp [knC]; omega)]

theorem Try.infoKnot : (Try.prog.info? 69).map (fun i => (i.zero, i.size, i.bytes)) = some (some (.agg #[.int .i64 0, .int .i64 0]), 2, 16) := by kernel_rfl

set_option maxRecDepth 100000 in
set_option maxHeartbeats 1000000 in
theorem knots_any (p sh : Nat) (a : Option Addr) (cap : Nat) (ws : List Wk) (w : World) (h : Ar eW w a ws) (hok : okSh p ws) (hsh : sh < p) :
    Calls Try.prog 6 #[.agg #[.int .i64 p, .slice a ws.length cap], .int .i64 sh] w fun e w' =>
      (∃ b n, e = .returned (.tuple #[.slice (some ⟨b, 0, none⟩) p p, n, .int .i64 0]) ∧ Blk w' b (knC p sh p) 69) ∧ Grow w w' := by
  obtain ⟨i0, hi, hz0, hz1, hz2⟩ := info_parts Try.infoKnot
  have hp24 := hok.2.1
  have hp2 := hok.1
  have HA := Lib.hid h
  have HK := Lib.hid hok
  clear h hok
  go_enter Try.func6, Try.ntmps6
  go_wp2_with fail
  refine (asked_ok p sh a cap ws _ (HA.out.alloc _) HK.out (by omega) (by omega)).mono ?_
  rintro e w1 ⟨rfl, hg1⟩
  have S1 := (Blk.new w #[.int .i64 p, .slice a ws.length cap] 24).grow hg1
  have hs0 : w1.cell? ⟨w.heap.size, 0, none⟩ = some (.int .i64 p) := by rw [S1.cell]; rfl
  have hsl := S1.lt
  have HS := Lib.hid S1
  have HG := Lib.hid (((Below.refl w.heap.size w).alloc (Nat.le_refl _) (Obj.cells #[Value.int IntKind.i64 p, Value.slice a ws.length cap] 24)).trans (hg1.mono (by simp)))
  clear hg1 S1
  go_wp2_with (at_make; refine wpList_makeN _ rfl _ _ 35 rfl 69 i0 _ 2 Try.underlying35 hi hz0 hz1 .i64 .i64 p rfl rfl (by rw [hz2]; omega) (by simp [maxLen]; omega) ?_)
  rw [show madeCells #[.int .i64 0, .int .i64 0] (p * 2) = knC p sh 0 from knC_zero p sh]
  have hB0 := Lib.hid (Blk.new w1 (knC p sh 0) 69)
  go_loopw [21] (fun i wr => ∃ k : Nat, k ≤ p ∧ i = .int .i64 k ∧ Hid (Blk wr w1.heap.size (knC p sh k) 69) ∧ Hid (Below w1.heap.size w1 wr)) (fun i _ => p - (intOf i).toNat)
  case atStart => exact ⟨0, Nat.zero_le _, rfl, hB0.out, (Below.refl _ _).alloc (Nat.le_refl _) _⟩
  case round =>
    clear hB0 hs0
    obtain ⟨k, hk, rfl, hb, hg⟩ := hrel
    have hs0 : wr.cell? ⟨w.heap.size, 0, none⟩ = some (.int .i64 p) := by rw [(HS.out.below hg.out hsl).cell]; rfl
    have hsl0 := cell_lt hs0
    by_cases hlt : k < p
    · have hc0 : wr.cell? ⟨w1.heap.size, k * 2, none⟩ = some (.int .i64 (knF p sh k (k * 2))) := by rw [hb.out.cell, knC_get (by omega)]
      have hc1 : wr.cell? ⟨w1.heap.size, k * 2 + 1, none⟩ = some (.int .i64 (knF p sh k (k * 2 + 1))) := by rw [hb.out.cell, knC_get (by omega)]
      have hf0 := hb.out.frozen (k * 2)
      have hf1 := hb.out.frozen (k * 2 + 1)
      have hbl := hb.out.lt
      have hval : (((k + sh) % p : Nat) : Int) = ((k : Int) + (sh : Int)) % (p : Int) := by
        rw [Int.natCast_emod, Int.natCast_add]
      have HB1 : Hid (Blk ((wr.setCell ⟨w1.heap.size, k * 2, none⟩ (.int .i64 k)).setCell ⟨w1.heap.size, k * 2 + 1, none⟩ (.int .i64 (((k : Int) + (sh : Int)) % (p : Int)))) w1.heap.size (knC p sh (k + 1)) 69) := by
        have := (hb.out.set (k * 2) (.int .i64 k)).set (k * 2 + 1) (.int .i64 (((k : Int) + (sh : Int)) % (p : Int)))
        rw [show k * 2 = 2 * k by omega, ← hval, knC_set hlt] at this
        rw [show k * 2 = 2 * k by omega, ← hval]
        exact this
      have HG1 := Lib.hid ((hg.out.setCell (p := ⟨w1.heap.size, k * 2, none⟩) (Nat.le_refl _) (.int .i64 k)).setCell (p := ⟨w1.heap.size, k * 2 + 1, none⟩) (Nat.le_refl _) (.int .i64 (((k : Int) + (sh : Int)) % (p : Int))))
      clear hval hb hg
      go_wp2
      go_roundw
      case rel => exact ⟨k + 1, by omega, by go_num, HB1.out, HG1.out⟩
      case measure => simp [intOf]; omega
    · have hk' : k = p := by omega
      subst hk'
      go_wp2
      go_region
      go_wp2
      refine bodyPost_ret (results_tmp3 rfl _ _ _) rfl ⟨⟨_, _, rfl, hb.out⟩, ?_⟩
      exact (HG.out.trans (hg.out.mono HG.out.size)).drew

/-! loops -/
theorem loopsF_any (b : Nat) (w : World) : Calls Try.prog 29 #[.pointer (some ⟨b, 0, none⟩)] w fun e w' =>
    e = .returned (.func (.func 44) #[] #[.pointer (some ⟨w.heap.size, 0, none⟩)]) ∧ w' = w.alloc (.cells #[.pointer (some ⟨b, 0, none⟩)] 73) := by
  have hmf := run_makeFunc_fn Try.prog
  go_enter Try.func29, Try.ntmps29
  go_wp2
  go_ret
  exact ⟨rfl, rfl⟩

end Go.Proofs.Ytefdncpdlgakpaa
