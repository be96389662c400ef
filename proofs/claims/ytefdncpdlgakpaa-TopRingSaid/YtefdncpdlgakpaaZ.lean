import Derived.Test.YtefdncpdlgakpaaX
import Derived.Laws.Bits64b
import Derived.Laws.CopyOwn
namespace Go.Proofs.Ytefdncpdlgakpaa
open Go.RowKit

/-! math/bits.Mul at small numbers; slices.Repeat; seams.Repeat. -/
theorem mask32 (a : Nat) (ha : a ≤ 4000000) : bits .and .u64 (a : Int) 4294967295 = (a : Int) := by
  have h := bits_and_u64_nat a 4294967295 (by omega) (by omega)
  have e : a &&& 4294967295 = a := by
    have := Nat.and_two_pow_sub_one_eq_mod a 32
    rw [show (2 ^ 32 - 1 : Nat) = 4294967295 by decide] at this
    rw [this]
    exact Nat.mod_eq_of_lt (by omega)
  rw [e] at h
  exact h
theorem wrapU (a : Nat) (ha : a ≤ 4000000) : IntKind.u64.wrap (a : Int) = (a : Int) := by rw [IntKind.wrap_u64]; omega
theorem divU (a : Nat) (ha : a ≤ 4000000) : (a : Int) / 4294967296 = 0 := by omega
theorem wrapU0 : IntKind.u64.wrap 0 = 0 := by rw [IntKind.wrap_u64]; rfl
theorem maskU0 : bits .and .u64 0 4294967295 = 0 := mask32 0 (by omega)

theorem mul64_any (x y : Nat) (hx : x ≤ 20000) (hy : y ≤ 200) (w : World) : Calls Try.prog 48 #[.int .u64 x, .int .u64 y] w fun e w' => e = .returned (.tuple #[.int .u64 0, .int .u64 ((x * y : Nat) : Int)]) ∧ w' = w := by
  have hp : x * y ≤ 20000 * 200 := Nat.mul_le_mul hx hy
  obtain ⟨p, hpe⟩ : ∃ p, x * y = p := ⟨_, rfl⟩
  have hpi : (x : Int) * (y : Int) = (p : Int) := by rw [← hpe]; exact (Int.natCast_mul x y).symm
  rw [hpe] at hp ⊢
  have HPI := Lib.hid hpi
  clear hpi hpe
  go_enter Try.func48, Try.ntmps48
  go_wp2
  simp only [divU x (by omega), divU y (by omega), mask32 x (by omega), mask32 y (by omega), Int.zero_mul, Int.mul_zero, HPI.out, wrapU p hp, wrapU0, divU p hp, Int.add_zero, Int.zero_add, maskU0, Int.zero_ediv, mask32 p hp]
  go_ret2
  exact ⟨rfl, rfl⟩
theorem mul_any (x y : Nat) (hx : x ≤ 20000) (hy : y ≤ 200) (w : World) : Calls Try.prog 36 #[.int .u64 x, .int .u64 y] w fun e w' => e = .returned (.tuple #[.int .u64 0, .int .u64 ((x * y : Nat) : Int)]) ∧ w' = w := by
  go_enter Try.func36, Try.ntmps36
  go_wp2_with (go_at_call 48; go_must (refine (mul64_any x y hx hy w).mono ?_); rintro e w' ⟨rfl, rfl⟩)
  go_ret2
  exact ⟨rfl, rfl⟩

/-! copy of any cells -/
theorem wp_copy_arr {P : Program} {o : Oper} {a : Act} {w : World} {K : Act → World → Prop} {Q : Exit → Act → World → Prop} (d s : Operand) (dT sT : TypeId)
    (ho : o.op = .call { callee := .builtin .copy, args := #[d, s], argTypes := #[dT, sT] }) (elem : TypeId) (hu : P.underlying dT = some (.slice elem)) (size : Nat) (hs0 : 0 < size) (hsz : (P.info? elem).map (·.size) = some size)
    (g off dLen dCap : Nat) (ad : Option Addr) (sLen sCap : Nat) (hd : a.eval d = .slice (some ⟨g, off, none⟩) dLen dCap) (hs : a.eval s = .slice ad sLen sCap)
    (cur : List Value) (t : TypeId) (hg : w.heap[g]? = some (.cells cur.toArray t (0, 0))) (cs : List Value) (m : Nat) (hm : m = Nat.min sLen dLen) (hn : cs.length = m * size)
    (hA : Arr w ad cs) (hfit : off + cs.length ≤ cur.length) (h1 : ∀ v ∈ cs, v.oneCell' = true)
    (h : K (a.put o.dst (goInt m)) (w.setRow g (splice cur off cs).toArray)) : Oper.wp P o a w K Q := by
  subst hm
  have hst := run_storeCells_at P g off t cs 0 cur.toArray w hg (by simpa using hfit) h1
  have hw : w.setRow g (splice cur off cs).toArray = w.setRow g (cur.toArray.toList.take (off + 0) ++ cs ++ cur.toArray.toList.drop (off + 0 + cs.length)).toArray := by simp [splice]
  rw [hw] at h
  obtain ⟨R, hR⟩ : ∃ R, w.setRow g (cur.toArray.toList.take (off + 0) ++ cs ++ cur.toArray.toList.drop (off + 0 + cs.length)).toArray = R := ⟨_, rfl⟩
  rw [hR] at h hst
  clear hw hR
  have hrun : (Builtin.copy_ #[dT, sT] o.type #[.slice (some ⟨g, off, none⟩) dLen dCap, .slice ad sLen sCap]).run P w = .ok (goInt (Nat.min sLen dLen)) R := by
    cases hq : P.info? elem with
    | none => simp [hq] at hsz
    | some i =>
      have hi : i.size = size := by simpa [hq] using hsz
      cases ad with
      | none =>
        have h0 : cs = [] := by
          cases cs with
          | nil => rfl
          | cons y ys => obtain ⟨b, o', e', _⟩ := hA (by simp); cases e'
        subst h0
        have hm : Nat.min sLen dLen = 0 := by
          simp only [List.length_nil] at hn
          rcases Nat.mul_eq_zero.1 hn.symm with h | h
          · exact h
          · omega
        simp [Builtin.copy_, run_underlying hu, Builtin.lenOf, Builtin.firstCells, sizeOf, typeInfo, hq, hi, hm, hst]
      | some ad =>
        have hl := run_loadCells_list (P := P) (w := w) ad cs (fun j v hv => by
          have hne : cs ≠ [] := by rintro rfl; simp at hv
          obtain ⟨b, o', e', hc⟩ := hA hne
          cases e'
          rw [Addr.add_off]
          exact hc j v hv)
        rw [hn] at hl
        simp [Builtin.copy_, run_underlying hu, Builtin.lenOf, Builtin.firstCells, sizeOf, typeInfo, hq, hi, hl, hst]
  unfold Oper.wp
  simp [execOp, ho, resolve, invoke, builtin, hd, hs, hrun, Result.andThen]
  exact h

theorem wpList_copy_arr {P : Program} {ops : Array Oper} {rest : List Oper} {o : Oper} {a : Act} {w : World} {Q : Exit → Act → World → Prop} (hgd : o.guard = none) (d s : Operand) (dT sT : TypeId)
    (ho : o.op = .call { callee := .builtin .copy, args := #[d, s], argTypes := #[dT, sT] }) (elem : TypeId) (hu : P.underlying dT = some (.slice elem)) (size : Nat) (hs0 : 0 < size) (hsz : (P.info? elem).map (·.size) = some size)
    (g off dLen dCap : Nat) (ad : Option Addr) (sLen sCap : Nat) (hd : a.eval d = .slice (some ⟨g, off, none⟩) dLen dCap) (hs : a.eval s = .slice ad sLen sCap)
    (cur : List Value) (t : TypeId) (hg : w.heap[g]? = some (.cells cur.toArray t (0, 0))) (cs : List Value) (m : Nat) (hm : m = Nat.min sLen dLen) (hn : cs.length = m * size)
    (hA : Arr w ad cs) (hfit : off + cs.length ≤ cur.length) (h1 : ∀ v ∈ cs, v.oneCell' = true)
    (h : wpList P ops Q rest (a.put o.dst (goInt m)) (w.setRow g (splice cur off cs).toArray)) : wpList P ops Q (o :: rest) a w :=
  wpList_plain hgd fun _ hK => wp_copy_arr d s dT sT ho elem hu size hs0 hsz g off dLen dCap ad sLen sCap hd hs cur t hg cs m hm hn hA hfit h1 (hK _ _ h)

/-! c copies of a list -/
def repC {α : Type} (c : Nat) (X : List α) : List α := (List.replicate c X).flatten
theorem repC_succ {α : Type} (c : Nat) (X : List α) : repC (c + 1) X = X ++ repC c X := by simp [repC, List.replicate_succ]
theorem repC_len {α : Type} (c : Nat) (X : List α) : (repC c X).length = c * X.length := by
  induction c with
  | zero => simp [repC]
  | succ c ih => rw [repC_succ, List.length_append, ih, Nat.succ_mul, Nat.add_comm]
theorem repC_get {α : Type} (c : Nat) (X : List α) : ∀ j, j < c * X.length → (repC c X)[j]? = X[j % X.length]? := by
  induction c with
  | zero => intro j h; simp at h
  | succ c ih =>
    intro j h
    rw [repC_succ, List.getElem?_append]
    by_cases hj : j < X.length
    · rw [if_pos hj, Nat.mod_eq_of_lt hj]
    · rw [if_neg hj]
      rw [ih (j - X.length) (by rw [Nat.succ_mul] at h; omega)]
      rw [← Nat.mod_eq_sub_mod (by omega)]
theorem repC_flatMap {α β : Type} (f : α → List β) (c : Nat) (X : List α) : (repC c X).flatMap f = repC c (X.flatMap f) := by
  induction c with
  | zero => rfl
  | succ c ih => rw [repC_succ, repC_succ, List.flatMap_append, ih]

/-- the first n cells of cur are those of copies of X -/
def Rep {α : Type} (X cur : List α) (n : Nat) : Prop := ∀ j, j < n → cur[j]? = X[j % X.length]?
theorem splice_get {α : Type} (cur cs : List α) (off j : Nat) (h : off + cs.length ≤ cur.length) : (splice cur off cs)[j]? = if j < off then cur[j]? else if j < off + cs.length then cs[j - off]? else cur[j]? := by
  unfold splice
  rw [List.getElem?_append, List.length_take, Nat.min_eq_left (by omega)]
  by_cases h1 : j < off
  · rw [if_pos h1, if_pos h1, List.getElem?_take, if_pos h1]
  · rw [if_neg h1, if_neg h1, List.getElem?_append]
    by_cases h2 : j < off + cs.length
    · rw [if_pos (by omega), if_pos h2]
    · rw [if_neg (by omega), if_neg h2, List.getElem?_drop]
      congr 1
      omega
theorem Rep.start {α : Type} {X cur : List α} (h : X.length ≤ cur.length) : Rep X (splice cur 0 X) X.length := by
  intro j hj
  rw [splice_get _ _ _ _ (by omega), if_neg (by omega), if_pos (by omega), Nat.mod_eq_of_lt hj]
  rfl
theorem Rep.step {α : Type} {X cur : List α} {n m : Nat} (h : Rep X cur n) (hd : n % X.length = 0) (hm : m ≤ n) (hf : n + m ≤ cur.length) : Rep X (splice cur n (cur.take m)) (n + m) := by
  intro j hj
  have hl : (cur.take m).length = m := by rw [List.length_take]; omega
  rw [splice_get _ _ _ _ (by rw [hl]; exact hf), hl]
  by_cases h1 : j < n
  · rw [if_pos h1]; exact h j h1
  · rw [if_neg h1, if_pos hj, List.getElem?_take, if_pos (by omega), h _ (by omega)]
    congr 1
    have e : j = (j - n) + n := by omega
    conv => rhs; rw [e]
    rw [Nat.add_mod, hd, Nat.add_zero, Nat.mod_mod]
theorem Rep.done {α : Type} {X cur : List α} {c : Nat} (h : Rep X cur (c * X.length)) (hl : cur.length = c * X.length) : cur = repC c X := by
  apply List.ext_getElem?
  intro j
  by_cases hj : j < c * X.length
  · rw [h j hj, repC_get c X j hj]
  · rw [List.getElem?_eq_none (by omega), List.getElem?_eq_none (by rw [repC_len]; omega)]
theorem infoSize {P : Program} {t : TypeId} {i : TypeInfo} {n : Nat} (h : P.info? t = some i) (hn : i.size = n) : (P.info? t).map (·.size) = some n := by rw [h, ← hn]; rfl
theorem make_len (z : Array Value) (n : Nat) : (madeCells z n).toList.length = n := by simp [madeCells]

set_option maxRecDepth 100000 in
set_option maxHeartbeats 1000000 in
theorem repeatW_any (a : Option Addr) (cap : Nat) (xs : List Wk) (c : Nat) (w : World) (h : Ar eW w a xs) (hN : xs.length ≤ 20000) (hc1 : 1 ≤ c) (hc : c ≤ 200) :
    Calls Try.prog 31 #[.slice a xs.length cap, .int .i64 c] w fun e w' => (∃ v, e = .returned v ∧ w'.ownsRow w.heap.size 56 3 v (xs.length * c) ((repC c xs).flatMap eW.c)) ∧ Grow w w' := by
  obtain ⟨i0, hi, hz0, hz1, hz2⟩ := info_parts Try.infoWork
  have hp : xs.length * c ≤ 20000 * 200 := Nat.mul_le_mul hN hc
  obtain ⟨p, hpe⟩ : ∃ p, xs.length * c = p := ⟨_, rfl⟩
  rw [hpe] at hp ⊢
  have hpn : xs.length ≤ p := by rw [← hpe]; exact Nat.le_mul_of_pos_right _ hc1
  have hp2 : (p : Int) ≤ 9223372036854775807 := by omega
  obtain ⟨N, hNe⟩ : ∃ N, xs.length = N := ⟨_, rfl⟩
  rw [hNe] at hpn hN hpe ⊢
  have hXl : (xs.flatMap eW.c).length = N * 3 := by rw [flat_len, hNe]; rfl
  obtain ⟨X, hX⟩ : ∃ X, xs.flatMap eW.c = X := ⟨_, rfl⟩
  have hA : Arr w a X := hX ▸ h
  have h1 : ∀ v ∈ X, v.oneCell' = true := by
    intro u hu
    rw [← hX] at hu
    obtain ⟨x, _, hux⟩ := List.mem_flatMap.1 hu
    simp only [eW, List.mem_cons, List.not_mem_nil, or_false] at hux
    rcases hux with rfl | rfl | rfl <;> rfl
  rw [repC_flatMap, hX]
  rw [hX] at hXl
  have HA := Lib.hid hA
  have HX := Lib.hid hXl
  have HPE := Lib.hid hpe
  have HM := Lib.hid (mul_any N c hN hc)
  rw [hpe] at HM
  have H1 := Lib.hid h1
  clear h hA h1 hXl hX hpe hNe
  go_enter Try.func31, Try.ntmps31
  go_wp2_with (first | (go_at_call 36; go_must (refine (HM.out _).mono ?_); rintro e w' ⟨rfl, hw'⟩; obtain rfl := hw'.symm) | (at_make; refine wpList_makeN _ rfl _ _ 22 rfl 56 i0 _ 3 Try.underlying22 hi hz0 hz1 .i64 .i64 p rfl rfl (by rw [hz2]; omega) (by simp [maxLen]; omega) ?_) | (refine wpList_copy_arr rfl _ _ 22 22 rfl 56 Try.underlying22 3 (by decide) (infoSize hi hz1) w.heap.size 0 p p a N cap rfl rfl (madeCells #[.int .i64 0, .int .i64 0, .string ByteArray.empty] (p * 3)).toList 56 (by rw [Array.toArray_toList]; exact Blk.new w _ _) X N (Nat.min_eq_left hpn).symm HX.out (Arr.grow HA.out ((Below.refl _ _).alloc (Nat.le_refl _) _) (Nat.le_refl _)) (by rw [make_len, HX.out]; omega) H1.out ?_))
  clear hp2
  obtain ⟨cur1, hcur1⟩ : ∃ cur1, splice (madeCells #[.int .i64 0, .int .i64 0, .string ByteArray.empty] (p * 3)).toList 0 X = cur1 := ⟨_, rfl⟩
  have HC1 : Hid (cur1.length = p * 3) := by
    show _ = _
    rw [← hcur1, length_splice _ _ _ (by rw [make_len, HX.out]; omega), make_len]
    skip
  have HR1 : Hid (Rep X cur1 (N * 3)) := by
    rw [← hcur1, ← HX.out]
    exact Rep.start (by rw [make_len, HX.out]; omega)
  rw [hcur1]
  have HB1 := Lib.hid ((Blk.new w (madeCells #[.int .i64 0, .int .i64 0, .string ByteArray.empty] (p * 3)) 56).row cur1.toArray)
  have HG1 : Hid (Grow w ((w.alloc (.cells (madeCells #[.int .i64 0, .int .i64 0, .string ByteArray.empty] (p * 3)) 56)).setRow w.heap.size cur1.toArray)) := ((Below.refl _ w).alloc (Nat.le_refl _) (.cells (madeCells #[.int .i64 0, .int .i64 0, .string ByteArray.empty] (p * 3)) 56)).grown (grownBy_setRow _ _ _) (by simp) (fun k hk => by cases hk; exact Nat.le_refl _)
  go_loopw [8] (fun i wr => ∃ n : Nat, n ≤ p ∧ i = .int .i64 n ∧ N ≤ n ∧ Hid (n % N = 0 ∧ ∃ cur : List Value, Blk wr w.heap.size cur.toArray 56 ∧ Rep X cur (n * 3) ∧ cur.length = p * 3) ∧ Hid (Grow w wr)) (fun i _ => p - (intOf i).toNat)
  case atStart => exact ⟨N, hpn, rfl, Nat.le_refl _, ⟨Nat.mod_self _, cur1, HB1.out, HR1.out, HC1.out⟩, HG1.out⟩
  case round =>
    clear HB1 HG1 HC1 HR1 hcur1
    obtain ⟨n, hn, rfl, hNn, hq, hg⟩ := hrel
    obtain ⟨hmod, cur, hb, hrep, hlen⟩ := hq.out
    by_cases hlt : n < p
    · have hlt' : (n : Int) < p := by omega
      have hle' : (n : Int) ≤ p := by omega
      obtain ⟨m, hm⟩ : ∃ m, Nat.min n (p - n) = m := ⟨_, rfl⟩
      have HMI := Lib.hid hm
      have HB := Lib.hid hb
      have HMO := Lib.hid hmod
      have HRE := Lib.hid hrep
      have HLE := Lib.hid hlen
      clear hq hm hb hrep hlen hmod
      go_wp2_with fail
      refine wp_region_any (by kernel_rfl) ?_
      refine wpAny_of_held (S := fun _ => True) _ _ _ _ ?_
      have hS0 : (fun _ : World => True) wr := trivial
      refine wpAnyH_take (i := 0) (v := ?tv0W) rfl (by kernel_rfl) (by kernel_rfl) (by kernel_rfl) (fun _ _ _ h => h) (Or.inl ⟨by rfl, ?th0W⟩) (by assumption) ?tr0W
      case th0W => (intro w hSw; (try dsimp only at hSw); go_split_ands; go_simp; (try with_reducible rfl))
      simp only [Act.put, List.setIfInBounds_toArray, List.set_cons_zero, List.set_cons_succ]
      refine wpAnyH_take (i := 1) (v := ?tv1W) rfl (by kernel_rfl) (by kernel_rfl) (by kernel_rfl) (fun _ _ _ h => h) (Or.inl ⟨by rfl, ?th1W⟩) (by assumption) ?tr1W
      case th1W => (intro w hSw; (try dsimp only at hSw); go_split_ands; go_simp; (try with_reducible rfl))
      simp only [Act.put, List.setIfInBounds_toArray, List.set_cons_zero, List.set_cons_succ]
      refine wpAnyH_take (i := 2) (v := ?tv2W) rfl (by kernel_rfl) (by kernel_rfl) (by kernel_rfl) (fun _ _ _ h => h) (Or.inl ⟨by rfl, ?th2W⟩) (by assumption) ?tr2W
      case th2W => (intro w hSw; (try dsimp only at hSw); go_split_ands; go_simp; (try with_reducible rfl))
      simp only [Act.put, List.setIfInBounds_toArray, List.set_cons_zero, List.set_cons_succ]
      refine wpAnyH_take (i := 3) (v := ?tv3W) rfl (by kernel_rfl) (by kernel_rfl) (by kernel_rfl) (fun _ _ _ h => h) (Or.inl ⟨by rfl, ?th3W⟩) (by assumption) ?tr3W
      case th3W => (intro w hSw; (try dsimp only at hSw); go_split_ands; go_simp; (try with_reducible rfl))
      simp only [Act.put, List.setIfInBounds_toArray, List.set_cons_zero, List.set_cons_succ]
      refine wpAnyH_take (i := 4) (v := ?tv4W) rfl (by kernel_rfl) (by kernel_rfl) (by kernel_rfl) (fun _ _ _ h => h) (Or.inl ⟨by rfl, ?th4W⟩) (by assumption) ?tr4W
      case th4W => (intro w hSw; (try dsimp only at hSw); go_split_ands; go_simp; (try with_reducible rfl))
      simp only [Act.put, List.setIfInBounds_toArray, List.set_cons_zero, List.set_cons_succ]
      refine wpAnyH_take (i := 5) (v := ?tv5W) rfl (by kernel_rfl) (by kernel_rfl) (by kernel_rfl) (fun _ _ _ h => h) (Or.inl ⟨by rfl, ?th5W⟩) (by assumption) ?tr5W
      case th5W => (intro w hSw; (try dsimp only at hSw); go_split_ands; go_simp; (try with_reducible rfl))
      simp only [Act.put, List.setIfInBounds_toArray, List.set_cons_zero, List.set_cons_succ]
      refine wpAnyH_take (i := 6) (v := ?tv6W) rfl (by kernel_rfl) (by kernel_rfl) (by kernel_rfl) (fun _ _ _ h => h) (Or.inl ⟨by rfl, ?th6W⟩) (by assumption) ?tr6W
      case th6W => (intro w hSw; (try dsimp only at hSw); go_split_ands; go_simp; (try with_reducible rfl))
      simp only [Act.put, List.setIfInBounds_toArray, List.set_cons_zero, List.set_cons_succ]
      simp only [List.getElem_toArray, List.getElem_cons_succ, List.getElem_cons_zero, List.setIfInBounds_toArray, List.set_cons_zero, List.set_cons_succ]
      refine wpAnyH_ready (rs := [7]) (by kernel_rfl) (by simp) (AllReadyH.cons rfl (fun K7 hK7 => ?_) AllReadyH.nil)
      have hmn : m ≤ n := by rw [← HMI.out]; exact Nat.min_le_left _ _
      have hmp : n + m ≤ p := by have : m ≤ p - n := (by rw [← HMI.out]; exact Nat.min_le_right _ _); omega
      have hm0 : 0 < m := by have : 0 < N := (Nat.pos_of_ne_zero (by rintro rfl; have := HPE.out; omega)); rw [← HMI.out]; exact Nat.lt_min.2 ⟨by omega, by omega⟩
      have hcut : cur.take (m * 3) ⊆ cur := List.take_subset _ _
      have hone : ∀ v ∈ cur.take (m * 3), v.oneCell' = true := by
        intro v hv
        obtain ⟨j, hj⟩ := List.getElem?_of_mem hv
        rw [List.getElem?_take] at hj
        split at hj
        · rename_i hjm
          rw [HRE.out j (by omega)] at hj
          exact H1.out v (List.mem_of_getElem? hj)
        · cases hj
      have hpne : ¬ p = n := by omega
      simp only [if_neg hpne]
      refine wanted_go rfl (wp_copy_arr _ _ 22 22 rfl 56 Try.underlying22 3 (by decide) (infoSize hi hz1) w.heap.size (n * 3) (p - n) (p - n) (some ⟨w.heap.size, 0, none⟩) n p rfl rfl cur 56 HB.out (cur.take (m * 3)) m HMI.out.symm (by rw [List.length_take, HLE.out]; exact Nat.min_eq_left (by omega)) (arr_of_blk HB.out.drew (by rw [HLE.out]; omega)) (by rw [List.length_take, HLE.out, Nat.min_eq_left (by omega)]; omega) hone ?_)
      have hcl : (cur.take (m * 3)).length = m * 3 := by rw [List.length_take, HLE.out]; exact Nat.min_eq_left (by omega)
      have hB7 := (HB.out.drew).row (splice cur (n * 3) (cur.take (m * 3))).toArray
      have hR7 := HRE.out.step (m := m * 3) (by rw [HX.out, Nat.mul_mod_mul_right, HMO.out, Nat.zero_mul]) (by omega) (by rw [HLE.out]; omega)
      have hL7 : (splice cur (n * 3) (cur.take (m * 3))).length = p * 3 := by rw [length_splice _ _ _ (by rw [hcl, HLE.out]; omega), HLE.out]
      have hG7 : Grow w (wr.drew.setRow w.heap.size (splice cur (n * 3) (cur.take (m * 3))).toArray) := hg.out.drew.grown (grownBy_setRow _ _ _) hg.out.size (fun k hk => by cases hk; exact Nat.le_refl _)
      have hM7 : (n + m) % N = 0 := by
        rcases Nat.le_total n (p - n) with hle | hle
        · have : m = n := by rw [← HMI.out]; exact Nat.min_eq_left hle
          rw [this, Nat.add_mod, HMO.out]; simp
        · have : n + m = p := by rw [← HMI.out, show Nat.min n (p - n) = p - n from Nat.min_eq_right hle]; omega
          rw [this, ← HPE.out, Nat.mul_mod_right]
      skip
      have HQ7 : Hid ((n + m) % N = 0 ∧ ∃ cur' : List Value, Blk (wr.drew.setRow w.heap.size (splice cur (n * 3) (cur.take (m * 3))).toArray) w.heap.size cur'.toArray 56 ∧ Rep X cur' ((n + m) * 3) ∧ cur'.length = p * 3) := ⟨hM7, _, hB7, by rw [Nat.add_mul]; exact hR7, hL7⟩
      have HG7 := Lib.hid hG7
      have hwm : IntKind.i64.wrap ((n : Int) + (m : Int)) = (n : Int) + (m : Int) := by rw [IntKind.wrap_i64]; omega
      have HNM := Lib.hid hmp
      have HM0 := Lib.hid hm0
      obtain ⟨w7, hw7⟩ : ∃ w7, wr.drew.setRow w.heap.size (splice cur (n * 3) (cur.take (m * 3))).toArray = w7 := ⟨_, rfl⟩
      rw [hw7] at HQ7 HG7
      refine hK7.out _ _ trivial (fun _ => ?_)
      simp only [show ({ wr with drawn := wr.drawn + 1 } : World) = wr.drew from rfl, hw7]
      clear hw7 hG7 hL7 hR7 hB7 hM7 hone hcut hcl hK7 K7 HB HRE HLE HMO hS0 hmn
      have hS0 : (fun _ : World => True) w7 := trivial
      simp only [List.getElem_toArray, List.getElem_cons_succ, List.getElem_cons_zero, Act.put, List.setIfInBounds_toArray, List.set_cons_zero, List.set_cons_succ]
      refine wpAnyH_take (i := 8) (v := ?tv8W) rfl (by kernel_rfl) (by kernel_rfl) (by kernel_rfl) (fun _ _ _ h => h) (Or.inl ⟨by rfl, ?th8W⟩) (by assumption) ?tr8W
      case th8W => (intro w hSw; (try dsimp only at hSw); go_split_ands; go_simp; (try with_reducible rfl))
      simp only [Act.put, List.setIfInBounds_toArray, List.set_cons_zero, List.set_cons_succ]
      refine wpAnyH_take (i := 9) (v := ?tv9W) rfl (by kernel_rfl) (by kernel_rfl) (by kernel_rfl) (fun _ _ _ h => h) (Or.inl ⟨by rfl, ?th9W⟩) (by assumption) ?tr9W
      case th9W => (intro w hSw; (try dsimp only at hSw); go_split_ands; go_simp; (try with_reducible rfl))
      simp only [Act.put, List.setIfInBounds_toArray, List.set_cons_zero, List.set_cons_succ]
      simp only [List.getElem_toArray, List.getElem_cons_succ, List.getElem_cons_zero, List.setIfInBounds_toArray, List.set_cons_zero, List.set_cons_succ]
      refine wpAnyH_done (by kernel_rfl) ?_ _
      clear hwm hpne hlt' hle' hmp hm0
      go_wp2
      go_roundw
      case rel => exact ⟨n + m, HNM.out, by go_num, by omega, HQ7.out, HG7.out⟩
      case measure => have := HNM.out; have := HM0.out; simp [intOf]; omega
    · have hn' : n = p := by omega
      subst hn'
      have HQ := Lib.hid hq.out
      clear hq hmod hb hrep hlen
      go_wp2
      go_ret
      obtain ⟨_, cur, hb, hrep, hlen⟩ := HQ.out
      have e : n * 3 = c * X.length := by rw [HX.out, ← HPE.out, Nat.mul_comm N c, Nat.mul_assoc]
      have hd : cur = repC c X := by
        rw [e] at hrep
        exact hrep.done (by rw [hlen, e])
      refine ⟨⟨_, rfl, ?_⟩, hg.out⟩
      rw [← hd]
      exact ⟨hlen, .inr ⟨w.heap.size, n, cur.toArray, rfl, Nat.le_refl _, hb, Nat.le_refl _, by unfold maxLen; omega, by simpa using hlen, List.take_of_length_le (by simp [hlen])⟩⟩

set_option maxRecDepth 100000 in
set_option maxHeartbeats 1000000 in
theorem repeatI_any (a : Option Addr) (cap : Nat) (xs : List Int) (c : Nat) (w : World) (h : Ar (eI .i64) w a xs) (hN : xs.length ≤ 20000) (hc1 : 1 ≤ c) (hc : c ≤ 200) :
    Calls Try.prog 18 #[.slice a xs.length cap, .int .i64 c] w fun e w' => (∃ v, e = .returned v ∧ w'.ownsRow w.heap.size 3 1 v (xs.length * c) ((repC c xs).flatMap (eI .i64).c)) ∧ Grow w w' := by
  obtain ⟨i0, hi, hz0, hz1, hz2⟩ := info_parts Try.infoInt
  have hp : xs.length * c ≤ 20000 * 200 := Nat.mul_le_mul hN hc
  obtain ⟨p, hpe⟩ : ∃ p, xs.length * c = p := ⟨_, rfl⟩
  rw [hpe] at hp ⊢
  have hpn : xs.length ≤ p := by rw [← hpe]; exact Nat.le_mul_of_pos_right _ hc1
  have hp2 : (p : Int) ≤ 9223372036854775807 := by omega
  obtain ⟨N, hNe⟩ : ∃ N, xs.length = N := ⟨_, rfl⟩
  rw [hNe] at hpn hN hpe ⊢
  have hXl : (xs.flatMap (eI .i64).c).length = N * 1 := by rw [flat_len, hNe]; rfl
  obtain ⟨X, hX⟩ : ∃ X, xs.flatMap (eI .i64).c = X := ⟨_, rfl⟩
  have hA : Arr w a X := hX ▸ h
  have h1 : ∀ v ∈ X, v.oneCell' = true := by
    intro u hu
    rw [← hX] at hu
    obtain ⟨x, _, hux⟩ := List.mem_flatMap.1 hu
    simp only [eI, List.mem_cons, List.not_mem_nil, or_false] at hux
    exact hux ▸ rfl
  rw [repC_flatMap, hX]
  rw [hX] at hXl
  have HA := Lib.hid hA
  have HX := Lib.hid hXl
  have HPE := Lib.hid hpe
  have HM := Lib.hid (mul_any N c hN hc)
  rw [hpe] at HM
  have H1 := Lib.hid h1
  clear h hA h1 hXl hX hpe hNe
  go_enter Try.func18, Try.ntmps18
  go_wp2_with (first | (go_at_call 36; go_must (refine (HM.out _).mono ?_); rintro e w' ⟨rfl, hw'⟩; obtain rfl := hw'.symm) | (at_make; refine wpList_makeN _ rfl _ _ 43 rfl 3 i0 _ 1 Try.underlying43 hi hz0 hz1 .i64 .i64 p rfl rfl (by rw [hz2]; omega) (by simp [maxLen]; omega) ?_) | (refine wpList_copy_arr rfl _ _ 43 43 rfl 3 Try.underlying43 1 (by decide) (infoSize hi hz1) w.heap.size 0 p p a N cap rfl rfl (madeCells #[.int .i64 0] p).toList 3 (by rw [Array.toArray_toList]; exact Blk.new w _ _) X N (Nat.min_eq_left hpn).symm HX.out (Arr.grow HA.out ((Below.refl _ _).alloc (Nat.le_refl _) _) (Nat.le_refl _)) (by rw [make_len, HX.out]; omega) H1.out ?_))
  clear hp2
  obtain ⟨cur1, hcur1⟩ : ∃ cur1, splice (madeCells #[.int .i64 0] p).toList 0 X = cur1 := ⟨_, rfl⟩
  have HC1 : Hid (cur1.length = p * 1) := by
    show _ = _
    rw [← hcur1, length_splice _ _ _ (by rw [make_len, HX.out]; omega), make_len]
    omega
  have HR1 : Hid (Rep X cur1 (N * 1)) := by
    rw [← hcur1, ← HX.out]
    exact Rep.start (by rw [make_len, HX.out]; omega)
  rw [hcur1]
  have HB1 := Lib.hid ((Blk.new w (madeCells #[.int .i64 0] p) 3).row cur1.toArray)
  have HG1 : Hid (Grow w ((w.alloc (.cells (madeCells #[.int .i64 0] p) 3)).setRow w.heap.size cur1.toArray)) := ((Below.refl _ w).alloc (Nat.le_refl _) (.cells (madeCells #[.int .i64 0] p) 3)).grown (grownBy_setRow _ _ _) (by simp) (fun k hk => by cases hk; exact Nat.le_refl _)
  go_loopw [8] (fun i wr => ∃ n : Nat, n ≤ p ∧ i = .int .i64 n ∧ N ≤ n ∧ Hid (n % N = 0 ∧ ∃ cur : List Value, Blk wr w.heap.size cur.toArray 3 ∧ Rep X cur (n * 1) ∧ cur.length = p * 1) ∧ Hid (Grow w wr)) (fun i _ => p - (intOf i).toNat)
  case atStart => exact ⟨N, hpn, rfl, Nat.le_refl _, ⟨Nat.mod_self _, cur1, HB1.out, HR1.out, HC1.out⟩, HG1.out⟩
  case round =>
    clear HB1 HG1 HC1 HR1 hcur1
    obtain ⟨n, hn, rfl, hNn, hq, hg⟩ := hrel
    obtain ⟨hmod, cur, hb, hrep, hlen⟩ := hq.out
    by_cases hlt : n < p
    · have hlt' : (n : Int) < p := by omega
      have hle' : (n : Int) ≤ p := by omega
      obtain ⟨m, hm⟩ : ∃ m, Nat.min n (p - n) = m := ⟨_, rfl⟩
      have HMI := Lib.hid hm
      have HB := Lib.hid hb
      have HMO := Lib.hid hmod
      have HRE := Lib.hid hrep
      have HLE := Lib.hid hlen
      clear hq hm hb hrep hlen hmod
      go_wp2_with fail
      refine wp_region_any (by kernel_rfl) ?_
      refine wpAny_of_held (S := fun _ => True) _ _ _ _ ?_
      have hS0 : (fun _ : World => True) wr := trivial
      refine wpAnyH_take (i := 0) (v := ?tv0I) rfl (by kernel_rfl) (by kernel_rfl) (by kernel_rfl) (fun _ _ _ h => h) (Or.inl ⟨by rfl, ?th0I⟩) (by assumption) ?tr0I
      case th0I => (intro w hSw; (try dsimp only at hSw); go_split_ands; go_simp; (try with_reducible rfl))
      simp only [Act.put, List.setIfInBounds_toArray, List.set_cons_zero, List.set_cons_succ]
      refine wpAnyH_take (i := 1) (v := ?tv1I) rfl (by kernel_rfl) (by kernel_rfl) (by kernel_rfl) (fun _ _ _ h => h) (Or.inl ⟨by rfl, ?th1I⟩) (by assumption) ?tr1I
      case th1I => (intro w hSw; (try dsimp only at hSw); go_split_ands; go_simp; (try with_reducible rfl))
      simp only [Act.put, List.setIfInBounds_toArray, List.set_cons_zero, List.set_cons_succ]
      refine wpAnyH_take (i := 2) (v := ?tv2I) rfl (by kernel_rfl) (by kernel_rfl) (by kernel_rfl) (fun _ _ _ h => h) (Or.inl ⟨by rfl, ?th2I⟩) (by assumption) ?tr2I
      case th2I => (intro w hSw; (try dsimp only at hSw); go_split_ands; go_simp; (try with_reducible rfl))
      simp only [Act.put, List.setIfInBounds_toArray, List.set_cons_zero, List.set_cons_succ]
      refine wpAnyH_take (i := 3) (v := ?tv3I) rfl (by kernel_rfl) (by kernel_rfl) (by kernel_rfl) (fun _ _ _ h => h) (Or.inl ⟨by rfl, ?th3I⟩) (by assumption) ?tr3I
      case th3I => (intro w hSw; (try dsimp only at hSw); go_split_ands; go_simp; (try with_reducible rfl))
      simp only [Act.put, List.setIfInBounds_toArray, List.set_cons_zero, List.set_cons_succ]
      refine wpAnyH_take (i := 4) (v := ?tv4I) rfl (by kernel_rfl) (by kernel_rfl) (by kernel_rfl) (fun _ _ _ h => h) (Or.inl ⟨by rfl, ?th4I⟩) (by assumption) ?tr4I
      case th4I => (intro w hSw; (try dsimp only at hSw); go_split_ands; go_simp; (try with_reducible rfl))
      simp only [Act.put, List.setIfInBounds_toArray, List.set_cons_zero, List.set_cons_succ]
      refine wpAnyH_take (i := 5) (v := ?tv5I) rfl (by kernel_rfl) (by kernel_rfl) (by kernel_rfl) (fun _ _ _ h => h) (Or.inl ⟨by rfl, ?th5I⟩) (by assumption) ?tr5I
      case th5I => (intro w hSw; (try dsimp only at hSw); go_split_ands; go_simp; (try with_reducible rfl))
      simp only [Act.put, List.setIfInBounds_toArray, List.set_cons_zero, List.set_cons_succ]
      refine wpAnyH_take (i := 6) (v := ?tv6I) rfl (by kernel_rfl) (by kernel_rfl) (by kernel_rfl) (fun _ _ _ h => h) (Or.inl ⟨by rfl, ?th6I⟩) (by assumption) ?tr6I
      case th6I => (intro w hSw; (try dsimp only at hSw); go_split_ands; go_simp; (try with_reducible rfl))
      simp only [Act.put, List.setIfInBounds_toArray, List.set_cons_zero, List.set_cons_succ]
      simp only [List.getElem_toArray, List.getElem_cons_succ, List.getElem_cons_zero, List.setIfInBounds_toArray, List.set_cons_zero, List.set_cons_succ]
      refine wpAnyH_ready (rs := [7]) (by kernel_rfl) (by simp) (AllReadyH.cons rfl (fun K7 hK7 => ?_) AllReadyH.nil)
      have hmn : m ≤ n := by rw [← HMI.out]; exact Nat.min_le_left _ _
      have hmp : n + m ≤ p := by have : m ≤ p - n := (by rw [← HMI.out]; exact Nat.min_le_right _ _); omega
      have hm0 : 0 < m := by have : 0 < N := (Nat.pos_of_ne_zero (by rintro rfl; have := HPE.out; omega)); rw [← HMI.out]; exact Nat.lt_min.2 ⟨by omega, by omega⟩
      have hcut : cur.take (m * 1) ⊆ cur := List.take_subset _ _
      have hone : ∀ v ∈ cur.take (m * 1), v.oneCell' = true := by
        intro v hv
        obtain ⟨j, hj⟩ := List.getElem?_of_mem hv
        rw [List.getElem?_take] at hj
        split at hj
        · rename_i hjm
          rw [HRE.out j (by omega)] at hj
          exact H1.out v (List.mem_of_getElem? hj)
        · cases hj
      have hpne : ¬ p = n := by omega
      simp only [if_neg hpne]
      refine wanted_go rfl (wp_copy_arr _ _ 43 43 rfl 3 Try.underlying43 1 (by decide) (infoSize hi hz1) w.heap.size (n) (p - n) (p - n) (some ⟨w.heap.size, 0, none⟩) n p rfl rfl cur 3 HB.out (cur.take (m * 1)) m HMI.out.symm (by rw [List.length_take, HLE.out]; exact Nat.min_eq_left (by omega)) (arr_of_blk HB.out.drew (by rw [HLE.out]; omega)) (by rw [List.length_take, HLE.out, Nat.min_eq_left (by omega)]; omega) hone ?_)
      have hcl : (cur.take (m * 1)).length = m * 1 := by rw [List.length_take, HLE.out]; exact Nat.min_eq_left (by omega)
      have hB7 := (HB.out.drew).row (splice cur (n) (cur.take (m * 1))).toArray
      have hR7 := HRE.out.step (m := m * 1) (by rw [HX.out, Nat.mul_mod_mul_right, HMO.out, Nat.zero_mul]) (by omega) (by rw [HLE.out]; omega)
      have hL7 : (splice cur (n) (cur.take (m * 1))).length = p * 1 := by rw [length_splice _ _ _ (by rw [hcl, HLE.out]; omega), HLE.out]
      have hG7 : Grow w (wr.drew.setRow w.heap.size (splice cur (n) (cur.take (m * 1))).toArray) := hg.out.drew.grown (grownBy_setRow _ _ _) hg.out.size (fun k hk => by cases hk; exact Nat.le_refl _)
      have hM7 : (n + m) % N = 0 := by
        rcases Nat.le_total n (p - n) with hle | hle
        · have : m = n := by rw [← HMI.out]; exact Nat.min_eq_left hle
          rw [this, Nat.add_mod, HMO.out]; simp
        · have : n + m = p := by rw [← HMI.out, show Nat.min n (p - n) = p - n from Nat.min_eq_right hle]; omega
          rw [this, ← HPE.out, Nat.mul_mod_right]
      skip
      have HQ7 : Hid ((n + m) % N = 0 ∧ ∃ cur' : List Value, Blk (wr.drew.setRow w.heap.size (splice cur (n) (cur.take (m * 1))).toArray) w.heap.size cur'.toArray 3 ∧ Rep X cur' ((n + m) * 1) ∧ cur'.length = p * 1) := ⟨hM7, _, hB7, by simpa only [Nat.mul_one] using hR7, hL7⟩
      have HG7 := Lib.hid hG7
      have hwm : IntKind.i64.wrap ((n : Int) + (m : Int)) = (n : Int) + (m : Int) := by rw [IntKind.wrap_i64]; omega
      have HNM := Lib.hid hmp
      have HM0 := Lib.hid hm0
      obtain ⟨w7, hw7⟩ : ∃ w7, wr.drew.setRow w.heap.size (splice cur (n) (cur.take (m * 1))).toArray = w7 := ⟨_, rfl⟩
      rw [hw7] at HQ7 HG7
      refine hK7.out _ _ trivial (fun _ => ?_)
      simp only [show ({ wr with drawn := wr.drawn + 1 } : World) = wr.drew from rfl, hw7]
      clear hw7 hG7 hL7 hR7 hB7 hM7 hone hcut hcl hK7 K7 HB HRE HLE HMO hS0 hmn
      have hS0 : (fun _ : World => True) w7 := trivial
      simp only [List.getElem_toArray, List.getElem_cons_succ, List.getElem_cons_zero, Act.put, List.setIfInBounds_toArray, List.set_cons_zero, List.set_cons_succ]
      refine wpAnyH_take (i := 8) (v := ?tv8I) rfl (by kernel_rfl) (by kernel_rfl) (by kernel_rfl) (fun _ _ _ h => h) (Or.inl ⟨by rfl, ?th8I⟩) (by assumption) ?tr8I
      case th8I => (intro w hSw; (try dsimp only at hSw); go_split_ands; go_simp; (try with_reducible rfl))
      simp only [Act.put, List.setIfInBounds_toArray, List.set_cons_zero, List.set_cons_succ]
      refine wpAnyH_take (i := 9) (v := ?tv9I) rfl (by kernel_rfl) (by kernel_rfl) (by kernel_rfl) (fun _ _ _ h => h) (Or.inl ⟨by rfl, ?th9I⟩) (by assumption) ?tr9I
      case th9I => (intro w hSw; (try dsimp only at hSw); go_split_ands; go_simp; (try with_reducible rfl))
      simp only [Act.put, List.setIfInBounds_toArray, List.set_cons_zero, List.set_cons_succ]
      simp only [List.getElem_toArray, List.getElem_cons_succ, List.getElem_cons_zero, List.setIfInBounds_toArray, List.set_cons_zero, List.set_cons_succ]
      refine wpAnyH_done (by kernel_rfl) ?_ _
      clear hwm hpne hlt' hle' hmp hm0
      go_wp2
      go_roundw
      case rel => exact ⟨n + m, HNM.out, by go_num, by omega, HQ7.out, HG7.out⟩
      case measure => have := HNM.out; have := HM0.out; simp [intOf]; omega
    · have hn' : n = p := by omega
      subst hn'
      have HQ := Lib.hid hq.out
      clear hq hmod hb hrep hlen
      go_wp2
      go_ret
      obtain ⟨_, cur, hb, hrep, hlen⟩ := HQ.out
      have e : n * 1 = c * X.length := by rw [HX.out, ← HPE.out, Nat.mul_comm N c, Nat.mul_assoc]
      have hd : cur = repC c X := by
        rw [e] at hrep
        exact hrep.done (by rw [hlen, e])
      refine ⟨⟨_, rfl, ?_⟩, hg.out⟩
      rw [← hd]
      exact ⟨hlen, .inr ⟨w.heap.size, n, cur.toArray, rfl, Nat.le_refl _, hb, Nat.le_refl _, by unfold maxLen; omega, by simpa using hlen, List.take_of_length_le (by simp [hlen])⟩⟩
end Go.Proofs.Ytefdncpdlgakpaa
