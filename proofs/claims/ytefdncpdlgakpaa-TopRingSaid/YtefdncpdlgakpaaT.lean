import Derived.Test.YtefdncpdlgakpaaQ
namespace Go.Proofs.Ytefdncpdlgakpaa
open Go.RowKit

/-! slices.Equal and EqualFunc, of equal slices. -/
set_option maxRecDepth 100000 in
set_option maxHeartbeats 1000000 in
theorem equal_any (a a2 : Option Addr) (cap cap2 : Nat) (xs : List Int) (w : World) (h : Ar (eI .i64) w a xs) (h2 : Ar (eI .i64) w a2 xs) (hn : xs.length ≤ 1000000000) :
    Calls Try.prog 10 #[.slice a xs.length cap, .slice a2 xs.length cap2] w fun e w' => e = .returned (.bool true) ∧ Grow w w' := by
  have HA := Lib.hid h
  have HB := Lib.hid h2
  clear h h2
  go_enter Try.func10, Try.ntmps10
  go_wp2
  go_loopw [13] (fun i wr => ∃ k : Nat, k ≤ xs.length ∧ i = .int .i64 k ∧ Hid (Grow w wr)) (fun i _ => xs.length - (intOf i).toNat)
  case atStart => exact ⟨0, Nat.zero_le _, rfl, Below.refl _ _⟩
  case round =>
    obtain ⟨k, hk, rfl, hg⟩ := hrel
    by_cases hlt : k < xs.length
    · obtain ⟨b, o, x, hx, rfl, hb, hc⟩ := (HA.out.grow hg.out).int hlt
      obtain ⟨b2, o2, x2, hx2, rfl, hb2, hc2⟩ := (HB.out.grow hg.out).int hlt
      rw [hx] at hx2
      cases hx2
      have HG1 := Lib.hid hg.out.drew
      clear hx hg
      go_wp2_with fail
      go_region
      go_wp2
      go_roundw
      case rel =>
        exact ⟨k + 1, by omega, by go_num, HG1.out⟩
      case measure => simp [intOf]; omega
    · go_wp2
      go_ret
      exact ⟨rfl, hg.out⟩

set_option maxRecDepth 100000 in
set_option maxHeartbeats 1000000 in
theorem equalFunc_any (B1 B2 : Nat) (v v2 : Value) (out : List (List Int)) (w : World) (h : OwnLL B1 w v out) (h2 : OwnLL B2 w v2 out) (hn : out.length ≤ 1000000000) (hm : ∀ l ∈ out, l.length ≤ 1000000000) :
    Calls Try.prog 9 #[v, v2, .func (.func 10) #[] #[]] w fun e w' => e = .returned (.bool true) ∧ Grow w w' := by
  obtain ⟨vs, hr, he⟩ := h
  obtain ⟨vs2, hr2, he2⟩ := h2
  obtain ⟨a, cap, rfl, hA, _, _⟩ := own_arr hr
  obtain ⟨a2, cap2, rfl, hA2, _, _⟩ := own_arr hr2
  have hl1 : vs.length = out.length := by have := hr.1; simpa using this
  have hl2 : vs2.length = out.length := by have := hr2.1; simpa using this
  have HA := Lib.hid hA
  have HA2 := Lib.hid hA2
  have HE := Lib.hid he
  have HE2 := Lib.hid he2
  have HL1 := Lib.hid hl1
  have HL2 := Lib.hid hl2
  have HM := Lib.hid hm
  clear hm hr hr2 hA hA2 he he2 hl1 hl2
  go_enter Try.func9, Try.ntmps9
  go_wp2
  go_loopw [17] (fun i wr => ∃ k : Nat, k ≤ out.length ∧ i = .int .i64 k ∧ Hid (Grow w wr)) (fun i _ => out.length - (intOf i).toNat)
  case atStart => exact ⟨0, Nat.zero_le _, rfl, Below.refl _ _⟩
  case round =>
    obtain ⟨k, hk, rfl, hg⟩ := hrel
    by_cases hlt : k < out.length
    · obtain ⟨u1, hv1⟩ : ∃ u, vs[k]? = some u := ⟨_, List.getElem?_eq_getElem (by rw [HL1.out]; exact hlt)⟩
      obtain ⟨u2, hv2⟩ : ∃ u, vs2[k]? = some u := ⟨_, List.getElem?_eq_getElem (by rw [HL2.out]; exact hlt)⟩
      obtain ⟨l, ho⟩ : ∃ l, out[k]? = some l := ⟨_, List.getElem?_eq_getElem hlt⟩
      have n1 : vs ≠ [] := fun e => by subst e; simp at hv1
      have n2 : vs2 ≠ [] := fun e => by subst e; simp at hv2
      obtain ⟨b, o, rfl, hc⟩ := HA.out n1
      obtain ⟨b2, o2, rfl, hc2⟩ := HA2.out n2
      obtain ⟨ua, uc, rfl, hUA, _, _⟩ := own_arr (HE.out k _ _ hv1 ho)
      obtain ⟨ub, ud, rfl, hUB, _, _⟩ := own_arr (HE2.out k _ _ hv2 ho)
      have c1 := hc k _ hv1
      have c2 := hc2 k _ hv2
      have l1 := cell_lt c1
      have l2 := cell_lt c2
      have d1 : wr.cell? ⟨b, o + k, none⟩ = some (.slice ua l.length uc) := by rw [hg.out.cell (p := ⟨b, o + k, none⟩) l1]; exact c1
      have d2 : wr.cell? ⟨b2, o2 + k, none⟩ = some (.slice ub l.length ud) := by rw [hg.out.cell (p := ⟨b2, o2 + k, none⟩) l2]; exact c2
      have m1 := cell_lt d1
      have m2 := cell_lt d2
      have HC := Lib.hid (equal_any ua ub uc ud l wr ((Ar.of_ints hUA).grow hg.out) ((Ar.of_ints hUB).grow hg.out) (HM.out l (List.mem_of_getElem? ho)))
      clear hv1 hv2 ho n1 n2 hUA hUB hc hc2 c1 c2 l1 l2
      go_wp2_with (go_at_call 10; go_must (refine HC.out.mono ?_); rintro e w3 ⟨rfl, hg3⟩; have HG3 := Lib.hid (hg.out.trans (hg3.mono hg.out.size)); clear hg3)
      go_roundw
      case rel => exact ⟨k + 1, by omega, by go_num, HG3.out⟩
      case measure => simp [intOf]; omega
    · go_wp2
      go_ret
      exact ⟨rfl, hg.out⟩

/-! edgingDyes -/
def dyeAt (dl : List Int) (k : Nat) : Int := (if dl.length = 0 then (k : Int) else dl.getD (k % dl.length) 0) % 16
def dyesOf (dl : List Int) (T : Nat) : List Int := (List.range T).map (dyeAt dl)

set_option maxRecDepth 100000 in
set_option maxHeartbeats 1000000 in
theorem dyes_nil (a : Option Addr) (cap : Nat) (T : Nat) (w : World) (hT : T ≤ 48) :
    Calls Try.prog 11 #[.slice a 0 cap, .int .i64 T] w fun e w' =>
      (∃ v, e = .returned v ∧ w'.ownsRow w.heap.size 3 1 v T ((dyesOf [] T).map (Value.int .i64))) ∧ Grow w w' := by
  obtain ⟨i0, hi, hz0, hz1, hz2⟩ := info_parts Try.infoInt
  go_enter Try.func11, Try.ntmps11
  go_wp2
  go_loopw [9, 5] (fun i v wr => ∃ k : Nat, k ≤ T ∧ i = .int .i64 k ∧ Hid (wr.ownsRow w.heap.size 3 1 v k ((dyesOf [] k).map (Value.int .i64))) ∧ Hid (Grow w wr)) (fun i _ _ => T - (intOf i).toNat)
  case atStart => exact ⟨0, Nat.zero_le _, rfl, World.ownsRow_nil _ _ _ _, Below.refl _ _⟩
  case round =>
    obtain ⟨k, hk, rfl, ho, hg⟩ := hrel
    by_cases hlt : k < T
    · have HS : Hid ((dyesOf [] k).map (Value.int .i64) ++ [.int .i64 ((k : Int) % 16)] = (dyesOf [] (k + 1)).map (Value.int .i64)) := by
        unfold Hid dyesOf
        rw [List.range_succ]
        simp [dyeAt]
      go_wp2_with (at_builtin; go_must (refine wpList_app1 wr rfl _ _ 43 rfl w.heap.size 3 i0 (.int .i64 0) 1 8 Try.underlying43 hi hz0 hz1 hz2 rfl (by decide) u5 k _ rfl ho.out [.int .i64 ((k : Int) % 16)] rfl rfl (by simp [Value.oneCell']) (by unfold maxLen; omega) (by omega) hg.out.size ?_); intro g' cap' w2 hown' hgrow; have HG2 := Lib.hid (grow_append ho.out hg.out hg.out.size hgrow); have HO2 := Lib.hid hown'; clear hown' hgrow)
      go_roundw
      case rel =>
        refine ⟨k + 1, by omega, by go_num, ?_, HG2.out⟩
        rw [← HS.out]
        exact HO2.out
      case measure => simp [intOf]; omega
    · have hk' : k = T := by omega
      subst hk'
      go_wp2
      go_ret
      exact ⟨⟨_, rfl, ho.out⟩, hg.out⟩

set_option maxRecDepth 100000 in
set_option maxHeartbeats 1000000 in
theorem dyes_any (a : Option Addr) (cap : Nat) (dl : List Int) (T : Nat) (w : World) (h : Ar (eI .u8) w a dl) (h0 : ∀ x ∈ dl, 0 ≤ x ∧ x < 256) (hT : T ≤ 48) (hn : dl.length ≤ maxLen) :
    Calls Try.prog 11 #[.slice a dl.length cap, .int .i64 T] w fun e w' =>
      (∃ v, e = .returned v ∧ w'.ownsRow w.heap.size 3 1 v T ((dyesOf dl T).map (Value.int .i64))) ∧ Grow w w' := by
  by_cases hd : dl.length = 0
  · have e : dl = [] := List.eq_nil_of_length_eq_zero hd
    subst e
    exact dyes_nil a cap T w hT
  obtain ⟨i0, hi, hz0, hz1, hz2⟩ := info_parts Try.infoInt
  unfold maxLen at hn
  have HA := Lib.hid h
  have H0 := Lib.hid h0
  clear h h0
  go_enter Try.func11, Try.ntmps11
  go_wp2
  go_loopw [9, 5] (fun i v wr => ∃ k : Nat, k ≤ T ∧ i = .int .i64 k ∧ Hid (wr.ownsRow w.heap.size 3 1 v k ((dyesOf dl k).map (Value.int .i64))) ∧ Hid (Grow w wr)) (fun i _ _ => T - (intOf i).toNat)
  case atStart => exact ⟨0, Nat.zero_le _, rfl, World.ownsRow_nil _ _ _ _, Below.refl _ _⟩
  case round =>
    obtain ⟨k, hk, rfl, ho, hg⟩ := hrel
    by_cases hlt : k < T
    · have HS : Hid ((dyesOf dl k).map (Value.int .i64) ++ [.int .i64 (dyeAt dl k)] = (dyesOf dl (k + 1)).map (Value.int .i64)) := by
        unfold Hid dyesOf
        rw [List.range_succ]
        simp
      have hm : k % dl.length < dl.length := Nat.mod_lt _ (by omega)
      obtain ⟨b, o, x, hx, rfl, hb, hc⟩ := (HA.out.grow hg.out).int hm
      obtain ⟨hx0, hx1⟩ := H0.out x (List.mem_of_getElem? hx)
      have hv : dyeAt dl k = x % 16 := by unfold dyeAt; rw [if_neg hd, List.getD_eq_getElem?_getD, hx]; rfl
      rw [hv] at HS
      have hpos : 0 < (dl.length : Int) := by omega
      obtain ⟨m, hmm⟩ : ∃ m, k % dl.length = m := ⟨_, rfl⟩
      have hmI : (k : Int) % (dl.length : Int) = m := by rw [← Int.natCast_emod, hmm]
      rw [hmm] at hm hc
      clear hv hx hmm
      go_wp2_with (at_builtin; go_must (refine wpList_app1 wr rfl _ _ 43 rfl w.heap.size 3 i0 (.int .i64 0) 1 8 Try.underlying43 hi hz0 hz1 hz2 rfl (by decide) u5 k _ rfl ho.out [.int .i64 (x % 16)] rfl rfl (by simp [Value.oneCell']) (by unfold maxLen; omega) (by omega) hg.out.size ?_); intro g' cap' w2 hown' hgrow; have HG2 := Lib.hid (grow_append ho.out hg.out hg.out.size hgrow); have HO2 := Lib.hid hown'; clear hown' hgrow)
      go_roundw
      case rel =>
        refine ⟨k + 1, by omega, by go_num, ?_, HG2.out⟩
        rw [← HS.out]
        exact HO2.out
      case measure => simp [intOf]; omega
    · have hk' : k = T := by omega
      subst hk'
      go_wp2
      go_ret
      exact ⟨⟨_, rfl, ho.out⟩, hg.out⟩
end Go.Proofs.Ytefdncpdlgakpaa
