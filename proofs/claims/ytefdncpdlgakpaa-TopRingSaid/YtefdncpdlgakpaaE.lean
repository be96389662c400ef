import Derived.Test.YtefdncpdlgakpaaD
import Derived.Test.YtefdncpdlgakpaaR
import Derived.BigRegion
import Derived.Deep.RegionHeld3
import Derived.Deep.AppendLies
import Derived.Deep.RegionLaw
namespace Go.Proofs.Ytefdncpdlgakpaa
open Go.RowKit

def id48 : List Int := (List.range 48).map (fun n : Nat => (n : Int))
/-- what the loop has done after i rounds -/
def begunTo (i : Nat) : List Int := (List.range 48).map (fun n : Nat => if n < i then (n : Int) else 0)
theorem begunTo_len (i : Nat) : (begunTo i).length = 48 := by simp [begunTo]
theorem begunTo_succ {i : Nat} (h : i < 48) : (begunTo i).set i i = begunTo (i + 1) := by
  apply List.ext_getElem?
  intro j
  rw [List.getElem?_set]
  by_cases e : i = j
  · subst e
    simp [begunTo, h]
  · simp only [e, if_false, begunTo, List.getElem?_map]
    by_cases hj : j < 48
    · simp only [List.getElem?_range hj, Option.map_some]
      congr 1
      by_cases h1 : j < i
      · rw [if_pos h1, if_pos (by omega)]
      · rw [if_neg h1, if_neg (by omega)]
    · rw [List.getElem?_eq_none (by simp; omega)]; rfl
theorem begunTo_48 : begunTo 48 = id48 := by decide
theorem Try.infoLine : (Try.prog.info? 59).map (·.size) = some 48 := by kernel_rfl

set_option maxRecDepth 100000 in
set_option maxHeartbeats 1000000 in
theorem begun_any (w : World) : Calls Try.prog 21 #[] w fun e w' => e = .returned (.agg (lineC id48)) ∧ Grow w w' := by
  go_enter Try.func21, Try.ntmps21
  go_wp2
  go_loopw [3, 2] (fun i _ wr => ∃ k : Nat, k ≤ 48 ∧ i = .int .i64 k ∧ Hid (Blk wr (w.heap.size + 1) (lineC (begunTo k)) 59) ∧ Hid (Blk wr w.heap.size (lineC (begunTo 0)) 59) ∧ Hid (Grow w wr)) (fun i _ _ => 48 - (intOf i).toNat)
  case atStart =>
    refine ⟨0, Nat.zero_le _, rfl, ?_, ?_, ?_⟩
    · exact Blk.new' (w.alloc _) (lineC (begunTo 0)) _ _ (by simp)
    · exact (Blk.new w (lineC (begunTo 0)) _).alloc _
    · exact ((Below.refl _ _).alloc (Nat.le_refl _) _).alloc (by simp) _
  case round =>
    obtain ⟨k, hk, rfl, hb1, hb0, hg⟩ := hrel
    by_cases hlt : k < 48
    · have hc := hb1.out.cell k
      have hf := hb1.out.frozen k
      rw [lineC_get, List.getElem?_eq_getElem (by rw [begunTo_len]; exact hlt)] at hc
      obtain ⟨x, hx⟩ : ∃ x, (begunTo k)[k]'(by rw [begunTo_len]; exact hlt) = x := ⟨_, rfl⟩
      rw [hx] at hc
      clear hx
      go_wp2
      go_roundw
      case rel =>
        refine ⟨k + 1, by omega, by go_num, ?_, ?_, hg.out.setCell (by simp) _⟩
        · have := hb1.out.set k (.int .i64 k)
          rw [lineC_set, begunTo_succ hlt] at this
          exact this
        · exact hb0.out.setOther _ _ (by simp)
      case measure => simp [intOf]; omega
    · have hk48 : k = 48 := by omega
      subst hk48
      rw [begunTo_48] at hb1
      go_wp2_with (first | (refine wpList_load_row rfl 59 _ rfl (w.heap.size + 1) rfl 59 (lineC id48) (0, 0) _ hb1.out Try.underlying59 rfl (by rw [Try.infoLine]; rfl) ?_) | (refine wpList_store_row rfl 59 _ _ rfl w.heap.size (lineC id48) rfl rfl 59 (lineC (begunTo 0)) hb0.out (by rw [Try.infoLine]; rfl) rfl (lineC_one _) ?_))
      exact bodyPost_ret (v := .agg (lineC id48)) (results_cell_row rfl _ _ w.heap.size _ (lineC id48) (0, 0) _ rfl (hb0.out.row _) Try.underlying59 rfl (by rw [Try.infoLine]; rfl)) rfl
        ⟨rfl, hg.out.grown (grownBy_setRow _ _ _) hg.out.size (fun k hk => by cases hk; exact Nat.le_refl _)⟩

set_option maxRecDepth 100000 in
set_option maxHeartbeats 1000000 in
theorem swap_any (b : Nat) (l : List Int) (n : Nat) (x y : Int) (w : World) (T : TypeId) (hb : Blk w b (lineC l) T) (hl : l.length = 48) (hx : l[n]? = some x) (hy : l[n + 1]? = some y) :
    Calls Try.prog 24 #[.pointer (some ⟨b, 0, none⟩), .int .i64 n] w fun e w' => e = .returned (.tuple #[]) ∧ Blk w' b (lineC ((l.set n y).set (n + 1) x)) T ∧ w.grownBy w' (some b) := by
  have hn : n + 1 < 48 := by have := (List.getElem?_eq_some_iff.1 hy).1; omega
  have hc0 := hb.cell n
  have hc1 := hb.cell (n + 1)
  have hf0 := hb.frozen n
  have hf1 := hb.frozen (n + 1)
  rw [lineC_get, hx] at hc0
  rw [lineC_get, hy] at hc1
  simp only [Option.map_some] at hc0 hc1
  have HB := Lib.hid hb
  clear hx hy hb hl
  go_enter Try.func24, Try.ntmps24
  go_wp2
  go_region
  all_goals (go_end0; refine ⟨rfl, ?_, ?_⟩)
  · have := (HB.out.set n (.int .i64 y)).set (n + 1) (.int .i64 x)
    rw [lineC_set, lineC_set] at this
    exact this.drew
  · exact grownBy_drew (grownBy_trans (grownBy_setCell _ _ _ _) (grownBy_setCell _ _ _ _))

theorem Try.infoPin : (Try.prog.info? 62).map (fun i => (i.zero, i.size, i.bytes)) = some (some (.agg #[.int .i64 0, .int .i64 0, .int .i64 0, .int .i64 0]), 4, 32) := by kernel_rfl

theorem cell3 {w : World} {b : Nat} {x y z : Value} {T : TypeId} (h : Blk w b #[x, y, z] T) : w.cell? ⟨b, 2, none⟩ = some z := by rw [h.cell]; rfl

def PinPost (bc : Nat) (thr : Int) (vC vP : Value) (base n : Nat) (ps' : List Value) (w : World) (e : Ending) (w' : World) : Prop := e = .returned (.tuple #[]) ∧
      ∃ v', Blk w' bc #[.int .i64 thr, vC, v'] 32 ∧ w'.ownsRow base 62 4 v' (n + 1) ps' ∧ Turn (fun k => k = bc ∨ vP.ownBlock = some k) w w'

set_option maxRecDepth 100000 in
set_option maxHeartbeats 1000000 in
theorem pin_any (bc bi bm bl : Nat) (thr i : Int) (m : Nat) (vC vP : Value) (l : List Int) (x y : Int) (base n : Nat) (ps : List Value) (w : World)
    (hc : Blk w bc #[.int .i64 thr, vC, vP] 32) (hi : Blk w bi #[.int .i64 i] 3) (hm : Blk w bm #[.int .i64 m] 3) (hl : Blk w bl (lineC l) 59)
    (hll : l.length = 48) (hx : l[m]? = some x) (hy : l[m + 1]? = some y) (hown : w.ownsRow base 62 4 vP n ps) (hn : n ≤ 1000000) (hbase : base ≤ w.heap.size) :
    Calls Try.prog 22 #[.pointer (some ⟨bc, 0, none⟩), .pointer (some ⟨bi, 0, none⟩), .pointer (some ⟨bm, 0, none⟩), .pointer (some ⟨bl, 0, none⟩)] w (PinPost bc thr vC vP base n (ps ++ [.int .i64 i, .int .i64 m, .int .i64 x, .int .i64 y]) w) := by
  obtain ⟨i0, hi0, hz0, hz1, hz2⟩ := info_parts Try.infoPin
  have hm48 : m + 1 < 48 := by have := (List.getElem?_eq_some_iff.1 hy).1; omega
  have ag : vP.ownBlock ≠ some bc := fun e => hc.not_row (by decide) hown _ e rfl
  have ai : vP.ownBlock ≠ some bi := fun e => hi.not_row (by decide) hown _ e rfl
  have am : vP.ownBlock ≠ some bm := fun e => hm.not_row (by decide) hown _ e rfl
  have al : vP.ownBlock ≠ some bl := fun e => hl.not_row (by decide) hown _ e rfl
  have hc2 : w.cell? ⟨bc, 2, none⟩ = some vP := by rw [hc.cell]; rfl
  have hci : w.cell? ⟨bi, 0, none⟩ = some (.int .i64 i) := by rw [hi.cell]; rfl
  have hcm : w.cell? ⟨bm, 0, none⟩ = some (.int .i64 m) := by rw [hm.cell]; rfl
  have hx' : w.cell? ⟨bl, m, none⟩ = some (.int .i64 x) := by rw [hl.cell, lineC_get, hx]; rfl
  have hy' : w.cell? ⟨bl, m + 1, none⟩ = some (.int .i64 y) := by rw [hl.cell, lineC_get, hy]; rfl
  have lc := hc.lt
  have li := hi.lt
  have lm := hm.lt
  have ll := hl.lt
  have m0 : (0 : Int) ≤ (m : Int) := Int.natCast_nonneg _
  have m1 : (m : Int) < 48 := by omega
  have m2 : (m : Int) + 1 < 48 := by omega
  have HC := Lib.hid hc
  have HO := Lib.hid hown
  have m3 : (0 : Int) ≤ (m : Int) + 1 := by omega
  have m4 : ((m : Int) + 1).toNat = m + 1 := by omega
  have m5 : IntKind.i64.wrap ((m : Int) + 1) = (m : Int) + 1 := IntWalk.i64_in _ (by omega)
  clear hx hy hll hc hi hm hl
  go_enter Try.func22, Try.ntmps22
  go_wp2_with fail
  refine wp_region_peel (by kernel_rfl) (by simp) (by kernel_rfl) (by kernel_rfl) (by kernel_rfl) (by kernel_rfl) ?_
  simp only [List.dropLast, List.getLast, List.length_cons, List.length_nil, Nat.reduceAdd]
  refine wpAny_of_held (S := fun w' => w'.cell? ⟨bc, 2, none⟩ = some vP ∧ w'.cell? ⟨bi, 0, none⟩ = some (.int .i64 i) ∧ w'.cell? ⟨bm, 0, none⟩ = some (.int .i64 m) ∧ w'.cell? ⟨bl, m, none⟩ = some (.int .i64 x) ∧ w'.cell? ⟨bl, m + 1, none⟩ = some (.int .i64 y)) _ _ _ _ ?_
  have hS0 : (fun w' : World => w'.cell? ⟨bc, 2, none⟩ = some vP ∧ w'.cell? ⟨bi, 0, none⟩ = some (.int .i64 i) ∧ w'.cell? ⟨bm, 0, none⟩ = some (.int .i64 m) ∧ w'.cell? ⟨bl, m, none⟩ = some (.int .i64 x) ∧ w'.cell? ⟨bl, m + 1, none⟩ = some (.int .i64 y)) w.drew := ⟨hc2, hci, hcm, hx', hy'⟩
  refine wpAnyH_take (i := 0) (v := ?tv0) rfl (by kernel_rfl) (by kernel_rfl) (by kernel_rfl) (fun _ _ _ h => h) (Or.inl ⟨by rfl, ?th0⟩) (by assumption) ?tr0
  case th0 => (intro w hSw; (try dsimp only at hSw); go_split_ands; go_simp; (try with_reducible rfl))
  simp only [Act.put, List.setIfInBounds_toArray, List.set_cons_zero, List.set_cons_succ]
  refine wpAnyH_take (i := 1) (v := ?tv1) rfl (by kernel_rfl) (by kernel_rfl) (by kernel_rfl) (fun _ _ _ h => h) (Or.inl ⟨by rfl, ?th1⟩) (by assumption) ?tr1
  case th1 => (intro w hSw; (try dsimp only at hSw); go_split_ands; go_simp; (try with_reducible rfl))
  simp only [Act.put, List.setIfInBounds_toArray, List.set_cons_zero, List.set_cons_succ]
  refine wpAnyH_take (i := 2) (v := ?tv2) rfl (by kernel_rfl) (by kernel_rfl) (by kernel_rfl) (fun _ _ _ h => h) (Or.inl ⟨by rfl, ?th2⟩) (by assumption) ?tr2
  case th2 => (intro w hSw; (try dsimp only at hSw); go_split_ands; go_simp; (try with_reducible rfl))
  simp only [Act.put, List.setIfInBounds_toArray, List.set_cons_zero, List.set_cons_succ]
  refine wpAnyH_take (i := 3) (v := ?tv3) rfl (by kernel_rfl) (by kernel_rfl) (by kernel_rfl) (fun _ _ _ h => h) (Or.inl ⟨by rfl, ?th3⟩) (by assumption) ?tr3
  case th3 => (intro w hSw; (try dsimp only at hSw); go_split_ands; go_simp; (try with_reducible rfl))
  simp only [Act.put, List.setIfInBounds_toArray, List.set_cons_zero, List.set_cons_succ]
  refine wpAnyH_take (i := 4) (v := ?tv4) rfl (by kernel_rfl) (by kernel_rfl) (by kernel_rfl) (fun _ _ _ h => h) (Or.inl ⟨by rfl, ?th4⟩) (by assumption) ?tr4
  case th4 => (intro w hSw; (try dsimp only at hSw); go_split_ands; go_simp; (try with_reducible rfl))
  simp only [Act.put, List.setIfInBounds_toArray, List.set_cons_zero, List.set_cons_succ]
  refine wpAnyH_take (i := 5) (v := ?tv5) rfl (by kernel_rfl) (by kernel_rfl) (by kernel_rfl) (fun _ _ _ h => h) (Or.inl ⟨by rfl, ?th5⟩) (by assumption) ?tr5
  case th5 => (intro w hSw; (try dsimp only at hSw); go_split_ands; go_simp; (try with_reducible rfl))
  simp only [Act.put, List.setIfInBounds_toArray, List.set_cons_zero, List.set_cons_succ]
  refine wpAnyH_take (i := 6) (v := ?tv6) rfl (by kernel_rfl) (by kernel_rfl) (by kernel_rfl) (fun _ _ _ h => h) (Or.inl ⟨by rfl, ?th6⟩) (by assumption) ?tr6
  case th6 => (intro w hSw; (try dsimp only at hSw); go_split_ands; go_simp; (try with_reducible rfl))
  simp only [Act.put, List.setIfInBounds_toArray, List.set_cons_zero, List.set_cons_succ]
  refine wpAnyH_take (i := 7) (v := ?tv7) rfl (by kernel_rfl) (by kernel_rfl) (by kernel_rfl) (fun _ _ _ h => h) (Or.inl ⟨by rfl, ?th7⟩) (by assumption) ?tr7
  case th7 => (intro w hSw; (try dsimp only at hSw); go_split_ands; go_simp; (try with_reducible rfl))
  simp only [Act.put, List.setIfInBounds_toArray, List.set_cons_zero, List.set_cons_succ]
  refine wpAnyH_take (i := 8) (v := ?tv8) rfl (by kernel_rfl) (by kernel_rfl) (by kernel_rfl) (fun _ _ _ h => h) (Or.inl ⟨by rfl, ?th8⟩) (by assumption) ?tr8
  case th8 => (intro w hSw; (try dsimp only at hSw); go_split_ands; go_simp; (try with_reducible rfl))
  simp only [Act.put, List.setIfInBounds_toArray, List.set_cons_zero, List.set_cons_succ]
  refine wpAnyH_take (i := 9) (v := ?tv9) rfl (by kernel_rfl) (by kernel_rfl) (by kernel_rfl) (fun _ _ _ h => h) (Or.inl ⟨by rfl, ?th9⟩) (by assumption) ?tr9
  case th9 => (intro w hSw; (try dsimp only at hSw); go_split_ands; go_simp; (try with_reducible rfl))
  simp only [Act.put, List.setIfInBounds_toArray, List.set_cons_zero, List.set_cons_succ]
  refine wpAnyH_take (i := 10) (v := ?tv10) rfl (by kernel_rfl) (by kernel_rfl) (by kernel_rfl) (fun _ _ _ h => h) (Or.inl ⟨by rfl, ?th10⟩) (by assumption) ?tr10
  case th10 => (intro w hSw; (try dsimp only at hSw); go_split_ands; go_simp; (try with_reducible rfl))
  simp only [Act.put, List.setIfInBounds_toArray, List.set_cons_zero, List.set_cons_succ]
  refine wpAnyH_take (i := 11) (v := ?tv11) rfl (by kernel_rfl) (by kernel_rfl) (by kernel_rfl) (fun _ _ _ h => h) (Or.inl ⟨by rfl, ?th11⟩) (by assumption) ?tr11
  case th11 => (intro w hSw; (try dsimp only at hSw); go_split_ands; go_simp; (try with_reducible rfl))
  simp only [Act.put, List.setIfInBounds_toArray, List.set_cons_zero, List.set_cons_succ]
  refine wpAnyH_ready (rs := [12]) (by kernel_rfl) (by simp) (AllReadyH.cons rfl (fun K12 hK12 => ?_) AllReadyH.nil)
  go_simp
  refine hK12.out _ _ ?_ (fun hS1 => ?_)
  · clear hK12
    simp [hc2, hci, hcm, hx', hy', go_sem, lc, li, lm, ll]
  clear hK12 K12
  refine wpAnyH_ready (rs := [13]) (by kernel_rfl) (by simp) (AllReadyH.cons rfl (fun K13 hK13 => ?_) AllReadyH.nil)
  refine step_append_lies _ (by rfl) _ _ _ (by rfl) base 62 i0 _ 4 32 Try.underlying30 hi0 hz0 hz1 hz2 rfl (by omega) vP n ps (by rfl) ((HO.out.alloc _).drew) ⟨w.heap.size, 0, none⟩ 1 1 [.int .i64 i, .int .i64 m, .int .i64 x, .int .i64 y] (by rfl) (by rfl) (World.news_of_block (cs := #[.int .i64 i, .int .i64 m, .int .i64 x, .int .i64 y]) (t := 62) (fr := (0, 0)) (heap_alloc_new w _)) (by simp [Value.oneCell']) (by omega) (by unfold maxLen; omega) (by omega) (by simp; omega) (w.heap.size + 1) (by simp) ?_
  intro gg cap w1 hown1 hgrow hat hlt
  refine hK13.out _ _ ?_ (fun hS2 => ?_)
  · go_split_ands
    refine ⟨?_, ?_, ?_, ?_, ?_⟩
    · (rw [hgrow.cell_far _ (by simp; omega) (Ne.symm ag)]; assumption)
    · (rw [hgrow.cell_far _ (by simp; omega) (Ne.symm ai)]; assumption)
    · (rw [hgrow.cell_far _ (by simp; omega) (Ne.symm am)]; assumption)
    · (rw [hgrow.cell_far _ (by simp; omega) (Ne.symm al)]; assumption)
    · (rw [hgrow.cell_far _ (by simp; omega) (Ne.symm al)]; assumption)
  clear hK13 K13
  simp only [Act.put, List.setIfInBounds_toArray, List.set_cons_zero, List.set_cons_succ]
  refine wpAnyH_take (i := 14) (v := ?tv14) rfl (by kernel_rfl) (by kernel_rfl) (by kernel_rfl) (fun _ _ _ h => h) (Or.inl ⟨by rfl, ?th14⟩) (by assumption) ?tr14
  case th14 => (intro w hSw; (try dsimp only at hSw); go_split_ands; go_simp; (try with_reducible rfl))
  simp only [Act.put, List.setIfInBounds_toArray, List.set_cons_zero, List.set_cons_succ]
  refine wpAnyH_done (by kernel_rfl) ?_ _
  have HB1 : Blk w1 bc #[.int .i64 thr, vC, vP] 32 := Blk.kept ((HC.out.alloc (.cells #[.int .i64 i, .int .i64 m, .int .i64 x, .int .i64 y] 62)).drew) hgrow (fun e => ag e.symm)
  have hcc := cell3 HB1
  have hff := HB1.frozen 2
  have HB1 := Lib.hid HB1
  have HS := Lib.hid hown1
  have HG := Lib.hid hgrow
  clear hS0 hS1 hS2 hat hown1 hgrow hc2 hci hcm hx' hy'
  refine behind_step rfl (fun K hK => ?_)
  go_simp
  refine hK _ _ ?_
  go_end0
  refine ⟨rfl, _, HB1.out.set 2 _, ?_, ?_⟩
  · exact own_turn HS.out (Turn.grown (S := fun k => k = bc) (grownBy_setCell _ _ _ _) (fun k e => by cases e; rfl)) (fun k hk => HB1.out.not_row (by decide) HS.out k hk)
  · exact ((((Turn.refl _ w).alloc _).drew).trans (Turn.grown HG.out (fun k e => .inr e.symm))).setCell (.inl rfl) _
end Go.Proofs.Ytefdncpdlgakpaa
