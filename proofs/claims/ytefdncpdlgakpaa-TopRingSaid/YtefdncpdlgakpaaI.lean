import Derived.Test.YtefdncpdlgakpaaH
import Derived.Lib.BufferMore
import Derived.Lib.LazyBuf
namespace Go.Proofs.Ytefdncpdlgakpaa
open Go.RowKit

/-! slices.Clone, cloth.Ends, seams.ends, sewn, Knots. -/

theorem Addr.add_off (b o j : Nat) : (⟨b, o, none⟩ : Addr).add j = ⟨b, o + j, none⟩ := by unfold Addr.add; split <;> simp_all

theorem Try.infoInt : (Try.prog.info? 3).map (fun i => (i.zero, i.size, i.bytes)) = some (some (.int .i64 0), 1, 8) := by kernel_rfl

set_option maxHeartbeats 1000000 in
theorem clone_any (a : Option Addr) (cap : Nat) (xs : List Int) (w : World) (h : Ar (eI .i64) w a xs) (hn : xs.length ≤ 1000000) :
    Calls Try.prog 12 #[.slice a xs.length cap] w fun e w' => (∃ v, e = .returned v ∧ w'.ownsRow w.heap.size 3 1 v xs.length (xs.map (Value.int .i64))) ∧ Grow w w' := by
  obtain ⟨i0, hi, hz0, hz1, hz2⟩ := info_parts Try.infoInt
  have q22 : ∀ (w : World) (a : Option Addr) (n c n' c' : Nat), (binOp .eql 43 (.slice a n c) (.slice none n' c')).run Try.prog w = .ok (.bool a.isNone) w := fun w a n c n' c' => Lib.run_eql_slice_nil w _ _ a n c n' c' Try.underlying43
  have HA := Lib.hid h
  clear h
  cases a with
  | none =>
    have h0 : xs = [] := by
      cases xs with
      | nil => rfl
      | cons x xs =>
        obtain ⟨b, o, e, _⟩ := HA.out (by simp [eI])
        cases e
    subst h0
    go_enter Try.func12, Try.ntmps12
    go_wp2
    go_ret
    exact ⟨⟨_, rfl, World.ownsRow_nil _ _ _ _⟩, Below.refl _ _⟩
  | some ad =>
    go_enter Try.func12, Try.ntmps12
    go_wp2_with (at_builtin; refine wpList_append_own _ rfl _ _ 43 rfl w.heap.size 3 i0 (.int .i64 0) 1 8 Try.underlying43 hi hz0 hz1 hz2 rfl (by decide) _ _ _ rfl (World.ownsRow_made w #[] 0 (Nat.le_refl _) (Nat.zero_le _) rfl) ad xs.length cap (xs.map (Value.int .i64)) rfl ?qc1 ?qc2 ?qc3 ?qc4 ?qc5 ?qc6 ?_)
    case qc1 => simp
    case qc2 =>
      intro j u hj
      have hjn : j < xs.length := by have := (List.getElem?_eq_some_iff.1 hj).1; simpa using this
      obtain ⟨b, o, x, hx, ha, hb, hc⟩ := HA.out.int hjn
      cases ha
      rw [Addr.add_off]
      rw [List.getElem?_map, hx] at hj
      cases hj
      rw [((Below.refl w.heap.size w).alloc (Nat.le_refl _) _).cell (p := ⟨b, o + j, none⟩) hb]
      exact hc
    case qc3 => intro u hu; obtain ⟨x, _, rfl⟩ := List.mem_map.1 hu; rfl
    case qc4 => unfold maxLen; omega
    case qc5 => omega
    case qc6 => simp
    intro v' w1 hown hgrow hnil
    go_wp2
    go_ret
    exact ⟨⟨v', rfl, by simpa using hown⟩, ((Below.refl _ w).alloc (Nat.le_refl _) _).grown hgrow (by simp) (by intro k hk; simp [Value.ownBlock] at hk; omega)⟩

/-- the line lies in block b; nothing else has turned since w -/
theorem arr_of_blk {w : World} {b : Nat} {cs : List Value} {T : TypeId} (h : Blk w b cs.toArray T) {k : Nat} (hk : k ≤ cs.length) : Arr w (some ⟨b, 0, none⟩) (cs.take k) := fun _ =>
  ⟨b, 0, rfl, fun j u hj => by
    rw [h.cell, Nat.zero_add]
    rw [List.getElem?_take] at hj
    split at hj
    · simpa using hj
    · cases hj⟩

set_option maxRecDepth 100000 in
set_option maxHeartbeats 1000000 in
theorem ends_any (thr : Nat) (a a2 : Option Addr) (cap cap2 : Nat) (cr pins : List Q4) (w : World) (ha : Ar eQ w a cr) (ha2 : Ar eQ w a2 pins) (hok : okCl thr cr pins) :
    Calls Try.prog 43 #[.agg #[.int .i64 thr, .slice a cr.length cap, .slice a2 pins.length cap2]] w fun e w' =>
      (∃ v, e = .returned (.tuple #[v, .int .i64 0]) ∧ w'.ownsRow w.heap.size 3 1 v thr (((lineAt id48 cr cr.length).take thr).map (Value.int .i64))) ∧ Grow w w' := by
  have h2 := hok.t2
  have h48 := hok.t48
  have hnc := hok.nc
  have HA := Lib.hid ha
  have HA2 := Lib.hid ha2
  have HK := Lib.hid hok
  clear ha ha2 hok
  go_enter Try.func43, Try.ntmps43
  go_wp2_with fail
  refine (clothCheck_ok thr a a2 cap cap2 cr pins _ (HA.out.alloc _) (HA2.out.alloc _) HK.out).mono ?_
  rintro e w1 ⟨rfl, hg1⟩
  have S1 := Lib.hid ((Blk.new w #[.int .i64 thr, .slice a cr.length cap, .slice a2 pins.length cap2] 32).grow hg1)
  have G1 := Lib.hid (((Below.refl w.heap.size w).alloc (Nat.le_refl _) _).trans (hg1.mono (by simp)))
  clear hg1
  go_wp2_with fail
  refine (begun_any _).mono ?_
  rintro e w2 ⟨rfl, hg2⟩
  have S2 := Lib.hid (S1.out.grow hg2)
  have G2 := Lib.hid (G1.out.trans (hg2.mono G1.out.size))
  have hs1 : w2.cell? ⟨w.heap.size, 1, none⟩ = some (.slice a cr.length cap) := by rw [S2.out.cell]; rfl
  have hl2 := S2.out.lt
  clear hg2 S1 G1
  go_wp2_with (refine wpList_store_row rfl 59 _ _ rfl w2.heap.size (lineC id48) rfl rfl 59 (lineC (begunTo 0)) (Blk.new _ _ _) (by rw [Try.infoLine]; rfl) rfl (lineC_one _) ?_; rw [World.setRow_alloc_new])
  have hHA := Lib.hid (HA.out.grow G2.out)
  have hLI := Lib.hid (hHA.out.lies)
  have hB0 := Lib.hid (Blk.new w2 (lineC id48) 59)
  clear hs1
  go_loopw [17] (fun i wr => ∃ k : Nat, k ≤ cr.length ∧ i = .int .i64 k ∧ Hid (Blk wr w2.heap.size (lineC (lineAt id48 cr k)) 59) ∧ Hid (Below w2.heap.size w2 wr)) (fun i _ => cr.length - (intOf i).toNat)
  case atStart => exact ⟨0, Nat.zero_le _, rfl, hB0.out, (Below.refl _ _).alloc (Nat.le_refl _) _⟩
  case round =>
    clear hB0
    obtain ⟨k, hk, rfl, hb, hg⟩ := hrel
    have hs0 : wr.cell? ⟨w.heap.size, 0, none⟩ = some (.int .i64 thr) := by rw [(S2.out.below hg.out hl2).cell]; rfl
    have hlw := cell_lt hs0
    by_cases hlt : k < cr.length
    · obtain ⟨b, o, x, hx, rfl, hbb, hx0, hx1, hx2, hx3⟩ := (Ar.q4 (Arr.keep hHA.out hLI.out hg.out) hlt)
      obtain ⟨hv0, hv1, hv2⟩ := HK.out.hc x (List.mem_of_getElem? hx)
      obtain ⟨m, hm⟩ : ∃ m : Nat, x.b = m := ⟨x.b.toNat, by omega⟩
      rw [hm] at hx1 hv1
      have hlen : (lineAt id48 cr k).length = 48 := lineAt_len _ _ _
      obtain ⟨ya, hya⟩ : ∃ ya, (lineAt id48 cr k).getD m 0 = ya := ⟨_, rfl⟩
      obtain ⟨yb, hyb⟩ : ∃ yb, (lineAt id48 cr k).getD (m + 1) 0 = yb := ⟨_, rfl⟩
      have HYA : Hid ((lineAt id48 cr k)[m]? = some ya) := by show _ = _; rw [← hya, List.getD_eq_getElem?_getD, List.getElem?_eq_getElem (by omega)]; rfl
      have HYB : Hid ((lineAt id48 cr k)[m + 1]? = some yb) := by show _ = _; rw [← hyb, List.getD_eq_getElem?_getD, List.getElem?_eq_getElem (by omega)]; rfl
      have HSW : Hid (((lineAt id48 cr k).set m yb).set (m + 1) ya = lineAt id48 cr (k + 1)) := by
        unfold Hid
        rw [lineAt_succ hx, swapL, hm, Int.toNat_natCast, hya, hyb]
      clear hx hya hyb hm
      go_wp2_with (go_at_call 24; go_must (refine (swap_any _ _ m ya yb _ _ (hb.out.alloc _) hlen HYA.out HYB.out).mono ?_); rintro e w4 ⟨rfl, hb4, hg4⟩; have HB4 := Lib.hid hb4; have HG4 := Lib.hid ((hg.out.alloc hg.out.size _).grown hg4 (by simp; exact Nat.le_of_lt (Nat.lt_succ_of_lt hb.out.lt)) (fun k e => by cases e; exact Nat.le_refl _)); clear hb4 hg4)
      go_roundw
      case rel =>
        refine ⟨k + 1, by omega, by go_num, ?_, HG4.out⟩
        rw [← HSW.out]
        exact HB4.out
      case measure => simp [intOf]; omega
    · have hk' : k = cr.length := by omega
      subst hk'
      have hlen : (lineAt id48 cr cr.length).length = 48 := lineAt_len _ _ _
      have hAr : Hid (Ar (eI .i64) wr (some ⟨w2.heap.size, 0, none⟩) ((lineAt id48 cr cr.length).take thr)) := by
        refine Ar.of_ints ?_
        rw [List.map_take]
        exact arr_of_blk (cs := (lineAt id48 cr cr.length).map (Value.int .i64)) hb.out (by simp; omega)
      have hlt' : ((lineAt id48 cr cr.length).take thr).length = thr := by simp; omega
      have HC := Lib.hid (clone_any (some ⟨w2.heap.size, 0, none⟩) 48 ((lineAt id48 cr cr.length).take thr) wr hAr.out (by rw [hlt']; omega))
      have HLT := Lib.hid hlt'
      clear hlt'
      rw [HLT.out] at HC
      have hbl := hb.out.lt
      go_wp2_with (go_at_call 12; go_must (refine HC.out.mono ?_); rintro e w5 ⟨⟨v, rfl, ho⟩, hg5⟩; have HO := Lib.hid (own_base (base' := w.heap.size) ho (Nat.le_trans G2.out.size hg.out.size)); have HG5 := Lib.hid (G2.out.trans ((hg.out.mono G2.out.size).trans (hg5.mono (Nat.le_trans G2.out.size hg.out.size)))); clear ho hg5)
      go_ret2
      exact ⟨⟨v, rfl, HO.out⟩, HG5.out⟩

end Go.Proofs.Ytefdncpdlgakpaa
