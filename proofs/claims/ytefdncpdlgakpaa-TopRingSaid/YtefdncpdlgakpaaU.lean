import Derived.Test.YtefdncpdlgakpaaT
namespace Go.Proofs.Ytefdncpdlgakpaa
open Go.RowKit

/-! colours: Check, Line; edgingSewn. -/
theorem own_set {W : World} {base : Nat} {e : TypeId} {g n cap : Nat} {xs : List Value} (h : W.ownsRow base e 1 (.slice (some ⟨g, 0, none⟩) n cap) n xs) (i : Nat) (x : Value) (hi : i < n) :
    (W.setCell ⟨g, i, none⟩ x).ownsRow base e 1 (.slice (some ⟨g, 0, none⟩) n cap) n (xs.set i x) := by
  obtain ⟨hl, h2⟩ := h
  refine ⟨by simpa using hl, ?_⟩
  rcases h2 with ⟨h0, _⟩ | ⟨g', cap', cur, hv, hb, hg, hn, hm, hc, ht⟩
  · cases h0
  · cases hv
    refine .inr ⟨g, cap, cur.setIfInBounds i x, rfl, hb, heap_setCell_same W g i cur e x hg, hn, hm, by simpa using hc, ?_⟩
    rw [← ht]
    simp [List.take_set]

theorem own_pos {W : World} {base : Nat} {e : TypeId} {size n : Nat} {v : Value} {xs : List Value} (h : W.ownsRow base e size v n xs) (hn : 0 < n) : ∃ g cap, v = .slice (some ⟨g, 0, none⟩) n cap := by
  rcases h.2 with ⟨_, h0⟩ | ⟨g, cap, _, rfl, _⟩
  · omega
  · exact ⟨g, cap, rfl⟩
theorem own_cell {W : World} {base : Nat} {e : TypeId} {g n cap : Nat} {xs : List Value} (h : W.ownsRow base e 1 (.slice (some ⟨g, 0, none⟩) n cap) n xs) {i : Nat} {x : Value} (hx : xs[i]? = some x) : W.cell? ⟨g, i, none⟩ = some x ∧ W.frozen? ⟨g, i, none⟩ = false ∧ g < W.heap.size := by
  obtain ⟨hl, h2⟩ := h
  rcases h2 with ⟨h0, _⟩ | ⟨g', cap', cur, hv, hb, hg, hn, hm, hc, ht⟩
  · cases h0
  · cases hv
    refine ⟨?_, frozen_of_row W g i cur e hg, (Array.getElem?_eq_some_iff.1 hg).1⟩
    rw [cell_of_row W g i cur e (0, 0) hg]
    rw [← ht, List.getElem?_take] at hx
    split at hx
    · simpa using hx
    · cases hx

theorem badF_any (n : Int) (w : World) (h0 : 0 ≤ n) (h1 : n < 16) : Calls Try.prog 55 #[.int .i64 n] w fun e w' => e = .returned (.bool false) ∧ w' = w := by
  go_enter Try.func55, Try.ntmps55
  go_wp2
  go_ret
  exact ⟨by simp; omega, rfl⟩

theorem idxBad_any (a : Option Addr) (cap : Nat) (xs : List Int) (w : World) (h : Ar (eI .i64) w a xs) (hn : xs.length ≤ 1000000) (hr : ∀ x ∈ xs, 0 ≤ x ∧ x < 16) :
    Calls Try.prog 58 #[.slice a xs.length cap, .func (.func 55) #[] #[]] w fun e w' => e = .returned (.int .i64 (-1)) ∧ w' = w := by
  have HA := Lib.hid h
  have HR := Lib.hid hr
  clear h hr
  go_enter Try.func58, Try.ntmps58
  go_wp2
  go_loopw [8] (fun i wr => ∃ k : Nat, k ≤ xs.length ∧ i = .int .i64 k ∧ Hid (wr = w)) (fun i _ => xs.length - (intOf i).toNat)
  case atStart => exact ⟨0, Nat.zero_le _, rfl, rfl⟩
  case round =>
    obtain ⟨k, hk, rfl, hg⟩ := hrel
    obtain rfl := hg.out
    by_cases hlt : k < xs.length
    · obtain ⟨b, o, x, hx, rfl, hb, hc⟩ := HA.out.int hlt
      obtain ⟨h0, h1⟩ := HR.out x (List.mem_of_getElem? hx)
      clear hx hg
      go_wp2_with (go_at_call 55; go_must (refine (badF_any x _ h0 h1).mono ?_); rintro e w3 ⟨rfl, rfl⟩)
      go_roundw
      case rel => exact ⟨k + 1, by omega, by go_num, trivial⟩
      case measure => simp [intOf]; omega
    · go_wp2
      go_ret
      exact ⟨rfl, rfl⟩

theorem hasBad_any (a : Option Addr) (cap : Nat) (xs : List Int) (w : World) (h : Ar (eI .i64) w a xs) (hn : xs.length ≤ 1000000) (hr : ∀ x ∈ xs, 0 ≤ x ∧ x < 16) :
    Calls Try.prog 54 #[.slice a xs.length cap, .func (.func 55) #[] #[]] w fun e w' => e = .returned (.bool false) ∧ w' = w := by
  have HC := Lib.hid (idxBad_any a cap xs w h hn hr)
  clear h hr
  go_enter Try.func54, Try.ntmps54
  go_wp2_with (go_at_call 58; go_must (refine HC.out.mono ?_); rintro e w3 ⟨rfl, rfl⟩)
  go_ret
  exact ⟨rfl, rfl⟩

theorem bad_any (a : Option Addr) (cap : Nat) (xs : List Int) (T : Nat) (hT : xs.length = T) (w : World) (h : Ar (eI .i64) w a xs) (hn : T ≤ 1000000) (hr : ∀ x ∈ xs, 0 ≤ x ∧ x < 16) :
    Calls Try.prog 46 #[.slice a T cap, .int .i64 T] w fun e w' => e = .returned (.bool false) ∧ w' = w := by
  subst hT
  have HC := Lib.hid (hasBad_any a cap xs w h hn hr)
  clear h hr
  go_enter Try.func46, Try.ntmps46
  go_wp2_with (go_at_call 54; go_must (refine HC.out.mono ?_); rintro e w3 ⟨rfl, rfl⟩)
  go_ret
  exact ⟨rfl, rfl⟩

set_option maxHeartbeats 1000000 in
theorem coCheck_ok (thr : Nat) (a a2 a3 : Option Addr) (cap cap2 cap3 : Nat) (cr pins : List Q4) (xs : List Int) (w : World) (ha : Ar eQ w a cr) (ha2 : Ar eQ w a2 pins) (hok : okCl thr cr pins)
    (h : Ar (eI .i64) w a3 xs) (hx : xs.length = thr) (hr : ∀ x ∈ xs, 0 ≤ x ∧ x < 16) :
    Calls Try.prog 35 #[.agg #[.int .i64 thr, .slice a cr.length cap, .slice a2 pins.length cap2], .slice a3 thr cap3] w fun e w' => e = .returned (.int .i64 0) ∧ Grow w w' := by
  have h48 := hok.t48
  have HC := Lib.hid (fun o => clothCheck_ok thr a a2 cap cap2 cr pins (w.alloc o) (ha.alloc o) (ha2.alloc o) hok)
  have HX := Lib.hid h
  have HR := Lib.hid hr
  have HL := Lib.hid hx
  clear ha ha2 hok h hr hx
  go_enter Try.func35, Try.ntmps35
  go_wp2_with fail
  refine (HC.out _).mono ?_
  rintro e w1 ⟨rfl, hg1⟩
  have S1 := (Blk.new w #[.int .i64 thr, .slice a cr.length cap, .slice a2 pins.length cap2] 32).grow hg1
  have hs0 : w1.cell? ⟨w.heap.size, 0, none⟩ = some (.int .i64 thr) := by rw [S1.cell]; rfl
  have hsl := S1.lt
  have G1 := Lib.hid (((Below.refl w.heap.size w).alloc (Nat.le_refl _) (Obj.cells #[.int .i64 thr, .slice a cr.length cap, .slice a2 pins.length cap2] 32)).trans (hg1.mono (by simp)))
  have HB := Lib.hid (bad_any a3 cap3 xs thr HL.out w1 (HX.out.grow G1.out) (by omega) HR.out)
  clear hg1 S1 HC
  go_wp2_with (go_at_call 46; go_must (refine HB.out.mono ?_); rintro e w3 ⟨rfl, rfl⟩)
  go_ret
  exact ⟨rfl, G1.out⟩

theorem swap_map (l : List Int) (m : Nat) (hm : m + 1 < l.length) : ((l.map (Value.int .i64)).set m (.int .i64 (l.getD (m + 1) 0))).set (m + 1) (.int .i64 (l.getD m 0)) = (swapL l m).map (Value.int .i64) := by
  unfold swapL
  rw [List.map_set, List.map_set]

set_option maxRecDepth 100000 in
set_option maxHeartbeats 1000000 in
theorem line_any (thr : Nat) (a a2 a3 : Option Addr) (cap cap2 cap3 : Nat) (cr pins : List Q4) (xs : List Int) (w : World) (ha : Ar eQ w a cr) (ha2 : Ar eQ w a2 pins) (hok : okCl thr cr pins)
    (hcap : cr.length ≤ cap) (hcap2 : cap ≤ maxLen) (h : Ar (eI .i64) w a3 xs) (hx : xs.length = thr) (hr : ∀ x ∈ xs, 0 ≤ x ∧ x < 16) :
    Calls Try.prog 17 #[.agg #[.int .i64 thr, .slice a cr.length cap, .slice a2 pins.length cap2], .slice a3 thr cap3, .int .i64 cr.length] w fun e w' =>
      (∃ v, e = .returned (.tuple #[v, .int .i64 0]) ∧ w'.ownsRow w.heap.size 3 1 v thr ((lineAt xs cr cr.length).map (Value.int .i64))) ∧ Grow w w' := by
  have h48 := hok.t48
  have h2 := hok.t2
  have hnc := hok.nc
  have HC := Lib.hid (fun o => coCheck_ok thr a a2 a3 cap cap2 cap3 cr pins xs (w.alloc o) (ha.alloc o) (ha2.alloc o) hok (h.alloc o) hx hr)
  have HA := Lib.hid ha
  have HX := Lib.hid h
  have HK := Lib.hid hok
  have HL := Lib.hid hx
  clear ha ha2 hok h hr hx
  unfold maxLen at hcap2
  go_enter Try.func17, Try.ntmps17
  go_wp2_with fail
  refine (HC.out _).mono ?_
  rintro e w1 ⟨rfl, hg1⟩
  have S1 := (Blk.new w #[.int .i64 thr, .slice a cr.length cap, .slice a2 pins.length cap2] 32).grow hg1
  have hs1 : w1.cell? ⟨w.heap.size, 1, none⟩ = some (.slice a cr.length cap) := by rw [S1.cell]; rfl
  have hsl := S1.lt
  have HS := Lib.hid S1
  have G1 := Lib.hid (((Below.refl w.heap.size w).alloc (Nat.le_refl _) (Obj.cells #[.int .i64 thr, .slice a cr.length cap, .slice a2 pins.length cap2] 32)).trans (hg1.mono (by simp)))
  have HCL := Lib.hid (clone_any a3 cap3 xs w1 (HX.out.grow G1.out) (by rw [HL.out]; omega))
  rw [HL.out] at HCL
  clear hg1 S1 HC
  go_wp2_with (go_at_call 12; go_must (refine HCL.out.mono ?_); rintro e w2 ⟨⟨v, rfl, ho⟩, hg⟩; obtain ⟨gv, cv, rfl⟩ := own_pos ho (by omega); have S2 := (HS.out.grow hg); have hc2 : w2.cell? ⟨w.heap.size, 1, none⟩ = some (.slice a cr.length cap) := (by rw [S2.cell]; rfl); have hsl2 := S2.lt; have HO2 := Lib.hid (own_base (base' := w.heap.size) ho G1.out.size); have HG2 := Lib.hid (G1.out.trans (hg.mono G1.out.size)); clear ho hg S2)
  have HLE := Lib.hid (HA.out.lies)
  clear hs1 hsl hc2 hsl2
  go_loopw [34] (fun i wr => ∃ k : Nat, k ≤ cr.length ∧ i = .int .i64 k ∧ Hid (wr.ownsRow w.heap.size 3 1 (.slice (some ⟨gv, 0, none⟩) thr cv) thr ((lineAt xs cr k).map (Value.int .i64))) ∧ Hid (Grow w wr)) (fun i _ => cr.length - (intOf i).toNat)
  case atStart => exact ⟨0, Nat.zero_le _, rfl, HO2.out, HG2.out⟩
  case round =>
    clear HO2 HG2
    obtain ⟨k, hk, rfl, ho, hg⟩ := hrel
    by_cases hlt : k < cr.length
    · obtain ⟨b, o, x, hx, rfl, hbb, hx0, hx1, hx2, hx3⟩ := (Ar.q4 (HA.out.grow hg.out) hlt)
      obtain ⟨hv0, hv1, hv2⟩ := HK.out.hc x (List.mem_of_getElem? hx)
      obtain ⟨m, hm⟩ : ∃ m : Nat, x.b = m := ⟨x.b.toNat, by omega⟩
      have hlen : (lineAt xs cr k).length = thr := by rw [lineAt_len, HL.out]
      rw [hm] at hx1 hv1
      obtain ⟨ya, hya⟩ : ∃ ya, (lineAt xs cr k).getD m 0 = ya := ⟨_, rfl⟩
      obtain ⟨yb, hyb⟩ : ∃ yb, (lineAt xs cr k).getD (m + 1) 0 = yb := ⟨_, rfl⟩
      have hya' : ((lineAt xs cr k).map (Value.int .i64))[m]? = some (.int .i64 ya) := by rw [List.getElem?_map, List.getElem?_eq_getElem (by omega)]; rw [← hya, List.getD_eq_getElem?_getD, List.getElem?_eq_getElem (by omega)]; rfl
      have hyb' : ((lineAt xs cr k).map (Value.int .i64))[m + 1]? = some (.int .i64 yb) := by rw [List.getElem?_map, List.getElem?_eq_getElem (by omega)]; rw [← hyb, List.getD_eq_getElem?_getD, List.getElem?_eq_getElem (by omega)]; rfl
      obtain ⟨c0, f0, l0⟩ := own_cell ho.out hya'
      obtain ⟨c1, f1, _⟩ := own_cell ho.out hyb'
      have HSW : Hid ((((lineAt xs cr k).map (Value.int .i64)).set m (.int .i64 yb)).set (m + 1) (.int .i64 ya) = (lineAt xs cr (k + 1)).map (Value.int .i64)) := by
        unfold Hid
        rw [lineAt_succ hx, hm, Int.toNat_natCast, ← swap_map _ _ (by omega), hya, hyb]
      have hgl := (ho.out.lt gv rfl).1
      have HGL := Lib.hid hgl
      have HM := Lib.hid hm
      have hm1 : (m : Int) + 1 < thr := by omega
      clear hx hya hyb hya' hyb' hm hgl hlen
      go_wp2_with fail
      go_region
      have hO1 := own_set ho.out m (.int .i64 yb) (by omega)
      have hO2 := own_set hO1 (m + 1) (.int .i64 ya) (by omega)
      rw [HSW.out] at hO2
      have HO3 := Lib.hid (fun o => own_grow (own_grow hO2 ((Below.refl _ _).alloc (Nat.le_refl _) o)) ((Below.refl _ _).drew))
      have HG3 := Lib.hid (fun o => ((((hg.out.setCell (p := ⟨gv, m, none⟩) HGL.out (.int .i64 yb)).setCell (p := ⟨gv, m + 1, none⟩) HGL.out (.int .i64 ya)).alloc (by simpa using hg.out.size) o).drew))
      clear hO1 hO2 ho hg HSW
      go_wp2
      go_roundw
      case rel => exact ⟨k + 1, by omega, by go_num, HO3.out _, HG3.out _⟩
      case measure => simp [intOf]; omega
    · have hk' : k = cr.length := by omega
      subst hk'
      go_wp2
      go_ret2
      exact ⟨⟨_, rfl, ho.out⟩, hg.out⟩
end Go.Proofs.Ytefdncpdlgakpaa
