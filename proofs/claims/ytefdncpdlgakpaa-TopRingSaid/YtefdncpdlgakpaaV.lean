import Derived.Test.YtefdncpdlgakpaaU
namespace Go.Proofs.Ytefdncpdlgakpaa
open Go.RowKit

/-! edgingSewn. -/
set_option maxRecDepth 100000 in
set_option maxHeartbeats 1000000 in
theorem sewnE_any (P sh thr : Nat) (hP : thr = 2 * P) (hsh : sh < P) (a a2 a3 : Option Addr) (cap cap2 cap3 : Nat) (cr pins : List Q4) (xs : List Int) (bk : Nat) (w : World) (ha : Ar eQ w a cr) (ha2 : Ar eQ w a2 pins) (hok : okCl thr cr pins)
    (hcap : cr.length ≤ cap) (hcap2 : cap ≤ maxLen) (h : Ar (eI .i64) w a3 xs) (hx : xs.length = thr) (hr : ∀ x ∈ xs, 0 ≤ x ∧ x < 16) (hkn : Blk w bk (knC P sh P) 69) :
    Calls Try.prog 13 #[.agg #[.int .i64 thr, .slice a cr.length cap, .slice a2 pins.length cap2], .slice (some ⟨bk, 0, none⟩) P P, .slice a3 thr cap3] w fun e w' =>
      (∃ r, e = .returned (.bool r) ∧ (r = true ↔ ∀ q < P, ∀ i < 2, (lineAt xs cr cr.length).getD (2 * q + i) 0 = xs.getD (2 * ((q + sh) % P) + i) 0)) ∧ Grow w w' := by
  have h48 := hok.t48
  have h2 := hok.t2
  have HC := Lib.hid (fun o => line_any thr a a2 a3 cap cap2 cap3 cr pins xs (w.alloc o) (ha.alloc o) (ha2.alloc o) hok hcap hcap2 (h.alloc o) hx hr)
  have HX := Lib.hid h
  have HL := Lib.hid hx
  have HP := Lib.hid hP
  have hN := Lib.hid hkn
  clear ha ha2 hok h hr hx hkn hcap hcap2
  have hP24 : P ≤ 24 := by omega
  clear hP
  go_enter Try.func13, Try.ntmps13
  go_wp2_with fail
  refine (HC.out _).mono ?_
  rintro e w1 ⟨⟨v, rfl, ho⟩, hg1⟩
  have S1 := (Blk.new w #[.int .i64 thr, .slice a cr.length cap, .slice a2 pins.length cap2] 32).grow hg1
  have hs0 : w1.cell? ⟨w.heap.size, 0, none⟩ = some (.int .i64 thr) := by rw [S1.cell]; rfl
  have hsl := S1.lt
  have HG1 := Lib.hid (((Below.refl w.heap.size w).alloc (Nat.le_refl _) (Obj.cells #[.int .i64 thr, .slice a cr.length cap, .slice a2 pins.length cap2] 32)).trans (hg1.mono (by simp)))
  obtain ⟨gv, cv, rfl⟩ := own_pos ho (by omega)
  have HO := Lib.hid ho
  clear hg1 S1 HC ho
  go_wp2
  clear hs0 hsl
  go_loopw [32] (fun i wr => ∃ k : Nat, k ≤ P ∧ i = .int .i64 k ∧ Hid (∀ q < k, ∀ i < 2, (lineAt xs cr cr.length).getD (2 * q + i) 0 = xs.getD (2 * ((q + sh) % P) + i) 0) ∧ Hid (Grow w1 wr)) (fun i _ => P - (intOf i).toNat)
  case atStart => exact ⟨0, Nat.zero_le _, rfl, fun _ h => absurd h (Nat.not_lt_zero _), Below.refl _ _⟩
  case round =>
    obtain ⟨k, hk, rfl, hdone, hg⟩ := hrel
    by_cases hlt : k < P
    · obtain ⟨u, hu⟩ : ∃ u, (k + sh) % P = u := ⟨_, rfl⟩
      have huP : u < P := hu ▸ Nat.mod_lt _ (by omega)
      have hc0 : wr.cell? ⟨bk, k * 2, none⟩ = some (.int .i64 k) := by rw [((hN.out.grow HG1.out).grow hg.out).cell, knC_get (by omega)]; simp [knF, hlt]
      have hc1 : wr.cell? ⟨bk, k * 2 + 1, none⟩ = some (.int .i64 u) := by rw [((hN.out.grow HG1.out).grow hg.out).cell, knC_get (by omega)]; simp [knF, hlt, hu, show (k * 2 + 1) / 2 = k by omega]
      have hbk := ((hN.out.grow HG1.out).grow hg.out).lt
      have HU := Lib.hid hu
      clear hu
      go_wp2_with fail
      obtain ⟨gn, hgn⟩ : ∃ gn, gn = wr.heap.size := ⟨_, rfl⟩
      have hgo : Grow w1 (wr.alloc (.cells #[.int .i64 k, .int .i64 u] 69)) := hg.out.alloc hg.out.size _
      have hbo := Blk.new' wr #[.int .i64 k, .int .i64 u] 69 gn hgn
      rw [← hgn]
      obtain ⟨wo, hwo⟩ : ∃ wo, wo = (wr.alloc (.cells #[.int .i64 k, .int .i64 u] 69)) := ⟨_, rfl⟩
      rw [← hwo] at hgo hbo ⊢
      have Ho := Lib.hid hgo
      have Hb := Lib.hid hbo
      clear hgo hbo hwo hg hc0 hc1 hbk hgn
      go_loopw [36] (fun i wi => ∃ j : Nat, j ≤ 2 ∧ i = .int .i64 j ∧ Hid (∀ i < j, (lineAt xs cr cr.length).getD (2 * k + i) 0 = xs.getD (2 * u + i) 0) ∧ Hid (Grow w1 wi) ∧ Hid (Blk wi gn #[.int .i64 k, .int .i64 u] 69)) (fun i _ => 2 - (intOf i).toNat)
      case atStart => exact ⟨0, Nat.zero_le _, rfl, fun _ h => absurd h (Nat.not_lt_zero _), Ho.out, Hb.out⟩
      case round =>
        clear Ho Hb
        obtain ⟨j, hj, rfl, hin, Ho, Hb⟩ := hrel
        by_cases hj2 : j < 2
        · have hb0 : wr.cell? ⟨gn, 0, none⟩ = some (.int .i64 k) := by rw [Hb.out.cell]; rfl
          have hb1 : wr.cell? ⟨gn, 1, none⟩ = some (.int .i64 u) := by rw [Hb.out.cell]; rfl
          have hbl := Hb.out.lt
          have HOw := own_grow HO.out Ho.out
          have hlen : (lineAt xs cr cr.length).length = thr := by rw [lineAt_len, HL.out]
          have hthr := HP.out
          have hb2 : 2 * u + j < thr := by omega
          have hb3 : 2 * k + j < thr := by omega
          obtain ⟨ya, hya⟩ : ∃ ya, (lineAt xs cr cr.length).getD (2 * k + j) 0 = ya := ⟨_, rfl⟩
          have hya' : ((lineAt xs cr cr.length).map (Value.int .i64))[2 * k + j]? = some (.int .i64 ya) := by rw [List.getElem?_map, List.getElem?_eq_getElem (by omega)]; rw [← hya, List.getD_eq_getElem?_getD, List.getElem?_eq_getElem (by omega)]; rfl
          obtain ⟨c0, f0, l0⟩ := own_cell HOw hya'
          obtain ⟨bx, ox, y, hy, hax, hbx, hc⟩ := ((HX.out.grow HG1.out).grow Ho.out).int (i := 2 * u + j) (by rw [HL.out]; omega)
          have hy' : xs.getD (2 * u + j) 0 = y := by rw [List.getD_eq_getElem?_getD, hy]; rfl
          have HYA := Lib.hid hya
          have HYB := Lib.hid hy'
          subst hax
          clear hlen hthr HOw hya hya' hy hy' hdone
          go_wp2_with fail
          go_region
          by_cases hyy : ya = y
          · subst hyy
            have Hin' : Hid (∀ i < j + 1, (lineAt xs cr cr.length).getD (2 * k + i) 0 = xs.getD (2 * u + i) 0) := fun i hi => by
              by_cases hij : i = j
              · subst hij; rw [HYA.out, HYB.out]
              · exact hin.out i (by omega)
            clear hin
            go_wp2
            go_roundw
            case rel => exact ⟨j + 1, by omega, by go_num, Hin', Ho.out.drew, Hb.out.drew⟩
            case measure => simp [intOf]; omega
          · have Hne : Hid (¬ ∀ q < P, ∀ i < 2, (lineAt xs cr cr.length).getD (2 * q + i) 0 = xs.getD (2 * ((q + sh) % P) + i) 0) := fun hall => by
              have := hall k hlt j hj2
              rw [HU.out, HYA.out, HYB.out] at this
              exact hyy this
            go_wp2
            go_ret
            exact ⟨⟨false, rfl, ⟨fun h => (by cases h), fun h => (Hne.out h).elim⟩⟩, HG1.out.trans (Ho.out.drew.mono HG1.out.size)⟩
        · have hj' : j = 2 := by omega
          subst hj'
          have Hdone' : Hid (∀ q < k + 1, ∀ i < 2, (lineAt xs cr cr.length).getD (2 * q + i) 0 = xs.getD (2 * ((q + sh) % P) + i) 0) := fun q hq i hi => by
            by_cases hqk : q = k
            · subst hqk; rw [HU.out]; exact hin.out i hi
            · exact hdone.out q (by omega) i hi
          clear hin hdone
          go_wp2
          go_roundw
          case rel => exact ⟨k + 1, by omega, by go_num, Hdone', Ho.out⟩
          case measure => simp [intOf]; omega
    · have hk' : k = P := by omega
      subst hk'
      go_wp2
      go_ret
      have hd := hdone.out
      exact ⟨⟨true, rfl, ⟨fun _ => hd, fun _ => rfl⟩⟩, HG1.out.trans (hg.out.mono HG1.out.size)⟩
end Go.Proofs.Ytefdncpdlgakpaa
