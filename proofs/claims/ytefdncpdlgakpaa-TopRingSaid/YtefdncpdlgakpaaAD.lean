import Derived.Test.YtefdncpdlgakpaaAC
namespace Go.Proofs.Ytefdncpdlgakpaa
open Go.RowKit

/-! TopRing: the walk, for the sheets of which it speaks. -/
def pinsM (ws : List Wk) : List Q4 := (mkTo id48 ws ws.length).pins
theorem okCl_M {p T : Nat} {ws : List Wk} (hT : T = 2 * p) (hok : okSh p ws) : okCl T (crM ws) (pinsM ws) := by
  have h := okCl_mk hok
  rw [hT, Int.natCast_mul]
  exact h
theorem makeT_any (p T : Nat) (hT : T = 2 * p) (a : Option Addr) (cap : Nat) (ws : List Wk) (w : World) (h : Ar eW w a ws) (hok : okSh p ws) :
    Calls Try.prog 5 #[.agg #[.int .i64 p, .slice a ws.length cap]] w fun e w' =>
      ∃ aC cC aP cP, e = .returned (.tuple #[.agg #[.int .i64 T, .slice aC (crM ws).length cC, .slice aP (pinsM ws).length cP], .int .i64 0]) ∧ Ar eQ w' aC (crM ws) ∧ Ar eQ w' aP (pinsM ws) ∧ (crM ws).length ≤ cC ∧ cC ≤ maxLen ∧ Grow w w' := by
  refine (make_any p a cap ws w h hok).mono ?_
  rintro e w' ⟨aC, cC, aP, cP, rfl, h1, h2, h3, h4, h5, h6, h7⟩
  refine ⟨aC, cC, aP, cP, ?_, h1, h2, h3, h4, h7⟩
  rw [hT, Int.natCast_mul]
  rfl

set_option maxRecDepth 1000000 in
set_option maxHeartbeats 40000000 in
theorem ring_ok (p sh : Nat) (tm : Int) (a ad aq : Option Addr) (cap capd capq : Nat) (ws : List Wk) (dl al : List Int) (w : World) (h : Ar eW w a ws) (hok : okSh p ws) (hsh : sh < p) (h1 : ws.length ≤ 40) (h2 : al.length ≤ 100)
    (hd : Ar (eI .u8) w ad dl) (hd0 : ∀ x ∈ dl, 0 ≤ x ∧ x < 256) (hd1 : dl.length ≤ maxLen) (hq : Ar (eI .u16) w aq al) (hq0 : ∀ x ∈ al, 0 ≤ x ∧ x < 65536) (htm : 0 ≤ tm ∧ tm < 256) :
    Calls Try.prog 3 #[.agg #[.int .i64 p, .slice a ws.length cap], .int .i64 sh, .slice ad dl.length capd, .slice aq al.length capq, .int .u8 tm] w fun e w' => e = .returned (.bool true) ∧ Grow w w' := by
  have hC := fun o => ref04_any p a cap ws (w.alloc o) (h.alloc o) (by omega) (fun x hx => by have := (hok.2.2.2 x hx).2.2.2.1; have e : x.word.size = x.word.data.toList.length := (Array.length_toList (xs := x.word.data)).symm; omega) (by have := hok.2.1; omega)
  have HC := Lib.hid hC
  have h1' : ¬ (40 : Int) < ws.length := by omega
  have h2' : ¬ (100 : Int) < al.length := by omega
  have h3' : ¬ (p : Int) ≤ sh := by omega
  have hp2 := hok.1
  have hp24 := hok.2.1
  obtain ⟨T, hT⟩ : ∃ T, T = 2 * p := ⟨_, rfl⟩
  have hT48 : T ≤ 48 := by omega
  have hT2 : 4 ≤ T := by omega
  have HT := Lib.hid hT
  have HA := Lib.hid h
  have HK := Lib.hid hok
  have HD := Lib.hid hd
  have HD0 := Lib.hid hd0
  have HD1 := Lib.hid hd1
  have HQ := Lib.hid hq
  have HQ0 := Lib.hid hq0
  have HTM := Lib.hid htm
  have H40 := Lib.hid h1
  have H100 := Lib.hid h2
  have HCL := Lib.hid (okCl_M hT hok)
  have G0 : ∀ o, Grow w (w.alloc o) := fun o => (Below.refl _ _).alloc (Nat.le_refl _) o
  have HG0 := Lib.hid G0
  clear hC h hok hd hd0 hd1 hq hq0 htm h1 h2 hT G0
  go_enter Try.func3, Try.ntmps3
  go_wp2_with fail
  refine (HC.out _).mono ?_
  rintro e w1 ⟨⟨m, rfl, hm⟩, hg⟩
  obtain rfl := hm.2 HK.out
  have HG := Lib.hid ((HG0.out _).trans (hg.mono (by simp)))
  have S1 := (Blk.new w #[.int .i64 p, .slice a ws.length cap] 24).grow hg
  have hs0 : w1.cell? ⟨w.heap.size, 0, none⟩ = some (.int .i64 p) := by rw [S1.cell]; rfl
  have hs1 : w1.cell? ⟨w.heap.size, 1, none⟩ = some (.slice a ws.length cap) := by rw [S1.cell]; rfl
  have hsl := S1.lt
  clear hg hm S1 HC HG0
  replace HA := Lib.hid (HA.out.grow HG.out)
  replace HD := Lib.hid (HD.out.grow HG.out)
  replace HQ := Lib.hid (HQ.out.grow HG.out)
  go_wp2_with fail
  refine (makeT_any p T HT.out a cap ws _ HA.out HK.out).mono ?_
  rintro e w2 ⟨aC, cC, aP, cP, rfl, hcr, hpi, hcC, hcM, hg⟩
  replace HG := Lib.hid (HG.out.trans (hg.mono HG.out.size))
  replace HA := Lib.hid (HA.out.grow hg)
  replace HD := Lib.hid (HD.out.grow hg)
  replace HQ := Lib.hid (HQ.out.grow hg)
  replace hs0 := (hg.cell (p := ⟨w.heap.size, 0, none⟩) hsl).trans hs0
  replace hs1 := (hg.cell (p := ⟨w.heap.size, 1, none⟩) hsl).trans hs1
  replace hsl := Nat.lt_of_lt_of_le hsl hg.size
  have HCR := Lib.hid hcr
  have HPI := Lib.hid hpi
  clear hcr hpi hg
  go_wp2_with fail
  have hga : Grow w2 (w2.alloc (.cells #[.int .i64 T, .slice aC (crM ws).length cC, .slice aP (pinsM ws).length cP] 32)) := (Below.refl _ _).alloc (Nat.le_refl _) _
  have hba := Blk.new w2 #[.int .i64 T, .slice aC (crM ws).length cC, .slice aP (pinsM ws).length cP] 32
  obtain ⟨w3, hnew⟩ : ∃ x, w2.alloc (.cells #[.int .i64 T, .slice aC (crM ws).length cC, .slice aP (pinsM ws).length cP] 32) = x := ⟨_, rfl⟩
  rw [hnew] at hga hba ⊢
  replace HG := Lib.hid (HG.out.trans (hga.mono HG.out.size))
  replace HA := Lib.hid (HA.out.grow hga)
  replace HD := Lib.hid (HD.out.grow hga)
  replace HQ := Lib.hid (HQ.out.grow hga)
  replace hs0 := (hga.cell (p := ⟨w.heap.size, 0, none⟩) hsl).trans hs0
  replace hs1 := (hga.cell (p := ⟨w.heap.size, 1, none⟩) hsl).trans hs1
  replace HCR := Lib.hid (HCR.out.grow hga)
  replace HPI := Lib.hid (HPI.out.grow hga)
  replace hsl := Nat.lt_of_lt_of_le hsl hga.size
  obtain ⟨bc, hb⟩ : ∃ x, w2.heap.size = x := ⟨_, rfl⟩
  rw [hb] at hba ⊢
  have hc0 : w3.cell? ⟨bc, 0, none⟩ = some (.int .i64 T) := by rw [hba.cell]; rfl
  have hc1 : w3.cell? ⟨bc, 1, none⟩ = some (.slice aC (crM ws).length cC) := by rw [hba.cell]; rfl
  have hc2 : w3.cell? ⟨bc, 2, none⟩ = some (.slice aP (pinsM ws).length cP) := by rw [hba.cell]; rfl
  have hcl := hba.lt
  clear hga hba hnew hb
  refine (knots_any p sh a cap ws _ HA.out HK.out hsh).mono ?_
  rintro e w4 ⟨⟨bk, n, rfl, hbk⟩, hg⟩
  replace HG := Lib.hid (HG.out.trans (hg.mono HG.out.size))
  replace HA := Lib.hid (HA.out.grow hg)
  replace HD := Lib.hid (HD.out.grow hg)
  replace HQ := Lib.hid (HQ.out.grow hg)
  replace hs0 := (hg.cell (p := ⟨w.heap.size, 0, none⟩) hsl).trans hs0
  replace hs1 := (hg.cell (p := ⟨w.heap.size, 1, none⟩) hsl).trans hs1
  replace HCR := Lib.hid (HCR.out.grow hg)
  replace HPI := Lib.hid (HPI.out.grow hg)
  replace hc0 := (hg.cell (p := ⟨bc, 0, none⟩) hcl).trans hc0
  replace hc1 := (hg.cell (p := ⟨bc, 1, none⟩) hcl).trans hc1
  replace hc2 := (hg.cell (p := ⟨bc, 2, none⟩) hcl).trans hc2
  replace hsl := Nat.lt_of_lt_of_le hsl hg.size
  replace hcl := Nat.lt_of_lt_of_le hcl hg.size
  have HKN := Lib.hid hbk
  clear hbk hg
  go_wp2_with fail
  refine (loops_any p sh a cap ws _ HA.out HK.out hsh).mono ?_
  rintro e w5 ⟨⟨vL, rfl, hL⟩, hg⟩
  obtain ⟨out, hout⟩ : ∃ out, loopsOf p sh ws = out := ⟨_, rfl⟩
  rw [hout] at hL
  have HOUT := Lib.hid hout
  clear hout
  replace HG := Lib.hid (HG.out.trans (hg.mono HG.out.size))
  replace HA := Lib.hid (HA.out.grow hg)
  replace HD := Lib.hid (HD.out.grow hg)
  replace HQ := Lib.hid (HQ.out.grow hg)
  replace hs0 := (hg.cell (p := ⟨w.heap.size, 0, none⟩) hsl).trans hs0
  replace hs1 := (hg.cell (p := ⟨w.heap.size, 1, none⟩) hsl).trans hs1
  replace HCR := Lib.hid (HCR.out.grow hg)
  replace HPI := Lib.hid (HPI.out.grow hg)
  replace hc0 := (hg.cell (p := ⟨bc, 0, none⟩) hcl).trans hc0
  replace hc1 := (hg.cell (p := ⟨bc, 1, none⟩) hcl).trans hc1
  replace hc2 := (hg.cell (p := ⟨bc, 2, none⟩) hcl).trans hc2
  replace HKN := Lib.hid (HKN.out.grow hg)
  replace hsl := Nat.lt_of_lt_of_le hsl hg.size
  replace hcl := Nat.lt_of_lt_of_le hcl hg.size
  obtain ⟨aL, cL, hvL⟩ : ∃ aL cL, vL = .slice aL out.length cL := by
    obtain ⟨vs, hr, _⟩ := hL
    obtain ⟨a, c, e, _⟩ := own_arr hr
    exact ⟨a, c, e⟩
  subst hvL
  have HLL := Lib.hid hL
  clear hL hg
  go_wp2_with fail
  refine (shuffled_any p a aq cap capq ws al _ HA.out HK.out HQ.out H100.out HQ0.out).mono ?_
  rintro e w6 ⟨⟨vS, ws', rfl, hS, hokS, heS, hlS⟩, hg⟩
  replace HG := Lib.hid (HG.out.trans (hg.mono HG.out.size))
  replace HA := Lib.hid (HA.out.grow hg)
  replace HD := Lib.hid (HD.out.grow hg)
  replace HQ := Lib.hid (HQ.out.grow hg)
  replace hs0 := (hg.cell (p := ⟨w.heap.size, 0, none⟩) hsl).trans hs0
  replace hs1 := (hg.cell (p := ⟨w.heap.size, 1, none⟩) hsl).trans hs1
  replace HCR := Lib.hid (HCR.out.grow hg)
  replace HPI := Lib.hid (HPI.out.grow hg)
  replace hc0 := (hg.cell (p := ⟨bc, 0, none⟩) hcl).trans hc0
  replace hc1 := (hg.cell (p := ⟨bc, 1, none⟩) hcl).trans hc1
  replace hc2 := (hg.cell (p := ⟨bc, 2, none⟩) hcl).trans hc2
  replace HKN := Lib.hid (HKN.out.grow hg)
  replace HLL := Lib.hid (HLL.out.grow hg)
  replace hsl := Nat.lt_of_lt_of_le hsl hg.size
  replace hcl := Nat.lt_of_lt_of_le hcl hg.size
  obtain ⟨aS, cS, rfl, _, _, _⟩ := own_arr hS
  have hAS : Ar eW w6 aS ws' := (own_ar hS).1
  have HAS := Lib.hid hAS
  have HKS := Lib.hid hokS
  have HES := Lib.hid heS
  have HLS := Lib.hid hlS
  clear hg hS hAS hokS heS hlS
  go_wp2_with fail
  have hcS := loops_any p sh aS cS ws' _ HAS.out HKS.out hsh
  rw [HLS.out] at hcS
  refine hcS.mono ?_
  clear hcS
  rintro e w7 ⟨⟨vM, rfl, hM⟩, hg⟩
  rw [loopsOf_endL HES.out, HOUT.out] at hM
  replace HG := Lib.hid (HG.out.trans (hg.mono HG.out.size))
  replace HA := Lib.hid (HA.out.grow hg)
  replace HD := Lib.hid (HD.out.grow hg)
  replace HQ := Lib.hid (HQ.out.grow hg)
  replace hs0 := (hg.cell (p := ⟨w.heap.size, 0, none⟩) hsl).trans hs0
  replace hs1 := (hg.cell (p := ⟨w.heap.size, 1, none⟩) hsl).trans hs1
  replace HCR := Lib.hid (HCR.out.grow hg)
  replace HPI := Lib.hid (HPI.out.grow hg)
  replace hc0 := (hg.cell (p := ⟨bc, 0, none⟩) hcl).trans hc0
  replace hc1 := (hg.cell (p := ⟨bc, 1, none⟩) hcl).trans hc1
  replace hc2 := (hg.cell (p := ⟨bc, 2, none⟩) hcl).trans hc2
  replace HKN := Lib.hid (HKN.out.grow hg)
  replace HLL := Lib.hid (HLL.out.grow hg)
  replace hsl := Nat.lt_of_lt_of_le hsl hg.size
  replace hcl := Nat.lt_of_lt_of_le hcl hg.size
  have HMM := Lib.hid hM
  clear hM hg HAS HKS HES HLS
  go_wp2_with fail
  have HLO := Lib.hid (HOUT.out ▸ loopsOf_res HK.out hsh)
  have hln : out.length ≤ T := by
    rw [HT.out, ← HOUT.out]
    exact loopsTo_out _ _
  have HLn := Lib.hid hln
  clear hln
  refine (equalFunc_any _ _ _ _ _ _ HLL.out HMM.out (by have := HLn.out; omega) (fun l hl => by have := HLO.out.nodup l hl; omega)).mono ?_
  rintro e w8 ⟨rfl, hg⟩
  replace HG := Lib.hid (HG.out.trans (hg.mono HG.out.size))
  replace HA := Lib.hid (HA.out.grow hg)
  replace HD := Lib.hid (HD.out.grow hg)
  replace HQ := Lib.hid (HQ.out.grow hg)
  replace hs0 := (hg.cell (p := ⟨w.heap.size, 0, none⟩) hsl).trans hs0
  replace hs1 := (hg.cell (p := ⟨w.heap.size, 1, none⟩) hsl).trans hs1
  replace HCR := Lib.hid (HCR.out.grow hg)
  replace HPI := Lib.hid (HPI.out.grow hg)
  replace hc0 := (hg.cell (p := ⟨bc, 0, none⟩) hcl).trans hc0
  replace hc1 := (hg.cell (p := ⟨bc, 1, none⟩) hcl).trans hc1
  replace hc2 := (hg.cell (p := ⟨bc, 2, none⟩) hcl).trans hc2
  replace HKN := Lib.hid (HKN.out.grow hg)
  replace HLL := Lib.hid (HLL.out.grow hg)
  replace HMM := Lib.hid (HMM.out.grow hg)
  replace hsl := Nat.lt_of_lt_of_le hsl hg.size
  replace hcl := Nat.lt_of_lt_of_le hcl hg.size
  clear HMM hg
  go_wp2_with fail
  refine (dyes_any ad capd dl T _ HD.out HD0.out hT48 HD1.out).mono ?_
  rintro e w9 ⟨⟨vR, rfl, hR⟩, hg⟩
  obtain ⟨gR, cR, rfl⟩ := own_pos hR (by omega)
  obtain ⟨raw, hraw⟩ : ∃ raw, dyesOf dl T = raw := ⟨_, rfl⟩
  have hrl : raw.length = T := by rw [← hraw]; simp [dyesOf]
  have hrr : ∀ x ∈ raw, 0 ≤ x ∧ x < 16 := by
    intro x hx
    rw [← hraw] at hx
    obtain ⟨k, _, rfl⟩ := List.mem_map.1 hx
    unfold dyeAt
    omega
  rw [hraw] at hR
  replace HG := Lib.hid (HG.out.trans (hg.mono HG.out.size))
  replace HA := Lib.hid (HA.out.grow hg)
  replace HD := Lib.hid (HD.out.grow hg)
  replace HQ := Lib.hid (HQ.out.grow hg)
  replace hs0 := (hg.cell (p := ⟨w.heap.size, 0, none⟩) hsl).trans hs0
  replace hs1 := (hg.cell (p := ⟨w.heap.size, 1, none⟩) hsl).trans hs1
  replace HCR := Lib.hid (HCR.out.grow hg)
  replace HPI := Lib.hid (HPI.out.grow hg)
  replace hc0 := (hg.cell (p := ⟨bc, 0, none⟩) hcl).trans hc0
  replace hc1 := (hg.cell (p := ⟨bc, 1, none⟩) hcl).trans hc1
  replace hc2 := (hg.cell (p := ⟨bc, 2, none⟩) hcl).trans hc2
  replace HKN := Lib.hid (HKN.out.grow hg)
  replace HLL := Lib.hid (HLL.out.grow hg)
  replace hsl := Nat.lt_of_lt_of_le hsl hg.size
  replace hcl := Nat.lt_of_lt_of_le hcl hg.size
  have HRA := Lib.hid hR
  have HRL := Lib.hid hrl
  have HRR := Lib.hid hrr
  have HRAr := Lib.hid (Ar.of_ints (own_ar hR).1)
  clear hR hraw hrl hrr hg
  go_wp2_with fail
  have hcl2 := clone_any (some ⟨gR, 0, none⟩) cR raw _ HRAr.out (by rw [HRL.out]; omega)
  rw [HRL.out] at hcl2
  refine hcl2.mono ?_
  rintro e w10 ⟨⟨vO, rfl, hO⟩, hg⟩
  obtain ⟨go, co, rfl⟩ := own_pos hO (by omega)
  have HO := Lib.hid hO
  have HGO := Lib.hid hg
  clear hcl2 hO hg HRAr
  have hLN := HLn.out
  have hTi : (T : Int) ≤ 48 := by omega
  have HTi : Hid ((T : Int) = ((2 * p : Nat) : Int)) := by show _ = _; rw [HT.out]
  go_wp2_with fail
  go_loopw [121, 22] (fun i b wr => ∃ k : Nat, k ≤ out.length ∧ i = .int .i64 k ∧ b = .bool (plO raw out k) ∧ Hid (wr.ownsRow w9.heap.size 3 1 (.slice (some ⟨go, 0, none⟩) T co) T ((onO raw out k).map (Value.int .i64))) ∧ Hid (Grow w9 wr)) (fun i _ _ => out.length - (intOf i).toNat)
  case atStart => exact ⟨0, Nat.zero_le _, rfl, rfl, HO.out, HGO.out⟩
  case round =>
    clear HO HGO
    obtain ⟨k, hk, rfl, rfl, ho, hg⟩ := hrel
    by_cases hlt : k < out.length
    · obtain ⟨vs, hvs, hel⟩ := HLL.out
      have hvl : vs.length = out.length := by have := hvs.1; omega
      obtain ⟨l, hl⟩ : ∃ l, out[k]? = some l := ⟨_, List.getElem?_eq_getElem hlt⟩
      obtain ⟨u, hu⟩ : ∃ u, vs[k]? = some u := ⟨_, List.getElem?_eq_getElem (by omega)⟩
      have hlm := List.mem_of_getElem? hl
      obtain ⟨hlne, hlr⟩ := HLO.out.rng l hlm
      have hl0 := List.length_pos_iff.2 hlne
      have hlT := HLO.out.nodup l hlm
      rw [← HT.out] at hlT
      have hou9 := hel k u l hu hl
      have hou := own_grow hou9 hg.out
      obtain ⟨gL, cL', hv⟩ := own_pos hvs (by omega)
      cases hv
      obtain ⟨gu, cu, rfl⟩ := own_pos hou hl0
      obtain ⟨hcu, _, hgl⟩ := own_cell (own_grow hvs hg.out) hu
      have hg' := hg.out
      have HL := Lib.hid hl
      have HLR := Lib.hid hlr
      have HU := Lib.hid hou9
      clear hou9 hvs hel hvl hl hlm hlne hou hlr hu
      go_wp2_with fail
      obtain ⟨wo, hwo⟩ : ∃ wo, wr = wo := ⟨_, rfl⟩
      have hl0i : (0 : Int) < l.length := by omega
      clear hcu hgl
      go_loopw [127, 22] (fun i b wi => ∃ j : Nat, j ≤ l.length ∧ i = .int .i64 j ∧ b = .bool (plI raw l (plO raw out k) j) ∧ Hid (wi.ownsRow w9.heap.size 3 1 (.slice (some ⟨go, 0, none⟩) T co) T ((onI raw l (onO raw out k) j).map (Value.int .i64))) ∧ Hid (Grow w9 wi)) (fun i _ _ => l.length - (intOf i).toNat)
      case atStart => exact ⟨0, Nat.zero_le _, rfl, rfl, ho.out, hg.out⟩
      case round =>
        clear ho hg hg' hwo
        obtain ⟨j, hj, rfl, rfl, ho, hg⟩ := hrel
        by_cases hlj : j < l.length
        · obtain ⟨t, ht⟩ : ∃ t, l[j]? = some t := ⟨_, List.getElem?_eq_getElem hlj⟩
          obtain ⟨z, hz⟩ : ∃ z, l[0]? = some z := ⟨_, List.getElem?_eq_getElem hl0⟩
          obtain ⟨ht0, ht1⟩ := HLR.out t (List.mem_of_getElem? ht)
          obtain ⟨hz0, hz1⟩ := HLR.out z (List.mem_of_getElem? hz)
          rw [← HTi.out] at ht1 hz1
          obtain ⟨tn, rfl⟩ : ∃ tn : Nat, t = tn := ⟨t.toNat, by omega⟩
          obtain ⟨zn, rfl⟩ : ∃ zn : Nat, z = zn := ⟨z.toNat, by omega⟩
          have htT : tn < T := by omega
          have hzT : zn < T := by omega
          obtain ⟨x, hx⟩ : ∃ x, raw[tn]? = some x := ⟨_, List.getElem?_eq_getElem (by rw [HRL.out]; exact htT)⟩
          obtain ⟨y, hy⟩ : ∃ y, raw[zn]? = some y := ⟨_, List.getElem?_eq_getElem (by rw [HRL.out]; exact hzT)⟩
          have hhd : hd raw l = y := by
            unfold hd
            rw [List.getD_eq_getElem?_getD, List.getD_eq_getElem?_getD, hz]
            simp only [Option.getD_some, Int.toNat_natCast]
            rw [hy]
            rfl
          have hgx : raw.getD tn 0 = x := by rw [List.getD_eq_getElem?_getD, hx]; rfl
          have hpl := plI_succ (raw := raw) (b := plO raw out k) ht
          have hon := onI_succ (raw := raw) (o := onO raw out k) ht
          rw [Int.toNat_natCast, hhd] at hpl hon
          rw [hgx] at hpl
          obtain ⟨ct, _, gtl⟩ := own_cell (own_grow HU.out hg.out) (show (l.map (Value.int .i64))[j]? = some (.int .i64 tn) by rw [List.getElem?_map, ht]; rfl)
          obtain ⟨cz, _, _⟩ := own_cell (own_grow HU.out hg.out) (show (l.map (Value.int .i64))[0]? = some (.int .i64 zn) by rw [List.getElem?_map, hz]; rfl)
          obtain ⟨cx, _, gxl⟩ := own_cell (own_grow HRA.out hg.out) (show (raw.map (Value.int .i64))[tn]? = some (.int .i64 x) by rw [List.getElem?_map, hx]; rfl)
          obtain ⟨cy, _, _⟩ := own_cell (own_grow HRA.out hg.out) (show (raw.map (Value.int .i64))[zn]? = some (.int .i64 y) by rw [List.getElem?_map, hy]; rfl)
          have holen : (onI raw l (onO raw out k) j).length = T := by rw [onI_len, onO_len, HRL.out]
          obtain ⟨q, hq⟩ : ∃ q, (onI raw l (onO raw out k) j)[tn]? = some q := ⟨_, List.getElem?_eq_getElem (by rw [holen]; exact htT)⟩
          obtain ⟨co', fo', gol⟩ := own_cell ho.out (show ((onI raw l (onO raw out k) j).map (Value.int .i64))[tn]? = some (.int .i64 q) by rw [List.getElem?_map, hq]; rfl)
          have HPL := Lib.hid hpl
          have HON := Lib.hid hon
          clear ht hz ht0 ht1 hz0 hz1 hx hy hhd hgx hpl hon holen hq
          obtain ⟨bb, hbb⟩ : ∃ bb, plI raw l (plO raw out k) j = bb := ⟨_, rfl⟩
          rw [hbb]
          have HBB := Lib.hid hbb
          clear hbb
          have hgo := (ho.out.lt go rfl).1
          have ho2 := (own_set ho.out tn (.int .i64 y) htT).drew
          have hg2 := (hg.out.setCell (p := ⟨go, tn, none⟩) hgo (.int .i64 y)).drew
          rw [show ((onI raw l (onO raw out k) j).map (Value.int .i64)).set tn (.int .i64 y) = (onI raw l (onO raw out k) (j + 1)).map (Value.int .i64) by rw [HON.out, List.map_set]] at ho2
          have HO2 := Lib.hid ho2
          have HG2 := Lib.hid hg2
          clear ho2 hg2 hgo ho hg
          cases bb with
          | false =>
            go_wp2_with fail
            go_region
            go_wp2
            go_roundw
            case rel => exact ⟨j + 1, by omega, by go_num, by rw [HPL.out, HBB.out]; rfl, HO2.out, HG2.out⟩
            case measure => simp [intOf]; omega
          | true =>
            go_wp2_with fail
            go_region
            go_wp2
            go_roundw
            case rel => exact ⟨j + 1, by omega, by go_num, by rw [HPL.out, HBB.out]; rfl, HO2.out, HG2.out⟩
            case measure => simp [intOf]; omega
        · have hj' : j = l.length := by omega
          subst hj'
          go_wp2
          refine ⟨⟨k + 1, by omega, by go_num, by rw [plO_succ HL.out], ?_, hg.out⟩, ?_⟩
          · show World.ownsRow _ _ _ _ _ _ _
            rw [onO_succ HL.out]
            exact ho.out
          · simp [intOf]; omega
    · have hk' : k = out.length := by omega
      subst hk'
      obtain ⟨pl, hpl⟩ : ∃ b, plO raw out out.length = b := ⟨_, rfl⟩
      obtain ⟨one, hone⟩ : ∃ x, onO raw out out.length = x := ⟨_, rfl⟩
      have HPS : Hid (pl = true ↔ Sewn (nextOf p sh ws) raw T) := by
        show _ ↔ _
        rw [← hpl, HT.out]
        exact plO_sewn HLO.out (by have := HT.out; omega) raw
      have HOS : Hid (Sewn (nextOf p sh ws) one T) := by
        show Sewn _ _ _
        rw [← hone, HT.out]
        exact one_sewn HLO.out (by have := HT.out; omega) (HRL.out.trans HT.out) (fun t ht => nextOf_rng HK.out t ht)
      have HOL : Hid (one.length = T) := by
        show _ = _
        rw [← hone, onO_len, HRL.out]
      have HOR : Hid (∀ x ∈ one, 0 ≤ x ∧ x < 16) := by
        show ∀ x ∈ one, 0 ≤ x ∧ x < 16
        rw [← hone]
        exact one_rng out HRR.out _
      rw [hpl]
      have ho' := ho.out
      rw [hone] at ho'
      have hgx := hg.out
      replace HG := Lib.hid (HG.out.trans (hgx.mono HG.out.size))
      replace HA := Lib.hid (HA.out.grow hgx)
      replace HD := Lib.hid (HD.out.grow hgx)
      replace HQ := Lib.hid (HQ.out.grow hgx)
      replace hs0 := (hgx.cell (p := ⟨w.heap.size, 0, none⟩) hsl).trans hs0
      replace hs1 := (hgx.cell (p := ⟨w.heap.size, 1, none⟩) hsl).trans hs1
      replace HCR := Lib.hid (HCR.out.grow hgx)
      replace HPI := Lib.hid (HPI.out.grow hgx)
      replace hc0 := (hgx.cell (p := ⟨bc, 0, none⟩) hcl).trans hc0
      replace hc1 := (hgx.cell (p := ⟨bc, 1, none⟩) hcl).trans hc1
      replace hc2 := (hgx.cell (p := ⟨bc, 2, none⟩) hcl).trans hc2
      replace HKN := Lib.hid (HKN.out.grow hgx)
      replace HLL := Lib.hid (HLL.out.grow hgx)
      replace HRA := Lib.hid (own_grow HRA.out hgx)
      replace hsl := Nat.lt_of_lt_of_le hsl hgx.size
      replace hcl := Nat.lt_of_lt_of_le hcl hgx.size
      have HO := Lib.hid ho'
      clear ho ho' hg hgx hpl hone hlt hLN hTi HTi
      go_wp2_with fail
      refine (sewnE_any p sh T HT.out hsh aC aP (some ⟨gR, 0, none⟩) cC cP cR (crM ws) (pinsM ws) raw bk _ HCR.out HPI.out HCL.out hcC hcM (Ar.of_ints (own_ar HRA.out).1) HRL.out HRR.out HKN.out).mono ?_
      rintro e w12 ⟨⟨r, rfl, hr⟩, hg⟩
      rw [sewn_iff HK.out (HRL.out.trans HT.out), ← HT.out, ← HPS.out] at hr
      obtain rfl : r = pl := by cases r <;> cases pl <;> simp_all
      replace HG := Lib.hid (HG.out.trans (hg.mono HG.out.size))
      replace HA := Lib.hid (HA.out.grow hg)
      replace HD := Lib.hid (HD.out.grow hg)
      replace HQ := Lib.hid (HQ.out.grow hg)
      replace hs0 := (hg.cell (p := ⟨w.heap.size, 0, none⟩) hsl).trans hs0
      replace hs1 := (hg.cell (p := ⟨w.heap.size, 1, none⟩) hsl).trans hs1
      replace HCR := Lib.hid (HCR.out.grow hg)
      replace HPI := Lib.hid (HPI.out.grow hg)
      replace hc0 := (hg.cell (p := ⟨bc, 0, none⟩) hcl).trans hc0
      replace hc1 := (hg.cell (p := ⟨bc, 1, none⟩) hcl).trans hc1
      replace hc2 := (hg.cell (p := ⟨bc, 2, none⟩) hcl).trans hc2
      replace HKN := Lib.hid (HKN.out.grow hg)
      replace HLL := Lib.hid (HLL.out.grow hg)
      replace HRA := Lib.hid (own_grow HRA.out hg)
      replace HO := Lib.hid (own_grow HO.out hg)
      replace hsl := Nat.lt_of_lt_of_le hsl hg.size
      replace hcl := Nat.lt_of_lt_of_le hcl hg.size
      clear hg hr
      go_wp2_with fail
      refine (sewnE_any p sh T HT.out hsh aC aP (some ⟨go, 0, none⟩) cC cP co (crM ws) (pinsM ws) one bk _ HCR.out HPI.out HCL.out hcC hcM (Ar.of_ints (own_ar HO.out).1) HOL.out HOR.out HKN.out).mono ?_
      rintro e w13 ⟨⟨r2, rfl, hr⟩, hg⟩
      rw [sewn_iff HK.out (HOL.out.trans HT.out), ← HT.out] at hr
      obtain rfl : r2 = true := hr.2 HOS.out
      replace HG := Lib.hid (HG.out.trans (hg.mono HG.out.size))
      replace HA := Lib.hid (HA.out.grow hg)
      replace HD := Lib.hid (HD.out.grow hg)
      replace HQ := Lib.hid (HQ.out.grow hg)
      replace hs0 := (hg.cell (p := ⟨w.heap.size, 0, none⟩) hsl).trans hs0
      replace hs1 := (hg.cell (p := ⟨w.heap.size, 1, none⟩) hsl).trans hs1
      replace HCR := Lib.hid (HCR.out.grow hg)
      replace HPI := Lib.hid (HPI.out.grow hg)
      replace hc0 := (hg.cell (p := ⟨bc, 0, none⟩) hcl).trans hc0
      replace hc1 := (hg.cell (p := ⟨bc, 1, none⟩) hcl).trans hc1
      replace hc2 := (hg.cell (p := ⟨bc, 2, none⟩) hcl).trans hc2
      replace HKN := Lib.hid (HKN.out.grow hg)
      replace HLL := Lib.hid (HLL.out.grow hg)
      replace HRA := Lib.hid (own_grow HRA.out hg)
      replace HO := Lib.hid (own_grow HO.out hg)
      replace hsl := Nat.lt_of_lt_of_le hsl hg.size
      replace hcl := Nat.lt_of_lt_of_le hcl hg.size
      clear hg hr
      by_cases hs0' : 0 < sh
      · have hs0i : (0 : Int) < sh := by omega
        go_wp2
        go_ret
        exact ⟨rfl, HG.out⟩
      obtain rfl : sh = 0 := by omega
      go_wp2_with fail
      obtain ⟨n, hn, hn1, hn4⟩ : ∃ n : Nat, wrap64 (1 + (wrap64 tm).tmod 4) = n ∧ 1 ≤ n ∧ n ≤ 4 := by
        obtain ⟨t0, t1⟩ := HTM.out
        refine ⟨(1 + tm % 4).toNat, ?_, by omega, by omega⟩
        rw [show wrap64 tm = tm by unfold wrap64; omega, Int.tmod_eq_emod_of_nonneg t0]
        unfold wrap64
        omega
      rw [hn]
      have hmn : ws.length * n ≤ 400 := Nat.le_trans (Nat.mul_le_mul H40.out hn4) (by omega)
      refine (seRepeat_any p n a cap ws _ HA.out HK.out hn1 (by omega) hmn).mono ?_
      rintro e w14 ⟨⟨vW, rfl, hW⟩, hg⟩
      obtain ⟨aW, cW, rfl, _, _, _⟩ := own_arr hW
      obtain ⟨wn, hwn⟩ : ∃ x, repC n ws = x := ⟨_, rfl⟩
      have hAW : Ar eW w14 aW (repC n ws) := (own_ar hW).1
      have HWN := Lib.hid hwn
      have HML : Hid (wn.length = ws.length * n) := by
        show _ = _
        rw [← hwn, repC_len, Nat.mul_comm]
      have HKn : Hid (okSh p wn) := hwn ▸ okSh_rep HK.out n hmn
      have HMN := Lib.hid hmn
      have HCLn := Lib.hid (okCl_M HT.out HKn.out)
      rw [hwn] at hAW
      have HAW := Lib.hid hAW
      obtain ⟨m, hm⟩ : ∃ m, ws.length * n = m := ⟨_, rfl⟩
      rw [hm] at HML ⊢
      replace HG := Lib.hid (HG.out.trans (hg.mono HG.out.size))
      replace HA := Lib.hid (HA.out.grow hg)
      replace HD := Lib.hid (HD.out.grow hg)
      replace HQ := Lib.hid (HQ.out.grow hg)
      replace hs0 := (hg.cell (p := ⟨w.heap.size, 0, none⟩) hsl).trans hs0
      replace hs1 := (hg.cell (p := ⟨w.heap.size, 1, none⟩) hsl).trans hs1
      replace HCR := Lib.hid (HCR.out.grow hg)
      replace HPI := Lib.hid (HPI.out.grow hg)
      replace hc0 := (hg.cell (p := ⟨bc, 0, none⟩) hcl).trans hc0
      replace hc1 := (hg.cell (p := ⟨bc, 1, none⟩) hcl).trans hc1
      replace hc2 := (hg.cell (p := ⟨bc, 2, none⟩) hcl).trans hc2
      replace HKN := Lib.hid (HKN.out.grow hg)
      replace HLL := Lib.hid (HLL.out.grow hg)
      replace HRA := Lib.hid (own_grow HRA.out hg)
      replace HO := Lib.hid (own_grow HO.out hg)
      replace hsl := Nat.lt_of_lt_of_le hsl hg.size
      replace hcl := Nat.lt_of_lt_of_le hcl hg.size
      clear hg hW hAW hn hwn hmn hm
      go_wp2_with fail
      have hga : Grow w14 (w14.alloc (.cells #[.int .i64 p, .slice aW m cW] 24)) := (Below.refl _ _).alloc (Nat.le_refl _) _
      have hba := Blk.new w14 #[.int .i64 p, .slice aW m cW] 24
      obtain ⟨w15, hnew⟩ : ∃ x, w14.alloc (.cells #[.int .i64 p, .slice aW m cW] 24) = x := ⟨_, rfl⟩
      rw [hnew] at hga hba ⊢
      replace HG := Lib.hid (HG.out.trans (hga.mono HG.out.size))
      replace HA := Lib.hid (HA.out.grow hga)
      replace HD := Lib.hid (HD.out.grow hga)
      replace HQ := Lib.hid (HQ.out.grow hga)
      replace hs0 := (hga.cell (p := ⟨w.heap.size, 0, none⟩) hsl).trans hs0
      replace hs1 := (hga.cell (p := ⟨w.heap.size, 1, none⟩) hsl).trans hs1
      replace HCR := Lib.hid (HCR.out.grow hga)
      replace HPI := Lib.hid (HPI.out.grow hga)
      replace hc0 := (hga.cell (p := ⟨bc, 0, none⟩) hcl).trans hc0
      replace hc1 := (hga.cell (p := ⟨bc, 1, none⟩) hcl).trans hc1
      replace hc2 := (hga.cell (p := ⟨bc, 2, none⟩) hcl).trans hc2
      replace HKN := Lib.hid (HKN.out.grow hga)
      replace HLL := Lib.hid (HLL.out.grow hga)
      replace HRA := Lib.hid (own_grow HRA.out hga)
      replace HO := Lib.hid (own_grow HO.out hga)
      replace HAW := Lib.hid (HAW.out.grow hga)
      replace hsl := Nat.lt_of_lt_of_le hsl hga.size
      replace hcl := Nat.lt_of_lt_of_le hcl hga.size
      obtain ⟨be, hb⟩ : ∃ x, w14.heap.size = x := ⟨_, rfl⟩
      rw [hb] at hba ⊢
      have he0 : w15.cell? ⟨be, 0, none⟩ = some (.int .i64 p) := by rw [hba.cell]; rfl
      have he1 : w15.cell? ⟨be, 1, none⟩ = some (.slice aW m cW) := by rw [hba.cell]; rfl
      have hel := hba.lt
      clear hga hba hnew hb
      have hcM := makeT_any p T HT.out aW cW wn _ HAW.out HKn.out
      rw [HML.out] at hcM
      refine hcM.mono ?_
      clear hcM
      rintro e w16 ⟨aD, cD, aE, cE, rfl, hcr, hpi, hdC, hdM, hg⟩
      replace HG := Lib.hid (HG.out.trans (hg.mono HG.out.size))
      replace HA := Lib.hid (HA.out.grow hg)
      replace HD := Lib.hid (HD.out.grow hg)
      replace HQ := Lib.hid (HQ.out.grow hg)
      replace hs0 := (hg.cell (p := ⟨w.heap.size, 0, none⟩) hsl).trans hs0
      replace hs1 := (hg.cell (p := ⟨w.heap.size, 1, none⟩) hsl).trans hs1
      replace HCR := Lib.hid (HCR.out.grow hg)
      replace HPI := Lib.hid (HPI.out.grow hg)
      replace hc0 := (hg.cell (p := ⟨bc, 0, none⟩) hcl).trans hc0
      replace hc1 := (hg.cell (p := ⟨bc, 1, none⟩) hcl).trans hc1
      replace hc2 := (hg.cell (p := ⟨bc, 2, none⟩) hcl).trans hc2
      replace HKN := Lib.hid (HKN.out.grow hg)
      replace HLL := Lib.hid (HLL.out.grow hg)
      replace HRA := Lib.hid (own_grow HRA.out hg)
      replace HO := Lib.hid (own_grow HO.out hg)
      replace HAW := Lib.hid (HAW.out.grow hg)
      replace he0 := (hg.cell (p := ⟨be, 0, none⟩) hel).trans he0
      replace he1 := (hg.cell (p := ⟨be, 1, none⟩) hel).trans he1
      replace hsl := Nat.lt_of_lt_of_le hsl hg.size
      replace hcl := Nat.lt_of_lt_of_le hcl hg.size
      replace hel := Nat.lt_of_lt_of_le hel hg.size
      have HDR := Lib.hid hcr
      have HDI := Lib.hid hpi
      have HCN : Hid ((crM wn).length = n * (crM ws).length) := by
        show _ = _
        rw [← HWN.out]
        exact crM_rep HK.out n HMN.out
      have hprod : (n : Int) * ((crM ws).length : Int) = ((crM wn).length : Int) := by rw [HCN.out, Int.natCast_mul]
      have hq20 : (crM wn).length ≤ 20000 := HCLn.out.nc
      have hc20 : (crM ws).length ≤ 20000 := HCL.out.nc
      clear hcr hpi hg
      go_wp2_with fail
      have hga : Grow w16 (w16.alloc (.cells #[.int .i64 T, .slice aD (crM wn).length cD, .slice aE (pinsM wn).length cE] 32)) := (Below.refl _ _).alloc (Nat.le_refl _) _
      have hba := Blk.new w16 #[.int .i64 T, .slice aD (crM wn).length cD, .slice aE (pinsM wn).length cE] 32
      obtain ⟨w17, hnew⟩ : ∃ x, w16.alloc (.cells #[.int .i64 T, .slice aD (crM wn).length cD, .slice aE (pinsM wn).length cE] 32) = x := ⟨_, rfl⟩
      rw [hnew] at hga hba ⊢
      replace HG := Lib.hid (HG.out.trans (hga.mono HG.out.size))
      replace HA := Lib.hid (HA.out.grow hga)
      replace HD := Lib.hid (HD.out.grow hga)
      replace HQ := Lib.hid (HQ.out.grow hga)
      replace hs0 := (hga.cell (p := ⟨w.heap.size, 0, none⟩) hsl).trans hs0
      replace hs1 := (hga.cell (p := ⟨w.heap.size, 1, none⟩) hsl).trans hs1
      replace HCR := Lib.hid (HCR.out.grow hga)
      replace HPI := Lib.hid (HPI.out.grow hga)
      replace hc0 := (hga.cell (p := ⟨bc, 0, none⟩) hcl).trans hc0
      replace hc1 := (hga.cell (p := ⟨bc, 1, none⟩) hcl).trans hc1
      replace hc2 := (hga.cell (p := ⟨bc, 2, none⟩) hcl).trans hc2
      replace HKN := Lib.hid (HKN.out.grow hga)
      replace HLL := Lib.hid (HLL.out.grow hga)
      replace HRA := Lib.hid (own_grow HRA.out hga)
      replace HO := Lib.hid (own_grow HO.out hga)
      replace HAW := Lib.hid (HAW.out.grow hga)
      replace he0 := (hga.cell (p := ⟨be, 0, none⟩) hel).trans he0
      replace he1 := (hga.cell (p := ⟨be, 1, none⟩) hel).trans he1
      replace HDR := Lib.hid (HDR.out.grow hga)
      replace HDI := Lib.hid (HDI.out.grow hga)
      replace hsl := Nat.lt_of_lt_of_le hsl hga.size
      replace hcl := Nat.lt_of_lt_of_le hcl hga.size
      replace hel := Nat.lt_of_lt_of_le hel hga.size
      obtain ⟨bd, hb⟩ : ∃ x, w16.heap.size = x := ⟨_, rfl⟩
      rw [hb] at hba ⊢
      have hd0 : w17.cell? ⟨bd, 0, none⟩ = some (.int .i64 T) := by rw [hba.cell]; rfl
      have hd1 : w17.cell? ⟨bd, 1, none⟩ = some (.slice aD (crM wn).length cD) := by rw [hba.cell]; rfl
      have hd2 : w17.cell? ⟨bd, 2, none⟩ = some (.slice aE (pinsM wn).length cE) := by rw [hba.cell]; rfl
      have hdl := hba.lt
      clear hga hba hnew hb
      clear hprod
      have hcall := Seen_any T aC aP (some ⟨go, 0, none⟩) cC cP co (crM ws) (pinsM ws) one _ HCR.out HPI.out HCL.out (Ar.of_ints (own_ar HO.out).1) HOL.out HOR.out
      rw [seenL_len] at hcall
      refine hcall.mono ?_
      clear hcall
      rintro e w18 ⟨⟨vA, rfl, hV⟩, hg⟩
      obtain ⟨aAx, cAx, rfl, _, _, _⟩ := own_arr hV
      have hAV := Ar.of_ints (own_ar hV).1
      replace HG := Lib.hid (HG.out.trans (hg.mono HG.out.size))
      replace HA := Lib.hid (HA.out.grow hg)
      replace HD := Lib.hid (HD.out.grow hg)
      replace HQ := Lib.hid (HQ.out.grow hg)
      replace hs0 := (hg.cell (p := ⟨w.heap.size, 0, none⟩) hsl).trans hs0
      replace hs1 := (hg.cell (p := ⟨w.heap.size, 1, none⟩) hsl).trans hs1
      replace HCR := Lib.hid (HCR.out.grow hg)
      replace HPI := Lib.hid (HPI.out.grow hg)
      replace hc0 := (hg.cell (p := ⟨bc, 0, none⟩) hcl).trans hc0
      replace hc1 := (hg.cell (p := ⟨bc, 1, none⟩) hcl).trans hc1
      replace hc2 := (hg.cell (p := ⟨bc, 2, none⟩) hcl).trans hc2
      replace HKN := Lib.hid (HKN.out.grow hg)
      replace HLL := Lib.hid (HLL.out.grow hg)
      replace HRA := Lib.hid (own_grow HRA.out hg)
      replace HO := Lib.hid (own_grow HO.out hg)
      replace HAW := Lib.hid (HAW.out.grow hg)
      replace he0 := (hg.cell (p := ⟨be, 0, none⟩) hel).trans he0
      replace he1 := (hg.cell (p := ⟨be, 1, none⟩) hel).trans he1
      replace HDR := Lib.hid (HDR.out.grow hg)
      replace HDI := Lib.hid (HDI.out.grow hg)
      replace hd0 := (hg.cell (p := ⟨bd, 0, none⟩) hdl).trans hd0
      replace hd1 := (hg.cell (p := ⟨bd, 1, none⟩) hdl).trans hd1
      replace hd2 := (hg.cell (p := ⟨bd, 2, none⟩) hdl).trans hd2
      replace hsl := Nat.lt_of_lt_of_le hsl hg.size
      replace hcl := Nat.lt_of_lt_of_le hcl hg.size
      replace hel := Nat.lt_of_lt_of_le hel hg.size
      replace hdl := Nat.lt_of_lt_of_le hdl hg.size
      have HVA := Lib.hid hAV
      clear hg hV hAV
      go_wp2_with fail
      have hcall := Back_any T aC aP (some ⟨go, 0, none⟩) cC cP co (crM ws) (pinsM ws) one _ HCR.out HPI.out HCL.out (Ar.of_ints (own_ar HO.out).1) HOL.out HOR.out
      rw [seenL_len] at hcall
      refine hcall.mono ?_
      clear hcall
      rintro e w19 ⟨⟨vB, rfl, hV⟩, hg⟩
      obtain ⟨aBx, cBx, rfl, _, _, _⟩ := own_arr hV
      have hAV := Ar.of_ints (own_ar hV).1
      replace HG := Lib.hid (HG.out.trans (hg.mono HG.out.size))
      replace HA := Lib.hid (HA.out.grow hg)
      replace HD := Lib.hid (HD.out.grow hg)
      replace HQ := Lib.hid (HQ.out.grow hg)
      replace hs0 := (hg.cell (p := ⟨w.heap.size, 0, none⟩) hsl).trans hs0
      replace hs1 := (hg.cell (p := ⟨w.heap.size, 1, none⟩) hsl).trans hs1
      replace HCR := Lib.hid (HCR.out.grow hg)
      replace HPI := Lib.hid (HPI.out.grow hg)
      replace hc0 := (hg.cell (p := ⟨bc, 0, none⟩) hcl).trans hc0
      replace hc1 := (hg.cell (p := ⟨bc, 1, none⟩) hcl).trans hc1
      replace hc2 := (hg.cell (p := ⟨bc, 2, none⟩) hcl).trans hc2
      replace HKN := Lib.hid (HKN.out.grow hg)
      replace HLL := Lib.hid (HLL.out.grow hg)
      replace HRA := Lib.hid (own_grow HRA.out hg)
      replace HO := Lib.hid (own_grow HO.out hg)
      replace HAW := Lib.hid (HAW.out.grow hg)
      replace he0 := (hg.cell (p := ⟨be, 0, none⟩) hel).trans he0
      replace he1 := (hg.cell (p := ⟨be, 1, none⟩) hel).trans he1
      replace HDR := Lib.hid (HDR.out.grow hg)
      replace HDI := Lib.hid (HDI.out.grow hg)
      replace hd0 := (hg.cell (p := ⟨bd, 0, none⟩) hdl).trans hd0
      replace hd1 := (hg.cell (p := ⟨bd, 1, none⟩) hdl).trans hd1
      replace hd2 := (hg.cell (p := ⟨bd, 2, none⟩) hdl).trans hd2
      replace HVA := Lib.hid (HVA.out.grow hg)
      replace hsl := Nat.lt_of_lt_of_le hsl hg.size
      replace hcl := Nat.lt_of_lt_of_le hcl hg.size
      replace hel := Nat.lt_of_lt_of_le hel hg.size
      replace hdl := Nat.lt_of_lt_of_le hdl hg.size
      have HVB := Lib.hid hAV
      clear hg hV hAV
      go_wp2_with fail
      have hcall := Seen_any T aD aE (some ⟨go, 0, none⟩) cD cE co (crM wn) (pinsM wn) one _ HDR.out HDI.out HCLn.out (Ar.of_ints (own_ar HO.out).1) HOL.out HOR.out
      rw [seenL_len] at hcall
      refine hcall.mono ?_
      clear hcall
      rintro e w20 ⟨⟨vC, rfl, hV⟩, hg⟩
      obtain ⟨aCx, cCx, rfl, _, _, _⟩ := own_arr hV
      have hAV := Ar.of_ints (own_ar hV).1
      replace HG := Lib.hid (HG.out.trans (hg.mono HG.out.size))
      replace HA := Lib.hid (HA.out.grow hg)
      replace HD := Lib.hid (HD.out.grow hg)
      replace HQ := Lib.hid (HQ.out.grow hg)
      replace hs0 := (hg.cell (p := ⟨w.heap.size, 0, none⟩) hsl).trans hs0
      replace hs1 := (hg.cell (p := ⟨w.heap.size, 1, none⟩) hsl).trans hs1
      replace HCR := Lib.hid (HCR.out.grow hg)
      replace HPI := Lib.hid (HPI.out.grow hg)
      replace hc0 := (hg.cell (p := ⟨bc, 0, none⟩) hcl).trans hc0
      replace hc1 := (hg.cell (p := ⟨bc, 1, none⟩) hcl).trans hc1
      replace hc2 := (hg.cell (p := ⟨bc, 2, none⟩) hcl).trans hc2
      replace HKN := Lib.hid (HKN.out.grow hg)
      replace HLL := Lib.hid (HLL.out.grow hg)
      replace HRA := Lib.hid (own_grow HRA.out hg)
      replace HO := Lib.hid (own_grow HO.out hg)
      replace HAW := Lib.hid (HAW.out.grow hg)
      replace he0 := (hg.cell (p := ⟨be, 0, none⟩) hel).trans he0
      replace he1 := (hg.cell (p := ⟨be, 1, none⟩) hel).trans he1
      replace HDR := Lib.hid (HDR.out.grow hg)
      replace HDI := Lib.hid (HDI.out.grow hg)
      replace hd0 := (hg.cell (p := ⟨bd, 0, none⟩) hdl).trans hd0
      replace hd1 := (hg.cell (p := ⟨bd, 1, none⟩) hdl).trans hd1
      replace hd2 := (hg.cell (p := ⟨bd, 2, none⟩) hdl).trans hd2
      replace HVA := Lib.hid (HVA.out.grow hg)
      replace HVB := Lib.hid (HVB.out.grow hg)
      replace hsl := Nat.lt_of_lt_of_le hsl hg.size
      replace hcl := Nat.lt_of_lt_of_le hcl hg.size
      replace hel := Nat.lt_of_lt_of_le hel hg.size
      replace hdl := Nat.lt_of_lt_of_le hdl hg.size
      have HVC := Lib.hid hAV
      clear hg hV hAV
      go_wp2_with fail
      have hcall := Back_any T aD aE (some ⟨go, 0, none⟩) cD cE co (crM wn) (pinsM wn) one _ HDR.out HDI.out HCLn.out (Ar.of_ints (own_ar HO.out).1) HOL.out HOR.out
      rw [seenL_len] at hcall
      refine hcall.mono ?_
      clear hcall
      rintro e w21 ⟨⟨vE, rfl, hV⟩, hg⟩
      obtain ⟨aEx, cEx, rfl, _, _, _⟩ := own_arr hV
      have hAV := Ar.of_ints (own_ar hV).1
      replace HG := Lib.hid (HG.out.trans (hg.mono HG.out.size))
      replace HA := Lib.hid (HA.out.grow hg)
      replace HD := Lib.hid (HD.out.grow hg)
      replace HQ := Lib.hid (HQ.out.grow hg)
      replace hs0 := (hg.cell (p := ⟨w.heap.size, 0, none⟩) hsl).trans hs0
      replace hs1 := (hg.cell (p := ⟨w.heap.size, 1, none⟩) hsl).trans hs1
      replace HCR := Lib.hid (HCR.out.grow hg)
      replace HPI := Lib.hid (HPI.out.grow hg)
      replace hc0 := (hg.cell (p := ⟨bc, 0, none⟩) hcl).trans hc0
      replace hc1 := (hg.cell (p := ⟨bc, 1, none⟩) hcl).trans hc1
      replace hc2 := (hg.cell (p := ⟨bc, 2, none⟩) hcl).trans hc2
      replace HKN := Lib.hid (HKN.out.grow hg)
      replace HLL := Lib.hid (HLL.out.grow hg)
      replace HRA := Lib.hid (own_grow HRA.out hg)
      replace HO := Lib.hid (own_grow HO.out hg)
      replace HAW := Lib.hid (HAW.out.grow hg)
      replace he0 := (hg.cell (p := ⟨be, 0, none⟩) hel).trans he0
      replace he1 := (hg.cell (p := ⟨be, 1, none⟩) hel).trans he1
      replace HDR := Lib.hid (HDR.out.grow hg)
      replace HDI := Lib.hid (HDI.out.grow hg)
      replace hd0 := (hg.cell (p := ⟨bd, 0, none⟩) hdl).trans hd0
      replace hd1 := (hg.cell (p := ⟨bd, 1, none⟩) hdl).trans hd1
      replace hd2 := (hg.cell (p := ⟨bd, 2, none⟩) hdl).trans hd2
      replace HVA := Lib.hid (HVA.out.grow hg)
      replace HVB := Lib.hid (HVB.out.grow hg)
      replace HVC := Lib.hid (HVC.out.grow hg)
      replace hsl := Nat.lt_of_lt_of_le hsl hg.size
      replace hcl := Nat.lt_of_lt_of_le hcl hg.size
      replace hel := Nat.lt_of_lt_of_le hel hg.size
      replace hdl := Nat.lt_of_lt_of_le hdl hg.size
      have HVE := Lib.hid hAV
      clear hg hV hAV
      go_wp2_with fail
      refine (line_any T aD aE (some ⟨go, 0, none⟩) cD cE co (crM wn) (pinsM wn) one _ HDR.out HDI.out HCLn.out hdC hdM (Ar.of_ints (own_ar HO.out).1) HOL.out HOR.out).mono ?_
      rintro e w22 ⟨⟨vG, rfl, hV⟩, hg⟩
      obtain ⟨aGx, cGx, rfl, _, _, _⟩ := own_arr hV
      have hos := HOS.out
      rw [HT.out] at hos
      have hol := HOL.out
      rw [HT.out] at hol
      have hAV := Ar.of_ints (own_ar hV).1
      have hre := ring_end HK.out hol hos n HMN.out
      rw [HWN.out] at hre
      rw [hre] at hAV
      have HSA : Hid (seenL false one (crM wn) = repC n (seenL false one (crM ws))) := by
        show _ = _
        rw [← HWN.out]
        exact ring_seen HK.out hol hos false n HMN.out
      have HSB : Hid (seenL true one (crM wn) = repC n (seenL true one (crM ws))) := by
        show _ = _
        rw [← HWN.out]
        exact ring_seen HK.out hol hos true n HMN.out
      replace HG := Lib.hid (HG.out.trans (hg.mono HG.out.size))
      replace HA := Lib.hid (HA.out.grow hg)
      replace HD := Lib.hid (HD.out.grow hg)
      replace HQ := Lib.hid (HQ.out.grow hg)
      replace hs0 := (hg.cell (p := ⟨w.heap.size, 0, none⟩) hsl).trans hs0
      replace hs1 := (hg.cell (p := ⟨w.heap.size, 1, none⟩) hsl).trans hs1
      replace HCR := Lib.hid (HCR.out.grow hg)
      replace HPI := Lib.hid (HPI.out.grow hg)
      replace hc0 := (hg.cell (p := ⟨bc, 0, none⟩) hcl).trans hc0
      replace hc1 := (hg.cell (p := ⟨bc, 1, none⟩) hcl).trans hc1
      replace hc2 := (hg.cell (p := ⟨bc, 2, none⟩) hcl).trans hc2
      replace HKN := Lib.hid (HKN.out.grow hg)
      replace HLL := Lib.hid (HLL.out.grow hg)
      replace HRA := Lib.hid (own_grow HRA.out hg)
      replace HO := Lib.hid (own_grow HO.out hg)
      replace HAW := Lib.hid (HAW.out.grow hg)
      replace he0 := (hg.cell (p := ⟨be, 0, none⟩) hel).trans he0
      replace he1 := (hg.cell (p := ⟨be, 1, none⟩) hel).trans he1
      replace HDR := Lib.hid (HDR.out.grow hg)
      replace HDI := Lib.hid (HDI.out.grow hg)
      replace hd0 := (hg.cell (p := ⟨bd, 0, none⟩) hdl).trans hd0
      replace hd1 := (hg.cell (p := ⟨bd, 1, none⟩) hdl).trans hd1
      replace hd2 := (hg.cell (p := ⟨bd, 2, none⟩) hdl).trans hd2
      replace HVA := Lib.hid (HVA.out.grow hg)
      replace HVB := Lib.hid (HVB.out.grow hg)
      replace HVC := Lib.hid (HVC.out.grow hg)
      replace HVE := Lib.hid (HVE.out.grow hg)
      replace hsl := Nat.lt_of_lt_of_le hsl hg.size
      replace hcl := Nat.lt_of_lt_of_le hcl hg.size
      replace hel := Nat.lt_of_lt_of_le hel hg.size
      replace hdl := Nat.lt_of_lt_of_le hdl hg.size
      have HVG := Lib.hid hAV
      clear hg hV hAV hos hol hre
      go_wp2_with fail
      have hcall := repeatI_any aAx cAx (seenL false one (crM ws)) n _ HVA.out (by rw [seenL_len]; omega) hn1 (by omega)
      rw [seenL_len, ← HSA.out, Nat.mul_comm, ← HCN.out] at hcall
      refine hcall.mono ?_
      clear hcall
      rintro e w23 ⟨⟨vr, rfl, hV⟩, hg⟩
      obtain ⟨arA, crA, rfl, _, _, _⟩ := own_arr hV
      have hAV : Ar (eI .i64) w23 arA (seenL false one (crM wn)) := (own_ar hV).1
      replace HG := Lib.hid (HG.out.trans (hg.mono HG.out.size))
      replace HA := Lib.hid (HA.out.grow hg)
      replace HD := Lib.hid (HD.out.grow hg)
      replace HQ := Lib.hid (HQ.out.grow hg)
      replace hs0 := (hg.cell (p := ⟨w.heap.size, 0, none⟩) hsl).trans hs0
      replace hs1 := (hg.cell (p := ⟨w.heap.size, 1, none⟩) hsl).trans hs1
      replace HCR := Lib.hid (HCR.out.grow hg)
      replace HPI := Lib.hid (HPI.out.grow hg)
      replace hc0 := (hg.cell (p := ⟨bc, 0, none⟩) hcl).trans hc0
      replace hc1 := (hg.cell (p := ⟨bc, 1, none⟩) hcl).trans hc1
      replace hc2 := (hg.cell (p := ⟨bc, 2, none⟩) hcl).trans hc2
      replace HKN := Lib.hid (HKN.out.grow hg)
      replace HLL := Lib.hid (HLL.out.grow hg)
      replace HRA := Lib.hid (own_grow HRA.out hg)
      replace HO := Lib.hid (own_grow HO.out hg)
      replace HAW := Lib.hid (HAW.out.grow hg)
      replace he0 := (hg.cell (p := ⟨be, 0, none⟩) hel).trans he0
      replace he1 := (hg.cell (p := ⟨be, 1, none⟩) hel).trans he1
      replace HDR := Lib.hid (HDR.out.grow hg)
      replace HDI := Lib.hid (HDI.out.grow hg)
      replace hd0 := (hg.cell (p := ⟨bd, 0, none⟩) hdl).trans hd0
      replace hd1 := (hg.cell (p := ⟨bd, 1, none⟩) hdl).trans hd1
      replace hd2 := (hg.cell (p := ⟨bd, 2, none⟩) hdl).trans hd2
      replace HVA := Lib.hid (HVA.out.grow hg)
      replace HVB := Lib.hid (HVB.out.grow hg)
      replace HVC := Lib.hid (HVC.out.grow hg)
      replace HVE := Lib.hid (HVE.out.grow hg)
      replace HVG := Lib.hid (HVG.out.grow hg)
      replace hsl := Nat.lt_of_lt_of_le hsl hg.size
      replace hcl := Nat.lt_of_lt_of_le hcl hg.size
      replace hel := Nat.lt_of_lt_of_le hel hg.size
      replace hdl := Nat.lt_of_lt_of_le hdl hg.size
      have HPRA := Lib.hid hAV
      clear hg hV hAV
      go_wp2_with fail
      have hcall := equal_any arA aCx crA cCx (seenL false one (crM wn)) _ HPRA.out HVC.out (by rw [seenL_len]; omega)
      rw [seenL_len] at hcall
      refine hcall.mono ?_
      clear hcall
      rintro e w24 ⟨rfl, hg⟩
      replace HG := Lib.hid (HG.out.trans (hg.mono HG.out.size))
      replace HA := Lib.hid (HA.out.grow hg)
      replace HD := Lib.hid (HD.out.grow hg)
      replace HQ := Lib.hid (HQ.out.grow hg)
      replace hs0 := (hg.cell (p := ⟨w.heap.size, 0, none⟩) hsl).trans hs0
      replace hs1 := (hg.cell (p := ⟨w.heap.size, 1, none⟩) hsl).trans hs1
      replace HCR := Lib.hid (HCR.out.grow hg)
      replace HPI := Lib.hid (HPI.out.grow hg)
      replace hc0 := (hg.cell (p := ⟨bc, 0, none⟩) hcl).trans hc0
      replace hc1 := (hg.cell (p := ⟨bc, 1, none⟩) hcl).trans hc1
      replace hc2 := (hg.cell (p := ⟨bc, 2, none⟩) hcl).trans hc2
      replace HKN := Lib.hid (HKN.out.grow hg)
      replace HLL := Lib.hid (HLL.out.grow hg)
      replace HRA := Lib.hid (own_grow HRA.out hg)
      replace HO := Lib.hid (own_grow HO.out hg)
      replace HAW := Lib.hid (HAW.out.grow hg)
      replace he0 := (hg.cell (p := ⟨be, 0, none⟩) hel).trans he0
      replace he1 := (hg.cell (p := ⟨be, 1, none⟩) hel).trans he1
      replace HDR := Lib.hid (HDR.out.grow hg)
      replace HDI := Lib.hid (HDI.out.grow hg)
      replace hd0 := (hg.cell (p := ⟨bd, 0, none⟩) hdl).trans hd0
      replace hd1 := (hg.cell (p := ⟨bd, 1, none⟩) hdl).trans hd1
      replace hd2 := (hg.cell (p := ⟨bd, 2, none⟩) hdl).trans hd2
      replace HVA := Lib.hid (HVA.out.grow hg)
      replace HVB := Lib.hid (HVB.out.grow hg)
      replace HVC := Lib.hid (HVC.out.grow hg)
      replace HVE := Lib.hid (HVE.out.grow hg)
      replace HVG := Lib.hid (HVG.out.grow hg)
      replace hsl := Nat.lt_of_lt_of_le hsl hg.size
      replace hcl := Nat.lt_of_lt_of_le hcl hg.size
      replace hel := Nat.lt_of_lt_of_le hel hg.size
      replace hdl := Nat.lt_of_lt_of_le hdl hg.size
      clear hg
      go_wp2_with fail
      have hcall := repeatI_any aBx cBx (seenL true one (crM ws)) n _ HVB.out (by rw [seenL_len]; omega) hn1 (by omega)
      rw [seenL_len, ← HSB.out, Nat.mul_comm, ← HCN.out] at hcall
      refine hcall.mono ?_
      clear hcall
      rintro e w25 ⟨⟨vr, rfl, hV⟩, hg⟩
      obtain ⟨arB, crB, rfl, _, _, _⟩ := own_arr hV
      have hAV : Ar (eI .i64) w25 arB (seenL true one (crM wn)) := (own_ar hV).1
      replace HG := Lib.hid (HG.out.trans (hg.mono HG.out.size))
      replace HA := Lib.hid (HA.out.grow hg)
      replace HD := Lib.hid (HD.out.grow hg)
      replace HQ := Lib.hid (HQ.out.grow hg)
      replace hs0 := (hg.cell (p := ⟨w.heap.size, 0, none⟩) hsl).trans hs0
      replace hs1 := (hg.cell (p := ⟨w.heap.size, 1, none⟩) hsl).trans hs1
      replace HCR := Lib.hid (HCR.out.grow hg)
      replace HPI := Lib.hid (HPI.out.grow hg)
      replace hc0 := (hg.cell (p := ⟨bc, 0, none⟩) hcl).trans hc0
      replace hc1 := (hg.cell (p := ⟨bc, 1, none⟩) hcl).trans hc1
      replace hc2 := (hg.cell (p := ⟨bc, 2, none⟩) hcl).trans hc2
      replace HKN := Lib.hid (HKN.out.grow hg)
      replace HLL := Lib.hid (HLL.out.grow hg)
      replace HRA := Lib.hid (own_grow HRA.out hg)
      replace HO := Lib.hid (own_grow HO.out hg)
      replace HAW := Lib.hid (HAW.out.grow hg)
      replace he0 := (hg.cell (p := ⟨be, 0, none⟩) hel).trans he0
      replace he1 := (hg.cell (p := ⟨be, 1, none⟩) hel).trans he1
      replace HDR := Lib.hid (HDR.out.grow hg)
      replace HDI := Lib.hid (HDI.out.grow hg)
      replace hd0 := (hg.cell (p := ⟨bd, 0, none⟩) hdl).trans hd0
      replace hd1 := (hg.cell (p := ⟨bd, 1, none⟩) hdl).trans hd1
      replace hd2 := (hg.cell (p := ⟨bd, 2, none⟩) hdl).trans hd2
      replace HVA := Lib.hid (HVA.out.grow hg)
      replace HVB := Lib.hid (HVB.out.grow hg)
      replace HVC := Lib.hid (HVC.out.grow hg)
      replace HVE := Lib.hid (HVE.out.grow hg)
      replace HVG := Lib.hid (HVG.out.grow hg)
      replace hsl := Nat.lt_of_lt_of_le hsl hg.size
      replace hcl := Nat.lt_of_lt_of_le hcl hg.size
      replace hel := Nat.lt_of_lt_of_le hel hg.size
      replace hdl := Nat.lt_of_lt_of_le hdl hg.size
      have HPRB := Lib.hid hAV
      clear hg hV hAV
      go_wp2_with fail
      have hcall := equal_any arB aEx crB cEx (seenL true one (crM wn)) _ HPRB.out HVE.out (by rw [seenL_len]; omega)
      rw [seenL_len] at hcall
      refine hcall.mono ?_
      clear hcall
      rintro e w26 ⟨rfl, hg⟩
      replace HG := Lib.hid (HG.out.trans (hg.mono HG.out.size))
      replace HA := Lib.hid (HA.out.grow hg)
      replace HD := Lib.hid (HD.out.grow hg)
      replace HQ := Lib.hid (HQ.out.grow hg)
      replace hs0 := (hg.cell (p := ⟨w.heap.size, 0, none⟩) hsl).trans hs0
      replace hs1 := (hg.cell (p := ⟨w.heap.size, 1, none⟩) hsl).trans hs1
      replace HCR := Lib.hid (HCR.out.grow hg)
      replace HPI := Lib.hid (HPI.out.grow hg)
      replace hc0 := (hg.cell (p := ⟨bc, 0, none⟩) hcl).trans hc0
      replace hc1 := (hg.cell (p := ⟨bc, 1, none⟩) hcl).trans hc1
      replace hc2 := (hg.cell (p := ⟨bc, 2, none⟩) hcl).trans hc2
      replace HKN := Lib.hid (HKN.out.grow hg)
      replace HLL := Lib.hid (HLL.out.grow hg)
      replace HRA := Lib.hid (own_grow HRA.out hg)
      replace HO := Lib.hid (own_grow HO.out hg)
      replace HAW := Lib.hid (HAW.out.grow hg)
      replace he0 := (hg.cell (p := ⟨be, 0, none⟩) hel).trans he0
      replace he1 := (hg.cell (p := ⟨be, 1, none⟩) hel).trans he1
      replace HDR := Lib.hid (HDR.out.grow hg)
      replace HDI := Lib.hid (HDI.out.grow hg)
      replace hd0 := (hg.cell (p := ⟨bd, 0, none⟩) hdl).trans hd0
      replace hd1 := (hg.cell (p := ⟨bd, 1, none⟩) hdl).trans hd1
      replace hd2 := (hg.cell (p := ⟨bd, 2, none⟩) hdl).trans hd2
      replace HVA := Lib.hid (HVA.out.grow hg)
      replace HVB := Lib.hid (HVB.out.grow hg)
      replace HVC := Lib.hid (HVC.out.grow hg)
      replace HVE := Lib.hid (HVE.out.grow hg)
      replace HVG := Lib.hid (HVG.out.grow hg)
      replace hsl := Nat.lt_of_lt_of_le hsl hg.size
      replace hcl := Nat.lt_of_lt_of_le hcl hg.size
      replace hel := Nat.lt_of_lt_of_le hel hg.size
      replace hdl := Nat.lt_of_lt_of_le hdl hg.size
      clear hg
      go_wp2_with fail
      have hcall := equal_any aGx (some ⟨go, 0, none⟩) cGx co one _ HVG.out (Ar.of_ints (own_ar HO.out).1) (by rw [HOL.out]; omega)
      rw [HOL.out] at hcall
      refine hcall.mono ?_
      clear hcall
      rintro e w27 ⟨rfl, hg⟩
      replace HG := Lib.hid (HG.out.trans (hg.mono HG.out.size))
      replace HA := Lib.hid (HA.out.grow hg)
      replace HD := Lib.hid (HD.out.grow hg)
      replace HQ := Lib.hid (HQ.out.grow hg)
      replace hs0 := (hg.cell (p := ⟨w.heap.size, 0, none⟩) hsl).trans hs0
      replace hs1 := (hg.cell (p := ⟨w.heap.size, 1, none⟩) hsl).trans hs1
      replace HCR := Lib.hid (HCR.out.grow hg)
      replace HPI := Lib.hid (HPI.out.grow hg)
      replace hc0 := (hg.cell (p := ⟨bc, 0, none⟩) hcl).trans hc0
      replace hc1 := (hg.cell (p := ⟨bc, 1, none⟩) hcl).trans hc1
      replace hc2 := (hg.cell (p := ⟨bc, 2, none⟩) hcl).trans hc2
      replace HKN := Lib.hid (HKN.out.grow hg)
      replace HLL := Lib.hid (HLL.out.grow hg)
      replace HRA := Lib.hid (own_grow HRA.out hg)
      replace HO := Lib.hid (own_grow HO.out hg)
      replace HAW := Lib.hid (HAW.out.grow hg)
      replace he0 := (hg.cell (p := ⟨be, 0, none⟩) hel).trans he0
      replace he1 := (hg.cell (p := ⟨be, 1, none⟩) hel).trans he1
      replace HDR := Lib.hid (HDR.out.grow hg)
      replace HDI := Lib.hid (HDI.out.grow hg)
      replace hd0 := (hg.cell (p := ⟨bd, 0, none⟩) hdl).trans hd0
      replace hd1 := (hg.cell (p := ⟨bd, 1, none⟩) hdl).trans hd1
      replace hd2 := (hg.cell (p := ⟨bd, 2, none⟩) hdl).trans hd2
      replace HVA := Lib.hid (HVA.out.grow hg)
      replace HVB := Lib.hid (HVB.out.grow hg)
      replace HVC := Lib.hid (HVC.out.grow hg)
      replace HVE := Lib.hid (HVE.out.grow hg)
      replace HVG := Lib.hid (HVG.out.grow hg)
      replace hsl := Nat.lt_of_lt_of_le hsl hg.size
      replace hcl := Nat.lt_of_lt_of_le hcl hg.size
      replace hel := Nat.lt_of_lt_of_le hel hg.size
      replace hdl := Nat.lt_of_lt_of_le hdl hg.size
      clear hg
      go_wp2
      go_ret
      exact ⟨rfl, HG.out⟩
end Go.Proofs.Ytefdncpdlgakpaa
