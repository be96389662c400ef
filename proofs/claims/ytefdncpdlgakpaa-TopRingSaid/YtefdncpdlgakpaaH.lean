import Derived.Test.YtefdncpdlgakpaaK
namespace Go.Proofs.Ytefdncpdlgakpaa
open Go.RowKit
attribute [local go_sem] Oper.semAt_some

@[go_sem] theorem eqPair (a b c d : Int) (w : World) : (Op.equalIn 10000 112 (.agg #[.int .i64 a, .int .i64 b]) (.agg #[.int .i64 c, .int .i64 d])).run Try.prog w = .ok (a == c && b == d) w := by
  have u3 := Try.underlying3
  have a3 := Try.isAgg3
  have z3 := Try.sizeOf3
  rw [show (10000 : Nat) = 9999 + 1 from rfl, Op.equalIn]
  simp only [Sem.run_bind, run_underlying Try.underlying112, Result.andThen_ok]
  simp only [Std.Legacy.Range.forIn_eq_forIn_range', Std.Legacy.Range.size, Nat.sub_zero, Nat.add_sub_cancel, Nat.div_one, List.range'_succ, List.range'_zero, List.forIn_cons, List.forIn_nil]
  go_simp
  by_cases h1 : a = c <;> by_cases h2 : b = d <;> simp [h1, h2]

theorem cin_any (n lo hi : Int) (w : World) (h1 : lo ≤ n) (h2 : n ≤ hi) : Calls Try.prog 52 #[.int .i64 n, .int .i64 lo, .int .i64 hi] w fun e w' => e = .returned (.bool true) ∧ w = w' := by
  go_enter Try.func52, Try.ntmps52
  go_wp2
  go_ret
  exact ⟨by simp [h1, h2], rfl⟩

theorem crossingsF_any (thr : Int) (a a2 : Option Addr) (n cap n2 cap2 : Nat) (b : Nat) (w : World) : Calls Try.prog 53 #[.agg #[.int .i64 thr, .slice a n cap, .slice a2 n2 cap2], .pointer (some ⟨b, 0, none⟩)] w fun e w' =>
    e = .returned (.func (.func 57) #[] #[.pointer (some ⟨w.heap.size, 0, none⟩), .pointer (some ⟨w.heap.size + 1, 0, none⟩)]) ∧ w' = (w.alloc (.cells #[.int .i64 thr, .slice a n cap, .slice a2 n2 cap2] 32)).alloc (.cells #[.pointer (some ⟨b, 0, none⟩)] 90) := by
  have hmf := run_makeFunc_fn Try.prog
  go_enter Try.func53, Try.ntmps53
  go_wp2
  go_ret
  exact ⟨rfl, rfl⟩

theorem Blk.putObj {w : World} {b l : Nat} {cs : Array Value} {T : TypeId} (h : Blk w b cs T) (hne : b ≠ l) (o : Obj) : Blk (w.putObj l o) b cs T := (World.putObj_heap_other hne).trans h

theorem turn_round {S : Nat → Prop} {W W1 W3 : World} {l : Nat} {rd bs : Obj} (h : Turn S W W1) (hrd : W.heap[l]? = some rd) (h3 : Turn S (W1.putObj l bs) W3) : Turn S W (W3.putObj l rd) := by
  have hl : l < W.heap.size := (Array.getElem?_eq_some_iff.1 hrd).1
  have h31 := h3.size
  have h11 := h.size
  simp only [World.putObj_size] at h31
  refine ⟨h3.os.trans h.os, h3.tape.trans h.tape, h3.output.trans h.output, by simp; omega, fun k hk hn => ?_⟩
  by_cases e : k = l
  · subst e
    rw [World.putObj_heap_same (by omega), hrd]
  · rw [World.putObj_heap_other e, h3.block k (by simp; omega) hn, World.putObj_heap_other e, h.block k hk hn]

set_option maxRecDepth 100000 in
set_option maxHeartbeats 1000000 in
theorem clothCheck_ok (thr : Int) (a a2 : Option Addr) (cap cap2 : Nat) (cr pins : List Q4) (w : World) (ha : Ar eQ w a cr) (ha2 : Ar eQ w a2 pins) (hok : okCl thr cr pins) :
    Calls Try.prog 45 #[.agg #[.int .i64 thr, .slice a cr.length cap, .slice a2 pins.length cap2]] w fun e w' => e = .returned (.int .i64 0) ∧ Grow w w' := by
  have h2 := hok.t2
  have h48 := hok.t48
  have hnc := hok.nc
  have hnp := hok.np
  have HA := Lib.hid ha
  have HA2 := Lib.hid ha2
  have HK := Lib.hid hok
  clear ha ha2 hok
  refine (callsIn_wide (n := 3)).1 (callsIn_of_wp_marks Try.func45 rfl trivial ?_)
  refine wpIn_wide.2 ?_
  simp only [Try.ntmps45, List.size_toArray, List.length_cons, List.length_nil, Nat.reduceAdd, Nat.reduceSub, Array.replicate_succ, Array.replicate_zero, List.push_toArray, List.append_toArray, List.nil_append, List.cons_append]
  go_wp2
  have B1 := (Blk.new w #[.int .i64 thr, .slice a cr.length cap, .slice a2 pins.length cap2] 32).alloc (.cells #[.int .i64 0] 27)
  have B2 := Blk.new' (w.alloc (.cells #[.int .i64 thr, .slice a cr.length cap, .slice a2 pins.length cap2] 32)) #[.int .i64 0] 27 (w.heap.size + 1) (by simp)
  have G2 : Grow w ((w.alloc (.cells #[.int .i64 thr, .slice a cr.length cap, .slice a2 pins.length cap2] 32)).alloc (.cells #[.int .i64 0] 27)) := ((Below.refl _ _).alloc (Nat.le_refl _) _).alloc (by simp) _
  replace B1 := Lib.hid B1
  replace B2 := Lib.hid B2
  replace G2 := Lib.hid G2
  go_loopw [32, 3] (fun i g wr => ∃ k : Nat, k ≤ cr.length ∧ i = .int .i64 k ∧ g = .bool true ∧ Hid (Blk wr w.heap.size #[.int .i64 thr, .slice a cr.length cap, .slice a2 pins.length cap2] 32) ∧ Hid (Blk wr (w.heap.size + 1) #[.int .i64 0] 27) ∧ Hid (Grow w wr)) (fun i _ _ => cr.length - (intOf i).toNat)
  case atStart => exact ⟨0, Nat.zero_le _, rfl, (by simp [h2]), B1.out, B2.out, G2.out⟩
  case round =>
    obtain ⟨k, hk, rfl, rfl, hb1, hb2, hg⟩ := hrel
    clear B1 B2 G2
    have hs0 : wr.cell? ⟨w.heap.size, 0, none⟩ = some (.int .i64 thr) := by rw [hb1.out.cell]; rfl
    have hs2 : wr.cell? ⟨w.heap.size, 2, none⟩ = some (.slice a2 pins.length cap2) := by rw [hb1.out.cell]; rfl
    have hl1 := hb1.out.lt
    by_cases hlt : k < cr.length
    · obtain ⟨b, o, x, hx, rfl, hbb, hx0, hx1, hx2, hx3⟩ := (HA.out.grow hg.out).q4 hlt
      obtain ⟨hv0, hv1, hv2⟩ := HK.out.hc x (List.mem_of_getElem? hx)
      clear hx
      go_wp2_with (go_at_call 52; refine (cin_any _ _ _ _ (by omega) (by omega)).mono ?_; rintro e w3 ⟨rfl, rfl⟩)
      go_roundw
      case rel => exact ⟨k + 1, by omega, by go_num, (by simp [hv2]), hb1.out.alloc _, hb2.out.alloc _, hg.out.alloc hg.out.size _⟩
      case measure => simp [intOf]; omega
    · go_wp2
      go_loopw [54, 3] (fun i g wr => ∃ k : Nat, k ≤ pins.length ∧ i = .int .i64 k ∧ g = .bool true ∧ Hid (Blk wr w.heap.size #[.int .i64 thr, .slice a cr.length cap, .slice a2 pins.length cap2] 32) ∧ Hid (Blk wr (w.heap.size + 1) #[.int .i64 0] 27) ∧ Hid (Grow w wr)) (fun i _ _ => pins.length - (intOf i).toNat)
      case atStart => exact ⟨0, Nat.zero_le _, rfl, rfl, hb1.out, hb2.out, hg.out⟩
      case round =>
        clear hb1 hb2 hg hs0 hs2 hl1
        obtain ⟨k, hk, rfl, rfl, hb1, hb2, hg⟩ := hrel
        have hs0 : wr.cell? ⟨w.heap.size, 0, none⟩ = some (.int .i64 thr) := by rw [hb1.out.cell]; rfl
        have hl1 := hb1.out.lt
        by_cases hlt : k < pins.length
        · obtain ⟨b, o, x, hx, rfl, hbb, hx0, hx1, hx2, hx3⟩ := (HA2.out.grow hg.out).q4 hlt
          obtain ⟨hv0, hv1, hv2, hv3, hv4, hv5, hv6, hv7⟩ := HK.out.hp x (List.mem_of_getElem? hx)
          clear hx
          go_wp2_with (go_at_call 52; refine (cin_any _ _ _ _ (by omega) (by omega)).mono ?_; rintro e w3 ⟨rfl, rfl⟩)
          go_roundw
          case rel => exact ⟨k + 1, by omega, by go_num, (by simp [hv2, hv7]), hb1.out.alloc _, hb2.out.alloc _, hg.out.alloc hg.out.size _⟩
          case measure => simp [intOf]; omega
        · have HBS := Lib.hid hs0
          clear hs0 hl1
          go_wp2_with fail
          refine (begun_any _).mono ?_
          rintro e w2 ⟨rfl, hg2⟩
          have S2 := hb1.out.grow hg2
          have R2 := hb2.out.grow hg2
          have G2 : Grow w w2 := hg.out.trans (hg2.mono hg.out.size)
          have hs0 : w2.cell? ⟨w.heap.size, 0, none⟩ = some (.int .i64 thr) := by rw [S2.cell]; rfl
          have hs1 : w2.cell? ⟨w.heap.size, 1, none⟩ = some (.slice a cr.length cap) := by rw [S2.cell]; rfl
          have hs2 : w2.cell? ⟨w.heap.size, 2, none⟩ = some (.slice a2 pins.length cap2) := by rw [S2.cell]; rfl
          have hl2 := S2.lt
          have hr2 := R2.lt
          replace S2 := Lib.hid S2
          replace R2 := Lib.hid R2
          replace G2 := Lib.hid G2
          clear hb1 hb2 hg hg2 HBS
          go_wp2_with (first | (refine wpList_store_row rfl 59 _ _ rfl w2.heap.size (lineC id48) rfl rfl 59 (lineC (begunTo 0)) (Blk.new _ _ _) (by rw [Try.infoLine]; rfl) rfl (lineC_one _) ?_; rw [World.setRow_alloc_new]) | (go_at_call 53; refine (crossingsF_any _ _ _ _ _ _ _ _ _).mono ?_; rintro e w4 ⟨rfl, rfl⟩))
          have hBl := ((Blk.new w2 (lineC id48) 59).alloc (.cells #[.int .i64 thr, .slice a cr.length cap, .slice a2 pins.length cap2] 32)).alloc (.cells #[.pointer (some ⟨w2.heap.size, 0, none⟩)] 90)
          have hBc := (Blk.new' (w2.alloc (.cells (lineC id48) 59)) #[.int .i64 thr, .slice a cr.length cap, .slice a2 pins.length cap2] 32 (w2.heap.size + 1) (by simp)).alloc (.cells #[.pointer (some ⟨w2.heap.size, 0, none⟩)] 90)
          have hBt := Blk.new' ((w2.alloc (.cells (lineC id48) 59)).alloc (.cells #[.int .i64 thr, .slice a cr.length cap, .slice a2 pins.length cap2] 32)) #[.pointer (some ⟨w2.heap.size, 0, none⟩)] 90 (w2.heap.size + 1 + 1) (by simp)
          have hGw : Grow w2 (((w2.alloc (.cells (lineC id48) 59)).alloc (.cells #[.int .i64 thr, .slice a cr.length cap, .slice a2 pins.length cap2] 32)).alloc (.cells #[.pointer (some ⟨w2.heap.size, 0, none⟩)] 90)) := (((Below.refl _ _).alloc (Nat.le_refl _) _).alloc (by simp) _).alloc (by simp; omega) _
          have hWs : (((w2.alloc (.cells (lineC id48) 59)).alloc (.cells #[.int .i64 thr, .slice a cr.length cap, .slice a2 pins.length cap2] 32)).alloc (.cells #[.pointer (some ⟨w2.heap.size, 0, none⟩)] 90)).heap.size = w2.heap.size + 3 := by simp
          obtain ⟨ww, hww⟩ : ∃ ww, ((w2.alloc (.cells (lineC id48) 59)).alloc (.cells #[.int .i64 thr, .slice a cr.length cap, .slice a2 pins.length cap2] 32)).alloc (.cells #[.pointer (some ⟨w2.heap.size, 0, none⟩)] 90) = ww := ⟨_, rfl⟩
          rw [hww] at hBl hBc hBt hGw hWs ⊢
          clear hww
          have hRs := Lib.hid (R2.out.grow hGw)
          have hHA := Lib.hid ((HA.out.grow G2.out).grow hGw)
          have hLI := Lib.hid ((HA.out.grow G2.out).lies)
          replace hBl := Lib.hid hBl
          replace hBc := Lib.hid hBc
          replace hBt := Lib.hid hBt
          replace hGw := Lib.hid ((G2.out).trans (hGw.mono G2.out.size))
          clear hs0 hs1 hs2 G2 R2 S2
          refine (wpIn_wide (n := 3)).1 ?_
          refine wpIn_range_raw rfl (by omega) (gf := 57) rfl trivial (enters_of Try.func57 (by kernel_rfl) rfl)
            (ι := Unit) (fun _ vals _ => ∃ (x : Q4) (l0 l1 : Int), vals = #[x.val, .agg #[.int .i64 l0, .int .i64 l1]] ∧ ((l0 = x.c ∧ l1 = x.d) ∨ (l0 = x.d ∧ l1 = x.c)))
            (fun _ _ W W' => Grow W W') (fun W' => Turn (fun k => k = w2.heap.size) ww W')
            (by rintro i vals W ⟨x, l0, l1, rfl, _⟩; rfl) ?round ?iter ?done
          case round =>
            clear hLI hRs hHA hGw hBl hBc hBt
            rintro i l rd bs vals W rfl hrd hbs ⟨x, l0, l1, rfl, hm⟩ hl hD
            simp only [Q4.val]
            gi_wp2
            have hlt1 : ww.heap.size + 1 < W.heap.size := (Array.getElem?_eq_some_iff.1 hl).1
            have X1 := ((Blk.new W #[.int .i64 x.a, .int .i64 x.b, .int .i64 x.c, .int .i64 x.d] 65).alloc (.cells #[.int .i64 l0, .int .i64 l1] 112)).putObj (l := ww.heap.size + 1) (by omega) bs
            have X2 := (Blk.new' (W.alloc (.cells #[.int .i64 x.a, .int .i64 x.b, .int .i64 x.c, .int .i64 x.d] 65)) #[.int .i64 l0, .int .i64 l1] 112 (W.heap.size + 1) (by simp)).putObj (l := ww.heap.size + 1) (by omega) bs
            have hl1 : ((W.alloc (.cells #[.int .i64 x.a, .int .i64 x.b, .int .i64 x.c, .int .i64 x.d] 65)).alloc (.cells #[.int .i64 l0, .int .i64 l1] 112)).heap[ww.heap.size + 1]? = some rd := (Below.heap_alloc _ _ _ (by simp; omega)).trans ((Below.heap_alloc _ _ _ hlt1).trans hl)
            refine ⟨hl1, ?_⟩
            have hT : Grow W ((W.alloc (.cells #[.int .i64 x.a, .int .i64 x.b, .int .i64 x.c, .int .i64 x.d] 65)).alloc (.cells #[.int .i64 l0, .int .i64 l1] 112)) := ((Below.refl _ _).alloc (Nat.le_refl _) _).alloc (by simp) _
            have hlW : ((W.alloc (.cells #[.int .i64 x.a, .int .i64 x.b, .int .i64 x.c, .int .i64 x.d] 65)).alloc (.cells #[.int .i64 l0, .int .i64 l1] 112)).heap.size = W.heap.size + 2 := by simp
            obtain ⟨W1, hW1⟩ : ∃ W1, (W.alloc (.cells #[.int .i64 x.a, .int .i64 x.b, .int .i64 x.c, .int .i64 x.d] 65)).alloc (.cells #[.int .i64 l0, .int .i64 l1] 112) = W1 := ⟨_, rfl⟩
            rw [hW1] at X1 X2 hl1 hT hlW ⊢
            have hW2 : (W1.putObj (ww.heap.size + 1) bs).heap[ww.heap.size + 1]? = some bs := World.putObj_heap_same (by omega)
            have hG2 : Grow W ((W1.putObj (ww.heap.size + 1) bs).putObj (ww.heap.size + 1) rd) := (turn_round (S := fun _ => False) (Turn.grow hT) hl (Turn.refl _ _)).below (Nat.le_refl _) (fun _ h => h.elim)
            obtain ⟨W2, hW2'⟩ : ∃ W2, W1.putObj (ww.heap.size + 1) bs = W2 := ⟨_, rfl⟩
            rw [hW2'] at X1 X2 hW2 hG2 ⊢
            have hx2 : W2.cell? ⟨W.heap.size, 2, none⟩ = some (.int .i64 x.c) := by rw [X1.cell]; rfl
            have hx3 : W2.cell? ⟨W.heap.size, 3, none⟩ = some (.int .i64 x.d) := by rw [X1.cell]; rfl
            have hy0 : W2.cell? ⟨W.heap.size + 1, 0, none⟩ = some (.int .i64 l0) := by rw [X2.cell]; rfl
            have hy1 : W2.cell? ⟨W.heap.size + 1, 1, none⟩ = some (.int .i64 l1) := by rw [X2.cell]; rfl
            have hxl := X1.lt
            have hyl := X2.lt
            have HGG := Lib.hid hG2
            have HWW := Lib.hid hW2
            clear X1 X2 hl1 hT hW1 hW2 hG2 hW2' hl hD
            have hh : (l0 = x.c ∧ l1 = x.d) ∨ (l0 = x.d ∧ l1 = x.c ∧ x.c ≠ x.d) := by omega
            clear hm
            rcases hh with ⟨rfl, rfl⟩ | ⟨rfl, rfl, hne⟩
            · gi_wp2
              rw [← hWs]
              exact ⟨HWW.out, HGG.out⟩
            · gi_wp2
              rw [← hWs]
              exact ⟨HWW.out, HGG.out⟩
          case iter =>
            rintro l rd rfl hrd hY
            refine callsIn_wide.2 ?_
            have hA1 : (ww.alloc (.deferred (some []))).heap.size = ww.heap.size + 1 := by simp
            refine (crossings1_in (3 - 1) (ww.heap.size + 1) ww.heap.size (w2.heap.size + 1) (w2.heap.size + 1 + 1) w2.heap.size rd thr a cap _ cr _ ((hBc.out.alloc _).alloc _) ((hBt.out.alloc _).alloc _) ((hBl.out.alloc _).alloc _) ((hHA.alloc _).alloc _) hLI hnc (fun x hx => ?_) (by omega) (by omega) (by omega) (by omega) ?_ ?_ ?_).mono ?_
            · obtain ⟨hv0, hv1, hv2⟩ := HK.out.hc x hx
              exact ⟨hv0, by omega⟩
            · have := World.alloc_heap_new (ww.alloc (.deferred (some []))) rd
              rwa [hA1] at this
            · exact (Below.heap_alloc _ _ _ (by simp)).trans (World.alloc_heap_new ww _)
            · intro k x W hx hl hD
              exact hY () _ W ⟨x, _, _, rfl, HK.out.hr k x hx⟩ hl hD
            · rintro e W' ⟨rfl, ht⟩
              refine ⟨⟨_, rfl⟩, (((Turn.refl _ ww).alloc _).alloc _).trans ht, ?_, ?_⟩
              · refine ht.heap (k := ww.heap.size + 1) ?_ (by omega)
                have := World.alloc_heap_new (ww.alloc (.deferred (some []))) rd
                rwa [hA1] at this
              · refine ht.heap (k := ww.heap.size) ?_ (by omega)
                exact (Below.heap_alloc _ _ _ (by simp)).trans (World.alloc_heap_new ww _)
          case done =>
            rintro W rd ex hrd hex hJ hl hD
            simp only []
            have hTR : Turn (fun k => k = w2.heap.size) ww (W.putObj (ww.heap.size + 1) ex) := by
              have hlt := (Array.getElem?_eq_some_iff.1 hl).1
              exact ⟨hJ.os, hJ.tape, hJ.output, by simp; exact hJ.size, fun k hk hn => by rw [World.putObj_heap_other (by omega)]; exact hJ.block k hk hn⟩
            have hD' : (W.putObj (ww.heap.size + 1) ex).heap[ww.heap.size]? = some (.deferred (some [])) := (World.putObj_heap_other (by omega)).trans hD
            obtain ⟨wx, hwx⟩ : ∃ wx, W.putObj (ww.heap.size + 1) ex = wx := ⟨_, rfl⟩
            rw [hwx] at hTR hD' ⊢
            have hS := hRs.out.turn hTR (by omega)
            have hs0 : wx.cell? ⟨w.heap.size + 1, 0, none⟩ = some (.int .i64 0) := by rw [hS.cell]; rfl
            have hf0 := hS.frozen 0
            have hsl := hS.lt
            have HTR := Lib.hid hTR
            have HD := Lib.hid hD'
            clear hTR hD' hS hwx hJ hl hD
            go_wp2
            have hK : (wx.setCell ⟨w.heap.size + 1, 0, none⟩ (.int .i64 0)).heap[ww.heap.size]? = some (.deferred (some [])) := by
              rw [Below.heap_setCell _ _ _ _ (by simp; omega)]
              exact HD.out
            refine ⟨by simp, .inl ⟨_, _, rfl, run_takeDeferred hK, ?_⟩⟩
            have hR1 := (((hRs.out.turn HTR.out (by omega)).set 0 (.int .i64 0)).putObj (l := ww.heap.size) (by omega) (.deferred none))
            have hG1 : Grow w ((wx.setCell ⟨w.heap.size + 1, 0, none⟩ (.int .i64 0)).putObj ww.heap.size (.deferred none)) := by
              have h1 : Below w.heap.size w wx := hGw.out.trans (HTR.out.below (by omega) (by omega))
              have h2 := h1.setCell (p := ⟨w.heap.size + 1, 0, none⟩) (by simp) (.int .i64 0)
              exact ⟨h2.os, h2.tape, h2.output, by rw [World.putObj_size]; exact h2.size, fun k hk => by rw [World.putObj_heap_other (by omega)]; exact h2.block k hk⟩
            obtain ⟨wz, hwz⟩ : ∃ wz, (wx.setCell ⟨w.heap.size + 1, 0, none⟩ (.int .i64 0)).putObj ww.heap.size (.deferred none) = wz := ⟨_, rfl⟩
            rw [hwz] at hR1 hG1 ⊢
            have hz : wz.cell? ⟨w.heap.size + 1, 0, none⟩ = some (.int .i64 0) := by rw [hR1.cell]; rfl
            have hzl := hR1.lt
            refine ⟨.int .i64 0, ?_, rfl, hG1⟩
            clear hG1 hwz hK HTR HD
            simp [results, show Try.f45.results = #[.cell 2 27] from rfl, asAddr, go_sem, hz, hzl]
end Go.Proofs.Ytefdncpdlgakpaa
