import Derived.Test.YtefdncpdlgakpaaV
namespace Go.Proofs.Ytefdncpdlgakpaa
open Go.RowKit

/-! colours.asked, Seen, Back. -/
/-- the cell bo holds the own slice of the numbers ys -/
structure OutI (B bo : Nat) (W : World) (ys : List Int) (v : Value) : Prop where
  box : Blk W bo #[v] 43
  row : W.ownsRow B 3 1 v ys.length (ys.map (Value.int .i64))
  le : B ≤ bo

theorem OutI.grow {B bo : Nat} {W W' : World} {ys : List Int} {v : Value} (h : OutI B bo W ys v) (hg : Grow W W') : OutI B bo W' ys v := ⟨h.box.grow hg, own_grow h.row hg, h.le⟩
theorem OutI.size {B bo : Nat} {W : World} {ys : List Int} {v : Value} (h : OutI B bo W ys v) : B ≤ W.heap.size := Nat.le_trans h.le (Nat.le_of_lt h.box.lt)

set_option maxHeartbeats 1000000 in
theorem seen1_any (B bo : Nat) (i over under : Int) (ys : List Int) (v : Value) (w : World) (h : OutI B bo w ys v) (hn : ys.length ≤ 100000) :
    Calls Try.prog 33 #[.int .i64 i, .int .i64 over, .int .i64 under, .pointer (some ⟨bo, 0, none⟩)] w fun e w' =>
      e = .returned (.tuple #[]) ∧ (∃ v', OutI B bo w' (ys ++ [over]) v') ∧ Turn (fun k => k = bo ∨ v.ownBlock = some k) w w' := by
  obtain ⟨i0, hi0, hz0, hz1, hz2⟩ := info_parts Try.infoInt
  have H := Lib.hid h
  have hc : w.cell? ⟨bo, 0, none⟩ = some v := by rw [h.box.cell]; rfl
  have hf := h.box.frozen 0
  have hl := h.box.lt
  clear h
  go_enter Try.func33, Try.ntmps33
  go_wp2_with (at_builtin; refine wpList_app1 w rfl _ _ 43 rfl B 3 i0 (.int .i64 0) 1 8 Try.underlying43 hi0 hz0 hz1 hz2 rfl (by decide) v ys.length _ rfl H.out.row [.int .i64 over] rfl rfl (by simp [Value.oneCell']) (by unfold maxLen; omega) (by omega) H.out.size ?_; intro g4 cap4 w4 hown4 hgrow4; have hb5 := (H.out.box.alloc (.cells #[.int .i64 over] 3)).kept hgrow4 (fun e => H.out.box.not_row (by decide) H.out.row _ e.symm rfl); have hc5 : w4.cell? ⟨bo, 0, none⟩ = some v := (by rw [hb5.cell]; rfl); have hl5 := hb5.lt; have hf5 := hb5.frozen 0; have HB5 := Lib.hid hb5; have HO5 := Lib.hid hown4; have HG5 := Lib.hid hgrow4; clear hb5 hown4 hgrow4)
  go_end0
  have ht : Turn (fun k => k = bo ∨ v.ownBlock = some k) w (w4.setCell ⟨bo, 0, none⟩ (.slice (some ⟨g4, 0, none⟩) (ys.length + 1) cap4)) :=
    (((Turn.refl _ w).alloc _).trans (Turn.grown HG5.out (fun k e => .inr e.symm))).setCell (.inl rfl) _
  refine ⟨rfl, ⟨_, HB5.out.set 0 _, ?_, H.out.le⟩, ht⟩
  have ho := HO5.out
  rw [show (ys ++ [over]).length = ys.length + 1 by simp, List.map_append]
  exact own_turn ho ((Turn.refl (fun k => k = bo) w4).setCell rfl _) (fun k hk => HB5.out.not_row (by decide) ho k hk)

set_option maxHeartbeats 1000000 in
theorem back1_any (B bo : Nat) (i over under : Int) (ys : List Int) (v : Value) (w : World) (h : OutI B bo w ys v) (hn : ys.length ≤ 100000) :
    Calls Try.prog 34 #[.int .i64 i, .int .i64 over, .int .i64 under, .pointer (some ⟨bo, 0, none⟩)] w fun e w' =>
      e = .returned (.tuple #[]) ∧ (∃ v', OutI B bo w' (ys ++ [under]) v') ∧ Turn (fun k => k = bo ∨ v.ownBlock = some k) w w' := by
  obtain ⟨i0, hi0, hz0, hz1, hz2⟩ := info_parts Try.infoInt
  have H := Lib.hid h
  have hc : w.cell? ⟨bo, 0, none⟩ = some v := by rw [h.box.cell]; rfl
  have hf := h.box.frozen 0
  have hl := h.box.lt
  clear h
  go_enter Try.func34, Try.ntmps34
  go_wp2_with (at_builtin; refine wpList_app1 w rfl _ _ 43 rfl B 3 i0 (.int .i64 0) 1 8 Try.underlying43 hi0 hz0 hz1 hz2 rfl (by decide) v ys.length _ rfl H.out.row [.int .i64 under] rfl rfl (by simp [Value.oneCell']) (by unfold maxLen; omega) (by omega) H.out.size ?_; intro g4 cap4 w4 hown4 hgrow4; have hb5 := (H.out.box.alloc (.cells #[.int .i64 under] 3)).kept hgrow4 (fun e => H.out.box.not_row (by decide) H.out.row _ e.symm rfl); have hc5 : w4.cell? ⟨bo, 0, none⟩ = some v := (by rw [hb5.cell]; rfl); have hl5 := hb5.lt; have hf5 := hb5.frozen 0; have HB5 := Lib.hid hb5; have HO5 := Lib.hid hown4; have HG5 := Lib.hid hgrow4; clear hb5 hown4 hgrow4)
  go_end0
  have ht : Turn (fun k => k = bo ∨ v.ownBlock = some k) w (w4.setCell ⟨bo, 0, none⟩ (.slice (some ⟨g4, 0, none⟩) (ys.length + 1) cap4)) :=
    (((Turn.refl _ w).alloc _).trans (Turn.grown HG5.out (fun k e => .inr e.symm))).setCell (.inl rfl) _
  refine ⟨rfl, ⟨_, HB5.out.set 0 _, ?_, H.out.le⟩, ht⟩
  have ho := HO5.out
  rw [show (ys ++ [under]).length = ys.length + 1 by simp, List.map_append]
  exact own_turn ho ((Turn.refl (fun k => k = bo) w4).setCell rfl _) (fun k hk => HB5.out.not_row (by decide) ho k hk)

def selV {α : Type} (back : Bool) (over under : α) : α := if back then under else over
/-- the colours that are seen, crossing by crossing (from the back: the lower ones) -/
def seenL (back : Bool) (xs : List Int) (cr : List Q4) : List Int := cr.map fun x => selV back (xs.getD x.c.toNat 0) (xs.getD x.d.toNat 0)
theorem seenL_succ {back : Bool} {xs : List Int} {cr : List Q4} {k : Nat} {x : Q4} (hx : cr[k]? = some x) : seenL back xs (cr.take (k + 1)) = seenL back xs (cr.take k) ++ [selV back (xs.getD x.c.toNat 0) (xs.getD x.d.toNat 0)] := by
  unfold seenL
  rw [List.take_add_one, hx, List.map_append]
  rfl
theorem seenL_len {back : Bool} {xs : List Int} {cr : List Q4} : (seenL back xs cr).length = cr.length := by simp [seenL]
theorem ar_cell {k : IntKind} {w : World} {b o : Nat} {xs : List Int} (h : Ar (eI k) w (some ⟨b, o, none⟩) xs) {i : Nat} {y : Int} (hy : xs[i]? = some y) : w.cell? ⟨b, o + i, none⟩ = some (.int k y) := by
  obtain ⟨b', o', y', hy', hax, _, hc⟩ := h.int (List.getElem?_eq_some_iff.1 hy).1
  cases hax
  rw [hy] at hy'
  cases hy'
  exact hc
theorem okCl.pm {thr : Nat} {cr pins : List Q4} (h : okCl thr cr pins) : ∀ k, k ≤ cr.length → Pm thr (lineAt id48 cr k) := by
  intro k
  have h48 := h.t48
  have h2 := h.t2
  induction k with
  | zero => intro _; exact Pm.id (by omega)
  | succ k ih =>
    intro hk
    have hx := List.getElem?_eq_getElem (l := cr) (i := k) (by omega)
    obtain ⟨h0, h1, _⟩ := h.hc _ (List.mem_of_getElem? hx)
    rw [lineAt_succ hx]
    exact (ih (by omega)).swap (by omega)
theorem okCl.cd {thr : Nat} {cr pins : List Q4} (h : okCl thr cr pins) {k : Nat} {x : Q4} (hx : cr[k]? = some x) : ∃ c d : Nat, x.c = c ∧ x.d = d ∧ c < thr ∧ d < thr := by
  have hk := (List.getElem?_eq_some_iff.1 hx).1
  obtain ⟨h0, h1, _⟩ := h.hc _ (List.mem_of_getElem? hx)
  have hp := h.pm k (by omega)
  have e0 := hp.rng x.b.toNat (by omega)
  have e1 := hp.rng (x.b.toNat + 1) (by omega)
  rcases h.hr k x hx with ⟨a, b⟩ | ⟨a, b⟩
  · rw [a] at e0; rw [b] at e1
    exact ⟨x.c.toNat, x.d.toNat, by omega, by omega, by omega, by omega⟩
  · rw [a] at e0; rw [b] at e1
    exact ⟨x.c.toNat, x.d.toNat, by omega, by omega, by omega, by omega⟩
theorem OutI.below {B bo : Nat} {W w' : World} {ys : List Int} {v : Value} (h : OutI B bo W ys v) (ht : Turn (fun k => k = bo ∨ v.ownBlock = some k) W w') : Below B W w' :=
  ht.below h.size (fun k e => by
    rcases e with rfl | e
    · exact h.le
    · exact (h.row.lt k e).1)
theorem OutI.blk {B bo k : Nat} {W w' : World} {ys : List Int} {v : Value} {cs : Array Value} {T : TypeId} (h : OutI B bo W ys v) (ht : Turn (fun k => k = bo ∨ v.ownBlock = some k) W w') (hb : Blk W k cs T) (h1 : T ≠ 43) (h2 : T ≠ 3) : Blk w' k cs T :=
  hb.turn ht (fun e => by
    rcases e with rfl | e
    · have := hb.symm.trans h.box
      simp at this
      exact h1 this.2
    · exact hb.not_row h2 h.row k e rfl)

set_option maxRecDepth 100000 in
set_option maxHeartbeats 1000000 in
theorem askedSeen_any (bo : Nat) (w0 : World) (thr : Nat) (a a2 a3 : Option Addr) (cap cap2 cap3 : Nat) (cr pins : List Q4) (xs : List Int) (v : Value) (w : World)
    (ha : Ar eQ w0 a cr) (ha2 : Ar eQ w0 a2 pins) (hok : okCl thr cr pins) (h : Ar (eI .i64) w0 a3 xs) (hx : xs.length = thr) (hr : ∀ x ∈ xs, 0 ≤ x ∧ x < 16)
    (hw : Below w0.heap.size w0 w) (hv : OutI w0.heap.size bo w [] v) :
    Calls Try.prog 32 #[.agg #[.int .i64 thr, .slice a cr.length cap, .slice a2 pins.length cap2], .slice a3 thr cap3, .func (.func 33) #[] #[.pointer (some ⟨bo, 0, none⟩)]] w fun e w' =>
      e = .returned (.int .i64 0) ∧ (∃ v', OutI w0.heap.size bo w' (seenL false xs cr) v') ∧ Below w0.heap.size w0 w' := by
  have h48 := hok.t48
  have h2 := hok.t2
  have hnc := hok.nc
  have hww := hw.size
  have HC := Lib.hid (fun o => coCheck_ok thr a a2 a3 cap cap2 cap3 cr pins xs (w.alloc o) ((ha.grow hw).alloc o) ((ha2.grow hw).alloc o) hok ((h.grow hw).alloc o) hx hr)
  have HA := Lib.hid ha
  have HX := Lib.hid h
  have HK := Lib.hid hok
  have HL := Lib.hid hx
  have HW := Lib.hid hw
  have HV := Lib.hid hv
  clear ha ha2 hok h hr hx hw hv
  go_enter Try.func32, Try.ntmps32
  go_wp2_with fail
  refine (HC.out _).mono ?_
  rintro e w1 ⟨rfl, hg1⟩
  have B1 := (Blk.new w #[.int .i64 thr, .slice a cr.length cap, .slice a2 pins.length cap2] 32).grow hg1
  have hs1 : w1.cell? ⟨w.heap.size, 1, none⟩ = some (.slice a cr.length cap) := by rw [B1.cell]; rfl
  have hsl := B1.lt
  have hG1 : Grow w w1 := (((Below.refl w.heap.size w).alloc (Nat.le_refl _) (Obj.cells #[.int .i64 thr, .slice a cr.length cap, .slice a2 pins.length cap2] 32)).trans (hg1.mono (by simp)))
  have HV1 := Lib.hid (HV.out.grow hG1)
  have HW1 := Lib.hid (HW.out.trans (hG1.mono hww))
  have HB := Lib.hid B1
  clear hg1 B1 HC hG1
  go_wp2
  clear hs1 hsl
  go_loopw [19] (fun i wr => ∃ k : Nat, k ≤ cr.length ∧ i = .int .i64 k ∧ Hid (∃ v', OutI w0.heap.size bo wr (seenL false xs (cr.take k)) v') ∧ Hid (Blk wr w.heap.size #[.int .i64 thr, .slice a cr.length cap, .slice a2 pins.length cap2] 32) ∧ Hid (Below w0.heap.size w0 wr)) (fun i _ => cr.length - (intOf i).toNat)
  case atStart => exact ⟨0, Nat.zero_le _, rfl, ⟨_, HV1.out⟩, HB.out, HW1.out⟩
  case round =>
    clear HB HV1 HW1
    obtain ⟨k, hk, rfl, hv, hb, hg⟩ := hrel
    obtain ⟨v', hv'⟩ := hv.out
    by_cases hlt : k < cr.length
    · obtain ⟨b, o, x, hx, rfl, hbb, hx0, hx1, hx2, hx3⟩ := (Ar.q4 (HA.out.grow hg.out) hlt)
      have hs1 : wr.cell? ⟨w.heap.size, 1, none⟩ = some (.slice (some ⟨b, o, none⟩) cr.length cap) := by rw [hb.out.cell]; rfl
      have hsl := hb.out.lt
      have HXX := Lib.hid hx
      have HVV := Lib.hid hv'
      have hseen := seenL_succ (back := false) (xs := xs) hx
      obtain ⟨c, d, hc, hd, hct, hdt⟩ := HK.out.cd hx
      rw [hc] at hx2 hseen
      rw [hd] at hx3 hseen
      rw [Int.toNat_natCast] at hseen
      rw [Int.toNat_natCast] at hseen
      have hwg := hg.out.size
      have HG2 := Lib.hid (hg.out.alloc hwg (.cells #[.int .i64 x.a, .int .i64 x.b, .int .i64 c, .int .i64 d] 65))
      have HX2 := Blk.new wr #[.int .i64 x.a, .int .i64 x.b, .int .i64 c, .int .i64 d] 65
      have HV2 := HVV.out.grow ((Below.refl wr.heap.size wr).alloc (Nat.le_refl _) (.cells #[.int .i64 x.a, .int .i64 x.b, .int .i64 c, .int .i64 d] 65))
      obtain ⟨bx, ox, y, hy, hax, hbx, hcy⟩ := (HX.out.grow HG2.out).int (i := c) (by rw [HL.out]; omega)
      obtain ⟨bz, oz, z, hz, haz, hbz, hcz⟩ := (HX.out.grow HG2.out).int (i := d) (by rw [HL.out]; omega)
      rw [List.getD_eq_getElem?_getD, List.getD_eq_getElem?_getD, hy, hz] at hseen
      simp only [Option.getD_some] at hseen
      have HSE := Lib.hid hseen
      have HB2 := Lib.hid (hb.out.alloc (.cells #[.int .i64 x.a, .int .i64 x.b, .int .i64 c, .int .i64 d] 65))
      subst hax
      cases haz
      have HY := Lib.hid hy
      have HZ := Lib.hid hz
      clear hv hx hv' hy hz hseen hb hg
      go_wp2_with fail
      obtain ⟨gx, hgx⟩ : ∃ gx, gx = wr.heap.size := ⟨_, rfl⟩
      rw [← hgx] at HX2 ⊢
      obtain ⟨wx, hwx⟩ : ∃ wx, wx = (wr.alloc (.cells #[.int .i64 x.a, .int .i64 x.b, .int .i64 c, .int .i64 d] 65)) := ⟨_, rfl⟩
      rw [← hwx] at hbx hcy hbz hcz HG2 HX2 HV2 HB2 ⊢
      have hxc : wx.cell? ⟨gx, 2, none⟩ = some (.int .i64 c) := by rw [HX2.cell]; rfl
      have hxd : wx.cell? ⟨gx, 3, none⟩ = some (.int .i64 d) := by rw [HX2.cell]; rfl
      have HXB := Lib.hid HX2
      have HVB := Lib.hid HV2
      have HLE := Lib.hid (HX.out.lies)
      clear hx0 hx1 hs1 hsl hx2 hx3 hgx hwx HX2 HV2 hbb hwg hc hd
      refine wp_region_any (by kernel_rfl) ?_
      refine wpAny_of_held (S := fun w' => w'.cell? ⟨gx, 2, none⟩ = some (.int .i64 c) ∧ w'.cell? ⟨gx, 3, none⟩ = some (.int .i64 d) ∧ w'.cell? ⟨bx, ox + c, none⟩ = some (.int .i64 y) ∧ w'.cell? ⟨bx, ox + d, none⟩ = some (.int .i64 z)) _ _ _ _ ?_
      have hS0 : (fun w' : World => w'.cell? ⟨gx, 2, none⟩ = some (.int .i64 c) ∧ w'.cell? ⟨gx, 3, none⟩ = some (.int .i64 d) ∧ w'.cell? ⟨bx, ox + c, none⟩ = some (.int .i64 y) ∧ w'.cell? ⟨bx, ox + d, none⟩ = some (.int .i64 z)) wx.drew := ⟨hxc, hxd, hcy, hcz⟩
      refine wpAnyH_take (i := 0) (v := ?tv0) rfl (by kernel_rfl) (by kernel_rfl) (by kernel_rfl) (fun _ _ _ h => h) (Or.inl ⟨by rfl, ?th0⟩) (by assumption) ?tr0
      case th0 => (intro w hSw; (try dsimp only at hSw); go_split_ands; go_simp; (try with_reducible rfl))
      simp only [Act.put, List.setIfInBounds_toArray, List.set_cons_zero, List.set_cons_succ]
      refine wpAnyH_take (i := 1) (v := ?tv1) rfl (by kernel_rfl) (by kernel_rfl) (by kernel_rfl) (fun _ _ _ h => h) (Or.inl ⟨by rfl, ?th1⟩) (by assumption) ?tr1
      case th1 => (intro w hSw; (try dsimp only at hSw); go_split_ands; go_simp; (try with_reducible rfl))
      simp only [Act.put, List.setIfInBounds_toArray, List.set_cons_zero, List.set_cons_succ]
      refine wpAnyH_take (i := 2) (v := ?tv2) rfl (by kernel_rfl) (by kernel_rfl) (by kernel_rfl) (fun _ _ _ h => h) (Or.inl ⟨by rfl, ?th2⟩) (by assumption) ?tr2
      case th2 => (intro w hSw; (try dsimp only at hSw); go_split_ands; go_simp; (try with_reducible rfl))
      simp only [Act.put, List.setIfInBounds_toArray, List.set_cons_zero, List.set_cons_succ]
      refine wpAnyH_take (i := 3) (v := ?tv3) rfl (by kernel_rfl) (by kernel_rfl) (by kernel_rfl) (fun _ _ _ h => h) (Or.inl ⟨by rfl, ?th3⟩) (by assumption) ?tr3
      case th3 => (intro w hSw; (try dsimp only at hSw); go_split_ands; go_simp; (try with_reducible rfl))
      simp only [Act.put, List.setIfInBounds_toArray, List.set_cons_zero, List.set_cons_succ]
      refine wpAnyH_take (i := 4) (v := ?tv4) rfl (by kernel_rfl) (by kernel_rfl) (by kernel_rfl) (fun _ _ _ h => h) (Or.inl ⟨by rfl, ?th4⟩) (by assumption) ?tr4
      case th4 => (intro w hSw; (try dsimp only at hSw); go_split_ands; go_simp; (try with_reducible rfl))
      simp only [Act.put, List.setIfInBounds_toArray, List.set_cons_zero, List.set_cons_succ]
      refine wpAnyH_take (i := 5) (v := ?tv5) rfl (by kernel_rfl) (by kernel_rfl) (by kernel_rfl) (fun _ _ _ h => h) (Or.inl ⟨by rfl, ?th5⟩) (by assumption) ?tr5
      case th5 => (intro w hSw; (try dsimp only at hSw); go_split_ands; go_simp; (try with_reducible rfl))
      simp only [Act.put, List.setIfInBounds_toArray, List.set_cons_zero, List.set_cons_succ]
      refine wpAnyH_take (i := 6) (v := ?tv6) rfl (by kernel_rfl) (by kernel_rfl) (by kernel_rfl) (fun _ _ _ h => h) (Or.inl ⟨by rfl, ?th6⟩) (by assumption) ?tr6
      case th6 => (intro w hSw; (try dsimp only at hSw); go_split_ands; go_simp; (try with_reducible rfl))
      simp only [Act.put, List.setIfInBounds_toArray, List.set_cons_zero, List.set_cons_succ]
      refine wpAnyH_take (i := 7) (v := ?tv7) rfl (by kernel_rfl) (by kernel_rfl) (by kernel_rfl) (fun _ _ _ h => h) (Or.inl ⟨by rfl, ?th7⟩) (by assumption) ?tr7
      case th7 => (intro w hSw; (try dsimp only at hSw); go_split_ands; go_simp; (try with_reducible rfl))
      simp only [Act.put, List.setIfInBounds_toArray, List.set_cons_zero, List.set_cons_succ]
      refine wpAnyH_take (i := 8) (v := ?tv8) rfl (by kernel_rfl) (by kernel_rfl) (by kernel_rfl) (fun _ _ _ h => h) (Or.inl ⟨by rfl, ?th8⟩) (by assumption) ?tr8
      case th8 => (intro w hSw; (try dsimp only at hSw); go_split_ands; go_simp; (try with_reducible rfl))
      simp only [Act.put, List.setIfInBounds_toArray, List.set_cons_zero, List.set_cons_succ]
      refine wpAnyH_take (i := 9) (v := ?tv9) rfl (by kernel_rfl) (by kernel_rfl) (by kernel_rfl) (fun _ _ _ h => h) (Or.inl ⟨by rfl, ?th9⟩) (by assumption) ?tr9
      case th9 => (intro w hSw; (try dsimp only at hSw); go_split_ands; go_simp; (try with_reducible rfl))
      simp only [Act.put, List.setIfInBounds_toArray, List.set_cons_zero, List.set_cons_succ]
      refine wpAnyH_take (i := 10) (v := ?tv10) rfl (by kernel_rfl) (by kernel_rfl) (by kernel_rfl) (fun _ _ _ h => h) (Or.inl ⟨by rfl, ?th10⟩) (by assumption) ?tr10
      case th10 => (intro w hSw; (try dsimp only at hSw); go_split_ands; go_simp; (try with_reducible rfl))
      simp only [Act.put, List.setIfInBounds_toArray, List.set_cons_zero, List.set_cons_succ]
      refine wpAnyH_take (i := 11) (v := ?tv11) rfl (by kernel_rfl) (by kernel_rfl) (by kernel_rfl) (fun _ _ _ h => h) (Or.inl ⟨by rfl, ?th11⟩) (by assumption) ?tr11
      case th11 => (intro w hSw; (try dsimp only at hSw); go_split_ands; go_simp; (try with_reducible rfl))
      simp only [Act.put, List.setIfInBounds_toArray, List.set_cons_zero, List.set_cons_succ]
      refine wpAnyH_ready (rs := [12]) (by kernel_rfl) (by simp) (AllReadyH.cons rfl (fun K12 hK12 => ?_) AllReadyH.nil)
      go_simp
      refine (seen1_any _ _ _ _ _ _ _ _ (HVB.out.grow (Below.refl _ _).drew) (by rw [seenL_len, List.length_take]; omega)).mono ?_
      rintro e w5 ⟨rfl, ⟨v5, hv5⟩, ht5⟩
      have hv3 := HVB.out.grow (Below.refl wx.heap.size wx).drew
      have HX5 := hv3.blk ht5 HXB.out.drew (by decide) (by decide)
      have HB5 := Lib.hid (hv3.blk ht5 HB2.out.drew (by decide) (by decide))
      have HG5 := Lib.hid (HG2.out.drew.trans (hv3.below ht5))
      have hse := HSE.out
      simp only [selV, Bool.false_eq_true, if_true, if_false] at hse
      rw [← hse] at hv5
      have HV5 := Lib.hid hv5
      refine hK12.out _ _ ?_ (fun hS1 => ?_)
      · refine ⟨?_, ?_, ?_, ?_⟩
        · rw [HX5.cell]; rfl
        · rw [HX5.cell]; rfl
        · exact ar_cell (HX.out.grow HG5.out) HY.out
        · exact ar_cell (HX.out.grow HG5.out) HZ.out
      clear hK12 K12 hS0 hv5 hv3 HX5 ht5 hS1
      refine wpAnyH_done (by kernel_rfl) ?_ _
      clear hxc hxd hcy hcz hbx hbz
      go_wp2
      go_roundw
      case rel => exact ⟨k + 1, by omega, by go_num, ⟨v5, HV5.out⟩, HB5.out, HG5.out⟩
      case measure => simp [intOf]; omega
    · have hk' : k = cr.length := by omega
      subst hk'
      have hv2 := hv'
      rw [List.take_length] at hv2
      have HV2 := Lib.hid hv2
      clear hv2 hv' hv
      go_wp2
      go_ret
      exact ⟨rfl, ⟨_, HV2.out⟩, hg.out⟩
set_option maxRecDepth 100000 in
set_option maxHeartbeats 1000000 in
theorem askedBack_any (bo : Nat) (w0 : World) (thr : Nat) (a a2 a3 : Option Addr) (cap cap2 cap3 : Nat) (cr pins : List Q4) (xs : List Int) (v : Value) (w : World)
    (ha : Ar eQ w0 a cr) (ha2 : Ar eQ w0 a2 pins) (hok : okCl thr cr pins) (h : Ar (eI .i64) w0 a3 xs) (hx : xs.length = thr) (hr : ∀ x ∈ xs, 0 ≤ x ∧ x < 16)
    (hw : Below w0.heap.size w0 w) (hv : OutI w0.heap.size bo w [] v) :
    Calls Try.prog 32 #[.agg #[.int .i64 thr, .slice a cr.length cap, .slice a2 pins.length cap2], .slice a3 thr cap3, .func (.func 34) #[] #[.pointer (some ⟨bo, 0, none⟩)]] w fun e w' =>
      e = .returned (.int .i64 0) ∧ (∃ v', OutI w0.heap.size bo w' (seenL true xs cr) v') ∧ Below w0.heap.size w0 w' := by
  have h48 := hok.t48
  have h2 := hok.t2
  have hnc := hok.nc
  have hww := hw.size
  have HC := Lib.hid (fun o => coCheck_ok thr a a2 a3 cap cap2 cap3 cr pins xs (w.alloc o) ((ha.grow hw).alloc o) ((ha2.grow hw).alloc o) hok ((h.grow hw).alloc o) hx hr)
  have HA := Lib.hid ha
  have HX := Lib.hid h
  have HK := Lib.hid hok
  have HL := Lib.hid hx
  have HW := Lib.hid hw
  have HV := Lib.hid hv
  clear ha ha2 hok h hr hx hw hv
  go_enter Try.func32, Try.ntmps32
  go_wp2_with fail
  refine (HC.out _).mono ?_
  rintro e w1 ⟨rfl, hg1⟩
  have B1 := (Blk.new w #[.int .i64 thr, .slice a cr.length cap, .slice a2 pins.length cap2] 32).grow hg1
  have hs1 : w1.cell? ⟨w.heap.size, 1, none⟩ = some (.slice a cr.length cap) := by rw [B1.cell]; rfl
  have hsl := B1.lt
  have hG1 : Grow w w1 := (((Below.refl w.heap.size w).alloc (Nat.le_refl _) (Obj.cells #[.int .i64 thr, .slice a cr.length cap, .slice a2 pins.length cap2] 32)).trans (hg1.mono (by simp)))
  have HV1 := Lib.hid (HV.out.grow hG1)
  have HW1 := Lib.hid (HW.out.trans (hG1.mono hww))
  have HB := Lib.hid B1
  clear hg1 B1 HC hG1
  go_wp2
  clear hs1 hsl
  go_loopw [19] (fun i wr => ∃ k : Nat, k ≤ cr.length ∧ i = .int .i64 k ∧ Hid (∃ v', OutI w0.heap.size bo wr (seenL true xs (cr.take k)) v') ∧ Hid (Blk wr w.heap.size #[.int .i64 thr, .slice a cr.length cap, .slice a2 pins.length cap2] 32) ∧ Hid (Below w0.heap.size w0 wr)) (fun i _ => cr.length - (intOf i).toNat)
  case atStart => exact ⟨0, Nat.zero_le _, rfl, ⟨_, HV1.out⟩, HB.out, HW1.out⟩
  case round =>
    clear HB HV1 HW1
    obtain ⟨k, hk, rfl, hv, hb, hg⟩ := hrel
    obtain ⟨v', hv'⟩ := hv.out
    by_cases hlt : k < cr.length
    · obtain ⟨b, o, x, hx, rfl, hbb, hx0, hx1, hx2, hx3⟩ := (Ar.q4 (HA.out.grow hg.out) hlt)
      have hs1 : wr.cell? ⟨w.heap.size, 1, none⟩ = some (.slice (some ⟨b, o, none⟩) cr.length cap) := by rw [hb.out.cell]; rfl
      have hsl := hb.out.lt
      have HXX := Lib.hid hx
      have HVV := Lib.hid hv'
      have hseen := seenL_succ (back := true) (xs := xs) hx
      obtain ⟨c, d, hc, hd, hct, hdt⟩ := HK.out.cd hx
      rw [hc] at hx2 hseen
      rw [hd] at hx3 hseen
      rw [Int.toNat_natCast] at hseen
      rw [Int.toNat_natCast] at hseen
      have hwg := hg.out.size
      have HG2 := Lib.hid (hg.out.alloc hwg (.cells #[.int .i64 x.a, .int .i64 x.b, .int .i64 c, .int .i64 d] 65))
      have HX2 := Blk.new wr #[.int .i64 x.a, .int .i64 x.b, .int .i64 c, .int .i64 d] 65
      have HV2 := HVV.out.grow ((Below.refl wr.heap.size wr).alloc (Nat.le_refl _) (.cells #[.int .i64 x.a, .int .i64 x.b, .int .i64 c, .int .i64 d] 65))
      obtain ⟨bx, ox, y, hy, hax, hbx, hcy⟩ := (HX.out.grow HG2.out).int (i := c) (by rw [HL.out]; omega)
      obtain ⟨bz, oz, z, hz, haz, hbz, hcz⟩ := (HX.out.grow HG2.out).int (i := d) (by rw [HL.out]; omega)
      rw [List.getD_eq_getElem?_getD, List.getD_eq_getElem?_getD, hy, hz] at hseen
      simp only [Option.getD_some] at hseen
      have HSE := Lib.hid hseen
      have HB2 := Lib.hid (hb.out.alloc (.cells #[.int .i64 x.a, .int .i64 x.b, .int .i64 c, .int .i64 d] 65))
      subst hax
      cases haz
      have HY := Lib.hid hy
      have HZ := Lib.hid hz
      clear hv hx hv' hy hz hseen hb hg
      go_wp2_with fail
      obtain ⟨gx, hgx⟩ : ∃ gx, gx = wr.heap.size := ⟨_, rfl⟩
      rw [← hgx] at HX2 ⊢
      obtain ⟨wx, hwx⟩ : ∃ wx, wx = (wr.alloc (.cells #[.int .i64 x.a, .int .i64 x.b, .int .i64 c, .int .i64 d] 65)) := ⟨_, rfl⟩
      rw [← hwx] at hbx hcy hbz hcz HG2 HX2 HV2 HB2 ⊢
      have hxc : wx.cell? ⟨gx, 2, none⟩ = some (.int .i64 c) := by rw [HX2.cell]; rfl
      have hxd : wx.cell? ⟨gx, 3, none⟩ = some (.int .i64 d) := by rw [HX2.cell]; rfl
      have HXB := Lib.hid HX2
      have HVB := Lib.hid HV2
      have HLE := Lib.hid (HX.out.lies)
      clear hx0 hx1 hs1 hsl hx2 hx3 hgx hwx HX2 HV2 hbb hwg hc hd
      refine wp_region_any (by kernel_rfl) ?_
      refine wpAny_of_held (S := fun w' => w'.cell? ⟨gx, 2, none⟩ = some (.int .i64 c) ∧ w'.cell? ⟨gx, 3, none⟩ = some (.int .i64 d) ∧ w'.cell? ⟨bx, ox + c, none⟩ = some (.int .i64 y) ∧ w'.cell? ⟨bx, ox + d, none⟩ = some (.int .i64 z)) _ _ _ _ ?_
      have hS0 : (fun w' : World => w'.cell? ⟨gx, 2, none⟩ = some (.int .i64 c) ∧ w'.cell? ⟨gx, 3, none⟩ = some (.int .i64 d) ∧ w'.cell? ⟨bx, ox + c, none⟩ = some (.int .i64 y) ∧ w'.cell? ⟨bx, ox + d, none⟩ = some (.int .i64 z)) wx.drew := ⟨hxc, hxd, hcy, hcz⟩
      refine wpAnyH_take (i := 0) (v := ?tv0) rfl (by kernel_rfl) (by kernel_rfl) (by kernel_rfl) (fun _ _ _ h => h) (Or.inl ⟨by rfl, ?th0⟩) (by assumption) ?tr0
      case th0 => (intro w hSw; (try dsimp only at hSw); go_split_ands; go_simp; (try with_reducible rfl))
      simp only [Act.put, List.setIfInBounds_toArray, List.set_cons_zero, List.set_cons_succ]
      refine wpAnyH_take (i := 1) (v := ?tv1) rfl (by kernel_rfl) (by kernel_rfl) (by kernel_rfl) (fun _ _ _ h => h) (Or.inl ⟨by rfl, ?th1⟩) (by assumption) ?tr1
      case th1 => (intro w hSw; (try dsimp only at hSw); go_split_ands; go_simp; (try with_reducible rfl))
      simp only [Act.put, List.setIfInBounds_toArray, List.set_cons_zero, List.set_cons_succ]
      refine wpAnyH_take (i := 2) (v := ?tv2) rfl (by kernel_rfl) (by kernel_rfl) (by kernel_rfl) (fun _ _ _ h => h) (Or.inl ⟨by rfl, ?th2⟩) (by assumption) ?tr2
      case th2 => (intro w hSw; (try dsimp only at hSw); go_split_ands; go_simp; (try with_reducible rfl))
      simp only [Act.put, List.setIfInBounds_toArray, List.set_cons_zero, List.set_cons_succ]
      refine wpAnyH_take (i := 3) (v := ?tv3) rfl (by kernel_rfl) (by kernel_rfl) (by kernel_rfl) (fun _ _ _ h => h) (Or.inl ⟨by rfl, ?th3⟩) (by assumption) ?tr3
      case th3 => (intro w hSw; (try dsimp only at hSw); go_split_ands; go_simp; (try with_reducible rfl))
      simp only [Act.put, List.setIfInBounds_toArray, List.set_cons_zero, List.set_cons_succ]
      refine wpAnyH_take (i := 4) (v := ?tv4) rfl (by kernel_rfl) (by kernel_rfl) (by kernel_rfl) (fun _ _ _ h => h) (Or.inl ⟨by rfl, ?th4⟩) (by assumption) ?tr4
      case th4 => (intro w hSw; (try dsimp only at hSw); go_split_ands; go_simp; (try with_reducible rfl))
      simp only [Act.put, List.setIfInBounds_toArray, List.set_cons_zero, List.set_cons_succ]
      refine wpAnyH_take (i := 5) (v := ?tv5) rfl (by kernel_rfl) (by kernel_rfl) (by kernel_rfl) (fun _ _ _ h => h) (Or.inl ⟨by rfl, ?th5⟩) (by assumption) ?tr5
      case th5 => (intro w hSw; (try dsimp only at hSw); go_split_ands; go_simp; (try with_reducible rfl))
      simp only [Act.put, List.setIfInBounds_toArray, List.set_cons_zero, List.set_cons_succ]
      refine wpAnyH_take (i := 6) (v := ?tv6) rfl (by kernel_rfl) (by kernel_rfl) (by kernel_rfl) (fun _ _ _ h => h) (Or.inl ⟨by rfl, ?th6⟩) (by assumption) ?tr6
      case th6 => (intro w hSw; (try dsimp only at hSw); go_split_ands; go_simp; (try with_reducible rfl))
      simp only [Act.put, List.setIfInBounds_toArray, List.set_cons_zero, List.set_cons_succ]
      refine wpAnyH_take (i := 7) (v := ?tv7) rfl (by kernel_rfl) (by kernel_rfl) (by kernel_rfl) (fun _ _ _ h => h) (Or.inl ⟨by rfl, ?th7⟩) (by assumption) ?tr7
      case th7 => (intro w hSw; (try dsimp only at hSw); go_split_ands; go_simp; (try with_reducible rfl))
      simp only [Act.put, List.setIfInBounds_toArray, List.set_cons_zero, List.set_cons_succ]
      refine wpAnyH_take (i := 8) (v := ?tv8) rfl (by kernel_rfl) (by kernel_rfl) (by kernel_rfl) (fun _ _ _ h => h) (Or.inl ⟨by rfl, ?th8⟩) (by assumption) ?tr8
      case th8 => (intro w hSw; (try dsimp only at hSw); go_split_ands; go_simp; (try with_reducible rfl))
      simp only [Act.put, List.setIfInBounds_toArray, List.set_cons_zero, List.set_cons_succ]
      refine wpAnyH_take (i := 9) (v := ?tv9) rfl (by kernel_rfl) (by kernel_rfl) (by kernel_rfl) (fun _ _ _ h => h) (Or.inl ⟨by rfl, ?th9⟩) (by assumption) ?tr9
      case th9 => (intro w hSw; (try dsimp only at hSw); go_split_ands; go_simp; (try with_reducible rfl))
      simp only [Act.put, List.setIfInBounds_toArray, List.set_cons_zero, List.set_cons_succ]
      refine wpAnyH_take (i := 10) (v := ?tv10) rfl (by kernel_rfl) (by kernel_rfl) (by kernel_rfl) (fun _ _ _ h => h) (Or.inl ⟨by rfl, ?th10⟩) (by assumption) ?tr10
      case th10 => (intro w hSw; (try dsimp only at hSw); go_split_ands; go_simp; (try with_reducible rfl))
      simp only [Act.put, List.setIfInBounds_toArray, List.set_cons_zero, List.set_cons_succ]
      refine wpAnyH_take (i := 11) (v := ?tv11) rfl (by kernel_rfl) (by kernel_rfl) (by kernel_rfl) (fun _ _ _ h => h) (Or.inl ⟨by rfl, ?th11⟩) (by assumption) ?tr11
      case th11 => (intro w hSw; (try dsimp only at hSw); go_split_ands; go_simp; (try with_reducible rfl))
      simp only [Act.put, List.setIfInBounds_toArray, List.set_cons_zero, List.set_cons_succ]
      refine wpAnyH_ready (rs := [12]) (by kernel_rfl) (by simp) (AllReadyH.cons rfl (fun K12 hK12 => ?_) AllReadyH.nil)
      go_simp
      refine (back1_any _ _ _ _ _ _ _ _ (HVB.out.grow (Below.refl _ _).drew) (by rw [seenL_len, List.length_take]; omega)).mono ?_
      rintro e w5 ⟨rfl, ⟨v5, hv5⟩, ht5⟩
      have hv3 := HVB.out.grow (Below.refl wx.heap.size wx).drew
      have HX5 := hv3.blk ht5 HXB.out.drew (by decide) (by decide)
      have HB5 := Lib.hid (hv3.blk ht5 HB2.out.drew (by decide) (by decide))
      have HG5 := Lib.hid (HG2.out.drew.trans (hv3.below ht5))
      have hse := HSE.out
      simp only [selV, Bool.false_eq_true, if_true, if_false] at hse
      rw [← hse] at hv5
      have HV5 := Lib.hid hv5
      refine hK12.out _ _ ?_ (fun hS1 => ?_)
      · refine ⟨?_, ?_, ?_, ?_⟩
        · rw [HX5.cell]; rfl
        · rw [HX5.cell]; rfl
        · exact ar_cell (HX.out.grow HG5.out) HY.out
        · exact ar_cell (HX.out.grow HG5.out) HZ.out
      clear hK12 K12 hS0 hv5 hv3 HX5 ht5 hS1
      refine wpAnyH_done (by kernel_rfl) ?_ _
      clear hxc hxd hcy hcz hbx hbz
      go_wp2
      go_roundw
      case rel => exact ⟨k + 1, by omega, by go_num, ⟨v5, HV5.out⟩, HB5.out, HG5.out⟩
      case measure => simp [intOf]; omega
    · have hk' : k = cr.length := by omega
      subst hk'
      have hv2 := hv'
      rw [List.take_length] at hv2
      have HV2 := Lib.hid hv2
      clear hv2 hv' hv
      go_wp2
      go_ret
      exact ⟨rfl, ⟨_, HV2.out⟩, hg.out⟩

set_option maxHeartbeats 1000000 in
theorem Seen_any (thr : Nat) (a a2 a3 : Option Addr) (cap cap2 cap3 : Nat) (cr pins : List Q4) (xs : List Int) (w : World) (ha : Ar eQ w a cr) (ha2 : Ar eQ w a2 pins) (hok : okCl thr cr pins)
    (h : Ar (eI .i64) w a3 xs) (hx : xs.length = thr) (hr : ∀ x ∈ xs, 0 ≤ x ∧ x < 16) :
    Calls Try.prog 15 #[.agg #[.int .i64 thr, .slice a cr.length cap, .slice a2 pins.length cap2], .slice a3 thr cap3] w fun e w' =>
      (∃ v, e = .returned (.tuple #[v, .int .i64 0]) ∧ w'.ownsRow w.heap.size 3 1 v (seenL false xs cr).length ((seenL false xs cr).map (Value.int .i64))) ∧ Grow w w' := by
  have HC := Lib.hid (fun (bo : Nat) (v : Value) (w1 : World) => askedSeen_any bo w thr a a2 a3 cap cap2 cap3 cr pins xs v w1 ha ha2 hok h hx hr)
  clear ha ha2 hok h hr hx
  go_enter Try.func15, Try.ntmps15
  go_wp2_with fail
  refine (HC.out _ (.slice none 0 0) _ ?_ ?_).mono ?_
  · exact ((Below.refl _ _).alloc (Nat.le_refl _) _).alloc (by simp) _
  · refine ⟨Blk.new' _ _ _ _ (by simp), World.ownsRow_nil _ _ _ _, by simp⟩
  rintro e w1 ⟨rfl, ⟨v, hv⟩, hg⟩
  obtain ⟨aV, cV, rfl, _, _, _⟩ := own_arr hv.row
  have hc : w1.cell? ⟨w.heap.size + 1, 0, none⟩ = some (.slice aV (seenL false xs cr).length cV) := by rw [hv.box.cell]; rfl
  have hl := hv.box.lt
  have hf := hv.box.frozen 0
  have HV := Lib.hid hv
  have HG := Lib.hid hg
  clear hv hg HC
  go_wp2
  have hb2 := HV.out.box.set 0 (.slice aV (seenL false xs cr).length cV)
  have hz : (w1.setCell ⟨w.heap.size + 1, 0, none⟩ (.slice aV (seenL false xs cr).length cV)).cell? ⟨w.heap.size + 1, 0, none⟩ = some (.slice aV (seenL false xs cr).length cV) := by rw [hb2.cell]; rfl
  have hzl := hb2.lt
  have hr := (own_turn HV.out.row ((Turn.refl (fun k => k = w.heap.size + 1) w1).setCell rfl (i := 0) (.slice aV (seenL false xs cr).length cV)) (fun k hk => HV.out.box.not_row (by decide) HV.out.row k hk))
  have hg := HG.out.setCell (p := ⟨w.heap.size + 1, 0, none⟩) (Nat.le_succ _) (.slice aV (seenL false xs cr).length cV)
  refine bodyPost_ret (v := .tuple #[.slice aV (seenL false xs cr).length cV, .int .i64 0]) ?_ rfl ?_
  · simp [results, show Try.func15.results = #[.cell 4 43, .tmp 5] from rfl, asAddr, go_sem, hz, hzl]
  · exact ⟨⟨_, rfl, hr⟩, hg⟩

set_option maxHeartbeats 1000000 in
theorem Back_any (thr : Nat) (a a2 a3 : Option Addr) (cap cap2 cap3 : Nat) (cr pins : List Q4) (xs : List Int) (w : World) (ha : Ar eQ w a cr) (ha2 : Ar eQ w a2 pins) (hok : okCl thr cr pins)
    (h : Ar (eI .i64) w a3 xs) (hx : xs.length = thr) (hr : ∀ x ∈ xs, 0 ≤ x ∧ x < 16) :
    Calls Try.prog 16 #[.agg #[.int .i64 thr, .slice a cr.length cap, .slice a2 pins.length cap2], .slice a3 thr cap3] w fun e w' =>
      (∃ v, e = .returned (.tuple #[v, .int .i64 0]) ∧ w'.ownsRow w.heap.size 3 1 v (seenL true xs cr).length ((seenL true xs cr).map (Value.int .i64))) ∧ Grow w w' := by
  have HC := Lib.hid (fun (bo : Nat) (v : Value) (w1 : World) => askedBack_any bo w thr a a2 a3 cap cap2 cap3 cr pins xs v w1 ha ha2 hok h hx hr)
  clear ha ha2 hok h hr hx
  go_enter Try.func16, Try.ntmps16
  go_wp2_with fail
  refine (HC.out _ (.slice none 0 0) _ ?_ ?_).mono ?_
  · exact ((Below.refl _ _).alloc (Nat.le_refl _) _).alloc (by simp) _
  · refine ⟨Blk.new' _ _ _ _ (by simp), World.ownsRow_nil _ _ _ _, by simp⟩
  rintro e w1 ⟨rfl, ⟨v, hv⟩, hg⟩
  obtain ⟨aV, cV, rfl, _, _, _⟩ := own_arr hv.row
  have hc : w1.cell? ⟨w.heap.size + 1, 0, none⟩ = some (.slice aV (seenL true xs cr).length cV) := by rw [hv.box.cell]; rfl
  have hl := hv.box.lt
  have hf := hv.box.frozen 0
  have HV := Lib.hid hv
  have HG := Lib.hid hg
  clear hv hg HC
  go_wp2
  have hb2 := HV.out.box.set 0 (.slice aV (seenL true xs cr).length cV)
  have hz : (w1.setCell ⟨w.heap.size + 1, 0, none⟩ (.slice aV (seenL true xs cr).length cV)).cell? ⟨w.heap.size + 1, 0, none⟩ = some (.slice aV (seenL true xs cr).length cV) := by rw [hb2.cell]; rfl
  have hzl := hb2.lt
  have hr := (own_turn HV.out.row ((Turn.refl (fun k => k = w.heap.size + 1) w1).setCell rfl (i := 0) (.slice aV (seenL true xs cr).length cV)) (fun k hk => HV.out.box.not_row (by decide) HV.out.row k hk))
  have hg := HG.out.setCell (p := ⟨w.heap.size + 1, 0, none⟩) (Nat.le_succ _) (.slice aV (seenL true xs cr).length cV)
  refine bodyPost_ret (v := .tuple #[.slice aV (seenL true xs cr).length cV, .int .i64 0]) ?_ rfl ?_
  · simp [results, show Try.func16.results = #[.cell 4 43, .tmp 5] from rfl, asAddr, go_sem, hz, hzl]
  · exact ⟨⟨_, rfl, hr⟩, hg⟩
end Go.Proofs.Ytefdncpdlgakpaa
