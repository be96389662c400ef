/- For every input the law TopRing answers true, and each argument reads behind the call as it read before; conditions: none beyond the statement's own. -/
import Derived.Test.YtefdncpdlgakpaaAD
import Derived.Test.YtefdncpdlgakpaaAE
import Derived.Test.YtefdncpdlgakpaaRows
namespace Go.Proofs.Ytefdncpdlgakpaa
open Go.ChangeShapes Go.WideShapes Go.ChangeAt Go.RowKit Go.Deep Go.Joins

theorem ring_any (p sh tm : Int) (a ad aq : Option Addr) (cap capd capq : Nat) (ws : List Wk) (dl al : List Int) (w : World) (h : Ar eW w a ws) (hz : ∀ x ∈ ws, x.word.size ≤ maxLen) (hp : -9223372036854775808 ≤ p ∧ p ≤ 9223372036854775807)
    (hd : Ar (eI .u8) w ad dl) (hd0 : ∀ x ∈ dl, 0 ≤ x ∧ x ≤ 255) (hd1 : dl.length ≤ maxLen) (hq : Ar (eI .u16) w aq al) (hq0 : ∀ x ∈ al, 0 ≤ x ∧ x ≤ 65535) (htm : 0 ≤ tm ∧ tm ≤ 255) :
    Calls Try.prog 3 #[.agg #[.int .i64 p, .slice a ws.length cap], .int .i64 sh, .slice ad dl.length capd, .slice aq al.length capq, .int .u8 tm] w fun e w' => e = .returned (.bool true) ∧ Grow w w' := by
  by_cases hl : 40 < ws.length ∨ 100 < al.length
  · exact ring_long p sh tm a ad aq ws.length cap dl.length capd al.length capq w hl
  · have h1 : ws.length ≤ 40 := by omega
    have h2 : al.length ≤ 100 := by omega
    have hz' : ∀ x ∈ ws, x.word.size ≤ 9223372036854775807 := fun x hx => by have := hz x hx; unfold maxLen at this; omega
    by_cases h3 : ¬ okSh p ws ∨ sh < 0 ∨ p ≤ sh
    · exact ring_no p sh tm a ad aq cap dl.length capd al.length capq ws w h hz' hp h1 h2 h3
    · have hok : okSh p ws := Classical.byContradiction fun h => h3 (.inl h)
      have hs0 : 0 ≤ sh := by omega
      have hsp : sh < p := by omega
      obtain ⟨pn, rfl⟩ : ∃ n : Nat, p = n := ⟨p.toNat, by omega⟩
      obtain ⟨sn, rfl⟩ : ∃ n : Nat, sh = n := ⟨sh.toNat, by omega⟩
      exact ring_ok pn sn tm a ad aq cap capd capq ws dl al w h hok (by omega) h1 h2 hd (fun x hx => by have := hd0 x hx; omega) hd1 hq (fun x hx => by have := hq0 x hx; omega) (by omega)

theorem ownKnob_ : ownKnob Try.prog.godebug = none := by kernel_rfl
theorem laidOut_ : laidOutB Try.prog = true := by kernel_rfl
theorem cellsSheet : Try.prog.cellsOf 24 = 2 := by kernel_rfl

set_option maxRecDepth 100000 in
theorem lifted (os : Os) (started : os.Started) (H : Type) (enc : TypeId × Value → H) :
    ReturnsInHanded {} Try.checked os 3 .any (Rows.topRingSpec.pre6 enc Try.prog Try.f3 Rows.topRingRow.domain false) (Rows.topRingSpec.post enc Try.prog Try.f3 false true false false) := by
  refine returnsInHanded_of_change (C := Try.checked) ownKnob_ started (by kernel_rfl) Try.func3
    (ChangeSpec.witness6 (enc := enc) (C := Try.checked) false ⟨#[], #[.agg #[.int .i64 0, .slice none 0 0], .int .i64 0, .slice none 0 0, .slice none 0 0, .int .u8 0], []⟩ 8 (by kernel_rfl) (by kernel_rfl) (by kernel_rfl) (by kernel_rfl)) ?_
  intro W base args ds gs before hval0 hW hcnd _
  have hval : ∀ (j : Nat) t v, Try.f3.params[j]? = some t → args[j]? = some v → Value.okWide Try.prog W .any base t v := hval0
  have hW' := hW
  obtain ⟨p, q, hA0, hV, rfl, hfz, hnd⟩ := hW
  have hA : DataW.TrodAll enc Try.prog W 0 (fun _ => true) true Try.f3.params.toList args.toList ds p := hA0
  rw [Try.params3] at hA hval
  obtain ⟨v0, vs0, d0, ds0, p0, q0, hargs, rfl, rfl, h0, r0⟩ := trodAll_cons hA
  obtain ⟨v1, vs1, d1, ds1, p1, q1, rfl, rfl, rfl, h1, r1⟩ := trodAll_cons r0
  obtain ⟨v2, vs2, d2, ds2, p2, q2, rfl, rfl, rfl, h2, r2⟩ := trodAll_cons r1
  obtain ⟨v3, vs3, d3, ds3, p3, q3, rfl, rfl, rfl, h3, r3⟩ := trodAll_cons r2
  obtain ⟨v4, vs4, d4, ds4, p4, q4, rfl, rfl, rfl, h4, r4⟩ := trodAll_cons r3
  obtain ⟨rfl, rfl, rfl⟩ := trodAll_nil r4
  obtain rfl : args = #[v0, v1, v2, v3, v4] := by cases args; simp_all
  obtain ⟨rfl, rfl⟩ := trodVars_none hV
  have k0 := h0
  have lt0 : ∀ x ∈ p0, x.block < W.heap.size := by obtain ⟨m, hm⟩ := k0; exact DataW.trod_lt m _ _ _ hm
  obtain ⟨c0, c1, y0, y1, fu, rfl, _, _, g0, g1⟩ := open_agg2 Try.underlying24 (by kernel_rfl) cellsSheet (hval 0 24 v0 rfl rfl) h0
  obtain ⟨ps, e0, _, wps⟩ := DataW.trod_int Try.underlying3 g0
  simp at e0
  subst e0
  obtain ⟨a, len, cap, rfl⟩ := slice_val Try.underlying22 g1
  obtain ⟨ws, rfl, _, hws, hwz⟩ := in_works Try.underlying22 Try.underlying56 (by kernel_rfl) rfl rfl rfl (by kernel_rfl) (by kernel_rfl) (by kernel_rfl) Try.underlying3 Try.underlying3 Try.underlying9 g1
  obtain ⟨sh, rfl, rfl, rfl, wsh⟩ := open_int Try.underlying3 (hval 1 3 v1 rfl rfl) h1
  obtain ⟨ad, lend, capd, rfl⟩ := okWide_slice Try.underlying25 (hval 2 25 v2 rfl rfl)
  have k2 := h2
  have lt2 : ∀ x ∈ p2, x.block < W.heap.size := by obtain ⟨m, hm⟩ := k2; exact DataW.trod_lt m _ _ _ hm
  obtain ⟨f2, hf2⟩ := h2
  obtain ⟨dl, rfl, hd1, hdl, hdw⟩ := in_ints Try.underlying25 Try.underlying5 (by kernel_rfl) hf2
  obtain ⟨aq, lenq, capq, rfl⟩ := okWide_slice Try.underlying26 (hval 3 26 v3 rfl rfl)
  have k3 := h3
  have lt3 : ∀ x ∈ p3, x.block < W.heap.size := by obtain ⟨m, hm⟩ := k3; exact DataW.trod_lt m _ _ _ hm
  obtain ⟨f3, hf3⟩ := h3
  obtain ⟨al, rfl, _, hal, haw⟩ := in_ints Try.underlying26 Try.underlying77 (by kernel_rfl) hf3
  obtain ⟨tm, rfl, rfl, rfl, wtm⟩ := open_int Try.underlying5 (hval 4 5 v4 rfl rfl) h4
  clear hA0 hval0
  refine (ring_any ps sh tm a ad aq cap capd capq ws dl al W hws hwz (bounds_i64 wps) hdl (fun x hx => bounds_u8 (hdw x hx)) hd1 hal (fun x hx => bounds_u16 (haw x hx)) (bounds_u8 wtm)).mono fun e W' ⟨he, bel⟩ => ?_
  subst he
  exact ⟨_, rfl, _, _, _, [], _, [], hW', trodAll_mk1 (shut_bool Try.underlying4 _),
    (trodAll_cons_mk (Below.trod laidOut_ (by kernel_rfl) (of_decide_eq_true (by kernel_rfl)) k0 bel lt0) (trodAll_cons_mk (shut_int Try.underlying3 wsh) (trodAll_cons_mk (Below.trod laidOut_ (by kernel_rfl) (of_decide_eq_true (by kernel_rfl)) k2 bel lt2)
      (trodAll_cons_mk (Below.trod laidOut_ (by kernel_rfl) (of_decide_eq_true (by kernel_rfl)) k3 bel lt3) (trodAll_cons_mk (shut_int Try.underlying5 wtm) trodAll_mk0))))), rfl, bel.frame _, fun h => by cases h⟩

theorem over : Rows.topRingRow.holds Try.pinned (OpenSpec.ofChange Rows.topRingSpec) :=
  OpenClaim.holds_of_wide 3 Try.f3 rfl rfl rfl rfl rfl rfl rfl ⟨rfl, rfl, rfl, rfl, rfl⟩ rfl rfl rfl rfl rfl (by kernel_rfl) Try.func3 (by kernel_rfl)
    (of_decide_eq_true (by kernel_rfl)) (by unfold Func.isWrapper; first | (rw [if_pos (by decide +kernel)]; kernel_rfl) | (rw [if_neg (by decide +kernel)]; exact ⟨rfl, rfl⟩))
    (fun os started H enc _ => lifted os started H enc)

/-- THE STATEMENT -/
theorem topRing_holds : Rows.TopRingSaid := over
#print axioms topRing_holds
end Go.Proofs.Ytefdncpdlgakpaa
