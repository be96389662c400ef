import Derived.Test.YtefdncpdlgakpaaG
import Derived.Test.YtefdncpdlgakpaaS
namespace Go.Proofs.Ytefdncpdlgakpaa
open Go.RowKit

/-! cloth.Check of a valid cloth. -/

/-- the threads in their places before crossing k -/
def lineAt (l0 : List Int) (cr : List Q4) (k : Nat) : List Int := (cr.take k).foldl (fun l x => swapL l x.b.toNat) l0
theorem lineAt_succ {l0 : List Int} {cr : List Q4} {k : Nat} {x : Q4} (hx : cr[k]? = some x) : lineAt l0 cr (k + 1) = swapL (lineAt l0 cr k) x.b.toNat := by
  unfold lineAt
  rw [List.take_add_one, hx, List.foldl_append]
  rfl
theorem foldSwap_len (cr : List Q4) : ∀ l0 : List Int, (cr.foldl (fun l x => swapL l x.b.toNat) l0).length = l0.length := by
  induction cr with
  | nil => exact fun _ => rfl
  | cons x cr ih => intro l0; rw [List.foldl_cons, ih, swapL_len]
theorem lineAt_len (l0 : List Int) (cr : List Q4) (k : Nat) : (lineAt l0 cr k).length = l0.length := foldSwap_len _ _

/-- a valid cloth -/
structure okCl (thr : Int) (cr pins : List Q4) : Prop where
  t2 : 2 ≤ thr
  t48 : thr ≤ 48
  nc : cr.length ≤ 20000
  np : pins.length ≤ 6400
  hc : ∀ x ∈ cr, 0 ≤ x.b ∧ x.b ≤ thr - 2 ∧ 0 ≤ x.a
  hp : ∀ x ∈ pins, 0 ≤ x.b ∧ x.b ≤ thr - 2 ∧ 0 ≤ x.a ∧ 0 ≤ x.c ∧ x.c ≤ thr - 1 ∧ 0 ≤ x.d ∧ x.d ≤ thr - 1 ∧ x.c ≠ x.d
  hr : ∀ (k : Nat) (x : Q4), cr[k]? = some x → ((lineAt id48 cr k).getD x.b.toNat 0 = x.c ∧ (lineAt id48 cr k).getD (x.b.toNat + 1) 0 = x.d) ∨ ((lineAt id48 cr k).getD x.b.toNat 0 = x.d ∧ (lineAt id48 cr k).getD (x.b.toNat + 1) 0 = x.c)

def Q4.val (x : Q4) : Value := .agg #[.int .i64 x.a, .int .i64 x.b, .int .i64 x.c, .int .i64 x.d]

theorem Turn.one {w w' : World} {b : Nat} (hg : w.grownBy w' (some b)) : Turn (fun k => k = b) w w' := Turn.grown hg (fun k e => by cases e; rfl)
theorem Turn.heap {S : Nat → Prop} {w w' : World} {k : Nat} {o : Obj} (h : Turn S w w') (hk : w.heap[k]? = some o) (hn : ¬ S k) : w'.heap[k]? = some o := (h.block k (Array.getElem?_eq_some_iff.1 hk).1 hn).trans hk

set_option maxRecDepth 100000 in
set_option maxHeartbeats 1000000 in
theorem crossings1_in (n l D bc bat bl : Nat) (rd : Obj) (thr : Int) (a : Option Addr) (cap : Nat) (vP : Value) (cr : List Q4) (w1 : World)
    (hc : Blk w1 bc #[.int .i64 thr, .slice a cr.length cap, vP] 32) (hat : Blk w1 bat #[.pointer (some ⟨bl, 0, none⟩)] 90) (hl : Blk w1 bl (lineC id48) 59)
    (hcr : Ar eQ w1 a cr) (hlies : Lies bl a (cr.flatMap eQ.c)) (hn : cr.length ≤ 20000) (hv : ∀ x ∈ cr, 0 ≤ x.b ∧ x.b ≤ 46)
    (hbc : bc ≠ bl) (hbat : bat ≠ bl) (hlb : l ≠ bl) (hDb : D ≠ bl) (hrd : w1.heap[l]? = some rd) (hD : w1.heap[D]? = some (.deferred (some [])))
    (hY : ∀ (k : Nat) (x : Q4) (W : World), cr[k]? = some x → W.heap[l]? = some rd → W.heap[D]? = some (.deferred (some [])) →
      YieldAt Fence.wide (n - 1) Try.prog l #[x.val, .agg #[.int .i64 ((lineAt id48 cr k).getD x.b.toNat 0), .int .i64 ((lineAt id48 cr k).getD (x.b.toNat + 1) 0)]] W fun e W' => e = .returned (.bool true) ∧ Grow W W' ∧ W'.heap[l]? = some rd) :
    Calls Try.prog 57 #[.func (.yield l) #[] #[], .pointer (some ⟨bc, 0, none⟩), .pointer (some ⟨bat, 0, none⟩)] w1 fun e W' => e = .returned (.tuple #[]) ∧ Turn (fun k => k = bl) w1 W' := by
  have hc1 : w1.cell? ⟨bc, 1, none⟩ = some (.slice a cr.length cap) := by rw [hc.cell]; rfl
  have hct : w1.cell? ⟨bat, 0, none⟩ = some (.pointer (some ⟨bl, 0, none⟩)) := by rw [hat.cell]; rfl
  have HC := Lib.hid hc
  have HAT := Lib.hid hat
  have HA := Lib.hid hcr
  have HLI := Lib.hid hlies
  have HV := Lib.hid hv
  have HL := Lib.hid hl
  have HRD := Lib.hid hrd
  have HD := Lib.hid hD
  have HY := Lib.hid hY
  clear hc hat hl hcr hlies hv hrd hD hY
  go_enter Try.func57, Try.ntmps57
  go_wp2
  go_loopw [9] (fun i wr => ∃ k : Nat, k ≤ cr.length ∧ i = .int .i64 k ∧ Hid (Blk wr bl (lineC (lineAt id48 cr k)) 59) ∧ Hid (Turn (fun k => k = bl) w1 wr)) (fun i _ => cr.length - (intOf i).toNat)
  case atStart => exact ⟨0, Nat.zero_le _, rfl, HL.out, Turn.refl _ _⟩
  case round =>
    obtain ⟨k, hk, rfl, hb, ht⟩ := hrel
    by_cases hlt : k < cr.length
    · have hbl := ht.out.below (B := bl) (Nat.le_of_lt HL.out.lt) (fun k e => by omega)
      obtain ⟨b, o, x, hx, rfl, hbb, hx0, hx1, hx2, hx3⟩ := (Ar.q4 (Arr.keep HA.out HLI.out hbl) hlt)
      obtain ⟨hv0, hv1⟩ := HV.out x (List.mem_of_getElem? hx)
      have hat1 : wr.cell? ⟨bat, 0, none⟩ = some (.pointer (some ⟨bl, 0, none⟩)) := by rw [(HAT.out.turn ht.out hbat).cell]; rfl
      obtain ⟨m, hm⟩ : ∃ m : Nat, x.b = m := ⟨x.b.toNat, by omega⟩
      obtain ⟨ya, hya⟩ : ∃ ya, (lineAt id48 cr k).getD m 0 = ya := ⟨_, rfl⟩
      obtain ⟨yb, hyb⟩ : ∃ yb, (lineAt id48 cr k).getD (m + 1) 0 = yb := ⟨_, rfl⟩
      have hlen : (lineAt id48 cr k).length = 48 := lineAt_len _ _ _
      have hm46 : m ≤ 46 := by omega
      have hya' : (lineAt id48 cr k)[m]? = some ya := by rw [← hya, List.getD_eq_getElem?_getD, List.getElem?_eq_getElem (by omega)]; rfl
      have hyb' : (lineAt id48 cr k)[m + 1]? = some yb := by rw [← hyb, List.getD_eq_getElem?_getD, List.getElem?_eq_getElem (by omega)]; rfl
      obtain ⟨vv, hvv⟩ : ∃ vv, x.val = vv := ⟨_, rfl⟩
      have hvv' : vv = .agg #[.int .i64 x.a, .int .i64 m, .int .i64 x.c, .int .i64 x.d] := by rw [← hvv, Q4.val, hm]
      have hy := HY.out k x (wr.alloc (.cells #[.int .i64 x.a, .int .i64 m, .int .i64 x.c, .int .i64 x.d] 65)).drew hx
        ((Below.heap_alloc wr _ l (Array.getElem?_eq_some_iff.1 (ht.out.heap HRD.out hlb)).1).trans (ht.out.heap HRD.out hlb)) ((Below.heap_alloc wr _ D (Array.getElem?_eq_some_iff.1 (ht.out.heap HD.out hDb)).1).trans (ht.out.heap HD.out hDb))
      rw [hm, Int.toNat_natCast, hya, hyb, hvv, hvv'] at hy
      obtain ⟨fn, tm, ac, bo, hy, hR⟩ := hy
      have HR := Lib.hid hR
      rw [hm] at hx1
      have hla : wr.cell? ⟨bl, m, none⟩ = some (.int .i64 ya) := by rw [hb.out.cell, lineC_get, hya']; rfl
      have hlb : wr.cell? ⟨bl, m + 1, none⟩ = some (.int .i64 yb) := by rw [hb.out.cell, lineC_get, hyb']; rfl
      have lbl := hb.out.lt
      have lbat := cell_lt hat1
      have HYA := Lib.hid hya'
      have HYB := Lib.hid hyb'
      have HSW : Hid (((lineAt id48 cr k).set m yb).set (m + 1) ya = lineAt id48 cr (k + 1)) := by
        unfold Hid
        rw [lineAt_succ hx, swapL, hm, Int.toNat_natCast, hya, hyb]
      clear hR hx hvv hvv' hya hyb hya' hyb' hbl hv0 hv1
      go_wp2_with fail
      refine (wpIn_wide (n := n)).1 ?_
      refine wpIn_region_quiet_two (by simp) (by simp) rfl (by kernel_rfl) (by kernel_rfl) (by kernel_rfl) (by kernel_rfl) (by kernel_rfl) (by kernel_rfl) (by kernel_rfl) (by kernel_rfl) (by kernel_rfl) (by kernel_rfl) ?_
      simp only [List.dropLast, List.getLast]
      repeat (gi_big_quiet_step (fail))
      refine wpQuietIn_nil ?_
      refine behindIn_step rfl (fun K hK => ?_)
      go_simp
      refine ⟨(by intro h; cases h), HR.out.mono ?_⟩
      rintro e w3 ⟨rfl, hg3, hl3⟩
      refine hK _ _ ?_
      clear hK K
      refine behindIn_step rfl (fun K hK => ?_)
      go_simp
      refine hK _ _ ?_
      clear hK K hy HR
      have hX := ((Blk.new wr #[.int .i64 x.a, .int .i64 m, .int .i64 x.c, .int .i64 x.d] 65).drew).grow hg3
      have hx9 : w3.cell? ⟨wr.heap.size, 1, none⟩ = some (.int .i64 m) := by rw [hX.cell]; rfl
      have hx9l := hX.lt
      have ht3 : Turn (fun k => k = bl) w1 w3 := ht.out.trans (((Turn.refl _ wr).alloc _).drew.trans (Turn.grow hg3))
      have hat3 : w3.cell? ⟨bat, 0, none⟩ = some (.pointer (some ⟨bl, 0, none⟩)) := by rw [(HAT.out.turn ht3 hbat).cell]; rfl
      have hat3l := cell_lt hat3
      have HB3 := Lib.hid (((hb.out.alloc (.cells #[.int .i64 x.a, .int .i64 m, .int .i64 x.c, .int .i64 x.d] 65)).drew).grow hg3)
      have HT3 := Lib.hid ht3
      clear hg3 hl3 hX ht3 hat1 hla hlb hx0 hx1 hx2 hx3
      go_wp2_with (go_at_call 24; go_must (refine (swap_any _ _ m ya yb _ _ HB3.out hlen HYA.out HYB.out).mono ?_); rintro e w4 ⟨rfl, hb4, hg4⟩; have HB4 := Lib.hid hb4; have HT4 := Lib.hid (HT3.out.trans (Turn.one hg4)); clear hb4 hg4)
      go_roundw
      case rel =>
        refine ⟨k + 1, by omega, by go_num, ?_, HT4.out⟩
        rw [← HSW.out]
        exact HB4.out
      case measure => simp [intOf]; omega
    · go_wp2
      go_end0
      exact ⟨rfl, ht.out⟩
end Go.Proofs.Ytefdncpdlgakpaa
