import Derived.Test.YtefdncpdlgakpaaE
import Derived.Test.YtefdncpdlgakpaaF
import Derived.Test.YtefdncpdlgakpaaM
import Derived.BigRegion
import Derived.Deep.WholeRow
namespace Go.Proofs.Ytefdncpdlgakpaa
open Go.RowKit

/-- what holds at the head of each loop of cloth.Make -/
structure MakeI (w wr : World) (p : Int) (a : Option Addr) (n cap b5 b6 : Nat) (vC vP : Value) (st : Cl) : Prop where
  g : Grow w wr
  s0 : Blk wr w.heap.size #[.int .i64 p, .slice a n cap] 24
  r0 : Blk wr (w.heap.size + 1) #[.int .i64 0, .slice none 0 0, .slice none 0 0] 32
  c : Blk wr b5 #[.int .i64 (2 * p), vC, vP] 32
  l : Blk wr b6 (lineC st.line) 59
  hc : wr.ownsRow w.heap.size 65 4 vC st.cr.length (st.cr.flatMap eQ.c)
  hp : wr.ownsRow w.heap.size 62 4 vP st.pins.length (st.pins.flatMap eQ.c)
  len : st.line.length = 48
  h5 : w.heap.size + 1 < b5
  h6 : b5 < b6

section
variable {w wr wr' : World} {p : Int} {a : Option Addr} {n cap b5 b6 : Nat} {vC vP : Value} {st : Cl}

theorem pin_mid (bc bi bm bl : Nat) (thr i mid : Int) (m : Nat) (hmid : mid = m) (vC vP : Value) (l : List Int) (base n : Nat) (ps : List Value) (w : World)
    (hc : Blk w bc #[.int .i64 thr, vC, vP] 32) (hi : Blk w bi #[.int .i64 i] 3) (hm : Blk w bm #[.int .i64 mid] 3) (hl : Blk w bl (lineC l) 59)
    (hll : l.length = 48) (hm48 : m + 1 < 48) (hown : w.ownsRow base 62 4 vP n ps) (hn : n ≤ 1000000) (hbase : base ≤ w.heap.size) :
    Calls Try.prog 22 #[.pointer (some ⟨bc, 0, none⟩), .pointer (some ⟨bi, 0, none⟩), .pointer (some ⟨bm, 0, none⟩), .pointer (some ⟨bl, 0, none⟩)] w (PinPost bc thr vC vP base n (ps ++ eQ.c ⟨i, mid, l.getD mid.toNat 0, l.getD (mid.toNat + 1) 0⟩) w) := by
  subst hmid
  have hx : l[m]? = some (l.getD m 0) := by rw [List.getD_eq_getElem?_getD, List.getElem?_eq_getElem (by omega)]; rfl
  have hy : l[m + 1]? = some (l.getD (m + 1) 0) := by rw [List.getD_eq_getElem?_getD, List.getElem?_eq_getElem (by omega)]; rfl
  exact pin_any bc bi bm bl thr i m vC vP l _ _ base n ps w hc hi hm hl hll hx hy hown hn hbase

theorem MakeI.turn {S : Nat → Prop} (h : MakeI w wr p a n cap b5 b6 vC vP st) (ht : Turn S wr wr') (h0 : ∀ k, S k → w.heap.size + 1 < k) (h5 : ¬ S b5) (h6 : ¬ S b6) (hC : ∀ k, vC.ownBlock = some k → ¬ S k) (hP : ∀ k, vP.ownBlock = some k → ¬ S k) :
    MakeI w wr' p a n cap b5 b6 vC vP st :=
  ⟨h.g.trans (ht.below h.g.size (fun k hk => by have := h0 k hk; omega)), h.s0.turn ht (fun e => by have := h0 _ e; omega), h.r0.turn ht (fun e => by have := h0 _ e; omega), h.c.turn ht h5, h.l.turn ht h6, own_turn h.hc ht hC, own_turn h.hp ht hP, h.len, h.h5, h.h6⟩

theorem MakeI.grow (h : MakeI w wr p a n cap b5 b6 vC vP st) (hg : Grow wr wr') : MakeI w wr' p a n cap b5 b6 vC vP st :=
  h.turn (S := fun _ => False) (Turn.grow hg) (fun _ e => e.elim) id id (fun _ _ e => e) (fun _ _ e => e)

structure MakeJ (w wr : World) (p : Int) (a : Option Addr) (n cap b5 b6 b7 : Nat) (vC vP : Value) (st : Cl) (i mid : Int) (x : Wk) : Prop where
  I : MakeI w wr p a n cap b5 b6 vC vP st
  i7 : Blk wr b7 #[.int .i64 i] 3
  x8 : Blk wr (b7 + 1) #[.int .i64 x.kind, .int .i64 x.pos, .string x.word] 56
  m9 : Blk wr (b7 + 1 + 1) #[.int .i64 mid] 3
  h7 : b6 < b7

variable {b7 : Nat} {i mid : Int} {x : Wk}
theorem MakeJ.turn {S : Nat → Prop} (h : MakeJ w wr p a n cap b5 b6 b7 vC vP st i mid x) (ht : Turn S wr wr') (h0 : ∀ k, S k → w.heap.size + 1 < k ∧ k ≠ b7 ∧ k ≠ b7 + 1 ∧ k ≠ b7 + 1 + 1) (h5 : ¬ S b5) (h6 : ¬ S b6) (hC : ∀ k, vC.ownBlock = some k → ¬ S k) (hP : ∀ k, vP.ownBlock = some k → ¬ S k) :
    MakeJ w wr' p a n cap b5 b6 b7 vC vP st i mid x :=
  ⟨h.I.turn ht (fun k e => (h0 k e).1) h5 h6 hC hP, h.i7.turn ht (fun e => (h0 _ e).2.1 rfl), h.x8.turn ht (fun e => (h0 _ e).2.2.1 rfl), h.m9.turn ht (fun e => (h0 _ e).2.2.2 rfl), h.h7⟩
theorem MakeJ.grow (h : MakeJ w wr p a n cap b5 b6 b7 vC vP st i mid x) (hg : Grow wr wr') : MakeJ w wr' p a n cap b5 b6 b7 vC vP st i mid x :=
  h.turn (S := fun _ => False) (Turn.grow hg) (fun _ e => e.elim) id id (fun _ _ e => e) (fun _ _ e => e)

/-- the work's own variables are laid -/
theorem MakeJ.start (h : MakeI w wr p a n cap b5 b6 vC vP st) (i mid : Int) (x : Wk) :
    MakeJ w (((wr.alloc (.cells #[.int .i64 i] 3)).alloc (.cells #[.int .i64 x.kind, .int .i64 x.pos, .string x.word] 56)).alloc (.cells #[.int .i64 mid] 3)) p a n cap b5 b6 wr.heap.size vC vP st i mid x :=
  ⟨h.grow (((Below.refl _ _).alloc (Nat.le_refl _) _).alloc (by simp) _ |>.alloc (by simp; omega) _), ((Blk.new wr _ _).alloc _).alloc _, (Blk.new' _ _ _ _ (by simp)).alloc _, Blk.new' _ _ _ _ (by simp), h.l.lt⟩

/-- behind a pin -/
theorem MakeJ.pin {vP' : Value} {q : Q4} (h : MakeJ w wr p a n cap b5 b6 b7 vC vP st i mid x) (hb : Blk wr' b5 #[.int .i64 (2 * p), vC, vP'] 32)
    (ho : wr'.ownsRow w.heap.size 62 4 vP' (st.pins.length + 1) (st.pins.flatMap eQ.c ++ eQ.c q)) (ht : Turn (fun k => k = b5 ∨ vP.ownBlock = some k) wr wr') :
    MakeJ w wr' p a n cap b5 b6 b7 vC vP' { st with pins := st.pins ++ [q] } i mid x := by
  have hI := h.I
  have h5 := hI.h5
  have h6 := hI.h6
  have h7 := h.h7
  have e0 := hI.s0.not_row (by decide) hI.hp
  have e1 := hI.r0.not_row (by decide) hI.hp
  have el := hI.l.not_row (by decide) hI.hp
  have e7 := h.i7.not_row (by decide) hI.hp
  have e8 := h.x8.not_row (by decide) hI.hp
  have e9 := h.m9.not_row (by decide) hI.hp
  have eb := hI.hp.lt
  refine ⟨⟨hI.g.trans (ht.below hI.g.size (fun k hk => ?_)), hI.s0.turn ht ?_, hI.r0.turn ht ?_, hb, hI.l.turn ht ?_, own_turn hI.hc ht ?_, ?_, hI.len, h5, h6⟩, h.i7.turn ht ?_, h.x8.turn ht ?_, h.m9.turn ht ?_, h7⟩
  · rcases hk with hk | hk
    · omega
    · exact (eb k hk).1
  · rintro (e | e)
    · omega
    · exact e0 _ e rfl
  · rintro (e | e)
    · omega
    · exact e1 _ e rfl
  · rintro (e | e)
    · omega
    · exact el _ e rfl
  · rintro k hk (e | e)
    · exact hI.c.not_row (by decide) hI.hc k hk e
    · exact own_ne hI.hc hI.hp (by decide) k hk e
  · simpa using ho
  · rintro (e | e)
    · omega
    · exact e7 _ e rfl
  · rintro (e | e)
    · omega
    · exact e8 _ e rfl
  · rintro (e | e)
    · omega
    · exact e9 _ e rfl

/-- behind a crossing: the row and the box -/
theorem MakeJ.cross {vC' : Value} {q : Q4} (h : MakeJ w wr p a n cap b5 b6 b7 vC vP st i mid x) (hb : Blk wr' b5 #[.int .i64 (2 * p), vC', vP] 32)
    (ho : wr'.ownsRow w.heap.size 65 4 vC' (st.cr.length + 1) (st.cr.flatMap eQ.c ++ eQ.c q)) (ht : Turn (fun k => k = b5 ∨ vC.ownBlock = some k) wr wr') :
    MakeJ w wr' p a n cap b5 b6 b7 vC' vP { st with cr := st.cr ++ [q] } i mid x := by
  have hI := h.I
  have h5 := hI.h5
  have h6 := hI.h6
  have h7 := h.h7
  have e0 := hI.s0.not_row (by decide) hI.hc
  have e1 := hI.r0.not_row (by decide) hI.hc
  have el := hI.l.not_row (by decide) hI.hc
  have e7 := h.i7.not_row (by decide) hI.hc
  have e8 := h.x8.not_row (by decide) hI.hc
  have e9 := h.m9.not_row (by decide) hI.hc
  have eb := hI.hc.lt
  refine ⟨⟨hI.g.trans (ht.below hI.g.size (fun k hk => ?_)), hI.s0.turn ht ?_, hI.r0.turn ht ?_, hb, hI.l.turn ht ?_, ?_, own_turn hI.hp ht ?_, hI.len, h5, h6⟩, h.i7.turn ht ?_, h.x8.turn ht ?_, h.m9.turn ht ?_, h7⟩
  · rcases hk with hk | hk
    · omega
    · exact (eb k hk).1
  · rintro (e | e)
    · omega
    · exact e0 _ e rfl
  · rintro (e | e)
    · omega
    · exact e1 _ e rfl
  · rintro (e | e)
    · omega
    · exact el _ e rfl
  · simpa using ho
  · rintro k hk (e | e)
    · exact hI.c.not_row (by decide) hI.hp k hk e
    · exact own_ne hI.hp hI.hc (by decide) k hk e
  · rintro (e | e)
    · omega
    · exact e7 _ e rfl
  · rintro (e | e)
    · omega
    · exact e8 _ e rfl
  · rintro (e | e)
    · omega
    · exact e9 _ e rfl

/-- 'c.Crosses = append(c.Crosses, x)': the box ahead of the store; all behind it; another row -/
theorem make_cross1 {X Y : Obj} {w4 : World} (h : MakeJ w wr p a n cap b5 b6 b7 vC vP st i mid x) (hg : ((wr.alloc X).drew.alloc Y).grownBy w4 vC.ownBlock) : Blk w4 b5 #[.int .i64 (2 * p), vC, vP] 32 :=
  Blk.kept (((h.I.c.alloc X).drew).alloc Y) hg (fun e => h.I.c.not_row (by decide) h.I.hc _ e.symm rfl)
theorem make_turn1 {X Y : Obj} {w4 : World} {v : Value} (hg : ((wr.alloc X).drew.alloc Y).grownBy w4 vC.ownBlock) : Turn (fun k => k = b5 ∨ vC.ownBlock = some k) wr (w4.setCell ⟨b5, 1, none⟩ v) :=
  (((((Turn.refl _ wr).alloc X).drew).alloc Y).trans (Turn.grown hg (fun k e => .inr e.symm))).setCell (.inl rfl) _
theorem make_cross2 {X Y : Obj} {w4 : World} {g4 cap4 : Nat} {q : Q4} (h : MakeJ w wr p a n cap b5 b6 b7 vC vP st i mid x)
    (ho : w4.ownsRow w.heap.size 65 4 (.slice (some ⟨g4, 0, none⟩) (st.cr.length + 1) cap4) (st.cr.length + 1) (st.cr.flatMap eQ.c ++ [.int .i64 q.a, .int .i64 q.b, .int .i64 q.c, .int .i64 q.d])) (hg : ((wr.alloc X).drew.alloc Y).grownBy w4 vC.ownBlock) :
    MakeJ w (w4.setCell ⟨b5, 1, none⟩ (.slice (some ⟨g4, 0, none⟩) (st.cr.length + 1) cap4)) p a n cap b5 b6 b7 (.slice (some ⟨g4, 0, none⟩) (st.cr.length + 1) cap4) vP { st with cr := st.cr ++ [q] } i mid x := by
  have C4 := make_cross1 h hg
  refine h.cross (vC' := .slice (some ⟨g4, 0, none⟩) (st.cr.length + 1) cap4) (C4.set 1 _) ?_ (make_turn1 hg)
  exact own_turn ho (Turn.grown (S := fun k => k = b5) (grownBy_setCell _ _ _ _) (fun k e => by cases e; rfl)) (fun k hk => C4.not_row (by decide) ho k hk)
theorem make_cross3 {X Y : Obj} {w4 : World} {v u : Value} {m : Nat} {xs : List Value} (h : MakeJ w wr p a n cap b5 b6 b7 vC vP st i mid x) (hr : wr.ownsRow w.heap.size 3 1 u m xs) (hg : ((wr.alloc X).drew.alloc Y).grownBy w4 vC.ownBlock) :
    (w4.setCell ⟨b5, 1, none⟩ v).ownsRow w.heap.size 3 1 u m xs :=
  own_turn hr (make_turn1 hg) (by
    rintro k hk (e | e)
    · exact h.I.c.not_row (by decide) hr k hk e
    · exact own_ne hr h.I.hc (by decide) k hk e)

/-- behind an exchange in the line -/
theorem MakeJ.swap {l' : List Int} (h : MakeJ w wr p a n cap b5 b6 b7 vC vP st i mid x) (hb : Blk wr' b6 (lineC l') 59) (hl : l'.length = 48) (hg : wr.grownBy wr' (some b6)) :
    MakeJ w wr' p a n cap b5 b6 b7 vC vP { st with line := l' } i mid x := by
  have hI := h.I
  have h5 := hI.h5
  have h6 := hI.h6
  have h7 := h.h7
  have ht : Turn (fun k => k = b6) wr wr' := Turn.grown hg (fun k e => by cases e; rfl)
  refine ⟨⟨hI.g.trans (ht.below hI.g.size (fun k hk => by omega)), hI.s0.turn ht (by omega), hI.r0.turn ht (by omega), hI.c.turn ht (by omega), hb, own_turn hI.hc ht ?_, own_turn hI.hp ht ?_, hl, h5, h6⟩, h.i7.turn ht (by omega), h.x8.turn ht (by omega), h.m9.turn ht (by omega), h7⟩
  · exact fun k hk e => hI.l.not_row (by decide) hI.hc k hk e
  · exact fun k hk e => hI.l.not_row (by decide) hI.hp k hk e
end

def MakePost (w : World) (p : Int) (st : Cl) (e : Ending) (w' : World) : Prop :=
  ∃ aC cC aP cP, e = .returned (.tuple #[.agg #[.int .i64 (2 * p), .slice aC st.cr.length cC, .slice aP st.pins.length cP], .int .i64 0]) ∧ Ar eQ w' aC st.cr ∧ Ar eQ w' aP st.pins ∧ st.cr.length ≤ cC ∧ cC ≤ maxLen ∧ st.pins.length ≤ cP ∧ cP ≤ maxLen ∧ Grow w w'

theorem cell2 {w : World} {b : Nat} {x y z : Value} {T : TypeId} (h : Blk w b #[x, y, z] T) : w.cell? ⟨b, 1, none⟩ = some y := by rw [h.cell]; rfl
theorem Try.infoCross : (Try.prog.info? 65).map (fun i => (i.zero, i.size, i.bytes)) = some (some (.agg #[.int .i64 0, .int .i64 0, .int .i64 0, .int .i64 0]), 4, 32) := by kernel_rfl

theorem one3 {x y z : Value} (hx : x.oneCell' = true) (hy : y.oneCell' = true) (hz : z.oneCell' = true) : (#[x, y, z] : Array Value).all (·.oneCell') = true := by simp [hx, hy, hz]

theorem run_makeFunc_fn (P : Program) (fn : Fn) (first cap : Array Value) (w : World) : (Instr.makeFunc fn first cap).run P w = .ok (.func fn first cap) w := rfl

set_option maxRecDepth 100000 in
set_option maxHeartbeats 4000000 in
theorem make_any (p : Int) (a : Option Addr) (cap : Nat) (ws : List Wk) (w : World) (h : Ar eW w a ws) (hok : okSh p ws) :
    Calls Try.prog 5 #[.agg #[.int .i64 p, .slice a ws.length cap]] w (MakePost w p (mkTo id48 ws ws.length)) := by
  have hp2 := hok.1
  have hp24 := hok.2.1
  have hn := hok.2.2.1
  have HA := Lib.hid h
  have HK := Lib.hid hok
  obtain ⟨i0, hi0, hz0, hz1, hz2⟩ := info_parts Try.infoCross
  clear h hok
  go_enter Try.func5, Try.ntmps5
  go_wp2_with fail
  refine (sheet_ok _ _ _ _ _ ((HA.out.alloc _).alloc _) HK.out).mono ?_
  rintro e w1 ⟨rfl, hg1⟩
  have S1 : Blk w1 w.heap.size #[.int .i64 p, .slice a ws.length cap] 24 := ((Blk.new w _ _).alloc _).grow hg1
  have R1 : Blk w1 (w.heap.size + 1) #[.int .i64 0, .slice none 0 0, .slice none 0 0] 32 := (Blk.new' _ _ _ _ (by simp)).grow hg1
  have G1 : Grow w w1 := (((Below.refl _ w).alloc (Nat.le_refl _) _).alloc (by simp) _).trans (hg1.mono (by simp; omega))
  have hs0 : w1.cell? ⟨w.heap.size, 0, none⟩ = some (.int .i64 p) := by rw [S1.cell]; rfl
  have hl1 := S1.lt
  have hr1 := R1.lt
  replace S1 := Lib.hid S1
  replace R1 := Lib.hid R1
  replace G1 := Lib.hid G1
  clear hg1
  go_wp2_with fail
  refine (begun_any _).mono ?_
  rintro e w2 ⟨rfl, hg2⟩
  have S2 := (S1.out.alloc (.cells #[.int .i64 (2 * p), .slice none 0 0, .slice none 0 0] 32)).grow hg2
  have R2 := (R1.out.alloc (.cells #[.int .i64 (2 * p), .slice none 0 0, .slice none 0 0] 32)).grow hg2
  have C2 := (Blk.new w1 #[.int .i64 (2 * p), .slice none 0 0, .slice none 0 0] 32).grow hg2
  have G2 : Grow w w2 := (G1.out.alloc (by omega) _).trans (hg2.mono (by simp; omega))
  have hs1 : w2.cell? ⟨w.heap.size, 1, none⟩ = some (.slice a ws.length cap) := by rw [S2.cell]; rfl
  have hl2 := S2.lt
  have hc2 := C2.lt
  replace S2 := Lib.hid S2
  replace R2 := Lib.hid R2
  replace C2 := Lib.hid C2
  replace G2 := Lib.hid G2
  clear hg2 S1 R1 hs0
  go_wp2_with (refine wpList_store_row rfl 59 _ _ rfl w2.heap.size (lineC id48) rfl rfl 59 (lineC (begunTo 0)) (Blk.new _ _ _) (by rw [Try.infoLine]; rfl) rfl (lineC_one _) ?_; rw [World.setRow_alloc_new])
  have I0 : MakeI w (w2.alloc (.cells (lineC id48) 59)) p a ws.length cap w1.heap.size w2.heap.size (.slice none 0 0) (.slice none 0 0) (mkTo id48 ws 0) :=
    ⟨G2.out.alloc (by omega) _, S2.out.alloc _, R2.out.alloc _, C2.out.alloc _, Blk.new _ _ _, World.ownsRow_nil _ _ _ _, World.ownsRow_nil _ _ _ _, rfl, hr1, hc2⟩
  replace I0 := Lib.hid I0
  clear S2 R2 C2 G2 G1 hs1 hl1 hl2 hr1 hc2
  go_loopw [32] (fun i wr => ∃ (k : Nat) (vC vP : Value), k ≤ ws.length ∧ i = .int .i64 k ∧ Hid (MakeI w wr p a ws.length cap w1.heap.size w2.heap.size vC vP (mkTo id48 ws k))) (fun i _ => ws.length - (intOf i).toNat)
  case atStart => exact ⟨0, _, _, Nat.zero_le _, rfl, I0.out⟩
  case round =>
    obtain ⟨k, vC, vP, hk, rfl, hI⟩ := hrel
    have hmf := run_makeFunc_fn Try.prog
    by_cases hlt : k < ws.length
    · obtain ⟨b, o, x, hx, rfl, hb, hc0, hc1, hc2⟩ := (HA.out.grow hI.out.g).wk hlt
      obtain ⟨hkind, hq0, hq1, hword⟩ := HK.out.2.2.2 x (List.mem_of_getElem? hx)
      have hlen := mkTo_len HK.out id48 k
      have hcrl := hlen.2.1
      have hpil := hlen.2.2
      have h16 : x.word.size ≤ 16 := hword.1
      have HX := Lib.hid hx
      have HW := Lib.hid hword
      have J0 := Lib.hid (MakeJ.start hI.out k (2 * x.pos + 1) x)
      clear hx hword hlen
      rcases hkind with hk1 | ⟨hk2, hw0⟩
      · obtain ⟨wo, rfl⟩ : ∃ wo : World, wo = wr := ⟨_, rfl⟩
        have hkb : (x.kind == 2) = false := by rw [hk1]; rfl
        have HK1 := Lib.hid hk1
        clear hk1
        have hs2 : (((wo.alloc (.cells #[.int .i64 k] 3)).alloc (.cells #[.int .i64 x.kind, .int .i64 x.pos, .string x.word] 56)).alloc (.cells #[.int .i64 (2 * x.pos + 1)] 3)).cell? ⟨wo.heap.size + 1, 2, none⟩ = some (.string x.word) := by rw [J0.out.x8.cell]; rfl
        go_wp2
        go_loopw [50] (fun j wr' => ∃ (j' : Nat) (vC vP : Value) (st : Cl), j' ≤ x.word.size ∧ j = .int .i64 j' ∧ Hid (MakeJ w wr' p (some ⟨b, o, none⟩) ws.length cap w1.heap.size w2.heap.size wo.heap.size vC vP st k (2 * x.pos + 1) x) ∧ Hid (st = (x.word.data.toList.take j').foldl (stL k (2 * x.pos + 1)) (mkTo id48 ws k)) ∧ st.cr.length ≤ 48 * k + 3 * j' ∧ st.pins.length ≤ 17 * k + j') (fun j _ => x.word.size - (intOf j).toNat)
        case atStart => exact ⟨0, vC, vP, _, Nat.zero_le _, rfl, J0.out, rfl, by omega, by omega⟩
        case round =>
          obtain ⟨j, vC, vP, st, hj, rfl, J, hst, hncr, hnpi⟩ := hrel
          clear J0 hs2
          by_cases hltj : j < x.word.size
          · have hlet : x.word[j] ∈ letters := HW.out.2 _ (Array.getElem_mem_toList _)
            obtain ⟨c, hcc⟩ : ∃ c, x.word[j] = c := ⟨_, rfl⟩
            have hs2 : wr.cell? ⟨wo.heap.size + 1, 2, none⟩ = some (.string x.word) := by rw [J.out.x8.cell]; rfl
            have hl8 := J.out.x8.lt
            have HST : Hid (stL k (2 * x.pos + 1) st c = (x.word.data.toList.take (j + 1)).foldl (stL k (2 * x.pos + 1)) (mkTo id48 ws k)) := by
              have e : x.word.data.toList[j]? = some c := by rw [← hcc]; exact List.getElem?_eq_getElem (by simpa using hltj)
              rw [List.take_add_one, e, hst.out, List.foldl_append]
              rfl
            by_cases hP : c = 80
            · have hb80 : ((x.word[j].toNat : Int) == 80) = true := by rw [hcc, hP]; rfl
              have HP := Lib.hid hP
              clear hcc hP hlet
              go_wp2_with (go_at_call 22; refine (pin_mid _ _ _ _ (2 * p) k (2 * x.pos + 1) (2 * x.pos + 1).toNat (by omega) vC vP st.line w.heap.size _ _ _ J.out.I.c J.out.i7 J.out.m9 J.out.I.l J.out.I.len (by omega) J.out.I.hp (by omega) J.out.I.g.size).mono ?_; rintro e w3 ⟨rfl, vP', hb3, ho3, ht3⟩; have J1 := Lib.hid (J.out.pin hb3 ho3 ht3); clear hb3 ho3 ht3 J)
              go_roundw
              case rel =>
                refine ⟨j + 1, vC, vP', _, by omega, by go_num, J1.out, ?_, by simp only; omega, by simp only [List.length_append, List.length_singleton]; omega⟩
                rw [← HST.out, stL, if_pos HP.out]
                rfl
              case measure => simp [intOf]; omega
            · have hb80 : ((x.word[j].toNat : Int) == 80) = false := by
                rw [hcc]
                have : ((c.toNat : Int) == ((80 : UInt8).toNat : Int)) = (c == 80) := u8_beq c 80
                rw [show (80 : Int) = ((80 : UInt8).toNat : Int) from rfl, this]
                simpa using hP
              have hlc : c ∈ letters := hcc ▸ hlet
              have hw1 : (x.word.extract j (j + 1)).data.toList = [c] := by
                rw [← hcc]
                have hj' : j < x.word.data.size := hltj
                simp only [ByteArray.data_extract, Array.toList_extract]
                rw [List.extract_eq_take_drop, List.drop_eq_getElem_cons (by simpa using hj')]
                simp
                rfl
              have hokw : okWord (x.word.extract j (j + 1)).data.toList := by
                rw [hw1]
                exact ⟨by simp, by simpa using hlc⟩
              have HCR := Lib.hid (Crossings_any (x.word.extract j (j + 1)) wr hokw)
              have HL : Hid (crL (x.word.extract j (j + 1)).data.toList = cr3 (tw c) 3) := by rw [hw1]; simp [crL, Hid]
              have HP := Lib.hid hP
              clear hcc hP hlet hlc hw1 hokw
              go_wp2_with (go_at_call 23; refine HCR.out.mono ?_; rintro e w3 ⟨v, rfl, hown, hg3⟩; rw [HL.out] at hown; obtain ⟨aM, capM, rfl, _, _, _⟩ := own_arr hown; have J1 := Lib.hid (J.out.grow hg3); have HM := Lib.hid (own_base hown J.out.I.g.size); clear hown hg3 J)
              have hLlen := cr3_len (tw c) 3
              obtain ⟨L, hLdef⟩ : ∃ L, cr3 (tw c) 3 = L := ⟨_, rfl⟩
              have HLM := Lib.hid (cr3_mem c)
              rw [hLdef] at HM hLlen HLM
              have HLD := Lib.hid hLdef
              rw [hLdef]
              clear hLdef HCR HL
              obtain ⟨wj, rfl⟩ : ∃ wj : World, wj = wr := ⟨_, rfl⟩
              go_loopw [72] (fun q wr' => ∃ (q' : Nat) (vC : Value) (st' : Cl), q' ≤ L.length ∧ q = .int .i64 q' ∧ Hid (MakeJ w wr' p (some ⟨b, o, none⟩) ws.length cap w1.heap.size w2.heap.size wo.heap.size vC vP st' k (2 * x.pos + 1) x) ∧ Hid (st' = (L.take q').foldl (stC k (2 * x.pos + 1)) st) ∧ st'.cr.length ≤ 48 * k + 3 * j + q' ∧ st'.pins.length ≤ 17 * k + j ∧ Hid (wr'.ownsRow w.heap.size 3 1 (.slice aM L.length capM) L.length (L.map (Value.int .i64)))) (fun q _ => L.length - (intOf q).toNat)
              case atStart => exact ⟨0, vC, st, Nat.zero_le _, rfl, J1.out, rfl, by omega, hnpi, HM.out⟩
              case round =>
                obtain ⟨q, vC, st', hq, rfl, J, hst', hncr', hnpi', HM⟩ := hrel
                clear J1
                by_cases hltq : q < L.length
                · obtain ⟨bM, oM, n, hn, rfl, hbM, hcM⟩ := (Ar.of_ints (own_ar HM.out).1).int hltq
                  obtain ⟨hn0, hn1, hn2⟩ := HLM.out n (List.mem_of_getElem? hn)
                  have HST2 : Hid (stC k (2 * x.pos + 1) st' n = (L.take (q + 1)).foldl (stC k (2 * x.pos + 1)) st) := by
                    rw [List.take_add_one, hn, hst'.out, List.foldl_append]
                    rfl
                  obtain ⟨m, hm⟩ : ∃ m, max n (-n) = m := ⟨_, rfl⟩
                  have hm1 : 1 ≤ m ∧ m ≤ 3 := by omega
                  obtain ⟨kk, hkk⟩ : ∃ kk : Nat, 2 * x.pos + 1 - 2 + m = kk := ⟨(2 * x.pos + 1 - 2 + m).toNat, by omega⟩
                  have hk46 : kk ≤ 46 := by omega
                  have hlen := J.out.I.len
                  obtain ⟨ya, hya⟩ : ∃ ya, st'.line.getD kk 0 = ya := ⟨_, rfl⟩
                  obtain ⟨yb, hyb⟩ : ∃ yb, st'.line.getD (kk + 1) 0 = yb := ⟨_, rfl⟩
                  have hya' : st'.line[kk]? = some ya := by rw [← hya, List.getD_eq_getElem?_getD, List.getElem?_eq_getElem (by omega)]; rfl
                  have hyb' : st'.line[kk + 1]? = some yb := by rw [← hyb, List.getD_eq_getElem?_getD, List.getElem?_eq_getElem (by omega)]; rfl
                  have HSC : Hid (stC k (2 * x.pos + 1) st' n = { line := (st'.line.set kk yb).set (kk + 1) ya, cr := st'.cr ++ [⟨k, kk, if n < 0 then yb else ya, if n < 0 then ya else yb⟩], pins := st'.pins }) := by
                    unfold Hid stC swapL
                    rw [hm, hkk, Int.toNat_natCast, hya, hyb]
                  have h70 : wr.cell? ⟨wo.heap.size, 0, none⟩ = some (.int .i64 k) := by rw [J.out.i7.cell]; rfl
                  have h90 : wr.cell? ⟨wo.heap.size + 1 + 1, 0, none⟩ = some (.int .i64 (2 * x.pos + 1)) := by rw [J.out.m9.cell]; rfl
                  have h6a : wr.cell? ⟨w2.heap.size, kk, none⟩ = some (.int .i64 ya) := by rw [J.out.I.l.cell, lineC_get, hya']; rfl
                  have h6b : wr.cell? ⟨w2.heap.size, kk + 1, none⟩ = some (.int .i64 yb) := by rw [J.out.I.l.cell, lineC_get, hyb']; rfl
                  have h51 : wr.cell? ⟨w1.heap.size, 1, none⟩ = some vC := by rw [J.out.I.c.cell]; rfl
                  have f51 := J.out.I.c.frozen 1
                  have l7 := J.out.i7.lt
                  have l9 := J.out.m9.lt
                  have l6 := J.out.I.l.lt
                  have l5 := J.out.I.c.lt
                  have HM1 := Lib.hid hm
                  have HKK := Lib.hid hkk
                  have HYA := Lib.hid hya'
                  have HYB := Lib.hid hyb'
                  clear hn hya hyb hya' hyb' HST
                  clear hm hkk
                  by_cases hneg : n < 0
                  · have hkk' : 2 * x.pos + 1 - 2 + -n = (kk : Int) := by have := HM1.out; have := HKK.out; omega
                    go_wp2_with fail
                    go_region
                    go_wp2_with (first | (at_builtin; refine wpList_app1g (wr.alloc (.cells #[.int .i64 k, .int .i64 kk, .int .i64 yb, .int .i64 ya] 65)).drew (wr.heap.size + 1) (by simp) rfl _ _ 29 rfl w.heap.size 65 i0 _ 4 32 Try.underlying29 hi0 hz0 hz1 hz2 rfl (by decide) vC st'.cr.length _ rfl ((J.out.I.hc.alloc _).drew) [.int .i64 k, .int .i64 kk, .int .i64 yb, .int .i64 ya] rfl rfl (by simp [Value.oneCell']) (by unfold maxLen; omega) (by omega) (by have := J.out.I.g.size; simp; omega) ?_; intro g4 cap4 w4 hown4 hgrow4; have C4 := make_cross1 J.out hgrow4; have hc4 := cell2 C4; have f4 := C4.frozen 1; have J4 := Lib.hid (make_cross2 (q := ⟨k, kk, yb, ya⟩) J.out hown4 hgrow4); have HM4 := Lib.hid (make_cross3 (v := .slice (some ⟨g4, 0, none⟩) (st'.cr.length + 1) cap4) J.out HM.out hgrow4); clear hown4 hgrow4 C4) | (go_at_call 24; refine (swap_any _ _ kk ya yb _ _ J4.out.I.l J4.out.I.len HYA.out HYB.out).mono ?_; rintro e w5 ⟨rfl, hb6, hg6⟩; have J5 := Lib.hid (J4.out.swap hb6 (by simp only [List.length_set]; exact J4.out.I.len) hg6); have HM5 := Lib.hid (own_turn HM4.out (Turn.grown (S := fun k => k = w2.heap.size) hg6 (fun k e => by cases e; rfl)) (fun k hk => J4.out.I.l.not_row (by decide) HM4.out k hk)); clear hb6 hg6 J4 HM4 J HM))
                    go_roundw
                    case rel =>
                      refine ⟨q + 1, _, _, by omega, by go_num, J5.out, ?_, by simp only [List.length_append, List.length_singleton]; omega, hnpi', HM5.out⟩
                      rw [← HST2.out, HSC.out]
                      show _ = _
                      simp only [if_pos hneg]
                    case measure => simp [intOf]; omega
                  · have hkk' : 2 * x.pos + 1 - 2 + n = (kk : Int) := by have := HM1.out; have := HKK.out; omega
                    go_wp2_with fail
                    go_region
                    go_wp2_with (first | (at_builtin; refine wpList_app1g (wr.alloc (.cells #[.int .i64 k, .int .i64 kk, .int .i64 ya, .int .i64 yb] 65)).drew (wr.heap.size + 1) (by simp) rfl _ _ 29 rfl w.heap.size 65 i0 _ 4 32 Try.underlying29 hi0 hz0 hz1 hz2 rfl (by decide) vC st'.cr.length _ rfl ((J.out.I.hc.alloc _).drew) [.int .i64 k, .int .i64 kk, .int .i64 ya, .int .i64 yb] rfl rfl (by simp [Value.oneCell']) (by unfold maxLen; omega) (by omega) (by have := J.out.I.g.size; simp; omega) ?_; intro g4 cap4 w4 hown4 hgrow4; have C4 := make_cross1 J.out hgrow4; have hc4 := cell2 C4; have f4 := C4.frozen 1; have J4 := Lib.hid (make_cross2 (q := ⟨k, kk, ya, yb⟩) J.out hown4 hgrow4); have HM4 := Lib.hid (make_cross3 (v := .slice (some ⟨g4, 0, none⟩) (st'.cr.length + 1) cap4) J.out HM.out hgrow4); clear hown4 hgrow4 C4) | (go_at_call 24; refine (swap_any _ _ kk ya yb _ _ J4.out.I.l J4.out.I.len HYA.out HYB.out).mono ?_; rintro e w5 ⟨rfl, hb6, hg6⟩; have J5 := Lib.hid (J4.out.swap hb6 (by simp only [List.length_set]; exact J4.out.I.len) hg6); have HM5 := Lib.hid (own_turn HM4.out (Turn.grown (S := fun k => k = w2.heap.size) hg6 (fun k e => by cases e; rfl)) (fun k hk => J4.out.I.l.not_row (by decide) HM4.out k hk)); clear hb6 hg6 J4 HM4 J HM))
                    go_roundw
                    case rel =>
                      refine ⟨q + 1, _, _, by omega, by go_num, J5.out, ?_, by simp only [List.length_append, List.length_singleton]; omega, hnpi', HM5.out⟩
                      rw [← HST2.out, HSC.out]
                      show _ = _
                      simp only [if_neg (show ¬ n < 0 by omega)]
                    case measure => simp [intOf]; omega
                · have hq' : q = L.length := by omega
                  subst hq'
                  go_wp2
                  go_roundw
                  case rel =>
                    refine ⟨j + 1, vC, vP, st', by omega, by go_num, J.out, ?_, by omega, by omega⟩
                    rw [← HST.out, stL, if_neg HP.out, HLD.out, hst'.out, List.take_of_length_le (Nat.le_refl _)]
                    rfl
                  case measure => simp [intOf]; omega
          · have hj' : j = x.word.size := by omega
            subst hj'
            go_wp2
            go_roundw
            case rel =>
              refine ⟨k + 1, vC, vP, by omega, by go_num, ?_⟩
              have e : mkTo id48 ws (k + 1) = st := by
                rw [mkTo_some id48 HX.out, stW, stK, if_neg (by rw [HK1.out]; decide), hst.out, List.take_of_length_le (by simp)]
              rw [e]
              exact J.out.I
            case measure => simp [intOf]; omega
      · have hw : x.word.size = 0 := by have := congrArg List.length hw0; simpa using this
        have HW0 := Lib.hid hw0
        have hkb : (x.kind == 2) = true := by rw [hk2]; rfl
        have HK2 := Lib.hid hk2
        clear hw0 hk2
        go_wp2_with (go_at_call 22; go_must (refine (pin_mid _ _ _ _ (2 * p) k (2 * x.pos + 1) (2 * x.pos + 1).toNat (by omega) vC vP (mkTo id48 ws k).line w.heap.size _ _ _ J0.out.I.c J0.out.i7 J0.out.m9 J0.out.I.l J0.out.I.len (by omega) J0.out.I.hp (by omega) J0.out.I.g.size).mono ?_); rintro e w3 ⟨rfl, vP', hb3, ho3, ht3⟩; have J1 := Lib.hid (J0.out.pin hb3 ho3 ht3); clear hb3 ho3 ht3 J0; have hs2 : w3.cell? ⟨wr.heap.size + 1, 2, none⟩ = some (.string x.word) := (by rw [J1.out.x8.cell]; rfl))
        refine wp_loop_rounds 1 ?_
        rw [rounds_succ]
        go_wp2
        go_roundw
        case rel =>
          refine ⟨k + 1, vC, vP', by omega, by go_num, ?_⟩
          rw [mkTo_some id48 HX.out, stW, HW0.out, stK, if_pos HK2.out]
          exact J1.out.I
        case measure => simp [intOf]; omega
    · have hk' : k = ws.length := by omega
      subst hk'
      obtain ⟨aC, cC, rfl, hAC, hC1, hC2⟩ := own_arr hI.out.hc
      obtain ⟨aP, cP, rfl, hAP, hP1, hP2⟩ := own_arr hI.out.hp
      have h50 : wr.cell? ⟨w1.heap.size, 0, none⟩ = some (.int .i64 (2 * p)) := by rw [hI.out.c.cell]; rfl
      have h51 : wr.cell? ⟨w1.heap.size, 1, none⟩ = some (.slice aC (mkTo id48 ws ws.length).cr.length cC) := by rw [hI.out.c.cell]; rfl
      have h52 : wr.cell? ⟨w1.heap.size, 2, none⟩ = some (.slice aP (mkTo id48 ws ws.length).pins.length cP) := by rw [hI.out.c.cell]; rfl
      obtain ⟨st, hst⟩ : ∃ st, mkTo id48 ws ws.length = st := ⟨_, rfl⟩
      rw [hst] at hI h51 h52 hAC hAP hC1 hP1 ⊢
      have HC := Lib.hid (⟨hC1, hC2, hP1, hP2, hAC, hAP⟩ : st.cr.length ≤ cC ∧ cC ≤ maxLen ∧ st.pins.length ≤ cP ∧ cP ≤ maxLen ∧ Arr wr aC _ ∧ Arr wr aP _)
      replace hst := Lib.hid hst
      clear hC1 hC2 hP1 hP2 hAC hAP
      go_wp2_with (refine wpList_store_row rfl 32 _ _ rfl (w.heap.size + 1) #[.int .i64 (2 * p), .slice aC st.cr.length cC, .slice aP st.pins.length cP] rfl rfl 32 _ hI.out.r0 (by kernel_rfl) rfl (one3 rfl rfl rfl) ?_)
      have hr := hI.out.r0.row #[.int .i64 (2 * p), .slice aC st.cr.length cC, .slice aP st.pins.length cP]
      have ht : Turn (fun k => k = w.heap.size + 1) wr (wr.setRow (w.heap.size + 1) #[.int .i64 (2 * p), .slice aC st.cr.length cC, .slice aP st.pins.length cP]) := Turn.grown (grownBy_setRow _ _ _) (fun k e => by cases e; rfl)
      have r0 := hr.cell 0
      have r1 := hr.cell 1
      have r2 := hr.cell 2
      have hcC := own_turn hI.out.hc ht (fun k hk => hI.out.r0.not_row (by decide) hI.out.hc k hk)
      have hcP := own_turn hI.out.hp ht (fun k hk => hI.out.r0.not_row (by decide) hI.out.hp k hk)
      refine bodyPost_ret (v := .tuple #[.agg #[.int .i64 (2 * p), .slice aC st.cr.length cC, .slice aP st.pins.length cP], .int .i64 0]) ?_ rfl ?_
      · simp [results, Try.results5, go_sem, r0, r1, r2]
      rw [hst.out]
      exact ⟨aC, cC, aP, cP, rfl, (own_ar hcC).1, (own_ar hcP).1, HC.out.1, HC.out.2.1, HC.out.2.2.1, HC.out.2.2.2.1, hI.out.g.trans (ht.below hI.out.g.size (fun k hk => by omega))⟩
end Go.Proofs.Ytefdncpdlgakpaa
