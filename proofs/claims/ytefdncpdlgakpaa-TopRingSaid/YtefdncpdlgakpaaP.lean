import Derived.Test.YtefdncpdlgakpaaO
namespace Go.Proofs.Ytefdncpdlgakpaa
open Go.RowKit
attribute [local go_sem] Oper.semAt_some

/-! slices.AppendSeq, Collect, seams.Loops. -/

theorem wpListIn_app1 {F : Fence} {r : Nat} {P : Program} {ops : Array Oper} {rest : List Oper} {o : Oper} {a : Act} {Q : Exit → Act → World → Prop} (w : World) (hgd : o.guard = none) (s x : Operand) (t : TypeId)
    (ho : o.op = .call { callee := .builtin .append, args := #[s, x], argTypes := #[t, t] })
    (base : Nat) (e : TypeId) (i : TypeInfo) (z : Value) (size bytes : Nat) (ht : P.underlying t = some (.slice e)) (hi : P.info? e = some i) (hz : i.zero = some z)
    (hsize : i.size = size) (hby : i.bytes = bytes) (hzs : z.cells.size = size) (hsz : 0 < size)
    (v : Value) (n : Nat) (xs : List Value) (hs : a.eval s = v) (hown : w.ownsRow base e size v n xs) (news : List Value)
    (hx : a.eval x = .slice (some ⟨w.heap.size, 0, none⟩) 1 1) (hl : news.length = size) (h1 : ∀ u ∈ news, u.oneCell' = true)
    (h63 : n + 1 ≤ maxLen) (hbytes : (n + 1) * bytes ≤ 140737488355328) (hbase : base ≤ w.heap.size)
    (h : ∀ g cap w', w'.ownsRow base e size (.slice (some ⟨g, 0, none⟩) (n + 1) cap) (n + 1) (xs ++ news) → (w.alloc (.cells news.toArray e)).grownBy w' v.ownBlock → wpListIn F r P ops Q rest (a.put o.dst (.slice (some ⟨g, 0, none⟩) (n + 1) cap)) w') :
    wpListIn F r P ops Q (o :: rest) a (w.alloc (.cells news.toArray e)) :=
  wpListIn_append_own _ hgd s x t ho base e i z size bytes ht hi hz hsize hby hzs hsz v n xs hs (hown.alloc _) ⟨w.heap.size, 0, none⟩ 1 1 news hx (by omega)
    (fun j u hu => by
      have hadd : (⟨w.heap.size, 0, none⟩ : Addr).add j = ⟨w.heap.size, j, none⟩ := by unfold Addr.add; split <;> simp_all
      rw [hadd, World.cell?_alloc_at _ _ _ _ rfl]
      simpa using hu)
    h1 h63 hbytes (by simp; omega) (fun v' w' h2 h3 _ => by
      obtain ⟨g, cap, rfl⟩ := ownsRow_succ h2
      exact h g cap w' h2 h3)

theorem own_blk {w : World} {base : Nat} {e : TypeId} {size n : Nat} {v : Value} {xs : List Value} (h : w.ownsRow base e size v n xs) {k : Nat} (hk : v.ownBlock = some k) : ∃ cs, w.heap[k]? = some (.cells cs e (0, 0)) := by
  rcases h.2 with ⟨rfl, _⟩ | ⟨g, cap, cur, rfl, _, hg, _⟩
  · simp [Value.ownBlock] at hk
  · obtain rfl : g = k := by simpa [Value.ownBlock] using hk
    exact ⟨cur, hg⟩

structure SeqJ (B0 bB : Nat) (out : List (List Int)) (base : Nat) (W : World) (v : Value) (vs : List Value) : Prop where
  box : Blk W bB #[v] 38
  row : W.ownsRow B0 43 1 v out.length vs
  el : ∀ (i : Nat) (u : Value) (l : List Int), vs[i]? = some u → out[i]? = some l → W.ownsRow B0 3 1 u l.length (l.map (Value.int .i64)) ∧ ∀ k, u.ownBlock = some k → k < base
  lb : bB < base
  lr : ∀ k, v.ownBlock = some k → k < base

theorem SeqJ.turn {B0 bB : Nat} {out : List (List Int)} {base : Nat} {W W' : World} {v : Value} {vs : List Value} {S : Nat → Prop} (h : SeqJ B0 bB out base W v vs) (ht : Turn S W W')
    (hS : ∀ k cs T fr, W.heap[k]? = some (.cells cs T fr) → k < base → T ≠ 96 → ¬ S k) : SeqJ B0 bB out base W' v vs := by
  refine ⟨h.box.turn ht (hS _ _ _ _ h.box h.lb (by decide)), own_turn h.row ht (fun k hk => ?_), fun i u l hu hl => ?_, h.lb, h.lr⟩
  · obtain ⟨cs, e⟩ := own_blk h.row hk
    exact hS _ _ _ _ e (h.lr k hk) (by decide)
  · obtain ⟨h1, h2⟩ := h.el i u l hu hl
    refine ⟨own_turn h1 ht (fun k hk => ?_), h2⟩
    obtain ⟨cs, e⟩ := own_blk h1 hk
    exact hS _ _ _ _ e (h2 k hk) (by decide)

/-- the slice v owns the slices out -/
def OwnLL (B0 : Nat) (W : World) (v : Value) (out : List (List Int)) : Prop :=
  ∃ vs, W.ownsRow B0 43 1 v out.length vs ∧ ∀ (i : Nat) (u : Value) (l : List Int), vs[i]? = some u → out[i]? = some l → W.ownsRow B0 3 1 u l.length (l.map (Value.int .i64))

theorem OwnLL.turn {B0 : Nat} {W W' : World} {v : Value} {out : List (List Int)} {S : Nat → Prop} (h : OwnLL B0 W v out) (ht : Turn S W W') (hS : ∀ k cs T fr, W.heap[k]? = some (.cells cs T fr) → B0 ≤ k → (T = 43 ∨ T = 3) → ¬ S k) : OwnLL B0 W' v out := by
  obtain ⟨vs, h1, h2⟩ := h
  refine ⟨vs, own_turn h1 ht (fun k hk => ?_), fun i u l hu hl => own_turn (h2 i u l hu hl) ht (fun k hk => ?_)⟩
  · obtain ⟨cs, e⟩ := own_blk h1 hk
    exact hS _ _ _ _ e (h1.lt k hk).1 (.inl rfl)
  · obtain ⟨cs, e⟩ := own_blk (h2 i u l hu hl) hk
    exact hS _ _ _ _ e ((h2 i u l hu hl).lt k hk).1 (.inr rfl)

theorem OwnLL.grow {B0 : Nat} {W W' : World} {v : Value} {out : List (List Int)} (h : OwnLL B0 W v out) (hg : Grow W W') : OwnLL B0 W' v out :=
  h.turn (S := fun _ => False) (Turn.grow hg) (fun _ _ _ _ _ _ _ e => e)
theorem OwnLL.base {B0 B1 : Nat} {W : World} {v : Value} {out : List (List Int)} (h : OwnLL B0 W v out) (hb : B1 ≤ B0) : OwnLL B1 W v out := by
  obtain ⟨vs, h1, h2⟩ := h
  exact ⟨vs, own_base h1 hb, fun i u l hu hl => own_base (h2 i u l hu hl) hb⟩

theorem not_bodyB_int {W : World} {k : Nat} {cs : Array Value} {fr : Nat × Nat} (h : W.heap[k]? = some (.cells cs 3 fr)) : ¬ bodyB W k := by
  rintro ⟨cs', T', fr', he, ht⟩
  rw [h] at he
  simp at he
  rcases ht with rfl | rfl <;> simp_all

/-- a round of AppendSeq -/
theorem seq_step {B0 bB base l g' cap' : Nat} {out : List (List Int)} {x : List Int} {W w5 : World} {v u : Value} {vs : List Value} {rd bs o : Obj} (hrd : rd.isCells = false) (hbs : bs.isCells = false) (h : SeqJ B0 bB out base W v vs) (hB : B0 ≤ base) (hB2 : B0 ≤ bB) (hb : base ≤ W.heap.size) (hu : W.ownsRow base 3 1 u x.length (x.map (Value.int .i64)))
    (hl : W.heap[l]? = some rd) (ho : w5.ownsRow B0 43 1 (.slice (some ⟨g', 0, none⟩) (out.length + 1) cap') (out.length + 1) (vs ++ [u])) (hg : ((W.putObj l bs).alloc o).grownBy w5 v.ownBlock) :
    (w5.setCell ⟨bB, 0, none⟩ (.slice (some ⟨g', 0, none⟩) (out.length + 1) cap')).heap[l]? = some bs ∧
    (∃ v vs, SeqJ B0 bB (out ++ [x]) w5.heap.size ((w5.setCell ⟨bB, 0, none⟩ (.slice (some ⟨g', 0, none⟩) (out.length + 1) cap')).putObj l rd) v vs) ∧
    Turn (bodyB W) W ((w5.setCell ⟨bB, 0, none⟩ (.slice (some ⟨g', 0, none⟩) (out.length + 1) cap')).putObj l rd) ∧ Below B0 W ((w5.setCell ⟨bB, 0, none⟩ (.slice (some ⟨g', 0, none⟩) (out.length + 1) cap')).putObj l rd) := by
  have hlt : l < W.heap.size := (Array.getElem?_eq_some_iff.1 hl).1
  have nl : ∀ {k : Nat} {cs : Array Value} {T : TypeId} {fr : Nat × Nat}, W.heap[k]? = some (.cells cs T fr) → k ≠ l := fun hk e => by
    subst e
    rw [hl] at hk
    cases hk
    cases hrd
  have hW2 : Turn (fun k => k = l) W (W.putObj l bs) := ⟨rfl, rfl, rfl, by simp, fun k hk hn => World.putObj_heap_other hn⟩
  have h2 : SeqJ B0 bB out base (W.putObj l bs) v vs := h.turn hW2 (fun k cs T fr hk _ _ e => nl hk e)
  have t5 : Turn (fun k => v.ownBlock = some k) (W.putObj l bs) w5 := ((Turn.refl _ _).alloc o).trans (Turn.grown hg (fun k e => e.symm))
  have t3 : Turn (fun k => v.ownBlock = some k ∨ k = bB) (W.putObj l bs) (w5.setCell ⟨bB, 0, none⟩ (.slice (some ⟨g', 0, none⟩) (out.length + 1) cap')) := (t5.mono (fun k _ e => .inl e)).setCell (.inr rfl) _
  have hvb : ∀ k, v.ownBlock = some k → bodyB W k := fun k hk => by
    obtain ⟨cs, e⟩ := own_blk h.row hk
    exact ⟨cs, _, _, e, .inr rfl⟩
  have hbb : bodyB W bB := ⟨_, _, _, h.box, .inl rfl⟩
  have t4' : Turn (fun k => v.ownBlock = some k ∨ k = bB) W ((w5.setCell ⟨bB, 0, none⟩ (.slice (some ⟨g', 0, none⟩) (out.length + 1) cap')).putObj l rd) := turn_round (Turn.refl _ _) hl t3
  have t4 : Turn (bodyB W) W ((w5.setCell ⟨bB, 0, none⟩ (.slice (some ⟨g', 0, none⟩) (out.length + 1) cap')).putObj l rd) := t4'.mono (fun k _ e => by
    rcases e with e | e
    · exact hvb k e
    · subst e; exact hbb)
  have t7 : Below B0 W ((w5.setCell ⟨bB, 0, none⟩ (.slice (some ⟨g', 0, none⟩) (out.length + 1) cap')).putObj l rd) := t4'.below (Nat.le_trans hB hb) (fun k e => by
    rcases e with e | e
    · exact (h.row.lt k e).1
    · omega)
  have hs5 : W.heap.size ≤ w5.heap.size := by have := t5.size; simpa using this
  have hb5 : Blk w5 bB #[v] 38 := (h2.box.alloc o).kept hg (fun e => h2.box.not_row (by decide) h2.row _ e.symm rfl)
  refine ⟨?_, ⟨.slice (some ⟨g', 0, none⟩) (out.length + 1) cap', vs ++ [u], ?_⟩, t4, t7⟩
  · refine t3.heap (World.putObj_heap_same hlt) (fun e => ?_)
    rcases e with e | e
    · exact absurd (hvb l e) (not_bodyB_obj hl hrd)
    · exact nl h.box e.symm
  · have hvl : vs.length = out.length := by have := h.row.1; simpa using this
    refine ⟨(hb5.set 0 _).putObj (nl h.box) rd, ?_, ?_, Nat.lt_of_lt_of_le h.box.lt hs5, fun k hk => (ho.lt k hk).2⟩
    · have e : (out ++ [x]).length = out.length + 1 := by simp
      rw [e]
      have t6 : Turn (fun k => k = bB ∨ k = l) w5 ((w5.setCell ⟨bB, 0, none⟩ (.slice (some ⟨g', 0, none⟩) (out.length + 1) cap')).putObj l rd) := by
        have := (Turn.refl (fun k => k = bB ∨ k = l) w5).setCell (b := bB) (i := 0) (.inl rfl) (.slice (some ⟨g', 0, none⟩) (out.length + 1) cap')
        exact ⟨this.os, this.tape, this.output, by simp [World.setCell], fun k hk hn => by rw [World.putObj_heap_other (fun e => hn (.inr e))]; exact this.block k hk hn⟩
      refine own_turn ho t6 (fun k hk e => ?_)
      rcases e with e | e
      · exact hb5.not_row (by decide) ho k hk e
      · obtain ⟨cs, e'⟩ := own_blk ho hk
        subst e
        rw [t5.heap (World.putObj_heap_same hlt) (fun e => absurd (hvb k e) (not_bodyB_obj hl hrd))] at e'
        cases e'
        cases hbs
    · intro i u' l' hu' hl'
      rw [List.getElem?_append] at hu' hl'
      rw [hvl] at hu'
      by_cases hi : i < out.length
      · rw [if_pos hi] at hu' hl'
        obtain ⟨h1, h2⟩ := h.el i u' l' hu' hl'
        refine ⟨own_turn h1 t4 (fun k hk => ?_), fun k hk => by have := h2 k hk; omega⟩
        obtain ⟨cs, e⟩ := own_blk h1 hk
        exact not_bodyB_int e
      · rw [if_neg hi] at hu' hl'
        have hi0 : i - out.length = 0 := by
          have := (List.getElem?_eq_some_iff.1 hl').1
          simp at this
          omega
        rw [hi0] at hu' hl'
        simp at hu' hl'
        subst hu' hl'
        refine ⟨own_base (own_turn hu t4 (fun k hk => ?_)) hB, fun k hk => by have := (hu.lt k hk).2; omega⟩
        obtain ⟨cs, e⟩ := own_blk hu hk
        exact not_bodyB_int e

theorem Try.infoSl : (Try.prog.info? 43).map (fun i => (i.zero, i.size, i.bytes)) = some (some (.slice none 0 0), 1, 24) := by kernel_rfl

set_option maxRecDepth 100000 in
set_option maxHeartbeats 1000000 in
theorem appendSeq_any (b1 bx : Nat) (next : List Int) (T : Nat) (w : World)
    (h1 : Blk w b1 #[.pointer (some ⟨bx, 0, none⟩)] 73) (hx : Blk w bx (seamC next T) 93) (hlen : next.length = 48) (hT : T ≤ 48) (hnext : ∀ t, t < T → 0 ≤ next.getD t 0 ∧ next.getD t 0 < T) :
    Calls Try.prog 42 #[.slice none 0 0, .func (.func 44) #[] #[.pointer (some ⟨b1, 0, none⟩)]] w fun e w' =>
      (∃ v, e = .returned v ∧ OwnLL w.heap.size w' v (loopsTo next T).2) ∧ Grow w w' := by
  obtain ⟨i0, hi, hz0, hz1, hz2⟩ := info_parts Try.infoSl
  have H1 := Lib.hid h1
  have HX := Lib.hid hx
  have HN := Lib.hid hnext
  clear h1 hx hnext
  refine (callsIn_wide (n := 3)).1 (callsIn_of_wp_marks Try.func42 rfl trivial ?_)
  refine wpIn_wide.2 ?_
  simp only [Try.ntmps42, List.size_toArray, List.length_cons, List.length_nil, Nat.reduceAdd, Nat.reduceSub, Array.replicate_succ, Array.replicate_zero, List.push_toArray, List.append_toArray, List.nil_append, List.cons_append]
  go_wp2
  have B0 := Blk.new w #[.slice none 0 0] 38
  have G0 : Grow w (w.alloc (.cells #[.slice none 0 0] 38)) := (Below.refl _ _).alloc (Nat.le_refl _) _
  have S0 : (w.alloc (.cells #[.slice none 0 0] 38)).heap.size = w.heap.size + 1 := by simp
  obtain ⟨ww, hww⟩ : ∃ ww, w.alloc (.cells #[.slice none 0 0] 38) = ww := ⟨_, rfl⟩
  rw [hww] at B0 G0 S0 ⊢
  have K1 := Lib.hid (H1.out.grow G0)
  have KX := Lib.hid (HX.out.grow G0)
  have LX := HX.out.lt
  have L1 := H1.out.lt
  replace B0 := Lib.hid B0
  replace G0 := Lib.hid G0
  replace S0 := Lib.hid S0
  clear hww H1 HX
  refine (wpIn_wide (n := 3)).1 ?_
  refine wpIn_range_raw rfl (by omega) (gf := 44) rfl trivial (enters_of Try.func44 (by kernel_rfl) rfl)
    (ι := List (List Int) × Nat × List Int)
    (fun i vals W => (∃ v vs, SeqJ w.heap.size w.heap.size i.1 i.2.1 W v vs) ∧ (∃ u, vals = #[u] ∧ W.ownsRow i.2.1 3 1 u i.2.2.length (i.2.2.map (Value.int .i64))) ∧ i.2.1 ≤ W.heap.size ∧ i.1.length < 48)
    (fun i vals W W' => (∃ v vs, SeqJ w.heap.size w.heap.size (i.1 ++ [i.2.2]) W'.heap.size W' v vs) ∧ Turn (bodyB W) W W' ∧ Below w.heap.size W W')
    (fun W' => (∃ base v vs, SeqJ w.heap.size w.heap.size (loopsTo next T).2 base W' v vs) ∧ Grow w W')
    (by rintro i vals W ⟨_, ⟨u, rfl, _⟩, _⟩; rfl) ?round ?iter ?done
  case round =>
    rintro ⟨out, base, x⟩ l rd bs vals W rfl hrd hbs ⟨⟨v, vs, hS⟩, ⟨u, rfl, hu⟩, hb, hout⟩ hl hD
    obtain ⟨W2, hW2⟩ : ∃ W2, W.putObj (ww.heap.size + 1) bs = W2 := ⟨_, rfl⟩
    have hlt1 : ww.heap.size + 1 < W.heap.size := (Array.getElem?_eq_some_iff.1 hl).1
    have hS2 : SeqJ w.heap.size w.heap.size out base W2 v vs := by
      have ht : Turn (fun k => k = ww.heap.size + 1) W W2 := by
        rw [← hW2]
        exact ⟨rfl, rfl, rfl, by simp, fun k hk hn => World.putObj_heap_other hn⟩
      refine hS.turn ht (fun k cs T fr hk _ _ e => ?_)
      subst e
      rw [hl] at hk
      cases hk
      cases hrd
    have hl2 : W2.heap[ww.heap.size + 1]? = some bs := by rw [← hW2]; exact World.putObj_heap_same hlt1
    have hs2 : W2.heap.size = W.heap.size := by rw [← hW2]; simp
    have HL := Lib.hid hl
    have HU := Lib.hid hu
    have HLI := Lib.hid hl2
    have HW := Lib.hid hW2
    have hc : W2.cell? ⟨w.heap.size, 0, none⟩ = some v := by rw [hS2.box.cell]; rfl
    have hcl := hS2.box.lt
    have HS := Lib.hid hS2
    have HS1 := Lib.hid hS
    have HLT := Lib.hid hlt1
    have HS2 := Lib.hid hs2
    obtain ⟨au, cu, rfl, _, _, _⟩ := own_arr hu
    clear hl2 hS2 hu hD hS hl hlt1 hs2
    gi_wp2
    refine ⟨HL.out, ?_⟩
    clear hW2
    gi_wp2_with (gi_at_builtin; go_must (refine wpListIn_app1 W2 rfl _ _ 38 rfl w.heap.size 43 i0 (.slice none 0 0) 1 24 Try.underlying38 hi hz0 hz1 hz2 rfl (by decide) v out.length vs rfl HS.out.row [.slice au x.length cu] rfl rfl (by simp [Value.oneCell']) (by unfold maxLen; omega) (by omega) (by have := HS.out.box.lt; omega) ?_); intro g' cap' w5 hown' hgrow; have hb5 := (HS.out.box.alloc (.cells #[.slice au x.length cu] 43)).kept hgrow (fun e => HS.out.box.not_row (by decide) HS.out.row _ e.symm rfl); have hc5 : w5.cell? ⟨w.heap.size, 0, none⟩ = some v := (by rw [hb5.cell]; rfl); have hl5 := hb5.lt; have hf5 := hb5.frozen 0; have HB5 := Lib.hid hb5; have HO5 := Lib.hid hown'; have HG5 := Lib.hid hgrow; clear hb5 hown' hgrow)
    have hg5 := HG5.out
    have ho5 := HO5.out
    rw [← HW.out] at hg5
    exact seq_step hrd hbs HS1.out (Nat.le_of_lt HS1.out.lb) (Nat.le_refl _) hb HU.out HL.out ho5 hg5
  case iter =>
    rintro l rd rfl hrd hY
    refine callsIn_wide.2 ?_
    have hA1 : (ww.alloc (.deferred (some []))).heap.size = ww.heap.size + 1 := by simp
    have hA2 : ((ww.alloc (.deferred (some []))).alloc rd).heap.size = ww.heap.size + 2 := by simp
    have hS0 := S0.out
    have hG2 : Grow ww ((ww.alloc (.deferred (some []))).alloc rd) := ((Below.refl _ _).alloc (Nat.le_refl _) _).alloc (by simp) _
    refine (loops1_in (3 - 1) (ww.heap.size + 1) ww.heap.size b1 bx rd next T ((ww.alloc (.deferred (some []))).alloc rd) (fun out base W => (∃ v vs, SeqJ w.heap.size w.heap.size out base W v vs) ∧ Grow w W) (K1.out.grow hG2) (KX.out.grow hG2) hlen hT HN.out ?_ hrd ?_ ?_ ?_ ?_).mono ?_
    · have := World.alloc_heap_new (ww.alloc (.deferred (some []))) rd
      rwa [hA1] at this
    · exact (Below.heap_alloc _ _ _ (by simp)).trans (World.alloc_heap_new ww _)
    · refine ⟨⟨_, [], B0.out.grow hG2, World.ownsRow_nil _ _ _ _, fun i u l hu => by simp at hu, by omega, fun k hk => by simp [Value.ownBlock] at hk⟩, G0.out.trans (hG2.mono (by omega))⟩
    · rintro out base W W' ⟨⟨v, vs, h⟩, hg⟩ ht
      refine ⟨⟨v, vs, h.turn ht (fun k cs T fr hk hlt hne e => ?_)⟩, ?_⟩
      · rcases e with e | ⟨_, cs', fr', e⟩
        · omega
        · rw [hk] at e
          simp at e
          exact hne e.2.1
      · refine hg.trans (ht.below hg.size (fun k e => ?_))
        rcases e with e | ⟨e, _⟩
        · have := h.lb; omega
        · omega
    · rintro out base x W v ⟨⟨v0, vs, h⟩, hg⟩ hb ho hne hown hl hD
      refine Exists.elim (hY (out, base, x) #[v] W ⟨⟨v0, vs, h⟩, ⟨v, rfl, hown⟩, hb, ho⟩ hl hD) ?_
      rintro fn ⟨tm, ac, bo, hy, hR⟩
      refine ⟨fn, tm, ac, bo, hy, hR.mono ?_⟩
      rintro e W' ⟨rfl, ⟨hS, ht, hb⟩, hl'⟩
      exact ⟨rfl, ⟨hS, hg.trans hb⟩, ht, hl'⟩
    · rintro e W' ⟨rfl, ⟨base, ⟨v, vs, h⟩, hg⟩, hl, hD⟩
      exact ⟨⟨_, rfl⟩, ⟨⟨base, v, vs, h⟩, hg⟩, hl, hD⟩
  case done =>
    rintro W rd ex hrd hex ⟨⟨base, v, vs, h⟩, hg⟩ hl hD
    have nl : ∀ {k l : Nat} {o : Obj}, W.heap[l]? = some o → o.isCells = false → ∀ cs T fr, W.heap[k]? = some (.cells cs T fr) → k ≠ l := fun hl ho cs T fr hk e => by
      subst e
      rw [hl] at hk
      cases hk
      cases ho
    have hlt : ww.heap.size + 1 < W.heap.size := (Array.getElem?_eq_some_iff.1 hl).1
    have hltD : ww.heap.size < W.heap.size := (Array.getElem?_eq_some_iff.1 hD).1
    have hD2 : (W.putObj (ww.heap.size + 1) ex).heap[ww.heap.size]? = some (.deferred (some [])) := (World.putObj_heap_other (by omega)).trans hD
    have hT2 : Turn (fun k => k = ww.heap.size + 1 ∨ k = ww.heap.size) W ((W.putObj (ww.heap.size + 1) ex).putObj ww.heap.size (.deferred none)) :=
      ⟨rfl, rfl, rfl, by simp, fun k hk hn => by rw [World.putObj_heap_other (fun e => hn (.inr e)), World.putObj_heap_other (fun e => hn (.inl e))]⟩
    have hR2 : SeqJ w.heap.size w.heap.size (loopsTo next T).2 base ((W.putObj (ww.heap.size + 1) ex).putObj ww.heap.size (.deferred none)) v vs := h.turn hT2 (fun k cs T fr hk _ _ e => by
      rcases e with e | e
      · exact nl hl hrd cs T fr hk e
      · exact nl hD rfl cs T fr hk e)
    have hc : (W.putObj (ww.heap.size + 1) ex).cell? ⟨w.heap.size, 0, none⟩ = some v := by rw [(h.box.putObj (nl hl hrd _ _ _ h.box) ex).cell]; rfl
    have hcl := (h.box.putObj (nl hl hrd _ _ _ h.box) ex).lt
    have hG : Grow w ((W.putObj (ww.heap.size + 1) ex).putObj ww.heap.size (.deferred none)) := hg.trans (hT2.below hg.size (fun k e => by have := S0.out; omega))
    have HD2 := Lib.hid hD2
    have HR2 := Lib.hid hR2
    have HG := Lib.hid hG
    obtain ⟨wx, hwx⟩ : ∃ wx, W.putObj (ww.heap.size + 1) ex = wx := ⟨_, rfl⟩
    rw [hwx] at hc hcl HD2 HR2 HG ⊢
    clear hT2 hR2 hG hD2 hl hD hg h nl hlt hltD hwx
    go_wp2
    refine ⟨by simp, .inl ⟨_, _, rfl, run_takeDeferred HD2.out, ?_⟩⟩
    refine ⟨_, results_tmp rfl _ _ _, ?_, HG.out⟩
    exact ⟨v, rfl, vs, HR2.out.row, fun i u l hu hl => (HR2.out.el i u l hu hl).1⟩
end Go.Proofs.Ytefdncpdlgakpaa
