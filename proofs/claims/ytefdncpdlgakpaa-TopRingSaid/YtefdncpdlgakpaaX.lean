import Derived.Test.YtefdncpdlgakpaaY
namespace Go.Proofs.Ytefdncpdlgakpaa
open Go.RowKit

/-! torchonref04.Touch, shuffled. -/
theorem touch_any (x0 x1 y0 y1 : Int) (x2 y2 : ByteArray) (w : World) (hx : -1000 ≤ x1 ∧ x1 ≤ 1000) (hy : -1000 ≤ y1 ∧ y1 ≤ 1000) : Calls Try.prog 30 #[.agg #[.int .i64 x0, .int .i64 x1, .string x2], .agg #[.int .i64 y0, .int .i64 y1, .string y2]] w fun e w' => e = .returned (.bool (decide (x1 - y1 ≤ 1 ∧ y1 - x1 ≤ 1))) ∧ Grow w w' := by
  by_cases h1 : x1 - y1 ≤ 1
  · by_cases h2 : y1 - x1 ≤ 1
    · go_enter Try.func30, Try.ntmps30
      go_wp2
      go_ret
      exact ⟨by simp [h1, h2], ((Below.refl _ _).alloc (Nat.le_refl _) _).alloc (by simp) _⟩
    · go_enter Try.func30, Try.ntmps30
      go_wp2
      go_ret
      exact ⟨by simp [h1, h2], ((Below.refl _ _).alloc (Nat.le_refl _) _).alloc (by simp) _⟩
  · go_enter Try.func30, Try.ntmps30
    go_wp2
    go_ret
    exact ⟨by simp; omega, ((Below.refl _ _).alloc (Nat.le_refl _) _).alloc (by simp) _⟩

theorem wanted_go {P : Program} {o : Oper} {y : Nat → Option Bool} {a : Act} {w : World} {K : Act → World → Prop} {Q : Exit → Act → World → Prop} {R : Prop} (hg : o.guard = none) (h : Oper.wp P o a w K Q) : if Region.wanted o y = true then Oper.wp P o a w K Q else R := by
  rw [if_pos (by simp [Region.wanted, hg])]
  exact h

/-- append of a whole slice, as one operation -/
theorem wp_append_arr {P : Program} {o : Oper} {a : Act} {K : Act → World → Prop} {Q : Exit → Act → World → Prop} (w : World) (s x : Operand) (t : TypeId)
    (ho : o.op = .call { callee := .builtin .append, args := #[s, x], argTypes := #[t, t] })
    (base : Nat) (e : TypeId) (i : TypeInfo) (z : Value) (size bytes : Nat) (ht : P.underlying t = some (.slice e)) (hi : P.info? e = some i) (hz : i.zero = some z)
    (hsize : i.size = size) (hby : i.bytes = bytes) (hzs : z.cells.size = size) (hsz : 0 < size)
    (v : Value) (n : Nat) (xs : List Value) (hs : a.eval s = v) (hown : w.ownsRow base e size v n xs) (ad : Option Addr) (m c : Nat) (news : List Value)
    (hx : a.eval x = .slice ad m c) (hA : Arr w ad news) (hl : news.length = m * size) (h1 : ∀ u ∈ news, u.oneCell' = true)
    (h63 : n + m ≤ maxLen) (hbytes : (n + m) * bytes ≤ 140737488355328) (hbase : base ≤ w.heap.size)
    (h : ∀ v' w', w'.ownsRow base e size v' (n + m) (xs ++ news) → w.grownBy w' v.ownBlock → K (a.put o.dst v') w') : Oper.wp P o a w K Q := by
  cases ad with
  | none =>
    have h0 : news = [] := by
      cases news with
      | nil => rfl
      | cons y ys => obtain ⟨b, o', e', _⟩ := hA (by simp); cases e'
    subst h0
    have hm : m = 0 := by
      simp only [List.length_nil] at hl
      rcases Nat.mul_eq_zero.1 hl.symm with h | h
      · exact h
      · omega
    subst hm
    have hrun : (Builtin.append_ #[t, t] o.type #[v, .slice none 0 c]).run P w = .ok v w := by
      rcases hown.2 with ⟨rfl, rfl⟩ | ⟨g, cap, cur, rfl, _, _, hnc, _⟩
      · simp [Builtin.append_, run_underlying ht, sizeOf, typeInfo, hi, Builtin.lenOf, Builtin.firstCells]
      · simp [Builtin.append_, run_underlying ht, sizeOf, typeInfo, hi, Builtin.lenOf, Builtin.firstCells, hnc, storeCells]
    unfold Oper.wp
    simp [execOp, ho, resolve, invoke, builtin, hs, hx, hrun, Result.andThen]
    exact h v w (by simpa using hown) (grownBy_refl w _)
  | some ad =>
    refine wp_append_own w s x t ho base e i z size bytes ht hi hz hsize hby hzs hsz v n xs hs hown ad m c news hx hl (fun j u hu => ?_) h1 h63 hbytes hbase (fun v' w' h2 h3 _ => h v' w' h2 h3)
    have hne : news ≠ [] := by rintro rfl; simp at hu
    obtain ⟨b, o', e', hc⟩ := hA hne
    cases e'
    rw [Addr.add_off]
    exact hc j u hu

theorem Try.infoSheet : (Try.prog.info? 24).map (·.size) = some 2 := by kernel_rfl
theorem Try.infoWork : (Try.prog.info? 56).map (fun i => (i.zero, i.size, i.bytes)) = some (some (.agg #[.int .i64 0, .int .i64 0, .string ByteArray.empty]), 3, 32) := by kernel_rfl

set_option maxRecDepth 100000 in
set_option maxHeartbeats 1000000 in
theorem shuffled_any (p : Nat) (a aq : Option Addr) (cap capq : Nat) (ws : List Wk) (at_ : List Int) (w : World) (h : Ar eW w a ws) (hok : okSh p ws) (hq : Ar (eI .u16) w aq at_) (hn : at_.length ≤ 100) (hr : ∀ x ∈ at_, 0 ≤ x ∧ x < 65536) :
    Calls Try.prog 8 #[.agg #[.int .i64 p, .slice a ws.length cap], .slice aq at_.length capq] w fun e w' =>
      (∃ v ws', e = .returned (.agg #[.int .i64 p, v]) ∧ w'.ownsRow w.heap.size 56 3 v ws.length (ws'.flatMap eW.c) ∧ okSh p ws' ∧ endL ws' = endL ws ∧ ws'.length = ws.length) ∧ Grow w w' := by
  obtain ⟨i0, hi, hz0, hz1, hz2⟩ := info_parts Try.infoWork
  have HA := Lib.hid h
  have HK := Lib.hid hok
  have HQ := Lib.hid hq
  have HR := Lib.hid hr
  have hn400 := hok.2.2.1
  clear h hok hq hr
  go_enter Try.func8, Try.ntmps8
  go_wp2_with fail
  rename_i K hK
  have hL : ∀ (bt : Nat) (aV : Option Addr) (cV : Nat) (u8 u9 u10 u11 u12 u13 u14 : Value) (W : World), W.ownsRow w.heap.size 56 3 (.slice aV ws.length cV) ws.length (ws.flatMap eW.c) → w.heap.size + 1 < bt → Blk W bt #[.int .i64 p, .slice aV ws.length cV] 24 →
      Blk W (w.heap.size + 1) #[.int .i64 0, .slice none 0 0] 24 → Grow w W → K { tmps := #[.agg #[.int .i64 p, .slice a ws.length cap], .slice aq at_.length capq, .pointer (some ⟨w.heap.size, 0, none⟩), undef, .pointer (some ⟨w.heap.size + 1, 0, none⟩), .pointer (some ⟨bt, 0, none⟩), undef, undef, u8, u9, u10, u11, u12, u13, u14, undef, undef, undef, undef, undef, undef, undef, undef, undef, undef, undef, undef, undef, undef, undef, undef, undef, undef, undef, undef, undef, undef, undef, undef, undef, undef, undef, undef, undef, undef, undef, undef, undef, undef, undef, undef, undef, undef, undef, undef, undef, undef, undef, undef, undef, undef, undef, undef, undef, undef, undef, undef, undef, undef, undef, undef], defers := [] } W := by
    intro bt aV cV u8 u9 u10 u11 u12 u13 u14 W hrow hbt hB hB1 hG
    refine hK _ _ ?_
    have HB := Lib.hid hB
    have HB1 := Lib.hid hB1
    have HG := Lib.hid hG
    have HO := Lib.hid hrow
    clear hB hB1 hG hrow hK
    go_wp2
    go_loopw [6] (fun i wr => ∃ k : Nat, k ≤ at_.length ∧ i = .int .i64 k ∧ Hid (∃ ws' : List Wk, ws'.length = ws.length ∧ okSh p ws' ∧ endL ws' = endL ws ∧ wr.ownsRow w.heap.size 56 3 (.slice aV ws.length cV) ws.length (ws'.flatMap eW.c)) ∧ Hid (Blk wr bt #[.int .i64 p, .slice aV ws.length cV] 24) ∧ Hid (Blk wr (w.heap.size + 1) #[.int .i64 0, .slice none 0 0] 24) ∧ Hid (Grow w wr)) (fun i _ => at_.length - (intOf i).toNat)
    case atStart => exact ⟨0, Nat.zero_le _, rfl, ⟨ws, rfl, HK.out, rfl, HO.out⟩, HB.out, HB1.out, HG.out⟩
    case round =>
      clear HO HB HB1 HG
      obtain ⟨k, hk, rfl, hw, hb, hb1, hg⟩ := hrel
      obtain ⟨ws', hlen, hok', hend, ho⟩ := hw.out
      have hbc1 : wr.cell? ⟨bt, 1, none⟩ = some (.slice aV ws.length cV) := by rw [hb.out.cell]; rfl
      have hb1l := hb1.out.lt
      have hbf0 := hb1.out.frozen 0
      have hbf1 := hb1.out.frozen 1
      have hbz0 : wr.cell? ⟨w.heap.size + 1, 0, none⟩ = some (.int .i64 0) := by rw [hb1.out.cell]; rfl
      have hbz1 : wr.cell? ⟨w.heap.size + 1, 1, none⟩ = some (.slice none 0 0) := by rw [hb1.out.cell]; rfl
      have hbc0 : wr.cell? ⟨bt, 0, none⟩ = some (.int .i64 p) := by rw [hb.out.cell]; rfl
      have hbl := hb.out.lt
      by_cases hlt : k < at_.length
      · by_cases h1 : 1 < ws.length
        · obtain ⟨gv, cv, hv⟩ := own_pos ho (by omega)
          cases hv
          obtain ⟨b, o, y, hy, rfl, hbb, hcy⟩ := (HQ.out.grow hg.out).int hlt
          obtain ⟨hy0, hy1⟩ := HR.out y (List.mem_of_getElem? hy)
          obtain ⟨m, rfl⟩ : ∃ m : Nat, y = m := ⟨y.toNat, by omega⟩
          obtain ⟨q, hq⟩ : ∃ q, m % (ws.length - 1) = q := ⟨_, rfl⟩
          have hqn : q < ws.length - 1 := hq ▸ Nat.mod_lt _ (by omega)
          have HMQ := Lib.hid hq
          have Hend := Lib.hid hend
          have Hok := Lib.hid hok'
          have Hlen := Lib.hid hlen
          have HO := Lib.hid ho
          clear hend hok' hlen ho hw hq hqn
          have HCY := Lib.hid hcy
          have HY1 := Lib.hid hy
          clear hcy hy0 hy1 hbb hy
          go_wp2_with fail
          have hcy := HCY.out
          go_region
          have hmq : (wrap64 (m : Int)).tmod ((ws.length : Int) - 1) = (q : Int) := by
            rw [show wrap64 (m : Int) = (m : Int) by have := (HR.out _ (List.mem_of_getElem? HY1.out)).2; unfold wrap64; omega]
            rw [Int.tmod_eq_emod_of_nonneg (by omega), show (ws.length : Int) - 1 = ((ws.length - 1 : Nat) : Int) by omega, ← Int.natCast_emod, HMQ.out]
          rw [hmq]
          have hqn : q < ws.length - 1 := HMQ.out ▸ Nat.mod_lt _ (by omega)
          obtain ⟨x, hx⟩ : ∃ x, ws'[q]? = some x := ⟨_, List.getElem?_eq_getElem (by rw [Hlen.out]; omega)⟩
          obtain ⟨z, hz⟩ : ∃ z, ws'[q + 1]? = some z := ⟨_, List.getElem?_eq_getElem (by rw [Hlen.out]; omega)⟩
          have hgc : ∀ j, j < ws.length * 3 → wr.drew.cell? ⟨gv, j, none⟩ = (ws'.flatMap eW.c)[j]? := fun j hj => HO.out.drew.cellAt j hj
          have hx0 : wr.cell? ⟨gv, q * 3, none⟩ = some (.int .i64 x.kind) := (hgc _ (by omega)).trans (flat_get eW ws' q 0 x hx (by decide))
          have hx1 : wr.cell? ⟨gv, q * 3 + 1, none⟩ = some (.int .i64 x.pos) := (hgc _ (by omega)).trans (flat_get eW ws' q 1 x hx (by decide))
          have hx2 : wr.cell? ⟨gv, q * 3 + 2, none⟩ = some (.string x.word) := (hgc _ (by omega)).trans (flat_get eW ws' q 2 x hx (by decide))
          have hz0 : wr.cell? ⟨gv, (q + 1) * 3, none⟩ = some (.int .i64 z.kind) := (hgc _ (by omega)).trans (flat_get eW ws' (q + 1) 0 z hz (by decide))
          have hz1 : wr.cell? ⟨gv, (q + 1) * 3 + 1, none⟩ = some (.int .i64 z.pos) := (hgc _ (by omega)).trans (flat_get eW ws' (q + 1) 1 z hz (by decide))
          have hz2 : wr.cell? ⟨gv, (q + 1) * 3 + 2, none⟩ = some (.string z.word) := (hgc _ (by omega)).trans (flat_get eW ws' (q + 1) 2 z hz (by decide))
          have hqZ : (q : Int) + 1 < ws.length := by omega
          have hqN : q + 1 < ws.length := by omega
          have hqM : q < ws.length := by omega
          have hqW : IntKind.i64.wrap ((q : Int) + 1) = (q : Int) + 1 := by rw [IntKind.wrap_i64]; omega
          have hq0 : 0 ≤ (q : Int) + 1 := by omega
          have HX := Lib.hid hx
          have HZ := Lib.hid hz
          clear hx hz hgc hmq hqn hcy
          go_wp2_with fail
          refine wp_region_any (by kernel_rfl) ?_
          refine wpAny_of_held (S := fun w' => w'.cell? ⟨bt, 1, none⟩ = some (.slice (some ⟨gv, 0, none⟩) ws.length cV) ∧ w'.cell? ⟨gv, q * 3, none⟩ = some (.int .i64 x.kind) ∧ w'.cell? ⟨gv, q * 3 + 1, none⟩ = some (.int .i64 x.pos) ∧ w'.cell? ⟨gv, q * 3 + 2, none⟩ = some (.string x.word) ∧ w'.cell? ⟨gv, (q + 1) * 3, none⟩ = some (.int .i64 z.kind) ∧ w'.cell? ⟨gv, (q + 1) * 3 + 1, none⟩ = some (.int .i64 z.pos) ∧ w'.cell? ⟨gv, (q + 1) * 3 + 2, none⟩ = some (.string z.word)) _ _ _ _ ?_
          have hS0 : (fun w' : World => w'.cell? ⟨bt, 1, none⟩ = some (.slice (some ⟨gv, 0, none⟩) ws.length cV) ∧ w'.cell? ⟨gv, q * 3, none⟩ = some (.int .i64 x.kind) ∧ w'.cell? ⟨gv, q * 3 + 1, none⟩ = some (.int .i64 x.pos) ∧ w'.cell? ⟨gv, q * 3 + 2, none⟩ = some (.string x.word) ∧ w'.cell? ⟨gv, (q + 1) * 3, none⟩ = some (.int .i64 z.kind) ∧ w'.cell? ⟨gv, (q + 1) * 3 + 1, none⟩ = some (.int .i64 z.pos) ∧ w'.cell? ⟨gv, (q + 1) * 3 + 2, none⟩ = some (.string z.word)) wr.drew.drew := ⟨hbc1, hx0, hx1, hx2, hz0, hz1, hz2⟩
          refine wpAnyH_take (i := 0) (v := ?tv0) rfl (by kernel_rfl) (by kernel_rfl) (by kernel_rfl) (fun _ _ _ h => h) (Or.inl ⟨by rfl, ?th0⟩) (by assumption) ?tr0
          case th0 => (intro w hSw; (try dsimp only at hSw); go_split_ands; go_simp; (try with_reducible rfl))
          simp only [Act.put, List.setIfInBounds_toArray, List.set_cons_zero, List.set_cons_succ]
          refine wpAnyH_take (i := 1) (v := ?tv1) rfl (by kernel_rfl) (by kernel_rfl) (by kernel_rfl) (fun _ _ _ h => h) (Or.inl ⟨by rfl, ?th1⟩) (by assumption) ?tr1
          case th1 => (intro w hSw; (try dsimp only at hSw); go_split_ands; go_simp; (try with_reducible rfl))
          simp only [Act.put, List.setIfInBounds_toArray, List.set_cons_zero, List.set_cons_succ]
          refine wpAnyH_take (i := 2) (v := ?tv2) rfl (by kernel_rfl) (by kernel_rfl) (by kernel_rfl) (fun _ _ _ h => h) (Or.inl ⟨by rfl, ?th2⟩) (by assumption) ?tr2
          case th2 => (intro w hSw; (try dsimp only at hSw); go_split_ands; go_simp; (try with_reducible rfl))
          simp only [Act.put, List.setIfInBounds_toArray, List.set_cons_zero, List.set_cons_succ]
          refine wpAnyH_take (i := 3) (v := ?tv3) rfl (by kernel_rfl) (by kernel_rfl) (by kernel_rfl) (fun _ _ _ h => h) (Or.inl ⟨by rfl, ?th3⟩) (by assumption) ?tr3
          case th3 => (intro w hSw; (try dsimp only at hSw); go_split_ands; go_simp; (try with_reducible rfl))
          simp only [Act.put, List.setIfInBounds_toArray, List.set_cons_zero, List.set_cons_succ]
          refine wpAnyH_take (i := 4) (v := ?tv4) rfl (by kernel_rfl) (by kernel_rfl) (by kernel_rfl) (fun _ _ _ h => h) (Or.inl ⟨by rfl, ?th4⟩) (by assumption) ?tr4
          case th4 => (intro w hSw; (try dsimp only at hSw); go_split_ands; go_simp; (try with_reducible rfl))
          simp only [Act.put, List.setIfInBounds_toArray, List.set_cons_zero, List.set_cons_succ]
          refine wpAnyH_take (i := 5) (v := ?tv5) rfl (by kernel_rfl) (by kernel_rfl) (by kernel_rfl) (fun _ _ _ h => h) (Or.inl ⟨by rfl, ?th5⟩) (by assumption) ?tr5
          case th5 => (intro w hSw; (try dsimp only at hSw); go_split_ands; go_simp; (try with_reducible rfl))
          simp only [Act.put, List.setIfInBounds_toArray, List.set_cons_zero, List.set_cons_succ]
          refine wpAnyH_take (i := 6) (v := ?tv6) rfl (by kernel_rfl) (by kernel_rfl) (by kernel_rfl) (fun _ _ _ h => h) (Or.inl ⟨by rfl, ?th6⟩) (by assumption) ?tr6
          case th6 => (intro w hSw; (try dsimp only at hSw); go_split_ands; go_simp; (try with_reducible rfl))
          simp only [Act.put, List.setIfInBounds_toArray, List.set_cons_zero, List.set_cons_succ]
          refine wpAnyH_take (i := 7) (v := ?tv7) rfl (by kernel_rfl) (by kernel_rfl) (by kernel_rfl) (fun _ _ _ h => h) (Or.inl ⟨by rfl, ?th7⟩) (by assumption) ?tr7
          case th7 => (intro w hSw; (try dsimp only at hSw); go_split_ands; go_simp; (try with_reducible rfl))
          simp only [Act.put, List.setIfInBounds_toArray, List.set_cons_zero, List.set_cons_succ]
          refine wpAnyH_take (i := 8) (v := ?tv8) rfl (by kernel_rfl) (by kernel_rfl) (by kernel_rfl) (fun _ _ _ h => h) (Or.inl ⟨by rfl, ?th8⟩) (by assumption) ?tr8
          case th8 => (intro w hSw; (try dsimp only at hSw); go_split_ands; go_simp; (try with_reducible rfl))
          simp only [Act.put, List.setIfInBounds_toArray, List.set_cons_zero, List.set_cons_succ]
          refine wpAnyH_take (i := 9) (v := ?tv9) rfl (by kernel_rfl) (by kernel_rfl) (by kernel_rfl) (fun _ _ _ h => h) (Or.inl ⟨by rfl, ?th9⟩) (by assumption) ?tr9
          case th9 => (intro w hSw; (try dsimp only at hSw); go_split_ands; go_simp; (try with_reducible rfl))
          simp only [Act.put, List.setIfInBounds_toArray, List.set_cons_zero, List.set_cons_succ]
          refine wpAnyH_take (i := 10) (v := ?tv10) rfl (by kernel_rfl) (by kernel_rfl) (by kernel_rfl) (fun _ _ _ h => h) (Or.inl ⟨by rfl, ?th10⟩) (by assumption) ?tr10
          case th10 => (intro w hSw; (try dsimp only at hSw); go_split_ands; go_simp; (try with_reducible rfl))
          simp only [Act.put, List.setIfInBounds_toArray, List.set_cons_zero, List.set_cons_succ]
          refine wpAnyH_ready (rs := [11]) (by kernel_rfl) (by simp) (AllReadyH.cons rfl (fun K11 hK11 => ?_) AllReadyH.nil)
          go_simp
          have hlgv := (HO.out.lt gv rfl).2
          have okx := Hok.out.2.2.2 x (List.mem_of_getElem? HX.out)
          have okz := Hok.out.2.2.2 z (List.mem_of_getElem? HZ.out)
          have h24 := Hok.out.2.1
          refine (touch_any x.kind x.pos z.kind z.pos x.word z.word wr.drew.drew ⟨by have := okx.2.1; omega, by have := okx.2.2.1; omega⟩ ⟨by have := okz.2.1; omega, by have := okz.2.2.1; omega⟩).mono ?_
          rintro e w5 ⟨rfl, hg5⟩
          have hg5' : Grow wr w5 := (((Below.refl _ wr).drew).drew).trans hg5
          have hS5 : (fun w' : World => w'.cell? ⟨bt, 1, none⟩ = some (.slice (some ⟨gv, 0, none⟩) ws.length cV) ∧ w'.cell? ⟨gv, q * 3, none⟩ = some (.int .i64 x.kind) ∧ w'.cell? ⟨gv, q * 3 + 1, none⟩ = some (.int .i64 x.pos) ∧ w'.cell? ⟨gv, q * 3 + 2, none⟩ = some (.string x.word) ∧ w'.cell? ⟨gv, (q + 1) * 3, none⟩ = some (.int .i64 z.kind) ∧ w'.cell? ⟨gv, (q + 1) * 3 + 1, none⟩ = some (.int .i64 z.pos) ∧ w'.cell? ⟨gv, (q + 1) * 3 + 2, none⟩ = some (.string z.word)) w5 :=
            ⟨(hg5'.cell (p := ⟨bt, 1, none⟩) hbl).trans hbc1, (hg5'.cell (p := ⟨gv, q * 3, none⟩) hlgv).trans hx0, (hg5'.cell (p := ⟨gv, q * 3 + 1, none⟩) hlgv).trans hx1, (hg5'.cell (p := ⟨gv, q * 3 + 2, none⟩) hlgv).trans hx2, (hg5'.cell (p := ⟨gv, (q + 1) * 3, none⟩) hlgv).trans hz0, (hg5'.cell (p := ⟨gv, (q + 1) * 3 + 1, none⟩) hlgv).trans hz1, (hg5'.cell (p := ⟨gv, (q + 1) * 3 + 2, none⟩) hlgv).trans hz2⟩
          have HO5 := Lib.hid (own_grow HO.out hg5')
          have HB5 := Lib.hid (hb.out.grow hg5')
          have HB15 := Lib.hid (hb1.out.grow hg5')
          have HG5 := Lib.hid (hg.out.trans (hg5'.mono hg.out.size))
          refine hK11.out _ _ hS5 (fun hS1 => ?_)
          clear hK11 K11 hS0 hS1 hbc1 hx0 hx1 hx2 hz0 hz1 hz2 okx okz h24 hg5 hg5' hlgv hbl hbc0 hb1l hbf0 hbf1 hbz0 hbz1 hb hb1 hg HO
          refine wpAnyH_take (i := 12) (v := ?tv12) rfl (by kernel_rfl) (by kernel_rfl) (by kernel_rfl) (fun _ _ _ h => h) (Or.inl ⟨by rfl, ?th12⟩) (by assumption) ?tr12
          case th12 => (intro w hSw; (try dsimp only at hSw); go_split_ands; go_simp; (try with_reducible rfl))
          simp only [Act.put, List.setIfInBounds_toArray, List.set_cons_zero, List.set_cons_succ]
          simp only [List.getElem_toArray, List.getElem_cons_succ, List.getElem_cons_zero, List.setIfInBounds_toArray, List.set_cons_zero, List.set_cons_succ]
          refine wpAnyH_done (by kernel_rfl) ?_ _
          obtain ⟨hbc1, hx0, hx1, hx2, hz0, hz1, hz2⟩ := hS5
          have hbl := HB5.out.lt
          have hlgv := (HO5.out.lt gv rfl).2
          by_cases ht : x.pos - z.pos ≤ 1 ∧ z.pos - x.pos ≤ 1
          · have ht' : (!decide (x.pos - z.pos ≤ 1) || !decide (z.pos - x.pos ≤ 1)) = false := by simp [ht.1, ht.2]
            rw [ht']
            clear ht
            go_wp2
            go_roundw
            case rel => exact ⟨k + 1, by omega, by go_num, ⟨ws', Hlen.out, Hok.out, Hend.out, HO5.out⟩, HB5.out, HB15.out, HG5.out⟩
            case measure => simp [intOf]; omega
          · have ht' : (!decide (x.pos - z.pos ≤ 1) || !decide (z.pos - x.pos ≤ 1)) = true := by simp; omega
            rw [ht']
            have HT := Lib.hid ht
            have hne1 : gv ≠ bt := HB5.out.not_row (by decide) HO5.out gv rfl
            have hne2 : bt ≠ gv := fun e => hne1 e.symm
            have hf0 := HO5.out.frozenAt (q * 3)
            have hf1 := HO5.out.frozenAt (q * 3 + 1)
            have hf2 := HO5.out.frozenAt (q * 3 + 2)
            have hf3 := HO5.out.frozenAt ((q + 1) * 3)
            have hf4 := HO5.out.frozenAt ((q + 1) * 3 + 1)
            have hf5 := HO5.out.frozenAt ((q + 1) * 3 + 2)
            clear ht
            go_wp2_with fail
            go_region
            have hgl := (HO5.out.lt gv rfl).1
            have ho6 := ((((((HO5.out.stored (q * 3) (.int .i64 z.kind)).1.stored (q * 3 + 1) (.int .i64 z.pos)).1.stored (q * 3 + 2) (.string z.word)).1.stored ((q + 1) * 3) (.int .i64 x.kind)).1.stored ((q + 1) * 3 + 1) (.int .i64 x.pos)).1.stored ((q + 1) * 3 + 2) (.string x.word)).1.drew
            rw [flat_set ws' q z (by rw [Hlen.out]; exact hqM), flat_set (ws'.set q z) (q + 1) x (by rw [List.length_set, Hlen.out]; exact hqN)] at ho6
            obtain ⟨hk1, hk2⟩ := shuf_swap Hok.out HX.out HZ.out HT.out
            have HO6 := Lib.hid ho6
            have HK1 := Lib.hid hk1
            have HK2 := Lib.hid hk2
            have HB6 := Lib.hid (((((((HB5.out.setOther ⟨gv, q * 3, none⟩ (.int .i64 z.kind) hne2).setOther ⟨gv, q * 3 + 1, none⟩ (.int .i64 z.pos) hne2).setOther ⟨gv, q * 3 + 2, none⟩ (.string z.word) hne2).setOther ⟨gv, (q + 1) * 3, none⟩ (.int .i64 x.kind) hne2).setOther ⟨gv, (q + 1) * 3 + 1, none⟩ (.int .i64 x.pos) hne2).setOther ⟨gv, (q + 1) * 3 + 2, none⟩ (.string x.word) hne2).drew)
            have hne3 : w.heap.size + 1 ≠ gv := fun e => HB15.out.not_row (by decide) HO5.out gv rfl e.symm
            have HB16 := Lib.hid (((((((HB15.out.setOther ⟨gv, q * 3, none⟩ (.int .i64 z.kind) hne3).setOther ⟨gv, q * 3 + 1, none⟩ (.int .i64 z.pos) hne3).setOther ⟨gv, q * 3 + 2, none⟩ (.string z.word) hne3).setOther ⟨gv, (q + 1) * 3, none⟩ (.int .i64 x.kind) hne3).setOther ⟨gv, (q + 1) * 3 + 1, none⟩ (.int .i64 x.pos) hne3).setOther ⟨gv, (q + 1) * 3 + 2, none⟩ (.string x.word) hne3).drew)
            have HG6 := Lib.hid (((((((HG5.out.setCell (p := ⟨gv, q * 3, none⟩) hgl (.int .i64 z.kind)).setCell (p := ⟨gv, q * 3 + 1, none⟩) hgl (.int .i64 z.pos)).setCell (p := ⟨gv, q * 3 + 2, none⟩) hgl (.string z.word)).setCell (p := ⟨gv, (q + 1) * 3, none⟩) hgl (.int .i64 x.kind)).setCell (p := ⟨gv, (q + 1) * 3 + 1, none⟩) hgl (.int .i64 x.pos)).setCell (p := ⟨gv, (q + 1) * 3 + 2, none⟩) hgl (.string x.word)).drew)
            clear ho6 hk1 hk2 hne1 hne2 hne3 hf0 hf1 hf2 hf3 hf4 hf5 hbc1 hx0 hx1 hx2 hz0 hz1 hz2 hbl hlgv
            go_wp2
            go_roundw
            case rel => exact ⟨k + 1, by omega, by go_num, ⟨_, by simp only [List.length_set]; exact Hlen.out, HK1.out, HK2.out.trans Hend.out, HO6.out⟩, HB6.out, HB16.out, HG6.out⟩
            case measure => simp [intOf]; omega
        · have HW := Lib.hid hw.out
          have h1' : ¬ 1 < (ws.length : Int) := by omega
          clear hlen hok' hend ho hw
          go_wp2
          have hb2 := (hb1.out.set 0 (.int .i64 p)).set 1 (.slice aV ws.length cV)
          have hrs := own_turn HW.out.choose_spec.2.2.2 (((Turn.refl (fun k => k = w.heap.size + 1) wr).setCell (b := w.heap.size + 1) (i := 0) rfl (.int .i64 p)).setCell (b := w.heap.size + 1) (i := 1) rfl (.slice aV ws.length cV)) (fun k hk => hb1.out.not_row (by decide) HW.out.choose_spec.2.2.2 k hk)
          have hgg := (hg.out.setCell (p := ⟨w.heap.size + 1, 0, none⟩) (Nat.le_succ _) (.int .i64 p)).setCell (p := ⟨w.heap.size + 1, 1, none⟩) (Nat.le_succ _) (.slice aV ws.length cV)
          have hws := HW.out.choose_spec
          exact bodyPost_ret (v := .agg #[.int .i64 p, .slice aV ws.length cV]) (results_cell_row rfl _ _ (w.heap.size + 1) _ _ (0, 0) _ rfl hb2 Try.underlying24 rfl (by rw [Try.infoSheet]; rfl)) rfl ⟨⟨_, rfl, _, hrs, hws.2.1, hws.2.2.1, hws.1⟩, hgg⟩
      · have HW := Lib.hid hw.out
        clear hlen hok' hend ho hw
        go_wp2
        have hb2 := (hb1.out.set 0 (.int .i64 p)).set 1 (.slice aV ws.length cV)
        have hrs := own_turn HW.out.choose_spec.2.2.2 (((Turn.refl (fun k => k = w.heap.size + 1) wr).setCell (b := w.heap.size + 1) (i := 0) rfl (.int .i64 p)).setCell (b := w.heap.size + 1) (i := 1) rfl (.slice aV ws.length cV)) (fun k hk => hb1.out.not_row (by decide) HW.out.choose_spec.2.2.2 k hk)
        have hgg := (hg.out.setCell (p := ⟨w.heap.size + 1, 0, none⟩) (Nat.le_succ _) (.int .i64 p)).setCell (p := ⟨w.heap.size + 1, 1, none⟩) (Nat.le_succ _) (.slice aV ws.length cV)
        have hws := HW.out.choose_spec
        exact bodyPost_ret (v := .agg #[.int .i64 p, .slice aV ws.length cV]) (results_cell_row rfl _ _ (w.heap.size + 1) _ _ (0, 0) _ rfl hb2 Try.underlying24 rfl (by rw [Try.infoSheet]; rfl)) rfl ⟨⟨_, _, rfl, hrs, hws.2.1, hws.2.2.1, hws.1⟩, hgg⟩
  have HL := Lib.hid hL
  clear hL hK
  have HB := Lib.hid ((Blk.new w #[.int .i64 p, .slice a ws.length cap] 24).alloc (.cells #[.int .i64 0, .slice none 0 0] 24)).drew
  have HB1 := Lib.hid (Blk.new' (w.alloc (.cells #[.int .i64 p, .slice a ws.length cap] 24)) #[.int .i64 0, .slice none 0 0] 24 (w.heap.size + 1) (by simp)).drew
  have HG := Lib.hid ((((Below.refl w.heap.size w).alloc (Nat.le_refl _) (.cells #[.int .i64 p, .slice a ws.length cap] 24)).alloc (by simp) (.cells #[.int .i64 0, .slice none 0 0] 24)).drew)
  have HZ : Hid (((w.alloc (.cells #[.int .i64 p, .slice a ws.length cap] 24)).alloc (.cells #[.int .i64 0, .slice none 0 0] 24)).drew.heap.size = w.heap.size + 2) := by show _ = _; simp [World.drew]
  obtain ⟨w1, hw1⟩ : ∃ w1, ((w.alloc (.cells #[.int .i64 p, .slice a ws.length cap] 24)).alloc (.cells #[.int .i64 0, .slice none 0 0] 24)).drew = w1 := ⟨_, rfl⟩
  rw [hw1] at HB HB1 HG HZ
  refine wp_region_any (by kernel_rfl) ?_
  refine wpAny_of_held (S := fun w' => w'.cell? ⟨w.heap.size, 0, none⟩ = some (.int .i64 p) ∧ w'.cell? ⟨w.heap.size, 1, none⟩ = some (.slice a ws.length cap)) _ _ _ _ ?_
  rw [show ({ (w.alloc (.cells #[.int .i64 p, .slice a ws.length cap] 24)).alloc (.cells #[.int .i64 0, .slice none 0 0] 24) with drawn := ((w.alloc (.cells #[.int .i64 p, .slice a ws.length cap] 24)).alloc (.cells #[.int .i64 0, .slice none 0 0] 24)).drawn + 1 } : World) = w1 from hw1]
  clear hw1
  have hS : ∀ W, Grow w1 W → (fun w' : World => w'.cell? ⟨w.heap.size, 0, none⟩ = some (.int .i64 p) ∧ w'.cell? ⟨w.heap.size, 1, none⟩ = some (.slice a ws.length cap)) W := fun W h => ⟨by rw [(HB.out.grow h).cell]; rfl, by rw [(HB.out.grow h).cell]; rfl⟩
  have hS0 := hS w1 (Below.refl _ _)
  have HS := Lib.hid hS
  clear hS
  refine wpAnyH_take (i := 0) (v := ?tv0b) rfl (by kernel_rfl) (by kernel_rfl) (by kernel_rfl) (fun _ _ _ h => h) (Or.inl ⟨by rfl, ?th0b⟩) (by assumption) ?tr0b
  case th0b => (intro w hSw; (try dsimp only at hSw); go_split_ands; go_simp; (try with_reducible rfl))
  simp only [Act.put, List.setIfInBounds_toArray, List.set_cons_zero, List.set_cons_succ]
  refine wpAnyH_take (i := 1) (v := ?tv1b) rfl (by kernel_rfl) (by kernel_rfl) (by kernel_rfl) (fun _ _ _ h => h) (Or.inl ⟨by rfl, ?th1b⟩) (by assumption) ?tr1b
  case th1b => (intro w hSw; (try dsimp only at hSw); go_split_ands; go_simp; (try with_reducible rfl))
  simp only [Act.put, List.setIfInBounds_toArray, List.set_cons_zero, List.set_cons_succ]
  refine wpAnyH_take (i := 3) (v := ?tv3b) rfl (by kernel_rfl) (by kernel_rfl) (by kernel_rfl) (fun _ _ _ h => h) (Or.inl ⟨by rfl, ?th3b⟩) (by assumption) ?tr3b
  case th3b => (intro w hSw; (try dsimp only at hSw); go_split_ands; go_simp; (try with_reducible rfl))
  simp only [Act.put, List.setIfInBounds_toArray, List.set_cons_zero, List.set_cons_succ]
  refine wpAnyH_take (i := 4) (v := ?tv4b) rfl (by kernel_rfl) (by kernel_rfl) (by kernel_rfl) (fun _ _ _ h => h) (Or.inl ⟨by rfl, ?th4b⟩) (by assumption) ?tr4b
  case th4b => (intro w hSw; (try dsimp only at hSw); go_split_ands; go_simp; (try with_reducible rfl))
  simp only [Act.put, List.setIfInBounds_toArray, List.set_cons_zero, List.set_cons_succ]
  have HG0 := Lib.hid (Below.refl w1.heap.size w1)
  refine wpAnyH_ready (rs := [2, 7]) (by kernel_rfl) (by simp) (AllReadyH.cons rfl (fun K2 hK2 => ?_) (AllReadyH.cons rfl (fun K7 hK7 => ?_) AllReadyH.nil))
  · go_simp
    have hS02 := HS.out _ (HG0.out.alloc HG0.out.size (.cells #[] 56))
    refine hK2.out _ _ hS02 (fun _ => ?_)
    clear hK2 K2
    have HG02 := Lib.hid (HG0.out.alloc HG0.out.size (.cells #[] 56))
    have HO02 := Lib.hid (World.ownsRow_made (e := 56) (base := w1.heap.size) (size := 3) w1 #[] 0 HG0.out.size (Nat.zero_le _) rfl)
    obtain ⟨w02, hw02⟩ : ∃ x, w1.alloc (.cells #[] 56) = x := ⟨_, rfl⟩
    rw [hw02] at hS02 HG02 HO02 ⊢
    refine wpAnyH_ready (rs := [5, 7]) (by kernel_rfl) (by simp) (AllReadyH.cons rfl (fun K5 hK5 => ?_) (AllReadyH.cons rfl (fun K7 hK7 => ?_) AllReadyH.nil))
    · refine wanted_go rfl (wp_append_arr w02 _ _ 22 rfl w1.heap.size 56 i0 _ 3 32 Try.underlying22 hi hz0 hz1 hz2 rfl (by decide) _ 0 [] rfl HO02.out a ws.length cap (ws.flatMap eW.c) rfl ((HA.out.grow HG.out).grow HG02.out) (flat_len eW ws) ?_ (by unfold maxLen; omega) (by omega) HG02.out.size ?_)
      · intro u hu
        obtain ⟨x, _, hux⟩ := List.mem_flatMap.1 hu
        simp only [eW, List.mem_cons, List.not_mem_nil, or_false] at hux
        rcases hux with rfl | rfl | rfl <;> rfl
      intro v025 w025 ho025 hg025
      rw [Nat.zero_add, List.nil_append] at ho025
      have HO025 := Lib.hid ho025
      have HG025 := Lib.hid (HG02.out.grown hg025 HG02.out.size (fun k hk => (HO02.out.lt k hk).1))
      have hS025 := HS.out _ HG025.out
      refine hK5.out _ _ hS025 (fun _ => ?_)
      clear hK5 K5 ho025 hg025
      simp only [List.getElem_toArray, List.getElem_cons_succ, List.getElem_cons_zero, Act.put, List.setIfInBounds_toArray, List.set_cons_zero, List.set_cons_succ]
      obtain ⟨aV, cV, rfl, _, _, _⟩ := own_arr HO025.out
      refine wpAnyH_take (i := 6) (v := ?tv6025) rfl (by kernel_rfl) (by kernel_rfl) (by kernel_rfl) (fun _ _ _ h => h) (Or.inl ⟨by rfl, ?th6025⟩) (by assumption) ?tr6025
      case th6025 => (intro w hSw; (try dsimp only at hSw); go_split_ands; go_simp; (try with_reducible rfl))
      simp only [Act.put, List.setIfInBounds_toArray, List.set_cons_zero, List.set_cons_succ]
      simp only [List.getElem_toArray, List.getElem_cons_succ, List.getElem_cons_zero, List.setIfInBounds_toArray, List.set_cons_zero, List.set_cons_succ]
      refine wpAnyH_ready (rs := [7]) (by kernel_rfl) (by simp) (AllReadyH.cons rfl (fun K7 hK7 => ?_) AllReadyH.nil)
      · go_simp
        have hS0257 := HS.out _ (HG025.out.alloc HG025.out.size (.cells #[.int .i64 0, .slice none 0 0] 24))
        refine hK7.out _ _ hS0257 (fun _ => ?_)
        clear hK7 K7
        have HG0257 := Lib.hid (HG025.out.alloc HG025.out.size (.cells #[.int .i64 0, .slice none 0 0] 24))
        have HT0257 := Lib.hid (Blk.new w025 #[.int .i64 0, .slice none 0 0] 24)
        have HO0257 := Lib.hid (HO025.out.alloc (.cells #[.int .i64 0, .slice none 0 0] 24))
        obtain ⟨bt0257, hbt0257⟩ : ∃ x, w025.heap.size = x := ⟨_, rfl⟩
        obtain ⟨w0257, hw0257⟩ : ∃ x, w025.alloc (.cells #[.int .i64 0, .slice none 0 0] 24) = x := ⟨_, rfl⟩
        rw [hw0257] at hS0257 HG0257 HT0257 HO0257 ⊢
        rw [hbt0257] at HT0257 ⊢
        have HTL0257 : Hid (w1.heap.size ≤ bt0257) := hbt0257 ▸ HG025.out.size
        have hc0 : w0257.cell? ⟨bt0257, 0, none⟩ = some (.int .i64 0) := by rw [HT0257.out.cell]; rfl
        have hc1 : w0257.cell? ⟨bt0257, 1, none⟩ = some (.slice none 0 0) := by rw [HT0257.out.cell]; rfl
        have hf0 := HT0257.out.frozen 0
        have hf1 := HT0257.out.frozen 1
        have hl := HT0257.out.lt
        refine wpAnyH_ready (rs := [8]) (by kernel_rfl) (by simp) (AllReadyH.cons rfl (fun K8 hK8 => ?_) AllReadyH.nil)
        go_simp
        have hbtl := HTL0257.out
        have g8 : Grow w1 ((w0257.setCell ⟨bt0257, 0, none⟩ (.int .i64 p)).setCell ⟨bt0257, 1, none⟩ (.slice aV ws.length cV)) := (HG0257.out.setCell (p := ⟨bt0257, 0, none⟩) hbtl (.int .i64 p)).setCell (p := ⟨bt0257, 1, none⟩) hbtl (.slice aV ws.length cV)
        refine hK8.out _ _ (HS.out _ g8) (fun _ => ?_)
        refine wpAnyH_done (by kernel_rfl) ?_ _
        refine HL.out bt0257 aV cV _ _ _ _ _ _ _ _ ?_ (by have := HZ.out; omega) ((HT0257.out.set 0 _).set 1 _) (HB1.out.grow g8) (HG.out.trans (g8.mono HG.out.size))
        refine own_base ?_ HG.out.size
        exact own_turn HO0257.out (((Turn.refl (fun k => k = bt0257) w0257).setCell (b := bt0257) (i := 0) rfl (.int .i64 p)).setCell (b := bt0257) (i := 1) rfl (.slice aV ws.length cV)) (fun k hk => HT0257.out.not_row (by decide) HO0257.out k hk)
    · go_simp
      have hS027 := HS.out _ (HG02.out.alloc HG02.out.size (.cells #[.int .i64 0, .slice none 0 0] 24))
      refine hK7.out _ _ hS027 (fun _ => ?_)
      clear hK7 K7
      have HG027 := Lib.hid (HG02.out.alloc HG02.out.size (.cells #[.int .i64 0, .slice none 0 0] 24))
      have HT027 := Lib.hid (Blk.new w02 #[.int .i64 0, .slice none 0 0] 24)
      have HO027 := Lib.hid (HO02.out.alloc (.cells #[.int .i64 0, .slice none 0 0] 24))
      obtain ⟨bt027, hbt027⟩ : ∃ x, w02.heap.size = x := ⟨_, rfl⟩
      obtain ⟨w027, hw027⟩ : ∃ x, w02.alloc (.cells #[.int .i64 0, .slice none 0 0] 24) = x := ⟨_, rfl⟩
      rw [hw027] at hS027 HG027 HT027 HO027 ⊢
      rw [hbt027] at HT027 ⊢
      have HTL027 : Hid (w1.heap.size ≤ bt027) := hbt027 ▸ HG02.out.size
      refine wpAnyH_ready (rs := [5]) (by kernel_rfl) (by simp) (AllReadyH.cons rfl (fun K5 hK5 => ?_) AllReadyH.nil)
      · refine wanted_go rfl (wp_append_arr w027 _ _ 22 rfl w1.heap.size 56 i0 _ 3 32 Try.underlying22 hi hz0 hz1 hz2 rfl (by decide) _ 0 [] rfl HO027.out a ws.length cap (ws.flatMap eW.c) rfl ((HA.out.grow HG.out).grow HG027.out) (flat_len eW ws) ?_ (by unfold maxLen; omega) (by omega) HG027.out.size ?_)
        · intro u hu
          obtain ⟨x, _, hux⟩ := List.mem_flatMap.1 hu
          simp only [eW, List.mem_cons, List.not_mem_nil, or_false] at hux
          rcases hux with rfl | rfl | rfl <;> rfl
        intro v0275 w0275 ho0275 hg0275
        rw [Nat.zero_add, List.nil_append] at ho0275
        have HO0275 := Lib.hid ho0275
        have HG0275 := Lib.hid (HG027.out.grown hg0275 HG027.out.size (fun k hk => (HO027.out.lt k hk).1))
        have HT0275 := Lib.hid (HT027.out.kept hg0275 (fun e => HT027.out.not_row (by decide) HO027.out _ e.symm rfl))
        have HTL0275 := HTL027
        obtain ⟨bt0275, hbt0275⟩ : ∃ x, bt027 = x := ⟨_, rfl⟩
        rw [hbt0275] at HT0275 HTL0275 ⊢
        have hS0275 := HS.out _ HG0275.out
        refine hK5.out _ _ hS0275 (fun _ => ?_)
        clear hK5 K5 ho0275 hg0275
        simp only [List.getElem_toArray, List.getElem_cons_succ, List.getElem_cons_zero, Act.put, List.setIfInBounds_toArray, List.set_cons_zero, List.set_cons_succ]
        obtain ⟨aV, cV, rfl, _, _, _⟩ := own_arr HO0275.out
        refine wpAnyH_take (i := 6) (v := ?tv60275) rfl (by kernel_rfl) (by kernel_rfl) (by kernel_rfl) (fun _ _ _ h => h) (Or.inl ⟨by rfl, ?th60275⟩) (by assumption) ?tr60275
        case th60275 => (intro w hSw; (try dsimp only at hSw); go_split_ands; go_simp; (try with_reducible rfl))
        simp only [Act.put, List.setIfInBounds_toArray, List.set_cons_zero, List.set_cons_succ]
        simp only [List.getElem_toArray, List.getElem_cons_succ, List.getElem_cons_zero, List.setIfInBounds_toArray, List.set_cons_zero, List.set_cons_succ]
        have hc0 : w0275.cell? ⟨bt0275, 0, none⟩ = some (.int .i64 0) := by rw [HT0275.out.cell]; rfl
        have hc1 : w0275.cell? ⟨bt0275, 1, none⟩ = some (.slice none 0 0) := by rw [HT0275.out.cell]; rfl
        have hf0 := HT0275.out.frozen 0
        have hf1 := HT0275.out.frozen 1
        have hl := HT0275.out.lt
        refine wpAnyH_ready (rs := [8]) (by kernel_rfl) (by simp) (AllReadyH.cons rfl (fun K8 hK8 => ?_) AllReadyH.nil)
        go_simp
        have hbtl := HTL0275.out
        have g8 : Grow w1 ((w0275.setCell ⟨bt0275, 0, none⟩ (.int .i64 p)).setCell ⟨bt0275, 1, none⟩ (.slice aV ws.length cV)) := (HG0275.out.setCell (p := ⟨bt0275, 0, none⟩) hbtl (.int .i64 p)).setCell (p := ⟨bt0275, 1, none⟩) hbtl (.slice aV ws.length cV)
        refine hK8.out _ _ (HS.out _ g8) (fun _ => ?_)
        refine wpAnyH_done (by kernel_rfl) ?_ _
        refine HL.out bt0275 aV cV _ _ _ _ _ _ _ _ ?_ (by have := HZ.out; omega) ((HT0275.out.set 0 _).set 1 _) (HB1.out.grow g8) (HG.out.trans (g8.mono HG.out.size))
        refine own_base ?_ HG.out.size
        exact own_turn HO0275.out (((Turn.refl (fun k => k = bt0275) w0275).setCell (b := bt0275) (i := 0) rfl (.int .i64 p)).setCell (b := bt0275) (i := 1) rfl (.slice aV ws.length cV)) (fun k hk => HT0275.out.not_row (by decide) HO0275.out k hk)
  · go_simp
    have hS07 := HS.out _ (HG0.out.alloc HG0.out.size (.cells #[.int .i64 0, .slice none 0 0] 24))
    refine hK7.out _ _ hS07 (fun _ => ?_)
    clear hK7 K7
    have HG07 := Lib.hid (HG0.out.alloc HG0.out.size (.cells #[.int .i64 0, .slice none 0 0] 24))
    have HT07 := Lib.hid (Blk.new w1 #[.int .i64 0, .slice none 0 0] 24)
    obtain ⟨bt07, hbt07⟩ : ∃ x, w1.heap.size = x := ⟨_, rfl⟩
    obtain ⟨w07, hw07⟩ : ∃ x, w1.alloc (.cells #[.int .i64 0, .slice none 0 0] 24) = x := ⟨_, rfl⟩
    rw [hw07] at hS07 HG07 HT07 ⊢
    rw [hbt07] at HT07 ⊢
    have HTL07 : Hid (w1.heap.size ≤ bt07) := hbt07 ▸ HG0.out.size
    refine wpAnyH_ready (rs := [2]) (by kernel_rfl) (by simp) (AllReadyH.cons rfl (fun K2 hK2 => ?_) AllReadyH.nil)
    · go_simp
      have hS072 := HS.out _ (HG07.out.alloc HG07.out.size (.cells #[] 56))
      refine hK2.out _ _ hS072 (fun _ => ?_)
      clear hK2 K2
      have HG072 := Lib.hid (HG07.out.alloc HG07.out.size (.cells #[] 56))
      have HO072 := Lib.hid (World.ownsRow_made (e := 56) (base := w1.heap.size) (size := 3) w07 #[] 0 HG07.out.size (Nat.zero_le _) rfl)
      have HT072 := Lib.hid (HT07.out.alloc (.cells #[] 56))
      have HTL072 := HTL07
      obtain ⟨bt072, hbt072⟩ : ∃ x, bt07 = x := ⟨_, rfl⟩
      rw [hbt072] at HT072 HTL072 ⊢
      obtain ⟨w072, hw072⟩ : ∃ x, w07.alloc (.cells #[] 56) = x := ⟨_, rfl⟩
      rw [hw072] at hS072 HG072 HO072 HT072 ⊢
      refine wpAnyH_ready (rs := [5]) (by kernel_rfl) (by simp) (AllReadyH.cons rfl (fun K5 hK5 => ?_) AllReadyH.nil)
      · refine wanted_go rfl (wp_append_arr w072 _ _ 22 rfl w1.heap.size 56 i0 _ 3 32 Try.underlying22 hi hz0 hz1 hz2 rfl (by decide) _ 0 [] rfl HO072.out a ws.length cap (ws.flatMap eW.c) rfl ((HA.out.grow HG.out).grow HG072.out) (flat_len eW ws) ?_ (by unfold maxLen; omega) (by omega) HG072.out.size ?_)
        · intro u hu
          obtain ⟨x, _, hux⟩ := List.mem_flatMap.1 hu
          simp only [eW, List.mem_cons, List.not_mem_nil, or_false] at hux
          rcases hux with rfl | rfl | rfl <;> rfl
        intro v0725 w0725 ho0725 hg0725
        rw [Nat.zero_add, List.nil_append] at ho0725
        have HO0725 := Lib.hid ho0725
        have HG0725 := Lib.hid (HG072.out.grown hg0725 HG072.out.size (fun k hk => (HO072.out.lt k hk).1))
        have HT0725 := Lib.hid (HT072.out.kept hg0725 (fun e => HT072.out.not_row (by decide) HO072.out _ e.symm rfl))
        have HTL0725 := HTL072
        obtain ⟨bt0725, hbt0725⟩ : ∃ x, bt072 = x := ⟨_, rfl⟩
        rw [hbt0725] at HT0725 HTL0725 ⊢
        have hS0725 := HS.out _ HG0725.out
        refine hK5.out _ _ hS0725 (fun _ => ?_)
        clear hK5 K5 ho0725 hg0725
        simp only [List.getElem_toArray, List.getElem_cons_succ, List.getElem_cons_zero, Act.put, List.setIfInBounds_toArray, List.set_cons_zero, List.set_cons_succ]
        obtain ⟨aV, cV, rfl, _, _, _⟩ := own_arr HO0725.out
        refine wpAnyH_take (i := 6) (v := ?tv60725) rfl (by kernel_rfl) (by kernel_rfl) (by kernel_rfl) (fun _ _ _ h => h) (Or.inl ⟨by rfl, ?th60725⟩) (by assumption) ?tr60725
        case th60725 => (intro w hSw; (try dsimp only at hSw); go_split_ands; go_simp; (try with_reducible rfl))
        simp only [Act.put, List.setIfInBounds_toArray, List.set_cons_zero, List.set_cons_succ]
        simp only [List.getElem_toArray, List.getElem_cons_succ, List.getElem_cons_zero, List.setIfInBounds_toArray, List.set_cons_zero, List.set_cons_succ]
        have hc0 : w0725.cell? ⟨bt0725, 0, none⟩ = some (.int .i64 0) := by rw [HT0725.out.cell]; rfl
        have hc1 : w0725.cell? ⟨bt0725, 1, none⟩ = some (.slice none 0 0) := by rw [HT0725.out.cell]; rfl
        have hf0 := HT0725.out.frozen 0
        have hf1 := HT0725.out.frozen 1
        have hl := HT0725.out.lt
        refine wpAnyH_ready (rs := [8]) (by kernel_rfl) (by simp) (AllReadyH.cons rfl (fun K8 hK8 => ?_) AllReadyH.nil)
        go_simp
        have hbtl := HTL0725.out
        have g8 : Grow w1 ((w0725.setCell ⟨bt0725, 0, none⟩ (.int .i64 p)).setCell ⟨bt0725, 1, none⟩ (.slice aV ws.length cV)) := (HG0725.out.setCell (p := ⟨bt0725, 0, none⟩) hbtl (.int .i64 p)).setCell (p := ⟨bt0725, 1, none⟩) hbtl (.slice aV ws.length cV)
        refine hK8.out _ _ (HS.out _ g8) (fun _ => ?_)
        refine wpAnyH_done (by kernel_rfl) ?_ _
        refine HL.out bt0725 aV cV _ _ _ _ _ _ _ _ ?_ (by have := HZ.out; omega) ((HT0725.out.set 0 _).set 1 _) (HB1.out.grow g8) (HG.out.trans (g8.mono HG.out.size))
        refine own_base ?_ HG.out.size
        exact own_turn HO0725.out (((Turn.refl (fun k => k = bt0725) w0725).setCell (b := bt0725) (i := 0) rfl (.int .i64 p)).setCell (b := bt0725) (i := 1) rfl (.slice aV ws.length cV)) (fun k hk => HT0725.out.not_row (by decide) HO0725.out k hk)
end Go.Proofs.Ytefdncpdlgakpaa
