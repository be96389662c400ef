import Derived.Test.YtefdncpdlgakpaaZ
namespace Go.Proofs.Ytefdncpdlgakpaa
open Go.RowKit

/-! seams.Repeat. -/
set_option maxRecDepth 100000 in
set_option maxHeartbeats 1000000 in
theorem seRepeat_any (p n : Nat) (a : Option Addr) (cap : Nat) (ws : List Wk) (w : World) (h : Ar eW w a ws) (hok : okSh p ws) (hn1 : 1 ≤ n) (hn2 : n ≤ 200) (hl : ws.length * n ≤ 400) :
    Calls Try.prog 14 #[.agg #[.int .i64 p, .slice a ws.length cap], .int .i64 n] w fun e w' =>
      (∃ v, e = .returned (.tuple #[.agg #[.int .i64 p, v], .int .i64 0]) ∧ w'.ownsRow w.heap.size 56 3 v (ws.length * n) ((repC n ws).flatMap eW.c)) ∧ Grow w w' := by
  have hl4 := hok.2.2.1
  have HA := Lib.hid h
  have HK := Lib.hid hok
  obtain ⟨q, hq⟩ : ∃ q, ws.length * n = q := ⟨_, rfl⟩
  have hqi : (n : Int) * (ws.length : Int) = (q : Int) := by rw [← hq, Int.natCast_mul, Int.mul_comm]
  rw [hq] at hl
  have HQ := Lib.hid hq
  clear h hok hq
  go_enter Try.func14, Try.ntmps14
  go_wp2_with fail
  refine (sheet_ok p a cap ws _ ((HA.out.alloc _).alloc _) HK.out).mono ?_
  rintro e w1 ⟨rfl, hg1⟩
  have G0 : Grow w ((w.alloc (.cells #[.int .i64 p, .slice a ws.length cap] 24)).alloc (.cells #[.int .i64 0, .slice none 0 0] 24)) := ((Below.refl _ _).alloc (Nat.le_refl _) _).alloc (by simp) _
  have S1 := ((Blk.new w #[.int .i64 p, .slice a ws.length cap] 24).alloc (.cells #[.int .i64 0, .slice none 0 0] 24)).grow hg1
  have T1 := (Blk.new' (w.alloc (.cells #[.int .i64 p, .slice a ws.length cap] 24)) #[.int .i64 0, .slice none 0 0] 24 (w.heap.size + 1) (by simp)).grow hg1
  have hs0 : w1.cell? ⟨w.heap.size, 0, none⟩ = some (.int .i64 p) := by rw [S1.cell]; rfl
  have hs1 : w1.cell? ⟨w.heap.size, 1, none⟩ = some (.slice a ws.length cap) := by rw [S1.cell]; rfl
  have hsl := S1.lt
  have HS := Lib.hid S1
  have HT := Lib.hid T1
  have HG := Lib.hid (G0.trans (hg1.mono (by simp; omega)))
  clear hg1 S1 T1 G0
  go_wp2_with fail
  refine wp_region_any (by kernel_rfl) ?_
  refine wpAny_of_held (S := fun w' => w'.cell? ⟨w.heap.size, 0, none⟩ = some (.int .i64 p) ∧ w'.cell? ⟨w.heap.size, 1, none⟩ = some (.slice a ws.length cap)) _ _ _ _ ?_
  have hS0 : (fun w' : World => w'.cell? ⟨w.heap.size, 0, none⟩ = some (.int .i64 p) ∧ w'.cell? ⟨w.heap.size, 1, none⟩ = some (.slice a ws.length cap)) w1.drew := ⟨hs0, hs1⟩
  refine wpAnyH_take (i := 0) (v := ?tv0) rfl (by kernel_rfl) (by kernel_rfl) (by kernel_rfl) (fun _ _ _ h => h) (Or.inl ⟨by rfl, ?th0⟩) (by assumption) ?tr0
  case th0 => (intro w hSw; (try dsimp only at hSw); go_split_ands; go_simp; (try with_reducible rfl))
  simp only [Act.put, List.setIfInBounds_toArray, List.set_cons_zero, List.set_cons_succ]
  refine wpAnyH_take (i := 1) (v := ?tv1) rfl (by kernel_rfl) (by kernel_rfl) (by kernel_rfl) (fun _ _ _ h => h) (Or.inl ⟨by rfl, ?th1⟩) (by assumption) ?tr1
  case th1 => (intro w hSw; (try dsimp only at hSw); go_split_ands; go_simp; (try with_reducible rfl))
  simp only [Act.put, List.setIfInBounds_toArray, List.set_cons_zero, List.set_cons_succ]
  refine wpAnyH_take (i := 2) (v := ?tv2) rfl (by kernel_rfl) (by kernel_rfl) (by kernel_rfl) (fun _ _ _ h => h) (Or.inl ⟨by rfl, ?th2⟩) (by assumption) ?tr2
  case th2 => (intro w hSw; (try dsimp only at hSw); go_split_ands; go_simp; (try with_reducible rfl))
  simp only [Act.put, List.setIfInBounds_toArray, List.set_cons_zero, List.set_cons_succ]
  refine wpAnyH_take (i := 3) (v := ?tv3) rfl (by kernel_rfl) (by kernel_rfl) (by kernel_rfl) (fun _ _ _ h => h) (Or.inl ⟨by rfl, ?th3⟩) (by assumption) ?tr3
  case th3 => (intro w hSw; (try dsimp only at hSw); go_split_ands; go_simp; (try with_reducible rfl))
  simp only [Act.put, List.setIfInBounds_toArray, List.set_cons_zero, List.set_cons_succ]
  refine wpAnyH_take (i := 4) (v := ?tv4) rfl (by kernel_rfl) (by kernel_rfl) (by kernel_rfl) (fun _ _ _ h => h) (Or.inl ⟨by rfl, ?th4⟩) (by assumption) ?tr4
  case th4 => (intro w hSw; (try dsimp only at hSw); go_split_ands; go_simp; (try with_reducible rfl))
  simp only [Act.put, List.setIfInBounds_toArray, List.set_cons_zero, List.set_cons_succ]
  refine wpAnyH_ready (rs := [5]) (by kernel_rfl) (by simp) (AllReadyH.cons rfl (fun K5 hK5 => ?_) AllReadyH.nil)
  go_simp
  refine (repeatW_any a cap ws n _ ((HA.out.grow HG.out).grow ((Below.refl _ w1).drew)) (by omega) hn1 hn2).mono ?_
  rintro e w5 ⟨⟨v, rfl, ho⟩, hg⟩
  have S5 := Lib.hid (HS.out.drew.grow hg)
  have T5 := HT.out.drew.grow hg
  have G5 := Lib.hid (HG.out.drew.trans (hg.mono HG.out.size))
  obtain ⟨aV, cV, rfl, _, _, _⟩ := own_arr ho
  have HO := Lib.hid (own_base (base' := w.heap.size) ho HG.out.size)
  have hS5 : (fun w' : World => w'.cell? ⟨w.heap.size, 0, none⟩ = some (.int .i64 p) ∧ w'.cell? ⟨w.heap.size, 1, none⟩ = some (.slice a ws.length cap)) w5 := ⟨by rw [S5.out.cell]; rfl, by rw [S5.out.cell]; rfl⟩
  refine hK5.out _ _ hS5 (fun _ => ?_)
  clear hK5 K5 hS0 ho hg hs0 hs1 hsl
  refine wpAnyH_take (i := 6) (v := ?tv6) rfl (by kernel_rfl) (by kernel_rfl) (by kernel_rfl) (fun _ _ _ h => h) (Or.inl ⟨by rfl, ?th6⟩) (by assumption) ?tr6
  case th6 => (intro w hSw; (try dsimp only at hSw); go_split_ands; go_simp; (try with_reducible rfl))
  simp only [Act.put, List.setIfInBounds_toArray, List.set_cons_zero, List.set_cons_succ]
  simp only [List.getElem_toArray, List.getElem_cons_succ, List.getElem_cons_zero, List.setIfInBounds_toArray, List.set_cons_zero, List.set_cons_succ]
  have hc0 : w5.cell? ⟨w.heap.size + 1, 0, none⟩ = some (.int .i64 0) := by rw [T5.cell]; rfl
  have hc1 : w5.cell? ⟨w.heap.size + 1, 1, none⟩ = some (.slice none 0 0) := by rw [T5.cell]; rfl
  have hf0 := T5.frozen 0
  have hf1 := T5.frozen 1
  have hlt := T5.lt
  have HT5 := Lib.hid T5
  refine wpAnyH_ready (rs := [7]) (by kernel_rfl) (by simp) (AllReadyH.cons rfl (fun K7 hK7 => ?_) AllReadyH.nil)
  go_simp
  obtain ⟨w7, hw7⟩ : ∃ w7, (w5.setCell ⟨w.heap.size + 1, 0, none⟩ (.int .i64 p)).setCell ⟨w.heap.size + 1, 1, none⟩ (.slice aV (ws.length * n) cV) = w7 := ⟨_, rfl⟩
  have B7 := (HT5.out.set 0 (.int .i64 p)).set 1 (.slice aV (ws.length * n) cV)
  have O7 := own_turn HO.out (((Turn.refl (fun k => k = w.heap.size + 1) w5).setCell (b := w.heap.size + 1) (i := 0) rfl (.int .i64 p)).setCell (b := w.heap.size + 1) (i := 1) rfl (.slice aV (ws.length * n) cV)) (fun k hk => HT5.out.not_row (by decide) HO.out k hk)
  have S7 := (S5.out.setOther ⟨w.heap.size + 1, 0, none⟩ (.int .i64 p) (by simp)).setOther ⟨w.heap.size + 1, 1, none⟩ (.slice aV (ws.length * n) cV) (by simp)
  have G7 := (G5.out.setCell (p := ⟨w.heap.size + 1, 0, none⟩) (Nat.le_succ _) (.int .i64 p)).setCell (p := ⟨w.heap.size + 1, 1, none⟩) (Nat.le_succ _) (.slice aV (ws.length * n) cV)
  rw [hw7] at B7 O7 S7 G7 ⊢
  have hS7 : (fun w' : World => w'.cell? ⟨w.heap.size, 0, none⟩ = some (.int .i64 p) ∧ w'.cell? ⟨w.heap.size, 1, none⟩ = some (.slice a ws.length cap)) w7 := ⟨by rw [S7.cell]; rfl, by rw [S7.cell]; rfl⟩
  refine hK7.out _ _ hS7 (fun _ => ?_)
  clear hK7 K7 hw7 hc0 hc1 hf0 hf1 hlt hS5 S7
  have HB7 := Lib.hid B7
  have HO7 := Lib.hid O7
  have HG7 := Lib.hid G7
  clear B7 O7 G7 T5
  refine wpAnyH_take (i := 8) (v := ?tv8) rfl (by kernel_rfl) (by kernel_rfl) (by kernel_rfl) (fun _ _ _ h => h) (Or.inl ⟨by rfl, ?th8⟩) (by assumption) ?tr8
  case th8 => (intro w hSw; (try dsimp only at hSw); go_split_ands; go_simp; (try with_reducible rfl))
  simp only [Act.put, List.setIfInBounds_toArray, List.set_cons_zero, List.set_cons_succ]
  simp only [List.getElem_toArray, List.getElem_cons_succ, List.getElem_cons_zero, List.setIfInBounds_toArray, List.set_cons_zero, List.set_cons_succ]
  refine wpAnyH_done (by kernel_rfl) ?_ _
  go_wp2
  refine bodyPost_ret (v := .tuple #[.agg #[.int .i64 p, .slice aV (ws.length * n) cV], .int .i64 0]) ?_ rfl ⟨⟨_, rfl, HO7.out⟩, HG7.out⟩
  have h0 : w7.cell? ⟨w.heap.size + 1, 0, none⟩ = some (.int .i64 p) := by rw [HB7.out.cell]; rfl
  have h1 : w7.cell? ⟨w.heap.size + 1, 1, none⟩ = some (.slice aV (ws.length * n) cV) := by rw [HB7.out.cell]; rfl
  simp [results, show Try.func14.results = #[.cell 4 24, .tmp 5] from rfl, asAddr, h0, h1, go_sem]
end Go.Proofs.Ytefdncpdlgakpaa
