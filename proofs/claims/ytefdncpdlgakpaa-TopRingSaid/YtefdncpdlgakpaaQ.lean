import Derived.Test.YtefdncpdlgakpaaP
namespace Go.Proofs.Ytefdncpdlgakpaa
open Go.RowKit

theorem collect_any (b1 bx : Nat) (next : List Int) (T : Nat) (w : World)
    (h1 : Blk w b1 #[.pointer (some ⟨bx, 0, none⟩)] 73) (hx : Blk w bx (seamC next T) 93) (hlen : next.length = 48) (hT : T ≤ 48) (hnext : ∀ t, t < T → 0 ≤ next.getD t 0 ∧ next.getD t 0 < T) :
    Calls Try.prog 26 #[.func (.func 44) #[] #[.pointer (some ⟨b1, 0, none⟩)]] w fun e w' =>
      (∃ v, e = .returned v ∧ OwnLL w.heap.size w' v (loopsTo next T).2) ∧ Grow w w' := by
  have HC := Lib.hid (appendSeq_any b1 bx next T w h1 hx hlen hT hnext)
  clear h1 hx hnext
  go_enter Try.func26, Try.ntmps26
  go_wp2_with (go_at_call 42; go_must (refine HC.out.mono ?_); rintro e w' ⟨⟨v, rfl, ho⟩, hg⟩; have HO := Lib.hid ho; have HG := Lib.hid hg; clear ho hg)
  go_ret
  exact ⟨⟨v, rfl, HO.out⟩, HG.out⟩

/-- whose beginning the ends of a sheet's threads are sewn to -/
def nextOf (p sh : Nat) (ws : List Wk) : List Int := nextTo ((endL ws).take (2 * p)) (2 * p) sh (2 * p)
def loopsOf (p sh : Nat) (ws : List Wk) : List (List Int) := (loopsTo (nextOf p sh ws) (2 * p)).2

theorem endL_pm {p : Nat} {ws : List Wk} (hok : okSh p ws) : Pm (2 * p) (endL ws) ∧ (endL ws).length = 48 := by
  have hp := hok.2.1
  have h := pinInv_mkTo hok (l0 := id48) (Pm.id (by omega)) ws.length
  have e : (2 * (p : Int)).toNat = 2 * p := by omega
  rw [e] at h
  refine ⟨h.pm, ?_⟩
  obtain ⟨h1, _⟩ := made_mkTo hok id48 ws.length
  rw [endL, h1, runL_len]
  rfl
theorem endL_mem {p : Nat} {ws : List Wk} (hok : okSh p ws) : ∀ x ∈ (endL ws).take (2 * p), 0 ≤ x ∧ x < ((2 * p : Nat) : Int) := by
  obtain ⟨h, hl⟩ := endL_pm hok
  intro x hx
  obtain ⟨j, hj⟩ := List.getElem?_of_mem hx
  rw [List.getElem?_take] at hj
  split at hj
  · rename_i hlt
    have := h.rng j hlt
    rw [List.getD_eq_getElem?_getD, hj] at this
    exact this
  · cases hj
theorem getD_take (l : List Int) (T j : Nat) (hj : j < T) : (l.take T).getD j 0 = l.getD j 0 := by
  simp only [List.getD_eq_getElem?_getD, List.getElem?_take, if_pos hj]

/-- nextTo at a thread that has been sewn -/
theorem nextTo_get {T sh : Nat} {ends : List Int} (hr : ∀ j, j < T → 0 ≤ ends.getD j 0 ∧ ends.getD j 0 < T) (hinj : ∀ i j, i < T → j < T → ends.getD i 0 = ends.getD j 0 → i = j) (hT : T ≤ 48) :
    ∀ k, k ≤ T → ∀ j, j < k → (nextTo ends T sh k).getD (ends.getD j 0).toNat 0 = (((j + 2 * sh) % T : Nat) : Int) := by
  intro k
  induction k with
  | zero => intro _ j hj; omega
  | succ k ih =>
    intro hk j hj
    have hlen := nextTo_len ends T sh k
    have hrk := hr k (by omega)
    have hrj := hr j (by omega)
    rw [nextTo_succ, getD_set _ _ _ _ (by omega)]
    by_cases e : j = k
    · subst e
      rw [if_pos rfl]
    · rw [if_neg (fun e' => e (hinj j k (by omega) (by omega) (by omega))), ih (by omega) j (by omega)]

theorem nextOf_spec {p sh : Nat} {ws : List Wk} (hok : okSh p ws) {j : Nat} (hj : j < 2 * p) : (nextOf p sh ws).getD ((endL ws).getD j 0).toNat 0 = (((j + 2 * sh) % (2 * p) : Nat) : Int) := by
  obtain ⟨h, hl⟩ := endL_pm hok
  have hp := hok.2.1
  have := nextTo_get (T := 2 * p) (sh := sh) (ends := (endL ws).take (2 * p)) (fun j hj => by rw [getD_take _ _ _ hj]; exact h.rng j hj) (fun i j hi hj e => by rw [getD_take _ _ _ hi, getD_take _ _ _ hj] at e; exact h.inj i j hi hj e) (by omega) (2 * p) (Nat.le_refl _) j hj
  rw [getD_take _ _ _ hj] at this
  exact this
theorem nextOf_rng {p sh : Nat} {ws : List Wk} (hok : okSh p ws) : ∀ t, t < 2 * p → 0 ≤ (nextOf p sh ws).getD t 0 ∧ (nextOf p sh ws).getD t 0 < ((2 * p : Nat) : Int) := by
  intro t ht
  obtain ⟨h, hl⟩ := endL_pm hok
  obtain ⟨j, hj, e⟩ := h.sur t ht
  have := nextOf_spec (sh := sh) hok hj
  rw [e, Int.toNat_natCast] at this
  rw [this]
  have h2 : (j + 2 * sh) % (2 * p) < 2 * p := Nat.mod_lt _ (by omega)
  omega
theorem nextOf_len (p sh : Nat) (ws : List Wk) : (nextOf p sh ws).length = 48 := nextTo_len _ _ _ _

set_option maxRecDepth 100000 in
set_option maxHeartbeats 1000000 in
theorem loops_any (p sh : Nat) (a : Option Addr) (cap : Nat) (ws : List Wk) (w : World) (h : Ar eW w a ws) (hok : okSh p ws) (hsh : sh < p) :
    Calls Try.prog 7 #[.agg #[.int .i64 p, .slice a ws.length cap], .int .i64 sh] w fun e w' =>
      (∃ v, e = .returned (.tuple #[v, .int .i64 0]) ∧ OwnLL w.heap.size w' v (loopsOf p sh ws)) ∧ Grow w w' := by
  have hp24 := hok.2.1
  have hp2 := hok.1
  have HA := Lib.hid h
  have HK := Lib.hid hok
  clear h hok
  go_enter Try.func7, Try.ntmps7
  go_wp2_with fail
  refine (asked_ok p sh a cap ws _ (HA.out.alloc _) HK.out (by omega) (by omega)).mono ?_
  rintro e w1 ⟨rfl, hg1⟩
  have S1 := (Blk.new w #[.int .i64 p, .slice a ws.length cap] 24).grow hg1
  have hs0 : w1.cell? ⟨w.heap.size, 0, none⟩ = some (.int .i64 p) := by rw [S1.cell]; rfl
  have hs1 : w1.cell? ⟨w.heap.size, 1, none⟩ = some (.slice a ws.length cap) := by rw [S1.cell]; rfl
  have hsl := S1.lt
  have HS := Lib.hid S1
  have HG := Lib.hid (((Below.refl w.heap.size w).alloc (Nat.le_refl _) (Obj.cells #[Value.int IntKind.i64 p, Value.slice a ws.length cap] 24)).trans (hg1.mono (by simp)))
  clear hg1 S1
  go_wp2_with fail
  refine wp_region_any (by kernel_rfl) ?_
  refine wpAny_of_held (S := fun w' => w'.cell? ⟨w.heap.size, 0, none⟩ = some (.int .i64 p) ∧ w'.cell? ⟨w.heap.size, 1, none⟩ = some (.slice a ws.length cap)) _ _ _ _ ?_
  have hS0 : (fun w' : World => w'.cell? ⟨w.heap.size, 0, none⟩ = some (.int .i64 p) ∧ w'.cell? ⟨w.heap.size, 1, none⟩ = some (.slice a ws.length cap)) w1.drew := ⟨hs0, hs1⟩
  refine wpAnyH_take (i := 0) (v := ?tv0) rfl (by kernel_rfl) (by kernel_rfl) (by kernel_rfl) (fun _ _ _ h => h) (Or.inl ⟨by rfl, ?th0⟩) (by assumption) ?tr0
  case th0 => (intro w hSw; (try dsimp only at hSw); go_split_ands; go_simp; (try with_reducible rfl))
  simp only [Act.put, List.setIfInBounds_toArray, List.set_cons_zero, List.set_cons_succ]
  refine wpAnyH_take (i := 1) (v := ?tv1) rfl (by kernel_rfl) (by kernel_rfl) (by kernel_rfl) (fun _ _ _ h => h) (Or.inl ⟨by rfl, ?th1⟩) (by assumption) ?tr1
  case th1 => (intro w hSw; (try dsimp only at hSw); go_split_ands; go_simp; (try with_reducible rfl))
  simp only [Act.put, List.setIfInBounds_toArray, List.set_cons_zero, List.set_cons_succ]
  refine wpAnyH_take (i := 3) (v := ?tv3) rfl (by kernel_rfl) (by kernel_rfl) (by kernel_rfl) (fun _ _ _ h => h) (Or.inl ⟨by rfl, ?th3⟩) (by assumption) ?tr3
  case th3 => (intro w hSw; (try dsimp only at hSw); go_split_ands; go_simp; (try with_reducible rfl))
  simp only [Act.put, List.setIfInBounds_toArray, List.set_cons_zero, List.set_cons_succ]
  refine wpAnyH_ready (rs := [2]) (by kernel_rfl) (by simp) (AllReadyH.cons rfl (fun K2 hK2 => ?_) AllReadyH.nil)
  go_simp
  refine (sends_any p (2 * p) rfl a cap ws _ ((HA.out.grow HG.out).grow ((Below.refl _ w1).drew)) HK.out).mono ?_
  rintro e w5 ⟨⟨v, rfl, ho⟩, hg⟩
  have hL := endL_pm HK.out
  have S5 := Lib.hid (HS.out.drew.grow hg)
  have G5 := Lib.hid (HG.out.drew.trans (hg.mono HG.out.size))
  obtain ⟨aE, cE, rfl, hE, _, _⟩ := own_arr ho
  have HE := Lib.hid (Ar.of_ints hE)
  refine hK2.out _ _ ?_ (fun hS1 => ?_)
  · refine ⟨?_, ?_⟩
    · rw [S5.out.cell]; rfl
    · rw [S5.out.cell]; rfl
  clear hK2 K2 hS0 ho hg hE
  refine wpAnyH_ready (rs := [4]) (by kernel_rfl) (by simp) (AllReadyH.cons rfl (fun K4 hK4 => ?_) AllReadyH.nil)
  go_simp
  refine (sewn_any (2 * p) sh _ p a ws.length cap rfl aE cE ((endL ws).take (2 * p)) w5 HE.out (by rw [List.length_take]; omega) (by omega) (by omega) (endL_mem HK.out)).mono ?_
  rintro e w6 ⟨⟨b6, rfl, hb6, hB6⟩, hg⟩
  have S6 := Lib.hid (S5.out.grow hg)
  have G6 := Lib.hid (G5.out.trans (hg.mono G5.out.size))
  replace hB6 := Lib.hid hB6
  refine hK4.out _ _ ?_ (fun hS2 => ?_)
  · refine ⟨?_, ?_⟩
    · rw [S6.out.cell]; rfl
    · rw [S6.out.cell]; rfl
  clear hK4 K4 hg hS1 S5 G5 HE
  refine wpAnyH_ready (rs := [5]) (by kernel_rfl) (by simp) (AllReadyH.cons rfl (fun K5 hK5 => ?_) AllReadyH.nil)
  go_simp
  refine (loopsF_any b6 w6).mono ?_
  rintro e w7 ⟨rfl, rfl⟩
  have S7 := Lib.hid (S6.out.alloc (.cells #[.pointer (some ⟨b6, 0, none⟩)] 73))
  have G7 := Lib.hid (G6.out.alloc G6.out.size (.cells #[.pointer (some ⟨b6, 0, none⟩)] 73))
  have B7 := Lib.hid (hB6.out.alloc (.cells #[.pointer (some ⟨b6, 0, none⟩)] 73))
  have P7 := Lib.hid (Blk.new w6 #[.pointer (some ⟨b6, 0, none⟩)] 73)
  refine hK5.out _ _ ?_ (fun hS3 => ?_)
  · refine ⟨?_, ?_⟩
    · rw [S7.out.cell]; rfl
    · rw [S7.out.cell]; rfl
  clear hK5 K5 hS2 S6 hB6
  refine wpAnyH_ready (rs := [6]) (by kernel_rfl) (by simp) (AllReadyH.cons rfl (fun K6 hK6 => ?_) AllReadyH.nil)
  go_simp
  refine (collect_any w6.heap.size b6 (nextOf p sh ws) (2 * p) _ P7.out B7.out (nextOf_len p sh ws) (by omega) (nextOf_rng HK.out)).mono ?_
  rintro e w8 ⟨⟨v, rfl, hO⟩, hg⟩
  have S8 := Lib.hid (S7.out.grow hg)
  have G8 := Lib.hid (G7.out.trans (hg.mono G7.out.size))
  have HO := Lib.hid (hO.base (B1 := w.heap.size) (by have := G6.out.size; simp; omega))
  refine hK6.out _ _ ?_ (fun hS4 => ?_)
  · refine ⟨?_, ?_⟩
    · rw [S8.out.cell]; rfl
    · rw [S8.out.cell]; rfl
  clear hK6 K6 hS3 S7 B7 P7 hg hO G7 G6
  refine wpAnyH_take (i := 7) (v := ?tv7) rfl (by kernel_rfl) (by kernel_rfl) (by kernel_rfl) (fun _ _ _ h => h) (Or.inl ⟨by rfl, ?th7⟩) (by assumption) ?tr7
  case th7 => (intro w hSw; (try dsimp only at hSw); go_split_ands; go_simp; (try with_reducible rfl))
  simp only [Act.put, List.setIfInBounds_toArray, List.set_cons_zero, List.set_cons_succ]
  refine wpAnyH_take (i := 8) (v := ?tv8) rfl (by kernel_rfl) (by kernel_rfl) (by kernel_rfl) (fun _ _ _ h => h) (Or.inl ⟨by rfl, ?th8⟩) (by assumption) ?tr8
  case th8 => (intro w hSw; (try dsimp only at hSw); go_split_ands; go_simp; (try with_reducible rfl))
  simp only [Act.put, List.setIfInBounds_toArray, List.set_cons_zero, List.set_cons_succ]
  refine wpAnyH_done (by kernel_rfl) ?_ _
  simp only [List.getElem_toArray, List.getElem_cons_succ, List.getElem_cons_zero, List.setIfInBounds_toArray, List.set_cons_zero, List.set_cons_succ]
  go_wp2
  go_ret2
  exact ⟨⟨v, rfl, HO.out⟩, G8.out⟩
end Go.Proofs.Ytefdncpdlgakpaa
