import Derived.Test.YtefdncpdlgakpaaA
import Derived.Test.YtefdncpdlgakpaaB
import Derived.WalkSpells
import Derived.Lib.Bytealg
namespace Go.Proofs.Ytefdncpdlgakpaa
open Go.RowKit

theorem oi_succ (x : Option Nat) : (if oi x == -1 then -1 else oi x + 1) = oi (x.map (· + 1)) := by
  cases x with
  | none => rfl
  | some i =>
    have : ((i : Int) == -1) = false := by rw [beq_eq_false_iff_ne]; omega
    simp [oi, this]
theorem idxI_lib (l : List UInt8) (c : UInt8) : Lib.indexByte l c = idxI l c := by
  induction l with
  | nil => rfl
  | cons b l ih =>
    unfold Lib.indexByte
    rw [ih]
    by_cases h : b = c
    · simp [idxI, oi, h, List.idxOf?, List.findIdx?_cons]
    · have hb : (b == c) = false := by simpa using h
      have e : idxI (b :: l) c = oi ((l.idxOf? c).map (· + 1)) := by
        unfold idxI List.idxOf?
        rw [List.findIdx?_cons, hb]
        rfl
      rw [e, ← oi_succ, hb]
      rfl

theorem strlite_any (s : ByteArray) (c : UInt8) (w : World) : Calls Try.prog 56 #[.string s, .int .u8 c.toNat] w fun e w' => e = .returned (.int .i64 (idxI s.data.toList c)) ∧ w = w' := by
  go_enter Try.func56, Try.ntmps56
  go_wp2
  rw [run_callFunc_extern Try.func59 (by kernel_rfl) (by kernel_rfl) (by kernel_rfl) (e := Extern.BytealgIndexByte.indexByte) (by kernel_rfl), Lib.run_indexByteString]
  simp only [Result.andThen]
  rw [Oper.upon_value]
  go_wp2
  go_ret
  refine ⟨?_, rfl⟩
  rw [← idxI_lib]
  rfl

theorem indexByte_any (s : ByteArray) (c : UInt8) (w : World) : Calls Try.prog 50 #[.string s, .int .u8 c.toNat] w fun e w' => e = .returned (.int .i64 (idxI s.data.toList c)) ∧ w = w' := by
  go_enter Try.func50, Try.ntmps50
  go_wp2_with (go_at_call 56; refine (strlite_any _ _ _).mono ?_; rintro e w' ⟨rfl, rfl⟩)
  go_ret
  exact ⟨rfl, rfl⟩

theorem stCheck_any (s : ByteArray) (w : World) (hsz : s.size ≤ 140737488351232) : Calls Try.prog 40 #[.string s] w fun e w' => OkRes (okWord s.data.toList) e ∧ w = w' := by
  by_cases hs : 16 < s.size
  · go_enter Try.func40, Try.ntmps40
    go_wp2
    go_ret
    exact ⟨⟨3, rfl, by simp [okWord]; omega⟩, rfl⟩
  · have hs' : s.size ≤ 16 := by omega
    go_enter Try.func40, Try.ntmps40
    go_wp2
    go_loop [9, 3] (fun i _ => ∃ k : Nat, k ≤ s.size ∧ i = .int .i64 k ∧ Hid (∀ j (h : j < k) (h' : j < s.size), s[j] ∈ letters)) (fun i _ => s.size - (intOf i).toNat)
    case atStart => exact ⟨0, Nat.zero_le _, rfl, fun j h => by omega⟩
    case round =>
      obtain ⟨k, hk, rfl, hn⟩ := hrel
      by_cases hlt : k < s.size
      · by_cases hc : s[k] ∈ letters
        · have h0 := idxI_mem hc
          have H : Hid (s[k] ∈ letters) := hc
          clear hc
          go_wp2_with (go_at_call 50; refine (indexByte_any _ _ _).mono ?_; rintro e w' ⟨rfl, rfl⟩; rw [lit_letters])
          go_round
          case rel => exact ⟨k + 1, by omega, by go_num, fun j hj h' => by
            by_cases e : j = k
            · subst e; exact H.out
            · exact hn.out j (by omega) h'⟩
          case measure => simp [intOf]; omega
        · have h0 := idxI_not_mem hc
          have H : Hid (s[k] ∉ letters) := hc
          clear hc
          go_wp2_with (go_at_call 50; refine (indexByte_any _ _ _).mono ?_; rintro e w' ⟨rfl, rfl⟩; rw [lit_letters])
          go_ret
          exact ⟨⟨6, rfl, by simp only [okWord]; exact ⟨fun h => by omega, fun h => absurd (h.2 s[k] (Array.getElem_mem_toList _)) H.out⟩⟩, rfl⟩
      · have H : Hid (okWord s.data.toList) := ⟨by simpa using hs', fun c hc => by
          obtain ⟨j, hj, rfl⟩ := List.getElem_of_mem hc
          exact hn.out j (by simp at hj; omega) (by simpa using hj)⟩
        clear hn
        go_wp2
        go_ret
        exact ⟨⟨0, rfl, ⟨fun _ => H.out, fun _ => rfl⟩⟩, rfl⟩

/-- how a letter twists -/
def tw (c : UInt8) : Int × Int × Int :=
  if c = 67 then (0, 1, 0) else if c = 99 then (0, -1, 0) else if c = 76 then (-1, 0, 0) else if c = 108 then (1, 0, 0) else if c = 82 then (0, 0, -1)
  else if c = 114 then (0, 0, 1) else if c = 84 then (-1, 0, -1) else if c = 116 then (1, 0, 1) else (0, 0, 0)

theorem letters_cases {c : UInt8} (h : c ∈ letters) : c = 67 ∨ c = 84 ∨ c = 76 ∨ c = 82 ∨ c = 80 ∨ c = 99 ∨ c = 116 ∨ c = 108 ∨ c = 114 := by
  simpa [letters] using h

theorem twists_any (c : UInt8) (w : World) (hc : c ∈ letters) : Calls Try.prog 51 #[.int .u8 c.toNat] w fun e w' => e = .returned (.agg #[.int .i64 (tw c).1, .int .i64 (tw c).2.1, .int .i64 (tw c).2.2]) ∧ Grow w w' := by
  rcases letters_cases hc with rfl | rfl | rfl | rfl | rfl | rfl | rfl | rfl | rfl
  · go_enter Try.func51, Try.ntmps51
    go_wp2
    exact bodyPost_ret (v := .agg #[.int .i64 0, .int .i64 1, .int .i64 0]) (by simp [results, Try.results51, go_sem]) rfl ⟨rfl, ((Below.refl _ _).alloc (Nat.le_refl _) _).alloc (by simp) _⟩
  · go_enter Try.func51, Try.ntmps51
    go_wp2
    exact bodyPost_ret (v := .agg #[.int .i64 (-1), .int .i64 0, .int .i64 (-1)]) (by simp [results, Try.results51, go_sem]) rfl ⟨rfl, ((Below.refl _ _).alloc (Nat.le_refl _) _).alloc (by simp) _⟩
  · go_enter Try.func51, Try.ntmps51
    go_wp2
    exact bodyPost_ret (v := .agg #[.int .i64 (-1), .int .i64 0, .int .i64 0]) (by simp [results, Try.results51, go_sem]) rfl ⟨rfl, ((Below.refl _ _).alloc (Nat.le_refl _) _).alloc (by simp) _⟩
  · go_enter Try.func51, Try.ntmps51
    go_wp2
    exact bodyPost_ret (v := .agg #[.int .i64 0, .int .i64 0, .int .i64 (-1)]) (by simp [results, Try.results51, go_sem]) rfl ⟨rfl, ((Below.refl _ _).alloc (Nat.le_refl _) _).alloc (by simp) _⟩
  · go_enter Try.func51, Try.ntmps51
    go_wp2
    exact bodyPost_ret (v := .agg #[.int .i64 0, .int .i64 0, .int .i64 0]) (by simp [results, Try.results51, go_sem]) rfl ⟨rfl, ((Below.refl _ _).alloc (Nat.le_refl _) _).alloc (by simp) _⟩
  · go_enter Try.func51, Try.ntmps51
    go_wp2
    exact bodyPost_ret (v := .agg #[.int .i64 0, .int .i64 (-1), .int .i64 0]) (by simp [results, Try.results51, go_sem]) rfl ⟨rfl, ((Below.refl _ _).alloc (Nat.le_refl _) _).alloc (by simp) _⟩
  · go_enter Try.func51, Try.ntmps51
    go_wp2
    exact bodyPost_ret (v := .agg #[.int .i64 1, .int .i64 0, .int .i64 1]) (by simp [results, Try.results51, go_sem]) rfl ⟨rfl, ((Below.refl _ _).alloc (Nat.le_refl _) _).alloc (by simp) _⟩
  · go_enter Try.func51, Try.ntmps51
    go_wp2
    exact bodyPost_ret (v := .agg #[.int .i64 1, .int .i64 0, .int .i64 0]) (by simp [results, Try.results51, go_sem]) rfl ⟨rfl, ((Below.refl _ _).alloc (Nat.le_refl _) _).alloc (by simp) _⟩
  · go_enter Try.func51, Try.ntmps51
    go_wp2
    exact bodyPost_ret (v := .agg #[.int .i64 0, .int .i64 0, .int .i64 1]) (by simp [results, Try.results51, go_sem]) rfl ⟨rfl, ((Below.refl _ _).alloc (Nat.le_refl _) _).alloc (by simp) _⟩

/-- the crossings of a letter, of a word -/
def cr3 (t : Int × Int × Int) (k : Nat) : List Int :=
  (if 0 < k ∧ t.1 ≠ 0 then [t.1 * 1] else []) ++ (if 1 < k ∧ t.2.1 ≠ 0 then [t.2.1 * 2] else []) ++ (if 2 < k ∧ t.2.2 ≠ 0 then [t.2.2 * 3] else [])
def crL (s : List UInt8) : List Int := s.flatMap fun c => cr3 (tw c) 3

theorem Try.info3 : (Try.prog.info? 3).map (fun i => (i.zero, i.size, i.bytes)) = some (some (.int .i64 0), 1, 8) := by kernel_rfl

theorem cr3_step (t : Int × Int × Int) (k : Nat) (x : Int) (hx : (k = 0 ∧ x = t.1) ∨ (k = 1 ∧ x = t.2.1) ∨ (k = 2 ∧ x = t.2.2)) :
    cr3 t (k + 1) = cr3 t k ++ if x = 0 then [] else [x * (k + 1)] := by
  rcases hx with ⟨rfl, rfl⟩ | ⟨rfl, rfl⟩ | ⟨rfl, rfl⟩ <;> simp [cr3] <;> split <;> simp_all
theorem tw_bd (c : UInt8) : (-1 ≤ (tw c).1 ∧ (tw c).1 ≤ 1) ∧ (-1 ≤ (tw c).2.1 ∧ (tw c).2.1 ≤ 1) ∧ (-1 ≤ (tw c).2.2 ∧ (tw c).2.2 ≤ 1) := by
  unfold tw; repeat' split
  all_goals decide
theorem cr3_len (t : Int × Int × Int) (k : Nat) : (cr3 t k).length ≤ 3 := by
  unfold cr3; split <;> split <;> split <;> simp
theorem crL_succ {l : List UInt8} {k : Nat} {c : UInt8} (h : l[k]? = some c) : crL (l.take (k + 1)) = crL (l.take k) ++ cr3 (tw c) 3 := by
  unfold crL
  rw [List.take_add_one, h]
  simp

set_option maxHeartbeats 1000000 in
set_option maxRecDepth 100000 in
theorem crossings_any (s : ByteArray) (w : World) (hs : okWord s.data.toList) : Calls Try.prog 41 #[.string s] w fun e w' => ∃ v, e = .returned v ∧ w'.ownsRow w.heap.size 3 1 v (crL s.data.toList).length ((crL s.data.toList).map (Value.int .i64)) ∧ Grow w w' := by
  obtain ⟨i0, hi, hz0, hz1, hz2⟩ := info_parts Try.info3
  have h16 : s.size ≤ 16 := hs.1
  have HS := Lib.hid hs.2
  clear hs
  go_enter Try.func41, Try.ntmps41
  go_wp2
  go_loopw [9, 3] (fun i v wr => ∃ (k : Nat) (L : List Int), k ≤ s.size ∧ i = .int .i64 k ∧ Hid (L = crL (s.data.toList.take k)) ∧ L.length ≤ 3 * k ∧ wr.ownsRow w.heap.size 3 1 v L.length (L.map (Value.int .i64)) ∧ Hid (Grow w wr)) (fun i _ _ => s.size - (intOf i).toNat)
  case atStart => exact ⟨0, [], Nat.zero_le _, rfl, by simp [Hid, crL], Nat.le_refl _, World.ownsRow_nil _ _ _ _, Below.refl _ _⟩
  case round =>
    obtain ⟨k, L, hk, rfl, hL, hLl, hown, hg⟩ := hrel
    by_cases hlt : k < s.size
    · have hc : s[k] ∈ letters := HS.out _ (Array.getElem_mem_toList _)
      obtain ⟨t, ht⟩ : ∃ t, tw s[k] = t := ⟨_, rfl⟩
      have hcall := twists_any s[k] wr hc
      have htb := tw_bd s[k]
      rw [ht] at hcall htb
      have HT : Hid (crL (s.data.toList.take (k + 1)) = L ++ cr3 t 3) := by
        have := crL_succ (l := s.data.toList) (k := k) (c := s[k]) (List.getElem?_eq_getElem (by simpa using hlt))
        rw [this, hL.out, ht]
        rfl
      have HC := Lib.hid hcall
      clear hc ht hcall hL
      go_wp2_with (go_at_call 51; refine HC.out.mono ?_; rintro e w1 ⟨rfl, hg1⟩)
      have hown1 := own_grow hown hg1
      have HG1 : Hid (Below w.heap.size w w1) := hg.out.trans (hg1.mono hg.out.size)
      clear hown hg1 HC
      go_loopw [16, 3, 5, 6] (fun i v _ _ wr => ∃ (j : Nat) (M : List Int), j ≤ 3 ∧ i = .int .i64 j ∧ Hid (M = L ++ cr3 t j) ∧ M.length ≤ 3 * k + j ∧ wr.ownsRow w.heap.size 3 1 v M.length (M.map (Value.int .i64)) ∧ Hid (Grow w wr)) (fun i _ _ _ _ => 3 - (intOf i).toNat)
      case atStart => exact ⟨0, L, Nat.zero_le _, rfl, by simp [Hid, cr3], hLl, hown1, HG1⟩
      case round =>
        obtain ⟨j, M, hj, rfl, hM, hMl, hown, hg⟩ := hrel
        by_cases hlt3 : j < 3
        · obtain ⟨x, hx⟩ : ∃ x, (j = 0 ∧ x = t.1) ∨ (j = 1 ∧ x = t.2.1) ∨ (j = 2 ∧ x = t.2.2) := by
            rcases (show j = 0 ∨ j = 1 ∨ j = 2 by omega) with rfl | rfl | rfl
            · exact ⟨_, .inl ⟨rfl, rfl⟩⟩
            · exact ⟨_, .inr (.inl ⟨rfl, rfl⟩)⟩
            · exact ⟨_, .inr (.inr ⟨rfl, rfl⟩)⟩
          have hidx : ∀ w, (Instr.index 106 (.agg #[.int .i64 t.1, .int .i64 t.2.1, .int .i64 t.2.2]) (.int .i64 j)).run Try.prog w = .ok (.int .i64 x) w := by
            intro w
            rcases hx with ⟨rfl, rfl⟩ | ⟨rfl, rfl⟩ | ⟨rfl, rfl⟩
            · kernel_rfl
            · kernel_rfl
            · kernel_rfl
          have HX : Hid (cr3 t (j + 1) = cr3 t j ++ if x = 0 then [] else [x * (j + 1)]) := cr3_step t j x hx
          have hxb : -1 ≤ x ∧ x ≤ 1 := by
            rcases hx with ⟨_, rfl⟩ | ⟨_, rfl⟩ | ⟨_, rfl⟩
            · exact htb.1
            · exact htb.2.1
            · exact htb.2.2
          have hmul : -3 ≤ x * ((j : Int) + 1) ∧ x * ((j : Int) + 1) ≤ 3 := by
            rcases (show x = -1 ∨ x = 0 ∨ x = 1 by omega) with rfl | rfl | rfl <;> omega
          clear hx htb
          by_cases hx0 : x = 0
          · have hb : (x != 0) = false := by simp [hx0]
            have HX0 := Lib.hid hx0
            clear hx0
            go_wp2
            go_roundw
            case rel => exact ⟨j + 1, M, by omega, by go_num, by show M = _; rw [hM.out, HX.out, if_pos HX0.out, List.append_nil], by omega, hown, hg⟩
            case measure => simp [intOf]; omega
          · have hb : (x != 0) = true := by simpa using hx0
            have HX0 := Lib.hid hx0
            clear hx0
            go_wp2_with (at_builtin; refine wpList_app1 _ rfl _ _ 43 rfl w.heap.size 3 i0 (.int .i64 0) 1 8 Try.underlying43 hi hz0 hz1 hz2 rfl (by decide) _ _ _ rfl hown [.int .i64 (x * ((j : Int) + 1))] rfl rfl (by simp [Value.oneCell']) (by unfold maxLen; omega) (by omega) hg.out.size ?_; intro g' cap' w2 hown' hgrow)
            go_roundw
            case rel => exact ⟨j + 1, M ++ [x * ((j : Int) + 1)], by omega, by go_num, by show _ = _; rw [hM.out, HX.out, if_neg HX0.out, List.append_assoc], by simp; omega, by simpa using hown', grow_append hown hg.out hg.out.size hgrow⟩
            case measure => simp [intOf]; omega
        · have hj3 : j = 3 := by omega
          subst hj3
          go_wp2
          go_roundw
          case rel => exact ⟨k + 1, M, by omega, by go_num, by show M = _; rw [hM.out, HT.out], by omega, hown, hg⟩
          case measure => simp [intOf]; omega
    · have hk' : k = s.size := by omega
      subst hk'
      go_wp2
      go_ret
      have hL' : L = crL s.data.toList := by rw [hL.out, List.take_of_length_le (by simp)]
      rw [← hL']
      exact ⟨_, rfl, hown, hg.out⟩

theorem Crossings_any (s : ByteArray) (w : World) (hs : okWord s.data.toList) : Calls Try.prog 23 #[.string s] w fun e w' => ∃ v, e = .returned (.tuple #[v, .int .i64 0]) ∧ w'.ownsRow w.heap.size 3 1 v (crL s.data.toList).length ((crL s.data.toList).map (Value.int .i64)) ∧ Grow w w' := by
  have h16 : s.size ≤ 16 := hs.1
  have HS := Lib.hid hs
  clear hs
  go_enter Try.func23, Try.ntmps23
  go_wp2_with (first | (go_at_call 40; refine (stCheck_any _ _ (by omega)).mono ?_; rintro e w' ⟨⟨n, rfl, hn0⟩, rfl⟩; have hn := hn0.2 HS.out; clear hn0; subst hn) | (go_at_call 41; refine (crossings_any _ _ HS.out).mono ?_; rintro e w1 ⟨v, rfl, hown, hg⟩))
  go_ret2
  exact ⟨v, rfl, hown, hg⟩
end Go.Proofs.Ytefdncpdlgakpaa
