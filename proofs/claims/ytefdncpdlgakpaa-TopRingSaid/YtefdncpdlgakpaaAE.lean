import Derived.Test.YtefdncpdlgakpaaB
import Derived.WalkKit
import Derived.ProofKit
import Derived.OpenShut
import Derived.ShutString
import Derived.ChangeOld
import Derived.Below
import Derived.Deep.Slices
import Derived.Deep.Strs
import Derived.Lib.SmallJoins
namespace Go.Proofs.Ytefdncpdlgakpaa
open Go.ChangeShapes Go.WideShapes Go.ChangeAt Go.RowKit Go.Deep Go.Joins
open Go.ChangeMaps (open_string shut_string)

/-! From what the form reads to the walk's words. -/
section
variable {H : Type} {enc : TypeId × Value → H} {P : Program} {w : World} {spare : Nat → Bool} {held : Bool}

/-- a slice of whole numbers that came in -/
theorem in_ints {t e : TypeId} {k : IntKind} {fuel : Nat} {a : Option Addr} {len cap : Nat} {x : DataW H × List MemPlace} (ht : P.underlying t = some (.slice e)) (he : P.underlying e = some (.int k)) (hc : P.cellsOf e = 1)
    (h : DataW.trod enc P w 0 spare held fuel t [.slice a len cap] = some x) : ∃ xs : List Int, xs.length = len ∧ len ≤ maxLen ∧ Ar (eI k) w a xs ∧ ∀ n ∈ xs, (Lit.int k n).wf = true := by
  rcases open_ints ht he hc h with ⟨hcs, _⟩ | ⟨b, l, c, zs, hcs, _, hl, hm, hz, _, hcell, hwz⟩
  · simp at hcs
    obtain ⟨rfl, rfl, rfl⟩ := hcs
    exact ⟨[], rfl, Nat.zero_le _, Ar.nil _ _ _, fun n hn => by simp at hn⟩
  · simp at hcs
    obtain ⟨rfl, rfl, rfl⟩ := hcs
    have hlz : len ≤ zs.length := by rw [hz]; split <;> omega
    have hln : (zs.take len).length = len := by rw [List.length_take]; omega
    refine ⟨zs.take len, hln, by omega, Ar.of_ints (fun hne => ?_), fun n hn => hwz n (List.mem_of_mem_take hn)⟩
    have h0 : 0 < len := by
      rcases Nat.eq_zero_or_pos len with h | h
      · subst h; simp at hne
      · exact h
    obtain ⟨b, off, spot⟩ := b
    have hs := hcell 0 (by omega)
    have hspot : spot = none := by simpa [Addr.add] using World.cell?_spot hs
    subst hspot
    refine ⟨b, off, rfl, fun j u hu => ?_⟩
    have hj : j < len := by
      have := (List.getElem?_eq_some_iff.1 hu).1
      simp at this
      omega
    rw [List.getElem?_map] at hu
    have hcj := hcell j (by omega)
    have hadd : (⟨b, off, none⟩ : Addr).add j = ⟨b, off + j, none⟩ := by unfold Addr.add; split <;> simp_all
    rw [hadd] at hcj
    rw [hcj]
    rw [List.getElem?_take, if_pos hj, List.getElem?_eq_getElem (by omega)] at hu
    simp only [Option.map_some, Option.some.injEq] at hu
    rw [← hu, List.getD_eq_getElem?_getD, List.getElem?_eq_getElem (by omega)]
    rfl

/-- a slice of works that came in -/
theorem in_works {t e : TypeId} {f0 f1 f2 : Field} {fuel : Nat} {a : Option Addr} {len cap : Nat} {x : DataW H × List MemPlace} (ht : P.underlying t = some (.slice e)) (he : P.underlying e = some (.struct #[f0, f1, f2]))
    (ce : P.cellsOf e = 3) (o0 : f0.offset = 0) (o1 : f1.offset = 1) (o2 : f2.offset = 2) (c0 : P.cellsOf f0.type = 1) (c1 : P.cellsOf f1.type = 1) (c2 : P.cellsOf f2.type = 1)
    (t0 : P.underlying f0.type = some (.int .i64)) (t1 : P.underlying f1.type = some (.int .i64)) (t2 : P.underlying f2.type = some .string)
    (h : DataW.trod enc P w 0 spare held fuel t [.slice a len cap] = some x) : ∃ ws : List Wk, ws.length = len ∧ len ≤ maxLen ∧ Ar eW w a ws ∧ ∀ y ∈ ws, y.word.size ≤ maxLen := by
  rcases open_slice ht h with ⟨hcs, _⟩ | ⟨b, l, c, m, n, D, Pl, hcs, _, hl, hm, hmm, _, hx⟩
  · simp at hcs
    obtain ⟨rfl, rfl, rfl⟩ := hcs
    exact ⟨[], rfl, Nat.zero_le _, Ar.nil _ _ _, fun n hn => by simp at hn⟩
  · simp at hcs
    obtain ⟨rfl, rfl, rfl⟩ := hcs
    have hlm : len ≤ m := by rw [hmm]; split <;> omega
    have each : ∀ i, i < len → ∃ y : Wk, (∀ r v, (eW.c y)[r]? = some v → w.cell? (b.add (i * 3 + r)) = some v) ∧ y.word.size ≤ maxLen := by
      intro i hi
      obtain ⟨cs', h1, h2⟩ := hx i (by omega)
      rw [ce] at h1
      obtain ⟨_, hlen, hcell⟩ := World.cells?_some h1
      obtain ⟨y0, y1, y2, k, _, _, g0, g1, g2⟩ := trod_struct3 he h2
      rw [o0, c0] at g0
      rw [o1, c1] at g1
      rw [o2, c2] at g2
      match cs', hlen, hcell, g0, g1, g2 with
      | [v0, v1, v2], _, hcell, g0, g1, g2 =>
        obtain ⟨n0, e0, _, _⟩ := DataW.trod_int t0 g0
        obtain ⟨n1, e1, _, _⟩ := DataW.trod_int t1 g1
        obtain ⟨s, e2, _, hs⟩ := DataW.trod_string t2 g2
        simp at e0 e1 e2
        subst e0 e1 e2
        refine ⟨⟨n0, n1, s⟩, fun r v hv => ?_, hs⟩
        rw [← add_add]
        match r, hv with
        | 0, hv => exact (hcell 0 (by omega)).trans hv
        | 1, hv => exact (hcell 1 (by omega)).trans hv
        | 2, hv => exact (hcell 2 (by omega)).trans hv
    haveI : Inhabited Wk := ⟨⟨0, 0, ByteArray.empty⟩⟩
    obtain ⟨f, hf⟩ := choose_lt each
    have hln : ((List.range len).map f).length = len := by simp
    refine ⟨(List.range len).map f, hln, by omega, fun hne => ?_, fun y hy => ?_⟩
    · have h0 : 0 < len := by
        rcases Nat.eq_zero_or_pos len with h | h
        · subst h; simp at hne
        · exact h
      obtain ⟨b, off, spot⟩ := b
      have hs := (hf 0 h0).1 0 _ rfl
      have hspot : spot = none := by simpa [Addr.add] using World.cell?_spot hs
      subst hspot
      refine ⟨b, off, rfl, fun j u hu => ?_⟩
      have hj : j < len * 3 := by
        have := (List.getElem?_eq_some_iff.1 hu).1
        rw [flat_len, hln] at this
        exact this
      have hjd : j / 3 < len := by omega
      have hget := flat_get eW ((List.range len).map f) (j / 3) (j % 3) (f (j / 3)) (by rw [List.getElem?_map, List.getElem?_range hjd]; rfl) (Nat.mod_lt _ (by decide))
      have e : j / 3 * eW.s + j % 3 = j := by show j / 3 * 3 + j % 3 = j; omega
      rw [e, hu] at hget
      have := (hf (j / 3) hjd).1 (j % 3) u hget.symm
      rw [show j / 3 * 3 + j % 3 = j by omega] at this
      have hadd : (⟨b, off, none⟩ : Addr).add j = ⟨b, off + j, none⟩ := by unfold Addr.add; split <;> simp_all
      rwa [hadd] at this
    · obtain ⟨i, hi, rfl⟩ := List.mem_map.1 hy
      exact (hf i (List.mem_range.1 hi)).2
theorem slice_val {t e : TypeId} {fuel : Nat} {v : Value} {x : DataW H × List MemPlace} (ht : P.underlying t = some (.slice e)) (h : DataW.trod enc P w 0 spare held fuel t [v] = some x) : ∃ a len cap, v = .slice a len cap := by
  rcases open_slice ht h with ⟨e, _⟩ | ⟨b, l, c, m, n, D, Pl, e, _⟩
  · simp at e; exact ⟨_, _, _, e⟩
  · simp at e; exact ⟨_, _, _, e⟩
end
end Go.Proofs.Ytefdncpdlgakpaa
