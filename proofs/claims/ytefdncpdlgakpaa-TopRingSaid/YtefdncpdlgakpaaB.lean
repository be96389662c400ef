import Derived.Test.YtefdncpdlgakpaaProg
import Derived.WalkKit
import Derived.KernelRfl
import Derived.Lib.Hide
import Derived.RangeFuncBox
import Derived.Laws.Rows
import Derived.Deep.Draws
namespace Go.Proofs.Ytefdncpdlgakpaa
open Go.RowKit

/-! How data lie in memory: a row of cells at an optional address; element kinds. -/

/-- The cells cs lie at a (nothing is said of a if there are none). -/
def Arr (w : World) (a : Option Addr) (cs : List Value) : Prop :=
  cs ≠ [] → ∃ b o, a = some ⟨b, o, none⟩ ∧ ∀ (j : Nat) (u : Value), cs[j]? = some u → w.cell? ⟨b, o + j, none⟩ = some u

theorem Arr.nil (w : World) (a : Option Addr) : Arr w a [] := fun h => absurd rfl h

theorem cell_lt {w : World} {b o : Nat} {u : Value} (h : w.cell? ⟨b, o, none⟩ = some u) : b < w.heap.size :=
  World.block_lt_of_cell? w _ h

theorem Arr.grow {w w' : World} {B : Nat} {a : Option Addr} {cs : List Value} (h : Arr w a cs) (hg : Below B w w') (hB : w.heap.size ≤ B) : Arr w' a cs := fun hne => by
  obtain ⟨b, o, ha, hc⟩ := h hne
  exact ⟨b, o, ha, fun j u hj => by
    have h1 := hc j u hj
    have := cell_lt h1
    rw [hg.cell (p := ⟨b, o + j, none⟩) (by show b < B; omega)]; exact h1⟩

/-- the blocks of a lie below B -/
def Lies (B : Nat) (a : Option Addr) (cs : List Value) : Prop := cs ≠ [] → ∃ b o, a = some ⟨b, o, none⟩ ∧ b < B

theorem Arr.lies {w : World} {a : Option Addr} {cs : List Value} (h : Arr w a cs) : Lies w.heap.size a cs := fun hne => by
  obtain ⟨b, o, ha, hc⟩ := h hne
  cases cs with
  | nil => exact absurd rfl hne
  | cons c cs => exact ⟨b, o, ha, by have := hc 0 c rfl; exact cell_lt this⟩

theorem Arr.keep {w w' : World} {B : Nat} {a : Option Addr} {cs : List Value} (h : Arr w a cs) (hl : Lies B a cs) (hg : Below B w w') : Arr w' a cs := fun hne => by
  obtain ⟨b, o, ha, hc⟩ := h hne
  obtain ⟨b', o', ha', hlt⟩ := hl hne
  rw [ha] at ha'
  cases ha'
  exact ⟨b, o, ha, fun j u hj => by rw [hg.cell (p := ⟨b, o + j, none⟩) hlt]; exact hc j u hj⟩

theorem Lies.mono {B B' : Nat} {a : Option Addr} {cs : List Value} (h : Lies B a cs) (hB : B ≤ B') : Lies B' a cs := fun hne => by
  obtain ⟨b, o, ha, hb⟩ := h hne
  exact ⟨b, o, ha, by omega⟩

/-- Elements of type α, each in s cells. -/
structure Enc (α : Type) where
  s : Nat
  c : α → List Value
  len : ∀ x, (c x).length = s

theorem flat_len {α : Type} (E : Enc α) (xs : List α) : (xs.flatMap E.c).length = xs.length * E.s := by
  induction xs with
  | nil => simp
  | cons x xs ih => simp [List.flatMap_cons, ih, E.len, Nat.succ_mul]; omega

theorem flat_get {α : Type} (E : Enc α) (xs : List α) (i r : Nat) (x : α) (hi : xs[i]? = some x) (hr : r < E.s) : (xs.flatMap E.c)[i * E.s + r]? = (E.c x)[r]? := by
  induction xs generalizing i with
  | nil => simp at hi
  | cons y ys ih =>
    cases i with
    | zero =>
      simp at hi; subst hi
      simp only [List.flatMap_cons, Nat.zero_mul, Nat.zero_add]
      rw [List.getElem?_append_left (by rw [E.len]; exact hr)]
    | succ i =>
      simp only [List.getElem?_cons_succ] at hi
      simp only [List.flatMap_cons]
      rw [List.getElem?_append_right (by rw [E.len, Nat.succ_mul]; omega), E.len]
      rw [← ih i hi]
      congr 1
      rw [Nat.succ_mul]; omega

/-- the elements xs lie at a -/
def Ar {α : Type} (E : Enc α) (w : World) (a : Option Addr) (xs : List α) : Prop := Arr w a (xs.flatMap E.c)

theorem Ar.nil {α : Type} (E : Enc α) (w : World) (a : Option Addr) : Ar E w a [] := Arr.nil w a

theorem Ar.at {α : Type} {E : Enc α} {w : World} {a : Option Addr} {xs : List α} (h : Ar E w a xs) (hs : 0 < E.s) {i : Nat} (hi : i < xs.length) :
    ∃ b o x, xs[i]? = some x ∧ a = some ⟨b, o, none⟩ ∧ b < w.heap.size ∧ ∀ r u, (E.c x)[r]? = some u → w.cell? ⟨b, o + (i * E.s + r), none⟩ = some u := by
  have hne : xs.flatMap E.c ≠ [] := by
    intro e
    have := congrArg List.length e
    rw [flat_len] at this
    have h2 : 0 < xs.length * E.s := Nat.mul_pos (by omega) hs
    simp only [List.length_nil] at this
    omega
  obtain ⟨b, o, ha, hc⟩ := h hne
  have hget : xs[i]? = some xs[i] := List.getElem?_eq_getElem hi
  have key : ∀ r u, (E.c xs[i])[r]? = some u → w.cell? ⟨b, o + (i * E.s + r), none⟩ = some u := fun r u hu => by
    have hr : r < E.s := by have := (List.getElem?_eq_some_iff.1 hu).1; rwa [E.len] at this
    exact hc _ u (by rw [flat_get E xs i r xs[i] hget hr]; exact hu)
  have h0 : (E.c xs[i])[0]? = some ((E.c xs[i])[0]'(by rw [E.len]; exact hs)) := List.getElem?_eq_getElem _
  exact ⟨b, o, xs[i], hget, ha, cell_lt (key 0 _ h0), key⟩

theorem Ar.grow {α : Type} {E : Enc α} {w w' : World} {a : Option Addr} {xs : List α} (h : Ar E w a xs) (hg : Below w.heap.size w w') : Ar E w' a xs := Arr.grow h hg (Nat.le_refl _)
theorem Ar.alloc {α : Type} {E : Enc α} {w : World} {a : Option Addr} {xs : List α} (h : Ar E w a xs) (o : Obj) : Ar E (w.alloc o) a xs := h.grow ((Below.refl _ _).alloc (Nat.le_refl _) o)

/-! the kinds of elements -/
def eI (k : IntKind) : Enc Int := ⟨1, fun x => [.int k x], fun _ => rfl⟩

structure Wk where
  kind : Int
  pos : Int
  word : ByteArray
def eW : Enc Wk := ⟨3, fun x => [.int .i64 x.kind, .int .i64 x.pos, .string x.word], fun _ => rfl⟩
def Wk.val (x : Wk) : Value := .agg #[.int .i64 x.kind, .int .i64 x.pos, .string x.word]

structure Q4 where
  a : Int
  b : Int
  c : Int
  d : Int
def eQ : Enc Q4 := ⟨4, fun x => [.int .i64 x.a, .int .i64 x.b, .int .i64 x.c, .int .i64 x.d], fun _ => rfl⟩

theorem Ar.of_ints {k : IntKind} {w : World} {a : Option Addr} {xs : List Int} (h : Arr w a (xs.map (Value.int k))) : Ar (eI k) w a xs := by
  unfold Ar
  rw [show xs.flatMap (eI k).c = xs.map (Value.int k) from (List.map_eq_flatMap ..).symm]
  exact h

theorem Ar.int {k : IntKind} {w : World} {a : Option Addr} {xs : List Int} (h : Ar (eI k) w a xs) {i : Nat} (hi : i < xs.length) :
    ∃ b o x, xs[i]? = some x ∧ a = some ⟨b, o, none⟩ ∧ b < w.heap.size ∧ w.cell? ⟨b, o + i, none⟩ = some (.int k x) := by
  obtain ⟨b, o, x, hx, ha, hb, hc⟩ := h.at Nat.one_pos hi
  exact ⟨b, o, x, hx, ha, hb, by have := hc 0 (.int k x) rfl; simpa [eI] using this⟩

theorem Ar.wk {w : World} {a : Option Addr} {xs : List Wk} (h : Ar eW w a xs) {i : Nat} (hi : i < xs.length) :
    ∃ b o x, xs[i]? = some x ∧ a = some ⟨b, o, none⟩ ∧ b < w.heap.size ∧ w.cell? ⟨b, o + i * 3, none⟩ = some (.int .i64 x.kind) ∧ w.cell? ⟨b, o + i * 3 + 1, none⟩ = some (.int .i64 x.pos) ∧ w.cell? ⟨b, o + i * 3 + 2, none⟩ = some (.string x.word) := by
  obtain ⟨b, o, x, hx, ha, hb, hc⟩ := h.at (by decide) hi
  exact ⟨b, o, x, hx, ha, hb, hc 0 _ rfl, hc 1 _ rfl, hc 2 _ rfl⟩

theorem Ar.q4 {w : World} {a : Option Addr} {xs : List Q4} (h : Ar eQ w a xs) {i : Nat} (hi : i < xs.length) :
    ∃ b o x, xs[i]? = some x ∧ a = some ⟨b, o, none⟩ ∧ b < w.heap.size ∧ w.cell? ⟨b, o + i * 4, none⟩ = some (.int .i64 x.a) ∧ w.cell? ⟨b, o + i * 4 + 1, none⟩ = some (.int .i64 x.b) ∧ w.cell? ⟨b, o + i * 4 + 2, none⟩ = some (.int .i64 x.c) ∧ w.cell? ⟨b, o + i * 4 + 3, none⟩ = some (.int .i64 x.d) := by
  obtain ⟨b, o, x, hx, ha, hb, hc⟩ := h.at (by decide) hi
  exact ⟨b, o, x, hx, ha, hb, hc 0 _ rfl, hc 1 _ rfl, hc 2 _ rfl, hc 3 _ rfl⟩

/-- What an owned row gives to a reader. -/
theorem own_arr {w : World} {base : Nat} {e : TypeId} {size n : Nat} {v : Value} {xs : List Value} (h : w.ownsRow base e size v n xs) :
    ∃ a cap, v = .slice a n cap ∧ Arr w a xs ∧ n ≤ cap ∧ cap ≤ maxLen := by
  obtain ⟨hl, h⟩ := h
  rcases h with ⟨rfl, rfl⟩ | ⟨g, cap, cur, rfl, hb, hg, hn, hm, hc, ht⟩
  · have : xs = [] := List.eq_nil_of_length_eq_zero (by simpa using hl)
    subst this
    exact ⟨none, 0, rfl, Arr.nil w none, Nat.le_refl _, by decide⟩
  · refine ⟨_, cap, rfl, fun _ => ⟨g, 0, rfl, fun j u hj => ?_⟩, hn, hm⟩
    rw [← ht, List.getElem?_take] at hj
    split at hj
    · simp only [Nat.zero_add, World.cell?, hg]
      simpa using hj
    · cases hj

theorem own_ar {w : World} {base : Nat} {e : TypeId} {size n m cap : Nat} {a : Option Addr} {xs : List Value} (h : w.ownsRow base e size (.slice a m cap) n xs) : Arr w a xs ∧ m = n ∧ n ≤ cap ∧ cap ≤ maxLen := by
  obtain ⟨a', cap', hv, h1, h2, h3⟩ := own_arr h
  cases hv
  exact ⟨h1, rfl, h2, h3⟩

/-- a world that has grown: nothing that was there has turned -/
abbrev Grow (w w' : World) : Prop := Below w.heap.size w w'

theorem Grow.grownBy {w w' : World} (h : Grow w w') (row : Option Nat) : w.grownBy w' row := ⟨h.os, h.tape, h.output, h.size, fun k hk _ => h.block k hk⟩

/-- a row that a call owns lies on while the world grows -/
theorem own_grow {w w' : World} {base : Nat} {e : TypeId} {size n : Nat} {v : Value} {xs : List Value} (h : w.ownsRow base e size v n xs) (hg : Grow w w') : w'.ownsRow base e size v n xs :=
  h.kept (Grow.grownBy hg none) (by cases hv : v.ownBlock <;> simp)

theorem own_base {w : World} {base base' : Nat} {e : TypeId} {size n : Nat} {v : Value} {xs : List Value} (h : w.ownsRow base e size v n xs) (hb : base' ≤ base) : w.ownsRow base' e size v n xs := by
  obtain ⟨h1, h2⟩ := h
  refine ⟨h1, ?_⟩
  rcases h2 with h2 | ⟨g, cap, cur, hv, hg, r⟩
  · exact .inl h2
  · exact .inr ⟨g, cap, cur, hv, by omega, r⟩

/-- behind an append to a row that the call owns from base on -/
theorem grow_append {w wr w1 : World} {base : Nat} {e : TypeId} {size n : Nat} {v : Value} {xs : List Value} {o : Obj} (h : wr.ownsRow base e size v n xs) (hw : Below base w wr) (hb : base ≤ wr.heap.size)
    (hg : (wr.alloc o).grownBy w1 v.ownBlock) : Below base w w1 :=
  (hw.alloc hb o).grown hg (by simp; omega) fun k hk => (h.lt k hk).1

/-- 'append(s, x)': one element, built ahead of it in a block of its own; s is nil or a row of the call's own. -/
theorem wpList_app1 {P : Program} {ops : Array Oper} {rest : List Oper} {o : Oper} {a : Act} {Q : Exit → Act → World → Prop} (w : World) (hgd : o.guard = none) (s x : Operand) (t : TypeId)
    (ho : o.op = .call { callee := .builtin .append, args := #[s, x], argTypes := #[t, t] })
    (base : Nat) (e : TypeId) (i : TypeInfo) (z : Value) (size bytes : Nat) (ht : P.underlying t = some (.slice e)) (hi : P.info? e = some i) (hz : i.zero = some z)
    (hsize : i.size = size) (hby : i.bytes = bytes) (hzs : z.cells.size = size) (hsz : 0 < size)
    (v : Value) (n : Nat) (xs : List Value) (hs : a.eval s = v) (hown : w.ownsRow base e size v n xs) (news : List Value)
    (hx : a.eval x = .slice (some ⟨w.heap.size, 0, none⟩) 1 1) (hl : news.length = size) (h1 : ∀ u ∈ news, u.oneCell' = true)
    (h63 : n + 1 ≤ maxLen) (hbytes : (n + 1) * bytes ≤ 140737488355328) (hbase : base ≤ w.heap.size)
    (h : ∀ g cap w', w'.ownsRow base e size (.slice (some ⟨g, 0, none⟩) (n + 1) cap) (n + 1) (xs ++ news) → (w.alloc (.cells news.toArray e)).grownBy w' v.ownBlock → wpList P ops Q rest (a.put o.dst (.slice (some ⟨g, 0, none⟩) (n + 1) cap)) w') :
    wpList P ops Q (o :: rest) a (w.alloc (.cells news.toArray e)) :=
  wpList_append_own _ hgd s x t ho base e i z size bytes ht hi hz hsize hby hzs hsz v n xs hs (hown.alloc _) ⟨w.heap.size, 0, none⟩ 1 1 news hx (by omega)
    (fun j u hu => by
      have hadd : (⟨w.heap.size, 0, none⟩ : Addr).add j = ⟨w.heap.size, j, none⟩ := by unfold Addr.add; split <;> simp_all
      rw [hadd, World.cell?_alloc_at _ _ _ _ rfl]
      simpa using hu)
    h1 h63 hbytes (by simp; omega) (fun v' w' h2 h3 _ => by
      obtain ⟨g, cap, rfl⟩ := ownsRow_succ h2
      exact h g cap w' h2 h3)

/-- The same, the built element's block under a name of its own. -/
theorem wpList_app1g {P : Program} {ops : Array Oper} {rest : List Oper} {o : Oper} {a : Act} {Q : Exit → Act → World → Prop} (w : World) (g : Nat) (hg : g = w.heap.size) (hgd : o.guard = none) (s x : Operand) (t : TypeId)
    (ho : o.op = .call { callee := .builtin .append, args := #[s, x], argTypes := #[t, t] })
    (base : Nat) (e : TypeId) (i : TypeInfo) (z : Value) (size bytes : Nat) (ht : P.underlying t = some (.slice e)) (hi : P.info? e = some i) (hz : i.zero = some z)
    (hsize : i.size = size) (hby : i.bytes = bytes) (hzs : z.cells.size = size) (hsz : 0 < size)
    (v : Value) (n : Nat) (xs : List Value) (hs : a.eval s = v) (hown : w.ownsRow base e size v n xs) (news : List Value)
    (hx : a.eval x = .slice (some ⟨g, 0, none⟩) 1 1) (hl : news.length = size) (h1 : ∀ u ∈ news, u.oneCell' = true)
    (h63 : n + 1 ≤ maxLen) (hbytes : (n + 1) * bytes ≤ 140737488355328) (hbase : base ≤ w.heap.size)
    (h : ∀ g cap w', w'.ownsRow base e size (.slice (some ⟨g, 0, none⟩) (n + 1) cap) (n + 1) (xs ++ news) → (w.alloc (.cells news.toArray e)).grownBy w' v.ownBlock → wpList P ops Q rest (a.put o.dst (.slice (some ⟨g, 0, none⟩) (n + 1) cap)) w') :
    wpList P ops Q (o :: rest) a (w.alloc (.cells news.toArray e)) := by
  subst hg
  exact wpList_app1 w hgd s x t ho base e i z size bytes ht hi hz hsize hby hzs hsz v n xs hs hown news hx hl h1 h63 hbytes hbase h

theorem bcell {B : Nat} {W w1 : World} (hb : Below B W w1) : (∀ b o, b < B → w1.cell? ⟨b, o, none⟩ = W.cell? ⟨b, o, none⟩) ∧ (∀ b o, b < B → w1.frozen? ⟨b, o, none⟩ = W.frozen? ⟨b, o, none⟩) :=
  ⟨fun b o h => hb.cell (p := ⟨b, o, none⟩) h, fun b o h => hb.frozen (p := ⟨b, o, none⟩) h⟩

/-! A block known whole. -/
def Blk (w : World) (b : Nat) (cs : Array Value) (T : TypeId) : Prop := w.heap[b]? = some (.cells cs T (0, 0))

section
variable {w w' : World} {b : Nat} {cs : Array Value} {T : TypeId}
theorem Blk.lt (h : Blk w b cs T) : b < w.heap.size := (Array.getElem?_eq_some_iff.1 h).1
theorem Blk.cell (h : Blk w b cs T) (j : Nat) : w.cell? ⟨b, j, none⟩ = cs[j]? := cell_of_row w b j cs T (0, 0) h
theorem Blk.frozen (h : Blk w b cs T) (j : Nat) : w.frozen? ⟨b, j, none⟩ = false := frozen_of_row w b j cs T h
theorem Blk.new (w : World) (cs : Array Value) (T : TypeId) : Blk (w.alloc (.cells cs T)) w.heap.size cs T := heap_alloc_new w _
theorem Blk.new' (w : World) (cs : Array Value) (T : TypeId) (n : Nat) (hn : n = w.heap.size) : Blk (w.alloc (.cells cs T)) n cs T := hn ▸ heap_alloc_new w _
theorem Blk.kept {row : Option Nat} (h : Blk w b cs T) (hg : w.grownBy w' row) (hne : some b ≠ row) : Blk w' b cs T := (hg.block b h.lt hne).trans h
theorem Blk.alloc (h : Blk w b cs T) (o : Obj) : Blk (w.alloc o) b cs T := h.kept (World.grownBy_alloc w o none) (by simp)
theorem Blk.below {B : Nat} (h : Blk w b cs T) (hg : Below B w w') (hb : b < B) : Blk w' b cs T := (hg.block b hb).trans h
theorem Blk.grow (h : Blk w b cs T) (hg : Grow w w') : Blk w' b cs T := h.below hg h.lt
theorem Blk.drew (h : Blk w b cs T) : Blk w.drew b cs T := h
theorem Blk.drewN (h : Blk w b cs T) (n : Nat) : Blk (w.drewN n) b cs T := h
theorem Blk.set (h : Blk w b cs T) (i : Nat) (v : Value) : Blk (w.setCell ⟨b, i, none⟩ v) b (cs.setIfInBounds i v) T := heap_setCell_same w b i cs T v h
theorem Blk.setOther (h : Blk w b cs T) (a : Addr) (v : Value) (hne : b ≠ a.block) : Blk (w.setCell a v) b cs T := (heap_setCell_other w a b v hne).trans h
theorem Blk.row (h : Blk w b cs T) (cs' : Array Value) : Blk (w.setRow b cs') b cs' T := setRow_heap w b cs cs' T (0, 0) h
theorem Blk.rowOther (h : Blk w b cs T) (g : Nat) (cs' : Array Value) (hne : b ≠ g) : Blk (w.setRow g cs') b cs T := (setRow_other w g b cs' hne).trans h
end

theorem grownBy_setCell (w : World) (b i : Nat) (v : Value) : w.grownBy (w.setCell ⟨b, i, none⟩ v) (some b) :=
  ⟨rfl, rfl, rfl, by simp [World.setCell], fun k _ hk => Below.heap_setCell _ _ _ k (fun e => hk (by rw [e]))⟩
theorem grownBy_setRow (w : World) (b : Nat) (cs : Array Value) : w.grownBy (w.setRow b cs) (some b) :=
  ⟨rfl, rfl, rfl, by simp, fun k _ hk => setRow_other w b k cs (fun e => hk (by rw [e]))⟩
theorem grownBy_trans {a b c : World} {row : Option Nat} (h : a.grownBy b row) (k : b.grownBy c row) : a.grownBy c row :=
  ⟨k.os.trans h.os, k.tape.trans h.tape, k.output.trans h.output, Nat.le_trans h.size k.size, fun i hi hr => (k.block i (Nat.lt_of_lt_of_le hi h.size) hr).trans (h.block i hi hr)⟩
theorem grownBy_refl (w : World) (row : Option Nat) : w.grownBy w row := ⟨rfl, rfl, rfl, Nat.le_refl _, fun _ _ _ => rfl⟩
theorem grownBy_drew {a b : World} {row : Option Nat} (h : a.grownBy b row) : a.grownBy b.drew row := ⟨h.os, h.tape, h.output, h.size, h.block⟩
theorem grownBy_drewN {a b : World} {row : Option Nat} (h : a.grownBy b row) (n : Nat) : a.grownBy (b.drewN n) row := ⟨h.os, h.tape, h.output, h.size, h.block⟩

/-- Of what was there, only blocks of S may have turned. -/
structure Turn (S : Nat → Prop) (w w' : World) : Prop where
  os : w'.os = w.os
  tape : w'.tape = w.tape
  output : w'.output = w.output
  size : w.heap.size ≤ w'.heap.size
  block : ∀ k, k < w.heap.size → ¬ S k → w'.heap[k]? = w.heap[k]?

section
variable {S S' : Nat → Prop} {w w' w'' : World}
theorem Turn.refl (S : Nat → Prop) (w : World) : Turn S w w := ⟨rfl, rfl, rfl, Nat.le_refl _, fun _ _ _ => rfl⟩
theorem Turn.trans (h : Turn S w w') (k : Turn S w' w'') : Turn S w w'' :=
  ⟨k.os.trans h.os, k.tape.trans h.tape, k.output.trans h.output, Nat.le_trans h.size k.size, fun i hi hs => (k.block i (Nat.lt_of_lt_of_le hi h.size) hs).trans (h.block i hi hs)⟩
theorem Turn.mono (h : Turn S w w') (hs : ∀ k, k < w.heap.size → S k → S' k) : Turn S' w w' :=
  ⟨h.os, h.tape, h.output, h.size, fun i hi hn => h.block i hi (fun e => hn (hs i hi e))⟩
theorem Turn.grown {row : Option Nat} (hg : w.grownBy w' row) (hs : ∀ k, some k = row → S k) : Turn S w w' :=
  ⟨hg.os, hg.tape, hg.output, hg.size, fun k hk hn => hg.block k hk (fun e => hn (hs k e))⟩
theorem Turn.grow (hg : Grow w w') : Turn S w w' := ⟨hg.os, hg.tape, hg.output, hg.size, fun k hk _ => hg.block k hk⟩
theorem Turn.below {B : Nat} (h : Turn S w w') (hB : B ≤ w.heap.size) (hs : ∀ k, S k → B ≤ k) : Below B w w' :=
  ⟨h.os, h.tape, h.output, h.size, fun k hk => h.block k (by omega) (fun e => by have := hs k e; omega)⟩
theorem Turn.of_below {B : Nat} (h : Below B w w') (hs : ∀ k, k < w.heap.size → B ≤ k → S k) : Turn S w w' :=
  ⟨h.os, h.tape, h.output, h.size, fun k hk hn => h.block k (by rcases Nat.lt_or_ge k B with h' | h'; exact h'; exact absurd (hs k hk h') hn)⟩
theorem Turn.alloc (h : Turn S w w') (o : Obj) : Turn S w (w'.alloc o) := h.trans (Turn.grown (World.grownBy_alloc w' o none) (fun _ e => by cases e))
theorem Turn.setCell (h : Turn S w w') {b i : Nat} (hb : S b) (v : Value) : Turn S w (w'.setCell ⟨b, i, none⟩ v) :=
  h.trans (Turn.grown (grownBy_setCell w' b i v) (fun _ e => by cases e; exact hb))
theorem Turn.drew (h : Turn S w w') : Turn S w w'.drew := ⟨h.os, h.tape, h.output, h.size, h.block⟩
theorem Turn.drewN (h : Turn S w w') (n : Nat) : Turn S w (w'.drewN n) := ⟨h.os, h.tape, h.output, h.size, h.block⟩
theorem Blk.turn {b : Nat} {cs : Array Value} {T : TypeId} (h : Blk w b cs T) (ht : Turn S w w') (hn : ¬ S b) : Blk w' b cs T := (ht.block b h.lt hn).trans h
theorem own_turn {base : Nat} {e : TypeId} {size n : Nat} {v : Value} {xs : List Value} (h : w.ownsRow base e size v n xs) (ht : Turn S w w') (hn : ∀ k, v.ownBlock = some k → ¬ S k) : w'.ownsRow base e size v n xs := by
  refine ⟨h.1, ?_⟩
  rcases h.2 with h2 | ⟨g, cap, cur, rfl, hb, hgg, rest⟩
  · exact .inl h2
  · refine .inr ⟨g, cap, cur, rfl, hb, ?_, rest⟩
    rw [ht.block g (Array.getElem?_eq_some_iff.1 hgg).1 (hn g rfl)]
    exact hgg
/-- a row is no block of another type -/
theorem Blk.not_row {b : Nat} {cs : Array Value} {T e : TypeId} (h : Blk w b cs T) (hte : T ≠ e) {base size n : Nat} {v : Value} {xs : List Value} (hr : w.ownsRow base e size v n xs) : ∀ k, v.ownBlock = some k → k ≠ b := by
  intro k hk e'
  subst e'
  rcases hr.2 with ⟨rfl, _⟩ | ⟨g, cap, cur, rfl, _, hgb, _⟩
  · simp [Value.ownBlock] at hk
  · obtain rfl : g = k := by simpa [Value.ownBlock] using hk
    have := (show w.heap[g]? = _ from h).symm.trans hgb
    simp at this
    exact hte this.2
end

/-- two rows of different types -/
theorem own_ne {w : World} {base base' : Nat} {e e' : TypeId} {size size' n n' : Nat} {v v' : Value} {xs xs' : List Value} (h : w.ownsRow base e size v n xs) (h' : w.ownsRow base' e' size' v' n' xs') (hne : e ≠ e') : ∀ k, v.ownBlock = some k → v'.ownBlock ≠ some k := by
  intro k hk hk'
  rcases h.2 with ⟨rfl, _⟩ | ⟨g, cap, cur, rfl, _, hg, _⟩
  · simp [Value.ownBlock] at hk
  rcases h'.2 with ⟨rfl, _⟩ | ⟨g', cap', cur', rfl, _, hg', _⟩
  · simp [Value.ownBlock] at hk'
  simp [Value.ownBlock] at hk hk'
  subst hk; subst hk'
  rw [hg] at hg'
  simp at hg'
  exact hne hg'.2

/-- an array of ints -/
def lineC (l : List Int) : Array Value := (l.map (Value.int .i64)).toArray
theorem lineC_size (l : List Int) : (lineC l).size = l.length := by simp [lineC]
theorem lineC_get (l : List Int) (i : Nat) : (lineC l)[i]? = (l[i]?).map (Value.int .i64) := by simp [lineC]
theorem lineC_set (l : List Int) (i : Nat) (x : Int) : (lineC l).setIfInBounds i (.int .i64 x) = lineC (l.set i x) := by
  simp [lineC, List.map_set]
theorem lineC_one (l : List Int) : (lineC l).all (·.oneCell') = true := by
  rw [Array.all_eq_true_iff_forall_mem]
  intro v hv
  simp only [lineC, List.mem_toArray, List.mem_map] at hv
  obtain ⟨x, _, rfl⟩ := hv
  rfl

end Go.Proofs.Ytefdncpdlgakpaa
