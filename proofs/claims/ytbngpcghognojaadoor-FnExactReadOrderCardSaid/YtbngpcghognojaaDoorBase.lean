/- Words for the proofs about crates: how bottles, crates and numbers lie in memory. -/
import Derived.Test.YtbngpcghognojaaDoorProg
import Derived.WalkKit
import Derived.Below
import Derived.Lib.Hide
import Derived.KernelRfl
import Derived.Deep.Draws
import Derived.Deep.QuietTactic
import Derived.BigQuiet
import Derived.Lib.QuietBelow
namespace Go.Proofs.YtbngpcghognojaaDoor
open Go.RowKit
set_option linter.unusedVariables false
set_option linter.unusedSimpArgs false
set_option maxRecDepth 100000
set_option maxHeartbeats 1000000

/-! ### Bottles, crates, wants, swaps -/
structure Bt where
  k : Int
  y : Int
  hk : 0 ≤ k ∧ k ≤ 255
  hy : -32768 ≤ y ∧ y ≤ 32767
theorem Bt.ext2 {a b : Bt} (h : a.k = b.k) (h' : a.y = b.y) : a = b := by
  cases a
  cases b
  simp at h h'
  subst h h'
  rfl
theorem Bt.eq_iff {a b : Bt} : a = b ↔ a.k = b.k ∧ a.y = b.y := ⟨fun h => by rw [h]; exact ⟨rfl, rfl⟩, fun h => Bt.ext2 h.1 h.2⟩
instance : DecidableEq Bt := fun a b => if h : a.k = b.k ∧ a.y = b.y then isTrue (Bt.eq_iff.2 h) else isFalse (fun e => h (Bt.eq_iff.1 e))
def zB : Bt := ⟨0, 0, by decide, by decide⟩
instance : Inhabited Bt := ⟨zB⟩
/-- No bottle. -/
def Bt.em (b : Bt) : Bool := b.k == 0 && b.y == 0
theorem Bt.em_iff {b : Bt} : b.em = true ↔ b = zB := by
  rw [Bt.eq_iff]
  simp [Bt.em, zB]
/-- A valid bottle. -/
def Bt.ok (b : Bt) : Bool := decide (1 ≤ b.k ∧ b.k ≤ 20 ∧ 1900 ≤ b.y ∧ b.y ≤ 2099)
/-- Two bottles are alike, field by field. -/
def Bt.like (a b : Bt) : Bool := a.k == b.k && a.y == b.y
theorem Bt.like_iff {a b : Bt} : a.like b = true ↔ a = b := by
  rw [Bt.eq_iff]
  simp [Bt.like]
theorem Bt.like_eq {a b : Bt} : a.like b = decide (a = b) := by
  rw [Bool.eq_iff_iff, Bt.like_iff, decide_eq_true_iff]
/-- -1, 0, 1: the order of bottles. -/
def Bt.cmp (a b : Bt) : Int := if a.k < b.k then -1 else if b.k < a.k then 1 else if a.y < b.y then -1 else if b.y < a.y then 1 else 0
/-- Free, or valid. -/
def Bt.fine (b : Bt) : Bool := b.em || b.ok

abbrev Cr := Vector Bt 12
def zC : Cr := Vector.replicate 12 zB
def Cr.ok (c : Cr) : Bool := c.toList.all Bt.fine
def rB (l : List Bt) (i : Nat) : Bt := l.getD i zB

theorem rB_lt {l : List Bt} {i : Nat} (h : i < l.length) : rB l i = l[i] := by
  unfold rB
  rw [List.getD_eq_getElem?_getD, List.getElem?_eq_getElem h]
  rfl
theorem rB_some {l : List Bt} {i : Nat} (h : i < l.length) : l[i]? = some (rB l i) := by
  rw [rB_lt h, List.getElem?_eq_getElem h]

/-! ### Their cells -/
def bc (b : Bt) : List Value := [.int .u8 b.k, .int .i16 b.y]
abbrev bv (b : Bt) : Value := .agg #[.int .u8 b.k, .int .i16 b.y]
def bcs : List Bt → List Value
  | [] => []
  | b :: l => .int .u8 b.k :: .int .i16 b.y :: bcs l
def cc (c : Cr) : List Value := bcs c.toList
abbrev cv (c : Cr) : Value := .agg (cc c).toArray

theorem bcs_length : ∀ l : List Bt, (bcs l).length = 2 * l.length
  | [] => rfl
  | b :: l => by
    simp only [bcs, List.length_cons, bcs_length l]
    omega
theorem bcs_append : ∀ l m : List Bt, bcs (l ++ m) = bcs l ++ bcs m
  | [], _ => rfl
  | b :: l, m => by simp only [bcs, List.cons_append, bcs_append l m]
theorem bcs_at : ∀ (l : List Bt) (i : Nat), i < l.length → (bcs l)[i * 2]? = some (.int .u8 (rB l i).k) ∧ (bcs l)[i * 2 + 1]? = some (.int .i16 (rB l i).y)
  | [], i, h => by simp at h
  | b :: l, 0, _ => ⟨rfl, rfl⟩
  | b :: l, i + 1, h => by
    have := bcs_at l i (by simpa using h)
    rw [show (i + 1) * 2 = i * 2 + 1 + 1 by omega]
    simpa [bcs, rB] using this
theorem bcs_set : ∀ (l : List Bt) (i : Nat) (b : Bt), i < l.length → bcs (l.set i b) = ((bcs l).set (i * 2) (.int .u8 b.k)).set (i * 2 + 1) (.int .i16 b.y)
  | [], i, _, h => by simp at h
  | a :: l, 0, b, _ => rfl
  | a :: l, i + 1, b, h => by
    have := bcs_set l i b (by simpa using h)
    rw [show (i + 1) * 2 = i * 2 + 1 + 1 by omega]
    simp [bcs, this]
theorem bcs_drop : ∀ (l : List Bt) (i : Nat), bcs (l.drop i) = (bcs l).drop (i * 2)
  | l, 0 => by simp
  | [], i + 1 => by simp [bcs]
  | b :: l, i + 1 => by
    rw [show (i + 1) * 2 = i * 2 + 1 + 1 by omega]
    simpa [bcs] using bcs_drop l i
theorem bcs_take : ∀ (l : List Bt) (i : Nat), bcs (l.take i) = (bcs l).take (i * 2)
  | l, 0 => by simp [bcs]
  | [], i + 1 => by simp [bcs]
  | b :: l, i + 1 => by
    rw [show (i + 1) * 2 = i * 2 + 1 + 1 by omega]
    simpa [bcs] using bcs_take l i
theorem bcs_one : ∀ (l : List Bt), ∀ v ∈ bcs l, v.oneCell' = true
  | [], v, h => by simp [bcs] at h
  | b :: l, v, h => by
    simp only [bcs, List.mem_cons] at h
    rcases h with rfl | rfl | h
    · rfl
    · rfl
    · exact bcs_one l v h
theorem bcs_inj : ∀ (l m : List Bt), bcs l = bcs m → l = m
  | [], [], _ => rfl
  | [], _ :: _, h => by simp [bcs] at h
  | _ :: _, [], h => by simp [bcs] at h
  | a :: l, b :: m, h => by
    simp only [bcs, List.cons.injEq, Value.int.injEq, true_and] at h
    rw [bcs_inj l m h.2.2, Bt.eq_iff.2 ⟨h.1, h.2.1⟩]
theorem cc_length (c : Cr) : (cc c).length = 24 := by
  unfold cc
  rw [bcs_length, Vector.length_toList]
theorem cc_size (c : Cr) : (cc c).toArray.size = 24 := by rw [List.size_toArray, cc_length]
theorem cc_zero : (cc zC).toArray = #[.int .u8 0, .int .i16 0, .int .u8 0, .int .i16 0, .int .u8 0, .int .i16 0, .int .u8 0, .int .i16 0, .int .u8 0, .int .i16 0, .int .u8 0, .int .i16 0, .int .u8 0, .int .i16 0, .int .u8 0, .int .i16 0, .int .u8 0, .int .i16 0, .int .u8 0, .int .i16 0, .int .u8 0, .int .i16 0, .int .u8 0, .int .i16 0] := rfl

/-! ### A block of cells, whole -/
def rowOf (w : World) (g : Nat) : Option (Array Value) :=
  match w.heap[g]? with
  | some (.cells cs _ (0, 0)) => some cs
  | _ => none

section
variable {w w' : World} {g : Nat} {cs : Array Value}
theorem rowOf_some (h : rowOf w g = some cs) : ∃ t, w.heap[g]? = some (.cells cs t (0, 0)) := by
  unfold rowOf at h
  split at h
  · rename_i c t he
    simp only [Option.some.injEq] at h
    subst h
    exact ⟨t, he⟩
  · cases h
theorem rowOf_of {t : TypeId} (h : w.heap[g]? = some (.cells cs t (0, 0))) : rowOf w g = some cs := by
  unfold rowOf
  rw [h]
  rfl
theorem rowOf_lt (h : rowOf w g = some cs) : g < w.heap.size := by
  obtain ⟨t, h⟩ := rowOf_some h
  exact (Array.getElem?_eq_some_iff.1 h).1
theorem rowOf_cell (h : rowOf w g = some cs) (i : Nat) : w.cell? ⟨g, i, none⟩ = cs[i]? := by
  obtain ⟨t, h⟩ := rowOf_some h
  exact cell_of_row w g i cs t (0, 0) h
theorem rowOf_frozen (h : rowOf w g = some cs) (i : Nat) : w.frozen? ⟨g, i, none⟩ = false := by
  obtain ⟨t, h⟩ := rowOf_some h
  exact frozen_of_row w g i cs t h
theorem rowOf_below {B : Nat} (hb : Below B w w') (hg : g < B) : rowOf w' g = rowOf w g := by
  unfold rowOf
  rw [hb.block g hg]
theorem rowOf_alloc (cs : Array Value) (t : TypeId) : rowOf (w.alloc (.cells cs t)) g = if g = w.heap.size then some cs else rowOf w g := by
  by_cases h : g = w.heap.size
  · rw [if_pos h]
    subst h
    exact rowOf_of (heap_alloc_new w _)
  · rw [if_neg h]
    unfold rowOf
    have : (w.alloc (.cells cs t)).heap[g]? = w.heap[g]? := by
      show (w.heap.push _)[g]? = _
      rw [Array.getElem?_push, if_neg h]
    rw [this]
theorem rowOf_drew : rowOf w.drew g = rowOf w g := rfl
theorem rowOf_drewN (n : Nat) : rowOf (w.drewN n) g = rowOf w g := rfl
theorem heap_setCell_any (w : World) (g o : Nat) (v : Value) {c : Array Value} {t : TypeId} {fr : Nat × Nat} (h : w.heap[g]? = some (.cells c t fr)) : (w.setCell ⟨g, o, none⟩ v).heap[g]? = some (.cells (c.setIfInBounds o v) t fr) := by
  rw [setCell_eq_setRow w g o c t fr v h]
  exact setRow_heap w g _ _ t _ h
theorem rowOf_setCell (b o : Nat) (v : Value) : rowOf (w.setCell ⟨b, o, none⟩ v) g = if g = b then (rowOf w g).map (·.setIfInBounds o v) else rowOf w g := by
  by_cases h : g = b
  · subst h
    rw [if_pos rfl]
    cases hq : w.heap[g]? with
    | none =>
      have : (w.setCell ⟨g, o, none⟩ v).heap[g]? = none := by simp [World.setCell, Array.getElem?_modify, hq]
      simp [rowOf, this, hq]
    | some x =>
      cases x with
      | cells c t fr =>
        have := heap_setCell_any w g o v hq
        obtain ⟨lo, hi⟩ := fr
        simp only [rowOf, this, hq]
        cases lo <;> cases hi <;> rfl
      | _ =>
        have : (w.setCell ⟨g, o, none⟩ v).heap[g]? = w.heap[g]? := by simp [World.setCell, Array.getElem?_modify, hq]
        simp [rowOf, this, hq]
  · rw [if_neg h]
    unfold rowOf
    rw [Below.heap_setCell w _ v g h]
theorem rowOf_setRow (b : Nat) (c : Array Value) : rowOf (w.setRow b c) g = if g = b then (rowOf w g).map (fun _ => c) else rowOf w g := by
  by_cases h : g = b
  · subst h
    rw [if_pos rfl]
    cases hq : w.heap[g]? with
    | none =>
      have : (w.setRow g c).heap[g]? = none := by simp [World.setRow, Array.getElem?_modify, hq]
      simp [rowOf, this, hq]
    | some x =>
      cases x with
      | cells c' t fr =>
        have := setRow_heap w g _ c t _ hq
        obtain ⟨lo, hi⟩ := fr
        simp only [rowOf, this, hq]
        cases lo <;> cases hi <;> rfl
      | _ =>
        have : (w.setRow g c).heap[g]? = w.heap[g]? := by simp [World.setRow, Array.getElem?_modify, hq]
        simp [rowOf, this, hq]
  · rw [if_neg h]
    unfold rowOf
    rw [setRow_other w b g c h]
theorem cell_setRow_in (h : (rowOf w g).isSome = true) (c : Array Value) (i : Nat) : (w.setRow g c).cell? ⟨g, i, none⟩ = c[i]? := by
  obtain ⟨cs, h⟩ := Option.isSome_iff_exists.1 h
  exact rowOf_cell (by rw [rowOf_setRow, if_pos rfl, h]; rfl) i
/-- What Below says of a world behind stores into new blocks. -/
theorem bsetRow {B : Nat} {a w : World} (h : Below B a w) {g : Nat} (hg : B ≤ g) (c : Array Value) : Below B a (w.setRow g c) :=
  h.trans ⟨rfl, rfl, rfl, by simp, fun k hk => setRow_other w g k c (by omega)⟩
theorem bstep {w w1 w2 : World} (h : Below w.heap.size w w1) (k : Below w1.heap.size w1 w2) : Below w.heap.size w w2 := h.trans (k.mono h.size)
/-- Old cells and old marks read as before: rules for the walk. -/
theorem bcell {w w1 : World} (hb : Below w.heap.size w w1) : (∀ b o, b < w.heap.size → w1.cell? ⟨b, o, none⟩ = w.cell? ⟨b, o, none⟩) ∧ (∀ b o, b < w.heap.size → w1.frozen? ⟨b, o, none⟩ = w.frozen? ⟨b, o, none⟩) :=
  ⟨fun b o h => hb.cell (p := ⟨b, o, none⟩) h, fun b o h => hb.frozen (p := ⟨b, o, none⟩) h⟩
theorem below_self {B : Nat} {w w1 : World} (_ : Below B w w1) : Below w1.heap.size w1 w1 := Below.refl _ _
theorem bstepB {B : Nat} {w w1 w2 : World} (h : Below B w w1) (hB : B ≤ w1.heap.size) (k : Below w1.heap.size w1 w2) : Below B w w2 := h.trans (k.mono hB)
theorem bdrewN {B : Nat} {a w : World} (h : Below B a w) (n : Nat) : Below B a (w.drewN n) := ⟨h.os, h.tape, h.output, h.size, h.block⟩
end

theorem rowOf_setRow_ne {w : World} {g b : Nat} {c : Array Value} (h : g ≠ b) : rowOf (w.setRow b c) g = rowOf w g := by rw [rowOf_setRow, if_neg h]
theorem cell_setRow_ne {w : World} {g b o : Nat} {c : Array Value} (h : g ≠ b) : (w.setRow b c).cell? ⟨g, o, none⟩ = w.cell? ⟨g, o, none⟩ := by
  unfold World.cell?
  rw [setRow_other w b g c h]
theorem cell_far {w : World} {g b o o' : Nat} {v : Value} (h : g ≠ b) : (w.setCell ⟨b, o', none⟩ v).cell? ⟨g, o, none⟩ = w.cell? ⟨g, o, none⟩ := by
  unfold World.cell?
  rw [Below.heap_setCell w _ v g h]
theorem two_worlds {Q : World → Prop} {w w' : World} (h : Q w) (h' : Q w') : ∀ x ∈ [w, w'], Q x := by
  intro x hx
  simp only [List.mem_cons, List.not_mem_nil, or_false] at hx
  rcases hx with rfl | rfl
  · exact h
  · exact h'
theorem three_worlds {Q : World → Prop} {w w' w'' : World} (h : Q w) (h' : Q w') (h'' : Q w'') : ∀ x ∈ [w, w', w''], Q x := by
  intro x hx
  simp only [List.mem_cons, List.not_mem_nil, or_false] at hx
  rcases hx with rfl | rfl | rfl
  · exact h
  · exact h'
  · exact h''

/-! ### Whole rows loaded and stored -/
section
variable {P : Program}
def TypeDesc.isRow : TypeDesc → Bool
  | .struct _ | .array _ _ => true
  | _ => false
theorem run_loadAt_row (w : World) (g ty n : Nat) (d : TypeDesc) (hu : P.underlying ty = some d) (hd : TypeDesc.isRow d = true) (hi : (P.info? ty).map (·.size) = some n) (h : (rowOf w g).map (·.size) = some n) :
    (Instr.loadAt ty (.pointer (some ⟨g, 0, none⟩))).run P w = .ok (.agg ((rowOf w g).getD #[])) w := by
  cases hq : rowOf w g with
  | none => rw [hq] at h; cases h
  | some cs =>
    rw [hq] at h
    simp only [Option.map_some, Option.some.injEq] at h
    obtain ⟨t, ht⟩ := rowOf_some hq
    simp only [Instr.loadAt, Instr.sureAddr, Sem.run_bind, Sem.run_pure, Result.andThen_ok, Option.getD_some]
    exact run_loadVar_row w g t ty cs (0, 0) d ht hu (by cases d <;> first | rfl | simp [TypeDesc.isRow] at hd) (by rw [hi, h])
/-- Cells at an address, loaded whole. -/
theorem run_loadVar_cells (w : World) (a : Addr) (ty : TypeId) (cs : List Value) (d : TypeDesc) (hu : P.underlying ty = some d) (hd : TypeDesc.isRow d = true) (hi : (P.info? ty).map (·.size) = some cs.length)
    (h : ∀ j v, cs[j]? = some v → w.cell? (a.add j) = some v) : (loadVar ty a).run P w = .ok (.agg cs.toArray) w := by
  have hl := run_loadCells_list (P := P) w a cs h
  cases hq : P.info? ty with
  | none => simp [hq] at hi
  | some i =>
    have hs : i.size = cs.length := by simpa [hq] using hi
    have hagg : (isAgg ty).run P w = .ok true w := by
      unfold isAgg
      rw [Sem.run_bind, run_underlying hu w]
      cases d <;> first | rfl | simp [TypeDesc.isRow] at hd
    simp [loadVar, Sem.run_bind, hagg, sizeOf, typeInfo, hq, hs, hl]
theorem run_storeVar_row (w : World) (g o ty : Nat) (vs : Array Value) (hi : (P.info? ty).map (·.size) = some vs.size) (cur : Array Value) (h : rowOf w g = some cur) (hl : o + vs.size ≤ cur.size) (h1 : ∀ v ∈ vs.toList, v.oneCell' = true) :
    (storeVar ty ⟨g, o, none⟩ (.agg vs)).run P w = .ok () (w.setRow g (cur.toList.take o ++ vs.toList ++ cur.toList.drop (o + vs.size)).toArray) := by
  obtain ⟨t, ht⟩ := rowOf_some h
  have hs := run_storeCells_at P g o t vs.toList 0 cur w ht (by simpa using hl) h1
  cases hq : P.info? ty with
  | none => simp [hq] at hi
  | some i =>
    have hz : i.size = vs.size := by simpa [hq] using hi
    simp [storeVar, Value.cells, sizeOf, typeInfo, hq, hz, hs]
/-- A whole row stored into a block of its size. -/
theorem run_storeAt_row (w : World) (g ty n : Nat) (vs : Array Value) (hi : (P.info? ty).map (·.size) = some n) (hn : vs.size = n) (h : (rowOf w g).map (·.size) = some n) (h1 : ∀ v ∈ vs.toList, v.oneCell' = true) :
    (Instr.storeAt ty (.pointer (some ⟨g, 0, none⟩)) (.agg vs)).run P w = .ok () (w.setRow g vs) := by
  cases hq : rowOf w g with
  | none => rw [hq] at h; cases h
  | some cur =>
    rw [hq] at h
    simp only [Option.map_some, Option.some.injEq] at h
    have := run_storeVar_row w g 0 ty vs (by rw [hi, hn]) cur hq (by omega) h1
    simp only [Instr.storeAt, Instr.sureAddr, Sem.run_bind, Sem.run_pure, Result.andThen_ok]
    rw [this]
    congr 2
    have e1 : cur.toList.drop (0 + vs.size) = [] := List.drop_eq_nil_of_le (by simp; omega)
    rw [e1]
    simp
end
end Go.Proofs.YtbngpcghognojaaDoor
