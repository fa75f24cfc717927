/- Texts of the claim, joined (1 of 19): Base, Small, Row, App, Ints, Kinds, Read. -/
import Derived.Test.YtbngpcghognojaaGreatDoorProg
import Derived.WalkKit
import Derived.Below
import Derived.Lib.Hide
import Derived.KernelRfl
import Derived.Deep.Draws
import Derived.Deep.QuietTactic
import Derived.BigQuiet
import Derived.Lib.QuietBelow
import Derived.Handy
import Derived.Deep.Cut
import Derived.ProofKit
import Derived.OpenShut
import Derived.ShutString
import Derived.ChangeOld
import Derived.SizedLaws
import Derived.Carry
import Derived.Deep.Slices
namespace Go.Proofs.YtbngpcghognojaaGreatDoor
open Go.RowKit
set_option linter.unusedVariables false
set_option linter.unusedSimpArgs false
set_option maxRecDepth 100000
set_option maxHeartbeats 1000000

/-! ### Bottles, crates, wants, swaps -/
structure Bt where
  k : Int
  y : Int
  hk : 0 ≤ k ∧ k ≤ 255
  hy : -32768 ≤ y ∧ y ≤ 32767
theorem Bt.ext2 {a b : Bt} (h : a.k = b.k) (h' : a.y = b.y) : a = b := by
  cases a
  cases b
  simp at h h'
  subst h h'
  rfl
theorem Bt.eq_iff {a b : Bt} : a = b ↔ a.k = b.k ∧ a.y = b.y := ⟨fun h => by rw [h]; exact ⟨rfl, rfl⟩, fun h => Bt.ext2 h.1 h.2⟩
instance : DecidableEq Bt := fun a b => if h : a.k = b.k ∧ a.y = b.y then isTrue (Bt.eq_iff.2 h) else isFalse (fun e => h (Bt.eq_iff.1 e))
def zB : Bt := ⟨0, 0, by decide, by decide⟩
instance : Inhabited Bt := ⟨zB⟩
/-- No bottle. -/
def Bt.em (b : Bt) : Bool := b.k == 0 && b.y == 0
theorem Bt.em_iff {b : Bt} : b.em = true ↔ b = zB := by
  rw [Bt.eq_iff]
  simp [Bt.em, zB]
/-- A valid bottle. -/
def Bt.ok (b : Bt) : Bool := decide (1 ≤ b.k ∧ b.k ≤ 20 ∧ 1900 ≤ b.y ∧ b.y ≤ 2099)
/-- Two bottles are alike, field by field. -/
def Bt.like (a b : Bt) : Bool := a.k == b.k && a.y == b.y
theorem Bt.like_iff {a b : Bt} : a.like b = true ↔ a = b := by
  rw [Bt.eq_iff]
  simp [Bt.like]
theorem Bt.like_eq {a b : Bt} : a.like b = decide (a = b) := by
  rw [Bool.eq_iff_iff, Bt.like_iff, decide_eq_true_iff]
/-- -1, 0, 1: the order of bottles. -/
def Bt.cmp (a b : Bt) : Int := if a.k < b.k then -1 else if b.k < a.k then 1 else if a.y < b.y then -1 else if b.y < a.y then 1 else 0
/-- Free, or valid. -/
def Bt.fine (b : Bt) : Bool := b.em || b.ok

abbrev Cr := Vector Bt 12
def zC : Cr := Vector.replicate 12 zB
def Cr.ok (c : Cr) : Bool := c.toList.all Bt.fine
def rB (l : List Bt) (i : Nat) : Bt := l.getD i zB

theorem rB_lt {l : List Bt} {i : Nat} (h : i < l.length) : rB l i = l[i] := by
  unfold rB
  rw [List.getD_eq_getElem?_getD, List.getElem?_eq_getElem h]
  rfl
theorem rB_some {l : List Bt} {i : Nat} (h : i < l.length) : l[i]? = some (rB l i) := by
  rw [rB_lt h, List.getElem?_eq_getElem h]

/-! ### Their cells -/
def bc (b : Bt) : List Value := [.int .u8 b.k, .int .i16 b.y]
abbrev bv (b : Bt) : Value := .agg #[.int .u8 b.k, .int .i16 b.y]
def bcs : List Bt → List Value
  | [] => []
  | b :: l => .int .u8 b.k :: .int .i16 b.y :: bcs l
def cc (c : Cr) : List Value := bcs c.toList
abbrev cv (c : Cr) : Value := .agg (cc c).toArray

theorem bcs_length : ∀ l : List Bt, (bcs l).length = 2 * l.length
  | [] => rfl
  | b :: l => by
    simp only [bcs, List.length_cons, bcs_length l]
    omega
theorem bcs_append : ∀ l m : List Bt, bcs (l ++ m) = bcs l ++ bcs m
  | [], _ => rfl
  | b :: l, m => by simp only [bcs, List.cons_append, bcs_append l m]
theorem bcs_at : ∀ (l : List Bt) (i : Nat), i < l.length → (bcs l)[i * 2]? = some (.int .u8 (rB l i).k) ∧ (bcs l)[i * 2 + 1]? = some (.int .i16 (rB l i).y)
  | [], i, h => by simp at h
  | b :: l, 0, _ => ⟨rfl, rfl⟩
  | b :: l, i + 1, h => by
    have := bcs_at l i (by simpa using h)
    rw [show (i + 1) * 2 = i * 2 + 1 + 1 by omega]
    simpa [bcs, rB] using this
theorem bcs_set : ∀ (l : List Bt) (i : Nat) (b : Bt), i < l.length → bcs (l.set i b) = ((bcs l).set (i * 2) (.int .u8 b.k)).set (i * 2 + 1) (.int .i16 b.y)
  | [], i, _, h => by simp at h
  | a :: l, 0, b, _ => rfl
  | a :: l, i + 1, b, h => by
    have := bcs_set l i b (by simpa using h)
    rw [show (i + 1) * 2 = i * 2 + 1 + 1 by omega]
    simp [bcs, this]
theorem bcs_drop : ∀ (l : List Bt) (i : Nat), bcs (l.drop i) = (bcs l).drop (i * 2)
  | l, 0 => by simp
  | [], i + 1 => by simp [bcs]
  | b :: l, i + 1 => by
    rw [show (i + 1) * 2 = i * 2 + 1 + 1 by omega]
    simpa [bcs] using bcs_drop l i
theorem bcs_take : ∀ (l : List Bt) (i : Nat), bcs (l.take i) = (bcs l).take (i * 2)
  | l, 0 => by simp [bcs]
  | [], i + 1 => by simp [bcs]
  | b :: l, i + 1 => by
    rw [show (i + 1) * 2 = i * 2 + 1 + 1 by omega]
    simpa [bcs] using bcs_take l i
theorem bcs_one : ∀ (l : List Bt), ∀ v ∈ bcs l, v.oneCell' = true
  | [], v, h => by simp [bcs] at h
  | b :: l, v, h => by
    simp only [bcs, List.mem_cons] at h
    rcases h with rfl | rfl | h
    · rfl
    · rfl
    · exact bcs_one l v h
theorem bcs_inj : ∀ (l m : List Bt), bcs l = bcs m → l = m
  | [], [], _ => rfl
  | [], _ :: _, h => by simp [bcs] at h
  | _ :: _, [], h => by simp [bcs] at h
  | a :: l, b :: m, h => by
    simp only [bcs, List.cons.injEq, Value.int.injEq, true_and] at h
    rw [bcs_inj l m h.2.2, Bt.eq_iff.2 ⟨h.1, h.2.1⟩]
theorem cc_length (c : Cr) : (cc c).length = 24 := by
  unfold cc
  rw [bcs_length, Vector.length_toList]
theorem cc_size (c : Cr) : (cc c).toArray.size = 24 := by rw [List.size_toArray, cc_length]
theorem cc_zero : (cc zC).toArray = #[.int .u8 0, .int .i16 0, .int .u8 0, .int .i16 0, .int .u8 0, .int .i16 0, .int .u8 0, .int .i16 0, .int .u8 0, .int .i16 0, .int .u8 0, .int .i16 0, .int .u8 0, .int .i16 0, .int .u8 0, .int .i16 0, .int .u8 0, .int .i16 0, .int .u8 0, .int .i16 0, .int .u8 0, .int .i16 0, .int .u8 0, .int .i16 0] := rfl

/-! ### A block of cells, whole -/
def rowOf (w : World) (g : Nat) : Option (Array Value) :=
  match w.heap[g]? with
  | some (.cells cs _ (0, 0)) => some cs
  | _ => none

section
variable {w w' : World} {g : Nat} {cs : Array Value}
theorem rowOf_some (h : rowOf w g = some cs) : ∃ t, w.heap[g]? = some (.cells cs t (0, 0)) := by
  unfold rowOf at h
  split at h
  · rename_i c t he
    simp only [Option.some.injEq] at h
    subst h
    exact ⟨t, he⟩
  · cases h
theorem rowOf_of {t : TypeId} (h : w.heap[g]? = some (.cells cs t (0, 0))) : rowOf w g = some cs := by
  unfold rowOf
  rw [h]
  rfl
theorem rowOf_lt (h : rowOf w g = some cs) : g < w.heap.size := by
  obtain ⟨t, h⟩ := rowOf_some h
  exact (Array.getElem?_eq_some_iff.1 h).1
theorem rowOf_cell (h : rowOf w g = some cs) (i : Nat) : w.cell? ⟨g, i, none⟩ = cs[i]? := by
  obtain ⟨t, h⟩ := rowOf_some h
  exact cell_of_row w g i cs t (0, 0) h
theorem rowOf_frozen (h : rowOf w g = some cs) (i : Nat) : w.frozen? ⟨g, i, none⟩ = false := by
  obtain ⟨t, h⟩ := rowOf_some h
  exact frozen_of_row w g i cs t h
theorem rowOf_below {B : Nat} (hb : Below B w w') (hg : g < B) : rowOf w' g = rowOf w g := by
  unfold rowOf
  rw [hb.block g hg]
theorem rowOf_alloc (cs : Array Value) (t : TypeId) : rowOf (w.alloc (.cells cs t)) g = if g = w.heap.size then some cs else rowOf w g := by
  by_cases h : g = w.heap.size
  · rw [if_pos h]
    subst h
    exact rowOf_of (heap_alloc_new w _)
  · rw [if_neg h]
    unfold rowOf
    have : (w.alloc (.cells cs t)).heap[g]? = w.heap[g]? := by
      show (w.heap.push _)[g]? = _
      rw [Array.getElem?_push, if_neg h]
    rw [this]
theorem rowOf_drew : rowOf w.drew g = rowOf w g := rfl
theorem rowOf_drewN (n : Nat) : rowOf (w.drewN n) g = rowOf w g := rfl
theorem heap_setCell_any (w : World) (g o : Nat) (v : Value) {c : Array Value} {t : TypeId} {fr : Nat × Nat} (h : w.heap[g]? = some (.cells c t fr)) : (w.setCell ⟨g, o, none⟩ v).heap[g]? = some (.cells (c.setIfInBounds o v) t fr) := by
  rw [setCell_eq_setRow w g o c t fr v h]
  exact setRow_heap w g _ _ t _ h
theorem rowOf_setCell (b o : Nat) (v : Value) : rowOf (w.setCell ⟨b, o, none⟩ v) g = if g = b then (rowOf w g).map (·.setIfInBounds o v) else rowOf w g := by
  by_cases h : g = b
  · subst h
    rw [if_pos rfl]
    cases hq : w.heap[g]? with
    | none =>
      have : (w.setCell ⟨g, o, none⟩ v).heap[g]? = none := by simp [World.setCell, Array.getElem?_modify, hq]
      simp [rowOf, this, hq]
    | some x =>
      cases x with
      | cells c t fr =>
        have := heap_setCell_any w g o v hq
        obtain ⟨lo, hi⟩ := fr
        simp only [rowOf, this, hq]
        cases lo <;> cases hi <;> rfl
      | _ =>
        have : (w.setCell ⟨g, o, none⟩ v).heap[g]? = w.heap[g]? := by simp [World.setCell, Array.getElem?_modify, hq]
        simp [rowOf, this, hq]
  · rw [if_neg h]
    unfold rowOf
    rw [Below.heap_setCell w _ v g h]
theorem rowOf_setRow (b : Nat) (c : Array Value) : rowOf (w.setRow b c) g = if g = b then (rowOf w g).map (fun _ => c) else rowOf w g := by
  by_cases h : g = b
  · subst h
    rw [if_pos rfl]
    cases hq : w.heap[g]? with
    | none =>
      have : (w.setRow g c).heap[g]? = none := by simp [World.setRow, Array.getElem?_modify, hq]
      simp [rowOf, this, hq]
    | some x =>
      cases x with
      | cells c' t fr =>
        have := setRow_heap w g _ c t _ hq
        obtain ⟨lo, hi⟩ := fr
        simp only [rowOf, this, hq]
        cases lo <;> cases hi <;> rfl
      | _ =>
        have : (w.setRow g c).heap[g]? = w.heap[g]? := by simp [World.setRow, Array.getElem?_modify, hq]
        simp [rowOf, this, hq]
  · rw [if_neg h]
    unfold rowOf
    rw [setRow_other w b g c h]
theorem cell_setRow_in (h : (rowOf w g).isSome = true) (c : Array Value) (i : Nat) : (w.setRow g c).cell? ⟨g, i, none⟩ = c[i]? := by
  obtain ⟨cs, h⟩ := Option.isSome_iff_exists.1 h
  exact rowOf_cell (by rw [rowOf_setRow, if_pos rfl, h]; rfl) i
/-- What Below says of a world behind stores into new blocks. -/
theorem bsetRow {B : Nat} {a w : World} (h : Below B a w) {g : Nat} (hg : B ≤ g) (c : Array Value) : Below B a (w.setRow g c) :=
  h.trans ⟨rfl, rfl, rfl, by simp, fun k hk => setRow_other w g k c (by omega)⟩
theorem bstep {w w1 w2 : World} (h : Below w.heap.size w w1) (k : Below w1.heap.size w1 w2) : Below w.heap.size w w2 := h.trans (k.mono h.size)
/-- Old cells and old marks read as before: rules for the walk. -/
theorem bcell {w w1 : World} (hb : Below w.heap.size w w1) : (∀ b o, b < w.heap.size → w1.cell? ⟨b, o, none⟩ = w.cell? ⟨b, o, none⟩) ∧ (∀ b o, b < w.heap.size → w1.frozen? ⟨b, o, none⟩ = w.frozen? ⟨b, o, none⟩) :=
  ⟨fun b o h => hb.cell (p := ⟨b, o, none⟩) h, fun b o h => hb.frozen (p := ⟨b, o, none⟩) h⟩
theorem below_self {B : Nat} {w w1 : World} (_ : Below B w w1) : Below w1.heap.size w1 w1 := Below.refl _ _
theorem bstepB {B : Nat} {w w1 w2 : World} (h : Below B w w1) (hB : B ≤ w1.heap.size) (k : Below w1.heap.size w1 w2) : Below B w w2 := h.trans (k.mono hB)
theorem bdrewN {B : Nat} {a w : World} (h : Below B a w) (n : Nat) : Below B a (w.drewN n) := ⟨h.os, h.tape, h.output, h.size, h.block⟩
end

theorem rowOf_setRow_ne {w : World} {g b : Nat} {c : Array Value} (h : g ≠ b) : rowOf (w.setRow b c) g = rowOf w g := by rw [rowOf_setRow, if_neg h]
theorem cell_setRow_ne {w : World} {g b o : Nat} {c : Array Value} (h : g ≠ b) : (w.setRow b c).cell? ⟨g, o, none⟩ = w.cell? ⟨g, o, none⟩ := by
  unfold World.cell?
  rw [setRow_other w b g c h]
theorem cell_far {w : World} {g b o o' : Nat} {v : Value} (h : g ≠ b) : (w.setCell ⟨b, o', none⟩ v).cell? ⟨g, o, none⟩ = w.cell? ⟨g, o, none⟩ := by
  unfold World.cell?
  rw [Below.heap_setCell w _ v g h]
theorem two_worlds {Q : World → Prop} {w w' : World} (h : Q w) (h' : Q w') : ∀ x ∈ [w, w'], Q x := by
  intro x hx
  simp only [List.mem_cons, List.not_mem_nil, or_false] at hx
  rcases hx with rfl | rfl
  · exact h
  · exact h'
theorem three_worlds {Q : World → Prop} {w w' w'' : World} (h : Q w) (h' : Q w') (h'' : Q w'') : ∀ x ∈ [w, w', w''], Q x := by
  intro x hx
  simp only [List.mem_cons, List.not_mem_nil, or_false] at hx
  rcases hx with rfl | rfl | rfl
  · exact h
  · exact h'
  · exact h''

/-! ### Whole rows loaded and stored -/
section
variable {P : Program}
def TypeDesc.isRow : TypeDesc → Bool
  | .struct _ | .array _ _ => true
  | _ => false
theorem run_loadAt_row (w : World) (g ty n : Nat) (d : TypeDesc) (hu : P.underlying ty = some d) (hd : TypeDesc.isRow d = true) (hi : (P.info? ty).map (·.size) = some n) (h : (rowOf w g).map (·.size) = some n) :
    (Instr.loadAt ty (.pointer (some ⟨g, 0, none⟩))).run P w = .ok (.agg ((rowOf w g).getD #[])) w := by
  cases hq : rowOf w g with
  | none => rw [hq] at h; cases h
  | some cs =>
    rw [hq] at h
    simp only [Option.map_some, Option.some.injEq] at h
    obtain ⟨t, ht⟩ := rowOf_some hq
    simp only [Instr.loadAt, Instr.sureAddr, Sem.run_bind, Sem.run_pure, Result.andThen_ok, Option.getD_some]
    exact run_loadVar_row w g t ty cs (0, 0) d ht hu (by cases d <;> first | rfl | simp [TypeDesc.isRow] at hd) (by rw [hi, h])
/-- Cells at an address, loaded whole. -/
theorem run_loadVar_cells (w : World) (a : Addr) (ty : TypeId) (cs : List Value) (d : TypeDesc) (hu : P.underlying ty = some d) (hd : TypeDesc.isRow d = true) (hi : (P.info? ty).map (·.size) = some cs.length)
    (h : ∀ j v, cs[j]? = some v → w.cell? (a.add j) = some v) : (loadVar ty a).run P w = .ok (.agg cs.toArray) w := by
  have hl := run_loadCells_list (P := P) w a cs h
  cases hq : P.info? ty with
  | none => simp [hq] at hi
  | some i =>
    have hs : i.size = cs.length := by simpa [hq] using hi
    have hagg : (isAgg ty).run P w = .ok true w := by
      unfold isAgg
      rw [Sem.run_bind, run_underlying hu w]
      cases d <;> first | rfl | simp [TypeDesc.isRow] at hd
    simp [loadVar, Sem.run_bind, hagg, sizeOf, typeInfo, hq, hs, hl]
theorem run_storeVar_row (w : World) (g o ty : Nat) (vs : Array Value) (hi : (P.info? ty).map (·.size) = some vs.size) (cur : Array Value) (h : rowOf w g = some cur) (hl : o + vs.size ≤ cur.size) (h1 : ∀ v ∈ vs.toList, v.oneCell' = true) :
    (storeVar ty ⟨g, o, none⟩ (.agg vs)).run P w = .ok () (w.setRow g (cur.toList.take o ++ vs.toList ++ cur.toList.drop (o + vs.size)).toArray) := by
  obtain ⟨t, ht⟩ := rowOf_some h
  have hs := run_storeCells_at P g o t vs.toList 0 cur w ht (by simpa using hl) h1
  cases hq : P.info? ty with
  | none => simp [hq] at hi
  | some i =>
    have hz : i.size = vs.size := by simpa [hq] using hi
    simp [storeVar, Value.cells, sizeOf, typeInfo, hq, hz, hs]
/-- A whole row stored into a block of its size. -/
theorem run_storeAt_row (w : World) (g ty n : Nat) (vs : Array Value) (hi : (P.info? ty).map (·.size) = some n) (hn : vs.size = n) (h : (rowOf w g).map (·.size) = some n) (h1 : ∀ v ∈ vs.toList, v.oneCell' = true) :
    (Instr.storeAt ty (.pointer (some ⟨g, 0, none⟩)) (.agg vs)).run P w = .ok () (w.setRow g vs) := by
  cases hq : rowOf w g with
  | none => rw [hq] at h; cases h
  | some cur =>
    rw [hq] at h
    simp only [Option.map_some, Option.some.injEq] at h
    have := run_storeVar_row w g 0 ty vs (by rw [hi, hn]) cur hq (by omega) h1
    simp only [Instr.storeAt, Instr.sureAddr, Sem.run_bind, Sem.run_pure, Result.andThen_ok]
    rw [this]
    congr 2
    have e1 : cur.toList.drop (0 + vs.size) = [] := List.drop_eq_nil_of_le (by simp; omega)
    rw [e1]
    simp
end
end Go.Proofs.YtbngpcghognojaaGreatDoor
namespace Go.Proofs.YtbngpcghognojaaGreatDoor
open Go.RowKit
set_option linter.unusedVariables false
set_option linter.unusedSimpArgs false
set_option maxRecDepth 100000
set_option maxHeartbeats 1000000

theorem ret_bool {a b : Bool} (h : a = b) : Ending.returned (.bool a) = .returned (.bool b) := by rw [h]
theorem ret_int {k : IntKind} {a b : Int} (h : a = b) : Ending.returned (.int k a) = .returned (.int k b) := by rw [h]
section
variable {P : Program} {fn : Func} {tmps : Array Value} {w : World} {p q u t : Tmp}
theorem results_tt (h : fn.results = #[.tmp p, .tmp q]) : (results fn tmps).run P w = .ok (.tuple #[tmps.getD p undef, tmps.getD q undef]) w := by
  simp only [results, h]
  simp [Sem.run_bind, Result.andThen]
theorem results_ttt (h : fn.results = #[.tmp p, .tmp q, .tmp u]) : (results fn tmps).run P w = .ok (.tuple #[tmps.getD p undef, tmps.getD q undef, tmps.getD u undef]) w := by
  simp only [results, h]
  simp [Sem.run_bind, Result.andThen]
theorem results_tttt (h : fn.results = #[.tmp p, .tmp q, .tmp u, .tmp t]) : (results fn tmps).run P w = .ok (.tuple #[tmps.getD p undef, tmps.getD q undef, tmps.getD u undef, tmps.getD t undef]) w := by
  simp only [results, h]
  simp [Sem.run_bind, Result.andThen]
end
/-- A contract that leaves the world alone, in the form of all others. -/
theorem below_of_same {P : Program} {f : FuncId} {args : Array Value} {w : World} {v : Value} (h : Calls P f args w fun e w' => e = .returned v ∧ w = w') : Calls P f args w fun e w' => e = .returned v ∧ Below w.heap.size w w' :=
  h.mono fun _ _ ⟨he, hw⟩ => ⟨he, by rw [← hw]; exact Below.refl _ _⟩
theorem l00In_any (n a b : Int) (w : World) : Calls Tryz.prog 101 #[.int .i64 n, .int .i64 a, .int .i64 b] w fun e w' => e = .returned (.bool (decide (a ≤ n) && decide (n ≤ b))) ∧ w = w' := by
  by_cases h1 : a ≤ n <;> by_cases h2 : n ≤ b
  all_goals
    go_enter Tryz.func101, Tryz.ntmps101
    go_wp2
    go_ret
    exact ⟨by simp [h1, h2], rfl⟩
theorem within_any (n a b : Int) (w : World) : Calls Tryz.prog 77 #[.int .i64 n, .int .i64 a, .int .i64 b] w fun e w' => e = .returned (.bool (decide (a ≤ n) && decide (n ≤ b))) ∧ w = w' := by
  by_cases h1 : a ≤ n <;> by_cases h2 : n ≤ b
  all_goals
    go_enter Tryz.func77, Tryz.ntmps77
    go_wp2
    go_ret
    exact ⟨by simp [h1, h2], rfl⟩
/-- '==' of bottles, as one Bool. -/
theorem eqB (d : Nat) (w : World) (x0 y0 x1 y1 : Int) :
    (Op.equalIn (d + 2) 26 (.agg #[.int .u8 x0, .int .i16 x1]) (.agg #[.int .u8 y0, .int .i16 y1])).run Tryz.prog w = .ok (x0 == y0 && x1 == y1) w := by
  have h := Tryz.underlying26
  by_cases h0 : x0 = y0 <;> by_cases h1 : x1 = y1 <;> simp [go_sem, h0, h1]
attribute [local go_sem high] eqB
theorem l01Free_any (b : Bt) (w : World) : Calls Tryz.prog 119 #[bv b] w fun e w' => e = .returned (.bool b.em) ∧ Below w.heap.size w w' := by
  have h := Tryz.underlying26
  obtain ⟨k, y, hk, hy⟩ := b
  go_enter Tryz.func119, Tryz.ntmps119
  go_wp2
  go_ret
  exact ⟨rfl, (Below.refl _ _).alloc (Nat.le_refl _) _⟩
theorem l01Bottle_any (b : Bt) (w : World) : Calls Tryz.prog 84 #[bv b] w fun e w' => e = .returned (.bool b.ok) ∧ Below w.heap.size w w' := by
  obtain ⟨k, y, ⟨h1, h2⟩, h3, h4⟩ := b
  go_enter Tryz.func84, Tryz.ntmps84
  go_wp2_with (go_at_call 101; refine (l00In_any _ _ _ _).mono ?_; rintro e w' ⟨rfl, rfl⟩)
  all_goals
    go_ret
    refine ⟨ret_bool ?_, (Below.refl _ _).alloc (Nat.le_refl _) _⟩
    rw [Bool.eq_iff_iff]
    simp [Bt.ok]
    try omega
theorem ValidBottle_any (b : Bt) (w : World) : Calls Tryz.prog 19 #[bv b] w fun e w' => e = .returned (.bool b.ok) ∧ Below w.heap.size w w' := by
  obtain ⟨k, y, ⟨h1, h2⟩, h3, h4⟩ := b
  go_enter Tryz.func19, Tryz.ntmps19
  go_wp2_with (go_at_call 77; refine (within_any _ _ _ _).mono ?_; rintro e w' ⟨rfl, rfl⟩)
  all_goals
    go_ret
    refine ⟨ret_bool ?_, (Below.refl _ _).alloc (Nat.le_refl _) _⟩
    rw [Bool.eq_iff_iff]
    simp [Bt.ok]
    try omega
theorem sCompareBottles_any (a b : Bt) (w : World) : Calls Tryz.prog 100 #[bv a, bv b] w fun e w' => e = .returned (.int .i64 (a.cmp b)) ∧ Below w.heap.size w w' := by
  obtain ⟨k, y, hk, hy⟩ := a
  obtain ⟨k', y', hk', hy'⟩ := b
  go_enter Tryz.func100, Tryz.ntmps100
  go_wp2
  all_goals
    go_ret
    refine ⟨ret_int ?_, ((Below.refl _ _).alloc (Nat.le_refl _) _).alloc (by simp) _⟩
    simp only [Bt.cmp]
    repeat (first | rw [if_pos (by omega)] | rw [if_neg (by omega)])
theorem codeOf_any (v r : Bool) (w : World) : Calls Tryz.prog 81 #[.bool v, .bool r] w fun e w' => e = .returned (.int .i64 (if v then (if r then 0 else 2) else 1)) ∧ w = w' := by
  cases v <;> cases r
  all_goals
    go_enter Tryz.func81, Tryz.ntmps81
    go_wp2
    go_ret
    exact ⟨rfl, rfl⟩
theorem isPlace_any (n : Int) (w : World) : Calls Tryz.prog 82 #[.int .i64 n] w fun e w' => e = .returned (.bool (decide (0 ≤ n) && decide (n ≤ 11))) ∧ w = w' := by
  go_enter Tryz.func82, Tryz.ntmps82
  go_wp2_with (go_at_call 77; refine (within_any _ _ _ _).mono ?_; rintro e w' ⟨rfl, rfl⟩)
  go_ret
  exact ⟨rfl, rfl⟩
end Go.Proofs.YtbngpcghognojaaGreatDoor
namespace Go.Proofs.YtbngpcghognojaaGreatDoor
open Go.RowKit
set_option linter.unusedVariables false
set_option linter.unusedSimpArgs false
set_option maxRecDepth 100000
set_option maxHeartbeats 1000000
section
variable {P : Program} {ops : Array Oper} {rest : List Oper} {o : Oper} {a : Act} {w : World} {Q : Exit → Act → World → Prop}
/-- A whole row loaded from the head of its block. -/
theorem wp_load_rowOf (hgd : o.guard = none) (ty : TypeId) (x : Operand) (ho : o.op = .load ty x) (g : Nat) (hx : a.eval x = .pointer (some ⟨g, 0, none⟩)) (cs : Array Value) (hr : rowOf w g = some cs)
    (d : TypeDesc) (hu : P.underlying ty = some d) (hd : TypeDesc.isRow d = true) (hi : (P.info? ty).map (·.size) = some cs.size)
    (h : wpList P ops Q rest (a.put o.dst (.agg cs)) w) : wpList P ops Q (o :: rest) a w := by
  obtain ⟨t, ht⟩ := rowOf_some hr
  exact wpList_load_row hgd ty x ho g hx t cs (0, 0) d ht hu (by cases d <;> first | rfl | simp [TypeDesc.isRow] at hd) hi h
/-- A whole row loaded from wherever its cells lie. -/
theorem wp_load_cells (hgd : o.guard = none) (ty : TypeId) (x : Operand) (ho : o.op = .load ty x) (g off : Nat) (hx : a.eval x = .pointer (some ⟨g, off, none⟩)) (cs : List Value)
    (hc : ∀ i v, cs[i]? = some v → w.cell? ⟨g, off + i, none⟩ = some v)
    (d : TypeDesc) (hu : P.underlying ty = some d) (hd : TypeDesc.isRow d = true) (hi : (P.info? ty).map (·.size) = some cs.length)
    (h : wpList P ops Q rest (a.put o.dst (.agg cs.toArray)) w) : wpList P ops Q (o :: rest) a w :=
  wpList_plain hgd fun K hK => by
    have hl := run_loadVar_cells (P := P) w ⟨g, off, none⟩ ty cs d hu hd hi (fun j v hv => by
      have e : (⟨g, off, none⟩ : Addr).add j = ⟨g, off + j, none⟩ := by unfold Addr.add; split <;> simp_all
      rw [e]
      exact hc j v hv)
    unfold Oper.wp execOp
    simp only [ho, hx, Instr.loadAt, Instr.sureAddr, Sem.run_bind, Sem.run_pure, Result.andThen_ok, hl]
    exact hK _ _ h
/-- A whole row stored into a block of its size. -/
theorem wp_store_rowOf (hgd : o.guard = none) (hdst : o.dst = none) (ty : TypeId) (x y : Operand) (ho : o.op = .store ty x y) (g : Nat) (hx : a.eval x = .pointer (some ⟨g, 0, none⟩)) (vs : Array Value) (hy : a.eval y = .agg vs) (cs : Array Value) (hr : rowOf w g = some cs)
    (hn : cs.size = vs.size) (hi : (P.info? ty).map (·.size) = some vs.size) (h1 : ∀ v ∈ vs.toList, v.oneCell' = true)
    (h : wpList P ops Q rest a (w.setRow g vs)) : wpList P ops Q (o :: rest) a w :=
  wpList_plain hgd fun K hK => by
    have hl := run_storeAt_row (P := P) w g ty vs.size vs hi rfl (by rw [hr]; simp [hn]) h1
    unfold Oper.wp execOp
    simp only [ho, hx, hy, Sem.run_bind, Sem.run_pure, Result.andThen_ok, hl]
    show K (a.put o.dst undef) _
    rw [hdst]
    exact hK _ _ h
end
section
variable {P : Program} {fn : Func} {tmps : Array Value} {w : World} {p q u t : Tmp} {ty ty' : TypeId} {g g' : Nat} {v v' : Value}
theorem loadVar_rowOf (cs : Array Value) (hr : rowOf w g = some cs) (d : TypeDesc) (hu : P.underlying ty = some d) (hd : TypeDesc.isRow d = true) (hi : (P.info? ty).map (·.size) = some cs.size) :
    (loadVar ty ⟨g, 0, none⟩).run P w = .ok (.agg cs) w := by
  obtain ⟨t, ht⟩ := rowOf_some hr
  exact run_loadVar_row w g t ty cs (0, 0) d ht hu (by cases d <;> first | rfl | simp [TypeDesc.isRow] at hd) hi
theorem results_c (h : fn.results = #[.cell p ty]) (hp : tmps.getD p undef = .pointer (some ⟨g, 0, none⟩)) (hl : (loadVar ty ⟨g, 0, none⟩).run P w = .ok v w) :
    (results fn tmps).run P w = .ok v w := by
  simp only [results, h]
  simp [Sem.run_bind, Result.andThen, asAddr, hl] at hp ⊢
  simp [hp, hl]
theorem results_ct (h : fn.results = #[.cell p ty, .tmp t]) (hp : tmps.getD p undef = .pointer (some ⟨g, 0, none⟩)) (hl : (loadVar ty ⟨g, 0, none⟩).run P w = .ok v w) :
    (results fn tmps).run P w = .ok (.tuple #[v, tmps.getD t undef]) w := by
  simp only [results, h]
  simp [Sem.run_bind, Result.andThen, asAddr, hl] at hp ⊢
  simp [hp, hl]
theorem results_ctt (h : fn.results = #[.cell p ty, .tmp t, .tmp u]) (hp : tmps.getD p undef = .pointer (some ⟨g, 0, none⟩)) (hl : (loadVar ty ⟨g, 0, none⟩).run P w = .ok v w) :
    (results fn tmps).run P w = .ok (.tuple #[v, tmps.getD t undef, tmps.getD u undef]) w := by
  simp only [results, h]
  simp [Sem.run_bind, Result.andThen, asAddr, hl] at hp ⊢
  simp [hp, hl]
theorem results_cct (h : fn.results = #[.cell p ty, .cell q ty', .tmp t]) (hp : tmps.getD p undef = .pointer (some ⟨g, 0, none⟩)) (hq : tmps.getD q undef = .pointer (some ⟨g', 0, none⟩))
    (hl : (loadVar ty ⟨g, 0, none⟩).run P w = .ok v w) (hl' : (loadVar ty' ⟨g', 0, none⟩).run P w = .ok v' w) :
    (results fn tmps).run P w = .ok (.tuple #[v, v', tmps.getD t undef]) w := by
  simp only [results, h]
  simp [Sem.run_bind, Result.andThen, asAddr, hl] at hp hq ⊢
  simp [hp, hq, hl, hl']
end
theorem infoC (c : Cr) : (Tryz.prog.info? 28).map (·.size) = some (cc c).toArray.size := by rw [cc_size]; kernel_rfl
theorem cc_one (c : Cr) : ∀ v ∈ (cc c).toArray.toList, v.oneCell' = true := bcs_one c.toList

theorem cc_size2 (c d : Cr) : (cc c).toArray.size = (cc d).toArray.size := by rw [cc_size, cc_size]
theorem zC_one : ∀ v ∈ (cc zC).toArray.toList, v.oneCell' = true := cc_one zC
/-- A whole row laid into a new block. -/
theorem laid_row {W w1 W2 : World} {cs cs' : Array Value} {t : TypeId} (H : Below W.heap.size W w1) (h : (w1.alloc (.cells cs t)).setRow w1.heap.size cs' = W2) :
    Below W.heap.size W W2 ∧ rowOf W2 w1.heap.size = some cs' ∧ w1.heap.size < W2.heap.size := by
  subst h
  have r : rowOf ((w1.alloc (.cells cs t)).setRow w1.heap.size cs') w1.heap.size = some cs' := by
    rw [rowOf_setRow, if_pos rfl, rowOf_alloc, if_pos rfl]
    rfl
  exact ⟨bsetRow (H.alloc H.size _) H.size _, r, rowOf_lt r⟩
/-! ### The same with the rows told of an earlier world -/
section
variable {P : Program} {ops : Array Oper} {rest : List Oper} {o : Oper} {a : Act} {W w : World} {Q : Exit → Act → World → Prop}
theorem wp_load_rowB (H : Below W.heap.size W w) (hgd : o.guard = none) (ty : TypeId) (x : Operand) (ho : o.op = .load ty x) (g : Nat) (hx : a.eval x = .pointer (some ⟨g, 0, none⟩)) (cs : Array Value) (hr : rowOf W g = some cs)
    (d : TypeDesc) (hu : P.underlying ty = some d) (hd : TypeDesc.isRow d = true) (hi : (P.info? ty).map (·.size) = some cs.size)
    (h : wpList P ops Q rest (a.put o.dst (.agg cs)) w) : wpList P ops Q (o :: rest) a w :=
  wp_load_rowOf hgd ty x ho g hx cs ((rowOf_below H (rowOf_lt hr)).trans hr) d hu hd hi h
theorem wp_load_rowBg (H : Below W.heap.size W w) (hw : Region.wanted o (yielded ops a.tmps) = true) (ty : TypeId) (x : Operand) (ho : o.op = .load ty x) (g : Nat) (hx : a.eval x = .pointer (some ⟨g, 0, none⟩)) (cs : Array Value) (hr : rowOf W g = some cs)
    (d : TypeDesc) (hu : P.underlying ty = some d) (hd : TypeDesc.isRow d = true) (hi : (P.info? ty).map (·.size) = some cs.size)
    (h : wpList P ops Q rest (a.put o.dst (.agg cs)) w) : wpList P ops Q (o :: rest) a w :=
  wpList_step fun K hK => by
    rw [if_pos hw]
    have hl := loadVar_rowOf (P := P) cs ((rowOf_below H (rowOf_lt hr)).trans hr) d hu hd hi
    unfold Oper.wp execOp
    simp only [ho, hx, Instr.loadAt, Instr.sureAddr, Sem.run_bind, Sem.run_pure, Result.andThen_ok, hl]
    exact hK _ _ h
theorem wp_store_rowB (H : Below W.heap.size W w) (hgd : o.guard = none) (hdst : o.dst = none) (ty : TypeId) (x y : Operand) (ho : o.op = .store ty x y) (g : Nat) (hx : a.eval x = .pointer (some ⟨g, 0, none⟩)) (vs : Array Value) (hy : a.eval y = .agg vs) (cs : Array Value) (hr : rowOf W g = some cs)
    (hn : cs.size = vs.size) (hi : (P.info? ty).map (·.size) = some vs.size) (h1 : ∀ v ∈ vs.toList, v.oneCell' = true)
    (h : wpList P ops Q rest a (w.setRow g vs)) : wpList P ops Q (o :: rest) a w :=
  wp_store_rowOf hgd hdst ty x y ho g hx vs hy cs ((rowOf_below H (rowOf_lt hr)).trans hr) hn hi h1 h
end
theorem infoZ (k : Cr) : (Tryz.prog.info? 28).map (·.size) = some (cc zC).toArray.size := by rw [cc_size]; kernel_rfl
section
variable {ops : Array Oper} {rest : List Oper} {o : Oper} {a : Act} {W w : World} {Q : Exit → Act → World → Prop}
/-- The empty crate stored. -/
theorem wp_store_zeroB (H : Below W.heap.size W w) (hgd : o.guard = none) (hdst : o.dst = none) (x y : Operand) (ho : o.op = .store 28 x y) (g : Nat) (hx : a.eval x = .pointer (some ⟨g, 0, none⟩))
    (hy : a.eval y = .agg #[.int .u8 0, .int .i16 0, .int .u8 0, .int .i16 0, .int .u8 0, .int .i16 0, .int .u8 0, .int .i16 0, .int .u8 0, .int .i16 0, .int .u8 0, .int .i16 0, .int .u8 0, .int .i16 0, .int .u8 0, .int .i16 0, .int .u8 0, .int .i16 0, .int .u8 0, .int .i16 0, .int .u8 0, .int .i16 0, .int .u8 0, .int .i16 0])
    (c : Cr) (hr : rowOf W g = some (cc c).toArray) (h : wpList Tryz.prog ops Q rest a (w.setRow g (cc zC).toArray)) : wpList Tryz.prog ops Q (o :: rest) a w :=
  wp_store_rowB H hgd hdst 28 x y ho g hx (cc zC).toArray hy (cc c).toArray hr (cc_size2 _ _) (infoC zC) zC_one h
end
theorem infoB (k y : Int) : (Tryz.prog.info? 26).map (·.size) = some (#[Value.int .u8 k, Value.int .i16 y] : Array Value).size := by kernel_rfl
/-- A new crate. -/
theorem alloc_run {d : Option Tmp} {ty : TypeId} {pos : String} {after : Array Edge} (ev : Operand → Value) (w : World) :
    (execOp ev ⟨d, .alloc 28, ty, pos, after, none⟩).run Tryz.prog w = .ok (.value (.pointer (some ⟨w.heap.size, 0, none⟩))) (w.alloc (.cells (cc zC).toArray 28)) := by
  rw [cc_zero]
  simp [go_sem]
  done
theorem laid_two {W w1 W2 : World} {cs cs2 A B : Array Value} {t t2 : TypeId} (H : Below W.heap.size W w1) (h : (((w1.alloc (.cells cs t)).alloc (.cells cs2 t2)).setRow w1.heap.size A).setRow (w1.heap.size + 1) B = W2) :
    Below W.heap.size W W2 ∧ rowOf W2 w1.heap.size = some A ∧ rowOf W2 (w1.heap.size + 1) = some B := by
  subst h
  have hz : (w1.alloc (.cells cs t)).heap.size = w1.heap.size + 1 := by simp
  refine ⟨bsetRow (bsetRow ((H.alloc H.size _).alloc (by rw [hz]; have := H.size; omega) _) H.size _) (by have := H.size; omega) _, ?_, ?_⟩
  · rw [rowOf_setRow, if_neg (by omega), rowOf_setRow, if_pos rfl, rowOf_alloc, if_neg (by omega), rowOf_alloc, if_pos rfl]
    rfl
  · rw [rowOf_setRow, if_pos rfl, rowOf_setRow, if_neg (by omega), rowOf_alloc, if_pos hz.symm]
    rfl
theorem bv_one (k y : Int) : ∀ v ∈ (#[.int .u8 k, .int .i16 y] : Array Value).toList, v.oneCell' = true := by
  intro v hv
  simp at hv
  rcases hv with rfl | rfl <;> rfl
/-- Two rows stored, one behind the other. -/
theorem two_rows {w W w1 : World} {g1 g2 : Nat} {A0 B0 A B : Array Value} (H0 : Below w.heap.size w W) (H : Below W.heap.size W w1) (h1 : rowOf W g1 = some A0) (h2 : rowOf W g2 = some B0) (l1 : w.heap.size ≤ g1) (hlt : g1 < g2) :
    rowOf ((w1.setRow g1 A).setRow g2 B) g1 = some A ∧ rowOf ((w1.setRow g1 A).setRow g2 B) g2 = some B ∧ Below w.heap.size w ((w1.setRow g1 A).setRow g2 B) := by
  have k1 : rowOf w1 g1 = some A0 := (rowOf_below H (rowOf_lt h1)).trans h1
  have k2 : rowOf w1 g2 = some B0 := (rowOf_below H (rowOf_lt h2)).trans h2
  refine ⟨?_, ?_, bsetRow (bsetRow (bstep H0 H) l1 _) (by omega) _⟩
  · rw [rowOf_setRow, if_neg (by omega), rowOf_setRow, if_pos rfl, k1]
    rfl
  · rw [rowOf_setRow, if_pos rfl, rowOf_setRow, if_neg (by omega), k2]
    rfl
/-! ### A crate that is being filled, from the first place on -/
def pad (l : List Bt) (k : Nat) : List Bt := l.take k ++ List.replicate (12 - k) zB
theorem pad_zero (l : List Bt) : pad l 0 = zC.toList := by simp [pad, zC]
theorem pad_full {l : List Bt} (h : l.length = 12) : pad l 12 = l := by simp [pad, List.take_of_length_le (Nat.le_of_eq h)]
theorem pad_length {l : List Bt} {k : Nat} (h : k ≤ l.length) (h12 : k ≤ 12) : (pad l k).length = 12 := by simp [pad]; omega
theorem pad_set {l : List Bt} {k : Nat} (h : k < l.length) (h12 : k < 12) : (pad l k).set k (rB l k) = pad l (k + 1) := by
  have e : 12 - k = (12 - (k + 1)) + 1 := by omega
  unfold pad
  rw [e, List.replicate_succ, List.take_succ_eq_append_getElem h, ← rB_lt h]
  have hl : (l.take k).length = k := by simp; omega
  rw [List.set_append_right _ _ (by omega), hl, Nat.sub_self]
  simp
/-- Cells lie at block b from o on. -/
def CAt (w : World) (b o : Nat) (vs : List Value) : Prop := ∀ i v, vs[i]? = some v → w.cell? ⟨b, o + i, none⟩ = some v
theorem CAt.below {w w' : World} {b o : Nat} {vs : List Value} {B : Nat} (h : CAt w b o vs) (hb : Below B w w') (hB : b < B) : CAt w' b o vs :=
  fun i v hv => (hb.cell hB).trans (h i v hv)
theorem CAt.of_row {w : World} {g : Nat} {vs : List Value} (h : rowOf w g = some vs.toArray) : CAt w g 0 vs :=
  fun i v hv => by rw [Nat.zero_add, rowOf_cell h]; simpa using hv
theorem CAt.sub {w : World} {b o : Nat} {vs : List Value} (h : CAt w b o vs) (k : Nat) : CAt w b (o + k) (vs.drop k) :=
  fun i v hv => by rw [Nat.add_assoc]; exact h (k + i) v (by simpa using hv)
theorem CAt.take {w : World} {b o : Nat} {vs : List Value} (h : CAt w b o vs) (k : Nat) : CAt w b o (vs.take k) :=
  fun i v hv => h i v (by rw [List.getElem?_take] at hv; split at hv <;> simp_all)
theorem CAt.bot0 {w : World} {b o : Nat} {l : List Bt} (h : CAt w b o (bcs l)) {i : Nat} (hi : i < l.length) : w.cell? ⟨b, o + i * 2, none⟩ = some (.int .u8 (rB l i).k) := h _ _ (bcs_at l i hi).1
theorem CAt.bot1 {w : World} {b o : Nat} {l : List Bt} (h : CAt w b o (bcs l)) {i : Nat} (hi : i < l.length) : w.cell? ⟨b, o + i * 2 + 1, none⟩ = some (.int .i16 (rB l i).y) := h _ _ (bcs_at l i hi).2
section
variable {w w' : World} {g : Nat} {l : List Bt} {i : Nat}
theorem row0 (h : rowOf w g = some (bcs l).toArray) (hi : i < l.length) : w.cell? ⟨g, i * 2, none⟩ = some (.int .u8 (rB l i).k) := by simpa using (CAt.of_row h).bot0 hi
theorem row1 (h : rowOf w g = some (bcs l).toArray) (hi : i < l.length) : w.cell? ⟨g, i * 2 + 1, none⟩ = some (.int .i16 (rB l i).y) := by simpa using (CAt.of_row h).bot1 hi
theorem row_put (b : Bt) (h : rowOf w g = some (bcs l).toArray) (hi : i < l.length) : rowOf ((w.setCell ⟨g, i * 2, none⟩ (.int .u8 b.k)).setCell ⟨g, i * 2 + 1, none⟩ (.int .i16 b.y)) g = some (bcs (l.set i b)).toArray := by
  rw [rowOf_setCell, if_pos rfl, rowOf_setCell, if_pos rfl, h, bcs_set _ _ _ hi]
  simp
theorem row_far {g' o : Nat} {v : Value} (hne : g ≠ g') : rowOf (w.setCell ⟨g', o, none⟩ v) g = rowOf w g := by rw [rowOf_setCell, if_neg hne]
theorem row_kept {cs : Array Value} (h : rowOf w g = some cs) (hb : Below w.heap.size w w') : rowOf w' g = some cs := (rowOf_below hb (rowOf_lt h)).trans h
end
end Go.Proofs.YtbngpcghognojaaGreatDoor
namespace Go.Proofs.YtbngpcghognojaaGreatDoor
open Go.RowKit
set_option linter.unusedVariables false
set_option linter.unusedSimpArgs false
set_option maxRecDepth 100000
set_option maxHeartbeats 1000000
theorem addr_at (g j : Nat) : (⟨g, 0, none⟩ : Addr).add j = ⟨g, j, none⟩ := by unfold Addr.add; split <;> simp_all
theorem own_base {w : World} {base : Nat} {e : TypeId} {size n : Nat} {v : Value} {xs : List Value} (h : w.ownsRow base e size v n xs) (k : Nat) (hk : v.ownBlock = some k) : base ≤ k := (h.lt k hk).1
theorem own_lt {w : World} {base : Nat} {e : TypeId} {size n : Nat} {v : Value} {xs : List Value} (h : w.ownsRow base e size v n xs) (k : Nat) (hk : v.ownBlock = some k) : k < w.heap.size := (h.lt k hk).2
theorem own_kept {w w1 : World} {base : Nat} {e : TypeId} {size n : Nat} {v : Value} {xs : List Value} (h : w.ownsRow base e size v n xs) (hb : Below w.heap.size w w1) : w1.ownsRow base e size v n xs :=
  h.kept (row := none) ⟨hb.os, hb.tape, hb.output, hb.size, fun k hk _ => hb.block k hk⟩ (by cases hq : v.ownBlock <;> simp)
theorem own_down {w : World} {b base : Nat} {e : TypeId} {size n : Nat} {v : Value} {xs : List Value} (h : w.ownsRow base e size v n xs) (hb : b ≤ base) : w.ownsRow b e size v n xs := by
  obtain ⟨hl, h0 | ⟨g, cap, cur, hv, hg, hr⟩⟩ := h
  · exact ⟨hl, .inl h0⟩
  · exact ⟨hl, .inr ⟨g, cap, cur, hv, Nat.le_trans hb hg, hr⟩⟩
theorem own_keptB {B : Nat} {w w1 : World} {base : Nat} {e : TypeId} {size n : Nat} {v : Value} {xs : List Value} (h : w.ownsRow base e size v n xs) (hb : Below B w w1) (hB : ∀ k, v.ownBlock = some k → k < B) : w1.ownsRow base e size v n xs := by
  obtain ⟨hl, h0 | ⟨g, cap, cur, rfl, hg, hh, hr⟩⟩ := h
  · exact ⟨hl, .inl h0⟩
  · exact ⟨hl, .inr ⟨g, cap, cur, rfl, hg, by rw [hb.block g (hB g rfl)]; exact hh, hr⟩⟩
theorem own_nil {w : World} {base : Nat} {e : TypeId} {size : Nat} : w.ownsRow base e size (.slice none 0 0) 0 [] := ⟨by simp, .inl ⟨rfl, rfl⟩⟩
theorem bgrown {B : Nat} {W w1 : World} {e : TypeId} {size n : Nat} {v : Value} {xs : List Value} (h : W.ownsRow B e size v n xs) (hB : B ≤ W.heap.size) (hg : W.grownBy w1 v.ownBlock) : Below B W w1 :=
  (Below.refl B W).grown hg hB (fun k hk => own_base h k hk)
section
variable {P : Program} {ops : Array Oper} {rest : List Oper} {o : Oper} {a : Act} {Q : Exit → Act → World → Prop} {W : World}
/-- append(v, x): x's cells lie in the variadic's box. -/
theorem wp_app (B : Nat) (hgd : o.guard = none) (s x : Operand) (t e : TypeId) (ho : o.op = .call { callee := .builtin .append, args := #[s, x], argTypes := #[t, t] })
    (z : Value) (size bytes : Nat) (ht : P.underlying t = some (.slice e)) (hinfo : (P.info? e).map (fun i => (i.zero, i.size, i.bytes)) = some (some z, size, bytes)) (hzs : z.cells.size = size) (hsz : 0 < size)
    (v : Value) (n : Nat) (xs news : List Value) (hs : a.eval s = v) (g : Nat) (hx : a.eval x = .slice (some ⟨g, 0, none⟩) 1 1) (hg : g = W.heap.size) (hl : news.length = size) (h1 : ∀ u ∈ news, u.oneCell' = true)
    (HO : W.ownsRow B e size v n xs) (hB : B ≤ W.heap.size) (hn : n + 1 ≤ 1000000000) (hby : bytes ≤ 1000)
    (h : ∀ v1 w1, w1.ownsRow B e size v1 (n + 1) (xs ++ news) → Below B W w1 → wpList P ops Q rest (a.put o.dst v1) w1) : wpList P ops Q (o :: rest) a (W.alloc (.cells news.toArray e)) := by
  subst hg
  obtain ⟨i0, hi, hzz⟩ := Option.map_eq_some_iff.1 hinfo
  simp only [Prod.mk.injEq] at hzz
  obtain ⟨hz0, hz1, hz2⟩ := hzz
  refine wpList_append_own (W.alloc (.cells news.toArray e)) hgd s x t ho B e i0 z size bytes ht hi hz0 hz1 hz2 hzs hsz v n xs hs (HO.alloc _) ⟨W.heap.size, 0, none⟩ 1 1 news hx (by omega) (fun j u hj => ?_) h1 (by simp only [maxLen]; omega) ?_ (by simp; omega) ?_
  · rw [addr_at]
    simp only [World.cell?_alloc_new]
    simpa using hj
  · calc (n + 1) * bytes ≤ 1000000000 * 1000 := Nat.mul_le_mul hn hby
      _ ≤ 140737488355328 := by decide
  intro v1 w1 hown hg _
  exact h v1 w1 hown (((Below.refl B W).alloc hB _).grown hg (by simp; omega) (fun k hk => own_base HO k hk))
end
/-! ### Whole numbers -/
def vi (l : List Int) : List Value := l.map (.int .i64)
theorem vi_length (l : List Int) : (vi l).length = l.length := by simp [vi]
theorem vi_append (l m : List Int) : vi (l ++ m) = vi l ++ vi m := by simp [vi]
theorem vi_one (l : List Int) : ∀ u ∈ vi l, u.oneCell' = true := by
  intro u hu
  simp only [vi, List.mem_map] at hu
  obtain ⟨x, _, rfl⟩ := hu
  rfl
theorem vi_at (l : List Int) (i : Nat) (h : i < l.length) : (vi l)[i]? = some (.int .i64 (l.getD i 0)) := by
  simp [vi, List.getD_eq_getElem?_getD, List.getElem?_eq_getElem h]
/-- What a slice that is read holds: nil, or cells at an address. -/
def Reads (w : World) (v : Value) (n : Nat) (vs : List Value) : Prop := ∃ A c, v = .slice A n c ∧ n ≤ c ∧ ((A = none ∧ vs = []) ∨ ∃ g off, A = some ⟨g, off, none⟩ ∧ g < w.heap.size ∧ CAt w g off vs)
theorem Reads.below {w w' : World} {v : Value} {n : Nat} {vs : List Value} (h : Reads w v n vs) (hb : Below w.heap.size w w') : Reads w' v n vs := by
  obtain ⟨A, c, rfl, hc, h⟩ := h
  refine ⟨A, c, rfl, hc, ?_⟩
  rcases h with h | ⟨g, off, hA, hg, hC⟩
  · exact .inl h
  · exact .inr ⟨g, off, hA, Nat.lt_of_lt_of_le hg hb.size, hC.below hb hg⟩
theorem reads_own {w : World} {B : Nat} {e : TypeId} {size n : Nat} {v : Value} {xs : List Value} (h : w.ownsRow B e size v n xs) : Reads w v n xs := by
  obtain ⟨hl, ⟨rfl, rfl⟩ | ⟨g, cap, cur, rfl, hg, hh, hn, hm, hc, ht⟩⟩ := h
  · exact ⟨none, 0, rfl, Nat.le_refl _, .inl ⟨rfl, List.eq_nil_of_length_eq_zero (by simpa using hl)⟩⟩
  · refine ⟨_, cap, rfl, hn, .inr ⟨g, 0, rfl, (Array.getElem?_eq_some_iff.1 hh).1, fun i u hi => ?_⟩⟩
    rw [Nat.zero_add, cell_of_row w g i cur e (0, 0) hh]
    rw [← ht, List.getElem?_take] at hi
    split at hi
    · simpa using hi
    · cases hi
theorem info64 : (Tryz.prog.info? 2).map (fun i => (i.zero, i.size, i.bytes)) = some (some (.int .i64 0), 1, 8) := by kernel_rfl
section
variable {ops : Array Oper} {rest : List Oper} {o : Oper} {a : Act} {Q : Exit → Act → World → Prop} {W : World}
theorem wp_app_int (B : Nat) (hgd : o.guard = none) (s x : Operand) (ho : o.op = .call { callee := .builtin .append, args := #[s, x], argTypes := #[47, 47] })
    (v : Value) (l : List Int) (y : Int) (hs : a.eval s = v) (g : Nat) (hx : a.eval x = .slice (some ⟨g, 0, none⟩) 1 1) (hg : g = W.heap.size)
    (HO : W.ownsRow B 2 1 v l.length (vi l)) (hB : B ≤ W.heap.size) (hn : l.length ≤ 100000000)
    (h : ∀ v1 w1, w1.ownsRow B 2 1 v1 (l ++ [y]).length (vi (l ++ [y])) → Below B W w1 → wpList Tryz.prog ops Q rest (a.put o.dst v1) w1) : wpList Tryz.prog ops Q (o :: rest) a (W.alloc (.cells #[.int .i64 y] 2)) :=
  wp_app (P := Tryz.prog) B hgd s x 47 2 ho (.int .i64 0) 1 8 Tryz.underlying47 info64 rfl (by decide) v l.length (vi l) [.int .i64 y] hs g hx hg rfl (by simp [Value.oneCell']) HO hB (by omega) (by decide)
    (fun v1 w1 h1 h2 => h v1 w1 (by rw [List.length_append, vi_append]; exact h1) h2)
end
end Go.Proofs.YtbngpcghognojaaGreatDoor
namespace Go.Proofs.YtbngpcghognojaaGreatDoor
open Go.RowKit
set_option linter.unusedVariables false
set_option linter.unusedSimpArgs false
set_option maxRecDepth 100000
set_option maxHeartbeats 1000000
/-- What a slice's address leads to: nothing, or cells. -/
def RdA (w : World) (A : Option Addr) (vs : List Value) : Prop := vs = [] ∨ ∃ g off, A = some ⟨g, off, none⟩ ∧ g < w.heap.size ∧ CAt w g off vs
theorem RdA.below {w w' : World} {A : Option Addr} {vs : List Value} (h : RdA w A vs) (hb : Below w.heap.size w w') : RdA w' A vs := by
  rcases h with h | ⟨g, off, hA, hg, hC⟩
  · exact .inl h
  · exact .inr ⟨g, off, hA, Nat.lt_of_lt_of_le hg hb.size, hC.below hb hg⟩
theorem RdA.belowB {B : Nat} {w w' : World} {A : Option Addr} {vs : List Value} (h : RdA w A vs) (hb : Below B w w') (hB : ∀ a, A = some a → a.block < B) : RdA w' A vs := by
  rcases h with h | ⟨g, off, hA, hg, hC⟩
  · exact .inl h
  · exact .inr ⟨g, off, hA, Nat.lt_of_lt_of_le hg hb.size, hC.below hb (hB _ hA)⟩
theorem RdA.some {w : World} {A : Option Addr} {vs : List Value} (h : RdA w A vs) (hn : 0 < vs.length) : ∃ g off, A = some ⟨g, off, none⟩ ∧ g < w.heap.size ∧ CAt w g off vs := by
  rcases h with rfl | h
  · simp at hn
  · exact h
theorem own_rdA {w : World} {B : Nat} {e : TypeId} {size n : Nat} {v : Value} {xs : List Value} (h : w.ownsRow B e size v n xs) : ∃ A c, v = .slice A n c ∧ n ≤ c ∧ RdA w A xs ∧ ∀ a, A = Option.some a → B ≤ a.block ∧ a.block < w.heap.size := by
  obtain ⟨hl, ⟨rfl, rfl⟩ | ⟨g, cap, cur, rfl, hg, hh, hn, hm, hc, ht⟩⟩ := h
  · exact ⟨none, 0, rfl, Nat.le_refl _, .inl (List.eq_nil_of_length_eq_zero (by simpa using hl)), by simp⟩
  · have hlt := (Array.getElem?_eq_some_iff.1 hh).1
    refine ⟨_, cap, rfl, hn, .inr ⟨g, 0, rfl, hlt, fun i u hi => ?_⟩, fun a ha => by cases ha; exact ⟨hg, hlt⟩⟩
    rw [Nat.zero_add, cell_of_row w g i cur e (0, 0) hh]
    rw [← ht, List.getElem?_take] at hi
    split at hi
    · simpa using hi
    · cases hi
theorem own_form {w : World} {base size n : Nat} {e : TypeId} {v : Value} {xs : List Value} (h : w.ownsRow base e size v n xs) (hn : 0 < n) : ∃ g cap, v = .slice (Option.some ⟨g, 0, none⟩) n cap := by
  rcases h.2 with ⟨_, h0⟩ | ⟨g, cap, _, hv, _⟩
  · omega
  · exact ⟨g, cap, hv⟩
/-- k, k + 1, .. -/
def seqI (k : Int) (n : Nat) : List Int := (List.range n).map fun (i : Nat) => k + (i : Int)
theorem seqI_length (k : Int) (n : Nat) : (seqI k n).length = n := by simp [seqI]
theorem seqI_succ (k : Int) (n : Nat) : seqI k (n + 1) = seqI k n ++ [k + (n : Int)] := by simp [seqI, List.range_succ]
theorem seqI_at (k : Int) (n i : Nat) (h : i < n) : (seqI k n).getD i 0 = k + (i : Int) := by simp [seqI, List.getD_eq_getElem?_getD, h]
end Go.Proofs.YtbngpcghognojaaGreatDoor
namespace Go.Proofs.YtbngpcghognojaaGreatDoor
open Go.RowKit
set_option linter.unusedVariables false
set_option linter.unusedSimpArgs false
set_option maxRecDepth 100000
set_option maxHeartbeats 1000000
structure Sw where
  f : Int
  t : Int
  hf : -128 ≤ f ∧ f ≤ 127
  ht : -128 ≤ t ∧ t ≤ 127
def zS : Sw := ⟨0, 0, by decide, by decide⟩
instance : Inhabited Sw := ⟨zS⟩
def sc (s : Sw) : List Value := [.int .i8 s.f, .int .i8 s.t]
abbrev sv (s : Sw) : Value := .agg #[.int .i8 s.f, .int .i8 s.t]
theorem sc_length (s : Sw) : (sc s).length = 2 := rfl
theorem sv_one (f t : Int) : ∀ v ∈ (#[.int .i8 f, .int .i8 t] : Array Value).toList, v.oneCell' = true := by
  intro v hv
  simp at hv
  rcases hv with rfl | rfl <;> rfl
/-- A bottle wanted, and how many. -/
structure Wt where
  b : Bt
  n : Int
  hn : -32768 ≤ n ∧ n ≤ 32767
def zW : Wt := ⟨zB, 0, by decide⟩
instance : Inhabited Wt := ⟨zW⟩
def wc (x : Wt) : List Value := [.int .u8 x.b.k, .int .i16 x.b.y, .int .i16 x.n]
abbrev wv (x : Wt) : Value := .agg #[.int .u8 x.b.k, .int .i16 x.b.y, .int .i16 x.n]
theorem wc_length (x : Wt) : (wc x).length = 3 := rfl
theorem Wt.eq_iff {a b : Wt} : a = b ↔ a.b = b.b ∧ a.n = b.n := by
  constructor
  · rintro rfl
    exact ⟨rfl, rfl⟩
  · intro h
    cases a
    cases b
    simp at h
    obtain ⟨rfl, rfl⟩ := h
    rfl
instance : DecidableEq Wt := fun a b => if h : a.b = b.b ∧ a.n = b.n then isTrue (Wt.eq_iff.2 h) else isFalse (fun e => h (Wt.eq_iff.1 e))
def Wt.like (a b : Wt) : Bool := a.b.like b.b && a.n == b.n
theorem Wt.like_iff {a b : Wt} : a.like b = true ↔ a = b := by
  rw [Wt.eq_iff]
  simp [Wt.like, Bt.like_iff]
end Go.Proofs.YtbngpcghognojaaGreatDoor
namespace Go.Proofs.YtbngpcghognojaaGreatDoor
open Go.RowKit Go.ChangeShapes Go.WideShapes Go.ChangeAt
set_option linter.unusedVariables false
set_option linter.unusedSimpArgs false
set_option maxRecDepth 100000
set_option maxHeartbeats 1000000
section
variable {H : Type} {enc : TypeId × Value → H} {w : World} {base : Nat} {spare : Nat → Bool} {held : Bool}
theorem own : ownKnob Tryz.prog.godebug = none := by kernel_rfl
theorem laidOut : laidOutB Tryz.prog = true := by kernel_rfl
end
end Go.Proofs.YtbngpcghognojaaGreatDoor
