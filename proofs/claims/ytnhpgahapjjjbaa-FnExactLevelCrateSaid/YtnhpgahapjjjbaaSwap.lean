/- Contracts of SwapPlaces: a swap of two places. -/
import Derived.Test.YtnhpgahapjjjbaaPut
import Derived.Test.YtnhpgahapjjjbaaKinds
import Derived.Test.YtnhpgahapjjjbaaFunc
import Derived.Test.YtnhpgahapjjjbaaDrawn
namespace Go.Proofs.Ytnhpgahapjjjbaa
open Go.RowKit
set_option linter.unusedVariables false
set_option linter.unusedSimpArgs false
set_option maxRecDepth 100000
set_option maxHeartbeats 1000000
attribute [local go_sem] Oper.qB
def isP (n : Int) : Bool := decide (0 ≤ n) && decide (n ≤ 11)
def Sw.ok (s : Sw) : Bool := isP s.f && isP s.t
/-- A crate with what is in two places exchanged. -/
def swapC (c : Cr) (i j : Nat) : Cr := setC (setC c i (rB c.toList j)) j (rB c.toList i)
def swC (c : Cr) (s : Sw) : Cr := swapC c s.f.toNat s.t.toNat
def swapR (c : Cr) (s : Sw) : Cr × Int := if c.ok = false then (zC, 1) else if s.ok = false then (zC, 2) else (swC c s, 0)
section
variable {P : Program} {ops : Array Oper} {rest : List Oper} {o : Oper} {a : Act} {w : World} {Q : Exit → Act → World → Prop}
theorem run_store_place (w : World) (g i : Nat) (ty : TypeId) (b : Bt) (l : List Bt) (hr : rowOf w g = some (bcs l).toArray) (hl : i < l.length) (hi : (P.info? ty).map (·.size) = some (#[Value.int .u8 b.k, Value.int .i16 b.y] : Array Value).size) :
    (storeVar ty ⟨g, i * 2, none⟩ (.agg #[.int .u8 b.k, .int .i16 b.y])).run P w = .ok () (w.setRow g (bcs (l.set i b)).toArray) := by
  have hz : i * 2 + (#[Value.int .u8 b.k, Value.int .i16 b.y] : Array Value).size ≤ (bcs l).toArray.size := by
    show i * 2 + 2 ≤ _
    rw [List.size_toArray, bcs_length]
    omega
  have hs := run_storeVar_row (P := P) w g (i * 2) ty _ hi _ hr hz (bv_one _ _)
  have e : ((bcs l).toArray.toList.take (i * 2) ++ (#[Value.int .u8 b.k, Value.int .i16 b.y] : Array Value).toList ++ (bcs l).toArray.toList.drop (i * 2 + (#[Value.int .u8 b.k, Value.int .i16 b.y] : Array Value).size)) = bcs (l.set i b) := by
    show (bcs l).take (i * 2) ++ [Value.int .u8 b.k, Value.int .i16 b.y] ++ (bcs l).drop (i * 2 + 2) = _
    rw [List.set_eq_take_append_cons_drop, if_pos hl, bcs_append, bcs_take, show i * 2 + 2 = (i + 1) * 2 by omega, ← bcs_drop]
    simp [bcs]
  rw [e] at hs
  exact hs
/-- A bottle stored into a place of a crate. -/
theorem wp_store_place (hgd : o.guard = none) (hdst : o.dst = none) (ty : TypeId) (x y : Operand) (ho : o.op = .store ty x y) (g i : Nat) (hx : a.eval x = .pointer (some ⟨g, i * 2, none⟩)) (b : Bt) (hy : a.eval y = .agg #[.int .u8 b.k, .int .i16 b.y])
    (l : List Bt) (hr : rowOf w g = some (bcs l).toArray) (hl : i < l.length) (hi : (P.info? ty).map (·.size) = some (#[Value.int .u8 b.k, Value.int .i16 b.y] : Array Value).size)
    (h : wpList P ops Q rest a (w.setRow g (bcs (l.set i b)).toArray)) : wpList P ops Q (o :: rest) a w :=
  wpList_plain hgd fun K hK => by
    have hs := run_store_place (P := P) w g i ty b l hr hl hi
    unfold Oper.wp execOp
    simp only [ho, hx, hy, Instr.storeAt, Instr.sureAddr, Sem.run_bind, Sem.run_pure, Result.andThen_ok, hs]
    show K (a.put o.dst undef) _
    rw [hdst]
    exact hK _ _ h
end
theorem wp_store_place0 {P : Program} {ops : Array Oper} {rest : List Oper} {o : Oper} {a : Act} {w : World} {Q : Exit → Act → World → Prop} (hgd : o.guard = none) (hdst : o.dst = none) (ty : TypeId) (x y : Operand) (ho : o.op = .store ty x y) (g i : Nat) (hx : a.eval x = .pointer (some ⟨g, i * 2, none⟩)) (hy : a.eval y = .agg #[.int .u8 0, .int .i16 0])
    (l : List Bt) (hr : rowOf w g = some (bcs l).toArray) (hl : i < l.length) (hi : (P.info? ty).map (·.size) = some (#[Value.int .u8 0, Value.int .i16 0] : Array Value).size)
    (h : wpList P ops Q rest a (w.setRow g (bcs (l.set i zB)).toArray)) : wpList P ops Q (o :: rest) a w :=
  wp_store_place hgd hdst ty x y ho g i hx zB hy l hr hl hi h
theorem Goes.place {P : Program} {o : Oper} {a : Act} {w : World} {k : Act → Prop} (hdst : o.dst = none) (ty : TypeId) (x y : Operand) (ho : o.op = .store ty x y) (g i : Nat) (hx : a.eval x = .pointer (some ⟨g, i * 2, none⟩)) (b : Bt) (hy : a.eval y = .agg #[.int .u8 b.k, .int .i16 b.y])
    (l : List Bt) (hr : rowOf w g = some (bcs l).toArray) (hl : i < l.length) (hi : (P.info? ty).map (·.size) = some (#[Value.int .u8 b.k, Value.int .i16 b.y] : Array Value).size) (h : k a) : Goes P o a w (w.setRow g (bcs (l.set i b)).toArray) k := by
  have hs := run_store_place (P := P) w g i ty b l hr hl hi
  unfold Goes execOp
  simp only [ho, hx, hy, Instr.storeAt, Instr.sureAddr, Sem.run_bind, Sem.run_pure, Result.andThen_ok, hs]
  rw [hdst]
  exact ⟨trivial, h⟩
theorem Goes.place0 {P : Program} {o : Oper} {a : Act} {w : World} {k : Act → Prop} (hdst : o.dst = none) (ty : TypeId) (x y : Operand) (ho : o.op = .store ty x y) (g i : Nat) (hx : a.eval x = .pointer (some ⟨g, i * 2, none⟩)) (hy : a.eval y = .agg #[.int .u8 0, .int .i16 0])
    (l : List Bt) (hr : rowOf w g = some (bcs l).toArray) (hl : i < l.length) (hi : (P.info? ty).map (·.size) = some (#[Value.int .u8 0, Value.int .i16 0] : Array Value).size) (h : k a) : Goes P o a w (w.setRow g (bcs (l.set i zB)).toArray) k :=
  Goes.place hdst ty x y ho g i hx zB hy l hr hl hi h
theorem row_swap {w : World} {g : Nat} {l : List Bt} {i j : Nat} {x y : Bt} (h : rowOf w g = some (bcs l).toArray) : rowOf ((w.setRow g (bcs (l.set i x)).toArray).setRow g (bcs ((l.set i x).set j y)).toArray) g = some (bcs ((l.set i x).set j y)).toArray := by
  rw [rowOf_setRow, if_pos rfl, rowOf_setRow, if_pos rfl, h]
  rfl
theorem ok_places {s : Sw} (h : s.ok = true) : ∃ i j : Nat, s.f = i ∧ s.t = j ∧ i < 12 ∧ j < 12 := by
  simp [Sw.ok, isP] at h
  exact ⟨s.f.toNat, s.t.toNat, by omega, by omega, by omega, by omega⟩
end Go.Proofs.Ytnhpgahapjjjbaa
