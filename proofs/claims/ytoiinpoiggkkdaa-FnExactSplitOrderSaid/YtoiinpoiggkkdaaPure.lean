/- Contracts of SortCrate: the bottles of a crate in order. -/
import Derived.Test.YtoiinpoiggkkdaaIns
import Derived.Test.YtoiinpoiggkkdaaKnow
namespace Go.Proofs.Ytoiinpoiggkkdaa
open Go Go.RowKit
set_option linter.unusedVariables false
set_option linter.unusedSimpArgs false
set_option maxRecDepth 100000
set_option maxHeartbeats 1000000
attribute [local go_sem] Oper.qB Oper.qK
section
variable {P : Program} {φ : Fact} {a : Act}
theorem gUpon_row {o : Oper} {wx : World} {K : Value → Fact → Prop} (ty : TypeId) (x : Operand) (ho : o.op = .load ty x) (g : Nat) (hx : a.eval x = .pointer (some ⟨g, 0, none⟩)) (cs : Array Value) (hr : rowOf wx g = some cs)
    (d : TypeDesc) (hu : P.underlying ty = some d) (hd : TypeDesc.isRow d = true) (hi : (P.info? ty).map (·.size) = some cs.size) (hφ : φ.p wx) (hk : K (.agg cs) φ) : gUpon Fact.p P K ((execOp a.eval o).run P wx) := by
  refine gUpon_val φ (w' := wx) ?_ hφ hk
  have hl := loadVar_rowOf (P := P) cs hr d hu hd hi
  unfold execOp
  simp only [ho, hx, Instr.loadAt, Instr.sureAddr, Sem.run_bind, Sem.run_pure, Result.andThen_ok, hl]
end
theorem OwnN.cases {α : Type} {f : α → List Value} {k : Nat} (hk : 0 < k) (hf : ∀ x, (f x).length = k) {w : World} {B e : Nat} {v : Value} {l : List α} (h : OwnN f w B e k v l) : (v = .slice none 0 0 ∧ l = []) ∨ ∃ g cap, v = .slice (some ⟨g, 0, none⟩) l.length cap := by
  rcases h.2 with ⟨h1, h2⟩ | ⟨g, cap, cur, hv, _⟩
  · refine .inl ⟨h1, ?_⟩
    exact List.eq_nil_of_length_eq_zero h2
  · exact .inr ⟨g, cap, hv⟩
/-- A crate with these bottles, from the first place on. -/
def padC (l : List Bt) (h : l.length ≤ 12) : Cr := ⟨(l ++ List.replicate (12 - l.length) zB).toArray, by simp; omega⟩
def packC1 (l : List Bt) : Cr := if h : l.length ≤ 12 then padC l h else zC
theorem packC1_toList {l : List Bt} (h : l.length ≤ 12) : (packC1 l).toList = l ++ List.replicate (12 - l.length) zB := by
  unfold packC1
  rw [dif_pos h]
  rfl
def sortedR (c : Cr) : Cr × Int := if c.ok = true then (packC1 (sortB (allB c)), 0) else (zC, 1)
theorem sortedR_pad {c : Cr} : (sortB (allB c)).length ≤ 12 := by rw [sortB_length]; exact allB_le c
section
variable {P : Program} {ops : Array Oper} {rest : List Oper} {o : Oper} {a : Act} {w : World} {Q : Exit → Act → World → Prop}
/-- Nothing copied. -/
theorem run_copy_zero (w : World) (dT sT ty elem : TypeId) (dp sp : Option Addr) (dLen dCap sCap k : Nat) (hu : P.underlying dT = some (.slice elem)) (hs : (P.info? elem).map (·.size) = some k) :
    (Builtin.copy_ #[dT, sT] ty #[.slice dp dLen dCap, .slice sp 0 sCap]).run P w = .ok (goInt 0) w := by
  cases hq : P.info? elem with
  | none => simp [hq] at hs
  | some i => cases sp <;> cases dp <;> simp [Builtin.copy_, run_underlying hu, Builtin.lenOf, Builtin.firstCells, sizeOf, typeInfo, hq, storeCells, loadCells, loadCellsFrom]
end
theorem pack_cells {l : List Bt} (h : l.length ≤ 12) : cc (packC1 l) = fl bc l ++ (cc zC).drop (l.length * 2) := by
  have e : cc zC = bcs (List.replicate 12 zB) := rfl
  unfold cc at e ⊢
  rw [packC1_toList h, bcs_append, fl_bc, e, ← bcs_drop, List.drop_replicate]
end Go.Proofs.Ytoiinpoiggkkdaa
