/- Contracts of the functions that list the places and the bottles of a crate. -/
import Derived.Test.YtbngpcghognojaaDoorApp
import Derived.Test.YtbngpcghognojaaDoorCrate
namespace Go.Proofs.YtbngpcghognojaaDoor
open Go.RowKit
set_option linter.unusedVariables false
set_option linter.unusedSimpArgs false
set_option maxRecDepth 100000
set_option maxHeartbeats 1000000
/-- The first k places of which p holds. -/
def pl (p : Bt → Bool) (l : List Bt) (k : Nat) : List Int := ((List.range k).filter fun i => p (rB l i)).map Int.ofNat
theorem pl_yes {p : Bt → Bool} {l : List Bt} {k : Nat} (h : p (rB l k) = true) : pl p l (k + 1) = pl p l k ++ [(k : Int)] := by
  simp [pl, List.range_succ, h]
theorem pl_no {p : Bt → Bool} {l : List Bt} {k : Nat} (h : p (rB l k) = false) : pl p l (k + 1) = pl p l k := by
  simp [pl, List.range_succ, h]
theorem pl_le (p : Bt → Bool) (l : List Bt) (k : Nat) : (pl p l k).length ≤ k := by
  simp only [pl, List.length_map]
  exact Nat.le_trans (List.length_filter_le _ _) (by simp)
/-- All places with a bottle; all without one. -/
def usedI (c : Cr) : List Int := pl (fun b => !b.em) c.toList 12
def freeI (c : Cr) : List Int := pl Bt.em c.toList 12
theorem cc_take (c : Cr) (k : Nat) (h : k < 12) : List.take 2 (List.drop (k * 2) (cc c)) = [.int .u8 (rB c.toList k).k, .int .i16 (rB c.toList k).y] := by
  have hl : k < c.toList.length := by rw [Vector.length_toList]; exact h
  obtain ⟨h0, h1⟩ := bcs_at c.toList k hl
  apply List.ext_getElem?
  intro j
  rw [List.getElem?_take, List.getElem?_drop, show cc c = bcs c.toList from rfl]
  rcases j with _ | _ | j
  · simpa using h0
  · simpa using h1
  · simp
    omega
/-- An element of a crate by value. -/
theorem run_indexC (c : Cr) (k : Nat) (h : k < 12) (w : World) : (Instr.index 32 (.agg (cc c).toArray) (.int .i64 (k : Int))).run Tryd.prog w = .ok (.agg #[.int .u8 (rB c.toList k).k, .int .i16 (rB c.toList k).y]) w := by
  have hu := Tryd.underlying32
  have hE := cc_take c k h
  simp only [Instr.index, asIntOf]
  simp [go_sem, run_underlying hu, part, h, hE]
end Go.Proofs.YtbngpcghognojaaDoor
