/- Contracts of PutBottle. -/
import Derived.Test.YtbngpcghognojaaDoorFunc
import Derived.Test.YtbngpcghognojaaDoorConv
namespace Go.Proofs.YtbngpcghognojaaDoor
open Go.RowKit
set_option linter.unusedVariables false
set_option linter.unusedSimpArgs false
set_option maxRecDepth 100000
set_option maxHeartbeats 1000000
/-- A crate with a bottle in a place. -/
def setC (c : Cr) (i : Nat) (b : Bt) : Cr := ⟨(c.toList.set i b).toArray, by simp⟩
theorem setC_toList (c : Cr) (i : Nat) (b : Bt) : (setC c i b).toList = c.toList.set i b := rfl
/-- What PutBottle comes to. -/
def putR (c : Cr) (p : Int) (b : Bt) : Cr × Int :=
  if (c.ok && b.ok) = false then (zC, 1) else if (decide (0 ≤ p) && decide (p ≤ 11)) = false then (zC, 2) else if (rB c.toList p.toNat).em = false then (zC, 4) else (setC c p.toNat b, 0)
end Go.Proofs.YtbngpcghognojaaDoor
