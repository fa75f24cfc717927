/- Contracts of the laws' own conversions and comparisons of crates. -/
import Derived.Test.YtoiinpoiggkkdaaRow
namespace Go.Proofs.Ytoiinpoiggkkdaa
open Go.RowKit
set_option linter.unusedVariables false
set_option linter.unusedSimpArgs false
set_option maxRecDepth 100000
set_option maxHeartbeats 1000000
theorem eqBottle_refl (b : Bt) (w : World) : Calls Try.prog 35 #[bv b, bv b] w fun e w' => e = .returned (.bool true) ∧ Below w.heap.size w w' := by
  have := eqBottle_any b b w
  rwa [show b.like b = true from Bt.like_iff.2 rfl] at this
