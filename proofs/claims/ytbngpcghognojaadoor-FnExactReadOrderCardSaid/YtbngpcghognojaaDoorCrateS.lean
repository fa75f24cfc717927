/- Contracts of the laws' helpers on slices of crates: copied, compared, measured. -/
import Derived.Test.YtbngpcghognojaaDoorStack
namespace Go.Proofs.YtbngpcghognojaaDoor
open Go.RowKit
set_option linter.unusedVariables false
set_option linter.unusedSimpArgs false
set_option maxRecDepth 100000
set_option maxHeartbeats 1000000
attribute [local go_sem] Oper.qB
theorem sziCrate (x : Cr) : (Tryd.prog.info? 32).map (·.size) = some (cc x).length := by rw [cc_length]; kernel_rfl
theorem infoCrateS : (Tryd.prog.info? 32).map (fun i => (i.zero, i.size, i.bytes)) = some (some (.agg (cc zC).toArray), 24, 48) := by kernel_rfl
end Go.Proofs.YtbngpcghognojaaDoor
