/- Contracts of the laws' helpers on slices of crates: copied, compared, measured. -/
import Derived.Test.YtoiinpoiggkkdaaStack
namespace Go.Proofs.Ytoiinpoiggkkdaa
open Go.RowKit
set_option linter.unusedVariables false
set_option linter.unusedSimpArgs false
set_option maxRecDepth 100000
set_option maxHeartbeats 1000000
attribute [local go_sem] Oper.qB
end Go.Proofs.Ytoiinpoiggkkdaa
