/- Contracts of the functions that look at one crate. -/
import Derived.Test.YtoiinpoiggkkdaaRow
namespace Go.Proofs.Ytoiinpoiggkkdaa
open Go.RowKit
set_option linter.unusedVariables false
set_option linter.unusedSimpArgs false
set_option maxRecDepth 100000
set_option maxHeartbeats 1000000

end Go.Proofs.Ytoiinpoiggkkdaa
