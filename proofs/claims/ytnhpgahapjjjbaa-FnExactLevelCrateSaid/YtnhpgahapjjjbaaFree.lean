/- Contracts of FreePlaces and AddBottle. -/
import Derived.Test.YtnhpgahapjjjbaaList
import Derived.Test.YtnhpgahapjjjbaaInts
import Derived.Test.YtnhpgahapjjjbaaFunc
import Derived.Test.YtnhpgahapjjjbaaPut
import Derived.Test.YtnhpgahapjjjbaaTail
namespace Go.Proofs.Ytnhpgahapjjjbaa
open Go.RowKit
set_option linter.unusedVariables false
set_option linter.unusedSimpArgs false
set_option maxRecDepth 100000
set_option maxHeartbeats 1000000
end Go.Proofs.Ytnhpgahapjjjbaa
