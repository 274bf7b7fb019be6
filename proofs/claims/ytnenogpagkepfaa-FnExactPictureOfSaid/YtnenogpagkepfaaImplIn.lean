/- Contracts of the program's twoImages, inside and IsInside. -/
import Derived.Test.YtnenogpagkepfaaImplOps
import Derived.Test.YtnenogpagkepfaaSpecIn
set_option linter.unusedVariables false
namespace Go.Proofs.Ytnenogpagkepfaa
open Go.RowKit

end Go.Proofs.Ytnenogpagkepfaa
