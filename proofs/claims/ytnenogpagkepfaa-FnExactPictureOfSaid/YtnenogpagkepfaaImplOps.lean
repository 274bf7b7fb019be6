/- Contracts of the program's PixelAt, CountBlack, SpotsOf, IsInside and their parts. -/
import Derived.Test.YtnenogpagkepfaaSpecOps
set_option linter.unusedVariables false
namespace Go.Proofs.Ytnenogpagkepfaa
open Go.RowKit

end Go.Proofs.Ytnenogpagkepfaa
