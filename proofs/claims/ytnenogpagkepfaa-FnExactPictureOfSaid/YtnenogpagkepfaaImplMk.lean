/- Contracts of the program's functions that make pictures of pictures. -/
import Derived.Test.YtnenogpagkepfaaImplIn
import Derived.Test.YtnenogpagkepfaaSpecMk
set_option linter.unusedVariables false
namespace Go.Proofs.Ytnenogpagkepfaa
open Go.RowKit

end Go.Proofs.Ytnenogpagkepfaa
