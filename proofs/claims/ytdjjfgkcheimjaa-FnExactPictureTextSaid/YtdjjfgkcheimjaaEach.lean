/- Contracts of each, and of what is made by it. -/
import Derived.Test.YtdjjfgkcheimjaaImgOf
set_option linter.unusedVariables false
namespace Go.Proofs.Ytdjjfgkcheimjaa
open Go.RowKit


end Go.Proofs.Ytdjjfgkcheimjaa
