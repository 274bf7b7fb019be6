/- Contracts of each, and of what is made by it. -/
import Derived.Test.YtjplikkehhpomaaImgOf
set_option linter.unusedVariables false
namespace Go.Proofs.Ytjplikkehhpomaa
open Go.RowKit


end Go.Proofs.Ytjplikkehhpomaa
