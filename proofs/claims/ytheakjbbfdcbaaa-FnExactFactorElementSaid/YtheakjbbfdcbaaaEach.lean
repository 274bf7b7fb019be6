/- Contracts of each, and of what is made by it. -/
import Derived.Test.YtheakjbbfdcbaaaImgOf
set_option linter.unusedVariables false
namespace Go.Proofs.Ytheakjbbfdcbaaa
open Go.RowKit


end Go.Proofs.Ytheakjbbfdcbaaa
