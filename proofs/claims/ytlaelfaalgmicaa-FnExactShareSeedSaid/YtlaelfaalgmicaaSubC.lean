/- Contracts of the functions that tell whether a number is subnormal. -/
import Derived.Test.YtlaelfaalgmicaaBitsC
import Derived.Test.YtlaelfaalgmicaaSub
namespace Go.Proofs.Ytlaelfaalgmicaa
open Go.RowKit
set_option linter.unusedVariables false


end Go.Proofs.Ytlaelfaalgmicaa
