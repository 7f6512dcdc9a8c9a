/- Contracts of the functions that tell whether a number is subnormal. -/
import Derived.Test.YtoemjeomfnndaaaDoorBitsC
import Derived.Test.YtoemjeomfnndaaaDoorSub
namespace Go.Proofs.YtoemjeomfnndaaaDoor
open Go.RowKit
set_option linter.unusedVariables false


end Go.Proofs.YtoemjeomfnndaaaDoor
