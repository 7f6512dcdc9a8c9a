/- Contracts of the functions that tell a number's bits and whether two numbers are the same. -/
import Derived.Test.YtlaelfaalgmicaaFloat
import Derived.Test.YtlaelfaalgmicaaSame
namespace Go.Proofs.Ytlaelfaalgmicaa
open Go.RowKit
set_option linter.unusedVariables false

theorem bel_drewN (w : World) (n : Nat) : Below w.heap.size w (w.drewN n) := ⟨rfl, rfl, rfl, Nat.le_refl _, fun _ _ => rfl⟩


end Go.Proofs.Ytlaelfaalgmicaa
