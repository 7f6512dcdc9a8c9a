/- The walk of laws.FnExactConstants: it returns true and leaves what was there. -/
import Derived.Test.YtpdcjlclhlfhhaaBase
namespace Go.Proofs.Ytpdcjlclhlfhhaa.fnExactConstants
open Go.RowKit
set_option linter.unusedVariables false
theorem walk (w : World) : Calls Try.prog 3 #[] w fun e w' => e = .returned (.bool true) ∧ Below w.heap.size w w' := by
  go_enter Try.func3, Try.ntmps3
  go_wp2
  all_goals (go_ret; exact ⟨rfl, Below.refl _ _⟩)
end Go.Proofs.Ytpdcjlclhlfhhaa.fnExactConstants
