/- The walk of laws.FnExactIsFinite: it returns true and leaves what was there. -/
import Derived.Test.YtpdcjlclhlfhhaaBitsC
namespace Go.Proofs.Ytpdcjlclhlfhhaa.fnExactIsFinite
open Go.RowKit
set_option linter.unusedVariables false
theorem walk (a0 : Nat) (w : World) (w0 : (Lit.float .f32 a0).wf = true) : Calls Try.prog 4 #[.float .f32 a0] w fun e w' => e = .returned (.bool true) ∧ Below w.heap.size w w' := by
  clear w0
  go_enter Try.func4, Try.ntmps4
  go_wp2
  all_goals (go_ret; exact ⟨rfl, bel_drewN _ _⟩)
end Go.Proofs.Ytpdcjlclhlfhhaa.fnExactIsFinite
