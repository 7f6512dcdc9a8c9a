/- The walk of laws.FnExactRootNumber: it returns true and leaves what was there. -/
import Derived.Test.YtopfeilfgbcihaaMathC
import Derived.Test.YtopfeilfgbcihaaRoot
namespace Go.Proofs.Ytopfeilfgbcihaa.fnExactRootNumber
open Go.RowKit
set_option linter.unusedVariables false
set_option maxHeartbeats 400000 in
theorem walk (a0 : Nat) (w : World) (w0 : (Lit.float .f32 a0).wf = true) : Calls Try.prog 10 #[.float .f32 a0] w fun e w' => e = .returned (.bool true) ∧ Below w.heap.size w w' := by
  clear w0
  go_enter Try.func10, Try.ntmps10
  go_wp2_with (first | (go_at_call 19; refine (sameWide _ _ _ _ _ (by rw [root_narrow, root_narrow])).mono ?_; rintro e w' ⟨rfl, m, rfl⟩) | go_in)
  all_goals (go_ret; exact ⟨rfl, bel_drewN _ _⟩)
end Go.Proofs.Ytopfeilfgbcihaa.fnExactRootNumber
