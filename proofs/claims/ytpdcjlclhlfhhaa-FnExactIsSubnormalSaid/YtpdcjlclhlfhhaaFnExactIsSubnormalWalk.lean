/- The walk of laws.FnExactIsSubnormal: it returns true and leaves what was there. -/
import Derived.Test.YtpdcjlclhlfhhaaSubC
namespace Go.Proofs.Ytpdcjlclhlfhhaa.fnExactIsSubnormal
open Go.RowKit
set_option linter.unusedVariables false
theorem walk (a0 : Nat) (w : World) (w0 : (Lit.float .f32 a0).wf = true) : Calls Try.prog 9 #[.float .f32 a0] w fun e w' => e = .returned (.bool true) ∧ Below w.heap.size w w' := by
  have h0 : a0 < 4294967296 := by simpa [Lit.wf] using w0
  clear w0
  go_enter Try.func9, Try.ntmps9
  go_wp2_with (first | (go_at_call 23; refine (specIsSubnormal_any a0 _ h0).mono ?_; rintro e w' ⟨rfl, rfl⟩) | (go_at_call 24; refine (implIsSubnormal_any a0 _ h0).mono ?_; rintro e w' ⟨rfl, n, rfl⟩) | go_in)
  all_goals (go_ret; exact ⟨rfl, bel_drewN _ _⟩)
end Go.Proofs.Ytpdcjlclhlfhhaa.fnExactIsSubnormal
