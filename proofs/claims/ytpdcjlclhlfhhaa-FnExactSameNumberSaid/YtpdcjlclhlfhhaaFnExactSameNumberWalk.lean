/- The walk of laws.FnExactSameNumber: it returns true and leaves what was there. -/
import Derived.Test.YtpdcjlclhlfhhaaBitsC
namespace Go.Proofs.Ytpdcjlclhlfhhaa.fnExactSameNumber
open Go.RowKit
set_option linter.unusedVariables false
theorem walk (a0 a1 : Nat) (w : World) (w0 : (Lit.float .f32 a0).wf = true) (w1 : (Lit.float .f32 a1).wf = true) : Calls Try.prog 10 #[.float .f32 a0, .float .f32 a1] w fun e w' => e = .returned (.bool true) ∧ Below w.heap.size w w' := by
  have h0 : a0 < 4294967296 := by simpa [Lit.wf] using w0
  have h1 : a1 < 4294967296 := by simpa [Lit.wf] using w1
  clear w0 w1
  go_enter Try.func10, Try.ntmps10
  go_wp2_with (first | (go_at_call 33; refine (l01Same_any a0 a1 _ h0 h1).mono ?_; rintro e w' ⟨rfl, rfl⟩) | (go_at_call 26; refine (SameNumber_any a0 a1 _ h0 h1).mono ?_; rintro e w' ⟨rfl, n, rfl⟩) | go_in)
  all_goals (go_ret; exact ⟨rfl, bel_drewN _ _⟩)
end Go.Proofs.Ytpdcjlclhlfhhaa.fnExactSameNumber
