/- The walk of laws.FnExactFlushNumber: it returns true and leaves what was there. -/
import Derived.Test.YtopfeilfgbcihaaFlushC
namespace Go.Proofs.Ytopfeilfgbcihaa.fnExactFlushNumber
open Go.RowKit
set_option linter.unusedVariables false
theorem walk (a0 : Nat) (w : World) (w0 : (Lit.float .f32 a0).wf = true) : Calls Try.prog 4 #[.float .f32 a0] w fun e w' => e = .returned (.bool true) ∧ Below w.heap.size w w' := by
  have h0 : a0 < 4294967296 := by simpa [Lit.wf] using w0
  clear w0
  go_enter Try.func4, Try.ntmps4
  go_wp2_with (first | (go_at_call 20; refine (specFlush_any a0 _ h0).mono ?_; rintro e w' ⟨rfl, rfl⟩) | (go_at_call 21; refine (implFlush_any a0 _ h0).mono ?_; rintro e w' ⟨rfl, n, rfl⟩) | (go_at_call 19; refine (sameWide _ _ _ _ _ rfl).mono ?_; rintro e w' ⟨rfl, m, rfl⟩))
  all_goals (go_ret; exact ⟨rfl, bel_drewN _ _⟩)
end Go.Proofs.Ytopfeilfgbcihaa.fnExactFlushNumber
