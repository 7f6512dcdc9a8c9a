/- The walk of laws.FnExactBitsOf: it returns true and leaves what was there. -/
import Derived.Test.YtpdcjlclhlfhhaaBitsC
namespace Go.Proofs.Ytpdcjlclhlfhhaa.fnExactBitsOf
open Go.RowKit
set_option linter.unusedVariables false
theorem walk (a0 : Nat) (w : World) (w0 : (Lit.float .f32 a0).wf = true) : Calls Try.prog 8 #[.float .f32 a0] w fun e w' => e = .returned (.bool true) ∧ Below w.heap.size w w' := by
  have h0 : a0 < 4294967296 := by simpa [Lit.wf] using w0
  clear w0
  cases h : nanB .f32 a0
  · go_enter Try.func8, Try.ntmps8
    go_wp2
    all_goals (go_ret; exact ⟨rfl, Below.refl _ _⟩)
  · go_enter Try.func8, Try.ntmps8
    go_wp2
    all_goals (go_ret; exact ⟨rfl, Below.refl _ _⟩)
end Go.Proofs.Ytpdcjlclhlfhhaa.fnExactBitsOf
