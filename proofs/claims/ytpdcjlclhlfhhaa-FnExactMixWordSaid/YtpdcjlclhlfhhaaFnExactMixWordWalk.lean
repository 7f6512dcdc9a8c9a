/- The walk of laws.FnExactMixWord: it returns true and leaves what was there. -/
import Derived.Test.YtpdcjlclhlfhhaaBase
namespace Go.Proofs.Ytpdcjlclhlfhhaa.fnExactMixWord
open Go.RowKit
set_option linter.unusedVariables false
theorem walk (a0 : Int) (w : World) (w0 : (Lit.int .u64 a0).wf = true) : Calls Try.prog 7 #[.int .u64 a0] w fun e w' => e = .returned (.bool true) ∧ Below w.heap.size w w' := by
  clear w0
  go_enter Try.func7, Try.ntmps7
  go_wp2
  all_goals (go_ret; exact ⟨rfl, Below.refl _ _⟩)
end Go.Proofs.Ytpdcjlclhlfhhaa.fnExactMixWord
