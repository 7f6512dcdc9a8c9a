/- The walk of laws.FnExactFromBits: it returns true and leaves what was there. -/
import Derived.Test.YtopfeilfgbcihaaFloatC
namespace Go.Proofs.Ytopfeilfgbcihaa.fnExactFromBits
open Go.RowKit
set_option linter.unusedVariables false
theorem walk (a0 : Int) (w : World) (w0 : (Lit.int .i64 a0).wf = true) : Calls Try.prog 3 #[.int .i64 a0] w fun e w' => e = .returned (.bool true) ∧ Below w.heap.size w w' := by
  clear w0
  by_cases h : 0 ≤ a0 ∧ a0 ≤ 4294967295
  · obtain ⟨h1, h2⟩ := h
    go_enter Try.func3, Try.ntmps3
    go_wp2_with (first | (go_at_call 19; refine (sameWide _ _ _ _ _ rfl).mono ?_; rintro e w' ⟨rfl, n, rfl⟩) | go_in)
    all_goals (go_ret; exact ⟨rfl, bel_drewN _ _⟩)
  · by_cases h1 : 0 ≤ a0
    · have h2 : 4294967295 < a0 := by omega
      go_enter Try.func3, Try.ntmps3
      go_wp2_with (first | (go_at_call 19; refine (sameWide _ _ _ _ _ rfl).mono ?_; rintro e w' ⟨rfl, n, rfl⟩) | go_in)
      all_goals (go_ret; exact ⟨rfl, bel_drewN _ _⟩)
    · go_enter Try.func3, Try.ntmps3
      go_wp2_with (first | (go_at_call 19; refine (sameWide _ _ _ _ _ rfl).mono ?_; rintro e w' ⟨rfl, n, rfl⟩) | go_in)
      all_goals (go_ret; exact ⟨rfl, bel_drewN _ _⟩)
end Go.Proofs.Ytopfeilfgbcihaa.fnExactFromBits
