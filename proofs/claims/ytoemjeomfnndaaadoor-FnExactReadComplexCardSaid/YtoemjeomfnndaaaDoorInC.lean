/- Contracts of the two functions that ask whether a number lies between two. -/
import Derived.Test.YtoemjeomfnndaaaDoorBase
namespace Go.Proofs.YtoemjeomfnndaaaDoor
open Go.RowKit
set_option linter.unusedVariables false
/-- Does x lie from lo to hi? -/
def inR (x lo hi : Int) : Bool := decide (lo ≤ x) && decide (x ≤ hi)
theorem inR_yes {x lo hi : Int} (h1 : lo ≤ x) (h2 : x ≤ hi) : inR x lo hi = true := by simp [inR, h1, h2]
theorem inR_no {x lo hi : Int} (h : ¬ (lo ≤ x ∧ x ≤ hi)) : inR x lo hi = false := by
  unfold inR
  rw [Bool.and_eq_false_iff, decide_eq_false_iff_not, decide_eq_false_iff_not]
  omega
theorem inR_of {x lo hi : Int} (h : inR x lo hi = true) : lo ≤ x ∧ x ≤ hi := by simpa [inR] using h
theorem boolR {a b : Bool} (h : a = b) : Ending.returned (.bool a) = .returned (.bool b) := by rw [h]
theorem l00InR_any (x lo hi : Int) (w : World) : Calls Tryd.prog 72 #[.int .i64 x, .int .i64 lo, .int .i64 hi] w fun e w' => e = .returned (.bool (inR x lo hi)) ∧ w = w' := by
  go_enter Tryd.func72, Tryd.ntmps72
  go_wp2
  all_goals (go_ret; exact ⟨boolR (by simp_all [inR] <;> omega), rfl⟩)
theorem withinR_any (x lo hi : Int) (w : World) : Calls Tryd.prog 73 #[.int .i64 x, .int .i64 lo, .int .i64 hi] w fun e w' => e = .returned (.bool (inR x lo hi)) ∧ w = w' := by
  go_enter Tryd.func73, Tryd.ntmps73
  go_wp2
  all_goals (go_ret; exact ⟨boolR (by simp_all [inR] <;> omega), rfl⟩)
end Go.Proofs.YtoemjeomfnndaaaDoor
