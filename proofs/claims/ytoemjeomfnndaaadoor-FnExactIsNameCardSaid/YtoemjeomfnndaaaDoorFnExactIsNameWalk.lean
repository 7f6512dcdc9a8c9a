/- The walk of laws.FnExactIsName: it returns true and leaves what was there. -/
import Derived.Test.YtoemjeomfnndaaaDoorNameC
import Derived.Test.YtoemjeomfnndaaaDoorDoor
namespace Go.Proofs.YtoemjeomfnndaaaDoor.fnExactIsName
open Go.RowKit
set_option linter.unusedVariables false
theorem walk (s : ByteArray) (w : World) (hL : laidMetH Tryd.prog Rows.fnExactIsNameRow.laid w) (hsh : w.ShapedOpen Tryd.prog) (w0 : s.size ≤ maxLen) :
    Calls Tryd.prog 7 #[.string s] w fun e w' => e = .returned (.bool true) ∧ Below w.heap.size w w' := by
  clear hL hsh w0
  by_cases hn : s.size ≤ 1048576
  · have hn' : ¬ 1048576 < s.size := by omega
    go_enter Tryd.func7, Tryd.ntmps7
    go_wp2_with fail
    refine (specName_any s _ hn).mono ?_
    rintro e w1 ⟨rfl, b1⟩
    go_wp2_with fail
    refine (implName_any s _ hn).mono ?_
    rintro e w2 ⟨rfl, b2⟩
    go_wp2_with fail
    go_ret
    exact ⟨rfl, bel_next b1 b2⟩
  · have hn' : 1048576 < s.size := by omega
    go_enter Tryd.func7, Tryd.ntmps7
    go_wp2_with fail
    go_ret
    exact ⟨rfl, Below.refl _ _⟩
end Go.Proofs.YtoemjeomfnndaaaDoor.fnExactIsName
