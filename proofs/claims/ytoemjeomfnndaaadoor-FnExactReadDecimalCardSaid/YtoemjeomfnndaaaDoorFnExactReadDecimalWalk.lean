/- The walk of laws.FnExactReadDecimal: it returns true and leaves what was there. -/
import Derived.Test.YtoemjeomfnndaaaDoorValC
namespace Go.Proofs.YtoemjeomfnndaaaDoor.fnExactReadDecimal
open Go.RowKit
set_option linter.unusedVariables false
theorem walk (s : ByteArray) (w : World) (hL : laidMetH Tryd.prog Rows.fnExactReadDecimalRow.laid w) (hsh : w.ShapedOpen Tryd.prog) (w0 : s.size ≤ maxLen) :
    Calls Tryd.prog 10 #[.string s] w fun e w' => e = .returned (.bool true) ∧ Below w.heap.size w w' := by
  have hT := Lib.hid (laid_errs hL).1
  have hE := Lib.hid (laid_errs hL).2
  clear hL hsh w0
  by_cases hn : s.size ≤ 1048576
  · have hn' : ¬ 1048576 < s.size := by omega
    go_enter Tryd.func10, Tryd.ntmps10
    go_wp2_with fail
    refine (specRead_any s _ hn).mono ?_
    rintro e w1 ⟨hv, b1⟩
    unfold ValE at hv
    subst hv
    go_wp2_with fail
    refine (implRead_any s _ hn (pow_bel hT.out b1) (hE.out.bel b1)).mono ?_
    rintro e w2 ⟨hv, b2⟩
    unfold ValE at hv
    subst hv
    go_wp2_with fail
    go_ret
    exact ⟨rfl, bel_next b1 b2⟩
  · have hn' : 1048576 < s.size := by omega
    go_enter Tryd.func10, Tryd.ntmps10
    go_wp2_with fail
    go_ret
    exact ⟨rfl, Below.refl _ _⟩
end Go.Proofs.YtoemjeomfnndaaaDoor.fnExactReadDecimal
