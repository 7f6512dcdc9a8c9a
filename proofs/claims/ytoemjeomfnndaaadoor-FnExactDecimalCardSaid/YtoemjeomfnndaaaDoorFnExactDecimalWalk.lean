/- The walk of laws.FnExactDecimal: it returns true and leaves what was there. -/
import Derived.Test.YtoemjeomfnndaaaDoorDecC
namespace Go.Proofs.YtoemjeomfnndaaaDoor.fnExactDecimal
open Go.RowKit
set_option linter.unusedVariables false
theorem walk (n : Int) (w : World) (hL : laidMetH Tryd.prog Rows.fnExactDecimalRow.laid w) (hsh : w.ShapedOpen Tryd.prog) (w0 : (Lit.int .i64 n).wf = true) :
    Calls Tryd.prog 6 #[.int .i64 n] w fun e w' => e = .returned (.bool true) ∧ Below w.heap.size w w' := by
  have hn : -9223372036854775808 ≤ n ∧ n ≤ 9223372036854775807 := by
    have hb : (IntKind.i64.bits : Nat) = 64 := rfl
    simp [Lit.wf, IntKind.min, IntKind.max, IntKind.signed, hb] at w0
    omega
  have hT := Lib.hid (pow_decimal hL)
  clear hL hsh w0
  obtain ⟨h0, h1⟩ := hn
  go_enter Tryd.func6, Tryd.ntmps6
  go_wp2_with fail
  refine (specDec_any n _ h0 h1).mono ?_
  rintro e w1 ⟨rfl, b1⟩
  go_wp2_with fail
  refine (implDec_any n _ h0 h1 (pow_bel hT.out b1)).mono ?_
  rintro e w2 ⟨rfl, b2⟩
  go_wp2_with fail
  go_ret
  exact ⟨rfl, bel_next b1 b2⟩
end Go.Proofs.YtoemjeomfnndaaaDoor.fnExactDecimal
