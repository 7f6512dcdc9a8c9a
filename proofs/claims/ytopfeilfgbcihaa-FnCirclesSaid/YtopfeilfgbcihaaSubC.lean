/- Contracts of the functions that tell whether a number is subnormal. -/
import Derived.Test.YtopfeilfgbcihaaBitsC
import Derived.Test.YtopfeilfgbcihaaSub
namespace Go.Proofs.Ytopfeilfgbcihaa
open Go.RowKit
set_option linter.unusedVariables false

theorem implIsSubnormal_any (x : Nat) (w : World) (hx : x < 4294967296) : Calls Try.prog 58 #[.float .f32 x] w fun e w' => e = .returned (.bool (subB x)) ∧ ∃ n, w' = w.drewN n := by
  have hs := sub_impl x w
  have HS := Lib.hid hs
  clear hs
  by_cases h : FloatKind.f32.format.order x 0 = some .eq
  · have hb : subB x = false := by rw [← HS.out, h]; rfl
    rw [hb]; clear hb HS
    go_enter Try.func58, Try.ntmps58
    go_wp2
    go_ret
    exact ⟨rfl, 0, rfl⟩
  · go_enter Try.func58, Try.ntmps58
    go_wp2
    go_ret
    exact ⟨by rw [← HS.out]; rfl, _, rfl⟩

end Go.Proofs.Ytopfeilfgbcihaa
