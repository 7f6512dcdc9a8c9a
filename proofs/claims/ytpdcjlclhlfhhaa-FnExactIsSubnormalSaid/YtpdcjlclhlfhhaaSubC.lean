/- Contracts of the functions that tell whether a number is subnormal. -/
import Derived.Test.YtpdcjlclhlfhhaaBitsC
import Derived.Test.YtpdcjlclhlfhhaaSub
namespace Go.Proofs.Ytpdcjlclhlfhhaa
open Go.RowKit
set_option linter.unusedVariables false

theorem implIsSubnormal_any (x : Nat) (w : World) (hx : x < 4294967296) : Calls Try.prog 24 #[.float .f32 x] w fun e w' => e = .returned (.bool (subB x)) ∧ ∃ n, w' = w.drewN n := by
  have hs := sub_impl x w
  have HS := Lib.hid hs
  clear hs
  by_cases h : FloatKind.f32.format.order x 0 = some .eq
  · have hb : subB x = false := by rw [← HS.out, h]; rfl
    rw [hb]; clear hb HS
    go_enter Try.func24, Try.ntmps24
    go_wp2
    go_ret
    exact ⟨rfl, 0, rfl⟩
  · go_enter Try.func24, Try.ntmps24
    go_wp2
    go_ret
    exact ⟨by rw [← HS.out]; rfl, _, rfl⟩
theorem specIsSubnormal_any (x : Nat) (w : World) (hx : x < 4294967296) : Calls Try.prog 23 #[.float .f32 x] w fun e w' => e = .returned (.bool (subB x)) ∧ w = w' := by
  have hs := sub_spec x hx
  have HS := Lib.hid hs
  clear hs
  by_cases h : FloatKind.f32.format.order x 0 = some .eq
  · have hb : subB x = false := by rw [← HS.out, h]; rfl
    rw [hb]; clear hb HS
    go_enter Try.func23, Try.ntmps23
    go_wp2_with (first | (go_at_call 30; refine (l01Bits_any x _ hx).mono ?_; rintro e w' ⟨rfl, rfl⟩))
    go_ret
    exact ⟨rfl, rfl⟩
  · go_enter Try.func23, Try.ntmps23
    go_wp2_with (first | (go_at_call 30; refine (l01Bits_any x _ hx).mono ?_; rintro e w' ⟨rfl, rfl⟩))
    go_ret
    exact ⟨by rw [← HS.out]; rfl, rfl⟩

end Go.Proofs.Ytpdcjlclhlfhhaa
