/- Contracts of the functions that tell a number's bits and whether two numbers are the same. -/
import Derived.Test.YtopfeilfgbcihaaFloat
import Derived.Test.YtopfeilfgbcihaaSame
namespace Go.Proofs.Ytopfeilfgbcihaa
open Go.RowKit
set_option linter.unusedVariables false

theorem bel_drewN (w : World) (n : Nat) : Below w.heap.size w (w.drewN n) := ⟨rfl, rfl, rfl, Nat.le_refl _, fun _ _ => rfl⟩

theorem l01Bits_any (x : Nat) (w : World) (hx : x < 4294967296) : Calls Try.prog 89 #[.float .f32 x] w fun e w' => e = .returned (.int .i64 (bitsZ x)) ∧ w = w' := by
  rw [bitsZ_eq]
  cases h : nanB .f32 x
  · go_enter Try.func89, Try.ntmps89
    go_wp2
    all_goals (go_ret; exact ⟨rfl, rfl⟩)
  · go_enter Try.func89, Try.ntmps89
    go_wp2
    all_goals (go_ret; exact ⟨rfl, rfl⟩)
theorem l01Same_any (a b : Nat) (w : World) (ha : a < 4294967296) (hb : b < 4294967296) : Calls Try.prog 88 #[.float .f32 a, .float .f32 b] w fun e w' => e = .returned (.bool (decide (bitsZ a = bitsZ b))) ∧ w = w' := by
  go_enter Try.func88, Try.ntmps88
  go_wp2_with fail
  refine (l01Bits_any a _ ha).mono ?_
  rintro e w1 ⟨rfl, rfl⟩
  go_wp2_with fail
  refine (l01Bits_any b _ hb).mono ?_
  rintro e w1 ⟨rfl, rfl⟩
  go_wp2_with fail
  go_ret
  exact ⟨by simp [Bool.beq_eq_decide_eq], rfl⟩

end Go.Proofs.Ytopfeilfgbcihaa
