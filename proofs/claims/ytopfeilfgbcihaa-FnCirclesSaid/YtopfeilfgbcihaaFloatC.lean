/- The contract of the laws' own comparison of floats: two numbers that are one up to the choice of a NaN. -/
import Derived.Test.YtopfeilfgbcihaaSubC
namespace Go.Proofs.Ytopfeilfgbcihaa
open Go.RowKit
set_option linter.unusedVariables false

theorem ord_fval (op : BinOp) (k : FloatKind) (x y c : Nat) (w : World) : k.format.order (fval op k x y w) c = aord k (aop op k (av k x) (av k y)) (av k c) := by
  rw [ord_av, av_fval]
theorem av_eq_cases {k : FloatKind} {a b : Nat} (h : av k a = av k b) : (nanB k a = true ∧ nanB k b = true) ∨ (nanB k a = false ∧ a = b) := by
  cases ha : nanB k a <;> cases hb : nanB k b <;> simp [av, ha, hb] at h ⊢
  exact h

theorem sameFloat_same (a b : Nat) (w : World) (h : av .f64 a = av .f64 b) : Calls Try.prog 19 #[.float .f64 a, .float .f64 b] w fun e w' => e = .returned (.bool true) ∧ ∃ n, w' = w.drewN n := by
  rcases av_eq_cases h with ⟨ha, hb⟩ | ⟨ha, rfl⟩
  · clear h
    go_enter Try.func19, Try.ntmps19
    go_wp2
    go_ret
    exact ⟨rfl, 0, rfl⟩
  · clear h
    have hq := fun w => ord_fval .quo .f64 4607182418800017408 a 0 w
    have hs : FloatKind.f64.format.order a a = some .eq := by rw [order_self, ha]; rfl
    by_cases hz : FloatKind.f64.format.order a 0 = some .eq
    · go_enter Try.func19, Try.ntmps19
      go_wp2
      go_ret
      exact ⟨by simp, _, rfl⟩
    · go_enter Try.func19, Try.ntmps19
      go_wp2
      go_ret
      exact ⟨by simp, 0, rfl⟩

/-- The same of two 32-bit numbers, widened. -/
theorem sameWide (a b : Nat) (w1 w2 w : World) (h : av .f32 a = av .f32 b) : Calls Try.prog 19 #[.float .f64 (cval .f32 a .f64 w1), .float .f64 (cval .f32 b .f64 w2)] w fun e w' => e = .returned (.bool true) ∧ ∃ n, w' = w.drewN n :=
  sameFloat_same _ _ w (by rw [av_wide, av_wide, h])

end Go.Proofs.Ytopfeilfgbcihaa
