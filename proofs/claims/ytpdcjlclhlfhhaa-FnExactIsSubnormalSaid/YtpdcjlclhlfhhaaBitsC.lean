/- Contracts of the functions that tell a number's bits and whether two numbers are the same. -/
import Derived.Test.YtpdcjlclhlfhhaaFloat
import Derived.Test.YtpdcjlclhlfhhaaSame
namespace Go.Proofs.Ytpdcjlclhlfhhaa
open Go.RowKit
set_option linter.unusedVariables false

theorem bel_drewN (w : World) (n : Nat) : Below w.heap.size w (w.drewN n) := ⟨rfl, rfl, rfl, Nat.le_refl _, fun _ _ => rfl⟩

theorem l01Bits_any (x : Nat) (w : World) (hx : x < 4294967296) : Calls Try.prog 30 #[.float .f32 x] w fun e w' => e = .returned (.int .i64 (bitsZ x)) ∧ w = w' := by
  rw [bitsZ_eq]
  cases h : nanB .f32 x
  · go_enter Try.func30, Try.ntmps30
    go_wp2
    all_goals (go_ret; exact ⟨rfl, rfl⟩)
  · go_enter Try.func30, Try.ntmps30
    go_wp2
    all_goals (go_ret; exact ⟨rfl, rfl⟩)
theorem BitsOf_any (x : Nat) (w : World) (hx : x < 4294967296) : Calls Try.prog 22 #[.float .f32 x] w fun e w' => e = .returned (.int .i64 (bitsZ x)) ∧ w = w' := by
  rw [bitsZ_eq]
  cases h : nanB .f32 x
  · go_enter Try.func22, Try.ntmps22
    go_wp2
    all_goals (go_ret; exact ⟨rfl, rfl⟩)
  · go_enter Try.func22, Try.ntmps22
    go_wp2
    all_goals (go_ret; exact ⟨rfl, rfl⟩)
theorem l01Same_any (a b : Nat) (w : World) (ha : a < 4294967296) (hb : b < 4294967296) : Calls Try.prog 33 #[.float .f32 a, .float .f32 b] w fun e w' => e = .returned (.bool (decide (bitsZ a = bitsZ b))) ∧ w = w' := by
  go_enter Try.func33, Try.ntmps33
  go_wp2_with fail
  refine (l01Bits_any a _ ha).mono ?_
  rintro e w1 ⟨rfl, rfl⟩
  go_wp2_with fail
  refine (l01Bits_any b _ hb).mono ?_
  rintro e w1 ⟨rfl, rfl⟩
  go_wp2_with fail
  go_ret
  exact ⟨by simp [Bool.beq_eq_decide_eq], rfl⟩
theorem SameNumber_any (a b : Nat) (w : World) (ha : a < 4294967296) (hb : b < 4294967296) : Calls Try.prog 26 #[.float .f32 a, .float .f32 b] w fun e w' => e = .returned (.bool (decide (bitsZ a = bitsZ b))) ∧ ∃ n, w' = w.drewN n := by
  cases na : nanB .f32 a <;> cases nb : nanB .f32 b
  · have hs := same_num a b ha hb na nb
    have sa := fun w => wide_sign a w na
    have sb := fun w => wide_sign b w nb
    by_cases hab : FloatKind.f32.format.order a b = some .eq
    · have HS := Lib.hid hs
      clear hs
      go_enter Try.func26, Try.ntmps26
      go_wp2
      go_ret
      have hs := HS.out
      rw [hab] at hs
      refine ⟨?_, _, rfl⟩
      rw [← hs]; simp
    · have h1 : (FloatKind.f32.format.order a b == some .eq) = false := by simpa using hab
      rw [h1, Bool.false_and] at hs
      rw [← hs]
      clear hs hab
      go_enter Try.func26, Try.ntmps26
      go_wp2
      go_ret
      exact ⟨rfl, 0, rfl⟩
  · have hd : decide (bitsZ a = bitsZ b) = false := by
      rw [bitsZ_eq, bitsZ_eq, na, nb, decide_eq_false_iff_not]
      intro h
      have : a = 2143289344 := by simp at h; omega
      rw [this, nan_std] at na; cases na
    rw [hd]; clear hd
    go_enter Try.func26, Try.ntmps26
    go_wp2
    go_ret
    exact ⟨rfl, 0, rfl⟩
  · have hd : decide (bitsZ a = bitsZ b) = false := by
      rw [bitsZ_eq, bitsZ_eq, na, nb, decide_eq_false_iff_not]
      intro h
      have : b = 2143289344 := by simp at h; omega
      rw [this, nan_std] at nb; cases nb
    rw [hd]; clear hd
    go_enter Try.func26, Try.ntmps26
    go_wp2
    go_ret
    exact ⟨rfl, 0, rfl⟩
  · have hd : decide (bitsZ a = bitsZ b) = true := by
      rw [bitsZ_eq, bitsZ_eq, na, nb]; simp
    rw [hd]; clear hd
    go_enter Try.func26, Try.ntmps26
    go_wp2
    go_ret
    exact ⟨rfl, 0, rfl⟩

end Go.Proofs.Ytpdcjlclhlfhhaa
