/- LogNumber: what both sides compute. -/
import Derived.Test.YtopfeilfgbcihaaLog2C
import Derived.Test.YtopfeilfgbcihaaLogB
import Derived.Test.YtopfeilfgbcihaaCls
import Derived.Test.YtopfeilfgbcihaaBound
namespace Go.Proofs.Ytopfeilfgbcihaa
open Go.RowKit
set_option linter.unusedVariables false
/-- It returns a 32-bit number that is this but for the choice of a NaN; the world has only drawn. -/
def GivesS (o : Option Nat) (w : World) (e : Ending) (w' : World) : Prop := ∃ r m, av .f32 r = o ∧ e = .returned (.float .f32 r) ∧ w' = w.drewN m
theorem narrow_log {X r : Nat} (h : Mid X) (hr : av .f64 r = logA X) (w : World) : av .f32 (cval .f64 r .f32 w) = acv .f64 .f32 (logA X) := by
  obtain ⟨q, e, b⟩ := logA_ok h
  have hq : r = q := by
    rw [e] at hr
    unfold av at hr
    split at hr <;> simp_all
  subst hq
  rw [av_narrow r w (.inr (.inl (b.mono (by omega)))), hr]
theorem nan_lit : nanB .f64 9221120237041090561 = true := by decide +kernel
theorem narrow_nan (w : World) : av .f32 (cval .f64 9221120237041090561 .f32 w) = none := by
  rw [av_narrow _ w (.inl nan_lit), av_none nan_lit]; rfl
theorem narrow_ninf (w : World) : cval .f64 18442240474082181120 .f32 w = 4286578688 := by
  have : floatToFloatBits .f64 18442240474082181120 .f32 = some 4286578688 := by decide +kernel
  rw [cval, this]; rfl
theorem narrow_inf (w : World) : cval .f64 9218868437227405312 .f32 w = 2139095040 := by
  have : floatToFloatBits .f64 9218868437227405312 .f32 = some 2139095040 := by decide +kernel
  rw [cval, this]; rfl
theorem wide_lit {x y : Nat} (h : floatToFloatBits .f32 x .f64 = some y) (w : World) : cval .f32 x .f64 w = y := by rw [cval, h]; rfl
theorem wide_N {x y : Nat} (h : floatToFloatBits .f32 x .f64 = some y) : cN .f32 x .f64 = 0 := by rw [cN, h]; rfl
theorem implLn_pos (x R : Nat) (w : World) (h : Pos32 x) (hM : Mid R) (hW : ∀ w, cval .f32 x .f64 w = R) (hN : cN .f32 x .f64 = 0) : Calls Try.prog 35 #[.float .f32 x] w (GivesS (acv .f64 .f32 (logA R)) w) := by
  have t1 := pos_eq h
  have t2 := pos_ne h
  have t3 := pos_lt h
  have t4 := fun w => pos_fin h w
  go_enter Try.func35, Try.ntmps35
  go_wp2_with (first | (go_at_call 70; refine (logarithm_any R _ hM).mono ?_; rintro e w' ⟨r, m, hr, rfl, rfl⟩) | go_in)
  go_ret
  exact ⟨_, _, narrow_log hM hr _, rfl, rfl⟩
theorem implLn_neg (x R : Nat) (w : World) (h : Neg32 x) (h0 : 9223372036854775808 < R) (h1 : R ≤ 18442240474082181120) (hW : ∀ w, cval .f32 x .f64 w = R) (hN : cN .f32 x .f64 = 0) : Calls Try.prog 35 #[.float .f32 x] w (GivesS none w) := by
  have t1 := neg_eq h
  have t2 := neg_ne h
  have t3 := neg_lt h
  have t4 := neg64_lt h0 h1
  have t5 := neg64_ne h0 h1
  go_enter Try.func35, Try.ntmps35
  go_wp2_with go_in
  go_ret
  exact ⟨_, _, narrow_nan _, rfl, rfl⟩
theorem implLn_nan (x : Nat) (w : World) (h : nanB .f32 x = true) : Calls Try.prog 35 #[.float .f32 x] w (GivesS none w) := by
  have t1 := nan_eq h
  have t2 := nan_ne h
  have t3 := nan_lt h
  have t4 := fun w => nan_ne (k := .f64) (nan_cval x w h)
  go_enter Try.func35, Try.ntmps35
  go_wp2_with go_in
  go_ret
  exact ⟨_, _, narrow_nan _, rfl, rfl⟩
theorem implLn_zero (w : World) : Calls Try.prog 35 #[.float .f32 0] w (GivesS (av .f32 4286578688) w) := by
  have t1 : (FloatKind.f32.format.order 0 0 == some .eq) = true := by decide +kernel
  have t2 : (FloatKind.f64.format.order 0 0 != some .eq) = false := by decide +kernel
  have t3 : (FloatKind.f64.format.order 0 0 == some .lt) = false := by decide +kernel
  have t4 : (FloatKind.f64.format.order 0 0 == some .eq) = true := by decide +kernel
  have e1 : floatToFloatBits .f32 0 .f64 = some 0 := by decide +kernel
  have v1 := fun w => wide_lit e1 w
  have n1 := wide_N e1
  clear e1
  go_enter Try.func35, Try.ntmps35
  go_wp2_with go_in
  go_ret
  exact ⟨_, _, by rw [narrow_ninf], rfl, rfl⟩
theorem implLn_nzero (w : World) : Calls Try.prog 35 #[.float .f32 2147483648] w (GivesS (av .f32 4286578688) w) := by
  have t1 : (FloatKind.f32.format.order 2147483648 0 == some .eq) = true := by decide +kernel
  have t2 : (FloatKind.f64.format.order 9223372036854775808 9223372036854775808 != some .eq) = false := by decide +kernel
  have t3 : (FloatKind.f64.format.order 9223372036854775808 0 == some .lt) = false := by decide +kernel
  have t4 : (FloatKind.f64.format.order 9223372036854775808 0 == some .eq) = true := by decide +kernel
  have e1 : floatToFloatBits .f32 2147483648 .f64 = some 9223372036854775808 := by decide +kernel
  have v1 := fun w => wide_lit e1 w
  have n1 := wide_N e1
  clear e1
  go_enter Try.func35, Try.ntmps35
  go_wp2_with go_in
  go_ret
  exact ⟨_, _, by rw [narrow_ninf], rfl, rfl⟩
theorem implLn_inf (w : World) : Calls Try.prog 35 #[.float .f32 2139095040] w (GivesS (av .f32 2139095040) w) := by
  have t1 : (FloatKind.f32.format.order 2139095040 0 == some .eq) = false := by decide +kernel
  have t2 : (FloatKind.f32.format.order 2139095040 2139095040 != some .eq) = false := by decide +kernel
  have t3 : (FloatKind.f32.format.order 2139095040 0 == some .lt) = false := by decide +kernel
  have t4 : ∀ w, (FloatKind.f32.format.order (fval .sub .f32 2139095040 2139095040 w) 0 == some .eq) = false := fun w => by
    have : finB .f32 2139095040 = false := by decide +kernel
    rw [fin_walk, this]
  have t5 : (FloatKind.f64.format.order 9218868437227405312 9218868437227405312 != some .eq) = false := by decide +kernel
  have t6 : (FloatKind.f64.format.order 9218868437227405312 0 == some .lt) = false := by decide +kernel
  have t7 : (FloatKind.f64.format.order 9218868437227405312 0 == some .eq) = false := by decide +kernel
  have t8 : (FloatKind.f64.format.order 9218868437227405312 9218868437227405311 == some .gt) = true := by decide +kernel
  have e1 : floatToFloatBits .f32 2139095040 .f64 = some 9218868437227405312 := by decide +kernel
  have v1 := fun w => wide_lit e1 w
  have n1 := wide_N e1
  clear e1
  go_enter Try.func35, Try.ntmps35
  go_wp2_with go_in
  go_ret
  exact ⟨_, _, rfl, rfl, rfl⟩
theorem specLn_pos (x R : Nat) (w : World) (h : Pos32 x) (hM : Mid R) (hW : ∀ w, cval .f32 x .f64 w = R) (hN : cN .f32 x .f64 = 0) : Calls Try.prog 38 #[.float .f32 x] w (GivesS (acv .f64 .f32 (logA R)) w) := by
  have t1 := pos_eq h
  have t2 := pos_ne h
  have t3 := pos_lt h
  have t4 := fun w => pos_fin h w
  go_enter Try.func38, Try.ntmps38
  go_wp2_with (first | (go_at_call 95; refine (l01LogWide_any R _ hM).mono ?_; rintro e w' ⟨r, m, hr, rfl, rfl⟩) | go_in)
  go_ret
  exact ⟨_, _, narrow_log hM hr _, rfl, rfl⟩
theorem specLn_neg (x R : Nat) (w : World) (h : Neg32 x) (h0 : 9223372036854775808 < R) (h1 : R ≤ 18442240474082181120) (hW : ∀ w, cval .f32 x .f64 w = R) (hN : cN .f32 x .f64 = 0) : Calls Try.prog 38 #[.float .f32 x] w (GivesS none w) := by
  have t1 := neg_eq h
  have t2 := neg_ne h
  have t3 := neg_lt h
  have t4 := neg64_lt h0 h1
  have t5 := neg64_ne h0 h1
  go_enter Try.func38, Try.ntmps38
  go_wp2_with go_in
  go_ret
  exact ⟨_, _, narrow_nan _, rfl, rfl⟩
theorem specLn_nan (x : Nat) (w : World) (h : nanB .f32 x = true) : Calls Try.prog 38 #[.float .f32 x] w (GivesS none w) := by
  have t1 := nan_eq h
  have t2 := nan_ne h
  have t3 := nan_lt h
  have t4 := fun w => nan_ne (k := .f64) (nan_cval x w h)
  go_enter Try.func38, Try.ntmps38
  go_wp2_with go_in
  go_ret
  exact ⟨_, _, narrow_nan _, rfl, rfl⟩
theorem specLn_zero (w : World) : Calls Try.prog 38 #[.float .f32 0] w (GivesS (av .f32 4286578688) w) := by
  have t1 : (FloatKind.f32.format.order 0 0 == some .eq) = true := by decide +kernel
  have t2 : (FloatKind.f64.format.order 0 0 != some .eq) = false := by decide +kernel
  have t3 : (FloatKind.f64.format.order 0 0 == some .lt) = false := by decide +kernel
  have t4 : (FloatKind.f64.format.order 0 0 == some .eq) = true := by decide +kernel
  have e1 : floatToFloatBits .f32 0 .f64 = some 0 := by decide +kernel
  have v1 := fun w => wide_lit e1 w
  have n1 := wide_N e1
  clear e1
  go_enter Try.func38, Try.ntmps38
  go_wp2_with go_in
  go_ret
  exact ⟨_, _, by rw [narrow_ninf], rfl, rfl⟩
theorem specLn_nzero (w : World) : Calls Try.prog 38 #[.float .f32 2147483648] w (GivesS (av .f32 4286578688) w) := by
  have t1 : (FloatKind.f32.format.order 2147483648 0 == some .eq) = true := by decide +kernel
  have t2 : (FloatKind.f64.format.order 9223372036854775808 9223372036854775808 != some .eq) = false := by decide +kernel
  have t3 : (FloatKind.f64.format.order 9223372036854775808 0 == some .lt) = false := by decide +kernel
  have t4 : (FloatKind.f64.format.order 9223372036854775808 0 == some .eq) = true := by decide +kernel
  have e1 : floatToFloatBits .f32 2147483648 .f64 = some 9223372036854775808 := by decide +kernel
  have v1 := fun w => wide_lit e1 w
  have n1 := wide_N e1
  clear e1
  go_enter Try.func38, Try.ntmps38
  go_wp2_with go_in
  go_ret
  exact ⟨_, _, by rw [narrow_ninf], rfl, rfl⟩
theorem specLn_inf (w : World) : Calls Try.prog 38 #[.float .f32 2139095040] w (GivesS (av .f32 2139095040) w) := by
  have t1 : (FloatKind.f32.format.order 2139095040 0 == some .eq) = false := by decide +kernel
  have t2 : (FloatKind.f32.format.order 2139095040 2139095040 != some .eq) = false := by decide +kernel
  have t3 : (FloatKind.f32.format.order 2139095040 0 == some .lt) = false := by decide +kernel
  have t4 : ∀ w, (FloatKind.f32.format.order (fval .sub .f32 2139095040 2139095040 w) 0 == some .eq) = false := fun w => by
    have : finB .f32 2139095040 = false := by decide +kernel
    rw [fin_walk, this]
  have t5 : (FloatKind.f64.format.order 9218868437227405312 9218868437227405312 != some .eq) = false := by decide +kernel
  have t6 : (FloatKind.f64.format.order 9218868437227405312 0 == some .lt) = false := by decide +kernel
  have t7 : (FloatKind.f64.format.order 9218868437227405312 0 == some .eq) = false := by decide +kernel
  have t8 : (FloatKind.f64.format.order 9218868437227405312 9218868437227405311 == some .gt) = true := by decide +kernel
  have e1 : floatToFloatBits .f32 2139095040 .f64 = some 9218868437227405312 := by decide +kernel
  have v1 := fun w => wide_lit e1 w
  have n1 := wide_N e1
  clear e1
  go_enter Try.func38, Try.ntmps38
  go_wp2_with go_in
  go_ret
  exact ⟨_, _, by rw [narrow_inf], rfl, rfl⟩
end Go.Proofs.Ytopfeilfgbcihaa
