/- SineTurns: both sides. -/
import Derived.Test.YtopfeilfgbcihaaSin2C
namespace Go.Proofs.Ytopfeilfgbcihaa
open Go.RowKit
set_option linter.unusedVariables false
theorem cvalZ (w : World) : cval .f64 0 .f32 w = 0 := by
  have : floatToFloatBits .f64 0 .f32 = some 0 := by decide +kernel
  rw [cval, this]; rfl
theorem narrow_sin {r : Nat} {f : Option Nat} (h : av .f64 r = sinA f) (b : Bd f 1) (w : World) : av .f32 (cval .f64 r .f32 w) = acv .f64 .f32 (sinA f) := by
  rw [av_narrow, h]
  cases hn : nanB .f64 r with
  | true => exact .inl rfl
  | false =>
    rw [av_some hn] at h
    exact .inr (.inl ((sinA_bd b r h.symm).mono (by omega)))
/-- A finite 32-bit number, widened, that is not huge. -/
theorem wid_small {x W A : Nat} {s z : Bool} (hx : x < 4294967296) (h : Wid x W A s z) (fx : finB .f32 x = true) (hA : A < 4841369599423283200) (hW : W < 18446744073709551616) : Small52 W := by
  have e := h.abs
  rw [abs_bits W hW] at e
  refine ⟨?_, by rw [e]; exact hA⟩
  rw [nanB_rng, f64_fmt, e, inf_d, decide_eq_false_iff_not]; omega
theorem wid_lt {x W A : Nat} {s z : Bool} (h : Wid x W A s z) : W < 18446744073709551616 := by
  have := cval_lt x default
  rw [h.wide] at this
  exact this
theorem implSin_fin (x W A : Nat) (s z : Bool) (n : Int) (w : World) (h : Wid x W A s z) (fx : finB .f32 x = true) (hs : Small52 W) (hA : A < 4841369599423283200) (hT : Trn W n) :
    Calls Try.prog 40 #[.float .f32 x] w (GivesS (acv .f64 .f32 (sinA (f1A W n))) w) := by
  have e1 := h.wide
  have e2 := h.n0
  have e3 := Lib.hid h.abs
  have CS := Lib.hid fun w => sine_any W n w hs.1 hT
  have B1 := Lib.hid (f1_bd hT)
  have t1 := geq_no (X := A) (Y := 4841369599423283200) h.hA (by omega) hA
  clear h hs hT hA
  go_enter Try.func40, Try.ntmps40
  go_wp2_with (first | (go_at_call 79; refine (abs_any _ _ _ e3.out).mono ?_; rintro e w' ⟨rfl, rfl⟩) | (go_at_call 76; refine (CS.out _).mono ?_; rintro e w' ⟨r, m, hr, rfl, rfl⟩) | go_in)
  go_ret
  exact ⟨_, _, narrow_sin hr B1.out _, rfl, rfl⟩
theorem implSin_huge (x W A : Nat) (s z : Bool) (w : World) (h : Wid x W A s z) (fx : finB .f32 x = true) (hA : ¬ A < 4841369599423283200) :
    Calls Try.prog 40 #[.float .f32 x] w (GivesS (av .f32 0) w) := by
  have e1 := h.wide
  have e2 := h.n0
  have e3 := Lib.hid h.abs
  have t1 := geq_yes (X := A) (Y := 4841369599423283200) h.hA (by omega) (by omega)
  clear h hA
  go_enter Try.func40, Try.ntmps40
  go_wp2_with (first | (go_at_call 79; refine (abs_any _ _ _ e3.out).mono ?_; rintro e w' ⟨rfl, rfl⟩) | go_in)
  go_ret
  exact ⟨_, _, rfl, rfl, rfl⟩
theorem implSin_not (x : Nat) (w : World) (fx : finB .f32 x = false) :
    Calls Try.prog 40 #[.float .f32 x] w (GivesS none w) := by
  go_enter Try.func40, Try.ntmps40
  go_wp2_with go_in
  go_ret
  exact ⟨_, _, narrow_nan _, rfl, rfl⟩
theorem specSin_fin (x W A : Nat) (s z : Bool) (n : Int) (w : World) (h : Wid x W A s z) (hs : Small52 W) (hT : Trn W n) :
    Calls Try.prog 39 #[.float .f32 x] w (GivesS (acv .f64 .f32 (sinA (f1A W n))) w) := by
  have e1 := h.wide
  have e2 := h.n0
  have CS := Lib.hid fun w => l01SineWide_any W n w hs hT
  have B1 := Lib.hid (f1_bd hT)
  clear h hs hT
  go_enter Try.func39, Try.ntmps39
  go_wp2_with (first | (go_at_call 96; refine (CS.out _).mono ?_; rintro e w' ⟨r, m, hr, rfl, rfl⟩) | go_in)
  go_ret
  exact ⟨_, _, narrow_sin hr B1.out _, rfl, rfl⟩
theorem specSin_huge (x W A : Nat) (s z : Bool) (w : World) (h : Wid x W A s z) (hA : ¬ A < 4841369599423283200) :
    Calls Try.prog 39 #[.float .f32 x] w (GivesS (av .f32 0) w) := by
  have e1 := h.wide
  have e2 := h.n0
  have a1 := fun w => fin_same h.fin64 w
  have hW := wid_lt h
  have e := h.abs
  rw [abs_bits W hW] at e
  have hnan : nanB .f64 W = false := by
    have := h.hA
    rw [nanB_rng, f64_fmt, e, inf_d, decide_eq_false_iff_not]; omega
  have hA0 : 4841369599423283200 ≤ A := by omega
  cases hs : sgn Ieee.double W with
  | false =>
    have t1 : (FloatKind.f64.format.order W 4841369599423283200 == some .gt || FloatKind.f64.format.order W 4841369599423283200 == some .eq) = true := by
      have hsr : sr Ieee.double W = A := by unfold sr; rw [hs, e]; rfl
      rw [order_sr .f64 W _ hnan (nan_small (by omega)), f64_fmt, sr_52, hsr]
      rcases Int.lt_trichotomy (A : Int) 4841369599423283200 with q | q | q
      · omega
      · rw [q]; rfl
      · rw [cmp_gt q]; rfl
    clear h hA e hs hnan hA0 hW
    go_enter Try.func39, Try.ntmps39
    go_wp2_with go_in
    go_ret
    exact ⟨_, _, by rw [cvalZ], rfl, rfl⟩
  | true =>
    have hsr : sr Ieee.double W = -(A : Int) := by unfold sr; rw [hs, e, if_pos rfl]
    have t1 : (FloatKind.f64.format.order W 4841369599423283200 == some .gt || FloatKind.f64.format.order W 4841369599423283200 == some .eq) = false := by
      rw [order_sr .f64 W _ hnan (nan_small (by omega)), f64_fmt, sr_52, hsr, cmp_ltI (by omega)]; rfl
    have t2 : (FloatKind.f64.format.order W 14064741636278059008 == some .lt || FloatKind.f64.format.order W 14064741636278059008 == some .eq) = true := by
      rw [order_sr .f64 W _ hnan n52n_, f64_fmt, sr_52n, hsr]
      rcases Int.lt_trichotomy (A : Int) 4841369599423283200 with q | q | q
      · omega
      · rw [q]; rfl
      · rw [cmp_ltI (by omega)]; rfl
    clear h hA e hs hnan hA0 hW hsr
    go_enter Try.func39, Try.ntmps39
    go_wp2_with go_in
    go_ret
    exact ⟨_, _, by rw [cvalZ], rfl, rfl⟩
theorem specSin_not (x : Nat) (w : World) (hx : x < 4294967296) (fx : finB .f32 x = false) :
    Calls Try.prog 39 #[.float .f32 x] w (GivesS none w) := by
  have e6 := fun w w1 => fin_not (not_fin x hx fx w1) w
  clear hx fx
  go_enter Try.func39, Try.ntmps39
  go_wp2_with go_in
  go_ret
  exact ⟨_, _, narrow_nan _, rfl, rfl⟩
end Go.Proofs.Ytopfeilfgbcihaa
