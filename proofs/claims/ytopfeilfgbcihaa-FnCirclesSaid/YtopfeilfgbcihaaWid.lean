/- Plain facts on a finite 32-bit number and the number that it is widened to. No program in sight. -/
import Derived.Test.YtopfeilfgbcihaaCls
import Derived.Test.YtopfeilfgbcihaaSub
namespace Go.Proofs.Ytopfeilfgbcihaa
open Ieee
/-- W is x, widened; A its magnitude; s: is it below 0; z: is it 0. -/
structure Wid (x W A : Nat) (s z : Bool) : Prop where
  wide : ∀ w, cval .f32 x .f64 w = W
  n0 : cN .f32 x .f64 = 0
  abs : (bits .andNot .u64 (W : Int) 9223372036854775808).toNat = A
  hA : A < 9218868437227405312
  lt32 : (FloatKind.f32.format.order x 0 == some .lt) = s
  eq32 : (FloatKind.f32.format.order x 0 == some .eq) = z
  lt64 : (FloatKind.f64.format.order W 0 == some .lt) = s
  eq64 : (FloatKind.f64.format.order W 0 == some .eq) = z
  fin64 : finB .f64 W = true
  z0 : z = decide (A = 0)
theorem finB_of {k : FloatKind} {x : Nat} (h : rng k.format x < k.format.infRung) : finB k x = true := by
  obtain ⟨m, p, e, _⟩ := readRung_fin k.format (sgn k.format x) (rng k.format x) h
  unfold finB
  have : k.decode x = readRung k.format (sgn k.format x) (rng k.format x) := rfl
  rw [this, e]
theorem finB_nan {k : FloatKind} {x : Nat} (h : nanB k x = true) : finB k x = false := by
  unfold nanB at h
  unfold finB
  cases hc : k.decode x <;> rw [hc] at h <;> first | rfl | cases h
theorem wid_ok (x : Nat) (hx : x < 4294967296) (h : finB .f32 x = true) : ∃ W A s z, Wid x W A s z := by
  rcases classes x hx with c | rfl | rfl | rfl | c | c
  · rw [finB_nan c] at h; cases h
  · refine ⟨0, 0, false, true, fun w => ?_, ?_, by decide +kernel, by decide, by decide +kernel, by decide +kernel, by decide +kernel, by decide +kernel, by decide +kernel, by decide⟩
    · have e1 : floatToFloatBits .f32 0 .f64 = some 0 := by decide +kernel
      rw [cval, e1]; rfl
    · decide +kernel
  · refine ⟨9223372036854775808, 0, false, true, fun w => ?_, ?_, by decide +kernel, by decide, by decide +kernel, by decide +kernel, by decide +kernel, by decide +kernel, by decide +kernel, by decide⟩
    · have e1 : floatToFloatBits .f32 2147483648 .f64 = some 9223372036854775808 := by decide +kernel
      rw [cval, e1]; rfl
    · decide +kernel
  · have : finB .f32 2139095040 = false := by decide +kernel
    rw [this] at h; cases h
  · obtain ⟨R, hM, hW, hN⟩ := pos_wide c
    have a := hM.lo
    have b := hM.hi
    refine ⟨R, R, false, false, hW, hN, by rw [abs_bits R (by omega), rng_small (by omega)], by omega, pos_lt c, pos_eq c, ?_, ?_, finB_of (by rw [f64_fmt, rng_small (by omega), inf_d]; omega), ?_⟩
    · rw [ord_small (by omega) (by omega), cmp_gt (by omega)]; rfl
    · rw [ord_small (by omega) (by omega), cmp_gt (by omega)]; rfl
    · rw [decide_eq_false (by omega)]
  · obtain ⟨R, h0, h1, hW, hN⟩ := neg_wide c
    have hr : rng double R = R - 9223372036854775808 := by unfold rng; rw [sw_d]; omega
    have hR : R < 18442240474082181120 := by
      rcases Nat.lt_or_ge R 18442240474082181120 with q | q
      · exact q
      · exfalso
        have c1 := c.1
        have c2 := c.2
        obtain ⟨R', e, hR', g1, g2⟩ := widen x (neg_nan c)
        have hlt : rng single x < single.infRung := by
          rcases Nat.lt_or_ge (rng single x) single.infRung with q2 | q2
          · exact q2
          · have e4 : x = 4286578688 := by rw [(neg_parts c).2, inf_s] at q2; omega
            subst e4
            have : finB .f32 4286578688 = false := by decide +kernel
            rw [this] at h; cases h
        have g3 := (g1 hlt).1
        have e5 := hW default
        rw [cval, e] at e5
        have e6 : double.word (sgn single x) R' = R := e5
        rw [(neg_parts c).1, word_sign, if_pos rfl] at e6
        rw [inf_d] at g3
        omega
    refine ⟨R, R - 9223372036854775808, true, false, hW, hN, by rw [abs_bits R (by omega), hr], by omega, neg_lt c, neg_eq c, neg64_lt h0 h1, ?_, finB_of (by rw [f64_fmt, hr, inf_d]; omega), ?_⟩
    · have ⟨a, b⟩ := neg64 h0 h1
      rw [order_sr .f64 R 0 a (nan_zero .f64), f64_fmt, b, sr_zero, cmp_ltI (by omega)]; rfl
    · rw [decide_eq_false (by omega)]
theorem not_fin (x : Nat) (hx : x < 4294967296) (h : finB .f32 x = false) (w : World) : finB .f64 (cval .f32 x .f64 w) = false := by
  rcases classes x hx with c | rfl | rfl | rfl | c | c
  · exact finB_nan (nan_cval x w c)
  · have : finB .f32 0 = true := by decide +kernel
    rw [this] at h; cases h
  · have : finB .f32 2147483648 = true := by decide +kernel
    rw [this] at h; cases h
  · have e1 : floatToFloatBits .f32 2139095040 .f64 = some 9218868437227405312 := by decide +kernel
    have e2 : cval .f32 2139095040 .f64 w = 9218868437227405312 := by rw [cval, e1]; rfl
    rw [e2]; decide +kernel
  · have := finB_of (k := .f32) (x := x) (by rw [f32_fmt, inf_s, (sw32 (by have := c.2; omega)).2]; exact c.2)
    rw [this] at h; cases h
  · have c1 := c.1
    have c2 := c.2
    have e4 : x = 4286578688 := by
      rcases Nat.lt_or_ge x 4286578688 with q | q
      · have := finB_of (k := .f32) (x := x) (by rw [f32_fmt, inf_s, (neg_parts c).2]; omega)
        rw [this] at h; cases h
      · omega
    subst e4
    have e1 : floatToFloatBits .f32 4286578688 .f64 = some 18442240474082181120 := by decide +kernel
    have e2 : cval .f32 4286578688 .f64 w = 18442240474082181120 := by rw [cval, e1]; rfl
    rw [e2]; decide +kernel
end Go.Proofs.Ytopfeilfgbcihaa
