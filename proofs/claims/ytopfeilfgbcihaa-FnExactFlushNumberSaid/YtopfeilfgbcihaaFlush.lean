/- Plain facts on IEEE words: flushing a subnormal number to a zero of its sign. No program in sight. -/
import Derived.Test.YtopfeilfgbcihaaSub
namespace Go.Proofs.Ytopfeilfgbcihaa
open Ieee

/-- A zero of a number's sign, where the number's exponent field is 0; else the number. -/
def flushN (x : Nat) : Nat := if rng single x < 8388608 then (if sgn single x then 2147483648 else 0) else x

theorem nat_and_top (x n : Nat) (h : x < 2 ^ (n + 1)) : x &&& 2 ^ n = if x / 2 ^ n % 2 == 1 then 2 ^ n else 0 := by
  rw [nat_bit]
  have hd : x / 2 ^ n < 2 := Nat.div_lt_of_lt_mul (by rw [Nat.mul_comm, ← Nat.pow_succ']; exact h)
  rcases (by revert hd; generalize x / 2 ^ n = q; omega : x / 2 ^ n = 0 ∨ x / 2 ^ n = 1) with e | e <;> rw [e] <;> simp

theorem test_spec (x : Nat) (hx : x < 4294967296) : (bits .and .i64 (bitsZ x) 2139095040 == 0) = decide (rng single x < 8388608) := by
  have hl := bitsN_lt hx
  have e := and_i64 (bitsN x) 2139095040 (by omega) (by omega)
  rw [show ((2139095040 : Nat) : Int) = 2139095040 from rfl] at e
  unfold bitsZ
  rw [e, mask23]
  have e0 : (((bitsN x / 8388608 % 256 * 8388608 : Nat) : Int) == 0) = decide (bitsN x / 8388608 % 256 = 0) := by
    by_cases h : bitsN x / 8388608 % 256 = 0
    · simp [h]
    · rw [decide_eq_false h, beq_eq_false_iff_ne]; omega
  rw [e0]
  have hr : rng single x = x % 2147483648 := by unfold rng; rw [sw_s]
  by_cases h : nanB .f32 x = true
  · have hb : bitsN x = 2143289344 := by unfold bitsN; rw [h]; rfl
    rw [hb]
    rw [nanB_rng, decide_eq_true_eq, f32_fmt, inf_s] at h
    have : ¬ rng single x < 8388608 := by omega
    simp [this]
  · have hb : bitsN x = x := by unfold bitsN; rw [if_neg h]
    rw [hb]
    exact decide_eq_decide.2 (by rw [hr]; omega)

theorem not_nan_small {x : Nat} (h : rng single x < 8388608) : nanB .f32 x = false := by
  rw [nanB_rng, decide_eq_false_iff_not, f32_fmt, inf_s]; omega

/-- The reference's zero. -/
theorem zero_spec (x : Nat) (hx : x < 4294967296) (h : rng single x < 8388608) : (bits .and .i64 (bitsZ x) 2147483648 % 4294967296).toNat = if sgn single x then 2147483648 else 0 := by
  have hn := not_nan_small h
  have hb : bitsZ x = x := by rw [bitsZ_eq, hn]; rfl
  have e := and_i64 x 2147483648 (by omega) (by omega)
  rw [show ((2147483648 : Nat) : Int) = 2147483648 from rfl] at e
  rw [hb, e, show (2147483648 : Nat) = 2 ^ 31 by decide, nat_and_top x 31 (by omega)]
  unfold sgn
  rw [sw_s, show (2147483648 : Nat) = 2 ^ 31 by decide]
  split <;> rfl

/-- The program's zero: 64 bits of it. -/
theorem zero_impl (x : Nat) (w : World) (h : nanB .f32 x = false) :
    (bits .or .u64 (bits .andNot .u64 0 9223372036854775808) (bits .and .u64 (cval .f32 x .f64 w : Int) 9223372036854775808)).toNat = if sgn single x then 9223372036854775808 else 0 := by
  obtain ⟨R, e, _, hR, _⟩ := cval_wide x w h
  have hRs : R < 9223372036854775808 := by rw [inf_d] at hR; omega
  have hlt := cval_lt x w
  have e1 : bits .andNot .u64 0 9223372036854775808 = 0 := by decide
  have e2 := u64_and_nat (cval .f32 x .f64 w) 9223372036854775808 hlt (by omega)
  rw [show ((9223372036854775808 : Nat) : Int) = 9223372036854775808 from rfl] at e2
  have e3 : cval .f32 x .f64 w &&& 9223372036854775808 = if sgn single x then 9223372036854775808 else 0 := by
    rw [show (9223372036854775808 : Nat) = 2 ^ 63 by decide, nat_and_top _ 63 (by omega), e, word_sign, show (9223372036854775808 : Nat) = 2 ^ 63 by decide]
    cases sgn single x
    · simp [Nat.div_eq_of_lt (show R < 2 ^ 63 by omega)]
    · simp; omega
  rw [e1, e2, e3]
  have e4 := u64_or_nat 0 (if sgn single x then 9223372036854775808 else 0) (by omega) (by split <;> omega)
  rw [show ((0 : Nat) : Int) = 0 from rfl] at e4
  rw [e4]
  simp

theorem narrow_zero (s : Bool) (w : World) : cval .f64 (if s then 9223372036854775808 else 0) .f32 w = if s then 2147483648 else 0 := by
  cases s
  · have : floatToFloatBits .f64 0 .f32 = some 0 := by decide
    simp [cval, this]
  · have : floatToFloatBits .f64 9223372036854775808 .f32 = some 2147483648 := by decide
    simp [cval, this]
theorem narrow_zeroN (s : Bool) : cN .f64 (if s then 9223372036854775808 else 0) .f32 = 0 := by
  cases s
  · have : floatToFloatBits .f64 0 .f32 = some 0 := by decide
    simp [cN, this, fdraw]
  · have : floatToFloatBits .f64 9223372036854775808 .f32 = some 2147483648 := by decide
    simp [cN, this, fdraw]

theorem flush_big {x : Nat} (h : ¬ rng single x < 8388608) : flushN x = x := by unfold flushN; rw [if_neg h]
theorem flush_small {x : Nat} (h : rng single x < 8388608) : flushN x = if sgn single x then 2147483648 else 0 := by unfold flushN; rw [if_pos h]
theorem flush_zero {x : Nat} (hx : x < 4294967296) (h : rng single x = 0) : flushN x = x := by
  rw [flush_small (by omega)]
  have e := word_eq single x (by rw [sw_s]; omega)
  change x = single.word (sgn single x) (rng single x) at e
  rw [h] at e
  unfold Format.word at e
  rw [sw_s] at e
  cases hs : sgn single x <;> simp [hs] at e ⊢ <;> omega

end Go.Proofs.Ytopfeilfgbcihaa
