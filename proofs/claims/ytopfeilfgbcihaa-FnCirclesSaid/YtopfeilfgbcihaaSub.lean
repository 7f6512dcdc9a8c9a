/- Plain facts on IEEE words: subnormal numbers, absolute values, masks. No program in sight. -/
import Derived.Test.YtopfeilfgbcihaaSame
import Derived.Laws.BitsAllLaws
import Derived.IntWalk
namespace Go.Proofs.Ytopfeilfgbcihaa
open Ieee

theorem and_i64 (a b : Nat) (ha : a < 9223372036854775808) (hb : b < 9223372036854775808) : bits .and .i64 (a : Int) (b : Int) = ((a &&& b : Nat) : Int) := by
  have h1 : (BitVec.ofInt 64 (a : Int)).toNat = a := by
    rw [BitVec.ofInt_natCast, BitVec.toNat_ofNat]; exact Nat.mod_eq_of_lt (by omega)
  have h2 : (BitVec.ofInt 64 (b : Int)).toNat = b := by
    rw [BitVec.ofInt_natCast, BitVec.toNat_ofNat]; exact Nat.mod_eq_of_lt (by omega)
  show IntKind.i64.wrap ((BitVec.ofInt 64 (a : Int) &&& BitVec.ofInt 64 (b : Int)).toNat : Int) = _
  have hle : a &&& b ≤ a := Nat.and_le_left
  rw [BitVec.toNat_and, h1, h2, IntWalk.i64_in _ ⟨by omega, by omega⟩]

theorem mask23 (a : Nat) : a &&& 2139095040 = a / 8388608 % 256 * 8388608 := by
  have e1 : a / 8388608 = a >>> 23 := (Nat.shiftRight_eq_div_pow a 23).symm
  have e2 : a / 8388608 % 256 = a >>> 23 &&& 255 := by rw [e1]; exact (Nat.and_two_pow_sub_one_eq_mod _ 8).symm
  have e3 : a / 8388608 % 256 * 8388608 = (a >>> 23 &&& 255) <<< 23 := by rw [e2, Nat.shiftLeft_eq]
  rw [e3, show (2139095040 : Nat) = 255 <<< 23 by decide]
  apply Nat.eq_of_testBit_eq
  intro i
  simp only [Nat.testBit_and, Nat.testBit_shiftLeft, Nat.testBit_shiftRight]
  by_cases h : 23 ≤ i
  · simp [h, show 23 + (i - 23) = i by omega]
  · simp [h]

/-- Is a number subnormal? -/
def subB (x : Nat) : Bool := decide (0 < rng single x ∧ rng single x < 8388608)

theorem sr_zero (f : Format) : sr f 0 = 0 := by simp [sr, rng, sgn]
theorem sr_eq_zero (f : Format) (x : Nat) : sr f x = 0 ↔ rng f x = 0 := by unfold sr; split <;> omega

/-- The test against zero. -/
theorem is_zero (k : FloatKind) (x : Nat) (hx : nanB k x = false) : (k.format.order x 0 == some .eq) = decide (rng k.format x = 0) := by
  have hz := sr_eq_zero k.format x
  rw [order_sr k x 0 hx (nan_zero k), sr_zero]
  simp only [compare, compareOfLessAndEq]
  by_cases h : sr k.format x = 0
  · simp [h, hz.1 h]
  · have h' : ¬ rng k.format x = 0 := fun e => h (hz.2 e)
    by_cases h2 : sr k.format x < 0 <;> simp [h, h2, h']

theorem rng_lt (f : Format) (x : Nat) : rng f x < f.signWeight := Nat.mod_lt _ (sw_pos f)
theorem rng_rng (f : Format) (x : Nat) : rng f (rng f x) = rng f x := Nat.mod_eq_of_lt (rng_lt f x)
theorem sgn_rng (f : Format) (x : Nat) : sgn f (rng f x) = false := by
  unfold sgn; rw [Nat.div_eq_of_lt (rng_lt f x)]; rfl

/-- The absolute value by bits. -/
theorem abs_bits (a : Nat) (h : a < 18446744073709551616) : (bits .andNot .u64 (a : Int) 9223372036854775808).toNat = rng double a := by
  have e := u64_andNot_nat a 9223372036854775808 h (by omega)
  rw [show ((9223372036854775808 : Nat) : Int) = 9223372036854775808 from rfl] at e
  rw [e, Int.toNat_natCast]
  show a &&& (2 ^ 63 - 1) = _
  rw [Nat.and_two_pow_sub_one_eq_mod]
  unfold rng; rw [sw_d]

theorem fpick_lt64 (x : Nat) (w : World) : fpick (.nanConv .f64 x) w < 18446744073709551616 := by
  show (w.tape w.drawn _ % 2) * 2 ^ 63 + 0x7ff0000000000000 + 1 + (w.tape w.drawn _ / 2) % (2 ^ 52 - 1) < _
  generalize w.tape w.drawn _ = t
  have hr : t / 2 % (2 ^ 52 - 1) < 2 ^ 52 - 1 := Nat.mod_lt _ (by decide)
  revert hr
  generalize t / 2 % (2 ^ 52 - 1) = r
  rcases Nat.mod_two_eq_zero_or_one t with h | h <;> rw [h] <;> intro hr <;> omega

theorem cval_lt (x : Nat) (w : World) : cval .f32 x .f64 w < 18446744073709551616 := by
  by_cases h : nanB .f32 x = true
  · have hd : ∃ sg t, FloatKind.f32.decode x = .nan sg t := by
      unfold nanB at h
      cases hd : FloatKind.f32.decode x <;> simp_all [Datum.isNaN]
    obtain ⟨sg, t, hd⟩ := hd
    have e : floatToFloatBits .f32 x .f64 = none := by simp [floatToFloatBits, hd]
    unfold cval
    rw [e, Option.getD_none, hd]
    exact fpick_lt64 x w
  · obtain ⟨R, e, _, hR, _⟩ := cval_wide x w (by simpa using h)
    rw [e, word_sign]
    rw [inf_d] at hR
    split <;> omega

theorem nan_cval (x : Nat) (w : World) (h : nanB .f32 x = true) : nanB .f64 (cval .f32 x .f64 w) = true := by
  have := av_wide x w
  rw [av_none h] at this
  unfold av at this
  cases hn : nanB .f64 (cval .f32 x .f64 w)
  · rw [hn] at this; simp [acv] at this
  · rfl

/-- The program's test: the absolute value of the widened number against 2 to the power of -126. -/
theorem abs_small (x : Nat) (w : World) : (FloatKind.f64.format.order (bits .andNot .u64 (cval .f32 x .f64 w : Int) 9223372036854775808).toNat 4039728865751334912 == some .lt) = decide (rng single x < 8388608) := by
  rw [abs_bits _ (cval_lt x w)]
  have hc : nanB .f64 4039728865751334912 = false := by decide +kernel
  by_cases h : nanB .f32 x = true
  · have hn := nan_cval x w h
    rw [nanB_rng] at h hn
    have hn' : nanB .f64 (rng double (cval .f32 x .f64 w)) = true := by rw [nanB_rng, f64_fmt, rng_rng]; exact hn
    rw [(order_none_iff .f64 _ _).2 (.inl hn')]
    rw [f32_fmt, inf_s, decide_eq_true_eq] at h
    have : ¬ rng single x < 8388608 := by omega
    simp [this]
  · have hx : nanB .f32 x = false := by simpa using h
    obtain ⟨R, e, _, hR, hlt, hinf⟩ := cval_wide x w hx
    have hRs : R < double.signWeight := by rw [inf_d] at hR; rw [sw_d]; omega
    rw [e, rng_word double _ R hRs]
    have hRn : nanB .f64 R = false := by
      rw [nanB_rng, f64_fmt]
      have : rng double R = R := Nat.mod_eq_of_lt hRs
      rw [this, decide_eq_false_iff_not]; omega
    rw [order_sr .f64 _ _ hRn hc, f64_fmt]
    have s1 : sr double R = R := by
      have a : sgn double R = false := by unfold sgn; rw [Nat.div_eq_of_lt hRs]; rfl
      have b : rng double R = R := Nat.mod_eq_of_lt hRs
      unfold sr; rw [a, b]; rfl
    have s2 : sr double 4039728865751334912 = 4039728865751334912 := by decide +kernel
    rw [s1, s2]
    have key : (some (compare (R : Int) 4039728865751334912) == some Ordering.lt) = decide (R < 4039728865751334912) := by
      simp only [compare, compareOfLessAndEq]
      by_cases h1 : R < 4039728865751334912
      · rw [if_pos (by omega)]; simp [h1]
      · rw [if_neg (by omega)]
        split <;> simp [h1]
    rw [key]
    rw [nanB_rng, decide_eq_false_iff_not, f32_fmt] at hx
    rcases Nat.lt_or_ge (rng single x) single.infRung with h1 | h1
    · exact decide_eq_decide.2 (small_iff x R (hlt h1).2)
    · have h2 : rng single x = single.infRung := by omega
      rw [hinf h2, h2]; decide +kernel

/-- Is it subnormal? The program's and the reference's tests. -/
theorem sub_impl (x : Nat) (w : World) : (FloatKind.f32.format.order x 0 != some .eq && (FloatKind.f64.format.order (bits .andNot .u64 (cval .f32 x .f64 w : Int) 9223372036854775808).toNat 4039728865751334912 == some .lt)) = subB x := by
  rw [abs_small]
  by_cases h : nanB .f32 x = true
  · rw [(order_none_iff .f32 x 0).2 (.inl h)]
    rw [nanB_rng, decide_eq_true_eq, f32_fmt, inf_s] at h
    have : ¬ rng single x < 8388608 := by omega
    simp [subB, this]
  · have hz := is_zero .f32 x (by simpa using h)
    rw [f32_fmt] at hz ⊢
    rw [bne, hz]
    unfold subB
    by_cases h1 : rng single x = 0 <;> by_cases h2 : rng single x < 8388608 <;> simp [h1, h2] <;> omega

theorem sub_spec (x : Nat) (hx : x < 4294967296) : (FloatKind.f32.format.order x 0 != some .eq && (bits .and .i64 (bitsZ x) 2139095040 == 0)) = subB x := by
  have hl := bitsN_lt hx
  have e := and_i64 (bitsN x) 2139095040 (by omega) (by omega)
  rw [show ((2139095040 : Nat) : Int) = 2139095040 from rfl] at e
  unfold bitsZ
  rw [e, mask23]
  have e0 : (((bitsN x / 8388608 % 256 * 8388608 : Nat) : Int) == 0) = decide (bitsN x / 8388608 % 256 = 0) := by
    by_cases h : bitsN x / 8388608 % 256 = 0
    · simp [h]
    · rw [decide_eq_false h, beq_eq_false_iff_ne]; omega
  rw [e0]
  have hr : rng single x = x % 2147483648 := by unfold rng; rw [sw_s]
  by_cases h : nanB .f32 x = true
  · have hb : bitsN x = 2143289344 := by unfold bitsN; rw [h]; rfl
    rw [hb]
    rw [nanB_rng, decide_eq_true_eq, f32_fmt, inf_s] at h
    have : ¬ rng single x < 8388608 := by omega
    simp [subB, this]
  · have hb : bitsN x = x := by unfold bitsN; rw [if_neg h]
    have hz := is_zero .f32 x (by simpa using h)
    rw [f32_fmt] at hz ⊢
    rw [bne, hz, hb]
    unfold subB
    have key : x / 8388608 % 256 = 0 ↔ rng single x < 8388608 := by rw [hr]; omega
    by_cases h1 : rng single x = 0 <;> by_cases h2 : rng single x < 8388608 <;> simp [h1, h2, key] <;> omega

end Go.Proofs.Ytopfeilfgbcihaa
