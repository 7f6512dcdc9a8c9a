/- Plain facts on IEEE words: a 32-bit number widened to 64 bits. No program in sight. -/
import Derived.Test.YtopfeilfgbcihaaNear
namespace Go.Proofs.Ytopfeilfgbcihaa
open Ieee

theorem least_s : single.leastPlace = -149 := by decide
theorem least_d : double.leastPlace = -1074 := by decide
theorem bin_s : single.binade = 8388608 := by decide
theorem bin_d : double.binade = 4503599627370496 := by decide
theorem inf_s : single.infRung = 2139095040 := by decide
theorem inf_d : double.infRung = 9218868437227405312 := by decide
theorem sw_s : single.signWeight = 2147483648 := by decide
theorem sw_d : double.signWeight = 9223372036854775808 := by decide

/-- A number with few digits in the middle of the 64-bit format is of that format. -/
theorem has_double (m k : Nat) (hm : m < 2 ^ 53) (hk : k ≤ 1900) : ∃ R, R < double.infRung ∧ rungVal double R = m * 2 ^ k := by
  by_cases h0 : m = 0
  · subst h0
    exact ⟨0, by rw [inf_d]; omega, by unfold rungVal; rw [if_pos (bin_pos _)]; simp⟩
  have hlo := Nat.log2_self_le h0
  have hhi : m < 2 ^ (m.log2 + 1) := Nat.lt_log2_self
  have hl : m.log2 ≤ 52 := by
    have : m.log2 < 53 := (Nat.log2_lt h0).2 hm
    omega
  rcases Nat.le_total (52 - m.log2) k with h | h
  · -- normal
    have hq1 : m * 2 ^ (52 - m.log2) < 2 ^ 53 := by
      have : m * 2 ^ (52 - m.log2) < 2 ^ (m.log2 + 1) * 2 ^ (52 - m.log2) := Nat.mul_lt_mul_of_pos_right hhi (Nat.two_pow_pos _)
      rw [← Nat.pow_add, show m.log2 + 1 + (52 - m.log2) = 53 by omega] at this
      exact this
    have hq2 : 2 ^ 52 ≤ m * 2 ^ (52 - m.log2) := by
      have : 2 ^ m.log2 * 2 ^ (52 - m.log2) ≤ m * 2 ^ (52 - m.log2) := Nat.mul_le_mul_right _ hlo
      rw [← Nat.pow_add, show m.log2 + (52 - m.log2) = 52 by omega] at this
      exact this
    refine ⟨(k - (52 - m.log2)) * double.binade + m * 2 ^ (52 - m.log2), ?_, ?_⟩
    · rw [inf_d, bin_d]; omega
    · rw [rungVal_kq double _ _ (by rw [bin_d]; omega) (fun _ => by rw [bin_d]; omega), Nat.mul_assoc, ← Nat.pow_add]
      congr 2; omega
  · have hq1 : m * 2 ^ k < 2 ^ 53 := by
      have h1 : m * 2 ^ k < 2 ^ (m.log2 + 1) * 2 ^ k := Nat.mul_lt_mul_of_pos_right hhi (Nat.two_pow_pos _)
      rw [← Nat.pow_add] at h1
      have h2 : 2 ^ (m.log2 + 1 + k) ≤ 2 ^ 53 := Nat.pow_le_pow_right (by decide) (by omega)
      omega
    refine ⟨m * 2 ^ k, by rw [inf_d]; omega, ?_⟩
    have := rungVal_kq double 0 (m * 2 ^ k) (by rw [bin_d]; omega) (by omega)
    simpa using this

theorem rung_of_small {r : Nat} (hr : r < single.infRung) : ∃ m k, m < 2 ^ 24 ∧ k ≤ 253 ∧ rungVal single r = m * 2 ^ k := by
  rw [inf_s] at hr
  rcases rung_split single r with h | ⟨q, t, ht, rfl⟩
  · refine ⟨r, 0, by rw [bin_s] at h; omega, by omega, by unfold rungVal; rw [if_pos h]; simp⟩
  · refine ⟨single.binade + t, q, by rw [bin_s] at *; omega, by rw [bin_s] at *; omega, rungVal_block single q t ht⟩

/-- THE WIDENED NUMBER. -/
theorem widen (x : Nat) (hx : nanB .f32 x = false) : ∃ R, floatToFloatBits .f32 x .f64 = some (double.word (sgn single x) R) ∧ R ≤ double.infRung ∧
    (rng single x < single.infRung → R < double.infRung ∧ rungVal double R = rungVal single (rng single x) * 2 ^ 925) ∧ (rng single x = single.infRung → R = double.infRung) := by
  rw [nanB_rng, decide_eq_false_iff_not] at hx
  have hf := fair_double
  have hlow := hf.low
  have hsum := hf.sum
  have hb := bin_pos double
  have hdec : FloatKind.f32.decode x = readRung single (sgn single x) (rng single x) := rfl
  unfold floatToFloatBits
  rw [if_neg (by decide), hdec]
  rcases Nat.lt_or_ge (rng single x) single.infRung with h | h
  · obtain ⟨m, k, e, v, hm⟩ := readRung_fin single (sgn single x) (rng single x) h
    obtain ⟨m', k', hm', hk', v'⟩ := rung_of_small h
    obtain ⟨R, hR, hv⟩ := has_double m' (k' + 925) (by omega) (by omega)
    have hvR : rungVal double R = rungVal single (rng single x) * 2 ^ 925 := by rw [hv, v', Nat.pow_add, Nat.mul_assoc]
    have hnear : double.nearest (sgn single x) m (single.leastPlace + (k : Int)) = double.word (sgn single x) R := by
      refine nearest_exact (sgn single x) m _ (-1074) R (by rw [least_s]; omega) (by rw [least_d]; omega) (by omega) ?_
      rw [hvR, ← v, least_s, least_d]
      have e1 : (-149 + (k : Int) - -1074).toNat = k + 925 := by omega
      have e2 : ((-1074 : Int) - -1074).toNat = 0 := by decide
      rw [e1, e2, Nat.pow_zero, Nat.mul_one, Nat.pow_add, Nat.mul_assoc]
    have hnot : (FloatKind.f64.decode (FloatKind.f64.encode (.number (sgn single x) m (single.leastPlace + (k : Int))))).isInfinity = false := by
      show (double.read (double.nearest _ _ _)).isInfinity = false
      rw [hnear, read_word double _ R (by omega)]
      obtain ⟨a, b, e', _⟩ := readRung_fin double (sgn single x) R hR
      rw [e']; rfl
    refine ⟨R, ?_, by omega, fun _ => ⟨hR, hvR⟩, fun h' => by omega⟩
    rw [e]
    show (if _ then none else some (double.nearest _ _ _)) = _
    rw [if_neg (by rw [hnot]; decide), hnear]
  · have he : rng single x = single.infRung := by
      have : FloatKind.f32.format = single := rfl
      rw [this] at hx; omega
    refine ⟨double.infRung, ?_, Nat.le_refl _, fun h' => by omega, fun _ => rfl⟩
    rw [he, readRung_inf single fair_single]
    rfl

theorem widen_ok (x : Nat) : nanB .f32 x = true ∨ (floatToFloatBits .f32 x .f64).isSome = true := by
  by_cases h : nanB .f32 x = true
  · exact .inl h
  · obtain ⟨R, e, _⟩ := widen x (by simpa using h)
    exact .inr (by rw [e]; rfl)
/-- Widening never overflows: what it gives up to the choice of a NaN. -/
theorem av_wide (x : Nat) (w : World) : av .f64 (cval .f32 x .f64 w) = acv .f32 .f64 (av .f32 x) := av_cval .f32 .f64 x w (by decide) (widen_ok x)

/-- The widened number itself, of a number that is no NaN. -/
theorem cval_wide (x : Nat) (w : World) (hx : nanB .f32 x = false) : ∃ R, cval .f32 x .f64 w = double.word (sgn single x) R ∧ cN .f32 x .f64 = 0 ∧ R ≤ double.infRung ∧
    (rng single x < single.infRung → R < double.infRung ∧ rungVal double R = rungVal single (rng single x) * 2 ^ 925) ∧ (rng single x = single.infRung → R = double.infRung) := by
  obtain ⟨R, e, h⟩ := widen x hx
  exact ⟨R, by rw [cval, e]; rfl, by rw [cN, e]; rfl, h⟩

theorem word_sign (neg : Bool) (R : Nat) : double.word neg R = (if neg then 9223372036854775808 + R else R) := by
  unfold Format.word; rw [sw_d]

theorem pow_sum (a b c : Nat) (h : c = a + b) : (2 : Nat) ^ c = 2 ^ a * 2 ^ b := by rw [h, Nat.pow_add]
theorem rungVal_two23 : rungVal single 8388608 = 8388608 := by decide
theorem rungVal_948 : rungVal double 4039728865751334912 = 2 ^ 948 := by
  have := rungVal_kq double 896 4503599627370496 (by rw [bin_d]; omega) (fun _ => by rw [bin_d]; omega)
  rw [bin_d] at this
  rw [show 4039728865751334912 = 896 * 4503599627370496 + 4503599627370496 by omega, this, pow_sum 52 896 948 rfl, show (2 : Nat) ^ 52 = 4503599627370496 by decide]

/-- Is a widened magnitude less than 2^-126? -/
theorem small_iff (x R : Nat) (hR : rungVal double R = rungVal single (rng single x) * 2 ^ 925) : R < 4039728865751334912 ↔ rng single x < 8388608 := by
  have h1 : R < 4039728865751334912 ↔ rungVal double R < 2 ^ 948 := by
    rw [← rungVal_948]
    exact ⟨fun h => rungVal_lt double h, fun h => Nat.lt_of_not_le fun h' => by have := rungVal_le double h'; omega⟩
  have h2 : rng single x < 8388608 ↔ rungVal single (rng single x) < 8388608 := by
    conv => rhs; rw [← rungVal_two23]
    exact ⟨fun h => rungVal_lt single h, fun h => Nat.lt_of_not_le fun h' => by have := rungVal_le single h'; omega⟩
  rw [h1, h2, hR, pow_sum 23 925 948 rfl, show (2 : Nat) ^ 23 = 8388608 by decide]
  have hp := Nat.two_pow_pos 925
  revert hp
  generalize 2 ^ 925 = W
  intro hp
  exact ⟨fun h => Nat.lt_of_mul_lt_mul_right h, fun h => Nat.mul_lt_mul_of_pos_right h hp⟩

end Go.Proofs.Ytopfeilfgbcihaa
