/- Plain facts on 64-bit IEEE words: twice and half of a number; quotients by numbers of at least 1. No program in sight. -/
import Derived.Test.YtopfeilfgbcihaaBound
namespace Go.Proofs.Ytopfeilfgbcihaa
open Ieee
theorem dword (R : Nat) : double.word false R = R := by rw [word_sign]; rfl
theorem sgn_small {X : Nat} (h : X < 9223372036854775808) : sgn double X = false := by
  unfold sgn; rw [sw_d, Nat.div_eq_of_lt h]; rfl
theorem rng_small {X : Nat} (h : X < 9223372036854775808) : rng double X = X := by
  unfold rng; rw [sw_d, Nat.mod_eq_of_lt h]
theorem sr_small {X : Nat} (h : X < 9223372036854775808) : sr double X = X := by
  unfold sr; rw [sgn_small h, rng_small h]; rfl
theorem nan_small {X : Nat} (h : X < 9218868437227405312) : nanB .f64 X = false := by
  rw [nanB_rng, f64_fmt, inf_d, rng_small (by omega), decide_eq_false_iff_not]; omega
/-- The order of two positive numbers is that of their words. -/
theorem ord_small {X Y : Nat} (hX : X < 9218868437227405312) (hY : Y < 9218868437227405312) : FloatKind.f64.format.order X Y = some (compare (X : Int) (Y : Int)) := by
  rw [order_sr .f64 X Y (nan_small hX) (nan_small hY), f64_fmt, sr_small (by omega), sr_small (by omega)]
theorem rung_twice {X : Nat} (h : 4503599627370496 ≤ X) : rungVal double (X + 4503599627370496) = 2 * rungVal double X := by
  rcases rung_split double X with h0 | ⟨q, t, ht, e⟩
  · rw [bin_d] at h0; omega
  · have e2 : X + 4503599627370496 = (q + 1 + 1) * double.binade + t := by rw [e, bin_d]; omega
    rw [e2, e, rungVal_block double (q + 1) t ht, rungVal_block double q t ht, Nat.pow_succ]
    rw [← Nat.mul_assoc, Nat.mul_comm 2]
theorem read_two : double.read 4611686018427387904 = .number false 4503599627370496 (-51) := by decide +kernel
theorem mul_two {X : Nat} (h1 : 4503599627370496 ≤ X) (h2 : X + 4503599627370496 < 9218868437227405312) : floatBits .mul .f64 X 4611686018427387904 = some (X + 4503599627370496) := by
  obtain ⟨m, k, e, v, _⟩ := readRung_fin double false X (by rw [inf_d]; omega)
  have hr : double.read X = .number false m (-1074 + (k : Int)) := by
    rw [read_eq]
    change readRung double (sgn double X) (rng double X) = _
    rw [sgn_small (by omega), rng_small (by omega), e, least_d]
  show ((double.read X).product (double.read 4611686018427387904)).map double.write = _
  rw [hr, read_two]
  show some (double.nearest (false ^^ false) (m * 4503599627370496) (-1074 + (k : Int) + -51)) = _
  congr 1
  rw [nearest_exact (f := double) (false ^^ false) _ _ (-1125) (X + 4503599627370496) (by omega) (by rw [least_d]; omega) (by rw [inf_d]; omega) ?_]
  · exact dword _
  · rw [rung_twice h1, ← v, least_d]
    have e1 : (-1074 + (k : Int) + -51 - -1125).toNat = k := by omega
    have e2 : ((-1074 : Int) - -1125).toNat = 51 := by decide
    rw [e1, e2]
    have e3 : (2 : Nat) ^ 51 = 2251799813685248 := by decide
    rw [e3, Nat.mul_right_comm m]
    generalize m * 2 ^ k = z
    omega
theorem log2_le {m : Nat} (h : m < 2 ^ 53) : m.log2 ≤ 52 := by
  by_cases h0 : m = 0
  · subst h0; decide
  · have := (Nat.log2_lt h0).2 h
    omega
theorem quotient_num (D m n : Nat) (i j : Int) (s t : Bool) (hn : n ≠ 0) : Datum.quotient D (.number s m i) (.number t n j) =
    some (.number (s ^^ t) (2 * (m * 2 ^ (D + n.log2 - m.log2) / n) + (m * 2 ^ (D + n.log2 - m.log2) % n != 0).toNat) (i - j - ((D + n.log2 - m.log2 : Nat) : Int) - 1)) := by
  simp only [Datum.quotient]
  rw [if_neg hn]
  simp only [Nat.shiftLeft_eq]
theorem half_two {X : Nat} (h1 : 2 * 4503599627370496 ≤ X) (h2 : X < 9218868437227405312) : floatBits .quo .f64 X 4611686018427387904 = some (X - 4503599627370496) := by
  obtain ⟨m, k, e, v, hm⟩ := readRung_fin double false X (by rw [inf_d]; omega)
  have hr : double.read X = .number false m (-1074 + (k : Int)) := by
    rw [read_eq]
    change readRung double (sgn double X) (rng double X) = _
    rw [sgn_small (by omega), rng_small (by omega), e, least_d]
  have hv := rung_twice (X := X - 4503599627370496) (by omega)
  rw [show X - 4503599627370496 + 4503599627370496 = X by omega, ← v] at hv
  show ((double.read X).quotient (double.fractionBits + 2) (double.read 4611686018427387904)).map double.write = _
  rw [hr, read_two, quotient_num _ _ _ _ _ _ _ (by decide)]
  have hl : (4503599627370496 : Nat).log2 = 52 := by decide
  have hf : double.fractionBits + 2 = 54 := by decide
  have hm2 := log2_le (m := m) (by rw [bin_d] at hm; omega)
  rw [hl, hf]
  generalize hM : 54 + 52 - m.log2 = M
  have hM2 : 54 ≤ M := by omega
  have e1 : m * 2 ^ M = 4503599627370496 * (m * 2 ^ (M - 52)) := by
    have : (2 : Nat) ^ M = 2 ^ 52 * 2 ^ (M - 52) := by rw [← Nat.pow_add]; congr 1; omega
    have e3 : (2 : Nat) ^ 52 = 4503599627370496 := by decide
    rw [this, e3, Nat.mul_left_comm]
  rw [e1, Nat.mul_div_cancel_left _ (by omega), Nat.mul_mod_right]
  simp only [Option.map_some, Option.some.injEq]
  change double.nearest (false ^^ false) _ _ = _
  rw [show ((0 : Nat) != 0).toNat = 0 from rfl]
  rw [nearest_exact (f := double) (false ^^ false) _ _ (-1074 - (M : Int)) (X - 4503599627370496) (by omega) (by rw [least_d]; omega) (by rw [inf_d]; omega) ?_]
  · exact dword _
  · rw [least_d]
    have e4 : (-1074 + (k : Int) - -51 - (M : Int) - 1 - (-1074 - (M : Int))).toNat = k + 50 := by omega
    have e5 : ((-1074 : Int) - (-1074 - (M : Int))).toNat = M := by omega
    rw [e4, e5, Nat.add_zero]
    have e6 : (2 : Nat) ^ M = 2 ^ (M - 52) * 2 ^ 50 * 4 := by
      rw [← Nat.pow_add, show (4 : Nat) = 2 ^ 2 from rfl, ← Nat.pow_add]; congr 1; omega
    have e7 : (2 : Nat) ^ (k + 50) = 2 ^ k * 2 ^ 50 := Nat.pow_add ..
    rw [e6, e7]
    generalize rungVal double (X - 4503599627370496) = r at *
    have : 2 * (m * 2 ^ (M - 52)) * (2 ^ k * 2 ^ 50) = (m * 2 ^ k) * (2 * (2 ^ (M - 52) * 2 ^ 50)) := by
      rw [Nat.mul_left_comm 2 m, Nat.mul_mul_mul_comm, Nat.mul_assoc 2]
    rw [this, hv, Nat.mul_comm 2 r, Nat.mul_assoc r 2, ← Nat.mul_assoc 2 2, Nat.mul_comm (2 * 2)]
/-- The rung of 1. -/
theorem one_read : double.read 4607182418800017408 = .number false 4503599627370496 (-52) := by decide +kernel
/-- What is written of a quotient, against its divisor. -/
theorem quo_key (m n M : Nat) (hM : 54 + n.log2 - m.log2 = M) (hn : n ≠ 0) : (2 * (m * 2 ^ M / n) + (m * 2 ^ M % n != 0).toNat) * n ≤ 4 * (m * 2 ^ M) := by
  by_cases hm : m = 0
  · subst hm; simp
  · have hbig : n ≤ 2 * (m * 2 ^ M) := by
      have a1 := Nat.lt_log2_self (n := n)
      have a2 := Nat.log2_self_le hm
      by_cases hc : m.log2 ≤ 54 + n.log2
      · have a3 : 2 ^ m.log2 * 2 ^ M = 2 ^ (54 + n.log2) := by rw [← Nat.pow_add]; congr 1; omega
        have a4 := Nat.mul_le_mul_right (2 ^ M) a2
        have a5 : (2 : Nat) ^ (n.log2 + 1) ≤ 2 ^ (54 + n.log2) := Nat.pow_le_pow_right (by decide) (by omega)
        omega
      · have a3 : M = 0 := by omega
        subst a3
        have a5 : (2 : Nat) ^ (n.log2 + 1) ≤ 2 ^ m.log2 := Nat.pow_le_pow_right (by decide) (by omega)
        omega
    have d1 := Nat.div_add_mod (m * 2 ^ M) n
    generalize m * 2 ^ M = dd at *
    have hb : (dd % n != 0).toNat ≤ 1 := by cases (dd % n != 0) <;> decide
    have b1 := Nat.mul_le_mul_right n hb
    rw [Nat.add_mul, Nat.mul_assoc, Nat.mul_comm (dd / n) n]
    omega
/-- A quotient by a number of at least 1. -/
theorem Ble.quo {x y r E : Nat} (hx : Ble x E) (hE : E ≤ 1000) (h0 : rng double y < double.infRung) (h1 : 4607182418800017408 ≤ rng double y) (h : floatBits .quo .f64 x y = some r) : Ble r (E + 1) := by
  obtain ⟨m, k, e, l⟩ := hx.read (by omega)
  obtain ⟨n, k', e', v', _⟩ := readRung_fin double (sgn double y) (rng double y) h0
  have hr : double.read y = .number (sgn double y) n (-1074 + (k' : Int)) := by
    rw [read_eq]
    change readRung double (sgn double y) (rng double y) = _
    rw [e', least_d]
  obtain ⟨N, hN⟩ : ∃ N, N = 1074 := ⟨_, rfl⟩
  have hy1 : 2 ^ N ≤ n * 2 ^ k' := by
    rw [v']
    have := rungVal_le double (show pw 0 ≤ rng double y from h1)
    rw [rungVal_pw, show 1074 + 0 = N by omega] at this
    exact this
  have hn : n ≠ 0 := by
    rintro rfl
    rw [Nat.zero_mul] at hy1
    exact absurd hy1 (Nat.not_le.2 (Nat.two_pow_pos N))
  obtain ⟨d, hd, rfl⟩ := Option.map_eq_some_iff.1 (show ((double.read x).quotient (double.fractionBits + 2) (double.read y)).map double.write = some r from h)
  rw [e, hr, quotient_num _ _ _ _ _ _ _ hn] at hd
  have hf : double.fractionBits + 2 = 54 := by decide
  rw [hf] at hd
  generalize hM : 54 + n.log2 - m.log2 = M at hd
  simp only [Option.some.injEq] at hd
  subst hd
  have key := quo_key m n M hM hn
  refine ble_write _ _ _ (E + 1) (k' + M + 1) (by omega) ?_
  have e0 : (-1074 + (k : Int) - (-1074 + (k' : Int)) - (M : Int) - 1 + 1074 + ((k' + M + 1 : Nat) : Int)).toNat = k + N := by omega
  rw [e0]
  generalize (2 * (m * 2 ^ M / n) + (m * 2 ^ M % n != 0).toNat) = q at *
  have s1 : q * 2 ^ (k + N) ≤ q * n * 2 ^ k' * 2 ^ k := by
    rw [Nat.pow_add, Nat.mul_comm (2 ^ k), ← Nat.mul_assoc, Nat.mul_assoc q n]
    exact Nat.mul_le_mul_right _ (Nat.mul_le_mul_left _ hy1)
  have s2 : q * n * 2 ^ k' * 2 ^ k ≤ 4 * (m * 2 ^ M) * 2 ^ k' * 2 ^ k := Nat.mul_le_mul_right _ (Nat.mul_le_mul_right _ key)
  have s3 : 4 * (m * 2 ^ M) * 2 ^ k' * 2 ^ k = (m * 2 ^ k) * (2 ^ M * 2 ^ k' * 4) := by
    generalize 2 ^ M = A
    generalize 2 ^ k' = B
    generalize 2 ^ k = C
    rw [Nat.mul_comm 4, Nat.mul_assoc m A 4, Nat.mul_assoc m, Nat.mul_right_comm m, Nat.mul_assoc A 4 B, Nat.mul_comm 4 B, ← Nat.mul_assoc A B 4]
  have s4 : (m * 2 ^ k) * (2 ^ M * 2 ^ k' * 4) ≤ 2 ^ (1074 + E) * (2 ^ M * 2 ^ k' * 4) := Nat.mul_le_mul_right _ l
  have s5 : 2 ^ (1074 + E) * (2 ^ M * 2 ^ k' * 4) = 2 ^ (1074 + (E + 1) + (k' + M + 1)) := by
    rw [← Nat.pow_add, show (4 : Nat) = 2 ^ 2 from rfl, ← Nat.pow_add, ← Nat.pow_add]; congr 1; omega
  omega
end Go.Proofs.Ytopfeilfgbcihaa
