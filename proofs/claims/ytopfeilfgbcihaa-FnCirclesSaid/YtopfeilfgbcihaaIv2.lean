/- 64-bit numbers between bounds: quotients, narrowing, the floor, order, and bounds that are computed. No program in sight. -/
import Derived.Test.YtopfeilfgbcihaaIv
namespace Go.Proofs.Ytopfeilfgbcihaa
open Ieee
set_option linter.unusedVariables false
theorem quo_lo {G A B C n X Y Q L μ : Int} (hG : 0 < G) (hA : 0 < A) (hB : 0 < B) (hC : 0 < C) (hn : 0 < n) (eX : X = μ * B) (eY : Y = n * C) (K1 : 2 * (μ * A) - n ≤ Q * n) (S : B * 4194304 ≤ 2 * (A * C)) (l : (L + 1) * Y ≤ 4194304 * X) : L * G * (C * A * 2) ≤ Q * (B * (4194304 * G)) := by
  have p1 : 0 ≤ B * (4194304 * G) := Int.le_of_lt (Int.mul_pos hB (by omega))
  have p2 : 0 ≤ 2 * (G * A) := by have := Int.mul_pos hG hA; omega
  have p3 : 0 ≤ n * G := Int.le_of_lt (Int.mul_pos hn hG)
  have h1 := Int.mul_le_mul_of_nonneg_right K1 p1
  have h2 := Int.mul_le_mul_of_nonneg_right l p2
  have h3 := Int.mul_le_mul_of_nonneg_right S p3
  have e1 : (2 * (μ * A) - n) * (B * (4194304 * G)) = 4194304 * X * (2 * (G * A)) - B * 4194304 * (n * G) := by
    subst eX; rw [Int.sub_mul]; congr 1 <;> ac_rfl
  have e2 : (L + 1) * Y * (2 * (G * A)) = L * G * (C * A * 2) * n + 2 * (A * C) * (n * G) := by
    subst eY; rw [Int.add_mul, Int.add_mul, Int.one_mul]; congr 1 <;> ac_rfl
  have e3 : Q * n * (B * (4194304 * G)) = Q * (B * (4194304 * G)) * n := by ac_rfl
  refine Int.le_of_mul_le_mul_right ?_ hn
  omega
theorem quo_hi {G A B C n X Y Q U μ : Int} (hG : 0 < G) (hA : 0 < A) (hB : 0 < B) (hC : 0 < C) (hn : 0 < n) (eX : X = μ * B) (eY : Y = n * C) (K1 : Q * n ≤ 2 * (μ * A) + n) (S : B * 4194304 ≤ 2 * (A * C)) (l : 4194304 * X ≤ (U - 1) * Y) : Q * (B * (4194304 * G)) ≤ U * G * (C * A * 2) := by
  have := quo_lo (X := -X) (Y := Y) (Q := -Q) (L := -U) (μ := -μ) hG hA hB hC hn (by rw [eX, Int.neg_mul]) eY (by rw [Int.neg_mul, Int.neg_mul]; omega) S (by rw [show -U + 1 = -(U - 1) by omega, Int.neg_mul]; omega)
  rw [Int.neg_mul, Int.neg_mul, Int.neg_mul] at this
  omega
/-- What is written of a quotient, times the divisor. -/
theorem quo_rest (dd n : Nat) (hn : n ≠ 0) : (2 * (dd / n) + (dd % n != 0).toNat) * n ≤ 2 * dd + n ∧ 2 * dd ≤ (2 * (dd / n) + (dd % n != 0).toNat) * n + n := by
  have d1 := Nat.div_add_mod dd n
  have d2 := Nat.mod_lt dd (Nat.pos_of_ne_zero hn)
  rw [Nat.add_mul, Nat.mul_assoc, Nat.mul_comm (dd / n) n]
  generalize n * (dd / n) = p at *
  by_cases h : dd % n = 0
  · rw [h]; rw [h] at d1; simp; omega
  · have : (dd % n != 0) = true := by rw [bne_iff_ne]; exact h
    rw [this]; simp; omega
theorem In.quo {x y : Nat} {a b c d L U : Int} (hx : In x a b) (hy : In y c d) (hc : 4194304 ≤ c) (wa : -4398046511104 ≤ a) (wb : b ≤ 4398046511104) (ha : -4503599627370496 ≤ L) (ha' : L ≤ 4503599627370496) (hb' : -4503599627370496 ≤ U) (hb : U ≤ 4503599627370496)
    (l1 : (L + 1) * c ≤ a * 4194304) (l2 : (L + 1) * d ≤ a * 4194304) (u1 : b * 4194304 ≤ (U - 1) * c) (u2 : b * 4194304 ≤ (U - 1) * d) : ∃ r, floatBits .quo .f64 x y = some r ∧ In r L U := by
  obtain ⟨m, k, e, v⟩ := hx.read
  obtain ⟨n, k', e', v'⟩ := hy.read
  have hG := GRN_int
  have hup : ((2 ^ 1074 : Nat) : Int) = 4194304 * (GRN : Int) := by rw [GRN_up, Int.natCast_mul]; rfl
  have hY1 : 4194304 * (GRN : Int) ≤ svd y := Int.le_trans (Int.mul_le_mul_of_nonneg_right hc (Int.le_of_lt hG)) hy.lo
  have hYpos : 0 < svd y := by omega
  have hs : sgn double y = false := by
    cases hq : sgn double y with
    | false => rfl
    | true => rw [hq, signed_val, if_pos rfl] at v'; omega
  rw [hs] at e' v'
  have hYv : svd y = (n : Int) * ((2 ^ k' : Nat) : Int) := by rw [← v', signed_val, if_neg (by decide), Int.natCast_mul]
  have hn : n ≠ 0 := by rintro rfl; rw [hYv] at hYpos; simp at hYpos
  -- the bounds of the quotient
  have hl : (L + 1) * svd y ≤ 4194304 * svd x := by
    have g : (L + 1) * svd y ≤ a * 4194304 * (GRN : Int) := by
      have g1 := Int.mul_le_mul_of_nonneg_right l1 (Int.le_of_lt hG)
      have g2 := Int.mul_le_mul_of_nonneg_right l2 (Int.le_of_lt hG)
      rw [Int.mul_assoc (L + 1)] at g1 g2
      exact corner_hi (Int.le_refl _) (Int.le_refl _) hy.lo hy.hi g1 g2 g1 g2
    have := hx.lo
    rw [Int.mul_right_comm] at g
    omega
  have hu : 4194304 * svd x ≤ (U - 1) * svd y := by
    have g : b * 4194304 * (GRN : Int) ≤ (U - 1) * svd y := by
      have g1 := Int.mul_le_mul_of_nonneg_right u1 (Int.le_of_lt hG)
      have g2 := Int.mul_le_mul_of_nonneg_right u2 (Int.le_of_lt hG)
      rw [Int.mul_assoc (U - 1)] at g1 g2
      exact corner_lo (Int.le_refl _) (Int.le_refl _) hy.lo hy.hi g1 g2 g1 g2
    have := hx.hi
    rw [Int.mul_right_comm] at g
    omega
  show ∃ r, ((double.read x).quotient (double.fractionBits + 2) (double.read y)).map double.write = some r ∧ _
  have hf : double.fractionBits + 2 = 54 := by decide
  rw [e, e', quotient_num _ _ _ _ _ _ _ hn, hf]
  generalize hM : 54 + n.log2 - m.log2 = M
  obtain ⟨K1, K2⟩ := quo_rest (m * 2 ^ M) n hn
  have hm0 : m = 0 → 2 * (m * 2 ^ M / n) + (m * 2 ^ M % n != 0).toNat = 0 := by rintro rfl; simp
  generalize 2 * (m * 2 ^ M / n) + (m * 2 ^ M % n != 0).toNat = q at *
  simp only [Option.map_some]
  refine ⟨_, rfl, ?_⟩
  change In (double.nearest (sgn double x ^^ false) q (-1074 + (k : Int) - (-1074 + (k' : Int)) - (M : Int) - 1)) L U
  rw [Bool.xor_false]
  have e0 : (-1074 + (k : Int) - (-1074 + (k' : Int)) - (M : Int) - 1 + 1074 + ((k' + M + 1 : Nat) : Int)).toNat = k + 1074 := by omega
  have eC : ((2 ^ (k' + M + 1) : Nat) : Int) = ((2 ^ k' : Nat) : Int) * ((2 ^ M : Nat) : Int) * 2 := by rw [Nat.pow_succ, Nat.pow_add, Int.natCast_mul, Int.natCast_mul]; rfl
  have eQ : signed (sgn double x) q (k + 1074) = (if sgn double x then -(q : Int) else (q : Int)) * (((2 ^ k : Nat) : Int) * (4194304 * (GRN : Int))) := by
    rw [signed_val, Nat.pow_add, Int.natCast_mul, Int.natCast_mul, hup]
    split
    · rw [Int.neg_mul]
    · rfl
  have eX : svd x = (if sgn double x then -(m : Int) else (m : Int)) * ((2 ^ k : Nat) : Int) := by
    rw [← v, signed_val, Int.natCast_mul]
    split
    · rw [Int.neg_mul]
    · rfl
  have cK1 : (q : Int) * (n : Int) ≤ 2 * ((m : Int) * ((2 ^ M : Nat) : Int)) + (n : Int) := by
    have := Int.ofNat_le.2 K1
    rw [Int.natCast_mul, Int.natCast_add, Int.natCast_mul, Int.natCast_mul] at this; exact this
  have cK2 : 2 * ((m : Int) * ((2 ^ M : Nat) : Int)) ≤ (q : Int) * (n : Int) + (n : Int) := by
    have := Int.ofNat_le.2 K2
    rw [Int.natCast_add, Int.natCast_mul, Int.natCast_mul, Int.natCast_mul] at this; exact this
  have pA : (0 : Int) < ((2 ^ M : Nat) : Int) := Int.natCast_pos.2 (Nat.two_pow_pos M)
  have pB : (0 : Int) < ((2 ^ k : Nat) : Int) := Int.natCast_pos.2 (Nat.two_pow_pos k)
  have pC : (0 : Int) < ((2 ^ k' : Nat) : Int) := Int.natCast_pos.2 (Nat.two_pow_pos k')
  have pn : (0 : Int) < (n : Int) := Int.natCast_pos.2 (Nat.pos_of_ne_zero hn)
  by_cases h0 : m = 0
  · have q0 := hm0 h0
    have x0 : svd x = 0 := by rw [eX, h0]; simp
    have hL : L ≤ 0 := by
      rcases Int.lt_or_le 0 L with h | h
      · have : 0 < (L + 1) * svd y := Int.mul_pos (by omega) hYpos
        rw [x0] at hl; omega
      · exact h
    have hU : 0 ≤ U := by
      rcases Int.lt_or_le U 0 with h | h
      · have : (U - 1) * svd y < 0 := Int.mul_neg_of_neg_of_pos (by omega) hYpos
        rw [x0] at hu; omega
      · exact h
    have pp : (0 : Int) ≤ ((2 ^ (k' + M + 1) : Nat) : Int) := Int.natCast_nonneg _
    refine near_in _ _ _ (k' + M + 1) L U (by omega) ha ha' hb' hb ?_ ?_
    · rw [e0, eQ, q0]
      have := Int.mul_nonpos_of_nonpos_of_nonneg (Int.mul_nonpos_of_nonpos_of_nonneg hL (Int.le_of_lt hG)) pp
      simpa using this
    · rw [e0, eQ, q0]
      have := Int.mul_nonneg (Int.mul_nonneg hU (Int.le_of_lt hG)) pp
      simpa using this
  · -- sizes
    have S : ((2 ^ k : Nat) : Int) * 4194304 ≤ 2 * (((2 ^ M : Nat) : Int) * ((2 ^ k' : Nat) : Int)) := by
      obtain ⟨N, hN⟩ : ∃ N, N = 1052 := ⟨_, rfl⟩
      have hXn : m * 2 ^ k ≤ 4398046511104 * GRN := by
        have h1 := hx.lo
        have h2 := hx.hi
        have h3 := Int.mul_le_mul_of_nonneg_right wa (Int.le_of_lt hG)
        have h4 := Int.mul_le_mul_of_nonneg_right wb (Int.le_of_lt hG)
        have h5 : ((m * 2 ^ k : Nat) : Int) ≤ 4398046511104 * (GRN : Int) := by
          rw [Int.natCast_mul]
          rw [eX] at h1 h2
          revert h1 h2
          split
          · intro h1 h2; rw [Int.neg_mul] at h1 h2 h3; omega
          · intro h1 h2; omega
        omega
      have hYn : 4194304 * GRN ≤ n * 2 ^ k' := by
        rw [hYv, ← Int.natCast_mul] at hY1
        omega
      rw [GRN_at N hN] at hXn hYn
      have a1 := Nat.log2_self_le h0
      have a2 := Nat.lt_log2_self (n := n)
      have b1 : 2 ^ (m.log2 + k) ≤ 2 ^ (42 + N) := by
        rw [Nat.pow_add, Nat.pow_add 2 42]
        exact Nat.le_trans (Nat.mul_le_mul_right _ a1) hXn
      have b2 : 2 ^ (22 + N) < 2 ^ (n.log2 + 1 + k') := by
        rw [Nat.pow_add 2 22, Nat.pow_add 2 (n.log2 + 1)]
        exact Nat.lt_of_le_of_lt hYn (Nat.mul_lt_mul_of_pos_right a2 (Nat.two_pow_pos k'))
      have c1 : m.log2 + k ≤ 42 + N := (Nat.pow_le_pow_iff_right (by decide)).1 b1
      have c2 : 22 + N < n.log2 + 1 + k' := (Nat.pow_lt_pow_iff_right (by decide)).1 b2
      have c3 : (2 : Nat) ^ (k + 22) ≤ 2 ^ (1 + (M + k')) := Nat.pow_le_pow_right (by decide) (by omega)
      rw [Nat.pow_add, Nat.pow_add 2 1, Nat.pow_add 2 M] at c3
      have c4 := Int.ofNat_le.2 c3
      rw [Int.natCast_mul, Int.natCast_mul, Int.natCast_mul] at c4
      exact c4
    refine near_in _ _ _ (k' + M + 1) L U (by omega) ha ha' hb' hb ?_ ?_
    · rw [e0, eQ, eC]
      refine quo_lo hG pA pB pC pn eX hYv ?_ S hl
      split
      · rw [Int.neg_mul, Int.neg_mul]; omega
      · omega
    · rw [e0, eQ, eC]
      refine quo_hi hG pA pB pC pn eX hYv ?_ S hu
      split
      · rw [Int.neg_mul, Int.neg_mul]; omega
      · omega
end Go.Proofs.Ytopfeilfgbcihaa
