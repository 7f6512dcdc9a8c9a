/- A share: a number below 2 ^ 24 over 2 ^ 24 is the number times 2 ^ -24. No program in sight. -/
import Derived.Test.YtlaelfaalgmicaaWiden
namespace Go.Proofs.Ytlaelfaalgmicaa
open Ieee

/-- A number with few digits in the middle of the 32-bit format is of that format. -/
theorem has_single (m k : Nat) (hm : m < 2 ^ 24) (hk : k ≤ 200) : ∃ R, R < single.infRung ∧ rungVal single R = m * 2 ^ k := by
  by_cases h0 : m = 0
  · subst h0
    exact ⟨0, by rw [inf_s]; omega, by unfold rungVal; rw [if_pos (bin_pos _)]; simp⟩
  have hlo := Nat.log2_self_le h0
  have hhi : m < 2 ^ (m.log2 + 1) := Nat.lt_log2_self
  have hl : m.log2 ≤ 23 := by
    have : m.log2 < 24 := (Nat.log2_lt h0).2 hm
    omega
  rcases Nat.le_total (23 - m.log2) k with h | h
  · -- normal
    have hq1 : m * 2 ^ (23 - m.log2) < 2 ^ 24 := by
      have : m * 2 ^ (23 - m.log2) < 2 ^ (m.log2 + 1) * 2 ^ (23 - m.log2) := Nat.mul_lt_mul_of_pos_right hhi (Nat.two_pow_pos _)
      rw [← Nat.pow_add, show m.log2 + 1 + (23 - m.log2) = 24 by omega] at this
      exact this
    have hq2 : 2 ^ 23 ≤ m * 2 ^ (23 - m.log2) := by
      have : 2 ^ m.log2 * 2 ^ (23 - m.log2) ≤ m * 2 ^ (23 - m.log2) := Nat.mul_le_mul_right _ hlo
      rw [← Nat.pow_add, show m.log2 + (23 - m.log2) = 23 by omega] at this
      exact this
    refine ⟨(k - (23 - m.log2)) * single.binade + m * 2 ^ (23 - m.log2), ?_, ?_⟩
    · rw [inf_s, bin_s]; omega
    · rw [rungVal_kq single _ _ (by rw [bin_s]; omega) (fun _ => by rw [bin_s]; omega), Nat.mul_assoc, ← Nat.pow_add]
      congr 2; omega
  · have hq1 : m * 2 ^ k < 2 ^ 24 := by
      have h1 : m * 2 ^ k < 2 ^ (m.log2 + 1) * 2 ^ k := Nat.mul_lt_mul_of_pos_right hhi (Nat.two_pow_pos _)
      rw [← Nat.pow_add] at h1
      have h2 : 2 ^ (m.log2 + 1 + k) ≤ 2 ^ 24 := Nat.pow_le_pow_right (by decide) (by omega)
      omega
    refine ⟨m * 2 ^ k, by rw [inf_s]; omega, ?_⟩
    have := rungVal_kq single 0 (m * 2 ^ k) (by rw [bin_s]; omega) (by omega)
    simpa using this

theorem read_rung (R : Nat) (hR : R < single.infRung) : ∃ M I, single.read (single.word false R) = .number false M I ∧ -149 ≤ I ∧ I ≤ 104 ∧ M < 16777216 ∧ M * 2 ^ (I + 149).toNat = rungVal single R := by
  rw [read_word single false R (by rw [sw_s]; rw [inf_s] at hR; omega)]
  unfold readRung rungVal
  rw [inf_s] at hR
  by_cases h : R < single.binade
  · rw [if_pos h, if_pos h]
    exact ⟨R, single.leastPlace, rfl, by decide, by decide, by rw [bin_s] at h; omega, by rw [show (single.leastPlace + 149).toNat = 0 from by decide]; simp⟩
  · rw [if_neg h, if_neg h, if_pos (by rw [inf_s]; exact hR)]
    refine ⟨_, _, rfl, ?_, ?_, ?_, ?_⟩
    · rw [least_s]; omega
    · rw [least_s, bin_s]; omega
    · rw [bin_s]; omega
    · rw [least_s, bin_s, show (-149 + ((R / 8388608 - 1 : Nat) : Int) + 149).toNat = R / 8388608 - 1 from by omega]
theorem share_both (m : Nat) (h0 : m ≠ 0) (hm : m < 16777216) : ∃ R, single.mul (single.nearest false m 0) 864026624 = some R ∧ single.div (single.nearest false m 0) 1266679808 = some R := by
  obtain ⟨R, hR, hv⟩ := has_single m 149 (by omega) (by omega)
  obtain ⟨R', hR', hv'⟩ := has_single m 125 (by omega) (by omega)
  have hx : single.nearest false m 0 = single.word false R := nearest_exact false m 0 (-149) R (by omega) (by rw [least_s]; omega) (Nat.le_of_lt hR) (by rw [least_s, hv, show (0 - -149 : Int).toNat = 149 from by decide, show (-149 - -149 : Int).toNat = 0 from by decide]; simp)
  obtain ⟨M, I, hr, hI, hI2, hM, hMv⟩ := read_rung R hR
  have c1 : single.read 864026624 = .number false 8388608 (-47) := by decide
  have c2 : single.read 1266679808 = .number false 8388608 1 := by decide
  obtain ⟨i, hi⟩ : ∃ i : Nat, I = (i : Int) - 149 := ⟨(I + 149).toNat, by omega⟩
  have hi' : (I + 149).toNat = i := by omega
  rw [hi', hv] at hMv
  have hM0 : M ≠ 0 := by
    intro e; rw [e, Nat.zero_mul] at hMv
    exact absurd hMv.symm (Nat.mul_ne_zero h0 (Nat.ne_of_gt (Nat.two_pow_pos _)))
  rw [hx]
  refine ⟨single.word false R', ?_, ?_⟩
  · unfold Format.mul
    rw [hr, c1]
    show some (single.nearest false (M * 8388608) (I + -47)) = _
    rw [nearest_exact false (M * 8388608) (I + -47) (-196) R' (by omega) (by rw [least_s]; omega) (Nat.le_of_lt hR') ?_]
    rw [least_s, hv', show (I + -47 - -196).toNat = i from by omega, show (-149 - -196 : Int).toNat = 47 from by decide]
    have e1 : M * 8388608 * 2 ^ i = m * 2 ^ 149 * 2 ^ 23 := by rw [← hMv, show (8388608 : Nat) = 2 ^ 23 from by decide, Nat.mul_assoc, Nat.mul_comm (2 ^ 23), ← Nat.mul_assoc]
    rw [e1, Nat.mul_assoc, Nat.mul_assoc, ← Nat.pow_add]
  · have hl : M.log2 ≤ 23 := by
      have : M.log2 < 24 := (Nat.log2_lt hM0).2 (by omega)
      omega
    obtain ⟨d, hd⟩ : ∃ d, single.fractionBits + 2 + (8388608 : Nat).log2 - M.log2 = 23 + d := ⟨25 - M.log2, by
      rw [show single.fractionBits + 2 + (8388608 : Nat).log2 = 48 from by decide]; omega⟩
    have hd2 : d + M.log2 = 25 := by rw [show single.fractionBits + 2 + (8388608 : Nat).log2 = 48 from by decide] at hd; omega
    have hd3 : d ≤ 25 := by omega
    have hsh : M <<< (23 + d) = M * 2 ^ d * 8388608 := by rw [Nat.shiftLeft_eq, Nat.pow_add, show (8388608 : Nat) = 2 ^ 23 from by decide, Nat.mul_comm (2 ^ 23), ← Nat.mul_assoc]
    unfold Format.div
    rw [hr, c2]
    have hq : (Datum.number false M I).quotient (single.fractionBits + 2) (.number false 8388608 1) = some (.number false (2 * (M * 2 ^ d)) (I - 1 - (23 + d : Nat) - 1)) := by
      unfold Datum.quotient
      simp only [hd, hsh]
      rw [if_neg (by decide), Nat.mul_div_cancel _ (by decide), Nat.mul_mod_left]
      simp
    rw [hq]
    show some (single.nearest false (2 * (M * 2 ^ d)) (I - 1 - (23 + d : Nat) - 1)) = _
    rw [nearest_exact false (2 * (M * 2 ^ d)) (I - 1 - (23 + d : Nat) - 1) (-199) R' (by omega) (by rw [least_s]; omega) (Nat.le_of_lt hR') ?_]
    rw [least_s, hv', show (I - 1 - (23 + d : Nat) - 1 - -199).toNat = i + (25 - d) from by omega, show (-149 - -199 : Int).toNat = 50 from by decide]
    have e1 : 2 * (M * 2 ^ d) * 2 ^ (i + (25 - d)) = m * 2 ^ 149 * 2 ^ 26 := by
      rw [← hMv, Nat.pow_add, show (2 : Nat) ^ 26 = 2 * (2 ^ d * 2 ^ (25 - d)) from by rw [← Nat.pow_add, show d + (25 - d) = 25 from by omega]]
      generalize (2 : Nat) ^ d = x
      generalize (2 : Nat) ^ (25 - d) = y
      generalize (2 : Nat) ^ i = z
      rw [Nat.mul_assoc 2 (M * x), Nat.mul_assoc M x, Nat.mul_assoc M z]
      rw [← Nat.mul_assoc x z y, Nat.mul_comm x z, Nat.mul_assoc z x y]
      rw [Nat.mul_left_comm 2 M, Nat.mul_left_comm 2 z]
    rw [e1, Nat.mul_assoc, Nat.mul_assoc, ← Nat.pow_add]
end Go.Proofs.Ytlaelfaalgmicaa
