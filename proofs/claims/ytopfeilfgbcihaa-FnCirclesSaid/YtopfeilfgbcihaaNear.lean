/- Plain facts on IEEE words: rounding to nearest is monotone and leaves what the format has as it is. No program in sight. -/
import Derived.Test.YtopfeilfgbcihaaRung
namespace Go.Proofs.Ytopfeilfgbcihaa
open Ieee

theorem cut_even (neg : Bool) (n d : Nat) : ∃ c, Toward.even.cut neg n d = n / 2 ^ d + c ∧ c ≤ 1 ∧ (c = 1 → n % 2 ^ d ≠ 0) := by
  unfold Toward.cut
  simp only [Nat.one_shiftLeft]
  rcases Nat.le_total d (n.log2 + 2) with h | h
  · rw [Nat.min_eq_left h]
    refine ⟨_, rfl, by cases (decide (2 ^ d < 2 * (n % 2 ^ d)) || 2 ^ d == 2 * (n % 2 ^ d) && n / 2 ^ d % 2 == 1) <;> simp, ?_⟩
    intro hc h0
    have hp : 0 < 2 ^ d := Nat.two_pow_pos d
    rw [h0] at hc
    simp at hc
  · rw [Nat.min_eq_right h]
    have hlt : n < 2 ^ (n.log2 + 1) := Nat.lt_log2_self
    have h2 : 2 * n < 2 ^ (n.log2 + 2) := by rw [Nat.pow_succ]; omega
    have e1 : n / 2 ^ (n.log2 + 2) = 0 := Nat.div_eq_of_lt (by omega)
    have e2 : n % 2 ^ (n.log2 + 2) = n := Nat.mod_eq_of_lt (by omega)
    have hle : 2 ^ (n.log2 + 2) ≤ 2 ^ d := Nat.pow_le_pow_right (by decide) h
    have e3 : n / 2 ^ d = 0 := Nat.div_eq_of_lt (by omega)
    rw [e1, e2, e3]
    refine ⟨0, ?_, by omega, by omega⟩
    have e4 : decide (2 ^ (n.log2 + 2) < 2 * n) = false := decide_eq_false (by omega)
    simp [e4]

/-- The rung of a significand 'q' at 'k' places above the least. -/
theorem rungVal_kq (f : Format) (k q : Nat) (h1 : q ≤ 2 * f.binade) (h2 : 1 ≤ k → f.binade ≤ q) : rungVal f (k * f.binade + q) = q * 2 ^ k := by
  have hb := bin_pos f
  by_cases hq : q < f.binade
  · have : k = 0 := by rcases Nat.eq_zero_or_pos k with h | h; exact h; have := h2 h; omega
    subst this
    unfold rungVal
    simp [hq]
  · by_cases hq2 : q < 2 * f.binade
    · have e : k * f.binade + q = (k + 1) * f.binade + (q - f.binade) := by rw [Nat.add_mul]; omega
      rw [e, rungVal_block f k _ (by omega)]
      congr 1; omega
    · have e : k * f.binade + q = (k + 1 + 1) * f.binade + 0 := by rw [Nat.add_mul, Nat.add_mul]; omega
      rw [e, rungVal_block f (k + 1) 0 hb, Nat.pow_succ, Nat.add_zero]
      have : q = f.binade * 2 := by omega
      rw [this, Nat.mul_assoc, Nat.mul_comm 2]

theorem pow_split {a b : Int} (c : Int) (h1 : a ≤ b) (h2 : b ≤ c) : (2 : Nat) ^ (c - a).toNat = 2 ^ (c - b).toNat * 2 ^ (b - a).toNat := by
  rw [← Nat.pow_add]; congr 1; omega

/-- ROUNDING IS MONOTONE. -/
theorem nearest_spec {f : Format} (neg : Bool) (mag : Nat) (place : Int) (hm : mag ≠ 0) :
    ∃ r, r ≤ f.infRung ∧ f.nearest neg mag place = f.word neg r ∧ ∀ (B : Int) (R : Nat), B ≤ place → B ≤ f.leastPlace →
      (mag * 2 ^ (place - B).toNat ≤ rungVal f R * 2 ^ (f.leastPlace - B).toNat → r ≤ R) ∧
      (R ≤ f.infRung → rungVal f R * 2 ^ (f.leastPlace - B).toNat ≤ mag * 2 ^ (place - B).toNat → R ≤ r) := by
  have hb := bin_pos f
  unfold Format.nearest
  rw [if_neg hm]
  generalize hL : max (place + (mag.log2 : Int) - (f.fractionBits : Int)) f.leastPlace = L
  have hL1 : f.leastPlace ≤ L := by omega
  have hL2 : place + (mag.log2 : Int) - (f.fractionBits : Int) ≤ L := by omega
  have hlo : 2 ^ mag.log2 ≤ mag := Nat.log2_self_le hm
  have hhi : mag < 2 ^ (mag.log2 + 1) := Nat.lt_log2_self
  obtain ⟨c, hcut, hc1, hc2⟩ := cut_even neg (mag <<< (place - L).toNat) (L - place).toNat
  have hn : mag <<< (place - L).toNat = mag * 2 ^ (place - L).toNat := Nat.shiftLeft_eq ..
  rw [hn] at hcut hc2
  generalize hq : mag * 2 ^ (place - L).toNat / 2 ^ (L - place).toNat = q at *
  generalize hk : (L - f.leastPlace).toNat = k
  -- the significand
  have hdm := Nat.div_add_mod (mag * 2 ^ (place - L).toNat) (2 ^ (L - place).toNat)
  have hml := Nat.mod_lt (mag * 2 ^ (place - L).toNat) (Nat.two_pow_pos (L - place).toNat)
  rw [hq] at hdm
  -- q < 2 * binade
  have hq1 : q < 2 * f.binade := by
    have hbin : 2 * f.binade = 2 ^ (f.fractionBits + 1) := by unfold Format.binade; rw [Nat.pow_succ, Nat.mul_comm]
    rw [hbin, ← hq]
    refine Nat.div_lt_of_lt_mul ?_
    rw [← Nat.pow_add]
    calc mag * 2 ^ (place - L).toNat < 2 ^ (mag.log2 + 1) * 2 ^ (place - L).toNat := Nat.mul_lt_mul_of_pos_right hhi (Nat.two_pow_pos _)
      _ = 2 ^ (mag.log2 + 1 + (place - L).toNat) := by rw [← Nat.pow_add]
      _ ≤ _ := Nat.pow_le_pow_right (by decide) (by omega)
  have hq2 : 1 ≤ k → f.binade ≤ q := by
    intro hk1
    have hLe : L = place + (mag.log2 : Int) - (f.fractionBits : Int) := by omega
    rw [← hq]
    refine (Nat.le_div_iff_mul_le (Nat.two_pow_pos _)).2 ?_
    unfold Format.binade
    rw [← Nat.pow_add]
    calc 2 ^ (f.fractionBits + (L - place).toNat) = 2 ^ (mag.log2 + (place - L).toNat) := by congr 1; omega
      _ = 2 ^ mag.log2 * 2 ^ (place - L).toNat := by rw [← Nat.pow_add]
      _ ≤ _ := Nat.mul_le_mul_right _ hlo
  refine ⟨min (k * f.binade + (q + c)) f.infRung, Nat.min_le_right _ _, by simp only [hn, hcut, hk], ?_⟩
  intro B R hB1 hB2
  have hv : q * 2 ^ (L - B).toNat ≤ mag * 2 ^ (place - B).toNat ∧ (mag * 2 ^ (place - L).toNat % 2 ^ (L - place).toNat ≠ 0 → q * 2 ^ (L - B).toNat < mag * 2 ^ (place - B).toNat) ∧ mag * 2 ^ (place - B).toNat < (q + 1) * 2 ^ (L - B).toNat := by
    generalize hrest : mag * 2 ^ (place - L).toNat % 2 ^ (L - place).toNat = rest at *
    rcases Int.le_total L place with h | h
    · have e0 : (L - place).toNat = 0 := by omega
      rw [e0] at hdm hml
      have e1 := pow_split (a := B) (b := L) place (by omega) h
      rw [e1, ← Nat.mul_assoc, ← hdm]
      have hp : 0 < 2 ^ (L - B).toNat := Nat.two_pow_pos _
      have hr0 : rest = 0 := by omega
      subst hr0
      simp only [Nat.pow_zero, Nat.one_mul, Nat.add_zero]
      exact ⟨Nat.le_refl _, fun h => absurd rfl h, Nat.mul_lt_mul_of_pos_right (by omega) hp⟩
    · have e0 : (place - L).toNat = 0 := by omega
      rw [e0, Nat.pow_zero, Nat.mul_one] at hdm
      have e1 := pow_split (a := B) (b := place) L hB1 h
      rw [e1]
      have hp : 0 < 2 ^ (place - B).toNat := Nat.two_pow_pos _
      have a1 : q * 2 ^ (L - place).toNat ≤ mag := by rw [Nat.mul_comm]; omega
      have a2 : rest ≠ 0 → q * 2 ^ (L - place).toNat < mag := by intro hr; rw [Nat.mul_comm]; omega
      have a3 : mag < (q + 1) * 2 ^ (L - place).toNat := by rw [Nat.add_mul, Nat.mul_comm q]; omega
      refine ⟨?_, fun hr => ?_, ?_⟩
      · rw [← Nat.mul_assoc]; exact Nat.mul_le_mul_right _ a1
      · rw [← Nat.mul_assoc]; exact Nat.mul_lt_mul_of_pos_right (a2 hr) hp
      · rw [← Nat.mul_assoc]; exact Nat.mul_lt_mul_of_pos_right a3 hp
  have hsc : ∀ x : Nat, x * 2 ^ (L - B).toNat = x * 2 ^ k * 2 ^ (f.leastPlace - B).toNat := by
    intro x
    rw [pow_split (a := B) (b := f.leastPlace) L hB2 hL1, hk, ← Nat.mul_assoc]
  rw [hsc, hsc] at hv
  have hp : 0 < 2 ^ (f.leastPlace - B).toNat := Nat.two_pow_pos _
  have v0 := rungVal_kq f k q (by omega) hq2
  have v1 := rungVal_kq f k (q + 1) (by omega) (fun h => by have := hq2 h; omega)
  constructor
  · intro h
    have h1 : q * 2 ^ k ≤ rungVal f R := Nat.le_of_mul_le_mul_right (Nat.le_trans hv.1 h) hp
    refine Nat.le_trans (Nat.min_le_left _ _) ?_
    rcases (by omega : c = 0 ∨ c = 1) with rfl | rfl
    · rw [← v0] at h1
      exact (rungVal_le_iff f).1 h1
    · have h2 : q * 2 ^ k < rungVal f R := Nat.lt_of_mul_lt_mul_right (Nat.lt_of_lt_of_le (hv.2.1 (hc2 rfl)) h)
      rw [← v0] at h2
      have : k * f.binade + q < R := Nat.lt_of_not_le fun h' => by have := rungVal_le f h'; omega
      omega
  · intro hR h
    have h1 : rungVal f R < (q + 1) * 2 ^ k := Nat.lt_of_mul_lt_mul_right (Nat.lt_of_le_of_lt h hv.2.2)
    rw [← v1] at h1
    have : R < k * f.binade + (q + 1) := Nat.lt_of_not_le fun h' => by have := rungVal_le f h'; omega
    exact Nat.le_min.2 ⟨by omega, hR⟩

/-- WHAT THE FORMAT HAS IS LEFT AS IT IS. -/
theorem nearest_exact {f : Format} (neg : Bool) (mag : Nat) (place : Int) (B : Int) (R : Nat) (hB1 : B ≤ place) (hB2 : B ≤ f.leastPlace) (hR : R ≤ f.infRung)
    (h : mag * 2 ^ (place - B).toNat = rungVal f R * 2 ^ (f.leastPlace - B).toNat) : f.nearest neg mag place = f.word neg R := by
  by_cases hm : mag = 0
  · subst hm
    have h0 : rungVal f R = 0 := by
      rw [Nat.zero_mul] at h
      rcases Nat.mul_eq_zero.1 h.symm with h | h
      · exact h
      · exact absurd h (Nat.ne_of_gt (Nat.two_pow_pos _))
    have z0 : rungVal f 0 = 0 := by unfold rungVal; rw [if_pos (bin_pos _)]
    have : R = 0 := rungVal_inj f (by rw [h0, z0])
    subst this
    simp [Format.nearest]
  · obtain ⟨r, h1, h2, h3⟩ := nearest_spec (f := f) neg mag place hm
    obtain ⟨u, l⟩ := h3 B R hB1 hB2
    have := u (Nat.le_of_eq h)
    have := l hR (Nat.le_of_eq h.symm)
    obtain rfl : r = R := by omega
    exact h2

end Go.Proofs.Ytopfeilfgbcihaa
