/- 64-bit numbers between bounds: narrowing, the floor, order, and bounds that are computed. No program in sight. -/
import Derived.Test.YtopfeilfgbcihaaIv2
namespace Go.Proofs.Ytopfeilfgbcihaa
open Ieee
set_option linter.unusedVariables false
theorem has_single (m : Nat) (hm : m < 16777216) : ∃ R, R < single.infRung ∧ rungVal single R = m * 2 ^ 127 := by
  by_cases h0 : m = 0
  · subst h0
    exact ⟨0, by rw [inf_s]; omega, by unfold rungVal; rw [if_pos (bin_pos _), Nat.zero_mul]⟩
  have hlo := Nat.log2_self_le h0
  have hhi : m < 2 ^ (m.log2 + 1) := Nat.lt_log2_self
  have hl : m.log2 ≤ 23 := by
    have : m.log2 < 24 := (Nat.log2_lt h0).2 hm
    omega
  obtain ⟨k, hk⟩ : ∃ k, k = 127 := ⟨_, rfl⟩
  have hq1 : m * 2 ^ (23 - m.log2) < 2 ^ 24 := by
    have : m * 2 ^ (23 - m.log2) < 2 ^ (m.log2 + 1) * 2 ^ (23 - m.log2) := Nat.mul_lt_mul_of_pos_right hhi (Nat.two_pow_pos _)
    rw [← Nat.pow_add, show m.log2 + 1 + (23 - m.log2) = 24 by omega] at this
    exact this
  have hq2 : 2 ^ 23 ≤ m * 2 ^ (23 - m.log2) := by
    have : 2 ^ m.log2 * 2 ^ (23 - m.log2) ≤ m * 2 ^ (23 - m.log2) := Nat.mul_le_mul_right _ hlo
    rw [← Nat.pow_add, show m.log2 + (23 - m.log2) = 23 by omega] at this
    exact this
  rw [← hk]
  refine ⟨(k - (23 - m.log2)) * single.binade + m * 2 ^ (23 - m.log2), ?_, ?_⟩
  · rw [inf_s, bin_s]; omega
  · rw [rungVal_kq single _ _ (by rw [bin_s]; omega) (fun _ => by rw [bin_s]; omega), Nat.mul_assoc, ← Nat.pow_add]
    congr 2; omega
/-- A number made narrow and wide again. -/
theorem In.narrow {x : Nat} {a b : Int} (hx : In x a b) (ha : -16777216 < a) (ha' : a < 16777216) (hb' : -16777216 < b) (hb : b < 16777216) : ∃ y z, floatToFloatBits .f64 x .f32 = some y ∧ floatToFloatBits .f32 y .f64 = some z ∧ In z a b := by
  obtain ⟨m, k, e, v⟩ := hx.read
  have hG := GRN_int
  have hsum := fair_single.sum
  have hbp := bin_pos single
  obtain ⟨N, hN⟩ : ∃ N, N = 1052 := ⟨_, rfl⟩
  obtain ⟨E, hE⟩ : ∃ E, E = 925 := ⟨_, rfl⟩
  have pw : ∀ U : Nat, U * 2 ^ 127 * 2 ^ E = U * GRN := fun U => by rw [GRN_at N hN, Nat.mul_assoc, ← Nat.pow_add, show 127 + E = N by omega]
  have key : ∃ r, r < single.infRung ∧ single.nearest (sgn double x) m (-1074 + (k : Int)) = single.word (sgn double x) r ∧
      a * (GRN : Int) ≤ (if sgn double x then -((rungVal single r * 2 ^ E : Nat) : Int) else ((rungVal single r * 2 ^ E : Nat) : Int)) ∧ (if sgn double x then -((rungVal single r * 2 ^ E : Nat) : Int) else ((rungVal single r * 2 ^ E : Nat) : Int)) ≤ b * (GRN : Int) := by
    have hlo := hx.lo
    have hhi := hx.hi
    rw [← v, signed_val] at hlo hhi
    by_cases hm : m = 0
    · subst hm
      refine ⟨0, by rw [inf_s]; omega, by simp [Format.nearest], ?_⟩
      have z0 : rungVal single 0 = 0 := by unfold rungVal; rw [if_pos (bin_pos _)]
      rw [z0, Nat.zero_mul]
      rw [Nat.zero_mul] at hlo hhi
      exact ⟨hlo, hhi⟩
    · obtain ⟨r, h1, h2, h3⟩ := nearest_spec (f := single) (sgn double x) m (-1074 + (k : Int)) hm
      have e1 : (-1074 + (k : Int) - -1074).toNat = k := by omega
      have e2 : ((-149 : Int) - -1074).toNat = E := by omega
      have up : ∀ U : Nat, (U : Int) < 16777216 → ((m * 2 ^ k : Nat) : Int) ≤ (U : Int) * (GRN : Int) → r < single.infRung ∧ ((rungVal single r * 2 ^ E : Nat) : Int) ≤ (U : Int) * (GRN : Int) := fun U hU hv => by
        rw [← Int.natCast_mul] at hv ⊢
        obtain ⟨R, g1, g2⟩ := has_single U (by omega)
        have := (h3 (-1074) R (by omega) (by rw [least_s]; omega)).1 (by rw [least_s, e1, e2, g2, pw]; exact Int.ofNat_le.1 hv)
        refine ⟨by omega, Int.ofNat_le.2 ?_⟩
        rw [← pw, ← g2]
        exact Nat.mul_le_mul_right _ (rungVal_le single this)
      have low : ∀ L : Nat, (L : Int) < 16777216 → (L : Int) * (GRN : Int) ≤ ((m * 2 ^ k : Nat) : Int) → (L : Int) * (GRN : Int) ≤ ((rungVal single r * 2 ^ E : Nat) : Int) := fun L hL hv => by
        rw [← Int.natCast_mul] at hv ⊢
        obtain ⟨R, g1, g2⟩ := has_single L (by omega)
        have := (h3 (-1074) R (by omega) (by rw [least_s]; omega)).2 (by omega) (by rw [least_s, e1, e2, g2, pw]; exact Int.ofNat_le.1 hv)
        refine Int.ofNat_le.2 ?_
        rw [← pw, ← g2]
        exact Nat.mul_le_mul_right _ (rungVal_le single this)
      refine ⟨r, ?_, h2, ?_, ?_⟩
      all_goals
        have hmag : (0 : Int) ≤ ((m * 2 ^ k : Nat) : Int) := Int.natCast_nonneg _
        have hrn : (0 : Int) ≤ ((rungVal single r * 2 ^ E : Nat) : Int) := Int.natCast_nonneg _
        have neg : ∀ z : Int, z < 0 → z * (GRN : Int) < 0 := fun z hz => Int.mul_neg_of_neg_of_pos hz hG
        have opp : ∀ z : Int, -z * (GRN : Int) = -(z * (GRN : Int)) := fun z => Int.neg_mul ..
        generalize ((m * 2 ^ k : Nat) : Int) = V at *
        generalize ((rungVal single r * 2 ^ E : Nat) : Int) = W at *
        cases hs : sgn double x
        all_goals
          rw [hs] at hlo hhi
          simp only [Bool.false_eq_true, if_false, if_true] at hlo hhi ⊢
      · have hb0 : 0 ≤ b := by
          rcases Int.lt_or_le b 0 with q | q
          · have := neg b q; omega
          · exact q
        obtain ⟨U, rfl⟩ := Int.eq_ofNat_of_zero_le hb0
        exact (up U hb hhi).1
      · have ha0 : 0 ≤ -a := by
          rcases Int.lt_or_le (-a) 0 with q | q
          · have := neg (-a) q; rw [opp] at this; omega
          · exact q
        obtain ⟨U, hU⟩ := Int.eq_ofNat_of_zero_le ha0
        exact (up U (by omega) (by rw [← hU, opp]; omega)).1
      · rcases Int.lt_or_le a 0 with q | q
        · have := neg a q; omega
        · obtain ⟨L, rfl⟩ := Int.eq_ofNat_of_zero_le q
          exact low L ha' hlo
      · have ha0 : 0 ≤ -a := by
          rcases Int.lt_or_le (-a) 0 with q | q
          · have := neg (-a) q; rw [opp] at this; omega
          · exact q
        obtain ⟨U, hU⟩ := Int.eq_ofNat_of_zero_le ha0
        have := (up U (by omega) (by rw [← hU, opp]; omega)).2
        rw [← hU, opp] at this; omega
      · have hb0 : 0 ≤ b := by
          rcases Int.lt_or_le b 0 with q | q
          · have := neg b q; omega
          · exact q
        obtain ⟨U, rfl⟩ := Int.eq_ofNat_of_zero_le hb0
        exact (up U hb hhi).2
      · rcases Int.lt_or_le (-b) 0 with q | q
        · have h0 : (0 : Int) ≤ b * (GRN : Int) := Int.mul_nonneg (by omega) (Int.le_of_lt hG)
          omega
        · obtain ⟨L, hL⟩ := Int.eq_ofNat_of_zero_le q
          have := low L (by omega) (by rw [← hL, opp]; omega)
          rw [← hL, opp] at this; omega
  obtain ⟨r, h1, h2, h3, h4⟩ := key
  have hrs : r < single.signWeight := by omega
  have hdec : FloatKind.f64.decode x = .number (sgn double x) m (-1074 + (k : Int)) := e
  have hy : floatToFloatBits .f64 x .f32 = some (single.word (sgn double x) r) := by
    unfold floatToFloatBits
    rw [if_neg (by decide), hdec]
    have hni : ((FloatKind.f32.decode (FloatKind.f32.encode (.number (sgn double x) m (-1074 + (k : Int))))).isInfinity) = false := by
      show (single.read (single.nearest _ _ _)).isInfinity = false
      rw [h2, read_word single _ r hrs]
      obtain ⟨m', k', e3, _⟩ := readRung_fin single (sgn double x) r h1
      rw [e3]; rfl
    show (if _ then none else some (single.nearest _ _ _) : Option Nat) = _
    rw [if_neg (by rw [hni]; decide), h2]
  have hyn : nanB .f32 (single.word (sgn double x) r) = false := by
    rw [nanB_rng]
    change decide (single.infRung < rng single _) = false
    rw [rng_word single _ r hrs, decide_eq_false_iff_not]; omega
  obtain ⟨R, g1, g2, g3, _⟩ := widen _ hyn
  rw [rng_word single _ r hrs, ← hE] at g3
  rw [sgn_word single _ r hrs] at g1
  obtain ⟨g4, g5⟩ := g3 h1
  have hsw := sw_d
  have hif := inf_d
  have hRs : R < double.signWeight := by omega
  refine ⟨_, _, hy, g1, ?_, ?_, ?_⟩
  · rw [rng_word double _ R hRs]; exact g4
  · unfold svd; rw [sgn_word double _ R hRs, rng_word double _ R hRs, g5]; exact h3
  · unfold svd; rw [sgn_word double _ R hRs, rng_word double _ R hRs, g5]; exact h4
/-- The floor. -/
theorem cut_down (s : Bool) (m k N : Nat) (hN : N = 1074) : ∃ M, Datum.integral .down (.number s m (-1074 + (k : Int))) = .number s M 0 ∧ (s = false → M * 2 ^ N ≤ m * 2 ^ k ∧ m * 2 ^ k < (M + 1) * 2 ^ N) ∧ (s = true → m * 2 ^ k ≤ M * 2 ^ N ∧ M * 2 ^ N < m * 2 ^ k + 2 ^ N) := by
  have e0 : Datum.integral .down (.number s m (-1074 + (k : Int))) = .number s ((m <<< (-1074 + (k : Int)).toNat) / 2 ^ min (-(-1074 + (k : Int))).toNat ((m <<< (-1074 + (k : Int)).toNat).log2 + 2) + (s && ((m <<< (-1074 + (k : Int)).toNat) % 2 ^ min (-(-1074 + (k : Int))).toNat ((m <<< (-1074 + (k : Int)).toNat).log2 + 2) != 0)).toNat) 0 := by
    simp only [Datum.integral, Toward.cut, Nat.one_shiftLeft]
  refine ⟨_, e0, ?_⟩
  rw [Nat.shiftLeft_eq]
  have fin : ∀ g G : Nat, 0 < g → m * 2 ^ k = G * 2 ^ k → True := fun _ _ _ _ => trivial
  rcases Nat.lt_or_ge k N with hk | hk
  · have e1 : (-1074 + (k : Int)).toNat = 0 := by omega
    have e2 : (-(-1074 + (k : Int))).toNat = N - k := by omega
    rw [e1, e2, Nat.pow_zero, Nat.mul_one]
    have e3 : (2 : Nat) ^ N = 2 ^ (N - k) * 2 ^ k := by rw [← Nat.pow_add]; congr 1; omega
    rw [e3]
    have hp := Nat.two_pow_pos k
    have d := Nat.div_add_mod m (2 ^ (N - k))
    have d2 := Nat.mod_lt m (Nat.two_pow_pos (N - k))
    have main : ∀ lo re : Nat, 2 ^ (N - k) * lo + re = m → re < 2 ^ (N - k) → (s = false → (lo + (s && (re != 0)).toNat) * (2 ^ (N - k) * 2 ^ k) ≤ m * 2 ^ k ∧ m * 2 ^ k < (lo + (s && (re != 0)).toNat + 1) * (2 ^ (N - k) * 2 ^ k)) ∧ (s = true → m * 2 ^ k ≤ (lo + (s && (re != 0)).toNat) * (2 ^ (N - k) * 2 ^ k) ∧ (lo + (s && (re != 0)).toNat) * (2 ^ (N - k) * 2 ^ k) < m * 2 ^ k + 2 ^ (N - k) * 2 ^ k) := by
      intro lo re hd hr
      refine ⟨?_, ?_⟩
      · rintro rfl
        simp only [Bool.false_and, Bool.toNat_false, Nat.add_zero]
        rw [← Nat.mul_assoc, ← Nat.mul_assoc]
        refine ⟨Nat.mul_le_mul_right _ ?_, Nat.mul_lt_mul_of_pos_right ?_ hp⟩
        · rw [Nat.mul_comm lo]; omega
        · rw [Nat.add_mul, Nat.mul_comm lo]; omega
      · rintro rfl
        rw [← Nat.mul_assoc, ← Nat.add_mul]
        simp only [Bool.true_and]
        by_cases h0 : re = 0
        · subst h0
          refine ⟨Nat.mul_le_mul_right _ ?_, Nat.mul_lt_mul_of_pos_right ?_ hp⟩
          · rw [show ((0 : Nat) != 0).toNat = 0 from rfl, Nat.add_zero, Nat.mul_comm lo]; omega
          · rw [show ((0 : Nat) != 0).toNat = 0 from rfl, Nat.add_zero, Nat.mul_comm lo]; omega
        · have hb : (re != 0).toNat = 1 := by rw [show (re != 0) = true by rw [bne_iff_ne]; exact h0]; rfl
          rw [hb]
          refine ⟨Nat.mul_le_mul_right _ ?_, Nat.mul_lt_mul_of_pos_right ?_ hp⟩
          · rw [Nat.add_mul, Nat.mul_comm lo]; omega
          · rw [Nat.add_mul, Nat.mul_comm lo]; omega
    rcases Nat.le_total (N - k) (m.log2 + 2) with q | q
    · rw [Nat.min_eq_left q]
      exact main _ _ d d2
    · rw [Nat.min_eq_right q]
      have h5 : m < 2 ^ (m.log2 + 2) := Nat.lt_of_lt_of_le (Nat.lt_log2_self (n := m)) (Nat.pow_le_pow_right (by decide) (by omega))
      rw [Nat.div_eq_of_lt h5, Nat.mod_eq_of_lt h5]
      exact main 0 m (by omega) (Nat.lt_of_lt_of_le h5 (Nat.pow_le_pow_right (by decide) q))
  · have e1 : (-1074 + (k : Int)).toNat = k - N := by omega
    have e2 : (-(-1074 + (k : Int))).toNat = 0 := by omega
    rw [e1, e2, Nat.zero_min, Nat.pow_zero, Nat.div_one, Nat.mod_one]
    have e3 : (2 : Nat) ^ k = 2 ^ (k - N) * 2 ^ N := by rw [← Nat.pow_add]; congr 1; omega
    have hz : (s && ((0 : Nat) != 0)).toNat = 0 := by cases s <;> rfl
    rw [e3, ← Nat.mul_assoc, hz, Nat.add_zero]
    have := Nat.two_pow_pos N
    exact ⟨fun _ => ⟨Nat.le_refl _, Nat.mul_lt_mul_of_pos_right (Nat.lt_succ_self _) this⟩, fun _ => ⟨Nat.le_refl _, by omega⟩⟩
theorem floor_in {Q : Nat} {lo hi n : Int} (h : In Q lo hi) (w1 : -4398046511104 ≤ lo) (w2 : hi ≤ 4398046511104) (e : floatToIntVal .f64 (double.write ((double.read Q).integral .down)) .i64 = some n) : lo / 4194304 ≤ n ∧ n ≤ hi / 4194304 := by
  obtain ⟨m, k, er, v⟩ := h.read
  have hG := GRN_int
  obtain ⟨N, hN⟩ : ∃ N, N = 1074 := ⟨_, rfl⟩
  obtain ⟨M, eM, c1, c2⟩ := cut_down (sgn double Q) m k N hN
  have hup : ((2 ^ N : Nat) : Int) = 4194304 * (GRN : Int) := by rw [hN, GRN_up, Int.natCast_mul]; rfl
  have f1 := Int.mul_le_mul_of_nonneg_right w1 (Int.le_of_lt hG)
  have f2 := Int.mul_le_mul_of_nonneg_right w2 (Int.le_of_lt hG)
  have g1 := h.lo
  have g2 := h.hi
  -- the floor as an integer
  have b1 : signed (sgn double Q) M 0 * (4194304 * (GRN : Int)) ≤ svd Q ∧ svd Q < (signed (sgn double Q) M 0 + 1) * (4194304 * (GRN : Int)) := by
    rw [← v, signed_val, signed_val, ← hup, Nat.pow_zero, Nat.mul_one]
    cases hs : sgn double Q with
    | false =>
      obtain ⟨p1, p2⟩ := c1 hs
      simp only [Bool.false_eq_true, if_false]
      refine ⟨?_, ?_⟩
      · rw [← Int.natCast_mul]; exact Int.ofNat_le.2 p1
      · rw [show ((M : Int) + 1) = ((M + 1 : Nat) : Int) from rfl, ← Int.natCast_mul]; exact Int.ofNat_lt.2 p2
    | true =>
      obtain ⟨p1, p2⟩ := c2 hs
      simp only [if_true]
      have q1 := Int.ofNat_le.2 p1
      have q2 := Int.ofNat_lt.2 p2
      rw [Int.natCast_mul M] at q1
      rw [Int.natCast_mul M, Int.natCast_add] at q2
      refine ⟨by rw [Int.neg_mul]; omega, by rw [Int.add_mul, Int.neg_mul, Int.one_mul]; omega⟩
  obtain ⟨b1, b2⟩ := b1
  have hMb : M ≤ 4503599627370496 := by
    have hp : (0 : Int) < 4194304 * (GRN : Int) := by omega
    have u1 : signed (sgn double Q) M 0 ≤ 1048576 := by
      refine Int.le_of_mul_le_mul_right (a := 4194304 * (GRN : Int)) ?_ hp
      omega
    have u2 : -1048578 ≤ signed (sgn double Q) M 0 := by
      have : (-1048577 : Int) < signed (sgn double Q) M 0 + 1 := by
        refine Int.lt_of_mul_lt_mul_right (a := 4194304 * (GRN : Int)) ?_ (Int.le_of_lt hp)
        omega
      omega
    rw [signed_val, Nat.pow_zero, Nat.mul_one] at u1 u2
    revert u1 u2
    split <;> intros <;> omega
  obtain ⟨R, eR, hR, vR⟩ := whole_rung (sgn double Q) M N hN hMb
  have hsw := sw_d
  have hif := inf_d
  obtain ⟨m', k', e', v', _⟩ := readRung_fin double (sgn double Q) R hR
  have hread : double.read (double.word (sgn double Q) R) = .number (sgn double Q) m' (-1074 + (k' : Int)) := by
    rw [read_word double _ R (by omega), e', least_d]
  obtain ⟨M', eM', z1, z2⟩ := cut_zero (sgn double Q) m' k' N hN
  rw [v', vR] at z1 z2
  have hMM : M' = M := by
    have p1 := Nat.le_of_mul_le_mul_right z1 (Nat.two_pow_pos N)
    have p2 : M < M' + 1 := Nat.lt_of_mul_lt_mul_right z2
    omega
  have hn : n = signed (sgn double Q) M 0 := by
    rw [er, eM] at e
    change floatToIntVal .f64 (double.nearest (sgn double Q) M 0) .i64 = some n at e
    rw [eR] at e
    unfold floatToIntVal at e
    have hint : (FloatKind.f64.decode (double.word (sgn double Q) R)).toInt .zero = some (signed (sgn double Q) M' 0) := by
      have : FloatKind.f64.decode (double.word (sgn double Q) R) = double.read (double.word (sgn double Q) R) := rfl
      rw [this, hread]
      unfold Datum.toInt
      rw [eM']
    rw [hint, hMM] at e
    simp only at e
    split at e
    · exact (Option.some.inj e).symm
    · cases e
  rw [hn]
  generalize signed (sgn double Q) M 0 = z at *
  have e1 : z * (4194304 * (GRN : Int)) = z * 4194304 * (GRN : Int) := by rw [Int.mul_assoc]
  have e2 : (z + 1) * (4194304 * (GRN : Int)) = (z + 1) * 4194304 * (GRN : Int) := by rw [Int.mul_assoc]
  rw [e1] at b1
  rw [e2] at b2
  have t1 : z * 4194304 ≤ hi := Int.le_of_mul_le_mul_right (Int.le_trans b1 g2) hG
  have t2 : lo < (z + 1) * 4194304 := Int.lt_of_mul_lt_mul_right (Int.lt_of_le_of_lt g1 b2) (Int.le_of_lt hG)
  omega
end Go.Proofs.Ytopfeilfgbcihaa
