/- Plain facts on the whole part of a 64-bit number that is not huge, and what is left of it. No program in sight. -/
import Derived.Test.YtopfeilfgbcihaaInt
import Derived.Test.YtopfeilfgbcihaaAng
namespace Go.Proofs.Ytopfeilfgbcihaa
open Ieee
/-- The whole part, toward 0, against the number itself. -/
theorem cut_zero (s : Bool) (m k N : Nat) (hN : N = 1074) : ∃ M, Datum.integral .zero (.number s m (-1074 + (k : Int))) = .number s M 0 ∧ M * 2 ^ N ≤ m * 2 ^ k ∧ m * 2 ^ k < (M + 1) * 2 ^ N := by
  have e0 : Datum.integral .zero (.number s m (-1074 + (k : Int))) = .number s ((m <<< (-1074 + (k : Int)).toNat) / 2 ^ min (-(-1074 + (k : Int))).toNat ((m <<< (-1074 + (k : Int)).toNat).log2 + 2)) 0 := by
    simp only [Datum.integral, Toward.cut, Nat.one_shiftLeft, Bool.toNat_false, Nat.add_zero]
  refine ⟨_, e0, ?_⟩
  rw [Nat.shiftLeft_eq]
  rcases Nat.lt_or_ge k N with hk | hk
  · have e1 : (-1074 + (k : Int)).toNat = 0 := by omega
    have e2 : (-(-1074 + (k : Int))).toNat = N - k := by omega
    rw [e1, e2, Nat.pow_zero, Nat.mul_one]
    have e3 : (2 : Nat) ^ N = 2 ^ (N - k) * 2 ^ k := by rw [← Nat.pow_add]; congr 1; omega
    rw [e3, ← Nat.mul_assoc, ← Nat.mul_assoc]
    rcases Nat.le_total (N - k) (m.log2 + 2) with q | q
    · rw [Nat.min_eq_left q]
      have d := Nat.div_add_mod m (2 ^ (N - k))
      have d2 := Nat.mod_lt m (Nat.two_pow_pos (N - k))
      refine ⟨Nat.mul_le_mul_right _ (Nat.div_mul_le_self _ _), Nat.mul_lt_mul_of_pos_right ?_ (Nat.two_pow_pos k)⟩
      rw [Nat.add_mul, Nat.one_mul, Nat.mul_comm (m / _)]
      omega
    · rw [Nat.min_eq_right q]
      have h5 : m < 2 ^ (m.log2 + 2) := Nat.lt_of_lt_of_le (Nat.lt_log2_self (n := m)) (Nat.pow_le_pow_right (by decide) (by omega))
      rw [Nat.div_eq_of_lt h5, Nat.zero_mul, Nat.zero_mul, Nat.zero_add, Nat.one_mul]
      exact ⟨Nat.zero_le _, Nat.mul_lt_mul_of_pos_right (Nat.lt_of_lt_of_le h5 (Nat.pow_le_pow_right (by decide) q)) (Nat.two_pow_pos k)⟩
  · have e1 : (-1074 + (k : Int)).toNat = k - N := by omega
    have e2 : (-(-1074 + (k : Int))).toNat = 0 := by omega
    rw [e1, e2, Nat.zero_min, Nat.pow_zero, Nat.div_one]
    have e3 : (2 : Nat) ^ k = 2 ^ (k - N) * 2 ^ N := by rw [← Nat.pow_add]; congr 1; omega
    rw [e3, ← Nat.mul_assoc]
    exact ⟨Nat.le_refl _, Nat.mul_lt_mul_of_pos_right (Nat.lt_succ_self _) (Nat.two_pow_pos N)⟩
/-- A number that is not huge: its magnitude is less than 2 to the power of 52. -/
def Small52 (y : Nat) : Prop := nanB .f64 y = false ∧ rng double y < 4841369599423283200
structure Trn (y : Nat) (n : Int) : Prop where
  int : floatToIntVal .f64 y .i64 = some n
  lo : -4503599627370496 ≤ n
  hi : n ≤ 4503599627370496
  zero : n = 0 → (FloatKind.f64.format.order (double.write ((double.read y).integral .zero)) 0 == some .eq) = true
  other : n ≠ 0 → (FloatKind.f64.format.order (double.write ((double.read y).integral .zero)) 0 == some .eq) = false ∧ double.write ((double.read y).integral .zero) = fe n
  rest : Bd (aop .sub .f64 (some y) (some (fe n))) 0
theorem fe_near (n : Int) : fe n = double.nearest (decide (n < 0)) n.natAbs 0 := rfl
theorem whole_rung (s : Bool) (M N : Nat) (hN : N = 1074) (hM : M ≤ 4503599627370496) : ∃ R, double.nearest s M 0 = double.word s R ∧ R < double.infRung ∧ rungVal double R = M * 2 ^ N := by
  obtain ⟨R, h1, h2⟩ := has_double M N (by omega) (by omega)
  refine ⟨R, nearest_exact s M 0 (-1074) R (by omega) (by rw [least_d]; omega) (by omega) ?_, h1, h2⟩
  rw [h2, least_d]
  have e1 : ((0 : Int) - -1074).toNat = N := by omega
  have e2 : ((-1074 : Int) - -1074).toNat = 0 := by decide
  rw [e1, e2, Nat.pow_zero, Nat.mul_one]
/-- The difference of two numbers of one sign that are close. -/
theorem sub_near {s : Bool} {X Y : Nat} {m k m' k' : Nat} (eX : double.read X = .number s m (-1074 + (k : Int))) (eY : double.read Y = .number s m' (-1074 + (k' : Int))) (T : Nat) (hT : T = 1074) (h1 : m' * 2 ^ k' ≤ m * 2 ^ k) (h2 : m * 2 ^ k ≤ m' * 2 ^ k' + 2 ^ T) : Bd (aop .sub .f64 (some X) (some Y)) 0 := fun r hr => by
  have base : min (-1074 + (k : Int)) (-1074 + (k' : Int)) = -1074 + ((min k k' : Nat) : Int) := by omega
  have h3 : (-1074 + (k : Int) - (-1074 + ((min k k' : Nat) : Int))).toNat = k - min k k' := by omega
  have h4 : (-1074 + (k' : Int) - (-1074 + ((min k k' : Nat) : Int))).toNat = k' - min k k' := by omega
  obtain ⟨d, hd, rfl⟩ := Option.map_eq_some_iff.1 (show ((double.read X).sum (double.read Y).opposite).map double.write = some r from hr)
  rw [eX, eY] at hd
  simp only [Datum.opposite, Datum.sum, Option.some.injEq] at hd
  subst hd
  rw [base, h3, h4]
  refine ble_write _ _ _ 0 0 (by omega) ?_
  have e0 : (-1074 + ((min k k' : Nat) : Int) + 1074 + ((0 : Nat) : Int)).toNat = min k k' := by omega
  rw [e0, show 1074 + 0 + 0 = T by omega, signed_val, signed_val]
  have hA : m * 2 ^ (k - min k k') * 2 ^ (min k k') = m * 2 ^ k := by rw [Nat.mul_assoc, ← Nat.pow_add]; congr 2; omega
  have hB : m' * 2 ^ (k' - min k k') * 2 ^ (min k k') = m' * 2 ^ k' := by rw [Nat.mul_assoc, ← Nat.pow_add]; congr 2; omega
  rw [← hA, ← hB] at h1 h2
  generalize m * 2 ^ (k - min k k') = A at *
  generalize m' * 2 ^ (k' - min k k') = B at *
  generalize 2 ^ T = U at *
  generalize hD : 2 ^ min k k' = D at *
  have hDp : 0 < D := by rw [← hD]; exact Nat.two_pow_pos _
  have hle : B ≤ A := Nat.le_of_mul_le_mul_right h1 hDp
  have q : ((if s = true then -(A : Int) else (A : Int)) + if (!s) = true then -(B : Int) else (B : Int)).natAbs = A - B := by
    cases s <;> simp <;> omega
  rw [q, Nat.sub_mul]; omega
theorem trn_ok {y : Nat} (h : Small52 y) : ∃ n, Trn y n := by
  obtain ⟨hn, hr⟩ := h
  obtain ⟨N, hN⟩ : ∃ N, N = 1074 := ⟨_, rfl⟩
  obtain ⟨m, k, e, v, _⟩ := readRung_fin double (sgn double y) (rng double y) (by rw [inf_d]; omega)
  have hread : double.read y = .number (sgn double y) m (-1074 + (k : Int)) := by
    rw [read_eq]
    change readRung double (sgn double y) (rng double y) = _
    rw [e, least_d]
  obtain ⟨M, eM, l, u⟩ := cut_zero (sgn double y) m k N hN
  have hM : M < 4503599627370496 := by
    have h1 : rungVal double (rng double y) < rungVal double 4841369599423283200 := rungVal_lt double hr
    have h2 : rungVal double 4841369599423283200 = 4503599627370496 * 2 ^ N := by
      have p : pw 52 = 4841369599423283200 := by decide
      have := rungVal_pw 52
      rw [p] at this
      rw [this, show 1074 + 52 = 52 + N by omega, Nat.pow_add 2 52]
    rw [← v, h2] at h1
    exact Nat.lt_of_mul_lt_mul_right (Nat.lt_of_le_of_lt l h1)
  obtain ⟨R, eR, hR, vR⟩ := whole_rung (sgn double y) M N hN (by omega)
  have hw : double.write ((double.read y).integral .zero) = double.word (sgn double y) R := by
    rw [hread, eM]; exact eR
  have hint : (FloatKind.f64.decode y).toInt .zero = some (signed (sgn double y) M 0) := by
    have : FloatKind.f64.decode y = double.read y := rfl
    rw [this, hread]
    unfold Datum.toInt
    rw [eM]
  have hsg : signed (sgn double y) M 0 = if sgn double y then -(M : Int) else (M : Int) := by
    rw [signed_val]; simp only [Nat.pow_zero, Nat.mul_one]
  have hfe : M ≠ 0 → fe (signed (sgn double y) M 0) = double.word (sgn double y) R := fun h0 => by
    rw [fe_near, hsg]
    cases hs : sgn double y with
    | true =>
      rw [hs] at eR
      rw [if_pos rfl, decide_eq_true (by omega), Int.natAbs_neg, Int.natAbs_natCast]
      exact eR
    | false =>
      rw [hs] at eR
      rw [if_neg (by decide), decide_eq_false (by omega), Int.natAbs_natCast]
      exact eR
  have hsw := sw_d
  have hR2 : R < double.signWeight := by rw [inf_d] at hR; rw [sw_d]; omega
  have hrw : rng double (double.word (sgn double y) R) = R := rng_word double _ R hR2
  have hnw : nanB .f64 (double.word (sgn double y) R) = false := by
    rw [nanB_rng, f64_fmt, hrw, decide_eq_false_iff_not]; omega
  have hz : (FloatKind.f64.format.order (double.word (sgn double y) R) 0 == some .eq) = decide (R = 0) := by
    rw [is_zero .f64 _ hnw, f64_fmt, hrw]
  have hR0 : R = 0 ↔ M = 0 := by
    have z0 : rungVal double 0 = 0 := by unfold rungVal; rw [if_pos (bin_pos _)]
    constructor
    · rintro rfl
      rw [z0] at vR
      rcases Nat.mul_eq_zero.1 vR.symm with q | q
      · exact q
      · exact absurd q (Nat.ne_of_gt (Nat.two_pow_pos _))
    · rintro rfl
      rw [Nat.zero_mul, ← z0] at vR
      exact rungVal_inj double vR
  refine ⟨signed (sgn double y) M 0, ⟨?_, ?_, ?_, ?_, ?_, ?_⟩⟩
  · unfold floatToIntVal
    rw [hint]
    have c1 : IntKind.min .i64 = -9223372036854775808 := by decide
    have c2 : IntKind.max .i64 = 9223372036854775807 := by decide
    simp only [c1, c2]
    rw [if_pos (by rw [hsg]; split <;> omega)]
  · rw [hsg]; split <;> omega
  · rw [hsg]; split <;> omega
  · intro h0
    rw [hw, hz, decide_eq_true_eq, hR0]
    rw [hsg] at h0
    split at h0 <;> omega
  · intro h0
    have hM0 : M ≠ 0 := by
      rintro rfl
      rw [hsg] at h0
      simp at h0
    exact ⟨by rw [hw, hz, decide_eq_false_iff_not, hR0]; exact hM0, by rw [hw, hfe hM0]⟩
  · by_cases hM0 : M = 0
    · subst hM0
      have e0 : signed (sgn double y) 0 0 = 0 := by rw [hsg]; split <;> simp
      rw [e0]
      intro r hr'
      have hy : Ble y 0 := ⟨hn, by
        refine (rungVal_le_iff double).1 ?_
        rw [rungVal_pw, ← v, show 1074 + 0 = N by omega]
        simp only [Nat.zero_add, Nat.one_mul] at u
        omega⟩
      have hf0 : fe 0 = double.word false 0 := by decide +kernel
      have r0 : double.read (fe 0) = .number false 0 (-1074 + ((0 : Nat) : Int)) := by rw [hf0]; decide +kernel
      obtain ⟨d, hd, rfl⟩ := Option.map_eq_some_iff.1 (show ((double.read y).sum (double.read (fe 0)).opposite).map double.write = some r from hr')
      rw [hread, r0] at hd
      simp only [Datum.opposite, Datum.sum, Option.some.injEq] at hd
      subst hd
      have base : min (-1074 + (k : Int)) (-1074 + ((0 : Nat) : Int)) = -1074 := by omega
      rw [base]
      refine ble_write _ _ _ 0 0 (by omega) ?_
      have e1 : ((-1074 : Int) + 1074 + ((0 : Nat) : Int)).toNat = 0 := by decide
      have e2 : (-1074 + (k : Int) - -1074).toNat = k := by omega
      rw [e1, e2, Nat.pow_zero, Nat.mul_one, signed_val, signed_val, show 1074 + 0 + 0 = N by omega]
      simp only [Nat.zero_add, Nat.one_mul] at u
      have q : ((if sgn double y = true then -((m * 2 ^ k : Nat) : Int) else ((m * 2 ^ k : Nat) : Int)) + if (!false) = true then -((0 * 2 ^ (-1074 + ((0 : Nat) : Int) - -1074).toNat : Nat) : Int) else ((0 * 2 ^ (-1074 + ((0 : Nat) : Int) - -1074).toNat : Nat) : Int)).natAbs = m * 2 ^ k := by
        rw [Nat.zero_mul]
        generalize m * 2 ^ k = z
        cases sgn double y <;> simp
      rw [q]; omega
    · rw [hfe hM0]
      obtain ⟨m', k', e', v', _⟩ := readRung_fin double (sgn double y) R hR
      have hread' : double.read (double.word (sgn double y) R) = .number (sgn double y) m' (-1074 + (k' : Int)) := by
        rw [read_word double _ R hR2, e', least_d]
      refine sub_near hread hread' N hN ?_ ?_
      · rw [v', vR]; exact l
      · rw [v', vR]
        rw [Nat.add_mul, Nat.one_mul] at u
        omega
end Go.Proofs.Ytopfeilfgbcihaa
