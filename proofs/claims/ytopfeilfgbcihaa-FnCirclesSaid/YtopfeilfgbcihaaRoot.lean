/- Plain facts on IEEE words: the square root of a bounded number. No program in sight. -/
import Derived.Test.YtopfeilfgbcihaaBound
namespace Go.Proofs.Ytopfeilfgbcihaa
open Ieee

theorem rootFrom_sq (n : Nat) : ∀ (todo root : Nat), root * root ≤ n → Datum.rootFrom n todo root * Datum.rootFrom n todo root ≤ n
  | 0, root, h => h
  | todo + 1, root, h => by
    unfold Datum.rootFrom
    simp only
    split
    · exact rootFrom_sq n todo _ (by assumption)
    · exact rootFrom_sq n todo _ h

theorem sq_le_pow {a b : Nat} (h : a * a ≤ 2 ^ (b + b)) : a ≤ 2 ^ b := by
  rw [Nat.pow_add] at h
  exact Nat.le_of_not_lt fun h' => by
    have := Nat.mul_lt_mul_of_lt_of_le h' (Nat.le_of_lt h') (Nat.lt_trans (Nat.two_pow_pos b) h')
    omega

/-- The root of a number of at most 2 to the power of 128 is at most 2 to the power of 65. -/
theorem root_ble {x r : Nat} (h : Ble x 128) (hr : FloatKind.f64.format.sqrt x = some r) : Ble r 65 := by
  obtain ⟨m, k, e, l⟩ := h.read (by omega)
  obtain ⟨M, hM⟩ : ∃ M, M = 1074 + 128 := ⟨_, rfl⟩
  rw [← hM] at l
  obtain ⟨d, hd, rfl⟩ := Option.map_eq_some_iff.1 (show ((double.read x).root (double.fractionBits + 2)).map double.write = some r from hr)
  rw [e] at hd
  unfold Datum.root at hd
  simp only at hd
  by_cases hm : m = 0
  · subst hm
    rw [if_pos rfl] at hd
    cases hd
    exact ble_write _ _ _ 65 1074 (by omega) (by rw [Nat.zero_mul]; exact Nat.zero_le _)
  rw [if_neg hm] at hd
  by_cases hs : sgn double x = true
  · rw [if_pos hs] at hd; cases hd
  rw [if_neg hs] at hd
  simp only [Option.some.injEq] at hd
  have hfb : double.fractionBits = 52 := rfl
  rw [hfb] at hd
  subst hd
  have hlo := Nat.log2_self_le hm
  have hlog : m.log2 + k ≤ 1202 := by
    have : 2 ^ (m.log2 + k) ≤ 2 ^ M := by
      rw [Nat.pow_add]; exact Nat.le_trans (Nat.mul_le_mul_right _ hlo) l
    have := (Nat.pow_le_pow_iff_right (by decide : 1 < 2)).1 this
    omega
  generalize hmo : 2 * (52 + 2) - m.log2 = mo
  generalize hev : ((-1074 + (k : Int) - (mo : Int)) % 2).toNat = ev
  have hev1 : (-1074 + (k : Int) - ((mo + ev : Nat) : Int)) % 2 = 0 := by omega
  generalize hn : m <<< (mo + ev) = n
  have hw := rootFrom_sq n (n.log2 / 2 + 1) 0 (Nat.zero_le _)
  generalize Datum.rootFrom n (n.log2 / 2 + 1) 0 = whole at *
  obtain ⟨hh, hhh⟩ : ∃ hh : Int, (-1074 + (k : Int) - ((mo + ev : Nat) : Int)) = 2 * hh := ⟨(-1074 + (k : Int) - ((mo + ev : Nat) : Int)) / 2, by omega⟩
  have hdiv : (-1074 + (k : Int) - ((mo + ev : Nat) : Int)) / 2 = hh := by omega
  have hcast' : ∀ z : Int, z = -1074 + (k : Int) - ((mo + ev : Nat) : Int) → z / 2 - 1 = hh - 1 := by intro z hz; omega
  -- the place: low enough
  have hb1 : 2 * hh ≤ 2 * 64 - 2 := by omega
  have hb2 : -1074 - (1074 : Int) ≤ hh - 1 := by omega
  rw [Nat.shiftLeft_eq] at hn
  -- whole * 2 ^ (hh + c) is at most 2 ^ (64 + c)
  obtain ⟨N, hN⟩ : ∃ N, N = 64 + 2000 := ⟨_, rfl⟩
  have hsq : whole * 2 ^ (hh + 2000).toNat ≤ 2 ^ N := by
    refine sq_le_pow ?_
    have e1 : whole * 2 ^ (hh + 2000).toNat * (whole * 2 ^ (hh + 2000).toNat) = whole * whole * (2 ^ (hh + 2000).toNat * 2 ^ (hh + 2000).toNat) := Nat.mul_mul_mul_comm ..
    rw [e1, ← Nat.pow_add]
    refine Nat.le_trans (Nat.mul_le_mul_right _ hw) ?_
    rw [← hn, Nat.mul_assoc, ← Nat.pow_add]
    obtain ⟨D, hD⟩ : ∃ D, D = 2926 := ⟨_, rfl⟩
    have e2 : mo + ev + ((hh + 2000).toNat + (hh + 2000).toNat) = k + D := by omega
    rw [e2, Nat.pow_add 2 k, ← Nat.mul_assoc]
    refine Nat.le_trans (Nat.mul_le_mul_right _ l) ?_
    rw [← Nat.pow_add]
    exact Nat.pow_le_pow_right (by decide) (by omega)
  refine ble_write _ _ _ 65 1074 (by omega) ?_
  rw [hcast' _ (by omega)]
  obtain ⟨Z, hZ⟩ : ∃ Z, Z = 1074 + 65 + 1074 := ⟨_, rfl⟩
  rw [← hZ]
  obtain ⟨A, hA⟩ : ∃ A, A = (hh + 2000).toNat := ⟨_, rfl⟩
  rw [← hA] at hsq
  have e3 : (hh - 1 + 1074 + ((1074 : Nat) : Int)).toNat = A + 147 := by omega
  rw [e3]
  have hst : (whole * whole != n).toNat ≤ 1 := Bool.toNat_le _
  generalize (whole * whole != n).toNat = st at *
  have hA2 : 2 ^ A ≤ 2 ^ N := Nat.pow_le_pow_right (by decide) (by omega)
  have h1 : (2 * whole + st) * 2 ^ A ≤ 2 ^ (N + 2) := by
    have : (2 * whole + st) * 2 ^ A ≤ (2 * whole + 1) * 2 ^ A := Nat.mul_le_mul_right _ (by omega)
    refine Nat.le_trans this ?_
    rw [Nat.add_mul, Nat.mul_assoc, Nat.one_mul, Nat.pow_add]
    omega
  rw [Nat.pow_add 2 A, ← Nat.mul_assoc]
  refine Nat.le_trans (Nat.mul_le_mul_right _ h1) ?_
  rw [← Nat.pow_add]
  exact Nat.pow_le_pow_right (by decide) (by omega)

/-- A widened number is at most 2 to the power of 128. -/
theorem wide_ble {x : Nat} (w : World) (hx : nanB .f32 x = false) (hlt : rng single x < single.infRung) : Ble (cval .f32 x .f64 w) 128 := by
  obtain ⟨R, e, _, _, h1, _⟩ := cval_wide x w hx
  obtain ⟨hR, hv⟩ := h1 hlt
  have hsum := fair_double.sum
  have hb := bin_pos double
  obtain ⟨m, k, hm, hk, hs⟩ := rung_of_small hlt
  rw [e]
  refine ⟨?_, ?_⟩
  · rw [nanB_rng, f64_fmt, rng_word double _ R (by omega), decide_eq_false_iff_not]; omega
  · rw [rng_word double _ R (by omega)]
    refine (rungVal_le_iff double).1 ?_
    obtain ⟨M, hM⟩ : ∃ M, M = 1074 + 128 := ⟨_, rfl⟩
    obtain ⟨Q, hQ⟩ : ∃ Q, Q = 925 := ⟨_, rfl⟩
    rw [← hQ] at hv
    rw [rungVal_pw, hv, hs, ← hM, Nat.mul_assoc, ← Nat.pow_add]
    have h2 : m * 2 ^ (k + Q) ≤ 2 ^ 24 * 2 ^ (k + Q) := Nat.mul_le_mul_right _ (Nat.le_of_lt hm)
    refine Nat.le_trans h2 ?_
    rw [← Nat.pow_add]
    exact Nat.pow_le_pow_right (by decide) (by omega)

theorem nan_rval (x : Nat) (w : World) (h : FloatKind.f64.format.sqrt x = none) : nanB .f64 (rval x w) = true := by
  unfold rval; rw [h]; exact nan_bits .f64 x x w

/-- The root of a widened number, narrowed: up to the choice of a NaN a function of the number. -/
theorem root_narrow (x : Nat) (w1 w2 w3 : World) : av .f32 (cval .f64 (rval (cval .f32 x .f64 w1) w2) .f32 w3) = acv .f64 .f32 (art (acv .f32 .f64 (av .f32 x))) := by
  rw [av_narrow, av_rval, av_wide]
  cases hs : FloatKind.f64.format.sqrt (cval .f32 x .f64 w1) with
  | none => exact .inl (nan_rval _ _ hs)
  | some r =>
    have e : rval (cval .f32 x .f64 w1) w2 = r := by unfold rval; rw [hs]; rfl
    rw [e]
    by_cases hx : nanB .f32 x = true
    · have hn := nan_cval x w1 hx
      obtain ⟨d, hd, _⟩ := Option.map_eq_some_iff.1 (show ((double.read (cval .f32 x .f64 w1)).root (double.fractionBits + 2)).map double.write = some r from hs)
      have := (root_not_nan hd).1
      have h2 : nanB .f64 (cval .f32 x .f64 w1) = false := this
      rw [hn] at h2; cases h2
    · have hx' : nanB .f32 x = false := by simpa using hx
      rcases Nat.lt_or_ge (rng single x) single.infRung with hlt | hge
      · exact .inr (.inl ((root_ble (wide_ble w1 hx' hlt) hs).mono (by omega)))
      · have hinf : rng single x = single.infRung := by
          rw [nanB_rng, decide_eq_false_iff_not, f32_fmt] at hx'; omega
        obtain ⟨R, e1, _, _, _, h3⟩ := cval_wide x w1 hx'
        rw [h3 hinf] at e1
        right; right
        rw [e1] at hs
        have hsum := fair_double.sum
        have hb := bin_pos double
        have hrd : double.read (double.word (sgn single x) double.infRung) = .infinity (sgn single x) := by
          rw [read_word double _ _ (by omega), readRung_inf double fair_double]
        obtain ⟨d, hd, rfl⟩ := Option.map_eq_some_iff.1 (show ((double.read (double.word (sgn single x) double.infRung)).root (double.fractionBits + 2)).map double.write = some r from hs)
        rw [hrd] at hd
        unfold Datum.root at hd
        simp only at hd
        by_cases hsg : sgn single x = true
        · rw [if_pos hsg] at hd; cases hd
        · rw [if_neg hsg] at hd
          cases hd
          exact rng_word double _ _ (by omega)

end Go.Proofs.Ytopfeilfgbcihaa
