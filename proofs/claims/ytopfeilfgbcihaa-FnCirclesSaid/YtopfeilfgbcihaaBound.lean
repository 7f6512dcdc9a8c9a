/- Plain facts on IEEE words: bounds on 64-bit numbers by powers of two, and narrowing that does not overflow. No program in sight. -/
import Derived.Test.YtopfeilfgbcihaaSub
namespace Go.Proofs.Ytopfeilfgbcihaa
open Ieee

/-- The rung of 2 to the power of E. -/
def pw (E : Nat) : Nat := (1022 + E) * 4503599627370496 + 4503599627370496
theorem rungVal_pw (E : Nat) : rungVal double (pw E) = 2 ^ (1074 + E) := by
  have := rungVal_kq double (1022 + E) 4503599627370496 (by rw [bin_d]; omega) (fun _ => by rw [bin_d]; omega)
  rw [bin_d] at this
  unfold pw
  rw [this, show 1074 + E = 52 + (1022 + E) by omega, Nat.pow_add 2 52]
/-- No NaN, and of a magnitude of at most 2 to the power of E. -/
structure Ble (x E : Nat) : Prop where
  num : nanB .f64 x = false
  le : rng double x ≤ pw E
theorem Ble.mono {x E F : Nat} (h : Ble x E) (hE : E ≤ F) : Ble x F := ⟨h.1, Nat.le_trans h.2 (by unfold pw; omega)⟩
theorem pw_lt {E : Nat} (h : E ≤ 1023) : pw E < double.infRung := by rw [inf_d]; unfold pw; omega

/-- What a bounded number reads as. -/
theorem Ble.read {x E : Nat} (h : Ble x E) (hE : E ≤ 1023) : ∃ m k : Nat, double.read x = .number (sgn double x) m (-1074 + (k : Int)) ∧ m * 2 ^ k ≤ 2 ^ (1074 + E) := by
  have hlt : rng double x < double.infRung := Nat.lt_of_le_of_lt h.2 (pw_lt hE)
  obtain ⟨m, k, e, v, _⟩ := readRung_fin double (sgn double x) (rng double x) hlt
  refine ⟨m, k, ?_, ?_⟩
  · rw [read_eq]
    change readRung double (sgn double x) (rng double x) = _
    rw [e, least_d]
  · rw [v, ← rungVal_pw]; exact rungVal_le double h.2

/-- A written number is bounded as the number is. -/
theorem ble_write (s : Bool) (mag : Nat) (place : Int) (E : Nat) (c : Nat) (hc : -1074 - (c : Int) ≤ place) (h : mag * 2 ^ (place + 1074 + c).toNat ≤ 2 ^ (1074 + E + c)) : Ble (double.nearest s mag place) E := by
  have hsum := fair_double.sum
  have hb := bin_pos double
  by_cases hm : mag = 0
  · subst hm
    have e : double.nearest s 0 place = double.word s 0 := by simp [Format.nearest]
    rw [e]
    refine ⟨?_, ?_⟩
    · rw [nanB_rng, f64_fmt, rng_word double s 0 (sw_pos double)]; simp
    · rw [rng_word double s 0 (sw_pos double)]; exact Nat.zero_le _
  · obtain ⟨r, h1, h2, h3⟩ := nearest_spec (f := double) s mag place hm
    have hle := (h3 (-1074 - c) (pw E) hc (by rw [least_d]; omega)).1 (by
      rw [rungVal_pw, least_d, ← Nat.pow_add]
      have e1 : (place - (-1074 - (c : Int))).toNat = (place + 1074 + c).toNat := by congr 1; omega
      have e2 : ((-1074 : Int) - (-1074 - (c : Int))).toNat = c := by omega
      rw [e1, e2]; exact h)
    rw [h2]
    refine ⟨?_, ?_⟩
    · rw [nanB_rng, f64_fmt, rng_word double s r (by omega), decide_eq_false_iff_not]; omega
    · rw [rng_word double s r (by omega)]; exact hle

theorem signed_abs (s : Bool) (m u : Nat) : (signed s m u).natAbs = m * 2 ^ u := by
  rw [signed_val]; cases s <;> simp [Int.natAbs_mul, Int.natAbs_pow]

theorem natAbs_add_le (a b : Int) : (a + b).natAbs ≤ a.natAbs + b.natAbs := by omega

/-- A sum of bounded numbers. -/
theorem ble_sum {a b d : Datum} {sa sb : Bool} {ma mb ka kb E F : Nat} (hE : E ≤ F) (ha : a = .number sa ma (-1074 + (ka : Int))) (hb : b = .number sb mb (-1074 + (kb : Int)))
    (la : ma * 2 ^ ka ≤ 2 ^ (1074 + E)) (lb : mb * 2 ^ kb ≤ 2 ^ (1074 + F)) (h : a.sum b = some d) : Ble (double.write d) (F + 1) := by
  subst ha hb
  simp only [Datum.sum, Option.some.injEq] at h
  subst h
  generalize hbase : min (-1074 + (ka : Int)) (-1074 + (kb : Int)) = base
  have h1 : (-1074 + (ka : Int) - base).toNat = ka - min ka kb := by omega
  have h2 : (-1074 + (kb : Int) - base).toNat = kb - min ka kb := by omega
  have h3 : base = -1074 + ((min ka kb : Nat) : Int) := by omega
  rw [h1, h2]
  refine ble_write _ _ _ (F + 1) 0 (by omega) ?_
  have e0 : (base + 1074 + ((0 : Nat) : Int)).toNat = min ka kb := by omega
  rw [e0, Nat.add_zero]
  have hA : (signed sa ma (ka - min ka kb)).natAbs * 2 ^ (min ka kb) = ma * 2 ^ ka := by
    rw [signed_abs, Nat.mul_assoc, ← Nat.pow_add]; congr 2; omega
  have hB : (signed sb mb (kb - min ka kb)).natAbs * 2 ^ (min ka kb) = mb * 2 ^ kb := by
    rw [signed_abs, Nat.mul_assoc, ← Nat.pow_add]; congr 2; omega
  calc (signed sa ma (ka - min ka kb) + signed sb mb (kb - min ka kb)).natAbs * 2 ^ (min ka kb)
      ≤ ((signed sa ma (ka - min ka kb)).natAbs + (signed sb mb (kb - min ka kb)).natAbs) * 2 ^ (min ka kb) := Nat.mul_le_mul_right _ (natAbs_add_le _ _)
    _ = ma * 2 ^ ka + mb * 2 ^ kb := by rw [Nat.add_mul, hA, hB]
    _ ≤ 2 ^ (1074 + E) + 2 ^ (1074 + F) := Nat.add_le_add la lb
    _ ≤ 2 ^ (1074 + F) + 2 ^ (1074 + F) := Nat.add_le_add_right (Nat.pow_le_pow_right (by decide) (by omega)) _
    _ = 2 ^ (1074 + (F + 1)) := by rw [← Nat.add_assoc, Nat.pow_succ]; omega

theorem Ble.add {x y r E F : Nat} (hx : Ble x E) (hy : Ble y F) (hE : E ≤ F) (hF : F ≤ 1022) (h : floatBits .add .f64 x y = some r) : Ble r (F + 1) := by
  obtain ⟨m, k, e, l⟩ := hx.read (by omega)
  obtain ⟨m', k', e', l'⟩ := hy.read (by omega)
  obtain ⟨d, hd, rfl⟩ := Option.map_eq_some_iff.1 (show ((double.read x).sum (double.read y)).map double.write = some r from h)
  exact ble_sum hE e e' l l' hd
theorem Ble.add' {x y r E F : Nat} (hx : Ble x F) (hy : Ble y E) (hE : E ≤ F) (hF : F ≤ 1022) (h : floatBits .add .f64 x y = some r) : Ble r (F + 1) :=
  hx.add (hy.mono hE) (Nat.le_refl _) hF h
theorem Ble.sub {x y r E F : Nat} (hx : Ble x E) (hy : Ble y F) (hE : E ≤ F) (hF : F ≤ 1022) (h : floatBits .sub .f64 x y = some r) : Ble r (F + 1) := by
  obtain ⟨m, k, e, l⟩ := hx.read (by omega)
  obtain ⟨m', k', e', l'⟩ := hy.read (by omega)
  obtain ⟨d, hd, rfl⟩ := Option.map_eq_some_iff.1 (show ((double.read x).sum (double.read y).opposite).map double.write = some r from h)
  exact ble_sum hE e (by rw [e']; rfl) l l' hd
theorem Ble.sub' {x y r E F : Nat} (hx : Ble x F) (hy : Ble y E) (hE : E ≤ F) (hF : F ≤ 1022) (h : floatBits .sub .f64 x y = some r) : Ble r (F + 1) :=
  hx.sub (hy.mono hE) (Nat.le_refl _) hF h

theorem Ble.mul {x y r E F : Nat} (hx : Ble x E) (hy : Ble y F) (hF : E + F ≤ 1023) (h : floatBits .mul .f64 x y = some r) : Ble r (E + F) := by
  obtain ⟨m, k, e, l⟩ := hx.read (by omega)
  obtain ⟨m', k', e', l'⟩ := hy.read (by omega)
  obtain ⟨d, hd, rfl⟩ := Option.map_eq_some_iff.1 (show ((double.read x).product (double.read y)).map double.write = some r from h)
  rw [e, e'] at hd
  simp only [Datum.product, Option.some.injEq] at hd
  subst hd
  refine ble_write _ _ _ (E + F) 1074 (by omega) ?_
  have e0 : (-1074 + (k : Int) + (-1074 + (k' : Int)) + 1074 + ((1074 : Nat) : Int)).toNat = k + k' := by omega
  rw [e0, Nat.pow_add, show m * m' * (2 ^ k * 2 ^ k') = (m * 2 ^ k) * (m' * 2 ^ k') from Nat.mul_mul_mul_comm ..]
  refine Nat.le_trans (Nat.mul_le_mul l l') ?_
  rw [← Nat.pow_add]
  exact Nat.pow_le_pow_right (by decide) (by omega)

/-! ### Narrowing -/
theorem rungVal_s127 (n : Nat) (hn : n = 23 + 253) : rungVal single 2130706432 = 2 ^ n := by
  have h := rungVal_kq single 253 8388608 (by rw [bin_s]; omega) (fun _ => by rw [bin_s]; omega)
  rw [bin_s] at h
  have e := pow_sum 23 253 n hn
  rw [e]
  exact h

/-- A number of at most 2 to the power of 127 is narrowed without overflow. -/
theorem narrow_ok {x : Nat} (h : Ble x 127) : (floatToFloatBits .f64 x .f32).isSome = true := by
  obtain ⟨m, k, e, l⟩ := h.read (by omega)
  have hdec : FloatKind.f64.decode x = .number (sgn double x) m (-1074 + (k : Int)) := e
  have hsum := fair_single.sum
  have hb := bin_pos single
  unfold floatToFloatBits
  rw [if_neg (by decide), hdec]
  have hni : ((FloatKind.f32.decode (FloatKind.f32.encode (.number (sgn double x) m (-1074 + (k : Int))))).isInfinity) = false := by
    show (single.read (single.nearest _ _ _)).isInfinity = false
    have hr : ∃ r, r < single.infRung ∧ single.nearest (sgn double x) m (-1074 + (k : Int)) = single.word (sgn double x) r := by
      by_cases hm : m = 0
      · subst hm; exact ⟨0, by rw [inf_s]; omega, by simp [Format.nearest]⟩
      · obtain ⟨r, h1, h2, h3⟩ := nearest_spec (f := single) (sgn double x) m (-1074 + (k : Int)) hm
        obtain ⟨n, hn⟩ : ∃ n, n = 23 + 253 := ⟨_, rfl⟩
        have hrv := rungVal_s127 n hn
        obtain ⟨N, hN⟩ : ∃ N, N = 1074 + 127 := ⟨_, rfl⟩
        rw [← hN] at l
        have hle := (h3 (-1074) 2130706432 (by omega) (by rw [least_s]; omega)).1 (by
          rw [hrv, least_s, ← Nat.pow_add]
          have e1 : (-1074 + (k : Int) - -1074).toNat = k := by omega
          have e2 : ((-149 : Int) - -1074).toNat = 925 := by decide
          rw [e1, e2]; exact Nat.le_trans l (Nat.pow_le_pow_right (by decide) (by omega)))
        exact ⟨r, by rw [inf_s]; omega, h2⟩
    obtain ⟨r, hr, e2⟩ := hr
    rw [e2, read_word single _ r (by omega)]
    obtain ⟨m', k', e3, _⟩ := readRung_fin single (sgn double x) r hr
    rw [e3]; rfl
  show (if _ then none else some _ : Option Nat).isSome = true
  rw [if_neg (by rw [hni]; decide)]
  rfl

theorem av_narrow (x : Nat) (w : World) (h : nanB .f64 x = true ∨ Ble x 127 ∨ rng double x = double.infRung) : av .f32 (cval .f64 x .f32 w) = acv .f64 .f32 (av .f64 x) := by
  refine av_cval .f64 .f32 x w (by decide) ?_
  rcases h with h | h | h
  · exact .inl h
  · exact .inr (narrow_ok h)
  · right
    have hdec : FloatKind.f64.decode x = .infinity (sgn double x) := by
      show double.read x = _
      rw [read_eq]
      change readRung double (sgn double x) (rng double x) = _
      rw [h, readRung_inf double fair_double]
    unfold floatToFloatBits
    rw [if_neg (by decide), hdec]
    rfl

end Go.Proofs.Ytopfeilfgbcihaa
