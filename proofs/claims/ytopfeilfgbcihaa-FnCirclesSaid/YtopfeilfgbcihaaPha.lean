/- The quarters of a turn, in plain words. No program in sight. -/
import Derived.Test.YtopfeilfgbcihaaSin
namespace Go.Proofs.Ytopfeilfgbcihaa
open Ieee
/-- A number that is negative, or at most j quarters. -/
def Low (F j : Nat) : Prop := sgn double F = true ∨ rungVal double (rng double F) ≤ j * 2 ^ (4 * 268)
theorem rung_quarter (N : Nat) (hN : N = 4 * 268) : rungVal double 4598175219545276416 = 2 ^ N := by
  obtain ⟨K, hK⟩ : ∃ K, K = 1020 := ⟨_, rfl⟩
  have h := rungVal_kq double K 4503599627370496 (by rw [bin_d]; omega) (fun _ => by rw [bin_d]; omega)
  rw [bin_d] at h
  rw [show (4598175219545276416 : Nat) = K * 4503599627370496 + 4503599627370496 by rw [hK], h]
  rw [show N = 52 + K by omega, Nat.pow_add 2 52]
theorem low_8 {F : Nat} (h : Ble F 1) : Low F 8 := by
  right
  obtain ⟨N, hN⟩ : ∃ N, N = 4 * 268 := ⟨_, rfl⟩
  have := rungVal_le double h.2
  rw [rungVal_pw] at this
  rw [← hN]
  rw [show 1074 + 1 = 3 + N by omega, Nat.pow_add 2 3] at this
  exact this
theorem quarter_step {F j : Nat} (h : Ble F 1) (hg : geA (some F) 4598175219545276416 = true) (hl : Low F j) (hj : j ≤ 8) : ∃ r, floatBits .sub .f64 F 4598175219545276416 = some r ∧ Ble r 1 ∧ 1 ≤ j ∧ Low r (j - 1) := by
  obtain ⟨N, hN⟩ : ∃ N, N = 4 * 268 := ⟨_, rfl⟩
  have nq : nanB .f64 4598175219545276416 = false := nan_small (by omega)
  have hord : FloatKind.f64.format.order F 4598175219545276416 = some (compare (sr double F) 4598175219545276416) := by
    have sq : sr double 4598175219545276416 = 4598175219545276416 := sr_small (by omega)
    rw [order_sr .f64 F _ h.1 nq, f64_fmt, sq]
  have hge : (4598175219545276416 : Int) ≤ sr double F := by
    have e : geA (some F) 4598175219545276416 = (FloatKind.f64.format.order F 4598175219545276416 == some .gt || FloatKind.f64.format.order F 4598175219545276416 == some .eq) := rfl
    rw [e, hord] at hg
    rcases Int.lt_or_le (sr double F) 4598175219545276416 with q | q
    · rw [show compare (sr double F) 4598175219545276416 = .lt by rw [Int.compare_eq_lt]; omega] at hg; cases hg
    · exact q
  have hs : sgn double F = false := by
    cases hq : sgn double F with
    | false => rfl
    | true => unfold sr at hge; rw [hq, if_pos rfl] at hge; omega
  have hr : (4598175219545276416 : Nat) ≤ rng double F := by
    unfold sr at hge; rw [hs, if_neg (by decide)] at hge; omega
  have hA : rungVal double (rng double F) ≤ j * 2 ^ N := by
    rcases hl with q | q
    · rw [hs] at q; cases q
    · rwa [← hN] at q
  have hq1 := rungVal_le double hr
  rw [rung_quarter N hN] at hq1
  have hj1 : 1 ≤ j := by
    rcases Nat.eq_zero_or_pos j with q | q
    · subst q; have := Nat.two_pow_pos N; omega
    · exact q
  have hinf := pw_lt (E := 1) (by omega)
  obtain ⟨m, k, e, v, _⟩ := readRung_fin double (sgn double F) (rng double F) (Nat.lt_of_le_of_lt h.2 hinf)
  have hread : double.read F = .number false m (-1074 + (k : Int)) := by
    rw [read_eq]
    change readRung double (sgn double F) (rng double F) = _
    rw [e, least_d, hs]
  obtain ⟨m', k', e', v'⟩ := read_pos (X := 4598175219545276416) (by omega)
  rw [rung_quarter N hN] at v'
  have base : min (-1074 + (k : Int)) (-1074 + (k' : Int)) = -1074 + ((min k k' : Nat) : Int) := by omega
  have h3 : (-1074 + (k : Int) - (-1074 + ((min k k' : Nat) : Int))).toNat = k - min k k' := by omega
  have h4 : (-1074 + (k' : Int) - (-1074 + ((min k k' : Nat) : Int))).toNat = k' - min k k' := by omega
  have hA2 : m * 2 ^ (k - min k k') * 2 ^ (min k k') = rungVal double (rng double F) := by rw [← v, Nat.mul_assoc, ← Nat.pow_add]; congr 2; omega
  have hB2 : m' * 2 ^ (k' - min k k') * 2 ^ (min k k') = 2 ^ N := by rw [← v', Nat.mul_assoc, ← Nat.pow_add]; congr 2; omega
  have hle : m' * 2 ^ (k' - min k k') ≤ m * 2 ^ (k - min k k') := Nat.le_of_mul_le_mul_right (by rw [hA2, hB2]; exact hq1) (Nat.two_pow_pos (min k k'))
  have hsub : floatBits .sub .f64 F 4598175219545276416 = some (double.nearest false (m * 2 ^ (k - min k k') - m' * 2 ^ (k' - min k k')) (-1074 + ((min k k' : Nat) : Int))) := by
    show ((double.read F).sum (double.read 4598175219545276416).opposite).map double.write = _
    rw [hread, e']
    simp only [Datum.opposite, Datum.sum, Option.map_some, Option.some.injEq]
    rw [base, h3, h4, signed_val, signed_val]
    simp only [Bool.false_eq_true, if_false, Bool.not_false, if_true]
    change double.nearest _ _ _ = _
    congr 1
    · split
      · rfl
      · exact decide_eq_false (by omega)
    · omega
  refine ⟨_, hsub, ?_⟩
  have hval : (m * 2 ^ (k - min k k') - m' * 2 ^ (k' - min k k')) * 2 ^ (min k k') ≤ (j - 1) * 2 ^ N := by
    rw [Nat.sub_mul, hA2, hB2, Nat.sub_mul, Nat.one_mul]
    omega
  generalize m * 2 ^ (k - min k k') - m' * 2 ^ (k' - min k k') = d at *
  obtain ⟨R, hR1, hR2⟩ := has_double (j - 1) N (by omega) (by omega)
  have key : double.nearest false d (-1074 + ((min k k' : Nat) : Int)) ≤ R ∧ double.nearest false d (-1074 + ((min k k' : Nat) : Int)) < 9223372036854775808 := by
    refine ⟨?_, near_small _ _⟩
    by_cases hd : d = 0
    · subst hd
      have : double.nearest false 0 (-1074 + ((min k k' : Nat) : Int)) = double.word false 0 := by simp [Format.nearest]
      rw [this, dword]
      exact Nat.zero_le _
    · obtain ⟨r, r1, r2, r3⟩ := nearest_spec (f := double) false d (-1074 + ((min k k' : Nat) : Int)) hd
      rw [r2, dword]
      refine (r3 (-1074) R (by omega) (by rw [least_d]; omega)).1 ?_
      have e1 : (-1074 + ((min k k' : Nat) : Int) - -1074).toNat = min k k' := by omega
      have e2 : ((-1074 : Int) - -1074).toNat = 0 := by decide
      rw [e1, least_d, e2, Nat.pow_zero, Nat.mul_one, hR2]
      exact hval
  obtain ⟨k1, k2⟩ := key
  generalize double.nearest false d (-1074 + ((min k k' : Nat) : Int)) = r at *
  rw [inf_d] at hR1
  have hrv := rungVal_le double k1
  rw [hR2] at hrv
  refine ⟨⟨nan_small (by omega), ?_⟩, hj1, .inr ?_⟩
  · rw [rng_small k2]
    refine (rungVal_le_iff double).1 (Nat.le_trans hrv ?_)
    rw [rungVal_pw, show 1074 + 1 = 3 + N by omega, Nat.pow_add 2 3]
    exact Nat.mul_le_mul_right _ (by omega)
  · rw [rng_small k2, ← hN]; exact hrv
/-- What is left when i quarters have been taken. -/
def qF (F : Nat) : Nat → Nat
  | 0 => F
  | i + 1 => (floatBits .sub .f64 (qF F i) 4598175219545276416).getD 0
/-- How many quarters there are. -/
structure IsQ (F k : Nat) : Prop where
  less : ∀ i, i < k → geA (some (qF F i)) 4598175219545276416 = true ∧ floatBits .sub .f64 (qF F i) 4598175219545276416 = some (qF F (i + 1))
  last : geA (some (qF F k)) 4598175219545276416 = false
  ble : ∀ i, i ≤ k → Ble (qF F i) 1
  few : k ≤ 8
theorem isQ_ok {F : Nat} (h : Ble F 1) : ∃ k, IsQ F k := by
  have go : ∀ (j i : Nat), j + i ≤ 8 → (∀ t, t < i → geA (some (qF F t)) 4598175219545276416 = true ∧ floatBits .sub .f64 (qF F t) 4598175219545276416 = some (qF F (t + 1))) → (∀ t, t ≤ i → Ble (qF F t) 1) → Low (qF F i) j → ∃ k, IsQ F k := by
    intro j
    induction j with
    | zero =>
      intro i hi hl hb hlow
      cases hg : geA (some (qF F i)) 4598175219545276416 with
      | false => exact ⟨i, hl, hg, hb, by omega⟩
      | true => obtain ⟨_, _, _, h1, _⟩ := quarter_step (hb i (Nat.le_refl _)) hg hlow (by omega); omega
    | succ j ih =>
      intro i hi hl hb hlow
      cases hg : geA (some (qF F i)) 4598175219545276416 with
      | false => exact ⟨i, hl, hg, hb, by omega⟩
      | true =>
        obtain ⟨r, e, b, _, hr⟩ := quarter_step (hb i (Nat.le_refl _)) hg hlow (by omega)
        have hq : qF F (i + 1) = r := by show (floatBits .sub .f64 (qF F i) 4598175219545276416).getD 0 = r; rw [e]; rfl
        refine ih (i + 1) (by omega) (fun t ht => ?_) (fun t ht => ?_) (by rw [hq]; exact hr)
        · rcases Nat.lt_or_ge t i with q | q
          · exact hl t q
          · obtain rfl : t = i := by omega
            exact ⟨hg, by rw [hq]; exact e⟩
        · rcases Nat.lt_or_ge t (i + 1) with q | q
          · exact hb t (by omega)
          · obtain rfl : t = i + 1 := by omega
            rw [hq]; exact b
  exact go 8 0 (by omega) (fun t ht => absurd ht (Nat.not_lt_zero _)) (fun t ht => by obtain rfl : t = 0 := (by omega); exact h) (low_8 h)
theorem small_ble {x E : Nat} (h : Ble x E) (hE : E ≤ 50) : Small52 x := by
  refine ⟨h.1, Nat.lt_of_le_of_lt h.2 ?_⟩
  unfold pw; omega
/-- All that the point of some turns is made of. -/
structure Pha (y F k X : Nat) (n n1 n2 : Int) : Prop where
  trn : Trn y n
  f1 : f1A y n = some F
  q : IsQ F k
  x : floatBits .sub .f64 4598175219545276416 (qF F k) = some X
  sx : Small52 X
  sf : Small52 (qF F k)
  t1 : Trn X n1
  t2 : Trn (qF F k) n2
theorem pha_ok {y : Nat} (h : Small52 y) : ∃ F k X n n1 n2, Pha y F k X n n1 n2 := by
  obtain ⟨n, hT⟩ := trn_ok h
  have p0 : pw 0 = 4607182418800017408 := by decide
  have p52 : pw 52 = 4841369599423283200 := by decide
  have hy : Ble y 52 := ⟨h.1, by have := h.2; omega⟩
  have hf0 : ∃ r, f0A y n = some r := by
    obtain ⟨m, k, e, _⟩ := hy.read (by omega)
    have hfe : rng double (fe n) < double.infRung := by
      have hlo := hT.lo
      have hhi := hT.hi
      obtain ⟨R, eR, hR, _⟩ := whole_rung (decide (n < 0)) n.natAbs 1074 rfl (by omega)
      rw [fe_near, eR, rng_word double _ R (by rw [inf_d] at hR; rw [sw_d]; omega)]
      exact hR
    obtain ⟨m', k', e', _⟩ := readRung_fin double (sgn double (fe n)) (rng double (fe n)) hfe
    have hread : double.read (fe n) = .number (sgn double (fe n)) m' (-1074 + (k' : Int)) := by
      rw [read_eq]
      change readRung double (sgn double (fe n)) (rng double (fe n)) = _
      rw [e', least_d]
    refine ⟨_, show ((double.read y).sum (double.read (fe n)).opposite).map double.write = _ by rw [e, hread]; rfl⟩
  obtain ⟨r0, e0⟩ := hf0
  have b0 : Ble r0 0 := hT.rest r0 e0
  have hF : ∃ F, f1A y n = some F := by
    unfold f1A
    split
    · obtain ⟨F, e, _⟩ := OkA.add (G := 0) ⟨r0, e0, b0⟩ (ok_small (X := 4607182418800017408) (E := 0) (by rw [p0]; omega) (by omega)) (by omega) (by omega) (by omega)
      exact ⟨F, e⟩
    · exact ⟨r0, e0⟩
  obtain ⟨F, eF⟩ := hF
  obtain ⟨k, hq⟩ := isQ_ok (f1_bd hT F eF)
  have bq := hq.ble k (Nat.le_refl _)
  obtain ⟨X, eX, bX⟩ := OkA.sub (G := 1) (ok_small (X := 4598175219545276416) (E := 0) (by rw [p0]; omega) (by omega)) ⟨qF F k, rfl, bq⟩ (by omega) (by omega) (by omega)
  have sX := small_ble bX (by omega)
  have sF := small_ble bq (by omega)
  obtain ⟨n1, h1⟩ := trn_ok sX
  obtain ⟨n2, h2⟩ := trn_ok sF
  exact ⟨F, k, X, n, n1, n2, hT, eF, hq, eX, sX, sF, h1, h2⟩
/-- The parts of the point. -/
def ng0 (o : Option Nat) : Option Nat := aop .sub .f64 (some 0) o
def reA (k : Nat) (c s : Option Nat) : Option Nat := if k = 1 then ng0 s else if k = 2 then ng0 c else if k = 3 then s else c
def imA (k : Nat) (c s : Option Nat) : Option Nat := if k = 1 then c else if k = 2 then ng0 s else if k = 3 then ng0 c else s
theorem ng0_bd {o : Option Nat} (h : Bd o 120) : Bd (ng0 o) 121 := Bd.sub (G := 120) (bd_small (E := 0) (Nat.zero_le _) (by omega)) h (by omega) (by omega) (by omega)
theorem reA_bd {c s : Option Nat} (hc : Bd c 120) (hs : Bd s 120) (k : Nat) : Bd (reA k c s) 121 := by
  unfold reA
  split
  · exact ng0_bd hs
  split
  · exact ng0_bd hc
  split
  · exact hs.mono (by omega)
  · exact hc.mono (by omega)
theorem imA_bd {c s : Option Nat} (hc : Bd c 120) (hs : Bd s 120) (k : Nat) : Bd (imA k c s) 121 := by
  unfold imA
  split
  · exact hc.mono (by omega)
  split
  · exact ng0_bd hs
  split
  · exact ng0_bd hc
  · exact hs.mono (by omega)
end Go.Proofs.Ytopfeilfgbcihaa
