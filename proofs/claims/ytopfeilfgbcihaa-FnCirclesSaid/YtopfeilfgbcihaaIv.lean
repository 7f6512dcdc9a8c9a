/- 64-bit numbers between bounds that are multiples of 2 to the power of -22. No program in sight. -/
import Derived.Test.YtopfeilfgbcihaaTrn
import Derived.Test.YtopfeilfgbcihaaLogB
namespace Go.Proofs.Ytopfeilfgbcihaa
open Ieee
set_option linter.unusedVariables false
def gexp : Nat := 1052
/-- 2 to the power of -22, in units of the least place. -/
def GRN : Nat := 2 ^ gexp
theorem GRN_pos : 0 < GRN := Nat.two_pow_pos gexp
theorem GRN_at (N : Nat) (h : N = 1052) : GRN = 2 ^ N := by
  have e : N = gexp := h
  rw [e]; rfl
theorem GRN_int : (0 : Int) < (GRN : Int) := Int.natCast_pos.2 GRN_pos
theorem GRN_up : (2 : Nat) ^ 1074 = 4194304 * GRN := by decide +kernel
/-- A finite number, in units of the least place. -/
def svd (x : Nat) : Int := if sgn double x then -((rungVal double (rng double x) : Nat) : Int) else ((rungVal double (rng double x) : Nat) : Int)
structure In (x : Nat) (a b : Int) : Prop where
  fin : rng double x < double.infRung
  lo : a * (GRN : Int) ≤ svd x
  hi : svd x ≤ b * (GRN : Int)
/-- What rounding leaves in place. -/
structure Faith (r mag : Nat) (place : Int) : Prop where
  le : r ≤ double.infRung
  at_ : ∀ (B : Int) (R : Nat), B ≤ place → B ≤ double.leastPlace →
      (mag * 2 ^ (place - B).toNat ≤ rungVal double R * 2 ^ (double.leastPlace - B).toNat → r ≤ R) ∧
      (R ≤ double.infRung → rungVal double R * 2 ^ (double.leastPlace - B).toNat ≤ mag * 2 ^ (place - B).toNat → R ≤ r)
theorem faith_up {r mag : Nat} {place : Int} (h : Faith r mag place) (c U : Nat) (hc : -1074 - (c : Int) ≤ place) (hU : U ≤ 4503599627370496) (hv : mag * 2 ^ (place + 1074 + (c : Int)).toNat ≤ U * GRN * 2 ^ c) : r < double.infRung ∧ rungVal double r ≤ U * GRN := by
  obtain ⟨N, hN⟩ : ∃ N, N = 1052 := ⟨_, rfl⟩
  obtain ⟨R, h1, h2⟩ := has_double U N (by omega) (by omega)
  rw [GRN_at N hN] at hv ⊢
  have e1 : (place - (-1074 - (c : Int))).toNat = (place + 1074 + (c : Int)).toNat := by congr 1; omega
  have e2 : ((-1074 : Int) - (-1074 - (c : Int))).toNat = c := by omega
  have := (h.at_ (-1074 - c) R hc (by rw [least_d]; omega)).1 (by rw [least_d, e1, e2, h2]; exact hv)
  exact ⟨by omega, by rw [← h2]; exact rungVal_le double this⟩
theorem faith_lo {r mag : Nat} {place : Int} (h : Faith r mag place) (c L : Nat) (hc : -1074 - (c : Int) ≤ place) (hL : L ≤ 4503599627370496) (hv : L * GRN * 2 ^ c ≤ mag * 2 ^ (place + 1074 + (c : Int)).toNat) : L * GRN ≤ rungVal double r := by
  obtain ⟨N, hN⟩ : ∃ N, N = 1052 := ⟨_, rfl⟩
  obtain ⟨R, h1, h2⟩ := has_double L N (by omega) (by omega)
  rw [GRN_at N hN] at hv ⊢
  have e1 : (place - (-1074 - (c : Int))).toNat = (place + 1074 + (c : Int)).toNat := by congr 1; omega
  have e2 : ((-1074 : Int) - (-1074 - (c : Int))).toNat = c := by omega
  have := (h.at_ (-1074 - c) R hc (by rw [least_d]; omega)).2 (by omega) (by rw [least_d, e1, e2, h2]; exact hv)
  rw [← h2]; exact rungVal_le double this
theorem near_in (s : Bool) (mag : Nat) (place : Int) (c : Nat) (a b : Int) (hc : -1074 - (c : Int) ≤ place) (ha : -4503599627370496 ≤ a) (ha' : a ≤ 4503599627370496) (hb' : -4503599627370496 ≤ b) (hb : b ≤ 4503599627370496)
    (hlo : a * (GRN : Int) * ((2 ^ c : Nat) : Int) ≤ signed s mag (place + 1074 + (c : Int)).toNat) (hhi : signed s mag (place + 1074 + (c : Int)).toNat ≤ b * (GRN : Int) * ((2 ^ c : Nat) : Int)) : In (double.nearest s mag place) a b := by
  have hinf := inf_d
  have hsw := sw_d
  have hG := GRN_int
  have hp : (0 : Int) < ((2 ^ c : Nat) : Int) := Int.natCast_pos.2 (Nat.two_pow_pos c)
  by_cases hm : mag = 0
  · subst hm
    have e : double.nearest s 0 place = double.word s 0 := by simp [Format.nearest]
    have z0 : rungVal double 0 = 0 := by unfold rungVal; rw [if_pos (bin_pos _)]
    have hz : signed s 0 (place + 1074 + (c : Int)).toNat = 0 := by rw [signed_val]; cases s <;> simp
    have hs0 : svd (double.word s 0) = 0 := by unfold svd; rw [rng_word _ _ _ (sw_pos double), z0]; split <;> rfl
    rw [hz] at hlo hhi
    rw [e]
    refine ⟨by rw [rng_word _ _ _ (sw_pos double)]; omega, ?_, ?_⟩
    · rw [hs0]; exact Int.le_of_mul_le_mul_right (by rw [Int.zero_mul]; exact hlo) hp
    · rw [hs0]; exact Int.le_of_mul_le_mul_right (by rw [Int.zero_mul]; exact hhi) hp
  · obtain ⟨r, h1, h2, h3⟩ := nearest_spec (f := double) s mag place hm
    have F : Faith r mag place := ⟨h1, h3⟩
    have hrw : r < double.signWeight := by omega
    rw [h2]
    have hsv : svd (double.word s r) = if s then -((rungVal double r : Nat) : Int) else ((rungVal double r : Nat) : Int) := by unfold svd; rw [sgn_word _ _ _ hrw, rng_word _ _ _ hrw]
    rw [signed_val] at hlo hhi
    have up : ∀ U : Nat, (U : Int) ≤ 4503599627370496 → ((mag * 2 ^ (place + 1074 + (c : Int)).toNat : Nat) : Int) ≤ (U : Int) * (GRN : Int) * ((2 ^ c : Nat) : Int) → r < double.infRung ∧ ((rungVal double r : Nat) : Int) ≤ (U : Int) * (GRN : Int) := fun U hU hv => by
      rw [← Int.natCast_mul, ← Int.natCast_mul] at hv
      obtain ⟨f1, f2⟩ := faith_up F c U hc (by omega) (Int.ofNat_le.1 hv)
      exact ⟨f1, by rw [← Int.natCast_mul]; exact Int.ofNat_le.2 f2⟩
    have low : ∀ L : Nat, (L : Int) ≤ 4503599627370496 → (L : Int) * (GRN : Int) * ((2 ^ c : Nat) : Int) ≤ ((mag * 2 ^ (place + 1074 + (c : Int)).toNat : Nat) : Int) → (L : Int) * (GRN : Int) ≤ ((rungVal double r : Nat) : Int) := fun L hL hv => by
      rw [← Int.natCast_mul, ← Int.natCast_mul] at hv
      rw [← Int.natCast_mul]
      exact Int.ofNat_le.2 (faith_lo F c L hc (by omega) (Int.ofNat_le.1 hv))
    have hmag : (0 : Int) ≤ ((mag * 2 ^ (place + 1074 + (c : Int)).toNat : Nat) : Int) := Int.natCast_nonneg _
    have hrn : (0 : Int) ≤ ((rungVal double r : Nat) : Int) := Int.natCast_nonneg _
    have neg : ∀ z : Int, z < 0 → z * (GRN : Int) * ((2 ^ c : Nat) : Int) < 0 := fun z hz => Int.mul_neg_of_neg_of_pos (Int.mul_neg_of_neg_of_pos hz hG) hp
    have neg1 : ∀ z : Int, z ≤ 0 → z * (GRN : Int) ≤ 0 := fun z hz => Int.mul_nonpos_of_nonpos_of_nonneg hz (Int.le_of_lt hG)
    have opp : ∀ z : Int, -z * (GRN : Int) = -(z * (GRN : Int)) := fun z => Int.neg_mul ..
    have opp2 : ∀ z : Int, -z * (GRN : Int) * ((2 ^ c : Nat) : Int) = -(z * (GRN : Int) * ((2 ^ c : Nat) : Int)) := fun z => by rw [Int.neg_mul, Int.neg_mul]
    generalize ((mag * 2 ^ (place + 1074 + (c : Int)).toNat : Nat) : Int) = V at *
    generalize hRV : ((rungVal double r : Nat) : Int) = W at *
    refine ⟨?_, ?_, ?_⟩
    · rw [rng_word _ _ _ hrw]
      cases s
      · simp only [Bool.false_eq_true, if_false] at hlo hhi
        have hb0 : 0 ≤ b := by
          rcases Int.lt_or_le b 0 with q | q
          · have := neg b q; omega
          · exact q
        obtain ⟨U, rfl⟩ := Int.eq_ofNat_of_zero_le hb0
        exact (up U (by omega) hhi).1
      · simp only [if_true] at hlo hhi
        have ha0 : 0 ≤ -a := by
          rcases Int.lt_or_le (-a) 0 with q | q
          · have := neg (-a) q; rw [opp2] at this; omega
          · exact q
        obtain ⟨U, hU⟩ := Int.eq_ofNat_of_zero_le ha0
        exact (up U (by omega) (by rw [← hU, opp2]; omega)).1
    · rw [hsv]
      cases s
      · simp only [Bool.false_eq_true, if_false] at hlo hhi ⊢
        rcases Int.lt_or_le a 0 with q | q
        · have := neg1 a (by omega); omega
        · obtain ⟨L, rfl⟩ := Int.eq_ofNat_of_zero_le q
          exact low L (by omega) hlo
      · simp only [if_true] at hlo hhi ⊢
        have ha0 : 0 ≤ -a := by
          rcases Int.lt_or_le (-a) 0 with q | q
          · have := neg (-a) q; rw [opp2] at this; omega
          · exact q
        obtain ⟨U, hU⟩ := Int.eq_ofNat_of_zero_le ha0
        have := (up U (by omega) (by rw [← hU, opp2]; omega)).2
        rw [← hU, opp] at this; omega
    · rw [hsv]
      cases s
      · simp only [Bool.false_eq_true, if_false] at hlo hhi ⊢
        have hb0 : 0 ≤ b := by
          rcases Int.lt_or_le b 0 with q | q
          · have := neg b q; omega
          · exact q
        obtain ⟨U, rfl⟩ := Int.eq_ofNat_of_zero_le hb0
        exact (up U (by omega) hhi).2
      · simp only [if_true] at hlo hhi ⊢
        rcases Int.lt_or_le (-b) 0 with q | q
        · have h0 : (0 : Int) ≤ b * (GRN : Int) := Int.mul_nonneg (by omega) (Int.le_of_lt hG)
          omega
        · obtain ⟨L, hL⟩ := Int.eq_ofNat_of_zero_le q
          have := low L (by omega) (by rw [← hL, opp2]; omega)
          rw [← hL, opp] at this; omega
theorem In.read {x : Nat} {a b : Int} (h : In x a b) : ∃ m k : Nat, double.read x = .number (sgn double x) m (-1074 + (k : Int)) ∧ signed (sgn double x) m k = svd x := by
  obtain ⟨m, k, e, v, _⟩ := readRung_fin double (sgn double x) (rng double x) h.fin
  refine ⟨m, k, ?_, ?_⟩
  · rw [read_eq]
    change readRung double (sgn double x) (rng double x) = _
    rw [e, least_d]
  · rw [signed_val, v]; rfl
theorem In.mono {x : Nat} {a b c d : Int} (h : In x a b) (h1 : c ≤ a) (h2 : b ≤ d) : In x c d :=
  ⟨h.fin, Int.le_trans (Int.mul_le_mul_of_nonneg_right h1 (Int.le_of_lt GRN_int)) h.lo, Int.le_trans h.hi (Int.mul_le_mul_of_nonneg_right h2 (Int.le_of_lt GRN_int))⟩
theorem sgn_abs (t : Int) (s1 s2 : Bool) (u : Nat) : signed (if t = 0 then s1 && s2 else decide (t < 0)) t.natAbs u = t * ((2 ^ u : Nat) : Int) := by
  rw [signed_val, Int.natCast_mul]
  by_cases h : t = 0
  · subst h; simp
  · rw [if_neg h]
    by_cases h2 : t < 0
    · rw [decide_eq_true h2, if_pos rfl, ← Int.neg_mul]; congr 1; omega
    · rw [decide_eq_false h2, if_neg (by decide)]; congr 1; omega
theorem sum_in {da db : Datum} {s1 s2 : Bool} {m1 m2 k1 k2 : Nat} {a b : Int} (e1 : da = .number s1 m1 (-1074 + (k1 : Int))) (e2 : db = .number s2 m2 (-1074 + (k2 : Int)))
    (ha : -4503599627370496 ≤ a) (ha' : a ≤ 4503599627370496) (hb' : -4503599627370496 ≤ b) (hb : b ≤ 4503599627370496)
    (hlo : a * (GRN : Int) ≤ signed s1 m1 k1 + signed s2 m2 k2) (hhi : signed s1 m1 k1 + signed s2 m2 k2 ≤ b * (GRN : Int)) : ∃ r, (da.sum db).map double.write = some r ∧ In r a b := by
  subst e1 e2
  have base : min (-1074 + (k1 : Int)) (-1074 + (k2 : Int)) = -1074 + ((min k1 k2 : Nat) : Int) := by omega
  have h3 : (-1074 + (k1 : Int) - (-1074 + ((min k1 k2 : Nat) : Int))).toNat = k1 - min k1 k2 := by omega
  have h4 : (-1074 + (k2 : Int) - (-1074 + ((min k1 k2 : Nat) : Int))).toNat = k2 - min k1 k2 := by omega
  have c1 : signed s1 m1 k1 = signed s1 m1 (k1 - min k1 k2) * 2 ^ (min k1 k2) := by rw [← signed_mul]; congr 1; omega
  have c2 : signed s2 m2 k2 = signed s2 m2 (k2 - min k1 k2) * 2 ^ (min k1 k2) := by rw [← signed_mul]; congr 1; omega
  simp only [Datum.sum, Option.map_some]
  rw [base, h3, h4]
  rw [c1, c2, ← Int.add_mul] at hlo hhi
  generalize signed s1 m1 (k1 - min k1 k2) + signed s2 m2 (k2 - min k1 k2) = t at *
  refine ⟨_, rfl, ?_⟩
  change In (double.nearest (if t = 0 then s1 && s2 else decide (t < 0)) t.natAbs (-1074 + ((min k1 k2 : Nat) : Int))) a b
  have e0 : (-1074 + ((min k1 k2 : Nat) : Int) + 1074 + ((0 : Nat) : Int)).toNat = min k1 k2 := by omega
  have e5 : ((2 ^ min k1 k2 : Nat) : Int) = (2 : Int) ^ min k1 k2 := by simp
  refine near_in _ _ _ 0 a b (by omega) ha ha' hb' hb ?_ ?_
  · rw [e0, sgn_abs, e5]; simpa using hlo
  · rw [e0, sgn_abs, e5]; simpa using hhi
theorem signed_not (s : Bool) (m k : Nat) : signed (!s) m k = -signed s m k := by
  rw [signed_val, signed_val]; cases s <;> simp
theorem In.add {x y : Nat} {a b c d : Int} (hx : In x a b) (hy : In y c d) (ha : -4503599627370496 ≤ a + c) (ha' : a + c ≤ 4503599627370496) (hb' : -4503599627370496 ≤ b + d) (hb : b + d ≤ 4503599627370496) : ∃ r, floatBits .add .f64 x y = some r ∧ In r (a + c) (b + d) := by
  obtain ⟨m, k, e, v⟩ := hx.read
  obtain ⟨m', k', e', v'⟩ := hy.read
  show ∃ r, ((double.read x).sum (double.read y)).map double.write = some r ∧ _
  refine sum_in e e' ha ha' hb' hb ?_ ?_
  · rw [v, v', Int.add_mul]; exact Int.add_le_add hx.lo hy.lo
  · rw [v, v', Int.add_mul]; exact Int.add_le_add hx.hi hy.hi
theorem In.sub {x y : Nat} {a b c d : Int} (hx : In x a b) (hy : In y c d) (ha : -4503599627370496 ≤ a - d) (ha' : a - d ≤ 4503599627370496) (hb' : -4503599627370496 ≤ b - c) (hb : b - c ≤ 4503599627370496) : ∃ r, floatBits .sub .f64 x y = some r ∧ In r (a - d) (b - c) := by
  obtain ⟨m, k, e, v⟩ := hx.read
  obtain ⟨m', k', e', v'⟩ := hy.read
  show ∃ r, ((double.read x).sum (double.read y).opposite).map double.write = some r ∧ _
  have h1 := hx.lo
  have h2 := hx.hi
  have h3 := hy.lo
  have h4 := hy.hi
  refine sum_in (s2 := !sgn double y) e (by rw [e']; rfl) ha ha' hb' hb ?_ ?_
  · rw [signed_not, v, v', Int.sub_mul]; omega
  · rw [signed_not, v, v', Int.sub_mul]; omega
theorem corner_lo {X Y p q r s K : Int} (h1 : p ≤ X) (h2 : X ≤ q) (h3 : r ≤ Y) (h4 : Y ≤ s) (k1 : K ≤ p * r) (k2 : K ≤ p * s) (k3 : K ≤ q * r) (k4 : K ≤ q * s) : K ≤ X * Y := by
  rcases Int.le_total 0 Y with hY | hY
  · have g := Int.mul_le_mul_of_nonneg_right h1 hY
    rcases Int.le_total 0 p with hp | hp
    · have := Int.mul_le_mul_of_nonneg_left h3 hp; omega
    · have := Int.mul_le_mul_of_nonpos_left hp h4; omega
  · have g := Int.mul_le_mul_of_nonpos_right h2 hY
    rcases Int.le_total 0 q with hq | hq
    · have := Int.mul_le_mul_of_nonneg_left h3 hq; omega
    · have := Int.mul_le_mul_of_nonpos_left hq h4; omega
theorem corner_hi {X Y p q r s K : Int} (h1 : p ≤ X) (h2 : X ≤ q) (h3 : r ≤ Y) (h4 : Y ≤ s) (k1 : p * r ≤ K) (k2 : p * s ≤ K) (k3 : q * r ≤ K) (k4 : q * s ≤ K) : X * Y ≤ K := by
  have := corner_lo (X := -X) (Y := Y) (p := -q) (q := -p) (r := r) (s := s) (K := -K) (by omega) (by omega) h3 h4 (by rw [Int.neg_mul]; omega) (by rw [Int.neg_mul]; omega) (by rw [Int.neg_mul]; omega) (by rw [Int.neg_mul]; omega)
  rw [Int.neg_mul] at this; omega
theorem signed_prod (s t : Bool) (m n k j : Nat) : signed (s ^^ t) (m * n) (k + j) = signed s m k * signed t n j := by
  have e : m * n * 2 ^ (k + j) = (m * 2 ^ k) * (n * 2 ^ j) := by rw [Nat.pow_add, Nat.mul_mul_mul_comm]
  rw [signed_val, signed_val, signed_val, e, Int.natCast_mul]
  generalize ((m * 2 ^ k : Nat) : Int) = A
  generalize ((n * 2 ^ j : Nat) : Int) = B
  cases s <;> cases t <;> simp [Int.neg_mul, Int.mul_neg]
theorem sq_le {L a c g : Int} (hg : 0 < g) (h : L * 4194304 ≤ a * c) : L * g * (4194304 * g) ≤ (a * g) * (c * g) := by
  have e1 : L * g * (4194304 * g) = L * 4194304 * (g * g) := by rw [Int.mul_assoc, Int.mul_left_comm g, ← Int.mul_assoc]
  have e2 : (a * g) * (c * g) = a * c * (g * g) := by rw [Int.mul_assoc, Int.mul_left_comm g, ← Int.mul_assoc]
  rw [e1, e2]
  exact Int.mul_le_mul_of_nonneg_right h (Int.le_of_lt (Int.mul_pos hg hg))
theorem sq_ge {L a c g : Int} (hg : 0 < g) (h : a * c ≤ L * 4194304) : (a * g) * (c * g) ≤ L * g * (4194304 * g) := by
  have e1 : L * g * (4194304 * g) = L * 4194304 * (g * g) := by rw [Int.mul_assoc, Int.mul_left_comm g, ← Int.mul_assoc]
  have e2 : (a * g) * (c * g) = a * c * (g * g) := by rw [Int.mul_assoc, Int.mul_left_comm g, ← Int.mul_assoc]
  rw [e1, e2]
  exact Int.mul_le_mul_of_nonneg_right h (Int.le_of_lt (Int.mul_pos hg hg))
theorem In.mul {x y : Nat} {a b c d L U : Int} (hx : In x a b) (hy : In y c d) (ha : -4503599627370496 ≤ L) (ha' : L ≤ 4503599627370496) (hb' : -4503599627370496 ≤ U) (hb : U ≤ 4503599627370496)
    (l1 : L * 4194304 ≤ a * c) (l2 : L * 4194304 ≤ a * d) (l3 : L * 4194304 ≤ b * c) (l4 : L * 4194304 ≤ b * d) (u1 : a * c ≤ U * 4194304) (u2 : a * d ≤ U * 4194304) (u3 : b * c ≤ U * 4194304) (u4 : b * d ≤ U * 4194304) : ∃ r, floatBits .mul .f64 x y = some r ∧ In r L U := by
  obtain ⟨m, k, e, v⟩ := hx.read
  obtain ⟨m', k', e', v'⟩ := hy.read
  have hG := GRN_int
  show ∃ r, ((double.read x).product (double.read y)).map double.write = some r ∧ _
  rw [e, e']
  simp only [Datum.product, Option.map_some]
  refine ⟨_, rfl, ?_⟩
  change In (double.nearest (sgn double x ^^ sgn double y) (m * m') (-1074 + (k : Int) + (-1074 + (k' : Int)))) L U
  have e0 : (-1074 + (k : Int) + (-1074 + (k' : Int)) + 1074 + ((1074 : Nat) : Int)).toNat = k + k' := by omega
  have e6 : ((2 ^ 1074 : Nat) : Int) = 4194304 * (GRN : Int) := by rw [GRN_up, Int.natCast_mul]; rfl
  refine near_in _ _ _ 1074 L U (by omega) ha ha' hb' hb ?_ ?_
  · rw [e0, signed_prod, v, v', e6]
    exact corner_lo hx.lo hx.hi hy.lo hy.hi (sq_le hG l1) (sq_le hG l2) (sq_le hG l3) (sq_le hG l4)
  · rw [e0, signed_prod, v, v', e6]
    exact corner_hi hx.lo hx.hi hy.lo hy.hi (sq_ge hG u1) (sq_ge hG u2) (sq_ge hG u3) (sq_ge hG u4)
end Go.Proofs.Ytopfeilfgbcihaa
