/- The angle of a point, in plain words, and that it is bounded. No program in sight. -/
import Derived.Test.YtopfeilfgbcihaaLogB
import Derived.Test.YtopfeilfgbcihaaRoot
namespace Go.Proofs.Ytopfeilfgbcihaa
open Ieee
/-- If this is a number, then one of a magnitude of at most 2 to the power of E. -/
def Bd (o : Option Nat) (E : Nat) : Prop := ∀ r, o = some r → Ble r E
theorem Bd.mono {o : Option Nat} {E F : Nat} (h : Bd o E) (hE : E ≤ F) : Bd o F := fun r e => (h r e).mono hE
theorem bd_small {X E : Nat} (h : X ≤ pw E) (hE : E ≤ 1022) : Bd (some X) E := fun r e => by cases e; exact ble_pos h hE
theorem aop_parts {op : BinOp} {k : FloatKind} {a b : Option Nat} {r : Nat} (h : aop op k a b = some r) : ∃ x y, a = some x ∧ b = some y ∧ floatBits op k x y = some r := by
  cases a with
  | none => cases h
  | some x => cases b with
    | none => cases h
    | some y => exact ⟨x, y, rfl, rfl, h⟩
theorem Bd.add {a b : Option Nat} {E F G : Nat} (ha : Bd a E) (hb : Bd b F) (h1 : E ≤ G) (h2 : F ≤ G) (hG : G ≤ 1022) : Bd (aop .add .f64 a b) (G + 1) := fun r h => by
  obtain ⟨x, y, rfl, rfl, e⟩ := aop_parts h
  exact ((ha x rfl).mono h1).add ((hb y rfl).mono h2) (Nat.le_refl _) hG e
theorem Bd.sub {a b : Option Nat} {E F G : Nat} (ha : Bd a E) (hb : Bd b F) (h1 : E ≤ G) (h2 : F ≤ G) (hG : G ≤ 1022) : Bd (aop .sub .f64 a b) (G + 1) := fun r h => by
  obtain ⟨x, y, rfl, rfl, e⟩ := aop_parts h
  exact ((ha x rfl).mono h1).sub ((hb y rfl).mono h2) (Nat.le_refl _) hG e
theorem Bd.mul {a b : Option Nat} {E F G : Nat} (ha : Bd a E) (hb : Bd b F) (h : E + F ≤ G) (hG : G ≤ 1023) : Bd (aop .mul .f64 a b) G := fun r h' => by
  obtain ⟨x, y, rfl, rfl, e⟩ := aop_parts h'
  exact ((ha x rfl).mul (hb y rfl) (by omega) e).mono h
theorem Bd.quo {a b : Option Nat} {E : Nat} (ha : Bd a E) (hE : E ≤ 1000) (hb : ∀ y, b = some y → Big1 y) : Bd (aop .quo .f64 a b) (E + 1) := fun r h => by
  obtain ⟨x, y, rfl, rfl, e⟩ := aop_parts h
  exact (ha x rfl).quo hE (hb y rfl).fin (hb y rfl).one e
theorem near_small (mag : Nat) (place : Int) : double.nearest false mag place < 9223372036854775808 := by
  obtain ⟨rung, h1, h2⟩ := nearest_rung (f := double) false mag place
  rw [h2, dword]
  rw [inf_d] at h1
  omega
/-- A square is not negative. -/
theorem square_small {t q E : Nat} (h : Ble t E) (hE : E ≤ 1000) (e : floatBits .mul .f64 t t = some q) : q < 9223372036854775808 := by
  obtain ⟨m, k, r, _⟩ := h.read (by omega)
  obtain ⟨d, hd, rfl⟩ := Option.map_eq_some_iff.1 (show ((double.read t).product (double.read t)).map double.write = some q from e)
  rw [r] at hd
  simp only [Datum.product, Option.some.injEq, Bool.xor_self] at hd
  subst hd
  exact near_small _ _
theorem add_upper {X Y : Nat} (hX : X < 9214364837600034816) (hY : Y < 9214364837600034816) (h0 : 0 < X) : ∃ r, floatBits .add .f64 X Y = some r ∧ X ≤ r ∧ r < 9223372036854775808 := by
  obtain ⟨m, k, e, v⟩ := read_pos (X := X) (by omega)
  obtain ⟨m', k', e', v'⟩ := read_pos (X := Y) (by omega)
  have base : min (-1074 + (k : Int)) (-1074 + (k' : Int)) = -1074 + ((min k k' : Nat) : Int) := by omega
  have h1 : (-1074 + (k : Int) - (-1074 + ((min k k' : Nat) : Int))).toNat = k - min k k' := by omega
  have h2 : (-1074 + (k' : Int) - (-1074 + ((min k k' : Nat) : Int))).toNat = k' - min k k' := by omega
  have hs : floatBits .add .f64 X Y = some (double.nearest false (m * 2 ^ (k - min k k') + m' * 2 ^ (k' - min k k')) (-1074 + ((min k k' : Nat) : Int))) := by
    show ((double.read X).sum (double.read Y)).map double.write = _
    rw [e, e']
    simp only [Datum.sum, Option.map_some, Option.some.injEq]
    rw [base, h1, h2, signed_val, signed_val]
    simp only [Bool.false_eq_true, if_false]
    change double.nearest _ _ _ = _
    congr 1
    split
    · rfl
    · exact decide_eq_false (by omega)
  have hA : m * 2 ^ (k - min k k') * 2 ^ (min k k') = rungVal double X := by rw [← v, Nat.mul_assoc, ← Nat.pow_add]; congr 2; omega
  have hB : m' * 2 ^ (k' - min k k') * 2 ^ (min k k') = rungVal double Y := by rw [← v', Nat.mul_assoc, ← Nat.pow_add]; congr 2; omega
  have hne : m * 2 ^ (k - min k k') + m' * 2 ^ (k' - min k k') ≠ 0 := by
    intro h
    have h3 : m * 2 ^ (k - min k k') = 0 := by omega
    rw [h3, Nat.zero_mul] at hA
    have z0 : rungVal double 0 = 0 := by unfold rungVal; rw [if_pos (bin_pos _)]
    have := rungVal_inj double (z0.trans hA)
    omega
  obtain ⟨r, r1, r2, r3⟩ := nearest_spec (f := double) false _ (-1074 + ((min k k' : Nat) : Int)) hne
  refine ⟨_, hs, ?_⟩
  rw [r2, dword]
  refine ⟨(r3 (-1074) X (by omega) (by rw [least_d]; omega)).2 (by rw [inf_d]; omega) ?_, by rw [inf_d] at r1; omega⟩
  have e1 : (-1074 + ((min k k' : Nat) : Int) - -1074).toNat = min k k' := by omega
  rw [e1, least_d, Nat.add_mul, hA, hB]
  simp
theorem ble_lt {x E : Nat} (h : Ble x E) (hE : E ≤ 1000) (h2 : x < 9223372036854775808) : x < 9214364837600034816 := by
  have := h.2
  rw [rng_small h2] at this
  have : pw E ≤ pw 1000 := by unfold pw; omega
  have p : pw 1000 = 9110782046170513408 := by decide
  omega
/-- The root of a number that is not negative is not negative. -/
theorem root_small {x r E : Nat} (h : Ble x E) (hE : E ≤ 1000) (hx : x < 9223372036854775808) (e : FloatKind.f64.format.sqrt x = some r) : r < 9223372036854775808 := by
  obtain ⟨m, k, q, _⟩ := h.read (by omega)
  rw [sgn_small hx] at q
  obtain ⟨d, hd, rfl⟩ := Option.map_eq_some_iff.1 (show ((double.read x).root (double.fractionBits + 2)).map double.write = some r from e)
  rw [q] at hd
  unfold Datum.root at hd
  simp only at hd
  by_cases hm : m = 0
  · rw [if_pos hm] at hd
    cases hd
    exact near_small _ _
  · rw [if_neg hm, if_neg (by decide)] at hd
    cases hd
    exact near_small _ _
/-- A step of the angle. -/
def tA (t : Option Nat) : Option Nat := aop .quo .f64 t (aop .add .f64 (some 4607182418800017408) (art (aop .add .f64 (some 4607182418800017408) (aop .mul .f64 t t))))
theorem tA_bd {t : Option Nat} {E : Nat} (h : Bd t E) (hE : E ≤ 60) : Bd (tA t) (E + 1) := by
  have p0 : pw 0 = 4607182418800017408 := by decide
  have one : Ble 4607182418800017408 0 := ble_pos (by rw [p0]; omega) (by omega)
  refine Bd.quo h (by omega) fun y hy => ?_
  obtain ⟨a, s, ea, es, e⟩ := aop_parts hy
  cases ea
  cases hz : aop .add .f64 (some 4607182418800017408) (aop .mul .f64 t t) with
  | none => rw [hz] at es; cases es
  | some z =>
    rw [hz] at es
    have es : FloatKind.f64.format.sqrt z = some s := es
    obtain ⟨a, q, ea, eq, ez⟩ := aop_parts hz
    cases ea
    obtain ⟨u, v, eu, ev, em⟩ := aop_parts eq
    rw [eu] at ev
    cases ev
    have bu := h u eu
    have q1 := square_small bu (by omega) em
    have bq : Ble q 120 := (bu.mul bu (by omega) em).mono (by omega)
    obtain ⟨z', e1, z1, z2⟩ := add_upper (X := 4607182418800017408) (Y := q) (by omega) (ble_lt bq (by omega) q1) (by omega)
    rw [ez] at e1
    cases e1
    have bz : Ble z 121 := one.add bq (by omega) (by omega) ez
    have s1 := root_small bz (by omega) z2 es
    have bs : Ble s 65 := root_ble (bz.mono (by omega)) es
    obtain ⟨y', e2, y1, y2⟩ := add_upper (X := 4607182418800017408) (Y := s) (by omega) (ble_lt bs (by omega) s1) (by omega)
    rw [e] at e2
    cases e2
    exact big1_of (one.add bs (by omega) (by omega) e) (by omega) y1 y2
/-- A quotient of two positive numbers, the first one not the greater. -/
theorem ratio_bd {A B : Nat} (hB : B < 9218868437227405312) (h0 : 0 < B) (h : A ≤ B) : Bd (aop .quo .f64 (some A) (some B)) 1 := fun r hr => by
  obtain ⟨m, k, e, v⟩ := read_pos (X := A) (by omega)
  obtain ⟨n, k', e', v'⟩ := read_pos hB
  have hn : n ≠ 0 := by
    rintro rfl
    rw [Nat.zero_mul] at v'
    have z0 : rungVal double 0 = 0 := by unfold rungVal; rw [if_pos (bin_pos _)]
    have := rungVal_inj double (v'.symm.trans z0.symm)
    omega
  have hle : m * 2 ^ k ≤ n * 2 ^ k' := by rw [v, v']; exact rungVal_le double h
  obtain ⟨d, hd, rfl⟩ := Option.map_eq_some_iff.1 (show ((double.read A).quotient (double.fractionBits + 2) (double.read B)).map double.write = some r from hr)
  rw [e, e', quotient_num _ _ _ _ _ _ _ hn] at hd
  have hf : double.fractionBits + 2 = 54 := by decide
  rw [hf] at hd
  generalize hM : 54 + n.log2 - m.log2 = M at hd
  simp only [Option.some.injEq] at hd
  subst hd
  have key := quo_key m n M hM hn
  refine ble_write _ _ _ 1 (k' + M + 1) (by omega) ?_
  obtain ⟨N, hN⟩ : ∃ N, N = 1074 := ⟨_, rfl⟩
  have e0 : (-1074 + (k : Int) - (-1074 + (k' : Int)) - (M : Int) - 1 + 1074 + ((k' + M + 1 : Nat) : Int)).toNat = k + N := by omega
  rw [e0, ← hN]
  generalize (2 * (m * 2 ^ M / n) + (m * 2 ^ M % n != 0).toNat) = q at *
  have s1 : q * 2 ^ k * n ≤ 2 ^ (M + k' + 2) * n := by
    rw [Nat.mul_right_comm]
    refine Nat.le_trans (Nat.mul_le_mul_right _ key) ?_
    have s2 : 4 * (m * 2 ^ M) * 2 ^ k = m * 2 ^ k * (4 * 2 ^ M) := by
      rw [Nat.mul_assoc, Nat.mul_right_comm m, Nat.mul_left_comm 4]
    rw [s2]
    refine Nat.le_trans (Nat.mul_le_mul_right _ hle) ?_
    have s3 : (2 : Nat) ^ (M + k' + 2) = 2 ^ k' * (4 * 2 ^ M) := by
      rw [Nat.pow_add, Nat.pow_add, Nat.mul_comm (2 ^ M), Nat.mul_assoc, Nat.mul_comm (2 ^ M)]
    rw [s3, Nat.mul_comm _ n, Nat.mul_assoc]
    exact Nat.le_refl _
  have s4 : q * 2 ^ k ≤ 2 ^ (M + k' + 2) := Nat.le_of_mul_le_mul_right s1 (by omega)
  rw [Nat.pow_add, ← Nat.mul_assoc]
  refine Nat.le_trans (Nat.mul_le_mul_right _ s4) ?_
  rw [← Nat.pow_add]
  exact Nat.pow_le_pow_right (by decide) (by omega)
/-- The sum of the first j parts. -/
def pA (u : Option Nat) : Nat → Option Nat
  | 0 => some 0
  | j + 1 => aop .sub .f64 (aop .quo .f64 (some 4607182418800017408) (some (fe (15 - 2 * (j : Int))))) (aop .mul .f64 u (pA u j))
theorem pA_bd {u : Option Nat} (h : Bd u 8) : ∀ j : Nat, j ≤ 8 → Bd (pA u j) (9 * j)
  | 0, _ => bd_small (Nat.zero_le _) (by omega)
  | j + 1, hj => by
    have i := inv_ok (j + 5) (by omega)
    rw [show (25 : Int) - 2 * ((j + 5 : Nat) : Int) = 15 - 2 * (j : Int) by omega] at i
    obtain ⟨r, er, br⟩ := i
    have i : Bd (aop .quo .f64 (some 4607182418800017408) (some (fe (15 - 2 * (j : Int))))) 0 := fun r' e => by rw [er] at e; cases e; exact br
    exact (Bd.sub (i.mono (Nat.zero_le _)) (Bd.mul h (pA_bd h j (by omega)) (Nat.le_refl _) (by omega)) (Nat.le_refl _) (by omega : 8 + 9 * j ≤ 8 + 9 * j) (by omega)).mono (by omega)
/-- The angle of a point whose parts are A and B, without their signs, between 0 and 1/8 or 1/4. -/
def t3A (A B : Nat) : Option Nat := tA (tA (tA (if B < A then aop .quo .f64 (some B) (some A) else aop .quo .f64 (some A) (some B))))
def angA (A B : Nat) : Option Nat := aop .quo .f64 (aop .mul .f64 (some 4620693217682128896) (aop .mul .f64 (t3A A B) (pA (aop .mul .f64 (t3A A B) (t3A A B)) 8))) (some 4618760256179416344)
def ang1 (A B : Nat) : Option Nat := if B < A then aop .sub .f64 (some 4598175219545276416) (angA A B) else angA A B
def ang2 (A B : Nat) (sx : Bool) : Option Nat := if sx then aop .sub .f64 (some 4602678819172646912) (ang1 A B) else ang1 A B
theorem ang2_bd {A B : Nat} (hA : A < 9218868437227405312) (hB : B < 9218868437227405312) (h0 : ¬ (A = 0 ∧ B = 0)) (sx : Bool) : Bd (ang2 A B sx) 100 := by
  have p0 : pw 0 = 4607182418800017408 := by decide
  have p3 : pw 3 = 4620693217682128896 := by decide
  have h1 : Bd (if B < A then aop .quo .f64 (some B) (some A) else aop .quo .f64 (some A) (some B)) 1 := by
    split
    · exact ratio_bd hA (by omega) (by omega)
    · exact ratio_bd hB (by omega) (by omega)
  have ht : Bd (t3A A B) 4 := tA_bd (tA_bd (tA_bd h1 (by omega)) (by omega)) (by omega)
  have hp := pA_bd (Bd.mul (G := 8) ht ht (by omega) (by omega)) 8 (by omega)
  have ha : Bd (angA A B) 80 := Bd.quo (Bd.mul (G := 79) (bd_small (E := 3) (by rw [p3]; omega) (by omega)) (Bd.mul (G := 76) ht hp (by omega) (by omega)) (by omega) (by omega)) (by omega) fun y hy => by
    cases hy
    exact ⟨by rw [rng_small (by omega), inf_d]; omega, by rw [rng_small (by omega)]; omega⟩
  have h2 : Bd (ang1 A B) 90 := by
    unfold ang1
    split
    · exact Bd.sub (G := 89) (bd_small (E := 0) (by rw [p0]; omega) (by omega)) ha (by omega) (by omega) (by omega)
    · exact ha.mono (by omega)
  unfold ang2
  split
  · exact Bd.sub (G := 99) (bd_small (E := 0) (by rw [p0]; omega) (by omega)) h2 (by omega) (by omega) (by omega)
  · exact h2.mono (by omega)
end Go.Proofs.Ytopfeilfgbcihaa
