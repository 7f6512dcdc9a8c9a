/- Plain facts on 64-bit IEEE words: results that are numbers, and bounded. No program in sight. -/
import Derived.Test.YtopfeilfgbcihaaTwo
namespace Go.Proofs.Ytopfeilfgbcihaa
open Ieee
/-- This is a number, of a magnitude of at most 2 to the power of E. -/
def OkA (o : Option Nat) (E : Nat) : Prop := ∃ r, o = some r ∧ Ble r E
theorem OkA.mono {o : Option Nat} {E F : Nat} (h : OkA o E) (hE : E ≤ F) : OkA o F := by
  obtain ⟨r, e, b⟩ := h; exact ⟨r, e, b.mono hE⟩
theorem OkA.add {a b : Option Nat} {E F G : Nat} (ha : OkA a E) (hb : OkA b F) (h1 : E ≤ G) (h2 : F ≤ G) (hG : G ≤ 1022) : OkA (aop .add .f64 a b) (G + 1) := by
  obtain ⟨x, rfl, hx⟩ := ha
  obtain ⟨y, rfl, hy⟩ := hb
  obtain ⟨m, k, e, l⟩ := hx.read (by omega)
  obtain ⟨m', k', e', l'⟩ := hy.read (by omega)
  have hd : ∃ r, floatBits .add .f64 x y = some r := by
    refine ⟨_, show ((double.read x).sum (double.read y)).map double.write = _ by rw [e, e']; rfl⟩
  obtain ⟨r, hr⟩ := hd
  exact ⟨r, hr, (hx.mono h1).add (hy.mono h2) (Nat.le_refl _) hG hr⟩
theorem OkA.sub {a b : Option Nat} {E F G : Nat} (ha : OkA a E) (hb : OkA b F) (h1 : E ≤ G) (h2 : F ≤ G) (hG : G ≤ 1022) : OkA (aop .sub .f64 a b) (G + 1) := by
  obtain ⟨x, rfl, hx⟩ := ha
  obtain ⟨y, rfl, hy⟩ := hb
  obtain ⟨m, k, e, l⟩ := hx.read (by omega)
  obtain ⟨m', k', e', l'⟩ := hy.read (by omega)
  have hd : ∃ r, floatBits .sub .f64 x y = some r := by
    refine ⟨_, show ((double.read x).sum (double.read y).opposite).map double.write = _ by rw [e, e']; rfl⟩
  obtain ⟨r, hr⟩ := hd
  exact ⟨r, hr, (hx.mono h1).sub (hy.mono h2) (Nat.le_refl _) hG hr⟩
theorem OkA.mul {a b : Option Nat} {E F G : Nat} (ha : OkA a E) (hb : OkA b F) (h : E + F ≤ G) (hG : G ≤ 1023) : OkA (aop .mul .f64 a b) G := by
  obtain ⟨x, rfl, hx⟩ := ha
  obtain ⟨y, rfl, hy⟩ := hb
  obtain ⟨m, k, e, l⟩ := hx.read (by omega)
  obtain ⟨m', k', e', l'⟩ := hy.read (by omega)
  have hd : ∃ r, floatBits .mul .f64 x y = some r := by
    refine ⟨_, show ((double.read x).product (double.read y)).map double.write = _ by rw [e, e']; rfl⟩
  obtain ⟨r, hr⟩ := hd
  exact ⟨r, hr, (hx.mul hy (by omega) hr).mono h⟩
/-- A number of at least 1. -/
structure Big1 (y : Nat) : Prop where
  fin : rng double y < double.infRung
  one : 4607182418800017408 ≤ rng double y
theorem OkA.quo {a : Option Nat} {y E : Nat} (ha : OkA a E) (hE : E ≤ 1000) (hy : Big1 y) : OkA (aop .quo .f64 a (some y)) (E + 1) := by
  obtain ⟨x, rfl, hx⟩ := ha
  obtain ⟨m, k, e, l⟩ := hx.read (by omega)
  obtain ⟨n, k', e', v', _⟩ := readRung_fin double (sgn double y) (rng double y) hy.fin
  have hr : double.read y = .number (sgn double y) n (-1074 + (k' : Int)) := by
    rw [read_eq]
    change readRung double (sgn double y) (rng double y) = _
    rw [e', least_d]
  have hn : n ≠ 0 := by
    rintro rfl
    rw [Nat.zero_mul] at v'
    have z0 : rungVal double 0 = 0 := by unfold rungVal; rw [if_pos (bin_pos _)]
    have := rungVal_inj double (v'.symm.trans z0.symm)
    have := hy.one
    omega
  have hd : ∃ r, floatBits .quo .f64 x y = some r := by
    refine ⟨_, show ((double.read x).quotient (double.fractionBits + 2) (double.read y)).map double.write = _ by rw [e, hr, quotient_num _ _ _ _ _ _ _ hn]; rfl⟩
  obtain ⟨r, hq⟩ := hd
  exact ⟨r, hq, hx.quo hE hy.fin hy.one hq⟩
/-- The reading of a positive finite word. -/
theorem read_pos {X : Nat} (h : X < 9218868437227405312) : ∃ m k : Nat, double.read X = .number false m (-1074 + (k : Int)) ∧ m * 2 ^ k = rungVal double X := by
  obtain ⟨m, k, e, v, _⟩ := readRung_fin double false X (by rw [inf_d]; omega)
  refine ⟨m, k, ?_, v⟩
  rw [read_eq]
  change readRung double (sgn double X) (rng double X) = _
  rw [sgn_small (by omega), rng_small (by omega), e, least_d]
/-- The sum of two positive numbers is at least the second. -/
theorem add_lower {X Y : Nat} (hX : X < 9214364837600034816) (hY : Y < 9214364837600034816) (h0 : 0 < Y) : ∃ r, floatBits .add .f64 X Y = some r ∧ Y ≤ r ∧ r < 9223372036854775808 := by
  obtain ⟨m, k, e, v⟩ := read_pos (X := X) (by omega)
  obtain ⟨m', k', e', v'⟩ := read_pos (X := Y) (by omega)
  have base : min (-1074 + (k : Int)) (-1074 + (k' : Int)) = -1074 + ((min k k' : Nat) : Int) := by omega
  have h1 : (-1074 + (k : Int) - (-1074 + ((min k k' : Nat) : Int))).toNat = k - min k k' := by omega
  have h2 : (-1074 + (k' : Int) - (-1074 + ((min k k' : Nat) : Int))).toNat = k' - min k k' := by omega
  have hs : floatBits .add .f64 X Y = some (double.nearest false (m * 2 ^ (k - min k k') + m' * 2 ^ (k' - min k k')) (-1074 + ((min k k' : Nat) : Int))) := by
    show ((double.read X).sum (double.read Y)).map double.write = _
    rw [e, e']
    simp only [Datum.sum, Option.map_some, Option.some.injEq]
    rw [base, h1, h2, signed_val, signed_val]
    simp only [Bool.false_eq_true, if_false]
    change double.nearest _ _ _ = _
    congr 1
    split
    · rfl
    · exact decide_eq_false (by omega)
  have hA : m * 2 ^ (k - min k k') * 2 ^ (min k k') = rungVal double X := by rw [← v, Nat.mul_assoc, ← Nat.pow_add]; congr 2; omega
  have hB : m' * 2 ^ (k' - min k k') * 2 ^ (min k k') = rungVal double Y := by rw [← v', Nat.mul_assoc, ← Nat.pow_add]; congr 2; omega
  have hne : m * 2 ^ (k - min k k') + m' * 2 ^ (k' - min k k') ≠ 0 := by
    intro h
    have h3 : m' * 2 ^ (k' - min k k') = 0 := by omega
    rw [h3, Nat.zero_mul] at hB
    have z0 : rungVal double 0 = 0 := by unfold rungVal; rw [if_pos (bin_pos _)]
    have := rungVal_inj double (z0.trans hB)
    omega
  obtain ⟨r, r1, r2, r3⟩ := nearest_spec (f := double) false _ (-1074 + ((min k k' : Nat) : Int)) hne
  refine ⟨_, hs, ?_⟩
  rw [r2, dword]
  refine ⟨(r3 (-1074) Y (by omega) (by rw [least_d]; omega)).2 (by rw [inf_d]; omega) ?_, by rw [inf_d] at r1; omega⟩
  have e1 : (-1074 + ((min k k' : Nat) : Int) - -1074).toNat = min k k' := by omega
  rw [e1, least_d, Nat.add_mul, hA, hB]
  simp
/-- The difference of two positive numbers. -/
theorem sub_close {X Y E : Nat} (hX : X < 9218868437227405312) (hY : Y < 9218868437227405312) (h1 : rungVal double X ≤ rungVal double Y + 2 ^ (1074 + E)) (h2 : rungVal double Y ≤ rungVal double X + 2 ^ (1074 + E)) : ∃ r, floatBits .sub .f64 X Y = some r ∧ Ble r E := by
  obtain ⟨m, k, e, v⟩ := read_pos hX
  obtain ⟨m', k', e', v'⟩ := read_pos hY
  have base : min (-1074 + (k : Int)) (-1074 + (k' : Int)) = -1074 + ((min k k' : Nat) : Int) := by omega
  have h3 : (-1074 + (k : Int) - (-1074 + ((min k k' : Nat) : Int))).toNat = k - min k k' := by omega
  have h4 : (-1074 + (k' : Int) - (-1074 + ((min k k' : Nat) : Int))).toNat = k' - min k k' := by omega
  have hd : ∃ d, (double.read X).sum (double.read Y).opposite = some d := ⟨_, by rw [e, e']; rfl⟩
  obtain ⟨d, hd⟩ := hd
  refine ⟨double.write d, by show ((double.read X).sum (double.read Y).opposite).map double.write = _; rw [hd]; rfl, ?_⟩
  rw [e, e'] at hd
  simp only [Datum.opposite, Datum.sum, Option.some.injEq] at hd
  subst hd
  rw [base, h3, h4]
  refine ble_write _ _ _ E 0 (by omega) ?_
  have e0 : (-1074 + ((min k k' : Nat) : Int) + 1074 + ((0 : Nat) : Int)).toNat = min k k' := by omega
  rw [e0, Nat.add_zero, signed_val, signed_val]
  have hA : m * 2 ^ (k - min k k') * 2 ^ (min k k') = rungVal double X := by rw [← v, Nat.mul_assoc, ← Nat.pow_add]; congr 2; omega
  have hB : m' * 2 ^ (k' - min k k') * 2 ^ (min k k') = rungVal double Y := by rw [← v', Nat.mul_assoc, ← Nat.pow_add]; congr 2; omega
  rw [← hA, ← hB] at h1 h2
  generalize m * 2 ^ (k - min k k') = A at *
  generalize m' * 2 ^ (k' - min k k') = B at *
  generalize 2 ^ (1074 + E) = T at *
  generalize 2 ^ min k k' = D at *
  simp only [Bool.false_eq_true, if_false, Bool.not_false, if_true]
  rcases Nat.le_total A B with h | h
  · have q : ((A : Int) + -(B : Int)).natAbs = B - A := by omega
    rw [q, Nat.sub_mul]; omega
  · have q : ((A : Int) + -(B : Int)).natAbs = A - B := by omega
    rw [q, Nat.sub_mul]; omega
theorem ble_pos {X E : Nat} (h : X ≤ pw E) (hE : E ≤ 1022) : Ble X E := by
  have : X < 9218868437227405312 := by have := pw_lt (E := E) (by omega); rw [inf_d] at this; omega
  exact ⟨nan_small this, by rw [rng_small (by omega)]; exact h⟩
end Go.Proofs.Ytopfeilfgbcihaa
