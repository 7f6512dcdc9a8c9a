/- The sine of turns, in plain words, and that it is bounded. No program in sight. -/
import Derived.Test.YtopfeilfgbcihaaTrn
import Derived.Test.YtopfeilfgbcihaaNeg
namespace Go.Proofs.Ytopfeilfgbcihaa
open Ieee
def geA (a : Option Nat) (c : Nat) : Bool := aord .f64 a (some c) == some .gt || aord .f64 a (some c) == some .eq
def gtA (a : Option Nat) (c : Nat) : Bool := aord .f64 a (some c) == some .gt
def ltA (a : Option Nat) (c : Nat) : Bool := aord .f64 a (some c) == some .lt
/-- What is left of turns behind the point. -/
def f0A (y : Nat) (n : Int) : Option Nat := aop .sub .f64 (some y) (some (fe n))
def f1A (y : Nat) (n : Int) : Option Nat := if ltA (f0A y n) 0 then aop .add .f64 (f0A y n) (some 4607182418800017408) else f0A y n
def f2A (f : Option Nat) : Option Nat := if geA f 4602678819172646912 then aop .sub .f64 f (some 4602678819172646912) else f
def f3A (f : Option Nat) : Option Nat := if gtA (f2A f) 4598175219545276416 then aop .sub .f64 (some 4602678819172646912) (f2A f) else f2A f
def zA (f : Option Nat) : Option Nat := aop .mul .f64 (f3A f) (some 4618760256179416344)
/-- The divisor of round j. -/
def dv (j : Nat) : Int := 2 * (8 - (j : Int)) * (2 * (8 - (j : Int)) + 1)
def sinP (u : Option Nat) : Nat → Option Nat
  | 0 => some 4607182418800017408
  | j + 1 => aop .sub .f64 (some 4607182418800017408) (aop .quo .f64 (aop .mul .f64 u (sinP u j)) (some (fe (dv j))))
def sin0 (f : Option Nat) : Option Nat := aop .mul .f64 (zA f) (sinP (aop .mul .f64 (zA f) (zA f)) 8)
def sinA (f : Option Nat) : Option Nat := if geA f 4602678819172646912 then ngA (sin0 f) else sin0 f
theorem dv_table : ∀ j : Nat, j < 8 → floatBits .mul .f64 4611686018427387904 (fe (8 - (j : Int))) = some (fe (2 * (8 - (j : Int)))) ∧ floatBits .add .f64 (fe (2 * (8 - (j : Int)))) 4607182418800017408 = some (fe (2 * (8 - (j : Int)) + 1)) ∧
    floatBits .mul .f64 (fe (2 * (8 - (j : Int)))) (fe (2 * (8 - (j : Int)) + 1)) = some (fe (dv j)) := by decide +kernel
theorem dv_big : ∀ j : Nat, j < 8 → rng double (fe (dv j)) < double.infRung ∧ 4607182418800017408 ≤ rng double (fe (dv j)) := by decide +kernel
theorem k8_table : ∀ j : Nat, j < 9 → floatBits .sub .f64 (fe (8 - (j : Int))) 4607182418800017408 = some (fe (8 - ((j : Int) + 1))) ∧ ((FloatKind.f64.format.order (fe (8 - (j : Int))) 4607182418800017408 == some .gt || FloatKind.f64.format.order (fe (8 - (j : Int))) 4607182418800017408 == some .eq) = decide (j < 8)) := by decide +kernel
theorem dv_nan : ∀ j : Nat, j < 8 → nanB .f64 (fe (dv j)) = false := by decide +kernel
theorem fe_8 : fe 8 = 4620693217682128896 := by decide +kernel
theorem f1_bd {y : Nat} {n : Int} (h : Trn y n) : Bd (f1A y n) 1 := by
  have p0 : pw 0 = 4607182418800017408 := by decide
  unfold f1A
  split
  · exact Bd.add (G := 0) h.rest (bd_small (E := 0) (by rw [p0]; omega) (by omega)) (by omega) (by omega) (by omega)
  · exact h.rest.mono (by omega)
theorem sinP_bd {u : Option Nat} (h : Bd u 12) : ∀ j : Nat, j ≤ 8 → Bd (sinP u j) (14 * j)
  | 0, _ => bd_small (by decide) (by omega)
  | j + 1, hj => by
    have p0 : pw 0 = 4607182418800017408 := by decide
    have hq : Bd (aop .quo .f64 (aop .mul .f64 u (sinP u j)) (some (fe (dv j)))) (12 + 14 * j + 1) := Bd.quo (Bd.mul h (sinP_bd h j (by omega)) (Nat.le_refl _) (by omega)) (by omega) fun y hy => by
      cases hy
      exact ⟨(dv_big j (by omega)).1, (dv_big j (by omega)).2⟩
    exact (Bd.sub (bd_small (E := 0) (by rw [p0]; omega) (by omega)) hq (by omega) (Nat.le_refl _) (by omega)).mono (by omega)
theorem sinA_bd {f : Option Nat} (h : Bd f 1) : Bd (sinA f) 120 := by
  have p0 : pw 0 = 4607182418800017408 := by decide
  have p3 : pw 3 = 4620693217682128896 := by decide
  have h2 : Bd (f2A f) 2 := by
    unfold f2A
    split
    · exact Bd.sub (G := 1) h (bd_small (E := 0) (by rw [p0]; omega) (by omega)) (by omega) (by omega) (by omega)
    · exact h.mono (by omega)
  have h3 : Bd (f3A f) 3 := by
    unfold f3A
    split
    · exact Bd.sub (G := 2) (bd_small (E := 0) (by rw [p0]; omega) (by omega)) h2 (by omega) (by omega) (by omega)
    · exact h2.mono (by omega)
  have hz : Bd (zA f) 6 := Bd.mul h3 (bd_small (E := 3) (by rw [p3]; omega) (by omega)) (by omega) (by omega)
  have hs : Bd (sin0 f) 118 := Bd.mul hz (sinP_bd (Bd.mul hz hz (by omega) (by omega)) 8 (by omega)) (by omega) (by omega)
  unfold sinA
  split
  · exact hs.neg.mono (by omega)
  · exact hs.mono (by omega)
end Go.Proofs.Ytopfeilfgbcihaa
