/- The logarithm, in plain words: how often a number is doubled or halved, and what is made of it. No program in sight. -/
import Derived.Test.YtopfeilfgbcihaaTwo
namespace Go.Proofs.Ytopfeilfgbcihaa
open Ieee
/-- An integer as a 64-bit number. -/
def fe (n : Int) : Nat := FloatKind.f64.nearest n
/-- A number of the range of 32-bit numbers. -/
structure Mid (X : Nat) : Prop where
  lo : 3936146074321813504 ≤ X
  hi : X ≤ 5183643171103440896
/-- How often X is halved; less than 0: doubled. -/
def lgN (X : Nat) : Int := ((X : Int) - 4604930618986332160) / 4503599627370496
/-- What is left then: from 3/4 on and below 3/2. -/
def lgY (X : Nat) : Nat := ((X : Int) - lgN X * 4503599627370496).toNat
theorem lg_spec {X : Nat} (h : Mid X) : -149 ≤ lgN X ∧ lgN X ≤ 128 ∧ 4604930618986332160 ≤ lgY X ∧ lgY X < 4609434218613702656 ∧ (lgY X : Int) + lgN X * 4503599627370496 = X := by
  have a := h.lo
  have b := h.hi
  unfold lgY lgN
  omega
theorem lg_is {X Z : Nat} {n : Int} (h : Mid X) (h0 : 4604930618986332160 ≤ Z) (h1 : Z < 4609434218613702656) (e : (Z : Int) + n * 4503599627370496 = X) : n = lgN X ∧ Z = lgY X := by
  have := lg_spec h
  unfold lgY lgN at *
  omega
theorem fe_table : ∀ i : Nat, i < 300 → floatBits .sub .f64 (fe (130 - (i : Int))) 4607182418800017408 = some (fe (130 - (i : Int) - 1)) ∧ floatBits .add .f64 (fe (130 - (i : Int) - 1)) 4607182418800017408 = some (fe (130 - (i : Int))) := by
  decide +kernel
theorem fe_less {n : Int} (h0 : -160 ≤ n) (h1 : n ≤ 130) : floatBits .sub .f64 (fe n) 4607182418800017408 = some (fe (n - 1)) := by
  have := (fe_table (130 - n).toNat (by omega)).1
  rwa [show 130 - (((130 - n).toNat : Nat) : Int) = n by omega] at this
theorem fe_more {n : Int} (h0 : -160 ≤ n) (h1 : n ≤ 129) : floatBits .add .f64 (fe n) 4607182418800017408 = some (fe (n + 1)) := by
  have := (fe_table (130 - (n + 1)).toNat (by omega)).2
  rwa [show 130 - (((130 - (n + 1)).toNat : Nat) : Int) = n + 1 by omega, show n + 1 - 1 = n by omega] at this
theorem fe_odd : ∀ j : Nat, j < 14 → floatBits .sub .f64 (fe (25 - 2 * (j : Int))) 4611686018427387904 = some (fe (25 - 2 * ((j : Int) + 1))) ∧ ((FloatKind.f64.format.order (fe (25 - 2 * (j : Int))) 4607182418800017408 == some .gt || FloatKind.f64.format.order (fe (25 - 2 * (j : Int))) 4607182418800017408 == some .eq) = decide (j < 13)) := by
  decide +kernel
theorem fe_zero : fe 0 = 0 := by decide +kernel
theorem fe_25 : fe 25 = 4627730092099895296 := by decide +kernel
/-- The sum of the first j parts. -/
def qA (u : Option Nat) : Nat → Option Nat
  | 0 => some 0
  | j + 1 => aop .add .f64 (aop .quo .f64 (some 4607182418800017408) (some (fe (25 - 2 * (j : Int))))) (aop .mul .f64 u (qA u j))
def sA (X : Nat) : Option Nat := aop .quo .f64 (aop .sub .f64 (some (lgY X)) (some 4607182418800017408)) (aop .add .f64 (some (lgY X)) (some 4607182418800017408))
def logA (X : Nat) : Option Nat :=
  aop .add .f64 (aop .mul .f64 (some 4611686018427387904) (aop .mul .f64 (sA X) (qA (aop .mul .f64 (sA X) (sA X)) 13))) (aop .mul .f64 (some (fe (lgN X))) (some 4604418534313441775))
end Go.Proofs.Ytopfeilfgbcihaa
