/- The exponential, in plain words, and its values at the eighths from -8 to 8. No program in sight. -/
import Derived.Test.YtopfeilfgbcihaaLog
namespace Go.Proofs.Ytopfeilfgbcihaa
open Ieee
set_option linter.unusedVariables false
/-- The sum after j rounds. -/
def pE (t : Option Nat) : Nat → Option Nat
  | 0 => some 4607182418800017408
  | j + 1 => aop .add .f64 (some 4607182418800017408) (aop .quo .f64 (aop .mul .f64 t (pE t j)) (some (fe (12 - (j : Int)))))
/-- Squared j times. -/
def sqE (p : Option Nat) : Nat → Option Nat
  | 0 => p
  | j + 1 => aop .mul .f64 (sqE p j) (sqE p j)
def expA (X : Nat) : Option Nat := sqE (pE (aop .quo .f64 (some X) (some 4643211215818981376)) 12) 8
theorem fe_12 : fe 12 = 4622945017495814144 := by decide +kernel
theorem fe_down : ∀ j : Nat, j < 13 → floatBits .sub .f64 (fe (12 - (j : Int))) 4607182418800017408 = some (fe (12 - ((j : Int) + 1))) ∧ ((FloatKind.f64.format.order (fe (12 - (j : Int))) 4607182418800017408 == some .gt || FloatKind.f64.format.order (fe (12 - (j : Int))) 4607182418800017408 == some .eq) = decide (j < 12)) := by
  decide +kernel
/-- The number (i - 64) / 8. -/
def x32 (i : Nat) : Nat := (floatBits .quo .f32 (floatOfInt .f32 ((i : Int) - 64)) 1090519040).getD 0
def x64 (i : Nat) : Nat := (floatToFloatBits .f32 (x32 i) .f64).getD 0
def r64 (i : Nat) : Nat := (expA (x64 i)).getD 0
def e32 (i : Nat) : Nat := (floatToFloatBits .f64 (r64 i) .f32).getD 0
def e64 (i : Nat) : Nat := (floatToFloatBits .f32 (e32 i) .f64).getD 0
def l32 (i : Nat) : Nat := (acv .f64 .f32 (logA (e64 i))).getD 0
def l64 (i : Nat) : Nat := (floatToFloatBits .f32 (l32 i) .f64).getD 0
/-- Is all well at place i? -/
def okE (i : Nat) : Bool :=
  floatBits .quo .f32 (floatOfInt .f32 ((i : Int) - 64)) 1090519040 == some (x32 i) && floatToFloatBits .f32 (x32 i) .f64 == some (x64 i) && !nanB .f64 (x64 i)
  && (FloatKind.f64.format.order (x64 i) 4641240890982006784 == some .gt) == false && (FloatKind.f64.format.order (x64 i) 13864612927836782592 == some .lt) == false
  && expA (x64 i) == some (r64 i) && floatToFloatBits .f64 (r64 i) .f32 == some (e32 i) && floatToFloatBits .f32 (e32 i) .f64 == some (e64 i) && decide (0 < e32 i) && decide (e32 i < 2139095040)
theorem tabE1 : okE 3 = true := by decide +kernel
theorem tabE : ∀ i : Nat, i < 129 → okE i = true := by decide +kernel
end Go.Proofs.Ytopfeilfgbcihaa
