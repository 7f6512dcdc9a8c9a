/- Plain facts on IEEE words for the laws of the first numbers: bits, the same number, subnormal numbers. No program in sight. -/
import Derived.Test.YtopfeilfgbcihaaWiden
namespace Go.Proofs.Ytopfeilfgbcihaa
open Ieee

/-- The bits of a number as the program tells them. -/
def bitsN (x : Nat) : Nat := if nanB .f32 x then 2143289344 else x
def bitsZ (x : Nat) : Int := bitsN x

theorem f32_fmt : FloatKind.f32.format = single := rfl
theorem f64_fmt : FloatKind.f64.format = double := rfl
theorem nan_std : nanB .f32 2143289344 = true := by decide
theorem bitsN_lt {x : Nat} (h : x < 4294967296) : bitsN x < 4294967296 := by unfold bitsN; split <;> omega

theorem bitsZ_eq (x : Nat) : bitsZ x = if nanB .f32 x then 2143289344 else (x : Int) := by unfold bitsZ bitsN; split <;> rfl

/-- Two numbers that are no NaNs are the same if they are equal and of one sign. -/
theorem same_num (a b : Nat) (ha : a < 4294967296) (hb : b < 4294967296) (na : nanB .f32 a = false) (nb : nanB .f32 b = false) :
    (FloatKind.f32.format.order a b == some .eq && (sgn single a == sgn single b)) = decide (bitsZ a = bitsZ b) := by
  have e1 : bitsZ a = bitsZ b ↔ a = b := by rw [bitsZ_eq, bitsZ_eq, na, nb]; simp; omega
  rw [order_sr .f32 a b na nb, f32_fmt]
  have hsa : a % 2147483648 = rng single a := by unfold rng; rw [sw_s]
  have hsb : b % 2147483648 = rng single b := by unfold rng; rw [sw_s]
  have inj : sgn single a = sgn single b → rng single a = rng single b → a = b := fun h1 h2 => read_inj single a b (by rw [sw_s]; omega) (by rw [sw_s]; omega) h1 h2
  rw [decide_eq_decide.2 e1]
  by_cases h : a = b
  · subst h; simp [compare, compareOfLessAndEq]
  · rw [decide_eq_false h]
    by_cases hs : sgn single a = sgn single b
    · have hr : rng single a ≠ rng single b := fun h' => h (inj hs h')
      have : compare (sr single a) (sr single b) ≠ .eq := by
        unfold sr
        rw [hs]
        simp only [compare, compareOfLessAndEq]
        cases sgn single b <;> simp <;> (repeat' split) <;> first | omega | simp
      cases hc : compare (sr single a) (sr single b) <;> simp_all
    · simp [hs]

/-- The sign bit of a widened number. -/
theorem wide_sign (x : Nat) (w : World) (hx : nanB .f32 x = false) : (decide (RowKit.wrap64 (cval .f32 x .f64 w : Int) < 0)) = sgn single x := by
  obtain ⟨R, e, _, hR, _⟩ := cval_wide x w hx
  have := fair_double.sum
  rw [inf_d] at hR
  rw [e, word_sign]
  unfold RowKit.wrap64
  cases sgn single x
  · simp only [Bool.false_eq_true, if_false, decide_eq_false_iff_not]; omega
  · simp only [if_true, decide_eq_true_eq]; omega

end Go.Proofs.Ytopfeilfgbcihaa
