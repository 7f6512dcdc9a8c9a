/- The negative of a 64-bit number; the angle with its signs. -/
import Derived.Test.YtopfeilfgbcihaaAng
import Derived.Test.YtopfeilfgbcihaaFloat
namespace Go.Proofs.Ytopfeilfgbcihaa
open Ieee
@[go_sem] theorem unary_negF (k : FloatKind) (b : Nat) : Op.unary .neg (.float k b) = pure (.float k (Op.negFloat k b)) := rfl
theorem rng_neg (r : Nat) : rng double (Op.negFloat .f64 r) = rng double r := by
  have e : Op.negFloat .f64 r = r ^^^ 2 ^ 63 := rfl
  rw [e]
  unfold rng
  rw [sw_d, show (9223372036854775808 : Nat) = 2 ^ 63 by decide, Nat.xor_mod_two_pow, Nat.mod_self, Nat.xor_zero]
theorem nan_neg (r : Nat) : nanB .f64 (Op.negFloat .f64 r) = nanB .f64 r := by
  rw [nanB_rng, nanB_rng, f64_fmt, rng_neg]
def ngA (o : Option Nat) : Option Nat := o.map (Op.negFloat .f64)
theorem av_negF (r : Nat) : av .f64 (Op.negFloat .f64 r) = ngA (av .f64 r) := by
  unfold av ngA
  rw [nan_neg]
  split <;> rfl
theorem Bd.neg {o : Option Nat} {E : Nat} (h : Bd o E) : Bd (ngA o) E := fun r e => by
  cases o with
  | none => cases e
  | some x =>
    obtain rfl : Op.negFloat .f64 x = r := Option.some.inj e
    have := h x rfl
    exact ⟨by rw [nan_neg]; exact this.1, by rw [rng_neg]; exact this.2⟩
def angO (A B : Nat) (sx sy : Bool) : Option Nat := if sy then ngA (ang2 A B sx) else ang2 A B sx
def angR (A B : Nat) (sx sy : Bool) : Option Nat := acv .f64 .f32 (angO A B sx sy)
theorem angO_bd {A B : Nat} (hA : A < 9218868437227405312) (hB : B < 9218868437227405312) (h0 : ¬ (A = 0 ∧ B = 0)) (sx sy : Bool) : Bd (angO A B sx sy) 100 := by
  unfold angO
  split
  · exact (ang2_bd hA hB h0 sx).neg
  · exact ang2_bd hA hB h0 sx
end Go.Proofs.Ytopfeilfgbcihaa
