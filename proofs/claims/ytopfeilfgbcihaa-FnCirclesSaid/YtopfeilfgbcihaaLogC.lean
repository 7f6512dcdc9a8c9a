/- The logarithm: what both sides compute of a number above 0. -/
import Derived.Test.YtopfeilfgbcihaaLog
import Derived.Test.YtopfeilfgbcihaaFloatC
import Derived.Deep.QuietTactic
namespace Go.Proofs.Ytopfeilfgbcihaa
open Go.RowKit
set_option linter.unusedVariables false
/-- It returns a 64-bit number that is this but for the choice of a NaN; the world has only drawn. -/
def GivesF (o : Option Nat) (w : World) (e : Ending) (w' : World) : Prop := ∃ r m, av .f64 r = o ∧ e = .returned (.float .f64 r) ∧ w' = w.drewN m
theorem fval_some {op : BinOp} {k : FloatKind} {x y r : Nat} (h : floatBits op k x y = some r) (w : World) : fval op k x y w = r := by simp [fval, h]
theorem fN_some {op : BinOp} {k : FloatKind} {x y r : Nat} (h : floatBits op k x y = some r) : fN op k x y = 0 := by simp [fN, h, fdraw]
theorem av_small {X : Nat} (h : X < 9218868437227405312) : av .f64 X = some X := av_some (nan_small h)
theorem fe_nan : ∀ i : Nat, i < 300 → nanB .f64 (fe (130 - (i : Int))) = false := by decide +kernel
theorem av_fe {n : Int} (h0 : -160 ≤ n) (h1 : n ≤ 130) : av .f64 (fe n) = some (fe n) := by
  have := fe_nan (130 - n).toNat (by omega)
  rw [show 130 - (((130 - n).toNat : Nat) : Int) = n by omega] at this
  exact av_some this
theorem cmp_lt {X Y : Nat} (h : X < Y) : compare (X : Int) (Y : Int) = .lt := by
  rw [Int.compare_eq_lt]; omega
theorem lss_yes {X Y : Nat} (hX : X < 9218868437227405312) (hY : Y < 9218868437227405312) (h : X < Y) : (FloatKind.f64.format.order X Y == some .lt) = true := by
  rw [ord_small hX hY, cmp_lt h]; rfl
theorem lss_no {X Y : Nat} (hX : X < 9218868437227405312) (hY : Y < 9218868437227405312) (h : ¬ X < Y) : (FloatKind.f64.format.order X Y == some .lt) = false := by
  rw [ord_small hX hY]
  rcases Int.lt_trichotomy (X : Int) (Y : Int) with q | q | q
  · omega
  · rw [q]; simp
  · rw [show compare (X : Int) (Y : Int) = .gt by rw [Int.compare_eq_gt]; omega]; rfl
theorem geq_yes {X Y : Nat} (hX : X < 9218868437227405312) (hY : Y < 9218868437227405312) (h : Y ≤ X) : (FloatKind.f64.format.order X Y == some .gt || FloatKind.f64.format.order X Y == some .eq) = true := by
  rw [ord_small hX hY]
  rcases Int.lt_trichotomy (X : Int) (Y : Int) with q | q | q
  · omega
  · rw [q]; simp
  · rw [show compare (X : Int) (Y : Int) = .gt by rw [Int.compare_eq_gt]; omega]; rfl
theorem geq_no {X Y : Nat} (hX : X < 9218868437227405312) (hY : Y < 9218868437227405312) (h : X < Y) : (FloatKind.f64.format.order X Y == some .gt || FloatKind.f64.format.order X Y == some .eq) = false := by
  rw [ord_small hX hY, cmp_lt h]; rfl
def mz (z : Nat) : Nat := if z < 9223372036854775808 then z + 1 else 0
theorem fe_falls : ∀ j : Nat, j < 13 → mz (fe (25 - 2 * ((j : Int) + 1))) < mz (fe (25 - 2 * (j : Int))) := by decide +kernel
theorem av_one : av .f64 4607182418800017408 = some 4607182418800017408 := av_small (by omega)
theorem av_two : av .f64 4611686018427387904 = some 4611686018427387904 := av_small (by omega)
theorem av_ln : av .f64 4604418534313441775 = some 4604418534313441775 := av_small (by omega)
theorem av_fe_odd (j : Nat) (h : j < 14) : av .f64 (fe (25 - 2 * (j : Int))) = some (fe (25 - 2 * (j : Int))) := av_fe (by omega) (by omega)
set_option maxHeartbeats 1000000 in
theorem logarithm_any (X : Nat) (w : World) (h : Mid X) :
    Calls Try.prog 70 #[.float .f64 X] w (GivesF (logA X) w) := by
  have hlo := h.lo
  have hhi := h.hi
  go_enter Try.func70, Try.ntmps70
  go_wp2
  go_loopw [0, 3] (fun s0 s3 wr => ∃ (Z k m : Nat), s0 = .float .f64 Z ∧ s3 = .float .f64 (fe (-(k : Int))) ∧ Hid (Z = X + k * 4503599627370496) ∧ (k = 0 ∨ Z < 4609434218613702656) ∧ wr = w.drewN m) (fun s0 _ _ => match s0 with | .float _ z => 4609434218613702656 - z | _ => 0)
  case atStart => exact ⟨X, 0, 0, rfl, by rw [show -((0 : Nat) : Int) = 0 from rfl, fe_zero], Lib.hid (by omega), .inl rfl, rfl⟩
  case round =>
    obtain ⟨Z, k, m, rfl, rfl, hZ, hk, rfl⟩ := hrel
    by_cases hlt : Z < 4604930618986332160
    · have t1 := lss_yes (X := Z) (Y := 4604930618986332160) (by omega) (by omega) hlt
      have kb : k ≤ 150 := by have := hZ.out; omega
      have e1 := fe_less (n := -(k : Int)) (by omega) (by omega)
      have e2 := mul_two (X := Z) (by have := hZ.out; omega) (by omega)
      have v1 := fun w => fval_some e1 w
      have v2 := fun w => fval_some e2 w
      have n1 := fN_some e1
      have n2 := fN_some e2
      clear e1 e2
      go_wp2
      exact ⟨⟨_, k + 1, m, rfl, by rw [show -((k + 1 : Nat) : Int) = -(k : Int) - 1 by omega], Lib.hid (by have := hZ.out; omega), .inr (by omega), rfl⟩, by show 4609434218613702656 - (Z + 4503599627370496) < 4609434218613702656 - Z; omega⟩
    · have t1 := lss_no (X := Z) (Y := 4604930618986332160) (by have := hZ.out; omega) (by omega) hlt
      have kb : k ≤ 150 := by have := hZ.out; omega
      go_wp2
      go_loopw [0, 3] (fun s0 s3 wr => ∃ (Z m : Nat) (n : Int), s0 = .float .f64 Z ∧ s3 = .float .f64 (fe n) ∧ -160 ≤ n ∧ Hid ((Z : Int) + n * 4503599627370496 = X) ∧ 4604930618986332160 ≤ Z ∧ wr = w.drewN m) (fun s0 _ _ => match s0 with | .float _ z => z | _ => 0)
      case atStart => exact ⟨Z, m, -(k : Int), rfl, rfl, by omega, Lib.hid (by have := hZ.out; omega), by omega, rfl⟩
      case round =>
        clear t1 hlt hk kb hZ
        obtain ⟨Z, m, n, rfl, rfl, n0, hZ, hC, rfl⟩ := hrel
        have n1 : n ≤ 129 := by have := hZ.out; omega
        by_cases hge : 4609434218613702656 ≤ Z
        · have t1 := geq_yes (X := Z) (Y := 4609434218613702656) (by have := hZ.out; omega) (by omega) hge
          have e1 := fe_more n0 n1
          have e2 := half_two (X := Z) (by omega) (by have := hZ.out; omega)
          have v1 := fun w => fval_some e1 w
          have v2 := fun w => fval_some e2 w
          have q1 := fN_some e1
          have q2 := fN_some e2
          clear e1 e2
          go_wp2
          exact ⟨⟨_, m, n + 1, rfl, rfl, by omega, Lib.hid (by have := hZ.out; omega), by omega, rfl⟩, by show Z - 4503599627370496 < Z; omega⟩
        · have t1 := geq_no (X := Z) (Y := 4609434218613702656) (by omega) (by omega) (by omega)
          obtain ⟨rfl, rfl⟩ := lg_is h hC (by omega) hZ.out
          have avY := Lib.hid (av_small (X := lgY X) (by omega))
          have avN := Lib.hid (av_fe n0 (by omega))
          clear hge hC hZ hlo hhi
          go_wp2
          go_loopw [6, 7] (fun s6 s7 wr => ∃ (j r m : Nat), j ≤ 13 ∧ s7 = .float .f64 (fe (25 - 2 * (j : Int))) ∧ s6 = .float .f64 r ∧ Hid (av .f64 r = qA (aop .mul .f64 (sA X) (sA X)) j) ∧ wr = w.drewN m) (fun _ s7 _ => match s7 with | .float _ z => mz z | _ => 0)
          case atStart => exact ⟨0, 0, _, by omega, by rw [show (25 : Int) - 2 * ((0 : Nat) : Int) = 25 from rfl, fe_25], rfl, Lib.hid (av_some (nan_zero .f64)), rfl⟩
          case round =>
            obtain ⟨j, r, m, hj, rfl, rfl, hr, rfl⟩ := hrel
            have to := fe_odd j (by omega)
            obtain ⟨e1, t2⟩ := to
            by_cases hj2 : j < 13
            · rw [decide_eq_true hj2] at t2
              have v1 := fun w => fval_some e1 w
              have q1 := fN_some e1
              have hm := fe_falls j hj2
              clear e1
              go_wp2
              refine ⟨⟨j + 1, _, _, by omega, by rw [show 25 - 2 * ((j + 1 : Nat) : Int) = 25 - 2 * ((j : Int) + 1) by omega], rfl, Lib.hid ?_, rfl⟩, hm⟩
              simp only [av_fval, hr.out, avY.out, av_one, av_fe_odd j (by omega)]
              rfl
            · rw [decide_eq_false hj2] at t2
              obtain rfl : j = 13 := by omega
              clear e1
              go_wp2
              go_ret
              refine ⟨_, _, ?_, rfl, rfl⟩
              simp only [av_fval, hr.out, avY.out, avN.out, av_one, av_two, av_ln]
              rfl
end Go.Proofs.Ytopfeilfgbcihaa
