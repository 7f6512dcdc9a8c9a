/- The logarithm: what the reference computes of a number above 0. -/
import Derived.Test.YtopfeilfgbcihaaLogC
namespace Go.Proofs.Ytopfeilfgbcihaa
open Go.RowKit
set_option linter.unusedVariables false
theorem ord_self {X : Nat} (h : X < 9218868437227405312) : (FloatKind.f64.format.order X X != some .eq) = false := by
  rw [ord_small h h]; simp
theorem eq_no {X Y : Nat} (hX : X < 9218868437227405312) (hY : Y < 9218868437227405312) (h : Y < X) : (FloatKind.f64.format.order X Y == some .eq) = false := by
  rw [ord_small hX hY, show compare (X : Int) (Y : Int) = .gt by rw [Int.compare_eq_gt]; omega]; rfl
theorem gtr_no {X Y : Nat} (hX : X < 9218868437227405312) (hY : Y < 9218868437227405312) (h : X ≤ Y) : (FloatKind.f64.format.order X Y == some .gt) = false := by
  rw [ord_small hX hY]
  rcases Int.lt_trichotomy (X : Int) (Y : Int) with q | q | q
  · rw [show compare (X : Int) (Y : Int) = .lt by rw [Int.compare_eq_lt]; omega]; rfl
  · rw [q]; simp
  · omega
theorem nrst (n : Int) : floatOfInt .f64 n = fe n := rfl
set_option maxHeartbeats 1000000 in
theorem l01LogWide_any (X : Nat) (w : World) (h : Mid X) :
    Calls Try.prog 95 #[.float .f64 X] w (GivesF (logA X) w) := by
  have hlo := h.lo
  have hhi := h.hi
  have a1 := ord_self (X := X) (by omega)
  have a2 := lss_no (X := X) (Y := 0) (by omega) (by omega) (by omega)
  have a3 := eq_no (X := X) (Y := 0) (by omega) (by omega) (by omega)
  have a4 := gtr_no (X := X) (Y := 9218868437227405311) (by omega) (by omega) (by omega)
  go_enter Try.func95, Try.ntmps95
  go_wp2_with go_in
  go_loopw [0, 3] (fun s0 s3 wr => ∃ (Z k m : Nat), s0 = .float .f64 Z ∧ s3 = .int .i64 k ∧ k ≤ 200 ∧ Hid (Z + k * 4503599627370496 = X) ∧ (k = 0 ∨ 4604930618986332160 ≤ Z) ∧ wr = w.drewN m) (fun s0 _ _ => match s0 with | .float _ z => z | _ => 0)
  case atStart => exact ⟨X, 0, 0, rfl, rfl, by omega, Lib.hid (by omega), .inl rfl, rfl⟩
  case round =>
    clear a1 a2 a3 a4
    obtain ⟨Z, k, m, rfl, rfl, k2, hZ, hk, rfl⟩ := hrel
    by_cases hge : 4609434218613702656 ≤ Z
    · have t1 := geq_yes (X := Z) (Y := 4609434218613702656) (by have := hZ.out; omega) (by omega) hge
      have kb : k ≤ 150 := by have := hZ.out; omega
      have e2 := half_two (X := Z) (by omega) (by have := hZ.out; omega)
      have v2 := fun w => fval_some e2 w
      have q2 := fN_some e2
      clear e2
      go_wp2
      exact ⟨⟨_, k + 1, m, rfl, by go_num, by omega, Lib.hid (by have := hZ.out; omega), .inr (by omega), rfl⟩, by show Z - 4503599627370496 < Z; omega⟩
    · have t1 := geq_no (X := Z) (Y := 4609434218613702656) (by omega) (by omega) (by omega)
      go_wp2
      go_loopw [0, 3] (fun s0 s3 wr => ∃ (Z m : Nat) (n : Int), s0 = .float .f64 Z ∧ s3 = .int .i64 n ∧ n ≤ 200 ∧ -160 ≤ n ∧ Hid ((Z : Int) + n * 4503599627370496 = X) ∧ Z < 4609434218613702656 ∧ wr = w.drewN m) (fun s0 _ _ => match s0 with | .float _ z => 4609434218613702656 - z | _ => 0)
      case atStart => exact ⟨Z, m, (k : Int), rfl, rfl, by omega, by omega, Lib.hid (by have := hZ.out; omega), by omega, rfl⟩
      case round =>
        clear t1 hge hk k2 hZ
        obtain ⟨Z, m, n, rfl, rfl, n2, n0, hZ, hC, rfl⟩ := hrel
        have n1 : -149 ≤ n := by have := hZ.out; omega
        by_cases hlt : Z < 4604930618986332160
        · have t1 := lss_yes (X := Z) (Y := 4604930618986332160) (by omega) (by omega) hlt
          have e2 := mul_two (X := Z) (by have := hZ.out; omega) (by omega)
          have v2 := fun w => fval_some e2 w
          have q2 := fN_some e2
          clear e2
          go_wp2
          exact ⟨⟨_, m, n - 1, rfl, rfl, by omega, by omega, Lib.hid (by have := hZ.out; omega), by omega, rfl⟩, by show 4609434218613702656 - (Z + 4503599627370496) < 4609434218613702656 - Z; omega⟩
        · have t1 := lss_no (X := Z) (Y := 4604930618986332160) (by omega) (by omega) hlt
          obtain ⟨rfl, rfl⟩ := lg_is h (by omega) hC hZ.out
          have avY := Lib.hid (av_small (X := lgY X) (by omega))
          have avN := Lib.hid (av_fe n0 (by have := (lg_spec h).2.1; omega))
          clear hlt hC hZ hlo hhi
          go_wp2
          go_loopw [6, 7] (fun s6 s7 wr => ∃ (j r m : Nat), j ≤ 13 ∧ s7 = .int .i64 (25 - 2 * (j : Int)) ∧ s6 = .float .f64 r ∧ Hid (av .f64 r = qA (aop .mul .f64 (sA X) (sA X)) j) ∧ wr = w.drewN m) (fun _ s7 _ => (intOf s7 + 1).toNat)
          case atStart => exact ⟨0, 0, _, by omega, rfl, rfl, Lib.hid (av_some (nan_zero .f64)), rfl⟩
          case round =>
            obtain ⟨j, r, m, hj, rfl, rfl, hr, rfl⟩ := hrel
            by_cases hj2 : j < 13
            · go_wp2
              refine ⟨⟨j + 1, _, _, by omega, by rw [show 25 - 2 * (j : Int) - 2 = 25 - 2 * ((j + 1 : Nat) : Int) by omega], rfl, Lib.hid ?_, rfl⟩, by simp [intOf]; omega⟩
              simp only [av_fval, nrst, hr.out, avY.out, av_one, av_fe_odd j (by omega)]
              rfl
            · obtain rfl : j = 13 := by omega
              go_wp2
              go_ret
              refine ⟨_, _, ?_, rfl, rfl⟩
              simp only [av_fval, nrst, hr.out, avY.out, avN.out, av_one, av_two, av_ln]
              rfl
end Go.Proofs.Ytopfeilfgbcihaa
