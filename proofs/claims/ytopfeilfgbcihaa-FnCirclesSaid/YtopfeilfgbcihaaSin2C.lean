/- The sine of turns: the reference's side. -/
import Derived.Test.YtopfeilfgbcihaaSinC
import Derived.Deep.DeepCutAuto
namespace Go.Proofs.Ytopfeilfgbcihaa
open Go.RowKit
set_option linter.unusedVariables false
theorem small_fin {y : Nat} (h : Small52 y) : finB .f64 y = true := finB_of (by have := h.2; rw [f64_fmt, inf_d]; omega)
theorem sr_abs {y : Nat} (h : Small52 y) : -4841369599423283200 < sr Ieee.double y ∧ sr Ieee.double y < 4841369599423283200 := by
  have := h.2
  unfold sr
  split <;> omega
theorem sr_52 : sr Ieee.double 4841369599423283200 = 4841369599423283200 := by decide +kernel
theorem sr_52n : sr Ieee.double 14064741636278059008 = -4841369599423283200 := by decide +kernel
theorem n52n_ : nanB .f64 14064741636278059008 = false := by decide +kernel
theorem small_ge {y : Nat} (h : Small52 y) : (FloatKind.f64.format.order y 4841369599423283200 == some .gt || FloatKind.f64.format.order y 4841369599423283200 == some .eq) = false := by
  rw [order_sr .f64 y 4841369599423283200 h.1 (nan_small (by omega)), f64_fmt, sr_52, cmp_ltI (sr_abs h).2]; rfl
theorem small_le {y : Nat} (h : Small52 y) : (FloatKind.f64.format.order y 14064741636278059008 == some .lt || FloatKind.f64.format.order y 14064741636278059008 == some .eq) = false := by
  rw [order_sr .f64 y 14064741636278059008 h.1 n52n_, f64_fmt, sr_52n, cmp_gt (sr_abs h).1]; rfl
set_option maxRecDepth 100000 in
set_option maxHeartbeats 8000000 in
theorem l01SineWide_any (y : Nat) (n : Int) (w : World) (hs : Small52 y) (h : Trn y n) : Calls Try.prog 96 #[.float .f64 y] w (GivesF (sinA (f1A y n)) w) := by
  have a1 := fun w => fin_same (small_fin hs) w
  have a2 := small_ge hs
  have a3 := small_le hs
  have a4 := fun w => ival_some h.int w
  have a5 := iN_some h.int
  have lo := h.lo
  have hi := h.hi
  have T1 : ∀ w, (FloatKind.f64.format.order (fval .sub .f64 y (floatOfInt .f64 n) w) 0 == some .lt) = ltA (f0A y n) 0 := fun w => by
    rw [ord_lt _ _ n0_, av_fval, av_some hs.1, nrst, av_feI]; rfl
  have AY := Lib.hid (av_some hs.1)
  clear hs h
  cases hb : ltA (f0A y n) 0 with
  | false =>
    rw [hb] at T1
    obtain ⟨o, ho⟩ : ∃ o, o = f1A y n := ⟨_, rfl⟩
    have HO := Lib.hid (show aop .sub .f64 (some y) (some (fe n)) = o by rw [ho]; unfold f1A; rw [hb]; rfl)
    rw [← ho]
    clear hb ho
    go_enter Try.func96, Try.ntmps96
    go_upto_region 8 with (go_in)
    have HR := Lib.hid (show ∀ w1, av .f64 (fval .sub .f64 y (floatOfInt .f64 n) w1) = o from fun w1 => by rw [← HO.out]; simp only [av_fval, nrst, AY.out, av_feI])
    have T2 : ∀ w1, (FloatKind.f64.format.order (fval .sub .f64 y (floatOfInt .f64 n) w1) 4602678819172646912 == some .gt || FloatKind.f64.format.order (fval .sub .f64 y (floatOfInt .f64 n) w1) 4602678819172646912 == some .eq) = geA o 4602678819172646912 := fun w1 => by rw [ord_ge _ _ nh_, HR.out]
    cases hb2 : geA o 4602678819172646912 with
    | true =>
      simp only [hb2] at T2
      have HB2 := Lib.hid hb2
      have F2 : f2A o = aop .sub .f64 o (some 4602678819172646912) := by unfold f2A; rw [hb2]; rfl
      have T3 : ∀ w1 w, (FloatKind.f64.format.order (fval .sub .f64 (fval .sub .f64 y (floatOfInt .f64 n) w1) 4602678819172646912 w) 4598175219545276416 == some .gt) = gtA (f2A o) 4598175219545276416 := fun w1 w => by
        rw [ord_gt _ _ nq_, av_fval, HR.out, av_h, F2]
      clear hb2
      cases hb3 : gtA (f2A o) 4598175219545276416
      all_goals
        simp only [hb3] at T3
      · have HF3 := Lib.hid (show f3A o = aop .sub .f64 o (some 4602678819172646912) by unfold f3A; rw [hb3, F2]; rfl)
        clear hb3 F2
        go_wp2
        go_loopw [7, 8] (fun s7 s8 wr => ∃ (j p m : Nat), j ≤ 8 ∧ s8 = .int .i64 (8 - (j : Int)) ∧ s7 = .float .f64 p ∧ Hid (av .f64 p = sinP (aop .mul .f64 (zA o) (zA o)) j) ∧ wr = w.drewN m) (fun _ s8 _ => (intOf s8).toNat)
        case atStart => exact ⟨0, 4607182418800017408, _, by omega, rfl, rfl, Lib.hid av_one, rfl⟩
        case round =>
          clear T2 T3
          obtain ⟨j, p, m, hj, rfl, rfl, hp, rfl⟩ := hrel
          by_cases hj2 : j < 8
          · obtain ⟨K, hK⟩ : ∃ K : Int, K = 8 - (j : Int) := ⟨_, rfl⟩
            rw [← hK]
            have k0 : 1 ≤ K := by omega
            have k1 : K ≤ 8 := by omega
            have HK := Lib.hid (show 2 * K * (2 * K + 1) = dv j by rw [hK]; rfl)
            have p0 : 0 ≤ 2 * K * (2 * K + 1) := Int.mul_nonneg (by omega) (by omega)
            have p1 : 2 * K * (2 * K + 1) ≤ 272 := Int.mul_le_mul (show 2 * K ≤ 16 by omega) (show 2 * K + 1 ≤ 17 by omega) (by omega) (by omega)
            have HK2 := Lib.hid hK
            clear hK
            go_wp2
            exact ⟨⟨j + 1, _, _, by omega, by rw [show K - 1 = 8 - ((j + 1 : Nat) : Int) by have := HK2.out; omega], rfl, Lib.hid (by simp only [av_fval, nrst, HK.out, hp.out, AY.out, av_feI, HO.out, av_one, av_h, av_tp, av_dv j hj2]; unfold zA; rw [HF3.out]; rfl), rfl⟩, by simp [intOf]; omega⟩
          · obtain rfl : j = 8 := by omega
            go_wp2
            go_ret
            exact ⟨_, _, by simp only [av_negF, av_fval, nrst, hp.out, AY.out, av_feI, HO.out, av_h, av_tp]; unfold sinA; rw [HB2.out]; unfold sin0 zA; rw [HF3.out]; rfl, rfl, rfl⟩
      · have HF3 := Lib.hid (show f3A o = aop .sub .f64 (some 4602678819172646912) (aop .sub .f64 o (some 4602678819172646912)) by unfold f3A; rw [hb3, F2]; rfl)
        clear hb3 F2
        go_wp2
        go_loopw [7, 8] (fun s7 s8 wr => ∃ (j p m : Nat), j ≤ 8 ∧ s8 = .int .i64 (8 - (j : Int)) ∧ s7 = .float .f64 p ∧ Hid (av .f64 p = sinP (aop .mul .f64 (zA o) (zA o)) j) ∧ wr = w.drewN m) (fun _ s8 _ => (intOf s8).toNat)
        case atStart => exact ⟨0, 4607182418800017408, _, by omega, rfl, rfl, Lib.hid av_one, rfl⟩
        case round =>
          clear T2 T3
          obtain ⟨j, p, m, hj, rfl, rfl, hp, rfl⟩ := hrel
          by_cases hj2 : j < 8
          · obtain ⟨K, hK⟩ : ∃ K : Int, K = 8 - (j : Int) := ⟨_, rfl⟩
            rw [← hK]
            have k0 : 1 ≤ K := by omega
            have k1 : K ≤ 8 := by omega
            have HK := Lib.hid (show 2 * K * (2 * K + 1) = dv j by rw [hK]; rfl)
            have p0 : 0 ≤ 2 * K * (2 * K + 1) := Int.mul_nonneg (by omega) (by omega)
            have p1 : 2 * K * (2 * K + 1) ≤ 272 := Int.mul_le_mul (show 2 * K ≤ 16 by omega) (show 2 * K + 1 ≤ 17 by omega) (by omega) (by omega)
            have HK2 := Lib.hid hK
            clear hK
            go_wp2
            exact ⟨⟨j + 1, _, _, by omega, by rw [show K - 1 = 8 - ((j + 1 : Nat) : Int) by have := HK2.out; omega], rfl, Lib.hid (by simp only [av_fval, nrst, HK.out, hp.out, AY.out, av_feI, HO.out, av_one, av_h, av_tp, av_dv j hj2]; unfold zA; rw [HF3.out]; rfl), rfl⟩, by simp [intOf]; omega⟩
          · obtain rfl : j = 8 := by omega
            go_wp2
            go_ret
            exact ⟨_, _, by simp only [av_negF, av_fval, nrst, hp.out, AY.out, av_feI, HO.out, av_h, av_tp]; unfold sinA; rw [HB2.out]; unfold sin0 zA; rw [HF3.out]; rfl, rfl, rfl⟩
    | false =>
      simp only [hb2] at T2
      have HB2 := Lib.hid hb2
      have F2 : f2A o = o := by unfold f2A; rw [hb2]; rfl
      have T3 : ∀ w1, (FloatKind.f64.format.order (fval .sub .f64 y (floatOfInt .f64 n) w1) 4598175219545276416 == some .gt) = gtA (f2A o) 4598175219545276416 := fun w1 => by
        rw [ord_gt _ _ nq_, HR.out, F2]
      clear hb2
      cases hb3 : gtA (f2A o) 4598175219545276416
      all_goals
        simp only [hb3] at T3
      · have HF3 := Lib.hid (show f3A o = o by unfold f3A; rw [hb3, F2]; rfl)
        clear hb3 F2
        go_wp2
        go_loopw [7, 8] (fun s7 s8 wr => ∃ (j p m : Nat), j ≤ 8 ∧ s8 = .int .i64 (8 - (j : Int)) ∧ s7 = .float .f64 p ∧ Hid (av .f64 p = sinP (aop .mul .f64 (zA o) (zA o)) j) ∧ wr = w.drewN m) (fun _ s8 _ => (intOf s8).toNat)
        case atStart => exact ⟨0, 4607182418800017408, _, by omega, rfl, rfl, Lib.hid av_one, rfl⟩
        case round =>
          clear T2 T3
          obtain ⟨j, p, m, hj, rfl, rfl, hp, rfl⟩ := hrel
          by_cases hj2 : j < 8
          · obtain ⟨K, hK⟩ : ∃ K : Int, K = 8 - (j : Int) := ⟨_, rfl⟩
            rw [← hK]
            have k0 : 1 ≤ K := by omega
            have k1 : K ≤ 8 := by omega
            have HK := Lib.hid (show 2 * K * (2 * K + 1) = dv j by rw [hK]; rfl)
            have p0 : 0 ≤ 2 * K * (2 * K + 1) := Int.mul_nonneg (by omega) (by omega)
            have p1 : 2 * K * (2 * K + 1) ≤ 272 := Int.mul_le_mul (show 2 * K ≤ 16 by omega) (show 2 * K + 1 ≤ 17 by omega) (by omega) (by omega)
            have HK2 := Lib.hid hK
            clear hK
            go_wp2
            exact ⟨⟨j + 1, _, _, by omega, by rw [show K - 1 = 8 - ((j + 1 : Nat) : Int) by have := HK2.out; omega], rfl, Lib.hid (by simp only [av_fval, nrst, HK.out, hp.out, AY.out, av_feI, HO.out, av_one, av_tp, av_dv j hj2]; unfold zA; rw [HF3.out]; rfl), rfl⟩, by simp [intOf]; omega⟩
          · obtain rfl : j = 8 := by omega
            go_wp2
            go_ret
            exact ⟨_, _, by simp only [av_fval, nrst, hp.out, AY.out, av_feI, HO.out, av_tp]; unfold sinA; rw [HB2.out]; unfold sin0 zA; rw [HF3.out]; rfl, rfl, rfl⟩
      · have HF3 := Lib.hid (show f3A o = aop .sub .f64 (some 4602678819172646912) (o) by unfold f3A; rw [hb3, F2]; rfl)
        clear hb3 F2
        go_wp2
        go_loopw [7, 8] (fun s7 s8 wr => ∃ (j p m : Nat), j ≤ 8 ∧ s8 = .int .i64 (8 - (j : Int)) ∧ s7 = .float .f64 p ∧ Hid (av .f64 p = sinP (aop .mul .f64 (zA o) (zA o)) j) ∧ wr = w.drewN m) (fun _ s8 _ => (intOf s8).toNat)
        case atStart => exact ⟨0, 4607182418800017408, _, by omega, rfl, rfl, Lib.hid av_one, rfl⟩
        case round =>
          clear T2 T3
          obtain ⟨j, p, m, hj, rfl, rfl, hp, rfl⟩ := hrel
          by_cases hj2 : j < 8
          · obtain ⟨K, hK⟩ : ∃ K : Int, K = 8 - (j : Int) := ⟨_, rfl⟩
            rw [← hK]
            have k0 : 1 ≤ K := by omega
            have k1 : K ≤ 8 := by omega
            have HK := Lib.hid (show 2 * K * (2 * K + 1) = dv j by rw [hK]; rfl)
            have p0 : 0 ≤ 2 * K * (2 * K + 1) := Int.mul_nonneg (by omega) (by omega)
            have p1 : 2 * K * (2 * K + 1) ≤ 272 := Int.mul_le_mul (show 2 * K ≤ 16 by omega) (show 2 * K + 1 ≤ 17 by omega) (by omega) (by omega)
            have HK2 := Lib.hid hK
            clear hK
            go_wp2
            exact ⟨⟨j + 1, _, _, by omega, by rw [show K - 1 = 8 - ((j + 1 : Nat) : Int) by have := HK2.out; omega], rfl, Lib.hid (by simp only [av_fval, nrst, HK.out, hp.out, AY.out, av_feI, HO.out, av_one, av_h, av_tp, av_dv j hj2]; unfold zA; rw [HF3.out]; rfl), rfl⟩, by simp [intOf]; omega⟩
          · obtain rfl : j = 8 := by omega
            go_wp2
            go_ret
            exact ⟨_, _, by simp only [av_fval, nrst, hp.out, AY.out, av_feI, HO.out, av_h, av_tp]; unfold sinA; rw [HB2.out]; unfold sin0 zA; rw [HF3.out]; rfl, rfl, rfl⟩
  | true =>
    rw [hb] at T1
    obtain ⟨o, ho⟩ : ∃ o, o = f1A y n := ⟨_, rfl⟩
    have HO := Lib.hid (show aop .add .f64 (aop .sub .f64 (some y) (some (fe n))) (some 4607182418800017408) = o by rw [ho]; unfold f1A; rw [hb]; rfl)
    rw [← ho]
    clear hb ho
    go_enter Try.func96, Try.ntmps96
    go_upto_region 8 with (go_in)
    have HR := Lib.hid (show ∀ w1 w2, av .f64 (fval .add .f64 (fval .sub .f64 y (floatOfInt .f64 n) w1) 4607182418800017408 w2) = o from fun w1 w2 => by rw [← HO.out]; simp only [av_fval, nrst, AY.out, av_feI, av_one])
    have T2 : ∀ w1 w2, (FloatKind.f64.format.order (fval .add .f64 (fval .sub .f64 y (floatOfInt .f64 n) w1) 4607182418800017408 w2) 4602678819172646912 == some .gt || FloatKind.f64.format.order (fval .add .f64 (fval .sub .f64 y (floatOfInt .f64 n) w1) 4607182418800017408 w2) 4602678819172646912 == some .eq) = geA o 4602678819172646912 := fun w1 w2 => by rw [ord_ge _ _ nh_, HR.out]
    cases hb2 : geA o 4602678819172646912 with
    | true =>
      simp only [hb2] at T2
      have HB2 := Lib.hid hb2
      have F2 : f2A o = aop .sub .f64 o (some 4602678819172646912) := by unfold f2A; rw [hb2]; rfl
      have T3 : ∀ w1 w2 w, (FloatKind.f64.format.order (fval .sub .f64 (fval .add .f64 (fval .sub .f64 y (floatOfInt .f64 n) w1) 4607182418800017408 w2) 4602678819172646912 w) 4598175219545276416 == some .gt) = gtA (f2A o) 4598175219545276416 := fun w1 w2 w => by
        rw [ord_gt _ _ nq_, av_fval, HR.out, av_h, F2]
      clear hb2
      cases hb3 : gtA (f2A o) 4598175219545276416
      all_goals
        simp only [hb3] at T3
      · have HF3 := Lib.hid (show f3A o = aop .sub .f64 o (some 4602678819172646912) by unfold f3A; rw [hb3, F2]; rfl)
        clear hb3 F2
        go_wp2
        go_loopw [7, 8] (fun s7 s8 wr => ∃ (j p m : Nat), j ≤ 8 ∧ s8 = .int .i64 (8 - (j : Int)) ∧ s7 = .float .f64 p ∧ Hid (av .f64 p = sinP (aop .mul .f64 (zA o) (zA o)) j) ∧ wr = w.drewN m) (fun _ s8 _ => (intOf s8).toNat)
        case atStart => exact ⟨0, 4607182418800017408, _, by omega, rfl, rfl, Lib.hid av_one, rfl⟩
        case round =>
          clear T2 T3
          obtain ⟨j, p, m, hj, rfl, rfl, hp, rfl⟩ := hrel
          by_cases hj2 : j < 8
          · obtain ⟨K, hK⟩ : ∃ K : Int, K = 8 - (j : Int) := ⟨_, rfl⟩
            rw [← hK]
            have k0 : 1 ≤ K := by omega
            have k1 : K ≤ 8 := by omega
            have HK := Lib.hid (show 2 * K * (2 * K + 1) = dv j by rw [hK]; rfl)
            have p0 : 0 ≤ 2 * K * (2 * K + 1) := Int.mul_nonneg (by omega) (by omega)
            have p1 : 2 * K * (2 * K + 1) ≤ 272 := Int.mul_le_mul (show 2 * K ≤ 16 by omega) (show 2 * K + 1 ≤ 17 by omega) (by omega) (by omega)
            have HK2 := Lib.hid hK
            clear hK
            go_wp2
            exact ⟨⟨j + 1, _, _, by omega, by rw [show K - 1 = 8 - ((j + 1 : Nat) : Int) by have := HK2.out; omega], rfl, Lib.hid (by simp only [av_fval, nrst, HK.out, hp.out, AY.out, av_feI, HO.out, av_one, av_h, av_tp, av_dv j hj2]; unfold zA; rw [HF3.out]; rfl), rfl⟩, by simp [intOf]; omega⟩
          · obtain rfl : j = 8 := by omega
            go_wp2
            go_ret
            exact ⟨_, _, by simp only [av_negF, av_fval, nrst, hp.out, AY.out, av_feI, HO.out, av_one, av_h, av_tp]; unfold sinA; rw [HB2.out]; unfold sin0 zA; rw [HF3.out]; rfl, rfl, rfl⟩
      · have HF3 := Lib.hid (show f3A o = aop .sub .f64 (some 4602678819172646912) (aop .sub .f64 o (some 4602678819172646912)) by unfold f3A; rw [hb3, F2]; rfl)
        clear hb3 F2
        go_wp2
        go_loopw [7, 8] (fun s7 s8 wr => ∃ (j p m : Nat), j ≤ 8 ∧ s8 = .int .i64 (8 - (j : Int)) ∧ s7 = .float .f64 p ∧ Hid (av .f64 p = sinP (aop .mul .f64 (zA o) (zA o)) j) ∧ wr = w.drewN m) (fun _ s8 _ => (intOf s8).toNat)
        case atStart => exact ⟨0, 4607182418800017408, _, by omega, rfl, rfl, Lib.hid av_one, rfl⟩
        case round =>
          clear T2 T3
          obtain ⟨j, p, m, hj, rfl, rfl, hp, rfl⟩ := hrel
          by_cases hj2 : j < 8
          · obtain ⟨K, hK⟩ : ∃ K : Int, K = 8 - (j : Int) := ⟨_, rfl⟩
            rw [← hK]
            have k0 : 1 ≤ K := by omega
            have k1 : K ≤ 8 := by omega
            have HK := Lib.hid (show 2 * K * (2 * K + 1) = dv j by rw [hK]; rfl)
            have p0 : 0 ≤ 2 * K * (2 * K + 1) := Int.mul_nonneg (by omega) (by omega)
            have p1 : 2 * K * (2 * K + 1) ≤ 272 := Int.mul_le_mul (show 2 * K ≤ 16 by omega) (show 2 * K + 1 ≤ 17 by omega) (by omega) (by omega)
            have HK2 := Lib.hid hK
            clear hK
            go_wp2
            exact ⟨⟨j + 1, _, _, by omega, by rw [show K - 1 = 8 - ((j + 1 : Nat) : Int) by have := HK2.out; omega], rfl, Lib.hid (by simp only [av_fval, nrst, HK.out, hp.out, AY.out, av_feI, HO.out, av_one, av_h, av_tp, av_dv j hj2]; unfold zA; rw [HF3.out]; rfl), rfl⟩, by simp [intOf]; omega⟩
          · obtain rfl : j = 8 := by omega
            go_wp2
            go_ret
            exact ⟨_, _, by simp only [av_negF, av_fval, nrst, hp.out, AY.out, av_feI, HO.out, av_one, av_h, av_tp]; unfold sinA; rw [HB2.out]; unfold sin0 zA; rw [HF3.out]; rfl, rfl, rfl⟩
    | false =>
      simp only [hb2] at T2
      have HB2 := Lib.hid hb2
      have F2 : f2A o = o := by unfold f2A; rw [hb2]; rfl
      have T3 : ∀ w1 w2, (FloatKind.f64.format.order (fval .add .f64 (fval .sub .f64 y (floatOfInt .f64 n) w1) 4607182418800017408 w2) 4598175219545276416 == some .gt) = gtA (f2A o) 4598175219545276416 := fun w1 w2 => by
        rw [ord_gt _ _ nq_, HR.out, F2]
      clear hb2
      cases hb3 : gtA (f2A o) 4598175219545276416
      all_goals
        simp only [hb3] at T3
      · have HF3 := Lib.hid (show f3A o = o by unfold f3A; rw [hb3, F2]; rfl)
        clear hb3 F2
        go_wp2
        go_loopw [7, 8] (fun s7 s8 wr => ∃ (j p m : Nat), j ≤ 8 ∧ s8 = .int .i64 (8 - (j : Int)) ∧ s7 = .float .f64 p ∧ Hid (av .f64 p = sinP (aop .mul .f64 (zA o) (zA o)) j) ∧ wr = w.drewN m) (fun _ s8 _ => (intOf s8).toNat)
        case atStart => exact ⟨0, 4607182418800017408, _, by omega, rfl, rfl, Lib.hid av_one, rfl⟩
        case round =>
          clear T2 T3
          obtain ⟨j, p, m, hj, rfl, rfl, hp, rfl⟩ := hrel
          by_cases hj2 : j < 8
          · obtain ⟨K, hK⟩ : ∃ K : Int, K = 8 - (j : Int) := ⟨_, rfl⟩
            rw [← hK]
            have k0 : 1 ≤ K := by omega
            have k1 : K ≤ 8 := by omega
            have HK := Lib.hid (show 2 * K * (2 * K + 1) = dv j by rw [hK]; rfl)
            have p0 : 0 ≤ 2 * K * (2 * K + 1) := Int.mul_nonneg (by omega) (by omega)
            have p1 : 2 * K * (2 * K + 1) ≤ 272 := Int.mul_le_mul (show 2 * K ≤ 16 by omega) (show 2 * K + 1 ≤ 17 by omega) (by omega) (by omega)
            have HK2 := Lib.hid hK
            clear hK
            go_wp2
            exact ⟨⟨j + 1, _, _, by omega, by rw [show K - 1 = 8 - ((j + 1 : Nat) : Int) by have := HK2.out; omega], rfl, Lib.hid (by simp only [av_fval, nrst, HK.out, hp.out, AY.out, av_feI, HO.out, av_one, av_tp, av_dv j hj2]; unfold zA; rw [HF3.out]; rfl), rfl⟩, by simp [intOf]; omega⟩
          · obtain rfl : j = 8 := by omega
            go_wp2
            go_ret
            exact ⟨_, _, by simp only [av_fval, nrst, hp.out, AY.out, av_feI, HO.out, av_one, av_tp]; unfold sinA; rw [HB2.out]; unfold sin0 zA; rw [HF3.out]; rfl, rfl, rfl⟩
      · have HF3 := Lib.hid (show f3A o = aop .sub .f64 (some 4602678819172646912) (o) by unfold f3A; rw [hb3, F2]; rfl)
        clear hb3 F2
        go_wp2
        go_loopw [7, 8] (fun s7 s8 wr => ∃ (j p m : Nat), j ≤ 8 ∧ s8 = .int .i64 (8 - (j : Int)) ∧ s7 = .float .f64 p ∧ Hid (av .f64 p = sinP (aop .mul .f64 (zA o) (zA o)) j) ∧ wr = w.drewN m) (fun _ s8 _ => (intOf s8).toNat)
        case atStart => exact ⟨0, 4607182418800017408, _, by omega, rfl, rfl, Lib.hid av_one, rfl⟩
        case round =>
          clear T2 T3
          obtain ⟨j, p, m, hj, rfl, rfl, hp, rfl⟩ := hrel
          by_cases hj2 : j < 8
          · obtain ⟨K, hK⟩ : ∃ K : Int, K = 8 - (j : Int) := ⟨_, rfl⟩
            rw [← hK]
            have k0 : 1 ≤ K := by omega
            have k1 : K ≤ 8 := by omega
            have HK := Lib.hid (show 2 * K * (2 * K + 1) = dv j by rw [hK]; rfl)
            have p0 : 0 ≤ 2 * K * (2 * K + 1) := Int.mul_nonneg (by omega) (by omega)
            have p1 : 2 * K * (2 * K + 1) ≤ 272 := Int.mul_le_mul (show 2 * K ≤ 16 by omega) (show 2 * K + 1 ≤ 17 by omega) (by omega) (by omega)
            have HK2 := Lib.hid hK
            clear hK
            go_wp2
            exact ⟨⟨j + 1, _, _, by omega, by rw [show K - 1 = 8 - ((j + 1 : Nat) : Int) by have := HK2.out; omega], rfl, Lib.hid (by simp only [av_fval, nrst, HK.out, hp.out, AY.out, av_feI, HO.out, av_one, av_h, av_tp, av_dv j hj2]; unfold zA; rw [HF3.out]; rfl), rfl⟩, by simp [intOf]; omega⟩
          · obtain rfl : j = 8 := by omega
            go_wp2
            go_ret
            exact ⟨_, _, by simp only [av_fval, nrst, hp.out, AY.out, av_feI, HO.out, av_one, av_h, av_tp]; unfold sinA; rw [HB2.out]; unfold sin0 zA; rw [HF3.out]; rfl, rfl, rfl⟩
end Go.Proofs.Ytopfeilfgbcihaa
