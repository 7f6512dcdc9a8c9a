/- The sine of turns: the program's side. -/
import Derived.Test.YtopfeilfgbcihaaTenC
import Derived.Test.YtopfeilfgbcihaaSin
import Derived.Test.YtopfeilfgbcihaaAng2C
namespace Go.Proofs.Ytopfeilfgbcihaa
open Go.RowKit
set_option linter.unusedVariables false
theorem ext_trunc (x : Nat) (w : World) (h : nanB .f64 x = false) : (callFunc 109 #[.float .f64 x]).run Try.prog w = .ok (.value (.float .f64 (Ieee.double.write ((Ieee.double.read x).integral .zero)))) w := by
  have q := run_callFunc_extern (P := Try.prog) (f := 109) (e := Extern.MathFloor.toIntegral "math.archTrunc" .zero) (by kernel_rfl : Try.prog.funcs[109]? = some Try.f109) (by kernel_rfl) (by kernel_rfl) (by kernel_rfl) (by kernel_rfl) #[.float .f64 x] w
  rw [q, run_whole _ _ _ _ h]; rfl
theorem nan_fe (n : Int) : nanB .f64 (fe n) = false := by
  rw [fe_near]
  obtain ⟨r, h1, h2⟩ := nearest_rung (f := Ieee.double) (decide (n < 0)) n.natAbs 0
  have hs := sw_d
  have hi := inf_d
  rw [h2, nanB_rng, f64_fmt, rng_word Ieee.double _ r (by omega), decide_eq_false_iff_not]; omega
theorem av_feI (n : Int) : av .f64 (fe n) = some (fe n) := av_some (nan_fe n)
theorem ord_lt (r c : Nat) (hc : nanB .f64 c = false) : (FloatKind.f64.format.order r c == some .lt) = ltA (av .f64 r) c := by rw [ord_av, av_some hc]; rfl
theorem ord_gt (r c : Nat) (hc : nanB .f64 c = false) : (FloatKind.f64.format.order r c == some .gt) = gtA (av .f64 r) c := by rw [ord_av, av_some hc]; rfl
theorem ord_ge (r c : Nat) (hc : nanB .f64 c = false) : (FloatKind.f64.format.order r c == some .gt || FloatKind.f64.format.order r c == some .eq) = geA (av .f64 r) c := by rw [ord_av, av_some hc]; rfl
theorem n0_ : nanB .f64 0 = false := nan_zero .f64
theorem nh_ : nanB .f64 4602678819172646912 = false := nan_small (by omega)
theorem nq_ : nanB .f64 4598175219545276416 = false := nan_small (by omega)
theorem av_h : av .f64 4602678819172646912 = some 4602678819172646912 := av_some nh_
theorem av_q : av .f64 4598175219545276416 = some 4598175219545276416 := av_some nq_
theorem av_tp : av .f64 4618760256179416344 = some 4618760256179416344 := av_small (by omega)
theorem av_dv (j : Nat) (h : j < 8) : av .f64 (fe (dv j)) = some (fe (dv j)) := av_some (dv_nan j h)
set_option maxHeartbeats 400000 in
theorem part_any (y : Nat) (n : Int) (w : World) (hn : nanB .f64 y = false) (h : Trn y n) : Calls Try.prog 85 #[.float .f64 y] w (GivesF (f1A y n) w) := by
  have v1 := fun w => ext_trunc y w hn
  have T1 : ∀ w, (FloatKind.f64.format.order (fval .sub .f64 y (fe n) w) 0 == some .lt) = ltA (f0A y n) 0 := fun w => by
    rw [ord_lt _ _ n0_, av_fval, av_some hn, av_feI]; rfl
  have AY := Lib.hid (av_some hn)
  have FE := Lib.hid fe_zero
  by_cases h0 : n = 0
  · have t0 := h.zero h0
    subst h0
    have T1' : ∀ w, (FloatKind.f64.format.order (fval .sub .f64 y 0 w) 0 == some .lt) = ltA (f0A y 0) 0 := fun w => by have := T1 w; rwa [fe_zero] at this
    clear T1 h hn
    cases hb : ltA (f0A y 0) 0
    all_goals
      rw [hb] at T1'
      have HB := Lib.hid hb
      clear hb
      go_enter Try.func85, Try.ntmps85
      go_wp2_with go_in
      go_ret
      exact ⟨_, _, by simp only [av_fval, AY.out, av_one, av_some n0_]; unfold f1A; rw [HB.out]; unfold f0A; rw [FE.out]; rfl, rfl, rfl⟩
  · obtain ⟨t0, t1⟩ := h.other h0
    rw [t1] at t0
    clear h hn h0
    cases hb : ltA (f0A y n) 0
    all_goals
      rw [hb] at T1
      have HB := Lib.hid hb
      clear hb
      go_enter Try.func85, Try.ntmps85
      go_wp2_with go_in
      go_ret
      exact ⟨_, _, by simp only [av_fval, AY.out, av_one, av_feI]; unfold f1A; rw [HB.out]; rfl, rfl, rfl⟩
theorem fe_falls8 : ∀ j : Nat, j < 8 → fe (8 - ((j : Int) + 1)) < fe (8 - (j : Int)) := by decide +kernel
set_option maxRecDepth 100000 in
set_option maxHeartbeats 4000000 in
theorem sine_any (y : Nat) (n : Int) (w : World) (hn : nanB .f64 y = false) (h : Trn y n) : Calls Try.prog 76 #[.float .f64 y] w (GivesF (sinA (f1A y n)) w) := by
    have CP := Lib.hid fun w => part_any y n w hn h
    clear hn h
    generalize f1A y n = o at *
    go_enter Try.func76, Try.ntmps76
    go_wp2_with fail
    refine (CP.out _).mono ?_
    rintro e w' ⟨r, m, hr, rfl, rfl⟩
    have HR := Lib.hid hr
    clear hr CP
    have T2 := ord_ge r 4602678819172646912 nh_
    rw [HR.out] at T2
    cases hb2 : geA o 4602678819172646912 with
    | true =>
      rw [hb2] at T2
      have HB2 := Lib.hid hb2
      have F2 : f2A o = aop .sub .f64 o (some 4602678819172646912) := by unfold f2A; rw [hb2]; rfl
      have T3 : ∀ w, (FloatKind.f64.format.order (fval .sub .f64 r 4602678819172646912 w) 4598175219545276416 == some .gt) = gtA (f2A o) 4598175219545276416 := fun w => by
        rw [ord_gt _ _ nq_, av_fval, HR.out, av_h, F2]
      clear hb2
      cases hb3 : gtA (f2A o) 4598175219545276416
      all_goals
        rw [hb3] at T3
      · have HF3 := Lib.hid (show f3A o = aop .sub .f64 o (some 4602678819172646912) by unfold f3A; rw [hb3, F2]; rfl)
        clear hb3 F2
        go_wp2
        go_loopw [7, 8] (fun s7 s8 wr => ∃ (j p m : Nat), j ≤ 8 ∧ s8 = .float .f64 (fe (8 - (j : Int))) ∧ s7 = .float .f64 p ∧ Hid (av .f64 p = sinP (aop .mul .f64 (zA o) (zA o)) j) ∧ wr = w.drewN m) (fun _ s8 _ => match s8 with | .float _ z => z | _ => 0)
        case atStart => exact ⟨0, 4607182418800017408, _, by omega, by rw [show (8 : Int) - ((0 : Nat) : Int) = 8 from rfl, fe_8], rfl, Lib.hid av_one, rfl⟩
        case round =>
          clear T2 T3
          obtain ⟨j, p, m, hj, rfl, rfl, hp, rfl⟩ := hrel
          obtain ⟨d1, d2⟩ := k8_table j (by omega)
          by_cases hj2 : j < 8
          · rw [decide_eq_true hj2] at d2
            obtain ⟨c1, c2, c3⟩ := dv_table j hj2
            have v1 := fun w => fval_some c1 w
            have v2 := fun w => fval_some c2 w
            have v3 := fun w => fval_some c3 w
            have v4 := fun w => fval_some d1 w
            have q1 := fN_some c1
            have q2 := fN_some c2
            have q3 := fN_some c3
            have q4 := fN_some d1
            have hm := fe_falls8 j hj2
            clear c1 c2 c3 d1
            go_wp2
            exact ⟨⟨j + 1, _, _, by omega, by rw [show 8 - ((j + 1 : Nat) : Int) = 8 - ((j : Int) + 1) by omega], rfl, Lib.hid (by simp only [av_fval, hp.out, HR.out, av_one, av_h, av_tp, av_dv j hj2]; unfold zA; rw [HF3.out]; rfl), rfl⟩, hm⟩
          · rw [decide_eq_false hj2] at d2
            obtain rfl : j = 8 := by omega
            clear d1
            go_wp2
            go_ret
            exact ⟨_, _, by simp only [av_negF, av_fval, hp.out, HR.out, av_h, av_tp]; unfold sinA; rw [HB2.out]; unfold sin0 zA; rw [HF3.out]; rfl, rfl, rfl⟩
      · have HF3 := Lib.hid (show f3A o = aop .sub .f64 (some 4602678819172646912) (aop .sub .f64 o (some 4602678819172646912)) by unfold f3A; rw [hb3, F2]; rfl)
        clear hb3 F2
        go_wp2
        go_loopw [7, 8] (fun s7 s8 wr => ∃ (j p m : Nat), j ≤ 8 ∧ s8 = .float .f64 (fe (8 - (j : Int))) ∧ s7 = .float .f64 p ∧ Hid (av .f64 p = sinP (aop .mul .f64 (zA o) (zA o)) j) ∧ wr = w.drewN m) (fun _ s8 _ => match s8 with | .float _ z => z | _ => 0)
        case atStart => exact ⟨0, 4607182418800017408, _, by omega, by rw [show (8 : Int) - ((0 : Nat) : Int) = 8 from rfl, fe_8], rfl, Lib.hid av_one, rfl⟩
        case round =>
          clear T2 T3
          obtain ⟨j, p, m, hj, rfl, rfl, hp, rfl⟩ := hrel
          obtain ⟨d1, d2⟩ := k8_table j (by omega)
          by_cases hj2 : j < 8
          · rw [decide_eq_true hj2] at d2
            obtain ⟨c1, c2, c3⟩ := dv_table j hj2
            have v1 := fun w => fval_some c1 w
            have v2 := fun w => fval_some c2 w
            have v3 := fun w => fval_some c3 w
            have v4 := fun w => fval_some d1 w
            have q1 := fN_some c1
            have q2 := fN_some c2
            have q3 := fN_some c3
            have q4 := fN_some d1
            have hm := fe_falls8 j hj2
            clear c1 c2 c3 d1
            go_wp2
            exact ⟨⟨j + 1, _, _, by omega, by rw [show 8 - ((j + 1 : Nat) : Int) = 8 - ((j : Int) + 1) by omega], rfl, Lib.hid (by simp only [av_fval, hp.out, HR.out, av_one, av_h, av_tp, av_dv j hj2]; unfold zA; rw [HF3.out]; rfl), rfl⟩, hm⟩
          · rw [decide_eq_false hj2] at d2
            obtain rfl : j = 8 := by omega
            clear d1
            go_wp2
            go_ret
            exact ⟨_, _, by simp only [av_negF, av_fval, hp.out, HR.out, av_h, av_tp]; unfold sinA; rw [HB2.out]; unfold sin0 zA; rw [HF3.out]; rfl, rfl, rfl⟩
    | false =>
      rw [hb2] at T2
      have HB2 := Lib.hid hb2
      have F2 : f2A o = o := by unfold f2A; rw [hb2]; rfl
      have T3 : (FloatKind.f64.format.order r 4598175219545276416 == some .gt) = gtA (f2A o) 4598175219545276416 := by
        rw [ord_gt _ _ nq_, HR.out, F2]
      clear hb2
      cases hb3 : gtA (f2A o) 4598175219545276416
      all_goals
        rw [hb3] at T3
      · have HF3 := Lib.hid (show f3A o = o by unfold f3A; rw [hb3, F2]; rfl)
        clear hb3 F2
        go_wp2
        go_loopw [7, 8] (fun s7 s8 wr => ∃ (j p m : Nat), j ≤ 8 ∧ s8 = .float .f64 (fe (8 - (j : Int))) ∧ s7 = .float .f64 p ∧ Hid (av .f64 p = sinP (aop .mul .f64 (zA o) (zA o)) j) ∧ wr = w.drewN m) (fun _ s8 _ => match s8 with | .float _ z => z | _ => 0)
        case atStart => exact ⟨0, 4607182418800017408, _, by omega, by rw [show (8 : Int) - ((0 : Nat) : Int) = 8 from rfl, fe_8], rfl, Lib.hid av_one, rfl⟩
        case round =>
          clear T2 T3
          obtain ⟨j, p, m, hj, rfl, rfl, hp, rfl⟩ := hrel
          obtain ⟨d1, d2⟩ := k8_table j (by omega)
          by_cases hj2 : j < 8
          · rw [decide_eq_true hj2] at d2
            obtain ⟨c1, c2, c3⟩ := dv_table j hj2
            have v1 := fun w => fval_some c1 w
            have v2 := fun w => fval_some c2 w
            have v3 := fun w => fval_some c3 w
            have v4 := fun w => fval_some d1 w
            have q1 := fN_some c1
            have q2 := fN_some c2
            have q3 := fN_some c3
            have q4 := fN_some d1
            have hm := fe_falls8 j hj2
            clear c1 c2 c3 d1
            go_wp2
            exact ⟨⟨j + 1, _, _, by omega, by rw [show 8 - ((j + 1 : Nat) : Int) = 8 - ((j : Int) + 1) by omega], rfl, Lib.hid (by simp only [av_fval, hp.out, HR.out, av_one, av_tp, av_dv j hj2]; unfold zA; rw [HF3.out]; rfl), rfl⟩, hm⟩
          · rw [decide_eq_false hj2] at d2
            obtain rfl : j = 8 := by omega
            clear d1
            go_wp2
            go_ret
            exact ⟨_, _, by simp only [av_fval, hp.out, HR.out, av_tp]; unfold sinA; rw [HB2.out]; unfold sin0 zA; rw [HF3.out]; rfl, rfl, rfl⟩
      · have HF3 := Lib.hid (show f3A o = aop .sub .f64 (some 4602678819172646912) (o) by unfold f3A; rw [hb3, F2]; rfl)
        clear hb3 F2
        go_wp2
        go_loopw [7, 8] (fun s7 s8 wr => ∃ (j p m : Nat), j ≤ 8 ∧ s8 = .float .f64 (fe (8 - (j : Int))) ∧ s7 = .float .f64 p ∧ Hid (av .f64 p = sinP (aop .mul .f64 (zA o) (zA o)) j) ∧ wr = w.drewN m) (fun _ s8 _ => match s8 with | .float _ z => z | _ => 0)
        case atStart => exact ⟨0, 4607182418800017408, _, by omega, by rw [show (8 : Int) - ((0 : Nat) : Int) = 8 from rfl, fe_8], rfl, Lib.hid av_one, rfl⟩
        case round =>
          clear T2 T3
          obtain ⟨j, p, m, hj, rfl, rfl, hp, rfl⟩ := hrel
          obtain ⟨d1, d2⟩ := k8_table j (by omega)
          by_cases hj2 : j < 8
          · rw [decide_eq_true hj2] at d2
            obtain ⟨c1, c2, c3⟩ := dv_table j hj2
            have v1 := fun w => fval_some c1 w
            have v2 := fun w => fval_some c2 w
            have v3 := fun w => fval_some c3 w
            have v4 := fun w => fval_some d1 w
            have q1 := fN_some c1
            have q2 := fN_some c2
            have q3 := fN_some c3
            have q4 := fN_some d1
            have hm := fe_falls8 j hj2
            clear c1 c2 c3 d1
            go_wp2
            exact ⟨⟨j + 1, _, _, by omega, by rw [show 8 - ((j + 1 : Nat) : Int) = 8 - ((j : Int) + 1) by omega], rfl, Lib.hid (by simp only [av_fval, hp.out, HR.out, av_one, av_tp, av_dv j hj2]; unfold zA; rw [HF3.out]; rfl), rfl⟩, hm⟩
          · rw [decide_eq_false hj2] at d2
            obtain rfl : j = 8 := by omega
            clear d1
            go_wp2
            go_ret
            exact ⟨_, _, by simp only [av_fval, hp.out, HR.out, av_h, av_tp]; unfold sinA; rw [HB2.out]; unfold sin0 zA; rw [HF3.out]; rfl, rfl, rfl⟩
end Go.Proofs.Ytopfeilfgbcihaa
