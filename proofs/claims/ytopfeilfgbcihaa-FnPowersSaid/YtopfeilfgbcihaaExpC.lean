/- The exponential: what the program computes. -/
import Derived.Test.YtopfeilfgbcihaaExp
import Derived.Test.YtopfeilfgbcihaaLogC
namespace Go.Proofs.Ytopfeilfgbcihaa
open Go.RowKit
set_option linter.unusedVariables false
theorem av_256 : av .f64 4643211215818981376 = some 4643211215818981376 := av_small (by omega)
theorem av_fe12 (j : Nat) (h : j < 14) : av .f64 (fe (12 - (j : Int))) = some (fe (12 - (j : Int))) := av_fe (by omega) (by omega)
theorem fe_falls12 : ∀ j : Nat, j < 12 → mz (fe (12 - ((j : Int) + 1))) < mz (fe (12 - (j : Int))) := by decide +kernel
set_option maxHeartbeats 1000000 in
theorem exponential_any (X : Nat) (w : World) (hX : av .f64 X = some X) (t1 : (FloatKind.f64.format.order X 4641240890982006784 == some .gt) = false) (t2 : (FloatKind.f64.format.order X 13864612927836782592 == some .lt) = false) :
    Calls Try.prog 66 #[.float .f64 X] w (GivesF (expA X) w) := by
  have avX := Lib.hid hX
  clear hX
  go_enter Try.func66, Try.ntmps66
  go_wp2
  clear t1 t2
  go_loopw [4, 5] (fun s4 s5 wr => ∃ (j r m : Nat), j ≤ 12 ∧ s5 = .float .f64 (fe (12 - (j : Int))) ∧ s4 = .float .f64 r ∧ Hid (av .f64 r = pE (aop .quo .f64 (some X) (some 4643211215818981376)) j) ∧ wr = w.drewN m) (fun _ s5 _ => match s5 with | .float _ z => mz z | _ => 0)
  case atStart => exact ⟨0, _, _, by omega, by rw [show (12 : Int) - ((0 : Nat) : Int) = 12 from rfl, fe_12], rfl, Lib.hid av_one, rfl⟩
  case round =>
    obtain ⟨j, r, m, hj, rfl, rfl, hr, rfl⟩ := hrel
    have to := fe_down j (by omega)
    obtain ⟨e1, t2⟩ := to
    by_cases hj2 : j < 12
    · rw [decide_eq_true hj2] at t2
      have v1 := fun w => fval_some e1 w
      have q1 := fN_some e1
      have hm := fe_falls12 j hj2
      clear e1
      go_wp2
      refine ⟨⟨j + 1, _, _, by omega, by rw [show 12 - ((j + 1 : Nat) : Int) = 12 - ((j : Int) + 1) by omega], rfl, Lib.hid ?_, rfl⟩, hm⟩
      simp only [av_fval, hr.out, avX.out, av_one, av_256, av_fe12 j (by omega)]
      rfl
    · rw [decide_eq_false hj2] at t2
      obtain rfl : j = 12 := by omega
      clear e1
      go_wp2
      go_loopw [4, 25] (fun s4 s25 wr => ∃ (k p m : Nat), k ≤ 8 ∧ s25 = .int .i64 k ∧ s4 = .float .f64 p ∧ Hid (av .f64 p = sqE (pE (aop .quo .f64 (some X) (some 4643211215818981376)) 12) k) ∧ wr = w.drewN m) (fun _ s25 _ => 8 - (intOf s25).toNat)
      case atStart => exact ⟨0, _, _, by omega, rfl, rfl, Lib.hid hr.out, rfl⟩
      case round =>
        clear t2 hr
        obtain ⟨k, p, m, hk, rfl, rfl, hp, rfl⟩ := hrel
        by_cases hk2 : k < 8
        · go_wp2
          refine ⟨⟨k + 1, _, _, by omega, by go_num, rfl, Lib.hid ?_, rfl⟩, by simp [intOf]; omega⟩
          simp only [av_fval, hp.out]
          rfl
        · obtain rfl : k = 8 := by omega
          go_wp2
          go_ret
          exact ⟨_, _, hp.out, rfl, rfl⟩
theorem av_is {k : FloatKind} {r R : Nat} (h : av k r = some R) : r = R := by
  unfold av at h
  split at h <;> simp_all
theorem conv_is {s k : FloatKind} {x y : Nat} (h : floatToFloatBits s x k = some y) (w : World) : cval s x k w = y := by rw [cval, h]; rfl
theorem conv_N {s k : FloatKind} {x y : Nat} (h : floatToFloatBits s x k = some y) : cN s x k = 0 := by rw [cN, h]; rfl
/-- What okE says. -/
theorem okE_of (i : Nat) (hi : i < 129) : floatBits .quo .f32 (floatOfInt .f32 ((i : Int) - 64)) 1090519040 = some (x32 i) ∧ floatToFloatBits .f32 (x32 i) .f64 = some (x64 i) ∧ nanB .f64 (x64 i) = false
    ∧ (FloatKind.f64.format.order (x64 i) 4641240890982006784 == some .gt) = false ∧ (FloatKind.f64.format.order (x64 i) 13864612927836782592 == some .lt) = false
    ∧ expA (x64 i) = some (r64 i) ∧ floatToFloatBits .f64 (r64 i) .f32 = some (e32 i) ∧ floatToFloatBits .f32 (e32 i) .f64 = some (e64 i) ∧ 0 < e32 i ∧ e32 i < 2139095040 := by
  have h := tabE i hi
  unfold okE at h
  simp only [Bool.and_eq_true, beq_iff_eq, Bool.not_eq_true', decide_eq_true_eq] at h
  obtain ⟨⟨⟨⟨⟨⟨⟨⟨⟨h1, h2⟩, h3⟩, h4⟩, h5⟩, h6⟩, h7⟩, h8⟩, h9⟩, h10⟩ := h
  exact ⟨h1, h2, h3, h4, h5, h6, h7, h8, h9, h10⟩
theorem expNumber_tab (i : Nat) (hi : i < 129) (w : World) : Calls Try.prog 31 #[.float .f32 (x32 i)] w fun e w' => e = .returned (.float .f32 (e32 i)) ∧ ∃ m, w' = w.drewN m := by
  obtain ⟨h1, h2, h3, h4, h5, h6, h7, h8, _, _⟩ := okE_of i hi
  have hE := Lib.hid h6
  have hF := Lib.hid h7
  have v1 := fun w => conv_is h2 w
  have n1 := conv_N h2
  have h3 := Lib.hid h3
  have h4 := Lib.hid h4
  have h5 := Lib.hid h5
  clear h1 h2 h6 h7 h8
  go_enter Try.func31, Try.ntmps31
  go_wp2_with (go_at_call 66; refine (exponential_any _ _ (av_some h3.out) h4.out h5.out).mono ?_; rintro e w' ⟨r, m, hr, rfl, rfl⟩)
  go_ret
  rw [hE.out] at hr
  obtain rfl := av_is hr
  exact ⟨congrArg (fun q => Ending.returned (Value.float .f32 q)) (conv_is hF.out _), _, rfl⟩
end Go.Proofs.Ytopfeilfgbcihaa
