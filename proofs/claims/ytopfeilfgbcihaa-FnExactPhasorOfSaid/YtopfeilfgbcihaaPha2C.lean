/- PhasorOf: the reference's side. -/
import Derived.Test.YtopfeilfgbcihaaPhaC
namespace Go.Proofs.Ytopfeilfgbcihaa
open Go.RowKit
set_option linter.unusedVariables false
theorem specPha_not (y : Nat) (w : World) (fy : finB .f64 y = false) : Calls Try.prog 45 #[.float .f64 y] w (GivesC none none w) := by
  have e6 := fun w => fin_not fy w
  go_enter Try.func45, Try.ntmps45
  go_wp2_with go_in
  go_ret
  exact ⟨_, _, _, av_none nan32, av_none nan32, rfl, rfl⟩
theorem specPha_huge (y : Nat) (w : World) (fy : finB .f64 y = true) (hn : nanB .f64 y = false) (hA : ¬ rng Ieee.double y < 4841369599423283200) : Calls Try.prog 45 #[.float .f64 y] w (GivesC (av .f32 1065353216) (av .f32 0) w) := by
  have e6 := fun w => fin_same fy w
  cases hs : sgn Ieee.double y with
  | false =>
    have t1 : (FloatKind.f64.format.order y 4841369599423283200 == some .gt || FloatKind.f64.format.order y 4841369599423283200 == some .eq) = true := by
      have hsr : sr Ieee.double y = rng Ieee.double y := by unfold sr; rw [hs]; rfl
      rw [order_sr .f64 y _ hn (nan_small (by omega)), f64_fmt, sr_52, hsr]
      rcases Int.lt_trichotomy (rng Ieee.double y : Int) 4841369599423283200 with q | q | q
      · omega
      · rw [q]; rfl
      · rw [cmp_gt q]; rfl
    clear hA hs hn
    go_enter Try.func45, Try.ntmps45
    go_wp2_with go_in
    go_ret
    exact ⟨_, _, _, rfl, rfl, rfl, rfl⟩
  | true =>
    have hsr : sr Ieee.double y = -(rng Ieee.double y : Int) := by unfold sr; rw [hs, if_pos rfl]
    have t1 : (FloatKind.f64.format.order y 4841369599423283200 == some .gt || FloatKind.f64.format.order y 4841369599423283200 == some .eq) = false := by
      rw [order_sr .f64 y _ hn (nan_small (by omega)), f64_fmt, sr_52, hsr, cmp_ltI (by omega)]; rfl
    have t2 : (FloatKind.f64.format.order y 14064741636278059008 == some .lt || FloatKind.f64.format.order y 14064741636278059008 == some .eq) = true := by
      rw [order_sr .f64 y _ hn n52n_, f64_fmt, sr_52n, hsr]
      rcases Int.lt_trichotomy (rng Ieee.double y : Int) 4841369599423283200 with q | q | q
      · omega
      · rw [q]; rfl
      · rw [cmp_ltI (by omega)]; rfl
    clear hA hs hn hsr
    go_enter Try.func45, Try.ntmps45
    go_wp2_with go_in
    go_ret
    exact ⟨_, _, _, rfl, rfl, rfl, rfl⟩
set_option maxRecDepth 100000 in
set_option maxHeartbeats 4000000 in
theorem specPha_in (y F k X : Nat) (n n1 n2 : Int) (w : World) (fy : finB .f64 y = true)  (hsm : Small52 y) (h : Pha y F k X n n1 n2) :
    Calls Try.prog 84 #[.float .f64 y] w (GivesC (acv .f64 .f32 (reA k (sinA (f1A X n1)) (sinA (f1A (qF F k) n2)))) (acv .f64 .f32 (imA k (sinA (f1A X n1)) (sinA (f1A (qF F k) n2)))) w) := by
  have e6 := fun w => fin_same fy w
  have a2 := small_ge hsm
  have a3 := small_le hsm
  have a4 := fun w => ival_some h.trn.int w
  have a5 := iN_some h.trn.int
  have lo := h.trn.lo
  have hi := h.trn.hi
  obtain ⟨F0, g1, g2⟩ := f0_of h
  have b1 : ∀ w, fval .sub .f64 y (floatOfInt .f64 n) w = F0 := fun w => by rw [nrst]; exact fval_some g1 w
  have b2 : fN .sub .f64 y (floatOfInt .f64 n) = 0 := by rw [nrst]; exact fN_some g1
  have NF0 : av .f64 F0 = some F0 := by
    obtain ⟨_, _, q⟩ := bits_not_nan g1
    exact av_some q
  have T0 : (FloatKind.f64.format.order F0 0 == some .lt) = ltA (some F0) 0 := by rw [ord_lt _ _ n0_, NF0]
  have CS1 := Lib.hid fun w => l01SineWide_any X n1 w h.sx h.t1
  have CS2 := Lib.hid fun w => l01SineWide_any (qF F k) n2 w h.sf h.t2
  have SB1 := Lib.hid (sinA_bd (f1_bd h.t1))
  have SB2 := Lib.hid (sinA_bd (f1_bd h.t2))
  have LS := Lib.hid h.q.less
  have LA := Lib.hid h.q.last
  have BL := Lib.hid fun i hi => (h.q.ble i hi).1
  have XX := Lib.hid h.x
  have kf := h.q.few
  generalize sinA (f1A X n1) = cc at *
  generalize sinA (f1A (qF F k) n2) = ss at *
  clear h hsm fy g1
  cases hb : ltA (some F0) 0
  · rw [hb] at T0 g2
    obtain rfl : F = F0 := g2.symm
    clear hb
    go_enter Try.func84, Try.ntmps84
    go_wp2_with go_in
    go_loopw [3, 4] (fun sf sq wr => ∃ i m : Nat, i ≤ k ∧ sf = .float .f64 (qF F i) ∧ sq = .int .i64 i ∧ wr = w.drewN m) (fun _ sq _ => k - (intOf sq).toNat)
    case atStart => exact ⟨0, _, Nat.zero_le _, rfl, rfl, rfl⟩
    case round =>
      obtain ⟨i, m, hi2, rfl, rfl, rfl⟩ := hrel
      by_cases hik : i < k
      · obtain ⟨l1, l2⟩ := LS.out i hik
        have c1 := fun w => fval_some l2 w
        have c2 := fN_some l2
        have c3 := ord_ge (qF F i) 4598175219545276416 nq_
        rw [av_some (BL.out i (by omega)), l1] at c3
        clear l1 l2
        go_wp2
        exact ⟨⟨i + 1, _, by omega, rfl, by go_num, rfl⟩, by simp [intOf]; omega⟩
      · obtain rfl : i = k := by omega
        have c3 := ord_ge (qF F i) 4598175219545276416 nq_
        rw [av_some (BL.out i (by omega)), LA.out] at c3
        have c1 := fun w => fval_some XX.out w
        have c2 := fN_some XX.out
        rcases (show i = 1 ∨ i = 2 ∨ i = 3 ∨ (i ≠ 1 ∧ i ≠ 2 ∧ i ≠ 3) by omega) with e | e | e | e
        case inl => 
          have k1 : ((i : Int) == 1) = true := by rw [e]; rfl
          have k2 : ((i : Int) == 2) = false := by rw [e]; rfl
          have k3 : ((i : Int) == 3) = false := by rw [e]; rfl
          have ER := Lib.hid (show reA i cc ss = ng0 ss from by rw [e]; rfl)
          have EI := Lib.hid (show imA i cc ss = cc from by rw [e]; rfl)
          clear e
          have RB := Lib.hid (show Bd (ng0 ss) 121 ∧ Bd (cc) 121 from ⟨by have := reA_bd SB1.out SB2.out i; rw [ER.out] at this; exact this, by have := imA_bd SB1.out SB2.out i; rw [EI.out] at this; exact this⟩)
          have HR0 := trivial
          go_wp2_with (first | (go_at_call 96; first | (clear HR0; refine (CS1.out _).mono ?_; rintro e w' ⟨r1, m1, hr1, rfl, rfl⟩; have HR1 := Lib.hid hr1; clear hr1) | (refine (CS2.out _).mono ?_; rintro e w' ⟨r2, m2, hr2, rfl, rfl⟩; have HR2 := Lib.hid hr2; clear hr2)) | go_in)
          go_ret
          exact ⟨_, _, _, by rw [ER.out]; exact narrow_pha (by simp only [av_fval, HR2.out, av_some n0_]; rfl) RB.out.1 _, by rw [EI.out]; exact narrow_pha (HR1.out) RB.out.2 _, rfl, rfl⟩
        case inr.inl => 
          have k1 : ((i : Int) == 1) = false := by rw [e]; rfl
          have k2 : ((i : Int) == 2) = true := by rw [e]; rfl
          have k3 : ((i : Int) == 3) = false := by rw [e]; rfl
          have ER := Lib.hid (show reA i cc ss = ng0 cc from by rw [e]; rfl)
          have EI := Lib.hid (show imA i cc ss = ng0 ss from by rw [e]; rfl)
          clear e
          have RB := Lib.hid (show Bd (ng0 cc) 121 ∧ Bd (ng0 ss) 121 from ⟨by have := reA_bd SB1.out SB2.out i; rw [ER.out] at this; exact this, by have := imA_bd SB1.out SB2.out i; rw [EI.out] at this; exact this⟩)
          have HR0 := trivial
          go_wp2_with (first | (go_at_call 96; first | (clear HR0; refine (CS1.out _).mono ?_; rintro e w' ⟨r1, m1, hr1, rfl, rfl⟩; have HR1 := Lib.hid hr1; clear hr1) | (refine (CS2.out _).mono ?_; rintro e w' ⟨r2, m2, hr2, rfl, rfl⟩; have HR2 := Lib.hid hr2; clear hr2)) | go_in)
          go_ret
          exact ⟨_, _, _, by rw [ER.out]; exact narrow_pha (by simp only [av_fval, HR1.out, av_some n0_]; rfl) RB.out.1 _, by rw [EI.out]; exact narrow_pha (by simp only [av_fval, HR2.out, av_some n0_]; rfl) RB.out.2 _, rfl, rfl⟩
        case inr.inr.inl => 
          have k1 : ((i : Int) == 1) = false := by rw [e]; rfl
          have k2 : ((i : Int) == 2) = false := by rw [e]; rfl
          have k3 : ((i : Int) == 3) = true := by rw [e]; rfl
          have ER := Lib.hid (show reA i cc ss = ss from by rw [e]; rfl)
          have EI := Lib.hid (show imA i cc ss = ng0 cc from by rw [e]; rfl)
          clear e
          have RB := Lib.hid (show Bd (ss) 121 ∧ Bd (ng0 cc) 121 from ⟨by have := reA_bd SB1.out SB2.out i; rw [ER.out] at this; exact this, by have := imA_bd SB1.out SB2.out i; rw [EI.out] at this; exact this⟩)
          have HR0 := trivial
          go_wp2_with (first | (go_at_call 96; first | (clear HR0; refine (CS1.out _).mono ?_; rintro e w' ⟨r1, m1, hr1, rfl, rfl⟩; have HR1 := Lib.hid hr1; clear hr1) | (refine (CS2.out _).mono ?_; rintro e w' ⟨r2, m2, hr2, rfl, rfl⟩; have HR2 := Lib.hid hr2; clear hr2)) | go_in)
          go_ret
          exact ⟨_, _, _, by rw [ER.out]; exact narrow_pha (HR2.out) RB.out.1 _, by rw [EI.out]; exact narrow_pha (by simp only [av_fval, HR1.out, av_some n0_]; rfl) RB.out.2 _, rfl, rfl⟩
        case inr.inr.inr => 
          obtain ⟨e1, e2, e3⟩ := e
          have k1 : ((i : Int) == 1) = false := by simp; omega
          have k2 : ((i : Int) == 2) = false := by simp; omega
          have k3 : ((i : Int) == 3) = false := by simp; omega
          have ER := Lib.hid (show reA i cc ss = cc from by unfold reA; rw [if_neg e1, if_neg e2, if_neg e3])
          have EI := Lib.hid (show imA i cc ss = ss from by unfold imA; rw [if_neg e1, if_neg e2, if_neg e3])
          clear e1 e2 e3
          have RB := Lib.hid (show Bd (cc) 121 ∧ Bd (ss) 121 from ⟨by have := reA_bd SB1.out SB2.out i; rw [ER.out] at this; exact this, by have := imA_bd SB1.out SB2.out i; rw [EI.out] at this; exact this⟩)
          have HR0 := trivial
          go_wp2_with (first | (go_at_call 96; first | (clear HR0; refine (CS1.out _).mono ?_; rintro e w' ⟨r1, m1, hr1, rfl, rfl⟩; have HR1 := Lib.hid hr1; clear hr1) | (refine (CS2.out _).mono ?_; rintro e w' ⟨r2, m2, hr2, rfl, rfl⟩; have HR2 := Lib.hid hr2; clear hr2)) | go_in)
          go_ret
          exact ⟨_, _, _, by rw [ER.out]; exact narrow_pha (HR1.out) RB.out.1 _, by rw [EI.out]; exact narrow_pha (HR2.out) RB.out.2 _, rfl, rfl⟩
  · rw [hb] at T0 g2
    have g2 : floatBits .add .f64 F0 4607182418800017408 = some F := g2
    have b3 := fun w => fval_some g2 w
    have b4 := fN_some g2
    clear hb g2
    go_enter Try.func84, Try.ntmps84
    go_wp2_with go_in
    go_loopw [3, 4] (fun sf sq wr => ∃ i m : Nat, i ≤ k ∧ sf = .float .f64 (qF F i) ∧ sq = .int .i64 i ∧ wr = w.drewN m) (fun _ sq _ => k - (intOf sq).toNat)
    case atStart => exact ⟨0, _, Nat.zero_le _, rfl, rfl, rfl⟩
    case round =>
      obtain ⟨i, m, hi2, rfl, rfl, rfl⟩ := hrel
      by_cases hik : i < k
      · obtain ⟨l1, l2⟩ := LS.out i hik
        have c1 := fun w => fval_some l2 w
        have c2 := fN_some l2
        have c3 := ord_ge (qF F i) 4598175219545276416 nq_
        rw [av_some (BL.out i (by omega)), l1] at c3
        clear l1 l2
        go_wp2
        exact ⟨⟨i + 1, _, by omega, rfl, by go_num, rfl⟩, by simp [intOf]; omega⟩
      · obtain rfl : i = k := by omega
        have c3 := ord_ge (qF F i) 4598175219545276416 nq_
        rw [av_some (BL.out i (by omega)), LA.out] at c3
        have c1 := fun w => fval_some XX.out w
        have c2 := fN_some XX.out
        rcases (show i = 1 ∨ i = 2 ∨ i = 3 ∨ (i ≠ 1 ∧ i ≠ 2 ∧ i ≠ 3) by omega) with e | e | e | e
        case inl => 
          have k1 : ((i : Int) == 1) = true := by rw [e]; rfl
          have k2 : ((i : Int) == 2) = false := by rw [e]; rfl
          have k3 : ((i : Int) == 3) = false := by rw [e]; rfl
          have ER := Lib.hid (show reA i cc ss = ng0 ss from by rw [e]; rfl)
          have EI := Lib.hid (show imA i cc ss = cc from by rw [e]; rfl)
          clear e
          have RB := Lib.hid (show Bd (ng0 ss) 121 ∧ Bd (cc) 121 from ⟨by have := reA_bd SB1.out SB2.out i; rw [ER.out] at this; exact this, by have := imA_bd SB1.out SB2.out i; rw [EI.out] at this; exact this⟩)
          have HR0 := trivial
          go_wp2_with (first | (go_at_call 96; first | (clear HR0; refine (CS1.out _).mono ?_; rintro e w' ⟨r1, m1, hr1, rfl, rfl⟩; have HR1 := Lib.hid hr1; clear hr1) | (refine (CS2.out _).mono ?_; rintro e w' ⟨r2, m2, hr2, rfl, rfl⟩; have HR2 := Lib.hid hr2; clear hr2)) | go_in)
          go_ret
          exact ⟨_, _, _, by rw [ER.out]; exact narrow_pha (by simp only [av_fval, HR2.out, av_some n0_]; rfl) RB.out.1 _, by rw [EI.out]; exact narrow_pha (HR1.out) RB.out.2 _, rfl, rfl⟩
        case inr.inl => 
          have k1 : ((i : Int) == 1) = false := by rw [e]; rfl
          have k2 : ((i : Int) == 2) = true := by rw [e]; rfl
          have k3 : ((i : Int) == 3) = false := by rw [e]; rfl
          have ER := Lib.hid (show reA i cc ss = ng0 cc from by rw [e]; rfl)
          have EI := Lib.hid (show imA i cc ss = ng0 ss from by rw [e]; rfl)
          clear e
          have RB := Lib.hid (show Bd (ng0 cc) 121 ∧ Bd (ng0 ss) 121 from ⟨by have := reA_bd SB1.out SB2.out i; rw [ER.out] at this; exact this, by have := imA_bd SB1.out SB2.out i; rw [EI.out] at this; exact this⟩)
          have HR0 := trivial
          go_wp2_with (first | (go_at_call 96; first | (clear HR0; refine (CS1.out _).mono ?_; rintro e w' ⟨r1, m1, hr1, rfl, rfl⟩; have HR1 := Lib.hid hr1; clear hr1) | (refine (CS2.out _).mono ?_; rintro e w' ⟨r2, m2, hr2, rfl, rfl⟩; have HR2 := Lib.hid hr2; clear hr2)) | go_in)
          go_ret
          exact ⟨_, _, _, by rw [ER.out]; exact narrow_pha (by simp only [av_fval, HR1.out, av_some n0_]; rfl) RB.out.1 _, by rw [EI.out]; exact narrow_pha (by simp only [av_fval, HR2.out, av_some n0_]; rfl) RB.out.2 _, rfl, rfl⟩
        case inr.inr.inl => 
          have k1 : ((i : Int) == 1) = false := by rw [e]; rfl
          have k2 : ((i : Int) == 2) = false := by rw [e]; rfl
          have k3 : ((i : Int) == 3) = true := by rw [e]; rfl
          have ER := Lib.hid (show reA i cc ss = ss from by rw [e]; rfl)
          have EI := Lib.hid (show imA i cc ss = ng0 cc from by rw [e]; rfl)
          clear e
          have RB := Lib.hid (show Bd (ss) 121 ∧ Bd (ng0 cc) 121 from ⟨by have := reA_bd SB1.out SB2.out i; rw [ER.out] at this; exact this, by have := imA_bd SB1.out SB2.out i; rw [EI.out] at this; exact this⟩)
          have HR0 := trivial
          go_wp2_with (first | (go_at_call 96; first | (clear HR0; refine (CS1.out _).mono ?_; rintro e w' ⟨r1, m1, hr1, rfl, rfl⟩; have HR1 := Lib.hid hr1; clear hr1) | (refine (CS2.out _).mono ?_; rintro e w' ⟨r2, m2, hr2, rfl, rfl⟩; have HR2 := Lib.hid hr2; clear hr2)) | go_in)
          go_ret
          exact ⟨_, _, _, by rw [ER.out]; exact narrow_pha (HR2.out) RB.out.1 _, by rw [EI.out]; exact narrow_pha (by simp only [av_fval, HR1.out, av_some n0_]; rfl) RB.out.2 _, rfl, rfl⟩
        case inr.inr.inr => 
          obtain ⟨e1, e2, e3⟩ := e
          have k1 : ((i : Int) == 1) = false := by simp; omega
          have k2 : ((i : Int) == 2) = false := by simp; omega
          have k3 : ((i : Int) == 3) = false := by simp; omega
          have ER := Lib.hid (show reA i cc ss = cc from by unfold reA; rw [if_neg e1, if_neg e2, if_neg e3])
          have EI := Lib.hid (show imA i cc ss = ss from by unfold imA; rw [if_neg e1, if_neg e2, if_neg e3])
          clear e1 e2 e3
          have RB := Lib.hid (show Bd (cc) 121 ∧ Bd (ss) 121 from ⟨by have := reA_bd SB1.out SB2.out i; rw [ER.out] at this; exact this, by have := imA_bd SB1.out SB2.out i; rw [EI.out] at this; exact this⟩)
          have HR0 := trivial
          go_wp2_with (first | (go_at_call 96; first | (clear HR0; refine (CS1.out _).mono ?_; rintro e w' ⟨r1, m1, hr1, rfl, rfl⟩; have HR1 := Lib.hid hr1; clear hr1) | (refine (CS2.out _).mono ?_; rintro e w' ⟨r2, m2, hr2, rfl, rfl⟩; have HR2 := Lib.hid hr2; clear hr2)) | go_in)
          go_ret
          exact ⟨_, _, _, by rw [ER.out]; exact narrow_pha (HR1.out) RB.out.1 _, by rw [EI.out]; exact narrow_pha (HR2.out) RB.out.2 _, rfl, rfl⟩
theorem specPha_fin (y F k X : Nat) (n n1 n2 : Int) (w : World) (fy : finB .f64 y = true) (hsm : Small52 y) (h : Pha y F k X n n1 n2) :
    Calls Try.prog 45 #[.float .f64 y] w (GivesC (acv .f64 .f32 (reA k (sinA (f1A X n1)) (sinA (f1A (qF F k) n2)))) (acv .f64 .f32 (imA k (sinA (f1A X n1)) (sinA (f1A (qF F k) n2)))) w) := by
  have CL := Lib.hid fun w => specPha_in y F k X n n1 n2 w fy hsm h
  clear fy hsm h
  generalize acv .f64 .f32 (reA k (sinA (f1A X n1)) (sinA (f1A (qF F k) n2))) = o1 at *
  generalize acv .f64 .f32 (imA k (sinA (f1A X n1)) (sinA (f1A (qF F k) n2))) = o2 at *
  go_enter Try.func45, Try.ntmps45
  go_wp2_with fail
  refine (CL.out _).mono ?_
  rintro e w1 ⟨a, b, m, h1, h2, rfl, rfl⟩
  have H1 := Lib.hid h1
  have H2 := Lib.hid h2
  clear h1 h2
  go_wp2_with fail
  go_ret
  exact ⟨_, _, _, H1.out, H2.out, rfl, rfl⟩
end Go.Proofs.Ytopfeilfgbcihaa
