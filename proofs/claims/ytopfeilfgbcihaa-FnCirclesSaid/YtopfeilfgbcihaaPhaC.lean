/- PhasorOf: both sides. -/
import Derived.Test.YtopfeilfgbcihaaPha
import Derived.Test.YtopfeilfgbcihaaSin3C
namespace Go.Proofs.Ytopfeilfgbcihaa
open Go.RowKit
set_option linter.unusedVariables false
@[go_sem] theorem run_c2c {P : Program} (w : World) (s : FloatKind) (a b : Nat) (k : FloatKind) : (Conv.complexToComplex s a b k).run P w = .ok (.complex k (cval s a k w) (cval s b k (w.drewN (cN s a k)))) (w.drewN (cN s a k + cN s b k)) := by
  unfold Conv.complexToComplex
  simp only [Sem.run_bind, run_f2f, Result.andThen_ok, Sem.run_pure, World.drewN_drewN]
/-- It returns a complex number whose parts are these but for the choice of a NaN. -/
def GivesC (o1 o2 : Option Nat) (w : World) (e : Ending) (w' : World) : Prop := ∃ a b m, av .f32 a = o1 ∧ av .f32 b = o2 ∧ e = .returned (.complex .f32 a b) ∧ w' = w.drewN m
theorem narrow_pha {r : Nat} {o : Option Nat} (h : av .f64 r = o) (b : Bd o 121) (w : World) : av .f32 (cval .f64 r .f32 w) = acv .f64 .f32 o := by
  rw [av_narrow, h]
  cases hn : nanB .f64 r with
  | true => exact .inl rfl
  | false =>
    rw [av_some hn] at h
    exact .inr (.inl ((b r h.symm).mono (by omega)))
theorem nan32 : nanB .f32 2143289344 = true := by decide
theorem f0_of {y F k X : Nat} {n n1 n2 : Int} (h : Pha y F k X n n1 n2) : ∃ F0, floatBits .sub .f64 y (fe n) = some F0 ∧ (if ltA (some F0) 0 then floatBits .add .f64 F0 4607182418800017408 = some F else F0 = F) := by
  have e := h.f1
  unfold f1A at e
  cases h0 : f0A y n with
  | none => rw [h0] at e; revert e; cases ltA none 0 <;> simp [aop]
  | some F0 =>
    rw [h0] at e
    refine ⟨F0, h0, ?_⟩
    cases hb : ltA (some F0) 0 with
    | true => rw [hb] at e; exact e
    | false => rw [hb] at e; exact Option.some.inj e
theorem implPha_not (y : Nat) (w : World) (fy : finB .f64 y = false) : Calls Try.prog 46 #[.float .f64 y] w (GivesC none none w) := by
  have e6 := fun w => fin_not fy w
  go_enter Try.func46, Try.ntmps46
  go_wp2_with go_in
  go_ret
  exact ⟨_, _, _, narrow_nan _, narrow_nan _, rfl, rfl⟩
theorem implPha_huge (y : Nat) (w : World) (fy : finB .f64 y = true) (hy : y < 18446744073709551616) (hA : ¬ rng Ieee.double y < 4841369599423283200) (hB : rng Ieee.double y < 9218868437227405312) : Calls Try.prog 46 #[.float .f64 y] w (GivesC (av .f32 1065353216) (av .f32 0) w) := by
  have e6 := fun w => fin_same fy w
  have e3 := Lib.hid (abs_bits y hy)
  have t1 := geq_yes (X := rng Ieee.double y) (Y := 4841369599423283200) hB (by omega) (by omega)
  clear hA hB hy
  go_enter Try.func46, Try.ntmps46
  go_wp2_with (first | (go_at_call 79; refine (abs_any _ _ _ e3.out).mono ?_; rintro e w' ⟨rfl, rfl⟩) | go_in)
  go_ret
  exact ⟨_, _, _, rfl, rfl, rfl, rfl⟩
set_option maxRecDepth 100000 in
set_option maxHeartbeats 4000000 in
theorem implPha_in (y F k X : Nat) (n n1 n2 : Int) (w : World) (fy : finB .f64 y = true) (hn : nanB .f64 y = false) (hy : y < 18446744073709551616) (hA : rng Ieee.double y < 4841369599423283200) (h : Pha y F k X n n1 n2) :
    Calls Try.prog 46 #[.float .f64 y] w (GivesC (acv .f64 .f32 (reA k (sinA (f1A X n1)) (sinA (f1A (qF F k) n2)))) (acv .f64 .f32 (imA k (sinA (f1A X n1)) (sinA (f1A (qF F k) n2)))) w) := by
  have e6 := fun w => fin_same fy w
  have e3 := Lib.hid (abs_bits y hy)
  have t1 := geq_no (X := rng Ieee.double y) (Y := 4841369599423283200) (by omega) (by omega) hA
  have CP := Lib.hid fun w => part_any y n w hn h.trn
  have F1 := Lib.hid h.f1
  have CS1 := Lib.hid fun w => sine_any X n1 w h.sx.1 h.t1
  have CS2 := Lib.hid fun w => sine_any (qF F k) n2 w h.sf.1 h.t2
  have SB1 := Lib.hid (sinA_bd (f1_bd h.t1))
  have SB2 := Lib.hid (sinA_bd (f1_bd h.t2))
  have LS := Lib.hid h.q.less
  have LA := Lib.hid h.q.last
  have BL := Lib.hid fun i hi => (h.q.ble i hi).1
  have XX := Lib.hid h.x
  have kf := h.q.few
  generalize sinA (f1A X n1) = cc at *
  generalize sinA (f1A (qF F k) n2) = ss at *
  clear h hn hy hA fy
  go_enter Try.func46, Try.ntmps46
  go_wp2_with (first | (go_at_call 79; refine (abs_any _ _ _ e3.out).mono ?_; rintro e w' ⟨rfl, rfl⟩) | (go_at_call 85; refine (CP.out _).mono ?_; rintro e w' ⟨r, m0, hr, rfl, rfl⟩; obtain rfl := (av_is hr F1.out).symm; clear hr) | go_in)
  go_loopw [4, 5] (fun sf sq wr => ∃ i m : Nat, i ≤ k ∧ sf = .float .f64 (qF F i) ∧ sq = .int .i64 i ∧ wr = w.drewN m) (fun _ sq _ => k - (intOf sq).toNat)
  case atStart => exact ⟨0, _, Nat.zero_le _, rfl, rfl, rfl⟩
  case round =>
    obtain ⟨i, m, hi2, rfl, rfl, rfl⟩ := hrel
    by_cases hik : i < k
    · obtain ⟨l1, l2⟩ := LS.out i hik
      have c1 := fun w => fval_some l2 w
      have c2 := fN_some l2
      have c3 := ord_ge (qF F i) 4598175219545276416 nq_
      rw [av_some (BL.out i (by omega)), l1] at c3
      clear l1 l2
      go_wp2
      exact ⟨⟨i + 1, _, by omega, rfl, by go_num, rfl⟩, by simp [intOf]; omega⟩
    · obtain rfl : i = k := by omega
      have c3 := ord_ge (qF F i) 4598175219545276416 nq_
      rw [av_some (BL.out i (by omega)), LA.out] at c3
      have c1 := fun w => fval_some XX.out w
      have c2 := fN_some XX.out
      rcases (show i = 1 ∨ i = 2 ∨ i = 3 ∨ (i ≠ 1 ∧ i ≠ 2 ∧ i ≠ 3) by omega) with e | e | e | e
      case inl => 
        have k1 : ((i : Int) == 1) = true := by rw [e]; rfl
        have k2 : ((i : Int) == 2) = false := by rw [e]; rfl
        have k3 : ((i : Int) == 3) = false := by rw [e]; rfl
        have ER := Lib.hid (show reA i cc ss = ng0 ss from by rw [e]; rfl)
        have EI := Lib.hid (show imA i cc ss = cc from by rw [e]; rfl)
        clear e
        have RB := Lib.hid (show Bd (ng0 ss) 121 ∧ Bd (cc) 121 from ⟨by have := reA_bd SB1.out SB2.out i; rw [ER.out] at this; exact this, by have := imA_bd SB1.out SB2.out i; rw [EI.out] at this; exact this⟩)
        have HR0 := trivial
        go_wp2_with (first | (go_at_call 76; first | (clear HR0; refine (CS1.out _).mono ?_; rintro e w' ⟨r1, m1, hr1, rfl, rfl⟩; have HR1 := Lib.hid hr1; clear hr1) | (refine (CS2.out _).mono ?_; rintro e w' ⟨r2, m2, hr2, rfl, rfl⟩; have HR2 := Lib.hid hr2; clear hr2)) | go_in)
        go_ret
        exact ⟨_, _, _, by rw [ER.out]; exact narrow_pha (by simp only [av_fval, HR2.out, av_some n0_]; rfl) RB.out.1 _, by rw [EI.out]; exact narrow_pha (HR1.out) RB.out.2 _, rfl, rfl⟩
      case inr.inl => 
        have k1 : ((i : Int) == 1) = false := by rw [e]; rfl
        have k2 : ((i : Int) == 2) = true := by rw [e]; rfl
        have k3 : ((i : Int) == 3) = false := by rw [e]; rfl
        have ER := Lib.hid (show reA i cc ss = ng0 cc from by rw [e]; rfl)
        have EI := Lib.hid (show imA i cc ss = ng0 ss from by rw [e]; rfl)
        clear e
        have RB := Lib.hid (show Bd (ng0 cc) 121 ∧ Bd (ng0 ss) 121 from ⟨by have := reA_bd SB1.out SB2.out i; rw [ER.out] at this; exact this, by have := imA_bd SB1.out SB2.out i; rw [EI.out] at this; exact this⟩)
        have HR0 := trivial
        go_wp2_with (first | (go_at_call 76; first | (clear HR0; refine (CS1.out _).mono ?_; rintro e w' ⟨r1, m1, hr1, rfl, rfl⟩; have HR1 := Lib.hid hr1; clear hr1) | (refine (CS2.out _).mono ?_; rintro e w' ⟨r2, m2, hr2, rfl, rfl⟩; have HR2 := Lib.hid hr2; clear hr2)) | go_in)
        go_ret
        exact ⟨_, _, _, by rw [ER.out]; exact narrow_pha (by simp only [av_fval, HR1.out, av_some n0_]; rfl) RB.out.1 _, by rw [EI.out]; exact narrow_pha (by simp only [av_fval, HR2.out, av_some n0_]; rfl) RB.out.2 _, rfl, rfl⟩
      case inr.inr.inl => 
        have k1 : ((i : Int) == 1) = false := by rw [e]; rfl
        have k2 : ((i : Int) == 2) = false := by rw [e]; rfl
        have k3 : ((i : Int) == 3) = true := by rw [e]; rfl
        have ER := Lib.hid (show reA i cc ss = ss from by rw [e]; rfl)
        have EI := Lib.hid (show imA i cc ss = ng0 cc from by rw [e]; rfl)
        clear e
        have RB := Lib.hid (show Bd (ss) 121 ∧ Bd (ng0 cc) 121 from ⟨by have := reA_bd SB1.out SB2.out i; rw [ER.out] at this; exact this, by have := imA_bd SB1.out SB2.out i; rw [EI.out] at this; exact this⟩)
        have HR0 := trivial
        go_wp2_with (first | (go_at_call 76; first | (clear HR0; refine (CS1.out _).mono ?_; rintro e w' ⟨r1, m1, hr1, rfl, rfl⟩; have HR1 := Lib.hid hr1; clear hr1) | (refine (CS2.out _).mono ?_; rintro e w' ⟨r2, m2, hr2, rfl, rfl⟩; have HR2 := Lib.hid hr2; clear hr2)) | go_in)
        go_ret
        exact ⟨_, _, _, by rw [ER.out]; exact narrow_pha (HR2.out) RB.out.1 _, by rw [EI.out]; exact narrow_pha (by simp only [av_fval, HR1.out, av_some n0_]; rfl) RB.out.2 _, rfl, rfl⟩
      case inr.inr.inr => 
        obtain ⟨e1, e2, e3⟩ := e
        have k1 : ((i : Int) == 1) = false := by simp; omega
        have k2 : ((i : Int) == 2) = false := by simp; omega
        have k3 : ((i : Int) == 3) = false := by simp; omega
        have ER := Lib.hid (show reA i cc ss = cc from by unfold reA; rw [if_neg e1, if_neg e2, if_neg e3])
        have EI := Lib.hid (show imA i cc ss = ss from by unfold imA; rw [if_neg e1, if_neg e2, if_neg e3])
        clear e1 e2 e3
        have RB := Lib.hid (show Bd (cc) 121 ∧ Bd (ss) 121 from ⟨by have := reA_bd SB1.out SB2.out i; rw [ER.out] at this; exact this, by have := imA_bd SB1.out SB2.out i; rw [EI.out] at this; exact this⟩)
        have HR0 := trivial
        go_wp2_with (first | (go_at_call 76; first | (clear HR0; refine (CS1.out _).mono ?_; rintro e w' ⟨r1, m1, hr1, rfl, rfl⟩; have HR1 := Lib.hid hr1; clear hr1) | (refine (CS2.out _).mono ?_; rintro e w' ⟨r2, m2, hr2, rfl, rfl⟩; have HR2 := Lib.hid hr2; clear hr2)) | go_in)
        go_ret
        exact ⟨_, _, _, by rw [ER.out]; exact narrow_pha (HR1.out) RB.out.1 _, by rw [EI.out]; exact narrow_pha (HR2.out) RB.out.2 _, rfl, rfl⟩
end Go.Proofs.Ytopfeilfgbcihaa
