/- AngleTurns: small contracts, and the program's side. -/
import Derived.Test.YtopfeilfgbcihaaLogC
import Derived.Test.YtopfeilfgbcihaaAng
import Derived.Test.YtopfeilfgbcihaaWid
import Derived.Test.YtopfeilfgbcihaaNeg
import Derived.Test.YtopfeilfgbcihaaLnC
import Derived.Test.YtopfeilfgbcihaaMathC
namespace Go.Proofs.Ytopfeilfgbcihaa
open Go.RowKit
set_option linter.unusedVariables false
theorem bel_drewsY {B : Nat} {w w' : World} (h : Below B w w') (n : Nat) : Below B w (w'.drewN n) := by
  induction n with
  | zero => exact h
  | succ n ih => exact ih.drew
theorem finTest_any (x : Nat) (f : Bool) (w : World) (h : Hid (finB .f32 x = f)) : Calls Try.prog 99 #[.float .f32 x] w fun e w' => e = .returned (.bool (!f)) ∧ ∃ m, w' = w.drewN m := by
  have t1 := h.out
  cases f <;>
    (go_enter Try.func99, Try.ntmps99
     go_wp2_with go_in
     go_ret
     exact ⟨rfl, _, rfl⟩)
set_option maxHeartbeats 400000 in
theorem areFin_any (b cap x y : Nat) (f g : Bool) (w : World) (hf : Hid (finB .f32 x = f)) (hg : Hid (finB .f32 y = g)) (hc : w.cell? ⟨b, 0, none⟩ = some (.float .f32 x)) (hd : w.cell? ⟨b, 1, none⟩ = some (.float .f32 y)) :
    Calls Try.prog 106 #[.slice (some ⟨b, 0, none⟩) 2 cap, .func (.func 99) #[] #[]] w fun e w' => e = .returned (.int .i64 (if f then if g then -1 else 1 else 0)) ∧ ∃ m, w' = w.drewN m := by
  cases f with
  | false =>
    go_enter Try.func106, Try.ntmps106
    go_wp2
    refine wp_loop_rounds 1 ?_
    rw [rounds_succ]
    go_wp2_with (go_at_call 99; refine (finTest_any x false _ hf).mono ?_; rintro e w' ⟨rfl, m, rfl⟩)
    go_ret
    exact ⟨rfl, _, rfl⟩
  | true => cases g with
    | false =>
      go_enter Try.func106, Try.ntmps106
      go_wp2
      refine wp_loop_rounds 2 ?_
      rw [rounds_succ]
      go_wp2_with (go_at_call 99; refine (finTest_any x true _ hf).mono ?_; rintro e w' ⟨rfl, m, rfl⟩)
      rw [rounds_succ]
      go_wp2_with (go_at_call 99; refine (finTest_any y false _ hg).mono ?_; rintro e w' ⟨rfl, m, rfl⟩)
      go_ret
      exact ⟨rfl, _, rfl⟩
    | true =>
      go_enter Try.func106, Try.ntmps106
      go_wp2
      refine wp_loop_rounds 3 ?_
      rw [rounds_succ]
      go_wp2_with (go_at_call 99; refine (finTest_any x true _ hf).mono ?_; rintro e w' ⟨rfl, m, rfl⟩)
      rw [rounds_succ]
      go_wp2_with (go_at_call 99; refine (finTest_any y true _ hg).mono ?_; rintro e w' ⟨rfl, m, rfl⟩)
      rw [rounds_succ]
      go_wp2
      go_ret
      exact ⟨rfl, _, rfl⟩
theorem areFinite2_any (b cap x y : Nat) (f g : Bool) (w : World) (hf : Hid (finB .f32 x = f)) (hg : Hid (finB .f32 y = g)) (hc : w.cell? ⟨b, 0, none⟩ = some (.float .f32 x)) (hd : w.cell? ⟨b, 1, none⟩ = some (.float .f32 y)) :
    Calls Try.prog 78 #[.slice (some ⟨b, 0, none⟩) 2 cap] w fun e w' => e = .returned (.bool (f && g)) ∧ ∃ m, w' = w.drewN m := by
  cases f <;> cases g <;>
    (go_enter Try.func78, Try.ntmps78
     go_wp2_with (first | (go_at_call 106; refine (areFin_any b cap x y _ _ _ hf hg hc hd).mono ?_; rintro e w' ⟨rfl, m, rfl⟩) | go_in)
     go_ret
     exact ⟨rfl, _, rfl⟩)
theorem fe_dd : ∀ j : Nat, j < 9 → floatBits .sub .f64 (fe (15 - 2 * (j : Int))) 4611686018427387904 = some (fe (15 - 2 * ((j : Int) + 1))) ∧ ((FloatKind.f64.format.order (fe (15 - 2 * (j : Int))) 4607182418800017408 == some .gt || FloatKind.f64.format.order (fe (15 - 2 * (j : Int))) 4607182418800017408 == some .eq) = decide (j < 8)) := by
  decide +kernel
theorem fe_15 : fe 15 = 4624633867356078080 := by decide +kernel
theorem fe_fallsD : ∀ j : Nat, j < 8 → mz (fe (15 - 2 * ((j : Int) + 1))) < mz (fe (15 - 2 * (j : Int))) := by decide +kernel
theorem av_fe15 (j : Nat) (h : j < 9) : av .f64 (fe (15 - 2 * (j : Int))) = some (fe (15 - 2 * (j : Int))) := av_fe (by omega) (by omega)
theorem gtr_yes {X Y : Nat} (hX : X < 9218868437227405312) (hY : Y < 9218868437227405312) (h : Y < X) : (FloatKind.f64.format.order X Y == some .gt) = true := by
  rw [ord_small hX hY, show compare (X : Int) (Y : Int) = .gt by rw [Int.compare_eq_gt]; omega]; rfl
theorem gtr_not {X Y : Nat} (hX : X < 9218868437227405312) (hY : Y < 9218868437227405312) (h : ¬ Y < X) : (FloatKind.f64.format.order X Y == some .gt) = false := by
  rw [ord_small hX hY]
  rcases Int.lt_trichotomy (X : Int) (Y : Int) with q | q | q
  · rw [show compare (X : Int) (Y : Int) = .lt by rw [Int.compare_eq_lt]; omega]; rfl
  · rw [q]; simp
  · omega
/-- The k-th of the three steps. -/
def tkA (A B : Nat) : Nat → Option Nat
  | 0 => if B < A then aop .quo .f64 (some B) (some A) else aop .quo .f64 (some A) (some B)
  | k + 1 => tA (tkA A B k)
theorem tk3 (A B : Nat) : tkA A B 3 = t3A A B := rfl
theorem abs_any (W A : Nat) (w : World) (h : (bits .andNot .u64 (W : Int) 9223372036854775808).toNat = A) : Calls Try.prog 79 #[.float .f64 W] w fun e w' => e = .returned (.float .f64 A) ∧ w = w' := by
  go_enter Try.func79, Try.ntmps79
  go_wp2
  go_ret
  exact ⟨rfl, rfl⟩
/-- It returns a 32-bit number that is this but for the choice of a NaN, and leaves what was there. -/
def GivesB (o : Option Nat) (w : World) (e : Ending) (w' : World) : Prop := ∃ r, av .f32 r = o ∧ e = .returned (.float .f32 r) ∧ Below w.heap.size w w'
theorem narrow_ang {r : Nat} {o : Option Nat} (h : av .f64 r = o) (b : Bd o 100) (w : World) : av .f32 (cval .f64 r .f32 w) = acv .f64 .f32 o := by
  rw [av_narrow, h]
  cases hn : nanB .f64 r with
  | true => exact .inl rfl
  | false =>
    rw [av_some hn] at h
    exact .inr (.inl ((b r h.symm).mono (by omega)))
theorem av_c1 : av .f64 4620693217682128896 = some 4620693217682128896 := av_small (by omega)
theorem av_c2 : av .f64 4618760256179416344 = some 4618760256179416344 := av_small (by omega)
theorem av_c3 : av .f64 4598175219545276416 = some 4598175219545276416 := av_small (by omega)
theorem av_c4 : av .f64 4602678819172646912 = some 4602678819172646912 := av_small (by omega)
set_option maxRecDepth 100000 in
set_option maxHeartbeats 4000000 in
theorem implAng_fin (y x Wy Wx A B : Nat) (sy sx zy zx : Bool) (w : World) (hy : Wid y Wy A sy zy) (hx : Wid x Wx B sx zx) (fy : finB .f32 y = true) (fx : finB .f32 x = true) (hne : ¬ (A = 0 ∧ B = 0)) (sg : Bool) (hsg : decide (B < A) = sg) :
    Calls Try.prog 42 #[.float .f32 y, .float .f32 x] w (GivesB (angR A B sx sy) w) := by
  have FY := Lib.hid fy
  have FX := Lib.hid fx
  have HA := hy.hA
  have HB := hx.hA
  have avA := Lib.hid (av_small HA)
  have avB := Lib.hid (av_small HB)
  have e1 := hy.wide
  have e2 := hy.n0
  have e3 := Lib.hid hy.abs
  have f1 := hx.wide
  have f2 := hx.n0
  have f3 := Lib.hid hx.abs
  have e4 := hy.lt32
  have e5 := hy.eq32
  have f4 := hx.lt32
  have f5 := hx.eq32
  have g1 : zx = true → zy = true → False := fun a b => hne ⟨by have := hy.z0; rw [b] at this; simpa using this.symm, by have := hx.z0; rw [a] at this; simpa using this.symm⟩
  have BD := Lib.hid (angO_bd HA HB hne)
  clear fy fx hy hx hne
  cases sg with
  | true =>
    have hlt : B < A := by simpa using hsg
    have t1 := gtr_yes HA HB hlt
    have HIF := Lib.hid (show (if B < A then aop .quo .f64 (some B) (some A) else aop .quo .f64 (some A) (some B)) = aop .quo .f64 (some B) (some A) from if_pos hlt)
    have HI1 := Lib.hid (show ang1 A B = aop .sub .f64 (some 4598175219545276416) (angA A B) from if_pos hlt)
    clear hsg hlt
    cases zx <;> cases zy <;> first
      | exact (g1 rfl rfl).elim
      | skip
    all_goals
      clear g1
      go_enter Try.func42, Try.ntmps42
      go_wp2_with (first | (go_at_call 78; refine (areFinite2_any _ _ x y true true _ FX FY (by simp) (by simp)).mono ?_; rintro e w' ⟨rfl, m0, rfl⟩) | (go_at_call 79; first | (refine (abs_any _ _ _ e3.out).mono ?_; rintro e w' ⟨rfl, rfl⟩) | (refine (abs_any _ _ _ f3.out).mono ?_; rintro e w' ⟨rfl, rfl⟩)) | go_in)
      have hb := (Below.refl w.heap.size w).alloc (Nat.le_refl _) (.cells #[.float .f32 x, .float .f32 y] 22)
      generalize w.alloc (.cells #[.float .f32 x, .float .f32 y] 22) = W0 at *
      go_loopw [7, 42] (fun s7 s42 wr => ∃ (k t m : Nat), k ≤ 3 ∧ s42 = .int .i64 k ∧ s7 = .float .f64 t ∧ Hid (av .f64 t = tkA A B k) ∧ wr = W0.drewN m) (fun s7 s42 _ => 3 - (intOf s42).toNat)
      case atStart => exact ⟨0, _, _, by omega, rfl, rfl, Lib.hid (by simp only [av_fval, avA.out, avB.out]; exact HIF.out.symm), rfl⟩
      case round =>
        obtain ⟨k, t, m, hk, rfl, rfl, ht, rfl⟩ := hrel
        by_cases hk3 : k < 3
        · go_wp2_with go_in
          exact ⟨⟨k + 1, _, _, by omega, by go_num, rfl, Lib.hid (by simp only [av_fval, av_rval, ht.out, av_one]; rfl), rfl⟩, by simp [intOf]; omega⟩
        · obtain rfl : k = 3 := by omega
          go_wp2
          go_loopw [9, 10] (fun s9 s10 wr => ∃ (j p m : Nat), j ≤ 8 ∧ s10 = .float .f64 (fe (15 - 2 * (j : Int))) ∧ s9 = .float .f64 p ∧ Hid (av .f64 p = pA (aop .mul .f64 (t3A A B) (t3A A B)) j) ∧ wr = W0.drewN m) (fun _ s10 _ => match s10 with | .float _ z => mz z | _ => 0)
          case atStart => exact ⟨0, 0, _, by omega, by rw [show (15 : Int) - 2 * ((0 : Nat) : Int) = 15 from rfl, fe_15], rfl, Lib.hid (av_some (nan_zero .f64)), rfl⟩
          case round =>
            obtain ⟨j, p, m, hj, rfl, rfl, hp, rfl⟩ := hrel
            have to := fe_dd j (by omega)
            obtain ⟨d1, d2⟩ := to
            by_cases hj2 : j < 8
            · rw [decide_eq_true hj2] at d2
              have v1 := fun w => fval_some d1 w
              have q1 := fN_some d1
              have hm := fe_fallsD j hj2
              clear d1
              go_wp2
              exact ⟨⟨j + 1, _, _, by omega, by rw [show 15 - 2 * ((j + 1 : Nat) : Int) = 15 - 2 * ((j : Int) + 1) by omega], rfl, Lib.hid (by simp only [av_fval, hp.out, ht.out, tk3, av_one, av_fe15 j (by omega)]; rfl), rfl⟩, hm⟩
            · rw [decide_eq_false hj2] at d2
              obtain rfl : j = 8 := by omega
              clear d1
              cases sx <;> cases sy
              all_goals
                go_wp2
                go_ret
                exact ⟨_, narrow_ang (by simp only [av_negF, av_fval, hp.out, ht.out, tk3, av_c1, av_c2, av_c3, av_c4]; unfold angO ang2; simp only [if_true, if_false, Bool.false_eq_true]; rw [HI1.out]; rfl) (BD.out _ _) _, rfl, bel_drewsY hb _⟩
  | false =>
    have hlt : ¬ B < A := by simpa using hsg
    have t1 := gtr_not HA HB hlt
    have HIF := Lib.hid (show (if B < A then aop .quo .f64 (some B) (some A) else aop .quo .f64 (some A) (some B)) = aop .quo .f64 (some A) (some B) from if_neg hlt)
    have HI1 := Lib.hid (show ang1 A B = angA A B from if_neg hlt)
    clear hsg hlt
    cases zx <;> cases zy <;> first
      | exact (g1 rfl rfl).elim
      | skip
    all_goals
      clear g1
      go_enter Try.func42, Try.ntmps42
      go_wp2_with (first | (go_at_call 78; refine (areFinite2_any _ _ x y true true _ FX FY (by simp) (by simp)).mono ?_; rintro e w' ⟨rfl, m0, rfl⟩) | (go_at_call 79; first | (refine (abs_any _ _ _ e3.out).mono ?_; rintro e w' ⟨rfl, rfl⟩) | (refine (abs_any _ _ _ f3.out).mono ?_; rintro e w' ⟨rfl, rfl⟩)) | go_in)
      have hb := (Below.refl w.heap.size w).alloc (Nat.le_refl _) (.cells #[.float .f32 x, .float .f32 y] 22)
      generalize w.alloc (.cells #[.float .f32 x, .float .f32 y] 22) = W0 at *
      go_loopw [7, 42] (fun s7 s42 wr => ∃ (k t m : Nat), k ≤ 3 ∧ s42 = .int .i64 k ∧ s7 = .float .f64 t ∧ Hid (av .f64 t = tkA A B k) ∧ wr = W0.drewN m) (fun s7 s42 _ => 3 - (intOf s42).toNat)
      case atStart => exact ⟨0, _, _, by omega, rfl, rfl, Lib.hid (by simp only [av_fval, avA.out, avB.out]; exact HIF.out.symm), rfl⟩
      case round =>
        obtain ⟨k, t, m, hk, rfl, rfl, ht, rfl⟩ := hrel
        by_cases hk3 : k < 3
        · go_wp2_with go_in
          exact ⟨⟨k + 1, _, _, by omega, by go_num, rfl, Lib.hid (by simp only [av_fval, av_rval, ht.out, av_one]; rfl), rfl⟩, by simp [intOf]; omega⟩
        · obtain rfl : k = 3 := by omega
          go_wp2
          go_loopw [9, 10] (fun s9 s10 wr => ∃ (j p m : Nat), j ≤ 8 ∧ s10 = .float .f64 (fe (15 - 2 * (j : Int))) ∧ s9 = .float .f64 p ∧ Hid (av .f64 p = pA (aop .mul .f64 (t3A A B) (t3A A B)) j) ∧ wr = W0.drewN m) (fun _ s10 _ => match s10 with | .float _ z => mz z | _ => 0)
          case atStart => exact ⟨0, 0, _, by omega, by rw [show (15 : Int) - 2 * ((0 : Nat) : Int) = 15 from rfl, fe_15], rfl, Lib.hid (av_some (nan_zero .f64)), rfl⟩
          case round =>
            obtain ⟨j, p, m, hj, rfl, rfl, hp, rfl⟩ := hrel
            have to := fe_dd j (by omega)
            obtain ⟨d1, d2⟩ := to
            by_cases hj2 : j < 8
            · rw [decide_eq_true hj2] at d2
              have v1 := fun w => fval_some d1 w
              have q1 := fN_some d1
              have hm := fe_fallsD j hj2
              clear d1
              go_wp2
              exact ⟨⟨j + 1, _, _, by omega, by rw [show 15 - 2 * ((j + 1 : Nat) : Int) = 15 - 2 * ((j : Int) + 1) by omega], rfl, Lib.hid (by simp only [av_fval, hp.out, ht.out, tk3, av_one, av_fe15 j (by omega)]; rfl), rfl⟩, hm⟩
            · rw [decide_eq_false hj2] at d2
              obtain rfl : j = 8 := by omega
              clear d1
              cases sx <;> cases sy
              all_goals
                go_wp2
                go_ret
                exact ⟨_, narrow_ang (by simp only [av_negF, av_fval, hp.out, ht.out, tk3, av_c1, av_c2, av_c4]; unfold angO ang2; simp only [if_true, if_false, Bool.false_eq_true]; rw [HI1.out]; rfl) (BD.out _ _) _, rfl, bel_drewsY hb _⟩
end Go.Proofs.Ytopfeilfgbcihaa
