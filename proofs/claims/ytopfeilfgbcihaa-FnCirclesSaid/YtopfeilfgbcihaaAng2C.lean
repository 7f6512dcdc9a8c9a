/- AngleTurns: the reference's side. -/
import Derived.Test.YtopfeilfgbcihaaAngC
namespace Go.Proofs.Ytopfeilfgbcihaa
open Go.RowKit
set_option linter.unusedVariables false
theorem fin_same {k : FloatKind} {x : Nat} (h : finB k x = true) (w : World) : (k.format.order (fval .sub k x x w) 0 != some .eq) = false := by
  have := fin_walk k x w
  rw [h] at this
  unfold bne
  rw [this]; rfl
theorem fin_not {k : FloatKind} {x : Nat} (h : finB k x = false) (w : World) : (k.format.order (fval .sub k x x w) 0 != some .eq) = true := by
  have := fin_walk k x w
  rw [h] at this
  unfold bne
  rw [this]; rfl
set_option maxRecDepth 100000 in
set_option maxHeartbeats 4000000 in
theorem specAngW_fin (y x Wy Wx A B : Nat) (sy sx zy zx : Bool) (w : World) (hy : Wid y Wy A sy zy) (hx : Wid x Wx B sx zx) (fy : finB .f32 y = true) (fx : finB .f32 x = true) (hne : ¬ (A = 0 ∧ B = 0)) (sg : Bool) (hsg : decide (B < A) = sg) :
    Calls Try.prog 97 #[.float .f64 Wy, .float .f64 Wx] w (GivesF (angO A B sx sy) w) := by
  have FY := Lib.hid fy
  have FX := Lib.hid fx
  have HA := hy.hA
  have HB := hx.hA
  have avA := Lib.hid (av_small HA)
  have avB := Lib.hid (av_small HB)
  have e1 := hy.wide
  have e2 := hy.n0
  have e3 := Lib.hid hy.abs
  have f1 := hx.wide
  have f2 := hx.n0
  have f3 := Lib.hid hx.abs
  have e4 := hy.lt64
  have e5 := hy.eq64
  have f4 := hx.lt64
  have f5 := hx.eq64
  have e6 := fun w => fin_same hy.fin64 w
  have f6 := fun w => fin_same hx.fin64 w
  have g1 : zx = true → zy = true → False := fun a b => hne ⟨by have := hy.z0; rw [b] at this; simpa using this.symm, by have := hx.z0; rw [a] at this; simpa using this.symm⟩
  have BD := Lib.hid (angO_bd HA HB hne)
  clear fy fx hy hx hne
  cases sg with
  | true =>
    have hlt : B < A := by simpa using hsg
    have t1 := gtr_yes HA HB hlt
    have HIF := Lib.hid (show (if B < A then aop .quo .f64 (some B) (some A) else aop .quo .f64 (some A) (some B)) = aop .quo .f64 (some B) (some A) from if_pos hlt)
    have HI1 := Lib.hid (show ang1 A B = aop .sub .f64 (some 4598175219545276416) (angA A B) from if_pos hlt)
    clear hsg hlt
    cases zx <;> cases zy <;> first
      | exact (g1 rfl rfl).elim
      | skip
    all_goals
      clear g1
      go_enter Try.func97, Try.ntmps97
      go_wp2_with (first | (go_at_call 78; refine (areFinite2_any _ _ x y true true _ FX FY (by simp) (by simp)).mono ?_; rintro e w' ⟨rfl, m0, rfl⟩) | (go_at_call 79; first | (refine (abs_any _ _ _ e3.out).mono ?_; rintro e w' ⟨rfl, rfl⟩) | (refine (abs_any _ _ _ f3.out).mono ?_; rintro e w' ⟨rfl, rfl⟩)) | go_in)
      have hb := Below.refl w.heap.size w
      go_loopw [8, 9] (fun s8 s9 wr => ∃ (k t m : Nat), k ≤ 3 ∧ s9 = .int .i64 k ∧ s8 = .float .f64 t ∧ Hid (av .f64 t = tkA A B k) ∧ wr = w.drewN m) (fun s8 s9 _ => 3 - (intOf s9).toNat)
      case atStart => exact ⟨0, _, _, by omega, rfl, rfl, Lib.hid (by simp only [av_fval, avA.out, avB.out]; exact HIF.out.symm), rfl⟩
      case round =>
        obtain ⟨k, t, m, hk, rfl, rfl, ht, rfl⟩ := hrel
        by_cases hk3 : k < 3
        · go_wp2_with go_in
          exact ⟨⟨k + 1, _, _, by omega, by go_num, rfl, Lib.hid (by simp only [av_fval, av_rval, ht.out, av_one]; rfl), rfl⟩, by simp [intOf]; omega⟩
        · obtain rfl : k = 3 := by omega
          go_wp2
          go_loopw [11, 12] (fun s11 s12 wr => ∃ (j p m : Nat), j ≤ 8 ∧ s12 = .int .i64 (15 - 2 * (j : Int)) ∧ s11 = .float .f64 p ∧ Hid (av .f64 p = pA (aop .mul .f64 (t3A A B) (t3A A B)) j) ∧ wr = w.drewN m) (fun _ s12 _ => (intOf s12 + 1).toNat)
          case atStart => exact ⟨0, 0, _, by omega, rfl, rfl, Lib.hid (av_some (nan_zero .f64)), rfl⟩
          case round =>
            obtain ⟨j, p, m, hj, rfl, rfl, hp, rfl⟩ := hrel
            by_cases hj2 : j < 8
            · go_wp2
              exact ⟨⟨j + 1, _, _, by omega, by rw [show 15 - 2 * (j : Int) - 2 = 15 - 2 * ((j + 1 : Nat) : Int) by omega], rfl, Lib.hid (by simp only [av_fval, nrst, hp.out, ht.out, tk3, av_one, av_fe15 j (by omega)]; rfl), rfl⟩, by simp [intOf]; omega⟩
            · obtain rfl : j = 8 := by omega
              cases sx <;> cases sy
              all_goals
                go_wp2
                go_ret
                exact ⟨_, _, (by simp only [av_negF, av_fval, hp.out, ht.out, tk3, av_c1, av_c2, av_c3, av_c4]; unfold angO ang2; simp only [if_true, if_false, Bool.false_eq_true]; rw [HI1.out]; rfl), rfl, rfl⟩
  | false =>
    have hlt : ¬ B < A := by simpa using hsg
    have t1 := gtr_not HA HB hlt
    have HIF := Lib.hid (show (if B < A then aop .quo .f64 (some B) (some A) else aop .quo .f64 (some A) (some B)) = aop .quo .f64 (some A) (some B) from if_neg hlt)
    have HI1 := Lib.hid (show ang1 A B = angA A B from if_neg hlt)
    clear hsg hlt
    cases zx <;> cases zy <;> first
      | exact (g1 rfl rfl).elim
      | skip
    all_goals
      clear g1
      go_enter Try.func97, Try.ntmps97
      go_wp2_with (first | (go_at_call 78; refine (areFinite2_any _ _ x y true true _ FX FY (by simp) (by simp)).mono ?_; rintro e w' ⟨rfl, m0, rfl⟩) | (go_at_call 79; first | (refine (abs_any _ _ _ e3.out).mono ?_; rintro e w' ⟨rfl, rfl⟩) | (refine (abs_any _ _ _ f3.out).mono ?_; rintro e w' ⟨rfl, rfl⟩)) | go_in)
      have hb := Below.refl w.heap.size w
      go_loopw [8, 9] (fun s8 s9 wr => ∃ (k t m : Nat), k ≤ 3 ∧ s9 = .int .i64 k ∧ s8 = .float .f64 t ∧ Hid (av .f64 t = tkA A B k) ∧ wr = w.drewN m) (fun s8 s9 _ => 3 - (intOf s9).toNat)
      case atStart => exact ⟨0, _, _, by omega, rfl, rfl, Lib.hid (by simp only [av_fval, avA.out, avB.out]; exact HIF.out.symm), rfl⟩
      case round =>
        obtain ⟨k, t, m, hk, rfl, rfl, ht, rfl⟩ := hrel
        by_cases hk3 : k < 3
        · go_wp2_with go_in
          exact ⟨⟨k + 1, _, _, by omega, by go_num, rfl, Lib.hid (by simp only [av_fval, av_rval, ht.out, av_one]; rfl), rfl⟩, by simp [intOf]; omega⟩
        · obtain rfl : k = 3 := by omega
          go_wp2
          go_loopw [11, 12] (fun s11 s12 wr => ∃ (j p m : Nat), j ≤ 8 ∧ s12 = .int .i64 (15 - 2 * (j : Int)) ∧ s11 = .float .f64 p ∧ Hid (av .f64 p = pA (aop .mul .f64 (t3A A B) (t3A A B)) j) ∧ wr = w.drewN m) (fun _ s12 _ => (intOf s12 + 1).toNat)
          case atStart => exact ⟨0, 0, _, by omega, rfl, rfl, Lib.hid (av_some (nan_zero .f64)), rfl⟩
          case round =>
            obtain ⟨j, p, m, hj, rfl, rfl, hp, rfl⟩ := hrel
            by_cases hj2 : j < 8
            · go_wp2
              exact ⟨⟨j + 1, _, _, by omega, by rw [show 15 - 2 * (j : Int) - 2 = 15 - 2 * ((j + 1 : Nat) : Int) by omega], rfl, Lib.hid (by simp only [av_fval, nrst, hp.out, ht.out, tk3, av_one, av_fe15 j (by omega)]; rfl), rfl⟩, by simp [intOf]; omega⟩
            · obtain rfl : j = 8 := by omega
              cases sx <;> cases sy
              all_goals
                go_wp2
                go_ret
                exact ⟨_, _, (by simp only [av_negF, av_fval, hp.out, ht.out, tk3, av_c1, av_c2, av_c4]; unfold angO ang2; simp only [if_true, if_false, Bool.false_eq_true]; rw [HI1.out]; rfl), rfl, rfl⟩
end Go.Proofs.Ytopfeilfgbcihaa
