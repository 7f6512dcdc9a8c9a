/- AngleTurns: both sides for all arguments. -/
import Derived.Test.YtopfeilfgbcihaaAng2C
namespace Go.Proofs.Ytopfeilfgbcihaa
open Go.RowKit
set_option linter.unusedVariables false
theorem implAng_not (y x : Nat) (f g : Bool) (w : World) (hx : Hid (finB .f32 x = f)) (hy : Hid (finB .f32 y = g)) (h : (f && g) = false) :
    Calls Try.prog 42 #[.float .f32 y, .float .f32 x] w (GivesB none w) := by
  cases f <;> cases g <;> first
    | exact absurd h (by decide)
    | skip
  all_goals
    clear h
    go_enter Try.func42, Try.ntmps42
    go_wp2_with (first | (go_at_call 78; refine (areFinite2_any _ _ x y _ _ _ hx hy (by simp) (by simp)).mono ?_; rintro e w' ⟨rfl, m0, rfl⟩) | go_in)
    go_ret
    exact ⟨_, narrow_nan _, rfl, bel_drewsY ((Below.refl _ _).alloc (Nat.le_refl _) _) _⟩
theorem implAng_zero (y x Wy Wx : Nat) (sy sx zy zx : Bool) (w : World) (hy : Wid y Wy 0 sy zy) (hx : Wid x Wx 0 sx zx) (fy : finB .f32 y = true) (fx : finB .f32 x = true) :
    Calls Try.prog 42 #[.float .f32 y, .float .f32 x] w (GivesB (av .f32 0) w) := by
  have FY := Lib.hid fy
  have FX := Lib.hid fx
  have e5 := hy.eq32
  have f5 := hx.eq32
  obtain rfl : zy = true := by rw [hy.z0]; rfl
  obtain rfl : zx = true := by rw [hx.z0]; rfl
  clear fy fx hy hx
  go_enter Try.func42, Try.ntmps42
  go_wp2_with (first | (go_at_call 78; refine (areFinite2_any _ _ x y true true _ FX FY (by simp) (by simp)).mono ?_; rintro e w' ⟨rfl, m0, rfl⟩) | go_in)
  go_ret
  exact ⟨_, rfl, rfl, bel_drewsY ((Below.refl _ _).alloc (Nat.le_refl _) _) _⟩
theorem specAng_fin (y x Wy Wx A B : Nat) (sy sx zy zx : Bool) (w : World) (hy : Wid y Wy A sy zy) (hx : Wid x Wx B sx zx) (fy : finB .f32 y = true) (fx : finB .f32 x = true) (hne : ¬ (A = 0 ∧ B = 0)) :
    Calls Try.prog 41 #[.float .f32 y, .float .f32 x] w (GivesB (angR A B sx sy) w) := by
  have BD := Lib.hid (angO_bd hy.hA hx.hA hne sx sy)
  have e1 := hy.wide
  have e2 := hy.n0
  have f1 := hx.wide
  have f2 := hx.n0
  have CL := Lib.hid fun w => specAngW_fin y x Wy Wx A B sy sx zy zx w hy hx fy fx hne _ rfl
  clear hy hx fy fx hne
  go_enter Try.func41, Try.ntmps41
  go_wp2_with (first | (go_at_call 97; refine (CL.out _).mono ?_; rintro e w' ⟨r, m, hr, rfl, rfl⟩) | go_in)
  go_ret
  exact ⟨_, narrow_ang hr BD.out _, rfl, bel_drewsY (Below.refl _ _) _⟩
theorem cval_zero (w : World) : cval .f64 0 .f32 w = 0 := by
  have : floatToFloatBits .f64 0 .f32 = some 0 := by decide +kernel
  rw [cval, this]; rfl
theorem specAng_zero (y x Wy Wx : Nat) (sy sx zy zx : Bool) (w : World) (hy : Wid y Wy 0 sy zy) (hx : Wid x Wx 0 sx zx) :
    Calls Try.prog 41 #[.float .f32 y, .float .f32 x] w (GivesB (av .f32 0) w) := by
  have e1 := hy.wide
  have e2 := hy.n0
  have f1 := hx.wide
  have f2 := hx.n0
  have e5 := hy.eq64
  have f5 := hx.eq64
  have e6 := fun w => fin_same hy.fin64 w
  have f6 := fun w => fin_same hx.fin64 w
  obtain rfl : zy = true := by rw [hy.z0]; rfl
  obtain rfl : zx = true := by rw [hx.z0]; rfl
  clear hy hx
  go_enter Try.func41, Try.ntmps41
  go_wp2_with go_in
  go_ret
  exact ⟨_, by rw [cval_zero], rfl, bel_drewsY (Below.refl _ _) _⟩
theorem specAng_noty (y x : Nat) (w : World) (hy : y < 4294967296) (fy : finB .f32 y = false) :
    Calls Try.prog 41 #[.float .f32 y, .float .f32 x] w (GivesB none w) := by
  have e6 := fun w w1 => fin_not (not_fin y hy fy w1) w
  clear hy fy
  go_enter Try.func41, Try.ntmps41
  go_wp2_with go_in
  go_ret
  exact ⟨_, narrow_nan _, rfl, bel_drewsY (Below.refl _ _) _⟩
theorem specAng_notx (y x Wy A : Nat) (sy zy : Bool) (w : World) (hy : Wid y Wy A sy zy) (hx : x < 4294967296) (fx : finB .f32 x = false) :
    Calls Try.prog 41 #[.float .f32 y, .float .f32 x] w (GivesB none w) := by
  have e1 := hy.wide
  have e2 := hy.n0
  have e5 := fun w => fin_same hy.fin64 w
  have e6 := fun w w1 => fin_not (not_fin x hx fx w1) w
  clear hx hy fx
  go_enter Try.func41, Try.ntmps41
  go_wp2_with go_in
  go_ret
  exact ⟨_, narrow_nan _, rfl, bel_drewsY (Below.refl _ _) _⟩
end Go.Proofs.Ytopfeilfgbcihaa
