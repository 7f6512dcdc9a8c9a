/- The walk of laws.FnExactAngleTurns: it returns true and leaves what was there. -/
import Derived.Test.YtopfeilfgbcihaaAng3C
namespace Go.Proofs.Ytopfeilfgbcihaa.fnExactAngleTurns
open Go.RowKit
set_option linter.unusedVariables false
theorem core (y x : Nat) (w : World) (o : Option Nat) (cs : ∀ w, Calls Try.prog 41 #[.float .f32 y, .float .f32 x] w (GivesB o w)) (ci : ∀ w, Calls Try.prog 42 #[.float .f32 y, .float .f32 x] w (GivesB o w)) : Calls Try.prog 13 #[.float .f32 y, .float .f32 x] w fun e w' => e = .returned (.bool true) ∧ Below w.heap.size w w' := by
  have CS := Lib.hid cs
  have CI := Lib.hid ci
  clear cs ci
  go_enter Try.func13, Try.ntmps13
  go_wp2_with fail
  refine (CS.out _).mono ?_
  rintro e w1 ⟨r, hr, rfl, b1⟩
  have HR := Lib.hid hr
  clear hr
  go_wp2_with fail
  refine (CI.out _).mono ?_
  rintro e w2 ⟨r', hr', rfl, b2⟩
  have HR' := Lib.hid hr'
  clear hr'
  have B2 := b1.trans (b2.mono b1.size)
  go_wp2_with fail
  refine (sameWide r' r _ _ _ (by rw [HR.out, HR'.out])).mono ?_
  rintro e w' ⟨rfl, m5, rfl⟩
  go_wp2_with fail
  go_ret
  exact ⟨rfl, bel_drewsY B2 _⟩
theorem walk (y x : Nat) (w : World) (w0 : (Lit.float .f32 y).wf = true) (w1 : (Lit.float .f32 x).wf = true) : Calls Try.prog 13 #[.float .f32 y, .float .f32 x] w fun e w' => e = .returned (.bool true) ∧ Below w.heap.size w w' := by
  have hy : y < 4294967296 := by simpa [Lit.wf] using w0
  have hx : x < 4294967296 := by simpa [Lit.wf] using w1
  clear w0 w1
  cases fy : finB .f32 y with
  | false => exact core y x w _ (fun w => specAng_noty y x w hy fy) (fun w => implAng_not y x (finB .f32 x) false w (Lib.hid rfl) (Lib.hid fy) (Bool.and_false _))
  | true =>
    obtain ⟨Wy, A, sy, zy, hY⟩ := wid_ok y hy fy
    cases fx : finB .f32 x with
    | false => exact core y x w _ (fun w => specAng_notx y x Wy A sy zy w hY hx fx) (fun w => implAng_not y x false true w (Lib.hid fx) (Lib.hid fy) rfl)
    | true =>
      obtain ⟨Wx, B, sx, zx, hX⟩ := wid_ok x hx fx
      by_cases hz : A = 0 ∧ B = 0
      · obtain ⟨rfl, rfl⟩ := hz
        exact core y x w _ (fun w => specAng_zero y x Wy Wx sy sx zy zx w hY hX) (fun w => implAng_zero y x Wy Wx sy sx zy zx w hY hX fy fx)
      · exact core y x w _ (fun w => specAng_fin y x Wy Wx A B sy sx zy zx w hY hX fy fx hz) (fun w => implAng_fin y x Wy Wx A B sy sx zy zx w hY hX fy fx hz _ rfl)
end Go.Proofs.Ytopfeilfgbcihaa.fnExactAngleTurns
