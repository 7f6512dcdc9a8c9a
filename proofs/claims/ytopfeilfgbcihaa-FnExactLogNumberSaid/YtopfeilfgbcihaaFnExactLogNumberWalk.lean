/- The walk of laws.FnExactLogNumber: it returns true and leaves what was there. -/
import Derived.Test.YtopfeilfgbcihaaLnC
namespace Go.Proofs.Ytopfeilfgbcihaa.fnExactLogNumber
open Go.RowKit
set_option linter.unusedVariables false
theorem core (x : Nat) (w : World) (o : Option Nat) (cs : ∀ w, Calls Try.prog 38 #[.float .f32 x] w (GivesS o w)) (ci : ∀ w, Calls Try.prog 35 #[.float .f32 x] w (GivesS o w)) : Calls Try.prog 11 #[.float .f32 x] w fun e w' => e = .returned (.bool true) ∧ Below w.heap.size w w' := by
  have CS := Lib.hid cs
  have CI := Lib.hid ci
  clear cs ci
  go_enter Try.func11, Try.ntmps11
  go_wp2_with fail
  refine (CS.out _).mono ?_
  rintro e w1 ⟨r, m, hr, rfl, rfl⟩
  have HR := Lib.hid hr
  clear hr
  go_wp2_with fail
  refine (CI.out _).mono ?_
  rintro e w1 ⟨r', m', hr', rfl, rfl⟩
  have HR' := Lib.hid hr'
  clear hr'
  go_wp2_with fail
  refine (sameWide r' r _ _ _ (by rw [HR.out, HR'.out])).mono ?_
  rintro e w' ⟨rfl, m5, rfl⟩
  go_wp2_with fail
  go_ret
  exact ⟨rfl, bel_drewN _ _⟩
theorem walk (x : Nat) (w : World) (w0 : (Lit.float .f32 x).wf = true) : Calls Try.prog 11 #[.float .f32 x] w fun e w' => e = .returned (.bool true) ∧ Below w.heap.size w w' := by
  have hx : x < 4294967296 := by simpa [Lit.wf] using w0
  clear w0
  rcases classes x hx with h | rfl | rfl | rfl | h | h
  · exact core x w _ (fun w => specLn_nan x w h) (fun w => implLn_nan x w h)
  · exact core _ w _ specLn_zero implLn_zero
  · exact core _ w _ specLn_nzero implLn_nzero
  · exact core _ w _ specLn_inf implLn_inf
  · obtain ⟨R, hM, hW, hN⟩ := pos_wide h
    exact core x w _ (fun w => specLn_pos x R w h hM hW hN) (fun w => implLn_pos x R w h hM hW hN)
  · obtain ⟨R, h0, h1, hW, hN⟩ := neg_wide h
    exact core x w _ (fun w => specLn_neg x R w h h0 h1 hW hN) (fun w => implLn_neg x R w h h0 h1 hW hN)
end Go.Proofs.Ytopfeilfgbcihaa.fnExactLogNumber
