/- The walk of laws.FnExactSineTurns: it returns true and leaves what was there. -/
import Derived.Test.YtopfeilfgbcihaaSin3C
namespace Go.Proofs.Ytopfeilfgbcihaa.fnExactSineTurns
open Go.RowKit
set_option linter.unusedVariables false
theorem core (x : Nat) (w : World) (o : Option Nat) (cs : ∀ w, Calls Try.prog 39 #[.float .f32 x] w (GivesS o w)) (ci : ∀ w, Calls Try.prog 40 #[.float .f32 x] w (GivesS o w)) : Calls Try.prog 12 #[.float .f32 x] w fun e w' => e = .returned (.bool true) ∧ Below w.heap.size w w' := by
  have CS := Lib.hid cs
  have CI := Lib.hid ci
  clear cs ci
  go_enter Try.func12, Try.ntmps12
  go_wp2_with fail
  refine (CS.out _).mono ?_
  rintro e w1 ⟨r, m, hr, rfl, rfl⟩
  have HR := Lib.hid hr
  clear hr
  go_wp2_with fail
  refine (CI.out _).mono ?_
  rintro e w1 ⟨r', m', hr', rfl, rfl⟩
  have HR' := Lib.hid hr'
  clear hr'
  go_wp2_with fail
  refine (sameWide r' r _ _ _ (by rw [HR.out, HR'.out])).mono ?_
  rintro e w' ⟨rfl, m5, rfl⟩
  go_wp2_with fail
  go_ret
  exact ⟨rfl, bel_drewN _ _⟩
theorem walk (x : Nat) (w : World) (w0 : (Lit.float .f32 x).wf = true) : Calls Try.prog 12 #[.float .f32 x] w fun e w' => e = .returned (.bool true) ∧ Below w.heap.size w w' := by
  have hx : x < 4294967296 := by simpa [Lit.wf] using w0
  clear w0
  cases fx : finB .f32 x with
  | false => exact core x w _ (fun w => specSin_not x w hx fx) (fun w => implSin_not x w fx)
  | true =>
    obtain ⟨W, A, s, z, h⟩ := wid_ok x hx fx
    by_cases hA : A < 4841369599423283200
    · have hs := wid_small hx h fx hA (wid_lt h)
      obtain ⟨n, hT⟩ := trn_ok hs
      exact core x w _ (fun w => specSin_fin x W A s z n w h hs hT) (fun w => implSin_fin x W A s z n w h fx hs hA hT)
    · exact core x w _ (fun w => specSin_huge x W A s z w h hA) (fun w => implSin_huge x W A s z w h fx hA)
end Go.Proofs.Ytopfeilfgbcihaa.fnExactSineTurns
