/- The walk of laws.FnExactTenthsOf: it returns true and leaves what was there. -/
import Derived.Test.YtopfeilfgbcihaaTen2C
namespace Go.Proofs.Ytopfeilfgbcihaa.fnExactTenthsOf
open Go.RowKit
set_option linter.unusedVariables false
theorem core (x : Nat) (n : Int) (ok : Bool) (w : World) (cs : ∀ w, Calls Try.prog 43 #[.float .f32 x] w fun e w' => e = .returned (.tuple #[.int .i64 n, .bool ok]) ∧ Below w.heap.size w w') (ci : ∀ w, Calls Try.prog 44 #[.float .f32 x] w fun e w' => e = .returned (.tuple #[.int .i64 n, .bool ok]) ∧ Below w.heap.size w w') : Calls Try.prog 14 #[.float .f32 x] w fun e w' => e = .returned (.bool true) ∧ Below w.heap.size w w' := by
  have CS := Lib.hid cs
  have CI := Lib.hid ci
  clear cs ci
  go_enter Try.func14, Try.ntmps14
  go_wp2_with fail
  refine (CS.out _).mono ?_
  rintro e w1 ⟨rfl, b1⟩
  go_wp2_with fail
  refine (CI.out _).mono ?_
  rintro e w2 ⟨rfl, b2⟩
  go_wp2_with fail
  all_goals (go_ret; exact ⟨rfl, b1.trans (b2.mono b1.size)⟩)
theorem walk (x : Nat) (w : World) (w0 : (Lit.float .f32 x).wf = true) : Calls Try.prog 14 #[.float .f32 x] w fun e w' => e = .returned (.bool true) ∧ Below w.heap.size w w' := by
  have hx : x < 4294967296 := by simpa [Lit.wf] using w0
  clear w0
  obtain ⟨f, l, p, h⟩ := asked x hx
  cases p with
  | false => exact core x 0 false w (fun w => specTen_not x f l w h) (fun w => implTen_not x f l w h)
  | true =>
    obtain ⟨R, hM, hW, hN⟩ := pos_wide (posB_of h.pos)
    obtain ⟨n, hT⟩ := tenths_ok hM
    exact core x n true w (fun w => specTen_pos x R n f l w h hM hT hW hN) (fun w => implTen_pos x R n f l w h hM hT hW hN)
end Go.Proofs.Ytopfeilfgbcihaa.fnExactTenthsOf
