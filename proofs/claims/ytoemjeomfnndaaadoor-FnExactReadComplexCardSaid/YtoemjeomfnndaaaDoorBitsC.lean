/- Contracts of the functions that tell a number's bits and whether two numbers are the same. -/
import Derived.Test.YtoemjeomfnndaaaDoorFloat
import Derived.Test.YtoemjeomfnndaaaDoorSame
namespace Go.Proofs.YtoemjeomfnndaaaDoor
open Go.RowKit
set_option linter.unusedVariables false

theorem bel_drewN (w : World) (n : Nat) : Below w.heap.size w (w.drewN n) := ⟨rfl, rfl, rfl, Nat.le_refl _, fun _ _ => rfl⟩

theorem l01Bits_any (x : Nat) (w : World) (hx : x < 4294967296) : Calls Tryd.prog 60 #[.float .f32 x] w fun e w' => e = .returned (.int .i64 (bitsZ x)) ∧ w = w' := by
  rw [bitsZ_eq]
  cases h : nanB .f32 x
  · go_enter Tryd.func60, Tryd.ntmps60
    go_wp2
    all_goals (go_ret; exact ⟨rfl, rfl⟩)
  · go_enter Tryd.func60, Tryd.ntmps60
    go_wp2
    all_goals (go_ret; exact ⟨rfl, rfl⟩)
theorem BitsOf_any (x : Nat) (w : World) (hx : x < 4294967296) : Calls Tryd.prog 76 #[.float .f32 x] w fun e w' => e = .returned (.int .i64 (bitsZ x)) ∧ w = w' := by
  rw [bitsZ_eq]
  cases h : nanB .f32 x
  · go_enter Tryd.func76, Tryd.ntmps76
    go_wp2
    all_goals (go_ret; exact ⟨rfl, rfl⟩)
  · go_enter Tryd.func76, Tryd.ntmps76
    go_wp2
    all_goals (go_ret; exact ⟨rfl, rfl⟩)

end Go.Proofs.YtoemjeomfnndaaaDoor
