/- Decimal: both sides. -/
import Derived.Test.YtoemjeomfnndaaaDoorDecS
import Derived.Test.YtoemjeomfnndaaaDoorDoor
import Derived.Test.YtoemjeomfnndaaaDoorShDec
namespace Go.Proofs.YtoemjeomfnndaaaDoor
open Go.RowKit
set_option linter.unusedVariables false
theorem sg_of (n : Int) : n = sg (decide (n < 0)) n.natAbs := by
  unfold sg
  by_cases h : n < 0
  · rw [decide_eq_true h, if_pos rfl]; omega
  · rw [decide_eq_false h, if_neg (by decide)]; omega
theorem l01Dec_any (n : Int) (w : World) (h0 : -9223372036854775808 ≤ n) (h1 : n ≤ 9223372036854775807) :
    Calls Tryd.prog 45 #[.int .i64 n] w (fun e w' => e = .returned (.string ⟨(Lib.itoa n).toArray⟩) ∧ Below w.heap.size w w') := by
  have h := dec_any (decide (n < 0)) n.natAbs w (by omega) (fun e => by
    have : ¬ n < 0 := of_decide_eq_false e
    omega)
  rwa [← sg_of n] at h
theorem specDec_any (n : Int) (w : World) (h0 : -9223372036854775808 ≤ n) (h1 : n ≤ 9223372036854775807) :
    Calls Tryd.prog 26 #[.int .i64 n] w (fun e w' => e = .returned (.string ⟨(Lib.itoa n).toArray⟩) ∧ Below w.heap.size w w') := by
  go_enter Tryd.func26, Tryd.ntmps26
  go_wp2_with (go_at_call 45; refine (l01Dec_any n _ h0 h1).mono ?_; rintro e w' ⟨rfl, hb⟩)
  go_ret
  exact ⟨rfl, hb⟩
theorem implDec_any (n : Int) (w : World) (h0 : -9223372036854775808 ≤ n) (h1 : n ≤ 9223372036854775807) (hT : Pow w) :
    Calls Tryd.prog 27 #[.int .i64 n] w (fun e w' => e = .returned (.string ⟨(Lib.itoa n).toArray⟩) ∧ Below w.heap.size w w') := by
  have hT := Lib.hid hT
  go_enter Tryd.func27, Tryd.ntmps27
  go_wp2_with (go_at_call 46; refine (Any.strconv_FormatInt_10 Tryd.laysM173 n h0 h1 _ hT.out).mono ?_; rintro e w' ⟨rfl, k, os, rfl⟩)
  go_ret
  exact ⟨rfl, bel_growN _ _ _⟩
end Go.Proofs.YtoemjeomfnndaaaDoor
