/- The walk of laws.FnExactCheckOf: it returns true and leaves what was there. -/
import Derived.Test.YtopfeilfgbcihaaChkC
namespace Go.Proofs.Ytopfeilfgbcihaa.fnExactCheckOf
open Go.RowKit
set_option linter.unusedVariables false
theorem walk (a0 : Int) (a1 : ByteArray) (w : World) (w0 : (Lit.int .i64 a0).wf = true) (w1 : a1.size ≤ maxLen) : Calls Try.prog 5 #[.int .i64 a0, .string a1] w fun e w' => e = .returned (.bool true) ∧ Below w.heap.size w w' := by
  clear w0
  by_cases h : 0 ≤ a0 ∧ a0 ≤ 65002
  · obtain ⟨h1, h2⟩ := h
    generalize hc : chk a0 a1.data.toList = c
    have HC := Lib.hid hc
    clear hc
    go_enter Try.func5, Try.ntmps5
    go_wp2_with (first | (go_at_call 60; refine (l01Check_any a0 a1 _ w1 h1 h2).mono ?_; rw [HC.out]; rintro e w' ⟨rfl, rfl⟩) | (go_at_call 23; refine (implCheckOf_in a0 a1 _ w1 h1 h2).mono ?_; rw [HC.out]; rintro e w' ⟨rfl, rfl⟩) | go_in)
    all_goals (go_ret; exact ⟨rfl, Below.refl _ _⟩)
  · have h' : a0 < 0 ∨ 65002 < a0 := by omega
    have HC := Lib.hid h'
    clear h'
    by_cases h1 : 0 ≤ a0
    · have h2 : ¬ a0 ≤ 65002 := by omega
      clear h
      go_enter Try.func5, Try.ntmps5
      go_wp2_with (first | (go_at_call 23; refine (implCheckOf_out a0 a1 _ HC.out).mono ?_; rintro e w' ⟨rfl, rfl⟩) | go_in)
      all_goals first | (go_ret; exact ⟨rfl, Below.refl _ _⟩) | (exfalso; simp_all; omega)
    · clear h
      go_enter Try.func5, Try.ntmps5
      go_wp2_with (first | (go_at_call 23; refine (implCheckOf_out a0 a1 _ HC.out).mono ?_; rintro e w' ⟨rfl, rfl⟩) | go_in)
      all_goals (go_ret; exact ⟨rfl, Below.refl _ _⟩)
end Go.Proofs.Ytopfeilfgbcihaa.fnExactCheckOf
