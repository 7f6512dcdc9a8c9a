/- The walk of laws.FnExactNumbersText: it returns true and leaves what was there. -/
import Derived.Test.YtoemjeomfnndaaaDoorNtC
namespace Go.Proofs.YtoemjeomfnndaaaDoor.fnExactNumbersText
open Go.RowKit
set_option linter.unusedVariables false
theorem bru_of_row {W : World} (h : laidMetH Tryd.prog Rows.fnExactNumbersTextRow.laid W) : Bru W := by
  rw [MakeChecks.laidMetH_plain _ _ _ (by kernel_rfl)] at h
  exact bru_of h.tail
set_option maxHeartbeats 1000000 in
theorem core (a0 : Option Addr) (n0 cap0 : Nat) (z0 : Nat → Nat) (w : World) (hA : SIn w 0 w.heap.size a0 n0 cap0 (kF z0)) (hn : n0 ≤ 1048576) (hz : ∀ i, i < n0 → z0 i < 4294967296) (hT : Bru w) :
    Calls Tryd.prog 9 #[.slice a0 n0 cap0] w fun e w' => e = .returned (.bool true) ∧ Below w.heap.size w w' := by
  have hT := Lib.hid hT
  have HZ := Lib.hid hz
  clear hz
  have hn' : ¬ 1048576 < n0 := by omega
  go_enter Tryd.func9, Tryd.ntmps9
  go_wp2_with fail
  refine (toFloats_new a0 n0 cap0 z0 _ hA.floats hn).mono ?_
  rintro e w1 ⟨rfl, n1⟩
  have B1 : Below w.heap.size w w1 := n1.bel
  go_wp2_with fail
  refine (specNt_any _ n0 n0 z0 w1 n1.own.sin.floats hn HZ.out).mono ?_
  rintro e w2 ⟨hv, b2⟩
  unfold NtE at hv
  subst hv
  have B2 := bel_next B1 b2
  go_wp2_with fail
  refine (toFloats_new a0 n0 cap0 z0 _ (hA.bel B2).floats hn).mono ?_
  rintro e w3 ⟨rfl, n3⟩
  have B3 := bel_next B2 n3.bel
  go_wp2_with fail
  refine (implNt_any _ n0 n0 z0 w3 n3.own.sin.floats hn HZ.out (hT.out.bel B3)).mono ?_
  rintro e w4 ⟨hv, b4⟩
  unfold NtE at hv
  subst hv
  have B4 := bel_next B3 b4
  have X4 := n3.own.bel b4
  go_wp2_with fail
  refine (toFloats_new a0 n0 cap0 z0 _ (hA.bel B4).floats hn).mono ?_
  rintro e w6 ⟨rfl, n6⟩
  have B6 := bel_next B4 n6.bel
  have X6 := X4.bel n6.bel
  go_wp2_with fail
  refine (eqFloats_bel _ _ n0 n0 n0 z0 _ X6.sin.floats n6.own.sin.floats hn).mono ?_
  rintro e w7 ⟨rfl, b7⟩
  have B7 := bel_next B6 b7
  go_wp2_with fail
  go_ret
  exact ⟨rfl, B7⟩
theorem far (a0 : Option Addr) (n0 cap0 : Nat) (w : World) (hn : ¬ n0 ≤ 1048576) :
    Calls Tryd.prog 9 #[.slice a0 n0 cap0] w fun e w' => e = .returned (.bool true) ∧ Below w.heap.size w w' := by
  have hn' : 1048576 < n0 := by omega
  go_enter Tryd.func9, Tryd.ntmps9
  go_wp2_with fail
  go_ret
  exact ⟨rfl, Below.refl _ _⟩
theorem walk (a0 : Option Addr) (n0 cap0 : Nat) (z0 : Nat → Nat) (w : World) (hL : laidMetH Tryd.prog Rows.fnExactNumbersTextRow.laid w) (hsh : w.ShapedOpen Tryd.prog) (w0 : IsRowF .f32 w a0 n0 cap0 z0) :
    Calls Tryd.prog 9 #[.slice a0 n0 cap0] w fun e w' => e = .returned (.bool true) ∧ Below w.heap.size w w' := by
  by_cases hn : n0 ≤ 1048576
  · exact core a0 n0 cap0 _ w (isRow_floats w0).1 hn (isRow_floats w0).2 (bru_of_row hL)
  · exact far a0 n0 cap0 w hn
end Go.Proofs.YtoemjeomfnndaaaDoor.fnExactNumbersText
