/- The walk of laws.FnExactListText: it returns true and leaves what was there. -/
import Derived.Test.YtoemjeomfnndaaaDoorList2C
namespace Go.Proofs.YtoemjeomfnndaaaDoor.fnExactListText
open Go.RowKit
set_option linter.unusedVariables false
theorem pow_of_row {W : World} (h : laidMetH Tryd.prog Rows.fnExactListTextRow.laid W) : Pow W := by
  rw [MakeChecks.laidMetH_plain _ _ _ (by kernel_rfl)] at h
  exact pow_of h.tail.tail
set_option maxHeartbeats 1000000 in
theorem core (a0 : Option Addr) (n0 cap0 : Nat) (z0 : Nat → Int) (w : World) (hA : SIn w 0 w.heap.size a0 n0 cap0 (kI z0)) (hn : n0 ≤ 1048576) (hT : Pow w) :
    Calls Tryd.prog 8 #[.slice a0 n0 cap0] w fun e w' => e = .returned (.bool true) ∧ Below w.heap.size w w' := by
  have hT := Lib.hid hT
  have hn' : ¬ 1048576 < n0 := by omega
  go_enter Tryd.func8, Tryd.ntmps8
  go_wp2_with fail
  refine (toInts_new a0 n0 cap0 z0 _ hA.ints hn).mono ?_
  rintro e w1 ⟨rfl, n1⟩
  have B1 : Below w.heap.size w w1 := n1.bel
  go_wp2_with fail
  refine (specLt_any _ n0 n0 z0 w1 n1.own.sin.ints hn).mono ?_
  rintro e w2 ⟨hv, b2⟩
  unfold LtE at hv
  subst hv
  have B2 := bel_next B1 b2
  go_wp2_with fail
  refine (toInts_new a0 n0 cap0 z0 _ (hA.bel B2).ints hn).mono ?_
  rintro e w3 ⟨rfl, n3⟩
  have B3 := bel_next B2 n3.bel
  go_wp2_with fail
  refine (implLt_any _ n0 n0 z0 w3 n3.own.sin.ints hn (pow_bel hT.out B3)).mono ?_
  rintro e w4 ⟨hv, b4⟩
  unfold LtE at hv
  subst hv
  have B4 := bel_next B3 b4
  have X4 := n3.own.bel b4
  go_wp2_with fail
  refine (toInts_new a0 n0 cap0 z0 _ (hA.bel B4).ints hn).mono ?_
  rintro e w6 ⟨rfl, n6⟩
  have B6 := bel_next B4 n6.bel
  have X6 := X4.bel n6.bel
  go_wp2_with fail
  refine (eqInts_bel _ _ n0 n0 n0 z0 _ X6.sin.ints n6.own.sin.ints hn).mono ?_
  rintro e w7 ⟨rfl, b7⟩
  have B7 := bel_next B6 b7
  go_wp2_with fail
  go_ret
  exact ⟨rfl, B7⟩
theorem far (a0 : Option Addr) (n0 cap0 : Nat) (w : World) (hn : ¬ n0 ≤ 1048576) :
    Calls Tryd.prog 8 #[.slice a0 n0 cap0] w fun e w' => e = .returned (.bool true) ∧ Below w.heap.size w w' := by
  have hn' : 1048576 < n0 := by omega
  go_enter Tryd.func8, Tryd.ntmps8
  go_wp2_with fail
  go_ret
  exact ⟨rfl, Below.refl _ _⟩
theorem walk (a0 : Option Addr) (n0 cap0 : Nat) (zs : List Int) (w : World) (hL : laidMetH Tryd.prog Rows.fnExactListTextRow.laid w) (hsh : w.ShapedOpen Tryd.prog) (w0 : IsRow .i64 w a0 n0 cap0 zs) :
    Calls Tryd.prog 8 #[.slice a0 n0 cap0] w fun e w' => e = .returned (.bool true) ∧ Below w.heap.size w w' := by
  by_cases hn : n0 ≤ 1048576
  · exact core a0 n0 cap0 _ w (isRow_ints w0).1 hn (pow_of_row hL)
  · exact far a0 n0 cap0 w hn
end Go.Proofs.YtoemjeomfnndaaaDoor.fnExactListText
