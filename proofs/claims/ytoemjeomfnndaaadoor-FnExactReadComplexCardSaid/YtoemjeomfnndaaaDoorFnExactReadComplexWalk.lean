/- The walk of laws.FnExactReadComplex: it returns true and leaves what was there. -/
import Derived.Test.YtoemjeomfnndaaaDoorRc2C
import Derived.Test.YtoemjeomfnndaaaDoorRc3C
import Derived.Test.YtoemjeomfnndaaaDoorMcC
namespace Go.Proofs.YtoemjeomfnndaaaDoor.fnExactReadComplex
open Go.RowKit
set_option linter.unusedVariables false
theorem vars_of_row {W : World} (h : laidMetH Tryd.prog Rows.fnExactReadComplexRow.laid W) (hsh : W.ShapedOpen Tryd.prog) : VarsN W := by
  rw [MakeChecks.laidMetH_plain _ _ _ (by kernel_rfl)] at h
  refine ⟨bru_of h.tail, ⟨?_, ?_⟩, MaxC.of hsh⟩
  · exact errs_of (g := (Tryd.prog.globalNamed "strconv.ErrSyntax").getD 0) (by kernel_rfl) (by kernel_rfl) h.tail.tail.tail.tail.tail
  · exact errs_of (g := (Tryd.prog.globalNamed "strconv.ErrRange").getD 0) (by kernel_rfl) (by kernel_rfl) h.tail.tail.tail.tail
set_option maxHeartbeats 1000000 in
theorem core (s : ByteArray) (w : World) (hn : s.size ≤ 1048576) (N : Nat) (hN : N ≤ 256) (ok : Bool) (x y : Nat → Nat) (hV : VarsN w)
    (cs : ∀ w, Calls Tryd.prog 21 #[.string s] w (OutS N ok (kC x y) w))
    (ci : ∀ w, VarsN w → Calls Tryd.prog 22 #[.string s] w (OutS N ok (kC x y) w)) :
    Calls Tryd.prog 5 #[.string s] w fun e w' => e = .returned (.bool true) ∧ Below w.heap.size w w' := by
  have CS := Lib.hid cs
  have CI := Lib.hid ci
  have hV := Lib.hid hV
  clear cs ci
  have hn' : ¬ 1048576 < s.size := by omega
  go_enter Tryd.func5, Tryd.ntmps5
  go_wp2_with fail
  refine (CS.out _).mono ?_
  rintro e w2 ⟨aW, cW, rfl, n2⟩
  have B2 := n2.bel
  go_wp2_with fail
  refine (CI.out _ (hV.out.bel B2)).mono ?_
  rintro e w4 ⟨aG, cG, rfl, n4⟩
  have B4 := bel_next B2 n4.bel
  have W4 := n2.own.bel n4.bel
  have G4 := n4.own
  have z2 := n2.bel.size
  have z4 := n4.bel.size
  go_wp2_with fail
  refine (eqCplx_bel aG aW N cG cW x y _ G4.sin.cplx W4.sin.cplx (by omega)).mono ?_
  rintro e w5 ⟨rfl, b5⟩
  have B5 := bel_next B4 b5
  have W5 := W4.bel b5
  have G5 := G4.bel b5
  go_wp2_with fail
  refine (markCplx_own _ _ _ N _ x y 1 _ G5 hN (by omega) (by omega)).mono ?_
  rintro e w10 ⟨rfl, c10, g10⟩
  have B10 := c10.bel B5 (by omega)
  have W10 := W5.chg c10 (.inl (by omega))
  go_wp2_with fail
  refine (heldCplx_bel aG N cG 1 _ g10.cplx hN (by omega) (by omega)).mono ?_
  rintro e w11 ⟨rfl, b11⟩
  have B11 := bel_next B10 b11
  have W11 := W10.bel b11
  have g11 := g10.bel b11
  go_wp2_with fail
  refine (CI.out _ (hV.out.bel B11)).mono ?_
  rintro e w13 ⟨aH, cH, rfl, n13⟩
  have B13 := bel_next B11 n13.bel
  have W13 := W11.bel n13.bel
  have g13 := g11.bel n13.bel
  go_wp2_with fail
  refine (eqCplx_bel aH aW N cH cW x y _ n13.own.sin.cplx W13.sin.cplx (by omega)).mono ?_
  rintro e w14 ⟨rfl, b14⟩
  have B14 := bel_next B13 b14
  have g14 := g13.bel b14
  go_wp2_with fail
  refine (heldCplx_bel aG N cG 1 _ g14.cplx hN (by omega) (by omega)).mono ?_
  rintro e w15 ⟨rfl, b15⟩
  have B15 := bel_next B14 b15
  go_wp2_with fail
  go_ret
  exact ⟨rfl, B15⟩
theorem far (s : ByteArray) (w : World) (hn : ¬ s.size ≤ 1048576) :
    Calls Tryd.prog 5 #[.string s] w fun e w' => e = .returned (.bool true) ∧ Below w.heap.size w w' := by
  have hn' : 1048576 < s.size := by omega
  go_enter Tryd.func5, Tryd.ntmps5
  go_wp2_with fail
  go_ret
  exact ⟨rfl, Below.refl _ _⟩
theorem walk (s : ByteArray) (w : World) (hL : laidMetH Tryd.prog Rows.fnExactReadComplexRow.laid w) (hsh : w.ShapedOpen Tryd.prog) (w0 : s.size ≤ maxLen) :
    Calls Tryd.prog 5 #[.string s] w fun e w' => e = .returned (.bool true) ∧ Below w.heap.size w w' := by
  by_cases hn : s.size ≤ 1048576
  · exact core s w hn (rdN qC 256 s.data.toList) (rdN_le _ _ _) (rdOk qC 256 s.data.toList) (zR s.data.toList) (zI s.data.toList) (vars_of_row hL hsh) (fun w => specReadC_any s w hn) (fun w hV => implReadC_any s w hn hV)
  · exact far s w hn
end Go.Proofs.YtoemjeomfnndaaaDoor.fnExactReadComplex
