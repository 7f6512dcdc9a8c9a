/- The walk of laws.FnExactHandsIn: it returns true and leaves what was there. -/
import Derived.Test.YtlaelfaalgmicaaHandsC
namespace Go.Proofs.Ytlaelfaalgmicaa.fnExactHandsIn
open Go.RowKit
set_option linter.unusedVariables false
set_option maxHeartbeats 1000000 in
theorem core (a0 : Option Addr) (n0 cap0 : Nat) (z0 : Nat → Int) (w : World) (hA : SIn w 0 w.heap.size a0 n0 cap0 (kI z0)) (hn : n0 ≤ 1048576) (N : Nat) (hN : N ≤ 1048576) (ok : Bool) (z : Nat → Int)
    (cs : ∀ a cap lo hi w, SIn w lo hi a n0 cap (kI z0) → Calls Try.prog 53 #[.slice a n0 cap] w (OutS N ok (kI z) w))
    (ci : ∀ a cap lo hi w, SIn w lo hi a n0 cap (kI z0) → Calls Try.prog 54 #[.slice a n0 cap] w (OutS N ok (kI z) w)) :
    Calls Try.prog 15 #[.slice a0 n0 cap0] w fun e w' => e = .returned (.bool true) ∧ Below w.heap.size w w' := by
  have CS := Lib.hid cs
  have CI := Lib.hid ci
  clear cs ci
  have hn' : ¬ 1048576 < n0 := by omega
  go_enter Try.func15, Try.ntmps15
  go_wp2_with fail
  refine (toInts_new a0 n0 cap0 z0 _ hA.ints hn).mono ?_
  rintro e w1 ⟨rfl, n1⟩
  have B1 : Below w.heap.size w w1 := n1.bel
  go_wp2_with fail
  refine (CS.out _ n0 _ _ w1 n1.own.sin).mono ?_
  rintro e w2 ⟨aW, cW, rfl, n2⟩
  have B2 := bel_next B1 n2.bel
  go_wp2_with fail
  refine (toInts_new a0 n0 cap0 z0 _ (hA.bel B2).ints hn).mono ?_
  rintro e w3 ⟨rfl, n3⟩
  have B3 := bel_next B2 n3.bel
  go_wp2_with fail
  refine (CI.out _ n0 _ _ w3 n3.own.sin).mono ?_
  rintro e w4 ⟨aG, cG, rfl, n4⟩
  have B4 := bel_next B3 n4.bel
  have W4 := n2.own.bel (bel_next n3.bel n4.bel)
  have X4 := n3.own.bel n4.bel
  have G4 := n4.own
  have z1 := n1.bel.size
  have z2 := n2.bel.size
  have z3 := n3.bel.size
  have z4 := n4.bel.size
  go_wp2_with fail
  refine (eqInts_bel aG aW N cG cW z _ G4.sin.ints W4.sin.ints hN).mono ?_
  rintro e w5 ⟨rfl, b5⟩
  have B5 := bel_next B4 b5
  have W5 := W4.bel b5
  have X5 := X4.bel b5
  have G5 := G4.bel b5
  go_wp2_with fail
  refine (toInts_new a0 n0 cap0 z0 _ (hA.bel B5).ints hn).mono ?_
  rintro e w6 ⟨rfl, n6⟩
  have B6 := bel_next B5 n6.bel
  have W6 := W5.bel n6.bel
  have X6 := X5.bel n6.bel
  have G6 := G5.bel n6.bel
  go_wp2_with fail
  refine (eqInts_bel _ _ n0 n0 n0 z0 _ X6.sin.ints n6.own.sin.ints hn).mono ?_
  rintro e w7 ⟨rfl, b7⟩
  have B7 := bel_next B6 b7
  have W7 := W6.bel b7
  have X7 := X6.bel b7
  have G7 := G6.bel b7
  go_wp2_with fail
  refine (markInts_own _ _ _ n0 n0 z0 1 _ X7 hn (by omega) (by omega)).mono ?_
  rintro e w8 ⟨rfl, c8, _⟩
  have B8 := c8.bel B7 (by omega)
  have W8 := W7.chg c8 (.inl (by omega))
  have G8 := G7.chg c8 (.inr (by omega))
  have A8 := (hA.bel B7).chg c8 (.inl (by omega))
  go_wp2_with fail
  refine (eqInts_bel aG aW N cG cW z _ G8.sin.ints W8.sin.ints hN).mono ?_
  rintro e w9 ⟨rfl, b9⟩
  have B9 := bel_next B8 b9
  have W9 := W8.bel b9
  have G9 := G8.bel b9
  have A9 := A8.bel b9
  go_wp2_with fail
  refine (markInts_own _ _ _ N _ z 1 _ G9 hN (by omega) (by omega)).mono ?_
  rintro e w10 ⟨rfl, c10, g10⟩
  have B10 := c10.bel B9 (by omega)
  have W10 := W9.chg c10 (.inl (by omega))
  have A10 := A9.chg c10 (.inl (by omega))
  go_wp2_with fail
  refine (heldInts_bel aG N cG 1 _ g10.ints hN (by omega) (by omega)).mono ?_
  rintro e w11 ⟨rfl, b11⟩
  have B11 := bel_next B10 b11
  have W11 := W10.bel b11
  have A11 := A10.bel b11
  have g11 := g10.bel b11
  go_wp2_with fail
  refine (toInts_new a0 n0 cap0 z0 _ A11.ints hn).mono ?_
  rintro e w12 ⟨rfl, n12⟩
  have B12 := bel_next B11 n12.bel
  have W12 := W11.bel n12.bel
  have g12 := g11.bel n12.bel
  go_wp2_with fail
  refine (CI.out _ n0 _ _ w12 n12.own.sin).mono ?_
  rintro e w13 ⟨aH, cH, rfl, n13⟩
  have B13 := bel_next B12 n13.bel
  have W13 := W12.bel n13.bel
  have g13 := g12.bel n13.bel
  go_wp2_with fail
  refine (eqInts_bel aH aW N cH cW z _ n13.own.sin.ints W13.sin.ints hN).mono ?_
  rintro e w14 ⟨rfl, b14⟩
  have B14 := bel_next B13 b14
  have g14 := g13.bel b14
  go_wp2_with fail
  refine (heldInts_bel aG N cG 1 _ g14.ints hN (by omega) (by omega)).mono ?_
  rintro e w15 ⟨rfl, b15⟩
  have B15 := bel_next B14 b15
  go_wp2_with fail
  go_ret
  exact ⟨rfl, B15⟩
theorem far (a0 : Option Addr) (n0 cap0 : Nat) (w : World) (hn : ¬ n0 ≤ 1048576) :
    Calls Try.prog 15 #[.slice a0 n0 cap0] w fun e w' => e = .returned (.bool true) ∧ Below w.heap.size w w' := by
  have hn' : 1048576 < n0 := by omega
  go_enter Try.func15, Try.ntmps15
  go_wp2_with fail
  go_ret
  exact ⟨rfl, Below.refl _ _⟩
theorem walk (a0 : Option Addr) (n0 cap0 : Nat) (zs : List Int) (w : World) (w0 : IsRow .i64 w a0 n0 cap0 zs) :
    Calls Try.prog 15 #[.slice a0 n0 cap0] w fun e w' => e = .returned (.bool true) ∧ Below w.heap.size w w' := by
  have hA := (isRow_ints w0).1
  clear w0
  generalize (fun i => zs.getD i 0) = z at hA
  by_cases hn : n0 ≤ 1048576
  · cases hb : areW z n0 with
    | true => exact core a0 n0 cap0 z w hA hn 7 (by omega) true _ (fun a cap lo hi w h => specHands_in a lo hi n0 cap z w h hn hb) (fun a cap lo hi w h => implHands_in a lo hi n0 cap z w h hn hb)
    | false => exact core a0 n0 cap0 z w hA hn 0 (by omega) false _ (fun a cap lo hi w h => specHands_out a n0 cap z w h.ints hn hb) (fun a cap lo hi w h => implHands_out a n0 cap z w h.ints hn hb)
  · exact far a0 n0 cap0 w hn
end Go.Proofs.Ytlaelfaalgmicaa.fnExactHandsIn
