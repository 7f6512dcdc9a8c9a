/- The walk of laws.FnCircles: it returns true and leaves what was there. -/
import Derived.Test.YtopfeilfgbcihaaCirC
import Derived.Deep.DeepCutAuto
import Derived.Deep.QuietTactic
namespace Go.Proofs.Ytopfeilfgbcihaa.fnCircles
open Go.RowKit
set_option linter.unusedVariables false
set_option maxRecDepth 20000 in
theorem far (a0 : Option Addr) (n0 c0 : Nat) (a1 : Option Addr) (n1 c1 : Nat) (w : World) (hn : 1048576 < n0 ∨ 1048576 < n1) :
    Calls Try.prog 16 #[.slice a0 n0 c0, .slice a1 n1 c1] w fun e w' => e = .returned (.bool true) ∧ Below w.heap.size w w' := by
  by_cases h0 : 1048576 < n0
  · go_enter Try.func16, Try.ntmps16
    go_wp2_with go_in
    go_ret
    exact ⟨rfl, Below.refl _ _⟩
  · have h1 : 1048576 < n1 := by omega
    go_enter Try.func16, Try.ntmps16
    go_wp2_with go_in
    go_ret
    exact ⟨rfl, Below.refl _ _⟩
set_option maxHeartbeats 2000000 in
set_option maxRecDepth 20000 in
theorem near (a0 : Option Addr) (n0 c0 : Nat) (a1 : Option Addr) (n1 c1 : Nat) (w : World) (b0 : BytesC w a0 n0) (b1 : BytesC w a1 n1) (h0 : ¬ 1048576 < n0) (h1 : ¬ 1048576 < n1) :
    Calls Try.prog 16 #[.slice a0 n0 c0, .slice a1 n1 c1] w fun e w' => e = .returned (.bool true) ∧ Below w.heap.size w w' := by
  have b0 := Lib.hid b0
  have b1 := Lib.hid b1
  go_enter Try.func16, Try.ntmps16
  go_upto_region 4 with (first | (go_at_call 33; refine (b10At_0 _ _ _ 256 _ b0.out (by omega) (by omega)).mono ?_; rintro e w' ⟨i, hi, rfl, rfl⟩) | go_in)
  go_upto_region 5 with (go_at_call 33; refine (b10At_1 _ _ _ 256 _ b0.out (by omega) (by omega)).mono ?_; rintro e w' ⟨j, hj, rfl, rfl⟩)
  obtain ⟨vi, ni⟩ : (∀ w, fval .quo .f64 (floatOfInt .f64 ((i : Int) - 128)) 4634204016564240384 w = yw (i + 128)) ∧ fN .quo .f64 (floatOfInt .f64 ((i : Int) - 128)) 4634204016564240384 = 0 := by
    have h := yw_ok (i + 128) (by omega)
    rw [show ((i + 128 : Nat) : Int) - 256 = (i : Int) - 128 by omega] at h
    exact ⟨fun w => fval_some h w, fN_some h⟩
  obtain ⟨vj, nj⟩ : (∀ w, fval .quo .f64 (floatOfInt .f64 ((j : Int) - 128)) 4634204016564240384 w = yw (j + 128)) ∧ fN .quo .f64 (floatOfInt .f64 ((j : Int) - 128)) 4634204016564240384 = 0 := by
    have h := yw_ok (j + 128) (by omega)
    rw [show ((j + 128 : Nat) : Int) - 256 = (j : Int) - 128 by omega] at h
    exact ⟨fun w => fval_some h w, fN_some h⟩
  obtain ⟨vr, nr⟩ : (∀ w, fval .quo .f64 (floatOfInt .f64 ((i : Int) - 128 + ((j : Int) - 128))) 4634204016564240384 w = yw (i + j)) ∧ fN .quo .f64 (floatOfInt .f64 ((i : Int) - 128 + ((j : Int) - 128))) 4634204016564240384 = 0 := by
    have h := yw_ok (i + j) (by omega)
    rw [show ((i + j : Nat) : Int) - 256 = (i : Int) - 128 + ((j : Int) - 128) by omega] at h
    exact ⟨fun w => fval_some h w, fN_some h⟩
  have P1 := Lib.hid (phasor_tab (i + 128) (by omega))
  have P2 := Lib.hid (phasor_tab (j + 128) (by omega))
  have P3 := Lib.hid (phasor_tab (i + j) (by omega))
  rw [show (i + 128) % 64 = i % 64 by omega] at P1
  rw [show (j + 128) % 64 = j % 64 by omega] at P2
  go_upto_region 6 with (go_at_call 46; refine (P1.out _).mono ?_; rintro e w' ⟨rfl, m1, rfl⟩)
  clear vi ni P1
  go_upto_region 7 with (go_at_call 46; refine (P2.out _).mono ?_; rintro e w' ⟨rfl, m2, rfl⟩)
  clear vj nj P2
  go_upto_region 8 with (go_at_call 46; refine (P3.out _).mono ?_; rintro e w' ⟨rfl, m3, rfl⟩)
  clear vr nr P3
  obtain ⟨W, t, s, g, n, e1, e2, e3, e4, e5, e6, o1, l1, l2, hm⟩ := turn_tab i hi
  have A1 := Lib.hid (angle_tab (i % 64) (Nat.mod_lt _ (by omega)))
  have c1 := fun w => cvI e1 w
  have c2 := cNI e1
  have c3 := fun w => fval_some e2 w
  have c4 := fN_some e2
  go_upto_region 9 with (go_at_call 48; refine (A1.out _).mono ?_; rintro e w4 ⟨rfl, b4⟩)
  have B4 := Lib.hid (bel_then (bel_drewN _ _) b4)
  clear b4 c1 c2 c3 c4 A1
  have d1 := fun w => fval_some e3 w
  have d2 := fN_some e3
  have d3 := fun w => fval_some e4 w
  have d4 := fN_some e4
  have d5 := fun w => ival_some e5 w
  have d6 := iN_some e5
  clear e1 e2 e3 e4 e5
  go_upto_region 10 with fail
  clear d1 d2
  go_upto_region 11 with fail
  clear d3 d4 d5 d6
  obtain ⟨p, q, gp, cP, p1, p2, p3⟩ := power_tab (i % 64) (Nat.mod_lt _ (by omega))
  obtain ⟨y1, y2, cM, cN⟩ := mul_tab (i % 64) (j % 64) (Nat.mod_lt _ (by omega)) (Nat.mod_lt _ (by omega))
  rw [← Nat.add_mod] at cN
  have cP := Lib.hid cP
  have cM := Lib.hid cM
  have cN := Lib.hid cN
  have d1 := fun w => cvI p1 w
  have d2 := cNI p1
  have G1 := Lib.hid p2
  have G2 := Lib.hid e6
  clear p1 p2 e6
  have HM := trivial
  go_upto_region 13 with (first
    | (go_at_call 34; clear HM; refine (gapF_any _ _ _ _ G1.out).mono ?_; rintro e w' ⟨rfl, rfl⟩)
    | (go_at_call 34; refine (gapF_any _ _ _ _ G2.out).mono ?_; rintro e w' ⟨rfl, rfl⟩)
    | (go_at_call 49; refine (cP.out _).mono ?_; rintro e w' ⟨rfl, rfl⟩)
    | (go_at_call 51; refine (cM.out _).mono ?_; rintro e w' ⟨rfl, rfl⟩)
    | (go_at_call 50; refine (cN.out _).mono ?_; rintro e w' ⟨rfl, rfl⟩))
  clear d1 d2 cP cM cN G1 G2 p3 o1 l1 l2 hm
  have b1 := Lib.hid (b1.out.bel B4.out)
  by_cases hq : ((i : Int) - 128).tmod 16 = 0
  · obtain ⟨g0, eg, ho⟩ := real_tab i hi hq
    have c1 := fun w => cvI (wide_of (at3 (i % 64) (Nat.mod_lt _ (by omega))).re) w
    have c2 := cNI (wide_of (at3 (i % 64) (Nat.mod_lt _ (by omega))).re)
    have G0 := Lib.hid eg
    clear eg
    rcases ho with ho | ⟨ho, ho2⟩
    · have ho := beq_iff_eq.1 ho
      go_upto_region 15 with (go_at_call 34; refine (gapF_any _ _ _ _ G0.out).mono ?_; rintro e w' ⟨rfl, rfl⟩)
      clear c1 c2 ho G0
      go_upto_region 16 with (go_at_call 33; refine (b10At_0 _ _ _ 200 _ b1.out (by omega) (by omega)).mono ?_; rintro e w' ⟨k, hk, rfl, rfl⟩; have x1 := fun w => fval_some (eighth_ws k hk) w; have x2 := fN_some (eighth_ws k hk))
      clear x1 x2
      go_upto_region 17 with (go_at_call 33; refine (b10At_1 _ _ _ 200 _ b1.out (by omega) (by omega)).mono ?_; rintro e w' ⟨l, hl, rfl, rfl⟩; have x1 := fun w => fval_some (eighth_ws l hl) w; have x2 := fN_some (eighth_ws l hl))
      clear x1 x2
      have hp : (k + 1) * (l + 1) ≤ 200 * 200 := Nat.mul_le_mul (by omega) (by omega)
      have hp0 : 0 < (k + 1) * (l + 1) := Nat.mul_pos (by omega) (by omega)
      have sm := ws_mul (n := k + 1) (m := l + 1) (by omega) (by omega) (by omega) (by omega)
      obtain ⟨ta, hTa, cA⟩ := ten_tab (8 * (k + 1)) (by omega) (by omega)
      obtain ⟨tb, hTb, cB⟩ := ten_tab (8 * (l + 1)) (by omega) (by omega)
      obtain ⟨tc, hTc, cC⟩ := ten_tab ((k + 1) * (l + 1)) hp0 (by omega)
      obtain ⟨⟨f1, f2⟩, ⟨f3, f4⟩, ⟨f5, f6⟩, f7, f8⟩ := tenths_three hk hl hTa hTb hTc
      have s1 := fun w => fval_some sm w
      have s2 := fN_some sm
      clear hTa hTb hTc sm hp hp0
      have cA := Lib.hid cA
      have cB := Lib.hid cB
      have cC := Lib.hid cC
      generalize ws (8 * (k + 1)) = X at *
      generalize ws (8 * (l + 1)) = Y at *
      generalize ws ((k + 1) * (l + 1)) = Z at *
      go_upto_region 18 with (go_at_call 44; refine (cA.out _).mono ?_; rintro e w5 ⟨rfl, b5⟩; (try simp only [World.drewN_zero] at b5); have B5 := Lib.hid (bel_then B4.out b5); clear b5)
      go_upto_region 19 with (go_at_call 44; refine (cB.out _).mono ?_; rintro e w6 ⟨rfl, b6⟩; (try simp only [World.drewN_zero] at b6); have B6 := Lib.hid (bel_then B5.out b6); clear b6)
      go_upto_region 20 with (go_at_call 44; refine (cC.out _).mono ?_; rintro e w7 ⟨rfl, b7⟩; (try simp only [World.drewN_zero] at b7); have B7 := Lib.hid (bel_then B6.out b7); clear b7)
      clear s1 s2 cA cB cC
      go_upto_region 21 with (go_at_call 44; refine (one_ten _).mono ?_; rintro e w8 ⟨rfl, b8⟩; (try simp only [World.drewN_zero] at b8); have B8 := Lib.hid (bel_then B7.out b8); clear b8)
      go_wp2_with (first | (go_at_call 48; refine (unit_any _).mono ?_; rintro e w9 ⟨rfl, b9⟩; (try simp only [World.drewN_zero] at b9); have B9 := Lib.hid (bel_then B8.out b9); clear b9) | (go_at_call 52; refine (same_not _).mono ?_; rintro e w' ⟨rfl, rfl⟩))
      go_ret
      exact ⟨rfl, B9.out⟩
    · have ho2 := beq_iff_eq.1 ho2
      have ho := beq_eq_false_iff_ne.1 ho
      go_upto_region 15 with (go_at_call 34; refine (gapF_any _ _ _ _ G0.out).mono ?_; rintro e w' ⟨rfl, rfl⟩)
      clear c1 c2 ho ho2 G0
      go_upto_region 16 with (go_at_call 33; refine (b10At_0 _ _ _ 200 _ b1.out (by omega) (by omega)).mono ?_; rintro e w' ⟨k, hk, rfl, rfl⟩; have x1 := fun w => fval_some (eighth_ws k hk) w; have x2 := fN_some (eighth_ws k hk))
      clear x1 x2
      go_upto_region 17 with (go_at_call 33; refine (b10At_1 _ _ _ 200 _ b1.out (by omega) (by omega)).mono ?_; rintro e w' ⟨l, hl, rfl, rfl⟩; have x1 := fun w => fval_some (eighth_ws l hl) w; have x2 := fN_some (eighth_ws l hl))
      clear x1 x2
      have hp : (k + 1) * (l + 1) ≤ 200 * 200 := Nat.mul_le_mul (by omega) (by omega)
      have hp0 : 0 < (k + 1) * (l + 1) := Nat.mul_pos (by omega) (by omega)
      have sm := ws_mul (n := k + 1) (m := l + 1) (by omega) (by omega) (by omega) (by omega)
      obtain ⟨ta, hTa, cA⟩ := ten_tab (8 * (k + 1)) (by omega) (by omega)
      obtain ⟨tb, hTb, cB⟩ := ten_tab (8 * (l + 1)) (by omega) (by omega)
      obtain ⟨tc, hTc, cC⟩ := ten_tab ((k + 1) * (l + 1)) hp0 (by omega)
      obtain ⟨⟨f1, f2⟩, ⟨f3, f4⟩, ⟨f5, f6⟩, f7, f8⟩ := tenths_three hk hl hTa hTb hTc
      have s1 := fun w => fval_some sm w
      have s2 := fN_some sm
      clear hTa hTb hTc sm hp hp0
      have cA := Lib.hid cA
      have cB := Lib.hid cB
      have cC := Lib.hid cC
      generalize ws (8 * (k + 1)) = X at *
      generalize ws (8 * (l + 1)) = Y at *
      generalize ws ((k + 1) * (l + 1)) = Z at *
      go_upto_region 18 with (go_at_call 44; refine (cA.out _).mono ?_; rintro e w5 ⟨rfl, b5⟩; (try simp only [World.drewN_zero] at b5); have B5 := Lib.hid (bel_then B4.out b5); clear b5)
      go_upto_region 19 with (go_at_call 44; refine (cB.out _).mono ?_; rintro e w6 ⟨rfl, b6⟩; (try simp only [World.drewN_zero] at b6); have B6 := Lib.hid (bel_then B5.out b6); clear b6)
      go_upto_region 20 with (go_at_call 44; refine (cC.out _).mono ?_; rintro e w7 ⟨rfl, b7⟩; (try simp only [World.drewN_zero] at b7); have B7 := Lib.hid (bel_then B6.out b7); clear b7)
      clear s1 s2 cA cB cC
      go_upto_region 21 with (go_at_call 44; refine (one_ten _).mono ?_; rintro e w8 ⟨rfl, b8⟩; (try simp only [World.drewN_zero] at b8); have B8 := Lib.hid (bel_then B7.out b8); clear b8)
      go_wp2_with (first | (go_at_call 48; refine (unit_any _).mono ?_; rintro e w9 ⟨rfl, b9⟩; (try simp only [World.drewN_zero] at b9); have B9 := Lib.hid (bel_then B8.out b9); clear b9) | (go_at_call 52; refine (same_not _).mono ?_; rintro e w' ⟨rfl, rfl⟩))
      go_ret
      exact ⟨rfl, B9.out⟩
  · go_upto_region 15 with fail
    go_upto_region 16 with (go_at_call 33; refine (b10At_0 _ _ _ 200 _ b1.out (by omega) (by omega)).mono ?_; rintro e w' ⟨k, hk, rfl, rfl⟩; have x1 := fun w => fval_some (eighth_ws k hk) w; have x2 := fN_some (eighth_ws k hk))
    clear x1 x2
    go_upto_region 17 with (go_at_call 33; refine (b10At_1 _ _ _ 200 _ b1.out (by omega) (by omega)).mono ?_; rintro e w' ⟨l, hl, rfl, rfl⟩; have x1 := fun w => fval_some (eighth_ws l hl) w; have x2 := fN_some (eighth_ws l hl))
    clear x1 x2
    have hp : (k + 1) * (l + 1) ≤ 200 * 200 := Nat.mul_le_mul (by omega) (by omega)
    have hp0 : 0 < (k + 1) * (l + 1) := Nat.mul_pos (by omega) (by omega)
    have sm := ws_mul (n := k + 1) (m := l + 1) (by omega) (by omega) (by omega) (by omega)
    obtain ⟨ta, hTa, cA⟩ := ten_tab (8 * (k + 1)) (by omega) (by omega)
    obtain ⟨tb, hTb, cB⟩ := ten_tab (8 * (l + 1)) (by omega) (by omega)
    obtain ⟨tc, hTc, cC⟩ := ten_tab ((k + 1) * (l + 1)) hp0 (by omega)
    obtain ⟨⟨f1, f2⟩, ⟨f3, f4⟩, ⟨f5, f6⟩, f7, f8⟩ := tenths_three hk hl hTa hTb hTc
    have s1 := fun w => fval_some sm w
    have s2 := fN_some sm
    clear hTa hTb hTc sm hp hp0
    have cA := Lib.hid cA
    have cB := Lib.hid cB
    have cC := Lib.hid cC
    generalize ws (8 * (k + 1)) = X at *
    generalize ws (8 * (l + 1)) = Y at *
    generalize ws ((k + 1) * (l + 1)) = Z at *
    go_upto_region 18 with (go_at_call 44; refine (cA.out _).mono ?_; rintro e w5 ⟨rfl, b5⟩; (try simp only [World.drewN_zero] at b5); have B5 := Lib.hid (bel_then B4.out b5); clear b5)
    go_upto_region 19 with (go_at_call 44; refine (cB.out _).mono ?_; rintro e w6 ⟨rfl, b6⟩; (try simp only [World.drewN_zero] at b6); have B6 := Lib.hid (bel_then B5.out b6); clear b6)
    go_upto_region 20 with (go_at_call 44; refine (cC.out _).mono ?_; rintro e w7 ⟨rfl, b7⟩; (try simp only [World.drewN_zero] at b7); have B7 := Lib.hid (bel_then B6.out b7); clear b7)
    clear s1 s2 cA cB cC
    go_upto_region 21 with (go_at_call 44; refine (one_ten _).mono ?_; rintro e w8 ⟨rfl, b8⟩; (try simp only [World.drewN_zero] at b8); have B8 := Lib.hid (bel_then B7.out b8); clear b8)
    go_wp2_with (first | (go_at_call 48; refine (unit_any _).mono ?_; rintro e w9 ⟨rfl, b9⟩; (try simp only [World.drewN_zero] at b9); have B9 := Lib.hid (bel_then B8.out b9); clear b9) | (go_at_call 52; refine (same_not _).mono ?_; rintro e w' ⟨rfl, rfl⟩))
    go_ret
    exact ⟨rfl, B9.out⟩
theorem walk (a0 : Option Addr) (n0 c0 : Nat) (z0 : List Int) (a1 : Option Addr) (n1 c1 : Nat) (z1 : List Int) (w : World) (w0 : IsRow .u8 w a0 n0 c0 z0) (w1 : IsRow .u8 w a1 n1 c1 z1) :
    Calls Try.prog 16 #[.slice a0 n0 c0, .slice a1 n1 c1] w fun e w' => e = .returned (.bool true) ∧ Below w.heap.size w w' := by
  by_cases hn : 1048576 < n0 ∨ 1048576 < n1
  · exact far a0 n0 c0 a1 n1 c1 w hn
  · exact near a0 n0 c0 a1 n1 c1 w (bytesC_of w0) (bytesC_of w1) (fun h => hn (.inl h)) (fun h => hn (.inr h))
end Go.Proofs.Ytopfeilfgbcihaa.fnCircles
