/- The walk of laws.FnPowers: it returns true and leaves what was there. -/
import Derived.Test.YtopfeilfgbcihaaPowC
import Derived.Deep.DeepCutAuto
import Derived.Deep.QuietTactic
namespace Go.Proofs.Ytopfeilfgbcihaa.fnPowers
open Go.RowKit
set_option linter.unusedVariables false
theorem far (a0 : Option Addr) (n0 c0 : Nat) (a1 : Option Addr) (n1 c1 : Nat) (w : World) (hn : 1048576 < n0 ∨ 1048576 < n1) :
    Calls Try.prog 9 #[.slice a0 n0 c0, .slice a1 n1 c1] w fun e w' => e = .returned (.bool true) ∧ Below w.heap.size w w' := by
  by_cases h0 : 1048576 < n0
  · go_enter Try.func9, Try.ntmps9
    go_wp2
    go_ret
    exact ⟨rfl, Below.refl _ _⟩
  · have h1 : 1048576 < n1 := by omega
    go_enter Try.func9, Try.ntmps9
    go_wp2
    go_ret
    exact ⟨rfl, Below.refl _ _⟩
set_option maxHeartbeats 1000000 in
set_option maxRecDepth 20000 in
theorem near (a0 : Option Addr) (n0 c0 : Nat) (a1 : Option Addr) (n1 c1 : Nat) (w : World) (b0 : BytesIn w a0 n0) (b1 : BytesIn w a1 n1) (h0 : ¬ 1048576 < n0) (h1 : ¬ 1048576 < n1) :
    Calls Try.prog 9 #[.slice a0 n0 c0, .slice a1 n1 c1] w fun e w' => e = .returned (.bool true) ∧ Below w.heap.size w w' := by
  have b0 := Lib.hid b0
  have b1 := Lib.hid b1
  go_enter Try.func9, Try.ntmps9
  go_upto_region 4 with (first | (go_at_call 33; refine (b10At_zero _ _ _ 65 _ b0.out (by omega) (by omega)).mono ?_; rintro e w' ⟨i, hi, rfl, rfl⟩; obtain ⟨v1, q1⟩ := eighth i hi) | go_in)
  clear v1 q1
  go_upto_region 5 with (go_at_call 33; refine (b10At_zero _ _ _ 65 _ b1.out (by omega) (by omega)).mono ?_; rintro e w' ⟨j, hj, rfl, rfl⟩; obtain ⟨v2, q2⟩ := eighth j hj)
  clear v2 q2
  go_upto_region 6 with (go_at_call 31; refine (expNumber_tab (i + 32) (by omega) _).mono ?_; rintro e w' ⟨rfl, m1, rfl⟩)
  go_upto_region 7 with (go_at_call 31; refine (expNumber_tab (j + 32) (by omega) _).mono ?_; rintro e w' ⟨rfl, m2, rfl⟩)
  have s := sum_tab i hi j hj
  have v3 := fun w => fval_some s w
  have q3 := fN_some s
  clear s
  go_upto_region 8 with (go_at_call 31; refine (expNumber_tab (i + j) (by omega) _).mono ?_; rintro e w' ⟨rfl, m3, rfl⟩)
  clear v3 q3
  obtain ⟨_, x1, _, _, _, _, _, e1, p1, p2⟩ := okE_of (i + 32) (by omega)
  obtain ⟨_, _, _, _, _, _, _, e2, _, _⟩ := okE_of (j + 32) (by omega)
  obtain ⟨_, _, _, _, _, _, _, e3, _, _⟩ := okE_of (i + j) (by omega)
  have lt := l_tab i hi
  simp only [Bool.and_eq_true, beq_iff_eq] at lt
  obtain ⟨g1, hg1, t1⟩ := near_L i hi
  obtain ⟨p, g2, q, hp, hg2, hq, t2⟩ := near_P i hi j hj
  have vx := fun w => conv_is x1 w
  have nx := conv_N x1
  rw [lt.2] at vx
  have vl := fun w => conv_is lt.1.2 w
  have nl := conv_N lt.1.2
  have va := fun w => conv_is e1 w
  have na := conv_N e1
  have vb := fun w => conv_is e2 w
  have nb := conv_N e2
  have vc := fun w => conv_is e3 w
  have nc := conv_N e3
  have vp := fun w => fval_some hp w
  have np := fN_some hp
  have vq := fun w => fval_some hq w
  have nq := fN_some hq
  have t3 := gtr_pos ⟨p1, p2⟩
  have t4 := one_one
  have t5 := zero_zero
  have G1 := Lib.hid hg1
  have G2 := Lib.hid hg2
  clear hg1 hg2 x1 e1 e2 e3 lt hp hq p1 p2
  have HM := trivial
  have HE := trivial
  go_wp2_with (first
    | (go_at_call 34; clear HM; refine (gap_tab _ _ _ _ G1.out).mono ?_; rintro e w' ⟨rfl, rfl⟩)
    | (go_at_call 34; refine (gap_tab _ _ _ _ G2.out).mono ?_; rintro e w' ⟨rfl, rfl⟩)
    | (go_at_call 35; clear HE; refine (lnNumber_tab i hi _).mono ?_; rintro e w' ⟨rfl, m4, rfl⟩)
    | (go_at_call 35; refine (lnOne _).mono ?_; rintro e w' ⟨rfl, m5, rfl⟩)
    | (go_at_call 31; refine (expZero _).mono ?_; rintro e w' ⟨rfl, m6, rfl⟩))
  go_ret
  exact ⟨rfl, bel_drewN _ _⟩
theorem walk (a0 : Option Addr) (n0 c0 : Nat) (z0 : List Int) (a1 : Option Addr) (n1 c1 : Nat) (z1 : List Int) (w : World) (w0 : IsRow .u8 w a0 n0 c0 z0) (w1 : IsRow .u8 w a1 n1 c1 z1) :
    Calls Try.prog 9 #[.slice a0 n0 c0, .slice a1 n1 c1] w fun e w' => e = .returned (.bool true) ∧ Below w.heap.size w w' := by
  by_cases hn : 1048576 < n0 ∨ 1048576 < n1
  · exact far a0 n0 c0 a1 n1 c1 w hn
  · exact near a0 n0 c0 a1 n1 c1 w (bytesIn_of w0) (bytesIn_of w1) (fun h => hn (.inl h)) (fun h => hn (.inr h))
end Go.Proofs.Ytopfeilfgbcihaa.fnPowers
