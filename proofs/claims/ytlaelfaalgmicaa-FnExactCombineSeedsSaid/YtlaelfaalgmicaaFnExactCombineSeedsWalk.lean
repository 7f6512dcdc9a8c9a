/- The walk of laws.FnExactCombineSeeds: it returns true and leaves what was there. -/
import Derived.Test.YtlaelfaalgmicaaComb5C
namespace Go.Proofs.Ytlaelfaalgmicaa.fnExactCombineSeeds
open Go.RowKit
set_option linter.unusedVariables false
/-- Since V nothing below has been written. -/
structure TwoV (w : World) (B : Nat) (V w' : World) : Prop where
  two : Two w B w'
  fv : Below V.heap.size V w'
abbrev S2V (k a b k' a' b' : Int) (w : World) (B : Nat) (V w' : World) : Prop :=
  w'.cell? ⟨B, 0, none⟩ = some (.int .i64 k) ∧ w'.cell? ⟨B, 1, none⟩ = some (.int .u64 a) ∧ w'.cell? ⟨B, 2, none⟩ = some (.int .u64 b) ∧
  w'.cell? ⟨B + 1, 0, none⟩ = some (.int .i64 k') ∧ w'.cell? ⟨B + 1, 1, none⟩ = some (.int .u64 a') ∧ w'.cell? ⟨B + 1, 2, none⟩ = some (.int .u64 b') ∧ TwoV w B V w'
theorem S2V.seeds {k a b k' a' b' : Int} {w : World} {B : Nat} {V w' : World} (h : S2V k a b k' a' b' w B V w') : Seeds2 k a b k' a' b' w B w' :=
  ⟨h.1, h.2.1, h.2.2.1, h.2.2.2.1, h.2.2.2.2.1, h.2.2.2.2.2.1, h.2.2.2.2.2.2.two⟩
theorem S2V.start {k a b k' a' b' : Int} {w : World} {B : Nat} {V : World} (h : Seeds2 k a b k' a' b' w B V) : S2V k a b k' a' b' w B V V :=
  ⟨h.1, h.2.1, h.2.2.1, h.2.2.2.1, h.2.2.2.2.1, h.2.2.2.2.2.1, ⟨h.2.2.2.2.2.2, Below.refl _ _⟩⟩
theorem S2V.step {k a b k' a' b' : Int} {w : World} {B : Nat} {V w' w1 : World} (h : S2V k a b k' a' b' w B V w') (hb : Below w'.heap.size w' w1) : S2V k a b k' a' b' w B V w1 := by
  have s := seeds2_step h.seeds hb
  exact ⟨s.1, s.2.1, s.2.2.1, s.2.2.2.1, s.2.2.2.2.1, s.2.2.2.2.2.1, ⟨s.2.2.2.2.2.2, bel_next h.2.2.2.2.2.2.fv hb⟩⟩
theorem S2V.drew {k a b k' a' b' : Int} {w : World} {B : Nat} {V w' : World} (h : S2V k a b k' a' b' w B V w') : S2V k a b k' a' b' w B V w'.drew := h.step (Below.refl _ _).drew
theorem S2V.close {k a b k' a' b' : Int} {w : World} {B : Nat} {V w' w1 : World} {aW : Option Addr} {N cW : Nat} {f : Nat → Value} (h : S2V k a b k' a' b' w B V w') (hn : NewS w' aW N cW f w1) : ∃ lo hi, SOwn w1 lo hi aW N cW f ∧ V.heap.size ≤ lo ∧ hi ≤ w1.heap.size :=
  ⟨_, _, hn.own, h.2.2.2.2.2.2.fv.size, Nat.le_refl _⟩
theorem seeds2_chg {k a b k' a' b' : Int} {w : World} {w' w1 : World} {lo hi : Nat} (h : Seeds2 k a b k' a' b' w w.heap.size w') (c : Chg lo hi w' w1) (hl : w.heap.size + 2 ≤ lo) : Seeds2 k a b k' a' b' w w.heap.size w1 := by
  have t := h.2.2.2.2.2.2
  have z := t.big
  have e : ∀ P o, P < w.heap.size + 2 → w1.cell? ⟨P, o, none⟩ = w'.cell? ⟨P, o, none⟩ := fun P o hP => World.cell?_of_block (w := w') (c.oth P (by omega) (.inl (by omega)))
  exact ⟨(e _ _ (by omega)).trans h.1, (e _ _ (by omega)).trans h.2.1, (e _ _ (by omega)).trans h.2.2.1, (e _ _ (by omega)).trans h.2.2.2.1, (e _ _ (by omega)).trans h.2.2.2.2.1, (e _ _ (by omega)).trans h.2.2.2.2.2.1, ⟨c.bel t.bel (by omega), by have := c.size; omega⟩⟩
set_option maxHeartbeats 2000000 in
theorem core (k a b k' a' b' n : Int) (w : World) (N : Nat) (hN : N ≤ 1048576) (ok : Bool) (z : Nat → Int)
    (cs : ∀ w, Calls Try.prog 33 #[.agg #[.int .i64 k, .int .u64 a, .int .u64 b], .agg #[.int .i64 k', .int .u64 a', .int .u64 b'], .int .i64 n] w (OutS N ok (kI z) w))
    (ci : ∀ w, Calls Try.prog 34 #[.agg #[.int .i64 k, .int .u64 a, .int .u64 b], .agg #[.int .i64 k', .int .u64 a', .int .u64 b'], .int .i64 n] w (OutS N ok (kI z) w)) :
    Calls Try.prog 9 #[.agg #[.int .i64 k, .int .u64 a, .int .u64 b], .agg #[.int .i64 k', .int .u64 a', .int .u64 b'], .int .i64 n] w fun e w' => e = .returned (.bool true) ∧ Below w.heap.size w w' := by
  have CS := Lib.hid cs
  have CI := Lib.hid ci
  clear cs ci
  go_enter Try.func9, Try.ntmps9
  go_upto_region 1 with fail
  have hs := seeds2_start k a b k' a' b' w 27 27
  generalize ((w.alloc (Obj.cells #[.int .i64 k, .int .u64 a, .int .u64 b] 27)).alloc (Obj.cells #[.int .i64 k', .int .u64 a', .int .u64 b'] 27)) = V at *
  go_cut [7, 8] (fun sa sb wx => ∃ wz, wz = wx ∧ ∃ aX cX lo hi, sa = .slice aX N cX ∧ sb = .bool ok ∧ S2V k a b k' a' b' w w.heap.size V wz ∧ SOwn wz lo hi aX N cX (kI z) ∧ V.heap.size ≤ lo ∧ hi ≤ wz.heap.size)
  case first =>
    have hv := S2V.start hs
    clear hs
    go_region_held3 (fun w' => w'.cell? ⟨w.heap.size, 0, none⟩ = some (.int .i64 k) ∧ w'.cell? ⟨w.heap.size, 1, none⟩ = some (.int .u64 a) ∧ w'.cell? ⟨w.heap.size, 2, none⟩ = some (.int .u64 b) ∧ w'.cell? ⟨w.heap.size + 1, 0, none⟩ = some (.int .i64 k') ∧ w'.cell? ⟨w.heap.size + 1, 1, none⟩ = some (.int .u64 a') ∧ w'.cell? ⟨w.heap.size + 1, 2, none⟩ = some (.int .u64 b') ∧ TwoV w w.heap.size V w') (first | exact S2V.drew (by assumption) | exact S2V.step (by assumption) (by assumption))
      (first | (go_at_call 21; refine (toSeed_any _ _ _ _).mono ?_; rintro e w1 ⟨rfl, hb⟩) | (go_at_call 33; refine (CS.out _).mono ?_; rintro e w1 ⟨aX, cX, rfl, hn⟩; have hC := S2V.close (by assumption) hn; have hb := hn.bel))
    all_goals
      obtain ⟨lo, hi, hX, hl, hh⟩ := hC
      go_wp2_with fail
      go_meet
      exact ⟨_, rfl, aX, cX, lo, hi, rfl, rfl, by assumption, hX, hl, hh⟩
  case rest =>
  obtain ⟨VW, rfl, aW, cW, loW, hiW, rfl, rfl, hW, OW, lW, uW⟩ := hcut
  have big1 := hW.2.2.2.2.2.2.two.big
  have hs := hW.seeds
  clear hW lW CS
  go_upto_region 2 with fail
  go_cut [9, 10] (fun sa sb wx => ∃ wz, wz = wx ∧ ∃ aX cX lo hi, sa = .slice aX N cX ∧ sb = .bool ok ∧ S2V k a b k' a' b' w w.heap.size VW wz ∧ SOwn wz lo hi aX N cX (kI z) ∧ VW.heap.size ≤ lo ∧ hi ≤ wz.heap.size)
  case first =>
    have hv := S2V.start hs
    clear hs
    go_region_held3 (fun w' => w'.cell? ⟨w.heap.size, 0, none⟩ = some (.int .i64 k) ∧ w'.cell? ⟨w.heap.size, 1, none⟩ = some (.int .u64 a) ∧ w'.cell? ⟨w.heap.size, 2, none⟩ = some (.int .u64 b) ∧ w'.cell? ⟨w.heap.size + 1, 0, none⟩ = some (.int .i64 k') ∧ w'.cell? ⟨w.heap.size + 1, 1, none⟩ = some (.int .u64 a') ∧ w'.cell? ⟨w.heap.size + 1, 2, none⟩ = some (.int .u64 b') ∧ TwoV w w.heap.size VW w') (first | exact S2V.drew (by assumption) | exact S2V.step (by assumption) (by assumption))
      (first | (go_at_call 21; refine (toSeed_any _ _ _ _).mono ?_; rintro e w1 ⟨rfl, hb⟩) | (go_at_call 34; refine (CI.out _).mono ?_; rintro e w1 ⟨aX, cX, rfl, hn⟩; have hC := S2V.close (by assumption) hn; have hb := hn.bel))
    all_goals
      obtain ⟨lo, hi, hX, hl, hh⟩ := hC
      go_wp2_with fail
      go_meet
      exact ⟨_, rfl, aX, cX, lo, hi, rfl, rfl, by assumption, hX, hl, hh⟩
  case rest =>
  obtain ⟨VG, rfl, aG, cG, loG, hiG, rfl, rfl, hG, OG, lG, uG⟩ := hcut
  have W2 := OW.bel hG.2.2.2.2.2.2.fv
  have hs := hG.seeds
  clear hG OW
  go_wp2_with fail
  refine (eqInts_bel aG aW N cG cW z _ OG.sin.ints W2.sin.ints hN).mono ?_
  rintro e w5 ⟨rfl, b5⟩
  have S5 := seeds2_step hs b5
  have W5 := W2.bel b5
  have G5 := OG.bel b5
  clear hs W2 OG b5
  go_wp2_with fail
  refine (markInts_own _ _ _ N _ z 1 _ G5 hN (by omega) (by omega)).mono ?_
  rintro e w6 ⟨rfl, c6, g6⟩
  have S6 := seeds2_chg S5 c6 (by omega)
  have W6 := W5.chg c6 (.inl (by omega))
  clear S5 W5 G5 c6
  go_wp2_with fail
  refine (heldInts_bel aG N cG 1 _ g6.ints hN (by omega) (by omega)).mono ?_
  rintro e w7 ⟨rfl, b7⟩
  have hs := seeds2_step S6 b7
  have W7 := W6.bel b7
  have g7 := g6.bel b7
  clear S6 W6 g6 b7
  go_upto_region 13 with fail
  go_cut [13, 14] (fun sa sb wx => ∃ wz, wz = wx ∧ ∃ aX cX lo hi, sa = .slice aX N cX ∧ sb = .bool ok ∧ S2V k a b k' a' b' w w.heap.size w7 wz ∧ SOwn wz lo hi aX N cX (kI z) ∧ w7.heap.size ≤ lo ∧ hi ≤ wz.heap.size)
  case first =>
    have hv := S2V.start hs
    clear hs
    go_region_held3 (fun w' => w'.cell? ⟨w.heap.size, 0, none⟩ = some (.int .i64 k) ∧ w'.cell? ⟨w.heap.size, 1, none⟩ = some (.int .u64 a) ∧ w'.cell? ⟨w.heap.size, 2, none⟩ = some (.int .u64 b) ∧ w'.cell? ⟨w.heap.size + 1, 0, none⟩ = some (.int .i64 k') ∧ w'.cell? ⟨w.heap.size + 1, 1, none⟩ = some (.int .u64 a') ∧ w'.cell? ⟨w.heap.size + 1, 2, none⟩ = some (.int .u64 b') ∧ TwoV w w.heap.size w7 w') (first | exact S2V.drew (by assumption) | exact S2V.step (by assumption) (by assumption))
      (first | (go_at_call 21; refine (toSeed_any _ _ _ _).mono ?_; rintro e w1 ⟨rfl, hb⟩) | (go_at_call 34; refine (CI.out _).mono ?_; rintro e w1 ⟨aX, cX, rfl, hn⟩; have hC := S2V.close (by assumption) hn; have hb := hn.bel))
    all_goals
      obtain ⟨lo, hi, hX, hl, hh⟩ := hC
      go_wp2_with fail
      go_meet
      exact ⟨_, rfl, aX, cX, lo, hi, rfl, rfl, by assumption, hX, hl, hh⟩
  case rest =>
  obtain ⟨VA, rfl, aA, cA, loA, hiA, rfl, rfl, hA, OA, lA, uA⟩ := hcut
  have W8 := W7.bel hA.2.2.2.2.2.2.fv
  have g8 := g7.bel hA.2.2.2.2.2.2.fv
  have B8 := hA.2.2.2.2.2.2.two.bel
  clear hA W7 g7
  go_wp2_with fail
  refine (eqInts_bel aA aW N cA cW z _ OA.sin.ints W8.sin.ints hN).mono ?_
  rintro e w9 ⟨rfl, b9⟩
  have g9 := g8.bel b9
  have B9 := bel_next B8 b9
  go_wp2_with fail
  refine (heldInts_bel aG N cG 1 _ g9.ints hN (by omega) (by omega)).mono ?_
  rintro e w10 ⟨rfl, b10⟩
  have B10 := bel_next B9 b10
  go_wp2_with fail
  go_ret
  exact ⟨rfl, B10⟩
theorem walk (k a b k' a' b' n : Int) (w : World) (wk0 : (Lit.int .i64 k).wf = true) (wa0 : (Lit.int .u64 a).wf = true) (wb0 : (Lit.int .u64 b).wf = true) (wk1 : (Lit.int .i64 k').wf = true) (wa1 : (Lit.int .u64 a').wf = true) (wb1 : (Lit.int .u64 b').wf = true) (w2 : (Lit.int .i64 n).wf = true) :
    Calls Try.prog 9 #[.agg #[.int .i64 k, .int .u64 a, .int .u64 b], .agg #[.int .i64 k', .int .u64 a', .int .u64 b'], .int .i64 n] w fun e w' => e = .returned (.bool true) ∧ Below w.heap.size w w' := by
  have hb : 0 ≤ b := by simp [Lit.wf, IntKind.min, IntKind.max, IntKind.signed] at wb0; omega
  have hb' : 0 ≤ b' := by simp [Lit.wf, IntKind.min, IntKind.max, IntKind.signed] at wb1; omega
  clear wk0 wa0 wb0 wk1 wa1 wb1 w2
  by_cases h : valB k a b = true ∧ inR n 0 256 = true ∧ valB k' a' b' = true
  · obtain ⟨h1, h2, h3⟩ := h
    have ⟨g1, g2⟩ := inR_of h2
    obtain ⟨N, rfl⟩ := Int.eq_ofNat_of_zero_le g1
    exact core k a b k' a' b' N w N (by omega) true _ (fun w => specComb_yes k a b k' a' b' N w hb hb' h1 h3 (by omega)) (fun w => implComb_yes k a b k' a' b' N w hb hb' h1 h3 (by omega))
  · have hn : valB k a b = true → inR n 0 256 = true → valB k' a' b' = false := fun p q => by
      cases hq : valB k' a' b' with
      | false => rfl
      | true => exact absurd ⟨p, q, hq⟩ h
    exact core k a b k' a' b' n w 0 (by omega) false _ (fun w => specComb_no k a b k' a' b' n w hb hb' hn) (fun w => implComb_no k a b k' a' b' n w hb hb' hn)
end Go.Proofs.Ytlaelfaalgmicaa.fnExactCombineSeeds
