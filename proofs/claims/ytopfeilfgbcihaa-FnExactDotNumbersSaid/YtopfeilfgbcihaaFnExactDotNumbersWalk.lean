/- The walk of laws.FnExactDotNumbers: it returns true and leaves what was there. -/
import Derived.Test.YtopfeilfgbcihaaFlC
namespace Go.Proofs.Ytopfeilfgbcihaa.fnExactDotNumbers
open Go.RowKit
set_option linter.unusedVariables false
set_option maxHeartbeats 800000 in
theorem walk (a0 : Option Addr) (len0 cap0 : Nat) (z0 : Nat → Nat) (a1 : Option Addr) (len1 cap1 : Nat) (z1 : Nat → Nat) (w : World) (w0 : IsRowF .f32 w a0 len0 cap0 z0) (w1 : IsRowF .f32 w a1 len1 cap1 z1) : Calls Try.prog 6 #[.slice a0 len0 cap0, .slice a1 len1 cap1] w fun e w' => e = .returned (.bool true) ∧ Below w.heap.size w w' := by
  have hA := Lib.hid (isRow_els w0)
  have hB := Lib.hid (isRow_els w1)
  clear w0 w1
  by_cases hn : len0 ≤ 1048576
  · have hn' : ¬ 1048576 < len0 := by omega
    by_cases hm : len1 ≤ 1048576
    · have hm' : ¬ 1048576 < len1 := by omega
      go_enter Try.func6, Try.ntmps6
      go_wp2_with fail
      refine (toFloats_any a0 len0 cap0 z0 _ hA.out hn).mono ?_
      rintro e v1 ⟨rfl, hb1, hs1, hf1⟩
      have HF1 := Lib.hid hf1
      clear hf1 hs1
      go_wp2_with fail
      refine (toFloats_any a1 len1 cap1 z1 _ (hB.out.later hb1) hm).mono ?_
      rintro e v2 ⟨rfl, hb2, hs2, hf2⟩
      have HF2 := Lib.hid hf2
      have B2 : Below w.heap.size w v2 := hb1.trans (hb2.mono hb1.size)
      clear hf2 hs2
      go_wp2_with fail
      refine (specDot_any _ _ len0 len1 len0 len1 z0 z1 _ (HF1.out.later hb2) HF2.out hn hm).mono ?_
      rintro e v3 ⟨r, m, hr, rfl, rfl⟩
      have HR := Lib.hid hr
      clear hr
      go_wp2_with fail
      have D2 : ∀ q, Below w.heap.size w (v2.drewN q) := fun q => B2.trans (bel_drewN v2 q |>.mono B2.size)
      refine (toFloats_any a0 len0 cap0 z0 _ (hA.out.later (D2 _)) hn).mono ?_
      rintro e v4 ⟨rfl, hb4, hs4, hf4⟩
      have HF4 := Lib.hid hf4
      have B4 : Below w.heap.size w v4 := (D2 _).trans (hb4.mono B2.size)
      clear hf4 hs4
      go_wp2_with fail
      refine (toFloats_any a1 len1 cap1 z1 _ (hB.out.later B4) hm).mono ?_
      rintro e v5 ⟨rfl, hb5, hs5, hf5⟩
      have HF5 := Lib.hid hf5
      have B5 : Below w.heap.size w v5 := B4.trans (hb5.mono B4.size)
      clear hf5 hs5
      go_wp2_with fail
      have HF45 := Lib.hid (HF4.out.later hb5)
      refine (implDot_any _ _ len0 len1 len0 len1 z0 z1 _ HF45.out HF5.out hn hm).mono ?_
      rintro e v6 ⟨r', m', hr', rfl, rfl⟩
      have HR' := Lib.hid hr'
      clear hr'
      go_wp2_with fail
      refine (sameWide r' r _ _ _ (by rw [HR.out, HR'.out])).mono ?_
      rintro e v7 ⟨rfl, m7, rfl⟩
      go_wp2_with fail
      have D5 : ∀ q, Below w.heap.size w (v5.drewN q) := fun q => B5.trans (bel_drewN v5 q |>.mono B5.size)
      refine (toFloats_any a0 len0 cap0 z0 _ (hA.out.later (D5 _)) hn).mono ?_
      rintro e v8 ⟨rfl, hb8, hs8, hf8⟩
      have HF8 := Lib.hid hf8
      have B8 : Below w.heap.size w v8 := (D5 _).trans (hb8.mono B5.size)
      have HF58 := Lib.hid ((HF5.out.later (bel_drewN v5 _)).later hb8)
      clear hf8 hs8
      go_wp2_with fail
      refine (eqFloats_any _ _ len0 len0 len0 z0 _ ((HF45.out.later (bel_drewN v5 _)).later hb8) HF8.out hn).mono ?_
      rintro e v9 ⟨rfl, m9, rfl⟩
      go_wp2_with fail
      have D8 : ∀ q, Below w.heap.size w (v8.drewN q) := fun q => B8.trans (bel_drewN v8 q |>.mono B8.size)
      refine (toFloats_any a1 len1 cap1 z1 _ (hB.out.later (D8 _)) hm).mono ?_
      rintro e v10 ⟨rfl, hb10, hs10, hf10⟩
      have HF10 := Lib.hid hf10
      have B10 : Below w.heap.size w v10 := (D8 _).trans (hb10.mono B8.size)
      clear hf10 hs10
      go_wp2_with fail
      refine (eqFloats_any _ _ len1 len1 len1 z1 _ ((HF58.out.later (bel_drewN v8 _)).later hb10) HF10.out hm).mono ?_
      rintro e v11 ⟨rfl, m11, rfl⟩
      go_wp2_with fail
      go_ret
      exact ⟨rfl, B10.trans (bel_drewN v10 _ |>.mono B10.size)⟩
    · have hm' : 1048576 < len1 := by omega
      go_enter Try.func6, Try.ntmps6
      go_wp2_with fail
      go_ret
      exact ⟨rfl, Below.refl _ _⟩
  · have hn' : 1048576 < len0 := by omega
    go_enter Try.func6, Try.ntmps6
    go_wp2_with fail
    go_ret
    exact ⟨rfl, Below.refl _ _⟩
end Go.Proofs.Ytopfeilfgbcihaa.fnExactDotNumbers
