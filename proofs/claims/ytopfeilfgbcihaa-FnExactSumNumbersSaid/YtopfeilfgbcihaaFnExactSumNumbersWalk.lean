/- The walk of laws.FnExactSumNumbers: it returns true and leaves what was there. -/
import Derived.Test.YtopfeilfgbcihaaFlC
namespace Go.Proofs.Ytopfeilfgbcihaa.fnExactSumNumbers
open Go.RowKit
set_option linter.unusedVariables false
set_option maxHeartbeats 400000 in
theorem walk (a0 : Option Addr) (len0 cap0 : Nat) (z0 : Nat → Nat) (w : World) (w0 : IsRowF .f32 w a0 len0 cap0 z0) : Calls Try.prog 7 #[.slice a0 len0 cap0] w fun e w' => e = .returned (.bool true) ∧ Below w.heap.size w w' := by
  have hA := Lib.hid (isRow_els w0)
  clear w0
  by_cases hn : len0 ≤ 1048576
  · have hn' : ¬ 1048576 < len0 := by omega
    go_enter Try.func7, Try.ntmps7
    go_wp2_with fail
    refine (toFloats_any a0 len0 cap0 z0 _ hA.out hn).mono ?_
    rintro e w1 ⟨rfl, hb1, hs1, hf1⟩
    have HF1 := Lib.hid hf1
    clear hf1 hs1
    go_wp2_with fail
    refine (specSum_any _ len0 len0 z0 _ HF1.out hn).mono ?_
    rintro e w2 ⟨r, m, hr, rfl, rfl⟩
    have HR := Lib.hid hr
    clear hr
    go_wp2_with fail
    have B2 : Below w.heap.size w (w1.drewN m) := hb1.trans (bel_drewN w1 m |>.mono hb1.size)
    refine (toFloats_any a0 len0 cap0 z0 _ (hA.out.later B2) hn).mono ?_
    rintro e w3 ⟨rfl, hb3, hs3, hf3⟩
    have HF3 := Lib.hid hf3
    have B3 : Below w.heap.size w w3 := B2.trans (hb3.mono hb1.size)
    clear hf3 hs3
    go_wp2_with fail
    refine (implSum_any _ len0 len0 z0 _ HF3.out hn).mono ?_
    rintro e w4 ⟨r', m', hr', rfl, rfl⟩
    have HR' := Lib.hid hr'
    clear hr'
    go_wp2_with fail
    refine (sameWide r' r _ _ _ (by rw [HR.out, HR'.out])).mono ?_
    rintro e w5 ⟨rfl, m5, rfl⟩
    go_wp2_with fail
    have B5 : ∀ q, Below w.heap.size w (w3.drewN q) := fun q => B3.trans (bel_drewN w3 q |>.mono B3.size)
    refine (toFloats_any a0 len0 cap0 z0 _ (hA.out.later (B5 _)) hn).mono ?_
    rintro e w6 ⟨rfl, hb6, hs6, hf6⟩
    have HF6 := Lib.hid hf6
    clear hf6 hs6
    have B6 : Below w.heap.size w w6 := (B5 _).trans (hb6.mono B3.size)
    go_wp2_with fail
    refine (eqFloats_any _ _ len0 len0 len0 z0 _ ((HF3.out.later (bel_drewN w3 _)).later hb6) HF6.out hn).mono ?_
    rintro e w7 ⟨rfl, m7, rfl⟩
    go_wp2_with fail
    go_ret
    exact ⟨rfl, B6.trans (bel_drewN w6 _ |>.mono B6.size)⟩
  · have hn' : 1048576 < len0 := by omega
    go_enter Try.func7, Try.ntmps7
    go_wp2_with fail
    go_ret
    exact ⟨rfl, Below.refl _ _⟩
end Go.Proofs.Ytopfeilfgbcihaa.fnExactSumNumbers
