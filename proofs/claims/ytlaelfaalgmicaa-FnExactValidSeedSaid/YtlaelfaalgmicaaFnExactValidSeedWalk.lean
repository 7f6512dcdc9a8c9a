/- The walk of laws.FnExactValidSeed: it returns true and leaves what was there. -/
import Derived.Test.YtlaelfaalgmicaaValidC
namespace Go.Proofs.Ytlaelfaalgmicaa.fnExactValidSeed
open Go.RowKit
set_option linter.unusedVariables false
set_option maxHeartbeats 400000 in
theorem walk (k0 p0a p0b : Int) (w : World) (wk0 : (Lit.int .i64 k0).wf = true) (wa0 : (Lit.int .u64 p0a).wf = true) (wb0 : (Lit.int .u64 p0b).wf = true) :
    Calls Try.prog 4 #[.agg #[.int .i64 k0, .int .u64 p0a, .int .u64 p0b]] w fun e w' => e = .returned (.bool true) ∧ Below w.heap.size w w' := by
  have hb : 0 ≤ p0b := by simp [Lit.wf, IntKind.min, IntKind.max, IntKind.signed] at wb0; omega
  clear wk0 wa0 wb0
  go_enter Try.func4, Try.ntmps4
  go_wp2_with fail
  refine (toSeed_any _ _ _ _).mono ?_
  rintro e w1 ⟨rfl, hb1⟩
  obtain ⟨hc1, hf1⟩ := bcell hb1
  have B1 : Below w.heap.size w w1 := ((Below.refl _ _).alloc (Nat.le_refl _) _).trans (hb1.mono (by simp))
  go_wp2_with fail
  refine (specValid_any _ _ _ _ hb).mono ?_
  rintro e w2 ⟨rfl, hb2⟩
  obtain ⟨hc2, hf2⟩ := bcell hb2
  have hz1 : w.heap.size < w1.heap.size := by have := hb1.size; simp at this; omega
  have B2 : Below w.heap.size w w2 := B1.trans (hb2.mono B1.size)
  go_wp2_with fail
  refine (toSeed_any _ _ _ _).mono ?_
  rintro e w3 ⟨rfl, hb3⟩
  have B3 : Below w.heap.size w w3 := B2.trans (hb3.mono B2.size)
  go_wp2_with fail
  refine (implValid_any _ _ _ _ hb).mono ?_
  rintro e w4 ⟨rfl, hb4⟩
  have B4 : Below w.heap.size w w4 := B3.trans (hb4.mono B3.size)
  go_wp2_with fail
  go_ret
  exact ⟨rfl, B4⟩
end Go.Proofs.Ytlaelfaalgmicaa.fnExactValidSeed
