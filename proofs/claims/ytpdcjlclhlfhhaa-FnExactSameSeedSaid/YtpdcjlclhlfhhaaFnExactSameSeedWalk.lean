/- The walk of laws.FnExactSameSeed: it returns true and leaves what was there. -/
import Derived.Test.YtpdcjlclhlfhhaaSeedC
namespace Go.Proofs.Ytpdcjlclhlfhhaa.fnExactSameSeed
open Go.RowKit
set_option linter.unusedVariables false
theorem walk (k0 p0a p0b k1 p1a p1b : Int) (w : World) (wk0 : (Lit.int .i64 k0).wf = true) (wa0 : (Lit.int .u64 p0a).wf = true) (wb0 : (Lit.int .u64 p0b).wf = true) (wk1 : (Lit.int .i64 k1).wf = true) (wa1 : (Lit.int .u64 p1a).wf = true) (wb1 : (Lit.int .u64 p1b).wf = true) :
    Calls Try.prog 5 #[.agg #[.int .i64 k0, .int .u64 p0a, .int .u64 p0b], .agg #[.int .i64 k1, .int .u64 p1a, .int .u64 p1b]] w fun e w' => e = .returned (.bool true) ∧ Below w.heap.size w w' := by
  clear wk0 wa0 wb0 wk1 wa1 wb1
  go_enter Try.func5, Try.ntmps5
  go_wp2
  have hs := seeds2_start k0 p0a p0b k1 p1a p1b w 27 27
  generalize ((w.alloc (Obj.cells #[.int .i64 k0, .int .u64 p0a, .int .u64 p0b] 27)).alloc (Obj.cells #[.int .i64 k1, .int .u64 p1a, .int .u64 p1b] 27)) = W at *
  go_region_held3 (fun w' => w'.cell? ⟨w.heap.size, 0, none⟩ = some (.int .i64 k0) ∧ w'.cell? ⟨w.heap.size, 1, none⟩ = some (.int .u64 p0a) ∧ w'.cell? ⟨w.heap.size, 2, none⟩ = some (.int .u64 p0b) ∧ w'.cell? ⟨w.heap.size + 1, 0, none⟩ = some (.int .i64 k1) ∧ w'.cell? ⟨w.heap.size + 1, 1, none⟩ = some (.int .u64 p1a) ∧ w'.cell? ⟨w.heap.size + 1, 2, none⟩ = some (.int .u64 p1b) ∧ Two w w.heap.size w') (first | exact seeds2_drew (by assumption) | exact seeds2_step (by assumption) (by assumption))
    (first | (go_at_call 14; refine (toSeed_any _ _ _ _).mono ?_; rintro e w1 ⟨rfl, hb⟩) | (go_at_call 13; refine (specSameSeed_any _ _ _ _ _ _ _).mono ?_; rintro e w1 ⟨rfl, hb⟩))
  go_wp2
  go_region_held3 (fun w' => w'.cell? ⟨w.heap.size, 0, none⟩ = some (.int .i64 k0) ∧ w'.cell? ⟨w.heap.size, 1, none⟩ = some (.int .u64 p0a) ∧ w'.cell? ⟨w.heap.size, 2, none⟩ = some (.int .u64 p0b) ∧ w'.cell? ⟨w.heap.size + 1, 0, none⟩ = some (.int .i64 k1) ∧ w'.cell? ⟨w.heap.size + 1, 1, none⟩ = some (.int .u64 p1a) ∧ w'.cell? ⟨w.heap.size + 1, 2, none⟩ = some (.int .u64 p1b) ∧ Two w w.heap.size w') (first | exact seeds2_drew (by assumption) | exact seeds2_step (by assumption) (by assumption))
    (first | (go_at_call 14; refine (toSeed_any _ _ _ _).mono ?_; rintro e w1 ⟨rfl, hb⟩) | (go_at_call 15; refine (implSameSeed_any _ _ _ _ _ _ _).mono ?_; rintro e w1 ⟨rfl, hb⟩))
  go_wp2
  all_goals (go_ret; exact ⟨by simp, (show Seeds2 k0 p0a p0b k1 p1a p1b w w.heap.size _ by assumption).2.2.2.2.2.2.bel⟩)
end Go.Proofs.Ytpdcjlclhlfhhaa.fnExactSameSeed
