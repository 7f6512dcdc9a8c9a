/- The walk of laws.FnExactBelowSeed: it returns true and leaves what was there. -/
import Derived.Test.YtlaelfaalgmicaaBelowC
namespace Go.Proofs.Ytlaelfaalgmicaa.fnExactBelowSeed
open Go.RowKit
set_option linter.unusedVariables false
set_option maxHeartbeats 800000 in
theorem core (k a b t : Int) (w : World) (hb : 0 ≤ b) (K A B' D : Int) (ok : Bool) (ho : beOut k a b t = .tuple #[.agg #[.int .i64 K, .int .u64 A, .int .u64 B'], .int .i64 D, .bool ok]) :
    Calls Try.prog 8 #[.agg #[.int .i64 k, .int .u64 a, .int .u64 b], .int .i64 t] w fun e w' => e = .returned (.bool true) ∧ Below w.heap.size w w' := by
  have cs := fun w0 => specBelow_any k a b t w0 hb
  have ci := fun w0 => implBelow_any k a b t w0 hb
  rw [ho] at cs ci
  clear ho
  go_enter Try.func8, Try.ntmps8
  go_upto_region 1 with fail
  have hS := At3.new w k a b 27
  have hw : Below w.heap.size w (w.alloc (.cells #[.int .i64 k, .int .u64 a, .int .u64 b] 27)) := (Below.refl _ _).alloc (Nat.le_refl _) _
  generalize (w.alloc (.cells #[.int .i64 k, .int .u64 a, .int .u64 b] 27)) = W at *
  generalize hB : w.heap.size = B at *
  have ⟨p0, p1, p2, lo⟩ := hS
  go_upto_region 2 with (first
    | (go_at_call 21; refine (toSeed_any _ _ _ _).mono ?_; rintro e w1 ⟨rfl, h1⟩; replace hw := hw.trans (h1.mono (by omega)); replace hS := hS.step h1)
    | (go_at_call 31; refine (cs _).mono ?_; rintro e w2 ⟨rfl, h2⟩; replace hw := hw.trans (h2.mono (Nat.le_of_lt hS.lo)); replace hS := hS.step h2))
  clear p0 p1 p2 lo
  have hT := At3.new w2 K A B' 29
  replace hS := hS.alloc (.cells #[.int .i64 K, .int .u64 A, .int .u64 B'] 29)
  replace hw := hw.alloc (by have := hw.size; omega) (.cells #[.int .i64 K, .int .u64 A, .int .u64 B'] 29)
  generalize w2.heap.size = C at *
  generalize w2.alloc (.cells #[.int .i64 K, .int .u64 A, .int .u64 B'] 29) = V at *
  have ⟨p0, p1, p2, lo⟩ := hS
  go_upto_region 3 with (first
    | (go_at_call 21; refine (toSeed_any _ _ _ _).mono ?_; rintro e w3 ⟨rfl, h3⟩; replace hw := hw.trans (h3.mono (Nat.le_of_lt hS.lo)); replace hS := hS.step h3; replace hT := hT.step h3)
    | (go_at_call 32; refine (ci _).mono ?_; rintro e w4 ⟨rfl, h4⟩; replace hw := hw.trans (h4.mono (Nat.le_of_lt hS.lo)); replace hS := hS.step h4; replace hT := hT.step h4))
  clear p0 p1 p2 lo
  have hU := At3.new w4 K A B' 29
  replace hT := hT.alloc (.cells #[.int .i64 K, .int .u64 A, .int .u64 B'] 29)
  replace hw := hw.alloc (by have := hS.lo; omega) (.cells #[.int .i64 K, .int .u64 A, .int .u64 B'] 29)
  have hlo : B ≤ (w4.alloc (.cells #[.int .i64 K, .int .u64 A, .int .u64 B'] 29)).heap.size := by have := hS.lo; simp; omega
  clear hS
  generalize w4.heap.size = E at *
  generalize w4.alloc (.cells #[.int .i64 K, .int .u64 A, .int .u64 B'] 29) = V' at *
  have ⟨p0, p1, p2, lo⟩ := hT
  have ⟨q0, q1, q2, hi⟩ := hU
  go_wp2_with (first
    | (go_at_call 25; refine (eqSeed_any _ _ _ _ _ _ _).mono ?_; rintro e w5 ⟨rfl, h5⟩; replace hw := hw.trans (h5.mono hlo); simp only [and_self, decide_true]))
  all_goals (go_ret; exact ⟨rfl, hB ▸ hw⟩)
theorem walk (k a b t : Int) (w : World) (wk : (Lit.int .i64 k).wf = true) (wa : (Lit.int .u64 a).wf = true) (wb : (Lit.int .u64 b).wf = true) (wt : (Lit.int .i64 t).wf = true) :
    Calls Try.prog 8 #[.agg #[.int .i64 k, .int .u64 a, .int .u64 b], .int .i64 t] w fun e w' => e = .returned (.bool true) ∧ Below w.heap.size w w' := by
  have hb : 0 ≤ b := by simp [Lit.wf, IntKind.min, IntKind.max, IntKind.signed] at wb; omega
  clear wk wa wb wt
  cases ho : (valB k a b && inB t 1 4294967296 && (bel (mostOf t) t k 64 a b).2.2.2)
  · exact core k a b t w hb 0 0 0 0 false (beOut_false k a b t ho)
  · exact core k a b t w hb _ _ _ _ true (beOut_true k a b t ho)
end Go.Proofs.Ytlaelfaalgmicaa.fnExactBelowSeed
