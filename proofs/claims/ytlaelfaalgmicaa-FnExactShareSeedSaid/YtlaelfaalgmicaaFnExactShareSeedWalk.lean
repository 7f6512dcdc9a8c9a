/- The walk of laws.FnExactShareSeed: it returns true and leaves what was there. -/
import Derived.Test.YtlaelfaalgmicaaShareC
namespace Go.Proofs.Ytlaelfaalgmicaa.fnExactShareSeed
open Go.RowKit
set_option linter.unusedVariables false
set_option maxHeartbeats 800000 in
theorem core (k a b : Int) (w : World) (hb : 0 ≤ b) (K A B' : Int) (D : Nat) (ok : Bool) (ho : shOut k a b = .tuple #[.agg #[.int .i64 K, .int .u64 A, .int .u64 B'], .float .f32 D, .bool ok]) :
    Calls Try.prog 7 #[.agg #[.int .i64 k, .int .u64 a, .int .u64 b]] w fun e w' => e = .returned (.bool true) ∧ Below w.heap.size w w' := by
  have cs := fun w0 => specShare_any k a b w0 hb
  have ci := fun w0 => implShare_any k a b w0 hb
  rw [ho] at cs ci
  clear ho
  go_enter Try.func7, Try.ntmps7
  go_upto_region 1 with fail
  have hS := At3.new w k a b 27
  have hw : Below w.heap.size w (w.alloc (.cells #[.int .i64 k, .int .u64 a, .int .u64 b] 27)) := (Below.refl _ _).alloc (Nat.le_refl _) _
  generalize (w.alloc (.cells #[.int .i64 k, .int .u64 a, .int .u64 b] 27)) = W at *
  generalize hB : w.heap.size = B at *
  have ⟨p0, p1, p2, lo⟩ := hS
  go_upto_region 2 with (first
    | (go_at_call 21; refine (toSeed_any _ _ _ _).mono ?_; rintro e w1 ⟨rfl, h1⟩; replace hw := hw.trans (h1.mono (by omega)); replace hS := hS.step h1)
    | (go_at_call 28; refine (cs _).mono ?_; rintro e w2 ⟨rfl, h2⟩; replace hw := hw.trans (h2.mono (Nat.le_of_lt hS.lo)); replace hS := hS.step h2))
  clear p0 p1 p2 lo
  have hT := At3.new w2 K A B' 29
  replace hS := hS.alloc (.cells #[.int .i64 K, .int .u64 A, .int .u64 B'] 29)
  replace hw := hw.alloc (by have := hw.size; omega) (.cells #[.int .i64 K, .int .u64 A, .int .u64 B'] 29)
  generalize w2.heap.size = C at *
  generalize w2.alloc (.cells #[.int .i64 K, .int .u64 A, .int .u64 B'] 29) = V at *
  have ⟨p0, p1, p2, lo⟩ := hS
  go_upto_region 3 with (first
    | (go_at_call 21; refine (toSeed_any _ _ _ _).mono ?_; rintro e w3 ⟨rfl, h3⟩; replace hw := hw.trans (h3.mono (Nat.le_of_lt hS.lo)); replace hS := hS.step h3; replace hT := hT.step h3)
    | (go_at_call 29; refine (ci _).mono ?_; rintro e w4 ⟨rfl, h4⟩; replace hw := hw.trans (h4.mono (Nat.le_of_lt hS.lo)); replace hS := hS.step h4; replace hT := hT.step h4))
  clear p0 p1 p2 lo
  have hU := At3.new w4 K A B' 29
  replace hT := hT.alloc (.cells #[.int .i64 K, .int .u64 A, .int .u64 B'] 29)
  replace hw := hw.alloc (by have := hS.lo; omega) (.cells #[.int .i64 K, .int .u64 A, .int .u64 B'] 29)
  have hlo : B ≤ (w4.alloc (.cells #[.int .i64 K, .int .u64 A, .int .u64 B'] 29)).heap.size := by have := hS.lo; simp; omega
  clear hS
  generalize w4.heap.size = E at *
  generalize w4.alloc (.cells #[.int .i64 K, .int .u64 A, .int .u64 B'] 29) = V' at *
  have ⟨p0, p1, p2, lo⟩ := hT
  have ⟨q0, q1, q2, hi⟩ := hU
  go_wp2_with (first
    | (go_at_call 25; refine (eqSeed_any _ _ _ _ _ _ _).mono ?_; rintro e w5 ⟨rfl, h5⟩; replace hw := hw.trans (h5.mono hlo); simp only [and_self, decide_true])
    | (go_at_call 30; refine (sameWide _ _ _ _ _ rfl).mono ?_; rintro e w6 ⟨rfl, m, rfl⟩))
  all_goals (go_ret; refine ⟨rfl, ?_⟩; rw [hB]; repeat (first | exact hw | refine bel_drewsN ?_ _ | refine Below.drew ?_))
theorem walk (k a b : Int) (w : World) (wk : (Lit.int .i64 k).wf = true) (wa : (Lit.int .u64 a).wf = true) (wb : (Lit.int .u64 b).wf = true) :
    Calls Try.prog 7 #[.agg #[.int .i64 k, .int .u64 a, .int .u64 b]] w fun e w' => e = .returned (.bool true) ∧ Below w.heap.size w w' := by
  have hb : 0 ≤ b := by simp [Lit.wf, IntKind.min, IntKind.max, IntKind.signed] at wb; omega
  clear wk wa wb
  cases ho : valB k a b
  · exact core k a b w hb 0 0 0 0 false (by simp [shOut, ho])
  · exact core k a b w hb _ _ _ _ true (shOut_true k a b ho)
end Go.Proofs.Ytlaelfaalgmicaa.fnExactShareSeed
