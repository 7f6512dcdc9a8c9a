/- Contracts of the functions that flush a subnormal number. -/
import Derived.Test.YtopfeilfgbcihaaFloatC
import Derived.Test.YtopfeilfgbcihaaFlush
namespace Go.Proofs.Ytopfeilfgbcihaa
open Go.RowKit
set_option linter.unusedVariables false
theorem ret_float {k : FloatKind} {a b : Nat} (h : a = b) : Ending.returned (.float k a) = .returned (.float k b) := by rw [h]

theorem specFlush_any (x : Nat) (w : World) (hx : x < 4294967296) : Calls Try.prog 20 #[.float .f32 x] w fun e w' => e = .returned (.float .f32 (flushN x)) ∧ w = w' := by
  have ht := test_spec x hx
  by_cases h : Ieee.Format.signWeight Ieee.single = 0 ∨ rng Ieee.single x < 8388608
  · have h : rng Ieee.single x < 8388608 := by rcases h with h | h; (rw [sw_s] at h; omega); exact h
    rw [decide_eq_true h] at ht
    have hz := zero_spec x hx h
    have HF := Lib.hid (flush_small h)
    clear h
    go_enter Try.func20, Try.ntmps20
    go_wp2_with (first | (go_at_call 89; refine (l01Bits_any x _ hx).mono ?_; rintro e w' ⟨rfl, rfl⟩) | go_in)
    all_goals (go_ret; exact ⟨ret_float (by rw [HF.out]; simp [*]), rfl⟩)
  · have h : ¬ rng Ieee.single x < 8388608 := fun h' => h (.inr h')
    rw [decide_eq_false h] at ht
    have HF := Lib.hid (flush_big h)
    clear h
    go_enter Try.func20, Try.ntmps20
    go_wp2_with (first | (go_at_call 89; refine (l01Bits_any x _ hx).mono ?_; rintro e w' ⟨rfl, rfl⟩) | go_in)
    go_ret
    exact ⟨ret_float (by rw [HF.out]), rfl⟩
theorem implFlush_any (x : Nat) (w : World) (hx : x < 4294967296) : Calls Try.prog 21 #[.float .f32 x] w fun e w' => e = .returned (.float .f32 (flushN x)) ∧ ∃ n, w' = w.drewN n := by
  cases hb : subB x
  · have HF : Hid (flushN x = x) := by
      by_cases h : rng Ieee.single x < 8388608
      · have h0 : rng Ieee.single x = 0 := by unfold subB at hb; rw [decide_eq_false_iff_not] at hb; omega
        exact Lib.hid (flush_zero hx h0)
      · exact Lib.hid (flush_big h)
    go_enter Try.func21, Try.ntmps21
    go_wp2_with (first | (go_at_call 58; refine (implIsSubnormal_any x _ hx).mono ?_; rintro e w' ⟨rfl, n, rfl⟩) | go_in)
    go_ret
    exact ⟨ret_float (by rw [HF.out]), _, rfl⟩
  · have h : rng Ieee.single x < 8388608 := by unfold subB at hb; rw [decide_eq_true_eq] at hb; exact hb.2
    have hz := fun w => zero_impl x w (not_nan_small h)
    have hc := fun w => narrow_zero (sgn Ieee.single x) w
    have HF := Lib.hid (flush_small h)
    clear h
    go_enter Try.func21, Try.ntmps21
    go_wp2_with (first | (go_at_call 58; refine (implIsSubnormal_any x _ hx).mono ?_; rintro e w' ⟨rfl, n, rfl⟩) | go_in)
    all_goals (go_ret; exact ⟨ret_float (by rw [HF.out]; simp [*]), _, rfl⟩)

end Go.Proofs.Ytopfeilfgbcihaa
