/- The walk of laws.FnExactSmallPeriod: it returns true and leaves what was there. -/
import Derived.Test.YtlaelfaalgmicaaPeriodM
namespace Go.Proofs.Ytlaelfaalgmicaa.fnExactSmallPeriod
open Go.RowKit
set_option linter.unusedVariables false
theorem core (m a c x : Int) (w : World) (S : Ending → Prop)
    (cs : ∀ w, Calls Try.prog 18 #[.int .i64 m, .int .i64 a, .int .i64 c, .int .i64 x] w fun e w' => S e ∧ Below w.heap.size w w')
    (ci : ∀ w, Calls Try.prog 19 #[.int .i64 m, .int .i64 a, .int .i64 c, .int .i64 x] w fun e w' => S e ∧ Below w.heap.size w w')
    (uq : ∃ F N : Int, ∃ ok : Bool, ∀ e, S e → e = .returned (.tuple #[.int .i64 F, .int .i64 N, .bool ok])) :
    Calls Try.prog 3 #[.int .i64 m, .int .i64 a, .int .i64 c, .int .i64 x] w fun e w' => e = .returned (.bool true) ∧ Below w.heap.size w w' := by
  obtain ⟨F, N, ok, hu⟩ := uq
  have hw := Below.refl w.heap.size w
  go_enter Try.func3, Try.ntmps3
  go_wp2_with (first
    | (go_at_call 18; refine (cs _).mono ?_; rintro e w1 ⟨he, h1⟩; obtain rfl := hu e he; clear he)
    | (go_at_call 19; refine (ci _).mono ?_; rintro e w2 ⟨he, h2⟩; obtain rfl := hu e he; clear he))
  all_goals (go_ret; exact ⟨rfl, h1.trans (h2.mono h1.size)⟩)
theorem walk (m a c x : Int) (w : World) (wm : (Lit.int .i64 m).wf = true) (wa : (Lit.int .i64 a).wf = true) (wc : (Lit.int .i64 c).wf = true) (wx : (Lit.int .i64 x).wf = true) :
    Calls Try.prog 3 #[.int .i64 m, .int .i64 a, .int .i64 c, .int .i64 x] w fun e w' => e = .returned (.bool true) ∧ Below w.heap.size w w' := by
  clear wm wa wc wx
  have out : ∀ h, Calls Try.prog 3 #[.int .i64 m, .int .i64 a, .int .i64 c, .int .i64 x] w fun e w' => e = .returned (.bool true) ∧ Below w.heap.size w w' := fun h =>
    core m a c x w (fun e => e = .returned (.tuple #[.int .i64 0, .int .i64 0, .bool false]))
      (fun w => (specPeriod_out m a c x w h).mono fun e w' q => ⟨q.1, q.2 ▸ Below.refl _ _⟩)
      (fun w => (implPeriod_out m a c x w h).mono fun e w' q => ⟨q.1, q.2 ▸ Below.refl _ _⟩) ⟨0, 0, false, fun e h => h⟩
  cases i1 : inB m 1 4096
  · exact out (.inl i1)
  cases i2 : inB a 0 (m - 1)
  · exact out (.inr ⟨i1, .inl i2⟩)
  cases i3 : inB c 0 (m - 1)
  · exact out (.inr ⟨i1, .inr ⟨i2, .inl i3⟩⟩)
  cases i4 : inB x 0 (m - 1)
  · exact out (.inr ⟨i1, .inr ⟨i2, .inr ⟨i3, i4⟩⟩⟩)
  clear out
  have hm : 1 ≤ m ∧ m ≤ 4096 := by simpa [inB] using i1
  obtain ⟨M, rfl⟩ := Int.eq_ofNat_of_zero_le (show 0 ≤ m by omega)
  refine core M a c x w (PerOut (sq M a c x)) (fun w => specPeriod_in M a c x w (by omega) (by omega) i1 i2 i3 i4) (fun w => implPeriod_in M a c x w (by omega) (by omega) i1 i2 i3 i4) ?_
  by_cases hex : ∃ f n, IsRep (sq M a c x) f n
  · obtain ⟨f, n, hr⟩ := hex
    refine ⟨f, (n : Int) - f, true, fun e he => ?_⟩
    obtain ⟨f', n', hr', rfl⟩ := he
    obtain ⟨rfl, rfl⟩ := hr.uniq hr'
    rfl
  · exact ⟨0, 0, false, fun e he => by obtain ⟨f', n', hr', _⟩ := he; exact absurd ⟨f', n', hr'⟩ hex⟩
end Go.Proofs.Ytlaelfaalgmicaa.fnExactSmallPeriod
