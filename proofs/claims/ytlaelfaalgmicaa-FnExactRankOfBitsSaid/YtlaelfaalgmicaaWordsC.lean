/- Contracts of the functions that ask whether numbers are words. -/
import Derived.Test.YtlaelfaalgmicaaSlC
import Derived.Test.YtlaelfaalgmicaaInC
namespace Go.Proofs.Ytlaelfaalgmicaa
open Go.RowKit
set_option linter.unusedVariables false
/-- Are the first n numbers words? -/
def allW (z : Nat → Int) : Nat → Bool
  | 0 => true
  | n + 1 => allW z n && inR (z n) 0 4294967295
theorem allW_succ (z : Nat → Int) (n : Nat) : allW z (n + 1) = (allW z n && inR (z n) 0 4294967295) := rfl
theorem allW_no {z : Nat → Int} {k : Nat} (h : inR (z k) 0 4294967295 = false) : ∀ n, k < n → allW z n = false
  | 0, hn => absurd hn (Nat.not_lt_zero _)
  | n + 1, hn => by
    rw [allW_succ]
    by_cases e : k = n
    · subst e; rw [h, Bool.and_false]
    · rw [allW_no h n (by omega), Bool.false_and]
theorem allW_at {z : Nat → Int} : ∀ {n : Nat}, allW z n = true → ∀ i, i < n → 0 ≤ z i ∧ z i ≤ 4294967295
  | 0, _, i, hi => absurd hi (Nat.not_lt_zero _)
  | n + 1, h, i, hi => by
    rw [allW_succ, Bool.and_eq_true] at h
    by_cases e : i = n
    · subst e; exact inR_of h.2
    · exact allW_at h.1 i (by omega)
/-- Are these words? -/
def areW (z : Nat → Int) (n : Nat) : Bool := allW z n && (decide (1 ≤ n) && decide (n ≤ 256))
theorem areW_of {z : Nat → Int} {n : Nat} (h : areW z n = true) : 1 ≤ n ∧ n ≤ 256 ∧ ∀ i, i < n → 0 ≤ z i ∧ z i ≤ 4294967295 := by
  unfold areW at h
  rw [Bool.and_eq_true, Bool.and_eq_true, decide_eq_true_eq, decide_eq_true_eq] at h
  exact ⟨h.2.1, h.2.2, allW_at h.1⟩
set_option maxHeartbeats 400000 in
theorem l02Are_any (a : Option Addr) (n cap : Nat) (z : Nat → Int) (w : World) (h : IEls w a n cap z) (hn : n ≤ 1048576) :
    Calls Try.prog 71 #[.slice a n cap] w fun e w' => e = .returned (.bool (areW z n)) ∧ w = w' := by
  go_enter Try.func71, Try.ntmps71
  go_wp2
  go_loop [3] (fun i => ∃ k : Nat, k ≤ n ∧ i = .int .i64 k ∧ Hid (allW z k = true)) (fun i => n - (intOf i).toNat)
  case atStart => exact ⟨0, Nat.zero_le _, rfl, Lib.hid rfl⟩
  case round =>
    obtain ⟨k, hk, rfl, hA⟩ := hrel
    by_cases hlt : k < n
    · rcases h with h0 | ⟨b, off, rfl, h1, h2, h3, h4⟩
      · omega
      have hc := h4 k hlt
      clear h4
      unfold maxLen at h2
      cases hR : inR (z k) 0 4294967295 with
      | true =>
        go_wp2_with (go_at_call 59; refine (l00InR_any _ _ _ _).mono ?_; rintro e w' ⟨rfl, rfl⟩)
        go_round
        case rel => exact ⟨k + 1, by omega, by go_num, Lib.hid (by rw [allW_succ, hA.out, hR]; rfl)⟩
        case measure => simp [intOf]; omega
      | false =>
        go_wp2_with (go_at_call 59; refine (l00InR_any _ _ _ _).mono ?_; rintro e w' ⟨rfl, rfl⟩)
        go_ret
        exact ⟨boolR (by unfold areW; rw [allW_no hR n hlt, Bool.false_and]), rfl⟩
    · clear h
      obtain rfl : k = n := by omega
      by_cases b1 : k < 1
      · have b2 : decide ((1 : Int) ≤ (k : Int)) = false := by rw [decide_eq_false_iff_not]; omega
        go_wp2
        go_ret
        exact ⟨boolR (by unfold areW; rw [show decide (1 ≤ k) = false by rw [decide_eq_false_iff_not]; omega]; simp), rfl⟩
      · have b2 : decide ((1 : Int) ≤ (k : Int)) = true := by rw [decide_eq_true_eq]; omega
        by_cases b3 : k ≤ 256
        · have b4 : decide ((k : Int) ≤ 256) = true := by rw [decide_eq_true_eq]; omega
          go_wp2
          go_ret
          exact ⟨boolR (by unfold areW; rw [hA.out, show decide (1 ≤ k) = true by rw [decide_eq_true_eq]; omega, decide_eq_true b3]; rfl), rfl⟩
        · have b4 : decide ((k : Int) ≤ 256) = false := by rw [decide_eq_false_iff_not]; omega
          go_wp2
          go_ret
          exact ⟨boolR (by unfold areW; rw [decide_eq_false b3]; simp), rfl⟩
theorem specAre_any (a : Option Addr) (n cap : Nat) (z : Nat → Int) (w : World) (h : IEls w a n cap z) (hn : n ≤ 1048576) :
    Calls Try.prog 38 #[.slice a n cap] w fun e w' => e = .returned (.bool (areW z n)) ∧ w = w' := by
  go_enter Try.func38, Try.ntmps38
  go_wp2_with (go_at_call 71; refine (l02Are_any _ _ _ z _ h hn).mono ?_; rintro e w' ⟨rfl, rfl⟩)
  go_ret
  exact ⟨rfl, rfl⟩
theorem test_any (x : Int) (w : World) : Calls Try.prog 73 #[.int .i64 x] w fun e w' => e = .returned (.bool (!inR x 0 4294967295)) ∧ w = w' := by
  go_enter Try.func73, Try.ntmps73
  go_wp2_with (go_at_call 60; refine (withinR_any _ _ _ _).mono ?_; rintro e w' ⟨rfl, rfl⟩)
  go_ret
  exact ⟨rfl, rfl⟩
/-- The place of the first number that is no word, or -1. -/
def IdxW (z : Nat → Int) (n : Nat) (w : World) (e : Ending) (w' : World) : Prop := ∃ i : Int, e = .returned (.int .i64 i) ∧ (if allW z n then i = -1 else 0 ≤ i) ∧ w = w'
set_option maxHeartbeats 400000 in
theorem indexW_any (a : Option Addr) (n cap : Nat) (z : Nat → Int) (w : World) (h : IEls w a n cap z) (hn : n ≤ 1048576) :
    Calls Try.prog 77 #[.slice a n cap, .func (.func 73) #[] #[]] w (IdxW z n w) := by
  go_enter Try.func77, Try.ntmps77
  go_wp2
  go_loop [8] (fun i => ∃ k : Nat, k ≤ n ∧ i = .int .i64 k ∧ Hid (allW z k = true)) (fun i => n - (intOf i).toNat)
  case atStart => exact ⟨0, Nat.zero_le _, rfl, Lib.hid rfl⟩
  case round =>
    obtain ⟨k, hk, rfl, hA⟩ := hrel
    by_cases hlt : k < n
    · rcases h with h0 | ⟨b, off, rfl, h1, h2, h3, h4⟩
      · omega
      have hc := h4 k hlt
      clear h4
      unfold maxLen at h2
      cases hR : inR (z k) 0 4294967295 with
      | true =>
        go_wp2_with (go_at_call 73; refine (test_any _ _).mono ?_; rintro e w' ⟨rfl, rfl⟩)
        go_round
        case rel => exact ⟨k + 1, by omega, by go_num, Lib.hid (by rw [allW_succ, hA.out, hR]; rfl)⟩
        case measure => simp [intOf]; omega
      | false =>
        go_wp2_with (go_at_call 73; refine (test_any _ _).mono ?_; rintro e w' ⟨rfl, rfl⟩)
        go_ret
        exact ⟨_, rfl, by rw [allW_no hR n hlt]; simp, rfl⟩
    · clear h
      obtain rfl : k = n := by omega
      go_wp2
      go_ret
      exact ⟨_, rfl, by rw [hA.out]; rfl, rfl⟩
theorem containsW_any (a : Option Addr) (n cap : Nat) (z : Nat → Int) (w : World) (h : IEls w a n cap z) (hn : n ≤ 1048576) :
    Calls Try.prog 72 #[.slice a n cap, .func (.func 73) #[] #[]] w fun e w' => e = .returned (.bool (!allW z n)) ∧ w = w' := by
  go_enter Try.func72, Try.ntmps72
  go_wp2_with fail
  refine (indexW_any a n cap z _ h hn).mono ?_
  rintro e w' ⟨i, rfl, hi, rfl⟩
  cases hq : allW z n with
  | true =>
    rw [hq] at hi
    obtain rfl : i = -1 := hi
    have HQ := Lib.hid hq
    clear hq
    go_wp2
    go_ret
    exact ⟨by rw [HQ.out]; rfl, rfl⟩
  | false =>
    rw [hq] at hi
    have hi : 0 ≤ i := hi
    have HQ := Lib.hid hq
    clear hq
    go_wp2
    go_ret
    exact ⟨by rw [HQ.out]; rfl, rfl⟩
theorem implAre_any (a : Option Addr) (n cap : Nat) (z : Nat → Int) (w : World) (h : IEls w a n cap z) (hn : n ≤ 1048576) :
    Calls Try.prog 40 #[.slice a n cap] w fun e w' => e = .returned (.bool (areW z n)) ∧ w = w' := by
  by_cases b1 : n < 1
  · have b2 : decide ((1 : Int) ≤ (n : Int)) = false := by rw [decide_eq_false_iff_not]; omega
    go_enter Try.func40, Try.ntmps40
    go_wp2
    go_ret
    exact ⟨boolR (by unfold areW; rw [show decide (1 ≤ n) = false by rw [decide_eq_false_iff_not]; omega]; simp), rfl⟩
  · have b2 : decide ((1 : Int) ≤ (n : Int)) = true := by rw [decide_eq_true_eq]; omega
    by_cases b3 : n ≤ 256
    · have b4 : decide ((n : Int) ≤ 256) = true := by rw [decide_eq_true_eq]; omega
      go_enter Try.func40, Try.ntmps40
      go_wp2_with (go_at_call 72; refine (containsW_any _ _ _ z _ h hn).mono ?_; rintro e w' ⟨rfl, rfl⟩)
      go_ret
      exact ⟨boolR (by unfold areW; rw [show decide (1 ≤ n) = true by rw [decide_eq_true_eq]; omega, decide_eq_true b3]; simp), rfl⟩
    · have b4 : decide ((n : Int) ≤ 256) = false := by rw [decide_eq_false_iff_not]; omega
      go_enter Try.func40, Try.ntmps40
      go_wp2
      go_ret
      exact ⟨boolR (by unfold areW; rw [decide_eq_false b3]; simp), rfl⟩
end Go.Proofs.Ytlaelfaalgmicaa
