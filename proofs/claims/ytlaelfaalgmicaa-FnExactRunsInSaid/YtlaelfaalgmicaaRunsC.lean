/- RunsIn: both sides count the lengths of the runs. -/
import Derived.Test.YtlaelfaalgmicaaCntC
namespace Go.Proofs.Ytlaelfaalgmicaa
open Go.RowKit
set_option linter.unusedVariables false
/-- The counts and the run's length behind the first i bits of n. -/
def rc (z : Nat → Bool) (n : Nat) : Nat → (Nat → Int) × Nat
  | 0 => (fun _ => 0, 0)
  | i + 1 => if i + 1 = n ∨ z (i + 1) ≠ z i then (hitC (rc z n i).1 (min ((rc z n i).2 + 1) 16 - 1), 0) else ((rc z n i).1, (rc z n i).2 + 1)
theorem rc_hit (z : Nat → Bool) (n i : Nat) (h : i + 1 = n ∨ z (i + 1) ≠ z i) : rc z n (i + 1) = (hitC (rc z n i).1 (min ((rc z n i).2 + 1) 16 - 1), 0) := by
  conv => lhs; unfold rc
  rw [if_pos h]
theorem rc_miss (z : Nat → Bool) (n i : Nat) (h : ¬ (i + 1 = n ∨ z (i + 1) ≠ z i)) : rc z n (i + 1) = ((rc z n i).1, (rc z n i).2 + 1) := by
  conv => lhs; unfold rc
  rw [if_neg h]
theorem rc_range (z : Nat → Bool) (n : Nat) : ∀ i, (rc z n i).2 ≤ i ∧ ∀ j, 0 ≤ (rc z n i).1 j ∧ (rc z n i).1 j ≤ i
  | 0 => ⟨Nat.le_refl _, fun j => ⟨Int.le_refl _, Int.le_refl _⟩⟩
  | i + 1 => by
    obtain ⟨h1, h2⟩ := rc_range z n i
    by_cases h : i + 1 = n ∨ z (i + 1) ≠ z i
    · rw [rc_hit z n i h]
      exact ⟨Nat.zero_le _, fun j => by have := hitC_range h2 (min ((rc z n i).2 + 1) 16 - 1) j; dsimp only; omega⟩
    · rw [rc_miss z n i h]
      refine ⟨by dsimp only; omega, fun j => ?_⟩
      have := h2 j
      dsimp only
      omega
structure RunsAt (w : World) (z : Nat → Bool) (n j l : Nat) (c : Nat → Int) (wr : World) : Prop where
  len : (rc z n j).2 = l
  cnt : (rc z n j).1 = c
  row : Counts w 16 c wr
theorem RunsAt.hit {w : World} {z : Nat → Bool} {n j l : Nat} {c : Nat → Int} {wr : World} (h : RunsAt w z n j l c wr) (e : j + 1 = n ∨ z (j + 1) ≠ z j) (q : Nat) (hq : q = min (l + 1) 16 - 1) :
    RunsAt w z n (j + 1) 0 (hitC c q) (wr.setCell ⟨w.heap.size, q, none⟩ (.int .i64 (c q + 1))) := by
  refine ⟨by rw [rc_hit z n j e], ?_, h.row.hit q⟩
  rw [rc_hit z n j e, h.len, h.cnt, hq]
theorem RunsAt.miss {w : World} {z : Nat → Bool} {n j l : Nat} {c : Nat → Int} {wr : World} (h : RunsAt w z n j l c wr) (e : ¬ (j + 1 = n ∨ z (j + 1) ≠ z j)) :
    RunsAt w z n (j + 1) (l + 1) c wr := by
  refine ⟨by rw [rc_miss z n j e, h.len], by rw [rc_miss z n j e, h.cnt], h.row⟩
theorem RunsAt.drewN {w : World} {z : Nat → Bool} {n j l : Nat} {c : Nat → Int} {wr : World} (h : RunsAt w z n j l c wr) (m : Nat) : RunsAt w z n j l c (wr.drewN m) := ⟨h.len, h.cnt, h.row.drewN m⟩
theorem RunsAt.range {w : World} {z : Nat → Bool} {n j l : Nat} {c : Nat → Int} {wr : World} (h : RunsAt w z n j l c wr) : l ≤ j ∧ ∀ i, 0 ≤ c i ∧ c i ≤ j := by
  have := rc_range z n j
  rw [h.len, h.cnt] at this
  exact this
theorem specRuns_out (a : Option Addr) (n cap : Nat) (w : World) (hn : n < 1 ∨ 8192 < n) :
    Calls Try.prog 48 #[.slice a n cap] w (OutS 0 false (kI fun _ => 0) w) := by
  by_cases h1 : n < 1
  · have b1 : decide ((n : Int) < 1) = true := by rw [decide_eq_true_eq]; omega
    clear hn
    go_enter Try.func48, Try.ntmps48
    go_wp2
    go_ret2
    exact .fail (Below.refl _ _) rfl
  · have b1 : decide ((n : Int) < 1) = false := by rw [decide_eq_false_iff_not]; omega
    have b2 : decide ((8192 : Int) < n) = true := by rw [decide_eq_true_eq]; omega
    clear hn
    go_enter Try.func48, Try.ntmps48
    go_wp2
    go_ret2
    exact .fail (Below.refl _ _) rfl
theorem implRuns_out (a : Option Addr) (n cap : Nat) (w : World) (hn : n < 1 ∨ 8192 < n) :
    Calls Try.prog 50 #[.slice a n cap] w (OutS 0 false (kI fun _ => 0) w) := by
  by_cases h1 : n < 1
  · have b1 : decide ((n : Int) < 1) = true := by rw [decide_eq_true_eq]; omega
    clear hn
    go_enter Try.func50, Try.ntmps50
    go_wp2
    go_ret2
    exact .fail (Below.refl _ _) rfl
  · have b1 : decide ((n : Int) < 1) = false := by rw [decide_eq_false_iff_not]; omega
    have b2 : decide ((8192 : Int) < n) = true := by rw [decide_eq_true_eq]; omega
    clear hn
    go_enter Try.func50, Try.ntmps50
    go_wp2
    go_ret2
    exact .fail (Below.refl _ _) rfl
set_option maxHeartbeats 1000000 in
theorem specRuns_in (a : Option Addr) (lo hi n cap : Nat) (z : Nat → Bool) (w : World) (h : SIn w lo hi a n cap (kB z)) (hn1 : 1 ≤ n) (hn2 : n ≤ 8192) :
    Calls Try.prog 48 #[.slice a n cap] w (OutS 16 true (kI (rc z n n).1) w) := by
  have hmk : ∀ w, (Instr.makeSlice 44 (.int .i64 16) (.int .i64 16)).run Try.prog w = .ok (.slice (some ⟨w.heap.size, 0, none⟩) 16 16) (w.alloc (.cells (madeCells #[.int .i64 0] 16) 2)) := fun w => run_make_row' (P := Try.prog) 44 2 (.int .i64 0) 8 Try.underlying44 (by kernel_rfl) rfl .i64 .i64 16 (by omega) (by omega) w
  rcases h.bools with h0 | ⟨b, off, rfl, h1, h2, h3, h4⟩
  · omega
  clear h
  unfold maxLen at h2
  have b1 : decide ((n : Int) < 1) = false := by rw [decide_eq_false_iff_not]; omega
  have b2 : decide ((8192 : Int) < n) = false := by rw [decide_eq_false_iff_not]; omega
  have hh4 := Lib.hid h4
  clear h4
  go_enter Try.func48, Try.ntmps48
  go_upto_region 4 with fail
  have hF := Counts.start w 16 2
  generalize w.alloc (.cells (madeCells #[.int .i64 0] 16) 2) = W at *
  clear hmk b1 b2
  go_wp2
  go_loopw [5, 6] (fun s5 i wr => ∃ (j l : Nat) (c : Nat → Int), j ≤ n ∧ i = .int .i64 j ∧ s5 = .int .i64 (l : Nat) ∧ RunsAt w z n j l c wr) (fun _ i _ => n - (intOf i).toNat)
  case atStart => exact ⟨0, 0, _, Nat.zero_le _, rfl, rfl, ⟨rfl, rfl, hF⟩⟩
  case round =>
    obtain ⟨j, l, c, hj, rfl, rfl, hC⟩ := hrel
    clear hF
    by_cases hlt : j < n
    · have hl := hC.range.1
      have hcz : wr.cell? ⟨b, off + j, none⟩ = some (.bool (z j)) := by rw [hC.row.bel.cell h3]; exact hh4.out j hlt
      by_cases e : j + 1 = n
      · have g : (((j : Int) + 1) == (n : Int)) = true := by simp; omega
        by_cases h16 : 16 < l + 1
        · go_upto_region 9 with fail
          go_quiet (fail)
          have hC := hC.drewN nq
          generalize wr.drewN nq = W2 at *
          have hq := hC.row.cell 15 (by omega)
          have hf := hC.row.free 15
          have hr := hC.range.2 15
          obtain ⟨hr0, hr1⟩ := hr
          go_wp2
          exact ⟨⟨j + 1, 0, _, by omega, by go_num, rfl, hC.hit (.inl e) 15 (by omega)⟩, by simp [intOf]; omega⟩
        · go_upto_region 9 with fail
          go_quiet (fail)
          have hC := hC.drewN nq
          generalize wr.drewN nq = W2 at *
          have hq := hC.row.cell l (by omega)
          have hf := hC.row.free l
          have hr := hC.range.2 l
          obtain ⟨hr0, hr1⟩ := hr
          go_wp2
          exact ⟨⟨j + 1, 0, _, by omega, by go_num, rfl, hC.hit (.inl e) l (by omega)⟩, by simp [intOf]; omega⟩
      · have g : (((j : Int) + 1) == (n : Int)) = false := by simp; omega
        have hcz1 : wr.cell? ⟨b, off + (j + 1), none⟩ = some (.bool (z (j + 1))) := by rw [hC.row.bel.cell h3]; exact hh4.out (j + 1) (by omega)
        have i0 : (0 : Int) ≤ (j : Int) + 1 := by omega
        have i1 : (j : Int) + 1 < (n : Int) := by omega
        have i2 : ((j : Int) + 1).toNat = j + 1 := by omega
        obtain ⟨y0, hy0⟩ : ∃ y, y = z j := ⟨_, rfl⟩
        obtain ⟨y1, hy1⟩ : ∃ y, y = z (j + 1) := ⟨_, rfl⟩
        rw [← hy0] at hcz
        rw [← hy1] at hcz1
        by_cases ez : y1 = y0
        · have HE := Lib.hid (show ¬ (j + 1 = n ∨ z (j + 1) ≠ z j) by rw [← hy0, ← hy1]; simp [e, ez])
          clear hy0 hy1
          cases y0 <;> cases y1 <;> (try (exact absurd ez (by decide)))
          all_goals
            go_upto_region 9 with fail
            go_quiet (fail)
            have hC := hC.drewN nq
            generalize wr.drewN nq = W2 at *
            go_wp2
            exact ⟨⟨j + 1, l + 1, _, by omega, by go_num, by go_num, hC.miss HE.out⟩, by simp [intOf]; omega⟩
        · have HE := Lib.hid (show j + 1 = n ∨ z (j + 1) ≠ z j from .inr (by rw [← hy0, ← hy1]; exact ez))
          clear hy0 hy1
          cases y0 <;> cases y1 <;> (try (exact absurd rfl ez))
          all_goals
            clear ez
            by_cases h16 : 16 < l + 1
            · go_upto_region 9 with fail
              go_quiet (fail)
              have hC := hC.drewN nq
              generalize wr.drewN nq = W2 at *
              have hq := hC.row.cell 15 (by omega)
              have hf := hC.row.free 15
              have hr := hC.range.2 15
              obtain ⟨hr0, hr1⟩ := hr
              go_wp2
              exact ⟨⟨j + 1, 0, _, by omega, by go_num, rfl, hC.hit (HE.out) 15 (by omega)⟩, by simp [intOf]; omega⟩
            · go_upto_region 9 with fail
              go_quiet (fail)
              have hC := hC.drewN nq
              generalize wr.drewN nq = W2 at *
              have hq := hC.row.cell l (by omega)
              have hf := hC.row.free l
              have hr := hC.range.2 l
              obtain ⟨hr0, hr1⟩ := hr
              go_wp2
              exact ⟨⟨j + 1, 0, _, by omega, by go_num, rfl, hC.hit (HE.out) l (by omega)⟩, by simp [intOf]; omega⟩
    · obtain rfl : j = n := by omega
      have hc := Lib.hid hC.cnt
      go_wp2
      go_ret2
      exact outC (by rw [hc.out]; exact hC.row) (by unfold maxLen; omega) rfl
set_option maxHeartbeats 1000000 in
theorem implRuns_in (a : Option Addr) (lo hi n cap : Nat) (z : Nat → Bool) (w : World) (h : SIn w lo hi a n cap (kB z)) (hn1 : 1 ≤ n) (hn2 : n ≤ 8192) :
    Calls Try.prog 50 #[.slice a n cap] w (OutS 16 true (kI (rc z n n).1) w) := by
  have hmk : ∀ w, (Instr.makeSlice 44 (.int .i64 16) (.int .i64 16)).run Try.prog w = .ok (.slice (some ⟨w.heap.size, 0, none⟩) 16 16) (w.alloc (.cells (madeCells #[.int .i64 0] 16) 2)) := fun w => run_make_row' (P := Try.prog) 44 2 (.int .i64 0) 8 Try.underlying44 (by kernel_rfl) rfl .i64 .i64 16 (by omega) (by omega) w
  rcases h.bools with h0 | ⟨b, off, rfl, h1, h2, h3, h4⟩
  · omega
  clear h
  unfold maxLen at h2
  have b1 : decide ((n : Int) < 1) = false := by rw [decide_eq_false_iff_not]; omega
  have b2 : decide ((8192 : Int) < n) = false := by rw [decide_eq_false_iff_not]; omega
  have hh4 := Lib.hid h4
  clear h4
  go_enter Try.func50, Try.ntmps50
  go_upto_region 4 with fail
  have hF := Counts.start w 16 2
  generalize w.alloc (.cells (madeCells #[.int .i64 0] 16) 2) = W at *
  clear hmk b1 b2
  go_wp2
  go_loopw [5, 19] (fun s5 i wr => ∃ (j l : Nat) (c : Nat → Int), j ≤ n ∧ i = .int .i64 j ∧ s5 = .int .i64 (l : Nat) ∧ RunsAt w z n j l c wr) (fun _ i _ => n - (intOf i).toNat)
  case atStart => exact ⟨0, 0, _, Nat.zero_le _, rfl, rfl, ⟨rfl, rfl, hF⟩⟩
  case round =>
    obtain ⟨j, l, c, hj, rfl, rfl, hC⟩ := hrel
    clear hF
    by_cases hlt : j < n
    · have hl := hC.range.1
      have hcz : wr.cell? ⟨b, off + j, none⟩ = some (.bool (z j)) := by rw [hC.row.bel.cell h3]; exact hh4.out j hlt
      by_cases e : j + 1 = n
      · have g : ((j : Int) == (n : Int) - 1) = true := by simp; omega
        by_cases h16 : 16 < l + 1
        · have hq := hC.row.cell 15 (by omega)
          have hf := hC.row.free 15
          have hr := hC.range.2 15
          obtain ⟨hr0, hr1⟩ := hr
          go_wp2
          exact ⟨⟨j + 1, 0, _, by omega, by go_num, rfl, hC.hit (.inl e) 15 (by omega)⟩, by simp [intOf]; omega⟩
        · have hq := hC.row.cell l (by omega)
          have hf := hC.row.free l
          have hr := hC.range.2 l
          obtain ⟨hr0, hr1⟩ := hr
          go_wp2
          exact ⟨⟨j + 1, 0, _, by omega, by go_num, rfl, hC.hit (.inl e) l (by omega)⟩, by simp [intOf]; omega⟩
      · have g : ((j : Int) == (n : Int) - 1) = false := by simp; omega
        have hcz1 : wr.cell? ⟨b, off + (j + 1), none⟩ = some (.bool (z (j + 1))) := by rw [hC.row.bel.cell h3]; exact hh4.out (j + 1) (by omega)
        have i0 : (0 : Int) ≤ (j : Int) + 1 := by omega
        have i1 : (j : Int) + 1 < (n : Int) := by omega
        have i2 : ((j : Int) + 1).toNat = j + 1 := by omega
        obtain ⟨y0, hy0⟩ : ∃ y, y = z j := ⟨_, rfl⟩
        obtain ⟨y1, hy1⟩ : ∃ y, y = z (j + 1) := ⟨_, rfl⟩
        rw [← hy0] at hcz
        rw [← hy1] at hcz1
        by_cases ez : y1 = y0
        · have HE := Lib.hid (show ¬ (j + 1 = n ∨ z (j + 1) ≠ z j) by rw [← hy0, ← hy1]; simp [e, ez])
          clear hy0 hy1
          cases y0 <;> cases y1 <;> (try (exact absurd ez (by decide)))
          all_goals
            go_wp2
            exact ⟨⟨j + 1, l + 1, _, by omega, by go_num, by go_num, hC.miss HE.out⟩, by simp [intOf]; omega⟩
        · have HE := Lib.hid (show j + 1 = n ∨ z (j + 1) ≠ z j from .inr (by rw [← hy0, ← hy1]; exact ez))
          clear hy0 hy1
          cases y0 <;> cases y1 <;> (try (exact absurd rfl ez))
          all_goals
            clear ez
            by_cases h16 : 16 < l + 1
            · have hq := hC.row.cell 15 (by omega)
              have hf := hC.row.free 15
              have hr := hC.range.2 15
              obtain ⟨hr0, hr1⟩ := hr
              go_wp2
              exact ⟨⟨j + 1, 0, _, by omega, by go_num, rfl, hC.hit (HE.out) 15 (by omega)⟩, by simp [intOf]; omega⟩
            · have hq := hC.row.cell l (by omega)
              have hf := hC.row.free l
              have hr := hC.range.2 l
              obtain ⟨hr0, hr1⟩ := hr
              go_wp2
              exact ⟨⟨j + 1, 0, _, by omega, by go_num, rfl, hC.hit (HE.out) l (by omega)⟩, by simp [intOf]; omega⟩
    · obtain rfl : j = n := by omega
      have hc := Lib.hid hC.cnt
      go_wp2
      go_ret2
      exact outC (by rw [hc.out]; exact hC.row) (by unfold maxLen; omega) rfl
end Go.Proofs.Ytlaelfaalgmicaa
