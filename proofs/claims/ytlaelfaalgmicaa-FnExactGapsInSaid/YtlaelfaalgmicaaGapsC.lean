/- GapsIn: both sides count the gaps between small words. -/
import Derived.Test.YtlaelfaalgmicaaCntC
import Derived.Test.YtlaelfaalgmicaaWordsC
namespace Go.Proofs.Ytlaelfaalgmicaa
open Go.RowKit
set_option linter.unusedVariables false
/-- The counts and the last place behind the first i words. -/
def gc (z : Nat → Int) (lev : Int) : Nat → (Nat → Int) × Int
  | 0 => (fun _ => 0, -1)
  | i + 1 => if lev ≤ z i then gc z lev i else (if 0 ≤ (gc z lev i).2 then hitC (gc z lev i).1 (min ((i : Int) - (gc z lev i).2 - 1) 15).toNat else (gc z lev i).1, i)
theorem gc_great {z : Nat → Int} {lev : Int} {i : Nat} (h : lev ≤ z i) : gc z lev (i + 1) = gc z lev i := by
  conv => lhs; unfold gc
  rw [if_pos h]
theorem gc_small {z : Nat → Int} {lev : Int} {i : Nat} (h : ¬ lev ≤ z i) : gc z lev (i + 1) = (if 0 ≤ (gc z lev i).2 then hitC (gc z lev i).1 (min ((i : Int) - (gc z lev i).2 - 1) 15).toNat else (gc z lev i).1, (i : Int)) := by
  conv => lhs; unfold gc
  rw [if_neg h]
theorem gc_range (z : Nat → Int) (lev : Int) : ∀ i : Nat, -1 ≤ (gc z lev i).2 ∧ (gc z lev i).2 < (i : Int) ∧ ∀ j, 0 ≤ (gc z lev i).1 j ∧ (gc z lev i).1 j ≤ (i : Int)
  | 0 => ⟨by simp [gc], by simp [gc], fun j => ⟨Int.le_refl _, Int.le_refl _⟩⟩
  | i + 1 => by
    obtain ⟨h1, h2, h3⟩ := gc_range z lev i
    by_cases h : lev ≤ z i
    · rw [gc_great h]
      exact ⟨h1, by omega, fun j => by have := h3 j; omega⟩
    · rw [gc_small h]
      refine ⟨by dsimp only; omega, by dsimp only; omega, fun j => ?_⟩
      dsimp only
      split
      · have := hitC_range h3 (min ((i : Int) - (gc z lev i).2 - 1) 15).toNat j; omega
      · have := h3 j; omega
structure GapAt (w : World) (z : Nat → Int) (lev : Int) (j : Nat) (b : Int) (c : Nat → Int) (wr : World) : Prop where
  last : (gc z lev j).2 = b
  cnt : (gc z lev j).1 = c
  row : Counts w 16 c wr
theorem GapAt.great {w : World} {z : Nat → Int} {lev : Int} {j : Nat} {b : Int} {c : Nat → Int} {wr : World} (h : GapAt w z lev j b c wr) (e : lev ≤ z j) : GapAt w z lev (j + 1) b c wr :=
  ⟨by rw [gc_great e]; exact h.last, by rw [gc_great e]; exact h.cnt, h.row⟩
theorem GapAt.first {w : World} {z : Nat → Int} {lev : Int} {j : Nat} {b : Int} {c : Nat → Int} {wr : World} (h : GapAt w z lev j b c wr) (e : ¬ lev ≤ z j) (hb : ¬ 0 ≤ b) : GapAt w z lev (j + 1) j c wr :=
  ⟨by rw [gc_small e], by rw [gc_small e, h.last, h.cnt]; dsimp only; rw [if_neg hb], h.row⟩
theorem GapAt.hit {w : World} {z : Nat → Int} {lev : Int} {j : Nat} {b : Int} {c : Nat → Int} {wr : World} (h : GapAt w z lev j b c wr) (e : ¬ lev ≤ z j) (hb : 0 ≤ b) (q : Nat) (hq : q = (min ((j : Int) - b - 1) 15).toNat) :
    GapAt w z lev (j + 1) j (hitC c q) (wr.setCell ⟨w.heap.size, q, none⟩ (.int .i64 (c q + 1))) :=
  ⟨by rw [gc_small e], by rw [gc_small e, h.last, h.cnt]; dsimp only; rw [if_pos hb, hq], h.row.hit q⟩
theorem GapAt.range {w : World} {z : Nat → Int} {lev : Int} {j : Nat} {b : Int} {c : Nat → Int} {wr : World} (h : GapAt w z lev j b c wr) : -1 ≤ b ∧ b < (j : Int) ∧ ∀ i, 0 ≤ c i ∧ c i ≤ (j : Int) := by
  have := gc_range z lev j
  rw [h.last, h.cnt] at this
  exact this
theorem specGaps_out (a : Option Addr) (n cap : Nat) (z : Nat → Int) (d : Int) (w : World) (h : IEls w a n cap z) (hn : n ≤ 1048576) (hb : areW z n = true → inR d 1 4294967296 = false) :
    Calls Try.prog 51 #[.slice a n cap, .int .i64 d] w (OutS 0 false (kI fun _ => 0) w) := by
  cases hA : areW z n with
  | true =>
    have hD := hb hA
    clear hb
    go_enter Try.func51, Try.ntmps51
    go_wp2_with (first | (go_at_call 71; refine (l02Are_any _ _ _ z _ h hn).mono ?_; rintro e w' ⟨rfl, rfl⟩) | (go_at_call 59; refine (l00InR_any _ _ _ _).mono ?_; rintro e w' ⟨rfl, rfl⟩))
    go_ret2
    exact .fail (Below.refl _ _) rfl
  | false =>
    clear hb
    go_enter Try.func51, Try.ntmps51
    go_wp2_with (first | (go_at_call 71; refine (l02Are_any _ _ _ z _ h hn).mono ?_; rintro e w' ⟨rfl, rfl⟩) | (go_at_call 59; refine (l00InR_any _ _ _ _).mono ?_; rintro e w' ⟨rfl, rfl⟩))
    go_ret2
    exact .fail (Below.refl _ _) rfl
theorem implGaps_out (a : Option Addr) (n cap : Nat) (z : Nat → Int) (d : Int) (w : World) (h : IEls w a n cap z) (hn : n ≤ 1048576) (hb : areW z n = true → inR d 1 4294967296 = false) :
    Calls Try.prog 52 #[.slice a n cap, .int .i64 d] w (OutS 0 false (kI fun _ => 0) w) := by
  cases hA : areW z n with
  | true =>
    have hD := hb hA
    clear hb
    go_enter Try.func52, Try.ntmps52
    go_wp2_with (first | (go_at_call 40; refine (implAre_any _ _ _ z _ h hn).mono ?_; rintro e w' ⟨rfl, rfl⟩) | (go_at_call 60; refine (withinR_any _ _ _ _).mono ?_; rintro e w' ⟨rfl, rfl⟩))
    go_ret2
    exact .fail (Below.refl _ _) rfl
  | false =>
    clear hb
    go_enter Try.func52, Try.ntmps52
    go_wp2_with (first | (go_at_call 40; refine (implAre_any _ _ _ z _ h hn).mono ?_; rintro e w' ⟨rfl, rfl⟩) | (go_at_call 60; refine (withinR_any _ _ _ _).mono ?_; rintro e w' ⟨rfl, rfl⟩))
    go_ret2
    exact .fail (Below.refl _ _) rfl
set_option maxHeartbeats 1000000 in
theorem specGaps_in (a : Option Addr) (lo hi n cap : Nat) (z : Nat → Int) (lev : Int) (w : World) (h : SIn w lo hi a n cap (kI z)) (hn : n ≤ 1048576) (hA : areW z n = true) (hD : inR lev 1 4294967296 = true) :
    Calls Try.prog 51 #[.slice a n cap, .int .i64 lev] w (OutS 16 true (kI (gc z lev n).1) w) := by
  have hh := h.ints
  obtain ⟨hn1, hn2, hw⟩ := areW_of hA
  obtain ⟨d1, d2⟩ := inR_of hD
  have hmk : ∀ w, (Instr.makeSlice 44 (.int .i64 16) (.int .i64 16)).run Try.prog w = .ok (.slice (some ⟨w.heap.size, 0, none⟩) 16 16) (w.alloc (.cells (madeCells #[.int .i64 0] 16) 2)) := fun w => run_make_row' (P := Try.prog) 44 2 (.int .i64 0) 8 Try.underlying44 (by kernel_rfl) rfl .i64 .i64 16 (by omega) (by omega) w
  rcases h.ints with h0 | ⟨b, off, rfl, h1, h2, h3, h4⟩
  · omega
  clear h
  unfold maxLen at h2
  have hh4 := Lib.hid h4
  clear h4 hw
  go_enter Try.func51, Try.ntmps51
  go_upto_region 4 with (first | (go_at_call 71; refine (l02Are_any _ _ _ z _ hh hn).mono ?_; rintro e w' ⟨rfl, rfl⟩) | (go_at_call 59; refine (l00InR_any _ _ _ _).mono ?_; rintro e w' ⟨rfl, rfl⟩))
  have hF := Counts.start w 16 2
  generalize w.alloc (.cells (madeCells #[.int .i64 0] 16) 2) = W at *
  clear hmk
  go_wp2
  go_loopw [7, 8] (fun s7 i wr => ∃ (j : Nat) (b : Int) (c : Nat → Int), j ≤ n ∧ i = .int .i64 j ∧ s7 = .int .i64 b ∧ GapAt w z lev j b c wr) (fun _ i _ => n - (intOf i).toNat)
  case atStart => exact ⟨0, -1, _, Nat.zero_le _, rfl, rfl, ⟨rfl, rfl, hF⟩⟩
  case round =>
    obtain ⟨j, x, c, hj, rfl, rfl, hC⟩ := hrel
    clear hF
    by_cases hlt : j < n
    · obtain ⟨x0, x1, xc⟩ := hC.range
      have XC := Lib.hid xc
      clear xc
      have hcz : wr.cell? ⟨b, off + j, none⟩ = some (.int .i64 (z j)) := by rw [hC.row.bel.cell h3]; exact hh4.out j hlt
      by_cases hz : lev ≤ z j
      · go_wp2
        exact ⟨⟨j + 1, x, c, by omega, by go_num, rfl, hC.great hz⟩, by simp [intOf]; omega⟩
      · by_cases hx : 0 ≤ x
        · by_cases h15 : 15 < (j : Int) - x - 1
          · have hq := hC.row.cell 15 (by omega)
            have hf := hC.row.free 15
            obtain ⟨hr0, hr1⟩ := XC.out 15
            go_wp2
            exact ⟨⟨j + 1, j, _, by omega, by go_num, rfl, hC.hit hz hx 15 (by omega)⟩, by simp [intOf]; omega⟩
          · have hq := hC.row.cell (((j : Int) - x).toNat - 1) (by omega)
            have hf := hC.row.free (((j : Int) - x).toNat - 1)
            obtain ⟨hr0, hr1⟩ := XC.out (((j : Int) - x).toNat - 1)
            go_wp2
            exact ⟨⟨j + 1, j, _, by omega, by go_num, rfl, hC.hit hz hx (((j : Int) - x).toNat - 1) (by omega)⟩, by simp [intOf]; omega⟩
        · go_wp2
          exact ⟨⟨j + 1, j, c, by omega, by go_num, rfl, hC.first hz hx⟩, by simp [intOf]; omega⟩
    · obtain rfl : j = n := by omega
      have hc := Lib.hid hC.cnt
      go_wp2
      go_ret2
      exact outC (by rw [hc.out]; exact hC.row) (by unfold maxLen; omega) rfl
set_option maxHeartbeats 1000000 in
theorem implGaps_in (a : Option Addr) (lo hi n cap : Nat) (z : Nat → Int) (lev : Int) (w : World) (h : SIn w lo hi a n cap (kI z)) (hn : n ≤ 1048576) (hA : areW z n = true) (hD : inR lev 1 4294967296 = true) :
    Calls Try.prog 52 #[.slice a n cap, .int .i64 lev] w (OutS 16 true (kI (gc z lev n).1) w) := by
  have hh := h.ints
  obtain ⟨hn1, hn2, hw⟩ := areW_of hA
  obtain ⟨d1, d2⟩ := inR_of hD
  have hmk : ∀ w, (Instr.makeSlice 44 (.int .i64 16) (.int .i64 16)).run Try.prog w = .ok (.slice (some ⟨w.heap.size, 0, none⟩) 16 16) (w.alloc (.cells (madeCells #[.int .i64 0] 16) 2)) := fun w => run_make_row' (P := Try.prog) 44 2 (.int .i64 0) 8 Try.underlying44 (by kernel_rfl) rfl .i64 .i64 16 (by omega) (by omega) w
  rcases h.ints with h0 | ⟨b, off, rfl, h1, h2, h3, h4⟩
  · omega
  clear h
  unfold maxLen at h2
  have hh4 := Lib.hid h4
  clear h4 hw
  go_enter Try.func52, Try.ntmps52
  go_upto_region 4 with (first | (go_at_call 40; refine (implAre_any _ _ _ z _ hh hn).mono ?_; rintro e w' ⟨rfl, rfl⟩) | (go_at_call 60; refine (withinR_any _ _ _ _).mono ?_; rintro e w' ⟨rfl, rfl⟩))
  have hF := Counts.start w 16 2
  generalize w.alloc (.cells (madeCells #[.int .i64 0] 16) 2) = W at *
  clear hmk
  go_wp2
  go_loopw [7, 21] (fun s7 i wr => ∃ (j : Nat) (b : Int) (c : Nat → Int), j ≤ n ∧ i = .int .i64 j ∧ s7 = .int .i64 b ∧ GapAt w z lev j b c wr) (fun _ i _ => n - (intOf i).toNat)
  case atStart => exact ⟨0, -1, _, Nat.zero_le _, rfl, rfl, ⟨rfl, rfl, hF⟩⟩
  case round =>
    obtain ⟨j, x, c, hj, rfl, rfl, hC⟩ := hrel
    clear hF
    by_cases hlt : j < n
    · obtain ⟨x0, x1, xc⟩ := hC.range
      have XC := Lib.hid xc
      clear xc
      have hcz : wr.cell? ⟨b, off + j, none⟩ = some (.int .i64 (z j)) := by rw [hC.row.bel.cell h3]; exact hh4.out j hlt
      by_cases hz : lev ≤ z j
      · go_wp2
        exact ⟨⟨j + 1, x, c, by omega, by go_num, rfl, hC.great hz⟩, by simp [intOf]; omega⟩
      · by_cases hx : 0 ≤ x
        · by_cases h15 : 15 < (j : Int) - x - 1
          · have hq := hC.row.cell 15 (by omega)
            have hf := hC.row.free 15
            obtain ⟨hr0, hr1⟩ := XC.out 15
            go_wp2
            exact ⟨⟨j + 1, j, _, by omega, by go_num, rfl, hC.hit hz hx 15 (by omega)⟩, by simp [intOf]; omega⟩
          · have hq := hC.row.cell (((j : Int) - x).toNat - 1) (by omega)
            have hf := hC.row.free (((j : Int) - x).toNat - 1)
            obtain ⟨hr0, hr1⟩ := XC.out (((j : Int) - x).toNat - 1)
            go_wp2
            exact ⟨⟨j + 1, j, _, by omega, by go_num, rfl, hC.hit hz hx (((j : Int) - x).toNat - 1) (by omega)⟩, by simp [intOf]; omega⟩
        · go_wp2
          exact ⟨⟨j + 1, j, c, by omega, by go_num, rfl, hC.first hz hx⟩, by simp [intOf]; omega⟩
    · obtain rfl : j = n := by omega
      have hc := Lib.hid hC.cnt
      go_wp2
      go_ret2
      exact outC (by rw [hc.out]; exact hC.row) (by unfold maxLen; omega) rfl
end Go.Proofs.Ytlaelfaalgmicaa
