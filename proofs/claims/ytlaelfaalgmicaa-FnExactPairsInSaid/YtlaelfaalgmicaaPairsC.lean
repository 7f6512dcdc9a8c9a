/- PairsIn: both sides count pairs of parts of words. -/
import Derived.Test.YtlaelfaalgmicaaCntC
import Derived.Test.YtlaelfaalgmicaaWordsC
import Derived.Still
import Derived.StillTailTactics
import Derived.IntWalk
namespace Go.Proofs.Ytlaelfaalgmicaa
open Go.RowKit
set_option linter.unusedVariables false
/-- The place of the pair i. -/
def pq (z : Nat → Int) (D i : Nat) : Nat := (z (2 * i) * (D : Int) / 4294967296 * (D : Int) + z (2 * i + 1) * (D : Int) / 4294967296).toNat
/-- The counts behind the first i pairs. -/
def pc (z : Nat → Int) (D : Nat) : Nat → Nat → Int
  | 0 => fun _ => 0
  | i + 1 => hitC (pc z D i) (pq z D i)
theorem pc_succ (z : Nat → Int) (D i : Nat) : pc z D (i + 1) = hitC (pc z D i) (pq z D i) := rfl
theorem pc_range (z : Nat → Int) (D : Nat) : ∀ i j, 0 ≤ pc z D i j ∧ pc z D i j ≤ i
  | 0, j => ⟨Int.le_refl _, Int.le_refl _⟩
  | i + 1, j => by
    have := hitC_range (pc_range z D i) (pq z D i) j
    rw [pc_succ]
    omega
/-- A part of a word. -/
theorem part_range {x : Int} {D : Nat} (h0 : 0 ≤ x) (h1 : x ≤ 4294967295) (hD : 1 ≤ D) (hD2 : D ≤ 16) :
    0 ≤ x * (D : Int) ∧ x * (D : Int) ≤ 68719476720 ∧ 0 ≤ x * (D : Int) / 4294967296 ∧ x * (D : Int) / 4294967296 ≤ (D : Int) - 1 := by
  have a := Int.mul_nonneg h0 (show (0 : Int) ≤ D by omega)
  have b := Int.mul_le_mul_of_nonneg_right h1 (show (0 : Int) ≤ D by omega)
  omega
theorem place_range {X Y : Int} {D : Nat} (hX : 0 ≤ X) (hX1 : X ≤ (D : Int) - 1) (hY : 0 ≤ Y) (hY1 : Y ≤ (D : Int) - 1) (hD2 : D ≤ 16) :
    0 ≤ X * (D : Int) ∧ X * (D : Int) ≤ 240 ∧ (X * (D : Int) + Y).toNat < D * D ∧ X * (D : Int) + Y < ((D * D : Nat) : Int) := by
  have a := Int.mul_nonneg hX (show (0 : Int) ≤ D by omega)
  have b := Int.mul_le_mul_of_nonneg_right hX1 (show (0 : Int) ≤ D by omega)
  rw [Int.sub_mul, Int.one_mul] at b
  have c := Int.mul_le_mul (show X ≤ 15 by omega) (show (D : Int) ≤ 16 by omega) (by omega) (by omega)
  have e : ((D * D : Nat) : Int) = (D : Int) * (D : Int) := Int.natCast_mul D D
  omega
theorem specPairs_out (a : Option Addr) (n cap : Nat) (z : Nat → Int) (d : Int) (w : World) (h : IEls w a n cap z) (hn : n ≤ 1048576) (hb : areW z n = true → inR d 1 16 = false) :
    Calls Try.prog 46 #[.slice a n cap, .int .i64 d] w (OutS 0 false (kI fun _ => 0) w) := by
  cases hA : areW z n with
  | true =>
    have hD := hb hA
    clear hb
    go_enter Try.func46, Try.ntmps46
    go_wp2_with (first | (go_at_call 71; refine (l02Are_any _ _ _ z _ h hn).mono ?_; rintro e w' ⟨rfl, rfl⟩) | (go_at_call 59; refine (l00InR_any _ _ _ _).mono ?_; rintro e w' ⟨rfl, rfl⟩))
    go_ret2
    exact .fail (Below.refl _ _) rfl
  | false =>
    clear hb
    go_enter Try.func46, Try.ntmps46
    go_wp2_with (first | (go_at_call 71; refine (l02Are_any _ _ _ z _ h hn).mono ?_; rintro e w' ⟨rfl, rfl⟩) | (go_at_call 59; refine (l00InR_any _ _ _ _).mono ?_; rintro e w' ⟨rfl, rfl⟩))
    go_ret2
    exact .fail (Below.refl _ _) rfl
theorem implPairs_out (a : Option Addr) (n cap : Nat) (z : Nat → Int) (d : Int) (w : World) (h : IEls w a n cap z) (hn : n ≤ 1048576) (hb : areW z n = true → inR d 1 16 = false) :
    Calls Try.prog 47 #[.slice a n cap, .int .i64 d] w (OutS 0 false (kI fun _ => 0) w) := by
  cases hA : areW z n with
  | true =>
    have hD := hb hA
    clear hb
    go_enter Try.func47, Try.ntmps47
    go_wp2_with (first | (go_at_call 40; refine (implAre_any _ _ _ z _ h hn).mono ?_; rintro e w' ⟨rfl, rfl⟩) | (go_at_call 60; refine (withinR_any _ _ _ _).mono ?_; rintro e w' ⟨rfl, rfl⟩))
    go_ret2
    exact .fail (Below.refl _ _) rfl
  | false =>
    clear hb
    go_enter Try.func47, Try.ntmps47
    go_wp2_with (first | (go_at_call 40; refine (implAre_any _ _ _ z _ h hn).mono ?_; rintro e w' ⟨rfl, rfl⟩) | (go_at_call 60; refine (withinR_any _ _ _ _).mono ?_; rintro e w' ⟨rfl, rfl⟩))
    go_ret2
    exact .fail (Below.refl _ _) rfl
set_option maxRecDepth 20000 in
set_option maxHeartbeats 1000000 in
theorem specPairs_in (a : Option Addr) (lo hi n cap : Nat) (z : Nat → Int) (D : Nat) (w : World) (h : SIn w lo hi a n cap (kI z)) (hn : n ≤ 1048576) (hA : areW z n = true) (hD : inR D 1 16 = true) :
    Calls Try.prog 46 #[.slice a n cap, .int .i64 D] w (OutS (D * D) true (kI (pc z D (n / 2))) w) := by
  have hh := h.ints
  obtain ⟨hn1, hn2, hw⟩ := areW_of hA
  obtain ⟨d1, d2⟩ := inR_of hD
  have dd := Nat.mul_le_mul (show D ≤ 16 by omega) (show D ≤ 16 by omega)
  have hmk : ∀ w, (Instr.makeSlice 44 (.int .i64 ((D : Int) * (D : Int))) (.int .i64 ((D : Int) * (D : Int)))).run Try.prog w = .ok (.slice (some ⟨w.heap.size, 0, none⟩) (D * D) (D * D)) (w.alloc (.cells (madeCells #[.int .i64 0] (D * D)) 2)) := fun w => by
    have := run_make_row' (P := Try.prog) 44 2 (.int .i64 0) 8 Try.underlying44 (by kernel_rfl) rfl .i64 .i64 (D * D) (by omega) (by omega) w
    rw [Int.natCast_mul] at this
    exact this
  have p0 : 0 ≤ (D : Int) * (D : Int) := Int.mul_nonneg (by omega) (by omega)
  have p1 : (D : Int) * (D : Int) ≤ 256 := Int.mul_le_mul (show (D : Int) ≤ 16 by omega) (show (D : Int) ≤ 16 by omega) (by omega) (by omega)
  rcases h.ints with h0 | ⟨b, off, rfl, h1, h2, h3, h4⟩
  · omega
  clear h
  unfold maxLen at h2
  have hh4 := Lib.hid h4
  have hw4 := Lib.hid hw
  clear h4 hw
  go_enter Try.func46, Try.ntmps46
  go_upto_region 4 with (first | (go_at_call 71; refine (l02Are_any _ _ _ z _ hh hn).mono ?_; rintro e w' ⟨rfl, rfl⟩) | (go_at_call 59; refine (l00InR_any _ _ _ _).mono ?_; rintro e w' ⟨rfl, rfl⟩))
  have hF := Counts.start w (D * D) 2
  generalize w.alloc (.cells (madeCells #[.int .i64 0] (D * D)) 2) = W at *
  clear hmk
  go_wp2
  go_loopw [7] (fun i wr => ∃ j k : Nat, j ≤ n ∧ i = .int .i64 j ∧ Hid (j = 2 * k) ∧ Counts w (D * D) (pc z D k) wr) (fun i _ => n - (intOf i).toNat)
  case atStart => exact ⟨0, 0, Nat.zero_le _, rfl, Lib.hid rfl, hF⟩
  case round =>
    obtain ⟨j, k, hj, rfl, hjk, hC⟩ := hrel
    clear hF
    by_cases hlt : j + 1 < n
    · have hcz : wr.cell? ⟨b, off + j, none⟩ = some (.int .i64 (z j)) := by rw [hC.bel.cell h3]; exact hh4.out j (by omega)
      have hcz1 : wr.cell? ⟨b, off + (j + 1), none⟩ = some (.int .i64 (z (j + 1))) := by rw [hC.bel.cell h3]; exact hh4.out (j + 1) (by omega)
      obtain ⟨e0, e1, e2, e3⟩ := part_range (hw4.out j (by omega)).1 (hw4.out j (by omega)).2 (show 1 ≤ D by omega) (by omega)
      obtain ⟨f0, f1, f2, f3⟩ := part_range (hw4.out (j + 1) (by omega)).1 (hw4.out (j + 1) (by omega)).2 (show 1 ≤ D by omega) (by omega)
      obtain ⟨g3, g4, g5, g6⟩ := place_range e2 e3 f2 f3 (by omega)
      have i0 : (0 : Int) ≤ (j : Int) + 1 := by omega
      have i1 : (j : Int) + 1 < (n : Int) := by omega
      have i2 : ((j : Int) + 1).toNat = j + 1 := by omega
      have i3 : (0 : Int) ≤ (j : Int) := by omega
      have i4 : (j : Int) < (n : Int) := by omega
      have HP := Lib.hid (show pq z D k = (z j * (D : Int) / 4294967296 * (D : Int) + z (j + 1) * (D : Int) / 4294967296).toNat by rw [hjk.out]; rfl)
      have hr := pc_range z D k (z j * (D : Int) / 4294967296 * (D : Int) + z (j + 1) * (D : Int) / 4294967296).toNat
      obtain ⟨hr0, hr1⟩ := hr
      have hk : k ≤ 256 := by have := hjk.out; omega
      have hf := hC.free (z j * (D : Int) / 4294967296 * (D : Int) + z (j + 1) * (D : Int) / 4294967296).toNat
      have hq := hC.cell _ g5
      go_wp2
      exact ⟨⟨j + 2, k + 1, by omega, by go_num, Lib.hid (by have := hjk.out; omega), by
        rw [pc_succ, HP.out]; exact hC.hit _⟩, by simp [intOf]; omega⟩
    · have hN := Lib.hid (show k = n / 2 by have := hjk.out; omega)
      go_wp2
      go_ret2
      exact outC (by rw [← hN.out]; exact hC) (by unfold maxLen; omega) (by simp)
set_option maxRecDepth 20000 in
set_option maxHeartbeats 1000000 in
theorem implPairs_in (a : Option Addr) (lo hi n cap : Nat) (z : Nat → Int) (D : Nat) (w : World) (h : SIn w lo hi a n cap (kI z)) (hn : n ≤ 1048576) (hA : areW z n = true) (hD : inR D 1 16 = true) :
    Calls Try.prog 47 #[.slice a n cap, .int .i64 D] w (OutS (D * D) true (kI (pc z D (n / 2))) w) := by
  have hh := h.ints
  obtain ⟨hn1, hn2, hw⟩ := areW_of hA
  obtain ⟨d1, d2⟩ := inR_of hD
  have dd := Nat.mul_le_mul (show D ≤ 16 by omega) (show D ≤ 16 by omega)
  have hmk : ∀ w, (Instr.makeSlice 44 (.int .i64 ((D : Int) * (D : Int))) (.int .i64 ((D : Int) * (D : Int)))).run Try.prog w = .ok (.slice (some ⟨w.heap.size, 0, none⟩) (D * D) (D * D)) (w.alloc (.cells (madeCells #[.int .i64 0] (D * D)) 2)) := fun w => by
    have := run_make_row' (P := Try.prog) 44 2 (.int .i64 0) 8 Try.underlying44 (by kernel_rfl) rfl .i64 .i64 (D * D) (by omega) (by omega) w
    rw [Int.natCast_mul] at this
    exact this
  have p0 : 0 ≤ (D : Int) * (D : Int) := Int.mul_nonneg (by omega) (by omega)
  have p1 : (D : Int) * (D : Int) ≤ 256 := Int.mul_le_mul (show (D : Int) ≤ 16 by omega) (show (D : Int) ≤ 16 by omega) (by omega) (by omega)
  rcases h.ints with h0 | ⟨b, off, rfl, h1, h2, h3, h4⟩
  · omega
  clear h
  unfold maxLen at h2
  have hh4 := Lib.hid h4
  have hw4 := Lib.hid hw
  clear h4 hw
  go_enter Try.func47, Try.ntmps47
  go_upto_region 4 with (first | (go_at_call 40; refine (implAre_any _ _ _ z _ hh hn).mono ?_; rintro e w' ⟨rfl, rfl⟩) | (go_at_call 60; refine (withinR_any _ _ _ _).mono ?_; rintro e w' ⟨rfl, rfl⟩))
  have hF := Counts.start w (D * D) 2
  generalize w.alloc (.cells (madeCells #[.int .i64 0] (D * D)) 2) = W at *
  clear hmk
  go_wp2
  go_loopw [7] (fun i wr => ∃ j k : Nat, j ≤ n ∧ i = .int .i64 j ∧ Hid (j = 2 * k) ∧ Counts w (D * D) (pc z D k) wr) (fun i _ => n - (intOf i).toNat)
  case atStart => exact ⟨0, 0, Nat.zero_le _, rfl, Lib.hid rfl, hF⟩
  case round =>
    obtain ⟨j, k, hj, rfl, hjk, hC⟩ := hrel
    clear hF
    by_cases hlt : j + 1 < n
    · have hcz : wr.cell? ⟨b, off + j, none⟩ = some (.int .i64 (z j)) := by rw [hC.bel.cell h3]; exact hh4.out j (by omega)
      have hcz1 : wr.cell? ⟨b, off + (j + 1), none⟩ = some (.int .i64 (z (j + 1))) := by rw [hC.bel.cell h3]; exact hh4.out (j + 1) (by omega)
      obtain ⟨e0, e1, e2, e3⟩ := part_range (hw4.out j (by omega)).1 (hw4.out j (by omega)).2 (show 1 ≤ D by omega) (by omega)
      obtain ⟨f0, f1, f2, f3⟩ := part_range (hw4.out (j + 1) (by omega)).1 (hw4.out (j + 1) (by omega)).2 (show 1 ≤ D by omega) (by omega)
      obtain ⟨g3, g4, g5, g6⟩ := place_range e2 e3 f2 f3 (by omega)
      have i0 : (0 : Int) ≤ (j : Int) + 1 := by omega
      have i1 : (j : Int) + 1 < (n : Int) := by omega
      have i2 : ((j : Int) + 1).toNat = j + 1 := by omega
      have i3 : (0 : Int) ≤ (j : Int) := by omega
      have i4 : (j : Int) < (n : Int) := by omega
      have HP := Lib.hid (show pq z D k = (z j * (D : Int) / 4294967296 * (D : Int) + z (j + 1) * (D : Int) / 4294967296).toNat by rw [hjk.out]; rfl)
      have hr := pc_range z D k (z j * (D : Int) / 4294967296 * (D : Int) + z (j + 1) * (D : Int) / 4294967296).toNat
      obtain ⟨hr0, hr1⟩ := hr
      have hk : k ≤ 256 := by have := hjk.out; omega
      have hf := hC.free (z j * (D : Int) / 4294967296 * (D : Int) + z (j + 1) * (D : Int) / 4294967296).toNat
      have hq := hC.cell _ g5
      have w1 := IntWalk.i64_in ((j : Int) + 1) (by omega)
      have w2 := IntWalk.i64_in (z j * (D : Int)) (by omega)
      have w3 := Int.tdiv_eq_ediv_of_nonneg (b := 4294967296) e0
      have w4 := IntWalk.i64_in (z j * (D : Int) / 4294967296) (by omega)
      have w5 := IntWalk.i64_in (z j * (D : Int) / 4294967296 * (D : Int)) (by omega)
      have w6 := IntWalk.i64_in (z (j + 1) * (D : Int)) (by omega)
      have w7 := Int.tdiv_eq_ediv_of_nonneg (b := 4294967296) f0
      have w8 := IntWalk.i64_in (z (j + 1) * (D : Int) / 4294967296) (by omega)
      have w9 := IntWalk.i64_in (z j * (D : Int) / 4294967296 * (D : Int) + z (j + 1) * (D : Int) / 4294967296) (by omega)
      have g7 : z j * (D : Int) / 4294967296 * (D : Int) + z (j + 1) * (D : Int) / 4294967296 < (D : Int) * (D : Int) := by rw [← Int.natCast_mul]; exact g6
      have g8 : 0 ≤ z j * (D : Int) / 4294967296 * (D : Int) + z (j + 1) * (D : Int) / 4294967296 := by omega
      go_upto_region 7 with fail
      refine wp_region_still_tail 23 (by kernel_rfl) (by kernel_rfl) ?_
      simp only [List.take_succ_cons, List.take_zero, List.drop_succ_cons, List.drop_zero]
      iterate 23 still_step
      refine wpStill_nil ?_
      change wpList _ _ _ _ _ wr.drew
      clear w1 w2 w3 w4 w5 w6 w7 w8 w9
      replace hC := hC.drewN 1
      change Counts w (D * D) _ wr.drew at hC
      have hf := hC.free (z j * (D : Int) / 4294967296 * (D : Int) + z (j + 1) * (D : Int) / 4294967296).toNat
      have hq := hC.cell _ g5
      generalize wr.drew = W2 at *
      go_wp2
      exact ⟨⟨j + 2, k + 1, by omega, by go_num, Lib.hid (by have := hjk.out; omega), by
        rw [pc_succ, HP.out]; exact hC.hit _⟩, by simp [intOf]; omega⟩
    · have hN := Lib.hid (show k = n / 2 by have := hjk.out; omega)
      go_wp2
      go_ret2
      exact outC (by rw [← hN.out]; exact hC) (by unfold maxLen; omega) (by simp)
end Go.Proofs.Ytlaelfaalgmicaa
