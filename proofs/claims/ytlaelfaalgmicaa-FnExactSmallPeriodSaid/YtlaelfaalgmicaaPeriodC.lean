/- SmallPeriod: both sides find the first repeat. -/
import Derived.Test.YtlaelfaalgmicaaSplit2C
import Derived.Test.YtlaelfaalgmicaaPeriod
import Derived.Deep.OwnRows
namespace Go.Proofs.Ytlaelfaalgmicaa
open Go.RowKit
set_option linter.unusedVariables false
/-- What the slice of last times holds. -/
def seenV (X : Nat → Int) : Nat → Int → Int
  | 0, _ => 0
  | j + 1, y => if y = X j then (j : Int) + 1 else seenV X j y
theorem seenV_succ (X : Nat → Int) (j : Nat) (y : Int) : seenV X (j + 1) y = if y = X j then (j : Int) + 1 else seenV X j y := rfl
theorem seen_pos (X : Nat → Int) : ∀ (j : Nat) (y : Int), 0 < seenV X j y → ∃ f : Nat, f < j ∧ X f = y ∧ seenV X j y = (f : Int) + 1
  | 0, y, h => by simp [seenV] at h
  | j + 1, y, h => by
    by_cases e : y = X j
    · exact ⟨j, by omega, e.symm, by simp [seenV, e]⟩
    · have q : seenV X (j + 1) y = seenV X j y := by simp [seenV, e]
      rw [q] at h ⊢
      obtain ⟨f, h1, h2, h3⟩ := seen_pos X j y h
      exact ⟨f, by omega, h2, h3⟩
theorem seen_none (X : Nat → Int) : ∀ (j : Nat) (y : Int), ¬ 0 < seenV X j y → ∀ i, i < j → X i ≠ y
  | 0, y, h => fun i hi => absurd hi (Nat.not_lt_zero _)
  | j + 1, y, h => by
    by_cases e : y = X j
    · exact absurd (by rw [seenV_succ, if_pos e]; omega) h
    · have q : seenV X (j + 1) y = seenV X j y := by simp [seenV, e]
      rw [q] at h
      intro i hi
      rcases Nat.lt_or_ge i j with q | q
      · exact seen_none X j y h i q
      · obtain rfl : i = j := by omega
        exact fun e' => e e'.symm
theorem seen_range (X : Nat → Int) (j : Nat) (y : Int) : 0 ≤ seenV X j y ∧ seenV X j y ≤ j := by
  induction j with
  | zero => simp [seenV]
  | succ j ih =>
    rw [seenV_succ]
    split <;> omega
structure Seen (w : World) (m : Nat) (X : Nat → Int) (j : Nat) (wr : World) : Prop where
  bel : Below w.heap.size w wr
  free : ∀ y, wr.frozen? ⟨w.heap.size, y, none⟩ = false
  cell : ∀ y, y < m → wr.cell? ⟨w.heap.size, y, none⟩ = some (.int .i64 (seenV X j y))
theorem cell_store1 {w : World} {b j k : Nat} {v u : Value} (h : w.cell? ⟨b, j, none⟩ = some v) : (w.setCell ⟨b, k, none⟩ u).cell? ⟨b, j, none⟩ = some (if j = k then u else v) := by
  by_cases e : j = k
  · subst e; rw [if_pos rfl]; exact World.cell?_setCell_same _ _ _ h
  · rw [if_neg e]; exact (World.cell?_setCell_other _ _ _ _ (by simp)).trans h
theorem Seen.start (w : World) (m : Nat) (X : Nat → Int) (e : TypeId) : Seen w m X 0 (w.alloc (.cells (madeCells #[.int .i64 0] m) e)) := by
  refine ⟨(Below.refl _ _).alloc (Nat.le_refl _) _, fun j => by simp, fun j hj => ?_⟩
  have h : (madeCells #[Value.int .i64 0] m)[j]? = some (.int .i64 0) := by
    rw [← Array.getElem?_toList, toList_madeCells_one, List.getElem?_replicate, if_pos hj]
  simp [h, seenV]
theorem Seen.step {w : World} {m : Nat} {X : Nat → Int} {j : Nat} {wr : World} (h : Seen w m X j wr) {y : Nat} (hy : X j = y) : Seen w m X (j + 1) (wr.setCell ⟨w.heap.size, y, none⟩ (.int .i64 ((j : Int) + 1))) := by
  refine ⟨h.bel.setCell (Nat.le_refl _) _, fun i => by rw [World.frozen?_setCell]; exact h.free i, fun i hi => ?_⟩
  rw [cell_store1 (h.cell i hi)]
  rw [seenV_succ, hy]
  by_cases e : i = y
  · subst e; rw [if_pos rfl, if_pos rfl]
  · rw [if_neg e, if_neg (by omega)]
theorem bel_drewsN {B : Nat} {w w' : World} (h : Below B w w') (n : Nat) : Below B w (w'.drewN n) := by
  induction n with
  | zero => exact h
  | succ n ih => exact ih.drew
def PerOut (X : Nat → Int) (e : Ending) : Prop := ∃ f n : Nat, IsRep X f n ∧ e = .returned (.tuple #[.int .i64 f, .int .i64 ((n : Int) - f), .bool true])
theorem l00In_true (x lo hi : Int) (w : World) (h : inB x lo hi = true) : Calls Try.prog 59 #[.int .i64 x, .int .i64 lo, .int .i64 hi] w fun e w' => e = .returned (.bool true) ∧ w = w' := by
  have := l00In_any x lo hi w; rw [h] at this; exact this
set_option maxHeartbeats 800000 in
theorem specPeriod_in (m : Nat) (a c x : Int) (w : World) (hm1 : 1 ≤ m) (hm2 : m ≤ 4096) (i1 : inB m 1 4096 = true) (i2 : inB a 0 ((m : Int) - 1) = true) (i3 : inB c 0 ((m : Int) - 1) = true) (i4 : inB x 0 ((m : Int) - 1) = true) :
    Calls Try.prog 18 #[.int .i64 m, .int .i64 a, .int .i64 c, .int .i64 x] w fun e w' => PerOut (sq m a c x) e ∧ Below w.heap.size w w' := by
  have hmk := fun w => run_make_row' (P := Try.prog) 44 2 (.int .i64 0) 8 Try.underlying44 (by kernel_rfl) rfl .i64 .i64 m (by omega) (by omega) w
  go_enter Try.func18, Try.ntmps18
  go_upto_region 4 with (first
    | (go_at_call 59; refine (l00In_true _ _ _ _ (by assumption)).mono ?_; rintro e w1 ⟨rfl, rfl⟩))
  have hF := Seen.start w m (sq m a c x) 2
  generalize w.alloc (.cells (madeCells #[.int .i64 0] m) 2) = W at *
  clear hmk i1
  have hi2 : 0 ≤ a ∧ a ≤ (m : Int) - 1 := by simpa [inB] using i2
  have hi3 : 0 ≤ c ∧ c ≤ (m : Int) - 1 := by simpa [inB] using i3
  have hi4 : 0 ≤ x ∧ x ≤ (m : Int) - 1 := by simpa [inB] using i4
  clear i2 i3 i4
  have hX := sq_range m a c x (by omega) (by omega) (by omega)
  have hS : ∀ i, sq m a c x (i + 1) = (a * sq m a c x i + c) % m := fun i => rfl
  have h0 : sq m a c x 0 = x := rfl
  generalize hXd : sq m a c x = X at *
  go_upto_region 5 with fail
  go_loopw [3, 12] (fun s3 i wr => ∃ j : Nat, s3 = .int .i64 (X j) ∧ i = .int .i64 ((j : Int) + 1) ∧ (∀ i k, i < k → k < j → X i ≠ X k) ∧ Seen w m X j wr) (fun _ i _ => m + 1 - (intOf i).toNat)
  case atStart => exact ⟨0, by rw [h0], rfl, fun i k _ h => absurd h (Nat.not_lt_zero _), hF⟩
  case round =>
    obtain ⟨j, rfl, rfl, hinj, hW⟩ := hrel
    have HJ := Lib.hid hinj
    have hj := inj_le X m hX j hinj
    clear hinj hF
    obtain ⟨y, hy⟩ := Int.eq_ofNat_of_zero_le (hX j).1
    have hym : y < m := by have := (hX j).2; omega
    have hc := hW.cell y hym
    have hfr := hW.free y
    have hsr := seen_range X j y
    have hp0 : 0 ≤ a * (y : Int) := Int.mul_nonneg hi2.1 (by omega)
    have hp1 : a * (y : Int) ≤ 4095 * 4095 := Int.mul_le_mul (by omega) (by omega) (by omega) (by omega)
    have hst := hS j
    rw [hy] at hst ⊢
    have hnx : (wrap64 (wrap64 (a * (y : Int)) + c)).tmod m = X (j + 1) := by
      rw [hst]
      have e1 : wrap64 (a * (y : Int)) = a * y := by generalize a * (y : Int) = p at *; simp only [wrap64]; omega
      rw [e1]
      have e2 : wrap64 (a * (y : Int) + c) = a * y + c := by generalize a * (y : Int) = p at *; simp only [wrap64]; omega
      rw [e2, Int.tmod_eq_emod_of_nonneg (by omega)]
    cases hp : decide (0 < seenV X j y)
    · have hn : ¬ 0 < seenV X j y := by simpa using hp
      have hne := Lib.hid (seen_none X j y hn)
      have hle : seenV X j y ≤ 0 := by omega
      have hin := Lib.hid (inj_step HJ.out (by rw [hy]; exact hne.out))
      have hj' := inj_le X m hX (j + 1) hin.out
      clear hsr
      go_wp2
      exact ⟨⟨j + 1, by rw [hst], by go_num, hin.out, hW.step hy⟩, by simp [intOf]; omega⟩
    · obtain ⟨f, hf1, hf2, hf3⟩ := seen_pos X j y (by simpa using hp)
      rw [hf3] at hc hsr
      clear hp
      go_upto_region 7 with fail
      go_quiet (fail)
      go_wp2
      rw [hXd]
      refine bodyPost_ret (v := .tuple #[.int .i64 f, .int .i64 ((j : Int) - f), .bool true]) (by simp [results, Try.results18, go_sem]; try omega) rfl ⟨⟨f, j, ⟨hf1, by rw [hy, hf2], HJ.out⟩, rfl⟩, bel_drewsN hW.bel _⟩
end Go.Proofs.Ytlaelfaalgmicaa
