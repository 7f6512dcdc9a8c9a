/- What the map of first times reads as. -/
import Derived.Test.YtlaelfaalgmicaaPeriodC
import Derived.Maps.OwnSet
import Derived.Maps.OwnOps
import Derived.Maps.Own
namespace Go.Proofs.Ytlaelfaalgmicaa
open Go.RowKit Go.Maps
set_option linter.unusedVariables false
def mapD {H : Type} (X : Nat → Int) : Nat → DataW H
  | 0 => .map []
  | j + 1 => (mapD X j).put (.int .i64 (X j)) (.lit (.int .i64 j))
theorem mapD_is {H : Type} (X : Nat → Int) : ∀ j, IsMap (mapD (H := H) X j)
  | 0 => isMap_empty
  | j + 1 => (mapD_is X j).put _ _
theorem mapD_has {H : Type} (X : Nat → Int) (y : Int) : ∀ j, Maps.has (mapD (H := H) X j) (.int .i64 y) = decide (0 < seenV X j y)
  | 0 => by simp [mapD, seenV, Maps.has]
  | j + 1 => by
    unfold mapD
    rw [seenV_succ]
    by_cases e : y = X j
    · subst e
      rw [if_pos rfl, has_put_same (mapD_is X j) (by trivial)]
      exact (decide_eq_true (by omega)).symm
    · rw [if_neg e, has_put_other (by simpa using e), mapD_has X y j]
theorem mapD_at {H : Type} (X : Nat → Int) (y : Int) (z : DataW H) : ∀ j, (mapD (H := H) X j).atKey (.int .i64 y) z = if 0 < seenV X j y then .lit (.int .i64 (seenV X j y - 1)) else z
  | 0 => by simp [mapD, seenV, DataW.atKey]
  | j + 1 => by
    unfold mapD
    rw [seenV_succ]
    by_cases e : y = X j
    · subst e
      rw [if_pos rfl, atKey_put_same (mapD_is X j) (by trivial), if_pos (by omega)]
      simp
    · rw [if_neg e, atKey_put_other (by simpa using e), mapD_at X y z j]
theorem lit_eq {x y : Int} (h : (DataW.lit (.int .i64 x) : DataW Unit) = .lit (.int .i64 y)) : x = y := by
  injection h with h
  injection h
theorem lawK : Keyed Try.prog 2 := int_keyed Try.underlying2
theorem zeroK (w : World) : (zeroValue 2).run Try.prog w = .ok (.int .i64 0) w := by kernel_rfl
theorem within_true (x lo hi : Int) (w : World) (h : inB x lo hi = true) : Calls Try.prog 60 #[.int .i64 x, .int .i64 lo, .int .i64 hi] w fun e w' => e = .returned (.bool true) ∧ w = w' := by
  have := within_any x lo hi w; rw [h] at this; exact this
set_option maxHeartbeats 800000 in
theorem implPeriod_in (m : Nat) (a c x : Int) (w : World) (hm1 : 1 ≤ m) (hm2 : m ≤ 4096) (i1 : inB m 1 4096 = true) (i2 : inB a 0 ((m : Int) - 1) = true) (i3 : inB c 0 ((m : Int) - 1) = true) (i4 : inB x 0 ((m : Int) - 1) = true) :
    Calls Try.prog 19 #[.int .i64 m, .int .i64 a, .int .i64 c, .int .i64 x] w fun e w' => PerOut (sq m a c x) e ∧ Below w.heap.size w w' := by
  have hmm := @run_makeMap Try.prog
  go_enter Try.func19, Try.ntmps19
  go_upto_region 4 with (first
    | (go_at_call 60; refine (within_true _ _ _ _ (by assumption)).mono ?_; rintro e w1 ⟨rfl, rfl⟩))
  have hi2 : 0 ≤ a ∧ a ≤ (m : Int) - 1 := by simpa [inB] using i2
  have hi3 : 0 ≤ c ∧ c ≤ (m : Int) - 1 := by simpa [inB] using i3
  have hi4 : 0 ≤ x ∧ x ≤ (m : Int) - 1 := by simpa [inB] using i4
  clear i1 i2 i3 i4 hmm
  have hX := sq_range m a c x (by omega) (by omega) (by omega)
  have hS : ∀ i, sq m a c x (i + 1) = (a * sq m a c x i + c) % m := fun i => rfl
  have h0 : sq m a c x 0 = x := rfl
  generalize hXd : sq m a c x = X at *
  go_upto_region 5 with fail
  go_loopw [3, 12, 13, 14] (fun s3 i _ _ wr => ∃ j : Nat, s3 = .int .i64 (X j) ∧ i = .int .i64 j ∧ (∀ i k, i < k → k < j → X i ≠ X k) ∧ wr.ownsMap Try.prog 2 (plainElem (H := Unit) Try.prog 2) w.heap.size j (mapD X j) ∧ Below w.heap.size w wr) (fun _ i _ _ _ => m + 1 - (intOf i).toNat)
  case atStart => exact ⟨0, by rw [h0], rfl, fun i k _ h => absurd h (Nat.not_lt_zero _), World.ownsMap_made _ _ _ _, (Below.refl _ _).alloc (Nat.le_refl _) _⟩
  case round =>
    obtain ⟨j, rfl, rfl, hinj, hown, hnx⟩ := hrel
    have HJ := Lib.hid hinj
    have hj := inj_le X m hX j hinj
    clear hinj
    have hrx := hX j
    generalize hy : X j = y at *
    have hp0 : 0 ≤ a * y := Int.mul_nonneg hi2.1 (by omega)
    have hp1 : a * y ≤ 4095 * 4095 := Int.mul_le_mul (by omega) (by omega) (by omega) (by omega)
    have hst := hS j
    rw [hy] at hst
    have hky : keyOf Try.prog 2 (.int .i64 y) = some (.int .i64 y) := keyOf_int_mk Try.underlying2 (WalkArith.wf_i64 (by omega))
    cases hp : decide (0 < seenV X j y)
    · have hn : ¬ 0 < seenV X j y := by simpa using hp
      have hne := Lib.hid (seen_none X j y hn)
      have hin := Lib.hid (inj_step HJ.out (by rw [hy]; exact hne.out))
      have hj' := inj_le X m hX (j + 1) hin.out
      have hh : Maps.has (mapD (H := Unit) X j) (.int .i64 y) = false := by rw [mapD_has, hp]
      go_wp2_with (first
        | (at_lookup; refine wpList_lookup_own_ok_int _ rfl _ _ 68 rfl 2 2 .i64 lawK Try.underlying68 Try.underlying2 (zeroK _) w.heap.size j _ rfl hown _ _ rfl hky ?_; intro cc hat hwc; rw [hh])
        | (at_mapUpdate; refine wpList_mapUpdate_own _ rfl _ _ _ 68 rfl 2 2 lawK Try.underlying68 _ w.heap.size j _ rfl hown (by unfold maxLen; omega) _ _ _ rfl rfl hky _ [] (plainElem_int Try.underlying2 (WalkArith.wf_i64 (by omega))) ?_; intro w1 hown1 hgrow1))
      exact ⟨⟨j + 1, by rw [hst], by go_num, hin.out, by unfold mapD; rw [hy]; exact hown1, hnx.grown hgrow1 hnx.size (fun q hq => by cases hq; exact Nat.le_refl _)⟩, by simp [intOf]; omega⟩
    · have hpos : 0 < seenV X j y := by simpa using hp
      obtain ⟨f, hf1, hf2, hf3⟩ := seen_pos X j y hpos
      have hh : Maps.has (mapD (H := Unit) X j) (.int .i64 y) = true := by rw [mapD_has, hp]
      have hat0 : (mapD (H := Unit) X j).atKey (.int .i64 y) (.lit (.int .i64 0)) = .lit (.int .i64 (f : Int)) := by
        rw [mapD_at, if_pos hpos, hf3, Int.add_sub_cancel]
      clear hp
      go_upto_region 8 with (first
        | (at_lookup; refine wpList_lookup_own_ok_int _ rfl _ _ 68 rfl 2 2 .i64 lawK Try.underlying68 Try.underlying2 (zeroK _) w.heap.size j _ rfl hown _ _ rfl hky ?_; intro cc hat hwc; rw [hh]; have hcc := lit_eq (hat0.symm.trans hat); clear hat))
      go_wp2
      rw [hXd]
      refine bodyPost_ret (v := .tuple #[.int .i64 f, .int .i64 ((j : Int) - f), .bool true]) (by simp [results, Try.results19, go_sem, ← hcc]; try omega) rfl ⟨⟨f, j, ⟨hf1, by rw [hy, hf2], HJ.out⟩, rfl⟩, hnx⟩
theorem l00In_eq (x lo hi : Int) (v : Bool) (w : World) (h : inB x lo hi = v) : Calls Try.prog 59 #[.int .i64 x, .int .i64 lo, .int .i64 hi] w fun e w' => e = .returned (.bool v) ∧ w = w' := by
  have := l00In_any x lo hi w; rw [h] at this; exact this
set_option maxHeartbeats 800000 in
theorem specPeriod_out (m a c x : Int) (w : World) (h : inB m 1 4096 = false ∨ (inB m 1 4096 = true ∧ (inB a 0 (m - 1) = false ∨ (inB a 0 (m - 1) = true ∧ (inB c 0 (m - 1) = false ∨ (inB c 0 (m - 1) = true ∧ inB x 0 (m - 1) = false)))))) :
    Calls Try.prog 18 #[.int .i64 m, .int .i64 a, .int .i64 c, .int .i64 x] w fun e w' => e = .returned (.tuple #[.int .i64 0, .int .i64 0, .bool false]) ∧ w = w' := by
  rcases h with i1 | ⟨i1, h⟩
  · go_enter Try.func18, Try.ntmps18
    go_wp2_with (first | (go_at_call 59; refine (l00In_eq _ _ _ _ _ (by assumption)).mono ?_; rintro e w1 ⟨rfl, rfl⟩))
    exact bodyPost_ret (v := .tuple #[.int .i64 0, .int .i64 0, .bool false]) (by simp [results, Try.results18, go_sem]) rfl ⟨rfl, rfl⟩
  have hm : 1 ≤ m ∧ m ≤ 4096 := by simpa [inB] using i1
  rcases h with i2 | ⟨i2, i3 | ⟨i3, i4⟩⟩ <;>
  · go_enter Try.func18, Try.ntmps18
    go_wp2_with (first | (go_at_call 59; refine (l00In_eq _ _ _ _ _ (by assumption)).mono ?_; rintro e w1 ⟨rfl, rfl⟩))
    exact bodyPost_ret (v := .tuple #[.int .i64 0, .int .i64 0, .bool false]) (by simp [results, Try.results18, go_sem]) rfl ⟨rfl, rfl⟩
theorem within_eq (x lo hi : Int) (v : Bool) (w : World) (h : inB x lo hi = v) : Calls Try.prog 60 #[.int .i64 x, .int .i64 lo, .int .i64 hi] w fun e w' => e = .returned (.bool v) ∧ w = w' := by
  have := within_any x lo hi w; rw [h] at this; exact this
set_option maxHeartbeats 800000 in
theorem implPeriod_out (m a c x : Int) (w : World) (h : inB m 1 4096 = false ∨ (inB m 1 4096 = true ∧ (inB a 0 (m - 1) = false ∨ (inB a 0 (m - 1) = true ∧ (inB c 0 (m - 1) = false ∨ (inB c 0 (m - 1) = true ∧ inB x 0 (m - 1) = false)))))) :
    Calls Try.prog 19 #[.int .i64 m, .int .i64 a, .int .i64 c, .int .i64 x] w fun e w' => e = .returned (.tuple #[.int .i64 0, .int .i64 0, .bool false]) ∧ w = w' := by
  rcases h with i1 | ⟨i1, h⟩
  · go_enter Try.func19, Try.ntmps19
    go_wp2_with (first | (go_at_call 60; refine (within_eq _ _ _ _ _ (by assumption)).mono ?_; rintro e w1 ⟨rfl, rfl⟩))
    exact bodyPost_ret (v := .tuple #[.int .i64 0, .int .i64 0, .bool false]) (by simp [results, Try.results19, go_sem]) rfl ⟨rfl, rfl⟩
  have hm : 1 ≤ m ∧ m ≤ 4096 := by simpa [inB] using i1
  rcases h with i2 | ⟨i2, i3 | ⟨i3, i4⟩⟩ <;>
  · go_enter Try.func19, Try.ntmps19
    go_wp2_with (first | (go_at_call 60; refine (within_eq _ _ _ _ _ (by assumption)).mono ?_; rintro e w1 ⟨rfl, rfl⟩))
    exact bodyPost_ret (v := .tuple #[.int .i64 0, .int .i64 0, .bool false]) (by simp [results, Try.results19, go_sem]) rfl ⟨rfl, rfl⟩
end Go.Proofs.Ytlaelfaalgmicaa
