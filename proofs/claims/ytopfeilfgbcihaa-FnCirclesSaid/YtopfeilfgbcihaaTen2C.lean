/- TenthsOf: both sides. -/
import Derived.Test.YtopfeilfgbcihaaTenC
namespace Go.Proofs.Ytopfeilfgbcihaa
open Go.RowKit
set_option linter.unusedVariables false
set_option maxHeartbeats 400000 in
theorem implTen_pos (x R : Nat) (n : Int) (f l : Bool) (w : World) (h : Asked x f l true) (hM : Mid R) (hT : Tenths R n) (hW : ∀ w, cval .f32 x .f64 w = R) (hN : cN .f32 x .f64 = 0) : Calls Try.prog 44 #[.float .f32 x] w fun e w' => e = .returned (.tuple #[.int .i64 n, .bool true]) ∧ Below w.heap.size w w' := by
  obtain ⟨L, P, Q, L1, L2, L3, L4, L5, L6⟩ := hT.steps
  have H := Lib.hid h
  clear h hT
  have v1 := fun w => fval_some L3 w
  have n1 := fN_some L3
  have v2 := fun w => fval_some L4 w
  have n2 := fN_some L4
  have v3 := fun w => ext_floor Q w L5
  have v4 := fun w => ival_some L6 w
  have n4 := iN_some L6
  have L1 := Lib.hid L1
  clear L3 L4 L6
  go_enter Try.func44, Try.ntmps44
  go_wp2_with (first | (go_at_call 70; refine (logarithm_any R _ hM).mono ?_; rintro e w' ⟨r, m, hr, rfl, rfl⟩; obtain rfl := av_is hr L1.out) | (go_at_call 82; refine (arePos_any _ _ x f l _ _ H.out (by simp)).mono ?_; rintro e w' ⟨rfl, m0, rfl⟩) | go_in)
  go_ret2
  exact ⟨rfl, bel_drewsX (((Below.refl _ _).alloc (Nat.le_refl _) _)) _⟩
theorem implTen_not (x : Nat) (f l : Bool) (w : World) (h : Asked x f l false) : Calls Try.prog 44 #[.float .f32 x] w fun e w' => e = .returned (.tuple #[.int .i64 0, .bool false]) ∧ Below w.heap.size w w' := by
  have H := Lib.hid h
  clear h
  go_enter Try.func44, Try.ntmps44
  go_wp2_with (first | (go_at_call 82; refine (arePos_any _ _ x f l _ _ H.out (by simp)).mono ?_; rintro e w' ⟨rfl, m0, rfl⟩) | go_in)
  go_ret2
  exact ⟨rfl, bel_drewsX (((Below.refl _ _).alloc (Nat.le_refl _) _)) _⟩
set_option maxHeartbeats 400000 in
theorem specTen_pos (x R : Nat) (n : Int) (f l : Bool) (w : World) (h : Asked x f l true) (hM : Mid R) (hT : Tenths R n) (hW : ∀ w, cval .f32 x .f64 w = R) (hN : cN .f32 x .f64 = 0) : Calls Try.prog 43 #[.float .f32 x] w fun e w' => e = .returned (.tuple #[.int .i64 n, .bool true]) ∧ Below w.heap.size w w' := by
  obtain ⟨L, P, Q, L1, L2, L3, L4, L5, L6⟩ := hT.steps
  have t1 := h.fin
  have t2 := h.leq
  obtain ⟨rfl, rfl⟩ : f = true ∧ l = false := by have := h.both; revert this; cases f <;> cases l <;> simp
  have H := Lib.hid h
  clear h hT
  have v1 := fun w => fval_some L3 w
  have n1 := fN_some L3
  have v2 := fun w => fval_some L4 w
  have n2 := fN_some L4
  have v3 := fun w => ext_floor Q w L5
  have v4 := fun w => ival_some L6 w
  have n4 := iN_some L6
  have L1 := Lib.hid L1
  clear L3 L4 L6
  go_enter Try.func43, Try.ntmps43
  go_wp2_with (first | (go_at_call 95; refine (l01LogWide_any R _ hM).mono ?_; rintro e w' ⟨r, m, hr, rfl, rfl⟩; obtain rfl := av_is hr L1.out) | go_in | go_in)
  go_ret2
  exact ⟨rfl, bel_drewsX (Below.refl _ _) _⟩
theorem specTen_not (x : Nat) (f l : Bool) (w : World) (h : Asked x f l false) : Calls Try.prog 43 #[.float .f32 x] w fun e w' => e = .returned (.tuple #[.int .i64 0, .bool false]) ∧ Below w.heap.size w w' := by
  have t1 := h.fin
  have t2 := h.leq
  have t3 := h.both
  have H := Lib.hid h
  clear h
  cases f <;> cases l <;> first | (cases t3; done) | skip
  all_goals
    clear t3
    go_enter Try.func43, Try.ntmps43
    go_wp2_with (first | go_in | go_in)
    go_ret2
    exact ⟨rfl, bel_drewsX (Below.refl _ _) _⟩
end Go.Proofs.Ytopfeilfgbcihaa
