/- Contracts of the functions on seeds. -/
import Derived.Test.YtlaelfaalgmicaaSeedC
namespace Go.Proofs.Ytlaelfaalgmicaa
open Go.RowKit
set_option linter.unusedVariables false

/-- Is a seed valid? -/
def valB (k a b : Int) : Bool := if k == 0 then b % 2 == 1 else if k == 1 then a != 0 else if k == 3 then (a != 0 || b != 0) else k == 2

/-- A seed lies in memory here. -/
def SeedAt (w : World) (B : Nat) (k a b : Int) : Prop := w.cell? ⟨B, 0, none⟩ = some (.int .i64 k) ∧ w.cell? ⟨B, 1, none⟩ = some (.int .u64 a) ∧ w.cell? ⟨B, 2, none⟩ = some (.int .u64 b)

theorem ret_bool {a b : Bool} (h : a = b) : Ending.returned (.bool a) = .returned (.bool b) := by rw [h]

set_option maxHeartbeats 400000 in
theorem implValid_any (k a b : Int) (w : World) (hb : 0 ≤ b) :
    Calls Try.prog 22 #[.agg #[.int .i64 k, .int .u64 a, .int .u64 b]] w fun e w' => e = .returned (.bool (valB k a b)) ∧ Below w.heap.size w w' := by
  go_enter Try.func22, Try.ntmps22
  go_wp2
  all_goals (go_ret; exact ⟨ret_bool (by simp_all [valB]), (Below.refl _ _).alloc (Nat.le_refl _) _⟩)
set_option maxHeartbeats 400000 in
theorem l02Is_any (B : Nat) (k a b : Int) (w : World) (hb : 0 ≤ b) (h : SeedAt w B k a b) :
    Calls Try.prog 61 #[.pointer (some ⟨B, 0, none⟩)] w fun e w' => e = .returned (.bool (valB k a b)) ∧ w = w' := by
  obtain ⟨h0, h1, h2⟩ := h
  go_enter Try.func61, Try.ntmps61
  go_wp2
  all_goals (go_ret; exact ⟨ret_bool (by simp_all [valB]), rfl⟩)
set_option maxHeartbeats 400000 in
theorem specValid_any (k a b : Int) (w : World) (hb : 0 ≤ b) :
    Calls Try.prog 20 #[.agg #[.int .i64 k, .int .u64 a, .int .u64 b]] w fun e w' => e = .returned (.bool (valB k a b)) ∧ Below w.heap.size w w' := by
  go_enter Try.func20, Try.ntmps20
  go_wp2_with (first | (go_at_call 61; refine (l02Is_any _ k a b _ hb ⟨by simp, by simp, by simp⟩).mono ?_; rintro e w' ⟨rfl, rfl⟩))
  go_ret
  exact ⟨rfl, (Below.refl _ _).alloc (Nat.le_refl _) _⟩
end Go.Proofs.Ytlaelfaalgmicaa
