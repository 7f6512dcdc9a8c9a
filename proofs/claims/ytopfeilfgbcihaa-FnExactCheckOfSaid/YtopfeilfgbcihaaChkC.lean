/- Contracts of the functions that reckon a text's check number. -/
import Derived.Test.YtopfeilfgbcihaaBase
import Derived.Test.YtopfeilfgbcihaaChk
namespace Go.Proofs.Ytopfeilfgbcihaa
open Go.RowKit
set_option linter.unusedVariables false
theorem ret_int {k : IntKind} {a b : Int} (h : a = b) : Ending.returned (.int k a) = .returned (.int k b) := by rw [h]
theorem ret_int_bool {k : IntKind} {a b : Int} {c : Bool} (h : a = b) : Ending.returned (.tuple #[.int k a, .bool c]) = .returned (.tuple #[.int k b, .bool c]) := by rw [h]
set_option maxHeartbeats 400000 in
theorem l01Check_any (n : Int) (s : ByteArray) (w : World) (hs : s.size ≤ maxLen) (h1 : 0 ≤ n) (h2 : n ≤ 65002) :
    Calls Try.prog 60 #[.int .i64 n, .string s] w fun e w' => e = .returned (.int .i64 (chk n s.data.toList)) ∧ w = w' := by
  unfold maxLen at hs
  go_enter Try.func60, Try.ntmps60
  go_wp2
  go_loop [0, 5] (fun m i => ∃ k : Nat, k ≤ s.size ∧ i = .int .i64 k ∧ m = .int .i64 (chk n (s.data.toList.take k))) (fun _ i => s.size - (intOf i).toNat)
  case atStart => exact ⟨0, Nat.zero_le _, rfl, rfl⟩
  case round =>
    obtain ⟨k, hk, rfl, rfl⟩ := hrel
    obtain ⟨hr1, hr2⟩ := chk_range n (s.data.toList.take k) h1 (by omega)
    by_cases hlt : k < s.size
    · have HS := Lib.hid (chk_take n s k hlt)
      generalize chk n (s.data.toList.take k) = m at *
      go_wp2
      go_round
      case rel => exact ⟨k + 1, by omega, by go_num, by rw [HS.out, chk_wrap m _ hr1 hr2]⟩
      case measure => simp [intOf]; omega
    · go_wp2
      go_ret
      exact ⟨ret_int (by rw [List.take_of_length_le (by simp; omega)]), rfl⟩
set_option maxHeartbeats 400000 in
theorem implCheckOf_in (n : Int) (s : ByteArray) (w : World) (hs : s.size ≤ maxLen) (h1 : 0 ≤ n) (h2 : n ≤ 65002) :
    Calls Try.prog 23 #[.int .i64 n, .string s] w fun e w' => e = .returned (.tuple #[.int .i64 (chk n s.data.toList), .bool true]) ∧ w = w' := by
  unfold maxLen at hs
  go_enter Try.func23, Try.ntmps23
  go_wp2
  go_loop [0, 12] (fun m i => ∃ k : Nat, k ≤ s.size ∧ i = .int .i64 k ∧ m = .int .i64 (chk n (s.data.toList.take k))) (fun _ i => s.size - (intOf i).toNat)
  case atStart => exact ⟨0, Nat.zero_le _, rfl, rfl⟩
  case round =>
    obtain ⟨k, hk, rfl, rfl⟩ := hrel
    obtain ⟨hr1, hr2⟩ := chk_range n (s.data.toList.take k) h1 (by omega)
    by_cases hlt : k < s.size
    · have HS := Lib.hid (chk_take n s k hlt)
      generalize chk n (s.data.toList.take k) = m at *
      go_wp2
      go_round
      case rel => exact ⟨k + 1, by omega, by go_num, by rw [HS.out, chk_wrap m _ hr1 hr2]⟩
      case measure => simp [intOf]; omega
    · go_wp2
      go_ret2
      exact ⟨ret_int_bool (by rw [List.take_of_length_le (by simp; omega)]), rfl⟩
theorem implCheckOf_out (n : Int) (s : ByteArray) (w : World) (h : n < 0 ∨ 65002 < n) :
    Calls Try.prog 23 #[.int .i64 n, .string s] w fun e w' => e = .returned (.tuple #[.int .i64 0, .bool false]) ∧ w = w' := by
  by_cases h1 : 0 ≤ n
  · have h2 : 65002 < n := by omega
    clear h
    go_enter Try.func23, Try.ntmps23
    go_wp2
    all_goals first | (go_ret2; exact ⟨rfl, rfl⟩) | (exfalso; simp_all; omega)
  · clear h
    go_enter Try.func23, Try.ntmps23
    go_wp2
    all_goals (go_ret2; exact ⟨rfl, rfl⟩)
end Go.Proofs.Ytopfeilfgbcihaa
