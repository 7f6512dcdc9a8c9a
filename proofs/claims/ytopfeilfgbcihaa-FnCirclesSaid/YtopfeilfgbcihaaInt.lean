/- Plain facts on 64-bit IEEE words: the whole part, and the integer. No program in sight. -/
import Derived.Test.YtopfeilfgbcihaaOk
namespace Go.Proofs.Ytopfeilfgbcihaa
open Ieee
theorem cut_le (way : Toward) (neg : Bool) (n drop : Nat) : way.cut neg n drop ≤ n / 2 ^ min drop (n.log2 + 2) + 1 := by
  unfold Toward.cut
  simp only [Nat.one_shiftLeft]
  have h : ∀ b : Bool, b.toNat ≤ 1 := fun b => by cases b <;> decide
  exact Nat.add_le_add_left (h _) _
theorem integral_le (way : Toward) (s : Bool) (m k E : Nat) (h : m * 2 ^ k ≤ 2 ^ (1074 + E)) : ∃ M, Datum.integral way (.number s m (-1074 + (k : Int))) = .number s M 0 ∧ M ≤ 2 ^ E + 1 := by
  obtain ⟨N, hN⟩ : ∃ N, N = 1074 := ⟨_, rfl⟩
  rw [← hN] at h
  refine ⟨_, rfl, Nat.le_trans (cut_le ..) (Nat.add_le_add_right ?_ 1)⟩
  rw [Nat.shiftLeft_eq]
  rcases Nat.lt_or_ge k N with hk | hk
  · have e1 : (-1074 + (k : Int)).toNat = 0 := by omega
    have e2 : (-(-1074 + (k : Int))).toNat = N - k := by omega
    rw [e1, e2, Nat.pow_zero, Nat.mul_one]
    have hm : m ≤ 2 ^ (N - k) * 2 ^ E := by
      rw [← Nat.pow_add]
      have e3 : (2 : Nat) ^ (N + E) = 2 ^ (N - k + E) * 2 ^ k := by rw [← Nat.pow_add]; congr 1; omega
      rw [e3] at h
      exact Nat.le_of_mul_le_mul_right h (Nat.two_pow_pos k)
    rcases Nat.le_total (N - k) (m.log2 + 2) with q | q
    · rw [Nat.min_eq_left q]
      exact Nat.div_le_of_le_mul hm
    · rw [Nat.min_eq_right q]
      have h5 : m < 2 ^ (m.log2 + 2) := Nat.lt_of_lt_of_le (Nat.lt_log2_self (n := m)) (Nat.pow_le_pow_right (by decide) (by omega))
      rw [Nat.div_eq_of_lt h5]
      exact Nat.zero_le _
  · have e1 : (-1074 + (k : Int)).toNat = k - N := by omega
    have e2 : (-(-1074 + (k : Int))).toNat = 0 := by omega
    rw [e1, e2, Nat.zero_min, Nat.pow_zero, Nat.div_one]
    have e3 : (2 : Nat) ^ k = 2 ^ (k - N) * 2 ^ N := by rw [← Nat.pow_add]; congr 1; omega
    rw [e3, Nat.pow_add, ← Nat.mul_assoc, Nat.mul_comm (2 ^ N)] at h
    exact Nat.le_of_mul_le_mul_right h (Nat.two_pow_pos N)
/-- The whole part of a bounded number. -/
theorem whole_ok (way : Toward) {x E : Nat} (h : Ble x E) (hE : E ≤ 1000) : Ble (double.write ((double.read x).integral way)) (E + 1) := by
  obtain ⟨m, k, e, l⟩ := h.read (by omega)
  obtain ⟨M, e2, hM⟩ := integral_le way (sgn double x) m k E l
  rw [e, e2]
  refine ble_write _ _ _ (E + 1) 0 (by omega) ?_
  obtain ⟨N, hN⟩ : ∃ N, N = 1074 := ⟨_, rfl⟩
  rw [← hN, show ((0 : Int) + 1074 + ((0 : Nat) : Int)).toNat = N by omega, Nat.add_zero, Nat.pow_add 2 N, Nat.mul_comm (2 ^ N)]
  refine Nat.mul_le_mul_right _ (Nat.le_trans hM ?_)
  rw [Nat.pow_succ]
  have := Nat.two_pow_pos E
  omega
/-- A bounded number as an integer. -/
theorem int_ok {x E : Nat} (h : Ble x E) (hE : E ≤ 62) : ∃ n, floatToIntVal .f64 x .i64 = some n ∧ -9223372036854775808 ≤ n ∧ n ≤ 9223372036854775807 := by
  obtain ⟨m, k, e, l⟩ := h.read (by omega)
  obtain ⟨M, e2, hM⟩ := integral_le .zero (sgn double x) m k E l
  have hd : FloatKind.f64.decode x = .number (sgn double x) m (-1074 + (k : Int)) := e
  have ht : (FloatKind.f64.decode x).toInt .zero = some (signed (sgn double x) M 0) := by
    rw [hd]
    unfold Datum.toInt
    rw [e2]
  have hp : (2 : Nat) ^ E ≤ 4611686018427387904 := Nat.pow_le_pow_right (n := 2) (by decide) hE
  have hb : -9223372036854775808 ≤ signed (sgn double x) M 0 ∧ signed (sgn double x) M 0 ≤ 9223372036854775807 := by
    rw [signed_val]
    simp only [Nat.pow_zero, Nat.mul_one]
    split <;> omega
  refine ⟨_, ?_, hb⟩
  unfold floatToIntVal
  rw [ht]
  have c1 : IntKind.min .i64 = -9223372036854775808 := by decide
  have c2 : IntKind.max .i64 = 9223372036854775807 := by decide
  simp only [c1, c2]
  rw [if_pos hb]
end Go.Proofs.Ytopfeilfgbcihaa
