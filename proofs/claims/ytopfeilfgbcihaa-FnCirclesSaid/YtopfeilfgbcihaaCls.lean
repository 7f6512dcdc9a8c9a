/- Plain facts on a 32-bit number by its class, and on the number that it is widened to. No program in sight. -/
import Derived.Test.YtopfeilfgbcihaaLog
import Derived.Test.YtopfeilfgbcihaaRoot
namespace Go.Proofs.Ytopfeilfgbcihaa
open Ieee
theorem sw32 {x : Nat} (h : x < 2147483648) : sgn single x = false ∧ rng single x = x := by
  unfold sgn rng; rw [sw_s, Nat.div_eq_of_lt h, Nat.mod_eq_of_lt h]; exact ⟨rfl, rfl⟩
/-- A number above 0 that is finite. -/
def Pos32 (x : Nat) : Prop := 0 < x ∧ x < 2139095040
/-- A number below 0, minus infinity too. -/
def Neg32 (x : Nat) : Prop := 2147483648 < x ∧ x ≤ 4286578688
theorem classes (x : Nat) (hx : x < 4294967296) : nanB .f32 x = true ∨ x = 0 ∨ x = 2147483648 ∨ x = 2139095040 ∨ Pos32 x ∨ Neg32 x := by
  by_cases hn : nanB .f32 x = true
  · exact .inl hn
  · have h : ¬ 2139095040 < rng single x := by
      rw [nanB_rng, f32_fmt, inf_s] at hn; simpa using hn
    unfold rng at h
    rw [sw_s] at h
    unfold Pos32 Neg32
    omega
theorem pos_nan {x : Nat} (h : Pos32 x) : nanB .f32 x = false := by
  have ⟨a, b⟩ := h
  rw [nanB_rng, f32_fmt, inf_s, (sw32 (by omega)).2, decide_eq_false_iff_not]; omega
theorem neg_parts {x : Nat} (h : Neg32 x) : sgn single x = true ∧ rng single x = x - 2147483648 := by
  have ⟨a, b⟩ := h
  unfold sgn rng
  rw [sw_s, show x / 2147483648 = 1 by omega, show x % 2147483648 = x - 2147483648 by omega]
  exact ⟨rfl, rfl⟩
theorem neg_nan {x : Nat} (h : Neg32 x) : nanB .f32 x = false := by
  have ⟨a, b⟩ := h
  rw [nanB_rng, f32_fmt, inf_s, (neg_parts h).2, decide_eq_false_iff_not]; omega
theorem sr_pos {x : Nat} (h : Pos32 x) : sr single x = x := by
  have ⟨a, b⟩ := h
  unfold sr; rw [(sw32 (by omega)).1, (sw32 (by omega)).2]; rfl
theorem sr_neg {x : Nat} (h : Neg32 x) : sr single x = -((x - 2147483648 : Nat) : Int) := by
  unfold sr; rw [(neg_parts h).1, (neg_parts h).2, if_pos rfl]
theorem ord32 {x y : Nat} (hx : nanB .f32 x = false) (hy : nanB .f32 y = false) : FloatKind.f32.format.order x y = some (compare (sr single x) (sr single y)) := order_sr .f32 x y hx hy
theorem sr0 : sr single 0 = 0 := sr_zero single
theorem cmp_gt {a b : Int} (h : b < a) : compare a b = .gt := by rw [Int.compare_eq_gt]; omega
theorem cmp_ltI {a b : Int} (h : a < b) : compare a b = .lt := by rw [Int.compare_eq_lt]; omega
theorem cmp_eqI (a : Int) : compare a a = .eq := by simp
theorem pos_eq {x : Nat} (h : Pos32 x) : (FloatKind.f32.format.order x 0 == some .eq) = false := by
  rw [ord32 (pos_nan h) (nan_zero .f32), sr_pos h, sr0, cmp_gt (by have := h.1; omega)]; rfl
theorem pos_lt {x : Nat} (h : Pos32 x) : (FloatKind.f32.format.order x 0 == some .lt) = false := by
  rw [ord32 (pos_nan h) (nan_zero .f32), sr_pos h, sr0, cmp_gt (by have := h.1; omega)]; rfl
theorem pos_ne {x : Nat} (h : Pos32 x) : (FloatKind.f32.format.order x x != some .eq) = false := by
  rw [ord32 (pos_nan h) (pos_nan h), cmp_eqI]; rfl
theorem neg_eq {x : Nat} (h : Neg32 x) : (FloatKind.f32.format.order x 0 == some .eq) = false := by
  rw [ord32 (neg_nan h) (nan_zero .f32), sr_neg h, sr0, cmp_ltI (by have := h.1; omega)]; rfl
theorem neg_lt {x : Nat} (h : Neg32 x) : (FloatKind.f32.format.order x 0 == some .lt) = true := by
  rw [ord32 (neg_nan h) (nan_zero .f32), sr_neg h, sr0, cmp_ltI (by have := h.1; omega)]; rfl
theorem neg_ne {x : Nat} (h : Neg32 x) : (FloatKind.f32.format.order x x != some .eq) = false := by
  rw [ord32 (neg_nan h) (neg_nan h), cmp_eqI]; rfl
theorem nan_eq {x : Nat} (h : nanB .f32 x = true) : (FloatKind.f32.format.order x 0 == some .eq) = false := by
  rw [(order_none_iff .f32 x 0).2 (.inl h)]; rfl
theorem nan_lt {x : Nat} (h : nanB .f32 x = true) : (FloatKind.f32.format.order x 0 == some .lt) = false := by
  rw [(order_none_iff .f32 x 0).2 (.inl h)]; rfl
theorem nan_ne {k : FloatKind} {x : Nat} (h : nanB k x = true) : (k.format.order x x != some .eq) = true := by rw [ne_self, h]
theorem pos_fin {x : Nat} (h : Pos32 x) (w : World) : (FloatKind.f32.format.order (fval .sub .f32 x x w) 0 == some .eq) = true := by
  rw [fin_walk]
  have ⟨a, b⟩ := h
  obtain ⟨m, k, e, _⟩ := readRung_fin single (sgn single x) (rng single x) (by rw [inf_s, (sw32 (by omega)).2]; omega)
  unfold finB
  have : FloatKind.f32.decode x = readRung single (sgn single x) (rng single x) := rfl
  rw [this, e]
/-- A positive finite number, widened. -/
theorem pos_wide {x : Nat} (h : Pos32 x) : ∃ R, Mid R ∧ (∀ w, cval .f32 x .f64 w = R) ∧ cN .f32 x .f64 = 0 := by
  have ⟨a, b⟩ := h
  obtain ⟨R, e, hR, h1, _⟩ := widen x (pos_nan h)
  obtain ⟨hR2, hv⟩ := h1 (by rw [inf_s, (sw32 (by omega)).2]; omega)
  rw [(sw32 (by omega)).1, dword] at e
  rw [(sw32 (by omega)).2] at hv
  refine ⟨R, ⟨?_, ?_⟩, fun w => by rw [cval, e]; rfl, by rw [cN, e]; rfl⟩
  · refine (rungVal_le_iff double).1 ?_
    obtain ⟨K, hK⟩ : ∃ K, K = 873 := ⟨_, rfl⟩
    have h2 := rungVal_kq double K 4503599627370496 (by rw [bin_d]; omega) (fun _ => by rw [bin_d]; omega)
    rw [bin_d] at h2
    obtain ⟨Q, hQ⟩ : ∃ Q, Q = 925 := ⟨_, rfl⟩
    rw [← hQ] at hv
    have h3 : rungVal single 1 ≤ rungVal single x := rungVal_le single (by omega)
    have h4 : rungVal single 1 = 1 := by decide
    rw [hv, show (3936146074321813504 : Nat) = K * 4503599627370496 + 4503599627370496 by rw [hK], h2]
    have h9 : (4503599627370496 : Nat) * 2 ^ K = 2 ^ Q := by
      rw [show Q = 52 + K by omega, Nat.pow_add 2 52]
    rw [h9]
    exact Nat.le_mul_of_pos_left _ (by omega)
  · have h5 := wide_ble (x := x) default (pos_nan h) (by rw [inf_s, (sw32 (by omega)).2]; omega)
    have h6 : cval .f32 x .f64 default = R := by rw [cval, e]; rfl
    rw [h6] at h5
    have h7 := h5.2
    rw [rng_small (by rw [inf_d] at hR; omega)] at h7
    have h8 : pw 128 = 5183643171103440896 := by decide
    rw [h8] at h7; exact h7
/-- A negative number, widened. -/
theorem neg_wide {x : Nat} (h : Neg32 x) : ∃ R, 9223372036854775808 < R ∧ R ≤ 18442240474082181120 ∧ (∀ w, cval .f32 x .f64 w = R) ∧ cN .f32 x .f64 = 0 := by
  have ⟨a, b⟩ := h
  obtain ⟨R, e, hR, h1, h2⟩ := widen x (neg_nan h)
  rw [(neg_parts h).1, word_sign, if_pos rfl] at e
  rw [(neg_parts h).2] at h1 h2
  have hpos : 0 < R := by
    by_cases hc : x - 2147483648 < single.infRung
    · obtain ⟨_, hv⟩ := h1 hc
      rcases Nat.eq_zero_or_pos R with hz | hz
      · subst hz
        have z0 : rungVal double 0 = 0 := by unfold rungVal; rw [if_pos (bin_pos _)]
        obtain ⟨Q, hQ⟩ : ∃ Q, Q = 925 := ⟨_, rfl⟩
        rw [z0, ← hQ] at hv
        have h3 : rungVal single 1 ≤ rungVal single (x - 2147483648) := rungVal_le single (by omega)
        have h4 : rungVal single 1 = 1 := by decide
        have h5 := Nat.mul_eq_zero.1 hv.symm
        rcases h5 with h5 | h5
        · omega
        · exact absurd h5 (Nat.ne_of_gt (Nat.two_pow_pos _))
      · exact hz
    · rw [h2 (by rw [inf_s] at *; omega), inf_d]; omega
  rw [inf_d] at hR
  exact ⟨9223372036854775808 + R, by omega, by omega, fun w => by rw [cval, e]; rfl, by rw [cN, e]; rfl⟩
theorem neg64 {R : Nat} (h0 : 9223372036854775808 < R) (h1 : R ≤ 18442240474082181120) : nanB .f64 R = false ∧ sr double R = -((R - 9223372036854775808 : Nat) : Int) := by
  have s : sgn double R = true := by unfold sgn; rw [sw_d, show R / 9223372036854775808 = 1 by omega]; rfl
  have r : rng double R = R - 9223372036854775808 := by unfold rng; rw [sw_d]; omega
  refine ⟨?_, by unfold sr; rw [s, r, if_pos rfl]⟩
  rw [nanB_rng, f64_fmt, inf_d, r, decide_eq_false_iff_not]; omega
theorem neg64_lt {R : Nat} (h0 : 9223372036854775808 < R) (h1 : R ≤ 18442240474082181120) : (FloatKind.f64.format.order R 0 == some .lt) = true := by
  have ⟨a, b⟩ := neg64 h0 h1
  rw [order_sr .f64 R 0 a (nan_zero .f64), f64_fmt, b, sr_zero, cmp_ltI (by omega)]; rfl
theorem neg64_ne {R : Nat} (h0 : 9223372036854775808 < R) (h1 : R ≤ 18442240474082181120) : (FloatKind.f64.format.order R R != some .eq) = false := by
  rw [ne_self, (neg64 h0 h1).1]
end Go.Proofs.Ytopfeilfgbcihaa
