/- The tenths of decibels of products of eighths are those of both, but for one. No program in sight. -/
import Derived.Test.YtopfeilfgbcihaaTab
namespace Go.Proofs.Ytopfeilfgbcihaa
open Ieee
set_option linter.unusedVariables false
theorem ixK_spec {k : Nat} (h : ixK k < 4000) : exK k < 16 ∧ biK k (exK k) < 192 ∧ 3145728 ≤ k * 2 ^ (22 - exK k) ∧ ixK k = exK k * 192 + biK k (exK k) := by
  unfold ixK at h ⊢
  rw [fn_eq, fn_eq] at h ⊢
  cases hb : okB k (exK k) (biK k (exK k)) with
  | false => rw [hb, if_neg (by decide)] at h; omega
  | true =>
    unfold okB at hb
    simp only [Bool.and_eq_true] at hb
    exact ⟨Nat.blt_eq.mp hb.1.1, Nat.blt_eq.mp hb.1.2, Nat.le_of_ble_eq_true hb.2, rfl⟩
theorem wd_parts {k : Nat} (h0 : 0 < k) (h1 : k < 65536) : k.log2 ≤ 15 ∧ 4503599627370496 ≤ k * 2 ^ (52 - k.log2) ∧ k * 2 ^ (52 - k.log2) < 9007199254740992 := by
  have hne : k ≠ 0 := by omega
  have hlo := Nat.log2_self_le hne
  have hhi : k < 2 ^ (k.log2 + 1) := Nat.lt_log2_self
  have hl : k.log2 ≤ 15 := by
    have : k.log2 < 16 := (Nat.log2_lt hne).2 (by omega)
    omega
  refine ⟨hl, ?_, ?_⟩
  · have : 2 ^ k.log2 * 2 ^ (52 - k.log2) ≤ k * 2 ^ (52 - k.log2) := Nat.mul_le_mul_right _ hlo
    rw [← Nat.pow_add, show k.log2 + (52 - k.log2) = 52 by omega] at this
    exact this
  · have : k * 2 ^ (52 - k.log2) < 2 ^ (k.log2 + 1) * 2 ^ (52 - k.log2) := Nat.mul_lt_mul_of_pos_right hhi (Nat.two_pow_pos _)
    rw [← Nat.pow_add, show k.log2 + 1 + (52 - k.log2) = 53 by omega] at this
    exact this
theorem wd_lgN {k : Nat} (h0 : 0 < k) (h1 : k < 65536) : lgN (wd k) = (exK k : Int) - 6 ∧ Mid (wd k) := by
  obtain ⟨l1, l2, l3⟩ := wd_parts h0 h1
  unfold lgN exK wd
  generalize k * 2 ^ (52 - k.log2) = M at *
  generalize k.log2 = l at *
  refine ⟨by omega, ⟨by omega, by omega⟩⟩
theorem wd_lgY {k : Nat} (h0 : 0 < k) (h1 : k < 65536) (he : exK k < 16) : In (lgY (wd k)) ((k * 2 ^ (22 - exK k) : Nat) : Int) ((k * 2 ^ (22 - exK k) : Nat) : Int) := by
  obtain ⟨l1, l2, l3⟩ := wd_parts h0 h1
  obtain ⟨hN, hM⟩ := wd_lgN h0 h1
  obtain ⟨T, hT⟩ : ∃ T, T = 1074 := ⟨_, rfl⟩
  obtain ⟨N, hNN⟩ : ∃ N, N = 1052 := ⟨_, rfl⟩
  have hY : lgY (wd k) = (1022 + k.log2 - exK k) * 4503599627370496 + k * 2 ^ (52 - k.log2) := by
    unfold lgY
    rw [hN]
    unfold wd
    generalize k * 2 ^ (52 - k.log2) = M at *
    generalize k.log2 = l at *
    generalize exK k = e at *
    omega
  have hv : rungVal double (lgY (wd k)) = k * 2 ^ (22 - exK k) * GRN := by
    have hr := rungVal_kq double (1022 + k.log2 - exK k) (k * 2 ^ (52 - k.log2)) (by rw [bin_d]; omega) (fun _ => by rw [bin_d]; omega)
    rw [bin_d] at hr
    rw [hY, hr, GRN_at N hNN, Nat.mul_assoc, Nat.mul_assoc, ← Nat.pow_add, ← Nat.pow_add]
    congr 2; omega
  have hs : lgY (wd k) < 9218868437227405312 := by rw [hY]; omega
  have hsv : svd (lgY (wd k)) = ((k * 2 ^ (22 - exK k) : Nat) : Int) * (GRN : Int) := by
    unfold svd
    rw [sgn_small (by omega), rng_small (by omega), hv, if_neg (by decide), Int.natCast_mul]
  exact ⟨by rw [rng_small (by omega), inf_d]; exact hs, by rw [hsv]; exact Int.le_refl _, by rw [hsv]; exact Int.le_refl _⟩
theorem tenths_k {k : Nat} {n : Int} (h0 : 0 < k) (h1 : k < 65536) (hT : Tenths (wd k) n) (hi : ixK k < 4000) : (tL (ixK k) : Int) ≤ n + 500 ∧ n + 500 ≤ (tH (ixK k) : Int) := by
  obtain ⟨he, hb, hv, hx⟩ := ixK_spec hi
  obtain ⟨hN, hM⟩ := wd_lgN h0 h1
  have hY := wd_lgY h0 h1 he
  have hbin : InO (some (lgY (wd k))) (binV (biK k (exK k))) := by
    refine InO.of (hY.mono ?_ ?_)
    · unfold biK; omega
    · unfold biK; omega
  have hm := eqV_is (mt_tab _ hb)
  have ht := t_tab _ he _ hb
  rw [← hx] at ht
  have hf := In.of (fe_in _ he)
  rw [← hN] at ht hf
  cases hv : tV (some (mtab (biK k (exK k)))) (lgN (wd k)) with
  | none => rw [hv] at ht; cases ht
  | some v =>
    rw [hv] at ht
    unfold inT at ht
    simp only [Bool.and_eq_true, decide_eq_true_eq] at ht
    obtain ⟨⟨w1, w2⟩, w3, w4⟩ := ht
    have := tenths_in hT hbin hf (by rw [hm]; exact hv) w1 w2
    omega
theorem okR_all {n i : Nat} : ∀ {M : Nat}, okR n i M = true → ∀ m, m < M → okT i (ixK (8 * (m + 1))) (ixK ((n + 1) * (m + 1))) = true
  | 0, _, m, hm => absurd hm (Nat.not_lt_zero _)
  | M + 1, h, m, hm => by
    unfold okR at h
    rw [fn_eq, fn_eq, Bool.and_eq_true] at h
    by_cases e : m = M
    · subst e; exact h.1
    · exact okR_all h.2 m (by omega)
theorem tenths_half {n m : Nat} (hn : n < 200) (hm : m ≤ n) {a b c : Int} (ha : Tenths (wd (8 * (n + 1))) a) (hb : Tenths (wd (8 * (m + 1))) b) (hc : Tenths (wd ((n + 1) * (m + 1))) c) : (a + b - c ≤ 1 ∧ c - a - b ≤ 1) ∧ (-500 ≤ a ∧ a ≤ 523) ∧ (-500 ≤ b ∧ b ≤ 523) ∧ -500 ≤ c ∧ c ≤ 523 := by
  have h := okN_tab n hn
  unfold okN at h
  rw [fn_eq] at h
  have h := okR_all h m (by omega)
  unfold okT at h
  simp only [Bool.and_eq_true] at h
  obtain ⟨⟨i1, i2, i3⟩, i4, i5⟩ := h
  have i1 := Nat.blt_eq.mp i1
  have i2 := Nat.blt_eq.mp i2
  have i3 := Nat.blt_eq.mp i3
  have i4 := Nat.le_of_ble_eq_true i4
  have i5 := Nat.le_of_ble_eq_true i5
  have hp : 0 < (n + 1) * (m + 1) := Nat.mul_pos (by omega) (by omega)
  have hp2 : (n + 1) * (m + 1) ≤ 200 * 200 := Nat.mul_le_mul (by omega) (by omega)
  obtain ⟨a1, a2⟩ := tenths_k (by omega) (by omega) ha i1
  obtain ⟨b1, b2⟩ := tenths_k (by omega) (by omega) hb i2
  obtain ⟨c1, c2⟩ := tenths_k hp (by omega) hc i3
  have k1 : tH (ixK (8 * (n + 1))) < 1024 := Nat.mod_lt _ (by omega)
  have k2 : tH (ixK (8 * (m + 1))) < 1024 := Nat.mod_lt _ (by omega)
  have k3 : tH (ixK ((n + 1) * (m + 1))) < 1024 := Nat.mod_lt _ (by omega)
  omega
theorem tenths_three {n m : Nat} (hn : n < 200) (hm : m < 200) {a b c : Int} (ha : Tenths (wd (8 * (n + 1))) a) (hb : Tenths (wd (8 * (m + 1))) b) (hc : Tenths (wd ((n + 1) * (m + 1))) c) : (a + b - c ≤ 1 ∧ c - a - b ≤ 1) ∧ (-500 ≤ a ∧ a ≤ 523) ∧ (-500 ≤ b ∧ b ≤ 523) ∧ -500 ≤ c ∧ c ≤ 523 := by
  rcases Nat.le_total m n with h | h
  · exact tenths_half hn h ha hb hc
  · have := tenths_half hm h hb ha (by rwa [Nat.mul_comm] at hc)
    omega
/-! ### The words in 32 bits -/
/-- The word of k 64ths in 32 bits. -/
def ws (k : Nat) : Nat := (120 + k.log2) * 8388608 + k * 2 ^ (23 - k.log2)
theorem ws_parts {k : Nat} (h0 : 0 < k) (h1 : k < 65536) : k.log2 ≤ 15 ∧ 8388608 ≤ k * 2 ^ (23 - k.log2) ∧ k * 2 ^ (23 - k.log2) < 16777216 := by
  have hne : k ≠ 0 := by omega
  have hlo := Nat.log2_self_le hne
  have hhi : k < 2 ^ (k.log2 + 1) := Nat.lt_log2_self
  have hl : k.log2 ≤ 15 := by
    have : k.log2 < 16 := (Nat.log2_lt hne).2 (by omega)
    omega
  refine ⟨hl, ?_, ?_⟩
  · have : 2 ^ k.log2 * 2 ^ (23 - k.log2) ≤ k * 2 ^ (23 - k.log2) := Nat.mul_le_mul_right _ hlo
    rw [← Nat.pow_add, show k.log2 + (23 - k.log2) = 23 by omega] at this
    exact this
  · have : k * 2 ^ (23 - k.log2) < 2 ^ (k.log2 + 1) * 2 ^ (23 - k.log2) := Nat.mul_lt_mul_of_pos_right hhi (Nat.two_pow_pos _)
    rw [← Nat.pow_add, show k.log2 + 1 + (23 - k.log2) = 24 by omega] at this
    exact this
theorem ws_spec {k : Nat} (h0 : 0 < k) (h1 : k < 65536) : 0 < ws k ∧ ws k < 2139095040 ∧ rungVal single (ws k) = k * 2 ^ 143 := by
  obtain ⟨l1, l2, l3⟩ := ws_parts h0 h1
  refine ⟨by unfold ws; omega, by unfold ws; omega, ?_⟩
  have hr := rungVal_kq single (120 + k.log2) (k * 2 ^ (23 - k.log2)) (by rw [bin_s]; omega) (fun _ => by rw [bin_s]; omega)
  rw [bin_s] at hr
  unfold ws
  rw [hr, Nat.mul_assoc, ← Nat.pow_add]
  congr 2; omega
theorem wd_spec {k : Nat} (h0 : 0 < k) (h1 : k < 65536) (E : Nat) (hE : E = 1068) : wd k < 9218868437227405312 ∧ rungVal double (wd k) = k * 2 ^ E := by
  obtain ⟨l1, l2, l3⟩ := wd_parts h0 h1
  refine ⟨by unfold wd; omega, ?_⟩
  have hr := rungVal_kq double (1016 + k.log2) (k * 2 ^ (52 - k.log2)) (by rw [bin_d]; omega) (fun _ => by rw [bin_d]; omega)
  rw [bin_d] at hr
  unfold wd
  rw [hr, Nat.mul_assoc, ← Nat.pow_add]
  congr 2; omega
theorem ws_small {k : Nat} (h0 : 0 < k) (h1 : k < 65536) : sgn single (ws k) = false ∧ rng single (ws k) = ws k ∧ nanB .f32 (ws k) = false := by
  obtain ⟨s1, s2, _⟩ := ws_spec h0 h1
  have hw := sw_s
  have hr : rng single (ws k) = ws k := by unfold rng; exact Nat.mod_eq_of_lt (by omega)
  refine ⟨?_, hr, ?_⟩
  · unfold sgn; rw [Nat.div_eq_of_lt (by omega)]; rfl
  · rw [nanB_rng]
    change decide (single.infRung < rng single (ws k)) = false
    rw [hr, inf_s, decide_eq_false_iff_not]; omega
theorem ws_wide {k : Nat} (h0 : 0 < k) (h1 : k < 65536) : floatToFloatBits .f32 (ws k) .f64 = some (wd k) := by
  obtain ⟨s1, s2, s3⟩ := ws_spec h0 h1
  obtain ⟨g1, g2, g3⟩ := ws_small h0 h1
  obtain ⟨E, hE⟩ : ∃ E, E = 1068 := ⟨_, rfl⟩
  obtain ⟨E2, hE2⟩ : ∃ E, E = 925 := ⟨_, rfl⟩
  obtain ⟨w1, w2⟩ := wd_spec h0 h1 E hE
  obtain ⟨R, r1, r2, r3, _⟩ := widen (ws k) g3
  rw [g1] at r1
  rw [g2] at r3
  rw [← hE2] at r3
  obtain ⟨r4, r5⟩ := r3 (by rw [inf_s]; exact s2)
  have : R = wd k := by
    refine rungVal_inj double ?_
    rw [r5, s3, w2, Nat.mul_assoc, ← Nat.pow_add]
    congr 2; omega
  rw [r1, dword, this]
theorem ws_read {k : Nat} (h0 : 0 < k) (h1 : k < 65536) : ∃ m j : Nat, single.read (ws k) = .number false m (-149 + (j : Int)) ∧ m * 2 ^ j = k * 2 ^ 143 := by
  obtain ⟨s1, s2, s3⟩ := ws_spec h0 h1
  obtain ⟨g1, g2, g3⟩ := ws_small h0 h1
  obtain ⟨m, j, e, v, _⟩ := readRung_fin single false (ws k) (by rw [inf_s]; exact s2)
  refine ⟨m, j, ?_, by rw [v, s3]⟩
  rw [read_eq]
  change readRung single (sgn single (ws k)) (rng single (ws k)) = _
  rw [g1, g2, e, least_s]
/-- The product of eighths in 32 bits. -/
theorem ws_mul {n m : Nat} (hn : 0 < n) (hn2 : n ≤ 200) (hm : 0 < m) (hm2 : m ≤ 200) : floatBits .mul .f32 (ws (8 * n)) (ws (8 * m)) = some (ws (n * m)) := by
  have hp : 0 < n * m := Nat.mul_pos hn hm
  have hp2 : n * m ≤ 200 * 200 := Nat.mul_le_mul hn2 hm2
  obtain ⟨a, i, e1, v1⟩ := ws_read (k := 8 * n) (by omega) (by omega)
  obtain ⟨b, j, e2, v2⟩ := ws_read (k := 8 * m) (by omega) (by omega)
  obtain ⟨s1, s2, s3⟩ := ws_spec hp (by omega)
  obtain ⟨g1, g2, g3⟩ := ws_small hp (by omega)
  show ((single.read (ws (8 * n))).product (single.read (ws (8 * m)))).map single.write = _
  rw [e1, e2]
  simp only [Datum.product, Option.map_some, Option.some.injEq]
  change single.nearest (false ^^ false) (a * b) (-149 + (i : Int) + (-149 + (j : Int))) = _
  rw [nearest_exact (f := single) (false ^^ false) (a * b) _ (-298) (ws (n * m)) (by omega) (by rw [least_s]; omega) (by rw [inf_s]; omega) ?_]
  · unfold Format.word; simp
  · rw [least_s, s3]
    have q1 : (-149 + (i : Int) + (-149 + (j : Int)) - -298).toNat = i + j := by omega
    have q2 : ((-149 : Int) - -298).toNat = 149 := by decide
    rw [q1, q2, Nat.pow_add, Nat.mul_mul_mul_comm, v1, v2]
    generalize hA : 2 ^ 143 = A
    have hB : 2 ^ 149 = 64 * A := by rw [← hA, show (64 : Nat) = 2 ^ 6 from rfl, ← Nat.pow_add]
    rw [hB, show (64 : Nat) = 8 * 8 from rfl]
    ac_rfl
end Go.Proofs.Ytopfeilfgbcihaa
