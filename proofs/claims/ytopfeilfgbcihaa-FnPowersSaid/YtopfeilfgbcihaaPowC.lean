/- FnPowers: the small functions of the law. -/
import Derived.Test.YtopfeilfgbcihaaExpC
import Derived.Test.YtopfeilfgbcihaaPow
import Derived.Test.YtopfeilfgbcihaaLnC
namespace Go.Proofs.Ytopfeilfgbcihaa
open Go.RowKit
set_option linter.unusedVariables false
theorem lnNumber_tab (i : Nat) (hi : i < 65) (w : World) : Calls Try.prog 35 #[.float .f32 (e32 (i + 32))] w fun e w' => e = .returned (.float .f32 (l32 (i + 32))) ∧ ∃ m, w' = w.drewN m := by
  obtain ⟨_, _, _, _, _, _, _, h8, h9, h10⟩ := okE_of (i + 32) (by omega)
  obtain ⟨R, hM, hW, hN⟩ := pos_wide ⟨h9, h10⟩
  have hR : R = e64 (i + 32) := (hW w).symm.trans (conv_is h8 w)
  have ht := l_tab i hi
  simp only [Bool.and_eq_true, beq_iff_eq] at ht
  refine (implLn_pos _ R w ⟨h9, h10⟩ hM hW hN).mono ?_
  rintro e w' ⟨r, m, hr, rfl, rfl⟩
  rw [hR, ht.1.1] at hr
  obtain rfl := av_is hr
  exact ⟨rfl, _, rfl⟩
theorem gap_tab (a b g : Nat) (w : World) (h : gapA a b = some g) : Calls Try.prog 34 #[.float .f64 a, .float .f64 b] w fun e w' => e = .returned (.float .f64 g) ∧ w' = w := by
  unfold gapA at h
  cases ho : FloatKind.f64.format.order a b == some .lt with
  | true =>
    rw [ho, if_pos rfl] at h
    have v1 := fun w => fval_some h w
    have n1 := fN_some h
    clear h
    go_enter Try.func34, Try.ntmps34
    go_wp2
    go_ret
    exact ⟨rfl, rfl⟩
  | false =>
    rw [ho, if_neg (by decide)] at h
    have v1 := fun w => fval_some h w
    have n1 := fN_some h
    clear h
    go_enter Try.func34, Try.ntmps34
    go_wp2
    go_ret
    exact ⟨rfl, rfl⟩
/-- Bytes that came in, as the walks ask them. -/
def BytesIn (w : World) (a : Option Addr) (n : Nat) : Prop := n = 0 ∨ ∃ x : Addr, a = some x ∧ ∀ i, i < n → ∃ v : Nat, v < 256 ∧ w.cell? (x.add i) = some (.int .u8 v)
theorem bytesIn_of {w : World} {a : Option Addr} {len cap : Nat} {zs : List Int} (h : IsRow .u8 w a len cap zs) : BytesIn w a len := by
  rcases h with ⟨rfl, rfl, rfl, rfl⟩ | ⟨x, rfl, h1, h2, h3, h4, h5⟩
  · exact .inl rfl
  · refine .inr ⟨x, rfl, fun i hi => ?_⟩
    have hi2 : i < zs.length := by omega
    have hg : zs.getD i 0 = zs[i] := by simp [hi2]
    have hw := h5 (zs.getD i 0) (by rw [hg]; exact List.getElem_mem hi2)
    have hc := h4 i hi2
    generalize zs.getD i 0 = y at *
    have hb : (IntKind.u8.bits : Nat) = 8 := rfl
    simp [Lit.wf, IntKind.min, IntKind.max, IntKind.signed, hb] at hw
    exact ⟨y.toNat, by omega, by rw [hc, Int.toNat_of_nonneg hw.1]⟩
theorem b10At_zero (a : Option Addr) (len cap : Nat) (n : Nat) (w : World) (h : BytesIn w a len) (h1 : 1 < n) (h2 : n ≤ 1000) : Calls Try.prog 33 #[.slice a len cap, .int .i64 0, .int .i64 n] w fun e w' => ∃ k : Nat, k < n ∧ e = .returned (.int .i64 k) ∧ w' = w := by
  by_cases h0 : len = 0
  · subst h0
    go_enter Try.func33, Try.ntmps33
    go_wp2
    go_ret
    exact ⟨11 % n, Nat.mod_lt _ (by omega), rfl, rfl⟩
  · rcases h with h | ⟨x, rfl, h⟩
    · exact absurd h h0
    obtain ⟨v, hv, hc⟩ := h 0 (by omega)
    have hc : w.cell? x = some (.int .u8 v) := by simpa [Addr.add] using hc
    have hl : 0 < len := by omega
    clear h
    go_enter Try.func33, Try.ntmps33
    go_wp2
    go_ret
    exact ⟨v % n, Nat.mod_lt _ (by omega), rfl, rfl⟩
/-- The quotient that the law makes. -/
theorem eighth (i : Nat) (hi : i < 65) : (∀ w, fval .quo .f32 (floatOfInt .f32 ((i : Int) - 32)) 1090519040 w = x32 (i + 32)) ∧ fN .quo .f32 (floatOfInt .f32 ((i : Int) - 32)) 1090519040 = 0 := by
  have h := (okE_of (i + 32) (by omega)).1
  rw [show ((i + 32 : Nat) : Int) - 64 = (i : Int) - 32 by omega] at h
  exact ⟨fun w => fval_some h w, fN_some h⟩
theorem isLt_of {a b : Option Nat} (h : isLt a b = true) : ∃ x y, a = some x ∧ b = some y ∧ (FloatKind.f64.format.order x y == some .lt) = true := by
  unfold isLt aord at h
  cases a with
  | none => simp at h
  | some x =>
    cases b with
    | none => simp at h
    | some y => exact ⟨x, y, rfl, rfl, by simpa using h⟩
theorem near_L (i : Nat) (hi : i < 65) : ∃ g, gapA (lL.getD i 0) (xL.getD i 0) = some g ∧ (FloatKind.f64.format.order g 4562254508917369340 == some .lt) = true := by
  have h := okL_tab i hi
  unfold okL at h
  obtain ⟨x, y, h1, h2, h3⟩ := isLt_of h
  obtain rfl : 4562254508917369340 = y := by simpa using h2
  exact ⟨x, h1, h3⟩
theorem near_P (i : Nat) (hi : i < 65) (j : Nat) (hj : j < 65) : ∃ p g q, floatBits .mul .f64 (e64 (i + 32)) (e64 (j + 32)) = some p ∧ gapA p (e64 (i + j)) = some g ∧ floatBits .mul .f64 4562254508917369340 (e64 (i + j)) = some q ∧ (FloatKind.f64.format.order g q == some .lt) = true := by
  have h := okP_tab i hi j hj
  rw [← e_tab (i + 32) (by omega), ← e_tab (j + 32) (by omega), ← e_tab (i + j) (by omega)] at h
  unfold okP at h
  obtain ⟨x, y, h1, h2, h3⟩ := isLt_of h
  obtain ⟨p, hp, hg⟩ := Option.bind_eq_some_iff.1 h1
  exact ⟨p, x, y, hp, hg, h2, h3⟩
theorem gtr_pos {x : Nat} (h : Pos32 x) : (FloatKind.f32.format.order x 0 == some .gt) = true := by
  rw [ord32 (pos_nan h) (nan_zero .f32), sr_pos h, sr0, cmp_gt (by have := h.1; omega)]; rfl
theorem expZero (w : World) : Calls Try.prog 31 #[.float .f32 0] w fun e w' => e = .returned (.float .f32 1065353216) ∧ ∃ m, w' = w.drewN m := by
  have h := expNumber_tab 64 (by omega) w
  rwa [x32_zero, e32_zero] at h
theorem lnOne (w : World) : Calls Try.prog 35 #[.float .f32 1065353216] w fun e w' => e = .returned (.float .f32 0) ∧ ∃ m, w' = w.drewN m := by
  have h := lnNumber_tab 32 (by omega) w
  rwa [show 32 + 32 = 64 from rfl, e32_zero, l32_zero] at h
theorem one_one : (FloatKind.f32.format.order 1065353216 1065353216 == some .eq) = true := by decide +kernel
theorem zero_zero : (FloatKind.f32.format.order 0 0 == some .eq) = true := by decide +kernel
end Go.Proofs.Ytopfeilfgbcihaa
