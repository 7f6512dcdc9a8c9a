/- The logarithm is a number, and bounded. No program in sight. -/
import Derived.Test.YtopfeilfgbcihaaLog
import Derived.Test.YtopfeilfgbcihaaOk
namespace Go.Proofs.Ytopfeilfgbcihaa
open Ieee
theorem ok_small {X E : Nat} (h : X ≤ pw E) (hE : E ≤ 1022) : OkA (some X) E := ⟨X, rfl, ble_pos h hE⟩
theorem big1_of {r E : Nat} (h : Ble r E) (hE : E ≤ 1022) (h1 : 4607182418800017408 ≤ r) (h2 : r < 9223372036854775808) : Big1 r :=
  ⟨Nat.lt_of_le_of_lt h.2 (pw_lt (by omega)), by rw [rng_small h2]; exact h1⟩
theorem sA_ok {X : Nat} (h : Mid X) : OkA (sA X) 1 := by
  obtain ⟨_, _, y0, y1, _⟩ := lg_spec h
  unfold sA
  generalize lgY X = Y at *
  have p0 : pw 0 = 4607182418800017408 := by decide
  have p1 : pw 1 = 4611686018427387904 := by decide
  obtain ⟨M, hM⟩ : ∃ M, M = 1074 + 0 := ⟨_, rfl⟩
  have r0 : rungVal double 4607182418800017408 = 2 ^ M := by rw [hM, ← p0]; exact rungVal_pw 0
  have r1 : rungVal double Y ≤ 2 ^ (M + 1) := by
    have := rungVal_le double (show Y ≤ pw 1 by rw [p1]; omega)
    rw [rungVal_pw, show 1074 + 1 = M + 1 by omega] at this
    exact this
  obtain ⟨d, hd, bd⟩ := sub_close (X := Y) (Y := 4607182418800017408) (E := 0) (by omega) (by omega) (by rw [← hM, r0, ← Nat.mul_two, ← Nat.pow_succ]; exact r1) (by rw [← hM, r0]; omega)
  obtain ⟨s, hs, s1, s2⟩ := add_lower (X := Y) (Y := 4607182418800017408) (by omega) (by omega) (by omega)
  obtain ⟨s', hs', bs⟩ := OkA.add (ok_small (X := Y) (E := 1) (by rw [p1]; omega) (by omega)) (ok_small (X := 4607182418800017408) (E := 0) (by rw [p0]; omega) (by omega)) (Nat.le_refl _) (by omega) (by omega : 1 ≤ 1022)
  obtain rfl : s = s' := by
    have : some s = some s' := hs.symm.trans hs'
    simpa using this
  have e1 : aop .sub .f64 (some Y) (some 4607182418800017408) = some d := hd
  have e2 : aop .add .f64 (some Y) (some 4607182418800017408) = some s := hs
  rw [e1, e2]
  exact OkA.quo ⟨d, rfl, bd⟩ (by omega) (big1_of bs (by omega) s1 s2)
theorem inv_odd : ∀ j : Nat, j < 13 → (match floatBits .quo .f64 4607182418800017408 (fe (25 - 2 * (j : Int))) with | some r => decide (r ≤ pw 0) | none => false) = true := by
  decide +kernel
theorem inv_ok (j : Nat) (h : j < 13) : OkA (aop .quo .f64 (some 4607182418800017408) (some (fe (25 - 2 * (j : Int))))) 0 := by
  have t := inv_odd j h
  change OkA (floatBits .quo .f64 4607182418800017408 (fe (25 - 2 * (j : Int)))) 0
  generalize floatBits .quo .f64 4607182418800017408 (fe (25 - 2 * (j : Int))) = o at *
  cases o with
  | none => cases t
  | some r => exact ok_small (by simpa using t) (by omega)
theorem qA_ok {u : Option Nat} (h : OkA u 2) : ∀ j : Nat, j ≤ 13 → OkA (qA u j) (3 * j)
  | 0, _ => ok_small (Nat.zero_le _) (by omega)
  | j + 1, hj => OkA.add ((inv_ok j (by omega)).mono (Nat.zero_le _)) (OkA.mul h (qA_ok h j (by omega)) (Nat.le_refl _) (by omega)) (Nat.le_refl _) (by omega : 2 + 3 * j ≤ 2 + 3 * j) (by omega) |>.mono (by omega)
theorem fe_ok : ∀ i : Nat, i < 300 → nanB .f64 (fe (130 - (i : Int))) = false ∧ rng double (fe (130 - (i : Int))) ≤ pw 8 := by decide +kernel
theorem fe_ble {n : Int} (h0 : -160 ≤ n) (h1 : n ≤ 130) : Ble (fe n) 8 := by
  have := fe_ok (130 - n).toNat (by omega)
  rw [show 130 - (((130 - n).toNat : Nat) : Int) = n by omega] at this
  exact ⟨this.1, this.2⟩
theorem logA_ok {X : Nat} (h : Mid X) : OkA (logA X) 42 := by
  have hs := sA_ok h
  have hu : OkA (aop .mul .f64 (sA X) (sA X)) 2 := OkA.mul hs hs (by omega) (by omega)
  have hq := qA_ok hu 13 (by omega)
  obtain ⟨l0, l1, _⟩ := lg_spec h
  have p0 : pw 0 = 4607182418800017408 := by decide
  have p1 : pw 1 = 4611686018427387904 := by decide
  have h1 : OkA (aop .mul .f64 (some 4611686018427387904) (aop .mul .f64 (sA X) (qA (aop .mul .f64 (sA X) (sA X)) 13))) 41 :=
    OkA.mul (ok_small (E := 1) (by rw [p1]; omega) (by omega)) (OkA.mul (G := 40) hs hq (by omega) (by omega)) (by omega) (by omega)
  have h2 : OkA (aop .mul .f64 (some (fe (lgN X))) (some 4604418534313441775)) 8 :=
    OkA.mul ⟨_, rfl, fe_ble (by omega) (by omega)⟩ (ok_small (E := 0) (by rw [p0]; omega) (by omega)) (by omega) (by omega)
  exact OkA.add h1 h2 (Nat.le_refl _) (by omega) (by omega)
end Go.Proofs.Ytopfeilfgbcihaa
