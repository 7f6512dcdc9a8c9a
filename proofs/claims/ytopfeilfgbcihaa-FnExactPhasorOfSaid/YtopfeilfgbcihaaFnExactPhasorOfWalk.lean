/- The walk of laws.FnExactPhasorOf: it returns true and leaves what was there. -/
import Derived.Test.YtopfeilfgbcihaaPha2C
namespace Go.Proofs.Ytopfeilfgbcihaa.fnExactPhasorOf
open Go.RowKit
set_option linter.unusedVariables false
theorem fin_rng {y : Nat} (h : finB .f64 y = true) : nanB .f64 y = false ∧ rng Ieee.double y < 9218868437227405312 := by
  have hn : nanB .f64 y = false := by
    cases hq : nanB .f64 y with
    | false => rfl
    | true => rw [finB_nan hq] at h; cases h
  refine ⟨hn, ?_⟩
  rcases Nat.lt_trichotomy (rng Ieee.double y) 9218868437227405312 with q | q | q
  · exact q
  · have e : FloatKind.f64.decode y = readRung Ieee.double (sgn Ieee.double y) (rng Ieee.double y) := rfl
    unfold finB at h
    rw [e, q, show (9218868437227405312 : Nat) = Ieee.double.infRung by rw [inf_d], readRung_inf Ieee.double (fair .f64)] at h
    cases h
  · have e2 := nanB_rng .f64 y
    rw [hn, f64_fmt, inf_d] at e2
    exact absurd q (by simpa using e2.symm)
theorem sameComplex_same (a b c d : Nat) (w : World) (h1 : av .f64 a = av .f64 c) (h2 : av .f64 b = av .f64 d) : Calls Try.prog 47 #[.complex .f64 a b, .complex .f64 c d] w fun e w' => e = .returned (.bool true) ∧ ∃ n, w' = w.drewN n := by
  have S1 := Lib.hid fun w => sameFloat_same a c w h1
  have S2 := Lib.hid fun w => sameFloat_same b d w h2
  clear h1 h2
  go_enter Try.func47, Try.ntmps47
  have HR0 := trivial
  go_wp2_with (go_at_call 19; first | (clear HR0; refine (S1.out _).mono ?_; rintro e w' ⟨rfl, m1, rfl⟩) | (refine (S2.out _).mono ?_; rintro e w' ⟨rfl, m2, rfl⟩))
  go_ret
  exact ⟨rfl, _, rfl⟩
theorem sameCWide (a b c d : Nat) (w1 w2 w3 w4 w : World) (h1 : av .f32 a = av .f32 c) (h2 : av .f32 b = av .f32 d) : Calls Try.prog 47 #[.complex .f64 (cval .f32 a .f64 w1) (cval .f32 b .f64 w2), .complex .f64 (cval .f32 c .f64 w3) (cval .f32 d .f64 w4)] w fun e w' => e = .returned (.bool true) ∧ ∃ n, w' = w.drewN n :=
  sameComplex_same _ _ _ _ w (by rw [av_wide, av_wide, h1]) (by rw [av_wide, av_wide, h2])
@[go_sem] theorem run_ccc {P : Program} (w : World) (src dst : TypeId) (s k : FloatKind) (a b : Nat) (hs : (P.underlying src).isSome = true) (hd : P.underlying dst = some (.complex k)) :
    (convert src dst (.complex s a b)).run P w = .ok (.complex k (cval s a k w) (cval s b k (w.drewN (cN s a k)))) (w.drewN (cN s a k + cN s b k)) := by
  obtain ⟨u, hs'⟩ := Option.isSome_iff_exists.1 hs
  cases u <;> simp [convert, run_underlying hs', run_underlying hd, run_c2c]
theorem core (y : Nat) (w : World) (o1 o2 : Option Nat) (cs : ∀ w, Calls Try.prog 45 #[.float .f64 y] w (GivesC o1 o2 w)) (ci : ∀ w, Calls Try.prog 46 #[.float .f64 y] w (GivesC o1 o2 w)) : Calls Try.prog 15 #[.float .f64 y] w fun e w' => e = .returned (.bool true) ∧ Below w.heap.size w w' := by
  have CS := Lib.hid cs
  have CI := Lib.hid ci
  clear cs ci
  go_enter Try.func15, Try.ntmps15
  go_wp2_with fail
  refine (CS.out _).mono ?_
  rintro e w1 ⟨a, b, m, h1, h2, rfl, rfl⟩
  have H1 := Lib.hid h1
  have H2 := Lib.hid h2
  clear h1 h2
  go_wp2_with fail
  refine (CI.out _).mono ?_
  rintro e w1 ⟨a', b', m', h1', h2', rfl, rfl⟩
  have H1' := Lib.hid h1'
  have H2' := Lib.hid h2'
  clear h1' h2'
  go_wp2_with fail
  refine (sameCWide a' b' a b _ _ _ _ _ (by rw [H1.out, H1'.out]) (by rw [H2.out, H2'.out])).mono ?_
  rintro e w' ⟨rfl, m5, rfl⟩
  go_wp2_with fail
  go_ret
  exact ⟨rfl, bel_drewN _ _⟩
theorem walk (y : Nat) (w : World) (w0 : (Lit.float .f64 y).wf = true) : Calls Try.prog 15 #[.float .f64 y] w fun e w' => e = .returned (.bool true) ∧ Below w.heap.size w w' := by
  have hy : y < 18446744073709551616 := by simpa [Lit.wf] using w0
  clear w0
  cases fy : finB .f64 y with
  | false => exact core y w _ _ (fun w => specPha_not y w fy) (fun w => implPha_not y w fy)
  | true =>
    obtain ⟨hn, hB⟩ := fin_rng fy
    by_cases hA : rng Ieee.double y < 4841369599423283200
    · obtain ⟨F, k, X, n, n1, n2, hP⟩ := pha_ok (show Small52 y from ⟨hn, hA⟩)
      exact core y w _ _ (fun w => specPha_fin y F k X n n1 n2 w fy ⟨hn, hA⟩ hP) (fun w => implPha_in y F k X n n1 n2 w fy hn hy hA hP)
    · exact core y w _ _ (fun w => specPha_huge y w fy hn hA) (fun w => implPha_huge y w fy hy hA hB)
end Go.Proofs.Ytopfeilfgbcihaa.fnExactPhasorOf
