/- TenthsOf: what both sides compute. -/
import Derived.Test.YtopfeilfgbcihaaLnC
import Derived.Test.YtopfeilfgbcihaaInt
namespace Go.Proofs.Ytopfeilfgbcihaa
open Go.RowKit
set_option linter.unusedVariables false
/-- The tenths of decibels of a number, step by step. -/
structure Tenths (X : Nat) (n : Int) : Prop where
  mk ::
  steps : ∃ L P Q, logA X = some L ∧ nanB .f64 L = false ∧ floatBits .mul .f64 L 4631308968768463603 = some P ∧ floatBits .add .f64 P 4602678819172646912 = some Q ∧ nanB .f64 Q = false ∧ floatToIntVal .f64 (Ieee.double.write ((Ieee.double.read Q).integral .down)) .i64 = some n
theorem tenths_ok {X : Nat} (h : Mid X) : ∃ n, Tenths X n := by
  obtain ⟨L, e1, b1⟩ := logA_ok h
  have p6 : pw 6 = 4634204016564240384 := by decide
  have p0 : pw 0 = 4607182418800017408 := by decide
  obtain ⟨P, e2, b2⟩ := OkA.mul (G := 48) ⟨L, rfl, b1⟩ (ok_small (X := 4631308968768463603) (E := 6) (by rw [p6]; omega) (by omega)) (by omega) (by omega)
  obtain ⟨Q, e3, b3⟩ := OkA.add (G := 48) ⟨P, rfl, b2⟩ (ok_small (X := 4602678819172646912) (E := 0) (by rw [p0]; omega) (by omega)) (by omega) (by omega) (by omega)
  obtain ⟨n, e4, _⟩ := int_ok (whole_ok .down b3 (by omega)) (by omega)
  exact ⟨n, ⟨L, P, Q, e1, b1.1, e2, e3, b3.1, e4⟩⟩
theorem Tenths.unique {X : Nat} {n n' : Int} (h : Tenths X n) (h' : Tenths X n') : n = n' := by
  obtain ⟨L, P, Q, e1, _, e2, e3, _, e4⟩ := h.steps
  obtain ⟨L', P', Q', e1', _, e2', e3', _, e4'⟩ := h'.steps
  rw [e1] at e1'; obtain rfl := Option.some.inj e1'
  rw [e2] at e2'; obtain rfl := Option.some.inj e2'
  rw [e3] at e3'; obtain rfl := Option.some.inj e3'
  rw [e4] at e4'; exact Option.some.inj e4'
theorem av_is {k : FloatKind} {r L : Nat} {o : Option Nat} (h : av k r = o) (e : o = some L) : r = L := by
  rw [e] at h
  unfold av at h
  split at h <;> simp_all
theorem ival_some {s : FloatKind} {b : Nat} {k : IntKind} {n : Int} (h : floatToIntVal s b k = some n) (w : World) : ival s b k w = n := by rw [ival, h]; rfl
theorem iN_some {s : FloatKind} {b : Nat} {k : IntKind} {n : Int} (h : floatToIntVal s b k = some n) : iN s b k = 0 := by rw [iN, h]
theorem run_whole {P : Program} (name : String) (way : Ieee.Toward) (x : Nat) (w : World) (h : nanB .f64 x = false) : (Extern.MathFloor.toIntegral name way #[.float .f64 x]).run P w = .ok (.float .f64 (Ieee.double.write ((Ieee.double.read x).integral way))) w := by
  unfold nanB at h
  change (Ieee.double.read x).isNaN = false at h
  change Sem.run P (match Ieee.double.read x with | .nan s t => _ | d => (pure (Value.float .f64 (FloatKind.f64.encode (Ieee.Datum.integral way d))) : Sem Value)) w = _
  generalize Ieee.double.read x = d at *
  cases d with
  | nan s t => cases h
  | infinity s => rfl
  | number s m i => rfl
theorem ext_floor (x : Nat) (w : World) (h : nanB .f64 x = false) : (callFunc 101 #[.float .f64 x]).run Try.prog w = .ok (.value (.float .f64 (Ieee.double.write ((Ieee.double.read x).integral .down)))) w := by
  have q := run_callFunc_extern (P := Try.prog) (f := 101) (e := Extern.MathFloor.toIntegral "math.archFloor" .down) (by kernel_rfl : Try.prog.funcs[101]? = some Try.f101) (by kernel_rfl) (by kernel_rfl) (by kernel_rfl) (by kernel_rfl) #[.float .f64 x] w
  rw [q, run_whole _ _ _ _ h]; rfl
/-- Is this a finite number above 0? -/
def posB (x : Nat) : Bool := decide (0 < x) && decide (x < 2139095040)
theorem posB_yes {x : Nat} (h : Pos32 x) : posB x = true := by unfold posB; rw [decide_eq_true h.1, decide_eq_true h.2]; rfl
theorem posB_of {x : Nat} (h : posB x = true) : Pos32 x := by
  unfold posB at h
  rw [Bool.and_eq_true, decide_eq_true_eq, decide_eq_true_eq] at h
  exact h
/-- What the tests of a number answer. -/
structure Asked (x : Nat) (f l p : Bool) : Prop where
  fin : finB .f32 x = f
  leq : (FloatKind.f32.format.order x 0 == some .lt || FloatKind.f32.format.order x 0 == some .eq) = l
  pos : posB x = p
  both : p = (f && !l)
theorem pos_finB {x : Nat} (h : Pos32 x) : finB .f32 x = true := by
  have := pos_fin h default
  rwa [fin_walk] at this
theorem asked (x : Nat) (hx : x < 4294967296) : ∃ f l p, Asked x f l p := by
  rcases classes x hx with h | rfl | rfl | rfl | h | h
  · refine ⟨finB .f32 x, false, posB x, rfl, by rw [nan_lt h, nan_eq h]; rfl, rfl, ?_⟩
    have : finB .f32 x = false := by
      unfold nanB at h
      unfold finB
      cases hc : FloatKind.f32.decode x <;> rw [hc] at h <;> first | rfl | cases h
    rw [this]
    cases hp : posB x with
    | false => rfl
    | true => rw [pos_nan (posB_of hp)] at h; cases h
  · exact ⟨true, true, false, by decide +kernel, by decide +kernel, by decide +kernel, rfl⟩
  · exact ⟨true, true, false, by decide +kernel, by decide +kernel, by decide +kernel, rfl⟩
  · exact ⟨false, false, false, by decide +kernel, by decide +kernel, by decide +kernel, rfl⟩
  · exact ⟨true, false, true, pos_finB h, by rw [pos_lt h, pos_eq h]; rfl, posB_yes h, rfl⟩
  · refine ⟨finB .f32 x, true, posB x, rfl, by rw [neg_lt h]; rfl, rfl, ?_⟩
    rw [Bool.not_true, Bool.and_false]
    cases hp : posB x with
    | false => rfl
    | true => have a := (posB_of hp).2; have b := h.1; omega
theorem posTest_any (x : Nat) (f l p : Bool) (w : World) (h : Asked x f l p) : Calls Try.prog 100 #[.float .f32 x] w fun e w' => e = .returned (.bool (!p)) ∧ ∃ m, w' = w.drewN m := by
  have t1 := h.fin
  have t2 := h.leq
  have t3 := h.both
  subst t3
  clear h
  cases f <;> cases l <;>
    (go_enter Try.func100, Try.ntmps100
     go_wp2_with go_in
     go_ret
     exact ⟨rfl, _, rfl⟩)
set_option maxHeartbeats 400000 in
theorem indexPos_any (b cap : Nat) (x : Nat) (f l p : Bool) (w : World) (h : Asked x f l p) (hc : w.cell? ⟨b, 0, none⟩ = some (.float .f32 x)) :
    Calls Try.prog 106 #[.slice (some ⟨b, 0, none⟩) 1 cap, .func (.func 100) #[] #[]] w fun e w' => e = .returned (.int .i64 (if p then -1 else 0)) ∧ ∃ m, w' = w.drewN m := by
  have H := Lib.hid h
  clear h
  cases p with
  | true =>
    go_enter Try.func106, Try.ntmps106
    go_wp2
    refine wp_loop_rounds 2 ?_
    rw [rounds_succ]
    go_wp2_with (go_at_call 100; refine (posTest_any x f l true _ H.out).mono ?_; rintro e w' ⟨rfl, m, rfl⟩)
    rw [rounds_succ]
    go_wp2
    go_ret
    exact ⟨rfl, _, rfl⟩
  | false =>
    go_enter Try.func106, Try.ntmps106
    go_wp2
    refine wp_loop_rounds 1 ?_
    rw [rounds_succ]
    go_wp2_with (go_at_call 100; refine (posTest_any x f l false _ H.out).mono ?_; rintro e w' ⟨rfl, m, rfl⟩)
    go_ret
    exact ⟨rfl, _, rfl⟩
theorem arePos_any (b cap : Nat) (x : Nat) (f l p : Bool) (w : World) (h : Asked x f l p) (hc : w.cell? ⟨b, 0, none⟩ = some (.float .f32 x)) :
    Calls Try.prog 82 #[.slice (some ⟨b, 0, none⟩) 1 cap] w fun e w' => e = .returned (.bool p) ∧ ∃ m, w' = w.drewN m := by
  have H := Lib.hid h
  clear h
  cases p <;>
    (go_enter Try.func82, Try.ntmps82
     go_wp2_with (first | (go_at_call 106; refine (indexPos_any b cap x f l _ _ H.out hc).mono ?_; rintro e w' ⟨rfl, m, rfl⟩) | go_in)
     go_ret
     exact ⟨rfl, _, rfl⟩)
theorem bel_drewsX {B : Nat} {w w' : World} (h : Below B w w') (n : Nat) : Below B w (w'.drewN n) := by
  induction n with
  | zero => exact h
  | succ n ih => exact ih.drew
end Go.Proofs.Ytopfeilfgbcihaa
