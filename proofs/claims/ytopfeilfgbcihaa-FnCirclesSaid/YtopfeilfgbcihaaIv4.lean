/- Bounds that are computed, and the tenths of decibels of the products of eighths. No program in sight. -/
import Derived.Test.YtopfeilfgbcihaaIv3
import Derived.Test.YtopfeilfgbcihaaTenC
namespace Go.Proofs.Ytopfeilfgbcihaa
open Ieee
set_option linter.unusedVariables false
abbrev IV := Option (Int × Int)
/-- It reckons the number first. -/
def fz {α : Type} (z : Int) (k : Int → α) : α :=
  match z with
  | .ofNat n => Nat.rec (k (.ofNat 0)) (fun m _ => k (.ofNat (m + 1))) n
  | .negSucc n => Nat.rec (k (.negSucc 0)) (fun m _ => k (.negSucc (m + 1))) n
theorem fz_eq {α : Type} (z : Int) (k : Int → α) : fz z k = k z := by
  cases z with
  | ofNat n => cases n <;> rfl
  | negSucc n => cases n <;> rfl
def fn {α : Type} (z : Nat) (k : Nat → α) : α := Nat.rec (k 0) (fun m _ => k (m + 1)) z
theorem fn_eq {α : Type} (z : Nat) (k : Nat → α) : fn z k = k z := by cases z <;> rfl
def gd (a b : Int) : IV := fz a fun a => fz b fun b => if (decide (-4503599627370496 ≤ a) && decide (a ≤ 4503599627370496)) && (decide (-4503599627370496 ≤ b) && decide (b ≤ 4503599627370496)) then some (a, b) else none
theorem gd_is {a b : Int} {v : Int × Int} (h : gd a b = some v) : v = (a, b) ∧ -4503599627370496 ≤ a ∧ a ≤ 4503599627370496 ∧ -4503599627370496 ≤ b ∧ b ≤ 4503599627370496 := by
  unfold gd at h
  rw [fz_eq, fz_eq] at h
  split at h
  · rename_i g
    simp only [Bool.and_eq_true, decide_eq_true_eq] at g
    exact ⟨(Option.some.inj h).symm, g.1.1, g.1.2, g.2.1, g.2.2⟩
  · cases h
/-- It is a number between these bounds, if there are any. -/
def InO (o : Option Nat) (p : IV) : Prop := ∀ v, p = some v → ∃ r, o = some r ∧ In r v.1 v.2
def addV : IV → IV → IV
  | some p, some q => gd (p.1 + q.1) (p.2 + q.2)
  | _, _ => none
def subV : IV → IV → IV
  | some p, some q => gd (p.1 - q.2) (p.2 - q.1)
  | _, _ => none
def mulV : IV → IV → IV
  | some p, some q => fz (p.1 * q.1) fun c1 => fz (p.1 * q.2) fun c2 => fz (p.2 * q.1) fun c3 => fz (p.2 * q.2) fun c4 => gd (min (min c1 c2) (min c3 c4) / 4194304) (-(-(max (max c1 c2) (max c3 c4)) / 4194304))
  | _, _ => none
def quoV : IV → IV → IV
  | some p, some q => if (decide (4194304 ≤ q.1) && decide (0 < q.2)) && (decide (-4398046511104 ≤ p.1) && decide (p.2 ≤ 4398046511104)) then fz (p.1 * 4194304 / q.1) fun c1 => fz (p.1 * 4194304 / q.2) fun c2 => fz (-p.2 * 4194304 / q.1) fun c3 => fz (-p.2 * 4194304 / q.2) fun c4 => gd (min c1 c2 - 1) (-(min c3 c4) + 1) else none
  | _, _ => none
theorem InO.of {x : Nat} {a b : Int} (h : In x a b) : InO (some x) (some (a, b)) := fun v e => by cases e; exact ⟨x, rfl, h⟩
theorem InO.add {o u : Option Nat} {p q : IV} (hp : InO o p) (hq : InO u q) : InO (aop .add .f64 o u) (addV p q) := by
  intro v hv
  cases p with
  | none => cases hv
  | some p =>
  cases q with
  | none => cases hv
  | some q =>
  obtain ⟨x, rfl, hx⟩ := hp p rfl
  obtain ⟨y, rfl, hy⟩ := hq q rfl
  obtain ⟨rfl, g1, g2, g3, g4⟩ := gd_is hv
  exact hx.add hy g1 g2 g3 g4
theorem InO.sub {o u : Option Nat} {p q : IV} (hp : InO o p) (hq : InO u q) : InO (aop .sub .f64 o u) (subV p q) := by
  intro v hv
  cases p with
  | none => cases hv
  | some p =>
  cases q with
  | none => cases hv
  | some q =>
  obtain ⟨x, rfl, hx⟩ := hp p rfl
  obtain ⟨y, rfl, hy⟩ := hq q rfl
  obtain ⟨rfl, g1, g2, g3, g4⟩ := gd_is hv
  exact hx.sub hy g1 g2 g3 g4
theorem InO.mul {o u : Option Nat} {p q : IV} (hp : InO o p) (hq : InO u q) : InO (aop .mul .f64 o u) (mulV p q) := by
  intro v hv
  cases p with
  | none => cases hv
  | some p =>
  cases q with
  | none => cases hv
  | some q =>
  obtain ⟨x, rfl, hx⟩ := hp p rfl
  obtain ⟨y, rfl, hy⟩ := hq q rfl
  unfold mulV at hv
  simp only [fz_eq] at hv
  obtain ⟨rfl, g1, g2, g3, g4⟩ := gd_is hv
  refine hx.mul hy g1 g2 g3 g4 ?_ ?_ ?_ ?_ ?_ ?_ ?_ ?_
  all_goals
    generalize p.1 * q.1 = c1
    generalize p.1 * q.2 = c2
    generalize p.2 * q.1 = c3
    generalize p.2 * q.2 = c4
    omega
theorem div_lo (x c : Int) (h : 0 < c) : x / c * c ≤ x := Int.ediv_mul_le x (by omega)
theorem InO.quo {o u : Option Nat} {p q : IV} (hp : InO o p) (hq : InO u q) : InO (aop .quo .f64 o u) (quoV p q) := by
  intro v hv
  cases p with
  | none => cases hv
  | some p =>
  cases q with
  | none => cases hv
  | some q =>
  obtain ⟨x, rfl, hx⟩ := hp p rfl
  obtain ⟨y, rfl, hy⟩ := hq q rfl
  unfold quoV at hv
  simp only [fz_eq] at hv
  split at hv
  · rename_i g
    simp only [Bool.and_eq_true, decide_eq_true_eq] at g
    obtain ⟨⟨w1, w2⟩, w3, w4⟩ := g
    obtain ⟨rfl, g1, g2, g3, g4⟩ := gd_is hv
    have a1 := div_lo (p.1 * 4194304) q.1 (by omega)
    have a2 := div_lo (p.1 * 4194304) q.2 (by omega)
    have a3 := div_lo (-p.2 * 4194304) q.1 (by omega)
    have a4 := div_lo (-p.2 * 4194304) q.2 (by omega)
    refine hx.quo hy w1 w3 w4 g1 g2 g3 g4 ?_ ?_ ?_ ?_
    · refine Int.le_trans (Int.mul_le_mul_of_nonneg_right (b := p.1 * 4194304 / q.1) ?_ (by omega)) a1; omega
    · refine Int.le_trans (Int.mul_le_mul_of_nonneg_right (b := p.1 * 4194304 / q.2) ?_ (by omega)) a2; omega
    · have : (-(p.2 * 4194304)) ≥ -((-(min (-p.2 * 4194304 / q.1) (-p.2 * 4194304 / q.2)) + 1 - 1) * q.1) := by
        have t := Int.mul_le_mul_of_nonneg_right (a := min (-p.2 * 4194304 / q.1) (-p.2 * 4194304 / q.2)) (b := -p.2 * 4194304 / q.1) (c := q.1) (by omega) (by omega)
        rw [show (-(min (-p.2 * 4194304 / q.1) (-p.2 * 4194304 / q.2)) + 1 - 1) = -(min (-p.2 * 4194304 / q.1) (-p.2 * 4194304 / q.2)) by omega, Int.neg_mul]
        omega
      simp only
      omega
    · have : (-(p.2 * 4194304)) ≥ -((-(min (-p.2 * 4194304 / q.1) (-p.2 * 4194304 / q.2)) + 1 - 1) * q.2) := by
        have t := Int.mul_le_mul_of_nonneg_right (a := min (-p.2 * 4194304 / q.1) (-p.2 * 4194304 / q.2)) (b := -p.2 * 4194304 / q.2) (c := q.2) (by omega) (by omega)
        rw [show (-(min (-p.2 * 4194304 / q.1) (-p.2 * 4194304 / q.2)) + 1 - 1) = -(min (-p.2 * 4194304 / q.1) (-p.2 * 4194304 / q.2)) by omega, Int.neg_mul]
        omega
      simp only
      omega
  · cases hv
/-- A number between these bounds, by reckoning. -/
def inB (x : Nat) (a b : Int) : Bool := decide (rng double x < double.infRung) && (decide (a * (GRN : Int) ≤ svd x) && decide (svd x ≤ b * (GRN : Int)))
theorem In.of {x : Nat} {a b : Int} (h : inB x a b = true) : In x a b := by
  unfold inB at h
  simp only [Bool.and_eq_true, decide_eq_true_eq] at h
  exact ⟨h.1, h.2.1, h.2.2⟩
/-! ### The logarithm -/
def iv (j : Nat) : Int × Int := (4194304 / (25 - 2 * (j : Int)), 4194304 / (25 - 2 * (j : Int)) + 1)
theorem iv_tab : ∀ j : Nat, j < 13 → (match floatBits .quo .f64 4607182418800017408 (fe (25 - 2 * (j : Int))) with | some r => inB r (iv j).1 (iv j).2 | none => false) = true := by decide +kernel
theorem iv_in (j : Nat) (h : j < 13) : InO (aop .quo .f64 (some 4607182418800017408) (some (fe (25 - 2 * (j : Int))))) (some (iv j)) := by
  have := iv_tab j h
  change InO (floatBits .quo .f64 4607182418800017408 (fe (25 - 2 * (j : Int)))) _
  cases e : floatBits .quo .f64 4607182418800017408 (fe (25 - 2 * (j : Int))) with
  | none => rw [e] at this; cases this
  | some r => rw [e] at this; exact InO.of (In.of this)
theorem one_in : In 4607182418800017408 4194304 4194304 := In.of (by decide +kernel)
theorem two_in : In 4611686018427387904 8388608 8388608 := In.of (by decide +kernel)
theorem ln2_in : In 4604418534313441775 2907269 2907270 := In.of (by decide +kernel)
theorem ten_in : In 4631308968768463603 182156308 182156309 := In.of (by decide +kernel)
theorem half_in : In 4602678819172646912 2097152 2097152 := In.of (by decide +kernel)
def qV (u : IV) : Nat → IV
  | 0 => some (0, 0)
  | j + 1 => addV (some (iv j)) (mulV u (qV u j))
theorem qA_in {u : Option Nat} {p : IV} (h : InO u p) : ∀ j : Nat, j ≤ 13 → InO (qA u j) (qV p j)
  | 0, _ => InO.of (In.of (by decide +kernel))
  | j + 1, hj => InO.add (iv_in j (by omega)) (InO.mul h (qA_in h j (by omega)))
def sV (y : IV) : IV := quoV (subV y (some (4194304, 4194304))) (addV y (some (4194304, 4194304)))
def mV2 (s : IV) : IV := match s with
  | some s => match mulV (some s) (some s) with
    | some u => mulV (some (8388608, 8388608)) (mulV (some s) (qV (some u) 13))
    | none => none
  | none => none
def mV (y : IV) : IV := mV2 (sV y)
theorem sA_in {X : Nat} {p : IV} (h : InO (some (lgY X)) p) : InO (sA X) (sV p) := InO.quo (InO.sub h (InO.of one_in)) (InO.add h (InO.of one_in))
/-- The tenths of a number, between bounds. -/
def tV (m : IV) (e : Int) : IV := addV (mulV (addV m (mulV (some (e * 4194304, e * 4194304)) (some (2907269, 2907270)))) (some (182156308, 182156309))) (some (2097152, 2097152))
theorem tenths_in {X : Nat} {n : Int} {p : IV} (hT : Tenths X n) (h : InO (some (lgY X)) p) (he : In (fe (lgN X)) (lgN X * 4194304) (lgN X * 4194304)) {v : Int × Int} (hv : tV (mV p) (lgN X) = some v) (w1 : -4398046511104 ≤ v.1) (w2 : v.2 ≤ 4398046511104) : v.1 / 4194304 ≤ n ∧ n ≤ v.2 / 4194304 := by
  obtain ⟨L, P, Q, eL, _, eP, eQ, _, eN⟩ := hT.steps
  have hs := sA_in h
  have hm : InO (aop .mul .f64 (some 4611686018427387904) (aop .mul .f64 (sA X) (qA (aop .mul .f64 (sA X) (sA X)) 13))) (mV p) := by
    unfold mV mV2
    cases es : sV p with
    | none => intro v h; cases h
    | some s =>
      rw [es] at hs
      have hu := InO.mul hs hs
      simp only
      cases eu : mulV (some s) (some s) with
      | none => intro v h; cases h
      | some u =>
        rw [eu] at hu
        exact InO.mul (InO.of two_in) (InO.mul hs (qA_in hu 13 (Nat.le_refl _)))
  have hl : InO (logA X) (addV (mV p) (mulV (some (lgN X * 4194304, lgN X * 4194304)) (some (2907269, 2907270)))) := InO.add hm (InO.mul (InO.of he) (InO.of ln2_in))
  rw [eL] at hl
  have hq := InO.add (InO.mul hl (InO.of ten_in)) (InO.of half_in)
  have e1 : aop .mul .f64 (some L) (some 4631308968768463603) = some P := eP
  rw [e1] at hq
  have e2 : aop .add .f64 (some P) (some 4602678819172646912) = some Q := eQ
  rw [e2] at hq
  obtain ⟨r, er, hr⟩ := hq v hv
  cases er
  exact floor_in hr w1 w2 eN
end Go.Proofs.Ytopfeilfgbcihaa
