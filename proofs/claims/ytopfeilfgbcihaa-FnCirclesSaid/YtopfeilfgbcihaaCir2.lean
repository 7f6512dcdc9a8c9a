/- FnCircles: the powers, angles and products of the phasors. No program in sight. -/
import Derived.Test.YtopfeilfgbcihaaCir
import Derived.Test.YtopfeilfgbcihaaIv4
import Derived.Test.YtopfeilfgbcihaaNeg
namespace Go.Proofs.Ytopfeilfgbcihaa
open Ieee
set_option linter.unusedVariables false
set_option maxRecDepth 100000
/-! ### Order and gaps -/
theorem sr_le {x y : Nat} (h : svd x ≤ svd y) : sr double x ≤ sr double y := by
  have z0 : rungVal double 0 = 0 := by unfold rungVal; rw [if_pos (bin_pos _)]
  have i1 := rungVal_le_iff double (r := rng double x) (s := rng double y)
  have i2 := rungVal_le_iff double (r := rng double y) (s := rng double x)
  have i3 := rungVal_le_iff double (r := rng double x) (s := 0)
  have i4 := rungVal_le_iff double (r := rng double y) (s := 0)
  rw [z0] at i3 i4
  unfold svd at h
  unfold sr
  generalize rungVal double (rng double x) = A at *
  generalize rungVal double (rng double y) = B at *
  generalize rng double x = a at *
  generalize rng double y = b at *
  revert h
  cases sgn double x <;> cases sgn double y <;> simp only [Bool.false_eq_true, if_false, if_true] <;> intro h
  · have := i1.1 (by omega); omega
  · have := i3.1 (by omega); have := i4.1 (by omega); omega
  · omega
  · have := i2.1 (by omega); omega
theorem nan_of {x : Nat} (h : rng double x < double.infRung) : nanB .f64 x = false := by
  rw [nanB_rng, f64_fmt, decide_eq_false_iff_not]; omega
theorem ord_le_of {x y : Nat} (hx : rng double x < double.infRung) (hy : rng double y < double.infRung) (h : svd x ≤ svd y) : (FloatKind.f64.format.order x y == some .lt || FloatKind.f64.format.order x y == some .eq) = true ∧ (FloatKind.f64.format.order x y == some .gt) = false := by
  rw [order_sr .f64 x y (nan_of hx) (nan_of hy), f64_fmt]
  have := sr_le h
  generalize sr double x = a at *
  generalize sr double y = b at *
  rcases Int.lt_trichotomy a b with q | q | q
  · rw [Int.compare_eq_lt.2 q]; exact ⟨rfl, rfl⟩
  · subst q
    have : compare a a = .eq := Int.compare_eq_eq.2 rfl
    rw [this]; exact ⟨rfl, rfl⟩
  · omega
/-- The gap of two numbers. -/
def gapF (a b : Nat) : Option Nat := if FloatKind.f64.format.order a b == some .lt then floatBits .sub .f64 b a else floatBits .sub .f64 a b
theorem gap_in {p q : Nat} {a b c d U : Int} (hp : In p a b) (hq : In q c d) (w1 : -1099511627776 ≤ a) (w2 : b ≤ 1099511627776) (w3 : -1099511627776 ≤ c) (w4 : d ≤ 1099511627776) (w5 : a ≤ b) (w6 : c ≤ d) (h1 : b - c ≤ U) (h2 : d - a ≤ U) : ∃ g, gapF p q = some g ∧ rng double g < double.infRung ∧ svd g ≤ U * (GRN : Int) := by
  have hG := Int.le_of_lt GRN_int
  unfold gapF
  cases FloatKind.f64.format.order p q == some .lt with
  | true =>
    rw [if_pos rfl]
    obtain ⟨g, e, hg⟩ := hq.sub hp (by omega) (by omega) (by omega) (by omega)
    exact ⟨g, e, hg.fin, Int.le_trans hg.hi (Int.mul_le_mul_of_nonneg_right h2 hG)⟩
  | false =>
    rw [if_neg (by decide)]
    obtain ⟨g, e, hg⟩ := hp.sub hq (by omega) (by omega) (by omega) (by omega)
    exact ⟨g, e, hg.fin, Int.le_trans hg.hi (Int.mul_le_mul_of_nonneg_right h1 hG)⟩
theorem most_in : In 4547007122018943789 419 420 := In.of (by decide +kernel)
/-! ### The parts between bounds -/
def clL : List Nat := [12582912, 12562715, 12502319, 12402306, 12263639, 12087654, 11876044, 11630848, 11354428, 11049446, 10718838, 10365789, 9993698, 9606150, 9206876, 8799721, 8388608, 7977494, 7570339, 7171065, 6783517, 6411426, 6058377, 5727769, 5422787, 5146367, 4901171, 4689562, 4513576, 4374909, 4274896, 4214500, 4194304, 4214500, 4274896, 4374909, 4513576, 4689562, 4901171, 5146367, 5422787, 5727769, 6058377, 6411426, 6783517, 7171065, 7570339, 7977494, 8388608, 8799721, 9206876, 9606150, 9993698, 10365789, 10718838, 11049446, 11354428, 11630848, 11876044, 12087654, 12263639, 12402306, 12502319, 12562715]
def slL : List Nat := [8388608, 8799721, 9206876, 9606150, 9993698, 10365789, 10718838, 11049446, 11354428, 11630848, 11876044, 12087654, 12263639, 12402306, 12502319, 12562715, 12582912, 12562715, 12502319, 12402306, 12263639, 12087654, 11876044, 11630848, 11354428, 11049446, 10718838, 10365789, 9993698, 9606150, 9206876, 8799721, 8388608, 7977494, 7570339, 7171065, 6783517, 6411426, 6058377, 5727769, 5422787, 5146367, 4901171, 4689562, 4513576, 4374909, 4274896, 4214500, 4194304, 4214500, 4274896, 4374909, 4513576, 4689562, 4901171, 5146367, 5422787, 5727769, 6058377, 6411426, 6783517, 7171065, 7570339, 7977494]
def cI (j : Nat) : Int := (clL.getD j 0 : Int) - 8388608
def sI (j : Nat) : Int := (slL.getD j 0 : Int) - 8388608
theorem parts_tab : ∀ j : Nat, j < 64 → (inB (rwP j) (cI j) (cI j + 1) && inB (iwP j) (sI j) (sI j + 1)) = true := by decide +kernel
/-- Are these bounds near those? -/
def nearV (p : IV) (c : Int) : Bool := match p with
  | some v => (decide (-16777216 < v.1) && decide (v.2 < 16777216)) && (decide (v.1 ≤ v.2) && ((decide (v.2 - c ≤ 419) && decide (c + 1 - v.1 ≤ 419)) && (decide (-16777216 < c) && decide (c < 16777216))))
  | none => false
def ok5 (i j : Nat) : Bool := fz (cI i) fun a => fz (sI i) fun b => fz (cI j) fun c => fz (sI j) fun d =>
  nearV (subV (mulV (some (a, a + 1)) (some (c, c + 1))) (mulV (some (b, b + 1)) (some (d, d + 1)))) (cI ((i + j) % 64)) && nearV (addV (mulV (some (a, a + 1)) (some (d, d + 1))) (mulV (some (b, b + 1)) (some (c, c + 1)))) (sI ((i + j) % 64))
theorem ok5_tab : ∀ i : Nat, i < 64 → ∀ j : Nat, j < 64 → ok5 i j = true := by decide +kernel
/-- A number that is made narrow and wide and is near another. -/
structure NearOk (x W : Nat) : Prop where
  ex : ∃ y z g, floatToFloatBits .f64 x .f32 = some y ∧ floatToFloatBits .f32 y .f64 = some z ∧ gapF z W = some g ∧ (FloatKind.f64.format.order g 4547007122018943789 == some .lt || FloatKind.f64.format.order g 4547007122018943789 == some .eq) = true
theorem near_of {o : Option Nat} {p : IV} {W : Nat} {c : Int} (h : InO o p) (hW : In W c (c + 1)) (hn : nearV p c = true) : ∃ x, o = some x ∧ NearOk x W := by
  cases p with
  | none => cases hn
  | some v =>
    obtain ⟨x, rfl, hx⟩ := h v rfl
    unfold nearV at hn
    simp only [Bool.and_eq_true, decide_eq_true_eq] at hn
    obtain ⟨⟨n1, n2⟩, n3, ⟨n4, n5⟩, n6, n7⟩ := hn
    obtain ⟨y, z, e1, e2, hz⟩ := hx.narrow n1 (by omega) (by omega) n2
    obtain ⟨g, e3, g1, g2⟩ := gap_in hz hW (U := 419) (by omega) (by omega) (by omega) (by omega) n3 (by omega) n4 n5
    exact ⟨x, rfl, y, z, g, e1, e2, e3, (ord_le_of g1 most_in.fin (Int.le_trans g2 most_in.lo)).1⟩
theorem mul_ok {i j : Nat} (hi : i < 64) (hj : j < 64) : ∃ x1 x2 y1 y2 u v, floatBits .mul .f64 (rwP i) (rwP j) = some x1 ∧ floatBits .mul .f64 (iwP i) (iwP j) = some x2 ∧ floatBits .mul .f64 (rwP i) (iwP j) = some y1 ∧ floatBits .mul .f64 (iwP i) (rwP j) = some y2 ∧
    floatBits .sub .f64 x1 x2 = some u ∧ floatBits .add .f64 y1 y2 = some v ∧ NearOk u (rwP ((i + j) % 64)) ∧ NearOk v (iwP ((i + j) % 64)) := by
  have t := ok5_tab i hi j hj
  unfold ok5 at t
  rw [fz_eq, fz_eq, fz_eq, fz_eq, Bool.and_eq_true] at t
  obtain ⟨t1, t2⟩ := t
  have part : ∀ k, k < 64 → In (rwP k) (cI k) (cI k + 1) ∧ In (iwP k) (sI k) (sI k + 1) := fun k hk => by
    have := parts_tab k hk
    rw [Bool.and_eq_true] at this
    exact ⟨In.of this.1, In.of this.2⟩
  obtain ⟨ci, si⟩ := part i hi
  obtain ⟨cj, sj⟩ := part j hj
  obtain ⟨ck, sk⟩ := part ((i + j) % 64) (Nat.mod_lt _ (by omega))
  obtain ⟨u, eu, nu⟩ := near_of (InO.sub (InO.mul (InO.of ci) (InO.of cj)) (InO.mul (InO.of si) (InO.of sj))) ck t1
  obtain ⟨v, ev, nv⟩ := near_of (InO.add (InO.mul (InO.of ci) (InO.of sj)) (InO.mul (InO.of si) (InO.of cj))) sk t2
  obtain ⟨x1, x2, a1, a2, a3⟩ := aop_parts eu
  obtain ⟨y1, y2, b1, b2, b3⟩ := aop_parts ev
  exact ⟨x1, x2, y1, y2, u, v, a1, a2, b1, b2, a3, b3, nu, nv⟩
/-! ### The phasors one by one -/
def magF (W : Nat) : Nat := (bits .andNot .u64 (W : Int) 9223372036854775808).toNat
def ltF (W : Nat) : Bool := FloatKind.f64.format.order W 0 == some .lt
def widB (x W : Nat) : Bool := (floatToFloatBits .f32 x .f64 == some W) && ((decide (magF W < 9218868437227405312) && ((FloatKind.f32.format.order x 0 == some .lt) == ltF W)) && (((FloatKind.f32.format.order x 0 == some .eq) == decide (magF W = 0)) && (((FloatKind.f64.format.order W 0 == some .eq) == decide (magF W = 0)) && finB .f64 W)))
theorem wid_of {x W : Nat} (h : widB x W = true) : Wid x W (magF W) (ltF W) (decide (magF W = 0)) := by
  unfold widB at h
  simp only [Bool.and_eq_true, beq_iff_eq, decide_eq_true_eq] at h
  obtain ⟨h1, ⟨h2, h3⟩, h4, h5, h6⟩ := h
  exact ⟨fun w => by simp [cval, h1], by simp [cN, h1, fdraw], rfl, h2, h3, h4, rfl, h5, h6, rfl⟩
/-- The power and its gap from 1. -/
def pwO (j : Nat) : Option Nat := (floatBits .mul .f64 (rwP j) (rwP j)).bind fun a => (floatBits .mul .f64 (iwP j) (iwP j)).bind fun b => (floatBits .add .f64 a b).bind fun s => (floatToFloatBits .f64 s .f32).bind fun p => (floatToFloatBits .f32 p .f64).bind fun q => gapF q 4607182418800017408
def auO (j : Nat) : Option Nat := (floatToFloatBits .f32 (agP j) .f64).bind fun a => floatBits .mul .f64 a 4634204016564240384
def ok3 (j : Nat) : Bool := ((widB (imP j) (iwP j) && widB (reP j) (rwP j)) && ((finB .f32 (imP j) && finB .f32 (reP j)) && !(decide (magF (iwP j) = 0) && decide (magF (rwP j) = 0)))) &&
  ((angR (magF (iwP j)) (magF (rwP j)) (ltF (rwP j)) (ltF (iwP j)) == some (agP j) && auO j == some (auP j)) && (match pwO j with | some g => !(FloatKind.f64.format.order g 4547007122018943789 == some .gt) | none => false))
theorem ok3_tab : ∀ j : Nat, j < 64 → ok3 j = true := by decide +kernel
/-- The real part is 0 or of magnitude 1, if it stands at a quarter. -/
def ok6 (j : Nat) : Bool := !(j % 16 == 0) || (match gapF (rwP j) 0 with | some g => (FloatKind.f64.format.order g 0 == some .eq) || (!(FloatKind.f64.format.order g 0 == some .eq) && (FloatKind.f64.format.order g 4607182418800017408 == some .eq)) | none => false)
theorem ok6_tab : ∀ j : Nat, j < 64 → ok6 j = true := by decide +kernel
/-- The turn of place a, its integer, and their gap. -/
def tuO (a : Nat) : Option (Nat × Nat × Int × Nat) :=
  match floatBits .sub .f64 (auP (a % 64)) (fe ((a : Int) - 128)) with
  | some t => match floatBits .add .f64 t 4666723447345250304 with
    | some s => match floatToIntVal .f64 s .i64 with
      | some n => match gapF t (fe (n - 10000)) with
        | some g => some (t, s, n, g)
        | none => none
      | none => none
    | none => none
  | none => none
theorem tuO_is {a t s g : Nat} {n : Int} (h : tuO a = some (t, s, n, g)) : floatBits .sub .f64 (auP (a % 64)) (fe ((a : Int) - 128)) = some t ∧ floatBits .add .f64 t 4666723447345250304 = some s ∧ floatToIntVal .f64 s .i64 = some n ∧ gapF t (fe (n - 10000)) = some g := by
  unfold tuO at h
  split at h
  · split at h
    · split at h
      · split at h
        · cases h; exact ⟨by assumption, by assumption, by assumption, by assumption⟩
        · cases h
      · cases h
    · cases h
  · cases h
def ok4 (a : Nat) : Bool := match tuO a with
  | some v => (decide (0 ≤ v.2.2.1) && decide (v.2.2.1 ≤ 100000)) && (decide ((v.2.2.1 - 10000).tmod 64 = 0) && !(FloatKind.f64.format.order v.2.2.2 4562254508917369340 == some .gt))
  | none => false
theorem ok4_tab : ∀ a : Nat, a < 256 → ok4 a = true := by decide +kernel
/-- The eighths in 32 bits. -/
theorem eighth_tab : ∀ n : Nat, n < 200 → floatBits .quo .f32 (floatOfInt .f32 (1 + (n : Int))) 1090519040 = some ((120 + (8 * (n + 1)).log2) * 8388608 + 8 * (n + 1) * 2 ^ (23 - (8 * (n + 1)).log2)) := by decide +kernel
/-- The angle of the imaginary unit is a quarter. -/
theorem unit_tab : (widB 1065353216 4607182418800017408 && widB 0 0) && (angR 4607182418800017408 0 false false == some 1048576000) = true := by decide +kernel
end Go.Proofs.Ytopfeilfgbcihaa
