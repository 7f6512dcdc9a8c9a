/- Plain facts on IEEE words: reading back what was written, NaNs, the test for finiteness, widening from 32 to 64 bits. No program in sight. -/
import Derived.Laws.FloatArith
import Derived.Deep.Draws
namespace Go.Proofs.Ytopfeilfgbcihaa

/-! ### What an operation gives, the tape's choice included -/
def fpick (q : Question) (w : World) : Nat := q.cut (w.tape w.drawn q)
def fval (op : BinOp) (k : FloatKind) (x y : Nat) (w : World) : Nat := (floatBits op k x y).getD (fpick (.nanBits k x y) w)
def fdraw (o : Option Nat) : Nat := match o with | some _ => 0 | none => 1
def fN (op : BinOp) (k : FloatKind) (x y : Nat) : Nat := fdraw (floatBits op k x y)
/-- Conversion between float kinds. -/
def cval (s : FloatKind) (b : Nat) (k : FloatKind) (w : World) : Nat :=
  (floatToFloatBits s b k).getD (match s.decode b with | .nan .. => fpick (.nanConv k b) w | _ => fpick (.floatToFloat b) w)
def cN (s : FloatKind) (b : Nat) (k : FloatKind) : Nat := fdraw (floatToFloatBits s b k)
/-- Conversion to an integer. -/
def ival (s : FloatKind) (b : Nat) (k : IntKind) (w : World) : Int := (floatToIntVal s b k).getD (k.wrap (fpick (.floatToInt s b k) w))
def iN (s : FloatKind) (b : Nat) (k : IntKind) : Nat := match floatToIntVal s b k with | some _ => 0 | none => 1
/-- The square root. -/
def rval (x : Nat) (w : World) : Nat := (FloatKind.f64.format.sqrt x).getD (fpick (.nanBits .f64 x x) w)
def rN (x : Nat) : Nat := fdraw (FloatKind.f64.format.sqrt x)

/-! ### Reading a word -/
open Ieee

def readRung (f : Format) (neg : Bool) (rung : Nat) : Datum :=
  if rung < f.binade then .number neg rung f.leastPlace
  else if rung < f.infRung then .number neg (f.binade + rung % f.binade) (f.leastPlace + (rung / f.binade - 1 : Nat))
  else if rung = f.infRung then .infinity neg
  else .nan neg (rung - f.infRung)

theorem sw_pos (f : Format) : 0 < f.signWeight := Nat.two_pow_pos _
theorem bin_pos (f : Format) : 0 < f.binade := Nat.two_pow_pos _

theorem read_word (f : Format) (neg : Bool) (rung : Nat) (h : rung < f.signWeight) : f.read (f.word neg rung) = readRung f neg rung := by
  have hp := sw_pos f
  have h1 : f.word neg rung % f.signWeight = rung := by
    unfold Format.word
    cases neg
    · simp [Nat.mod_eq_of_lt h]
    · simp [Nat.mod_eq_of_lt h]
  have h2 : (f.word neg rung / f.signWeight % 2 == 1) = neg := by
    unfold Format.word
    cases neg
    · simp [Nat.div_eq_of_lt h]
    · simp [Nat.add_div_left, hp, Nat.div_eq_of_lt h]
  unfold Format.read readRung
  simp only [h1, h2]

/-- Every word is the word of its sign and its rung. -/
theorem word_eq (f : Format) (x : Nat) (h : x < 2 * f.signWeight) : x = f.word (x / f.signWeight % 2 == 1) (x % f.signWeight) := by
  have hp := sw_pos f
  have hd : x / f.signWeight < 2 := Nat.div_lt_of_lt_mul (by omega)
  have := Nat.div_add_mod x f.signWeight
  unfold Format.word
  rcases (by revert hd; generalize x / f.signWeight = q; omega : x / f.signWeight = 0 ∨ x / f.signWeight = 1) with e | e
  · rw [e] at this ⊢; simp; omega
  · rw [e] at this ⊢; simp; omega

theorem read_eq (f : Format) (x : Nat) : f.read x = readRung f (x / f.signWeight % 2 == 1) (x % f.signWeight) := rfl

theorem read_inj (f : Format) (x y : Nat) (hx : x < 2 * f.signWeight) (hy : y < 2 * f.signWeight) (hs : (x / f.signWeight % 2 == 1) = (y / f.signWeight % 2 == 1)) (hr : x % f.signWeight = y % f.signWeight) : x = y := by
  rw [word_eq f x hx, word_eq f y hy, hs, hr]

/-- What the two formats share. -/
structure Fair (f : Format) : Prop where
  low : f.binade ≤ f.infRung
  sum : f.infRung + f.binade = f.signWeight
  wid : 2 ^ f.width = 2 * f.signWeight

theorem fair_single : Fair single := ⟨by decide, by decide, by decide⟩
theorem fair_double : Fair double := ⟨by decide +kernel, by decide +kernel, by decide +kernel⟩
theorem fair (k : FloatKind) : Fair k.format := by cases k; exact fair_single; exact fair_double

theorem readRung_nan {f : Format} (hf : Fair f) (neg : Bool) (rung : Nat) : (readRung f neg rung).isNaN = decide (f.infRung < rung) := by
  have := hf.low
  unfold readRung
  split
  · simp [Datum.isNaN]; omega
  · split
    · simp [Datum.isNaN]; omega
    · split
      · rename_i h; simp [Datum.isNaN, h]
      · simp [Datum.isNaN]; omega

def nanB (k : FloatKind) (x : Nat) : Bool := (k.decode x).isNaN

theorem nan_pick32 (t : Nat) : nanB .f32 ((t % 2) * 2 ^ 31 + 0x7f800000 + 1 + (t / 2) % (2 ^ 23 - 1)) = true := by
  unfold nanB FloatKind.decode
  rw [read_eq, readRung_nan (fair .f32)]
  show decide (2139095040 < ((t % 2) * 2 ^ 31 + 0x7f800000 + 1 + (t / 2) % (2 ^ 23 - 1)) % 2147483648) = true
  rw [decide_eq_true_eq]
  have hr : t / 2 % (2 ^ 23 - 1) < 2 ^ 23 - 1 := Nat.mod_lt _ (by decide)
  revert hr
  generalize t / 2 % (2 ^ 23 - 1) = r
  rcases Nat.mod_two_eq_zero_or_one t with h | h <;> rw [h] <;> intro hr <;> omega
theorem nan_pick64 (t : Nat) : nanB .f64 ((t % 2) * 2 ^ 63 + 0x7ff0000000000000 + 1 + (t / 2) % (2 ^ 52 - 1)) = true := by
  unfold nanB FloatKind.decode
  rw [read_eq, readRung_nan (fair .f64)]
  show decide (9218868437227405312 < ((t % 2) * 2 ^ 63 + 0x7ff0000000000000 + 1 + (t / 2) % (2 ^ 52 - 1)) % 9223372036854775808) = true
  rw [decide_eq_true_eq]
  have hr : t / 2 % (2 ^ 52 - 1) < 2 ^ 52 - 1 := Nat.mod_lt _ (by decide)
  revert hr
  generalize t / 2 % (2 ^ 52 - 1) = r
  rcases Nat.mod_two_eq_zero_or_one t with h | h <;> rw [h] <;> intro hr <;> omega
theorem nan_bits (k : FloatKind) (x y : Nat) (w : World) : nanB k (fpick (.nanBits k x y) w) = true := by
  cases k
  · exact nan_pick32 _
  · exact nan_pick64 _
theorem nan_conv (k : FloatKind) (x : Nat) (w : World) : nanB k (fpick (.nanConv k x) w) = true := by
  cases k
  · exact nan_pick32 _
  · exact nan_pick64 _

theorem nan_zero (k : FloatKind) : nanB k 0 = false := by cases k <;> decide

theorem nearest_rung {f : Format} (neg : Bool) (mag : Nat) (place : Int) : ∃ rung, rung ≤ f.infRung ∧ f.nearest neg mag place = f.word neg rung := by
  unfold Format.nearest
  split
  · exact ⟨0, Nat.zero_le _, rfl⟩
  · exact ⟨_, Nat.min_le_right _ _, rfl⟩

theorem write_not_nan {f : Format} (hf : Fair f) (d : Datum) (h : d.isNaN = false) : (f.read (f.write d)).isNaN = false := by
  have h1 := hf.sum
  have h2 := bin_pos f
  cases d with
  | number neg mag place =>
    obtain ⟨r, hr, e⟩ := nearest_rung (f := f) neg mag place
    show (f.read (f.nearest neg mag place)).isNaN = false
    rw [e, read_word f neg r (by omega), readRung_nan hf]
    simp; omega
  | infinity neg =>
    show (f.read (f.word neg f.infRung)).isNaN = false
    rw [read_word f neg _ (by omega), readRung_nan hf]
    simp
  | nan neg t => simp [Datum.isNaN] at h

theorem sum_not_nan {a b d : Datum} (h : a.sum b = some d) : a.isNaN = false ∧ b.isNaN = false ∧ d.isNaN = false := by
  cases a <;> cases b <;> simp_all [Datum.sum, Datum.isNaN]
  all_goals (try (split at h <;> simp_all))
  all_goals (first | (subst h; rfl) | (obtain ⟨_, rfl⟩ := h; rfl))
theorem product_not_nan {a b d : Datum} (h : a.product b = some d) : a.isNaN = false ∧ b.isNaN = false ∧ d.isNaN = false := by
  cases a <;> cases b <;> simp_all [Datum.product, Datum.isNaN]
  all_goals (first | (subst h; rfl) | (obtain ⟨_, rfl⟩ := h; rfl))
theorem quotient_not_nan {n : Nat} {a b d : Datum} (h : a.quotient n b = some d) : a.isNaN = false ∧ b.isNaN = false ∧ d.isNaN = false := by
  cases a <;> cases b <;> simp_all [Datum.quotient, Datum.isNaN]
  all_goals (try (split at h <;> (try split at h) <;> simp_all))
  all_goals (first | (subst h; rfl) | (obtain ⟨_, rfl⟩ := h; rfl))
theorem opposite_nan (d : Datum) : d.opposite.isNaN = d.isNaN := by cases d <;> rfl
theorem root_not_nan {n : Nat} {a d : Datum} (h : a.root n = some d) : a.isNaN = false ∧ d.isNaN = false := by
  cases a <;> simp_all [Datum.root, Datum.isNaN]
  all_goals (try (split at h <;> (try split at h) <;> simp_all))
  all_goals (first | (subst h; rfl) | (obtain ⟨_, h⟩ := h; subst h; rfl))

/-- A valid operation has no NaN in it. -/
theorem bits_not_nan {op : BinOp} {k : FloatKind} {x y r : Nat} (h : floatBits op k x y = some r) : nanB k x = false ∧ nanB k y = false ∧ nanB k r = false := by
  unfold floatBits at h
  unfold nanB FloatKind.decode
  split at h
  · obtain ⟨d, hd, rfl⟩ := Option.map_eq_some_iff.1 h
    have := sum_not_nan hd
    exact ⟨this.1, this.2.1, write_not_nan (fair k) d this.2.2⟩
  · obtain ⟨d, hd, rfl⟩ := Option.map_eq_some_iff.1 h
    have := sum_not_nan hd
    rw [opposite_nan] at this
    exact ⟨this.1, this.2.1, write_not_nan (fair k) d this.2.2⟩
  · obtain ⟨d, hd, rfl⟩ := Option.map_eq_some_iff.1 h
    have := product_not_nan hd
    exact ⟨this.1, this.2.1, write_not_nan (fair k) d this.2.2⟩
  · obtain ⟨d, hd, rfl⟩ := Option.map_eq_some_iff.1 h
    have := quotient_not_nan hd
    exact ⟨this.1, this.2.1, write_not_nan (fair k) d this.2.2⟩
  · cases h

/-! ### Numbers up to the choice of a NaN -/
/-- The number, or nothing where it is a NaN. -/
def av (k : FloatKind) (x : Nat) : Option Nat := if nanB k x then none else some x
def aop (op : BinOp) (k : FloatKind) (a b : Option Nat) : Option Nat := a.bind fun x => b.bind fun y => floatBits op k x y
def aord (k : FloatKind) (a b : Option Nat) : Option Ordering := a.bind fun x => b.bind fun y => k.format.order x y
def acv (s k : FloatKind) (a : Option Nat) : Option Nat := a.bind fun x => floatToFloatBits s x k
def art (a : Option Nat) : Option Nat := a.bind fun x => FloatKind.f64.format.sqrt x

theorem av_some {k : FloatKind} {x : Nat} (h : nanB k x = false) : av k x = some x := by simp [av, h]
theorem av_none {k : FloatKind} {x : Nat} (h : nanB k x = true) : av k x = none := by simp [av, h]

theorem av_fval (op : BinOp) (k : FloatKind) (x y : Nat) (w : World) : av k (fval op k x y w) = aop op k (av k x) (av k y) := by
  unfold fval
  cases h : floatBits op k x y with
  | some r =>
    obtain ⟨h1, h2, h3⟩ := bits_not_nan h
    simp [av_some h1, av_some h2, av_some h3, aop, h]
  | none =>
    rw [Option.getD_none, av_none (nan_bits k x y w)]
    unfold aop av
    split <;> split <;> simp [h]

theorem order_none_iff (k : FloatKind) (x y : Nat) : k.format.order x y = none ↔ nanB k x = true ∨ nanB k y = true := by
  unfold Format.order nanB FloatKind.decode
  cases k.format.read x <;> cases k.format.read y <;> simp [Datum.order, Datum.isNaN]

theorem ord_av (k : FloatKind) (x y : Nat) : k.format.order x y = aord k (av k x) (av k y) := by
  have h := order_none_iff k x y
  unfold aord av
  by_cases hx : nanB k x = true
  · simp [hx, h.2 (.inl hx)]
  · by_cases hy : nanB k y = true
    · simp [hy, h.2 (.inr hy)]
    · simp [hx, hy]

theorem order_self (k : FloatKind) (x : Nat) : k.format.order x x = if nanB k x then none else some .eq := by
  unfold Format.order nanB FloatKind.decode
  cases k.format.read x <;> simp [Datum.order, Datum.isNaN]
theorem ne_self (k : FloatKind) (x : Nat) : (k.format.order x x != some .eq) = nanB k x := by
  rw [order_self]; cases nanB k x <;> rfl

theorem same_kind (s : FloatKind) (b : Nat) (w : World) : cval s b s w = b := by simp [cval, floatToFloatBits]
theorem av_conv_same (s : FloatKind) (a : Option Nat) : acv s s a = a := by cases a <;> simp [acv, floatToFloatBits]

/-- A conversion that does not overflow. -/
theorem av_cval (s k : FloatKind) (b : Nat) (w : World) (hne : s ≠ k) (h : nanB s b = true ∨ (floatToFloatBits s b k).isSome = true) : av k (cval s b k w) = acv s k (av s b) := by
  unfold cval
  rcases h with h | h
  · have hd : ∃ sg t, s.decode b = .nan sg t := by
      unfold nanB at h
      cases hd : s.decode b <;> simp_all [Datum.isNaN]
    obtain ⟨sg, t, hd⟩ := hd
    have e : floatToFloatBits s b k = none := by simp [floatToFloatBits, hne, hd]
    rw [e, Option.getD_none, hd]
    show av k (fpick (.nanConv k b) w) = _
    rw [av_none (nan_conv k b w), av_none h]; rfl
  · obtain ⟨r, hr⟩ := Option.isSome_iff_exists.1 h
    have hb : nanB s b = false ∧ nanB k r = false := by
      unfold floatToFloatBits at hr
      rw [if_neg hne] at hr
      unfold nanB
      cases hd : s.decode b with
      | nan sg t => simp [hd] at hr
      | infinity sg =>
        simp only [hd, Option.some.injEq] at hr
        subst hr
        exact ⟨rfl, write_not_nan (fair k) _ rfl⟩
      | number sg m e =>
        simp only [hd] at hr
        split at hr
        · cases hr
        · simp only [Option.some.injEq] at hr
          subst hr
          exact ⟨rfl, write_not_nan (fair k) _ rfl⟩
    rw [hr, Option.getD_some, av_some hb.1, av_some hb.2]
    simp [acv, hr]

theorem av_rval (x : Nat) (w : World) : av .f64 (rval x w) = art (av .f64 x) := by
  unfold rval
  cases h : FloatKind.f64.format.sqrt x with
  | some r =>
    obtain ⟨d, hd, rfl⟩ := Option.map_eq_some_iff.1 h
    have := root_not_nan hd
    have h1 : nanB .f64 x = false := this.1
    have h2 : nanB .f64 (FloatKind.f64.format.write d) = false := write_not_nan (fair .f64) d this.2
    rw [Option.getD_some, av_some h1, av_some h2]; simp [art, h]
  | none =>
    rw [Option.getD_none, av_none (nan_bits .f64 x x w)]
    unfold art av
    split <;> simp [h]

/-! ### Finite -/
def finB (k : FloatKind) (x : Nat) : Bool := match k.decode x with | .number .. => true | _ => false
theorem signed_cancel (s : Bool) (m u : Nat) : signed s m u + signed (!s) m u = 0 := by
  cases s <;> simp [signed] <;> omega
theorem sub_self_eq (k : FloatKind) (x : Nat) : (aord k (aop .sub k (some x) (some x)) (some 0) == some .eq) = finB k x := by
  have h0 : k.format.order 0 0 = some .eq := by cases k <;> decide
  have e : k.format.sub x x = ((k.format.read x).sum (k.format.read x).opposite).map k.format.write := rfl
  unfold finB aop floatBits FloatKind.decode
  simp only [Option.bind_some, e]
  cases k.format.read x with
  | nan s t => simp [Datum.sum, aord]
  | infinity s => cases s <;> simp [Datum.sum, Datum.opposite, aord]
  | number s m i =>
    have e2 : (signed s m 0 + signed (!s) m 0) = 0 := signed_cancel s m 0
    have e3 : k.format.write (.number false 0 i) = 0 := by cases k <;> simp [Format.write, Format.nearest, Format.word]
    simp [Datum.sum, Datum.opposite, e2, e3, aord, h0]
theorem fin_walk (k : FloatKind) (x : Nat) (w : World) : (k.format.order (fval .sub k x x w) 0 == some .eq) = finB k x := by
  have h0 : nanB k 0 = false := by cases k <;> decide
  rw [ord_av, av_fval, av_some h0]
  by_cases h : nanB k x = true
  · rw [av_none h]
    have : finB k x = false := by unfold finB; unfold nanB at h; cases hd : k.decode x <;> simp_all [Datum.isNaN]
    rw [this]; rfl
  · rw [av_some (by simpa using h)]
    exact sub_self_eq k x

end Go.Proofs.Ytopfeilfgbcihaa
