/- Plain facts on IEEE words: the numbers of a format in order ('rungs'); comparison, exactness and bounds of rounding in terms of rungs. No program in sight. -/
import Derived.Test.YtopfeilfgbcihaaNum
namespace Go.Proofs.Ytopfeilfgbcihaa
open Ieee

/-- The magnitude of a rung in units of the format's least place. -/
def rungVal (f : Format) (r : Nat) : Nat := if r < f.binade then r else (f.binade + r % f.binade) * 2 ^ (r / f.binade - 1)

theorem rungVal_block (f : Format) (q t : Nat) (ht : t < f.binade) : rungVal f ((q + 1) * f.binade + t) = (f.binade + t) * 2 ^ q := by
  have hb := bin_pos f
  unfold rungVal
  rw [if_neg (by have := Nat.le_mul_of_pos_left f.binade (show 0 < q + 1 by omega); omega)]
  have h1 : ((q + 1) * f.binade + t) % f.binade = t := by rw [Nat.add_comm, Nat.add_mul_mod_self_right, Nat.mod_eq_of_lt ht]
  have h2 : ((q + 1) * f.binade + t) / f.binade = q + 1 := by rw [Nat.add_comm, Nat.add_mul_div_right _ _ hb, Nat.div_eq_of_lt ht, Nat.zero_add]
  rw [h1, h2, Nat.add_sub_cancel]

theorem rung_split (f : Format) (r : Nat) : r < f.binade ∨ ∃ q t, t < f.binade ∧ r = (q + 1) * f.binade + t := by
  have hb := bin_pos f
  by_cases h : r < f.binade
  · exact .inl h
  · right
    have h1 := Nat.div_add_mod r f.binade
    have h2 : 1 ≤ r / f.binade := (Nat.one_le_div_iff hb).2 (by omega)
    refine ⟨r / f.binade - 1, r % f.binade, Nat.mod_lt _ hb, ?_⟩
    rw [Nat.sub_add_cancel h2, Nat.mul_comm]; exact h1.symm

/-- One rung up is strictly more. -/
theorem rungVal_succ (f : Format) (r : Nat) : rungVal f r < rungVal f (r + 1) := by
  have hb := bin_pos f
  rcases rung_split f r with h | ⟨q, t, ht, rfl⟩
  · have e0 : rungVal f r = r := by unfold rungVal; rw [if_pos h]
    rw [e0]
    by_cases h' : r + 1 < f.binade
    · unfold rungVal; rw [if_pos h']; omega
    · have e : r + 1 = (0 + 1) * f.binade + 0 := by omega
      rw [e, rungVal_block f 0 0 hb]; simp; omega
  · rw [rungVal_block f q t ht]
    have hp : 0 < 2 ^ q := Nat.two_pow_pos q
    by_cases h' : t + 1 < f.binade
    · rw [Nat.add_assoc, rungVal_block f q (t + 1) h']
      exact Nat.mul_lt_mul_of_pos_right (by omega) hp
    · have e : (q + 1) * f.binade + t + 1 = (q + 1 + 1) * f.binade + 0 := by
        have : t + 1 = f.binade := by omega
        rw [Nat.add_assoc, this, Nat.add_mul (q + 1) 1]; omega
      rw [e, rungVal_block f (q + 1) 0 hb, Nat.pow_succ, Nat.add_zero]
      have h2 : f.binade * (2 ^ q * 2) = (f.binade + f.binade) * 2 ^ q := by rw [Nat.mul_comm (2 ^ q), ← Nat.mul_assoc]; congr 1; omega
      rw [h2]
      exact Nat.mul_lt_mul_of_pos_right (by omega) hp

theorem rungVal_lt (f : Format) {r s : Nat} (h : r < s) : rungVal f r < rungVal f s := by
  induction s with
  | zero => omega
  | succ n ih =>
    rcases Nat.lt_or_ge r n with h' | h'
    · exact Nat.lt_trans (ih h') (rungVal_succ f n)
    · obtain rfl : r = n := by omega
      exact rungVal_succ f r
theorem rungVal_le (f : Format) {r s : Nat} (h : r ≤ s) : rungVal f r ≤ rungVal f s := by
  rcases Nat.lt_or_ge r s with h' | h'
  · exact Nat.le_of_lt (rungVal_lt f h')
  · obtain rfl : r = s := by omega
    exact Nat.le_refl _
theorem rungVal_le_iff (f : Format) {r s : Nat} : rungVal f r ≤ rungVal f s ↔ r ≤ s :=
  ⟨fun h => Nat.le_of_not_lt fun h' => by have := rungVal_lt f h'; omega, rungVal_le f⟩
theorem rungVal_inj (f : Format) {r s : Nat} (h : rungVal f r = rungVal f s) : r = s :=
  Nat.le_antisymm ((rungVal_le_iff f).1 (Nat.le_of_eq h)) ((rungVal_le_iff f).1 (Nat.le_of_eq h.symm))

/-- What a finite rung reads as. -/
theorem readRung_fin (f : Format) (neg : Bool) (r : Nat) (h : r < f.infRung) :
    ∃ m k : Nat, readRung f neg r = .number neg m (f.leastPlace + (k : Int)) ∧ m * 2 ^ k = rungVal f r ∧ m < 2 * f.binade := by
  have hb := bin_pos f
  unfold readRung
  by_cases hr : r < f.binade
  · rw [if_pos hr]
    exact ⟨r, 0, by simp, by unfold rungVal; rw [if_pos hr]; simp, by omega⟩
  · rw [if_neg hr, if_pos h]
    refine ⟨_, _, rfl, by unfold rungVal; rw [if_neg hr], ?_⟩
    have := Nat.mod_lt r hb
    omega

theorem readRung_inf (f : Format) (hf : Fair f) (neg : Bool) : readRung f neg f.infRung = .infinity neg := by
  have := hf.low
  unfold readRung
  rw [if_neg (by omega), if_neg (by omega), if_pos rfl]

/-- The sign and the rung of a word; its signed rung. -/
def sgn (f : Format) (x : Nat) : Bool := x / f.signWeight % 2 == 1
def rng (f : Format) (x : Nat) : Nat := x % f.signWeight
def sr (f : Format) (x : Nat) : Int := if sgn f x then -(rng f x : Int) else rng f x

theorem sgn_word (f : Format) (neg : Bool) (r : Nat) (h : r < f.signWeight) : sgn f (f.word neg r) = neg := by
  have hp := sw_pos f
  unfold sgn Format.word
  cases neg
  · simp [Nat.div_eq_of_lt h]
  · simp [Nat.add_div_left, hp, Nat.div_eq_of_lt h]
theorem rng_word (f : Format) (neg : Bool) (r : Nat) (h : r < f.signWeight) : rng f (f.word neg r) = r := by
  unfold rng Format.word
  cases neg <;> simp [Nat.mod_eq_of_lt h]

theorem nanB_rng (k : FloatKind) (x : Nat) : nanB k x = decide (k.format.infRung < rng k.format x) := by
  unfold nanB FloatKind.decode rng
  rw [read_eq, readRung_nan (fair k)]

theorem signed_mul (s : Bool) (m u v : Nat) : signed s m (u + v) = signed s m u * 2 ^ v := by
  have h : ((m * 2 ^ (u + v) : Nat) : Int) = ((m * 2 ^ u : Nat) : Int) * 2 ^ v := by
    rw [Nat.pow_add, ← Nat.mul_assoc, Int.natCast_mul]; simp
  cases s <;> simp only [signed, Nat.shiftLeft_eq, if_true, Bool.false_eq_true, if_false, h, Int.neg_mul]
theorem signed_val (s : Bool) (m u : Nat) : signed s m u = if s then -((m * 2 ^ u : Nat) : Int) else ((m * 2 ^ u : Nat) : Int) := by
  cases s <;> simp [signed, Nat.shiftLeft_eq]
theorem compare_mul (a b : Int) (u : Nat) : compare (a * 2 ^ u) (b * 2 ^ u) = compare a b := by
  have hp : (0 : Int) < 2 ^ u := Int.pow_pos (by decide)
  have e1 : a * 2 ^ u < b * 2 ^ u ↔ a < b := ⟨fun h => Int.lt_of_mul_lt_mul_right h (Int.le_of_lt hp), fun h => Int.mul_lt_mul_of_pos_right h hp⟩
  have e2 : a * 2 ^ u = b * 2 ^ u ↔ a = b := ⟨fun h => Int.eq_of_mul_eq_mul_right (Int.ne_of_gt hp) h, fun h => by rw [h]⟩
  simp only [compare, compareOfLessAndEq, e1, e2]

/-- Two numbers' order, by what they come to in a common unit. -/
theorem order_units (s t : Bool) (m n : Nat) (a b : Nat) (base : Int) :
    (Datum.number s m (base + a)).order (.number t n (base + b)) = some (compare (signed s m a) (signed t n b)) := by
  have h : ∀ lo : Nat, lo ≤ a → lo ≤ b → some (compare (signed s m (base + a - (base + lo)).toNat) (signed t n (base + b - (base + lo)).toNat)) = some (compare (signed s m a) (signed t n b)) := by
    intro lo h1 h2
    have e1 : (base + (a : Int) - (base + lo)).toNat = a - lo := by omega
    have e2 : (base + (b : Int) - (base + lo)).toNat = b - lo := by omega
    rw [e1, e2]
    have e3 := signed_mul s m (a - lo) lo
    have e4 := signed_mul t n (b - lo) lo
    rw [Nat.sub_add_cancel h1] at e3
    rw [Nat.sub_add_cancel h2] at e4
    rw [e3, e4, compare_mul]
  simp only [Datum.order]
  rcases Nat.le_total a b with hab | hab
  · have e : min (base + (a : Int)) (base + (b : Int)) = base + a := by omega
    rw [e]; exact h a (Nat.le_refl _) hab
  · have e : min (base + (a : Int)) (base + (b : Int)) = base + b := by omega
    rw [e]; exact h b hab (Nat.le_refl _)

/-- THE ORDER OF TWO NUMBERS IS THE ORDER OF THEIR SIGNED RUNGS. -/
theorem order_sr (k : FloatKind) (x y : Nat) (hx : nanB k x = false) (hy : nanB k y = false) : k.format.order x y = some (compare (sr k.format x) (sr k.format y)) := by
  have hf := fair k
  rw [nanB_rng, decide_eq_false_iff_not] at hx hy
  have key : ∀ a b : Nat, compare (a : Int) (b : Int) = compare a b := by
    intro a b; simp only [compare, compareOfLessAndEq, Int.ofNat_lt, Int.ofNat_inj]
  unfold Format.order
  rw [read_eq, read_eq]
  change (readRung k.format (sgn k.format x) (rng k.format x)).order (readRung k.format (sgn k.format y) (rng k.format y)) = _
  unfold sr
  generalize sgn k.format x = s, sgn k.format y = t, rng k.format x = r, rng k.format y = u at *
  have mono : ∀ r u, (rungVal k.format r < rungVal k.format u ↔ r < u) := fun r u => ⟨fun h => Nat.lt_of_not_le fun h' => by have := rungVal_le k.format h'; omega, rungVal_lt _⟩
  have inj : ∀ r u, (rungVal k.format r = rungVal k.format u ↔ r = u) := fun r u => ⟨rungVal_inj _, fun h => by rw [h]⟩
  have z0 : rungVal k.format 0 = 0 := by unfold rungVal; rw [if_pos (bin_pos _)]
  have pos : ∀ r, (rungVal k.format r = 0 ↔ r = 0) := fun r => by have := inj r 0; rw [z0] at this; exact this
  have ip : 0 < k.format.infRung := by have := bin_pos k.format; have := hf.low; omega
  rcases Nat.lt_or_ge r k.format.infRung with hr | hr
  · obtain ⟨m, a, e1, v1, _⟩ := readRung_fin k.format s r hr
    rcases Nat.lt_or_ge u k.format.infRung with hu | hu
    · obtain ⟨n, b, e2, v2, _⟩ := readRung_fin k.format t u hu
      rw [e1, e2, order_units, signed_val, signed_val, v1, v2]
      have m1 := mono r u; have m2 := mono u r; have i1 := inj r u; have p1 := pos r; have p2 := pos u
      generalize rungVal k.format r = R, rungVal k.format u = U at *
      congr 1
      simp only [compare, compareOfLessAndEq]
      cases s <;> cases t <;> simp <;> (repeat' split) <;> first | rfl | omega
    · obtain rfl : u = k.format.infRung := by omega
      rw [e1, readRung_inf _ hf]
      simp only [Datum.order, compare, compareOfLessAndEq]
      cases s <;> cases t <;> simp <;> (repeat' split) <;> first | rfl | omega
  · obtain rfl : r = k.format.infRung := by omega
    rcases Nat.lt_or_ge u k.format.infRung with hu | hu
    · obtain ⟨n, b, e2, v2, _⟩ := readRung_fin k.format t u hu
      rw [e2, readRung_inf _ hf]
      simp only [Datum.order, compare, compareOfLessAndEq]
      cases s <;> cases t <;> simp <;> (repeat' split) <;> first | rfl | omega
    · obtain rfl : u = k.format.infRung := by omega
      rw [readRung_inf _ hf, readRung_inf _ hf]
      simp only [Datum.order, compare, compareOfLessAndEq]
      cases s <;> cases t <;> simp <;> (repeat' split) <;> first | rfl | omega

end Go.Proofs.Ytopfeilfgbcihaa
