/- ReadDecimal, in plain words: the number, from -10^15 to 10^15, with a text. No program in sight. -/
import Derived.Test.YtoemjeomfnndaaaDoorBase
import Derived.Lib.ItoaMem
import Derived.Lib.ParseIntB
namespace Go.Proofs.YtoemjeomfnndaaaDoor
open Go.Lib (itoa decDigits nDigits)
set_option linter.unusedVariables false
theorem dec_small {u : Nat} (h : u < 10) : decDigits u = [UInt8.ofNat (48 + u)] := by rw [decDigits, dif_pos h]
theorem dec_big {u : Nat} (h : ¬ u < 10) : decDigits u = decDigits (u / 10) ++ [UInt8.ofNat (48 + u % 10)] := by rw [decDigits, dif_neg h]
theorem digit_nat (u : Nat) : (UInt8.ofNat (48 + u % 10)).toNat = 48 + u % 10 := by
  rw [UInt8.toNat_ofNat']; omega
theorem dec_digits (u : Nat) : ∀ c ∈ decDigits u, 48 ≤ c.toNat ∧ c.toNat ≤ 57 := by
  induction u using Nat.strongRecOn with
  | _ u ih =>
    intro c hc
    by_cases h : u < 10
    · rw [dec_small h, List.mem_singleton] at hc
      subst hc
      have := digit_nat u
      rw [Nat.mod_eq_of_lt h] at this
      omega
    · rw [dec_big h, List.mem_append, List.mem_singleton] at hc
      rcases hc with hc | rfl
      · exact ih (u / 10) (by omega) c hc
      · have := digit_nat u; omega
/-- One byte of a text, read as a digit if it is one. -/
def dstep (n : Nat) (c : UInt8) : Nat := if 48 ≤ c.toNat ∧ c.toNat ≤ 57 then 10 * n + (c.toNat - 48) else n
/-- The number of the digits of a text. -/
def dv (l : List UInt8) : Nat := l.foldl dstep 0
theorem dv_snoc (l : List UInt8) (c : UInt8) : dv (l ++ [c]) = dstep (dv l) c := by unfold dv; rw [List.foldl_append]; rfl
theorem dv_minus (l : List UInt8) : dv (45 :: l) = dv l := rfl
theorem dv_dec (u : Nat) : dv (decDigits u) = u := by
  induction u using Nat.strongRecOn with
  | _ u ih =>
    by_cases h : u < 10
    · rw [dec_small h]
      have := digit_nat u
      rw [Nat.mod_eq_of_lt h] at this
      show dstep 0 _ = u
      unfold dstep
      rw [this, if_pos (by omega)]; omega
    · rw [dec_big h, dv_snoc, ih (u / 10) (by omega)]
      unfold dstep
      rw [digit_nat, if_pos (by omega)]; omega
theorem dv_lt : ∀ (l : List UInt8) (n k : Nat), n < 10 ^ k → l.foldl dstep n < 10 ^ (k + l.length)
  | [], n, k, h => h
  | c :: l, n, k, h => by
    rw [List.foldl_cons, List.length_cons, show k + (l.length + 1) = (k + 1) + l.length by omega]
    refine dv_lt l _ (k + 1) ?_
    rw [Nat.pow_succ]
    unfold dstep
    split <;> omega
/-- With its sign. -/
def dvS (l : List UInt8) : Int := if l.head? = some 45 then -(dv l : Int) else (dv l : Int)
theorem dec_ne (u : Nat) : decDigits u ≠ [] := by
  intro h
  have := Lib.decDigits_length u
  rw [h] at this
  have := Lib.nDigits_pos u
  simp at *
  omega
theorem dec_head (u : Nat) : ∃ c r, decDigits u = c :: r ∧ 48 ≤ c.toNat ∧ c.toNat ≤ 57 := by
  cases h : decDigits u with
  | nil => exact absurd h (dec_ne u)
  | cons c r => exact ⟨c, r, rfl, dec_digits u c (by rw [h]; exact List.mem_cons_self)⟩
theorem dvS_itoa (n : Int) : dvS (itoa n) = n := by
  unfold itoa
  by_cases h : n < 0
  · rw [if_pos h]
    unfold dvS
    rw [List.head?_cons, if_pos rfl, dv_minus, dv_dec]; omega
  · rw [if_neg h]
    obtain ⟨c, r, e, h1, h2⟩ := dec_head n.toNat
    unfold dvS
    rw [if_neg (by rw [e, List.head?_cons]; intro q; have := Option.some.inj q; subst this; exact absurd h1 (by decide)), dv_dec]; omega
theorem itoa_inj {m n : Int} (h : itoa m = itoa n) : m = n := by rw [← dvS_itoa m, h, dvS_itoa]
theorem nDigits_le : ∀ (k u : Nat), 1 ≤ k → u < 10 ^ k → nDigits u ≤ k
  | 0, u, h, _ => absurd h (by omega)
  | k + 1, u, _, hu => by
    by_cases h : u < 10
    · rw [Lib.nDigits_small h]; omega
    · rw [Lib.nDigits_big h]
      have h2 : u / 10 < 10 ^ k := by rw [Nat.pow_succ] at hu; omega
      have hk : 1 ≤ k := by
        rcases Nat.eq_zero_or_pos k with rfl | q
        · simp at h2; omega
        · exact q
      have := nDigits_le k (u / 10) hk h2
      omega
/-- The numbers that may be read. -/
def inV (n : Int) : Prop := -1000000000000000 ≤ n ∧ n ≤ 1000000000000000
theorem itoa_len {n : Int} (h : inV n) : 1 ≤ (itoa n).length ∧ (itoa n).length ≤ 17 := by
  unfold inV at h
  unfold itoa
  by_cases hn : n < 0
  · rw [if_pos hn, List.length_cons, Lib.decDigits_length]
    have := nDigits_le 16 n.natAbs (by omega) (by omega)
    omega
  · rw [if_neg hn, Lib.decDigits_length]
    have := nDigits_le 16 n.toNat (by omega) (by omega)
    have := Lib.nDigits_pos n.toNat
    omega
open Classical in
/-- The number with a text, if there is one. -/
noncomputable def valT (l : List UInt8) : Option Int := if inV (dvS l) ∧ itoa (dvS l) = l then some (dvS l) else none
theorem valT_some {l : List UInt8} {n : Int} (h : inV n) (e : itoa n = l) : valT l = some n := by
  subst e
  unfold valT
  rw [dvS_itoa, if_pos ⟨h, rfl⟩]
theorem valT_none {l : List UInt8} (h : ∀ n, inV n → itoa n ≠ l) : valT l = none := by
  unfold valT
  rw [if_neg fun q => h _ q.1 q.2]
theorem valT_of {l : List UInt8} {n : Int} (h : valT l = some n) : inV n ∧ itoa n = l := by
  unfold valT at h
  split at h
  · rename_i q
    obtain rfl := Option.some.inj h
    exact q
  · cases h
/-- The digits of a number, read by ParseUint. -/
theorem pum_append (M : Nat) (c : UInt8) : ∀ (l : List UInt8) (acc v : Nat), Lib.parseUintM M acc l = .ok v → Lib.parseUintM M acc (l ++ [c]) = Lib.parseUintM M v [c]
  | [], acc, v, h => by
    have : acc = v := by simpa [Lib.parseUintM] using h
    subst this; rfl
  | d :: l, acc, v, h => by
    rw [List.cons_append]
    unfold Lib.parseUintM at h ⊢
    split
    · rename_i q
      rw [if_pos q] at h
      split
      · rename_i q2; rw [if_pos q2] at h; cases h
      · rename_i q2
        rw [if_neg q2] at h
        split
        · rename_i q3; rw [if_pos q3] at h; cases h
        · rename_i q3
          rw [if_neg q3] at h
          exact pum_append M c l _ v h
    · rename_i q; rw [if_neg q] at h; cases h
theorem pum_one (M v u : Nat) (h1 : v < 1844674407370955162) (h2 : v * 10 + u % 10 ≤ M) : Lib.parseUintM M v [UInt8.ofNat (48 + u % 10)] = .ok (v * 10 + u % 10) := by
  unfold Lib.parseUintM
  rw [digit_nat, if_pos (by omega), if_neg (by omega), show 48 + u % 10 - 48 = u % 10 by omega, if_neg (by omega)]
  rfl
theorem pum_dec (u : Nat) (hu : u ≤ 1000000000000000) : Lib.parseUintM (2 ^ 64 - 1) 0 (decDigits u) = .ok u := by
  induction u using Nat.strongRecOn with
  | _ u ih =>
    by_cases h : u < 10
    · rw [dec_small h]
      have := pum_one (2 ^ 64 - 1) 0 u (by omega) (by omega)
      rwa [Nat.mod_eq_of_lt h, Nat.zero_mul, Nat.zero_add] at this
    · rw [dec_big h, pum_append _ _ _ _ _ (ih (u / 10) (by omega) (by omega)), pum_one _ _ _ (by omega) (by omega)]
      congr 1; omega
theorem pub_dec (u : Nat) (hu : u ≤ 1000000000000000) : Lib.parseUintB 64 (decDigits u) = .ok u := by
  unfold Lib.parseUintB
  rw [if_neg (dec_ne u)]
  exact pum_dec u hu
theorem parse_itoa {n : Int} (h : inV n) : Lib.parseIntB 64 (itoa n) = .ok n := by
  unfold inV at h
  unfold itoa
  by_cases hn : n < 0
  · rw [if_pos hn]
    have e : (45 : UInt8).toNat = 45 := rfl
    simp only [Lib.parseIntB, e, or_true, if_true, pub_dec n.natAbs (by omega)]
    rw [if_neg (by omega), if_neg (by omega)]
    congr 1; omega
  · rw [if_neg hn]
    obtain ⟨c, r, e, h1, h2⟩ := dec_head n.toNat
    have hp := pub_dec n.toNat (by omega)
    rw [e] at hp ⊢
    simp only [Lib.parseIntB]
    rw [if_neg (show ¬ (c.toNat = 43 ∨ c.toNat = 45) by omega), hp]
    simp only
    rw [if_neg (by omega), if_neg (by omega), if_neg (by omega)]
    congr 1; omega
end Go.Proofs.YtoemjeomfnndaaaDoor
