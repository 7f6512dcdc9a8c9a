/- Hexadecimal digits, in plain words. No program in sight. -/
import Derived.Test.YtoemjeomfnndaaaDoorBase
namespace Go.Proofs.YtoemjeomfnndaaaDoor
set_option linter.unusedVariables false
def digs : List UInt8 := [48, 49, 50, 51, 52, 53, 54, 55, 56, 57, 97, 98, 99, 100, 101, 102]
/-- A hexadecimal digit. -/
def hd (d : Nat) : UInt8 := digs.getD d 0
theorem hd_nat : ∀ d, d < 16 → (hd d).toNat = if d < 10 then 48 + d else 87 + d := by decide
/-- The digit of n at place s. -/
def hx (n s : Nat) : UInt8 := hd (n / 16 ^ s % 16)
/-- Its last k digits. -/
def hexL (n k : Nat) : List UInt8 := (List.range k).map fun i => hx n (k - 1 - i)
theorem hexL_len (n k : Nat) : (hexL n k).length = k := by simp [hexL]
theorem hexL_get {n k i : Nat} (h : i < k) : (hexL n k)[i]? = some (hx n (k - 1 - i)) := by simp [hexL, h]
theorem hexL_succ (n k : Nat) : hexL n (k + 1) = hx n k :: hexL n k := by
  unfold hexL
  rw [List.range_succ_eq_map, List.map_cons, List.map_map]
  congr 1
  refine List.map_congr_left fun i hi => ?_
  have : i < k := List.mem_range.1 hi
  show hx n (k + 1 - 1 - (i + 1)) = hx n (k - 1 - i)
  rw [show k + 1 - 1 - (i + 1) = k - 1 - i by omega]
theorem hx_succ (n k : Nat) : hx n (k + 1) = hx (n / 16) k := by
  unfold hx
  rw [Nat.pow_succ, Nat.mul_comm, Nat.div_div_eq_div_mul]
theorem hexL_snoc (n : Nat) : ∀ k, hexL n (k + 1) = hexL (n / 16) k ++ [hx n 0]
  | 0 => rfl
  | k + 1 => by rw [hexL_succ, hexL_snoc n k, hexL_succ, hx_succ]; rfl
/-- Zeros ahead. -/
theorem hexL_pad {n j : Nat} (h : n < 16 ^ j) : ∀ m, hexL n (j + m) = List.replicate m 48 ++ hexL n j
  | 0 => rfl
  | m + 1 => by
    rw [show j + (m + 1) = j + m + 1 by omega, hexL_succ, hexL_pad h m, List.replicate_succ, List.cons_append]
    congr 1
    unfold hx
    rw [Nat.div_eq_of_lt (Nat.lt_of_lt_of_le h (Nat.pow_le_pow_right (by omega) (by omega)))]
    rfl
/-- A byte as a digit. -/
def dval (c : UInt8) : Option Nat := if 48 ≤ c.toNat ∧ c.toNat ≤ 57 then some (c.toNat - 48) else if 97 ≤ c.toNat ∧ c.toNat ≤ 102 then some (c.toNat - 87) else none
theorem dval_hd {d : Nat} (h : d < 16) : dval (hd d) = some d := by
  unfold dval
  rw [hd_nat d h]
  by_cases q : d < 10
  · rw [if_pos q, if_pos (by omega)]; congr 1; omega
  · rw [if_neg q, if_neg (by omega), if_pos (by omega)]; congr 1; omega
theorem dval_lt {c : UInt8} {d : Nat} (h : dval c = some d) : d < 16 := by
  unfold dval at h
  split at h
  · injection h with h; omega
  · split at h
    · injection h with h; omega
    · cases h
theorem hd_dval {c : UInt8} {d : Nat} (h : dval c = some d) : hd d = c := by
  have hl := dval_lt h
  apply UInt8.toNat_inj.1
  rw [hd_nat d hl]
  unfold dval at h
  split at h
  · injection h with h; rw [if_pos (by omega)]; omega
  · split at h
    · injection h with h; rw [if_neg (by omega)]; omega
    · cases h
/-- One byte more. -/
def hstep (o : Option Nat) (c : UInt8) : Option Nat := o.bind fun n => (dval c).map fun d => 16 * n + d
/-- The number of a text of hexadecimal digits. -/
def hexV (l : List UInt8) : Option Nat := l.foldl hstep (some 0)
theorem hexV_snoc (l : List UInt8) (c : UInt8) : hexV (l ++ [c]) = hstep (hexV l) c := by unfold hexV; rw [List.foldl_append]; rfl
theorem hexV_hex : ∀ k n, hexV (hexL n k) = some (n % 16 ^ k)
  | 0, n => by rw [Nat.pow_zero, Nat.mod_one]; rfl
  | k + 1, n => by
    rw [hexL_snoc, hexV_snoc, hexV_hex k (n / 16)]
    unfold hx
    rw [Nat.pow_zero, Nat.div_one]
    show (dval (hd (n % 16))).map _ = _
    rw [dval_hd (Nat.mod_lt _ (by omega)), Nat.pow_succ, Nat.mul_comm (16 ^ k) 16, Nat.mod_mul]
    show some (16 * (n / 16 % 16 ^ k) + n % 16) = some _
    congr 1; omega
theorem hexV_inv : ∀ (k : Nat) (l : List UInt8) (v : Nat), l.length = k → hexV l = some v → l = hexL v k ∧ v < 16 ^ k
  | 0, l, v, hl, h => by
    obtain rfl : l = [] := List.eq_nil_of_length_eq_zero hl
    injection h with h
    subst h
    exact ⟨rfl, by decide⟩
  | k + 1, l, v, hl, h => by
    rcases List.eq_nil_or_concat l with rfl | ⟨l', c, rfl⟩
    · simp at hl
    · rw [List.concat_eq_append] at *
      rw [hexV_snoc] at h
      have hl' : l'.length = k := by simpa using hl
      unfold hstep at h
      cases hn : hexV l' with
      | none => rw [hn] at h; cases h
      | some n =>
        rw [hn] at h
        cases hd' : dval c with
        | none => rw [hd'] at h; cases h
        | some d =>
          rw [hd'] at h
          injection h with h
          have h : 16 * n + d = v := h
          have hlt := dval_lt hd'
          obtain ⟨e, hb⟩ := hexV_inv k l' n hl' hn
          refine ⟨?_, ?_⟩
          · rw [hexL_snoc, show v / 16 = n by omega, ← e]
            congr 2
            unfold hx
            rw [Nat.pow_zero, Nat.div_one, show v % 16 = d by omega]
            exact (hd_dval hd').symm
          · rw [Nat.pow_succ]; omega
/-- Once no digit, no number. -/
theorem hexV_bad {l : List UInt8} {k : Nat} (hk : k < l.length) (h : dval l[k] = none) : hexV l = none := by
  have e : l = (l.take k ++ [l[k]]) ++ l.drop (k + 1) := by
    rw [List.append_assoc, List.singleton_append, ← List.drop_eq_getElem_cons hk, List.take_append_drop]
  have hn : ∀ r : List UInt8, r.foldl hstep none = none := fun r => by
    induction r with
    | nil => rfl
    | cons c r ih => exact ih
  rw [e]
  unfold hexV
  rw [List.foldl_append]
  have : (l.take k ++ [l[k]]).foldl hstep (some 0) = none := by
    show hexV (l.take k ++ [l[k]]) = none
    rw [hexV_snoc]
    unfold hstep
    cases hexV (l.take k) with
    | none => rfl
    | some n => show Option.map _ (dval l[k]) = none; rw [h]; rfl
  rw [this, hn]
theorem hexV_take {l : List UInt8} {k : Nat} (hk : k < l.length) : hexV (l.take (k + 1)) = hstep (hexV (l.take k)) l[k] := by
  rw [List.take_add_one, List.getElem?_eq_getElem hk]
  exact hexV_snoc _ _
theorem hexV_take_lt {l : List UInt8} {k n : Nat} (hk : k ≤ l.length) (h : hexV (l.take k) = some n) : n < 16 ^ k := (hexV_inv k _ _ (by rw [List.length_take]; omega) h).2
end Go.Proofs.YtoemjeomfnndaaaDoor
