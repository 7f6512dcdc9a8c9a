/- The number with a text of 8 hexadecimal digits, in plain words. No program in sight. -/
import Derived.Test.YtoemjeomfnndaaaDoorHex
import Derived.Test.YtoemjeomfnndaaaDoorSame
import Derived.Test.YtoemjeomfnndaaaDoorRd
namespace Go.Proofs.YtoemjeomfnndaaaDoor
set_option linter.unusedVariables false
theorem bitsN_idem (x : Nat) : bitsN (bitsN x) = bitsN x := by
  unfold bitsN
  cases h : nanB .f32 x
  · simp [h]
  · simp [nan_std]
/-- The number with a text, if there is one. -/
def numN (l : List UInt8) : Option Nat := if l.length = 8 then (hexV l).bind fun v => if bitsN v = v then some v else none else none
theorem numN_of {l : List UInt8} {m : Nat} (h : numN l = some m) : l = hexL m 8 ∧ m < 4294967296 ∧ bitsN m = m := by
  unfold numN at h
  split at h
  · rename_i hl
    cases hv : hexV l with
    | none => rw [hv] at h; cases h
    | some v =>
      rw [hv] at h
      change (if bitsN v = v then some v else none) = some m at h
      split at h
      · rename_i hb
        obtain rfl := Option.some.inj h
        obtain ⟨h1, h2⟩ := hexV_inv 8 l v hl hv
        exact ⟨h1, by omega, hb⟩
      · cases h
  · cases h
theorem numN_hex {m : Nat} (h : m < 4294967296) (hb : bitsN m = m) : numN (hexL m 8) = some m := by
  unfold numN
  rw [if_pos (hexL_len _ _), hexV_hex, Nat.mod_eq_of_lt (by omega)]
  show (if bitsN m = m then some m else none) = some m
  rw [if_pos hb]
theorem numN_len {l : List UInt8} (h : l.length ≠ 8) : numN l = none := by unfold numN; rw [if_neg h]
theorem numN_bad {l : List UInt8} {k : Nat} (hk : k < l.length) (h : dval l[k] = none) : numN l = none := by
  unfold numN
  split
  · rw [hexV_bad hk h]; rfl
  · rfl
theorem numN_val {l : List UInt8} {v : Nat} (hl : l.length = 8) (h : hexV l = some v) : numN l = if bitsN v = v then some v else none := by
  unfold numN; rw [if_pos hl, h]; rfl
/-- No number: then no number's digits are this text. -/
theorem numN_none {l : List UInt8} (h : numN l = none) (x : Nat) (hx : x < 4294967296) : hexL (bitsN x) 8 ≠ l := fun e => by
  have := numN_hex (bitsN_lt hx) (bitsN_idem x)
  rw [e, h] at this
  cases this
def qN (l : List UInt8) : Bool := (numN l).isSome
/-- The numbers of a text. -/
def fH (l : List UInt8) : Nat → Nat := fun i => (numN (pc l i)).getD 0
/-- What a digit of m is. -/
theorem hx_nat (m s : Nat) : ∃ d, d < 16 ∧ m / 16 ^ s = 16 * (m / 16 ^ (s + 1)) + d ∧ (hx m s).toNat = if d < 10 then 48 + d else 87 + d := by
  refine ⟨m / 16 ^ s % 16, Nat.mod_lt _ (by omega), ?_, ?_⟩
  · rw [Nat.pow_succ, ← Nat.div_div_eq_div_mul]; omega
  · unfold hx; exact hd_nat _ (Nat.mod_lt _ (by omega))
theorem hexL_at {m k : Nat} (h : k < (hexL m 8).length) : (hexL m 8)[k] = hx m (7 - k) := by
  have h8 : k < 8 := by rwa [hexL_len] at h
  have := hexL_get (n := m) h8
  rw [List.getElem?_eq_getElem h] at this
  exact Option.some.inj this
end Go.Proofs.YtoemjeomfnndaaaDoor
