/- Texts with commas between, in plain words. No program in sight. -/
import Derived.Test.YtoemjeomfnndaaaDoorVal
import Derived.Test.YtoemjeomfnndaaaDoorInC
import Derived.Lib.Join
namespace Go.Proofs.YtoemjeomfnndaaaDoor
open Go.RowKit
set_option linter.unusedVariables false
/-- n pieces with commas between. -/
def tx (p : Nat → List UInt8) : Nat → List UInt8
  | 0 => []
  | 1 => p 0
  | k + 2 => tx p (k + 1) ++ ([44] ++ p (k + 1))
theorem tx_succ (p : Nat → List UInt8) (k : Nat) (h : 1 ≤ k) : tx p (k + 1) = tx p k ++ ([44] ++ p k) := by
  obtain ⟨j, rfl⟩ : ∃ j, k = j + 1 := ⟨k - 1, by omega⟩
  rfl
theorem join_snoc (xs : List (List UInt8)) (y sep : List UInt8) (h : xs ≠ []) : Lib.join (xs ++ [y]) sep = Lib.join xs sep ++ (sep ++ y) := by
  cases xs with
  | nil => exact absurd rfl h
  | cons x r =>
    rw [List.cons_append, Lib.join_cons, Lib.join_cons]
    unfold Lib.joinTail
    simp
theorem tx_join (p : Nat → List UInt8) : ∀ n, 1 ≤ n → Lib.join ((List.range n).map p) [44] = tx p n
  | 0, h => absurd h (by omega)
  | 1, _ => by simp [List.range_succ, tx, Lib.join_one]
  | n + 2, _ => by
    rw [List.range_succ, List.map_append, List.map_cons, List.map_nil, join_snoc _ _ _ (by simp), tx_join p (n + 1) (by omega)]
    rfl
theorem tx_len (p : Nat → List UInt8) (L : Nat) : ∀ n, (∀ i, i < n → (p i).length ≤ L) → (tx p n).length ≤ n * (L + 1)
  | 0, _ => by simp [tx]
  | 1, h => by have := h 0 (by omega); simp [tx]; omega
  | n + 2, h => by
    have h1 := tx_len p L (n + 1) (fun i hi => h i (by omega))
    have h2 := h (n + 1) (by omega)
    have e : (n + 2) * (L + 1) = (n + 1) * (L + 1) + (L + 1) := by rw [Nat.succ_mul (n + 1)]
    simp only [tx, List.length_append, List.length_cons, List.length_nil]
    omega
/-- n pieces with commas between, or the word none. -/
def listTx (p : Nat → List UInt8) (n : Nat) : List UInt8 := if n = 0 then [110, 111, 110, 101] else tx p n
/-- May all these numbers be written? -/
def allV (z : Nat → Int) : Nat → Bool
  | 0 => true
  | n + 1 => allV z n && inR (z n) (-1000000000000000) 1000000000000000
theorem allV_succ (z : Nat → Int) (n : Nat) : allV z (n + 1) = (allV z n && inR (z n) (-1000000000000000) 1000000000000000) := rfl
theorem allV_no {z : Nat → Int} {k : Nat} (h : inR (z k) (-1000000000000000) 1000000000000000 = false) : ∀ n, k < n → allV z n = false
  | 0, hn => absurd hn (Nat.not_lt_zero _)
  | n + 1, hn => by
    rw [allV_succ]
    by_cases e : k = n
    · subst e; rw [h, Bool.and_false]
    · rw [allV_no h n (by omega), Bool.false_and]
theorem allV_at {z : Nat → Int} : ∀ {n : Nat}, allV z n = true → ∀ i, i < n → inV (z i)
  | 0, _, i, hi => absurd hi (Nat.not_lt_zero _)
  | n + 1, h, i, hi => by
    rw [allV_succ, Bool.and_eq_true] at h
    by_cases e : i = n
    · subst e; exact inR_of h.2
    · exact allV_at h.1 i (by omega)
/-- May this list be written? -/
def ltB (z : Nat → Int) (n : Nat) : Bool := allV z n && decide (n ≤ 64)
/-- The pieces of a list. -/
def ptI (z : Nat → Int) : Nat → List UInt8 := fun i => Lib.itoa (z i)
abbrev kS (p : Nat → List UInt8) : Nat → Value := fun i => .string ⟨(p i).toArray⟩
theorem cat_list (a b : List UInt8) : (⟨a.toArray⟩ : ByteArray) ++ ⟨b.toArray⟩ = ⟨(a ++ b).toArray⟩ := by
  have : ∀ x y : ByteArray, x.data = y.data → x = y := fun x y h => by cases x; cases y; simpa using h
  apply this
  simp
theorem size_list (l : List UInt8) : (⟨l.toArray⟩ : ByteArray).size = l.length := by simp [ByteArray.size]
end Go.Proofs.YtoemjeomfnndaaaDoor
