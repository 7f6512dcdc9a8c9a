/- Lists read from texts, in plain words. No program in sight. -/
import Derived.Test.YtoemjeomfnndaaaDoorCut
namespace Go.Proofs.YtoemjeomfnndaaaDoor
set_option linter.unusedVariables false
/-- Do the first n pieces pass? -/
def allS (q : Nat → Bool) : Nat → Bool
  | 0 => true
  | n + 1 => allS q n && q n
theorem allS_succ (q : Nat → Bool) (n : Nat) : allS q (n + 1) = (allS q n && q n) := rfl
theorem allS_no {q : Nat → Bool} {k : Nat} (h : q k = false) : ∀ n, k < n → allS q n = false
  | 0, hn => absurd hn (Nat.not_lt_zero _)
  | n + 1, hn => by
    rw [allS_succ]
    by_cases e : k = n
    · subst e; rw [h, Bool.and_false]
    · rw [allS_no h n (by omega), Bool.false_and]
theorem allS_at {q : Nat → Bool} : ∀ {n : Nat}, allS q n = true → ∀ i, i < n → q i = true
  | 0, _, i, hi => absurd hi (Nat.not_lt_zero _)
  | n + 1, h, i, hi => by
    rw [allS_succ, Bool.and_eq_true] at h
    by_cases e : i = n
    · subst e; exact h.2
    · exact allS_at h.1 i (by omega)
/-- The word none. -/
def noneW : List UInt8 := [110, 111, 110, 101]
/-- Is this the text of a list of at most M pieces that pass? -/
def rdOk (q : List UInt8 → Bool) (M : Nat) (l : List UInt8) : Bool := decide (l = noneW) || (decide ((pcs l).length ≤ M) && allS (fun i => q (pc l i)) (pcs l).length)
/-- Its length. -/
def rdN (q : List UInt8 → Bool) (M : Nat) (l : List UInt8) : Nat := if l = noneW then 0 else if rdOk q M l then (pcs l).length else 0
theorem rd_none {q : List UInt8 → Bool} {M : Nat} {l : List UInt8} (h : l = noneW) : rdOk q M l = true ∧ rdN q M l = 0 := by
  refine ⟨?_, if_pos h⟩
  unfold rdOk; rw [decide_eq_true h]; rfl
theorem rd_yes {q : List UInt8 → Bool} {M : Nat} {l : List UInt8} (h : l ≠ noneW) (h1 : (pcs l).length ≤ M) (h2 : allS (fun i => q (pc l i)) (pcs l).length = true) : rdOk q M l = true ∧ rdN q M l = (pcs l).length := by
  have e : rdOk q M l = true := by unfold rdOk; rw [decide_eq_true h1, h2]; simp
  refine ⟨e, ?_⟩
  unfold rdN; rw [if_neg h, if_pos e]
theorem rd_off {q : List UInt8 → Bool} {M : Nat} {l : List UInt8} (h : l ≠ noneW) (h1 : (decide ((pcs l).length ≤ M) && allS (fun i => q (pc l i)) (pcs l).length) = false) : rdOk q M l = false ∧ rdN q M l = 0 := by
  have e : rdOk q M l = false := by unfold rdOk; rw [decide_eq_false h, h1]; rfl
  refine ⟨e, ?_⟩
  unfold rdN; rw [if_neg h, if_neg (by rw [e]; decide)]
theorem rd_many {q : List UInt8 → Bool} {M : Nat} {l : List UInt8} (h : l ≠ noneW) (h1 : ¬ (pcs l).length ≤ M) : rdOk q M l = false ∧ rdN q M l = 0 :=
  rd_off h (by rw [decide_eq_false h1]; rfl)
theorem rd_bad {q : List UInt8 → Bool} {M k : Nat} {l : List UInt8} (h : l ≠ noneW) (hk : k < (pcs l).length) (h1 : q (pc l k) = false) : rdOk q M l = false ∧ rdN q M l = 0 :=
  rd_off h (by rw [allS_no (q := fun i => q (pc l i)) h1 _ hk, Bool.and_false])
theorem rdN_le (q : List UInt8 → Bool) (M : Nat) (l : List UInt8) : rdN q M l ≤ M := by
  unfold rdN
  split
  · omega
  · split
    · rename_i h e
      unfold rdOk at e
      rw [decide_eq_false h, Bool.false_or, Bool.and_eq_true, decide_eq_true_eq] at e
      exact e.1
    · omega
theorem piece_str (s : ByteArray) (f i : Nat) : s.extract f i = ⟨((s.data.toList.take i).drop f).toArray⟩ := by
  have : ∀ x y : ByteArray, x.data = y.data → x = y := fun x y h => by cases x; cases y; simpa using h
  apply this
  apply Array.toList_inj.1
  simp [List.drop_take, ByteArray.data_extract]
end Go.Proofs.YtoemjeomfnndaaaDoor
