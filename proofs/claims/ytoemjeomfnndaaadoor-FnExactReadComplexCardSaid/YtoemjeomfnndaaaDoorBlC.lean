/- Slices of bools: what they hold; the law's three small functions on them. -/
import Derived.Test.YtoemjeomfnndaaaDoorIlC
namespace Go.Proofs.YtoemjeomfnndaaaDoor
open Go.RowKit
set_option linter.unusedVariables false
/-- The elements of a slice value: n bools. -/
def BEls (w : World) (a : Option Addr) (n cap : Nat) (z : Nat → Bool) : Prop :=
  n = 0 ∨ ∃ b off, a = some ⟨b, off, none⟩ ∧ n ≤ cap ∧ cap ≤ maxLen ∧ b < w.heap.size ∧ ∀ i, i < n → w.cell? ⟨b, off + i, none⟩ = some (.bool (z i))
theorem BEls.later {w w' : World} {a : Option Addr} {n cap : Nat} {z : Nat → Bool} (h : BEls w a n cap z) (hb : Below w.heap.size w w') : BEls w' a n cap z := by
  rcases h with h | ⟨b, off, rfl, h1, h2, h3, h4⟩
  · exact .inl h
  · exact .inr ⟨b, off, rfl, h1, h2, Nat.lt_of_lt_of_le h3 hb.size, fun i hi => by rw [hb.cell h3]; exact h4 i hi⟩
/-- A new row of n bools at the heap's old end, the first k of which are written. -/
def BFilled (w : World) (n k : Nat) (z : Nat → Bool) (wr : World) : Prop :=
  Below w.heap.size w wr ∧ wr.heap.size = w.heap.size + 1 ∧ (∀ j, wr.frozen? ⟨w.heap.size, j, none⟩ = false) ∧
  ∃ Z : Nat → Bool, (∀ j, j < n → wr.cell? ⟨w.heap.size, j, none⟩ = some (.bool (Z j))) ∧ ∀ j, j < k → Z j = z j
theorem BFilled.start (w : World) (n : Nat) (z : Nat → Bool) (e : TypeId) : BFilled w n 0 z (w.alloc (.cells (madeCells #[.bool false] n) e)) := by
  refine ⟨(Below.refl _ _).alloc (Nat.le_refl _) _, by simp, fun j => by simp, fun _ => false, fun j hj => ?_, fun j hj => absurd hj (Nat.not_lt_zero _)⟩
  have h : (madeCells #[Value.bool false] n)[j]? = some (.bool false) := by
    rw [← Array.getElem?_toList, toList_madeCells_one, List.getElem?_replicate, if_pos hj]
  simp [h]
theorem BFilled.step {w : World} {n k : Nat} {z : Nat → Bool} {wr : World} (h : BFilled w n k z wr) : BFilled w n (k + 1) z (wr.setCell ⟨w.heap.size, k, none⟩ (.bool (z k))) := by
  obtain ⟨h1, h2, h3, Z, h4, h5⟩ := h
  refine ⟨h1.setCell (Nat.le_refl _) _, by simpa [World.setCell] using h2, fun j => by rw [World.frozen?_setCell]; exact h3 j, fun j => if j = k then z k else Z j, fun j hj => ?_, fun j hj => ?_⟩
  · rw [store1 (h4 j hj)]
    by_cases hjk : j = k <;> simp [hjk]
  · by_cases hjk : j = k
    · simp [hjk]
    · simp [hjk]; exact h5 j (by omega)
theorem BFilled.cell {w : World} {n k : Nat} {z : Nat → Bool} {wr : World} (h : BFilled w n k z wr) {j : Nat} (hj : j < n) : ∃ x, wr.cell? ⟨w.heap.size, j, none⟩ = some (.bool x) ∧ wr.frozen? ⟨w.heap.size, j, none⟩ = false := by
  obtain ⟨_, _, h3, Z, h4, _⟩ := h
  exact ⟨Z j, h4 j hj, h3 j⟩
end Go.Proofs.YtoemjeomfnndaaaDoor
