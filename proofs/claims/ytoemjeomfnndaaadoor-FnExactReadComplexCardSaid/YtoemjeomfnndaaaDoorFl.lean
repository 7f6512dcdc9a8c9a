/- Sums of floats, up to the choice of a NaN, in plain words; cells of a row under stores. -/
import Derived.Test.YtoemjeomfnndaaaDoorNum
import Derived.RowKit
import Derived.Below
import Derived.Deep.OwnRows
namespace Go.Proofs.YtoemjeomfnndaaaDoor
open Go.RowKit

/-- The sum from left to right of the first k numbers. -/
def sumA (z : Nat → Nat) : Nat → Option Nat
  | 0 => some 0
  | k + 1 => aop .add .f32 (sumA z k) (av .f32 (z k))
/-- The sum of the first k products. -/
def dotA (y z : Nat → Nat) : Nat → Option Nat
  | 0 => some 0
  | k + 1 => aop .add .f32 (dotA y z k) (aop .mul .f32 (av .f32 (y k)) (av .f32 (z k)))

/-- The elements of a slice value: n floats. -/
def FEls (w : World) (a : Option Addr) (n cap : Nat) (z : Nat → Nat) : Prop :=
  n = 0 ∨ ∃ b off, a = some ⟨b, off, none⟩ ∧ n ≤ cap ∧ cap ≤ maxLen ∧ b < w.heap.size ∧ ∀ i, i < n → w.cell? ⟨b, off + i, none⟩ = some (.float .f32 (z i))

theorem block_lt {w : World} {b off : Nat} {v : Value} (h : w.cell? ⟨b, off, none⟩ = some v) : b < w.heap.size := by
  rcases Nat.lt_or_ge b w.heap.size with h' | h'
  · exact h'
  · unfold World.cell? at h
    rw [Array.getElem?_eq_none h'] at h
    cases h

theorem FEls.later {w w' : World} {a : Option Addr} {n cap : Nat} {z : Nat → Nat} (h : FEls w a n cap z) (hb : Below w.heap.size w w') : FEls w' a n cap z := by
  rcases h with h | ⟨b, off, rfl, h1, h2, h3, h4⟩
  · exact .inl h
  · exact .inr ⟨b, off, rfl, h1, h2, Nat.lt_of_lt_of_le h3 hb.size, fun i hi => by rw [hb.cell h3]; exact h4 i hi⟩

theorem cell_store {w : World} {b k j : Nat} {u v : Value} (h : w.cell? ⟨b, j, none⟩ = some v) : (w.setCell ⟨b, k, none⟩ u).cell? ⟨b, j, none⟩ = some (if j = k then u else v) := by
  unfold World.cell? World.setCell at *
  simp only [Array.getElem?_modify] at *
  cases hb : w.heap[b]? with
  | none => rw [hb] at h; cases h
  | some o =>
    rw [hb] at h
    cases o with
    | cells cs t fr =>
      simp at h ⊢
      by_cases hk : j = k
      · subst hk
        have : j < cs.size := (Array.getElem?_eq_some_iff.1 h).1
        simp [this]
      · simp [hk, Ne.symm hk, h]
    | _ => simp at h

/-- A new row of n floats at the heap's old end, the first k of which are written. -/
def Filled (w : World) (n k : Nat) (z : Nat → Nat) (wr : World) : Prop :=
  Below w.heap.size w wr ∧ wr.heap.size = w.heap.size + 1 ∧ (∀ j, wr.frozen? ⟨w.heap.size, j, none⟩ = false) ∧
  ∃ Z : Nat → Nat, (∀ j, j < n → wr.cell? ⟨w.heap.size, j, none⟩ = some (.float .f32 (Z j))) ∧ ∀ j, j < k → Z j = z j

theorem Filled.start (w : World) (n : Nat) (z : Nat → Nat) (e : TypeId) : Filled w n 0 z (w.alloc (.cells (madeCells #[.float .f32 0] n) e)) := by
  refine ⟨(Below.refl _ _).alloc (Nat.le_refl _) _, by simp, fun j => by simp, fun _ => 0, fun j hj => ?_, fun j hj => absurd hj (Nat.not_lt_zero _)⟩
  have h : (madeCells #[Value.float .f32 0] n)[j]? = some (.float .f32 0) := by
    rw [← Array.getElem?_toList, toList_madeCells_one, List.getElem?_replicate, if_pos hj]
  simp [h]
theorem Filled.step {w : World} {n k : Nat} {z : Nat → Nat} {wr : World} (h : Filled w n k z wr) : Filled w n (k + 1) z (wr.setCell ⟨w.heap.size, k, none⟩ (.float .f32 (z k))) := by
  obtain ⟨h1, h2, h3, Z, h4, h5⟩ := h
  refine ⟨h1.setCell (Nat.le_refl _) _, by simpa [World.setCell] using h2, fun j => by rw [World.frozen?_setCell]; exact h3 j, fun j => if j = k then z k else Z j, fun j hj => ?_, fun j hj => ?_⟩
  · rw [cell_store (h4 j hj)]
    by_cases hjk : j = k <;> simp [hjk]
  · by_cases hjk : j = k
    · simp [hjk]
    · simp [hjk]; exact h5 j (by omega)
theorem Filled.els {w : World} {n : Nat} {z : Nat → Nat} {wr : World} (h : Filled w n n z wr) (hn : n ≤ maxLen) : FEls wr (some ⟨w.heap.size, 0, none⟩) n n z := by
  obtain ⟨h1, h2, h3, Z, h4, h5⟩ := h
  exact .inr ⟨_, 0, rfl, Nat.le_refl _, hn, by omega, fun i hi => by rw [Nat.zero_add, h4 i hi, h5 i hi]⟩
theorem Filled.cell {w : World} {n k : Nat} {z : Nat → Nat} {wr : World} (h : Filled w n k z wr) {j : Nat} (hj : j < n) : ∃ x, wr.cell? ⟨w.heap.size, j, none⟩ = some (.float .f32 x) ∧ wr.frozen? ⟨w.heap.size, j, none⟩ = false := by
  obtain ⟨_, _, h3, Z, h4, _⟩ := h
  exact ⟨Z j, h4 j hj, h3 j⟩
end Go.Proofs.YtoemjeomfnndaaaDoor
