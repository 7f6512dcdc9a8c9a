/- A row of counts that a call makes and raises. -/
import Derived.Test.YtlaelfaalgmicaaSlC
namespace Go.Proofs.Ytlaelfaalgmicaa
open Go.RowKit
set_option linter.unusedVariables false
/-- The row of N counts. -/
structure Counts (w : World) (N : Nat) (c : Nat → Int) (wr : World) : Prop where
  bel : Below w.heap.size w wr
  size : w.heap.size < wr.heap.size
  free : ∀ y, wr.frozen? ⟨w.heap.size, y, none⟩ = false
  cell : ∀ y, y < N → wr.cell? ⟨w.heap.size, y, none⟩ = some (.int .i64 (c y))
theorem Counts.start (w : World) (N : Nat) (e : TypeId) : Counts w N (fun _ => 0) (w.alloc (.cells (madeCells #[.int .i64 0] N) e)) := by
  refine ⟨(Below.refl _ _).alloc (Nat.le_refl _) _, by simp, fun j => by simp, fun j hj => ?_⟩
  have h : (madeCells #[Value.int .i64 0] N)[j]? = some (.int .i64 0) := by
    rw [← Array.getElem?_toList, toList_madeCells_one, List.getElem?_replicate, if_pos hj]
  simp [h]
/-- One count is raised. -/
def hitC (c : Nat → Int) (q : Nat) : Nat → Int := fun j => if j = q then c j + 1 else c j
theorem hitC_range {c : Nat → Int} {k : Int} (h : ∀ j, 0 ≤ c j ∧ c j ≤ k) (q j : Nat) : 0 ≤ hitC c q j ∧ hitC c q j ≤ k + 1 := by
  have := h j
  unfold hitC
  split <;> omega
theorem Counts.hit {w : World} {N : Nat} {c : Nat → Int} {wr : World} (h : Counts w N c wr) (q : Nat) : Counts w N (hitC c q) (wr.setCell ⟨w.heap.size, q, none⟩ (.int .i64 (c q + 1))) := by
  refine ⟨h.bel.setCell (Nat.le_refl _) _, by simp [h.size], fun i => by rw [World.frozen?_setCell]; exact h.free i, fun i hi => ?_⟩
  rw [store1 (h.cell i hi)]
  unfold hitC
  by_cases e : i = q
  · subst e; rw [if_pos rfl, if_pos rfl]
  · rw [if_neg e, if_neg e]
theorem Counts.later {w : World} {N : Nat} {c : Nat → Int} {wr w' : World} (h : Counts w N c wr) (hb : Below wr.heap.size wr w') : Counts w N c w' :=
  ⟨bel_next h.bel hb, Nat.lt_of_lt_of_le h.size hb.size, fun i => (hb.frozen (p := ⟨w.heap.size, i, none⟩) h.size).trans (h.free i), fun i hi => (hb.cell (p := ⟨w.heap.size, i, none⟩) h.size).trans (h.cell i hi)⟩
theorem Counts.kept {w : World} {N B : Nat} {c : Nat → Int} {wr w' : World} (h : Counts w N c wr) (hb : Below B wr w') (hB : w.heap.size < B) : Counts w N c w' :=
  ⟨h.bel.trans (hb.mono (by omega)), Nat.lt_of_lt_of_le h.size hb.size, fun i => (hb.frozen (p := ⟨w.heap.size, i, none⟩) hB).trans (h.free i), fun i hi => (hb.cell (p := ⟨w.heap.size, i, none⟩) hB).trans (h.cell i hi)⟩
theorem Counts.drewN {w : World} {N : Nat} {c : Nat → Int} {wr : World} (h : Counts w N c wr) (m : Nat) : Counts w N c (wr.drewN m) := h.later (drewN_bel wr m)
theorem Counts.new {w : World} {N : Nat} {c : Nat → Int} {wr : World} (h : Counts w N c wr) (hN : N ≤ maxLen) : NewS w (some ⟨w.heap.size, 0, none⟩) N N (kI c) wr :=
  ⟨h.bel, .inr ⟨_, 0, rfl, Nat.le_refl _, h.size, Nat.le_refl _, hN, h.size, fun i hi => by rw [Nat.zero_add]; exact h.cell i hi⟩, .inr fun b off e i _ => by
    obtain ⟨rfl, rfl⟩ : w.heap.size = b ∧ 0 = off := by simpa using e
    exact h.free _⟩
theorem outC {w wr : World} {N : Nat} {c : Nat → Int} {e : Ending} (h : Counts w N c wr) (hN : N ≤ maxLen) (he : e = .returned (.tuple #[.slice (some ⟨w.heap.size, 0, none⟩) N N, .bool true])) : OutS N true (kI c) w e wr :=
  ⟨_, _, he, h.new hN⟩
end Go.Proofs.Ytlaelfaalgmicaa
