/- A slice that a call makes and appends to. -/
import Derived.Test.YtoemjeomfnndaaaDoorSlC
import Derived.OwnWalk
import Derived.Laws.OwnMore
namespace Go.Proofs.YtoemjeomfnndaaaDoor
open Go.RowKit
set_option linter.unusedVariables false
/-- The first n values of f. -/
def rowF (f : Nat → Value) (n : Nat) : List Value := (List.range n).map f
theorem rowF_succ (f : Nat → Value) (n : Nat) : rowF f (n + 1) = rowF f n ++ [f n] := by unfold rowF; rw [List.range_succ, List.map_append]; rfl
theorem rowF_len (f : Nat → Value) (n : Nat) : (rowF f n).length = n := by simp [rowF]
theorem rowF_at (f : Nat → Value) (n i : Nat) (h : i < n) : (rowF f n)[i]? = some (f i) := by simp [rowF, h]
/-- A slice of the call's own, in blocks from B on, that holds n values. -/
structure Grow (B : Nat) (w : World) (e : TypeId) (v : Value) (n : Nat) (f : Nat → Value) (wr : World) : Prop where
  bel : Below w.heap.size w wr
  own : wr.ownsRow B e 1 v n (rowF f n)
  low : w.heap.size ≤ B
  hi : B ≤ wr.heap.size
theorem Grow.start {B : Nat} {w wr : World} {e : TypeId} (f : Nat → Value) (h : Below w.heap.size w wr) (h1 : w.heap.size ≤ B) (h2 : B ≤ wr.heap.size) : Grow B w e (.slice (some ⟨wr.heap.size, 0, none⟩) 0 0) 0 f (wr.alloc (.cells #[] e)) :=
  ⟨h.alloc (Nat.le_trans h1 h2) _, World.ownsRow_made wr #[] 0 h2 (by unfold maxLen; omega) rfl, h1, by simp; omega⟩
theorem Grow.nil {B : Nat} {w wr : World} {e : TypeId} (f : Nat → Value) (h : Below w.heap.size w wr) (h1 : w.heap.size ≤ B) (h2 : B ≤ wr.heap.size) : Grow B w e (.slice none 0 0) 0 f wr :=
  ⟨h, World.ownsRow_nil _ _ _ _, h1, h2⟩
theorem Grow.later {B : Nat} {w wr w' : World} {e : TypeId} {v : Value} {n : Nat} {f : Nat → Value} (h : Grow B w e v n f wr) (hb : Below wr.heap.size wr w') : Grow B w e v n f w' := by
  refine ⟨bel_next h.bel hb, ?_, h.low, Nat.le_trans h.hi hb.size⟩
  refine ⟨h.own.1, ?_⟩
  rcases h.own.2 with hn | ⟨g, cap, cur, rfl, hbg, hgg, rest⟩
  · exact .inl hn
  · exact .inr ⟨g, cap, cur, rfl, hbg, by rw [hb.block g (Array.getElem?_eq_some_iff.1 hgg).1]; exact hgg, rest⟩
/-- Behind an append of one value. -/
theorem Grow.step {B : Nat} {w wr w' : World} {e : TypeId} {v v' : Value} {n : Nat} {f : Nat → Value} {o : Obj} (h : Grow B w e v n f wr) (ho : w'.ownsRow B e 1 v' (n + 1) (rowF f n ++ [f n])) (hg : (wr.alloc o).grownBy w' v.ownBlock) : Grow B w e v' (n + 1) f w' := by
  refine ⟨(h.bel.alloc (Nat.le_trans h.low h.hi) o).grown hg (by have := h.low; have := h.hi; simp; omega) (fun k hk => by have := (h.own.lt k hk).1; have := h.low; omega), by rw [rowF_succ]; exact ho, h.low, ?_⟩
  have := hg.size
  have := h.hi
  simp at *
  omega
/-- What lies below B stays behind an append. -/
theorem grown_keeps {B : Nat} {w wr w' : World} {e : TypeId} {v : Value} {n : Nat} {f : Nat → Value} {o : Obj} (h : Grow B w e v n f wr) (hg : (wr.alloc o).grownBy w' v.ownBlock) : Below B wr w' := by
  refine ⟨hg.os, hg.tape, hg.output, ?_, fun k hk => ?_⟩
  · have := hg.size; simp at this; omega
  · have hk2 : k < wr.heap.size := Nat.lt_of_lt_of_le hk h.hi
    refine (hg.block k (by simp; omega) fun e => ?_).trans (Below.heap_alloc wr o k hk2)
    have := (h.own.lt k e.symm).1
    omega
theorem Grow.form {B : Nat} {w wr : World} {e : TypeId} {v : Value} {n : Nat} {f : Nat → Value} (h : Grow B w e v n f wr) : ∃ a cap, v = .slice a n cap ∧ NewS w a n cap f wr := by
  rcases h.own.2 with ⟨rfl, rfl⟩ | ⟨g, cap, cur, rfl, hbg, hgg, hn, hm, hs, ht⟩
  · exact ⟨none, 0, rfl, h.bel, .inl rfl, .inl rfl⟩
  · refine ⟨_, cap, rfl, h.bel, ?_, .inr fun b off e i _ => ?_⟩
    · have hl := h.low
      have hg := (Array.getElem?_eq_some_iff.1 hgg).1
      refine .inr ⟨g, 0, rfl, by omega, hg, hn, hm, hg, fun i hi => ?_⟩
      rw [Nat.zero_add, h.own.cellAt i (by omega), rowF_at _ _ _ hi]
    · obtain ⟨rfl, rfl⟩ : g = b ∧ 0 = off := by simpa using e
      exact h.own.frozenAt _
theorem Grow.out {B : Nat} {w wr : World} {e : TypeId} {v : Value} {n : Nat} {f : Nat → Value} {en : Ending} (h : Grow B w e v n f wr) (he : en = .returned (.tuple #[v, .bool true])) : OutS n true f w en wr := by
  obtain ⟨a, cap, rfl, hn⟩ := h.form
  exact ⟨a, cap, he, hn⟩
theorem infoInt : (Tryd.prog.info? 2).map (fun i => (i.zero, i.size, i.bytes)) = some (some (.int .i64 0), 1, 8) := by kernel_rfl
end Go.Proofs.YtoemjeomfnndaaaDoor
