/- Contracts of the functions that carry and compare seeds; small words on worlds. -/
import Derived.Test.YtlaelfaalgmicaaBase
import Derived.Deep.RegionWith
import Derived.Deep.RegionHeld3
namespace Go.Proofs.Ytlaelfaalgmicaa
open Go.RowKit
set_option linter.unusedVariables false

theorem bcell {W w1 : World} (hb : Below W.heap.size W w1) : (∀ b o, b < W.heap.size → w1.cell? ⟨b, o, none⟩ = W.cell? ⟨b, o, none⟩) ∧ (∀ b o, b < W.heap.size → w1.frozen? ⟨b, o, none⟩ = W.frozen? ⟨b, o, none⟩) :=
  ⟨fun b o h => hb.cell (p := ⟨b, o, none⟩) h, fun b o h => hb.frozen (p := ⟨b, o, none⟩) h⟩
theorem bel_le {B B' : Nat} {w w' : World} (h : Below B w w') (hb : B' ≤ B) : Below B' w w' := h.mono hb

/-- A seed as a value. -/
def seedV (k a b : Int) : Value := .agg #[.int .i64 k, .int .u64 a, .int .u64 b]

theorem toSeed_any (k a b : Int) (w : World) :
    Calls Try.prog 21 #[.agg #[.int .i64 k, .int .u64 a, .int .u64 b]] w fun e w' => e = .returned (.agg #[.int .i64 k, .int .u64 a, .int .u64 b]) ∧ Below w.heap.size w w' := by
  go_enter Try.func21, Try.ntmps21
  go_wp2
  exact bodyPost_ret (v := .agg #[.int .i64 k, .int .u64 a, .int .u64 b]) (by simp [results, Try.results21, go_sem]) rfl ⟨rfl, (((Below.refl _ _).alloc (Nat.le_refl _) _).alloc (by simp) _).alloc (by simp <;> omega) _⟩


/-- What a region of calls keeps: two blocks of the call's own, and what was there before. -/
structure Two (w : World) (B : Nat) (w' : World) : Prop where
  bel : Below B w w'
  big : B + 2 ≤ w'.heap.size
theorem Two.start (w : World) (o1 o2 : Obj) : Two w w.heap.size ((w.alloc o1).alloc o2) :=
  ⟨(((Below.refl _ _).alloc (Nat.le_refl _) _).alloc (by simp) _), by simp⟩
theorem Two.drew {w : World} {B : Nat} {w' : World} (h : Two w B w') : Two w B w'.drew := ⟨h.1.drew, h.2⟩
theorem Two.step {w : World} {B : Nat} {w' w1 : World} (h : Two w B w') (hb : Below w'.heap.size w' w1) : Two w B w1 :=
  ⟨h.1.trans (hb.mono (by have := h.2; omega)), Nat.le_trans h.2 hb.size⟩
theorem Two.cell0 {w : World} {B : Nat} {w' w1 : World} (h : Two w B w') (hb : Below w'.heap.size w' w1) {o : Nat} {v : Value} (hc : w'.cell? ⟨B, o, none⟩ = some v) : w1.cell? ⟨B, o, none⟩ = some v := by
  rw [hb.cell (by have := h.2; show B < _; omega)]; exact hc
theorem Two.cell1 {w : World} {B : Nat} {w' w1 : World} (h : Two w B w') (hb : Below w'.heap.size w' w1) {o : Nat} {v : Value} (hc : w'.cell? ⟨B + 1, o, none⟩ = some v) : w1.cell? ⟨B + 1, o, none⟩ = some v := by
  rw [hb.cell (by have := h.2; show B + 1 < _; omega)]; exact hc
/-- Two seeds in blocks B and B + 1. -/
abbrev Seeds2 (k a b k' a' b' : Int) (w : World) (B : Nat) (w' : World) : Prop :=
  w'.cell? ⟨B, 0, none⟩ = some (.int .i64 k) ∧ w'.cell? ⟨B, 1, none⟩ = some (.int .u64 a) ∧ w'.cell? ⟨B, 2, none⟩ = some (.int .u64 b) ∧
  w'.cell? ⟨B + 1, 0, none⟩ = some (.int .i64 k') ∧ w'.cell? ⟨B + 1, 1, none⟩ = some (.int .u64 a') ∧ w'.cell? ⟨B + 1, 2, none⟩ = some (.int .u64 b') ∧ Two w B w'
theorem seeds2_start (k a b k' a' b' : Int) (w : World) (t t' : TypeId) : Seeds2 k a b k' a' b' w w.heap.size ((w.alloc (.cells #[.int .i64 k, .int .u64 a, .int .u64 b] t)).alloc (.cells #[.int .i64 k', .int .u64 a', .int .u64 b'] t')) :=
  ⟨by simp, by simp, by simp, by simp, by simp, by simp, Two.start _ _ _⟩
theorem seeds2_drew {k a b k' a' b' : Int} {w : World} {B : Nat} {w' : World} (h : Seeds2 k a b k' a' b' w B w') : Seeds2 k a b k' a' b' w B w'.drew :=
  ⟨h.1, h.2.1, h.2.2.1, h.2.2.2.1, h.2.2.2.2.1, h.2.2.2.2.2.1, h.2.2.2.2.2.2.drew⟩
theorem seeds2_step {k a b k' a' b' : Int} {w : World} {B : Nat} {w' w1 : World} (h : Seeds2 k a b k' a' b' w B w') (hb : Below w'.heap.size w' w1) : Seeds2 k a b k' a' b' w B w1 :=
  let t := h.2.2.2.2.2.2
  ⟨t.cell0 hb h.1, t.cell0 hb h.2.1, t.cell0 hb h.2.2.1, t.cell1 hb h.2.2.2.1, t.cell1 hb h.2.2.2.2.1, t.cell1 hb h.2.2.2.2.2.1, t.step hb⟩

theorem Two.alloc {w : World} {B : Nat} {w' : World} (h : Two w B w') (o : Obj) : Two w B (w'.alloc o) := ⟨h.1.alloc (by have := h.2; omega) o, by have := h.2; simp; omega⟩
theorem Two.store {w : World} {B : Nat} {w' : World} (h : Two w B w') {p : Addr} (hp : B ≤ p.block) (v : Value) : Two w B (w'.setCell p v) := ⟨h.1.setCell hp v, by have := h.2; simpa [World.setCell] using this⟩
theorem alloc_cell {w : World} {b o : Nat} {v : Value} (h : w.cell? ⟨b, o, none⟩ = some v) (hb : b < w.heap.size) (ob : Obj) : (w.alloc ob).cell? ⟨b, o, none⟩ = some v := by
  rw [World.cell?_of_block (w := w) (Below.heap_alloc w ob b hb)]; exact h
theorem store_cell {w : World} {b o : Nat} {v : Value} (h : w.cell? ⟨b, o, none⟩ = some v) {p : Addr} (hb : b ≠ p.block) (u : Value) : (w.setCell p u).cell? ⟨b, o, none⟩ = some v := by
  rw [World.cell?_of_block (w := w) (Below.heap_setCell w p u b hb)]; exact h
theorem seeds2_alloc {k a b k' a' b' : Int} {w : World} {B : Nat} {w' : World} (h : Seeds2 k a b k' a' b' w B w') (o : Obj) : Seeds2 k a b k' a' b' w B (w'.alloc o) :=
  let t := h.2.2.2.2.2.2
  have q := t.2
  ⟨alloc_cell h.1 (by omega) o, alloc_cell h.2.1 (by omega) o, alloc_cell h.2.2.1 (by omega) o, alloc_cell h.2.2.2.1 (by omega) o, alloc_cell h.2.2.2.2.1 (by omega) o, alloc_cell h.2.2.2.2.2.1 (by omega) o, t.alloc o⟩
theorem seeds2_store {k a b k' a' b' : Int} {w : World} {B : Nat} {w' : World} (h : Seeds2 k a b k' a' b' w B w') {p : Addr} (hp : B + 2 ≤ p.block) (v : Value) : Seeds2 k a b k' a' b' w B (w'.setCell p v) :=
  let t := h.2.2.2.2.2.2
  ⟨store_cell h.1 (by omega) v, store_cell h.2.1 (by omega) v, store_cell h.2.2.1 (by omega) v, store_cell h.2.2.2.1 (by omega) v, store_cell h.2.2.2.2.1 (by omega) v, store_cell h.2.2.2.2.2.1 (by omega) v, t.store (by omega) v⟩

end Go.Proofs.Ytlaelfaalgmicaa
