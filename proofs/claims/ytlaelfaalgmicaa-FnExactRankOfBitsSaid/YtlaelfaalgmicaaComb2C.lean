/- The words that a seed gives. -/
import Derived.Test.YtlaelfaalgmicaaCombC
import Derived.Deep.RegionHeld3
import Derived.Deep.AppendLies
namespace Go.Proofs.Ytlaelfaalgmicaa
open Go.RowKit
set_option linter.unusedVariables false
/-- Rows from block base on are as they were. -/
def FarW (base : Nat) (w w' : World) : Prop := (w.heap.size ≤ w'.heap.size) ∧ ∀ k, base ≤ k → k < w.heap.size → w'.heap[k]? = w.heap[k]?
theorem FarW.refl (base : Nat) (w : World) : FarW base w w := ⟨Nat.le_refl _, fun _ _ _ => rfl⟩
theorem FarW.alloc {base : Nat} {w w' : World} (h : FarW base w w') (o : Obj) : FarW base w (w'.alloc o) :=
  ⟨Nat.le_trans h.1 (by simp), fun k h1 h2 => (Below.heap_alloc w' o k (Nat.lt_of_lt_of_le h2 h.1)).trans (h.2 k h1 h2)⟩
theorem FarW.set {base : Nat} {w w' : World} (h : FarW base w w') {p : Addr} (hp : p.block < base) (v : Value) : FarW base w (w'.setCell p v) :=
  ⟨by simpa using h.1, fun k h1 h2 => (Below.heap_setCell w' p v k (by omega)).trans (h.2 k h1 h2)⟩
theorem FarW.drew {base : Nat} {w w' : World} (h : FarW base w w') : FarW base w w'.drew := ⟨h.1, h.2⟩
theorem FarW.own {base : Nat} {w w' : World} (h : FarW base w w') {e : TypeId} {v : Value} {n : Nat} {xs : List Value} (g : w.ownsRow base e 1 v n xs) : w'.ownsRow base e 1 v n xs := by
  refine ⟨g.1, ?_⟩
  rcases g.2 with hn | ⟨b, cap, cur, rfl, hbg, hgg, rest⟩
  · exact .inl hn
  · exact .inr ⟨b, cap, cur, rfl, hbg, by rw [h.2 b hbg (Array.getElem?_eq_some_iff.1 hgg).1]; exact hgg, rest⟩
theorem Grow.drew {B : Nat} {w wr : World} {e : TypeId} {v : Value} {n : Nat} {f : Nat → Value} (h : Grow B w e v n f wr) : Grow B w e v n f wr.drew := h.later (Below.refl _ _).drew
theorem Grow.set {Bs : Nat} {w wr : World} {e : TypeId} {v : Value} {n : Nat} {f : Nat → Value} (h : Grow Bs w e v n f wr) {p : Addr} (h1 : w.heap.size ≤ p.block) (h2 : p.block < Bs) (x : Value) : Grow Bs w e v n f (wr.setCell p x) :=
  ⟨h.bel.setCell h1 x, ((FarW.refl Bs wr).set h2 x).own h.own, h.low, by simpa using h.hi⟩
theorem Moved.setK {P : Nat} {k a b : Int} {w w' : World} (h : Moved P k a b w w') : Moved P k a b w (w'.setCell ⟨P, 0, none⟩ (.int .i64 k)) :=
  ⟨h.os, h.tape, h.output, by simp [h.size], fun j hj => (Below.heap_setCell _ _ _ _ (by simpa using hj)).trans (h.oth j hj),
    World.cell?_setCell_same _ _ _ h.p0, (World.cell?_setCell_other _ _ _ _ (by simp)).trans h.p1, (World.cell?_setCell_other _ _ _ _ (by simp)).trans h.p2, free3_set h.fr _ _⟩
theorem TwoM.put {B : Nat} {k k' : Int} {s s' : Int × Int} {wr : World} (h : TwoM B k s k' s' wr) (a b : Int) : TwoM B k (a, b) k' s' (((wr.setCell ⟨B, 0, none⟩ (.int .i64 k)).setCell ⟨B, 1, none⟩ (.int .u64 a)).setCell ⟨B, 2, none⟩ (.int .u64 b)) :=
  h.mov0 ((((Moved.refl h.s0 h.f0).setK).setA a).setB b)
theorem TwoM.drew {B : Nat} {k k' : Int} {s s' : Int × Int} {wr : World} (h : TwoM B k s k' s' wr) : TwoM B k s k' s' wr.drew := ⟨h.1, h.2, h.3, h.4⟩
def rdC (w : World) (B o : Nat) : Int := match w.cell? ⟨B, o, none⟩ with | some (.int .u64 x) => x | _ => 0
theorem rd_ok {w : World} {B o : Nat} {x : Int} (h : w.cell? ⟨B, o, none⟩ = some (.int .u64 x)) : w.cell? ⟨B, o, none⟩ = some (.int .u64 (rdC w B o)) := by
  unfold rdC; rw [h]
/-- A seed in block D, and block B may be written. -/
abbrev Lie6 (D B : Nat) (k a b : Int) (w' : World) : Prop := w'.cell? ⟨D, 0, none⟩ = some (.int .i64 k) ∧ w'.cell? ⟨D, 1, none⟩ = some (.int .u64 a) ∧ w'.cell? ⟨D, 2, none⟩ = some (.int .u64 b) ∧ Lo D w' ∧
  w'.cell? ⟨B, 0, none⟩ = some (.int .i64 k) ∧ w'.cell? ⟨B, 1, none⟩ = some (.int .u64 (rdC w' B 1)) ∧ w'.cell? ⟨B, 2, none⟩ = some (.int .u64 (rdC w' B 2)) ∧ Lo B w' ∧ w'.frozen? ⟨B, 0, none⟩ = false ∧ w'.frozen? ⟨B, 1, none⟩ = false ∧ w'.frozen? ⟨B, 2, none⟩ = false
theorem lie6_keeps {w' w1 : World} {D B : Nat} {k a b : Int} (h : Lie6 D B k a b w') (hs : w'.heap.size ≤ w1.heap.size) (hD : w1.heap[D]? = w'.heap[D]?) (hB : w1.heap[B]? = w'.heap[B]?) : Lie6 D B k a b w1 := by
  have c : ∀ o, w1.cell? ⟨D, o, none⟩ = w'.cell? ⟨D, o, none⟩ := fun o => World.cell?_of_block (w := w') hD
  have c2 : ∀ o, w1.cell? ⟨B, o, none⟩ = w'.cell? ⟨B, o, none⟩ := fun o => World.cell?_of_block (w := w') hB
  have z : ∀ o, w1.frozen? ⟨B, o, none⟩ = w'.frozen? ⟨B, o, none⟩ := fun o => World.frozen?_of_block (w := w') hB
  obtain ⟨h1, h2, h3, h4, h5, h6, h7, h8, h9, h10, h11⟩ := h
  exact ⟨(c _).trans h1, (c _).trans h2, (c _).trans h3, ⟨Nat.lt_of_lt_of_le h4.lo hs⟩, (c2 _).trans h5, rd_ok ((c2 _).trans h6), rd_ok ((c2 _).trans h7), ⟨Nat.lt_of_lt_of_le h8.lo hs⟩, (z _).trans h9, (z _).trans h10, (z _).trans h11⟩
theorem lie6_drew {w' : World} {D B : Nat} {k a b : Int} (h : Lie6 D B k a b w') : Lie6 D B k a b w'.drew := lie6_keeps h (Nat.le_refl _) rfl rfl
theorem lie6_alloc {w' : World} {D B : Nat} {k a b : Int} (h : Lie6 D B k a b w') (o : Obj) : Lie6 D B k a b (w'.alloc o) :=
  lie6_keeps h (by simp) (Below.heap_alloc _ _ _ h.2.2.2.1.lo) (Below.heap_alloc _ _ _ h.2.2.2.2.2.2.2.1.lo)
theorem lie6_grown {w' w1 : World} {D B : Nat} {k a b : Int} {r : Option Nat} (h : Lie6 D B k a b w') (hg : w'.grownBy w1 r) (hr : some D ≠ r ∧ some B ≠ r) : Lie6 D B k a b w1 :=
  lie6_keeps h hg.size (hg.block D h.2.2.2.1.lo hr.1) (hg.block B h.2.2.2.2.2.2.2.1.lo hr.2)
theorem lie6_set {w' : World} {D B : Nat} {k a b : Int} (h : Lie6 D B k a b w') (hne : D ≠ B) (x y : Int) : Lie6 D B k a b (((w'.setCell ⟨B, 0, none⟩ (.int .i64 k)).setCell ⟨B, 1, none⟩ (.int .u64 x)).setCell ⟨B, 2, none⟩ (.int .u64 y)) := by
  obtain ⟨h1, h2, h3, h4, h5, h6, h7, h8, f⟩ := h
  have m := (((Moved.refl (w := w') ⟨h5, h6, h7⟩ f).setK).setA x).setB y
  have st : ∀ o v, w'.cell? ⟨D, o, none⟩ = some v → (((w'.setCell ⟨B, 0, none⟩ (.int .i64 k)).setCell ⟨B, 1, none⟩ (.int .u64 x)).setCell ⟨B, 2, none⟩ (.int .u64 y)).cell? ⟨D, o, none⟩ = some v := fun o v h => by
    rw [World.cell?_of_block (w := w') (m.oth D hne)]; exact h
  have hs := m.size
  exact ⟨st _ _ h1, st _ _ h2, st _ _ h3, ⟨by have := h4.lo; omega⟩, m.p0, rd_ok m.p1, rd_ok m.p2, ⟨by have := h8.lo; omega⟩, m.fr⟩
set_option maxRecDepth 100000 in
set_option maxHeartbeats 2000000 in
theorem words_any (k a b : Int) (N : Nat) (w : World) (hN : N ≤ 256) :
    Calls Try.prog 86 #[.agg #[.int .i64 k, .int .u64 a, .int .u64 b], .int .i64 N] w (fun e w' => ∃ K A B aW cW, e = .returned (.tuple #[.agg #[.int .i64 K, .int .u64 A, .int .u64 B], .slice aW N cW]) ∧ NewS w aW N cW (kI (sW k (a, b))) w') := by
  obtain ⟨i0, hi, hz0, hz1, hz2⟩ := info_parts infoInt
  have HI := Lib.hid hi
  have HZ := Lib.hid (And.intro hz0 (And.intro hz1 hz2))
  clear hi hz0 hz1 hz2
  go_enter Try.func86, Try.ntmps86
  go_upto_region 1 with fail
  have hT := TwoM.start k a b 0 0 0 w 29 29
  have hB := ((Below.refl w.heap.size w).alloc (Nat.le_refl _) (.cells #[.int .i64 k, .int .u64 a, .int .u64 b] 29)).alloc (by simp) (.cells #[.int .i64 0, .int .u64 0, .int .u64 0] 29)
  have hz : ((w.alloc (.cells #[.int .i64 k, .int .u64 a, .int .u64 b] 29)).alloc (.cells #[.int .i64 0, .int .u64 0, .int .u64 0] 29)).heap.size = w.heap.size + 2 := by simp
  generalize ((w.alloc (.cells #[.int .i64 k, .int .u64 a, .int .u64 b] 29)).alloc (.cells #[.int .i64 0, .int .u64 0, .int .u64 0] 29)) = W at *
  go_upto_region 2 with fail
  have hG0 := Grow.start (B := w.heap.size + 2) (e := 2) (kI (sW k (a, b))) hB (by omega) (Nat.le_of_eq hz.symm)
  have hT0 := hT.kept ((Below.refl (w.heap.size + 2) W).alloc (Nat.le_of_eq hz.symm) (.cells #[] 2))
  rw [hz] at hG0
  generalize (W.alloc (.cells #[] 2)) = W1 at *
  clear hB hz hT
  go_wp2
  go_loopw [6, 11] (fun v i wr => ∃ j : Nat, j ≤ N ∧ i = .int .i64 j ∧ Grow (w.heap.size + 2) w 2 v j (kI (sW k (a, b))) wr ∧ TwoM w.heap.size k (sA k (a, b) j) 0 (0, 0) wr) (fun _ i _ => N - (intOf i).toNat)
  case atStart => exact ⟨0, Nat.zero_le _, rfl, hG0, hT0⟩
  case round =>
    obtain ⟨j, hj, rfl, hG, hT⟩ := hrel
    clear hG0 hT0
    by_cases hlt : j < N
    · have HG := Lib.hid hG
      have HT := Lib.hid hT
      obtain ⟨p0, p1, p2⟩ := hT.s0
      clear hG hT
      go_upto_region 5 with (go_at_call 65; refine (next_wd k _ _ _).mono ?_; rintro e w3 ⟨rfl, h3⟩; have HT1 := Lib.hid (HT.out.kept (h3.mono HG.out.hi)); have HG1 := Lib.hid (HG.out.later h3); clear HT HG h3 p0 p1 p2)
      have hne : some w3.heap.size ≠ u6.ownBlock ∧ some w.heap.size ≠ u6.ownBlock := ⟨fun e => by have := (HG1.out.own.lt _ e.symm).2; omega, fun e => by have := (HG1.out.own.lt _ e.symm).1; omega⟩
      have hb3 := (Below.refl w3.heap.size w3).alloc (Nat.le_refl _) (.cells #[.int .i64 k, .int .u64 (nxA k (sA k (a, b) j).1 (sA k (a, b) j).2), .int .u64 (nxB k (sA k (a, b) j).1 (sA k (a, b) j).2)] 29)
      have HG2 := Lib.hid (HG1.out.later hb3)
      have HT2 := Lib.hid (HT1.out.kept (hb3.mono HG1.out.hi))
      have ⟨g0, g1, g2⟩ := HT2.out.s0
      have ⟨f0, f1, f2⟩ := HT2.out.f0
      have hL : Lie6 w3.heap.size w.heap.size k (nxA k (sA k (a, b) j).1 (sA k (a, b) j).2) (nxB k (sA k (a, b) j).1 (sA k (a, b) j).2) (w3.alloc (.cells #[.int .i64 k, .int .u64 (nxA k (sA k (a, b) j).1 (sA k (a, b) j).2), .int .u64 (nxB k (sA k (a, b) j).1 (sA k (a, b) j).2)] 29)) := ⟨by simp, by simp, by simp, ⟨by simp⟩, g0, rd_ok g1, rd_ok g2, ⟨by have := HG1.out.hi; simp; omega⟩, f0, f1, f2⟩
      have hDB : w3.heap.size ≠ w.heap.size := by have := HG1.out.hi; omega
      clear HG1 HT1 hb3 g0 g1 g2 f0 f1 f2
      generalize (w3.alloc (.cells #[.int .i64 k, .int .u64 (nxA k (sA k (a, b) j).1 (sA k (a, b) j).2), .int .u64 (nxB k (sA k (a, b) j).1 (sA k (a, b) j).2)] 29)) = V at *
      generalize w3.heap.size = D at *
      go_region_held3 (fun w' => w'.cell? ⟨D, 0, none⟩ = some (.int .i64 k) ∧ w'.cell? ⟨D, 1, none⟩ = some (.int .u64 (nxA k (sA k (a, b) j).1 (sA k (a, b) j).2)) ∧ w'.cell? ⟨D, 2, none⟩ = some (.int .u64 (nxB k (sA k (a, b) j).1 (sA k (a, b) j).2)) ∧ Lo D w' ∧ w'.cell? ⟨w.heap.size, 0, none⟩ = some (.int .i64 k) ∧ w'.cell? ⟨w.heap.size, 1, none⟩ = some (.int .u64 (rdC w' w.heap.size 1)) ∧ w'.cell? ⟨w.heap.size, 2, none⟩ = some (.int .u64 (rdC w' w.heap.size 2)) ∧ Lo w.heap.size w' ∧ w'.frozen? ⟨w.heap.size, 0, none⟩ = false ∧ w'.frozen? ⟨w.heap.size, 1, none⟩ = false ∧ w'.frozen? ⟨w.heap.size, 2, none⟩ = false)
          (first | (with_reducible assumption) | (repeat (first | (with_reducible refine lie6_set ?_ hDB _ _) | (with_reducible refine lie6_drew ?_) | (with_reducible refine lie6_alloc ?_ _) | (with_reducible refine lie6_grown ?_ hgrow hne))); (with_reducible assumption))
          ((refine step_append_lies _ rfl _ _ 44 rfl (w.heap.size + 2) 2 i0 (.int .i64 0) 1 8 Try.underlying44 HI.out HZ.out.1 HZ.out.2.1 HZ.out.2.2 rfl (by decide) u6 j _ rfl (by refine FarW.own ?_ HG2.out.own; repeat (first | exact FarW.refl _ _ | refine FarW.alloc ?_ _ | refine FarW.drew ?_)) _ 1 1 [kI (sW k (a, b)) j] rfl rfl (cell_one_new _ _ _) (by intro u hu; simp at hu; subst hu; rfl) (by decide) (by unfold maxLen; omega) (by omega) (by have := HG2.out.hi; simp; omega) _ rfl ?_; intro g cap w5 hown hgrow hat hlt2))
      have R := Lib.hid (Grow.step (wr := V.drew) HG2.out.drew hown hgrow)
      have T := Lib.hid (HT2.out.drew.kept (grown_keeps (wr := V.drew) HG2.out.drew hgrow))
      have l2 : w.heap.size < w.heap.size + 2 := by omega
      clear hown hgrow HG2 HT2 hat hL hne
      go_wp2
      exact ⟨⟨j + 1, by omega, by go_num, ((R.out.set (Nat.le_refl _) l2 _).set (Nat.le_refl _) l2 _).set (Nat.le_refl _) l2 _, T.out.put _ _⟩, by simp [intOf]; omega⟩
    · obtain rfl : j = N := by omega
      have HG := Lib.hid hG
      obtain ⟨g0, g1, g2⟩ := hT.s0
      obtain ⟨q0, q1, q2⟩ := hT.s1
      obtain ⟨f0, f1, f2⟩ := hT.f1
      have l1 : w.heap.size ≤ w.heap.size + 1 := by omega
      have l2 : w.heap.size + 1 < w.heap.size + 2 := by omega
      clear hG hT
      go_wp2
      refine bodyPost_ret (v := .tuple #[.agg #[.int .i64 k, .int .u64 (sA k (a, b) j).1, .int .u64 (sA k (a, b) j).2], u6]) (by simp [results, Try.results86, go_sem, *]) rfl ?_
      obtain ⟨aW, cW, e, hN⟩ := (((HG.out.set (p := ⟨w.heap.size + 1, 0, none⟩) l1 l2 (.int .i64 k)).set (p := ⟨w.heap.size + 1, 1, none⟩) l1 l2 (.int .u64 (sA k (a, b) j).1)).set (p := ⟨w.heap.size + 1, 2, none⟩) l1 l2 (.int .u64 (sA k (a, b) j).2)).form
      subst e
      exact ⟨_, _, _, aW, cW, rfl, hN⟩
end Go.Proofs.Ytlaelfaalgmicaa
