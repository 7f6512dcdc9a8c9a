/- Contracts of the splitting of a seed, both sides. -/
import Derived.Test.YtlaelfaalgmicaaValidC
import Derived.Deep.DeepCutAuto
import Derived.Deep.QuietTactic
import Derived.BigQuiet
namespace Go.Proofs.Ytlaelfaalgmicaa
open Go.RowKit
set_option linter.unusedVariables false
def mixA (x : Int) : Int := IntKind.u64.wrap (bits .xor .u64 x (x / 1073741824) * 13787848793156543929)
def mixB (x : Int) : Int := IntKind.u64.wrap (bits .xor .u64 x (x / 134217728) * 10723151780598845931)
def mixC (x : Int) : Int := bits .xor .u64 x (x / 2147483648)
def mixZ (x : Int) : Int := mixC (mixB (mixA x))
theorem ret_int {k : IntKind} {a b : Int} (h : a = b) : Ending.returned (.int k a) = .returned (.int k b) := by rw [h]
theorem implMix_any (x : Int) (w : World) : Calls Try.prog 83 #[.int .u64 x] w fun e w' => e = .returned (.int .u64 (mixZ x)) ∧ w = w' := by
  go_enter Try.func83, Try.ntmps83
  go_wp2
  go_ret
  exact ⟨ret_int rfl, rfl⟩
theorem specMix_any (x : Int) (w : World) : Calls Try.prog 82 #[.int .u64 x] w fun e w' => e = .returned (.int .u64 (mixZ x)) ∧ w = w' := by
  go_enter Try.func82, Try.ntmps82
  go_wp2
  go_ret
  exact ⟨ret_int rfl, rfl⟩

theorem alloc_frozen {w : World} {b o : Nat} (hb : b < w.heap.size) (ob : Obj) : (w.alloc ob).frozen? ⟨b, o, none⟩ = w.frozen? ⟨b, o, none⟩ :=
  World.frozen?_of_block (a := ⟨b, o, none⟩) (Below.heap_alloc w ob b hb)
/-- Three cells that may be written. -/
abbrev Free3 (w : World) (b : Nat) : Prop := w.frozen? ⟨b, 0, none⟩ = false ∧ w.frozen? ⟨b, 1, none⟩ = false ∧ w.frozen? ⟨b, 2, none⟩ = false
theorem free3_alloc {w : World} {b : Nat} (h : Free3 w b) (hb : b < w.heap.size) (ob : Obj) : Free3 (w.alloc ob) b :=
  ⟨(alloc_frozen hb ob).trans h.1, (alloc_frozen hb ob).trans h.2.1, (alloc_frozen hb ob).trans h.2.2⟩
theorem free3_new (w : World) (x y z : Value) (t : TypeId) : Free3 (w.alloc (.cells #[x, y, z] t)) w.heap.size := ⟨by simp, by simp, by simp⟩

theorem implMix_q (x : Int) (w : World) (n : Nat) : Calls Try.prog 83 #[.int .u64 x] (w.drewN n) fun e w' => e = .returned (.int .u64 (mixZ x)) ∧ ∃ m, w' = w.drewN m :=
  Calls.quiet_of_same ((implMix_any x (w.drewN n)).mono fun _ _ h => ⟨h.1, h.2.symm⟩)
theorem specMix_q (x : Int) (w : World) (n : Nat) : Calls Try.prog 82 #[.int .u64 x] (w.drewN n) fun e w' => e = .returned (.int .u64 (mixZ x)) ∧ ∃ m, w' = w.drewN m :=
  Calls.quiet_of_same ((specMix_any x (w.drewN n)).mono fun _ _ h => ⟨h.1, h.2.symm⟩)
def spX (a b t : Int) : Int := IntKind.u64.wrap (mixZ a + mixZ (IntKind.u64.wrap (IntKind.u64.wrap (b + IntKind.u64.wrap t) + 1)))
def spA (x : Int) : Int := if (x == 0) = true then 1 else x
def spY (x : Int) : Int := mixZ (IntKind.u64.wrap (x + 1))
def spB (k y : Int) : Int := if k = 0 ∧ (y.tmod 2 == 0) = true then IntKind.u64.wrap (y + 1) else y

/-- A seed lies in block P, the result's cells in block R, a block of the call's own. -/
structure Lies (k a b : Int) (w : World) (B P R : Nat) (w' : World) : Prop where
  p0 : w'.cell? ⟨P, 0, none⟩ = some (.int .i64 k)
  p1 : w'.cell? ⟨P, 1, none⟩ = some (.int .u64 a)
  p2 : w'.cell? ⟨P, 2, none⟩ = some (.int .u64 b)
  q0 : w'.cell? ⟨R, 0, none⟩ = some (.int .i64 0)
  q1 : w'.cell? ⟨R, 1, none⟩ = some (.int .u64 0)
  q2 : w'.cell? ⟨R, 2, none⟩ = some (.int .u64 0)
  bel : Below B w w'
  lo : P < w'.heap.size
  hi : R < w'.heap.size
  own : B ≤ R
  fr : Free3 w' R
theorem Lies.drew {k a b : Int} {w : World} {B P R : Nat} {w' : World} (h : Lies k a b w B P R w') : Lies k a b w B P R w'.drew :=
  ⟨h.1, h.2, h.3, h.4, h.5, h.6, h.7.drew, h.8, h.9, h.10, h.11⟩
theorem Lies.drewN {k a b : Int} {w : World} {B P R : Nat} {w' : World} (h : Lies k a b w B P R w') (n : Nat) : Lies k a b w B P R (w'.drewN n) := by
  induction n with
  | zero => exact h
  | succ n ih => exact ih.drew
theorem Lies.alloc {k a b : Int} {w : World} {B P R : Nat} {w' : World} (h : Lies k a b w B P R w') (o : Obj) : Lies k a b w B P R (w'.alloc o) :=
  have hs := h.hi
  have ho := h.own
  ⟨alloc_cell h.1 h.lo o, alloc_cell h.2 h.lo o, alloc_cell h.3 h.lo o, alloc_cell h.4 h.hi o, alloc_cell h.5 h.hi o, alloc_cell h.6 h.hi o, h.bel.alloc (by omega) o, by have := h.lo; simp; omega, by simp; omega, ho, free3_alloc h.fr h.hi o⟩
/-- The stream's seed lies in block C. -/
structure SpIn (k a b x y : Int) (w : World) (B P R C : Nat) (w' : World) : Prop where
  lies : Lies k a b w B P R w'
  big : B ≤ C
  ne : P ≠ C
  ne1 : R ≠ C
  own : Free3 w' C
  n0 : w'.cell? ⟨C, 0, none⟩ = some (.int .i64 k)
  n1 : w'.cell? ⟨C, 1, none⟩ = some (.int .u64 x)
  n2 : w'.cell? ⟨C, 2, none⟩ = some (.int .u64 y)
theorem SpIn.start {k a b : Int} {w : World} {B P R : Nat} {W : World} (hs : Lies k a b w B P R W) (x y : Int) (t : TypeId) :
    SpIn k a b x y w B P R W.heap.size (W.alloc (.cells #[.int .i64 k, .int .u64 x, .int .u64 y] t)) :=
  have h := hs.lo
  have h' := hs.hi
  have ho := hs.own
  ⟨hs.alloc _, by omega, by omega, by omega, free3_new _ _ _ _ _, by simp, by simp, by simp⟩
theorem SpIn.drew {k a b x y : Int} {w : World} {B P R C : Nat} {w' : World} (h : SpIn k a b x y w B P R C w') : SpIn k a b x y w B P R C w'.drew :=
  ⟨h.1.drew, h.2, h.3, h.4, h.5, h.6, h.7, h.8⟩
structure Lo (P : Nat) (w' : World) : Prop where
  lo : P < w'.heap.size
theorem lie3_drew {w' : World} {P : Nat} {k a b : Int} (h : w'.cell? ⟨P, 0, none⟩ = some (.int .i64 k) ∧ w'.cell? ⟨P, 1, none⟩ = some (.int .u64 a) ∧ w'.cell? ⟨P, 2, none⟩ = some (.int .u64 b) ∧ Lo P w') :
    w'.drew.cell? ⟨P, 0, none⟩ = some (.int .i64 k) ∧ w'.drew.cell? ⟨P, 1, none⟩ = some (.int .u64 a) ∧ w'.drew.cell? ⟨P, 2, none⟩ = some (.int .u64 b) ∧ Lo P w'.drew := ⟨h.1, h.2.1, h.2.2.1, ⟨h.2.2.2.lo⟩⟩
theorem lie3_alloc {w' : World} {P : Nat} {k a b : Int} (h : w'.cell? ⟨P, 0, none⟩ = some (.int .i64 k) ∧ w'.cell? ⟨P, 1, none⟩ = some (.int .u64 a) ∧ w'.cell? ⟨P, 2, none⟩ = some (.int .u64 b) ∧ Lo P w') (o : Obj) :
    (w'.alloc o).cell? ⟨P, 0, none⟩ = some (.int .i64 k) ∧ (w'.alloc o).cell? ⟨P, 1, none⟩ = some (.int .u64 a) ∧ (w'.alloc o).cell? ⟨P, 2, none⟩ = some (.int .u64 b) ∧ Lo P (w'.alloc o) :=
  ⟨alloc_cell h.1 h.2.2.2.lo o, alloc_cell h.2.1 h.2.2.2.lo o, alloc_cell h.2.2.1 h.2.2.2.lo o, ⟨by have := h.2.2.2.lo; simp; omega⟩⟩
set_option maxHeartbeats 800000 in
theorem split_any (k a b t : Int) (w : World) :
    Calls Try.prog 63 #[.agg #[.int .i64 k, .int .u64 a, .int .u64 b], .int .i64 t] w fun e w' => e = .returned (seedV k (spA (spX a b t)) (spB k (spY (spX a b t)))) ∧ Below w.heap.size w w' := by
  go_enter Try.func63, Try.ntmps63
  go_upto_region 1 with fail
  have hs : Lies k a b w w.heap.size w.heap.size (w.heap.size + 1) ((w.alloc (Obj.cells #[.int .i64 k, .int .u64 a, .int .u64 b] 29)).alloc (Obj.cells #[.int .i64 0, .int .u64 0, .int .u64 0] 29)) := by
    refine ⟨by simp, by simp, by simp, by simp, by simp, by simp, ((Below.refl _ _).alloc (Nat.le_refl _) _).alloc (by simp) _, by simp; omega, by simp, by omega, ?_⟩
    have q := free3_new (w.alloc (Obj.cells #[.int .i64 k, .int .u64 a, .int .u64 b] 29)) (.int .i64 0) (.int .u64 0) (.int .u64 0) 29
    simpa only [World.size_alloc] using q
  generalize ((w.alloc (Obj.cells #[.int .i64 k, .int .u64 a, .int .u64 b] 29)).alloc (Obj.cells #[.int .i64 0, .int .u64 0, .int .u64 0] 29)) = W at *
  generalize hB : w.heap.size = B at *
  generalize hR : B + 1 = R at *
  obtain ⟨p0, p1, p2, q0, q1, q2, hbl, hlo, hhi, how, hfr⟩ := id hs
  go_cut [5] (fun s5 wx => s5 = .int .u64 (spX a b t) ∧ ∃ n, wx = W.drewN n)
  case first =>
    go_quiet ((go_at_call 83; exact implMix_q _ _ _))
    go_wp2_with fail
    go_meet
    exact ⟨by simp only [spX], _, rfl⟩
  case rest =>
  obtain ⟨rfl, n, rfl⟩ := hcut
  replace hs := hs.drewN n
  generalize W.drewN n = W at *
  generalize hx : spX a b t = x at *
  clear p0 p1 p2 q0 q1 q2 hbl hlo hhi how hfr
  obtain ⟨p0, p1, p2, q0, q1, q2, hbl, hlo, hhi, how, hfr⟩ := id hs
  go_upto_region 2 with fail
  go_cut [6] (fun s6 wx => s6 = .pointer (some ⟨W.heap.size, 0, none⟩) ∧ SpIn k a b x (spY x) w B B R W.heap.size wx)
  case first =>
    have hk : W.cell? ⟨B, 0, none⟩ = some (.int .i64 k) ∧ W.cell? ⟨B, 1, none⟩ = some (.int .u64 a) ∧ W.cell? ⟨B, 2, none⟩ = some (.int .u64 b) ∧ Lo B W := ⟨p0, p1, p2, ⟨hlo⟩⟩
    clear q0 q1 q2 hbl hhi how hfr hlo
    go_region_held3 (fun w' => w'.cell? ⟨B, 0, none⟩ = some (.int .i64 k) ∧ w'.cell? ⟨B, 1, none⟩ = some (.int .u64 a) ∧ w'.cell? ⟨B, 2, none⟩ = some (.int .u64 b) ∧ Lo B w')  (first | assumption | (repeat (first | refine lie3_drew ?_ | refine lie3_alloc ?_ _)); assumption)
      (first | (go_at_call 83; refine (implMix_any _ _).mono ?_; rintro e w1 ⟨rfl, rfl⟩))
    all_goals (go_wp2_with fail; go_meet; refine ⟨rfl, ?_⟩; (repeat (refine SpIn.drew ?_)); exact SpIn.start hs _ _ _)
  case rest =>
  obtain ⟨rfl, h⟩ := hcut
  clear hs p0 p1 p2 q0 q1 q2 hbl hlo hhi how hfr
  generalize W.heap.size = C at *
  generalize hy : spY x = y at *
  obtain ⟨⟨p0, p1, p2, q0, q1, q2, hbl, hlo, hhi, how, hf0, hf1, hf2⟩, hC, hne, hne1, ⟨r3, r4, r5⟩, n0, n1, n2⟩ := h
  go_wp2
  all_goals
    rw [hB]
    refine bodyPost_ret (v := .agg #[.int .i64 k, .int .u64 (spA x), .int .u64 (spB k y)]) ?_ rfl ⟨by rw [hx, hy]; rfl, ?_⟩
    · simp [results, Try.results63, go_sem, spA, spB, *]
    · repeat (first | exact hbl | refine Below.setCell ?_ (by first | exact hC | exact how) _)
set_option maxHeartbeats 800000 in
theorem l02Split_any (P : Nat) (k a b t : Int) (w : World) (h : SeedAt w P k a b) (hP : P < w.heap.size) :
    Calls Try.prog 62 #[.pointer (some ⟨P, 0, none⟩), .int .i64 t] w fun e w' => e = .returned (seedV k (spA (spX a b t)) (spB k (spY (spX a b t)))) ∧ Below w.heap.size w w' := by
  obtain ⟨h0, h1, h2⟩ := h
  go_enter Try.func62, Try.ntmps62
  go_upto_region 1 with fail
  have hs : Lies k a b w w.heap.size P w.heap.size (w.alloc (Obj.cells #[.int .i64 0, .int .u64 0, .int .u64 0] 29)) := by
    refine ⟨alloc_cell h0 hP _, alloc_cell h1 hP _, alloc_cell h2 hP _, by simp, by simp, by simp, (Below.refl _ _).alloc (Nat.le_refl _) _, by simp; omega, by simp, by omega, free3_new _ _ _ _ _⟩
  clear h0 h1 h2
  generalize (w.alloc (Obj.cells #[.int .i64 0, .int .u64 0, .int .u64 0] 29)) = W at *
  generalize hB : w.heap.size = B at *
  obtain ⟨p0, p1, p2, q0, q1, q2, hbl, hlo, hhi, how, hfr⟩ := id hs
  go_cut [5] (fun s5 wx => s5 = .int .u64 (spX a b t) ∧ ∃ n, wx = W.drewN n)
  case first =>
    go_quiet ((go_at_call 82; exact specMix_q _ _ _))
    go_wp2_with fail
    go_meet
    exact ⟨by simp only [spX], _, rfl⟩
  case rest =>
  obtain ⟨rfl, n, rfl⟩ := hcut
  replace hs := hs.drewN n
  generalize W.drewN n = W at *
  generalize hx : spX a b t = x at *
  clear p0 p1 p2 q0 q1 q2 hbl hlo hhi how hfr
  obtain ⟨p0, p1, p2, q0, q1, q2, hbl, hlo, hhi, how, hfr⟩ := id hs
  go_upto_region 2 with fail
  go_cut [6] (fun s6 wx => s6 = .pointer (some ⟨W.heap.size, 0, none⟩) ∧ SpIn k a b x (spY x) w B P B W.heap.size wx)
  case first =>
    have hk : W.cell? ⟨P, 0, none⟩ = some (.int .i64 k) ∧ W.cell? ⟨P, 1, none⟩ = some (.int .u64 a) ∧ W.cell? ⟨P, 2, none⟩ = some (.int .u64 b) ∧ Lo P W := ⟨p0, p1, p2, ⟨hlo⟩⟩
    clear q0 q1 q2 hbl hhi how hfr hlo
    go_region_held3 (fun w' => w'.cell? ⟨P, 0, none⟩ = some (.int .i64 k) ∧ w'.cell? ⟨P, 1, none⟩ = some (.int .u64 a) ∧ w'.cell? ⟨P, 2, none⟩ = some (.int .u64 b) ∧ Lo P w')  (first | assumption | (repeat (first | refine lie3_drew ?_ | refine lie3_alloc ?_ _)); assumption)
      (first | (go_at_call 82; refine (specMix_any _ _).mono ?_; rintro e w1 ⟨rfl, rfl⟩))
    all_goals (go_wp2_with fail; go_meet; refine ⟨rfl, ?_⟩; (repeat (refine SpIn.drew ?_)); exact SpIn.start hs _ _ _)
  case rest =>
  obtain ⟨rfl, h⟩ := hcut
  clear hs p0 p1 p2 q0 q1 q2 hbl hlo hhi how hfr
  generalize W.heap.size = C at *
  generalize hy : spY x = y at *
  obtain ⟨⟨p0, p1, p2, q0, q1, q2, hbl, hlo, hhi, how, hf0, hf1, hf2⟩, hC, hne, hne1, ⟨r3, r4, r5⟩, n0, n1, n2⟩ := h
  go_wp2
  all_goals
    rw [hB]
    refine bodyPost_ret (v := .agg #[.int .i64 k, .int .u64 (spA x), .int .u64 (spB k y)]) ?_ rfl ⟨by rw [hx, hy]; rfl, ?_⟩
    · simp [results, Try.results62, go_sem, spA, spB, *]
    · repeat (first | exact hbl | refine Below.setCell ?_ (by first | exact hC | exact how | exact Nat.le_refl _) _)
end Go.Proofs.Ytlaelfaalgmicaa
