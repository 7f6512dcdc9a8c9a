/- Contracts of SplitSeed, both sides, and of the law's comparison. -/
import Derived.Test.YtlaelfaalgmicaaSplitC
namespace Go.Proofs.Ytlaelfaalgmicaa
open Go.RowKit
set_option linter.unusedVariables false

/-- Does x lie from lo to hi? -/
def inB (x lo hi : Int) : Bool := decide (lo ≤ x) && decide (x ≤ hi)
theorem l00In_any (x lo hi : Int) (w : World) : Calls Try.prog 59 #[.int .i64 x, .int .i64 lo, .int .i64 hi] w fun e w' => e = .returned (.bool (inB x lo hi)) ∧ w = w' := by
  go_enter Try.func59, Try.ntmps59
  go_wp2
  all_goals (go_ret; exact ⟨ret_bool (by simp_all [inB] <;> omega), rfl⟩)
theorem within_any (x lo hi : Int) (w : World) : Calls Try.prog 60 #[.int .i64 x, .int .i64 lo, .int .i64 hi] w fun e w' => e = .returned (.bool (inB x lo hi)) ∧ w = w' := by
  go_enter Try.func60, Try.ntmps60
  go_wp2
  all_goals (go_ret; exact ⟨ret_bool (by simp_all [inB] <;> omega), rfl⟩)
theorem eqSeed_any (k a b k' a' b' : Int) (w : World) :
    Calls Try.prog 25 #[.agg #[.int .i64 k, .int .u64 a, .int .u64 b], .agg #[.int .i64 k', .int .u64 a', .int .u64 b']] w fun e w' => e = .returned (.bool (decide (k = k' ∧ a = a' ∧ b = b'))) ∧ Below w.heap.size w w' := by
  go_enter Try.func25, Try.ntmps25
  go_wp2
  all_goals (go_ret; exact ⟨ret_bool (by simp_all), ((Below.refl _ _).alloc (Nat.le_refl _) _).alloc (by simp) _⟩)

theorem split_agg (k a b t : Int) (w : World) :
    Calls Try.prog 63 #[.agg #[.int .i64 k, .int .u64 a, .int .u64 b], .int .i64 t] w fun e w' => e = .returned (.agg #[.int .i64 k, .int .u64 (spA (spX a b t)), .int .u64 (spB k (spY (spX a b t)))]) ∧ Below w.heap.size w w' := split_any k a b t w
theorem l02Split_agg (P : Nat) (k a b t : Int) (w : World) (h : SeedAt w P k a b) (hP : P < w.heap.size) :
    Calls Try.prog 62 #[.pointer (some ⟨P, 0, none⟩), .int .i64 t] w fun e w' => e = .returned (.agg #[.int .i64 k, .int .u64 (spA (spX a b t)), .int .u64 (spB k (spY (spX a b t)))]) ∧ Below w.heap.size w w' := l02Split_any P k a b t w h hP
def spOk (k a b t : Int) : Bool := valB k a b && inB t 0 1000000
/-- What SplitSeed returns. -/
def spOut (k a b t : Int) : Value := if spOk k a b t = true then .tuple #[.agg #[.int .i64 k, .int .u64 (spA (spX a b t)), .int .u64 (spB k (spY (spX a b t)))], .bool true] else .tuple #[.agg #[.int .i64 0, .int .u64 0, .int .u64 0], .bool false]
theorem Lies.step {k a b : Int} {w : World} {B P R : Nat} {w' w1 : World} (h : Lies k a b w B P R w') (hb : Below w'.heap.size w' w1) (hB : B ≤ w'.heap.size) : Lies k a b w B P R w1 :=
  have c := (bcell hb).1
  have z := (bcell hb).2
  ⟨(c _ _ h.lo).trans h.1, (c _ _ h.lo).trans h.2, (c _ _ h.lo).trans h.3, (c _ _ h.hi).trans h.4, (c _ _ h.hi).trans h.5, (c _ _ h.hi).trans h.6, h.bel.trans (hb.mono hB), Nat.lt_of_lt_of_le h.lo hb.size, Nat.lt_of_lt_of_le h.hi hb.size, h.own, ⟨(z _ _ h.hi).trans h.fr.1, (z _ _ h.hi).trans h.fr.2.1, (z _ _ h.hi).trans h.fr.2.2⟩⟩
theorem lies_start (k a b : Int) (w : World) (t t' : TypeId) : Lies k a b w w.heap.size w.heap.size (w.heap.size + 1) ((w.alloc (Obj.cells #[.int .i64 k, .int .u64 a, .int .u64 b] t)).alloc (Obj.cells #[.int .i64 0, .int .u64 0, .int .u64 0] t')) := by
  refine ⟨by simp, by simp, by simp, by simp, by simp, by simp, ((Below.refl _ _).alloc (Nat.le_refl _) _).alloc (by simp) _, by simp; omega, by simp, by omega, ?_⟩
  have q := free3_new (w.alloc (Obj.cells #[.int .i64 k, .int .u64 a, .int .u64 b] t)) (.int .i64 0) (.int .u64 0) (.int .u64 0) t'
  simpa only [World.size_alloc] using q
theorem spOut_true (k a b t : Int) (ho : spOk k a b t = true) : spOut k a b t = .tuple #[.agg #[.int .i64 k, .int .u64 (spA (spX a b t)), .int .u64 (spB k (spY (spX a b t)))], .bool true] := by simp [spOut, ho]
set_option maxHeartbeats 400000 in
theorem implSplit_any (k a b t : Int) (w : World) (hb : 0 ≤ b) :
    Calls Try.prog 24 #[.agg #[.int .i64 k, .int .u64 a, .int .u64 b], .int .i64 t] w fun e w' => e = .returned (spOut k a b t) ∧ Below w.heap.size w w' := by
  go_enter Try.func24, Try.ntmps24
  go_upto_region 1 with fail
  have hs := lies_start k a b w 29 29
  generalize ((w.alloc (Obj.cells #[.int .i64 k, .int .u64 a, .int .u64 b] 29)).alloc (Obj.cells #[.int .i64 0, .int .u64 0, .int .u64 0] 29)) = W at *
  generalize hB : w.heap.size = B at *
  generalize hR : B + 1 = R at *
  obtain ⟨p0, p1, p2, q0, q1, q2, hbl, hlo, hhi, how, hf0, hf1, hf2⟩ := id hs
  go_wp2_with (first
    | (go_at_call 22; refine (implValid_any k a b _ hb).mono ?_; rintro e w1 ⟨rfl, h1⟩; replace hs := hs.step h1 (by omega); clear p0 p1 p2 q0 q1 q2 hbl hlo hhi how hf0 hf1 hf2 h1; obtain ⟨p0, p1, p2, q0, q1, q2, hbl, hlo, hhi, how, hf0, hf1, hf2⟩ := id hs; cases hv : valB k a b)
    | (go_at_call 60; refine (within_any t 0 1000000 _).mono ?_; rintro e w2 ⟨rfl, rfl⟩; cases hi : inB t 0 1000000)
    | (go_at_call 63; refine (split_agg k a b t _).mono ?_; rintro e w3 ⟨rfl, h3⟩; replace hs := hs.step h3 (by omega); clear p0 p1 p2 q0 q1 q2 hbl hlo hhi how hf0 hf1 hf2 h3; obtain ⟨p0, p1, p2, q0, q1, q2, hbl, hlo, hhi, how, hf0, hf1, hf2⟩ := id hs))
  all_goals
    rw [hB]
    refine bodyPost_ret (v := spOut k a b t) (by simp [results, Try.results24, go_sem, spOut, spOk, *]) rfl ⟨rfl, ?_⟩
    repeat (first | exact hbl | refine Below.setCell ?_ how _)
set_option maxHeartbeats 400000 in
theorem specSplit_any (k a b t : Int) (w : World) (hb : 0 ≤ b) :
    Calls Try.prog 23 #[.agg #[.int .i64 k, .int .u64 a, .int .u64 b], .int .i64 t] w fun e w' => e = .returned (spOut k a b t) ∧ Below w.heap.size w w' := by
  go_enter Try.func23, Try.ntmps23
  go_upto_region 1 with fail
  have hs := lies_start k a b w 29 29
  generalize ((w.alloc (Obj.cells #[.int .i64 k, .int .u64 a, .int .u64 b] 29)).alloc (Obj.cells #[.int .i64 0, .int .u64 0, .int .u64 0] 29)) = W at *
  generalize hB : w.heap.size = B at *
  generalize hR : B + 1 = R at *
  obtain ⟨p0, p1, p2, q0, q1, q2, hbl, hlo, hhi, how, hf0, hf1, hf2⟩ := id hs
  go_wp2_with (first
    | (go_at_call 61; refine (l02Is_any B k a b _ hb ⟨p0, p1, p2⟩).mono ?_; rintro e w1 ⟨rfl, rfl⟩; cases hv : valB k a b)
    | (go_at_call 59; refine (l00In_any t 0 1000000 _).mono ?_; rintro e w2 ⟨rfl, rfl⟩; cases hi : inB t 0 1000000)
    | (go_at_call 62; refine (l02Split_agg B k a b t _ ⟨p0, p1, p2⟩ hlo).mono ?_; rintro e w3 ⟨rfl, h3⟩; replace hs := hs.step h3 (by omega); clear p0 p1 p2 q0 q1 q2 hbl hlo hhi how hf0 hf1 hf2 h3; obtain ⟨p0, p1, p2, q0, q1, q2, hbl, hlo, hhi, how, hf0, hf1, hf2⟩ := id hs))
  all_goals
    rw [hB]
    refine bodyPost_ret (v := spOut k a b t) (by simp [results, Try.results23, go_sem, spOut, spOk, *]) rfl ⟨rfl, ?_⟩
    repeat (first | exact hbl | refine Below.setCell ?_ how _)
/-- Three cells of a seed in block P. -/
structure At3 (w' : World) (P : Nat) (k a b : Int) : Prop where
  p0 : w'.cell? ⟨P, 0, none⟩ = some (.int .i64 k)
  p1 : w'.cell? ⟨P, 1, none⟩ = some (.int .u64 a)
  p2 : w'.cell? ⟨P, 2, none⟩ = some (.int .u64 b)
  lo : P < w'.heap.size
theorem At3.new (w : World) (k a b : Int) (t : TypeId) : At3 (w.alloc (.cells #[.int .i64 k, .int .u64 a, .int .u64 b] t)) w.heap.size k a b := ⟨by simp, by simp, by simp, by simp⟩
theorem At3.alloc {w : World} {P : Nat} {k a b : Int} (h : At3 w P k a b) (o : Obj) : At3 (w.alloc o) P k a b :=
  ⟨alloc_cell h.1 h.lo o, alloc_cell h.2 h.lo o, alloc_cell h.3 h.lo o, by have := h.lo; simp; omega⟩
theorem At3.step {w w1 : World} {P : Nat} {k a b : Int} (h : At3 w P k a b) (hb : Below w.heap.size w w1) : At3 w1 P k a b :=
  have c := (bcell hb).1
  ⟨(c _ _ h.lo).trans h.1, (c _ _ h.lo).trans h.2, (c _ _ h.lo).trans h.3, Nat.lt_of_lt_of_le h.lo hb.size⟩
end Go.Proofs.Ytlaelfaalgmicaa
