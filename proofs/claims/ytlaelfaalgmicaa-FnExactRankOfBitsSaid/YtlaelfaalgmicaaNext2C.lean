/- The step of a seed: one contract for each side; NextSeed. -/
import Derived.Test.YtlaelfaalgmicaaNextC
import Derived.Laws.BitsAllLaws
import Derived.Laws.Bits64
namespace Go.Proofs.Ytlaelfaalgmicaa
open Go.RowKit
set_option linter.unusedVariables false

theorem nxA0 (a b : Int) : nxA 0 a b = lineA a b := by simp [nxA]
theorem nxB0 (a b : Int) : nxB 0 a b = b := by simp [nxB]
theorem nxW0 (a b : Int) : nxW 0 a b = lineA a b := by simp [nxW]
theorem nxA1 (a b : Int) : nxA 1 a b = sh3 (sh2 (sh1 a)) := by simp [nxA]
theorem nxB1 (a b : Int) : nxB 1 a b = b := by simp [nxB]
theorem nxW1 (a b : Int) : nxW 1 a b = shW (sh3 (sh2 (sh1 a))) := by simp [nxW]
theorem nxA2 (a b : Int) : nxA 2 a b = cntA a := by simp [nxA]
theorem nxB2 (a b : Int) : nxB 2 a b = b := by simp [nxB]
theorem nxW2 (a b : Int) : nxW 2 a b = cntW (cntA a) b := by simp [nxW]
theorem l02Next_any (P : Nat) (k a b : Int) (w : World) (h : SeedAt w P k a b) (hf : Free3 w P) :
    Calls Try.prog 64 #[.pointer (some ⟨P, 0, none⟩)] w fun e w' => e = .returned (.int .u32 (IntKind.u32.wrap (nxW k a b / 4294967296))) ∧ Moved P k (nxA k a b) (nxB k a b) w w' := by
  by_cases k0 : k = 0
  · subst k0; rw [nxA0, nxB0, nxW0]; exact l02Next_line P a b w h hf
  by_cases k1 : k = 1
  · subst k1; rw [nxA1, nxB1, nxW1]; exact l02Next_shift P a b w h hf
  by_cases k2 : k = 2
  · subst k2; rw [nxA2, nxB2, nxW2]; exact l02Next_count P a b w h hf
  have hA : nxA k a b = prA a (prX a b) := by simp [nxA, k0, k1, k2]
  have hB : nxB k a b = rot37 (prX a b) := by simp [nxB, k0, k1, k2]
  have hW : nxW k a b = prW a b := by simp [nxW, k0, k1, k2]
  rw [hA, hB, hW]
  exact l02Next_pair P k a b w h hf k0 k1 k2
theorem next_any (k a b : Int) (w : World) :
    Calls Try.prog 65 #[.agg #[.int .i64 k, .int .u64 a, .int .u64 b]] w fun e w' => e = .returned (.tuple #[.agg #[.int .i64 k, .int .u64 (nxA k a b), .int .u64 (nxB k a b)], .int .i64 (wrap64 (nxW k a b / 4294967296))]) ∧ Below w.heap.size w w' := by
  by_cases k0 : k = 0
  · subst k0; rw [nxA0, nxB0, nxW0]; exact next_line a b w
  by_cases k1 : k = 1
  · subst k1; rw [nxA1, nxB1, nxW1]; exact next_shift a b w
  by_cases k2 : k = 2
  · subst k2; rw [nxA2, nxB2, nxW2]; exact next_count a b w
  have hA : nxA k a b = prA a (prX a b) := by simp [nxA, k0, k1, k2]
  have hB : nxB k a b = rot37 (prX a b) := by simp [nxB, k0, k1, k2]
  have hW : nxW k a b = prW a b := by simp [nxW, k0, k1, k2]
  rw [hA, hB, hW]
  exact next_pair k a b w k0 k1 k2
theorem u64_range (n : Int) : 0 ≤ IntKind.u64.wrap n ∧ IntKind.u64.wrap n < 18446744073709551616 := by
  rw [IntKind.wrap_u64]; omega
theorem mixC_range (x : Int) (h0 : 0 ≤ x) (h1 : x < 18446744073709551616) : 0 ≤ mixC x ∧ mixC x < 18446744073709551616 := by
  obtain ⟨X, rfl⟩ := Int.eq_ofNat_of_zero_le h0
  have hX : X < 18446744073709551616 := by omega
  have q : mixC (X : Int) = ((X ^^^ X / 2147483648 : Nat) : Int) := xorShift_u64 X 2147483648 hX
  rw [q]
  have r : X ^^^ X / 2147483648 < 2 ^ 64 := Nat.xor_lt_two_pow (by simpa using hX) (by have := Nat.div_le_self X 2147483648; omega)
  omega
theorem nxW_range (k a b : Int) : 0 ≤ nxW k a b ∧ nxW k a b < 18446744073709551616 := by
  have m : ∀ x, 0 ≤ mixZ x ∧ mixZ x < 18446744073709551616 := fun x => mixC_range _ (u64_range _).1 (u64_range _).2
  unfold nxW
  split
  · exact u64_range _
  split
  · exact u64_range _
  split
  · exact m _
  · exact u64_range _
/-- The word of a step. -/
def wd (k a b : Int) : Int := nxW k a b / 4294967296
theorem wd_range (k a b : Int) : 0 ≤ wd k a b ∧ wd k a b < 4294967296 := by
  have := nxW_range k a b; unfold wd; omega
theorem wd_u32 (k a b : Int) : IntKind.u32.wrap (nxW k a b / 4294967296) = wd k a b := by
  have h := wd_range k a b
  rw [IntKind.wrap_u32']
  exact Int.emod_eq_of_lt h.1 h.2
theorem wd_i64 (k a b : Int) : wrap64 (nxW k a b / 4294967296) = wd k a b := by
  have h := wd_range k a b
  unfold wd at *
  simp only [wrap64]
  omega
theorem l02Next_wd (P : Nat) (k a b : Int) (w : World) (h : SeedAt w P k a b) (hf : Free3 w P) :
    Calls Try.prog 64 #[.pointer (some ⟨P, 0, none⟩)] w fun e w' => e = .returned (.int .u32 (wd k a b)) ∧ Moved P k (nxA k a b) (nxB k a b) w w' := by
  have := l02Next_any P k a b w h hf; rw [wd_u32] at this; exact this
theorem next_wd (k a b : Int) (w : World) :
    Calls Try.prog 65 #[.agg #[.int .i64 k, .int .u64 a, .int .u64 b]] w fun e w' => e = .returned (.tuple #[.agg #[.int .i64 k, .int .u64 (nxA k a b), .int .u64 (nxB k a b)], .int .i64 (wd k a b)]) ∧ Below w.heap.size w w' := by
  have := next_any k a b w; rw [wd_i64] at this; exact this

theorem Lies.moved {k a b a' b' : Int} {w : World} {B P R : Nat} {w' w1 : World} (h : Lies k a b w B P R w') (m : Moved P k a' b' w' w1) (hP : B ≤ P) (hne : R ≠ P) : Lies k a' b' w B P R w1 :=
  have c : ∀ o, w1.cell? ⟨R, o, none⟩ = w'.cell? ⟨R, o, none⟩ := fun o => World.cell?_of_block (w := w') (m.oth R hne)
  have z : ∀ o, w1.frozen? ⟨R, o, none⟩ = w'.frozen? ⟨R, o, none⟩ := fun o => World.frozen?_of_block (w := w') (m.oth R hne)
  ⟨m.p0, m.p1, m.p2, (c _).trans h.q0, (c _).trans h.q1, (c _).trans h.q2, h.bel.trans (m.bel hP), by rw [m.size]; exact h.lo, by rw [m.size]; exact h.hi, h.own, ⟨(z _).trans h.fr.1, (z _).trans h.fr.2.1, (z _).trans h.fr.2.2⟩⟩
theorem free_start (k a b : Int) (w : World) (t t' : TypeId) : Free3 ((w.alloc (Obj.cells #[.int .i64 k, .int .u64 a, .int .u64 b] t)).alloc (Obj.cells #[.int .i64 0, .int .u64 0, .int .u64 0] t')) w.heap.size :=
  free3_alloc (free3_new _ _ _ _ _) (by simp) _
/-- What NextSeed returns. -/
def nxOut (k a b : Int) : Value := if valB k a b = true then .tuple #[.agg #[.int .i64 k, .int .u64 (nxA k a b), .int .u64 (nxB k a b)], .int .i64 (wd k a b), .bool true] else .tuple #[.agg #[.int .i64 0, .int .u64 0, .int .u64 0], .int .i64 0, .bool false]
theorem nxOut_true (k a b : Int) (h : valB k a b = true) : nxOut k a b = .tuple #[.agg #[.int .i64 k, .int .u64 (nxA k a b), .int .u64 (nxB k a b)], .int .i64 (wd k a b), .bool true] := by simp [nxOut, h]
set_option maxHeartbeats 400000 in
theorem implNext_any (k a b : Int) (w : World) (hb : 0 ≤ b) :
    Calls Try.prog 27 #[.agg #[.int .i64 k, .int .u64 a, .int .u64 b]] w fun e w' => e = .returned (nxOut k a b) ∧ Below w.heap.size w w' := by
  go_enter Try.func27, Try.ntmps27
  go_upto_region 1 with fail
  have hs := lies_start k a b w 29 29
  generalize ((w.alloc (Obj.cells #[.int .i64 k, .int .u64 a, .int .u64 b] 29)).alloc (Obj.cells #[.int .i64 0, .int .u64 0, .int .u64 0] 29)) = W at *
  generalize hB : w.heap.size = B at *
  generalize hR : B + 1 = R at *
  obtain ⟨p0, p1, p2, q0, q1, q2, hbl, hlo, hhi, how, hf0, hf1, hf2⟩ := id hs
  go_wp2_with (first
    | (go_at_call 22; refine (implValid_any k a b _ hb).mono ?_; rintro e w1 ⟨rfl, h1⟩; replace hs := hs.step h1 (by omega); clear p0 p1 p2 q0 q1 q2 hbl hlo hhi how hf0 hf1 hf2 h1; obtain ⟨p0, p1, p2, q0, q1, q2, hbl, hlo, hhi, how, hf0, hf1, hf2⟩ := id hs; cases hv : valB k a b)
    | (go_at_call 65; refine (next_wd k a b _).mono ?_; rintro e w3 ⟨rfl, h3⟩; replace hs := hs.step h3 (by omega); clear p0 p1 p2 q0 q1 q2 hbl hlo hhi how hf0 hf1 hf2 h3; replace hs := hs.alloc (.cells #[.int .i64 k, .int .u64 (nxA k a b), .int .u64 (nxB k a b)] 29); obtain ⟨p0, p1, p2, q0, q1, q2, hbl, hlo, hhi, how, hf0, hf1, hf2⟩ := id hs))
  all_goals
    rw [hB]
    refine bodyPost_ret (v := nxOut k a b) (by simp [results, Try.results27, go_sem, nxOut, *]) rfl ⟨rfl, ?_⟩
    repeat (first | exact hbl | refine Below.setCell ?_ how _)
set_option maxHeartbeats 400000 in
theorem specNext_any (k a b : Int) (w : World) (hb : 0 ≤ b) :
    Calls Try.prog 26 #[.agg #[.int .i64 k, .int .u64 a, .int .u64 b]] w fun e w' => e = .returned (nxOut k a b) ∧ Below w.heap.size w w' := by
  go_enter Try.func26, Try.ntmps26
  go_upto_region 1 with fail
  have hs := lies_start k a b w 29 29
  have hf := free_start k a b w 29 29
  generalize ((w.alloc (Obj.cells #[.int .i64 k, .int .u64 a, .int .u64 b] 29)).alloc (Obj.cells #[.int .i64 0, .int .u64 0, .int .u64 0] 29)) = W at *
  generalize hB : w.heap.size = B at *
  generalize hR : B + 1 = R at *
  obtain ⟨p0, p1, p2, q0, q1, q2, hbl, hlo, hhi, how, hf0, hf1, hf2⟩ := id hs
  have hwd := wd_range k a b
  go_wp2_with (first
    | (go_at_call 61; refine (l02Is_any B k a b _ hb ⟨p0, p1, p2⟩).mono ?_; rintro e w1 ⟨rfl, rfl⟩; cases hv : valB k a b)
    | (go_at_call 64; refine (l02Next_wd B k a b _ ⟨p0, p1, p2⟩ hf).mono ?_; rintro e w3 ⟨rfl, h3⟩; replace hs := hs.moved h3 (Nat.le_refl _) (by omega); clear p0 p1 p2 q0 q1 q2 hbl hlo hhi how hf0 hf1 hf2 h3; obtain ⟨p0, p1, p2, q0, q1, q2, hbl, hlo, hhi, how, hf0, hf1, hf2⟩ := id hs))
  all_goals
    rw [hB]
    refine bodyPost_ret (v := nxOut k a b) (by simp [results, Try.results26, go_sem, nxOut, *]) rfl ⟨rfl, ?_⟩
    repeat (first | exact hbl | refine Below.setCell ?_ how _)
end Go.Proofs.Ytlaelfaalgmicaa
