/- Contracts of ShareSeed, both sides. -/
import Derived.Test.YtlaelfaalgmicaaNext2C
import Derived.Test.YtlaelfaalgmicaaShare
import Derived.Test.YtlaelfaalgmicaaFloatC
namespace Go.Proofs.Ytlaelfaalgmicaa
open Go.RowKit
set_option linter.unusedVariables false
theorem bel_drewsN {B : Nat} {w w' : World} (h : Below B w w') (n : Nat) : Below B w (w'.drewN n) := by
  induction n with
  | zero => exact h
  | succ n ih => exact ih.drew
/-- The share of a word. -/
def shB (k a b : Int) : Nat := (floatBits .mul .f32 (FloatKind.f32.nearest (wd k a b / 256)) 864026624).getD 0
theorem share_bits (n : Int) (h0 : 0 ≤ n) (h1 : n < 16777216) : ∃ R, floatBits .mul .f32 (FloatKind.f32.nearest n) 864026624 = some R ∧ floatBits .quo .f32 (FloatKind.f32.nearest n) 1266679808 = some R := by
  obtain ⟨m, rfl⟩ := Int.eq_ofNat_of_zero_le h0
  by_cases hm : m = 0
  · subst hm; exact ⟨0, by decide, by decide⟩
  · obtain ⟨R, e1, e2⟩ := share_both m hm (by omega)
    have hx : FloatKind.f32.nearest (m : Int) = Ieee.single.nearest false m 0 := by
      show Ieee.single.nearest (decide ((m : Int) < 0)) (m : Int).natAbs 0 = _
      rw [show decide ((m : Int) < 0) = false from by simp, Int.natAbs_natCast]
    rw [hx]
    exact ⟨R, e1, e2⟩
theorem shB_range (k a b : Int) : 0 ≤ wd k a b / 256 ∧ wd k a b / 256 < 16777216 := by
  have := wd_range k a b; omega
theorem shB_mul (k a b : Int) : floatBits .mul .f32 (FloatKind.f32.nearest (wd k a b / 256)) 864026624 = some (shB k a b) := by
  obtain ⟨R, e1, _⟩ := share_bits _ (shB_range k a b).1 (shB_range k a b).2
  unfold shB; rw [e1]; rfl
theorem shB_quo (k a b : Int) : floatBits .quo .f32 (FloatKind.f32.nearest (wd k a b / 256)) 1266679808 = some (shB k a b) := by
  obtain ⟨R, e1, e2⟩ := share_bits _ (shB_range k a b).1 (shB_range k a b).2
  unfold shB; rw [e1, e2]; rfl
theorem fval_shm (k a b : Int) (w : World) : fval .mul .f32 (floatOfInt .f32 (wd k a b / 256)) 864026624 w = shB k a b := by unfold fval floatOfInt; rw [shB_mul]; rfl
theorem fN_shm (k a b : Int) : fN .mul .f32 (floatOfInt .f32 (wd k a b / 256)) 864026624 = 0 := by unfold fN floatOfInt; rw [shB_mul]; rfl
theorem fval_shq (k a b : Int) (w : World) : fval .quo .f32 (floatOfInt .f32 (wd k a b / 256)) 1266679808 w = shB k a b := by unfold fval floatOfInt; rw [shB_quo]; rfl
theorem fN_shq (k a b : Int) : fN .quo .f32 (floatOfInt .f32 (wd k a b / 256)) 1266679808 = 0 := by unfold fN floatOfInt; rw [shB_quo]; rfl
attribute [local go_sem] fval_shm fN_shm fval_shq fN_shq World.drewN_zero
set_option maxHeartbeats 400000 in
theorem l02Share_any (P : Nat) (k a b : Int) (w : World) (h : SeedAt w P k a b) (hf : Free3 w P) :
    Calls Try.prog 66 #[.pointer (some ⟨P, 0, none⟩)] w fun e w' => e = .returned (.float .f32 (shB k a b)) ∧ Moved P k (nxA k a b) (nxB k a b) w w' := by
  have hwd := wd_range k a b
  go_enter Try.func66, Try.ntmps66
  go_wp2_with (first
    | (go_at_call 64; refine (l02Next_wd P k a b _ h hf).mono ?_; rintro e w3 ⟨rfl, h3⟩))
  go_ret
  exact ⟨rfl, h3⟩
set_option maxHeartbeats 400000 in
theorem share_any (k a b : Int) (w : World) :
    Calls Try.prog 67 #[.agg #[.int .i64 k, .int .u64 a, .int .u64 b]] w fun e w' => e = .returned (.tuple #[.agg #[.int .i64 k, .int .u64 (nxA k a b), .int .u64 (nxB k a b)], .float .f32 (shB k a b)]) ∧ Below w.heap.size w w' := by
  have hwd := wd_range k a b
  go_enter Try.func67, Try.ntmps67
  go_upto_region 1 with fail
  have hs := lies_start k a b w 29 29
  generalize ((w.alloc (Obj.cells #[.int .i64 k, .int .u64 a, .int .u64 b] 29)).alloc (Obj.cells #[.int .i64 0, .int .u64 0, .int .u64 0] 29)) = W at *
  generalize hB : w.heap.size = B at *
  generalize hR : B + 1 = R at *
  obtain ⟨p0, p1, p2, q0, q1, q2, hbl, hlo, hhi, how, hf0, hf1, hf2⟩ := id hs
  go_wp2_with (first
    | (go_at_call 65; refine (next_wd k a b _).mono ?_; rintro e w3 ⟨rfl, h3⟩; replace hs := hs.step h3 (by omega); clear p0 p1 p2 q0 q1 q2 hbl hlo hhi how hf0 hf1 hf2 h3; replace hs := hs.alloc (.cells #[.int .i64 k, .int .u64 (nxA k a b), .int .u64 (nxB k a b)] 29); obtain ⟨p0, p1, p2, q0, q1, q2, hbl, hlo, hhi, how, hf0, hf1, hf2⟩ := id hs))
  rw [hB]
  refine bodyPost_ret (v := .tuple #[.agg #[.int .i64 k, .int .u64 (nxA k a b), .int .u64 (nxB k a b)], .float .f32 (shB k a b)]) (by simp [results, Try.results67, go_sem, *]) rfl ⟨rfl, ?_⟩
  repeat (first | exact hbl | refine Below.setCell ?_ how _)
/-- What ShareSeed returns. -/
def shOut (k a b : Int) : Value := if valB k a b = true then .tuple #[.agg #[.int .i64 k, .int .u64 (nxA k a b), .int .u64 (nxB k a b)], .float .f32 (shB k a b), .bool true] else .tuple #[.agg #[.int .i64 0, .int .u64 0, .int .u64 0], .float .f32 0, .bool false]
theorem shOut_true (k a b : Int) (h : valB k a b = true) : shOut k a b = .tuple #[.agg #[.int .i64 k, .int .u64 (nxA k a b), .int .u64 (nxB k a b)], .float .f32 (shB k a b), .bool true] := by simp [shOut, h]
set_option maxHeartbeats 400000 in
theorem implShare_any (k a b : Int) (w : World) (hb : 0 ≤ b) :
    Calls Try.prog 29 #[.agg #[.int .i64 k, .int .u64 a, .int .u64 b]] w fun e w' => e = .returned (shOut k a b) ∧ Below w.heap.size w w' := by
  go_enter Try.func29, Try.ntmps29
  go_upto_region 1 with fail
  have hs := lies_start k a b w 29 29
  generalize ((w.alloc (Obj.cells #[.int .i64 k, .int .u64 a, .int .u64 b] 29)).alloc (Obj.cells #[.int .i64 0, .int .u64 0, .int .u64 0] 29)) = W at *
  generalize hB : w.heap.size = B at *
  generalize hR : B + 1 = R at *
  obtain ⟨p0, p1, p2, q0, q1, q2, hbl, hlo, hhi, how, hf0, hf1, hf2⟩ := id hs
  go_wp2_with (first
    | (go_at_call 22; refine (implValid_any k a b _ hb).mono ?_; rintro e w1 ⟨rfl, h1⟩; replace hs := hs.step h1 (by omega); clear p0 p1 p2 q0 q1 q2 hbl hlo hhi how hf0 hf1 hf2 h1; obtain ⟨p0, p1, p2, q0, q1, q2, hbl, hlo, hhi, how, hf0, hf1, hf2⟩ := id hs; cases hv : valB k a b)
    | (go_at_call 67; refine (share_any k a b _).mono ?_; rintro e w3 ⟨rfl, h3⟩; replace hs := hs.step h3 (by omega); clear p0 p1 p2 q0 q1 q2 hbl hlo hhi how hf0 hf1 hf2 h3; replace hs := hs.alloc (.cells #[.int .i64 k, .int .u64 (nxA k a b), .int .u64 (nxB k a b)] 29); obtain ⟨p0, p1, p2, q0, q1, q2, hbl, hlo, hhi, how, hf0, hf1, hf2⟩ := id hs))
  all_goals
    rw [hB]
    refine bodyPost_ret (v := shOut k a b) (by simp [results, Try.results29, go_sem, shOut, *]) rfl ⟨rfl, ?_⟩
    repeat (first | exact hbl | refine Below.setCell ?_ how _)
set_option maxHeartbeats 400000 in
theorem specShare_any (k a b : Int) (w : World) (hb : 0 ≤ b) :
    Calls Try.prog 28 #[.agg #[.int .i64 k, .int .u64 a, .int .u64 b]] w fun e w' => e = .returned (shOut k a b) ∧ Below w.heap.size w w' := by
  go_enter Try.func28, Try.ntmps28
  go_upto_region 1 with fail
  have hs := lies_start k a b w 29 29
  have hf := free_start k a b w 29 29
  generalize ((w.alloc (Obj.cells #[.int .i64 k, .int .u64 a, .int .u64 b] 29)).alloc (Obj.cells #[.int .i64 0, .int .u64 0, .int .u64 0] 29)) = W at *
  generalize hB : w.heap.size = B at *
  generalize hR : B + 1 = R at *
  obtain ⟨p0, p1, p2, q0, q1, q2, hbl, hlo, hhi, how, hf0, hf1, hf2⟩ := id hs
  have hwd := wd_range k a b
  go_wp2_with (first
    | (go_at_call 61; refine (l02Is_any B k a b _ hb ⟨p0, p1, p2⟩).mono ?_; rintro e w1 ⟨rfl, rfl⟩; cases hv : valB k a b)
    | (go_at_call 66; refine (l02Share_any B k a b _ ⟨p0, p1, p2⟩ hf).mono ?_; rintro e w3 ⟨rfl, h3⟩; replace hs := hs.moved h3 (Nat.le_refl _) (by omega); clear p0 p1 p2 q0 q1 q2 hbl hlo hhi how hf0 hf1 hf2 h3; obtain ⟨p0, p1, p2, q0, q1, q2, hbl, hlo, hhi, how, hf0, hf1, hf2⟩ := id hs))
  all_goals
    rw [hB]
    refine bodyPost_ret (v := shOut k a b) (by simp [results, Try.results28, go_sem, shOut, *]) rfl ⟨rfl, ?_⟩
    repeat (first | exact hbl | refine Below.setCell ?_ how _)
end Go.Proofs.Ytlaelfaalgmicaa
