/- What a seed's step is, and the contracts of both sides' step. -/
import Derived.Test.YtlaelfaalgmicaaSplit2C
import Derived.StillTailTactics
namespace Go.Proofs.Ytlaelfaalgmicaa
open Go.RowKit
set_option linter.unusedVariables false

def lineA (a b : Int) : Int := IntKind.u64.wrap (IntKind.u64.wrap (6364136223846793005 * a) + b)
def sh1 (a : Int) : Int := bits .xor .u64 a (IntKind.u64.wrap (a * 8192))
def sh2 (a : Int) : Int := bits .xor .u64 a (a / 128)
def sh3 (a : Int) : Int := bits .xor .u64 a (IntKind.u64.wrap (a * 131072))
def shW (a : Int) : Int := IntKind.u64.wrap (a * 2685821657736338717)
def cntA (a : Int) : Int := IntKind.u64.wrap (a + 11400714819323198485)
def cntW (a b : Int) : Int := mixZ (IntKind.u64.wrap (a + b))
def prW (a b : Int) : Int := IntKind.u64.wrap (a + b)
def prX (a b : Int) : Int := bits .xor .u64 b a
def rot24 (x : Int) : Int := bits .or .u64 (IntKind.u64.wrap (x * 16777216)) (x / 1099511627776)
def rot37 (x : Int) : Int := bits .or .u64 (IntKind.u64.wrap (x * 137438953472)) (x / 134217728)
def prA (a x : Int) : Int := bits .xor .u64 (bits .xor .u64 (rot24 a) x) (IntKind.u64.wrap (x * 65536))
/-- The step's A, B, and word. -/
def nxA (k a b : Int) : Int := if k = 0 then lineA a b else if k = 1 then sh3 (sh2 (sh1 a)) else if k = 2 then cntA a else prA a (prX a b)
def nxB (k a b : Int) : Int := if k = 0 ∨ k = 1 ∨ k = 2 then b else rot37 (prX a b)
def nxW (k a b : Int) : Int := if k = 0 then lineA a b else if k = 1 then shW (sh3 (sh2 (sh1 a))) else if k = 2 then cntW (cntA a) b else prW a b

/-- Block P alone may have been written: there lies a seed. -/
structure Moved (P : Nat) (k a b : Int) (w w' : World) : Prop where
  os : w'.os = w.os
  tape : w'.tape = w.tape
  output : w'.output = w.output
  size : w'.heap.size = w.heap.size
  oth : ∀ j, j ≠ P → w'.heap[j]? = w.heap[j]?
  p0 : w'.cell? ⟨P, 0, none⟩ = some (.int .i64 k)
  p1 : w'.cell? ⟨P, 1, none⟩ = some (.int .u64 a)
  p2 : w'.cell? ⟨P, 2, none⟩ = some (.int .u64 b)
  fr : Free3 w' P
theorem Moved.refl {P : Nat} {k a b : Int} {w : World} (h : SeedAt w P k a b) (hf : Free3 w P) : Moved P k a b w w := ⟨rfl, rfl, rfl, rfl, fun _ _ => rfl, h.1, h.2.1, h.2.2, hf⟩
theorem Moved.at {P : Nat} {k a b : Int} {w w' : World} (h : Moved P k a b w w') : SeedAt w' P k a b := ⟨h.p0, h.p1, h.p2⟩
theorem Moved.bel {P B : Nat} {k a b : Int} {w w' : World} (h : Moved P k a b w w') (hB : B ≤ P) : Below B w w' :=
  ⟨h.os, h.tape, h.output, Nat.le_of_eq h.size.symm, fun j hj => h.oth j (by omega)⟩
theorem Moved.trans {P : Nat} {k a b k' a' b' : Int} {w w' w1 : World} (h : Moved P k a b w w') (g : Moved P k' a' b' w' w1) : Moved P k' a' b' w w1 :=
  ⟨g.os.trans h.os, g.tape.trans h.tape, g.output.trans h.output, g.size.trans h.size, fun j hj => (g.oth j hj).trans (h.oth j hj), g.p0, g.p1, g.p2, g.fr⟩
theorem Moved.drew {P : Nat} {k a b : Int} {w w' : World} (h : Moved P k a b w w') : Moved P k a b w w'.drew := ⟨h.os, h.tape, h.output, h.size, h.oth, h.p0, h.p1, h.p2, h.fr⟩
theorem Moved.drewN {P : Nat} {k a b : Int} {w w' : World} (h : Moved P k a b w w') (n : Nat) : Moved P k a b w (w'.drewN n) := by
  induction n with
  | zero => exact h
  | succ n ih => exact ih.drew
theorem free3_set {w : World} {P : Nat} (h : Free3 w P) (p : Addr) (u : Value) : Free3 (w.setCell p u) P := by
  refine ⟨?_, ?_, ?_⟩ <;> simp [h.1, h.2.1, h.2.2]
theorem Moved.setA {P : Nat} {k a b : Int} {w w' : World} (h : Moved P k a b w w') (v : Int) : Moved P k v b w (w'.setCell ⟨P, 1, none⟩ (.int .u64 v)) :=
  ⟨h.os, h.tape, h.output, by simp [h.size], fun j hj => (Below.heap_setCell _ _ _ _ (by simpa using hj)).trans (h.oth j hj),
    (World.cell?_setCell_other _ _ _ _ (by simp)).trans h.p0, World.cell?_setCell_same _ _ _ h.p1, (World.cell?_setCell_other _ _ _ _ (by simp)).trans h.p2, free3_set h.fr _ _⟩
theorem Moved.setB {P : Nat} {k a b : Int} {w w' : World} (h : Moved P k a b w w') (v : Int) : Moved P k a v w (w'.setCell ⟨P, 2, none⟩ (.int .u64 v)) :=
  ⟨h.os, h.tape, h.output, by simp [h.size], fun j hj => (Below.heap_setCell _ _ _ _ (by simpa using hj)).trans (h.oth j hj),
    (World.cell?_setCell_other _ _ _ _ (by simp)).trans h.p0, (World.cell?_setCell_other _ _ _ _ (by simp)).trans h.p1, World.cell?_setCell_same _ _ _ h.p2, free3_set h.fr _ _⟩
theorem and24 : bits .and .u64 24 63 = 24 := by decide
theorem and37 : bits .and .u64 37 63 = 37 := by decide
attribute [local go_sem] and24 and37
theorem implRot24_any (x : Int) (w : World) : Calls Try.prog 85 #[.int .u64 x, .int .i64 24] w fun e w' => e = .returned (.int .u64 (rot24 x)) ∧ w = w' := by
  go_enter Try.func85, Try.ntmps85
  go_wp2
  go_ret
  exact ⟨rfl, rfl⟩
theorem implRot37_any (x : Int) (w : World) : Calls Try.prog 85 #[.int .u64 x, .int .i64 37] w fun e w' => e = .returned (.int .u64 (rot37 x)) ∧ w = w' := by
  go_enter Try.func85, Try.ntmps85
  go_wp2
  go_ret
  exact ⟨rfl, rfl⟩
theorem specRot24_any (x : Int) (w : World) : Calls Try.prog 84 #[.int .u64 x, .int .u64 24] w fun e w' => e = .returned (.int .u64 (rot24 x)) ∧ w = w' := by
  go_enter Try.func84, Try.ntmps84
  go_wp2
  go_ret
  exact ⟨rfl, rfl⟩
theorem specRot37_any (x : Int) (w : World) : Calls Try.prog 84 #[.int .u64 x, .int .u64 37] w fun e w' => e = .returned (.int .u64 (rot37 x)) ∧ w = w' := by
  go_enter Try.func84, Try.ntmps84
  go_wp2
  go_ret
  exact ⟨rfl, rfl⟩

set_option maxRecDepth 20000 in
set_option maxHeartbeats 800000 in
theorem l02Next_line (P : Nat) (a b : Int) (w : World) (h : SeedAt w P 0 a b) (hf : Free3 w P) :
    Calls Try.prog 64 #[.pointer (some ⟨P, 0, none⟩)] w fun e w' => e = .returned (.int .u32 (IntKind.u32.wrap (lineA a b / 4294967296))) ∧ Moved P 0 (lineA a b) b w w' := by
  have hm := Moved.refl h hf
  obtain ⟨p0, p1, p2⟩ := h
  go_enter Try.func64, Try.ntmps64
  go_upto_region 3 with fail
  go_cut [] (fun wx => Moved P 0 (lineA a b) b w wx)
  case first =>
    refine wp_region_still_tail 13 (by kernel_rfl) (by kernel_rfl) ?_
    simp only [List.take_succ_cons, List.take_zero, List.drop_succ_cons, List.drop_zero]
    iterate 13 still_step
    refine wpStill_nil ?_
    change wpList _ _ _ _ _ w.drew
    replace hm := hm.drew
    have ⟨f0, f1, f2⟩ := hm.fr
    have c0 := hm.p0
    have c1 := hm.p1
    have c2 := hm.p2
    go_wp2
    go_meet
    exact hm.setA _
  case rest =>
  have c0 := hcut.p0
  have c1 := hcut.p1
  have c2 := hcut.p2
  go_wp2
  go_ret
  exact ⟨rfl, hcut⟩
set_option maxRecDepth 20000 in
set_option maxHeartbeats 800000 in
theorem l02Next_shift (P : Nat) (a b : Int) (w : World) (h : SeedAt w P 1 a b) (hf : Free3 w P) :
    Calls Try.prog 64 #[.pointer (some ⟨P, 0, none⟩)] w fun e w' => e = .returned (.int .u32 (IntKind.u32.wrap (shW (sh3 (sh2 (sh1 a))) / 4294967296))) ∧ Moved P 1 (sh3 (sh2 (sh1 a))) b w w' := by
  have hm := Moved.refl h hf
  obtain ⟨p0, p1, p2⟩ := h
  go_enter Try.func64, Try.ntmps64
  go_upto_region 6 with fail
  go_cut [] (fun wx => Moved P 1 (sh1 a) b w wx)
  case first =>
    refine wp_region_still_tail 12 (by kernel_rfl) (by kernel_rfl) ?_
    simp only [List.take_succ_cons, List.take_zero, List.drop_succ_cons, List.drop_zero]
    iterate 12 still_step
    refine wpStill_nil ?_
    change wpList _ _ _ _ _ (World.drew _)
    replace hm := hm.drew
    have ⟨f0, f1, f2⟩ := hm.fr
    have c0 := hm.p0
    have c1 := hm.p1
    have c2 := hm.p2
    go_wp2
    go_meet
    exact hm.setA _
  case rest =>
  clear p0 p1 p2 hm
  have hm := hcut
  have p0 := hcut.p0
  have p1 := hcut.p1
  have p2 := hcut.p2
  clear hcut
  go_upto_region 7 with fail
  go_cut [] (fun wx => Moved P 1 (sh2 (sh1 a)) b w wx)
  case first =>
    refine wp_region_still_tail 12 (by kernel_rfl) (by kernel_rfl) ?_
    simp only [List.take_succ_cons, List.take_zero, List.drop_succ_cons, List.drop_zero]
    iterate 12 still_step
    refine wpStill_nil ?_
    change wpList _ _ _ _ _ (World.drew _)
    replace hm := hm.drew
    have ⟨f0, f1, f2⟩ := hm.fr
    have c0 := hm.p0
    have c1 := hm.p1
    have c2 := hm.p2
    go_wp2
    go_meet
    exact hm.setA _
  case rest =>
  clear p0 p1 p2 hm
  have hm := hcut
  have p0 := hcut.p0
  have p1 := hcut.p1
  have p2 := hcut.p2
  clear hcut
  go_upto_region 8 with fail
  go_cut [] (fun wx => Moved P 1 (sh3 (sh2 (sh1 a))) b w wx)
  case first =>
    refine wp_region_still_tail 12 (by kernel_rfl) (by kernel_rfl) ?_
    simp only [List.take_succ_cons, List.take_zero, List.drop_succ_cons, List.drop_zero]
    iterate 12 still_step
    refine wpStill_nil ?_
    change wpList _ _ _ _ _ (World.drew _)
    replace hm := hm.drew
    have ⟨f0, f1, f2⟩ := hm.fr
    have c0 := hm.p0
    have c1 := hm.p1
    have c2 := hm.p2
    go_wp2
    go_meet
    exact hm.setA _
  case rest =>
  clear p0 p1 p2 hm
  have hm := hcut
  have p0 := hcut.p0
  have p1 := hcut.p1
  have p2 := hcut.p2
  clear hcut
  go_wp2
  go_ret
  exact ⟨rfl, hm⟩
set_option maxRecDepth 20000 in
set_option maxHeartbeats 800000 in
theorem l02Next_count (P : Nat) (a b : Int) (w : World) (h : SeedAt w P 2 a b) (hf : Free3 w P) :
    Calls Try.prog 64 #[.pointer (some ⟨P, 0, none⟩)] w fun e w' => e = .returned (.int .u32 (IntKind.u32.wrap (cntW (cntA a) b / 4294967296))) ∧ Moved P 2 (cntA a) b w w' := by
  have hm := Moved.refl h hf
  obtain ⟨p0, p1, p2⟩ := h
  have ⟨f0, f1, f2⟩ := hm.fr
  go_enter Try.func64, Try.ntmps64
  go_upto_region 12 with fail
  replace hm : Moved P 2 (cntA a) b w _ := hm.setA (cntA a)
  rw [show IntKind.u64.wrap (a + 11400714819323198485) = cntA a from rfl]
  generalize w.setCell ⟨P, 1, none⟩ (Value.int IntKind.u64 (cntA a)) = W at *
  clear p0 p1 p2 f0 f1 f2
  have p0 := hm.p0
  have p1 := hm.p1
  have p2 := hm.p2
  go_quiet ((go_at_call 82; exact specMix_q _ _ _))
  go_wp2
  go_ret
  exact ⟨rfl, hm.drewN _⟩
set_option maxRecDepth 20000 in
set_option maxHeartbeats 800000 in
theorem l02Next_pair (P : Nat) (k a b : Int) (w : World) (h : SeedAt w P k a b) (hf : Free3 w P) (k0 : ¬ k = 0) (k1 : ¬ k = 1) (k2 : ¬ k = 2) :
    Calls Try.prog 64 #[.pointer (some ⟨P, 0, none⟩)] w fun e w' => e = .returned (.int .u32 (IntKind.u32.wrap (prW a b / 4294967296))) ∧ Moved P k (prA a (prX a b)) (rot37 (prX a b)) w w' := by
  have hm := Moved.refl h hf
  obtain ⟨p0, p1, p2⟩ := h
  go_enter Try.func64, Try.ntmps64
  go_upto_region 13 with fail
  go_cut [3] (fun s3 wx => s3 = .int .u32 (IntKind.u64.wrap (a + b) / 4294967296 % 4294967296) ∧ Moved P k a b w wx)
  case first =>
    go_quiet (fail)
    go_wp2_with fail
    go_meet
    exact ⟨rfl, hm.drewN _⟩
  case rest =>
  obtain ⟨rfl, hm⟩ := hcut
  clear p0 p1 p2
  have p0 := hm.p0
  have p1 := hm.p1
  have p2 := hm.p2
  go_upto_region 14 with fail
  go_cut [4] (fun s4 wx => s4 = .int .u64 (prX a b) ∧ Moved P k a b w wx)
  case first =>
    go_quiet (fail)
    go_wp2_with fail
    go_meet
    exact ⟨rfl, hm.drewN _⟩
  case rest =>
  clear p0 p1 p2 hm
  obtain ⟨rfl, hm⟩ := hcut
  have p0 := hm.p0
  have p1 := hm.p1
  have p2 := hm.p2
  have ⟨f0, f1, f2⟩ := hm.fr
  go_upto_region 16 with (first
    | (go_at_call 84; refine (specRot24_any _ _).mono ?_; rintro e w1 ⟨rfl, rfl⟩))
  replace hm : Moved P k (prA a (prX a b)) b w _ := hm.setA (prA a (prX a b))
  rw [show bits .xor .u64 (bits .xor .u64 (rot24 a) (prX a b)) (IntKind.u64.wrap (prX a b * 65536)) = prA a (prX a b) from rfl]
  generalize (World.setCell _ ⟨P, 1, none⟩ (Value.int IntKind.u64 (prA a (prX a b)))) = V at *
  clear p0 p1 p2 f0 f1 f2
  have p0 := hm.p0
  have p1 := hm.p1
  have p2 := hm.p2
  have ⟨f0, f1, f2⟩ := hm.fr
  have hw : IntKind.u64.wrap (a + b) / 4294967296 % 4294967296 = IntKind.u32.wrap (prW a b / 4294967296) := by simp only [prW]; simp [IntKind.wrap, IntKind.bits, IntKind.signed]
  rw [hw]
  clear hw
  go_wp2_with (first
    | (go_at_call 84; refine (specRot37_any _ _).mono ?_; rintro e w1 ⟨rfl, rfl⟩))
  go_ret
  exact ⟨rfl, hm.setB _⟩
set_option maxRecDepth 20000 in
set_option maxHeartbeats 800000 in
theorem next_line (a b : Int) (w : World) :
    Calls Try.prog 65 #[.agg #[.int .i64 0, .int .u64 a, .int .u64 b]] w fun e w' => e = .returned (.tuple #[.agg #[.int .i64 0, .int .u64 (lineA a b), .int .u64 (b)], .int .i64 (wrap64 (lineA a b / 4294967296))]) ∧ Below w.heap.size w w' := by
  go_enter Try.func65, Try.ntmps65
  go_wp2
  exact bodyPost_ret (v := .tuple #[.agg #[.int .i64 0, .int .u64 (lineA a b), .int .u64 (b)], .int .i64 (wrap64 (lineA a b / 4294967296))]) (by simp [results, Try.results65, go_sem, lineA]) rfl ⟨rfl, ((Below.refl _ _).alloc (Nat.le_refl _) _).alloc (by simp) _⟩
set_option maxRecDepth 20000 in
set_option maxHeartbeats 800000 in
theorem next_shift (a b : Int) (w : World) :
    Calls Try.prog 65 #[.agg #[.int .i64 1, .int .u64 a, .int .u64 b]] w fun e w' => e = .returned (.tuple #[.agg #[.int .i64 1, .int .u64 (sh3 (sh2 (sh1 a))), .int .u64 (b)], .int .i64 (wrap64 (shW (sh3 (sh2 (sh1 a))) / 4294967296))]) ∧ Below w.heap.size w w' := by
  go_enter Try.func65, Try.ntmps65
  go_wp2
  exact bodyPost_ret (v := .tuple #[.agg #[.int .i64 1, .int .u64 (sh3 (sh2 (sh1 a))), .int .u64 (b)], .int .i64 (wrap64 (shW (sh3 (sh2 (sh1 a))) / 4294967296))]) (by simp [results, Try.results65, go_sem, sh1, sh2, sh3, shW]) rfl ⟨rfl, ((Below.refl _ _).alloc (Nat.le_refl _) _).alloc (by simp) _⟩
set_option maxRecDepth 20000 in
set_option maxHeartbeats 800000 in
theorem next_count (a b : Int) (w : World) :
    Calls Try.prog 65 #[.agg #[.int .i64 2, .int .u64 a, .int .u64 b]] w fun e w' => e = .returned (.tuple #[.agg #[.int .i64 2, .int .u64 (cntA a), .int .u64 (b)], .int .i64 (wrap64 (cntW (cntA a) b / 4294967296))]) ∧ Below w.heap.size w w' := by
  go_enter Try.func65, Try.ntmps65
  go_wp2_with (first | (go_at_call 83; refine (implMix_any _ _).mono ?_; rintro e w1 ⟨rfl, rfl⟩))
  exact bodyPost_ret (v := .tuple #[.agg #[.int .i64 2, .int .u64 (cntA a), .int .u64 (b)], .int .i64 (wrap64 (cntW (cntA a) b / 4294967296))]) (by simp [results, Try.results65, go_sem, cntA, cntW]) rfl ⟨rfl, ((Below.refl _ _).alloc (Nat.le_refl _) _).alloc (by simp) _⟩
set_option maxRecDepth 20000 in
set_option maxHeartbeats 800000 in
theorem next_pair (k a b : Int) (w : World) (k0 : ¬ k = 0) (k1 : ¬ k = 1) (k2 : ¬ k = 2) :
    Calls Try.prog 65 #[.agg #[.int .i64 k, .int .u64 a, .int .u64 b]] w fun e w' => e = .returned (.tuple #[.agg #[.int .i64 k, .int .u64 (prA a (prX a b)), .int .u64 (rot37 (prX a b))], .int .i64 (wrap64 (prW a b / 4294967296))]) ∧ Below w.heap.size w w' := by
  go_enter Try.func65, Try.ntmps65
  go_upto_region 6 with (first | (go_at_call 85; refine (implRot24_any _ _).mono ?_; rintro e w1 ⟨rfl, rfl⟩))
  go_wp2_with (first | (go_at_call 85; refine (implRot37_any _ _).mono ?_; rintro e w1 ⟨rfl, rfl⟩))
  exact bodyPost_ret (v := .tuple #[.agg #[.int .i64 k, .int .u64 (prA a (prX a b)), .int .u64 (rot37 (prX a b))], .int .i64 (wrap64 (prW a b / 4294967296))]) (by simp [results, Try.results65, go_sem, prW, prX, prA]) rfl ⟨rfl, ((Below.refl _ _).alloc (Nat.le_refl _) _).alloc (by simp) _⟩
end Go.Proofs.Ytlaelfaalgmicaa
