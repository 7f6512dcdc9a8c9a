/- Drawing below a bound: both sides. -/
import Derived.Test.YtlaelfaalgmicaaNext2C
namespace Go.Proofs.Ytlaelfaalgmicaa
open Go.RowKit
set_option linter.unusedVariables false

/-- So many tries: the seed then, the number, whether it was found. -/
def bel (q n k : Int) : Nat → Int → Int → Int × Int × Int × Bool
  | 0, a, b => (a, b, 0, false)
  | m + 1, a, b => if wd k a b < q then (nxA k a b, nxB k a b, wd k a b % n, true) else bel q n k m (nxA k a b) (nxB k a b)
theorem bel_hit (q n k : Int) (m : Nat) (a b : Int) (h : wd k a b < q) : bel q n k (m + 1) a b = (nxA k a b, nxB k a b, wd k a b % n, true) := by simp [bel, h]
theorem bel_miss (q n k : Int) (m : Nat) (a b : Int) (h : ¬ wd k a b < q) : bel q n k (m + 1) a b = bel q n k m (nxA k a b) (nxB k a b) := by simp [bel, h]
theorem Moved.start {P : Nat} {k a b : Int} {w : World} (h : SeedAt w P k a b) (hf : Free3 w P) : Moved P k a b w w := Moved.refl h hf
def mostOf (n : Int) : Int := 4294967296 / n * n
theorem most_range (n : Int) (h1 : 1 ≤ n) : 0 ≤ mostOf n ∧ mostOf n ≤ 4294967296 := by
  unfold mostOf
  exact ⟨Int.mul_nonneg (Int.ediv_nonneg (by omega) (by omega)) (by omega), Int.ediv_mul_le _ (by omega)⟩
set_option maxHeartbeats 800000 in
theorem l02Tried_any (P : Nat) (n q k a b : Int) (w : World) (h : SeedAt w P k a b) (hf : Free3 w P) (h1 : 1 ≤ n) (h2 : n ≤ 4294967296) (hq0 : mostOf n = q) :
    Calls Try.prog 68 #[.pointer (some ⟨P, 0, none⟩), .int .i64 n] w fun e w' => e = .returned (.tuple #[.int .i64 (bel q n k 64 a b).2.2.1, .bool (bel q n k 64 a b).2.2.2]) ∧ Moved P k (bel q n k 64 a b).1 (bel q n k 64 a b).2.1 w w' := by
  have hm := Moved.refl h hf
  clear h hf
  have hn0 : n ≠ 0 := by omega
  have hn1 : ¬ n = 0 := hn0
  go_enter Try.func68, Try.ntmps68
  go_upto_region 2 with fail
  have hr := most_range n h1
  have hq : wrap64 (4294967296 / n * n) = mostOf n := by unfold mostOf at *; simp only [wrap64]; omega
  rw [hq, hq0]
  rw [hq0] at hr
  clear hq hq0
  go_upto_region 3 with fail
  go_loopw [7, 8] (fun i _ wr => ∃ (j : Nat) (a' b' : Int), j ≤ 64 ∧ i = .int .i64 j ∧ Moved P k a' b' w wr ∧ bel q n k (64 - j) a' b' = bel q n k 64 a b) (fun i _ _ => 64 - (intOf i).toNat)
  case atStart => exact ⟨0, a, b, Nat.zero_le _, rfl, hm, rfl⟩
  case round =>
    obtain ⟨j, a', b', hj, rfl, hM, hbel⟩ := hrel
    have HB := Lib.hid hbel
    clear hbel hm
    have hwd := wd_range k a' b'
    by_cases hlt : j < 64
    · obtain ⟨m, hm⟩ : ∃ m, 64 - j = m + 1 := ⟨63 - j, by omega⟩
      have hm' : 64 - (j + 1) = m := by omega
      cases ht : decide (wd k a' b' < q)
      · have hb : bel q n k 64 a b = bel q n k m (nxA k a' b') (nxB k a' b') := by rw [← HB.out, hm]; exact bel_miss _ _ _ _ _ _ (by simpa using ht)
        have HB' := Lib.hid hb
        clear hb
        go_wp2_with (first
          | (go_at_call 64; refine (l02Next_wd P k a' b' _ hM.at hM.fr).mono ?_; rintro e w3 ⟨rfl, h3⟩))
        exact ⟨⟨j + 1, _, _, by omega, by go_num, hM.trans h3, by rw [hm', HB'.out]⟩, by simp [intOf]; omega⟩
      · have hb : bel q n k 64 a b = (nxA k a' b', nxB k a' b', wd k a' b' % n, true) := by rw [← HB.out, hm]; exact bel_hit _ _ _ _ _ _ (by simpa using ht)
        have HB' := Lib.hid hb
        clear hb
        go_wp2_with (first
          | (go_at_call 64; refine (l02Next_wd P k a' b' _ hM.at hM.fr).mono ?_; rintro e w3 ⟨rfl, h3⟩))
        rw [HB'.out]
        go_ret2
        exact ⟨rfl, hM.trans h3⟩
    · obtain rfl : j = 64 := by omega
      have hb : bel q n k 64 a b = (a', b', 0, false) := HB.out.symm
      go_wp2
      rw [hb]
      go_ret2
      exact ⟨rfl, hM⟩
/-- What BelowSeed returns. -/
def beOut (k a b n : Int) : Value := if (valB k a b && inB n 1 4294967296 && (bel (mostOf n) n k 64 a b).2.2.2) = true then .tuple #[.agg #[.int .i64 k, .int .u64 (bel (mostOf n) n k 64 a b).1, .int .u64 (bel (mostOf n) n k 64 a b).2.1], .int .i64 (bel (mostOf n) n k 64 a b).2.2.1, .bool true] else .tuple #[.agg #[.int .i64 0, .int .u64 0, .int .u64 0], .int .i64 0, .bool false]
theorem inB_true {n lo hi : Int} (h : inB n lo hi = true) : lo ≤ n ∧ n ≤ hi := by simpa [inB] using h
theorem beOut_true (k a b n : Int) (h : (valB k a b && inB n 1 4294967296 && (bel (mostOf n) n k 64 a b).2.2.2) = true) : beOut k a b n = .tuple #[.agg #[.int .i64 k, .int .u64 (bel (mostOf n) n k 64 a b).1, .int .u64 (bel (mostOf n) n k 64 a b).2.1], .int .i64 (bel (mostOf n) n k 64 a b).2.2.1, .bool true] := by
  unfold beOut; rw [if_pos h]
theorem beOut_false (k a b n : Int) (h : (valB k a b && inB n 1 4294967296 && (bel (mostOf n) n k 64 a b).2.2.2) = false) : beOut k a b n = .tuple #[.agg #[.int .i64 0, .int .u64 0, .int .u64 0], .int .i64 0, .bool false] := by
  unfold beOut; rw [if_neg (by rw [h]; decide)]
set_option maxHeartbeats 800000 in
theorem specBelow_any (k a b n : Int) (w : World) (hb : 0 ≤ b) :
    Calls Try.prog 31 #[.agg #[.int .i64 k, .int .u64 a, .int .u64 b], .int .i64 n] w fun e w' => e = .returned (beOut k a b n) ∧ Below w.heap.size w w' := by
  generalize ho : beOut k a b n = out
  unfold beOut at ho
  have ct := fun (P : Nat) (w0 : World) (h : SeedAt w0 P k a b) (hf : Free3 w0 P) (h1 : 1 ≤ n) (h2 : n ≤ 4294967296) => l02Tried_any P n _ k a b w0 h hf h1 h2 rfl
  generalize bel (mostOf n) n k 64 a b = r at *
  obtain ⟨A, B', x, f⟩ := r
  dsimp only at ct ho
  go_enter Try.func31, Try.ntmps31
  go_upto_region 1 with fail
  have hs := lies_start k a b w 29 29
  have hf := free_start k a b w 29 29
  generalize ((w.alloc (Obj.cells #[.int .i64 k, .int .u64 a, .int .u64 b] 29)).alloc (Obj.cells #[.int .i64 0, .int .u64 0, .int .u64 0] 29)) = W at *
  generalize hB : w.heap.size = B at *
  generalize hR : B + 1 = R at *
  obtain ⟨p0, p1, p2, q0, q1, q2, hbl, hlo, hhi, how, hf0, hf1, hf2⟩ := id hs
  go_wp2_with (first
    | (go_at_call 61; refine (l02Is_any B k a b _ hb ⟨p0, p1, p2⟩).mono ?_; rintro e w1 ⟨rfl, rfl⟩; cases hv : valB k a b)
    | (go_at_call 59; refine (l00In_any n 1 4294967296 _).mono ?_; rintro e w2 ⟨rfl, rfl⟩; cases hi : inB n 1 4294967296)
    | (go_at_call 68; refine (ct B _ ⟨p0, p1, p2⟩ hf (inB_true hi).1 (inB_true hi).2).mono ?_; rintro e w3 ⟨rfl, h3⟩; replace hs := hs.moved h3 (Nat.le_refl _) (by omega); clear p0 p1 p2 q0 q1 q2 hbl hlo hhi how hf0 hf1 hf2 h3; obtain ⟨p0, p1, p2, q0, q1, q2, hbl, hlo, hhi, how, hf0, hf1, hf2⟩ := id hs; cases f))
  all_goals
    clear ct
    rw [hB]
    subst ho
    refine bodyPost_ret (by simp [results, Try.results31, go_sem, *]) rfl ⟨rfl, ?_⟩
    repeat (first | exact hbl | refine Below.setCell ?_ how _)
theorem Moved.setK {P : Nat} {k a b : Int} {w w' : World} (h : Moved P k a b w w') : Moved P k a b w (w'.setCell ⟨P, 0, none⟩ (.int .i64 k)) :=
  ⟨h.os, h.tape, h.output, by simp [h.size], fun j hj => (Below.heap_setCell _ _ _ _ (by simpa using hj)).trans (h.oth j hj),
    World.cell?_setCell_same _ _ _ h.p0, (World.cell?_setCell_other _ _ _ _ (by simp)).trans h.p1, (World.cell?_setCell_other _ _ _ _ (by simp)).trans h.p2, free3_set h.fr _ _⟩
theorem free3_step {w w1 : World} {P : Nat} (h : Free3 w P) (hb : Below w.heap.size w w1) (hP : P < w.heap.size) : Free3 w1 P :=
  have z := (bcell hb).2
  ⟨(z _ _ hP).trans h.1, (z _ _ hP).trans h.2.1, (z _ _ hP).trans h.2.2⟩
set_option maxHeartbeats 1600000 in
theorem implBelow_any (k a b n : Int) (w : World) (hb : 0 ≤ b) :
    Calls Try.prog 32 #[.agg #[.int .i64 k, .int .u64 a, .int .u64 b], .int .i64 n] w fun e w' => e = .returned (beOut k a b n) ∧ Below w.heap.size w w' := by
  generalize ho : beOut k a b n = out
  unfold beOut at ho
  go_enter Try.func32, Try.ntmps32
  go_upto_region 1 with fail
  have hs := lies_start k a b w 29 29
  have hf := free_start k a b w 29 29
  generalize ((w.alloc (Obj.cells #[.int .i64 k, .int .u64 a, .int .u64 b] 29)).alloc (Obj.cells #[.int .i64 0, .int .u64 0, .int .u64 0] 29)) = W at *
  generalize hB : w.heap.size = B at *
  generalize hR : B + 1 = R at *
  obtain ⟨p0, p1, p2, q0, q1, q2, hbl, hlo, hhi, how, hf0, hf1, hf2⟩ := id hs
  go_upto_region 3 with (first
    | (go_at_call 22; refine (implValid_any k a b _ hb).mono ?_; rintro e w1 ⟨rfl, h1⟩; replace hf := free3_step hf h1 hlo; replace hs := hs.step h1 (by omega); clear p0 p1 p2 q0 q1 q2 hbl hlo hhi how hf0 hf1 hf2 h1; obtain ⟨p0, p1, p2, q0, q1, q2, hbl, hlo, hhi, how, hf0, hf1, hf2⟩ := id hs; cases hv : valB k a b)
    | (go_at_call 60; refine (within_any n 1 4294967296 _).mono ?_; rintro e w2 ⟨rfl, rfl⟩; cases hi : inB n 1 4294967296))
  · skip
    rw [hB]
    subst ho
    refine bodyPost_ret (by simp [results, Try.results32, go_sem, *]) rfl ⟨rfl, ?_⟩
    repeat (first | exact hbl | refine Below.setCell ?_ how _)
  · skip
    rw [hB]
    subst ho
    refine bodyPost_ret (by simp [results, Try.results32, go_sem, *]) rfl ⟨rfl, ?_⟩
    repeat (first | exact hbl | refine Below.setCell ?_ how _)
  obtain ⟨h1, h2⟩ := inB_true hi
  have hr := most_range n h1
  have hq : wrap64 (4294967296 / n * n) = mostOf n := by unfold mostOf at *; simp only [wrap64]; omega
  generalize hm0 : mostOf n = q at *
  simp only [hv, hi, Bool.true_and] at ho
  have hn0 : n ≠ 0 := by omega
  have hn1 : ¬ n = 0 := hn0
  go_upto_region 4 with fail
  go_loopw [7, 8, 18] (fun _ _ i wr => ∃ (j : Nat) (a' b' : Int), j ≤ 64 ∧ i = .int .i64 j ∧ Lies k a' b' w B B R wr ∧ Free3 wr B ∧ bel q n k (64 - j) a' b' = bel q n k 64 a b) (fun _ _ i _ => 64 - (intOf i).toNat)
  case atStart => exact ⟨0, a, b, Nat.zero_le _, rfl, hs, hf, rfl⟩
  case round =>
    clear hs hf p0 p1 p2 q0 q1 q2 hbl hlo hhi how hf0 hf1 hf2
    obtain ⟨j, a', b', hj, rfl, hs, hf, hbel⟩ := hrel
    have HB := Lib.hid hbel
    clear hbel
    have HO := Lib.hid ho
    clear ho
    have hwd := wd_range k a' b'
    obtain ⟨p0, p1, p2, q0, q1, q2, hbl, hlo, hhi, how, hf0, hf1, hf2⟩ := id hs
    by_cases hlt : j < 64
    · obtain ⟨m, hm⟩ : ∃ m, 64 - j = m + 1 := ⟨63 - j, by omega⟩
      have hm' : 64 - (j + 1) = m := by omega
      cases ht : decide (wd k a' b' < q)
      · have hb : bel q n k 64 a b = bel q n k m (nxA k a' b') (nxB k a' b') := by rw [← HB.out, hm]; exact bel_miss _ _ _ _ _ _ (by simpa using ht)
        have HB' := Lib.hid hb
        clear hb
        go_wp2_with (first
          | (go_at_call 65; refine (next_wd k a' b' _).mono ?_; rintro e w3 ⟨rfl, h3⟩; replace hf := free3_step hf h3 hlo; replace hs := hs.step h3 (by omega); clear p0 p1 p2 q0 q1 q2 hbl hlo hhi how hf0 hf1 hf2 h3; replace hf := free3_alloc hf hs.lo (.cells #[.int .i64 k, .int .u64 (nxA k a' b'), .int .u64 (nxB k a' b')] 29); replace hs := hs.alloc (.cells #[.int .i64 k, .int .u64 (nxA k a' b'), .int .u64 (nxB k a' b')] 29); obtain ⟨p0, p1, p2, q0, q1, q2, hbl, hlo, hhi, how, hf0, hf1, hf2⟩ := id hs; obtain ⟨g0, g1, g2⟩ := id hf))
        have hM := (((Moved.refl ⟨p0, p1, p2⟩ hf).setK).setA (nxA k a' b')).setB (nxB k a' b')
        exact ⟨⟨j + 1, _, _, by omega, by go_num, hs.moved hM (Nat.le_refl _) (by omega), hM.fr, by rw [hm', HB'.out]⟩, by simp [intOf]; omega⟩
      · have hb : bel q n k 64 a b = (nxA k a' b', nxB k a' b', wd k a' b' % n, true) := by rw [← HB.out, hm]; exact bel_hit _ _ _ _ _ _ (by simpa using ht)
        have HB' := Lib.hid hb
        clear hb
        go_upto_region 8 with (first
          | (go_at_call 65; refine (next_wd k a' b' _).mono ?_; rintro e w3 ⟨rfl, h3⟩; replace hf := free3_step hf h3 hlo; replace hs := hs.step h3 (by omega); clear p0 p1 p2 q0 q1 q2 hbl hlo hhi how hf0 hf1 hf2 h3; replace hf := free3_alloc hf hs.lo (.cells #[.int .i64 k, .int .u64 (nxA k a' b'), .int .u64 (nxB k a' b')] 29); replace hs := hs.alloc (.cells #[.int .i64 k, .int .u64 (nxA k a' b'), .int .u64 (nxB k a' b')] 29); obtain ⟨p0, p1, p2, q0, q1, q2, hbl, hlo, hhi, how, hf0, hf1, hf2⟩ := id hs; obtain ⟨g0, g1, g2⟩ := id hf))
        have hM := (((Moved.refl ⟨p0, p1, p2⟩ hf).setK).setA (nxA k a' b')).setB (nxB k a' b')
        replace hs := hs.moved hM (Nat.le_refl _) (by omega)
        generalize (((w3.alloc (.cells #[.int .i64 k, .int .u64 (nxA k a' b'), .int .u64 (nxB k a' b')] 29)).setCell ⟨B, 0, none⟩ (.int .i64 k)).setCell ⟨B, 1, none⟩ (.int .u64 (nxA k a' b'))).setCell ⟨B, 2, none⟩ (.int .u64 (nxB k a' b')) = V at *
        generalize w3.heap.size = Z at *
        clear p0 p1 p2 q0 q1 q2 hbl hlo hhi how hf0 hf1 hf2 g0 g1 g2 hf hM
        obtain ⟨p0, p1, p2, q0, q1, q2, hbl, hlo, hhi, how, hf0, hf1, hf2⟩ := id hs
        have ho := HO.out
        rw [HB'.out] at ho
        clear HO HB HB'
        go_region
        go_wp2
        all_goals
          subst ho
          refine bodyPost_ret (by simp [results, Try.results32, go_sem, *]) rfl ⟨rfl, ?_⟩
          repeat (first | exact hbl | refine Below.drew ?_ | refine Below.setCell ?_ how _)
    · obtain rfl : j = 64 := by omega
      have hb : bel q n k 64 a b = (a', b', 0, false) := HB.out.symm
      go_wp2
      have ho := HO.out
      rw [hb] at ho
      rw [hB]
      subst ho
      refine bodyPost_ret (by simp [results, Try.results32, go_sem, *]) rfl ⟨rfl, ?_⟩
      repeat (first | exact hbl | refine Below.setCell ?_ how _)
end Go.Proofs.Ytlaelfaalgmicaa
