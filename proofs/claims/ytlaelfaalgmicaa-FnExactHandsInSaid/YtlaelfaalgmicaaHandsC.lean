/- HandsIn: both sides count the kinds of hands. -/
import Derived.Test.YtlaelfaalgmicaaHandC
namespace Go.Proofs.Ytlaelfaalgmicaa
open Go.RowKit
set_option linter.unusedVariables false
theorem specHands_out (a : Option Addr) (n cap : Nat) (z : Nat → Int) (w : World) (h : IEls w a n cap z) (hn : n ≤ 1048576) (hA : areW z n = false) :
    Calls Try.prog 53 #[.slice a n cap] w (OutS 0 false (kI fun _ => 0) w) := by
  go_enter Try.func53, Try.ntmps53
  go_wp2_with (go_at_call 71; refine (l02Are_any _ _ _ z _ h hn).mono ?_; rintro e w' ⟨rfl, rfl⟩)
  go_ret2
  exact .fail (Below.refl _ _) rfl
theorem implHands_out (a : Option Addr) (n cap : Nat) (z : Nat → Int) (w : World) (h : IEls w a n cap z) (hn : n ≤ 1048576) (hA : areW z n = false) :
    Calls Try.prog 54 #[.slice a n cap] w (OutS 0 false (kI fun _ => 0) w) := by
  go_enter Try.func54, Try.ntmps54
  go_wp2_with (go_at_call 40; refine (implAre_any _ _ _ z _ h hn).mono ?_; rintro e w' ⟨rfl, rfl⟩)
  go_ret2
  exact .fail (Below.refl _ _) rfl
set_option maxRecDepth 100000 in
set_option maxHeartbeats 2000000 in
theorem implHands_in (a : Option Addr) (lo hi n cap : Nat) (z : Nat → Int) (w : World) (h : SIn w lo hi a n cap (kI z)) (hn : n ≤ 1048576) (hA : areW z n = true) :
    Calls Try.prog 54 #[.slice a n cap] w (OutS 7 true (kI (hcs z (n / 5))) w) := by
  have hh := h.ints
  obtain ⟨hn1, hn2, hw⟩ := areW_of hA
  have hmk : ∀ w, (Instr.makeSlice 44 (.int .i64 7) (.int .i64 7)).run Try.prog w = .ok (.slice (some ⟨w.heap.size, 0, none⟩) 7 7) (w.alloc (.cells (madeCells #[.int .i64 0] 7) 2)) := fun w => run_make_row' (P := Try.prog) 44 2 (.int .i64 0) 8 Try.underlying44 (by kernel_rfl) rfl .i64 .i64 7 (by omega) (by omega) w
  obtain ⟨i0, hi, hz0, hz1, hz2⟩ := info_parts infoInt
  rcases h.ints with h0 | ⟨b, off, rfl, h1, h2, h3, h4⟩
  · omega
  clear h
  unfold maxLen at h2
  have hh4 := Lib.hid h4
  have hw4 := Lib.hid hw
  clear h4 hw
  have HI := Lib.hid hi
  have HZ := Lib.hid (And.intro hz0 (And.intro hz1 hz2))
  clear hi hz0 hz1 hz2
  go_enter Try.func54, Try.ntmps54
  go_upto_region 4 with (go_at_call 40; refine (implAre_any _ _ _ z _ hh hn).mono ?_; rintro e w' ⟨rfl, rfl⟩)
  have hF := Counts.start w 7 2
  have hsz : (w.alloc (.cells (madeCells #[.int .i64 0] 7) 2)).heap.size = w.heap.size + 1 := by simp
  have hG0 := Grow.start (B := w.heap.size + 1) (e := 2) (kI (hand z 0)) hF.bel (Nat.le_succ _) (Nat.le_of_eq hsz.symm)
  rw [hsz] at hG0
  have hF0 := hF.later ((Below.refl _ _).alloc (Nat.le_refl _) (.cells #[] 2))
  clear hsz hF hmk
  generalize (w.alloc (.cells (madeCells #[.int .i64 0] 7) 2)).alloc (.cells #[] 2) = W at *
  go_wp2
  go_loopw [5, 15] (fun v i wr => ∃ j q t : Nat, j ≤ n ∧ i = .int .i64 j ∧ t < 5 ∧ Hid (j = 5 * q + t) ∧ Grow (w.heap.size + 1) w 2 v t (kI (hand z q)) wr ∧ Counts w 7 (hcs z q) wr) (fun _ i _ => n - (intOf i).toNat)
  case atStart => exact ⟨0, 0, 0, Nat.zero_le _, rfl, by omega, Lib.hid rfl, hG0, hF0⟩
  case round =>
    obtain ⟨j, q, t, hj, rfl, ht, hjq, hG, hC⟩ := hrel
    clear hG0 hF0
    by_cases hlt : j < n
    · have hc : wr.cell? ⟨b, off + j, none⟩ = some (.int .i64 (z j)) := by rw [hC.bel.cell h3]; exact hh4.out j hlt
      obtain ⟨z0, z1⟩ := hw4.out j hlt
      have HD := Lib.hid (show kI (hand z q) t = .int .i64 (z j / 429496730) by rw [hjq.out]; rfl)
      have hq5 : q ≤ 256 := by have := hjq.out; omega
      go_wp2_with (at_builtin; refine wpList_append_own _ rfl _ _ 44 rfl (w.heap.size + 1) 2 i0 (.int .i64 0) 1 8 Try.underlying44 HI.out HZ.out.1 HZ.out.2.1 HZ.out.2.2 rfl (by decide) _ _ _ rfl (hG.own.alloc _) ⟨wr.heap.size, 0, none⟩ 1 1 [.int .i64 (z j / 429496730)] rfl rfl ?c1 ?c2 ?c3 ?c4 ?c5 ?_)
      case c1 => exact cell_one_new _ _ _
      case c2 => intro u hu; simp at hu; subst hu; rfl
      case c3 => unfold maxLen; omega
      case c4 => omega
      case c5 => have := hG.hi; simp; omega
      intro v' w1 hown' hgrow _
      rw [← HD.out] at hown'
      have R := hG.step hown' hgrow
      have K := grown_keeps hG hgrow
      have C1 : Counts w 7 (hcs z q) w1 := hC.kept K (Nat.lt_succ_self _)
      clear hown' hgrow hG hc hC K
      obtain ⟨a', cap', rfl, hN⟩ := R.form
      by_cases h5 : t = 4
      · subst h5
        have hE := hN.own.sin.ints
        have hDg : ∀ i, i < 4 + 1 → 0 ≤ hand z q i ∧ hand z q i ≤ 9 := fun i hi => by
          have := hw4.out (5 * q + i) (by have := hjq.out; omega)
          unfold hand
          omega
        obtain ⟨k0, k6⟩ := hk_range z q
        have hq := C1.cell (hk z q).toNat (by omega)
        have hf := C1.free (hk z q).toNat
        obtain ⟨r0, r1⟩ := hcs_range z q (hk z q).toNat
        have CK : ∀ w, IEls w a' (4 + 1) cap' (hand z q) → Calls Try.prog 75 #[.slice a' (4 + 1) cap'] w fun e w' => e = .returned (.int .i64 (hk z q)) ∧ w = w' := fun w h => handKind_any a' 5 cap' (hand z q) w h (by omega) hDg
        have CK := Lib.hid CK
        have HE := Lib.hid hE
        clear hDg hE
        go_wp2_with (go_at_call 75; refine (CK.out _ HE.out).mono ?_; rintro e w' ⟨rfl, rfl⟩)
        have X := C1.hit (hk z q).toNat
        rw [← hcs_succ] at X
        exact ⟨⟨j + 1, q + 1, 0, by omega, by go_num, by omega, Lib.hid (by have := hjq.out; omega), Grow.nil _ X.bel (Nat.le_succ _) X.size, X⟩, by simp [intOf]; omega⟩
      · have t5 : ((t : Int) + 1 == 5) = false := by simp; omega
        have RR := Lib.hid R
        have NN := Lib.hid hN
        clear R hN
        go_wp2
        exact ⟨⟨j + 1, q, t + 1, by omega, by go_num, by omega, Lib.hid (by have := hjq.out; omega), RR.out, C1⟩, by simp [intOf]; omega⟩
    · have hN := Lib.hid (show q = n / 5 by have := hjq.out; omega)
      have HC := Lib.hid hC
      clear hC hG
      go_wp2
      go_ret2
      exact outC (by rw [← hN.out]; exact HC.out) (by unfold maxLen; omega) rfl
set_option maxRecDepth 100000 in
set_option maxHeartbeats 2000000 in
theorem specHands_in (a : Option Addr) (lo hi n cap : Nat) (z : Nat → Int) (w : World) (h : SIn w lo hi a n cap (kI z)) (hn : n ≤ 1048576) (hA : areW z n = true) :
    Calls Try.prog 53 #[.slice a n cap] w (OutS 7 true (kI (hcs z (n / 5))) w) := by
  have hh := h.ints
  obtain ⟨hn1, hn2, hw⟩ := areW_of hA
  have hmk : ∀ w, (Instr.makeSlice 44 (.int .i64 7) (.int .i64 7)).run Try.prog w = .ok (.slice (some ⟨w.heap.size, 0, none⟩) 7 7) (w.alloc (.cells (madeCells #[.int .i64 0] 7) 2)) := fun w => run_make_row' (P := Try.prog) 44 2 (.int .i64 0) 8 Try.underlying44 (by kernel_rfl) rfl .i64 .i64 7 (by omega) (by omega) w
  obtain ⟨i0, hi, hz0, hz1, hz2⟩ := info_parts infoInt
  rcases h.ints with h0 | ⟨b, off, rfl, h1, h2, h3, h4⟩
  · omega
  clear h
  unfold maxLen at h2
  have hh4 := Lib.hid h4
  have hw4 := Lib.hid hw
  clear h4 hw
  have HI := Lib.hid hi
  have HZ := Lib.hid (And.intro hz0 (And.intro hz1 hz2))
  clear hi hz0 hz1 hz2
  go_enter Try.func53, Try.ntmps53
  go_upto_region 4 with (go_at_call 71; refine (l02Are_any _ _ _ z _ hh hn).mono ?_; rintro e w' ⟨rfl, rfl⟩)
  have hF := Counts.start w 7 2
  generalize w.alloc (.cells (madeCells #[.int .i64 0] 7) 2) = W at *
  clear hmk
  go_wp2
  go_loopw [5] (fun i wr => ∃ j q : Nat, j ≤ n ∧ i = .int .i64 j ∧ Hid (j = 5 * q) ∧ Counts w 7 (hcs z q) wr) (fun i _ => n - (intOf i).toNat)
  case atStart => exact ⟨0, 0, Nat.zero_le _, rfl, Lib.hid rfl, hF⟩
  case round =>
    obtain ⟨j, q, hj, rfl, hjq, hC⟩ := hrel
    clear hF
    obtain ⟨wo, rfl⟩ : ∃ wo : World, wo = wr := ⟨_, rfl⟩
    have hq5 : q ≤ 256 := by have := hjq.out; omega
    by_cases hlt : j + 5 ≤ n
    · have hG0 := Grow.start (B := w.heap.size + 1) (e := 2) (kI (hand z q)) hC.bel (Nat.le_succ _) hC.size
      have hC0 := hC.later ((Below.refl _ _).alloc (Nat.le_refl _) (.cells #[] 2))
      clear hC
      have hle : decide ((j : Int) + 5 ≤ (n : Int)) = true := by rw [decide_eq_true_eq]; omega
      go_upto_region 8 with fail
      clear hle
      generalize wo.alloc (.cells #[] 2) = W1 at *
      generalize wo.heap.size = s1 at *
      go_wp2
      go_loopw [6, 7] (fun v i wr => ∃ t : Nat, t ≤ 5 ∧ i = .int .i64 ((j + t : Nat) : Int) ∧ Grow (w.heap.size + 1) w 2 v t (kI (hand z q)) wr ∧ Counts w 7 (hcs z q) wr) (fun _ i _ => j + 5 - (intOf i).toNat)
      case atStart => exact ⟨0, Nat.zero_le _, rfl, hG0, hC0⟩
      case round =>
        obtain ⟨t, ht, rfl, hG, hC⟩ := hrel
        clear hG0 hC0
        by_cases h5 : t < 5
        · have hc : wr.cell? ⟨b, off + (j + t), none⟩ = some (.int .i64 (z (j + t))) := by rw [hC.bel.cell h3]; exact hh4.out (j + t) (by omega)
          obtain ⟨z0, z1⟩ := hw4.out (j + t) (by omega)
          have HD := Lib.hid (show kI (hand z q) t = .int .i64 (z (j + t) / 429496730) by rw [hjq.out]; rfl)
          obtain ⟨x, hx⟩ : ∃ x : Nat, x = j + t := ⟨_, rfl⟩
          rw [← hx] at hc z0 z1 HD ⊢
          have HX := Lib.hid hx
          have x1 : x < j + 5 := by omega
          have x2 : j ≤ x := by omega
          clear hx
          go_wp2_with (at_builtin; refine wpList_append_own _ rfl _ _ 44 rfl (w.heap.size + 1) 2 i0 (.int .i64 0) 1 8 Try.underlying44 HI.out HZ.out.1 HZ.out.2.1 HZ.out.2.2 rfl (by decide) _ _ _ rfl (hG.own.alloc _) ⟨wr.heap.size, 0, none⟩ 1 1 [.int .i64 (z x / 429496730)] rfl rfl ?c1 ?c2 ?c3 ?c4 ?c5 ?_)
          case c1 => exact cell_one_new _ _ _
          case c2 => intro u hu; simp at hu; subst hu; rfl
          case c3 => unfold maxLen; omega
          case c4 => omega
          case c5 => have := hG.hi; simp; omega
          intro v' w1 hown' hgrow _
          rw [← HD.out] at hown'
          have R := hG.step hown' hgrow
          have K := grown_keeps hG hgrow
          have C1 : Counts w 7 (hcs z q) w1 := hC.kept K (Nat.lt_succ_self _)
          clear hown' hgrow hG hc hC K
          go_wp2
          exact ⟨⟨t + 1, by omega, (by rw [HX.out]; go_num), R, C1⟩, by simp [intOf]; omega⟩
        · obtain rfl : t = 5 := by omega
          obtain ⟨a', cap', rfl, hN⟩ := hG.form
          have hE := hN.own.sin.ints
          have hDg : ∀ i, i < 5 → 0 ≤ hand z q i ∧ hand z q i ≤ 9 := fun i hi => by
            have := hw4.out (5 * q + i) (by have := hjq.out; omega)
            unfold hand
            omega
          have HDg := Lib.hid hDg
          have HE := Lib.hid hE
          have HK := Lib.hid (kinds (hand z q) 5 (by omega)).1
          clear hDg hE hN hG
          obtain ⟨k0, k6⟩ := hk_range z q
          obtain ⟨r0, r1⟩ := hcs_range z q (hk z q).toNat
          go_wp2_with fail
          refine (l02Hand_any a' 5 cap' (hand z q) _ HE.out (by omega) HDg.out).mono ?_
          rintro e w2 ⟨rfl, hb⟩
          rw [HK.out]
          change _
          have C2 := hC.later hb
          clear hb hC
          have hq := C2.cell (hk z q).toNat (by omega)
          have hf := C2.free (hk z q).toNat
          have ek : kindI (pmt (cntI (hand z q) 5) 10).1 (pmt (cntI (hand z q) 5) 10).2.1 = hk z q := rfl
          rw [ek]
          clear ek
          go_wp2
          have X := C2.hit (hk z q).toNat
          rw [← hcs_succ] at X
          exact ⟨⟨j + 5, q + 1, by omega, by go_num, Lib.hid (by have := hjq.out; omega), X⟩, by simp [intOf]; omega⟩
    · have hN := Lib.hid (show q = n / 5 by have := hjq.out; omega)
      have HC := Lib.hid hC
      clear hC
      go_wp2
      go_ret2
      exact outC (by rw [← hN.out]; exact HC.out) (by unfold maxLen; omega) rfl
end Go.Proofs.Ytlaelfaalgmicaa
