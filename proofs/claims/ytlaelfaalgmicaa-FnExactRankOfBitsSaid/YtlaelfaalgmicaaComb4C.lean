/- CombineSeeds: both sides, where it may and where it may not. -/
import Derived.Test.YtlaelfaalgmicaaComb3C
namespace Go.Proofs.Ytlaelfaalgmicaa
open Go.RowKit
set_option linter.unusedVariables false
theorem wordsOf_some (k a b n : Int) (w : World) (hb : 0 ≤ b) :
    Calls Try.prog 70 #[.agg #[.int .i64 k, .int .u64 a, .int .u64 b], .int .i64 n] w (fun e w' => ∃ K A B aW m cW, e = .returned (.tuple #[.agg #[.int .i64 K, .int .u64 A, .int .u64 B], .slice aW m cW, .bool (valB k a b && inR n 0 256)]) ∧ Below w.heap.size w w') := by
  by_cases h : valB k a b = true ∧ inR n 0 256 = true
  · obtain ⟨h1, h2⟩ := h
    have ⟨g1, g2⟩ := inR_of h2
    obtain ⟨N, rfl⟩ := Int.eq_ofNat_of_zero_le g1
    rw [h1, h2]
    refine (wordsOf_yes k a b N w hb h1 (by omega)).mono ?_
    rintro e w' ⟨K, A, B, aW, cW, rfl, hn⟩
    exact ⟨K, A, B, aW, N, cW, rfl, hn.bel⟩
  · have hn : valB k a b = true → inR n 0 256 = false := fun q => by
      cases hq : inR n 0 256 with
      | false => rfl
      | true => exact absurd ⟨q, hq⟩ h
    have e : (valB k a b && inR n 0 256) = false := by
      cases hv : valB k a b with
      | false => rfl
      | true => rw [hn hv]; rfl
    rw [e]
    refine (wordsOf_no k a b n w hb hn).mono ?_
    rintro e w' ⟨rfl, hb⟩
    exact ⟨_, _, _, _, _, _, rfl, hb⟩
theorem can3 {k a b n k' a' b' : Int} (h : valB k a b = true → inR n 0 256 = true → valB k' a' b' = false) : ((valB k a b && inR n 0 256) && (valB k' a' b' && inR n 0 256)) = false := by
  cases h1 : valB k a b <;> cases h2 : inR n 0 256 <;> cases h3 : valB k' a' b' <;> simp_all
set_option maxHeartbeats 800000 in
theorem implComb_no (k a b k' a' b' n : Int) (w : World) (hb : 0 ≤ b) (hb' : 0 ≤ b') (h : valB k a b = true → inR n 0 256 = true → valB k' a' b' = false) :
    Calls Try.prog 34 #[.agg #[.int .i64 k, .int .u64 a, .int .u64 b], .agg #[.int .i64 k', .int .u64 a', .int .u64 b'], .int .i64 n] w (OutS 0 false (kI fun _ => 0) w) := by
  have C1 := Lib.hid fun w => wordsOf_some k a b n w hb
  have C2 := Lib.hid fun w => wordsOf_some k' a' b' n w hb'
  have hh := can3 h
  generalize (valB k a b && inR n 0 256) = o1 at *
  generalize (valB k' a' b' && inR n 0 256) = o2 at *
  clear h hb hb'
  go_enter Try.func34, Try.ntmps34
  go_upto_region 1 with fail
  have hT := TwoM.start k a b k' a' b' w 29 29
  have hB := ((Below.refl w.heap.size w).alloc (Nat.le_refl _) (.cells #[.int .i64 k, .int .u64 a, .int .u64 b] 29)).alloc (by simp) (.cells #[.int .i64 k', .int .u64 a', .int .u64 b'] 29)
  have hz : ((w.alloc (.cells #[.int .i64 k, .int .u64 a, .int .u64 b] 29)).alloc (.cells #[.int .i64 k', .int .u64 a', .int .u64 b'] 29)).heap.size = w.heap.size + 2 := by simp
  generalize ((w.alloc (.cells #[.int .i64 k, .int .u64 a, .int .u64 b] 29)).alloc (.cells #[.int .i64 k', .int .u64 a', .int .u64 b'] 29)) = W at *
  obtain ⟨p0, p1, p2⟩ := hT.s0
  have HT := Lib.hid hT
  have HB := Lib.hid hB
  clear hT hB
  go_upto_region 2 with (go_at_call 70; refine (C1.out _).mono ?_; rintro e w1 ⟨K1, A1, B1, a1, m1, c1, rfl, h1⟩; have HT1 := Lib.hid ((HT.out.kept (h1.mono (Nat.le_of_eq hz.symm))).kept ((Below.refl w1.heap.size w1).alloc (Nat.le_refl _) (.cells #[.int .i64 K1, .int .u64 A1, .int .u64 B1] 29) |>.mono (by have := h1.size; omega))); have HB1 := Lib.hid ((HB.out.trans (h1.mono (by omega))).alloc (by have := h1.size; omega) (.cells #[.int .i64 K1, .int .u64 A1, .int .u64 B1] 29)); have hz1 : w.heap.size + 2 ≤ (w1.alloc (.cells #[.int .i64 K1, .int .u64 A1, .int .u64 B1] 29)).heap.size := (by have := h1.size; simp; omega); clear HT HB h1 p0 p1 p2 hz)
  obtain ⟨q0, q1, q2⟩ := HT1.out.s1
  generalize (w1.alloc (.cells #[.int .i64 K1, .int .u64 A1, .int .u64 B1] 29)) = V at *
  go_upto_region 3 with (go_at_call 70; refine (C2.out _).mono ?_; rintro e w2 ⟨K2, A2, B2, a2, m2, c2, rfl, h2⟩; have HB2 := Lib.hid ((HB1.out.trans (h2.mono (by omega))).alloc (by have := h2.size; omega) (.cells #[.int .i64 K2, .int .u64 A2, .int .u64 B2] 29)); clear HT1 HB1 h2 q0 q1 q2 hz1)
  generalize (w2.alloc (.cells #[.int .i64 K2, .int .u64 A2, .int .u64 B2] 29)) = U at *
  clear C1 C2
  cases o1 <;> cases o2 <;> first | (exact absurd hh (by decide)) | skip
  all_goals
    go_wp2
    go_ret2
    exact .fail HB2.out rfl
set_option maxHeartbeats 800000 in
theorem specComb_no (k a b k' a' b' n : Int) (w : World) (hb : 0 ≤ b) (hb' : 0 ≤ b') (h : valB k a b = true → inR n 0 256 = true → valB k' a' b' = false) :
    Calls Try.prog 33 #[.agg #[.int .i64 k, .int .u64 a, .int .u64 b], .agg #[.int .i64 k', .int .u64 a', .int .u64 b'], .int .i64 n] w (OutS 0 false (kI fun _ => 0) w) := by
  go_enter Try.func33, Try.ntmps33
  go_upto_region 1 with fail
  have hT := TwoM.start k a b k' a' b' w 29 29
  have hB := ((Below.refl w.heap.size w).alloc (Nat.le_refl _) (.cells #[.int .i64 k, .int .u64 a, .int .u64 b] 29)).alloc (by simp) (.cells #[.int .i64 k', .int .u64 a', .int .u64 b'] 29)
  generalize ((w.alloc (.cells #[.int .i64 k, .int .u64 a, .int .u64 b] 29)).alloc (.cells #[.int .i64 k', .int .u64 a', .int .u64 b'] 29)) = W at *
  have C0 := Lib.hid fun w0 h => l02Is_any w.heap.size k a b w0 hb h
  have C1 := Lib.hid fun w0 h => l02Is_any (w.heap.size + 1) k' a' b' w0 hb' h
  have HT := Lib.hid hT
  have HB := Lib.hid hB
  have H := Lib.hid h
  clear hT hB hb hb' h
  have HR0 := trivial
  go_wp2_with (first
    | (go_at_call 61; first | (clear HR0; refine (C0.out _ HT.out.s0).mono ?_; rintro e w' ⟨rfl, rfl⟩; cases h1 : valB k a b) | (refine (C1.out _ HT.out.s1).mono ?_; rintro e w' ⟨rfl, rfl⟩; have h3 : valB k' a' b' = false := H.out h1 h2))
    | (go_at_call 59; refine (l00InR_any _ _ _ _).mono ?_; rintro e w' ⟨rfl, rfl⟩; cases h2 : inR n 0 256)
    | go_in)
  all_goals
    go_ret2
    exact .fail HB.out rfl
end Go.Proofs.Ytlaelfaalgmicaa
