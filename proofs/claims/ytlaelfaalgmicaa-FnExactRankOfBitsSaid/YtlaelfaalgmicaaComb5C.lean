/- CombineSeeds: the implementation, where it may. -/
import Derived.Test.YtlaelfaalgmicaaComb4C
namespace Go.Proofs.Ytlaelfaalgmicaa
open Go.RowKit
set_option linter.unusedVariables false
/-- The first row when j words are added. -/
def mixF (k : Int) (s : Int × Int) (k' : Int) (s' : Int × Int) (j i : Nat) : Int := if i < j then cmbZ k s k' s' i else sW k s i
theorem SOwn.congr {w : World} {lo hi n cap : Nat} {a : Option Addr} {f g : Nat → Value} (h : SOwn w lo hi a n cap f) (e : ∀ i, i < n → f i = g i) : SOwn w lo hi a n cap g := ⟨h.sin.congr e, h.free⟩
theorem cmb_mod (k : Int) (s : Int × Int) (k' : Int) (s' : Int × Int) (i : Nat) : (sW k s i + sW k' s' i).tmod 4294967296 = cmbZ k s k' s' i := by
  have h1 := sW_range k s i
  have h2 := sW_range k' s' i
  unfold cmbZ
  rw [Int.tmod_eq_emod_of_nonneg (by omega)]
set_option maxRecDepth 100000 in
set_option maxHeartbeats 2000000 in
theorem implComb_yes (k a b k' a' b' : Int) (N : Nat) (w : World) (hb : 0 ≤ b) (hb' : 0 ≤ b') (v1 : valB k a b = true) (v2 : valB k' a' b' = true) (hN : N ≤ 256) :
    Calls Try.prog 34 #[.agg #[.int .i64 k, .int .u64 a, .int .u64 b], .agg #[.int .i64 k', .int .u64 a', .int .u64 b'], .int .i64 N] w (OutS N true (kI (cmbZ k (a, b) k' (a', b'))) w) := by
  have C1 := Lib.hid fun w => wordsOf_yes k a b N w hb v1 hN
  have C2 := Lib.hid fun w => wordsOf_yes k' a' b' N w hb' v2 hN
  clear hb hb' v1 v2
  go_enter Try.func34, Try.ntmps34
  go_upto_region 1 with fail
  have hT := TwoM.start k a b k' a' b' w 29 29
  have hB := ((Below.refl w.heap.size w).alloc (Nat.le_refl _) (.cells #[.int .i64 k, .int .u64 a, .int .u64 b] 29)).alloc (by simp) (.cells #[.int .i64 k', .int .u64 a', .int .u64 b'] 29)
  have hz : ((w.alloc (.cells #[.int .i64 k, .int .u64 a, .int .u64 b] 29)).alloc (.cells #[.int .i64 k', .int .u64 a', .int .u64 b'] 29)).heap.size = w.heap.size + 2 := by simp
  generalize ((w.alloc (.cells #[.int .i64 k, .int .u64 a, .int .u64 b] 29)).alloc (.cells #[.int .i64 k', .int .u64 a', .int .u64 b'] 29)) = W at *
  obtain ⟨p0, p1, p2⟩ := hT.s0
  have HT := Lib.hid hT
  have HB := Lib.hid hB
  clear hT hB
  go_upto_region 2 with (go_at_call 70; refine (C1.out _).mono ?_; rintro e w1 ⟨K1, A1, B1, a1, c1, rfl, n1⟩; have h1 := n1.bel; have O1 := Lib.hid (n1.own.bel ((Below.refl w1.heap.size w1).alloc (Nat.le_refl _) (.cells #[.int .i64 K1, .int .u64 A1, .int .u64 B1] 29))); have HT1 := Lib.hid ((HT.out.kept (h1.mono (Nat.le_of_eq hz.symm))).kept ((Below.refl w1.heap.size w1).alloc (Nat.le_refl _) (.cells #[.int .i64 K1, .int .u64 A1, .int .u64 B1] 29) |>.mono (by have := h1.size; omega))); have HB1 := Lib.hid ((HB.out.trans (h1.mono (by omega))).alloc (by have := h1.size; omega) (.cells #[.int .i64 K1, .int .u64 A1, .int .u64 B1] 29)); have hz1 : w.heap.size + 2 ≤ w1.heap.size ∧ w1.heap.size ≤ (w1.alloc (.cells #[.int .i64 K1, .int .u64 A1, .int .u64 B1] 29)).heap.size := (by have := h1.size; simp; omega); clear HT HB h1 n1 p0 p1 p2)
  obtain ⟨q0, q1, q2⟩ := HT1.out.s1
  obtain ⟨hz1, hz2⟩ := hz1
  generalize (w1.alloc (.cells #[.int .i64 K1, .int .u64 A1, .int .u64 B1] 29)) = V at *
  go_upto_region 3 with (go_at_call 70; refine (C2.out _).mono ?_; rintro e w2 ⟨K2, A2, B2, a2, c2, rfl, n2⟩; have h2 := n2.bel; have al := (Below.refl w2.heap.size w2).alloc (Nat.le_refl _) (.cells #[.int .i64 K2, .int .u64 A2, .int .u64 B2] 29); have O2 := Lib.hid ((O1.out.bel h2).bel al); have S2 := Lib.hid (n2.own.sin.bel al); have HB2 := Lib.hid ((HB1.out.trans (h2.mono (by omega))).alloc (by have := h2.size; omega) (.cells #[.int .i64 K2, .int .u64 A2, .int .u64 B2] 29)); have hz3 := h2.size; have hz4 := al.size; clear HT1 HB1 O1 n2 h2 al q0 q1 q2)
  generalize (w2.alloc (.cells #[.int .i64 K2, .int .u64 A2, .int .u64 B2] 29)) = U at *
  clear C1 C2
  have e0 : ∀ i, i < N → kI (sW k (a, b)) i = kI (mixF k (a, b) k' (a', b') 0) i := fun i _ => by simp [mixF]
  have O3 := Lib.hid (O2.out.congr e0)
  clear e0 O2
  rw [hz] at O3
  go_wp2
  go_loopw [38] (fun s38 wr => ∃ j : Nat, j ≤ N ∧ s38 = .int .i64 j ∧ Hid (SOwn wr (w.heap.size + 2) w1.heap.size a1 N c1 (kI (mixF k (a, b) k' (a', b') j))) ∧ Hid (SIn wr V.heap.size w2.heap.size a2 N c2 (kI (sW k' (a', b')))) ∧ Hid (Below w.heap.size w wr) ∧ w1.heap.size ≤ wr.heap.size) (fun s38 _ => N - (intOf s38).toNat)
  case atStart => exact ⟨0, Nat.zero_le _, rfl, O3, S2, HB2, by omega⟩
  case round =>
    obtain ⟨j, hj, rfl, hO, hS, hB, hsz⟩ := hrel
    clear O3 S2 HB2
    by_cases hlt : j < N
    · rcases hO.out.sin with h0 | ⟨b1, o1, rfl, g1, g2, g3, g4, g5, g6⟩
      · omega
      rcases hS.out with h0 | ⟨b2, o2, rfl, t1, t2, t3, t4, t5, t6⟩
      · omega
      have x1 := g6 j hlt
      rw [show kI (mixF k (a, b) k' (a', b') j) j = .int .i64 (sW k (a, b) j) by simp [mixF]] at x1
      have x2 := t6 j hlt
      change wr.cell? ⟨b2, o2 + j, none⟩ = some (.int .i64 (sW k' (a', b') j)) at x2
      have fz : wr.frozen? ⟨b1, o1 + j, none⟩ = false := by
        rcases hO.out.free with h0 | hf
        · omega
        · exact hf b1 o1 rfl j hlt
      unfold maxLen at g4 t4
      clear g6 t6
      obtain ⟨r0, r1⟩ := sW_range k (a, b) j
      obtain ⟨r2, r3⟩ := sW_range k' (a', b') j
      have e1 := cmb_mod k (a, b) k' (a', b') j
      have eg : kI (mixF k (a, b) k' (a', b') (j + 1)) j = .int .i64 (cmbZ k (a, b) k' (a', b') j) := by simp [mixF]
      have P := hO.out.put (g := kI (mixF k (a, b) k' (a', b') (j + 1))) hlt (fun i hi => by
        have : (i < j + 1) = (i < j) := by apply propext; omega
        simp [mixF, this])
      rw [eg] at P
      have P := Lib.hid P
      clear eg
      go_wp2
      have hbb : b1 < V.heap.size ∨ w2.heap.size ≤ b1 := .inl (by omega)
      exact ⟨⟨j + 1, by omega, by go_num, P, Lib.hid (hS.out.set (p := ⟨b1, o1 + j, none⟩) hbb _), Lib.hid (hB.out.setCell (by show w.heap.size ≤ b1; omega) _), by simpa using hsz⟩, by simp [intOf]; omega⟩
    · obtain rfl : j = N := by omega
      have O := Lib.hid (hO.out.mono (lo' := w.heap.size) (hi' := wr.heap.size) (by omega) hsz)
      clear hO hS
      go_wp2
      go_ret2
      exact ⟨a1, c1, rfl, hB.out, O.out.congr fun i hi => by simp [mixF, hi]⟩
end Go.Proofs.Ytlaelfaalgmicaa
