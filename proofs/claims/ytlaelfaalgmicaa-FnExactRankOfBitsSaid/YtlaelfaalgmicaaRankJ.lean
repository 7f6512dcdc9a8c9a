/- RankOfBits: the implementation's walk. -/
import Derived.Test.YtlaelfaalgmicaaRankD
import Derived.Deep.LoopGhost
namespace Go.Proofs.Ytlaelfaalgmicaa
open Go.RowKit
set_option linter.unusedVariables false
/-- The cell that holds the bit. -/
structure BitC (W : World) (H cb : Nat) (v : Int) : Prop where
  lo : H ≤ cb
  lt : cb < W.heap.size
  cell : W.cell? ⟨cb, 0, none⟩ = some (.int .i64 v)
  fz : W.frozen? ⟨cb, 0, none⟩ = false
theorem BitC.new (W : World) (H : Nat) (v : Int) (h : H ≤ W.heap.size) (e : TypeId) : BitC (W.alloc (.cells #[.int .i64 v] e)) H W.heap.size v :=
  ⟨h, by simp, by simp, by simp⟩
theorem BitC.chg {W W' : World} {H cb lo : Nat} {v : Int} (h : BitC W H cb v) (hc : Chg lo H W W') : BitC W' H cb v :=
  ⟨h.lo, Nat.lt_of_lt_of_le h.lt hc.size, (World.cell?_of_block (hc.oth cb h.lt (.inr h.lo))).trans h.cell, (hc.fr cb 0 h.lt).trans h.fz⟩
theorem wrote_set (w : World) (b o : Nat) (v : Value) : Wrote b w (w.setCell ⟨b, o, none⟩ v) :=
  ⟨rfl, rfl, rfl, by simp, fun j hj => by
    rw [Go.Sort.setCell_eq]
    simp only [Go.Sort.mapBlock, Array.getElem?_modify]
    rw [if_neg (fun h => hj h.symm)], fun o => by simp⟩
set_option maxRecDepth 100000 in
set_option maxHeartbeats 2000000 in
theorem implRank_in (a : Option Addr) (lo hi n cap : Nat) (z : Nat → Nat) (w : World) (h : SIn w lo hi a n cap (kI fun i => (z i : Int))) (hA : areW (fun i => (z i : Int)) n = true) (hn : n ≤ 32) :
    Calls Try.prog 56 #[.slice a n cap] w (fun e w' => e = .returned (.tuple #[.int .i64 (rkT (fun x => ∃ i, i < n ∧ x = z i) 32), .bool true]) ∧ Below w.heap.size w w') := by
  have hh := h.ints
  obtain ⟨hn1, _, hw⟩ := areW_of hA
  have hL := Lib.hid (show Left (fun x => ∃ i, i < n ∧ x = z i) 0 (fun x => ∃ i, i < n ∧ x = z i) from Left.start _)
  have hZ := Lib.hid (show ∀ i, i < n → z i < 4294967296 from fun i hi => by have := hw i hi; omega)
  have hR := Lib.hid (show 0 = rkT (fun x => ∃ i, i < n ∧ x = z i) 0 from rfl)
  clear hw
  obtain ⟨M, hM⟩ : ∃ M : Nat → Prop, M = (fun x => ∃ i, i < n ∧ x = z i) := ⟨_, rfl⟩
  rw [← hM] at hR ⊢
  have hL : Hid (Left M 0 (fun x => ∃ i, i < n ∧ x = z i)) := Lib.hid (by rw [hM]; exact Left.start _)
  clear hM
  rcases h.ints with h0 | ⟨b, off, rfl, h1, h2, h3, h4⟩
  · omega
  clear h
  unfold maxLen at h2
  have hh4 := Lib.hid h4
  clear h4
  have CC := Lib.hid (clone_new b off n cap z w h3 hh4 hn1 hn)
  go_enter Try.func56, Try.ntmps56
  go_upto_region 4 with (first | (go_at_call 40; refine (implAre_any _ _ _ _ _ hh (by omega)).mono ?_; rintro e w' ⟨rfl, rfl⟩) | (go_at_call 76; refine CC.out.mono ?_; rintro e w1 ⟨a', cap', rfl, hN⟩))
  clear CC
  rcases hN.own.sin with h0 | ⟨b', o', rfl, t1, t2, t3, t4, t5, t6⟩
  · omega
  have hO := Lib.hid hN.own
  have hB := Lib.hid hN.bel
  have hS := Lib.hid hN.bel.size
  unfold maxLen at t4
  clear hN t6 hh hh4 hA
  go_wp2_with fail
  have hO1 := Lib.hid (hO.out.bel ((Below.refl w1.heap.size w1).alloc (Nat.le_refl _) (.cells #[.int .i64 31] 3)))
  have hB1 := Lib.hid (hB.out.alloc hS.out (.cells #[.int .i64 31] 3))
  have hC1 := Lib.hid (BitC.new w1 w1.heap.size 31 (Nat.le_refl _) 3)
  clear hO hB
  generalize w1.alloc (.cells #[.int .i64 31] 3) = W at *
  have hH := Lib.hid (show w.heap.size ≤ w1.heap.size from hS.out)
  clear hS t5
  generalize w1.heap.size = H at *
  go_loopg [4, 5, 6] 32 (fun gk s4 s5 s6 wr => ∃ (t m r cb : Nat) (g : Nat → Nat), gk + t = 32 ∧ r + m = n ∧ s4 = .slice (some ⟨b', o', none⟩) m cap' ∧ s5 = .int .i64 r ∧ s6 = .pointer (some ⟨cb, 0, none⟩) ∧ Hid (BitC wr H cb (31 - (t : Int))) ∧ Hid (r = rkT M t) ∧ Hid (Left M t (fun x => ∃ i, i < m ∧ x = g i)) ∧ Hid (∀ i, i < m → g i < 4294967296) ∧ Hid (SOwn wr w.heap.size H (some ⟨b', o', none⟩) m cap' (kI fun i => (g i : Int))) ∧ Hid (Below w.heap.size w wr))
  case atStart => exact ⟨0, n, 0, H, z, rfl, by omega, rfl, rfl, rfl, hC1, hR, hL, hZ, hO1, hB1⟩
  case round =>
    clear hR hL hZ hO1 hB1 hC1
    obtain ⟨t, m, r, cb, g, hgt, hrm, rfl, rfl, rfl, hC, hR, hL, hZ, hO, hB⟩ := hrel
    have hcl := hC.out.cell
    by_cases hlt : t < 32
    · obtain ⟨b, hb⟩ : ∃ b : Nat, b = 31 - t := ⟨_, rfl⟩
      have hb2 : (31 : Int) - (t : Int) = (b : Int) := by omega
      have hb3 : b ≤ 31 := by omega
      have hR := Lib.hid (show 31 - t = b ∧ t < 32 ∧ r = rkT M t from ⟨hb.symm, hlt, hR.out⟩)
      rw [hb2] at hcl hC
      have FB := Lib.hid (findBit_any b' o' m cap' cb b g wr (Lib.hid fun i hi => (hO.out.at i hi).1) hZ hcl hb3 (by omega) t4 (by omega))
      clear hb hlt hb2
      go_upto_region 8 with (go_at_call 77; refine FB.out.mono ?_; rintro e w' ⟨v, rfl, hv, rfl⟩)
      rcases hv with ⟨rfl, hno⟩ | ⟨k, rfl, hk, hbit⟩
      · have hx := Lib.hid (hL.out.none hR.out.2.1 (fun x hx => by
          obtain ⟨i, h2, rfl⟩ := hx
          rw [hR.out.1]; exact hno i h2))
        have hO' := Lib.hid (hO.out.bel ((Below.refl wr.heap.size wr).alloc (Nat.le_refl _) (.cells #[.int .i64 ((b : Int) - 1)] 3)))
        have hB' := Lib.hid (hB.out.alloc hB.out.size (.cells #[.int .i64 ((b : Int) - 1)] 3))
        have hC' := Lib.hid (BitC.new wr H ((b : Int) - 1) (Nat.le_trans hC.out.lo (Nat.le_of_lt hC.out.lt)) 3)
        clear hno hO hB FB
        go_wp2
        go_roundg (gk - 1)
        case measure => have := hR.out; omega
        case rel => exact ⟨t + 1, m, r, wr.heap.size, g, by have := hR.out; omega, hrm, rfl, rfl, rfl, by rw [show (31 : Int) - ((t + 1 : Nat) : Int) = (b : Int) - 1 by have := hR.out; omega]; exact hC', Lib.hid (by rw [hx.out.2]; exact hR.out.2.2), Lib.hid hx.out.1, hZ, hO', hB'⟩
      · obtain ⟨m', rfl⟩ : ∃ m', m = m' + 1 := ⟨m - 1, by omega⟩
        have x1 := (hO.out.at k hk).1
        change wr.cell? ⟨b', o' + k, none⟩ = some (.int .i64 (g k)) at x1
        have gz := hZ.out k hk
        have DD := Lib.hid (delete_own b' o' m' cap' k w.heap.size H g wr hO.out hk)
        have hx := Lib.hid (hL.out.some hR.out.2.1 (show Cut (31 - t) (g k) _ _ by rw [hR.out.1]; exact er_cut hk hbit))
        have hA0 := Lib.hid (show ∀ i, i < m' → erA g k i < 4294967296 from fun i hi => by
          unfold erA; split
          · exact hZ.out _ (by omega)
          · exact hZ.out _ (by omega))
        have hn2 := Lib.hid (show ∀ i, i < m' → erB g b k m' i < 4294967296 from fun i hi => by
          unfold erB
          rw [if_pos hi]
          exact red_lt gz (hA0.out i hi))
        have hbit := Lib.hid hbit
        clear FB hZ hL
        go_upto_region 11 with (go_at_call 79; refine DD.out.mono ?_; rintro e w2 ⟨rfl, hO2, hch⟩)
        clear DD x1 hcl
        have hB2 := Lib.hid (hch.bel hB.out (Nat.le_refl _))
        have hC2 := Lib.hid (hC.out.chg hch)
        have hO2 := Lib.hid hO2
        clear hO hB hC hch
        have hP0 := Lib.hid (show SOwn w2 w.heap.size H (some ⟨b', o', none⟩) m' cap' (kI fun i => (erB g b k 0 i : Int)) from hO2.out.congr fun i hi => by
          have es : erB g b k 0 i = erA g k i := by unfold erB; rw [if_neg (by omega)]
          exact congrArg (fun q : Nat => Value.int .i64 (q : Int)) es.symm)
        clear hO2
        go_wp2
        go_loopw [41] (fun s41 wx => ∃ j : Nat, j ≤ m' ∧ s41 = .int .i64 j ∧ Hid (SOwn wx w.heap.size H (some ⟨b', o', none⟩) m' cap' (kI fun i => (erB g b k j i : Int))) ∧ Hid (Below w.heap.size w wx) ∧ Hid (BitC wx H cb b)) (fun s41 _ => m' - (intOf s41).toNat)
        case atStart => exact ⟨0, Nat.zero_le _, rfl, hP0, hB2, hC2⟩
        case round =>
          clear hP0 hB2 hC2
          obtain ⟨j, hj2, rfl, hO3, hB3, hC3⟩ := hrel
          have y0 := hC3.out.cell
          by_cases hjn : j < m'
          · have ej : erB g b k j j = erA g k j := by unfold erB; rw [if_neg (by omega)]
            have y1 := (hO3.out.at j hjn).1
            rw [show kI (fun i => (erB g b k j i : Int)) j = .int .i64 (erA g k j) by simp [ej]] at y1
            have f4 := (hO3.out.at j hjn).2
            have hj := hA0.out j hjn
            have hnext : ∀ i, i ≠ j → erB g b k (j + 1) i = erB g b k j i := fun i hi => by
              have : (i < j + 1) = (i < j) := by apply propext; omega
              simp only [erB, this]
            have hat : erB g b k (j + 1) j = red b (g k) (erA g k j) := by unfold erB; rw [if_pos (by omega)]
            cases hq : (erA g k j).testBit b with
            | false =>
              have e1 : bits .and .i64 ((erA g k j : Int) / 2 ^ b) 1 = 0 := by rw [bit_i64, hq]; rfl
              have P := Lib.hid (hO3.out.congr (g := kI fun i => (erB g b k (j + 1) i : Int)) fun i hi => by
                have e5 : erB g b k j i = erB g b k (j + 1) i := by
                  by_cases e : i = j
                  · rw [e, hat, ej]; simp [red, hq]
                  · exact (hnext i e).symm
                exact congrArg (fun q : Nat => Value.int .i64 (q : Int)) e5)
              clear ej hnext hat hq
              go_wp2
              exact ⟨⟨j + 1, by omega, by go_num, P, hB3, hC3⟩, by simp [intOf]; omega⟩
            | true =>
              have e1 : bits .and .i64 ((erA g k j : Int) / 2 ^ b) 1 = 1 := by rw [bit_i64, hq]; rfl
              have e2 := xor_i64 (erA g k j) (g k) hj gz
              have P := hO3.out.put (g := kI fun i => (erB g b k (j + 1) i : Int)) hjn (fun i hi => congrArg (fun q : Nat => Value.int .i64 (q : Int)) (hnext i hi))
              rw [show kI (fun i => (erB g b k (j + 1) i : Int)) j = .int .i64 ((erA g k j ^^^ g k : Nat) : Int) by simp [hat, red, hq]] at P
              have P := Lib.hid P
              have hC4 := Lib.hid (hC3.out.chg (Chg.of_wrote (lo := w.heap.size) (wrote_set wr b' (o' + j) (.int .i64 ((erA g k j ^^^ g k : Nat) : Int))) t1 t2))
              clear ej hnext hat hq
              go_wp2
              exact ⟨⟨j + 1, by omega, by go_num, P, Lib.hid (hB3.out.setCell (p := ⟨b', o' + j, none⟩) t1 _), hC4⟩, by simp [intOf]; omega⟩
          · obtain rfl : j = m' := by omega
            have hO' := Lib.hid (hO3.out.bel ((Below.refl wr.heap.size wr).alloc (Nat.le_refl _) (.cells #[.int .i64 ((b : Int) - 1)] 3)))
            have hB' := Lib.hid (hB3.out.alloc hB3.out.size (.cells #[.int .i64 ((b : Int) - 1)] 3))
            have hC' := Lib.hid (BitC.new wr H ((b : Int) - 1) (Nat.le_trans hC3.out.lo (Nat.le_of_lt hC3.out.lt)) 3)
            clear hO3 hB3
            go_wp2
            go_roundg (gk - 1)
            case measure => have := hR.out; omega
            case rel => exact ⟨t + 1, j, r + 1, wr.heap.size, erB g b k j, by have := hR.out; omega, by omega, rfl, by go_num, rfl, by rw [show (31 : Int) - ((t + 1 : Nat) : Int) = (b : Int) - 1 by have := hR.out; omega]; exact hC', Lib.hid (by rw [hx.out.2, hR.out.2.2]), Lib.hid hx.out.1, hn2, hO', hB'⟩
    · obtain rfl : t = 32 := by omega
      have r32 := rkT_le M 32
      go_wp2
      go_ret2
      exact ⟨by rw [hR.out]; rfl, hB.out⟩
end Go.Proofs.Ytlaelfaalgmicaa
