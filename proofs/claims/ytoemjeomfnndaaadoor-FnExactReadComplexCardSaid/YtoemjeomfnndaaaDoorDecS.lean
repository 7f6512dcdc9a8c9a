/- Decimal: what the reference makes of a number: its decimal digits. -/
import Derived.Test.YtoemjeomfnndaaaDoorGrowC
import Derived.Lib.ItoaNum
import Derived.Lib.ItoaMem
import Derived.Laws.IdiomStrings
import Derived.Deep.LoopGhost
namespace Go.Proofs.YtoemjeomfnndaaaDoor
open Go.RowKit
set_option linter.unusedVariables false
/-- A number and its sign. -/
def sg (neg : Bool) (m : Nat) : Int := if neg then -(m : Int) else (m : Int)
/-- The last k digits of u. -/
def lastD (u k : Nat) : Nat → Value := fun i => .int .u8 (48 + ((u / 10 ^ (k - 1 - i) % 10 : Nat) : Int))
theorem lastD_succ (u k : Nat) : rowF (lastD u (k + 1)) (k + 1) = [Value.int .u8 (48 + ((u / 10 ^ k % 10 : Nat) : Int))] ++ rowF (lastD u k) k := by
  unfold rowF
  rw [List.range_succ_eq_map, List.map_cons, List.map_map]
  have e1 : List.map (lastD u (k + 1) ∘ Nat.succ) (List.range k) = List.map (lastD u k) (List.range k) := List.map_congr_left fun i hi => by
    have : i < k := List.mem_range.1 hi
    show lastD u (k + 1) (i + 1) = lastD u k i
    unfold lastD
    rw [show k + 1 - 1 - (i + 1) = k - 1 - i by omega]
  rw [e1]
  unfold lastD
  rw [show k + 1 - 1 - 0 = k by omega]
  rfl
theorem alloc_cell {w : World} {b o : Nat} {v : Value} (h : w.cell? ⟨b, o, none⟩ = some v) (hb : b < w.heap.size) (ob : Obj) : (w.alloc ob).cell? ⟨b, o, none⟩ = some v := by
  rw [World.cell?_of_block (w := w) (Below.heap_alloc w ob b hb)]; exact h
theorem rowF_get {f : Nat → Value} {n j : Nat} {u : Value} (h : (rowF f n)[j]? = some u) : j < n ∧ u = f j := by
  have hj : j < n := by
    rcases Nat.lt_or_ge j n with q | q
    · exact q
    · rw [List.getElem?_eq_none (by rw [rowF_len]; exact q)] at h; cases h
  rw [rowF_at f n j hj] at h
  exact ⟨hj, (Option.some.inj h).symm⟩
theorem add_at (b off j : Nat) : (⟨b, off, none⟩ : Addr).add j = ⟨b, off + j, none⟩ := by
  unfold Addr.add; split <;> simp_all
/-- One value more ahead of a row. -/
theorem grow_two {w wr w1 : World} {e : TypeId} {x v' : Value} {k : Nat} {f g : Nat → Value} (hB : Below w.heap.size w wr) (hf : rowF f (k + 1) = [x] ++ rowF g k)
    (ho : w1.ownsRow wr.heap.size e 1 v' (1 + k) ([x] ++ rowF g k)) (hg : (wr.alloc (.cells #[x] e)).grownBy w1 (Value.slice (some ⟨wr.heap.size, 0, none⟩) 1 1).ownBlock) : Grow wr.heap.size w e v' (k + 1) f w1 := by
  refine ⟨(hB.alloc hB.size (.cells #[x] e)).grown hg (by have := hB.size; simp; omega) (fun k hk => ?_), by rw [hf, Nat.add_comm k 1]; exact ho, hB.size, ?_⟩
  · simp [Value.ownBlock] at hk
    have := hB.size
    omega
  · have := hg.size
    simp at this
    omega
/-- A '-' ahead of the digits. -/
def minusD (u k : Nat) : Nat → Value := fun i => match i with | 0 => .int .u8 45 | i + 1 => lastD u k i
theorem minusD_row (u k : Nat) : rowF (minusD u k) (k + 1) = [Value.int .u8 45] ++ rowF (lastD u k) k := by
  unfold rowF
  rw [List.range_succ_eq_map, List.map_cons, List.map_map]
  rfl
/-- The cells hold the numeral's bytes. -/
theorem digits_cells {u k : Nat} (h : Lib.nDigits u = k) : (Lib.decDigits u).length = k ∧ ∀ j (hj : j < (Lib.decDigits u).length), some (lastD u k j) = some (Value.int .u8 (((Lib.decDigits u)[j]).toNat : Int)) := by
  have hl : (Lib.decDigits u).length = k := by rw [Lib.decDigits_length, h]
  refine ⟨hl, fun j hj => ?_⟩
  have he : (Lib.decDigits u)[j]? = some (Lib.dg u (Lib.nDigits u - 1 - j)) := by
    rw [Lib.decDigits_eq]
    simp [show j < Lib.nDigits u by rw [h]; omega]
  rw [List.getElem?_eq_getElem hj] at he
  rw [Option.some.inj he, h]
  unfold lastD Lib.dg
  rw [UInt8.toNat_ofNat']
  congr 2
  omega
theorem infoU8 : (Tryd.prog.info? 5).map (fun i => (i.zero, i.size, i.bytes)) = some (some (.int .u8 0), 1, 1) := by kernel_rfl
set_option maxRecDepth 100000 in
set_option maxHeartbeats 1000000 in
theorem dec_any (neg : Bool) (u : Nat) (w : World) (hu : u ≤ 9223372036854775808) (hp : neg = false → u ≤ 9223372036854775807) :
    Calls Tryd.prog 45 #[.int .i64 (sg neg u)] w (fun e w' => e = .returned (.string ⟨(Lib.itoa (sg neg u)).toArray⟩) ∧ Below w.heap.size w w') := by
  obtain ⟨i0, hi, hz0, hz1, hz2⟩ := info_parts infoU8
  have HI := Lib.hid hi
  have HZ := Lib.hid (And.intro hz0 (And.intro hz1 hz2))
  clear hi hz0 hz1 hz2
  go_enter Tryd.func45, Tryd.ntmps45
  go_wp2
  have hS := Lib.hid (show SIn (w.alloc (.cells #[] 5)) w.heap.size (w.alloc (.cells #[] 5)).heap.size (some ⟨w.heap.size, 0, none⟩) 0 0 (lastD u 0) from .inl rfl)
  have hB := Lib.hid ((Below.refl w.heap.size w).alloc (Nat.le_refl _) (.cells #[] 5))
  have hL := Lib.hid (show w.heap.size < (w.alloc (.cells #[] 5)).heap.size by simp)
  generalize w.alloc (.cells #[] 5) = W at *
  go_loopg [3, 4] 20 (fun gk s3 s4 wr => ∃ (k b o cap : Nat), gk + k = 20 ∧ s3 = .slice (some ⟨b, o, none⟩) k cap ∧ s4 = .int .i64 (sg neg (u / 10 ^ k)) ∧ k ≤ 19 ∧ (k ≤ 1 ∨ 10 ^ (k - 1) ≤ u) ∧ Hid (SIn wr w.heap.size wr.heap.size (some ⟨b, o, none⟩) k cap (lastD u k)) ∧ Hid (Below w.heap.size w wr) ∧ Hid (b < wr.heap.size))
  case atStart => exact ⟨0, _, 0, 0, rfl, rfl, by simp, by omega, .inl (by omega), hS, hB, hL⟩
  case round =>
    clear hS hB hL
    obtain ⟨k, b, o, cap, hgk, rfl, rfl, hk, hlow, hS, hB, hL⟩ := hrel
    have hm1 : u / 10 ^ k ≤ u := Nat.div_le_self _ _
    have hup : lastD u (k + 1) 0 = .int .u8 (48 + ((u / 10 ^ k % 10 : Nat) : Int)) := by unfold lastD; rw [show k + 1 - 1 - 0 = k by omega]
    have hnx : u / 10 ^ (k + 1) = u / 10 ^ k / 10 := by rw [Nat.pow_succ, Nat.div_div_eq_div_mul]
    by_cases hgo : k = 0 ∨ u / 10 ^ k ≠ 0
    · have hlow2 : k + 1 ≤ 1 ∨ 10 ^ (k + 1 - 1) ≤ u := by
        rcases hgo with rfl | h
        · exact .inl (by omega)
        · refine .inr ?_
          rw [show k + 1 - 1 = k by omega]
          rcases Nat.lt_or_ge u (10 ^ k) with q | q
          · exact absurd (Nat.div_eq_of_lt q) h
          · exact q
      have hk18 : k ≤ 18 := by
        rcases hlow2 with q | q
        · omega
        · rw [show k + 1 - 1 = k by omega] at q
          rcases Nat.lt_or_ge 18 k with q2 | q2
          · have := Nat.pow_le_pow_right (show 0 < 10 by omega) (show 19 ≤ k by omega)
            omega
          · exact q2
      have hgo2 := Lib.hid hgo
      have hS2 := Lib.hid (show rowF (lastD u (k + 1)) (k + 1) = _ from lastD_succ u k)
      generalize u / 10 ^ k = m at *
      clear hup
      have tm : Int.tmod (sg neg m) 10 = sg neg (m % 10) := by
        unfold sg
        cases neg
        · rfl
        · show Int.tmod (-(m : Int)) 10 = -((m % 10 : Nat) : Int)
          rw [Int.neg_tmod]; rfl
      have td : Int.tdiv (sg neg m) 10 = sg neg (m / 10) := by
        unfold sg
        cases neg
        · rfl
        · show Int.tdiv (-(m : Int)) 10 = -((m / 10 : Nat) : Int)
          rw [Int.neg_tdiv]; rfl
      have b1 : -9223372036854775808 ≤ sg neg m := by unfold sg; split <;> omega
      have b2 : sg neg m ≤ 9223372036854775807 := by
        cases neg with
        | true => show -(m : Int) ≤ _; omega
        | false => have := hp rfl; show (m : Int) ≤ _; omega
      have A := Lib.hid (And.intro hlow2 (And.intro hnx (And.intro hk18 hm1)))
      have hr : m % 10 < 10 := Nat.mod_lt _ (by omega)
      have b3 : -9223372036854775808 ≤ sg neg (m / 10) ∧ sg neg (m / 10) ≤ 9223372036854775807 := by
        have : m / 10 ≤ 922337203685477581 := by omega
        unfold sg; split <;> omega
      obtain ⟨b3, b4⟩ := b3
      clear hlow hlow2 hnx hm1 hk hu hp
      have hd : (sg neg (m % 10) < 0 ∧ sg neg (m % 10) = -((m % 10 : Nat) : Int)) ∨ sg neg (m % 10) = ((m % 10 : Nat) : Int) := by
        unfold sg
        cases neg
        · exact .inr rfl
        · by_cases e : m % 10 = 0
          · right; rw [e]; rfl
          · left; exact ⟨by show -((m % 10 : Nat) : Int) < 0; omega, rfl⟩
      have hq : Hid (sg neg (u / 10 ^ (k + 1)) = sg neg (m / 10)) := Lib.hid (by rw [A.out.2.1])
      have hm0 := Lib.hid (show m % 10 = 0 ∨ 1 ≤ m % 10 by omega)
      generalize m % 10 = r at *
      generalize sg neg (m / 10) = q at *
      have hr1 : sg neg r < 0 ∧ sg neg r = -(r : Int) → 1 ≤ r := fun h => by omega
      by_cases k0 : k = 0
      · subst k0
        have hS' := Lib.hid (show SIn (wr.alloc (.cells #[.int .u8 (48 + (r : Int))] 5)) w.heap.size (wr.alloc (.cells #[.int .u8 (48 + (r : Int))] 5)).heap.size (some ⟨wr.heap.size, 0, none⟩) 1 1 (lastD u 1) from
          .inr ⟨wr.heap.size, 0, rfl, hB.out.size, by simp, Nat.le_refl _, by unfold maxLen; omega, by simp, fun i hi => by
            obtain rfl : i = 0 := by omega
            have := hS2.out
            simp only [rowF, List.range_succ, List.range_zero, List.nil_append, List.map_cons, List.map_nil, List.append_nil, List.cons.injEq, and_true] at this
            rw [this]; simp⟩)
        have hB' := Lib.hid (hB.out.alloc hB.out.size (.cells #[.int .u8 (48 + (r : Int))] 5))
        have hL' := Lib.hid (show wr.heap.size < (wr.alloc (.cells #[.int .u8 (48 + (r : Int))] 5)).heap.size by simp)
        rcases hd with ⟨e1, e2⟩ | e1
        · have hr1 := hr1 ⟨e1, e2⟩
          rw [e2] at tm
          clear e1 e2
          go_wp2_with fail
          go_roundg 19
          case measure => omega
          case rel => exact ⟨1, wr.heap.size, 0, 1, rfl, rfl, by rw [hq.out], by omega, .inl (by omega), hS', hB', hL'⟩
        · rw [e1] at tm
          clear e1 hr1
          go_wp2_with fail
          go_roundg 19
          case measure => omega
          case rel => exact ⟨1, wr.heap.size, 0, 1, rfl, rfl, by rw [hq.out], by omega, .inl (by omega), hS', hB', hL'⟩
      · have hm1 : m ≠ 0 := by
          rcases hgo2.out with h | h
          · exact absurd h k0
          · exact h
        have hk1 : ((k : Int) == 0) = false := by rw [beq_eq_false_iff_ne]; omega
        have hne : (sg neg m == 0) = false := by rw [beq_eq_false_iff_ne]; unfold sg; split <;> omega
        rcases hS.out with h0 | ⟨b1, o1, e, s1, s2, s3, s4, s5, s6⟩
        · exact absurd h0 k0
        obtain ⟨rfl, rfl⟩ : b = b1 ∧ o = o1 := by simpa using e
        have hc := s6
        have hO := World.ownsRow_lit (e := 5) (size := 1) (base := wr.heap.size) wr #[.int .u8 (48 + (r : Int))] 1 (Nat.le_refl _) (by unfold maxLen; omega) rfl
        have hB1 := Lib.hid (hB.out.alloc hB.out.size (.cells #[.int .u8 (48 + (r : Int))] 5))
        have hc := Lib.hid hc
        have hO := Lib.hid hO
        clear s6 hm1 hgo2 hS hm0
        unfold maxLen at s4
        rcases hd with ⟨e1, e2⟩ | e1
        · have hr1 := hr1 ⟨e1, e2⟩
          rw [e2] at tm
          clear e1 e2
          go_wp2_with (at_builtin; refine wpList_append_own _ rfl _ _ 78 rfl wr.heap.size 5 i0 (.int .u8 0) 1 1 Tryd.underlying78 HI.out HZ.out.1 HZ.out.2.1 HZ.out.2.2 rfl (by decide) _ 1 _ rfl hO.out ⟨b, o, none⟩ k cap (rowF (lastD u k) k) rfl (by rw [rowF_len, Nat.mul_one]) ?c1 ?c2 ?c3 ?c4 ?c5 ?_)
          case c1 =>
            intro j x hx
            obtain ⟨hj, rfl⟩ := rowF_get hx
            exact hc.out j hj
          case c2 =>
            intro x hx
            obtain ⟨j, _, rfl⟩ := List.mem_map.1 hx
            rfl
          case c3 => unfold maxLen; omega
          case c4 => omega
          intro v' w1 ho hg _
          obtain ⟨a', cap', rfl, hN⟩ := (grow_two hB.out hS2.out ho hg).form
          rcases hN.own.sin with h0 | ⟨b', o', rfl, g1, g2, g3, g4, g5, g6⟩
          · omega
          have hS' := Lib.hid hN.own.sin
          have hB' := Lib.hid hN.bel
          have hL' := Lib.hid g5
          clear hN ho hg g1 g2 g3 g4 g5 g6 hc hO hB1
          go_wp2
          go_roundg (19 - k)
          case measure => omega
          case rel => exact ⟨k + 1, b', o', cap', by have := A.out; omega, rfl, by rw [hq.out], by have := A.out; omega, A.out.1, hS', hB', hL'⟩
        · rw [e1] at tm
          clear e1 hr1
          go_wp2_with (at_builtin; refine wpList_append_own _ rfl _ _ 78 rfl wr.heap.size 5 i0 (.int .u8 0) 1 1 Tryd.underlying78 HI.out HZ.out.1 HZ.out.2.1 HZ.out.2.2 rfl (by decide) _ 1 _ rfl hO.out ⟨b, o, none⟩ k cap (rowF (lastD u k) k) rfl (by rw [rowF_len, Nat.mul_one]) ?b1 ?b2 ?b3 ?b4 ?b5 ?_)
          case b1 =>
            intro j x hx
            obtain ⟨hj, rfl⟩ := rowF_get hx
            exact hc.out j hj
          case b2 =>
            intro x hx
            obtain ⟨j, _, rfl⟩ := List.mem_map.1 hx
            rfl
          case b3 => unfold maxLen; omega
          case b4 => omega
          intro v' w1 ho hg _
          obtain ⟨a', cap', rfl, hN⟩ := (grow_two hB.out hS2.out ho hg).form
          rcases hN.own.sin with h0 | ⟨b', o', rfl, g1, g2, g3, g4, g5, g6⟩
          · omega
          have hS' := Lib.hid hN.own.sin
          have hB' := Lib.hid hN.bel
          have hL' := Lib.hid g5
          clear hN ho hg g1 g2 g3 g4 g5 g6 hc hO hB1
          go_wp2
          go_roundg (19 - k)
          case measure => omega
          case rel => exact ⟨k + 1, b', o', cap', by have := A.out; omega, rfl, by rw [hq.out], by have := A.out; omega, A.out.1, hS', hB', hL'⟩
    · have k0 : k ≠ 0 := fun h => hgo (.inl h)
      have hz : u / 10 ^ k = 0 := by
        rcases Nat.eq_zero_or_pos (u / 10 ^ k) with h | h
        · exact h
        · exact absurd (.inr (by omega)) hgo
      have hlt : u < 10 ^ k := by
        rcases Nat.lt_or_ge u (10 ^ k) with h | h
        · exact h
        · have := Nat.div_pos h (Nat.pow_pos (by omega)); omega
      have hN : Lib.nDigits u = k := by
        rcases hlow with h | h
        · obtain rfl : k = 1 := by omega
          exact Lib.nDigits_small (by simpa using hlt)
        · have := Lib.nDigits_unique (k - 1) u h (by rw [show k - 1 + 1 = k by omega]; exact hlt)
          omega
      have hk1 : ((k : Int) == 0) = false := by rw [beq_eq_false_iff_ne]; omega
      have hs0 : sg neg (u / 10 ^ k) = 0 := by rw [hz]; unfold sg; cases neg <;> rfl
      rcases hS.out with h0 | ⟨b1, o1, e, s1, s2, s3, s4, s5, s6⟩
      · exact absurd h0 k0
      obtain ⟨rfl, rfl⟩ : b = b1 ∧ o = o1 := by simpa using e
      have hD := Lib.hid (digits_cells hN)
      have hc := Lib.hid s6
      unfold maxLen at s4
      clear hgo hz hlt hlow hm1 hup hnx s6 hS hp
      by_cases hneg : sg neg u < 0
      · have hI : Lib.itoa (sg neg u) = 45 :: Lib.decDigits u := by
          have : neg = true ∧ 1 ≤ u := by
            cases neg
            · exact absurd hneg (by show ¬ (u : Int) < 0; omega)
            · exact ⟨rfl, by have : -(u : Int) < 0 := hneg; omega⟩
          rw [this.1]
          exact Lib.itoa_neg u this.2
        have hI := Lib.hid hI
        have hO := Lib.hid (World.ownsRow_lit (e := 5) (size := 1) (base := wr.heap.size) wr #[.int .u8 45] 1 (Nat.le_refl _) (by unfold maxLen; omega) rfl)
        go_wp2_with (at_builtin; refine wpList_append_own _ rfl _ _ 78 rfl wr.heap.size 5 i0 (.int .u8 0) 1 1 Tryd.underlying78 HI.out HZ.out.1 HZ.out.2.1 HZ.out.2.2 rfl (by decide) _ 1 _ rfl hO.out ⟨b, o, none⟩ k cap (rowF (lastD u k) k) rfl (by rw [rowF_len, Nat.mul_one]) ?d1 ?d2 ?d3 ?d4 ?d5 ?_)
        case d1 =>
          intro j x hx
          obtain ⟨hj, rfl⟩ := rowF_get hx
          exact hc.out j hj
        case d2 =>
          intro x hx
          obtain ⟨j, _, rfl⟩ := List.mem_map.1 hx
          rfl
        case d3 => unfold maxLen; omega
        case d4 => omega
        intro v' w1 ho hg _
        obtain ⟨a', cap', rfl, hN⟩ := (grow_two (f := minusD u k) hB.out (minusD_row u k) ho hg).form
        rcases hN.own.sin with h0 | ⟨b', o', rfl, g1, g2, g3, g4, g5, g6⟩
        · omega
        have hB' := Lib.hid hN.bel
        have hv := run_convert_bytes_back (P := Tryd.prog) w1 78 9 5 ⟨b', o', none⟩ cap' (45 :: Lib.decDigits u) Tryd.underlying78 Tryd.underlying5 Tryd.underlying9 (fun j hj => by
          rw [add_at, g6 j (by rw [List.length_cons, hD.out.1] at hj; exact hj)]
          cases j with
          | zero => rfl
          | succ j => exact hD.out.2 j (by rw [List.length_cons] at hj; omega))
        rw [List.length_cons, hD.out.1] at hv
        clear hN ho hg g1 g2 g3 g4 g5 g6 hc hO
        go_wp2
        go_ret
        exact ⟨by rw [hI.out]; rfl, hB'.out⟩
      · have hI : Lib.itoa (sg neg u) = Lib.decDigits u := by
          cases neg
          · exact Lib.itoa_nonneg u
          · have : u = 0 := by have : ¬ -(u : Int) < 0 := hneg; omega
            subst this
            exact Lib.itoa_nonneg 0
        have hI := Lib.hid hI
        have hv := run_convert_bytes_back (P := Tryd.prog) wr 78 9 5 ⟨b, o, none⟩ cap (Lib.decDigits u) Tryd.underlying78 Tryd.underlying5 Tryd.underlying9 (fun j hj => by
          rw [add_at, hc.out j (by rw [hD.out.1] at hj; exact hj)]
          exact hD.out.2 j hj)
        rw [hD.out.1] at hv
        go_wp2
        go_ret
        exact ⟨rfl, hB.out⟩
end Go.Proofs.YtoemjeomfnndaaaDoor
