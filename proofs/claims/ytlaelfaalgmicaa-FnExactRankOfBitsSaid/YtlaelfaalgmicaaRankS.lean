/- RankOfBits: the reference's side. -/
import Derived.Test.YtlaelfaalgmicaaRankB
import Derived.Test.YtlaelfaalgmicaaComb5C
namespace Go.Proofs.Ytlaelfaalgmicaa
open Go.RowKit
set_option linter.unusedVariables false
theorem Grow.copy {B : Nat} {w wr w1 : World} {e : TypeId} {v v' : Value} {n : Nat} {f : Nat → Value} (h : Grow B w e v 0 f wr) (ho : w1.ownsRow B e 1 v' n (rowF f n)) (hg : wr.grownBy w1 v.ownBlock) : Grow B w e v' n f w1 := by
  refine ⟨h.bel.grown hg (by have := h.low; have := h.hi; omega) (fun k hk => by have := (h.own.lt k hk).1; have := h.low; omega), ho, h.low, ?_⟩
  have := hg.size
  have := h.hi
  omega
/-- Row v goes to place r, and row r to place v. -/
def swA (g : Nat → Nat) (r v : Nat) : Nat → Nat := fun i => if i = v then g r else g i
def swB (g : Nat → Nat) (r v : Nat) : Nat → Nat := fun i => if i = r then g v else swA g r v i
/-- The rows behind r and before j, p taken off. -/
def swC (g : Nat → Nat) (b r v j : Nat) : Nat → Nat := fun i => if r < i ∧ i < j then red b (g v) (swB g r v i) else swB g r v i
theorem swB_lt {g : Nat → Nat} {r v n : Nat} (hg : ∀ i, i < n → g i < 4294967296) (hr : r < n) (hv : v < n) (i : Nat) (hi : i < n) : swB g r v i < 4294967296 := by
  unfold swB swA
  split
  · exact hg _ hv
  · split
    · exact hg _ hr
    · exact hg _ hi
theorem red_lt {b p x : Nat} (hp : p < 4294967296) (hx : x < 4294967296) : red b p x < 4294967296 := by
  unfold red
  split
  · have : x ^^^ p < 2 ^ 32 := Nat.xor_lt_two_pow (by omega) (by omega)
    omega
  · exact hx
theorem swC_lt {g : Nat → Nat} {b r v n j : Nat} (hg : ∀ i, i < n → g i < 4294967296) (hr : r < n) (hv : v < n) (i : Nat) (hi : i < n) : swC g b r v j i < 4294967296 := by
  unfold swC
  split
  · exact red_lt (hg _ hv) (swB_lt hg hr hv i hi)
  · exact swB_lt hg hr hv i hi
theorem sw_cut {g : Nat → Nat} {b r v n : Nat} (h1 : r ≤ v) (h2 : v < n) (hb : (g v).testBit b = true) : Cut b (g v) (fun x => ∃ i, r ≤ i ∧ i < n ∧ x = g i) (fun x => ∃ i, r + 1 ≤ i ∧ i < n ∧ x = swC g b r v n i) := by
  refine ⟨⟨v, h1, h2, rfl⟩, hb, ?_, ?_⟩
  · rintro x ⟨i, hi1, hi2, rfl⟩
    by_cases e : i = v
    · left
      subst e
      unfold red; rw [if_pos hb, Nat.xor_self]
    · right
      by_cases er : i = r
      · subst er
        refine ⟨v, by omega, h2, ?_⟩
        have : swB g i v v = g i := by unfold swB swA; rw [if_neg (by omega), if_pos rfl]
        unfold swC; rw [if_pos (by omega), this]
      · refine ⟨i, by omega, hi2, ?_⟩
        have : swB g r v i = g i := by unfold swB swA; rw [if_neg er, if_neg e]
        unfold swC; rw [if_pos (by omega), this]
  · rintro y ⟨i, hi1, hi2, rfl⟩
    by_cases e : i = v
    · subst e
      refine ⟨g r, ⟨r, by omega, by omega, rfl⟩, ?_⟩
      have : swB g r i i = g r := by unfold swB swA; rw [if_neg (by omega), if_pos rfl]
      unfold swC; rw [if_pos (by omega), this]
    · refine ⟨g i, ⟨i, by omega, hi2, rfl⟩, ?_⟩
      have : swB g r v i = g i := by unfold swB swA; rw [if_neg (by omega), if_neg e]
      unfold swC; rw [if_pos (by omega), this]
theorem SOwn.at {w : World} {lo hi n cap b off : Nat} {f : Nat → Value} (h : SOwn w lo hi (some ⟨b, off, none⟩) n cap f) (j : Nat) (hj : j < n) : w.cell? ⟨b, off + j, none⟩ = some (f j) ∧ w.frozen? ⟨b, off + j, none⟩ = false := by
  constructor
  · rcases h.sin with h0 | ⟨b', off', e, g1, g2, g3, g4, g5, g6⟩
    · omega
    · obtain ⟨rfl, rfl⟩ : b = b' ∧ off = off' := by simpa using e
      exact g6 j hj
  · rcases h.free with h0 | hf
    · omega
    · exact hf b off rfl j hj
theorem rowF_get {f : Nat → Value} {n j : Nat} {u : Value} (h : (rowF f n)[j]? = some u) : j < n ∧ u = f j := by
  have hj : j < n := by
    rcases Nat.lt_or_ge j n with q | q
    · exact q
    · rw [List.getElem?_eq_none (by rw [rowF_len]; exact q)] at h; cases h
  rw [rowF_at f n j hj] at h
  exact ⟨hj, (Option.some.inj h).symm⟩
theorem add_at (b off j : Nat) : (⟨b, off, none⟩ : Addr).add j = ⟨b, off + j, none⟩ := by
  unfold Addr.add; split <;> simp_all
set_option maxRecDepth 100000 in
set_option maxHeartbeats 2000000 in
theorem specRank_in (a : Option Addr) (lo hi n cap : Nat) (z : Nat → Nat) (w : World) (h : SIn w lo hi a n cap (kI fun i => (z i : Int))) (hA : areW (fun i => (z i : Int)) n = true) (hn : n ≤ 32) :
    Calls Try.prog 55 #[.slice a n cap] w (fun e w' => e = .returned (.tuple #[.int .i64 (rkT (fun x => ∃ i, i < n ∧ x = z i) 32), .bool true]) ∧ Below w.heap.size w w') := by
  have hh := h.ints
  obtain ⟨hn1, _, hw⟩ := areW_of hA
  have hL := Lib.hid (show Left (fun x => ∃ i, i < n ∧ x = z i) 0 (fun x => ∃ i, 0 ≤ i ∧ i < n ∧ x = z i) from fun y => by
    have := Left.start (fun x => ∃ i, i < n ∧ x = z i) y
    simpa using this)
  have hZ := Lib.hid (show ∀ i, i < n → z i < 4294967296 from fun i hi => by have := hw i hi; omega)
  have hR := Lib.hid (show 0 = rkT (fun x => ∃ i, i < n ∧ x = z i) 0 from rfl)
  clear hw
  generalize (fun x => ∃ i, i < n ∧ x = z i) = M at *
  obtain ⟨i0, hi, hz0, hz1, hz2⟩ := info_parts infoInt
  rcases h.ints with h0 | ⟨b, off, rfl, h1, h2, h3, h4⟩
  · omega
  clear h
  unfold maxLen at h2
  have hh4 := Lib.hid h4
  have HI := Lib.hid hi
  have HZ := Lib.hid (And.intro hz0 (And.intro hz1 hz2))
  clear hi hz0 hz1 hz2 h4
  go_enter Try.func55, Try.ntmps55
  go_upto_region 3 with (go_at_call 71; refine (l02Are_any _ _ _ _ _ hh (by omega)).mono ?_; rintro e w' ⟨rfl, rfl⟩)
  have hG := Grow.start (B := w.heap.size) (e := 2) (kI fun i => (z i : Int)) (Below.refl w.heap.size w) (Nat.le_refl _) (Nat.le_refl _)
  have hc := fun i hi => (alloc_cell (hh4.out i hi) h3 (.cells #[] 2))
  go_wp2_with (at_builtin; refine wpList_append_own _ rfl _ _ 44 rfl w.heap.size 2 i0 (.int .i64 0) 1 8 Try.underlying44 HI.out HZ.out.1 HZ.out.2.1 HZ.out.2.2 rfl (by decide) _ 0 [] rfl hG.own ⟨b, off, none⟩ n cap (rowF (kI fun i => (z i : Int)) n) rfl (by rw [rowF_len, Nat.mul_one]) ?c1 ?c2 ?c3 ?c4 ?c5 ?_)
  case c1 =>
    intro j u hu
    obtain ⟨hj, rfl⟩ := rowF_get hu
    rw [add_at]
    exact hc j hj
  case c2 =>
    intro u hu
    obtain ⟨j, _, rfl⟩ := List.mem_map.1 hu
    rfl
  case c3 => unfold maxLen; omega
  case c4 => omega
  case c5 => simp
  intro v' w1 ho hg _
  obtain ⟨a', cap', rfl, hN⟩ := (hG.copy ho hg).form
  have hsz : n = 0 ∨ cap' ≤ 9223372036854775807 := by
    rcases hN.own.sin with h0 | ⟨b', o', rfl, t1, t2, t3, t4, t5, t6⟩
    · exact .inl h0
    · unfold maxLen at t4; exact .inr (by omega)
  rcases hN.own.sin with h0 | ⟨b', o', rfl, t1, t2, t3, t4, t5, t6⟩
  · omega
  have hO := Lib.hid hN.own
  have hB := Lib.hid hN.bel
  unfold maxLen at t4
  clear hN ho hg hG hc hh hh4 t6 hsz hA HI HZ
  generalize w1.heap.size = H at *
  go_wp2
  go_loopw [5, 6] (fun s5 s6 wr => ∃ (t r : Nat) (g : Nat → Nat), t ≤ 32 ∧ s6 = .int .i64 (31 - (t : Int)) ∧ s5 = .int .i64 r ∧ r ≤ n ∧ Hid (r = rkT M t) ∧ Hid (Left M t (fun x => ∃ i, r ≤ i ∧ i < n ∧ x = g i)) ∧ Hid (∀ i, i < n → g i < 4294967296) ∧ Hid (SOwn wr w.heap.size H (some ⟨b', o', none⟩) n cap' (kI fun i => (g i : Int))) ∧ Hid (Below w.heap.size w wr)) (fun _ s6 _ => (intOf s6 + 1).toNat)
  case atStart => exact ⟨0, 0, z, by omega, by go_num, rfl, Nat.zero_le _, hR, hL, hZ, hO, hB⟩
  case round =>
    obtain ⟨t, r, g, ht, rfl, rfl, hrn, hR, hL, hZ, hO, hB⟩ := hrel
    by_cases hlt : t < 32
    · obtain ⟨b, hb⟩ : ∃ b : Nat, b = 31 - t := ⟨_, rfl⟩
      have hb2 : (31 : Int) - (t : Int) = (b : Int) := by omega
      have hb3 : b ≤ 31 := by omega
      have hR := Lib.hid (show 31 - t = b ∧ t < 32 ∧ r = rkT M t from ⟨hb.symm, hlt, hR.out⟩)
      rw [hb2]
      clear hb hlt ht
      go_wp2
      go_loop [7] (fun s7 => ∃ v : Nat, r ≤ v ∧ v ≤ n ∧ s7 = .int .i64 v ∧ Hid (∀ i, r ≤ i → i < v → (g i).testBit b = false)) (fun s7 => n - (intOf s7).toNat)
      case atStart => exact ⟨r, Nat.le_refl _, hrn, rfl, Lib.hid fun i h1 h2 => by omega⟩
      case round =>
        obtain ⟨v, hv1, hv2, rfl, hlow⟩ := hrel
        by_cases hvn : v < n
        · have x1 := (hO.out.at v hvn).1
          change wr.cell? ⟨b', o' + v, none⟩ = some (.int .i64 (g v)) at x1
          have gz := hZ.out v hvn
          cases hbit : (g v).testBit b with
          | false =>
            have e1 : bits .and .i64 ((g v : Int) / 2 ^ b) 1 = 0 := by rw [bit_i64, hbit]; rfl
            have hbit := Lib.hid hbit
            go_wp2
            exact ⟨⟨v + 1, by omega, by omega, by go_num, Lib.hid fun i h1 h2 => by
              by_cases e : i = v
              · rw [e]; exact hbit.out
              · exact hlow.out i h1 (by omega)⟩, by simp [intOf]; omega⟩
          | true =>
            have e1 : bits .and .i64 ((g v : Int) / 2 ^ b) 1 = 1 := by rw [bit_i64, hbit]; rfl
            have hbit := Lib.hid hbit
            have hr : r < n := by omega
            have x2 := (hO.out.at r hr).1
            change wr.cell? ⟨b', o' + r, none⟩ = some (.int .i64 (g r)) at x2
            have gr := hZ.out r hr
            have f1 := (hO.out.at v hvn).2
            have P1 := hO.out.put (g := kI fun i => (swA g r v i : Int)) hvn (fun i hi => by simp [swA, hi])
            rw [show kI (fun i => (swA g r v i : Int)) v = .int .i64 (g r) by simp [swA]] at P1
            have x3 := (P1.at r hr).1
            have f3 := (P1.at r hr).2
            have P2 := P1.put (g := kI fun i => (swB g r v i : Int)) hr (fun i hi => by simp [swB, hi])
            rw [show kI (fun i => (swB g r v i : Int)) r = .int .i64 (g v) by simp [swB]] at P2
            have P2 := Lib.hid P2
            have B2 := Lib.hid ((hB.out.setCell (p := ⟨b', o' + v, none⟩) t1 (.int .i64 (g r))).setCell (p := ⟨b', o' + r, none⟩) t1 (.int .i64 (g v)))
            clear P1
            go_wp2
            clear x1 x2 x3 f1 f3 e1
            have hgv := Lib.hid gz
            have hB0 := Lib.hid (fun i hi => swB_lt (r := r) (v := v) hZ.out hr hvn i hi)
            have hP0 := Lib.hid (show SOwn _ w.heap.size H (some ⟨b', o', none⟩) n cap' (kI fun i => (swC g b r v (r + 1) i : Int)) from P2.out.congr fun i hi => by
              have es : swC g b r v (r + 1) i = swB g r v i := by unfold swC; rw [if_neg (by omega)]
              exact congrArg (fun q : Nat => Value.int .i64 (q : Int)) es.symm)
            clear P2
            generalize ((wr.setCell ⟨b', o' + v, none⟩ (.int .i64 (g r))).setCell ⟨b', o' + r, none⟩ (.int .i64 (g v))) = U at *
            go_loopw [9] (fun s9 wx => ∃ j : Nat, r + 1 ≤ j ∧ j ≤ n ∧ s9 = .int .i64 j ∧ Hid (SOwn wx w.heap.size H (some ⟨b', o', none⟩) n cap' (kI fun i => (swC g b r v j i : Int))) ∧ Hid (Below w.heap.size w wx)) (fun s9 _ => n - (intOf s9).toNat)
            case atStart => exact ⟨r + 1, Nat.le_refl _, by omega, by go_num, hP0, B2⟩
            case round =>
              obtain ⟨j, hj1, hj2, rfl, hO2, hB2⟩ := hrel
              clear hP0 B2
              by_cases hjn : j < n
              · have ej : swC g b r v j j = swB g r v j := by unfold swC; rw [if_neg (by omega)]
                have y1 := (hO2.out.at j hjn).1
                rw [show kI (fun i => (swC g b r v j i : Int)) j = .int .i64 (swB g r v j) by simp [ej]] at y1
                have f4 := (hO2.out.at j hjn).2
                have hj := hB0.out j hjn
                have hnext : ∀ i, i ≠ j → swC g b r v (j + 1) i = swC g b r v j i := fun i hi => by
                  have : (r < i ∧ i < j + 1) = (r < i ∧ i < j) := by apply propext; omega
                  simp only [swC, this]
                have hat : swC g b r v (j + 1) j = red b (g v) (swB g r v j) := by unfold swC; rw [if_pos (by omega)]
                cases hq : (swB g r v j).testBit b with
                | false =>
                  have e1 : bits .and .i64 ((swB g r v j : Int) / 2 ^ b) 1 = 0 := by rw [bit_i64, hq]; rfl
                  have P := Lib.hid (hO2.out.congr (g := kI fun i => (swC g b r v (j + 1) i : Int)) fun i hi => by
                    have e5 : swC g b r v j i = swC g b r v (j + 1) i := by
                      by_cases e : i = j
                      · rw [e, hat, ej]; simp [red, hq]
                      · exact (hnext i e).symm
                    exact congrArg (fun q : Nat => Value.int .i64 (q : Int)) e5)
                  clear ej hnext hat hq
                  go_wp2
                  exact ⟨⟨j + 1, by omega, by omega, by go_num, P, hB2⟩, by simp [intOf]; omega⟩
                | true =>
                  have e1 : bits .and .i64 ((swB g r v j : Int) / 2 ^ b) 1 = 1 := by rw [bit_i64, hq]; rfl
                  have e2 := xor_i64 (swB g r v j) (g v) hj gz
                  have P := hO2.out.put (g := kI fun i => (swC g b r v (j + 1) i : Int)) hjn (fun i hi => congrArg (fun q : Nat => Value.int .i64 (q : Int)) (hnext i hi))
                  rw [show kI (fun i => (swC g b r v (j + 1) i : Int)) j = .int .i64 ((swB g r v j ^^^ g v : Nat) : Int) by simp [hat, red, hq]] at P
                  have P := Lib.hid P
                  clear ej hnext hat hq
                  go_wp2
                  exact ⟨⟨j + 1, by omega, by omega, by go_num, P, Lib.hid (hB2.out.setCell (p := ⟨b', o' + j, none⟩) t1 _)⟩, by simp [intOf]; omega⟩
              · obtain rfl : j = n := by omega
                have hx := Lib.hid (hL.out.some hR.out.2.1 (show Cut (31 - t) (g v) _ _ by rw [hR.out.1]; exact sw_cut hv1 hvn hbit.out))
                have hn2 := Lib.hid (fun i hi => swC_lt (b := b) (j := j) (r := r) (v := v) hZ.out hr hvn i hi)
                clear hZ hB0
                go_wp2
                exact ⟨⟨t + 1, r + 1, swC g b r v j, by have := hR.out.2.1; omega, by have := hR.out; simp; omega, by go_num, by omega, Lib.hid (by rw [hx.out.2, hR.out.2.2]), Lib.hid hx.out.1, hn2, hO2, hB2⟩, by simp [intOf] <;> omega⟩
        · obtain rfl : v = n := by omega
          have hx := Lib.hid (hL.out.none hR.out.2.1 (fun x hx => by
            obtain ⟨i, h1, h2, rfl⟩ := hx
            rw [hR.out.1]; exact hlow.out i h1 h2))
          go_wp2
          exact ⟨⟨t + 1, r, g, by have := hR.out.2.1; omega, by have := hR.out; congr 1; omega, rfl, hrn, Lib.hid (by rw [hx.out.2]; exact hR.out.2.2), Lib.hid hx.out.1, hZ, hO, hB⟩, by simp [intOf] <;> omega⟩
    · obtain rfl : t = 32 := by omega
      have r32 := rkT_le M 32
      go_wp2
      go_ret2
      exact ⟨by rw [hR.out]; rfl, hB.out⟩
end Go.Proofs.Ytlaelfaalgmicaa
