/- ReadList: both sides. -/
import Derived.Test.YtoemjeomfnndaaaDoorCutC
namespace Go.Proofs.YtoemjeomfnndaaaDoor
open Go.RowKit Go.Shelf
set_option linter.unusedVariables false
/-- Is this a number's text? -/
noncomputable def qI (l : List UInt8) : Bool := (valT l).isSome
/-- The numbers of a text. -/
noncomputable def fI (l : List UInt8) : Nat → Int := fun i => (valT (pc l i)).getD 0
abbrev OutL (l : List UInt8) (w : World) (e : Ending) (w' : World) : Prop := OutS (rdN qI 64 l) (rdOk qI 64 l) (kI (fI l)) w e w'
theorem OutL.no {l : List UInt8} {w w' : World} {e : Ending} (h : rdOk qI 64 l = false ∧ rdN qI 64 l = 0) (hb : Below w.heap.size w w') (he : e = .returned (.tuple #[.slice none 0 0, .bool false])) : OutL l w e w' := by
  unfold OutL; rw [h.1, h.2]; exact OutS.fail hb he
theorem OutL.yes {l : List UInt8} {w wr : World} {v : Value} {k : Nat} {en : Ending} (h : rdOk qI 64 l = true ∧ rdN qI 64 l = k) (hG : Grow w.heap.size w 2 v k (kI (fI l)) wr) (he : en = .returned (.tuple #[v, .bool true])) : OutL l w en wr := by
  unfold OutL; rw [h.1, h.2]; exact hG.out he
theorem none_is {s : ByteArray} (h : s.data.toList = noneW) : (s.toList == [110, 111, 110, 101]) = true := by
  rw [Lib.toList_data, beq_iff_eq]; exact h
theorem none_ne {s : ByteArray} (h : s.data.toList ≠ noneW) : (s.toList == [110, 111, 110, 101]) = false := by
  rw [Lib.toList_data, beq_eq_false_iff_ne]; exact h
theorem back_list (l : List UInt8) : (⟨l.toArray⟩ : ByteArray).data.toList = l := by simp
set_option maxRecDepth 100000 in
set_option maxHeartbeats 2000000 in
theorem specNums_any (s : ByteArray) (w : World) (hs : s.size ≤ 1048576) :
    Calls Tryd.prog 38 #[.string s] w (OutL s.data.toList w) := by
  have hF := Lib.hid (Grow.start (B := w.heap.size) (e := 2) (kI (fI s.data.toList)) (Below.refl w.heap.size w) (Nat.le_refl _) (Nat.le_refl _))
  by_cases h0 : s.data.toList = noneW
  · have hr := Lib.hid (rd_none (q := qI) (M := 64) h0)
    have hc := none_is h0
    clear h0
    go_enter Tryd.func38, Tryd.ntmps38
    go_wp2
    go_ret2
    exact OutL.yes hr.out hF.out rfl
  · have hc := none_ne h0
    have C := Lib.hid (fun W => l01Cut_any s W hs)
    have hN := pcs_len s.data.toList
    rw [len_of] at hN
    have hO : ∀ k, qI (pc s.data.toList k) = false → k < (pcs s.data.toList).length → rdOk qI 64 s.data.toList = false ∧ rdN qI 64 s.data.toList = 0 := fun k h1 h2 => rd_bad h0 h2 h1
    have hO := Lib.hid hO
    have hM := Lib.hid (fun h => rd_many (q := qI) (M := 64) h0 h)
    have hY := Lib.hid (fun h1 h2 => rd_yes (q := qI) (M := 64) h0 h1 h2)
    have hz := Lib.hid (fun k => pc_size s.data.toList k)
    have hl := len_of s
    clear h0
    generalize hLL : s.data.toList = L at *
    obtain ⟨i0, hi, hz0, hz1, hz2⟩ := info_parts infoInt
    have HI := Lib.hid hi
    have HZ := Lib.hid (And.intro hz0 (And.intro hz1 hz2))
    clear hi hz0 hz1 hz2 hLL
    go_enter Tryd.func38, Tryd.ntmps38
    go_wp2_with fail
    have hW0 := (Below.refl w.heap.size w).alloc (Nat.le_refl _) (.cells #[] 2)
    refine (C.out _).mono ?_
    rintro e w1 ⟨aP, cP, rfl, nP, tP⟩
    have hF1 := Lib.hid (hF.out.later nP.bel)
    generalize hn : (pcs L).length = n at *
    by_cases hbig : 64 < n
    · have hr := Lib.hid (hM.out (by omega))
      have hb := Lib.hid hF1.out.bel
      clear hF hF1 nP hW0
      go_wp2
      go_ret2
      exact OutL.no hr.out hb.out rfl
    · have hP := Lib.hid nP.own.sin
      have tP := Lib.hid tP
      clear hF nP hW0
      go_wp2
      go_loopw [4, 6] (fun v i wr => ∃ k : Nat, k ≤ n ∧ i = .int .i64 k ∧ Hid (Grow w.heap.size w 2 v k (kI (fI L)) wr) ∧ Hid (∀ b off c fz, aP = some ⟨b, off, none⟩ → w1.heap[b]? = some (.cells c 9 fz) → wr.heap[b]? = some (.cells c 9 fz)) ∧ Hid (allS (fun i => qI (pc L i)) k = true)) (fun _ i _ => n - (intOf i).toNat)
      case atStart => exact ⟨0, Nat.zero_le _, rfl, hF1, Lib.hid (fun _ _ _ _ _ q => q), Lib.hid rfl⟩
      case round =>
        obtain ⟨k, hk, rfl, hG, hB, hA⟩ := hrel
        clear hF1
        by_cases hlt : k < n
        · rcases hP.out with h9 | ⟨b, off, rfl, _, _, h1, h2, h3, h4⟩
          · omega
          obtain ⟨c9, f9, ht⟩ := tP.out b off rfl
          have hk1 := hB.out b off c9 f9 rfl ht
          have hc1 : wr.cell? ⟨b, off + k, none⟩ = some (.string ⟨(pc L k).toArray⟩) := by rw [World.cell?_of_block (w := w1) (by rw [hk1, ht])]; exact h4 k hlt
          have hsz := hz.out k
          have V := fun W => l01Value_any ⟨(pc L k).toArray⟩ W (by rw [size_list]; omega)
          rw [back_list] at V
          have V := Lib.hid V
          unfold maxLen at h2
          clear h4 hP
          cases hq : qI (pc L k) with
          | false =>
            have hr := Lib.hid (hO.out k hq hlt)
            have hv : valT (pc L k) = none := by unfold qI at hq; simpa using hq
            go_wp2_with (go_at_call 55; refine (V.out _).mono ?_; rintro e w2 ⟨he, b2⟩; unfold ValE at he; rw [hv] at he; subst he)
            go_ret2
            exact OutL.no hr.out (bel_next hG.out.bel b2) rfl
          | true =>
            obtain ⟨v0, hv⟩ : ∃ v0, valT (pc L k) = some v0 := Option.isSome_iff_exists.1 hq
            have hfk : fI L k = v0 := by unfold fI; rw [hv]; rfl
            have hA2 := Lib.hid (show allS (fun i => qI (pc L i)) (k + 1) = true by rw [allS_succ, hA.out, hq]; rfl)
            go_wp2_with (first
              | (go_at_call 55; refine (V.out _).mono ?_; rintro e w2 ⟨he, b2⟩; unfold ValE at he; rw [hv] at he; subst he; have hG2 := Lib.hid (hG.out.later b2); have hk2 := (b2.block b (Array.getElem?_eq_some_iff.1 hk1).1).trans hk1)
              | (at_builtin; refine wpList_append_own _ rfl _ _ 22 rfl (w.heap.size) 2 i0 (.int .i64 0) 1 8 Tryd.underlying22 HI.out HZ.out.1 HZ.out.2.1 HZ.out.2.2 rfl (by decide) _ _ _ rfl (hG2.out.own.alloc _) ⟨w2.heap.size, 0, none⟩ 1 1 [kI (fI L) k] rfl rfl ?c1 ?c2 ?c3 ?c4 ?c5 ?_))
            case c1 => rw [show kI (fI L) k = Value.int .i64 v0 by rw [← hfk]]; exact cell_one_new _ _ _
            case c2 => intro u hu; simp at hu; subst hu; rfl
            case c3 => unfold maxLen; omega
            case c4 => omega
            case c5 => have := hG2.out.hi; simp; omega
            intro v' w3 hown' hgrow _
            have R := Lib.hid (hG2.out.step hown' hgrow)
            have K := hG2.out.keeps hgrow hk2 (by decide)
            have K2 := Lib.hid (fun (b' off' : Nat) (c' : Array Value) (f' : Nat × Nat) (e' : some (⟨b, off, none⟩ : Addr) = some ⟨b', off', none⟩) (q : w1.heap[b']? = some (.cells c' 9 f')) => (show w3.heap[b']? = some (.cells c' 9 f') by
              obtain ⟨rfl, rfl⟩ : b = b' ∧ off = off' := by simpa using e'
              rw [← q, ht]; exact K))
            clear hown' hgrow hG hG2
            go_wp2
            exact ⟨⟨k + 1, by omega, by go_num, R, K2, hA2⟩, by simp [intOf]; omega⟩
        · obtain rfl : k = n := by omega
          have hr := Lib.hid (hY.out (by omega) hA.out)
          go_wp2
          go_ret2
          exact OutL.yes hr.out hG.out rfl
theorem specReadL_any (s : ByteArray) (w : World) (hs : s.size ≤ 1048576) :
    Calls Tryd.prog 11 #[.string s] w (OutL s.data.toList w) := by
  have C := Lib.hid (specNums_any s w hs)
  go_enter Tryd.func11, Tryd.ntmps11
  go_wp2_with fail
  refine C.out.mono ?_
  rintro e w' ⟨a, cap, rfl, hn⟩
  have hn := Lib.hid hn
  go_wp2
  go_ret2
  exact ⟨a, cap, rfl, hn.out⟩
theorem parts_none (s : ByteArray) (w : World) (h : s.data.toList = noneW) :
    Calls Tryd.prog 39 #[.string s] w fun e w' => e = .returned (.slice none 0 0) ∧ w = w' := by
  have hc := none_is h
  clear h
  go_enter Tryd.func39, Tryd.ntmps39
  go_wp2
  go_ret
  exact ⟨rfl, rfl⟩
theorem parts_any (s : ByteArray) (w : World) (hs : s.size ≤ 1048576) (hm : MaxC w) (h : s.data.toList ≠ noneW) :
    Calls Tryd.prog 39 #[.string s] w (OutP s.data.toList w) := by
  have hc := none_ne h
  have C := Lib.hid (split_any s w hs hm)
  clear h hm
  go_enter Tryd.func39, Tryd.ntmps39
  go_wp2_with fail
  refine C.out.mono ?_
  rintro e w' ⟨a, cap, rfl, hn⟩
  have hn := Lib.hid hn
  go_wp2
  go_ret
  exact ⟨a, cap, rfl, hn.out⟩
/-- What the implementation leans on: variables of the library. -/
structure Vars (w : World) : Prop where
  pow : Pow w
  errs : ErrsIn w
  maxl : MaxC w
theorem Vars.bel {w w' : World} (h : Vars w) (hb : Below w.heap.size w w') : Vars w' := ⟨pow_bel h.pow hb, h.errs.bel hb, h.maxl.bel hb⟩
set_option maxRecDepth 100000 in
set_option maxHeartbeats 2000000 in
theorem implReadL_any (s : ByteArray) (w : World) (hs : s.size ≤ 1048576) (hV : Vars w) :
    Calls Tryd.prog 12 #[.string s] w (OutL s.data.toList w) := by
  have hV := Lib.hid hV
  by_cases h0 : s.data.toList = noneW
  · have hr := Lib.hid (rd_none (q := qI) (M := 64) h0)
    have C := Lib.hid (parts_none s w h0)
    have hF := Lib.hid (Grow.start (B := w.heap.size) (e := 2) (kI (fI s.data.toList)) (Below.refl w.heap.size w) (Nat.le_refl _) (Nat.le_refl _))
    clear h0
    go_enter Tryd.func12, Tryd.ntmps12
    go_wp2_with (go_at_call 39; refine C.out.mono ?_; rintro e w' ⟨rfl, rfl⟩)
    refine wp_loop_rounds 1 ?_
    rw [rounds_succ]
    go_wp2
    go_ret2
    exact OutL.yes hr.out hF.out rfl
  · have C := Lib.hid (parts_any s w hs hV.out.maxl h0)
    have hN := pcs_len s.data.toList
    rw [len_of] at hN
    have hO : ∀ k, qI (pc s.data.toList k) = false → k < (pcs s.data.toList).length → rdOk qI 64 s.data.toList = false ∧ rdN qI 64 s.data.toList = 0 := fun k h1 h2 => rd_bad h0 h2 h1
    have hO := Lib.hid hO
    have hM := Lib.hid (fun h => rd_many (q := qI) (M := 64) h0 h)
    have hY := Lib.hid (fun h1 h2 => rd_yes (q := qI) (M := 64) h0 h1 h2)
    have hz := Lib.hid (fun k => pc_size s.data.toList k)
    have hl := len_of s
    clear h0
    generalize hLL : s.data.toList = L at *
    obtain ⟨i0, hi, hz0, hz1, hz2⟩ := info_parts infoInt
    have HI := Lib.hid hi
    have HZ := Lib.hid (And.intro hz0 (And.intro hz1 hz2))
    clear hi hz0 hz1 hz2 hLL
    generalize hn : (pcs L).length = n at *
    go_enter Tryd.func12, Tryd.ntmps12
    go_wp2_with (go_at_call 39; refine C.out.mono ?_; rintro e w1 ⟨aP, cP, rfl, nP, tP⟩; rw [hn] at nP; rw [hn])
    have hP := Lib.hid nP.own.sin
    have tP := Lib.hid tP
    have hF1 := Lib.hid (Grow.start (B := w.heap.size) (e := 2) (kI (fI L)) nP.bel (Nat.le_refl _) nP.bel.size)
    clear nP
    go_loopw [5, 15] (fun v i wr => ∃ k : Nat, k ≤ n ∧ i = .int .i64 k ∧ Hid (Grow w.heap.size w 2 v k (kI (fI L)) wr) ∧ Hid (∀ b off c fz, aP = some ⟨b, off, none⟩ → w1.heap[b]? = some (.cells c 9 fz) → wr.heap[b]? = some (.cells c 9 fz)) ∧ Hid (allS (fun i => qI (pc L i)) k = true) ∧ (k = 0 ∨ n ≤ 64)) (fun _ i _ => n - (intOf i).toNat)
    case atStart => exact ⟨0, Nat.zero_le _, rfl, hF1, Lib.hid (fun b off c fz e q => by rw [Below.heap_alloc _ _ _ (Array.getElem?_eq_some_iff.1 q).1, q]), Lib.hid rfl, .inl rfl⟩
    case round =>
      obtain ⟨k, hk, rfl, hG, hB, hA, h64⟩ := hrel
      clear hF1
      by_cases hlt : k < n
      · rcases hP.out with h9 | ⟨b, off, rfl, _, _, h1, h2, h3, h4⟩
        · omega
        obtain ⟨c9, f9, ht⟩ := tP.out b off rfl
        have hk1 := hB.out b off c9 f9 rfl ht
        have hc1 : wr.cell? ⟨b, off + k, none⟩ = some (.string ⟨(pc L k).toArray⟩) := by rw [World.cell?_of_block (w := w1) (by rw [hk1, ht])]; exact h4 k hlt
        have hsz := hz.out k
        have V : ∀ W, Pow W → ErrsIn W → _ := fun W q1 q2 => implRead_any ⟨(pc L k).toArray⟩ W (by rw [size_list]; omega) q1 q2
        rw [back_list] at V
        have V := Lib.hid (V wr (pow_bel hV.out.pow hG.out.bel) (hV.out.errs.bel hG.out.bel))
        unfold maxLen at h2
        clear h4 hP
        cases hq : qI (pc L k) with
        | false =>
          have hr := Lib.hid (hO.out k hq hlt)
          have hv : valT (pc L k) = none := by unfold qI at hq; simpa using hq
          go_wp2_with (go_at_call 37; refine V.out.mono ?_; rintro e w2 ⟨he, b2⟩; unfold ValE at he; rw [hv] at he; subst he)
          go_ret2
          exact OutL.no hr.out (bel_next hG.out.bel b2) rfl
        | true =>
          obtain ⟨v0, hv⟩ : ∃ v0, valT (pc L k) = some v0 := Option.isSome_iff_exists.1 hq
          by_cases hbig : 64 < n
          · have hr := Lib.hid (hM.out (by omega))
            go_wp2_with (go_at_call 37; refine V.out.mono ?_; rintro e w2 ⟨he, b2⟩; unfold ValE at he; rw [hv] at he; subst he)
            go_ret2
            exact OutL.no hr.out (bel_next hG.out.bel b2) rfl
          · have hfk : fI L k = v0 := by unfold fI; rw [hv]; rfl
            have hA2 := Lib.hid (show allS (fun i => qI (pc L i)) (k + 1) = true by rw [allS_succ, hA.out, hq]; rfl)
            go_wp2_with (first
              | (go_at_call 37; refine V.out.mono ?_; rintro e w2 ⟨he, b2⟩; unfold ValE at he; rw [hv] at he; subst he; have hG2 := Lib.hid (hG.out.later b2); have hk2 := (b2.block b (Array.getElem?_eq_some_iff.1 hk1).1).trans hk1)
              | (at_builtin; refine wpList_append_own _ rfl _ _ 22 rfl (w.heap.size) 2 i0 (.int .i64 0) 1 8 Tryd.underlying22 HI.out HZ.out.1 HZ.out.2.1 HZ.out.2.2 rfl (by decide) _ _ _ rfl (hG2.out.own.alloc _) ⟨w2.heap.size, 0, none⟩ 1 1 [kI (fI L) k] rfl rfl ?c1 ?c2 ?c3 ?c4 ?c5 ?_))
            case c1 => rw [show kI (fI L) k = Value.int .i64 v0 by rw [← hfk]]; exact cell_one_new _ _ _
            case c2 => intro u hu; simp at hu; subst hu; rfl
            case c3 => unfold maxLen; omega
            case c4 => omega
            case c5 => have := hG2.out.hi; simp; omega
            intro v' w3 hown' hgrow _
            have R := Lib.hid (hG2.out.step hown' hgrow)
            have K := hG2.out.keeps hgrow hk2 (by decide)
            have K2 := Lib.hid (fun (b' off' : Nat) (c' : Array Value) (f' : Nat × Nat) (e' : some (⟨b, off, none⟩ : Addr) = some ⟨b', off', none⟩) (q : w1.heap[b']? = some (.cells c' 9 f')) => (show w3.heap[b']? = some (.cells c' 9 f') by
              obtain ⟨rfl, rfl⟩ : b = b' ∧ off = off' := by simpa using e'
              rw [← q, ht]; exact K))
            clear hown' hgrow hG hG2
            go_wp2
            exact ⟨⟨k + 1, by omega, by go_num, R, K2, hA2, .inr (by omega)⟩, by simp [intOf]; omega⟩
      · obtain rfl : k = n := by omega
        have hp : 1 ≤ k := by rw [← hn]; exact pcs_pos L
        have hr := Lib.hid (hY.out (by omega) hA.out)
        go_wp2
        go_ret2
        exact OutL.yes hr.out hG.out rfl
end Go.Proofs.YtoemjeomfnndaaaDoor
