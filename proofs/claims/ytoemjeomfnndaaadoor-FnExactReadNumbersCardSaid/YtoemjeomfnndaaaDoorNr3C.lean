/- ReadNumbers: the implementation. -/
import Derived.Test.YtoemjeomfnndaaaDoorNrC
namespace Go.Proofs.YtoemjeomfnndaaaDoor
open Go.RowKit Go.Shelf
set_option linter.unusedVariables false
set_option maxRecDepth 100000 in
set_option maxHeartbeats 2000000 in
theorem implReadN_any (s : ByteArray) (w : World) (hs : s.size ≤ 1048576) (hV : VarsN w) :
    Calls Tryd.prog 17 #[.string s] w (OutH s.data.toList w) := by
  have hV := Lib.hid hV
  by_cases h0 : s.data.toList = noneW
  · have hr := Lib.hid (rd_none (q := qN) (M := 256) h0)
    have C := Lib.hid (parts_none s w h0)
    have hF := Lib.hid (Grow.start (B := w.heap.size) (e := 51) (kF (fH s.data.toList)) (Below.refl w.heap.size w) (Nat.le_refl _) (Nat.le_refl _))
    clear h0
    go_enter Tryd.func17, Tryd.ntmps17
    go_wp2_with (go_at_call 39; refine C.out.mono ?_; rintro e w' ⟨rfl, rfl⟩)
    refine wp_loop_rounds 1 ?_
    rw [rounds_succ]
    go_wp2
    go_ret2
    exact OutH.yes hr.out hF.out rfl
  · have C := Lib.hid (parts_any s w hs hV.out.maxl h0)
    have hN := pcs_len s.data.toList
    rw [len_of] at hN
    have hO : ∀ k, qN (pc s.data.toList k) = false → k < (pcs s.data.toList).length → rdOk qN 256 s.data.toList = false ∧ rdN qN 256 s.data.toList = 0 := fun k h1 h2 => rd_bad h0 h2 h1
    have hO := Lib.hid hO
    have hM := Lib.hid (fun h => rd_many (q := qN) (M := 256) h0 h)
    have hY := Lib.hid (fun h1 h2 => rd_yes (q := qN) (M := 256) h0 h1 h2)
    have hz := Lib.hid (fun k => pc_size s.data.toList k)
    have hl := len_of s
    clear h0
    generalize hLL : s.data.toList = L at *
    obtain ⟨i0, hi, hz0, hz1, hz2⟩ := info_parts infoF32
    have HI := Lib.hid hi
    have HZ := Lib.hid (And.intro hz0 (And.intro hz1 hz2))
    clear hi hz0 hz1 hz2 hLL
    generalize hn : (pcs L).length = n at *
    go_enter Tryd.func17, Tryd.ntmps17
    go_wp2_with (go_at_call 39; refine C.out.mono ?_; rintro e w1 ⟨aP, cP, rfl, nP, tP⟩; rw [hn] at nP; rw [hn])
    have hP := Lib.hid nP.own.sin
    have tP := Lib.hid tP
    have hF1 := Lib.hid (Grow.start (B := w.heap.size) (e := 51) (kF (fH L)) nP.bel (Nat.le_refl _) nP.bel.size)
    clear nP
    go_loopw [5, 15] (fun v i wr => ∃ k : Nat, k ≤ n ∧ i = .int .i64 k ∧ Hid (Grow w.heap.size w 51 v k (kF (fH L)) wr) ∧ Hid (∀ b off c fz, aP = some ⟨b, off, none⟩ → w1.heap[b]? = some (.cells c 9 fz) → wr.heap[b]? = some (.cells c 9 fz)) ∧ Hid (allS (fun i => qN (pc L i)) k = true) ∧ (k = 0 ∨ n ≤ 256)) (fun _ i _ => n - (intOf i).toNat)
    case atStart => exact ⟨0, Nat.zero_le _, rfl, hF1, Lib.hid (fun b off c fz e q => by rw [Below.heap_alloc _ _ _ (Array.getElem?_eq_some_iff.1 q).1, q]), Lib.hid rfl, .inl rfl⟩
    case round =>
      obtain ⟨k, hk, rfl, hG, hB, hA, h64⟩ := hrel
      clear hF1
      by_cases hlt : k < n
      · rcases hP.out with h9 | ⟨b, off, rfl, _, _, h1, h2, h3, h4⟩
        · omega
        obtain ⟨c9, f9, ht⟩ := tP.out b off rfl
        have hk1 := hB.out b off c9 f9 rfl ht
        have hc1 : wr.cell? ⟨b, off + k, none⟩ = some (.string ⟨(pc L k).toArray⟩) := by rw [World.cell?_of_block (w := w1) (by rw [hk1, ht])]; exact h4 k hlt
        have hsz := hz.out k
        have V : ∀ W, ErrsIn W → Bru W → _ := fun W q1 q2 => readHex_any ⟨(pc L k).toArray⟩ W (by rw [size_list]; omega) q1 q2
        rw [back_list] at V
        have V := Lib.hid (V wr (hV.out.errs.bel hG.out.bel) (hV.out.bru.bel hG.out.bel))
        unfold maxLen at h2
        clear h4 hP
        cases hq : qN (pc L k) with
        | false =>
          have hr := Lib.hid (hO.out k hq hlt)
          have hv : True := trivial
          go_wp2_with (go_at_call 41; refine V.out.mono ?_; rintro e w2 ⟨he, b2⟩; obtain ⟨x0, rfl, hx0⟩ := he; rw [hq]; have hx0 := Lib.hid hx0)
          go_ret2
          exact OutH.no hr.out (bel_next hG.out.bel b2) rfl
        | true =>
          obtain ⟨v0, hv⟩ : ∃ v0, numN (pc L k) = some v0 := Option.isSome_iff_exists.1 hq
          by_cases hbig : 256 < n
          · have hr := Lib.hid (hM.out (by omega))
            go_wp2_with (go_at_call 41; refine V.out.mono ?_; rintro e w2 ⟨he, b2⟩; obtain ⟨x0, rfl, hx0⟩ := he; rw [hq]; have hx0 := Lib.hid hx0)
            go_ret2
            exact OutH.no hr.out (bel_next hG.out.bel b2) rfl
          · have hfk : fH L k = v0 := by unfold fH; rw [hv]; rfl
            have hv2 := Lib.hid hv
            have hA2 := Lib.hid (show allS (fun i => qN (pc L i)) (k + 1) = true by rw [allS_succ, hA.out, hq]; rfl)
            go_wp2_with (first
              | (go_at_call 41; refine V.out.mono ?_; rintro e w2 ⟨he, b2⟩; obtain ⟨x0, rfl, hx0⟩ := he; rw [hq]; have hx0 := Lib.hid hx0; have hG2 := Lib.hid (hG.out.later b2); have hk2 := (b2.block b (Array.getElem?_eq_some_iff.1 hk1).1).trans hk1)
              | (at_builtin; refine wpList_append_own _ rfl _ _ 28 rfl (w.heap.size) 51 i0 (.float .f32 0) 1 4 Tryd.underlying28 HI.out HZ.out.1 HZ.out.2.1 HZ.out.2.2 rfl (by decide) _ _ _ rfl (hG2.out.own.alloc _) ⟨w2.heap.size, 0, none⟩ 1 1 [kF (fH L) k] rfl rfl ?c1 ?c2 ?c3 ?c4 ?c5 ?_))
            case c1 => rw [show kF (fH L) k = Value.float .f32 v0 by rw [← hfk]]; exact cell_one_new _ _ _
            case c2 => intro u hu; simp at hu; subst hu; rfl
            case c3 => unfold maxLen; omega
            case c4 => omega
            case c5 => have := hG2.out.hi; simp; omega
            intro v' w3 hown' hgrow _
            have R := Lib.hid (hG2.out.step hown' hgrow)
            have K := hG2.out.keeps hgrow hk2 (by decide)
            have K2 := Lib.hid (fun (b' off' : Nat) (c' : Array Value) (f' : Nat × Nat) (e' : some (⟨b, off, none⟩ : Addr) = some ⟨b', off', none⟩) (q : w1.heap[b']? = some (.cells c' 9 f')) => (show w3.heap[b']? = some (.cells c' 9 f') by
              obtain ⟨rfl, rfl⟩ : b = b' ∧ off = off' := by simpa using e'
              rw [← q, ht]; exact K))
            clear hown' hgrow hG hG2
            go_wp2
            exact ⟨⟨k + 1, by omega, by go_num, R, K2, hA2, .inr (by omega)⟩, by simp [intOf]; omega⟩
      · obtain rfl : k = n := by omega
        have hp : 1 ≤ k := by rw [← hn]; exact pcs_pos L
        have hr := Lib.hid (hY.out (by omega) hA.out)
        go_wp2
        go_ret2
        exact OutH.yes hr.out hG.out rfl
end Go.Proofs.YtoemjeomfnndaaaDoor
