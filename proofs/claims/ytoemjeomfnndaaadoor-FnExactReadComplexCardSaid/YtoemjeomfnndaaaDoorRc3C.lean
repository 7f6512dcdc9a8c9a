/- ReadComplex: the implementation. -/
import Derived.Test.YtoemjeomfnndaaaDoorRcC
namespace Go.Proofs.YtoemjeomfnndaaaDoor
open Go.RowKit Go.Shelf
set_option linter.unusedVariables false
set_option maxRecDepth 100000 in
set_option maxHeartbeats 2000000 in
theorem implReadC_any (s : ByteArray) (w : World) (hs : s.size ≤ 1048576) (hV : VarsN w) :
    Calls Tryd.prog 22 #[.string s] w (OutZ s.data.toList w) := by
  have hV := Lib.hid hV
  by_cases h0 : s.data.toList = noneW
  · have hr := Lib.hid (rd_none (q := qC) (M := 256) h0)
    have C := Lib.hid (parts_none s w h0)
    have hF := Lib.hid (Grow.start (B := w.heap.size) (e := 56) (kC (zR s.data.toList) (zI s.data.toList)) (Below.refl w.heap.size w) (Nat.le_refl _) (Nat.le_refl _))
    clear h0
    go_enter Tryd.func22, Tryd.ntmps22
    go_wp2_with (go_at_call 39; refine C.out.mono ?_; rintro e w' ⟨rfl, rfl⟩)
    refine wp_loop_rounds 1 ?_
    rw [rounds_succ]
    go_wp2
    go_ret2
    exact OutZ.yes hr.out hF.out rfl
  · have C := Lib.hid (parts_any s w hs hV.out.maxl h0)
    have hN := pcs_len s.data.toList
    rw [len_of] at hN
    have hO : ∀ k, qC (pc s.data.toList k) = false → k < (pcs s.data.toList).length → rdOk qC 256 s.data.toList = false ∧ rdN qC 256 s.data.toList = 0 := fun k h1 h2 => rd_bad h0 h2 h1
    have hO := Lib.hid hO
    have hM := Lib.hid (fun h => rd_many (q := qC) (M := 256) h0 h)
    have hY := Lib.hid (fun h1 h2 => rd_yes (q := qC) (M := 256) h0 h1 h2)
    have hz := Lib.hid (fun k => pc_size s.data.toList k)
    have hl := len_of s
    clear h0
    generalize hLL : s.data.toList = L at *
    obtain ⟨i0, hi, hz0, hz1, hz2⟩ := info_parts infoC64
    have HI := Lib.hid hi
    have HZ := Lib.hid (And.intro hz0 (And.intro hz1 hz2))
    clear hi hz0 hz1 hz2 hLL
    generalize hn : (pcs L).length = n at *
    go_enter Tryd.func22, Tryd.ntmps22
    go_wp2_with (go_at_call 39; refine C.out.mono ?_; rintro e w1 ⟨aP, cP, rfl, nP, tP⟩; rw [hn] at nP; rw [hn])
    have hP := Lib.hid nP.own.sin
    have tP := Lib.hid tP
    have hF1 := Lib.hid (Grow.start (B := w.heap.size) (e := 56) (kC (zR L) (zI L)) nP.bel (Nat.le_refl _) nP.bel.size)
    clear nP
    go_loopw [5, 17] (fun v i wr => ∃ k : Nat, k ≤ n ∧ i = .int .i64 k ∧ Hid (Grow w.heap.size w 56 v k (kC (zR L) (zI L)) wr) ∧ Hid (∀ b off c fz, aP = some ⟨b, off, none⟩ → w1.heap[b]? = some (.cells c 9 fz) → wr.heap[b]? = some (.cells c 9 fz)) ∧ Hid (allS (fun i => qC (pc L i)) k = true) ∧ (k = 0 ∨ n ≤ 256)) (fun _ i _ => n - (intOf i).toNat)
    case atStart => exact ⟨0, Nat.zero_le _, rfl, hF1, Lib.hid (fun b off c fz e q => by rw [Below.heap_alloc _ _ _ (Array.getElem?_eq_some_iff.1 q).1, q]), Lib.hid rfl, .inl rfl⟩
    case round =>
      obtain ⟨k, hk, rfl, hG, hB, hA, h64⟩ := hrel
      clear hF1
      by_cases hlt : k < n
      · rcases hP.out with h9 | ⟨b, off, rfl, _, _, h1, h2, h3, h4⟩
        · omega
        obtain ⟨c9, f9, ht⟩ := tP.out b off rfl
        have hk1 := hB.out b off c9 f9 rfl ht
        have hc1 : wr.cell? ⟨b, off + k, none⟩ = some (.string ⟨(pc L k).toArray⟩) := by rw [World.cell?_of_block (w := w1) (by rw [hk1, ht])]; exact h4 k hlt
        have hsz := hz.out k
        unfold maxLen at h2
        clear h4 hP
        have hq0 := Lib.hid (fun (h : qC (pc L k) = false) => hO.out k h hlt)
        have hfk := Lib.hid (fun (a b : Nat) (h : (pc L k).length = 16) (h1 : numN ((pc L k).take 8) = some a) (h2 : numN ((pc L k).drop 8) = some b) => And.intro (fC_of h1 h2) (show allS (fun i => qC (pc L i)) (k + 1) = true by
          rw [allS_succ, hA.out, qC_yes h (qN_of h1) (qN_of h2)]; rfl))
        obtain ⟨S, hS⟩ : ∃ S : ByteArray, S = ⟨(pc L k).toArray⟩ := ⟨_, rfl⟩
        have hSl : S.data.toList = pc L k := by rw [hS]
        rw [← hS] at hc1
        rw [← hSl] at hq0 hfk
        have hSn := len_of S
        have hS2 : S.size ≤ 1048577 := by rw [← hSn, hSl]; omega
        clear hS hsz hSl
        by_cases h16 : S.size = 16
        · by_cases hbig : 256 < n
          · have hr := Lib.hid (hM.out (by omega))
            go_wp2
            go_ret2
            exact OutZ.no hr.out hG.out.bel rfl
          · have D1 := Lib.hid (hex_lo S wr h16 (hV.out.errs.bel hG.out.bel) (hV.out.bru.bel hG.out.bel))
            have D2 := Lib.hid (fun W (hb : Below w.heap.size w W) => hex_hi S W h16 (hV.out.errs.bel hb) (hV.out.bru.bel hb))
            cases hv1 : numN (S.data.toList.take 8) with
            | none =>
              have hr := Lib.hid (hq0.out (qC_one (qN_not hv1)))
              have hv1 := Lib.hid hv1
              have HR0 := trivial
              go_wp2_with (go_at_call 41; first | (clear HR0; refine D1.out.mono ?_; rintro e w2 ⟨he, b2⟩; obtain ⟨x1, rfl⟩ := he.no hv1.out; have hb2 := Lib.hid (bel_next hG.out.bel b2)) | (refine (D2.out _ hb2.out).mono ?_; rintro e w3 ⟨he, b3⟩; obtain ⟨x2, q2, rfl⟩ := he.any; have hb3 := Lib.hid (bel_next hb2.out b3)))
              go_ret2
              exact OutZ.no hr.out hb3.out rfl
            | some a =>
              cases hv2 : numN (S.data.toList.drop 8) with
              | none =>
                have hr := Lib.hid (hq0.out (qC_two (qN_not hv2)))
                have hv1 := Lib.hid hv1
                have hv2 := Lib.hid hv2
                have HR0 := trivial
                go_wp2_with (go_at_call 41; first | (clear HR0; refine D1.out.mono ?_; rintro e w2 ⟨he, b2⟩; obtain rfl := he.yes hv1.out; have hb2 := Lib.hid (bel_next hG.out.bel b2)) | (refine (D2.out _ hb2.out).mono ?_; rintro e w3 ⟨he, b3⟩; obtain ⟨x2, rfl⟩ := he.no hv2.out; have hb3 := Lib.hid (bel_next hb2.out b3)))
                go_ret2
                exact OutZ.no hr.out hb3.out rfl
              | some a2 =>
                have hF := Lib.hid (hfk.out a a2 (by omega) hv1 hv2)
                have hv1 := Lib.hid hv1
                have hv2 := Lib.hid hv2
                have HR0 := trivial
                go_wp2_with (first
                  | (go_at_call 41; first | (clear HR0; refine D1.out.mono ?_; rintro e w2 ⟨he, b2⟩; obtain rfl := he.yes hv1.out; have hb2 := Lib.hid b2) | (refine (D2.out _ (bel_next hG.out.bel hb2.out)).mono ?_; rintro e w3 ⟨he, b3⟩; obtain rfl := he.yes hv2.out; have hb3 := Lib.hid (bel_next hb2.out b3); have hG2 := Lib.hid (hG.out.later hb3.out); have hk2 := (hb3.out.block b (Array.getElem?_eq_some_iff.1 hk1).1).trans hk1))
                  | (at_builtin; refine wpList_append_own _ rfl _ _ 33 rfl (w.heap.size) 56 i0 (.complex .f32 0 0) 1 8 Tryd.underlying33 HI.out HZ.out.1 HZ.out.2.1 HZ.out.2.2 rfl (by decide) _ _ _ rfl (hG2.out.own.alloc _) ⟨w3.heap.size, 0, none⟩ 1 1 [kC (zR L) (zI L) k] rfl rfl ?c1 ?c2 ?c3 ?c4 ?c5 ?_))
                case c1 => rw [show kC (zR L) (zI L) k = Value.complex .f32 a a2 from hF.out.1]; exact cell_one_new _ _ _
                case c2 => intro u hu; simp at hu; subst hu; rfl
                case c3 => unfold maxLen; omega
                case c4 => omega
                case c5 => have := hG2.out.hi; simp; omega
                intro v' w4 hown' hgrow _
                have R := Lib.hid (hG2.out.step hown' hgrow)
                have K := hG2.out.keeps hgrow hk2 (by decide)
                have K2 := Lib.hid (fun (b' off' : Nat) (c' : Array Value) (f' : Nat × Nat) (e' : some (⟨b, off, none⟩ : Addr) = some ⟨b', off', none⟩) (q : w1.heap[b']? = some (.cells c' 9 f')) => (show w4.heap[b']? = some (.cells c' 9 f') by
                  obtain ⟨rfl, rfl⟩ : b = b' ∧ off = off' := by simpa using e'
                  rw [← q, ht]; exact K))
                have hA2 := Lib.hid hF.out.2
                clear hown' hgrow hG hG2 hF
                go_wp2
                exact ⟨⟨k + 1, by omega, by go_num, R, K2, hA2, .inr (by omega)⟩, by simp [intOf]; omega⟩
        · have hr := Lib.hid (hq0.out (qC_len (by omega)))
          go_wp2
          go_ret2
          exact OutZ.no hr.out hG.out.bel rfl
      · obtain rfl : k = n := by omega
        have hp : 1 ≤ k := by rw [← hn]; exact pcs_pos L
        have hr := Lib.hid (hY.out (by omega) hA.out)
        go_wp2
        go_ret2
        exact OutZ.yes hr.out hG.out rfl
end Go.Proofs.YtoemjeomfnndaaaDoor
