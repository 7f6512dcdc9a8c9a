/- ReadComplex: the reference. -/
import Derived.Test.YtoemjeomfnndaaaDoorRcC
namespace Go.Proofs.YtoemjeomfnndaaaDoor
open Go.RowKit Go.Shelf
set_option linter.unusedVariables false
set_option maxRecDepth 100000 in
set_option maxHeartbeats 2000000 in
theorem specCRead_any (s : ByteArray) (w : World) (hs : s.size ≤ 1048576) :
    Calls Tryd.prog 43 #[.string s] w (OutZ s.data.toList w) := by
  have hF := Lib.hid (Grow.start (B := w.heap.size) (e := 56) (kC (zR s.data.toList) (zI s.data.toList)) (Below.refl w.heap.size w) (Nat.le_refl _) (Nat.le_refl _))
  by_cases h0 : s.data.toList = noneW
  · have hr := Lib.hid (rd_none (q := qC) (M := 256) h0)
    have hc := none_is h0
    clear h0
    go_enter Tryd.func43, Tryd.ntmps43
    go_wp2
    go_ret2
    exact OutZ.yes hr.out hF.out rfl
  · have hc := none_ne h0
    have C := Lib.hid (fun W => l01Cut_any s W hs)
    have hN := pcs_len s.data.toList
    rw [len_of] at hN
    have hO : ∀ k, qC (pc s.data.toList k) = false → k < (pcs s.data.toList).length → rdOk qC 256 s.data.toList = false ∧ rdN qC 256 s.data.toList = 0 := fun k h1 h2 => rd_bad h0 h2 h1
    have hO := Lib.hid hO
    have hM := Lib.hid (fun h => rd_many (q := qC) (M := 256) h0 h)
    have hY := Lib.hid (fun h1 h2 => rd_yes (q := qC) (M := 256) h0 h1 h2)
    have hz := Lib.hid (fun k => pc_size s.data.toList k)
    have hl := len_of s
    clear h0
    generalize hLL : s.data.toList = L at *
    obtain ⟨i0, hi, hz0, hz1, hz2⟩ := info_parts infoC64
    have HI := Lib.hid hi
    have HZ := Lib.hid (And.intro hz0 (And.intro hz1 hz2))
    clear hi hz0 hz1 hz2 hLL
    go_enter Tryd.func43, Tryd.ntmps43
    go_wp2_with fail
    have hW0 := (Below.refl w.heap.size w).alloc (Nat.le_refl _) (.cells #[] 56)
    refine (C.out _).mono ?_
    rintro e w1 ⟨aP, cP, rfl, nP, tP⟩
    have hF1 := Lib.hid (hF.out.later nP.bel)
    generalize hn : (pcs L).length = n at *
    by_cases hbig : 256 < n
    · have hr := Lib.hid (hM.out (by omega))
      have hb := Lib.hid hF1.out.bel
      clear hF hF1 nP hW0
      go_wp2
      go_ret2
      exact OutZ.no hr.out hb.out rfl
    · have hP := Lib.hid nP.own.sin
      have tP := Lib.hid tP
      clear hF nP hW0
      go_wp2
      go_loopw [4, 6] (fun v i wr => ∃ k : Nat, k ≤ n ∧ i = .int .i64 k ∧ Hid (Grow w.heap.size w 56 v k (kC (zR L) (zI L)) wr) ∧ Hid (∀ b off c fz, aP = some ⟨b, off, none⟩ → w1.heap[b]? = some (.cells c 9 fz) → wr.heap[b]? = some (.cells c 9 fz)) ∧ Hid (allS (fun i => qC (pc L i)) k = true)) (fun _ i _ => n - (intOf i).toNat)
      case atStart => exact ⟨0, Nat.zero_le _, rfl, hF1, Lib.hid (fun _ _ _ _ _ q => q), Lib.hid rfl⟩
      case round =>
        obtain ⟨k, hk, rfl, hG, hB, hA⟩ := hrel
        clear hF1
        by_cases hlt : k < n
        · rcases hP.out with h9 | ⟨b, off, rfl, _, _, h1, h2, h3, h4⟩
          · omega
          obtain ⟨c9, f9, ht⟩ := tP.out b off rfl
          have hk1 := hB.out b off c9 f9 rfl ht
          have hc1 : wr.cell? ⟨b, off + k, none⟩ = some (.string ⟨(pc L k).toArray⟩) := by rw [World.cell?_of_block (w := w1) (by rw [hk1, ht])]; exact h4 k hlt
          have hsz := hz.out k
          unfold maxLen at h2
          clear h4 hP
          have hq0 := Lib.hid (fun (h : qC (pc L k) = false) => hO.out k h hlt)
          have hfk := Lib.hid (fun (a b : Nat) (h : (pc L k).length = 16) (h1 : numN ((pc L k).take 8) = some a) (h2 : numN ((pc L k).drop 8) = some b) => And.intro (fC_of h1 h2) (show allS (fun i => qC (pc L i)) (k + 1) = true by
            rw [allS_succ, hA.out, qC_yes h (qN_of h1) (qN_of h2)]; rfl))
          obtain ⟨S, hS⟩ : ∃ S : ByteArray, S = ⟨(pc L k).toArray⟩ := ⟨_, rfl⟩
          have hSl : S.data.toList = pc L k := by rw [hS]
          rw [← hS] at hc1
          rw [← hSl] at hq0 hfk
          have hSn := len_of S
          have hS2 : S.size ≤ 1048577 := by rw [← hSn, hSl]; omega
          clear hS hsz hSl
          by_cases h16 : S.size = 16
          · have D1 := Lib.hid (fun W => digits_lo S W h16)
            have D2 := Lib.hid (fun W => digits_hi S W h16)
            cases hv1 : numN (S.data.toList.take 8) with
            | none =>
              have hr := Lib.hid (hq0.out (qC_one (qN_not hv1)))
              have hv1 := Lib.hid hv1
              have HR0 := trivial
              go_wp2_with (go_at_call 63; first | (clear HR0; refine (D1.out _).mono ?_; rintro e w2 ⟨he, rfl⟩; obtain ⟨x1, rfl⟩ := he.no hv1.out) | (refine (D2.out _).mono ?_; rintro e w2 ⟨he, rfl⟩; obtain ⟨x2, b2, rfl⟩ := he.any))
              go_ret2
              exact OutZ.no hr.out hG.out.bel rfl
            | some a =>
              cases hv2 : numN (S.data.toList.drop 8) with
              | none =>
                have hr := Lib.hid (hq0.out (qC_two (qN_not hv2)))
                have hv1 := Lib.hid hv1
                have hv2 := Lib.hid hv2
                have HR0 := trivial
                go_wp2_with (go_at_call 63; first | (clear HR0; refine (D1.out _).mono ?_; rintro e w2 ⟨he, rfl⟩; obtain rfl := he.yes hv1.out) | (refine (D2.out _).mono ?_; rintro e w2 ⟨he, rfl⟩; obtain ⟨x2, rfl⟩ := he.no hv2.out))
                go_ret2
                exact OutZ.no hr.out hG.out.bel rfl
              | some a2 =>
                have hF := Lib.hid (hfk.out a a2 (by omega) hv1 hv2)
                have hv1 := Lib.hid hv1
                have hv2 := Lib.hid hv2
                have HR0 := trivial
                go_wp2_with (first
                  | (go_at_call 63; first | (clear HR0; refine (D1.out _).mono ?_; rintro e w2 ⟨he, rfl⟩; obtain rfl := he.yes hv1.out) | (refine (D2.out _).mono ?_; rintro e w2 ⟨he, rfl⟩; obtain rfl := he.yes hv2.out))
                  | (at_builtin; refine wpList_append_own _ rfl _ _ 33 rfl (w.heap.size) 56 i0 (.complex .f32 0 0) 1 8 Tryd.underlying33 HI.out HZ.out.1 HZ.out.2.1 HZ.out.2.2 rfl (by decide) _ _ _ rfl (hG.out.own.alloc _) ⟨wr.heap.size, 0, none⟩ 1 1 [kC (zR L) (zI L) k] rfl rfl ?c1 ?c2 ?c3 ?c4 ?c5 ?_))
                case c1 => rw [show kC (zR L) (zI L) k = Value.complex .f32 a a2 from hF.out.1]; exact cell_one_new _ _ _
                case c2 => intro u hu; simp at hu; subst hu; rfl
                case c3 => unfold maxLen; omega
                case c4 => omega
                case c5 => have := hG.out.hi; simp; omega
                intro v' w3 hown' hgrow _
                have R := Lib.hid (hG.out.step hown' hgrow)
                have K := hG.out.keeps hgrow hk1 (by decide)
                have K2 := Lib.hid (fun (b' off' : Nat) (c' : Array Value) (f' : Nat × Nat) (e' : some (⟨b, off, none⟩ : Addr) = some ⟨b', off', none⟩) (q : w1.heap[b']? = some (.cells c' 9 f')) => (show w3.heap[b']? = some (.cells c' 9 f') by
                  obtain ⟨rfl, rfl⟩ : b = b' ∧ off = off' := by simpa using e'
                  rw [← q, ht]; exact K))
                have hA2 := Lib.hid hF.out.2
                clear hown' hgrow hG hF
                go_wp2
                exact ⟨⟨k + 1, by omega, by go_num, R, K2, hA2⟩, by simp [intOf]; omega⟩
          · have hr := Lib.hid (hq0.out (qC_len (by omega)))
            go_wp2
            go_ret2
            exact OutZ.no hr.out hG.out.bel rfl
        · obtain rfl : k = n := by omega
          have hr := Lib.hid (hY.out (by omega) hA.out)
          go_wp2
          go_ret2
          exact OutZ.yes hr.out hG.out rfl
theorem specReadC_any (s : ByteArray) (w : World) (hs : s.size ≤ 1048576) :
    Calls Tryd.prog 21 #[.string s] w (OutZ s.data.toList w) := by
  have C := Lib.hid (specCRead_any s w hs)
  go_enter Tryd.func21, Tryd.ntmps21
  go_wp2_with fail
  refine C.out.mono ?_
  rintro e w' ⟨a, cap, rfl, hn⟩
  have hn := Lib.hid hn
  go_wp2
  go_ret2
  exact ⟨a, cap, rfl, hn.out⟩
end Go.Proofs.YtoemjeomfnndaaaDoor
