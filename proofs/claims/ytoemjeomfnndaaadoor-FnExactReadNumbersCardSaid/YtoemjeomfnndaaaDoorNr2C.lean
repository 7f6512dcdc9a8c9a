/- ReadNumbers: the reference. -/
import Derived.Test.YtoemjeomfnndaaaDoorNrC
namespace Go.Proofs.YtoemjeomfnndaaaDoor
open Go.RowKit Go.Shelf
set_option linter.unusedVariables false
set_option maxRecDepth 100000 in
set_option maxHeartbeats 2000000 in
theorem specNRead_any (s : ByteArray) (w : World) (hs : s.size ≤ 1048576) :
    Calls Tryd.prog 40 #[.string s] w (OutH s.data.toList w) := by
  have hF := Lib.hid (Grow.start (B := w.heap.size) (e := 51) (kF (fH s.data.toList)) (Below.refl w.heap.size w) (Nat.le_refl _) (Nat.le_refl _))
  by_cases h0 : s.data.toList = noneW
  · have hr := Lib.hid (rd_none (q := qN) (M := 256) h0)
    have hc := none_is h0
    clear h0
    go_enter Tryd.func40, Tryd.ntmps40
    go_wp2
    go_ret2
    exact OutH.yes hr.out hF.out rfl
  · have hc := none_ne h0
    have C := Lib.hid (fun W => l01Cut_any s W hs)
    have hN := pcs_len s.data.toList
    rw [len_of] at hN
    have hO : ∀ k, qN (pc s.data.toList k) = false → k < (pcs s.data.toList).length → rdOk qN 256 s.data.toList = false ∧ rdN qN 256 s.data.toList = 0 := fun k h1 h2 => rd_bad h0 h2 h1
    have hO := Lib.hid hO
    have hM := Lib.hid (fun h => rd_many (q := qN) (M := 256) h0 h)
    have hY := Lib.hid (fun h1 h2 => rd_yes (q := qN) (M := 256) h0 h1 h2)
    have hz := Lib.hid (fun k => pc_size s.data.toList k)
    have hl := len_of s
    clear h0
    generalize hLL : s.data.toList = L at *
    obtain ⟨i0, hi, hz0, hz1, hz2⟩ := info_parts infoF32
    have HI := Lib.hid hi
    have HZ := Lib.hid (And.intro hz0 (And.intro hz1 hz2))
    clear hi hz0 hz1 hz2 hLL
    go_enter Tryd.func40, Tryd.ntmps40
    go_wp2_with fail
    have hW0 := (Below.refl w.heap.size w).alloc (Nat.le_refl _) (.cells #[] 51)
    refine (C.out _).mono ?_
    rintro e w1 ⟨aP, cP, rfl, nP, tP⟩
    have hF1 := Lib.hid (hF.out.later nP.bel)
    generalize hn : (pcs L).length = n at *
    by_cases hbig : 256 < n
    · have hr := Lib.hid (hM.out (by omega))
      have hb := Lib.hid hF1.out.bel
      clear hF hF1 nP hW0
      go_wp2
      go_ret2
      exact OutH.no hr.out hb.out rfl
    · have hP := Lib.hid nP.own.sin
      have tP := Lib.hid tP
      clear hF nP hW0
      go_wp2
      go_loopw [4, 6] (fun v i wr => ∃ k : Nat, k ≤ n ∧ i = .int .i64 k ∧ Hid (Grow w.heap.size w 51 v k (kF (fH L)) wr) ∧ Hid (∀ b off c fz, aP = some ⟨b, off, none⟩ → w1.heap[b]? = some (.cells c 9 fz) → wr.heap[b]? = some (.cells c 9 fz)) ∧ Hid (allS (fun i => qN (pc L i)) k = true)) (fun _ i _ => n - (intOf i).toNat)
      case atStart => exact ⟨0, Nat.zero_le _, rfl, hF1, Lib.hid (fun _ _ _ _ _ q => q), Lib.hid rfl⟩
      case round =>
        obtain ⟨k, hk, rfl, hG, hB, hA⟩ := hrel
        clear hF1
        by_cases hlt : k < n
        · rcases hP.out with h9 | ⟨b, off, rfl, _, _, h1, h2, h3, h4⟩
          · omega
          obtain ⟨c9, f9, ht⟩ := tP.out b off rfl
          have hk1 := hB.out b off c9 f9 rfl ht
          have hc1 : wr.cell? ⟨b, off + k, none⟩ = some (.string ⟨(pc L k).toArray⟩) := by rw [World.cell?_of_block (w := w1) (by rw [hk1, ht])]; exact h4 k hlt
          have hsz := hz.out k
          unfold maxLen at h2
          clear h4 hP
          have hq0 := Lib.hid (fun (h : numN (pc L k) = none) => hO.out k (by unfold qN; rw [h]; rfl) hlt)
          have hfk := Lib.hid (fun (v : Nat) (h : numN (pc L k) = some v) => And.intro (show fH L k = v by unfold fH; rw [h]; rfl) (show allS (fun i => qN (pc L i)) (k + 1) = true by
            have hq : qN (pc L k) = true := by unfold qN; rw [h]; rfl
            rw [allS_succ, hA.out, hq]; rfl))
          obtain ⟨S, hS⟩ : ∃ S : ByteArray, S = ⟨(pc L k).toArray⟩ := ⟨_, rfl⟩
          have hSl : S.data.toList = pc L k := by rw [hS]
          rw [← hS] at hc1
          rw [← hSl] at hq0 hfk
          have hSn := len_of S
          have hS2 : S.size ≤ 1048577 := by rw [← hSn, hSl]; omega
          have hat : ∀ j (h : j < S.data.toList.length), S.data.toList[j] = S[j]'(by rw [← hSn]; exact h) := fun j h => rfl
          have hat := Lib.hid hat
          clear hS hsz hSl
          by_cases h8 : S.size = 8
          · have hT0 : Hid (hexV (S.data.toList.take 0) = some 0) := Lib.hid rfl
            go_wp2
            go_loop [7, 8] (fun sm sk => ∃ j m : Nat, sm = .int .i64 m ∧ sk = .int .i64 j ∧ j ≤ 8 ∧ m < 4294967296 ∧ Hid (hexV (S.data.toList.take j) = some m)) (fun _ sk => 8 - (intOf sk).toNat)
            case atStart => exact ⟨0, 0, rfl, rfl, by omega, by omega, hT0⟩
            case round =>
              clear hT0
              obtain ⟨j, m, rfl, rfl, hj, hm, hH⟩ := hrel
              by_cases hj8 : j < 8
              · have hjs : j < S.size := by omega
                have hjl : j < S.data.toList.length := by omega
                have hstep := Lib.hid (hexV_take hjl)
                have hcc := Lib.hid (hat.out j hjl)
                have hnx : ∀ d, dval S[j] = some d → hexV (S.data.toList.take (j + 1)) = some (16 * m + d) ∧ 16 * m + d < 4294967296 := fun d hd => by
                  have h1 : hexV (S.data.toList.take (j + 1)) = some (16 * m + d) := by
                    rw [hstep.out, hcc.out, hH.out]
                    show (dval S[j]).map _ = _
                    rw [hd]; rfl
                  have h2 := hexV_take_lt (by omega) h1
                  have h3 := Nat.pow_le_pow_right (show 0 < 16 by omega) (show j + 1 ≤ 8 by omega)
                  exact ⟨h1, by omega⟩
                have hnx := Lib.hid hnx
                have hbd := Lib.hid (fun (h : dval S[j] = none) => hq0.out (numN_bad hjl (by rw [hcc.out]; exact h)))
                have hdv : dval S[j] = if 48 ≤ S[j].toNat ∧ S[j].toNat ≤ 57 then some (S[j].toNat - 48) else if 97 ≤ S[j].toNat ∧ S[j].toNat ≤ 102 then some (S[j].toNat - 87) else none := rfl
                have hdv := Lib.hid hdv
                clear hstep hcc
                have hc256 : S[j].toNat < 256 := S[j].toNat_lt
                by_cases hdig : 48 ≤ S[j].toNat ∧ S[j].toNat ≤ 57
                · obtain ⟨q1, q2⟩ := hnx.out (S[j].toNat - 48) (by rw [hdv.out, if_pos hdig])
                  have q1 := Lib.hid q1
                  obtain ⟨d1, d2⟩ := hdig
                  go_wp2
                  go_round
                  case rel => exact ⟨j + 1, 16 * m + (S[j].toNat - 48), by congr 1; omega, by go_num, by omega, q2, q1⟩
                  case measure => simp [intOf]; omega
                · by_cases hlet : 97 ≤ S[j].toNat ∧ S[j].toNat ≤ 102
                  · obtain ⟨q1, q2⟩ := hnx.out (S[j].toNat - 87) (by rw [hdv.out, if_neg hdig, if_pos hlet])
                    have q1 := Lib.hid q1
                    obtain ⟨d1, d2⟩ := hlet
                    go_wp2
                    go_round
                    case rel => exact ⟨j + 1, 16 * m + (S[j].toNat - 87), by congr 1; omega, by go_num, by omega, q2, q1⟩
                    case measure => simp [intOf]; omega
                  · have hr := Lib.hid (hbd.out (by rw [hdv.out, if_neg hdig, if_neg hlet]))
                    have hd2 : S[j].toNat < 48 ∨ (57 < S[j].toNat ∧ S[j].toNat < 97) ∨ 102 < S[j].toNat := by omega
                    clear hdig hlet
                    rcases hd2 with d | ⟨d, d2⟩ | d
                    · go_wp2
                      go_ret2
                      exact OutH.no hr.out hG.out.bel rfl
                    · go_wp2
                      go_ret2
                      exact OutH.no hr.out hG.out.bel rfl
                    · go_wp2
                      go_ret2
                      exact OutH.no hr.out hG.out.bel rfl
              · obtain rfl : j = 8 := by omega
                have hv := hH.out
                rw [List.take_of_length_le (by omega)] at hv
                have hV := numN_val (by omega) hv
                have C1 := Lib.hid (fun W => l01From_any m W hm)
                have C2 := Lib.hid (fun W => l01Bits_any m W hm)
                unfold bitsZ at C2
                by_cases hbb : bitsN m = m
                · rw [if_pos hbb] at hV
                  rw [hbb] at C2
                  have hF := Lib.hid (hfk.out m hV)
                  clear hV hv hbb
                  go_wp2_with (first
                    | (go_at_call 59; refine (C1.out _).mono ?_; rintro e w2 ⟨rfl, rfl⟩)
                    | (go_at_call 60; refine (C2.out _).mono ?_; rintro e w2 ⟨rfl, rfl⟩)
                    | (at_builtin; refine wpList_append_own _ rfl _ _ 28 rfl (w.heap.size) 51 i0 (.float .f32 0) 1 4 Tryd.underlying28 HI.out HZ.out.1 HZ.out.2.1 HZ.out.2.2 rfl (by decide) _ _ _ rfl (hG.out.own.alloc _) ⟨wr.heap.size, 0, none⟩ 1 1 [kF (fH L) k] rfl rfl ?c1 ?c2 ?c3 ?c4 ?c5 ?_))
                  case c1 => rw [show kF (fH L) k = Value.float .f32 m by rw [← hF.out.1]]; exact cell_one_new _ _ _
                  case c2 => intro u hu; simp at hu; subst hu; rfl
                  case c3 => unfold maxLen; omega
                  case c4 => omega
                  case c5 => have := hG.out.hi; simp; omega
                  intro v' w3 hown' hgrow _
                  have R := Lib.hid (hG.out.step hown' hgrow)
                  have K := hG.out.keeps hgrow hk1 (by decide)
                  have K2 := Lib.hid (fun (b' off' : Nat) (c' : Array Value) (f' : Nat × Nat) (e' : some (⟨b, off, none⟩ : Addr) = some ⟨b', off', none⟩) (q : w1.heap[b']? = some (.cells c' 9 f')) => (show w3.heap[b']? = some (.cells c' 9 f') by
                    obtain ⟨rfl, rfl⟩ : b = b' ∧ off = off' := by simpa using e'
                    rw [← q, ht]; exact K))
                  have hA2 := Lib.hid hF.out.2
                  clear hown' hgrow hG hF
                  go_wp2
                  exact ⟨⟨k + 1, by omega, by go_num, R, K2, hA2⟩, by simp [intOf]; omega⟩
                · rw [if_neg hbb] at hV
                  have hr := Lib.hid (hq0.out hV)
                  have hne : (((bitsN m : Nat) : Int) != ((m : Nat) : Int)) = true := by rw [bne_iff_ne]; omega
                  have hne2 : (((bitsN m : Nat) : Int) == ((m : Nat) : Int)) = false := by rw [beq_eq_false_iff_ne]; omega
                  generalize bitsN m = q at *
                  clear hV hv hbb
                  go_wp2_with (first
                    | (go_at_call 59; refine (C1.out _).mono ?_; rintro e w2 ⟨rfl, rfl⟩)
                    | (go_at_call 60; refine (C2.out _).mono ?_; rintro e w2 ⟨rfl, rfl⟩))
                  go_ret2
                  exact OutH.no hr.out hG.out.bel rfl
          · have hr := Lib.hid (hq0.out (numN_len (by omega)))
            go_wp2
            go_ret2
            exact OutH.no hr.out hG.out.bel rfl
        · obtain rfl : k = n := by omega
          have hr := Lib.hid (hY.out (by omega) hA.out)
          go_wp2
          go_ret2
          exact OutH.yes hr.out hG.out rfl
theorem specReadN_any (s : ByteArray) (w : World) (hs : s.size ≤ 1048576) :
    Calls Tryd.prog 16 #[.string s] w (OutH s.data.toList w) := by
  have C := Lib.hid (specNRead_any s w hs)
  go_enter Tryd.func16, Tryd.ntmps16
  go_wp2_with fail
  refine C.out.mono ?_
  rintro e w' ⟨a, cap, rfl, hn⟩
  have hn := Lib.hid hn
  go_wp2
  go_ret2
  exact ⟨a, cap, rfl, hn.out⟩
end Go.Proofs.YtoemjeomfnndaaaDoor
