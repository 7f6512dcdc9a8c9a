/- ListText: the implementation. -/
import Derived.Test.YtoemjeomfnndaaaDoorListC
namespace Go.Proofs.YtoemjeomfnndaaaDoor
open Go.RowKit Go.Shelf
set_option linter.unusedVariables false
theorem infoStr : (Tryd.prog.info? 9).map (fun i => (i.zero, i.size, i.bytes)) = some (some (.string ⟨#[]⟩), 1, 16) := by kernel_rfl
set_option maxRecDepth 100000 in
set_option maxHeartbeats 1000000 in
theorem implLt_any (a : Option Addr) (n cap : Nat) (z : Nat → Int) (w : World) (h : IEls w a n cap z) (hn : n ≤ 1048576) (hT : Pow w) :
    Calls Tryd.prog 32 #[.slice a n cap] w fun e w' => LtE z n e ∧ Below w.heap.size w w' := by
  have hT := Lib.hid hT
  obtain ⟨i0, hi, hz0, hz1, hz2⟩ := info_parts infoStr
  have HI := Lib.hid hi
  have HZ := Lib.hid (And.intro hz0 (And.intro hz1 hz2))
  clear hi hz0 hz1 hz2
  go_enter Tryd.func32, Tryd.ntmps32
  have hF := Lib.hid (Grow.start (B := w.heap.size) (e := 9) (kS (ptI z)) (Below.refl w.heap.size w) (Nat.le_refl _) (Nat.le_refl _))
  go_wp2
  generalize w.alloc (.cells #[] 9) = W at *
  go_loopw [4, 10] (fun v i wr => ∃ k : Nat, k ≤ n ∧ i = .int .i64 k ∧ Hid (Grow w.heap.size w 9 v k (kS (ptI z)) wr) ∧ Hid (allV z k = true) ∧ (k = 0 ∨ n ≤ 64)) (fun _ i _ => n - (intOf i).toNat)
  case atStart => exact ⟨0, Nat.zero_le _, rfl, hF, Lib.hid rfl, .inl rfl⟩
  case round =>
    obtain ⟨k, hk, rfl, hG, hA, h64⟩ := hrel
    clear hF
    by_cases hlt : k < n
    · rcases h with h0 | ⟨b, off, rfl, h1, h2, h3, h4⟩
      · omega
      have hc : wr.cell? ⟨b, off + k, none⟩ = some (.int .i64 (z k)) := by rw [hG.out.bel.cell h3]; exact h4 k hlt
      unfold maxLen at h2
      clear h4
      cases hR : inR (z k) (-1000000000000000) 1000000000000000 with
      | false =>
        have hn2 := Lib.hid (show ltB z n = false by unfold ltB; rw [allV_no hR n hlt, Bool.false_and])
        go_wp2_with (go_at_call 50; refine (isValue_any _ _).mono ?_; rintro e w' ⟨rfl, rfl⟩; rw [hR])
        go_ret2
        exact ⟨LtE.no hn2.out, hG.out.bel⟩
      | true =>
        by_cases q64 : 64 < n
        · have hn2 := Lib.hid (show ltB z n = false by unfold ltB; rw [decide_eq_false (by omega), Bool.and_false])
          go_wp2_with (go_at_call 50; refine (isValue_any _ _).mono ?_; rintro e w' ⟨rfl, rfl⟩; rw [hR])
          go_ret2
          exact ⟨LtE.no hn2.out, hG.out.bel⟩
        · have hn2 := Lib.hid (show allV z (k + 1) = true by rw [allV_succ, hA.out, hR]; rfl)
          have r0 := inR_of hR
          have hTr := Lib.hid (pow_bel hT.out (hG.out.bel.mono (Nat.le_refl _)))
          go_wp2_with (first
            | (go_at_call 50; refine (isValue_any _ _).mono ?_; rintro e w' ⟨rfl, rfl⟩; rw [hR])
            | (go_at_call 27; refine (implDec_any _ _ (by omega) (by omega) hTr.out).mono ?_; rintro e w1 ⟨rfl, b1⟩; have hG1 := Lib.hid (hG.out.later b1))
            | (at_builtin; refine wpList_append_own _ rfl _ _ 49 rfl (w.heap.size) 9 i0 (.string ⟨#[]⟩) 1 16 Tryd.underlying49 HI.out HZ.out.1 HZ.out.2.1 HZ.out.2.2 rfl (by decide) _ _ _ rfl (hG1.out.own.alloc _) ⟨w1.heap.size, 0, none⟩ 1 1 [kS (ptI z) k] rfl rfl ?c1 ?c2 ?c3 ?c4 ?c5 ?_))
          case c1 => exact cell_one_new _ _ _
          case c2 => intro u hu; simp at hu; subst hu; rfl
          case c3 => unfold maxLen; omega
          case c4 => omega
          case c5 => have := hG1.out.hi; simp; omega
          intro v' w2 hown' hgrow _
          have R := Lib.hid (hG1.out.step hown' hgrow)
          clear hown' hgrow hG hc hG1
          go_wp2
          exact ⟨⟨k + 1, by omega, by go_num, R, hn2, .inr (by omega)⟩, by simp [intOf]; omega⟩
    · obtain rfl : k = n := by omega
      obtain ⟨a', c', rfl, hN⟩ := hG.out.form
      have hB := Lib.hid (show ltB z k = true by
        unfold ltB; rw [hA.out, decide_eq_true (by omega)]; rfl)
      have hp : ∀ i, i < k → (ptI z i).length ≤ 1000 := fun i hi => by have := (itoa_len (allV_at hA.out i hi)).2; unfold ptI; omega
      have J := Lib.hid (listOrNone_any _ _ a' k c' (ptI z) _ hN.own.sin hn hp)
      have hb := Lib.hid hN.bel
      clear hN hG
      go_wp2_with (go_at_call 51; refine J.out.mono ?_; rintro e w1 ⟨rfl, b1⟩)
      go_ret2
      exact ⟨LtE.yes hB.out, bel_next hb.out b1⟩
end Go.Proofs.YtoemjeomfnndaaaDoor
