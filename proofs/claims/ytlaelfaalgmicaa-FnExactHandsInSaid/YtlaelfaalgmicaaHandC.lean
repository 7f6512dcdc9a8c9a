/- HandsIn: both sides count the kinds of hands. -/
import Derived.Test.YtlaelfaalgmicaaHand
import Derived.Test.YtlaelfaalgmicaaWordsC
import Derived.Test.YtlaelfaalgmicaaGrowC
namespace Go.Proofs.Ytlaelfaalgmicaa
open Go.RowKit
set_option linter.unusedVariables false
theorem kind_ret {a b : Int} (h : a = b) : Ending.returned (.int .i64 a) = .returned (.int .i64 b) := by rw [h]
set_option maxHeartbeats 1000000 in
theorem handKind_any (a : Option Addr) (n cap : Nat) (g : Nat → Int) (w : World) (h : IEls w a n cap g) (hn : n ≤ 5) (hg : ∀ i, i < n → 0 ≤ g i ∧ g i ≤ 9) :
    Calls Try.prog 75 #[.slice a n cap] w fun e w' => e = .returned (.int .i64 (kindI (pmt (cntI g n) 10).1 (pmt (cntI g n) 10).2.1)) ∧ w = w' := by
  have HG := Lib.hid hg
  clear hg
  go_enter Try.func75, Try.ntmps75
  go_wp2
  go_loop [3, 4, 9] (fun s3 s4 s9 => ∃ (d : Nat) (p m : Int), d ≤ 10 ∧ s9 = .int .i64 d ∧ s3 = .int .i64 p ∧ s4 = .int .i64 m ∧ Hid ((pmt (cntI g n) d).1 = p ∧ (pmt (cntI g n) d).2.1 = m)) (fun _ _ s9 => 10 - (intOf s9).toNat)
  case atStart => exact ⟨0, 0, 0, by omega, rfl, rfl, rfl, Lib.hid ⟨rfl, rfl⟩⟩
  case round =>
    obtain ⟨d, p, m, hd, rfl, rfl, rfl, hpm⟩ := hrel
    have inv := pmt_inv (c := cntI g n) (fun d => (cntI_range g n d).1) d
    have all := cnt_all g d n
    rw [hpm.out.1, hpm.out.2] at inv
    obtain ⟨q1, q2, q3, q4, _, _⟩ := inv
    have q5 : m ≤ 5 := by omega
    clear q4 all
    by_cases hlt : d < 10
    · go_wp2
      go_loop [6, 14] (fun s6 s14 => ∃ (i : Nat) (c : Int), i ≤ n ∧ s14 = .int .i64 i ∧ s6 = .int .i64 c ∧ Hid (cntI g i d = c)) (fun _ s14 => n - (intOf s14).toNat)
      case atStart => exact ⟨0, 0, by omega, rfl, rfl, Lib.hid rfl⟩
      case round =>
        obtain ⟨i, c, hi, rfl, rfl, hc⟩ := hrel
        have r := cntI_range g i d
        rw [hc.out] at r
        obtain ⟨r0, r1⟩ := r
        by_cases hil : i < n
        · rcases h with h0 | ⟨b, off, rfl, h1, h2, h3, h4⟩
          · omega
          have hcell := h4 i hil
          clear h4
          unfold maxLen at h2
          by_cases e : g i = (d : Int)
          · have H := Lib.hid (cntI_hit e)
            have ge : (g i == (d : Int)) = true := by simpa using e
            clear e
            go_wp2
            exact ⟨⟨i + 1, c + 1, by omega, by go_num, rfl, Lib.hid (by rw [H.out, hc.out])⟩, by simp [intOf]; omega⟩
          · have H := Lib.hid (cntI_miss (HG.out i hil).1 e)
            have ge : (g i == (d : Int)) = false := by simpa using e
            clear e
            go_wp2
            exact ⟨⟨i + 1, c, by omega, by go_num, rfl, Lib.hid (by rw [H.out, hc.out])⟩, by simp [intOf]; omega⟩
        · obtain rfl : i = n := by omega
          have HS := Lib.hid (pmt_succ (cntI g i) d)
          by_cases e2 : c = 2
          · have e3 : (c == 2) = true := by simpa using e2
            have E2 := Lib.hid e2
            clear e2
            by_cases hm : m < c
            · go_wp2
              exact ⟨⟨d + 1, p + 1, c, by omega, by go_num, rfl, rfl, Lib.hid (by rw [HS.out, hpm.out.1, hpm.out.2, hc.out, if_pos E2.out]; exact ⟨rfl, by dsimp only; omega⟩)⟩, by simp [intOf]; omega⟩
            · go_wp2
              exact ⟨⟨d + 1, p + 1, m, by omega, by go_num, rfl, rfl, Lib.hid (by rw [HS.out, hpm.out.1, hpm.out.2, hc.out, if_pos E2.out]; exact ⟨rfl, by dsimp only; omega⟩)⟩, by simp [intOf]; omega⟩
          · have e3 : (c == 2) = false := by simpa using e2
            have E2 := Lib.hid e2
            clear e2
            by_cases hm : m < c
            · go_wp2
              exact ⟨⟨d + 1, p, c, by omega, by go_num, rfl, rfl, Lib.hid (by rw [HS.out, hpm.out.1, hpm.out.2, hc.out, if_neg E2.out]; exact ⟨by dsimp only; omega, by dsimp only; omega⟩)⟩, by simp [intOf]; omega⟩
            · go_wp2
              exact ⟨⟨d + 1, p, m, by omega, by go_num, rfl, rfl, Lib.hid (by rw [HS.out, hpm.out.1, hpm.out.2, hc.out, if_neg E2.out]; exact ⟨by dsimp only; omega, by dsimp only; omega⟩)⟩, by simp [intOf]; omega⟩
    · obtain rfl : d = 10 := by omega
      clear h
      by_cases m3 : m = 3
      · have m3' : (m == 3) = true := by simpa using m3
        have M3 := Lib.hid m3
        clear m3
        go_wp2
        go_ret
        exact ⟨kind_ret (by rw [hpm.out.1, hpm.out.2]; unfold kindI; rw [if_pos M3.out]), rfl⟩
      · have m3' : (m == 3) = false := by simpa using m3
        by_cases m4 : 3 < m
        · have M3 := Lib.hid m3
          clear m3
          go_wp2
          go_ret
          exact ⟨kind_ret (by rw [hpm.out.1, hpm.out.2]; unfold kindI; rw [if_neg M3.out, if_pos m4]), rfl⟩
        · have M3 := Lib.hid m3
          clear m3
          go_wp2
          go_ret
          exact ⟨kind_ret (by rw [hpm.out.1, hpm.out.2]; unfold kindI; rw [if_neg M3.out, if_neg (by omega)]), rfl⟩
set_option maxHeartbeats 1000000 in
theorem l02Hand_any (a : Option Addr) (n cap : Nat) (g : Nat → Int) (w : World) (h : IEls w a n cap g) (hn : n ≤ 5) (hg : ∀ i, i < n → 0 ≤ g i ∧ g i ≤ 9) :
    Calls Try.prog 74 #[.slice a n cap] w fun e w' => e = .returned (.int .i64 (kindS (pmt (cntI g n) 10).1 (pmt (cntI g n) 10).2.1)) ∧ Below w.heap.size w w' := by
  have HG := Lib.hid hg
  clear hg
  have hmk : ∀ w, (Instr.makeSlice 96 (.int .i64 10) (.int .i64 10)).run Try.prog w = .ok (.slice (some ⟨w.heap.size, 0, none⟩) 10 10) (w.alloc (.cells (madeCells #[.int .i64 0] 10) 3)) := fun w => run_make_row' (P := Try.prog) 96 3 (.int .i64 0) 8 Try.underlying96 (by kernel_rfl) rfl .i64 .i64 10 (by omega) (by omega) w
  go_enter Try.func74, Try.ntmps74
  go_upto_region 2 with fail
  have hF := Counts.start w 10 3
  generalize w.alloc (.cells (madeCells #[.int .i64 0] 10) 3) = W at *
  clear hmk
  go_wp2
  go_loopw [6] (fun s6 wr => ∃ i : Nat, i ≤ n ∧ s6 = .int .i64 i ∧ Counts w 10 (cntI g i) wr) (fun s6 _ => n - (intOf s6).toNat)
  case atStart => exact ⟨0, by omega, rfl, hF⟩
  case round =>
    obtain ⟨i, hi, rfl, hC⟩ := hrel
    clear hF
    by_cases hlt : i < n
    · rcases h with h0 | ⟨b, off, rfl, h1, h2, h3, h4⟩
      · omega
      obtain ⟨g0, g1⟩ := HG.out i hlt
      have hcell : wr.cell? ⟨b, off + i, none⟩ = some (.int .i64 (g i)) := by rw [hC.bel.cell h3]; exact h4 i hlt
      clear h4
      unfold maxLen at h2
      have hq := hC.cell (g i).toNat (by omega)
      have hf := hC.free (g i).toNat
      obtain ⟨r0, r1⟩ := cntI_range g i (g i).toNat
      go_wp2
      exact ⟨⟨i + 1, by omega, by go_num, hC.hit _⟩, by simp [intOf]; omega⟩
    · obtain rfl : i = n := by omega
      have RG := Lib.hid (cntI_range g i)
      have PI := Lib.hid (pmt_inv (c := cntI g i) (fun d => (cntI_range g i d).1))
      clear h
      go_wp2
      go_loop [4, 5, 7] (fun s4 s5 s7 => ∃ (d : Nat) (p m : Int), d ≤ 10 ∧ s7 = .int .i64 d ∧ s4 = .int .i64 p ∧ s5 = .int .i64 m ∧ Hid ((pmt (cntI g i) d).1 = p ∧ (pmt (cntI g i) d).2.1 = m)) (fun _ _ s7 => 10 - (intOf s7).toNat)
      case atStart => exact ⟨0, 0, 0, by omega, rfl, rfl, rfl, Lib.hid ⟨rfl, rfl⟩⟩
      case round =>
        obtain ⟨d, p, m, hd, rfl, rfl, rfl, hpm⟩ := hrel
        have inv := PI.out d
        have all := cnt_all g d i
        rw [hpm.out.1, hpm.out.2] at inv
        obtain ⟨q1, q2, q3, q4, _, _⟩ := inv
        have q5 : m ≤ 5 := by omega
        clear q4 all
        by_cases hlt2 : d < 10
        · have hq := hC.cell d hlt2
          obtain ⟨r0, r1⟩ := RG.out d
          have HS := Lib.hid (pmt_succ (cntI g i) d)
          generalize cntI g i d = c at *
          by_cases e2 : c = 2
          · have e3 : (c == 2) = true := by simpa using e2
            have E2 := Lib.hid e2
            clear e2
            by_cases hm : m < c
            · go_wp2
              exact ⟨⟨d + 1, p + 1, c, by omega, by go_num, rfl, rfl, Lib.hid (by rw [HS.out, hpm.out.1, hpm.out.2, if_pos E2.out]; exact ⟨rfl, by dsimp only; omega⟩)⟩, by simp [intOf]; omega⟩
            · go_wp2
              exact ⟨⟨d + 1, p + 1, m, by omega, by go_num, rfl, rfl, Lib.hid (by rw [HS.out, hpm.out.1, hpm.out.2, if_pos E2.out]; exact ⟨rfl, by dsimp only; omega⟩)⟩, by simp [intOf]; omega⟩
          · have e3 : (c == 2) = false := by simpa using e2
            have E2 := Lib.hid e2
            clear e2
            by_cases hm : m < c
            · go_wp2
              exact ⟨⟨d + 1, p, c, by omega, by go_num, rfl, rfl, Lib.hid (by rw [HS.out, hpm.out.1, hpm.out.2, if_neg E2.out]; exact ⟨by dsimp only; omega, by dsimp only; omega⟩)⟩, by simp [intOf]; omega⟩
            · go_wp2
              exact ⟨⟨d + 1, p, m, by omega, by go_num, rfl, rfl, Lib.hid (by rw [HS.out, hpm.out.1, hpm.out.2, if_neg E2.out]; exact ⟨by dsimp only; omega, by dsimp only; omega⟩)⟩, by simp [intOf]; omega⟩
        · obtain rfl : d = 10 := by omega
          by_cases m5 : m = 5
          · have m5b : (m == 5) = true := by simpa using m5
            have m5h := Lib.hid m5
            clear m5
            go_wp2
            go_ret
            exact ⟨kind_ret (by rw [hpm.out.1, hpm.out.2]; unfold kindS; rw [if_pos m5h.out]), hC.bel⟩
          · have m5b : (m == 5) = false := by simpa using m5
            have m5h := Lib.hid m5
            clear m5
            by_cases m4 : m = 4
            · have m4b : (m == 4) = true := by simpa using m4
              have m4h := Lib.hid m4
              clear m4
              go_wp2
              go_ret
              exact ⟨kind_ret (by rw [hpm.out.1, hpm.out.2]; unfold kindS; rw [if_neg m5h.out, if_pos m4h.out]), hC.bel⟩
            · have m4b : (m == 4) = false := by simpa using m4
              have m4h := Lib.hid m4
              clear m4
              by_cases m3 : m = 3
              · have m3b : (m == 3) = true := by simpa using m3
                have m3h := Lib.hid m3
                clear m3
                by_cases p1 : p = 1
                · have p1b : (p == 1) = true := by simpa using p1
                  have p1h := Lib.hid p1
                  clear p1
                  go_wp2
                  go_ret
                  exact ⟨kind_ret (by rw [hpm.out.1, hpm.out.2]; unfold kindS; rw [if_neg m5h.out, if_neg m4h.out, if_pos ⟨m3h.out, p1h.out⟩]), hC.bel⟩
                · have p1b : (p == 1) = false := by simpa using p1
                  have p1h := Lib.hid p1
                  clear p1
                  go_wp2
                  go_ret
                  exact ⟨kind_ret (by rw [hpm.out.1, hpm.out.2]; unfold kindS; rw [if_neg m5h.out, if_neg m4h.out, if_neg (fun q => p1h.out q.2), if_pos m3h.out]), hC.bel⟩
              · have m3b : (m == 3) = false := by simpa using m3
                have m3h := Lib.hid m3
                clear m3
                go_wp2
                go_ret
                exact ⟨kind_ret (by rw [hpm.out.1, hpm.out.2]; unfold kindS; rw [if_neg m5h.out, if_neg m4h.out, if_neg (fun q => m3h.out q.1), if_neg m3h.out]), hC.bel⟩
end Go.Proofs.Ytlaelfaalgmicaa
