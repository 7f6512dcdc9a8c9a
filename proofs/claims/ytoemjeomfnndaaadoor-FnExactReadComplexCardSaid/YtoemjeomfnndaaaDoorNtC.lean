/- NumbersText: both sides. -/
import Derived.Test.YtoemjeomfnndaaaDoorHex2C
import Derived.Test.YtoemjeomfnndaaaDoorFsC
import Derived.Test.YtoemjeomfnndaaaDoorList2C
namespace Go.Proofs.YtoemjeomfnndaaaDoor
open Go.RowKit Go.Shelf
set_option linter.unusedVariables false
/-- The pieces of a list of numbers. -/
def ptF (z : Nat → Nat) : Nat → List UInt8 := fun i => hexL (bitsN (z i)) 8
theorem ptF_len (z : Nat → Nat) (i : Nat) : (ptF z i).length = 8 := hexL_len _ _
/-- May they be written? -/
def ntB (n : Nat) : Bool := decide (n ≤ 256)
/-- The text, empty where they may not. -/
def ntT (z : Nat → Nat) (n : Nat) : List UInt8 := if n ≤ 256 then listTx (ptF z) n else []
/-- What both sides return of a list. -/
def NtE (z : Nat → Nat) (n : Nat) (e : Ending) : Prop := e = .returned (.tuple #[.string ⟨(ntT z n).toArray⟩, .bool (ntB n)])
theorem NtE.no {z : Nat → Nat} {n : Nat} (h : ¬ n ≤ 256) : NtE z n (.returned (.tuple #[.string ⟨#[]⟩, .bool false])) := by unfold NtE ntT ntB; rw [if_neg h, decide_eq_false h]
theorem NtE.yes {z : Nat → Nat} {n : Nat} (h : n ≤ 256) : NtE z n (.returned (.tuple #[.string ⟨(listTx (ptF z) n).toArray⟩, .bool true])) := by unfold NtE ntT ntB; rw [if_pos h, decide_eq_true h]
set_option maxHeartbeats 1000000 in
theorem specNText_any (a : Option Addr) (n cap : Nat) (z : Nat → Nat) (w : World) (h : FEls w a n cap z) (hn : n ≤ 256) (hz : ∀ i, i < n → z i < 4294967296) :
    Calls Tryd.prog 53 #[.slice a n cap] w fun e w' => e = .returned (.string ⟨(listTx (ptF z) n).toArray⟩) ∧ Below w.heap.size w w' := by
  by_cases h0 : n = 0
  · subst h0
    go_enter Tryd.func53, Tryd.ntmps53
    go_wp2
    go_ret
    exact ⟨rfl, Below.refl _ _⟩
  · rcases h with h9 | ⟨b, off, rfl, h1, h2, h3, h4⟩
    · exact absurd h9 h0
    unfold maxLen at h2
    have hh4 := Lib.hid h4
    have hZ := Lib.hid hz
    clear h4 hz
    have c0 : w.cell? ⟨b, off, none⟩ = some (.float .f32 (z 0)) := by simpa using hh4.out 0 (by omega)
    have hne : ((n : Int) == 0) = false := by rw [beq_eq_false_iff_ne]; omega
    have C0 := Lib.hid (fun W => l01Hex_any (z 0) W (hZ.out 0 (by omega)))
    go_enter Tryd.func53, Tryd.ntmps53
    go_wp2_with (go_at_call 75; refine (C0.out _).mono ?_; rintro e w1 ⟨rfl, b1⟩)
    have hB := Lib.hid b1
    clear b1 c0
    go_loopw [3, 4] (fun s i wr => ∃ k : Nat, 1 ≤ k ∧ k ≤ n ∧ i = .int .i64 k ∧ s = .string ⟨(tx (ptF z) k).toArray⟩ ∧ Hid (Below w.heap.size w wr)) (fun _ i _ => n - (intOf i).toNat)
    case atStart => exact ⟨1, by omega, by omega, rfl, rfl, hB⟩
    case round =>
      clear hB C0
      obtain ⟨k, k1, hk, rfl, rfl, hB⟩ := hrel
      by_cases hlt : k < n
      · have hc : wr.cell? ⟨b, off + k, none⟩ = some (.float .f32 (z k)) := by rw [hB.out.cell h3]; exact hh4.out k hlt
        have C := Lib.hid (l01Hex_any (z k) wr (hZ.out k hlt))
        have hS := Lib.hid (tx_succ (ptF z) k k1)
        have hl1 : (tx (ptF z) k).length ≤ 4000 := by have := tx_len (ptF z) 8 k (fun i hi => Nat.le_of_eq (ptF_len z i)); omega
        have hl2 := hexL_len (bitsN (z k)) 8
        go_wp2_with (go_at_call 75; refine C.out.mono ?_; rintro e w1 ⟨rfl, b1⟩)
        exact ⟨⟨k + 1, by omega, by omega, by go_num, by rw [hS.out, ← cat_list, ← cat_list]; rfl, Lib.hid (bel_next hB.out b1)⟩, by simp [intOf]; omega⟩
      · obtain rfl : k = n := by omega
        have hT := Lib.hid (show listTx (ptF z) k = tx (ptF z) k by unfold listTx; rw [if_neg h0])
        go_wp2
        go_ret
        exact ⟨by rw [hT.out]; rfl, hB.out⟩
theorem specFew_any (a : Option Addr) (n cap : Nat) (w : World) (hn : n ≤ 1048576) :
    Calls Tryd.prog 52 #[.slice a n cap] w fun e w' => e = .returned (.bool (decide (n ≤ 256))) ∧ w = w' := by
  have h1 : decide ((n : Int) ≤ 256) = decide (n ≤ 256) := decide_eq_decide.2 (by omega)
  rw [← h1]
  clear h1
  go_enter Tryd.func52, Tryd.ntmps52
  go_wp2
  go_ret
  exact ⟨rfl, rfl⟩
theorem specNt_any (a : Option Addr) (n cap : Nat) (z : Nat → Nat) (w : World) (h : FEls w a n cap z) (hn : n ≤ 1048576) (hz : ∀ i, i < n → z i < 4294967296) :
    Calls Tryd.prog 33 #[.slice a n cap] w fun e w' => NtE z n e ∧ Below w.heap.size w w' := by
  have F := fun W => specFew_any a n cap W hn
  by_cases h2 : n ≤ 256
  · have T := Lib.hid (specNText_any a n cap z w h h2 hz)
    rw [decide_eq_true h2] at F
    have F := Lib.hid F
    clear hz
    go_enter Tryd.func33, Tryd.ntmps33
    go_wp2_with (first | (go_at_call 52; refine (F.out _).mono ?_; rintro e w' ⟨rfl, rfl⟩) | (go_at_call 53; refine T.out.mono ?_; rintro e w1 ⟨rfl, b1⟩))
    go_ret2
    exact ⟨NtE.yes h2, b1⟩
  · rw [decide_eq_false h2] at F
    have F := Lib.hid F
    clear hz
    go_enter Tryd.func33, Tryd.ntmps33
    go_wp2_with (go_at_call 52; refine (F.out _).mono ?_; rintro e w' ⟨rfl, rfl⟩)
    go_ret2
    exact ⟨NtE.no h2, Below.refl _ _⟩
set_option maxRecDepth 100000 in
set_option maxHeartbeats 1000000 in
theorem implNt_any (a : Option Addr) (n cap : Nat) (z : Nat → Nat) (w : World) (h : FEls w a n cap z) (hn : n ≤ 1048576) (hz : ∀ i, i < n → z i < 4294967296) (hT : Bru w) :
    Calls Tryd.prog 35 #[.slice a n cap] w fun e w' => NtE z n e ∧ Below w.heap.size w w' := by
  have hT := Lib.hid hT
  have hZ := Lib.hid hz
  clear hz
  by_cases hbig : n ≤ 256
  · obtain ⟨i0, hi, hz0, hz1, hz2⟩ := info_parts infoStr
    have HI := Lib.hid hi
    have HZ := Lib.hid (And.intro hz0 (And.intro hz1 hz2))
    clear hi hz0 hz1 hz2
    go_enter Tryd.func35, Tryd.ntmps35
    have hF := Lib.hid (Grow.start (B := w.heap.size) (e := 9) (kS (ptF z)) (Below.refl w.heap.size w) (Nat.le_refl _) (Nat.le_refl _))
    go_wp2
    generalize w.alloc (.cells #[] 9) = W at *
    go_loopw [4, 13] (fun v i wr => ∃ k : Nat, k ≤ n ∧ i = .int .i64 k ∧ Hid (Grow w.heap.size w 9 v k (kS (ptF z)) wr)) (fun _ i _ => n - (intOf i).toNat)
    case atStart => exact ⟨0, Nat.zero_le _, rfl, hF⟩
    case round =>
      obtain ⟨k, hk, rfl, hG⟩ := hrel
      clear hF
      by_cases hlt : k < n
      · rcases h with h0 | ⟨b, off, rfl, h1, h2, h3, h4⟩
        · omega
        have hc : wr.cell? ⟨b, off + k, none⟩ = some (.float .f32 (z k)) := by rw [hG.out.bel.cell h3]; exact h4 k hlt
        unfold maxLen at h2
        clear h4
        have C := Lib.hid (hexOf_any (z k) wr (hZ.out k hlt) (hT.out.bel hG.out.bel))
        go_wp2_with (first
          | (go_at_call 54; refine C.out.mono ?_; rintro e w1 ⟨rfl, b1⟩; have hG1 := Lib.hid (hG.out.later b1))
          | (at_builtin; refine wpList_append_own _ rfl _ _ 49 rfl (w.heap.size) 9 i0 (.string ⟨#[]⟩) 1 16 Tryd.underlying49 HI.out HZ.out.1 HZ.out.2.1 HZ.out.2.2 rfl (by decide) _ _ _ rfl (hG1.out.own.alloc _) ⟨w1.heap.size, 0, none⟩ 1 1 [kS (ptF z) k] rfl rfl ?c1 ?c2 ?c3 ?c4 ?c5 ?_))
        case c1 => exact cell_one_new _ _ _
        case c2 => intro u hu; simp at hu; subst hu; rfl
        case c3 => unfold maxLen; omega
        case c4 => omega
        case c5 => have := hG1.out.hi; simp; omega
        intro v' w2 hown' hgrow _
        have R := Lib.hid (hG1.out.step hown' hgrow)
        clear hown' hgrow hG hc hG1
        go_wp2
        exact ⟨⟨k + 1, by omega, by go_num, R⟩, by simp [intOf]; omega⟩
      · obtain rfl : k = n := by omega
        obtain ⟨a', c', rfl, hN⟩ := hG.out.form
        have hp : ∀ i, i < k → (ptF z i).length ≤ 1000 := fun i hi => by rw [ptF_len]; omega
        have J := Lib.hid (listOrNone_any _ _ a' k c' (ptF z) _ hN.own.sin hn hp)
        have hb := Lib.hid hN.bel
        clear hN hG hp
        go_wp2_with (go_at_call 51; refine J.out.mono ?_; rintro e w1 ⟨rfl, b1⟩)
        go_ret2
        exact ⟨NtE.yes hbig, bel_next hb.out b1⟩
  · go_enter Tryd.func35, Tryd.ntmps35
    go_wp2
    go_ret2
    exact ⟨NtE.no hbig, Below.refl _ _⟩
/-- The table that tells a number's zeros. -/
def bruTab : List Int := [0, 1, 56, 2, 57, 49, 28, 3, 61, 58, 42, 50, 38, 29, 17, 4, 62, 47, 59, 36, 45, 43, 51, 22, 53, 39, 33, 30, 24, 18, 12, 5, 63, 55, 48, 27, 60, 41, 37, 16, 46, 35, 44, 21, 52, 32, 23, 11, 54, 26, 40, 15, 34, 20, 31, 10, 25, 14, 19, 9, 13, 8, 7, 6]
theorem bru_of {W : World} {rest : List (String × DataW Unit)} (h : laidMet Tryd.prog ((("math/bits.deBruijn64tab", Rows.laid_math_bits_deBruijn64tab) : String × DataW Unit) :: rest) W) : Bru W := by
  have t : Lib.TabIs Tryd.prog W "math/bits.deBruijn64tab" .u8 bruTab := Lib.tabIs_of_head (rest := rest) (g := (Tryd.prog.globalNamed "math/bits.deBruijn64tab").getD 0) (t := 152) (n := 64) (e := 5) (by kernel_rfl) (by kernel_rfl) Tryd.underlying152 Tryd.underlying5 (by kernel_rfl) (by kernel_rfl) h
  exact t.cell (by kernel_rfl) 15 (by decide)
end Go.Proofs.YtoemjeomfnndaaaDoor
