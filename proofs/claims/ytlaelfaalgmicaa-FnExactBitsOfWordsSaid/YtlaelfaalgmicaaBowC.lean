/- BitsOfWords: both sides append the same bits. -/
import Derived.Test.YtlaelfaalgmicaaGrowC
import Derived.Test.YtlaelfaalgmicaaWordsC
namespace Go.Proofs.Ytlaelfaalgmicaa
open Go.RowKit
set_option linter.unusedVariables false
/-- The bit k of the words. -/
def bowB (z : Nat → Int) (k : Nat) : Bool := bits BinOp.and IntKind.i64 (z (k / 32) / 2 ^ (31 - k % 32)) 1 == 1
theorem specBow_out (a : Option Addr) (n cap : Nat) (z : Nat → Int) (d : Int) (w : World) (h : IEls w a n cap z) (hn : n ≤ 1048576) (hb : areW z n = true → inR d 0 (32 * n) = false) :
    Calls Try.prog 41 #[.slice a n cap, .int .i64 d] w (OutS 0 false (kB fun _ => false) w) := by
  cases hA : areW z n with
  | true =>
    have hD := hb hA
    clear hb
    go_enter Try.func41, Try.ntmps41
    go_wp2_with (first | (go_at_call 71; refine (l02Are_any _ _ _ z _ h hn).mono ?_; rintro e w' ⟨rfl, rfl⟩) | (go_at_call 59; refine (l00InR_any _ _ _ _).mono ?_; rintro e w' ⟨rfl, rfl⟩))
    go_ret2
    exact .fail (Below.refl _ _) rfl
  | false =>
    clear hb
    go_enter Try.func41, Try.ntmps41
    go_wp2_with (first | (go_at_call 71; refine (l02Are_any _ _ _ z _ h hn).mono ?_; rintro e w' ⟨rfl, rfl⟩) | (go_at_call 59; refine (l00InR_any _ _ _ _).mono ?_; rintro e w' ⟨rfl, rfl⟩))
    go_ret2
    exact .fail (Below.refl _ _) rfl
theorem implBow_out (a : Option Addr) (n cap : Nat) (z : Nat → Int) (d : Int) (w : World) (h : IEls w a n cap z) (hn : n ≤ 1048576) (hb : areW z n = true → inR d 0 (32 * n) = false) :
    Calls Try.prog 42 #[.slice a n cap, .int .i64 d] w (OutS 0 false (kB fun _ => false) w) := by
  cases hA : areW z n with
  | true =>
    have hD := hb hA
    clear hb
    go_enter Try.func42, Try.ntmps42
    go_wp2_with (first | (go_at_call 40; refine (implAre_any _ _ _ z _ h hn).mono ?_; rintro e w' ⟨rfl, rfl⟩) | (go_at_call 60; refine (withinR_any _ _ _ _).mono ?_; rintro e w' ⟨rfl, rfl⟩))
    go_ret2
    exact .fail (Below.refl _ _) rfl
  | false =>
    clear hb
    go_enter Try.func42, Try.ntmps42
    go_wp2_with (first | (go_at_call 40; refine (implAre_any _ _ _ z _ h hn).mono ?_; rintro e w' ⟨rfl, rfl⟩) | (go_at_call 60; refine (withinR_any _ _ _ _).mono ?_; rintro e w' ⟨rfl, rfl⟩))
    go_ret2
    exact .fail (Below.refl _ _) rfl
set_option maxRecDepth 100000 in
set_option maxHeartbeats 1000000 in
theorem specBow_in (a : Option Addr) (lo hi n cap : Nat) (z : Nat → Int) (C : Nat) (w : World) (h : SIn w lo hi a n cap (kI z)) (hn : n ≤ 1048576) (hA : areW z n = true) (hD : inR C 0 (32 * n) = true) :
    Calls Try.prog 41 #[.slice a n cap, .int .i64 C] w (OutS C true (kB (bowB z)) w) := by
  have hh := h.ints
  obtain ⟨hn1, hn2, hw⟩ := areW_of hA
  obtain ⟨d1, d2⟩ := inR_of hD
  obtain ⟨i0, hi, hz0, hz1, hz2⟩ := info_parts infoBool
  rcases h.ints with h0 | ⟨b, off, rfl, h1, h2, h3, h4⟩
  · omega
  clear h
  unfold maxLen at h2
  have hh4 := Lib.hid h4
  have hw4 := Lib.hid hw
  clear h4 hw
  have HI := Lib.hid hi
  have HZ := Lib.hid (And.intro hz0 (And.intro hz1 hz2))
  clear hi hz0 hz1 hz2
  go_enter Try.func41, Try.ntmps41
  go_upto_region 4 with (first | (go_at_call 71; refine (l02Are_any _ _ _ z _ hh hn).mono ?_; rintro e w' ⟨rfl, rfl⟩) | (go_at_call 59; refine (l00InR_any _ _ _ _).mono ?_; rintro e w' ⟨rfl, rfl⟩))
  have hF := Grow.start (e := 4) (kB (bowB z)) (Below.refl w.heap.size w) (Nat.le_refl _) (Nat.le_refl _)
  generalize w.alloc (.cells #[] 4) = W at *
  go_wp2
  go_loopw [6, 7] (fun v i wr => ∃ k : Nat, k ≤ C ∧ i = .int .i64 k ∧ Grow w.heap.size w 4 v k (kB (bowB z)) wr) (fun _ i _ => C - (intOf i).toNat)
  case atStart => exact ⟨0, Nat.zero_le _, rfl, hF⟩
  case round =>
    obtain ⟨k, hk, rfl, hG⟩ := hrel
    clear hF
    by_cases hlt : k < C
    · have hkn : k / 32 < n := by omega
      have hc : wr.cell? ⟨b, off + k / 32, none⟩ = some (.int .i64 (z (k / 32))) := by rw [hG.bel.cell h3]; exact hh4.out (k / 32) hkn
      obtain ⟨z0, z1⟩ := hw4.out (k / 32) hkn
      have j0 : (0 : Int) ≤ (k : Int) / 32 := by omega
      have j1 : (k : Int) / 32 < n := by omega
      have m0 : 0 ≤ (k : Int) % 32 := by omega
      have m1 : (k : Int) % 32 ≤ 31 := by omega
      go_wp2_with (at_builtin; refine wpList_append_own _ rfl _ _ 52 rfl (w.heap.size) 4 i0 (.bool false) 1 1 Try.underlying52 HI.out HZ.out.1 HZ.out.2.1 HZ.out.2.2 rfl (by decide) _ _ _ rfl (hG.own.alloc _) ⟨wr.heap.size, 0, none⟩ 1 1 [kB (bowB z) k] rfl rfl ?c1 ?c2 ?c3 ?c4 ?c5 ?_)
      case c1 => exact cell_one_new _ _ _
      case c2 => intro u hu; simp at hu; subst hu; rfl
      case c3 => unfold maxLen; omega
      case c4 => omega
      case c5 => have := hG.hi; simp; omega
      intro v' w1 hown' hgrow _
      have R := hG.step hown' hgrow
      clear hown' hgrow hG hc
      go_wp2
      exact ⟨⟨k + 1, by omega, by go_num, R⟩, by simp [intOf]; omega⟩
    · obtain rfl : k = C := by omega
      go_wp2
      go_ret2
      exact hG.out rfl
set_option maxRecDepth 100000 in
set_option maxHeartbeats 1000000 in
theorem implBow_in (a : Option Addr) (lo hi n cap : Nat) (z : Nat → Int) (C : Nat) (w : World) (h : SIn w lo hi a n cap (kI z)) (hn : n ≤ 1048576) (hA : areW z n = true) (hD : inR C 0 (32 * n) = true) :
    Calls Try.prog 42 #[.slice a n cap, .int .i64 C] w (OutS C true (kB (bowB z)) w) := by
  have hh := h.ints
  obtain ⟨hn1, hn2, hw⟩ := areW_of hA
  obtain ⟨d1, d2⟩ := inR_of hD
  obtain ⟨i0, hi, hz0, hz1, hz2⟩ := info_parts infoBool
  rcases h.ints with h0 | ⟨b, off, rfl, h1, h2, h3, h4⟩
  · omega
  clear h
  unfold maxLen at h2
  have hh4 := Lib.hid h4
  have hw4 := Lib.hid hw
  clear h4 hw
  have HI := Lib.hid hi
  have HZ := Lib.hid (And.intro hz0 (And.intro hz1 hz2))
  clear hi hz0 hz1 hz2
  go_enter Try.func42, Try.ntmps42
  go_upto_region 4 with (first | (go_at_call 40; refine (implAre_any _ _ _ z _ hh hn).mono ?_; rintro e w' ⟨rfl, rfl⟩) | (go_at_call 60; refine (withinR_any _ _ _ _).mono ?_; rintro e w' ⟨rfl, rfl⟩))
  have hF := Grow.start (e := 4) (kB (bowB z)) (Below.refl w.heap.size w) (Nat.le_refl _) (Nat.le_refl _)
  generalize w.alloc (.cells #[] 4) = W at *
  go_wp2
  go_loopw [6, 21] (fun v i wr => ∃ k : Nat, k ≤ C ∧ i = .int .i64 k ∧ Grow w.heap.size w 4 v k (kB (bowB z)) wr) (fun _ i _ => C - (intOf i).toNat)
  case atStart => exact ⟨0, Nat.zero_le _, rfl, hF⟩
  case round =>
    obtain ⟨k, hk, rfl, hG⟩ := hrel
    clear hF
    by_cases hlt : k < C
    · have hkn : k / 32 < n := by omega
      have hc : wr.cell? ⟨b, off + k / 32, none⟩ = some (.int .i64 (z (k / 32))) := by rw [hG.bel.cell h3]; exact hh4.out (k / 32) hkn
      obtain ⟨z0, z1⟩ := hw4.out (k / 32) hkn
      have j0 : (0 : Int) ≤ (k : Int) / 32 := by omega
      have j1 : (k : Int) / 32 < n := by omega
      have m0 : 0 ≤ (k : Int) % 32 := by omega
      have m1 : (k : Int) % 32 ≤ 31 := by omega
      go_wp2_with (at_builtin; refine wpList_append_own _ rfl _ _ 52 rfl (w.heap.size) 4 i0 (.bool false) 1 1 Try.underlying52 HI.out HZ.out.1 HZ.out.2.1 HZ.out.2.2 rfl (by decide) _ _ _ rfl (hG.own.alloc _) ⟨wr.heap.size, 0, none⟩ 1 1 [kB (bowB z) k] rfl rfl ?c1 ?c2 ?c3 ?c4 ?c5 ?_)
      case c1 => exact cell_one_new _ _ _
      case c2 => intro u hu; simp at hu; subst hu; rfl
      case c3 => unfold maxLen; omega
      case c4 => omega
      case c5 => have := hG.hi; simp; omega
      intro v' w1 hown' hgrow _
      have R := hG.step hown' hgrow
      clear hown' hgrow hG hc
      go_wp2
      exact ⟨⟨k + 1, by omega, by go_num, R⟩, by simp [intOf]; omega⟩
    · obtain rfl : k = C := by omega
      go_wp2
      go_ret2
      exact hG.out rfl
end Go.Proofs.Ytlaelfaalgmicaa
