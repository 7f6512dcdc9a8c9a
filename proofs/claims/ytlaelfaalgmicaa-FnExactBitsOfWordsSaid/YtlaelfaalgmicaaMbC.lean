/- Bools that are marked, and held. -/
import Derived.Test.YtlaelfaalgmicaaSlC
namespace Go.Proofs.Ytlaelfaalgmicaa
open Go.RowKit
set_option linter.unusedVariables false
def mk3 (x : Int) : Bool := x % 3 == 0
set_option maxHeartbeats 400000 in
theorem markBools_full (b off n cap : Nat) (z : Nat → Bool) (k : Int) (w : World) (hn : n ≤ 1048576) (h1 : n ≤ cap) (h2 : cap ≤ maxLen) (h3 : b < w.heap.size) (h4 : ∀ i, i < n → w.cell? ⟨b, off + i, none⟩ = some (.bool (z i))) (hf : ∀ i, i < n → w.frozen? ⟨b, off + i, none⟩ = false) (k0 : 0 ≤ k) (k1 : k ≤ 4294967296) :
    Calls Try.prog 44 #[.slice (some ⟨b, off, none⟩) n cap, .int .i64 k] w fun e w' => e = .returned (.int .i64 (k + n)) ∧ Wrote b w w' ∧ ∀ i, i < n → w'.cell? ⟨b, off + i, none⟩ = some (.bool (mk3 (k + i))) := by
  go_enter Try.func44, Try.ntmps44
  go_wp2
  go_loopw [1, 5] (fun s1 i wr => ∃ j : Nat, j ≤ n ∧ i = .int .i64 j ∧ s1 = .int .i64 (k + j) ∧ Wrote b w wr ∧ (∀ i, i < n → wr.cell? ⟨b, off + i, none⟩ = some (.bool (if i < j then mk3 (k + i) else z i)))) (fun _ i _ => n - (intOf i).toNat)
  case atStart => exact ⟨0, Nat.zero_le _, rfl, by simp, Wrote.refl _ _, fun i hi => by rw [if_neg (Nat.not_lt_zero _)]; exact h4 i hi⟩
  case round =>
    obtain ⟨j, hj, rfl, rfl, hW, hc⟩ := hrel
    clear h4
    by_cases hlt : j < n
    · have hcj := hc j hlt
      have hfj := (hW.fr (off + j)).trans (hf j hlt)
      have HC := Lib.hid hc
      have HF := Lib.hid hf
      clear hc hf
      unfold maxLen at h2
      go_wp2
      exact ⟨⟨j + 1, by omega, by go_num, by go_num, hW.set _ _, fun i hi => by
        rw [store1 (HC.out i hi)]
        by_cases e : i = j
        · subst e; rw [if_pos rfl, if_pos (by omega)]; rfl
        · rw [if_neg (by omega)]
          by_cases e2 : i < j
          · rw [if_pos e2, if_pos (by omega)]
          · rw [if_neg e2, if_neg (by omega)]⟩, by simp [intOf]; omega⟩
    · obtain rfl : j = n := by omega
      have HC := Lib.hid hc
      clear hc hf
      go_wp2
      go_ret
      exact ⟨rfl, hW, fun i hi => by rw [HC.out i hi, if_pos hi]⟩
theorem markBools_own2 (a : Option Addr) (lo hi n cap : Nat) (z : Nat → Bool) (k : Int) (w : World) (h : SOwn w lo hi a n cap (kB z)) (hn : n ≤ 1048576) (k0 : 0 ≤ k) (k1 : k ≤ 4294967296) :
    Calls Try.prog 44 #[.slice a n cap, .int .i64 k] w fun e w' => e = .returned (.int .i64 (k + n)) ∧ Chg lo hi w w' ∧ SIn w' lo hi a n cap (kB fun i => mk3 (k + i)) := by
  by_cases h0 : n = 0
  · subst h0
    exact (markBools_none a cap k w k0 k1).mono fun e w' q => ⟨by rw [q.1]; simp, q.2 ▸ Chg.of_bel (Below.refl _ _), .inl rfl⟩
  · rcases h.sin with h9 | ⟨b, off, rfl, h1, h2, h3, h4, h5, h6⟩
    · exact absurd h9 h0
    have hf := h.free.resolve_left h0
    exact (markBools_full b off n cap z k w hn h3 h4 h5 h6 (fun i hi => hf b off rfl i hi) k0 k1).mono fun e w' q => ⟨q.1, Chg.of_wrote q.2.1 h1 h2, .inr ⟨b, off, rfl, h1, h2, h3, h4, by rw [q.2.1.size]; exact h5, q.2.2⟩⟩
set_option maxHeartbeats 400000 in
theorem heldBools_bel (a : Option Addr) (n cap : Nat) (k : Int) (w : World) (h : BEls w a n cap (fun i => mk3 (k + i))) (hn : n ≤ 1048576) (h0 : 0 ≤ k) (h1 : k ≤ 4294967296) :
    Calls Try.prog 45 #[.slice a n cap, .int .i64 k] w fun e w' => e = .returned (.int .i64 (k + n)) ∧ Below w.heap.size w w' := by
  go_enter Try.func45, Try.ntmps45
  go_wp2
  go_loop [1, 5] (fun s1 i => ∃ j : Nat, j ≤ n ∧ i = .int .i64 j ∧ s1 = .int .i64 (k + j)) (fun _ i => n - (intOf i).toNat)
  case atStart => exact ⟨0, Nat.zero_le _, rfl, by simp⟩
  case round =>
    obtain ⟨j, hj, rfl, rfl⟩ := hrel
    by_cases hlt : j < n
    · rcases h with h0 | ⟨b, off, rfl, h1, h2, h3, h4⟩
      · omega
      have hc : w.cell? ⟨b, off + j, none⟩ = some (.bool ((k + (j : Int)) % 3 == 0)) := h4 j hlt
      clear h4
      unfold maxLen at h2
      go_wp2
      go_round
      case rel => exact ⟨j + 1, by omega, by go_num, by go_num⟩
      case measure => simp [intOf]; omega
    · clear h
      go_wp2
      go_ret
      obtain rfl : j = n := by omega
      exact ⟨rfl, Below.refl _ _⟩
end Go.Proofs.Ytlaelfaalgmicaa
