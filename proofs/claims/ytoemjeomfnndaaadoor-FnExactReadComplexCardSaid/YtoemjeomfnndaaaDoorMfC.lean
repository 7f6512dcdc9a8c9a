/- The law's marks on slices of floats. -/
import Derived.Test.YtoemjeomfnndaaaDoorFsC
namespace Go.Proofs.YtoemjeomfnndaaaDoor
open Go.RowKit
set_option linter.unusedVariables false
/-- The marks. -/
def mkF (k : Int) : Nat → Nat := fun i => floatOfInt .f32 (k + i)
theorem mk_table : ∀ k : Fin 301, nanB .f32 (floatOfInt .f32 ((k.val : Nat) : Int)) = false := by decide +kernel
theorem mk_num {k : Int} (h0 : 0 ≤ k) (h1 : k ≤ 300) : nanB .f32 (floatOfInt .f32 k) = false := by
  have := mk_table ⟨k.toNat, by omega⟩
  rwa [show ((k.toNat : Nat) : Int) = k by omega] at this
set_option maxHeartbeats 400000 in
theorem markFloats_any (b off n cap : Nat) (z : Nat → Nat) (k : Int) (w : World) (hn : n ≤ 256) (h1 : n ≤ cap) (h2 : cap ≤ maxLen) (h3 : b < w.heap.size) (h4 : ∀ i, i < n → w.cell? ⟨b, off + i, none⟩ = some (.float .f32 (z i))) (hf : ∀ i, i < n → w.frozen? ⟨b, off + i, none⟩ = false) (k0 : 0 ≤ k) (k1 : k ≤ 40) :
    Calls Tryd.prog 19 #[.slice (some ⟨b, off, none⟩) n cap, .int .i64 k] w fun e w' => e = .returned (.int .i64 (k + n)) ∧ Wrote b w w' ∧ FEls w' (some ⟨b, off, none⟩) n cap (mkF k) := by
  go_enter Tryd.func19, Tryd.ntmps19
  go_wp2
  go_loopw [1, 5] (fun s1 i wr => ∃ j : Nat, j ≤ n ∧ i = .int .i64 j ∧ s1 = .int .i64 (k + j) ∧ Wrote b w wr ∧ (∀ i, i < n → wr.cell? ⟨b, off + i, none⟩ = some (.float .f32 (if i < j then mkF k i else z i)))) (fun _ i _ => n - (intOf i).toNat)
  case atStart => exact ⟨0, Nat.zero_le _, rfl, by simp, Wrote.refl _ _, fun i hi => by rw [if_neg (Nat.not_lt_zero _)]; exact h4 i hi⟩
  case round =>
    obtain ⟨j, hj, rfl, rfl, hW, hc⟩ := hrel
    clear h4
    by_cases hlt : j < n
    · have hcj := hc j hlt
      have hfj := (hW.fr (off + j)).trans (hf j hlt)
      have HC := Lib.hid hc
      have HF := Lib.hid hf
      clear hc hf
      unfold maxLen at h2
      go_wp2
      exact ⟨⟨j + 1, by omega, by go_num, by go_num, hW.set _ _, fun i hi => by
        rw [store1 (HC.out i hi)]
        by_cases e : i = j
        · subst e; rw [if_pos rfl, if_pos (by omega)]; rfl
        · rw [if_neg (by omega)]
          by_cases e2 : i < j
          · rw [if_pos e2, if_pos (by omega)]
          · rw [if_neg e2, if_neg (by omega)]⟩, by simp [intOf]; omega⟩
    · obtain rfl : j = n := by omega
      have HC := Lib.hid hc
      clear hc hf
      go_wp2
      go_ret
      exact ⟨rfl, hW, .inr ⟨b, off, rfl, h1, h2, by rw [hW.size]; exact h3, fun i hi => by rw [HC.out i hi, if_pos hi]⟩⟩
theorem markFloats_none (a : Option Addr) (cap : Nat) (k : Int) (w : World) (k0 : 0 ≤ k) (k1 : k ≤ 40) :
    Calls Tryd.prog 19 #[.slice a 0 cap, .int .i64 k] w fun e w' => e = .returned (.int .i64 k) ∧ w = w' := by
  go_enter Tryd.func19, Tryd.ntmps19
  go_wp2
  refine wp_loop_rounds 1 ?_
  rw [rounds_succ]
  go_wp2
  go_ret
  exact ⟨rfl, rfl⟩
theorem markFloats_own (a : Option Addr) (lo hi n cap : Nat) (z : Nat → Nat) (k : Int) (w : World) (h : SOwn w lo hi a n cap (kF z)) (hn : n ≤ 256) (k0 : 0 ≤ k) (k1 : k ≤ 40) :
    Calls Tryd.prog 19 #[.slice a n cap, .int .i64 k] w fun e w' => e = .returned (.int .i64 (k + n)) ∧ Chg lo hi w w' ∧ SIn w' lo hi a n cap (kF (mkF k)) := by
  by_cases h0 : n = 0
  · subst h0
    exact (markFloats_none a cap k w k0 k1).mono fun e w' q => ⟨by rw [q.1]; simp, q.2 ▸ Chg.of_bel (Below.refl _ _), .inl rfl⟩
  · rcases h.sin with h9 | ⟨b, off, rfl, h1, h2, h3, h4, h5, h6⟩
    · exact absurd h9 h0
    have hf := h.free.resolve_left h0
    refine (markFloats_any b off n cap z k w hn h3 h4 h5 h6 (fun i hi => hf b off rfl i hi) k0 k1).mono fun e w' q => ⟨q.1, Chg.of_wrote q.2.1 h1 h2, ?_⟩
    rcases q.2.2 with h9 | ⟨b', off', e', g1, g2, g3, g4⟩
    · exact absurd h9 h0
    · obtain ⟨rfl, rfl⟩ : b = b' ∧ off = off' := by simpa using e'
      exact .inr ⟨b, off, rfl, h1, h2, h3, h4, g3, g4⟩
set_option maxHeartbeats 400000 in
theorem heldFloats_any (a : Option Addr) (n cap : Nat) (k : Int) (w : World) (h : FEls w a n cap (mkF k)) (hn : n ≤ 256) (h0 : 0 ≤ k) (h1 : k ≤ 40) :
    Calls Tryd.prog 20 #[.slice a n cap, .int .i64 k] w fun e w' => e = .returned (.int .i64 (k + n)) ∧ w = w' := by
  go_enter Tryd.func20, Tryd.ntmps20
  go_wp2
  go_loop [1, 5] (fun s1 i => ∃ j : Nat, j ≤ n ∧ i = .int .i64 j ∧ s1 = .int .i64 (k + j)) (fun _ i => n - (intOf i).toNat)
  case atStart => exact ⟨0, Nat.zero_le _, rfl, by simp⟩
  case round =>
    obtain ⟨j, hj, rfl, rfl⟩ := hrel
    by_cases hlt : j < n
    · rcases h with h0 | ⟨b, off, rfl, h1, h2, h3, h4⟩
      · omega
      have hc := h4 j hlt
      have hq := mk_num (k := k + j) (by omega) (by omega)
      unfold mkF at hc
      clear h4
      unfold maxLen at h2
      go_wp2
      go_round
      case rel => exact ⟨j + 1, by omega, by go_num, by go_num⟩
      case measure => simp [intOf]; omega
    · clear h
      go_wp2
      go_ret
      obtain rfl : j = n := by omega
      exact ⟨rfl, rfl⟩
theorem heldFloats_bel (a : Option Addr) (n cap : Nat) (k : Int) (w : World) (h : FEls w a n cap (mkF k)) (hn : n ≤ 256) (h0 : 0 ≤ k) (h1 : k ≤ 40) :
    Calls Tryd.prog 20 #[.slice a n cap, .int .i64 k] w fun e w' => e = .returned (.int .i64 (k + n)) ∧ Below w.heap.size w w' :=
  (heldFloats_any a n cap k w h hn h0 h1).mono fun e w' ⟨h1, h2⟩ => ⟨h1, h2 ▸ Below.refl _ _⟩
end Go.Proofs.YtoemjeomfnndaaaDoor
