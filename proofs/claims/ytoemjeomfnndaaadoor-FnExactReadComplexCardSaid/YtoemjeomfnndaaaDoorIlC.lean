/- Slices of int64: what they hold; the law's three small functions on them. -/
import Derived.Test.YtoemjeomfnndaaaDoorBase
import Derived.Deep.OwnRows
import Derived.Deep.QuietTactic
import Derived.BigQuiet
import Derived.Deep.DeepCutAuto
namespace Go.Proofs.YtoemjeomfnndaaaDoor
open Go.RowKit
set_option linter.unusedVariables false
/-- The elements of a slice value: n numbers. -/
def IEls (w : World) (a : Option Addr) (n cap : Nat) (z : Nat → Int) : Prop :=
  n = 0 ∨ ∃ b off, a = some ⟨b, off, none⟩ ∧ n ≤ cap ∧ cap ≤ maxLen ∧ b < w.heap.size ∧ ∀ i, i < n → w.cell? ⟨b, off + i, none⟩ = some (.int .i64 (z i))
theorem IEls.later {w w' : World} {a : Option Addr} {n cap : Nat} {z : Nat → Int} (h : IEls w a n cap z) (hb : Below w.heap.size w w') : IEls w' a n cap z := by
  rcases h with h | ⟨b, off, rfl, h1, h2, h3, h4⟩
  · exact .inl h
  · exact .inr ⟨b, off, rfl, h1, h2, Nat.lt_of_lt_of_le h3 hb.size, fun i hi => by rw [hb.cell h3]; exact h4 i hi⟩
set_option maxHeartbeats 400000 in
theorem heldInts_any (a : Option Addr) (n cap : Nat) (k : Int) (w : World) (h : IEls w a n cap (fun i => k + i)) (hn : n ≤ 1048576) (h0 : 0 ≤ k) (h1 : k ≤ 4294967296) :
    Calls Tryd.prog 15 #[.slice a n cap, .int .i64 k] w fun e w' => e = .returned (.int .i64 (k + n)) ∧ w = w' := by
  go_enter Tryd.func15, Tryd.ntmps15
  go_wp2
  go_loop [1, 5] (fun s1 i => ∃ j : Nat, j ≤ n ∧ i = .int .i64 j ∧ s1 = .int .i64 (k + j)) (fun _ i => n - (intOf i).toNat)
  case atStart => exact ⟨0, Nat.zero_le _, rfl, by simp⟩
  case round =>
    obtain ⟨j, hj, rfl, rfl⟩ := hrel
    by_cases hlt : j < n
    · rcases h with h0 | ⟨b, off, rfl, h1, h2, h3, h4⟩
      · omega
      have hc := h4 j hlt
      clear h4
      unfold maxLen at h2
      go_wp2
      go_round
      case rel => exact ⟨j + 1, by omega, by go_num, by go_num⟩
      case measure => simp [intOf]; omega
    · clear h
      go_wp2
      go_ret
      obtain rfl : j = n := by omega
      exact ⟨rfl, rfl⟩
set_option maxHeartbeats 400000 in
theorem eqInts_any (a a' : Option Addr) (n cap cap' : Nat) (z : Nat → Int) (w : World) (h : IEls w a n cap z) (h' : IEls w a' n cap' z) (hn : n ≤ 1048576) :
    Calls Tryd.prog 13 #[.slice a n cap, .slice a' n cap'] w fun e w' => e = .returned (.bool true) ∧ ∃ m, w' = w.drewN m := by
  go_enter Tryd.func13, Tryd.ntmps13
  go_wp2
  go_loopw [5] (fun i wr => ∃ k m : Nat, k ≤ n ∧ i = .int .i64 k ∧ wr = w.drewN m) (fun i _ => n - (intOf i).toNat)
  case atStart => exact ⟨0, 0, Nat.zero_le _, rfl, rfl⟩
  case round =>
    obtain ⟨k, m, hk, rfl, rfl⟩ := hrel
    by_cases hlt : k < n
    · rcases h with h0 | ⟨b, off, rfl, h1, h2, h3, h4⟩
      · omega
      rcases h' with h0 | ⟨b', off', rfl, h1', h2', h3', h4'⟩
      · omega
      have hc : (w.drewN m).cell? ⟨b, off + k, none⟩ = some (.int .i64 (z k)) := by rw [World.cell?_drewN]; exact h4 k hlt
      have hc' : (w.drewN m).cell? ⟨b', off' + k, none⟩ = some (.int .i64 (z k)) := by rw [World.cell?_drewN]; exact h4' k hlt
      clear h4 h4'
      unfold maxLen at h2 h2'
      have hk0 : (0 : Int) ≤ (k : Int) := by omega
      have hkn : (k : Int) < (n : Int) := by omega
      generalize hW : w.drewN m = W at *
      go_upto_region 6 with fail
      go_quiet (fail)
      go_wp2
      exact ⟨⟨k + 1, m + nq, by omega, by go_num, by rw [← hW, World.drewN_drewN]⟩, by simp [intOf]; omega⟩
    · clear h h'
      go_wp2
      go_ret
      exact ⟨rfl, _, rfl⟩
/-- Only cells of block b may have been written. -/
structure Wrote (b : Nat) (w w' : World) : Prop where
  os : w'.os = w.os
  tape : w'.tape = w.tape
  output : w'.output = w.output
  size : w'.heap.size = w.heap.size
  oth : ∀ j, j ≠ b → w'.heap[j]? = w.heap[j]?
  fr : ∀ o, w'.frozen? ⟨b, o, none⟩ = w.frozen? ⟨b, o, none⟩
theorem Wrote.refl (b : Nat) (w : World) : Wrote b w w := ⟨rfl, rfl, rfl, rfl, fun _ _ => rfl, fun _ => rfl⟩
theorem Wrote.set {b : Nat} {w w' : World} (h : Wrote b w w') (o : Nat) (u : Value) : Wrote b w (w'.setCell ⟨b, o, none⟩ u) :=
  ⟨h.os, h.tape, h.output, by simp [h.size], fun j hj => (Below.heap_setCell _ _ _ _ (by simpa using hj)).trans (h.oth j hj), fun q => by rw [World.frozen?_setCell]; exact h.fr q⟩
theorem Wrote.bel {b B : Nat} {w w' : World} (h : Wrote b w w') (hB : B ≤ b) : Below B w w' := ⟨h.os, h.tape, h.output, Nat.le_of_eq h.size.symm, fun j hj => h.oth j (by omega)⟩
theorem store1 {w : World} {b j k : Nat} {v u : Value} (h : w.cell? ⟨b, j, none⟩ = some v) : (w.setCell ⟨b, k, none⟩ u).cell? ⟨b, j, none⟩ = some (if j = k then u else v) := by
  by_cases e : j = k
  · subst e; rw [if_pos rfl]; exact World.cell?_setCell_same _ _ _ h
  · rw [if_neg e]; exact (World.cell?_setCell_other _ _ _ _ (by simp)).trans h
set_option maxHeartbeats 400000 in
theorem markInts_any (b off n cap : Nat) (z : Nat → Int) (k : Int) (w : World) (hn : n ≤ 1048576) (h1 : n ≤ cap) (h2 : cap ≤ maxLen) (h3 : b < w.heap.size) (h4 : ∀ i, i < n → w.cell? ⟨b, off + i, none⟩ = some (.int .i64 (z i))) (hf : ∀ i, i < n → w.frozen? ⟨b, off + i, none⟩ = false) (k0 : 0 ≤ k) (k1 : k ≤ 4294967296) :
    Calls Tryd.prog 14 #[.slice (some ⟨b, off, none⟩) n cap, .int .i64 k] w fun e w' => e = .returned (.int .i64 (k + n)) ∧ Wrote b w w' ∧ IEls w' (some ⟨b, off, none⟩) n cap (fun i => k + i) := by
  go_enter Tryd.func14, Tryd.ntmps14
  go_wp2
  go_loopw [1, 5] (fun s1 i wr => ∃ j : Nat, j ≤ n ∧ i = .int .i64 j ∧ s1 = .int .i64 (k + j) ∧ Wrote b w wr ∧ (∀ i, i < n → wr.cell? ⟨b, off + i, none⟩ = some (.int .i64 (if i < j then k + i else z i)))) (fun _ i _ => n - (intOf i).toNat)
  case atStart => exact ⟨0, Nat.zero_le _, rfl, by simp, Wrote.refl _ _, fun i hi => by rw [if_neg (Nat.not_lt_zero _)]; exact h4 i hi⟩
  case round =>
    obtain ⟨j, hj, rfl, rfl, hW, hc⟩ := hrel
    clear h4
    by_cases hlt : j < n
    · have hcj := hc j hlt
      have hfj := (hW.fr (off + j)).trans (hf j hlt)
      have HC := Lib.hid hc
      have HF := Lib.hid hf
      clear hc hf
      unfold maxLen at h2
      go_wp2
      exact ⟨⟨j + 1, by omega, by go_num, by go_num, hW.set _ _, fun i hi => by
        rw [store1 (HC.out i hi)]
        by_cases e : i = j
        · subst e; rw [if_pos rfl, if_pos (by omega)]
        · rw [if_neg (by omega)]
          by_cases e2 : i < j
          · rw [if_pos e2, if_pos (by omega)]
          · rw [if_neg e2, if_neg (by omega)]⟩, by simp [intOf]; omega⟩
    · obtain rfl : j = n := by omega
      have HC := Lib.hid hc
      clear hc hf
      go_wp2
      go_ret
      exact ⟨rfl, hW, .inr ⟨b, off, rfl, h1, h2, by rw [hW.size]; exact h3, fun i hi => by rw [HC.out i hi, if_pos hi]⟩⟩
end Go.Proofs.YtoemjeomfnndaaaDoor
