/- Slices of bools: what they hold; the law's three small functions on them. -/
import Derived.Test.YtlaelfaalgmicaaIlC
namespace Go.Proofs.Ytlaelfaalgmicaa
open Go.RowKit
set_option linter.unusedVariables false
/-- The elements of a slice value: n bools. -/
def BEls (w : World) (a : Option Addr) (n cap : Nat) (z : Nat → Bool) : Prop :=
  n = 0 ∨ ∃ b off, a = some ⟨b, off, none⟩ ∧ n ≤ cap ∧ cap ≤ maxLen ∧ b < w.heap.size ∧ ∀ i, i < n → w.cell? ⟨b, off + i, none⟩ = some (.bool (z i))
theorem BEls.later {w w' : World} {a : Option Addr} {n cap : Nat} {z : Nat → Bool} (h : BEls w a n cap z) (hb : Below w.heap.size w w') : BEls w' a n cap z := by
  rcases h with h | ⟨b, off, rfl, h1, h2, h3, h4⟩
  · exact .inl h
  · exact .inr ⟨b, off, rfl, h1, h2, Nat.lt_of_lt_of_le h3 hb.size, fun i hi => by rw [hb.cell h3]; exact h4 i hi⟩
set_option maxHeartbeats 400000 in
theorem eqBools_any (a a' : Option Addr) (n cap cap' : Nat) (z : Nat → Bool) (w : World) (h : BEls w a n cap z) (h' : BEls w a' n cap' z) (hn : n ≤ 1048576) :
    Calls Try.prog 43 #[.slice a n cap, .slice a' n cap'] w fun e w' => e = .returned (.bool true) ∧ ∃ m, w' = w.drewN m := by
  go_enter Try.func43, Try.ntmps43
  go_wp2
  go_loopw [5] (fun i wr => ∃ k m : Nat, k ≤ n ∧ i = .int .i64 k ∧ wr = w.drewN m) (fun i _ => n - (intOf i).toNat)
  case atStart => exact ⟨0, 0, Nat.zero_le _, rfl, rfl⟩
  case round =>
    obtain ⟨k, m, hk, rfl, rfl⟩ := hrel
    by_cases hlt : k < n
    · rcases h with h0 | ⟨b, off, rfl, h1, h2, h3, h4⟩
      · omega
      rcases h' with h0 | ⟨b', off', rfl, h1', h2', h3', h4'⟩
      · omega
      have hc : (w.drewN m).cell? ⟨b, off + k, none⟩ = some (.bool (z k)) := by rw [World.cell?_drewN]; exact h4 k hlt
      have hc' : (w.drewN m).cell? ⟨b', off' + k, none⟩ = some (.bool (z k)) := by rw [World.cell?_drewN]; exact h4' k hlt
      clear h4 h4'
      unfold maxLen at h2 h2'
      have hk0 : (0 : Int) ≤ (k : Int) := by omega
      have hkn : (k : Int) < (n : Int) := by omega
      generalize hW : w.drewN m = W at *
      go_upto_region 6 with fail
      go_quiet (fail)
      go_wp2
      exact ⟨⟨k + 1, m + nq, by omega, by go_num, by rw [← hW, World.drewN_drewN]⟩, by simp [intOf]; omega⟩
    · clear h h'
      go_wp2
      go_ret
      exact ⟨rfl, _, rfl⟩
/-- A new row of n bools at the heap's old end, the first k of which are written. -/
def BFilled (w : World) (n k : Nat) (z : Nat → Bool) (wr : World) : Prop :=
  Below w.heap.size w wr ∧ wr.heap.size = w.heap.size + 1 ∧ (∀ j, wr.frozen? ⟨w.heap.size, j, none⟩ = false) ∧
  ∃ Z : Nat → Bool, (∀ j, j < n → wr.cell? ⟨w.heap.size, j, none⟩ = some (.bool (Z j))) ∧ ∀ j, j < k → Z j = z j
theorem BFilled.start (w : World) (n : Nat) (z : Nat → Bool) (e : TypeId) : BFilled w n 0 z (w.alloc (.cells (madeCells #[.bool false] n) e)) := by
  refine ⟨(Below.refl _ _).alloc (Nat.le_refl _) _, by simp, fun j => by simp, fun _ => false, fun j hj => ?_, fun j hj => absurd hj (Nat.not_lt_zero _)⟩
  have h : (madeCells #[Value.bool false] n)[j]? = some (.bool false) := by
    rw [← Array.getElem?_toList, toList_madeCells_one, List.getElem?_replicate, if_pos hj]
  simp [h]
theorem BFilled.step {w : World} {n k : Nat} {z : Nat → Bool} {wr : World} (h : BFilled w n k z wr) : BFilled w n (k + 1) z (wr.setCell ⟨w.heap.size, k, none⟩ (.bool (z k))) := by
  obtain ⟨h1, h2, h3, Z, h4, h5⟩ := h
  refine ⟨h1.setCell (Nat.le_refl _) _, by simpa [World.setCell] using h2, fun j => by rw [World.frozen?_setCell]; exact h3 j, fun j => if j = k then z k else Z j, fun j hj => ?_, fun j hj => ?_⟩
  · rw [store1 (h4 j hj)]
    by_cases hjk : j = k <;> simp [hjk]
  · by_cases hjk : j = k
    · simp [hjk]
    · simp [hjk]; exact h5 j (by omega)
theorem BFilled.cell {w : World} {n k : Nat} {z : Nat → Bool} {wr : World} (h : BFilled w n k z wr) {j : Nat} (hj : j < n) : ∃ x, wr.cell? ⟨w.heap.size, j, none⟩ = some (.bool x) ∧ wr.frozen? ⟨w.heap.size, j, none⟩ = false := by
  obtain ⟨_, _, h3, Z, h4, _⟩ := h
  exact ⟨Z j, h4 j hj, h3 j⟩
set_option maxHeartbeats 400000 in
theorem toBools_any (a : Option Addr) (n cap : Nat) (z : Nat → Bool) (w : World) (h : BEls w a n cap z) (hn : n ≤ 1048576) :
    Calls Try.prog 49 #[.slice a n cap] w fun e w' => e = .returned (.slice (some ⟨w.heap.size, 0, none⟩) n n) ∧ BFilled w n n z w' := by
  have hmk := fun w => run_make_row' (P := Try.prog) 52 4 (.bool false) 1 Try.underlying52 (by kernel_rfl) rfl .i64 .i64 n (by omega) (by omega) w
  go_enter Try.func49, Try.ntmps49
  go_wp2
  have hF := BFilled.start w n z 4
  generalize w.alloc (.cells (madeCells #[.bool false] n) 4) = W at *
  clear hmk
  go_loopw [4] (fun i wr => ∃ k : Nat, k ≤ n ∧ i = .int .i64 k ∧ BFilled w n k z wr) (fun i _ => n - (intOf i).toNat)
  case atStart => exact ⟨0, Nat.zero_le _, rfl, hF⟩
  case round =>
    obtain ⟨k, hk, rfl, hr⟩ := hrel
    have HR := Lib.hid hr
    clear hr hF
    by_cases hlt : k < n
    · rcases h with h0 | ⟨b, off, rfl, h1, h2, h3, h4⟩
      · omega
      obtain ⟨x, hd, hf⟩ := HR.out.cell hlt
      have hc := h4 k hlt
      have hc : wr.cell? ⟨b, off + k, none⟩ = some (.bool (z k)) := by rw [HR.out.1.cell h3]; exact hc
      clear h4
      unfold maxLen at h2
      go_wp2
      exact ⟨⟨k + 1, by omega, by go_num, HR.out.step⟩, by simp [intOf]; omega⟩
    · clear h
      go_wp2
      go_ret
      obtain rfl : k = n := by omega
      exact ⟨rfl, HR.out⟩
set_option maxHeartbeats 400000 in
theorem markBools_any (b off n cap : Nat) (z : Nat → Bool) (k : Int) (w : World) (hn : n ≤ 1048576) (h1 : n ≤ cap) (h2 : cap ≤ maxLen) (h3 : b < w.heap.size) (h4 : ∀ i, i < n → ∃ v, w.cell? ⟨b, off + i, none⟩ = some (.bool v)) (hf : ∀ i, i < n → w.frozen? ⟨b, off + i, none⟩ = false) (k0 : 0 ≤ k) (k1 : k ≤ 4294967296) :
    Calls Try.prog 44 #[.slice (some ⟨b, off, none⟩) n cap, .int .i64 k] w fun e w' => e = .returned (.int .i64 (k + n)) ∧ Wrote b w w' := by
  go_enter Try.func44, Try.ntmps44
  go_wp2
  go_loopw [1, 5] (fun s1 i wr => ∃ j : Nat, j ≤ n ∧ i = .int .i64 j ∧ s1 = .int .i64 (k + j) ∧ Wrote b w wr ∧ (∀ i, i < n → ∃ v, wr.cell? ⟨b, off + i, none⟩ = some (.bool v))) (fun _ i _ => n - (intOf i).toNat)
  case atStart => exact ⟨0, Nat.zero_le _, rfl, by simp, Wrote.refl _ _, h4⟩
  case round =>
    obtain ⟨j, hj, rfl, rfl, hW, hc⟩ := hrel
    clear h4
    by_cases hlt : j < n
    · obtain ⟨v, hcj⟩ := hc j hlt
      have hfj := (hW.fr (off + j)).trans (hf j hlt)
      have HC := Lib.hid hc
      have HF := Lib.hid hf
      clear hc hf
      unfold maxLen at h2
      go_wp2
      exact ⟨⟨j + 1, by omega, by go_num, by go_num, hW.set _ _, fun i hi => by
        obtain ⟨v, hv⟩ := HC.out i hi
        by_cases e : off + i = off + j
        · exact ⟨_, by rw [store1 hv, if_pos e]⟩
        · exact ⟨_, by rw [store1 hv, if_neg e]⟩⟩, by simp [intOf]; omega⟩
    · obtain rfl : j = n := by omega
      clear hc hf
      go_wp2
      go_ret
      exact ⟨rfl, hW⟩
end Go.Proofs.Ytlaelfaalgmicaa
