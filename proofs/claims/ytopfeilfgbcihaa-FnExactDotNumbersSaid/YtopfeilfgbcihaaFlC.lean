/- Contracts of the functions that add floats, copy and compare lists of floats. -/
import Derived.Test.YtopfeilfgbcihaaFloatC
import Derived.Test.YtopfeilfgbcihaaFl
import Derived.Test.YtopfeilfgbcihaaRel
namespace Go.Proofs.Ytopfeilfgbcihaa
open Go.RowKit
set_option linter.unusedVariables false
/-- It returns some float that is this one up to the choice of a NaN; the world has at most drawn. -/
def SomeF (k : FloatKind) (o : Option Nat) (w : World) (e : Ending) (w' : World) : Prop := ∃ r m, av k r = o ∧ e = .returned (.float k r) ∧ w' = w.drewN m
def SomeFB (k : FloatKind) (o : Option Nat) (c : Bool) (w : World) (e : Ending) (w' : World) : Prop := ∃ r m, av k r = o ∧ e = .returned (.tuple #[.float k r, .bool c]) ∧ w' = w.drewN m
/-- It returns a copy of these floats, at the heap's old end. -/
def Copied (n : Nat) (z : Nat → Nat) (w : World) (e : Ending) (w' : World) : Prop :=
  e = .returned (.slice (some ⟨w.heap.size, 0, none⟩) n n) ∧ Below w.heap.size w w' ∧ w'.heap.size = w.heap.size + 1 ∧ FEls w' (some ⟨w.heap.size, 0, none⟩) n n z

theorem isRow_els {w : World} {a : Option Addr} {n cap : Nat} {z : Nat → Nat} (h : IsRowF .f32 w a n cap z) : FEls w a n cap z := by
  rcases h with ⟨_, rfl, _⟩ | ⟨x, rfl, hl, hm, hc, _⟩
  · exact .inl rfl
  · by_cases h0 : n = 0
    · exact .inl h0
    · obtain ⟨b, off, spot⟩ := x
      have h1 := hc 0 (by omega)
      have hspot : spot = none := by simpa [Addr.add] using World.cell?_spot h1
      subst hspot
      have hcell : ∀ i, i < cap → w.cell? ⟨b, off + i, none⟩ = some (.float .f32 (z i)) := by
        intro i hi
        have := hc i hi
        unfold Addr.add at this
        by_cases hi0 : i = 0
        · subst hi0; simpa using this
        · simpa [hi0] using this
      exact .inr ⟨b, off, rfl, hl, hm, block_lt (hcell 0 (by omega)), fun i hi => hcell i (by omega)⟩

set_option maxHeartbeats 400000 in
theorem l01Sum_any (a : Option Addr) (n cap : Nat) (z : Nat → Nat) (w : World) (h : FEls w a n cap z) (hn : n ≤ 1048576) :
    Calls Try.prog 63 #[.slice a n cap] w (SomeF .f32 (sumA z n) w) := by
  go_enter Try.func63, Try.ntmps63
  go_wp2
  go_loopw [3, 4] (fun s i wr => ∃ k r m : Nat, k ≤ n ∧ i = .int .i64 k ∧ s = .float .f32 r ∧ av .f32 r = sumA z k ∧ wr = w.drewN m) (fun _ i _ => n - (intOf i).toNat)
  case atStart => exact ⟨0, 0, 0, Nat.zero_le _, rfl, rfl, av_some (nan_zero .f32), rfl⟩
  case round =>
    obtain ⟨k, r, m, hk, rfl, rfl, hr, rfl⟩ := hrel
    have HR := Lib.hid hr
    clear hr
    by_cases hlt : k < n
    · rcases h with h0 | ⟨b, off, rfl, h1, h2, h3, h4⟩
      · omega
      have hc := h4 k hlt
      clear h4
      unfold maxLen at h2
      go_wp2
      exact ⟨⟨k + 1, _, _, by omega, by go_num, rfl, by rw [av_fval, HR.out]; rfl, rfl⟩, by simp [intOf]; omega⟩
    · clear h
      go_wp2
      go_ret
      obtain rfl : k = n := by omega
      exact ⟨r, _, HR.out, rfl, rfl⟩
set_option maxHeartbeats 400000 in
theorem sum_any (a : Option Addr) (n cap : Nat) (z : Nat → Nat) (w : World) (h : FEls w a n cap z) (hn : n ≤ 1048576) :
    Calls Try.prog 64 #[.slice a n cap] w (SomeF .f32 (sumA z n) w) := by
  go_enter Try.func64, Try.ntmps64
  go_wp2
  go_loopw [3, 8] (fun s i wr => ∃ k r m : Nat, k ≤ n ∧ i = .int .i64 k ∧ s = .float .f32 r ∧ av .f32 r = sumA z k ∧ wr = w.drewN m) (fun _ i _ => n - (intOf i).toNat)
  case atStart => exact ⟨0, 0, 0, Nat.zero_le _, rfl, rfl, av_some (nan_zero .f32), rfl⟩
  case round =>
    obtain ⟨k, r, m, hk, rfl, rfl, hr, rfl⟩ := hrel
    have HR := Lib.hid hr
    clear hr
    by_cases hlt : k < n
    · rcases h with h0 | ⟨b, off, rfl, h1, h2, h3, h4⟩
      · omega
      have hc := h4 k hlt
      clear h4
      unfold maxLen at h2
      go_wp2
      exact ⟨⟨k + 1, _, _, by omega, by go_num, rfl, by rw [av_fval, HR.out]; rfl, rfl⟩, by simp [intOf]; omega⟩
    · clear h
      go_wp2
      go_ret
      obtain rfl : k = n := by omega
      exact ⟨r, _, HR.out, rfl, rfl⟩

set_option maxHeartbeats 400000 in
theorem specSum_any (a : Option Addr) (n cap : Nat) (z : Nat → Nat) (w : World) (h : FEls w a n cap z) (hn : n ≤ 1048576) :
    Calls Try.prog 28 #[.slice a n cap] w (SomeFB .f32 (if n ≤ 256 then sumA z n else some 0) (decide (n ≤ 256)) w) := by
  by_cases hb : n ≤ 256
  · rw [if_pos hb, decide_eq_true hb]
    have hb' : decide ((n : Int) ≤ 256) = true := by rw [decide_eq_true_eq]; omega
    go_enter Try.func28, Try.ntmps28
    go_wp2_with (first | (go_at_call 63; refine (l01Sum_any a n cap z _ h hn).mono ?_; rintro e w' ⟨r, m, hr, rfl, rfl⟩) | go_in)
    go_ret2
    exact ⟨_, _, hr, rfl, rfl⟩
  · rw [if_neg hb, decide_eq_false hb]
    have hb' : decide ((n : Int) ≤ 256) = false := by rw [decide_eq_false_iff_not]; omega
    go_enter Try.func28, Try.ntmps28
    go_wp2
    go_ret2
    exact ⟨0, 0, av_some (nan_zero .f32), rfl, rfl⟩
set_option maxHeartbeats 400000 in
theorem implSum_any (a : Option Addr) (n cap : Nat) (z : Nat → Nat) (w : World) (h : FEls w a n cap z) (hn : n ≤ 1048576) :
    Calls Try.prog 29 #[.slice a n cap] w (SomeFB .f32 (if n ≤ 256 then sumA z n else some 0) (decide (n ≤ 256)) w) := by
  by_cases hb : n ≤ 256
  · rw [if_pos hb, decide_eq_true hb]
    have hb' : decide ((n : Int) ≤ 256) = true := by rw [decide_eq_true_eq]; omega
    go_enter Try.func29, Try.ntmps29
    go_wp2_with (first | (go_at_call 64; refine (sum_any a n cap z _ h hn).mono ?_; rintro e w' ⟨r, m, hr, rfl, rfl⟩) | go_in)
    go_ret2
    exact ⟨_, _, hr, rfl, rfl⟩
  · rw [if_neg hb, decide_eq_false hb]
    have hb' : decide ((n : Int) ≤ 256) = false := by rw [decide_eq_false_iff_not]; omega
    go_enter Try.func29, Try.ntmps29
    go_wp2
    go_ret2
    exact ⟨0, 0, av_some (nan_zero .f32), rfl, rfl⟩

set_option maxHeartbeats 400000 in
theorem toFloats_any (a : Option Addr) (n cap : Nat) (z : Nat → Nat) (w : World) (h : FEls w a n cap z) (hn : n ≤ 1048576) :
    Calls Try.prog 25 #[.slice a n cap] w (Copied n z w) := by
  have hmk := fun w => run_make_row' (P := Try.prog) 33 22 (.float .f32 0) 4 Try.underlying33 (by kernel_rfl) rfl .i64 .i64 n (by omega) (by omega) w
  go_enter Try.func25, Try.ntmps25
  go_wp2
  have hF := Filled.start w n z 22
  generalize w.alloc (.cells (madeCells #[.float .f32 0] n) 22) = W at *
  clear hmk
  go_loopw [4] (fun i wr => ∃ k : Nat, k ≤ n ∧ i = .int .i64 k ∧ Filled w n k z wr) (fun i _ => n - (intOf i).toNat)
  case atStart => exact ⟨0, Nat.zero_le _, rfl, hF⟩
  case round =>
    obtain ⟨k, hk, rfl, hr⟩ := hrel
    have HR := Lib.hid hr
    clear hr hF
    by_cases hlt : k < n
    · rcases h with h0 | ⟨b, off, rfl, h1, h2, h3, h4⟩
      · omega
      obtain ⟨x, hd, hf⟩ := HR.out.cell hlt
      have hc := h4 k hlt
      have hc : wr.cell? ⟨b, off + k, none⟩ = some (.float .f32 (z k)) := by rw [HR.out.1.cell h3]; exact hc
      clear h4
      unfold maxLen at h2
      go_wp2
      exact ⟨⟨k + 1, by omega, by go_num, HR.out.step⟩, by simp [intOf]; omega⟩
    · clear h
      go_wp2
      go_ret
      obtain rfl : k = n := by omega
      exact ⟨rfl, HR.out.1, HR.out.2.1, HR.out.els (by unfold maxLen; omega)⟩

set_option maxHeartbeats 800000 in
theorem eqFloats_any (a a' : Option Addr) (n cap cap' : Nat) (z : Nat → Nat) (w : World) (h : FEls w a n cap z) (h' : FEls w a' n cap' z) (hn : n ≤ 1048576) :
    Calls Try.prog 27 #[.slice a n cap, .slice a' n cap'] w fun e w' => e = .returned (.bool true) ∧ ∃ m, w' = w.drewN m := by
  go_enter Try.func27, Try.ntmps27
  go_wp2
  go_loopw [5] (fun i wr => ∃ k m : Nat, k ≤ n ∧ i = .int .i64 k ∧ wr = w.drewN m) (fun i _ => n - (intOf i).toNat)
  case atStart => exact ⟨0, 0, Nat.zero_le _, rfl, rfl⟩
  case round =>
    obtain ⟨k, m, hk, rfl, rfl⟩ := hrel
    by_cases hlt : k < n
    · rcases h with h0 | ⟨b, off, rfl, h1, h2, h3, h4⟩
      · omega
      rcases h' with h0 | ⟨b', off', rfl, h1', h2', h3', h4'⟩
      · omega
      have hc := h4 k hlt
      have hc' := h4' k hlt
      clear h4 h4'
      unfold maxLen at h2 h2'
      have hk0 : (0 : Int) ≤ (k : Int) := by omega
      have hkn : (k : Int) < (n : Int) := by omega
      go_wp2
      refine wp_region_rel (fun w' => ∃ m, w' = w.drewN m) (fun _ v => v = .bool true) (by kernel_rfl) (by kernel_rfl) ⟨m + 1, rfl⟩ ?_
      (refine wpRel_value _ rfl (fun wx hC => ⟨wx, (by obtain ⟨q, rfl⟩ := hC; go_simp; first | done | rfl | exact ⟨rfl, rfl⟩), hC⟩) ?_; simp only [Act.put, List.setIfInBounds_toArray, List.set_cons_succ, List.set_cons_zero])
      (refine wpRel_value _ rfl (fun wx hC => ⟨wx, (by obtain ⟨q, rfl⟩ := hC; go_simp; first | done | rfl | exact ⟨rfl, rfl⟩), hC⟩) ?_; simp only [Act.put, List.setIfInBounds_toArray, List.set_cons_succ, List.set_cons_zero])
      (refine wpRel_value _ rfl (fun wx hC => ⟨wx, (by obtain ⟨q, rfl⟩ := hC; go_simp; first | done | rfl | exact ⟨rfl, rfl⟩), hC⟩) ?_; simp only [Act.put, List.setIfInBounds_toArray, List.set_cons_succ, List.set_cons_zero])
      (refine wpRel_value _ rfl (fun wx hC => ⟨wx, (by obtain ⟨q, rfl⟩ := hC; go_simp; first | done | rfl | exact ⟨rfl, rfl⟩), hC⟩) ?_; simp only [Act.put, List.setIfInBounds_toArray, List.set_cons_succ, List.set_cons_zero])
      (refine wpRel_some (fun v => ∃ r, v = .float .f64 r ∧ av .f64 r = acv .f32 .f64 (av .f32 (z k))) rfl (fun wx hC => ⟨_, _, (by go_simp; exact ⟨rfl, rfl⟩), (by obtain ⟨q, rfl⟩ := hC; exact ⟨_, World.drewN_drewN ..⟩), ⟨_, rfl, av_wide _ _⟩⟩) ?_; rintro v ⟨r1, rfl, e1⟩; simp only [Act.put, List.setIfInBounds_toArray, List.set_cons_succ, List.set_cons_zero])
      have e1 := Lib.hid e1
      (refine wpRel_value _ rfl (fun wx hC => ⟨wx, (by obtain ⟨q, rfl⟩ := hC; go_simp; first | done | rfl | exact ⟨rfl, rfl⟩), hC⟩) ?_; simp only [Act.put, List.setIfInBounds_toArray, List.set_cons_succ, List.set_cons_zero])
      (refine wpRel_value _ rfl (fun wx hC => ⟨wx, (by obtain ⟨q, rfl⟩ := hC; go_simp; first | done | rfl | exact ⟨rfl, rfl⟩), hC⟩) ?_; simp only [Act.put, List.setIfInBounds_toArray, List.set_cons_succ, List.set_cons_zero])
      (refine wpRel_value _ rfl (fun wx hC => ⟨wx, (by obtain ⟨q, rfl⟩ := hC; go_simp; first | done | rfl | exact ⟨rfl, rfl⟩), hC⟩) ?_; simp only [Act.put, List.setIfInBounds_toArray, List.set_cons_succ, List.set_cons_zero])
      (refine wpRel_value _ rfl (fun wx hC => ⟨wx, (by obtain ⟨q, rfl⟩ := hC; go_simp; first | done | rfl | exact ⟨rfl, rfl⟩), hC⟩) ?_; simp only [Act.put, List.setIfInBounds_toArray, List.set_cons_succ, List.set_cons_zero])
      (refine wpRel_some (fun v => ∃ r, v = .float .f64 r ∧ av .f64 r = acv .f32 .f64 (av .f32 (z k))) rfl (fun wx hC => ⟨_, _, (by go_simp; exact ⟨rfl, rfl⟩), (by obtain ⟨q, rfl⟩ := hC; exact ⟨_, World.drewN_drewN ..⟩), ⟨_, rfl, av_wide _ _⟩⟩) ?_; rintro v ⟨r2, rfl, e2⟩; simp only [Act.put, List.setIfInBounds_toArray, List.set_cons_succ, List.set_cons_zero])
      have e2 := Lib.hid e2
      refine wpRel_call 19 #[.float .f64 r1, .float .f64 r2] rfl (fun wx hC => (by go_simp)) (fun wx hC => (sameFloat_same r1 r2 wx (by rw [e1.out, e2.out])).mono ?_) ?_
      · rintro e w' ⟨rfl, q, rfl⟩
        obtain ⟨p, rfl⟩ := hC
        exact ⟨_, rfl, rfl, _, World.drewN_drewN ..⟩
      rintro v rfl
      simp only [Act.put, List.setIfInBounds_toArray, List.set_cons_succ, List.set_cons_zero]
      (refine wpRel_value _ rfl (fun wx hC => ⟨wx, (by obtain ⟨q, rfl⟩ := hC; go_simp; first | done | rfl | exact ⟨rfl, rfl⟩), hC⟩) ?_; simp only [Act.put, List.setIfInBounds_toArray, List.set_cons_succ, List.set_cons_zero])
      refine wpRel_nil ?_
      rintro w' ⟨q, rfl⟩
      go_wp2
      exact ⟨⟨k + 1, q, by omega, by go_num, rfl⟩, by simp [intOf]; omega⟩
    · clear h h'
      go_wp2
      go_ret
      exact ⟨rfl, _, rfl⟩

set_option maxHeartbeats 800000 in
theorem l01Dot_any (a a' : Option Addr) (n cap cap' : Nat) (y z : Nat → Nat) (w : World) (h : FEls w a n cap y) (h' : FEls w a' n cap' z) (hn : n ≤ 1048576) :
    Calls Try.prog 62 #[.slice a n cap, .slice a' n cap'] w (SomeF .f32 (dotA y z n) w) := by
  go_enter Try.func62, Try.ntmps62
  go_wp2
  go_loopw [5, 6] (fun s i wr => ∃ k r m : Nat, k ≤ n ∧ i = .int .i64 k ∧ s = .float .f32 r ∧ av .f32 r = dotA y z k ∧ wr = w.drewN m) (fun _ i _ => n - (intOf i).toNat)
  case atStart => exact ⟨0, 0, 0, Nat.zero_le _, rfl, rfl, av_some (nan_zero .f32), rfl⟩
  case round =>
    obtain ⟨k, r, m, hk, rfl, rfl, hr, rfl⟩ := hrel
    have HR := Lib.hid hr
    clear hr
    by_cases hlt : k < n
    · rcases h with h0 | ⟨b, off, rfl, h1, h2, h3, h4⟩
      · omega
      rcases h' with h0 | ⟨b', off', rfl, h1', h2', h3', h4'⟩
      · omega
      have hc := h4 k hlt
      have hc' := h4' k hlt
      clear h4 h4'
      unfold maxLen at h2 h2'
      have hk0 : (0 : Int) ≤ (k : Int) := by omega
      have hkn : (k : Int) < (n : Int) := by omega
      go_wp2
      refine wp_region_rel (fun w' => ∃ m, w' = w.drewN m) (fun _ v => v = .bool true) (by kernel_rfl) (by kernel_rfl) ⟨m + 1, rfl⟩ ?_
      (refine wpRel_value _ rfl (fun wx hC => ⟨wx, (by obtain ⟨q, rfl⟩ := hC; go_simp; first | done | rfl | exact ⟨rfl, rfl⟩), hC⟩) ?_; simp only [Act.put, List.setIfInBounds_toArray, List.set_cons_succ, List.set_cons_zero])
      (refine wpRel_value _ rfl (fun wx hC => ⟨wx, (by obtain ⟨q, rfl⟩ := hC; go_simp; first | done | rfl | exact ⟨rfl, rfl⟩), hC⟩) ?_; simp only [Act.put, List.setIfInBounds_toArray, List.set_cons_succ, List.set_cons_zero])
      (refine wpRel_value _ rfl (fun wx hC => ⟨wx, (by obtain ⟨q, rfl⟩ := hC; go_simp; first | done | rfl | exact ⟨rfl, rfl⟩), hC⟩) ?_; simp only [Act.put, List.setIfInBounds_toArray, List.set_cons_succ, List.set_cons_zero])
      (refine wpRel_value _ rfl (fun wx hC => ⟨wx, (by obtain ⟨q, rfl⟩ := hC; go_simp; first | done | rfl | exact ⟨rfl, rfl⟩), hC⟩) ?_; simp only [Act.put, List.setIfInBounds_toArray, List.set_cons_succ, List.set_cons_zero])
      (refine wpRel_value _ rfl (fun wx hC => ⟨wx, (by obtain ⟨q, rfl⟩ := hC; go_simp; first | done | rfl | exact ⟨rfl, rfl⟩), hC⟩) ?_; simp only [Act.put, List.setIfInBounds_toArray, List.set_cons_succ, List.set_cons_zero])
      (refine wpRel_value _ rfl (fun wx hC => ⟨wx, (by obtain ⟨q, rfl⟩ := hC; go_simp; first | done | rfl | exact ⟨rfl, rfl⟩), hC⟩) ?_; simp only [Act.put, List.setIfInBounds_toArray, List.set_cons_succ, List.set_cons_zero])
      (refine wpRel_value _ rfl (fun wx hC => ⟨wx, (by obtain ⟨q, rfl⟩ := hC; go_simp; first | done | rfl | exact ⟨rfl, rfl⟩), hC⟩) ?_; simp only [Act.put, List.setIfInBounds_toArray, List.set_cons_succ, List.set_cons_zero])
      (refine wpRel_value _ rfl (fun wx hC => ⟨wx, (by obtain ⟨q, rfl⟩ := hC; go_simp; first | done | rfl | exact ⟨rfl, rfl⟩), hC⟩) ?_; simp only [Act.put, List.setIfInBounds_toArray, List.set_cons_succ, List.set_cons_zero])
      (refine wpRel_value _ rfl (fun wx hC => ⟨wx, (by obtain ⟨q, rfl⟩ := hC; go_simp; first | done | rfl | exact ⟨rfl, rfl⟩), hC⟩) ?_; simp only [Act.put, List.setIfInBounds_toArray, List.set_cons_succ, List.set_cons_zero])
      (refine wpRel_some (fun v => ∃ r9, v = .float .f32 r9 ∧ av .f32 r9 = aop .mul .f32 (av .f32 (y k)) (av .f32 (z k))) rfl (fun wx hC => ⟨_, _, (by go_simp; exact ⟨rfl, rfl⟩), (by obtain ⟨q, rfl⟩ := hC; exact ⟨_, World.drewN_drewN ..⟩), ⟨_, rfl, av_fval ..⟩⟩) ?_; rintro v ⟨r1, rfl, e1⟩; simp only [Act.put, List.setIfInBounds_toArray, List.set_cons_succ, List.set_cons_zero])
      have e1 := Lib.hid e1
      (refine wpRel_some (fun v => ∃ r9, v = .float .f32 r9 ∧ av .f32 r9 = aop .add .f32 (av .f32 r) (av .f32 r1)) rfl (fun wx hC => ⟨_, _, (by go_simp; exact ⟨rfl, rfl⟩), (by obtain ⟨q, rfl⟩ := hC; exact ⟨_, World.drewN_drewN ..⟩), ⟨_, rfl, av_fval ..⟩⟩) ?_; rintro v ⟨r2, rfl, e2⟩; simp only [Act.put, List.setIfInBounds_toArray, List.set_cons_succ, List.set_cons_zero])
      have e2 := Lib.hid e2
      (refine wpRel_value _ rfl (fun wx hC => ⟨wx, (by obtain ⟨q, rfl⟩ := hC; go_simp; first | done | rfl | exact ⟨rfl, rfl⟩), hC⟩) ?_; simp only [Act.put, List.setIfInBounds_toArray, List.set_cons_succ, List.set_cons_zero])
      refine wpRel_nil ?_
      rintro w' ⟨q, rfl⟩
      go_wp2
      exact ⟨⟨k + 1, _, q, by omega, by go_num, rfl, by rw [e2.out, e1.out, HR.out]; rfl, rfl⟩, by simp [intOf]; omega⟩
    · clear h h'
      go_wp2
      go_ret
      obtain rfl : k = n := by omega
      exact ⟨r, _, HR.out, rfl, rfl⟩

set_option maxHeartbeats 800000 in
theorem specDot_any (a a' : Option Addr) (n n' cap cap' : Nat) (y z : Nat → Nat) (w : World) (h : FEls w a n cap y) (h' : FEls w a' n' cap' z) (hn : n ≤ 1048576) (hn' : n' ≤ 1048576) :
    Calls Try.prog 24 #[.slice a n cap, .slice a' n' cap'] w (SomeFB .f32 (if n ≤ 256 ∧ n = n' then dotA y z n else some 0) (decide (n ≤ 256 ∧ n = n')) w) := by
  by_cases hb : n ≤ 256 ∧ n = n'
  · rw [if_pos hb, decide_eq_true hb]
    obtain ⟨hb1, rfl⟩ := hb
    have hb' : decide ((n : Int) ≤ 256) = true := by rw [decide_eq_true_eq]; omega
    go_enter Try.func24, Try.ntmps24
    go_wp2_with (first | (go_at_call 62; refine (l01Dot_any a a' n cap cap' y z _ h h' hn).mono ?_; rintro e w' ⟨r, m, hr, rfl, rfl⟩) | go_in)
    go_ret2
    exact ⟨_, _, hr, rfl, rfl⟩
  · rw [if_neg hb, decide_eq_false hb]
    by_cases hb1 : n ≤ 256
    · have hb2 : ((n : Int) != (n' : Int)) = true := by rw [bne_iff_ne]; omega
      have hb' : decide ((n : Int) ≤ 256) = true := by rw [decide_eq_true_eq]; omega
      clear hb
      go_enter Try.func24, Try.ntmps24
      go_wp2
      go_ret2
      exact ⟨0, 0, av_some (nan_zero .f32), rfl, rfl⟩
    · have hb' : decide ((n : Int) ≤ 256) = false := by rw [decide_eq_false_iff_not]; omega
      clear hb
      go_enter Try.func24, Try.ntmps24
      go_wp2
      go_ret2
      exact ⟨0, 0, av_some (nan_zero .f32), rfl, rfl⟩

set_option maxHeartbeats 800000 in
theorem implDot_any (a a' : Option Addr) (n n' cap cap' : Nat) (y z : Nat → Nat) (w : World) (h : FEls w a n cap y) (h' : FEls w a' n' cap' z) (hn : n ≤ 1048576) (hn' : n' ≤ 1048576) :
    Calls Try.prog 26 #[.slice a n cap, .slice a' n' cap'] w (SomeFB .f32 (if n ≤ 256 ∧ n = n' then dotA y z n else some 0) (decide (n ≤ 256 ∧ n = n')) w) := by
  by_cases hb : n ≤ 256 ∧ n = n'
  · rw [if_pos hb, decide_eq_true hb]
    obtain ⟨hb1, rfl⟩ := hb
    have hb' : decide ((n : Int) ≤ 256) = true := by rw [decide_eq_true_eq]; omega
    have hb3 : ¬ 256 < n := by omega
    go_enter Try.func26, Try.ntmps26
    go_wp2
    go_loopw [6, 21] (fun s i wr => ∃ k r m : Nat, k ≤ n ∧ i = .int .i64 k ∧ s = .float .f32 r ∧ av .f32 r = dotA y z k ∧ wr = w.drewN m) (fun _ i _ => n - (intOf i).toNat)
    case atStart => exact ⟨0, 0, 0, Nat.zero_le _, rfl, rfl, av_some (nan_zero .f32), rfl⟩
    case round =>
      obtain ⟨k, r, m, hk, rfl, rfl, hr, rfl⟩ := hrel
      have HR := Lib.hid hr
      clear hr
      by_cases hlt : k < n
      · rcases h with h0 | ⟨b, off, rfl, h1, h2, h3, h4⟩
        · omega
        rcases h' with h0 | ⟨b', off', rfl, h1', h2', h3', h4'⟩
        · omega
        have hc := h4 k hlt
        have hc' := h4' k hlt
        clear h4 h4'
        unfold maxLen at h2 h2'
        go_wp2
        exact ⟨⟨k + 1, _, _, by omega, by go_num, rfl, by rw [av_fval, av_fval, HR.out]; rfl, rfl⟩, by simp [intOf]; omega⟩
      · clear h h'
        go_wp2
        go_ret2
        obtain rfl : k = n := by omega
        exact ⟨r, _, HR.out, rfl, rfl⟩
  · rw [if_neg hb, decide_eq_false hb]
    by_cases hb1 : n ≤ 256
    · have hb2 : ((n : Int) != (n' : Int)) = true := by rw [bne_iff_ne]; omega
      have hb3 : ¬ 256 < n := by omega
      clear hb
      go_enter Try.func26, Try.ntmps26
      go_wp2
      go_ret2
      exact ⟨0, 0, av_some (nan_zero .f32), rfl, rfl⟩
    · clear hb
      go_enter Try.func26, Try.ntmps26
      go_wp2
      go_ret2
      exact ⟨0, 0, av_some (nan_zero .f32), rfl, rfl⟩
end Go.Proofs.Ytopfeilfgbcihaa
