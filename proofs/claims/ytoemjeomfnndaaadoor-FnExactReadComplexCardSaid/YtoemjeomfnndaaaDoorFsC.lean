/- Slices of floats by ranges of blocks; the law's small functions on them. -/
import Derived.Test.YtoemjeomfnndaaaDoorSlC
import Derived.Test.YtoemjeomfnndaaaDoorFloatC
import Derived.Test.YtoemjeomfnndaaaDoorFl
import Derived.Test.YtoemjeomfnndaaaDoorRel
namespace Go.Proofs.YtoemjeomfnndaaaDoor
open Go.RowKit
set_option linter.unusedVariables false
abbrev kF (z : Nat → Nat) : Nat → Value := fun i => .float .f32 (z i)
theorem SIn.floats {w : World} {lo hi n cap : Nat} {a : Option Addr} {z : Nat → Nat} (h : SIn w lo hi a n cap (kF z)) : FEls w a n cap z := by
  rcases h with h | ⟨b, off, rfl, h1, h2, h3, h4, h5, h6⟩
  · exact .inl h
  · exact .inr ⟨b, off, rfl, h3, h4, h5, h6⟩
theorem isRow_floats {w : World} {a : Option Addr} {n cap : Nat} {z : Nat → Nat} (h : IsRowF .f32 w a n cap z) : SIn w 0 w.heap.size a n cap (kF z) ∧ ∀ i, i < n → z i < 4294967296 := by
  rcases h with ⟨_, rfl, _⟩ | ⟨x, rfl, hl, hm, hc, hw⟩
  · exact ⟨.inl rfl, fun i hi => absurd hi (Nat.not_lt_zero _)⟩
  · refine ⟨?_, fun i hi => ?_⟩
    · by_cases h0 : n = 0
      · exact .inl h0
      · obtain ⟨b, off, spot⟩ := x
        have h1 := hc 0 (by omega)
        have hspot : spot = none := by simpa [Addr.add] using World.cell?_spot h1
        subst hspot
        have hcell : ∀ i, i < cap → w.cell? ⟨b, off + i, none⟩ = some (.float .f32 (z i)) := by
          intro i hi
          have := hc i hi
          unfold Addr.add at this
          by_cases hi0 : i = 0
          · subst hi0; simpa using this
          · simpa [hi0] using this
        have hb := lt_size (hcell 0 (by omega))
        exact .inr ⟨b, off, rfl, Nat.zero_le _, hb, hl, hm, hb, fun i hi => hcell i (by omega)⟩
    · have := hw i (by omega)
      simpa [Lit.wf] using this
set_option maxHeartbeats 400000 in
theorem toFloats_new (a : Option Addr) (n cap : Nat) (z : Nat → Nat) (w : World) (h : FEls w a n cap z) (hn : n ≤ 1048576) :
    Calls Tryd.prog 34 #[.slice a n cap] w fun e w' => e = .returned (.slice (some ⟨w.heap.size, 0, none⟩) n n) ∧ NewS w (some ⟨w.heap.size, 0, none⟩) n n (kF z) w' := by
  have hmk := fun w => run_make_row' (P := Tryd.prog) 28 51 (.float .f32 0) 4 Tryd.underlying28 (by kernel_rfl) rfl .i64 .i64 n (by omega) (by omega) w
  go_enter Tryd.func34, Tryd.ntmps34
  go_wp2
  have hF := Fill.start w n (kF z) (fun v => ∃ x, v = .float .f32 x) (.float .f32 0) ⟨0, rfl⟩ 51
  generalize w.alloc (.cells (madeCells #[.float .f32 0] n) 51) = W at *
  clear hmk
  go_loopw [4] (fun i wr => ∃ k : Nat, k ≤ n ∧ i = .int .i64 k ∧ Hid (Fill w n k (kF z) (fun v => ∃ x, v = .float .f32 x) wr)) (fun i _ => n - (intOf i).toNat)
  case atStart => exact ⟨0, Nat.zero_le _, rfl, Lib.hid hF⟩
  case round =>
    obtain ⟨k, hk, rfl, HR⟩ := hrel
    clear hF
    by_cases hlt : k < n
    · rcases h with h0 | ⟨b, off, rfl, h1, h2, h3, h4⟩
      · omega
      obtain ⟨_, hd, ⟨x, rfl⟩, _⟩ := HR.out.cell k hlt
      have hf := HR.out.free k
      have hc : wr.cell? ⟨b, off + k, none⟩ = some (.float .f32 (z k)) := by rw [HR.out.1.cell h3]; exact h4 k hlt
      clear h4
      unfold maxLen at h2
      go_wp2
      exact ⟨⟨k + 1, by omega, by go_num, Lib.hid (HR.out.step ⟨_, rfl⟩)⟩, by simp [intOf]; omega⟩
    · clear h
      obtain rfl : k = n := by omega
      go_wp2
      go_ret
      exact ⟨rfl, HR.out.new (by unfold maxLen; omega)⟩
set_option maxHeartbeats 800000 in
theorem eqFloats_any (a a' : Option Addr) (n cap cap' : Nat) (z : Nat → Nat) (w : World) (h : FEls w a n cap z) (h' : FEls w a' n cap' z) (hn : n ≤ 1048576) :
    Calls Tryd.prog 18 #[.slice a n cap, .slice a' n cap'] w fun e w' => e = .returned (.bool true) ∧ ∃ m, w' = w.drewN m := by
  go_enter Tryd.func18, Tryd.ntmps18
  go_wp2
  go_loopw [5] (fun i wr => ∃ k m : Nat, k ≤ n ∧ i = .int .i64 k ∧ wr = w.drewN m) (fun i _ => n - (intOf i).toNat)
  case atStart => exact ⟨0, 0, Nat.zero_le _, rfl, rfl⟩
  case round =>
    obtain ⟨k, m, hk, rfl, rfl⟩ := hrel
    by_cases hlt : k < n
    · rcases h with h0 | ⟨b, off, rfl, h1, h2, h3, h4⟩
      · omega
      rcases h' with h0 | ⟨b', off', rfl, h1', h2', h3', h4'⟩
      · omega
      have hc := h4 k hlt
      have hc' := h4' k hlt
      clear h4 h4'
      unfold maxLen at h2 h2'
      have hk0 : (0 : Int) ≤ (k : Int) := by omega
      have hkn : (k : Int) < (n : Int) := by omega
      go_wp2
      refine wp_region_rel (fun w' => ∃ m, w' = w.drewN m) (fun _ v => v = .bool true) (by kernel_rfl) (by kernel_rfl) ⟨m + 1, rfl⟩ ?_
      (refine wpRel_value _ rfl (fun wx hC => ⟨wx, (by obtain ⟨q, rfl⟩ := hC; go_simp; first | done | rfl | exact ⟨rfl, rfl⟩), hC⟩) ?_; simp only [Act.put, List.setIfInBounds_toArray, List.set_cons_succ, List.set_cons_zero])
      (refine wpRel_value _ rfl (fun wx hC => ⟨wx, (by obtain ⟨q, rfl⟩ := hC; go_simp; first | done | rfl | exact ⟨rfl, rfl⟩), hC⟩) ?_; simp only [Act.put, List.setIfInBounds_toArray, List.set_cons_succ, List.set_cons_zero])
      (refine wpRel_value _ rfl (fun wx hC => ⟨wx, (by obtain ⟨q, rfl⟩ := hC; go_simp; first | done | rfl | exact ⟨rfl, rfl⟩), hC⟩) ?_; simp only [Act.put, List.setIfInBounds_toArray, List.set_cons_succ, List.set_cons_zero])
      (refine wpRel_value _ rfl (fun wx hC => ⟨wx, (by obtain ⟨q, rfl⟩ := hC; go_simp; first | done | rfl | exact ⟨rfl, rfl⟩), hC⟩) ?_; simp only [Act.put, List.setIfInBounds_toArray, List.set_cons_succ, List.set_cons_zero])
      (refine wpRel_some (fun v => ∃ r, v = .float .f64 r ∧ av .f64 r = acv .f32 .f64 (av .f32 (z k))) rfl (fun wx hC => ⟨_, _, (by go_simp; exact ⟨rfl, rfl⟩), (by obtain ⟨q, rfl⟩ := hC; exact ⟨_, World.drewN_drewN ..⟩), ⟨_, rfl, av_wide _ _⟩⟩) ?_; rintro v ⟨r1, rfl, e1⟩; simp only [Act.put, List.setIfInBounds_toArray, List.set_cons_succ, List.set_cons_zero])
      have e1 := Lib.hid e1
      (refine wpRel_value _ rfl (fun wx hC => ⟨wx, (by obtain ⟨q, rfl⟩ := hC; go_simp; first | done | rfl | exact ⟨rfl, rfl⟩), hC⟩) ?_; simp only [Act.put, List.setIfInBounds_toArray, List.set_cons_succ, List.set_cons_zero])
      (refine wpRel_value _ rfl (fun wx hC => ⟨wx, (by obtain ⟨q, rfl⟩ := hC; go_simp; first | done | rfl | exact ⟨rfl, rfl⟩), hC⟩) ?_; simp only [Act.put, List.setIfInBounds_toArray, List.set_cons_succ, List.set_cons_zero])
      (refine wpRel_value _ rfl (fun wx hC => ⟨wx, (by obtain ⟨q, rfl⟩ := hC; go_simp; first | done | rfl | exact ⟨rfl, rfl⟩), hC⟩) ?_; simp only [Act.put, List.setIfInBounds_toArray, List.set_cons_succ, List.set_cons_zero])
      (refine wpRel_value _ rfl (fun wx hC => ⟨wx, (by obtain ⟨q, rfl⟩ := hC; go_simp; first | done | rfl | exact ⟨rfl, rfl⟩), hC⟩) ?_; simp only [Act.put, List.setIfInBounds_toArray, List.set_cons_succ, List.set_cons_zero])
      (refine wpRel_some (fun v => ∃ r, v = .float .f64 r ∧ av .f64 r = acv .f32 .f64 (av .f32 (z k))) rfl (fun wx hC => ⟨_, _, (by go_simp; exact ⟨rfl, rfl⟩), (by obtain ⟨q, rfl⟩ := hC; exact ⟨_, World.drewN_drewN ..⟩), ⟨_, rfl, av_wide _ _⟩⟩) ?_; rintro v ⟨r2, rfl, e2⟩; simp only [Act.put, List.setIfInBounds_toArray, List.set_cons_succ, List.set_cons_zero])
      have e2 := Lib.hid e2
      refine wpRel_call 42 #[.float .f64 r1, .float .f64 r2] rfl (fun wx hC => (by go_simp)) (fun wx hC => (sameFloat_same r1 r2 wx (by rw [e1.out, e2.out])).mono ?_) ?_
      · rintro e w' ⟨rfl, q, rfl⟩
        obtain ⟨p, rfl⟩ := hC
        exact ⟨_, rfl, rfl, _, World.drewN_drewN ..⟩
      rintro v rfl
      simp only [Act.put, List.setIfInBounds_toArray, List.set_cons_succ, List.set_cons_zero]
      (refine wpRel_value _ rfl (fun wx hC => ⟨wx, (by obtain ⟨q, rfl⟩ := hC; go_simp; first | done | rfl | exact ⟨rfl, rfl⟩), hC⟩) ?_; simp only [Act.put, List.setIfInBounds_toArray, List.set_cons_succ, List.set_cons_zero])
      refine wpRel_nil ?_
      rintro w' ⟨q, rfl⟩
      go_wp2
      exact ⟨⟨k + 1, q, by omega, by go_num, rfl⟩, by simp [intOf]; omega⟩
    · clear h h'
      go_wp2
      go_ret
      exact ⟨rfl, _, rfl⟩

theorem eqFloats_bel (a a' : Option Addr) (n cap cap' : Nat) (z : Nat → Nat) (w : World) (h : FEls w a n cap z) (h' : FEls w a' n cap' z) (hn : n ≤ 1048576) :
    Calls Tryd.prog 18 #[.slice a n cap, .slice a' n cap'] w fun e w' => e = .returned (.bool true) ∧ Below w.heap.size w w' :=
  (eqFloats_any a a' n cap cap' z w h h' hn).mono fun e w' ⟨h1, m, h2⟩ => ⟨h1, h2 ▸ drewN_bel w m⟩
end Go.Proofs.YtoemjeomfnndaaaDoor
