/- Slices of complex numbers; the law's small functions on them. -/
import Derived.Test.YtoemjeomfnndaaaDoorMfC
import Derived.Test.YtoemjeomfnndaaaDoorRcC
namespace Go.Proofs.YtoemjeomfnndaaaDoor
open Go.RowKit
set_option linter.unusedVariables false
theorem cvalI {s k : FloatKind} {b r : Nat} (h : floatToFloatBits s b k = some r) (w : World) : cval s b k w = r := by simp [cval, h]
theorem cNI {s k : FloatKind} {b r : Nat} (h : floatToFloatBits s b k = some r) : cN s b k = 0 := by simp [cN, h, fdraw]
@[go_sem] theorem run_c2c {P : Program} (w : World) (s : FloatKind) (a b : Nat) (k : FloatKind) : (Conv.complexToComplex s a b k).run P w = .ok (.complex k (cval s a k w) (cval s b k (w.drewN (cN s a k)))) (w.drewN (cN s a k + cN s b k)) := by
  unfold Conv.complexToComplex
  simp only [Sem.run_bind, run_f2f, Result.andThen_ok, Sem.run_pure, World.drewN_drewN]
@[go_sem] theorem run_ccc {P : Program} (w : World) (src dst : TypeId) (s k : FloatKind) (a b : Nat) (hs : (P.underlying src).isSome = true) (hd : P.underlying dst = some (.complex k)) :
    (convert src dst (.complex s a b)).run P w = .ok (.complex k (cval s a k w) (cval s b k (w.drewN (cN s a k)))) (w.drewN (cN s a k + cN s b k)) := by
  obtain ⟨u, hs'⟩ := Option.isSome_iff_exists.1 hs
  cases u <;> simp [convert, run_underlying hs', run_underlying hd, run_c2c]
@[go_sem] theorem run_store_complex {P : Program} (w : World) (a : Addr) (k : FloatKind) (b c : Nat) (m : Mode) : (store a (.complex k b c) m).run P w = stored P w a (.complex k b c) m := run_store P w a _ m rfl
/-- The elements of a slice value: n complex numbers. -/
def CEls (w : World) (a : Option Addr) (n cap : Nat) (x y : Nat → Nat) : Prop :=
  n = 0 ∨ ∃ b off, a = some ⟨b, off, none⟩ ∧ n ≤ cap ∧ cap ≤ maxLen ∧ b < w.heap.size ∧ ∀ i, i < n → w.cell? ⟨b, off + i, none⟩ = some (.complex .f32 (x i) (y i))
theorem SIn.cplx {w : World} {lo hi n cap : Nat} {a : Option Addr} {x y : Nat → Nat} (h : SIn w lo hi a n cap (kC x y)) : CEls w a n cap x y := by
  rcases h with h | ⟨b, off, rfl, h1, h2, h3, h4, h5, h6⟩
  · exact .inl h
  · exact .inr ⟨b, off, rfl, h3, h4, h5, h6⟩
theorem sameComplex_same (a b c d : Nat) (w : World) (h1 : av .f64 a = av .f64 c) (h2 : av .f64 b = av .f64 d) : Calls Tryd.prog 44 #[.complex .f64 a b, .complex .f64 c d] w fun e w' => e = .returned (.bool true) ∧ ∃ n, w' = w.drewN n := by
  have S1 := Lib.hid fun w => sameFloat_same a c w h1
  have S2 := Lib.hid fun w => sameFloat_same b d w h2
  clear h1 h2
  go_enter Tryd.func44, Tryd.ntmps44
  have HR0 := trivial
  go_wp2_with (go_at_call 42; first | (clear HR0; refine (S1.out _).mono ?_; rintro e w' ⟨rfl, m1, rfl⟩) | (refine (S2.out _).mono ?_; rintro e w' ⟨rfl, m2, rfl⟩))
  go_ret
  exact ⟨rfl, _, rfl⟩
set_option maxHeartbeats 800000 in
theorem eqCplx_any (a a' : Option Addr) (n cap cap' : Nat) (x y : Nat → Nat) (w : World) (h : CEls w a n cap x y) (h' : CEls w a' n cap' x y) (hn : n ≤ 1048576) :
    Calls Tryd.prog 23 #[.slice a n cap, .slice a' n cap'] w fun e w' => e = .returned (.bool true) ∧ ∃ m, w' = w.drewN m := by
  go_enter Tryd.func23, Tryd.ntmps23
  go_wp2
  go_loopw [5] (fun i wr => ∃ k m : Nat, k ≤ n ∧ i = .int .i64 k ∧ wr = w.drewN m) (fun i _ => n - (intOf i).toNat)
  case atStart => exact ⟨0, 0, Nat.zero_le _, rfl, rfl⟩
  case round =>
    obtain ⟨k, m, hk, rfl, rfl⟩ := hrel
    by_cases hlt : k < n
    · rcases h with h0 | ⟨b, off, rfl, h1, h2, h3, h4⟩
      · omega
      rcases h' with h0 | ⟨b', off', rfl, h1', h2', h3', h4'⟩
      · omega
      have hc := h4 k hlt
      have hc' := h4' k hlt
      clear h4 h4'
      unfold maxLen at h2 h2'
      have hk0 : (0 : Int) ≤ (k : Int) := by omega
      have hkn : (k : Int) < (n : Int) := by omega
      go_wp2
      refine wp_region_rel (fun w' => ∃ m, w' = w.drewN m) (fun _ v => v = .bool true) (by kernel_rfl) (by kernel_rfl) ⟨m + 1, rfl⟩ ?_
      (refine wpRel_value _ rfl (fun wx hC => ⟨wx, (by obtain ⟨q, rfl⟩ := hC; go_simp; first | done | rfl | exact ⟨rfl, rfl⟩), hC⟩) ?_; simp only [Act.put, List.setIfInBounds_toArray, List.set_cons_succ, List.set_cons_zero])
      (refine wpRel_value _ rfl (fun wx hC => ⟨wx, (by obtain ⟨q, rfl⟩ := hC; go_simp; first | done | rfl | exact ⟨rfl, rfl⟩), hC⟩) ?_; simp only [Act.put, List.setIfInBounds_toArray, List.set_cons_succ, List.set_cons_zero])
      (refine wpRel_value _ rfl (fun wx hC => ⟨wx, (by obtain ⟨q, rfl⟩ := hC; go_simp; first | done | rfl | exact ⟨rfl, rfl⟩), hC⟩) ?_; simp only [Act.put, List.setIfInBounds_toArray, List.set_cons_succ, List.set_cons_zero])
      (refine wpRel_value _ rfl (fun wx hC => ⟨wx, (by obtain ⟨q, rfl⟩ := hC; go_simp; first | done | rfl | exact ⟨rfl, rfl⟩), hC⟩) ?_; simp only [Act.put, List.setIfInBounds_toArray, List.set_cons_succ, List.set_cons_zero])
      (refine wpRel_some (fun v => ∃ r s, v = .complex .f64 r s ∧ av .f64 r = acv .f32 .f64 (av .f32 (x k)) ∧ av .f64 s = acv .f32 .f64 (av .f32 (y k))) rfl (fun wx hC => ⟨_, _, (by go_simp; exact ⟨⟨rfl, rfl⟩, rfl⟩), (by obtain ⟨q, rfl⟩ := hC; exact ⟨_, World.drewN_drewN ..⟩), ⟨_, _, rfl, av_wide _ _, av_wide _ _⟩⟩) ?_; rintro v ⟨r1, s1, rfl, e1, g1⟩; simp only [Act.put, List.setIfInBounds_toArray, List.set_cons_succ, List.set_cons_zero])
      have e1 := Lib.hid e1
      have g1 := Lib.hid g1
      (refine wpRel_value _ rfl (fun wx hC => ⟨wx, (by obtain ⟨q, rfl⟩ := hC; go_simp; first | done | rfl | exact ⟨rfl, rfl⟩), hC⟩) ?_; simp only [Act.put, List.setIfInBounds_toArray, List.set_cons_succ, List.set_cons_zero])
      (refine wpRel_value _ rfl (fun wx hC => ⟨wx, (by obtain ⟨q, rfl⟩ := hC; go_simp; first | done | rfl | exact ⟨rfl, rfl⟩), hC⟩) ?_; simp only [Act.put, List.setIfInBounds_toArray, List.set_cons_succ, List.set_cons_zero])
      (refine wpRel_value _ rfl (fun wx hC => ⟨wx, (by obtain ⟨q, rfl⟩ := hC; go_simp; first | done | rfl | exact ⟨rfl, rfl⟩), hC⟩) ?_; simp only [Act.put, List.setIfInBounds_toArray, List.set_cons_succ, List.set_cons_zero])
      (refine wpRel_value _ rfl (fun wx hC => ⟨wx, (by obtain ⟨q, rfl⟩ := hC; go_simp; first | done | rfl | exact ⟨rfl, rfl⟩), hC⟩) ?_; simp only [Act.put, List.setIfInBounds_toArray, List.set_cons_succ, List.set_cons_zero])
      (refine wpRel_some (fun v => ∃ r s, v = .complex .f64 r s ∧ av .f64 r = acv .f32 .f64 (av .f32 (x k)) ∧ av .f64 s = acv .f32 .f64 (av .f32 (y k))) rfl (fun wx hC => ⟨_, _, (by go_simp; exact ⟨⟨rfl, rfl⟩, rfl⟩), (by obtain ⟨q, rfl⟩ := hC; exact ⟨_, World.drewN_drewN ..⟩), ⟨_, _, rfl, av_wide _ _, av_wide _ _⟩⟩) ?_; rintro v ⟨r2, s2, rfl, e2, g2⟩; simp only [Act.put, List.setIfInBounds_toArray, List.set_cons_succ, List.set_cons_zero])
      have e2 := Lib.hid e2
      have g2 := Lib.hid g2
      refine wpRel_call 44 #[.complex .f64 r1 s1, .complex .f64 r2 s2] rfl (fun wx hC => (by go_simp)) (fun wx hC => (sameComplex_same r1 s1 r2 s2 wx (by rw [e1.out, e2.out]) (by rw [g1.out, g2.out])).mono ?_) ?_
      · rintro e w' ⟨rfl, q, rfl⟩
        obtain ⟨p, rfl⟩ := hC
        exact ⟨_, rfl, rfl, _, World.drewN_drewN ..⟩
      rintro v rfl
      simp only [Act.put, List.setIfInBounds_toArray, List.set_cons_succ, List.set_cons_zero]
      (refine wpRel_value _ rfl (fun wx hC => ⟨wx, (by obtain ⟨q, rfl⟩ := hC; go_simp; first | done | rfl | exact ⟨rfl, rfl⟩), hC⟩) ?_; simp only [Act.put, List.setIfInBounds_toArray, List.set_cons_succ, List.set_cons_zero])
      refine wpRel_nil ?_
      rintro w' ⟨q, rfl⟩
      go_wp2
      exact ⟨⟨k + 1, q, by omega, by go_num, rfl⟩, by simp [intOf]; omega⟩
    · clear h h'
      go_wp2
      go_ret
      exact ⟨rfl, _, rfl⟩
theorem eqCplx_bel (a a' : Option Addr) (n cap cap' : Nat) (x y : Nat → Nat) (w : World) (h : CEls w a n cap x y) (h' : CEls w a' n cap' x y) (hn : n ≤ 1048576) :
    Calls Tryd.prog 23 #[.slice a n cap, .slice a' n cap'] w fun e w' => e = .returned (.bool true) ∧ Below w.heap.size w w' :=
  (eqCplx_any a a' n cap cap' x y w h h' hn).mono fun e w' ⟨h1, m, h2⟩ => ⟨h1, h2 ▸ drewN_bel w m⟩
abbrev oneF : Nat → Nat := fun _ => 1065353216
theorem nar_table : ∀ k : Fin 301, floatToFloatBits .f64 (floatOfInt .f64 ((k.val : Nat) : Int)) .f32 = some (floatOfInt .f32 ((k.val : Nat) : Int)) := by decide +kernel
theorem nar_num {k : Int} (h0 : 0 ≤ k) (h1 : k ≤ 300) : floatToFloatBits .f64 (floatOfInt .f64 k) .f32 = some (floatOfInt .f32 k) := by
  have := nar_table ⟨k.toNat, by omega⟩
  rwa [show ((k.toNat : Nat) : Int) = k by omega] at this
theorem nar_one : floatToFloatBits .f64 4607182418800017408 .f32 = some 1065353216 := by decide +kernel
set_option maxHeartbeats 400000 in
theorem markCplx_any (b off n cap : Nat) (x y : Nat → Nat) (k : Int) (w : World) (hn : n ≤ 256) (h1 : n ≤ cap) (h2 : cap ≤ maxLen) (h3 : b < w.heap.size) (h4 : ∀ i, i < n → w.cell? ⟨b, off + i, none⟩ = some (.complex .f32 (x i) (y i))) (hf : ∀ i, i < n → w.frozen? ⟨b, off + i, none⟩ = false) (k0 : 0 ≤ k) (k1 : k ≤ 40) :
    Calls Tryd.prog 24 #[.slice (some ⟨b, off, none⟩) n cap, .int .i64 k] w fun e w' => e = .returned (.int .i64 (k + n)) ∧ Wrote b w w' ∧ CEls w' (some ⟨b, off, none⟩) n cap (mkF k) oneF := by
  have c1 := fun w => cvalI nar_one w
  have c2 := cNI nar_one
  go_enter Tryd.func24, Tryd.ntmps24
  go_wp2
  go_loopw [1, 5] (fun s1 i wr => ∃ j : Nat, j ≤ n ∧ i = .int .i64 j ∧ s1 = .int .i64 (k + j) ∧ Wrote b w wr ∧ (∀ i, i < n → wr.cell? ⟨b, off + i, none⟩ = some (.complex .f32 (if i < j then mkF k i else x i) (if i < j then oneF i else y i)))) (fun _ i _ => n - (intOf i).toNat)
  case atStart => exact ⟨0, Nat.zero_le _, rfl, by simp, Wrote.refl _ _, fun i hi => by rw [if_neg (Nat.not_lt_zero _), if_neg (Nat.not_lt_zero _)]; exact h4 i hi⟩
  case round =>
    obtain ⟨j, hj, rfl, rfl, hW, hc⟩ := hrel
    clear h4
    by_cases hlt : j < n
    · have hcj := hc j hlt
      have hfj := (hW.fr (off + j)).trans (hf j hlt)
      have c3 := fun w => cvalI (nar_num (k := k + j) (by omega) (by omega)) w
      have c4 := cNI (nar_num (k := k + j) (by omega) (by omega))
      have HC := Lib.hid hc
      have HF := Lib.hid hf
      clear hc hf
      unfold maxLen at h2
      go_wp2
      exact ⟨⟨j + 1, by omega, by go_num, by go_num, hW.set _ _, fun i hi => by
        rw [World.drewN_zero, store1 (HC.out i hi)]
        by_cases e : i = j
        · subst e; rw [if_pos rfl, if_pos (by omega), if_pos (by omega)]; rfl
        · rw [if_neg (by omega)]
          by_cases e2 : i < j
          · simp only [e2, if_true, show i < j + 1 by omega]
          · simp only [e2, if_false, show ¬ i < j + 1 by omega]⟩, by simp [intOf]; omega⟩
    · obtain rfl : j = n := by omega
      have HC := Lib.hid hc
      clear hc hf
      go_wp2
      go_ret
      exact ⟨rfl, hW, .inr ⟨b, off, rfl, h1, h2, by rw [hW.size]; exact h3, fun i hi => by rw [HC.out i hi, if_pos hi, if_pos hi]⟩⟩
theorem markCplx_none (a : Option Addr) (cap : Nat) (k : Int) (w : World) (k0 : 0 ≤ k) (k1 : k ≤ 40) :
    Calls Tryd.prog 24 #[.slice a 0 cap, .int .i64 k] w fun e w' => e = .returned (.int .i64 k) ∧ w = w' := by
  go_enter Tryd.func24, Tryd.ntmps24
  go_wp2
  refine wp_loop_rounds 1 ?_
  rw [rounds_succ]
  go_wp2
  go_ret
  exact ⟨rfl, rfl⟩
theorem markCplx_own (a : Option Addr) (lo hi n cap : Nat) (x y : Nat → Nat) (k : Int) (w : World) (h : SOwn w lo hi a n cap (kC x y)) (hn : n ≤ 256) (k0 : 0 ≤ k) (k1 : k ≤ 40) :
    Calls Tryd.prog 24 #[.slice a n cap, .int .i64 k] w fun e w' => e = .returned (.int .i64 (k + n)) ∧ Chg lo hi w w' ∧ SIn w' lo hi a n cap (kC (mkF k) oneF) := by
  by_cases h0 : n = 0
  · subst h0
    exact (markCplx_none a cap k w k0 k1).mono fun e w' q => ⟨by rw [q.1]; simp, q.2 ▸ Chg.of_bel (Below.refl _ _), .inl rfl⟩
  · rcases h.sin with h9 | ⟨b, off, rfl, h1, h2, h3, h4, h5, h6⟩
    · exact absurd h9 h0
    have hf := h.free.resolve_left h0
    refine (markCplx_any b off n cap x y k w hn h3 h4 h5 h6 (fun i hi => hf b off rfl i hi) k0 k1).mono fun e w' q => ⟨q.1, Chg.of_wrote q.2.1 h1 h2, ?_⟩
    rcases q.2.2 with h9 | ⟨b', off', e', g1, g2, g3, g4⟩
    · exact absurd h9 h0
    · obtain ⟨rfl, rfl⟩ : b = b' ∧ off = off' := by simpa using e'
      exact .inr ⟨b, off, rfl, h1, h2, h3, h4, g3, g4⟩
theorem ord_one : FloatKind.f32.format.order 1065353216 1065353216 = some .eq := by decide +kernel
set_option maxHeartbeats 400000 in
theorem heldCplx_any (a : Option Addr) (n cap : Nat) (k : Int) (w : World) (h : CEls w a n cap (mkF k) oneF) (hn : n ≤ 256) (h0 : 0 ≤ k) (h1 : k ≤ 40) :
    Calls Tryd.prog 25 #[.slice a n cap, .int .i64 k] w fun e w' => e = .returned (.int .i64 (k + n)) ∧ w = w' := by
  have c1 := fun w => cvalI nar_one w
  have c2 := cNI nar_one
  have c5 := ord_one
  go_enter Tryd.func25, Tryd.ntmps25
  go_wp2
  go_loop [1, 5] (fun s1 i => ∃ j : Nat, j ≤ n ∧ i = .int .i64 j ∧ s1 = .int .i64 (k + j)) (fun _ i => n - (intOf i).toNat)
  case atStart => exact ⟨0, Nat.zero_le _, rfl, by simp⟩
  case round =>
    obtain ⟨j, hj, rfl, rfl⟩ := hrel
    by_cases hlt : j < n
    · rcases h with h0 | ⟨b, off, rfl, h1, h2, h3, h4⟩
      · omega
      have hc : w.cell? ⟨b, off + j, none⟩ = some (.complex .f32 (mkF k j) 1065353216) := h4 j hlt
      have hq := mk_num (k := k + j) (by omega) (by omega)
      have c3 := fun w => cvalI (nar_num (k := k + j) (by omega) (by omega)) w
      have c4 := cNI (nar_num (k := k + j) (by omega) (by omega))
      unfold mkF at hc
      have hord : FloatKind.f32.format.order (floatOfInt .f32 (k + j)) (floatOfInt .f32 (k + j)) = some .eq := by rw [order_self, hq]; rfl
      clear h4
      unfold maxLen at h2
      go_wp2
      refine ⟨⟨World.drewN_zero _, _, _, _, ⟨j + 1, by omega, rfl, rfl⟩, by go_num, rfl, by go_num⟩, by simp [intOf]; omega⟩
    · clear h
      go_wp2
      go_ret
      obtain rfl : j = n := by omega
      exact ⟨rfl, rfl⟩
theorem heldCplx_bel (a : Option Addr) (n cap : Nat) (k : Int) (w : World) (h : CEls w a n cap (mkF k) oneF) (hn : n ≤ 256) (h0 : 0 ≤ k) (h1 : k ≤ 40) :
    Calls Tryd.prog 25 #[.slice a n cap, .int .i64 k] w fun e w' => e = .returned (.int .i64 (k + n)) ∧ Below w.heap.size w w' :=
  (heldCplx_any a n cap k w h hn h0 h1).mono fun e w' ⟨h1, h2⟩ => ⟨h1, h2 ▸ Below.refl _ _⟩
end Go.Proofs.YtoemjeomfnndaaaDoor
