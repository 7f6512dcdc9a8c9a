/- FnCircles: the contracts of what the law calls, at the places it reaches. -/
import Derived.Test.YtopfeilfgbcihaaCir2
import Derived.Test.YtopfeilfgbcihaaPhaC
import Derived.Test.YtopfeilfgbcihaaTab2
import Derived.Test.YtopfeilfgbcihaaTen2C
import Derived.RowKit
namespace Go.Proofs.Ytopfeilfgbcihaa
open Go.RowKit
set_option linter.unusedVariables false
theorem cvI {s k : FloatKind} {x y : Nat} (h : floatToFloatBits s x k = some y) (w : World) : cval s x k w = y := by rw [cval, h]; rfl
theorem cNI {s k : FloatKind} {x y : Nat} (h : floatToFloatBits s x k = some y) : cN s x k = 0 := by rw [cN, h]; rfl
theorem gapF_any (a b g : Nat) (w : World) (h : gapF a b = some g) : Calls Try.prog 34 #[.float .f64 a, .float .f64 b] w fun e w' => e = .returned (.float .f64 g) ∧ w' = w := by
  unfold gapF at h
  cases ho : FloatKind.f64.format.order a b == some .lt with
  | true =>
    rw [ho, if_pos rfl] at h
    have v1 := fun w => fval_some h w
    have n1 := fN_some h
    clear h
    go_enter Try.func34, Try.ntmps34
    go_wp2
    go_ret
    exact ⟨rfl, rfl⟩
  | false =>
    rw [ho, if_neg (by decide)] at h
    have v1 := fun w => fval_some h w
    have n1 := fN_some h
    clear h
    go_enter Try.func34, Try.ntmps34
    go_wp2
    go_ret
    exact ⟨rfl, rfl⟩
/-- Bytes that came in, as the walks ask them. -/
def BytesC (w : World) (a : Option Addr) (n : Nat) : Prop := n = 0 ∨ ∃ x : Addr, a = some x ∧ ∀ i, i < n → ∃ v : Nat, v < 256 ∧ w.cell? (x.add i) = some (.int .u8 v)
theorem bytesC_of {w : World} {a : Option Addr} {len cap : Nat} {zs : List Int} (h : IsRow .u8 w a len cap zs) : BytesC w a len := by
  rcases h with ⟨rfl, rfl, rfl, rfl⟩ | ⟨x, rfl, h1, h2, h3, h4, h5⟩
  · exact .inl rfl
  · refine .inr ⟨x, rfl, fun i hi => ?_⟩
    have hi2 : i < zs.length := by omega
    have hg : zs.getD i 0 = zs[i] := by simp [hi2]
    have hw := h5 (zs.getD i 0) (by rw [hg]; exact List.getElem_mem hi2)
    have hc := h4 i hi2
    generalize zs.getD i 0 = y at *
    have hb : (IntKind.u8.bits : Nat) = 8 := rfl
    simp [Lit.wf, IntKind.min, IntKind.max, IntKind.signed, hb] at hw
    exact ⟨y.toNat, by omega, by rw [hc, Int.toNat_of_nonneg hw.1]⟩
theorem BytesC.bel {w w' : World} {a : Option Addr} {n : Nat} (h : BytesC w a n) (hb : Below w.heap.size w w') : BytesC w' a n := by
  rcases h with h | ⟨x, rfl, h⟩
  · exact .inl h
  · refine .inr ⟨x, rfl, fun i hi => ?_⟩
    obtain ⟨v, h3, h4⟩ := h i hi
    exact ⟨v, h3, (hb.cell (World.block_lt_of_cell? _ _ h4)).trans h4⟩
theorem bel_then {w0 w w' : World} (hB : Below w0.heap.size w0 w) (h : Below w.heap.size w w') : Below w0.heap.size w0 w' := hB.trans (h.mono hB.size)
theorem b10At_0 (a : Option Addr) (len cap : Nat) (n : Nat) (w : World) (h : BytesC w a len) (h1 : 1 < n) (h2 : n ≤ 1000) : Calls Try.prog 33 #[.slice a len cap, .int .i64 0, .int .i64 n] w fun e w' => ∃ k : Nat, k < n ∧ e = .returned (.int .i64 k) ∧ w' = w := by
  by_cases h0 : len = 0
  · subst h0
    go_enter Try.func33, Try.ntmps33
    go_wp2
    go_ret
    exact ⟨11 % n, Nat.mod_lt _ (by omega), rfl, rfl⟩
  · rcases h with h | ⟨x, rfl, h⟩
    · exact absurd h h0
    obtain ⟨v, hv, hc⟩ := h 0 (by omega)
    have hc : w.cell? x = some (.int .u8 v) := by simpa [Addr.add] using hc
    have hl : 0 < len := by omega
    clear h
    go_enter Try.func33, Try.ntmps33
    go_wp2
    go_ret
    exact ⟨v % n, Nat.mod_lt _ (by omega), rfl, rfl⟩
theorem b10At_1 (a : Option Addr) (len cap : Nat) (n : Nat) (w : World) (h : BytesC w a len) (h1 : 1 < n) (h2 : n ≤ 1000) : Calls Try.prog 33 #[.slice a len cap, .int .i64 1, .int .i64 n] w fun e w' => ∃ k : Nat, k < n ∧ e = .returned (.int .i64 k) ∧ w' = w := by
  by_cases h0 : len ≤ 1
  · have h3 : ¬ 1 < len := by omega
    go_enter Try.func33, Try.ntmps33
    go_wp2
    go_ret
    exact ⟨48 % n, Nat.mod_lt _ (by omega), rfl, rfl⟩
  · rcases h with h | ⟨x, rfl, h⟩
    · omega
    obtain ⟨v, hv, hc⟩ := h 1 (by omega)
    have hl : 1 < len := by omega
    clear h
    obtain ⟨b, off, spot⟩ := x
    have hc : w.cell? ⟨b, off + 1, none⟩ = some (.int .u8 v) := by simpa [Addr.add] using hc
    go_enter Try.func33, Try.ntmps33
    go_wp2
    go_ret
    exact ⟨v % n, Nat.mod_lt _ (by omega), rfl, rfl⟩
/-! ### The phasors -/
theorem quart_is {F k k0 : Nat} (h : IsQ F k) (h1 : ∀ i, i < k0 → geA (some (qF F i)) 4598175219545276416 = true) (h2 : geA (some (qF F k0)) 4598175219545276416 = false) : k = k0 := by
  rcases Nat.lt_trichotomy k k0 with q | q | q
  · have a := h1 k q; rw [h.last] at a; cases a
  · exact q
  · have a := (h.less k0 q).1; rw [h2] at a; cases a
theorem yw_ok (a : Nat) (ha : a < 511) : floatBits .quo .f64 (fe ((a : Int) - 256)) 4634204016564240384 = some (yw a) := by
  have h := ok1_tab a ha
  unfold ok1 at h
  unfold yw
  cases e : floatBits .quo .f64 (fe ((a : Int) - 256)) 4634204016564240384 with
  | none => rw [e] at h; cases h
  | some y => rfl
theorem phasor_tab (a : Nat) (ha : a < 511) (w : World) : Calls Try.prog 46 #[.float .f64 (yw a)] w fun e w' => e = .returned (.complex .f32 (reP (a % 64)) (imP (a % 64))) ∧ ∃ m, w' = w.drewN m := by
  have h := ok1_tab a ha
  have hy := yw_ok a ha
  unfold ok1 at h
  rw [hy] at h
  generalize yw a = y at *
  simp only [Bool.and_eq_true, Bool.not_eq_true', decide_eq_true_eq] at h
  obtain ⟨⟨hn, fy⟩, ⟨hA, hlt⟩, hm⟩ := h
  obtain ⟨F, k, X, n, n1, n2, hP⟩ := pha_ok (show Small52 y from ⟨hn, hA⟩)
  rw [hP.trn.int] at hm
  simp only [beq_iff_eq] at hm
  rw [hP.f1] at hm
  obtain rfl := Option.some.inj hm
  have h2 := ok2_tab (a % 64) (Nat.mod_lt _ (by omega))
  unfold ok2 geQ at h2
  simp only [Bool.and_eq_true, Bool.not_eq_true', List.all_eq_true, List.mem_range] at h2
  obtain ⟨q1, q2, h2⟩ := h2
  obtain rfl := quart_is hP.q q1 q2
  rw [hP.x] at h2
  simp only at h2
  rw [hP.t1.int, hP.t2.int] at h2
  simp only [Bool.and_eq_true, beq_iff_eq] at h2
  obtain ⟨r1, r2⟩ := h2
  refine (implPha_in y _ _ X n n1 n2 w fy hn hlt hA hP).mono ?_
  rintro e w' ⟨b, c, m, e1, e2, rfl, rfl⟩
  obtain rfl := av_is e1 r1
  obtain rfl := av_is e2 r2
  exact ⟨rfl, m, rfl⟩
/-! ### The angles -/
theorem angleOf_any (x y Wx Wy t : Nat) (w : World) (hy : widB y Wy = true) (hx : widB x Wx = true) (fy : finB .f32 y = true) (fx : finB .f32 x = true) (hne : ¬ (magF Wy = 0 ∧ magF Wx = 0)) (ht : angR (magF Wy) (magF Wx) (ltF Wx) (ltF Wy) = some t) :
    Calls Try.prog 48 #[.complex .f32 x y] w fun e w' => e = .returned (.float .f32 t) ∧ Below w.heap.size w w' := by
  have C := Lib.hid fun w => implAng_fin y x Wy Wx (magF Wy) (magF Wx) (ltF Wy) (ltF Wx) (decide (magF Wy = 0)) (decide (magF Wx = 0)) w (wid_of hy) (wid_of hx) fy fx hne _ rfl
  rw [ht] at C
  clear hy hx fy fx hne ht
  go_enter Try.func48, Try.ntmps48
  go_wp2_with (go_at_call 42; refine (C.out _).mono ?_; rintro e w' ⟨r, hr, rfl, hb⟩; obtain rfl := av_is hr rfl; have HB := Lib.hid hb; clear hb hr)
  go_ret
  exact ⟨rfl, HB.out⟩
structure At3 (j : Nat) : Prop where
  im : widB (imP j) (iwP j) = true
  re : widB (reP j) (rwP j) = true
  fi : finB .f32 (imP j) = true
  fr : finB .f32 (reP j) = true
  ne : ¬ (magF (iwP j) = 0 ∧ magF (rwP j) = 0)
  an : angR (magF (iwP j)) (magF (rwP j)) (ltF (rwP j)) (ltF (iwP j)) = some (agP j)
  au : auO j = some (auP j)
  pw : ∃ g, pwO j = some g ∧ (FloatKind.f64.format.order g 4547007122018943789 == some .gt) = false
theorem at3 (j : Nat) (h : j < 64) : At3 j := by
  have t := ok3_tab j h
  unfold ok3 at t
  simp only [Bool.and_eq_true, Bool.not_eq_true', beq_iff_eq] at t
  obtain ⟨⟨⟨t1, t2⟩, ⟨t3, t4⟩, t5⟩, ⟨t6, t7⟩, t8⟩ := t
  refine ⟨t1, t2, t3, t4, ?_, t6, t7, ?_⟩
  · rintro ⟨a, b⟩
    rw [a, b] at t5
    simp at t5
  · cases e : pwO j with
    | none => rw [e] at t8; cases t8
    | some g => rw [e] at t8; exact ⟨g, rfl, by simpa using t8⟩
theorem wide_of {x W : Nat} (h : widB x W = true) : floatToFloatBits .f32 x .f64 = some W := by
  unfold widB at h
  simp only [Bool.and_eq_true, beq_iff_eq] at h
  exact h.1
theorem angle_tab (j : Nat) (h : j < 64) (w : World) : Calls Try.prog 48 #[.complex .f32 (reP j) (imP j)] w fun e w' => e = .returned (.float .f32 (agP j)) ∧ Below w.heap.size w w' :=
  have t := at3 j h
  angleOf_any _ _ _ _ _ w t.im t.re t.fi t.fr t.ne t.an
theorem unit_any (w : World) : Calls Try.prog 48 #[.complex .f32 0 1065353216] w fun e w' => e = .returned (.float .f32 1048576000) ∧ Below w.heap.size w w' := by
  have t := unit_tab
  simp only [Bool.and_eq_true, beq_iff_eq] at t
  exact angleOf_any 0 1065353216 0 4607182418800017408 _ w t.1.1 t.1.2 (by decide +kernel) (by decide +kernel) (by decide +kernel) (by
    have e1 : magF 4607182418800017408 = 4607182418800017408 := by decide +kernel
    have e2 : magF 0 = 0 := by decide +kernel
    have e3 : ltF 4607182418800017408 = false := by decide +kernel
    have e4 : ltF 0 = false := by decide +kernel
    rw [e1, e2, e3, e4]
    exact of_decide_eq_true t.2)
/-! ### The powers -/
theorem power_tab (j : Nat) (h : j < 64) : ∃ p q g, (∀ w, Calls Try.prog 49 #[.complex .f32 (reP j) (imP j)] w fun e w' => e = .returned (.float .f32 p) ∧ w' = w) ∧ floatToFloatBits .f32 p .f64 = some q ∧ gapF q 4607182418800017408 = some g ∧ (FloatKind.f64.format.order g 4547007122018943789 == some .gt) = false := by
  have t := at3 j h
  have c1 := fun w => cvI (wide_of t.re) w
  have c2 := cNI (wide_of t.re)
  have c3 := fun w => cvI (wide_of t.im) w
  have c4 := cNI (wide_of t.im)
  obtain ⟨g, hg, ho⟩ := t.pw
  unfold pwO at hg
  obtain ⟨a, h1, hg⟩ := bind_some hg
  obtain ⟨b, h2, hg⟩ := bind_some hg
  obtain ⟨s, h3, hg⟩ := bind_some hg
  obtain ⟨p, h4, hg⟩ := bind_some hg
  obtain ⟨q, h5, hg⟩ := bind_some hg
  refine ⟨p, q, g, fun w => ?_, h5, hg, ho⟩
  have v1 := fun w => fval_some h1 w
  have n1 := fN_some h1
  have v2 := fun w => fval_some h2 w
  have n2 := fN_some h2
  have v3 := fun w => fval_some h3 w
  have n3 := fN_some h3
  have v4 := fun w => cvI h4 w
  have n4 := cNI h4
  clear h1 h2 h3 h4 h5 hg ho t h
  generalize reP j = x at *
  generalize imP j = y at *
  generalize rwP j = X at *
  generalize iwP j = Y at *
  go_enter Try.func49, Try.ntmps49
  go_wp2_with go_in
  go_ret
  exact ⟨rfl, rfl⟩
/-! ### The products -/
theorem mul_tab (i j : Nat) (hi : i < 64) (hj : j < 64) : ∃ y1 y2 : Nat, (∀ w, Calls Try.prog 51 #[.complex .f32 (reP i) (imP i), .complex .f32 (reP j) (imP j)] w fun e w' => e = .returned (.complex .f32 y1 y2) ∧ w' = w) ∧
    (∀ w, Calls Try.prog 50 #[.complex .f32 y1 y2, .complex .f32 (reP ((i + j) % 64)) (imP ((i + j) % 64)), .float .f64 4547007122018943789] w fun e w' => e = .returned (.bool true) ∧ w' = w) := by
  obtain ⟨x1, x2, y1, y2, u, v, a1, a2, b1, b2, a3, b3, ⟨p1, q1, g1, u1, u2, u3, u4⟩, ⟨p2, q2, g2, v1, v2, v3, v4⟩⟩ := mul_ok hi hj
  refine ⟨p1, p2, fun w => ?_, fun w => ?_⟩
  · have ti := at3 i hi
    have tj := at3 j hj
    have c1 := fun w => cvI (wide_of ti.re) w
    have c2 := cNI (wide_of ti.re)
    have c3 := fun w => cvI (wide_of ti.im) w
    have c4 := cNI (wide_of ti.im)
    have d1 := fun w => cvI (wide_of tj.re) w
    have d2 := cNI (wide_of tj.re)
    have d3 := fun w => cvI (wide_of tj.im) w
    have d4 := cNI (wide_of tj.im)
    have m1 := fun w => fval_some a1 w
    have m2 := fN_some a1
    have m3 := fun w => fval_some a2 w
    have m4 := fN_some a2
    have m5 := fun w => fval_some b1 w
    have m6 := fN_some b1
    have m7 := fun w => fval_some b2 w
    have m8 := fN_some b2
    have s1 := fun w => fval_some a3 w
    have s2 := fN_some a3
    have s3 := fun w => fval_some b3 w
    have s4 := fN_some b3
    have r1 := fun w => cvI u1 w
    have r2 := cNI u1
    have r3 := fun w => cvI v1 w
    have r4 := cNI v1
    clear ti tj a1 a2 b1 b2 a3 b3 u1 u2 u3 u4 v1 v2 v3 v4 hi hj
    generalize reP i = A at *
    generalize imP i = B at *
    generalize rwP i = C at *
    generalize iwP i = D at *
    generalize reP j = A' at *
    generalize imP j = B' at *
    generalize rwP j = C' at *
    generalize iwP j = D' at *
    go_enter Try.func51, Try.ntmps51
    go_wp2_with go_in
    go_ret
    exact ⟨rfl, rfl⟩
  · have tk := at3 ((i + j) % 64) (Nat.mod_lt _ (by omega))
    have c1 := fun w => cvI (wide_of tk.re) w
    have c2 := cNI (wide_of tk.re)
    have c3 := fun w => cvI (wide_of tk.im) w
    have c4 := cNI (wide_of tk.im)
    have d1 := fun w => cvI u2 w
    have d2 := cNI u2
    have d3 := fun w => cvI v2 w
    have d4 := cNI v2
    have G1 := Lib.hid u3
    have G2 := Lib.hid v3
    clear tk a1 a2 b1 b2 a3 b3 u1 u2 u3 v1 v2 v3 hi hj
    generalize reP ((i + j) % 64) = A at *
    generalize imP ((i + j) % 64) = B at *
    generalize rwP ((i + j) % 64) = C at *
    generalize iwP ((i + j) % 64) = D at *
    have HR0 := trivial
    go_enter Try.func50, Try.ntmps50
    go_wp2_with (go_at_call 34; first | (clear HR0; refine (gapF_any _ _ _ _ G1.out).mono ?_; rintro e w' ⟨rfl, rfl⟩) | (refine (gapF_any _ _ _ _ G2.out).mono ?_; rintro e w' ⟨rfl, rfl⟩))
    go_ret
    exact ⟨rfl, rfl⟩
/-- The turn of a place, and what the law makes of it. -/
theorem turn_tab (i : Nat) (h : i < 256) : ∃ W t s g, ∃ n : Int, floatToFloatBits .f32 (agP (i % 64)) .f64 = some W ∧ floatBits .mul .f64 W 4634204016564240384 = some (auP (i % 64)) ∧ floatBits .sub .f64 (auP (i % 64)) (floatOfInt .f64 ((i : Int) - 128)) = some t ∧ floatBits .add .f64 t 4666723447345250304 = some s ∧
    floatToIntVal .f64 s .i64 = some n ∧ gapF t (floatOfInt .f64 (n - 10000)) = some g ∧ (FloatKind.f64.format.order g 4562254508917369340 == some .gt) = false ∧ 0 ≤ n ∧ n ≤ 100000 ∧ (n - 10000).tmod 64 = 0 := by
  have ha := (at3 (i % 64) (Nat.mod_lt _ (by omega))).au
  unfold auO at ha
  obtain ⟨W, h1, h2⟩ := bind_some ha
  have t := ok4_tab i h
  unfold ok4 at t
  cases e : tuO i with
  | none => rw [e] at t; cases t
  | some v =>
    obtain ⟨tt, s, n, g⟩ := v
    rw [e] at t
    simp only [Bool.and_eq_true, decide_eq_true_eq, Bool.not_eq_true'] at t
    obtain ⟨⟨t1, t2⟩, t3, t4⟩ := t
    obtain ⟨e1, e2, e3, e4⟩ := tuO_is e
    exact ⟨W, tt, s, g, n, h1, h2, e1, e2, e3, e4, t4, t1, t2, t3⟩
theorem quarter_tab : ∀ i : Nat, i < 256 → ((i : Int) - 128).tmod 16 = 0 → (i % 64) % 16 = 0 := by decide +kernel
theorem real_tab (i : Nat) (h : i < 256) (hq : ((i : Int) - 128).tmod 16 = 0) : ∃ g, gapF (rwP (i % 64)) 0 = some g ∧ ((FloatKind.f64.format.order g 0 == some .eq) = true ∨ ((FloatKind.f64.format.order g 0 == some .eq) = false ∧ (FloatKind.f64.format.order g 4607182418800017408 == some .eq) = true)) := by
  have t := ok6_tab (i % 64) (Nat.mod_lt _ (by omega))
  unfold ok6 at t
  rw [quarter_tab i h hq] at t
  cases e : gapF (rwP (i % 64)) 0 with
  | none => rw [e] at t; cases t
  | some g =>
    rw [e] at t
    refine ⟨g, rfl, ?_⟩
    simp only [beq_self_eq_true, Bool.not_true, Bool.false_or, Bool.or_eq_true, Bool.and_eq_true, Bool.not_eq_true'] at t
    exact t
theorem eighth_ws (n : Nat) (h : n < 200) : floatBits .quo .f32 (floatOfInt .f32 (1 + (n : Int))) 1090519040 = some (ws (8 * (n + 1))) := eighth_tab n h
/-! ### The tenths -/
theorem ten_tab (k : Nat) (h0 : 0 < k) (h1 : k < 65536) : ∃ n, Tenths (wd k) n ∧ ∀ w, Calls Try.prog 44 #[.float .f32 (ws k)] w fun e w' => e = .returned (.tuple #[.int .i64 n, .bool true]) ∧ Below w.heap.size w w' := by
  obtain ⟨hN, hM⟩ := wd_lgN h0 h1
  obtain ⟨n, hT⟩ := tenths_ok hM
  obtain ⟨s1, s2, _⟩ := ws_spec h0 h1
  obtain ⟨f, l, p, hA⟩ := asked (ws k) (by omega)
  obtain rfl : p = true := hA.pos.symm.trans (posB_yes ⟨s1, s2⟩)
  have hw := ws_wide h0 h1
  exact ⟨n, hT, fun w => implTen_pos _ _ n f l w hA hM hT (fun w => cvI hw w) (cNI hw)⟩
theorem tenths_one : Tenths (wd 64) 0 := by
  have e : wd 64 = 4607182418800017408 := by decide +kernel
  rw [e]
  exact ⟨0, 0, 4602678819172646912, by decide +kernel, by decide +kernel, by decide +kernel, by decide +kernel, by decide +kernel, by decide +kernel⟩
theorem ws_one : ws 64 = 1065353216 := by decide +kernel
theorem one_ten (w : World) : Calls Try.prog 44 #[.float .f32 1065353216] w fun e w' => e = .returned (.tuple #[.int .i64 0, .bool true]) ∧ Below w.heap.size w w' := by
  obtain ⟨n, hT, C⟩ := ten_tab 64 (by omega) (by omega)
  obtain rfl := hT.unique tenths_one
  rw [ws_one] at C
  exact C w
theorem same_not (w : World) : Calls Try.prog 52 #[.float .f32 1048576000, .float .f32 0] w fun e w' => e = .returned (.bool false) ∧ w' = w := by
  have n1 : nanB .f32 1048576000 = false := by decide +kernel
  have n2 : nanB .f32 0 = false := by decide +kernel
  have o1 : FloatKind.f32.format.order 1048576000 0 = some .gt := by decide +kernel
  go_enter Try.func52, Try.ntmps52
  go_wp2_with go_in
  go_ret
  exact ⟨rfl, rfl⟩
end Go.Proofs.Ytopfeilfgbcihaa
