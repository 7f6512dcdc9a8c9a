/- LatticeOf: what both sides compute. -/
import Derived.Test.YtlaelfaalgmicaaInC
import Derived.Test.YtlaelfaalgmicaaLat
namespace Go.Proofs.Ytlaelfaalgmicaa
open Go.RowKit
set_option linter.unusedVariables false
/-- The least square and the least second part, as a result. -/
def LatOk (m a : Int) (w : World) (e : Ending) (w' : World) : Prop := ∃ l b, e = .returned (.tuple #[.int .i64 l, .int .i64 b, .bool true]) ∧ IsLeast m a l b ∧ w = w'
theorem implLat_no (m a : Int) (w : World) (hn : inR m 1 1000000 = true → inR a 0 (m - 1) = false) :
    Calls Try.prog 58 #[.int .i64 m, .int .i64 a] w fun e w' => e = .returned (.tuple #[.int .i64 0, .int .i64 0, .bool false]) ∧ w = w' := by
  cases hI : inR m 1 1000000 with
  | true =>
    have hA := hn hI
    have hm := inR_of hI
    obtain ⟨hm1, hm2⟩ := hm
    clear hn
    go_enter Try.func58, Try.ntmps58
    go_wp2_with (go_at_call 60; refine (withinR_any _ _ _ _).mono ?_; rintro e w' ⟨rfl, rfl⟩)
    go_ret3
    exact ⟨rfl, rfl⟩
  | false =>
    clear hn
    go_enter Try.func58, Try.ntmps58
    go_wp2_with (go_at_call 60; refine (withinR_any _ _ _ _).mono ?_; rintro e w' ⟨rfl, rfl⟩)
    go_ret3
    exact ⟨rfl, rfl⟩
theorem specLat_no (m a : Int) (w : World) (hn : inR m 1 1000000 = true → inR a 0 (m - 1) = false) :
    Calls Try.prog 57 #[.int .i64 m, .int .i64 a] w fun e w' => e = .returned (.tuple #[.int .i64 0, .int .i64 0, .bool false]) ∧ w = w' := by
  cases hI : inR m 1 1000000 with
  | true =>
    have hA := hn hI
    have hm := inR_of hI
    obtain ⟨hm1, hm2⟩ := hm
    clear hn
    go_enter Try.func57, Try.ntmps57
    go_wp2_with (go_at_call 59; refine (l00InR_any _ _ _ _).mono ?_; rintro e w' ⟨rfl, rfl⟩)
    go_ret3
    exact ⟨rfl, rfl⟩
  | false =>
    clear hn
    go_enter Try.func57, Try.ntmps57
    go_wp2_with (go_at_call 59; refine (l00InR_any _ _ _ _).mono ?_; rintro e w' ⟨rfl, rfl⟩)
    go_ret3
    exact ⟨rfl, rfl⟩
set_option maxHeartbeats 800000 in
theorem implLat_yes (m a : Int) (w : World) (hm1 : 1 ≤ m) (hm2 : m ≤ 1000000) (a0 : 0 ≤ a) (a1 : a < m) :
    Calls Try.prog 58 #[.int .i64 m, .int .i64 a] w (LatOk m a w) := by
  have hI := inR_yes hm1 hm2
  have hA : inR a 0 (m - 1) = true := inR_yes a0 (by omega)
  have hS := Lib.hid (Sought.start (m := m) (a := a) hm1)
  have mm0 : 0 ≤ m * m := sq_nonneg m
  have mm1 : m * m ≤ 1000000000000 := Int.mul_le_mul hm2 hm2 (by omega) (by omega)
  go_enter Try.func58, Try.ntmps58
  go_wp2_with (go_at_call 60; refine (withinR_any _ _ _ _).mono ?_; rintro e w' ⟨rfl, rfl⟩)
  go_loop [7, 8, 9] (fun s7 s8 s9 => ∃ v l b : Int, 1 ≤ v ∧ v ≤ 1000001 ∧ s9 = .int .i64 v ∧ s7 = .int .i64 l ∧ s8 = .int .i64 b ∧ Hid (Sought m a v l b)) (fun _ _ s9 => (1000002 - intOf s9).toNat)
  case atStart => exact ⟨1, _, _, by omega, by omega, rfl, rfl, rfl, hS⟩
  case round =>
    obtain ⟨v, l, b, v1, v2, rfl, rfl, rfl, hs⟩ := hrel
    have l0 := hs.out.l0
    have lm := hs.out.le
    have vv0 : 0 ≤ v * v := sq_nonneg v
    have vv1 : v * v ≤ 1000002000001 := Int.mul_le_mul v2 v2 (by omega) (by omega)
    by_cases hle : v * v ≤ l
    · have v3 : v ≤ 1000000 := by
        rcases Int.lt_or_le 1000000 v with h | h
        · have := Int.mul_le_mul (show 1000001 ≤ v by omega) (show 1000001 ≤ v by omega) (by omega) (by omega)
          omega
        · exact h
      have av0 : 0 ≤ a * v := Int.mul_nonneg a0 (by omega)
      have av1 : a * v ≤ 1000000000000 := Int.mul_le_mul (show a ≤ 1000000 by omega) v3 (by omega) (by omega)
      have u0 := Int.emod_nonneg (a * v) (show m ≠ 0 by omega)
      have u1 := Int.emod_lt_of_pos (a * v) (show 0 < m by omega)
      by_cases hmin : m - a * v % m < a * v % m
      · have en : near m a v = m - a * v % m := by unfold near; omega
        have dd0 : 0 ≤ (m - a * v % m) * (m - a * v % m) := sq_nonneg _
        have dd1 : (m - a * v % m) * (m - a * v % m) ≤ 1000000000000 := Int.mul_le_mul (show m - a * v % m ≤ 1000000 by omega) (show m - a * v % m ≤ 1000000 by omega) (by omega) (by omega)
        have es := Lib.hid (show nrm (near m a v) v = (m - a * v % m) * (m - a * v % m) + v * v by rw [en]; rfl)
        clear en
        go_wp2
        · have hlt : (m - a * v % m) * (m - a * v % m) + v * v < l := by assumption
          exact ⟨⟨v + 1, _, v, by omega, by omega, rfl, rfl, rfl, Lib.hid (by have := hs.out.better hm1 v1 (by rw [es.out]; exact hlt); rw [es.out] at this; exact this)⟩, by simp [intOf]; omega⟩
        · have hge : l ≤ (m - a * v % m) * (m - a * v % m) + v * v := by assumption
          exact ⟨⟨v + 1, l, b, by omega, by omega, rfl, rfl, rfl, Lib.hid (hs.out.same hm1 v1 (by rw [es.out]; omega))⟩, by simp [intOf]; omega⟩
      · have en : near m a v = a * v % m := by unfold near; omega
        have dd0 : 0 ≤ (a * v % m) * (a * v % m) := sq_nonneg _
        have dd1 : (a * v % m) * (a * v % m) ≤ 1000000000000 := Int.mul_le_mul (show a * v % m ≤ 1000000 by omega) (show a * v % m ≤ 1000000 by omega) (by omega) (by omega)
        have es := Lib.hid (show nrm (near m a v) v = (a * v % m) * (a * v % m) + v * v by rw [en]; rfl)
        clear en
        go_wp2
        · have hlt : (a * v % m) * (a * v % m) + v * v < l := by assumption
          exact ⟨⟨v + 1, _, v, by omega, by omega, rfl, rfl, rfl, Lib.hid (by have := hs.out.better hm1 v1 (by rw [es.out]; exact hlt); rw [es.out] at this; exact this)⟩, by simp [intOf]; omega⟩
        · have hge : l ≤ (a * v % m) * (a * v % m) + v * v := by assumption
          exact ⟨⟨v + 1, l, b, by omega, by omega, rfl, rfl, rfl, Lib.hid (hs.out.same hm1 v1 (by rw [es.out]; omega))⟩, by simp [intOf]; omega⟩
    · have hd := Lib.hid (hs.out.done v1 (by omega))
      go_wp2
      go_ret3
      exact ⟨l, b, rfl, hd.out, rfl⟩
theorem norm_any (u v : Int) (w : World) (hu : u * u ≤ 10000000000000) (hv : v * v ≤ 10000000000000) :
    Calls Try.prog 80 #[.int .i64 u, .int .i64 v] w fun e w' => e = .returned (.int .i64 (nrm u v)) ∧ w = w' := by
  have hu0 : 0 ≤ u * u := sq_nonneg u
  have hv0 : 0 ≤ v * v := sq_nonneg v
  go_enter Try.func80, Try.ntmps80
  go_wp2
  go_ret
  exact ⟨rfl, rfl⟩
theorem int64R {a b : Int} (h : a = b) : Ending.returned (.int .i64 a) = .returned (.int .i64 b) := by rw [h]
theorem rnd_bd {c P : Int} (hP : 1 ≤ P) (c0 : -10000000000000 ≤ c) (c1 : c ≤ 10000000000000) (P1 : P ≤ 10000000000000) : -40000000000000 ≤ rnd c P ∧ rnd c P ≤ 40000000000000 := by
  have hs := rnd_spec (c := c) hP
  generalize rnd c P = k at *
  rcases Int.le_total 0 k with h | h
  · have := Int.mul_le_mul_of_nonneg_left hP h
    omega
  · have := Int.mul_le_mul_of_nonneg_left hP (show 0 ≤ -k by omega)
    simp only [Int.neg_mul] at this
    omega
theorem round_any (c P k : Int) (w : World) (hk : Hid (k = rnd c P)) (c0 : -10000000000000 ≤ c) (c1 : c ≤ 10000000000000) (P0 : 1 ≤ P) (P1 : P ≤ 10000000000000) :
    Calls Try.prog 81 #[.int .i64 c, .int .i64 P] w fun e w' => e = .returned (.int .i64 k) ∧ w = w' := by
  have ht := rnd_trunc (2 * c + P) (2 * P) (by omega)
  have hb := rnd_bd P0 c0 c1 P1
  have t0 : -50000000000000 ≤ (2 * c + P).tdiv (2 * P) ∧ (2 * c + P).tdiv (2 * P) ≤ 50000000000000 := by
    unfold rnd at hb
    split at ht <;> omega
  obtain ⟨t0, t1⟩ := t0
  have ht := Lib.hid ht
  go_enter Try.func81, Try.ntmps81
  go_wp2
  · have h : (2 * c + P).tmod (2 * P) < 0 := by assumption
    go_ret
    have q := ht.out
    rw [if_pos h] at q
    exact ⟨int64R (by rw [hk.out, q]; rfl), rfl⟩
  · have h : 0 ≤ (2 * c + P).tmod (2 * P) := by assumption
    go_ret
    have q := ht.out
    rw [if_neg (by omega)] at q
    exact ⟨int64R (by rw [hk.out, q]; rfl), rfl⟩
theorem sq_bd {x M : Int} (h0 : -M ≤ x) (h1 : x ≤ M) : x * x ≤ M * M := (prod_bd h0 h1 h0 h1).2
set_option maxHeartbeats 2000000 in
theorem specLat_yes (m a : Int) (w : World) (hm1 : 1 ≤ m) (hm2 : m ≤ 1000000) (a0 : 0 ≤ a) (a1 : a < m) :
    Calls Try.prog 57 #[.int .i64 m, .int .i64 a] w (LatOk m a w) := by
  have hI := inR_yes hm1 hm2
  have hA : inR a 0 (m - 1) = true := inR_yes a0 (by omega)
  have hS := Lib.hid (Basis.start hm1 a0 a1)
  have mm1 : m * m ≤ 1000000000000 := Int.mul_le_mul hm2 hm2 (by omega) (by omega)
  go_enter Try.func57, Try.ntmps57
  go_wp2_with (go_at_call 59; refine (l00InR_any _ _ _ _).mono ?_; rintro e w' ⟨rfl, rfl⟩)
  go_loop [7, 8, 9, 10] (fun s7 s8 s9 s10 => ∃ u v p q : Int, s7 = .int .i64 u ∧ s8 = .int .i64 v ∧ s9 = .int .i64 p ∧ s10 = .int .i64 q ∧ Hid (Basis m a u v p q)) (fun s7 s8 s9 s10 => meas (intOf s7) (intOf s8) (intOf s9) (intOf s10))
  case atStart => exact ⟨_, _, _, _, rfl, rfl, rfl, rfl, hS⟩
  case round =>
    obtain ⟨u, v, p, q, rfl, rfl, rfl, rfl, hb⟩ := hrel
    obtain ⟨cu0, cu1, cv0, cv1⟩ := coord hm1 hb.out.b1
    obtain ⟨cp0, cp1, cq0, cq1⟩ := coord hm1 hb.out.b2
    have bu : u * u ≤ 10000000000000 := by have := sq_bd (x := u) (M := 1000000) (by omega) (by omega); omega
    have bv : v * v ≤ 10000000000000 := by have := sq_bd (x := v) (M := 1000000) (by omega) (by omega); omega
    have bp : p * p ≤ 10000000000000 := by have := sq_bd (x := p) (M := 1000000) (by omega) (by omega); omega
    have bq : q * q ≤ 10000000000000 := by have := sq_bd (x := q) (M := 1000000) (by omega) (by omega); omega
    by_cases hsw : nrm u v < nrm p q
    · have hB := Lib.hid (hb.out.swap)
      have hP := hB.out.pos hm1
      have hPm := hB.out.b2
      have hUmm := hB.out.b1
      have hPb : nrm u v ≤ 10000000000000 := by omega
      have hUm : nrm p q ≤ 10000000000000 := by omega
      have nP0 := nrm_0 u v
      have nU0 := nrm_0 p q
      obtain ⟨pa0, pa1⟩ := prod_bd (x := p) (y := u) (M := 1000000) (by omega) (by omega) (by omega) (by omega)
      obtain ⟨pb0, pb1⟩ := prod_bd (x := q) (y := v) (M := 1000000) (by omega) (by omega) (by omega) (by omega)
      simp only [Int.reduceMul, Int.reduceNeg] at pa0 pa1 pb0 pb1
      obtain ⟨k, hk⟩ : ∃ k, Hid (k = rnd (p * u + q * v) (nrm u v)) := ⟨_, Lib.hid rfl⟩
      by_cases hk0 : k = 0
      · subst hk0
        have hD := Lib.hid (hB.out.done hm1 (by omega) hk.out.symm)
        clear hm1 a0 a1 hI hA hS hb
        go_wp2_with (first | (go_at_call 80; refine (norm_any _ _ _ (by assumption) (by assumption)).mono ?_; rintro e w' ⟨rfl, rfl⟩) | (go_at_call 81; refine (round_any _ _ _ _ hk (by omega) (by omega) hP hPb).mono ?_; rintro e w' ⟨rfl, rfl⟩))
        all_goals
          go_loop [15, 16] (fun s15 s16 => ∃ k b : Int, -1 ≤ k ∧ k ≤ 2 ∧ s16 = .int .i64 k ∧ s15 = .int .i64 b ∧ Hid (b = bst p q u v k)) (fun _ s16 => (2 - intOf s16).toNat)
          case atStart => exact ⟨-1, _, by omega, by omega, rfl, rfl, Lib.hid (by simp only [bst, aMax, Int.le_refl, if_true]; omega)⟩
          case round =>
            obtain ⟨k, b, k0, k1, rfl, rfl, hb⟩ := hrel
            by_cases hk1 : k ≤ 1
            · obtain ⟨e0, e1⟩ := small_k (k := k) (p := u) (M := 1000000) k0 hk1 (by omega) (by omega)
              obtain ⟨e2, e3⟩ := small_k (k := k) (p := v) (M := 1000000) k0 hk1 (by omega) (by omega)
              have bx : (p + k * u) * (p + k * u) ≤ 10000000000000 := by have := sq_bd (x := p + k * u) (M := 2000000) (by omega) (by omega); omega
              have by_ : (q + k * v) * (q + k * v) ≤ 10000000000000 := by have := sq_bd (x := q + k * v) (M := 2000000) (by omega) (by omega); omega
              have hs := Lib.hid (bst_step p q u v k k0 hk1)
              by_cases he : nrm (p + k * u) (q + k * v) = nrm u v
              · have hef : (nrm (p + k * u) (q + k * v) == nrm u v) = true := by simpa using he
                have HE := Lib.hid he
                clear he
                go_wp2_with (first | (go_at_call 80; refine (norm_any _ _ _ (by assumption) (by assumption)).mono ?_; rintro e w' ⟨rfl, rfl⟩) | (go_at_call 81; refine (round_any _ _ _ _ hk (by omega) (by omega) hP hPb).mono ?_; rintro e w' ⟨rfl, rfl⟩))
                all_goals exact ⟨⟨k + 1, _, by omega, by omega, rfl, rfl, Lib.hid (by rw [hs.out, ← hb.out]; unfold tryK; rw [if_pos HE.out]; unfold aMax; omega)⟩, by simp [intOf]; omega⟩
              · have hef : (nrm (p + k * u) (q + k * v) == nrm u v) = false := by simpa using he
                have HE := Lib.hid he
                clear he
                go_wp2_with (first | (go_at_call 80; refine (norm_any _ _ _ (by assumption) (by assumption)).mono ?_; rintro e w' ⟨rfl, rfl⟩) | (go_at_call 81; refine (round_any _ _ _ _ hk (by omega) (by omega) hP hPb).mono ?_; rintro e w' ⟨rfl, rfl⟩))
                exact ⟨⟨k + 1, _, by omega, by omega, rfl, rfl, Lib.hid (by rw [hs.out, ← hb.out]; unfold tryK; rw [if_neg HE.out])⟩, by simp [intOf]; omega⟩
            · obtain rfl : k = 2 := by omega
              have hb2 := Lib.hid (show b = bestOf p q u v from hb.out.trans rfl)
              go_wp2
              go_ret3
              exact ⟨_, b, rfl, by rw [hb2.out]; exact hD.out, rfl⟩
      · have hkf : (k == 0) = false := by simpa using hk0
        have hN := Lib.hid (hB.out.step hm1 hk.out hk0)
        have hM := Lib.hid (meas_step hP hk.out hk0)
        obtain ⟨d0, d1, d2, d3⟩ := coord hm1 hN.out.b1
        go_wp2_with (first | (go_at_call 80; refine (norm_any _ _ _ (by assumption) (by assumption)).mono ?_; rintro e w' ⟨rfl, rfl⟩) | (go_at_call 81; refine (round_any _ _ _ _ hk (by omega) (by omega) hP hPb).mono ?_; rintro e w' ⟨rfl, rfl⟩))
        exact ⟨⟨_, _, _, _, rfl, rfl, rfl, rfl, hN⟩, Nat.lt_of_lt_of_eq hM.out (meas_swap u v p q)⟩
    · have hB := Lib.hid (hb.out)
      have hP := hB.out.pos hm1
      have hPm := hB.out.b2
      have hUmm := hB.out.b1
      have hPb : nrm p q ≤ 10000000000000 := by omega
      have hUm : nrm u v ≤ 10000000000000 := by omega
      have nP0 := nrm_0 p q
      have nU0 := nrm_0 u v
      obtain ⟨pa0, pa1⟩ := prod_bd (x := u) (y := p) (M := 1000000) (by omega) (by omega) (by omega) (by omega)
      obtain ⟨pb0, pb1⟩ := prod_bd (x := v) (y := q) (M := 1000000) (by omega) (by omega) (by omega) (by omega)
      simp only [Int.reduceMul, Int.reduceNeg] at pa0 pa1 pb0 pb1
      obtain ⟨k, hk⟩ : ∃ k, Hid (k = rnd (u * p + v * q) (nrm p q)) := ⟨_, Lib.hid rfl⟩
      by_cases hk0 : k = 0
      · subst hk0
        have hD := Lib.hid (hB.out.done hm1 (by omega) hk.out.symm)
        clear hm1 a0 a1 hI hA hS hb
        go_wp2_with (first | (go_at_call 80; refine (norm_any _ _ _ (by assumption) (by assumption)).mono ?_; rintro e w' ⟨rfl, rfl⟩) | (go_at_call 81; refine (round_any _ _ _ _ hk (by omega) (by omega) hP hPb).mono ?_; rintro e w' ⟨rfl, rfl⟩))
        all_goals
          go_loop [15, 16] (fun s15 s16 => ∃ k b : Int, -1 ≤ k ∧ k ≤ 2 ∧ s16 = .int .i64 k ∧ s15 = .int .i64 b ∧ Hid (b = bst u v p q k)) (fun _ s16 => (2 - intOf s16).toNat)
          case atStart => exact ⟨-1, _, by omega, by omega, rfl, rfl, Lib.hid (by simp only [bst, aMax, Int.le_refl, if_true]; omega)⟩
          case round =>
            obtain ⟨k, b, k0, k1, rfl, rfl, hb⟩ := hrel
            by_cases hk1 : k ≤ 1
            · obtain ⟨e0, e1⟩ := small_k (k := k) (p := p) (M := 1000000) k0 hk1 (by omega) (by omega)
              obtain ⟨e2, e3⟩ := small_k (k := k) (p := q) (M := 1000000) k0 hk1 (by omega) (by omega)
              have bx : (u + k * p) * (u + k * p) ≤ 10000000000000 := by have := sq_bd (x := u + k * p) (M := 2000000) (by omega) (by omega); omega
              have by_ : (v + k * q) * (v + k * q) ≤ 10000000000000 := by have := sq_bd (x := v + k * q) (M := 2000000) (by omega) (by omega); omega
              have hs := Lib.hid (bst_step u v p q k k0 hk1)
              by_cases he : nrm (u + k * p) (v + k * q) = nrm p q
              · have hef : (nrm (u + k * p) (v + k * q) == nrm p q) = true := by simpa using he
                have HE := Lib.hid he
                clear he
                go_wp2_with (first | (go_at_call 80; refine (norm_any _ _ _ (by assumption) (by assumption)).mono ?_; rintro e w' ⟨rfl, rfl⟩) | (go_at_call 81; refine (round_any _ _ _ _ hk (by omega) (by omega) hP hPb).mono ?_; rintro e w' ⟨rfl, rfl⟩))
                all_goals exact ⟨⟨k + 1, _, by omega, by omega, rfl, rfl, Lib.hid (by rw [hs.out, ← hb.out]; unfold tryK; rw [if_pos HE.out]; unfold aMax; omega)⟩, by simp [intOf]; omega⟩
              · have hef : (nrm (u + k * p) (v + k * q) == nrm p q) = false := by simpa using he
                have HE := Lib.hid he
                clear he
                go_wp2_with (first | (go_at_call 80; refine (norm_any _ _ _ (by assumption) (by assumption)).mono ?_; rintro e w' ⟨rfl, rfl⟩) | (go_at_call 81; refine (round_any _ _ _ _ hk (by omega) (by omega) hP hPb).mono ?_; rintro e w' ⟨rfl, rfl⟩))
                exact ⟨⟨k + 1, _, by omega, by omega, rfl, rfl, Lib.hid (by rw [hs.out, ← hb.out]; unfold tryK; rw [if_neg HE.out])⟩, by simp [intOf]; omega⟩
            · obtain rfl : k = 2 := by omega
              have hb2 := Lib.hid (show b = bestOf u v p q from hb.out.trans rfl)
              go_wp2
              go_ret3
              exact ⟨_, b, rfl, by rw [hb2.out]; exact hD.out, rfl⟩
      · have hkf : (k == 0) = false := by simpa using hk0
        have hN := Lib.hid (hB.out.step hm1 hk.out hk0)
        have hM := Lib.hid (meas_step hP hk.out hk0)
        obtain ⟨d0, d1, d2, d3⟩ := coord hm1 hN.out.b1
        go_wp2_with (first | (go_at_call 80; refine (norm_any _ _ _ (by assumption) (by assumption)).mono ?_; rintro e w' ⟨rfl, rfl⟩) | (go_at_call 81; refine (round_any _ _ _ _ hk (by omega) (by omega) hP hPb).mono ?_; rintro e w' ⟨rfl, rfl⟩))
        exact ⟨⟨_, _, _, _, rfl, rfl, rfl, rfl, hN⟩, hM.out⟩
end Go.Proofs.Ytlaelfaalgmicaa
