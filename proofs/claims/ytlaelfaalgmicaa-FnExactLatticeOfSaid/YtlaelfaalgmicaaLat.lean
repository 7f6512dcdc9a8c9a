/- LatticeOf: the shortest vectors of a lattice of pairs, in plain words. -/
namespace Go.Proofs.Ytlaelfaalgmicaa
set_option linter.unusedVariables false
/-- The square of a pair's length. -/
def nrm (u v : Int) : Int := u * u + v * v
/-- The inner product of two pairs. -/
def dotP (u v p q : Int) : Int := u * p + v * q
/-- The pairs of the lattice. -/
def Lat (m a x y : Int) : Prop := ∃ t, x + a * y = m * t
/-- The least square of a length of a pair that is not 0, and the least second part, without its sign, at that square. -/
structure IsLeast (m a l b : Int) : Prop where
  at_ : ∃ x, Lat m a x b ∧ nrm x b = l ∧ ¬ (x = 0 ∧ b = 0)
  pos : 0 ≤ b
  low : ∀ x y, Lat m a x y → ¬ (x = 0 ∧ y = 0) → l ≤ nrm x y ∧ (nrm x y = l → b ≤ y ∨ b ≤ -y)
theorem IsLeast.unique {m a l b l' b' : Int} (h : IsLeast m a l b) (h' : IsLeast m a l' b') : l = l' ∧ b = b' := by
  obtain ⟨x, hx, nx, zx⟩ := h.at_
  obtain ⟨x', hx', nx', zx'⟩ := h'.at_
  have A := h.low x' b' hx' zx'
  have B := h'.low x b hx zx
  have p := h.pos
  have p' := h'.pos
  have e : l = l' := by omega
  have A2 := A.2 (by omega)
  have B2 := B.2 (by omega)
  omega
theorem sq_nonneg (x : Int) : 0 ≤ x * x := by
  rcases Int.le_total 0 x with h | h
  · exact Int.mul_nonneg h h
  · exact Int.mul_nonneg_of_nonpos_of_nonpos h h
theorem sq_le {d x : Int} (h0 : 0 ≤ d) (h : d ≤ x ∨ d ≤ -x) : d * d ≤ x * x := by
  rcases h with h | h
  · exact Int.mul_le_mul h h h0 (by omega)
  · have := Int.mul_le_mul h h h0 (by omega : 0 ≤ -x)
    rwa [Int.neg_mul_neg] at this
theorem sq_pos {x : Int} (h : x ≠ 0) : 1 ≤ x * x := by
  have := sq_le (d := 1) (x := x) (by omega) (by omega)
  simpa using this
theorem nrm_pos {x y : Int} (h : ¬ (x = 0 ∧ y = 0)) : 1 ≤ nrm x y := by
  unfold nrm
  have h1 := sq_nonneg x
  have h2 := sq_nonneg y
  by_cases hx : x = 0
  · have := sq_pos (x := y) (by omega); omega
  · have := sq_pos hx; omega
theorem nrm_neg (x y : Int) : nrm (-x) (-y) = nrm x y := by unfold nrm; rw [Int.neg_mul_neg, Int.neg_mul_neg]
theorem Lat.neg {m a x y : Int} (h : Lat m a x y) : Lat m a (-x) (-y) := by
  obtain ⟨t, ht⟩ := h
  exact ⟨-t, by rw [Int.mul_neg, Int.mul_neg, ← ht]; omega⟩
/-! the search -/
/-- What the search knows before it looks at v. -/
structure Sought (m a v l b : Int) : Prop where
  at_ : ∃ x, Lat m a x b ∧ nrm x b = l ∧ ¬ (x = 0 ∧ b = 0)
  pos : 0 ≤ b
  low : ∀ x y, Lat m a x y → ¬ (x = 0 ∧ y = 0) → 0 ≤ y → y < v → l ≤ nrm x y ∧ (nrm x y = l → b ≤ y)
  le : l ≤ m * m
  l0 : 0 ≤ l
  bv : b < v
theorem Sought.start {m a : Int} (hm : 1 ≤ m) : Sought m a 1 (m * m) 0 := by
  refine ⟨⟨m, ⟨1, by simp⟩, by simp [nrm], by omega⟩, by omega, fun x y ⟨t, ht⟩ hz h0 h1 => ?_, Int.le_refl _, sq_nonneg m, by omega⟩
  obtain rfl : y = 0 := by omega
  rw [Int.mul_zero, Int.add_zero] at ht
  subst ht
  have ht : t ≠ 0 := by rintro rfl; simp at hz
  have : m ≤ m * t ∨ m ≤ -(m * t) := by
    rcases Int.lt_or_lt_of_ne ht with h | h
    · right
      have := Int.mul_le_mul_of_nonneg_left (show 1 ≤ -t by omega) (show 0 ≤ m by omega)
      rw [Int.mul_one, Int.mul_neg] at this; exact this
    · left
      have := Int.mul_le_mul_of_nonneg_left (show 1 ≤ t by omega) (show 0 ≤ m by omega)
      rw [Int.mul_one] at this; exact this
  have := sq_le (by omega : 0 ≤ m) this
  unfold nrm
  omega
/-- The least first part at v, without its sign. -/
def near (m a v : Int) : Int := min (a * v % m) (m - a * v % m)
theorem near_le {m a v x : Int} (hm : 1 ≤ m) (h : Lat m a x v) : near m a v ≤ x ∨ near m a v ≤ -x := by
  obtain ⟨t, ht⟩ := h
  have e := Int.mul_ediv_add_emod (a * v) m
  have h0 := Int.emod_nonneg (a * v) (show m ≠ 0 by omega)
  have h1 := Int.emod_lt_of_pos (a * v) (show 0 < m by omega)
  unfold near
  generalize a * v % m = u at *
  generalize hq : a * v / m = q at *
  have hx : x = m * (t - q) - u := by rw [Int.mul_sub]; omega
  rcases Int.lt_or_le 0 (t - q) with h | h
  · left
    have := Int.mul_le_mul_of_nonneg_left (show 1 ≤ t - q by omega) (show 0 ≤ m by omega)
    rw [Int.mul_one] at this
    omega
  · right
    have := Int.mul_le_mul_of_nonneg_left (show 0 ≤ -(t - q) by omega) (show 0 ≤ m by omega)
    rw [Int.mul_zero, Int.mul_neg] at this
    omega
theorem near_at {m a v : Int} (hm : 1 ≤ m) : ∃ x, Lat m a x v ∧ x * x = near m a v * near m a v := by
  have e := Int.mul_ediv_add_emod (a * v) m
  unfold near
  generalize a * v % m = u at *
  generalize hq : a * v / m = q at *
  rcases Int.le_total u (m - u) with h | h
  · exact ⟨-u, ⟨q, by omega⟩, by rw [Int.min_eq_left h, Int.neg_mul_neg]⟩
  · exact ⟨m - u, ⟨q + 1, by rw [Int.mul_add]; omega⟩, by rw [Int.min_eq_right h]⟩
theorem near_0 {m a v : Int} (hm : 1 ≤ m) : 0 ≤ near m a v := by
  have h0 := Int.emod_nonneg (a * v) (show m ≠ 0 by omega)
  have h1 := Int.emod_lt_of_pos (a * v) (show 0 < m by omega)
  unfold near; omega
theorem near_m {m a v : Int} (hm : 1 ≤ m) : near m a v ≤ m := by
  have h0 := Int.emod_nonneg (a * v) (show m ≠ 0 by omega)
  have h1 := Int.emod_lt_of_pos (a * v) (show 0 < m by omega)
  unfold near; omega
theorem Sought.better {m a v l b : Int} (hm : 1 ≤ m) (hv : 1 ≤ v) (h : Sought m a v l b) (hs : nrm (near m a v) v < l) : Sought m a (v + 1) (nrm (near m a v) v) v := by
  obtain ⟨x0, hx0, ex0⟩ := near_at (m := m) (a := a) (v := v) hm
  have n0 := near_0 (m := m) (a := a) (v := v) hm
  refine ⟨⟨x0, hx0, by unfold nrm; rw [ex0], by omega⟩, by omega, fun x y hL hz h0 h1 => ?_, by have := h.le; omega, by have := sq_nonneg (near m a v); have := sq_nonneg v; unfold nrm; omega, by omega⟩
  by_cases e : y = v
  · subst e
    have := sq_le n0 (near_le hm hL)
    unfold nrm
    omega
  · have := (h.low x y hL hz h0 (by omega)).1
    omega
theorem Sought.same {m a v l b : Int} (hm : 1 ≤ m) (hv : 1 ≤ v) (h : Sought m a v l b) (hs : ¬ nrm (near m a v) v < l) : Sought m a (v + 1) l b := by
  have n0 := near_0 (m := m) (a := a) (v := v) hm
  refine ⟨h.at_, h.pos, fun x y hL hz h0 h1 => ?_, h.le, h.l0, by have := h.bv; omega⟩
  by_cases e : y = v
  · subst e
    have := sq_le n0 (near_le hm hL)
    have bv := h.bv
    unfold nrm at *
    omega
  · exact h.low x y hL hz h0 (by omega)
theorem Sought.done {m a v l b : Int} (hv : 1 ≤ v) (h : Sought m a v l b) (hs : l < v * v) : IsLeast m a l b := by
  refine ⟨h.at_, h.pos, ?_⟩
  have up : ∀ x y, Lat m a x y → ¬ (x = 0 ∧ y = 0) → 0 ≤ y → l ≤ nrm x y ∧ (nrm x y = l → b ≤ y) := fun x y hL hz h0 => by
    rcases Int.lt_or_le y v with hy | hy
    · exact h.low x y hL hz h0 hy
    · have h1 := sq_le (by omega : 0 ≤ v) (.inl hy)
      have h2 := sq_nonneg x
      unfold nrm
      omega
  intro x y hL hz
  rcases Int.le_total 0 y with hy | hy
  · have := up x y hL hz hy
    exact ⟨this.1, fun e => .inl (this.2 e)⟩
  · have := up (-x) (-y) hL.neg (by omega) (by omega)
    rw [nrm_neg] at this
    exact ⟨this.1, fun e => .inr (this.2 e)⟩
/-! the reduction -/
/-- Two pairs that make the lattice. -/
structure Basis (m a u v p q : Int) : Prop where
  at1 : Lat m a u v
  at2 : Lat m a p q
  all : ∀ x y, Lat m a x y → ∃ i j : Int, x = i * u + j * p ∧ y = i * v + j * q
  det : u * q - v * p = m ∨ u * q - v * p = -m
  b1 : nrm u v ≤ m * m
  b2 : nrm p q ≤ m * m
theorem Basis.start {m a : Int} (hm : 1 ≤ m) (a0 : 0 ≤ a) (a1 : a < m) : Basis m a m 0 (-a) 1 := by
  refine ⟨⟨1, by simp⟩, ⟨0, by simp; omega⟩, fun x y ⟨t, ht⟩ => ⟨t, y, ?_, by simp⟩, by simp, by simp [nrm], ?_⟩
  · rw [Int.mul_neg, Int.mul_comm y a, Int.mul_comm t m]; omega
  · unfold nrm
    have h1 := Int.mul_le_mul (show a ≤ m - 1 by omega) (show a ≤ m - 1 by omega) a0 (by omega : 0 ≤ m - 1)
    have h2 : (m - 1) * (m - 1) = m * m - 2 * m + 1 := by rw [Int.sub_mul, Int.mul_sub]; omega
    rw [Int.neg_mul_neg]
    omega
theorem Basis.swap {m a u v p q : Int} (h : Basis m a u v p q) : Basis m a p q u v := by
  refine ⟨h.at2, h.at1, fun x y hL => ?_, ?_, h.b2, h.b1⟩
  · obtain ⟨i, j, h1, h2⟩ := h.all x y hL
    exact ⟨j, i, by omega, by omega⟩
  · have := h.det
    rw [Int.mul_comm p v, Int.mul_comm q u]
    omega
theorem Basis.pos {m a u v p q : Int} (hm : 1 ≤ m) (h : Basis m a u v p q) : 1 ≤ nrm p q := by
  refine nrm_pos fun ⟨h1, h2⟩ => ?_
  have := h.det
  rw [h1, h2, Int.mul_zero, Int.mul_zero] at this
  omega
theorem nrm_less (u v p q k : Int) : nrm (u - k * p) (v - k * q) = nrm u v - 2 * (k * dotP u v p q) + k * (k * nrm p q) := by
  unfold nrm dotP
  simp only [Int.sub_mul, Int.mul_sub, Int.mul_add]
  have e1 : k * p * u = k * (u * p) := by rw [Int.mul_assoc, Int.mul_comm p u]
  have e2 : u * (k * p) = k * (u * p) := by rw [← Int.mul_assoc, Int.mul_comm u k, Int.mul_assoc]
  have e3 : k * q * v = k * (v * q) := by rw [Int.mul_assoc, Int.mul_comm q v]
  have e4 : v * (k * q) = k * (v * q) := by rw [← Int.mul_assoc, Int.mul_comm v k, Int.mul_assoc]
  have e5 : k * p * (k * p) = k * (k * (p * p)) := by rw [Int.mul_assoc, ← Int.mul_assoc p k p, Int.mul_comm p k, Int.mul_assoc k p p]
  have e6 : k * q * (k * q) = k * (k * (q * q)) := by rw [Int.mul_assoc, ← Int.mul_assoc q k q, Int.mul_comm q k, Int.mul_assoc k q q]
  rw [e1, e2, e3, e4, e5, e6]
  omega
theorem dot_less (u v p q k : Int) : dotP (u - k * p) (v - k * q) p q = dotP u v p q - k * nrm p q := by
  unfold nrm dotP
  simp only [Int.sub_mul, Int.mul_add, Int.mul_assoc]
  omega
/-- The quotient, rounded. -/
def rnd (c P : Int) : Int := (2 * c + P) / (2 * P)
theorem rnd_spec {c P : Int} (hP : 1 ≤ P) : 2 * (rnd c P * P) ≤ 2 * c + P ∧ 2 * c < 2 * (rnd c P * P) + P := by
  have e := Int.mul_ediv_add_emod (2 * c + P) (2 * P)
  have h0 := Int.emod_nonneg (2 * c + P) (show 2 * P ≠ 0 by omega)
  have h1 := Int.emod_lt_of_pos (2 * c + P) (show 0 < 2 * P by omega)
  have e2 : 2 * P * ((2 * c + P) / (2 * P)) = 2 * (rnd c P * P) := by unfold rnd; rw [Int.mul_assoc, Int.mul_comm P]
  omega
/-- A step of the reduction makes it shorter, or, once, turns the inner product's sign. -/
theorem step_less {u v p q k : Int} (hP : 1 ≤ nrm p q) (hk : k = rnd (dotP u v p q) (nrm p q)) (h0 : k ≠ 0) :
    nrm (u - k * p) (v - k * q) < nrm u v ∨ (nrm (u - k * p) (v - k * q) = nrm u v ∧ 0 < dotP u v p q ∧ dotP (u - k * p) (v - k * q) p q < 0) := by
  rw [nrm_less, dot_less]
  have hr := rnd_spec (c := dotP u v p q) hP
  rw [← hk] at hr
  generalize dotP u v p q = c at *
  generalize nrm u v = U at *
  generalize nrm p q = P at *
  clear hk
  -- k * (2 c - k P) against 0
  have e : k * (2 * c - k * P) = 2 * (k * c) - k * (k * P) := by rw [Int.mul_sub]; congr 1; rw [← Int.mul_assoc, Int.mul_comm k 2, Int.mul_assoc]
  rcases Int.lt_or_lt_of_ne h0 with h | h
  · left
    have h1 : (k + 1) * P ≤ 0 := Int.mul_nonpos_of_nonpos_of_nonneg (by omega) (by omega)
    rw [Int.add_mul, Int.one_mul] at h1
    have h2 : 1 ≤ -(2 * c - k * P) := by omega
    have := Int.mul_le_mul (show 1 ≤ -k by omega) h2 (by omega) (by omega)
    rw [Int.neg_mul_neg, e] at this
    omega
  · by_cases h1 : k = 1
    · subst h1
      simp only [Int.one_mul] at *
      omega
    · left
      have h2 : 2 * P ≤ k * P := Int.mul_le_mul_of_nonneg_right (by omega) (by omega)
      have h3 : 1 ≤ 2 * c - k * P := by omega
      have := Int.mul_le_mul (show 1 ≤ k by omega) h3 (by omega) (by omega)
      rw [e] at this
      omega
theorem Basis.step {m a u v p q : Int} (hm : 1 ≤ m) (h : Basis m a u v p q) {k : Int} (hk : k = rnd (dotP u v p q) (nrm p q)) (h0 : k ≠ 0) : Basis m a (u - k * p) (v - k * q) p q := by
  refine ⟨?_, h.at2, fun x y hL => ?_, ?_, ?_, h.b2⟩
  · obtain ⟨t, ht⟩ := h.at1
    obtain ⟨t', ht'⟩ := h.at2
    refine ⟨t - k * t', ?_⟩
    have e1 : a * (k * q) = k * (a * q) := by rw [← Int.mul_assoc, Int.mul_comm a k, Int.mul_assoc]
    have e2 : m * (k * t') = k * (m * t') := by rw [← Int.mul_assoc, Int.mul_comm m k, Int.mul_assoc]
    rw [Int.mul_sub, Int.mul_sub, e1, e2, ← ht, ← ht', Int.mul_add]
    omega
  · obtain ⟨i, j, h1, h2⟩ := h.all x y hL
    refine ⟨i, j + i * k, ?_, ?_⟩
    · rw [h1, Int.mul_sub, Int.add_mul, Int.mul_assoc i k p]; omega
    · rw [h2, Int.mul_sub, Int.add_mul, Int.mul_assoc i k q]; omega
  · have := h.det
    have e1 : k * p * q = k * q * p := by rw [Int.mul_assoc, Int.mul_comm p q, ← Int.mul_assoc]
    rw [Int.sub_mul, Int.sub_mul, e1]
    omega
  · have := step_less (h.pos hm) hk h0
    have := h.b1
    omega
/-- The measure of the reduction. -/
def meas (u v p q : Int) : Nat := (2 * (nrm u v + nrm p q) + if 0 < dotP u v p q then 1 else 0).toNat
theorem nrm_0 (u v : Int) : 0 ≤ nrm u v := by have := sq_nonneg u; have := sq_nonneg v; unfold nrm; omega
theorem meas_step {u v p q k : Int} (hP : 1 ≤ nrm p q) (hk : k = rnd (dotP u v p q) (nrm p q)) (h0 : k ≠ 0) : meas (u - k * p) (v - k * q) p q < meas u v p q := by
  have h1 := nrm_0 (u - k * p) (v - k * q)
  have h2 := nrm_0 u v
  unfold meas
  rcases step_less hP hk h0 with h | ⟨h, h3, h4⟩
  · split <;> split <;> omega
  · rw [if_pos h3, if_neg (by omega)]; omega
theorem meas_swap (u v p q : Int) : meas p q u v = meas u v p q := by
  unfold meas dotP
  rw [Int.mul_comm p u, Int.mul_comm q v, Int.add_comm (nrm p q)]
/-- The bounds of the coordinates. -/
theorem coord {m x y : Int} (hm : 1 ≤ m) (h : nrm x y ≤ m * m) : -m ≤ x ∧ x ≤ m ∧ -m ≤ y ∧ y ≤ m := by
  have one : ∀ z w : Int, z * z + w * w ≤ m * m → z ≤ m := fun z w h => by
    rcases Int.lt_or_le m z with h1 | h1
    · have h2 := Int.mul_lt_mul' (show m ≤ z by omega) h1 (by omega) (by omega)
      have := sq_nonneg w
      omega
    · exact h1
  unfold nrm at h
  refine ⟨?_, one x y h, ?_, one y x (by omega)⟩
  · have := one (-x) y (by rw [Int.neg_mul_neg]; exact h); omega
  · have := one (-y) x (by rw [Int.neg_mul_neg]; omega); omega
theorem prod_bd {M x y : Int} (h1 : -M ≤ x) (h2 : x ≤ M) (h3 : -M ≤ y) (h4 : y ≤ M) : -(M * M) ≤ x * y ∧ x * y ≤ M * M := by
  have key : ∀ x y : Int, 0 ≤ x → x ≤ M → -M ≤ y → y ≤ M → -(M * M) ≤ x * y ∧ x * y ≤ M * M := fun x y a b c d => by
    have e1 := Int.mul_le_mul_of_nonneg_left d a
    have e2 := Int.mul_le_mul_of_nonneg_left c a
    have e3 := Int.mul_le_mul_of_nonneg_right b (show 0 ≤ M by omega)
    rw [Int.mul_neg] at e2
    omega
  rcases Int.le_total 0 x with h | h
  · exact key x y h h2 h3 h4
  · have := key (-x) (-y) (by omega) (by omega) (by omega) (by omega)
    rwa [Int.neg_mul_neg] at this
/-- The square of a sum of multiples. -/
theorem nrm_comb (i j u v p q : Int) : nrm (i * u + j * p) (i * v + j * q) = i * i * nrm u v + 2 * (i * j * dotP u v p q) + j * j * nrm p q := by
  unfold nrm dotP
  simp only [Int.add_mul, Int.mul_add]
  have f : ∀ a b c d : Int, a * b * (c * d) = a * c * (b * d) := fun a b c d => by
    rw [Int.mul_assoc, Int.mul_assoc, ← Int.mul_assoc b c d, ← Int.mul_assoc c b d, Int.mul_comm b c]
  rw [f i u i u, f i u j p, f j p i u, f j p j p, f i v i v, f i v j q, f j q i v, f j q j q, Int.mul_comm j i, Int.mul_comm p u, Int.mul_comm q v]
  omega
theorem quad {s t : Int} (hs : 0 ≤ s) (ht : 0 ≤ t) (h : ¬ (s = 0 ∧ t = 0)) : 1 ≤ s * s - s * t + t * t ∧ (s * s - s * t + t * t ≤ 1 → s ≤ 1 ∧ t ≤ 1) := by
  have key : ∀ s t : Int, 0 ≤ s → s ≤ t → 1 ≤ t → 1 ≤ s * s - s * t + t * t ∧ (s * s - s * t + t * t ≤ 1 → s ≤ 1 ∧ t ≤ 1) := fun s t h0 h1 h2 => by
    obtain ⟨d, rfl⟩ : ∃ d, t = s + d := ⟨t - s, by omega⟩
    have e : s * s - s * (s + d) + (s + d) * (s + d) = s * s + (s + d) * d := by
      simp only [Int.mul_add, Int.add_mul]; rw [Int.mul_comm d s]; omega
    rw [e]
    have h3 := sq_nonneg s
    have h4 : 0 ≤ (s + d) * d := Int.mul_nonneg (by omega) (by omega)
    by_cases hd : d = 0
    · subst hd
      have h5 := sq_pos (x := s) (by omega)
      refine ⟨by omega, fun h => ?_⟩
      rcases Int.lt_or_le 1 s with h6 | h6
      · have := Int.mul_le_mul (show 2 ≤ s by omega) (show 2 ≤ s by omega) (by omega) (by omega)
        omega
      · omega
    · have h5 := Int.mul_le_mul_of_nonneg_left (show 1 ≤ d by omega) (show 0 ≤ s + d by omega)
      omega
  rcases Int.le_total s t with h1 | h1
  · exact key s t hs h1 (by omega)
  · have := key t s ht h1 (by omega)
    rw [Int.mul_comm t s] at this
    exact ⟨by omega, fun h => by have := this.2 (by omega); omega⟩
/-- Every pair is at least as long as the shorter one of a reduced two; and which ones are as long. -/
theorem reduced {u v p q i j : Int} (hP : 1 ≤ nrm p q) (hU : nrm p q ≤ nrm u v) (hk : rnd (dotP u v p q) (nrm p q) = 0) (h : ¬ (i = 0 ∧ j = 0)) :
    nrm p q ≤ nrm (i * u + j * p) (i * v + j * q) ∧ (nrm (i * u + j * p) (i * v + j * q) = nrm p q → -1 ≤ i ∧ i ≤ 1 ∧ -1 ≤ j ∧ j ≤ 1) := by
  have hr := rnd_spec (c := dotP u v p q) hP
  rw [hk] at hr
  rw [nrm_comb]
  generalize dotP u v p q = c at *
  generalize nrm u v = U at *
  generalize nrm p q = P at *
  simp only [Int.zero_mul, Int.mul_zero] at hr
  -- parts without signs
  obtain ⟨s, hs0, hs⟩ : ∃ s : Int, 0 ≤ s ∧ (i = s ∨ i = -s) := by rcases Int.le_total 0 i with h | h; exact ⟨i, h, .inl rfl⟩; exact ⟨-i, by omega, .inr (by omega)⟩
  obtain ⟨t, ht0, ht⟩ : ∃ t : Int, 0 ≤ t ∧ (j = t ∨ j = -t) := by rcases Int.le_total 0 j with h | h; exact ⟨j, h, .inl rfl⟩; exact ⟨-j, by omega, .inr (by omega)⟩
  have ei : i * i = s * s := by rcases hs with rfl | rfl; rfl; rw [Int.neg_mul_neg]
  have ej : j * j = t * t := by rcases ht with rfl | rfl; rfl; rw [Int.neg_mul_neg]
  have st0 : 0 ≤ s * t := Int.mul_nonneg hs0 ht0
  have hq := quad hs0 ht0 (by omega)
  have c1 := Int.mul_le_mul_of_nonneg_left (show -P ≤ 2 * c by omega) st0
  have c2 := Int.mul_le_mul_of_nonneg_left (show 2 * c ≤ P by omega) st0
  have d1 : s * t * (2 * c) = 2 * (s * t * c) := by rw [← Int.mul_assoc, Int.mul_comm _ 2, Int.mul_assoc]
  rw [d1] at c1 c2
  rw [Int.mul_neg] at c1
  have eij : i * j * c = s * t * c ∨ i * j * c = -(s * t * c) := by
    rcases hs with rfl | rfl <;> rcases ht with rfl | rfl
    · left; rfl
    · right; rw [Int.mul_neg, Int.neg_mul]
    · right; rw [Int.neg_mul, Int.neg_mul]
    · left; rw [Int.neg_mul_neg]
  have lo : -(s * t * P) ≤ 2 * (i * j * c) := by omega
  have u1 := Int.mul_le_mul_of_nonneg_left hU (sq_nonneg s)
  rw [ei, ej]
  have big : (s * s - s * t + t * t) * P ≤ s * s * U + 2 * (i * j * c) + t * t * P := by
    rw [Int.add_mul, Int.sub_mul]; omega
  have k1 := Int.mul_le_mul_of_nonneg_right hq.1 (show 0 ≤ P by omega)
  rw [Int.one_mul] at k1
  refine ⟨by omega, fun he => ?_⟩
  rcases Int.lt_or_le 1 (s * s - s * t + t * t) with h5 | h5
  · have := Int.mul_le_mul_of_nonneg_right (show 2 ≤ s * s - s * t + t * t by omega) (show 0 ≤ P by omega)
    omega
  · have := hq.2 h5
    omega
/-- What the reference takes for the best second part. -/
def aMax (y : Int) : Int := max y (-y)
def tryK (u v p q k b : Int) : Int := if nrm (u + k * p) (v + k * q) = nrm p q then min b (aMax (v + k * q)) else b
def bestOf (u v p q : Int) : Int := tryK u v p q 1 (tryK u v p q 0 (tryK u v p q (-1) (aMax q)))
theorem Basis.sum {m a u v p q : Int} (h : Basis m a u v p q) (k : Int) : Lat m a (u + k * p) (v + k * q) := by
  obtain ⟨t, ht⟩ := h.at1
  obtain ⟨t', ht'⟩ := h.at2
  refine ⟨t + k * t', ?_⟩
  have e1 : a * (k * q) = k * (a * q) := by rw [← Int.mul_assoc, Int.mul_comm a k, Int.mul_assoc]
  have e2 : m * (k * t') = k * (m * t') := by rw [← Int.mul_assoc, Int.mul_comm m k, Int.mul_assoc]
  rw [Int.mul_add, Int.mul_add, e1, e2, ← ht, ← ht', Int.mul_add]
  omega
/-- Attained without its sign. -/
def Att (m a l b : Int) : Prop := ∃ x, Lat m a x b ∧ nrm x b = l ∧ ¬ (x = 0 ∧ b = 0)
theorem att_abs {m a x y l : Int} (hL : Lat m a x y) (hn : nrm x y = l) (hl : 1 ≤ l) : Att m a l (aMax y) := by
  have hz : ¬ (x = 0 ∧ y = 0) := by rintro ⟨rfl, rfl⟩; simp [nrm] at hn; omega
  unfold aMax
  rcases Int.le_total 0 y with h | h
  · rw [show max y (-y) = y by omega]; exact ⟨x, hL, hn, hz⟩
  · rw [show max y (-y) = -y by omega]; exact ⟨-x, hL.neg, by rw [nrm_neg]; exact hn, by omega⟩
theorem att_try {m a u v p q : Int} (hm : 1 ≤ m) (h : Basis m a u v p q) (k b : Int) (hb : Att m a (nrm p q) b ∧ 0 ≤ b) : Att m a (nrm p q) (tryK u v p q k b) ∧ 0 ≤ tryK u v p q k b := by
  unfold tryK
  by_cases e : nrm (u + k * p) (v + k * q) = nrm p q
  · rw [if_pos e]
    have h1 := att_abs (h.sum k) e (h.pos hm)
    have h2 : 0 ≤ aMax (v + k * q) := by unfold aMax; omega
    rcases Int.le_total b (aMax (v + k * q)) with h3 | h3
    · rw [Int.min_eq_left h3]; exact hb
    · rw [Int.min_eq_right h3]; exact ⟨h1, h2⟩
  · rw [if_neg e]; exact hb
theorem try_le (u v p q k b : Int) : tryK u v p q k b ≤ b := by unfold tryK; split <;> omega
theorem try_hit {u v p q k b : Int} (e : nrm (u + k * p) (v + k * q) = nrm p q) : tryK u v p q k b ≤ aMax (v + k * q) := by unfold tryK; rw [if_pos e]; omega
theorem Basis.done {m a u v p q : Int} (hm : 1 ≤ m) (h : Basis m a u v p q) (hU : nrm p q ≤ nrm u v) (hk : rnd (dotP u v p q) (nrm p q) = 0) : IsLeast m a (nrm p q) (bestOf u v p q) := by
  have hP := h.pos hm
  have A := att_try hm h 1 _ (att_try hm h 0 _ (att_try hm h (-1) _ ⟨att_abs h.at2 rfl hP, by unfold aMax; omega⟩))
  refine ⟨A.1, A.2, fun x y hL hz => ?_⟩
  obtain ⟨i, j, rfl, rfl⟩ := h.all x y hL
  have hij : ¬ (i = 0 ∧ j = 0) := by rintro ⟨rfl, rfl⟩; simp at hz
  have R := reduced hP hU hk hij
  refine ⟨R.1, fun e => ?_⟩
  obtain ⟨r1, r2, r3, r4⟩ := R.2 e
  have l1 := try_le u v p q (-1) (aMax q)
  have l2 := try_le u v p q 0 (tryK u v p q (-1) (aMax q))
  have l3 := try_le u v p q 1 (tryK u v p q 0 (tryK u v p q (-1) (aMax q)))
  have goal : ∀ z : Int, (bestOf u v p q ≤ aMax z) → (i * v + j * q = z ∨ i * v + j * q = -z) → bestOf u v p q ≤ i * v + j * q ∨ bestOf u v p q ≤ -(i * v + j * q) := fun z h1 h2 => by unfold aMax at h1; omega
  by_cases hi : i = 0
  · subst hi
    refine goal q (by unfold bestOf; omega) ?_
    rcases (show j = 1 ∨ j = -1 by omega) with rfl | rfl <;> simp
  · have hk3 : ∀ k : Int, k = -1 ∨ k = 0 ∨ k = 1 → nrm (u + k * p) (v + k * q) = nrm p q → bestOf u v p q ≤ aMax (v + k * q) := by
      rintro k (rfl | rfl | rfl) e
      · have := try_hit (b := aMax q) e; unfold bestOf; omega
      · have := try_hit (b := tryK u v p q (-1) (aMax q)) e; unfold bestOf; omega
      · exact try_hit (b := tryK u v p q 0 (tryK u v p q (-1) (aMax q))) e
    rcases (show i = 1 ∨ i = -1 by omega) with rfl | rfl
    · refine goal (v + j * q) (hk3 j (by omega) (by simpa using e)) (.inl (by simp))
    · refine goal (v + (-j) * q) (hk3 (-j) (by omega) ?_) (.inr (by simp [Int.neg_mul]; omega))
      rw [← e, ← nrm_neg]
      congr 1 <;> simp [Int.neg_mul] <;> omega
theorem small_k {k p M : Int} (k0 : -1 ≤ k) (k1 : k ≤ 1) (h1 : -M ≤ p) (h2 : p ≤ M) : -M ≤ k * p ∧ k * p ≤ M := by
  rcases (show k = -1 ∨ k = 0 ∨ k = 1 by omega) with rfl | rfl | rfl
  · omega
  · rw [Int.zero_mul]; omega
  · omega
/-- The best one before k. -/
def bst (u v p q k : Int) : Int := if k ≤ -1 then aMax q else if k ≤ 0 then tryK u v p q (-1) (aMax q) else if k ≤ 1 then tryK u v p q 0 (tryK u v p q (-1) (aMax q)) else bestOf u v p q
theorem bst_step (u v p q k : Int) (k0 : -1 ≤ k) (k1 : k ≤ 1) : bst u v p q (k + 1) = tryK u v p q k (bst u v p q k) := by
  rcases (show k = -1 ∨ k = 0 ∨ k = 1 by omega) with rfl | rfl | rfl <;> simp [bst, bestOf]
theorem rnd_trunc (x y : Int) (hy : 0 < y) : (if x.tmod y < 0 then x.tdiv y - 1 else x.tdiv y) = x / y := by
  have e := Int.mul_tdiv_add_tmod x y
  have h1 := Int.tmod_lt_of_pos x hy
  have h2 : -y < x.tmod y := by
    have := Int.tmod_lt_of_pos (-x) hy
    rw [Int.neg_tmod] at this
    omega
  have key : ∀ q : Int, y * q ≤ x → x < y * q + y → x / y = q := fun q a b => by
    have := Int.mul_ediv_add_emod x y
    have h0 := Int.emod_nonneg x (show y ≠ 0 by omega)
    have h3 := Int.emod_lt_of_pos x hy
    generalize x / y = Q at *
    rcases Int.lt_trichotomy Q q with h | h | h
    · have := Int.mul_le_mul_of_nonneg_left (show Q + 1 ≤ q by omega) (show 0 ≤ y by omega)
      rw [Int.mul_add] at this; omega
    · exact h
    · have := Int.mul_le_mul_of_nonneg_left (show q + 1 ≤ Q by omega) (show 0 ≤ y by omega)
      rw [Int.mul_add] at this; omega
  split
  · rw [key (x.tdiv y - 1) (by rw [Int.mul_sub]; omega) (by rw [Int.mul_sub]; omega)]
  · rw [key (x.tdiv y) (by omega) (by omega)]
end Go.Proofs.Ytlaelfaalgmicaa
