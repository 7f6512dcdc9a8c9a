/- The first repeat of a sequence. No program in sight. -/
import Derived.Test.YtlaelfaalgmicaaBase
import Derived.ChangeBookTie2
namespace Go.Proofs.Ytlaelfaalgmicaa

/-- The sequence x, (a x + c) % m, .. -/
def sq (m a c x : Int) : Nat → Int
  | 0 => x
  | i + 1 => (a * sq m a c x i + c) % m
/-- n is the first index whose value came before, at f. -/
structure IsRep (X : Nat → Int) (f n : Nat) : Prop where
  lt : f < n
  eq : X n = X f
  inj : ∀ i j, i < j → j < n → X i ≠ X j
theorem IsRep.uniq {X : Nat → Int} {f n f' n' : Nat} (h : IsRep X f n) (h' : IsRep X f' n') : f = f' ∧ n = n' := by
  have hn : n = n' := by
    rcases Nat.lt_trichotomy n n' with q | q | q
    · exact absurd h.eq.symm (h'.inj f n h.lt q)
    · exact q
    · exact absurd h'.eq.symm (h.inj f' n' h'.lt q)
  subst hn
  refine ⟨?_, rfl⟩
  have e : X f = X f' := h.eq.symm.trans h'.eq
  rcases Nat.lt_trichotomy f f' with q | q | q
  · exact absurd e (h.inj f f' q h'.lt)
  · exact q
  · exact absurd e.symm (h.inj f' f q h.lt)
theorem sq_range (m a c x : Int) (hm : 1 ≤ m) (h0 : 0 ≤ x) (h1 : x < m) : ∀ i, 0 ≤ sq m a c x i ∧ sq m a c x i < m
  | 0 => ⟨h0, h1⟩
  | i + 1 => ⟨Int.emod_nonneg _ (by omega), Int.emod_lt_of_pos _ (by omega)⟩
theorem inj_le (X : Nat → Int) (m : Nat) (hX : ∀ i, 0 ≤ X i ∧ X i < m) (j : Nat) (inj : ∀ i k, i < k → k < j → X i ≠ X k) : j ≤ m := by
  have h := nodup_lt_length m ((List.range j).map (fun i => (X i).toNat)) ?_ ?_
  · simpa using h
  · rw [List.nodup_iff_pairwise_ne, List.pairwise_map]
    refine List.Pairwise.imp_of_mem ?_ List.pairwise_lt_range
    intro i k hi hk hlt he
    have := hX i
    have := hX k
    exact inj i k hlt (List.mem_range.1 hk) (by omega)
  · intro y hy
    obtain ⟨i, _, rfl⟩ := List.mem_map.1 hy
    have := hX i
    omega
/-- One step more without a repeat. -/
theorem inj_step {X : Nat → Int} {j : Nat} (inj : ∀ i k, i < k → k < j → X i ≠ X k) (hne : ∀ i, i < j → X i ≠ X j) : ∀ i k, i < k → k < j + 1 → X i ≠ X k := by
  intro i k h1 h2
  rcases Nat.lt_or_ge k j with q | q
  · exact inj i k h1 q
  · obtain rfl : k = j := by omega
    exact hne i h1
end Go.Proofs.Ytlaelfaalgmicaa
