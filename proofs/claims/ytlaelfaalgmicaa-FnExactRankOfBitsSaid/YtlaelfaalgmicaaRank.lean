/- The rank of rows of bits, in plain words: how many leading bits their sums have. No program in sight. -/
import Derived.Test.YtlaelfaalgmicaaProg
namespace Go.Proofs.Ytlaelfaalgmicaa
set_option linter.unusedVariables false
/-- The sums (without carry) of rows of M. -/
inductive Span (M : Nat → Prop) : Nat → Prop
  | zero : Span M 0
  | add {x y : Nat} : M x → Span M y → Span M (x ^^^ y)
theorem Span.one {M : Nat → Prop} {x : Nat} (h : M x) : Span M x := by
  have := Span.add h Span.zero
  rwa [Nat.xor_zero] at this
theorem Span.sum {M : Nat → Prop} {x y : Nat} (h : Span M x) (g : Span M y) : Span M (x ^^^ y) := by
  induction h with
  | zero => rwa [Nat.zero_xor]
  | add hx _ ih => rw [Nat.xor_assoc]; exact .add hx ih
theorem Span.mono {M M' : Nat → Prop} {x : Nat} (h : Span M x) (hm : ∀ y, M y → Span M' y) : Span M' x := by
  induction h with
  | zero => exact .zero
  | add hx _ ih => exact (hm _ hx).sum ih
theorem Span.low {M : Nat → Prop} {x b : Nat} (h : Span M x) (hm : ∀ y, M y → y.testBit b = false) : x.testBit b = false := by
  induction h with
  | zero => exact Nat.zero_testBit b
  | add hx _ ih => rw [Nat.testBit_xor, hm _ hx, ih]; rfl
/-- A row with p taken off where it has the bit. -/
def red (b p x : Nat) : Nat := if x.testBit b = true then x ^^^ p else x
theorem red_sum (b p x y : Nat) (hp : p.testBit b = true) : red b p (x ^^^ y) = red b p x ^^^ red b p y := by
  unfold red
  rw [Nat.testBit_xor]
  cases hx : x.testBit b <;> cases hy : y.testBit b
  · rfl
  · simp [Nat.xor_assoc]
  · simp only [Bool.true_bne, Bool.not_false, if_true]
    rw [if_neg (by decide), Nat.xor_assoc, Nat.xor_comm y p, ← Nat.xor_assoc]
  · simp only [bne_self_eq_false, if_true]
    rw [if_neg (by decide), Nat.xor_assoc, Nat.xor_comm p (y ^^^ p), Nat.xor_assoc y, Nat.xor_self, Nat.xor_zero]
theorem red_low (b p x : Nat) (hp : p.testBit b = true) : (red b p x).testBit b = false := by
  unfold red
  split
  · rename_i h; rw [Nat.testBit_xor, h, hp]; rfl
  · rename_i h; simpa using h
/-- One row p with the bit is taken away, and taken off the others that have it. -/
structure Cut (b p : Nat) (M M' : Nat → Prop) : Prop where
  mem : M p
  bit : p.testBit b = true
  into : ∀ x, M x → red b p x = 0 ∨ M' (red b p x)
  back : ∀ y, M' y → ∃ x, M x ∧ y = red b p x
theorem Cut.span {b p : Nat} {M M' : Nat → Prop} (h : Cut b p M M') (y : Nat) : Span M' y ↔ Span M y ∧ y.testBit b = false := by
  have hred : ∀ x, M x → Span M (red b p x) := fun x hx => by
    unfold red
    split
    · exact (Span.one hx).sum (.one h.mem)
    · exact .one hx
  have hto : ∀ z, Span M z → Span M' (red b p z) := fun z hz => by
    induction hz with
    | zero =>
      have : red b p 0 = 0 := by simp [red]
      rw [this]; exact .zero
    | add hx _ ih =>
      rw [red_sum b p _ _ h.bit]
      rcases h.into _ hx with q | q
      · rw [q, Nat.zero_xor]; exact ih
      · exact .add q ih
  constructor
  · intro hy
    refine ⟨hy.mono fun x hx => ?_, hy.low fun x hx => ?_⟩
    · obtain ⟨x0, h0, rfl⟩ := h.back x hx
      exact hred x0 h0
    · obtain ⟨x0, h0, rfl⟩ := h.back x hx
      exact red_low b p x0 h.bit
  · rintro ⟨hy, hb⟩
    have := hto y hy
    have e : red b p y = y := by simp [red, hb]
    rwa [e] at this
/-- Some sum of rows has its highest bit at b. -/
def Hit (W : Nat → Prop) (b : Nat) : Prop := ∃ y, Span W y ∧ (∀ s, b < s → s < 32 → y.testBit s = false) ∧ y.testBit b = true
open Classical in
/-- How many of the t highest bits are such. -/
noncomputable def rkT (W : Nat → Prop) : Nat → Nat
  | 0 => 0
  | t + 1 => rkT W t + if Hit W (31 - t) then 1 else 0
open Classical in
theorem rkT_succ (W : Nat → Prop) (t : Nat) : rkT W (t + 1) = rkT W t + if Hit W (31 - t) then 1 else 0 := rfl
theorem rkT_le (W : Nat → Prop) (t : Nat) : rkT W t ≤ t := by
  induction t with
  | zero => exact Nat.le_refl _
  | succ t ih => rw [rkT_succ]; split <;> omega
/-- The rows left when t bits have been done. -/
def Left (W : Nat → Prop) (t : Nat) (R : Nat → Prop) : Prop := ∀ y, Span R y ↔ Span W y ∧ ∀ s, 32 - t ≤ s → s < 32 → y.testBit s = false
theorem Left.start (W : Nat → Prop) : Left W 0 W := fun y => ⟨fun h => ⟨h, fun s h1 h2 => by omega⟩, fun h => h.1⟩
theorem Left.none {W R : Nat → Prop} {t : Nat} (h : Left W t R) (ht : t < 32) (hn : ∀ x, R x → x.testBit (31 - t) = false) : Left W (t + 1) R ∧ rkT W (t + 1) = rkT W t := by
  refine ⟨fun y => ⟨fun hy => ⟨((h y).1 hy).1, fun s h1 h2 => ?_⟩, fun hy => (h y).2 ⟨hy.1, fun s h1 h2 => hy.2 s (by omega) h2⟩⟩, ?_⟩
  · by_cases e : s = 31 - t
    · rw [e]; exact hy.low hn
    · exact ((h y).1 hy).2 s (by omega) h2
  · have : ¬ Hit W (31 - t) := fun ⟨y, h1, h2, h3⟩ => by
      have hy := (h y).2 ⟨h1, fun s a b => h2 s (by omega) b⟩
      rw [hy.low hn] at h3; cases h3
    rw [rkT_succ, if_neg this, Nat.add_zero]
theorem Left.some {W R R' : Nat → Prop} {t p : Nat} (h : Left W t R) (ht : t < 32) (c : Cut (31 - t) p R R') : Left W (t + 1) R' ∧ rkT W (t + 1) = rkT W t + 1 := by
  refine ⟨fun y => ?_, ?_⟩
  · rw [c.span y, h y]
    constructor
    · rintro ⟨⟨h1, h2⟩, h3⟩
      refine ⟨h1, fun s a b => ?_⟩
      by_cases e : s = 31 - t
      · rw [e]; exact h3
      · exact h2 s (by omega) b
    · rintro ⟨h1, h2⟩
      exact ⟨⟨h1, fun s a b => h2 s (by omega) b⟩, h2 _ (by omega) (by omega)⟩
  · have : Hit W (31 - t) := ⟨p, ((h p).1 (.one c.mem)).1, fun s a b => ((h p).1 (.one c.mem)).2 s (by omega) b, c.bit⟩
    rw [rkT_succ, if_pos this]
end Go.Proofs.Ytlaelfaalgmicaa
