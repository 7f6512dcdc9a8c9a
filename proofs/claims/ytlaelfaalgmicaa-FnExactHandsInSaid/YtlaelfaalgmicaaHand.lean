/- HandsIn, in plain words: the kind of a hand of digits. -/
import Derived.Test.YtlaelfaalgmicaaCntC
namespace Go.Proofs.Ytlaelfaalgmicaa
open Go.RowKit
set_option linter.unusedVariables false
/-- How often each digit stands among the first n. -/
def cntI (g : Nat → Int) : Nat → Nat → Int
  | 0 => fun _ => 0
  | i + 1 => hitC (cntI g i) (g i).toNat
theorem cntI_succ (g : Nat → Int) (i : Nat) : cntI g (i + 1) = hitC (cntI g i) (g i).toNat := rfl
theorem cntI_hit {g : Nat → Int} {i d : Nat} (h : g i = (d : Int)) : cntI g (i + 1) d = cntI g i d + 1 := by
  rw [cntI_succ]; unfold hitC; rw [if_pos (by omega)]
theorem cntI_miss {g : Nat → Int} {i d : Nat} (h0 : 0 ≤ g i) (h : ¬ g i = (d : Int)) : cntI g (i + 1) d = cntI g i d := by
  rw [cntI_succ]; unfold hitC; rw [if_neg (by omega)]
theorem cntI_range (g : Nat → Int) : ∀ i d, 0 ≤ cntI g i d ∧ cntI g i d ≤ (i : Int)
  | 0, d => ⟨Int.le_refl _, Int.le_refl _⟩
  | i + 1, d => by
    have := hitC_range (cntI_range g i) (g i).toNat d
    rw [cntI_succ]; omega
/-- The pairs, the most, and all, among the digits below d. -/
def pmt (c : Nat → Int) : Nat → Int × Int × Int
  | 0 => (0, 0, 0)
  | d + 1 => ((pmt c d).1 + (if c d = 2 then 1 else 0), max (pmt c d).2.1 (c d), (pmt c d).2.2 + c d)
theorem pmt_succ (c : Nat → Int) (d : Nat) : pmt c (d + 1) = ((pmt c d).1 + (if c d = 2 then 1 else 0), max (pmt c d).2.1 (c d), (pmt c d).2.2 + c d) := rfl
theorem pmt_inv {c : Nat → Int} (h : ∀ d, 0 ≤ c d) : ∀ d, 0 ≤ (pmt c d).1 ∧ (pmt c d).1 ≤ d ∧ 0 ≤ (pmt c d).2.1 ∧ (pmt c d).2.1 ≤ (pmt c d).2.2 ∧ 2 * (pmt c d).1 ≤ (pmt c d).2.2 ∧ ((pmt c d).2.1 = 3 → 2 * (pmt c d).1 + 3 ≤ (pmt c d).2.2)
  | 0 => by simp [pmt]
  | d + 1 => by
    obtain ⟨h1, h2, h3, h4, h5, h6⟩ := pmt_inv h d
    have hd := h d
    rw [pmt_succ]
    generalize c d = x at *
    generalize (pmt c d).1 = p at *
    generalize (pmt c d).2.1 = m at *
    generalize (pmt c d).2.2 = t at *
    dsimp only
    by_cases e : x = 2
    · rw [if_pos e]; omega
    · rw [if_neg e]; omega
/-- All of a raised row. -/
theorem pmt_all (c : Nat → Int) (q : Nat) : ∀ D, (pmt (hitC c q) D).2.2 = (pmt c D).2.2 + (if q < D then 1 else 0)
  | 0 => by simp [pmt]
  | D + 1 => by
    rw [pmt_succ, pmt_succ]
    dsimp only
    rw [pmt_all c q D]
    by_cases h : D = q
    · subst h
      have : hitC c D D = c D + 1 := by unfold hitC; rw [if_pos rfl]
      rw [this, if_neg (Nat.lt_irrefl _), if_pos (Nat.lt_succ_self _)]; omega
    · have : hitC c q D = c D := by unfold hitC; rw [if_neg h]
      rw [this]
      by_cases h2 : q < D
      · rw [if_pos h2, if_pos (by omega)]; omega
      · rw [if_neg h2, if_neg (by omega)]; omega
theorem pmt_zero : ∀ D, (pmt (fun _ => (0 : Int)) D).2.2 = 0
  | 0 => rfl
  | D + 1 => by rw [pmt_succ]; dsimp only; rw [pmt_zero D]; rfl
theorem cnt_all (g : Nat → Int) (D : Nat) : ∀ n : Nat, (pmt (cntI g n) D).2.2 ≤ n
  | 0 => by rw [show cntI g 0 = fun _ => 0 from rfl, pmt_zero]; simp
  | n + 1 => by
    have := cnt_all g D n
    rw [cntI_succ, pmt_all]
    split <;> omega
/-- The kind of a hand. -/
def kindI (p m : Int) : Int := if m = 3 then 3 + p else if 3 < m then m + 1 else p
def kindS (p m : Int) : Int := if m = 5 then 6 else if m = 4 then 5 else if m = 3 ∧ p = 1 then 4 else if m = 3 then 3 else p
/-- Of five digits both kinds are one. -/
theorem kinds (g : Nat → Int) (n : Nat) (hn : n ≤ 5) : kindS (pmt (cntI g n) 10).1 (pmt (cntI g n) 10).2.1 = kindI (pmt (cntI g n) 10).1 (pmt (cntI g n) 10).2.1 ∧ 0 ≤ kindI (pmt (cntI g n) 10).1 (pmt (cntI g n) 10).2.1 ∧ kindI (pmt (cntI g n) 10).1 (pmt (cntI g n) 10).2.1 ≤ 6 := by
  have h := pmt_inv (c := cntI g n) (fun d => (cntI_range g n d).1) 10
  have h7 := cnt_all g 10 n
  generalize (pmt (cntI g n) 10).1 = p at *
  generalize (pmt (cntI g n) 10).2.1 = m at *
  generalize (pmt (cntI g n) 10).2.2 = t at *
  obtain ⟨h1, h2, h3, h4, h5, h6⟩ := h
  unfold kindS kindI
  split <;> split <;> (try split) <;> (try split) <;> omega
/-- The digits of hand i. -/
def hand (z : Nat → Int) (i : Nat) : Nat → Int := fun j => z (5 * i + j) / 429496730
/-- The kind of hand i. -/
def hk (z : Nat → Int) (i : Nat) : Int := kindI (pmt (cntI (hand z i) 5) 10).1 (pmt (cntI (hand z i) 5) 10).2.1
theorem hk_range (z : Nat → Int) (i : Nat) : 0 ≤ hk z i ∧ hk z i ≤ 6 := (kinds (hand z i) 5 (by omega)).2
/-- The counts behind the first i hands. -/
def hcs (z : Nat → Int) : Nat → Nat → Int
  | 0 => fun _ => 0
  | i + 1 => hitC (hcs z i) (hk z i).toNat
theorem hcs_succ (z : Nat → Int) (i : Nat) : hcs z (i + 1) = hitC (hcs z i) (hk z i).toNat := rfl
theorem hcs_range (z : Nat → Int) : ∀ i j, 0 ≤ hcs z i j ∧ hcs z i j ≤ (i : Int)
  | 0, j => ⟨Int.le_refl _, Int.le_refl _⟩
  | i + 1, j => by
    have := hitC_range (hcs_range z i) (hk z i).toNat j
    rw [hcs_succ]; omega
end Go.Proofs.Ytlaelfaalgmicaa
