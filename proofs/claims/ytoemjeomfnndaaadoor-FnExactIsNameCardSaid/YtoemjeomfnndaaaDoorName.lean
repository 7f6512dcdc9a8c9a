/- IsName, in plain words: one to eight small letters. No program in sight. -/
import Derived.Test.YtoemjeomfnndaaaDoorBase
import Derived.Lib.SlTrimSet
namespace Go.Proofs.YtoemjeomfnndaaaDoor
set_option linter.unusedVariables false
/-- Is the byte a small letter? -/
def low (c : UInt8) : Bool := decide (97 ≤ c.toNat) && decide (c.toNat ≤ 122)
def alphabet : List UInt8 := [97, 98, 99, 100, 101, 102, 103, 104, 105, 106, 107, 108, 109, 110, 111, 112, 113, 114, 115, 116, 117, 118, 119, 120, 121, 122]
theorem alphabet_fin : ∀ n : Fin 256, alphabet.contains (UInt8.ofNat n.val) = low (UInt8.ofNat n.val) := by decide +kernel
theorem alphabet_has (c : UInt8) : alphabet.contains c = low c := by
  have h := alphabet_fin ⟨c.toNat, UInt8.toNat_lt c⟩
  simpa using h
theorem dropWhile_nil {p : UInt8 → Bool} : ∀ (l : List UInt8), l.dropWhile p = [] ↔ l.all p = true
  | [] => by simp
  | c :: l => by
    rw [List.dropWhile_cons, List.all_cons]
    cases h : p c
    · simp
    · simp only [if_true, Bool.true_and]
      exact dropWhile_nil l
theorem trim_nil (l : List UInt8) : Lib.trimS l alphabet = [] ↔ l.all low = true := by
  have e : (fun c => alphabet.contains c) = low := funext alphabet_has
  unfold Lib.trimS Lib.trimLeftS Lib.trimRightS
  rw [e, dropWhile_nil]
  constructor
  · intro h
    have h2 : l.reverse.dropWhile low = [] := by
      cases hd : l.reverse.dropWhile low with
      | nil => rfl
      | cons x r =>
        have hx : low x = false := by
          have := List.head?_dropWhile_not (p := low) l.reverse
          rw [hd] at this
          simpa using this
        rw [hd] at h
        simp [hx] at h
    have := (dropWhile_nil l.reverse).1 h2
    rwa [List.all_reverse] at this
  · intro h
    have h2 : l.reverse.dropWhile low = [] := (dropWhile_nil l.reverse).2 (by rw [List.all_reverse]; exact h)
    rw [h2]; rfl
/-- Is it a name? -/
def nameB (l : List UInt8) : Bool := (decide (1 ≤ l.length) && decide (l.length ≤ 8)) && l.all low
end Go.Proofs.YtoemjeomfnndaaaDoor
