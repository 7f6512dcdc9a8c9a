/- The check number of a text, in plain words. No program in sight. -/
import Derived.IntWalk
namespace Go.Proofs.Ytopfeilfgbcihaa

def chk1 (n : Int) (c : UInt8) : Int := (883 * n + (c.toNat : Int) + 167) % 65003
def chk (n : Int) (l : List UInt8) : Int := l.foldl chk1 n
theorem chk_snoc (n : Int) (l : List UInt8) (c : UInt8) : chk n (l ++ [c]) = (883 * chk n l + (c.toNat : Int) + 167) % 65003 := by
  simp [chk, chk1]
theorem chk1_range (n : Int) (c : UInt8) : 0 ≤ chk1 n c ∧ chk1 n c < 65003 := by unfold chk1; omega
theorem chk_range (n : Int) (l : List UInt8) (h0 : 0 ≤ n) (h1 : n < 65003) : 0 ≤ chk n l ∧ chk n l < 65003 := by
  induction l generalizing n with
  | nil => exact ⟨h0, h1⟩
  | cons c r ih => exact ih (chk1 n c) (chk1_range n c).1 (chk1_range n c).2
theorem take_snoc (s : ByteArray) (k : Nat) (h : k < s.size) : s.data.toList.take (k + 1) = s.data.toList.take k ++ [s[k]] := by
  rw [List.take_succ_eq_append_getElem (by simpa using h)]; rfl
theorem chk_take (n : Int) (s : ByteArray) (k : Nat) (h : k < s.size) : chk n (s.data.toList.take (k + 1)) = (883 * chk n (s.data.toList.take k) + (s[k].toNat : Int) + 167) % 65003 := by
  rw [take_snoc s k h, chk_snoc]
theorem chk_wrap (m : Int) (c : UInt8) (h0 : 0 ≤ m) (h1 : m < 65003) : (RowKit.wrap64 (RowKit.wrap64 (883 * m + RowKit.wrap64 (c.toNat : Int)) + 167)).tmod 65003 = (883 * m + (c.toNat : Int) + 167) % 65003 := by
  have := c.toNat_lt
  rw [IntWalk.wrap64_in (c.toNat : Int) (by omega), IntWalk.wrap64_in (883 * m + (c.toNat : Int)) (by omega), IntWalk.wrap64_in _ (by omega), Int.tmod_eq_emod_of_nonneg (by omega)]
end Go.Proofs.Ytopfeilfgbcihaa
