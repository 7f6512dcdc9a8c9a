/- RankOfBits: the bit operations in plain words. -/
import Derived.Test.YtlaelfaalgmicaaRank
import Derived.Test.YtlaelfaalgmicaaWordsC
import Derived.Test.YtlaelfaalgmicaaGrowC
import Derived.Laws.Bits64
import Derived.Laws.BitsLemmas
namespace Go.Proofs.Ytlaelfaalgmicaa
open Go.RowKit
set_option linter.unusedVariables false
theorem i64_and1 (n : Int) : bits .and .i64 n 1 = n % 2 := by
  have h1 : (BitVec.ofInt 64 1).toNat = 2 ^ 1 - 1 := by decide
  have key : (BitVec.ofInt 64 n &&& BitVec.ofInt 64 1).toNat = (n % ((2 ^ 64 : Nat) : Int)).toNat % 2 ^ 1 := by
    rw [BitVec.toNat_and, BitVec.toNat_ofInt, h1, Nat.and_two_pow_sub_one_eq_mod]
  show IntKind.i64.wrap ((BitVec.ofInt 64 n &&& BitVec.ofInt 64 1).toNat : Nat) = n % 2
  rw [key, IntKind.wrap_i64]
  omega
theorem bit_i64 (x b : Nat) : bits .and .i64 ((x : Int) / 2 ^ b) 1 = ((x.testBit b).toNat : Int) := by
  have e : (x : Int) / 2 ^ b = ((x / 2 ^ b : Nat) : Int) := by
    rw [Int.natCast_ediv, Int.natCast_pow]; rfl
  rw [i64_and1, e, Nat.testBit_eq_decide_div_mod_eq]
  by_cases h : x / 2 ^ b % 2 = 1
  · rw [decide_eq_true h]
    show ((x / 2 ^ b : Nat) : Int) % 2 = 1
    omega
  · rw [decide_eq_false h]
    show ((x / 2 ^ b : Nat) : Int) % 2 = 0
    omega
theorem xor_i64 (a b : Nat) (ha : a < 4294967296) (hb : b < 4294967296) : bits .xor .i64 (a : Int) (b : Int) = ((a ^^^ b : Nat) : Int) := by
  have hx : a ^^^ b < 2 ^ 32 := Nat.xor_lt_two_pow (by omega) (by omega)
  have h1 : (BitVec.ofInt 64 (a : Int)).toNat = a := by
    rw [BitVec.ofInt_natCast, BitVec.toNat_ofNat]; exact Nat.mod_eq_of_lt (by omega)
  have h2 : (BitVec.ofInt 64 (b : Int)).toNat = b := by
    rw [BitVec.ofInt_natCast, BitVec.toNat_ofNat]; exact Nat.mod_eq_of_lt (by omega)
  show IntKind.i64.wrap ((BitVec.ofInt 64 (a : Int) ^^^ BitVec.ofInt 64 (b : Int)).toNat : Int) = _
  rw [BitVec.toNat_xor, h1, h2, IntKind.wrap_i64]
  omega
/-- What both sides return. -/
theorem specRank_no (a : Option Addr) (n cap : Nat) (z : Nat → Int) (w : World) (h : IEls w a n cap z) (hn : n ≤ 1048576) (hb : areW z n = true → 32 < n) :
    Calls Try.prog 55 #[.slice a n cap] w (fun e w' => e = .returned (.tuple #[.int .i64 0, .bool false]) ∧ Below w.heap.size w w') := by
  cases hA : areW z n with
  | true =>
    have hq := hb hA
    clear hb
    go_enter Try.func55, Try.ntmps55
    go_wp2_with (go_at_call 71; refine (l02Are_any _ _ _ z _ h hn).mono ?_; rintro e w' ⟨rfl, rfl⟩)
    go_ret2
    exact ⟨rfl, Below.refl _ _⟩
  | false =>
    clear hb
    go_enter Try.func55, Try.ntmps55
    go_wp2_with (go_at_call 71; refine (l02Are_any _ _ _ z _ h hn).mono ?_; rintro e w' ⟨rfl, rfl⟩)
    go_ret2
    exact ⟨rfl, Below.refl _ _⟩
theorem implRank_no (a : Option Addr) (n cap : Nat) (z : Nat → Int) (w : World) (h : IEls w a n cap z) (hn : n ≤ 1048576) (hb : areW z n = true → 32 < n) :
    Calls Try.prog 56 #[.slice a n cap] w (fun e w' => e = .returned (.tuple #[.int .i64 0, .bool false]) ∧ Below w.heap.size w w') := by
  cases hA : areW z n with
  | true =>
    have hq := hb hA
    clear hb
    go_enter Try.func56, Try.ntmps56
    go_wp2_with (go_at_call 40; refine (implAre_any _ _ _ z _ h hn).mono ?_; rintro e w' ⟨rfl, rfl⟩)
    go_ret2
    exact ⟨rfl, Below.refl _ _⟩
  | false =>
    clear hb
    go_enter Try.func56, Try.ntmps56
    go_wp2_with (go_at_call 40; refine (implAre_any _ _ _ z _ h hn).mono ?_; rintro e w' ⟨rfl, rfl⟩)
    go_ret2
    exact ⟨rfl, Below.refl _ _⟩
end Go.Proofs.Ytlaelfaalgmicaa
