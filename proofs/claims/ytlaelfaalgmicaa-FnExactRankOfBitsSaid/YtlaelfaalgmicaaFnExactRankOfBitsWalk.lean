/- The walk of laws.FnExactRankOfBits: it returns true and leaves what was there. -/
import Derived.Test.YtlaelfaalgmicaaRankJ
namespace Go.Proofs.Ytlaelfaalgmicaa.fnExactRankOfBits
open Go.RowKit
set_option linter.unusedVariables false
theorem allW_congr {z y : Nat → Int} : ∀ n, (∀ i, i < n → z i = y i) → allW z n = allW y n
  | 0, _ => rfl
  | n + 1, h => by rw [allW_succ, allW_succ, allW_congr n fun i hi => h i (by omega), h n (by omega)]
theorem areW_congr {z y : Nat → Int} (n : Nat) (h : ∀ i, i < n → z i = y i) : areW z n = areW y n := by
  unfold areW; rw [allW_congr n h]
set_option maxHeartbeats 1000000 in
theorem core (a0 : Option Addr) (n0 cap0 : Nat) (z0 : Nat → Int) (w : World) (hA : SIn w 0 w.heap.size a0 n0 cap0 (kI z0)) (hn : n0 ≤ 1048576) (v : Int) (ok : Bool)
    (cs : ∀ a cap lo hi w, SIn w lo hi a n0 cap (kI z0) → Calls Try.prog 55 #[.slice a n0 cap] w (fun e w' => e = .returned (.tuple #[.int .i64 v, .bool ok]) ∧ Below w.heap.size w w'))
    (ci : ∀ a cap lo hi w, SIn w lo hi a n0 cap (kI z0) → Calls Try.prog 56 #[.slice a n0 cap] w (fun e w' => e = .returned (.tuple #[.int .i64 v, .bool ok]) ∧ Below w.heap.size w w')) :
    Calls Try.prog 16 #[.slice a0 n0 cap0] w fun e w' => e = .returned (.bool true) ∧ Below w.heap.size w w' := by
  have CS := Lib.hid cs
  have CI := Lib.hid ci
  clear cs ci
  have hn' : ¬ 1048576 < n0 := by omega
  go_enter Try.func16, Try.ntmps16
  go_wp2_with fail
  refine (toInts_new a0 n0 cap0 z0 _ hA.ints hn).mono ?_
  rintro e w1 ⟨rfl, n1⟩
  have B1 : Below w.heap.size w w1 := n1.bel
  go_wp2_with fail
  refine (CS.out _ n0 _ _ w1 n1.own.sin).mono ?_
  rintro e w2 ⟨rfl, b2⟩
  have B2 := bel_next B1 b2
  go_wp2_with fail
  refine (toInts_new a0 n0 cap0 z0 _ (hA.bel B2).ints hn).mono ?_
  rintro e w3 ⟨rfl, n3⟩
  have B3 := bel_next B2 n3.bel
  go_wp2_with fail
  refine (CI.out _ n0 _ _ w3 n3.own.sin).mono ?_
  rintro e w4 ⟨rfl, b4⟩
  have B4 := bel_next B3 b4
  have X4 := n3.own.bel b4
  go_wp2_with fail
  refine (toInts_new a0 n0 cap0 z0 _ (hA.bel B4).ints hn).mono ?_
  rintro e w6 ⟨rfl, n6⟩
  have B6 := bel_next B4 n6.bel
  have X6 := X4.bel n6.bel
  go_wp2_with fail
  refine (eqInts_bel _ _ n0 n0 n0 z0 _ X6.sin.ints n6.own.sin.ints hn).mono ?_
  rintro e w7 ⟨rfl, b7⟩
  have B7 := bel_next B6 b7
  go_wp2_with fail
  go_ret
  exact ⟨rfl, B7⟩
theorem far (a0 : Option Addr) (n0 cap0 : Nat) (w : World) (hn : ¬ n0 ≤ 1048576) :
    Calls Try.prog 16 #[.slice a0 n0 cap0] w fun e w' => e = .returned (.bool true) ∧ Below w.heap.size w w' := by
  have hn' : 1048576 < n0 := by omega
  go_enter Try.func16, Try.ntmps16
  go_wp2_with fail
  go_ret
  exact ⟨rfl, Below.refl _ _⟩
theorem walk (a0 : Option Addr) (n0 cap0 : Nat) (zs : List Int) (w : World) (w0 : IsRow .i64 w a0 n0 cap0 zs) :
    Calls Try.prog 16 #[.slice a0 n0 cap0] w fun e w' => e = .returned (.bool true) ∧ Below w.heap.size w w' := by
  have hA := (isRow_ints w0).1
  clear w0
  generalize (fun i => zs.getD i 0) = z at hA
  by_cases hn : n0 ≤ 1048576
  · by_cases hb : areW z n0 = true ∧ n0 ≤ 32
    · obtain ⟨hb1, hb2⟩ := hb
      obtain ⟨_, _, hw⟩ := areW_of hb1
      obtain ⟨y, hy⟩ : ∃ y : Nat → Nat, y = fun i => (z i).toNat := ⟨_, rfl⟩
      have hzy : ∀ i, i < n0 → z i = (y i : Int) := fun i hi => by
        have := hw i hi
        rw [hy]; show z i = ((z i).toNat : Int); omega
      have hb3 : areW (fun i => (y i : Int)) n0 = true := by rw [← areW_congr n0 hzy]; exact hb1
      have hA2 : ∀ a cap lo hi w, SIn w lo hi a n0 cap (kI z) → SIn w lo hi a n0 cap (kI fun i => (y i : Int)) := fun a cap lo hi w h => h.congr fun i hi => congrArg (Value.int .i64) (hzy i hi)
      exact core a0 n0 cap0 z w hA hn _ true (fun a cap lo hi w h => specRank_in a lo hi n0 cap y w (hA2 _ _ _ _ _ h) hb3 hb2) (fun a cap lo hi w h => implRank_in a lo hi n0 cap y w (hA2 _ _ _ _ _ h) hb3 hb2)
    · have hc : areW z n0 = true → 32 < n0 := fun h => by
        rcases Nat.lt_or_ge 32 n0 with q | q
        · exact q
        · exact absurd ⟨h, q⟩ hb
      exact core a0 n0 cap0 z w hA hn 0 false (fun a cap lo hi w h => specRank_no a n0 cap z w h.ints hn hc) (fun a cap lo hi w h => implRank_no a n0 cap z w h.ints hn hc)
  · exact far a0 n0 cap0 w hn
end Go.Proofs.Ytlaelfaalgmicaa.fnExactRankOfBits
