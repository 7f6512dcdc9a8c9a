/- The walk of laws.FnExactAreWords: it returns true and leaves what was there. -/
import Derived.Test.YtlaelfaalgmicaaWordsC
namespace Go.Proofs.Ytlaelfaalgmicaa.fnExactAreWords
open Go.RowKit
set_option linter.unusedVariables false
theorem walk (a0 : Option Addr) (n0 cap0 : Nat) (zs : List Int) (w : World) (w0 : IsRow .i64 w a0 n0 cap0 zs) : Calls Try.prog 10 #[.slice a0 n0 cap0] w fun e w' => e = .returned (.bool true) ∧ Below w.heap.size w w' := by
  have hA := (isRow_ints w0).1
  clear w0
  generalize (fun i => zs.getD i 0) = z at hA
  by_cases hn : n0 ≤ 1048576
  · have hn' : ¬ 1048576 < n0 := by omega
    go_enter Try.func10, Try.ntmps10
    go_wp2_with fail
    refine (toInts_new a0 n0 cap0 z _ hA.ints hn).mono ?_
    rintro e w1 ⟨rfl, n1⟩
    have B1 : Below w.heap.size w w1 := n1.bel
    go_wp2_with fail
    refine (specAre_any _ n0 n0 z _ n1.own.sin.ints hn).mono ?_
    rintro e w' ⟨rfl, rfl⟩
    go_wp2_with fail
    refine (toInts_new a0 n0 cap0 z _ (hA.bel B1).ints hn).mono ?_
    rintro e w3 ⟨rfl, n3⟩
    have B3 := bel_next B1 n3.bel
    go_wp2_with fail
    refine (implAre_any _ n0 n0 z _ n3.own.sin.ints hn).mono ?_
    rintro e w' ⟨rfl, rfl⟩
    go_wp2_with fail
    refine (toInts_new a0 n0 cap0 z _ (hA.bel B3).ints hn).mono ?_
    rintro e w5 ⟨rfl, n5⟩
    have B5 := bel_next B3 n5.bel
    go_wp2_with fail
    refine (eqInts_bel _ _ n0 n0 n0 z _ (n3.own.sin.bel n5.bel).ints n5.own.sin.ints hn).mono ?_
    rintro e w6 ⟨rfl, b6⟩
    have B6 := bel_next B5 b6
    go_wp2_with fail
    go_ret
    exact ⟨rfl, B6⟩
  · have hn' : 1048576 < n0 := by omega
    go_enter Try.func10, Try.ntmps10
    go_wp2_with fail
    go_ret
    exact ⟨rfl, Below.refl _ _⟩
end Go.Proofs.Ytlaelfaalgmicaa.fnExactAreWords
