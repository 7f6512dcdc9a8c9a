/- The walk of laws.FnExactLatticeOf: it returns true and leaves what was there. -/
import Derived.Test.YtlaelfaalgmicaaLatC
namespace Go.Proofs.Ytlaelfaalgmicaa.fnExactLatticeOf
open Go.RowKit
set_option linter.unusedVariables false
theorem walk (m a : Int) (w : World) (w0 : (Lit.int .i64 m).wf = true) (w1 : (Lit.int .i64 a).wf = true) : Calls Try.prog 17 #[.int .i64 m, .int .i64 a] w fun e w' => e = .returned (.bool true) ∧ Below w.heap.size w w' := by
  clear w0 w1
  by_cases hi : inR m 1 1000000 = true ∧ inR a 0 (m - 1) = true
  · obtain ⟨hm1, hm2⟩ := inR_of hi.1
    obtain ⟨a0, a1⟩ := inR_of hi.2
    clear hi
    have h1 : a < m := by omega
    clear a1
    go_enter Try.func17, Try.ntmps17
    go_wp2_with fail
    refine (specLat_yes m a _ hm1 hm2 a0 h1).mono ?_
    rintro e w' ⟨l, b, rfl, hL, rfl⟩
    have hL := Lib.hid hL
    go_wp2_with fail
    refine (implLat_yes m a _ hm1 hm2 a0 h1).mono ?_
    rintro e w' ⟨l', b', rfl, hL', rfl⟩
    obtain ⟨e1, e2⟩ := hL'.unique hL.out
    subst e1 e2
    clear hL' hL
    go_wp2
    go_ret
    exact ⟨rfl, Below.refl _ _⟩
  · have hn : inR m 1 1000000 = true → inR a 0 (m - 1) = false := fun h => by
      cases hq : inR a 0 (m - 1) with
      | false => rfl
      | true => exact absurd ⟨h, hq⟩ hi
    clear hi
    have hn := Lib.hid hn
    go_enter Try.func17, Try.ntmps17
    go_wp2_with fail
    refine (specLat_no m a _ hn.out).mono ?_
    rintro e w' ⟨rfl, rfl⟩
    go_wp2_with fail
    refine (implLat_no m a _ hn.out).mono ?_
    rintro e w' ⟨rfl, rfl⟩
    go_wp2
    go_ret
    exact ⟨rfl, Below.refl _ _⟩
end Go.Proofs.Ytlaelfaalgmicaa.fnExactLatticeOf
