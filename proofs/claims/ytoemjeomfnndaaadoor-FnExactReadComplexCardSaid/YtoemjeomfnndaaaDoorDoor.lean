/- The frame's shared words for rows that list variables: a world for the witness; the table of powers of ten. -/
import Derived.Test.YtoemjeomfnndaaaDoorRows
import Derived.Test.YtoemjeomfnndaaaDoorSlC
import Derived.Deep.DeepHandedRow
import Derived.Lay
import Derived.MakeChecks
import Derived.Lib.LaidTab
import Derived.Lib.ItoaMem
import Derived.Stop.LaidErr
namespace Go.Proofs.YtoemjeomfnndaaaDoor
open Go.RowKit
set_option linter.unusedVariables false
section
variable {H : Type} {enc : TypeId × Value → H}
theorem witness_all {C : Checked} {os : Os} {f : FuncId} {fn : Func} {s : OpenSpec} {conds : List PathCond} {apart : Bool} {laid : List (String × DataW Unit)} (modest : Bool) (w0 : World) (args : Array Value) (hos : w0.os = os)
    (hsh : (w0.forCall (fun _ _ => 0) ⟨#[], args, []⟩).Shaped C.prog)
    (hok : Input.okWideB C.prog (w0.forCall (fun _ _ => 0) ⟨#[], args, []⟩) f ⟨#[], args, []⟩ = true)
    (hrow : s.preRow enc C.prog fn conds apart laid (w0.forCall (fun _ _ => 0) ⟨#[], args, []⟩).memory args) :
    ∃ (w : World) (tape : Tape) (i : Input), w.os = os ∧ (w.forCall tape i).Shaped C.prog ∧ i.vars = [] ∧ Input.okWide C.prog (w.forCall tape i) .any w.heap.size f i ∧
      s.preRow enc C.prog fn conds apart laid (w.forCall tape i).memory i.args ∧ ({ modest := modest } : Assume).holds C.prog (lone (Frame.enter C.prog f i.args .normal) [] (w.forCall tape i)) :=
  ⟨w0, fun _ _ => 0, ⟨#[], args, []⟩, hos, hsh, (Input.okWide_of_okWideB (base := 0) hok).1, (Input.okWide_of_okWideB hok).2, hrow, by
    simp only [Assume.holds]
    exact ⟨by simp, by simp, fun _ => Modest.zero, by simp, by simp⟩⟩
end
/-- The name of the table of powers of ten. -/
def powName : String := (Rows.fnExactDecimalRow.laid.map (·.1)).getD 2 ""
/-- The table of powers of ten is laid. -/
abbrev Pow (w : World) : Prop := Lib.TabIs Tryd.prog w powName .u64 Lib.pow10Tab
theorem pow_of {W : World} {rest : List (String × DataW Unit)} (h : laidMet Tryd.prog (((powName, Rows.laid_internal_strconv_uint64pow10) : String × DataW Unit) :: rest) W) : Pow W :=
  Lib.tabIs_of_head (rest := rest) (g := (Tryd.prog.globalNamed powName).getD 0) (t := (((Tryd.prog.globals[(Tryd.prog.globalNamed powName).getD 0]?).map (·.type)).getD 0)) (n := 20) (e := 73) (by kernel_rfl) (by kernel_rfl) (by kernel_rfl) Tryd.underlying73 (by kernel_rfl) (by kernel_rfl) h
theorem pow_decimal {W : World} (h : laidMetH Tryd.prog Rows.fnExactDecimalRow.laid W) : Pow W := by
  rw [MakeChecks.laidMetH_plain _ _ _ (by kernel_rfl)] at h
  exact pow_of h.tail.tail
theorem tab_bel {P : Program} {w w' : World} {name : String} {k : IntKind} {zs : List Int} (h : Lib.TabIs P w name k zs) (hB : Below w.heap.size w w') : Lib.TabIs P w' name k zs := by
  unfold Lib.TabIs World.var? at *
  cases hg : P.globalNamed name with
  | none => rw [hg] at h; cases h
  | some g =>
    rw [hg] at h
    simp only [Option.bind_some] at h ⊢
    have hl : g < w.heap.size := by
      rcases Nat.lt_or_ge g w.heap.size with q | q
      · exact q
      · rw [Array.getElem?_eq_none q] at h; cases h
    rw [hB.5 g hl]
    exact h
theorem pow_bel {w w' : World} (h : Pow w) (hB : Below w.heap.size w w') : Pow w' := tab_bel h hB
theorem bel_growN (w : World) (k : Nat) (os : Array Obj) : Below w.heap.size w (Go.Sort.grow (w.drewN k) os) := by
  have h := drewN_bel w k
  refine ⟨h.1, h.2, h.3, ?_, fun j hj => ?_⟩
  · simp [Go.Sort.grow]
  · show ((w.drewN k).heap ++ os)[j]? = _
    rw [Array.getElem?_append_left (by simpa using hj)]
    simp
end Go.Proofs.YtoemjeomfnndaaaDoor
