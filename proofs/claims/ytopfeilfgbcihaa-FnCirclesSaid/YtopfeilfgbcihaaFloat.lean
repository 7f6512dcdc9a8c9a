/- Float operations as unconditional equations on the walk's runs. -/
import Derived.Test.YtopfeilfgbcihaaBase
import Derived.Test.YtopfeilfgbcihaaNum
namespace Go.Proofs.Ytopfeilfgbcihaa
open Go.RowKit

section
variable {P : Program} (w : World)
theorem run_farith (op : BinOp) (k : FloatKind) (x y : Nat) (hop : op = .add ∨ op = .sub ∨ op = .mul ∨ op = .quo) :
    (Op.floatArith op k x y).run P w = .ok (.float k (fval op k x y w)) (w.drewN (fN op k x y)) := by
  have h : ∀ o : Option Nat, (match o with
      | some r => (pure (.float k r) : Sem Value)
      | none => do pure (.float k (← choose (.nanBits k x y)))).run P w = .ok (.float k (o.getD (fpick (.nanBits k x y) w))) (w.drewN (fdraw o)) := by
    intro o
    cases o with
    | some r => simp [fdraw, World.drewN_zero]
    | none => (simp [fdraw, Question.forced, fpick]; rfl)
  rcases hop with rfl | rfl | rfl | rfl <;> exact h _

@[go_sem] theorem run_fadd (t : TypeId) (k : FloatKind) (x y : Nat) : (binOp .add t (.float k x) (.float k y)).run P w = .ok (.float k (fval .add k x y w)) (w.drewN (fN .add k x y)) := by
  simp [binOp, run_farith]
@[go_sem] theorem run_fsub (t : TypeId) (k : FloatKind) (x y : Nat) : (binOp .sub t (.float k x) (.float k y)).run P w = .ok (.float k (fval .sub k x y w)) (w.drewN (fN .sub k x y)) := by
  simp [binOp, run_farith]
@[go_sem] theorem run_fmul (t : TypeId) (k : FloatKind) (x y : Nat) : (binOp .mul t (.float k x) (.float k y)).run P w = .ok (.float k (fval .mul k x y w)) (w.drewN (fN .mul k x y)) := by
  simp [binOp, run_farith]
@[go_sem] theorem run_fquo (t : TypeId) (k : FloatKind) (x y : Nat) : (binOp .quo t (.float k x) (.float k y)).run P w = .ok (.float k (fval .quo k x y w)) (w.drewN (fN .quo k x y)) := by
  simp [binOp, run_farith]

theorem run_f2f (s : FloatKind) (b : Nat) (k : FloatKind) : (Conv.floatToFloat s b k).run P w = .ok (.float k (cval s b k w)) (w.drewN (cN s b k)) := by
  unfold Conv.floatToFloat cval cN floatToFloatBits
  by_cases h : s = k
  · subst h; simp [fdraw, World.drewN_zero]
  · simp only [h, if_false]
    cases hd : s.decode b with
    | nan s' t => (simp [fdraw, Question.forced, fpick]; rfl)
    | infinity s' => simp [fdraw, World.drewN_zero]
    | number s' m e =>
      simp only
      by_cases ho : (k.decode (k.encode (.number s' m e))).isInfinity = true
      · (simp [ho, fdraw, Question.forced, fpick]; rfl)
      · simp [ho, fdraw, World.drewN_zero]

@[go_sem] theorem run_cff (src dst : TypeId) (s k : FloatKind) (b : Nat) (hs : (P.underlying src).isSome = true) (hd : P.underlying dst = some (.float k)) :
    (convert src dst (.float s b)).run P w = .ok (.float k (cval s b k w)) (w.drewN (cN s b k)) := by
  obtain ⟨u, hs'⟩ := Option.isSome_iff_exists.1 hs
  cases u <;> simp [convert, run_underlying hs', run_underlying hd, run_f2f]

theorem run_f2i (s : FloatKind) (b : Nat) (k : IntKind) : (Conv.floatToInt s b k).run P w = .ok (.int k (ival s b k w)) (w.drewN (iN s b k)) := by
  unfold Conv.floatToInt ival iN floatToIntVal
  cases (s.decode b).toInt .zero with
  | none => (simp [Question.forced, fpick]; rfl)
  | some n =>
    by_cases h : k.min ≤ n ∧ n ≤ k.max
    · simp [h, World.drewN_zero]
    · (simp [h, Question.forced, fpick]; rfl)

@[go_sem] theorem run_cfi (src dst : TypeId) (s : FloatKind) (k : IntKind) (b : Nat) (hs : (P.underlying src).isSome = true) (hd : P.underlying dst = some (.int k)) :
    (convert src dst (.float s b)).run P w = .ok (.int k (ival s b k w)) (w.drewN (iN s b k)) := by
  obtain ⟨u, hs'⟩ := Option.isSome_iff_exists.1 hs
  cases u <;> simp [convert, run_underlying hs', run_underlying hd, run_f2i]

@[go_sem] theorem run_store_float (a : Addr) (k : FloatKind) (b : Nat) (m : Mode) : (store a (.float k b) m).run P w = stored P w a (.float k b) m := run_store P w a _ m rfl

theorem run_sqrt (x : Nat) : (Extern.MathSqrt.sqrt #[.float .f64 x]).run P w = .ok (.float .f64 (rval x w)) (w.drewN (rN x)) := by
  have h : ∀ o : Option Nat, (match o with
      | some r => (pure (.float .f64 r) : Sem Value)
      | none => do pure (.float .f64 (← choose (.nanBits .f64 x x)))).run P w = .ok (.float .f64 (o.getD (fpick (.nanBits .f64 x x) w))) (w.drewN (fdraw o)) := by
    intro o
    cases o with
    | some r => simp [fdraw, World.drewN_zero]
    | none => (simp [fdraw, Question.forced, fpick]; rfl)
  exact h _
end

/-! ### The functions of package math that have no body -/
attribute [go_sem] fin_walk ne_self

@[go_sem] theorem ext_f32bits (x : Nat) (w : World) : (callFunc 104 #[.float .f32 x]).run Try.prog w = .ok (.value (.int .u32 x)) w := by kernel_rfl
@[go_sem] theorem ext_f64bits (x : Nat) (w : World) : (callFunc 91 #[.float .f64 x]).run Try.prog w = .ok (.value (.int .u64 x)) w := by kernel_rfl
@[go_sem] theorem ext_f32from (x : Int) (w : World) : (callFunc 56 #[.int .u32 x]).run Try.prog w = .ok (.value (.float .f32 x.toNat)) w := by kernel_rfl
@[go_sem] theorem ext_f64from (x : Int) (w : World) : (callFunc 90 #[.int .u64 x]).run Try.prog w = .ok (.value (.float .f64 x.toNat)) w := by kernel_rfl

end Go.Proofs.Ytopfeilfgbcihaa
