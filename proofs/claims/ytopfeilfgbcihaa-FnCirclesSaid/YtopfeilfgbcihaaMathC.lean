/- The runs of package math's functions without a body. -/
import Derived.Test.YtopfeilfgbcihaaFloatC
namespace Go.Proofs.Ytopfeilfgbcihaa
open Go.RowKit
@[go_sem] theorem ext_sqrt (x : Nat) (w : World) : (callFunc 94 #[.float .f64 x]).run Try.prog w = .ok (.value (.float .f64 (rval x w))) (w.drewN (rN x)) := by
  have h := run_callFunc_extern (P := Try.prog) (f := 94) (e := Extern.MathSqrt.sqrt) (by kernel_rfl : Try.prog.funcs[94]? = some Try.f94) (by kernel_rfl) (by kernel_rfl) (by kernel_rfl) (by kernel_rfl) #[.float .f64 x] w
  rw [h, run_sqrt]; rfl
end Go.Proofs.Ytopfeilfgbcihaa
