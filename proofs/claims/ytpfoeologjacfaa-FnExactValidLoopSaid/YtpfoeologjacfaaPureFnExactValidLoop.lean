/- The law FnExactValidLoop answers true at every input, and leaves its arguments as they were. -/
import Derived.Test.YtpfoeologjacfaaLFnExactValidLoop
import Derived.Test.YtpfoeologjacfaaQ2
import Derived.KernelRfl
namespace Go.Proofs.Ytpfoeologjacfaa.Pure
open Go.RowKit Go.Proofs.Ytpfoeologjacfaa.Q Go.Proofs.YtpfoeologjacfaaW.PrintWords Go.Proofs.YtpfoeologjacfaaW.PrintLast Go.Proofs.YtpfoeologjacfaaW.PrintMore
set_option linter.unusedVariables false
set_option linter.unusedSimpArgs false

theorem FnExactValidLoop : laws_FnExactValidLoop.Pure := by
  intro a0 a1 a2 a3 a4 a5 _ _ _ _ _ _
  refine ⟨1, ?_⟩
  unfold laws_FnExactValidLoop.f laws_toLoop.f spec_ValidLoop.f
  simp only [Option.bind_some]
  rw [show (1 : Nat) = 0 + 1 from rfl, loop_spec, loop_impl]
  simp

end Go.Proofs.Ytpfoeologjacfaa.Pure
