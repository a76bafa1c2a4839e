/- The program's StripCost returns what the reference's returns, for all arguments: the law answers true at every input. -/
import Derived.Test.YtpfoeologjacfaaLFnExactStripCost
import Derived.Test.YtpfoeologjacfaaV17
import Derived.KernelRfl
namespace Go.Proofs.Ytpfoeologjacfaa.Pure
open Go.RowKit Go.Proofs.Ytpfoeologjacfaa.V Go.Proofs.YtpfoeologjacfaaW.PrintWords Go.Proofs.YtpfoeologjacfaaW.PrintLast Go.Proofs.YtpfoeologjacfaaW.PrintMore
set_option linter.unusedVariables false
set_option linter.unusedSimpArgs false

theorem FnExactStripCost : laws_FnExactStripCost.Pure := by
  intro n b a0 a1 a2 a3 a4 a5 x _ _ _ _ _ _ _ _ _
  obtain ⟨r, hs, hg⟩ := StripCost_ex n b a0 a1 a2 a3 a4 a5 x
  refine Ev.rounds ?_
  unfold laws_FnExactStripCost.f
  exact Ev.bind' rfl (Ev.bind' rfl (Ev.bind hs (Ev.bind' rfl (Ev.bind' rfl (Ev.bind hg (Ev.if_pos rfl (Ev.if_neg (by simp) (Ev.now _))))))))

end Go.Proofs.Ytpfoeologjacfaa.Pure
