/- The program's StripCode returns what the reference's returns, for all arguments: the law answers true at every input. -/
import Derived.Test.YtpfoeologjacfaaLFnExactStripCode
import Derived.Test.YtpfoeologjacfaaU14
import Derived.KernelRfl
namespace Go.Proofs.Ytpfoeologjacfaa.Pure
open Go.RowKit Go.Proofs.Ytpfoeologjacfaa.U Go.Proofs.YtpfoeologjacfaaW.PrintWords Go.Proofs.YtpfoeologjacfaaW.PrintLast Go.Proofs.YtpfoeologjacfaaW.PrintMore
set_option linter.unusedVariables false
set_option linter.unusedSimpArgs false

theorem FnExactStripCode : laws_FnExactStripCode.Pure := by
  intro n b a0 a1 a2 a3 a4 a5 x _ _ _ _ _ _ _ _ _
  refine Ev.rounds ?_
  unfold laws_FnExactStripCode.f
  obtain ⟨r, hl, hs, hg⟩ := StripCode_ex n b a0 a1 a2 a3 a4 a5 x
  refine Ev.bind' rfl (Ev.bind' rfl (Ev.bind hs (Ev.bind' rfl (Ev.bind' rfl (Ev.bind hg (Ev.bind (eqI r.1 (by omega)) (Ev.if_pos rfl ?_)))))))
  refine Ev.step (fun k => laws_FnExactStripCode.j0.eq_2 _ _ _ _ _ _ _ _ _ _ _ _ _ _) (Ev.if_neg (by simp) ?_)
  refine Ev.bind (markI_ev r.1 1 (by omega) (by omega) (by omega)) (Ev.bind (heldI_ev (tabsI r.1) r.1.length 1 (by omega) (by omega) (by omega)) (Ev.if_neg (by show ¬ (1 + 6 * (r.1.length : Int) < 0); omega) (Ev.if_pos rfl ?_)))
  refine Ev.bind' rfl (Ev.bind' rfl (Ev.bind hg (Ev.bind (eqI r.1 (by omega)) (Ev.if_pos rfl ?_))))
  refine Ev.step (fun k => laws_FnExactStripCode.j1.eq_2 _ _ _ _) (Ev.if_neg (by simp) ?_)
  exact Ev.bind (heldI_ev (tabsI r.1) r.1.length 1 (by omega) (by omega) (by omega)) (Ev.if_neg (by show ¬ (1 + 6 * (r.1.length : Int) < 0); omega) (Ev.if_pos rfl (Ev.now _)))

end Go.Proofs.Ytpfoeologjacfaa.Pure
