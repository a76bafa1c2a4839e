/- The program's RunLoop returns what the reference's returns, for all arguments: the law answers true at every input. -/
import Derived.Test.YtpfoeologjacfaaLFnExactRunLoop
import Derived.Test.YtpfoeologjacfaaG8
namespace Go.Proofs.Ytpfoeologjacfaa.Pure
open Go.RowKit Go.Proofs.Ytpfoeologjacfaa.G Go.Proofs.YtpfoeologjacfaaW.PrintWords Go.Proofs.YtpfoeologjacfaaW.PrintLast
set_option linter.unusedVariables false

theorem FnExactRunLoop : laws_FnExactRunLoop.Pure := by
  intro a0_0 a0_1 a1_0 a1_1 a1_2 a1_3 a1_4 a1_5 l2 wa0_0 wa0_1 wa1_0 wa1_1 wa1_2 wa1_3 wa1_4 wa1_5 hm hr hw
  refine Ev.rounds ?_
  unfold laws_FnExactRunLoop.f
  by_cases hbl2 : (l2.length : Int) > 1048576
  · exact Ev.if_pos hbl2 (Ev.now _)
  refine Ev.if_neg hbl2 ?_
  have hll2 : l2.length ≤ 1048576 := by omega
  obtain ⟨r, hlen, hs, hg⟩ := RunLoop_ex a0_0 a0_1 a1_0 a1_1 a1_2 a1_3 a1_4 a1_5 l2 hll2
  refine Ev.bind' rfl ?_
  refine Ev.bind' rfl ?_
  refine Ev.bind (toEv l2 hll2) ?_
  refine Ev.bind hs ?_
  refine Ev.bind (toEv l2 hll2) ?_
  refine Ev.bind' rfl ?_
  refine Ev.bind' rfl ?_
  refine Ev.bind hg ?_
  refine Ev.bind (eqEv r.1 hlen) ?_
  refine Ev.if_pos rfl ?_
  refine Ev.step (fun k => laws_FnExactRunLoop.j0.eq_2 _ _ _ _ _ _ _ _ _ _ _ _ _ _ _ _)  ?_
  refine Ev.if_neg (by simp) ?_
  refine Ev.bind (toEv l2 hll2) ?_
  refine Ev.bind (eqEv l2 (by omega)) ?_
  refine Ev.if_pos rfl ?_
  refine Ev.bind (markEv l2 1 (by omega) (by omega) (by omega)) ?_
  refine Ev.if_neg (by show ¬ (1 + (l2.length : Int) < 0); omega) ?_
  refine Ev.bind (eqEv r.1 hlen) ?_
  refine Ev.if_pos rfl ?_
  refine Ev.step (fun k => laws_FnExactRunLoop.j1.eq_2 _ _ _ _ _ _ _ _ _ _ _ _ _ _)  ?_
  refine Ev.if_neg (by simp) ?_
  refine Ev.bind (markEv r.1 1 (by omega) (by omega) (by omega)) ?_
  refine Ev.bind (heldEv r.1.length 1 (by omega) (by omega) (by omega)) ?_
  refine Ev.if_neg (by show ¬ (1 + (r.1.length : Int) < 0); omega) ?_
  refine Ev.if_pos rfl ?_
  refine Ev.bind' rfl ?_
  refine Ev.bind' rfl ?_
  refine Ev.bind (toEv l2 hll2) ?_
  refine Ev.bind hg ?_
  refine Ev.bind (eqEv r.1 hlen) ?_
  refine Ev.if_pos rfl ?_
  refine Ev.step (fun k => laws_FnExactRunLoop.j2.eq_2 _ _ _ _)  ?_
  refine Ev.if_neg (by simp) ?_
  refine Ev.bind (heldEv r.1.length 1 (by omega) (by omega) (by omega)) ?_
  refine Ev.if_neg (by show ¬ (1 + (r.1.length : Int) < 0); omega) ?_
  refine Ev.if_pos rfl ?_
  exact Ev.now _

end Go.Proofs.Ytpfoeologjacfaa.Pure
