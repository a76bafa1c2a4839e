/- The program's ExchangeLanes returns what the reference's returns, for all arguments: the law answers true at every input. -/
import Derived.Test.YtpfoeologjacfaaLFnExactExchangeLanes
import Derived.Test.YtpfoeologjacfaaE6
namespace Go.Proofs.Ytpfoeologjacfaa.Pure
open Go.RowKit Go.Proofs.Ytpfoeologjacfaa.E Go.Proofs.YtpfoeologjacfaaW.PrintWords Go.Proofs.YtpfoeologjacfaaW.PrintLast
set_option linter.unusedVariables false

theorem FnExactExchangeLanes : laws_FnExactExchangeLanes.Pure := by
  intro a0 a1_0 a1_1 l2 wa0 wa1_0 wa1_1 hm hr hw
  refine Ev.rounds ?_
  unfold laws_FnExactExchangeLanes.f
  by_cases hbl2 : (l2.length : Int) > 1048576
  · exact Ev.if_pos hbl2 (Ev.now _)
  refine Ev.if_neg hbl2 ?_
  have hll2 : l2.length ≤ 1048576 := by omega
  obtain ⟨r, hlen, hs, hg⟩ := ExchangeLanes_ex a0 a1_0 a1_1 l2 hll2
  refine Ev.bind' rfl ?_
  refine Ev.bind (toEv l2 hll2) ?_
  refine Ev.bind hs ?_
  refine Ev.bind (toEv l2 hll2) ?_
  refine Ev.bind' rfl ?_
  refine Ev.bind hg ?_
  refine Ev.bind (eqEv r.1 hlen) ?_
  refine Ev.if_pos rfl ?_
  refine Ev.step (fun k => laws_FnExactExchangeLanes.j0.eq_2 _ _ _ _ _ _ _ _ _ _ _)  ?_
  refine Ev.if_neg (by simp) ?_
  refine Ev.bind (toEv l2 hll2) ?_
  refine Ev.bind (eqEv l2 (by omega)) ?_
  refine Ev.if_pos rfl ?_
  refine Ev.bind (markEv l2 1 (by omega) (by omega) (by omega)) ?_
  refine Ev.if_neg (by show ¬ (1 + (l2.length : Int) < 0); omega) ?_
  refine Ev.bind (eqEv r.1 hlen) ?_
  refine Ev.if_pos rfl ?_
  refine Ev.step (fun k => laws_FnExactExchangeLanes.j1.eq_2 _ _ _ _ _ _ _ _ _)  ?_
  refine Ev.if_neg (by simp) ?_
  refine Ev.bind (markEv r.1 1 (by omega) (by omega) (by omega)) ?_
  refine Ev.bind (heldEv r.1.length 1 (by omega) (by omega) (by omega)) ?_
  refine Ev.if_neg (by show ¬ (1 + (r.1.length : Int) < 0); omega) ?_
  refine Ev.if_pos rfl ?_
  refine Ev.bind' rfl ?_
  refine Ev.bind (toEv l2 hll2) ?_
  refine Ev.bind hg ?_
  refine Ev.bind (eqEv r.1 hlen) ?_
  refine Ev.if_pos rfl ?_
  refine Ev.step (fun k => laws_FnExactExchangeLanes.j2.eq_2 _ _ _ _)  ?_
  refine Ev.if_neg (by simp) ?_
  refine Ev.bind (heldEv r.1.length 1 (by omega) (by omega) (by omega)) ?_
  refine Ev.if_neg (by show ¬ (1 + (r.1.length : Int) < 0); omega) ?_
  refine Ev.if_pos rfl ?_
  exact Ev.now _

end Go.Proofs.Ytpfoeologjacfaa.Pure
