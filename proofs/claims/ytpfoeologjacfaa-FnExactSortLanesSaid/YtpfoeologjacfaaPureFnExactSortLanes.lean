/- The program's SortLanes returns what the reference's returns, for all arguments: the law answers true at every input. -/
import Derived.Test.YtpfoeologjacfaaLFnExactSortLanes
import Derived.Test.YtpfoeologjacfaaE9
namespace Go.Proofs.Ytpfoeologjacfaa.Pure
open Go.RowKit Go.Proofs.Ytpfoeologjacfaa.E Go.Proofs.YtpfoeologjacfaaW.PrintWords Go.Proofs.YtpfoeologjacfaaW.PrintLast
set_option linter.unusedVariables false

theorem FnExactSortLanes : laws_FnExactSortLanes.Pure := by
  intro a0 l1 wa0 hm hr hw
  refine Ev.rounds ?_
  unfold laws_FnExactSortLanes.f
  by_cases hbl1 : (l1.length : Int) > 1048576
  · exact Ev.if_pos hbl1 (Ev.now _)
  refine Ev.if_neg hbl1 ?_
  have hll1 : l1.length ≤ 1048576 := by omega
  obtain ⟨r, hlen, hs, hg⟩ := SortLanes_ex a0 l1 hll1
  refine Ev.bind (toEv l1 hll1) ?_
  refine Ev.bind hs ?_
  refine Ev.bind (toEv l1 hll1) ?_
  refine Ev.bind hg ?_
  refine Ev.bind (eqEv r.1 hlen) ?_
  refine Ev.if_pos rfl ?_
  refine Ev.step (fun k => laws_FnExactSortLanes.j0.eq_2 _ _ _ _ _ _ _ _ _)  ?_
  refine Ev.if_neg (by simp) ?_
  refine Ev.bind (toEv l1 hll1) ?_
  refine Ev.bind (eqEv l1 (by omega)) ?_
  refine Ev.if_pos rfl ?_
  refine Ev.bind (markEv l1 1 (by omega) (by omega) (by omega)) ?_
  refine Ev.if_neg (by show ¬ (1 + (l1.length : Int) < 0); omega) ?_
  refine Ev.bind (eqEv r.1 hlen) ?_
  refine Ev.if_pos rfl ?_
  refine Ev.step (fun k => laws_FnExactSortLanes.j1.eq_2 _ _ _ _ _ _ _)  ?_
  refine Ev.if_neg (by simp) ?_
  refine Ev.bind (markEv r.1 1 (by omega) (by omega) (by omega)) ?_
  refine Ev.bind (heldEv r.1.length 1 (by omega) (by omega) (by omega)) ?_
  refine Ev.if_neg (by show ¬ (1 + (r.1.length : Int) < 0); omega) ?_
  refine Ev.if_pos rfl ?_
  refine Ev.bind (toEv l1 hll1) ?_
  refine Ev.bind hg ?_
  refine Ev.bind (eqEv r.1 hlen) ?_
  refine Ev.if_pos rfl ?_
  refine Ev.step (fun k => laws_FnExactSortLanes.j2.eq_2 _ _ _ _)  ?_
  refine Ev.if_neg (by simp) ?_
  refine Ev.bind (heldEv r.1.length 1 (by omega) (by omega) (by omega)) ?_
  refine Ev.if_neg (by show ¬ (1 + (r.1.length : Int) < 0); omega) ?_
  refine Ev.if_pos rfl ?_
  exact Ev.now _

end Go.Proofs.Ytpfoeologjacfaa.Pure
