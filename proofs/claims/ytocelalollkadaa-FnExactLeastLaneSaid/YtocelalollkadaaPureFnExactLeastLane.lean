/- The program's LeastLane returns what the reference's returns, for all arguments: the law answers true at every input. -/
import Derived.Test.YtocelalollkadaaLFnExactLeastLane
import Derived.Test.YtocelalollkadaaQ11
namespace Go.Proofs.Ytocelalollkadaa.Pure
open Go.RowKit Go.Proofs.Ytocelalollkadaa.Q Go.Proofs.YtocelalollkadaaW.PrintWords Go.Proofs.YtocelalollkadaaW.PrintLast
set_option linter.unusedVariables false

theorem FnExactLeastLane : laws_FnExactLeastLane.Pure := by
  intro a0 l1 wa0 hm hr hw
  refine Ev.rounds ?_
  unfold laws_FnExactLeastLane.f
  by_cases hbl1 : (l1.length : Int) > 1048576
  · exact Ev.if_pos hbl1 (Ev.now _)
  refine Ev.if_neg hbl1 ?_
  have hll1 : l1.length ≤ 1048576 := by omega
  obtain ⟨r, hs, hg⟩ := LeastLane_ex a0 l1 hll1
  refine Ev.bind (toEv l1 hll1) ?_
  refine Ev.bind hs ?_
  refine Ev.bind (toEv l1 hll1) ?_
  refine Ev.bind hg ?_
  refine Ev.if_pos rfl ?_
  refine Ev.step (fun k => laws_FnExactLeastLane.j0.eq_2 _ _ _ _)  ?_
  refine Ev.if_neg (by simp) ?_
  refine Ev.bind (toEv l1 hll1) ?_
  refine Ev.bind (eqEv l1 (by omega)) ?_
  refine Ev.if_pos rfl ?_
  exact Ev.now _

end Go.Proofs.Ytocelalollkadaa.Pure
