/- The program's CountInBlock returns what the reference's returns, for all arguments: the law answers true at every input. -/
import Derived.Test.YtocelalollkadaaLFnExactCountInBlock
import Derived.Test.YtocelalollkadaaQ7
namespace Go.Proofs.Ytocelalollkadaa.Pure
open Go.RowKit Go.Proofs.Ytocelalollkadaa.Q Go.Proofs.YtocelalollkadaaW.PrintWords Go.Proofs.YtocelalollkadaaW.PrintLast
set_option linter.unusedVariables false

theorem FnExactCountInBlock : laws_FnExactCountInBlock.Pure := by
  intro a0 a1 l2 a3 wa0 wa1 hm hr hw wa3
  refine Ev.rounds ?_
  unfold laws_FnExactCountInBlock.f
  by_cases hbl2 : (l2.length : Int) > 1048576
  · exact Ev.if_pos hbl2 (Ev.now _)
  refine Ev.if_neg hbl2 ?_
  have hll2 : l2.length ≤ 1048576 := by omega
  obtain ⟨r, hs, hg⟩ := CountInBlock_ex a0 a1 l2 a3 hll2
  refine Ev.bind (toEv l2 hll2) ?_
  refine Ev.bind hs ?_
  refine Ev.bind (toEv l2 hll2) ?_
  refine Ev.bind hg ?_
  refine Ev.if_pos rfl ?_
  refine Ev.step (fun k => laws_FnExactCountInBlock.j0.eq_2 _ _ _ _)  ?_
  refine Ev.if_neg (by simp) ?_
  refine Ev.bind (toEv l2 hll2) ?_
  refine Ev.bind (eqEv l2 (by omega)) ?_
  refine Ev.if_pos rfl ?_
  exact Ev.now _

end Go.Proofs.Ytocelalollkadaa.Pure
