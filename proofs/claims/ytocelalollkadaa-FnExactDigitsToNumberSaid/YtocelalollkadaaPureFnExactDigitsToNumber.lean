/- The program's DigitsToNumber returns what the reference's returns, for all arguments: the law answers true at every input. -/
import Derived.Test.YtocelalollkadaaLFnExactDigitsToNumber
import Derived.Test.YtocelalollkadaaQ3
namespace Go.Proofs.Ytocelalollkadaa.Pure
open Go.RowKit Go.Proofs.Ytocelalollkadaa.Q Go.Proofs.YtocelalollkadaaW.PrintWords Go.Proofs.YtocelalollkadaaW.PrintLast
set_option linter.unusedVariables false

theorem FnExactDigitsToNumber : laws_FnExactDigitsToNumber.Pure := by
  intro l0 hm hr hw
  refine Ev.rounds ?_
  unfold laws_FnExactDigitsToNumber.f
  by_cases hbl0 : (l0.length : Int) > 1048576
  · exact Ev.if_pos hbl0 (Ev.now _)
  refine Ev.if_neg hbl0 ?_
  have hll0 : l0.length ≤ 1048576 := by omega
  obtain ⟨r, hs, hg⟩ := DigitsToNumber_ex l0 hll0
  refine Ev.bind (toEv l0 hll0) ?_
  refine Ev.bind hs ?_
  refine Ev.bind (toEv l0 hll0) ?_
  refine Ev.bind hg ?_
  refine Ev.if_pos rfl ?_
  refine Ev.step (fun k => laws_FnExactDigitsToNumber.j0.eq_2 _ _ _ _)  ?_
  refine Ev.if_neg (by simp) ?_
  refine Ev.bind (toEv l0 hll0) ?_
  refine Ev.bind (eqEv l0 (by omega)) ?_
  refine Ev.if_pos rfl ?_
  exact Ev.now _

end Go.Proofs.Ytocelalollkadaa.Pure
