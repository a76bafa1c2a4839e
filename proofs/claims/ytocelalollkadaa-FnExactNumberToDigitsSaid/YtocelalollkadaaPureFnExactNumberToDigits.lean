/- The program's NumberToDigits returns what the reference's returns, for all arguments: the law answers true at every input. -/
import Derived.Test.YtocelalollkadaaLFnExactNumberToDigits
import Derived.Test.YtocelalollkadaaQ2
namespace Go.Proofs.Ytocelalollkadaa.Pure
open Go.RowKit Go.Proofs.Ytocelalollkadaa.Q Go.Proofs.YtocelalollkadaaW.PrintWords Go.Proofs.YtocelalollkadaaW.PrintLast
set_option linter.unusedVariables false

theorem FnExactNumberToDigits : laws_FnExactNumberToDigits.Pure := by
  intro a0 a1 wa0 wa1
  refine Ev.rounds ?_
  unfold laws_FnExactNumberToDigits.f
  obtain ⟨r, hlen, hs, hg⟩ := NumberToDigits_ex a0 a1
  refine Ev.bind hs ?_
  refine Ev.bind hg ?_
  refine Ev.bind (eqEv r.1 hlen) ?_
  refine Ev.if_pos rfl ?_
  refine Ev.step (fun k => laws_FnExactNumberToDigits.j0.eq_2 _ _ _ _ _ _ _)  ?_
  refine Ev.if_neg (by simp) ?_
  refine Ev.bind (markEv r.1 1 (by omega) (by omega) (by omega)) ?_
  refine Ev.bind (heldEv r.1.length 1 (by omega) (by omega) (by omega)) ?_
  refine Ev.if_neg (by show ¬ (1 + (r.1.length : Int) < 0); omega) ?_
  refine Ev.if_pos rfl ?_
  refine Ev.bind hg ?_
  refine Ev.bind (eqEv r.1 hlen) ?_
  refine Ev.if_pos rfl ?_
  refine Ev.step (fun k => laws_FnExactNumberToDigits.j1.eq_2 _ _ _ _)  ?_
  refine Ev.if_neg (by simp) ?_
  refine Ev.bind (heldEv r.1.length 1 (by omega) (by omega) (by omega)) ?_
  refine Ev.if_neg (by show ¬ (1 + (r.1.length : Int) < 0); omega) ?_
  refine Ev.if_pos rfl ?_
  exact Ev.now _

end Go.Proofs.Ytocelalollkadaa.Pure
