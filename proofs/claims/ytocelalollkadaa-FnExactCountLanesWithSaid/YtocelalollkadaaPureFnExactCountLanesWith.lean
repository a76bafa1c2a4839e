/- The program's CountLanesWith returns what the reference's returns, for all arguments: the law answers true at every input. -/
import Derived.Test.YtocelalollkadaaLFnExactCountLanesWith
import Derived.Test.YtocelalollkadaaC4
namespace Go.Proofs.Ytocelalollkadaa.Pure
open Go.RowKit Go.Proofs.Ytocelalollkadaa.C Go.Proofs.YtocelalollkadaaW.PrintWords Go.Proofs.YtocelalollkadaaW.PrintLast
set_option linter.unusedVariables false

theorem FnExactCountLanesWith : laws_FnExactCountLanesWith.Pure := by
  intro l0 a1 hm hr hw wa1
  refine Ev.rounds ?_
  unfold laws_FnExactCountLanesWith.f
  by_cases hbl0 : (l0.length : Int) > 1048576
  · exact Ev.if_pos hbl0 (Ev.now _)
  refine Ev.if_neg hbl0 ?_
  have hll0 : l0.length ≤ 1048576 := by omega
  obtain ⟨r, hlen, hs, hg⟩ := CountLanesWith_ex l0 a1 hll0
  refine Ev.bind (toEv l0 hll0) ?_
  refine Ev.bind hs ?_
  refine Ev.bind (toEv l0 hll0) ?_
  refine Ev.bind hg ?_
  refine Ev.bind (eqEv r.1 hlen) ?_
  refine Ev.if_pos rfl ?_
  refine Ev.if_pos rfl ?_
  refine Ev.step (fun k => laws_FnExactCountLanesWith.j0.eq_2 _ _ _ _ _ _ _ _ _ _ _)  ?_
  refine Ev.if_neg (by simp) ?_
  refine Ev.bind (toEv l0 hll0) ?_
  refine Ev.bind (eqEv l0 (by omega)) ?_
  refine Ev.if_pos rfl ?_
  refine Ev.bind (markEv l0 1 (by omega) (by omega) (by omega)) ?_
  refine Ev.if_neg (by show ¬ (1 + (l0.length : Int) < 0); omega) ?_
  refine Ev.bind (eqEv r.1 hlen) ?_
  refine Ev.if_pos rfl ?_
  refine Ev.if_pos rfl ?_
  refine Ev.step (fun k => laws_FnExactCountLanesWith.j1.eq_2 _ _ _ _ _ _ _ _)  ?_
  refine Ev.if_neg (by simp) ?_
  refine Ev.bind (markEv r.1 1 (by omega) (by omega) (by omega)) ?_
  refine Ev.bind (heldEv r.1.length 1 (by omega) (by omega) (by omega)) ?_
  refine Ev.if_neg (by show ¬ (1 + (r.1.length : Int) < 0); omega) ?_
  refine Ev.if_pos rfl ?_
  refine Ev.bind (toEv l0 hll0) ?_
  refine Ev.bind hg ?_
  refine Ev.bind (eqEv r.1 hlen) ?_
  refine Ev.if_pos rfl ?_
  refine Ev.if_pos rfl ?_
  refine Ev.step (fun k => laws_FnExactCountLanesWith.j2.eq_2 _ _ _ _)  ?_
  refine Ev.if_neg (by simp) ?_
  refine Ev.bind (heldEv r.1.length 1 (by omega) (by omega) (by omega)) ?_
  refine Ev.if_neg (by show ¬ (1 + (r.1.length : Int) < 0); omega) ?_
  refine Ev.if_pos rfl ?_
  exact Ev.now _

end Go.Proofs.Ytocelalollkadaa.Pure
