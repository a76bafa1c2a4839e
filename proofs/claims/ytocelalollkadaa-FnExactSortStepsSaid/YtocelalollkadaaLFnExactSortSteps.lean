/- Plain lemmas that the proof of FnExactSortSteps leans on. -/
import Derived.Test.YtocelalollkadaaQ0
import Derived.Test.YtocelalollkadaaQ1
namespace Go.Proofs.Ytocelalollkadaa.Q
open Go.RowKit Go.Proofs.YtocelalollkadaaW.PrintWords Go.Proofs.YtocelalollkadaaW.PrintLast Go.Proofs.YtocelalollkadaaW.PrintMore
set_option linter.unusedVariables false
set_option linter.unusedSimpArgs false

theorem lanes_eq (a : Int) : spec_l02Lanes.f a = some (lanesB a) := by
  unfold spec_l02Lanes.f lanesB
  by_cases h2 : a = 2
  · subst h2; rfl
  by_cases h4 : a = 4
  · subst h4; rfl
  by_cases h8 : a = 8
  · subst h8; rfl
  rw [_root_.if_neg h2, _root_.if_neg h4, _root_.if_neg h8, beq_eq_false_iff_ne.2 h2, beq_eq_false_iff_ne.2 h4, beq_eq_false_iff_ne.2 h8]
  rfl

end Go.Proofs.Ytocelalollkadaa.Q
