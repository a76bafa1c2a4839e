/- The program's ValidLines returns what the reference's returns, for all arguments: the law answers true at every input. -/
import Derived.Test.YtheemkehedmlfaaLFnExactValidLines
import Derived.Test.YtheemkehedmlfaaY9
import Derived.KernelRfl
namespace Go.Proofs.Ytheemkehedmlfaa.Pure
open Go.RowKit Go.Proofs.Ytheemkehedmlfaa.Y Go.Proofs.YtheemkehedmlfaaW.PrintWords Go.Proofs.YtheemkehedmlfaaW.PrintLast Go.Proofs.YtheemkehedmlfaaW.PrintMore
set_option linter.unusedVariables false
set_option linter.unusedSimpArgs false

theorem FnExactValidLines : laws_FnExactValidLines.Pure := by
  intro b l _ hl
  have hm : l.length ≤ maxLen := hl.1
  have hm' : maxLen ≤ 9223372036854775807 := by decide
  refine Ev.rounds ?_
  unfold laws_FnExactValidLines.f
  by_cases hs : l.length ≤ 1048576
  · have hw : laws_szLineS.f l 1048576 = some (1048576 - (l.length : Int)) := by
      unfold laws_szLineS.f
      rw [w64 (by omega) (by omega), _root_.if_neg (by omega)]
    obtain ⟨ok, o, o', h1, h2, _⟩ := Is_ex b (l.map lnOf)
    exact Ev.bind' hw (Ev.if_neg (by omega) (Ev.bind (toLineS_ex l hs) (Ev.bind (Ev.bind h1 (Ev.now _)) (Ev.bind (toLineS_ex l hs) (Ev.bind h2 (Ev.if_neg (by simp) (Ev.bind (toLineS_ex l hs) (Ev.bind (eqLineS_refl _ (by simpa using hs)) (Ev.if_pos rfl (Ev.now _))))))))))
  · have hw : laws_szLineS.f l 1048576 = some (-1) := by
      unfold laws_szLineS.f
      rw [w64 (by omega) (by omega), _root_.if_pos (by omega)]
    exact Ev.bind' hw (Ev.if_pos (by omega) (Ev.now _))

end Go.Proofs.Ytheemkehedmlfaa.Pure
