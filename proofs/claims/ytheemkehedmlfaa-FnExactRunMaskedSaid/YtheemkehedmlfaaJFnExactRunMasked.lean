/- The facts that tie the row of FnExactRunMasked to the program, each for itself: in one go they outgrow the lid of memory. -/
import Derived.Test.YtheemkehedmlfaaRows
import Derived.WalkKit
import Derived.ProofKit
import Derived.KernelRfl
namespace Go.Proofs.Ytheemkehedmlfaa.fnExactRunMaskedJ
theorem and2 {a b : Bool} (h : a = true) (h' : b = true) : (a && b) = true := by rw [h, h']; rfl
set_option maxHeartbeats 8000000 in
theorem joined : joinedFacts Try.prog 12 Try.f12 Rows.fnExactRunMaskedSpec Rows.fnExactRunMaskedRow = true := by
  unfold joinedFacts
  repeat' with_reducible refine and2 ?_ ?_
  all_goals (as_aux_lemma => kernel_rfl)
end Go.Proofs.Ytheemkehedmlfaa.fnExactRunMaskedJ
