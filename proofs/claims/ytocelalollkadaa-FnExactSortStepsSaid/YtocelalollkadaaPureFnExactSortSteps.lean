/- The law FnExactSortSteps answers true at every input, and leaves its arguments as they were. -/
import Derived.Test.YtocelalollkadaaLFnExactSortSteps
import Derived.Test.YtocelalollkadaaQ6
import Derived.KernelRfl
namespace Go.Proofs.Ytocelalollkadaa.Pure
open Go.RowKit Go.Proofs.Ytocelalollkadaa.Q Go.Proofs.YtocelalollkadaaW.PrintWords Go.Proofs.YtocelalollkadaaW.PrintLast Go.Proofs.YtocelalollkadaaW.PrintMore
set_option linter.unusedVariables false
set_option linter.unusedSimpArgs false

theorem FnExactSortSteps : laws_FnExactSortSteps.Pure := by
  intro a0 _
  by_cases h : lanesB a0 = true
  · rcases lanes_cases h with rfl | rfl | rfl | rfl
    · exact ⟨60, by kernel_rfl⟩
    · exact ⟨60, by kernel_rfl⟩
    · exact ⟨60, by kernel_rfl⟩
    · exact ⟨60, by kernel_rfl⟩
  · have hi : ∀ k, impl_SortSteps.f k a0 = some ([], false) := fun k => by
      unfold impl_SortSteps.f
      rw [show impl_isLanes.f a0 = some (lanesB a0) from rfl]
      simp only [Option.bind_some]
      rw [_root_.if_neg h]
    have hs : ∀ k, spec_SortSteps.f k a0 = some ([], false) := fun k => by
      unfold spec_SortSteps.f
      rw [lanes_eq]
      simp only [Option.bind_some]
      rw [_root_.if_neg h]
    refine ⟨8, ?_⟩
    unfold laws_FnExactSortSteps.f
    rw [hs, hi]
    simp only [Option.bind_some]
    rw [show laws_eqExchangeS.f 8 [] [] = some true by kernel_rfl]
    simp only [Option.bind_some, if_true]
    rw [laws_FnExactSortSteps.j0.eq_2]
    rw [_root_.if_neg (by decide), show laws_markExchangeS.f 7 [] 1 = some (1, []) by kernel_rfl]
    simp only [Option.bind_some]
    rw [show laws_heldExchangeS.f 7 [] 1 = some 1 by kernel_rfl]
    simp only [Option.bind_some]
    rw [_root_.if_neg (by decide), _root_.if_pos trivial, hi]
    simp only [Option.bind_some]
    rw [show laws_eqExchangeS.f 7 [] [] = some true by kernel_rfl]
    kernel_rfl

end Go.Proofs.Ytocelalollkadaa.Pure
