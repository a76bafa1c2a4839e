/- The law FnExactMostLanes answers true at every input, and leaves its arguments as they were. -/
import Derived.Test.YtpfoeologjacfaaLFnExactMostLanes
import Derived.Test.YtpfoeologjacfaaQ7
import Derived.KernelRfl
namespace Go.Proofs.Ytpfoeologjacfaa.Pure
open Go.RowKit Go.Proofs.Ytpfoeologjacfaa.Q Go.Proofs.YtpfoeologjacfaaW.PrintWords Go.Proofs.YtpfoeologjacfaaW.PrintLast Go.Proofs.YtpfoeologjacfaaW.PrintMore
set_option linter.unusedVariables false
set_option linter.unusedSimpArgs false

theorem CanStrip_most (k : Nat) (n a0 a1 a2 a3 a4 a5 : Int) (hn : lanesB n = true) : impl_CanStrip.f (k + 3) n 8 a0 a1 a2 a3 a4 a5 0 = some (loopB a0 a1 a2 a3 a4 a5 && canB n a0 a1 a2 a3 a4 a5 0) := by
  have h1 : (lanesB n && bitsB 8) = true := by rw [hn]; decide
  by_cases h2 : loopB a0 a1 a2 a3 a4 a5 = true
  · rw [can_impl k n 8 a0 a1 a2 a3 a4 a5 0 h1 h2, h2]; rfl
  · have hm : impl_ValidMachine.f n 8 = some true := by
      unfold impl_ValidMachine.f
      rw [show impl_isLanes.f n = some (lanesB n) from rfl, show impl_isBits.f 8 = some (bitsB 8) from rfl, hn]; decide
    unfold impl_CanStrip.f
    rw [hm, show k + 3 = (k + 2) + 1 from rfl, loop_impl]
    simp [impl_CanStrip.j0, h2]
theorem FnExactMostLanes : laws_FnExactMostLanes.Pure := by
  intro a0 a1 a2 a3 a4 a5 _ _ _ _ _ _
  refine ⟨8, ?_⟩
  unfold laws_FnExactMostLanes.f laws_toLoop.f spec_MostLanes.f impl_MostLanes.f
  simp only [Option.bind_some]
  have q1 : wrap64 (Int.tdiv 16 2) = 8 := by kernel_rfl
  have q2 : wrap64 (Int.tdiv 8 2) = 4 := by kernel_rfl
  have q3 : wrap64 (Int.tdiv 4 2) = 2 := by kernel_rfl
  have q4 : wrap64 (Int.tdiv 2 2) = 1 := by kernel_rfl
  rw [show (8 : Nat) = 7 + 1 from rfl, loop_spec]
  simp only [Option.bind_some, spec_MostLanes.l0, impl_MostLanes.l0, q1, q2, q3, q4]
  rw [show (7 : Nat) = 4 + 3 from rfl, CanStrip_most _ 16 _ _ _ _ _ _ (by decide), show (6 : Nat) = 3 + 3 from rfl, CanStrip_most _ 8 _ _ _ _ _ _ (by decide), show (5 : Nat) = 2 + 3 from rfl, CanStrip_most _ 4 _ _ _ _ _ _ (by decide), show (4 : Nat) = 1 + 3 from rfl, CanStrip_most _ 2 _ _ _ _ _ _ (by decide)]
  by_cases h : loopB a0 a1 a2 a3 a4 a5 = true
  · rw [show (1 + 3 : Nat) = 3 + 1 from rfl, show (2 + 3 : Nat) = 4 + 1 from rfl, show (3 + 3 : Nat) = 5 + 1 from rfl, show (4 + 3 : Nat) = 6 + 1 from rfl, can_spec _ 16 _ _ _ _ _ _ _ h, can_spec _ 8 _ _ _ _ _ _ _ h, can_spec _ 4 _ _ _ _ _ _ _ h, can_spec _ 2 _ _ _ _ _ _ _ h, h]
    cases canB 16 a0 a1 a2 a3 a4 a5 0 <;> cases canB 8 a0 a1 a2 a3 a4 a5 0 <;> cases canB 4 a0 a1 a2 a3 a4 a5 0 <;> cases canB 2 a0 a1 a2 a3 a4 a5 0 <;> simp
  · simp [h]

end Go.Proofs.Ytpfoeologjacfaa.Pure
