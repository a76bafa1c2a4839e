/- The law FnExactCanStrip answers true at every input, and leaves its arguments as they were. -/
import Derived.Test.YtpfoeologjacfaaLFnExactCanStrip
import Derived.Test.YtpfoeologjacfaaQ6
import Derived.KernelRfl
namespace Go.Proofs.Ytpfoeologjacfaa.Pure
open Go.RowKit Go.Proofs.Ytpfoeologjacfaa.Q Go.Proofs.YtpfoeologjacfaaW.PrintWords Go.Proofs.YtpfoeologjacfaaW.PrintLast Go.Proofs.YtpfoeologjacfaaW.PrintMore
set_option linter.unusedVariables false
set_option linter.unusedSimpArgs false

theorem machine_spec (a b : Int) : spec_l05Machine.f a b = some (lanesB a && bitsB b) := by
  unfold spec_l05Machine.f lanesB
  rw [bits_eq]
  simp only [Option.bind_some]
  by_cases h1 : a = 2
  · subst h1; simp
  · by_cases h2 : a = 4
    · subst h2; simp
    · by_cases h3 : a = 8
      · subst h3; simp
      · by_cases h4 : a = 16
        · subst h4; simp
        · simp [h1, h2, h3, h4]
theorem machine_impl (a b : Int) : impl_ValidMachine.f a b = some (lanesB a && bitsB b) := by
  unfold impl_ValidMachine.f
  rw [show impl_isLanes.f a = some (lanesB a) from rfl, show impl_isBits.f b = some (bitsB b) from rfl]
  simp only [Option.bind_some]
  cases lanesB a <;> simp
theorem CanStrip_spec (k : Nat) (n b a0 a1 a2 a3 a4 a5 x : Int) : spec_CanStrip.f (k + 1) n b a0 a1 a2 a3 a4 a5 x = some ((lanesB n && bitsB b) && (loopB a0 a1 a2 a3 a4 a5 && canB n a0 a1 a2 a3 a4 a5 x)) := by
  unfold spec_CanStrip.f
  rw [machine_spec, loop_spec]
  simp only [Option.bind_some]
  by_cases h1 : (lanesB n && bitsB b) = true
  · rw [_root_.if_pos h1]
    by_cases h2 : loopB a0 a1 a2 a3 a4 a5 = true
    · rw [_root_.if_pos h2, can_spec k n a0 a1 a2 a3 a4 a5 x h2, h1, h2]; rfl
    · rw [_root_.if_neg h2]; simp [h2]
  · rw [_root_.if_neg h1]; simp [h1]
theorem CanStrip_impl (k : Nat) (n b a0 a1 a2 a3 a4 a5 x : Int) : impl_CanStrip.f (k + 3) n b a0 a1 a2 a3 a4 a5 x = some ((lanesB n && bitsB b) && (loopB a0 a1 a2 a3 a4 a5 && canB n a0 a1 a2 a3 a4 a5 x)) := by
  by_cases h1 : (lanesB n && bitsB b) = true
  · by_cases h2 : loopB a0 a1 a2 a3 a4 a5 = true
    · rw [can_impl k n b a0 a1 a2 a3 a4 a5 x h1 h2, h1, h2]; rfl
    · unfold impl_CanStrip.f
      rw [machine_impl, h1, show k + 3 = (k + 2) + 1 from rfl, loop_impl]
      simp [impl_CanStrip.j0, h2]
  · unfold impl_CanStrip.f
    rw [machine_impl, show k + 3 = (k + 2) + 1 from rfl]
    simp only [Option.bind_some]
    rw [_root_.if_neg h1]
    simp [impl_CanStrip.j0, h1]
theorem FnExactCanStrip : laws_FnExactCanStrip.Pure := by
  intro n b a0 a1 a2 a3 a4 a5 x _ _ _ _ _ _ _ _ _
  refine ⟨3, ?_⟩
  unfold laws_FnExactCanStrip.f laws_toLoop.f laws_toMachine.f
  simp only [Option.bind_some]
  rw [show (3 : Nat) = 0 + 3 from rfl, CanStrip_impl, show 0 + 3 = 2 + 1 from rfl, CanStrip_spec]
  simp

end Go.Proofs.Ytpfoeologjacfaa.Pure
