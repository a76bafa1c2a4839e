/- Plain lemmas that the proof of FnExactValidLoop leans on. -/
import Derived.Test.YtpfoeologjacfaaQ0
import Derived.Test.YtpfoeologjacfaaQ1
import Derived.Test.YtpfoeologjacfaaQ2
namespace Go.Proofs.Ytpfoeologjacfaa.Q
open Go.RowKit Go.Proofs.YtpfoeologjacfaaW.PrintWords Go.Proofs.YtpfoeologjacfaaW.PrintLast Go.Proofs.YtpfoeologjacfaaW.PrintMore
set_option linter.unusedVariables false
set_option linter.unusedSimpArgs false

theorem w64 {x : Int} (h0 : -9223372036854775808 ≤ x) (h1 : x ≤ 9223372036854775807) : wrap64 x = x := by unfold wrap64; omega
theorem rd_at (l : List Int) (j : Nat) (h : j < l.length) : rd l (j : Int) = l[j] := by
  unfold rd
  rw [Int.toNat_natCast]; simp [List.getD_eq_getElem?_getD, h]

theorem in_eq (a b c : Int) : spec_l00In.f a b c = some (inB a b c) := by
  unfold spec_l00In.f inB
  by_cases h : b ≤ a
  · rw [_root_.if_pos h]; simp [h]
  · rw [_root_.if_neg (by omega)]; simp [h]

def fitB (a n : Int) : Bool := inB a 0 63 && decide (a + n ≤ 64)
def loopB (a0 a1 a2 a3 a4 a5 : Int) : Bool :=
  inB a1 0 17 && (inB a5 0 24 && (fitB a3 a5 && (if a0 = 1 then (a4 == 0 && fitB a2 0) else if a0 = 0 then (fitB a4 a5 && fitB a2 a5) else false)))
theorem in_iff {n a b : Int} : inB n a b = true ↔ a ≤ n ∧ n ≤ b := by simp [inB]
theorem within_eq' (a b c : Int) : impl_within.f a b c = some (inB a b c) := rfl
theorem fit_spec (a n : Int) (h0 : 0 ≤ n) (h1 : n ≤ 24) : spec_l09Fits.f a n = some (fitB a n) := by
  unfold spec_l09Fits.f spec_l00Max.f
  split
  · simp only [Option.bind_some]
    rw [w64 (by omega) (by omega), in_eq]
    simp only [Option.bind_some, fitB, inB]
    congr 1
    rw [Bool.eq_iff_iff]; simp; omega
  · simp only [Option.bind_some]
    rw [w64 (by omega) (by omega), in_eq]
    simp only [Option.bind_some, fitB, inB]
    congr 1
    rw [Bool.eq_iff_iff]; simp; omega
theorem fit_one (a : Int) : spec_l09Fits.f a 1 = some (fitB a 0) := by
  rw [fit_spec a 1 (by omega) (by omega)]
  simp only [fitB, inB]
  congr 1
  rw [Bool.eq_iff_iff]; simp; omega
theorem fit_impl (a n : Int) (h0 : 0 ≤ n) (h1 : n ≤ 24) : impl_isSpan.f a n = some (fitB a n) := by
  unfold impl_isSpan.f
  rw [within_eq']
  simp only [Option.bind_some]
  by_cases h : inB a 0 63 = true
  · have := in_iff.1 h
    rw [_root_.if_pos h, w64 (by omega) (by omega)]
    simp [fitB, h]
  · rw [_root_.if_neg h]
    simp [fitB, h]
theorem opIs_eq (a : Int) : spec_l01OpIs.f a = some (inB a 0 17) := by
  unfold spec_l01OpIs.f
  rw [in_eq]; rfl
theorem isOp_eq (a : Int) : impl_isOp.f a = some (inB a 0 17) := rfl
theorem loop_spec (k : Nat) (a0 a1 a2 a3 a4 a5 : Int) : spec_l09Is.f (k + 1) a0 a1 a2 a3 a4 a5 = some (loopB a0 a1 a2 a3 a4 a5) := by
  unfold spec_l09Is.f loopB
  rw [opIs_eq, in_eq]
  simp only [Option.bind_some, spec_l09Is.j0, if_true]
  by_cases h1 : inB a1 0 17 = true
  · rw [_root_.if_pos h1, h1]
    by_cases h2 : inB a5 0 24 = true
    · have hb := in_iff.1 h2
      rw [_root_.if_pos h2, h2, fit_spec a3 a5 hb.1 hb.2, fit_spec a4 a5 hb.1 hb.2, fit_spec a2 a5 hb.1 hb.2, fit_one]
      simp only [Option.bind_some]
      cases fitB a3 a5 <;> cases fitB a4 a5 <;> cases fitB a2 a5 <;> simp <;> (repeat' split) <;> simp_all
    · rw [_root_.if_neg h2]
      simp [h2]
  · rw [_root_.if_neg h1]
    simp [h1]
theorem loop_impl (k : Nat) (a0 a1 a2 a3 a4 a5 : Int) : impl_ValidLoop.f (k + 1) a0 a1 a2 a3 a4 a5 = some (loopB a0 a1 a2 a3 a4 a5) := by
  unfold impl_ValidLoop.f loopB
  rw [isOp_eq, within_eq']
  simp only [Option.bind_some, impl_ValidLoop.j0, if_true]
  by_cases h1 : inB a1 0 17 = true
  · rw [_root_.if_pos h1, h1]
    by_cases h2 : inB a5 0 24 = true
    · have hb := in_iff.1 h2
      rw [_root_.if_pos h2, h2, fit_impl a3 a5 hb.1 hb.2, fit_impl a4 a5 hb.1 hb.2, fit_impl a2 a5 hb.1 hb.2, fit_impl a2 0 (by omega) (by omega)]
      simp only [Option.bind_some]
      cases fitB a3 a5 <;> cases fitB a4 a5 <;> cases fitB a2 a5 <;> cases fitB a2 0 <;> simp <;> (repeat' split) <;> simp_all
    · rw [_root_.if_neg h2]
      simp [h2]
  · rw [_root_.if_neg h1]
    simp [h1]

end Go.Proofs.Ytpfoeologjacfaa.Q
