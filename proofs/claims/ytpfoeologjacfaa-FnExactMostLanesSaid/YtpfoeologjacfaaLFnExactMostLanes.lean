/- Plain lemmas that the proof of FnExactMostLanes leans on. -/
import Derived.Test.YtpfoeologjacfaaQ0
import Derived.Test.YtpfoeologjacfaaQ1
import Derived.Test.YtpfoeologjacfaaQ2
import Derived.Test.YtpfoeologjacfaaQ3
import Derived.Test.YtpfoeologjacfaaQ4
import Derived.Test.YtpfoeologjacfaaQ5
namespace Go.Proofs.Ytpfoeologjacfaa.Q
open Go.RowKit Go.Proofs.YtpfoeologjacfaaW.PrintWords Go.Proofs.YtpfoeologjacfaaW.PrintLast Go.Proofs.YtpfoeologjacfaaW.PrintMore
set_option linter.unusedVariables false
set_option linter.unusedSimpArgs false

theorem w64 {x : Int} (h0 : -9223372036854775808 ≤ x) (h1 : x ≤ 9223372036854775807) : wrap64 x = x := by unfold wrap64; omega
theorem rd_at (l : List Int) (j : Nat) (h : j < l.length) : rd l (j : Int) = l[j] := by
  unfold rd
  rw [Int.toNat_natCast]; simp [List.getD_eq_getElem?_getD, h]

theorem in_eq (a b c : Int) : spec_l00In.f a b c = some (inB a b c) := by
  unfold spec_l00In.f inB
  by_cases h : b ≤ a
  · rw [_root_.if_pos h]; simp [h]
  · rw [_root_.if_neg (by omega)]; simp [h]

def fitB (a n : Int) : Bool := inB a 0 63 && decide (a + n ≤ 64)
def loopB (a0 a1 a2 a3 a4 a5 : Int) : Bool :=
  inB a1 0 17 && (inB a5 0 24 && (fitB a3 a5 && (if a0 = 1 then (a4 == 0 && fitB a2 0) else if a0 = 0 then (fitB a4 a5 && fitB a2 a5) else false)))
theorem in_iff {n a b : Int} : inB n a b = true ↔ a ≤ n ∧ n ≤ b := by simp [inB]
theorem within_eq' (a b c : Int) : impl_within.f a b c = some (inB a b c) := rfl
theorem fit_spec (a n : Int) (h0 : 0 ≤ n) (h1 : n ≤ 24) : spec_l09Fits.f a n = some (fitB a n) := by
  unfold spec_l09Fits.f spec_l00Max.f
  split
  · simp only [Option.bind_some]
    rw [w64 (by omega) (by omega), in_eq]
    simp only [Option.bind_some, fitB, inB]
    congr 1
    rw [Bool.eq_iff_iff]; simp; omega
  · simp only [Option.bind_some]
    rw [w64 (by omega) (by omega), in_eq]
    simp only [Option.bind_some, fitB, inB]
    congr 1
    rw [Bool.eq_iff_iff]; simp; omega
theorem fit_one (a : Int) : spec_l09Fits.f a 1 = some (fitB a 0) := by
  rw [fit_spec a 1 (by omega) (by omega)]
  simp only [fitB, inB]
  congr 1
  rw [Bool.eq_iff_iff]; simp; omega
theorem fit_impl (a n : Int) (h0 : 0 ≤ n) (h1 : n ≤ 24) : impl_isSpan.f a n = some (fitB a n) := by
  unfold impl_isSpan.f
  rw [within_eq']
  simp only [Option.bind_some]
  by_cases h : inB a 0 63 = true
  · have := in_iff.1 h
    rw [_root_.if_pos h, w64 (by omega) (by omega)]
    simp [fitB, h]
  · rw [_root_.if_neg h]
    simp [fitB, h]
theorem opIs_eq (a : Int) : spec_l01OpIs.f a = some (inB a 0 17) := by
  unfold spec_l01OpIs.f
  rw [in_eq]; rfl
theorem isOp_eq (a : Int) : impl_isOp.f a = some (inB a 0 17) := rfl
theorem loop_spec (k : Nat) (a0 a1 a2 a3 a4 a5 : Int) : spec_l09Is.f (k + 1) a0 a1 a2 a3 a4 a5 = some (loopB a0 a1 a2 a3 a4 a5) := by
  unfold spec_l09Is.f loopB
  rw [opIs_eq, in_eq]
  simp only [Option.bind_some, spec_l09Is.j0, if_true]
  by_cases h1 : inB a1 0 17 = true
  · rw [_root_.if_pos h1, h1]
    by_cases h2 : inB a5 0 24 = true
    · have hb := in_iff.1 h2
      rw [_root_.if_pos h2, h2, fit_spec a3 a5 hb.1 hb.2, fit_spec a4 a5 hb.1 hb.2, fit_spec a2 a5 hb.1 hb.2, fit_one]
      simp only [Option.bind_some]
      cases fitB a3 a5 <;> cases fitB a4 a5 <;> cases fitB a2 a5 <;> simp <;> (repeat' split) <;> simp_all
    · rw [_root_.if_neg h2]
      simp [h2]
  · rw [_root_.if_neg h1]
    simp [h1]
theorem loop_impl (k : Nat) (a0 a1 a2 a3 a4 a5 : Int) : impl_ValidLoop.f (k + 1) a0 a1 a2 a3 a4 a5 = some (loopB a0 a1 a2 a3 a4 a5) := by
  unfold impl_ValidLoop.f loopB
  rw [isOp_eq, within_eq']
  simp only [Option.bind_some, impl_ValidLoop.j0, if_true]
  by_cases h1 : inB a1 0 17 = true
  · rw [_root_.if_pos h1, h1]
    by_cases h2 : inB a5 0 24 = true
    · have hb := in_iff.1 h2
      rw [_root_.if_pos h2, h2, fit_impl a3 a5 hb.1 hb.2, fit_impl a4 a5 hb.1 hb.2, fit_impl a2 a5 hb.1 hb.2, fit_impl a2 0 (by omega) (by omega)]
      simp only [Option.bind_some]
      cases fitB a3 a5 <;> cases fitB a4 a5 <;> cases fitB a2 a5 <;> cases fitB a2 0 <;> simp <;> (repeat' split) <;> simp_all
    · rw [_root_.if_neg h2]
      simp [h2]
  · rw [_root_.if_neg h1]
    simp [h1]

theorem loop_facts {a0 a1 a2 a3 a4 a5 : Int} (h : loopB a0 a1 a2 a3 a4 a5 = true) :
    0 ≤ a1 ∧ a1 ≤ 17 ∧ 0 ≤ a5 ∧ a5 ≤ 24 ∧ 0 ≤ a3 ∧ a3 + a5 ≤ 64 ∧ a3 ≤ 63 ∧ (a0 = 1 ∧ a4 = 0 ∧ 0 ≤ a2 ∧ a2 ≤ 63 ∨ a0 = 0 ∧ 0 ≤ a4 ∧ a4 ≤ 63 ∧ a4 + a5 ≤ 64 ∧ 0 ≤ a2 ∧ a2 ≤ 63 ∧ a2 + a5 ≤ 64) := by
  unfold loopB at h
  simp only [Bool.and_eq_true, fitB, inB, decide_eq_true_eq] at h
  obtain ⟨⟨p1, p2⟩, ⟨p3, p4⟩, ⟨⟨p5, p6⟩, p7⟩, h⟩ := h
  refine ⟨p1, p2, p3, p4, p5, p7, p6, ?_⟩
  by_cases e : a0 = 1
  · rw [_root_.if_pos e] at h
    simp at h
    left; omega
  · rw [_root_.if_neg e] at h
    by_cases e' : a0 = 0
    · rw [_root_.if_pos e'] at h
      simp at h
      right; omega
    · rw [_root_.if_neg e'] at h
      cases h
def commB (a : Int) : Bool := decide (a = 0 ∨ a = 14 ∨ 2 ≤ a ∧ a ≤ 11)
def assocB (a : Int) : Bool := decide (a = 0 ∨ 2 ≤ a ∧ a ≤ 10)
theorem comm_spec (a : Int) : spec_l01Commutes.f a = some (commB a) := by
  unfold spec_l01Commutes.f commB
  rw [opIs_eq]
  simp only [Option.bind_some, inB]
  repeat' split
  all_goals (congr 1; rw [Bool.eq_iff_iff]; simp; omega)
theorem comm_impl (a : Int) : impl_IsCommutative.f a = some (commB a) := by
  unfold impl_IsCommutative.f commB
  rw [within_eq']
  simp only [Option.bind_some, inB]
  repeat' split
  all_goals (congr 1; rw [Bool.eq_iff_iff]; simp; omega)
theorem assoc_spec (a : Int) : spec_l01Associates.f a = some (assocB a) := by
  unfold spec_l01Associates.f assocB
  rw [comm_spec]
  simp only [Option.bind_some, commB]
  repeat' split
  all_goals (congr 1; rw [Bool.eq_iff_iff]; simp at *; omega)
theorem assoc_impl (a : Int) : impl_IsAssociative.f a = some (assocB a) := by
  unfold impl_IsAssociative.f assocB
  rw [within_eq']
  simp only [Option.bind_some, inB]
  repeat' split
  all_goals (congr 1; rw [Bool.eq_iff_iff]; simp; omega)
theorem assoc_comm {a : Int} (h : assocB a = true) : commB a = true := by
  simp only [assocB, commB, decide_eq_true_eq] at *; omega
theorem apart_eq (a b c : Int) : spec_l09Apart.f a b c = impl_areApart.f a b c := rfl
/-- Whether a loop of a good form may be cut into strips. -/
def canB (n a0 a1 a2 a3 a4 a5 x : Int) : Bool :=
  if a0 = 1 then decide (x = 0) && (assocB a1 && !(decide (a3 ≤ a2) && decide (a2 < a3 + a5)))
  else inB x 0 2 && ((decide (a2 - a3 ≤ 0) || decide (n ≤ a2 - a3)) && ((decide (a2 - a4 ≤ 0) || decide (n ≤ a2 - a4)) && (decide (x ≠ 2) || (decide (n ≤ a5) && ((decide (a2 + a5 ≤ a3) || decide (a3 + a5 ≤ a2)) && (decide (a2 + a5 ≤ a4) || decide (a4 + a5 ≤ a2)))))))
theorem apart_impl (a b c : Int) (ha : 0 ≤ a ∧ a ≤ 63) (hb : 0 ≤ b ∧ b ≤ 63) (hc : 0 ≤ c ∧ c ≤ 24) : impl_areApart.f a b c = some (decide (a + c ≤ b) || decide (b + c ≤ a)) := by
  unfold impl_areApart.f
  rw [w64 (by omega) (by omega), w64 (by omega) (by omega)]
  split
  · rename_i h; simp [h]
  · rename_i h; simp [h]
theorem far_impl (a b c : Int) (ha : 0 ≤ a ∧ a ≤ 63) (hb : 0 ≤ b ∧ b ≤ 63) : impl_isFar.f a b c = some (decide (a - b ≤ 0) || decide (c ≤ a - b)) := by
  unfold impl_isFar.f
  rw [w64 (by omega) (by omega)]
  split
  · rename_i h; simp only [h, decide_true, Bool.true_or]
  · rename_i h; simp only [h, decide_false, Bool.false_or, ge_iff_le]
theorem can_spec (k : Nat) (n a0 a1 a2 a3 a4 a5 x : Int) (h : loopB a0 a1 a2 a3 a4 a5 = true) : spec_l09Can.f (k + 1) n a0 a1 a2 a3 a4 a5 x = some (canB n a0 a1 a2 a3 a4 a5 x) := by
  have hf := loop_facts h
  have e1 : wrap64 (wrap64 (a3 + a5) - 1) = a3 + a5 - 1 := by rw [w64 (x := a3 + a5) (by omega) (by omega), w64 (by omega) (by omega)]
  have e2 : wrap64 (a2 - a3) = a2 - a3 := w64 (by omega) (by omega)
  have e3 : wrap64 (a2 - a4) = a2 - a4 := w64 (by omega) (by omega)
  unfold spec_l09Can.f canB
  by_cases e : a0 = 1
  · rw [_root_.if_pos e, _root_.if_pos e, assoc_spec, in_eq, e1]
    simp only [Option.bind_some]
    by_cases hx : x = 0
    · rw [_root_.if_pos hx]
      cases assocB a1
      · simp
      · simp only [if_true, hx]
        congr 1; rw [Bool.eq_iff_iff]; simp [inB]; omega
    · rw [_root_.if_neg hx]; simp [hx]
  · rw [_root_.if_neg e, _root_.if_neg e, in_eq, e2, e3]
    simp only [Option.bind_some, spec_l09Can.j0, apart_eq]
    rw [apart_impl a2 a3 a5 (by omega) (by omega) (by omega), apart_impl a2 a4 a5 (by omega) (by omega) (by omega)]
    simp only [Option.bind_some]
    cases inB x 0 2
    · simp
    · by_cases c1 : a2 - a3 > 0 <;> by_cases c2 : a2 - a3 < n <;> by_cases c3 : a2 - a4 > 0 <;> by_cases c4 : a2 - a4 < n <;> by_cases c5 : x = 2 <;> by_cases c6 : a5 ≥ n <;> by_cases c7 : a2 + a5 ≤ a3 <;> by_cases c8 : a3 + a5 ≤ a2 <;>
        simp only [c1, c2, c3, c4, c5, c6, c7, c8, decide_true, decide_false, if_true, if_false, Bool.true_and, Bool.false_and, Bool.and_true, Bool.or_true, Bool.true_or, Bool.false_or, Bool.or_false, Bool.not_true, Bool.not_false, not_true, not_false_iff, ne_eq, ge_iff_le, (show (a2 - a3 ≤ 0) = ¬ (a2 - a3 > 0) from propext (by omega)), (show (n ≤ a2 - a3) = ¬ (a2 - a3 < n) from propext (by omega)), (show (a2 - a4 ≤ 0) = ¬ (a2 - a4 > 0) from propext (by omega)), (show (n ≤ a2 - a4) = ¬ (a2 - a4 < n) from propext (by omega))] <;> first | rfl | simp_all
theorem can_impl (k : Nat) (n b a0 a1 a2 a3 a4 a5 x : Int) (hm : (lanesB n && bitsB b) = true) (h : loopB a0 a1 a2 a3 a4 a5 = true) : impl_CanStrip.f (k + 3) n b a0 a1 a2 a3 a4 a5 x = some (canB n a0 a1 a2 a3 a4 a5 x) := by
  have hf := loop_facts h
  have e1 : wrap64 (a3 + a5) = a3 + a5 := w64 (by omega) (by omega)
  have hm' : impl_ValidMachine.f n b = some true := by
    unfold impl_ValidMachine.f
    rw [show impl_isLanes.f n = some (lanesB n) from rfl, show impl_isBits.f b = some (bitsB b) from rfl]
    simp only [Bool.and_eq_true] at hm
    simp [hm.1, hm.2]
  unfold impl_CanStrip.f canB
  rw [hm', show k + 3 = (k + 2) + 1 from rfl, loop_impl, h, within_eq']
  simp only [Option.bind_some, if_true, impl_CanStrip.j0, impl_CanStrip.j1, e1]
  rw [comm_impl, assoc_impl, far_impl a2 a3 n (by omega) (by omega), far_impl a2 a4 n (by omega) (by omega), apart_impl a2 a3 a5 (by omega) (by omega) (by omega), apart_impl a2 a4 a5 (by omega) (by omega) (by omega)]
  simp only [Option.bind_some]
  by_cases e : a0 = 1
  · rw [_root_.if_pos e]
    by_cases hx : x = 0
    · subst hx
      have h2 : inB 0 0 2 = true := by decide
      cases ha : assocB a1
      · cases commB a1 <;> simp [h2, e]
      · rw [assoc_comm ha]
        by_cases c1 : a3 ≤ a2 <;> by_cases c2 : a2 < a3 + a5 <;> simp [h2, e, c1, c2]
    · cases inB x 0 2 <;> simp [hx, e]
  · rw [_root_.if_neg e]
    cases inB x 0 2
    · simp [e]
    · by_cases c1 : a2 - a3 ≤ 0 <;> by_cases c2 : n ≤ a2 - a3 <;> by_cases c3 : a2 - a4 ≤ 0 <;> by_cases c4 : n ≤ a2 - a4 <;> by_cases c5 : x = 2 <;> by_cases c6 : a5 ≥ n <;> by_cases c7 : a2 + a5 ≤ a3 <;> by_cases c8 : a3 + a5 ≤ a2 <;>
        simp [c1, c2, c3, c4, c5, c6, c7, c8, e]

end Go.Proofs.Ytpfoeologjacfaa.Q
