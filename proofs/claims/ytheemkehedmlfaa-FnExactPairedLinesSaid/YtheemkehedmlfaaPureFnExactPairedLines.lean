/- The program's PairedLines returns what the reference's returns, for all arguments: the law answers true at every input. -/
import Derived.Test.YtheemkehedmlfaaLFnExactPairedLines
import Derived.Test.YtheemkehedmlfaaY11
import Derived.KernelRfl
namespace Go.Proofs.Ytheemkehedmlfaa.Pure
open Go.RowKit Go.Proofs.Ytheemkehedmlfaa.Y Go.Proofs.YtheemkehedmlfaaW.PrintWords Go.Proofs.YtheemkehedmlfaaW.PrintLast Go.Proofs.YtheemkehedmlfaaW.PrintMore
set_option linter.unusedVariables false
set_option linter.unusedSimpArgs false

theorem FnExactPairedLines : laws_FnExactPairedLines.Pure := by
  intro b l _ hl
  have hm : l.length ≤ maxLen := hl.1
  have hm' : maxLen ≤ 9223372036854775807 := by decide
  refine Ev.rounds ?_
  unfold laws_FnExactPairedLines.f
  by_cases hs : l.length ≤ 1048576
  · have hw : laws_szLineS.f l 1048576 = some (1048576 - (l.length : Int)) := by
      unfold laws_szLineS.f
      rw [w64 (by omega) (by omega), _root_.if_neg (by omega)]
    obtain ⟨ok, o, o', h1, h2, h3⟩ := Is_ex b (l.map lnOf)
    obtain ⟨r, hr, hS, hI⟩ : ∃ r : List Int × Bool, r.1.length ≤ 24 ∧ Ev (fun k => spec_PairedLines.f k b (l.map lnOf)) r ∧ Ev (fun k => impl_PairedLines.f k b (l.map lnOf)) r := by
      unfold spec_PairedLines.f impl_PairedLines.f
      cases ok with
      | true =>
        obtain ⟨g1, g2, rfl, g4⟩ := h3 rfl
        exact ⟨(o, true), g4, Ev.bind h1 (Ev.if_pos rfl (Ev.bind g1 (Ev.now _))), Ev.bind h2 (Ev.if_pos rfl (Ev.bind g2 (Ev.now _)))⟩
      | false => exact ⟨([], false), by simp, Ev.bind h1 (Ev.if_neg (by simp) (Ev.now _)), Ev.bind h2 (Ev.if_neg (by simp) (Ev.now _))⟩
    have hT := toLineS_ex l hs
    have hq := eqEv r.1 (by omega)
    have hh := heldEv r.1.length 1 (by omega) (by omega) (by omega)
    obtain ⟨p, hp, hp0⟩ := markL_ev (l.map lnOf) (by simpa using hs)
    refine Ev.bind' hw (Ev.if_neg (by omega) (Ev.bind hT (Ev.bind hS (Ev.bind hT (Ev.bind hI (Ev.bind hq (Ev.if_pos rfl ?_)))))))
    refine Ev.step (fun k => laws_FnExactPairedLines.j0.eq_2 _ _ _ _ _ _ _ _ _) (Ev.if_neg (by simp) (Ev.bind hT (Ev.bind (eqLineS_refl _ (by simpa using hs)) (Ev.if_pos rfl (Ev.bind hp (Ev.if_neg (by omega) (Ev.bind hq (Ev.if_pos rfl ?_))))))))
    refine Ev.step (fun k => laws_FnExactPairedLines.j1.eq_2 _ _ _ _ _ _ _) (Ev.if_neg (by simp) (Ev.bind (markEv r.1 1 (by omega) (by omega) (by omega)) (Ev.bind hh (Ev.if_neg (by omega) (Ev.if_pos rfl (Ev.bind hT (Ev.bind hI (Ev.bind hq (Ev.if_pos rfl ?_)))))))))
    exact Ev.step (fun k => laws_FnExactPairedLines.j2.eq_2 _ _ _ _) (Ev.if_neg (by simp) (Ev.bind hh (Ev.if_neg (by omega) (Ev.if_pos rfl (Ev.now _)))))
  · have hw : laws_szLineS.f l 1048576 = some (-1) := by
      unfold laws_szLineS.f
      rw [w64 (by omega) (by omega), _root_.if_pos (by omega)]
    exact Ev.bind' hw (Ev.if_pos (by omega) (Ev.now _))

end Go.Proofs.Ytheemkehedmlfaa.Pure
