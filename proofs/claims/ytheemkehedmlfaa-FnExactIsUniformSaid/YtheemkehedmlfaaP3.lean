/- The walks through spec.l08Pairs and impl.paired, second part. -/
import Derived.Test.YtheemkehedmlfaaP2
set_option linter.unusedVariables false
set_option linter.unusedSimpArgs false
set_option maxRecDepth 4000
namespace Go.Proofs.Ytheemkehedmlfaa.P
open Go Go.Proofs.Ytheemkehedmlfaa.E
theorem step_push {N : Nat} (hNN : 4096 ≤ N) {b : Int} {L : List LT} {i : Nat} {F : List Fr} {oS oI : List Int} {m : List (Int × Bool)} (h : Inv L i F oS oI m) (hn : Nst (kd L) i F (fun j => oS.getD j 0)) (hi : i < L.length) (hv : lineB b (gt L (i : Int)) = true) (hk : kd L i = 2 ∨ kd L i = 5) : Step N b L i F oS oI m := by
  have hN := h.hN
  have e := w_suc i (by omega)
  have h1 := h.ls
  have h2 := h.li
  have h3 := h.nest
  have h4 := h.prod
  have hl := lps_le L F
  have hsc := scan_len L F
  have hlast := scan_last L F
  have hw := w_pred (lps L F).length (by omega)
  have e2 := w_suc F.length (by omega)
  have hcb : ∀ f ∈ F ++ [(⟨i, i, []⟩ : Fr)], kd L f.b = 5 → 1 ≤ ct L f.b ∧ ct L f.b ≤ 8 := all_snoc h.cnt (line_ct hv)
  have hR := rounds_eq hNN L (F ++ [⟨i, i, []⟩]) (by simp; omega) (all_snoc (fun f hf => by have := h.bl f hf; omega) hi) hcb
  have hP0 := pr_le h.cnt
  have hP1 := pr_le hcb
  have ho : opn F ++ ((i : Int) :: []) = opn (F ++ [⟨i, i, []⟩]) := (opn_snoc F ⟨i, i, []⟩).symm
  have hlo : lst F ++ ((i : Int) :: []) = lst (F ++ [⟨i, i, []⟩]) := (lst_snoc F ⟨i, i, []⟩).symm
  have hso : stp F ++ (([] : List Int) :: []) = stp (F ++ [⟨i, i, []⟩]) := (stp_snoc F ⟨i, i, []⟩).symm
  have hlen : (F ++ [(⟨i, i, []⟩ : Fr)]).length = F.length + 1 := by simp
  generalize hF' : F ++ [(⟨i, i, []⟩ : Fr)] = F' at *
  generalize hP' : pr 1 (cnts L F') = P' at *
  -- the reference model's round
  have hS : ∀ rec, n_spec_l08Pairs_1 N (L, ()) rec (sS F oS i) = if F.length + 1 > 4 ∨ P' > 64 then some (.inl (false, (oS, ()))) else rec (sS F' oS (i + 1)) := by
    intro rec
    rcases hk with hk | hk
    all_goals
      have hk' : (gt L (i : Int)).1 = _ := hk
      unfold n_spec_l08Pairs_1 sS
      simp only [e, h1, opn_len, lst_len, stp_len, e2, ho, hlo, hso]
      by_cases h5 : F.length + 1 > 4
      · rw [if_pos (.inl h5)]
        (repeat (first | refine bt (by omega) ?_ | refine bf (by omega) ?_ | refine nt (by omega) ?_ | refine nf (by omega) ?_))
        rfl
      · (repeat (first | refine bt (by omega) ?_ | refine bf (by omega) ?_ | refine nt (by omega) ?_ | refine nf (by omega) ?_))
        refine bd hR ?_
        simp only
        by_cases h6 : P' > 64
        · rw [if_pos (.inr h6)]
          (repeat (first | refine bt (by omega) ?_ | refine bf (by omega) ?_ | refine nt (by omega) ?_ | refine nf (by omega) ?_))
          rfl
        · rw [if_neg (by omega)]
          (repeat (first | refine bt (by omega) ?_ | refine bf (by omega) ?_ | refine nt (by omega) ?_ | refine nf (by omega) ?_))
          rfl
  -- ours
  have hI : ∀ rec, n_impl_paired_0 N (b, (L, (L, ((L.length : Int), ())))) rec (sI L F oI m i) = if F.length + 1 > 4 ∨ P' > 64 then some (.inl (false, ([], (oI.set i (i : Int), (m, ()))))) else rec (sI L F' (oI.set i (i : Int)) m (i + 1)) := by
    intro rec
    rcases hk with hk | hk
    · have hk' : (gt L (i : Int)).1 = 2 := hk
      have g1 : lps L F' = lps L F := by rw [← hF', lps_snoc, if_neg (by show ¬ kd L i = 5; omega)]
      have g2 : cnts L F' = cnts L F := by rw [← hF', cnts_snoc, if_neg (by show ¬ kd L i = 5; omega)]
      have g3 : P' = pr 1 (cnts L F) := by rw [← hP', g2]
      unfold n_impl_paired_0 sI
      simp only [e, h2, opn_len, stp_len, hsc, hw, hlast, ho, hlen, g1, g2]
      by_cases hd : F.length + 1 > 4 ∨ P' > 64
      · rw [if_pos hd]
        by_cases h5 : F.length + 1 > 4
        · (repeat (first | refine bt (by omega) ?_ | refine bf (by omega) ?_ | refine nt (by omega) ?_ | refine nf (by omega) ?_))
          refine bd (line_impl N b _) ?_
          rw [hv]
          simp only [Bool.not_true, cond_false]
          (repeat (first | refine bt (by omega) ?_ | refine bf (by omega) ?_ | refine nt (by omega) ?_ | refine nf (by omega) ?_))
          simp only [Int.toNat_natCast]
        · (repeat (first | refine bt (by omega) ?_ | refine bf (by omega) ?_ | refine nt (by omega) ?_ | refine nf (by omega) ?_))
          refine bd (line_impl N b _) ?_
          rw [hv]
          simp only [Bool.not_true, cond_false]
          (repeat (first | refine bt (by omega) ?_ | refine bf (by omega) ?_ | refine nt (by omega) ?_ | refine nf (by omega) ?_))
          simp only [Int.toNat_natCast]
      · rw [if_neg hd]
        (repeat (first | refine bt (by omega) ?_ | refine bf (by omega) ?_ | refine nt (by omega) ?_ | refine nf (by omega) ?_))
        refine bd (line_impl N b _) ?_
        rw [hv]
        simp only [Bool.not_true, cond_false]
        (repeat (first | refine bt (by omega) ?_ | refine bf (by omega) ?_ | refine nt (by omega) ?_ | refine nf (by omega) ?_))
        simp only [Int.toNat_natCast]
    · have hk' : (gt L (i : Int)).1 = 5 := hk
      have hp := mul_small ⟨hP0, h4⟩ (line_ct hv hk)
      have g1 : lps L F' = lps L F ++ [⟨i, i, []⟩] := by rw [← hF', lps_snoc, if_pos (by show kd L i = 5; exact hk)]
      have g2 : cnts L F' = cnts L F ++ [ct L i] := by rw [← hF', cnts_snoc, if_pos (by show kd L i = 5; exact hk)]
      have g3 : P' = pr 1 (cnts L F) * ct L i := by rw [← hP', g2, pr_snoc]
      have g4 : IntKind.wrap .i64 (pr 1 (cnts L F) * (gt L (i : Int)).2.2.2.2) = P' := by rw [g3]; exact wr_id (by show _ ≤ pr 1 (cnts L F) * ct L i; omega) (by show pr 1 (cnts L F) * ct L i ≤ _; omega)
      have g5 : scanP 1 (cnts L F) ++ (P' :: []) = scanP 1 (cnts L F') := by rw [g2, scanP_snoc, g3]
      have g6 : opn (lps L F) ++ ((i : Int) :: []) = opn (lps L F') := by rw [g1, opn_snoc]
      have g7 : stp (lps L F) ++ (([] : List Int) :: []) = stp (lps L F') := by rw [g1, stp_snoc]
      have g8 : (scanP 1 (cnts L F')).length = (lps L F).length + 1 + 1 := by rw [scan_len, g1]; simp
      have g9 := w_pred ((lps L F).length + 1) (by omega)
      have g10 : gt (scanP 1 (cnts L F')) (((lps L F).length + 1 : Nat) : Int) = P' := by
        have := scan_last L F'
        rw [g1] at this
        rw [hP'] at this
        simpa using this
      unfold n_impl_paired_0 sI
      simp only [e, h2, opn_len, stp_len, hsc, hw, hlast, ho, hlen, g4, g5, g6, g7, g8, g9, g10]
      by_cases hd : F.length + 1 > 4 ∨ P' > 64
      · rw [if_pos hd]
        by_cases h5 : F.length + 1 > 4
        · (repeat (first | refine bt (by omega) ?_ | refine bf (by omega) ?_ | refine nt (by omega) ?_ | refine nf (by omega) ?_))
          refine bd (line_impl N b _) ?_
          rw [hv]
          simp only [Bool.not_true, cond_false]
          (repeat (first | refine bt (by omega) ?_ | refine bf (by omega) ?_ | refine nt (by omega) ?_ | refine nf (by omega) ?_))
          simp only [Int.toNat_natCast]
        · (repeat (first | refine bt (by omega) ?_ | refine bf (by omega) ?_ | refine nt (by omega) ?_ | refine nf (by omega) ?_))
          refine bd (line_impl N b _) ?_
          rw [hv]
          simp only [Bool.not_true, cond_false]
          (repeat (first | refine bt (by omega) ?_ | refine bf (by omega) ?_ | refine nt (by omega) ?_ | refine nf (by omega) ?_))
          simp only [Int.toNat_natCast]
      · rw [if_neg hd]
        (repeat (first | refine bt (by omega) ?_ | refine bf (by omega) ?_ | refine nt (by omega) ?_ | refine nf (by omega) ?_))
        refine bd (line_impl N b _) ?_
        rw [hv]
        simp only [Bool.not_true, cond_false]
        (repeat (first | refine bt (by omega) ?_ | refine bf (by omega) ?_ | refine nt (by omega) ?_ | refine nf (by omega) ?_))
        simp only [Int.toNat_natCast]
  by_cases hd : F.length + 1 > 4 ∨ P' > 64
  · exact Or.inl ⟨oS, _, m, fun rec => by rw [hS, if_pos hd], fun rec => by rw [hI, if_pos hd]⟩
  · refine Or.inr ⟨F', oS, _, m, ?_, ?_, fun rec => by rw [hS, if_neg hd], fun rec => by rw [hI, if_neg hd]⟩
    · rw [← hF']; exact inv_push h hi hk (line_ct hv) (by omega) (by rw [hF', hP']; omega)
    · rw [← hF']; exact nst_push hn hk
end Go.Proofs.Ytheemkehedmlfaa.P
