/- The walks through spec.l08Pairs and impl.paired, third part: else, stop, end. -/
import Derived.Test.YtheemkehedmlfaaP3
set_option linter.unusedVariables false
set_option linter.unusedSimpArgs false
set_option maxRecDepth 4000
namespace Go.Proofs.Ytheemkehedmlfaa.P
open Go Go.Proofs.Ytheemkehedmlfaa.E
theorem w_neg : IntKind.wrap .i64 (((0 : Nat) : Int) - 1) = -1 := by decide +kernel
theorem step_else {N : Nat} {b : Int} {L : List LT} {i : Nat} {F : List Fr} {oS oI : List Int} {m : List (Int × Bool)} (h : Inv L i F oS oI m) (hn : Nst (kd L) i F (fun j => oS.getD j 0)) (hi : i < L.length) (hv : lineB b (gt L (i : Int)) = true) (hk : kd L i = 3) : Step N b L i F oS oI m := by
  have hN := h.hN
  have e := w_suc i (by omega)
  have h1 := h.ls
  have h2 := h.li
  have h3 := h.nest
  have h4 := h.prod
  have hl := lps_le L F
  have hsc := scan_len L F
  have hlast := scan_last L F
  have hw := w_pred (lps L F).length (by omega)
  have hk' : (gt L (i : Int)).1 = 3 := hk
  rcases List.eq_nil_or_concat F with rfl | ⟨G, f, rfl⟩
  · refine Or.inl ⟨oS, oI.set i (i : Int), m, fun rec => ?_, fun rec => ?_⟩
    · unfold n_spec_l08Pairs_1 sS
      simp only [e, h1, opn_len, List.length_nil]
      (repeat (first | refine bt (by omega) ?_ | refine bf (by omega) ?_ | refine nt (by omega) ?_ | refine nf (by omega) ?_))
      rfl
    · unfold n_impl_paired_0 sI
      simp only [e, h2, opn_len, hsc, List.length_nil, w_neg]
      (repeat (first | refine bt (by omega) ?_ | refine bf (by omega) ?_ | refine nt (by omega) ?_ | refine nf (by omega) ?_))
      refine bd (line_impl N b _) ?_
      rw [hv]
      simp only [Bool.not_true, cond_false]
      (repeat (first | refine bt (by omega) ?_ | refine bf (by omega) ?_ | refine nt (by omega) ?_ | refine nf (by omega) ?_))
      simp only [Int.toNat_natCast]
  · rw [List.concat_eq_append] at h hn hl hsc hlast hw h3 h4 ⊢
    simp only [List.length_append, List.length_cons, List.length_nil, Nat.zero_add] at h3
    have hb := (of_snoc h.bl).2
    have hkf := (of_snoc h.kds).2
    have hw1 := w_pred G.length (by omega)
    have tb := top_b G f
    have tl := top_l G f
    have hD : (gt L (f.l : Int)).1 = 2 ↔ (f.l = f.b ∧ kd L f.b = 2) := by
      show kd L f.l = 2 ↔ _
      constructor
      · intro h2
        by_cases hne : f.l = f.b
        · exact ⟨hne, hne ▸ h2⟩
        · have := ((of_snoc h.el).2 hne).1; omega
      · rintro ⟨e1, e2⟩
        rw [e1]; exact e2
    have hmg := (of_snoc h.mg).2
    have hlI : (oI.set i (i : Int)).length = L.length := by rw [List.length_set]; exact h2
    by_cases hc : f.l = f.b ∧ kd L f.b = 2
    · have hc2 : (gt L (f.b : Int)).1 = 2 := hc.2
      have hc3 := hD.2 hc
      have hm0 : mget m (f.b : Int) = false := by rw [hmg]; simp [hc.1]
      refine Or.inr ⟨_, _, _, _, inv_else h hi hk hc.1 hc.2, nst_else hn hk hc.1 hc.2 fun j => getD_set _ _ _ _ (by rw [h1]; omega), fun rec => ?_, fun rec => ?_⟩
      · unfold n_spec_l08Pairs_1 sS
        simp only [e, h1, opn_len, lst_len, List.length_append, List.length_cons, List.length_nil, Nat.zero_add, hw1, tl]
        (repeat (first | refine bt (by omega) ?_ | refine bf (by omega) ?_ | refine nt (by omega) ?_ | refine nf (by omega) ?_))
        rw [set_l]
        simp only [opn_snoc, stp_snoc, hc.1, Int.toNat_natCast]
      · have o1 : opn (lps L (G ++ [⟨f.b, i, f.s⟩])) = opn (lps L (G ++ [f])) := by rw [lps_snoc, lps_snoc]; show opn (if kd L f.b = 5 then _ else _) = opn (if kd L f.b = 5 then _ else _); split <;> simp [opn]
        have o2 : stp (lps L (G ++ [⟨f.b, i, f.s⟩])) = stp (lps L (G ++ [f])) := by rw [lps_snoc, lps_snoc]; show stp (if kd L f.b = 5 then _ else _) = stp (if kd L f.b = 5 then _ else _); split <;> simp [stp]
        have o3 : cnts L (G ++ [⟨f.b, i, f.s⟩]) = cnts L (G ++ [f]) := by rw [cnts_snoc, cnts_snoc]
        have o4 : opn (G ++ [⟨f.b, i, f.s⟩]) = opn (G ++ [f]) := by rw [opn_snoc, opn_snoc]
        unfold n_impl_paired_0 sI
        rw [o1, o2, o3, o4]
        simp only [e, h2, opn_len, stp_len, hsc, hw, hlast, List.length_append, List.length_cons, List.length_nil, Nat.zero_add, hw1, tb, hm0, List.length_set, Int.toNat_natCast]
        (repeat (first | refine bt (by omega) ?_ | refine bf (by omega) ?_ | refine nt (by omega) ?_ | refine nf (by omega) ?_))
        refine bd (line_impl N b _) ?_
        rw [hv]
        simp only [Bool.not_true, cond_false]
        (repeat (first | refine bt (by omega) ?_ | refine bf (by omega) ?_ | refine nt (by omega) ?_ | refine nf (by omega) ?_))
        simp only [cond_false]
        (repeat (first | refine bt (by omega) ?_ | refine bf (by omega) ?_ | refine nt (by omega) ?_ | refine nf (by omega) ?_))
        try rfl
    · have hc3 : ¬ (gt L (f.l : Int)).1 = 2 := fun h2 => hc (hD.1 h2)
      refine Or.inl ⟨oS, oI.set i (i : Int), m, fun rec => ?_, fun rec => ?_⟩
      · unfold n_spec_l08Pairs_1 sS
        simp only [e, h1, opn_len, lst_len, List.length_append, List.length_cons, List.length_nil, Nat.zero_add, hw1, tl]
        (repeat (first | refine bt (by omega) ?_ | refine bf (by omega) ?_ | refine nt (by omega) ?_ | refine nf (by omega) ?_))
        rfl
      · unfold n_impl_paired_0 sI
        simp only [e, h2, opn_len, stp_len, hsc, hw, hlast, List.length_append, List.length_cons, List.length_nil, Nat.zero_add, hw1, tb, List.length_set, Int.toNat_natCast]
        by_cases hq : kd L f.b = 2
        · have hq' : (gt L (f.b : Int)).1 = 2 := hq
          have hm1 : mget m (f.b : Int) = true := by rw [hmg]; simp; exact fun e1 => hc ⟨e1, hq⟩
          rw [hm1]
          (repeat (first | refine bt (by omega) ?_ | refine bf (by omega) ?_ | refine nt (by omega) ?_ | refine nf (by omega) ?_))
          refine bd (line_impl N b _) ?_
          rw [hv]
          simp only [Bool.not_true, cond_false]
          (repeat (first | refine bt (by omega) ?_ | refine bf (by omega) ?_ | refine nt (by omega) ?_ | refine nf (by omega) ?_))
          rfl
        · have hq' : ¬ (gt L (f.b : Int)).1 = 2 := hq
          (repeat (first | refine bt (by omega) ?_ | refine bf (by omega) ?_ | refine nt (by omega) ?_ | refine nf (by omega) ?_))
          refine bd (line_impl N b _) ?_
          rw [hv]
          simp only [Bool.not_true, cond_false]
          (repeat (first | refine bt (by omega) ?_ | refine bf (by omega) ?_ | refine nt (by omega) ?_ | refine nf (by omega) ?_))
          try rfl
/-- The way down from the innermost line that has no end yet: past those that are no loops. -/
theorem stop_down {N : Nat} {L : List LT} {F : List Fr} (hF : F.length ≤ 24) (hb : ∀ f ∈ F, f.b < L.length) (g : Nat) (hno : ∀ q (hq : q < F.length), g ≤ q → kd L (F[q]).b ≠ 5) :
    ∀ (d M : Nat), g + d ≤ F.length → itN (n_spec_l08Pairs_5 N (L, (opn F, ()))) (M + d) (((g + d : Nat) : Int) - 1, ()) = itN (n_spec_l08Pairs_5 N (L, (opn F, ()))) M ((g : Int) - 1, ()) := by
  intro d
  induction d with
  | zero => intro M _; rfl
  | succ d ih =>
    intro M hd
    have e : (((g + (d + 1) : Nat) : Int) - 1) = ((g + d : Nat) : Int) := by omega
    have hq : g + d < F.length := by omega
    have hbq := hb _ (List.getElem_mem hq)
    have e2 : IntKind.wrap .i64 (((g + d : Nat) : Int) - 1) = ((g + d : Nat) : Int) - 1 := wr_id (by omega) (by omega)
    have ih := ih M (by omega)
    rw [e, ← ih]
    show n_spec_l08Pairs_5 N (L, (opn F, ())) (itN (n_spec_l08Pairs_5 N (L, (opn F, ()))) (M + d)) _ = _
    generalize itN (n_spec_l08Pairs_5 N (L, (opn F, ()))) (M + d) = rec
    have ho := opn_at F _ hq
    have h5 : ¬ (gt L ((F[g + d]).b : Int)).1 = 5 := hno _ hq (by omega)
    unfold n_spec_l08Pairs_5
    simp only [opn_len, ho, e2]
    (repeat (first | refine bt (by omega) ?_ | refine bf (by omega) ?_ | refine nt (by omega) ?_ | refine nf (by omega) ?_))
    try rfl
theorem step_stop {N : Nat} (hNN : 4096 ≤ N) {b : Int} {L : List LT} {i : Nat} {F : List Fr} {oS oI : List Int} {m : List (Int × Bool)} (h : Inv L i F oS oI m) (hn : Nst (kd L) i F (fun j => oS.getD j 0)) (hi : i < L.length) (hv : lineB b (gt L (i : Int)) = true) (hk : kd L i = 6) : Step N b L i F oS oI m := by
  have hN := h.hN
  have e := w_suc i (by omega)
  have h1 := h.ls
  have h2 := h.li
  have h3 := h.nest
  have h4 := h.prod
  have hl := lps_le L F
  have hsc := scan_len L F
  have hlast := scan_last L F
  have hw := w_pred (lps L F).length (by omega)
  have hk' : (gt L (i : Int)).1 = 6 := hk
  have e1 : IntKind.wrap .i64 ((F.length : Int) - 1) = (F.length : Int) - 1 := wr_id (by omega) (by omega)
  have hbs : ∀ f ∈ F, f.b < L.length := fun f hf => by have := h.bl f hf; omega
  obtain ⟨M, rfl⟩ : ∃ M, N = (M + 1) + 5 := ⟨N - 6, by omega⟩
  rcases last_loop L F with hno | ⟨G, f, H, rfl, h5, hH⟩
  · have hdn := stop_down (N := M + 1 + 5) (L := L) (F := F) (by omega) hbs 0 (fun q hq _ => hno _ (List.getElem_mem hq)) F.length (M + 1 + (5 - F.length)) (by omega)
    rw [show M + 1 + (5 - F.length) + F.length = M + 1 + 5 by omega, show M + 1 + (5 - F.length) = (M + (5 - F.length)) + 1 by omega, Nat.zero_add] at hdn
    have hz : itN (n_spec_l08Pairs_5 (M + 1 + 5) (L, (opn F, ()))) ((M + (5 - F.length)) + 1) (((0 : Nat) : Int) - 1, ()) = some (-1, ()) := by
      show n_spec_l08Pairs_5 _ _ _ _ = _
      unfold n_spec_l08Pairs_5
      simp only
      (repeat (first | refine bt (by omega) ?_ | refine bf (by omega) ?_ | refine nt (by omega) ?_ | refine nf (by omega) ?_))
      rfl
    rw [hz] at hdn
    have hlp := lps_none hno
    refine Or.inl ⟨oS, oI.set i (i : Int), m, fun rec => ?_, fun rec => ?_⟩
    · unfold n_spec_l08Pairs_1 sS
      simp only [e, h1, opn_len, e1]
      (repeat (first | refine bt (by omega) ?_ | refine bf (by omega) ?_ | refine nt (by omega) ?_ | refine nf (by omega) ?_))
      refine bd hdn ?_
      simp only
      (repeat (first | refine bt (by omega) ?_ | refine bf (by omega) ?_ | refine nt (by omega) ?_ | refine nf (by omega) ?_))
      rfl
    · unfold n_impl_paired_0 sI
      simp only [e, h2, opn_len, hlp, List.length_nil, Int.toNat_natCast]
      (repeat (first | refine bt (by omega) ?_ | refine bf (by omega) ?_ | refine nt (by omega) ?_ | refine nf (by omega) ?_))
      refine bd (line_impl _ b _) ?_
      rw [hv]
      simp only [Bool.not_true, cond_false]
      (repeat (first | refine bt (by omega) ?_ | refine bf (by omega) ?_ | refine nt (by omega) ?_ | refine nf (by omega) ?_))
      try rfl
  · have hlen : (G ++ f :: H).length = G.length + 1 + H.length := by simp; omega
    have hlp := lps_split (G := G) h5 hH
    rw [hlp] at hl hw
    simp at hl hw
    have hfm : f ∈ G ++ f :: H := List.mem_append_right _ (List.mem_cons_self ..)
    have hsl := h.sl f hfm
    have hbf := hbs f hfm
    have hat : (G ++ f :: H)[G.length]'(by rw [hlen]; omega) = f := by simp
    have hdn := stop_down (N := M + 1 + 5) (L := L) (F := G ++ f :: H) (by omega) hbs (G.length + 1) (fun q hq hle => by
      have hq' : q - (G.length + 1) < H.length := by omega
      have : (G ++ f :: H)[q] = H[q - (G.length + 1)] := by
        rw [List.getElem_append_right (by omega)]
        rw [List.getElem_cons, dif_neg (by omega)]
        congr 1
      rw [this]
      exact hH _ (List.getElem_mem hq')) H.length (M + 1 + (5 - H.length)) (by omega)
    rw [show M + 1 + (5 - H.length) + H.length = M + 1 + 5 by omega, show M + 1 + (5 - H.length) = (M + (5 - H.length)) + 1 by omega, ← hlen, show (((G.length + 1 : Nat) : Int) - 1) = (G.length : Int) by omega] at hdn
    have ho := opn_at (G ++ f :: H) G.length (by omega)
    rw [hat] at ho
    have h5' : (gt L (f.b : Int)).1 = 5 := h5
    have hz : itN (n_spec_l08Pairs_5 (M + 1 + 5) (L, (opn (G ++ f :: H), ()))) ((M + (5 - H.length)) + 1) ((G.length : Int), ()) = some ((G.length : Int), ()) := by
      show n_spec_l08Pairs_5 _ _ _ _ = _
      unfold n_spec_l08Pairs_5
      simp only [opn_len, ho]
      (repeat (first | refine bt (by omega) ?_ | refine bf (by omega) ?_ | refine nt (by omega) ?_ | refine nf (by omega) ?_))
      rfl
    rw [hz] at hdn
    have e5 : gt (stp (G ++ f :: H)) (G.length : Int) = f.s := by rw [gtn]; unfold stp; simp [List.getD_eq_getElem?_getD, List.getElem?_append]
    have q1 : opn (G ++ ⟨f.b, f.l, f.s ++ [(i : Int)]⟩ :: H) = opn (G ++ f :: H) := by simp [opn]
    have q2 : lst (G ++ ⟨f.b, f.l, f.s ++ [(i : Int)]⟩ :: H) = lst (G ++ f :: H) := by simp [lst]
    have q3 : (stp (G ++ f :: H)).set G.length (f.s ++ ((i : Int) :: [])) = stp (G ++ ⟨f.b, f.l, f.s ++ [(i : Int)]⟩ :: H) := by simp [stp, List.set_append]
    refine Or.inr ⟨_, oS, _, m, inv_stop h hi hk h5, nst_stop hn hk h5 hH, fun rec => ?_, fun rec => ?_⟩
    · unfold n_spec_l08Pairs_1 sS
      rw [q1, q2]
      simp only [e, h1, opn_len, lst_len, stp_len, e1]
      (repeat (first | refine bt (by omega) ?_ | refine bf (by omega) ?_ | refine nt (by omega) ?_ | refine nf (by omega) ?_))
      refine bd hdn ?_
      simp only [e5, Int.toNat_natCast, q3]
      (repeat (first | refine bt (by omega) ?_ | refine bf (by omega) ?_ | refine nt (by omega) ?_ | refine nf (by omega) ?_))
      refine bt trivial ?_
      (repeat (first | refine bt (by omega) ?_ | refine bf (by omega) ?_ | refine nt (by omega) ?_ | refine nf (by omega) ?_))
      try rfl
    · have hlp' : lps L (G ++ ⟨f.b, f.l, f.s ++ [(i : Int)]⟩ :: H) = lps L G ++ [⟨f.b, f.l, f.s ++ [(i : Int)]⟩] := lps_split h5 hH
      have hol : opn (lps L (G ++ ⟨f.b, f.l, f.s ++ [(i : Int)]⟩ :: H)) = opn (lps L (G ++ f :: H)) := by rw [hlp, hlp', opn_snoc, opn_snoc]
      have hc : cnts L (G ++ ⟨f.b, f.l, f.s ++ [(i : Int)]⟩ :: H) = cnts L (G ++ f :: H) := by unfold cnts; rw [hlp, hlp']; simp
      have hso : (stp (lps L (G ++ f :: H))).set (lps L G).length (f.s ++ ((i : Int) :: [])) = stp (lps L (G ++ ⟨f.b, f.l, f.s ++ [(i : Int)]⟩ :: H)) := by rw [hlp, hlp', stp_snoc, stp_snoc]; simp [List.set_append, stp_len]
      have hll : (lps L (G ++ f :: H)).length = (lps L G).length + 1 := by rw [hlp]; simp
      have hw2 := w_pred (lps L G).length (by omega)
      have hw3 := w_pred (lps L (G ++ f :: H)).length (by omega)
      have e6 : gt (stp (lps L (G ++ f :: H))) ((lps L G).length : Int) = f.s := by rw [hlp]; exact top_s _ _
      unfold n_impl_paired_0 sI
      rw [hol, hc, q1]
      simp only [e, h2, opn_len, stp_len, hsc, hw3, hlast]
      rw [hll] at *
      simp only [hw2, e6, Int.toNat_natCast, hso]
      (repeat (first | refine bt (by omega) ?_ | refine bf (by omega) ?_ | refine nt (by omega) ?_ | refine nf (by omega) ?_))
      refine bd (line_impl _ b _) ?_
      rw [hv]
      simp only [Bool.not_true, cond_false]
      (repeat (first | refine bt (by omega) ?_ | refine bf (by omega) ?_ | refine nt (by omega) ?_ | refine nf (by omega) ?_))
      refine bt trivial ?_
      (repeat (first | refine bt (by omega) ?_ | refine bf (by omega) ?_ | refine nt (by omega) ?_ | refine nf (by omega) ?_))
      try rfl
end Go.Proofs.Ytheemkehedmlfaa.P
