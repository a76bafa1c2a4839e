/- The walks through spec.l08Pairs and impl.paired, fourth part: end, and the whole. -/
import Derived.Test.YtheemkehedmlfaaP4
set_option linter.unusedVariables false
set_option linter.unusedSimpArgs false
set_option maxRecDepth 4000
namespace Go.Proofs.Ytheemkehedmlfaa.P
open Go Go.Proofs.Ytheemkehedmlfaa.E
theorem gts (s : List Int) (j : Nat) (hj : j < s.length) : gt s (j : Int) = s[j] := by rw [gtn]; simp [List.getD_eq_getElem?_getD, hj]
theorem stops_spec {N : Nat} {G : List Fr} {f : Fr} {i : Nat} (hG : G.length ≤ 24) (hl : f.s.length ≤ 1000) : ∀ (d j M : Nat) (o : List Int), j + d = f.s.length → d < M → (∀ x ∈ f.s, ∃ q : Nat, x = (q : Int) ∧ q < o.length) →
    itN (n_spec_l08Pairs_4 N ((i : Int), (((G.length + 1 : Nat) : Int), (stp (G ++ [f]), ())))) M ((j : Int), (o, ())) = some (setAll o (f.s.drop j) (i : Int), ()) := by
  have hw := w_pred G.length (by omega)
  have hs := top_s G f
  intro d
  induction d with
  | zero =>
    intro j M o hj hM _
    obtain ⟨M, rfl⟩ : ∃ M', M = M' + 1 := ⟨M - 1, by omega⟩
    show n_spec_l08Pairs_4 _ _ _ _ = _
    rw [List.drop_eq_nil_of_le (by omega : f.s.length ≤ j)]
    unfold n_spec_l08Pairs_4
    simp only [hw, hs, stp_len, List.length_append, List.length_cons, List.length_nil, Nat.zero_add]
    (repeat (first | refine bt (by omega) ?_ | refine bf (by omega) ?_ | refine nt (by omega) ?_ | refine nf (by omega) ?_))
    rfl
  | succ d ih =>
    intro j M o hj hM hq
    obtain ⟨M, rfl⟩ : ∃ M', M = M' + 1 := ⟨M - 1, by omega⟩
    have hj' : j < f.s.length := by omega
    obtain ⟨q, hq1, hlt⟩ := hq _ (List.getElem_mem hj')
    have hg := gts f.s j hj'
    rw [hq1] at hg
    have e := w_suc j (by omega)
    have ed := setAll_drop o f.s (i : Int) j hj'
    rw [hq1] at ed
    have ih := ih (j + 1) M (o.set ((q : Int)).toNat (i : Int)) (by omega) (by omega) (fun x hx => by rw [List.length_set]; exact hq x hx)
    rw [ed] at ih
    rw [← ih]
    show n_spec_l08Pairs_4 _ _ (itN (n_spec_l08Pairs_4 N ((i : Int), (((G.length + 1 : Nat) : Int), (stp (G ++ [f]), ())))) M) _ = _
    generalize itN (n_spec_l08Pairs_4 N ((i : Int), (((G.length + 1 : Nat) : Int), (stp (G ++ [f]), ())))) M = rec
    unfold n_spec_l08Pairs_4
    simp only [hw, hs, stp_len, List.length_append, List.length_cons, List.length_nil, Nat.zero_add, hg, e]
    (repeat (first | refine bt (by omega) ?_ | refine bf (by omega) ?_ | refine nt (by omega) ?_ | refine nf (by omega) ?_))
    try rfl
theorem stops_impl {N : Nat} {b a : Int} {S : List (List Int)} {s : List Int} {i : Nat} (hs : gt S a = s) (hl : s.length ≤ 1000) : ∀ (d j M : Nat) (o : List Int), j + d = s.length → d < M → (∀ x ∈ s, ∃ q : Nat, x = (q : Int) ∧ q < o.length) →
    itN (n_impl_paired_2 N ((i : Int), (a, ((s.length : Int), (S, ()))))) M ((j : Int), (o, ())) = some (setAll o (s.drop j) (i : Int), ()) := by
  intro d
  induction d with
  | zero =>
    intro j M o hj hM _
    obtain ⟨M, rfl⟩ : ∃ M', M = M' + 1 := ⟨M - 1, by omega⟩
    show n_impl_paired_2 _ _ _ _ = _
    rw [List.drop_eq_nil_of_le (by omega : s.length ≤ j)]
    unfold n_impl_paired_2
    simp only
    (repeat (first | refine bt (by omega) ?_ | refine bf (by omega) ?_ | refine nt (by omega) ?_ | refine nf (by omega) ?_))
    rfl
  | succ d ih =>
    intro j M o hj hM hq
    obtain ⟨M, rfl⟩ : ∃ M', M = M' + 1 := ⟨M - 1, by omega⟩
    have hj' : j < s.length := by omega
    obtain ⟨q, hq1, hlt⟩ := hq _ (List.getElem_mem hj')
    have hg := gts s j hj'
    rw [hq1] at hg
    have e := w_suc j (by omega)
    have ed := setAll_drop o s (i : Int) j hj'
    rw [hq1] at ed
    have ih := ih (j + 1) M (o.set ((q : Int)).toNat (i : Int)) (by omega) (by omega) (fun x hx => by rw [List.length_set]; exact hq x hx)
    rw [ed] at ih
    rw [← ih]
    show n_impl_paired_2 _ _ (itN (n_impl_paired_2 N ((i : Int), (a, ((s.length : Int), (S, ()))))) M) _ = _
    generalize itN (n_impl_paired_2 N ((i : Int), (a, ((s.length : Int), (S, ()))))) M = rec
    unfold n_impl_paired_2
    simp only [hs, hg, e]
    (repeat (first | refine bt (by omega) ?_ | refine bf (by omega) ?_ | refine nt (by omega) ?_ | refine nf (by omega) ?_))
    try rfl
theorem setAll_get (v : Int) (j : Nat) : ∀ (s o : List Int), j < o.length → (∀ x ∈ s, ∃ q : Nat, x = (q : Int)) → (setAll o s v).getD j 0 = if (j : Int) ∈ s then v else o.getD j 0
  | [], o, _, _ => by simp [setAll]
  | x :: xs, o, hj, hs => by
    obtain ⟨q, hq⟩ := hs x List.mem_cons_self
    show (setAll (o.set x.toNat v) xs v).getD j 0 = _
    rw [setAll_get v j xs _ (by rw [List.length_set]; exact hj) fun y hy => hs y (List.mem_cons_of_mem _ hy)]
    subst hq
    rw [Int.toNat_natCast]
    by_cases h1 : (j : Int) ∈ xs
    · rw [if_pos h1, if_pos (List.mem_cons_of_mem _ h1)]
    · rw [if_neg h1]
      by_cases h2 : j = q
      · subst h2
        rw [getD_set _ _ _ _ hj, if_pos rfl, if_pos List.mem_cons_self]
      · rw [if_neg (fun hm => by rcases List.mem_cons.1 hm with h | h; · omega
                                 · exact h1 h)]
        simp only [List.getD_eq_getElem?_getD, List.getElem?_set]
        rw [if_neg (Ne.symm h2)]
theorem step_end {N : Nat} (hNN : 4096 ≤ N) {b : Int} {L : List LT} {i : Nat} {F : List Fr} {oS oI : List Int} {m : List (Int × Bool)} (h : Inv L i F oS oI m) (hn : Nst (kd L) i F (fun j => oS.getD j 0)) (hi : i < L.length) (hv : lineB b (gt L (i : Int)) = true) (hk : kd L i = 4) : Step N b L i F oS oI m := by
  have hN := h.hN
  have e := w_suc i (by omega)
  have h1 := h.ls
  have h2 := h.li
  have h3 := h.nest
  have h4 := h.prod
  have hl := lps_le L F
  have hsc := scan_len L F
  have hlast := scan_last L F
  have hw := w_pred (lps L F).length (by omega)
  have hk' : (gt L (i : Int)).1 = 4 := hk
  rcases List.eq_nil_or_concat F with rfl | ⟨G, f, rfl⟩
  · refine Or.inl ⟨oS, oI.set i (i : Int), m, fun rec => ?_, fun rec => ?_⟩
    · unfold n_spec_l08Pairs_1 sS
      simp only [e, h1, opn_len, List.length_nil]
      (repeat (first | refine bt (by omega) ?_ | refine bf (by omega) ?_ | refine nt (by omega) ?_ | refine nf (by omega) ?_))
      rfl
    · unfold n_impl_paired_0 sI
      simp only [e, h2, opn_len, hsc, List.length_nil, w_neg]
      (repeat (first | refine bt (by omega) ?_ | refine bf (by omega) ?_ | refine nt (by omega) ?_ | refine nf (by omega) ?_))
      refine bd (line_impl N b _) ?_
      rw [hv]
      simp only [Bool.not_true, cond_false]
      (repeat (first | refine bt (by omega) ?_ | refine bf (by omega) ?_ | refine nt (by omega) ?_ | refine nf (by omega) ?_))
      simp only [Int.toNat_natCast]
  · rw [List.concat_eq_append] at h hn hl hsc hlast hw h3 h4 ⊢
    simp only [List.length_append, List.length_cons, List.length_nil, Nat.zero_add] at h3
    have hI := inv_end h hi
    have hb := (of_snoc h.bl).2
    have hkf := (of_snoc h.kds).2
    have hsl := (of_snoc h.sl).2
    have hst := (of_snoc h.st).2
    have hw1 := w_pred G.length (by omega)
    have tb := top_b G f
    have tl := top_l G f
    have hmg := (of_snoc h.mg).2
    have hlI : (oI.set i (i : Int)).length = L.length := by rw [List.length_set]; exact h2
    have hS := stops_spec (N := N) (G := G) (f := f) (i := i) (by omega) (by omega) f.s.length 0 N ((oS.set f.l (i : Int)).set i (f.b : Int)) (by omega) (by omega) (fun x hx => by obtain ⟨q, eq_, hq, _⟩ := hst x hx; exact ⟨q, eq_, by rw [List.length_set, List.length_set, h1]; omega⟩)
    rw [List.drop_zero] at hS
    have hnst : Nst (kd L) (i + 1) G (fun j => (setAll ((oS.set f.l (i : Int)).set i (f.b : Int)) f.s (i : Int)).getD j 0) := by
      refine nst_end hn hk fun j => ?_
      by_cases hj : j < L.length
      · show (setAll _ _ _).getD j 0 = _
        rw [setAll_get _ _ _ _ (by rw [List.length_set, List.length_set, h1]; exact hj) (fun x hx => by obtain ⟨q, eq_, _⟩ := hst x hx; exact ⟨q, eq_⟩), getD_set _ _ _ _ (by rw [List.length_set, h1]; exact hi), getD_set _ _ _ _ (by rw [h1]; omega)]
      · have z : ∀ x : List Int, x.length = L.length → x.getD j 0 = 0 := fun x hx => by rw [List.getD_eq_getElem?_getD, List.getElem?_eq_none (by omega)]; rfl
        show (setAll _ _ _).getD j 0 = _
        rw [z _ (by rw [setAll_len, List.length_set, List.length_set, h1]), if_neg, if_neg (by omega), if_neg (by omega), z _ h1]
        intro hm
        obtain ⟨q, eq_, hq, _⟩ := hst _ hm
        omega
    refine Or.inr ⟨G, _, _, m, hI, hnst, fun rec => ?_, fun rec => ?_⟩
    · unfold n_spec_l08Pairs_1 sS
      simp only [e, h1, opn_len, lst_len, stp_len, List.length_append, List.length_cons, List.length_nil, Nat.zero_add, hw1, tl, tb, Int.toNat_natCast, List.length_set]
      (repeat (first | refine bt (by omega) ?_ | refine bf (by omega) ?_ | refine nt (by omega) ?_ | refine nf (by omega) ?_))
      refine bd hS ?_
      have c1 := cut_o G f
      have c2 := cut_l G f
      have c3 := cut_s G f
      rw [Int.toNat_natCast] at c1 c2 c3
      simp only [c1, c2, c3]
      (repeat (first | refine bt (by omega) ?_ | refine bf (by omega) ?_ | refine nt (by omega) ?_ | refine nf (by omega) ?_))
      try rfl
    · by_cases h5 : kd L f.b = 5
      · have h5' : (gt L (f.b : Int)).1 = 5 := h5
        have hfl := (of_snoc h.lp).2 h5
        have hlp : lps L (G ++ [f]) = lps L G ++ [f] := by rw [lps_snoc, if_pos h5]
        have hlg := lps_le L G
        have hll : (lps L (G ++ [f])).length = (lps L G).length + 1 := by rw [hlp]; simp
        have hw2 := w_pred (lps L G).length (by omega)
        have hw3 := w_pred ((lps L G).length + 1) (by omega)
        have e6 : gt (stp (lps L (G ++ [f]))) ((lps L G).length : Int) = f.s := by rw [hlp]; exact top_s _ _
        have hT := stops_impl (N := N) (b := b) (i := i) e6 (by omega) f.s.length 0 N (((oI.set i (i : Int)).set i (f.b : Int)).set f.b (i : Int)) (by omega) (by omega) (fun x hx => by obtain ⟨q, eq_, hq, _⟩ := hst x hx; exact ⟨q, eq_, by rw [List.length_set, List.length_set, hlI]; omega⟩)
        rw [List.drop_zero] at hT
        have c1 := cut_o G f
        have c4 := cut_scan (L := L) (G := G) h5
        have c5 : (opn (lps L (G ++ [f]))).take (lps L G).length = opn (lps L G) := by rw [hlp]; have := cut_o (lps L G) f; rwa [Int.toNat_natCast] at this
        have c6 : (stp (lps L (G ++ [f]))).take (lps L G).length = stp (lps L G) := by rw [hlp]; have := cut_s (lps L G) f; rwa [Int.toNat_natCast] at this
        have hpr := hI.prod
        have c7 : gt (scanP 1 (cnts L (G ++ [f]))) ((lps L G).length : Int) = pr 1 (cnts L G) := by
          rw [gtn, ← scan_last L G, gtn, ← c4]
          simp [List.getD_eq_getElem?_getD]
        rw [Int.toNat_natCast] at c1
        unfold n_impl_paired_0 sI
        simp only [e, h2, opn_len, stp_len, hsc, hll, hw2, hw3, List.length_append, List.length_cons, List.length_nil, Nat.zero_add, hw1, tb, e6, Int.toNat_natCast, List.length_set]
        (repeat (first | refine bt (by omega) ?_ | refine bf (by omega) ?_ | refine nt (by omega) ?_ | refine nf (by omega) ?_))
        refine bd (line_impl N b _) ?_
        rw [hv]
        simp only [Bool.not_true, cond_false]
        (repeat (first | refine bt (by omega) ?_ | refine bf (by omega) ?_ | refine nt (by omega) ?_ | refine nf (by omega) ?_))
        refine bd hT ?_
        simp only [c1, c4, c5, c6, c7]
        (repeat (first | refine bt (by omega) ?_ | refine bf (by omega) ?_ | refine nt (by omega) ?_ | refine nf (by omega) ?_))
        rw [hfl]
      · have h2k : kd L f.b = 2 := by omega
        have h5' : ¬ (gt L (f.b : Int)).1 = 5 := h5
        have hfs := (of_snoc h.st0).2 h2k
        have hlp : lps L (G ++ [f]) = lps L G := by rw [lps_snoc, if_neg h5]
        have hcn : cnts L (G ++ [f]) = cnts L G := by rw [cnts_snoc, if_neg h5]
        have c1 := cut_o G f
        rw [Int.toNat_natCast] at c1
        rw [hlp] at hsc hlast hw hl
        rw [hcn] at hsc hlast h4
        have hlg := lps_le L G
        have hw2 := w_pred (lps L G).length (by omega)
        rw [hfs]
        have hsn : ∀ o v, setAll o [] v = o := fun _ _ => rfl
        rw [hsn]
        unfold n_impl_paired_0 sI
        rw [hlp, hcn]
        by_cases hm : mget m (f.b : Int) = true
        · have hne : f.l ≠ f.b := by rw [hmg] at hm; simpa using hm
          have hol := ((of_snoc h.el).2 hne).2
          have hrd : gt ((oI.set i (i : Int)).set i (f.b : Int)) (f.b : Int) = (f.l : Int) := by
            rw [gtn]
            show ((oI.set i (i : Int)).set i (f.b : Int)).getD f.b 0 = _
            rw [getD_set _ _ _ _ (by rw [hlI]; omega), if_neg (by omega), getD_set _ _ _ _ (by rw [h2]; omega), if_neg (by omega)]
            exact hol
          simp only [e, h2, opn_len, stp_len, hsc, hw2, hlast, List.length_append, List.length_cons, List.length_nil, Nat.zero_add, hw1, tb, Int.toNat_natCast, List.length_set, hm, hrd, c1]
          (repeat (first | refine bt (by omega) ?_ | refine bf (by omega) ?_ | refine nt (by omega) ?_ | refine nf (by omega) ?_))
          refine bd (line_impl N b _) ?_
          rw [hv]
          simp only [Bool.not_true, cond_false]
          (repeat (first | refine bt (by omega) ?_ | refine bf (by omega) ?_ | refine nt (by omega) ?_ | refine nf (by omega) ?_))
          try simp only [cond_true]
          (repeat (first | refine bt (by omega) ?_ | refine bf (by omega) ?_ | refine nt (by omega) ?_ | refine nf (by omega) ?_))
          try rfl
        · have hm : mget m (f.b : Int) = false := by simpa using hm
          have hfl : f.l = f.b := by rw [hmg] at hm; simpa using hm
          simp only [e, h2, opn_len, stp_len, hsc, hw2, hlast, List.length_append, List.length_cons, List.length_nil, Nat.zero_add, hw1, tb, Int.toNat_natCast, List.length_set, hm, c1]
          (repeat (first | refine bt (by omega) ?_ | refine bf (by omega) ?_ | refine nt (by omega) ?_ | refine nf (by omega) ?_))
          refine bd (line_impl N b _) ?_
          rw [hv]
          simp only [Bool.not_true, cond_false]
          (repeat (first | refine bt (by omega) ?_ | refine bf (by omega) ?_ | refine nt (by omega) ?_ | refine nf (by omega) ?_))
          try simp only [cond_false]
          (repeat (first | refine bt (by omega) ?_ | refine bf (by omega) ?_ | refine nt (by omega) ?_ | refine nf (by omega) ?_))
          rw [hfl]
theorem step_all {N : Nat} (hNN : 4096 ≤ N) {b : Int} {L : List LT} {i : Nat} {F : List Fr} {oS oI : List Int} {m : List (Int × Bool)} (h : Inv L i F oS oI m) (hn : Nst (kd L) i F (fun j => oS.getD j 0)) (hi : i < L.length) (hv : lineB b (gt L (i : Int)) = true) : Step N b L i F oS oI m := by
  have hk := line_kd hv
  by_cases h0 : kd L i = 0 ∨ kd L i = 1
  · exact step_skip h hn hi hv h0
  by_cases h2 : kd L i = 2 ∨ kd L i = 5
  · exact step_push hNN h hn hi hv h2
  by_cases h3 : kd L i = 3
  · exact step_else h hn hi hv h3
  by_cases h4 : kd L i = 4
  · exact step_end hNN h hn hi hv h4
  exact step_stop hNN h hn hi hv (by omega)
end Go.Proofs.Ytheemkehedmlfaa.P
