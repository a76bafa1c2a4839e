/- The pairing as a whole: both refuse, or both tell the same lines, of which Nest tells more. -/
import Derived.Test.YtheemkehedmlfaaP5
set_option linter.unusedVariables false
set_option linter.unusedSimpArgs false
set_option maxRecDepth 4000
namespace Go.Proofs.Ytheemkehedmlfaa.P
open Go Go.Proofs.Ytheemkehedmlfaa.E
structure PairsOk (b : Int) (L : List LT) (o : List Int) : Prop where
  len : o.length = L.length
  lt : L.length ≤ 24
  cl : frs (kd L) L.length = []
  pa : ∀ j, j < L.length → PA (kd L) (fun j => o.getD j 0) L.length j
  dp : ∀ j, j ≤ L.length → (frs (kd L) j).length ≤ 4
  li : ∀ j : Nat, j < L.length → lineB b (gt L (j : Int)) = true
theorem bs_len (F : List Fr) : (bs F).length = F.length := by simp [bs]
theorem sim_ok {N : Nat} (hNN : 4096 ≤ N) (b : Int) (L : List LT) : ∀ (d i M : Nat) (F : List Fr) (oS oI : List Int) (m : List (Int × Bool)), i + d = L.length → d < M → Inv L i F oS oI m → Nst (kd L) i F (fun j => oS.getD j 0) → (∀ j, j ≤ i → (frs (kd L) j).length ≤ 4) → (∀ j : Nat, i ≤ j → j < L.length → lineB b (gt L (j : Int)) = true) →
    (∃ o o' m', itN (n_spec_l08Pairs_1 N (L, ())) M (sS F oS i) = some (.inl (false, (o, ()))) ∧ itN (n_impl_paired_0 N (b, (L, (L, ((L.length : Int), ()))))) M (sI L F oI m i) = some (.inl (false, ([], (o', (m', ())))))) ∨
    ∃ F' o m', itN (n_spec_l08Pairs_1 N (L, ())) M (sS F oS i) = some (.inr (opn F', (o, ()))) ∧ itN (n_impl_paired_0 N (b, (L, (L, ((L.length : Int), ()))))) M (sI L F oI m i) = some (.inr (opn F', (o, (m', ())))) ∧
      o.length = L.length ∧ Nst (kd L) L.length F' (fun j => o.getD j 0) ∧ ∀ j, j ≤ L.length → (frs (kd L) j).length ≤ 4 := by
  intro d
  induction d with
  | zero =>
    intro i M F oS oI m hd hM h hn hdp _
    obtain ⟨M, rfl⟩ : ∃ M', M = M' + 1 := ⟨M - 1, by omega⟩
    obtain rfl : i = L.length := by omega
    have heq : oS = oI := by
      apply List.ext_getElem (by rw [h.ls, h.li])
      intro j h1 h2
      have := h.eq j (by rw [h.ls] at h1; exact h1)
      simp only [List.getD_eq_getElem?_getD, List.getElem?_eq_getElem h1, List.getElem?_eq_getElem h2] at this
      exact this.symm
    subst heq
    have h1 := h.ls
    refine Or.inr ⟨F, oS, m, ?_, ?_, h1, hn, hdp⟩
    · show n_spec_l08Pairs_1 _ _ _ _ = _
      unfold n_spec_l08Pairs_1 sS
      simp only [h1]
      (repeat (first | refine bt (by omega) ?_ | refine bf (by omega) ?_ | refine nt (by omega) ?_ | refine nf (by omega) ?_))
      rfl
    · show n_impl_paired_0 _ _ _ _ = _
      unfold n_impl_paired_0 sI
      simp only
      (repeat (first | refine bt (by omega) ?_ | refine bf (by omega) ?_ | refine nt (by omega) ?_ | refine nf (by omega) ?_))
      rfl
  | succ d ih =>
    intro i M F oS oI m hd hM h hn hdp hv
    obtain ⟨M, rfl⟩ : ∃ M', M = M' + 1 := ⟨M - 1, by omega⟩
    rcases step_all hNN h hn (by omega) (hv i (Nat.le_refl _) (by omega)) with ⟨o, o', m', h1, h2⟩ | ⟨F', oS', oI', m', h', hn', h1, h2⟩
    · exact Or.inl ⟨o, o', m', h1 _, h2 _⟩
    · have hdp' : ∀ j, j ≤ i + 1 → (frs (kd L) j).length ≤ 4 := by
        intro j hj
        by_cases e : j = i + 1
        · rw [e, hn'.frs, bs_len]; exact h'.nest
        · exact hdp j (by omega)
      have := ih (i + 1) M F' oS' oI' m' (by omega) (by omega) h' hn' hdp' (fun j hj hl => hv j (by omega) hl)
      rw [← h1 (itN (n_spec_l08Pairs_1 N (L, ())) M), ← h2 (itN (n_impl_paired_0 N (b, (L, (L, ((L.length : Int), ()))))) M)] at this
      exact this
theorem sim_bad {N : Nat} (hNN : 4096 ≤ N) (b : Int) (L : List LT) : ∀ (d i M : Nat) (F : List Fr) (oS oI : List Int) (m : List (Int × Bool)), i + d = L.length → d < M → Inv L i F oS oI m → Nst (kd L) i F (fun j => oS.getD j 0) → (∃ j : Nat, i ≤ j ∧ j < L.length ∧ lineB b (gt L (j : Int)) = false) →
    ∃ o' m', itN (n_impl_paired_0 N (b, (L, (L, ((L.length : Int), ()))))) M (sI L F oI m i) = some (.inl (false, ([], (o', (m', ()))))) := by
  intro d
  induction d with
  | zero =>
    intro i M F oS oI m hd hM _ _ hx
    obtain ⟨j, h1, h2, _⟩ := hx
    omega
  | succ d ih =>
    intro i M F oS oI m hd hM h hn hx
    obtain ⟨M, rfl⟩ : ∃ M', M = M' + 1 := ⟨M - 1, by omega⟩
    by_cases hv : lineB b (gt L (i : Int)) = true
    · rcases step_all hNN h hn (by omega) hv with ⟨o, o', m', h1, h2⟩ | ⟨F', oS', oI', m', h', hn', h1, h2⟩
      · exact ⟨o', m', h2 _⟩
      · have hx' : ∃ j : Nat, i + 1 ≤ j ∧ j < L.length ∧ lineB b (gt L (j : Int)) = false := by
          obtain ⟨j, h1, h2, h3⟩ := hx
          refine ⟨j, ?_, h2, h3⟩
          by_cases e : j = i
          · rw [e, hv] at h3; cases h3
          · omega
        obtain ⟨o', m'', hh⟩ := ih (i + 1) M F' oS' oI' m' (by omega) (by omega) h' hn' hx'
        exact ⟨o', m'', (h2 _).trans hh⟩
    · have hv : lineB b (gt L (i : Int)) = false := by simpa using hv
      have h2 := h.li
      refine ⟨oI.set i (i : Int), m, ?_⟩
      show n_impl_paired_0 _ _ _ _ = _
      generalize itN (n_impl_paired_0 N (b, (L, (L, ((L.length : Int), ()))))) M = rec
      unfold n_impl_paired_0 sI
      simp only [h2]
      (repeat (first | refine bt (by omega) ?_ | refine bf (by omega) ?_ | refine nt (by omega) ?_ | refine nf (by omega) ?_))
      refine bd (line_impl N b _) ?_
      rw [hv]
      simp only [Bool.not_false, cond_true, Int.toNat_natCast]
theorem spec_first {N : Nat} {b : Int} {L : List LT} (hN : L.length ≤ 24) : ∀ (d j M : Nat), j + d = L.length → d < M →
    ((∀ q : Nat, j ≤ q → q < L.length → lineB b (gt L (q : Int)) = true) → itN (n_spec_l08Pairs_0 N (b, (L, ()))) M ((j : Int), (idl j, ())) = some (.inr (idl L.length, ()))) ∧
    ((∃ q : Nat, j ≤ q ∧ q < L.length ∧ lineB b (gt L (q : Int)) = false) → ∃ o, itN (n_spec_l08Pairs_0 N (b, (L, ()))) M ((j : Int), (idl j, ())) = some (.inl (false, (o, ())))) := by
  intro d
  induction d with
  | zero =>
    intro j M hj hM
    obtain ⟨M, rfl⟩ : ∃ M', M = M' + 1 := ⟨M - 1, by omega⟩
    obtain rfl : j = L.length := by omega
    refine ⟨fun _ => ?_, ?_⟩
    · show n_spec_l08Pairs_0 _ _ _ _ = _
      unfold n_spec_l08Pairs_0
      simp only
      (repeat (first | refine bt (by omega) ?_ | refine bf (by omega) ?_ | refine nt (by omega) ?_ | refine nf (by omega) ?_))
      rfl
    · rintro ⟨q, h1, h2, _⟩
      omega
  | succ d ih =>
    intro j M hj hM
    obtain ⟨M, rfl⟩ : ∃ M', M = M' + 1 := ⟨M - 1, by omega⟩
    have e := w_suc j (by omega)
    have hil := idl_len j
    have his : idl j ++ ((j : Int) :: []) = idl (j + 1) := idl_succ j
    have go : lineB b (gt L (j : Int)) = true → itN (n_spec_l08Pairs_0 N (b, (L, ()))) (M + 1) ((j : Int), (idl j, ())) = itN (n_spec_l08Pairs_0 N (b, (L, ()))) M (((j + 1 : Nat) : Int), (idl (j + 1), ())) := by
      intro hv
      show n_spec_l08Pairs_0 _ _ (itN (n_spec_l08Pairs_0 N (b, (L, ()))) M) _ = _
      generalize itN (n_spec_l08Pairs_0 N (b, (L, ()))) M = rec
      unfold n_spec_l08Pairs_0
      simp only [e, hil, his]
      (repeat (first | refine bt (by omega) ?_ | refine bf (by omega) ?_ | refine nt (by omega) ?_ | refine nf (by omega) ?_))
      refine bd (line_spec N b _) ?_
      rw [hv]
      simp only [Bool.not_true, cond_false]
      (repeat (first | refine bt (by omega) ?_ | refine bf (by omega) ?_ | refine nt (by omega) ?_ | refine nf (by omega) ?_))
      try rfl
    obtain ⟨i1, i2⟩ := ih (j + 1) M (by omega) (by omega)
    refine ⟨fun hv => ?_, ?_⟩
    · rw [go (hv j (Nat.le_refl _) (by omega))]
      exact i1 fun q hq hl => hv q (by omega) hl
    · rintro ⟨q, h1, h2, h3⟩
      by_cases hv : lineB b (gt L (j : Int)) = true
      · rw [go hv]
        refine i2 ⟨q, ?_, h2, h3⟩
        by_cases e : q = j
        · rw [e, hv] at h3; cases h3
        · omega
      · have hv : lineB b (gt L (j : Int)) = false := by simpa using hv
        refine ⟨idl j, ?_⟩
        show n_spec_l08Pairs_0 _ _ (itN (n_spec_l08Pairs_0 N (b, (L, ()))) M) _ = _
        generalize itN (n_spec_l08Pairs_0 N (b, (L, ()))) M = rec
        unfold n_spec_l08Pairs_0
        simp only
        (repeat (first | refine bt (by omega) ?_ | refine bf (by omega) ?_ | refine nt (by omega) ?_ | refine nf (by omega) ?_))
        refine bd (line_spec N b _) ?_
        rw [hv]
        rfl
theorem paired_ex {N : Nat} (hNN : 4096 ≤ N) (b : Int) (L : List LT) (hN : L.length ≤ 24) :
    (∃ o o', F_spec_l08Pairs N (b, (L, ())) = some (o, (false, ())) ∧ F_impl_paired N (b, (L, ())) = some (o', (false, ()))) ∨
    ∃ o, F_spec_l08Pairs N (b, (L, ())) = some (o, (true, ())) ∧ F_impl_paired N (b, (L, ())) = some (o, (true, ())) ∧ PairsOk b L o := by
  obtain ⟨s1, s2⟩ := spec_first (N := N) (b := b) hN L.length 0 N (by omega) (by omega)
  have hst := inv_start (L := L) hN
  have hns := nst_start (kd L) (fun j => (idl L.length).getD j 0)
  have e0 : ((0 : Int), ([], ())) = (((0 : Nat) : Int), (idl 0, ())) := rfl
  have eI : ((0 : Int), (([] : List Int), (([] : List Int), (([] : List (List Int)), (((1 : Int) :: []), ((List.replicate (L.length : Int).toNat (0 : Int)), (([] : List (Int × Bool)), ()))))))) = sI L [] (List.replicate L.length 0) [] 0 := by
    simp [sI, opn, stp, lps, cnts, scanP]
  by_cases hv : ∀ j : Nat, 0 ≤ j → j < L.length → lineB b (gt L (j : Int)) = true
  · have g1 := s1 hv
    have hz : ∀ j, j ≤ 0 → (frs (kd L) j).length ≤ 4 := fun j hj => by
      have e : j = 0 := Nat.le_zero.1 hj
      subst e
      exact Nat.zero_le _
    rcases sim_ok hNN b L L.length 0 N [] _ _ _ (by omega) (by omega) hst hns hz hv with ⟨o, o', m', h1, h2⟩ | ⟨F', o, m', h1, h2, h3, h4, h5⟩
    · refine Or.inl ⟨o, [], ?_, ?_⟩
      · unfold F_spec_l08Pairs
        refine bd g1 ?_
        simp only [Sum.isLeft_inr, cond_false, Sum.getRight?_inr, Option.bind_some]
        exact bd h1 rfl
      · unfold F_impl_paired
        simp only
        (repeat (first | refine bt (by omega) ?_ | refine bf (by omega) ?_ | refine nt (by omega) ?_ | refine nf (by omega) ?_))
        rw [eI]
        exact bd h2 rfl
    · by_cases hF : F' = []
      · subst hF
        obtain ⟨w1, w2⟩ := nst_whole h4
        refine Or.inr ⟨o, ?_, ?_, ⟨h3, hN, w1, w2, h5, fun j hj => hv j (Nat.zero_le _) hj⟩⟩
        · unfold F_spec_l08Pairs
          refine bd g1 ?_
          simp only [Sum.isLeft_inr, cond_false, Sum.getRight?_inr, Option.bind_some]
          refine bd h1 ?_
          simp only [Sum.isLeft_inr, cond_false, Sum.getRight?_inr, Option.bind_some, opn_len, List.length_nil]
          (repeat (first | refine bt (by omega) ?_ | refine bf (by omega) ?_ | refine nt (by omega) ?_ | refine nf (by omega) ?_))
          rw [decide_eq_true (by omega : (L.length : Int) ≤ 24)]
        · unfold F_impl_paired
          simp only
          (repeat (first | refine bt (by omega) ?_ | refine bf (by omega) ?_ | refine nt (by omega) ?_ | refine nf (by omega) ?_))
          rw [eI]
          refine bd h2 ?_
          simp only [Sum.isLeft_inr, cond_false, Sum.getRight?_inr, Option.bind_some, opn_len, List.length_nil]
          rfl
      · have hl : F'.length ≠ 0 := fun h => hF (List.length_eq_zero_iff.1 h)
        refine Or.inl ⟨o, o, ?_, ?_⟩
        · unfold F_spec_l08Pairs
          refine bd g1 ?_
          simp only [Sum.isLeft_inr, cond_false, Sum.getRight?_inr, Option.bind_some]
          refine bd h1 ?_
          simp only [Sum.isLeft_inr, cond_false, Sum.getRight?_inr, Option.bind_some, opn_len]
          (repeat (first | refine bt (by omega) ?_ | refine bf (by omega) ?_ | refine nt (by omega) ?_ | refine nf (by omega) ?_))
          try rfl
        · unfold F_impl_paired
          simp only
          (repeat (first | refine bt (by omega) ?_ | refine bf (by omega) ?_ | refine nt (by omega) ?_ | refine nf (by omega) ?_))
          rw [eI]
          refine bd h2 ?_
          simp only [Sum.isLeft_inr, cond_false, Sum.getRight?_inr, Option.bind_some, opn_len]
          rw [decide_eq_false (by omega)]
  · have hx : ∃ q : Nat, 0 ≤ q ∧ q < L.length ∧ lineB b (gt L (q : Int)) = false := by
      apply Classical.byContradiction
      intro hc
      apply hv
      intro j h0 hj
      by_cases e : lineB b (gt L (j : Int)) = true
      · exact e
      · exact absurd ⟨j, h0, hj, by simpa using e⟩ hc
    obtain ⟨o, g2⟩ := s2 hx
    obtain ⟨o', m', g3⟩ := sim_bad hNN b L L.length 0 N [] _ _ _ (by omega) (by omega) hst hns hx
    refine Or.inl ⟨o, [], ?_, ?_⟩
    · unfold F_spec_l08Pairs
      exact bd g2 rfl
    · unfold F_impl_paired
      simp only
      (repeat (first | refine bt (by omega) ?_ | refine bf (by omega) ?_ | refine nt (by omega) ?_ | refine nf (by omega) ?_))
      rw [eI]
      exact bd g3 rfl
theorem pairs_long {N : Nat} (hNN : 4096 ≤ N) {b : Int} {L : List LT} (hN : ¬ L.length ≤ 24) : F_spec_l08Pairs N (b, (L, ())) = some ([], (false, ())) := by
  obtain ⟨M, rfl⟩ : ∃ M', N = M' + 1 := ⟨N - 1, by omega⟩
  unfold F_spec_l08Pairs
  have g1 : itN (n_spec_l08Pairs_0 (M + 1) (b, (L, ()))) (M + 1) ((0 : Int), ([], ())) = some (.inr ([], ())) := by
    show n_spec_l08Pairs_0 _ _ _ _ = _
    unfold n_spec_l08Pairs_0
    simp only
    (repeat (first | refine bt (by omega) ?_ | refine bf (by omega) ?_ | refine nt (by omega) ?_ | refine nf (by omega) ?_))
    rfl
  have g2 : itN (n_spec_l08Pairs_1 (M + 1) (L, ())) (M + 1) ((0 : Int), ([], ([], ([], ([], ()))))) = some (.inr ([], ([], ()))) := by
    show n_spec_l08Pairs_1 _ _ _ _ = _
    unfold n_spec_l08Pairs_1
    simp only [List.length_nil]
    (repeat (first | refine bt (by omega) ?_ | refine bf (by omega) ?_ | refine nt (by omega) ?_ | refine nf (by omega) ?_))
    rfl
  refine bd g1 ?_
  simp only [Sum.isLeft_inr, cond_false, Sum.getRight?_inr, Option.bind_some]
  refine bd g2 ?_
  simp only [Sum.isLeft_inr, cond_false, Sum.getRight?_inr, Option.bind_some, List.length_nil]
  rw [decide_eq_false (by omega : ¬ (L.length : Int) ≤ 24)]
  rfl
/-- Valid code: both say the same of it. -/
theorem is_ex {N : Nat} (hNN : 4096 ≤ N) (b : Int) (L : List LT) :
    (F_spec_l08Is N (b, (L, ())) = some (false, ()) ∧ F_impl_ValidLines N (b, (L, ())) = some (false, ())) ∨
    (F_spec_l08Is N (b, (L, ())) = some (true, ()) ∧ F_impl_ValidLines N (b, (L, ())) = some (true, ()) ∧ bitsV b = true ∧ ∃ o, F_spec_l08Pairs N (b, (L, ())) = some (o, (true, ())) ∧ F_impl_paired N (b, (L, ())) = some (o, (true, ())) ∧ PairsOk b L o) := by
  unfold F_spec_l08Is F_impl_ValidLines
  simp only [bits_spec, bits_impl, Option.bind_some]
  by_cases hN : L.length ≤ 24
  · rcases paired_ex hNN b L hN with ⟨o, o', h1, h2⟩ | ⟨o, h1, h2, h3⟩
    · left
      rw [h1, h2]
      cases bitsV b with
      | false => exact ⟨rfl, rfl⟩
      | true =>
        refine ⟨rfl, ?_⟩
        simp only [Bool.not_true, cond_false, Option.bind_some]
        (repeat (first | refine bt (by omega) ?_ | refine bf (by omega) ?_ | refine nt (by omega) ?_ | refine nf (by omega) ?_))
        try rfl
    · rw [h1, h2]
      cases hb : bitsV b with
      | false => exact .inl ⟨rfl, rfl⟩
      | true =>
        refine .inr ⟨rfl, ?_, rfl, o, rfl, rfl, h3⟩
        simp only [Bool.not_true, cond_false, Option.bind_some]
        (repeat (first | refine bt (by omega) ?_ | refine bf (by omega) ?_ | refine nt (by omega) ?_ | refine nf (by omega) ?_))
        try rfl
  · left
    rw [pairs_long hNN hN]
    cases bitsV b with
    | false => exact ⟨rfl, rfl⟩
    | true =>
      refine ⟨rfl, ?_⟩
      simp only [Bool.not_true, cond_false, Option.bind_some]
      (repeat (first | refine bt (by omega) ?_ | refine bf (by omega) ?_ | refine nt (by omega) ?_ | refine nf (by omega) ?_))
      try rfl
end Go.Proofs.Ytheemkehedmlfaa.P
