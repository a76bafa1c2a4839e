/- Code run alone: both sides go on alike, and end. -/
import Derived.Test.YtheemkehedmlfaaP7
set_option linter.unusedVariables false
set_option linter.unusedSimpArgs false
set_option maxRecDepth 4000
set_option linter.unusedSectionVars false
namespace Go.Proofs.Ytheemkehedmlfaa.P
open Go Go.Proofs.Ytheemkehedmlfaa.E
/-! ### what is left to do -/
/-- The steps that are left: places and rounds of the loops that are open, outermost first, then the place. -/
def mes (n : Nat) : List (Nat × Nat) → Nat → Nat → Nat
  | [], at_, w => ((n - at_) * 10 + 9) * 260 ^ w
  | (b, r) :: t, at_, w => ((n - b) * 10 + r) * 260 ^ w + mes n t at_ (w - 1)
theorem mes_le {n : Nat} (hn : n ≤ 24) : ∀ (S : List (Nat × Nat)) (at_ w : Nat), S.length ≤ w → (∀ p ∈ S, p.2 ≤ 9) → mes n S at_ w ≤ 250 * 260 ^ w
  | [], at_, w, _, _ => by
    simp only [mes]
    exact Nat.mul_le_mul_right _ (by omega)
  | (b, r) :: t, at_, w, hw, hr => by
    obtain ⟨v, rfl⟩ : ∃ v, w = v + 1 := ⟨w - 1, by simp at hw; omega⟩
    have ih := mes_le hn t at_ v (by simpa using hw) (fun p hp => hr p (by simp [hp]))
    have h2 : ((n - b) * 10 + r) * 260 ^ (v + 1) ≤ 249 * 260 ^ (v + 1) := Nat.mul_le_mul_right _ (by have := hr (b, r) (by simp); simp only at this; omega)
    simp only [mes, Nat.add_sub_cancel]
    rw [Nat.pow_succ] at h2 ⊢
    omega
theorem mes_go {n : Nat} : ∀ (S : List (Nat × Nat)) (i j w : Nat), i < j → i < n → mes n S j w < mes n S i w
  | [], i, j, w, h, hi => by
    simp only [mes]
    exact Nat.mul_lt_mul_of_pos_right (by omega) (Nat.pow_pos (by decide))
  | (b, r) :: t, i, j, w, h, hi => by
    have := mes_go t i j (w - 1) h hi
    simp only [mes]; omega
theorem mes_push {n : Nat} (hn : n ≤ 24) : ∀ (S : List (Nat × Nat)) (i r w : Nat), S.length + 1 ≤ w → r ≤ 8 → mes n (S ++ [(i, r)]) (i + 1) w < mes n S i w
  | [], i, r, w, hw, hr => by
    obtain ⟨v, rfl⟩ : ∃ v, w = v + 1 := ⟨w - 1, by simp at hw; omega⟩
    have h := mes_le hn [] (i + 1) v (Nat.zero_le _) (by simp)
    have h2 : ((n - i) * 10 + r + 1) * 260 ^ (v + 1) ≤ ((n - i) * 10 + 9) * 260 ^ (v + 1) := Nat.mul_le_mul_right _ (by omega)
    have := Nat.pow_pos (n := v) (show 0 < 260 by decide)
    simp only [mes, List.nil_append, Nat.add_sub_cancel] at h ⊢
    rw [Nat.add_mul _ 1, Nat.one_mul] at h2
    have e : 260 ^ (v + 1) = 260 ^ v * 260 := Nat.pow_succ ..
    omega
  | (b, q) :: t, i, r, w, hw, hr => by
    have := mes_push hn t i r (w - 1) (by simp at hw; omega) hr
    simp only [mes, List.cons_append]; omega
theorem mes_back {n : Nat} (hn : n ≤ 24) : ∀ (S : List (Nat × Nat)) (b r i j w : Nat), S.length + 1 ≤ w → mes n (S ++ [(b, r)]) j w < mes n (S ++ [(b, r + 1)]) i w
  | [], b, r, i, j, w, hw => by
    obtain ⟨v, rfl⟩ : ∃ v, w = v + 1 := ⟨w - 1, by simp at hw; omega⟩
    have h := mes_le hn [] j v (Nat.zero_le _) (by simp)
    have := Nat.pow_pos (n := v) (show 0 < 260 by decide)
    simp only [mes, List.nil_append, Nat.add_sub_cancel] at h ⊢
    have e2 : ∀ X, ((n - b) * 10 + (r + 1)) * X = ((n - b) * 10 + r) * X + X := fun X => by rw [← Nat.add_assoc, Nat.add_mul _ 1, Nat.one_mul]
    rw [e2]
    have e : 260 ^ (v + 1) = 260 ^ v * 260 := Nat.pow_succ ..
    omega
  | (c, q) :: t, b, r, i, j, w, hw => by
    have := mes_back hn t b r i j (w - 1) (by simp at hw; omega)
    simp only [mes, List.cons_append]; omega
theorem mes_pop {n : Nat} : ∀ (S : List (Nat × Nat)) (b r i j w : Nat), S.length + 1 ≤ w → b < j → b < n → mes n S j w < mes n (S ++ [(b, r)]) i w
  | [], b, r, i, j, w, hw, hj, hb => by
    have h2 : ((n - j) * 10 + 9 + 1) * 260 ^ w ≤ ((n - b) * 10 + r) * 260 ^ w := Nat.mul_le_mul_right _ (by omega)
    have := Nat.pow_pos (n := w) (show 0 < 260 by decide)
    simp only [mes, List.nil_append]
    rw [Nat.add_mul _ 1, Nat.one_mul] at h2
    omega
  | (c, q) :: t, b, r, i, j, w, hw, hj, hb => by
    have := mes_pop t b r i j (w - 1) (by simp at hw; omega) hj hb
    simp only [mes, List.cons_append]; omega
/-! ### the state -/
theorem frs_lt (k : Nat → Int) : ∀ (i x : Nat), x ∈ frs k i → x < i
  | 0, x, h => by cases h
  | i + 1, x, h => by
    rw [frs] at h
    split at h
    · rcases List.mem_append.1 h with h | h
      · have := frs_lt k i x h; omega
      · rw [List.mem_singleton.1 h]; omega
    · split at h
      · have := frs_lt k i x (List.dropLast_subset _ h); omega
      · have := frs_lt k i x h; omega
theorem lo_lt {k : Nat → Int} {i x : Nat} (h : x ∈ lo k i) : x < i := frs_lt k i x (List.mem_filter.1 h).1
structure Rel (b : Int) (L : List LT) (i : Nat) (S : List (Nat × Nat)) (now c : List Int) : Prop where
  hi : i ≤ L.length
  fst : S.map (·.1) = lo (kd L) i
  rnd : ∀ p ∈ S, 1 ≤ p.2 ∧ p.2 ≤ 8 ∧ c.getD p.1 0 = ct L p.1 - p.2 + 1
  cl : c.length = L.length
  nl : now.length = 8
  nw : ∀ x ∈ now, wordV b x = true
def rs (S : List (Nat × Nat)) : List Int := S.map fun p => (p.2 : Int)
theorem rs_len (S : List (Nat × Nat)) : (rs S).length = S.length := by simp [rs]
theorem gt_mem {α : Type} [Inhabited α] {l : List α} {j : Int} (h0 : 0 ≤ j) (h1 : j < l.length) : gt l j ∈ l := by
  unfold gt
  have : j.toNat < l.length := by omega
  rw [List.getD_eq_getElem?_getD, List.getElem?_eq_getElem this]
  exact List.getElem_mem _
theorem set_word {b : Int} {now : List Int} (h : ∀ x ∈ now, wordV b x = true) {d : Nat} {v : Int} (hv : wordV b v = true) : ∀ x ∈ now.set d v, wordV b x = true := by
  intro x hx
  rcases List.mem_or_eq_of_mem_set hx with hx | rfl
  · exact h x hx
  · exact hv
/-- Both take the same step. -/
def AStep (N : Nat) (b : Int) (L : List LT) (o : List Int) (i : Nat) (S : List (Nat × Nat)) (now c path : List Int) : Prop :=
  ∃ i' S' now' c' path', Rel b L i' S' now' c' ∧ mes L.length S' i' 4 < mes L.length S i 4 ∧ path'.length ≤ path.length + 1 ∧
    (∀ rec, n_spec_l08Alone_0 N (b, (L, (o, ()))) rec ((i : Int), (path, (now, (c, ())))) = rec ((i' : Int), (path', (now', (c', ()))))) ∧
    ∀ rec, n_impl_alone_0 N (b, (L, (o, ()))) rec ((i : Int), (path, (rs S, (now, ())))) = rec ((i' : Int), (path', (rs S', (now', ()))))
theorem inB_iff {n a b : Int} : inB n a b = true ↔ a ≤ n ∧ n ≤ b := by simp [inB]
section
variable {N : Nat} {b : Int} {L : List LT} {o : List Int} (hp : PairsOk b L o) (hb : bitsV b = true) {i : Nat} {S : List (Nat × Nat)} {now c path : List Int} (h : Rel b L i S now c) (hi : i < L.length) (hq : path.length ≤ 8796093022208)
include hp hb h hi hq
theorem as_set (hk : kd L i = 0) : AStep N b L o i S now c path := by
  have hN := hp.lt
  have e := w_suc i (by omega)
  have hk' : (gt L (i : Int)).1 = 0 := hk
  have hl := hp.li i hi
  unfold lineB at hl
  rw [if_pos hk'] at hl
  simp only [Bool.and_eq_true, inB_iff] at hl
  obtain ⟨h1, h2, h3, h4⟩ := hl
  have hn := h.nl
  obtain ⟨v, g1, g2, g3⟩ := do_ok N hb (h.nw _ (gt_mem (j := (gt L (i : Int)).2.2.2.1) h3.1 (by omega))) (h.nw _ (gt_mem (j := (gt L (i : Int)).2.2.2.2) h4.1 (by omega))) h2
  refine ⟨i + 1, S, now.set (gt L (i : Int)).2.1.toNat v, c, path ++ ((i : Int) :: []), ⟨hi, by rw [h.fst, lo_skip (.inl hk)], h.rnd, h.cl, by rw [List.length_set]; exact hn, set_word h.nw g3⟩, mes_go _ _ _ _ (by omega) hi, by simp, fun rec => ?_, fun rec => ?_⟩
  · unfold n_spec_l08Alone_0
    simp only [e, hn]
    (repeat (first | refine bt (by omega) ?_ | refine bf (by omega) ?_ | refine nt (by omega) ?_ | refine nf (by omega) ?_))
    refine bd g1 ?_
    simp only
    (repeat (first | refine bt (by omega) ?_ | refine bf (by omega) ?_ | refine nt (by omega) ?_ | refine nf (by omega) ?_))
    try rfl
  · unfold n_impl_alone_0
    simp only [e, hn]
    (repeat (first | refine bt (by omega) ?_ | refine bf (by omega) ?_ | refine nt (by omega) ?_ | refine nf (by omega) ?_))
    refine bd g2 ?_
    simp only
    (repeat (first | refine bt (by omega) ?_ | refine bf (by omega) ?_ | refine nt (by omega) ?_ | refine nf (by omega) ?_))
    try rfl
theorem as_const (hk : kd L i = 1) : AStep N b L o i S now c path := by
  have hN := hp.lt
  have e := w_suc i (by omega)
  have hk' : (gt L (i : Int)).1 = 1 := hk
  have hl := hp.li i hi
  unfold lineB at hl
  rw [if_neg (by omega), if_pos hk'] at hl
  simp only [Bool.and_eq_true, inB_iff] at hl
  obtain ⟨h1, _, _, h4⟩ := hl
  have hn := h.nl
  refine ⟨i + 1, S, now.set (gt L (i : Int)).2.1.toNat (gt L (i : Int)).2.2.2.2, c, path ++ ((i : Int) :: []), ⟨hi, by rw [h.fst, lo_skip (.inr (.inl hk))], h.rnd, h.cl, by rw [List.length_set]; exact hn, set_word h.nw h4⟩, mes_go _ _ _ _ (by omega) hi, by simp, fun rec => ?_, fun rec => ?_⟩
  · unfold n_spec_l08Alone_0
    simp only [e, hn]
    (repeat (first | refine bt (by omega) ?_ | refine bf (by omega) ?_ | refine nt (by omega) ?_ | refine nf (by omega) ?_))
    try rfl
  · unfold n_impl_alone_0
    simp only [e, hn]
    (repeat (first | refine bt (by omega) ?_ | refine bf (by omega) ?_ | refine nt (by omega) ?_ | refine nf (by omega) ?_))
    try rfl
theorem line_test (hk : kd L i = 2 ∨ kd L i = 6) : ∃ t, (0 ≤ (gt L (i : Int)).2.2.2.1 ∧ (gt L (i : Int)).2.2.2.1 ≤ 7) ∧ (0 ≤ (gt L (i : Int)).2.2.2.2 ∧ (gt L (i : Int)).2.2.2.2 ≤ 7) ∧
    F_spec_l01Test N ((gt L (i : Int)).2.2.1, (b, (gt now (gt L (i : Int)).2.2.2.1, (gt now (gt L (i : Int)).2.2.2.2, ())))) = some (t, ()) ∧ F_impl_holds N ((gt L (i : Int)).2.2.1, (b, (gt now (gt L (i : Int)).2.2.2.1, (gt now (gt L (i : Int)).2.2.2.2, ())))) = some (t, ()) := by
  have hk' : (gt L (i : Int)).1 = 2 ∨ (gt L (i : Int)).1 = 6 := hk
  have hl := hp.li i hi
  unfold lineB at hl
  rw [if_neg (by omega), if_neg (by omega), if_pos hk'] at hl
  simp only [Bool.and_eq_true, inB_iff] at hl
  obtain ⟨h1, h2, h3, h4⟩ := hl
  have hn := h.nl
  obtain ⟨t, g1, g2⟩ := test_ok N (c := (gt L (i : Int)).2.2.1) hb (h.nw _ (gt_mem (j := (gt L (i : Int)).2.2.2.1) h3.1 (by omega))) (h.nw _ (gt_mem (j := (gt L (i : Int)).2.2.2.2) h4.1 (by omega)))
  exact ⟨t, h3, h4, g1, g2⟩
theorem as_if (hk : kd L i = 2) : AStep N b L o i S now c path := by
  have hN := hp.lt
  have e := w_suc i (by omega)
  have hk' : (gt L (i : Int)).1 = 2 := hk
  have hn := h.nl
  have hol := hp.len
  obtain ⟨t, h3, h4, g1, g2⟩ := line_test (N := N) hp hb h hi hq (.inl hk)
  obtain ⟨j, j1, j2, j3, j4, j5⟩ := (hp.pa i hi).k2 hk
  have j1 : gt o (i : Int) = (j : Int) := by rw [gtn]; exact j1
  have e2 := w_suc j (by omega)
  cases t with
  | true =>
    refine ⟨i + 1, S, now, c, path, ⟨hi, by rw [h.fst, lo_skip (by omega)], h.rnd, h.cl, hn, h.nw⟩, mes_go _ _ _ _ (by omega) hi, by omega, fun rec => ?_, fun rec => ?_⟩
    · unfold n_spec_l08Alone_0
      simp only [e, hn, j1]
      (repeat (first | refine bt (by omega) ?_ | refine bf (by omega) ?_ | refine nt (by omega) ?_ | refine nf (by omega) ?_))
      exact bd g1 rfl
    · unfold n_impl_alone_0
      simp only [e, hn, j1]
      (repeat (first | refine bt (by omega) ?_ | refine bf (by omega) ?_ | refine nt (by omega) ?_ | refine nf (by omega) ?_))
      exact bd g2 rfl
  | false =>
    refine ⟨j + 1, S, now, c, path, ⟨by omega, by rw [h.fst, lo_if hk j4 j5], h.rnd, h.cl, hn, h.nw⟩, mes_go _ _ _ _ (by omega) hi, by omega, fun rec => ?_, fun rec => ?_⟩
    · unfold n_spec_l08Alone_0
      simp only [e, hn, j1, e2]
      (repeat (first | refine bt (by omega) ?_ | refine bf (by omega) ?_ | refine nt (by omega) ?_ | refine nf (by omega) ?_))
      refine bd g1 ?_
      simp only [Bool.not_false, cond_true]
      (repeat (first | refine bt (by omega) ?_ | refine bf (by omega) ?_ | refine nt (by omega) ?_ | refine nf (by omega) ?_))
      try rfl
    · unfold n_impl_alone_0
      simp only [e, hn, j1, e2]
      (repeat (first | refine bt (by omega) ?_ | refine bf (by omega) ?_ | refine nt (by omega) ?_ | refine nf (by omega) ?_))
      refine bd g2 ?_
      simp only [Bool.not_false, cond_true]
      (repeat (first | refine bt (by omega) ?_ | refine bf (by omega) ?_ | refine nt (by omega) ?_ | refine nf (by omega) ?_))
      try rfl
theorem as_else (hk : kd L i = 3) : AStep N b L o i S now c path := by
  have hN := hp.lt
  have hk' : (gt L (i : Int)).1 = 3 := hk
  have hol := hp.len
  obtain ⟨j, a, j1, j2, j3, j4, j5, j6, j7⟩ := (hp.pa i hi).k3 hk
  have j1 : gt o (i : Int) = (j : Int) := by rw [gtn]; exact j1
  have e2 := w_suc j (by omega)
  refine ⟨j + 1, S, now, c, path, ⟨by omega, by rw [h.fst, lo_else j5 j4 j6 j7], h.rnd, h.cl, h.nl, h.nw⟩, mes_go _ _ _ _ (by omega) hi, by omega, fun rec => ?_, fun rec => ?_⟩
  · unfold n_spec_l08Alone_0
    simp only [j1, e2]
    (repeat (first | refine bt (by omega) ?_ | refine bf (by omega) ?_ | refine nt (by omega) ?_ | refine nf (by omega) ?_))
    try rfl
  · unfold n_impl_alone_0
    simp only [j1, e2]
    (repeat (first | refine bt (by omega) ?_ | refine bf (by omega) ?_ | refine nt (by omega) ?_ | refine nf (by omega) ?_))
    try rfl
theorem as_loop (hk : kd L i = 5) : AStep N b L o i S now c path := by
  have hN := hp.lt
  have e := w_suc i (by omega)
  have hk' : (gt L (i : Int)).1 = 5 := hk
  have hct := line_ct (hp.li i hi) hk
  have hcl := h.cl
  have hf : (S ++ [(i, (ct L i).toNat)]).map (·.1) = lo (kd L) (i + 1) := by rw [List.map_append, h.fst, lo_loop hk]; rfl
  have hlen : S.length + 1 ≤ 4 := by
    have h1 := congrArg List.length hf
    have h2 := lo_len (hp.dp (i + 1) hi)
    rw [← h1] at h2
    simpa using h2
  have hR : rs S ++ ((gt L (i : Int)).2.2.2.2 :: []) = rs (S ++ [(i, (ct L i).toNat)]) := by
    unfold rs
    rw [List.map_append]
    congr 1
    show [ct L i] = [(((ct L i).toNat : Nat) : Int)]
    rw [Int.toNat_of_nonneg (by omega)]
  refine ⟨i + 1, S ++ [(i, (ct L i).toNat)], now, c.set i 1, path, ⟨hi, hf, ?_, by rw [List.length_set]; exact hcl, h.nl, h.nw⟩, mes_push hN _ _ _ _ hlen (by omega), by omega, fun rec => ?_, fun rec => ?_⟩
  · intro p hp'
    rcases List.mem_append.1 hp' with hp' | hp'
    · have hne : p.1 ≠ i := by
        have : p.1 ∈ S.map (·.1) := List.mem_map_of_mem hp'
        rw [h.fst] at this
        have := lo_lt this
        omega
      obtain ⟨r1, r2, r3⟩ := h.rnd p hp'
      exact ⟨r1, r2, by rw [getD_set _ _ _ _ (by omega), if_neg hne]; exact r3⟩
    · rw [List.mem_singleton.1 hp']
      refine ⟨by show 1 ≤ (ct L i).toNat; omega, by show (ct L i).toNat ≤ 8; omega, ?_⟩
      show (c.set i 1).getD i 0 = ct L i - ((ct L i).toNat : Int) + 1
      rw [getD_set _ _ _ _ (by omega), if_pos rfl]
      omega
  · unfold n_spec_l08Alone_0
    simp only [e, hcl, Int.toNat_natCast]
    (repeat (first | refine bt (by omega) ?_ | refine bf (by omega) ?_ | refine nt (by omega) ?_ | refine nf (by omega) ?_))
    try rfl
  · have hrl := rs_len S
    unfold n_impl_alone_0
    simp only [e, hrl, hR]
    (repeat (first | refine bt (by omega) ?_ | refine bf (by omega) ?_ | refine nt (by omega) ?_ | refine nf (by omega) ?_))
    try rfl
theorem as_stop (hk : kd L i = 6) : AStep N b L o i S now c path := by
  have hN := hp.lt
  have e := w_suc i (by omega)
  have hk' : (gt L (i : Int)).1 = 6 := hk
  have hn := h.nl
  have hol := hp.len
  obtain ⟨t, h3, h4, g1, g2⟩ := line_test (N := N) hp hb h hi hq (.inr hk)
  obtain ⟨j, a, ys, j1, j2, j3, j4, j5, j6, j7, j8, j9, j10⟩ := (hp.pa i hi).k6 hk
  have j1 : gt o (i : Int) = (j : Int) := by rw [gtn]; exact j1
  have e2 := w_suc j (by omega)
  have hrl := rs_len S
  cases t with
  | true =>
    have hlo := lo_stop j5 j4 j8 j9 j10
    rcases List.eq_nil_or_concat S with rfl | ⟨T, p, rfl⟩
    · have := h.fst
      rw [hlo] at this
      simp at this
    · rw [List.concat_eq_append] at h hrl ⊢
      have hf := h.fst
      rw [hlo, List.map_append] at hf
      obtain ⟨f1, f2⟩ := List.append_inj' hf rfl
      have f2 : p.1 = a := by simpa using f2
      have hlen : T.length + 1 ≤ 4 := by
        have h1 := congrArg List.length h.fst
        have h2 := lo_len (hp.dp i (by omega))
        rw [← h1] at h2
        simpa using h2
      have hw := w_pred T.length (by omega)
      simp only [List.length_append, List.length_cons, List.length_nil, Nat.zero_add] at hrl
      have htk : (rs (T ++ [p])).take T.length = rs T := by unfold rs; rw [List.map_append, List.take_left' (by simp)]
      refine ⟨j + 1, T, now, c, path, ⟨by omega, f1, fun q hq' => h.rnd q (List.mem_append_left _ hq'), h.cl, hn, h.nw⟩, ?_, by omega, fun rec => ?_, fun rec => ?_⟩
      · obtain ⟨p1, p2⟩ := p
        exact mes_pop _ _ _ _ _ _ hlen (by simp only at f2; omega) (by simp only at f2; omega)
      · unfold n_spec_l08Alone_0
        simp only [e, hn, j1, e2]
        (repeat (first | refine bt (by omega) ?_ | refine bf (by omega) ?_ | refine nt (by omega) ?_ | refine nf (by omega) ?_))
        refine bd g1 ?_
        simp only [cond_true]
        (repeat (first | refine bt (by omega) ?_ | refine bf (by omega) ?_ | refine nt (by omega) ?_ | refine nf (by omega) ?_))
        try rfl
      · unfold n_impl_alone_0
        simp only [e, hn, j1, e2, hrl, hw, Int.toNat_natCast, htk]
        (repeat (first | refine bt (by omega) ?_ | refine bf (by omega) ?_ | refine nt (by omega) ?_ | refine nf (by omega) ?_))
        refine bd g2 ?_
        simp only [cond_true]
        (repeat (first | refine bt (by omega) ?_ | refine bf (by omega) ?_ | refine nt (by omega) ?_ | refine nf (by omega) ?_))
        try rfl
  | false =>
    refine ⟨i + 1, S, now, c, path, ⟨hi, by rw [h.fst, lo_skip (by omega)], h.rnd, h.cl, hn, h.nw⟩, mes_go _ _ _ _ (by omega) hi, by omega, fun rec => ?_, fun rec => ?_⟩
    · unfold n_spec_l08Alone_0
      simp only [e, hn, j1, e2]
      (repeat (first | refine bt (by omega) ?_ | refine bf (by omega) ?_ | refine nt (by omega) ?_ | refine nf (by omega) ?_))
      refine bd g1 ?_
      simp only [cond_false]
      try rfl
    · unfold n_impl_alone_0
      simp only [e, hn, j1, e2]
      (repeat (first | refine bt (by omega) ?_ | refine bf (by omega) ?_ | refine nt (by omega) ?_ | refine nf (by omega) ?_))
      refine bd g2 ?_
      simp only [cond_false]
      try rfl
theorem as_end (hk : kd L i = 4) : AStep N b L o i S now c path := by
  have hN := hp.lt
  have e := w_suc i (by omega)
  have hk' : (gt L (i : Int)).1 = 4 := hk
  have hol := hp.len
  have hcl := h.cl
  obtain ⟨a, j1, j2, j3, j4⟩ := (hp.pa i hi).k4 hk
  have j1 : gt o (i : Int) = (a : Int) := by rw [gtn]; exact j1
  have hrl := rs_len S
  rcases j3 with j3 | j3
  · have j3' : (gt L (a : Int)).1 = 2 := j3
    refine ⟨i + 1, S, now, c, path, ⟨hi, by rw [h.fst, lo_done hk j4 j3], h.rnd, hcl, h.nl, h.nw⟩, mes_go _ _ _ _ (by omega) hi, by omega, fun rec => ?_, fun rec => ?_⟩
    · unfold n_spec_l08Alone_0
      simp only [e, j1]
      (repeat (first | refine bt (by omega) ?_ | refine bf (by omega) ?_ | refine nt (by omega) ?_ | refine nf (by omega) ?_))
      try rfl
    · unfold n_impl_alone_0
      simp only [e, j1]
      (repeat (first | refine bt (by omega) ?_ | refine bf (by omega) ?_ | refine nt (by omega) ?_ | refine nf (by omega) ?_))
      try rfl
  · have j3' : (gt L (a : Int)).1 = 5 := j3
    obtain ⟨l1, l2⟩ := lo_back hk j4 j3
    rcases List.eq_nil_or_concat S with rfl | ⟨T, p, rfl⟩
    · have := h.fst
      rw [l1] at this
      simp at this
    · rw [List.concat_eq_append] at h hrl ⊢
      obtain ⟨p1, r⟩ := p
      have hf := h.fst
      rw [l1, List.map_append] at hf
      obtain ⟨f1, f2⟩ := List.append_inj' hf rfl
      have f2 : p1 = a := by simpa using f2
      subst f2
      have hlen : T.length + 1 ≤ 4 := by
        have h1 := congrArg List.length h.fst
        have h2 := lo_len (hp.dp i (by omega))
        rw [← h1] at h2
        simpa using h2
      have hw := w_pred T.length (by omega)
      simp only [List.length_append, List.length_cons, List.length_nil, Nat.zero_add] at hrl
      obtain ⟨r1, r2, r3⟩ := h.rnd (p1, r) (by simp)
      simp only at r1 r2 r3
      have hct := line_ct (hp.li p1 (by omega)) j3
      have e3 := w_suc p1 (by omega)
      have hgc : gt c (p1 : Int) = ct L p1 - (r : Int) + 1 := by rw [gtn]; exact r3
      have hgr : gt (rs (T ++ [(p1, r)])) (T.length : Int) = (r : Int) := by
        rw [gtn]; unfold rs; simp [List.getD_eq_getElem?_getD, List.getElem?_append]
      have hct' : (gt L (p1 : Int)).2.2.2.2 = ct L p1 := rfl
      have e4 : IntKind.wrap .i64 ((r : Int) - 1) = (r : Int) - 1 := wr_id (by omega) (by omega)
      have e5 : IntKind.wrap .i64 (ct L p1 - (r : Int) + 1 + 1) = ct L p1 - (r : Int) + 1 + 1 := wr_id (by omega) (by omega)
      have hset : ∀ v : Int, (rs (T ++ [(p1, r)])).set T.length v = rs T ++ [v] := fun v => by unfold rs; rw [List.map_append, List.set_append_right _ _ (by simp)]; simp
      have hlt : ∀ q ∈ T, q.1 ≠ p1 := by
        intro q hq' he
        have : q.1 ∈ T.map (·.1) := List.mem_map_of_mem hq'
        rw [f1, he] at this
        have hx : p1 ∈ frs (kd L) (i + 1) := (List.mem_filter.1 this).1
        have hy : frs (kd L) (i + 1) = frs (kd L) p1 := by rw [frs, if_neg (by omega), if_pos hk, j4, List.dropLast_concat]
        rw [hy] at hx
        have := frs_lt _ _ _ hx
        omega
      by_cases hr : r = 1
      · subst hr
        have htk : (rs T ++ [((1 : Nat) : Int) - 1]).take T.length = rs T := List.take_left' (rs_len T)
        have hgl : gt (rs T ++ [((1 : Nat) : Int) - 1]) (T.length : Int) = ((1 : Nat) : Int) - 1 := by
          rw [gtn]; simp [List.getD_eq_getElem?_getD, List.getElem?_append, rs_len]
        have hll : (rs T ++ [((1 : Nat) : Int) - 1]).length = T.length + 1 := by simp [rs_len]
        refine ⟨i + 1, T, now, c, path, ⟨hi, f1, fun q hq' => h.rnd q (List.mem_append_left _ hq'), hcl, h.nl, h.nw⟩, mes_pop _ _ _ _ _ _ hlen (by omega) (by omega), by omega, fun rec => ?_, fun rec => ?_⟩
        · unfold n_spec_l08Alone_0
          simp only [e, j1, hcl, hgc, hct']
          (repeat (first | refine bt (by omega) ?_ | refine bf (by omega) ?_ | refine nt (by omega) ?_ | refine nf (by omega) ?_))
          try rfl
        · unfold n_impl_alone_0
          simp only [e, j1, hrl, hw, hgr, e4, Int.toNat_natCast, hset, hgl, hll, htk]
          (repeat (first | refine bt (by omega) ?_ | refine bf (by omega) ?_ | refine nt (by omega) ?_ | refine nf (by omega) ?_))
          try rfl
      · obtain ⟨r', rfl⟩ : ∃ r', r = r' + 1 := ⟨r - 1, by omega⟩
        have hgl : gt (rs T ++ [((r' + 1 : Nat) : Int) - 1]) (T.length : Int) = ((r' + 1 : Nat) : Int) - 1 := by
          rw [gtn]; simp [List.getD_eq_getElem?_getD, List.getElem?_append, rs_len]
        have hll : (rs T ++ [((r' + 1 : Nat) : Int) - 1]).length = T.length + 1 := by simp [rs_len]
        have hrs : rs T ++ [((r' + 1 : Nat) : Int) - 1] = rs (T ++ [(p1, r')]) := by
          unfold rs
          rw [List.map_append]
          congr 1
          show [((r' + 1 : Nat) : Int) - 1] = [(r' : Int)]
          congr 1; omega
        refine ⟨p1 + 1, T ++ [(p1, r')], now, c.set p1 (ct L p1 - ((r' + 1 : Nat) : Int) + 1 + 1), path, ⟨by omega, by rw [List.map_append, f1, l2, l1]; rfl, ?_, by rw [List.length_set]; exact hcl, h.nl, h.nw⟩, mes_back hN _ _ _ _ _ _ hlen, by omega, fun rec => ?_, fun rec => ?_⟩
        · intro q hq'
          rcases List.mem_append.1 hq' with hq' | hq'
          · obtain ⟨s1, s2, s3⟩ := h.rnd q (List.mem_append_left _ hq')
            exact ⟨s1, s2, by rw [getD_set _ _ _ _ (by omega), if_neg (hlt q hq')]; exact s3⟩
          · rw [List.mem_singleton.1 hq']
            refine ⟨by show 1 ≤ r'; omega, by show r' ≤ 8; omega, ?_⟩
            show (c.set p1 _).getD p1 0 = ct L p1 - (r' : Int) + 1
            rw [getD_set _ _ _ _ (by omega), if_pos rfl]
            omega
        · unfold n_spec_l08Alone_0
          simp only [e, j1, hcl, hgc, hct', e3, e5, Int.toNat_natCast]
          (repeat (first | refine bt (by omega) ?_ | refine bf (by omega) ?_ | refine nt (by omega) ?_ | refine nf (by omega) ?_))
          try rfl
        · unfold n_impl_alone_0
          simp only [e, j1, hrl, hw, hgr, e3, e4, Int.toNat_natCast, hset, hgl, hll]
          (repeat (first | refine bt (by omega) ?_ | refine bf (by omega) ?_ | refine nt (by omega) ?_ | refine nf (by omega) ?_))
          rw [hrs]
theorem as_all : AStep N b L o i S now c path := by
  have hk := line_kd (hp.li i hi)
  by_cases h0 : kd L i = 0
  · exact as_set hp hb h hi hq h0
  by_cases h1 : kd L i = 1
  · exact as_const hp hb h hi hq h1
  by_cases h2 : kd L i = 2
  · exact as_if hp hb h hi hq h2
  by_cases h3 : kd L i = 3
  · exact as_else hp hb h hi hq h3
  by_cases h4 : kd L i = 4
  · exact as_end hp hb h hi hq h4
  by_cases h5 : kd L i = 5
  · exact as_loop hp hb h hi hq h5
  exact as_stop hp hb h hi hq (by omega)
end
/-- Both end alike. -/
theorem alone_go {N : Nat} {b : Int} {L : List LT} {o : List Int} (hp : PairsOk b L o) (hb : bitsV b = true) : ∀ (m M i : Nat) (S : List (Nat × Nat)) (now c path : List Int), Rel b L i S now c → mes L.length S i 4 ≤ m → m < M → path.length + m ≤ 8796093022208 →
    ∃ now' path' c', itN (n_spec_l08Alone_0 N (b, (L, (o, ())))) M ((i : Int), (path, (now, (c, ())))) = some (path', (now', (c', ()))) ∧ itN (n_impl_alone_0 N (b, (L, (o, ())))) M ((i : Int), (path, (rs S, (now, ())))) = some (path', (now', ())) ∧
      path'.length ≤ 8796093022208 ∧ now'.length = 8 := by
  intro m
  induction m with
  | zero =>
    intro M i S now c path h hm hM hq
    obtain ⟨M, rfl⟩ : ∃ M', M = M' + 1 := ⟨M - 1, by omega⟩
    have hlt : ¬ i < L.length := by
      intro hi
      obtain ⟨i', S', now', c', path', g1, g2, g3, g4, g5⟩ := as_all (N := N) (path := path) hp hb h hi (by omega)
      omega
    refine ⟨now, path, c, ?_, ?_, by omega, h.nl⟩
    · show n_spec_l08Alone_0 _ _ _ _ = _
      unfold n_spec_l08Alone_0
      simp only
      (repeat (first | refine bt (by omega) ?_ | refine bf (by omega) ?_ | refine nt (by omega) ?_ | refine nf (by omega) ?_))
      rfl
    · show n_impl_alone_0 _ _ _ _ = _
      unfold n_impl_alone_0
      simp only
      (repeat (first | refine bt (by omega) ?_ | refine bf (by omega) ?_ | refine nt (by omega) ?_ | refine nf (by omega) ?_))
      rfl
  | succ m ih =>
    intro M i S now c path h hm hM hq
    obtain ⟨M, rfl⟩ : ∃ M', M = M' + 1 := ⟨M - 1, by omega⟩
    by_cases hi : i < L.length
    · obtain ⟨i', S', now', c', path', g1, g2, g3, g4, g5⟩ := as_all (N := N) (path := path) hp hb h hi (by omega)
      have := ih M i' S' now' c' path' g1 (by omega) (by omega) (by omega)
      rw [← g4 (itN (n_spec_l08Alone_0 N (b, (L, (o, ())))) M), ← g5 (itN (n_impl_alone_0 N (b, (L, (o, ())))) M)] at this
      exact this
    · refine ⟨now, path, c, ?_, ?_, by omega, h.nl⟩
      · show n_spec_l08Alone_0 _ _ _ _ = _
        unfold n_spec_l08Alone_0
        simp only
        (repeat (first | refine bt (by omega) ?_ | refine bf (by omega) ?_ | refine nt (by omega) ?_ | refine nf (by omega) ?_))
        rfl
      · show n_impl_alone_0 _ _ _ _ = _
        unfold n_impl_alone_0
        simp only
        (repeat (first | refine bt (by omega) ?_ | refine bf (by omega) ?_ | refine nt (by omega) ?_ | refine nf (by omega) ?_))
        rfl
end Go.Proofs.Ytheemkehedmlfaa.P
