/- What the functions of the laws around code run alone say. -/
import Derived.Test.YtheemkehedmlfaaP8
set_option linter.unusedVariables false
set_option linter.unusedSimpArgs false
set_option maxRecDepth 4000
namespace Go.Proofs.Ytheemkehedmlfaa.P
open Go Go.Proofs.Ytheemkehedmlfaa.E
theorem mem_gt {α : Type} [Inhabited α] {l : List α} {x : α} (h : x ∈ l) : ∃ j : Int, 0 ≤ j ∧ j < l.length ∧ gt l j = x := by
  obtain ⟨i, hi, rfl⟩ := List.mem_iff_getElem.1 h
  refine ⟨i, by omega, by omega, ?_⟩
  unfold gt
  rw [List.getD_eq_getElem?_getD, Int.toNat_natCast, List.getElem?_eq_getElem hi]
  rfl
theorem all_gt {α : Type} [Inhabited α] {l : List α} {p : α → Prop} : (∀ x, x ∈ l → p x) ↔ ∀ j : Int, 0 ≤ j → j < l.length → p (gt l j) :=
  ⟨fun h j h0 h1 => h _ (gt_mem h0 h1), fun h x hx => by obtain ⟨j, h0, h1, rfl⟩ := mem_gt hx; exact h j h0 h1⟩
/-- A walk that ends at the first that fails. -/
theorem scan {E R : Type} {step : (Int × Unit → Option (E ⊕ R)) → Int × Unit → Option (E ⊕ R)} {len : Nat} {p : Int → Bool} {bad : Int → E} {fin : R} (hlen : len ≤ 9007199254740992)
    (h1 : ∀ rec (i : Int), 0 ≤ i → i < len → IntKind.wrap .i64 (i + 1) = i + 1 → step rec (i, ()) = if p i = true then rec (i + 1, ()) else some (.inl (bad i)))
    (h2 : ∀ rec (i : Int), ¬ i < (len : Int) → step rec (i, ()) = some (.inr fin)) {N : Nat} (hN : len < N) :
    (itN step N (0, ()) = some (.inr fin) ∧ ∀ j : Int, 0 ≤ j → j < len → p j = true) ∨ ∃ j : Int, 0 ≤ j ∧ j < len ∧ p j = false ∧ itN step N (0, ()) = some (.inl (bad j)) := by
  have key : ∀ (r : Nat) (i : Int) (M : Nat), 0 ≤ i → i + r = len → r < M →
      (itN step M (i, ()) = some (.inr fin) ∧ ∀ j : Int, i ≤ j → j < len → p j = true) ∨ ∃ j : Int, i ≤ j ∧ j < len ∧ p j = false ∧ itN step M (i, ()) = some (.inl (bad j)) := by
    intro r
    induction r with
    | zero =>
      intro i M h0 hi hM
      obtain ⟨M, rfl⟩ : ∃ M', M = M' + 1 := ⟨M - 1, by omega⟩
      exact .inl ⟨h2 _ i (by omega), fun j h3 h4 => by omega⟩
    | succ r ih =>
      intro i M h0 hi hM
      obtain ⟨M, rfl⟩ : ∃ M', M = M' + 1 := ⟨M - 1, by omega⟩
      have hs : itN step (M + 1) (i, ()) = if p i = true then itN step M (i + 1, ()) else some (.inl (bad i)) := h1 _ i h0 (by omega) (wr_id (by omega) (by omega))
      rw [hs]
      cases hp : p i with
      | false => exact .inr ⟨i, by omega, by omega, hp, rfl⟩
      | true =>
        simp only [if_true]
        rcases ih (i + 1) M (by omega) (by omega) (by omega) with ⟨g1, g2⟩ | ⟨j, g1, g2, g3, g4⟩
        · refine .inl ⟨g1, fun j h3 h4 => ?_⟩
          by_cases he : j = i
          · subst he; exact hp
          · exact g2 j (by omega) h4
        · exact .inr ⟨j, by omega, g2, g3, g4⟩
  rcases key len 0 N (Int.le_refl _) (by omega) (by omega) with h | h
  · exact .inl h
  · exact .inr h
/-- A scan's answer. -/
theorem scan_ans {α : Type} [Inhabited α] {E R : Type} {step : (Int × Unit → Option (E ⊕ R)) → Int × Unit → Option (E ⊕ R)} {l : List α} {p : α → Bool} {bad : Int → E} {fin : R} (hlen : l.length ≤ 9007199254740992)
    (h1 : ∀ rec (i : Int), 0 ≤ i → i < l.length → IntKind.wrap .i64 (i + 1) = i + 1 → gt l i ∈ l → step rec (i, ()) = if p (gt l i) = true then rec (i + 1, ()) else some (.inl (bad i)))
    (h2 : ∀ rec (i : Int), ¬ i < (l.length : Int) → step rec (i, ()) = some (.inr fin)) {N : Nat} (hN : l.length < N) :
    (itN step N (0, ()) = some (.inr fin) ∧ l.all p = true) ∨ ∃ j : Int, 0 ≤ j ∧ j < l.length ∧ l.all p = false ∧ itN step N (0, ()) = some (.inl (bad j)) := by
  rcases scan (p := fun j => p (gt l j)) hlen (fun rec i g0 g1 g2 => h1 rec i g0 g1 g2 (gt_mem g0 g1)) h2 hN with ⟨g1, g2⟩ | ⟨j, g1, g2, g3, g4⟩
  · exact .inl ⟨g1, by rw [List.all_eq_true]; exact (all_gt (p := fun x => p x = true)).2 g2⟩
  · refine .inr ⟨j, g1, g2, ?_, g4⟩
    cases hx : l.all p with
    | false => rfl
    | true =>
      have := List.all_eq_true.1 hx _ (gt_mem g1 g2)
      rw [g3] at this
      cases this
/-- A copy, element by element. -/
theorem copyL {α : Type} [Inhabited α] {step : (Int × List α × Unit → Option (List α × Unit)) → Int × List α × Unit → Option (List α × Unit)} {l : List α} (hlen : l.length ≤ 9007199254740992)
    (h1 : ∀ rec (i : Int) (o : List α), 0 ≤ i → i < l.length → i < o.length → IntKind.wrap .i64 (i + 1) = i + 1 → gt l i ∈ l → step rec (i, (o, ())) = rec (i + 1, (o.set i.toNat (gt l i), ())))
    (h2 : ∀ rec (i : Int) (o : List α), ¬ i < (l.length : Int) → step rec (i, (o, ())) = some (o, ())) {N : Nat} (hN : l.length < N) (o : List α) (ho : o.length = l.length) : itN step N (0, (o, ())) = some (l, ()) := by
  have key : ∀ (r : Nat) (i M : Nat) (o : List α), i + r = l.length → r < M → o.length = l.length → (∀ k, k < i → o[k]? = l[k]?) → itN step M ((i : Int), (o, ())) = some (l, ()) := by
    intro r
    induction r with
    | zero =>
      intro i M o hi hM ho hk
      obtain ⟨M, rfl⟩ : ∃ M', M = M' + 1 := ⟨M - 1, by omega⟩
      have : o = l := by
        apply List.ext_getElem?
        intro k
        by_cases hkl : k < i
        · exact hk k hkl
        · rw [List.getElem?_eq_none (by omega), List.getElem?_eq_none (by omega)]
      subst this
      exact h2 _ _ _ (by omega)
    | succ r ih =>
      intro i M o hi hM ho hk
      obtain ⟨M, rfl⟩ : ∃ M', M = M' + 1 := ⟨M - 1, by omega⟩
      have hs : itN step (M + 1) ((i : Int), (o, ())) = itN step M ((i : Int) + 1, (o.set (i : Int).toNat (gt l i), ())) := h1 _ _ _ (by omega) (by omega) (by omega) (wr_id (by omega) (by omega)) (gt_mem (by omega) (by omega))
      rw [hs, show ((i : Int) + 1) = ((i + 1 : Nat) : Int) by omega]
      refine ih (i + 1) M _ (by omega) (by omega) (by simpa using ho) fun k hk1 => ?_
      rw [Int.toNat_natCast, List.getElem?_set]
      by_cases he : i = k
      · subst he
        have hil : i < l.length := by omega
        simp only [if_true, if_pos (show i < o.length by omega)]
        unfold gt
        rw [List.getD_eq_getElem?_getD, Int.toNat_natCast, List.getElem?_eq_getElem hil]
        rfl
      · rw [if_neg he]
        exact hk k (by omega)
  exact key l.length 0 N o (by omega) (by omega) ho (fun k hk => by omega)
def varsB (b : Int) (V : List Int) : Bool := decide (V.length = 8) && V.all (wordV b)
theorem vars_spec {N : Nat} (hN : 4096 ≤ N) (b : Int) (V : List Int) : F_spec_l08Vars N (b, (V, ())) = some (varsB b V, ()) := by
  unfold F_spec_l08Vars varsB
  by_cases hl : V.length = 8
  · rcases scan_ans (step := n_spec_l01Words_0 N (b, (V, ()))) (l := V) (p := wordV b) (bad := fun _ => (false, ())) (fin := ()) (by omega)
      (fun rec i h0 h1 h2 _ => by cases hw : wordV b (gt V i) <;> simp [n_spec_l01Words_0, h0, h1, h2, word_spec, hw]) (fun rec i h => by simp [n_spec_l01Words_0, h]) (N := N) (by omega) with ⟨g1, g2⟩ | ⟨j, _, _, g3, g4⟩
    · have hb : bitsV b = true := by
        have := List.all_eq_true.1 g2 _ (gt_mem (j := 0) (Int.le_refl _) (by omega))
        unfold wordV at this
        simp only [Bool.and_eq_true] at this
        exact this.1.1
      simp [F_spec_l01Words, hl, g1, g2, bits_spec, hb]
    · simp [F_spec_l01Words, hl, g3, g4]
  · have : ¬ ((V.length : Int) = 8) := by omega
    simp [this, hl]
theorem vars_impl {N : Nat} (hN : 4096 ≤ N) (b : Int) (V : List Int) : F_impl_areVars N (b, (V, ())) = some (varsB b V, ()) := by
  unfold F_impl_areVars varsB
  by_cases hl : V.length = 8
  · rcases scan_ans (step := n_impl_areVars_0 N (V, ((V.length : Int), (b, ())))) (l := V) (p := wordV b) (bad := fun j => (j, ())) (fin := ()) (by omega)
      (fun rec i h0 h1 h2 _ => by cases hw : wordV b (gt V i) <;> simp [n_impl_areVars_0, h0, h1, h2, word_impl, hw]) (fun rec i h => by simp [n_impl_areVars_0, h]) (N := N) (by omega) with ⟨g1, g2⟩ | ⟨j, j0, _, g3, g4⟩
    · simp [hl] at g1 ⊢; simp [g1]; simpa using g2
    · rw [g3]; simp [hl] at g4 ⊢; simp [g4, j0]
  · have : ¬ ((V.length : Int) = 8) := by omega
    simp [this, hl]
theorem varsB_ok {b : Int} {V : List Int} (h : varsB b V = true) : V.length = 8 ∧ ∀ x ∈ V, wordV b x = true := by
  unfold varsB at h
  simp only [Bool.and_eq_true, decide_eq_true_eq] at h
  exact ⟨h.1, List.all_eq_true.1 h.2⟩
theorem alone_eq {N : Nat} (hN : 1142440000001 ≤ N) {b : Int} {L : List LT} {o V : List Int} (hb : bitsV b = true) (hp : PairsOk b L o) (h1 : F_spec_l08Pairs N (b, (L, ())) = some (o, (true, ()))) (h2 : F_impl_paired N (b, (L, ())) = some (o, (true, ()))) (hv : varsB b V = true) :
    ∃ now path, F_spec_l08Alone N (b, (L, (V, ()))) = some (now, (path, ())) ∧ F_impl_alone N (b, (L, (V, ()))) = some (now, (path, ())) ∧ path.length ≤ 8796093022208 ∧ now.length = 8 := by
  obtain ⟨v1, v2⟩ := varsB_ok hv
  have hl := hp.lt
  have hrel : Rel b L 0 [] V (List.replicate L.length 0) := ⟨Nat.zero_le _, rfl, fun p hp => (by cases hp), (by simp), v1, v2⟩
  have hm := mes_le hl [] 0 4 (Nat.zero_le _) (by simp)
  obtain ⟨now, path, c, g1, g2, g3, g4⟩ := alone_go (N := N) hp hb (250 * 260 ^ 4) N 0 [] V (List.replicate L.length 0) [] hrel hm (by omega) (by simp)
  refine ⟨now, path, ?_, ?_, g3, g4⟩
  · unfold F_spec_l08Alone
    refine bd h1 ?_
    have ho : F_spec_l00Own N (V, ()) = some (V, ()) := by unfold F_spec_l00Own; simp only; (repeat (first | refine bt (by omega) ?_ | refine bf (by omega) ?_ | refine nt (by omega) ?_ | refine nf (by omega) ?_)); rfl
    refine bd ho ?_
    simp only [Int.toNat_natCast]
    (repeat (first | refine bt (by omega) ?_ | refine bf (by omega) ?_ | refine nt (by omega) ?_ | refine nf (by omega) ?_))
    exact bd g1 rfl
  · unfold F_impl_alone
    have ho : F_slices_Clone___int64_int64_ N (V, ()) = some (V, ()) := by unfold F_slices_Clone___int64_int64_; simp only; (repeat (first | refine bt (by omega) ?_ | refine bf (by omega) ?_ | refine nt (by omega) ?_ | refine nf (by omega) ?_)); rfl
    refine bd ho ?_
    refine bd h2 ?_
    exact bd g2 rfl
/-- The two together. -/
theorem both_eq {N : Nat} (hN : 1142440000001 ≤ N) (b : Int) (L : List LT) (V : List Int) :
    (F_spec_l08Ask N (b, (L, (V, ()))) = some (false, ()) ∧ (F_impl_ValidLines N (b, (L, ())) = some (false, ()) ∨ F_impl_ValidLines N (b, (L, ())) = some (true, ()) ∧ F_impl_areVars N (b, (V, ())) = some (false, ()))) ∨
    (F_spec_l08Ask N (b, (L, (V, ()))) = some (true, ()) ∧ F_impl_ValidLines N (b, (L, ())) = some (true, ()) ∧ F_impl_areVars N (b, (V, ())) = some (true, ()) ∧
      ∃ now path, F_spec_l08Alone N (b, (L, (V, ()))) = some (now, (path, ())) ∧ F_impl_alone N (b, (L, (V, ()))) = some (now, (path, ())) ∧ path.length ≤ 8796093022208 ∧ now.length = 8) := by
  unfold F_spec_l08Ask
  rcases is_ex (N := N) (by omega) b L with ⟨h1, h2⟩ | ⟨h1, h2, hb, o, h3, h4, h5⟩
  · exact .inl ⟨bd h1 rfl, .inl h2⟩
  · have e1 := vars_spec (N := N) (by omega) b V
    have e2 := vars_impl (N := N) (by omega) b V
    cases hv : varsB b V with
    | false =>
      rw [hv] at e1 e2
      exact .inl ⟨bd h1 (bd e1 rfl), .inr ⟨h2, e2⟩⟩
    | true =>
      rw [hv] at e1 e2
      exact .inr ⟨bd h1 (bd e1 rfl), h2, e2, alone_eq hN hb h5 h3 h4 hv⟩
theorem path_eq {N : Nat} (hN : 1142440000001 ≤ N) (b : Int) (L : List LT) (V : List Int) : ∃ p ok, F_spec_PathOf N (b, (L, (V, ()))) = some (p, (ok, ())) ∧ F_impl_PathOf N (b, (L, (V, ()))) = some (p, (ok, ())) ∧ p.length ≤ 8796093022208 := by
  unfold F_spec_PathOf F_impl_PathOf
  rcases both_eq hN b L V with ⟨h1, h2 | ⟨h2, h3⟩⟩ | ⟨h1, h2, h3, now, path, h4, h5, h6, h7⟩
  · exact ⟨[], false, bd h1 rfl, bd h2 rfl, Nat.zero_le _⟩
  · exact ⟨[], false, bd h1 rfl, bd h2 (bd h3 rfl), Nat.zero_le _⟩
  · exact ⟨path, true, bd h1 (bd h4 rfl), bd h2 (bd h3 (bd h5 rfl)), h6⟩
theorem run_eq {N : Nat} (hN : 1142440000001 ≤ N) (b : Int) (L : List LT) (V : List Int) : ∃ p ok, F_spec_RunAlone N (b, (L, (V, ()))) = some (p, (ok, ())) ∧ F_impl_RunAlone N (b, (L, (V, ()))) = some (p, (ok, ())) ∧ p.length ≤ 8 := by
  unfold F_spec_RunAlone F_impl_RunAlone
  rcases both_eq hN b L V with ⟨h1, h2 | ⟨h2, h3⟩⟩ | ⟨h1, h2, h3, now, path, h4, h5, h6, h7⟩
  · exact ⟨[], false, bd h1 rfl, bd h2 rfl, Nat.zero_le _⟩
  · exact ⟨[], false, bd h1 rfl, bd h2 (bd h3 rfl), Nat.zero_le _⟩
  · exact ⟨now, true, bd h1 (bd h4 rfl), bd h2 (bd h3 (bd h5 rfl)), by omega⟩
theorem count_eq {N : Nat} (hN : 1142440000001 ≤ N) (b : Int) (L : List LT) (V : List Int) : ∃ n ok, F_spec_CountAlone N (b, (L, (V, ()))) = some (n, (ok, ())) ∧ F_impl_CountAlone N (b, (L, (V, ()))) = some (n, (ok, ())) := by
  unfold F_spec_CountAlone F_impl_CountAlone F_impl_PathOf
  rcases both_eq hN b L V with ⟨h1, h2 | ⟨h2, h3⟩⟩ | ⟨h1, h2, h3, now, path, h4, h5, h6, h7⟩
  · exact ⟨0, false, bd h1 rfl, bd (bd h2 rfl) rfl⟩
  · exact ⟨0, false, bd h1 rfl, bd (bd h2 (bd h3 rfl)) rfl⟩
  · exact ⟨(path.length : Int), true, bd h1 (bd h4 rfl), bd (bd h2 (bd h3 (bd h5 rfl))) rfl⟩
/-! ### what the laws do with their arguments -/
theorem toL {N : Nat} (l : List LT) (hl : l.length ≤ 1048576) (hN : 1142440000001 ≤ N) : F_laws_toLineS N (l, ()) = some (l, ()) := by
  have hc := copyL (step := n_laws_toLineS_0 N (l, ())) (l := l) (by omega) (fun rec i o h0 h1 h2 h3 _ => by simp [n_laws_toLineS_0, F_laws_toLine, h0, h1, h2, h3]) (fun rec i o h => by simp [n_laws_toLineS_0, h]) (N := N) (by omega) (List.replicate (l.length : Int).toNat ((0 : Int), ((0 : Int), ((0 : Int), ((0 : Int), (0 : Int)))))) (by simp)
  unfold F_laws_toLineS
  simp only
  (repeat (first | refine bt (by omega) ?_ | refine bf (by omega) ?_ | refine nt (by omega) ?_ | refine nf (by omega) ?_))
  exact bd hc rfl
theorem toI {N : Nat} (l : List Int) (hl : l.length ≤ 1048576) (hN : 1142440000001 ≤ N) : F_laws_toInt64S N (l, ()) = some (l, ()) := by
  have hc := copyL (step := n_laws_toInt64S_0 N (l, ())) (l := l) (by omega) (fun rec i o h0 h1 h2 h3 _ => by simp [n_laws_toInt64S_0, h0, h1, h2, h3]) (fun rec i o h => by simp [n_laws_toInt64S_0, h]) (N := N) (by omega) (List.replicate (l.length : Int).toNat (0 : Int)) (by simp)
  unfold F_laws_toInt64S
  simp only
  (repeat (first | refine bt (by omega) ?_ | refine bf (by omega) ?_ | refine nt (by omega) ?_ | refine nf (by omega) ?_))
  exact bd hc rfl
theorem eqI {N : Nat} (l : List Int) (hl : l.length ≤ 9007199254740992) (hN : l.length < N) : F_laws_eqInt64S N (l, (l, ())) = some (true, ()) := by
  rcases scan_ans (step := n_laws_eqInt64S_0 N (l, (l, ()))) (l := l) (p := fun _ => true) (bad := fun _ => (false, ())) (fin := ()) hl (fun rec i h0 h1 h2 _ => by simp [n_laws_eqInt64S_0, h0, h1, h2]) (fun rec i h => by simp [n_laws_eqInt64S_0, h]) hN with ⟨g1, g2⟩ | ⟨j, _, _, g3, g4⟩
  · simp [F_laws_eqInt64S, g1]
  · simp at g3
theorem eqL {N : Nat} (l : List LT) (hl : l.length ≤ 1048576) (hN : 1142440000001 ≤ N) : F_laws_eqLineS N (l, (l, ())) = some (true, ()) := by
  rcases scan_ans (step := n_laws_eqLineS_0 N (l, (l, ()))) (l := l) (p := fun _ => true) (bad := fun _ => (false, ())) (fin := ()) (by omega) (fun rec i h0 h1 h2 _ => by simp [n_laws_eqLineS_0, F_laws_eqLine, h0, h1, h2]) (fun rec i h => by simp [n_laws_eqLineS_0, h]) (N := N) (by omega) with ⟨g1, g2⟩ | ⟨j, _, _, g3, g4⟩
  · simp [F_laws_eqLineS, g1]
  · simp at g3
theorem szL (N : Nat) (l : List LT) (hl : l.length ≤ 9223372036854775807) : F_laws_szLineS N (l, ((1048576 : Int), ())) = some (-1, ()) ∨ (F_laws_szLineS N (l, ((1048576 : Int), ())) = some (1048576 - (l.length : Int), ()) ∧ l.length ≤ 1048576) := by
  have hw : IntKind.wrap .i64 (1048576 - (l.length : Int)) = 1048576 - l.length := wr_id (by omega) (by omega)
  by_cases h : (1048576 : Int) - (l.length : Int) < 0
  · left; simp [F_laws_szLineS, hw, h]
  · right; exact ⟨by simp [F_laws_szLineS, hw, h], by omega⟩
/-- The law CountAlone. -/
theorem count_law {N : Nat} (hN : 1142440000001 ≤ N) (b : Int) (L : List LT) (V : List Int) (hL : L.length ≤ 9223372036854775807) : F_laws_FnExactCountAlone N (b, (L, (V, ()))) = some (true, ()) := by
  unfold F_laws_FnExactCountAlone
  simp only
  by_cases hv : (V.length : Int) > 1048576
  · (repeat (first | refine bt (by omega) ?_ | refine bf (by omega) ?_ | refine nt (by omega) ?_ | refine nf (by omega) ?_)); rfl
  rcases szL N L hL with g | ⟨g, hl⟩
  · (repeat (first | refine bt (by omega) ?_ | refine bf (by omega) ?_ | refine nt (by omega) ?_ | refine nf (by omega) ?_))
    exact bd g rfl
  · obtain ⟨n, ok, c1, c2⟩ := count_eq hN b L V
    (repeat (first | refine bt (by omega) ?_ | refine bf (by omega) ?_ | refine nt (by omega) ?_ | refine nf (by omega) ?_))
    refine bd g ?_
    simp only
    (repeat (first | refine bt (by omega) ?_ | refine bf (by omega) ?_ | refine nt (by omega) ?_ | refine nf (by omega) ?_))
    refine bd (toL L hl hN) (bd (toI V (by omega) hN) (bd c1 (bd (toL L hl hN) (bd (toI V (by omega) hN) (bd c2 ?_)))))
    simp only [decide_true, Bool.not_true, cond_false, beq_self_eq_true]
    refine bd (toL L hl hN) (bd (eqL L hl hN) ?_)
    simp only [Bool.not_true, cond_false]
    exact bd (toI V (by omega) hN) (bd (eqI V (by omega) (by omega)) rfl)
end Go.Proofs.Ytheemkehedmlfaa.P
