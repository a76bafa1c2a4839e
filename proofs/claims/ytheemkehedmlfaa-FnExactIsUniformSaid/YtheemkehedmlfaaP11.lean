/- The law IsUniform. -/
import Derived.Test.YtheemkehedmlfaaP10
set_option linter.unusedVariables false
set_option linter.unusedSimpArgs false
set_option maxRecDepth 4000
namespace Go.Proofs.Ytheemkehedmlfaa.P
open Go Go.Proofs.Ytheemkehedmlfaa.E
/-- A walk from a place on that ends at the first that fails. -/
theorem scan_from {E R : Type} {step : (Int × Unit → Option (E ⊕ R)) → Int × Unit → Option (E ⊕ R)} {len : Nat} {p : Int → Bool} {bad : Int → E} {fin : R} (hlen : len ≤ 9007199254740992)
    (h1 : ∀ rec (i : Int), 0 ≤ i → i < len → IntKind.wrap .i64 (i + 1) = i + 1 → step rec (i, ()) = if p i = true then rec (i + 1, ()) else some (.inl (bad i)))
    (h2 : ∀ rec (i : Int), ¬ i < (len : Int) → step rec (i, ()) = some (.inr fin)) : ∀ (r : Nat) (i : Int) (M : Nat), 0 ≤ i → i + r = len → r < M →
      (itN step M (i, ()) = some (.inr fin) ∧ ∀ j : Int, i ≤ j → j < len → p j = true) ∨ ∃ j : Int, i ≤ j ∧ j < len ∧ p j = false ∧ itN step M (i, ()) = some (.inl (bad j)) := by
  intro r
  induction r with
  | zero =>
    intro i M h0 hi hM
    obtain ⟨M, rfl⟩ : ∃ M', M = M' + 1 := ⟨M - 1, by omega⟩
    exact .inl ⟨h2 _ i (by omega), fun j h3 h4 => by omega⟩
  | succ r ih =>
    intro i M h0 hi hM
    obtain ⟨M, rfl⟩ : ∃ M', M = M' + 1 := ⟨M - 1, by omega⟩
    have hs : itN step (M + 1) (i, ()) = if p i = true then itN step M (i + 1, ()) else some (.inl (bad i)) := h1 _ i h0 (by omega) (wr_id (by omega) (by omega))
    rw [hs]
    cases hp : p i with
    | false => exact .inr ⟨i, by omega, by omega, hp, rfl⟩
    | true =>
      simp only [if_true]
      rcases ih (i + 1) M (by omega) (by omega) (by omega) with ⟨g1, g2⟩ | ⟨j, g1, g2, g3, g4⟩
      · refine .inl ⟨g1, fun j h3 h4 => ?_⟩
        by_cases he : j = i
        · subst he; exact hp
        · exact g2 j (by omega) h4
      · exact .inr ⟨j, by omega, g2, g3, g4⟩
theorem ext_gt {p q : List Int} (hl : p.length = q.length) (h : ∀ j : Int, 0 ≤ j → j < p.length → gt p j = gt q j) : p = q := by
  apply List.ext_getElem hl
  intro j h1 h2
  have := h j (by omega) (by omega)
  rwa [gts p j h1, gts q j h2] at this
theorem same_spec {N : Nat} (p q : List Int) (hp : p.length ≤ 8796093022208) (hN : 9007199254740992 ≤ N) : F_spec_l00Same N (p, (q, ())) = some (decide (p = q), ()) := by
  unfold F_spec_l00Same
  simp only
  by_cases hl : (p.length : Int) = q.length
  · have hl' : p.length = q.length := by omega
    rcases scan (step := n_spec_l00Same_0 N (p, (q, ()))) (len := p.length) (p := fun j => decide (gt p j = gt q j)) (bad := fun _ => (false, ())) (fin := ()) (by omega)
      (fun rec i h0 h1 h2 => by
        have h3 : i < (q.length : Int) := by omega
        by_cases he : gt p i = gt q i <;> simp [n_spec_l00Same_0, h0, h1, h2, h3, he])
      (fun rec i h => by simp [n_spec_l00Same_0, h]) (N := N) (by omega) with ⟨g1, g2⟩ | ⟨j, j0, j1, g3, g4⟩
    · have : p = q := ext_gt hl' fun j a b => by simpa using g2 j a b
      (repeat (first | refine bt (by omega) ?_ | refine bf (by omega) ?_ | refine nt (by omega) ?_ | refine nf (by omega) ?_))
      refine bd g1 ?_
      rw [decide_eq_true this]
      rfl
    · have : ¬ p = q := by rintro rfl; simp at g3
      (repeat (first | refine bt (by omega) ?_ | refine bf (by omega) ?_ | refine nt (by omega) ?_ | refine nf (by omega) ?_))
      refine bd g4 ?_
      rw [decide_eq_false this]
      rfl
  · have : ¬ p = q := by rintro rfl; exact hl rfl
    (repeat (first | refine bt (by omega) ?_ | refine bf (by omega) ?_ | refine nt (by omega) ?_ | refine nf (by omega) ?_))
    rw [decide_eq_false this]
theorem same_impl {N : Nat} (p q : List Int) (hp : p.length ≤ 8796093022208) (hN : 9007199254740992 ≤ N) : F_slices_Equal___int64_int64_ N (p, (q, ())) = some (decide (p = q), ()) := by
  unfold F_slices_Equal___int64_int64_
  simp only
  by_cases hl : (p.length : Int) = q.length
  · have hl' : p.length = q.length := by omega
    rcases scan (step := n_slices_Equal___int64_int64__0 N (p, (q, ((p.length : Int), ())))) (len := p.length) (p := fun j => decide (gt p j = gt q j)) (bad := fun _ => (false, ())) (fin := ()) (by omega)
      (fun rec i h0 h1 h2 => by
        have h3 : i < (q.length : Int) := by omega
        by_cases he : gt p i = gt q i <;> simp [n_slices_Equal___int64_int64__0, h0, h1, h2, h3, he])
      (fun rec i h => by simp [n_slices_Equal___int64_int64__0, h]) (N := N) (by omega) with ⟨g1, g2⟩ | ⟨j, j0, j1, g3, g4⟩
    · have : p = q := ext_gt hl' fun j a b => by simpa using g2 j a b
      (repeat (first | refine bt (by omega) ?_ | refine bf (by omega) ?_ | refine nt (by omega) ?_ | refine nf (by omega) ?_))
      refine bd g1 ?_
      rw [decide_eq_true this]
      rfl
    · have : ¬ p = q := by rintro rfl; simp at g3
      (repeat (first | refine bt (by omega) ?_ | refine bf (by omega) ?_ | refine nt (by omega) ?_ | refine nf (by omega) ?_))
      refine bd g4 ?_
      rw [decide_eq_false this]
      rfl
  · have : ¬ p = q := by rintro rfl; exact hl rfl
    (repeat (first | refine bt (by omega) ?_ | refine bf (by omega) ?_ | refine nt (by omega) ?_ | refine nf (by omega) ?_))
    rw [decide_eq_false this]
/-- Many lists of variables: both say the same of them. -/
theorem many_eq {N : Nat} (hN : 9007199254740992 ≤ N) (b : Int) (L : List LT) (Vs : List (List Int)) :
    (F_spec_l08Many N (b, (L, (Vs, ()))) = some (false, ()) ∧ F_impl_areAllVars N (b, (L, (Vs, ()))) = some (false, ())) ∨
    (F_spec_l08Many N (b, (L, (Vs, ()))) = some (true, ()) ∧ F_impl_areAllVars N (b, (L, (Vs, ()))) = some (true, ()) ∧ 1 ≤ Vs.length ∧ Vs.length ≤ 16 ∧ (∀ V ∈ Vs, varsB b V = true) ∧ bitsV b = true ∧
      ∃ o, F_spec_l08Pairs N (b, (L, ())) = some (o, (true, ())) ∧ F_impl_paired N (b, (L, ())) = some (o, (true, ())) ∧ PairsOk b L o) := by
  have is := is_ex (N := N) (by omega) b L
  have hlen : F_impl_length___int64_ N (Vs, ()) = some ((Vs.length : Int), ()) := rfl
  unfold F_spec_l08Many F_impl_areAllVars
  simp only
  by_cases h16 : Vs.length ≤ 16
  · have h16' : (Vs.length : Int) ≤ 16 := by omega
    have s0 := scan_ans (step := n_spec_l08Many_0 N (b, (Vs, ()))) (l := Vs) (p := varsB b) (bad := fun _ => (false, ())) (fin := ()) (by omega)
      (fun rec i h0 h1 h2 _ => by have hv := vars_spec (N := N) (by omega) b (gt Vs i); cases hw : varsB b (gt Vs i) <;> rw [hw] at hv <;> simp [n_spec_l08Many_0, h0, h1, h2, h16', hv]) (fun rec i h => by simp [n_spec_l08Many_0, h]) (N := N) (by omega)
    have s1 := scan_ans (step := n_impl_areAllVars_0 N (Vs, ((Vs.length : Int), (b, ())))) (l := Vs) (p := varsB b) (bad := fun j => (j, ())) (fin := ()) (by omega)
      (fun rec i h0 h1 h2 _ => by have hv := vars_impl (N := N) (by omega) b (gt Vs i); cases hw : varsB b (gt Vs i) <;> rw [hw] at hv <;> simp [n_impl_areAllVars_0, h0, h1, h2, hv]) (fun rec i h => by simp [n_impl_areAllVars_0, h]) (N := N) (by omega)
    rcases s0 with ⟨g1, g2⟩ | ⟨j, _, _, g2, g1⟩
    · rcases s1 with ⟨k1, _⟩ | ⟨j, _, _, k2, _⟩
      · rcases is with ⟨i1, i2⟩ | ⟨i1, i2, i3, i4⟩
        · exact .inl ⟨bd g1 (bd i1 rfl), bd i2 rfl⟩
        · by_cases h1 : 1 ≤ Vs.length
          · have hin : inB (Vs.length : Int) 1 16 = true := by simp [inB]; omega
            refine .inr ⟨bd g1 (bd i1 ?_), bd i2 ?_, h1, h16, List.all_eq_true.1 g2, i3, i4⟩
            · refine bd (in_spec N _ _ _) ?_
              rw [hin]
            · refine bd (in_impl N _ _ _) ?_
              rw [hin]
              exact bd k1 rfl
          · have hin : inB (Vs.length : Int) 1 16 = false := by simp [inB]; omega
            refine .inl ⟨bd g1 (bd i1 ?_), bd i2 ?_⟩
            · refine bd (in_spec N _ _ _) ?_
              rw [hin]
            · refine bd (in_impl N _ _ _) ?_
              rw [hin]
              rfl
      · rw [g2] at k2; cases k2
    · rcases s1 with ⟨_, k2⟩ | ⟨j', j0, _, _, k1⟩
      · rw [g2] at k2; cases k2
      · rcases is with ⟨i1, i2⟩ | ⟨i1, i2, i3, i4⟩
        · exact .inl ⟨bd g1 rfl, bd i2 rfl⟩
        · refine .inl ⟨bd g1 rfl, bd i2 ?_⟩
          refine bd (in_impl N _ _ _) ?_
          cases inB (Vs.length : Int) 1 16 with
          | false => rfl
          | true =>
            refine bd k1 ?_
            simp [j0]
  · have g1 : itN (n_spec_l08Many_0 N (b, (Vs, ()))) N ((0 : Int), ()) = some (.inr ()) := by
      obtain ⟨M, rfl⟩ : ∃ M', N = M' + 1 := ⟨N - 1, by omega⟩
      show n_spec_l08Many_0 _ _ _ _ = _
      unfold n_spec_l08Many_0
      simp only
      (repeat (first | refine bt (by omega) ?_ | refine bf (by omega) ?_ | refine nt (by omega) ?_ | refine nf (by omega) ?_))
      rfl
    have hin : inB (Vs.length : Int) 1 16 = false := by simp [inB]; omega
    rcases is with ⟨i1, i2⟩ | ⟨i1, i2, i3, i4⟩
    · exact .inl ⟨bd g1 (bd i1 rfl), bd i2 rfl⟩
    · refine .inl ⟨bd g1 (bd i1 ?_), bd i2 ?_⟩
      · refine bd (in_spec N _ _ _) ?_
        rw [hin]
      · refine bd (in_impl N _ _ _) ?_
        rw [hin]
        rfl
def pathOf (N : Nat) (b : Int) (L : List LT) (V : List Int) : List Int := match F_spec_l08Alone N (b, (L, (V, ()))) with | some r => r.2.1 | none => []
theorem uniform_eq {N : Nat} (hN : 9007199254740992 ≤ N) (b : Int) (L : List LT) (Vs : List (List Int)) : ∃ ok, F_spec_IsUniform N (b, (L, (Vs, ()))) = some (ok, ()) ∧ F_impl_IsUniform N (b, (L, (Vs, ()))) = some (ok, ()) := by
  unfold F_spec_IsUniform F_impl_IsUniform
  rcases many_eq hN b L Vs with ⟨h1, h2⟩ | ⟨h1, h2, h3, h4, h5, hb, o, h6, h7, h8⟩
  · exact ⟨false, bd h1 rfl, bd h2 rfl⟩
  · have ha : ∀ V, V ∈ Vs → ∃ now, F_spec_l08Alone N (b, (L, (V, ()))) = some (now, (pathOf N b L V, ())) ∧ F_impl_alone N (b, (L, (V, ()))) = some (now, (pathOf N b L V, ())) ∧ (pathOf N b L V).length ≤ 8796093022208 := by
      intro V hV
      obtain ⟨now, path, a1, a2, a3, _⟩ := alone_eq (N := N) (by omega) hb h8 h6 h7 (h5 V hV)
      have e : pathOf N b L V = path := by unfold pathOf; rw [a1]
      exact ⟨now, by rw [e]; exact a1, by rw [e]; exact a2, by rw [e]; exact a3⟩
    obtain ⟨n0, f1, f2, f3⟩ := ha (gt Vs 0) (gt_mem (Int.le_refl _) (by omega))
    generalize hfirst : pathOf N b L (gt Vs 0) = first at f1 f2 f3
    have s0 := scan_from (step := n_spec_IsUniform_0 N (b, (L, (Vs, (first, ()))))) (len := Vs.length) (p := fun j => decide (pathOf N b L (gt Vs j) = first)) (bad := fun _ => (false, ())) (fin := ()) (by omega)
      (fun rec i g0 g1 g2 => by
        obtain ⟨now, a1, a2, a3⟩ := ha (gt Vs i) (gt_mem g0 g1)
        have hs := same_spec (pathOf N b L (gt Vs i)) first a3 hN
        cases hd : decide (pathOf N b L (gt Vs i) = first) <;> rw [hd] at hs <;> simp [n_spec_IsUniform_0, g0, g1, g2, a1, hs])
      (fun rec i g => by simp [n_spec_IsUniform_0, g]) (Vs.length - 1) 1 N (by decide) (by omega) (by omega)
    have s1 := scan_from (step := n_impl_IsUniform_0 N (Vs, ((Vs.length : Int), (b, (L, (first, ())))))) (len := Vs.length) (p := fun j => decide (pathOf N b L (gt Vs j) = first)) (bad := fun j => (j, ())) (fin := ()) (by omega)
      (fun rec i g0 g1 g2 => by
        obtain ⟨now, a1, a2, a3⟩ := ha (gt Vs i) (gt_mem g0 g1)
        have hs := same_impl (pathOf N b L (gt Vs i)) first a3 hN
        cases hd : decide (pathOf N b L (gt Vs i) = first) <;> rw [hd] at hs <;> simp [n_impl_IsUniform_0, g0, g1, g2, a2, hs])
      (fun rec i g => by simp [n_impl_IsUniform_0, g]) Vs.length 0 N (by decide) (by omega) (by omega)
    rcases s0 with ⟨p1, p2⟩ | ⟨j, j0, j1, p2, p1⟩
    · rcases s1 with ⟨q1, q2⟩ | ⟨i, i0, i1, q2, q1⟩
      · refine ⟨true, bd h1 ?_, bd h2 ?_⟩
        · simp only [Bool.not_true, cond_false]
          (repeat (first | refine bt (by omega) ?_ | refine bf (by omega) ?_ | refine nt (by omega) ?_ | refine nf (by omega) ?_))
          exact bd f1 (bd p1 rfl)
        · simp only [Bool.not_true, cond_false]
          (repeat (first | refine bt (by omega) ?_ | refine bf (by omega) ?_ | refine nt (by omega) ?_ | refine nf (by omega) ?_))
          exact bd f2 (bd q1 rfl)
      · exfalso
        by_cases hi : i = 0
        · subst hi
          simp [hfirst] at q2
        · have := p2 i (by omega) i1
          rw [q2] at this; cases this
    · rcases s1 with ⟨q1, q2⟩ | ⟨i, i0, i1, q2, q1⟩
      · have := q2 j (by omega) j1
        rw [p2] at this; cases this
      · refine ⟨false, bd h1 ?_, bd h2 ?_⟩
        · simp only [Bool.not_true, cond_false]
          (repeat (first | refine bt (by omega) ?_ | refine bf (by omega) ?_ | refine nt (by omega) ?_ | refine nf (by omega) ?_))
          exact bd f1 (bd p1 rfl)
        · simp only [Bool.not_true, cond_false]
          (repeat (first | refine bt (by omega) ?_ | refine bf (by omega) ?_ | refine nt (by omega) ?_ | refine nf (by omega) ?_))
          refine bd f2 (bd q1 ?_)
          simp [i0]
/-! ### lists of lists in the laws -/
def Sm (vs : List (List Int)) : Prop := vs.length ≤ 1048576 ∧ ∀ v, v ∈ vs → v.length ≤ 1048576
theorem szI (N : Nat) (l : List Int) (n : Int) (h0 : 0 ≤ n) (h1 : n ≤ 1048576) (hl : l.length ≤ 9223372036854775807) : F_laws_szInt64S N (l, (n, ())) = some (-1, ()) ∨ (F_laws_szInt64S N (l, (n, ())) = some (n - (l.length : Int), ()) ∧ 0 ≤ n - (l.length : Int)) := by
  have hw : IntKind.wrap .i64 (n - (l.length : Int)) = n - l.length := wr_id (by omega) (by omega)
  by_cases h : n - (l.length : Int) < 0
  · left; simp [F_laws_szInt64S, hw, h]
  · right; exact ⟨by simp [F_laws_szInt64S, hw, h], by omega⟩
theorem szII {N : Nat} (hN : 9007199254740992 ≤ N) (l : List (List Int)) (n : Int) (h0 : 0 ≤ n) (h1 : n ≤ 1048576) (hl : l.length ≤ 9223372036854775807) (hl2 : ∀ v, v ∈ l → v.length ≤ 9223372036854775807) :
    F_laws_szInt64SS N (l, (n, ())) = some (-1, ()) ∨ ∃ r, F_laws_szInt64SS N (l, (n, ())) = some (r, ()) ∧ 0 ≤ r ∧ r ≤ n ∧ Sm l := by
  have hw : IntKind.wrap .i64 (n - (l.length : Int)) = n - l.length := wr_id (by omega) (by omega)
  by_cases h : n - (l.length : Int) < 0
  · left; simp [F_laws_szInt64SS, hw, h]
  have key : ∀ (r : Nat) (i M : Nat) (m : Int), i + r = l.length → r < M → 0 ≤ m → m ≤ 1048576 →
      itN (n_laws_szInt64SS_0 N (l, ())) M (m, ((i : Int), ())) = some (.inl (-1, ())) ∨ ∃ m', itN (n_laws_szInt64SS_0 N (l, ())) M (m, ((i : Int), ())) = some (.inr (m', ())) ∧ 0 ≤ m' ∧ m' ≤ m ∧ ∀ j : Int, i ≤ j → j < l.length → (gt l j).length ≤ 1048576 := by
    intro r
    induction r with
    | zero =>
      intro i M m hi hM m0 m1
      obtain ⟨M, rfl⟩ : ∃ M', M = M' + 1 := ⟨M - 1, by omega⟩
      refine .inr ⟨m, ?_, m0, Int.le_refl _, fun j a b => by omega⟩
      show n_laws_szInt64SS_0 N (l, ()) _ _ = _
      simp [n_laws_szInt64SS_0, show ¬ (i < l.length) by omega]
    | succ r ih =>
      intro i M m hi hM m0 m1
      obtain ⟨M, rfl⟩ : ∃ M', M = M' + 1 := ⟨M - 1, by omega⟩
      have hil : (i : Int) < l.length := by omega
      have hi0 : (0 : Int) ≤ i := by omega
      have hw1 : IntKind.wrap .i64 ((i : Int) + 1) = ((i + 1 : Nat) : Int) := by rw [wr_id (by omega) (by omega)]; omega
      show n_laws_szInt64SS_0 N (l, ()) (itN (n_laws_szInt64SS_0 N (l, ())) M) _ = _ ∨ ∃ m', n_laws_szInt64SS_0 N (l, ()) (itN (n_laws_szInt64SS_0 N (l, ())) M) _ = _ ∧ _
      rcases szI N (gt l i) m m0 m1 (hl2 _ (gt_mem hi0 hil)) with g | ⟨g, g'⟩
      · left
        simp only [n_laws_szInt64SS_0, decide_eq_true hil, decide_eq_true hi0, cond_true, g]
        rfl
      · have hng : ¬ (m - ((gt l i).length : Int) < 0) := by omega
        have hst : n_laws_szInt64SS_0 N (l, ()) (itN (n_laws_szInt64SS_0 N (l, ())) M) (m, ((i : Int), ())) = itN (n_laws_szInt64SS_0 N (l, ())) M (m - (gt l i).length, (((i + 1 : Nat) : Int), ())) := by
          simp only [n_laws_szInt64SS_0, decide_eq_true hil, decide_eq_true hi0, cond_true, g, Option.bind_some, hw1, decide_eq_false hng, cond_false]
        rw [hst]
        rcases ih (i + 1) M (m - (gt l i).length) (by omega) (by omega) (by omega) (by omega) with k | ⟨m', k1, k2, k3, k4⟩
        · exact .inl k
        · refine .inr ⟨m', k1, k2, by omega, fun j a b => ?_⟩
          by_cases he : j = i
          · subst he; omega
          · exact k4 j (by omega) b
  rcases key l.length 0 N (n - l.length) (by omega) (by omega) (by omega) (by omega) with k | ⟨m', k1, k2, k3, k4⟩
  · left
    have k : itN (n_laws_szInt64SS_0 N (l, ())) N (n - l.length, ((0 : Int), ())) = some (.inl (-1, ())) := k
    simp [F_laws_szInt64SS, hw, h, k]
  · right
    have k1 : itN (n_laws_szInt64SS_0 N (l, ())) N (n - l.length, ((0 : Int), ())) = some (.inr (m', ())) := k1
    refine ⟨m', by simp [F_laws_szInt64SS, hw, h, k1], k2, by omega, by omega, ?_⟩
    exact (all_gt (p := fun v : List Int => v.length ≤ 1048576)).2 fun j a b => k4 j (by omega) b
theorem toII {N : Nat} (l : List (List Int)) (hl : Sm l) (hN : 9007199254740992 ≤ N) : F_laws_toInt64SS N (l, ()) = some (l, ()) := by
  have hl1 := hl.1
  have hc := copyL (step := n_laws_toInt64SS_0 N (l, ())) (l := l) (by omega) (fun rec i o h0 h1 h2 h3 hm => by have ht := toI (N := N) _ (hl.2 _ hm) (by omega); simp [n_laws_toInt64SS_0, h0, h1, h2, h3, ht]) (fun rec i o h => by simp [n_laws_toInt64SS_0, h]) (N := N) (by omega) (List.replicate (l.length : Int).toNat []) (by simp)
  unfold F_laws_toInt64SS
  simp only
  (repeat (first | refine bt (by omega) ?_ | refine bf (by omega) ?_ | refine nt (by omega) ?_ | refine nf (by omega) ?_))
  exact bd hc rfl
theorem eqII {N : Nat} (l : List (List Int)) (hl : Sm l) (hN : 9007199254740992 ≤ N) : F_laws_eqInt64SS N (l, (l, ())) = some (true, ()) := by
  have hl1 := hl.1
  rcases scan_ans (step := n_laws_eqInt64SS_0 N (l, (l, ()))) (l := l) (p := fun _ => true) (bad := fun _ => (false, ())) (fin := ()) (by omega) (fun rec i h0 h1 h2 hm => by
    have hv := hl.2 _ hm
    have ht := eqI (N := N) (gt l i) (by omega) (by omega); simp [n_laws_eqInt64SS_0, h0, h1, h2, ht]) (fun rec i h => by simp [n_laws_eqInt64SS_0, h]) (N := N) (by omega) with ⟨g1, g2⟩ | ⟨j, _, _, g3, g4⟩
  · simp [F_laws_eqInt64SS, g1]
  · simp at g3
/-- The law IsUniform. -/
theorem uniform_law {N : Nat} (hN : 9007199254740992 ≤ N) (b : Int) (L : List LT) (Vs : List (List Int)) (hL : L.length ≤ 9223372036854775807) (hV : Vs.length ≤ 9223372036854775807) (hV2 : ∀ v, v ∈ Vs → v.length ≤ 9223372036854775807) : F_laws_FnExactIsUniform N (b, (L, (Vs, ()))) = some (true, ()) := by
  unfold F_laws_FnExactIsUniform
  simp only
  rcases szL N L hL with g | ⟨g, hl⟩
  · exact bd g rfl
  · refine bd g ?_
    simp only
    (repeat (first | refine bt (by omega) ?_ | refine bf (by omega) ?_ | refine nt (by omega) ?_ | refine nf (by omega) ?_))
    rcases szII hN Vs (1048576 - (L.length : Int)) (by omega) (by omega) hV hV2 with k | ⟨r, k, r0, r1, sm⟩
    · exact bd k rfl
    · obtain ⟨ok, c1, c2⟩ := uniform_eq (N := N) hN b L Vs
      have t1 := toL (N := N) L hl (by omega)
      have q1 := eqL (N := N) L hl (by omega)
      have t2 := toII (N := N) Vs sm hN
      have q2 := eqII (N := N) Vs sm hN
      refine bd k ?_
      simp only
      (repeat (first | refine bt (by omega) ?_ | refine bf (by omega) ?_ | refine nt (by omega) ?_ | refine nf (by omega) ?_))
      refine bd t1 (bd t2 (bd c1 (bd t1 (bd t2 (bd c2 ?_)))))
      simp only [Bool.not_true, cond_false, beq_self_eq_true]
      refine bd t1 (bd q1 ?_)
      simp only [Bool.not_true, cond_false]
      exact bd t2 (bd q2 rfl)
end Go.Proofs.Ytheemkehedmlfaa.P
