/- The laws PathOf and RunAlone. -/
import Derived.Test.YtheemkehedmlfaaP9
set_option linter.unusedVariables false
set_option linter.unusedSimpArgs false
set_option maxRecDepth 4000
namespace Go.Proofs.Ytheemkehedmlfaa.P
open Go Go.Proofs.Ytheemkehedmlfaa.E
theorem w1 (k : Int) (h0 : -1000000000000000000 ≤ k) (h1 : k ≤ 1000000000000000000) : IntKind.wrap .i64 (k + 1) = k + 1 := wr_id (by omega) (by omega)
theorem mark_line (N : Nat) (o : List LT) (i : Nat) (k : Int) (hi : i < o.length) (hl : o.length ≤ 1048576) (h0 : 0 ≤ k) (h1 : k ≤ 100000000000) : ∃ o' : List LT, o'.length = o.length ∧ ∀ rec, n_laws_FnExactPathOf_0 N () rec (k, ((i : Int), (o, ()))) = rec (k + 5, (((i + 1 : Nat) : Int), (o', ()))) := by
  have e : IntKind.wrap .i64 ((i : Int) + 1) = ((i + 1 : Nat) : Int) := by rw [w1 _ (by omega) (by omega)]; rfl
  have e1 := w1 k (by omega) (by omega)
  have e2 := w1 (k + 1) (by omega) (by omega)
  have e3 := w1 (k + 1 + 1) (by omega) (by omega)
  have e4 := w1 (k + 1 + 1 + 1) (by omega) (by omega)
  have e5 := w1 (k + 1 + 1 + 1 + 1) (by omega) (by omega)
  have e6 : k + 1 + 1 + 1 + 1 + 1 = k + 5 := by omega
  refine ⟨?_, ?_, fun rec => ?_⟩
  case refine_3 =>
    unfold n_laws_FnExactPathOf_0
    simp only [e, e1, e2, e3, e4, e5, List.length_set]
    (repeat (first | refine bt (by omega) ?_ | refine bf (by omega) ?_ | refine nt (by omega) ?_ | refine nf (by omega) ?_))
    rw [e6]
  case refine_2 => simp
theorem mark_lines (N : Nat) : ∀ (d i M : Nat) (o : List LT) (k : Int), i + d = o.length → d < M → o.length ≤ 1048576 → 0 ≤ k → k + 5 * (d : Int) ≤ 100000000000 → ∃ o', itN (n_laws_FnExactPathOf_0 N ()) M (k, ((i : Int), (o, ()))) = some (k + 5 * (d : Int), (o', ())) := by
  intro d
  induction d with
  | zero =>
    intro i M o k hi hM hl h0 h1
    obtain ⟨M, rfl⟩ : ∃ M', M = M' + 1 := ⟨M - 1, by omega⟩
    refine ⟨o, ?_⟩
    show n_laws_FnExactPathOf_0 _ _ _ _ = _
    unfold n_laws_FnExactPathOf_0
    simp only
    (repeat (first | refine bt (by omega) ?_ | refine bf (by omega) ?_ | refine nt (by omega) ?_ | refine nf (by omega) ?_))
    simp
  | succ d ih =>
    intro i M o k hi hM hl h0 h1
    obtain ⟨M, rfl⟩ : ∃ M', M = M' + 1 := ⟨M - 1, by omega⟩
    obtain ⟨o1, g1, g2⟩ := mark_line N o i k (by omega) hl h0 (by omega)
    obtain ⟨o', g3⟩ := ih (i + 1) M o1 (k + 5) (by omega) (by omega) (by omega) (by omega) (by omega)
    refine ⟨o', ?_⟩
    show n_laws_FnExactPathOf_0 _ _ (itN _ M) _ = _
    rw [g2, g3, show k + 5 + 5 * (d : Int) = k + 5 * ((d + 1 : Nat) : Int) by omega]
theorem mark_ints (N : Nat) (k0 : Int) : ∀ (d i M : Nat) (o : List Int), i + d = o.length → d < M → 0 ≤ k0 → k0 + (o.length : Int) ≤ 1000000000000000 → (∀ j, j < i → o.getD j 0 = k0 + (j : Int)) →
    ∃ o' : List Int, itN (n_laws_FnExactPathOf_1 N ()) M (k0 + (i : Int), ((i : Int), (o, ()))) = some (k0 + (o.length : Int), (o', ())) ∧ o'.length = o.length ∧ ∀ j, j < o.length → o'.getD j 0 = k0 + (j : Int) := by
  intro d
  induction d with
  | zero =>
    intro i M o hi hM h0 h1 hj
    obtain ⟨M, rfl⟩ : ∃ M', M = M' + 1 := ⟨M - 1, by omega⟩
    obtain rfl : i = o.length := by omega
    refine ⟨o, ?_, rfl, hj⟩
    show n_laws_FnExactPathOf_1 _ _ _ _ = _
    unfold n_laws_FnExactPathOf_1
    simp only
    (repeat (first | refine bt (by omega) ?_ | refine bf (by omega) ?_ | refine nt (by omega) ?_ | refine nf (by omega) ?_))
    rfl
  | succ d ih =>
    intro i M o hi hM h0 h1 hj
    obtain ⟨M, rfl⟩ : ∃ M', M = M' + 1 := ⟨M - 1, by omega⟩
    have e : IntKind.wrap .i64 ((i : Int) + 1) = ((i + 1 : Nat) : Int) := by rw [w1 _ (by omega) (by omega)]; rfl
    have e1 : IntKind.wrap .i64 (k0 + (i : Int) + 1) = k0 + ((i + 1 : Nat) : Int) := by rw [w1 _ (by omega) (by omega)]; omega
    obtain ⟨o', g1, g2, g3⟩ := ih (i + 1) M (o.set i (k0 + (i : Int))) (by rw [List.length_set]; omega) (by omega) h0 (by rw [List.length_set]; exact h1) (fun j hlt => by
      rw [getD_set _ _ _ _ (by omega)]
      by_cases he : j = i
      · rw [if_pos he, he]
      · rw [if_neg he]; exact hj j (by omega))
    rw [List.length_set] at g1 g2 g3
    refine ⟨o', ?_, g2, g3⟩
    rw [← g1]
    show n_laws_FnExactPathOf_1 _ _ (itN (n_laws_FnExactPathOf_1 N ()) M) _ = _
    generalize itN (n_laws_FnExactPathOf_1 N ()) M = rec
    unfold n_laws_FnExactPathOf_1
    simp only [e, e1, Int.toNat_natCast]
    (repeat (first | refine bt (by omega) ?_ | refine bf (by omega) ?_ | refine nt (by omega) ?_ | refine nf (by omega) ?_))
    try rfl
theorem held_ints (N : Nat) (k0 : Int) (a : List Int) (h0 : 0 ≤ k0) (h1 : k0 + (a.length : Int) ≤ 1000000000000000) (ha : ∀ j, j < a.length → a.getD j 0 = k0 + (j : Int)) : ∀ (d i M : Nat), i + d = a.length → d < M →
    itN (n_laws_heldInt64S_0 N (a, ())) M (k0 + (i : Int), ((i : Int), ())) = some (.inr (k0 + (a.length : Int), ())) := by
  intro d
  induction d with
  | zero =>
    intro i M hi hM
    obtain ⟨M, rfl⟩ : ∃ M', M = M' + 1 := ⟨M - 1, by omega⟩
    obtain rfl : i = a.length := by omega
    show n_laws_heldInt64S_0 _ _ _ _ = _
    unfold n_laws_heldInt64S_0
    simp only
    (repeat (first | refine bt (by omega) ?_ | refine bf (by omega) ?_ | refine nt (by omega) ?_ | refine nf (by omega) ?_))
    rfl
  | succ d ih =>
    intro i M hi hM
    obtain ⟨M, rfl⟩ : ∃ M', M = M' + 1 := ⟨M - 1, by omega⟩
    have e : IntKind.wrap .i64 ((i : Int) + 1) = ((i + 1 : Nat) : Int) := by rw [w1 _ (by omega) (by omega)]; rfl
    have e1 : IntKind.wrap .i64 (k0 + (i : Int) + 1) = k0 + ((i + 1 : Nat) : Int) := by rw [w1 _ (by omega) (by omega)]; omega
    have g : gt a (i : Int) = k0 + (i : Int) := by rw [gtn]; exact ha i (by omega)
    rw [← ih (i + 1) M (by omega) (by omega)]
    show n_laws_heldInt64S_0 _ _ (itN (n_laws_heldInt64S_0 N (a, ())) M) _ = _
    generalize itN (n_laws_heldInt64S_0 N (a, ())) M = rec
    unfold n_laws_heldInt64S_0
    simp only [e, e1, g]
    (repeat (first | refine bt (by omega) ?_ | refine bf (by omega) ?_ | refine nt (by omega) ?_ | refine nf (by omega) ?_))
    try rfl
theorem held_eq {N : Nat} (a : List Int) (hN : a.length < N) (h1 : a.length ≤ 9007199254740 ) (ha : ∀ j, j < a.length → a.getD j 0 = 1 + (j : Int)) : F_laws_heldInt64S N (a, ((1 : Int), ())) = some (1 + (a.length : Int), ()) := by
  have h := held_ints N 1 a (by decide) (by omega) ha a.length 0 N (by omega) hN
  unfold F_laws_heldInt64S
  exact bd h rfl
/-- The law PathOf. -/
theorem path_law {N : Nat} (hN : 9007199254740992 ≤ N) (b : Int) (L : List LT) (V : List Int) (hL : L.length ≤ 9223372036854775807) : F_laws_FnExactPathOf N (b, (L, (V, ()))) = some (true, ()) := by
  unfold F_laws_FnExactPathOf
  simp only
  by_cases hv : (V.length : Int) > 1048576
  · (repeat (first | refine bt (by omega) ?_ | refine bf (by omega) ?_ | refine nt (by omega) ?_ | refine nf (by omega) ?_)); rfl
  rcases szL N L hL with g | ⟨g, hl⟩
  · (repeat (first | refine bt (by omega) ?_ | refine bf (by omega) ?_ | refine nt (by omega) ?_ | refine nf (by omega) ?_))
    exact bd g rfl
  · obtain ⟨p, ok, c1, c2, c3⟩ := path_eq (N := N) (by omega) b L V
    have t1 := toL (N := N) L hl (by omega)
    have t2 := toI (N := N) V (by omega) (by omega)
    have q1 := eqL (N := N) L hl (by omega)
    have q2 := eqI (N := N) V (by omega) (by omega)
    have q3 := eqI (N := N) p (by omega) (by omega)
    obtain ⟨o1, m1⟩ := mark_lines N L.length 0 N L 1 (by omega) (by omega) hl (by decide) (by omega)
    obtain ⟨o2, m2, _, _⟩ := mark_ints N (1 + 5 * (L.length : Int)) V.length 0 N V (by omega) (by omega) (by omega) (by omega) (fun j hj => by omega)
    obtain ⟨o3, m3, m4, m5⟩ := mark_ints N 1 p.length 0 N p (by omega) (by omega) (by omega) (by omega) (fun j hj => by omega)
    have h3 := held_eq (N := N) o3 (by omega) (by omega) (by rw [m4]; exact m5)
    rw [m4] at h3
    rw [show (1 + 5 * (L.length : Int)) + ((0 : Nat) : Int) = 1 + 5 * (L.length : Int) by omega] at m2
    have m3 : itN (n_laws_FnExactPathOf_2 N ()) N ((1 : Int), ((0 : Int), (p, ()))) = some (1 + (p.length : Int), (o3, ())) := m3
    have m1 : itN (n_laws_FnExactPathOf_0 N ()) N ((1 : Int), ((0 : Int), (L, ()))) = some (1 + 5 * (L.length : Int), (o1, ())) := m1
    have m2 : itN (n_laws_FnExactPathOf_1 N ()) N ((1 + 5 * (L.length : Int)), ((0 : Int), (V, ()))) = some (1 + 5 * (L.length : Int) + (V.length : Int), (o2, ())) := m2
    (repeat (first | refine bt (by omega) ?_ | refine bf (by omega) ?_ | refine nt (by omega) ?_ | refine nf (by omega) ?_))
    refine bd g ?_
    simp only
    (repeat (first | refine bt (by omega) ?_ | refine bf (by omega) ?_ | refine nt (by omega) ?_ | refine nf (by omega) ?_))
    refine bd t1 (bd t2 (bd c1 (bd t1 (bd t2 (bd c2 (bd q3 ?_))))))
    simp only [decide_true, Bool.not_true, cond_false, beq_self_eq_true]
    refine bd t1 (bd q1 ?_)
    simp only [decide_true, Bool.not_true, cond_false, beq_self_eq_true]
    refine bd t2 (bd q2 ?_)
    simp only [decide_true, Bool.not_true, cond_false, beq_self_eq_true]
    refine bd m1 (bd m2 ?_)
    simp only
    (repeat (first | refine bt (by omega) ?_ | refine bf (by omega) ?_ | refine nt (by omega) ?_ | refine nf (by omega) ?_))
    refine bd q3 ?_
    simp only [decide_true, Bool.not_true, cond_false, beq_self_eq_true]
    refine bd m3 (bd h3 ?_)
    simp only [decide_true, Bool.not_true, cond_false, beq_self_eq_true]
    (repeat (first | refine bt (by omega) ?_ | refine bf (by omega) ?_ | refine nt (by omega) ?_ | refine nf (by omega) ?_))
    refine bd t1 (bd t2 (bd c2 (bd q3 ?_)))
    simp only [decide_true, Bool.not_true, cond_false, beq_self_eq_true]
    refine bd h3 ?_
    simp only [decide_true, Bool.not_true, cond_false, beq_self_eq_true]
    (repeat (first | refine bt (by omega) ?_ | refine bf (by omega) ?_ | refine nt (by omega) ?_ | refine nf (by omega) ?_))
    rfl
/-- The law RunAlone. -/
theorem run_law {N : Nat} (hN : 9007199254740992 ≤ N) (b : Int) (L : List LT) (V : List Int) (hL : L.length ≤ 9223372036854775807) : F_laws_FnExactRunAlone N (b, (L, (V, ()))) = some (true, ()) := by
  unfold F_laws_FnExactRunAlone
  simp only
  by_cases hv : (V.length : Int) > 1048576
  · (repeat (first | refine bt (by omega) ?_ | refine bf (by omega) ?_ | refine nt (by omega) ?_ | refine nf (by omega) ?_)); rfl
  rcases szL N L hL with g | ⟨g, hl⟩
  · (repeat (first | refine bt (by omega) ?_ | refine bf (by omega) ?_ | refine nt (by omega) ?_ | refine nf (by omega) ?_))
    exact bd g rfl
  · obtain ⟨p, ok, c1, c2, c3⟩ := run_eq (N := N) (by omega) b L V
    have t1 := toL (N := N) L hl (by omega)
    have t2 := toI (N := N) V (by omega) (by omega)
    have q1 := eqL (N := N) L hl (by omega)
    have q2 := eqI (N := N) V (by omega) (by omega)
    have q3 := eqI (N := N) p (by omega) (by omega)
    obtain ⟨o1, m1⟩ := mark_lines N L.length 0 N L 1 (by omega) (by omega) hl (by decide) (by omega)
    obtain ⟨o2, m2, _, _⟩ := mark_ints N (1 + 5 * (L.length : Int)) V.length 0 N V (by omega) (by omega) (by omega) (by omega) (fun j hj => by omega)
    obtain ⟨o3, m3, m4, m5⟩ := mark_ints N 1 p.length 0 N p (by omega) (by omega) (by omega) (by omega) (fun j hj => by omega)
    have h3 := held_eq (N := N) o3 (by omega) (by omega) (by rw [m4]; exact m5)
    rw [m4] at h3
    rw [show (1 + 5 * (L.length : Int)) + ((0 : Nat) : Int) = 1 + 5 * (L.length : Int) by omega] at m2
    have m3 : itN (n_laws_FnExactRunAlone_2 N ()) N ((1 : Int), ((0 : Int), (p, ()))) = some (1 + (p.length : Int), (o3, ())) := m3
    have m1 : itN (n_laws_FnExactRunAlone_0 N ()) N ((1 : Int), ((0 : Int), (L, ()))) = some (1 + 5 * (L.length : Int), (o1, ())) := m1
    have m2 : itN (n_laws_FnExactRunAlone_1 N ()) N ((1 + 5 * (L.length : Int)), ((0 : Int), (V, ()))) = some (1 + 5 * (L.length : Int) + (V.length : Int), (o2, ())) := m2
    (repeat (first | refine bt (by omega) ?_ | refine bf (by omega) ?_ | refine nt (by omega) ?_ | refine nf (by omega) ?_))
    refine bd g ?_
    simp only
    (repeat (first | refine bt (by omega) ?_ | refine bf (by omega) ?_ | refine nt (by omega) ?_ | refine nf (by omega) ?_))
    refine bd t1 (bd t2 (bd c1 (bd t1 (bd t2 (bd c2 (bd q3 ?_))))))
    simp only [decide_true, Bool.not_true, cond_false, beq_self_eq_true]
    refine bd t1 (bd q1 ?_)
    simp only [decide_true, Bool.not_true, cond_false, beq_self_eq_true]
    refine bd t2 (bd q2 ?_)
    simp only [decide_true, Bool.not_true, cond_false, beq_self_eq_true]
    refine bd m1 (bd m2 ?_)
    simp only
    (repeat (first | refine bt (by omega) ?_ | refine bf (by omega) ?_ | refine nt (by omega) ?_ | refine nf (by omega) ?_))
    refine bd q3 ?_
    simp only [decide_true, Bool.not_true, cond_false, beq_self_eq_true]
    refine bd m3 (bd h3 ?_)
    simp only [decide_true, Bool.not_true, cond_false, beq_self_eq_true]
    (repeat (first | refine bt (by omega) ?_ | refine bf (by omega) ?_ | refine nt (by omega) ?_ | refine nf (by omega) ?_))
    refine bd t1 (bd t2 (bd c2 (bd q3 ?_)))
    simp only [decide_true, Bool.not_true, cond_false, beq_self_eq_true]
    refine bd h3 ?_
    simp only [decide_true, Bool.not_true, cond_false, beq_self_eq_true]
    (repeat (first | refine bt (by omega) ?_ | refine bf (by omega) ?_ | refine nt (by omega) ?_ | refine nf (by omega) ?_))
    rfl
end Go.Proofs.Ytheemkehedmlfaa.P
