import Derived.Test.YtheemkehedmlfaaF10
set_option linter.unusedVariables false
set_option linter.unusedSimpArgs false
namespace Go.Proofs.Ytheemkehedmlfaa.E
open Go
theorem getN_app {l m : List Nat} {k : Nat} (h : k < l.length) : getN (l ++ m) k = getN l k := by
  induction l generalizing k with
  | nil => cases h
  | cons x l ih =>
    cases k with
    | zero => rfl
    | succ k => exact ih (by simpa using h)
theorem getN_at {l m : List Nat} {x : Nat} : getN (l ++ x :: m) l.length = x := by
  induction l with
  | nil => rfl
  | cons y l ih => exact ih
theorem befL_app : ∀ (l : List Oper) (acc : List Nat), ∃ m, befL acc l = acc ++ m
  | [], acc => ⟨[], by simp [befL]⟩
  | o :: r, acc => by
    obtain ⟨m, hm⟩ := befL_app r (acc ++ [depM acc o.after.toList])
    exact ⟨depM acc o.after.toList :: m, by simp only [befL]; rw [hm, List.append_assoc]; rfl⟩
theorem bitN_zero (j : Nat) : bitN 0 j = false := by rw [bitN_test]; exact Nat.zero_testBit j
theorem depM_bit {acc : List Nat} {j : Nat} : ∀ {l : List Edge}, bitN (depM acc l) j = true → ∃ e, e ∈ l ∧ Region.binds .any e = true ∧ (e.on = j ∨ bitN (getN acc e.on) j = true)
  | [], h => by rw [show depM acc [] = 0 from rfl, bitN_zero] at h; cases h
  | e :: r, h => by
    simp only [depM] at h
    cases hb : Region.binds .any e with
    | true =>
      rw [hb] at h
      simp only [cond_true] at h
      rw [bitN_lor, bitN_lor, bitN_one, Bool.or_eq_true, Bool.or_eq_true, decide_eq_true_eq] at h
      rcases h with h | h
      · exact ⟨e, List.mem_cons_self, hb, h⟩
      · obtain ⟨e', h1, h2⟩ := depM_bit h
        exact ⟨e', List.mem_cons_of_mem _ h1, h2⟩
    | false =>
      rw [hb] at h
      obtain ⟨e', h1, h2⟩ := depM_bit h
      exact ⟨e', List.mem_cons_of_mem _ h1, h2⟩
theorem edges_lt {i : Nat} : ∀ {l : List Edge}, edgesOk i l = true → ∀ e, e ∈ l → Region.binds .any e = true → e.on < i
  | e :: r, h, e', h', hb => by
    simp only [edgesOk, Bool.and_eq_true, Bool.or_eq_true, Bool.not_eq_true'] at h
    rcases List.mem_cons.1 h' with rfl | h'
    · rcases h.1 with h1 | h1
      · rw [hb] at h1; cases h1
      · exact blt_lt h1
    · exact edges_lt h.2 e' h' hb
theorem bef_spec : ∀ (l : List Oper) (acc : List Nat) (k : Nat) (o : Oper), l[k]? = some o → edgesOk (acc.length + k) o.after.toList = true → ∀ j, bitN (getN (befL acc l) (acc.length + k)) j = true →
    ∃ e, e ∈ o.after.toList ∧ Region.binds .any e = true ∧ (e.on = j ∨ bitN (getN (befL acc l) e.on) j = true)
  | [], acc, k, o, h, _, j, _ => by simp at h
  | o' :: r, acc, 0, o, h, he, j, hb => by
    simp at h
    subst h
    obtain ⟨m, hm⟩ := befL_app r (acc ++ [depM acc o'.after.toList])
    have hall : befL acc (o' :: r) = acc ++ depM acc o'.after.toList :: m := by simp only [befL]; rw [hm, List.append_assoc]; rfl
    rw [hall, Nat.add_zero, getN_at] at hb
    obtain ⟨e, h1, h2, h3⟩ := depM_bit hb
    refine ⟨e, h1, h2, h3.imp id fun h3 => ?_⟩
    rw [hall, getN_app (by simpa using edges_lt he e h1 h2)]
    exact h3
  | o' :: r, acc, k + 1, o, h, he, j, hb => by
    have := bef_spec r (acc ++ [depM acc o'.after.toList]) k o (by simpa using h) (by rw [List.length_append]; simp only [List.length_cons, List.length_nil]; rw [show acc.length + (0 + 1) + k = acc.length + (k + 1) by omega]; exact he) j (by
      rw [List.length_append]; simp only [List.length_cons, List.length_nil]; rw [show acc.length + (0 + 1) + k = acc.length + (k + 1) by omega]; exact hb)
    exact this
theorem dst_look : ∀ (l : List Oper) (i k : Nat) (o : Oper) (d : Nat), noDup ((dstL i l).map (·.1)) = true → l[k]? = some o → o.dst = some d → lookL d (dstL i l) = some (i + k)
  | [], i, k, o, d, _, h, _ => by simp at h
  | o' :: r, i, 0, o, d, hn, h, hd => by
    simp at h
    subst h
    simp only [dstL, hd, lookL, Nat.beq_refl, cond_true, Nat.add_zero]
  | o' :: r, i, k + 1, o, d, hn, h, hd => by
    have hr : lookL d (dstL (i + 1) r) = some (i + 1 + k) := by
      refine dst_look r (i + 1) k o d ?_ (by simpa using h) hd
      simp only [dstL] at hn
      cases ho : o'.dst with
      | none => rw [ho] at hn; exact hn
      | some d' => rw [ho] at hn; simp only [List.map_cons, noDup, Bool.and_eq_true] at hn; exact hn.2
    simp only [dstL] at hn ⊢
    cases ho : o'.dst with
    | none => simp only; rw [hr]; congr 1; omega
    | some d' =>
      simp only
      rw [ho] at hn
      simp only [List.map_cons, noDup, Bool.and_eq_true, Bool.not_eq_true'] at hn
      have hne : Nat.beq d d' = false := by
        cases hb : Nat.beq d d' with
        | false => rfl
        | true =>
          have := beq_eq' hb
          subst this
          have hm := lookL_mem hr
          have := hasN_iff.2 (List.mem_map.2 ⟨_, hm, rfl⟩ : d ∈ (dstL (i + 1) r).map (·.1))
          rw [hn.1] at this
          cases this
      simp only [lookL, hne, cond_false]
      rw [hr]; congr 1; omega
theorem dst_of : ∀ {l : List Oper} {i t j : Nat}, lookL t (dstL i l) = some j → ∃ k o, j = i + k ∧ l[k]? = some o ∧ o.dst = some t
  | [], i, t, j, h => by cases h
  | o' :: r, i, t, j, h => by
    simp only [dstL] at h
    cases ho : o'.dst with
    | none =>
      rw [ho] at h
      obtain ⟨k, o, rfl, h1, h2⟩ := dst_of h
      exact ⟨k + 1, o, by omega, by simpa using h1, h2⟩
    | some d' =>
      rw [ho] at h
      simp only [lookL] at h
      cases hb : Nat.beq t d' with
      | true =>
        rw [hb] at h
        cases h
        exact ⟨0, o', rfl, rfl, by rw [ho, beq_eq' hb]⟩
      | false =>
        rw [hb] at h
        obtain ⟨k, o, rfl, h1, h2⟩ := dst_of (show lookL t (dstL (i + 1) r) = some j from h)
        exact ⟨k + 1, o, by omega, by simpa using h1, h2⟩
theorem wr_look : ∀ {l : List Oper} {i t : Nat}, bitN (wrOps l) t = false → lookL t (dstL i l) = none
  | [], i, t, _ => rfl
  | o :: r, i, t, h => by
    rw [wrOps_cons, bitN_lor, Bool.or_eq_false_iff] at h
    simp only [dstL]
    cases ho : o.dst with
    | none => exact wr_look h.2
    | some d =>
      have h1 := h.1
      rw [ho, show dstW (some d) = Nat.shiftLeft 1 d from rfl, bitN_one] at h1
      have hne : Nat.beq t d = false := by
        cases hb : Nat.beq t d with
        | false => rfl
        | true =>
          have := beq_eq' hb
          subst this
          simp at h1
      simp only [lookL, hne, cond_false]
      exact wr_look h.2
theorem opsOk_at : ∀ {l : List Oper} {n : Nat} {dl : List (Nat × Nat)} {bef : List Nat} {i k : Nat} {o : Oper}, opsOk n dl bef i l = true → l[k]? = some o →
    dstFits n o = true ∧ edgesOk (i + k) o.after.toList = true ∧ (∀ t, .tmp t ∈ o.op.operands.toList → ∀ j, lookL t dl = some j → (j < i + k ∧ bitN (getN bef (i + k)) j = true) ∨ (i + k < j ∧ bitN (getN bef j) (i + k) = true)) ∧ (∀ j w, o.guard = some (j, w) → bitN (getN bef (i + k)) j = true) ∧ (∀ cs b, o.op ≠ .select cs b)
  | [], _, _, _, _, k, _, _, h => by simp at h
  | o' :: r, n, dl, bef, i, 0, o, hk, h => by
    simp at h
    subst h
    simp only [opsOk, Bool.and_eq_true] at hk
    obtain ⟨⟨⟨⟨⟨h1, h2⟩, h3⟩, h4⟩, h5⟩, _⟩ := hk
    refine ⟨h1, h2, fun t ht j hj => ?_, fun j w hg => ?_, fun cs b he => ?_⟩
    · have := List.all_eq_true.1 h3 _ ht
      simp only [seenOk, hj, Bool.or_eq_true, Bool.and_eq_true, Nat.blt_eq] at this
      exact this
    · rw [hg] at h4; exact h4
    · rw [he] at h5; cases h5
  | o' :: r, n, dl, bef, i, k + 1, o, hk, h => by
    simp only [opsOk, Bool.and_eq_true] at hk
    have := opsOk_at hk.2 (show r[k]? = some o by simpa using h)
    rw [show i + 1 + k = i + (k + 1) by omega] at this
    exact this
end Go.Proofs.Ytheemkehedmlfaa.E
