import Derived.Test.YtheemkehedmlfaaF11
set_option linter.unusedVariables false
set_option linter.unusedSimpArgs false
namespace Go.Proofs.Ytheemkehedmlfaa.E
open Go
section
variable {S : Sig} {Q : Kind S}
def keyed {T : Tys} (i n : Nat) (f : Nat → List (Nat × Option (Nat × SO T))) : Os T := match n with
  | 0 => []
  | n + 1 => (i, f i) :: keyed (i + 1) n f
theorem keyed_congr {T : Tys} {f g : Nat → List (Nat × Option (Nat × SO T))} : ∀ (n i : Nat), (∀ k, i ≤ k → k < i + n → f k = g k) → keyed i n f = keyed i n g
  | 0, i, _ => rfl
  | n + 1, i, h => by
    simp only [keyed]
    rw [h i (Nat.le_refl _) (by omega), keyed_congr n (i + 1) fun k h1 h2 => h k (by omega) (by omega)]
theorem keyed_snoc {T : Tys} (f : Nat → List (Nat × Option (Nat × SO T))) : ∀ (n i : Nat), keyed i (n + 1) f = keyed i n f ++ [(i + n, f (i + n))]
  | 0, i => by simp [keyed]
  | n + 1, i => by
    rw [show keyed i (n + 1 + 1) f = (i, f i) :: keyed (i + 1) (n + 1) f from rfl, keyed_snoc f n (i + 1)]
    simp only [keyed, List.cons_append, show i + 1 + n = i + (n + 1) by omega]
structure Act1 (V : Nat → Nat → SX S.T → Prop) (C : Cons S) (ob : Ob S.T) (b : Nat) (bef : List Nat) (σf : St S.T) (osf : Os S.T) (f : Nat → List (Nat × Option (Nat × SO S.T))) (k : Nat) (o : Oper) (u : Upd S.T) : Prop where
  can : ∃ σv : St S.T, (∀ t, Operand.tmp t ∈ o.op.operands.toList → V k t (σv.get t)) ∧ (opD C o (σv.opds o) (obsOf ob (getN bef k) osf) (b + 8 * k)).Can u
  fresh : freshSet (b + 8 * k) u.set = some (f k)
  res : ∀ d, o.dst = some d → σf.get d = u.res
structure ActI (V : Nat → Nat → SX S.T → Prop) (I : Inl S) (ob : Ob S.T) (b frI : Nat) (bef : List Nat) (σf : St S.T) (osf : Os S.T) (f : Nat → List (Nat × Option (Nat × SO S.T))) (k : Nat) (o : Oper) (r : SX S.T × St S.T) : Prop where
  op : isCallV o = true
  can : ∃ σv : St S.T, (∀ t, Operand.tmp t ∈ o.op.operands.toList → V k t (σv.get t)) ∧ (inlD I (σv.opds o) (obsOf ob (getN bef k) osf) frI).Can r
  fresh : freshI b frI k r = some (f k)
  res : ∀ d, o.dst = some d → σf.get d = r.1
  nx : σf.nx = r.2.nx
structure Skip1 (σf : St S.T) (f : Nat → List (Nat × Option (Nat × SO S.T))) (k : Nat) (o : Oper) : Prop where
  nil : f k = []
  res : ∀ d, o.dst = some d → σf.get d = .tup []
def Sees (l : List Oper) (i : Nat) (σ σf : St S.T) (k t : Nat) (x : SX S.T) : Prop :=
  (x = σf.get t ∧ ∀ (k' : Nat) (o' : Oper), l[k']? = some o' → k ≤ i + k' → o'.dst ≠ some t) ∨ (x = σ.get t ∧ ∀ (k' : Nat) (o' : Oper), l[k']? = some o' → i + k' < k → o'.dst ≠ some t)
def Fact (V : Nat → Nat → SX S.T → Prop) (C : Cons S) (I : Inl S) (ops : Array Oper) (ob : Ob S.T) (b kI frI : Nat) (bef : List Nat) (σf : St S.T) (osf : Os S.T) (f : Nat → List (Nat × Option (Nat × SO S.T))) (k : Nat) (o : Oper) : Prop := match o.guard with
  | none => (∃ u, Act1 V C ob b bef σf osf f k o u) ∨ (k = kI ∧ ∃ r, ActI V I ob b frI bef σf osf f k o r)
  | some (j, want) => ∃ d, dstOf ops j = some d ∧ ((∃ v, σf.get d = .v (.c (.bool v)) ∧ (v = true ∨ v = false) ∧ (if v = want then ∃ u, Act1 V C ob b bef σf osf f k o u else Skip1 σf f k o)) ∨ (σf.get d = .tup [] ∧ Skip1 σf f k o))
theorem findO_hi {T : Tys} {m a : Nat} {f : Nat → List (Nat × Option (Nat × SO T))} : ∀ (n i : Nat), (∀ k, i ≤ k → k < i + n → bitN m k = false) → findO m a (keyed i n f) = none
  | 0, i, _ => rfl
  | n + 1, i, h => by
    simp only [keyed, findO]
    rw [findO_hi n (i + 1) fun k h1 h2 => h k (by omega) (by omega), h i (Nat.le_refl _) (by omega)]
    rfl
theorem findO_app {T : Tys} {m a : Nat} : ∀ (l r : Os T), findO m a (l ++ r) = match findO m a r with | some x => some x | none => findO m a l
  | [], r => by
    show findO m a r = match findO m a r with | some x => some x | none => none
    cases findO m a r <;> rfl
  | p :: l, r => by
    simp only [List.cons_append, findO]
    rw [findO_app l r]
    cases findO m a r <;> rfl
theorem obsOf_app {T : Tys} {ob : Ob T} {m : Nat} {l : Os T} {f : Nat → List (Nat × Option (Nat × SO T))} {n i : Nat} (h : ∀ k, i ≤ k → k < i + n → bitN m k = false) : obsOf ob m (l ++ keyed i n f) = obsOf ob m l := by
  funext a
  unfold obsOf
  rw [findO_app, findO_hi n i h]
theorem stepD_cases {C : Cons S} {ops : Array Oper} {ob : Ob S.T} {fr m i : Nat} {o : Oper} {σ : St S.T} {os : Os S.T} {q : St S.T × Os S.T} (h : (stepD C ops ob fr m i o σ os).Can q) :
    (o.guard = none ∧ (actD C ob fr m i o σ os).Can q) ∨ ∃ j want d, o.guard = some (j, want) ∧ dstOf ops j = some d ∧
      ((∃ b, σ.get d = .v (.c (.bool b)) ∧ ((b = want ∧ (actD C ob fr m i o σ os).Can q) ∨ (b ≠ want ∧ (skipD i o σ os).Can q))) ∨ (σ.get d = .tup [] ∧ (skipD i o σ os).Can q)) := by
  unfold stepD at h
  split at h
  · rename_i hg; exact .inl ⟨hg, h⟩
  · rename_i j want hg
    obtain ⟨d, hd, h⟩ := can_or h
    refine .inr ⟨j, want, d, hg, hd, ?_⟩
    split at h
    · rename_i b hb
      refine .inl ⟨b, hb, ?_⟩
      have hput : ∀ {x : SX S.T}, σ.get d = x → σ.put d x = σ := fun {x} hx => by
        unfold St.put
        have : (fun s => bif Nat.beq s d then x else σ.sl s) = σ.sl := by
          funext s
          cases hs : Nat.beq s d with
          | true => rw [Nat.eq_of_beq_eq_true hs]; exact hx.symm
          | false => rfl
        rw [this]
      rcases h with ⟨rfl, h⟩ | ⟨rfl, h⟩
      all_goals rw [hput (x := litB _) hb] at h
      · cases want with
        | true => exact .inl ⟨rfl, h⟩
        | false => exact .inr ⟨by simp, h⟩
      · cases want with
        | true => exact .inr ⟨by simp, h⟩
        | false => exact .inl ⟨rfl, h⟩
    · rename_i hb; exact .inr ⟨hb, h⟩
    · exact h.elim
theorem stepD_shape {C : Cons S} {ops : Array Oper} {ob : Ob S.T} {fr m i : Nat} {o : Oper} {σ : St S.T} {os : Os S.T} {q : St S.T × Os S.T} (h : (stepD C ops ob fr m i o σ os).Can q) :
    ∃ x l, q = (σ.putO o.dst x, os ++ [(i, l)]) := by
  have act : (actD C ob fr m i o σ os).Can q → ∃ x l, q = (σ.putO o.dst x, os ++ [(i, l)]) := by
    intro hq
    obtain ⟨u, _, hq⟩ := Tr.can_then hq
    obtain ⟨l, _, hq⟩ := can_or hq
    have hq := can_ret hq
    subst hq
    exact ⟨_, _, rfl⟩
  have skp : (skipD i o σ os).Can q → ∃ x l, q = (σ.putO o.dst x, os ++ [(i, l)]) := by
    intro hq
    have hq := can_ret hq
    subst hq
    exact ⟨_, _, rfl⟩
  rcases stepD_cases h with ⟨_, h⟩ | ⟨j, want, d, _, _, ⟨b, _, ⟨_, h⟩ | ⟨_, h⟩⟩ | ⟨_, h⟩⟩
  · exact act h
  · exact act h
  · exact skp h
  · exact skp h
theorem runD_ok {C : Cons S} {I : Inl S} {ops : Array Oper} {ob : Ob S.T} {b kI frI : Nat} {bef : List Nat} : ∀ (l : List Oper) (i : Nat) (σ σf : St S.T) (os osf : Os S.T), (runD C I ops ob b kI frI bef i l σ os).Can (σf, osf) →
    noDup ((dstL i l).map (·.1)) = true →
    (∀ (k : Nat) (o : Oper), l[k]? = some o → ∀ j w, o.guard = some (j, w) → ∀ d, dstOf ops j = some d → ∀ (k' : Nat), k ≤ k' → ∀ o' : Oper, l[k']? = some o' → o'.dst ≠ some d) →
    (∀ k, k < l.length → ∀ j, i + k ≤ j → bitN (getN bef (i + k)) j = false) →
    σf.n = σ.n ∧ σf.ob = σ.ob ∧ (kI < i → σf.nx = σ.nx) ∧ σf.lg = σ.lg ∧ (∀ t, (∀ (k : Nat) (o : Oper), l[k]? = some o → o.dst ≠ some t) → σf.get t = σ.get t) ∧
    ∃ f, osf = os ++ keyed i l.length f ∧ ∀ (k : Nat) (o : Oper), l[k]? = some o → Fact (Sees l i σ σf) C I ops ob b kI frI bef σf osf f (i + k) o
  | [], i, σ, σf, os, osf, h, _, _, _ => by
    have h := can_ret h
    simp only [Prod.mk.injEq] at h
    obtain ⟨rfl, rfl⟩ := h
    exact ⟨rfl, rfl, fun _ => rfl, rfl, fun t _ => rfl, fun _ => [], by simp [keyed], fun k o h => by simp at h⟩
  | o :: r, i, σ, σf, os, osf, h, hnd, hgd, hbit => by
    obtain ⟨⟨σ1, os1⟩, h1, h2⟩ := Tr.can_then h
    have hnd' : noDup ((dstL (i + 1) r).map (·.1)) = true := by
      simp only [dstL] at hnd
      cases ho : o.dst with
      | none => rw [ho] at hnd; exact hnd
      | some d' => rw [ho] at hnd; simp only [List.map_cons, noDup, Bool.and_eq_true] at hnd; exact hnd.2
    obtain ⟨f1, f2, f3, f4, f5, f, f6, f7⟩ := runD_ok r (i + 1) σ1 σf os1 osf h2 hnd'
      (fun k o' hk j w hg d hd k' hk' o2 ho2 => hgd (k + 1) o' (by simpa using hk) j w hg d hd (k' + 1) (by omega) o2 (by simpa using ho2))
      (fun k hk j hj => by have := hbit (k + 1) (by simpa using hk) j (by omega); rwa [show i + (k + 1) = i + 1 + k by omega] at this)
    obtain ⟨x0, l0, y0, hq, hy0⟩ : ∃ x0 l0 y0, (σ1, os1) = (({ σ.putO o.dst x0 with nx := y0 } : St S.T), os ++ [(i, l0)]) ∧ (i ≠ kI → y0 = σ.nx) := by
      cases hb : Nat.beq i kI && o.guard.isNone with
      | true =>
        rw [hb] at h1
        replace h1 := can_guard h1
        obtain ⟨_, h1⟩ := h1
        obtain ⟨r, _, h1⟩ := Tr.can_then h1
        obtain ⟨l, _, h1⟩ := can_or h1
        have h1 := can_ret h1
        rw [Bool.and_eq_true] at hb
        exact ⟨r.1, l, r.2.nx, h1.symm, fun hne => absurd (beq_eq' hb.1) hne⟩
      | false =>
        rw [hb] at h1
        obtain ⟨x0, l0, hq⟩ := stepD_shape h1
        exact ⟨x0, l0, σ.nx, by rw [hq]; cases o.dst <;> rfl, fun _ => rfl⟩
    simp only [Prod.mk.injEq] at hq
    obtain ⟨rfl, rfl⟩ := hq
    have putg : ∀ t, ({ σ.putO o.dst x0 with nx := y0 } : St S.T).get t = (σ.putO o.dst x0).get t := fun t => rfl
    have hown : ∀ d, o.dst = some d → σf.get d = x0 := fun d hd => by
      rw [f5 d fun k o' hk e1 => ?_, putg, putO_get, hd]
      · simp
      · have e3 := dst_look (o :: r) i 0 o d hnd (by simp) hd
        have e4 := dst_look (o :: r) i (k + 1) o' d hnd (by simpa using hk) e1
        rw [e3] at e4
        simp at e4
    have hseen : ∀ t, (∀ (k' : Nat) (o' : Oper), (o :: r)[k']? = some o' → o'.dst ≠ some t) → σf.get t = σ.get t := by
      intro t ht
      rw [f5 t fun k o' hk => ht (k + 1) o' (by simpa using hk), putg, putO_get]
      cases ho : o.dst with
      | none => rfl
      | some d => simp only; rw [if_neg (fun e1 => ht 0 o rfl (by rw [ho, e1]))]
    have hsee : ∀ k t x, i + 1 ≤ k → Sees r (i + 1) { σ.putO o.dst x0 with nx := y0 } σf k t x → Sees (o :: r) i σ σf k t x := by
      intro k t x hk hs
      have hdup : o.dst = some t → ∀ (k' : Nat) (o' : Oper), (o :: r)[k']? = some o' → 0 < k' → o'.dst ≠ some t := by
        intro hd k' o' hk' h0 hd'
        have e3 := dst_look (o :: r) i 0 o t hnd (by simp) hd
        have e4 := dst_look (o :: r) i k' o' t hnd hk' hd'
        rw [e3] at e4
        simp at e4
        omega
      rcases hs with ⟨rfl, h⟩ | ⟨rfl, h⟩
      · refine .inl ⟨rfl, fun k' o' hk' hle => ?_⟩
        cases k' with
        | zero => omega
        | succ k' => exact h k' o' (by simpa using hk') (by omega)
      · by_cases hd : o.dst = some t
        · refine .inl ⟨?_, fun k' o' hk' hle => hdup hd k' o' hk' (by omega)⟩
          rw [putg, putO_get, hd]
          simp only [if_true]
          exact (hown t hd).symm
        · refine .inr ⟨?_, fun k' o' hk' hle => ?_⟩
          · rw [putg, putO_get]
            cases ho : o.dst with
            | none => rfl
            | some d => simp only; rw [if_neg (fun e1 => hd (by rw [ho, e1]))]
          · cases k' with
            | zero => simp at hk'; subst hk'; exact hd
            | succ k' => exact h k' o' (by simpa using hk') (by omega)
    let f' : Nat → List (Nat × Option (Nat × SO S.T)) := fun k => if k = i then l0 else f k
    have hf' : keyed (i + 1) r.length f = keyed (i + 1) r.length f' := keyed_congr _ _ fun k h1 h2 => by simp only [f']; rw [if_neg (by omega)]
    have hos : osf = os ++ keyed i (o :: r).length f' := by
      rw [f6, hf', List.append_assoc]
      simp [keyed, f']
    have hobs : obsOf ob (getN bef i) osf = obsOf ob (getN bef i) os := by
      rw [hos]
      exact obsOf_app fun k hk1 hk2 => by have := hbit 0 (by simp) k (by omega); simpa using this
    refine ⟨f1.trans putO_n, f2.trans putO_ob, fun hk => (f3 (by omega)).trans (hy0 (by omega)), f4.trans putO_lg, hseen, f', hos, fun k o' hk => ?_⟩
    cases k with
    | succ k =>
      have := f7 k o' (by simpa using hk)
      rw [show i + 1 + k = i + (k + 1) by omega] at this
      have hne : f (i + (k + 1)) = f' (i + (k + 1)) := by simp only [f']; rw [if_neg (by omega)]
      have tr : ∀ {u}, Act1 (Sees r (i + 1) { σ.putO o.dst x0 with nx := y0 } σf) C ob b bef σf osf f (i + (k + 1)) o' u → Act1 (Sees (o :: r) i σ σf) C ob b bef σf osf f' (i + (k + 1)) o' u := fun h => ⟨by obtain ⟨σv, g1, g2⟩ := h.can; exact ⟨σv, fun t ht => hsee _ _ _ (by omega) (g1 t ht), g2⟩, by rw [← hne]; exact h.fresh, h.res⟩
      have ti : ∀ {q}, ActI (Sees r (i + 1) { σ.putO o.dst x0 with nx := y0 } σf) I ob b frI bef σf osf f (i + (k + 1)) o' q → ActI (Sees (o :: r) i σ σf) I ob b frI bef σf osf f' (i + (k + 1)) o' q := fun h => ⟨h.op, by obtain ⟨σv, g1, g2⟩ := h.can; exact ⟨σv, fun t ht => hsee _ _ _ (by omega) (g1 t ht), g2⟩, by rw [← hne]; exact h.fresh, h.res, h.nx⟩
      have ts : Skip1 σf f (i + (k + 1)) o' → Skip1 σf f' (i + (k + 1)) o' := fun h => ⟨by rw [← hne]; exact h.nil, h.res⟩
      unfold Fact at this ⊢
      split at this
      · exact this.imp (fun ⟨u, hu⟩ => ⟨u, tr hu⟩) fun ⟨hk, q, hq⟩ => ⟨hk, q, ti hq⟩
      · rename_i j want hg
        obtain ⟨d, hd, hc⟩ := this
        refine ⟨d, hd, hc.imp ?_ fun h => ⟨h.1, ts h.2⟩⟩
        rintro ⟨v, hv, hvv, hc⟩
        refine ⟨v, hv, hvv, ?_⟩
        split at hc
        · rename_i he; rw [if_pos he]; obtain ⟨u, hu⟩ := hc; exact ⟨u, tr hu⟩
        · rename_i he; rw [if_neg he]; exact ts hc
    | zero =>
      simp only [List.getElem?_cons_zero, Option.some.injEq] at hk
      subst hk
      simp only [Nat.add_zero]
      have hfi : f' i = l0 := by simp [f']
      have act : (actD C ob (b + 8 * i) (getN bef i) i o σ os).Can ({ σ.putO o.dst x0 with nx := y0 }, os ++ [(i, l0)]) → ∃ u, Act1 (Sees (o :: r) i σ σf) C ob b bef σf osf f' i o u := by
        intro hq
        obtain ⟨u, hu, hq⟩ := Tr.can_then hq
        obtain ⟨l, hl, hq⟩ := can_or hq
        have hq := can_ret hq
        simp only [Prod.mk.injEq] at hq
        have hl0 : l = l0 := by simpa using hq.2
        subst hl0
        refine ⟨u, ⟨σ, fun t _ => .inr ⟨rfl, fun k' o' _ hlt => by omega⟩, by rw [hobs]; exact hu⟩, by rw [hfi]; exact hl, fun d hd => ?_⟩
        have e0 := congrArg (fun s : St S.T => s.get d) hq.1
        have e1 : (σ.putO o.dst u.res).get d = (σ.putO o.dst x0).get d := e0
        simp only [putO_get, hd, if_true] at e1
        rw [hown d hd, e1]
      have skp : (skipD i o σ os).Can ({ σ.putO o.dst x0 with nx := y0 }, os ++ [(i, l0)]) → Skip1 σf f' i o := by
        intro hq
        have hq := can_ret hq
        simp only [Prod.mk.injEq] at hq
        have hl0 : l0 = [] := by simpa using hq.2.symm
        refine ⟨by rw [hfi]; exact hl0, fun d hd => ?_⟩
        have e0 := congrArg (fun s : St S.T => s.get d) hq.1
        have e1 : (σ.putO o.dst (.tup [])).get d = (σ.putO o.dst x0).get d := e0
        simp only [putO_get, hd, if_true] at e1
        rw [hown d hd, e1]
      unfold Fact
      cases hb : Nat.beq i kI && o.guard.isNone with
      | true =>
        rw [hb] at h1
        rw [Bool.and_eq_true] at hb
        have hg : o.guard = none := by simpa using hb.2
        rw [hg]
        replace h1 := can_guard h1
        obtain ⟨hcv, h1⟩ := h1
        obtain ⟨q, hq1, h1⟩ := Tr.can_then h1
        obtain ⟨l, hl, h1⟩ := can_or h1
        have h1 := can_ret h1
        simp only [Prod.mk.injEq] at h1
        have hl0 : l = l0 := by simpa using h1.2
        subst hl0
        have hki := beq_eq' hb.1
        refine .inr ⟨hki, q, hcv, ⟨σ, fun t _ => .inr ⟨rfl, fun k' o' _ hlt => by omega⟩, by rw [hobs]; exact hq1⟩, by rw [hfi]; exact hl, fun d hd => ?_, ?_⟩
        · have e0 := congrArg (fun s : St S.T => s.get d) h1.1
          have e1 : (σ.putO o.dst q.1).get d = (σ.putO o.dst x0).get d := e0
          simp only [putO_get, hd, if_true] at e1
          rw [hown d hd, e1]
        · rw [f3 (by omega)]
          exact (congrArg St.nx h1.1).symm
      | false =>
      rw [hb] at h1
      simp only [cond_false] at h1
      rcases stepD_cases h1 with ⟨hg, h⟩ | ⟨j, want, d, hg, hd, h⟩
      · rw [hg]; exact .inl (act h)
      · rw [hg]
        have hgd' : σf.get d = σ.get d := hseen d fun k' o' hk' => hgd 0 o rfl j want hg d hd k' (Nat.zero_le _) o' hk'
        refine ⟨d, hd, ?_⟩
        rcases h with ⟨v, hv, h⟩ | ⟨hv, h⟩
        · refine .inl ⟨v, hgd'.trans hv, by cases v <;> simp, ?_⟩
          rcases h with ⟨he, h⟩ | ⟨he, h⟩
          · rw [if_pos he]; exact act h
          · rw [if_neg he]; exact skp h
        · exact .inr ⟨hgd'.trans hv, skp h⟩
end
end Go.Proofs.Ytheemkehedmlfaa.E
