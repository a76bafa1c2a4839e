import Derived.Test.YtheemkehedmlfaaF12
set_option linter.unusedVariables false
set_option linter.unusedSimpArgs false
namespace Go.Proofs.Ytheemkehedmlfaa.E
open Go
theorem lookL_key {β : Type} {a : Nat} {x : β} {l : List (Nat × β)} (h : lookL a l = some x) : (a, x) ∈ l := lookL_mem h
theorem findO_some {T : Tys} {m a : Nat} {x : Option (Nat × SO T)} {f : Nat → List (Nat × Option (Nat × SO T))} : ∀ (n i : Nat), findO m a (keyed i n f) = some x →
    ∃ k, i ≤ k ∧ k < i + n ∧ bitN m k = true ∧ lookL a (f k) = some x ∧ ∀ k', k < k' → k' < i + n → bitN m k' = true → lookL a (f k') = none
  | 0, i, h => by cases h
  | n + 1, i, h => by
    simp only [keyed, findO] at h
    cases hr : findO m a (keyed (i + 1) n f) with
    | some y =>
      rw [hr] at h
      cases h
      obtain ⟨k, h1, h2, h3, h4, h5⟩ := findO_some n (i + 1) hr
      exact ⟨k, by omega, by omega, h3, h4, fun k' g1 g2 => h5 k' g1 (by omega)⟩
    | none =>
      rw [hr] at h
      obtain ⟨hb, hl⟩ := bif_some h
      refine ⟨i, Nat.le_refl _, by omega, hb, hl, fun k' g1 g2 g3 => ?_⟩
      exact findO_none n (i + 1) hr k' (by omega) (by omega) g3
where
  findO_none {T : Tys} {m a : Nat} {f : Nat → List (Nat × Option (Nat × SO T))} : ∀ (n i : Nat), findO m a (keyed i n f) = none → ∀ k, i ≤ k → k < i + n → bitN m k = true → lookL a (f k) = none
    | 0, i, _, k, h1, h2, _ => by omega
    | n + 1, i, h, k, h1, h2, hb => by
      simp only [keyed, findO] at h
      cases hr : findO m a (keyed (i + 1) n f) with
      | some y => rw [hr] at h; cases h
      | none =>
        rw [hr] at h
        by_cases he : i = k
        · subst he
          simp only [hb, cond_true] at h
          exact h
        · exact findO_none n (i + 1) hr k (by omega) (by omega) hb
theorem findO_none {T : Tys} {m a : Nat} {f : Nat → List (Nat × Option (Nat × SO T))} (n i : Nat) (h : findO m a (keyed i n f) = none) : ∀ k, i ≤ k → k < i + n → bitN m k = true → lookL a (f k) = none := findO_some.findO_none n i h
theorem findO_of {T : Tys} {m a : Nat} {x : Option (Nat × SO T)} {f : Nat → List (Nat × Option (Nat × SO T))} {k : Nat} (hb : bitN m k = true) (hl : lookL a (f k) = some x) (n i : Nat) (h1 : i ≤ k) (h2 : k < i + n) (hl' : ∀ k', k < k' → k' < i + n → bitN m k' = true → lookL a (f k') = none) :
    findO m a (keyed i n f) = some x := by
  cases h : findO m a (keyed i n f) with
  | none => rw [findO_none n i h k h1 h2 hb] at hl; cases hl
  | some y =>
    obtain ⟨k', g1, g2, g3, g4, g5⟩ := findO_some n i h
    rcases Nat.lt_trichotomy k k' with hlt | he | hgt
    · rw [hl' k' hlt g2 g3] at g4; cases g4
    · subst he; rw [hl] at g4; exact g4.symm
    · rw [g5 k hgt h2 hb] at hl; cases hl
theorem foldl_put {T : Tys} : ∀ {s : List (Nat × Option (Nat × SO T))} {fr : Nat}, freshOk fr s = true → ∀ (ob : Ob T) a, (s.foldl put1 ob) a = match lookL a s with | some x => x | none => ob a
  | [], fr, h, ob, a => rfl
  | p :: r, fr, h, ob, a => by
    simp only [freshOk, Bool.and_eq_true, Bool.not_eq_true'] at h
    rw [List.foldl_cons, foldl_put h.2]
    simp only [lookL]
    cases hb : Nat.beq a p.1 with
    | true =>
      have := beq_eq' hb
      subst this
      have hno : lookL p.1 r = none := by
        cases hl : lookL p.1 r with
        | none => rfl
        | some y =>
          have := hasN_iff.2 (List.mem_map.2 ⟨_, lookL_key hl, rfl⟩ : p.1 ∈ r.map (·.1))
          rw [h.1.2] at this
          cases this
      rw [hno]
      simp only [cond_true, put1]
      cases p.2 with
      | some e => simp [putB, Nat.beq_refl]
      | none => simp [delB, Nat.beq_refl]
    | false =>
      simp only [cond_false]
      cases lookL a r with
      | some y => rfl
      | none =>
        simp only [put1]
        cases p.2 with
        | some e => simp [putB, hb]
        | none => simp [delB, hb]
theorem freshOk_lt {T : Tys} {fr : Nat} : ∀ {s : List (Nat × Option (Nat × SO T))}, freshOk fr s = true → ∀ y, y ∈ s → y.1 < fr + 8
  | [], _, y, hy => by cases hy
  | p :: r, h, y, hy => by
    simp only [freshOk, Bool.and_eq_true] at h
    rcases List.mem_cons.1 hy with rfl | hy
    · exact blt_lt h.1.1
    · exact freshOk_lt h.2 y hy
theorem freshSet_ok {T : Tys} {fr : Nat} {s : List (Nat × Option (Nat × SO T))} {l : List (Nat × Option (Nat × SO T))} (h : freshSet fr s = some l) :
    (∀ y, y ∈ l → y.1 < fr + 8) ∧ s = l ∧ ∀ (ob : Ob T) a, (s.foldl put1 ob) a = match lookL a l with | some x => x | none => ob a := by
  obtain ⟨h1, h2⟩ := bif_some h
  cases h2
  exact ⟨freshOk_lt h1, rfl, foldl_put h1⟩
theorem visL_at {T : Tys} {b : Nat} {bef : List Nat} {os : Os T} {w a : Nat} : ∀ {l : List Oper} {i k : Nat} {o : Oper}, visL b bef os w a i l = true → l[k]? = some o →
    i + k = w ∨ light o = true ∨ bitN (getN bef (i + k)) w = true ∨ bitN (getN bef w) (i + k) = true ∨ (b ≤ a ∧ ∀ q, q ∈ os → keyIn a q.2 = true → q.1 ≠ i + k ∧ bitN (getN bef (i + k)) q.1 = false)
  | [], _, k, _, _, h => by simp at h
  | o' :: r, i, 0, o, hk, h => by
    simp at h
    subst h
    simp only [visL, Bool.and_eq_true, Bool.or_eq_true] at hk
    rcases hk.1 with (((h | h) | h) | h) | h
    · exact .inl (beq_eq' h)
    · exact .inr (.inl h)
    · exact .inr (.inr (.inl h))
    · exact .inr (.inr (.inr (.inl h)))
    · refine .inr (.inr (.inr (.inr ⟨ble_le h.1, fun q hq hkey => ?_⟩)))
      have := List.all_eq_true.1 h.2 q hq
      rw [hkey] at this
      simp only [Bool.not_true, Bool.false_or, Bool.and_eq_true, Bool.not_eq_true'] at this
      refine ⟨fun e => ?_, this.2⟩
      have e : q.1 = i := e
      rw [e, Nat.beq_refl] at this
      cases this.1
  | o' :: r, i, k + 1, o, hk, h => by
    simp only [visL, Bool.and_eq_true] at hk
    have := visL_at hk.2 (show r[k]? = some o by simpa using h)
    rwa [show i + 1 + k = i + (k + 1) by omega] at this
section
variable {S : Sig} {Q : Kind S}
theorem opD_mono (hi : InnMono S) {C : Cons S} {ob ob' : Ob S.T} (ho : LeO ob ob') (o : Oper) (xs : List (SX S.T)) (fr : Nat) : Tr.LeT (opD C o xs ob fr) (opD C o xs ob' fr) := by
  unfold opD
  split
  · exact Tr.LeT.orN (fun _ h => h) fun g => useCon_mono ho _ _ _
  · exact Tr.LeT.refl _
  · exact sem_mono hi ho _ _ _
theorem opD_ok (L : Laws S Q) {C : Cons S} (hC : ∀ f g, C f = some g → ConOk Q f g) {o : Oper} {e : Env S.T} {a : Act} {xs : List (SX S.T)} {fr : Nat} {u : Upd S.T} (I : Inv Q e) (hfr : ∀ i, fr ≤ i → i < fr + 8 → ¬ e.U i)
    (hxs : Opds Q e a.eval o.op.operands.toList xs) (hc : (opD C o xs e.ob fr).Can u) {K : Act → World → Prop} {R : Exit → Act → World → Prop}
    (hK : ∀ v e', Inv Q e' → Le Q e e' → e'.ob = u.obOf e.ob → (∀ a, e'.U a → e.U a ∨ (fr ≤ a ∧ a < fr + 8)) → holdX Q e' v u.res → K (a.put o.dst v) e'.w) : o.wp S.P a e.w K R := by
  unfold opD at hc
  split at hc
  · rename_i callee args ts f xs hop
    obtain ⟨g, hg, hc⟩ := can_or hc
    have hok := hC f g hg
    rw [hop] at hxs
    simp only [Op.operands, Call.operands] at hxs
    have hxs : Opds Q e a.eval (callee :: args.toList) (.v (.c (.fn f [])) :: xs) := by simpa using hxs
    cases hxs with
    | cons h1 h2 =>
      have hcal : a.eval callee = .func (.func f) #[] #[] := h1.2
      have hcalls := useCon_ok L I hfr hok (Opds.args h2) hc
      unfold Oper.wp
      rw [run_enter hop hcal hok.fn, Oper.upon_enter]
      simp only [Array.append_empty]
      refine hcalls.mono ?_
      rintro en w1 ⟨v, rfl, e', rfl, g1, g2, g3, g4, g5⟩
      exact hK v e' g1 g2 g3 g4 g5
  · exact hc.elim
  · obtain ⟨v, e', hr, h1, h2, h3, h4, h5⟩ := sem_sound L I (hfr fr (Nat.le_refl _) (by omega)) hxs hc
    have hk := hK v e' h1 h2 h3 h4 h5
    unfold Oper.wp
    rcases hr with hr | ⟨hr, rfl⟩
    · rw [hr]; exact hk
    · rw [hr]; exact hk
theorem opD_light {C : Cons S} {o : Oper} (h : light o = true) (ob ob' : Ob S.T) (xs : List (SX S.T)) (fr : Nat) : opD C o xs ob fr = opD C o xs ob' fr := by
  obtain ⟨dst, op, ty, pos, after, guard⟩ := o
  unfold light at h
  cases op <;> first | (cases h; done) | (cases xs with | nil => rfl | cons x r => cases r <;> first | rfl | (unfold opD sem; rfl))
theorem can_rv_set {x : SC S.T} {u : Upd S.T} (h : (rv x : Ret S).Can u) : u.set = [] := by have h := can_ret h; subst h; rfl
theorem opD_light_set {C : Cons S} {o : Oper} (h : light o = true) {ob : Ob S.T} {xs : List (SX S.T)} {fr : Nat} {u : Upd S.T} (hc : (opD C o xs ob fr).Can u) : u.set = [] := by
  obtain ⟨dst, op, ty, pos, after, guard⟩ := o
  unfold light at h
  cases op with
  | move x =>
    match xs, hc with
    | [x], hc => have hc := can_ret hc; subst hc; rfl
    | [], hc => exact hc.elim
    | _ :: _ :: _, hc => exact hc.elim
  | assign x =>
    match xs, hc with
    | [x], hc => have hc := can_ret hc; subst hc; rfl
    | [], hc => exact hc.elim
    | _ :: _ :: _, hc => exact hc.elim
  | extract x i =>
    match xs, hc with
    | [.tup vs], hc =>
      obtain ⟨v, _, hc⟩ := can_or (show (orNone vs[i]? fun v => (.ret ⟨.v v, []⟩ : Ret S)).Can u from hc)
      have hc := can_ret hc; subst hc; rfl
    | [.v _], hc => exact hc.elim
    | [], hc => exact hc.elim
    | _ :: _ :: _, hc => exact hc.elim
  | convert s d x =>
    match xs, hc with
    | [x], hc =>
      have hc : (convertX s d x).Can u := hc
      unfold convertX at hc
      split at hc
      · obtain ⟨_, hc⟩ := can_guard hc
        obtain ⟨_, _, hc⟩ := can_or hc
        exact can_rv_set hc
      · exact hc.elim
    | [], hc => exact hc.elim
    | _ :: _ :: _, hc => exact hc.elim
  | unOp op t x =>
    match xs, hc with
    | [x], hc =>
      have hc : (unop op x).Can u := hc
      unfold unop at hc
      split at hc
      · exact can_rv_set hc
      · exact can_rv_set hc
      · exact can_rv_set hc
      · exact hc.elim
    | [], hc => exact hc.elim
    | _ :: _ :: _, hc => exact hc.elim
  | _ => cases h
theorem drew_env (L : Laws S Q) {e : Env S.T} (I : Inv Q e) : ∃ e', e'.w = { e.w with drawn := e.w.drawn + 1 } ∧ Inv Q e' ∧ Le Q e e' ∧ e'.ob = e.ob ∧ ∀ i, e'.U i → e.U i := by
  let e' : Env S.T := { w := { e.w with drawn := e.w.drawn + 1 }, β := e.β, ok := e.ok, ob := e.ob, U := e.U }
  have hH : ∀ v c, hold Q e v c → hold Q e' v c := fun v c h => hold_step L (e := e) (e' := e') (fun _ _ => rfl) (fun _ h => h) (fun i s so _ _ hl => ⟨⟨so, hl⟩, fun _ h => h, fun _ _ => rfl⟩) (fun i s t c te d sv l h0 _ _ hl => ⟨⟨s, d, l, h0, hl⟩, keepH_of fun _ _ => rfl⟩) h
  refine ⟨e', rfl, ⟨?_, I.one, I.zero, I.z0, I.lt, I.dis⟩, ⟨hH, fun _ h => h, rfl, rfl, rfl, Nat.le_refl _, fun _ _ _ => rfl, fun _ h => .inl h, fun _ h => h⟩, rfl, fun _ h => h⟩
  intro i s so hl
  obtain ⟨h1, h2, h3⟩ := I.obj i s so hl
  exact ⟨h1, h2, obj_move L h3 rfl (fun _ h => h) (fun _ h => h) (fun _ _ => rfl) (fun d _ hv => ⟨hv, fun k hk => ⟨hk, rfl⟩⟩) hH⟩
def cntU (f : Nat → Bool) : Nat → Nat
  | 0 => 0
  | n + 1 => cntU f n + (bif f n then 0 else 1)
theorem cntU_congr {f g : Nat → Bool} : ∀ {n : Nat}, (∀ k, k < n → f k = g k) → cntU f n = cntU g n
  | 0, _ => rfl
  | n + 1, h => by
    simp only [cntU]
    rw [cntU_congr fun k hk => h k (by omega), h n (by omega)]
theorem cntU_set {f g : Nat → Bool} {i : Nat} (hf : f i = false) (hg : ∀ k, g k = (f k || decide (i = k))) : ∀ {n : Nat}, i < n → cntU g n + 1 = cntU f n
  | 0, h => by omega
  | n + 1, h => by
    simp only [cntU]
    by_cases he : i = n
    · subst he
      rw [cntU_congr (f := g) (g := f) (n := i) fun k hk => by rw [hg k]; simp [show ¬ i = k by omega], hg i, hf]
      simp
    · have := cntU_set hf hg (n := n) (by omega)
      rw [hg n]
      simp only [he, decide_false, Bool.or_false]
      omega
theorem cntU_zero {f : Nat → Bool} : ∀ {n : Nat}, cntU f n = 0 → ∀ k, k < n → f k = true
  | 0, _, k, h => by omega
  | n + 1, h, k, hk => by
    simp only [cntU] at h
    by_cases he : k = n
    · subst he
      cases hf : f k with
      | true => rfl
      | false => rw [hf] at h; simp at h
    · exact cntU_zero (n := n) (by omega) k (by omega)
theorem cntU_all {f : Nat → Bool} : ∀ {n : Nat}, (∀ k, k < n → f k = true) → cntU f n = 0
  | 0, _ => rfl
  | n + 1, h => by simp only [cntU]; rw [cntU_all fun k hk => h k (by omega), h n (by omega)]; rfl
theorem cntU_none {f : Nat → Bool} : ∀ {n : Nat}, (∀ k, k < n → f k = false) → cntU f n = n
  | 0, _ => rfl
  | n + 1, h => by simp only [cntU]; rw [cntU_none fun k hk => h k (by omega), h n (by omega)]; rfl
structure Mid (Q : Kind S) (kI frI : Nat) (e0 : Env S.T) (σ σf : St S.T) (osf : Os S.T) (bef : List Nat) (dl : List (Nat × Nat)) (len : Nat) (a0 : Act) (M : Nat) (e : Env S.T) (a : Act) : Prop where
  le : Lb Q σ.nx e0 e
  inv : Inv Q e
  ob : e.ob = obsOf σ.ob M osf
  U : ∀ i, e.U i → i < σ.nx ∨ (∃ k, k < len ∧ bitN M k = true ∧ σ.nx + 8 * k ≤ i ∧ i < σ.nx + 8 * k + 8) ∨ (kI < len ∧ bitN M kI = true ∧ frI ≤ i ∧ i < σf.nx)
  sl : ∀ t, holdX Q e (a.tmps.getD t undef) (match lookL t dl with | some j => if bitN M j = true then σf.get t else σ.get t | none => σ.get t)
  n : a.tmps.size = σ.n
  df : a.defers = []
  same : ∀ t, lookL t dl = none → a.tmps.getD t undef = a0.tmps.getD t undef
  cl : ∀ k, k < len → bitN M k = true → ∀ j, bitN (getN bef k) j = true → bitN M j = true
theorem edgesAll_at : ∀ {l : List Oper} {i k : Nat} {o : Oper}, edgesAll i l = true → l[k]? = some o → edgesOk (i + k) o.after.toList = true
  | [], _, k, _, _, h => by simp at h
  | o' :: r, i, 0, o, hk, h => by
    simp at h
    subst h
    simp only [edgesAll, Bool.and_eq_true] at hk
    exact hk.1.1
  | o' :: r, i, k + 1, o, hk, h => by
    simp only [edgesAll, Bool.and_eq_true] at hk
    have := edgesAll_at hk.2 (show r[k]? = some o by simpa using h)
    rwa [show i + 1 + k = i + (k + 1) by omega] at this
theorem looks_at {a : Nat} {g : Nat → Option (Nat × SO S.T)} : ∀ {l : List Nat}, lookL a (l.map fun a => (a, g a)) = bif hasN a l then some (g a) else none
  | [] => rfl
  | b :: l => by
    simp only [List.map_cons, lookL, hasN]
    cases hb : Nat.beq a b with
    | true => rw [beq_eq' hb]; rfl
    | false => simp only [cond_false]; exact looks_at (l := l)
theorem mem_addN {i : Nat} : ∀ {r l : List Nat}, i ∈ addN l r ↔ i ∈ l ∨ i ∈ r
  | [], l => by simp [addN]
  | j :: r, l => by
    simp only [addN]
    cases hb : hasN j l with
    | true =>
      simp only [cond_true]
      rw [mem_addN]
      have := hasN_iff.1 hb
      constructor
      · rintro (h | h)
        · exact .inl h
        · exact .inr (List.mem_cons_of_mem _ h)
      · rintro (h | h)
        · exact .inl h
        · rcases List.mem_cons.1 h with rfl | h
          · exact .inl this
          · exact .inr h
    | false =>
      simp only [cond_false]
      rw [mem_addN]
      simp only [List.mem_append, List.mem_cons, List.not_mem_nil, or_false]
      constructor
      · rintro ((h | h) | h)
        · exact .inl h
        · exact .inr (.inl h)
        · exact .inr (.inr h)
      · rintro (h | h | h)
        · exact .inl (.inl h)
        · exact .inl (.inr h)
        · exact .inr h
theorem soloOk_at {T : Tys} {bef : List Nat} {os : Os T} {kI : Nat} : ∀ {l : List Oper} {i k : Nat} {o : Oper}, soloOk bef os kI i l = true → l[k]? = some o →
    i + k = kI ∨ bitN (getN bef (i + k)) kI = true ∨ bitN (getN bef kI) (i + k) = true ∨ light o = true ∨ ∀ q, q ∈ os → q.1 = i + k → q.2 = []
  | [], _, k, _, _, h => by simp at h
  | o' :: r, i, 0, o, hk, h => by
    simp at h
    subst h
    simp only [soloOk, Bool.and_eq_true, Bool.or_eq_true] at hk
    rcases hk.1 with (((h | h) | h) | h) | h
    · exact .inl (beq_eq' h)
    · exact .inr (.inl h)
    · exact .inr (.inr (.inl h))
    · exact .inr (.inr (.inr (.inl h)))
    · refine .inr (.inr (.inr (.inr fun q hq e => ?_)))
      have := List.all_eq_true.1 h q hq
      have e : q.1 = i := e
      rw [e, Nat.beq_refl] at this
      simp only [Bool.not_true, Bool.false_or] at this
      cases hq2 : q.2 with
      | nil => rfl
      | cons a b => rw [hq2] at this; cases this
  | o' :: r, i, k + 1, o, hk, h => by
    simp only [soloOk, Bool.and_eq_true] at hk
    have := soloOk_at hk.2 (show r[k]? = some o by simpa using h)
    rwa [show i + 1 + k = i + (k + 1) by omega] at this
theorem any_ok (L : Laws S Q) (hi : InnMono S) {C : Cons S} (hC : ∀ f g, C f = some g → ConOk Q f g) {I : Inl S} (hI : InlOk Q I) {kI frI : Nat} {ops : Array Oper} {pre l tl : List Oper} {b0 : Nat} (hb0 : pre.length = b0) (hl : ops.toList = pre ++ (l ++ tl)) (htail : ∀ i, b0 + l.length ≤ i → i < ops.toList.length → ∀ j, j < b0 + l.length → bitN (getN (befL [] ops.toList) i) j = true) (hea : edgesAll 0 ops.toList = true) {e0 : Env S.T} {σ σf : St S.T} {a0 : Act} {f : Nat → List (Nat × Option (Nat × SO S.T))} {R : Exit → Act → World → Prop}
    (hnd : noDup ((dstL b0 l).map (·.1)) = true) (hok : opsOk σ.n (dstL b0 l) (befL [] ops.toList) b0 l = true) (hgd : ∀ (k : Nat) (o : Oper) (j : Nat) (w : Bool) (d : Nat), l[k]? = some o → o.guard = some (j, w) → dstOf ops j = some d → j < b0 → lookL d (dstL b0 l) = none) (hdom : ∀ i x, σ.ob i = some x → i < σ.nx)
    (hfn : σf.n = σ.n) (hseen : ∀ t, lookL t (dstL b0 l) = none → σf.get t = σ.get t)
    (hfact : ∀ (k : Nat) (o : Oper), l[k]? = some o → Fact (Sees l b0 σ σf) C I ops σ.ob σ.nx kI frI (befL [] ops.toList) σf (keyed b0 l.length f) f (b0 + k) o) (hfrI : frI = σ.nx + 8 * ops.toList.length)
    (hsolo : kI = b0 + l.length ∨ soloOk (befL [] ops.toList) (keyed b0 l.length f) kI b0 l = true)
    (hvis : visOk σ.nx (befL [] ops.toList) (keyed b0 l.length f) b0 l = true)
    (hfin : ∀ M listed e a, listed.size = ops.toList.length → (∀ k, k < ops.toList.length → listed.getD k false = bitN M k) → (∀ k, b0 + l.length ≤ k → bitN M k = false) → (∀ k, k < b0 + l.length → bitN M k = true) → Mid Q kI frI e0 σ σf (keyed b0 l.length f) (befL [] ops.toList) (dstL b0 l) (b0 + l.length) a0 M e a → wpAny S.P .any ops R tl.length listed a e.w) :
    ∀ (cnt : Nat) (listed : Array Bool) (M : Nat) (e : Env S.T) (a : Act), listed.size = ops.toList.length → (∀ k, k < ops.toList.length → listed.getD k false = bitN M k) → (∀ k, b0 + l.length ≤ k → bitN M k = false) → (∀ k, k < b0 → bitN M k = true) → cntU (bitN M) (b0 + l.length) = cnt →
      Mid Q kI frI e0 σ σf (keyed b0 l.length f) (befL [] ops.toList) (dstL b0 l) (b0 + l.length) a0 M e a → wpAny S.P .any ops R (cnt + tl.length) listed a e.w := by
  have hlen : ops.toList.length = b0 + l.length + tl.length := by rw [hl, List.length_append, List.length_append]; omega
  have hat : ∀ {k : Nat} {o : Oper}, l[k]? = some o → ops.toList[b0 + k]? = some o := fun {k o} h => by
    rw [hl, List.getElem?_append_right (by omega), show b0 + k - pre.length = k by omega, List.getElem?_append_left (List.getElem?_eq_some_iff.1 h).1]; exact h
  have hto : ∀ {k : Nat} {o : Oper}, k < l.length → ops.toList[b0 + k]? = some o → l[k]? = some o := fun {k o} hk h => by
    rw [hl, List.getElem?_append_right (by omega), show b0 + k - pre.length = k by omega, List.getElem?_append_left hk] at h; exact h
  have hrange : ∀ k y, y ∈ f k → b0 ≤ k → k < b0 + l.length → y.1 < σ.nx + 8 * k + 8 ∨ (k = kI ∧ frI ≤ y.1) := by
    intro k y hy hk0 hk
    obtain ⟨o, ho⟩ : ∃ o, l[k - b0]? = some o := ⟨_, List.getElem?_eq_getElem (by omega)⟩
    have := hfact (k - b0) o ho
    rw [show b0 + (k - b0) = k by omega] at this
    unfold Fact at this
    have fa : ∀ {u}, Act1 (Sees l b0 σ σf) C σ.ob σ.nx (befL [] ops.toList) σf (keyed b0 l.length f) f k o u → y.1 < σ.nx + 8 * k + 8 := fun h => (freshSet_ok h.fresh).1 y hy
    have fs : Skip1 σf f k o → y.1 < σ.nx + 8 * k + 8 := fun h => by rw [h.nil] at hy; cases hy
    split at this
    · rcases this with ⟨u, hu⟩ | ⟨hk, r, hr⟩
      · exact .inl (fa hu)
      · obtain ⟨h1, h2⟩ := bif_some hr.fresh
        rw [← Option.some.inj h2] at hy
        rw [Bool.and_eq_true] at h1
        obtain ⟨a, ha, rfl⟩ := List.mem_map.1 hy
        have := List.all_eq_true.1 h1.1 a ha
        rw [Bool.or_eq_true] at this
        rcases this with h | h
        · have := blt_lt h; left; show a < _; omega
        · exact .inr ⟨hk, ble_le h⟩
    · obtain ⟨d, hd, ⟨v, hv, hvv, hc⟩ | ⟨hv, hc⟩⟩ := this
      · split at hc
        · obtain ⟨u, hu⟩ := hc; exact .inl (fa hu)
        · exact .inl (fs hc)
      · exact .inl (fs hc)
  have hlight : ∀ k o, l[k]? = some o → light o = true → f (b0 + k) = [] := by
    intro k o ho hl
    have := hfact k o ho
    unfold Fact at this
    have fa : ∀ {u}, Act1 (Sees l b0 σ σf) C σ.ob σ.nx (befL [] ops.toList) σf (keyed b0 l.length f) f (b0 + k) o u → f (b0 + k) = [] := fun h => by
      obtain ⟨σv, _, hc⟩ := h.can
      rw [← (freshSet_ok h.fresh).2.1]
      exact opD_light_set hl hc
    split at this
    · rcases this with ⟨u, hu⟩ | ⟨_, r, hr⟩
      · exact fa hu
      · have h1 := hr.op
        unfold isCallV at h1
        unfold light at hl
        split at h1
        · rename_i hop
          rw [hop] at hl; cases hl
        · cases h1
    · obtain ⟨d, hd, ⟨v, hv, hvv, hc⟩ | ⟨hv, hc⟩⟩ := this
      · split at hc
        · obtain ⟨u, hu⟩ := hc; exact fa hu
        · exact hc.nil
      · exact hc.nil
  have hkey : ∀ {a : Nat} {x : Option (Nat × SO S.T)} {k : Nat}, lookL a (f k) = some x → keyIn a (f k) = true := fun h => hasN_iff.2 (List.mem_map.2 ⟨_, lookL_key h, rfl⟩)
  have hmemk : ∀ (n i k : Nat), i ≤ k → k < i + n → (k, f k) ∈ keyed i n f := by
    intro n
    induction n with
    | zero => intro i k h1 h2; omega
    | succ n ih =>
      intro i k h1 h2
      simp only [keyed]
      by_cases he : i = k
      · subst he; exact List.mem_cons_self
      · exact List.mem_cons_of_mem _ (ih (i + 1) k (by omega) (by omega))
  have hv : ∀ w a x, b0 ≤ w → w < b0 + l.length → lookL a (f w) = some x → a < σ.nx + 8 * w → ∀ i, b0 ≤ i → i < b0 + l.length → i ≠ w → f i = [] ∧ (∃ o, l[i - b0]? = some o ∧ light o = true) ∨ bitN (getN (befL [] ops.toList) i) w = true ∨ bitN (getN (befL [] ops.toList) w) i = true ∨
      (σ.nx ≤ a ∧ ∀ k y, b0 ≤ k → k < b0 + l.length → lookL a (f k) = some y → k ≠ i ∧ bitN (getN (befL [] ops.toList) i) k = false) := by
    intro w a x hw0 hw hl ha i hi0 hi hne
    have h1 := List.all_eq_true.1 hvis _ (hmemk _ _ w hw0 hw)
    have h2 := List.all_eq_true.1 h1 _ (lookL_key hl)
    simp only [Bool.or_eq_true] at h2
    rcases h2 with h2 | h2
    · have := ble_le h2; omega
    obtain ⟨o, ho⟩ : ∃ o, l[i - b0]? = some o := ⟨_, List.getElem?_eq_getElem (by omega)⟩
    have h3 := visL_at h2 ho
    rw [show b0 + (i - b0) = i by omega] at h3
    rcases h3 with h | h | h | h | ⟨h, g⟩
    · exact absurd h hne
    · have := hlight _ _ ho h
      rw [show b0 + (i - b0) = i by omega] at this
      exact .inl ⟨this, o, ho, h⟩
    · exact .inr (.inl h)
    · exact .inr (.inr (.inl h))
    · exact .inr (.inr (.inr ⟨h, fun k y hk0 hk hy => g _ (hmemk _ _ k hk0 hk) (hkey hy)⟩))
  have hbsp := fun k o (ho : ops.toList[k]? = some o) (he : edgesOk k o.after.toList = true) => bef_spec ops.toList [] k o ho (by simpa using he)
  simp only [List.length_nil, Nat.zero_add] at hbsp
  have hdlt : ∀ (k j : Nat), k < ops.toList.length → k ≤ j → bitN (getN (befL [] ops.toList) k) j = false := by
    intro k
    induction k using Nat.strongRecOn with
    | _ k ihk =>
      intro j hk hkj
      cases hb : bitN (getN (befL [] ops.toList) k) j with
      | false => rfl
      | true =>
        exfalso
        obtain ⟨o, ho⟩ : ∃ o, ops.toList[k]? = some o := ⟨_, List.getElem?_eq_getElem hk⟩
        have hedg : edgesOk k o.after.toList = true := by have := edgesAll_at hea ho; rwa [Nat.zero_add] at this
        obtain ⟨ed, e1, e2, e3⟩ := hbsp k o ho hedg j hb
        have hel := edges_lt hedg ed e1 e2
        rcases e3 with rfl | e3
        · omega
        · rw [ihk ed.on hel j (by omega) (by omega)] at e3
          cases e3
  have hone : ∀ (M i : Nat) (s : Ob S.T), b0 ≤ i → i < b0 + l.length → bitN M i = false → (∀ k, k < b0 + l.length → bitN M k = true → ∀ j, bitN (getN (befL [] ops.toList) k) j = true → bitN M j = true) → (∀ a, s a = match lookL a (f i) with | some x => x | none => obsOf σ.ob M (keyed b0 l.length f) a) →
      s = obsOf σ.ob (Nat.lor M (Nat.shiftLeft 1 i)) (keyed b0 l.length f) := by
    intro M i s hi0 hi hbi hcl hs
    funext a
    rw [hs]
    have hbit : ∀ k, bitN (Nat.lor M (Nat.shiftLeft 1 i)) k = (bitN M k || decide (i = k)) := fun k => by rw [bitN_lor, bitN_one]
    cases hl : lookL a (f i) with
    | some x =>
      have : findO (Nat.lor M (Nat.shiftLeft 1 i)) a (keyed b0 l.length f) = some x := by
        refine findO_of (by rw [hbit]; simp) hl _ _ hi0 hi fun k' h1 h2 h3 => ?_
        cases hl' : lookL a (f k') with
        | none => rfl
        | some y =>
          exfalso
          have hk' : bitN M k' = true := by
            rw [hbit, Bool.or_eq_true] at h3
            rcases h3 with h3 | h3
            · exact h3
            · have : i = k' := by simpa using h3
              omega
          have ha : a < σ.nx + 8 * k' := by
            have ha := hrange i _ (lookL_key hl) hi0 hi
            have hb := hrange k' _ (lookL_key hl') (by omega) h2
            simp only at ha hb
            rcases ha with ha | ⟨ha1, ha⟩
            · omega
            · rcases hb with hb | ⟨hb1, hb⟩
              · omega
              · omega
          rcases hv k' a y (by omega) h2 hl' ha i hi0 hi (by omega) with ⟨h, _⟩ | h | h | ⟨_, h⟩
          · rw [h] at hl; cases hl
          · rw [hdlt i k' (by omega) (by omega)] at h; cases h
          · rw [hcl k' h2 hk' i h] at hbi; cases hbi
          · exact (h i x hi0 hi hl).1 rfl
      unfold obsOf
      rw [this]
    | none =>
      have : findO (Nat.lor M (Nat.shiftLeft 1 i)) a (keyed b0 l.length f) = findO M a (keyed b0 l.length f) := by
        have hcase : ∀ k, bitN (Nat.lor M (Nat.shiftLeft 1 i)) k = true → bitN M k = true ∨ i = k := fun k hk => by
          rw [hbit, Bool.or_eq_true] at hk
          exact hk.imp id fun h => by simpa using h
        cases h1 : findO M a (keyed b0 l.length f) with
        | some x =>
          obtain ⟨k, hk1, hk2, hk3, hk4, hk5⟩ := findO_some _ _ h1
          refine findO_of (by rw [hbit, hk3]; rfl) hk4 _ _ hk1 hk2 fun k' g1 g2 g3 => ?_
          rcases hcase k' g3 with g | g
          · exact hk5 k' g1 g2 g
          · rw [← g]; exact hl
        | none =>
          cases h2 : findO (Nat.lor M (Nat.shiftLeft 1 i)) a (keyed b0 l.length f) with
          | none => rfl
          | some x =>
            obtain ⟨k, hk1, hk2, hk3, hk4, _⟩ := findO_some _ _ h2
            rcases hcase k hk3 with g | g
            · rw [findO_none _ _ h1 k hk1 hk2 g] at hk4; cases hk4
            · rw [← g, hl] at hk4; cases hk4
      unfold obsOf
      rw [this]
  have hless : ∀ (M i : Nat), b0 ≤ i → i < b0 + l.length → (∀ o, l[i - b0]? = some o → light o = false) → bitN M i = false → (∀ k, k < b0 + l.length → bitN M k = true → ∀ j, bitN (getN (befL [] ops.toList) k) j = true → bitN M j = true) → (∀ j, bitN (getN (befL [] ops.toList) i) j = true → bitN M j = true) →
      LeO (obsOf σ.ob (getN (befL [] ops.toList) i) (keyed b0 l.length f)) (obsOf σ.ob M (keyed b0 l.length f)) := by
    intro M i hi0 hi hnl hbi hcl hsub a x hx
    have key : ∀ k' y, b0 ≤ k' → k' < b0 + l.length → bitN M k' = true → bitN (getN (befL [] ops.toList) i) k' = false → lookL a (f k') = some y → a < σ.nx + 8 * k' → (σ.nx ≤ a ∧ ∀ k y, b0 ≤ k → k < b0 + l.length → lookL a (f k) = some y → k ≠ i ∧ bitN (getN (befL [] ops.toList) i) k = false) := by
      intro k' y g0 g1 g2 g3 g4 g5
      have hne : i ≠ k' := by rintro rfl; rw [hbi] at g2; cases g2
      rcases hv k' a y g0 g1 g4 g5 i hi0 hi hne with ⟨_, o, ho, h⟩ | h | h | h
      · rw [hnl o ho] at h; cases h
      · rw [g3] at h; cases h
      · rw [hcl k' g1 g2 i h] at hbi; cases hbi
      · exact h
    unfold obsOf at hx ⊢
    cases h1 : findO (getN (befL [] ops.toList) i) a (keyed b0 l.length f) with
    | some y =>
      rw [h1] at hx
      obtain ⟨k, hk1, hk2, hk3, hk4, hk5⟩ := findO_some _ _ h1
      have : findO M a (keyed b0 l.length f) = some y := by
        refine findO_of (hsub k hk3) hk4 _ _ hk1 hk2 fun k' g1 g2 g3 => ?_
        cases hl' : lookL a (f k') with
        | none => rfl
        | some z =>
          exfalso
          have ha : a < σ.nx + 8 * k' := by
            have ha := hrange k _ (lookL_key hk4) hk1 hk2
            have hb := hrange k' _ (lookL_key hl') (by omega) g2
            simp only at ha hb
            rcases ha with ha | ⟨ha1, ha⟩
            · omega
            · rcases hb with hb | ⟨hb1, hb⟩
              · omega
              · omega
          have hnb : bitN (getN (befL [] ops.toList) i) k' = false := by
            cases hb : bitN (getN (befL [] ops.toList) i) k' with
            | false => rfl
            | true => rw [hk5 k' g1 g2 hb] at hl'; cases hl'
          have := (key k' z (by omega) g2 g3 hnb hl' ha).2 k y hk1 hk2 hk4
          rw [hk3] at this
          cases this.2
      rw [this]
      exact hx
    | none =>
      rw [h1] at hx
      cases h2 : findO M a (keyed b0 l.length f) with
      | none => exact hx
      | some y =>
        exfalso
        obtain ⟨k, hk1, hk2, hk3, hk4, _⟩ := findO_some _ _ h2
        have h4 := hdom a x hx
        have hnb : bitN (getN (befL [] ops.toList) i) k = false := by
          cases hb : bitN (getN (befL [] ops.toList) i) k with
          | false => rfl
          | true => rw [findO_none _ _ h1 k hk1 hk2 hb] at hk4; cases hk4
        have := (key k y hk1 hk2 hk3 hnb hk4 (by omega)).1
        omega
  have hexact : ∀ M, kI < b0 + l.length → b0 ≤ kI → bitN M kI = false → (∀ k, b0 + l.length ≤ k → bitN M k = false) → (∀ k, k < b0 + l.length → bitN M k = true → ∀ j, bitN (getN (befL [] ops.toList) k) j = true → bitN M j = true) → (∀ j, bitN (getN (befL [] ops.toList) kI) j = true → bitN M j = true) →
      obsOf σ.ob M (keyed b0 l.length f) = obsOf σ.ob (getN (befL [] ops.toList) kI) (keyed b0 l.length f) := by
    intro M hk1 hk0 hbI hhi hcl hsub
    have hs : ∀ j, b0 ≤ j → j < b0 + l.length → bitN M j = true → bitN (getN (befL [] ops.toList) kI) j = false → f j = [] := by
      intro j hj0 hj hM hn
      rcases hsolo with h | h
      · omega
      obtain ⟨o, ho⟩ : ∃ o, l[j - b0]? = some o := ⟨_, List.getElem?_eq_getElem (by omega)⟩
      have := soloOk_at h ho
      rw [show b0 + (j - b0) = j by omega] at this
      rcases this with h | h | h | h | h
      · rw [h, hbI] at hM; cases hM
      · rw [hcl j hj hM kI h] at hbI; cases hbI
      · rw [h] at hn; cases hn
      · have := hlight _ _ ho h
        rwa [show b0 + (j - b0) = j by omega] at this
      · exact h _ (hmemk _ _ j hj0 hj) rfl
    funext a
    have : findO M a (keyed b0 l.length f) = findO (getN (befL [] ops.toList) kI) a (keyed b0 l.length f) := by
      cases h1 : findO (getN (befL [] ops.toList) kI) a (keyed b0 l.length f) with
      | some x =>
        obtain ⟨k, q1, q2, q3, q4, q5⟩ := findO_some _ _ h1
        refine findO_of (hsub k q3) q4 _ _ q1 q2 fun k' g1 g2 g3 => ?_
        cases hb : bitN (getN (befL [] ops.toList) kI) k' with
        | true => exact q5 k' g1 g2 hb
        | false => rw [hs k' (by omega) g2 g3 hb]; rfl
      | none =>
        cases h2 : findO M a (keyed b0 l.length f) with
        | none => rfl
        | some x =>
          obtain ⟨k, q1, q2, q3, q4, _⟩ := findO_some _ _ h2
          cases hb : bitN (getN (befL [] ops.toList) kI) k with
          | true => rw [findO_none _ _ h1 k q1 q2 hb] at q4; cases q4
          | false => rw [hs k q1 q2 q3 hb] at q4; cases q4
    unfold obsOf
    rw [this]
  intro cnt
  induction cnt with
  | zero =>
    intro listed M e a hsz hlist hhi hlow hcnt hmid
    rw [Nat.zero_add]
    exact hfin M listed e a hsz hlist hhi (cntU_zero hcnt) hmid
  | succ fuel ih =>
    intro listed M e a hsz hlist hhi hlow hcnt hmid
    have hD : ∀ k, k < ops.toList.length → ∀ b, listed.getD k b = bitN M k := by
      intro k hk b
      have := hlist k hk
      have hl2 : k < listed.size := by omega
      simp [hl2] at this ⊢
      exact this
    have hnotall : ¬ ∀ k, k < b0 + l.length → bitN M k = true := fun hall => by rw [cntU_all hall] at hcnt; omega
    rw [show fuel + 1 + tl.length = (fuel + tl.length) + 1 by omega]
    refine ⟨fun hready => ?_, fun i hready => ?_⟩
    ·
      exfalso
      refine hnotall ?_
      intro k
      induction k using Nat.strongRecOn with
      | _ k ihk =>
        intro hk
        cases hb : bitN M k with
        | true => rfl
        | false =>
          exfalso
          obtain ⟨o, ho⟩ : ∃ o, ops.toList[k]? = some o := ⟨_, List.getElem?_eq_getElem (by omega)⟩
          have hin : k ∈ Region.ready .any ops listed := by
            refine mem_ready.2 ⟨by rw [hD k (by omega), hb], o, by simpa using ho, fun ed he hbi => ?_⟩
            have hel := edges_lt (by have := edgesAll_at hea ho; rwa [Nat.zero_add] at this) ed (by simpa using he) hbi
            rw [hD ed.on (by omega)]
            exact ihk ed.on hel (by omega)
          rw [hready] at hin
          cases hin
    ·
      obtain ⟨h1, o, h2, hed⟩ := mem_ready.1 hready
      have hlt' : i < ops.toList.length := by rw [Array.length_toList]; exact (Array.getElem?_eq_some_iff.1 h2).1
      have ho' : ops.toList[i]? = some o := by simpa using h2
      have hbi : bitN M i = false := by rw [← hD i hlt' true]; exact h1
      have q2 : edgesOk i o.after.toList = true := by have := edgesAll_at hea ho'; rwa [Nat.zero_add] at this
      have hsub : ∀ j, bitN (getN (befL [] ops.toList) i) j = true → bitN M j = true := by
        intro j hj
        obtain ⟨ed, e1, e2, e3⟩ := hbsp i o ho' q2 j hj
        have hel := edges_lt q2 ed e1 e2
        have hon : bitN M ed.on = true := by
          rw [← hD ed.on (by omega) false]
          exact hed ed (by simpa using e1) e2
        rcases e3 with rfl | e3
        · exact hon
        · refine hmid.cl ed.on ?_ hon j e3
          rcases Nat.lt_or_ge ed.on (b0 + l.length) with h | h
          · exact h
          · rw [hhi _ h] at hon; cases hon
      have hge : b0 ≤ i := by
        rcases Nat.lt_or_ge i b0 with h | h
        · rw [hlow i h] at hbi; cases hbi
        · exact h
      have hlt : i < b0 + l.length := by
        rcases Nat.lt_or_ge i (b0 + l.length) with h | h
        · exact h
        · exfalso
          exact hnotall fun k hk => hsub k (htail i h hlt' k hk)
      have ho : l[i - b0]? = some o := hto (by omega) (by rwa [show b0 + (i - b0) = i by omega])
      obtain ⟨q1, _, q3, q4, q5⟩ := opsOk_at hok ho
      rw [show b0 + (i - b0) = i by omega] at q3 q4
      have hbit : ∀ k, bitN (Nat.lor M (Nat.shiftLeft 1 i)) k = (bitN M k || decide (i = k)) := fun k => by rw [bitN_lor, bitN_one]
      have hcl' : ∀ k, k < b0 + l.length → bitN (Nat.lor M (Nat.shiftLeft 1 i)) k = true → ∀ j, bitN (getN (befL [] ops.toList) k) j = true → bitN (Nat.lor M (Nat.shiftLeft 1 i)) j = true := by
        intro k hk hb j hj
        rw [hbit] at hb ⊢
        rw [Bool.or_eq_true] at hb ⊢
        rcases hb with hb | hb
        · exact .inl (hmid.cl k hk hb j hj)
        · have : i = k := by simpa using hb
          subst this
          exact .inl (hsub j hj)
      have next : ∀ (e' : Env S.T) (v : Value) (x : SX S.T), Inv Q e' → Lb Q σ.nx e e' → (∀ {v : Value} {x : SX S.T}, holdX Q e v x → holdX Q e' v x) → e'.ob = obsOf σ.ob (Nat.lor M (Nat.shiftLeft 1 i)) (keyed b0 l.length f) → (∀ j, e'.U j → e.U j ∨ (σ.nx + 8 * i ≤ j ∧ j < σ.nx + 8 * i + 8) ∨ (i = kI ∧ (j < frI → e.U j) ∧ j < σf.nx)) → holdX Q e' v x → (∀ d, o.dst = some d → σf.get d = x) →
          wpAny S.P .any ops R (fuel + tl.length) (listed.setIfInBounds i true) (a.put o.dst v) e'.w := by
        intro e' v x g1 g2 g2h g3 g4 g5 g6
        have hdl : ∀ d, o.dst = some d → lookL d (dstL b0 l) = some i := fun d hd => by
          have := dst_look l b0 (i - b0) o d hnd ho hd
          rwa [show b0 + (i - b0) = i by omega] at this
        refine ih _ (Nat.lor M (Nat.shiftLeft 1 i)) e' _ (by simpa using hsz) (fun k hk => ?_) (fun k hk => by rw [hbit, hhi k hk]; simp; omega) (fun k hk => by rw [hbit, hlow k hk]; rfl) ?_ ⟨hmid.le.trans g2, g1, g3, ?_, fun t => ?_, ?_, ?_, fun t ht => ?_, hcl'⟩
        · rw [hbit]
          by_cases he : i = k
          · subst he
            have hl2 : i < listed.size := by omega
            simp [hl2]
          · rw [getD_set_ne _ he, hD k hk]
            simp [he]
        · have := cntU_set (f := bitN M) (g := bitN (Nat.lor M (Nat.shiftLeft 1 i))) hbi hbit hlt
          omega
        · intro j hj
          have old : e.U j → (j < σ.nx ∨ (∃ k, k < b0 + l.length ∧ bitN (Nat.lor M (Nat.shiftLeft 1 i)) k = true ∧ σ.nx + 8 * k ≤ j ∧ j < σ.nx + 8 * k + 8) ∨ (kI < b0 + l.length ∧ bitN (Nat.lor M (Nat.shiftLeft 1 i)) kI = true ∧ frI ≤ j ∧ j < σf.nx)) := fun h => by
            rcases hmid.U j h with h | ⟨k, k1, k2, k3⟩ | ⟨k1, k2, k3⟩
            · exact .inl h
            · exact .inr (.inl ⟨k, k1, by rw [hbit, k2]; rfl, k3⟩)
            · exact .inr (.inr ⟨k1, by rw [hbit, k2]; rfl, k3⟩)
          rcases g4 j hj with h | h | ⟨h1, h2, h3⟩
          · exact old h
          · exact .inr (.inl ⟨i, hlt, by rw [hbit]; simp, h⟩)
          · rcases Nat.lt_or_ge j frI with h4 | h4
            · exact old (h2 h4)
            · exact .inr (.inr ⟨by rw [← h1]; exact hlt, by rw [hbit, h1]; simp, h4, h3⟩)
        · have hold : ∀ t, (∀ d, o.dst = some d → t ≠ d) → holdX Q e' (a.tmps.getD t undef) (match lookL t (dstL b0 l) with | some j => if bitN (Nat.lor M (Nat.shiftLeft 1 i)) j = true then σf.get t else σ.get t | none => σ.get t) := by
            intro t ht
            have h5 := g2h (hmid.sl t)
            cases hl : lookL t (dstL b0 l) with
            | none => rw [hl] at h5; exact h5
            | some j =>
              rw [hl] at h5
              simp only at h5 ⊢
              have hji : j ≠ i := by
                rintro rfl
                obtain ⟨k, o', hk, ho', hd'⟩ := dst_of hl
                have hk' : j - b0 = k := by omega
                subst hk'
                rw [ho] at ho'
                cases ho'
                exact ht t hd' rfl
              rw [hbit]
              simp only [show decide (i = j) = false from by simpa using fun h => hji h.symm, Bool.or_false]
              exact h5
          cases hd : o.dst with
          | none => exact hold t fun d hd' => by rw [hd] at hd'; cases hd'
          | some d =>
            rw [put_get (a := a) (dst := some d) (fun d' hd' => by rw [hmid.n]; exact fits_lt q1 d' (hd.trans hd'))]
            simp only
            split
            · rename_i he
              subst he
              rw [hdl t hd]
              simp only [hbit, decide_true, Bool.or_true, if_true]
              rw [g6 t hd]
              exact g5
            · rename_i he
              exact hold t fun d' hd' => by rw [hd] at hd'; cases hd'; exact he
        · rw [put_size]; exact hmid.n
        · rw [put_defers]; exact hmid.df
        · cases hd : o.dst with
          | none => exact hmid.same t ht
          | some d =>
            rw [put_get (a := a) (dst := some d) (fun d' hd' => by rw [hmid.n]; exact fits_lt q1 d' (hd.trans hd'))]
            simp only
            split
            · rename_i he
              subst he
              rw [hdl t hd] at ht
              cases ht
            · exact hmid.same t ht
      have hopsOf : ∀ (σv : St S.T), (∀ t, Operand.tmp t ∈ o.op.operands.toList → Sees l b0 σ σf i t (σv.get t)) → Opds Q e a.eval o.op.operands.toList (σv.opds o) := by
        intro σv hvis
        have : ∀ (ps : List Operand), (∀ p, p ∈ ps → p ∈ o.op.operands.toList) → Opds Q e a.eval ps (ps.map σv.opd) := by
          intro ps
          induction ps with
          | nil => exact fun _ => .nil
          | cons p ps ihl =>
            intro hl
            refine .cons ?_ (ihl fun q hq => hl q (List.mem_cons_of_mem _ hq))
            cases p with
            | tmp t =>
              have h5 := hmid.sl t
              show holdX Q e (a.tmps.getD t undef) (σv.get t)
              have hv := hvis t (hl _ List.mem_cons_self)
              cases hlk : lookL t (dstL b0 l) with
              | none =>
                rw [hlk] at h5
                rcases hv with ⟨hv, _⟩ | ⟨hv, _⟩
                · rw [hv, hseen t hlk]; exact h5
                · rw [hv]; exact h5
              | some j =>
                rw [hlk] at h5
                obtain ⟨kj, oj, hkj, hoj, hdj⟩ := dst_of hlk
                rcases q3 t (hl _ List.mem_cons_self) j hlk with ⟨c1, c2⟩ | ⟨c1, c2⟩
                · simp only [hsub j c2, if_true] at h5
                  rcases hv with ⟨hv, _⟩ | ⟨hv, hno⟩
                  · rw [hv]; exact h5
                  · exact absurd hdj (hno kj oj hoj (by omega))
                · have hMj : bitN M j = false := by
                    cases hb : bitN M j with
                    | false => rfl
                    | true =>
                      have hjl : j < b0 + l.length := by
                        have := (List.getElem?_eq_some_iff.1 hoj).1
                        omega
                      rw [hmid.cl j hjl hb i c2] at hbi
                      cases hbi
                  simp only [hMj, Bool.false_eq_true, if_false] at h5
                  rcases hv with ⟨hv, hno⟩ | ⟨hv, _⟩
                  · exact absurd hdj (hno kj oj hoj (by omega))
                  · rw [hv]; exact h5
            | const v => exact opd_ok (σ := { sl := fun _ => .v (.c .un), ob := σ.ob, nx := 0, n := 0, lg := [] }) (a := { tmps := #[], defers := [] }) (fun _ => trivial) (.const v)
            | global g => trivial
            | func f => exact ⟨fun i hi => (by cases hi), rfl⟩
        exact this _ fun p hp => hp
      have act : (∃ u, Act1 (Sees l b0 σ σf) C σ.ob σ.nx (befL [] ops.toList) σf (keyed b0 l.length f) f i o u) → o.wp S.P a e.w (wpAny S.P .any ops R (fuel + tl.length) (listed.setIfInBounds i true)) R := by
        rintro ⟨u, hu⟩
        obtain ⟨k1, k2, k3⟩ := freshSet_ok hu.fresh
        obtain ⟨σv, hvis, hcan0⟩ := hu.can
        have hops := hopsOf σv hvis
        have hcan : (opD C o (σv.opds o) (obsOf σ.ob M (keyed b0 l.length f)) (σ.nx + 8 * i)).Can u := by
          cases hli : light o with
          | true =>
            rw [opD_light hli _ (obsOf σ.ob (getN (befL [] ops.toList) i) (keyed b0 l.length f))]
            exact hcan0
          | false => exact opD_mono hi (hless M i hge hlt (fun o' ho' => by rw [ho] at ho'; cases ho'; exact hli) hbi hmid.cl hsub) o (σv.opds o) (σ.nx + 8 * i) u hcan0
        rw [← hmid.ob] at hcan
        refine opD_ok L hC hmid.inv ?_ hops hcan ?_
        · intro j hj1 hj2 hj
          rcases hmid.U j hj with h | ⟨k, k1', k2', k3', k4'⟩ | ⟨k1', k2', k3', k4'⟩
          · omega
          · have : k = i := by omega
            subst this
            rw [hbi] at k2'
            cases k2'
          · omega
        · intro v e' g1 g2 g3 g4 g5
          refine next e' v u.res g1 (g2.lb _ fun a ha hu => (g4 a hu).elim id fun h => by omega) (g2.holdX _) ?_ (fun j hj => (g4 j hj).imp id .inl) g5 hu.res
          rw [g3, hmid.ob]
          exact hone M i _ hge hlt hbi hmid.cl fun a => by show (u.set.foldl put1 _) a = _; rw [k3 _ a]; cases lookL a (f i) <;> rfl
      have actI : i = kI → (∃ r, ActI (Sees l b0 σ σf) I σ.ob σ.nx frI (befL [] ops.toList) σf (keyed b0 l.length f) f i o r) → o.wp S.P a e.w (wpAny S.P .any ops R (fuel + tl.length) (listed.setIfInBounds i true)) R := by
        rintro hik ⟨r, hr⟩
        obtain ⟨σv, hvis', hcan0⟩ := hr.can
        have hops := hopsOf σv hvis'
        have hexc : obsOf σ.ob (getN (befL [] ops.toList) i) (keyed b0 l.length f) = e.ob := by
          rw [hmid.ob, hik]
          exact (hexact M (by omega) (by omega) (by rw [← hik]; exact hbi) hhi hmid.cl (by rw [← hik]; exact hsub)).symm
        rw [hexc] at hcan0
        obtain ⟨q1, q2⟩ := bif_some hr.fresh
        rw [Bool.and_eq_true] at q1
        have hnx := ble_le q1.2
        have hUlt : ∀ j, e.U j → j < frI := by
          intro j hj
          rcases hmid.U j hj with h | ⟨k, k1', k2', k3', k4'⟩ | ⟨k1', k2', k3', k4'⟩
          · omega
          · omega
          · rw [← hik, hbi] at k2'; cases k2'
        have hcv := hr.op
        unfold isCallV at hcv
        split at hcv
        rotate_left
        · cases hcv
        rename_i callee args ts hop
        unfold inlD at hcan0
        split at hcan0
        rotate_left
        · exact hcan0.elim
        rename_i f0 caps xs hxe
        rw [hxe, hop] at hops
        simp only [Op.operands, Call.operands] at hops
        have hops : Opds Q e a.eval (callee :: args.toList) (.v (.c (.fn f0 caps)) :: xs) := by simpa using hops
        cases hops with
        | cons h1 h2 =>
          have hcal : a.eval callee = .func (.func f0) #[] (caps.map e.β).toArray := h1.2
          have hargs : All2 (holdX Q e) (args.toList.map a.eval) xs := Opds.args h2
          obtain ⟨hcap, hcr⟩ := can_guard hcan0
          obtain ⟨hfn, hcalls⟩ := hI _ _ _ _ _ hcr
          have hcalls := hcalls e (args.toList.map a.eval ++ caps.map e.β) hmid.inv rfl hUlt (hargs.app (caps_hold hmid.inv h1.1 hcap))
          unfold Oper.wp
          rw [run_enter hop hcal hfn, Oper.upon_enter]
          have : (args.toList.map a.eval ++ caps.map e.β).toArray = (args.toList.map a.eval).toArray ++ (caps.map e.β).toArray := by simp
          rw [this] at hcalls
          refine hcalls.mono ?_
          rintro en w1 ⟨v, e', rfl, rfl, g1, g2, g3, g4, g5, g6, g7⟩
          refine next e' v r.1 g2 (g1.mono (by omega)) (fun hx => g1.holdX (lt_holdX hUlt hx) hx) ?_ (fun j hj => .inr (.inr ⟨hik, fun hlt' => g1.ub j hlt' hj, by rw [hr.nx]; exact g4 j hj⟩)) g7 hr.res
          · rw [g3]
            refine hone M i _ hge hlt hbi hmid.cl fun a' => ?_
            rw [← (Option.some.inj q2 : entsI r = f i)]
            unfold entsI
            rw [looks_at, ← hmid.ob]
            cases hin : hasN a' (addN [] r.2.lg) with
            | true => rfl
            | false =>
              refine g6 a' fun hm => ?_
              rw [hasN_iff.2 (mem_addN.2 (.inr hm))] at hin
              cases hin
      have skp : Skip1 σf f i o → wpAny S.P .any ops R (fuel + tl.length) (listed.setIfInBounds i true) (a.put o.dst undef) e.w := by
        intro hs
        refine next e undef (.tup []) hmid.inv (Lb.refl _ e) (fun h => h) ?_ (fun j hj => .inl hj) ⟨[], rfl, .nil⟩ hs.res
        rw [hmid.ob]
        exact hone M i _ hge hlt hbi hmid.cl fun a => by rw [hs.nil]; rfl
      have hf := hfact (i - b0) o ho
      rw [show b0 + (i - b0) = i by omega] at hf
      unfold wpOp
      rw [h2]
      simp only
      unfold Fact at hf
      split at hf
      · rename_i hg
        rw [if_pos (by simp [Region.wanted, hg])]
        exact .inl (hf.elim act fun h => actI h.1 h.2)
      · rename_i j want hg
        obtain ⟨d, hdst, hc⟩ := hf
        have hj : bitN M j = true := hsub j (q4 j want hg)
        have hjl : j < b0 + l.length := by
          rcases Nat.lt_or_ge j (b0 + l.length) with h | h
          · exact h
          · rw [hhi _ h] at hj; cases hj
        have hsd : holdX Q e (a.tmps.getD d undef) (σf.get d) := by
          have hsd := hmid.sl d
          rcases Nat.lt_or_ge j b0 with hjb | hjb
          · have hno := hgd _ o j want d ho hg hdst hjb
            rw [hno] at hsd
            rw [hseen d hno]
            exact hsd
          · have hjo : ∃ o', l[j - b0]? = some o' ∧ o'.dst = some d := by
              have hdst' := hdst
              unfold dstOf at hdst'
              cases hq : ops[j]? with
              | none => rw [hq] at hdst'; cases hdst'
              | some o' => rw [hq] at hdst'; exact ⟨o', hto (by omega) (by rw [show b0 + (j - b0) = j by omega]; simpa using hq), hdst'⟩
            obtain ⟨o'', ho'', hd''⟩ := hjo
            have hdl : lookL d (dstL b0 l) = some j := by
              have := dst_look l b0 (j - b0) o'' d hnd ho'' hd''
              rwa [show b0 + (j - b0) = j by omega] at this
            rw [hdl] at hsd
            simp only [hj, if_true] at hsd
            exact hsd
        rcases hc with ⟨b, hb, hbb, hc⟩ | ⟨hb, hc⟩
        · rw [hb] at hsd
          have hsd : a.tmps.getD d undef = .bool b := hsd
          have hval : a.tmps[d]? = some (.bool b) := by
            cases hq : a.tmps[d]? with
            | none =>
              have : a.tmps.getD d undef = undef := by simp [Array.getD_eq_getD_getElem?, hq]
              rw [this] at hsd
              cases hsd
            | some v =>
              have : a.tmps.getD d undef = v := by simp [Array.getD_eq_getD_getElem?, hq]
              rw [← this, hsd]
          have hy : yielded ops a.tmps j = some b := by
            unfold yielded
            have : (ops[j]?).bind (·.dst) = some d := hdst
            rw [this]
            simp [hval]
          have hw : Region.wanted o (yielded ops a.tmps) = (b == want) := by
            unfold Region.wanted
            rw [hg]
            simp only [hy]
            cases b <;> cases want <;> rfl
          split at hc
          · rename_i he
            rw [if_pos (by rw [hw, he]; cases want <;> rfl)]
            exact .inl (act hc)
          · rename_i he
            rw [if_neg (by rw [hw]; simpa using he)]
            exact skp hc
        · rw [hb] at hsd
          obtain ⟨vs, hu, hvs⟩ := hsd
          cases hvs
          have hy : yielded ops a.tmps j = none := by
            unfold yielded
            have : (ops[j]?).bind (·.dst) = some d := hdst
            rw [this]
            simp only [Option.bind_some]
            cases hq : a.tmps[d]? with
            | none => rfl
            | some v =>
              have : a.tmps.getD d undef = v := by simp [Array.getD_eq_getD_getElem?, hq]
              rw [this] at hu
              rw [hu]
          have hw : Region.wanted o (yielded ops a.tmps) = false := by
            unfold Region.wanted
            rw [hg]
            simp only [hy]
            cases want <;> rfl
          rw [if_neg (by rw [hw]; decide)]
          exact skp hc
theorem bitN_allM {n k : Nat} (h : k < n) : bitN (allM n) k = true := by
  rw [bitN_test]
  show Nat.testBit (1 <<< n - 1) k = true
  rw [Nat.one_shiftLeft, Nat.testBit_two_pow_sub_one]
  simpa using h
theorem findO_bits {T : Tys} {m m' a : Nat} {f : Nat → List (Nat × Option (Nat × SO T))} : ∀ (n i : Nat), (∀ k, i ≤ k → k < i + n → bitN m k = bitN m' k) → findO m a (keyed i n f) = findO m' a (keyed i n f)
  | 0, i, _ => rfl
  | n + 1, i, h => by
    simp only [keyed, findO]
    rw [h i (Nat.le_refl _) (by omega), findO_bits n (i + 1) fun k h1 h2 => h k (by omega) (by omega)]
theorem keyed_keys {T : Tys} {f : Nat → List (Nat × Option (Nat × SO T))} {m a : Nat} : ∀ (n i : Nat), a ∉ ((keyed i n f).flatMap fun q => q.2.map (·.1)) → findO m a (keyed i n f) = none
  | 0, i, _ => rfl
  | n + 1, i, h => by
    simp only [keyed, List.flatMap_cons, List.mem_append, not_or] at h
    simp only [keyed, findO]
    rw [keyed_keys n (i + 1) h.2]
    cases bitN m i with
    | true =>
      simp only [cond_true]
      cases hl : lookL a (f i) with
      | none => rfl
      | some x => exact absurd (List.mem_map.2 ⟨_, lookL_key hl, rfl⟩) h.1
    | false => rfl
theorem wrOps_app : ∀ (l r : List Oper) {s : Nat}, bitN (wrOps (l ++ r)) s = (bitN (wrOps l) s || bitN (wrOps r) s)
  | [], r, s => by
    have : bitN (wrOps []) s = false := bitN_zero s
    rw [this]; rfl
  | o :: l, r, s => by rw [List.cons_append, wrOps_cons, wrOps_cons, bitN_lor, bitN_lor, wrOps_app l r, Bool.or_assoc]
theorem land_all {x n j : Nat} (h : Nat.beq (Nat.land x (allM n)) (allM n) = true) (hj : j < n) : bitN x j = true := by
  have h1 := beq_eq' h
  have h2 := bitN_allM hj
  rw [← h1, bitN_test] at h2
  rw [bitN_test]
  have h3 : Nat.testBit (x &&& allM n) j = true := h2
  rw [Nat.testBit_and, Bool.and_eq_true] at h3
  exact h3.1
theorem allM_hi {n k : Nat} (h : n ≤ k) : bitN (allM n) k = false := by
  rw [bitN_test]
  show Nat.testBit (1 <<< n - 1) k = false
  rw [Nat.one_shiftLeft, Nat.testBit_two_pow_sub_one]
  simpa using h
theorem cutB_at {bef : List Nat} {n c : Nat} : ∀ {k : Nat}, cutB bef n c k = true → ∀ m, n - k ≤ m → m < n → ∀ j, j < c → bitN (getN bef m) j = true
  | 0, _, m, h1, h2, j, hj => by omega
  | k + 1, h, m, h1, h2, j, hj => by
    simp only [cutB, Bool.and_eq_true] at h
    by_cases he : n - (k + 1) = m
    · subst he; exact land_all h.1 hj
    · exact cutB_at h.2 m (by omega) h2 j hj
theorem cntU_from {f : Nat → Bool} {i : Nat} (h1 : ∀ k, k < i → f k = true) (h2 : ∀ k, i ≤ k → f k = false) : ∀ n, cntU f (i + n) = n
  | 0 => cntU_all h1
  | n + 1 => by
    show cntU f (i + n) + (bif f (i + n) then 0 else 1) = n + 1
    rw [cntU_from h1 h2 n, h2 _ (by omega)]
    rfl
theorem gdOk_at {ops : Array Oper} {dl : List (Nat × Nat)} {b0 : Nat} : ∀ {l : List Oper}, gdOk ops dl b0 l = true → ∀ (k : Nat) (o : Oper) (j : Nat) (w : Bool) (d : Nat), l[k]? = some o → o.guard = some (j, w) → dstOf ops j = some d → j < b0 → lookL d dl = none
  | [], _, k, _, _, _, _, h, _, _, _ => by simp at h
  | o' :: r, hk, 0, o, j, w, d, h, hg, hd, hj => by
    simp at h
    subst h
    simp only [gdOk, Bool.and_eq_true] at hk
    have h1 := hk.1
    rw [hg] at h1
    simp only [hd] at h1
    cases hl : lookL d dl with
    | none => rfl
    | some x =>
      rw [hl] at h1
      have := ble_le h1
      omega
  | o' :: r, hk, k + 1, o, j, w, d, h, hg, hd, hj => by
    simp only [gdOk, Bool.and_eq_true] at hk
    exact gdOk_at hk.2 k o j w d (by simpa using h) hg hd hj
theorem nxE_le (m x : Nat) : m ≤ nxE m x ∧ x ≤ nxE m x := by
  unfold nxE
  cases hb : Nat.ble m x with
  | true => exact ⟨ble_le hb, Nat.le_refl _⟩
  | false =>
    simp only [cond_false]
    refine ⟨Nat.le_refl _, ?_⟩
    rcases Nat.le_total x m with h | h
    · exact h
    · rw [Nat.ble_eq_true_of_le h] at hb; cases hb
theorem forceN_eq {α : Type _} (m : Nat) (f : Nat → α) : forceN m f = f m := by cases m <;> rfl
theorem forceL_eq {α : Type _} : ∀ (l : List Nat) (f : List Nat → α), forceL l f = f l
  | [], f => rfl
  | x :: r, f => by simp only [forceL, forceN_eq]; exact forceL_eq r _
theorem preG_ok {ops : Array Oper} {i : Nat} {e : Env S.T} {a : Act} : ∀ {l : List Oper} {σ σ' : St S.T}, Holds Q e σ a → (preG ops i l σ).Can σ' → Holds Q e σ' a ∧ σ'.n = σ.n ∧ σ'.nx = σ.nx ∧ σ'.ob = σ.ob ∧ σ'.lg = σ.lg
  | [], σ, σ', h, hc => by have hc := can_ret hc; subst hc; exact ⟨h, rfl, rfl, rfl, rfl⟩
  | o :: r, σ, σ', h, hc => by
    obtain ⟨σ1, h1, h2⟩ := Tr.can_then hc
    have key : Holds Q e σ1 a ∧ σ1.n = σ.n ∧ σ1.nx = σ.nx ∧ σ1.ob = σ.ob ∧ σ1.lg = σ.lg := by
      have same : (Tr.ret σ).Can σ1 → Holds Q e σ1 a ∧ σ1.n = σ.n ∧ σ1.nx = σ.nx ∧ σ1.ob = σ.ob ∧ σ1.lg = σ.lg := fun hc => by
        have hc := can_ret hc; subst hc; exact ⟨h, rfl, rfl, rfl, rfl⟩
      split at h1
      · cases hb : Nat.blt _ i with
        | false => rw [hb] at h1; exact same h1
        | true =>
          rw [hb, cond_true] at h1
          split at h1
          · split at h1
            · rename_i b hb
              have hl := h.lit hb
              rcases h1 with ⟨rfl, h1⟩ | ⟨rfl, h1⟩
              · have h1 := can_ret h1; subst h1; exact ⟨hl, rfl, rfl, rfl, rfl⟩
              · have h1 := can_ret h1; subst h1; exact ⟨hl, rfl, rfl, rfl, rfl⟩
            · exact same h1
          · exact same h1
      · exact same h1
    obtain ⟨k1, k2, k3, k4, k5⟩ := key
    obtain ⟨g1, g2, g3, g4, g5⟩ := preG_ok k1 h2
    exact ⟨g1, g2.trans k2, g3.trans k3, g4.trans k4, g5.trans k5⟩
theorem seg_ok (L : Laws S Q) (hi : InnMono S) {B : Tb S} (hC : ∀ f g, B.C f = some g → ConOk Q f g) {I : Inl S} (hI : InlOk Q I) {ops : Array Oper} {R : Exit → Act → World → Prop} (hea : edgesAll 0 ops.toList = true) :
    ∀ (fuel i : Nat) (r : List Oper) (listed : Array Bool) {e : Env S.T} {σ σ' : St S.T} {a : Act}, ops.toList.drop i = r → i ≤ ops.toList.length → (∀ m, i ≤ m → m < ops.toList.length → ∀ j, j < i → bitN (getN (befL [] ops.toList) m) j = true) → listed.size = ops.toList.length →
      (∀ k, k < ops.toList.length → listed.getD k false = decide (k < i)) → Holds Q e σ a → (drawS B I ops (befL [] ops.toList) ops.toList.length fuel i r σ).Can σ' → (∀ e' a', Stp Q e σ (wrOps r) a e' σ' a' → R .normal a' e'.w) → wpAny S.P .any ops R r.length listed a e.w := by
  have hedge : ∀ {k : Nat} {o : Oper}, ops.toList[k]? = some o → edgesOk k o.after.toList = true := fun {k o} ho => by
    have := edgesAll_at hea ho
    rwa [Nat.zero_add] at this
  have hbsp := fun k o (ho : ops.toList[k]? = some o) (he : edgesOk k o.after.toList = true) => bef_spec ops.toList [] k o ho (by simpa using he)
  simp only [List.length_nil, Nat.zero_add] at hbsp
  have hdlt : ∀ (k j : Nat), k < ops.toList.length → k ≤ j → bitN (getN (befL [] ops.toList) k) j = false := by
    intro k
    induction k using Nat.strongRecOn with
    | _ k ihk =>
      intro j hk hkj
      cases hb : bitN (getN (befL [] ops.toList) k) j with
      | false => rfl
      | true =>
        exfalso
        obtain ⟨o, ho⟩ : ∃ o, ops.toList[k]? = some o := ⟨_, List.getElem?_eq_getElem hk⟩
        obtain ⟨ed, e1, e2, e3⟩ := hbsp k o ho (hedge ho) j hb
        have hel := edges_lt (hedge ho) ed e1 e2
        rcases e3 with rfl | e3
        · omega
        · rw [ihk ed.on hel j (by omega) (by omega)] at e3
          cases e3
  intro fuel
  induction fuel with
  | zero =>
    intro i r listed e σ σ' a hd hin hbe hsz hlist h hc hR
    cases r with
    | nil =>
      have hc := can_ret hc
      subst hc
      refine ⟨?_, hR e a (Stp.refl h _)⟩
      have hle : ops.toList.length ≤ i := by simpa using hd
      rw [List.eq_nil_iff_forall_not_mem]
      intro k hk
      obtain ⟨h1, o, h2, _⟩ := mem_ready.1 hk
      have hlt : k < ops.toList.length := by rw [Array.length_toList]; exact (Array.getElem?_eq_some_iff.1 h2).1
      have h3 := hlist k hlt
      have hl2 : k < listed.size := by omega
      simp [hl2] at h1 h3
      rw [h1] at h3
      have : ¬ k < i := by simpa using h3.symm
      omega
    | cons o r => exact hc.elim
  | succ fuel ih =>
    intro i r listed e σ σ' a hd hin hbe hsz hlist h hc hR
    cases r with
    | nil =>
      have hc := can_ret hc
      subst hc
      refine ⟨?_, hR e a (Stp.refl h _)⟩
      have hle : ops.toList.length ≤ i := by simpa using hd
      rw [List.eq_nil_iff_forall_not_mem]
      intro k hk
      obtain ⟨h1, o, h2, _⟩ := mem_ready.1 hk
      have hlt : k < ops.toList.length := by rw [Array.length_toList]; exact (Array.getElem?_eq_some_iff.1 h2).1
      have h3 := hlist k hlt
      have hl2 : k < listed.size := by omega
      simp [hl2] at h1 h3
      rw [h1] at h3
      have : ¬ k < i := by simpa using h3.symm
      omega
    | cons o r =>
      unfold drawS at hc
      simp only [forceN_eq] at hc
      generalize hm : segL (befL [] ops.toList) ops.toList.length i (ops.toList.length - i) 1 = m at hc
      obtain ⟨hcut, hc⟩ := can_guard hc
      rw [Bool.and_eq_true] at hcut
      obtain ⟨him, hcut⟩ := hcut
      have him := ble_le him
      have hcut : ∀ k, i + m ≤ k → k < ops.toList.length → ∀ j, j < i + m → bitN (getN (befL [] ops.toList) k) j = true := fun k h1 h2 j hj => cutB_at hcut k (by omega) h2 j hj
      have hi0 : ops.toList[i]? = some o := by
        have := congrArg (fun l => l[0]?) hd
        simpa using this
      have hilt : i < ops.toList.length := (List.getElem?_eq_some_iff.1 hi0).1
      have hD : ∀ k, k < ops.toList.length → ∀ b, listed.getD k b = decide (k < i) := by
        intro k hk b
        have := hlist k hk
        have hl2 : k < listed.size := by omega
        simp [hl2] at this ⊢
        exact this
      by_cases hm1 : m = 1
      · subst hm1
        replace hc : ((guardT (dstFits σ.n o) (stepO B.C I ops o σ)).then fun σ1 => drawS B I ops (befL [] ops.toList) ops.toList.length fuel (i + 1) r σ1).Can σ' := hc
        have hd' : ops.toList.drop (i + 1) = r := by
          have := congrArg List.tail hd
          simpa [List.tail_drop] using this
        obtain ⟨σ1, h1, hc2⟩ := Tr.can_then hc
        obtain ⟨hfit, h1⟩ := can_guard h1
        refine ⟨fun hready => ?_, fun k hk => ?_⟩
        · exfalso
          have hin : i ∈ Region.ready .any ops listed := by
            refine mem_ready.2 ⟨by rw [hD i hilt]; simp, o, by simpa using hi0, fun ed he hb => ?_⟩
            have hel := edges_lt (hedge hi0) ed (by simpa using he) hb
            rw [hD ed.on (by omega)]
            simpa using hel
          rw [hready] at hin
          cases hin
        · obtain ⟨g1, o', g2, g3⟩ := mem_ready.1 hk
          have hklt : k < ops.toList.length := by rw [Array.length_toList]; exact (Array.getElem?_eq_some_iff.1 g2).1
          rw [hD k hklt] at g1
          have hki : i ≤ k := by simpa using g1
          have hkeq : k = i := by
            rcases Nat.lt_or_ge i k with hlt | hge
            · exfalso
              have hall : ∀ j, bitN (getN (befL [] ops.toList) k) j = true → j < i := by
                intro j hj
                obtain ⟨ed, e1, e2, e3⟩ := hbsp k o' (by simpa using g2) (hedge (by simpa using g2)) j hj
                have hel := edges_lt (hedge (show ops.toList[k]? = some o' by simpa using g2)) ed e1 e2
                have hon := g3 ed (by simpa using e1) e2
                rw [hD ed.on (by omega)] at hon
                have hon : ed.on < i := by simpa using hon
                rcases e3 with rfl | e3
                · exact hon
                · rcases Nat.lt_or_ge j i with h5 | h5
                  · exact h5
                  · rw [hdlt ed.on j (by omega) (by omega)] at e3; cases e3
              have := hall i (hcut k (by omega) hklt i (by omega))
              omega
            · omega
          subst hkeq
          have ho' : o' = o := by
            have : ops.toList[k]? = some o' := by simpa using g2
            rw [hi0] at this
            exact (Option.some.inj this).symm
          subst ho'
          have next : ∀ e' a', Stp Q e σ (dstW o'.dst) a e' σ1 a' → wpAny S.P .any ops R r.length (listed.setIfInBounds k true) a' e'.w := by
            intro e' a' st
            refine ih (k + 1) r _ hd' (by omega) hcut (by simpa using hsz) (fun m hm => ?_) st.holds hc2 fun e2 a2 st2 => hR e2 a2 ?_
            · by_cases he : k = m
              · subst he
                have hl2 : k < listed.size := by omega
                simp [hl2]
              · rw [getD_set_ne _ he, hD m hm]
                simp only [decide_eq_decide]
                omega
            · rw [wrOps_cons]
              exact st.trans st2
          have hst := stepO_ok L hC hI h (fits_lt hfit) h1 (K := wpAny S.P .any ops R r.length (listed.setIfInBounds k true)) (R := R) next
          unfold wpOp
          rw [g2]
          simp only
          split
          · rename_i hw; rw [if_pos hw] at hst; exact .inl hst
          · rename_i hw; rw [if_neg hw] at hst; exact hst
      · rw [show Nat.beq m 1 = false by cases hb : Nat.beq m 1 with
            | true => exact absurd (beq_eq' hb) hm1
            | false => rfl] at hc
        rw [← hd] at hc
        simp only [cond_false] at hc
        obtain ⟨l, hl⟩ : ∃ l, (ops.toList.drop i).take m = l := ⟨_, rfl⟩
        obtain ⟨tl, htl⟩ : ∃ tl, (ops.toList.drop i).drop m = tl := ⟨_, rfl⟩
        rw [hl, htl] at hc
        have hrl : o :: r = l ++ tl := by rw [← hl, ← htl, List.take_append_drop, hd]
        have hlt : ops.toList = ops.toList.take i ++ (l ++ tl) := by rw [← hrl, ← hd, List.take_append_drop]
        have hb0 : (ops.toList.take i).length = i := by rw [List.length_take]; omega
        have hln : ops.toList.length = i + (l.length + tl.length) := by
          have := congrArg List.length hlt
          rw [List.length_append, List.length_append, hb0] at this
          exact this
        have hll : l.length = m := by rw [← hl, List.length_take, List.length_drop]; omega
        have hcutl : ∀ k, i + l.length ≤ k → k < ops.toList.length → ∀ j, j < i + l.length → bitN (getN (befL [] ops.toList) k) j = true := by
          intro k h1 h2 j hj
          exact hcut k (by omega) h2 j (by omega)
        obtain ⟨σ, hpre, hc⟩ := Tr.can_then hc
        obtain ⟨hp1, hp2, hp3, hp4, hp5⟩ := preG_ok h hpre
        replace hR : ∀ e' a', Stp Q e σ (wrOps (o :: r)) a e' σ' a' → R .normal a' e'.w := fun e' a' st => hR e' a' ⟨by rw [← hp3]; exact st.lb, st.holds, st.same, by rw [← hp3]; exact st.nx, st.n.trans hp2, by rw [← hp4, ← hp5]; exact st.lg⟩
        have h := hp1
        obtain ⟨hg, hc⟩ := can_guard hc
        simp only [Bool.and_eq_true] at hg
        obtain ⟨⟨hnd, hok⟩, hgd⟩ := hg
        obtain ⟨⟨σf, osf⟩, hrun, hc⟩ := Tr.can_then hc
        obtain ⟨hvis, hc⟩ := can_guard hc
        rw [Bool.and_eq_true, Bool.or_eq_true] at hvis
        have hto : ∀ {k : Nat} {o : Oper}, l[k]? = some o → ops.toList[i + k]? = some o := fun {k o} h => by
          rw [hlt, List.getElem?_append_right (by omega), hb0, show i + k - i = k by omega, List.getElem?_append_left (List.getElem?_eq_some_iff.1 h).1]; exact h
        have hlk : ∀ {k' : Nat} {o' : Oper} {t : Nat}, l[k']? = some o' → o'.dst = some t → lookL t (dstL i l) = some (i + k') := fun ho' ht => dst_look l i _ _ _ hnd ho' ht
        have hlen : ∀ {k : Nat} {o : Oper}, l[k]? = some o → i + k < ops.toList.length := fun ho => by
          have := (List.getElem?_eq_some_iff.1 ho).1
          omega
        obtain ⟨f1, f2, f3, f4, f5, f, f6, f7⟩ := runD_ok l i σ σf [] osf hrun hnd
          (fun k o ho j w hgd' d hd k' hk' o' ho' hd' => by
            obtain ⟨_, _, _, q4, _⟩ := opsOk_at hok ho
            have h1 := q4 j w hgd'
            have hj : j < i + k := by
              rcases Nat.lt_or_ge j (i + k) with h | h
              · exact h
              · rw [hdlt (i + k) j (hlen ho) h] at h1; cases h1
            have e2 := hlk ho' hd'
            rcases Nat.lt_or_ge j i with hji | hji
            · rw [gdOk_at hgd k o j w d ho hgd' hd hji] at e2; cases e2
            · unfold dstOf at hd
              cases hq : ops[j]? with
              | none => rw [hq] at hd; cases hd
              | some oj =>
                rw [hq] at hd
                have hqj : l[j - i]? = some oj := by
                  have h2 : ops.toList[j]? = some oj := by simpa using hq
                  rw [hlt, List.getElem?_append_right (by omega), hb0, List.getElem?_append_left (by have := (List.getElem?_eq_some_iff.1 ho).1; omega)] at h2
                  exact h2
                have e1 := hlk hqj hd
                rw [e1] at e2
                have : i + (j - i) = i + k' := Option.some.inj e2
                omega)
          (fun k hk j hj => hdlt (i + k) j (by omega) hj)
        rw [List.nil_append] at f6
        subst f6
        have hdom : ∀ i x, σ.ob i = some x → i < σ.nx := by
          intro i x hx
          obtain ⟨s, so⟩ := x
          rw [← h.ob] at hx
          exact h.nx i (h.inv.obj i s so hx).1
        have h0 : Mid Q (kIOf B.C (i + m) i l) (σ.nx + 8 * ops.toList.length) e σ σf (keyed i l.length f) (befL [] ops.toList) (dstL i l) (i + l.length) a (allM i) e a := by
          refine ⟨Lb.refl _ e, h.inv, ?_, fun i hi => .inl (h.nx i hi), fun t => ?_, h.n, h.df, fun _ _ => rfl, fun k hk hb j hj => ?_⟩
          · rw [h.ob]
            funext b
            unfold obsOf
            rw [findO_hi _ _ fun k hk _ => allM_hi hk]
          · have := h.sl t
            cases hlt' : lookL t (dstL i l) with
            | none => exact this
            | some j =>
              obtain ⟨k, o', hk, _⟩ := dst_of hlt'
              simp only [allM_hi (show i ≤ j by omega), Bool.false_eq_true, if_false]
              exact this
          · rcases Nat.lt_or_ge k i with h5 | h5
            · rcases Nat.lt_or_ge j i with h6 | h6
              · exact bitN_allM h6
              · rw [hdlt k j (by omega) (by omega)] at hj; cases hj
            · rw [allM_hi h5] at hb; cases hb
        have := any_ok L hi hC hI (R := R) hb0 hlt hcutl hea hnd hok (gdOk_at hgd) hdom f1 (fun t ht => f5 t fun k o ho hd => by rw [hlk ho hd] at ht; cases ht) f7 rfl (hvis.2.imp (fun h => (beq_eq' h).trans (by omega)) id) hvis.1 ?_ l.length listed (allM i) e a hsz (fun k hk => by
            rw [hD k hk]
            rcases Nat.lt_or_ge k i with h5 | h5
            · rw [bitN_allM h5]; simp [h5]
            · rw [allM_hi h5]; simp; omega) (fun k hk => allM_hi (by omega)) (fun k hk => bitN_allM hk) (cntU_from (fun k hk => bitN_allM hk) (fun k hk => allM_hi hk) _) h0
        · rw [hrl, List.length_append]; exact this
        · intro M listed' e2 a2 hsz' hlist' hhi hall hmid
          have hnxm : σ.nx + 8 * (i + l.length) ≤ σ.nx + 8 * (i + m) := by omega
          have hst : Stp Q e σ (wrOps l) a e2 { σf with ob := obsOf σ.ob (allM (i + m)) (keyed i l.length f), nx := nxE (σ.nx + 8 * (i + m)) σf.nx, lg := ((keyed i l.length f).flatMap fun q => q.2.map (·.1)) ++ σ.lg } a2 := by
            refine ⟨hmid.le, ⟨hmid.inv, ?_, fun i' hi' => ?_, ?_, hmid.df, fun s => ?_⟩, fun s hs => ?_, ?_, f1, _, rfl, fun i' hi' => ?_⟩
            · rw [hmid.ob]
              funext b
              unfold obsOf
              rw [findO_bits (m' := allM (i + m)) _ _ fun k _ hk => by rw [hall k (by omega), bitN_allM (by omega)]]
            · show i' < nxE (σ.nx + 8 * (i + m)) σf.nx
              have hle := nxE_le (σ.nx + 8 * (i + m)) σf.nx
              rcases hmid.U i' hi' with h1 | ⟨k, h1, _, _, h2⟩ | ⟨h1, _, _, h2⟩
              · omega
              · omega
              · omega
            · show a2.tmps.size = σf.n
              rw [f1]; exact hmid.n
            · have h5 := hmid.sl s
              show holdX Q e2 _ (σf.get s)
              cases hl : lookL s (dstL i l) with
              | none =>
                rw [hl] at h5
                rw [f5 s fun k o ho hd => by rw [hlk ho hd] at hl; cases hl]
                exact h5
              | some j =>
                rw [hl] at h5
                obtain ⟨k, o, hk, ho, _⟩ := dst_of hl
                simp only [hall j (by rw [hk]; have := (List.getElem?_eq_some_iff.1 ho).1; omega), if_true] at h5
                exact h5
            · exact hmid.same s (wr_look hs)
            · show σ.nx ≤ nxE (σ.nx + 8 * (i + m)) σf.nx
              have hle := nxE_le (σ.nx + 8 * (i + m)) σf.nx
              omega
            · show obsOf σ.ob _ _ i' = σ.ob i'
              unfold obsOf
              rw [keyed_keys _ _ hi']
          have fin : ∀ e3 a3, Stp Q e2 { σf with ob := obsOf σ.ob (allM (i + m)) (keyed i l.length f), nx := nxE (σ.nx + 8 * (i + m)) σf.nx, lg := ((keyed i l.length f).flatMap fun q => q.2.map (·.1)) ++ σ.lg } (wrOps tl) a2 e3 σ' a3 → R .normal a3 e3.w := by
            intro e3 a3 st3
            refine hR e3 a3 ?_
            have h5 := hst.trans st3
            rw [hrl]
            refine ⟨h5.lb, h5.holds, fun s hs => h5.same s ?_, h5.nx, h5.n, h5.lg⟩
            rw [bitN_lor, ← wrOps_app]
            exact hs
          have hlist2 : ∀ c, i + l.length ≤ c → (c = i + l.length ∨ ops.toList.length = i + l.length) → ∀ k, k < ops.toList.length → listed'.getD k false = decide (k < c) := by
            intro c hc1 hc2 k hk
            rw [hlist' k hk]
            by_cases hkl : k < i + l.length
            · rw [hall k hkl]; simp; omega
            · rw [hhi k (by omega)]; simp; omega
          exact ih (i + m) tl listed' (by rw [← htl, List.drop_drop]) (by omega) hcut hsz' (hlist2 _ (by omega) (.inl (by omega))) hst.holds hc fin
theorem drawR_ok (L : Laws S Q) (hm : S.P.follows .mixedOrders = true) (hi : InnMono S) : DrOk Q (drawR (S := S)) := by
  intro B hC I hI id ops e σ σ' a R h hc hR
  unfold drawR at hc
  obtain ⟨hea, hc⟩ := can_guard hc
  rw [forceL_eq, forceN_eq] at hc
  refine wp_region_any hm ?_
  obtain ⟨e1, d1, d2, d3, d4, d5⟩ := drew_env L h.inv
  rw [← d1]
  have hsize : ops.size = ops.toList.length := by simp
  have st : Stp Q e σ 0 a e1 σ a := ⟨d3.lb _ (fun a _ hu => d5 a hu), ⟨d2, d4.trans h.ob, fun i hi => h.nx i (d5 i hi), h.n, h.df, fun s => d3.holdX _ (h.sl s)⟩, Same.refl _ _, Nat.le_refl _, rfl, [], rfl, fun _ _ => rfl⟩
  have := seg_ok L hi hC hI (R := R) hea ops.toList.length 0 ops.toList (Array.replicate ops.size false) (by simp) (Nat.zero_le _) (fun m _ _ j hj => by omega) (by simp) (fun k hk => by
    have hks : k < ops.size := by omega
    simp [hks]) st.holds hc fun e' a' st' => hR e' a' ?_
  · rw [← hsize] at this; exact this
  · have h5 := st.trans st'
    refine ⟨h5.lb, h5.holds, fun s hs => h5.same s ?_, h5.nx, h5.n, h5.lg⟩
    rw [bitN_lor, bitN_zero, Bool.false_or]
    exact hs
end
end Go.Proofs.Ytheemkehedmlfaa.E
