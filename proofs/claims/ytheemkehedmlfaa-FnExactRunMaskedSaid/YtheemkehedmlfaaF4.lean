import Derived.Test.YtheemkehedmlfaaF3
set_option linter.unusedVariables false
set_option linter.unusedSimpArgs false
namespace Go.Proofs.Ytheemkehedmlfaa.E
open Go
section
variable {S : Sig} {Q : Kind S}
def ltO (b : Nat) : SO S.T → Prop
  | .ext => True
  | .var _ cs => ∀ x, x ∈ cs → ltC b x
  | .row _ d _ => ltD b d
  | .deep _ _ _ d sv _ _ => ltD b d ∧ sv < b
  | .mp _ _ => True
theorem hold_cut {e : Env S.T} {b : Nat} {v : Value} {c : SC S.T} (h : hold Q e v c) (hl : ltC b c) : hold Q { e with U := fun i => e.U i ∧ i < b } v c := by
  cases c with
  | rd t d l => exact ⟨fun p hp => ⟨⟨(h.1 p hp).1, (hl p hp).1⟩, ⟨(h.1 p hp).2, (hl p hp).2⟩⟩, h.2⟩
  | elr t d x o => exact ⟨fun p hp => ⟨⟨(h.1 p hp).1, (hl p hp).1⟩, ⟨(h.1 p hp).2, (hl p hp).2⟩⟩, h.2⟩
  | fn f l => exact ⟨fun i hi => ⟨h.1 i hi, hl i hi⟩, h.2⟩
  | row i => exact ⟨⟨h.1, hl⟩, h.2⟩
  | cut i n => exact ⟨⟨h.1, hl⟩, h.2⟩
  | ptr i n => exact ⟨⟨h.1, hl⟩, h.2⟩
  | elt i t n o => exact ⟨⟨h.1, hl⟩, h.2⟩
  | sub i sv j => exact ⟨⟨h.1, hl.1⟩, ⟨h.2.1, hl.2⟩, h.2.2⟩
  | sel i sv j k o => exact ⟨⟨h.1, hl.1⟩, ⟨h.2.1, hl.2⟩, h.2.2⟩
  | mp i => exact ⟨⟨h.1, hl⟩, h.2⟩
  | tail i t n => exact ⟨⟨h.1, hl⟩, h.2⟩
  | _ => exact h
theorem lt_obj {e : Env S.T} {b : Nat} (hb : ∀ i, e.U i → i < b) {i : Nat} {so : SO S.T} (h : objHold Q e i so) : ltO b so := by
  cases so with
  | ext => trivial
  | var t cs =>
    obtain ⟨g, vs, _, _, _, hc⟩ := h
    exact lt_holds hb hc
  | row t d l => exact fun p hp => ⟨hb _ (h.1 p hp).1, hb _ (h.1 p hp).2⟩
  | deep t c te d sv l hh => exact ⟨fun p hp => ⟨hb _ (h.2.2.1 p hp).1, hb _ (h.2.2.1 p hp).2⟩, hb _ h.2.2.2.1⟩
  | mp k l => trivial
theorem look_keys {α : Type} {l : List (Nat × α)} {j : Nat} {x : α} (h : (j, x) ∈ l) : j ∈ l.map (·.1) := List.mem_map.2 ⟨(j, x), h, rfl⟩
theorem matX_snd {T : Tys} {R : Type} : ∀ {c : TX} {x : SX T} {r : R} {v : c.env T R}, matX c x r = some v → (instX c v).2 = r
  | .c c, .v (.c y), r, v, h => (matC_ok h).1
  | .agg xs, .v (.agg ys), r, v, h => by
    have key : ∀ {l : List TC} {xs : List (SC T)} {r : R} {v : envC T l R}, matCs l xs r = some v → (instCs l v).2 = r := by
      intro l
      induction l with
      | nil => intro xs r v h; cases xs <;> cases h; rfl
      | cons c cs ih =>
        intro xs r v h
        cases xs with
        | nil => cases h
        | cons x xs =>
          obtain ⟨r1, h1, h2⟩ := Option.bind_eq_some_iff.1 h
          show (instCs cs (instC c v).2).2 = r
          rw [(matC_ok h2).1]
          exact ih h1
    exact key h
  | .c _, .v (.agg _), r, v, h => by cases h
  | .c _, .tup _, r, v, h => by cases h
  | .agg _, .v (.c _), r, v, h => by cases h
  | .agg _, .tup _, r, v, h => by cases h
theorem matS_snd {b : Nat} {ids : List Nat} {σ : St S.T} {R' : Type} (l : List (Nat × TX)) {r : R'} {v : envS S.T l R'} (h : matS b ids σ l r = some v) : (instS l v).2 = r := by
  induction l with
  | nil => cases h; rfl
  | cons q l ih =>
    obtain ⟨s0, c0⟩ := q
    have gen : ∀ {c0 : TX} {v : c0.env S.T (envS S.T l R')}, ((matS b ids σ l r).bind fun r => (renX b ids σ.ob (σ.get s0)).bind fun x => matX c0 x r) = some v → (instS l (instX c0 v).2).2 = r := by
      intro c0 v h
      obtain ⟨r1, h1, h⟩ := Option.bind_eq_some_iff.1 h
      obtain ⟨x, h2, h⟩ := Option.bind_eq_some_iff.1 h
      rw [matX_snd h]
      exact ih h1
    cases c0 with
    | agg c => exact gen h
    | c c =>
      cases c with
      | un => exact ih (show matS b ids σ l r = some v from h)
      | _ => exact gen h
theorem canon_ok (L : Laws S Q) {b W : Nat} {pins : List Nat} {pr : List (Nat × Option TypeId)} {lg : List Nat} {tm : Tm} {σ1 σ0 : St S.T} {v : tm.env S.T} {e : Env S.T} {a : Act} (hc : canonM b pins pr lg tm σ1 = some v) (h : Holds Q e σ1 a) (hb : b ≤ σ1.nx)
    (hob : ∀ i, i < b → i ∉ lg ++ σ1.lg → i ∉ keysM tm.ob → σ1.ob i = σ0.ob i) (hdom : ∀ i s so, σ0.ob i = some (s, so) → i < b ∧ s < b ∧ ltO b so) (hsl : ∀ s, bitN W s = false → holdX Q e (a.tmps.getD s undef) (σ0.sl s) ∧ ltX b (σ0.sl s)) (hn : σ1.n = σ0.n) :
    ∃ e2, e2.w = e.w ∧ Lb Q b e e2 ∧ Holds Q e2 (inst b W σ0 tm v) a := by
  unfold canonM at hc
  obtain ⟨hb0, hc⟩ := bif_some hc
  simp only [Bool.and_eq_true] at hb0
  have hbn := blt_lt hb0.1
  have hb0 := blt_lt hb0.2
  obtain ⟨σ, hp, hc⟩ := Option.bind_eq_some_iff.1 hc
  obtain ⟨e1, P⟩ := promA_ok L (fun σ => ⟨_, _, _, _, rfl⟩) h hp
  simp only at hc
  generalize hids : closeN b pins σ.ob 2 (addN [] (dropP b pins σ.ob (carried σ tm.sl ++ rootsO b σ.ob tm.ob))) = ids at hc
  obtain ⟨hk, hc⟩ := bif_some hc
  simp only [Bool.and_eq_true] at hk
  obtain ⟨⟨⟨⟨⟨hnd, hle⟩, _⟩, hos⟩, hoi⟩, hlog⟩ := hk
  have hle := ble_le hle
  obtain ⟨r, ho, hs⟩ := Option.bind_eq_some_iff.1 hc
  let σ2 := inst b W σ0 tm v
  let e2 : Env S.T := { w := e1.w, β := fun j => e1.β (srcOf b ids j), ok := fun j => e1.ok (srcOf b ids j), ob := σ2.ob, U := fun j => (j < b ∧ e1.U j) ∨ (b ≤ j ∧ j < tm.nx) }
  have R : Ren b ids e1 e2 := ⟨rfl, fun _ => rfl, fun _ => rfl, fun j hj hu => .inl ⟨hj, hu⟩, fun j hj => .inr ⟨by omega, by omega⟩⟩
  have hob1 : e1.ob = σ.ob := P.holds.ob
  rw [← hob1] at ho
  have ms0 : (instS tm.sl v).2 = r := matS_snd _ hs
  rw [show r = (instS tm.sl v).2 from ms0.symm] at ho
  have hlogb : ∀ i, i < b → i ∉ keysM tm.ob → σ.ob i = σ0.ob i := by
    intro i hi hk
    obtain ⟨l, hl1, hl2⟩ := P.lg
    have hnot : i ∉ lg ++ σ.lg := by
      intro hin
      have := List.all_eq_true.1 hlog i hin
      rw [blt_iff.2 hi] at this
      exact hk (hasN_iff.1 this)
    rw [hl1] at hnot
    simp only [List.mem_append, not_or] at hnot
    rw [hl2 i (Nat.lt_of_lt_of_le hi hb) hnot.2.1]
    exact hob i hi (by simp only [List.mem_append, not_or]; exact ⟨hnot.1, hnot.2.2⟩) hk
  have hob2 : ∀ j, σ2.ob j = match lookL j (instOs tm.ob (instS tm.sl v).2).1 with | some (some so) => some (b, so) | some none => none | none => σ0.ob j := by
    intro j
    show (inst b W σ0 tm v).ob j = _
    unfold inst
    simp only
    cases lookL j (instOs tm.ob (instS tm.sl v).2).1 with
    | none => rfl
    | some x => cases x <;> rfl
  have RD : RenD b ids e1 e2 := by
    intro j s t c te d sv l hh hj
    have hj : σ2.ob j = some (s, .deep t c te d sv l hh) := hj
    rw [hob2] at hj
    cases hl : lookL j (instOs tm.ob (instS tm.sl v).2).1 with
    | some o =>
      rw [hl] at hj
      cases o with
      | none => cases hj
      | some so' =>
        cases hj
        obtain ⟨s0, d0, sv0, l1, h1, q1, q2⟩ := matOs_deep ho _ _ _ _ _ _ _ _ hl
        exact ⟨s0, d0, sv0, l1, h1, q1, q2⟩
    | none =>
      rw [hl] at hj
      have hk := instOs_keys hl
      obtain ⟨g1, g2, g3⟩ := hdom j s _ hj
      refine ⟨s, d, sv, l, hh, ?_, .inl (renV_lt g3.2).symm⟩
      rw [src_lo g1]
      show e1.ob j = _
      rw [hob1, hlogb j g1 hk]
      exact hj
  obtain ⟨ms1, ms2⟩ := matS_ok L R RD hob1 P.holds.sl hs
  obtain ⟨mo1, mo2⟩ := matOs_ok L R RD ho
  have hobj : ∀ j s so, σ2.ob j = some (s, so) → (s = b ∧ (∃ c, (j, c) ∈ tm.ob ∧ isDead c = false) ∧ FromO Q b ids e1 e2 j so) ∨ (j ∉ keysM tm.ob ∧ j < b ∧ s < b ∧ ltO b so ∧ e1.ob j = some (s, so)) := by
    intro j s so hj
    rw [hob2] at hj
    cases hl : lookL j (instOs tm.ob (instS tm.sl v).2).1 with
    | some o =>
      rw [hl] at hj
      cases o with
      | none => cases hj
      | some so' =>
        cases hj
        obtain ⟨⟨c, hc1, hc2⟩, g3⟩ := mo2 j _ hl
        exact .inl ⟨rfl, ⟨c, hc1, hc2.resolve_left (by simp)⟩, g3 _ rfl⟩
    | none =>
      rw [hl] at hj
      have hk := instOs_keys hl
      obtain ⟨g1, g2, g3⟩ := hdom j s so hj
      exact .inr ⟨hk, g1, g2, g3, by rw [hob1, hlogb j g1 hk]; exact hj⟩
  have I1 := P.holds.inv
  have hsrc : ∀ j s so, σ2.ob j = some (s, so) → ∃ s' so', lookB (srcOf b ids j) e1.ob = some (s', so') ∧ (so' = .ext ↔ so = .ext) := by
    intro j s so hj
    rcases hobj j s so hj with ⟨_, _, s', so', g1, g2, _⟩ | ⟨_, g1, _, _, g2⟩
    · exact ⟨s', so', g1, g2⟩
    · exact ⟨s, so, by rw [src_lo g1]; exact g2, Iff.rfl⟩
  have hinj : ∀ i j s so s' so', σ2.ob i = some (s, so) → σ2.ob j = some (s', so') → i ≠ j → srcOf b ids i ≠ srcOf b ids j := by
    have lohi : ∀ i k s so, σ2.ob i = some (s, so) → i < b → k < ids.length → ids.getD k 0 ≠ i := by
      intro i k s so hi hib hk he
      have hmem : i ∈ ids := by
        rw [← he, List.getD_eq_getElem?_getD, List.getElem?_eq_getElem hk]
        exact List.getElem_mem hk
      have h1 := List.all_eq_true.1 hoi i hmem
      simp only [Bool.and_eq_true] at h1
      rw [blt_iff.2 hib] at h1
      have h2 := hasN_iff.1 h1.2
      rcases hobj i s so hi with ⟨_, ⟨c, hc1, hc2⟩, _⟩ | ⟨g, _⟩
      · have h3 := List.all_eq_true.1 hos _ hc1
        rw [blt_iff.2 hib, hc2, hasN_iff.2 hmem] at h3
        cases h3
      · exact g h2
    have hik : ∀ i s so, σ2.ob i = some (s, so) → ¬ i < b → ∃ k, i = b + k ∧ k < ids.length := by
      intro i s so hi hib
      rcases hobj i s so hi with ⟨_, ⟨c, hc1, hc2⟩, _⟩ | ⟨_, g, _⟩
      · have h3 := List.all_eq_true.1 hos _ hc1
        rw [blt_no hib] at h3
        exact ⟨i - b, by omega, blt_lt h3⟩
      · exact absurd g hib
    intro i j s so s' so' hi hj hne
    by_cases hib : i < b <;> by_cases hjb : j < b
    · rw [src_lo hib, src_lo hjb]; exact hne
    · obtain ⟨k, rfl, hk⟩ := hik j s' so' hj hjb
      rw [src_lo hib, src_hi]
      exact fun e1 => lohi i k s so hi hib hk e1.symm
    · obtain ⟨k, rfl, hk⟩ := hik i s so hi hib
      rw [src_lo hjb, src_hi]
      exact lohi j k s' so' hj hjb hk
    · obtain ⟨k, rfl, hk⟩ := hik i s so hi hib
      obtain ⟨k', rfl, hk'⟩ := hik j s' so' hj hjb
      rw [src_hi, src_hi]
      intro he
      have h1 : ids[k]? = some (ids.getD k 0) := by rw [List.getD_eq_getElem?_getD, List.getElem?_eq_getElem hk]; rfl
      have h2 : ids[k']? = some (ids.getD k 0) := by rw [he, List.getD_eq_getElem?_getD, List.getElem?_eq_getElem hk']; rfl
      exact hne (by rw [nodup_inj hnd h1 h2])
  have hH : ∀ u c, ltC b c → hold Q e1 u c → hold Q e2 u c := by
    intro u c hl hu
    refine hold_step L (e := { e1 with U := fun i => e1.U i ∧ i < b }) (e' := e2) ?_ ?_ ?_ ?_ (hold_cut hu hl)
    · intro i hi
      show e1.β (srcOf b ids i) = e1.β i
      rw [src_lo hi.2]
    · exact fun i hi => .inl ⟨hi.2, hi.1⟩
    · intro i s so hi hs hl
      rcases hobj i s so hl with ⟨g, _⟩ | ⟨_, g1, _, _, g2⟩
      · exact absurd hs.2 (by omega)
      · refine ⟨⟨so, g2⟩, fun k hk => ?_, fun k hk => rfl⟩
        show e1.ok (srcOf b ids i) k
        rw [src_lo g1]
        exact hk
    · intro i s t c te d sv l hh hi hsv ho2
      obtain ⟨s0, d0, sv0, l0, h0, q1, q2⟩ := RD _ _ _ _ _ _ _ _ _ ho2
      rw [src_lo hi.2] at q1
      have q3 : sv0 = sv := by
        rcases q2 with q2 | q2
        · by_cases hsb : sv0 < b
          · rw [q2, renV_lt hsb]
          · rw [renV_ge hsb] at q2
            have := hsv.2
            omega
        · have := hsv.2
          omega
      subst q3
      exact ⟨⟨s0, d0, l0, h0, q1⟩, keepH_of fun _ _ => rfl⟩
  have hs0 : srcOf b ids 0 = 0 := src_lo hb0
  have hlb : Lb Q b e1 e2 := by
    refine ⟨hH, fun i hi hu => .inl ⟨hi, hu⟩, rfl, rfl, rfl, Nat.le_refl _, fun _ _ _ => rfl, ?_, ?_, fun a ha hu => hu.elim (fun h => h.2) fun h => by omega⟩
    · rintro k ⟨j, s, so, hj, hne, hk⟩
      obtain ⟨s', so', g1, g2⟩ := hsrc j s so hj
      exact .inl ⟨_, s', so', g1, fun e0 => hne (g2.1 e0), hk⟩
    · intro k hk
      have hk : e1.ok (srcOf b ids 0) k := hk
      rw [hs0] at hk
      exact hk
  have hinv : Inv Q e2 := by
    refine ⟨?_, fun i => I1.one _, .inl ⟨hb0, I1.zero⟩, ?_, ?_, ?_⟩
    · intro j s so hj
      rcases hobj j s so hj with ⟨rfl, ⟨c, hc1, hc2⟩, s', so', g1, g2, g3⟩ | ⟨_, g1, g2, g3, g4⟩
      · obtain ⟨hu, _, ho1⟩ := I1.obj _ s' so' g1
        refine ⟨?_, .inr ⟨Nat.le_refl _, hbn⟩, g3 ho1⟩
        by_cases hjb : j < s
        · rw [src_lo hjb] at hu
          exact .inl ⟨hjb, hu⟩
        · have h3 := List.all_eq_true.1 hos _ hc1
          rw [blt_no hjb] at h3
          have := blt_lt h3
          exact .inr ⟨by omega, by omega⟩
      · obtain ⟨hu, hsu, ho1⟩ := I1.obj j s so g4
        refine ⟨.inl ⟨g1, hu⟩, .inl ⟨g2, hsu⟩, ?_⟩
        have hβ : e2.β j = e1.β j := by show e1.β (srcOf b ids j) = _; rw [src_lo g1]
        have hok : e2.ok j = e1.ok j := by show e1.ok (srcOf b ids j) = _; rw [src_lo g1]
        have hval : ∀ d : Dp, ltD b d → valid e2.ob d = true → valid e1.ob d = true := by
          intro d g3 hv
          rw [valid_iff] at hv ⊢
          intro p hp
          obtain ⟨so2, h5⟩ := hv p hp
          rcases hobj _ _ _ h5 with ⟨g, _⟩ | ⟨_, _, _, _, g6⟩
          · have := (g3 p hp).2; omega
          · exact ⟨_, g6⟩
        have hFd : ∀ d : Dp, ltD b d → ∀ k, e1.Fd d k → e2.Fd d k := by
          rintro d g3 k ⟨p, hp, hk⟩
          refine ⟨p, hp, ?_⟩
          show e1.ok (srcOf b ids p.1) k
          rw [src_lo (g3 p hp).1]
          exact hk
        cases so with
        | ext => trivial
        | var t cs =>
          obtain ⟨g, vs, h1, h2, h3, h4⟩ := ho1
          refine ⟨g, vs, hβ.trans h1, by rw [hok]; exact h2, h3, ?_⟩
          clear hj g4 h3
          induction h4 with
          | nil => exact .nil
          | cons a _ ih => exact .cons (hH _ _ (g3 _ List.mem_cons_self) a) (ih fun x hx => g3 x (List.mem_cons_of_mem _ hx))
        | row t d l =>
          obtain ⟨h1, h2, cs, h3, h4⟩ := ho1
          refine ⟨fun p hp => ⟨.inl ⟨(g3 p hp).1, (h1 p hp).1⟩, .inl ⟨(g3 p hp).2, (h1 p hp).2⟩⟩, by rw [hβ, hok]; exact h2, cs, by rw [hβ]; exact h3, fun hv => ?_⟩
          rw [hβ, hok]
          refine reps_imp (fun x c hx => L.mono _ _ _ _ _ _ ?_ hx) (h4 (hval d g3 hv))
          rintro k (hk | hk)
          · exact .inl hk
          · exact .inr (hFd d g3 k hk)
        | deep t c te d sv l hh =>
          obtain ⟨g3, g3s⟩ := g3
          obtain ⟨hx, hf, h1, hsv, h2, cs, h3, B, R0, hB, hBd, hR, h4⟩ := ho1
          refine ⟨hx, hf, fun p hp => ⟨.inl ⟨(g3 p hp).1, (h1 p hp).1⟩, .inl ⟨(g3 p hp).2, (h1 p hp).2⟩⟩, .inl ⟨g3s, hsv⟩, by rw [hβ, hok]; exact h2, cs, by rw [hβ]; exact h3, B, R0, by rw [hβ, hok]; exact hB, hBd, by rw [hβ, hok]; exact hR, fun hv n x hn => ?_⟩
          obtain ⟨q1, q2⟩ := h4 (hval d g3 hv) n x hn
          exact ⟨q1.move L fun k hk => ⟨hk.imp id (hFd d g3 k), rfl⟩, q2⟩
        | mp kk l =>
          obtain ⟨g, es, clock, h1, h2, h3, h4⟩ := ho1
          exact ⟨g, es, clock, hβ.trans h1, by rw [hok]; exact h2, h3, h4⟩
    · intro s so hj
      obtain ⟨s', so', g1, g2⟩ := hsrc 0 s so hj
      rw [hs0] at g1
      exact g2.1 (I1.z0 s' so' g1)
    · intro j s so hj k hk
      obtain ⟨s', so', g1, g2⟩ := hsrc j s so hj
      exact I1.lt _ s' so' g1 k hk
    · intro i j s s' so so' hi hj hne k hk hk'
      obtain ⟨s1, so1, g1, _⟩ := hsrc i s so hi
      obtain ⟨s2, so2, g2, _⟩ := hsrc j s' so' hj
      exact I1.dis _ _ s1 s2 so1 so2 g1 g2 (hinj i j s so s' so' hi hj hne) k hk hk'
  refine ⟨e2, P.w, (P.le.lb b fun a ha hu => (P.ub a hu).elim id fun h => by omega).trans hlb, hinv, rfl, ?_, ?_, h.df, fun s => ?_⟩
  · rintro i (hi | hi)
    · show i < tm.nx
      omega
    · exact hi.2
  · show _ = σ0.n
    rw [← hn]
    exact h.n
  · have hsl2 : σ2.get s = match lookL s (instS tm.sl v).1 with | some x => x | none => bif bitN W s then .v (.c .un) else σ0.sl s := by
      show (inst b W σ0 tm v).sl s = _
      unfold inst
      simp only
      cases lookL s (instS tm.sl v).1 <;> rfl
    show holdX Q e2 _ (σ2.get s)
    rw [hsl2]
    cases hl : lookL s (instS tm.sl v).1 with
    | some x => exact ms2 s x hl
    | none =>
      simp only
      cases hw : bitN W s with
      | true => trivial
      | false =>
        obtain ⟨g1, g2⟩ := hsl s hw
        exact hlb.holdX g2 (P.le.holdX _ g1)
end
end Go.Proofs.Ytheemkehedmlfaa.E
