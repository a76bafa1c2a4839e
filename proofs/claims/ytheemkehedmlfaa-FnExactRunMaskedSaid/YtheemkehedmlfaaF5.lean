import Derived.Test.YtheemkehedmlfaaF4
import Derived.LoopN
set_option linter.unusedVariables false
set_option linter.unusedSimpArgs false
namespace Go.Proofs.Ytheemkehedmlfaa.E
open Go
section
variable {S : Sig} (Q : Kind S)
def Fin (e : Env S.T) (σ : St S.T) (W : Nat) (a : Act) (p : Ex × St S.T) (ex : Exit) (a' : Act) (w' : World) : Prop := ex = p.1.out ∧ ∃ e', e'.w = w' ∧ Stp Q e σ W a e' p.2 a'
def SndW (f : St S.T → Tr (Ex × St S.T)) (W : Nat) (c : Code) : Prop := ∀ (e : Env S.T) (σ : St S.T) (a : Act) (p : Ex × St S.T), Holds Q e σ a → (f σ).Can p → c.wp S.P (Fin Q e σ W a p) a e.w
def Snd (f : St S.T → Tr (Ex × St S.T)) (c : Code) : Prop := SndW Q f (wr c) c
variable {Q}
theorem Holds.of {e : Env S.T} {σ σ' : St S.T} {a : Act} (h : Holds Q e σ a) (hob : σ'.ob = σ.ob) (hnx : σ.nx ≤ σ'.nx) (hn : σ'.n = σ.n) (hsl : σ'.sl = σ.sl) : Holds Q e σ' a :=
  ⟨h.inv, h.ob.trans hob.symm, fun i hi => Nat.lt_of_lt_of_le (h.nx i hi) hnx, h.n.trans hn.symm, h.df, fun s => by show holdX Q e _ (σ'.sl s); rw [hsl]; exact h.sl s⟩
theorem Ex.eq_ok : ∀ {a b : Ex}, Ex.eq a b = true → a = b
  | .norm, .norm, _ => rfl
  | .ret, .ret, _ => rfl
  | .exit i, .exit j, h => by rw [beq_eq' (show Nat.beq i j = true from h)]
  | .norm, .exit _, h => by cases h
  | .norm, .ret, h => by cases h
  | .exit _, .norm, h => by cases h
  | .exit _, .ret, h => by cases h
  | .ret, .norm, h => by cases h
  | .ret, .exit _, h => by cases h
theorem look_none {R' : Type} : ∀ {l : List (Nat × TO)} {v : envO S.T l R'} {j : Nat}, j ∉ keysM l → lookL j (instOs l v).1 = none
  | [], v, j, _ => rfl
  | (j0, c0) :: l, v, j, h => by
    simp only [keysM, List.map_cons, List.mem_cons, not_or] at h
    show (bif Nat.beq j j0 then some (instO c0 v).1 else lookL j (instOs l (instO c0 v).2).1) = none
    cases hb : Nat.beq j j0 with
    | true => exact absurd (beq_eq' hb) h.1
    | false => exact look_none h.2
theorem inst_ob {b W : Nat} {σ : St S.T} {tm : Tm} {v : tm.env S.T} {j : Nat} (h : j ∉ keysM tm.ob) : (inst b W σ tm v).ob j = σ.ob j := by
  unfold inst
  simp only
  rw [look_none h]
theorem Holds.dom {e : Env S.T} {σ : St S.T} {a : Act} (h : Holds Q e σ a) {b : Nat} (hb : σ.nx ≤ b) : ∀ i s so, σ.ob i = some (s, so) → i < b ∧ s < b ∧ ltO b so := by
  intro i s so hi
  rw [← h.ob] at hi
  obtain ⟨h1, h2, h3⟩ := h.inv.obj i s so hi
  exact ⟨Nat.lt_of_lt_of_le (h.nx i h1) hb, Nat.lt_of_lt_of_le (h.nx s h2) hb, lt_obj (fun k hk => Nat.lt_of_lt_of_le (h.nx k hk) hb) h3⟩
theorem canon_lt {b : Nat} {pins : List Nat} {pr : List (Nat × Option TypeId)} {lg : List Nat} {tm : Tm} {σ1 : St S.T} {v : tm.env S.T} (hc : canonM b pins pr lg tm σ1 = some v) : b < tm.nx := by
  unfold canonM at hc
  obtain ⟨hb0, _⟩ := bif_some hc
  simp only [Bool.and_eq_true] at hb0
  exact blt_lt hb0.1
theorem cut_one (L : Laws S Q) {b W : Nat} {o : OutD} {lg : List Nat} {σ σ1 : St S.T} {e e1 : Env S.T} {a a1 : Act} {v : o.tm.env S.T} (hc : canonM b o.pins o.pr lg o.tm σ1 = some v) (h : Holds Q e σ a) (hb : σ.nx ≤ b) (h1 : Holds Q e1 σ1 a1) (hl : Lb Q b e e1) (hs : Same W a a1) (hb1 : b ≤ σ1.nx) (hn : σ1.n = σ.n)
    (hob : ∀ i, i < b → i ∉ lg ++ σ1.lg → σ1.ob i = σ.ob i) : ∃ e2, e2.w = e1.w ∧ Stp Q e σ W a e2 { inst b W σ o.tm v with lg := keysM o.tm.ob ++ σ.lg } a1 := by
  obtain ⟨e2, g1, g2, g3⟩ := canon_ok L hc h1 hb1 (fun i hi hn _ => hob i hi hn) (h.dom hb) (W := W) (fun s hw => by
    rw [hs s hw]
    have hlt : ltX b (σ.sl s) := lt_holdX (fun i hi => Nat.lt_of_lt_of_le (h.nx i hi) hb) (h.sl s)
    exact ⟨hl.holdX hlt (h.sl s), hlt⟩) hn
  refine ⟨e2, g1, (hl.trans g2).mono hb, g3.of rfl (Nat.le_refl _) rfl rfl, hs, ?_, rfl, keysM o.tm.ob, rfl, fun i hi => inst_ob (W := W) hi⟩
  exact Nat.le_of_lt (Nat.lt_of_le_of_lt hb (canon_lt hc))
theorem cut_ok (L : Laws S Q) {b W : Nat} {lg : List Nat} {σ σ1 : St S.T} {e e1 : Env S.T} {a a1 : Act} {ex : Ex} (h : Holds Q e σ a) (hb : σ.nx ≤ b) (h1 : Holds Q e1 σ1 a1) (hl : Lb Q b e e1) (hs : Same W a a1) (hb1 : b ≤ σ1.nx) (hn : σ1.n = σ.n)
    (hob : ∀ i, i < b → i ∉ lg ++ σ1.lg → σ1.ob i = σ.ob i) : ∀ {outs : List OutD} {v : outE S.T outs}, cutK b lg outs (ex, σ1) = some v → Fin Q e σ W a (cutS b W σ outs v) ex.out a1 e1.w
  | [], v, hc => by cases hc
  | [o], v, hc => by
    obtain ⟨hx, hc⟩ := bif_some hc
    obtain ⟨e2, g1, g2⟩ := cut_one L hc h hb h1 hl hs hb1 hn hob
    refine ⟨?_, e2, g1, g2⟩
    have := Ex.eq_ok (show Ex.eq o.ex ex = true from hx)
    rw [← this]; rfl
  | o :: o' :: r, v, hc => by
    have hc : (bif Ex.eq o.ex ex then (canonM b o.pins o.pr lg o.tm σ1).map Sum.inl else (cutK b lg (o' :: r) (ex, σ1)).map Sum.inr) = some v := hc
    cases hx : Ex.eq o.ex ex with
    | true =>
      rw [hx] at hc
      obtain ⟨v', hc2, rfl⟩ := Option.map_eq_some_iff.1 hc
      obtain ⟨e2, g1, g2⟩ := cut_one L hc2 h hb h1 hl hs hb1 hn hob
      refine ⟨?_, e2, g1, g2⟩
      rw [← Ex.eq_ok hx]; rfl
    | false =>
      rw [hx] at hc
      obtain ⟨v', hc2, rfl⟩ := Option.map_eq_some_iff.1 hc
      show Fin Q e σ W a (cutS b W σ (o' :: r) v') ex.out a1 e1.w
      exact cut_ok L h hb h1 hl hs hb1 hn hob hc2
theorem cutT_ok {b W : Nat} {σ : St S.T} {p : Ex × St S.T} : ∀ {outs : List OutD} {v : outE S.T outs}, (cutT b W σ outs v).Can p → p = cutS b W σ outs v
  | [], v, h => nomatch v
  | [o], v, h => (can_ret h).symm
  | o :: o' :: r, v, h => by
    have h : (Tr.br (Sum.isLeft v) (.bind (Sum.getLeft? v) fun v => .ret (o.ex, { inst b W σ o.tm v with lg := keysM o.tm.ob ++ σ.lg })) (.bind (Sum.getRight? v) fun v => cutT b W σ (o' :: r) v)).Can p := h
    cases v with
    | inl v =>
      rcases h with ⟨_, v', h1, h⟩ | ⟨h1, _⟩
      · cases h1
        exact (can_ret h).symm
      · cases h1
    | inr v =>
      rcases h with ⟨h1, _⟩ | ⟨_, v', h1, h⟩
      · cases h1
      · cases h1
        show p = cutS b W σ (o' :: r) v
        exact cutT_ok h
theorem joinIf_ok (L : Laws S Q) {f : St S.T → Tr (Ex × St S.T)} {W : Nat} {c : Code} (hf : SndW Q f W c) (d : Option JoinD) : SndW Q (joinIf d W f) W c := by
  intro e σ a p h hp
  cases d with
  | none => exact hf e σ a p h hp
  | some d =>
    unfold joinIf at hp
    obtain ⟨hb, hp⟩ := can_guard hp
    have hb := ble_le hb
    obtain ⟨v, hv, hp⟩ := hp
    have hp := cutT_ok hp
    subst hp
    obtain ⟨u, hu, hk⟩ := Tr.can_of_k hv
    have h' : Holds Q e { σ with nx := d.b, lg := [] } a := h.of rfl hb rfl rfl
    refine Code.wp_mono ?_ (hf e _ a u h' hu)
    rintro ex a' w' ⟨rfl, e', rfl, hs⟩
    obtain ⟨ue, us⟩ := u
    obtain ⟨l, hl1, hl2⟩ := hs.lg
    have hl1 : us.lg = l := hl1.trans (List.append_nil l)
    refine cut_ok L h hb hs.holds hs.lb hs.same hs.nx hs.n ?_ hk
    intro i hi hn
    refine hl2 i fun hin => hn ?_
    rw [List.mem_append]
    exact .inl (by show i ∈ us.lg; rw [hl1]; exact hin)
theorem matC_eq {T : Tys} {R : Type} {c : TC} {x : SC T} {r : R} {v : c.env T R} (h : matC c x r = some v) (hn : noUnC c = true) : instC c v = (x, r) := by
  obtain ⟨h1, h2, _⟩ := matC_ok h
  exact Prod.ext (h2 fun e => by subst e; cases hn) h1
theorem matCs_eq {T : Tys} {R : Type} : ∀ {l : List TC} {xs : List (SC T)} {r : R} {v : envC T l R}, matCs l xs r = some v → l.all noUnC = true → instCs l v = (xs, r)
  | [], [], r, v, h, _ => by cases h; rfl
  | c :: cs, x :: xs, r, v, h, hn => by
    simp only [List.all_cons, Bool.and_eq_true] at hn
    obtain ⟨r1, h1, h2⟩ := Option.bind_eq_some_iff.1 h
    have g1 := matCs_eq h1 hn.2
    have g2 := matC_eq h2 hn.1
    simp only [instCs, g2, g1]
  | [], _ :: _, r, v, h, _ => by cases h
  | _ :: _, [], r, v, h, _ => by cases h
theorem matX_eq {T : Tys} {R : Type} : ∀ {c : TX} {x : SX T} {r : R} {v : c.env T R}, matX c x r = some v → noUnX c = true → instX c v = (x, r)
  | .c c, .v (.c y), r, v, h, hn => by
    have h2 := matC_eq (show matC c y r = some v from h) hn
    simp only [instX, h2]
  | .agg xs, .v (.agg ys), r, v, h, hn => by
    have h2 := matCs_eq (show matCs xs ys r = some v from h) hn
    simp only [instX, h2]
  | .c _, .v (.agg _), r, v, h, _ => by cases h
  | .c _, .tup _, r, v, h, _ => by cases h
  | .agg _, .v (.c _), r, v, h, _ => by cases h
  | .agg _, .tup _, r, v, h, _ => by cases h
theorem matO_eq {T : Tys} {R : Type} {c : TO} {so : SO T} {r : R} {v : c.env T R} (h : matO c so r = some v) (hn : noUnO c = true) : instO c v = (some so, r) := by
  cases c with
  | dead => cases hn
  | ext =>
    cases so with
    | ext => cases h; rfl
    | var t cs => cases h
    | row t d l => cases h
    | deep t c te d sv l hh => cases h
    | mp k l => cases h
  | var t cs =>
    cases so with
    | ext => cases h
    | row t d l => cases h
    | deep t c te d sv l hh => cases h
    | mp k l => cases h
    | var t' xs =>
      have h2 : (bif Nat.beq t t' then matCs cs xs r else none) = some v := h
      obtain ⟨ht, h3⟩ := bif_some h2
      have ht := beq_eq' ht
      subst ht
      have h4 := matCs_eq h3 hn
      simp only [instO, h4]
  | row t d =>
    cases so with
    | ext => cases h
    | var t' xs => cases h
    | deep t c te d sv l hh => cases h
    | mp k l => cases h
    | row t' d' l =>
      simp only [matO] at h
      split at h
      · rename_i ht
        subst ht
        have h2 : (bif dpEq d d' then some (l, r) else none) = some v := h
        obtain ⟨hd, h3⟩ := bif_some h2
        have hd := dpEq_eq hd
        subst hd
        cases h3
        rfl
      · cases h
  | deep t c te d sv =>
    cases so with
    | ext => cases h
    | var t' xs => cases h
    | row t' d' l => cases h
    | deep t' c' te' d' sv' l hh =>
      cases hh with
      | some j => cases h
      | none =>
        simp only [matO] at h
        split at h
        · rename_i ht
          subst ht
          obtain ⟨hb, h3⟩ := bif_some h
          simp only [Bool.and_eq_true] at hb
          obtain ⟨⟨⟨hb1, hb2⟩, hb3⟩, hb4⟩ := hb
          have e1 := beq_eq' hb1
          have e2 := beq_eq' hb2
          have e3 := dpEq_eq hb3
          have e4 := beq_eq' hb4
          subst e1 e2 e3 e4
          cases h3
          rfl
        · cases h
    | mp k l => cases h
  | mp k =>
    cases so with
    | mp k' l =>
      obtain ⟨hk, h3⟩ := bif_some (show (bif kbeq k k' then some (l, r) else none) = some v from h)
      have hk := kbeq_eq hk
      subst hk
      cases h3
      rfl
    | _ => cases h
theorem matPS_eq {T : Tys} {R : Type} {σ : St T} : ∀ {l : List (Nat × TX)} {r : R} {v : envS T l R}, matPS σ l r = some v → (instS l v).2 = r ∧ ∀ s x, lookL s (instS l v).1 = some x → σ.sl s = x
  | [], r, v, h => by cases h; exact ⟨rfl, fun s x hx => by cases hx⟩
  | (s0, c) :: l, r, v, h => by
    obtain ⟨r1, h1, h2⟩ := Option.bind_eq_some_iff.1 h
    obtain ⟨hn, h3⟩ := bif_some h2
    obtain ⟨g1, g2⟩ := matPS_eq h1
    have h4 := matX_eq h3 hn
    have e1 : instS ((s0, c) :: l) v = ((s0, σ.sl s0) :: (instS l r1).1, (instS l r1).2) := by simp only [instS, h4]
    rw [e1]
    refine ⟨g1, fun s x hx => ?_⟩
    have hx : (bif Nat.beq s s0 then some (σ.sl s0) else lookL s (instS l r1).1) = some x := hx
    cases hb : Nat.beq s s0 with
    | true => rw [hb] at hx; cases hx; rw [beq_eq' hb]
    | false => rw [hb] at hx; exact g2 s x hx
theorem matPO_eq {T : Tys} {R : Type} {σ : St T} : ∀ {l : List (Nat × Nat × TO)} {r : R} {v : envQ T l R}, matPO σ l r = some v → (instQs l v).2 = r ∧ ∀ a o, lookL a (instQs l v).1 = some o → ∃ e, o = some e ∧ σ.ob a = some e
  | [], r, v, h => by cases h; exact ⟨rfl, fun s x hx => by cases hx⟩
  | (i, n, c) :: l, r, v, h => by
    obtain ⟨r1, h1, h2⟩ := Option.bind_eq_some_iff.1 h
    split at h2
    · rename_i s so ho
      obtain ⟨hn, h3⟩ := bif_some h2
      simp only [Bool.and_eq_true] at hn
      have hs := beq_eq' hn.1
      subst hs
      obtain ⟨g1, g2⟩ := matPO_eq h1
      have h4 := matO_eq h3 hn.2
      have e1 : instQs ((i, s, c) :: l) v = ((i, some (s, so)) :: (instQs l r1).1, (instQs l r1).2) := by simp only [instQs, h4, Option.map_some]
      rw [e1]
      refine ⟨g1, fun a o hx => ?_⟩
      have hx : (bif Nat.beq a i then some (some (s, so)) else lookL a (instQs l r1).1) = some o := hx
      cases hb : Nat.beq a i with
      | true => rw [hb] at hx; cases hx; rw [beq_eq' hb]; exact ⟨_, rfl, ho⟩
      | false => rw [hb] at hx; exact g2 a o hx
    · cases h2
theorem matP_ok {T : Tys} {σ : St T} {tm : TmP} {v : tm.env T} (h : matP tm σ = some v) : instP σ tm v = σ := by
  obtain ⟨hn, h⟩ := bif_some h
  have hn := beq_eq' hn
  obtain ⟨r, h1, h2⟩ := Option.bind_eq_some_iff.1 h
  obtain ⟨g1, g2⟩ := matPS_eq h2
  rw [show r = (instS tm.sl v).2 from g1.symm] at h1
  obtain ⟨g3, g4⟩ := matPO_eq h1
  have hs : (instP σ tm v).sl = σ.sl := by
    funext s
    unfold instP
    simp only
    cases hl : lookL s (instS tm.sl v).1 with
    | none => rfl
    | some x => exact (g2 s x hl).symm
  have ho : (instP σ tm v).ob = σ.ob := by
    funext a
    unfold instP
    simp only
    cases hl : lookL a (instQs tm.ob (instS tm.sl v).2).1 with
    | none => rfl
    | some x =>
      obtain ⟨e, rfl, he⟩ := g4 a x hl
      exact he.symm
  show St.mk (instP σ tm v).sl (instP σ tm v).ob σ.nx tm.n σ.lg = σ
  rw [hs, ho, ← hn]
theorem orcL_ok (L : Laws S Q) {run : St S.T → Tr (Ex × St S.T)} {body : Code} {W : Nat} (hrun : SndW Q run W body) {id : Nat} {d : LoopD} {lf : d.pm.env S.T → d.tm.env S.T → Option (outE S.T d.outs)}
    (hlf : ∀ σ p v r, lf p v = some r → ∃ n, iterL run id W d (instP σ d.pm p) n v = some r) : SndW Q (orcL W d lf) W (.block id (.loop body)) := by
  intro e σ a p h hp
  unfold orcL at hp
  obtain ⟨hb, hp⟩ := can_guard hp
  have hb := ble_le hb
  obtain ⟨par, hpar, hp⟩ := can_or hp
  obtain ⟨v, hv, hp⟩ := can_or hp
  obtain ⟨r, hr, hp⟩ := hp
  have hp := cutT_ok hp
  subst hp
  have hbt := canon_lt hv
  obtain ⟨n, hn⟩ := hlf σ par v r hr
  rw [matP_ok hpar] at hn
  have hout : ∀ {e1 : Env S.T} {a1 : Act} (s : Nat), Lb Q d.b e e1 → Same W a a1 → bitN W s = false → holdX Q e1 (a1.tmps.getD s undef) (σ.sl s) ∧ ltX d.b (σ.sl s) := by
    intro e1 a1 s hl hs hw
    rw [hs s hw]
    have hlt : ltX d.b (σ.sl s) := lt_holdX (fun i hi => Nat.lt_of_lt_of_le (h.nx i hi) hb) (h.sl s)
    exact ⟨hl.holdX hlt (h.sl s), hlt⟩
  obtain ⟨e2, g1, g2, g3⟩ := canon_ok L (σ0 := σ) (W := W) hv (h.of rfl hb rfl rfl) (Nat.le_refl _) (fun i _ _ _ => rfl) (h.dom hb) (fun s hw => hout s (Lb.refl _ e) (Same.refl _ a) hw) rfl
  rw [← g1]
  refine wp_block (wp_loop_rounds n ?_)
  have main : ∀ (n : Nat) (v : d.tm.env S.T) (ek : Env S.T) (ak : Act), Holds Q ek (inst d.b W σ d.tm v) ak → Lb Q d.b e ek → Same W a ak → iterL run id W d σ n v = some r →
      Code.rounds S.P body (Exit.inBlock id (Fin Q e σ W a (cutS d.b W σ d.outs r))) n ak ek.w := by
    intro n
    induction n with
    | zero => intro v ek ak _ _ _ hi; cases hi
    | succ n ih =>
      intro v ek ak hk hl hs hi
      rw [rounds_succ]
      obtain ⟨u, hu, hi⟩ := Tr.can_of_k (show (run (inst d.b W σ d.tm v)).k _ = some r from hi)
      refine Code.wp_mono ?_ (hrun ek _ ak u hk hu)
      rintro ex a1 w1 ⟨rfl, e1, rfl, st⟩
      obtain ⟨ue, us⟩ := u
      obtain ⟨l, hl1, hl2⟩ := st.lg
      have hl3 : ∀ i, i ∈ l → i ∈ us.lg := fun i hi => by
        have : us.lg = l := hl1.trans (List.append_nil l)
        rw [this]; exact hi
      have hlb : Lb Q d.b e e1 := hl.trans (st.lb.mono (Nat.le_of_lt hbt))
      have hsm : Same W a a1 := by
        intro s hw
        exact (st.same s hw).trans (hs s hw)
      have hnx : d.b ≤ us.nx := Nat.le_trans (Nat.le_of_lt hbt) st.nx
      have hcut : ∀ {ex : Ex}, cutK d.b (keysM d.tm.ob ++ us.lg) d.outs (ex, us) = some r → Fin Q e σ W a (cutS d.b W σ d.outs r) ex.out a1 e1.w := by
        intro ex hc
        refine cut_ok L h hb st.holds hlb hsm hnx st.n ?_ hc
        intro i hi hn
        simp only [List.mem_append, not_or] at hn
        rw [hl2 i (fun hin => hn.2 (hl3 i hin))]
        exact inst_ob (W := W) hn.1.1
      cases ue with
      | norm =>
        obtain ⟨v', hv', hi⟩ := Option.bind_eq_some_iff.1 hi
        obtain ⟨e3, k1, k2, k3⟩ := canon_ok L (σ0 := σ) (W := W) hv' st.holds hnx (fun i _ hn hk => by
          simp only [List.mem_append, not_or] at hn
          rw [hl2 i (fun hin => hn.2 (hl3 i hin))]
          exact inst_ob (W := W) hk) (h.dom hb) (fun s hw => hout s hlb hsm hw) st.n
        show Code.rounds S.P body _ n a1 e1.w
        rw [← k1]
        exact ih v' e3 a1 k3 (hlb.trans k2) hsm hi
      | ret => exact hcut hi
      | exit j =>
        have hi := hcut hi
        show Exit.inBlock id _ (.exit j) _ _
        simp only [Exit.inBlock]
        cases hj : Nat.beq j id with
        | true =>
          rw [hj] at hi
          rw [if_pos (beq_eq' hj)]
          exact hi
        | false =>
          rw [hj] at hi
          rw [if_neg (fun e1 => by rw [e1, Nat.beq_refl] at hj; cases hj)]
          exact hi
  exact main n v e2 a g3 g2 (Same.refl _ a) hn
variable (Q)
def okJ (J : Orc S) : Code → Prop
  | .seq a b => okJ J a ∧ okJ J b
  | .cond _ x y => okJ J x ∧ okJ J y
  | .block id body => match J id with
    | some f => Snd Q f (.block id body)
    | none => okJ J body
  | _ => True
def DOk (D : Array Oper → St S.T → Tr (St S.T)) : Prop := ∀ (id : Nat) (ops : Array Oper) (e : Env S.T) (σ σ' : St S.T) (a : Act) (R : Exit → Act → World → Prop), Holds Q e σ a → (D ops σ).Can σ' →
  (∀ e' a', Stp Q e σ (wrOps ops.toList) a e' σ' a' → R .normal a' e'.w) → (Code.region id ops true).wp S.P R a e.w
variable {Q}
theorem Holds.refine {e : Env S.T} {σ : St S.T} {a : Act} (h : Holds Q e σ a) {c : Operand} {b : Bool} (hb : σ.opd c = .v (.c (.bool b))) : Holds Q e (refine σ c b) a := by
  cases c with
  | tmp t => exact h.lit hb
  | _ => exact h
theorem refine_n (σ : St S.T) (c : Operand) (b : Bool) : (refine σ c b).n = σ.n := by cases c <;> rfl
theorem refine_nx (σ : St S.T) (c : Operand) (b : Bool) : (refine σ c b).nx = σ.nx := by cases c <;> rfl
theorem refine_ob (σ : St S.T) (c : Operand) (b : Bool) : (refine σ c b).ob = σ.ob := by cases c <;> rfl
theorem refine_lg (σ : St S.T) (c : Operand) (b : Bool) : (refine σ c b).lg = σ.lg := by cases c <;> rfl
theorem runC_ok (L : Laws S Q) {B : Tb S} (hC : ∀ f g, B.C f = some g → ConOk Q f g) {D : Array Oper → St S.T → Tr (St S.T)} (hD : DOk Q D) {I : Inl S} (hI : InlOk Q I) {f : FuncId} : ∀ (c : Code), okJ Q (B.J f) c → Snd Q (runC B D I f c) c := by
  intro c
  induction c with
  | skip =>
    intro _ e σ a p h hp
    have hp := can_ret hp
    subst hp
    exact wp_skip ⟨rfl, e, rfl, Stp.refl h _⟩
  | label l =>
    intro _ e σ a p h hp
    have hp := can_ret hp
    subst hp
    exact wp_label ⟨rfl, e, rfl, Stp.refl h _⟩
  | region id ops draw =>
    intro _
    refine joinIf_ok L ?_ _
    intro e σ a p h hp
    obtain ⟨σ', h1, hp⟩ := Tr.can_then hp
    have hp := can_ret hp
    subst hp
    cases draw with
    | true => exact hD id ops e σ σ' a _ h h1 fun e' a' st => ⟨rfl, e', rfl, st⟩
    | false => exact wp_region_list (runOps_ok L hC hI ops.toList h h1 fun e' a' st => ⟨rfl, e', rfl, st⟩)
  | seq x y ihx ihy =>
    intro hJ e σ a p h hp
    unfold runC at hp
    obtain ⟨q, hq, hp⟩ := Tr.can_then hp
    refine wp_seq (Code.wp_mono ?_ (ihx hJ.1 e σ a q h hq))
    rintro ex a' w' ⟨rfl, e', rfl, st⟩
    obtain ⟨qe, qs⟩ := q
    cases qe with
    | norm =>
      refine Code.wp_mono ?_ (ihy hJ.2 e' qs a' p st.holds hp)
      rintro ex a2 w2 ⟨h1, e2, h2, st2⟩
      exact ⟨h1, e2, h2, st.trans st2⟩
    | exit id =>
      have hp := can_ret hp
      subst hp
      exact ⟨rfl, e', rfl, st.l⟩
    | ret =>
      have hp := can_ret hp
      subst hp
      exact ⟨rfl, e', rfl, st.l⟩
  | cond c x y ihx ihy =>
    intro hJ
    refine joinIf_ok L ?_ _
    intro e σ a p h hp
    simp only at hp
    split at hp
    · rename_i b hb
      have hv := opd_ok h.sl c
      rw [hb] at hv
      have hv : a.eval c = .bool b := hv
      have hr := h.refine hb
      have fin : ∀ {W : Nat} {ex a2 w2}, Fin Q e (Go.Proofs.Ytheemkehedmlfaa.E.refine σ c b) W a p ex a2 w2 → Fin Q e σ W a p ex a2 w2 := by
        rintro W ex a2 w2 ⟨h1, e2, h2, st⟩
        refine ⟨h1, e2, h2, ?_⟩
        have h3 := st.lb; have h4 := st.nx; have h5 := st.n; have h6 := st.lg
        rw [refine_nx] at h3 h4
        rw [refine_n] at h5
        rw [refine_ob, refine_lg] at h6
        exact ⟨h3, st.holds, st.same, h4, h5, h6⟩
      rcases hp with ⟨rfl, hp⟩ | ⟨rfl, hp⟩
      · refine wp_cond_true hv (Code.wp_mono ?_ (ihx hJ.1 e _ a p hr hp))
        rintro ex a2 w2 hf
        obtain ⟨h1, e2, h2, st⟩ := fin hf
        exact ⟨h1, e2, h2, st.l⟩
      · refine wp_cond_false hv (Code.wp_mono ?_ (ihy hJ.2 e _ a p hr hp))
        rintro ex a2 w2 hf
        obtain ⟨h1, e2, h2, st⟩ := fin hf
        exact ⟨h1, e2, h2, st.r⟩
    · exact hp.elim
  | block id body ih =>
    intro hJ e σ a p h hp
    unfold runC at hp
    unfold okJ at hJ
    split at hp
    · rename_i f hf
      rw [hf] at hJ
      exact hJ e σ a p h hp
    · rename_i hf
      rw [hf] at hJ
      obtain ⟨q, hq, hp⟩ := Tr.can_then hp
      refine wp_block (Code.wp_mono ?_ (ih hJ e σ a q h hq))
      rintro ex a' w' ⟨rfl, e', rfl, st⟩
      obtain ⟨qe, qs⟩ := q
      cases qe with
      | norm =>
        have hp := can_ret hp
        subst hp
        exact ⟨rfl, e', rfl, st⟩
      | ret =>
        have hp := can_ret hp
        subst hp
        exact ⟨rfl, e', rfl, st⟩
      | exit j =>
        show Exit.inBlock id _ (.exit j) _ _
        simp only [Exit.inBlock]
        cases hb : Nat.beq j id with
        | true =>
          simp only [hb, cond_true] at hp
          have hp := can_ret hp
          subst hp
          rw [if_pos (beq_eq' hb)]
          exact ⟨rfl, e', rfl, st⟩
        | false =>
          simp only [hb, cond_false] at hp
          have hp := can_ret hp
          subst hp
          rw [if_neg (fun e1 => by rw [e1, Nat.beq_refl] at hb; cases hb)]
          exact ⟨rfl, e', rfl, st⟩
  | exit id =>
    intro _ e σ a p h hp
    have hp := can_ret hp
    subst hp
    exact wp_exit ⟨rfl, e, rfl, Stp.refl h _⟩
  | ret =>
    intro _ e σ a p h hp
    have hp := can_ret hp
    subst hp
    exact wp_ret ⟨rfl, e, rfl, Stp.refl h _⟩
  | _ => intro _ e σ a p h hp; exact hp.elim
end
end Go.Proofs.Ytheemkehedmlfaa.E
