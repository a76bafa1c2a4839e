import Derived.Test.YtheemkehedmlfaaF2
set_option linter.unusedVariables false
set_option linter.unusedSimpArgs false
namespace Go.Proofs.Ytheemkehedmlfaa.E
open Go
section
variable {S : Sig} {Q : Kind S}
theorem Holds.slot {e e' : Env S.T} {σ : St S.T} {a : Act} (h : Holds Q e σ a) (L : Le Q e e') (I : Inv Q e') {s : Nat} {x : SX S.T} (hv : holdX Q e' (a.tmps.getD s undef) x) {ob : Ob S.T} (hob : e'.ob = ob) {nx : Nat} (hnx : ∀ i, e'.U i → i < nx) (lg : List Nat) :
    Holds Q e' { σ.put s x with ob := ob, nx := nx, lg := lg } a := by
  refine ⟨I, hob, hnx, h.n, h.df, fun s' => ?_⟩
  have := putO_get (σ := σ) (dst := some s) (x := x) (s := s')
  show holdX Q e' _ ((σ.putO (some s) x).get s')
  rw [this]
  simp only
  split
  · rename_i hs; subst hs; exact hv
  · exact L.holdX _ (h.sl s')
theorem rebase (L : Laws S Q) {e : Env S.T} (I : Inv Q e) {fr : Nat} (hfr : ¬ e.U fr) {t : TypeId} {v : Value} {id : Option Nat} {d : Dp} {l : List (S.T t)} {cs : List Value} (hb : Base Q e t v id d l cs) (hvd : valid e.ob d = true) (hni : ∀ i, id = some i → noId i d = true) (hone : v.oneCell' = true) :
    ∃ e', e'.w = e.w ∧ Inv Q e' ∧ Le Q e e' ∧ e'.ob = putB fr (fr, .row t d l) (id.toList.foldl (fun ob i => delB i ob) e.ob) ∧ (∀ a, e'.U a → e.U a ∨ a = fr) ∧ e'.β fr = v ∧ e'.U fr := by
  let F : Nat → Prop := fun k => ∃ i, id = some i ∧ e.ok i k
  let ob' : Ob S.T := putB fr (fr, .row t d l) (id.toList.foldl (fun ob i => delB i ob) e.ob)
  let e' : Env S.T := { w := e.w, β := fun a => if a = fr then v else e.β a, ok := fun a => if a = fr then F else e.ok a, ob := ob', U := fun a => e.U a ∨ a = fr }
  have hob' : ∀ a x, lookB a ob' = some x → (a = fr ∧ x = (fr, .row t d l)) ∨ (a ≠ fr ∧ id ≠ some a ∧ lookB a e.ob = some x) := by
    intro a x hx
    rcases lookB_put hx with h | ⟨hne, h⟩
    · exact .inl h
    · refine .inr ⟨hne, ?_⟩
      cases id with
      | none => exact ⟨by simp, h⟩
      | some i =>
        obtain ⟨h8, h9⟩ := lookB_del h
        exact ⟨by simpa using fun e1 => h8 e1.symm, h9⟩
  obtain ⟨g1, g2⟩ := event L I e.w v F ob' (.row t d l) id fr fr hfr (.inl rfl) hb.ids hob' (by simp)
    (fun k ⟨i, hi, hk⟩ => by
      obtain ⟨s3, so3, h9, _⟩ := hb.ids i hi
      exact ⟨I.lt _ _ _ h9 k hk, .inl ⟨i, hi, hk⟩⟩)
    rfl rfl rfl (Nat.le_refl _) (fun _ _ _ => rfl) hone e' rfl
    (fun hH => by
      have hβ : e'.β fr = v := by simp [e']
      have hok : e'.ok fr = F := by simp [e']
      have hFd : ∀ k, e.Fd d k → e'.Fd d k := by
        rintro k ⟨x, hx, hk⟩
        refine ⟨x, hx, ?_⟩
        show (if x.1 = fr then F else e.ok x.1) k
        rw [if_neg (show ¬ x.1 = fr from fun e1 => hfr (e1 ▸ (hb.dl x hx).1))]
        exact hk
      refine ⟨hb.dl.mono (fun a ha => .inl ha), fun k hk => ?_, cs, by rw [hβ]; exact hb.own, fun _ => ?_⟩
      · rw [hβ] at hk
        rw [hok]
        exact hb.blk k hk
      · rw [hok, hβ]
        refine reps_imp (fun x c hx => L.mono _ _ _ _ _ _ ?_ hx) hb.rep
        rintro k (hk | hk)
        · exact .inl hk
        · exact .inr (hFd k hk))
  exact ⟨e', rfl, g1, g2, rfl, fun a h => h, by simp [e'], .inr rfl⟩
structure Prom (Q : Kind S) (e : Env S.T) (σ : St S.T) (a : Act) (e1 : Env S.T) (σ1 : St S.T) : Prop where
  w : e1.w = e.w
  le : Le Q e e1
  holds : Holds Q e1 σ1 a
  n : σ1.n = σ.n
  nx : σ.nx ≤ σ1.nx
  lg : ∃ l, σ1.lg = l ++ σ.lg ∧ ∀ i, i < σ.nx → i ∉ l → σ1.ob i = σ.ob i
  ub : ∀ a, e1.U a → e.U a ∨ σ.nx ≤ a
theorem Prom.refl {e : Env S.T} {σ : St S.T} {a : Act} (h : Holds Q e σ a) : Prom Q e σ a e σ := ⟨rfl, Le.refl Q e, h, rfl, Nat.le_refl _, ⟨[], rfl, fun _ _ _ => rfl⟩, fun _ h => .inl h⟩
theorem put_ne {β : Type} {i j : Nat} {x : β} {l : Nat → Option β} (h : i ≠ j) : putB j x l i = l i := by
  have : Nat.beq i j = false := by
    cases hb : Nat.beq i j with
    | true => exact absurd (beq_eq' hb) h
    | false => rfl
  simp [putB, this]
theorem del_ne {β : Type} {i j : Nat} {l : Nat → Option β} (h : i ≠ j) : delB j l i = l i := by
  have : Nat.beq i j = false := by
    cases hb : Nat.beq i j with
    | true => exact absurd (beq_eq' hb) h
    | false => rfl
  simp [delB, this]
theorem rebaseD (L : Laws S Q) {e : Env S.T} (I : Inv Q e) {fr : Nat} (hfr : ¬ e.U fr) {t : TypeId} {c : Nat} {te : TypeId} (hx : S.xc t = some (c, te)) (hf : S.flat te = true) {v : Value} {id : Option Nat} {d : Dp} {l : List (S.T t)} {cs : List Value} {B : Nat → Nat → Prop} {R : Nat → Prop} (hb : BaseD Q e t c te v id d l cs B R) (hvd : valid e.ob d = true) (hone : v.oneCell' = true) :
    ∃ e', e'.w = e.w ∧ Inv Q e' ∧ Le Q e e' ∧ e'.ob = putB fr (fr, .deep t c te d fr l none) (id.toList.foldl (fun ob i => delB i ob) e.ob) ∧ (∀ a, e'.U a → e.U a ∨ a = fr) ∧ e'.β fr = v ∧ e'.U fr := by
  let F : Nat → Prop := fun k => ∃ i, id = some i ∧ e.ok i k
  let so' : SO S.T := .deep t c te d fr l none
  let ob' : Ob S.T := putB fr (fr, so') (id.toList.foldl (fun ob i => delB i ob) e.ob)
  let e' : Env S.T := { w := e.w, β := fun a => if a = fr then v else e.β a, ok := fun a => if a = fr then F else e.ok a, ob := ob', U := fun a => e.U a ∨ a = fr }
  have hob' : ∀ a x, lookB a ob' = some x → (a = fr ∧ x = (fr, so')) ∨ (a ≠ fr ∧ id ≠ some a ∧ lookB a e.ob = some x) := by
    intro a x hx
    rcases lookB_put hx with h | ⟨hne, h⟩
    · exact .inl h
    · refine .inr ⟨hne, ?_⟩
      cases id with
      | none => exact ⟨by simp, h⟩
      | some i =>
        obtain ⟨h8, h9⟩ := lookB_del h
        exact ⟨by simpa using fun e1 => h8 e1.symm, h9⟩
  obtain ⟨g1, g2⟩ := event L I e.w v F ob' so' id fr fr hfr (.inl rfl) hb.ids hob' (by simp [so'])
    (fun k ⟨i, hi, hk⟩ => by
      obtain ⟨s3, so3, h9, _⟩ := hb.ids i hi
      exact ⟨I.lt _ _ _ h9 k hk, .inl ⟨i, hi, hk⟩⟩)
    rfl rfl rfl (Nat.le_refl _) (fun _ _ _ => rfl) hone e' rfl
    (fun hH => by
      have hβ : e'.β fr = v := by simp [e']
      have hok : e'.ok fr = F := by simp [e']
      have hFd : ∀ k, e.Fd d k → e'.Fd d k := by
        rintro k ⟨x, hx, hk⟩
        refine ⟨x, hx, ?_⟩
        show (if x.1 = fr then F else e.ok x.1) k
        rw [if_neg (show ¬ x.1 = fr from fun e1 => hfr (e1 ▸ (hb.dl x hx).1))]
        exact hk
      refine ⟨hx, hf, hb.dl.mono (fun a ha => .inl ha), .inr rfl, fun k hk => ?_, cs, by rw [hβ]; exact hb.own, B, R, ?_, hb.hBd, ?_, fun _ j x hj => ?_⟩
      · rw [hβ] at hk
        rw [hok]
        exact hb.blk k hk
      · rw [hok, hβ]; exact hb.hB
      · rw [hok, hβ]; exact hb.hR
      · obtain ⟨q1, q2⟩ := hb.all j x hj
        exact ⟨q1.move L fun k hk => ⟨hk.imp (fun h => h) (hFd k), rfl⟩, fun _ => q2⟩)
    (by
      intro _ _ _ _ _ _ _ h
      have h : (SO.deep t c te d fr l none : SO S.T) = _ := h
      cases h
      exact .inl rfl)
  exact ⟨e', rfl, g1, g2, rfl, fun a h => h, by simp [e'], .inr rfl⟩
theorem promX_ok (L : Laws S Q) {e : Env S.T} (I : Inv Q e) {σ : St S.T} (hob : e.ob = σ.ob) (fresh : ¬ e.U σ.nx) {t : TypeId} {x : SC S.T} {v : Value} (hv : hold Q e v x) {p : SO S.T × List Nat} (hp : promX t x σ = some p) :
    ∃ e', e'.w = e.w ∧ Inv Q e' ∧ Le Q e e' ∧ e'.ob = putB σ.nx (σ.nx, p.1) (delsB p.2 e.ob) ∧ (∀ a, e'.U a → e.U a ∨ a = σ.nx) ∧ hold Q e' v (.row σ.nx) := by
  unfold promX at hp
  split at hp
  · cases hp
    have hv : v = .slice none 0 0 := hv
    obtain ⟨e', h1, h2, h3, h4, h5, h6, h7⟩ : ∃ e', e'.w = e.w ∧ Inv Q e' ∧ Le Q e e' ∧ e'.ob = putB σ.nx (σ.nx, nilO S t σ.nx) e.ob ∧ (∀ a, e'.U a → e.U a ∨ a = σ.nx) ∧ e'.β σ.nx = .slice none 0 0 ∧ e'.U σ.nx := by
      have hrow := rebase L I fresh (t := t) (v := .slice none 0 0) (id := none) (d := []) (l := []) (cs := []) ⟨World.ownsRow_nil _ _ _ _, fun p hp => (by cases hp), fun i hi => (by cases hi), fun k hk => by simp [Value.ownBlock] at hk, rfl⟩ rfl (fun i hi => (by cases hi)) rfl
      unfold nilO
      split
      · rename_i c te hx
        cases hf : S.flat te with
        | false => exact hrow
        | true => exact rebaseD L I fresh hx hf (BaseD.nil (Q := Q) (e := e)) rfl rfl
      · exact hrow
    exact ⟨e', h1, h2, h3, h4, h5, h7, by rw [h6]; exact hv⟩
  · rename_i i n
    split at hp
    · rename_i l d c te hcd
      obtain ⟨hg, hp⟩ := bif_some' hp
      simp only [Bool.and_eq_true] at hg
      simp only [Option.some.injEq] at hp
      subst hp
      rw [← hob] at hg
      unfold cutD at hcd
      rw [← hob] at hcd
      split at hcd
      rotate_left
      · cases hcd
      rename_i s' t' c' te' d' sv' l' hl'
      split at hcd
      rotate_left
      · cases hcd
      rename_i ht
      subst ht
      cases hcd
      have hbd : baseD e.ob t' c te (.cut i n) = some (l'.take n.toNat, d) := by
        simp only [baseD]
        rw [hl']
        simp [Nat.beq_refl]
      obtain ⟨hx, hf, cs, B, R, hB⟩ := baseD_cut L I hv hbd hg.1
      obtain ⟨e', h1, h2, h3, h4, h5, h6, h7⟩ := rebaseD L I fresh hx hf hB hg.1 (hold_one I hv rfl)
      exact ⟨e', h1, h2, h3, h4, h5, h7, h6.symm⟩
    obtain ⟨p, hb, hp⟩ := Option.bind_eq_some_iff.1 hp
    cases hg : valid σ.ob p.2 && noId i p.2 with
    | false => rw [hg] at hp; cases hp
    | true =>
      rw [hg] at hp
      cases hp
      simp only [Bool.and_eq_true] at hg
      rw [← hob] at hb
      rw [← hob] at hg
      obtain ⟨id, cs, hB, hid⟩ := base_ok L I (by simp) hv hb hg.1
      have hid' : id = some i := by
        cases id with
        | none => simp [idOf] at hid
        | some j => simp [idOf] at hid; rw [hid]
      subst hid'
      obtain ⟨e', h1, h2, h3, h4, h5, h6, h7⟩ := rebase L I fresh hB hg.1 (fun j hj => by cases hj; exact hg.2) (hold_one I hv rfl)
      exact ⟨e', h1, h2, h3, h4, h5, h7, h6.symm⟩
  · cases hp
theorem delsB_ne {l : List Nat} {T : Tys} {ob : Ob T} {j : Nat} (h : j ∉ l) : delsB l ob j = ob j := by
  unfold delsB
  split
  · rfl
  · rename_i i r
    exact del_ne fun e => h (by rw [e]; exact List.mem_cons_self)
theorem cell_ok (L : Laws S Q) {e : Env S.T} (I : Inv Q e) {i s : Nat} {tv : TypeId} {cs : List (SC S.T)} (ho : lookB i e.ob = some (s, .var tv cs)) {c : Nat} {y : SC S.T} {g : Nat} {vs : List Value} (hβ : e.β i = .pointer (some ⟨g, 0, none⟩)) (hh : e.w.heap[g]? = some (.cells (List.toArray vs) tv (0, 0)))
    (hc : All2 (hold Q e) vs (cs.set c y)) : ∃ e', e'.w = e.w ∧ Inv Q e' ∧ Le Q e e' ∧ e'.ob = putB i (s, .var tv (cs.set c y)) e.ob ∧ (∀ a, e'.U a → e.U a) := by
  let e' : Env S.T := { w := e.w, β := e.β, ok := e.ok, ob := putB i (s, .var tv (cs.set c y)) e.ob, U := e.U }
  have hlk : ∀ a x, lookB a e'.ob = some x → (a = i ∧ x = (s, .var tv (cs.set c y))) ∨ (a ≠ i ∧ lookB a e.ob = some x) := fun a x hx => lookB_put hx
  have hH : ∀ v c, hold Q e v c → hold Q e' v c := fun v c h => hold_step L (e := e) (e' := e') (fun _ _ => rfl) (fun _ h => h) (fun a s' so _ _ hl => by
      rcases hlk a _ hl with ⟨rfl, hx⟩ | ⟨_, hx⟩
      · cases hx; exact ⟨⟨_, ho⟩, fun _ h => h, fun _ _ => rfl⟩
      · exact ⟨⟨so, hx⟩, fun _ h => h, fun _ _ => rfl⟩) (fun a s' t c te d sv l h0 _ _ hl => by
      rcases hlk a _ hl with ⟨rfl, hx⟩ | ⟨_, hx⟩
      · cases hx
      · exact ⟨⟨s', d, l, h0, hx⟩, keepH_of fun _ _ => rfl⟩) h
  obtain ⟨k1, k2, g', vs', hβ', hok, _, _⟩ := I.obj i s _ ho
  have hv : ∀ d, dlt e.U d → valid e'.ob d = true → valid e.ob d = true ∧ ∀ k, e.Fd d k → e'.Fd d k ∧ e'.w.heap[k]? = e.w.heap[k]? := fun d _ hv => by
    refine ⟨valid_iff.2 fun p hp => ?_, fun k hk => ⟨hk, rfl⟩⟩
    obtain ⟨so, hso⟩ := valid_iff.1 hv p hp
    rcases hlk _ _ hso with ⟨h1, hx⟩ | ⟨_, hx⟩
    · cases hx; rw [h1]; exact ⟨_, ho⟩
    · exact ⟨so, hx⟩
  refine ⟨e', rfl, ⟨?_, I.one, I.zero, ?_, ?_, ?_⟩, ⟨hH, fun _ h => h, rfl, rfl, rfl, Nat.le_refl _, fun _ _ _ => rfl, ?_, fun _ h => h⟩, rfl, fun _ h => h⟩
  · intro a s' so hl
    rcases hlk a _ hl with ⟨rfl, hx⟩ | ⟨_, hx⟩
    · cases hx
      refine ⟨k1, k2, g', vs, hβ', hok, ?_, hc.imp hH⟩
      rw [hβ] at hβ'
      cases hβ'
      exact hh
    · obtain ⟨h1, h2, h3⟩ := I.obj a s' so hx
      exact ⟨h1, h2, obj_move L h3 rfl (fun _ h => h) (fun _ h => h) (fun _ _ => rfl) hv hH⟩
  · intro s' so hl
    rcases hlk 0 _ hl with ⟨rfl, hx⟩ | ⟨_, hx⟩
    · have := I.z0 s _ ho; cases this
    · exact I.z0 s' so hx
  · intro a s' so hl
    rcases hlk a _ hl with ⟨rfl, hx⟩ | ⟨_, hx⟩
    · exact I.lt a s _ ho
    · exact I.lt a s' so hx
  · intro a b s1 s2 so so' h1 h2 hne
    have f : ∀ a s so, lookB a e'.ob = some (s, so) → ∃ s so, lookB a e.ob = some (s, so) := fun a s' so hl => by
      rcases hlk a _ hl with ⟨rfl, hx⟩ | ⟨_, hx⟩
      · exact ⟨_, _, ho⟩
      · exact ⟨_, _, hx⟩
    obtain ⟨_, _, g1⟩ := f a s1 so h1
    obtain ⟨_, _, g2⟩ := f b s2 so' h2
    exact I.dis a b _ _ _ _ g1 g2 hne
  · rintro k ⟨a, s', so, hl, hne, hk⟩
    left
    rcases hlk a _ hl with ⟨rfl, hx⟩ | ⟨_, hx⟩
    · exact ⟨a, s, _, ho, by simp, hk⟩
    · exact ⟨a, s', so, hx, hne, hk⟩
theorem promote_ok (L : Laws S Q) {e : Env S.T} {σ σ' : St S.T} {a : Act} {k : Nat × Option TypeId} (h : Holds Q e σ a) (hp : promote k σ = some σ') : ∃ e1, Prom Q e σ a e1 σ' := by
  have fresh : ¬ e.U σ.nx := fun hu => by have := h.nx _ hu; omega
  have stay : some σ = some σ' → ∃ e1, Prom Q e σ a e1 σ' := fun hp => by cases hp; exact ⟨e, Prom.refl h⟩
  unfold promote at hp
  split at hp
  · exact stay hp
  rename_i t _
  split at hp
  · split at hp
    · rename_i x hs
      cases hb : isProm x with
      | false => rw [hb] at hp; exact stay hp
      | true =>
        rw [hb] at hp
        obtain ⟨p, hx, hp⟩ := Option.map_eq_some_iff.1 hp
        subst hp
        have hv := h.sl k.1
        rw [hs] at hv
        obtain ⟨e', h1, h2, h3, h4, h5, h6⟩ := promX_ok L h.inv h.ob fresh (x := x) (v := a.tmps.getD k.1 undef) hv hx
        refine ⟨e', h1, h3, ?_, rfl, Nat.le_succ _, ⟨p.2, rfl, fun j hj hn => ?_⟩, fun a ha => (h5 a ha).imp id fun h => Nat.le_of_eq h.symm⟩
        · refine h.slot h3 h2 (x := .v (.c (.row σ.nx))) h6 (by rw [h4, h.ob]) (fun i hi => ?_) _
          rcases h5 i hi with h8 | h8
          · have := h.nx i h8; omega
          · omega
        · show putB σ.nx _ (delsB p.2 σ.ob) j = _
          rw [put_ne (by omega), delsB_ne hn]
    · exact stay hp
  · rename_i i c _
    split at hp
    · rename_i s tv cs ho
      split at hp
      · rename_i x hcx
        cases hb : isProm x && !(Nat.beq i σ.nx) with
        | false => rw [hb] at hp; exact stay hp
        | true =>
          rw [hb] at hp
          simp only [cond_true] at hp
          obtain ⟨p, hx, hp⟩ := Option.bind_eq_some_iff.1 hp
          cases hni : hasN i p.2 with
          | true => rw [hni] at hp; cases hp
          | false =>
            rw [hni] at hp
            simp only [cond_false, Option.some.injEq] at hp
            subst hp
            rw [Bool.and_eq_true, Bool.not_eq_true'] at hb
            have hine : i ≠ σ.nx := fun e1 => by
              have := hb.2
              rw [e1, Nat.beq_refl] at this
              cases this
            have hnm : i ∉ p.2 := fun hm => by rw [hasN_iff.2 hm] at hni; cases hni
            rw [← h.ob] at ho
            obtain ⟨hi, hs, g, vs, hβ, hok, hh, hc⟩ := h.inv.obj i s _ ho
            obtain ⟨v, hvc, hvx⟩ := hc.at_ c hcx
            obtain ⟨e', h1, h2, h3, h4, h5, h6⟩ := promX_ok L h.inv h.ob fresh hvx hx
            have ho' : lookB i e'.ob = some (s, .var tv cs) := by
              rw [h4]
              show putB σ.nx _ _ i = _
              rw [put_ne hine, delsB_ne hnm]
              exact ho
            have hβ' : e'.β i = .pointer (some ⟨g, 0, none⟩) := by
              have := h3.hold (.pointer (some ⟨g, 0, none⟩)) (.ptr i 0) ⟨hi, g, hβ, rfl⟩
              obtain ⟨_, g', q1, q2⟩ := this
              cases q2
              exact q1
            have hc' : All2 (hold Q e') vs (cs.set c (.row σ.nx)) := (hc.imp h3.hold).set_r fun a ha => by
              rw [hvc] at ha
              cases ha
              exact h6
            obtain ⟨e'', k1, k2, k3, k4, k5⟩ := cell_ok L h2 ho' hβ' (by rw [h1]; exact hh) hc'
            have hle := h3.trans Q k3
            refine ⟨e'', k1.trans h1, hle, ⟨k2, by rw [k4, h4, h.ob], fun j hj => ?_, h.n, h.df, fun s' => hle.holdX Q (h.sl s')⟩, rfl, Nat.le_succ _, ⟨i :: p.2, rfl, fun j hj hn => ?_⟩, fun a ha => (h5 a (k5 a ha)).imp id fun h => Nat.le_of_eq h.symm⟩
            · show j < σ.nx + 1
              rcases h5 j (k5 j hj) with h8 | h8
              · have := h.nx j h8; omega
              · omega
            · simp only [List.mem_cons, not_or] at hn
              show putB i _ (putB σ.nx _ (delsB p.2 σ.ob)) j = _
              rw [put_ne hn.1, put_ne (by omega), delsB_ne hn.2]
      · exact stay hp
    · exact stay hp
theorem promotes_ok (L : Laws S Q) : ∀ (ks : List (Nat × Option TypeId)) {e : Env S.T} {σ σ' : St S.T} {a : Act}, Holds Q e σ a → promotes ks σ = some σ' → ∃ e1, Prom Q e σ a e1 σ'
  | [], e, σ, σ', a, h, hp => by cases hp; exact ⟨e, Prom.refl h⟩
  | k :: ks, e, σ, σ', a, h, hp => by
    obtain ⟨σ1, h1, hp⟩ := Option.bind_eq_some_iff.1 hp
    obtain ⟨e1, p1⟩ := promote_ok L h h1
    obtain ⟨e2, p2⟩ := promotes_ok L ks p1.holds hp
    refine ⟨e2, p2.w.trans p1.w, p1.le.trans Q p2.le, p2.holds, p2.n.trans p1.n, Nat.le_trans p1.nx p2.nx, ?_, fun a ha => (p2.ub a ha).elim (p1.ub a) fun h => .inr (Nat.le_trans p1.nx h)⟩
    obtain ⟨l, h2, h3⟩ := p1.lg
    obtain ⟨l', h4, h5⟩ := p2.lg
    refine ⟨l' ++ l, by rw [h4, h2, List.append_assoc], fun i hi hn => ?_⟩
    rw [List.mem_append, not_or] at hn
    exact (h5 i (Nat.lt_of_lt_of_le hi p1.nx) hn.1).trans (h3 i hi hn.2)
theorem Prom.trans {e e1 e2 : Env S.T} {σ σ1 σ2 : St S.T} {a : Act} (p1 : Prom Q e σ a e1 σ1) (p2 : Prom Q e1 σ1 a e2 σ2) : Prom Q e σ a e2 σ2 := by
  refine ⟨p2.w.trans p1.w, p1.le.trans Q p2.le, p2.holds, p2.n.trans p1.n, Nat.le_trans p1.nx p2.nx, ?_, fun a ha => (p2.ub a ha).elim (p1.ub a) fun h => .inr (Nat.le_trans p1.nx h)⟩
  obtain ⟨l, h2, h3⟩ := p1.lg
  obtain ⟨l', h4, h5⟩ := p2.lg
  refine ⟨l' ++ l, by rw [h4, h2, List.append_assoc], fun i hi hn => ?_⟩
  rw [List.mem_append, not_or] at hn
  exact (h5 i (Nat.lt_of_lt_of_le hi p1.nx) hn.1).trans (h3 i hi hn.2)
theorem absorb_ok (L : Laws S Q) {e : Env S.T} {σ : St S.T} {a : Act} (h : Holds Q e σ a) {i j : Nat} (hne : i ≠ j) {vi vj : Nat} {soi soj so' : SO S.T} (hi' : lookB i e.ob = some (vi, soi)) (hni : soi ≠ .ext) (hj' : lookB j e.ob = some (vj, soj)) (hnj : soj ≠ .ext) (hns : so' ≠ .ext)
    (hobj : ∀ e' : Env S.T, e'.w = e.w → e'.β = e.β → (∀ k, e'.ok i k ↔ e.ok i k ∨ e.ok j k) → (∀ a k, e.ok a k → e'.ok a k) → (∀ a, e.U a → e'.U a) → (∀ v c, hold Q e v c → hold Q e' v c) → objHold Q e' i so')
    (hdp : ∀ t c te d sv l h0, so' = .deep t c te d sv l h0 → ∃ d0 l0 h1, soi = .deep t c te d0 sv l0 h1) :
    ∃ e1, Prom Q e σ a e1 { σ with ob := putB i (σ.nx, so') (delB j σ.ob), nx := σ.nx + 1, lg := i :: j :: σ.lg } := by
  have fresh : ¬ e.U σ.nx := fun hu => by have := h.nx _ hu; omega
  have hI := h.inv
  let ob' : Ob S.T := putB i (σ.nx, so') (delB j σ.ob)
  let e' : Env S.T := { w := e.w, β := e.β, ok := fun a => if a = i then fun k => e.ok i k ∨ e.ok j k else e.ok a, ob := ob', U := fun a => e.U a ∨ a = σ.nx }
  have hob' : ∀ a x, lookB a e'.ob = some x → (a = i ∧ x = (σ.nx, so')) ∨ (a ≠ i ∧ a ≠ j ∧ lookB a e.ob = some x) := by
    intro a x hx
    rcases lookB_put hx with h1 | ⟨h1, h2⟩
    · exact .inl h1
    · obtain ⟨h3, h4⟩ := lookB_del h2
      rw [← h.ob] at h4
      exact .inr ⟨h1, h3, h4⟩
  have hoki : ∀ k, e'.ok i k ↔ e.ok i k ∨ e.ok j k := fun k => by show (if i = i then fun k => e.ok i k ∨ e.ok j k else e.ok i) k ↔ _; rw [if_pos rfl]
  have hoka : ∀ a, a ≠ i → e'.ok a = e.ok a := fun a ha => by show (if a = i then fun k => e.ok i k ∨ e.ok j k else e.ok a) = _; rw [if_neg ha]
  have hmono : ∀ a k, e.ok a k → e'.ok a k := fun a k hk => by
    by_cases ha : a = i
    · subst ha; exact (hoki k).2 (.inl hk)
    · rw [hoka a ha]; exact hk
  obtain ⟨g1, g2⟩ := events L hI e.w (fun a => a = i ∨ a = j) (fun a => a = i) (fun _ => σ.nx) e.β (fun _ k => e.ok i k ∨ e.ok j k) (fun _ => so') e' (fun _ _ => fresh) (fun a ha => .inr ⟨.inl ha, rfl⟩)
    (by
      rintro a (rfl | rfl)
      · exact ⟨_, _, hi', hni⟩
      · exact ⟨_, _, hj', hnj⟩)
    (fun a x hx => (hob' a x hx).imp id fun ⟨h1, h2, h3⟩ => ⟨h1, by rw [not_or]; exact ⟨h1, h2⟩, h3⟩)
    (fun _ _ => hns)
    (by
      rintro a ha k (hk | hk)
      · exact ⟨hI.lt _ _ _ hi' k hk, .inl ⟨i, .inl rfl, hk⟩⟩
      · exact ⟨hI.lt _ _ _ hj' k hk, .inl ⟨j, .inr rfl, hk⟩⟩)
    (fun a b ha hb hne => absurd (ha.trans hb.symm) hne) rfl rfl rfl (Nat.le_refl _) (fun _ _ _ => rfl) (fun a _ => hI.one a) rfl (fun _ _ => rfl) (fun _ _ => rfl)
    (fun a ha => by subst ha; exact if_pos rfl) hoka (fun a => ⟨fun h => h.imp id fun h => ⟨i, rfl, h⟩, fun h => h.imp id fun ⟨_, _, h⟩ => h⟩)
    (fun hH a ha => by
      subst ha
      exact hobj e' rfl rfl hoki hmono (fun _ h => .inl h) hH)
    (by
      intro a ha t c te d sv l h0 hs
      subst ha
      obtain ⟨d0, l0, h1, rfl⟩ := hdp t c te d sv l h0 hs
      exact .inr ⟨⟨_, _, _, _, hi'⟩, keepH_of fun _ _ => rfl⟩)
  refine ⟨e', rfl, g2, ⟨g1, rfl, fun k hk => ?_, h.n, h.df, fun s => g2.holdX _ (h.sl s)⟩, rfl, Nat.le_succ _, ⟨[i, j], rfl, fun k _ hk => ?_⟩, fun k hk => (show e.U k ∨ k = σ.nx from hk).imp id fun h => Nat.le_of_eq h.symm⟩
  · show k < σ.nx + 1
    rcases hk with hk | rfl
    · have := h.nx k hk; omega
    · omega
  · simp only [List.mem_cons, List.not_mem_nil, or_false, not_or] at hk
    show putB i _ (delB j σ.ob) k = σ.ob k
    rw [put_ne hk.1, del_ne hk.2]
theorem delD_mem {j : Nat} {d : Dp} {p : Nat × Nat} (hp : p ∈ d) (hpj : p.1 ≠ j) : p ∈ delD j d := by
  refine List.mem_filter.2 ⟨hp, ?_⟩
  cases hb : Nat.beq p.1 j with
  | true => exact absurd (beq_eq' hb) hpj
  | false => rfl
theorem absorb1_ok (L : Laws S Q) {e : Env S.T} {σ : St S.T} {a : Act} (h : Holds Q e σ a) (i j : Nat) : ∃ e1, Prom Q e σ a e1 (absorb1 i j σ) := by
  unfold absorb1
  cases hc : isRow σ.ob j && !(Nat.beq i j) with
  | false => exact ⟨e, Prom.refl h⟩
  | true =>
    simp only [Bool.and_eq_true, Bool.not_eq_true'] at hc
    have hne : i ≠ j := fun he => by subst he; rw [Nat.beq_refl] at hc; exact absurd hc.2 (by decide)
    obtain ⟨vj, soj, hj, hnj⟩ : ∃ vj soj, σ.ob j = some (vj, soj) ∧ soj ≠ .ext := by
      have := hc.1
      unfold isRow at this
      split at this
      · rename_i hj; exact ⟨_, _, hj, by simp⟩
      · rename_i hj; exact ⟨_, _, hj, by simp⟩
      · cases this
    have hI := h.inv
    rw [← h.ob] at hj
    have hj' : lookB j e.ob = some (vj, soj) := hj
    simp only [cond_true]
    split
    · rename_i vi t d l hi
      rw [← h.ob] at hi
      have hi' : lookB i e.ob = some (vi, .row t d l) := hi
      cases hv : valid σ.ob d with
      | false => exact ⟨e, Prom.refl h⟩
      | true =>
        rw [← h.ob] at hv
        simp only [cond_true]
        refine absorb_ok L h hne hi' (by simp) hj' hnj (by simp) (fun e' hw hβ hoki hmono hU hH => ?_) (fun _ _ _ _ _ _ _ hs => by cases hs)
        obtain ⟨u1, u2, hd, hown, cs, hr, hvv⟩ := hI.obj _ _ _ hi'
        refine ⟨fun p hp => ?_, fun k hk => by rw [hβ] at hk; exact hmono _ _ (hown k hk), cs, by rw [hβ, hw]; exact hr, fun _ => ?_⟩
        · have hp' : p ∈ d := (List.mem_filter.1 hp).1
          exact ⟨hU _ (hd p hp').1, hU _ (hd p hp').2⟩
        · rw [hβ, hw]
          refine reps_imp (fun x c hx => L.mono _ _ _ _ _ _ ?_ hx) (hvv hv)
          rintro k (⟨h4, h5⟩ | ⟨p, hp, hk⟩)
          · exact .inl ⟨hmono _ _ h4, h5⟩
          · by_cases hpj : p.1 = j
            · refine .inl ⟨(hoki k).2 (.inr (hpj ▸ hk)), fun hb => ?_⟩
              exact hI.dis _ _ _ _ _ _ hi' hj' hne k (hown k hb.symm) (hpj ▸ hk)
            · exact .inr ⟨p, delD_mem hp hpj, hmono _ _ hk⟩
    · rename_i vi t c te d sv l hh hi
      rw [← h.ob] at hi
      have hi' : lookB i e.ob = some (vi, .deep t c te d sv l hh) := hi
      cases hv : valid σ.ob d with
      | false => exact ⟨e, Prom.refl h⟩
      | true =>
        rw [← h.ob] at hv
        simp only [cond_true]
        refine absorb_ok L h hne hi' (by simp) hj' hnj (by simp) (fun e' hw hβ hoki hmono hU hH => ?_) (fun _ _ _ _ _ _ _ hs => by cases hs; exact ⟨_, _, _, rfl⟩)
        obtain ⟨u1, u2, hx, hf, hd, hsv, hown, cs, hr, B, R, hB, hBd, hR, hall⟩ := hI.obj _ _ _ hi'
        have hdis : ∀ k, e.ok j k → ¬ e.ok i k := fun k hk hk' => hI.dis _ _ _ _ _ _ hi' hj' hne k hk' hk
        refine ⟨hx, hf, fun p hp => ?_, hU _ hsv, fun k hk => by rw [hβ] at hk; exact hmono _ _ (hown k hk), cs, by rw [hβ, hw]; exact hr, B, fun k => R k ∨ e.ok j k, ?_, hBd, ?_, fun _ n x hn => ?_⟩
        · have hp' : p ∈ d := (List.mem_filter.1 hp).1
          exact ⟨hU _ (hd p hp').1, hU _ (hd p hp').2⟩
        · rw [hβ]; exact fun n k hk => ⟨hmono _ _ (hB n k hk).1, (hB n k hk).2⟩
        · rw [hβ]
          rintro k (hk | hk)
          · exact ⟨hmono _ _ (hR k hk).1, (hR k hk).2⟩
          · exact ⟨(hoki k).2 (.inr hk), fun hb => hdis k hk (hown k hb.symm), fun n hn => hdis k hk (hB n k hn).1⟩
        · rw [hw]
          obtain ⟨q1, q2⟩ := hall hv n x hn
          refine ⟨q1.move L ?_, fun hne => q2 hne⟩
          rintro k (hk | ⟨p, hp, hk⟩)
          · exact ⟨.inl (.inl hk), rfl⟩
          · by_cases hpj : p.1 = j
            · exact ⟨.inl (.inr (hpj ▸ hk)), rfl⟩
            · exact ⟨.inr ⟨p, delD_mem hp hpj, hmono _ _ hk⟩, rfl⟩
    · exact ⟨e, Prom.refl h⟩
theorem absorbI_ok (L : Laws S Q) {keep : List Nat} {i : Nat} : ∀ (js : List Nat) {e : Env S.T} {σ : St S.T} {a : Act}, Holds Q e σ a → ∃ e1, Prom Q e σ a e1 (absorbI keep i js σ)
  | [], e, σ, a, h => ⟨e, Prom.refl h⟩
  | j :: js, e, σ, a, h => by
    unfold absorbI
    cases hasN j keep with
    | true => exact absorbI_ok L js h
    | false =>
      obtain ⟨e1, p1⟩ := absorb1_ok L h i j
      obtain ⟨e2, p2⟩ := absorbI_ok L (keep := keep) (i := i) js p1.holds
      exact ⟨e2, p1.trans p2⟩
theorem absorbs_ok (L : Laws S Q) {keep : List Nat} : ∀ (is : List Nat) {e : Env S.T} {σ : St S.T} {a : Act}, Holds Q e σ a → ∃ e1, Prom Q e σ a e1 (absorbs keep is σ)
  | [], e, σ, a, h => ⟨e, Prom.refl h⟩
  | i :: is, e, σ, a, h => by
    obtain ⟨e1, p1⟩ := absorbI_ok L (keep := keep) (i := i) (depsO σ.ob i) h
    obtain ⟨e2, p2⟩ := absorbs_ok L (keep := keep) is p1.holds
    exact ⟨e2, p1.trans p2⟩
theorem promA_ok (L : Laws S Q) {ks : List (Nat × Option TypeId)} {f : St S.T → St S.T} (hf : ∀ σ, ∃ b pins roots mods, f σ = absorbA b pins roots mods σ) {e : Env S.T} {σ σ' : St S.T} {a : Act} (h : Holds Q e σ a) (hp : (promotes ks σ).map f = some σ') : ∃ e1, Prom Q e σ a e1 σ' := by
  obtain ⟨σ1, h1, rfl⟩ := Option.map_eq_some_iff.1 hp
  obtain ⟨e1, p1⟩ := promotes_ok L ks h h1
  obtain ⟨b, pins, roots, mods, hf⟩ := hf σ1
  rw [hf]
  unfold absorbA
  obtain ⟨e2, p2⟩ := absorbs_ok L (keep := _) _ p1.holds
  exact ⟨e2, p1.trans p2⟩
theorem dpEq_eq : ∀ {d e : Dp}, dpEq d e = true → d = e
  | [], [], _ => rfl
  | (a, b) :: d, (a', b') :: e, h => by
    simp only [dpEq, Bool.and_eq_true] at h
    rw [beq_eq' h.1.1, beq_eq' h.1.2, dpEq_eq h.2]
  | [], _ :: _, h => by cases h
  | _ :: _, [], h => by cases h
theorem nsEq_eq : ∀ {d e : List Nat}, nsEq d e = true → d = e
  | [], [], _ => rfl
  | p :: d, q :: e, h => by
    simp only [nsEq, Bool.and_eq_true] at h
    rw [beq_eq' h.1, nsEq_eq h.2]
  | [], _ :: _, h => by cases h
  | _ :: _, [], h => by cases h
theorem bif_some {α : Type} {c : Bool} {o : Option α} {v : α} (h : (bif c then o else none) = some v) : c = true ∧ o = some v := by
  cases c
  · cases h
  · exact ⟨rfl, h⟩
theorem matC_ok {T : Tys} {R : Type} {c : TC} {x : SC T} {r : R} {v : c.env T R} (h : matC c x r = some v) : (instC c v).2 = r ∧ (c ≠ .un → (instC c v).1 = x) ∧ (c = .un → (instC c v).1 = .un) := by
  unfold matC at h
  split at h
  · obtain ⟨h1, h2⟩ := bif_some h; cases h2; exact ⟨rfl, fun _ => by rw [← kbeq_eq h1]; rfl, fun e => by cases e⟩
  · cases h; exact ⟨rfl, fun _ => rfl, fun e => by cases e⟩
  · cases h; exact ⟨rfl, fun _ => rfl, fun e => by cases e⟩
  · cases h; exact ⟨rfl, fun _ => rfl, fun e => by cases e⟩
  · split at h
    · rename_i ht
      subst ht
      obtain ⟨h1, h2⟩ := bif_some h
      cases h2
      exact ⟨rfl, fun _ => by rw [← dpEq_eq h1]; rfl, fun e => by cases e⟩
    · cases h
  · obtain ⟨h1, h2⟩ := bif_some h; cases h2; exact ⟨rfl, fun _ => by rw [← beq_eq' h1]; rfl, fun e => by cases e⟩
  · obtain ⟨h1, h2⟩ := bif_some h; cases h2; exact ⟨rfl, fun _ => by rw [← beq_eq' h1]; rfl, fun e => by cases e⟩
  · obtain ⟨h1, h2⟩ := bif_some h
    cases h2
    simp only [Bool.and_eq_true] at h1
    exact ⟨rfl, fun _ => by rw [← beq_eq' h1.1, ← beq_eq' h1.2]; rfl, fun e => by cases e⟩
  · obtain ⟨h1, h2⟩ := bif_some h
    cases h2
    simp only [Bool.and_eq_true] at h1
    exact ⟨rfl, fun _ => by rw [← beq_eq' h1.1.1, ← beq_eq' h1.1.2, ← beq_eq' h1.2]; rfl, fun e => by cases e⟩
  · split at h
    · rename_i ht
      subst ht
      obtain ⟨h1, h2⟩ := bif_some h
      cases h2
      simp only [Bool.and_eq_true] at h1
      exact ⟨rfl, fun _ => by rw [← dpEq_eq h1.1, ← beq_eq' h1.2]; rfl, fun e => by cases e⟩
    · cases h
  · obtain ⟨h1, h2⟩ := bif_some h
    cases h2
    simp only [Bool.and_eq_true] at h1
    exact ⟨rfl, fun _ => by rw [← beq_eq' h1.1, ← nsEq_eq h1.2]; rfl, fun e => by cases e⟩
  · cases h; exact ⟨rfl, fun _ => rfl, fun e => by cases e⟩
  · cases h; exact ⟨rfl, fun e => absurd rfl e, fun _ => rfl⟩
  · obtain ⟨h1, h2⟩ := bif_some h
    cases h2
    simp only [Bool.and_eq_true] at h1
    exact ⟨rfl, fun _ => by rw [← beq_eq' h1.1, ← beq_eq' h1.2]; rfl, fun e => by cases e⟩
  · obtain ⟨h1, h2⟩ := bif_some h; cases h2; exact ⟨rfl, fun _ => by rw [← beq_eq' h1]; rfl, fun e => by cases e⟩
  · obtain ⟨h1, h2⟩ := bif_some h
    cases h2
    simp only [Bool.and_eq_true] at h1
    exact ⟨rfl, fun _ => by rw [← beq_eq' h1.1, ← beq_eq' h1.2]; rfl, fun e => by cases e⟩
  · cases h
theorem matC_hold {e : Env S.T} {v0 : Value} {R : Type} {c : TC} {x : SC S.T} {r : R} {v : c.env S.T R} (h : matC c x r = some v) (hx : hold Q e v0 x) : hold Q e v0 (instC c v).1 := by
  obtain ⟨_, h2, h3⟩ := matC_ok h
  by_cases hc : c = .un
  · rw [h3 hc]; trivial
  · rw [h2 hc]; exact hx
theorem matCs_ok {e : Env S.T} {R : Type} : ∀ {l : List TC} {xs : List (SC S.T)} {r : R} {v : envC S.T l R}, matCs l xs r = some v → (instCs l v).2 = r ∧ ∀ vs, All2 (hold Q e) vs xs → All2 (hold Q e) vs (instCs l v).1
  | [], [], r, v, h => by cases h; exact ⟨rfl, fun vs hv => hv⟩
  | c :: cs, x :: xs, r, v, h => by
    obtain ⟨r1, h1, h2⟩ := Option.bind_eq_some_iff.1 h
    obtain ⟨g1, g2⟩ := matCs_ok (e := e) h1
    have g3 := (matC_ok h2).1
    refine ⟨?_, fun vs hv => ?_⟩
    · show (instCs cs (instC c v).2).2 = r
      rw [g3]; exact g1
    · cases hv with
      | cons a b =>
        refine .cons (matC_hold h2 a) ?_
        show All2 (hold Q e) _ (instCs cs (instC c v).2).1
        rw [g3]
        exact g2 _ b
  | [], _ :: _, r, v, h => by cases h
  | _ :: _, [], r, v, h => by cases h
theorem matCs_snd {R : Type} : ∀ {l : List TC} {xs : List (SC S.T)} {r : R} {v : envC S.T l R}, matCs l xs r = some v → (instCs l v).2 = r
  | [], [], r, v, h => by cases h; rfl
  | c :: cs, x :: xs, r, v, h => by
    obtain ⟨r1, h1, h2⟩ := Option.bind_eq_some_iff.1 h
    show (instCs cs (instC c v).2).2 = r
    rw [(matC_ok h2).1]
    exact matCs_snd h1
  | [], _ :: _, r, v, h => by cases h
  | _ :: _, [], r, v, h => by cases h
theorem matX_ok {e : Env S.T} {R : Type} : ∀ {c : TX} {x : SX S.T} {r : R} {v : c.env S.T R}, matX c x r = some v → (instX c v).2 = r ∧ ∀ u, holdX Q e u x → holdX Q e u (instX c v).1
  | .c c, .v (.c y), r, v, h => ⟨(matC_ok h).1, fun u hu => matC_hold h hu⟩
  | .agg xs, .v (.agg ys), r, v, h => by
    obtain ⟨g1, g2⟩ := matCs_ok (Q := Q) (e := e) h
    exact ⟨g1, fun u ⟨vs, e1, hv⟩ => ⟨vs, e1, g2 vs hv⟩⟩
  | .c _, .v (.agg _), r, v, h => by cases h
  | .c _, .tup _, r, v, h => by cases h
  | .agg _, .v (.c _), r, v, h => by cases h
  | .agg _, .tup _, r, v, h => by cases h
theorem idx_ok {i : Nat} : ∀ {l : List Nat} {j : Nat}, idx i l = some j → l[j]? = some i
  | [], j, h => by cases h
  | k :: r, j, h => by
    simp only [idx] at h
    cases hb : Nat.beq i k with
    | true =>
      rw [hb] at h
      cases h
      simp [beq_eq' hb]
    | false =>
      rw [hb] at h
      obtain ⟨j', h1, rfl⟩ := Option.map_eq_some_iff.1 h
      simpa using idx_ok h1
theorem nodup_inj {i : Nat} : ∀ {l : List Nat}, noDup l = true → ∀ {j j' : Nat}, l[j]? = some i → l[j']? = some i → j = j'
  | [], _, j, j', h, _ => by simp at h
  | k :: r, hd, j, j', h, h' => by
    simp only [noDup, Bool.and_eq_true, Bool.not_eq_true'] at hd
    have hin : ∀ {m : Nat}, r[m]? = some k → False := fun hm => by
      have := hasN_iff.2 (List.mem_of_getElem? hm)
      rw [hd.1] at this
      cases this
    cases j with
    | zero =>
      cases j' with
      | zero => rfl
      | succ j' =>
        simp at h h'
        subst h
        exact (hin h').elim
    | succ j =>
      cases j' with
      | zero =>
        simp at h h'
        subst h'
        exact (hin h).elim
      | succ j' =>
        simp at h h'
        rw [nodup_inj hd.2 h h']
theorem blt_iff {a b : Nat} : Nat.blt a b = true ↔ a < b := ⟨blt_lt, fun h => by show Nat.ble (a + 1) b = true; exact Nat.ble_eq_true_of_le h⟩
theorem blt_no {a b : Nat} (h : ¬ a < b) : Nat.blt a b = false := by
  cases hb : Nat.blt a b with
  | true => exact absurd (blt_lt hb) h
  | false => rfl
theorem src_lo {b j : Nat} {ids : List Nat} (h : j < b) : srcOf b ids j = j := by unfold srcOf; rw [blt_iff.2 h]; rfl
theorem src_hi {b k : Nat} {ids : List Nat} : srcOf b ids (b + k) = ids.getD k 0 := by
  unfold srcOf
  rw [blt_no (by omega)]
  show ids.getD (b + k - b) 0 = _
  rw [Nat.add_sub_cancel_left]
structure Ren (b : Nat) (ids : List Nat) (e e2 : Env S.T) : Prop where
  w : e2.w = e.w
  β : ∀ j, e2.β j = e.β (srcOf b ids j)
  ok : ∀ j, e2.ok j = e.ok (srcOf b ids j)
  lo : ∀ j, j < b → e.U j → e2.U j
  hi : ∀ j, j < ids.length ∨ j = 0 → e2.U (b + j)
theorem renI_ok {b : Nat} {ids : List Nat} {e e2 : Env S.T} (R : Ren b ids e e2) {i j : Nat} (h : renI b ids i = some j) (hu : e.U i) : e2.U j ∧ srcOf b ids j = i := by
  unfold renI at h
  split at h
  · rename_i k hk
    cases h
    have h1 := idx_ok hk
    have h2 := (List.getElem?_eq_some_iff.1 h1).1
    exact ⟨R.hi k (.inl h2), by rw [src_hi, List.getD_eq_getElem?_getD, h1]; rfl⟩
  · obtain ⟨h1, h2⟩ := bif_some h
    cases h2
    exact ⟨R.lo _ (blt_lt h1) hu, src_lo (blt_lt h1)⟩
theorem renP_ok {b : Nat} {ids : List Nat} {e e2 : Env S.T} (R : Ren b ids e e2) {p q : Nat × Nat} (h : renP b ids p = some q) (hu : e.U p.1 ∧ e.U p.2) : e2.U q.1 ∧ e2.U q.2 ∧ srcOf b ids q.1 = p.1 := by
  unfold renP at h
  split at h
  · rename_i k hk
    cases h
    have h1 := idx_ok hk
    have h2 := (List.getElem?_eq_some_iff.1 h1).1
    exact ⟨R.hi k (.inl h2), R.hi 0 (.inr rfl), by rw [src_hi, List.getD_eq_getElem?_getD, h1]; rfl⟩
  · obtain ⟨h1, h2⟩ := bif_some h
    cases h2
    simp only [Bool.and_eq_true] at h1
    exact ⟨R.lo _ (blt_lt h1.1) hu.1, R.lo _ (blt_lt h1.2) hu.2, src_lo (blt_lt h1.1)⟩
theorem renD_ok {b : Nat} {ids : List Nat} {e e2 : Env S.T} (R : Ren b ids e e2) : ∀ {d d' : Dp}, renD b ids d = some d' → dlt e.U d → dlt e2.U d' ∧ ∀ k, e.Fd d k → e2.Fd d' k
  | [], d', h, _ => by
    cases h
    exact ⟨fun p hp => (by cases hp), fun k ⟨p, hp, _⟩ => (by cases hp)⟩
  | p :: d, d', h, hu => by
    obtain ⟨q, hq, h⟩ := Option.bind_eq_some_iff.1 h
    obtain ⟨d2, h2, rfl⟩ := Option.map_eq_some_iff.1 h
    obtain ⟨g1, g2⟩ := renD_ok R h2 fun x hx => hu x (List.mem_cons_of_mem _ hx)
    obtain ⟨g3, g4, g5⟩ := renP_ok R hq (hu p List.mem_cons_self)
    refine ⟨fun x hx => ?_, ?_⟩
    · rcases List.mem_cons.1 hx with rfl | hx
      · exact ⟨g3, g4⟩
      · exact g1 x hx
    · rintro k ⟨x, hx, hk⟩
      rcases List.mem_cons.1 hx with rfl | hx
      · exact ⟨q, List.mem_cons_self, by rw [R.ok, g5]; exact hk⟩
      · obtain ⟨x', hx', hk'⟩ := g2 k ⟨x, hx, hk⟩
        exact ⟨x', List.mem_cons_of_mem _ hx', hk'⟩
theorem renL_ok {b : Nat} {ids : List Nat} {e e2 : Env S.T} (R : Ren b ids e e2) : ∀ {l l' : List Nat}, renL b ids l = some l' → (∀ i, i ∈ l → e.U i) → (∀ j, j ∈ l' → e2.U j) ∧ l.map e.β = l'.map e2.β
  | [], l', h, _ => by cases h; exact ⟨fun j hj => (by cases hj), rfl⟩
  | i :: l, l', h, hu => by
    obtain ⟨j, hj, h⟩ := Option.bind_eq_some_iff.1 h
    obtain ⟨d2, h2, rfl⟩ := Option.map_eq_some_iff.1 h
    obtain ⟨g1, g2⟩ := renL_ok R h2 fun x hx => hu x (List.mem_cons_of_mem _ hx)
    obtain ⟨g3, g4⟩ := renI_ok R hj (hu i List.mem_cons_self)
    refine ⟨fun q hq => ?_, by simp only [List.map_cons, g2, R.β, g4]⟩
    rcases List.mem_cons.1 hq with rfl | hq
    · exact g3
    · exact g1 q hq
def RenD (b : Nat) (ids : List Nat) (e e2 : Env S.T) : Prop := ∀ j s t c te d sv l h, lookB j e2.ob = some (s, .deep t c te d sv l h) → ∃ s0 d0 sv0 l0 h0, lookB (srcOf b ids j) e.ob = some (s0, .deep t c te d0 sv0 l0 h0) ∧ (sv = renV b sv0 ∨ sv = b)
theorem renV_lt {b sv : Nat} (h : sv < b) : renV b sv = sv := by unfold renV; rw [blt_iff.2 h]; rfl
theorem renV_ge {b sv : Nat} (h : ¬ sv < b) : renV b sv = b := by unfold renV; rw [blt_no h]; rfl
theorem renC_ok (L : Laws S Q) {b : Nat} {ids : List Nat} {e e2 : Env S.T} (R : Ren b ids e e2) (RD : RenD b ids e e2) {v : Value} {c c' : SC S.T} (h : hold Q e v c) (hr : renC b ids e.ob c = some c') : hold Q e2 v c' := by
  cases c with
  | rd t d l =>
    obtain ⟨hv, hr⟩ := bif_some hr
    obtain ⟨d', hd', rfl⟩ := Option.map_eq_some_iff.1 hr
    obtain ⟨g1, g2⟩ := renD_ok R hd' h.1
    exact ⟨g1, h.2.1, fun _ => by rw [R.w]; exact (h.2.2 hv).move L g2 fun _ _ => rfl⟩
  | row i =>
    obtain ⟨j, hj, rfl⟩ := Option.map_eq_some_iff.1 hr
    obtain ⟨g1, g2⟩ := renI_ok R hj h.1
    exact ⟨g1, by rw [R.β, g2]; exact h.2⟩
  | cut i n =>
    obtain ⟨j, hj, rfl⟩ := Option.map_eq_some_iff.1 hr
    obtain ⟨hu, h0, A, m, c, hb, hn, he⟩ := h
    obtain ⟨g1, g2⟩ := renI_ok R hj hu
    exact ⟨g1, h0, A, m, c, by rw [R.β, g2]; exact hb, hn, he⟩
  | ptr i o =>
    obtain ⟨j, hj, rfl⟩ := Option.map_eq_some_iff.1 hr
    obtain ⟨hu, g, hb, he⟩ := h
    obtain ⟨g1, g2⟩ := renI_ok R hj hu
    exact ⟨g1, g, by rw [R.β, g2]; exact hb, he⟩
  | elt i t n o =>
    obtain ⟨j, hj, rfl⟩ := Option.map_eq_some_iff.1 hr
    obtain ⟨hu, h0, g, m, c, hb, hm, he⟩ := h
    obtain ⟨g1, g2⟩ := renI_ok R hj hu
    exact ⟨g1, h0, g, m, c, by rw [R.β, g2]; exact hb, hm, he⟩
  | elr t d x o =>
    obtain ⟨hv, hr⟩ := bif_some hr
    obtain ⟨d', hd', rfl⟩ := Option.map_eq_some_iff.1 hr
    obtain ⟨g1, g2⟩ := renD_ok R hd' h.1
    obtain ⟨g, o', cs, he, hg, hc, hl, hx⟩ := h.2.2 hv
    exact ⟨g1, h.2.1, fun _ => ⟨g, o', cs, he, g2 g hg, by rw [R.w]; exact hc, hl, by rw [R.w]; exact L.mono _ _ _ _ _ _ g2 hx⟩⟩
  | fn f l =>
    obtain ⟨l', hl', rfl⟩ := Option.map_eq_some_iff.1 hr
    obtain ⟨g1, g2⟩ := renL_ok R hl' h.1
    exact ⟨g1, by rw [← g2]; exact h.2⟩
  | sub i sv j =>
    simp only [renC] at hr
    split at hr
    rotate_left
    · cases hr
    rename_i v' hl
    obtain ⟨hb, hr⟩ := bif_some hr
    have hb := beq_eq' hb
    obtain ⟨i', hi', rfl⟩ := Option.map_eq_some_iff.1 hr
    obtain ⟨h1, h2, h3, h4, h5⟩ := h
    obtain ⟨g1, g2⟩ := renI_ok R hi' h1
    have hl := lookD_ok hl
    rw [hb] at hl
    refine ⟨g1, ?_, h3, h4, fun s t c te d l hh ho => ?_⟩
    · by_cases hsb : sv < b
      · rw [renV_lt hsb]; exact R.lo _ hsb h2
      · rw [renV_ge hsb]; exact R.hi 0 (.inr rfl)
    · obtain ⟨s0, d0, sv0, l0, h0, q1, _⟩ := RD _ _ _ _ _ _ _ _ _ ho
      rw [g2] at q1
      have q2 : sv0 = sv := by
        rw [hl] at q1
        cases q1
        rfl
      subst q2
      obtain ⟨g, m, cp, k1, k2, k3⟩ := h5 _ _ _ _ _ _ _ q1
      exact ⟨g, m, cp, by rw [R.β, g2]; exact k1, k2, by rw [R.w]; exact k3⟩
  | sel i sv j k o => cases hr
  | mp i =>
    obtain ⟨j, hj, rfl⟩ := Option.map_eq_some_iff.1 hr
    obtain ⟨g1, g2⟩ := renI_ok R hj h.1
    exact ⟨g1, by rw [R.β, g2]; exact h.2⟩
  | tail i t n =>
    obtain ⟨j, hj, rfl⟩ := Option.map_eq_some_iff.1 hr
    obtain ⟨hu, h0, A, m, c, hb, hn, he⟩ := h
    obtain ⟨g1, g2⟩ := renI_ok R hj hu
    exact ⟨g1, h0, A, m, c, by rw [R.β, g2]; exact hb, hn, he⟩
  | _ => cases hr; exact h
theorem renCs_ok (L : Laws S Q) {b : Nat} {ids : List Nat} {e e2 : Env S.T} (R : Ren b ids e e2) (RD : RenD b ids e e2) : ∀ {cs cs' : List (SC S.T)} {vs : List Value}, All2 (hold Q e) vs cs → renCs b ids e.ob cs = some cs' → All2 (hold Q e2) vs cs'
  | [], cs', vs, h, hr => by cases hr; cases h; exact .nil
  | c :: cs, cs', vs, h, hr => by
    obtain ⟨c', h1, hr⟩ := Option.bind_eq_some_iff.1 hr
    obtain ⟨r', h2, rfl⟩ := Option.map_eq_some_iff.1 hr
    cases h with
    | cons ha hb => exact .cons (renC_ok L R RD ha h1) (renCs_ok L R RD hb h2)
theorem renX_ok (L : Laws S Q) {b : Nat} {ids : List Nat} {e e2 : Env S.T} (R : Ren b ids e e2) (RD : RenD b ids e e2) {v : Value} : ∀ {c c' : SX S.T}, holdX Q e v c → renX b ids e.ob c = some c' → holdX Q e2 v c'
  | .v (.c x), c', h, hr => by
    obtain ⟨y, hy, rfl⟩ := Option.map_eq_some_iff.1 hr
    exact renC_ok L R RD h hy
  | .v (.agg xs), c', h, hr => by
    obtain ⟨ys, hy, rfl⟩ := Option.map_eq_some_iff.1 hr
    obtain ⟨vs, rfl, hv⟩ := h
    exact ⟨vs, rfl, renCs_ok L R RD hv hy⟩
  | .tup _, c', h, hr => by cases hr
theorem matS_ok (L : Laws S Q) {b : Nat} {ids : List Nat} {e e2 : Env S.T} (R : Ren b ids e e2) (RD : RenD b ids e e2) {σ : St S.T} (ho : e.ob = σ.ob) {a : Act} (hs : ∀ s, holdX Q e (a.tmps.getD s undef) (σ.get s)) {R' : Type} : ∀ {l : List (Nat × TX)} {r : R'} {v : envS S.T l R'}, matS b ids σ l r = some v →
    (instS l v).2 = r ∧ ∀ s x, lookL s (instS l v).1 = some x → holdX Q e2 (a.tmps.getD s undef) x
  | [], r, v, h => by cases h; exact ⟨rfl, fun s x hx => by cases hx⟩
  | (s0, c0) :: l, r, v, h => by
    have key : (∃ r1, matS b ids σ l r = some r1 ∧ (instX c0 v).2 = r1) ∧ holdX Q e2 (a.tmps.getD s0 undef) (instX c0 v).1 := by
      have gen : ∀ {c0 : TX} {v : c0.env S.T (envS S.T l R')}, ((matS b ids σ l r).bind fun r => (renX b ids σ.ob (σ.get s0)).bind fun x => matX c0 x r) = some v → (∃ r1, matS b ids σ l r = some r1 ∧ (instX c0 v).2 = r1) ∧ holdX Q e2 (a.tmps.getD s0 undef) (instX c0 v).1 := by
        intro c0 v h
        obtain ⟨r1, h1, h⟩ := Option.bind_eq_some_iff.1 h
        obtain ⟨x, h2, h⟩ := Option.bind_eq_some_iff.1 h
        rw [← ho] at h2
        have h3 := renX_ok L R RD (hs s0) h2
        obtain ⟨g1, g2⟩ := matX_ok (Q := Q) (e := e2) h
        exact ⟨⟨r1, h1, g1⟩, g2 _ h3⟩
      cases c0 with
      | agg c => exact gen h
      | c c =>
        cases c with
        | un => exact ⟨⟨v, h, rfl⟩, trivial⟩
        | _ => exact gen h
    obtain ⟨⟨r1, h1, h2⟩, h3⟩ := key
    obtain ⟨g1, g2⟩ := matS_ok L R RD ho hs h1
    refine ⟨?_, fun s x hx => ?_⟩
    · show (instS l (instX c0 v).2).2 = r
      rw [h2]; exact g1
    · have hx : (bif Nat.beq s s0 then some (instX c0 v).1 else lookL s (instS l (instX c0 v).2).1) = some x := hx
      cases hb : Nat.beq s s0 with
      | true =>
        rw [hb] at hx
        cases hx
        rw [beq_eq' hb]
        exact h3
      | false =>
        rw [hb, h2] at hx
        exact g2 s x hx
def FromO (Q : Kind S) (b : Nat) (ids : List Nat) (e e2 : Env S.T) (j : Nat) (so : SO S.T) : Prop := ∃ s so0, e.ob (srcOf b ids j) = some (s, so0) ∧ (so0 = .ext ↔ so = .ext) ∧ (objHold Q e (srcOf b ids j) so0 → objHold Q e2 j so)
theorem matO_ok (L : Laws S Q) {b : Nat} {ids : List Nat} {e e2 : Env S.T} (R : Ren b ids e e2) (RD : RenD b ids e e2) {R' : Type} {c : TO} {j : Nat} {s tsv : Nat} {so0 so00 so1 : SO S.T} (ho : e.ob (srcOf b ids j) = some (s, so00)) (hext : so00 = .ext ↔ so0 = .ext) (hwk : objHold Q e (srcOf b ids j) so00 → objHold Q e (srcOf b ids j) so0) (hr : renO b ids e.ob tsv so0 = some so1) {r : R'} {v : c.env S.T R'} (hm : matO c so1 r = some v) :
    (instO c v).2 = r ∧ ∀ so, (instO c v).1 = some so → FromO Q b ids e e2 j so := by
  cases so0 with
  | ext =>
    cases hr
    cases c with
    | ext => cases hm; exact ⟨rfl, fun so h => by cases h; exact ⟨s, _, ho, ⟨fun _ => rfl, fun _ => hext.2 rfl⟩, fun _ => trivial⟩⟩
    | dead => cases hm
    | var t cs => cases hm
    | row t d => cases hm
    | deep t c te d sv => cases hm
    | mp k => cases hm
  | var t cs =>
    have hne : so00 ≠ .ext := fun h => by have := hext.1 h; cases this
    obtain ⟨cs1, h1, rfl⟩ := Option.map_eq_some_iff.1 hr
    cases c with
    | ext => cases hm
    | dead => cases hm
    | row t d => cases hm
    | deep t c te d sv => cases hm
    | mp k => cases hm
    | var t' cs' =>
      have hm2 : (bif Nat.beq t' t then matCs cs' cs1 r else none) = some v := hm
      obtain ⟨ht, hm3⟩ := bif_some hm2
      have ht := beq_eq' ht
      subst ht
      obtain ⟨g1, g2⟩ := matCs_ok (Q := Q) (e := e2) hm3
      refine ⟨g1, fun so h => ?_⟩
      cases h
      refine ⟨s, _, ho, ⟨fun h => absurd h hne, fun h => (by cases h)⟩, fun h0 => ?_⟩
      obtain ⟨g, vs, hb, hok, hh, hc⟩ := hwk h0
      exact ⟨g, vs, by rw [R.β]; exact hb, by rw [R.ok]; exact hok, by rw [R.w]; exact hh, g2 _ (renCs_ok L R RD hc h1)⟩
  | row t d l =>
    have hne : so00 ≠ .ext := fun h => by have := hext.1 h; cases this
    obtain ⟨hv, hr⟩ := bif_some hr
    obtain ⟨d1, h1, rfl⟩ := Option.map_eq_some_iff.1 hr
    cases c with
    | ext => cases hm
    | dead => cases hm
    | var t d => cases hm
    | deep t c te d sv => cases hm
    | mp k => cases hm
    | row t' d' =>
      simp only [matO] at hm
      split at hm
      · rename_i ht
        subst ht
        have hm2 : (bif dpEq d' d1 then some (l, r) else none) = some v := hm
        obtain ⟨hd, hm3⟩ := bif_some hm2
        have hd := dpEq_eq hd
        subst hd
        cases hm3
        refine ⟨rfl, fun so h => ?_⟩
        cases h
        refine ⟨s, _, ho, ⟨fun h => absurd h hne, fun h => (by cases h)⟩, fun h0 => ?_⟩
        obtain ⟨hdl, hown, cs, hr, hreps⟩ := hwk h0
        obtain ⟨g1, g2⟩ := renD_ok R h1 hdl
        refine ⟨g1, by rw [R.β, R.ok]; exact hown, cs, by rw [R.β, R.w]; exact hr, fun _ => ?_⟩
        rw [R.β, R.ok, R.w]
        refine reps_imp (fun x c hx => L.mono _ _ _ _ _ _ ?_ hx) (hreps hv)
        rintro k (hk | hk)
        · exact .inl hk
        · exact .inr (g2 k hk)
      · cases hm
  | deep t c0 te d sv l hh =>
    have hne : so00 ≠ .ext := fun h => by have := hext.1 h; cases this
    obtain ⟨hv, hr⟩ := bif_some hr
    obtain ⟨d1, h1, rfl⟩ := Option.map_eq_some_iff.1 hr
    cases c with
    | ext => cases hm
    | dead => cases hm
    | var t d => cases hm
    | row t d => cases hm
    | deep t' c' te' d' sv' =>
      cases hh with
      | some j0 => cases hm
      | none =>
        simp only [matO] at hm
        split at hm
        rotate_left
        · cases hm
        rename_i ht
        subst ht
        obtain ⟨hb, hm3⟩ := bif_some hm
        simp only [Bool.and_eq_true] at hb
        obtain ⟨⟨⟨hb1, hb2⟩, hb3⟩, hb4⟩ := hb
        have e1 := beq_eq' hb1
        have e2' := beq_eq' hb2
        have e3 := dpEq_eq hb3
        have e4 := beq_eq' hb4
        subst e1 e2' e3
        cases hm3
        refine ⟨rfl, fun so h => ?_⟩
        cases h
        refine ⟨s, _, ho, ⟨fun h => absurd h hne, fun h => (by cases h)⟩, fun h0 => ?_⟩
        obtain ⟨hx, hf, hdl, hsv, hown, cs, hr, B, R0, hB, hBd, hR, hall⟩ := hwk h0
        obtain ⟨g1, g2⟩ := renD_ok R h1 hdl
        refine ⟨hx, hf, g1, ?_, by rw [R.β, R.ok]; exact hown, cs, by rw [R.β, R.w]; exact hr, B, R0, by rw [R.β, R.ok]; exact hB, hBd, by rw [R.β, R.ok]; exact hR, fun _ n x hn => ?_⟩
        · have hbU : e2.U b := R.hi 0 (.inr rfl)
          rw [e4]
          cases hq : Nat.beq tsv b with
          | true => exact hbU
          | false =>
            show e2.U (renV b sv)
            by_cases hsb : sv < b
            · rw [renV_lt hsb]; exact R.lo _ hsb hsv
            · rw [renV_ge hsb]; exact hbU
        · rw [R.w]
          obtain ⟨q1, q2⟩ := hall hv n x hn
          exact ⟨q1.move L fun k hk => ⟨hk.imp id (g2 k), rfl⟩, q2⟩
    | mp k => cases hm
  | mp k l =>
    have hne : so00 ≠ .ext := fun h => by have := hext.1 h; cases this
    cases hr
    cases c with
    | ext => cases hm
    | dead => cases hm
    | var t d => cases hm
    | row t d => cases hm
    | deep t c te d sv => cases hm
    | mp k' =>
      obtain ⟨hk, hm3⟩ := bif_some (show (bif kbeq k' k then some (l, r) else none) = some v from hm)
      have hk := kbeq_eq hk
      subst hk
      cases hm3
      refine ⟨rfl, fun so h => ?_⟩
      cases h
      refine ⟨s, _, ho, ⟨fun h => absurd h hne, fun h => (by cases h)⟩, fun h0 => ?_⟩
      obtain ⟨g, es, clock, h1, h2, h3, h4⟩ := hwk h0
      exact ⟨g, es, clock, by rw [R.β]; exact h1, by rw [R.ok]; exact h2, by rw [R.w]; exact h3, h4⟩
theorem weak_ok (L : Laws S Q) {e : Env S.T} {i : Nat} {so : SO S.T} (h : objHold Q e i so) : objHold Q e i (weak true so) := by
  cases so with
  | deep t c te d sv l hh =>
    cases hh with
    | none => exact deep_row L.toPre h
    | some j => exact h
  | _ => exact h
theorem weak_ext {so : SO S.T} : so = .ext ↔ weak true so = .ext := by
  cases so with
  | deep t c te d sv l hh => cases hh <;> (constructor <;> intro h <;> cases h)
  | _ => exact Iff.rfl
theorem matOs_ok (L : Laws S Q) {b : Nat} {ids : List Nat} {e e2 : Env S.T} (R : Ren b ids e e2) (RD : RenD b ids e e2) {R' : Type} : ∀ {l : List (Nat × TO)} {r : R'} {v : envO S.T l R'}, matOs b ids e.ob l r = some v →
    (instOs l v).2 = r ∧ ∀ j o, lookL j (instOs l v).1 = some o → (∃ c, (j, c) ∈ l ∧ (o = none ∨ isDead c = false)) ∧ ∀ so, o = some so → FromO Q b ids e e2 j so
  | [], r, v, h => by cases h; exact ⟨rfl, fun s x hx => by cases hx⟩
  | (j0, c0) :: l, r, v, h => by
    have key : (∃ r1, matOs b ids e.ob l r = some r1 ∧ (instO c0 v).2 = r1) ∧ ((instO c0 v).1 = none ∨ isDead c0 = false) ∧ ∀ so, (instO c0 v).1 = some so → FromO Q b ids e e2 j0 so := by
      have gen : ∀ {c0 : TO} {v : c0.env S.T (envO S.T l R')} (tsv : Nat) (wk : SO S.T → SO S.T) (hw1 : ∀ so, so = .ext ↔ wk so = .ext) (hw2 : ∀ so, objHold Q e (srcOf b ids j0) so → objHold Q e (srcOf b ids j0) (wk so)), isDead c0 = false → ((matOs b ids e.ob l r).bind fun r => match e.ob (srcOf b ids j0) with | some (_, so) => (renO b ids e.ob tsv (wk so)).bind fun x => matO c0 x r | none => none) = some v →
          (∃ r1, matOs b ids e.ob l r = some r1 ∧ (instO c0 v).2 = r1) ∧ ((instO c0 v).1 = none ∨ isDead c0 = false) ∧ ∀ so, (instO c0 v).1 = some so → FromO Q b ids e e2 j0 so := by
        intro c0 v tsv wk hw1 hw2 hdd h
        obtain ⟨r1, h1, h⟩ := Option.bind_eq_some_iff.1 h
        split at h
        · rename_i s so0 ho
          obtain ⟨x, h2, h⟩ := Option.bind_eq_some_iff.1 h
          obtain ⟨g1, g2⟩ := matO_ok L R RD ho (hw1 so0) (hw2 so0) h2 h
          exact ⟨⟨r1, h1, g1⟩, .inr hdd, g2⟩
        · cases h
      cases c0 with
      | dead => exact ⟨⟨v, h, rfl⟩, .inl rfl, fun so h => by cases h⟩
      | ext => exact gen 0 id (fun _ => Iff.rfl) (fun _ h => h) rfl h
      | var t c => exact gen 0 id (fun _ => Iff.rfl) (fun _ h => h) rfl h
      | row t d => exact gen 0 (weak true) (fun _ => weak_ext) (fun _ h => weak_ok L h) rfl h
      | deep t c te d sv => exact gen sv id (fun _ => Iff.rfl) (fun _ h => h) rfl h
      | mp k => exact gen 0 id (fun _ => Iff.rfl) (fun _ h => h) rfl h
    obtain ⟨⟨r1, h1, h2⟩, h3, h4⟩ := key
    obtain ⟨g1, g2⟩ := matOs_ok L R RD h1
    refine ⟨?_, fun j o hx => ?_⟩
    · show (instOs l (instO c0 v).2).2 = r
      rw [h2]; exact g1
    · have hx : (bif Nat.beq j j0 then some (instO c0 v).1 else lookL j (instOs l (instO c0 v).2).1) = some o := hx
      cases hb : Nat.beq j j0 with
      | true =>
        rw [hb] at hx
        cases hx
        have := beq_eq' hb
        subst this
        exact ⟨⟨c0, List.mem_cons_self, h3⟩, h4⟩
      | false =>
        rw [hb, h2] at hx
        obtain ⟨⟨c, hc, hn⟩, g3⟩ := g2 j o hx
        exact ⟨⟨c, List.mem_cons_of_mem _ hc, hn⟩, g3⟩
theorem matOs_deep {b : Nat} {ids : List Nat} {ob : Ob S.T} {R' : Type} : ∀ {l : List (Nat × TO)} {r : R'} {v : envO S.T l R'}, matOs b ids ob l r = some v → ∀ j t c te d sv l0 h, lookL j (instOs l v).1 = some (some (.deep t c te d sv l0 h)) →
    ∃ s0 d0 sv0 l1 h1, ob (srcOf b ids j) = some (s0, .deep t c te d0 sv0 l1 h1) ∧ (sv = renV b sv0 ∨ sv = b)
  | [], r, v, h => fun j t c te d sv l0 hh hx => by cases hx
  | (j0, c0) :: l, r, v, h => by
    intro j t c te d sv l0 hh hx
    have hx : (bif Nat.beq j j0 then some (instO c0 v).1 else lookL j (instOs l (instO c0 v).2).1) = some (some (.deep t c te d sv l0 hh)) := hx
    have rest : ∀ {r1 : envO S.T l R'}, (∃ r0, matOs b ids ob l r0 = some r1) → lookL j (instOs l r1).1 = some (some (.deep t c te d sv l0 hh)) → ∃ s0 d0 sv0 l1 h1, ob (srcOf b ids j) = some (s0, .deep t c te d0 sv0 l1 h1) ∧ (sv = renV b sv0 ∨ sv = b) := fun ⟨r0, h1⟩ h2 => matOs_deep h1 _ _ _ _ _ _ _ _ h2
    cases c0 with
    | dead =>
      cases hb : Nat.beq j j0 with
      | true => rw [hb] at hx; cases hx
      | false => rw [hb] at hx; exact rest ⟨r, h⟩ hx
    | ext =>
      obtain ⟨r1, h1, h2⟩ := Option.bind_eq_some_iff.1 (show ((matOs b ids ob l r).bind _) = some v from h)
      cases hb : Nat.beq j j0 with
      | true => rw [hb] at hx; cases hx
      | false =>
        rw [hb] at hx
        refine rest ⟨r, h1⟩ ?_
        split at h2
        · obtain ⟨x, _, h2⟩ := Option.bind_eq_some_iff.1 h2
          cases x with
          | ext => cases h2; exact hx
          | _ => cases h2
        · cases h2
    | var t' cs =>
      obtain ⟨r1, h1, h2⟩ := Option.bind_eq_some_iff.1 (show ((matOs b ids ob l r).bind _) = some v from h)
      cases hb : Nat.beq j j0 with
      | true => rw [hb] at hx; cases hx
      | false =>
        rw [hb] at hx
        refine rest ⟨r, h1⟩ ?_
        split at h2
        · obtain ⟨x, _, h2⟩ := Option.bind_eq_some_iff.1 h2
          have h3 : (instO (.var t' cs) v).2 = r1 := by
            cases x with
            | var t2 cs2 =>
              obtain ⟨_, h4⟩ := bif_some (show (bif Nat.beq t' t2 then matCs cs cs2 r1 else none) = some v from h2)
              exact (matCs_snd h4)
            | _ => cases h2
          rw [h3] at hx
          exact hx
        · cases h2
    | row t' d' =>
      obtain ⟨r1, h1, h2⟩ := Option.bind_eq_some_iff.1 (show ((matOs b ids ob l r).bind _) = some v from h)
      cases hb : Nat.beq j j0 with
      | true => rw [hb] at hx; cases hx
      | false =>
        rw [hb] at hx
        refine rest ⟨r, h1⟩ ?_
        split at h2
        · obtain ⟨x, _, h2⟩ := Option.bind_eq_some_iff.1 h2
          cases x with
          | row t2 d2 l2 =>
            simp only [matO] at h2
            split at h2
            · rename_i ht
              subst ht
              obtain ⟨_, h4⟩ := bif_some h2
              cases h4
              exact hx
            · cases h2
          | _ => cases h2
        · cases h2
    | mp k' =>
      obtain ⟨r1, h1, h2⟩ := Option.bind_eq_some_iff.1 (show ((matOs b ids ob l r).bind _) = some v from h)
      cases hb : Nat.beq j j0 with
      | true => rw [hb] at hx; cases hx
      | false =>
        rw [hb] at hx
        refine rest ⟨r, h1⟩ ?_
        split at h2
        · obtain ⟨x, _, h2⟩ := Option.bind_eq_some_iff.1 h2
          cases x with
          | mp k2 l2 =>
            obtain ⟨_, h4⟩ := bif_some (show (bif kbeq k' k2 then some (l2, r1) else none) = some v from h2)
            cases h4
            exact hx
          | _ => cases h2
        · cases h2
    | deep t' c' te' d' sv' =>
      obtain ⟨r1, h1, h2⟩ := Option.bind_eq_some_iff.1 (show ((matOs b ids ob l r).bind _) = some v from h)
      split at h2
      rotate_left
      · cases h2
      rename_i s0 so0 hso
      obtain ⟨x, h5, h2⟩ := Option.bind_eq_some_iff.1 h2
      cases so0 with
      | deep t3 c3 te3 d3 sv3 l3 h3 =>
        obtain ⟨_, h5⟩ := bif_some h5
        obtain ⟨d4, _, rfl⟩ := Option.map_eq_some_iff.1 h5
        cases h3 with
        | some _ => cases h2
        | none =>
          simp only [matO] at h2
          split at h2
          rotate_left
          · cases h2
          rename_i ht
          subst ht
          obtain ⟨hbb, h4⟩ := bif_some h2
          cases h4
          cases hb : Nat.beq j j0 with
          | true =>
            rw [hb] at hx
            cases hx
            simp only [Bool.and_eq_true] at hbb
            obtain ⟨⟨⟨hb1, hb2⟩, _⟩, hb4⟩ := hbb
            have e1 := beq_eq' hb1
            have e2 := beq_eq' hb2
            have e4 := beq_eq' hb4
            subst e1 e2
            rw [beq_eq' hb]
            refine ⟨_, _, _, _, _, hso, ?_⟩
            cases hq : Nat.beq sv b with
            | true => exact .inr (beq_eq' hq)
            | false => rw [hq] at e4; exact .inl e4
          | false => rw [hb] at hx; exact rest ⟨r, h1⟩ hx
      | ext => cases h5; cases h2
      | var t3 cs3 =>
        obtain ⟨cs4, _, rfl⟩ := Option.map_eq_some_iff.1 (show (renCs b ids ob cs3).map _ = some x from h5)
        cases h2
      | mp k3 l3 => cases h5; cases h2
      | row t3 d3 l3 =>
        obtain ⟨_, h5⟩ := bif_some h5
        obtain ⟨d4, _, rfl⟩ := Option.map_eq_some_iff.1 h5
        cases h2
theorem instOs_keys {R' : Type} : ∀ {l : List (Nat × TO)} {v : envO S.T l R'} {j : Nat}, lookL j (instOs l v).1 = none → j ∉ keysM l
  | [], v, j, _ => by simp [keysM]
  | (j0, c0) :: l, v, j, h => by
    have h : (bif Nat.beq j j0 then some (instO c0 v).1 else lookL j (instOs l (instO c0 v).2).1) = none := h
    cases hb : Nat.beq j j0 with
    | true => rw [hb] at h; cases h
    | false =>
      rw [hb] at h
      have := instOs_keys h
      have hne : j ≠ j0 := fun e1 => by rw [e1, Nat.beq_refl] at hb; cases hb
      simp only [keysM, List.map_cons, List.mem_cons, not_or]
      exact ⟨hne, this⟩
end
end Go.Proofs.Ytheemkehedmlfaa.E
