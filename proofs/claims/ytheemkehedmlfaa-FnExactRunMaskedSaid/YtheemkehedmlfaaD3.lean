import Derived.Test.YtheemkehedmlfaaE8
set_option linter.unusedVariables false
set_option linter.unusedSimpArgs false
namespace Go.Proofs.Ytheemkehedmlfaa.E
open Go
theorem seg_l {β : Type} {cs news : List β} {n sz j : Nat} (hl : cs.length = n * sz) (hj : j < n) : ((cs ++ news).drop (j * sz)).take sz = (cs.drop (j * sz)).take sz := by
  have := mul_lt_of (sz := sz) hj
  apply List.ext_getElem?
  intro i
  rw [seg_get, seg_get]
  split
  · rw [List.getElem?_append_left (by omega)]
  · rfl
theorem seg_r {β : Type} {cs news : List β} {n sz j : Nat} (hl : cs.length = n * sz) : ((cs ++ news).drop ((n + j) * sz)).take sz = (news.drop (j * sz)).take sz := by
  apply List.ext_getElem?
  intro i
  rw [seg_get, seg_get]
  split
  · rw [Nat.add_mul, List.getElem?_append_right (by omega)]
    congr 1
    omega
  · rfl
theorem seg_take {β : Type} {cs : List β} {n sz j : Nat} (hj : j < n) : ((cs.take (n * sz)).drop (j * sz)).take sz = (cs.drop (j * sz)).take sz := by
  have := mul_lt_of (sz := sz) hj
  apply List.ext_getElem?
  intro i
  rw [seg_get, seg_get]
  split
  · rw [List.getElem?_take, if_pos (by omega)]
  · rfl
theorem foldl_none {T : Tys} {ob : Ob T} : ∀ {ks : List Nat} {a : Nat} {x : Nat × SO T}, (ks.map fun k => ((k, none) : Nat × Option (Nat × SO T))).foldl put1 ob a = some x → a ∉ ks ∧ ob a = some x
  | [], a, x, h => ⟨by simp, h⟩
  | k :: ks, a, x, h => by
    rw [List.map_cons, List.foldl_cons] at h
    obtain ⟨h1, h2⟩ := foldl_none h
    obtain ⟨h3, h4⟩ := lookB_del (show lookB a (delB k ob) = some x from h2)
    exact ⟨by simp only [List.mem_cons, not_or]; exact ⟨h3, h1⟩, h4⟩
section
variable {S : Sig} {Q : Kind S}
theorem newDeep_ok (L : Laws S Q) {e : Env S.T} (I : Inv Q e) {fr : Nat} (hfr : ¬ e.U fr) {t : TypeId} {c : Nat} {te : TypeId} {d : Dp} {l : List (S.T t)} {cs : List Value} {cur : Array Value} {cap : Nat} (hx : S.xc t = some (c, te)) (hf : S.flat te = true)
    (hd : dlt e.U d) (hv : valid e.ob d = true) {ks : List Nat} (hks : ∀ k, k ∈ ks → ∃ s so, lookB k e.ob = some (s, so) ∧ so ≠ .ext) (hnk : ∀ k, k ∈ ks → noId k d = true) {B : Nat → Nat → Prop} (hB : ∀ j b, B j b → ∃ k, k ∈ ks ∧ e.ok k b) (hBd : ∀ j j' b, B j b → B j' b → j = j')
    (hlen : cs.length = l.length * S.sz t) (hall : ∀ j x, l[j]? = some x → RE Q t c te e.w (e.Fd d) x ((cs.drop (j * S.sz t)).take (S.sz t)) ∧ OE Q t c te e.w (B j) x ((cs.drop (j * S.sz t)).take (S.sz t)))
    (hcur : cur.size = cap * S.sz t) (htake : cur.toList.take (l.length * S.sz t) = cs) (hcap : l.length ≤ cap) (hm : cap ≤ maxLen) :
    Eff Q e fr (.slice (some ⟨e.w.heap.size, 0, none⟩) l.length cap) (e.w.alloc (.cells cur t)) ⟨.v (.c (.row fr)), (ks.map fun k => (k, none)) ++ [(fr, some (fr, .deep t c te d fr l none))]⟩ := by
  let v : Value := .slice (some ⟨e.w.heap.size, 0, none⟩) l.length cap
  let so' : SO S.T := .deep t c te d fr l none
  let F : Nat → Prop := fun b => b = e.w.heap.size ∨ ∃ k, k ∈ ks ∧ e.ok k b
  let ob' : Ob S.T := putB fr (fr, so') ((ks.map fun k => ((k, none) : Nat × Option (Nat × SO S.T))).foldl put1 e.ob)
  let e' : Env S.T := { w := e.w.alloc (.cells cur t), β := fun a => if a = fr then v else e.β a, ok := fun a => if a = fr then F else e.ok a, ob := ob', U := fun a => e.U a ∨ a = fr }
  have hsz : (e.w.alloc (.cells cur t)).heap.size = e.w.heap.size + 1 := by show (e.w.heap.push _).size = _; simp
  have hold : ∀ k, k < e.w.heap.size → (e.w.alloc (.cells cur t)).heap[k]? = e.w.heap[k]? := fun k hk => heap_alloc_old e.w _ hk
  have hob' : ∀ a x, lookB a ob' = some x → (a = fr ∧ x = (fr, so')) ∨ (¬ a = fr ∧ ¬ a ∈ ks ∧ lookB a e.ob = some x) := by
    intro a x hx
    rcases lookB_put hx with h | ⟨hne, h⟩
    · exact .inl h
    · obtain ⟨h1, h2⟩ := foldl_none h
      exact .inr ⟨hne, h1, h2⟩
  have hklt : ∀ b, (∃ k, k ∈ ks ∧ e.ok k b) → b < e.w.heap.size := by
    rintro b ⟨k, hk, hb⟩
    obtain ⟨s, so, h1, _⟩ := hks k hk
    exact I.lt _ _ _ h1 b hb
  have hβ : e'.β fr = v := if_pos rfl
  have hok : e'.ok fr = F := if_pos rfl
  have hvb : v.ownBlock = some e.w.heap.size := rfl
  have hFd : ∀ k, e.Fd d k → e'.Fd d k := by
    rintro k ⟨p, hp, hk⟩
    refine ⟨p, hp, ?_⟩
    show (if p.1 = fr then _ else e.ok p.1) k
    rw [if_neg (show ¬ p.1 = fr from fun e1 => hfr (e1 ▸ (hd p hp).1))]
    exact hk
  obtain ⟨h1, h2⟩ := events L I (e.w.alloc (.cells cur t)) (fun a => a ∈ ks) (fun a => a = fr) (fun _ => fr) (fun _ => v) (fun _ => F) (fun _ => so') e' (fun _ _ => hfr) (fun a ha => .inl ha) hks hob' (fun _ _ => by simp [so'])
    (by
      rintro a ha k (rfl | hk)
      · exact ⟨by omega, .inr (Nat.le_refl _)⟩
      · exact ⟨by have := hklt k hk; omega, .inl hk⟩)
    (fun a b ha hb hne => absurd (ha.trans hb.symm) hne) rfl rfl rfl (by omega) (fun k hk _ => hold k hk) (fun _ _ => rfl) rfl (fun a ha => by subst ha; exact hβ) (fun a ha => if_neg ha) (fun a ha => by subst ha; exact hok) (fun a ha => if_neg ha)
    (fun a => ⟨fun h => h.imp id fun h => ⟨fr, rfl, h⟩, fun h => h.imp id fun ⟨_, _, h⟩ => h⟩)
    (fun hH a ha => by
      subst ha
      refine ⟨hx, hf, hd.mono fun a h => .inl h, .inr rfl, ?_, cs, ?_, B, fun _ => False, ?_, hBd, fun k hk => hk.elim, fun _ j x hj => ?_⟩
      · rw [hβ, hok, hvb]
        rintro k hk
        cases hk
        exact .inl rfl
      · rw [hβ]
        exact ⟨hlen, .inr ⟨e.w.heap.size, cap, cur, rfl, Nat.zero_le _, heap_alloc_new e.w _, hcap, hm, hcur, htake⟩⟩
      · intro j k hk
        rw [hok, hβ, hvb]
        have := hB j k hk
        exact ⟨.inr this, fun e1 => by cases e1; have := hklt _ this; omega⟩
      · obtain ⟨g1, g2⟩ := hall j x hj
        exact ⟨g1.move L fun k hk => ⟨.inr (hFd k hk), hold k (Fd_lt I hv k hk)⟩, fun _ => g2.move L fun k hk => ⟨hk, hold k (hklt k (hB j k hk))⟩⟩)
    (by
      intro a ha _ _ _ _ _ _ _ h
      have h : (SO.deep t c te d fr l none : SO S.T) = _ := h
      cases h
      exact .inl ⟨fr, rfl, rfl⟩)
  refine ⟨e', rfl, h1, h2, ?_, hU8 e fr, .inr rfl, by rw [hβ]⟩
  show ob' = _
  simp only [Upd.obOf, List.foldl_append, List.foldl_cons, List.foldl_nil]
  rfl
theorem Rd.nil_of {t : TypeId} {F : Nat → Prop} {w : World} {l : List (S.T t)} (h : Rd Q t F w (.slice none 0 0) l) : l = [] := by
  obtain ⟨A, c, he, _, _⟩ := h
  cases hl : l with
  | nil => rfl
  | cons x r => rw [hl] at he; cases he
theorem litD_ok (L : Laws S Q) {e : Env S.T} (I : Inv Q e) {t : TypeId} {c : Nat} {te : TypeId} (hx : S.xc t = some (c, te)) (hf : S.flat te = true) : ∀ {css : List (List (SC S.T))} {vss : List (List Value)} {l : List (S.T t)} {d : Dp} {ks : List Nat}, litD e.ob t c te css = some (l, d, ks) → All2 (All2 (hold Q e)) vss css →
    (dlt e.U d ∧ valid e.ob d = true) ∧ (∀ k, k ∈ ks → ∃ s so, lookB k e.ob = some (s, so) ∧ so ≠ .ext) ∧ l.length = css.length ∧ (∀ u, u ∈ vss.flatten → u.oneCell' = true) ∧ vss.flatten.length = l.length * S.sz t ∧
    ∃ B : Nat → Nat → Prop, (∀ j b, B j b → ∃ k, k ∈ ks ∧ e.ok k b) ∧ (∀ j j' b, B j b → B j' b → j = j') ∧ ∀ j x, l[j]? = some x → RE Q t c te e.w (e.Fd d) x ((vss.flatten.drop (j * S.sz t)).take (S.sz t)) ∧ OE Q t c te e.w (B j) x ((vss.flatten.drop (j * S.sz t)).take (S.sz t))
  | [], _, l, d, ks, h, .nil => by
    simp only [litD, Option.some.injEq, Prod.mk.injEq] at h
    obtain ⟨rfl, rfl, rfl⟩ := h
    exact ⟨⟨fun p hp => (by cases hp), rfl⟩, fun k hk => (by cases hk), rfl, fun u hu => by simp at hu, by simp, fun _ _ => False, fun _ _ h => h.elim, fun _ _ _ h => h.elim, fun j x hj => by simp at hj⟩
  | cs :: css, _, l, d, ks, h, .cons (a := vs) (l := vss) h1 h2 => by
    simp only [litD] at h
    obtain ⟨p, hp, h⟩ := Option.bind_eq_some_iff.1 h
    obtain ⟨q, hq, h⟩ := Option.bind_eq_some_iff.1 h
    have hnil : hold Q e (.slice none 0 0) .nil := rfl
    obtain ⟨i1, i2, i3⟩ := L.inn t e _ _ p.1 p.2 I hp (h1.set hnil c)
    obtain ⟨j1, j2, j3, j4, j5, B, j6, j7, j8⟩ := litD_ok L I hx hf (l := q.1) (d := q.2.1) (ks := q.2.2) hq h2
    have hvl : vs.length = S.sz t := by
      have := L.len _ _ _ _ _ i3
      rwa [List.length_set] at this
    have hcc := L.xsz _ _ _ hx
    obtain ⟨v0, hv0, hv1, hv2, hv3⟩ := L.split _ c te _ _ _ _ hx i3
    rw [List.set_set] at hv2
    rw [List.getElem?_set_self (by omega)] at hv0
    cases hv0
    have hone1 : ∀ u, u ∈ vs.set c (.slice none 0 0) → u.oneCell' = true := L.one _ _ _ _ _ i3
    have m1 : ∀ k, e.Fd p.2 k → e.Fd (p.2 ++ q.2.1) k := fun k ⟨p, hp, hk⟩ => ⟨p, List.mem_append_left _ hp, hk⟩
    have m2 : ∀ k, e.Fd q.2.1 k → e.Fd (p.2 ++ q.2.1) k := fun k ⟨p, hp, hk⟩ => ⟨p, List.mem_append_right _ hp, hk⟩
    have hdv : dlt e.U (p.2 ++ q.2.1) ∧ valid e.ob (p.2 ++ q.2.1) = true := by
      refine ⟨fun x hx => (List.mem_append.1 hx).elim (i1 x) (j1.1 x), ?_⟩
      rw [valid_iff] at i2 ⊢
      exact fun p hp => (List.mem_append.1 hp).elim (i2 p) (valid_iff.1 j1.2 p)
    have hoth : ∀ x, x ∈ vs → ∀ a, vs[c]? = some a → a.oneCell' = true → x.oneCell' = true := by
      intro x hxm a ha hao
      obtain ⟨i, hi⟩ := List.mem_iff_getElem?.1 hxm
      by_cases hic : i = c
      · subst hic
        rw [ha] at hi
        cases hi
        exact hao
      · refine hone1 x (List.mem_of_getElem? (i := i) ?_)
        rw [List.getElem?_set_ne (fun e1 => hic e1.symm)]
        exact hi
    have hflat : (vs :: vss).flatten = vs ++ vss.flatten := List.flatten_cons
    have hs0 : ((vs ++ vss.flatten).drop (0 * S.sz t)).take (S.sz t) = vs := by rw [Nat.zero_mul, List.drop_zero, ← hvl, List.take_left]
    have hs1 : ∀ j, ((vs ++ vss.flatten).drop ((j + 1) * S.sz t)).take (S.sz t) = (vss.flatten.drop (j * S.sz t)).take (S.sz t) := by
      intro j
      have := seg_r (news := vss.flatten) (j := j) (show vs.length = 1 * S.sz t by omega)
      rw [Nat.add_comm 1 j] at this
      exact this
    rw [hflat]
    have fin : ∀ (x0 : S.T t) (ks' : List Nat) (B0 : Nat → Prop), RE Q t c te e.w (e.Fd (p.2 ++ q.2.1)) x0 vs → OE Q t c te e.w B0 x0 vs → (∀ b, B0 b → ∃ k, k ∈ ks' ∧ e.ok k b) → (∀ j b, B0 b → ¬ B j b) → (∀ k, k ∈ q.2.2 → k ∈ ks') → (∀ k, k ∈ ks' → ∃ s so, lookB k e.ob = some (s, so) ∧ so ≠ .ext) → (∃ a, vs[c]? = some a ∧ a.oneCell' = true) → l = x0 :: q.1 → d = p.2 ++ q.2.1 → ks = ks' →
        (dlt e.U d ∧ valid e.ob d = true) ∧ (∀ k, k ∈ ks → ∃ s so, lookB k e.ob = some (s, so) ∧ so ≠ .ext) ∧ l.length = (cs :: css).length ∧ (∀ u, u ∈ vs ++ vss.flatten → u.oneCell' = true) ∧ (vs ++ vss.flatten).length = l.length * S.sz t ∧
        ∃ B : Nat → Nat → Prop, (∀ j b, B j b → ∃ k, k ∈ ks ∧ e.ok k b) ∧ (∀ j j' b, B j b → B j' b → j = j') ∧ ∀ j x, l[j]? = some x → RE Q t c te e.w (e.Fd d) x (((vs ++ vss.flatten).drop (j * S.sz t)).take (S.sz t)) ∧ OE Q t c te e.w (B j) x (((vs ++ vss.flatten).drop (j * S.sz t)).take (S.sz t)) := by
      rintro x0 ks' B0 hre hoe hB0 hB0d hsub hal ⟨a, ha, hao⟩ rfl rfl rfl
      refine ⟨hdv, hal, by simp [j3], ?_, ?_, fun j b => match j with | 0 => B0 b | j + 1 => B j b, ?_, ?_, ?_⟩
      · intro u hu
        rcases List.mem_append.1 hu with hu | hu
        · exact hoth u hu a ha hao
        · exact j4 u hu
      · rw [List.length_append, j5, hvl, List.length_cons, Nat.add_mul]
        omega
      · intro j b hb
        cases j with
        | zero => exact hB0 b hb
        | succ j =>
          obtain ⟨k, hk, hb⟩ := j6 j b hb
          exact ⟨k, hsub k hk, hb⟩
      · intro j j' b hb hb'
        cases j <;> cases j'
        · rfl
        · exact (hB0d _ _ hb hb').elim
        · exact (hB0d _ _ hb' hb).elim
        · exact congrArg (· + 1) (j7 _ _ _ hb hb')
      · intro j x hj
        cases j with
        | zero =>
          simp at hj
          subst hj
          rw [hs0]
          exact ⟨hre, hoe⟩
        | succ j =>
          rw [hs1]
          obtain ⟨g1, g2⟩ := j8 j x (by simpa using hj)
          exact ⟨L.mono _ _ _ _ _ _ m2 g1, g2⟩
    have hre1 : RE Q t c te e.w (e.Fd (p.2 ++ q.2.1)) p.1 vs := L.mono _ _ _ _ _ _ m1 hv2
    split at h
    · rename_i hcc'
      simp only [Option.some.injEq, Prod.mk.injEq] at h
      obtain ⟨rfl, rfl, rfl⟩ := h
      have hn := Rd.nil_of hv3
      obtain ⟨a, ha, hh⟩ := h1.at_ c hcc'
      have hh : a = .slice none 0 0 := hh
      subst hh
      exact fin p.1 q.2.2 (fun _ => False) hre1 ⟨_, [], ha, by rw [hn]; exact World.ownsRow_nil _ _ _ _, by rw [hn]; rfl, fun k hk => by simp [Value.ownBlock] at hk⟩ (fun b hb => hb.elim) (fun _ _ hb => hb.elim) (fun k hk => hk) j2 ⟨_, ha, rfl⟩ rfl rfl rfl
    · rename_i k hcc'
      split at h
      · rename_i s3 t3 d3 lk hok
        split at h
        · rename_i ht
          subst ht
          obtain ⟨hg, h⟩ := bif_some' h
          simp only [Bool.and_eq_true] at hg
          simp only [Option.some.injEq, Prod.mk.injEq] at h
          obtain ⟨rfl, rfl, rfl⟩ := h
          obtain ⟨cj, r1, r2⟩ := rowFlat L.toPre I hok hf hg.2
          obtain ⟨_, _, _, hown, _⟩ := I.obj k s3 _ hok
          obtain ⟨a, ha, hh⟩ := h1.at_ c hcc'
          obtain ⟨_, rfl⟩ : _ ∧ a = e.β k := hh
          refine fin _ (k :: q.2.2) (fun b => e.ok k b) ?_ ⟨_, cj, ha, by rw [L.gs _ _ _ _ _ hx]; exact r1, by rw [L.gs _ _ _ _ _ hx]; exact r2, hown⟩ (fun b hb => ⟨k, List.mem_cons_self, hb⟩) (fun j b hb hb' => ?_) (fun k hk => List.mem_cons_of_mem _ hk) ?_ ⟨_, ha, I.one k⟩ rfl rfl rfl
          · unfold RE at hre1 ⊢
            rw [L.ss]
            exact hre1
          · obtain ⟨k', hk', hb'⟩ := j6 j b hb'
            have hne : k ≠ k' := by
              have := List.all_eq_true.1 hg.1 k' hk'
              intro e1
              rw [e1, Nat.beq_refl] at this
              cases this
            obtain ⟨s', so', g1, _⟩ := j2 k' hk'
            exact I.dis _ _ _ _ _ _ hok g1 hne b hb hb'
          · intro k' hk'
            rcases List.mem_cons.1 hk' with rfl | hk'
            · exact ⟨_, _, hok, by simp⟩
            · exact j2 k' hk'
        · cases h
      · cases h
    · cases h
structure BaseD (Q : Kind S) (e : Env S.T) (t : TypeId) (c : Nat) (te : TypeId) (v : Value) (id : Option Nat) (d : Dp) (l : List (S.T t)) (cs : List Value) (B : Nat → Nat → Prop) (R : Nat → Prop) : Prop where
  own : e.w.ownsRow 0 t (S.sz t) v l.length cs
  dl : dlt e.U d
  ids : ∀ i, id = some i → ∃ s so, lookB i e.ob = some (s, so) ∧ so ≠ .ext
  blk : ∀ k, v.ownBlock = some k → ∃ i, id = some i ∧ e.ok i k
  hB : ∀ j k, B j k → (∃ i, id = some i ∧ e.ok i k) ∧ some k ≠ v.ownBlock
  hBd : ∀ j j' k, B j k → B j' k → j = j'
  hR : ∀ k, R k → (∃ i, id = some i ∧ e.ok i k) ∧ some k ≠ v.ownBlock ∧ ∀ j, ¬ B j k
  all : ∀ j x, l[j]? = some x → RE Q t c te e.w (fun k => R k ∨ e.Fd d k) x ((cs.drop (j * S.sz t)).take (S.sz t)) ∧ OE Q t c te e.w (B j) x ((cs.drop (j * S.sz t)).take (S.sz t))
theorem BaseD.nil {e : Env S.T} {t : TypeId} {c : Nat} {te : TypeId} : BaseD Q e t c te (.slice none 0 0) none [] [] [] (fun _ _ => False) (fun _ => False) :=
  ⟨World.ownsRow_nil _ _ _ _, fun p hp => (by cases hp), fun i hi => (by cases hi), fun k hk => by simp [Value.ownBlock] at hk, fun _ _ h => h.elim, fun _ _ _ h => h.elim, fun _ h => h.elim, fun j x hj => by simp at hj⟩
theorem baseD_row (L : Laws S Q) {e : Env S.T} (I : Inv Q e) {i : Nat} {t : TypeId} {c : Nat} {te : TypeId} {p : List (S.T t) × Dp} (hp : baseD e.ob t c te (.row i) = some p) (hvd : valid e.ob p.2 = true) :
    S.xc t = some (c, te) ∧ S.flat te = true ∧ ∃ cs B R, BaseD Q e t c te (e.β i) (some i) p.2 p.1 cs B R := by
  simp only [baseD] at hp
  split at hp
  · rename_i s' t' c' te' d sv l ho
    split at hp
    · rename_i ht
      subst ht
      obtain ⟨hb, hp2⟩ := bif_some' hp
      simp only [Bool.and_eq_true] at hb
      have h1 := beq_eq' hb.1
      have h2 := beq_eq' hb.2
      clear hp
      subst h1 h2
      simp only [Option.some.injEq] at hp2
      subst hp2
      have ho := lookD_ok ho
      simp only at ho
      obtain ⟨hi, hs, hx, hf, hd, hsv, hown, cs, hr, B, R, hB, hBd, hR, hall⟩ := I.obj i s' _ ho
      exact ⟨hx, hf, cs, B, R, hr, hd, fun j hj => by cases hj; exact ⟨_, _, ho, by simp⟩, fun k hk => ⟨i, rfl, hown k hk⟩, fun j k hk => ⟨⟨i, rfl, (hB j k hk).1⟩, (hB j k hk).2⟩, hBd, fun k hk => ⟨⟨i, rfl, (hR k hk).1⟩, (hR k hk).2⟩, fun j x hj => ⟨(hall hvd j x hj).1, (hall hvd j x hj).2 (by simp)⟩⟩
    · cases hp
  · cases hp
theorem baseD_cut (L : Laws S Q) {e : Env S.T} (I : Inv Q e) {i : Nat} {n : Int} {t : TypeId} {c : Nat} {te : TypeId} {v : Value} (hv : hold Q e v (.cut i n)) {p : List (S.T t) × Dp} (hp : baseD e.ob t c te (.cut i n) = some p) (hvd : valid e.ob p.2 = true) :
    S.xc t = some (c, te) ∧ S.flat te = true ∧ ∃ cs B R, BaseD Q e t c te v (some i) p.2 p.1 cs B R := by
  simp only [baseD] at hp
  split at hp
  · rename_i s' t' c' te' d sv l ho
    split at hp
    · rename_i ht
      subst ht
      obtain ⟨hb, hp2⟩ := bif_some' hp
      simp only [Bool.and_eq_true] at hb
      have h1 := beq_eq' hb.1
      have h2 := beq_eq' hb.2
      clear hp
      subst h1 h2
      simp only [Option.some.injEq] at hp2
      subst hp2
      have ho := lookD_ok ho
      simp only at ho
      obtain ⟨hi, hs, hx, hf, hd, hsv, hown, cs, hr, B, R, hB, hBd, hR, hall⟩ := I.obj i s' _ ho
      refine ⟨hx, hf, ?_⟩
      have ids : ∀ j, some i = some j → ∃ s so, lookB j e.ob = some (s, so) ∧ so ≠ .ext := fun j hj => by cases hj; exact ⟨_, _, ho, by simp⟩
      obtain ⟨_, h0, A, m, cp, hβ, hnm, rfl⟩ := hv
      rcases hr.2 with ⟨h5, hl0⟩ | ⟨g, cap, cur, hβ', _, hh, hnc, hcm, hcs, htk⟩
      · rw [h5] at hβ
        cases hβ
        have hn0 : n.toNat = 0 := by omega
        simp only [hn0, List.take_zero]
        exact ⟨[], fun _ _ => False, fun _ => False, World.ownsRow_nil _ _ _ _, hd, ids, fun k hk => by simp [Value.ownBlock] at hk, fun _ _ h => h.elim, fun _ _ _ h => h.elim, fun _ h => h.elim, fun j x hj => by simp at hj⟩
      · rw [hβ'] at hβ
        cases hβ
        have hlen : (l.take n.toNat).length = n.toNat := by rw [List.length_take]; omega
        have hob : (e.β i).ownBlock = some g := by rw [hβ']; rfl
        rw [hob] at hB hR hown
        have hmul := Nat.mul_le_mul_right (S.sz t') hnm
        have hrl := hr.1
        refine ⟨cs.take (n.toNat * S.sz t'), B, R, ?_, hd, ids, fun k hk => ⟨i, rfl, hown k (by simpa [Value.ownBlock] using hk)⟩, fun j k hk => ⟨⟨i, rfl, (hB j k hk).1⟩, (hB j k hk).2⟩, hBd, fun k hk => ⟨⟨i, rfl, (hR k hk).1⟩, (hR k hk).2⟩, fun j x hj => ?_⟩
        · rw [hlen]
          refine ⟨by rw [List.length_take]; omega, .inr ⟨g, cp, cur, rfl, Nat.zero_le _, hh, by omega, hcm, hcs, ?_⟩⟩
          rw [← htk, List.take_take, Nat.min_eq_left hmul]
        · have hj1 : j < n.toNat := by
            have := (List.getElem?_eq_some_iff.1 hj).1
            simp only at this
            rw [hlen] at this
            exact this
          rw [List.getElem?_take, if_pos hj1] at hj
          rw [seg_take hj1]
          exact ⟨(hall hvd j x hj).1, (hall hvd j x hj).2 (by simp)⟩
    · cases hp
  · cases hp
theorem append_deep (L : Laws S Q) {e : Env S.T} (I : Inv Q e) {fr : Nat} (hfr : ¬ e.U fr) {t sl ty : TypeId} {c : Nat} {te : TypeId} (hx : S.xc t = some (c, te)) (hf : S.flat te = true) {v : Value} {id : Option Nat} {d : Dp} {l : List (S.T t)} {cs : List Value} {B : Nat → Nat → Prop} {R : Nat → Prop} (hb : BaseD Q e t c te v id d l cs B R) (hvd : valid e.ob d = true)
    {k : Nat} {q : Dp} {m : List (S.T t)} {news : List Value} {B2 : Nat → Nat → Prop} {R2 : Nat → Prop} (hk : BaseD Q e t c te (e.β k) (some k) q m news B2 R2) (hqv : valid e.ob q = true)
    (hik : ∀ i, id = some i → i ≠ k ∧ noId i q = true ∧ noId i d = true) (hkd : noId k d = true) (hkq : noId k q = true) (hsl : S.P.underlying sl = some (.slice t)) (hkn : S.known t = true) (hs1 : 1 ≤ S.sz t) (hb1 : 1 ≤ bytesOf S t) (hroom : (l.length + m.length) * bytesOf S t ≤ 140737488351232) :
    ∃ v' w1, (Builtin.append_ #[sl, sl] ty #[v, e.β k]).run S.P e.w = .ok v' w1 ∧ Eff Q e fr v' w1 ⟨.v (.c (.row fr)), (id.toList.map fun i => (i, none)) ++ [(k, none), (fr, some (fr, .deep t c te (d ++ q) fr (l ++ m) none))]⟩ := by
  obtain ⟨s3, so3, hk3, hk4⟩ := hk.ids k rfl
  have hone : ∀ u, u ∈ news → u.oneCell' = true := by
    intro u hu
    obtain ⟨a, ha⟩ := List.mem_iff_getElem?.1 hu
    have halt := (List.getElem?_eq_some_iff.1 ha).1
    rw [hk.own.1] at halt
    have hpos : 0 < S.sz t := by omega
    have hjl : a / S.sz t < m.length := (Nat.div_lt_iff_lt_mul hpos).2 halt
    obtain ⟨g1, g2⟩ := hk.all (a / S.sz t) _ (List.getElem?_eq_getElem hjl)
    have := DE_rep L.toPre hx g1 g2
    refine L.one _ _ _ _ _ this u ?_
    refine List.mem_of_getElem? (i := a % S.sz t) ?_
    rw [seg_get, if_pos (Nat.mod_lt _ hpos), Nat.mul_comm, Nat.div_add_mod]
    exact ha
  have hrun : ∃ v' w1, (Builtin.append_ #[sl, sl] ty #[v, e.β k]).run S.P e.w = .ok v' w1 ∧ w1.ownsRow 0 t (S.sz t) v' (l.length + m.length) (cs ++ news) ∧ e.w.grownBy w1 v.ownBlock ∧ (v'.ownBlock = v.ownBlock ∨ v'.ownBlock = some e.w.heap.size) ∧ v'.oneCell' = true := by
    rcases hk.own.2 with ⟨h1, h2⟩ | ⟨g, cap, cur, h1, _⟩
    · rw [h1, h2]
      have hl0 : m = [] := List.eq_nil_of_length_eq_zero h2
      have := hk.own.1
      rw [h2] at this
      exact append_cells L (ty := ty) hb.own (A := none) (len := 0) (c := 0) (news := news) (by simpa using this) (fun h => absurd rfl h) hone hsl hkn hs1 hb1 (by rw [h2] at hroom; exact hroom)
    · have hc := (own_cells hk.own h1).2
      rw [h1]
      exact append_cells L (ty := ty) hb.own (A := some ⟨g, 0, none⟩) (len := m.length) (c := cap) (news := news) hk.own.1 (fun _ => ⟨g, 0, rfl, hc⟩) hone hsl hkn hs1 hb1 hroom
  obtain ⟨v', w1, h1, h2, h3, h4, h6⟩ := hrun
  refine ⟨v', w1, h1, ?_⟩
  let so' : SO S.T := .deep t c te (d ++ q) fr (l ++ m) none
  let D : Nat → Prop := fun a => id = some a ∨ a = k
  let F : Nat → Prop := fun b => (∃ i, id = some i ∧ e.ok i b) ∨ e.ok k b ∨ (e.w.heap.size ≤ b ∧ b < w1.heap.size)
  let ob' : Ob S.T := putB fr (fr, so') (delB k ((id.toList.map fun i => ((i, none) : Nat × Option (Nat × SO S.T))).foldl put1 e.ob))
  let e' : Env S.T := { w := w1, β := fun a => if a = fr then v' else e.β a, ok := fun a => if a = fr then F else e.ok a, ob := ob', U := fun a => e.U a ∨ a = fr }
  have hDl : ∀ a, D a → ∃ s so, lookB a e.ob = some (s, so) ∧ so ≠ .ext := by
    rintro a (h | rfl)
    · exact hb.ids a h
    · exact ⟨s3, so3, hk3, hk4⟩
  have hob' : ∀ a x, lookB a ob' = some x → (a = fr ∧ x = (fr, so')) ∨ (¬ a = fr ∧ ¬ D a ∧ lookB a e.ob = some x) := by
    intro a x hx
    rcases lookB_put hx with h | ⟨hne, h⟩
    · exact .inl h
    · obtain ⟨h8, h9⟩ := lookB_del h
      obtain ⟨h10, h11⟩ := foldl_none h9
      refine .inr ⟨hne, ?_, h11⟩
      rintro (h | h)
      · exact h10 (by rw [h]; simp)
      · exact h8 h
  have hheap : ∀ b, b < e.w.heap.size → (∀ a, D a → ¬ e.ok a b) → w1.heap[b]? = e.w.heap[b]? := by
    intro b hbl hn
    refine h3.block b hbl fun e1 => ?_
    obtain ⟨i, hi, hki⟩ := hb.blk b e1.symm
    exact hn i (.inl hi) hki
  have hDlt : ∀ a, D a → ∀ b, e.ok a b → b < e.w.heap.size := fun a ha b hb => by
    obtain ⟨s, so, h, _⟩ := hDl a ha
    exact I.lt _ _ _ h b hb
  have mv : ∀ b, b < e.w.heap.size → some b ≠ v.ownBlock → w1.heap[b]? = e.w.heap[b]? := fun b hbl hne => h3.block b hbl hne
  have hkv : ∀ b, e.ok k b → some b ≠ v.ownBlock := by
    intro b hbk e1
    obtain ⟨i, hi, hki⟩ := hb.blk b e1.symm
    obtain ⟨s, so, h, _⟩ := hb.ids i hi
    exact I.dis _ _ _ _ _ _ h hk3 (hik i hi).1 b hki hbk
  have hFdv : ∀ d : Dp, (∀ i, id = some i → noId i d = true) → valid e.ob d = true → ∀ b, e.Fd d b → some b ≠ v.ownBlock := by
    intro d hn hv b hbd e1
    obtain ⟨i, hi, hki⟩ := hb.blk b e1.symm
    obtain ⟨s, so, h, _⟩ := hb.ids i hi
    exact Fd_off I h (hn i hi) hv b hbd hki
  have hv' : ∀ b, b < e.w.heap.size → some b ≠ v.ownBlock → some b ≠ v'.ownBlock := by
    intro b hb1 hb2
    rcases h4 with h4 | h4
    · rw [h4]; exact hb2
    · rw [h4]; intro e1; cases e1; omega
  have hβ : e'.β fr = v' := if_pos rfl
  have hok : e'.ok fr = F := if_pos rfl
  have hFd : ∀ d' : Dp, dlt e.U d' → (∀ x, x ∈ d' → x ∈ d ++ q) → ∀ b, e.Fd d' b → e'.Fd (d ++ q) b := by
    rintro d' hd' hsub b ⟨x, hx, hk⟩
    refine ⟨x, hsub x hx, ?_⟩
    show (if x.1 = fr then F else e.ok x.1) b
    rw [if_neg (show ¬ x.1 = fr from fun e1 => hfr (e1 ▸ (hd' x hx).1))]
    exact hk
  let B' : Nat → Nat → Prop := fun j b => if j < l.length then B j b else B2 (j - l.length) b
  let R' : Nat → Prop := fun b => R b ∨ R2 b
  have hB1 : ∀ j b, B j b → (∃ i, id = some i ∧ e.ok i b) ∧ some b ≠ v.ownBlock ∧ b < e.w.heap.size := fun j b hj => by
    obtain ⟨⟨i, hi, hk⟩, h2⟩ := hb.hB j b hj
    exact ⟨⟨i, hi, hk⟩, h2, hDlt i (.inl hi) b hk⟩
  have hB2 : ∀ j b, B2 j b → e.ok k b ∧ some b ≠ v.ownBlock ∧ b < e.w.heap.size := fun j b hj => by
    obtain ⟨⟨i, hi, hk'⟩, h2⟩ := hk.hB j b hj
    cases hi
    exact ⟨hk', hkv b hk', hDlt k (.inr rfl) b hk'⟩
  have hR1 : ∀ b, R b → (∃ i, id = some i ∧ e.ok i b) ∧ some b ≠ v.ownBlock ∧ b < e.w.heap.size ∧ ∀ j, ¬ B j b := fun b hj => by
    obtain ⟨⟨i, hi, hk⟩, h2, h3⟩ := hb.hR b hj
    exact ⟨⟨i, hi, hk⟩, h2, hDlt i (.inl hi) b hk, h3⟩
  have hR2 : ∀ b, R2 b → e.ok k b ∧ some b ≠ v.ownBlock ∧ b < e.w.heap.size ∧ ∀ j, ¬ B2 j b := fun b hj => by
    obtain ⟨⟨i, hi, hk'⟩, h2, h3⟩ := hk.hR b hj
    cases hi
    exact ⟨hk', hkv b hk', hDlt k (.inr rfl) b hk', h3⟩
  have hdis : ∀ b, (∃ i, id = some i ∧ e.ok i b) → ¬ e.ok k b := by
    rintro b ⟨i, hi, h⟩ h'
    obtain ⟨s, so, h9, _⟩ := hb.ids i hi
    exact I.dis _ _ _ _ _ _ h9 hk3 (hik i hi).1 b h h'
  obtain ⟨g1, g2⟩ := events L I w1 D (fun a => a = fr) (fun _ => fr) (fun _ => v') (fun _ => F) (fun _ => so') e' (fun _ _ => hfr) (fun a ha => .inl ha) hDl hob' (fun _ _ => by simp [so'])
    (by
      rintro a ha b (⟨i, hi, hbk⟩ | hbk | hbk)
      · exact ⟨Nat.lt_of_lt_of_le (hDlt i (.inl hi) b hbk) h3.size, .inl ⟨i, .inl hi, hbk⟩⟩
      · exact ⟨Nat.lt_of_lt_of_le (hDlt k (.inr rfl) b hbk) h3.size, .inl ⟨k, .inr rfl, hbk⟩⟩
      · exact ⟨hbk.2, .inr hbk.1⟩)
    (fun a b ha hb hne => absurd (ha.trans hb.symm) hne) h3.os h3.tape h3.output h3.size hheap (fun _ _ => h6) rfl (fun a ha => by subst ha; exact hβ) (fun a ha => if_neg ha) (fun a ha => by subst ha; exact hok) (fun a ha => if_neg ha)
    (fun a => ⟨fun h => h.imp (fun h => h) fun h => ⟨fr, rfl, h⟩, fun h => h.imp (fun h => h) fun ⟨_, _, h⟩ => h⟩)
    (fun hH a ha => by
      subst ha
      refine ⟨hx, hf, fun x hx => ?_, .inr rfl, ?_, cs ++ news, by rw [hβ, List.length_append]; exact h2, B', R', ?_, ?_, ?_, fun _ j x hj => ?_⟩
      · have : e.U x.1 ∧ e.U x.2 := (List.mem_append.1 hx).elim (hb.dl x) (hk.dl x)
        exact ⟨.inl this.1, .inl this.2⟩
      · intro b hbv
        rw [hβ] at hbv
        rw [hok]
        rcases h4 with h4 | h4
        · exact .inl (hb.blk b (h4 ▸ hbv))
        · rw [h4] at hbv
          cases hbv
          refine .inr (.inr ⟨Nat.le_refl _, ?_⟩)
          rcases h2.2 with ⟨rfl, _⟩ | ⟨g, _, _, rfl, _, hh, _⟩
          · cases h4
          · have : g = e.w.heap.size := by simpa [Value.ownBlock] using h4
            rw [← this]
            exact (Array.getElem?_eq_some_iff.1 hh).1
      · intro j b hj
        rw [hok, hβ]
        simp only [B'] at hj
        split at hj
        · obtain ⟨p1, p2, p3⟩ := hB1 j b hj
          exact ⟨.inl p1, hv' b p3 p2⟩
        · obtain ⟨p1, p2, p3⟩ := hB2 _ b hj
          exact ⟨.inr (.inl p1), hv' b p3 p2⟩
      · intro j j' b hj hj'
        simp only [B'] at hj hj'
        split at hj <;> split at hj'
        · exact hb.hBd _ _ _ hj hj'
        · exact (hdis b (hB1 _ _ hj).1 (hB2 _ _ hj').1).elim
        · exact (hdis b (hB1 _ _ hj').1 (hB2 _ _ hj).1).elim
        · have := hk.hBd _ _ _ hj hj'
          omega
      · rintro b (hbR | hbR)
        · obtain ⟨p1, p2, p3, p4⟩ := hR1 b hbR
          rw [hok, hβ]
          refine ⟨.inl p1, hv' b p3 p2, fun j hj => ?_⟩
          simp only [B'] at hj
          split at hj
          · exact p4 _ hj
          · exact hdis b p1 (hB2 _ _ hj).1
        · obtain ⟨p1, p2, p3, p4⟩ := hR2 b hbR
          rw [hok, hβ]
          refine ⟨.inr (.inl p1), hv' b p3 p2, fun j hj => ?_⟩
          simp only [B'] at hj
          split at hj
          · exact hdis b (hB1 _ _ hj).1 p1
          · exact p4 _ hj
      · show RE Q t c te w1 _ _ _ ∧ (_ → OE Q t c te w1 _ _ _)
        by_cases hjl : j < l.length
        · rw [seg_l hb.own.1 hjl]
          rw [List.getElem?_append_left hjl] at hj
          obtain ⟨p1, p2⟩ := hb.all j x hj
          refine ⟨p1.move L ?_, fun _ => p2.move L fun b hbj => ⟨?_, mv b (hB1 j b hbj).2.2 (hB1 j b hbj).2.1⟩⟩
          · rintro b (hbR | hbd)
            · exact ⟨.inl (.inl hbR), mv b (hR1 b hbR).2.2.1 (hR1 b hbR).2.1⟩
            · exact ⟨.inr (hFd d hb.dl (fun x hx => List.mem_append_left _ hx) b hbd), mv b (Fd_lt I hvd b hbd) (hFdv d (fun i hi => (hik i hi).2.2) hvd b hbd)⟩
          · simp only [B', if_pos hjl]
            exact hbj
        · obtain ⟨j', rfl⟩ : ∃ j', j = l.length + j' := ⟨j - l.length, by omega⟩
          rw [seg_r hb.own.1]
          rw [List.getElem?_append_right (by omega), Nat.add_sub_cancel_left] at hj
          obtain ⟨p1, p2⟩ := hk.all j' x hj
          refine ⟨p1.move L ?_, fun _ => p2.move L fun b hbj => ⟨?_, mv b (hB2 _ b hbj).2.2 (hB2 _ b hbj).2.1⟩⟩
          · rintro b (hbR | hbd)
            · exact ⟨.inl (.inr hbR), mv b (hR2 b hbR).2.2.1 (hR2 b hbR).2.1⟩
            · exact ⟨.inr (hFd q hk.dl (fun x hx => List.mem_append_right _ hx) b hbd), mv b (Fd_lt I hqv b hbd) (hFdv q (fun i hi => (hik i hi).2.1) hqv b hbd)⟩
          · simp only [B', if_neg hjl, Nat.add_sub_cancel_left]
            exact hbj)
    (by
      intro a ha _ _ _ _ _ _ _ h
      have h : (SO.deep t c te (d ++ q) fr (l ++ m) none : SO S.T) = _ := h
      cases h
      exact .inl ⟨fr, rfl, rfl⟩)
  refine ⟨e', rfl, g1, g2, ?_, hU8 e fr, .inr rfl, by rw [hβ]⟩
  show ob' = _
  simp only [Upd.obOf, List.foldl_append, List.foldl_cons, List.foldl_nil]
  rfl
theorem appendS_ok (L : Laws S Q) {e : Env S.T} (I : Inv Q e) {fr : Nat} (hfr : ¬ e.U fr) {i sv : Nat} {j : Int} {t sl ty : TypeId} {x : SC S.T} {v v2 : Value} (hv : hold Q e v (.sub i sv j)) (hv2 : hold Q e v2 x) (hsl : S.P.underlying sl = some (.slice t)) (hkn : S.known t = true) (hs1 : 1 ≤ S.sz t) (hb1 : 1 ≤ bytesOf S t)
    {u : Upd S.T} (h : (appendS e.ob fr i sv j t x).Can u) : ∃ v' w1, (Builtin.append_ #[sl, sl] ty #[v, v2]).run S.P e.w = .ok v' w1 ∧ Eff Q e fr v' w1 u := by
  unfold appendS at h
  split at h
  rotate_left
  · exact h.elim
  rename_i s t0 c te d sv' l hh hlook
  split at h
  rotate_left
  · exact h.elim
  rename_i ht
  subst ht
  obtain ⟨q, hq, h⟩ := can_or h
  obtain ⟨hg, h⟩ := can_guard h
  simp only [Bool.and_eq_true] at hg
  obtain ⟨hroom, h⟩ := can_br h
  have h := can_ret h
  subst h
  simp only [decide_eq_true_eq] at hroom
  obtain ⟨ho, hval, h1, h2⟩ := lookS_ok hlook
  simp only at ho hval h1 h2
  subst h1 h2
  obtain ⟨hi, hs, ho1⟩ := I.obj i s _ ho
  obtain ⟨g, m, cp, cs, cj, B, R, A⟩ := sub_at L.toPre ho1 hval (hv.2.2.2.2 _ _ _ _ _ _ _ ho)
  obtain ⟨q1, q2, B2, c2, rfl, hc, hsrc⟩ := asList_ok L I hv2 hq
  obtain ⟨news, hnl, hcell, hone, hrn⟩ : ∃ news : List Value, news.length = q.1.length * S.sz te ∧ (q.1.length ≠ 0 → ∃ g o, B2 = some ⟨g, o, none⟩ ∧ cellsAt e.w g o news) ∧ (∀ u, u ∈ news → u.oneCell' = true) ∧ reps (Q.rep te (fun _ => False) e.w) (S.sz te) q.1 news := by
    rcases Classical.em (q.1 = []) with h0 | h0
    · rw [h0]
      exact ⟨[], by simp, fun h => absurd rfl h, fun u hu => (by cases hu), rfl⟩
    · obtain ⟨g, o, news, rfl, _, hcs, hr⟩ := hsrc h0
      exact ⟨news, reps_len hr, fun _ => ⟨g, o, rfl, hcs⟩, reps_one L hr, reps_imp (fun x c hx => L.flat _ _ _ _ _ _ _ hg.1 hx) hr⟩
  obtain ⟨v', w1, r1, r2, r3, r4, r5⟩ := append_cells L (ty := ty) A.irow (A := B2) (len := q.1.length) (c := c2) (news := news) hnl hcell hone hsl hkn hs1 hb1 hroom
  refine ⟨v', w1, r1, ?_⟩
  have hlt := I.lt i s _ ho
  have hobk : (e.β i).ownBlock = some g := by rw [A.β]; rfl
  let so1 : SO S.T := .deep t0 c te d fr l (some j)
  let so2 : SO S.T := .row te [] (S.ax.gsl t0 c te (get t0 l j) ++ q.1)
  have hifr : i ≠ fr := fun e1 => hfr (e1 ▸ hi)
  let F1 : Nat → Prop := fun b => e.ok i b ∧ ¬ B j.toNat b
  let F2 : Nat → Prop := fun b => B j.toNat b ∨ (e.w.heap.size ≤ b ∧ b < w1.heap.size)
  let ob' : Ob S.T := putB fr (fr, so2) (putB i (fr, so1) e.ob)
  let e' : Env S.T := { w := w1, β := fun a => if a = fr then v' else e.β a, ok := fun a => if a = i then F1 else if a = fr then F2 else e.ok a, ob := ob', U := fun a => e.U a ∨ a = fr }
  have hβi : e'.β i = e.β i := if_neg hifr
  have hβf : e'.β fr = v' := if_pos rfl
  have hoki : e'.ok i = F1 := if_pos rfl
  have hokf : e'.ok fr = F2 := by show (if fr = i then F1 else if fr = fr then F2 else e.ok fr) = F2; rw [if_neg fun e1 => hifr e1.symm, if_pos rfl]
  have hoko : ∀ a, ¬ (a = i ∨ a = fr) → e'.ok a = e.ok a := by
    intro a ha
    rw [not_or] at ha
    show (if a = i then F1 else if a = fr then F2 else e.ok a) = e.ok a
    rw [if_neg ha.1, if_neg ha.2]
  have mv : ∀ b, b < e.w.heap.size → ¬ B j.toNat b → w1.heap[b]? = e.w.heap[b]? := fun b hbl hn => r3.block b hbl fun e1 => hn (A.iblk b e1.symm)
  have hFdo : ∀ b, e.Fd d b → e'.Fd d b ∨ e.ok i b := by
    rintro b ⟨x, hx, hk⟩
    by_cases hxi : x.1 = i
    · exact .inr (hxi ▸ hk)
    · refine .inl ⟨x, hx, ?_⟩
      rw [hoko x.1 (by rw [not_or]; exact ⟨hxi, fun e1 => hfr (e1 ▸ (A.dl x hx).1)⟩)]
      exact hk
  obtain ⟨g1, g2⟩ := events L I w1 (fun a => a = i) (fun a => a = i ∨ a = fr) (fun _ => fr) (fun a => if a = fr then v' else e.β a) (fun a => if a = i then F1 else F2) (fun a => if a = i then so1 else so2) e' (fun _ _ => hfr)
    (by
      rintro a (rfl | rfl)
      · exact .inr ⟨rfl, if_neg hifr⟩
      · exact .inl rfl)
    (by rintro a rfl; exact ⟨s, _, ho, by simp⟩)
    (by
      intro a x hx
      rcases lookB_put hx with ⟨rfl, rfl⟩ | ⟨hne, h⟩
      · exact .inl ⟨.inr rfl, by rw [if_neg fun e1 => hifr e1.symm]⟩
      · rcases lookB_put h with ⟨rfl, rfl⟩ | ⟨hne2, h⟩
        · exact .inl ⟨.inl rfl, by rw [if_pos rfl]⟩
        · exact .inr ⟨by rw [not_or]; exact ⟨hne2, hne⟩, hne2, h⟩)
    (by intro a _; by_cases ha : a = i <;> simp [ha, so1, so2])
    (by
      intro a ha b hb
      by_cases hai : a = i
      · simp only [if_pos hai] at hb
        exact ⟨Nat.lt_of_lt_of_le (hlt b hb.1) r3.size, .inl ⟨i, rfl, hb.1⟩⟩
      · simp only [if_neg hai] at hb
        rcases hb with hb | hb
        · have := (A.hB _ _ hb).1
          exact ⟨Nat.lt_of_lt_of_le (hlt b this) r3.size, .inl ⟨i, rfl, this⟩⟩
        · exact ⟨hb.2, .inr hb.1⟩)
    (by
      intro a b ha hb hne k hk hk'
      by_cases hai : a = i <;> by_cases hbi : b = i
      · exact hne (hai.trans hbi.symm)
      · simp only [if_pos hai, if_neg hbi] at hk hk'
        rcases hk' with hk' | hk'
        · exact hk.2 hk'
        · have := hlt k hk.1; omega
      · simp only [if_neg hai, if_pos hbi] at hk hk'
        rcases hk with hk | hk
        · exact hk'.2 hk
        · have := hlt k hk'.1; omega
      · rcases ha with ha | ha
        · exact absurd ha hai
        · rcases hb with hb | hb
          · exact absurd hb hbi
          · exact hne (ha.trans hb.symm))
    r3.os r3.tape r3.output r3.size (fun b hbl hn => mv b hbl fun hb => hn i rfl (A.hB _ _ hb).1)
    (by intro a _; by_cases ha : a = fr <;> simp only [ha, if_true, if_false]; exact r5; exact I.one a)
    rfl (fun a _ => rfl) (fun a ha => if_neg fun e1 => ha (.inr e1))
    (by
      rintro a (rfl | rfl)
      · rw [hoki, if_pos rfl]
      · rw [hokf, if_neg fun e1 => hifr e1.symm])
    hoko (fun a => ⟨fun h => h.imp id fun h => ⟨fr, .inr rfl, h⟩, fun h => h.imp id fun ⟨_, _, h⟩ => h⟩)
    (fun hH a ha => by
      rcases ha with rfl | rfl
      · rw [if_pos rfl]
        refine ⟨A.xc, A.flat, A.dl.mono fun a h => .inl h, .inr rfl, ?_, cs, ?_, fun j' b => j' ≠ j.toNat ∧ B j' b, fun b => R b ∨ (e.Fd d b ∧ e.ok a b ∧ b ≠ g ∧ ∀ j', ¬ B j' b), ?_, fun j1 j2 b h1 h2 => A.hBd _ _ _ h1.2 h2.2, ?_, fun _ j' x hj' => ?_⟩
        · rw [hβi, hoki, hobk]
          rintro b hb
          cases hb
          exact ⟨A.own, fun hb => (A.hB _ _ hb).2 rfl⟩
        · rw [hβi]
          refine ownsRow_move A.row fun b hb => ?_
          rw [hobk] at hb
          cases hb
          exact mv _ (hlt _ A.own) fun hb => (A.hB _ _ hb).2 rfl
        · rw [hβi, hoki, hobk]
          exact fun j' b hb => ⟨⟨(A.hB _ _ hb.2).1, fun h => hb.1 (A.hBd _ _ _ hb.2 h)⟩, fun e1 => (A.hB _ _ hb.2).2 (Option.some.inj e1)⟩
        · rw [hβi, hoki, hobk]
          rintro b (hb | ⟨_, hb, hbg, hbB⟩)
          · exact ⟨⟨(A.hR b hb).1, (A.hR b hb).2.2 _⟩, fun e1 => (A.hR b hb).2.1 (Option.some.inj e1), fun j' hj' => (A.hR b hb).2.2 _ hj'.2⟩
          · exact ⟨⟨hb, hbB _⟩, fun e1 => hbg (Option.some.inj e1), fun j' hj' => hbB _ hj'.2⟩
        · show RE Q t0 c te w1 _ _ _ ∧ (_ → OE Q t0 c te w1 _ _ _)
          obtain ⟨p1, p2⟩ := A.all j' x hj'
          have hnid : ∀ b, e.Fd d b → ¬ e.ok a b := Fd_off I ho hg.2.2 hval
          refine ⟨p1.move L ?_, fun hne => p2.move L fun b hb => ?_⟩
          · rintro b (hb | hb)
            · exact ⟨.inl (.inl hb), mv b (hlt b (A.hR b hb).1) ((A.hR b hb).2.2 _)⟩
            · rcases hFdo b hb with h | h
              · exact ⟨.inr h, mv b (Fd_lt I hval b hb) fun hB => hnid b hb (A.hB _ _ hB).1⟩
              · exact absurd h (hnid b hb)
          · have hjj : j' ≠ j.toNat := fun e1 => hne (by rw [e1, Int.toNat_of_nonneg hv.2.2.1])
            exact ⟨⟨hjj, hb⟩, mv b (hlt b (A.hB _ _ hb).1) fun h => hjj (A.hBd _ _ _ hb h)⟩
      · rw [if_neg fun e1 => hifr e1.symm]
        refine ⟨fun p hp => (by cases hp), fun b hb => ?_, cj ++ news, by rw [hβf, List.length_append]; exact r2, fun _ => ?_⟩
        · rw [hβf] at hb
          rw [hokf]
          rcases r4 with r4 | r4
          · rw [r4] at hb
            exact .inl (A.iblk b hb)
          · rw [r4] at hb
            cases hb
            refine .inr ⟨Nat.le_refl _, ?_⟩
            rcases r2.2 with ⟨rfl, _⟩ | ⟨g, _, _, rfl, _, hh, _⟩
            · cases r4
            · have : g = e.w.heap.size := by simpa [Value.ownBlock] using r4
              rw [← this]
              exact (Array.getElem?_eq_some_iff.1 hh).1
        · exact reps_app (reps_imp (fun x c hx => L.flat _ _ _ _ _ _ _ A.flat hx) A.ireps) (reps_imp (fun x c hx => L.flat _ _ _ _ _ _ _ A.flat hx) hrn))
    (by
      intro a ha _ _ _ _ _ _ _ h
      by_cases hai : a = i
      · simp only [if_pos hai] at h
        have h : (SO.deep t0 c te d fr l (some j) : SO S.T) = _ := h
        cases h
        exact .inl ⟨i, .inl rfl, rfl⟩
      · simp only [if_neg hai] at h
        have h : (SO.row te [] (S.ax.gsl t0 c te (get t0 l j) ++ q.1) : SO S.T) = _ := h
        cases h)
  refine ⟨e', rfl, g1, g2, rfl, hU8 e fr, .inr rfl, by rw [hβf]⟩
end
end Go.Proofs.Ytheemkehedmlfaa.E
