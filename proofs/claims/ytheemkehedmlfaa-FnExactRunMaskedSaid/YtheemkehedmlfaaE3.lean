import Derived.Test.YtheemkehedmlfaaE2
set_option linter.unusedVariables false
set_option linter.unusedSimpArgs false
namespace Go.Proofs.Ytheemkehedmlfaa.E
open Go
section
variable {S : Sig} {Q : Kind S}
theorem valid_iff {ob : Ob S.T} : ∀ {d : Dp}, valid ob d = true ↔ ∀ p, p ∈ d → ∃ so, lookB p.1 ob = some (p.2, so)
  | [] => by simp [valid]
  | p :: d => by
    have ih := @valid_iff ob d
    simp only [valid, Bool.and_eq_true, ih, List.mem_cons, forall_eq_or_imp]
    refine and_congr_left fun _ => ?_
    cases h : lookB p.1 ob with
    | none => simp
    | some x =>
      obtain ⟨s, so⟩ := x
      simp [Nat.beq_eq]
theorem dlt.mono {n m : Nat → Prop} {d : Dp} (h : dlt n d) (hm : ∀ a, n a → m a) : dlt m d := fun p hp => ⟨hm _ (h p hp).1, hm _ (h p hp).2⟩
theorem Rd.move (L : Laws S Q) {t : TypeId} {F F' : Nat → Prop} {w w1 : World} {v : Value} {l : List (S.T t)} (h : Rd Q t F w v l) (hF : ∀ k, F k → F' k) (hw : ∀ k, F k → w1.heap[k]? = w.heap[k]?) : Rd Q t F' w1 v l := by
  obtain ⟨A, c, e, hc, hr⟩ := h
  refine ⟨A, c, e, hc, fun hl => ?_⟩
  obtain ⟨g, o, cs, hA, hg, hcs, hrep⟩ := hr hl
  exact ⟨g, o, cs, hA, hF g hg, hcs.move (hw g hg), reps_imp (fun x c hx => L.mono _ _ _ _ _ _ hF (L.move _ _ _ _ _ _ hw hx)) hrep⟩
theorem ownsRow_move {w w1 : World} {t : TypeId} {sz n : Nat} {v : Value} {cs : List Value} (h : w.ownsRow 0 t sz v n cs) (hw : ∀ k, v.ownBlock = some k → w1.heap[k]? = w.heap[k]?) : w1.ownsRow 0 t sz v n cs := by
  refine ⟨h.1, ?_⟩
  rcases h.2 with h2 | ⟨g, cap, cur, rfl, hb, hg, r⟩
  · exact .inl h2
  · exact .inr ⟨g, cap, cur, rfl, hb, (hw g rfl).trans hg, r⟩
theorem hdrAt.move {e e' : Env S.T} {i i' sz c : Nat} {j : Int} {v : Value} (h : hdrAt e i sz c j v) (hβ : e'.β i' = e.β i) (hw : ∀ k, (e.β i).ownBlock = some k → e'.w.heap[k]? = e.w.heap[k]?) : hdrAt e' i' sz c j v := by
  obtain ⟨g, m, cp, h1, h2, h3⟩ := h
  refine ⟨g, m, cp, hβ.trans h1, h2, ?_⟩
  have := hw g (by rw [h1]; rfl)
  unfold World.cell? at h3 ⊢
  rw [this]
  exact h3
theorem RE.move (L : Laws S Q) {t : TypeId} {c : Nat} {te : TypeId} {w w1 : World} {F F' : Nat → Prop} {x : S.T t} {cs : List Value} (h : RE Q t c te w F x cs) (hF : ∀ k, F k → F' k ∧ w1.heap[k]? = w.heap[k]?) : RE Q t c te w1 F' x cs :=
  L.mono _ _ _ _ _ _ (fun k hk => (hF k hk).1) (L.move _ _ _ _ _ _ (fun k hk => (hF k hk).2) h)
theorem OE.move (L : Laws S Q) {t : TypeId} {c : Nat} {te : TypeId} {w w1 : World} {B B' : Nat → Prop} {x : S.T t} {cs : List Value} (h : OE Q t c te w B x cs) (hB : ∀ k, B k → B' k ∧ w1.heap[k]? = w.heap[k]?) : OE Q t c te w1 B' x cs := by
  obtain ⟨v, cj, h1, h3, h4, h5⟩ := h
  exact ⟨v, cj, h1, ownsRow_move h3 fun k hk => (hB k (h5 k hk)).2, reps_imp (fun x c hx => L.move _ _ _ _ _ _ (fun k hk => hk.elim) hx) h4, fun k hk => (hB k (h5 k hk)).1⟩
def keepH (e : Env S.T) (w1 : World) (i sz c : Nat) : Prop := ∀ j v, hdrAt e i sz c j v → ∃ g m cp, e.β i = .slice (some ⟨g, 0, none⟩) m cp ∧ j.toNat < m ∧ w1.cell? ⟨g, j.toNat * sz + c, none⟩ = some v
theorem keepH_of {e : Env S.T} {w1 : World} {i sz c : Nat} (hw : ∀ k, (e.β i).ownBlock = some k → w1.heap[k]? = e.w.heap[k]?) : keepH e w1 i sz c := by
  rintro j v ⟨g, m, cp, h1, h2, h3⟩
  refine ⟨g, m, cp, h1, h2, ?_⟩
  have := hw g (by rw [h1]; rfl)
  unfold World.cell? at h3 ⊢
  rw [this]
  exact h3
theorem hdrAt.keep {e e' : Env S.T} {i sz c : Nat} {j : Int} {v : Value} (h : hdrAt e i sz c j v) (hβ : e'.β i = e.β i) (hk : keepH e e'.w i sz c) : hdrAt e' i sz c j v := by
  obtain ⟨g, m, cp, h1, h2, h3⟩ := hk j v h
  exact ⟨g, m, cp, hβ.trans h1, h2, h3⟩
theorem hold_step (L : Laws S Q) {e e' : Env S.T} (hβ : ∀ i, e.U i → e'.β i = e.β i) (hnx : ∀ a, e.U a → e'.U a)
    (hold' : ∀ i s so, e.U i → e.U s → lookB i e'.ob = some (s, so) → (∃ so', lookB i e.ob = some (s, so')) ∧ (∀ k, e.ok i k → e'.ok i k) ∧ ∀ k, e.ok i k → e'.w.heap[k]? = e.w.heap[k]?)
    (hdp : ∀ i s t c te d sv l h, e.U i → e.U sv → lookB i e'.ob = some (s, .deep t c te d sv l h) → (∃ s0 d0 l0 h0, lookB i e.ob = some (s0, .deep t c te d0 sv l0 h0)) ∧ keepH e e'.w i (S.sz t) c) :
    ∀ {v : Value} {c : SC S.T}, hold Q e v c → hold Q e' v c := by
  have hv : ∀ {d : Dp}, dlt e.U d → valid e'.ob d = true → valid e.ob d = true ∧ (∀ k, e.Fd d k → e'.Fd d k) ∧ ∀ k, e.Fd d k → e'.w.heap[k]? = e.w.heap[k]? := by
    intro d hd hv
    rw [valid_iff] at hv
    refine ⟨valid_iff.2 fun p hp => ?_, ?_, ?_⟩
    · obtain ⟨so, h⟩ := hv p hp
      exact (hold' _ _ _ (hd p hp).1 (hd p hp).2 h).1
    · rintro k ⟨p, hp, hk⟩
      obtain ⟨so, h⟩ := hv p hp
      exact ⟨p, hp, (hold' _ _ _ (hd p hp).1 (hd p hp).2 h).2.1 k hk⟩
    · rintro k ⟨p, hp, hk⟩
      obtain ⟨so, h⟩ := hv p hp
      exact (hold' _ _ _ (hd p hp).1 (hd p hp).2 h).2.2 k hk
  intro v c h
  cases c with
  | rd t d l =>
    obtain ⟨hd, ho, hr⟩ := h
    refine ⟨hd.mono hnx, ho, fun hv' => ?_⟩
    obtain ⟨h1, h2, h3⟩ := hv hd hv'
    exact (hr h1).move L h2 h3
  | row i => exact ⟨hnx _ h.1, by rw [hβ i h.1]; exact h.2⟩
  | cut i n =>
    obtain ⟨hi, h0, A, m, c, hb, hn, he⟩ := h
    exact ⟨hnx _ hi, h0, A, m, c, by rw [hβ i hi]; exact hb, hn, he⟩
  | ptr i off =>
    obtain ⟨hi, g, hb, he⟩ := h
    exact ⟨hnx _ hi, g, by rw [hβ i hi]; exact hb, he⟩
  | elt i t j off =>
    obtain ⟨hi, h0, g, m, c, hb, hm, he⟩ := h
    exact ⟨hnx _ hi, h0, g, m, c, by rw [hβ i hi]; exact hb, hm, he⟩
  | elr t d x off =>
    obtain ⟨hd, ho, hr⟩ := h
    refine ⟨hd.mono hnx, ho, fun hv' => ?_⟩
    obtain ⟨h1, h2, h3⟩ := hv hd hv'
    obtain ⟨g, o, cs, he, hg, hcs, hl, hx⟩ := hr h1
    exact ⟨g, o, cs, he, h2 g hg, hcs.move (h3 g hg), hl, L.mono _ _ _ _ _ _ h2 (L.move _ _ _ _ _ _ h3 hx)⟩
  | fn f caps =>
    obtain ⟨hc, he⟩ := h
    refine ⟨fun i hi => hnx _ (hc i hi), he.trans ?_⟩
    rw [List.map_congr_left fun i hi => (hβ i (hc i hi)).symm]
  | sub i sv j =>
    obtain ⟨h1, h2, h3, h4, h5⟩ := h
    refine ⟨hnx _ h1, hnx _ h2, h3, h4, fun s t c te d l h hl => ?_⟩
    obtain ⟨⟨s0, d0, l0, h0, hl0⟩, hw⟩ := hdp i s t c te d sv l h h1 h2 hl
    exact (h5 _ _ _ _ _ _ _ hl0).keep (hβ i h1) hw
  | sel i sv j k off =>
    obtain ⟨h1, h2, h3, h3', h4, h5⟩ := h
    refine ⟨hnx _ h1, hnx _ h2, h3, h3', h4, fun s t c te d l h hl => ?_⟩
    obtain ⟨⟨s0, d0, l0, h0, hl0⟩, hw⟩ := hdp i s t c te d sv l h h1 h2 hl
    obtain ⟨g, m, cp, h6, h7, h8⟩ := h5 _ _ _ _ _ _ _ hl0
    exact ⟨g, m, cp, h6.keep (hβ i h1) hw, h7, h8⟩
  | mp i => exact ⟨hnx _ h.1, by rw [hβ i h.1]; exact h.2⟩
  | tail i t n =>
    obtain ⟨hi, h0, A, m, c, hb, hn, he⟩ := h
    exact ⟨hnx _ hi, h0, A, m, c, by rw [hβ i hi]; exact hb, hn, he⟩
  | _ => exact h
theorem obj_move (L : Laws S Q) {e e' : Env S.T} {i i' : Nat} {so : SO S.T} (h : objHold Q e i so) (hβ : e'.β i' = e.β i) (hU : ∀ a, e.U a → e'.U a) (hok : ∀ k, e.ok i k → e'.ok i' k) (hw : ∀ k, e.ok i k → e'.w.heap[k]? = e.w.heap[k]?)
    (hv : ∀ d, dlt e.U d → valid e'.ob d = true → valid e.ob d = true ∧ ∀ k, e.Fd d k → e'.Fd d k ∧ e'.w.heap[k]? = e.w.heap[k]?) (hH : ∀ v c, hold Q e v c → hold Q e' v c) : objHold Q e' i' so := by
  cases so with
  | ext => trivial
  | var t cs =>
    obtain ⟨g, vs, hb, hg, hh, hc⟩ := h
    exact ⟨g, vs, hβ.trans hb, hok g hg, (hw g hg).trans hh, hc.imp hH⟩
  | row t d l =>
    obtain ⟨hd, hown, cs, hr, hv'⟩ := h
    refine ⟨hd.mono hU, by rw [hβ]; exact fun k hk => hok k (hown k hk), cs, by rw [hβ]; exact ownsRow_move hr fun k hk => hw k (hown k hk), fun hval => ?_⟩
    obtain ⟨h1, h2⟩ := hv d hd hval
    refine reps_imp (fun x c hx => ?_) (hv' h1)
    rw [hβ]
    refine L.mono _ _ _ _ _ _ ?_ (L.move _ _ _ _ _ _ ?_ hx)
    · rintro k (hk | hk)
      · exact .inl ⟨hok k hk.1, hk.2⟩
      · exact .inr (h2 k hk).1
    · rintro k (hk | hk)
      · exact hw k hk.1
      · exact (h2 k hk).2
  | deep t c te d sv l h0 =>
    obtain ⟨hx, hf, hd, hs, hown, cs, hr, B, R, hB, hBd, hR, hv'⟩ := h
    refine ⟨hx, hf, hd.mono hU, hU _ hs, by rw [hβ]; exact fun k hk => hok k (hown k hk), cs, by rw [hβ]; exact ownsRow_move hr fun k hk => hw k (hown k hk), B, R, ?_, hBd, ?_, fun hval j x hj => ?_⟩
    · rw [hβ]; exact fun j k hk => ⟨hok k (hB j k hk).1, (hB j k hk).2⟩
    · rw [hβ]; exact fun k hk => ⟨hok k (hR k hk).1, (hR k hk).2⟩
    · obtain ⟨h1, h2⟩ := hv d hd hval
      refine ⟨(hv' h1 j x hj).1.move L ?_, fun hh => ((hv' h1 j x hj).2 hh).move L fun k hk => ⟨hk, hw k (hB j k hk).1⟩⟩
      rintro k (hk | hk)
      · exact ⟨.inl hk, hw k (hR k hk).1⟩
      · exact ⟨.inr (h2 k hk).1, (h2 k hk).2⟩
  | mp kk l =>
    obtain ⟨g, es, clock, h1, h2, h3, h4⟩ := h
    exact ⟨g, es, clock, hβ.trans h1, hok g h2, (hw g h2).trans h3, h4⟩
theorem events (L : Laws S Q) {e : Env S.T} (I : Inv Q e) (w1 : World) (D J : Nat → Prop) (ver : Nat → Nat) (V : Nat → Value) (F : Nat → Nat → Prop) (so : Nat → SO S.T) (e' : Env S.T)
    (hfr : ∀ a, J a → ¬ e.U (ver a)) (hj : ∀ a, J a → a = ver a ∨ (D a ∧ V a = e.β a))
    (hD : ∀ a, D a → ∃ s so, lookB a e.ob = some (s, so) ∧ so ≠ .ext)
    (hob : ∀ a x, lookB a e'.ob = some x → (J a ∧ x = (ver a, so a)) ∨ (¬ J a ∧ ¬ D a ∧ lookB a e.ob = some x))
    (hso : ∀ a, J a → so a ≠ .ext)
    (hF : ∀ a, J a → ∀ k, F a k → k < w1.heap.size ∧ ((∃ b, D b ∧ e.ok b k) ∨ e.w.heap.size ≤ k)) (hFd : ∀ a b, J a → J b → a ≠ b → ∀ k, F a k → F b k → False)
    (hos : w1.os = e.w.os) (htape : w1.tape = e.w.tape) (hout : w1.output = e.w.output) (hsize : e.w.heap.size ≤ w1.heap.size)
    (hheap : ∀ k, k < e.w.heap.size → (∀ a, D a → ¬ e.ok a k) → w1.heap[k]? = e.w.heap[k]?)
    (hone : ∀ a, J a → (V a).oneCell' = true)
    (hw : e'.w = w1) (hβJ : ∀ a, J a → e'.β a = V a) (hβN : ∀ a, ¬ J a → e'.β a = e.β a) (hokJ : ∀ a, J a → e'.ok a = F a) (hok : ∀ a, ¬ J a → e'.ok a = e.ok a) (hU : ∀ a, e'.U a ↔ e.U a ∨ ∃ b, J b ∧ a = ver b)
    (hobj : (∀ v c, hold Q e v c → hold Q e' v c) → ∀ a, J a → objHold Q e' a (so a))
    (hdp : ∀ a, J a → ∀ t c te d sv l h, so a = .deep t c te d sv l h → (∃ b, J b ∧ sv = ver b) ∨ ((∃ s0 d0 l0 h0, lookB a e.ob = some (s0, .deep t c te d0 sv l0 h0)) ∧ keepH e w1 a (S.sz t) c)) :
    Inv Q e' ∧ Le Q e e' := by
  have hnxle : ∀ a, e.U a → e'.U a := fun a ha => (hU a).2 (.inl ha)
  have hβ : ∀ a, e.U a → e'.β a = e.β a := by
    intro a ha
    rcases Classical.em (J a) with hJ | hJ
    · rw [hβJ a hJ]
      rcases hj a hJ with h | ⟨_, h⟩
      · exact absurd ha (by rw [h]; exact hfr a hJ)
      · exact h
    · exact hβN a hJ
  have far : ∀ a s so', lookB a e.ob = some (s, so') → ¬ D a → ∀ k, e.ok a k → w1.heap[k]? = e.w.heap[k]? := by
    intro a s so' h ha k hk
    refine hheap k (I.lt a s so' h k hk) fun b hb hbk => ?_
    obtain ⟨s2, so2, h2, _⟩ := hD b hb
    exact I.dis a b s s2 so' so2 h h2 (fun e1 => ha (e1 ▸ hb)) k hk hbk
  have oldObj : ∀ a s so', e.U s → lookB a e'.ob = some (s, so') → ¬ J a ∧ ¬ D a ∧ lookB a e.ob = some (s, so') := by
    intro a s so' hs h
    rcases hob a _ h with ⟨hJ, hx⟩ | h
    · have := congrArg Prod.fst hx
      simp at this
      rw [this] at hs
      exact absurd hs (hfr a hJ)
    · exact h
  have hH : ∀ v c, hold Q e v c → hold Q e' v c := by
    intro v c h
    refine hold_step L hβ hnxle ?_ ?_ h
    · intro a s so' ha hs h
      obtain ⟨h1, h2, h3⟩ := oldObj a s so' hs h
      exact ⟨⟨_, h3⟩, fun k hk => by rw [hok a h1]; exact hk, fun k hk => by rw [hw]; exact far a s so' h3 h2 k hk⟩
    · intro a s t c te d sv l hh ha hsv hl
      rcases hob a _ hl with ⟨hJ, hx⟩ | ⟨h1, h2, h3⟩
      · rcases hdp a hJ t c te d sv l hh (congrArg Prod.snd hx).symm with ⟨b, hb, rfl⟩ | ⟨h4, h5⟩
        · exact absurd hsv (hfr b hb)
        · exact ⟨h4, by rw [hw]; exact h5⟩
      · refine ⟨⟨_, _, _, _, h3⟩, keepH_of fun k hk => ?_⟩
        rw [hw]
        exact far a s _ h3 h2 k ((I.obj a s _ h3).2.2.2.2.2.2.1 k hk)
  have h0J : ¬ J 0 := by
    intro hJ
    rcases hj 0 hJ with h | ⟨h, _⟩
    · exact hfr 0 hJ (h ▸ I.zero)
    · obtain ⟨s, so0, h1, h2⟩ := hD 0 h
      exact h2 (I.z0 s so0 h1)
  have hz0 : ∀ s so, lookB 0 e'.ob = some (s, so) → so = .ext := by
    intro s so' h
    rcases hob 0 _ h with ⟨h1, _⟩ | ⟨_, _, h3⟩
    · exact absurd h1 h0J
    · exact I.z0 s so' h3
  refine ⟨⟨?_, ?_, hnxle 0 I.zero, hz0, ?_, ?_⟩, ⟨hH, hnxle, by rw [hw]; exact hos, by rw [hw]; exact htape, by rw [hw]; exact hout, by rw [hw]; exact hsize, ?_, ?_, ?_⟩⟩
  ·
    intro a s so' h
    rcases hob a _ h with ⟨hJ, hx⟩ | ⟨h1, h2, h3⟩
    · obtain ⟨rfl, rfl⟩ := Prod.mk.inj hx
      refine ⟨?_, (hU _).2 (.inr ⟨a, hJ, rfl⟩), hobj hH a hJ⟩
      rcases hj a hJ with h4 | ⟨hi', _⟩
      · exact (hU _).2 (.inr ⟨a, hJ, h4⟩)
      · obtain ⟨s2, so2, h2, _⟩ := hD a hi'
        exact hnxle _ (I.obj a s2 so2 h2).1
    · obtain ⟨hlt, hs, ho⟩ := I.obj a s so' h3
      refine ⟨hnxle _ hlt, hnxle _ hs, ?_⟩
      refine obj_move L ho (hβ a hlt) hnxle (fun k hk => by rw [hok a h1]; exact hk) (fun k hk => by rw [hw]; exact far a s _ h3 h2 k hk) (fun d hd hval => ?_) hH
      refine ⟨?_, ?_⟩
      · rw [valid_iff] at hval ⊢
        intro p hp
        obtain ⟨so2, h4⟩ := hval p hp
        obtain ⟨_, _, h5⟩ := oldObj _ _ _ (hd p hp).2 h4
        exact ⟨_, h5⟩
      · rintro k ⟨p, hp, hk⟩
        rw [valid_iff] at hval
        obtain ⟨so2, h4⟩ := hval p hp
        obtain ⟨h5, h6, h7⟩ := oldObj _ _ _ (hd p hp).2 h4
        exact ⟨⟨p, hp, by rw [hok _ h5]; exact hk⟩, by rw [hw]; exact far _ _ _ h7 h6 k hk⟩
  · intro a
    rcases Classical.em (J a) with hJ | hJ
    · rw [hβJ a hJ]; exact hone a hJ
    · rw [hβN a hJ]; exact I.one a
  · intro a s so' h k hk
    rcases hob a _ h with ⟨hJ, hx⟩ | ⟨h1, h2, h3⟩
    · rw [hokJ a hJ] at hk
      rw [hw]
      exact (hF a hJ k hk).1
    · rw [hok a h1] at hk
      have := I.lt a s so' h3 k hk
      rw [hw]
      omega
  · intro a b s s' so1 so2 h h' hne k hk hk'
    rcases hob a _ h with ⟨hJ, hx⟩ | ⟨h1, h2, h3⟩ <;> rcases hob b _ h' with ⟨hJ', hx'⟩ | ⟨h1', h2', h3'⟩
    · rw [hokJ a hJ] at hk
      rw [hokJ b hJ'] at hk'
      exact hFd a b hJ hJ' hne k hk hk'
    · rw [hokJ a hJ] at hk
      rw [hok b h1'] at hk'
      rcases (hF a hJ k hk).2 with ⟨c, hc, hck⟩ | hc
      · obtain ⟨s3, so3, h5, _⟩ := hD c hc
        exact I.dis c b s3 s' so3 so2 h5 h3' (fun e1 => h2' (e1 ▸ hc)) k hck hk'
      · have := I.lt b s' so2 h3' k hk'
        omega
    · rw [hokJ b hJ'] at hk'
      rw [hok a h1] at hk
      rcases (hF b hJ' k hk').2 with ⟨c, hc, hck⟩ | hc
      · obtain ⟨s3, so3, h5, _⟩ := hD c hc
        exact I.dis c a s3 s so3 so1 h5 h3 (fun e1 => h2 (e1 ▸ hc)) k hck hk
      · have := I.lt a s so1 h3 k hk
        omega
    · rw [hok a h1] at hk
      rw [hok b h1'] at hk'
      exact I.dis a b s s' so1 so2 h3 h3' hne k hk hk'
  · intro k hk hn
    rw [hw]
    refine hheap k hk fun a ha hak => hn ?_
    obtain ⟨s, so2, h2, h3⟩ := hD a ha
    exact ⟨a, s, so2, h2, h3, hak⟩
  · rintro k ⟨a, s, so', h, hne, hk⟩
    rcases hob a _ h with ⟨hJ, hx⟩ | ⟨h1, h2, h3⟩
    · rw [hokJ a hJ] at hk
      rcases (hF a hJ k hk).2 with ⟨c, hc, hck⟩ | hc
      · obtain ⟨s3, so3, h5, h6⟩ := hD c hc
        exact .inl ⟨c, s3, so3, h5, h6, hck⟩
      · exact .inr hc
    · rw [hok a h1] at hk
      exact .inl ⟨a, s, so', h3, hne, hk⟩
  · intro k hk
    rw [hok 0 h0J] at hk
    exact hk
theorem event (L : Laws S Q) {e : Env S.T} (I : Inv Q e) (w1 : World) (v : Value) (F : Nat → Prop) (ob' : Ob S.T) (so : SO S.T) (i : Option Nat) (j fr : Nat)
    (hfr : ¬ e.U fr) (hj : j = fr ∨ (i = some j ∧ v = e.β j))
    (hi : ∀ a, i = some a → ∃ s so, lookB a e.ob = some (s, so) ∧ so ≠ .ext)
    (hob : ∀ a x, lookB a ob' = some x → (a = j ∧ x = (fr, so)) ∨ (a ≠ j ∧ i ≠ some a ∧ lookB a e.ob = some x))
    (hso : so ≠ .ext)
    (hF : ∀ k, F k → k < w1.heap.size ∧ ((∃ a, i = some a ∧ e.ok a k) ∨ e.w.heap.size ≤ k))
    (hos : w1.os = e.w.os) (htape : w1.tape = e.w.tape) (hout : w1.output = e.w.output) (hsize : e.w.heap.size ≤ w1.heap.size)
    (hheap : ∀ k, k < e.w.heap.size → (∀ a, i = some a → ¬ e.ok a k) → w1.heap[k]? = e.w.heap[k]?)
    (hone : v.oneCell' = true)
    (e' : Env S.T) (he' : e' = { w := w1, β := fun a => if a = j then v else e.β a, ok := fun a => if a = j then F else e.ok a, ob := ob', U := fun a => e.U a ∨ a = fr })
    (hobj : (∀ v c, hold Q e v c → hold Q e' v c) → objHold Q e' j so)
    (hdp : ∀ t c te d sv l h, so = .deep t c te d sv l h → sv = fr ∨ ((∃ s0 d0 l0 h0, lookB j e.ob = some (s0, .deep t c te d0 sv l0 h0)) ∧ keepH e w1 j (S.sz t) c) := by intro _ _ _ _ _ _ _ h; first | (cases h; done) | (simp +zetaDelta at h; done)) :
    Inv Q e' ∧ Le Q e e' := by
  refine events L I w1 (fun a => i = some a) (fun a => a = j) (fun _ => fr) (fun _ => v) (fun _ => F) (fun _ => so) e' (fun _ _ => hfr) ?_ hi ?_ (fun _ _ => hso) (fun _ _ => hF) (fun a b ha hb hne => absurd (ha.trans hb.symm) hne) hos htape hout hsize hheap (fun _ _ => hone) (by rw [he']) ?_ ?_ ?_ ?_ ?_ (fun hH a ha => by rw [ha]; exact hobj hH) ?_
  · rintro a rfl; exact hj
  · intro a x hx
    rw [he'] at hx
    exact hob a x hx
  · rintro a rfl; rw [he']; exact if_pos rfl
  · intro a ha; rw [he']; exact if_neg ha
  · rintro a rfl; rw [he']; exact if_pos rfl
  · intro a ha; rw [he']; exact if_neg ha
  · intro a
    rw [he']
    exact ⟨fun h => h.imp id fun h => ⟨j, rfl, h⟩, fun h => h.imp id fun ⟨_, _, h⟩ => h⟩
  · rintro a rfl t c te d sv l h hs
    exact (hdp t c te d sv l h hs).imp (fun h => ⟨a, rfl, h⟩) id
end
end Go.Proofs.Ytheemkehedmlfaa.E
