import Derived.Test.YtdpggojdmabnkaaE2
/-! The engine, fourth text: what an event leaves as it was. -/
set_option linter.unusedVariables false
set_option linter.unusedSimpArgs false
namespace Go.Proofs.Ytdpggojdmabnkaa.E
open Go
section
variable {S : Sig} {Q : Kind S}
theorem valid_iff {ob : Ob S.T} : ∀ {d : Dp}, valid ob d = true ↔ ∀ p, p ∈ d → ∃ so, lookB p.1 ob = some (p.2, so)
  | [] => by simp [valid]
  | p :: d => by
    have ih := @valid_iff ob d
    simp only [valid, Bool.and_eq_true, ih, List.mem_cons, forall_eq_or_imp]
    refine and_congr_left fun _ => ?_
    cases h : lookB p.1 ob with
    | none => simp
    | some x =>
      obtain ⟨s, so⟩ := x
      simp [Nat.beq_eq]
theorem dlt.mono {n m : Nat → Prop} {d : Dp} (h : dlt n d) (hm : ∀ a, n a → m a) : dlt m d := fun p hp => ⟨hm _ (h p hp).1, hm _ (h p hp).2⟩
theorem Rd.move (L : Laws S Q) {t : TypeId} {F F' : Nat → Prop} {w w1 : World} {v : Value} {l : List (S.T t)} (h : Rd Q t F w v l) (hF : ∀ k, F k → F' k) (hw : ∀ k, F k → w1.heap[k]? = w.heap[k]?) : Rd Q t F' w1 v l := by
  obtain ⟨A, c, e, hc, hr⟩ := h
  refine ⟨A, c, e, hc, fun hl => ?_⟩
  obtain ⟨g, o, cs, hA, hg, hcs, hrep⟩ := hr hl
  exact ⟨g, o, cs, hA, hF g hg, hcs.move (hw g hg), reps_imp (fun x c hx => L.mono _ _ _ _ _ _ hF (L.move _ _ _ _ _ _ hw hx)) hrep⟩
theorem ownsRow_move {w w1 : World} {t : TypeId} {sz n : Nat} {v : Value} {cs : List Value} (h : w.ownsRow 0 t sz v n cs) (hw : ∀ k, v.ownBlock = some k → w1.heap[k]? = w.heap[k]?) : w1.ownsRow 0 t sz v n cs := by
  refine ⟨h.1, ?_⟩
  rcases h.2 with h2 | ⟨g, cap, cur, rfl, hb, hg, r⟩
  · exact .inl h2
  · exact .inr ⟨g, cap, cur, rfl, hb, (hw g rfl).trans hg, r⟩
/-- What a symbolic value says stays, as long as what it rests on stays. -/
theorem hold_step (L : Laws S Q) {e e' : Env S.T} (hβ : ∀ i, e.U i → e'.β i = e.β i) (hnx : ∀ a, e.U a → e'.U a)
    (hold' : ∀ i s so, e.U i → e.U s → lookB i e'.ob = some (s, so) → (∃ so', lookB i e.ob = some (s, so')) ∧ (∀ k, e.ok i k → e'.ok i k) ∧ ∀ k, e.ok i k → e'.w.heap[k]? = e.w.heap[k]?) :
    ∀ {v : Value} {c : SC S.T}, hold Q e v c → hold Q e' v c := by
  have hv : ∀ {d : Dp}, dlt e.U d → valid e'.ob d = true → valid e.ob d = true ∧ (∀ k, e.Fd d k → e'.Fd d k) ∧ ∀ k, e.Fd d k → e'.w.heap[k]? = e.w.heap[k]? := by
    intro d hd hv
    rw [valid_iff] at hv
    refine ⟨valid_iff.2 fun p hp => ?_, ?_, ?_⟩
    · obtain ⟨so, h⟩ := hv p hp
      exact (hold' _ _ _ (hd p hp).1 (hd p hp).2 h).1
    · rintro k ⟨p, hp, hk⟩
      obtain ⟨so, h⟩ := hv p hp
      exact ⟨p, hp, (hold' _ _ _ (hd p hp).1 (hd p hp).2 h).2.1 k hk⟩
    · rintro k ⟨p, hp, hk⟩
      obtain ⟨so, h⟩ := hv p hp
      exact (hold' _ _ _ (hd p hp).1 (hd p hp).2 h).2.2 k hk
  intro v c h
  cases c with
  | rd t d l =>
    obtain ⟨hd, ho, hr⟩ := h
    refine ⟨hd.mono hnx, ho, fun hv' => ?_⟩
    obtain ⟨h1, h2, h3⟩ := hv hd hv'
    exact (hr h1).move L h2 h3
  | row i => exact ⟨hnx _ h.1, by rw [hβ i h.1]; exact h.2⟩
  | cut i n =>
    obtain ⟨hi, h0, A, m, c, hb, hn, he⟩ := h
    exact ⟨hnx _ hi, h0, A, m, c, by rw [hβ i hi]; exact hb, hn, he⟩
  | ptr i off =>
    obtain ⟨hi, g, hb, he⟩ := h
    exact ⟨hnx _ hi, g, by rw [hβ i hi]; exact hb, he⟩
  | elt i t j off =>
    obtain ⟨hi, h0, g, m, c, hb, hm, he⟩ := h
    exact ⟨hnx _ hi, h0, g, m, c, by rw [hβ i hi]; exact hb, hm, he⟩
  | elr t d x off =>
    obtain ⟨hd, ho, hr⟩ := h
    refine ⟨hd.mono hnx, ho, fun hv' => ?_⟩
    obtain ⟨h1, h2, h3⟩ := hv hd hv'
    obtain ⟨g, o, cs, he, hg, hcs, hl, hx⟩ := hr h1
    exact ⟨g, o, cs, he, h2 g hg, hcs.move (h3 g hg), hl, L.mono _ _ _ _ _ _ h2 (L.move _ _ _ _ _ _ h3 hx)⟩
  | fn f caps =>
    obtain ⟨hc, he⟩ := h
    refine ⟨fun i hi => hnx _ (hc i hi), he.trans ?_⟩
    rw [List.map_congr_left fun i hi => (hβ i (hc i hi)).symm]
  | _ => exact h
/-- An event: object j is new or another one now; object i (if any) is dead or is j. -/
theorem event (L : Laws S Q) {e : Env S.T} (I : Inv Q e) (w1 : World) (v : Value) (F : Nat → Prop) (ob' : Ob S.T) (so : SO S.T) (i : Option Nat) (j fr : Nat)
    (hfr : ¬ e.U fr) (hj : j = fr ∨ (i = some j ∧ v = e.β j))
    (hi : ∀ a, i = some a → ∃ s so, lookB a e.ob = some (s, so) ∧ so ≠ .ext)
    (hob : ∀ a x, lookB a ob' = some x → (a = j ∧ x = (fr, so)) ∨ (a ≠ j ∧ i ≠ some a ∧ lookB a e.ob = some x))
    (hso : so ≠ .ext)
    (hF : ∀ k, F k → k < w1.heap.size ∧ ((∃ a, i = some a ∧ e.ok a k) ∨ e.w.heap.size ≤ k))
    (hos : w1.os = e.w.os) (htape : w1.tape = e.w.tape) (hout : w1.output = e.w.output) (hsize : e.w.heap.size ≤ w1.heap.size)
    (hheap : ∀ k, k < e.w.heap.size → (∀ a, i = some a → ¬ e.ok a k) → w1.heap[k]? = e.w.heap[k]?)
    (hone : v.oneCell' = true)
    (e' : Env S.T) (he' : e' = { w := w1, β := fun a => if a = j then v else e.β a, ok := fun a => if a = j then F else e.ok a, ob := ob', U := fun a => e.U a ∨ a = fr })
    (hobj : (∀ v c, hold Q e v c → hold Q e' v c) → objHold Q e' j so) :
    Inv Q e' ∧ Le Q e e' := by
  have hβ : ∀ a, e.U a → e'.β a = e.β a := by
    intro a ha
    subst he'
    show (if a = j then v else e.β a) = e.β a
    split
    · rename_i h
      subst h
      rcases hj with rfl | ⟨_, h⟩
      · exact absurd ha hfr
      · exact h
    · rfl
  have hw : e'.w = w1 := by subst he'; rfl
  have hob' : e'.ob = ob' := by subst he'; rfl
  have hn' : e'.U = fun a => e.U a ∨ a = fr := by subst he'; rfl
  have hok : ∀ a, a ≠ j → e'.ok a = e.ok a := by
    intro a ha
    subst he'
    show (if a = j then F else e.ok a) = e.ok a
    rw [if_neg ha]
  have hokj : e'.ok j = F := by
    subst he'
    show (if j = j then F else e.ok j) = F
    rw [if_pos rfl]
  have hnxle : ∀ a, e.U a → e'.U a := fun a ha => by rw [hn']; exact .inl ha
  have far : ∀ a s so', lookB a e.ob = some (s, so') → i ≠ some a → ∀ k, e.ok a k → w1.heap[k]? = e.w.heap[k]? := by
    intro a s so' h ha k hk
    refine hheap k (I.lt a s so' h k hk) fun b hb hbk => ?_
    obtain ⟨s2, so2, h2, _⟩ := hi b hb
    exact I.dis a b s s2 so' so2 h h2 (fun e1 => ha (e1 ▸ hb)) k hk hbk
  have oldObj : ∀ a s so', e.U s → lookB a e'.ob = some (s, so') → a ≠ j ∧ i ≠ some a ∧ lookB a e.ob = some (s, so') := by
    intro a s so' hs h
    rw [hob'] at h
    rcases hob a _ h with ⟨_, hx⟩ | h
    · have := congrArg Prod.fst hx
      simp at this
      rw [this] at hs
      exact absurd hs hfr
    · exact h
  have hH : ∀ v c, hold Q e v c → hold Q e' v c := by
    intro v c h
    refine hold_step L hβ hnxle ?_ h
    intro a s so' ha hs h
    obtain ⟨h1, h2, h3⟩ := oldObj a s so' hs h
    exact ⟨⟨_, h3⟩, fun k hk => by rw [hok a h1]; exact hk, fun k hk => by rw [hw]; exact far a s so' h3 h2 k hk⟩
  have h0j : (0 : Nat) ≠ j := by
    rintro rfl
    rcases hj with h | ⟨h, _⟩
    · exact hfr (h ▸ I.zero)
    · obtain ⟨s, so0, h1, h2⟩ := hi 0 h
      exact h2 (I.z0 s so0 h1)
  have hz0 : ∀ s so, lookB 0 e'.ob = some (s, so) → so = .ext := by
    intro s so' h
    rw [hob'] at h
    rcases hob 0 _ h with ⟨h1, _⟩ | ⟨_, _, h3⟩
    · exact absurd h1 h0j
    · exact I.z0 s so' h3
  refine ⟨⟨?_, ?_, hnxle 0 I.zero, hz0, ?_, ?_⟩, ⟨hH, hnxle, by rw [hw]; exact hos, by rw [hw]; exact htape, by rw [hw]; exact hout, by rw [hw]; exact hsize, ?_, ?_, ?_⟩⟩
  · -- objects
    intro a s so' h
    rw [hob'] at h
    rcases hob a _ h with ⟨rfl, hx⟩ | ⟨h1, h2, h3⟩
    · obtain ⟨rfl, rfl⟩ := Prod.mk.inj hx
      refine ⟨?_, by rw [hn']; exact .inr rfl, hobj hH⟩
      rcases hj with rfl | ⟨hi', _⟩
      · rw [hn']; exact .inr rfl
      · obtain ⟨s2, so2, h2, _⟩ := hi a hi'
        exact hnxle _ (I.obj a s2 so2 h2).1
    · obtain ⟨hlt, hs, ho⟩ := I.obj a s so' h3
      refine ⟨hnxle _ hlt, hnxle _ hs, ?_⟩
      cases so' with
      | ext => trivial
      | var t cs =>
        obtain ⟨g, vs, hb, hg, hh, hc⟩ := ho
        refine ⟨g, vs, by rw [hβ a hlt]; exact hb, by rw [hok a h1]; exact hg, ?_, hc.imp hH⟩
        rw [hw, far a s _ h3 h2 g hg]
        exact hh
      | row t d l =>
        obtain ⟨hd, hown, cs, hr, hv⟩ := ho
        refine ⟨hd.mono hnxle, by rw [hβ a hlt, hok a h1]; exact hown, cs, ?_, fun hval => ?_⟩
        · rw [hβ a hlt, hw]
          exact ownsRow_move hr fun k hk => far a s _ h3 h2 k (hown k hk)
        · have hval' : valid e.ob d = true := by
            rw [valid_iff] at hval ⊢
            intro p hp
            obtain ⟨so2, h4⟩ := hval p hp
            obtain ⟨_, _, h5⟩ := oldObj _ _ _ (hd p hp).2 h4
            exact ⟨_, h5⟩
          have hFd : ∀ k, e.Fd d k → e'.Fd d k ∧ e'.w.heap[k]? = e.w.heap[k]? := by
            rintro k ⟨p, hp, hk⟩
            rw [valid_iff] at hval
            obtain ⟨so2, h4⟩ := hval p hp
            obtain ⟨h5, h6, h7⟩ := oldObj _ _ _ (hd p hp).2 h4
            exact ⟨⟨p, hp, by rw [hok _ h5]; exact hk⟩, by rw [hw]; exact far _ _ _ h7 h6 k hk⟩
          refine reps_imp (fun x c hx => ?_) (hv hval')
          rw [hβ a hlt, hok a h1]
          refine L.mono _ _ _ _ _ _ ?_ (L.move _ _ _ _ _ _ ?_ hx)
          · rintro k (hk | hk)
            · exact .inl hk
            · exact .inr (hFd k hk).1
          · rintro k (hk | hk)
            · rw [hw]; exact far a s _ h3 h2 k hk.1
            · exact (hFd k hk).2
  · intro a
    subst he'
    show Value.oneCell' (if a = j then v else e.β a) = true
    split
    · exact hone
    · exact I.one a
  · intro a s so' h k hk
    rw [hob'] at h
    rcases hob a _ h with ⟨rfl, hx⟩ | ⟨h1, h2, h3⟩
    · rw [hokj] at hk
      rw [hw]
      exact (hF k hk).1
    · rw [hok a h1] at hk
      have := I.lt a s so' h3 k hk
      rw [hw]
      omega
  · intro a b s s' so1 so2 h h' hne k hk hk'
    rw [hob'] at h h'
    rcases hob a _ h with ⟨rfl, hx⟩ | ⟨h1, h2, h3⟩ <;> rcases hob b _ h' with ⟨rfl, hx'⟩ | ⟨h1', h2', h3'⟩
    · exact hne rfl
    · rw [hokj] at hk
      rw [hok b h1'] at hk'
      rcases (hF k hk).2 with ⟨c, hc, hck⟩ | hc
      · obtain ⟨s3, so3, h5, _⟩ := hi c hc
        exact I.dis c b s3 s' so3 so2 h5 h3' (fun e1 => h2' (e1 ▸ hc)) k hck hk'
      · have := I.lt b s' so2 h3' k hk'
        omega
    · rw [hokj] at hk'
      rw [hok a h1] at hk
      rcases (hF k hk').2 with ⟨c, hc, hck⟩ | hc
      · obtain ⟨s3, so3, h5, _⟩ := hi c hc
        exact I.dis c a s3 s so3 so1 h5 h3 (fun e1 => h2 (e1 ▸ hc)) k hck hk
      · have := I.lt a s so1 h3 k hk
        omega
    · rw [hok a h1] at hk
      rw [hok b h1'] at hk'
      exact I.dis a b s s' so1 so2 h3 h3' hne k hk hk'
  · intro k hk hn
    rw [hw]
    refine hheap k hk fun a ha hak => hn ?_
    obtain ⟨s, so2, h2, h3⟩ := hi a ha
    exact ⟨a, s, so2, h2, h3, hak⟩
  · rintro k ⟨a, s, so', h, hne, hk⟩
    rw [hob'] at h
    rcases hob a _ h with ⟨rfl, hx⟩ | ⟨h1, h2, h3⟩
    · rw [hokj] at hk
      rcases (hF k hk).2 with ⟨c, hc, hck⟩ | hc
      · obtain ⟨s3, so3, h5, h6⟩ := hi c hc
        exact .inl ⟨c, s3, so3, h5, h6, hck⟩
      · exact .inr hc
    · rw [hok a h1] at hk
      exact .inl ⟨a, s, so', h3, hne, hk⟩
  · intro k hk
    rw [hok 0 h0j] at hk
    exact hk
end
end Go.Proofs.Ytdpggojdmabnkaa.E
