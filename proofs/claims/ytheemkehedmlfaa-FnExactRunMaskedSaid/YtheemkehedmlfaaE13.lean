import Derived.Test.YtheemkehedmlfaaE12
set_option linter.unusedVariables false
set_option linter.unusedSimpArgs false
namespace Go.Proofs.Ytheemkehedmlfaa.E
open Go
section
variable {S : Sig} {Q : Kind S}
structure At (e e' : Env S.T) (fr fr1 : Nat) (D : Dp) (G : Nat → Nat → Prop) (B : Nat → Value) : Prop where
  β : ∀ n, fr + n < fr1 → e'.β (fr + n) = B n
  ok : ∀ n, fr + n < fr1 → e'.ok (fr + n) = G n
  U : ∀ n, fr + n < fr1 → e'.U (fr + n)
  dD : dlt e.U D
  U' : ∀ a, e.U a → e'.U a
  Fd : ∀ k, e.Fd D k → e'.Fd D k
structure Rh (Q : Kind S) (e' : Env S.T) (fr n m : Nat) (s : List (Nat × Option (Nat × SO S.T))) (fr1 : Nat) : Prop where
  ent : ∀ p, p ∈ s → ∃ so, p.2 = some (p.1, so) ∧ fr + n ≤ p.1 ∧ p.1 < fr + m ∧ objHold Q e' p.1 so ∧ ∀ t c te d sv l h, so = .deep t c te d sv l h → sv = p.1
  next : fr1 = fr + m
  le : n ≤ m
theorem Rh.app {e' : Env S.T} {fr n m m2 : Nat} {s s2 : List (Nat × Option (Nat × SO S.T))} {fr1 fr2 : Nat} (h : Rh Q e' fr n m s fr1) (k : Rh Q e' fr m m2 s2 fr2) : Rh Q e' fr n m2 (s ++ s2) fr2 := by
  refine ⟨fun p hp => ?_, k.next, Nat.le_trans h.le k.le⟩
  rcases List.mem_append.1 hp with hp | hp
  · obtain ⟨so, h1, h2, h3, h4, h5⟩ := h.ent p hp
    exact ⟨so, h1, h2, by have := k.le; omega, h4, h5⟩
  · obtain ⟨so, h1, h2, h3, h4, h5⟩ := k.ent p hp
    exact ⟨so, h1, by have := h.le; omega, h3, h4, h5⟩
theorem next_le (n : Nat) (c : RC S.T) : n ≤ nextRC n c := by cases c <;> simp [nextRC]
theorem nexts_le : ∀ (cs : List (RC S.T)) (n : Nat), n ≤ nextRCs n cs
  | [], n => Nat.le_refl _
  | c :: cs, n => Nat.le_trans (next_le n c) (nexts_le cs _)
theorem nextV_le (n : Nat) (c : RV S.T) : n ≤ nextRV n c := by
  cases c
  · exact next_le _ _
  · exact nexts_le _ _
theorem nextsV_le : ∀ (cs : List (RV S.T)) (n : Nat), n ≤ nextRVs n cs
  | [], n => Nat.le_refl _
  | c :: cs, n => Nat.le_trans (nextV_le n c) (nextsV_le cs _)
theorem ofRC_ok (L : Laws S Q) {e e' : Env S.T} {fr fr1 : Nat} {D : Dp} {G : Nat → Nat → Prop} {B : Nat → Value} (A : At e e' fr fr1 D G B) {n : Nat} {v : Value} {c : RC S.T} (h : rcHold Q (e.Fd D) G B e'.w n v c) (hn : fr + nextRC n c ≤ fr1) :
    hold Q e' v (ofRC D (fr + n) c).1 ∧ Rh Q e' fr n (nextRC n c) (ofRC D (fr + n) c).2.1 (ofRC D (fr + n) c).2.2 := by
  cases c with
  | sc x => exact ⟨pl_of h, ⟨fun p hp => (by cases hp), rfl, Nat.le_refl _⟩⟩
  | new t l =>
    simp only [nextRC] at hn
    obtain ⟨h1, h2, cs, h3, h4⟩ := h
    have hβ := A.β n (by omega)
    have hok := A.ok n (by omega)
    refine ⟨⟨A.U n (by omega), by rw [hβ]; exact h1⟩, ⟨fun p hp => ?_, by simp [ofRC, nextRC]; omega, by simp [nextRC]⟩⟩
    simp only [ofRC, List.mem_singleton] at hp
    subst hp
    refine ⟨_, rfl, Nat.le_refl _, by simp [nextRC], ⟨fun p hp => (by cases hp), ?_, cs, ?_, fun _ => ?_⟩, fun _ _ _ _ _ _ _ h => (by cases h)⟩
    · rw [hβ, hok, ← h1]; exact h2
    · rw [hβ, ← h1]; exact h3
    · refine reps_imp (fun x c hx => L.mono _ _ _ _ _ _ ?_ hx) h4
      rintro k ⟨hk, hne⟩
      exact .inl ⟨by rw [hok]; exact hk, by rw [hβ, ← h1]; exact hne⟩
  | al t l =>
    simp only [nextRC] at hn
    obtain ⟨h1, h2⟩ := h
    have hok := A.ok n (by omega)
    refine ⟨⟨fun p hp => ?_, h1, fun _ => ?_⟩, ⟨fun p hp => ?_, by simp [ofRC, nextRC]; omega, by simp [nextRC]⟩⟩
    · rcases List.mem_cons.1 hp with rfl | hp
      · exact ⟨A.U n (by omega), A.U n (by omega)⟩
      · exact ⟨A.U' _ (A.dD p hp).1, A.U' _ (A.dD p hp).2⟩
    · refine h2.move L ?_ fun _ _ => rfl
      rintro k (hk | hk)
      · obtain ⟨p, hp, hk⟩ := A.Fd k hk
        exact ⟨p, List.mem_cons_of_mem _ hp, hk⟩
      · exact ⟨_, List.mem_cons_self, by show e'.ok (fr + n) k; rw [hok]; exact hk⟩
    · simp only [ofRC, List.mem_singleton] at hp
      subst hp
      exact ⟨_, rfl, Nat.le_refl _, by simp [nextRC], trivial, fun _ _ _ _ _ _ _ h => (by cases h)⟩
  | dp t c te l =>
    simp only [nextRC] at hn
    obtain ⟨h1, h2, h3, h4, cs, h5, Bf, R, h6, h7, h8, h9⟩ := h
    have hβ := A.β n (by omega)
    have hok := A.ok n (by omega)
    have hU := A.U n (by omega)
    refine ⟨⟨hU, by rw [hβ]; exact h1⟩, ⟨fun p hp => ?_, by simp [ofRC, nextRC]; omega, by simp [nextRC]⟩⟩
    simp only [ofRC, List.mem_singleton] at hp
    subst hp
    refine ⟨_, rfl, Nat.le_refl _, by simp [nextRC], ⟨h3, h4, fun p hp => (by cases hp), hU, ?_, cs, ?_, Bf, R, ?_, h7, ?_, fun _ j x hj => ?_⟩, fun _ _ _ _ _ _ _ h => (by cases h; rfl)⟩
    · rw [hβ, hok, ← h1]; exact h2
    · rw [hβ, ← h1]; exact h5
    · rw [hβ, hok, ← h1]; exact h6
    · rw [hβ, hok, ← h1]; exact h8
    · obtain ⟨g1, g2⟩ := h9 j x hj
      exact ⟨L.mono _ _ _ _ _ _ (fun _ hk => .inl hk) g1, fun _ => g2⟩
theorem ofRCs_ok (L : Laws S Q) {e e' : Env S.T} {fr fr1 : Nat} {D : Dp} {G : Nat → Nat → Prop} {B : Nat → Value} (A : At e e' fr fr1 D G B) : ∀ {cs : List (RC S.T)} {n : Nat} {vs : List Value}, rcsHold Q (e.Fd D) G B e'.w n vs cs → fr + nextRCs n cs ≤ fr1 →
    All2 (hold Q e') vs (ofRCs D (fr + n) cs).1 ∧ Rh Q e' fr n (nextRCs n cs) (ofRCs D (fr + n) cs).2.1 (ofRCs D (fr + n) cs).2.2
  | [], n, vs, h, _ => by
    cases vs with
    | nil => exact ⟨.nil, ⟨fun p hp => (by cases hp), rfl, Nat.le_refl _⟩⟩
    | cons _ _ => exact h.elim
  | c :: cs, n, vs, h, hn => by
    cases vs with
    | nil => exact h.elim
    | cons v vs =>
      simp only [nextRCs] at hn
      obtain ⟨h1, h2⟩ := ofRC_ok L A h.1 (by have := nexts_le cs (nextRC n c); omega)
      obtain ⟨h3, h4⟩ := ofRCs_ok L A h.2 hn
      have hnx := h2.next
      simp only [ofRCs]
      rw [hnx]
      exact ⟨.cons h1 h3, h2.app h4⟩
theorem ofRV_ok (L : Laws S Q) {e e' : Env S.T} {fr fr1 : Nat} {D : Dp} {G : Nat → Nat → Prop} {B : Nat → Value} (A : At e e' fr fr1 D G B) {n : Nat} {v : Value} {c : RV S.T} (h : rvHold Q (e.Fd D) G B e'.w n v c) (hn : fr + nextRV n c ≤ fr1) :
    holdV Q e' v (ofRV D (fr + n) c).1 ∧ Rh Q e' fr n (nextRV n c) (ofRV D (fr + n) c).2.1 (ofRV D (fr + n) c).2.2 := by
  cases c with
  | c x => exact ofRC_ok L A h hn
  | agg xs =>
    obtain ⟨vs, rfl, h⟩ := h
    obtain ⟨h1, h2⟩ := ofRCs_ok L A h hn
    exact ⟨⟨vs, rfl, h1⟩, h2⟩
theorem ofRVs_ok (L : Laws S Q) {e e' : Env S.T} {fr fr1 : Nat} {D : Dp} {G : Nat → Nat → Prop} {B : Nat → Value} (A : At e e' fr fr1 D G B) : ∀ {cs : List (RV S.T)} {n : Nat} {vs : List Value}, rvsHold Q (e.Fd D) G B e'.w n vs cs → fr + nextRVs n cs ≤ fr1 →
    All2 (holdV Q e') vs (ofRVs D (fr + n) cs).1 ∧ Rh Q e' fr n (nextRVs n cs) (ofRVs D (fr + n) cs).2.1 (ofRVs D (fr + n) cs).2.2
  | [], n, vs, h, _ => by
    cases vs with
    | nil => exact ⟨.nil, ⟨fun p hp => (by cases hp), rfl, Nat.le_refl _⟩⟩
    | cons _ _ => exact h.elim
  | c :: cs, n, vs, h, hn => by
    cases vs with
    | nil => exact h.elim
    | cons v vs =>
      simp only [nextRVs] at hn
      obtain ⟨h1, h2⟩ := ofRV_ok L A h.1 (by have := nextsV_le cs (nextRV n c); omega)
      obtain ⟨h3, h4⟩ := ofRVs_ok L A h.2 hn
      have hnx := h2.next
      simp only [ofRVs]
      rw [hnx]
      exact ⟨.cons h1 h3, h2.app h4⟩
theorem next_of (D : Dp) (fr : Nat) (c : RC S.T) : (ofRC D fr c).2.2 = fr + nextRC 0 c := by cases c <;> simp [ofRC, nextRC]
theorem nextRC_add (n : Nat) (c : RC S.T) : nextRC n c = n + nextRC 0 c := by cases c <;> simp [nextRC]
theorem nextRCs_add : ∀ (cs : List (RC S.T)) (n : Nat), nextRCs n cs = n + nextRCs 0 cs
  | [], n => by simp [nextRCs]
  | c :: cs, n => by
    simp only [nextRCs]
    rw [nextRCs_add cs (nextRC n c), nextRCs_add cs (nextRC 0 c), nextRC_add n c]
    omega
theorem nextRV_add (n : Nat) (c : RV S.T) : nextRV n c = n + nextRV 0 c := by
  cases c
  · exact nextRC_add _ _
  · exact nextRCs_add _ _
theorem nextRVs_add : ∀ (cs : List (RV S.T)) (n : Nat), nextRVs n cs = n + nextRVs 0 cs
  | [], n => by simp [nextRVs]
  | c :: cs, n => by
    simp only [nextRVs]
    rw [nextRVs_add cs (nextRV n c), nextRVs_add cs (nextRV 0 c), nextRV_add n c]
    omega
theorem nexts_of (D : Dp) : ∀ (cs : List (RC S.T)) (fr : Nat), (ofRCs D fr cs).2.2 = fr + nextRCs 0 cs
  | [], fr => rfl
  | c :: cs, fr => by
    simp only [ofRCs, nextRCs]
    rw [nexts_of D cs, next_of, nextRCs_add cs (nextRC 0 c)]
    omega
theorem nextV_of (D : Dp) (fr : Nat) (c : RV S.T) : (ofRV D fr c).2.2 = fr + nextRV 0 c := by
  cases c
  · exact next_of _ _ _
  · exact nexts_of _ _ _
theorem nextsV_of (D : Dp) : ∀ (cs : List (RV S.T)) (fr : Nat), (ofRVs D fr cs).2.2 = fr + nextRVs 0 cs
  | [], fr => rfl
  | c :: cs, fr => by
    simp only [ofRVs, nextRVs]
    rw [nextsV_of D cs, nextV_of, nextRVs_add cs (nextRV 0 c)]
    omega
theorem fold_look : ∀ (s : List (Nat × Option (Nat × SO S.T))) (ob : Ob S.T), (∀ p, p ∈ s → ∃ so, p.2 = some (p.1, so)) → ∀ a x, (s.foldl put1 ob) a = some x →
    (∃ p, p ∈ s ∧ p.1 = a ∧ p.2 = some x) ∨ ob a = some x
  | [], ob, _, a, x, h => .inr h
  | p :: s, ob, hs, a, x, h => by
    obtain ⟨so, hp⟩ := hs p List.mem_cons_self
    simp only [List.foldl_cons, put1, hp] at h
    rcases fold_look s _ (fun q hq => hs q (List.mem_cons_of_mem _ hq)) a x h with ⟨q, hq, h1⟩ | h
    · exact .inl ⟨q, List.mem_cons_of_mem _ hq, h1⟩
    · rcases lookB_put (show lookB a (putB p.1 (p.1, so) ob) = some x from h) with ⟨rfl, rfl⟩ | ⟨_, h⟩
      · exact .inl ⟨p, List.mem_cons_self, rfl, hp⟩
      · exact .inr h
theorem valueOf_hold {e : Env S.T} {vs : List Value} {ys : List (SV S.T)} (h : All2 (holdV Q e) vs ys) : holdX Q e (valueOf vs) (oneOf ys) := by
  cases h with
  | nil => exact ⟨[], rfl, .nil⟩
  | cons h1 h2 =>
    cases h2 with
    | nil => exact h1
    | cons h2 h3 => exact ⟨_, rfl, .cons h1 (.cons h2 h3)⟩
theorem useCon_ok (L : Laws S Q) {e : Env S.T} (I : Inv Q e) {fr : Nat} (hfr : ∀ a, fr ≤ a → a < fr + 8 → ¬ e.U a) {f : FuncId} {g : Con S} (hg : ConOk Q f g) {xs : List (SX S.T)} {vs : List Value} (hx : All2 (holdX Q e) vs xs) {u : Upd S.T} (h : (useCon g xs e.ob fr).Can u) :
    Calls S.P f vs.toArray e.w fun en w1 => ∃ v, en = .returned v ∧ Eff Q e fr v w1 u := by
  unfold useCon at h
  obtain ⟨p, hp, h⟩ := can_or h
  obtain ⟨rvs, hr, h⟩ := Tr.can_then h
  obtain ⟨⟨hD, hDv⟩, hav⟩ := toAVs_ok L I hx hp
  refine (hg.ok p.1 rvs e.w vs (e.Fd p.2) hr (Fd_lt I hDv) hav).mono ?_
  rintro en w1 ⟨v, rfl, hq, G, B, ws, rfl, hone, hG, hGd, hrv⟩
  refine ⟨_, rfl, ?_⟩
  generalize hof : ofRVs p.2 fr rvs = r at h
  obtain ⟨ys, s, fr1⟩ := r
  obtain ⟨hle, h⟩ := can_guard h
  have h := can_ret h
  subst h
  have hle := ble_le hle
  have hfr1 : fr1 = fr + nextRVs 0 rvs := by
    have := nextsV_of p.2 rvs fr
    rw [hof] at this
    exact this
  let ob' : Ob S.T := Upd.obOf ⟨oneOf ys, s⟩ e.ob
  let e' : Env S.T := { w := w1, β := fun a => if fr ≤ a ∧ a < fr1 then B (a - fr) else e.β a, ok := fun a => if fr ≤ a ∧ a < fr1 then G (a - fr) else e.ok a, ob := ob', U := fun a => e.U a ∨ (fr ≤ a ∧ a < fr1) }
  have hA : At e e' fr fr1 p.2 G B := by
    refine ⟨fun n hn => ?_, fun n hn => ?_, fun n hn => .inr ⟨by omega, hn⟩, hD, fun a ha => .inl ha, ?_⟩
    · show (if fr ≤ fr + n ∧ fr + n < fr1 then B (fr + n - fr) else _) = _
      rw [if_pos ⟨by omega, hn⟩, show fr + n - fr = n by omega]
    · show (if fr ≤ fr + n ∧ fr + n < fr1 then G (fr + n - fr) else _) = _
      rw [if_pos ⟨by omega, hn⟩, show fr + n - fr = n by omega]
    · rintro k ⟨q, hq', hk⟩
      refine ⟨q, hq', ?_⟩
      show (if fr ≤ q.1 ∧ q.1 < fr1 then G (q.1 - fr) else e.ok q.1) k
      rw [if_neg (show ¬ (fr ≤ q.1 ∧ q.1 < fr1) from fun h => hfr q.1 h.1 (by omega) (hD q hq').1)]
      exact hk
  obtain ⟨h1, h2⟩ := ofRVs_ok L (fr := fr) (fr1 := fr1) hA (n := 0) hrv (by omega)
  simp only [Nat.add_zero] at h1 h2
  rw [hof] at h1 h2
  have hent : ∀ q, q ∈ s → ∃ so, q.2 = some (q.1, so) := fun q hq' => by
    obtain ⟨so, h3, _⟩ := h2.ent q hq'
    exact ⟨so, h3⟩
  have hlook : ∀ a x, lookB a ob' = some x → (∃ q, q ∈ s ∧ q.1 = a ∧ q.2 = some x) ∨ lookB a e.ob = some x := fun a x hx => fold_look s e.ob hent a x hx
  have hob : ∀ a x, lookB a ob' = some x → (fr ≤ a ∧ a < fr1 ∧ x.1 = a) ∨ (¬ (fr ≤ a ∧ a < fr1) ∧ lookB a e.ob = some x) := by
    intro a x hx
    rcases hlook a x hx with ⟨q, hq', rfl, h4⟩ | h4
    · obtain ⟨so, h3, h5, h6, _⟩ := h2.ent q hq'
      rw [h3] at h4
      cases h4
      exact .inl ⟨by omega, by omega, rfl⟩
    · obtain ⟨s', so⟩ := x
      exact .inr ⟨fun h => hfr a h.1 (by omega) (I.obj a s' so h4).1, h4⟩
  obtain ⟨g1, g2⟩ := newMany L I w1 hq fr fr1 (fun a h3 h4 => hfr a h3 (by omega)) (fun a => B (a - fr)) (fun a => if fr ≤ a then G (a - fr) else fun _ => False) (fun a => hone _) ob' hob
    (fun a k hk => by
      by_cases h5 : fr ≤ a
      · rw [if_pos h5] at hk; exact hG _ k hk
      · rw [if_neg h5] at hk; exact hk.elim)
    (fun a b k hne hk hk' => by
      by_cases h5 : fr ≤ a
      · by_cases h6 : fr ≤ b
        · rw [if_pos h5] at hk
          rw [if_pos h6] at hk'
          exact hGd (a - fr) (b - fr) k (by omega) hk hk'
        · rw [if_neg h6] at hk'; exact hk'.elim
      · rw [if_neg h5] at hk; exact hk.elim) e' (by
        have : ∀ a, (if fr ≤ a ∧ a < fr1 then G (a - fr) else e.ok a) = (if fr ≤ a ∧ a < fr1 then (if fr ≤ a then G (a - fr) else fun _ => False) else e.ok a) := by
          intro a
          by_cases h5 : fr ≤ a ∧ a < fr1
          · rw [if_pos h5, if_pos h5, if_pos h5.1]
          · rw [if_neg h5, if_neg h5]
        show _ = Env.mk _ _ _ _ _
        simp only [e']
        congr 1
        funext a
        exact this a)
    (fun _ a so hx h3 h4 => by
      rcases hlook a _ hx with ⟨q, hq', rfl, h5⟩ | h5
      · obtain ⟨so', h6, _, _, h7, _⟩ := h2.ent q hq'
        rw [h6] at h5
        cases h5
        exact h7
      · exact absurd (I.obj a _ so h5).1 (hfr a h3 (by omega)))
    (fun a t c te d sv l h hx h3 h4 => by
      rcases hlook a _ hx with ⟨q, hq', rfl, h5⟩ | h5
      · obtain ⟨so', h6, _, _, _, h7⟩ := h2.ent q hq'
        rw [h6] at h5
        cases h5
        exact h7 _ _ _ _ _ _ _ rfl
      · exact absurd (I.obj a _ _ h5).1 (hfr a h3 (by omega)))
  refine ⟨e', rfl, g1, g2, rfl, ?_, valueOf_hold h1⟩
  rintro a (ha | ha)
  · exact .inl ha
  · exact .inr ⟨ha.1, by omega⟩
end
end Go.Proofs.Ytheemkehedmlfaa.E
