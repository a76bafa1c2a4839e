import Derived.Test.YtheemkehedmlfaaE11
set_option linter.unusedVariables false
set_option linter.unusedSimpArgs false
namespace Go.Proofs.Ytheemkehedmlfaa.E
open Go
section
variable {S : Sig} (Q : Kind S)
def plHold (v : Value) : SC S.T → Prop
  | .int k n => v = .int k n
  | .bool b => v = .bool b
  | .str s => v = .string s
  | .nil => v = .slice none 0 0
  | .np => v = .pointer none
  | _ => False
def acHold (F : Nat → Prop) (w : World) (v : Value) : AC S.T → Prop
  | .sc x => plHold v x
  | .ls t l => v.oneCell' = true ∧ Rd Q t F w v l
def avHold (F : Nat → Prop) (w : World) (v : Value) : AV S.T → Prop
  | .c x => acHold Q F w v x
  | .agg xs => ∃ vs : List Value, v = .agg vs.toArray ∧ All2 (acHold Q F w) vs xs
def rcHold (F : Nat → Prop) (G : Nat → Nat → Prop) (B : Nat → Value) (w1 : World) (n : Nat) (v : Value) : RC S.T → Prop
  | .sc x => plHold v x
  | .new t l => v = B n ∧ (∀ k, v.ownBlock = some k → G n k) ∧ ∃ cs, w1.ownsRow 0 t (S.sz t) v l.length cs ∧ reps (Q.rep t (fun k => G n k ∧ some k ≠ v.ownBlock) w1) (S.sz t) l cs
  | .al t l => v.oneCell' = true ∧ Rd Q t (fun k => F k ∨ G n k) w1 v l
  | .dp t c te l => v = B n ∧ (∀ k, v.ownBlock = some k → G n k) ∧ S.xc t = some (c, te) ∧ S.flat te = true ∧ ∃ cs, w1.ownsRow 0 t (S.sz t) v l.length cs ∧
      ∃ (Bf : Nat → Nat → Prop) (R : Nat → Prop), (∀ j k, Bf j k → G n k ∧ some k ≠ v.ownBlock) ∧ (∀ j j' k, Bf j k → Bf j' k → j = j') ∧ (∀ k, R k → G n k ∧ some k ≠ v.ownBlock ∧ ∀ j, ¬ Bf j k) ∧
        ∀ j x, l[j]? = some x → RE Q t c te w1 R x ((cs.drop (j * S.sz t)).take (S.sz t)) ∧ OE Q t c te w1 (Bf j) x ((cs.drop (j * S.sz t)).take (S.sz t))
def nextRC (n : Nat) : RC S.T → Nat
  | .sc _ => n
  | _ => n + 1
def rcsHold (F : Nat → Prop) (G : Nat → Nat → Prop) (B : Nat → Value) (w1 : World) : Nat → List Value → List (RC S.T) → Prop
  | _, [], [] => True
  | n, v :: vs, c :: cs => rcHold Q F G B w1 n v c ∧ rcsHold F G B w1 (nextRC n c) vs cs
  | _, _, _ => False
def nextRCs (n : Nat) : List (RC S.T) → Nat
  | [] => n
  | c :: cs => nextRCs (nextRC n c) cs
def rvHold (F : Nat → Prop) (G : Nat → Nat → Prop) (B : Nat → Value) (w1 : World) (n : Nat) (v : Value) : RV S.T → Prop
  | .c x => rcHold Q F G B w1 n v x
  | .agg xs => ∃ vs : List Value, v = .agg vs.toArray ∧ rcsHold Q F G B w1 n vs xs
def nextRV (n : Nat) : RV S.T → Nat
  | .c x => nextRC n x
  | .agg xs => nextRCs n xs
def rvsHold (F : Nat → Prop) (G : Nat → Nat → Prop) (B : Nat → Value) (w1 : World) : Nat → List Value → List (RV S.T) → Prop
  | _, [], [] => True
  | n, v :: vs, c :: cs => rvHold Q F G B w1 n v c ∧ rvsHold F G B w1 (nextRV n c) vs cs
  | _, _, _ => False
def nextRVs (n : Nat) : List (RV S.T) → Nat
  | [] => n
  | c :: cs => nextRVs (nextRV n c) cs
def valueOf (vs : List Value) : Value := match vs with | [v] => v | vs => .tuple vs.toArray
structure Quiet (w w1 : World) : Prop where
  os : w1.os = w.os
  tape : w1.tape = w.tape
  output : w1.output = w.output
  size : w.heap.size ≤ w1.heap.size
  heap : ∀ k, k < w.heap.size → w1.heap[k]? = w.heap[k]?
def Comes' (F : Nat → Prop) (w : World) (rvs : List (RV S.T)) (v : Value) (w1 : World) : Prop :=
  Quiet w w1 ∧ ∃ (G : Nat → Nat → Prop) (B : Nat → Value) (vs : List Value), v = valueOf vs ∧ (∀ n, (B n).oneCell' = true) ∧
    (∀ n k, G n k → w.heap.size ≤ k ∧ k < w1.heap.size) ∧ (∀ n m k, n ≠ m → G n k → G m k → False) ∧ rvsHold Q F G B w1 0 vs rvs
structure ConOk (f : FuncId) (g : Con S) : Prop where
  fn : ∃ fn, S.P.funcs[f]? = some fn ∧ (fn.name == "runtime.NumGoroutine") = false ∧ fn.body.isSome = true
  ok : ∀ (avs : List (AV S.T)) (rvs : List (RV S.T)) (w : World) (vs : List Value) (F : Nat → Prop), (g avs).Can rvs → (∀ k, F k → k < w.heap.size) → All2 (avHold Q F w) vs avs →
    Calls S.P f vs.toArray w fun en w1 => ∃ v, en = .returned v ∧ Comes' Q F w rvs v w1
variable {Q}
theorem pl_hold {e : Env S.T} {v : Value} {x : SC S.T} (hp : plain x = true) : hold Q e v x ↔ plHold v x := by
  cases x <;> first | exact Iff.rfl | cases hp
theorem pl_of {e : Env S.T} {v : Value} {x : SC S.T} (h : plHold v x) : hold Q e v x := by
  cases x <;> first | exact h | exact h.elim
theorem toAC_ok (L : Laws S Q) {e : Env S.T} (I : Inv Q e) {c : SC S.T} {v : Value} (hv : hold Q e v c) {x : AC S.T} {d : Dp} (h : toAC e.ob c = some (x, d)) :
    dlt e.U d ∧ valid e.ob d = true ∧ acHold Q (e.Fd d) e.w v x := by
  have nd : dlt e.U [] ∧ valid e.ob [] = true := ⟨fun p hp => (by cases hp), rfl⟩
  unfold toAC at h
  split at h
  · obtain ⟨p, hp, he⟩ := Option.map_eq_some_iff.1 h
    cases he
    obtain ⟨h1, h2, h3⟩ := asList_ok L I hv hp
    exact ⟨h1, h2, hv.2.1, h3⟩
  · rename_i i
    split at h
    · obtain ⟨p, hp, he⟩ := Option.map_eq_some_iff.1 h
      cases he
      obtain ⟨h1, h2, h3⟩ := asList_ok L I hv hp
      exact ⟨h1, h2, hold_one I hv rfl, h3⟩
    · cases h
  · rename_i i n
    split at h
    · obtain ⟨p, hp, he⟩ := Option.map_eq_some_iff.1 h
      cases he
      obtain ⟨h1, h2, h3⟩ := asList_ok L I hv hp
      exact ⟨h1, h2, hold_one I hv rfl, h3⟩
    · cases h
  · rename_i i sv j
    split at h
    · obtain ⟨p, hp, he⟩ := Option.map_eq_some_iff.1 h
      cases he
      obtain ⟨h1, h2, h3⟩ := asList_ok L I hv hp
      exact ⟨h1, h2, hold_one I hv rfl, h3⟩
    · cases h
  · obtain ⟨p, hp, he⟩ := Option.map_eq_some_iff.1 h
    cases he
    obtain ⟨h1, h2, h3⟩ := asList_ok L I hv hp
    exact ⟨h1, h2, hold_one I hv rfl, h3⟩
  · cases hpl : plain c with
    | false => rw [hpl] at h; cases h
    | true =>
      rw [hpl] at h
      simp only [cond_true, Option.some.injEq, Prod.mk.injEq] at h
      obtain ⟨rfl, rfl⟩ := h
      exact ⟨nd.1, nd.2, (pl_hold hpl).1 hv⟩
theorem acHold_mono (L : Laws S Q) {F F' : Nat → Prop} (hF : ∀ k, F k → F' k) {w : World} {v : Value} {x : AC S.T} (h : acHold Q F w v x) : acHold Q F' w v x := by
  cases x with
  | sc x => exact h
  | ls t l => exact ⟨h.1, h.2.move L hF fun _ _ => rfl⟩
theorem avHold_mono (L : Laws S Q) {F F' : Nat → Prop} (hF : ∀ k, F k → F' k) {w : World} {v : Value} {x : AV S.T} (h : avHold Q F w v x) : avHold Q F' w v x := by
  cases x with
  | c x => exact acHold_mono L hF h
  | agg xs =>
    obtain ⟨vs, rfl, hv⟩ := h
    exact ⟨vs, rfl, hv.imp fun _ _ => acHold_mono L hF⟩
theorem Fd_l {e : Env S.T} {d d' : Dp} : ∀ k, e.Fd d k → e.Fd (d ++ d') k := fun k ⟨p, hp, hk⟩ => ⟨p, List.mem_append_left _ hp, hk⟩
theorem Fd_r {e : Env S.T} {d d' : Dp} : ∀ k, e.Fd d' k → e.Fd (d ++ d') k := fun k ⟨p, hp, hk⟩ => ⟨p, List.mem_append_right _ hp, hk⟩
theorem dv_app {e : Env S.T} {d d' : Dp} (h : dlt e.U d ∧ valid e.ob d = true) (h' : dlt e.U d' ∧ valid e.ob d' = true) : dlt e.U (d ++ d') ∧ valid e.ob (d ++ d') = true := by
  refine ⟨fun p hp => (List.mem_append.1 hp).elim (h.1 p) (h'.1 p), valid_iff.2 fun p hp => ?_⟩
  exact (List.mem_append.1 hp).elim (valid_iff.1 h.2 p) (valid_iff.1 h'.2 p)
theorem toACs_ok (L : Laws S Q) {e : Env S.T} (I : Inv Q e) : ∀ {cs : List (SC S.T)} {vs : List Value} {xs : List (AC S.T)} {d : Dp}, All2 (hold Q e) vs cs → toACs e.ob cs = some (xs, d) →
    (dlt e.U d ∧ valid e.ob d = true) ∧ All2 (acHold Q (e.Fd d) e.w) vs xs
  | [], vs, xs, d, hv, h => by
    cases hv
    simp only [toACs, Option.some.injEq, Prod.mk.injEq] at h
    obtain ⟨rfl, rfl⟩ := h
    exact ⟨⟨fun p hp => (by cases hp), rfl⟩, .nil⟩
  | c :: cs, vs, xs, d, hv, h => by
    cases hv
    rename_i v vs h1 h2
    simp only [toACs] at h
    split at h
    · rename_i x d1 l d2 hx hl
      simp only [Option.some.injEq, Prod.mk.injEq] at h
      obtain ⟨rfl, rfl⟩ := h
      obtain ⟨a1, a2, a3⟩ := toAC_ok L I h1 hx
      obtain ⟨b1, b2⟩ := toACs_ok L I h2 hl
      exact ⟨dv_app ⟨a1, a2⟩ b1, .cons (acHold_mono L Fd_l a3) (b2.imp fun _ _ => acHold_mono L Fd_r)⟩
    · cases h
theorem toAV_ok (L : Laws S Q) {e : Env S.T} (I : Inv Q e) {c : SX S.T} {v : Value} (hv : holdX Q e v c) {x : AV S.T} {d : Dp} (h : toAV e.ob c = some (x, d)) :
    (dlt e.U d ∧ valid e.ob d = true) ∧ avHold Q (e.Fd d) e.w v x := by
  unfold toAV at h
  split at h
  · obtain ⟨p, hp, he⟩ := Option.map_eq_some_iff.1 h
    cases he
    obtain ⟨h1, h2, h3⟩ := toAC_ok L I hv hp
    exact ⟨⟨h1, h2⟩, h3⟩
  · obtain ⟨p, hp, he⟩ := Option.map_eq_some_iff.1 h
    cases he
    obtain ⟨vs, rfl, hvs⟩ := hv
    obtain ⟨h1, h2⟩ := toACs_ok L I hvs hp
    exact ⟨h1, vs, rfl, h2⟩
  · cases h
theorem toAVs_ok (L : Laws S Q) {e : Env S.T} (I : Inv Q e) : ∀ {cs : List (SX S.T)} {vs : List Value} {xs : List (AV S.T)} {d : Dp}, All2 (holdX Q e) vs cs → toAVs e.ob cs = some (xs, d) →
    (dlt e.U d ∧ valid e.ob d = true) ∧ All2 (avHold Q (e.Fd d) e.w) vs xs
  | [], vs, xs, d, hv, h => by
    cases hv
    simp only [toAVs, Option.some.injEq, Prod.mk.injEq] at h
    obtain ⟨rfl, rfl⟩ := h
    exact ⟨⟨fun p hp => (by cases hp), rfl⟩, .nil⟩
  | c :: cs, vs, xs, d, hv, h => by
    cases hv
    rename_i v vs h1 h2
    simp only [toAVs] at h
    split at h
    · rename_i x d1 l d2 hx hl
      simp only [Option.some.injEq, Prod.mk.injEq] at h
      obtain ⟨rfl, rfl⟩ := h
      obtain ⟨a1, a3⟩ := toAV_ok L I h1 hx
      obtain ⟨b1, b2⟩ := toAVs_ok L I h2 hl
      exact ⟨dv_app a1 b1, .cons (avHold_mono L Fd_l a3) (b2.imp fun _ _ => avHold_mono L Fd_r)⟩
    · cases h
theorem newMany (L : Laws S Q) {e : Env S.T} (I : Inv Q e) (w1 : World) (hq : Quiet e.w w1) (fr fr1 : Nat) (hfr : ∀ a, fr ≤ a → a < fr1 → ¬ e.U a) (B : Nat → Value) (G : Nat → Nat → Prop) (hone : ∀ a, (B a).oneCell' = true) (ob' : Ob S.T)
    (hob : ∀ a x, lookB a ob' = some x → (fr ≤ a ∧ a < fr1 ∧ x.1 = a) ∨ (¬ (fr ≤ a ∧ a < fr1) ∧ lookB a e.ob = some x))
    (hG : ∀ a k, G a k → e.w.heap.size ≤ k ∧ k < w1.heap.size) (hGd : ∀ a b k, a ≠ b → G a k → G b k → False)
    (e' : Env S.T) (he' : e' = { w := w1, β := fun a => if fr ≤ a ∧ a < fr1 then B a else e.β a, ok := fun a => if fr ≤ a ∧ a < fr1 then G a else e.ok a, ob := ob', U := fun a => e.U a ∨ (fr ≤ a ∧ a < fr1) })
    (hobj : (∀ v c, hold Q e v c → hold Q e' v c) → ∀ a so, lookB a ob' = some (a, so) → fr ≤ a → a < fr1 → objHold Q e' a so)
    (hdp : ∀ a t c te d sv l h, lookB a ob' = some (a, .deep t c te d sv l h) → fr ≤ a → a < fr1 → sv = a) :
    Inv Q e' ∧ Le Q e e' := by
  have hw : e'.w = w1 := by subst he'; rfl
  have hobe : e'.ob = ob' := by subst he'; rfl
  have hβn : ∀ a, fr ≤ a ∧ a < fr1 → e'.β a = B a := fun a h => by subst he'; show (if _ then _ else _) = _; rw [if_pos h]
  have hβo : ∀ a, ¬ (fr ≤ a ∧ a < fr1) → e'.β a = e.β a := fun a h => by subst he'; show (if _ then _ else _) = _; rw [if_neg h]
  have hkn : ∀ a, fr ≤ a ∧ a < fr1 → e'.ok a = G a := fun a h => by subst he'; show (if _ then _ else _) = _; rw [if_pos h]
  have hko : ∀ a, ¬ (fr ≤ a ∧ a < fr1) → e'.ok a = e.ok a := fun a h => by subst he'; show (if _ then _ else _) = _; rw [if_neg h]
  have hU : ∀ a, e.U a → e'.U a := fun a h => by subst he'; exact .inl h
  have hUn : ∀ a, fr ≤ a ∧ a < fr1 → e'.U a := fun a h => by subst he'; exact .inr h
  have hUo : ∀ a, e.U a → ¬ (fr ≤ a ∧ a < fr1) := fun a ha h => hfr a h.1 h.2 ha
  have hβ : ∀ a, e.U a → e'.β a = e.β a := fun a ha => hβo a (hUo a ha)
  have old : ∀ a s so, e.U s → lookB a e'.ob = some (s, so) → ¬ (fr ≤ a ∧ a < fr1) ∧ lookB a e.ob = some (s, so) := by
    intro a s so hs h
    rw [hobe] at h
    rcases hob a _ h with ⟨h1, h2, h3⟩ | h
    · simp at h3
      subst h3
      exact absurd hs (hfr _ h1 h2)
    · exact h
  have hH : ∀ v c, hold Q e v c → hold Q e' v c := by
    intro v c h
    refine hold_step L hβ hU ?_ ?_ h
    · intro a s so ha hs h
      obtain ⟨h1, h2⟩ := old a s so hs h
      exact ⟨⟨_, h2⟩, fun k hk => by rw [hko a h1]; exact hk, fun k hk => by rw [hw]; exact hq.heap k (I.lt a s so h2 k hk)⟩
    · intro a s t c te d sv l hh ha hsv hl
      rw [hobe] at hl
      rcases hob a _ hl with ⟨h1, h2, h3⟩ | ⟨h1, h2⟩
      · simp at h3
        subst h3
        have := hdp _ _ _ _ _ _ _ _ hl h1 h2
        subst this
        exact absurd hsv (hfr _ h1 h2)
      · exact ⟨⟨_, _, _, _, h2⟩, keepH_of fun k hk => by rw [hw]; exact hq.heap k (I.lt a s _ h2 k ((I.obj a s _ h2).2.2.2.2.2.2.1 k hk))⟩
  have hr0 : ¬ (fr ≤ 0 ∧ 0 < fr1) := hUo 0 I.zero
  have hz0 : ∀ s so, lookB 0 e'.ob = some (s, so) → so = .ext := by
    intro s so h
    rw [hobe] at h
    rcases hob 0 _ h with ⟨h1, h2, _⟩ | ⟨_, h3⟩
    · exact absurd ⟨h1, h2⟩ hr0
    · exact I.z0 s so h3
  refine ⟨⟨?_, ?_, hU 0 I.zero, hz0, ?_, ?_⟩, ⟨hH, hU, by rw [hw]; exact hq.os, by rw [hw]; exact hq.tape, by rw [hw]; exact hq.output, by rw [hw]; exact hq.size, fun k hk _ => by rw [hw]; exact hq.heap k hk, ?_, fun k hk => by rw [hko 0 hr0] at hk; exact hk⟩⟩
  · intro a s so h
    rw [hobe] at h
    rcases hob a _ h with ⟨h1, h2, h3⟩ | ⟨h1, h2⟩
    · simp at h3
      subst h3
      exact ⟨hUn _ ⟨h1, h2⟩, hUn _ ⟨h1, h2⟩, hobj hH _ so h h1 h2⟩
    · obtain ⟨hu, hs, ho⟩ := I.obj a s so h2
      refine ⟨hU a hu, hU s hs, ?_⟩
      refine obj_move L ho (hβ a hu) hU (fun k hk => by rw [hko a h1]; exact hk) (fun k hk => by rw [hw]; exact hq.heap k (I.lt a s _ h2 k hk)) (fun d hd hval => ?_) hH
      have hval' : valid e.ob d = true := by
        rw [valid_iff] at hval ⊢
        intro p hp
        obtain ⟨so2, h4⟩ := hval p hp
        exact ⟨_, (old _ _ _ (hd p hp).2 h4).2⟩
      refine ⟨hval', ?_⟩
      rintro k ⟨p, hp, hk⟩
      exact ⟨⟨p, hp, by rw [hko _ (hUo _ (hd p hp).1)]; exact hk⟩, by rw [hw]; exact hq.heap k (Fd_lt I hval' k ⟨p, hp, hk⟩)⟩
  · intro a
    by_cases h : fr ≤ a ∧ a < fr1
    · rw [hβn a h]; exact hone a
    · rw [hβo a h]; exact I.one a
  · intro a s so h k hk
    rw [hobe] at h
    rw [hw]
    rcases hob a _ h with ⟨h1, h2, h3⟩ | ⟨h1, h2⟩
    · rw [hkn a ⟨h1, h2⟩] at hk
      exact (hG a k hk).2
    · rw [hko a h1] at hk
      exact Nat.lt_of_lt_of_le (I.lt a s so h2 k hk) hq.size
  · intro a b s s' so so' h h' hne k hk hk'
    rw [hobe] at h h'
    rcases hob a _ h with ⟨h1, h2, h3⟩ | ⟨h1, h2⟩ <;> rcases hob b _ h' with ⟨h1', h2', h3'⟩ | ⟨h1', h2'⟩
    · rw [hkn a ⟨h1, h2⟩] at hk
      rw [hkn b ⟨h1', h2'⟩] at hk'
      exact hGd a b k hne hk hk'
    · rw [hkn a ⟨h1, h2⟩] at hk
      rw [hko b h1'] at hk'
      have := I.lt b s' so' h2' k hk'
      have := (hG a k hk).1
      omega
    · rw [hko a h1] at hk
      rw [hkn b ⟨h1', h2'⟩] at hk'
      have := I.lt a s so h2 k hk
      have := (hG b k hk').1
      omega
    · rw [hko a h1] at hk
      rw [hko b h1'] at hk'
      exact I.dis a b s s' so so' h2 h2' hne k hk hk'
  · rintro k ⟨a, s, so, h, hne, hk⟩
    rw [hobe] at h
    rcases hob a _ h with ⟨h1, h2, h3⟩ | ⟨h1, h2⟩
    · rw [hkn a ⟨h1, h2⟩] at hk
      exact .inr (hG a k hk).1
    · rw [hko a h1] at hk
      exact .inl ⟨a, s, so, h2, hne, hk⟩
end
end Go.Proofs.Ytheemkehedmlfaa.E
