import Derived.Test.YtheemkehedmlfaaE4
set_option linter.unusedVariables false
set_option linter.unusedSimpArgs false
namespace Go.Proofs.Ytheemkehedmlfaa.E
open Go
theorem ble_le {a b : Nat} (h : Nat.ble a b = true) : a ≤ b := Nat.le_of_ble_eq_true h
theorem beq_eq' {a b : Nat} (h : Nat.beq a b = true) : a = b := Nat.eq_of_beq_eq_true h
theorem can_ret {U : Type} {u v : U} (h : (Tr.ret v).Can u) : v = u := h
theorem own_cells {w : World} {t : TypeId} {sz n : Nat} {v : Value} {cs : List Value} (h : w.ownsRow 0 t sz v n cs) {g m c : Nat} (hv : v = .slice (some ⟨g, 0, none⟩) m c) : m = n ∧ cellsAt w g 0 cs := by
  rcases h.2 with ⟨h2, _⟩ | ⟨g', cap, cur, h2, hb, hg, _, _, _, ht⟩
  · rw [hv] at h2; cases h2
  · rw [hv] at h2
    cases h2
    refine ⟨rfl, cur, t, (0, 0), hg, fun j u hu => ?_⟩
    rw [← ht, List.getElem?_take] at hu
    split at hu
    · rw [Nat.zero_add]; simpa using hu
    · cases hu
theorem own_one {w : World} {t : TypeId} {sz n : Nat} {v : Value} {cs : List Value} (h : w.ownsRow 0 t sz v n cs) : v.oneCell' = true := by
  rcases h.2 with ⟨rfl, _⟩ | ⟨_, _, _, rfl, _⟩ <;> rfl
theorem All2.set_r {α β : Type} {R : α → β → Prop} {b : β} : ∀ {l : List α} {m : List β} {c : Nat}, All2 R l m → (∀ a, l[c]? = some a → R a b) → All2 R l (m.set c b)
  | _, _, c, .nil, _ => by simp; exact .nil
  | _, _, 0, .cons x r, h => by simp; exact .cons (h _ rfl) r
  | _, _, c + 1, .cons x r, h => by simp; exact .cons x (r.set_r fun a ha => h a (by simpa using ha))
theorem reps_of_at {α : Type} {R : α → List Value → Prop} {sz : Nat} : ∀ {l : List α} {cs : List Value}, cs.length = l.length * sz → (∀ j x, l[j]? = some x → R x ((cs.drop (j * sz)).take sz)) → reps R sz l cs
  | [], cs, hl, _ => List.eq_nil_of_length_eq_zero (by simpa using hl)
  | x :: l, cs, hl, h => by
    rw [List.length_cons, Nat.add_mul, Nat.one_mul] at hl
    refine ⟨cs.take sz, cs.drop sz, (List.take_append_drop _ _).symm, by rw [List.length_take]; omega, ?_, reps_of_at (by rw [List.length_drop]; omega) fun j y hj => ?_⟩
    · have := h 0 x rfl
      simpa using this
    · have := h (j + 1) y (by simpa using hj)
      rw [Nat.add_mul, Nat.one_mul, Nat.add_comm] at this
      rw [List.drop_drop]
      exact this
theorem at_of_reps {α : Type} {R : α → List Value → Prop} {sz : Nat} : ∀ {l : List α} {cs : List Value}, reps R sz l cs → ∀ j x, l[j]? = some x → R x ((cs.drop (j * sz)).take sz)
  | [], _, _, j, x, hx => by simp at hx
  | y :: l, _, ⟨c0, c1, e, hl, hy, hr⟩, 0, x, hx => by
    simp at hx
    subst hx
    rw [e, Nat.zero_mul, List.drop_zero, ← hl, List.take_left]
    exact hy
  | y :: l, _, ⟨c0, c1, e, hl, hy, hr⟩, j + 1, x, hx => by
    have := at_of_reps hr j x (by simpa using hx)
    rw [e, show (j + 1) * sz = c0.length + j * sz by rw [hl, Nat.add_mul]; omega, List.drop_length_add_append]
    exact this
section
variable {S : Sig} {Q : Kind S}
theorem Rd.own (L : Pre S Q) {t : TypeId} {w : World} {F : Nat → Prop} {v : Value} {l : List (S.T t)} {cs : List Value} (h : w.ownsRow 0 t (S.sz t) v l.length cs) (hF : ∀ k, v.ownBlock = some k → F k) (hr : reps (Q.rep t F w) (S.sz t) l cs) : Rd Q t F w v l := by
  rcases h.2 with ⟨h2, h3⟩ | ⟨g, cap, cur, h2, _, hh, hnc, _, _, htk⟩
  · have : l = [] := List.eq_nil_of_length_eq_zero h3
    subst this
    exact ⟨none, 0, h2, Nat.le_refl _, fun h => absurd rfl h⟩
  · exact ⟨_, cap, h2, hnc, fun _ => ⟨g, 0, cs, rfl, hF g (by rw [h2]; rfl), (own_cells h h2).2, hr⟩⟩
theorem DE_rep (L : Pre S Q) {t : TypeId} {c : Nat} {te : TypeId} {w : World} {F B : Nat → Prop} {x : S.T t} {cs : List Value} (hx : S.xc t = some (c, te)) (h2 : RE Q t c te w F x cs) (h : OE Q t c te w B x cs) : Q.rep t (fun k => F k ∨ B k) w x cs := by
  obtain ⟨v, cj, h1, h3, h4, h5⟩ := h
  have h6 := L.join t c te (fun k => F k ∨ B k) w x cs v (S.ax.gsl t c te x) hx h1 (own_one h3) (L.mono _ _ _ _ _ _ (fun _ hk => .inl hk) h2)
    (Rd.own L h3 (fun k hk => .inr (h5 k hk)) (reps_imp (fun _ _ hx => L.mono _ _ _ _ _ _ (fun _ hk => hk.elim) hx) h4))
  rwa [L.sg] at h6
theorem deep_row (L : Pre S Q) {e : Env S.T} {i : Nat} {t : TypeId} {c : Nat} {te : TypeId} {d : Dp} {sv : Nat} {l : List (S.T t)} (h : objHold Q e i (.deep t c te d sv l none)) : objHold Q e i (.row t d l) := by
  obtain ⟨hx, hf, hd, hs, hown, cs, hr, B, R, hB, hBd, hR, hv⟩ := h
  refine ⟨hd, hown, cs, hr, fun hval => reps_of_at hr.1 fun j x hj => ?_⟩
  refine L.mono _ _ _ _ _ _ ?_ (DE_rep L hx (hv hval j x hj).1 ((hv hval j x hj).2 (by simp)))
  rintro k ((hk | hk) | hk)
  · exact .inl ⟨(hR k hk).1, (hR k hk).2.1⟩
  · exact .inr hk
  · exact .inl (hB j k hk)
theorem lookR_ok (L : Pre S Q) {e : Env S.T} (I : Inv Q e) {i s : Nat} {t : TypeId} {d : Dp} {l : List (S.T t)} (h : lookR i e.ob = some ⟨s, t, d, l⟩) : (∃ so, lookB i e.ob = some (s, so) ∧ so ≠ .ext) ∧ e.U i ∧ e.U s ∧ objHold Q e i (.row t d l) := by
  unfold lookR at h
  split at h
  · rename_i ho
    cases h
    obtain ⟨h1, h2, h3⟩ := I.obj _ _ _ ho
    exact ⟨⟨_, ho, by simp⟩, h1, h2, h3⟩
  · rename_i ho
    cases h
    obtain ⟨h1, h2, h3⟩ := I.obj _ _ _ ho
    exact ⟨⟨_, ho, by simp⟩, h1, h2, deep_row L h3⟩
  · cases h
theorem lookD_ok {e : Env S.T} {i : Nat} {v : DeepV S.T} (h : lookD i e.ob = some v) : lookB i e.ob = some (v.s, .deep v.t v.c v.te v.d v.sv v.l v.h) := by
  unfold lookD at h
  split at h
  · rename_i ho
    cases h
    exact ho
  · cases h
theorem lookS_ok {e : Env S.T} {i sv : Nat} {v : DeepV S.T} (h : lookS i sv e.ob = some v) : lookB i e.ob = some (v.s, .deep v.t v.c v.te v.d sv v.l none) ∧ valid e.ob v.d = true ∧ v.sv = sv ∧ v.h = none := by
  unfold lookS at h
  split at h
  · rename_i v' ho
    cases hb : Nat.beq v'.sv sv && v'.h.isNone && valid e.ob v'.d with
    | false => rw [hb] at h; cases h
    | true =>
      rw [hb] at h
      cases h
      simp only [Bool.and_eq_true] at hb
      have h1 := lookD_ok ho
      have h2 := beq_eq' hb.1.1
      have h3 : v.h = none := by
        cases hq : v.h with
        | none => rfl
        | some j => rw [hq] at hb; simp at hb
      rw [h2, h3] at h1
      exact ⟨h1, hb.2, h2, h3⟩
  · cases h
theorem deep_at {e : Env S.T} {i : Nat} {t : TypeId} {c : Nat} {l : List (S.T t)} {cs : List Value} (hr : e.w.ownsRow 0 t (S.sz t) (e.β i) l.length cs) (hc : c < S.sz t) {j : Int} {v : Value} (h : hdrAt e i (S.sz t) c j v) :
    ∃ g m cp, e.β i = .slice (some ⟨g, 0, none⟩) m cp ∧ m = l.length ∧ j.toNat < l.length ∧ cellsAt e.w g 0 cs ∧ cellsAt e.w g (j.toNat * S.sz t) ((cs.drop (j.toNat * S.sz t)).take (S.sz t)) ∧ ((cs.drop (j.toNat * S.sz t)).take (S.sz t))[c]? = some v ∧
      ((cs.drop (j.toNat * S.sz t)).take (S.sz t)).length = S.sz t := by
  obtain ⟨g, m, cp, h1, h2, h3⟩ := h
  obtain ⟨h4, h5⟩ := own_cells hr h1
  subst h4
  have hlen : ((cs.drop (j.toNat * S.sz t)).take (S.sz t)).length = S.sz t := by
    rw [List.length_take, List.length_drop, hr.1]
    have := Nat.mul_le_mul_right (S.sz t) (show j.toNat + 1 ≤ l.length from h2)
    rw [Nat.add_mul] at this
    omega
  have h6 := h5.sub (j.toNat * S.sz t) (S.sz t)
  rw [Nat.zero_add] at h6
  refine ⟨g, _, cp, h1, rfl, h2, h5, h6, ?_, hlen⟩
  have h7 : c < ((cs.drop (j.toNat * S.sz t)).take (S.sz t)).length := by omega
  have h8 := h6.cell c _ (List.getElem?_eq_getElem h7)
  rw [List.getElem?_eq_getElem h7]
  rw [h3] at h8
  exact h8.symm
theorem getA_at {t : TypeId} {l : List (S.T t)} {j : Int} (h : j.toNat < l.length) : l[j.toNat]? = some (getA S.ax t l j) := by
  unfold getA
  rw [List.getD_eq_getElem?_getD, List.getElem?_eq_getElem h]
  rfl
structure SubAt (Q : Kind S) (e : Env S.T) (v : Value) (i : Nat) (j : Int) (t : TypeId) (c : Nat) (te : TypeId) (d : Dp) (l : List (S.T t)) (g m cp : Nat) (cs cj : List Value) (B : Nat → Nat → Prop) (R : Nat → Prop) : Prop where
  xc : S.xc t = some (c, te)
  flat : S.flat te = true
  dl : dlt e.U d
  own : e.ok i g
  β : e.β i = .slice (some ⟨g, 0, none⟩) m cp
  row : e.w.ownsRow 0 t (S.sz t) (e.β i) l.length cs
  hB : ∀ j k, B j k → e.ok i k ∧ k ≠ g
  hBd : ∀ j j' k, B j k → B j' k → j = j'
  hR : ∀ k, R k → e.ok i k ∧ k ≠ g ∧ ∀ j, ¬ B j k
  all : ∀ j x, l[j]? = some x → RE Q t c te e.w (fun k => R k ∨ e.Fd d k) x ((cs.drop (j * S.sz t)).take (S.sz t)) ∧ OE Q t c te e.w (B j) x ((cs.drop (j * S.sz t)).take (S.sz t))
  lt : j.toNat < l.length
  cells : cellsAt e.w g (j.toNat * S.sz t) ((cs.drop (j.toNat * S.sz t)).take (S.sz t))
  hv : ((cs.drop (j.toNat * S.sz t)).take (S.sz t))[c]? = some v
  len : ((cs.drop (j.toNat * S.sz t)).take (S.sz t)).length = S.sz t
  rest : RE Q t c te e.w (fun k => R k ∨ e.Fd d k) (getA S.ax t l j) ((cs.drop (j.toNat * S.sz t)).take (S.sz t))
  irow : e.w.ownsRow 0 te (S.sz te) v (S.ax.gsl t c te (getA S.ax t l j)).length cj
  ireps : reps (Q.rep te (fun _ => False) e.w) (S.sz te) (S.ax.gsl t c te (getA S.ax t l j)) cj
  iblk : ∀ k, v.ownBlock = some k → B j.toNat k
theorem sub_at (L : Pre S Q) {e : Env S.T} {i : Nat} {t : TypeId} {c : Nat} {te : TypeId} {d : Dp} {sv : Nat} {l : List (S.T t)} (ho : objHold Q e i (.deep t c te d sv l none)) (hd : valid e.ob d = true) {j : Int} {v : Value} (h : hdrAt e i (S.sz t) c j v) :
    ∃ g m cp cs cj B R, SubAt Q e v i j t c te d l g m cp cs cj B R := by
  obtain ⟨hx, hf, hdl, hs, hown, cs, hr, B, R, hB, hBd, hR, hv⟩ := ho
  obtain ⟨g, m, cp, h1, h2, h3, h4, h5, h6, h7⟩ := deep_at hr (L.xsz _ _ _ hx) h
  obtain ⟨g2, hO⟩ := hv hd j.toNat _ (getA_at h3)
  obtain ⟨v', cj, g1, g3, g4, g5⟩ := hO (by simp)
  rw [h6] at g1
  cases g1
  have hb : (e.β i).ownBlock = some g := by rw [h1]; rfl
  rw [hb] at hB hR
  exact ⟨g, m, cp, cs, cj, B, R, hx, hf, hdl, hown g hb, h1, hr, fun j k hk => ⟨(hB j k hk).1, fun e1 => (hB j k hk).2 (by rw [e1])⟩, hBd, fun k hk => ⟨(hR k hk).1, fun e1 => (hR k hk).2.1 (by rw [e1]), (hR k hk).2.2⟩,
    fun j x hj => ⟨(hv hd j x hj).1, (hv hd j x hj).2 (by simp)⟩, h3, h5, h6, h7, g2, g3, g4, g5⟩
end
end Go.Proofs.Ytheemkehedmlfaa.E
