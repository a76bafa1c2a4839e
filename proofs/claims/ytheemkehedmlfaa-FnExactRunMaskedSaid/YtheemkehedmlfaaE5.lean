import Derived.Test.YtheemkehedmlfaaD1
set_option linter.unusedVariables false
set_option linter.unusedSimpArgs false
namespace Go.Proofs.Ytheemkehedmlfaa.E
open Go
theorem can_guard {U : Type} {b : Bool} {t : Tr U} {u : U} (h : (guardT b t).Can u) : b = true ∧ t.Can u := by
  cases b
  · exact h.elim
  · exact ⟨rfl, h⟩
theorem can_or.{u} {U : Type u} {V : Type} {o : Option U} {f : U → Tr V} {u : V} (h : (orNone o f).Can u) : ∃ x, o = some x ∧ (f x).Can u := by
  cases o with
  | none => exact h.elim
  | some x => exact ⟨x, rfl, h⟩
theorem can_br {U : Type} {b : Bool} {t : Tr U} {u : U} (h : (Tr.br b t .none).Can u) : b = true ∧ t.Can u := by
  rcases h with h | ⟨_, h⟩
  · exact h
  · exact h.elim
section
variable {S : Sig} {Q : Kind S}
theorem row_elem (L : Laws S Q) {e : Env S.T} {i s : Nat} {t : TypeId} {d : Dp} {l : List (S.T t)} (ho : ∃ so, lookB i e.ob = some (s, so)) (hi : e.U i) (hs : e.U s) (hob : objHold Q e i (.row t d l)) (hd : valid e.ob d = true) {g m c : Nat} (hb : e.β i = .slice (some ⟨g, 0, none⟩) m c) {j : Nat} (hj : j < m) :
    ∃ p cs q, cellsAt e.w g 0 (p ++ cs ++ q) ∧ p.length = j * S.sz t ∧ cs.length = S.sz t ∧ e.ok i g ∧ dlt e.U ((i, s) :: d) ∧ valid e.ob ((i, s) :: d) = true ∧ Q.rep t (fun k => (e.ok i k ∧ k ≠ g) ∨ e.Fd d k) e.w (get t l (j : Int)) cs ∧
      Q.rep t (e.Fd ((i, s) :: d)) e.w (get t l (j : Int)) cs ∧ j < l.length := by
  obtain ⟨hdl, hown, cs, hr, hv⟩ := hob
  obtain ⟨hm, hc⟩ := own_cells hr hb
  subst hm
  have hx : l[j]? = some (get t l (j : Int)) := by
    unfold get
    rw [Int.toNat_natCast, List.getD_eq_getElem?_getD, List.getElem?_eq_getElem hj]
    rfl
  obtain ⟨p, c', q, rfl, hp, hcl, hR⟩ := reps_at j (hv hd) hx
  have hg : e.ok i g := hown g (by rw [hb]; rfl)
  have hobk : (e.β i).ownBlock = some g := by rw [hb]; rfl
  refine ⟨p, c', q, hc, hp, hcl, hg, ?_, ?_, ?_, ?_, hj⟩
  · intro x hx
    rcases List.mem_cons.1 hx with rfl | hx
    · exact ⟨hi, hs⟩
    · exact hdl x hx
  · rw [valid_iff] at hd ⊢
    intro x hx
    rcases List.mem_cons.1 hx with rfl | hx
    · exact ho
    · exact hd x hx
  · refine L.mono _ _ _ _ _ _ ?_ hR
    rintro k (⟨hk, hne⟩ | hk)
    · exact .inl ⟨hk, fun e1 => hne (by rw [hobk, e1])⟩
    · exact .inr hk
  · refine L.mono _ _ _ _ _ _ ?_ hR
    rintro k (⟨hk, _⟩ | ⟨x, hx, hk⟩)
    · exact ⟨(i, s), List.mem_cons_self, hk⟩
    · exact ⟨x, List.mem_cons_of_mem _ hx, hk⟩
theorem add_off (g o : Nat) (k : Nat) : (⟨g, o, none⟩ : Addr).add k = ⟨g, o + k, none⟩ := Addr.add_mid g o k
theorem loadX_ok (L : Laws S Q) {e : Env S.T} (I : Inv Q e) {t : TypeId} {a : SX S.T} {v : Value} (hv : holdX Q e v a) {u : Upd S.T} (h : (loadX e.ob t a).Can u) :
    ∃ v', (Instr.loadAt t v).run S.P e.w = .ok v' e.w ∧ holdX Q e v' u.res ∧ u.set = [] := by
  unfold loadX at h
  split at h
  ·
    rename_i i off
    split at h
    · rename_i s t' cs ho
      obtain ⟨hb, h⟩ := can_guard h
      obtain ⟨x, hx, h⟩ := can_or h
      simp only [Tr.Can] at h
      subst h
      simp only [Bool.and_eq_true] at hb
      obtain ⟨hi, g, hβ, rfl⟩ := hv
      obtain ⟨_, _, g', vs, hβ', hok, hh, hc⟩ := I.obj i s _ ho
      rw [hβ] at hβ'
      cases hβ'
      have hcell : cellsAt e.w g 0 vs := ⟨vs.toArray, t', (0, 0), hh, fun j u hu => by rw [Nat.zero_add]; simpa using hu⟩
      have h1 := hcell.sub off (S.sz t)
      rw [Nat.zero_add] at h1
      obtain ⟨v', h2, h3⟩ := load_ok L hb.1 h1 ((hc.drop off).take (S.sz t)) (by rw [List.length_take, List.length_drop]; have := ble_le hb.2; omega) hx
      exact ⟨v', h2, h3, rfl⟩
    · exact h.elim
  ·
    rename_i i t' j off
    split at h
    · rename_i s t2 d l ho
      split at h
      · rename_i ht
        subst ht
        obtain ⟨hb, h⟩ := can_guard h
        obtain ⟨x, hx, h⟩ := can_or h
        simp only [Tr.Can] at h
        subst h
        simp only [Bool.and_eq_true] at hb
        obtain ⟨hi, h0, g, m, c, hβ, hm, rfl⟩ := hv
        obtain ⟨q1, q2, q3⟩ := I.obj i s _ ho
        obtain ⟨p, cs, q, hc, hp, hcl, hg, hdl, hval, _, hR, _⟩ := row_elem L ⟨_, ho⟩ q1 q2 q3 hb.1.1.1 hβ hm
        have h1 := (hc.mid).sub off (S.sz t)
        rw [Nat.zero_add, hp] at h1
        have hjj : ((j.toNat : Nat) : Int) = j := Int.toNat_of_nonneg h0
        rw [hjj] at hR
        have h2 := L.out _ e _ _ _ hdl hval hR
        obtain ⟨v', h3, h4⟩ := load_ok L hb.1.1.2 h1 ((h2.drop off).take (S.sz t)) (by rw [List.length_take, List.length_drop, ← h2.len, hcl]; have := ble_le hb.2; omega) hx
        exact ⟨v', h3, h4, rfl⟩
      · exact h.elim
    · rename_i s t2 c te d sv l ho
      split at h
      · rename_i ht
        subst ht
        obtain ⟨hb, h⟩ := can_guard h
        obtain ⟨x, hx, h⟩ := can_or h
        simp only [Tr.Can] at h
        subst h
        simp only [Bool.and_eq_true] at hb
        obtain ⟨hi, h0, g, m, cp, hβ, hm, rfl⟩ := hv
        obtain ⟨q1, q2, q3⟩ := I.obj i s _ ho
        obtain ⟨p, cs, q, hc, hp, hcl, hg, hdl, hval, _, hR, _⟩ := row_elem L ⟨_, ho⟩ q1 q2 (deep_row L.toPre q3) hb.1.1.1 hβ hm
        have h0c := hc.mid
        have h1 := h0c.sub off (S.sz t)
        rw [Nat.zero_add, hp] at h1 h0c
        have hjj : ((j.toNat : Nat) : Int) = j := Int.toNat_of_nonneg h0
        rw [hjj] at hR
        have h2' := L.out _ e _ _ _ hdl hval hR
        have h2 : All2 (hold Q e) cs ((S.out t2 ((i, s) :: d) (get t2 l j)).set c (.sub i sv j)) := by
          refine h2'.set_r fun v hv => ⟨q1, q3.2.2.2.1, h0, L.one _ _ _ _ _ hR v (List.mem_of_getElem? hv), fun s' t' c' te' d' l' hh ho' => ?_⟩
          rw [ho] at ho'
          cases ho'
          exact ⟨g, m, cp, hβ, hm, h0c.cell c v hv⟩
        obtain ⟨v', h3, h4⟩ := load_ok L hb.1.1.2 h1 ((h2.drop off).take (S.sz t)) (by rw [List.length_take, List.length_drop, ← h2.len, hcl]; have := ble_le hb.2; omega) hx
        exact ⟨v', h3, h4, rfl⟩
      · exact h.elim
    · exact h.elim
  ·
    rename_i i sv j k off
    split at h
    · rename_i s t0 c te d sv' l hh ho
      obtain ⟨hb, h⟩ := can_guard h
      obtain ⟨x, hx, h⟩ := can_or h
      simp only [Tr.Can] at h
      subst h
      simp only [Bool.and_eq_true] at hb
      obtain ⟨ho, hval, rfl, rfl⟩ := lookS_ok ho
      simp only at ho hval
      obtain ⟨q1, q2, q3⟩ := I.obj i s _ ho
      obtain ⟨hi, hsv, h0, hk0, _, hsel⟩ := hv
      obtain ⟨g', m', c', hh, hkm, rfl⟩ := hsel _ _ _ _ _ _ _ ho
      obtain ⟨g, m, cp, cs, cj, B, R, A⟩ := sub_at L.toPre q3 hval hh
      obtain ⟨hm', hcell⟩ := own_cells A.irow rfl
      subst hm'
      have hx1 : (S.ax.gsl t0 c te (get t0 l j))[k.toNat]? = some (get te (S.ax.gsl t0 c te (get t0 l j)) k) := getA_at (S := S) hkm
      obtain ⟨p, c0, q, rfl, hp, hcl, hR⟩ := reps_at k.toNat A.ireps hx1
      have h1 := (hcell.mid).sub off (S.sz t)
      rw [Nat.zero_add, hp] at h1
      have hdl : dlt e.U [(i, s)] := fun p hp => by
        rw [List.mem_singleton] at hp
        subst hp
        exact ⟨q1, q2⟩
      have hval1 : valid e.ob [(i, s)] = true := valid_iff.2 fun p hp => by
        rw [List.mem_singleton] at hp
        subst hp
        exact ⟨_, ho⟩
      have h2 := L.out te e [(i, s)] _ _ hdl hval1 (L.mono _ _ _ _ _ _ (fun _ h => h.elim) hR)
      obtain ⟨v', h3, h4⟩ := load_ok L hb.1.1 h1 ((h2.drop off).take (S.sz t)) (by rw [List.length_take, List.length_drop, ← h2.len, hcl]; have := ble_le hb.2; omega) hx
      exact ⟨v', h3, h4, rfl⟩
    · exact h.elim
  ·
    rename_i t' d y off
    obtain ⟨hb, h⟩ := can_guard h
    obtain ⟨x, hx, h⟩ := can_or h
    simp only [Tr.Can] at h
    subst h
    simp only [Bool.and_eq_true] at hb
    obtain ⟨hd, _, hr⟩ := hv
    obtain ⟨g, o, cs, rfl, hg, hc, hcl, hR⟩ := hr hb.1.1.1
    have h1 := hc.sub off (S.sz t)
    have h2 := L.out _ e _ _ _ hd hb.1.1.1 hR
    obtain ⟨v', h3, h4⟩ := load_ok L hb.1.1.2 h1 ((h2.drop off).take (S.sz t)) (by rw [List.length_take, List.length_drop, ← h2.len, hcl]; have := ble_le hb.2; omega) hx
    exact ⟨v', h3, h4, rfl⟩
  · exact h.elim
theorem store_ok (L : Laws S Q) {t : TypeId} (ht : S.known t = true) {w : World} {g o : Nat} {cur : Array Value} {e : TypeId} (hg : w.heap[g]? = some (.cells cur e (0, 0))) {v : Value} (h1 : ∀ u, u ∈ v.cells.toList → u.oneCell' = true) (hl : v.cells.size = S.sz t) (hfit : o + S.sz t ≤ cur.size) :
    (Instr.storeAt t (.pointer (some ⟨g, o, none⟩)) v).run S.P w = .ok () (w.setRow g (splice o v.cells.toList cur.toList).toArray) := by
  have hst := run_storeCells_at (P := S.P) g o e v.cells.toList 0 cur w hg (by simp only [Array.length_toList, Nat.add_zero]; omega) h1
  have hs := run_sizeOf' L ht w
  simp only [Nat.add_zero] at hst
  simp only [Instr.storeAt, Instr.sureAddr, storeVar, Sem.run_bind, Sem.run_pure, Result.andThen_ok, hs, hl, ne_eq, not_true_eq_false, if_false, hst]
  rfl
theorem lookB_put {β : Type} {i : Nat} {x : β} {l : Nat → Option β} {a : Nat} {y : β} (h : lookB a (putB i x l) = some y) : (a = i ∧ y = x) ∨ (a ≠ i ∧ lookB a l = some y) := by
  simp only [lookB, putB] at h
  cases hb : Nat.beq a i with
  | true => rw [hb] at h; exact .inl ⟨beq_eq' hb, (Option.some.inj h).symm⟩
  | false => rw [hb] at h; exact .inr ⟨fun e1 => (by rw [e1, Nat.beq_refl] at hb; cases hb), h⟩
theorem lookB_del {β : Type} {i : Nat} {l : Nat → Option β} {a : Nat} {y : β} (h : lookB a (delB i l) = some y) : a ≠ i ∧ lookB a l = some y := by
  simp only [lookB, delB] at h
  cases hb : Nat.beq a i with
  | true => rw [hb] at h; cases h
  | false => rw [hb] at h; exact ⟨fun e1 => (by rw [e1, Nat.beq_refl] at hb; cases hb), h⟩
theorem hU8 {T : Tys} (e : Env T) (fr : Nat) : ∀ a, (e.U a ∨ a = fr) → e.U a ∨ (fr ≤ a ∧ a < fr + 8) := fun a h => h.imp id fun h => by omega
def Eff (Q : Kind S) (e : Env S.T) (fr : Nat) (v : Value) (w1 : World) (u : Upd S.T) : Prop :=
  ∃ e', e'.w = w1 ∧ Inv Q e' ∧ Le Q e e' ∧ e'.ob = u.obOf e.ob ∧ (∀ a, e'.U a → e.U a ∨ (fr ≤ a ∧ a < fr + 8)) ∧ holdX Q e' v u.res
theorem newVar_ok (L : Laws S Q) {e : Env S.T} (I : Inv Q e) {fr : Nat} (hfr : ¬ e.U fr) {t : TypeId} {vs : List Value} {cs : List (SC S.T)} (hc : All2 (hold Q e) vs cs) {u : Upd S.T} (h : (newVar fr t cs).Can u) :
    Eff Q e fr (.pointer (some ⟨e.w.heap.size, 0, none⟩)) (e.w.alloc (.cells vs.toArray t)) u := by
  simp only [newVar, Tr.Can] at h
  subst h
  let e' : Env S.T := { w := e.w.alloc (.cells vs.toArray t), β := fun a => if a = fr then .pointer (some ⟨e.w.heap.size, 0, none⟩) else e.β a, ok := fun a => if a = fr then (fun k => k = e.w.heap.size) else e.ok a, ob := putB fr (fr, .var t cs) e.ob, U := fun a => e.U a ∨ a = fr }
  have hsz : (e.w.alloc (.cells vs.toArray t)).heap.size = e.w.heap.size + 1 := by show (e.w.heap.push _).size = _; simp
  obtain ⟨h1, h2⟩ := event L I (e.w.alloc (.cells vs.toArray t)) (.pointer (some ⟨e.w.heap.size, 0, none⟩)) (fun k => k = e.w.heap.size) (putB fr (fr, .var t cs) e.ob) (.var t cs) none fr fr hfr (.inl rfl)
    (fun a ha => by cases ha) (fun a x hx => (lookB_put hx).imp id fun ⟨p, q⟩ => ⟨p, by simp, q⟩) (by simp) (fun k hk => ⟨by omega, .inr (by omega)⟩) rfl rfl rfl (by omega)
    (fun k hk _ => heap_alloc_old e.w _ hk) rfl e' rfl
    (fun hH => ⟨e.w.heap.size, vs, by simp [e'], by simp [e'], heap_alloc_new e.w _, hc.imp hH⟩)
  exact ⟨e', rfl, h1, h2, by simp [Upd.obOf, put1, e'], hU8 e fr, by simp [e'], e.w.heap.size, by simp [e'], rfl⟩
theorem splice_len {β : Type} {off : Nat} {n o : List β} (h : off + n.length ≤ o.length) : (splice off n o).length = o.length := by
  unfold splice
  simp only [List.length_append, List.length_take, List.length_drop]
  omega
theorem splice_at {β : Type} {off : Nat} {n p c q : List β} (h : off + n.length ≤ c.length) : splice (p.length + off) n (p ++ c ++ q) = p ++ splice off n c ++ q := by
  unfold splice
  rw [List.append_assoc p c q, List.take_length_add_append, Nat.add_assoc, List.drop_length_add_append, List.take_append_of_le_length (by omega), List.drop_append_of_le_length h]
  simp only [List.append_assoc]
theorem splice_in {β : Type} {off : Nat} {n c : List β} {m : Nat} (hm : n.length = m) : splice off n c = c.take off ++ n ++ c.drop (off + m) := by
  unfold splice; rw [hm]
theorem splice_deep {β : Type} {j sz off : Nat} {n p c q : List β} (hp : p.length = j * sz) (hc : c.length = sz) (h : off + n.length ≤ sz) : splice (j * sz + off) n (p ++ c ++ q) = splice (j * sz) (splice off n c) (p ++ c ++ q) := by
  rw [← hp, splice_at (by omega)]
  have h1 : (splice off n c).length = c.length := splice_len (by omega)
  generalize splice off n c = x at h1
  unfold splice
  rw [h1, List.append_assoc p c q, List.drop_length_add_append, List.drop_left, List.take_left]
end
end Go.Proofs.Ytheemkehedmlfaa.E
