import Derived.Test.YtdpggojdmabnkaaE4
/-! The engine, sixth text: loads, stores, variables. -/
set_option linter.unusedVariables false
set_option linter.unusedSimpArgs false
namespace Go.Proofs.Ytdpggojdmabnkaa.E
open Go
theorem can_guard {U : Type} {b : Bool} {t : Tr U} {u : U} (h : (guardT b t).Can u) : b = true ∧ t.Can u := by
  cases b
  · exact h.elim
  · exact ⟨rfl, h⟩
theorem can_or.{u} {U : Type u} {V : Type} {o : Option U} {f : U → Tr V} {u : V} (h : (orNone o f).Can u) : ∃ x, o = some x ∧ (f x).Can u := by
  cases o with
  | none => exact h.elim
  | some x => exact ⟨x, rfl, h⟩
theorem can_br {U : Type} {b : Bool} {t : Tr U} {u : U} (h : (Tr.br b t .none).Can u) : b = true ∧ t.Can u := by
  rcases h with h | ⟨_, h⟩
  · exact h
  · exact h.elim
theorem ble_le {a b : Nat} (h : Nat.ble a b = true) : a ≤ b := Nat.le_of_ble_eq_true h
theorem beq_eq' {a b : Nat} (h : Nat.beq a b = true) : a = b := Nat.eq_of_beq_eq_true h
section
variable {S : Sig} {Q : Kind S}
theorem own_cells {w : World} {t : TypeId} {sz n : Nat} {v : Value} {cs : List Value} (h : w.ownsRow 0 t sz v n cs) {g m c : Nat} (hv : v = .slice (some ⟨g, 0, none⟩) m c) : m = n ∧ cellsAt w g 0 cs := by
  rcases h.2 with ⟨h2, _⟩ | ⟨g', cap, cur, h2, hb, hg, _, _, _, ht⟩
  · rw [hv] at h2; cases h2
  · rw [hv] at h2
    cases h2
    refine ⟨rfl, cur, t, (0, 0), hg, fun j u hu => ?_⟩
    rw [← ht, List.getElem?_take] at hu
    split at hu
    · rw [Nat.zero_add]; simpa using hu
    · cases hu
/-- An element of a row of the call's own. -/
theorem row_elem (L : Laws S Q) {e : Env S.T} (I : Inv Q e) {i s : Nat} {t : TypeId} {d : Dp} {l : List (S.T t)} (ho : lookB i e.ob = some (s, .row t d l)) (hd : valid e.ob d = true) {g m c : Nat} (hb : e.β i = .slice (some ⟨g, 0, none⟩) m c) {j : Nat} (hj : j < m) :
    ∃ p cs q, cellsAt e.w g 0 (p ++ cs ++ q) ∧ p.length = j * S.sz t ∧ cs.length = S.sz t ∧ e.ok i g ∧ dlt e.U ((i, s) :: d) ∧ valid e.ob ((i, s) :: d) = true ∧ Q.rep t (fun k => (e.ok i k ∧ k ≠ g) ∨ e.Fd d k) e.w (get t l (j : Int)) cs ∧
      Q.rep t (e.Fd ((i, s) :: d)) e.w (get t l (j : Int)) cs ∧ j < l.length := by
  obtain ⟨hi, hs, hdl, hown, cs, hr, hv⟩ := I.obj i s _ ho
  obtain ⟨hm, hc⟩ := own_cells hr hb
  subst hm
  have hx : l[j]? = some (get t l (j : Int)) := by
    unfold get
    rw [Int.toNat_natCast, List.getD_eq_getElem?_getD, List.getElem?_eq_getElem hj]
    rfl
  obtain ⟨p, c', q, rfl, hp, hcl, hR⟩ := reps_at j (hv hd) hx
  have hg : e.ok i g := hown g (by rw [hb]; rfl)
  have hobk : (e.β i).ownBlock = some g := by rw [hb]; rfl
  refine ⟨p, c', q, hc, hp, hcl, hg, ?_, ?_, ?_, ?_, hj⟩
  · intro x hx
    rcases List.mem_cons.1 hx with rfl | hx
    · exact ⟨hi, hs⟩
    · exact hdl x hx
  · rw [valid_iff] at hd ⊢
    intro x hx
    rcases List.mem_cons.1 hx with rfl | hx
    · exact ⟨_, ho⟩
    · exact hd x hx
  · refine L.mono _ _ _ _ _ _ ?_ hR
    rintro k (⟨hk, hne⟩ | hk)
    · exact .inl ⟨hk, fun e1 => hne (by rw [hobk, e1])⟩
    · exact .inr hk
  · refine L.mono _ _ _ _ _ _ ?_ hR
    rintro k (⟨hk, _⟩ | ⟨x, hx, hk⟩)
    · exact ⟨(i, s), List.mem_cons_self, hk⟩
    · exact ⟨x, List.mem_cons_of_mem _ hx, hk⟩
theorem add_off (g o : Nat) (k : Nat) : (⟨g, o, none⟩ : Addr).add k = ⟨g, o + k, none⟩ := Addr.add_mid g o k
theorem loadX_ok (L : Laws S Q) {e : Env S.T} (I : Inv Q e) {t : TypeId} {a : SX S.T} {v : Value} (hv : holdX Q e v a) {u : Upd S.T} (h : (loadX e.ob t a).Can u) :
    ∃ v', (Instr.loadAt t v).run S.P e.w = .ok v' e.w ∧ holdX Q e v' u.res ∧ u.set = [] := by
  unfold loadX at h
  split at h
  · -- a variable
    rename_i i off
    split at h
    · rename_i s t' cs ho
      obtain ⟨hb, h⟩ := can_guard h
      obtain ⟨x, hx, h⟩ := can_or h
      simp only [Tr.Can] at h
      subst h
      simp only [Bool.and_eq_true] at hb
      obtain ⟨hi, g, hβ, rfl⟩ := hv
      obtain ⟨_, _, g', vs, hβ', hok, hh, hc⟩ := I.obj i s _ ho
      rw [hβ] at hβ'
      cases hβ'
      have hcell : cellsAt e.w g 0 vs := ⟨vs.toArray, t', (0, 0), hh, fun j u hu => by rw [Nat.zero_add]; simpa using hu⟩
      have h1 := hcell.sub off (S.sz t)
      rw [Nat.zero_add] at h1
      obtain ⟨v', h2, h3⟩ := load_ok L hb.1 h1 ((hc.drop off).take (S.sz t)) (by rw [List.length_take, List.length_drop]; have := ble_le hb.2; omega) hx
      exact ⟨v', h2, h3, rfl⟩
    · exact h.elim
  · -- an element of a row of the call's own
    rename_i i t' j off
    split at h
    · rename_i s t2 d l ho
      split at h
      · rename_i ht
        subst ht
        obtain ⟨hb, h⟩ := can_guard h
        obtain ⟨x, hx, h⟩ := can_or h
        simp only [Tr.Can] at h
        subst h
        simp only [Bool.and_eq_true] at hb
        obtain ⟨hi, h0, g, m, c, hβ, hm, rfl⟩ := hv
        obtain ⟨p, cs, q, hc, hp, hcl, hg, hdl, hval, _, hR, _⟩ := row_elem L I ho hb.1.1.1 hβ hm
        have h1 := (hc.mid).sub off (S.sz t)
        rw [Nat.zero_add, hp] at h1
        have hjj : ((j.toNat : Nat) : Int) = j := Int.toNat_of_nonneg h0
        rw [hjj] at hR
        have h2 := L.out _ e _ _ _ hdl hval hR
        obtain ⟨v', h3, h4⟩ := load_ok L hb.1.1.2 h1 ((h2.drop off).take (S.sz t)) (by rw [List.length_take, List.length_drop, ← h2.len, hcl]; have := ble_le hb.2; omega) hx
        exact ⟨v', h3, h4, rfl⟩
      · exact h.elim
    · exact h.elim
  · -- an element of a row that is read
    rename_i t' d y off
    obtain ⟨hb, h⟩ := can_guard h
    obtain ⟨x, hx, h⟩ := can_or h
    simp only [Tr.Can] at h
    subst h
    simp only [Bool.and_eq_true] at hb
    obtain ⟨hd, _, hr⟩ := hv
    obtain ⟨g, o, cs, rfl, hg, hc, hcl, hR⟩ := hr hb.1.1.1
    have h1 := hc.sub off (S.sz t)
    have h2 := L.out _ e _ _ _ hd hb.1.1.1 hR
    obtain ⟨v', h3, h4⟩ := load_ok L hb.1.1.2 h1 ((h2.drop off).take (S.sz t)) (by rw [List.length_take, List.length_drop, ← h2.len, hcl]; have := ble_le hb.2; omega) hx
    exact ⟨v', h3, h4, rfl⟩
  · exact h.elim
/-- A store of cells into a block that is known whole. -/
theorem store_ok (L : Laws S Q) {t : TypeId} (ht : S.known t = true) {w : World} {g o : Nat} {cur : Array Value} {e : TypeId} (hg : w.heap[g]? = some (.cells cur e (0, 0))) {v : Value} (h1 : ∀ u, u ∈ v.cells.toList → u.oneCell' = true) (hl : v.cells.size = S.sz t) (hfit : o + S.sz t ≤ cur.size) :
    (Instr.storeAt t (.pointer (some ⟨g, o, none⟩)) v).run S.P w = .ok () (w.setRow g (splice o v.cells.toList cur.toList).toArray) := by
  have hst := run_storeCells_at (P := S.P) g o e v.cells.toList 0 cur w hg (by simp only [Array.length_toList, Nat.add_zero]; omega) h1
  have hs := run_sizeOf' L ht w
  simp only [Nat.add_zero] at hst
  simp only [Instr.storeAt, Instr.sureAddr, storeVar, Sem.run_bind, Sem.run_pure, Result.andThen_ok, hs, hl, ne_eq, not_true_eq_false, if_false, hst]
  rfl
theorem lookB_put {β : Type} {i : Nat} {x : β} {l : Nat → Option β} {a : Nat} {y : β} (h : lookB a (putB i x l) = some y) : (a = i ∧ y = x) ∨ (a ≠ i ∧ lookB a l = some y) := by
  simp only [lookB, putB] at h
  cases hb : Nat.beq a i with
  | true => rw [hb] at h; exact .inl ⟨beq_eq' hb, (Option.some.inj h).symm⟩
  | false => rw [hb] at h; exact .inr ⟨fun e1 => (by rw [e1, Nat.beq_refl] at hb; cases hb), h⟩
theorem lookB_del {β : Type} {i : Nat} {l : Nat → Option β} {a : Nat} {y : β} (h : lookB a (delB i l) = some y) : a ≠ i ∧ lookB a l = some y := by
  simp only [lookB, delB] at h
  cases hb : Nat.beq a i with
  | true => rw [hb] at h; cases h
  | false => rw [hb] at h; exact ⟨fun e1 => (by rw [e1, Nat.beq_refl] at hb; cases hb), h⟩
theorem hU8 {T : Tys} (e : Env T) (fr : Nat) : ∀ a, (e.U a ∨ a = fr) → e.U a ∨ (fr ≤ a ∧ a < fr + 8) := fun a h => h.imp id fun h => by omega
/-- What an effect must do. -/
def Eff (Q : Kind S) (e : Env S.T) (fr : Nat) (v : Value) (w1 : World) (u : Upd S.T) : Prop :=
  ∃ e', e'.w = w1 ∧ Inv Q e' ∧ Le Q e e' ∧ e'.ob = u.obOf e.ob ∧ (∀ a, e'.U a → e.U a ∨ (fr ≤ a ∧ a < fr + 8)) ∧ holdX Q e' v u.res
theorem newVar_ok (L : Laws S Q) {e : Env S.T} (I : Inv Q e) {fr : Nat} (hfr : ¬ e.U fr) {t : TypeId} {vs : List Value} {cs : List (SC S.T)} (hc : All2 (hold Q e) vs cs) {u : Upd S.T} (h : (newVar fr t cs).Can u) :
    Eff Q e fr (.pointer (some ⟨e.w.heap.size, 0, none⟩)) (e.w.alloc (.cells vs.toArray t)) u := by
  simp only [newVar, Tr.Can] at h
  subst h
  let e' : Env S.T := { w := e.w.alloc (.cells vs.toArray t), β := fun a => if a = fr then .pointer (some ⟨e.w.heap.size, 0, none⟩) else e.β a, ok := fun a => if a = fr then (fun k => k = e.w.heap.size) else e.ok a, ob := putB fr (fr, .var t cs) e.ob, U := fun a => e.U a ∨ a = fr }
  have hsz : (e.w.alloc (.cells vs.toArray t)).heap.size = e.w.heap.size + 1 := by show (e.w.heap.push _).size = _; simp
  obtain ⟨h1, h2⟩ := event L I (e.w.alloc (.cells vs.toArray t)) (.pointer (some ⟨e.w.heap.size, 0, none⟩)) (fun k => k = e.w.heap.size) (putB fr (fr, .var t cs) e.ob) (.var t cs) none fr fr hfr (.inl rfl)
    (fun a ha => by cases ha) (fun a x hx => (lookB_put hx).imp id fun ⟨p, q⟩ => ⟨p, by simp, q⟩) (by simp) (fun k hk => ⟨by omega, .inr (by omega)⟩) rfl rfl rfl (by omega)
    (fun k hk _ => heap_alloc_old e.w _ hk) rfl e' rfl
    (fun hH => ⟨e.w.heap.size, vs, by simp [e'], by simp [e'], heap_alloc_new e.w _, hc.imp hH⟩)
  exact ⟨e', rfl, h1, h2, by simp [Upd.obOf, put1, e'], hU8 e fr, by simp [e'], e.w.heap.size, by simp [e'], rfl⟩
theorem splice_len {β : Type} {off : Nat} {n o : List β} (h : off + n.length ≤ o.length) : (splice off n o).length = o.length := by
  unfold splice
  simp only [List.length_append, List.length_take, List.length_drop]
  omega
theorem splice_at {β : Type} {off : Nat} {n p c q : List β} (h : off + n.length ≤ c.length) : splice (p.length + off) n (p ++ c ++ q) = p ++ splice off n c ++ q := by
  unfold splice
  rw [List.append_assoc p c q, List.take_length_add_append, Nat.add_assoc, List.drop_length_add_append, List.take_append_of_le_length (by omega), List.drop_append_of_le_length h]
  simp only [List.append_assoc]
theorem splice_in {β : Type} {off : Nat} {n c : List β} {m : Nat} (hm : n.length = m) : splice off n c = c.take off ++ n ++ c.drop (off + m) := by
  unfold splice; rw [hm]
/-- An element written: the row of cells. -/
theorem splice_deep {β : Type} {j sz off : Nat} {n p c q : List β} (hp : p.length = j * sz) (hc : c.length = sz) (h : off + n.length ≤ sz) : splice (j * sz + off) n (p ++ c ++ q) = splice (j * sz) (splice off n c) (p ++ c ++ q) := by
  rw [← hp, splice_at (by omega)]
  have h1 : (splice off n c).length = c.length := splice_len (by omega)
  generalize splice off n c = x at h1
  unfold splice
  rw [h1, List.append_assoc p c q, List.drop_length_add_append, List.drop_left, List.take_left]
theorem storeX_ok (L : Laws S Q) {e : Env S.T} (I : Inv Q e) {fr : Nat} (hfr : ¬ e.U fr) {t : TypeId} {a x : SX S.T} {p v : Value} (hp : holdX Q e p a) (hv : holdX Q e v x) {u : Upd S.T} (h : (storeX e.ob fr t a x).Can u) :
    ∃ w1, (Instr.storeAt t p v).run S.P e.w = .ok () w1 ∧ Eff Q e fr undef w1 u := by
  unfold storeX at h
  split at h
  · -- a variable
    rename_i i off x
    split at h
    · rename_i s t' cs ho
      obtain ⟨hb, h⟩ := can_guard h
      simp only [Tr.Can] at h
      subst h
      simp only [Bool.and_eq_true] at hb
      obtain ⟨⟨⟨hk, hl⟩, hn⟩, hle⟩ := hb
      obtain ⟨hc1, hc2, hc3⟩ := holdV_cells I hv hn
      obtain ⟨hi, g, hβ, rfl⟩ := hp
      obtain ⟨_, _, g', vs, hβ', hok, hh, hc⟩ := I.obj i s _ ho
      rw [hβ] at hβ'
      cases hβ'
      have hlen := hc.len
      have hl' := beq_eq' hl
      have hst := store_ok L hk (o := off) hh hc2 (by rw [hc3, hl']) (by have := ble_le hle; simp only [List.size_toArray]; omega)
      refine ⟨_, hst, ?_⟩
      generalize hw1 : e.w.setRow g _ = w1
      have hw1g : w1.heap[g]? = some (.cells (splice off v.cells.toList vs).toArray t' (0, 0)) := by rw [← hw1]; simpa using setRow_heap e.w g _ _ t' (0, 0) hh
      have hw1o : ∀ k, k ≠ g → w1.heap[k]? = e.w.heap[k]? := fun k hk => by rw [← hw1]; exact setRow_other e.w g k _ hk
      have hw1s : w1.heap.size = e.w.heap.size := by rw [← hw1]; simp
      have hlt := I.lt i s _ ho
      let e' : Env S.T := { w := w1, β := fun a => if a = i then e.β i else e.β a, ok := fun a => if a = i then e.ok i else e.ok a, ob := putB i (fr, .var t' (splice off x.cells cs)) e.ob, U := fun a => e.U a ∨ a = fr }
      obtain ⟨h1, h2⟩ := event L I w1 (e.β i) (e.ok i) (putB i (fr, .var t' (splice off x.cells cs)) e.ob) (.var t' (splice off x.cells cs)) (some i) i fr hfr (.inr ⟨rfl, rfl⟩)
        (fun a ha => by cases ha; exact ⟨s, _, ho, by simp⟩) (fun a x hx => (lookB_put hx).imp id fun ⟨p, q⟩ => ⟨p, by simpa using fun e1 => p e1.symm, q⟩) (by simp) (fun k hk => ⟨by rw [hw1s]; exact hlt k hk, .inl ⟨i, rfl, hk⟩⟩) (by rw [← hw1]; rfl) (by rw [← hw1]; rfl) (by rw [← hw1]; rfl) (by omega)
        (fun k hk hn => hw1o k fun e1 => hn i rfl (e1 ▸ hok)) (I.one i) e' rfl
        (fun hH => ⟨g, splice off v.cells.toList vs, by simp [e', hβ], by simpa [e'] using hok, hw1g, (hc1.imp hH).splice (hc.imp hH)⟩)
      exact ⟨e', rfl, h1, h2, by simp [Upd.obOf, put1, e'], hU8 e fr, trivial⟩
    · exact h.elim
  · -- an element of a row
    rename_i i t' j off x
    split at h
    · rename_i s t2 d l ho
      split at h
      · rename_i ht
        subst ht
        obtain ⟨hb, h⟩ := can_guard h
        obtain ⟨y, hy, h⟩ := can_or h
        obtain ⟨hny, h⟩ := can_guard h
        simp only [Tr.Can] at h
        subst h
        simp only [Bool.and_eq_true] at hb
        obtain ⟨⟨⟨⟨⟨⟨hvd, hk⟩, hk'⟩, hl⟩, hn⟩, hle⟩, hni⟩ := hb
        obtain ⟨hc1, hc2, hc3⟩ := holdV_cells I hv hn
        obtain ⟨hi, h0, g, m, c, hβ, hm, rfl⟩ := hp
        obtain ⟨_, hs, hdl', hown, all, hr, hreps⟩ := I.obj i s _ ho
        have hreps := hreps hvd
        obtain ⟨hm', hcA⟩ := own_cells hr hβ
        subst hm'
        have hjl : j.toNat < l.length := hm
        have hobk : (e.β i).ownBlock = some g := by rw [hβ]; rfl
        have hg : e.ok i g := hown g hobk
        have hx : l[j.toNat]? = some (get t2 l j) := by
          unfold get
          rw [List.getD_eq_getElem?_getD, List.getElem?_eq_getElem hm]
          rfl
        obtain ⟨pp, cs, q, hsplit, hpp, hcl, hR0⟩ := reps_at j.toNat hreps hx
        have hdl : dlt e.U ((i, s) :: d) := by
          intro x hx
          rcases List.mem_cons.1 hx with rfl | hx
          · exact ⟨hi, hs⟩
          · exact hdl' x hx
        have hval : valid e.ob ((i, s) :: d) = true := by
          rw [valid_iff] at hvd ⊢
          intro x hx
          rcases List.mem_cons.1 hx with rfl | hx
          · exact ⟨_, ho⟩
          · exact hvd x hx
        have hR : Q.rep t2 (e.Fd ((i, s) :: d)) e.w (get t2 l j) cs := by
          refine L.mono _ _ _ _ _ _ ?_ hR0
          rintro k (⟨hk, _⟩ | ⟨x, hx, hk⟩)
          · exact ⟨(i, s), List.mem_cons_self, hk⟩
          · exact ⟨x, List.mem_cons_of_mem _ hx, hk⟩
        have hl' := beq_eq' hl
        have hle' := ble_le hle
        have hvl : v.cells.toList.length = S.sz t := by rw [Array.length_toList, hc3, hl']
        have hout := L.out _ e _ _ _ hdl hval hR
        obtain ⟨hyd, hyv, hyR⟩ := L.inn _ e _ _ _ _ I hy (hc1.splice hout)
        -- the block
        have hr2 := hr.2
        rw [hβ] at hr2
        rcases hr2 with ⟨h2, _⟩ | ⟨g', cap, cur, h2, hb0, hh, hnc, hcm, hcs, htk⟩
        · cases h2
        cases h2
        have hct : cur.toList.length = cur.size := Array.length_toList
        have hall : all.length = l.length * S.sz t2 := reps_len hreps
        have hjs : j.toNat * S.sz t2 + S.sz t2 ≤ l.length * S.sz t2 := by
          have := Nat.mul_le_mul_right (S.sz t2) (show j.toNat + 1 ≤ l.length from hjl)
          rw [Nat.add_mul] at this
          omega
        have hcurl : l.length * S.sz t2 ≤ cur.size := by rw [hcs]; exact Nat.mul_le_mul_right _ hnc
        have hst := store_ok L hk (o := j.toNat * S.sz t2 + off) hh hc2 (by rw [← hvl, Array.length_toList]) (by omega)
        refine ⟨_, hst, ?_⟩
        generalize hw1 : e.w.setRow g _ = w1
        have hw1g : w1.heap[g]? = some (.cells (splice (j.toNat * S.sz t2 + off) v.cells.toList cur.toList).toArray t2 (0, 0)) := by rw [← hw1]; exact setRow_heap e.w g _ _ t2 (0, 0) hh
        have hw1o : ∀ k, k ≠ g → w1.heap[k]? = e.w.heap[k]? := fun k hk => by rw [← hw1]; exact setRow_other e.w g k _ hk
        have hw1s : w1.heap.size = e.w.heap.size := by rw [← hw1]; simp
        have hlt := I.lt i s _ ho
        have hnid : ∀ d : Dp, noId i d = true → valid e.ob d = true → ∀ k, e.Fd d k → k ≠ g := by
          rintro d hd hv' k ⟨x, hx, hk⟩ rfl
          rw [valid_iff] at hv'
          obtain ⟨so2, h5⟩ := hv' x hx
          have hne : x.1 ≠ i := by
            have := List.all_eq_true.1 hd x hx
            intro e1
            rw [e1, Nat.beq_refl] at this
            cases this
          exact I.dis _ _ _ _ _ _ h5 ho hne k hk hg
        let so' : SO S.T := .row t2 (d ++ y.2) (l.set j.toNat y.1)
        let e' : Env S.T := { w := w1, β := fun a => if a = i then e.β i else e.β a, ok := fun a => if a = i then e.ok i else e.ok a, ob := putB i (fr, so') e.ob, U := fun a => e.U a ∨ a = fr }
        have hee : ∀ k, e.Fd d k → e'.Fd (d ++ y.2) k := by
          rintro k ⟨x, hx, hk⟩
          refine ⟨x, List.mem_append_left _ hx, ?_⟩
          show (if x.1 = i then e.ok i else e.ok x.1) k
          split
          · rename_i hq; rw [← hq]; exact hk
          · exact hk
        have hee2 : ∀ k, e.Fd y.2 k → e'.Fd (d ++ y.2) k := by
          rintro k ⟨x, hx, hk⟩
          refine ⟨x, List.mem_append_right _ hx, ?_⟩
          show (if x.1 = i then e.ok i else e.ok x.1) k
          split
          · rename_i hq; rw [← hq]; exact hk
          · exact hk
        obtain ⟨h1, h2⟩ := event L I w1 (e.β i) (e.ok i) (putB i (fr, so') e.ob) so' (some i) i fr hfr (.inr ⟨rfl, rfl⟩)
          (fun a ha => by cases ha; exact ⟨s, _, ho, by simp⟩) (fun a x hx => (lookB_put hx).imp id fun ⟨p, q⟩ => ⟨p, by simpa using fun e1 => p e1.symm, q⟩) (by simp [so']) (fun k hk => ⟨by rw [hw1s]; exact hlt k hk, .inl ⟨i, rfl, hk⟩⟩) (by rw [← hw1]; rfl) (by rw [← hw1]; rfl) (by rw [← hw1]; rfl) (by omega)
          (fun k hk hn => hw1o k fun e1 => hn i rfl (e1 ▸ hg)) (I.one i) e' rfl
          (fun hH => by
            have hβ' : e'.β i = .slice (some ⟨g, 0, none⟩) l.length c := by simp [e', hβ]
            have hok' : e'.ok i = e.ok i := by simp [e']
            refine ⟨fun x hx => ?_, fun k hk => ?_, splice (j.toNat * S.sz t2 + off) v.cells.toList all, ?_, fun _ => ?_⟩
            · have : e.U x.1 ∧ e.U x.2 := (List.mem_append.1 hx).elim (hdl' x) (hyd x)
              exact ⟨.inl this.1, .inl this.2⟩
            · rw [hβ'] at hk
              rw [hok']
              exact hown k (by rw [hβ]; exact hk)
            · rw [hβ', List.length_set]
              refine ⟨by rw [splice_len (by omega)]; exact hall, .inr ⟨g, c, _, rfl, Nat.zero_le _, hw1g, hnc, hcm, ?_, ?_⟩⟩
              · rw [List.size_toArray, splice_len (by omega), hct]
                exact hcs
              · rw [← htk]
                have hcur : cur.toList = cur.toList.take (l.length * S.sz t2) ++ cur.toList.drop (l.length * S.sz t2) := (List.take_append_drop _ _).symm
                have hlen1 : (cur.toList.take (l.length * S.sz t2)).length = l.length * S.sz t2 := by rw [List.length_take, hct]; omega
                generalize cur.toList.take (l.length * S.sz t2) = A at hcur hlen1 ⊢
                generalize cur.toList.drop (l.length * S.sz t2) = B at hcur
                show List.take _ (splice _ _ cur.toList) = _
                rw [hcur]
                have := splice_at (off := j.toNat * S.sz t2 + off) (n := v.cells.toList) (p := []) (c := A) (q := B) (by omega)
                simp only [List.length_nil, Nat.zero_add, List.nil_append] at this
                have h9 : (splice (j.toNat * S.sz t2 + off) v.cells.toList A).length = l.length * S.sz t2 := by rw [splice_len (by omega)]; exact hlen1
                rw [this, List.take_append_of_le_length (by omega), List.take_of_length_le (by omega)]
            · have hobk' : (e'.β i).ownBlock = some g := by rw [hβ']; rfl
              rw [hok', hobk']
              rw [hobk] at hreps
              have hr1 : reps (Q.rep t2 (fun k => (e.ok i k ∧ some k ≠ some g) ∨ e'.Fd (d ++ y.2) k) w1) (S.sz t2) l all := by
                refine reps_imp (fun x c' hx => ?_) hreps
                refine L.mono _ _ _ _ _ _ ?_ (L.move _ _ _ w1 _ _ ?_ hx)
                · rintro k (hk | hk)
                  · exact .inl hk
                  · exact .inr (hee k hk)
                · rintro k (hk | hk)
                  · exact hw1o k fun e1 => hk.2 (by rw [e1])
                  · exact hw1o k (hnid d hni hvd k hk)
              have hy1 : Q.rep t2 (fun k => (e.ok i k ∧ some k ≠ some g) ∨ e'.Fd (d ++ y.2) k) w1 y.1 (splice off v.cells.toList cs) := by
                refine L.mono _ _ _ _ _ _ ?_ (L.move _ _ _ w1 _ _ ?_ hyR)
                · exact fun k hk => .inr (hee2 k hk)
                · exact fun k hk => hw1o k (hnid y.2 hny hyv k hk)
              have := reps_set j.toNat hr1 hjl (by rw [splice_len (by omega)]; exact hcl) hy1
              rw [hsplit, splice_deep hpp hcl (by omega), ← hsplit]
              exact this)
        exact ⟨e', rfl, h1, h2, by simp [Upd.obOf, put1, e', so'], hU8 e fr, trivial⟩
      · exact h.elim
    · exact h.elim
  · exact h.elim
end
end Go.Proofs.Ytdpggojdmabnkaa.E
