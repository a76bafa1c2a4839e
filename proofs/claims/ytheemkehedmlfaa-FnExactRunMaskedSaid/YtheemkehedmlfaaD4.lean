import Derived.Test.YtheemkehedmlfaaE9
import Derived.ChangeMaps5
set_option linter.unusedVariables false
set_option linter.unusedSimpArgs false
namespace Go.Proofs.Ytheemkehedmlfaa.E
open Go
abbrev MapR (kk : IntKind) (en : MapEntry) (p : Int × Bool) : Prop := en.key = .int kk p.1 ∧ en.val = .bool p.2
def findP : List (Int × Bool) → Int → Nat → Option (Nat × Bool)
  | [], _, _ => none
  | p :: r, n, i => bif decide (n = p.1) then some (i, p.2) else findP r n (i + 1)
theorem mget_find (n : Int) : ∀ (l : List (Int × Bool)) (i : Nat), mget l n = match findP l n i with | some q => q.2 | none => false
  | [], i => rfl
  | p :: r, i => by
    simp only [mget, findP]
    by_cases h : n = p.1
    · simp [h]
    · simp only [h, decide_false, cond_false]
      exact mget_find n r (i + 1)
theorem findNow_ok {kk : IntKind} {n : Int} : ∀ {es : List MapEntry} {l : List (Int × Bool)} (i : Nat), All2 (MapR kk) es l → Instr.findNow (.int kk) (.int kk n) es i = some ((findP l n i).map fun q => (q.1, .bool q.2))
  | _, _, i, .nil => rfl
  | _, _, i, .cons (a := en) (b := p) (l := es) (m := l) h1 h2 => by
    have ih := findNow_ok (n := n) (i + 1) h2
    simp only [Instr.findNow, findP, Instr.sameNow, h1.1, h1.2, if_true]
    by_cases h : n = p.1
    · simp [h]
    · have : (n == p.1) = false := by simpa using h
      simp only [this, h, decide_false, cond_false, ih]
theorem check_int {P : Program} {w : World} {k : TypeId} {kk : IntKind} (hk : P.underlying k = some (.int kk)) (b : Bool) (n : Int) : (Instr.checkKey b 10000 k (.int kk n)).run P w = .ok () w := by
  show (Instr.checkKey b (9999 + 1) k (.int kk n)).run P w = _
  rw [Instr.checkKey, Sem.run_bind, run_underlying hk]
  rfl
theorem findKey_int {P : Program} {w : World} {k : TypeId} {kk : IntKind} (hk : P.underlying k = some (.int kk)) {n : Int} {es : List MapEntry} {l : List (Int × Bool)} (h : All2 (MapR kk) es l) :
    (Instr.findKey k (.int kk n) es).run P w = .ok ((findP l n 0).map fun q => (q.1, .bool q.2)) w := by
  simp only [Instr.findKey, Sem.run_bind, run_underlying hk, Result.andThen_ok, findNow_ok 0 h, Sem.run_pure]
theorem mput_none {kk : IntKind} {n : Int} {b : Bool} {en : MapEntry} (he : en.key = .int kk n ∧ en.val = .bool b) : ∀ {es : List MapEntry} {l : List (Int × Bool)} {i : Nat}, All2 (MapR kk) es l → findP l n i = none → All2 (MapR kk) (es ++ [en]) (mput l n b)
  | _, _, i, .nil, _ => .cons he .nil
  | _, _, i, .cons (a := e0) (b := p) (l := es) (m := l) h1 h2, h => by
    simp only [findP] at h
    by_cases hn : n = p.1
    · simp [hn] at h
    · simp only [hn, decide_false, cond_false] at h
      simp only [mput, hn, decide_false, cond_false]
      exact .cons h1 (mput_none he h2 h)
theorem mput_some {kk : IntKind} {n : Int} {b : Bool} {f : MapEntry → MapEntry} (he : ∀ en, (f en).key = .int kk n ∧ (f en).val = .bool b) : ∀ {es : List MapEntry} {l : List (Int × Bool)} {i j : Nat} {c : Bool}, All2 (MapR kk) es l → findP l n i = some (j, c) →
    i ≤ j ∧ All2 (MapR kk) (es.modify (j - i) f) (mput l n b) ∧ ∃ en, es[j - i]? = some en ∧ en.key = .int kk n
  | _, _, i, j, c, .nil, h => by cases h
  | _, _, i, j, c, .cons (a := e0) (b := p) (l := es) (m := l) h1 h2, h => by
    simp only [findP] at h
    by_cases hn : n = p.1
    · simp only [hn, decide_true, cond_true, Option.some.injEq, Prod.mk.injEq] at h
      obtain ⟨rfl, _⟩ := h
      refine ⟨Nat.le_refl _, ?_, ?_⟩
      · simp only [mput, hn, decide_true, cond_true, Nat.sub_self, List.modify_zero_cons]
        refine .cons ?_ h2
        have := he e0
        rw [hn] at this
        exact this
      · rw [Nat.sub_self]
        exact ⟨e0, rfl, by rw [hn]; exact h1.1⟩
    · simp only [hn, decide_false, cond_false] at h
      obtain ⟨g1, g2, g3⟩ := mput_some he h2 h
      refine ⟨by omega, ?_, ?_⟩
      · simp only [mput, hn, decide_false, cond_false]
        rw [show j - i = (j - (i + 1)) + 1 by omega, List.modify_succ_cons]
        exact .cons h1 g2
      · rw [show j - i = (j - (i + 1)) + 1 by omega, List.getElem?_cons_succ]
        exact g3
section
variable {S : Sig} {Q : Kind S}
theorem makeMapX_ok (L : Laws S Q) {e : Env S.T} (I : Inv Q e) {fr : Nat} (hfr : ¬ e.U fr) {t : TypeId} {u : Upd S.T} (h : (makeMapX fr t).Can u) :
    ∃ v w1, (Instr.makeMap t none).run S.P e.w = .ok v w1 ∧ Eff Q e fr v w1 u := by
  obtain ⟨kk, hkk, h⟩ := can_or h
  have h := can_ret h
  subst h
  let v : Value := .map (some e.w.heap.size)
  let so' : SO S.T := .mp kk []
  let e' : Env S.T := { w := e.w.alloc (.map #[] 0), β := fun a => if a = fr then v else e.β a, ok := fun a => if a = fr then (fun k => k = e.w.heap.size) else e.ok a, ob := putB fr (fr, so') e.ob, U := fun a => e.U a ∨ a = fr }
  have hsz : (e.w.alloc (.map #[] 0)).heap.size = e.w.heap.size + 1 := by show (e.w.heap.push _).size = _; simp
  refine ⟨v, e.w.alloc (.map #[] 0), by simp [Instr.makeMap, v], ?_⟩
  obtain ⟨h1, h2⟩ := event L I (e.w.alloc (.map #[] 0)) v (fun k => k = e.w.heap.size) (putB fr (fr, so') e.ob) so' none fr fr hfr (.inl rfl)
    (fun a ha => by cases ha) (fun a x hx => (lookB_put hx).imp id fun ⟨p, q⟩ => ⟨p, by simp, q⟩) (by simp [so']) (fun k hk => ⟨by omega, .inr (by omega)⟩) rfl rfl rfl (by omega)
    (fun k hk _ => heap_alloc_old e.w _ hk) rfl e' rfl
    (fun hH => ⟨e.w.heap.size, #[], 0, by simp [e', v], by simp [e'], heap_alloc_new e.w _, .nil⟩)
  exact ⟨e', rfl, h1, h2, by simp [Upd.obOf, put1, e', so'], hU8 e fr, .inr rfl, by simp [e']⟩
theorem lookupX_ok (L : Laws S Q) {e : Env S.T} (I : Inv Q e) {t : TypeId} {m x : SX S.T} {v iv : Value} (hv : holdX Q e v m) (hiv : holdX Q e iv x) {u : Upd S.T} (h : (lookupX e.ob t m x).Can u) :
    ∃ v', (Instr.lookup t v iv false).run S.P e.w = .ok v' e.w ∧ holdX Q e v' u.res ∧ u.set = [] := by
  unfold lookupX at h
  split at h
  rotate_left
  · exact h.elim
  rename_i i k n
  split at h
  rotate_left
  · exact h.elim
  rename_i s kk l ho
  obtain ⟨k2, hk2, h⟩ := can_or h
  obtain ⟨hg, h⟩ := can_guard h
  simp only [Bool.and_eq_true] at hg
  have h := can_rv h
  subst h
  have e1 := kbeq_eq hg.1
  have e2 := kbeq_eq hg.2
  subst e1 e2
  obtain ⟨_, rfl⟩ : _ ∧ v = e.β i := hv
  have hiv : iv = .int k2 n := hiv
  subst hiv
  obtain ⟨_, _, g, es, clock, hβ, hok, hh, ha⟩ := I.obj i s _ ho
  obtain ⟨kt, et, ht, hkt, ti, hti, hz⟩ := L.mpk t k2 hk2
  refine ⟨.bool (mget l n), ?_, rfl, rfl⟩
  have hf := findKey_int (P := S.P) (w := e.w) hkt (n := n) ha
  rw [hβ, mget_find n l 0]
  simp only [Instr.lookup, Sem.run_bind, run_underlying ht, Result.andThen_ok, MapKept.run_getObj_map hh, Sem.run_pure, check_int hkt, hf]
  cases findP l n 0 with
  | none => simp [zeroValue, typeInfo, hti, hz]
  | some q => simp
theorem mapUpdX_ok (L : Laws S Q) {e : Env S.T} (I : Inv Q e) {fr : Nat} (hfr : ¬ e.U fr) {t : TypeId} {m x y : SX S.T} {v iv yv : Value} (hv : holdX Q e v m) (hiv : holdX Q e iv x) (hyv : holdX Q e yv y) {u : Upd S.T} (h : (mapUpdX e.ob fr t m x y).Can u) :
    ∃ w1, (Instr.mapUpdate t v iv yv).run S.P e.w = .ok () w1 ∧ Eff Q e fr undef w1 u := by
  unfold mapUpdX at h
  split at h
  rotate_left
  · exact h.elim
  rename_i i k n b
  split at h
  rotate_left
  · exact h.elim
  rename_i s kk l ho
  obtain ⟨k2, hk2, h⟩ := can_or h
  obtain ⟨hg, h⟩ := can_guard h
  simp only [Bool.and_eq_true] at hg
  have h := can_ret h
  subst h
  have e1 := kbeq_eq hg.1
  have e2 := kbeq_eq hg.2
  subst e1 e2
  obtain ⟨_, rfl⟩ : _ ∧ v = e.β i := hv
  have hiv : iv = .int k2 n := hiv
  have hyv : yv = .bool b := hyv
  subst hiv hyv
  obtain ⟨_, _, g, es, clock, hβ, hok, hh, ha⟩ := I.obj i s _ ho
  obtain ⟨kt, et, ht, hkt, ti, hti, hz⟩ := L.mpk t k2 hk2
  have hf := findKey_int (P := S.P) (w := e.w) hkt (n := n) ha
  have hrun : ∃ es' clock', (Instr.mapUpdate t (.map (some g)) (.int k2 n) (.bool b)).run S.P e.w = .ok () (ChangeMaps.setBlock e.w g (.map es' clock')) ∧ All2 (MapR k2) es'.toList (mput l n b) := by
    cases hq : findP l n 0 with
    | none =>
      rw [hq] at hf
      refine ⟨es.push { key := .int k2 n, val := .bool b, born := clock }, clock + 1, ?_, ?_⟩
      · simp only [Instr.mapUpdate, Sem.run_bind, run_underlying ht, Result.andThen_ok, MapKept.run_getObj_map hh, check_int hkt, hf, Option.map_none]
        rw [MapKept.run_setObj_map _ hh]
        rfl
      · rw [Array.toList_push]
        exact mput_none ⟨rfl, rfl⟩ ha hq
    | some q =>
      obtain ⟨j, c⟩ := q
      rw [hq] at hf
      obtain ⟨_, g2, en, g3, g4⟩ := mput_some (b := b) (f := fun e => { e with key := .int k2 n, val := .bool b }) (fun en => ⟨rfl, rfl⟩) ha hq
      simp only [Nat.sub_zero] at g2 g3
      have hkey : ((es[j]?).map (·.key)).getD (.int k2 n) = .int k2 n := by
        have : es[j]? = some en := by simpa using g3
        rw [this]
        exact g4
      have hst : (Instr.keyThatStays (.int k2 n) (.int k2 n)).run S.P e.w = .ok (.int k2 n) e.w := by
        simp [Instr.keyThatStays, Instr.sameBits]
      refine ⟨es.modify j fun e => { e with key := .int k2 n, val := .bool b }, clock, ?_, ?_⟩
      · simp only [Instr.mapUpdate, Sem.run_bind, run_underlying ht, Result.andThen_ok, MapKept.run_getObj_map hh, check_int hkt, hf, Option.map_some, hkey, hst]
        rw [MapKept.run_setObj_map _ hh]
        rfl
      · rw [Array.toList_modify]
        exact g2
  obtain ⟨es', clock', hrun, ha'⟩ := hrun
  rw [hβ]
  refine ⟨_, hrun, ?_⟩
  generalize hw1 : ChangeMaps.setBlock e.w g (.map es' clock') = w1
  have hw1g : w1.heap[g]? = some (.map es' clock') := by rw [← hw1]; exact ChangeMaps.heap_setBlock_same hh _
  have hw1o : ∀ k, k ≠ g → w1.heap[k]? = e.w.heap[k]? := fun k hk => by rw [← hw1]; exact ChangeMaps.heap_setBlock_other hh _ hk
  have hw1s : w1.heap.size = e.w.heap.size := by rw [← hw1]; simp [ChangeMaps.setBlock]
  have hlt := I.lt i s _ ho
  let so' : SO S.T := .mp k2 (mput l n b)
  let e' : Env S.T := { w := w1, β := fun a => if a = i then e.β i else e.β a, ok := fun a => if a = i then e.ok i else e.ok a, ob := putB i (fr, so') e.ob, U := fun a => e.U a ∨ a = fr }
  obtain ⟨h1, h2⟩ := event L I w1 (e.β i) (e.ok i) (putB i (fr, so') e.ob) so' (some i) i fr hfr (.inr ⟨rfl, rfl⟩)
    (fun a ha => by cases ha; exact ⟨s, _, ho, by simp⟩) (fun a x hx => (lookB_put hx).imp id fun ⟨p, q⟩ => ⟨p, by simpa using fun e1 => p e1.symm, q⟩) (by simp [so']) (fun k hk => ⟨by rw [hw1s]; exact hlt k hk, .inl ⟨i, rfl, hk⟩⟩) (by rw [← hw1]; rfl) (by rw [← hw1]; rfl) (by rw [← hw1]; rfl) (by omega)
    (fun k hk hn => hw1o k fun e1 => hn i rfl (e1 ▸ hok)) (I.one i) e' rfl
    (fun hH => ⟨g, es', clock', by simp [e', hβ], by simpa [e'] using hok, hw1g, ha'⟩)
  exact ⟨e', rfl, h1, h2, by simp [Upd.obOf, put1, e', so'], hU8 e fr, trivial⟩
end
end Go.Proofs.Ytheemkehedmlfaa.E
