import Derived.Test.YtheemkehedmlfaaD5
set_option linter.unusedVariables false
set_option linter.unusedSimpArgs false
namespace Go.Proofs.Ytheemkehedmlfaa.E
open Go
section
variable {S : Sig} {Q : Kind S}
theorem Out.eff {a : Act} {o : Oper} {e : Env S.T} {fr : Nat} {u : Upd S.T} {v : Value} {w1 : World} (hr : (execOp a.eval o).run S.P e.w = .ok (.value v) w1) (h : Eff Q e fr v w1 u) : Out Q a o e fr u := by
  obtain ⟨e', rfl, h1, h2, h3, h4, h5⟩ := h
  exact ⟨v, e', .inl hr, h1, h2, h3, h4, h5⟩
theorem Out.skip {a : Act} {o : Oper} {e : Env S.T} {fr : Nat} {u : Upd S.T} {w1 : World} (hr : (execOp a.eval o).run S.P e.w = .ok .skip w1) (h : Eff Q e fr undef w1 u) : Out Q a o e fr u := by
  obtain ⟨e', rfl, h1, h2, h3, h4, h5⟩ := h
  exact ⟨undef, e', .inr ⟨hr, rfl⟩, h1, h2, h3, h4, h5⟩
theorem run_v {P : Program} {s : Sem Value} {w w1 : World} {v : Value} (h : s.run P w = .ok v w1) : (do pure (Next.value (← s)) : Sem Next).run P w = .ok (.value v) w1 := by
  simp [h]
theorem run_u {P : Program} {s : Sem Unit} {w w1 : World} (h : s.run P w = .ok () w1) : (do s; pure Next.skip : Sem Next).run P w = .ok .skip w1 := by
  simp [h]
def plainD : TypeDesc → Bool
  | .struct _ => false
  | .array _ _ => false
  | _ => true
theorem run_part' {P : Program} {w : World} {ft : TypeId} {u : TypeDesc} (hu : P.underlying ft = some u) (hp : plainD u = true) {vs : Array Value} {o : Nat} {v : Value} (hv : vs[o]? = some v) : (part ft vs o).run P w = .ok v w := by
  cases u <;> simp [plainD] at hp <;> simp [part, Go.isAgg, run_underlying hu, hv]
theorem all2_at {e : Env S.T} : ∀ {vs : List Value} {xs : List (SC S.T)}, All2 (hold Q e) vs xs → ∀ {o : Nat} {x : SC S.T}, xs[o]? = some x → ∃ v, vs[o]? = some v ∧ hold Q e v x
  | _, _, .nil, o, x, h => by simp at h
  | _, _, .cons h _, 0, x, hx => by
    simp at hx; subst hx
    exact ⟨_, by simp, h⟩
  | _, _, .cons _ h, o + 1, x, hx => by
    obtain ⟨v, h1, h2⟩ := all2_at h (o := o) (x := x) (by simpa using hx)
    exact ⟨v, by simpa using h1, h2⟩
theorem eqCells_ok (L : Laws S Q) {e : Env S.T} {xs ys : List (SC S.T)} {vs us : List Value} (h1 : All2 (hold Q e) vs xs) (h2 : All2 (hold Q e) us ys) (n : Nat) :
    ∀ {ps : List (Nat × TypeId × Nat)} {fs : List Field} {b : Bool}, eqCells S xs ys ps = some b → (∀ f, f ∈ fs → f.name ≠ "_") → fs.map (fun f => (f.offset, f.type)) = ps.map (fun p => (p.1, p.2.1)) → (Op.eqFields (n + 1) vs.toArray us.toArray fs).run S.P e.w = .ok b e.w
  | [], fs, b, h, _, hf => by
    cases fs with
    | nil => cases h; simp [Op.eqFields]
    | cons f fs => cases hf
  | (o, ft, sz) :: ps, fs, b, h, hn, hf => by
    cases fs with
    | nil => cases hf
    | cons f fs =>
      simp only [List.map_cons, List.cons.injEq, Prod.mk.injEq] at hf
      obtain ⟨⟨hf1, hf2⟩, hf3⟩ := hf
      have hnm := hn f List.mem_cons_self
      have ih := fun {z} (hz : eqCells S xs ys ps = some z) => eqCells_ok L h1 h2 n hz (fun g hg => hn g (List.mem_cons_of_mem _ hg)) hf3
      have go : ∀ (v v2 : Value) (r z : Bool) (u : TypeDesc), S.P.underlying ft = some u → plainD u = true → vs[o]? = some v → us[o]? = some v2 → (Op.equalIn (n + 1) ft v v2).run S.P e.w = .ok r e.w → eqCells S xs ys ps = some z → (Op.eqFields (n + 1) vs.toArray us.toArray (f :: fs)).run S.P e.w = .ok (r && z) e.w := by
        intro v v2 r z u hu hp hv hv2 hr hz
        have p1 := run_part' (w := e.w) hu hp (vs := vs.toArray) (o := o) (v := v) (by simpa using hv)
        have p2 := run_part' (w := e.w) hu hp (vs := us.toArray) (o := o) (v := v2) (by simpa using hv2)
        simp only [Op.eqFields, ne_eq, hnm, not_false_eq_true, if_true, hf1, hf2, Sem.run_bind, p1, p2, hr, Result.andThen_ok]
        cases r with
        | false => simp
        | true => simpa using ih hz
      simp only [eqCells] at h
      split at h
      · rename_i fd k a k' b' z hfd hx hy hz
        split at h
        · rename_i kk hik
          cases hk : kbeq k k' with
          | false => rw [hk] at h; cases h
          | true =>
            rw [hk] at h
            cases h
            have hkk := kbeq_eq hk
            subst hkk
            obtain ⟨v, g1, g2⟩ := all2_at h1 hx
            obtain ⟨v2, g3, g4⟩ := all2_at h2 hy
            have g2 : v = .int k a := g2
            have g4 : v2 = .int k b' := g4
            subst g2 g4
            have hu := (L.td ft fd hfd).ik kk hik
            refine go _ _ _ _ _ hu rfl g1 g3 ?_ hz
            rw [run_equalIn_int e.w n ft k kk a b' hu]
            congr 1
        · cases h
      · rename_i fd a b' z hfd hx hy hz
        cases hb : fd.bo with
        | false => rw [hb] at h; cases h
        | true =>
          rw [hb] at h
          cases h
          obtain ⟨v, g1, g2⟩ := all2_at h1 hx
          obtain ⟨v2, g3, g4⟩ := all2_at h2 hy
          have g2 : v = .bool a := g2
          have g4 : v2 = .bool b' := g4
          subst g2 g4
          have hu := (L.td ft fd hfd).bo hb
          exact go _ _ _ _ _ hu rfl g1 g3 (run_equalIn_bool' e.w n ft a b' hu) hz
      · cases h
theorem eqAgg_ok (L : Laws S Q) {e : Env S.T} {op : BinOp} {t : TypeId} {p q : Operand} {xs ys : List (SC S.T)} {vs us : List Value} (h1 : All2 (hold Q e) vs xs) (h2 : All2 (hold Q e) us ys) {u : Upd S.T} (h : (eqAgg op t xs ys).Can u) :
    ∃ v', ((do eqGuard op t p q (.agg vs.toArray) (.agg us.toArray); Go.binOp op t (.agg vs.toArray) (.agg us.toArray) : Sem Value)).run S.P e.w = .ok v' e.w ∧ holdX Q e v' u.res ∧ u.set = [] := by
  unfold eqAgg at h
  obtain ⟨d, hd, h⟩ := can_or h
  obtain ⟨hq, h⟩ := can_guard h
  have E := L.eqs t d hd hq
  have hg := run_eqGuard_agg e.w op t p q vs.toArray us.toArray E.guard
  have he : ∀ b, eqCells S xs ys d.fields = some b → (Op.equalIn 10000 t (.agg vs.toArray) (.agg us.toArray)).run S.P e.w = .ok b e.w := fun b hb => by
    rw [show (10000 : Nat) = 9999 + 1 from rfl, run_equalIn_agg e.w 9999 t _ _ E.st E.held]
    exact eqCells_ok L h1 h2 9998 hb E.nm E.fs
  split at h
  · obtain ⟨b, hb, h⟩ := can_or h
    rw [can_rv h]
    exact ⟨.bool b, by rw [Sem.run_bind, hg, Result.andThen_ok, run_eql_struct, he b hb]; rfl, rfl, rfl⟩
  · obtain ⟨b, hb, h⟩ := can_or h
    rw [can_rv h]
    exact ⟨.bool (!b), by rw [Sem.run_bind, hg, Result.andThen_ok, run_neq_struct, he b hb]; rfl, rfl, rfl⟩
  · exact h.elim
theorem binop_ok (L : Laws S Q) {e : Env S.T} {op : BinOp} {t : TypeId} {p q : Operand} {x y : SX S.T} {v v2 : Value} (hv : holdX Q e v x) (hv2 : holdX Q e v2 y) {u : Upd S.T} (h : (binop op t x y).Can u) :
    ∃ v', ((do eqGuard op t p q v v2; Go.binOp op t v v2 : Sem Value)).run S.P e.w = .ok v' e.w ∧ holdX Q e v' u.res ∧ u.set = [] := by
  unfold binop at h
  split at h
  · rename_i k x k' y
    have hv : v = .int k x := hv
    have hv2 : v2 = .int k' y := hv2
    subst hv hv2
    obtain ⟨v', c, rfl, h1, h2⟩ := binII_ok (t := t) (p := p) (q := q) (w := e.w) h
    exact ⟨v', h2, h1 e, rfl⟩
  · rename_i x y
    have hv : v = .string x := hv
    have hv2 : v2 = .string y := hv2
    subst hv hv2
    have hg : (eqGuard op t p q (.string x) (.string y)).run S.P e.w = .ok () e.w := by
      unfold eqGuard; cases op <;> simp
    split at h
    · replace h := can_br h; obtain ⟨hb, h⟩ := h
      simp only [decide_eq_true_eq] at hb
      rw [can_rv h]
      refine ⟨_, ?_, rfl, rfl⟩
      have hn : ¬ (((x.size + y.size : Nat) : Int) > IntKind.i64.max) := by
        simp [IntKind.max, IntKind.signed, IntKind.bits]
        omega
      simp only [Sem.run_bind, hg, Result.andThen_ok, Go.binOp, Op.stringOp, if_neg hn, Sem.run_pure]
    · rw [can_rv h]
      exact ⟨_, by simp only [Sem.run_bind, hg, Result.andThen_ok, Go.binOp, Op.stringOp, Sem.run_pure]; rfl, rfl, rfl⟩
    · rw [can_rv h]
      exact ⟨_, by simp only [Sem.run_bind, hg, Result.andThen_ok, Go.binOp, Op.stringOp, Sem.run_pure]; rfl, rfl, rfl⟩
    · exact h.elim
  · rename_i x y
    replace h := can_guard h; obtain ⟨hb, h⟩ := h
    have hv : v = .bool x := hv
    have hv2 : v2 = .bool y := hv2
    subst hv hv2
    have hg : (eqGuard op t p q (.bool x) (.bool y)).run S.P e.w = .ok () e.w := by
      unfold eqGuard; cases op <;> simp
    have he : (Op.equal t (.bool x) (.bool y)).run S.P e.w = .ok (x == y) e.w := by
      have hq : ∀ n, (Op.equalIn (n + 1) t (.bool x) (.bool y)).run S.P e.w = .ok (x == y) e.w := fun n => by
        simp only [Op.equalIn, Sem.run_bind, run_underlying (td_bool L hb), Result.andThen_ok, Sem.run_pure]
      exact hq 9999
    split at h
    · rw [can_rv h]
      exact ⟨_, by simp only [Sem.run_bind, hg, Result.andThen_ok, Go.binOp, he, Sem.run_pure], rfl, rfl⟩
    · rw [can_rv h]
      exact ⟨_, by simp only [Sem.run_bind, hg, Result.andThen_ok, Go.binOp, he, Sem.run_pure], rfl, rfl⟩
    · exact h.elim
  · obtain ⟨vs, rfl, hv⟩ := hv
    obtain ⟨us, rfl, hv2⟩ := hv2
    exact eqAgg_ok L hv hv2 h
  · exact h.elim
theorem equal_slice_nil {P : Program} {w : World} {t te : TypeId} (hu : P.underlying t = some (.slice te)) {A : Option Addr} {n c : Nat} : (Op.equal t (.slice A n c) (.slice none 0 0)).run P w = .ok (match A with | none => true | some _ => false) w := by
  show (Op.equalIn (9999 + 1) t (.slice A n c) (.slice none 0 0)).run P w = _
  rw [Op.equalIn.eq_2, Sem.run_bind, run_underlying hu w]
  cases A <;> rfl
theorem nilEq_run {P : Program} {w : World} {t te : TypeId} (hu : P.underlying t = some (.slice te)) {p q : Operand} {A : Option Addr} {n c : Nat} (neg : Bool) :
    ((do eqGuard (if neg then .neq else .eql) t p q (.slice A n c) (.slice none 0 0); Go.binOp (if neg then .neq else .eql) t (.slice A n c) (.slice none 0 0) : Sem Value)).run P w = .ok (.bool (if A = none then !neg else neg)) w := by
  have h := equal_slice_nil (w := w) hu (A := A) (n := n) (c := c)
  cases neg with
  | true =>
    show ((do eqGuard .neq t p q (.slice A n c) (.slice none 0 0); Go.binOp .neq t (.slice A n c) (.slice none 0 0) : Sem Value)).run P w = _
    have h1 : (eqGuard .neq t p q (.slice A n c) (.slice none 0 0)).run P w = .ok () w := rfl
    have h2 : Go.binOp .neq t (.slice A n c) (.slice none 0 0) = (do pure (.bool (!(← Op.equal t (.slice A n c) (.slice none 0 0)))) : Sem Value) := by rw [Go.binOp] <;> (intros; simp_all)
    rw [Sem.run_bind, h1, h2]
    simp only [Result.andThen_ok, Sem.run_bind, h, Sem.run_pure]
    cases A <;> rfl
  | false =>
    show ((do eqGuard .eql t p q (.slice A n c) (.slice none 0 0); Go.binOp .eql t (.slice A n c) (.slice none 0 0) : Sem Value)).run P w = _
    have h1 : (eqGuard .eql t p q (.slice A n c) (.slice none 0 0)).run P w = .ok () w := rfl
    have h2 : Go.binOp .eql t (.slice A n c) (.slice none 0 0) = (do pure (.bool (← Op.equal t (.slice A n c) (.slice none 0 0))) : Sem Value) := by rw [Go.binOp] <;> (intros; simp_all)
    rw [Sem.run_bind, h1, h2]
    simp only [Result.andThen_ok, Sem.run_bind, h, Sem.run_pure]
    cases A <;> rfl
theorem equal_ptr_nil {P : Program} {w : World} {t te : TypeId} (hu : P.underlying t = some (.pointer te)) {A : Option Addr} : (Op.equal t (.pointer A) (.pointer none)).run P w = .ok (A.isNone) w := by
  show (Op.equalIn (9999 + 1) t (.pointer A) (.pointer none)).run P w = _
  rw [Op.equalIn.eq_2, Sem.run_bind, run_underlying hu w]
  cases A <;> rfl
theorem nilPtr_run {P : Program} {w : World} {t te : TypeId} (hu : P.underlying t = some (.pointer te)) {p q : Operand} {A : Option Addr} (neg : Bool) :
    ((do eqGuard (if neg then .neq else .eql) t p q (.pointer A) (.pointer none); Go.binOp (if neg then .neq else .eql) t (.pointer A) (.pointer none) : Sem Value)).run P w = .ok (.bool (if A = none then !neg else neg)) w := by
  have h := equal_ptr_nil (w := w) hu (A := A)
  cases neg with
  | true =>
    show ((do eqGuard .neq t p q (.pointer A) (.pointer none); Go.binOp .neq t (.pointer A) (.pointer none) : Sem Value)).run P w = _
    have h1 : (eqGuard .neq t p q (.pointer A) (.pointer none)).run P w = .ok () w := rfl
    have h2 : Go.binOp .neq t (.pointer A) (.pointer none) = (do pure (.bool (!(← Op.equal t (.pointer A) (.pointer none)))) : Sem Value) := by rw [Go.binOp] <;> (intros; simp_all)
    rw [Sem.run_bind, h1, h2]
    simp only [Result.andThen_ok, Sem.run_bind, h, Sem.run_pure]
    cases A <;> rfl
  | false =>
    show ((do eqGuard .eql t p q (.pointer A) (.pointer none); Go.binOp .eql t (.pointer A) (.pointer none) : Sem Value)).run P w = _
    have h1 : (eqGuard .eql t p q (.pointer A) (.pointer none)).run P w = .ok () w := rfl
    have h2 : Go.binOp .eql t (.pointer A) (.pointer none) = (do pure (.bool (← Op.equal t (.pointer A) (.pointer none))) : Sem Value) := by rw [Go.binOp] <;> (intros; simp_all)
    rw [Sem.run_bind, h1, h2]
    simp only [Result.andThen_ok, Sem.run_bind, h, Sem.run_pure]
    cases A <;> rfl
theorem nilPtrX_ok {e : Env S.T} {t : TypeId} {p q : Operand} {x : SX S.T} {v : Value} (hv : holdX Q e v x) (neg : Bool) {u : Upd S.T} (h : (nilPtrX e.ob t x neg).Can u) :
    ∃ v', ((do eqGuard (if neg then .neq else .eql) t p q v (.pointer none); Go.binOp (if neg then .neq else .eql) t v (.pointer none) : Sem Value)).run S.P e.w = .ok v' e.w ∧ holdX Q e v' u.res ∧ u.set = [] := by
  obtain ⟨ht, h⟩ := can_guard h
  obtain ⟨te, hu⟩ : ∃ te, S.P.underlying t = some (.pointer te) := by
    unfold isPtrT at ht
    split at ht
    · exact ⟨_, by assumption⟩
    · cases ht
  have som : ∀ {a : Addr}, v = .pointer (some a) → u = ⟨.v (.c (.bool neg)), []⟩ → _ := fun hv hu' => (⟨_, hv ▸ nilPtr_run hu neg, by rw [hu']; simp only [reduceCtorEq, if_false]; rfl, by rw [hu']⟩ : ∃ v', ((do eqGuard (if neg then .neq else .eql) t p q v (.pointer none); Go.binOp (if neg then .neq else .eql) t v (.pointer none) : Sem Value)).run S.P e.w = .ok v' e.w ∧ holdX Q e v' u.res ∧ u.set = [])
  split at h
  · have hv : v = .pointer none := hv
    subst hv
    rw [can_rv h]
    exact ⟨_, nilPtr_run hu neg, by simp only [if_true]; rfl, rfl⟩
  · obtain ⟨_, g, _, hv⟩ := hv
    exact som hv (can_rv h)
  · obtain ⟨_, _, g, m, c, _, _, hv⟩ := hv
    exact som hv (can_rv h)
  · obtain ⟨hval, h⟩ := can_guard h
    obtain ⟨g, o', cs, hv, _⟩ := hv.2.2 hval
    exact som hv (can_rv h)
  · exact h.elim
theorem nilEqX_ok (L : Laws S Q) {e : Env S.T} (I : Inv Q e) {t : TypeId} {p q : Operand} {x : SX S.T} {v : Value} (hv : holdX Q e v x) (neg : Bool) {u : Upd S.T} (h : (nilEqX e.ob t x neg).Can u) :
    ∃ v', ((do eqGuard (if neg then .neq else .eql) t p q v (.slice none 0 0); Go.binOp (if neg then .neq else .eql) t v (.slice none 0 0) : Sem Value)).run S.P e.w = .ok v' e.w ∧ holdX Q e v' u.res ∧ u.set = [] := by
  obtain ⟨te, hte, h⟩ := can_or h
  have hu := td_elem L hte
  split at h
  · rw [can_rv h]
    have hv : v = .slice none 0 0 := hv
    subst hv
    exact ⟨_, nilEq_run hu neg, by simp only [if_true]; rfl, rfl⟩
  · obtain ⟨pl, hp, h⟩ := can_or h
    obtain ⟨_, _, A, c, rfl, _, hr⟩ := asList_ok L I hv hp
    rcases h with ⟨_, h⟩ | ⟨hn, h⟩
    · exact h.elim
    · rw [can_rv h]
      simp only [decide_eq_false_iff_not] at hn
      obtain ⟨g, o, cs, rfl, _⟩ := hr fun e1 => hn (by rw [e1]; rfl)
      exact ⟨_, nilEq_run hu neg, by simp only [reduceCtorEq, if_false]; rfl, rfl⟩
  · exact h.elim
theorem binopO_ok (L : Laws S Q) {e : Env S.T} (I : Inv Q e) {op : BinOp} {t : TypeId} {p q : Operand} {x y : SX S.T} {v v2 : Value} (hv : holdX Q e v x) (hv2 : holdX Q e v2 y) {u : Upd S.T} (h : (binopO e.ob op t x y).Can u) :
    ∃ v', ((do eqGuard op t p q v v2; Go.binOp op t v v2 : Sem Value)).run S.P e.w = .ok v' e.w ∧ holdX Q e v' u.res ∧ u.set = [] := by
  unfold binopO at h
  split at h
  · have hv2 : v2 = .slice none 0 0 := hv2
    subst hv2
    exact nilEqX_ok L I hv false h
  · have hv2 : v2 = .slice none 0 0 := hv2
    subst hv2
    exact nilEqX_ok L I hv true h
  · have hv2 : v2 = .pointer none := hv2
    subst hv2
    exact nilPtrX_ok hv false h
  · have hv2 : v2 = .pointer none := hv2
    subst hv2
    exact nilPtrX_ok hv true h
  · exact binop_ok L hv hv2 h
theorem unop_ok {e : Env S.T} {op : UnOp} {x : SX S.T} {v : Value} (hv : holdX Q e v x) {u : Upd S.T} (h : (unop op x).Can u) :
    ∃ v', (Op.unary op v).run S.P e.w = .ok v' e.w ∧ holdX Q e v' u.res ∧ u.set = [] := by
  unfold unop at h
  split at h
  · rename_i b
    have hv : v = .bool b := hv
    subst hv
    rw [can_rv h]
    exact ⟨_, by simp [Op.unary], rfl, rfl⟩
  · rename_i k n
    have hv : v = .int k n := hv
    subst hv
    rw [can_rv h]
    exact ⟨_, by simp [Op.unary, Op.intArith], rfl, rfl⟩
  · rename_i k n
    have hv : v = .int k n := hv
    subst hv
    rw [can_rv h]
    exact ⟨_, by simp [Op.unary, Op.intBits, xorI], rfl, rfl⟩
  · exact h.elim
theorem pickX_ok {e : Env S.T} {c x y : SX S.T} {cv xv yv : Value} (hc : holdX Q e cv c) (hx : holdX Q e xv x) (hy : holdX Q e yv y) {u : Upd S.T} (h : (pickX c x y).Can u) :
    ∃ v', (do pure (.value (if ← asBool cv then xv else yv)) : Sem Next).run S.P e.w = .ok (.value v') e.w ∧ holdX Q e v' u.res ∧ u.set = [] := by
  unfold pickX at h
  split at h
  · rename_i b
    have hc : cv = .bool b := hc
    subst hc
    rcases h with ⟨rfl, h⟩ | ⟨rfl, h⟩
    · have h := can_ret h
      subst h
      exact ⟨xv, by simp [asBool], hx, rfl⟩
    · have h := can_ret h
      subst h
      exact ⟨yv, by simp [asBool], hy, rfl⟩
  · exact h.elim
theorem nilCheckX_ok {e : Env S.T} {a : Act} {o : Oper} {p : Operand} (ho : o.op = .nilCheck p) {x : SX S.T} (hv : holdX Q e (a.eval p) x) {u : Upd S.T} (h : (nilCheckX e.ob x).Can u) :
    ∃ v', (execOp a.eval o).run S.P e.w = .ok (.value v') e.w ∧ holdX Q e v' u.res ∧ u.set = [] := by
  unfold nilCheckX at h
  unfold execOp
  rw [ho]
  split at h
  · obtain ⟨hi, g, hβ, he⟩ := hv
    rw [can_rv h]
    exact ⟨_, by simp [he], ⟨hi, g, hβ, rfl⟩, rfl⟩
  · obtain ⟨hi, h0, g, m, c, hβ, hm, he⟩ := hv
    rw [can_rv h]
    exact ⟨_, by simp [he], ⟨hi, h0, g, m, c, hβ, hm, rfl⟩, rfl⟩
  · replace h := can_guard h; obtain ⟨hval, h⟩ := h
    obtain ⟨hd, _, hr⟩ := hv
    obtain ⟨g, o', cs, he, hg, hc, hl, hx⟩ := hr hval
    rw [can_rv h]
    exact ⟨_, by simp [he], ⟨hd, rfl, fun _ => ⟨g, o', cs, rfl, hg, hc, hl, hx⟩⟩, rfl⟩
  · replace h := can_guard h; obtain ⟨hs, h⟩ := h
    obtain ⟨⟨s0, t0, c0, te0, d0, sv0, l0, h0'⟩, hv0⟩ := Option.isSome_iff_exists.1 hs
    obtain ⟨ho, _, _, _⟩ := lookS_ok hv0
    simp only at ho
    obtain ⟨g, m, cp, hh, hkm, he⟩ := hv.2.2.2.2.2 _ _ _ _ _ _ _ ho
    rw [can_rv h]
    exact ⟨a.eval p, by simp [he], hv, rfl⟩
  · obtain ⟨hi, he⟩ := hv
    rw [can_rv h]
    exact ⟨_, by simp [he], ⟨hi, rfl⟩, rfl⟩
  · exact h.elim
theorem convertX_ok (L : Laws S Q) {e : Env S.T} {s d : TypeId} {x : SX S.T} {v : Value} (hv : holdX Q e v x) {u : Upd S.T} (h : (convertX s d x).Can u) :
    ∃ v', (Go.convert s d v).run S.P e.w = .ok v' e.w ∧ holdX Q e v' u.res ∧ u.set = [] := by
  unfold convertX at h
  split at h
  · rename_i k n
    have hv : v = .int k n := hv
    subst hv
    replace h := can_guard h; obtain ⟨hs, h⟩ := h
    replace h := can_or h; obtain ⟨k', hk, h⟩ := h
    rw [can_rv h]
    obtain ⟨us, hus, _⟩ := td_agg L hs
    obtain ⟨td, htd, hik⟩ := Option.bind_eq_some_iff.1 hk
    have hud := (L.td d td htd).ik k' hik
    refine ⟨_, ?_, rfl, rfl⟩
    simp only [Go.convert, Sem.run_bind, run_underlying hus, run_underlying hud, Result.andThen_ok]
    cases us <;> simp [Conv.intToInt]
  · exact h.elim
theorem makeFuncX_ok {e : Env S.T} {ρ : Operand → Value} {f : Fn} {first caps : Array Operand} {xs : List (SX S.T)} (hx : Opds Q e ρ (first ++ caps).toList xs) {u : Upd S.T} (h : (makeFuncX f first xs).Can u) :
    ∃ v', (Instr.makeFunc f (first.map ρ) (caps.map ρ)).run S.P e.w = .ok v' e.w ∧ holdX Q e v' u.res ∧ u.set = [] := by
  unfold makeFuncX at h
  split at h
  · rename_i f hf
    replace h := can_or h; obtain ⟨l, hl, h⟩ := h
    rw [can_rv h]
    have h0 : first = #[] := Array.toList_eq_nil_iff.1 hf
    subst h0
    obtain ⟨h1, h2⟩ := capsOf_ok hl (by simpa using hx)
    refine ⟨.func (.func f) #[] (caps.map ρ), by simp [Instr.makeFunc], ⟨h1, ?_⟩, rfl⟩
    rw [← h2]
    congr 1
    apply Array.ext'
    simp
  · exact h.elim
theorem extractX_ok {e : Env S.T} {x : SX S.T} {i : Nat} {v : Value} (hv : holdX Q e v x) {u : Upd S.T} (h : (extractX x i).Can u) :
    ∃ v', (Instr.extract v i).run S.P e.w = .ok v' e.w ∧ holdX Q e v' u.res ∧ u.set = [] := by
  unfold extractX at h
  split at h
  · rename_i vs
    replace h := can_or h; obtain ⟨y, hy, h⟩ := h
    have h := can_ret h
    subst h
    obtain ⟨ws, rfl, hws⟩ := hv
    obtain ⟨w, hw, hwy⟩ := hws.at_ i hy
    exact ⟨w, by simp [Instr.extract, hw], hwy, rfl⟩
  · exact h.elim
theorem zeroX_ok (L : Laws S Q) {e : Env S.T} (I : Inv Q e) {t : TypeId} {a : SX S.T} {v : Value} (hv : holdX Q e v a) {k k' : IntKind} {hh m : Int} {u : Upd S.T} (h : (zeroX e.ob t a hh m).Can u) :
    ∃ v', (Instr.sliceAt t v none (some (.int k hh)) (some (.int k' m))).run S.P e.w = .ok v' e.w ∧ holdX Q e v' u.res ∧ u.set = [] := by
  unfold zeroX at h
  obtain ⟨hg, h⟩ := can_guard h
  simp only [Bool.and_eq_true, decide_eq_true_eq] at hg
  obtain ⟨rfl, rfl⟩ := hg
  have key : ∀ {A : Option Addr} {n c : Nat} {te : TypeId}, S.elem t = some te → S.known te = true → (Instr.sliceAt t (.slice A n c) none (some (.int k 0)) (some (.int k' 0))).run S.P e.w = .ok (.slice A 0 0) e.w := by
    intro A n c te hte hke
    have hu := td_elem L hte
    have hsz := run_sizeOf' L hke e.w
    simp [Instr.sliceAt, Instr.slice, run_underlying hu, hsz, Instr.sliceBounds, Instr.sliceBound, asIntOf]
  split at h
  · obtain ⟨te, hte, h⟩ := can_or h
    obtain ⟨hke, h⟩ := can_guard h
    rw [can_rv h]
    have hv : v = .slice none 0 0 := hv
    subst hv
    exact ⟨_, key hte hke, rfl, rfl⟩
  · obtain ⟨te, hte, h⟩ := can_or h
    obtain ⟨hke, h⟩ := can_guard h
    obtain ⟨p, hp, h⟩ := can_or h
    rw [can_rv h]
    obtain ⟨_, _, A, c, rfl, _, _⟩ := asList_ok L I hv hp
    exact ⟨_, key hte hke, ⟨A, rfl⟩, rfl⟩
  · exact h.elim
theorem sliceOpX_ok (L : Laws S Q) {e : Env S.T} (I : Inv Q e) {ρ : Operand → Value} {t : TypeId} {x : Operand} {lo hi mx : Option Operand} {xs : List (SX S.T)} (hx : Opds Q e ρ (#[x] ++ lo.toArray ++ hi.toArray ++ mx.toArray).toList xs) {u : Upd S.T} (h : (sliceOpX e.ob t lo hi mx xs).Can u) :
    ∃ v', (Instr.sliceAt t (ρ x) (lo.map ρ) (hi.map ρ) (mx.map ρ)).run S.P e.w = .ok v' e.w ∧ holdX Q e v' u.res ∧ u.set = [] := by
  unfold sliceOpX at h
  have nn : Bd Q e none none := rfl
  have ss : ∀ {p : Operand} {y : SX S.T}, holdX Q e (ρ p) y → Bd Q e (some y) (some (ρ p)) := fun h => ⟨_, rfl, h⟩
  cases lo <;> cases hi <;> cases mx <;> (try simp only at h)
  · cases hx with
    | cons h1 h2 => cases h2; exact sliceX_ok L I h1 nn nn nn h
  · exact h.elim
  · cases hx with
    | cons h1 h2 =>
      cases h2 with
      | cons h2 h3 => cases h3; exact sliceX_ok L I h1 nn (ss h2) nn h
  · cases hx with
    | cons h1 h2 =>
      cases h2 with
      | cons h2 h3 =>
        cases h3 with
        | cons h3 h4 =>
          cases h4
          have key : ∀ {x y z : SX S.T} {u1 u2 u3 : Value}, holdX Q e u1 x → holdX Q e u2 y → holdX Q e u3 z → (zero3 e.ob t x y z).Can u → ∃ v', (Instr.sliceAt t u1 none (some u2) (some u3)).run S.P e.w = .ok v' e.w ∧ holdX Q e v' u.res ∧ u.set = [] := by
            intro x y z u1 u2 u3 g1 g2 g3 g
            unfold zero3 at g
            split at g
            · have e2 : u2 = Value.int _ _ := g2
              have e3 : u3 = Value.int _ _ := g3
              rw [e2, e3]
              exact zeroX_ok L I g1 g
            · exact g.elim
          exact key h1 h2 h3 h
  · cases hx with
    | cons h1 h2 =>
      cases h2 with
      | cons h2 h3 => cases h3; exact sliceX_ok L I h1 (ss h2) nn nn h
  · exact h.elim
  · cases hx with
    | cons h1 h2 =>
      cases h2 with
      | cons h2 h3 =>
        cases h3 with
        | cons h3 h4 => cases h4; exact sliceX_ok L I h1 (ss h2) (ss h3) nn h
  · exact h.elim
theorem callX_ok (L : Laws S Q) {e : Env S.T} (I : Inv Q e) {fr : Nat} (hfr : ¬ e.U fr) {a : Act} {dst : Option Tmp} {ty : TypeId} {pos : String} {after : Array Edge} {guard : Option (Nat × Bool)} {c : Call} {xs : List (SX S.T)}
    (hx : Opds Q e a.eval c.operands.toList xs) {u : Upd S.T} (h : (callX c xs e.ob fr).Can u) : Out Q a ⟨dst, .call c, ty, pos, after, guard⟩ e fr u := by
  unfold callX at h
  obtain ⟨callee, args, ts⟩ := c
  split at h
  · rename_i b hb
    simp only at hb
    subst hb
    replace hx : Opds Q e a.eval args.toList xs := by simpa [Call.operands] using hx
    unfold builtinX at h
    split at h
    · rename_i t x hts
      have hts' : ts = #[t] := by apply Array.ext'; exact hts
      have ha : ∃ p, args = #[p] := by
        cases hl : args.toList with
        | nil => rw [hl] at hx; cases hx
        | cons p r =>
          rw [hl] at hx
          cases hx with
          | cons h1 h2 => cases h2; exact ⟨p, Array.ext' hl⟩
      obtain ⟨p, rfl⟩ := ha
      subst hts'
      cases hx with
      | cons h1 h2 =>
        cases h2
        obtain ⟨v', r1, r2, r3⟩ := lenX_ok L I (ty := ty) h1 h
        exact Out.quiet L I hfr r3 v' (by simp only [execOp, resolve, invoke, builtin, Sem.run_bind, Sem.run_pure, Result.andThen_ok, List.map_toArray, List.map_cons, List.map_nil, r1]) r2
    · rename_i t t2 s x hts
      have hts' : ts = #[t, t2] := by apply Array.ext'; exact hts
      have ha : ∃ p q, args = #[p, q] := by
        cases hl : args.toList with
        | nil => rw [hl] at hx; cases hx
        | cons p r =>
          rw [hl] at hx
          cases hx with
          | cons h1 h2 =>
            cases r with
            | nil => cases h2
            | cons q r =>
              cases h2 with
              | cons h2 h3 => cases h3; exact ⟨p, q, Array.ext' hl⟩
      obtain ⟨p, q, rfl⟩ := ha
      subst hts'
      cases hx with
      | cons h1 h2 =>
        cases h2 with
        | cons h2 h3 =>
          cases h3
          obtain ⟨v', w1, r1, r2⟩ := appendX_ok L I hfr (ty := ty) h1 h2 h
          exact Out.eff (by simp only [execOp, resolve, invoke, builtin, Sem.run_bind, Sem.run_pure, Result.andThen_ok, List.map_toArray, List.map_cons, List.map_nil, r1]) r2
    · rename_i t t2 s x hts
      have hts' : ts = #[t, t2] := by apply Array.ext'; exact hts
      have ha : ∃ p q, args = #[p, q] := by
        cases hl : args.toList with
        | nil => rw [hl] at hx; cases hx
        | cons p r =>
          rw [hl] at hx
          cases hx with
          | cons h1 h2 =>
            cases r with
            | nil => cases h2
            | cons q r =>
              cases h2 with
              | cons h2 h3 => cases h3; exact ⟨p, q, Array.ext' hl⟩
      obtain ⟨p, q, rfl⟩ := ha
      subst hts'
      cases hx with
      | cons h1 h2 =>
        cases h2 with
        | cons h2 h3 =>
          cases h3
          obtain ⟨v', w1, r1, r2⟩ := copyX_ok L I hfr (ty := ty) h1 h2 h
          exact Out.eff (by simp only [execOp, resolve, invoke, builtin, Sem.run_bind, Sem.run_pure, Result.andThen_ok, List.map_toArray, List.map_cons, List.map_nil, r1]) r2
    · rename_i k x k' y
      have ha : ∃ p q, args = #[p, q] := by
        cases hl : args.toList with
        | nil => rw [hl] at hx; cases hx
        | cons p r =>
          rw [hl] at hx
          cases hx with
          | cons h1 h2 =>
            cases r with
            | nil => cases h2
            | cons q r =>
              cases h2 with
              | cons h2 h3 => cases h3; exact ⟨p, q, Array.ext' hl⟩
      obtain ⟨p, q, rfl⟩ := ha
      cases hx with
      | cons h1 h2 =>
        cases h2 with
        | cons h2 h3 =>
          cases h3
          have e1 : a.eval p = .int _ _ := h1
          have e2 : a.eval q = .int _ _ := h2
          have hu := can_rv h
          subst hu
          exact Out.quiet L I hfr rfl _ (by simp [execOp, resolve, invoke, builtin, Builtin.max_, Builtin.max2, e1, e2]; rfl) rfl
    · rename_i k x k' y
      have ha : ∃ p q, args = #[p, q] := by
        cases hl : args.toList with
        | nil => rw [hl] at hx; cases hx
        | cons p r =>
          rw [hl] at hx
          cases hx with
          | cons h1 h2 =>
            cases r with
            | nil => cases h2
            | cons q r =>
              cases h2 with
              | cons h2 h3 => cases h3; exact ⟨p, q, Array.ext' hl⟩
      obtain ⟨p, q, rfl⟩ := ha
      cases hx with
      | cons h1 h2 =>
        cases h2 with
        | cons h2 h3 =>
          cases h3
          have e1 : a.eval p = .int _ _ := h1
          have e2 : a.eval q = .int _ _ := h2
          have hu := can_rv h
          subst hu
          exact Out.quiet L I hfr rfl _ (by simp [execOp, resolve, invoke, builtin, Builtin.min_, Builtin.min2, e1, e2]; rfl) rfl
    · exact h.elim
  · exact h.elim
theorem sem_sound (L : Laws S Q) {o : Oper} {e : Env S.T} {a : Act} {xs : List (SX S.T)} {fr : Nat} {u : Upd S.T} (I : Inv Q e) (hfr : ¬ e.U fr) (hxs : Opds Q e a.eval o.op.operands.toList xs) (hc : (sem o xs e.ob fr).Can u) : Out Q a o e fr u := by
  have quiet : ∀ {v : Value}, (execOp a.eval o).run S.P e.w = .ok (.value v) e.w → holdX Q e v u.res → u.set = [] → Out Q a o e fr u := fun hr hv hs => Out.quiet L I hfr hs _ hr hv
  obtain ⟨dst, op, ty, pos, after, guard⟩ := o
  cases op with
  | move x =>
    cases hxs with
    | cons h1 h2 =>
      cases h2
      have hc := can_ret hc
      subst hc
      exact quiet (v := a.eval x) (by simp [execOp]) h1 rfl
  | assign x =>
    cases hxs with
    | cons h1 h2 =>
      cases h2
      have hc := can_ret hc
      subst hc
      exact quiet (v := a.eval x) (by simp [execOp]) h1 rfl
  | pick c x y =>
    cases hxs with
    | cons h1 h2 =>
      cases h2 with
      | cons h2 h3 =>
        cases h3 with
        | cons h3 h4 =>
          cases h4
          obtain ⟨v', r1, r2, r3⟩ := pickX_ok h1 h2 h3 hc
          exact quiet (by simp only [execOp]; exact r1) r2 r3
  | alloc t =>
    cases hxs
    simp only [sem] at hc
    obtain ⟨cs, hcs, hc⟩ := can_or hc
    obtain ⟨v, w1, r1, r2⟩ := newVar_alloc L I hfr hcs hc
    exact .eff (by simp only [execOp]; exact run_v r1) r2
  | box t x =>
    cases hxs with
    | cons h1 h2 =>
      cases h2
      rename_i b
      cases b with
      | tup _ => exact hc.elim
      | v x =>
        simp only [sem] at hc
        obtain ⟨hn, hc⟩ := can_guard hc
        obtain ⟨v, w1, r1, r2⟩ := newVar_box L I hfr h1 hn hc
        exact .eff (by simp only [execOp]; exact run_v r1) r2
  | build t ps =>
    simp only [sem] at hc
    have hx : Opds Q e a.eval (ps.toList.map (·.2)) xs := by simpa [Op.operands] using hxs
    obtain ⟨v', r1, r2, r3⟩ := buildX_ok L I hx hc
    exact quiet (by simp only [execOp]; exact run_v r1) r2 r3
  | buildSlice t n ps =>
    simp only [sem] at hc
    have hx : Opds Q e a.eval (ps.toList.map (·.2)) xs := by simpa [Op.operands] using hxs
    obtain ⟨v', w1, r1, r2⟩ := buildSliceX_ok L I hfr hx hc
    exact .eff (by simp only [execOp]; exact run_v r1) r2
  | load t x =>
    cases hxs with
    | cons h1 h2 =>
      cases h2
      obtain ⟨v', r1, r2, r3⟩ := loadX_ok L I h1 hc
      exact quiet (by simp only [execOp]; exact run_v r1) r2 r3
  | store t x y =>
    cases hxs with
    | cons h1 h2 =>
      cases h2 with
      | cons h2 h3 =>
        cases h3
        obtain ⟨w1, r1, r2⟩ := storeX_ok L I hfr h1 h2 hc
        exact .skip (by simp only [execOp]; exact run_u r1) r2
  | nilCheck x =>
    cases hxs with
    | cons h1 h2 =>
      cases h2
      obtain ⟨v', r1, r2, r3⟩ := nilCheckX_ok (o := ⟨dst, .nilCheck x, ty, pos, after, guard⟩) rfl h1 hc
      exact quiet r1 r2 r3
  | binOp op t x y t' =>
    cases hxs with
    | cons h1 h2 =>
      cases h2 with
      | cons h2 h3 =>
        cases h3
        obtain ⟨v', r1, r2, r3⟩ := binopO_ok L I (p := x) (q := y) h1 h2 hc
        exact quiet (by simp only [execOp]; exact run_v r1) r2 r3
  | unOp op t x =>
    cases hxs with
    | cons h1 h2 =>
      cases h2
      obtain ⟨v', r1, r2, r3⟩ := unop_ok h1 hc
      exact quiet (by simp only [execOp]; exact run_v r1) r2 r3
  | convert s d x =>
    cases hxs with
    | cons h1 h2 =>
      cases h2
      obtain ⟨v', r1, r2, r3⟩ := convertX_ok L h1 hc
      exact quiet (by simp only [execOp]; exact run_v r1) r2 r3
  | makeFunc f first caps =>
    obtain ⟨v', r1, r2, r3⟩ := makeFuncX_ok (caps := caps) hxs hc
    exact quiet (by simp only [execOp]; exact run_v r1) r2 r3
  | makeSlice t l c =>
    cases hxs with
    | cons h1 h2 =>
      cases h2 with
      | cons h2 h3 =>
        cases h3
        obtain ⟨v', w1, r1, r2⟩ := makeSliceX_ok L I hfr h1 h2 hc
        exact .eff (by simp only [execOp]; exact run_v r1) r2
  | fieldAddr t x f =>
    cases hxs with
    | cons h1 h2 =>
      cases h2
      obtain ⟨v', r1, r2, r3⟩ := fieldAddrX_ok L h1 hc
      exact quiet (by simp only [execOp]; exact run_v r1) r2 r3
  | field t x f =>
    cases hxs with
    | cons h1 h2 =>
      cases h2
      obtain ⟨v', r1, r2, r3⟩ := fieldX_ok L h1 hc
      exact quiet (by simp only [execOp]; exact run_v r1) r2 r3
  | indexAddr t x i =>
    cases hxs with
    | cons h1 h2 =>
      cases h2 with
      | cons h2 h3 =>
        cases h3
        obtain ⟨v', r1, r2, r3⟩ := indexAddrX_ok L I h1 h2 hc
        exact quiet (by simp only [execOp]; exact run_v r1) r2 r3
  | index t x i =>
    cases hxs with
    | cons h1 h2 =>
      cases h2 with
      | cons h2 h3 =>
        cases h3
        obtain ⟨v', r1, r2, r3⟩ := indexX_ok L h1 h2 hc
        exact quiet (by simp only [execOp]; exact run_v r1) r2 r3
  | slice t x lo hi mx =>
    obtain ⟨v', r1, r2, r3⟩ := sliceOpX_ok L I hxs hc
    exact quiet (by simp only [execOp]; exact run_v r1) r2 r3
  | extract x i =>
    cases hxs with
    | cons h1 h2 =>
      cases h2
      obtain ⟨v', r1, r2, r3⟩ := extractX_ok h1 hc
      exact quiet (by simp only [execOp]; exact run_v r1) r2 r3
  | call c => exact callX_ok L I hfr hxs hc
  | makeMap t r =>
    cases r with
    | some r => exact absurd hc (by unfold sem; split <;> simp_all [Tr.Can])
    | none =>
      cases hxs
      obtain ⟨v', w1, r1, r2⟩ := makeMapX_ok L I hfr hc
      exact .eff (by simp only [execOp, Option.map_none]; exact run_v r1) r2
  | lookup t x i ok =>
    cases ok with
    | true => exact absurd hc (by unfold sem; split <;> simp_all [Tr.Can])
    | false =>
      cases hxs with
      | cons h1 h2 =>
        cases h2 with
        | cons h2 h3 =>
          cases h3
          obtain ⟨v', r1, r2, r3⟩ := lookupX_ok L I h1 h2 hc
          exact quiet (by simp only [execOp]; exact run_v r1) r2 r3
  | mapUpdate t x i v =>
    cases hxs with
    | cons h1 h2 =>
      cases h2 with
      | cons h2 h3 =>
        cases h3 with
        | cons h3 h4 =>
          cases h4
          obtain ⟨w1, r1, r2⟩ := mapUpdX_ok L I hfr h1 h2 h3 hc
          exact .skip (by simp only [execOp]; exact run_u r1) r2
  | _ => exact absurd hc (by unfold sem; split <;> simp_all [Tr.Can])
end
end Go.Proofs.Ytheemkehedmlfaa.E
