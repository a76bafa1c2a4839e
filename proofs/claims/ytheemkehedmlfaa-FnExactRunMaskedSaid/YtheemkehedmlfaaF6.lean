import Derived.Test.YtheemkehedmlfaaF5
set_option linter.unusedVariables false
set_option linter.unusedSimpArgs false
namespace Go.Proofs.Ytheemkehedmlfaa.E
open Go
theorem Tr.k_of_can {U R : Type} {K : U → Option R} {u : U} : ∀ {t : Tr U}, t.Can u → t.k K = K u
  | .none, h => h.elim
  | .ret v, h => by cases h; rfl
  | .br b x y, h => by
    rcases h with ⟨rfl, h⟩ | ⟨rfl, h⟩
    · exact Tr.k_of_can (t := x) h
    · exact Tr.k_of_can (t := y) h
  | .bind o f, h => by
    obtain ⟨a, rfl, h⟩ := h
    exact Tr.k_of_can (t := f a) h
section
variable {S : Sig}
def notExt (ob : Ob S.T) (i : Nat) : Bool := match ob i with | some (_, .ext) => false | some _ => true | none => false
def nilR (S : Sig) (t : TypeId) : RC S.T := match S.xc t with
  | some (c, te) => bif S.flat te then .dp t c te [] else .new t []
  | none => .new t []
def resC (ob : Ob S.T) (ty : Option TypeId) : SC S.T → Option (RC S.T × List (List Nat))
  | .row i => match ob i with
    | some (_, .row t _ _) => (baseX ob t (.row i)).bind fun p => bif valid ob p.2 && noId i p.2 && (p.2.all fun q => notExt ob q.1) then some (.new t p.1, [i :: p.2.map (·.1)]) else none
    | some (_, .deep t c te d _ l none) => bif valid ob d && noId i d && (d.all fun q => notExt ob q.1) then some (.dp t c te l, [i :: d.map (·.1)]) else none
    | _ => none
  | .cut i n => match ob i with
    | some (_, .row t _ _) => (baseX ob t (.cut i n)).bind fun p => bif valid ob p.2 && noId i p.2 && (p.2.all fun q => notExt ob q.1) then some (.new t p.1, [i :: p.2.map (·.1)]) else none
    | _ => none
  | .nil => match ty with
    | some t => some (nilR S t, [[]])
    | none => some (.sc .nil, [])
  | .rd t d l => bif valid ob d && (d.all fun q => Nat.beq q.1 0 || notExt ob q.1) then some (.al t l, [(d.map (·.1)).filter fun i => !(Nat.beq i 0)]) else none
  | x => bif plain x then some (.sc x, []) else none
def resCs (ob : Ob S.T) : List (Option TypeId) → List (SC S.T) → Option (List (RC S.T) × List (List Nat))
  | _, [] => some ([], [])
  | tys, c :: r => (resC ob (tys.head?.getD none) c).bind fun p => (resCs ob tys.tail r).map fun q => (p.1 :: q.1, p.2 ++ q.2)
def sltOf (S : Sig) (t : TypeId) : List (Option TypeId) := match S.td t with | some d => d.slt | none => []
def resV (ob : Ob S.T) (ty : TypeId) : SX S.T → Option (RV S.T × List (List Nat))
  | .v (.c x) => (resC ob (S.elem ty) x).map fun p => (.c p.1, p.2)
  | .v (.agg xs) => (resCs ob (sltOf S ty) xs).map fun p => (.agg p.1, p.2)
  | .tup _ => none
def resVs (σ : St S.T) : List TypeId → List ResultVar → Tr (List (RV S.T) × List (List Nat))
  | _, [] => .ret ([], [])
  | tys, r :: rs => (resVar σ r).then fun x => orNone (resV σ.ob (tys.head?.getD 0) x) fun p => (resVs σ tys.tail rs).then fun q => .ret (p.1 :: q.1, p.2 ++ q.2)
def okRes (l : List Nat) : Bool := noDup l && l.all fun i => !(Nat.beq i 0)
def ofAC : AC S.T → SC S.T
  | .sc x => bif plain x then x else .un
  | .ls t l => .rd t [(0, 0)] l
def ofAV : AV S.T → SX S.T
  | .c x => .v (.c (ofAC x))
  | .agg xs => .v (.agg (xs.map ofAC))
def startOb : Ob S.T := fun a => bif Nat.beq a 0 then some (0, .ext) else none
def start (fn : Func) (avs : List (AV S.T)) : St S.T := { sl := fun s => match lookN s avs with | some x => ofAV x | none => .v (.c .un), ob := startOb, nx := 1, n := fn.ntmps, lg := [] }
def fnT (B : Tb S) (D : Array Oper → St S.T → Tr (St S.T)) (I : Inl S) (f : FuncId) (fn : Func) (avs : List (AV S.T)) : Tr (List (RV S.T)) :=
  match fn.body with
  | none => .none
  | some c => guardT (Nat.ble avs.length fn.ntmps) <| (runC B D I f c (start fn avs)).then fun p => match p.1 with
    | .exit _ => .none
    | _ => (resVs p.2 fn.resultTypes.toList fn.results.toList).then fun r => guardT (okRes r.2.flatten) (.ret r.1)
variable {Q : Kind S}
structure Taken (Q : Kind S) (e : Env S.T) (us : List (List Nat)) (bs : List Value) : Prop where
  len : bs.length = us.length
  one : ∀ v, v ∈ bs → v.oneCell' = true
  own : ∀ u, u ∈ us → ∀ i, i ∈ u → i ≠ 0 → ∃ s so, lookB i e.ob = some (s, so) ∧ so ≠ .ext
def Gof (e : Env S.T) (us : List (List Nat)) (n : Nat) (G : Nat → Nat → Prop) : Prop := ∀ m u, us[m]? = some u → ∀ k, G (n + m) k ↔ ∃ i, i ∈ u ∧ e.ok i k
def Bof (bs : List Value) (n : Nat) (B : Nat → Value) : Prop := ∀ m v, bs[m]? = some v → B (n + m) = v
def cntC : RC S.T → Nat
  | .sc _ => 0
  | _ => 1
theorem notExt_ok {e : Env S.T} {i : Nat} (h : notExt e.ob i = true) : ∃ s so, lookB i e.ob = some (s, so) ∧ so ≠ .ext := by
  unfold notExt at h
  split at h
  · cases h
  · rename_i x hx ho
    obtain ⟨s, so⟩ := x
    exact ⟨s, so, ho, fun e1 => hx s (by rw [e1])⟩
  · cases h
theorem resC_ok (L : Laws S Q) {e : Env S.T} (I : Inv Q e) {ty : Option TypeId} {c : SC S.T} {v : Value} (hv : hold Q e v c) {r : RC S.T} {us : List (List Nat)} (h : resC e.ob ty c = some (r, us)) :
    ∃ bs, Taken Q e us bs ∧ us.length = cntC r ∧ ∀ (n : Nat) (G : Nat → Nat → Prop) (B : Nat → Value) (F : Nat → Prop), Gof e us n G → Bof bs n B → (∀ k, e.ok 0 k → F k) → rcHold Q F G B e.w n v r := by
  have hbase : ∀ {t : TypeId} {i : Nat} {c : SC S.T} {p : List (S.T t) × Dp}, hold Q e v c → idOf c = [i] → noUn c = true → baseX e.ob t c = some p → (valid e.ob p.2 && noId i p.2 && (p.2.all fun q => notExt e.ob q.1)) = true →
      ∃ bs, Taken Q e [i :: p.2.map (·.1)] bs ∧ ∀ (n : Nat) (G : Nat → Nat → Prop) (B : Nat → Value) (F : Nat → Prop), Gof e [i :: p.2.map (·.1)] n G → Bof bs n B → (∀ k, e.ok 0 k → F k) → rcHold Q F G B e.w n v (.new t p.1) := by
    intro t i c p hv hid hun hb hg
    simp only [Bool.and_eq_true] at hg
    obtain ⟨⟨hvd, hni⟩, hne⟩ := hg
    obtain ⟨id, cs, hB, hid2⟩ := base_ok L I (by rintro rfl; cases hid) hv hb hvd
    have hid3 : id = some i := by
      rw [hid] at hid2
      cases id with
      | none => simp at hid2
      | some j => simp at hid2; rw [hid2]
    subst hid3
    refine ⟨[v], ⟨rfl, fun u hu => by simp at hu; rw [hu]; exact hold_one I hv hun, ?_⟩, ?_⟩
    · intro u hu j hj h0
      simp at hu
      subst hu
      rcases List.mem_cons.1 hj with rfl | hj
      · exact hB.ids j rfl
      · obtain ⟨q, hq, rfl⟩ := List.mem_map.1 hj
        exact notExt_ok (List.all_eq_true.1 hne q hq)
    · intro n G B F hG hBB hF
      have hG0 := hG 0 _ rfl
      have hB0 := hBB 0 v rfl
      rw [Nat.add_zero] at hB0
      simp only [Nat.add_zero] at hG0
      refine ⟨hB0.symm, fun k hk => (hG0 k).2 ?_, cs, hB.own, reps_imp (fun x c hx => L.mono _ _ _ _ _ _ ?_ hx) hB.rep⟩
      · obtain ⟨j, hj, hjk⟩ := hB.blk k hk
        cases hj
        exact ⟨i, List.mem_cons_self, hjk⟩
      · rintro k (⟨⟨j, hj, hjk⟩, hn⟩ | ⟨q, hq, hqk⟩)
        · cases hj
          exact ⟨(hG0 k).2 ⟨i, List.mem_cons_self, hjk⟩, hn⟩
        · refine ⟨(hG0 k).2 ⟨q.1, List.mem_cons_of_mem _ (List.mem_map.2 ⟨q, hq, rfl⟩), hqk⟩, fun e1 => ?_⟩
          obtain ⟨j, hj, hjk⟩ := hB.blk k e1.symm
          cases hj
          obtain ⟨so2, h5⟩ := valid_iff.1 hvd q hq
          obtain ⟨s3, so3, h6, _⟩ := hB.ids i rfl
          have hnq : q.1 ≠ i := by
            have := List.all_eq_true.1 hni q hq
            intro e2
            rw [e2, Nat.beq_refl] at this
            cases this
          exact I.dis _ _ _ _ _ _ h5 h6 hnq k hqk hjk
  cases c with
  | row i =>
    simp only [resC] at h
    split at h
    · rename_i s t d l ho
      obtain ⟨p, hp, h⟩ := Option.bind_eq_some_iff.1 h
      cases hg : (valid e.ob p.2 && noId i p.2 && (p.2.all fun q => notExt e.ob q.1)) with
      | false => rw [hg] at h; cases h
      | true =>
        rw [hg] at h
        cases h
        obtain ⟨bs, h1, h2⟩ := hbase hv rfl rfl hp hg
        exact ⟨bs, h1, rfl, h2⟩
    · rename_i s t c te d sv l ho
      obtain ⟨hg, h⟩ := bif_some h
      cases h
      simp only [Bool.and_eq_true] at hg
      obtain ⟨⟨hvd, hni⟩, hne⟩ := hg
      obtain ⟨hi, hs, hx, hf, hdl, hsv, hown, cs, hr, Bf, R, hB, hBd, hR, hall⟩ := I.obj i s _ ho
      obtain ⟨_, rfl⟩ : _ ∧ v = e.β i := hv
      have hal := hall hvd
      refine ⟨[e.β i], ⟨rfl, fun u hu => by simp at hu; rw [hu]; exact I.one i, ?_⟩, rfl, ?_⟩
      · intro u hu j hj h0
        simp at hu
        subst hu
        rcases List.mem_cons.1 hj with rfl | hj
        · exact ⟨_, _, ho, by simp⟩
        · obtain ⟨q, hq, rfl⟩ := List.mem_map.1 hj
          exact notExt_ok (List.all_eq_true.1 hne q hq)
      · intro n G B F hG hBB hF
        have hG0 := hG 0 _ rfl
        have hB0 := hBB 0 _ rfl
        rw [Nat.add_zero] at hB0
        simp only [Nat.add_zero] at hG0
        have hin : ∀ k, e.ok i k → G n k := fun k hk => (hG0 k).2 ⟨i, List.mem_cons_self, hk⟩
        refine ⟨hB0.symm, fun k hk => hin k (hown k hk), hx, hf, cs, hr, Bf, fun k => R k ∨ e.Fd d k, fun j k hk => ⟨hin k (hB j k hk).1, (hB j k hk).2⟩, hBd, ?_, fun j x hj => ⟨(hal j x hj).1, (hal j x hj).2 (by simp)⟩⟩
        rintro k (hk | ⟨q, hq, hqk⟩)
        · exact ⟨hin k (hR k hk).1, (hR k hk).2⟩
        · have hno := Fd_off I ho hni hvd k ⟨q, hq, hqk⟩
          exact ⟨(hG0 k).2 ⟨q.1, List.mem_cons_of_mem _ (List.mem_map.2 ⟨q, hq, rfl⟩), hqk⟩, fun e1 => hno (hown k e1.symm), fun j hj => hno (hB j k hj).1⟩
    · cases h
  | cut i m =>
    simp only [resC] at h
    split at h
    · rename_i s t d l ho
      obtain ⟨p, hp, h⟩ := Option.bind_eq_some_iff.1 h
      cases hg : (valid e.ob p.2 && noId i p.2 && (p.2.all fun q => notExt e.ob q.1)) with
      | false => rw [hg] at h; cases h
      | true =>
        rw [hg] at h
        cases h
        obtain ⟨bs, h1, h2⟩ := hbase hv rfl rfl hp hg
        exact ⟨bs, h1, rfl, h2⟩
    · cases h
  | nil =>
    have hv : v = .slice none 0 0 := hv
    simp only [resC] at h
    split at h
    · rename_i t
      cases h
      refine ⟨[v], ⟨rfl, fun u hu => by simp at hu; rw [hu, hv]; rfl, fun u hu j hj => by simp at hu; rw [hu] at hj; cases hj⟩, ?_, ?_⟩
      · unfold nilR
        split
        · rename_i c te _
          cases S.flat te <;> rfl
        · rfl
      intro n G B F hG hBB hF
      have hB0 := hBB 0 v rfl
      rw [Nat.add_zero] at hB0
      have hrow : rcHold Q F G B e.w n v (.new t []) := ⟨hB0.symm, fun k hk => (by rw [hv] at hk; cases hk), [], (by rw [hv]; exact World.ownsRow_nil _ _ _ _), rfl⟩
      unfold nilR
      split
      · rename_i c te hx
        cases hf : S.flat te with
        | false => exact hrow
        | true => exact ⟨hB0.symm, fun k hk => (by rw [hv] at hk; cases hk), hx, hf, [], (by rw [hv]; exact World.ownsRow_nil _ _ _ _), fun _ _ => False, fun _ => False, fun _ _ h => h.elim, fun _ _ _ h => h.elim, fun _ h => h.elim, fun j x hj => by simp at hj⟩
      · exact hrow
    · cases h
      exact ⟨[], ⟨rfl, fun u hu => (by cases hu), fun u hu => (by cases hu)⟩, rfl, fun n G B F _ _ _ => hv⟩
  | rd t d l =>
    simp only [resC] at h
    cases hg : (valid e.ob d && d.all fun q => Nat.beq q.1 0 || notExt e.ob q.1) with
    | false => rw [hg] at h; cases h
    | true =>
      rw [hg] at h
      cases h
      simp only [Bool.and_eq_true] at hg
      refine ⟨[v], ⟨rfl, fun u hu => by simp at hu; rw [hu]; exact hv.2.1, ?_⟩, rfl, ?_⟩
      · intro u hu j hj h0
        simp only [List.mem_singleton] at hu
        subst hu
        obtain ⟨hj1, hj2⟩ := List.mem_filter.1 hj
        obtain ⟨q, hq, rfl⟩ := List.mem_map.1 hj1
        have := List.all_eq_true.1 hg.2 q hq
        simp only [Bool.or_eq_true] at this
        rcases this with h3 | h3
        · exact absurd (beq_eq' h3) h0
        · exact notExt_ok h3
      · intro n G B F hG hBB hF
        have hG0 := hG 0 _ rfl
        simp only [Nat.add_zero] at hG0
        refine ⟨hv.2.1, (hv.2.2 hg.1).move L ?_ fun _ _ => rfl⟩
        rintro k ⟨q, hq, hk⟩
        by_cases h0 : q.1 = 0
        · exact .inl (hF k (h0 ▸ hk))
        · refine .inr ((hG0 k).2 ⟨q.1, List.mem_filter.2 ⟨List.mem_map.2 ⟨q, hq, rfl⟩, ?_⟩, hk⟩)
          cases hb : Nat.beq q.1 0 with
          | true => exact absurd (beq_eq' hb) h0
          | false => rfl
  | int k m => cases h; exact ⟨[], ⟨rfl, fun u hu => (by cases hu), fun u hu => (by cases hu)⟩, rfl, fun n G B F _ _ _ => hv⟩
  | bool b => cases h; exact ⟨[], ⟨rfl, fun u hu => (by cases hu), fun u hu => (by cases hu)⟩, rfl, fun n G B F _ _ _ => hv⟩
  | str b => cases h; exact ⟨[], ⟨rfl, fun u hu => (by cases hu), fun u hu => (by cases hu)⟩, rfl, fun n G B F _ _ _ => hv⟩
  | np => cases h; exact ⟨[], ⟨rfl, fun u hu => (by cases hu), fun u hu => (by cases hu)⟩, rfl, fun n G B F _ _ _ => hv⟩
  | _ => cases h
theorem cntC_next (n : Nat) (r : RC S.T) : nextRC n r = n + cntC r := by cases r <;> rfl
theorem Taken.app {e : Env S.T} {us us' : List (List Nat)} {bs bs' : List Value} (h : Taken Q e us bs) (k : Taken Q e us' bs') : Taken Q e (us ++ us') (bs ++ bs') :=
  ⟨by rw [List.length_append, List.length_append, h.len, k.len], fun v hv => (List.mem_append.1 hv).elim (h.one v) (k.one v), fun u hu => (List.mem_append.1 hu).elim (h.own u) (k.own u)⟩
theorem Gof.l {e : Env S.T} {us us' : List (List Nat)} {n : Nat} {G : Nat → Nat → Prop} (h : Gof e (us ++ us') n G) : Gof e us n G := fun m u hu => h m u (by rw [List.getElem?_append_left (List.getElem?_eq_some_iff.1 hu).1]; exact hu)
theorem Gof.r {e : Env S.T} {us us' : List (List Nat)} {n : Nat} {G : Nat → Nat → Prop} (h : Gof e (us ++ us') n G) : Gof e us' (n + us.length) G := fun m u hu => by
  rw [Nat.add_assoc]
  exact h (us.length + m) u (by rw [List.getElem?_append_right (by omega), show us.length + m - us.length = m by omega]; exact hu)
theorem Bof.l {bs bs' : List Value} {n : Nat} {B : Nat → Value} (h : Bof (bs ++ bs') n B) : Bof bs n B := fun m u hu => h m u (by rw [List.getElem?_append_left (List.getElem?_eq_some_iff.1 hu).1]; exact hu)
theorem Bof.r {bs bs' : List Value} {n : Nat} {B : Nat → Value} (h : Bof (bs ++ bs') n B) : Bof bs' (n + bs.length) B := fun m u hu => by
  rw [Nat.add_assoc]
  exact h (bs.length + m) u (by rw [List.getElem?_append_right (by omega), show bs.length + m - bs.length = m by omega]; exact hu)
def cntCs : List (RC S.T) → Nat
  | [] => 0
  | c :: r => cntC c + cntCs r
theorem cntCs_next : ∀ (r : List (RC S.T)) (n : Nat), nextRCs n r = n + cntCs r
  | [], n => rfl
  | c :: r, n => by simp only [nextRCs, cntCs, cntC_next, cntCs_next r]; omega
theorem resCs_ok (L : Laws S Q) {e : Env S.T} (I : Inv Q e) : ∀ {cs : List (SC S.T)} {tys : List (Option TypeId)} {vs : List Value} {rs : List (RC S.T)} {us : List (List Nat)}, All2 (hold Q e) vs cs → resCs e.ob tys cs = some (rs, us) →
    ∃ bs, Taken Q e us bs ∧ us.length = cntCs rs ∧ ∀ (n : Nat) (G : Nat → Nat → Prop) (B : Nat → Value) (F : Nat → Prop), Gof e us n G → Bof bs n B → (∀ k, e.ok 0 k → F k) → rcsHold Q F G B e.w n vs rs
  | [], tys, vs, rs, us, hv, h => by
    cases hv
    simp only [resCs, Option.some.injEq, Prod.mk.injEq] at h
    obtain ⟨rfl, rfl⟩ := h
    exact ⟨[], ⟨rfl, fun u hu => (by cases hu), fun u hu => (by cases hu)⟩, rfl, fun _ _ _ _ _ _ _ => trivial⟩
  | c :: cs, tys, vs, rs, us, hv, h => by
    cases hv
    rename_i v vs h1 h2
    simp only [resCs] at h
    obtain ⟨p, hp, h⟩ := Option.bind_eq_some_iff.1 h
    obtain ⟨q, hq, h⟩ := Option.map_eq_some_iff.1 h
    cases h
    obtain ⟨bs, a1, a2, a3⟩ := resC_ok L I h1 hp
    obtain ⟨bs', b1, b2, b3⟩ := resCs_ok L I h2 hq
    refine ⟨bs ++ bs', a1.app b1, by rw [List.length_append, a2, b2]; rfl, fun n G B F hG hB hF => ⟨a3 n G B F hG.l hB.l hF, ?_⟩⟩
    have := b3 (n + p.2.length) G B F hG.r (by rw [← a1.len]; exact hB.r) hF
    rw [cntC_next, ← a2]
    exact this
def cntV : RV S.T → Nat
  | .c x => cntC x
  | .agg xs => cntCs xs
theorem cntV_next (n : Nat) (r : RV S.T) : nextRV n r = n + cntV r := by
  cases r
  · exact cntC_next _ _
  · exact cntCs_next _ _
theorem resV_ok (L : Laws S Q) {e : Env S.T} (I : Inv Q e) {ty : TypeId} {c : SX S.T} {v : Value} (hv : holdX Q e v c) {r : RV S.T} {us : List (List Nat)} (h : resV e.ob ty c = some (r, us)) :
    ∃ bs, Taken Q e us bs ∧ us.length = cntV r ∧ ∀ (n : Nat) (G : Nat → Nat → Prop) (B : Nat → Value) (F : Nat → Prop), Gof e us n G → Bof bs n B → (∀ k, e.ok 0 k → F k) → rvHold Q F G B e.w n v r := by
  unfold resV at h
  split at h
  · obtain ⟨p, hp, h⟩ := Option.map_eq_some_iff.1 h
    cases h
    exact resC_ok L I hv hp
  · obtain ⟨p, hp, h⟩ := Option.map_eq_some_iff.1 h
    cases h
    obtain ⟨vs, rfl, hvs⟩ := hv
    obtain ⟨bs, h1, h2, h3⟩ := resCs_ok L I hvs hp
    exact ⟨bs, h1, h2, fun n G B F hG hB hF => ⟨vs, rfl, h3 n G B F hG hB hF⟩⟩
  · cases h
def resRun (tmps : Array Value) : ResultVar → Sem Value
  | .tmp t => pure (tmps.getD t undef)
  | .cell b t => do loadVar t (← asAddr (tmps.getD b undef))
theorem results_eq (fn : Func) (tmps : Array Value) : results fn tmps = (do let vs ← fn.results.mapM (resRun tmps); pure (if h : vs.size = 1 then vs[0] else .tuple vs)) := by
  unfold results
  congr 1
theorem resVar_ok (L : Laws S Q) {e : Env S.T} {σ : St S.T} {a : Act} (h : Holds Q e σ a) {r : ResultVar} {x : SX S.T} (hc : (resVar σ r).Can x) :
    ∃ v, (resRun a.tmps r).run S.P e.w = .ok v e.w ∧ holdX Q e v x := by
  cases r with
  | tmp t =>
    have hc := can_ret hc
    subst hc
    exact ⟨_, by simp [resRun], h.sl t⟩
  | cell b t =>
    obtain ⟨u, hu, hc⟩ := Tr.can_then hc
    have hc := can_ret hc
    subst hc
    rw [← h.ob] at hu
    obtain ⟨v, h1, h2, _⟩ := loadX_ok L h.inv (h.sl b) hu
    refine ⟨v, ?_, h2⟩
    have hp : ∃ ad, a.tmps.getD b undef = .pointer (some ad) := by
      have hs := h.sl b
      generalize σ.get b = sx at hs hu
      unfold loadX at hu
      split at hu
      · obtain ⟨_, g, _, he⟩ := hs; exact ⟨_, he⟩
      · obtain ⟨_, _, g, m, c, _, _, he⟩ := hs; exact ⟨_, he⟩
      · split at hu
        · rename_i hl
          obtain ⟨ho, _⟩ := lookS_ok hl
          obtain ⟨g, m, cp, _, _, he⟩ := hs.2.2.2.2.2 _ _ _ _ _ _ _ ho
          exact ⟨_, he⟩
        · exact hu.elim
      · replace hu := can_guard hu; obtain ⟨hg, _⟩ := hu
        simp only [Bool.and_eq_true] at hg
        obtain ⟨g, o, cs, he, _⟩ := hs.2.2 hg.1.1.1
        exact ⟨_, he⟩
      · exact hu.elim
    obtain ⟨ad, had⟩ := hp
    show (do loadVar t (← asAddr (a.tmps.getD b undef)) : Sem Value).run S.P e.w = _
    rw [had] at h1 ⊢
    simp only [Instr.loadAt, Instr.sureAddr, Sem.run_bind, Sem.run_pure, Result.andThen_ok] at h1
    simp only [asAddr, Sem.run_bind, Sem.run_pure, Result.andThen_ok]
    exact h1
def cntVs : List (RV S.T) → Nat
  | [] => 0
  | c :: r => cntV c + cntVs r
theorem resVs_ok (L : Laws S Q) {e : Env S.T} {σ : St S.T} {a : Act} (hh : Holds Q e σ a) : ∀ {rs : List ResultVar} {tys : List TypeId} {q : List (RV S.T) × List (List Nat)}, (resVs σ tys rs).Can q →
    ∃ vs bs, (rs.mapM (resRun a.tmps)).run S.P e.w = .ok vs e.w ∧ vs.length = rs.length ∧ Taken Q e q.2 bs ∧ q.2.length = cntVs q.1 ∧
      ∀ (n : Nat) (G : Nat → Nat → Prop) (B : Nat → Value) (F : Nat → Prop), Gof e q.2 n G → Bof bs n B → (∀ k, e.ok 0 k → F k) → rvsHold Q F G B e.w n vs q.1
  | [], tys, q, h => by
    have h := can_ret h
    subst h
    exact ⟨[], [], by simp, rfl, ⟨rfl, fun u hu => (by cases hu), fun u hu => (by cases hu)⟩, rfl, fun _ _ _ _ _ _ _ => trivial⟩
  | r :: rs, tys, q, h => by
    obtain ⟨x, hx, h⟩ := Tr.can_then h
    obtain ⟨p, hp, h⟩ := can_or h
    obtain ⟨q2, hq2, h⟩ := Tr.can_then h
    have h := can_ret h
    subst h
    obtain ⟨v, v1, v2⟩ := resVar_ok L hh hx
    rw [← hh.ob] at hp
    obtain ⟨bs, a1, a2, a3⟩ := resV_ok L hh.inv v2 hp
    obtain ⟨vs, bs', b0, b00, b1, b2, b3⟩ := resVs_ok L hh hq2
    refine ⟨v :: vs, bs ++ bs', ?_, by simp [b00], a1.app b1, by rw [List.length_append, a2, b2]; rfl, fun n G B F hG hB hF => ⟨a3 n G B F hG.l hB.l hF, ?_⟩⟩
    · simp only [List.mapM_cons, Sem.run_bind, v1, Result.andThen_ok, b0, Sem.run_pure]
    · have := b3 (n + p.2.length) G B F hG.r (by rw [← a1.len]; exact hB.r) hF
      rw [cntV_next, ← a2]
      exact this
theorem start_holds (L : Laws S Q) {fn : Func} {avs : List (AV S.T)} {w : World} {vs : List Value} {F : Nat → Prop} (hF : ∀ k, F k → k < w.heap.size) (hv : All2 (avHold Q F w) vs avs) (hn : avs.length ≤ fn.ntmps) :
    Holds Q { w := w, β := fun _ => .bool false, ok := fun a k => a = 0 ∧ F k, ob := startOb, U := fun a => a = 0 } (start fn avs) { tmps := vs.toArray ++ Array.replicate (fn.ntmps - vs.toArray.size) undef, defers := [] } := by
  have hlen := hv.len
  let e : Env S.T := { w := w, β := fun _ => .bool false, ok := fun a k => a = 0 ∧ F k, ob := startOb, U := fun a => a = 0 }
  have hob : ∀ i s so, lookB i (startOb (S := S)) = some (s, so) → i = 0 ∧ s = 0 ∧ so = .ext := by
    intro i s so h
    unfold lookB startOb at h
    cases hb : Nat.beq i 0 with
    | false => rw [hb] at h; cases h
    | true => rw [hb] at h; cases h; exact ⟨beq_eq' hb, rfl, rfl⟩
  have hac : ∀ {v : Value} {x : AC S.T}, acHold Q F w v x → hold Q e v (ofAC x) := by
    intro v x h
    cases x with
    | sc x =>
      show hold Q e v (bif plain x then x else .un)
      cases hp : plain x with
      | true => exact pl_of h
      | false => trivial
    | ls t l =>
      refine ⟨fun p hp => ?_, h.1, fun _ => h.2.move L (fun k hk => ⟨(0, 0), List.mem_cons_self, rfl, hk⟩) fun _ _ => rfl⟩
      simp at hp
      subst hp
      exact ⟨rfl, rfl⟩
  have hav : ∀ {v : Value} {x : AV S.T}, avHold Q F w v x → holdX Q e v (ofAV x) := by
    intro v x h
    cases x with
    | c x => exact hac h
    | agg xs =>
      obtain ⟨ws, rfl, hw⟩ := h
      refine ⟨ws, rfl, ?_⟩
      clear hv hlen
      induction hw with
      | nil => exact .nil
      | cons a _ ih => exact .cons (hac a) ih
  refine ⟨⟨?_, fun i => rfl, rfl, fun s so h => (hob 0 s so h).2.2, ?_, ?_⟩, rfl, fun i hi => ?_, ?_, rfl, fun s => ?_⟩
  · intro i s so h
    obtain ⟨rfl, rfl, rfl⟩ := hob i s so h
    exact ⟨rfl, rfl, trivial⟩
  · intro i s so h k hk
    exact hF k hk.2
  · intro i j s s' so so' h h' hne k hk hk'
    exact hne (hk.1.trans hk'.1.symm)
  · show i < 1
    have hi : i = 0 := hi
    omega
  · show (vs.toArray ++ Array.replicate (fn.ntmps - vs.toArray.size) undef).size = fn.ntmps
    rw [Array.size_append, Array.size_replicate, List.size_toArray]
    omega
  · show holdX Q e ((vs.toArray ++ Array.replicate (fn.ntmps - vs.toArray.size) undef).getD s undef) (match lookN s avs with | some x => ofAV x | none => .v (.c .un))
    have key : ∀ {avs : List (AV S.T)} {vs : List Value} {s : Nat}, All2 (avHold Q F w) vs avs → match lookN s avs with | some x => ∃ v, vs[s]? = some v ∧ avHold Q F w v x | none => True := by
      intro avs vs s h
      induction h generalizing s with
      | nil => cases s <;> trivial
      | cons a _ ih =>
        cases s with
        | zero => exact ⟨_, rfl, a⟩
        | succ s => exact ih (s := s)
    have := key (s := s) hv
    split at this
    · rename_i x hx
      obtain ⟨v, h1, h2⟩ := this
      have hs : s < vs.length := (List.getElem?_eq_some_iff.1 h1).1
      have : (vs.toArray ++ Array.replicate (fn.ntmps - vs.toArray.size) undef).getD s undef = v := by
        rw [Array.getD_eq_getD_getElem?, Array.getElem?_append_left (by simpa using hs)]
        simp [h1]
      rw [this]
      exact hav h2
    · trivial
theorem nodup_app_out {l r : List Nat} (h : noDup (l ++ r) = true) {i : Nat} (hi : i ∈ l) (hj : i ∈ r) : False := by
  induction l with
  | nil => cases hi
  | cons k l ih =>
    simp only [List.cons_append, noDup, Bool.and_eq_true, Bool.not_eq_true'] at h
    rcases List.mem_cons.1 hi with rfl | hi
    · have := hasN_iff.2 (List.mem_append_right l hj)
      rw [h.1] at this
      cases this
    · exact ih h.2 hi
theorem nodup_r {l r : List Nat} (h : noDup (l ++ r) = true) : noDup r = true := by
  induction l with
  | nil => exact h
  | cons k l ih =>
    simp only [List.cons_append, noDup, Bool.and_eq_true] at h
    exact ih h.2
theorem okIds_apart : ∀ {us : List (List Nat)}, noDup us.flatten = true → ∀ {n m : Nat}, n ≠ m → ∀ {i : Nat}, i ∈ us.getD n [] → i ∈ us.getD m [] → False
  | [], _, n, m, _, i, hi, _ => by simp at hi
  | u :: us, h, n, m, hne, i, hi, hj => by
    rw [List.flatten_cons] at h
    have inr : ∀ {k : Nat}, i ∈ us.getD k [] → i ∈ us.flatten := by
      intro k hk
      rcases Nat.lt_or_ge k us.length with hlt | hge
      · rw [List.getD_eq_getElem?_getD, List.getElem?_eq_getElem hlt] at hk
        exact List.mem_flatten.2 ⟨_, List.getElem_mem hlt, hk⟩
      · rw [List.getD_eq_getElem?_getD, List.getElem?_eq_none hge] at hk
        cases hk
    cases n with
    | zero =>
      cases m with
      | zero => exact hne rfl
      | succ m => exact nodup_app_out h (by simpa using hi) (inr (by simpa using hj))
    | succ n =>
      cases m with
      | zero => exact nodup_app_out h (by simpa using hj) (inr (by simpa using hi))
      | succ m => exact okIds_apart (nodup_r h) (fun e1 : n = m => hne (by rw [e1])) (by simpa using hi) (by simpa using hj)
theorem resSVs_ok (L : Laws S Q) {e : Env S.T} {σ : St S.T} {a : Act} (hh : Holds Q e σ a) : ∀ {rs : List ResultVar} {q : List (SV S.T)}, (resSVs σ rs).Can q →
    ∃ vs, (rs.mapM (resRun a.tmps)).run S.P e.w = .ok vs e.w ∧ All2 (holdV Q e) vs q
  | [], q, h => by
    have h := can_ret h
    subst h
    exact ⟨[], by simp, .nil⟩
  | r :: rs, q, h => by
    obtain ⟨x, hx, h⟩ := Tr.can_then h
    obtain ⟨v, v1, v2⟩ := resVar_ok L hh hx
    cases x with
    | tup xs => exact h.elim
    | v x =>
      obtain ⟨q2, hq2, h⟩ := Tr.can_then h
      have h := can_ret h
      subst h
      obtain ⟨vs, b0, b1⟩ := resSVs_ok L hh hq2
      exact ⟨v :: vs, by simp only [List.mapM_cons, Sem.run_bind, v1, Result.andThen_ok, b0, Sem.run_pure], .cons v2 b1⟩
theorem results_run {P : Program} {fn : Func} {a : Act} {w : World} {ws : List Value} (h : (fn.results.toList.mapM (resRun a.tmps)).run P w = .ok ws w) : (results fn a.tmps).run P w = .ok (valueOf ws) w := by
  rw [results_eq, Array.mapM_eq_mapM_toList, Sem.run_bind]
  have : (List.toArray <$> fn.results.toList.mapM (resRun a.tmps)).run P w = .ok ws.toArray w := by
    rw [map_eq_pure_bind]
    show Sem.run P (Bind.bind _ _) w = _
    rw [Sem.run_bind, h]
    simp
  rw [this]
  simp only [Result.andThen_ok, Sem.run_pure, Result.ok.injEq, and_true]
  unfold valueOf
  cases ws with
  | nil => rfl
  | cons x l =>
    cases l with
    | nil => rfl
    | cons y l => simp
theorem args_hold {e : Env S.T} : ∀ {xs : List (SX S.T)} {vs : List Value}, All2 (holdX Q e) vs xs → ∀ (n s : Nat), holdX Q e ((vs.toArray ++ Array.replicate n undef).getD s undef) (match lookN s xs with | some x => x | none => .v (.c .un)) := by
  have key : ∀ {xs : List (SX S.T)} {vs : List Value} {s : Nat}, All2 (holdX Q e) vs xs → match lookN s xs with | some x => ∃ v, vs[s]? = some v ∧ holdX Q e v x | none => True := by
    intro xs vs s h
    induction h generalizing s with
    | nil => cases s <;> trivial
    | cons a _ ih =>
      cases s with
      | zero => exact ⟨_, rfl, a⟩
      | succ s => exact ih (s := s)
  intro xs vs h n s
  have := key (s := s) h
  split at this
  · rename_i x hx
    obtain ⟨v, h1, h2⟩ := this
    have hs : s < vs.length := (List.getElem?_eq_some_iff.1 h1).1
    have : (vs.toArray ++ Array.replicate n undef).getD s undef = v := by
      rw [Array.getD_eq_getD_getElem?, Array.getElem?_append_left (by simpa using hs)]
      simp [h1]
    rw [this]
    exact h2
  · trivial
def FOk (Q : Kind S) (B : Tb S) : Prop := ∀ f fn, B.F f = some fn → S.P.funcs[f]? = some fn ∧ (fn.name == "runtime.NumGoroutine") = false ∧ ∀ c, fn.body = some c → okJ Q (B.J f) c
theorem runF_ok (L : Laws S Q) {B : Tb S} (hC : ∀ f g, B.C f = some g → ConOk Q f g) {D : Array Oper → St S.T → Tr (St S.T)} (hD : DOk Q D) {I : Inl S} (hI : InlOk Q I) (hF : FOk Q B) : InlOk Q (runF B D I) := by
  intro f xs ob nx r hr
  unfold runF at hr
  obtain ⟨fn, hfn, hr⟩ := can_or hr
  obtain ⟨c, hb, hr⟩ := can_or hr
  obtain ⟨hn, hr⟩ := can_guard hr
  obtain ⟨p, hp, hr⟩ := Tr.can_then hr
  obtain ⟨hf, hname, hJ⟩ := hF f fn hfn
  refine ⟨⟨fn, hf, hname, by rw [hb]; rfl⟩, fun e vs hI' hob hU hv => ?_⟩
  have hlen := hv.len
  have h0 : Holds Q e { sl := fun s => match lookN s xs with | some x => x | none => .v (.c .un), ob := ob, nx := nx, n := fn.ntmps, lg := [] } { tmps := vs.toArray ++ Array.replicate (fn.ntmps - vs.toArray.size) undef, defers := [] } := by
    refine ⟨hI', hob, hU, ?_, rfl, fun s => args_hold hv _ s⟩
    have := ble_le hn
    show (vs.toArray ++ Array.replicate (fn.ntmps - vs.toArray.size) undef).size = fn.ntmps
    rw [Array.size_append, Array.size_replicate, List.size_toArray]
    omega
  refine calls_of_wp hf hb (Code.wp_mono ?_ (runC_ok L hC hD hI c (hJ c hb) _ _ _ p h0 hp))
  rintro ex a' w' ⟨rfl, e', rfl, st⟩
  have hret : ((resSVs p.2 fn.results.toList).then fun vs => Tr.ret (oneOf vs, p.2)).Can r → a'.defers = [] ∧ ∃ v, (results fn a'.tmps).run S.P e'.w = .ok v e'.w ∧ Ended Q e nx ob r (.returned v) e'.w := by
    intro hc
    obtain ⟨q, hq, hc⟩ := Tr.can_then hc
    have hc := can_ret hc
    subst hc
    obtain ⟨ws, r1, r2⟩ := resSVs_ok L st.holds hq
    obtain ⟨l, hl1, hl2⟩ := st.lg
    refine ⟨st.holds.df, valueOf ws, results_run r1, valueOf ws, e', rfl, rfl, st.lb, st.holds.inv, st.holds.ob, st.holds.nx, st.nx, fun i hi => hl2 i fun hin => hi ?_, valueOf_hold r2⟩
    rw [hl1]
    exact List.mem_append_left _ hin
  obtain ⟨pe, ps⟩ := p
  cases pe with
  | norm => exact hret hr
  | ret => exact hret hr
  | exit j => exact hr.elim
theorem inlN_ok (L : Laws S Q) {B : Tb S} (hC : ∀ f g, B.C f = some g → ConOk Q f g) {D : Inl S → Array Oper → St S.T → Tr (St S.T)} (hD : ∀ I, InlOk Q I → DOk Q (D I)) (hF : FOk Q B) : ∀ n, InlOk Q (inlN B D n)
  | 0 => fun _ _ _ _ _ h => h.elim
  | n + 1 => runF_ok L hC (hD _ (inlN_ok L hC hD hF n)) (inlN_ok L hC hD hF n) hF
theorem con_of_run (L : Laws S Q) {B : Tb S} (hC : ∀ f g, B.C f = some g → ConOk Q f g) {D : Array Oper → St S.T → Tr (St S.T)} (hD : DOk Q D) {I : Inl S} (hI : InlOk Q I) {f : FuncId} {fn : Func} {c : Code} (hf : S.P.funcs[f]? = some fn) (hname : (fn.name == "runtime.NumGoroutine") = false) (hb : fn.body = some c) (hJ : okJ Q (B.J f) c) : ConOk Q f (fnT B D I f fn) := by
  refine ⟨⟨fn, hf, hname, by rw [hb]; rfl⟩, fun avs rvs w vs F hc hF hv => ?_⟩
  unfold fnT at hc
  rw [hb] at hc
  simp only at hc
  replace hc := can_guard hc; obtain ⟨hn, hc⟩ := hc
  obtain ⟨p, hp, hc⟩ := Tr.can_then hc
  have h0 := start_holds L (fn := fn) hF hv (ble_le hn)
  refine calls_of_wp hf hb (Code.wp_mono ?_ (runC_ok L hC hD hI c hJ _ _ _ p h0 hp))
  rintro ex a' w' ⟨rfl, e', rfl, st⟩
  have hl := st.lb
  have hh := st.holds
  have hret : (resVs p.2 fn.resultTypes.toList fn.results.toList).then (fun r => guardT (okRes r.2.flatten) (.ret r.1)) |>.Can rvs → a'.defers = [] ∧ ∃ v, (results fn a'.tmps).run S.P e'.w = .ok v e'.w ∧ ∃ v', Ending.returned v = .returned v' ∧ Comes' Q F w rvs v' e'.w := by
    intro hc
    obtain ⟨q, hq, hc⟩ := Tr.can_then hc
    replace hc := can_guard hc; obtain ⟨hid, hc⟩ := hc
    have hc := can_ret hc
    subst hc
    simp only [okRes, Bool.and_eq_true] at hid
    obtain ⟨ws, bs, r1, r2, r3, r4, r5⟩ := resVs_ok L hh hq
    refine ⟨hh.df, valueOf ws, ?_, _, rfl, ?_⟩
    · rw [results_eq, Array.mapM_eq_mapM_toList, Sem.run_bind]
      have : (List.toArray <$> fn.results.toList.mapM (resRun a'.tmps)).run S.P e'.w = .ok ws.toArray e'.w := by
        rw [map_eq_pure_bind]
        show Sem.run S.P (Bind.bind _ _) e'.w = _
        rw [Sem.run_bind, r1]
        simp
      rw [this]
      simp only [Result.andThen_ok, Sem.run_pure, Result.ok.injEq, and_true]
      unfold valueOf
      cases ws with
      | nil => rfl
      | cons x l =>
        cases l with
        | nil => rfl
        | cons y l => simp
    · have hno : ∀ k, ¬ Env.own (S := S) { w := w, β := fun _ => .bool false, ok := fun a k => a = 0 ∧ F k, ob := startOb, U := fun a => a = 0 } k := by
        rintro k ⟨i, s, so, h, hne, _⟩
        unfold lookB startOb at h
        cases hb : Nat.beq i 0 with
        | false => simp only [hb] at h; cases h
        | true => simp only [hb] at h; cases h; exact hne rfl
      have hq : Quiet w e'.w := ⟨hl.os, hl.tape, hl.output, hl.size, fun k hk => hl.chg k hk (hno k)⟩
      let G : Nat → Nat → Prop := fun n k => ∃ i, i ∈ q.2.getD n [] ∧ e'.ok i k
      let B : Nat → Value := fun n => bs.getD n (.bool false)
      have hz : ∀ n i, i ∈ q.2.getD n [] → i ∈ q.2.flatten := by
        intro n i hi
        rcases Nat.lt_or_ge n q.2.length with hlt | hge
        · rw [List.getD_eq_getElem?_getD, List.getElem?_eq_getElem hlt] at hi
          exact List.mem_flatten.2 ⟨_, List.getElem_mem hlt, hi⟩
        · rw [List.getD_eq_getElem?_getD, List.getElem?_eq_none hge] at hi
          cases hi
      have hi0 : ∀ i, i ∈ q.2.flatten → i ≠ 0 := by
        intro i hi e1
        have := List.all_eq_true.1 hid.2 i hi
        rw [e1] at this
        cases this
      have hal : ∀ n i, i ∈ q.2.getD n [] → ∃ s so, lookB i e'.ob = some (s, so) ∧ so ≠ .ext := by
        intro n i hi
        rcases Nat.lt_or_ge n q.2.length with hlt | hge
        · have h9 := hi0 i (hz n i hi)
          rw [List.getD_eq_getElem?_getD, List.getElem?_eq_getElem hlt] at hi
          exact r3.own _ (List.getElem_mem hlt) i hi h9
        · rw [List.getD_eq_getElem?_getD, List.getElem?_eq_none hge] at hi
          cases hi
      refine ⟨hq, G, B, ws, rfl, ?_, ?_, ?_, r5 0 G B F ?_ ?_ ?_⟩
      · intro n
        show (bs.getD n (.bool false)).oneCell' = true
        rcases Nat.lt_or_ge n bs.length with hlt | hge
        · rw [List.getD_eq_getElem?_getD, List.getElem?_eq_getElem hlt]
          exact r3.one _ (List.getElem_mem hlt)
        · rw [List.getD_eq_getElem?_getD, List.getElem?_eq_none hge]
          rfl
      · rintro n k ⟨i, hi, hk⟩
        obtain ⟨s, so, h9, h10⟩ := hal n i hi
        refine ⟨?_, hh.inv.lt i s so h9 k hk⟩
        rcases hl.own k ⟨i, s, so, h9, h10, hk⟩ with h11 | h11
        · exact absurd h11 (hno k)
        · exact h11
      · rintro n m k hne ⟨i, hi, hk⟩ ⟨j, hj, hk'⟩
        have hij : i ≠ j := by
          rintro rfl
          exact okIds_apart hid.1 hne hi hj
        obtain ⟨s, so, h9, _⟩ := hal n i hi
        obtain ⟨s', so', h9', _⟩ := hal m j hj
        exact hh.inv.dis i j s s' so so' h9 h9' hij k hk hk'
      · intro m u hu k
        show (∃ i, i ∈ q.2.getD (0 + m) [] ∧ e'.ok i k) ↔ _
        rw [Nat.zero_add, List.getD_eq_getElem?_getD, hu]
        rfl
      · intro m v hv
        show bs.getD (0 + m) (.bool false) = v
        rw [Nat.zero_add, List.getD_eq_getElem?_getD, hv]
        rfl
      · intro k hk
        exact (hl.ext k hk).2
  obtain ⟨pe, ps⟩ := p
  cases pe with
  | norm => exact hret hc
  | ret => exact hret hc
  | exit j => exact hc.elim
end
end Go.Proofs.Ytheemkehedmlfaa.E
