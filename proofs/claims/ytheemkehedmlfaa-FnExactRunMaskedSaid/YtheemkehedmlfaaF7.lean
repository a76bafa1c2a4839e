import Derived.Test.YtheemkehedmlfaaF6
import Derived.Test.YtheemkehedmlfaaU1
set_option linter.unusedVariables false
set_option linter.unusedSimpArgs false
namespace Go.Proofs.Ytheemkehedmlfaa.E
open Go
inductive PC where
  | int (k : IntKind) | bool | str | ls (t : TypeId) | al (t : TypeId) | np | dp (t : TypeId) (c : Nat) (te : TypeId)
inductive PV where
  | c (x : PC) | agg (xs : List PC)
section
variable (T : Tys)
def PC.env (c : PC) (R : Type) : Type := match c with
  | .int _ => Int × R | .bool => Bool × R | .str => ByteArray × R | .ls t => List (T t) × R | .al t => List (T t) × R | .np => R | .dp t _ _ => List (T t) × R
def envPs : List PC → Type → Type
  | [], R => R
  | c :: r, R => c.env T (envPs r R)
def PV.env (c : PV) (R : Type) : Type := match c with | .c x => x.env T R | .agg xs => envPs T xs R
def envP : List PV → Type
  | [] => Unit
  | c :: r => c.env T (envP r)
end
section
variable {T : Tys}
def insA {R : Type} : (c : PC) → c.env T R → AC T × R
  | .int k, v => (.sc (.int k v.1), v.2)
  | .bool, v => (.sc (.bool v.1), v.2)
  | .str, v => (.sc (.str v.1), v.2)
  | .ls t, v => (.ls t v.1, v.2)
  | .al t, v => (.ls t v.1, v.2)
  | .np, v => (.sc .np, v)
  | .dp t _ _, v => (.ls t v.1, v.2)
def insAs {R : Type} : (l : List PC) → envPs T l R → List (AC T) × R
  | [], v => ([], v)
  | c :: r, v => ((insA c v).1 :: (insAs r (insA c v).2).1, (insAs r (insA c v).2).2)
def insAV {R : Type} : (c : PV) → c.env T R → AV T × R
  | .c x, v => (.c (insA x v).1, (insA x v).2)
  | .agg xs, v => (.agg (insAs xs v).1, (insAs xs v).2)
def instA : (l : List PV) → envP T l → List (AV T)
  | [], _ => []
  | c :: r, v => (insAV c v).1 :: instA r (insAV c v).2
def maA {R : Type} : (c : PC) → AC T → R → Option (c.env T R)
  | .int k, .sc (.int k' n), r => bif kbeq k k' then some (n, r) else none
  | .bool, .sc (.bool b), r => some (b, r)
  | .str, .sc (.str s), r => some (s, r)
  | .ls t, .ls t' l, r => if h : t' = t then some (h ▸ l, r) else none
  | .np, .sc .np, r => some r
  | _, _, _ => none
def maNil {R : Type} : (c : PC) → AC T → R → Option (c.env T R)
  | .ls t, .sc .nil, r => some (([] : List (T t)), r)
  | c, x, r => maA c x r
def maAs {R : Type} : (l : List PC) → List (AC T) → R → Option (envPs T l R)
  | [], [], r => some r
  | c :: cs, x :: xs, r => (maAs cs xs r).bind fun r => maNil c x r
  | _, _, _ => none
def maAV {R : Type} : (c : PV) → AV T → R → Option (c.env T R)
  | .c x, .c y, r => maNil x y r
  | .agg xs, .agg ys, r => maAs xs ys r
  | _, _, _ => none
def matA : (l : List PV) → List (AV T) → Option (envP T l)
  | [], [] => some ()
  | c :: r, x :: xs => (matA r xs).bind fun v => maAV c x v
  | _, _ => none
def insR {R : Type} : (c : PC) → c.env T R → RC T × R
  | .int k, v => (.sc (.int k v.1), v.2)
  | .bool, v => (.sc (.bool v.1), v.2)
  | .str, v => (.sc (.str v.1), v.2)
  | .ls t, v => (.new t v.1, v.2)
  | .al t, v => (.al t v.1, v.2)
  | .np, v => (.sc .np, v)
  | .dp t c te, v => (.dp t c te v.1, v.2)
def insRs {R : Type} : (l : List PC) → envPs T l R → List (RC T) × R
  | [], v => ([], v)
  | c :: r, v => ((insR c v).1 :: (insRs r (insR c v).2).1, (insRs r (insR c v).2).2)
def insRV {R : Type} : (c : PV) → c.env T R → RV T × R
  | .c x, v => (.c (insR x v).1, (insR x v).2)
  | .agg xs, v => (.agg (insRs xs v).1, (insRs xs v).2)
def instR : (l : List PV) → envP T l → List (RV T)
  | [], _ => []
  | c :: r, v => (insRV c v).1 :: instR r (insRV c v).2
def maR {R : Type} : (c : PC) → RC T → R → Option (c.env T R)
  | .int k, .sc (.int k' n), r => bif kbeq k k' then some (n, r) else none
  | .bool, .sc (.bool b), r => some (b, r)
  | .str, .sc (.str s), r => some (s, r)
  | .ls t, .new t' l, r => if h : t' = t then some (h ▸ l, r) else none
  | .al t, .al t' l, r => if h : t' = t then some (h ▸ l, r) else none
  | .np, .sc .np, r => some r
  | .dp t c te, .dp t' c' te' l, r => if h : t' = t then (bif Nat.beq c c' && Nat.beq te te' then some (h ▸ l, r) else none) else none
  | _, _, _ => none
def maRs {R : Type} : (l : List PC) → List (RC T) → R → Option (envPs T l R)
  | [], [], r => some r
  | c :: cs, x :: xs, r => (maRs cs xs r).bind fun r => maR c x r
  | _, _, _ => none
def maRV {R : Type} : (c : PV) → RV T → R → Option (c.env T R)
  | .c x, .c y, r => maR x y r
  | .agg xs, .agg ys, r => maRs xs ys r
  | _, _, _ => none
def matR : (l : List PV) → List (RV T) → Option (envP T l)
  | [], [] => some ()
  | c :: r, x :: xs => (matR r xs).bind fun v => maRV c x v
  | _, _ => none
theorem maR_ok {R : Type} {c : PC} {x : RC T} {r : R} {v : c.env T R} (h : maR c x r = some v) : insR c v = (x, r) := by
  unfold maR at h
  split at h
  · obtain ⟨h1, h2⟩ := bif_some h; cases h2; rw [← kbeq_eq h1]; rfl
  · cases h; rfl
  · cases h; rfl
  · split at h
    · rename_i ht; subst ht; cases h; rfl
    · cases h
  · split at h
    · rename_i ht; subst ht; cases h; rfl
    · cases h
  · cases h; rfl
  · split at h
    · rename_i ht
      subst ht
      obtain ⟨hb, h⟩ := bif_some h
      simp only [Bool.and_eq_true] at hb
      cases h
      rw [← beq_eq' hb.1, ← beq_eq' hb.2]
      rfl
    · cases h
  · cases h
theorem maRs_ok {R : Type} : ∀ {l : List PC} {xs : List (RC T)} {r : R} {v : envPs T l R}, maRs l xs r = some v → insRs l v = (xs, r)
  | [], [], r, v, h => by cases h; rfl
  | c :: cs, x :: xs, r, v, h => by
    obtain ⟨r1, h1, h2⟩ := Option.bind_eq_some_iff.1 h
    have g1 := maRs_ok h1
    have g2 := maR_ok h2
    show ((insR c v).1 :: (insRs cs (insR c v).2).1, (insRs cs (insR c v).2).2) = _
    rw [g2]
    simp only
    rw [g1]
  | [], _ :: _, r, v, h => by cases h
  | _ :: _, [], r, v, h => by cases h
theorem maRV_ok {R : Type} : ∀ {c : PV} {x : RV T} {r : R} {v : c.env T R}, maRV c x r = some v → insRV c v = (x, r)
  | .c c, .c x, r, v, h => by show (RV.c (insR c v).1, (insR c v).2) = _; rw [maR_ok h]
  | .agg l, .agg xs, r, v, h => by show (RV.agg (insRs l v).1, (insRs l v).2) = _; rw [maRs_ok h]
  | .c _, .agg _, r, v, h => by cases h
  | .agg _, .c _, r, v, h => by cases h
theorem matR_ok : ∀ {l : List PV} {xs : List (RV T)} {v : envP T l}, matR l xs = some v → xs = instR l v
  | [], [], v, h => rfl
  | c :: r, x :: xs, v, h => by
    obtain ⟨r1, h1, h2⟩ := Option.bind_eq_some_iff.1 h
    have g2 := maRV_ok h2
    show _ = (insRV c v).1 :: instR r (insRV c v).2
    rw [g2]
    simp only
    rw [← matR_ok h1]
  | [], _ :: _, v, h => by cases h
  | _ :: _, [], v, h => by cases h
end
section
variable {S : Sig} {Q : Kind S}
theorem maA_ok {R : Type} {c : PC} {x : AC S.T} {r : R} {v : c.env S.T R} (h : maA c x r = some v) : insA c v = (x, r) := by
  unfold maA at h
  split at h
  · obtain ⟨h1, h2⟩ := bif_some h; cases h2; rw [← kbeq_eq h1]; rfl
  · cases h; rfl
  · cases h; rfl
  · split at h
    · rename_i ht; subst ht; cases h; rfl
    · cases h
  · cases h; rfl
  · cases h
theorem maNil_ok {R : Type} {c : PC} {x : AC S.T} {r : R} {v : c.env S.T R} (h : maNil c x r = some v) : (insA c v).2 = r ∧ ∀ (F : Nat → Prop) (w : World) (u : Value), acHold Q F w u x → acHold Q F w u (insA c v).1 := by
  unfold maNil at h
  split at h
  · cases h
    refine ⟨rfl, fun F w u hu => ?_⟩
    have hu : u = .slice none 0 0 := hu
    subst hu
    exact ⟨rfl, none, 0, rfl, Nat.le_refl _, fun h => absurd rfl h⟩
  · have := maA_ok h
    exact ⟨by rw [this], fun F w u hu => by rw [this]; exact hu⟩
theorem maAs_ok {R : Type} : ∀ {l : List PC} {xs : List (AC S.T)} {r : R} {v : envPs S.T l R}, maAs l xs r = some v → (insAs l v).2 = r ∧ ∀ (F : Nat → Prop) (w : World) (us : List Value), All2 (acHold Q F w) us xs → All2 (acHold Q F w) us (insAs l v).1
  | [], [], r, v, h => by cases h; exact ⟨rfl, fun _ _ _ h => h⟩
  | c :: cs, x :: xs, r, v, h => by
    obtain ⟨r1, h1, h2⟩ := Option.bind_eq_some_iff.1 h
    obtain ⟨g1, g2⟩ := maAs_ok h1
    obtain ⟨g3, g4⟩ := maNil_ok (Q := Q) h2
    refine ⟨?_, fun F w us hu => ?_⟩
    · show (insAs cs (insA c v).2).2 = r
      rw [g3]; exact g1
    · cases hu with
      | cons a b =>
        refine .cons (g4 _ _ _ a) ?_
        show All2 _ _ (insAs cs (insA c v).2).1
        rw [g3]
        exact g2 _ _ _ b
  | [], _ :: _, r, v, h => by cases h
  | _ :: _, [], r, v, h => by cases h
theorem maAV_ok {R : Type} : ∀ {c : PV} {x : AV S.T} {r : R} {v : c.env S.T R}, maAV c x r = some v → (insAV c v).2 = r ∧ ∀ (F : Nat → Prop) (w : World) (u : Value), avHold Q F w u x → avHold Q F w u (insAV c v).1
  | .c c, .c x, r, v, h => maNil_ok h
  | .agg l, .agg xs, r, v, h => by
    obtain ⟨g1, g2⟩ := maAs_ok (Q := Q) h
    exact ⟨g1, fun F w u ⟨vs, e1, hv⟩ => ⟨vs, e1, g2 _ _ _ hv⟩⟩
  | .c _, .agg _, r, v, h => by cases h
  | .agg _, .c _, r, v, h => by cases h
theorem matA_ok : ∀ {l : List PV} {xs : List (AV S.T)} {v : envP S.T l}, matA l xs = some v → ∀ (F : Nat → Prop) (w : World) (us : List Value), All2 (avHold Q F w) us xs → All2 (avHold Q F w) us (instA l v)
  | [], [], v, h => fun _ _ _ h => h
  | c :: r, x :: xs, v, h => by
    obtain ⟨r1, h1, h2⟩ := Option.bind_eq_some_iff.1 h
    obtain ⟨g3, g4⟩ := maAV_ok (Q := Q) h2
    intro F w us hu
    cases hu with
    | cons a b =>
      refine .cons (g4 _ _ _ a) ?_
      show All2 _ _ (instA r (insAV c v).2)
      rw [g3]
      exact matA_ok h1 _ _ _ b
  | [], _ :: _, v, h => by cases h
  | _ :: _, [], v, h => by cases h
def conG (ps rs : List PV) (F : envP S.T ps → Option (envP S.T rs)) : Con S := fun avs => orNone (matA ps avs) fun v => .bind (F v) fun r => .ret (instR rs r)
theorem conG_ok {f : FuncId} {g : Con S} (hg : ConOk Q f g) {ps rs : List PV} {F : envP S.T ps → Option (envP S.T rs)} (h : ∀ v, (g (instA ps v)).k (matR rs) = F v) : ConOk Q f (conG ps rs F) := by
  refine ⟨hg.fn, fun avs rvs w vs G hc hG hv => ?_⟩
  obtain ⟨v, hm, hc⟩ := can_or hc
  obtain ⟨r, hr, hc⟩ := hc
  have hc := can_ret hc
  subst hc
  rw [← h v] at hr
  obtain ⟨u, hu, hk⟩ := Tr.can_of_k hr
  rw [matR_ok hk] at hu
  exact hg.ok _ _ w vs G hu hG (matA_ok hm _ _ _ hv)
abbrev CL (S : Sig) := List (Nat × Con S)
def Cof (l : CL S) : Cons S := fun f => lookL f l
def COk (Q : Kind S) (l : CL S) : Prop := ∀ f g, Cof l f = some g → ConOk Q f g
theorem COk.nil : COk Q ([] : CL S) := fun f g h => by cases h
theorem COk.cons {f : FuncId} {g : Con S} {l : CL S} (h : ConOk Q f g) (hl : COk Q l) : COk Q ((f, g) :: l) := by
  intro f' g' h'
  have h' : (bif Nat.beq f' f then some g else lookL f' l) = some g' := h'
  cases hb : Nat.beq f' f with
  | true => rw [hb] at h'; cases h'; rw [beq_eq' hb]; exact h
  | false => rw [hb] at h'; exact hl f' g' h'
abbrev JL (S : Sig) := List (Nat × (St S.T → Tr (Ex × St S.T)))
def Jof (l : JL S) : Orc S := fun id => lookL id l
def blks : Code → List (Nat × Code)
  | .seq a b => blks a ++ blks b
  | .cond _ x y => blks x ++ blks y
  | .block id c => (id, c) :: blks c
  | .loop c => blks c
  | _ => []
def blkOf (id : Nat) : List (Nat × Code) → Code
  | [] => .skip
  | p :: r => bif Nat.beq id p.1 then p.2 else blkOf id r
def unLoop : Code → Code | .loop c => c | c => c
def itN {α β : Type} (step : (α → Option β) → α → Option β) : Nat → α → Option β
  | 0 => fun _ => none
  | n + 1 => step (itN step n)
theorem loop_ok (L : Laws S Q) {B : Tb S} (hC : ∀ f g, B.C f = some g → ConOk Q f g) {D : Array Oper → St S.T → Tr (St S.T)} (hD : DOk Q D) {I : Inl S} (hI : InlOk Q I) {f : FuncId} {id : Nat} {body : Code} (hJ : okJ Q (B.J f) body) {d : LoopD}
    {step : d.pm.env S.T → (d.tm.env S.T → Option (outE S.T d.outs)) → d.tm.env S.T → Option (outE S.T d.outs)} (h : ∀ σ p rec v, stepL (runC B D I f body) id (wr body) d (instP σ d.pm p) rec v = step p rec v) (N : Nat) :
    Snd Q (orcL (wr body) d fun p => itN (step p) N) (.block id (.loop body)) := by
  have key : ∀ σ p n v, iterL (runC B D I f body) id (wr body) d (instP σ d.pm p) n v = itN (step p) n v := by
    intro σ p n
    induction n with
    | zero => intro v; rfl
    | succ n ih =>
      intro v
      show stepL _ _ _ _ _ (iterL (runC B D I f body) id (wr body) d (instP σ d.pm p) n) v = step p (itN (step p) n) v
      rw [funext ih, h]
  exact orcL_ok L (runC_ok L hC hD hI body hJ) fun σ p v r hr => ⟨N, (key σ p N v).trans hr⟩
end
end Go.Proofs.Ytheemkehedmlfaa.E
