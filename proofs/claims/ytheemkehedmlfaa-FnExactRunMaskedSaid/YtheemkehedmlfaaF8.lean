import Derived.Test.YtheemkehedmlfaaF9
set_option linter.unusedVariables false
set_option linter.unusedSimpArgs false
namespace Go.Proofs.Ytheemkehedmlfaa.E
open Go
def Tr.LeT {U : Type} (t t' : Tr U) : Prop := ∀ u, t.Can u → t'.Can u
namespace Tr.LeT
variable {U V : Type}
theorem none {t : Tr U} : Tr.LeT .none t := fun _ h => h.elim
theorem refl (t : Tr U) : Tr.LeT t t := fun _ h => h
theorem br {b : Bool} {x y x' y' : Tr U} (h : Tr.LeT x x') (k : Tr.LeT y y') : Tr.LeT (.br b x y) (.br b x' y') := fun u hu => hu.imp (fun p => ⟨p.1, h u p.2⟩) fun p => ⟨p.1, k u p.2⟩
theorem guard {b b' : Bool} {x x' : Tr U} (hb : b = true → b' = true) (h : Tr.LeT x x') : Tr.LeT (guardT b x) (guardT b' x') := by
  intro u hu
  obtain ⟨h1, h2⟩ := can_guard hu
  rw [hb h1]
  exact h u h2
theorem orN.{u} {α : Type u} {o o' : Option α} {f f' : α → Tr U} (ho : ∀ x, o = some x → o' = some x) (h : ∀ x, Tr.LeT (f x) (f' x)) : Tr.LeT (orNone o f) (orNone o' f') := by
  intro u hu
  obtain ⟨x, h1, h2⟩ := can_or hu
  rw [ho x h1]
  exact h x u h2
end Tr.LeT
theorem can_then_mk {U V : Type} {f : U → Tr V} {x : U} {u : V} : ∀ {t : Tr U}, t.Can x → (f x).Can u → (t.then f).Can u
  | .none, h, _ => h.elim
  | .ret v, h, k => by cases h; exact k
  | .br b x y, h, k => by
    rcases h with ⟨hb, h⟩ | ⟨hb, h⟩
    · exact .inl ⟨hb, can_then_mk h k⟩
    · exact .inr ⟨hb, can_then_mk h k⟩
  | .bind o g, h, k => by
    obtain ⟨a, ha, h⟩ := h
    exact ⟨a, ha, can_then_mk h k⟩
theorem Tr.LeT.thn {U V : Type} {t t' : Tr U} {f f' : U → Tr V} (h : Tr.LeT t t') (k : ∀ x, Tr.LeT (f x) (f' x)) : Tr.LeT (t.then f) (t'.then f') := by
  intro u hu
  obtain ⟨x, h1, h2⟩ := Tr.can_then hu
  exact can_then_mk (h x h1) (k x u h2)
section
variable {S : Sig}
def LeO {T : Tys} (ob ob' : Ob T) : Prop := ∀ a x, ob a = some x → ob' a = some x
theorem valid_mono {T : Tys} {ob ob' : Ob T} (ho : LeO ob ob') : ∀ {d : Dp}, valid ob d = true → valid ob' d = true
  | [], _ => rfl
  | p :: d, h => by
    simp only [valid, Bool.and_eq_true] at h ⊢
    refine ⟨?_, valid_mono ho h.2⟩
    have h1 := h.1
    split at h1
    · rename_i v so hl
      rw [show lookB p.1 ob' = _ from ho _ _ hl]
      exact h1
    · cases h1
theorem lookR_mono {T : Tys} {ob ob' : Ob T} (ho : LeO ob ob') {i : Nat} {v : RowV T} (h : lookR i ob = some v) : lookR i ob' = some v := by
  unfold lookR at h ⊢
  split at h
  · rename_i hl; rw [show lookB i ob' = _ from ho _ _ hl]; exact h
  · rename_i hl; rw [show lookB i ob' = _ from ho _ _ hl]; exact h
  · cases h
theorem lookD_mono {T : Tys} {ob ob' : Ob T} (ho : LeO ob ob') {i : Nat} {v : DeepV T} (h : lookD i ob = some v) : lookD i ob' = some v := by
  unfold lookD at h ⊢
  split at h
  · rename_i hl; rw [show lookB i ob' = _ from ho _ _ hl]; exact h
  · cases h
theorem lookS_mono {T : Tys} {ob ob' : Ob T} (ho : LeO ob ob') {i sv : Nat} {v : DeepV T} (h : lookS i sv ob = some v) : lookS i sv ob' = some v := by
  unfold lookS at h ⊢
  split at h
  · rename_i v' hl
    rw [lookD_mono ho hl]
    simp only
    cases hb : Nat.beq v'.sv sv && v'.h.isNone && valid ob v'.d with
    | false => rw [hb] at h; cases h
    | true =>
      rw [hb] at h
      simp only [Bool.and_eq_true] at hb
      rw [hb.1.1, hb.1.2, valid_mono ho hb.2]
      exact h
  · cases h
theorem lookR_alive {T : Tys} {ob : Ob T} {i : Nat} {v : RowV T} (h : lookR i ob = some v) : ∃ x, ob i = some x := by
  unfold lookR at h
  split at h
  · rename_i hl; exact ⟨_, hl⟩
  · rename_i hl; exact ⟨_, hl⟩
  · cases h
theorem asList_mono {T : Tys} {A : Acc T} {ob ob' : Ob T} (ho : LeO ob ob') {t : TypeId} {c : SC T} {p : List (T t) × Dp} (h : asList A ob t c = some p) : asList A ob' t c = some p := by
  have hv : ∀ {d : Dp}, valid ob d = true → valid ob' d = true := fun h => valid_mono ho h
  cases c with
  | nil => exact h
  | rd t' d l =>
    simp only [asList] at h ⊢
    split at h
    · rename_i ht
      rw [dif_pos ht]
      obtain ⟨h1, h2⟩ := bif_some h
      rw [hv h1]; exact h2
    · cases h
  | row i =>
    simp only [asList] at h ⊢
    split at h
    · rename_i s t' d l hl
      rw [lookR_mono ho hl]
      simp only
      split at h
      · rename_i ht
        rw [dif_pos ht]
        obtain ⟨h1, h2⟩ := bif_some h
        rw [hv h1]; exact h2
      · cases h
    · cases h
  | cut i n =>
    simp only [asList] at h ⊢
    split at h
    · rename_i s t' d l hl
      rw [lookR_mono ho hl]
      simp only
      split at h
      · rename_i ht
        rw [dif_pos ht]
        obtain ⟨h1, h2⟩ := bif_some h
        rw [hv h1]; exact h2
      · cases h
    · cases h
  | sub i sv j =>
    simp only [asList] at h ⊢
    split at h
    · rename_i hl
      rw [lookS_mono ho hl]
      exact h
    · cases h
  | tail i t0 n =>
    simp only [asList] at h ⊢
    split at h
    · rename_i s t' d l hl
      rw [lookR_mono ho hl]
      simp only
      split at h
      · rename_i ht
        rw [dif_pos ht]
        obtain ⟨h1, h2⟩ := bif_some h
        simp only [Bool.and_eq_true] at h1
        rw [hv h1.1, h1.2]; exact h2
      · cases h
    · cases h
  | _ => cases h
def InnAlive (S : Sig) : Prop := ∀ t c te (ob : Ob S.T) cs p k, S.xc t = some (c, te) → cs[c]? = some (.row k) → S.inn t ob cs = some p → ∃ x, ob k = some x
def InnMono0 (S : Sig) : Prop := ∀ t (ob ob' : Ob S.T) cs p, LeO ob ob' → S.inn t ob cs = some p → S.inn t ob' cs = some p
def InnMono (S : Sig) : Prop := InnMono0 S ∧ InnAlive S
theorem look_le {U : Type} {ob ob' : Ob S.T} (ho : LeO ob ob') {i : Nat} {f f' : Nat × SO S.T → Tr U} (h : ∀ x, lookB i ob = some x → Tr.LeT (f x) (f' x)) :
    Tr.LeT (match lookB i ob with | some x => f x | none => .none) (match lookB i ob' with | some x => f' x | none => .none) := by
  cases hl : lookB i ob with
  | none => exact Tr.LeT.none
  | some x => rw [show lookB i ob' = _ from ho _ _ hl]; exact h x hl
theorem and_mono {b b' c : Bool} (h : b = true → b' = true) : (b && c) = true → (b' && c) = true := by
  simp only [Bool.and_eq_true]
  exact fun k => ⟨h k.1, k.2⟩
theorem loadX_mono {ob ob' : Ob S.T} (ho : LeO ob ob') (t : TypeId) (a : SX S.T) : Tr.LeT (loadX ob t a) (loadX ob' t a) := by
  intro u h
  unfold loadX at h ⊢
  split at h
  · rename_i i off
    split at h
    · rename_i s t' cs hl
      rw [show lookB i ob' = _ from ho _ _ hl]
      exact h
    · exact h.elim
  · rename_i i t' j off
    split at h
    · rename_i s t2 d l hl
      rw [show lookB i ob' = _ from ho _ _ hl]
      simp only
      split at h
      · rename_i ht
        rw [dif_pos ht]
        exact Tr.LeT.guard (and_mono (and_mono (and_mono (valid_mono ho)))) (Tr.LeT.refl _) u h
      · exact h.elim
    · rename_i s t2 c te d sv l hl
      rw [show lookB i ob' = _ from ho _ _ hl]
      simp only
      split at h
      · rename_i ht
        rw [dif_pos ht]
        exact Tr.LeT.guard (and_mono (and_mono (and_mono (valid_mono ho)))) (Tr.LeT.refl _) u h
      · exact h.elim
    · exact h.elim
  · split at h
    · rename_i hl
      rw [lookS_mono ho hl]
      exact h
    · exact h.elim
  · exact Tr.LeT.guard (and_mono (and_mono (and_mono (valid_mono ho)))) (Tr.LeT.refl _) u h
  · exact h.elim
theorem storeX_mono (hi : InnMono0 S) {ob ob' : Ob S.T} (ho : LeO ob ob') (fr : Nat) (t : TypeId) (a x : SX S.T) : Tr.LeT (storeX ob fr t a x) (storeX ob' fr t a x) := by
  intro u h
  unfold storeX at h ⊢
  split at h
  · rename_i i off v
    split at h
    · rename_i s t' cs hl
      rw [show lookB i ob' = _ from ho _ _ hl]
      exact h
    · exact h.elim
  · rename_i i t' j off v
    split at h
    · rename_i s t2 d l hl
      rw [show lookB i ob' = _ from ho _ _ hl]
      simp only
      split at h
      · rename_i ht
        rw [dif_pos ht]
        refine Tr.LeT.guard (and_mono (and_mono (and_mono (and_mono (and_mono (and_mono (valid_mono ho))))))) ?_ u h
        intro u h
        split at h
        · exact h
        · exact Tr.LeT.orN (fun y hy => hi _ _ _ _ _ ho hy) (fun y => Tr.LeT.refl _) u h
      · exact h.elim
    · rename_i s t2 c te d sv l hh hl
      rw [show lookB i ob' = _ from ho _ _ hl]
      simp only
      have hsl : ∀ (m : List (S.T te)) (k : Option Nat) (l : List (S.T t')), Tr.LeT (storeSl ob fr i s t' c te d l hh j off v.cells m k) (storeSl ob' fr i s t' c te d l hh j off v.cells m k) := fun m k l => Tr.LeT.orN (fun y hy => hi _ _ _ _ _ ho hy) fun y => Tr.LeT.refl _
      split at h
      · rename_i ht
        rw [dif_pos ht]
        refine Tr.LeT.guard (and_mono (and_mono (and_mono (and_mono (and_mono (and_mono (valid_mono ho))))))) ?_ u h
        intro u h
        cases hb : Nat.ble (off + S.sz t) c || Nat.blt c off with
        | true => rw [hb] at h; exact h
        | false =>
          rw [hb] at h
          simp only [cond_false] at h ⊢
          split at h
          · exact hsl _ _ _ u h
          · rename_i k hc
            split at h
            · rename_i hk
              rw [show lookB k ob' = _ from ho _ _ hk]
              simp only
              split at h
              · rename_i h3
                rw [dif_pos h3]
                exact Tr.LeT.guard (fun hq => by
                  simp only [Bool.and_eq_true] at hq ⊢
                  exact ⟨hq.1, valid_mono ho hq.2⟩) (hsl _ _ _) u h
              · exact h.elim
            · exact h.elim
          · exact h.elim
      · exact h.elim
    · exact h.elim
  · split at h
    · rename_i hl
      rw [lookS_mono ho hl]
      exact Tr.LeT.guard (fun h => h) (Tr.LeT.orN (fun y hy => hi _ _ _ _ _ ho hy) fun y => Tr.LeT.refl _) u h
    · exact h.elim
  · exact h.elim
theorem isSome_mono {ob ob' : Ob S.T} (ho : LeO ob ob') {i sv : Nat} (h : (lookS i sv ob).isSome = true) : (lookS i sv ob').isSome = true := by
  obtain ⟨v, hv⟩ := Option.isSome_iff_exists.1 h
  rw [lookS_mono ho hv]
  rfl
theorem fieldAddrX_mono {ob ob' : Ob S.T} (ho : LeO ob ob') (t : TypeId) (a : SX S.T) (f : Nat) : Tr.LeT (fieldAddrX ob t a f) (fieldAddrX ob' t a f) := by
  intro u h
  unfold fieldAddrX at h ⊢
  split at h
  · exact h
  · exact h
  · exact Tr.LeT.guard (valid_mono ho) (Tr.LeT.refl _) u h
  · exact Tr.LeT.guard (isSome_mono ho) (Tr.LeT.refl _) u h
  · exact h.elim
theorem indexAddrX_mono {ob ob' : Ob S.T} (ho : LeO ob ob') (t : TypeId) (a ix : SX S.T) : Tr.LeT (indexAddrX ob t a ix) (indexAddrX ob' t a ix) := by
  intro u h
  unfold indexAddrX at h ⊢
  split at h
  · rename_i i k j
    split at h
    · rename_i s t' d l hl
      rw [show lookB i ob' = _ from ho _ _ hl]
      exact h
    · rename_i hl
      rw [show lookB i ob' = _ from ho _ _ hl]
      exact h
    · exact h.elim
  · rename_i i n k j
    split at h
    · rename_i hl
      rw [lookR_mono ho hl]
      exact h
    · exact h.elim
  · refine Tr.LeT.orN (fun _ hx => hx) (fun e => Tr.LeT.guard (fun h => h) ?_) u h
    intro u h
    split at h
    · rename_i ht
      rw [dif_pos ht]
      exact Tr.LeT.guard (valid_mono ho) (Tr.LeT.refl _) u h
    · exact h.elim
  · split at h
    · rename_i hl
      rw [lookS_mono ho hl]
      exact h
    · exact h.elim
  · exact h.elim
theorem sliceX_mono {ob ob' : Ob S.T} (ho : LeO ob ob') (t : TypeId) (a : SX S.T) (lo hi mx : Option (SX S.T)) : Tr.LeT (sliceX ob t a lo hi mx) (sliceX ob' t a lo hi mx) := by
  intro u h
  unfold sliceX at h ⊢
  split at h
  · exact h
  · rename_i i k n
    refine Tr.LeT.guard (fun h => h) ?_ u h
    intro u h
    split at h
    · rename_i hl
      rw [lookR_mono ho hl]
      exact h
    · exact h.elim
  · unfold tailX at h ⊢
    exact Tr.LeT.orN (fun _ hx => hx) (fun e => Tr.LeT.guard (fun h => h) (Tr.LeT.orN (fun p hp => asList_mono ho hp) fun p => Tr.LeT.refl _)) u h
  · exact Tr.LeT.orN (fun _ hx => hx) (fun e => Tr.LeT.guard (fun h => h) (Tr.LeT.orN (fun p hp => asList_mono ho hp) fun p => Tr.LeT.refl _)) u h
  · exact h.elim
theorem lenX_mono {ob ob' : Ob S.T} (ho : LeO ob ob') (t : TypeId) (a : SX S.T) : Tr.LeT (lenX ob t a) (lenX ob' t a) := by
  intro u h
  unfold lenX at h ⊢
  split at h
  · exact h
  · refine Tr.LeT.guard (fun h => h) ?_ u h
    intro u h
    split at h
    · exact h
    · exact Tr.LeT.guard (valid_mono ho) (Tr.LeT.refl _) u h
    · exact h
    · split at h
      · rename_i hl
        rw [show lookB _ ob' = _ from ho _ _ hl]
        exact h
      · rename_i hl
        rw [show lookB _ ob' = _ from ho _ _ hl]
        exact h
      · exact h.elim
    · split at h
      · rename_i hl
        rw [lookS_mono ho hl]
        exact h
      · exact h.elim
    · split at h
      · rename_i hl
        rw [asList_mono ho hl]
        exact h
      · exact h.elim
    · exact h.elim
  · exact h.elim
theorem baseX_mono {ob ob' : Ob S.T} (ho : LeO ob ob') {e : TypeId} {c : SC S.T} {p : List (S.T e) × Dp} (h : baseX ob e c = some p) : baseX ob' e c = some p := by
  unfold baseX at h ⊢
  cases c with
  | nil => exact h
  | z0 => exact h
  | row i =>
    simp only at h ⊢
    split at h
    · rename_i hl
      rw [lookR_mono ho hl]
      exact h
    · cases h
  | cut i n =>
    simp only at h ⊢
    split at h
    · rename_i hl
      rw [lookR_mono ho hl]
      exact h
    · cases h
  | _ => cases h
theorem baseD_mono {ob ob' : Ob S.T} (ho : LeO ob ob') {e : TypeId} {c : Nat} {te : TypeId} {x : SC S.T} {p : List (S.T e) × Dp} (h : baseD ob e c te x = some p) : baseD ob' e c te x = some p := by
  unfold baseD at h ⊢
  cases x with
  | nil => exact h
  | z0 => exact h
  | row i =>
    simp only at h ⊢
    split at h
    · rename_i hl
      rw [lookD_mono ho hl]
      exact h
    · cases h
  | cut i n =>
    simp only at h ⊢
    split at h
    · rename_i hl
      rw [lookD_mono ho hl]
      exact h
    · cases h
  | _ => cases h
theorem isDeep_eq {ob ob' : Ob S.T} (ho : LeO ob ob') {i : Nat} (h : ∃ x, ob i = some x) : isDeep ob' i = isDeep ob i := by
  obtain ⟨x, hx⟩ := h
  unfold isDeep lookB
  rw [hx, ho _ _ hx]
theorem testA_eq {ob ob' : Ob S.T} (ho : LeO ob ob') {e : TypeId} {s x : SC S.T} {p : List (S.T e) × Dp} (hp : baseX ob e s = some p) {q : List (S.T e) × Dp} (hq : asList S.ax ob e x = some q) : testA ob' s x = testA ob s x := by
  have hx : ∀ k, x = .row k → isDeep ob' k = isDeep ob k := by
    rintro k rfl
    simp only [asList] at hq
    split at hq
    · rename_i hl; exact isDeep_eq ho (lookR_alive hl)
    · cases hq
  have hs1 : ∀ k, s = .row k → isDeep ob' k = isDeep ob k := by
    rintro k rfl
    simp only [baseX] at hp
    split at hp
    · rename_i hl; exact isDeep_eq ho (lookR_alive hl)
    · cases hp
  have hs2 : ∀ k n, s = .cut k n → isDeep ob' k = isDeep ob k := by
    rintro k n rfl
    simp only [baseX] at hp
    split at hp
    · rename_i hl; exact isDeep_eq ho (lookR_alive hl)
    · cases hp
  clear hp hq
  unfold testA
  cases x with
  | row k =>
    simp only [hx k rfl]
    cases s with
    | row j => simp only [hs1 j rfl]
    | cut j n => simp only [hs2 j n rfl]
    | _ => rfl
  | _ => rfl
theorem testA_mono {ob ob' : Ob S.T} (ho : LeO ob ob') {s x : SC S.T} (h : testA ob s x = true) : testA ob' s x = true := by
  have key : ∀ i, isDeep ob i = true → isDeep ob' i = true := by
    intro i hi
    have : ∃ y, ob i = some y := by
      unfold isDeep at hi
      split at hi
      · rename_i hl; exact ⟨_, hl⟩
      · cases hi
    rw [isDeep_eq ho this]; exact hi
  unfold testA at h ⊢
  simp only [Bool.and_eq_true] at h ⊢
  refine ⟨?_, ?_⟩
  · cases x with
    | row k => exact key k h.1
    | _ => exact h.1
  · cases s with
    | row k => exact key k h.2
    | cut k n => exact key k h.2
    | _ => exact h.2
theorem appendD_mono {ob ob' : Ob S.T} (ho : LeO ob ob') (fr : Nat) (e : TypeId) (s x : SC S.T) : Tr.LeT (appendD ob fr e s x) (appendD ob' fr e s x) := by
  refine Tr.LeT.orN (fun _ h => h) fun ct => Tr.LeT.orN (fun p hp => baseD_mono ho hp) fun p => ?_
  split
  · refine Tr.LeT.orN (fun q hq => baseD_mono ho hq) fun q => Tr.LeT.guard (fun h => h) (Tr.LeT.guard (fun h => ?_) (Tr.LeT.refl _))
    simp only [Bool.and_eq_true] at h ⊢
    exact ⟨valid_mono ho h.1, valid_mono ho h.2⟩
  · exact Tr.LeT.none
theorem appendS_mono {ob ob' : Ob S.T} (ho : LeO ob ob') (fr i sv : Nat) (j : Int) (e : TypeId) (x : SC S.T) : Tr.LeT (appendS ob fr i sv j e x) (appendS ob' fr i sv j e x) := by
  intro u h
  unfold appendS at h ⊢
  split at h
  · rename_i hl
    rw [lookS_mono ho hl]
    simp only
    split at h
    · rename_i ht
      rw [dif_pos ht]
      exact Tr.LeT.orN (fun q hq => asList_mono ho hq) (fun q => Tr.LeT.refl _) u h
    · exact h.elim
  · exact h.elim
theorem appendX_mono {ob ob' : Ob S.T} (ho : LeO ob ob') (fr : Nat) (t t2 : TypeId) (s x : SX S.T) : Tr.LeT (appendX ob fr t t2 s x) (appendX ob' fr t t2 s x) := by
  refine Tr.LeT.orN (fun _ h => h) fun e => Tr.LeT.guard (fun h => h) ?_
  split
  · exact appendS_mono ho _ _ _ _ _ _
  · rename_i s x _
    intro u h
    cases ht : testA ob s x with
    | true =>
      rw [ht] at h
      rw [testA_mono ho ht]
      exact appendD_mono ho _ _ _ _ u h
    | false =>
      rw [ht] at h
      simp only [cond_false] at h
      obtain ⟨p, hp, h1⟩ := can_or h
      obtain ⟨q, hq, h2⟩ := can_or h1
      rw [testA_eq ho hp hq, ht]
      exact Tr.LeT.orN (fun p hp => baseX_mono ho hp) (fun p => Tr.LeT.orN (fun q hq => asList_mono ho hq) fun q => Tr.LeT.guard (fun h => h) (Tr.LeT.guard (valid_mono ho) (Tr.LeT.refl _))) u h
  · exact Tr.LeT.none
theorem litD_mono (hi : InnMono0 S) {ob ob' : Ob S.T} (ho : LeO ob ob') {t : TypeId} {c : Nat} {te : TypeId} : ∀ {l : List (List (SC S.T))} {p : List (S.T t) × Dp × List Nat}, litD ob t c te l = some p → litD ob' t c te l = some p
  | [], p, h => h
  | cs :: r, p, h => by
    simp only [litD] at h ⊢
    obtain ⟨p1, h1, h⟩ := Option.bind_eq_some_iff.1 h
    obtain ⟨q, h2, h⟩ := Option.bind_eq_some_iff.1 h
    rw [hi _ _ _ _ _ ho h1, litD_mono hi ho h2]
    simp only [Option.bind_some]
    split at h
    · exact h
    · rename_i k hc
      split at h
      · rename_i hk
        rw [show lookB k ob' = _ from ho _ _ hk]
        simp only
        split at h
        · rename_i ht
          rw [dif_pos ht]
          obtain ⟨hb, h⟩ := bif_some h
          simp only [Bool.and_eq_true] at hb
          rw [hb.1, valid_mono ho hb.2]
          exact h
        · cases h
      · cases h
    · cases h
theorem litTest_mono {ob ob' : Ob S.T} (ho : LeO ob ob') {e : TypeId} {css : List (List (SC S.T))} (h : litTest ob e css = true) : litTest ob' e css = true := by
  unfold litTest at h ⊢
  split at h
  · cases h
  · rename_i ct hct
    simp only [Bool.and_eq_true] at h ⊢
    refine ⟨h.1, List.all_eq_true.2 fun cs hcs => ?_⟩
    have := List.all_eq_true.1 h.2 cs hcs
    split at this
    · rfl
    · rename_i k hc
      split at this
      · rename_i hk; rw [show lookB k ob' = _ from ho _ _ hk]; exact this
      · cases this
    · cases this
theorem litTest_eq (ha : InnAlive S) {ob ob' : Ob S.T} (ho : LeO ob ob') {e : TypeId} {css : List (List (SC S.T))} {p : List (S.T e) × Dp} (hp : innAll S e ob css = some p) : litTest ob' e css = litTest ob e css := by
  unfold litTest
  split
  · rfl
  · rename_i ct hct
    congr 1
    have hal : ∀ (css : List (List (SC S.T))) p, innAll S e ob css = some p → ∀ cs, cs ∈ css → ∀ k, cs[ct.1]? = some (.row k) → ∃ x, ob k = some x := by
      intro css
      induction css with
      | nil => intro p _ cs hcs; cases hcs
      | cons c r ih =>
        intro p hp cs hcs k hk
        simp only [innAll] at hp
        split at hp
        · rename_i x d l d' h1 h2
          rcases List.mem_cons.1 hcs with rfl | hcs
          · exact ha _ ct.1 ct.2 _ _ _ _ hct hk h1
          · exact ih _ h2 cs hcs k hk
        · cases hp
    have hal := hal css p hp
    have hall : ∀ (l : List (List (SC S.T))) (f g : List (SC S.T) → Bool), (∀ x, x ∈ l → f x = g x) → l.all f = l.all g := by
      intro l f g h
      induction l with
      | nil => rfl
      | cons x r ih => rw [List.all_cons, List.all_cons, h x List.mem_cons_self, ih fun y hy => h y (List.mem_cons_of_mem _ hy)]
    refine hall _ _ _ fun cs hcs => ?_
    split
    · rfl
    · rename_i k hc
      obtain ⟨x, hx⟩ := hal cs hcs k hc
      unfold lookB
      rw [hx, ho _ _ hx]
    · rfl
theorem innAll_mono (hi : InnMono0 S) {ob ob' : Ob S.T} (ho : LeO ob ob') {t : TypeId} : ∀ {l : List (List (SC S.T))} {p : List (S.T t) × Dp}, innAll S t ob l = some p → innAll S t ob' l = some p
  | [], p, h => h
  | c :: r, p, h => by
    simp only [innAll] at h ⊢
    split at h
    · rename_i x d l d' h1 h2
      rw [hi _ _ _ _ _ ho h1, innAll_mono hi ho h2]
      exact h
    · cases h
theorem nilCheckX_mono {ob ob' : Ob S.T} (ho : LeO ob ob') (x : SX S.T) : Tr.LeT (nilCheckX ob x) (nilCheckX ob' x) := by
  intro u h
  unfold nilCheckX at h ⊢
  split at h
  · exact h
  · exact h
  · exact Tr.LeT.guard (valid_mono ho) (Tr.LeT.refl _) u h
  · exact Tr.LeT.guard (isSome_mono ho) (Tr.LeT.refl _) u h
  · exact h
  · exact h.elim
theorem zero3_mono {ob ob' : Ob S.T} (ho : LeO ob ob') (t : TypeId) (a h m : SX S.T) : Tr.LeT (zero3 ob t a h m) (zero3 ob' t a h m) := by
  intro u g
  unfold zero3 at g ⊢
  split at g
  · refine Tr.LeT.guard (fun h => h) ?_ u g
    intro u g
    split at g
    · exact g
    · exact Tr.LeT.orN (fun _ h => h) (fun e => Tr.LeT.guard (fun h => h) (Tr.LeT.orN (fun p hp => asList_mono ho hp) fun p => Tr.LeT.refl _)) u g
    · exact g.elim
  · exact g.elim
theorem sliceOpX_mono {ob ob' : Ob S.T} (ho : LeO ob ob') (t : TypeId) (lo hi mx : Option Operand) (xs : List (SX S.T)) : Tr.LeT (sliceOpX ob t lo hi mx xs) (sliceOpX ob' t lo hi mx xs) := by
  unfold sliceOpX
  split
  · exact sliceX_mono ho _ _ _ _ _
  · exact sliceX_mono ho _ _ _ _ _
  · exact sliceX_mono ho _ _ _ _ _
  · exact sliceX_mono ho _ _ _ _ _
  · exact zero3_mono ho _ _ _ _
  · exact Tr.LeT.none
theorem copyR_mono {ob ob' : Ob S.T} (ho : LeO ob ob') (fr i : Nat) (e : TypeId) (n : Nat) (q : List (S.T e)) : Tr.LeT (copyR ob fr i e n q) (copyR ob' fr i e n q) := by
  intro u h
  unfold copyR at h ⊢
  split at h
  · rename_i s t d l hl
    rw [show lookB _ ob' = _ from ho _ _ hl]
    simp only
    split at h
    · rename_i ht
      rw [dif_pos ht]
      exact Tr.LeT.guard (valid_mono ho) (Tr.LeT.refl _) u h
    · exact h.elim
  · exact h.elim
theorem copyS_mono {ob ob' : Ob S.T} (ho : LeO ob ob') (fr i sv : Nat) (j : Int) (e : TypeId) (q : List (S.T e)) : Tr.LeT (copyS ob fr i sv j e q) (copyS ob' fr i sv j e q) := by
  intro u h
  unfold copyS at h ⊢
  split at h
  · rename_i hl
    rw [lookS_mono ho hl]
    exact h
  · exact h.elim
theorem copyX_mono {ob ob' : Ob S.T} (ho : LeO ob ob') (fr : Nat) (t t2 : TypeId) (a x : SX S.T) : Tr.LeT (copyX ob fr t t2 a x) (copyX ob' fr t t2 a x) := by
  unfold copyX
  refine Tr.LeT.orN (fun _ hx => hx) fun e => Tr.LeT.guard (fun h => h) ?_
  split
  · refine Tr.LeT.orN (fun p hp => asList_mono ho hp) fun p => ?_
    split
    · exact copyR_mono ho _ _ _ _ _
    · exact Tr.LeT.guard (fun h => h) (copyR_mono ho _ _ _ _ _)
    · exact copyS_mono ho _ _ _ _ _ _
    · exact Tr.LeT.none
  · exact Tr.LeT.none
theorem builtinX_mono {ob ob' : Ob S.T} (ho : LeO ob ob') (b : Builtin) (ts : Array TypeId) (xs : List (SX S.T)) (fr : Nat) : Tr.LeT (builtinX b ts xs ob fr) (builtinX b ts xs ob' fr) := by
  unfold builtinX
  split
  · exact lenX_mono ho _ _
  · exact appendX_mono ho _ _ _ _ _
  · exact copyX_mono ho _ _ _ _ _
  · exact Tr.LeT.refl _
  · exact Tr.LeT.refl _
  · exact Tr.LeT.none
theorem binopO_mono {ob ob' : Ob S.T} (ho : LeO ob ob') (op : BinOp) (t : TypeId) (x y : SX S.T) : Tr.LeT (binopO ob op t x y) (binopO ob' op t x y) := by
  have key : ∀ neg, Tr.LeT (nilEqX ob t x neg) (nilEqX ob' t x neg) := by
    intro neg
    refine Tr.LeT.orN (fun _ h => h) fun e => ?_
    split
    · exact Tr.LeT.refl _
    · exact Tr.LeT.orN (fun p hp => asList_mono ho hp) fun p => Tr.LeT.refl _
    · exact Tr.LeT.refl _
  have key2 : ∀ neg, Tr.LeT (nilPtrX ob t x neg) (nilPtrX ob' t x neg) := by
    intro neg
    refine Tr.LeT.guard (fun h => h) ?_
    split
    · exact Tr.LeT.refl _
    · exact Tr.LeT.refl _
    · exact Tr.LeT.refl _
    · exact Tr.LeT.guard (valid_mono ho) (Tr.LeT.refl _)
    · exact Tr.LeT.refl _
  unfold binopO
  split
  · exact key _
  · exact key _
  · exact key2 _
  · exact key2 _
  · exact Tr.LeT.refl _
theorem lookupX_mono {ob ob' : Ob S.T} (ho : LeO ob ob') (t : TypeId) (m x : SX S.T) : Tr.LeT (lookupX ob t m x) (lookupX ob' t m x) := by
  intro u h
  unfold lookupX at h ⊢
  split at h
  · split at h
    · rename_i hl
      rw [show lookB _ ob' = _ from ho _ _ hl]
      exact h
    · exact h.elim
  · exact h.elim
theorem mapUpdX_mono {ob ob' : Ob S.T} (ho : LeO ob ob') (fr : Nat) (t : TypeId) (m x v : SX S.T) : Tr.LeT (mapUpdX ob fr t m x v) (mapUpdX ob' fr t m x v) := by
  intro u h
  unfold mapUpdX at h ⊢
  split at h
  · split at h
    · rename_i hl
      rw [show lookB _ ob' = _ from ho _ _ hl]
      exact h
    · exact h.elim
  · exact h.elim
theorem buildSliceX_mono (hh : InnMono S) {ob ob' : Ob S.T} (ho : LeO ob ob') (fr : Nat) (t : TypeId) (n : Nat) (is : List Nat) (xs : List (SX S.T)) : Tr.LeT (buildSliceX ob fr t n is xs) (buildSliceX ob' fr t n is xs) := by
  have hi := hh.1
  have ha := hh.2
  refine Tr.LeT.orN (fun _ h => h) fun e => Tr.LeT.guard (fun h => h) ?_
  intro u h
  cases ht : litTest ob e (xs.map cellsOf) with
  | true =>
    rw [ht] at h
    rw [litTest_mono ho ht]
    exact Tr.LeT.orN (fun _ h => h) (fun ct => Tr.LeT.orN (fun p hp => litD_mono hi ho hp) fun p => Tr.LeT.refl _) u h
  | false =>
    rw [ht] at h
    simp only [cond_false] at h
    obtain ⟨p, hp, _⟩ := can_or h
    rw [litTest_eq ha ho hp, ht]
    exact Tr.LeT.orN (fun p hp => innAll_mono hi ho hp) (fun p => Tr.LeT.refl _) u h
theorem sem_mono (hh : InnMono S) {ob ob' : Ob S.T} (ho : LeO ob ob') (o : Oper) (xs : List (SX S.T)) (fr : Nat) : Tr.LeT (sem o xs ob fr) (sem o xs ob' fr) := by
  have hi := hh.1
  have ha := hh.2
  unfold sem
  split
  all_goals first
    | exact Tr.LeT.refl _
    | exact loadX_mono ho _ _
    | exact storeX_mono hi ho _ _ _ _
    | exact nilCheckX_mono ho _
    | exact fieldAddrX_mono ho _ _ _
    | exact indexAddrX_mono ho _ _ _
    | exact sliceOpX_mono ho _ _ _ _ _
    | exact binopO_mono ho _ _ _ _
    | exact lookupX_mono ho _ _ _
    | exact mapUpdX_mono ho _ _ _ _ _
    | exact buildSliceX_mono hh ho _ _ _ _ _
    | skip
  ·
    refine Tr.LeT.orN (fun _ h => h) fun e => Tr.LeT.orN (fun _ h => h) fun d => Tr.LeT.guard (fun h => h) ?_
    split
    · exact Tr.LeT.orN (fun p hp => hi _ _ _ _ _ ho hp) fun p => Tr.LeT.refl _
    · exact Tr.LeT.none
  ·
    unfold callX
    split
    · exact builtinX_mono ho _ _ _ _
    · exact Tr.LeT.none
theorem toAC_mono {ob ob' : Ob S.T} (ho : LeO ob ob') {c : SC S.T} {p : AC S.T × Dp} (h : toAC ob c = some p) : toAC ob' c = some p := by
  unfold toAC at h ⊢
  split at h
  · obtain ⟨q, hq, rfl⟩ := Option.map_eq_some_iff.1 h
    rw [asList_mono ho hq]; rfl
  · rename_i i
    split at h
    · rename_i hl
      rw [lookR_mono ho hl]
      simp only
      obtain ⟨q, hq, rfl⟩ := Option.map_eq_some_iff.1 h
      rw [asList_mono ho hq]; rfl
    · cases h
  · rename_i i n
    split at h
    · rename_i hl
      rw [lookR_mono ho hl]
      simp only
      obtain ⟨q, hq, rfl⟩ := Option.map_eq_some_iff.1 h
      rw [asList_mono ho hq]; rfl
    · cases h
  · split at h
    · rename_i hl
      rw [lookS_mono ho hl]
      simp only
      obtain ⟨q, hq, rfl⟩ := Option.map_eq_some_iff.1 h
      rw [asList_mono ho hq]; rfl
    · cases h
  · obtain ⟨q, hq, rfl⟩ := Option.map_eq_some_iff.1 h
    rw [asList_mono ho hq]; rfl
  · exact h
theorem toACs_mono {ob ob' : Ob S.T} (ho : LeO ob ob') : ∀ {cs : List (SC S.T)} {p : List (AC S.T) × Dp}, toACs ob cs = some p → toACs ob' cs = some p
  | [], p, h => h
  | c :: r, p, h => by
    simp only [toACs] at h ⊢
    split at h
    · rename_i x d l d' h1 h2
      rw [toAC_mono ho h1, toACs_mono ho h2]
      exact h
    · cases h
theorem toAV_mono {ob ob' : Ob S.T} (ho : LeO ob ob') {c : SX S.T} {p : AV S.T × Dp} (h : toAV ob c = some p) : toAV ob' c = some p := by
  unfold toAV at h ⊢
  split at h
  · obtain ⟨q, hq, rfl⟩ := Option.map_eq_some_iff.1 h
    rw [toAC_mono ho hq]; rfl
  · obtain ⟨q, hq, rfl⟩ := Option.map_eq_some_iff.1 h
    rw [toACs_mono ho hq]; rfl
  · cases h
theorem toAVs_mono {ob ob' : Ob S.T} (ho : LeO ob ob') : ∀ {cs : List (SX S.T)} {p : List (AV S.T) × Dp}, toAVs ob cs = some p → toAVs ob' cs = some p
  | [], p, h => h
  | c :: r, p, h => by
    simp only [toAVs] at h ⊢
    split at h
    · rename_i x d l d' h1 h2
      rw [toAV_mono ho h1, toAVs_mono ho h2]
      exact h
    · cases h
theorem useCon_mono {ob ob' : Ob S.T} (ho : LeO ob ob') (g : Con S) (xs : List (SX S.T)) (fr : Nat) : Tr.LeT (useCon g xs ob fr) (useCon g xs ob' fr) :=
  Tr.LeT.orN (fun p hp => toAVs_mono ho hp) fun p => Tr.LeT.refl _
end
section
variable {B : Tbl} {P : Program}
theorem inn_mono0 : InnMono0 (Sg B P) := by
  have key : ∀ (y : Ty) (ob ob' : Ob (TT B)) cs p, LeO ob ob' → innT B P ob y cs = some p → innT B P ob' y cs = some p := by
    intro y
    induction y with
    | nil => intro ob ob' cs p ho h; cases cs <;> exact h
    | int k r ih =>
      intro ob ob' cs p ho h
      cases cs with
      | nil => cases h
      | cons c cs =>
        cases c with
        | int k' n =>
          simp only [innT] at h ⊢
          obtain ⟨h1, h2⟩ := bif_some h
          obtain ⟨q, hq, rfl⟩ := Option.map_eq_some_iff.1 h2
          rw [h1, ih _ _ _ _ ho hq]; rfl
        | _ => cases h
    | bool r ih =>
      intro ob ob' cs p ho h
      cases cs with
      | nil => cases h
      | cons c cs =>
        cases c with
        | bool b =>
          simp only [innT] at h ⊢
          obtain ⟨q, hq, rfl⟩ := Option.map_eq_some_iff.1 h
          rw [ih _ _ _ _ ho hq]; rfl
        | _ => cases h
    | str r ih =>
      intro ob ob' cs p ho h
      cases cs with
      | nil => cases h
      | cons c cs =>
        cases c with
        | str b =>
          simp only [innT] at h ⊢
          obtain ⟨q, hq, rfl⟩ := Option.map_eq_some_iff.1 h
          rw [ih _ _ _ _ ho hq]; rfl
        | _ => cases h
    | ref r ih => intro ob ob' cs p ho h; cases cs <;> cases h
    | sl t e r ihe ih =>
      intro ob ob' cs p ho h
      cases cs with
      | nil => cases h
      | cons c cs =>
        simp only [innT] at h ⊢
        obtain ⟨q, hq, h⟩ := Option.bind_eq_some_iff.1 h
        rw [asList_mono ho hq]
        simp only [Option.bind_some]
        split at h
        · rename_i hb
          rw [dif_pos hb]
          obtain ⟨q2, hq2, rfl⟩ := Option.map_eq_some_iff.1 h
          rw [ih _ _ _ _ ho hq2]; rfl
        · cases h
  exact fun t ob ob' cs p ho h => key _ ob ob' cs p ho h
theorem innT_alive {te : TypeId} {ob : Ob (TT B)} {k : Nat} : ∀ {y : Ty} {c n : Nat} {cs : List (SC (TT B))} {p : y.den × Dp}, xcT B y n = some (n + c, te) → cs[c]? = some (.row k) → innT B P ob y cs = some p → ∃ x, ob k = some x
  | .nil, _, _, _, _, h, _, _ => by cases h
  | _, _, _, [], _, _, h, _ => by simp at h
  | .int k' r, c, n, x :: cs, p, h, hc, hi => by
    cases x with
    | int k2 m =>
      cases c with
      | zero => simp at hc
      | succ c =>
        simp only [innT] at hi
        obtain ⟨_, hi⟩ := bif_some hi
        obtain ⟨q, hq, rfl⟩ := Option.map_eq_some_iff.1 hi
        exact innT_alive (y := r) (c := c) (n := n + 1) (by rw [Nat.add_right_comm]; exact h) (by simpa using hc) hq
    | _ => cases hi
  | .bool r, c, n, x :: cs, p, h, hc, hi => by
    cases x with
    | bool b =>
      cases c with
      | zero => simp at hc
      | succ c =>
        simp only [innT] at hi
        obtain ⟨q, hq, rfl⟩ := Option.map_eq_some_iff.1 hi
        exact innT_alive (y := r) (c := c) (n := n + 1) (by rw [Nat.add_right_comm]; exact h) (by simpa using hc) hq
    | _ => cases hi
  | .str r, c, n, x :: cs, p, h, hc, hi => by
    cases x with
    | str b =>
      cases c with
      | zero => simp at hc
      | succ c =>
        simp only [innT] at hi
        obtain ⟨q, hq, rfl⟩ := Option.map_eq_some_iff.1 hi
        exact innT_alive (y := r) (c := c) (n := n + 1) (by rw [Nat.add_right_comm]; exact h) (by simpa using hc) hq
    | _ => cases hi
  | .ref r, c, n, x :: cs, p, h, hc, hi => by cases hi
  | .sl t e r, c, n, x :: cs, p, h, hc, hi => by
    simp only [innT] at hi
    obtain ⟨q, hq, hi⟩ := Option.bind_eq_some_iff.1 hi
    split at hi
    · obtain ⟨q2, hq2, rfl⟩ := Option.map_eq_some_iff.1 hi
      cases c with
      | zero =>
        simp at hc
        subst hc
        simp only [asList] at hq
        split at hq
        · rename_i hl; exact lookR_alive hl
        · cases hq
      | succ c =>
        simp only [xcT] at h
        split at h
        · rename_i p' hp'
          cases h
          exact innT_alive (y := r) (c := c) (n := n + 1) (by rw [Nat.add_right_comm]; exact hp') (by simpa using hc) hq2
        · cases hb : Ty.beq e (tyOf B t) && e.flat with
          | false => rw [hb] at h; cases h
          | true =>
            rw [hb] at h
            simp only [cond_true, Option.some.injEq, Prod.mk.injEq] at h
            omega
    · cases hi
theorem inn_alive : InnAlive (Sg B P) := fun t c te ob cs p k h hc hi => innT_alive (y := tyOf B t) (c := c) (n := 0) (by rw [Nat.zero_add]; exact h) hc hi
theorem inn_mono : InnMono (Sg B P) := ⟨inn_mono0, inn_alive⟩
end
end Go.Proofs.Ytheemkehedmlfaa.E
