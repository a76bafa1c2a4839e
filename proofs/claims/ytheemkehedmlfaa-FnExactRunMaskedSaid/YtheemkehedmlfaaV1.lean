import Derived.Test.YtheemkehedmlfaaU0
import Derived.Lib.SmallJoins
import Derived.ChangeOld
import Derived.Deep.Fields
import Derived.Deep.Slices
set_option linter.unusedVariables false
set_option linter.unusedSimpArgs false
namespace Go.Proofs.Ytheemkehedmlfaa.E
open Go Go.Joins Go.ChangeShapes Go.WideShapes Go.RowKit Go.Deep
def okT : (y : Ty) → y.den → Prop
  | .nil, _ => True
  | .int k r, x => (Lit.int k (hd r x)).wf = true ∧ okT r (tl r x)
  | .bool r, x => okT r (tl r x)
  | .str r, x => (hd r x).size ≤ maxLen ∧ okT r (tl r x)
  | .ref r, x => okT r (tl r x)
  | .sl t e r, x => ((hd r x).length ≤ maxLen ∧ ∀ z, z ∈ hd r x → okT e z) ∧ okT r (tl r x)
def SeqT {H : Type} (enc : TypeId × Value → H) (P : Program) (w : World) (base : Nat) (spare : Nat → Bool) (held : Bool) : List TypeId → List Value → Prop
  | [], cs => cs = []
  | t :: l, cs => ∃ c0 c1, cs = c0 ++ c1 ∧ (∃ fuel x, DataW.trod enc P w base spare held fuel t c0 = some x) ∧ SeqT enc P w base spare held l c1
theorem SeqT.app {H : Type} {enc : TypeId × Value → H} {P : Program} {w : World} {base : Nat} {spare : Nat → Bool} {held : Bool} : ∀ {l m : List TypeId} {c d : List Value}, SeqT enc P w base spare held l c → SeqT enc P w base spare held m d → SeqT enc P w base spare held (l ++ m) (c ++ d)
  | [], m, c, d, h, k => by have h : c = [] := h; subst h; exact k
  | t :: l, m, c, d, ⟨c0, c1, e, h1, h2⟩, k => ⟨c0, c1 ++ d, by rw [e, List.append_assoc], h1, h2.app k⟩
def laidT (P : Program) : Nat → List Field → Bool
  | _, [] => true
  | o, f :: fs => f.offset == o && laidT P (o + P.cellsOf f.type) fs
def sumC (P : Program) : List Field → Nat
  | [] => 0
  | f :: r => P.cellsOf f.type + sumC P r
def partsB (P : Program) : Nat → List TypeId → Ty → Bool
  | 0, _, _ => false
  | n + 1, [], y => match y with | .nil => true | _ => false
  | n + 1, t :: l, y => match P.underlying t with
    | some (.struct fs) => laidT P 0 fs.toList && Nat.beq (P.cellsOf t) (sumC P fs.toList) && partsB P n (fs.toList.map (·.type) ++ l) y
    | some (.int k) => (match y with | .int k' r => kbeq k k' && partsB P n l r | _ => false)
    | some .bool => (match y with | .bool r => partsB P n l r | _ => false)
    | some .string => (match y with | .str r => partsB P n l r | _ => false)
    | some (.slice e) => (match y with | .sl e' z r => Nat.beq (P.cellsOf e) z.size && Nat.blt 0 z.size && partsB P n [e] z && partsB P n l r | _ => false)
    | _ => false
theorem list_ofT {α : Type} {p : Nat → α → Prop} : ∀ n : Nat, (∀ i, i < n → ∃ y, p i y) → ∃ l : List α, l.length = n ∧ ∀ i y, l[i]? = some y → p i y
  | 0, _ => ⟨[], rfl, fun i y h => by simp at h⟩
  | n + 1, h => by
    obtain ⟨l, hl, hp⟩ := list_ofT n (fun i hi => h i (by omega))
    obtain ⟨y, hy⟩ := h n (by omega)
    refine ⟨l ++ [y], by simp [hl], fun i z hz => ?_⟩
    by_cases hi : i < n
    · rw [List.getElem?_append_left (by omega)] at hz; exact hp i z hz
    · have : i = n := by
        have := (List.getElem?_eq_some_iff.1 hz).1
        simp at this; omega
      subst this
      rw [← hl] at hz
      have : y = z := by simpa using hz
      exact this ▸ hy
theorem reps_of {α : Type} {R : α → List Value → Prop} {sz : Nat} {w : World} {g : Nat} : ∀ (l : List α) (o : Nat), (∀ i y, l[i]? = some y → ∃ c, c.length = sz ∧ R y c ∧ ∀ j u, c[j]? = some u → ∃ cur t fr, w.heap[g]? = some (.cells cur t fr) ∧ cur[o + i * sz + j]? = some u) →
    ∃ cs, reps R sz l cs ∧ cs.length = l.length * sz ∧ ∀ j u, cs[j]? = some u → ∃ cur t fr, w.heap[g]? = some (.cells cur t fr) ∧ cur[o + j]? = some u
  | [], o, _ => ⟨[], rfl, by simp, fun j u h => by simp at h⟩
  | x :: l, o, h => by
    obtain ⟨c, h1, h2, h3⟩ := h 0 x rfl
    obtain ⟨cs, g1, g2, g3⟩ := reps_of (R := R) (sz := sz) (w := w) (g := g) l (o + sz) (fun i y hi => by
      obtain ⟨c, k1, k2, k3⟩ := h (i + 1) y (by simpa using hi)
      refine ⟨c, k1, k2, fun j u hj => ?_⟩
      have := k3 j u hj
      rwa [show o + (i + 1) * sz + j = o + sz + i * sz + j by rw [Nat.add_mul]; omega] at this)
    refine ⟨c ++ cs, ⟨c, cs, rfl, h1, h2, g1⟩, by rw [List.length_append, h1, g2, List.length_cons, Nat.add_mul]; omega, fun j u hj => ?_⟩
    by_cases hjl : j < c.length
    · rw [List.getElem?_append_left hjl] at hj
      have := h3 j u hj
      rwa [Nat.zero_mul, Nat.add_zero] at this
    · rw [List.getElem?_append_right (by omega)] at hj
      have := g3 _ u hj
      rwa [show o + sz + (j - c.length) = o + j by omega] at this
section
variable {H : Type} {enc : TypeId × Value → H} {P : Program} {w : World} {base : Nat} {spare : Nat → Bool} {held : Bool}
theorem sized_T {F : Nat → Prop} : ∀ {y : Ty} {x : y.den} {cs : List Value}, repT F w y x cs → cs.length = y.size
  | .nil, x, cs, h => by have h : cs = [] := h; subst h; rfl
  | .int k r, x, cs, ⟨c, h1, h2⟩ => by subst h1; simp [Ty.size, sized_T h2]
  | .bool r, x, cs, ⟨c, h1, h2⟩ => by subst h1; simp [Ty.size, sized_T h2]
  | .str r, x, cs, ⟨c, h1, h2⟩ => by subst h1; simp [Ty.size, sized_T h2]
  | .ref r, x, cs, ⟨v, c, h1, _, h2⟩ => by subst h1; simp [Ty.size, sized_T h2]
  | .sl t e r, x, cs, ⟨v, c, h1, _, _, h2⟩ => by subst h1; simp [Ty.size, sized_T h2]
theorem parts_ok : ∀ (n : Nat) (l : List TypeId) (y : Ty) (cs : List Value), partsB P n l y = true → SeqT enc P w base spare held l cs → ∃ x : y.den, repT (fun k => k < w.heap.size) w y x cs ∧ okT y x
  | 0, _, _, _, h, _ => by cases h
  | n + 1, [], y, cs, h, hs => by
    have hs : cs = [] := hs
    subst hs
    cases y with
    | nil => exact ⟨(), rfl, trivial⟩
    | _ => cases h
  | n + 1, t :: l, y, cs, h, ⟨c0, c1, he, ⟨fuel, d, htr⟩, hs⟩ => by
    subst he
    unfold partsB at h
    split at h
    · rename_i fs hu
      simp only [Bool.and_eq_true] at h
      obtain ⟨⟨hlay, hsz⟩, h⟩ := h
      have hsz := Nat.eq_of_beq_eq_true hsz
      refine parts_ok n _ y (c0 ++ c1) h (SeqT.app ?_ hs)
      obtain ⟨ys, m, _, _, hcs, hlen, hg⟩ := DataW.trod_struct hu htr
      have key : ∀ (l : List Field) (o j : Nat), laidT P o l = true → (∀ i f, l[i]? = some f → fs[j + i]? = some f) → c0.length = o + sumC P l → SeqT enc P w base spare held (l.map (·.type)) (c0.drop o) := by
        intro l
        induction l with
        | nil =>
          intro o j _ _ hl
          show c0.drop o = []
          apply List.drop_eq_nil_of_le
          simp [sumC] at hl; omega
        | cons f l ih =>
          intro o j hlay hf hl
          simp only [laidT, Bool.and_eq_true, beq_iff_eq] at hlay
          obtain ⟨e, hlay⟩ := hlay
          simp only [sumC] at hl
          have hfj := hf 0 f (by simp)
          have hgj := hg j f (by simpa using hfj)
          rw [e] at hgj
          have hj : j < ys.length := by
            rw [hlen]
            exact (Array.getElem?_eq_some_iff.1 (by simpa using hfj)).1
          refine ⟨(c0.drop o).take (P.cellsOf f.type), c0.drop (o + P.cellsOf f.type), ?_, ⟨m, ys[j], ?_⟩, ih (o + P.cellsOf f.type) (j + 1) hlay (fun i f' hi => ?_) (by omega)⟩
          · rw [← List.drop_drop, List.take_append_drop]
          · rw [hgj, List.getElem?_eq_getElem hj]
          · have := hf (i + 1) f' (by simpa using hi)
            rw [← this]; congr 1; omega
      have := key fs.toList 0 0 hlay (fun i f hi => by simpa using hi) (by rw [Nat.zero_add, ← hsz]; exact hcs)
      simpa using this
    · rename_i k hu
      split at h
      · rename_i k' r
        simp only [Bool.and_eq_true] at h
        obtain ⟨q, hq, _, hw⟩ := DataW.trod_int hu htr
        subst hq
        have hk := kbeq_eq h.1
        subst hk
        obtain ⟨x, hx, ho⟩ := parts_ok n l r c1 h.2 hs
        exact ⟨cn r q x, ⟨c1, by simp [hd_cn], by rw [tl_cn]; exact hx⟩, by rw [hd_cn]; exact hw, by rw [tl_cn]; exact ho⟩
      · cases h
    · rename_i hu
      split at h
      · rename_i r
        obtain ⟨q, hq, _⟩ := DataW.trod_bool hu htr
        subst hq
        obtain ⟨x, hx, ho⟩ := parts_ok n l r c1 h hs
        exact ⟨cn r q x, ⟨c1, by simp [hd_cn], by rw [tl_cn]; exact hx⟩, by show okT r _; rw [tl_cn]; exact ho⟩
      · cases h
    · rename_i hu
      split at h
      · rename_i r
        obtain ⟨q, hq, _, hl⟩ := DataW.trod_string hu htr
        subst hq
        obtain ⟨x, hx, ho⟩ := parts_ok n l r c1 h hs
        exact ⟨cn r q x, ⟨c1, by simp [hd_cn], by rw [tl_cn]; exact hx⟩, by rw [hd_cn]; exact hl, by rw [tl_cn]; exact ho⟩
      · cases h
    · rename_i e hu
      split at h
      · rename_i e' z r
        simp only [Bool.and_eq_true] at h
        obtain ⟨⟨⟨hcz, hz0⟩, hz⟩, hr⟩ := h
        have hcz := Nat.eq_of_beq_eq_true hcz
        have hz0 : 0 < z.size := Nat.le_of_ble_eq_true hz0
        obtain ⟨x, hx, ho⟩ := parts_ok n l r c1 hr hs
        rcases open_slice hu htr with ⟨rfl, _⟩ | ⟨a, len, cap, m, n', D, Pl, rfl, hb, hl, hm, hmm, _, hel⟩
        · refine ⟨cn r ([] : List z.den) x, ⟨.slice none 0 0, c1, rfl, rfl, ⟨none, 0, by simp [hd_cn], by simp [hd_cn], fun h => by simp [hd_cn] at h⟩, by rw [tl_cn]; exact hx⟩, ⟨by simp [hd_cn], fun z hz => by simp [hd_cn] at hz⟩, by rw [tl_cn]; exact ho⟩
        · have hlm : len ≤ m := by rw [hmm]; split <;> omega
          obtain ⟨q, hql, hqp⟩ := list_ofT (α := z.den) (p := fun i v => okT z v ∧ ∃ c, c.length = z.size ∧ repT (fun k => k < w.heap.size) w z v c ∧ ∀ j u, c[j]? = some u → w.cell? (a.add (i * z.size + j)) = some u) len (fun i hi => by
            obtain ⟨cs', h1, h2⟩ := hel i (by omega)
            obtain ⟨v, hv, hov⟩ := parts_ok n [e] z cs' hz ⟨cs', [], by simp, ⟨_, _, h2⟩, rfl⟩
            obtain ⟨_, hlen, hcell⟩ := World.cells?_some h1
            refine ⟨v, hov, cs', sized_T hv, hv, fun j u hu => ?_⟩
            have hj : j < P.cellsOf e := by have := (List.getElem?_eq_some_iff.1 hu).1; omega
            rw [← hcz, ← Go.Deep.add_add, hcell j hj]
            exact hu)
          subst hql
          have hcell : ∀ k u, w.cell? (a.add k) = some u → a.block < w.heap.size ∧ ∃ cur t fr, w.heap[a.block]? = some (.cells cur t fr) ∧ cur[a.off + k]? = some u := by
            intro k u hk
            unfold World.cell? at hk
            have e1 : (a.add k).block = a.block := by unfold Addr.add; split <;> rfl
            have e3 : (a.add k).off = a.off + k := by unfold Addr.add; split <;> simp_all
            rw [e1, e3] at hk
            split at hk
            · rename_i cur t fr hb
              split at hk
              · cases hk
              · exact ⟨(Array.getElem?_eq_some_iff.1 hb).1, cur, t, fr, hb, hk⟩
            · cases hk
          have hspot : ∀ u, w.cell? (a.add 0) = some u → a.spot = none := by
            intro u hk
            unfold World.cell? at hk
            have e2 : (a.add 0).spot = a.spot := rfl
            rw [e2] at hk
            split at hk
            · split at hk
              · cases hk
              · rename_i hsp
                cases hq : a.spot with
                | none => rfl
                | some _ => rw [hq] at hsp; simp at hsp
            · cases hk
          refine ⟨cn r q x, ⟨.slice (some a) q.length cap, c1, rfl, rfl, ⟨some a, cap, by rw [hd_cn], by rw [hd_cn]; exact hl, fun hne => ?_⟩, by rw [tl_cn]; exact hx⟩, ⟨by rw [hd_cn]; exact Nat.le_trans hl hm, fun v hv => ?_⟩, by rw [tl_cn]; exact ho⟩
          · rw [hd_cn] at hne ⊢
            obtain ⟨cs, r1, r2, r3⟩ := reps_of (R := repT (fun k => k < w.heap.size) w z) (sz := z.size) (w := w) (g := a.block) q a.off (fun i v hi => by
              obtain ⟨_, c, k1, k2, k3⟩ := hqp i v hi
              refine ⟨c, k1, k2, fun j u hj => ?_⟩
              obtain ⟨_, cur, t, fr, m1, m2⟩ := hcell _ u (k3 j u hj)
              exact ⟨cur, t, fr, m1, by rw [← m2]; congr 1; omega⟩)
            obtain ⟨v0, hv0⟩ : ∃ v0, q[0]? = some v0 := by
              cases q with
              | nil => exact absurd rfl hne
              | cons v0 q => exact ⟨v0, rfl⟩
            obtain ⟨_, c, k1, _, k3⟩ := hqp 0 v0 hv0
            obtain ⟨u0, hu0⟩ : ∃ u0, c[0]? = some u0 := ⟨_, List.getElem?_eq_getElem (by omega)⟩
            obtain ⟨hbl, cur, t, fr, m1, m2⟩ := hcell _ u0 (k3 0 u0 hu0)
            have hsp := hspot u0 (by have := k3 0 u0 hu0; rwa [Nat.zero_mul] at this)
            refine ⟨a.block, a.off, cs, by cases a; simp_all, hbl, ⟨cur, t, fr, m1, fun j u hj => ?_⟩, r1⟩
            obtain ⟨cur', t', fr', p1, p2⟩ := r3 j u hj
            rw [m1] at p1
            cases p1
            exact p2
          · rw [hd_cn] at hv
            obtain ⟨i, hi⟩ := List.getElem?_of_mem hv
            exact (hqp i v hi).1
      · cases h
    · cases h
end
end Go.Proofs.Ytheemkehedmlfaa.E
