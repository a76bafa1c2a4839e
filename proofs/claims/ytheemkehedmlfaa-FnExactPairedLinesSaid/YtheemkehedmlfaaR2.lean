/- What an argument reads as, by the kinds of the print: whole numbers, bools, strings, slices and structs of them; for the rows. -/
import Derived.Lib.SmallJoins
import Derived.ChangeOld
import Derived.Deep.Fields
import Derived.Deep.Slices
import Derived.Test.YtheemkehedmlfaaWWords
namespace Go.Proofs.Ytheemkehedmlfaa.RowAid
open Go.Joins Go.ChangeShapes Go.WideShapes Go.RowKit Go.Deep Go.Proofs.YtheemkehedmlfaaW.PrintWords
set_option linter.unusedVariables false

/-- What a value of the type t, trodden, reads as by the kind d. -/
def Opens (P : Program) (t : TypeId) {α : Type} (d : Kd α) (ok : α → Prop) : Prop :=
  d.sz = P.cellsOf t ∧ ∀ {H : Type} {enc : TypeId × Value → H} {w : World} {base : Nat} {spare : Nat → Bool} {held : Bool} {fuel : Nat} {cs : List Value} {x : DataW H × List MemPlace}, DataW.trod enc P w base spare held fuel t cs = some x → ∃ y : α, d.K w y cs ∧ ok y
theorem Opens.int {P : Program} {t : TypeId} {k : IntKind} (ht : P.underlying t = some (.int k)) (hc : P.cellsOf t = 1) : Opens P t (Kd.int k) (fun x => (Lit.int k x).wf = true) :=
  ⟨hc.symm, fun h => by obtain ⟨q, hq, _, hw⟩ := DataW.trod_int ht h; exact ⟨q, hq, hw⟩⟩
theorem Opens.bool {P : Program} {t : TypeId} (ht : P.underlying t = some .bool) (hc : P.cellsOf t = 1) : Opens P t Kd.bool (fun _ => True) :=
  ⟨hc.symm, fun h => by obtain ⟨q, hq, _⟩ := DataW.trod_bool ht h; exact ⟨q, hq, trivial⟩⟩
theorem Opens.string {P : Program} {t : TypeId} (ht : P.underlying t = some .string) (hc : P.cellsOf t = 1) : Opens P t Kd.string (fun s => s.size ≤ maxLen) :=
  ⟨hc.symm, fun h => by obtain ⟨q, hq, _, hl⟩ := DataW.trod_string ht h; exact ⟨q, hq, hl⟩⟩
theorem list_of {α : Type} {p : Nat → α → Prop} : ∀ n : Nat, (∀ i, i < n → ∃ y, p i y) → ∃ l : List α, l.length = n ∧ ∀ i y, l[i]? = some y → p i y
  | 0, _ => ⟨[], rfl, fun i y h => by simp at h⟩
  | n + 1, h => by
    obtain ⟨l, hl, hp⟩ := list_of n (fun i hi => h i (by omega))
    obtain ⟨y, hy⟩ := h n (by omega)
    refine ⟨l ++ [y], by simp [hl], fun i z hz => ?_⟩
    by_cases hi : i < n
    · rw [List.getElem?_append_left (by omega)] at hz; exact hp i z hz
    · have : i = n := by
        have := (List.getElem?_eq_some_iff.1 hz).1
        simp at this; omega
      subst this
      rw [← hl] at hz
      have : y = z := by simpa using hz
      exact this ▸ hy
theorem Opens.slice {P : Program} {t e : TypeId} {α : Type} {d : Kd α} {ok : α → Prop} (ht : P.underlying t = some (.slice e)) (hc : P.cellsOf t = 1) (he : Opens P e d ok) :
    Opens P t (Kd.slice e d) (fun l => l.length ≤ maxLen ∧ ∀ x ∈ l, ok x) := by
  refine ⟨hc.symm, fun {H enc w base spare held fuel cs x} h => ?_⟩
  rcases open_slice ht h with ⟨rfl, _⟩ | ⟨a, len, cap, m, n, D, Pl, rfl, hb, hl, hm, hmm, _, hx⟩
  · exact ⟨[], ⟨none, 0, rfl, Nat.le_refl _, rfl, by simp, fun h => absurd h (by simp)⟩, Nat.zero_le _, by simp⟩
  · have hlm : len ≤ m := by rw [hmm]; split <;> omega
    obtain ⟨l, hll, hlp⟩ := list_of (α := α) (p := fun i y => ok y ∧ ∃ c, c.length = d.sz ∧ d.K w y c ∧ ∀ j u, c[j]? = some u → w.cell? (a.add (i * d.sz + j)) = some u) len (fun i hi => by
      obtain ⟨cs', h1, h2⟩ := hx i (by omega)
      obtain ⟨y, hK, ho⟩ := he.2 h2
      obtain ⟨_, hlen, hcell⟩ := World.cells?_some h1
      refine ⟨y, ho, cs', by rw [hlen, he.1], hK, fun j u hu => ?_⟩
      have hj : j < P.cellsOf e := by have := (List.getElem?_eq_some_iff.1 hu).1; omega
      rw [he.1, ← Go.Deep.add_add, hcell j hj]
      exact hu)
    subst hll
    refine ⟨l, ⟨some a, cap, rfl, hl, rfl, Nat.le_trans hl (Nat.le_trans hm (by decide)), fun _ => ⟨a, rfl, fun j p hj => ?_⟩⟩, by omega, fun x hxm => ?_⟩
    · exact (hlp j p hj).2
    · obtain ⟨i, hi⟩ := List.getElem?_of_mem hxm
      exact (hlp i x hi).1
/-- Cells one field behind another. -/
def Seq {H : Type} (enc : TypeId × Value → H) (P : Program) (w : World) (base : Nat) (spare : Nat → Bool) (held : Bool) : List TypeId → List Value → Prop
  | [], cs => cs = []
  | t :: l, cs => ∃ c0 c1, cs = c0 ++ c1 ∧ (∃ fuel x, DataW.trod enc P w base spare held fuel t c0 = some x) ∧ Seq enc P w base spare held l c1
def Parts (P : Program) (l : List TypeId) {α : Type} (d : Kd α) (ok : α → Prop) : Prop :=
  d.sz = (l.map P.cellsOf).sum ∧ ∀ {H : Type} {enc : TypeId × Value → H} {w : World} {base : Nat} {spare : Nat → Bool} {held : Bool} {cs : List Value}, Seq enc P w base spare held l cs → ∃ y : α, d.K w y cs ∧ ok y
theorem Parts.one {P : Program} {t : TypeId} {α : Type} {d : Kd α} {ok : α → Prop} (h : Opens P t d ok) : Parts P [t] d ok := by
  refine ⟨by simp [h.1], ?_⟩
  rintro H enc w base spare held cs ⟨c0, c1, rfl, ⟨fuel, x, hx⟩, rfl⟩
  rw [List.append_nil]
  exact h.2 hx
theorem Parts.cons {P : Program} {t : TypeId} {l : List TypeId} {α β : Type} {a : Kd α} {b : Kd β} {oka : α → Prop} {okb : β → Prop} (h : Opens P t a oka) (k : Parts P l b okb) : Parts P (t :: l) (Kd.pair a b) (fun x => oka x.1 ∧ okb x.2) := by
  refine ⟨by simp [Kd.pair, h.1, k.1], ?_⟩
  rintro H enc w base spare held cs ⟨c0, c1, rfl, ⟨fuel, x, hx⟩, hs⟩
  obtain ⟨y, hy, oy⟩ := h.2 hx
  obtain ⟨z, hz, oz⟩ := k.2 hs
  exact ⟨(y, z), ⟨c0, c1, rfl, hy, hz⟩, oy, oz⟩
theorem Opens.iso {P : Program} {t : TypeId} {α β : Type} {d : Kd α} {ok : α → Prop} {f : β → α} (g : α → β) (hg : ∀ y, f (g y) = y) (h : Opens P t d ok) : Opens P t (Kd.iso d f) (fun b => ok (f b)) := by
  refine ⟨h.1, fun hx => ?_⟩
  obtain ⟨y, hy, oy⟩ := h.2 hx
  exact ⟨g y, by show d.K _ (f (g y)) _; rw [hg]; exact hy, by show ok (f (g y)); rw [hg]; exact oy⟩
def laidFields (P : Program) : Nat → List Field → Bool
  | _, [] => true
  | o, f :: fs => f.offset == o && laidFields P (o + P.cellsOf f.type) fs
theorem Opens.struct {P : Program} {t : TypeId} {fs : Array Field} {α : Type} {d : Kd α} {ok : α → Prop} (hs : P.underlying t = some (.struct fs)) (ho : laidFields P 0 fs.toList = true) (hc : P.cellsOf t = (fs.toList.map fun f => P.cellsOf f.type).sum) (h : Parts P (fs.toList.map (·.type)) d ok) : Opens P t d ok := by
  refine ⟨by rw [h.1, hc, List.map_map]; rfl, fun {H enc w base spare held fuel cs x} hx => ?_⟩
  obtain ⟨ys, n, _, hxx, hcs, hlen, hg⟩ := DataW.trod_struct hs hx
  refine h.2 (enc := enc) (w := w) (base := base) (spare := spare) (held := held) ?_
  have key : ∀ (l : List Field) (o j : Nat), laidFields P o l = true → (∀ i f, l[i]? = some f → fs[j + i]? = some f) → cs.length = o + (l.map fun f => P.cellsOf f.type).sum → Seq enc P w base spare held (l.map (·.type)) (cs.drop o) := by
    intro l
    induction l with
    | nil =>
      intro o j _ _ hl
      show cs.drop o = []
      apply List.drop_eq_nil_of_le
      simp at hl; omega
    | cons f l ih =>
      intro o j hlay hf hl
      simp only [laidFields, Bool.and_eq_true, beq_iff_eq] at hlay
      obtain ⟨e, hlay⟩ := hlay
      simp only [List.map_cons, List.sum_cons] at hl
      have hfj := hf 0 f (by simp)
      have hgj := hg j f (by simpa using hfj)
      rw [e] at hgj
      have hj : j < ys.length := by
        rw [hlen]
        have := (Array.getElem?_eq_some_iff.1 (by simpa using hfj)).1
        exact this
      refine ⟨(cs.drop o).take (P.cellsOf f.type), cs.drop (o + P.cellsOf f.type), ?_, ⟨n, ys[j], ?_⟩, ih (o + P.cellsOf f.type) (j + 1) hlay (fun i f' hi => ?_) (by omega)⟩
      · rw [← List.drop_drop, List.take_append_drop]
      · rw [hgj, List.getElem?_eq_getElem hj]
      · have := hf (i + 1) f' (by simpa using hi)
        rw [← this]; congr 1; omega
  have hcl : cs.length = (fs.toList.map fun f => P.cellsOf f.type).sum := by
    rw [← hc]; exact hcs
  have := key fs.toList 0 0 ho (fun i f hi => by simpa using hi) (by omega)
  simpa using this
end Go.Proofs.Ytheemkehedmlfaa.RowAid
