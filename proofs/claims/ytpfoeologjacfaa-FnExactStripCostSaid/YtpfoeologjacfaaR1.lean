/- Arguments that are structs of whole numbers, laid open; for the rows. -/
import Derived.Lib.SmallJoins
import Derived.ChangeOld
import Derived.Deep.Fields
namespace Go.Proofs.Ytpfoeologjacfaa.RowAid
open Go.Joins Go.ChangeShapes Go.WideShapes Go.RowKit Go.Deep
set_option linter.unusedVariables false

section
variable {H : Type} {enc : TypeId × Value → H} {P : Program} {w : World} {base : Nat} {spare : Nat → Bool} {held : Bool}
/-- A struct all of whose fields are numbers of one type. -/
theorem open_agg_ints {r : Reach} {b0 : Nat} {t ti : TypeId} {fs : Array Field} {v : Value} {d : DataW H} {p : List MemPlace} (hs : P.underlying t = some (.struct fs)) (hone : oneCellFields P fs = true) (hC : P.cellsOf t = fs.size)
    (hall : fs.all (fun f => f.type == ti) = true) (hti : P.underlying ti = some (.int .i64)) (hv : Value.okWide P w r b0 t v) (h : DataW.Trod enc P w base spare held t v d p) :
    ∃ xs : List Int, xs.length = fs.size ∧ v = .agg (xs.map (Value.int .i64)).toArray ∧ ∀ x ∈ xs, (Lit.int .i64 x).wf = true := by
  obtain ⟨cs, rfl, hsz⟩ := okWide_struct hs hv
  obtain ⟨fuel, hf⟩ := h
  obtain ⟨ys, n, _, hx, _, hlen, hg⟩ := DataW.trod_struct hs hf
  have key : ∀ j (hj : j < cs.size), ∃ q : Int, cs[j] = .int .i64 q ∧ (Lit.int .i64 q).wf = true := by
    intro j hj
    have hjs : j < fs.size := by omega
    have hfj : fs[j]? = some fs[j] := Array.getElem?_eq_getElem hjs
    obtain ⟨o, k⟩ := hone_of hone j _ hfj
    have hg' := hg j _ hfj
    rw [o, k] at hg'
    have ht : fs[j].type = ti := by
      have := Array.all_eq_true.1 hall j hjs
      simpa using this
    have hys : ys[j]? = some (ys[j]'(by omega)) := List.getElem?_eq_getElem (by omega)
    rw [ht, hys] at hg'
    obtain ⟨q, hq, _, hw⟩ := DataW.trod_int hti hg'
    refine ⟨q, ?_, hw⟩
    have hc : ((Value.agg cs).cells.toList.drop j).take 1 = [cs[j]] := by
      show (cs.toList.drop j).take 1 = [cs[j]]
      rw [List.drop_eq_getElem_cons (by simpa using hj)]
      simp
    rw [hc] at hq
    exact (List.cons.inj hq).1
  refine ⟨(List.range cs.size).map (fun j => if hj : j < cs.size then (key j hj).choose else 0), by simp; omega, ?_, ?_⟩
  · congr 1
    apply Array.ext
    · simp
    · intro i h1 h2
      have hi : i < cs.size := h1
      simp [hi]
      exact (key i hi).choose_spec.1
  · intro x hx
    simp only [List.mem_map, List.mem_range] at hx
    obtain ⟨j, hj, rfl⟩ := hx
    rw [dif_pos hj]
    exact (key j hj).choose_spec.2
end
end Go.Proofs.Ytpfoeologjacfaa.RowAid
