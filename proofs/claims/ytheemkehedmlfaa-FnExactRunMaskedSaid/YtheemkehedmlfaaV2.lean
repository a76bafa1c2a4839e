import Derived.Test.YtheemkehedmlfaaV1
import Derived.Test.YtheemkehedmlfaaF9
import Derived.Below
set_option linter.unusedVariables false
namespace Go.Proofs.Ytheemkehedmlfaa.E
open Go Go.RowKit
section
variable {S : Sig} {Q : Kind S}
theorem row_of {f : FuncId} {g : Con S} (hk : ConOk Q f g) {avs : List (AV S.T)} (hc : (g avs).Can [.c (.sc (.bool true))]) {w : World} {vs : List Value} (hv : All2 (avHold Q (fun k => k < w.heap.size) w) vs avs) :
    Calls S.P f vs.toArray w fun en w1 => en = .returned (.bool true) ∧ Below w.heap.size w w1 := by
  refine (hk.ok avs _ w vs _ hc (fun _ h => h) hv).mono ?_
  rintro en w1 ⟨v, rfl, q, G, B, vs, rfl, _, _, _, h⟩
  refine ⟨?_, q.os, q.tape, q.output, q.size, q.heap⟩
  match vs, h with
  | [v], ⟨h1, _⟩ =>
    have h1 : v = .bool true := h1
    subst h1
    rfl
theorem con_of {ps rs : List PV} {F : envP S.T ps → Option (envP S.T rs)} {avs : List (AV S.T)} {v : envP S.T ps} {r : envP S.T rs} (hm : matA ps avs = some v) (hF : F v = some r) : (conG ps rs F avs).Can (instR rs r) := by
  unfold conG
  rw [hm]
  exact ⟨r, hF, rfl⟩
end
end Go.Proofs.Ytheemkehedmlfaa.E
