-- Written by a program of this session (wip/tools) over the kit's print.
import Derived.Test.YtheemkehedmlfaaRows
import Derived.Test.YtheemkehedmlfaaJFnExactPairedLines
import Derived.Test.YtheemkehedmlfaaY11
import Derived.Test.YtheemkehedmlfaaPureFnExactPairedLines
import Derived.WalkKit
import Derived.ProofKit
import Derived.OpenShut
import Derived.ShutString
import Derived.ChangeOld
import Derived.Below
import Derived.SizedLaws
import Derived.Test.YtheemkehedmlfaaWSized
import Derived.Test.YtheemkehedmlfaaR2
namespace Go.Proofs.Ytheemkehedmlfaa.fnExactPairedLines
open Go.ChangeShapes Go.WideShapes Go.ChangeAt Go.RowKit
open Go.ChangeMaps (open_string shut_string)
open Go.Proofs.YtheemkehedmlfaaW.PrintWords Go.Proofs.Ytheemkehedmlfaa.Y
set_option linter.unusedVariables false
theorem own : ownKnob Try.prog.godebug = none := by kernel_rfl
theorem laidOut : laidOutB Try.prog = true := by kernel_rfl
def IsRow (k : IntKind) (w : World) (a : Option Addr) (len cap : Nat) (zs : List Int) : Prop :=
  (a = none ∧ len = 0 ∧ cap = 0 ∧ zs = []) ∨
  ∃ x, a = some x ∧ len ≤ cap ∧ cap ≤ maxLen ∧ zs.length = cap ∧ (∀ i, i < zs.length → w.cell? (x.add i) = some (.int k (zs.getD i 0))) ∧ ∀ n ∈ zs, (Lit.int k n).wf = true
set_option maxHeartbeats 2000000 in
set_option maxRecDepth 100000 in
theorem lifted (os : Os) (started : os.Started) (H : Type) (enc : TypeId × Value → H) :
    ReturnsInHanded {} Try.checked os 4 .any (Rows.fnExactPairedLinesSpec.pre6 enc Try.prog Try.f4 Rows.fnExactPairedLinesRow.domain false) (Rows.fnExactPairedLinesSpec.post enc Try.prog Try.f4 false true false false) := by
  refine returnsInHanded_of_change_sized (C := Try.checked) own started (by kernel_rfl) Try.func4
    (ChangeSpec.witness6 (enc := enc) (C := Try.checked) false ⟨#[], #[.int .i64 0, .slice none 0 0], []⟩ 8 (by kernel_rfl) (by kernel_rfl) (by kernel_rfl) (by kernel_rfl)) ?_
  intro W base args ds gs before hval0 hW hcnd hsz0 _
  have hsz : (DataW.weightsEach Try.prog (Try.f4.params.toList ++ Rows.fnExactPairedLinesSpec.plain.varTypes Try.prog) (ds ++ gs)).all (· ≤ reachBytes) = true := hsz0
  have hval : ∀ (j : Nat) t v, Try.f4.params[j]? = some t → args[j]? = some v → Value.okWide Try.prog W .any base t v := hval0
  have hW' := hW
  obtain ⟨p, q, hA0, hV, rfl, hfz, hnd⟩ := hW
  have hA : DataW.TrodAll enc Try.prog W 0 (fun _ => true) true Try.f4.params.toList args.toList ds p := hA0
  rw [Try.params4] at hA hval hsz
  obtain ⟨v0, vs0, d0, ds0, p0, q0, hargs, rfl, rfl, h0, r0⟩ := trodAll_cons hA
  obtain ⟨v1, vs1, d1, ds1, p1, q1, rfl, rfl, rfl, h1, r1⟩ := trodAll_cons r0
  obtain ⟨rfl, rfl, rfl⟩ := trodAll_nil r1
  obtain rfl : args = #[v0, v1] := by cases args; simp_all
  obtain ⟨rfl, rfl⟩ := trodVars_none hV
  obtain ⟨a0, rfl, rfl, rfl, w0⟩ := open_int Try.underlying2 (hval 0 2 v0 rfl rfl) h0
  obtain ⟨b1, len1, cap1, rfl⟩ := okWide_slice Try.underlying22 (hval 1 22 v1 rfl rfl)
  have k1 := h1
  have lt1 : ∀ x ∈ p1, x.block < W.heap.size := by obtain ⟨m, hm⟩ := k1; exact DataW.trod_lt m _ _ _ hm
  obtain ⟨l1, hK1, w1⟩ : ∃ y : List (S65), (Kd.slice 65 k65).K W y (Value.slice b1 len1 cap1).cells.toList ∧ (fun l : List (S65) => l.length ≤ maxLen ∧ ∀ x ∈ l, (fun y : S65 => (fun x : Int => (Lit.int .i64 x).wf = true) y.f0 ∧ (fun x : Int => (Lit.int .i64 x).wf = true) y.f1 ∧ (fun x : Int => (Lit.int .i64 x).wf = true) y.f2 ∧ (fun x : Int => (Lit.int .i64 x).wf = true) y.f3 ∧ (fun x : Int => (Lit.int .i64 x).wf = true) y.f4) x) y := by obtain ⟨fuel, hf⟩ := h1; exact (RowAid.Opens.slice Try.underlying22 (by kernel_rfl) (RowAid.Opens.iso (fun x => (⟨x.1, x.2.1, x.2.2.1, x.2.2.2.1, x.2.2.2.2⟩ : S65)) (fun _ => rfl) (RowAid.Opens.struct Try.underlying65 (by kernel_rfl) (by kernel_rfl) (RowAid.Parts.cons (RowAid.Opens.int Try.underlying2 (by kernel_rfl)) (RowAid.Parts.cons (RowAid.Opens.int Try.underlying2 (by kernel_rfl)) (RowAid.Parts.cons (RowAid.Opens.int Try.underlying2 (by kernel_rfl)) (RowAid.Parts.cons (RowAid.Opens.int Try.underlying2 (by kernel_rfl)) (RowAid.Parts.one (RowAid.Opens.int Try.underlying2 (by kernel_rfl)))))))))).2 hf
  obtain ⟨A1, c1, hcs1, hc1, hr1⟩ := hK1
  simp [Value.cells] at hcs1
  obtain ⟨hb1_, hl1_, hc1_⟩ := hcs1
  obtain rfl : A1 = b1 := hb1_.symm
  subst hl1_
  obtain rfl : c1 = cap1 := hc1_.symm
  clear hA0 hval0 hsz0 hsz
  refine (Y.laws_FnExactPairedLines.walk Pure.FnExactPairedLines a0 A1 c1 l1 W w0 hr1 hc1 w1).mono fun e W' ⟨he, bel⟩ => ?_
  subst he
  exact ⟨_, rfl, _, _, _, [], _, [], hW', trodAll_mk1 (shut_bool Try.underlying4 _), (trodAll_cons_mk (shut_int Try.underlying2 w0) (trodAll_cons_mk (Below.trod laidOut (by kernel_rfl) (of_decide_eq_true (by kernel_rfl)) k1 bel lt1) trodAll_mk0)), rfl, bel.frame _, fun h => by cases h⟩
theorem over : Rows.fnExactPairedLinesRow.holds Try.pinned (OpenSpec.ofChange Rows.fnExactPairedLinesSpec) :=
  OpenClaim.holds_of_wide 4 Try.f4 rfl rfl rfl rfl rfl rfl rfl ⟨rfl, rfl, rfl, rfl, rfl⟩ rfl rfl rfl rfl rfl (by kernel_rfl) Try.func4 fnExactPairedLinesJ.joined
    (of_decide_eq_true (by kernel_rfl)) (by unfold Func.isWrapper; first | (rw [if_pos (by decide +kernel)]; kernel_rfl) | (rw [if_neg (by decide +kernel)]; exact ⟨rfl, rfl⟩))
    (fun os started H enc _ => lifted os started H enc)
theorem proved : Rows.FnExactPairedLinesSaid := over
#print axioms proved
end Go.Proofs.Ytheemkehedmlfaa.fnExactPairedLines
namespace Go.Proofs.Ytheemkehedmlfaa
/-- The row, under a short name, for the claim. -/
theorem fnExactPairedLines_holds : Rows.FnExactPairedLinesSaid := fnExactPairedLines.proved
end Go.Proofs.Ytheemkehedmlfaa
