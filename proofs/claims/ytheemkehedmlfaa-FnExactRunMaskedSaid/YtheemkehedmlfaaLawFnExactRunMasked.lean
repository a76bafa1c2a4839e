-- Written by a program of this session (wip/tools/lawgen.py) over the kit's print.
import Derived.Test.YtheemkehedmlfaaRows
import Derived.Test.YtheemkehedmlfaaJFnExactRunMasked
import Derived.Test.YtheemkehedmlfaaMB
import Derived.Test.YtheemkehedmlfaaV2
import Derived.WalkKit
import Derived.ProofKit
import Derived.OpenShut
import Derived.ShutString
import Derived.ChangeOld
import Derived.Below
import Derived.SizedLaws
namespace Go.Proofs.Ytheemkehedmlfaa.fnExactRunMasked
open Go.ChangeShapes Go.WideShapes Go.ChangeAt Go.RowKit
open Go.Proofs.Ytheemkehedmlfaa.E
set_option linter.unusedVariables false
theorem own : ownKnob Try.prog.godebug = none := by kernel_rfl
theorem laidOut : laidOutB Try.prog = true := by kernel_rfl
def yArg : Ty := .int .i64 (.sl 65 (.int .i64 (.int .i64 (.int .i64 (.int .i64 (.int .i64 .nil))))) (.sl 29 (.sl 2 (.int .i64 .nil) .nil) .nil))
theorem parts : partsB Try.prog 20 [2, 22, 51] yArg = true := by kernel_rfl
set_option maxRecDepth 100000 in
theorem walk (W : World) (a0' : Int) (v1' : Value) (v2' : Value) (x : yArg.den) (hx : repT (fun k => k < W.heap.size) W yArg x [.int .i64 a0', v1', v2']) (hok : okT yArg x) :
    Calls Try.prog 12 #[.int .i64 a0', v1', v2'] W fun e W' => e = .returned (.bool true) ∧ Below W.heap.size W W' := by
  obtain ⟨a0, a1, a2⟩ := x
  obtain ⟨c0, e0, u1, c1, e1, o1, h1, u2, c2, e2, o2, h2, e⟩ := hx
  have e : c2 = [] := e
  subst e e2 e1
  simp only [List.cons.injEq, Value.int.injEq, true_and, and_true] at e0
  obtain ⟨rfl, rfl, rfl⟩ := e0
  have := row_of (S := SS) (Q := QQ) ((KC12 (2 ^ 64)) 12 _ rfl) (avs := instA [.c (.int .i64), .c (.ls 65), .c (.ls 29)] (a0', a1, a2, ())) (con_of (S := SS) (ps := [.c (.int .i64), .c (.ls 65), .c (.ls 29)]) (rs := [.c .bool]) (F := F_laws_FnExactRunMasked (2 ^ 64)) (v := (a0', a1, a2, ())) (r := (true, ())) rfl (P.run_masked_law (by decide) a0' a1 a2 hok.2.1.1 hok.2.2.1.1 (fun v hv => (hok.2.2.1.2 v hv).1.1))) (w := W) (vs := [.int .i64 a0', v1', v2']) ?_
  · exact this
  · exact .cons rfl (.cons ⟨o1, h1⟩ (.cons ⟨o2, h2⟩ .nil))
set_option maxHeartbeats 2000000 in
set_option maxRecDepth 100000 in
theorem lifted (os : Os) (started : os.Started) (H : Type) (enc : TypeId × Value → H) :
    ReturnsInHanded {} Try.checked os 12 .any (Rows.fnExactRunMaskedSpec.pre6 enc Try.prog Try.f12 Rows.fnExactRunMaskedRow.domain false) (Rows.fnExactRunMaskedSpec.post enc Try.prog Try.f12 false true false false) := by
  refine returnsInHanded_of_change_sized (C := Try.checked) own started (by kernel_rfl) Try.func12
    (ChangeSpec.witness6 (enc := enc) (C := Try.checked) false ⟨#[], #[.int .i64 0, .slice none 0 0, .slice none 0 0], []⟩ 8 (by kernel_rfl) (by kernel_rfl) (by kernel_rfl) (by kernel_rfl)) ?_
  intro W base args ds gs before hval0 hW hcnd hsz0 _
  have hsz : (DataW.weightsEach Try.prog (Try.f12.params.toList ++ Rows.fnExactRunMaskedSpec.plain.varTypes Try.prog) (ds ++ gs)).all (· ≤ reachBytes) = true := hsz0
  have hval : ∀ (j : Nat) t v, Try.f12.params[j]? = some t → args[j]? = some v → Value.okWide Try.prog W .any base t v := hval0
  have hW' := hW
  obtain ⟨p, q, hA0, hV, rfl, hfz, hnd⟩ := hW
  have hA : DataW.TrodAll enc Try.prog W 0 (fun _ => true) true Try.f12.params.toList args.toList ds p := hA0
  rw [Try.params12] at hA hval hsz
  obtain ⟨v0, vs0, d0, ds0, p0, q0, hargs, rfl, rfl, h0, r0⟩ := trodAll_cons hA
  obtain ⟨v1, vs1, d1, ds1, p1, q1, rfl, rfl, rfl, h1, r1⟩ := trodAll_cons r0
  obtain ⟨v2, vs2, d2, ds2, p2, q2, rfl, rfl, rfl, h2, r2⟩ := trodAll_cons r1
  obtain ⟨rfl, rfl, rfl⟩ := trodAll_nil r2
  obtain rfl : args = #[v0, v1, v2] := by cases args; simp_all
  obtain ⟨rfl, rfl⟩ := trodVars_none hV
  have k0 := h0
  obtain ⟨a0, rfl, rfl, rfl, w0⟩ := open_int Try.underlying2 (hval 0 2 v0 rfl rfl) h0
  have k1 := h1
  have lt1 : ∀ x ∈ p1, x.block < W.heap.size := by obtain ⟨m, hm⟩ := k1; exact DataW.trod_lt m _ _ _ hm
  obtain ⟨b1, len1, cap1, rfl⟩ := okWide_slice Try.underlying22 (hval 1 22 v1 rfl rfl)
  have k2 := h2
  have lt2 : ∀ x ∈ p2, x.block < W.heap.size := by obtain ⟨m, hm⟩ := k2; exact DataW.trod_lt m _ _ _ hm
  obtain ⟨b2, len2, cap2, rfl⟩ := okWide_slice Try.underlying51 (hval 2 51 v2 rfl rfl)
  obtain ⟨x, hx, hok⟩ : ∃ x : yArg.den, repT (fun k => k < W.heap.size) W yArg x [Value.int .i64 a0, .slice b1 len1 cap1, .slice b2 len2 cap2] ∧ okT yArg x := by
    obtain ⟨f0, g0⟩ := k0
    obtain ⟨f1, g1⟩ := k1
    obtain ⟨f2, g2⟩ := k2
    exact parts_ok 20 [2, 22, 51] yArg _ parts ⟨[.int .i64 a0], [.slice b1 len1 cap1, .slice b2 len2 cap2], rfl, ⟨f0, _, g0⟩, ⟨[.slice b1 len1 cap1], [.slice b2 len2 cap2], rfl, ⟨f1, _, g1⟩, ⟨[.slice b2 len2 cap2], [], rfl, ⟨f2, _, g2⟩, rfl⟩⟩⟩
  clear hA0 hval0 hsz0 hsz
  refine (walk W a0 _ _ x hx hok).mono fun e W' ⟨he, bel⟩ => ?_
  subst he
  exact ⟨_, rfl, _, _, _, [], _, [], hW', trodAll_mk1 (shut_bool Try.underlying4 _), (trodAll_cons_mk (shut_int Try.underlying2 w0) (trodAll_cons_mk (Below.trod laidOut (by kernel_rfl) (of_decide_eq_true (by kernel_rfl)) k1 bel lt1) (trodAll_cons_mk (Below.trod laidOut (by kernel_rfl) (of_decide_eq_true (by kernel_rfl)) k2 bel lt2) trodAll_mk0))), rfl, bel.frame _, fun h => by cases h⟩
theorem over : Rows.fnExactRunMaskedRow.holds Try.pinned (OpenSpec.ofChange Rows.fnExactRunMaskedSpec) :=
  OpenClaim.holds_of_wide 12 Try.f12 rfl rfl rfl rfl rfl rfl rfl ⟨rfl, rfl, rfl, rfl, rfl⟩ rfl rfl rfl rfl rfl (by kernel_rfl) Try.func12 fnExactRunMaskedJ.joined
    (of_decide_eq_true (by kernel_rfl)) (by unfold Func.isWrapper; first | (rw [if_pos (by decide +kernel)]; kernel_rfl) | (rw [if_neg (by decide +kernel)]; exact ⟨rfl, rfl⟩))
    (fun os started H enc _ => lifted os started H enc)
theorem proved : Rows.FnExactRunMaskedSaid := over
#print axioms proved
end Go.Proofs.Ytheemkehedmlfaa.fnExactRunMasked
namespace Go.Proofs.Ytheemkehedmlfaa
/-- The row, under a short name, for the claim. -/
theorem fnExactRunMasked_holds : Rows.FnExactRunMaskedSaid := fnExactRunMasked.proved
end Go.Proofs.Ytheemkehedmlfaa
