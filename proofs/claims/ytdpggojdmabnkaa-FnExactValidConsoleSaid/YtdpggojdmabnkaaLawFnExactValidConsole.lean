-- Written by a program of this session (wip/tools) over the kit's print.
import Derived.Test.YtdpggojdmabnkaaRows
import Derived.Test.YtdpggojdmabnkaaJFnExactValidConsole
import Derived.Test.YtdpggojdmabnkaaPureFnExactValidConsole
import Derived.WalkKit
import Derived.ProofKit
import Derived.OpenShut
import Derived.ShutString
import Derived.ChangeOld
import Derived.Below
import Derived.SizedLaws
namespace Go.Proofs.Ytdpggojdmabnkaa.fnExactValidConsole
open Go.ChangeShapes Go.WideShapes Go.ChangeAt Go.RowKit
open Go.Proofs.Ytdpggojdmabnkaa.E
set_option linter.unusedVariables false
theorem own : ownKnob Try.prog.godebug = none := by kernel_rfl
theorem laidOut : laidOutB Try.prog = true := by kernel_rfl
def yArg : Ty := .int .i64 (.int .i64 (.sl 25 (.sl 2 (.int .i64 .nil) .nil) (.sl 25 (.sl 2 (.int .i64 .nil) .nil) (.sl 2 (.int .i64 .nil) .nil))))
theorem parts : partsB Try.prog 20 [38] yArg = true := by kernel_rfl
set_option maxRecDepth 100000 in
theorem walk (W : World) (cs : Array Value) (x : yArg.den) (hx : repT (fun k => k < W.heap.size) W yArg x cs.toList) (hok : okT yArg x) :
    Calls Try.prog 4 #[.agg cs] W fun e W' => e = .returned (.bool true) ∧ Below W.heap.size W W' := by
  obtain ⟨a, b, vs, ms, mem⟩ := x
  obtain ⟨c1, e1, c2, e2, v3, c3, e3, o3, h3, v4, c4, e4, o4, h4, v5, c5, e5, o5, h5, e6⟩ := hx
  have e6 : c5 = [] := e6
  subst e6 e5 e4 e3 e2
  have hc : cs = [Value.int .i64 a, .int .i64 b, v3, v4, v5].toArray := by cases cs; simp at e1; subst e1; rfl
  subst hc
  have := row_of (S := SS) (Q := QQ) ((KC4 (2 ^ 64)) 4 _ rfl) (avs := instA [.agg [.int .i64, .int .i64, .ls 25, .ls 25, .ls 2]] (a, b, vs, ms, mem, ())) (con_of (S := SS) (ps := [.agg [.int .i64, .int .i64, .ls 25, .ls 25, .ls 2]]) (rs := [.c .bool]) (F := F4 (2 ^ 64)) (v := (a, b, vs, ms, mem, ())) (r := (true, ())) rfl (purely a b vs ms mem hok)) (w := W) (vs := [.agg [Value.int .i64 a, .int .i64 b, v3, v4, v5].toArray]) ?_
  · exact this
  · exact .cons ⟨_, rfl, .cons rfl (.cons rfl (.cons ⟨o3, h3⟩ (.cons ⟨o4, h4⟩ (.cons ⟨o5, h5⟩ .nil))))⟩ .nil
set_option maxHeartbeats 2000000 in
set_option maxRecDepth 100000 in
theorem lifted (os : Os) (started : os.Started) (H : Type) (enc : TypeId × Value → H) :
    ReturnsInHanded {} Try.checked os 4 .any (Rows.fnExactValidConsoleSpec.pre6 enc Try.prog Try.f4 Rows.fnExactValidConsoleRow.domain false) (Rows.fnExactValidConsoleSpec.post enc Try.prog Try.f4 false true false false) := by
  refine returnsInHanded_of_change_sized (C := Try.checked) own started (by kernel_rfl) Try.func4
    (ChangeSpec.witness6 (enc := enc) (C := Try.checked) false ⟨#[], #[.agg #[.int .i64 0, .int .i64 0, .slice none 0 0, .slice none 0 0, .slice none 0 0]], []⟩ 8 (by kernel_rfl) (by kernel_rfl) (by kernel_rfl) (by kernel_rfl)) ?_
  intro W base args ds gs before hval0 hW hcnd hsz0 _
  have hsz : (DataW.weightsEach Try.prog (Try.f4.params.toList ++ Rows.fnExactValidConsoleSpec.plain.varTypes Try.prog) (ds ++ gs)).all (· ≤ reachBytes) = true := hsz0
  have hval : ∀ (j : Nat) t v, Try.f4.params[j]? = some t → args[j]? = some v → Value.okWide Try.prog W .any base t v := hval0
  have hW' := hW
  obtain ⟨p, q, hA0, hV, rfl, hfz, hnd⟩ := hW
  have hA : DataW.TrodAll enc Try.prog W 0 (fun _ => true) true Try.f4.params.toList args.toList ds p := hA0
  rw [Try.params4] at hA hval hsz
  obtain ⟨v0, vs0, d0, ds0, p0, q0, hargs, rfl, rfl, h0, r0⟩ := trodAll_cons hA
  obtain ⟨rfl, rfl, rfl⟩ := trodAll_nil r0
  obtain rfl : args = #[v0] := by cases args; simp_all
  obtain ⟨rfl, rfl⟩ := trodVars_none hV
  have k0 := h0
  have lt0 : ∀ x ∈ p0, x.block < W.heap.size := by obtain ⟨m, hm⟩ := k0; exact DataW.trod_lt m _ _ _ hm
  obtain ⟨cs, rfl, hcs⟩ := okWide_struct Try.underlying38 (hval 0 38 v0 rfl rfl)
  obtain ⟨x, hx, hok⟩ : ∃ x : yArg.den, repT (fun k => k < W.heap.size) W yArg x cs.toList ∧ okT yArg x := by
    obtain ⟨fuel, hf⟩ := h0
    exact parts_ok 20 [38] yArg cs.toList parts ⟨cs.toList, [], by simp, ⟨fuel, _, hf⟩, rfl⟩
  clear hA0 hval0 hsz0 hsz
  refine (walk W cs x hx hok).mono fun e W' ⟨he, bel⟩ => ?_
  subst he
  exact ⟨_, rfl, _, _, _, [], _, [], hW', trodAll_mk1 (shut_bool Try.underlying4 _), (trodAll_cons_mk (Below.trod laidOut (by kernel_rfl) (of_decide_eq_true (by kernel_rfl)) k0 bel lt0) trodAll_mk0), rfl, bel.frame _, fun h => by cases h⟩
theorem over : Rows.fnExactValidConsoleRow.holds Try.pinned (OpenSpec.ofChange Rows.fnExactValidConsoleSpec) :=
  OpenClaim.holds_of_wide 4 Try.f4 rfl rfl rfl rfl rfl rfl rfl ⟨rfl, rfl, rfl, rfl, rfl⟩ rfl rfl rfl rfl rfl (by kernel_rfl) Try.func4 fnExactValidConsoleJ.joined
    (of_decide_eq_true (by kernel_rfl)) (by unfold Func.isWrapper; first | (rw [if_pos (by decide +kernel)]; kernel_rfl) | (rw [if_neg (by decide +kernel)]; exact ⟨rfl, rfl⟩))
    (fun os started H enc _ => lifted os started H enc)
theorem proved : Rows.FnExactValidConsoleSaid := over
#print axioms proved
end Go.Proofs.Ytdpggojdmabnkaa.fnExactValidConsole
namespace Go.Proofs.Ytdpggojdmabnkaa
/-- The row, under a short name, for the claim. -/
theorem fnExactValidConsole_holds : Rows.FnExactValidConsoleSaid := fnExactValidConsole.proved
end Go.Proofs.Ytdpggojdmabnkaa
