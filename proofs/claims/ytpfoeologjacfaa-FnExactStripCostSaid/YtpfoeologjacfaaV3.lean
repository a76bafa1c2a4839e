-- Written by a program of this session (wip/tools) over the kit's print.
-- COMPACT
import Derived.Test.YtpfoeologjacfaaV0
namespace Go.Proofs.Ytpfoeologjacfaa.V
open Go.RowKit Go.Proofs.YtpfoeologjacfaaW.PrintWords Go.Proofs.YtpfoeologjacfaaW.PrintLast Go.Proofs.YtpfoeologjacfaaW.PrintMore
attribute [local go_sem] max2_int min2_int max_two min_two max_three min_three max_four min_four   -- for this text's walks alone
set_option linter.unusedVariables false
set_option linter.unusedSimpArgs false

/-! ### spec_l09Mask: function 184 -/
def spec_l09Mask.f (a0 : Int) : Option ((List (S142))) := some (([(⟨9, 7, 0, 1, (-1), 0, NRow.nil⟩ : S142), (⟨8, 6, 0, 0, (-1), a0, NRow.nil⟩ : S142), (⟨5, 3, 7, 6, (-1), 2, NRow.nil⟩ : S142)] : List (S142)))
set_option maxHeartbeats 8000000 in
set_option maxRecDepth 100000 in
theorem spec_l09Mask.calls (a0 : Int) (r : List (S142)) (w : World) (h : spec_l09Mask.f a0 = some r) :
  Calls Try.prog 184 #[.int .i64 a0] w fun e w' => ∃ v0_ : Value, e = .returned (v0_) ∧ Kd.R k142 142 w' w.heap.size (fun _ => True) v0_ r ∧ Below w.heap.size w w' := by
 have hu142 := Try.underlying142
 have HB := Aside0.mk (Below.refl w.heap.size w)
 have H : (some (([(⟨9, 7, 0, 1, (-1), 0, NRow.nil⟩ : S142), (⟨8, 6, 0, 0, (-1), a0, NRow.nil⟩ : S142), (⟨5, 3, 7, 6, (-1), 2, NRow.nil⟩ : S142)] : List (S142)))) = some r := h
 clear h
 obtain ⟨y127, hy127⟩ : ∃ y_ : List (S142), y_ = (([(⟨9, 7, 0, 1, (-1), 0, NRow.nil⟩ : S142), (⟨8, 6, 0, 0, (-1), a0, NRow.nil⟩ : S142), (⟨5, 3, 7, 6, (-1), 2, NRow.nil⟩ : S142)] : List (S142))) := ⟨_, rfl⟩
 replace H : (some y127) = some r := by first | (rw [hy127]; with_reducible exact H) | (have H2_ := (Option.bind_some _ _).symm.trans H; rw [hy127]; with_reducible exact H2_) | (have H2_ := (Option.bind_some _ _).symm.trans H; with_reducible exact H2_) | with_reducible exact H | (rw [hy127]; exact H) | exact H
 have Ny127 := Aside0.mk hy127
 clear hy127
 obtain rfl := Option.some.inj H
 go_enter Try.func184, Try.ntmps184
 go_wp2_with (first | ((with_reducible refine gate_dst (N := 7) rfl ?_); refine Kd.R_lit k142 _ 142 ?hg (N := 7) ?hd (xs := ([(⟨9, 7, 0, 1, (-1), 0, NRow.nil⟩ : S142), (⟨8, 6, 0, 0, (-1), a0, NRow.nil⟩ : S142), (⟨5, 3, 7, 6, (-1), 2, NRow.nil⟩ : S142)] : List (S142))) (inner := [.int .i64 9, .int .i64 7, .int .i64 0, .int .i64 1, .int .i64 (-1), .int .i64 0, .slice none 0 0, .int .i64 8, .int .i64 6, .int .i64 0, .int .i64 0, .int .i64 (-1), .int .i64 a0, .slice none 0 0, .int .i64 5, .int .i64 3, .int .i64 7, .int .i64 6, .int .i64 (-1), .int .i64 2, .slice none 0 0]) (ok := fun _ => True) (okp := fun _ => True) ?hr ?hp (fun _ hk => hk) trivial (Below.refl _ _) (Nat.le_refl _) (by simp) ?_; (case hd => rfl); (case hg => rfl); (case hr => first | (go_simp; done) | (go_simp; rfl)); (case hp => exact (Reps.c7 (show Kd.M k142 _ _ _ (⟨9, 7, 0, 1, (-1), 0, NRow.nil⟩ : S142) [.int .i64 9, .int .i64 7, .int .i64 0, .int .i64 1, .int .i64 (-1), .int .i64 0, .slice none 0 0] from (k142_mkM _ _ _ (⟨9, 7, 0, 1, (-1), 0, NRow.nil⟩ : S142) )) (Reps.c7 (show Kd.M k142 _ _ _ (⟨8, 6, 0, 0, (-1), a0, NRow.nil⟩ : S142) [.int .i64 8, .int .i64 6, .int .i64 0, .int .i64 0, .int .i64 (-1), .int .i64 a0, .slice none 0 0] from (k142_mkM _ _ _ (⟨8, 6, 0, 0, (-1), a0, NRow.nil⟩ : S142) )) (Reps.c7 (show Kd.M k142 _ _ _ (⟨5, 3, 7, 6, (-1), 2, NRow.nil⟩ : S142) [.int .i64 5, .int .i64 3, .int .i64 7, .int .i64 6, .int .i64 (-1), .int .i64 2, .slice none 0 0] from (k142_mkM _ _ _ (⟨5, 3, 7, 6, (-1), 2, NRow.nil⟩ : S142) )) (Reps.none _ _))))); intro v128 w2 ho3 hb hg_ hnew_; clear hg_ hnew_; (first | rw [← Ny127.out] at ho3 | (simp only [Int.reduceToNat] at ho3; rw [← Ny127.out] at ho3)); have n0_ := Aside0.mk (Kd.R_lower ho3 (below_size (xvo HB.out))); have n1_ := Aside0.mk (below_step (xvo HB.out) hb); clear HB; have HO129 := n0_; have HB := n1_; clear n0_ n1_; clear hb ho3))
 go_ret
 exact ⟨_, wv3, (xvr HO129.out), (xvo HB.out)⟩

end Go.Proofs.Ytpfoeologjacfaa.V
