-- Written by a program of this session (wip/tools) over the kit's print.
-- COMPACT
import Derived.Test.YtpfoeologjacfaaV0
namespace Go.Proofs.Ytpfoeologjacfaa.V
open Go.RowKit Go.Proofs.YtpfoeologjacfaaW.PrintWords Go.Proofs.YtpfoeologjacfaaW.PrintLast Go.Proofs.YtpfoeologjacfaaW.PrintMore
attribute [local go_sem] max2_int min2_int max_two min_two max_three min_three max_four min_four   -- for this text's walks alone
set_option linter.unusedVariables false
set_option linter.unusedSimpArgs false

/-! ### spec_l09Strip: function 183 -/
def spec_l09Strip.f (a0_0 : Int) (a0_1 : Int) (a0_2 : Int) (a0_3 : Int) (a0_4 : Int) (a0_5 : Int) (a1 : Int) (a2 : Int) : Option ((List (S142))) := some (([(⟨0, 0, 0, 1, a2, wrap64 (a0_3 + a1), NRow.nil⟩ : S142), (⟨0, 1, 0, 1, a2, wrap64 (a0_4 + a1), NRow.nil⟩ : S142), (⟨4, 2, 0, 1, a2, a0_1, NRow.nil⟩ : S142), (⟨1, 0, 2, 1, a2, wrap64 (a0_2 + a1), NRow.nil⟩ : S142)] : List (S142)))
def spec_l09Strip.T1 : Bool × List (List Nat × List Nat) := (true, [([], []), ([], []), ([1], [1]), ([2], [2]), ([3], [3]), ([], []), ([4, 5], [4, 5]), ([0, 6], [0, 6]), ([], []), ([], []), ([9], [9]), ([10], [10]), ([11], [11]), ([], []), ([12, 13], [12, 13]), ([8, 14], [8, 14]), ([], []), ([], []), ([17], [17]), ([18], [18]), ([19], [19]), ([16, 20], [16, 20]), ([], []), ([], []), ([23], [23]), ([24], [24]), ([25], [25]), ([], []), ([26, 27], [26, 27]), ([22, 28], [22, 28]), ([7, 15, 21, 29], [7, 15, 21, 29]), ([30, 0, 1, 2, 3, 4, 5, 6, 7, 8, 9, 10, 11, 12, 13, 14, 15, 16, 17, 18, 19, 20, 21, 22, 23, 24, 25, 26, 27, 28, 29, 30], [30])])
def spec_l09Strip.B1 : List Nat := [0, 0, 2, 6, 14, 0, 62, 127, 0, 0, 512, 1536, 3584, 0, 15872, 32512, 0, 0, 131072, 393216, 917504, 2031616, 0, 0, 8388608, 25165824, 58720256, 0, 260046848, 532676608, 1073741823, 2147483647]
theorem spec_l09Strip.tab1 : rtab .any (opsOf Try.f183 1) = spec_l09Strip.T1 := by kernel_rfl
theorem spec_l09Strip.bits1 : waitsOk spec_l09Strip.T1.2 spec_l09Strip.B1 = true := by kernel_rfl
set_option maxHeartbeats 8000000 in
set_option maxRecDepth 100000 in
theorem spec_l09Strip.calls (B0 : Nat) (a0_0 : Int) (a0_1 : Int) (a0_2 : Int) (a0_3 : Int) (a0_4 : Int) (a0_5 : Int) (a1 : Int) (a2 : Int) (r : List (S142)) (w : World) (hb0 : w.heap[B0]? = some (.cells #[.int .i64 a0_0, .int .i64 a0_1, .int .i64 a0_2, .int .i64 a0_3, .int .i64 a0_4, .int .i64 a0_5] 25 (0, 0))) (h : spec_l09Strip.f a0_0 a0_1 a0_2 a0_3 a0_4 a0_5 a1 a2 = some r) :
  Calls Try.prog 183 #[.pointer (some ⟨B0, 0, none⟩), .int .i64 a1, .int .i64 a2] w fun e w' => ∃ v0_ : Value, e = .returned (v0_) ∧ Kd.R k142 142 w' w.heap.size (fun _ => True) v0_ r ∧ Below w.heap.size w w' := by
 have hu142 := Try.underlying142
 have BK0 := Aside0.mk hb0
 clear hb0
 have HB := Aside0.mk (Below.refl w.heap.size w)
 have H : (some (([(⟨0, 0, 0, 1, a2, wrap64 (a0_3 + a1), NRow.nil⟩ : S142), (⟨0, 1, 0, 1, a2, wrap64 (a0_4 + a1), NRow.nil⟩ : S142), (⟨4, 2, 0, 1, a2, a0_1, NRow.nil⟩ : S142), (⟨1, 0, 2, 1, a2, wrap64 (a0_2 + a1), NRow.nil⟩ : S142)] : List (S142)))) = some r := h
 clear h
 obtain ⟨y202, hy202⟩ : ∃ y_ : List (S142), y_ = (([(⟨0, 0, 0, 1, a2, wrap64 (a0_3 + a1), NRow.nil⟩ : S142), (⟨0, 1, 0, 1, a2, wrap64 (a0_4 + a1), NRow.nil⟩ : S142), (⟨4, 2, 0, 1, a2, a0_1, NRow.nil⟩ : S142), (⟨1, 0, 2, 1, a2, wrap64 (a0_2 + a1), NRow.nil⟩ : S142)] : List (S142))) := ⟨_, rfl⟩
 replace H : (some y202) = some r := by first | (rw [hy202]; with_reducible exact H) | (have H2_ := (Option.bind_some _ _).symm.trans H; rw [hy202]; with_reducible exact H2_) | (have H2_ := (Option.bind_some _ _).symm.trans H; with_reducible exact H2_) | with_reducible exact H | (rw [hy202]; exact H) | exact H
 have Ny202 := Aside0.mk hy202
 clear hy202
 obtain rfl := Option.some.inj H
 go_enter Try.func183, Try.ntmps183
 try go_wp2
 have n0_ := Aside0.mk (blk_drew BK0.out)
 have n1_ := Aside0.mk (below_drew1 HB.out)
 clear BK0
 clear HB
 have BK0 := n0_
 have HB := n1_
 clear n0_ n1_
 refine start_ (n := 32) (S := fun w' => w'.cell? ⟨B0, 0, none⟩ = some (.int .i64 a0_0) ∧ w'.cell? ⟨B0, 1, none⟩ = some (.int .i64 a0_1) ∧ w'.cell? ⟨B0, 2, none⟩ = some (.int .i64 a0_2) ∧ w'.cell? ⟨B0, 3, none⟩ = some (.int .i64 a0_3) ∧ w'.cell? ⟨B0, 4, none⟩ = some (.int .i64 a0_4) ∧ w'.cell? ⟨B0, 5, none⟩ = some (.int .i64 a0_5)) (ds := []) (zv_.bm 32 0) (by kernel_rfl) rfl rfl ⟨xvc BK0.out, xvc BK0.out, xvc BK0.out, xvc BK0.out, xvc BK0.out, xvc BK0.out⟩ (fun hHeld => ?_); refine with_tabW spec_l09Strip.tab1 spec_l09Strip.bits1 (fun HT_ HW_ => ?_)
 generalize w.drew = w4 at BK0 HB hHeld ⊢
 refine zv_.pa (i := 0) (N := some 7) (zv_.bm 32 1) HT_.out ?_
 refine zv_.pa (i := 1) (N := some 8) (zv_.bm 32 3) HT_.out ?_
 refine zv_.pa (i := 2) (N := some 9) (zv_.bm 32 7) HT_.out ?_
 refine zv_.pa (i := 3) (N := some 10) (zv_.bm 32 15) HT_.out ?_
 refine zv_.pa (i := 5) (N := some 12) (zv_.bm 32 47) HT_.out ?_
 refine zv_.pa (i := 8) (N := some 15) (zv_.bm 32 303) HT_.out ?_
 refine zv_.pa (i := 9) (N := some 16) (zv_.bm 32 815) HT_.out ?_
 refine zv_.pa (i := 10) (N := some 17) (zv_.bm 32 1839) HT_.out ?_
 refine zv_.pa (i := 11) (N := some 18) (zv_.bm 32 3887) HT_.out ?_
 refine zv_.pa (i := 13) (N := some 20) (zv_.bm 32 12079) HT_.out ?_
 refine zv_.pa (i := 16) (N := some 23) (zv_.bm 32 77615) HT_.out ?_
 refine zv_.pa (i := 17) (N := some 24) (zv_.bm 32 208687) HT_.out ?_
 refine zv_.pa (i := 18) (N := some 25) (zv_.bm 32 470831) HT_.out ?_
 refine zv_.pa (i := 19) (N := some 26) (zv_.bm 32 995119) HT_.out ?_
 refine zv_.pa (i := 22) (N := some 29) (zv_.bm 32 5189423) HT_.out ?_
 refine zv_.pa (i := 23) (N := some 30) (zv_.bm 32 13578031) HT_.out ?_
 refine zv_.pa (i := 24) (N := some 31) (zv_.bm 32 30355247) HT_.out ?_
 refine zv_.pa (i := 25) (N := some 32) (zv_.bm 32 63909679) HT_.out ?_
 refine zv_.pa (i := 27) (N := some 34) (zv_.bm 32 198127407) HT_.out ?_
 refine zv_.ta (i := 4) (N := some 11) (zv_.bm 32 198127423) rfl (take_ofW HT_.out HW_.out (by kernel_rfl)) (Or.inl ⟨(by rfl), wv13⟩) hHeld ?_
 refine zv_.pa (i := 6) (N := some 13) (zv_.bm 32 198127487) HT_.out ?_
 refine zv_.pa (i := 7) (N := some 14) (zv_.bm 32 198127615) HT_.out ?_
 refine zv_.ta (i := 12) (N := some 19) (zv_.bm 32 198131711) rfl (take_ofW HT_.out HW_.out (by kernel_rfl)) (Or.inl ⟨(by rfl), wv13⟩) hHeld ?_
 refine zv_.pa (i := 14) (N := some 21) (zv_.bm 32 198148095) HT_.out ?_
 refine zv_.pa (i := 15) (N := some 22) (zv_.bm 32 198180863) HT_.out ?_
 refine zv_.ta (i := 20) (N := some 27) (zv_.bm 32 199229439) rfl (take_ofW HT_.out HW_.out (by kernel_rfl)) (Or.inl ⟨(by rfl), wv13⟩) hHeld ?_
 refine zv_.pa (i := 21) (N := some 28) (zv_.bm 32 201326591) HT_.out ?_
 refine zv_.ta (i := 26) (N := some 33) (zv_.bm 32 268435455) rfl (take_ofW HT_.out HW_.out (by kernel_rfl)) (Or.inl ⟨(by rfl), wv13⟩) hHeld ?_
 refine zv_.pa (i := 28) (N := some 35) (zv_.bm 32 536870911) HT_.out ?_
 refine zv_.pa (i := 29) (N := some 36) (zv_.bm 32 1073741823) HT_.out ?_
 refine one_ (i := 30) (N := some 37) (zv_.bm 32 2147483647) rfl rfl (one_of HT_.out (by kernel_rfl)) (by decide) (fun K hK => ?_)
 refine Kd.R_lit_step k142 _ 142 ?hg (N := 37) ?hd (xs := ([(⟨0, 0, 0, 1, a2, wrap64 (a0_3 + a1), NRow.nil⟩ : S142), (⟨0, 1, 0, 1, a2, wrap64 (a0_4 + a1), NRow.nil⟩ : S142), (⟨4, 2, 0, 1, a2, a0_1, NRow.nil⟩ : S142), (⟨1, 0, 2, 1, a2, wrap64 (a0_2 + a1), NRow.nil⟩ : S142)] : List (S142))) (inner := [.int .i64 0, .int .i64 0, .int .i64 0, .int .i64 1, .int .i64 a2, .int .i64 (wrap64 (a0_3 + a1)), .slice none 0 0, .int .i64 0, .int .i64 1, .int .i64 0, .int .i64 1, .int .i64 a2, .int .i64 (wrap64 (a0_4 + a1)), .slice none 0 0, .int .i64 4, .int .i64 2, .int .i64 0, .int .i64 1, .int .i64 a2, .int .i64 a0_1, .slice none 0 0, .int .i64 1, .int .i64 0, .int .i64 2, .int .i64 1, .int .i64 a2, .int .i64 (wrap64 (a0_2 + a1)), .slice none 0 0]) (ok := fun _ => True) (okp := fun _ => True) ?hr ?hp (fun _ hk => hk) trivial (Below.refl _ _) (Nat.le_refl _) (by simp) ?_; (case hd => rfl); (case hg => rfl); (case hr => first | (go_simp; done) | (go_simp; rfl)); (case hp => exact (Reps.c7 (show Kd.M k142 _ _ _ (⟨0, 0, 0, 1, a2, wrap64 (a0_3 + a1), NRow.nil⟩ : S142) [.int .i64 0, .int .i64 0, .int .i64 0, .int .i64 1, .int .i64 a2, .int .i64 (wrap64 (a0_3 + a1)), .slice none 0 0] from (k142_mkM _ _ _ (⟨0, 0, 0, 1, a2, wrap64 (a0_3 + a1), NRow.nil⟩ : S142) )) (Reps.c7 (show Kd.M k142 _ _ _ (⟨0, 1, 0, 1, a2, wrap64 (a0_4 + a1), NRow.nil⟩ : S142) [.int .i64 0, .int .i64 1, .int .i64 0, .int .i64 1, .int .i64 a2, .int .i64 (wrap64 (a0_4 + a1)), .slice none 0 0] from (k142_mkM _ _ _ (⟨0, 1, 0, 1, a2, wrap64 (a0_4 + a1), NRow.nil⟩ : S142) )) (Reps.c7 (show Kd.M k142 _ _ _ (⟨4, 2, 0, 1, a2, a0_1, NRow.nil⟩ : S142) [.int .i64 4, .int .i64 2, .int .i64 0, .int .i64 1, .int .i64 a2, .int .i64 a0_1, .slice none 0 0] from (k142_mkM _ _ _ (⟨4, 2, 0, 1, a2, a0_1, NRow.nil⟩ : S142) )) (Reps.c7 (show Kd.M k142 _ _ _ (⟨1, 0, 2, 1, a2, wrap64 (a0_2 + a1), NRow.nil⟩ : S142) [.int .i64 1, .int .i64 0, .int .i64 2, .int .i64 1, .int .i64 a2, .int .i64 (wrap64 (a0_2 + a1)), .slice none 0 0] from (k142_mkM _ _ _ (⟨1, 0, 2, 1, a2, wrap64 (a0_2 + a1), NRow.nil⟩ : S142) )) (Reps.none _ _))))))
 intro v203 w5 ho6 hb hg_ hnew_
 clear hg_ hnew_
 (first | rw [← Ny202.out] at ho6 | (simp only [Int.reduceToNat] at ho6; rw [← Ny202.out] at ho6))
 have n0_ := Aside0.mk (Kd.R_lower ho6 (below_size wv58))
 have n1_ := Aside0.mk (blk_below (g := B0) (o := .cells #[.int .i64 a0_0, .int .i64 a0_1, .int .i64 a0_2, .int .i64 a0_3, .int .i64 a0_4, .int .i64 a0_5] 25 (0, 0)) (xvb BK0.out) hb)
 have n2_ := Aside0.mk (below_step wv58 hb)
 clear BK0
 clear HB
 have HO204 := n0_
 have BK0 := n1_
 have HB := n2_
 clear n0_ n1_ n2_
 clear hb ho6
 refine hK.out _ _ ⟨xvc BK0.out, xvc BK0.out, xvc BK0.out, xvc BK0.out, xvc BK0.out, xvc BK0.out⟩ (fun hHeld => ?_)
 clear hK K
 refine norm_ (a' := ?_) ?_ ?_
 rotate_left
 ·show Act.put _ (some 37) _ = _
  simp only [Act.put, List.setIfInBounds_toArray, List.set_cons_zero, List.set_cons_succ, i64_w, i32_w]
  rfl
 refine zv_.pa (i := 31) (N := some 6) (zv_.bm 32 4294967295) HT_.out ?_
 refine done_ (done_of HT_.out (by kernel_rfl)) ?_
 try go_wp2
 go_ret
 exact ⟨_, wv3, (xvr HO204.out), wv58⟩

end Go.Proofs.Ytpfoeologjacfaa.V
