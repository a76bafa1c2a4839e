-- Written by a program of this session (wip/tools) over the kit's print.
-- COMPACT
import Derived.Test.YtpfoeologjacfaaU0
import Derived.Test.YtpfoeologjacfaaU8
namespace Go.Proofs.Ytpfoeologjacfaa.U
open Go.RowKit Go.Proofs.YtpfoeologjacfaaW.PrintWords Go.Proofs.YtpfoeologjacfaaW.PrintLast Go.Proofs.YtpfoeologjacfaaW.PrintMore
attribute [local go_sem] max2_int min2_int max_two min_two max_three min_three max_four min_four   -- for this text's walks alone
set_option linter.unusedVariables false
set_option linter.unusedSimpArgs false

/-! ### impl_strip: function 189 -/
def impl_strip.f (a0_0 : Int) (a0_1 : Int) (a0_2 : Int) (a0_3 : Int) (a0_4 : Int) (a0_5 : Int) (a1 : Int) (a2 : Int) : Option ((List (S142))) := (impl_loads.f 0 a2 (wrap64 (a0_3 + a1))).bind fun bt393 => ((impl_loads.f 1 a2 (wrap64 (a0_4 + a1))).bind fun bt400 => ((impl_does.f a0_1 2 0 1 a2).bind fun bt407 => ((impl_stores.f 2 a2 (wrap64 (a0_2 + a1))).bind fun bt414 => (some (([(⟨bt393.1, bt393.2.1, bt393.2.2.1, bt393.2.2.2.1, bt393.2.2.2.2.1, bt393.2.2.2.2.2.1, bt393.2.2.2.2.2.2⟩ : S142), (⟨bt400.1, bt400.2.1, bt400.2.2.1, bt400.2.2.2.1, bt400.2.2.2.2.1, bt400.2.2.2.2.2.1, bt400.2.2.2.2.2.2⟩ : S142), (⟨bt407.1, bt407.2.1, bt407.2.2.1, bt407.2.2.2.1, bt407.2.2.2.2.1, bt407.2.2.2.2.2.1, bt407.2.2.2.2.2.2⟩ : S142), (⟨bt414.1, bt414.2.1, bt414.2.2.1, bt414.2.2.2.1, bt414.2.2.2.2.1, bt414.2.2.2.2.2.1, bt414.2.2.2.2.2.2⟩ : S142)] : List (S142)))))))
def impl_strip.T1 : Bool × List (List Nat × List Nat) := (true, [([], []), ([], []), ([1], [1]), ([], []), ([2, 3], [2, 3]), ([0, 4], [0, 4]), ([], []), ([], []), ([7], [7]), ([], []), ([8, 9], [8, 9]), ([6, 10, 5], [6, 10]), ([], []), ([12], [12]), ([], []), ([13, 14, 11], [13, 14]), ([], []), ([], []), ([17], [17]), ([], []), ([18, 19], [18, 19]), ([16, 20, 15], [16, 20]), ([5, 11, 15, 21], [5, 11, 15, 21]), ([22, 21, 0, 1, 2, 3, 4, 5, 6, 7, 8, 9, 10, 11, 12, 13, 14, 15, 16, 17, 18, 19, 20, 21, 22], [22])])
def impl_strip.B1 : List Nat := [0, 0, 2, 0, 14, 31, 0, 0, 128, 0, 896, 2047, 0, 4096, 0, 32767, 0, 0, 131072, 0, 917504, 2097151, 4194303, 8388607]
theorem impl_strip.tab1 : rtab .any (opsOf Try.f189 1) = impl_strip.T1 := by kernel_rfl
theorem impl_strip.bits1 : waitsOk impl_strip.T1.2 impl_strip.B1 = true := by kernel_rfl
set_option maxHeartbeats 8000000 in
set_option maxRecDepth 100000 in
theorem impl_strip.calls (a0_0 : Int) (a0_1 : Int) (a0_2 : Int) (a0_3 : Int) (a0_4 : Int) (a0_5 : Int) (a1 : Int) (a2 : Int) (r : List (S142)) (w : World) (h : impl_strip.f a0_0 a0_1 a0_2 a0_3 a0_4 a0_5 a1 a2 = some r) :
  Calls Try.prog 189 #[.agg #[.int .i64 a0_0, .int .i64 a0_1, .int .i64 a0_2, .int .i64 a0_3, .int .i64 a0_4, .int .i64 a0_5], .int .i64 a1, .int .i64 a2] w fun e w' => ∃ v0_ : Value, e = .returned (v0_) ∧ Kd.R k142 142 w' w.heap.size (fun _ => True) v0_ r ∧ Below w.heap.size w w' := by
 have hu25 := Try.underlying25
 have HB := Aside0.mk (Below.refl w.heap.size w)
 have H : ((impl_loads.f 0 a2 (wrap64 (a0_3 + a1))).bind fun bt393 => ((impl_loads.f 1 a2 (wrap64 (a0_4 + a1))).bind fun bt400 => ((impl_does.f a0_1 2 0 1 a2).bind fun bt407 => ((impl_stores.f 2 a2 (wrap64 (a0_2 + a1))).bind fun bt414 => (some (([(⟨bt393.1, bt393.2.1, bt393.2.2.1, bt393.2.2.2.1, bt393.2.2.2.2.1, bt393.2.2.2.2.2.1, bt393.2.2.2.2.2.2⟩ : S142), (⟨bt400.1, bt400.2.1, bt400.2.2.1, bt400.2.2.2.1, bt400.2.2.2.2.1, bt400.2.2.2.2.2.1, bt400.2.2.2.2.2.2⟩ : S142), (⟨bt407.1, bt407.2.1, bt407.2.2.1, bt407.2.2.2.1, bt407.2.2.2.2.1, bt407.2.2.2.2.2.1, bt407.2.2.2.2.2.2⟩ : S142), (⟨bt414.1, bt414.2.1, bt414.2.2.1, bt414.2.2.2.1, bt414.2.2.2.2.1, bt414.2.2.2.2.2.1, bt414.2.2.2.2.2.2⟩ : S142)] : List (S142)))))))) = some r := h
 clear h
 replace H := Option.bind_eq_some_iff.mp H
 obtain ⟨⟨t393, t394, t395, t396, t397, t398, t399⟩, A40, H⟩ := H
 replace H : ((impl_loads.f 1 a2 (wrap64 (a0_4 + a1))).bind fun bt400 => ((impl_does.f a0_1 2 0 1 a2).bind fun bt407 => ((impl_stores.f 2 a2 (wrap64 (a0_2 + a1))).bind fun bt414 => (some (([(⟨t393, t394, t395, t396, t397, t398, t399⟩ : S142), (⟨bt400.1, bt400.2.1, bt400.2.2.1, bt400.2.2.2.1, bt400.2.2.2.2.1, bt400.2.2.2.2.2.1, bt400.2.2.2.2.2.2⟩ : S142), (⟨bt407.1, bt407.2.1, bt407.2.2.1, bt407.2.2.2.1, bt407.2.2.2.2.1, bt407.2.2.2.2.2.1, bt407.2.2.2.2.2.2⟩ : S142), (⟨bt414.1, bt414.2.1, bt414.2.2.1, bt414.2.2.2.1, bt414.2.2.2.2.1, bt414.2.2.2.2.2.1, bt414.2.2.2.2.2.2⟩ : S142)] : List (S142))))))) = some r := H
 have A4 := Aside0.mk A40
 clear A40
 replace H := Option.bind_eq_some_iff.mp H
 obtain ⟨⟨t400, t401, t402, t403, t404, t405, t406⟩, A50, H⟩ := H
 replace H : ((impl_does.f a0_1 2 0 1 a2).bind fun bt407 => ((impl_stores.f 2 a2 (wrap64 (a0_2 + a1))).bind fun bt414 => (some (([(⟨t393, t394, t395, t396, t397, t398, t399⟩ : S142), (⟨t400, t401, t402, t403, t404, t405, t406⟩ : S142), (⟨bt407.1, bt407.2.1, bt407.2.2.1, bt407.2.2.2.1, bt407.2.2.2.2.1, bt407.2.2.2.2.2.1, bt407.2.2.2.2.2.2⟩ : S142), (⟨bt414.1, bt414.2.1, bt414.2.2.1, bt414.2.2.2.1, bt414.2.2.2.2.1, bt414.2.2.2.2.2.1, bt414.2.2.2.2.2.2⟩ : S142)] : List (S142)))))) = some r := H
 have A5 := Aside0.mk A50
 clear A50
 replace H := Option.bind_eq_some_iff.mp H
 obtain ⟨⟨t407, t408, t409, t410, t411, t412, t413⟩, A60, H⟩ := H
 replace H : ((impl_stores.f 2 a2 (wrap64 (a0_2 + a1))).bind fun bt414 => (some (([(⟨t393, t394, t395, t396, t397, t398, t399⟩ : S142), (⟨t400, t401, t402, t403, t404, t405, t406⟩ : S142), (⟨t407, t408, t409, t410, t411, t412, t413⟩ : S142), (⟨bt414.1, bt414.2.1, bt414.2.2.1, bt414.2.2.2.1, bt414.2.2.2.2.1, bt414.2.2.2.2.2.1, bt414.2.2.2.2.2.2⟩ : S142)] : List (S142))))) = some r := H
 have A6 := Aside0.mk A60
 clear A60
 replace H := Option.bind_eq_some_iff.mp H
 obtain ⟨⟨t414, t415, t416, t417, t418, t419, t420⟩, A70, H⟩ := H
 replace H : (some (([(⟨t393, t394, t395, t396, t397, t398, t399⟩ : S142), (⟨t400, t401, t402, t403, t404, t405, t406⟩ : S142), (⟨t407, t408, t409, t410, t411, t412, t413⟩ : S142), (⟨t414, t415, t416, t417, t418, t419, t420⟩ : S142)] : List (S142)))) = some r := H
 have A7 := Aside0.mk A70
 clear A70
 obtain ⟨y421, hy421⟩ : ∃ y_ : List (S142), y_ = (([(⟨t393, t394, t395, t396, t397, t398, t399⟩ : S142), (⟨t400, t401, t402, t403, t404, t405, t406⟩ : S142), (⟨t407, t408, t409, t410, t411, t412, t413⟩ : S142), (⟨t414, t415, t416, t417, t418, t419, t420⟩ : S142)] : List (S142))) := ⟨_, rfl⟩
 replace H : (some y421) = some r := by first | (rw [hy421]; with_reducible exact H) | (have H2_ := (Option.bind_some _ _).symm.trans H; rw [hy421]; with_reducible exact H2_) | (have H2_ := (Option.bind_some _ _).symm.trans H; with_reducible exact H2_) | with_reducible exact H | (rw [hy421]; exact H) | exact H
 have Ny421 := Aside0.mk hy421
 clear hy421
 obtain rfl := Option.some.inj H
 go_enter Try.func189, Try.ntmps189
 try go_wp2_with (first | ((with_reducible refine gate_dst (N := 3) rfl ?_); refine box_event ?hg (N := 3) ?hd (cs := #[.int .i64 a0_0, .int .i64 a0_1, .int .i64 a0_2, .int .i64 a0_3, .int .i64 a0_4, .int .i64 a0_5]) (t := 25) ?hr ?_; (case hd => rfl); (case hg => rfl); (case hr => first | (go_simp; done) | (go_simp; rfl)); intro gb392 hg w8 hbox hb; have n0_ := Aside0.mk (below_step (by repeat (first | (with_reducible first | exact HB.out | apply below_alloc | apply pw_below_drewN | apply below_drew1) | exact HB.out)) hb); have n1_ := Aside0.mk (hbox); have n2_ := Aside0.mk ((by rw [hg]; exact (below_size (by repeat (first | (with_reducible first | exact HB.out | apply below_alloc | apply pw_below_drewN | apply below_drew1) | exact HB.out))) : w.heap.size ≤ gb392)); have n3_ := Aside0.mk ((by rw [hg]; exact (below_size (by repeat (first | (with_reducible first | exact HB.out | apply below_alloc | apply pw_below_drewN | apply below_drew1) | exact HB.out))) : w.heap.size ≤ gb392)); clear HB; have HB := n0_; have BK392 := n1_; have GW392 := n2_; have GE392 := n3_; clear n0_ n1_ n2_ n3_; clear hb hbox hg))
 have n0_ := Aside0.mk (blk_drew BK392.out)
 have n1_ := Aside0.mk (below_drew1 HB.out)
 clear BK392
 clear HB
 have BK392 := n0_
 have HB := n1_
 clear n0_ n1_
 refine start_ (n := 24) (S := fun w' => w'.cell? ⟨gb392, 0, none⟩ = some (.int .i64 a0_0) ∧ w'.cell? ⟨gb392, 1, none⟩ = some (.int .i64 a0_1) ∧ w'.cell? ⟨gb392, 2, none⟩ = some (.int .i64 a0_2) ∧ w'.cell? ⟨gb392, 3, none⟩ = some (.int .i64 a0_3) ∧ w'.cell? ⟨gb392, 4, none⟩ = some (.int .i64 a0_4) ∧ w'.cell? ⟨gb392, 5, none⟩ = some (.int .i64 a0_5)) (ds := []) (zu_.bm 24 0) (by kernel_rfl) rfl rfl ⟨(blk_cell BK392.out 0).trans rfl, (blk_cell BK392.out 1).trans rfl, (blk_cell BK392.out 2).trans rfl, (blk_cell BK392.out 3).trans rfl, (blk_cell BK392.out 4).trans rfl, (blk_cell BK392.out 5).trans rfl⟩ (fun hHeld => ?_); refine with_tabW impl_strip.tab1 impl_strip.bits1 (fun HT_ HW_ => ?_)
 generalize w8.drew = w9 at BK392 HB hHeld ⊢
 refine zu_.pa (i := 0) (N := some 7) (zu_.bm 24 1) HT_.out ?_
 refine zu_.pa (i := 1) (N := some 8) (zu_.bm 24 3) HT_.out ?_
 refine zu_.pa (i := 3) (N := some 10) (zu_.bm 24 11) HT_.out ?_
 refine zu_.pa (i := 6) (N := some 13) (zu_.bm 24 75) HT_.out ?_
 refine zu_.pa (i := 7) (N := some 14) (zu_.bm 24 203) HT_.out ?_
 refine zu_.pa (i := 9) (N := some 16) (zu_.bm 24 715) HT_.out ?_
 refine zu_.pa (i := 12) (N := some 19) (zu_.bm 24 4811) HT_.out ?_
 refine zu_.pa (i := 14) (N := some 21) (zu_.bm 24 21195) HT_.out ?_
 refine zu_.pa (i := 16) (N := some 23) (zu_.bm 24 86731) HT_.out ?_
 refine zu_.pa (i := 17) (N := some 24) (zu_.bm 24 217803) HT_.out ?_
 refine zu_.pa (i := 19) (N := some 26) (zu_.bm 24 742091) HT_.out ?_
 refine zu_.ta (i := 2) (N := some 9) (zu_.bm 24 742095) rfl (take_ofW HT_.out HW_.out (by kernel_rfl)) (Or.inl ⟨by rfl, by rintro w' ⟨s0, s1, s2, s3, s4, s5⟩; go_simp; with_reducible rfl⟩) hHeld ?_
 refine zu_.pa (i := 4) (N := some 11) (zu_.bm 24 742111) HT_.out ?_
 refine zu_.ta (i := 8) (N := some 15) (zu_.bm 24 742367) rfl (take_ofW HT_.out HW_.out (by kernel_rfl)) (Or.inl ⟨by rfl, by rintro w' ⟨s0, s1, s2, s3, s4, s5⟩; go_simp; with_reducible rfl⟩) hHeld ?_
 refine zu_.pa (i := 10) (N := some 17) (zu_.bm 24 743391) HT_.out ?_
 refine zu_.ta (i := 13) (N := some 20) (zu_.bm 24 751583) rfl (take_ofW HT_.out HW_.out (by kernel_rfl)) (Or.inl ⟨by rfl, by rintro w' ⟨s0, s1, s2, s3, s4, s5⟩; go_simp; with_reducible rfl⟩) hHeld ?_
 refine zu_.ta (i := 18) (N := some 25) (zu_.bm 24 1013727) rfl (take_ofW HT_.out HW_.out (by kernel_rfl)) (Or.inl ⟨by rfl, by rintro w' ⟨s0, s1, s2, s3, s4, s5⟩; go_simp; with_reducible rfl⟩) hHeld ?_
 refine zu_.pa (i := 20) (N := some 27) (zu_.bm 24 2062303) HT_.out ?_
 refine one_ (i := 5) (N := some 12) (zu_.bm 24 2062335) rfl rfl (one_of HT_.out (by kernel_rfl)) (by decide) (fun K hK => ?_)
 refine goes_ Try.func185 (by kernel_rfl) rfl #[.int .i64 0, .int .i64 a2, .int .i64 (wrap64 (a0_3 + a1))] (by rfl) rfl rfl (by (try simp only [List.map_toArray, List.map_cons, List.map_nil]); first | done | rfl | (simp only [List.length_drop, List.length_take]; rfl)) ?_
 with_reducible refine (impl_loads.calls 0 a2 (wrap64 (a0_3 + a1)) t393 t394 t395 t396 t397 t398 t399 _ A4.out).mono ?_
 rintro e w10 ⟨rfl, hb⟩
 refine ⟨_, rfl, ?_⟩
 have n0_ := Aside0.mk (blk_below (g := gb392) (o := .cells #[.int .i64 a0_0, .int .i64 a0_1, .int .i64 a0_2, .int .i64 a0_3, .int .i64 a0_4, .int .i64 a0_5] 25 (0, 0)) (by (with_reducible repeat (first | refine blk_drewN ?_ _ | refine blk_drew ?_ | refine blk_alloc ?_ _)); exact BK392.out) hb)
 have n1_ := Aside0.mk (below_step (by repeat (first | (with_reducible first | exact HB.out | apply below_alloc | apply pw_below_drewN | apply below_drew1 | refine below_set ?_ GE392.out) | exact HB.out)) hb)
 clear BK392
 clear HB
 have BK392 := n0_
 have HB := n1_
 clear n0_ n1_
 (try clear hb)
 (try clear hb2)
 (try clear hk)
 (try clear hi)
 refine hK.out _ _ ⟨(blk_cell BK392.out 0).trans rfl, (blk_cell BK392.out 1).trans rfl, (blk_cell BK392.out 2).trans rfl, (blk_cell BK392.out 3).trans rfl, (blk_cell BK392.out 4).trans rfl, (blk_cell BK392.out 5).trans rfl⟩ (fun hHeld => ?_)
 clear hK K
 refine norm_ (a' := ?_) ?_ ?_
 rotate_left
 ·show Act.put _ (some 12) _ = _
  simp only [Act.put, List.setIfInBounds_toArray, List.set_cons_zero, List.set_cons_succ, i64_w, i32_w]
  rfl
 refine one_ (i := 11) (N := some 18) (zu_.bm 24 2064383) rfl rfl (one_of HT_.out (by kernel_rfl)) (by decide) (fun K hK => ?_)
 refine goes_ Try.func185 (by kernel_rfl) rfl #[.int .i64 1, .int .i64 a2, .int .i64 (wrap64 (a0_4 + a1))] (by rfl) rfl rfl (by (try simp only [List.map_toArray, List.map_cons, List.map_nil]); first | done | rfl | (simp only [List.length_drop, List.length_take]; rfl)) ?_
 with_reducible refine (impl_loads.calls 1 a2 (wrap64 (a0_4 + a1)) t400 t401 t402 t403 t404 t405 t406 _ A5.out).mono ?_
 rintro e w11 ⟨rfl, hb⟩
 refine ⟨_, rfl, ?_⟩
 have n0_ := Aside0.mk (blk_below (g := gb392) (o := .cells #[.int .i64 a0_0, .int .i64 a0_1, .int .i64 a0_2, .int .i64 a0_3, .int .i64 a0_4, .int .i64 a0_5] 25 (0, 0)) (by (with_reducible repeat (first | refine blk_drewN ?_ _ | refine blk_drew ?_ | refine blk_alloc ?_ _)); exact BK392.out) hb)
 have n1_ := Aside0.mk (below_step (by repeat (first | (with_reducible first | exact HB.out | apply below_alloc | apply pw_below_drewN | apply below_drew1 | refine below_set ?_ GE392.out) | exact HB.out)) hb)
 clear BK392
 clear HB
 have BK392 := n0_
 have HB := n1_
 clear n0_ n1_
 (try clear hb)
 (try clear hb2)
 (try clear hk)
 (try clear hi)
 refine hK.out _ _ ⟨(blk_cell BK392.out 0).trans rfl, (blk_cell BK392.out 1).trans rfl, (blk_cell BK392.out 2).trans rfl, (blk_cell BK392.out 3).trans rfl, (blk_cell BK392.out 4).trans rfl, (blk_cell BK392.out 5).trans rfl⟩ (fun hHeld => ?_)
 clear hK K
 refine norm_ (a' := ?_) ?_ ?_
 rotate_left
 ·show Act.put _ (some 18) _ = _
  simp only [Act.put, List.setIfInBounds_toArray, List.set_cons_zero, List.set_cons_succ, i64_w, i32_w]
  rfl
 refine one_ (i := 15) (N := some 22) (zu_.bm 24 2097151) rfl rfl (one_of HT_.out (by kernel_rfl)) (by decide) (fun K hK => ?_)
 refine goes_ Try.func186 (by kernel_rfl) rfl #[.int .i64 a0_1, .int .i64 2, .int .i64 0, .int .i64 1, .int .i64 a2] (by rfl) rfl rfl (by (try simp only [List.map_toArray, List.map_cons, List.map_nil]); first | done | rfl | (simp only [List.length_drop, List.length_take]; rfl)) ?_
 with_reducible refine (impl_does.calls a0_1 2 0 1 a2 t407 t408 t409 t410 t411 t412 t413 _ A6.out).mono ?_
 rintro e w12 ⟨rfl, hb⟩
 refine ⟨_, rfl, ?_⟩
 have n0_ := Aside0.mk (blk_below (g := gb392) (o := .cells #[.int .i64 a0_0, .int .i64 a0_1, .int .i64 a0_2, .int .i64 a0_3, .int .i64 a0_4, .int .i64 a0_5] 25 (0, 0)) (by (with_reducible repeat (first | refine blk_drewN ?_ _ | refine blk_drew ?_ | refine blk_alloc ?_ _)); exact BK392.out) hb)
 have n1_ := Aside0.mk (below_step (by repeat (first | (with_reducible first | exact HB.out | apply below_alloc | apply pw_below_drewN | apply below_drew1 | refine below_set ?_ GE392.out) | exact HB.out)) hb)
 clear BK392
 clear HB
 have BK392 := n0_
 have HB := n1_
 clear n0_ n1_
 (try clear hb)
 (try clear hb2)
 (try clear hk)
 (try clear hi)
 refine hK.out _ _ ⟨(blk_cell BK392.out 0).trans rfl, (blk_cell BK392.out 1).trans rfl, (blk_cell BK392.out 2).trans rfl, (blk_cell BK392.out 3).trans rfl, (blk_cell BK392.out 4).trans rfl, (blk_cell BK392.out 5).trans rfl⟩ (fun hHeld => ?_)
 clear hK K
 refine norm_ (a' := ?_) ?_ ?_
 rotate_left
 ·show Act.put _ (some 22) _ = _
  simp only [Act.put, List.setIfInBounds_toArray, List.set_cons_zero, List.set_cons_succ, i64_w, i32_w]
  rfl
 refine one_ (i := 21) (N := some 28) (zu_.bm 24 4194303) rfl rfl (one_of HT_.out (by kernel_rfl)) (by decide) (fun K hK => ?_)
 refine goes_ Try.func188 (by kernel_rfl) rfl #[.int .i64 2, .int .i64 a2, .int .i64 (wrap64 (a0_2 + a1))] (by rfl) rfl rfl (by (try simp only [List.map_toArray, List.map_cons, List.map_nil]); first | done | rfl | (simp only [List.length_drop, List.length_take]; rfl)) ?_
 with_reducible refine (impl_stores.calls 2 a2 (wrap64 (a0_2 + a1)) t414 t415 t416 t417 t418 t419 t420 _ A7.out).mono ?_
 rintro e w13 ⟨rfl, hb⟩
 refine ⟨_, rfl, ?_⟩
 have n0_ := Aside0.mk (blk_below (g := gb392) (o := .cells #[.int .i64 a0_0, .int .i64 a0_1, .int .i64 a0_2, .int .i64 a0_3, .int .i64 a0_4, .int .i64 a0_5] 25 (0, 0)) (by (with_reducible repeat (first | refine blk_drewN ?_ _ | refine blk_drew ?_ | refine blk_alloc ?_ _)); exact BK392.out) hb)
 have n1_ := Aside0.mk (below_step (by repeat (first | (with_reducible first | exact HB.out | apply below_alloc | apply pw_below_drewN | apply below_drew1 | refine below_set ?_ GE392.out) | exact HB.out)) hb)
 clear BK392
 clear HB
 have BK392 := n0_
 have HB := n1_
 clear n0_ n1_
 (try clear hb)
 (try clear hb2)
 (try clear hk)
 (try clear hi)
 refine hK.out _ _ ⟨(blk_cell BK392.out 0).trans rfl, (blk_cell BK392.out 1).trans rfl, (blk_cell BK392.out 2).trans rfl, (blk_cell BK392.out 3).trans rfl, (blk_cell BK392.out 4).trans rfl, (blk_cell BK392.out 5).trans rfl⟩ (fun hHeld => ?_)
 clear hK K
 refine norm_ (a' := ?_) ?_ ?_
 rotate_left
 ·show Act.put _ (some 28) _ = _
  simp only [Act.put, List.setIfInBounds_toArray, List.set_cons_zero, List.set_cons_succ, i64_w, i32_w]
  rfl
 refine one_ (i := 22) (N := some 29) (zu_.bm 24 8388607) rfl rfl (one_of HT_.out (by kernel_rfl)) (by decide) (fun K hK => ?_)
 refine Kd.R_lit_step k142 _ 142 ?hg (N := 29) ?hd (xs := ([(⟨t393, t394, t395, t396, t397, t398, t399⟩ : S142), (⟨t400, t401, t402, t403, t404, t405, t406⟩ : S142), (⟨t407, t408, t409, t410, t411, t412, t413⟩ : S142), (⟨t414, t415, t416, t417, t418, t419, t420⟩ : S142)] : List (S142))) (inner := [.int .i64 t393, .int .i64 t394, .int .i64 t395, .int .i64 t396, .int .i64 t397, .int .i64 t398, .slice none 0 0, .int .i64 t400, .int .i64 t401, .int .i64 t402, .int .i64 t403, .int .i64 t404, .int .i64 t405, .slice none 0 0, .int .i64 t407, .int .i64 t408, .int .i64 t409, .int .i64 t410, .int .i64 t411, .int .i64 t412, .slice none 0 0, .int .i64 t414, .int .i64 t415, .int .i64 t416, .int .i64 t417, .int .i64 t418, .int .i64 t419, .slice none 0 0]) (ok := fun _ => True) (okp := fun _ => True) ?hr ?hp (fun _ hk => hk) trivial (Below.refl _ _) (Nat.le_refl _) (by simp) ?_; (case hd => rfl); (case hg => rfl); (case hr => first | (go_simp; done) | (go_simp; rfl)); (case hp => exact (Reps.c7 (show Kd.M k142 _ _ _ (⟨t393, t394, t395, t396, t397, t398, t399⟩ : S142) [.int .i64 t393, .int .i64 t394, .int .i64 t395, .int .i64 t396, .int .i64 t397, .int .i64 t398, .slice none 0 0] from (k142_mkM _ _ _ (⟨t393, t394, t395, t396, t397, t398, t399⟩ : S142) )) (Reps.c7 (show Kd.M k142 _ _ _ (⟨t400, t401, t402, t403, t404, t405, t406⟩ : S142) [.int .i64 t400, .int .i64 t401, .int .i64 t402, .int .i64 t403, .int .i64 t404, .int .i64 t405, .slice none 0 0] from (k142_mkM _ _ _ (⟨t400, t401, t402, t403, t404, t405, t406⟩ : S142) )) (Reps.c7 (show Kd.M k142 _ _ _ (⟨t407, t408, t409, t410, t411, t412, t413⟩ : S142) [.int .i64 t407, .int .i64 t408, .int .i64 t409, .int .i64 t410, .int .i64 t411, .int .i64 t412, .slice none 0 0] from (k142_mkM _ _ _ (⟨t407, t408, t409, t410, t411, t412, t413⟩ : S142) )) (Reps.c7 (show Kd.M k142 _ _ _ (⟨t414, t415, t416, t417, t418, t419, t420⟩ : S142) [.int .i64 t414, .int .i64 t415, .int .i64 t416, .int .i64 t417, .int .i64 t418, .int .i64 t419, .slice none 0 0] from (k142_mkM _ _ _ (⟨t414, t415, t416, t417, t418, t419, t420⟩ : S142) )) (Reps.none _ _))))))
 intro v422 w14 ho15 hb hg_ hnew_
 clear hg_ hnew_
 (first | rw [← Ny421.out] at ho15 | (simp only [Int.reduceToNat] at ho15; rw [← Ny421.out] at ho15))
 have n0_ := Aside0.mk (Kd.R_lower ho15 (below_size (by repeat (first | (with_reducible first | exact HB.out | apply below_alloc | apply pw_below_drewN | apply below_drew1 | refine below_set ?_ GE392.out) | exact HB.out))))
 have n1_ := Aside0.mk (blk_below (g := gb392) (o := .cells #[.int .i64 a0_0, .int .i64 a0_1, .int .i64 a0_2, .int .i64 a0_3, .int .i64 a0_4, .int .i64 a0_5] 25 (0, 0)) (by (with_reducible repeat (first | refine blk_drewN ?_ _ | refine blk_drew ?_ | refine blk_alloc ?_ _)); exact BK392.out) hb)
 have n2_ := Aside0.mk (below_step (by repeat (first | (with_reducible first | exact HB.out | apply below_alloc | apply pw_below_drewN | apply below_drew1 | refine below_set ?_ GE392.out) | exact HB.out)) hb)
 clear BK392
 clear HB
 have HO423 := n0_
 have BK392 := n1_
 have HB := n2_
 clear n0_ n1_ n2_
 clear hb ho15
 refine hK.out _ _ ⟨(blk_cell BK392.out 0).trans rfl, (blk_cell BK392.out 1).trans rfl, (blk_cell BK392.out 2).trans rfl, (blk_cell BK392.out 3).trans rfl, (blk_cell BK392.out 4).trans rfl, (blk_cell BK392.out 5).trans rfl⟩ (fun hHeld => ?_)
 clear hK K
 refine norm_ (a' := ?_) ?_ ?_
 rotate_left
 ·show Act.put _ (some 29) _ = _
  simp only [Act.put, List.setIfInBounds_toArray, List.set_cons_zero, List.set_cons_succ, i64_w, i32_w]
  rfl
 refine zu_.pa (i := 23) (N := some 6) (zu_.bm 24 16777215) HT_.out ?_
 refine done_ (done_of HT_.out (by kernel_rfl)) ?_
 try go_wp2
 go_ret
 exact ⟨_, by first | rfl | (simp [errW_none, errW_some] <;> rfl) | (simp [*, errW_none, errW_some] <;> rfl), by (with_reducible repeat (first | apply Kd.R_alloc | apply Kd.R_drewN | apply Kd.R_drew)); exact HO423.out, by repeat (first | (with_reducible first | exact HB.out | apply below_alloc | apply pw_below_drewN | apply below_drew1 | refine below_set ?_ GE392.out) | exact HB.out)⟩

end Go.Proofs.Ytpfoeologjacfaa.U
