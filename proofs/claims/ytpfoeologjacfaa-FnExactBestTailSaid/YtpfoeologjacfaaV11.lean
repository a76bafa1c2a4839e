-- Written by a program of this session (wip/tools) over the kit's print.
-- COMPACT
import Derived.Test.YtpfoeologjacfaaV0
import Derived.Test.YtpfoeologjacfaaV9
namespace Go.Proofs.Ytpfoeologjacfaa.V
open Go.RowKit Go.Proofs.YtpfoeologjacfaaW.PrintWords Go.Proofs.YtpfoeologjacfaaW.PrintLast Go.Proofs.YtpfoeologjacfaaW.PrintMore
attribute [local go_sem] max2_int min2_int max_two min_two max_three min_three max_four min_four   -- for this text's walks alone
set_option linter.unusedVariables false
set_option linter.unusedSimpArgs false

/-! ### impl_strip: function 189 -/
def impl_strip.f (a0_0 : Int) (a0_1 : Int) (a0_2 : Int) (a0_3 : Int) (a0_4 : Int) (a0_5 : Int) (a1 : Int) (a2 : Int) : Option ((List (S142))) := (impl_loads.f 0 a2 (wrap64 (a0_3 + a1))).bind fun bt400 => ((impl_loads.f 1 a2 (wrap64 (a0_4 + a1))).bind fun bt407 => ((impl_does.f a0_1 2 0 1 a2).bind fun bt414 => ((impl_stores.f 2 a2 (wrap64 (a0_2 + a1))).bind fun bt421 => (some (([(⟨bt400.1, bt400.2.1, bt400.2.2.1, bt400.2.2.2.1, bt400.2.2.2.2.1, bt400.2.2.2.2.2.1, bt400.2.2.2.2.2.2⟩ : S142), (⟨bt407.1, bt407.2.1, bt407.2.2.1, bt407.2.2.2.1, bt407.2.2.2.2.1, bt407.2.2.2.2.2.1, bt407.2.2.2.2.2.2⟩ : S142), (⟨bt414.1, bt414.2.1, bt414.2.2.1, bt414.2.2.2.1, bt414.2.2.2.2.1, bt414.2.2.2.2.2.1, bt414.2.2.2.2.2.2⟩ : S142), (⟨bt421.1, bt421.2.1, bt421.2.2.1, bt421.2.2.2.1, bt421.2.2.2.2.1, bt421.2.2.2.2.2.1, bt421.2.2.2.2.2.2⟩ : S142)] : List (S142)))))))
def impl_strip.T1 : Bool × List (List Nat × List Nat) := (true, [([], []), ([], []), ([1], [1]), ([], []), ([2, 3], [2, 3]), ([0, 4], [0, 4]), ([], []), ([], []), ([7], [7]), ([], []), ([8, 9], [8, 9]), ([6, 10, 5], [6, 10]), ([], []), ([12], [12]), ([], []), ([13, 14, 11], [13, 14]), ([], []), ([], []), ([17], [17]), ([], []), ([18, 19], [18, 19]), ([16, 20, 15], [16, 20]), ([5, 11, 15, 21], [5, 11, 15, 21]), ([22, 21, 0, 1, 2, 3, 4, 5, 6, 7, 8, 9, 10, 11, 12, 13, 14, 15, 16, 17, 18, 19, 20, 21, 22], [22])])
def impl_strip.B1 : List Nat := [0, 0, 2, 0, 14, 31, 0, 0, 128, 0, 896, 2047, 0, 4096, 0, 32767, 0, 0, 131072, 0, 917504, 2097151, 4194303, 8388607]
theorem impl_strip.tab1 : rtab .any (opsOf Try.f189 1) = impl_strip.T1 := by kernel_rfl
theorem impl_strip.bits1 : waitsOk impl_strip.T1.2 impl_strip.B1 = true := by kernel_rfl
set_option maxHeartbeats 8000000 in
set_option maxRecDepth 100000 in
theorem impl_strip.calls (a0_0 : Int) (a0_1 : Int) (a0_2 : Int) (a0_3 : Int) (a0_4 : Int) (a0_5 : Int) (a1 : Int) (a2 : Int) (r : List (S142)) (w : World) (h : impl_strip.f a0_0 a0_1 a0_2 a0_3 a0_4 a0_5 a1 a2 = some r) :
  Calls Try.prog 189 #[.agg #[.int .i64 a0_0, .int .i64 a0_1, .int .i64 a0_2, .int .i64 a0_3, .int .i64 a0_4, .int .i64 a0_5], .int .i64 a1, .int .i64 a2] w fun e w' => ∃ v0_ : Value, e = .returned (v0_) ∧ Kd.R k142 142 w' w.heap.size (fun _ => True) v0_ r ∧ Below w.heap.size w w' := by
 have hu25 := Try.underlying25
 have HB := Aside0.mk (Below.refl w.heap.size w)
 have H : ((impl_loads.f 0 a2 (wrap64 (a0_3 + a1))).bind fun bt400 => ((impl_loads.f 1 a2 (wrap64 (a0_4 + a1))).bind fun bt407 => ((impl_does.f a0_1 2 0 1 a2).bind fun bt414 => ((impl_stores.f 2 a2 (wrap64 (a0_2 + a1))).bind fun bt421 => (some (([(⟨bt400.1, bt400.2.1, bt400.2.2.1, bt400.2.2.2.1, bt400.2.2.2.2.1, bt400.2.2.2.2.2.1, bt400.2.2.2.2.2.2⟩ : S142), (⟨bt407.1, bt407.2.1, bt407.2.2.1, bt407.2.2.2.1, bt407.2.2.2.2.1, bt407.2.2.2.2.2.1, bt407.2.2.2.2.2.2⟩ : S142), (⟨bt414.1, bt414.2.1, bt414.2.2.1, bt414.2.2.2.1, bt414.2.2.2.2.1, bt414.2.2.2.2.2.1, bt414.2.2.2.2.2.2⟩ : S142), (⟨bt421.1, bt421.2.1, bt421.2.2.1, bt421.2.2.2.1, bt421.2.2.2.2.1, bt421.2.2.2.2.2.1, bt421.2.2.2.2.2.2⟩ : S142)] : List (S142)))))))) = some r := h
 clear h
 replace H := Option.bind_eq_some_iff.mp H
 obtain ⟨⟨t400, t401, t402, t403, t404, t405, t406⟩, A40, H⟩ := H
 replace H : ((impl_loads.f 1 a2 (wrap64 (a0_4 + a1))).bind fun bt407 => ((impl_does.f a0_1 2 0 1 a2).bind fun bt414 => ((impl_stores.f 2 a2 (wrap64 (a0_2 + a1))).bind fun bt421 => (some (([(⟨t400, t401, t402, t403, t404, t405, t406⟩ : S142), (⟨bt407.1, bt407.2.1, bt407.2.2.1, bt407.2.2.2.1, bt407.2.2.2.2.1, bt407.2.2.2.2.2.1, bt407.2.2.2.2.2.2⟩ : S142), (⟨bt414.1, bt414.2.1, bt414.2.2.1, bt414.2.2.2.1, bt414.2.2.2.2.1, bt414.2.2.2.2.2.1, bt414.2.2.2.2.2.2⟩ : S142), (⟨bt421.1, bt421.2.1, bt421.2.2.1, bt421.2.2.2.1, bt421.2.2.2.2.1, bt421.2.2.2.2.2.1, bt421.2.2.2.2.2.2⟩ : S142)] : List (S142))))))) = some r := H
 have A4 := Aside0.mk A40
 clear A40
 replace H := Option.bind_eq_some_iff.mp H
 obtain ⟨⟨t407, t408, t409, t410, t411, t412, t413⟩, A50, H⟩ := H
 replace H : ((impl_does.f a0_1 2 0 1 a2).bind fun bt414 => ((impl_stores.f 2 a2 (wrap64 (a0_2 + a1))).bind fun bt421 => (some (([(⟨t400, t401, t402, t403, t404, t405, t406⟩ : S142), (⟨t407, t408, t409, t410, t411, t412, t413⟩ : S142), (⟨bt414.1, bt414.2.1, bt414.2.2.1, bt414.2.2.2.1, bt414.2.2.2.2.1, bt414.2.2.2.2.2.1, bt414.2.2.2.2.2.2⟩ : S142), (⟨bt421.1, bt421.2.1, bt421.2.2.1, bt421.2.2.2.1, bt421.2.2.2.2.1, bt421.2.2.2.2.2.1, bt421.2.2.2.2.2.2⟩ : S142)] : List (S142)))))) = some r := H
 have A5 := Aside0.mk A50
 clear A50
 replace H := Option.bind_eq_some_iff.mp H
 obtain ⟨⟨t414, t415, t416, t417, t418, t419, t420⟩, A60, H⟩ := H
 replace H : ((impl_stores.f 2 a2 (wrap64 (a0_2 + a1))).bind fun bt421 => (some (([(⟨t400, t401, t402, t403, t404, t405, t406⟩ : S142), (⟨t407, t408, t409, t410, t411, t412, t413⟩ : S142), (⟨t414, t415, t416, t417, t418, t419, t420⟩ : S142), (⟨bt421.1, bt421.2.1, bt421.2.2.1, bt421.2.2.2.1, bt421.2.2.2.2.1, bt421.2.2.2.2.2.1, bt421.2.2.2.2.2.2⟩ : S142)] : List (S142))))) = some r := H
 have A6 := Aside0.mk A60
 clear A60
 replace H := Option.bind_eq_some_iff.mp H
 obtain ⟨⟨t421, t422, t423, t424, t425, t426, t427⟩, A70, H⟩ := H
 replace H : (some (([(⟨t400, t401, t402, t403, t404, t405, t406⟩ : S142), (⟨t407, t408, t409, t410, t411, t412, t413⟩ : S142), (⟨t414, t415, t416, t417, t418, t419, t420⟩ : S142), (⟨t421, t422, t423, t424, t425, t426, t427⟩ : S142)] : List (S142)))) = some r := H
 have A7 := Aside0.mk A70
 clear A70
 obtain ⟨y428, hy428⟩ : ∃ y_ : List (S142), y_ = (([(⟨t400, t401, t402, t403, t404, t405, t406⟩ : S142), (⟨t407, t408, t409, t410, t411, t412, t413⟩ : S142), (⟨t414, t415, t416, t417, t418, t419, t420⟩ : S142), (⟨t421, t422, t423, t424, t425, t426, t427⟩ : S142)] : List (S142))) := ⟨_, rfl⟩
 replace H : (some y428) = some r := by first | (rw [hy428]; with_reducible exact H) | (have H2_ := (Option.bind_some _ _).symm.trans H; rw [hy428]; with_reducible exact H2_) | (have H2_ := (Option.bind_some _ _).symm.trans H; with_reducible exact H2_) | with_reducible exact H | (rw [hy428]; exact H) | exact H
 have Ny428 := Aside0.mk hy428
 clear hy428
 obtain rfl := Option.some.inj H
 go_enter Try.func189, Try.ntmps189
 try go_wp2_with (first | ((with_reducible refine gate_dst (N := 3) rfl ?_); refine box_event ?hg (N := 3) ?hd (cs := #[.int .i64 a0_0, .int .i64 a0_1, .int .i64 a0_2, .int .i64 a0_3, .int .i64 a0_4, .int .i64 a0_5]) (t := 25) ?hr ?_; (case hd => rfl); (case hg => rfl); (case hr => first | (go_simp; done) | (go_simp; rfl)); intro gb399 hg w8 hbox hb; have n0_ := Aside0.mk (below_step (xvo HB.out) hb); have n1_ := Aside0.mk (hbox); have n2_ := Aside0.mk ((by rw [hg]; exact (below_size (xvo HB.out)) : w.heap.size ≤ gb399)); have n3_ := Aside0.mk ((by rw [hg]; exact (below_size (xvo HB.out)) : w.heap.size ≤ gb399)); clear HB; have HB := n0_; have BK399 := n1_; have GW399 := n2_; have GE399 := n3_; clear n0_ n1_ n2_ n3_; clear hb hbox hg))
 have n0_ := Aside0.mk (blk_drew BK399.out)
 have n1_ := Aside0.mk (below_drew1 HB.out)
 clear BK399
 clear HB
 have BK399 := n0_
 have HB := n1_
 clear n0_ n1_
 refine start_ (n := 24) (S := fun w' => w'.cell? ⟨gb399, 0, none⟩ = some (.int .i64 a0_0) ∧ w'.cell? ⟨gb399, 1, none⟩ = some (.int .i64 a0_1) ∧ w'.cell? ⟨gb399, 2, none⟩ = some (.int .i64 a0_2) ∧ w'.cell? ⟨gb399, 3, none⟩ = some (.int .i64 a0_3) ∧ w'.cell? ⟨gb399, 4, none⟩ = some (.int .i64 a0_4) ∧ w'.cell? ⟨gb399, 5, none⟩ = some (.int .i64 a0_5)) (ds := []) (zv_.bm 24 0) (by kernel_rfl) rfl rfl ⟨xvc BK399.out, xvc BK399.out, xvc BK399.out, xvc BK399.out, xvc BK399.out, xvc BK399.out⟩ (fun hHeld => ?_); refine with_tabW impl_strip.tab1 impl_strip.bits1 (fun HT_ HW_ => ?_)
 generalize w8.drew = w9 at BK399 HB hHeld ⊢
 refine zv_.pa (i := 0) (N := some 7) (zv_.bm 24 1) HT_.out ?_
 refine zv_.pa (i := 1) (N := some 8) (zv_.bm 24 3) HT_.out ?_
 refine zv_.pa (i := 3) (N := some 10) (zv_.bm 24 11) HT_.out ?_
 refine zv_.pa (i := 6) (N := some 13) (zv_.bm 24 75) HT_.out ?_
 refine zv_.pa (i := 7) (N := some 14) (zv_.bm 24 203) HT_.out ?_
 refine zv_.pa (i := 9) (N := some 16) (zv_.bm 24 715) HT_.out ?_
 refine zv_.pa (i := 12) (N := some 19) (zv_.bm 24 4811) HT_.out ?_
 refine zv_.pa (i := 14) (N := some 21) (zv_.bm 24 21195) HT_.out ?_
 refine zv_.pa (i := 16) (N := some 23) (zv_.bm 24 86731) HT_.out ?_
 refine zv_.pa (i := 17) (N := some 24) (zv_.bm 24 217803) HT_.out ?_
 refine zv_.pa (i := 19) (N := some 26) (zv_.bm 24 742091) HT_.out ?_
 refine zv_.ta (i := 2) (N := some 9) (zv_.bm 24 742095) rfl (take_ofW HT_.out HW_.out (by kernel_rfl)) (Or.inl ⟨(by rfl), wv13⟩) hHeld ?_
 refine zv_.pa (i := 4) (N := some 11) (zv_.bm 24 742111) HT_.out ?_
 refine zv_.ta (i := 8) (N := some 15) (zv_.bm 24 742367) rfl (take_ofW HT_.out HW_.out (by kernel_rfl)) (Or.inl ⟨(by rfl), wv13⟩) hHeld ?_
 refine zv_.pa (i := 10) (N := some 17) (zv_.bm 24 743391) HT_.out ?_
 refine zv_.ta (i := 13) (N := some 20) (zv_.bm 24 751583) rfl (take_ofW HT_.out HW_.out (by kernel_rfl)) (Or.inl ⟨(by rfl), wv13⟩) hHeld ?_
 refine zv_.ta (i := 18) (N := some 25) (zv_.bm 24 1013727) rfl (take_ofW HT_.out HW_.out (by kernel_rfl)) (Or.inl ⟨(by rfl), wv13⟩) hHeld ?_
 refine zv_.pa (i := 20) (N := some 27) (zv_.bm 24 2062303) HT_.out ?_
 refine one_ (i := 5) (N := some 12) (zv_.bm 24 2062335) rfl rfl (one_of HT_.out (by kernel_rfl)) (by decide) (fun K hK => ?_)
 refine goes_ Try.func185 (by kernel_rfl) rfl #[.int .i64 0, .int .i64 a2, .int .i64 (wrap64 (a0_3 + a1))] (by rfl) rfl rfl wv1 ?_
 with_reducible refine (impl_loads.calls 0 a2 (wrap64 (a0_3 + a1)) t400 t401 t402 t403 t404 t405 t406 _ A4.out).mono ?_
 rintro e w10 ⟨rfl, hb⟩
 refine ⟨_, rfl, ?_⟩
 have n0_ := Aside0.mk (xvl BK399.out hb)
 have n1_ := Aside0.mk (below_step wv31 hb)
 clear BK399
 clear HB
 have BK399 := n0_
 have HB := n1_
 clear n0_ n1_
 (try clear hb)
 (try clear hb2)
 (try clear hk)
 (try clear hi)
 refine hK.out _ _ ⟨xvc BK399.out, xvc BK399.out, xvc BK399.out, xvc BK399.out, xvc BK399.out, xvc BK399.out⟩ (fun hHeld => ?_)
 clear hK K
 refine norm_ (a' := ?_) ?_ ?_
 rotate_left
 ·show Act.put _ (some 12) _ = _
  simp only [Act.put, List.setIfInBounds_toArray, List.set_cons_zero, List.set_cons_succ, i64_w, i32_w]
  rfl
 refine one_ (i := 11) (N := some 18) (zv_.bm 24 2064383) rfl rfl (one_of HT_.out (by kernel_rfl)) (by decide) (fun K hK => ?_)
 refine goes_ Try.func185 (by kernel_rfl) rfl #[.int .i64 1, .int .i64 a2, .int .i64 (wrap64 (a0_4 + a1))] (by rfl) rfl rfl wv1 ?_
 with_reducible refine (impl_loads.calls 1 a2 (wrap64 (a0_4 + a1)) t407 t408 t409 t410 t411 t412 t413 _ A5.out).mono ?_
 rintro e w11 ⟨rfl, hb⟩
 refine ⟨_, rfl, ?_⟩
 have n0_ := Aside0.mk (xvl BK399.out hb)
 have n1_ := Aside0.mk (below_step wv31 hb)
 clear BK399
 clear HB
 have BK399 := n0_
 have HB := n1_
 clear n0_ n1_
 (try clear hb)
 (try clear hb2)
 (try clear hk)
 (try clear hi)
 refine hK.out _ _ ⟨xvc BK399.out, xvc BK399.out, xvc BK399.out, xvc BK399.out, xvc BK399.out, xvc BK399.out⟩ (fun hHeld => ?_)
 clear hK K
 refine norm_ (a' := ?_) ?_ ?_
 rotate_left
 ·show Act.put _ (some 18) _ = _
  simp only [Act.put, List.setIfInBounds_toArray, List.set_cons_zero, List.set_cons_succ, i64_w, i32_w]
  rfl
 refine one_ (i := 15) (N := some 22) (zv_.bm 24 2097151) rfl rfl (one_of HT_.out (by kernel_rfl)) (by decide) (fun K hK => ?_)
 refine goes_ Try.func186 (by kernel_rfl) rfl #[.int .i64 a0_1, .int .i64 2, .int .i64 0, .int .i64 1, .int .i64 a2] (by rfl) rfl rfl wv1 ?_
 with_reducible refine (impl_does.calls a0_1 2 0 1 a2 t414 t415 t416 t417 t418 t419 t420 _ A6.out).mono ?_
 rintro e w12 ⟨rfl, hb⟩
 refine ⟨_, rfl, ?_⟩
 have n0_ := Aside0.mk (xvl BK399.out hb)
 have n1_ := Aside0.mk (below_step wv31 hb)
 clear BK399
 clear HB
 have BK399 := n0_
 have HB := n1_
 clear n0_ n1_
 (try clear hb)
 (try clear hb2)
 (try clear hk)
 (try clear hi)
 refine hK.out _ _ ⟨xvc BK399.out, xvc BK399.out, xvc BK399.out, xvc BK399.out, xvc BK399.out, xvc BK399.out⟩ (fun hHeld => ?_)
 clear hK K
 refine norm_ (a' := ?_) ?_ ?_
 rotate_left
 ·show Act.put _ (some 22) _ = _
  simp only [Act.put, List.setIfInBounds_toArray, List.set_cons_zero, List.set_cons_succ, i64_w, i32_w]
  rfl
 refine one_ (i := 21) (N := some 28) (zv_.bm 24 4194303) rfl rfl (one_of HT_.out (by kernel_rfl)) (by decide) (fun K hK => ?_)
 refine goes_ Try.func188 (by kernel_rfl) rfl #[.int .i64 2, .int .i64 a2, .int .i64 (wrap64 (a0_2 + a1))] (by rfl) rfl rfl wv1 ?_
 with_reducible refine (impl_stores.calls 2 a2 (wrap64 (a0_2 + a1)) t421 t422 t423 t424 t425 t426 t427 _ A7.out).mono ?_
 rintro e w13 ⟨rfl, hb⟩
 refine ⟨_, rfl, ?_⟩
 have n0_ := Aside0.mk (xvl BK399.out hb)
 have n1_ := Aside0.mk (below_step wv31 hb)
 clear BK399
 clear HB
 have BK399 := n0_
 have HB := n1_
 clear n0_ n1_
 (try clear hb)
 (try clear hb2)
 (try clear hk)
 (try clear hi)
 refine hK.out _ _ ⟨xvc BK399.out, xvc BK399.out, xvc BK399.out, xvc BK399.out, xvc BK399.out, xvc BK399.out⟩ (fun hHeld => ?_)
 clear hK K
 refine norm_ (a' := ?_) ?_ ?_
 rotate_left
 ·show Act.put _ (some 28) _ = _
  simp only [Act.put, List.setIfInBounds_toArray, List.set_cons_zero, List.set_cons_succ, i64_w, i32_w]
  rfl
 refine one_ (i := 22) (N := some 29) (zv_.bm 24 8388607) rfl rfl (one_of HT_.out (by kernel_rfl)) (by decide) (fun K hK => ?_)
 refine Kd.R_lit_step k142 _ 142 ?hg (N := 29) ?hd (xs := ([(⟨t400, t401, t402, t403, t404, t405, t406⟩ : S142), (⟨t407, t408, t409, t410, t411, t412, t413⟩ : S142), (⟨t414, t415, t416, t417, t418, t419, t420⟩ : S142), (⟨t421, t422, t423, t424, t425, t426, t427⟩ : S142)] : List (S142))) (inner := [.int .i64 t400, .int .i64 t401, .int .i64 t402, .int .i64 t403, .int .i64 t404, .int .i64 t405, .slice none 0 0, .int .i64 t407, .int .i64 t408, .int .i64 t409, .int .i64 t410, .int .i64 t411, .int .i64 t412, .slice none 0 0, .int .i64 t414, .int .i64 t415, .int .i64 t416, .int .i64 t417, .int .i64 t418, .int .i64 t419, .slice none 0 0, .int .i64 t421, .int .i64 t422, .int .i64 t423, .int .i64 t424, .int .i64 t425, .int .i64 t426, .slice none 0 0]) (ok := fun _ => True) (okp := fun _ => True) ?hr ?hp (fun _ hk => hk) trivial (Below.refl _ _) (Nat.le_refl _) (by simp) ?_; (case hd => rfl); (case hg => rfl); (case hr => first | (go_simp; done) | (go_simp; rfl)); (case hp => exact (Reps.c7 (show Kd.M k142 _ _ _ (⟨t400, t401, t402, t403, t404, t405, t406⟩ : S142) [.int .i64 t400, .int .i64 t401, .int .i64 t402, .int .i64 t403, .int .i64 t404, .int .i64 t405, .slice none 0 0] from (k142_mkM _ _ _ (⟨t400, t401, t402, t403, t404, t405, t406⟩ : S142) )) (Reps.c7 (show Kd.M k142 _ _ _ (⟨t407, t408, t409, t410, t411, t412, t413⟩ : S142) [.int .i64 t407, .int .i64 t408, .int .i64 t409, .int .i64 t410, .int .i64 t411, .int .i64 t412, .slice none 0 0] from (k142_mkM _ _ _ (⟨t407, t408, t409, t410, t411, t412, t413⟩ : S142) )) (Reps.c7 (show Kd.M k142 _ _ _ (⟨t414, t415, t416, t417, t418, t419, t420⟩ : S142) [.int .i64 t414, .int .i64 t415, .int .i64 t416, .int .i64 t417, .int .i64 t418, .int .i64 t419, .slice none 0 0] from (k142_mkM _ _ _ (⟨t414, t415, t416, t417, t418, t419, t420⟩ : S142) )) (Reps.c7 (show Kd.M k142 _ _ _ (⟨t421, t422, t423, t424, t425, t426, t427⟩ : S142) [.int .i64 t421, .int .i64 t422, .int .i64 t423, .int .i64 t424, .int .i64 t425, .int .i64 t426, .slice none 0 0] from (k142_mkM _ _ _ (⟨t421, t422, t423, t424, t425, t426, t427⟩ : S142) )) (Reps.none _ _))))))
 intro v429 w14 ho15 hb hg_ hnew_
 clear hg_ hnew_
 (first | rw [← Ny428.out] at ho15 | (simp only [Int.reduceToNat] at ho15; rw [← Ny428.out] at ho15))
 have n0_ := Aside0.mk (Kd.R_lower ho15 (below_size wv31))
 have n1_ := Aside0.mk (xvl BK399.out hb)
 have n2_ := Aside0.mk (below_step wv31 hb)
 clear BK399
 clear HB
 have HO430 := n0_
 have BK399 := n1_
 have HB := n2_
 clear n0_ n1_ n2_
 clear hb ho15
 refine hK.out _ _ ⟨xvc BK399.out, xvc BK399.out, xvc BK399.out, xvc BK399.out, xvc BK399.out, xvc BK399.out⟩ (fun hHeld => ?_)
 clear hK K
 refine norm_ (a' := ?_) ?_ ?_
 rotate_left
 ·show Act.put _ (some 29) _ = _
  simp only [Act.put, List.setIfInBounds_toArray, List.set_cons_zero, List.set_cons_succ, i64_w, i32_w]
  rfl
 refine zv_.pa (i := 23) (N := some 6) (zv_.bm 24 16777215) HT_.out ?_
 refine done_ (done_of HT_.out (by kernel_rfl)) ?_
 try go_wp2
 go_ret
 exact ⟨_, wv3, (xvr HO430.out), wv31⟩

end Go.Proofs.Ytpfoeologjacfaa.V
