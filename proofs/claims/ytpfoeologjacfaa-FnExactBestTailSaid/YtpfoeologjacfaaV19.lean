-- Written by a program of this session (wip/tools) over the kit's print.
-- COMPACT
import Derived.Test.YtpfoeologjacfaaV0
import Derived.Test.YtpfoeologjacfaaV1
import Derived.Test.YtpfoeologjacfaaV18
namespace Go.Proofs.Ytpfoeologjacfaa.V
open Go.RowKit Go.Proofs.YtpfoeologjacfaaW.PrintWords Go.Proofs.YtpfoeologjacfaaW.PrintLast Go.Proofs.YtpfoeologjacfaaW.PrintMore
attribute [local go_sem] max2_int min2_int max_two min_two max_three min_three max_four min_four   -- for this text's walks alone
set_option linter.unusedVariables false
set_option linter.unusedSimpArgs false

/-! ### laws_FnExactBestTail: function 16 -/
def laws_FnExactBestTail.f (k : Nat) (a0_0 : Int) (a0_1 : Int) (a1_0 : Int) (a1_1 : Int) (a1_2 : Int) (a1_3 : Int) (a1_4 : Int) (a1_5 : Int) : Option (Bool) := (laws_toMachine.f a0_0 a0_1).bind fun bt576 => ((laws_toLoop.f a1_0 a1_1 a1_2 a1_3 a1_4 a1_5).bind fun bt578 => ((spec_BestTail.f k bt576.1 bt576.2 bt578.1 bt578.2.1 bt578.2.2.1 bt578.2.2.2.1 bt578.2.2.2.2.1 bt578.2.2.2.2.2).bind fun bt584 => ((laws_toMachine.f a0_0 a0_1).bind fun bt587 => ((laws_toLoop.f a1_0 a1_1 a1_2 a1_3 a1_4 a1_5).bind fun bt589 => ((impl_BestTail.f k bt587.1 bt587.2 bt589.1 bt589.2.1 bt589.2.2.1 bt589.2.2.2.1 bt589.2.2.2.2.1 bt589.2.2.2.2.2).bind fun bt595 => (if bt595.1 = bt584.1 then (if bt595.2.1 = bt584.2.1 then (if (bt595.2.2 != bt584.2.2) = true then (some false) else (some true)) else (some false)) else (some false)))))))
theorem laws_FnExactBestTail.mono : ∀ a0 a1 a2 a3 a4 a5 a6 a7 k, LeO (laws_FnExactBestTail.f k a0 a1 a2 a3 a4 a5 a6 a7) (laws_FnExactBestTail.f (k + 1) a0 a1 a2 a3 a4 a5 a6 a7) := by
 intro a0 a1 a2 a3 a4 a5 a6 a7 k
 unfold laws_FnExactBestTail.f
 repeat' first
   | (with_reducible exact impl_BestTail.mono _ _ _ _ _ _ _ _ _)
   | (with_reducible exact spec_BestTail.mono _ _ _ _ _ _ _ _ _)
   | (with_reducible exact LeO.refl _)
   | (with_reducible exact LeO.none _)
   | (with_reducible refine LeO.ite ?_ ?_)
   | (with_reducible refine LeO.bind ?_ (fun _ => ?_))
   | exact impl_BestTail.mono _ _ _ _ _ _ _ _ _
   | exact spec_BestTail.mono _ _ _ _ _ _ _ _ _
   | exact LeO.none _
   | refine LeO.ite ?_ ?_
   | refine LeO.bind ?_ (fun _ => ?_)
def laws_FnExactBestTail.T1 : Bool × List (List Nat × List Nat) := (true, [([], []), ([0], [0]), ([], []), ([2, 1], [2]), ([1, 3, 3], [1, 3]), ([4], [4]), ([5], [5]), ([5], [5]), ([5], [5]), ([6, 4, 0, 1, 2, 3, 4, 5, 6], [6]), ([7, 9, 0, 1, 2, 3, 4, 5, 6, 7, 9], [7]), ([8, 10, 0, 1, 2, 3, 4, 5, 6, 7, 8, 9, 10], [8])])
def laws_FnExactBestTail.B1 : List Nat := [0, 1, 0, 7, 15, 31, 63, 63, 63, 127, 767, 2047]
theorem laws_FnExactBestTail.tab1 : rtab .any (opsOf Try.f16 1) = laws_FnExactBestTail.T1 := by kernel_rfl
theorem laws_FnExactBestTail.bits1 : waitsOk laws_FnExactBestTail.T1.2 laws_FnExactBestTail.B1 = true := by kernel_rfl
def laws_FnExactBestTail.T2 : Bool × List (List Nat × List Nat) := (true, [([], []), ([0], [0]), ([], []), ([2, 1], [2]), ([1, 3, 3], [1, 3]), ([4], [4]), ([5], [5]), ([5], [5]), ([5], [5]), ([6, 4, 0, 1, 2, 3, 4, 5, 6], [6]), ([7, 9, 0, 1, 2, 3, 4, 5, 6, 7, 9], [7]), ([8, 10, 0, 1, 2, 3, 4, 5, 6, 7, 8, 9, 10], [8])])
def laws_FnExactBestTail.B2 : List Nat := [0, 1, 0, 7, 15, 31, 63, 63, 63, 127, 767, 2047]
theorem laws_FnExactBestTail.tab2 : rtab .any (opsOf Try.f16 2) = laws_FnExactBestTail.T2 := by kernel_rfl
theorem laws_FnExactBestTail.bits2 : waitsOk laws_FnExactBestTail.T2.2 laws_FnExactBestTail.B2 = true := by kernel_rfl
set_option maxHeartbeats 8000000 in
set_option maxRecDepth 100000 in
theorem laws_FnExactBestTail.calls (k : Nat) (a0_0 : Int) (a0_1 : Int) (a1_0 : Int) (a1_1 : Int) (a1_2 : Int) (a1_3 : Int) (a1_4 : Int) (a1_5 : Int) (r : Bool) (w : World) (h : laws_FnExactBestTail.f k a0_0 a0_1 a1_0 a1_1 a1_2 a1_3 a1_4 a1_5 = some r) :
  Calls Try.prog 16 #[.agg #[.int .i64 a0_0, .int .i64 a0_1], .agg #[.int .i64 a1_0, .int .i64 a1_1, .int .i64 a1_2, .int .i64 a1_3, .int .i64 a1_4, .int .i64 a1_5]] w fun e w' => e = .returned (.bool r) ∧ Below w.heap.size w w' := by
 have hu29 := Try.underlying29
 have hu23 := Try.underlying23
 have HB := Aside0.mk (Below.refl w.heap.size w)
 have H : ((laws_toMachine.f a0_0 a0_1).bind fun bt576 => ((laws_toLoop.f a1_0 a1_1 a1_2 a1_3 a1_4 a1_5).bind fun bt578 => ((spec_BestTail.f k bt576.1 bt576.2 bt578.1 bt578.2.1 bt578.2.2.1 bt578.2.2.2.1 bt578.2.2.2.2.1 bt578.2.2.2.2.2).bind fun bt584 => ((laws_toMachine.f a0_0 a0_1).bind fun bt587 => ((laws_toLoop.f a1_0 a1_1 a1_2 a1_3 a1_4 a1_5).bind fun bt589 => ((impl_BestTail.f k bt587.1 bt587.2 bt589.1 bt589.2.1 bt589.2.2.1 bt589.2.2.2.1 bt589.2.2.2.2.1 bt589.2.2.2.2.2).bind fun bt595 => (if bt595.1 = bt584.1 then (if bt595.2.1 = bt584.2.1 then (if (bt595.2.2 != bt584.2.2) = true then (some false) else (some true)) else (some false)) else (some false)))))))) = some r := h
 clear h
 replace H := Option.bind_eq_some_iff.mp H
 obtain ⟨⟨t576, t577⟩, A30, H⟩ := H
 replace H : ((laws_toLoop.f a1_0 a1_1 a1_2 a1_3 a1_4 a1_5).bind fun bt578 => ((spec_BestTail.f k t576 t577 bt578.1 bt578.2.1 bt578.2.2.1 bt578.2.2.2.1 bt578.2.2.2.2.1 bt578.2.2.2.2.2).bind fun bt584 => ((laws_toMachine.f a0_0 a0_1).bind fun bt587 => ((laws_toLoop.f a1_0 a1_1 a1_2 a1_3 a1_4 a1_5).bind fun bt589 => ((impl_BestTail.f k bt587.1 bt587.2 bt589.1 bt589.2.1 bt589.2.2.1 bt589.2.2.2.1 bt589.2.2.2.2.1 bt589.2.2.2.2.2).bind fun bt595 => (if bt595.1 = bt584.1 then (if bt595.2.1 = bt584.2.1 then (if (bt595.2.2 != bt584.2.2) = true then (some false) else (some true)) else (some false)) else (some false))))))) = some r := H
 have A3 := Aside0.mk A30
 clear A30
 replace H := Option.bind_eq_some_iff.mp H
 obtain ⟨⟨t578, t579, t580, t581, t582, t583⟩, A40, H⟩ := H
 replace H : ((spec_BestTail.f k t576 t577 t578 t579 t580 t581 t582 t583).bind fun bt584 => ((laws_toMachine.f a0_0 a0_1).bind fun bt587 => ((laws_toLoop.f a1_0 a1_1 a1_2 a1_3 a1_4 a1_5).bind fun bt589 => ((impl_BestTail.f k bt587.1 bt587.2 bt589.1 bt589.2.1 bt589.2.2.1 bt589.2.2.2.1 bt589.2.2.2.2.1 bt589.2.2.2.2.2).bind fun bt595 => (if bt595.1 = bt584.1 then (if bt595.2.1 = bt584.2.1 then (if (bt595.2.2 != bt584.2.2) = true then (some false) else (some true)) else (some false)) else (some false)))))) = some r := H
 have A4 := Aside0.mk A40
 clear A40
 replace H := Option.bind_eq_some_iff.mp H
 obtain ⟨⟨t584, t585, t586⟩, A50, H⟩ := H
 replace H : ((laws_toMachine.f a0_0 a0_1).bind fun bt587 => ((laws_toLoop.f a1_0 a1_1 a1_2 a1_3 a1_4 a1_5).bind fun bt589 => ((impl_BestTail.f k bt587.1 bt587.2 bt589.1 bt589.2.1 bt589.2.2.1 bt589.2.2.2.1 bt589.2.2.2.2.1 bt589.2.2.2.2.2).bind fun bt595 => (if bt595.1 = t584 then (if bt595.2.1 = t585 then (if (bt595.2.2 != t586) = true then (some false) else (some true)) else (some false)) else (some false))))) = some r := H
 have A5 := Aside0.mk A50
 clear A50
 replace H := Option.bind_eq_some_iff.mp H
 obtain ⟨⟨t587, t588⟩, A60, H⟩ := H
 replace H : ((laws_toLoop.f a1_0 a1_1 a1_2 a1_3 a1_4 a1_5).bind fun bt589 => ((impl_BestTail.f k t587 t588 bt589.1 bt589.2.1 bt589.2.2.1 bt589.2.2.2.1 bt589.2.2.2.2.1 bt589.2.2.2.2.2).bind fun bt595 => (if bt595.1 = t584 then (if bt595.2.1 = t585 then (if (bt595.2.2 != t586) = true then (some false) else (some true)) else (some false)) else (some false)))) = some r := H
 have A6 := Aside0.mk A60
 clear A60
 replace H := Option.bind_eq_some_iff.mp H
 obtain ⟨⟨t589, t590, t591, t592, t593, t594⟩, A70, H⟩ := H
 replace H : ((impl_BestTail.f k t587 t588 t589 t590 t591 t592 t593 t594).bind fun bt595 => (if bt595.1 = t584 then (if bt595.2.1 = t585 then (if (bt595.2.2 != t586) = true then (some false) else (some true)) else (some false)) else (some false))) = some r := H
 have A7 := Aside0.mk A70
 clear A70
 replace H := Option.bind_eq_some_iff.mp H
 obtain ⟨⟨t595, t596, t597⟩, A80, H⟩ := H
 replace H : (if t595 = t584 then (if t596 = t585 then (if (t597 != t586) = true then (some false) else (some true)) else (some false)) else (some false)) = some r := H
 have A8 := Aside0.mk A80
 clear A80
 by_cases c9 : t595 = t584
 ·rw [if_pos c9] at H
  have c9b0 : (t595 == t584) = true := beq_iff_eq.mpr c9
  have c9b1 : (t595 != t584) = false := bne_eq_false_iff_eq.mpr c9
  clear c9
  by_cases c10 : t596 = t585
  ·rw [if_pos c10] at H
   have c10b0 : (t596 == t585) = true := beq_iff_eq.mpr c10
   have c10b1 : (t596 != t585) = false := bne_eq_false_iff_eq.mpr c10
   clear c10
   by_cases c11 : (t597 != t586) = true
   ·rw [if_pos c11] at H
    have c11b0 : (t597 != t586) = true := c11
    (try (have c11b1 : decide (t597 = t586) = false := by simpa using c11))
    (try (have c11b2 : (t597 == t586) = false := by simpa using c11))
    (try (have c11b3 : ¬ (t597 = t586) := by simpa using c11))
    clear c11
    obtain rfl := Option.some.inj H
    go_enter Try.func16, Try.ntmps16
    try go_wp2_with (first | ((with_reducible refine gate_dst (N := 2) rfl ?_); refine box_event ?hg (N := 2) ?hd (cs := #[.int .i64 a0_0, .int .i64 a0_1]) (t := 29) ?hr ?_; (case hd => rfl); (case hg => rfl); (case hr => first | (go_simp; done) | (go_simp; rfl)); intro gb574 hg w12 hbox hb; have n0_ := Aside0.mk (below_step (xvo HB.out) hb); have n1_ := Aside0.mk (hbox); have n2_ := Aside0.mk ((by rw [hg]; exact (below_size (xvo HB.out)) : w.heap.size ≤ gb574)); have n3_ := Aside0.mk ((by rw [hg]; exact (below_size (xvo HB.out)) : w.heap.size ≤ gb574)); clear HB; have HB := n0_; have BK574 := n1_; have GW574 := n2_; have GE574 := n3_; clear n0_ n1_ n2_ n3_; clear hb hbox hg) | ((with_reducible refine gate_dst (N := 3) rfl ?_); refine box_event ?hg (N := 3) ?hd (cs := #[.int .i64 a1_0, .int .i64 a1_1, .int .i64 a1_2, .int .i64 a1_3, .int .i64 a1_4, .int .i64 a1_5]) (t := 23) ?hr ?_; (case hd => rfl); (case hg => rfl); (case hr => first | (go_simp; done) | (go_simp; rfl)); intro gb575 hg w13 hbox hb; have n0_ := Aside0.mk (xvl BK574.out hb); have n1_ := Aside0.mk (below_step wv22 hb); have n2_ := Aside0.mk (hbox); have n3_ := Aside0.mk ((by rw [hg]; exact (below_size wv22) : w.heap.size ≤ gb575)); have n4_ := Aside0.mk ((by rw [hg]; exact (below_size wv22) : w.heap.size ≤ gb575)); have n5_ := Aside0.mk ((by rw [hg]; exact Nat.ne_of_lt (blk_lt (g := gb574) (o := .cells #[.int .i64 a0_0, .int .i64 a0_1] 29 (0, 0)) (xvb BK574.out)) : gb574 ≠ gb575)); have n6_ := Aside0.mk ((by rw [hg]; exact Nat.ne_of_gt (blk_lt (g := gb574) (o := .cells #[.int .i64 a0_0, .int .i64 a0_1] 29 (0, 0)) (xvb BK574.out)) : gb575 ≠ gb574)); clear BK574; clear HB; have BK574 := n0_; have HB := n1_; have BK575 := n2_; have GW575 := n3_; have GE575 := n4_; have NB574_575 := n5_; have NB575_574 := n6_; clear n0_ n1_ n2_ n3_ n4_ n5_ n6_; clear hb hbox hg))
    have n0_ := Aside0.mk (blk_drew BK574.out)
    have n1_ := Aside0.mk (blk_drew BK575.out)
    have n2_ := Aside0.mk (below_drew1 HB.out)
    clear BK574
    clear BK575
    clear HB
    have BK574 := n0_
    have BK575 := n1_
    have HB := n2_
    clear n0_ n1_ n2_
    refine start_ (n := 12) (S := fun w' => w'.cell? ⟨gb574, 0, none⟩ = some (.int .i64 a0_0) ∧ w'.cell? ⟨gb574, 1, none⟩ = some (.int .i64 a0_1) ∧ w'.cell? ⟨gb575, 0, none⟩ = some (.int .i64 a1_0) ∧ w'.cell? ⟨gb575, 1, none⟩ = some (.int .i64 a1_1) ∧ w'.cell? ⟨gb575, 2, none⟩ = some (.int .i64 a1_2) ∧ w'.cell? ⟨gb575, 3, none⟩ = some (.int .i64 a1_3) ∧ w'.cell? ⟨gb575, 4, none⟩ = some (.int .i64 a1_4) ∧ w'.cell? ⟨gb575, 5, none⟩ = some (.int .i64 a1_5)) (ds := []) (zv_.bm 12 0) (by kernel_rfl) rfl rfl ⟨xvc BK574.out, xvc BK574.out, xvc BK575.out, xvc BK575.out, xvc BK575.out, xvc BK575.out, xvc BK575.out, xvc BK575.out⟩ (fun hHeld => ?_); refine with_tabW laws_FnExactBestTail.tab1 laws_FnExactBestTail.bits1 (fun HT_ HW_ => ?_)
    generalize w13.drew = w14 at BK574 BK575 HB hHeld ⊢
    refine zv_.ta (i := 0) (N := some 12) (zv_.bm 12 1) rfl (take_ofW HT_.out HW_.out (by kernel_rfl)) (Or.inl ⟨(by rfl), wv16⟩) hHeld ?_
    refine zv_.ta (i := 2) (N := some 14) (zv_.bm 12 5) rfl (take_ofW HT_.out HW_.out (by kernel_rfl)) (Or.inl ⟨(by rfl), wv16⟩) hHeld ?_
    refine one_ (i := 1) (N := some 13) (zv_.bm 12 7) rfl rfl (one_of HT_.out (by kernel_rfl)) (by decide) (fun K hK => ?_)
    refine goes_ Try.func23 (by kernel_rfl) rfl #[.agg #[.int .i64 a0_0, .int .i64 a0_1]] (by rfl) rfl rfl wv1 ?_
    with_reducible refine (laws_toMachine.calls a0_0 a0_1 t576 t577 _ A3.out).mono ?_
    rintro e w15 ⟨rfl, hb⟩
    refine ⟨_, rfl, ?_⟩
    have n0_ := Aside0.mk (xvl BK574.out hb)
    have n1_ := Aside0.mk (xvl BK575.out hb)
    have n2_ := Aside0.mk (below_step wv8 hb)
    clear BK574
    clear BK575
    clear HB
    have BK574 := n0_
    have BK575 := n1_
    have HB := n2_
    clear n0_ n1_ n2_
    (try clear hb)
    (try clear hb2)
    (try clear hk)
    (try clear hi)
    refine hK.out _ _ ⟨xvc BK574.out, xvc BK574.out, xvc BK575.out, xvc BK575.out, xvc BK575.out, xvc BK575.out, xvc BK575.out, xvc BK575.out⟩ (fun hHeld => ?_)
    clear hK K
    refine norm_ (a' := ?_) ?_ ?_
    rotate_left
    ·show Act.put _ (some 13) _ = _
     simp only [Act.put, List.setIfInBounds_toArray, List.set_cons_zero, List.set_cons_succ, i64_w, i32_w]
     rfl
    refine one_ (i := 3) (N := some 15) (zv_.bm 12 15) rfl rfl (one_of HT_.out (by kernel_rfl)) (by decide) (fun K hK => ?_)
    refine goes_ Try.func20 (by kernel_rfl) rfl #[.agg #[.int .i64 a1_0, .int .i64 a1_1, .int .i64 a1_2, .int .i64 a1_3, .int .i64 a1_4, .int .i64 a1_5]] (by rfl) rfl rfl wv1 ?_
    with_reducible refine (laws_toLoop.calls a1_0 a1_1 a1_2 a1_3 a1_4 a1_5 t578 t579 t580 t581 t582 t583 _ A4.out).mono ?_
    rintro e w16 ⟨rfl, hb⟩
    refine ⟨_, rfl, ?_⟩
    have n0_ := Aside0.mk (xvl BK574.out hb)
    have n1_ := Aside0.mk (xvl BK575.out hb)
    have n2_ := Aside0.mk (below_step wv8 hb)
    clear BK574
    clear BK575
    clear HB
    have BK574 := n0_
    have BK575 := n1_
    have HB := n2_
    clear n0_ n1_ n2_
    (try clear hb)
    (try clear hb2)
    (try clear hk)
    (try clear hi)
    refine hK.out _ _ ⟨xvc BK574.out, xvc BK574.out, xvc BK575.out, xvc BK575.out, xvc BK575.out, xvc BK575.out, xvc BK575.out, xvc BK575.out⟩ (fun hHeld => ?_)
    clear hK K
    refine norm_ (a' := ?_) ?_ ?_
    rotate_left
    ·show Act.put _ (some 15) _ = _
     simp only [Act.put, List.setIfInBounds_toArray, List.set_cons_zero, List.set_cons_succ, i64_w, i32_w]
     rfl
    refine one_ (i := 4) (N := some 16) (zv_.bm 12 31) rfl rfl (one_of HT_.out (by kernel_rfl)) (by decide) (fun K hK => ?_)
    refine goes_ Try.func73 (by kernel_rfl) rfl #[.agg #[.int .i64 t576, .int .i64 t577], .agg #[.int .i64 t578, .int .i64 t579, .int .i64 t580, .int .i64 t581, .int .i64 t582, .int .i64 t583]] (by rfl) rfl rfl wv1 ?_
    with_reducible refine (spec_BestTail.calls k t576 t577 t578 t579 t580 t581 t582 t583 t584 t585 t586 _ A5.out).mono ?_
    rintro e w17 ⟨rfl, hb⟩
    refine ⟨_, rfl, ?_⟩
    have n0_ := Aside0.mk (xvl BK574.out hb)
    have n1_ := Aside0.mk (xvl BK575.out hb)
    have n2_ := Aside0.mk (below_step wv8 hb)
    clear BK574
    clear BK575
    clear HB
    have BK574 := n0_
    have BK575 := n1_
    have HB := n2_
    clear n0_ n1_ n2_
    (try clear hb)
    (try clear hb2)
    (try clear hk)
    (try clear hi)
    refine hK.out _ _ ⟨xvc BK574.out, xvc BK574.out, xvc BK575.out, xvc BK575.out, xvc BK575.out, xvc BK575.out, xvc BK575.out, xvc BK575.out⟩ (fun hHeld => ?_)
    clear hK K
    refine norm_ (a' := ?_) ?_ ?_
    rotate_left
    ·show Act.put _ (some 16) _ = _
     simp only [Act.put, List.setIfInBounds_toArray, List.set_cons_zero, List.set_cons_succ, i64_w, i32_w]
     rfl
    refine zv_.pa (i := 5) (N := some 11) (zv_.bm 12 63) HT_.out ?_
    refine zv_.pa (i := 6) (N := some 17) (zv_.bm 12 127) HT_.out ?_
    refine zv_.pa (i := 7) (N := some 18) (zv_.bm 12 255) HT_.out ?_
    refine zv_.pa (i := 8) (N := some 19) (zv_.bm 12 511) HT_.out ?_
    refine zv_.pa (i := 9) (N := some 5) (zv_.bm 12 1023) HT_.out ?_
    refine zv_.pa (i := 10) (N := some 6) (zv_.bm 12 2047) HT_.out ?_
    refine zv_.pa (i := 11) (N := some 7) (zv_.bm 12 4095) HT_.out ?_
    refine done_ (done_of HT_.out (by kernel_rfl)) ?_
    try go_wp2
    have n0_ := Aside0.mk (blk_drew BK574.out)
    have n1_ := Aside0.mk (blk_drew BK575.out)
    have n2_ := Aside0.mk (below_drew1 HB.out)
    clear BK574
    clear BK575
    clear HB
    have BK574 := n0_
    have BK575 := n1_
    have HB := n2_
    clear n0_ n1_ n2_
    refine start_ (n := 12) (S := fun w' => w'.cell? ⟨gb574, 0, none⟩ = some (.int .i64 a0_0) ∧ w'.cell? ⟨gb574, 1, none⟩ = some (.int .i64 a0_1) ∧ w'.cell? ⟨gb575, 0, none⟩ = some (.int .i64 a1_0) ∧ w'.cell? ⟨gb575, 1, none⟩ = some (.int .i64 a1_1) ∧ w'.cell? ⟨gb575, 2, none⟩ = some (.int .i64 a1_2) ∧ w'.cell? ⟨gb575, 3, none⟩ = some (.int .i64 a1_3) ∧ w'.cell? ⟨gb575, 4, none⟩ = some (.int .i64 a1_4) ∧ w'.cell? ⟨gb575, 5, none⟩ = some (.int .i64 a1_5)) (ds := []) (zv_.bm 12 0) (by kernel_rfl) rfl rfl ⟨xvc BK574.out, xvc BK574.out, xvc BK575.out, xvc BK575.out, xvc BK575.out, xvc BK575.out, xvc BK575.out, xvc BK575.out⟩ (fun hHeld => ?_); refine with_tabW laws_FnExactBestTail.tab2 laws_FnExactBestTail.bits2 (fun HT_ HW_ => ?_)
    generalize w17.drew = w18 at BK574 BK575 HB hHeld ⊢
    refine zv_.ta (i := 0) (N := some 21) (zv_.bm 12 1) rfl (take_ofW HT_.out HW_.out (by kernel_rfl)) (Or.inl ⟨(by rfl), wv16⟩) hHeld ?_
    refine zv_.ta (i := 2) (N := some 23) (zv_.bm 12 5) rfl (take_ofW HT_.out HW_.out (by kernel_rfl)) (Or.inl ⟨(by rfl), wv16⟩) hHeld ?_
    refine one_ (i := 1) (N := some 22) (zv_.bm 12 7) rfl rfl (one_of HT_.out (by kernel_rfl)) (by decide) (fun K hK => ?_)
    refine goes_ Try.func23 (by kernel_rfl) rfl #[.agg #[.int .i64 a0_0, .int .i64 a0_1]] (by rfl) rfl rfl wv1 ?_
    with_reducible refine (laws_toMachine.calls a0_0 a0_1 t587 t588 _ A6.out).mono ?_
    rintro e w19 ⟨rfl, hb⟩
    refine ⟨_, rfl, ?_⟩
    have n0_ := Aside0.mk (xvl BK574.out hb)
    have n1_ := Aside0.mk (xvl BK575.out hb)
    have n2_ := Aside0.mk (below_step wv8 hb)
    clear BK574
    clear BK575
    clear HB
    have BK574 := n0_
    have BK575 := n1_
    have HB := n2_
    clear n0_ n1_ n2_
    (try clear hb)
    (try clear hb2)
    (try clear hk)
    (try clear hi)
    refine hK.out _ _ ⟨xvc BK574.out, xvc BK574.out, xvc BK575.out, xvc BK575.out, xvc BK575.out, xvc BK575.out, xvc BK575.out, xvc BK575.out⟩ (fun hHeld => ?_)
    clear hK K
    refine norm_ (a' := ?_) ?_ ?_
    rotate_left
    ·show Act.put _ (some 22) _ = _
     simp only [Act.put, List.setIfInBounds_toArray, List.set_cons_zero, List.set_cons_succ, i64_w, i32_w]
     rfl
    refine one_ (i := 3) (N := some 24) (zv_.bm 12 15) rfl rfl (one_of HT_.out (by kernel_rfl)) (by decide) (fun K hK => ?_)
    refine goes_ Try.func20 (by kernel_rfl) rfl #[.agg #[.int .i64 a1_0, .int .i64 a1_1, .int .i64 a1_2, .int .i64 a1_3, .int .i64 a1_4, .int .i64 a1_5]] (by rfl) rfl rfl wv1 ?_
    with_reducible refine (laws_toLoop.calls a1_0 a1_1 a1_2 a1_3 a1_4 a1_5 t589 t590 t591 t592 t593 t594 _ A7.out).mono ?_
    rintro e w20 ⟨rfl, hb⟩
    refine ⟨_, rfl, ?_⟩
    have n0_ := Aside0.mk (xvl BK574.out hb)
    have n1_ := Aside0.mk (xvl BK575.out hb)
    have n2_ := Aside0.mk (below_step wv8 hb)
    clear BK574
    clear BK575
    clear HB
    have BK574 := n0_
    have BK575 := n1_
    have HB := n2_
    clear n0_ n1_ n2_
    (try clear hb)
    (try clear hb2)
    (try clear hk)
    (try clear hi)
    refine hK.out _ _ ⟨xvc BK574.out, xvc BK574.out, xvc BK575.out, xvc BK575.out, xvc BK575.out, xvc BK575.out, xvc BK575.out, xvc BK575.out⟩ (fun hHeld => ?_)
    clear hK K
    refine norm_ (a' := ?_) ?_ ?_
    rotate_left
    ·show Act.put _ (some 24) _ = _
     simp only [Act.put, List.setIfInBounds_toArray, List.set_cons_zero, List.set_cons_succ, i64_w, i32_w]
     rfl
    refine one_ (i := 4) (N := some 25) (zv_.bm 12 31) rfl rfl (one_of HT_.out (by kernel_rfl)) (by decide) (fun K hK => ?_)
    refine goes_ Try.func74 (by kernel_rfl) rfl #[.agg #[.int .i64 t587, .int .i64 t588], .agg #[.int .i64 t589, .int .i64 t590, .int .i64 t591, .int .i64 t592, .int .i64 t593, .int .i64 t594]] (by rfl) rfl rfl wv1 ?_
    with_reducible refine (impl_BestTail.calls k t587 t588 t589 t590 t591 t592 t593 t594 t595 t596 t597 _ A8.out).mono ?_
    rintro e w21 ⟨rfl, hb⟩
    refine ⟨_, rfl, ?_⟩
    have n0_ := Aside0.mk (xvl BK574.out hb)
    have n1_ := Aside0.mk (xvl BK575.out hb)
    have n2_ := Aside0.mk (below_step wv8 hb)
    clear BK574
    clear BK575
    clear HB
    have BK574 := n0_
    have BK575 := n1_
    have HB := n2_
    clear n0_ n1_ n2_
    (try clear hb)
    (try clear hb2)
    (try clear hk)
    (try clear hi)
    refine hK.out _ _ ⟨xvc BK574.out, xvc BK574.out, xvc BK575.out, xvc BK575.out, xvc BK575.out, xvc BK575.out, xvc BK575.out, xvc BK575.out⟩ (fun hHeld => ?_)
    clear hK K
    refine norm_ (a' := ?_) ?_ ?_
    rotate_left
    ·show Act.put _ (some 25) _ = _
     simp only [Act.put, List.setIfInBounds_toArray, List.set_cons_zero, List.set_cons_succ, i64_w, i32_w]
     rfl
    refine zv_.pa (i := 5) (N := some 20) (zv_.bm 12 63) HT_.out ?_
    refine zv_.pa (i := 6) (N := some 26) (zv_.bm 12 127) HT_.out ?_
    refine zv_.pa (i := 7) (N := some 27) (zv_.bm 12 255) HT_.out ?_
    refine zv_.pa (i := 8) (N := some 28) (zv_.bm 12 511) HT_.out ?_
    refine zv_.pa (i := 9) (N := some 8) (zv_.bm 12 1023) HT_.out ?_
    refine zv_.pa (i := 10) (N := some 9) (zv_.bm 12 2047) HT_.out ?_
    refine zv_.pa (i := 11) (N := some 10) (zv_.bm 12 4095) HT_.out ?_
    refine done_ (done_of HT_.out (by kernel_rfl)) ?_
    try go_wp2
    go_ret
    exact ⟨wv3, wv8⟩
   ·rw [if_neg c11] at H
    have c11b0 : (t597 != t586) = false := by simpa using c11
    (try (have c11b1 : decide (t597 = t586) = true := by simpa using c11))
    (try (have c11b2 : (t597 == t586) = true := by simpa using c11))
    clear c11
    obtain rfl := Option.some.inj H
    go_enter Try.func16, Try.ntmps16
    try go_wp2_with (first | ((with_reducible refine gate_dst (N := 2) rfl ?_); refine box_event ?hg (N := 2) ?hd (cs := #[.int .i64 a0_0, .int .i64 a0_1]) (t := 29) ?hr ?_; (case hd => rfl); (case hg => rfl); (case hr => first | (go_simp; done) | (go_simp; rfl)); intro gb574 hg w22 hbox hb; have n0_ := Aside0.mk (below_step (xvo HB.out) hb); have n1_ := Aside0.mk (hbox); have n2_ := Aside0.mk ((by rw [hg]; exact (below_size (xvo HB.out)) : w.heap.size ≤ gb574)); have n3_ := Aside0.mk ((by rw [hg]; exact (below_size (xvo HB.out)) : w.heap.size ≤ gb574)); clear HB; have HB := n0_; have BK574 := n1_; have GW574 := n2_; have GE574 := n3_; clear n0_ n1_ n2_ n3_; clear hb hbox hg) | ((with_reducible refine gate_dst (N := 3) rfl ?_); refine box_event ?hg (N := 3) ?hd (cs := #[.int .i64 a1_0, .int .i64 a1_1, .int .i64 a1_2, .int .i64 a1_3, .int .i64 a1_4, .int .i64 a1_5]) (t := 23) ?hr ?_; (case hd => rfl); (case hg => rfl); (case hr => first | (go_simp; done) | (go_simp; rfl)); intro gb575 hg w23 hbox hb; have n0_ := Aside0.mk (xvl BK574.out hb); have n1_ := Aside0.mk (below_step wv22 hb); have n2_ := Aside0.mk (hbox); have n3_ := Aside0.mk ((by rw [hg]; exact (below_size wv22) : w.heap.size ≤ gb575)); have n4_ := Aside0.mk ((by rw [hg]; exact (below_size wv22) : w.heap.size ≤ gb575)); have n5_ := Aside0.mk ((by rw [hg]; exact Nat.ne_of_lt (blk_lt (g := gb574) (o := .cells #[.int .i64 a0_0, .int .i64 a0_1] 29 (0, 0)) (xvb BK574.out)) : gb574 ≠ gb575)); have n6_ := Aside0.mk ((by rw [hg]; exact Nat.ne_of_gt (blk_lt (g := gb574) (o := .cells #[.int .i64 a0_0, .int .i64 a0_1] 29 (0, 0)) (xvb BK574.out)) : gb575 ≠ gb574)); clear BK574; clear HB; have BK574 := n0_; have HB := n1_; have BK575 := n2_; have GW575 := n3_; have GE575 := n4_; have NB574_575 := n5_; have NB575_574 := n6_; clear n0_ n1_ n2_ n3_ n4_ n5_ n6_; clear hb hbox hg))
    have n0_ := Aside0.mk (blk_drew BK574.out)
    have n1_ := Aside0.mk (blk_drew BK575.out)
    have n2_ := Aside0.mk (below_drew1 HB.out)
    clear BK574
    clear BK575
    clear HB
    have BK574 := n0_
    have BK575 := n1_
    have HB := n2_
    clear n0_ n1_ n2_
    refine start_ (n := 12) (S := fun w' => w'.cell? ⟨gb574, 0, none⟩ = some (.int .i64 a0_0) ∧ w'.cell? ⟨gb574, 1, none⟩ = some (.int .i64 a0_1) ∧ w'.cell? ⟨gb575, 0, none⟩ = some (.int .i64 a1_0) ∧ w'.cell? ⟨gb575, 1, none⟩ = some (.int .i64 a1_1) ∧ w'.cell? ⟨gb575, 2, none⟩ = some (.int .i64 a1_2) ∧ w'.cell? ⟨gb575, 3, none⟩ = some (.int .i64 a1_3) ∧ w'.cell? ⟨gb575, 4, none⟩ = some (.int .i64 a1_4) ∧ w'.cell? ⟨gb575, 5, none⟩ = some (.int .i64 a1_5)) (ds := []) (zv_.bm 12 0) (by kernel_rfl) rfl rfl ⟨xvc BK574.out, xvc BK574.out, xvc BK575.out, xvc BK575.out, xvc BK575.out, xvc BK575.out, xvc BK575.out, xvc BK575.out⟩ (fun hHeld => ?_); refine with_tabW laws_FnExactBestTail.tab1 laws_FnExactBestTail.bits1 (fun HT_ HW_ => ?_)
    generalize w23.drew = w24 at BK574 BK575 HB hHeld ⊢
    refine zv_.ta (i := 0) (N := some 12) (zv_.bm 12 1) rfl (take_ofW HT_.out HW_.out (by kernel_rfl)) (Or.inl ⟨(by rfl), wv16⟩) hHeld ?_
    refine zv_.ta (i := 2) (N := some 14) (zv_.bm 12 5) rfl (take_ofW HT_.out HW_.out (by kernel_rfl)) (Or.inl ⟨(by rfl), wv16⟩) hHeld ?_
    refine one_ (i := 1) (N := some 13) (zv_.bm 12 7) rfl rfl (one_of HT_.out (by kernel_rfl)) (by decide) (fun K hK => ?_)
    refine goes_ Try.func23 (by kernel_rfl) rfl #[.agg #[.int .i64 a0_0, .int .i64 a0_1]] (by rfl) rfl rfl wv1 ?_
    with_reducible refine (laws_toMachine.calls a0_0 a0_1 t576 t577 _ A3.out).mono ?_
    rintro e w25 ⟨rfl, hb⟩
    refine ⟨_, rfl, ?_⟩
    have n0_ := Aside0.mk (xvl BK574.out hb)
    have n1_ := Aside0.mk (xvl BK575.out hb)
    have n2_ := Aside0.mk (below_step wv8 hb)
    clear BK574
    clear BK575
    clear HB
    have BK574 := n0_
    have BK575 := n1_
    have HB := n2_
    clear n0_ n1_ n2_
    (try clear hb)
    (try clear hb2)
    (try clear hk)
    (try clear hi)
    refine hK.out _ _ ⟨xvc BK574.out, xvc BK574.out, xvc BK575.out, xvc BK575.out, xvc BK575.out, xvc BK575.out, xvc BK575.out, xvc BK575.out⟩ (fun hHeld => ?_)
    clear hK K
    refine norm_ (a' := ?_) ?_ ?_
    rotate_left
    ·show Act.put _ (some 13) _ = _
     simp only [Act.put, List.setIfInBounds_toArray, List.set_cons_zero, List.set_cons_succ, i64_w, i32_w]
     rfl
    refine one_ (i := 3) (N := some 15) (zv_.bm 12 15) rfl rfl (one_of HT_.out (by kernel_rfl)) (by decide) (fun K hK => ?_)
    refine goes_ Try.func20 (by kernel_rfl) rfl #[.agg #[.int .i64 a1_0, .int .i64 a1_1, .int .i64 a1_2, .int .i64 a1_3, .int .i64 a1_4, .int .i64 a1_5]] (by rfl) rfl rfl wv1 ?_
    with_reducible refine (laws_toLoop.calls a1_0 a1_1 a1_2 a1_3 a1_4 a1_5 t578 t579 t580 t581 t582 t583 _ A4.out).mono ?_
    rintro e w26 ⟨rfl, hb⟩
    refine ⟨_, rfl, ?_⟩
    have n0_ := Aside0.mk (xvl BK574.out hb)
    have n1_ := Aside0.mk (xvl BK575.out hb)
    have n2_ := Aside0.mk (below_step wv8 hb)
    clear BK574
    clear BK575
    clear HB
    have BK574 := n0_
    have BK575 := n1_
    have HB := n2_
    clear n0_ n1_ n2_
    (try clear hb)
    (try clear hb2)
    (try clear hk)
    (try clear hi)
    refine hK.out _ _ ⟨xvc BK574.out, xvc BK574.out, xvc BK575.out, xvc BK575.out, xvc BK575.out, xvc BK575.out, xvc BK575.out, xvc BK575.out⟩ (fun hHeld => ?_)
    clear hK K
    refine norm_ (a' := ?_) ?_ ?_
    rotate_left
    ·show Act.put _ (some 15) _ = _
     simp only [Act.put, List.setIfInBounds_toArray, List.set_cons_zero, List.set_cons_succ, i64_w, i32_w]
     rfl
    refine one_ (i := 4) (N := some 16) (zv_.bm 12 31) rfl rfl (one_of HT_.out (by kernel_rfl)) (by decide) (fun K hK => ?_)
    refine goes_ Try.func73 (by kernel_rfl) rfl #[.agg #[.int .i64 t576, .int .i64 t577], .agg #[.int .i64 t578, .int .i64 t579, .int .i64 t580, .int .i64 t581, .int .i64 t582, .int .i64 t583]] (by rfl) rfl rfl wv1 ?_
    with_reducible refine (spec_BestTail.calls k t576 t577 t578 t579 t580 t581 t582 t583 t584 t585 t586 _ A5.out).mono ?_
    rintro e w27 ⟨rfl, hb⟩
    refine ⟨_, rfl, ?_⟩
    have n0_ := Aside0.mk (xvl BK574.out hb)
    have n1_ := Aside0.mk (xvl BK575.out hb)
    have n2_ := Aside0.mk (below_step wv8 hb)
    clear BK574
    clear BK575
    clear HB
    have BK574 := n0_
    have BK575 := n1_
    have HB := n2_
    clear n0_ n1_ n2_
    (try clear hb)
    (try clear hb2)
    (try clear hk)
    (try clear hi)
    refine hK.out _ _ ⟨xvc BK574.out, xvc BK574.out, xvc BK575.out, xvc BK575.out, xvc BK575.out, xvc BK575.out, xvc BK575.out, xvc BK575.out⟩ (fun hHeld => ?_)
    clear hK K
    refine norm_ (a' := ?_) ?_ ?_
    rotate_left
    ·show Act.put _ (some 16) _ = _
     simp only [Act.put, List.setIfInBounds_toArray, List.set_cons_zero, List.set_cons_succ, i64_w, i32_w]
     rfl
    refine zv_.pa (i := 5) (N := some 11) (zv_.bm 12 63) HT_.out ?_
    refine zv_.pa (i := 6) (N := some 17) (zv_.bm 12 127) HT_.out ?_
    refine zv_.pa (i := 7) (N := some 18) (zv_.bm 12 255) HT_.out ?_
    refine zv_.pa (i := 8) (N := some 19) (zv_.bm 12 511) HT_.out ?_
    refine zv_.pa (i := 9) (N := some 5) (zv_.bm 12 1023) HT_.out ?_
    refine zv_.pa (i := 10) (N := some 6) (zv_.bm 12 2047) HT_.out ?_
    refine zv_.pa (i := 11) (N := some 7) (zv_.bm 12 4095) HT_.out ?_
    refine done_ (done_of HT_.out (by kernel_rfl)) ?_
    try go_wp2
    have n0_ := Aside0.mk (blk_drew BK574.out)
    have n1_ := Aside0.mk (blk_drew BK575.out)
    have n2_ := Aside0.mk (below_drew1 HB.out)
    clear BK574
    clear BK575
    clear HB
    have BK574 := n0_
    have BK575 := n1_
    have HB := n2_
    clear n0_ n1_ n2_
    refine start_ (n := 12) (S := fun w' => w'.cell? ⟨gb574, 0, none⟩ = some (.int .i64 a0_0) ∧ w'.cell? ⟨gb574, 1, none⟩ = some (.int .i64 a0_1) ∧ w'.cell? ⟨gb575, 0, none⟩ = some (.int .i64 a1_0) ∧ w'.cell? ⟨gb575, 1, none⟩ = some (.int .i64 a1_1) ∧ w'.cell? ⟨gb575, 2, none⟩ = some (.int .i64 a1_2) ∧ w'.cell? ⟨gb575, 3, none⟩ = some (.int .i64 a1_3) ∧ w'.cell? ⟨gb575, 4, none⟩ = some (.int .i64 a1_4) ∧ w'.cell? ⟨gb575, 5, none⟩ = some (.int .i64 a1_5)) (ds := []) (zv_.bm 12 0) (by kernel_rfl) rfl rfl ⟨xvc BK574.out, xvc BK574.out, xvc BK575.out, xvc BK575.out, xvc BK575.out, xvc BK575.out, xvc BK575.out, xvc BK575.out⟩ (fun hHeld => ?_); refine with_tabW laws_FnExactBestTail.tab2 laws_FnExactBestTail.bits2 (fun HT_ HW_ => ?_)
    generalize w27.drew = w28 at BK574 BK575 HB hHeld ⊢
    refine zv_.ta (i := 0) (N := some 21) (zv_.bm 12 1) rfl (take_ofW HT_.out HW_.out (by kernel_rfl)) (Or.inl ⟨(by rfl), wv16⟩) hHeld ?_
    refine zv_.ta (i := 2) (N := some 23) (zv_.bm 12 5) rfl (take_ofW HT_.out HW_.out (by kernel_rfl)) (Or.inl ⟨(by rfl), wv16⟩) hHeld ?_
    refine one_ (i := 1) (N := some 22) (zv_.bm 12 7) rfl rfl (one_of HT_.out (by kernel_rfl)) (by decide) (fun K hK => ?_)
    refine goes_ Try.func23 (by kernel_rfl) rfl #[.agg #[.int .i64 a0_0, .int .i64 a0_1]] (by rfl) rfl rfl wv1 ?_
    with_reducible refine (laws_toMachine.calls a0_0 a0_1 t587 t588 _ A6.out).mono ?_
    rintro e w29 ⟨rfl, hb⟩
    refine ⟨_, rfl, ?_⟩
    have n0_ := Aside0.mk (xvl BK574.out hb)
    have n1_ := Aside0.mk (xvl BK575.out hb)
    have n2_ := Aside0.mk (below_step wv8 hb)
    clear BK574
    clear BK575
    clear HB
    have BK574 := n0_
    have BK575 := n1_
    have HB := n2_
    clear n0_ n1_ n2_
    (try clear hb)
    (try clear hb2)
    (try clear hk)
    (try clear hi)
    refine hK.out _ _ ⟨xvc BK574.out, xvc BK574.out, xvc BK575.out, xvc BK575.out, xvc BK575.out, xvc BK575.out, xvc BK575.out, xvc BK575.out⟩ (fun hHeld => ?_)
    clear hK K
    refine norm_ (a' := ?_) ?_ ?_
    rotate_left
    ·show Act.put _ (some 22) _ = _
     simp only [Act.put, List.setIfInBounds_toArray, List.set_cons_zero, List.set_cons_succ, i64_w, i32_w]
     rfl
    refine one_ (i := 3) (N := some 24) (zv_.bm 12 15) rfl rfl (one_of HT_.out (by kernel_rfl)) (by decide) (fun K hK => ?_)
    refine goes_ Try.func20 (by kernel_rfl) rfl #[.agg #[.int .i64 a1_0, .int .i64 a1_1, .int .i64 a1_2, .int .i64 a1_3, .int .i64 a1_4, .int .i64 a1_5]] (by rfl) rfl rfl wv1 ?_
    with_reducible refine (laws_toLoop.calls a1_0 a1_1 a1_2 a1_3 a1_4 a1_5 t589 t590 t591 t592 t593 t594 _ A7.out).mono ?_
    rintro e w30 ⟨rfl, hb⟩
    refine ⟨_, rfl, ?_⟩
    have n0_ := Aside0.mk (xvl BK574.out hb)
    have n1_ := Aside0.mk (xvl BK575.out hb)
    have n2_ := Aside0.mk (below_step wv8 hb)
    clear BK574
    clear BK575
    clear HB
    have BK574 := n0_
    have BK575 := n1_
    have HB := n2_
    clear n0_ n1_ n2_
    (try clear hb)
    (try clear hb2)
    (try clear hk)
    (try clear hi)
    refine hK.out _ _ ⟨xvc BK574.out, xvc BK574.out, xvc BK575.out, xvc BK575.out, xvc BK575.out, xvc BK575.out, xvc BK575.out, xvc BK575.out⟩ (fun hHeld => ?_)
    clear hK K
    refine norm_ (a' := ?_) ?_ ?_
    rotate_left
    ·show Act.put _ (some 24) _ = _
     simp only [Act.put, List.setIfInBounds_toArray, List.set_cons_zero, List.set_cons_succ, i64_w, i32_w]
     rfl
    refine one_ (i := 4) (N := some 25) (zv_.bm 12 31) rfl rfl (one_of HT_.out (by kernel_rfl)) (by decide) (fun K hK => ?_)
    refine goes_ Try.func74 (by kernel_rfl) rfl #[.agg #[.int .i64 t587, .int .i64 t588], .agg #[.int .i64 t589, .int .i64 t590, .int .i64 t591, .int .i64 t592, .int .i64 t593, .int .i64 t594]] (by rfl) rfl rfl wv1 ?_
    with_reducible refine (impl_BestTail.calls k t587 t588 t589 t590 t591 t592 t593 t594 t595 t596 t597 _ A8.out).mono ?_
    rintro e w31 ⟨rfl, hb⟩
    refine ⟨_, rfl, ?_⟩
    have n0_ := Aside0.mk (xvl BK574.out hb)
    have n1_ := Aside0.mk (xvl BK575.out hb)
    have n2_ := Aside0.mk (below_step wv8 hb)
    clear BK574
    clear BK575
    clear HB
    have BK574 := n0_
    have BK575 := n1_
    have HB := n2_
    clear n0_ n1_ n2_
    (try clear hb)
    (try clear hb2)
    (try clear hk)
    (try clear hi)
    refine hK.out _ _ ⟨xvc BK574.out, xvc BK574.out, xvc BK575.out, xvc BK575.out, xvc BK575.out, xvc BK575.out, xvc BK575.out, xvc BK575.out⟩ (fun hHeld => ?_)
    clear hK K
    refine norm_ (a' := ?_) ?_ ?_
    rotate_left
    ·show Act.put _ (some 25) _ = _
     simp only [Act.put, List.setIfInBounds_toArray, List.set_cons_zero, List.set_cons_succ, i64_w, i32_w]
     rfl
    refine zv_.pa (i := 5) (N := some 20) (zv_.bm 12 63) HT_.out ?_
    refine zv_.pa (i := 6) (N := some 26) (zv_.bm 12 127) HT_.out ?_
    refine zv_.pa (i := 7) (N := some 27) (zv_.bm 12 255) HT_.out ?_
    refine zv_.pa (i := 8) (N := some 28) (zv_.bm 12 511) HT_.out ?_
    refine zv_.pa (i := 9) (N := some 8) (zv_.bm 12 1023) HT_.out ?_
    refine zv_.pa (i := 10) (N := some 9) (zv_.bm 12 2047) HT_.out ?_
    refine zv_.pa (i := 11) (N := some 10) (zv_.bm 12 4095) HT_.out ?_
    refine done_ (done_of HT_.out (by kernel_rfl)) ?_
    try go_wp2
    go_ret
    exact ⟨wv3, wv8⟩
  ·rw [if_neg c10] at H
   have c10b0 : (t596 == t585) = false := beq_eq_false_iff_ne.mpr c10
   have c10b1 : (t596 != t585) = true := bne_iff_ne.mpr c10
   obtain rfl := Option.some.inj H
   go_enter Try.func16, Try.ntmps16
   try go_wp2_with (first | ((with_reducible refine gate_dst (N := 2) rfl ?_); refine box_event ?hg (N := 2) ?hd (cs := #[.int .i64 a0_0, .int .i64 a0_1]) (t := 29) ?hr ?_; (case hd => rfl); (case hg => rfl); (case hr => first | (go_simp; done) | (go_simp; rfl)); intro gb574 hg w32 hbox hb; have n0_ := Aside0.mk (below_step (xvo HB.out) hb); have n1_ := Aside0.mk (hbox); have n2_ := Aside0.mk ((by rw [hg]; exact (below_size (xvo HB.out)) : w.heap.size ≤ gb574)); have n3_ := Aside0.mk ((by rw [hg]; exact (below_size (xvo HB.out)) : w.heap.size ≤ gb574)); clear HB; have HB := n0_; have BK574 := n1_; have GW574 := n2_; have GE574 := n3_; clear n0_ n1_ n2_ n3_; clear hb hbox hg) | ((with_reducible refine gate_dst (N := 3) rfl ?_); refine box_event ?hg (N := 3) ?hd (cs := #[.int .i64 a1_0, .int .i64 a1_1, .int .i64 a1_2, .int .i64 a1_3, .int .i64 a1_4, .int .i64 a1_5]) (t := 23) ?hr ?_; (case hd => rfl); (case hg => rfl); (case hr => first | (go_simp; done) | (go_simp; rfl)); intro gb575 hg w33 hbox hb; have n0_ := Aside0.mk (xvl BK574.out hb); have n1_ := Aside0.mk (below_step wv22 hb); have n2_ := Aside0.mk (hbox); have n3_ := Aside0.mk ((by rw [hg]; exact (below_size wv22) : w.heap.size ≤ gb575)); have n4_ := Aside0.mk ((by rw [hg]; exact (below_size wv22) : w.heap.size ≤ gb575)); have n5_ := Aside0.mk ((by rw [hg]; exact Nat.ne_of_lt (blk_lt (g := gb574) (o := .cells #[.int .i64 a0_0, .int .i64 a0_1] 29 (0, 0)) (xvb BK574.out)) : gb574 ≠ gb575)); have n6_ := Aside0.mk ((by rw [hg]; exact Nat.ne_of_gt (blk_lt (g := gb574) (o := .cells #[.int .i64 a0_0, .int .i64 a0_1] 29 (0, 0)) (xvb BK574.out)) : gb575 ≠ gb574)); clear BK574; clear HB; have BK574 := n0_; have HB := n1_; have BK575 := n2_; have GW575 := n3_; have GE575 := n4_; have NB574_575 := n5_; have NB575_574 := n6_; clear n0_ n1_ n2_ n3_ n4_ n5_ n6_; clear hb hbox hg))
   have n0_ := Aside0.mk (blk_drew BK574.out)
   have n1_ := Aside0.mk (blk_drew BK575.out)
   have n2_ := Aside0.mk (below_drew1 HB.out)
   clear BK574
   clear BK575
   clear HB
   have BK574 := n0_
   have BK575 := n1_
   have HB := n2_
   clear n0_ n1_ n2_
   refine start_ (n := 12) (S := fun w' => w'.cell? ⟨gb574, 0, none⟩ = some (.int .i64 a0_0) ∧ w'.cell? ⟨gb574, 1, none⟩ = some (.int .i64 a0_1) ∧ w'.cell? ⟨gb575, 0, none⟩ = some (.int .i64 a1_0) ∧ w'.cell? ⟨gb575, 1, none⟩ = some (.int .i64 a1_1) ∧ w'.cell? ⟨gb575, 2, none⟩ = some (.int .i64 a1_2) ∧ w'.cell? ⟨gb575, 3, none⟩ = some (.int .i64 a1_3) ∧ w'.cell? ⟨gb575, 4, none⟩ = some (.int .i64 a1_4) ∧ w'.cell? ⟨gb575, 5, none⟩ = some (.int .i64 a1_5)) (ds := []) (zv_.bm 12 0) (by kernel_rfl) rfl rfl ⟨xvc BK574.out, xvc BK574.out, xvc BK575.out, xvc BK575.out, xvc BK575.out, xvc BK575.out, xvc BK575.out, xvc BK575.out⟩ (fun hHeld => ?_); refine with_tabW laws_FnExactBestTail.tab1 laws_FnExactBestTail.bits1 (fun HT_ HW_ => ?_)
   generalize w33.drew = w34 at BK574 BK575 HB hHeld ⊢
   refine zv_.ta (i := 0) (N := some 12) (zv_.bm 12 1) rfl (take_ofW HT_.out HW_.out (by kernel_rfl)) (Or.inl ⟨(by rfl), wv16⟩) hHeld ?_
   refine zv_.ta (i := 2) (N := some 14) (zv_.bm 12 5) rfl (take_ofW HT_.out HW_.out (by kernel_rfl)) (Or.inl ⟨(by rfl), wv16⟩) hHeld ?_
   refine one_ (i := 1) (N := some 13) (zv_.bm 12 7) rfl rfl (one_of HT_.out (by kernel_rfl)) (by decide) (fun K hK => ?_)
   refine goes_ Try.func23 (by kernel_rfl) rfl #[.agg #[.int .i64 a0_0, .int .i64 a0_1]] (by rfl) rfl rfl wv1 ?_
   with_reducible refine (laws_toMachine.calls a0_0 a0_1 t576 t577 _ A3.out).mono ?_
   rintro e w35 ⟨rfl, hb⟩
   refine ⟨_, rfl, ?_⟩
   have n0_ := Aside0.mk (xvl BK574.out hb)
   have n1_ := Aside0.mk (xvl BK575.out hb)
   have n2_ := Aside0.mk (below_step wv8 hb)
   clear BK574
   clear BK575
   clear HB
   have BK574 := n0_
   have BK575 := n1_
   have HB := n2_
   clear n0_ n1_ n2_
   (try clear hb)
   (try clear hb2)
   (try clear hk)
   (try clear hi)
   refine hK.out _ _ ⟨xvc BK574.out, xvc BK574.out, xvc BK575.out, xvc BK575.out, xvc BK575.out, xvc BK575.out, xvc BK575.out, xvc BK575.out⟩ (fun hHeld => ?_)
   clear hK K
   refine norm_ (a' := ?_) ?_ ?_
   rotate_left
   ·show Act.put _ (some 13) _ = _
    simp only [Act.put, List.setIfInBounds_toArray, List.set_cons_zero, List.set_cons_succ, i64_w, i32_w]
    rfl
   refine one_ (i := 3) (N := some 15) (zv_.bm 12 15) rfl rfl (one_of HT_.out (by kernel_rfl)) (by decide) (fun K hK => ?_)
   refine goes_ Try.func20 (by kernel_rfl) rfl #[.agg #[.int .i64 a1_0, .int .i64 a1_1, .int .i64 a1_2, .int .i64 a1_3, .int .i64 a1_4, .int .i64 a1_5]] (by rfl) rfl rfl wv1 ?_
   with_reducible refine (laws_toLoop.calls a1_0 a1_1 a1_2 a1_3 a1_4 a1_5 t578 t579 t580 t581 t582 t583 _ A4.out).mono ?_
   rintro e w36 ⟨rfl, hb⟩
   refine ⟨_, rfl, ?_⟩
   have n0_ := Aside0.mk (xvl BK574.out hb)
   have n1_ := Aside0.mk (xvl BK575.out hb)
   have n2_ := Aside0.mk (below_step wv8 hb)
   clear BK574
   clear BK575
   clear HB
   have BK574 := n0_
   have BK575 := n1_
   have HB := n2_
   clear n0_ n1_ n2_
   (try clear hb)
   (try clear hb2)
   (try clear hk)
   (try clear hi)
   refine hK.out _ _ ⟨xvc BK574.out, xvc BK574.out, xvc BK575.out, xvc BK575.out, xvc BK575.out, xvc BK575.out, xvc BK575.out, xvc BK575.out⟩ (fun hHeld => ?_)
   clear hK K
   refine norm_ (a' := ?_) ?_ ?_
   rotate_left
   ·show Act.put _ (some 15) _ = _
    simp only [Act.put, List.setIfInBounds_toArray, List.set_cons_zero, List.set_cons_succ, i64_w, i32_w]
    rfl
   refine one_ (i := 4) (N := some 16) (zv_.bm 12 31) rfl rfl (one_of HT_.out (by kernel_rfl)) (by decide) (fun K hK => ?_)
   refine goes_ Try.func73 (by kernel_rfl) rfl #[.agg #[.int .i64 t576, .int .i64 t577], .agg #[.int .i64 t578, .int .i64 t579, .int .i64 t580, .int .i64 t581, .int .i64 t582, .int .i64 t583]] (by rfl) rfl rfl wv1 ?_
   with_reducible refine (spec_BestTail.calls k t576 t577 t578 t579 t580 t581 t582 t583 t584 t585 t586 _ A5.out).mono ?_
   rintro e w37 ⟨rfl, hb⟩
   refine ⟨_, rfl, ?_⟩
   have n0_ := Aside0.mk (xvl BK574.out hb)
   have n1_ := Aside0.mk (xvl BK575.out hb)
   have n2_ := Aside0.mk (below_step wv8 hb)
   clear BK574
   clear BK575
   clear HB
   have BK574 := n0_
   have BK575 := n1_
   have HB := n2_
   clear n0_ n1_ n2_
   (try clear hb)
   (try clear hb2)
   (try clear hk)
   (try clear hi)
   refine hK.out _ _ ⟨xvc BK574.out, xvc BK574.out, xvc BK575.out, xvc BK575.out, xvc BK575.out, xvc BK575.out, xvc BK575.out, xvc BK575.out⟩ (fun hHeld => ?_)
   clear hK K
   refine norm_ (a' := ?_) ?_ ?_
   rotate_left
   ·show Act.put _ (some 16) _ = _
    simp only [Act.put, List.setIfInBounds_toArray, List.set_cons_zero, List.set_cons_succ, i64_w, i32_w]
    rfl
   refine zv_.pa (i := 5) (N := some 11) (zv_.bm 12 63) HT_.out ?_
   refine zv_.pa (i := 6) (N := some 17) (zv_.bm 12 127) HT_.out ?_
   refine zv_.pa (i := 7) (N := some 18) (zv_.bm 12 255) HT_.out ?_
   refine zv_.pa (i := 8) (N := some 19) (zv_.bm 12 511) HT_.out ?_
   refine zv_.pa (i := 9) (N := some 5) (zv_.bm 12 1023) HT_.out ?_
   refine zv_.pa (i := 10) (N := some 6) (zv_.bm 12 2047) HT_.out ?_
   refine zv_.pa (i := 11) (N := some 7) (zv_.bm 12 4095) HT_.out ?_
   refine done_ (done_of HT_.out (by kernel_rfl)) ?_
   try go_wp2
   have n0_ := Aside0.mk (blk_drew BK574.out)
   have n1_ := Aside0.mk (blk_drew BK575.out)
   have n2_ := Aside0.mk (below_drew1 HB.out)
   clear BK574
   clear BK575
   clear HB
   have BK574 := n0_
   have BK575 := n1_
   have HB := n2_
   clear n0_ n1_ n2_
   refine start_ (n := 12) (S := fun w' => w'.cell? ⟨gb574, 0, none⟩ = some (.int .i64 a0_0) ∧ w'.cell? ⟨gb574, 1, none⟩ = some (.int .i64 a0_1) ∧ w'.cell? ⟨gb575, 0, none⟩ = some (.int .i64 a1_0) ∧ w'.cell? ⟨gb575, 1, none⟩ = some (.int .i64 a1_1) ∧ w'.cell? ⟨gb575, 2, none⟩ = some (.int .i64 a1_2) ∧ w'.cell? ⟨gb575, 3, none⟩ = some (.int .i64 a1_3) ∧ w'.cell? ⟨gb575, 4, none⟩ = some (.int .i64 a1_4) ∧ w'.cell? ⟨gb575, 5, none⟩ = some (.int .i64 a1_5)) (ds := []) (zv_.bm 12 0) (by kernel_rfl) rfl rfl ⟨xvc BK574.out, xvc BK574.out, xvc BK575.out, xvc BK575.out, xvc BK575.out, xvc BK575.out, xvc BK575.out, xvc BK575.out⟩ (fun hHeld => ?_); refine with_tabW laws_FnExactBestTail.tab2 laws_FnExactBestTail.bits2 (fun HT_ HW_ => ?_)
   generalize w37.drew = w38 at BK574 BK575 HB hHeld ⊢
   refine zv_.ta (i := 0) (N := some 21) (zv_.bm 12 1) rfl (take_ofW HT_.out HW_.out (by kernel_rfl)) (Or.inl ⟨(by rfl), wv16⟩) hHeld ?_
   refine zv_.ta (i := 2) (N := some 23) (zv_.bm 12 5) rfl (take_ofW HT_.out HW_.out (by kernel_rfl)) (Or.inl ⟨(by rfl), wv16⟩) hHeld ?_
   refine one_ (i := 1) (N := some 22) (zv_.bm 12 7) rfl rfl (one_of HT_.out (by kernel_rfl)) (by decide) (fun K hK => ?_)
   refine goes_ Try.func23 (by kernel_rfl) rfl #[.agg #[.int .i64 a0_0, .int .i64 a0_1]] (by rfl) rfl rfl wv1 ?_
   with_reducible refine (laws_toMachine.calls a0_0 a0_1 t587 t588 _ A6.out).mono ?_
   rintro e w39 ⟨rfl, hb⟩
   refine ⟨_, rfl, ?_⟩
   have n0_ := Aside0.mk (xvl BK574.out hb)
   have n1_ := Aside0.mk (xvl BK575.out hb)
   have n2_ := Aside0.mk (below_step wv8 hb)
   clear BK574
   clear BK575
   clear HB
   have BK574 := n0_
   have BK575 := n1_
   have HB := n2_
   clear n0_ n1_ n2_
   (try clear hb)
   (try clear hb2)
   (try clear hk)
   (try clear hi)
   refine hK.out _ _ ⟨xvc BK574.out, xvc BK574.out, xvc BK575.out, xvc BK575.out, xvc BK575.out, xvc BK575.out, xvc BK575.out, xvc BK575.out⟩ (fun hHeld => ?_)
   clear hK K
   refine norm_ (a' := ?_) ?_ ?_
   rotate_left
   ·show Act.put _ (some 22) _ = _
    simp only [Act.put, List.setIfInBounds_toArray, List.set_cons_zero, List.set_cons_succ, i64_w, i32_w]
    rfl
   refine one_ (i := 3) (N := some 24) (zv_.bm 12 15) rfl rfl (one_of HT_.out (by kernel_rfl)) (by decide) (fun K hK => ?_)
   refine goes_ Try.func20 (by kernel_rfl) rfl #[.agg #[.int .i64 a1_0, .int .i64 a1_1, .int .i64 a1_2, .int .i64 a1_3, .int .i64 a1_4, .int .i64 a1_5]] (by rfl) rfl rfl wv1 ?_
   with_reducible refine (laws_toLoop.calls a1_0 a1_1 a1_2 a1_3 a1_4 a1_5 t589 t590 t591 t592 t593 t594 _ A7.out).mono ?_
   rintro e w40 ⟨rfl, hb⟩
   refine ⟨_, rfl, ?_⟩
   have n0_ := Aside0.mk (xvl BK574.out hb)
   have n1_ := Aside0.mk (xvl BK575.out hb)
   have n2_ := Aside0.mk (below_step wv8 hb)
   clear BK574
   clear BK575
   clear HB
   have BK574 := n0_
   have BK575 := n1_
   have HB := n2_
   clear n0_ n1_ n2_
   (try clear hb)
   (try clear hb2)
   (try clear hk)
   (try clear hi)
   refine hK.out _ _ ⟨xvc BK574.out, xvc BK574.out, xvc BK575.out, xvc BK575.out, xvc BK575.out, xvc BK575.out, xvc BK575.out, xvc BK575.out⟩ (fun hHeld => ?_)
   clear hK K
   refine norm_ (a' := ?_) ?_ ?_
   rotate_left
   ·show Act.put _ (some 24) _ = _
    simp only [Act.put, List.setIfInBounds_toArray, List.set_cons_zero, List.set_cons_succ, i64_w, i32_w]
    rfl
   refine one_ (i := 4) (N := some 25) (zv_.bm 12 31) rfl rfl (one_of HT_.out (by kernel_rfl)) (by decide) (fun K hK => ?_)
   refine goes_ Try.func74 (by kernel_rfl) rfl #[.agg #[.int .i64 t587, .int .i64 t588], .agg #[.int .i64 t589, .int .i64 t590, .int .i64 t591, .int .i64 t592, .int .i64 t593, .int .i64 t594]] (by rfl) rfl rfl wv1 ?_
   with_reducible refine (impl_BestTail.calls k t587 t588 t589 t590 t591 t592 t593 t594 t595 t596 t597 _ A8.out).mono ?_
   rintro e w41 ⟨rfl, hb⟩
   refine ⟨_, rfl, ?_⟩
   have n0_ := Aside0.mk (xvl BK574.out hb)
   have n1_ := Aside0.mk (xvl BK575.out hb)
   have n2_ := Aside0.mk (below_step wv8 hb)
   clear BK574
   clear BK575
   clear HB
   have BK574 := n0_
   have BK575 := n1_
   have HB := n2_
   clear n0_ n1_ n2_
   (try clear hb)
   (try clear hb2)
   (try clear hk)
   (try clear hi)
   refine hK.out _ _ ⟨xvc BK574.out, xvc BK574.out, xvc BK575.out, xvc BK575.out, xvc BK575.out, xvc BK575.out, xvc BK575.out, xvc BK575.out⟩ (fun hHeld => ?_)
   clear hK K
   refine norm_ (a' := ?_) ?_ ?_
   rotate_left
   ·show Act.put _ (some 25) _ = _
    simp only [Act.put, List.setIfInBounds_toArray, List.set_cons_zero, List.set_cons_succ, i64_w, i32_w]
    rfl
   refine zv_.pa (i := 5) (N := some 20) (zv_.bm 12 63) HT_.out ?_
   refine zv_.pa (i := 6) (N := some 26) (zv_.bm 12 127) HT_.out ?_
   refine zv_.pa (i := 7) (N := some 27) (zv_.bm 12 255) HT_.out ?_
   refine zv_.pa (i := 8) (N := some 28) (zv_.bm 12 511) HT_.out ?_
   refine zv_.pa (i := 9) (N := some 8) (zv_.bm 12 1023) HT_.out ?_
   refine zv_.pa (i := 10) (N := some 9) (zv_.bm 12 2047) HT_.out ?_
   refine zv_.pa (i := 11) (N := some 10) (zv_.bm 12 4095) HT_.out ?_
   refine done_ (done_of HT_.out (by kernel_rfl)) ?_
   try go_wp2
   go_ret
   exact ⟨wv3, wv8⟩
 ·rw [if_neg c9] at H
  have c9b0 : (t595 == t584) = false := beq_eq_false_iff_ne.mpr c9
  have c9b1 : (t595 != t584) = true := bne_iff_ne.mpr c9
  obtain rfl := Option.some.inj H
  go_enter Try.func16, Try.ntmps16
  try go_wp2_with (first | ((with_reducible refine gate_dst (N := 2) rfl ?_); refine box_event ?hg (N := 2) ?hd (cs := #[.int .i64 a0_0, .int .i64 a0_1]) (t := 29) ?hr ?_; (case hd => rfl); (case hg => rfl); (case hr => first | (go_simp; done) | (go_simp; rfl)); intro gb574 hg w42 hbox hb; have n0_ := Aside0.mk (below_step (xvo HB.out) hb); have n1_ := Aside0.mk (hbox); have n2_ := Aside0.mk ((by rw [hg]; exact (below_size (xvo HB.out)) : w.heap.size ≤ gb574)); have n3_ := Aside0.mk ((by rw [hg]; exact (below_size (xvo HB.out)) : w.heap.size ≤ gb574)); clear HB; have HB := n0_; have BK574 := n1_; have GW574 := n2_; have GE574 := n3_; clear n0_ n1_ n2_ n3_; clear hb hbox hg) | ((with_reducible refine gate_dst (N := 3) rfl ?_); refine box_event ?hg (N := 3) ?hd (cs := #[.int .i64 a1_0, .int .i64 a1_1, .int .i64 a1_2, .int .i64 a1_3, .int .i64 a1_4, .int .i64 a1_5]) (t := 23) ?hr ?_; (case hd => rfl); (case hg => rfl); (case hr => first | (go_simp; done) | (go_simp; rfl)); intro gb575 hg w43 hbox hb; have n0_ := Aside0.mk (xvl BK574.out hb); have n1_ := Aside0.mk (below_step wv22 hb); have n2_ := Aside0.mk (hbox); have n3_ := Aside0.mk ((by rw [hg]; exact (below_size wv22) : w.heap.size ≤ gb575)); have n4_ := Aside0.mk ((by rw [hg]; exact (below_size wv22) : w.heap.size ≤ gb575)); have n5_ := Aside0.mk ((by rw [hg]; exact Nat.ne_of_lt (blk_lt (g := gb574) (o := .cells #[.int .i64 a0_0, .int .i64 a0_1] 29 (0, 0)) (xvb BK574.out)) : gb574 ≠ gb575)); have n6_ := Aside0.mk ((by rw [hg]; exact Nat.ne_of_gt (blk_lt (g := gb574) (o := .cells #[.int .i64 a0_0, .int .i64 a0_1] 29 (0, 0)) (xvb BK574.out)) : gb575 ≠ gb574)); clear BK574; clear HB; have BK574 := n0_; have HB := n1_; have BK575 := n2_; have GW575 := n3_; have GE575 := n4_; have NB574_575 := n5_; have NB575_574 := n6_; clear n0_ n1_ n2_ n3_ n4_ n5_ n6_; clear hb hbox hg))
  have n0_ := Aside0.mk (blk_drew BK574.out)
  have n1_ := Aside0.mk (blk_drew BK575.out)
  have n2_ := Aside0.mk (below_drew1 HB.out)
  clear BK574
  clear BK575
  clear HB
  have BK574 := n0_
  have BK575 := n1_
  have HB := n2_
  clear n0_ n1_ n2_
  refine start_ (n := 12) (S := fun w' => w'.cell? ⟨gb574, 0, none⟩ = some (.int .i64 a0_0) ∧ w'.cell? ⟨gb574, 1, none⟩ = some (.int .i64 a0_1) ∧ w'.cell? ⟨gb575, 0, none⟩ = some (.int .i64 a1_0) ∧ w'.cell? ⟨gb575, 1, none⟩ = some (.int .i64 a1_1) ∧ w'.cell? ⟨gb575, 2, none⟩ = some (.int .i64 a1_2) ∧ w'.cell? ⟨gb575, 3, none⟩ = some (.int .i64 a1_3) ∧ w'.cell? ⟨gb575, 4, none⟩ = some (.int .i64 a1_4) ∧ w'.cell? ⟨gb575, 5, none⟩ = some (.int .i64 a1_5)) (ds := []) (zv_.bm 12 0) (by kernel_rfl) rfl rfl ⟨xvc BK574.out, xvc BK574.out, xvc BK575.out, xvc BK575.out, xvc BK575.out, xvc BK575.out, xvc BK575.out, xvc BK575.out⟩ (fun hHeld => ?_); refine with_tabW laws_FnExactBestTail.tab1 laws_FnExactBestTail.bits1 (fun HT_ HW_ => ?_)
  generalize w43.drew = w44 at BK574 BK575 HB hHeld ⊢
  refine zv_.ta (i := 0) (N := some 12) (zv_.bm 12 1) rfl (take_ofW HT_.out HW_.out (by kernel_rfl)) (Or.inl ⟨(by rfl), wv16⟩) hHeld ?_
  refine zv_.ta (i := 2) (N := some 14) (zv_.bm 12 5) rfl (take_ofW HT_.out HW_.out (by kernel_rfl)) (Or.inl ⟨(by rfl), wv16⟩) hHeld ?_
  refine one_ (i := 1) (N := some 13) (zv_.bm 12 7) rfl rfl (one_of HT_.out (by kernel_rfl)) (by decide) (fun K hK => ?_)
  refine goes_ Try.func23 (by kernel_rfl) rfl #[.agg #[.int .i64 a0_0, .int .i64 a0_1]] (by rfl) rfl rfl wv1 ?_
  with_reducible refine (laws_toMachine.calls a0_0 a0_1 t576 t577 _ A3.out).mono ?_
  rintro e w45 ⟨rfl, hb⟩
  refine ⟨_, rfl, ?_⟩
  have n0_ := Aside0.mk (xvl BK574.out hb)
  have n1_ := Aside0.mk (xvl BK575.out hb)
  have n2_ := Aside0.mk (below_step wv8 hb)
  clear BK574
  clear BK575
  clear HB
  have BK574 := n0_
  have BK575 := n1_
  have HB := n2_
  clear n0_ n1_ n2_
  (try clear hb)
  (try clear hb2)
  (try clear hk)
  (try clear hi)
  refine hK.out _ _ ⟨xvc BK574.out, xvc BK574.out, xvc BK575.out, xvc BK575.out, xvc BK575.out, xvc BK575.out, xvc BK575.out, xvc BK575.out⟩ (fun hHeld => ?_)
  clear hK K
  refine norm_ (a' := ?_) ?_ ?_
  rotate_left
  ·show Act.put _ (some 13) _ = _
   simp only [Act.put, List.setIfInBounds_toArray, List.set_cons_zero, List.set_cons_succ, i64_w, i32_w]
   rfl
  refine one_ (i := 3) (N := some 15) (zv_.bm 12 15) rfl rfl (one_of HT_.out (by kernel_rfl)) (by decide) (fun K hK => ?_)
  refine goes_ Try.func20 (by kernel_rfl) rfl #[.agg #[.int .i64 a1_0, .int .i64 a1_1, .int .i64 a1_2, .int .i64 a1_3, .int .i64 a1_4, .int .i64 a1_5]] (by rfl) rfl rfl wv1 ?_
  with_reducible refine (laws_toLoop.calls a1_0 a1_1 a1_2 a1_3 a1_4 a1_5 t578 t579 t580 t581 t582 t583 _ A4.out).mono ?_
  rintro e w46 ⟨rfl, hb⟩
  refine ⟨_, rfl, ?_⟩
  have n0_ := Aside0.mk (xvl BK574.out hb)
  have n1_ := Aside0.mk (xvl BK575.out hb)
  have n2_ := Aside0.mk (below_step wv8 hb)
  clear BK574
  clear BK575
  clear HB
  have BK574 := n0_
  have BK575 := n1_
  have HB := n2_
  clear n0_ n1_ n2_
  (try clear hb)
  (try clear hb2)
  (try clear hk)
  (try clear hi)
  refine hK.out _ _ ⟨xvc BK574.out, xvc BK574.out, xvc BK575.out, xvc BK575.out, xvc BK575.out, xvc BK575.out, xvc BK575.out, xvc BK575.out⟩ (fun hHeld => ?_)
  clear hK K
  refine norm_ (a' := ?_) ?_ ?_
  rotate_left
  ·show Act.put _ (some 15) _ = _
   simp only [Act.put, List.setIfInBounds_toArray, List.set_cons_zero, List.set_cons_succ, i64_w, i32_w]
   rfl
  refine one_ (i := 4) (N := some 16) (zv_.bm 12 31) rfl rfl (one_of HT_.out (by kernel_rfl)) (by decide) (fun K hK => ?_)
  refine goes_ Try.func73 (by kernel_rfl) rfl #[.agg #[.int .i64 t576, .int .i64 t577], .agg #[.int .i64 t578, .int .i64 t579, .int .i64 t580, .int .i64 t581, .int .i64 t582, .int .i64 t583]] (by rfl) rfl rfl wv1 ?_
  with_reducible refine (spec_BestTail.calls k t576 t577 t578 t579 t580 t581 t582 t583 t584 t585 t586 _ A5.out).mono ?_
  rintro e w47 ⟨rfl, hb⟩
  refine ⟨_, rfl, ?_⟩
  have n0_ := Aside0.mk (xvl BK574.out hb)
  have n1_ := Aside0.mk (xvl BK575.out hb)
  have n2_ := Aside0.mk (below_step wv8 hb)
  clear BK574
  clear BK575
  clear HB
  have BK574 := n0_
  have BK575 := n1_
  have HB := n2_
  clear n0_ n1_ n2_
  (try clear hb)
  (try clear hb2)
  (try clear hk)
  (try clear hi)
  refine hK.out _ _ ⟨xvc BK574.out, xvc BK574.out, xvc BK575.out, xvc BK575.out, xvc BK575.out, xvc BK575.out, xvc BK575.out, xvc BK575.out⟩ (fun hHeld => ?_)
  clear hK K
  refine norm_ (a' := ?_) ?_ ?_
  rotate_left
  ·show Act.put _ (some 16) _ = _
   simp only [Act.put, List.setIfInBounds_toArray, List.set_cons_zero, List.set_cons_succ, i64_w, i32_w]
   rfl
  refine zv_.pa (i := 5) (N := some 11) (zv_.bm 12 63) HT_.out ?_
  refine zv_.pa (i := 6) (N := some 17) (zv_.bm 12 127) HT_.out ?_
  refine zv_.pa (i := 7) (N := some 18) (zv_.bm 12 255) HT_.out ?_
  refine zv_.pa (i := 8) (N := some 19) (zv_.bm 12 511) HT_.out ?_
  refine zv_.pa (i := 9) (N := some 5) (zv_.bm 12 1023) HT_.out ?_
  refine zv_.pa (i := 10) (N := some 6) (zv_.bm 12 2047) HT_.out ?_
  refine zv_.pa (i := 11) (N := some 7) (zv_.bm 12 4095) HT_.out ?_
  refine done_ (done_of HT_.out (by kernel_rfl)) ?_
  try go_wp2
  have n0_ := Aside0.mk (blk_drew BK574.out)
  have n1_ := Aside0.mk (blk_drew BK575.out)
  have n2_ := Aside0.mk (below_drew1 HB.out)
  clear BK574
  clear BK575
  clear HB
  have BK574 := n0_
  have BK575 := n1_
  have HB := n2_
  clear n0_ n1_ n2_
  refine start_ (n := 12) (S := fun w' => w'.cell? ⟨gb574, 0, none⟩ = some (.int .i64 a0_0) ∧ w'.cell? ⟨gb574, 1, none⟩ = some (.int .i64 a0_1) ∧ w'.cell? ⟨gb575, 0, none⟩ = some (.int .i64 a1_0) ∧ w'.cell? ⟨gb575, 1, none⟩ = some (.int .i64 a1_1) ∧ w'.cell? ⟨gb575, 2, none⟩ = some (.int .i64 a1_2) ∧ w'.cell? ⟨gb575, 3, none⟩ = some (.int .i64 a1_3) ∧ w'.cell? ⟨gb575, 4, none⟩ = some (.int .i64 a1_4) ∧ w'.cell? ⟨gb575, 5, none⟩ = some (.int .i64 a1_5)) (ds := []) (zv_.bm 12 0) (by kernel_rfl) rfl rfl ⟨xvc BK574.out, xvc BK574.out, xvc BK575.out, xvc BK575.out, xvc BK575.out, xvc BK575.out, xvc BK575.out, xvc BK575.out⟩ (fun hHeld => ?_); refine with_tabW laws_FnExactBestTail.tab2 laws_FnExactBestTail.bits2 (fun HT_ HW_ => ?_)
  generalize w47.drew = w48 at BK574 BK575 HB hHeld ⊢
  refine zv_.ta (i := 0) (N := some 21) (zv_.bm 12 1) rfl (take_ofW HT_.out HW_.out (by kernel_rfl)) (Or.inl ⟨(by rfl), wv16⟩) hHeld ?_
  refine zv_.ta (i := 2) (N := some 23) (zv_.bm 12 5) rfl (take_ofW HT_.out HW_.out (by kernel_rfl)) (Or.inl ⟨(by rfl), wv16⟩) hHeld ?_
  refine one_ (i := 1) (N := some 22) (zv_.bm 12 7) rfl rfl (one_of HT_.out (by kernel_rfl)) (by decide) (fun K hK => ?_)
  refine goes_ Try.func23 (by kernel_rfl) rfl #[.agg #[.int .i64 a0_0, .int .i64 a0_1]] (by rfl) rfl rfl wv1 ?_
  with_reducible refine (laws_toMachine.calls a0_0 a0_1 t587 t588 _ A6.out).mono ?_
  rintro e w49 ⟨rfl, hb⟩
  refine ⟨_, rfl, ?_⟩
  have n0_ := Aside0.mk (xvl BK574.out hb)
  have n1_ := Aside0.mk (xvl BK575.out hb)
  have n2_ := Aside0.mk (below_step wv8 hb)
  clear BK574
  clear BK575
  clear HB
  have BK574 := n0_
  have BK575 := n1_
  have HB := n2_
  clear n0_ n1_ n2_
  (try clear hb)
  (try clear hb2)
  (try clear hk)
  (try clear hi)
  refine hK.out _ _ ⟨xvc BK574.out, xvc BK574.out, xvc BK575.out, xvc BK575.out, xvc BK575.out, xvc BK575.out, xvc BK575.out, xvc BK575.out⟩ (fun hHeld => ?_)
  clear hK K
  refine norm_ (a' := ?_) ?_ ?_
  rotate_left
  ·show Act.put _ (some 22) _ = _
   simp only [Act.put, List.setIfInBounds_toArray, List.set_cons_zero, List.set_cons_succ, i64_w, i32_w]
   rfl
  refine one_ (i := 3) (N := some 24) (zv_.bm 12 15) rfl rfl (one_of HT_.out (by kernel_rfl)) (by decide) (fun K hK => ?_)
  refine goes_ Try.func20 (by kernel_rfl) rfl #[.agg #[.int .i64 a1_0, .int .i64 a1_1, .int .i64 a1_2, .int .i64 a1_3, .int .i64 a1_4, .int .i64 a1_5]] (by rfl) rfl rfl wv1 ?_
  with_reducible refine (laws_toLoop.calls a1_0 a1_1 a1_2 a1_3 a1_4 a1_5 t589 t590 t591 t592 t593 t594 _ A7.out).mono ?_
  rintro e w50 ⟨rfl, hb⟩
  refine ⟨_, rfl, ?_⟩
  have n0_ := Aside0.mk (xvl BK574.out hb)
  have n1_ := Aside0.mk (xvl BK575.out hb)
  have n2_ := Aside0.mk (below_step wv8 hb)
  clear BK574
  clear BK575
  clear HB
  have BK574 := n0_
  have BK575 := n1_
  have HB := n2_
  clear n0_ n1_ n2_
  (try clear hb)
  (try clear hb2)
  (try clear hk)
  (try clear hi)
  refine hK.out _ _ ⟨xvc BK574.out, xvc BK574.out, xvc BK575.out, xvc BK575.out, xvc BK575.out, xvc BK575.out, xvc BK575.out, xvc BK575.out⟩ (fun hHeld => ?_)
  clear hK K
  refine norm_ (a' := ?_) ?_ ?_
  rotate_left
  ·show Act.put _ (some 24) _ = _
   simp only [Act.put, List.setIfInBounds_toArray, List.set_cons_zero, List.set_cons_succ, i64_w, i32_w]
   rfl
  refine one_ (i := 4) (N := some 25) (zv_.bm 12 31) rfl rfl (one_of HT_.out (by kernel_rfl)) (by decide) (fun K hK => ?_)
  refine goes_ Try.func74 (by kernel_rfl) rfl #[.agg #[.int .i64 t587, .int .i64 t588], .agg #[.int .i64 t589, .int .i64 t590, .int .i64 t591, .int .i64 t592, .int .i64 t593, .int .i64 t594]] (by rfl) rfl rfl wv1 ?_
  with_reducible refine (impl_BestTail.calls k t587 t588 t589 t590 t591 t592 t593 t594 t595 t596 t597 _ A8.out).mono ?_
  rintro e w51 ⟨rfl, hb⟩
  refine ⟨_, rfl, ?_⟩
  have n0_ := Aside0.mk (xvl BK574.out hb)
  have n1_ := Aside0.mk (xvl BK575.out hb)
  have n2_ := Aside0.mk (below_step wv8 hb)
  clear BK574
  clear BK575
  clear HB
  have BK574 := n0_
  have BK575 := n1_
  have HB := n2_
  clear n0_ n1_ n2_
  (try clear hb)
  (try clear hb2)
  (try clear hk)
  (try clear hi)
  refine hK.out _ _ ⟨xvc BK574.out, xvc BK574.out, xvc BK575.out, xvc BK575.out, xvc BK575.out, xvc BK575.out, xvc BK575.out, xvc BK575.out⟩ (fun hHeld => ?_)
  clear hK K
  refine norm_ (a' := ?_) ?_ ?_
  rotate_left
  ·show Act.put _ (some 25) _ = _
   simp only [Act.put, List.setIfInBounds_toArray, List.set_cons_zero, List.set_cons_succ, i64_w, i32_w]
   rfl
  refine zv_.pa (i := 5) (N := some 20) (zv_.bm 12 63) HT_.out ?_
  refine zv_.pa (i := 6) (N := some 26) (zv_.bm 12 127) HT_.out ?_
  refine zv_.pa (i := 7) (N := some 27) (zv_.bm 12 255) HT_.out ?_
  refine zv_.pa (i := 8) (N := some 28) (zv_.bm 12 511) HT_.out ?_
  refine zv_.pa (i := 9) (N := some 8) (zv_.bm 12 1023) HT_.out ?_
  refine zv_.pa (i := 10) (N := some 9) (zv_.bm 12 2047) HT_.out ?_
  refine zv_.pa (i := 11) (N := some 10) (zv_.bm 12 4095) HT_.out ?_
  refine done_ (done_of HT_.out (by kernel_rfl)) ?_
  try go_wp2
  go_ret
  exact ⟨wv3, wv8⟩

/-- THE ONE PURE STATEMENT of laws_FnExactBestTail: yours. -/
def laws_FnExactBestTail.Pure : Prop := ∀ (a0_0 : Int) (a0_1 : Int) (a1_0 : Int) (a1_1 : Int) (a1_2 : Int) (a1_3 : Int) (a1_4 : Int) (a1_5 : Int), (Lit.int .i64 a0_0).wf = true → (Lit.int .i64 a0_1).wf = true → (Lit.int .i64 a1_0).wf = true → (Lit.int .i64 a1_1).wf = true → (Lit.int .i64 a1_2).wf = true → (Lit.int .i64 a1_3).wf = true → (Lit.int .i64 a1_4).wf = true → (Lit.int .i64 a1_5).wf = true → ∃ k, laws_FnExactBestTail.f k a0_0 a0_1 a1_0 a1_1 a1_2 a1_3 a1_4 a1_5 = some true
theorem laws_FnExactBestTail.walk (P : laws_FnExactBestTail.Pure) (a0_0 : Int) (a0_1 : Int) (a1_0 : Int) (a1_1 : Int) (a1_2 : Int) (a1_3 : Int) (a1_4 : Int) (a1_5 : Int) (w : World) (w0_0 : (Lit.int .i64 a0_0).wf = true) (w0_1 : (Lit.int .i64 a0_1).wf = true) (w1_0 : (Lit.int .i64 a1_0).wf = true) (w1_1 : (Lit.int .i64 a1_1).wf = true) (w1_2 : (Lit.int .i64 a1_2).wf = true) (w1_3 : (Lit.int .i64 a1_3).wf = true) (w1_4 : (Lit.int .i64 a1_4).wf = true) (w1_5 : (Lit.int .i64 a1_5).wf = true) :
  Calls Try.prog 16 #[.agg #[.int .i64 a0_0, .int .i64 a0_1], .agg #[.int .i64 a1_0, .int .i64 a1_1, .int .i64 a1_2, .int .i64 a1_3, .int .i64 a1_4, .int .i64 a1_5]] w fun e w' => e = .returned (.bool true) ∧ Below w.heap.size w w' := by
 obtain ⟨k, h⟩ := P a0_0 a0_1 a1_0 a1_1 a1_2 a1_3 a1_4 a1_5 w0_0 w0_1 w1_0 w1_1 w1_2 w1_3 w1_4 w1_5
 refine (laws_FnExactBestTail.calls k a0_0 a0_1 a1_0 a1_1 a1_2 a1_3 a1_4 a1_5 true w h).mono ?_
 rintro e w' ⟨rfl, hd⟩
 exact ⟨rfl, hd⟩

end Go.Proofs.Ytpfoeologjacfaa.V
