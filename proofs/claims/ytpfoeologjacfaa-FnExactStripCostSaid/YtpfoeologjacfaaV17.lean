-- Written by a program of this session (wip/tools) over the kit's print.
-- COMPACT
import Derived.Test.YtpfoeologjacfaaV0
import Derived.Test.YtpfoeologjacfaaV1
import Derived.Test.YtpfoeologjacfaaV7
import Derived.Test.YtpfoeologjacfaaV16
namespace Go.Proofs.Ytpfoeologjacfaa.V
open Go.RowKit Go.Proofs.YtpfoeologjacfaaW.PrintWords Go.Proofs.YtpfoeologjacfaaW.PrintLast Go.Proofs.YtpfoeologjacfaaW.PrintMore
attribute [local go_sem] max2_int min2_int max_two min_two max_three min_three max_four min_four   -- for this text's walks alone
set_option linter.unusedVariables false
set_option linter.unusedSimpArgs false

/-! ### laws_FnExactStripCost: function 15 -/
def laws_FnExactStripCost.f (k : Nat) (a0_0 : Int) (a0_1 : Int) (a1_0 : Int) (a1_1 : Int) (a1_2 : Int) (a1_3 : Int) (a1_4 : Int) (a1_5 : Int) (a2 : Int) : Option (Bool) := (laws_toMachine.f a0_0 a0_1).bind fun bt546 => ((laws_toLoop.f a1_0 a1_1 a1_2 a1_3 a1_4 a1_5).bind fun bt548 => ((spec_StripCost.f k bt546.1 bt546.2 bt548.1 bt548.2.1 bt548.2.2.1 bt548.2.2.2.1 bt548.2.2.2.2.1 bt548.2.2.2.2.2 a2).bind fun bt554 => ((laws_toMachine.f a0_0 a0_1).bind fun bt556 => ((laws_toLoop.f a1_0 a1_1 a1_2 a1_3 a1_4 a1_5).bind fun bt558 => ((impl_StripCost.f k bt556.1 bt556.2 bt558.1 bt558.2.1 bt558.2.2.1 bt558.2.2.2.1 bt558.2.2.2.2.1 bt558.2.2.2.2.2 a2).bind fun bt564 => (if bt564.1 = bt554.1 then (if (bt564.2 != bt554.2) = true then (some false) else (some true)) else (some false)))))))
theorem laws_FnExactStripCost.mono : ∀ a0 a1 a2 a3 a4 a5 a6 a7 a8 k, LeO (laws_FnExactStripCost.f k a0 a1 a2 a3 a4 a5 a6 a7 a8) (laws_FnExactStripCost.f (k + 1) a0 a1 a2 a3 a4 a5 a6 a7 a8) := by
 intro a0 a1 a2 a3 a4 a5 a6 a7 a8 k
 unfold laws_FnExactStripCost.f
 repeat' first
   | (with_reducible exact impl_StripCost.mono _ _ _ _ _ _ _ _ _ _)
   | (with_reducible exact spec_StripCost.mono _ _ _ _ _ _ _ _ _ _)
   | (with_reducible exact LeO.refl _)
   | (with_reducible exact LeO.none _)
   | (with_reducible refine LeO.ite ?_ ?_)
   | (with_reducible refine LeO.bind ?_ (fun _ => ?_))
   | exact impl_StripCost.mono _ _ _ _ _ _ _ _ _ _
   | exact spec_StripCost.mono _ _ _ _ _ _ _ _ _ _
   | exact LeO.none _
   | refine LeO.ite ?_ ?_
   | refine LeO.bind ?_ (fun _ => ?_)
def laws_FnExactStripCost.T1 : Bool × List (List Nat × List Nat) := (true, [([], []), ([0], [0]), ([], []), ([2, 1], [2]), ([], []), ([1, 3, 4, 3], [1, 3, 4]), ([5], [5]), ([6], [6]), ([6], [6]), ([7, 5, 0, 1, 2, 3, 4, 5, 6, 7], [7]), ([8, 9, 0, 1, 2, 3, 4, 5, 6, 7, 8, 9], [8])])
def laws_FnExactStripCost.B1 : List Nat := [0, 1, 0, 7, 0, 31, 63, 127, 127, 255, 1023]
theorem laws_FnExactStripCost.tab1 : rtab .any (opsOf Try.f15 1) = laws_FnExactStripCost.T1 := by kernel_rfl
theorem laws_FnExactStripCost.bits1 : waitsOk laws_FnExactStripCost.T1.2 laws_FnExactStripCost.B1 = true := by kernel_rfl
def laws_FnExactStripCost.T2 : Bool × List (List Nat × List Nat) := (true, [([], []), ([0], [0]), ([], []), ([2, 1], [2]), ([], []), ([1, 3, 4, 3], [1, 3, 4]), ([5], [5]), ([6], [6]), ([6], [6]), ([7, 5, 0, 1, 2, 3, 4, 5, 6, 7], [7]), ([8, 9, 0, 1, 2, 3, 4, 5, 6, 7, 8, 9], [8])])
def laws_FnExactStripCost.B2 : List Nat := [0, 1, 0, 7, 0, 31, 63, 127, 127, 255, 1023]
theorem laws_FnExactStripCost.tab2 : rtab .any (opsOf Try.f15 2) = laws_FnExactStripCost.T2 := by kernel_rfl
theorem laws_FnExactStripCost.bits2 : waitsOk laws_FnExactStripCost.T2.2 laws_FnExactStripCost.B2 = true := by kernel_rfl
set_option maxHeartbeats 8000000 in
set_option maxRecDepth 100000 in
theorem laws_FnExactStripCost.calls (k : Nat) (a0_0 : Int) (a0_1 : Int) (a1_0 : Int) (a1_1 : Int) (a1_2 : Int) (a1_3 : Int) (a1_4 : Int) (a1_5 : Int) (a2 : Int) (r : Bool) (w : World) (h : laws_FnExactStripCost.f k a0_0 a0_1 a1_0 a1_1 a1_2 a1_3 a1_4 a1_5 a2 = some r) :
  Calls Try.prog 15 #[.agg #[.int .i64 a0_0, .int .i64 a0_1], .agg #[.int .i64 a1_0, .int .i64 a1_1, .int .i64 a1_2, .int .i64 a1_3, .int .i64 a1_4, .int .i64 a1_5], .int .i64 a2] w fun e w' => e = .returned (.bool r) ∧ Below w.heap.size w w' := by
 have hu29 := Try.underlying29
 have hu23 := Try.underlying23
 have HB := Aside0.mk (Below.refl w.heap.size w)
 have H : ((laws_toMachine.f a0_0 a0_1).bind fun bt546 => ((laws_toLoop.f a1_0 a1_1 a1_2 a1_3 a1_4 a1_5).bind fun bt548 => ((spec_StripCost.f k bt546.1 bt546.2 bt548.1 bt548.2.1 bt548.2.2.1 bt548.2.2.2.1 bt548.2.2.2.2.1 bt548.2.2.2.2.2 a2).bind fun bt554 => ((laws_toMachine.f a0_0 a0_1).bind fun bt556 => ((laws_toLoop.f a1_0 a1_1 a1_2 a1_3 a1_4 a1_5).bind fun bt558 => ((impl_StripCost.f k bt556.1 bt556.2 bt558.1 bt558.2.1 bt558.2.2.1 bt558.2.2.2.1 bt558.2.2.2.2.1 bt558.2.2.2.2.2 a2).bind fun bt564 => (if bt564.1 = bt554.1 then (if (bt564.2 != bt554.2) = true then (some false) else (some true)) else (some false)))))))) = some r := h
 clear h
 replace H := Option.bind_eq_some_iff.mp H
 obtain ⟨⟨t546, t547⟩, A40, H⟩ := H
 replace H : ((laws_toLoop.f a1_0 a1_1 a1_2 a1_3 a1_4 a1_5).bind fun bt548 => ((spec_StripCost.f k t546 t547 bt548.1 bt548.2.1 bt548.2.2.1 bt548.2.2.2.1 bt548.2.2.2.2.1 bt548.2.2.2.2.2 a2).bind fun bt554 => ((laws_toMachine.f a0_0 a0_1).bind fun bt556 => ((laws_toLoop.f a1_0 a1_1 a1_2 a1_3 a1_4 a1_5).bind fun bt558 => ((impl_StripCost.f k bt556.1 bt556.2 bt558.1 bt558.2.1 bt558.2.2.1 bt558.2.2.2.1 bt558.2.2.2.2.1 bt558.2.2.2.2.2 a2).bind fun bt564 => (if bt564.1 = bt554.1 then (if (bt564.2 != bt554.2) = true then (some false) else (some true)) else (some false))))))) = some r := H
 have A4 := Aside0.mk A40
 clear A40
 replace H := Option.bind_eq_some_iff.mp H
 obtain ⟨⟨t548, t549, t550, t551, t552, t553⟩, A50, H⟩ := H
 replace H : ((spec_StripCost.f k t546 t547 t548 t549 t550 t551 t552 t553 a2).bind fun bt554 => ((laws_toMachine.f a0_0 a0_1).bind fun bt556 => ((laws_toLoop.f a1_0 a1_1 a1_2 a1_3 a1_4 a1_5).bind fun bt558 => ((impl_StripCost.f k bt556.1 bt556.2 bt558.1 bt558.2.1 bt558.2.2.1 bt558.2.2.2.1 bt558.2.2.2.2.1 bt558.2.2.2.2.2 a2).bind fun bt564 => (if bt564.1 = bt554.1 then (if (bt564.2 != bt554.2) = true then (some false) else (some true)) else (some false)))))) = some r := H
 have A5 := Aside0.mk A50
 clear A50
 replace H := Option.bind_eq_some_iff.mp H
 obtain ⟨⟨t554, t555⟩, A60, H⟩ := H
 replace H : ((laws_toMachine.f a0_0 a0_1).bind fun bt556 => ((laws_toLoop.f a1_0 a1_1 a1_2 a1_3 a1_4 a1_5).bind fun bt558 => ((impl_StripCost.f k bt556.1 bt556.2 bt558.1 bt558.2.1 bt558.2.2.1 bt558.2.2.2.1 bt558.2.2.2.2.1 bt558.2.2.2.2.2 a2).bind fun bt564 => (if bt564.1 = t554 then (if (bt564.2 != t555) = true then (some false) else (some true)) else (some false))))) = some r := H
 have A6 := Aside0.mk A60
 clear A60
 replace H := Option.bind_eq_some_iff.mp H
 obtain ⟨⟨t556, t557⟩, A70, H⟩ := H
 replace H : ((laws_toLoop.f a1_0 a1_1 a1_2 a1_3 a1_4 a1_5).bind fun bt558 => ((impl_StripCost.f k t556 t557 bt558.1 bt558.2.1 bt558.2.2.1 bt558.2.2.2.1 bt558.2.2.2.2.1 bt558.2.2.2.2.2 a2).bind fun bt564 => (if bt564.1 = t554 then (if (bt564.2 != t555) = true then (some false) else (some true)) else (some false)))) = some r := H
 have A7 := Aside0.mk A70
 clear A70
 replace H := Option.bind_eq_some_iff.mp H
 obtain ⟨⟨t558, t559, t560, t561, t562, t563⟩, A80, H⟩ := H
 replace H : ((impl_StripCost.f k t556 t557 t558 t559 t560 t561 t562 t563 a2).bind fun bt564 => (if bt564.1 = t554 then (if (bt564.2 != t555) = true then (some false) else (some true)) else (some false))) = some r := H
 have A8 := Aside0.mk A80
 clear A80
 replace H := Option.bind_eq_some_iff.mp H
 obtain ⟨⟨t564, t565⟩, A90, H⟩ := H
 replace H : (if t564 = t554 then (if (t565 != t555) = true then (some false) else (some true)) else (some false)) = some r := H
 have A9 := Aside0.mk A90
 clear A90
 by_cases c10 : t564 = t554
 ·rw [if_pos c10] at H
  have c10b0 : (t564 == t554) = true := beq_iff_eq.mpr c10
  have c10b1 : (t564 != t554) = false := bne_eq_false_iff_eq.mpr c10
  clear c10
  by_cases c11 : (t565 != t555) = true
  ·rw [if_pos c11] at H
   have c11b0 : (t565 != t555) = true := c11
   (try (have c11b1 : decide (t565 = t555) = false := by simpa using c11))
   (try (have c11b2 : (t565 == t555) = false := by simpa using c11))
   (try (have c11b3 : ¬ (t565 = t555) := by simpa using c11))
   clear c11
   obtain rfl := Option.some.inj H
   go_enter Try.func15, Try.ntmps15
   try go_wp2_with (first | ((with_reducible refine gate_dst (N := 3) rfl ?_); refine box_event ?hg (N := 3) ?hd (cs := #[.int .i64 a0_0, .int .i64 a0_1]) (t := 29) ?hr ?_; (case hd => rfl); (case hg => rfl); (case hr => first | (go_simp; done) | (go_simp; rfl)); intro gb544 hg w12 hbox hb; have n0_ := Aside0.mk (below_step (xvo HB.out) hb); have n1_ := Aside0.mk (hbox); have n2_ := Aside0.mk ((by rw [hg]; exact (below_size (xvo HB.out)) : w.heap.size ≤ gb544)); have n3_ := Aside0.mk ((by rw [hg]; exact (below_size (xvo HB.out)) : w.heap.size ≤ gb544)); clear HB; have HB := n0_; have BK544 := n1_; have GW544 := n2_; have GE544 := n3_; clear n0_ n1_ n2_ n3_; clear hb hbox hg) | ((with_reducible refine gate_dst (N := 4) rfl ?_); refine box_event ?hg (N := 4) ?hd (cs := #[.int .i64 a1_0, .int .i64 a1_1, .int .i64 a1_2, .int .i64 a1_3, .int .i64 a1_4, .int .i64 a1_5]) (t := 23) ?hr ?_; (case hd => rfl); (case hg => rfl); (case hr => first | (go_simp; done) | (go_simp; rfl)); intro gb545 hg w13 hbox hb; have n0_ := Aside0.mk (xvl BK544.out hb); have n1_ := Aside0.mk (below_step wv24 hb); have n2_ := Aside0.mk (hbox); have n3_ := Aside0.mk ((by rw [hg]; exact (below_size wv24) : w.heap.size ≤ gb545)); have n4_ := Aside0.mk ((by rw [hg]; exact (below_size wv24) : w.heap.size ≤ gb545)); have n5_ := Aside0.mk ((by rw [hg]; exact Nat.ne_of_lt (blk_lt (g := gb544) (o := .cells #[.int .i64 a0_0, .int .i64 a0_1] 29 (0, 0)) (xvb BK544.out)) : gb544 ≠ gb545)); have n6_ := Aside0.mk ((by rw [hg]; exact Nat.ne_of_gt (blk_lt (g := gb544) (o := .cells #[.int .i64 a0_0, .int .i64 a0_1] 29 (0, 0)) (xvb BK544.out)) : gb545 ≠ gb544)); clear BK544; clear HB; have BK544 := n0_; have HB := n1_; have BK545 := n2_; have GW545 := n3_; have GE545 := n4_; have NB544_545 := n5_; have NB545_544 := n6_; clear n0_ n1_ n2_ n3_ n4_ n5_ n6_; clear hb hbox hg))
   have n0_ := Aside0.mk (blk_drew BK544.out)
   have n1_ := Aside0.mk (blk_drew BK545.out)
   have n2_ := Aside0.mk (below_drew1 HB.out)
   clear BK544
   clear BK545
   clear HB
   have BK544 := n0_
   have BK545 := n1_
   have HB := n2_
   clear n0_ n1_ n2_
   refine start_ (n := 11) (S := fun w' => w'.cell? ⟨gb544, 0, none⟩ = some (.int .i64 a0_0) ∧ w'.cell? ⟨gb544, 1, none⟩ = some (.int .i64 a0_1) ∧ w'.cell? ⟨gb545, 0, none⟩ = some (.int .i64 a1_0) ∧ w'.cell? ⟨gb545, 1, none⟩ = some (.int .i64 a1_1) ∧ w'.cell? ⟨gb545, 2, none⟩ = some (.int .i64 a1_2) ∧ w'.cell? ⟨gb545, 3, none⟩ = some (.int .i64 a1_3) ∧ w'.cell? ⟨gb545, 4, none⟩ = some (.int .i64 a1_4) ∧ w'.cell? ⟨gb545, 5, none⟩ = some (.int .i64 a1_5)) (ds := []) (zv_.bm 11 0) (by kernel_rfl) rfl rfl ⟨xvc BK544.out, xvc BK544.out, xvc BK545.out, xvc BK545.out, xvc BK545.out, xvc BK545.out, xvc BK545.out, xvc BK545.out⟩ (fun hHeld => ?_); refine with_tabW laws_FnExactStripCost.tab1 laws_FnExactStripCost.bits1 (fun HT_ HW_ => ?_)
   generalize w13.drew = w14 at BK544 BK545 HB hHeld ⊢
   refine zv_.pa (i := 4) (N := some 16) (zv_.bm 11 16) HT_.out ?_
   refine zv_.ta (i := 0) (N := some 12) (zv_.bm 11 17) rfl (take_ofW HT_.out HW_.out (by kernel_rfl)) (Or.inl ⟨(by rfl), wv16⟩) hHeld ?_
   refine zv_.ta (i := 2) (N := some 14) (zv_.bm 11 21) rfl (take_ofW HT_.out HW_.out (by kernel_rfl)) (Or.inl ⟨(by rfl), wv16⟩) hHeld ?_
   refine one_ (i := 1) (N := some 13) (zv_.bm 11 23) rfl rfl (one_of HT_.out (by kernel_rfl)) (by decide) (fun K hK => ?_)
   refine goes_ Try.func23 (by kernel_rfl) rfl #[.agg #[.int .i64 a0_0, .int .i64 a0_1]] (by rfl) rfl rfl wv1 ?_
   with_reducible refine (laws_toMachine.calls a0_0 a0_1 t546 t547 _ A4.out).mono ?_
   rintro e w15 ⟨rfl, hb⟩
   refine ⟨_, rfl, ?_⟩
   have n0_ := Aside0.mk (xvl BK544.out hb)
   have n1_ := Aside0.mk (xvl BK545.out hb)
   have n2_ := Aside0.mk (below_step wv11 hb)
   clear BK544
   clear BK545
   clear HB
   have BK544 := n0_
   have BK545 := n1_
   have HB := n2_
   clear n0_ n1_ n2_
   (try clear hb)
   (try clear hb2)
   (try clear hk)
   (try clear hi)
   refine hK.out _ _ ⟨xvc BK544.out, xvc BK544.out, xvc BK545.out, xvc BK545.out, xvc BK545.out, xvc BK545.out, xvc BK545.out, xvc BK545.out⟩ (fun hHeld => ?_)
   clear hK K
   refine norm_ (a' := ?_) ?_ ?_
   rotate_left
   ·show Act.put _ (some 13) _ = _
    simp only [Act.put, List.setIfInBounds_toArray, List.set_cons_zero, List.set_cons_succ, i64_w, i32_w]
    rfl
   refine one_ (i := 3) (N := some 15) (zv_.bm 11 31) rfl rfl (one_of HT_.out (by kernel_rfl)) (by decide) (fun K hK => ?_)
   refine goes_ Try.func20 (by kernel_rfl) rfl #[.agg #[.int .i64 a1_0, .int .i64 a1_1, .int .i64 a1_2, .int .i64 a1_3, .int .i64 a1_4, .int .i64 a1_5]] (by rfl) rfl rfl wv1 ?_
   with_reducible refine (laws_toLoop.calls a1_0 a1_1 a1_2 a1_3 a1_4 a1_5 t548 t549 t550 t551 t552 t553 _ A5.out).mono ?_
   rintro e w16 ⟨rfl, hb⟩
   refine ⟨_, rfl, ?_⟩
   have n0_ := Aside0.mk (xvl BK544.out hb)
   have n1_ := Aside0.mk (xvl BK545.out hb)
   have n2_ := Aside0.mk (below_step wv11 hb)
   clear BK544
   clear BK545
   clear HB
   have BK544 := n0_
   have BK545 := n1_
   have HB := n2_
   clear n0_ n1_ n2_
   (try clear hb)
   (try clear hb2)
   (try clear hk)
   (try clear hi)
   refine hK.out _ _ ⟨xvc BK544.out, xvc BK544.out, xvc BK545.out, xvc BK545.out, xvc BK545.out, xvc BK545.out, xvc BK545.out, xvc BK545.out⟩ (fun hHeld => ?_)
   clear hK K
   refine norm_ (a' := ?_) ?_ ?_
   rotate_left
   ·show Act.put _ (some 15) _ = _
    simp only [Act.put, List.setIfInBounds_toArray, List.set_cons_zero, List.set_cons_succ, i64_w, i32_w]
    rfl
   refine one_ (i := 5) (N := some 17) (zv_.bm 11 63) rfl rfl (one_of HT_.out (by kernel_rfl)) (by decide) (fun K hK => ?_)
   refine goes_ Try.func71 (by kernel_rfl) rfl #[.agg #[.int .i64 t546, .int .i64 t547], .agg #[.int .i64 t548, .int .i64 t549, .int .i64 t550, .int .i64 t551, .int .i64 t552, .int .i64 t553], .int .i64 a2] (by rfl) rfl rfl wv1 ?_
   with_reducible refine (spec_StripCost.calls k t546 t547 t548 t549 t550 t551 t552 t553 a2 t554 t555 _ A6.out).mono ?_
   rintro e w17 ⟨rfl, hb⟩
   refine ⟨_, rfl, ?_⟩
   have n0_ := Aside0.mk (xvl BK544.out hb)
   have n1_ := Aside0.mk (xvl BK545.out hb)
   have n2_ := Aside0.mk (below_step wv11 hb)
   clear BK544
   clear BK545
   clear HB
   have BK544 := n0_
   have BK545 := n1_
   have HB := n2_
   clear n0_ n1_ n2_
   (try clear hb)
   (try clear hb2)
   (try clear hk)
   (try clear hi)
   refine hK.out _ _ ⟨xvc BK544.out, xvc BK544.out, xvc BK545.out, xvc BK545.out, xvc BK545.out, xvc BK545.out, xvc BK545.out, xvc BK545.out⟩ (fun hHeld => ?_)
   clear hK K
   refine norm_ (a' := ?_) ?_ ?_
   rotate_left
   ·show Act.put _ (some 17) _ = _
    simp only [Act.put, List.setIfInBounds_toArray, List.set_cons_zero, List.set_cons_succ, i64_w, i32_w]
    rfl
   refine zv_.pa (i := 6) (N := some 11) (zv_.bm 11 127) HT_.out ?_
   refine zv_.pa (i := 7) (N := some 18) (zv_.bm 11 255) HT_.out ?_
   refine zv_.pa (i := 8) (N := some 19) (zv_.bm 11 511) HT_.out ?_
   refine zv_.pa (i := 9) (N := some 7) (zv_.bm 11 1023) HT_.out ?_
   refine zv_.pa (i := 10) (N := some 8) (zv_.bm 11 2047) HT_.out ?_
   refine done_ (done_of HT_.out (by kernel_rfl)) ?_
   try go_wp2
   have n0_ := Aside0.mk (blk_drew BK544.out)
   have n1_ := Aside0.mk (blk_drew BK545.out)
   have n2_ := Aside0.mk (below_drew1 HB.out)
   clear BK544
   clear BK545
   clear HB
   have BK544 := n0_
   have BK545 := n1_
   have HB := n2_
   clear n0_ n1_ n2_
   refine start_ (n := 11) (S := fun w' => w'.cell? ⟨gb544, 0, none⟩ = some (.int .i64 a0_0) ∧ w'.cell? ⟨gb544, 1, none⟩ = some (.int .i64 a0_1) ∧ w'.cell? ⟨gb545, 0, none⟩ = some (.int .i64 a1_0) ∧ w'.cell? ⟨gb545, 1, none⟩ = some (.int .i64 a1_1) ∧ w'.cell? ⟨gb545, 2, none⟩ = some (.int .i64 a1_2) ∧ w'.cell? ⟨gb545, 3, none⟩ = some (.int .i64 a1_3) ∧ w'.cell? ⟨gb545, 4, none⟩ = some (.int .i64 a1_4) ∧ w'.cell? ⟨gb545, 5, none⟩ = some (.int .i64 a1_5)) (ds := []) (zv_.bm 11 0) (by kernel_rfl) rfl rfl ⟨xvc BK544.out, xvc BK544.out, xvc BK545.out, xvc BK545.out, xvc BK545.out, xvc BK545.out, xvc BK545.out, xvc BK545.out⟩ (fun hHeld => ?_); refine with_tabW laws_FnExactStripCost.tab2 laws_FnExactStripCost.bits2 (fun HT_ HW_ => ?_)
   generalize w17.drew = w18 at BK544 BK545 HB hHeld ⊢
   refine zv_.pa (i := 4) (N := some 25) (zv_.bm 11 16) HT_.out ?_
   refine zv_.ta (i := 0) (N := some 21) (zv_.bm 11 17) rfl (take_ofW HT_.out HW_.out (by kernel_rfl)) (Or.inl ⟨(by rfl), wv16⟩) hHeld ?_
   refine zv_.ta (i := 2) (N := some 23) (zv_.bm 11 21) rfl (take_ofW HT_.out HW_.out (by kernel_rfl)) (Or.inl ⟨(by rfl), wv16⟩) hHeld ?_
   refine one_ (i := 1) (N := some 22) (zv_.bm 11 23) rfl rfl (one_of HT_.out (by kernel_rfl)) (by decide) (fun K hK => ?_)
   refine goes_ Try.func23 (by kernel_rfl) rfl #[.agg #[.int .i64 a0_0, .int .i64 a0_1]] (by rfl) rfl rfl wv1 ?_
   with_reducible refine (laws_toMachine.calls a0_0 a0_1 t556 t557 _ A7.out).mono ?_
   rintro e w19 ⟨rfl, hb⟩
   refine ⟨_, rfl, ?_⟩
   have n0_ := Aside0.mk (xvl BK544.out hb)
   have n1_ := Aside0.mk (xvl BK545.out hb)
   have n2_ := Aside0.mk (below_step wv11 hb)
   clear BK544
   clear BK545
   clear HB
   have BK544 := n0_
   have BK545 := n1_
   have HB := n2_
   clear n0_ n1_ n2_
   (try clear hb)
   (try clear hb2)
   (try clear hk)
   (try clear hi)
   refine hK.out _ _ ⟨xvc BK544.out, xvc BK544.out, xvc BK545.out, xvc BK545.out, xvc BK545.out, xvc BK545.out, xvc BK545.out, xvc BK545.out⟩ (fun hHeld => ?_)
   clear hK K
   refine norm_ (a' := ?_) ?_ ?_
   rotate_left
   ·show Act.put _ (some 22) _ = _
    simp only [Act.put, List.setIfInBounds_toArray, List.set_cons_zero, List.set_cons_succ, i64_w, i32_w]
    rfl
   refine one_ (i := 3) (N := some 24) (zv_.bm 11 31) rfl rfl (one_of HT_.out (by kernel_rfl)) (by decide) (fun K hK => ?_)
   refine goes_ Try.func20 (by kernel_rfl) rfl #[.agg #[.int .i64 a1_0, .int .i64 a1_1, .int .i64 a1_2, .int .i64 a1_3, .int .i64 a1_4, .int .i64 a1_5]] (by rfl) rfl rfl wv1 ?_
   with_reducible refine (laws_toLoop.calls a1_0 a1_1 a1_2 a1_3 a1_4 a1_5 t558 t559 t560 t561 t562 t563 _ A8.out).mono ?_
   rintro e w20 ⟨rfl, hb⟩
   refine ⟨_, rfl, ?_⟩
   have n0_ := Aside0.mk (xvl BK544.out hb)
   have n1_ := Aside0.mk (xvl BK545.out hb)
   have n2_ := Aside0.mk (below_step wv11 hb)
   clear BK544
   clear BK545
   clear HB
   have BK544 := n0_
   have BK545 := n1_
   have HB := n2_
   clear n0_ n1_ n2_
   (try clear hb)
   (try clear hb2)
   (try clear hk)
   (try clear hi)
   refine hK.out _ _ ⟨xvc BK544.out, xvc BK544.out, xvc BK545.out, xvc BK545.out, xvc BK545.out, xvc BK545.out, xvc BK545.out, xvc BK545.out⟩ (fun hHeld => ?_)
   clear hK K
   refine norm_ (a' := ?_) ?_ ?_
   rotate_left
   ·show Act.put _ (some 24) _ = _
    simp only [Act.put, List.setIfInBounds_toArray, List.set_cons_zero, List.set_cons_succ, i64_w, i32_w]
    rfl
   refine one_ (i := 5) (N := some 26) (zv_.bm 11 63) rfl rfl (one_of HT_.out (by kernel_rfl)) (by decide) (fun K hK => ?_)
   refine goes_ Try.func72 (by kernel_rfl) rfl #[.agg #[.int .i64 t556, .int .i64 t557], .agg #[.int .i64 t558, .int .i64 t559, .int .i64 t560, .int .i64 t561, .int .i64 t562, .int .i64 t563], .int .i64 a2] (by rfl) rfl rfl wv1 ?_
   with_reducible refine (impl_StripCost.calls k t556 t557 t558 t559 t560 t561 t562 t563 a2 t564 t565 _ A9.out).mono ?_
   rintro e w21 ⟨rfl, hb⟩
   refine ⟨_, rfl, ?_⟩
   have n0_ := Aside0.mk (xvl BK544.out hb)
   have n1_ := Aside0.mk (xvl BK545.out hb)
   have n2_ := Aside0.mk (below_step wv11 hb)
   clear BK544
   clear BK545
   clear HB
   have BK544 := n0_
   have BK545 := n1_
   have HB := n2_
   clear n0_ n1_ n2_
   (try clear hb)
   (try clear hb2)
   (try clear hk)
   (try clear hi)
   refine hK.out _ _ ⟨xvc BK544.out, xvc BK544.out, xvc BK545.out, xvc BK545.out, xvc BK545.out, xvc BK545.out, xvc BK545.out, xvc BK545.out⟩ (fun hHeld => ?_)
   clear hK K
   refine norm_ (a' := ?_) ?_ ?_
   rotate_left
   ·show Act.put _ (some 26) _ = _
    simp only [Act.put, List.setIfInBounds_toArray, List.set_cons_zero, List.set_cons_succ, i64_w, i32_w]
    rfl
   refine zv_.pa (i := 6) (N := some 20) (zv_.bm 11 127) HT_.out ?_
   refine zv_.pa (i := 7) (N := some 27) (zv_.bm 11 255) HT_.out ?_
   refine zv_.pa (i := 8) (N := some 28) (zv_.bm 11 511) HT_.out ?_
   refine zv_.pa (i := 9) (N := some 9) (zv_.bm 11 1023) HT_.out ?_
   refine zv_.pa (i := 10) (N := some 10) (zv_.bm 11 2047) HT_.out ?_
   refine done_ (done_of HT_.out (by kernel_rfl)) ?_
   try go_wp2
   go_ret
   exact ⟨wv3, wv11⟩
  ·rw [if_neg c11] at H
   have c11b0 : (t565 != t555) = false := by simpa using c11
   (try (have c11b1 : decide (t565 = t555) = true := by simpa using c11))
   (try (have c11b2 : (t565 == t555) = true := by simpa using c11))
   clear c11
   obtain rfl := Option.some.inj H
   go_enter Try.func15, Try.ntmps15
   try go_wp2_with (first | ((with_reducible refine gate_dst (N := 3) rfl ?_); refine box_event ?hg (N := 3) ?hd (cs := #[.int .i64 a0_0, .int .i64 a0_1]) (t := 29) ?hr ?_; (case hd => rfl); (case hg => rfl); (case hr => first | (go_simp; done) | (go_simp; rfl)); intro gb544 hg w22 hbox hb; have n0_ := Aside0.mk (below_step (xvo HB.out) hb); have n1_ := Aside0.mk (hbox); have n2_ := Aside0.mk ((by rw [hg]; exact (below_size (xvo HB.out)) : w.heap.size ≤ gb544)); have n3_ := Aside0.mk ((by rw [hg]; exact (below_size (xvo HB.out)) : w.heap.size ≤ gb544)); clear HB; have HB := n0_; have BK544 := n1_; have GW544 := n2_; have GE544 := n3_; clear n0_ n1_ n2_ n3_; clear hb hbox hg) | ((with_reducible refine gate_dst (N := 4) rfl ?_); refine box_event ?hg (N := 4) ?hd (cs := #[.int .i64 a1_0, .int .i64 a1_1, .int .i64 a1_2, .int .i64 a1_3, .int .i64 a1_4, .int .i64 a1_5]) (t := 23) ?hr ?_; (case hd => rfl); (case hg => rfl); (case hr => first | (go_simp; done) | (go_simp; rfl)); intro gb545 hg w23 hbox hb; have n0_ := Aside0.mk (xvl BK544.out hb); have n1_ := Aside0.mk (below_step wv24 hb); have n2_ := Aside0.mk (hbox); have n3_ := Aside0.mk ((by rw [hg]; exact (below_size wv24) : w.heap.size ≤ gb545)); have n4_ := Aside0.mk ((by rw [hg]; exact (below_size wv24) : w.heap.size ≤ gb545)); have n5_ := Aside0.mk ((by rw [hg]; exact Nat.ne_of_lt (blk_lt (g := gb544) (o := .cells #[.int .i64 a0_0, .int .i64 a0_1] 29 (0, 0)) (xvb BK544.out)) : gb544 ≠ gb545)); have n6_ := Aside0.mk ((by rw [hg]; exact Nat.ne_of_gt (blk_lt (g := gb544) (o := .cells #[.int .i64 a0_0, .int .i64 a0_1] 29 (0, 0)) (xvb BK544.out)) : gb545 ≠ gb544)); clear BK544; clear HB; have BK544 := n0_; have HB := n1_; have BK545 := n2_; have GW545 := n3_; have GE545 := n4_; have NB544_545 := n5_; have NB545_544 := n6_; clear n0_ n1_ n2_ n3_ n4_ n5_ n6_; clear hb hbox hg))
   have n0_ := Aside0.mk (blk_drew BK544.out)
   have n1_ := Aside0.mk (blk_drew BK545.out)
   have n2_ := Aside0.mk (below_drew1 HB.out)
   clear BK544
   clear BK545
   clear HB
   have BK544 := n0_
   have BK545 := n1_
   have HB := n2_
   clear n0_ n1_ n2_
   refine start_ (n := 11) (S := fun w' => w'.cell? ⟨gb544, 0, none⟩ = some (.int .i64 a0_0) ∧ w'.cell? ⟨gb544, 1, none⟩ = some (.int .i64 a0_1) ∧ w'.cell? ⟨gb545, 0, none⟩ = some (.int .i64 a1_0) ∧ w'.cell? ⟨gb545, 1, none⟩ = some (.int .i64 a1_1) ∧ w'.cell? ⟨gb545, 2, none⟩ = some (.int .i64 a1_2) ∧ w'.cell? ⟨gb545, 3, none⟩ = some (.int .i64 a1_3) ∧ w'.cell? ⟨gb545, 4, none⟩ = some (.int .i64 a1_4) ∧ w'.cell? ⟨gb545, 5, none⟩ = some (.int .i64 a1_5)) (ds := []) (zv_.bm 11 0) (by kernel_rfl) rfl rfl ⟨xvc BK544.out, xvc BK544.out, xvc BK545.out, xvc BK545.out, xvc BK545.out, xvc BK545.out, xvc BK545.out, xvc BK545.out⟩ (fun hHeld => ?_); refine with_tabW laws_FnExactStripCost.tab1 laws_FnExactStripCost.bits1 (fun HT_ HW_ => ?_)
   generalize w23.drew = w24 at BK544 BK545 HB hHeld ⊢
   refine zv_.pa (i := 4) (N := some 16) (zv_.bm 11 16) HT_.out ?_
   refine zv_.ta (i := 0) (N := some 12) (zv_.bm 11 17) rfl (take_ofW HT_.out HW_.out (by kernel_rfl)) (Or.inl ⟨(by rfl), wv16⟩) hHeld ?_
   refine zv_.ta (i := 2) (N := some 14) (zv_.bm 11 21) rfl (take_ofW HT_.out HW_.out (by kernel_rfl)) (Or.inl ⟨(by rfl), wv16⟩) hHeld ?_
   refine one_ (i := 1) (N := some 13) (zv_.bm 11 23) rfl rfl (one_of HT_.out (by kernel_rfl)) (by decide) (fun K hK => ?_)
   refine goes_ Try.func23 (by kernel_rfl) rfl #[.agg #[.int .i64 a0_0, .int .i64 a0_1]] (by rfl) rfl rfl wv1 ?_
   with_reducible refine (laws_toMachine.calls a0_0 a0_1 t546 t547 _ A4.out).mono ?_
   rintro e w25 ⟨rfl, hb⟩
   refine ⟨_, rfl, ?_⟩
   have n0_ := Aside0.mk (xvl BK544.out hb)
   have n1_ := Aside0.mk (xvl BK545.out hb)
   have n2_ := Aside0.mk (below_step wv11 hb)
   clear BK544
   clear BK545
   clear HB
   have BK544 := n0_
   have BK545 := n1_
   have HB := n2_
   clear n0_ n1_ n2_
   (try clear hb)
   (try clear hb2)
   (try clear hk)
   (try clear hi)
   refine hK.out _ _ ⟨xvc BK544.out, xvc BK544.out, xvc BK545.out, xvc BK545.out, xvc BK545.out, xvc BK545.out, xvc BK545.out, xvc BK545.out⟩ (fun hHeld => ?_)
   clear hK K
   refine norm_ (a' := ?_) ?_ ?_
   rotate_left
   ·show Act.put _ (some 13) _ = _
    simp only [Act.put, List.setIfInBounds_toArray, List.set_cons_zero, List.set_cons_succ, i64_w, i32_w]
    rfl
   refine one_ (i := 3) (N := some 15) (zv_.bm 11 31) rfl rfl (one_of HT_.out (by kernel_rfl)) (by decide) (fun K hK => ?_)
   refine goes_ Try.func20 (by kernel_rfl) rfl #[.agg #[.int .i64 a1_0, .int .i64 a1_1, .int .i64 a1_2, .int .i64 a1_3, .int .i64 a1_4, .int .i64 a1_5]] (by rfl) rfl rfl wv1 ?_
   with_reducible refine (laws_toLoop.calls a1_0 a1_1 a1_2 a1_3 a1_4 a1_5 t548 t549 t550 t551 t552 t553 _ A5.out).mono ?_
   rintro e w26 ⟨rfl, hb⟩
   refine ⟨_, rfl, ?_⟩
   have n0_ := Aside0.mk (xvl BK544.out hb)
   have n1_ := Aside0.mk (xvl BK545.out hb)
   have n2_ := Aside0.mk (below_step wv11 hb)
   clear BK544
   clear BK545
   clear HB
   have BK544 := n0_
   have BK545 := n1_
   have HB := n2_
   clear n0_ n1_ n2_
   (try clear hb)
   (try clear hb2)
   (try clear hk)
   (try clear hi)
   refine hK.out _ _ ⟨xvc BK544.out, xvc BK544.out, xvc BK545.out, xvc BK545.out, xvc BK545.out, xvc BK545.out, xvc BK545.out, xvc BK545.out⟩ (fun hHeld => ?_)
   clear hK K
   refine norm_ (a' := ?_) ?_ ?_
   rotate_left
   ·show Act.put _ (some 15) _ = _
    simp only [Act.put, List.setIfInBounds_toArray, List.set_cons_zero, List.set_cons_succ, i64_w, i32_w]
    rfl
   refine one_ (i := 5) (N := some 17) (zv_.bm 11 63) rfl rfl (one_of HT_.out (by kernel_rfl)) (by decide) (fun K hK => ?_)
   refine goes_ Try.func71 (by kernel_rfl) rfl #[.agg #[.int .i64 t546, .int .i64 t547], .agg #[.int .i64 t548, .int .i64 t549, .int .i64 t550, .int .i64 t551, .int .i64 t552, .int .i64 t553], .int .i64 a2] (by rfl) rfl rfl wv1 ?_
   with_reducible refine (spec_StripCost.calls k t546 t547 t548 t549 t550 t551 t552 t553 a2 t554 t555 _ A6.out).mono ?_
   rintro e w27 ⟨rfl, hb⟩
   refine ⟨_, rfl, ?_⟩
   have n0_ := Aside0.mk (xvl BK544.out hb)
   have n1_ := Aside0.mk (xvl BK545.out hb)
   have n2_ := Aside0.mk (below_step wv11 hb)
   clear BK544
   clear BK545
   clear HB
   have BK544 := n0_
   have BK545 := n1_
   have HB := n2_
   clear n0_ n1_ n2_
   (try clear hb)
   (try clear hb2)
   (try clear hk)
   (try clear hi)
   refine hK.out _ _ ⟨xvc BK544.out, xvc BK544.out, xvc BK545.out, xvc BK545.out, xvc BK545.out, xvc BK545.out, xvc BK545.out, xvc BK545.out⟩ (fun hHeld => ?_)
   clear hK K
   refine norm_ (a' := ?_) ?_ ?_
   rotate_left
   ·show Act.put _ (some 17) _ = _
    simp only [Act.put, List.setIfInBounds_toArray, List.set_cons_zero, List.set_cons_succ, i64_w, i32_w]
    rfl
   refine zv_.pa (i := 6) (N := some 11) (zv_.bm 11 127) HT_.out ?_
   refine zv_.pa (i := 7) (N := some 18) (zv_.bm 11 255) HT_.out ?_
   refine zv_.pa (i := 8) (N := some 19) (zv_.bm 11 511) HT_.out ?_
   refine zv_.pa (i := 9) (N := some 7) (zv_.bm 11 1023) HT_.out ?_
   refine zv_.pa (i := 10) (N := some 8) (zv_.bm 11 2047) HT_.out ?_
   refine done_ (done_of HT_.out (by kernel_rfl)) ?_
   try go_wp2
   have n0_ := Aside0.mk (blk_drew BK544.out)
   have n1_ := Aside0.mk (blk_drew BK545.out)
   have n2_ := Aside0.mk (below_drew1 HB.out)
   clear BK544
   clear BK545
   clear HB
   have BK544 := n0_
   have BK545 := n1_
   have HB := n2_
   clear n0_ n1_ n2_
   refine start_ (n := 11) (S := fun w' => w'.cell? ⟨gb544, 0, none⟩ = some (.int .i64 a0_0) ∧ w'.cell? ⟨gb544, 1, none⟩ = some (.int .i64 a0_1) ∧ w'.cell? ⟨gb545, 0, none⟩ = some (.int .i64 a1_0) ∧ w'.cell? ⟨gb545, 1, none⟩ = some (.int .i64 a1_1) ∧ w'.cell? ⟨gb545, 2, none⟩ = some (.int .i64 a1_2) ∧ w'.cell? ⟨gb545, 3, none⟩ = some (.int .i64 a1_3) ∧ w'.cell? ⟨gb545, 4, none⟩ = some (.int .i64 a1_4) ∧ w'.cell? ⟨gb545, 5, none⟩ = some (.int .i64 a1_5)) (ds := []) (zv_.bm 11 0) (by kernel_rfl) rfl rfl ⟨xvc BK544.out, xvc BK544.out, xvc BK545.out, xvc BK545.out, xvc BK545.out, xvc BK545.out, xvc BK545.out, xvc BK545.out⟩ (fun hHeld => ?_); refine with_tabW laws_FnExactStripCost.tab2 laws_FnExactStripCost.bits2 (fun HT_ HW_ => ?_)
   generalize w27.drew = w28 at BK544 BK545 HB hHeld ⊢
   refine zv_.pa (i := 4) (N := some 25) (zv_.bm 11 16) HT_.out ?_
   refine zv_.ta (i := 0) (N := some 21) (zv_.bm 11 17) rfl (take_ofW HT_.out HW_.out (by kernel_rfl)) (Or.inl ⟨(by rfl), wv16⟩) hHeld ?_
   refine zv_.ta (i := 2) (N := some 23) (zv_.bm 11 21) rfl (take_ofW HT_.out HW_.out (by kernel_rfl)) (Or.inl ⟨(by rfl), wv16⟩) hHeld ?_
   refine one_ (i := 1) (N := some 22) (zv_.bm 11 23) rfl rfl (one_of HT_.out (by kernel_rfl)) (by decide) (fun K hK => ?_)
   refine goes_ Try.func23 (by kernel_rfl) rfl #[.agg #[.int .i64 a0_0, .int .i64 a0_1]] (by rfl) rfl rfl wv1 ?_
   with_reducible refine (laws_toMachine.calls a0_0 a0_1 t556 t557 _ A7.out).mono ?_
   rintro e w29 ⟨rfl, hb⟩
   refine ⟨_, rfl, ?_⟩
   have n0_ := Aside0.mk (xvl BK544.out hb)
   have n1_ := Aside0.mk (xvl BK545.out hb)
   have n2_ := Aside0.mk (below_step wv11 hb)
   clear BK544
   clear BK545
   clear HB
   have BK544 := n0_
   have BK545 := n1_
   have HB := n2_
   clear n0_ n1_ n2_
   (try clear hb)
   (try clear hb2)
   (try clear hk)
   (try clear hi)
   refine hK.out _ _ ⟨xvc BK544.out, xvc BK544.out, xvc BK545.out, xvc BK545.out, xvc BK545.out, xvc BK545.out, xvc BK545.out, xvc BK545.out⟩ (fun hHeld => ?_)
   clear hK K
   refine norm_ (a' := ?_) ?_ ?_
   rotate_left
   ·show Act.put _ (some 22) _ = _
    simp only [Act.put, List.setIfInBounds_toArray, List.set_cons_zero, List.set_cons_succ, i64_w, i32_w]
    rfl
   refine one_ (i := 3) (N := some 24) (zv_.bm 11 31) rfl rfl (one_of HT_.out (by kernel_rfl)) (by decide) (fun K hK => ?_)
   refine goes_ Try.func20 (by kernel_rfl) rfl #[.agg #[.int .i64 a1_0, .int .i64 a1_1, .int .i64 a1_2, .int .i64 a1_3, .int .i64 a1_4, .int .i64 a1_5]] (by rfl) rfl rfl wv1 ?_
   with_reducible refine (laws_toLoop.calls a1_0 a1_1 a1_2 a1_3 a1_4 a1_5 t558 t559 t560 t561 t562 t563 _ A8.out).mono ?_
   rintro e w30 ⟨rfl, hb⟩
   refine ⟨_, rfl, ?_⟩
   have n0_ := Aside0.mk (xvl BK544.out hb)
   have n1_ := Aside0.mk (xvl BK545.out hb)
   have n2_ := Aside0.mk (below_step wv11 hb)
   clear BK544
   clear BK545
   clear HB
   have BK544 := n0_
   have BK545 := n1_
   have HB := n2_
   clear n0_ n1_ n2_
   (try clear hb)
   (try clear hb2)
   (try clear hk)
   (try clear hi)
   refine hK.out _ _ ⟨xvc BK544.out, xvc BK544.out, xvc BK545.out, xvc BK545.out, xvc BK545.out, xvc BK545.out, xvc BK545.out, xvc BK545.out⟩ (fun hHeld => ?_)
   clear hK K
   refine norm_ (a' := ?_) ?_ ?_
   rotate_left
   ·show Act.put _ (some 24) _ = _
    simp only [Act.put, List.setIfInBounds_toArray, List.set_cons_zero, List.set_cons_succ, i64_w, i32_w]
    rfl
   refine one_ (i := 5) (N := some 26) (zv_.bm 11 63) rfl rfl (one_of HT_.out (by kernel_rfl)) (by decide) (fun K hK => ?_)
   refine goes_ Try.func72 (by kernel_rfl) rfl #[.agg #[.int .i64 t556, .int .i64 t557], .agg #[.int .i64 t558, .int .i64 t559, .int .i64 t560, .int .i64 t561, .int .i64 t562, .int .i64 t563], .int .i64 a2] (by rfl) rfl rfl wv1 ?_
   with_reducible refine (impl_StripCost.calls k t556 t557 t558 t559 t560 t561 t562 t563 a2 t564 t565 _ A9.out).mono ?_
   rintro e w31 ⟨rfl, hb⟩
   refine ⟨_, rfl, ?_⟩
   have n0_ := Aside0.mk (xvl BK544.out hb)
   have n1_ := Aside0.mk (xvl BK545.out hb)
   have n2_ := Aside0.mk (below_step wv11 hb)
   clear BK544
   clear BK545
   clear HB
   have BK544 := n0_
   have BK545 := n1_
   have HB := n2_
   clear n0_ n1_ n2_
   (try clear hb)
   (try clear hb2)
   (try clear hk)
   (try clear hi)
   refine hK.out _ _ ⟨xvc BK544.out, xvc BK544.out, xvc BK545.out, xvc BK545.out, xvc BK545.out, xvc BK545.out, xvc BK545.out, xvc BK545.out⟩ (fun hHeld => ?_)
   clear hK K
   refine norm_ (a' := ?_) ?_ ?_
   rotate_left
   ·show Act.put _ (some 26) _ = _
    simp only [Act.put, List.setIfInBounds_toArray, List.set_cons_zero, List.set_cons_succ, i64_w, i32_w]
    rfl
   refine zv_.pa (i := 6) (N := some 20) (zv_.bm 11 127) HT_.out ?_
   refine zv_.pa (i := 7) (N := some 27) (zv_.bm 11 255) HT_.out ?_
   refine zv_.pa (i := 8) (N := some 28) (zv_.bm 11 511) HT_.out ?_
   refine zv_.pa (i := 9) (N := some 9) (zv_.bm 11 1023) HT_.out ?_
   refine zv_.pa (i := 10) (N := some 10) (zv_.bm 11 2047) HT_.out ?_
   refine done_ (done_of HT_.out (by kernel_rfl)) ?_
   try go_wp2
   go_ret
   exact ⟨wv3, wv11⟩
 ·rw [if_neg c10] at H
  have c10b0 : (t564 == t554) = false := beq_eq_false_iff_ne.mpr c10
  have c10b1 : (t564 != t554) = true := bne_iff_ne.mpr c10
  obtain rfl := Option.some.inj H
  go_enter Try.func15, Try.ntmps15
  try go_wp2_with (first | ((with_reducible refine gate_dst (N := 3) rfl ?_); refine box_event ?hg (N := 3) ?hd (cs := #[.int .i64 a0_0, .int .i64 a0_1]) (t := 29) ?hr ?_; (case hd => rfl); (case hg => rfl); (case hr => first | (go_simp; done) | (go_simp; rfl)); intro gb544 hg w32 hbox hb; have n0_ := Aside0.mk (below_step (xvo HB.out) hb); have n1_ := Aside0.mk (hbox); have n2_ := Aside0.mk ((by rw [hg]; exact (below_size (xvo HB.out)) : w.heap.size ≤ gb544)); have n3_ := Aside0.mk ((by rw [hg]; exact (below_size (xvo HB.out)) : w.heap.size ≤ gb544)); clear HB; have HB := n0_; have BK544 := n1_; have GW544 := n2_; have GE544 := n3_; clear n0_ n1_ n2_ n3_; clear hb hbox hg) | ((with_reducible refine gate_dst (N := 4) rfl ?_); refine box_event ?hg (N := 4) ?hd (cs := #[.int .i64 a1_0, .int .i64 a1_1, .int .i64 a1_2, .int .i64 a1_3, .int .i64 a1_4, .int .i64 a1_5]) (t := 23) ?hr ?_; (case hd => rfl); (case hg => rfl); (case hr => first | (go_simp; done) | (go_simp; rfl)); intro gb545 hg w33 hbox hb; have n0_ := Aside0.mk (xvl BK544.out hb); have n1_ := Aside0.mk (below_step wv24 hb); have n2_ := Aside0.mk (hbox); have n3_ := Aside0.mk ((by rw [hg]; exact (below_size wv24) : w.heap.size ≤ gb545)); have n4_ := Aside0.mk ((by rw [hg]; exact (below_size wv24) : w.heap.size ≤ gb545)); have n5_ := Aside0.mk ((by rw [hg]; exact Nat.ne_of_lt (blk_lt (g := gb544) (o := .cells #[.int .i64 a0_0, .int .i64 a0_1] 29 (0, 0)) (xvb BK544.out)) : gb544 ≠ gb545)); have n6_ := Aside0.mk ((by rw [hg]; exact Nat.ne_of_gt (blk_lt (g := gb544) (o := .cells #[.int .i64 a0_0, .int .i64 a0_1] 29 (0, 0)) (xvb BK544.out)) : gb545 ≠ gb544)); clear BK544; clear HB; have BK544 := n0_; have HB := n1_; have BK545 := n2_; have GW545 := n3_; have GE545 := n4_; have NB544_545 := n5_; have NB545_544 := n6_; clear n0_ n1_ n2_ n3_ n4_ n5_ n6_; clear hb hbox hg))
  have n0_ := Aside0.mk (blk_drew BK544.out)
  have n1_ := Aside0.mk (blk_drew BK545.out)
  have n2_ := Aside0.mk (below_drew1 HB.out)
  clear BK544
  clear BK545
  clear HB
  have BK544 := n0_
  have BK545 := n1_
  have HB := n2_
  clear n0_ n1_ n2_
  refine start_ (n := 11) (S := fun w' => w'.cell? ⟨gb544, 0, none⟩ = some (.int .i64 a0_0) ∧ w'.cell? ⟨gb544, 1, none⟩ = some (.int .i64 a0_1) ∧ w'.cell? ⟨gb545, 0, none⟩ = some (.int .i64 a1_0) ∧ w'.cell? ⟨gb545, 1, none⟩ = some (.int .i64 a1_1) ∧ w'.cell? ⟨gb545, 2, none⟩ = some (.int .i64 a1_2) ∧ w'.cell? ⟨gb545, 3, none⟩ = some (.int .i64 a1_3) ∧ w'.cell? ⟨gb545, 4, none⟩ = some (.int .i64 a1_4) ∧ w'.cell? ⟨gb545, 5, none⟩ = some (.int .i64 a1_5)) (ds := []) (zv_.bm 11 0) (by kernel_rfl) rfl rfl ⟨xvc BK544.out, xvc BK544.out, xvc BK545.out, xvc BK545.out, xvc BK545.out, xvc BK545.out, xvc BK545.out, xvc BK545.out⟩ (fun hHeld => ?_); refine with_tabW laws_FnExactStripCost.tab1 laws_FnExactStripCost.bits1 (fun HT_ HW_ => ?_)
  generalize w33.drew = w34 at BK544 BK545 HB hHeld ⊢
  refine zv_.pa (i := 4) (N := some 16) (zv_.bm 11 16) HT_.out ?_
  refine zv_.ta (i := 0) (N := some 12) (zv_.bm 11 17) rfl (take_ofW HT_.out HW_.out (by kernel_rfl)) (Or.inl ⟨(by rfl), wv16⟩) hHeld ?_
  refine zv_.ta (i := 2) (N := some 14) (zv_.bm 11 21) rfl (take_ofW HT_.out HW_.out (by kernel_rfl)) (Or.inl ⟨(by rfl), wv16⟩) hHeld ?_
  refine one_ (i := 1) (N := some 13) (zv_.bm 11 23) rfl rfl (one_of HT_.out (by kernel_rfl)) (by decide) (fun K hK => ?_)
  refine goes_ Try.func23 (by kernel_rfl) rfl #[.agg #[.int .i64 a0_0, .int .i64 a0_1]] (by rfl) rfl rfl wv1 ?_
  with_reducible refine (laws_toMachine.calls a0_0 a0_1 t546 t547 _ A4.out).mono ?_
  rintro e w35 ⟨rfl, hb⟩
  refine ⟨_, rfl, ?_⟩
  have n0_ := Aside0.mk (xvl BK544.out hb)
  have n1_ := Aside0.mk (xvl BK545.out hb)
  have n2_ := Aside0.mk (below_step wv11 hb)
  clear BK544
  clear BK545
  clear HB
  have BK544 := n0_
  have BK545 := n1_
  have HB := n2_
  clear n0_ n1_ n2_
  (try clear hb)
  (try clear hb2)
  (try clear hk)
  (try clear hi)
  refine hK.out _ _ ⟨xvc BK544.out, xvc BK544.out, xvc BK545.out, xvc BK545.out, xvc BK545.out, xvc BK545.out, xvc BK545.out, xvc BK545.out⟩ (fun hHeld => ?_)
  clear hK K
  refine norm_ (a' := ?_) ?_ ?_
  rotate_left
  ·show Act.put _ (some 13) _ = _
   simp only [Act.put, List.setIfInBounds_toArray, List.set_cons_zero, List.set_cons_succ, i64_w, i32_w]
   rfl
  refine one_ (i := 3) (N := some 15) (zv_.bm 11 31) rfl rfl (one_of HT_.out (by kernel_rfl)) (by decide) (fun K hK => ?_)
  refine goes_ Try.func20 (by kernel_rfl) rfl #[.agg #[.int .i64 a1_0, .int .i64 a1_1, .int .i64 a1_2, .int .i64 a1_3, .int .i64 a1_4, .int .i64 a1_5]] (by rfl) rfl rfl wv1 ?_
  with_reducible refine (laws_toLoop.calls a1_0 a1_1 a1_2 a1_3 a1_4 a1_5 t548 t549 t550 t551 t552 t553 _ A5.out).mono ?_
  rintro e w36 ⟨rfl, hb⟩
  refine ⟨_, rfl, ?_⟩
  have n0_ := Aside0.mk (xvl BK544.out hb)
  have n1_ := Aside0.mk (xvl BK545.out hb)
  have n2_ := Aside0.mk (below_step wv11 hb)
  clear BK544
  clear BK545
  clear HB
  have BK544 := n0_
  have BK545 := n1_
  have HB := n2_
  clear n0_ n1_ n2_
  (try clear hb)
  (try clear hb2)
  (try clear hk)
  (try clear hi)
  refine hK.out _ _ ⟨xvc BK544.out, xvc BK544.out, xvc BK545.out, xvc BK545.out, xvc BK545.out, xvc BK545.out, xvc BK545.out, xvc BK545.out⟩ (fun hHeld => ?_)
  clear hK K
  refine norm_ (a' := ?_) ?_ ?_
  rotate_left
  ·show Act.put _ (some 15) _ = _
   simp only [Act.put, List.setIfInBounds_toArray, List.set_cons_zero, List.set_cons_succ, i64_w, i32_w]
   rfl
  refine one_ (i := 5) (N := some 17) (zv_.bm 11 63) rfl rfl (one_of HT_.out (by kernel_rfl)) (by decide) (fun K hK => ?_)
  refine goes_ Try.func71 (by kernel_rfl) rfl #[.agg #[.int .i64 t546, .int .i64 t547], .agg #[.int .i64 t548, .int .i64 t549, .int .i64 t550, .int .i64 t551, .int .i64 t552, .int .i64 t553], .int .i64 a2] (by rfl) rfl rfl wv1 ?_
  with_reducible refine (spec_StripCost.calls k t546 t547 t548 t549 t550 t551 t552 t553 a2 t554 t555 _ A6.out).mono ?_
  rintro e w37 ⟨rfl, hb⟩
  refine ⟨_, rfl, ?_⟩
  have n0_ := Aside0.mk (xvl BK544.out hb)
  have n1_ := Aside0.mk (xvl BK545.out hb)
  have n2_ := Aside0.mk (below_step wv11 hb)
  clear BK544
  clear BK545
  clear HB
  have BK544 := n0_
  have BK545 := n1_
  have HB := n2_
  clear n0_ n1_ n2_
  (try clear hb)
  (try clear hb2)
  (try clear hk)
  (try clear hi)
  refine hK.out _ _ ⟨xvc BK544.out, xvc BK544.out, xvc BK545.out, xvc BK545.out, xvc BK545.out, xvc BK545.out, xvc BK545.out, xvc BK545.out⟩ (fun hHeld => ?_)
  clear hK K
  refine norm_ (a' := ?_) ?_ ?_
  rotate_left
  ·show Act.put _ (some 17) _ = _
   simp only [Act.put, List.setIfInBounds_toArray, List.set_cons_zero, List.set_cons_succ, i64_w, i32_w]
   rfl
  refine zv_.pa (i := 6) (N := some 11) (zv_.bm 11 127) HT_.out ?_
  refine zv_.pa (i := 7) (N := some 18) (zv_.bm 11 255) HT_.out ?_
  refine zv_.pa (i := 8) (N := some 19) (zv_.bm 11 511) HT_.out ?_
  refine zv_.pa (i := 9) (N := some 7) (zv_.bm 11 1023) HT_.out ?_
  refine zv_.pa (i := 10) (N := some 8) (zv_.bm 11 2047) HT_.out ?_
  refine done_ (done_of HT_.out (by kernel_rfl)) ?_
  try go_wp2
  have n0_ := Aside0.mk (blk_drew BK544.out)
  have n1_ := Aside0.mk (blk_drew BK545.out)
  have n2_ := Aside0.mk (below_drew1 HB.out)
  clear BK544
  clear BK545
  clear HB
  have BK544 := n0_
  have BK545 := n1_
  have HB := n2_
  clear n0_ n1_ n2_
  refine start_ (n := 11) (S := fun w' => w'.cell? ⟨gb544, 0, none⟩ = some (.int .i64 a0_0) ∧ w'.cell? ⟨gb544, 1, none⟩ = some (.int .i64 a0_1) ∧ w'.cell? ⟨gb545, 0, none⟩ = some (.int .i64 a1_0) ∧ w'.cell? ⟨gb545, 1, none⟩ = some (.int .i64 a1_1) ∧ w'.cell? ⟨gb545, 2, none⟩ = some (.int .i64 a1_2) ∧ w'.cell? ⟨gb545, 3, none⟩ = some (.int .i64 a1_3) ∧ w'.cell? ⟨gb545, 4, none⟩ = some (.int .i64 a1_4) ∧ w'.cell? ⟨gb545, 5, none⟩ = some (.int .i64 a1_5)) (ds := []) (zv_.bm 11 0) (by kernel_rfl) rfl rfl ⟨xvc BK544.out, xvc BK544.out, xvc BK545.out, xvc BK545.out, xvc BK545.out, xvc BK545.out, xvc BK545.out, xvc BK545.out⟩ (fun hHeld => ?_); refine with_tabW laws_FnExactStripCost.tab2 laws_FnExactStripCost.bits2 (fun HT_ HW_ => ?_)
  generalize w37.drew = w38 at BK544 BK545 HB hHeld ⊢
  refine zv_.pa (i := 4) (N := some 25) (zv_.bm 11 16) HT_.out ?_
  refine zv_.ta (i := 0) (N := some 21) (zv_.bm 11 17) rfl (take_ofW HT_.out HW_.out (by kernel_rfl)) (Or.inl ⟨(by rfl), wv16⟩) hHeld ?_
  refine zv_.ta (i := 2) (N := some 23) (zv_.bm 11 21) rfl (take_ofW HT_.out HW_.out (by kernel_rfl)) (Or.inl ⟨(by rfl), wv16⟩) hHeld ?_
  refine one_ (i := 1) (N := some 22) (zv_.bm 11 23) rfl rfl (one_of HT_.out (by kernel_rfl)) (by decide) (fun K hK => ?_)
  refine goes_ Try.func23 (by kernel_rfl) rfl #[.agg #[.int .i64 a0_0, .int .i64 a0_1]] (by rfl) rfl rfl wv1 ?_
  with_reducible refine (laws_toMachine.calls a0_0 a0_1 t556 t557 _ A7.out).mono ?_
  rintro e w39 ⟨rfl, hb⟩
  refine ⟨_, rfl, ?_⟩
  have n0_ := Aside0.mk (xvl BK544.out hb)
  have n1_ := Aside0.mk (xvl BK545.out hb)
  have n2_ := Aside0.mk (below_step wv11 hb)
  clear BK544
  clear BK545
  clear HB
  have BK544 := n0_
  have BK545 := n1_
  have HB := n2_
  clear n0_ n1_ n2_
  (try clear hb)
  (try clear hb2)
  (try clear hk)
  (try clear hi)
  refine hK.out _ _ ⟨xvc BK544.out, xvc BK544.out, xvc BK545.out, xvc BK545.out, xvc BK545.out, xvc BK545.out, xvc BK545.out, xvc BK545.out⟩ (fun hHeld => ?_)
  clear hK K
  refine norm_ (a' := ?_) ?_ ?_
  rotate_left
  ·show Act.put _ (some 22) _ = _
   simp only [Act.put, List.setIfInBounds_toArray, List.set_cons_zero, List.set_cons_succ, i64_w, i32_w]
   rfl
  refine one_ (i := 3) (N := some 24) (zv_.bm 11 31) rfl rfl (one_of HT_.out (by kernel_rfl)) (by decide) (fun K hK => ?_)
  refine goes_ Try.func20 (by kernel_rfl) rfl #[.agg #[.int .i64 a1_0, .int .i64 a1_1, .int .i64 a1_2, .int .i64 a1_3, .int .i64 a1_4, .int .i64 a1_5]] (by rfl) rfl rfl wv1 ?_
  with_reducible refine (laws_toLoop.calls a1_0 a1_1 a1_2 a1_3 a1_4 a1_5 t558 t559 t560 t561 t562 t563 _ A8.out).mono ?_
  rintro e w40 ⟨rfl, hb⟩
  refine ⟨_, rfl, ?_⟩
  have n0_ := Aside0.mk (xvl BK544.out hb)
  have n1_ := Aside0.mk (xvl BK545.out hb)
  have n2_ := Aside0.mk (below_step wv11 hb)
  clear BK544
  clear BK545
  clear HB
  have BK544 := n0_
  have BK545 := n1_
  have HB := n2_
  clear n0_ n1_ n2_
  (try clear hb)
  (try clear hb2)
  (try clear hk)
  (try clear hi)
  refine hK.out _ _ ⟨xvc BK544.out, xvc BK544.out, xvc BK545.out, xvc BK545.out, xvc BK545.out, xvc BK545.out, xvc BK545.out, xvc BK545.out⟩ (fun hHeld => ?_)
  clear hK K
  refine norm_ (a' := ?_) ?_ ?_
  rotate_left
  ·show Act.put _ (some 24) _ = _
   simp only [Act.put, List.setIfInBounds_toArray, List.set_cons_zero, List.set_cons_succ, i64_w, i32_w]
   rfl
  refine one_ (i := 5) (N := some 26) (zv_.bm 11 63) rfl rfl (one_of HT_.out (by kernel_rfl)) (by decide) (fun K hK => ?_)
  refine goes_ Try.func72 (by kernel_rfl) rfl #[.agg #[.int .i64 t556, .int .i64 t557], .agg #[.int .i64 t558, .int .i64 t559, .int .i64 t560, .int .i64 t561, .int .i64 t562, .int .i64 t563], .int .i64 a2] (by rfl) rfl rfl wv1 ?_
  with_reducible refine (impl_StripCost.calls k t556 t557 t558 t559 t560 t561 t562 t563 a2 t564 t565 _ A9.out).mono ?_
  rintro e w41 ⟨rfl, hb⟩
  refine ⟨_, rfl, ?_⟩
  have n0_ := Aside0.mk (xvl BK544.out hb)
  have n1_ := Aside0.mk (xvl BK545.out hb)
  have n2_ := Aside0.mk (below_step wv11 hb)
  clear BK544
  clear BK545
  clear HB
  have BK544 := n0_
  have BK545 := n1_
  have HB := n2_
  clear n0_ n1_ n2_
  (try clear hb)
  (try clear hb2)
  (try clear hk)
  (try clear hi)
  refine hK.out _ _ ⟨xvc BK544.out, xvc BK544.out, xvc BK545.out, xvc BK545.out, xvc BK545.out, xvc BK545.out, xvc BK545.out, xvc BK545.out⟩ (fun hHeld => ?_)
  clear hK K
  refine norm_ (a' := ?_) ?_ ?_
  rotate_left
  ·show Act.put _ (some 26) _ = _
   simp only [Act.put, List.setIfInBounds_toArray, List.set_cons_zero, List.set_cons_succ, i64_w, i32_w]
   rfl
  refine zv_.pa (i := 6) (N := some 20) (zv_.bm 11 127) HT_.out ?_
  refine zv_.pa (i := 7) (N := some 27) (zv_.bm 11 255) HT_.out ?_
  refine zv_.pa (i := 8) (N := some 28) (zv_.bm 11 511) HT_.out ?_
  refine zv_.pa (i := 9) (N := some 9) (zv_.bm 11 1023) HT_.out ?_
  refine zv_.pa (i := 10) (N := some 10) (zv_.bm 11 2047) HT_.out ?_
  refine done_ (done_of HT_.out (by kernel_rfl)) ?_
  try go_wp2
  go_ret
  exact ⟨wv3, wv11⟩

/-- THE ONE PURE STATEMENT of laws_FnExactStripCost: yours. -/
def laws_FnExactStripCost.Pure : Prop := ∀ (a0_0 : Int) (a0_1 : Int) (a1_0 : Int) (a1_1 : Int) (a1_2 : Int) (a1_3 : Int) (a1_4 : Int) (a1_5 : Int) (a2 : Int), (Lit.int .i64 a0_0).wf = true → (Lit.int .i64 a0_1).wf = true → (Lit.int .i64 a1_0).wf = true → (Lit.int .i64 a1_1).wf = true → (Lit.int .i64 a1_2).wf = true → (Lit.int .i64 a1_3).wf = true → (Lit.int .i64 a1_4).wf = true → (Lit.int .i64 a1_5).wf = true → (Lit.int .i64 a2).wf = true → ∃ k, laws_FnExactStripCost.f k a0_0 a0_1 a1_0 a1_1 a1_2 a1_3 a1_4 a1_5 a2 = some true
theorem laws_FnExactStripCost.walk (P : laws_FnExactStripCost.Pure) (a0_0 : Int) (a0_1 : Int) (a1_0 : Int) (a1_1 : Int) (a1_2 : Int) (a1_3 : Int) (a1_4 : Int) (a1_5 : Int) (a2 : Int) (w : World) (w0_0 : (Lit.int .i64 a0_0).wf = true) (w0_1 : (Lit.int .i64 a0_1).wf = true) (w1_0 : (Lit.int .i64 a1_0).wf = true) (w1_1 : (Lit.int .i64 a1_1).wf = true) (w1_2 : (Lit.int .i64 a1_2).wf = true) (w1_3 : (Lit.int .i64 a1_3).wf = true) (w1_4 : (Lit.int .i64 a1_4).wf = true) (w1_5 : (Lit.int .i64 a1_5).wf = true) (w2 : (Lit.int .i64 a2).wf = true) :
  Calls Try.prog 15 #[.agg #[.int .i64 a0_0, .int .i64 a0_1], .agg #[.int .i64 a1_0, .int .i64 a1_1, .int .i64 a1_2, .int .i64 a1_3, .int .i64 a1_4, .int .i64 a1_5], .int .i64 a2] w fun e w' => e = .returned (.bool true) ∧ Below w.heap.size w w' := by
 obtain ⟨k, h⟩ := P a0_0 a0_1 a1_0 a1_1 a1_2 a1_3 a1_4 a1_5 a2 w0_0 w0_1 w1_0 w1_1 w1_2 w1_3 w1_4 w1_5 w2
 refine (laws_FnExactStripCost.calls k a0_0 a0_1 a1_0 a1_1 a1_2 a1_3 a1_4 a1_5 a2 true w h).mono ?_
 rintro e w' ⟨rfl, hd⟩
 exact ⟨rfl, hd⟩

end Go.Proofs.Ytpfoeologjacfaa.V
