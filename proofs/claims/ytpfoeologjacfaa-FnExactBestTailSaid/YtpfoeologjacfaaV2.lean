-- Written by a program of this session (wip/tools) over the kit's print.
-- COMPACT
import Derived.Test.YtpfoeologjacfaaV0
import Derived.Test.YtpfoeologjacfaaV1
namespace Go.Proofs.Ytpfoeologjacfaa.V
open Go.RowKit Go.Proofs.YtpfoeologjacfaaW.PrintWords Go.Proofs.YtpfoeologjacfaaW.PrintLast Go.Proofs.YtpfoeologjacfaaW.PrintMore
attribute [local go_sem] max2_int min2_int max_two min_two max_three min_three max_four min_four   -- for this text's walks alone
set_option linter.unusedVariables false
set_option linter.unusedSimpArgs false

/-! ### spec_l09Can: function 84 -/
def spec_l09Can.j0 : Nat → Int → Int → Bool → Int → Int → Int → Int → Int → Int → Option (Bool)
 | 0, _, _, _, _, _, _, _, _, _ => none
 | k + 1, x0, x2, x83, x2000, x2001, x2002, x2003, x2004, x2005 => if x83 = true then (some false) else (if x2 = 2 then (if x2005 ≥ x0 then ((spec_l09Apart.f x2002 x2003 x2005).bind fun t125 => (if t125 = true then ((spec_l09Apart.f x2002 x2004 x2005).bind fun t126 => (some t126)) else (some false))) else (some false)) else (some true))
def spec_l09Can.f (k : Nat) (a0 : Int) (a1_0 : Int) (a1_1 : Int) (a1_2 : Int) (a1_3 : Int) (a1_4 : Int) (a1_5 : Int) (a2 : Int) : Option (Bool) := if a1_0 = 1 then (if a2 = 0 then ((spec_l01Associates.f a1_1).bind fun t122 => (if t122 = true then ((spec_l00In.f a1_2 a1_3 (wrap64 ((wrap64 (a1_3 + a1_5)) - 1))).bind fun t123 => (some (!t123))) else (some false))) else (some false)) else ((spec_l00In.f a2 0 2).bind fun t124 => (if t124 = true then (if (wrap64 (a1_2 - a1_3)) > 0 then (if (wrap64 (a1_2 - a1_3)) < a0 then (spec_l09Can.j0 k a0 a2 true a1_0 a1_1 a1_2 a1_3 a1_4 a1_5) else (if (wrap64 (a1_2 - a1_4)) > 0 then (spec_l09Can.j0 k a0 a2 (decide ((wrap64 (a1_2 - a1_4)) < a0)) a1_0 a1_1 a1_2 a1_3 a1_4 a1_5) else (spec_l09Can.j0 k a0 a2 false a1_0 a1_1 a1_2 a1_3 a1_4 a1_5))) else (if (wrap64 (a1_2 - a1_4)) > 0 then (spec_l09Can.j0 k a0 a2 (decide ((wrap64 (a1_2 - a1_4)) < a0)) a1_0 a1_1 a1_2 a1_3 a1_4 a1_5) else (spec_l09Can.j0 k a0 a2 false a1_0 a1_1 a1_2 a1_3 a1_4 a1_5))) else (spec_l09Can.j0 k a0 a2 true a1_0 a1_1 a1_2 a1_3 a1_4 a1_5)))
theorem spec_l09Can.mono_l : ∀ k, (∀ y0 y1 y2 y3 y4 y5 y6 y7 y8, LeO (spec_l09Can.j0 k y0 y1 y2 y3 y4 y5 y6 y7 y8) (spec_l09Can.j0 (k + 1) y0 y1 y2 y3 y4 y5 y6 y7 y8))
 | 0 => fun _ _ _ _ _ _ _ _ _ r h => by simp [spec_l09Can.j0] at h
 | k + 1 => by
  have ih0 := spec_l09Can.mono_l k
  ·intro y0 y1 y2 y3 y4 y5 y6 y7 y8
   unfold spec_l09Can.j0
   repeat' first
   | (with_reducible exact ih0 _ _ _ _ _ _ _ _ _)
   | (with_reducible exact LeO.refl _)
   | (with_reducible exact LeO.none _)
   | (with_reducible refine LeO.ite ?_ ?_)
   | (with_reducible refine LeO.bind ?_ (fun _ => ?_))
   | exact ih0 _ _ _ _ _ _ _ _ _
   | exact LeO.none _
   | refine LeO.ite ?_ ?_
   | refine LeO.bind ?_ (fun _ => ?_)
theorem spec_l09Can.mono : ∀ a0 a1 a2 a3 a4 a5 a6 a7 k, LeO (spec_l09Can.f k a0 a1 a2 a3 a4 a5 a6 a7) (spec_l09Can.f (k + 1) a0 a1 a2 a3 a4 a5 a6 a7) := by
 intro a0 a1 a2 a3 a4 a5 a6 a7 k
 have ih0 := spec_l09Can.mono_l k
 unfold spec_l09Can.f
 repeat' first
   | (with_reducible exact ih0 _ _ _ _ _ _ _ _ _)
   | (with_reducible exact LeO.refl _)
   | (with_reducible exact LeO.none _)
   | (with_reducible refine LeO.ite ?_ ?_)
   | (with_reducible refine LeO.bind ?_ (fun _ => ?_))
   | exact ih0 _ _ _ _ _ _ _ _ _
   | exact LeO.none _
   | refine LeO.ite ?_ ?_
   | refine LeO.bind ?_ (fun _ => ?_)
def spec_l09Can.T2 : Bool × List (List Nat × List Nat) := (true, [([], []), ([0], [0]), ([1], [1]), ([2], [2]), ([3, 2], [2, 3]), ([4, 2], [2, 4]), ([5, 2], [2, 5]), ([6, 2, 2], [2, 6]), ([2, 7], [2, 7]), ([8, 7], [8]), ([9], [9]), ([10, 9], [9, 10]), ([11, 9], [9, 11]), ([12, 9], [9, 12]), ([9], [9]), ([14, 9], [9, 14]), ([15, 9], [9, 15]), ([16, 9], [9, 16]), ([9], [9]), ([18, 9], [9, 18]), ([19, 9], [9, 19]), ([20, 9], [9, 20]), ([9], [9]), ([22, 9], [9, 22]), ([23, 9], [9, 23]), ([24, 9], [9, 24]), ([21, 25, 9], [9, 21, 25]), ([26, 9], [9, 26]), ([13, 17, 27, 9, 9], [9, 13, 17, 27]), ([28, 9], [9, 28]), ([9, 29], [9, 29]), ([30, 28, 0, 1, 2, 3, 4, 5, 6, 7, 8, 9, 10, 11, 12, 13, 14, 15, 16, 17, 18, 19, 20, 21, 22, 23, 24, 25, 26, 27, 28, 29, 30], [30])])
def spec_l09Can.B2 : List Nat := [0, 1, 3, 7, 15, 31, 63, 127, 255, 511, 1023, 2047, 4095, 8191, 1023, 17407, 50175, 115711, 1023, 263167, 787455, 1836031, 1023, 4195327, 12583935, 29361151, 66847743, 133956607, 268435455, 536870911, 1073741823, 2147483647]
theorem spec_l09Can.tab2 : rtab .any (opsOf Try.f84 2) = spec_l09Can.T2 := by kernel_rfl
theorem spec_l09Can.bits2 : waitsOk spec_l09Can.T2.2 spec_l09Can.B2 = true := by kernel_rfl
def spec_l09Can.T3 : Bool × List (List Nat × List Nat) := (true, [([], []), ([0], [0]), ([1], [1]), ([2], [2]), ([], []), ([4], [4]), ([5], [5]), ([6], [6]), ([3, 7], [3, 7]), ([8, 0, 1, 2, 3, 4, 5, 6, 7, 8], [8])])
def spec_l09Can.B3 : List Nat := [0, 1, 3, 7, 0, 16, 48, 112, 255, 511]
theorem spec_l09Can.tab3 : rtab .any (opsOf Try.f84 3) = spec_l09Can.T3 := by kernel_rfl
theorem spec_l09Can.bits3 : waitsOk spec_l09Can.T3.2 spec_l09Can.B3 = true := by kernel_rfl
def spec_l09Can.T4 : Bool × List (List Nat × List Nat) := (true, [([], []), ([0], [0]), ([1], [1]), ([2], [2]), ([], []), ([4], [4]), ([5], [5]), ([6], [6]), ([3, 7], [3, 7]), ([8, 0, 1, 2, 3, 4, 5, 6, 7, 8], [8])])
def spec_l09Can.B4 : List Nat := [0, 1, 3, 7, 0, 16, 48, 112, 255, 511]
theorem spec_l09Can.tab4 : rtab .any (opsOf Try.f84 4) = spec_l09Can.T4 := by kernel_rfl
theorem spec_l09Can.bits4 : waitsOk spec_l09Can.T4.2 spec_l09Can.B4 = true := by kernel_rfl
def spec_l09Can.T8 : Bool × List (List Nat × List Nat) := (true, [([], []), ([0], [0]), ([1], [1]), ([2], [2]), ([], []), ([3, 4], [3, 4]), ([5], [5]), ([6], [6]), ([7, 6], [6, 7]), ([8, 6], [6, 8]), ([9, 6], [6, 9]), ([6], [6]), ([11, 6], [6, 11]), ([12, 6], [6, 12]), ([13, 6], [6, 13]), ([6], [6]), ([15, 6], [6, 15]), ([16, 6], [6, 16]), ([17, 6], [6, 17]), ([10, 14, 18, 6, 6], [6, 10, 14, 18]), ([6, 19], [6, 19]), ([20, 19], [20]), ([21], [21]), ([22, 21], [21, 22]), ([23, 21], [21, 23]), ([24, 21], [21, 24]), ([21], [21]), ([26, 21], [21, 26]), ([27, 21], [21, 27]), ([28, 21], [21, 28]), ([21], [21]), ([30, 21], [21, 30]), ([31, 21], [21, 31]), ([32, 21], [21, 32]), ([25, 29, 33, 21, 21], [21, 25, 29, 33]), ([21, 34], [21, 34]), ([35, 34, 0, 1, 2, 3, 4, 5, 6, 7, 8, 9, 10, 11, 12, 13, 14, 15, 16, 17, 18, 19, 20, 21, 22, 23, 24, 25, 26, 27, 28, 29, 30, 31, 32, 33, 34, 35], [35])])
def spec_l09Can.B8 : List Nat := [0, 1, 3, 7, 0, 31, 63, 127, 255, 511, 1023, 127, 2175, 6271, 14463, 127, 32895, 98431, 229503, 524287, 1048575, 2097151, 4194303, 8388607, 16777215, 33554431, 4194303, 71303167, 205520895, 473956351, 4194303, 1077936127, 3225419775, 7520387071, 17179869183, 34359738367, 68719476735]
theorem spec_l09Can.tab8 : rtab .any (opsOf Try.f84 8) = spec_l09Can.T8 := by kernel_rfl
theorem spec_l09Can.bits8 : waitsOk spec_l09Can.T8.2 spec_l09Can.B8 = true := by kernel_rfl
set_option maxHeartbeats 8000000 in
set_option maxRecDepth 100000 in
theorem spec_l09Can.calls (k : Nat) (a0 : Int) (B1 : Nat) (a1_0 : Int) (a1_1 : Int) (a1_2 : Int) (a1_3 : Int) (a1_4 : Int) (a1_5 : Int) (a2 : Int) (r : Bool) (w : World) (hb1 : w.heap[B1]? = some (.cells #[.int .i64 a1_0, .int .i64 a1_1, .int .i64 a1_2, .int .i64 a1_3, .int .i64 a1_4, .int .i64 a1_5] 25 (0, 0))) (h : spec_l09Can.f k a0 a1_0 a1_1 a1_2 a1_3 a1_4 a1_5 a2 = some r) :
  Calls Try.prog 84 #[.int .i64 a0, .pointer (some ⟨B1, 0, none⟩), .int .i64 a2] w fun e w' => e = .returned (.bool r) ∧ Below w.heap.size w w' := by
 have BK1 := Aside0.mk hb1
 clear hb1
 have HB := Aside0.mk (Below.refl w.heap.size w)
 have H : (if a1_0 = 1 then (if a2 = 0 then ((spec_l01Associates.f a1_1).bind fun t122 => (if t122 = true then ((spec_l00In.f a1_2 a1_3 (wrap64 ((wrap64 (a1_3 + a1_5)) - 1))).bind fun t123 => (some (!t123))) else (some false))) else (some false)) else ((spec_l00In.f a2 0 2).bind fun t124 => (if t124 = true then (if (wrap64 (a1_2 - a1_3)) > 0 then (if (wrap64 (a1_2 - a1_3)) < a0 then (spec_l09Can.j0 k a0 a2 true a1_0 a1_1 a1_2 a1_3 a1_4 a1_5) else (if (wrap64 (a1_2 - a1_4)) > 0 then (spec_l09Can.j0 k a0 a2 (decide ((wrap64 (a1_2 - a1_4)) < a0)) a1_0 a1_1 a1_2 a1_3 a1_4 a1_5) else (spec_l09Can.j0 k a0 a2 false a1_0 a1_1 a1_2 a1_3 a1_4 a1_5))) else (if (wrap64 (a1_2 - a1_4)) > 0 then (spec_l09Can.j0 k a0 a2 (decide ((wrap64 (a1_2 - a1_4)) < a0)) a1_0 a1_1 a1_2 a1_3 a1_4 a1_5) else (spec_l09Can.j0 k a0 a2 false a1_0 a1_1 a1_2 a1_3 a1_4 a1_5))) else (spec_l09Can.j0 k a0 a2 true a1_0 a1_1 a1_2 a1_3 a1_4 a1_5)))) = some r := h
 clear h
 by_cases c4 : a1_0 = 1
 ·rw [if_pos c4] at H
  have c4b0 : (a1_0 == 1) = true := beq_iff_eq.mpr c4
  have c4b1 : (a1_0 != 1) = false := bne_eq_false_iff_eq.mpr c4
  clear c4
  by_cases c5 : a2 = 0
  ·rw [if_pos c5] at H
   have c5b0 : (a2 == 0) = true := beq_iff_eq.mpr c5
   have c5b1 : (a2 != 0) = false := bne_eq_false_iff_eq.mpr c5
   clear c5
   replace H := Option.bind_eq_some_iff.mp H
   obtain ⟨t122, A60, H⟩ := H
   replace H : (if t122 = true then ((spec_l00In.f a1_2 a1_3 (wrap64 ((wrap64 (a1_3 + a1_5)) - 1))).bind fun t123 => (some (!t123))) else (some false)) = some r := H
   have A6 := Aside0.mk A60
   clear A60
   by_cases c7 : t122 = true
   ·subst c7
    have H1 : ((spec_l00In.f a1_2 a1_3 (wrap64 ((wrap64 (a1_3 + a1_5)) - 1))).bind fun t123 => (some (!t123))) = some r := by rw [if_pos rfl] at H; exact H
    clear H
    have H := H1
    clear H1
    replace H := Option.bind_eq_some_iff.mp H
    obtain ⟨t123, A80, H⟩ := H
    replace H : (some (!t123)) = some r := H
    have A8 := Aside0.mk A80
    clear A80
    obtain rfl := Option.some.inj H
    have hcz9_0 : w.cell? ⟨B1, 0, none⟩ = some (.int .i64 a1_0) := xvc BK1.out
    have hcz9_1 : w.cell? ⟨B1, 1, none⟩ = some (.int .i64 a1_1) := xvc BK1.out
    have hcz9_2 : w.cell? ⟨B1, 2, none⟩ = some (.int .i64 a1_2) := xvc BK1.out
    have hcz9_3 : w.cell? ⟨B1, 3, none⟩ = some (.int .i64 a1_3) := xvc BK1.out
    have hcz9_4 : w.cell? ⟨B1, 4, none⟩ = some (.int .i64 a1_4) := xvc BK1.out
    have hcz9_5 : w.cell? ⟨B1, 5, none⟩ = some (.int .i64 a1_5) := xvc BK1.out
    have hfz9_0 := blk_frozen BK1.out 0
    have hfz9_1 := blk_frozen BK1.out 1
    have hfz9_2 := blk_frozen BK1.out 2
    have hfz9_3 := blk_frozen BK1.out 3
    have hfz9_4 := blk_frozen BK1.out 4
    have hfz9_5 := blk_frozen BK1.out 5
    go_enter Try.func84, Try.ntmps84
    try go_wp2
    have n0_ := Aside0.mk (blk_drew BK1.out)
    have n1_ := Aside0.mk (below_drew1 HB.out)
    clear BK1
    clear HB
    have BK1 := n0_
    have HB := n1_
    clear n0_ n1_
    refine start_ (n := 32) (S := fun w' => w'.cell? ⟨B1, 0, none⟩ = some (.int .i64 a1_0) ∧ w'.cell? ⟨B1, 1, none⟩ = some (.int .i64 a1_1) ∧ w'.cell? ⟨B1, 2, none⟩ = some (.int .i64 a1_2) ∧ w'.cell? ⟨B1, 3, none⟩ = some (.int .i64 a1_3) ∧ w'.cell? ⟨B1, 4, none⟩ = some (.int .i64 a1_4) ∧ w'.cell? ⟨B1, 5, none⟩ = some (.int .i64 a1_5)) (ds := []) (zv_.bm 32 0) (by kernel_rfl) rfl rfl ⟨xvc BK1.out, xvc BK1.out, xvc BK1.out, xvc BK1.out, xvc BK1.out, xvc BK1.out⟩ (fun hHeld => ?_); refine with_tabW spec_l09Can.tab2 spec_l09Can.bits2 (fun HT_ HW_ => ?_)
    generalize w.drew = w10 at BK1 HB hHeld ⊢
    refine zv_.pa (i := 0) (N := some 14) (zv_.bm 32 1) HT_.out ?_
    refine zv_.pa (i := 1) (N := some 15) (zv_.bm 32 3) HT_.out ?_
    refine zv_.pa (i := 2) (N := some 16) (zv_.bm 32 7) HT_.out ?_
    refine zv_.pa (i := 3) (N := some 17) (zv_.bm 32 15) HT_.out ?_
    refine zv_.pa (i := 4) (N := some 18) (zv_.bm 32 31) HT_.out ?_
    refine zv_.pa (i := 5) (N := some 19) (zv_.bm 32 63) HT_.out ?_
    refine zv_.ta (i := 6) (N := some 20) (zv_.bm 32 127) rfl (take_ofW HT_.out HW_.out (by kernel_rfl)) (Or.inl ⟨(by rfl), wv13⟩) hHeld ?_
    refine one_ (i := 7) (N := some 21) (zv_.bm 32 255) rfl rfl (one_of HT_.out (by kernel_rfl)) (by decide) (fun K hK => ?_)
    refine goes_ Try.func152 (by kernel_rfl) rfl #[.int .i64 a1_1] (by rfl) rfl rfl wv1 ?_
    with_reducible refine (spec_l01Associates.calls a1_1 true _ A6.out).mono ?_
    rintro e w' ⟨rfl, ⟨nd, rfl⟩⟩
    refine ⟨_, rfl, ?_⟩
    refine hK.out _ _ ⟨xvc BK1.out, xvc BK1.out, xvc BK1.out, xvc BK1.out, xvc BK1.out, xvc BK1.out⟩ (fun hHeld => ?_)
    clear hK K
    refine norm_ (a' := ?_) ?_ ?_
    rotate_left
    ·show Act.put _ (some 21) _ = _
     simp only [Act.put, List.setIfInBounds_toArray, List.set_cons_zero, List.set_cons_succ, i64_w, i32_w]
     rfl
    refine zv_.pa (i := 8) (N := some 22) (zv_.bm 32 511) HT_.out ?_
    refine zv_.pa (i := 9) (N := some 23) (zv_.bm 32 1023) HT_.out ?_
    refine zv_.pa (i := 10) (N := some 24) (zv_.bm 32 2047) HT_.out ?_
    refine zv_.pa (i := 11) (N := some 25) (zv_.bm 32 4095) HT_.out ?_
    refine zv_.pa (i := 12) (N := some 26) (zv_.bm 32 8191) HT_.out ?_
    refine zv_.pa (i := 14) (N := some 28) (zv_.bm 32 24575) HT_.out ?_
    refine zv_.pa (i := 15) (N := some 29) (zv_.bm 32 57343) HT_.out ?_
    refine zv_.pa (i := 16) (N := some 30) (zv_.bm 32 122879) HT_.out ?_
    refine zv_.pa (i := 18) (N := some 32) (zv_.bm 32 385023) HT_.out ?_
    refine zv_.pa (i := 19) (N := some 33) (zv_.bm 32 909311) HT_.out ?_
    refine zv_.pa (i := 20) (N := some 34) (zv_.bm 32 1957887) HT_.out ?_
    refine zv_.pa (i := 22) (N := some 36) (zv_.bm 32 6152191) HT_.out ?_
    refine zv_.pa (i := 23) (N := some 37) (zv_.bm 32 14540799) HT_.out ?_
    refine zv_.pa (i := 24) (N := some 38) (zv_.bm 32 31318015) HT_.out ?_
    refine zv_.ta (i := 13) (N := some 27) (zv_.bm 32 31326207) rfl (take_ofW HT_.out HW_.out (by kernel_rfl)) (Or.inl ⟨(by rfl), wv13⟩) hHeld ?_
    refine zv_.ta (i := 17) (N := some 31) (zv_.bm 32 31457279) rfl (take_ofW HT_.out HW_.out (by kernel_rfl)) (Or.inl ⟨(by rfl), wv13⟩) hHeld ?_
    refine zv_.ta (i := 21) (N := some 35) (zv_.bm 32 33554431) rfl (take_ofW HT_.out HW_.out (by kernel_rfl)) (Or.inl ⟨(by rfl), wv13⟩) hHeld ?_
    refine zv_.ta (i := 25) (N := some 39) (zv_.bm 32 67108863) rfl (take_ofW HT_.out HW_.out (by kernel_rfl)) (Or.inl ⟨(by rfl), wv13⟩) hHeld ?_
    refine zv_.pa (i := 26) (N := some 40) (zv_.bm 32 134217727) HT_.out ?_
    refine zv_.pa (i := 27) (N := some 41) (zv_.bm 32 268435455) HT_.out ?_
    refine one_ (i := 28) (N := some 42) (zv_.bm 32 536870911) rfl rfl (one_of HT_.out (by kernel_rfl)) (by decide) (fun K hK => ?_)
    refine goes_ Try.func149 (by kernel_rfl) rfl #[.int .i64 a1_2, .int .i64 a1_3, .int .i64 (wrap64 ((wrap64 (a1_3 + a1_5)) - 1))] (by rfl) rfl rfl wv1 ?_
    with_reducible refine (spec_l00In.calls a1_2 a1_3 (wrap64 ((wrap64 (a1_3 + a1_5)) - 1)) t123 _ A8.out).mono ?_
    rintro e w' ⟨rfl, ⟨nd, rfl⟩⟩
    refine ⟨_, rfl, ?_⟩
    refine hK.out _ _ ⟨xvc BK1.out, xvc BK1.out, xvc BK1.out, xvc BK1.out, xvc BK1.out, xvc BK1.out⟩ (fun hHeld => ?_)
    clear hK K
    refine norm_ (a' := ?_) ?_ ?_
    rotate_left
    ·show Act.put _ (some 42) _ = _
     simp only [Act.put, List.setIfInBounds_toArray, List.set_cons_zero, List.set_cons_succ, i64_w, i32_w]
     rfl
    refine zv_.pa (i := 29) (N := some 43) (zv_.bm 32 1073741823) HT_.out ?_
    refine zv_.pa (i := 30) (N := some 44) (zv_.bm 32 2147483647) HT_.out ?_
    refine zv_.pa (i := 31) (N := some 6) (zv_.bm 32 4294967295) HT_.out ?_
    refine done_ (done_of HT_.out (by kernel_rfl)) ?_
    try go_wp2
    go_ret
    exact ⟨wv3, wv2⟩
   ·replace c7 := Bool.eq_false_iff.mpr c7
    subst c7
    have H1 : (some false) = some r := by rw [if_neg (show ¬ (false = true) by decide)] at H; exact H
    clear H
    have H := H1
    clear H1
    obtain rfl := Option.some.inj H
    have hcz11_0 : w.cell? ⟨B1, 0, none⟩ = some (.int .i64 a1_0) := xvc BK1.out
    have hcz11_1 : w.cell? ⟨B1, 1, none⟩ = some (.int .i64 a1_1) := xvc BK1.out
    have hcz11_2 : w.cell? ⟨B1, 2, none⟩ = some (.int .i64 a1_2) := xvc BK1.out
    have hcz11_3 : w.cell? ⟨B1, 3, none⟩ = some (.int .i64 a1_3) := xvc BK1.out
    have hcz11_4 : w.cell? ⟨B1, 4, none⟩ = some (.int .i64 a1_4) := xvc BK1.out
    have hcz11_5 : w.cell? ⟨B1, 5, none⟩ = some (.int .i64 a1_5) := xvc BK1.out
    have hfz11_0 := blk_frozen BK1.out 0
    have hfz11_1 := blk_frozen BK1.out 1
    have hfz11_2 := blk_frozen BK1.out 2
    have hfz11_3 := blk_frozen BK1.out 3
    have hfz11_4 := blk_frozen BK1.out 4
    have hfz11_5 := blk_frozen BK1.out 5
    go_enter Try.func84, Try.ntmps84
    try go_wp2
    have n0_ := Aside0.mk (blk_drew BK1.out)
    have n1_ := Aside0.mk (below_drew1 HB.out)
    clear BK1
    clear HB
    have BK1 := n0_
    have HB := n1_
    clear n0_ n1_
    refine start_ (n := 32) (S := fun w' => w'.cell? ⟨B1, 0, none⟩ = some (.int .i64 a1_0) ∧ w'.cell? ⟨B1, 1, none⟩ = some (.int .i64 a1_1) ∧ w'.cell? ⟨B1, 2, none⟩ = some (.int .i64 a1_2) ∧ w'.cell? ⟨B1, 3, none⟩ = some (.int .i64 a1_3) ∧ w'.cell? ⟨B1, 4, none⟩ = some (.int .i64 a1_4) ∧ w'.cell? ⟨B1, 5, none⟩ = some (.int .i64 a1_5)) (ds := []) (zv_.bm 32 0) (by kernel_rfl) rfl rfl ⟨xvc BK1.out, xvc BK1.out, xvc BK1.out, xvc BK1.out, xvc BK1.out, xvc BK1.out⟩ (fun hHeld => ?_); refine with_tabW spec_l09Can.tab2 spec_l09Can.bits2 (fun HT_ HW_ => ?_)
    generalize w.drew = w12 at BK1 HB hHeld ⊢
    refine zv_.pa (i := 0) (N := some 14) (zv_.bm 32 1) HT_.out ?_
    refine zv_.pa (i := 1) (N := some 15) (zv_.bm 32 3) HT_.out ?_
    refine zv_.pa (i := 2) (N := some 16) (zv_.bm 32 7) HT_.out ?_
    refine zv_.pa (i := 3) (N := some 17) (zv_.bm 32 15) HT_.out ?_
    refine zv_.pa (i := 4) (N := some 18) (zv_.bm 32 31) HT_.out ?_
    refine zv_.pa (i := 5) (N := some 19) (zv_.bm 32 63) HT_.out ?_
    refine zv_.ta (i := 6) (N := some 20) (zv_.bm 32 127) rfl (take_ofW HT_.out HW_.out (by kernel_rfl)) (Or.inl ⟨(by rfl), wv13⟩) hHeld ?_
    refine one_ (i := 7) (N := some 21) (zv_.bm 32 255) rfl rfl (one_of HT_.out (by kernel_rfl)) (by decide) (fun K hK => ?_)
    refine goes_ Try.func152 (by kernel_rfl) rfl #[.int .i64 a1_1] (by rfl) rfl rfl wv1 ?_
    with_reducible refine (spec_l01Associates.calls a1_1 false _ A6.out).mono ?_
    rintro e w' ⟨rfl, ⟨nd, rfl⟩⟩
    refine ⟨_, rfl, ?_⟩
    refine hK.out _ _ ⟨xvc BK1.out, xvc BK1.out, xvc BK1.out, xvc BK1.out, xvc BK1.out, xvc BK1.out⟩ (fun hHeld => ?_)
    clear hK K
    refine norm_ (a' := ?_) ?_ ?_
    rotate_left
    ·show Act.put _ (some 21) _ = _
     simp only [Act.put, List.setIfInBounds_toArray, List.set_cons_zero, List.set_cons_succ, i64_w, i32_w]
     rfl
    refine zv_.pa (i := 8) (N := some 22) (zv_.bm 32 511) HT_.out ?_
    refine zv_.pa (i := 9) (N := some 23) (zv_.bm 32 1023) HT_.out ?_
    refine pure_ (i := 10) (N := some 24) (v := undef) (a' := ?_) (zv_.bm 32 2047) rfl rfl (any_of HT_.out (by kernel_rfl)) (fun _ _ _ h => h) (Or.inr ⟨(by rfl), rfl⟩) ?_ ?_
    rotate_left
    ·simp only [Act.put, List.setIfInBounds_toArray, List.set_cons_zero, List.set_cons_succ, i64_w, i32_w]
     rfl
    refine pure_ (i := 11) (N := some 25) (v := undef) (a' := ?_) (zv_.bm 32 4095) rfl rfl (any_of HT_.out (by kernel_rfl)) (fun _ _ _ h => h) (Or.inr ⟨(by rfl), rfl⟩) ?_ ?_
    rotate_left
    ·simp only [Act.put, List.setIfInBounds_toArray, List.set_cons_zero, List.set_cons_succ, i64_w, i32_w]
     rfl
    refine pure_ (i := 12) (N := some 26) (v := undef) (a' := ?_) (zv_.bm 32 8191) rfl rfl (any_of HT_.out (by kernel_rfl)) (fun _ _ _ h => h) (Or.inr ⟨(by rfl), rfl⟩) ?_ ?_
    rotate_left
    ·simp only [Act.put, List.setIfInBounds_toArray, List.set_cons_zero, List.set_cons_succ, i64_w, i32_w]
     rfl
    refine pure_ (i := 13) (N := some 27) (v := undef) (a' := ?_) (zv_.bm 32 16383) rfl rfl (any_of HT_.out (by kernel_rfl)) (fun _ _ _ h => h) (Or.inr ⟨(by rfl), rfl⟩) ?_ ?_
    rotate_left
    ·simp only [Act.put, List.setIfInBounds_toArray, List.set_cons_zero, List.set_cons_succ, i64_w, i32_w]
     rfl
    refine pure_ (i := 14) (N := some 28) (v := undef) (a' := ?_) (zv_.bm 32 32767) rfl rfl (any_of HT_.out (by kernel_rfl)) (fun _ _ _ h => h) (Or.inr ⟨(by rfl), rfl⟩) ?_ ?_
    rotate_left
    ·simp only [Act.put, List.setIfInBounds_toArray, List.set_cons_zero, List.set_cons_succ, i64_w, i32_w]
     rfl
    refine pure_ (i := 15) (N := some 29) (v := undef) (a' := ?_) (zv_.bm 32 65535) rfl rfl (any_of HT_.out (by kernel_rfl)) (fun _ _ _ h => h) (Or.inr ⟨(by rfl), rfl⟩) ?_ ?_
    rotate_left
    ·simp only [Act.put, List.setIfInBounds_toArray, List.set_cons_zero, List.set_cons_succ, i64_w, i32_w]
     rfl
    refine pure_ (i := 16) (N := some 30) (v := undef) (a' := ?_) (zv_.bm 32 131071) rfl rfl (any_of HT_.out (by kernel_rfl)) (fun _ _ _ h => h) (Or.inr ⟨(by rfl), rfl⟩) ?_ ?_
    rotate_left
    ·simp only [Act.put, List.setIfInBounds_toArray, List.set_cons_zero, List.set_cons_succ, i64_w, i32_w]
     rfl
    refine pure_ (i := 17) (N := some 31) (v := undef) (a' := ?_) (zv_.bm 32 262143) rfl rfl (any_of HT_.out (by kernel_rfl)) (fun _ _ _ h => h) (Or.inr ⟨(by rfl), rfl⟩) ?_ ?_
    rotate_left
    ·simp only [Act.put, List.setIfInBounds_toArray, List.set_cons_zero, List.set_cons_succ, i64_w, i32_w]
     rfl
    refine pure_ (i := 18) (N := some 32) (v := undef) (a' := ?_) (zv_.bm 32 524287) rfl rfl (any_of HT_.out (by kernel_rfl)) (fun _ _ _ h => h) (Or.inr ⟨(by rfl), rfl⟩) ?_ ?_
    rotate_left
    ·simp only [Act.put, List.setIfInBounds_toArray, List.set_cons_zero, List.set_cons_succ, i64_w, i32_w]
     rfl
    refine pure_ (i := 19) (N := some 33) (v := undef) (a' := ?_) (zv_.bm 32 1048575) rfl rfl (any_of HT_.out (by kernel_rfl)) (fun _ _ _ h => h) (Or.inr ⟨(by rfl), rfl⟩) ?_ ?_
    rotate_left
    ·simp only [Act.put, List.setIfInBounds_toArray, List.set_cons_zero, List.set_cons_succ, i64_w, i32_w]
     rfl
    refine pure_ (i := 20) (N := some 34) (v := undef) (a' := ?_) (zv_.bm 32 2097151) rfl rfl (any_of HT_.out (by kernel_rfl)) (fun _ _ _ h => h) (Or.inr ⟨(by rfl), rfl⟩) ?_ ?_
    rotate_left
    ·simp only [Act.put, List.setIfInBounds_toArray, List.set_cons_zero, List.set_cons_succ, i64_w, i32_w]
     rfl
    refine pure_ (i := 21) (N := some 35) (v := undef) (a' := ?_) (zv_.bm 32 4194303) rfl rfl (any_of HT_.out (by kernel_rfl)) (fun _ _ _ h => h) (Or.inr ⟨(by rfl), rfl⟩) ?_ ?_
    rotate_left
    ·simp only [Act.put, List.setIfInBounds_toArray, List.set_cons_zero, List.set_cons_succ, i64_w, i32_w]
     rfl
    refine pure_ (i := 22) (N := some 36) (v := undef) (a' := ?_) (zv_.bm 32 8388607) rfl rfl (any_of HT_.out (by kernel_rfl)) (fun _ _ _ h => h) (Or.inr ⟨(by rfl), rfl⟩) ?_ ?_
    rotate_left
    ·simp only [Act.put, List.setIfInBounds_toArray, List.set_cons_zero, List.set_cons_succ, i64_w, i32_w]
     rfl
    refine pure_ (i := 23) (N := some 37) (v := undef) (a' := ?_) (zv_.bm 32 16777215) rfl rfl (any_of HT_.out (by kernel_rfl)) (fun _ _ _ h => h) (Or.inr ⟨(by rfl), rfl⟩) ?_ ?_
    rotate_left
    ·simp only [Act.put, List.setIfInBounds_toArray, List.set_cons_zero, List.set_cons_succ, i64_w, i32_w]
     rfl
    refine pure_ (i := 24) (N := some 38) (v := undef) (a' := ?_) (zv_.bm 32 33554431) rfl rfl (any_of HT_.out (by kernel_rfl)) (fun _ _ _ h => h) (Or.inr ⟨(by rfl), rfl⟩) ?_ ?_
    rotate_left
    ·simp only [Act.put, List.setIfInBounds_toArray, List.set_cons_zero, List.set_cons_succ, i64_w, i32_w]
     rfl
    refine pure_ (i := 25) (N := some 39) (v := undef) (a' := ?_) (zv_.bm 32 67108863) rfl rfl (any_of HT_.out (by kernel_rfl)) (fun _ _ _ h => h) (Or.inr ⟨(by rfl), rfl⟩) ?_ ?_
    rotate_left
    ·simp only [Act.put, List.setIfInBounds_toArray, List.set_cons_zero, List.set_cons_succ, i64_w, i32_w]
     rfl
    refine pure_ (i := 26) (N := some 40) (v := undef) (a' := ?_) (zv_.bm 32 134217727) rfl rfl (any_of HT_.out (by kernel_rfl)) (fun _ _ _ h => h) (Or.inr ⟨(by rfl), rfl⟩) ?_ ?_
    rotate_left
    ·simp only [Act.put, List.setIfInBounds_toArray, List.set_cons_zero, List.set_cons_succ, i64_w, i32_w]
     rfl
    refine pure_ (i := 27) (N := some 41) (v := undef) (a' := ?_) (zv_.bm 32 268435455) rfl rfl (any_of HT_.out (by kernel_rfl)) (fun _ _ _ h => h) (Or.inr ⟨(by rfl), rfl⟩) ?_ ?_
    rotate_left
    ·simp only [Act.put, List.setIfInBounds_toArray, List.set_cons_zero, List.set_cons_succ, i64_w, i32_w]
     rfl
    refine pure_ (i := 28) (N := some 42) (v := undef) (a' := ?_) (zv_.bm 32 536870911) rfl rfl (any_of HT_.out (by kernel_rfl)) (fun _ _ _ h => h) (Or.inr ⟨(by rfl), rfl⟩) ?_ ?_
    rotate_left
    ·simp only [Act.put, List.setIfInBounds_toArray, List.set_cons_zero, List.set_cons_succ, i64_w, i32_w]
     rfl
    refine pure_ (i := 29) (N := some 43) (v := undef) (a' := ?_) (zv_.bm 32 1073741823) rfl rfl (any_of HT_.out (by kernel_rfl)) (fun _ _ _ h => h) (Or.inr ⟨(by rfl), rfl⟩) ?_ ?_
    rotate_left
    ·simp only [Act.put, List.setIfInBounds_toArray, List.set_cons_zero, List.set_cons_succ, i64_w, i32_w]
     rfl
    refine zv_.pa (i := 30) (N := some 44) (zv_.bm 32 2147483647) HT_.out ?_
    refine zv_.pa (i := 31) (N := some 6) (zv_.bm 32 4294967295) HT_.out ?_
    refine done_ (done_of HT_.out (by kernel_rfl)) ?_
    try go_wp2
    go_ret
    exact ⟨wv3, wv2⟩
  ·rw [if_neg c5] at H
   have c5b0 : (a2 == 0) = false := beq_eq_false_iff_ne.mpr c5
   have c5b1 : (a2 != 0) = true := bne_iff_ne.mpr c5
   obtain rfl := Option.some.inj H
   have hcz13_0 : w.cell? ⟨B1, 0, none⟩ = some (.int .i64 a1_0) := xvc BK1.out
   have hcz13_1 : w.cell? ⟨B1, 1, none⟩ = some (.int .i64 a1_1) := xvc BK1.out
   have hcz13_2 : w.cell? ⟨B1, 2, none⟩ = some (.int .i64 a1_2) := xvc BK1.out
   have hcz13_3 : w.cell? ⟨B1, 3, none⟩ = some (.int .i64 a1_3) := xvc BK1.out
   have hcz13_4 : w.cell? ⟨B1, 4, none⟩ = some (.int .i64 a1_4) := xvc BK1.out
   have hcz13_5 : w.cell? ⟨B1, 5, none⟩ = some (.int .i64 a1_5) := xvc BK1.out
   have hfz13_0 := blk_frozen BK1.out 0
   have hfz13_1 := blk_frozen BK1.out 1
   have hfz13_2 := blk_frozen BK1.out 2
   have hfz13_3 := blk_frozen BK1.out 3
   have hfz13_4 := blk_frozen BK1.out 4
   have hfz13_5 := blk_frozen BK1.out 5
   go_enter Try.func84, Try.ntmps84
   try go_wp2
   have n0_ := Aside0.mk (blk_drew BK1.out)
   have n1_ := Aside0.mk (below_drew1 HB.out)
   clear BK1
   clear HB
   have BK1 := n0_
   have HB := n1_
   clear n0_ n1_
   refine start_ (n := 32) (S := fun w' => True) (ds := []) (zv_.bm 32 0) (by kernel_rfl) rfl rfl trivial (fun hHeld => ?_); refine with_tabW spec_l09Can.tab2 spec_l09Can.bits2 (fun HT_ HW_ => ?_)
   generalize w.drew = w14 at BK1 HB hHeld ⊢
   refine zv_.pa (i := 0) (N := some 14) (zv_.bm 32 1) HT_.out ?_
   refine zv_.pa (i := 1) (N := some 15) (zv_.bm 32 3) HT_.out ?_
   refine zv_.pa (i := 2) (N := some 16) (zv_.bm 32 7) HT_.out ?_
   refine pure_ (i := 3) (N := some 17) (v := undef) (a' := ?_) (zv_.bm 32 15) rfl rfl (any_of HT_.out (by kernel_rfl)) (fun _ _ _ h => h) (Or.inr ⟨(by rfl), rfl⟩) ?_ ?_
   rotate_left
   ·simp only [Act.put, List.setIfInBounds_toArray, List.set_cons_zero, List.set_cons_succ, i64_w, i32_w]
    rfl
   refine pure_ (i := 4) (N := some 18) (v := undef) (a' := ?_) (zv_.bm 32 31) rfl rfl (any_of HT_.out (by kernel_rfl)) (fun _ _ _ h => h) (Or.inr ⟨(by rfl), rfl⟩) ?_ ?_
   rotate_left
   ·simp only [Act.put, List.setIfInBounds_toArray, List.set_cons_zero, List.set_cons_succ, i64_w, i32_w]
    rfl
   refine pure_ (i := 5) (N := some 19) (v := undef) (a' := ?_) (zv_.bm 32 63) rfl rfl (any_of HT_.out (by kernel_rfl)) (fun _ _ _ h => h) (Or.inr ⟨(by rfl), rfl⟩) ?_ ?_
   rotate_left
   ·simp only [Act.put, List.setIfInBounds_toArray, List.set_cons_zero, List.set_cons_succ, i64_w, i32_w]
    rfl
   refine pure_ (i := 6) (N := some 20) (v := undef) (a' := ?_) (zv_.bm 32 127) rfl rfl (any_of HT_.out (by kernel_rfl)) (fun _ _ _ h => h) (Or.inr ⟨(by rfl), rfl⟩) ?_ ?_
   rotate_left
   ·simp only [Act.put, List.setIfInBounds_toArray, List.set_cons_zero, List.set_cons_succ, i64_w, i32_w]
    rfl
   refine pure_ (i := 7) (N := some 21) (v := undef) (a' := ?_) (zv_.bm 32 255) rfl rfl (any_of HT_.out (by kernel_rfl)) (fun _ _ _ h => h) (Or.inr ⟨(by rfl), rfl⟩) ?_ ?_
   rotate_left
   ·simp only [Act.put, List.setIfInBounds_toArray, List.set_cons_zero, List.set_cons_succ, i64_w, i32_w]
    rfl
   refine zv_.pa (i := 8) (N := some 22) (zv_.bm 32 511) HT_.out ?_
   refine zv_.pa (i := 9) (N := some 23) (zv_.bm 32 1023) HT_.out ?_
   refine pure_ (i := 10) (N := some 24) (v := undef) (a' := ?_) (zv_.bm 32 2047) rfl rfl (any_of HT_.out (by kernel_rfl)) (fun _ _ _ h => h) (Or.inr ⟨(by rfl), rfl⟩) ?_ ?_
   rotate_left
   ·simp only [Act.put, List.setIfInBounds_toArray, List.set_cons_zero, List.set_cons_succ, i64_w, i32_w]
    rfl
   refine pure_ (i := 11) (N := some 25) (v := undef) (a' := ?_) (zv_.bm 32 4095) rfl rfl (any_of HT_.out (by kernel_rfl)) (fun _ _ _ h => h) (Or.inr ⟨(by rfl), rfl⟩) ?_ ?_
   rotate_left
   ·simp only [Act.put, List.setIfInBounds_toArray, List.set_cons_zero, List.set_cons_succ, i64_w, i32_w]
    rfl
   refine pure_ (i := 12) (N := some 26) (v := undef) (a' := ?_) (zv_.bm 32 8191) rfl rfl (any_of HT_.out (by kernel_rfl)) (fun _ _ _ h => h) (Or.inr ⟨(by rfl), rfl⟩) ?_ ?_
   rotate_left
   ·simp only [Act.put, List.setIfInBounds_toArray, List.set_cons_zero, List.set_cons_succ, i64_w, i32_w]
    rfl
   refine pure_ (i := 13) (N := some 27) (v := undef) (a' := ?_) (zv_.bm 32 16383) rfl rfl (any_of HT_.out (by kernel_rfl)) (fun _ _ _ h => h) (Or.inr ⟨(by rfl), rfl⟩) ?_ ?_
   rotate_left
   ·simp only [Act.put, List.setIfInBounds_toArray, List.set_cons_zero, List.set_cons_succ, i64_w, i32_w]
    rfl
   refine pure_ (i := 14) (N := some 28) (v := undef) (a' := ?_) (zv_.bm 32 32767) rfl rfl (any_of HT_.out (by kernel_rfl)) (fun _ _ _ h => h) (Or.inr ⟨(by rfl), rfl⟩) ?_ ?_
   rotate_left
   ·simp only [Act.put, List.setIfInBounds_toArray, List.set_cons_zero, List.set_cons_succ, i64_w, i32_w]
    rfl
   refine pure_ (i := 15) (N := some 29) (v := undef) (a' := ?_) (zv_.bm 32 65535) rfl rfl (any_of HT_.out (by kernel_rfl)) (fun _ _ _ h => h) (Or.inr ⟨(by rfl), rfl⟩) ?_ ?_
   rotate_left
   ·simp only [Act.put, List.setIfInBounds_toArray, List.set_cons_zero, List.set_cons_succ, i64_w, i32_w]
    rfl
   refine pure_ (i := 16) (N := some 30) (v := undef) (a' := ?_) (zv_.bm 32 131071) rfl rfl (any_of HT_.out (by kernel_rfl)) (fun _ _ _ h => h) (Or.inr ⟨(by rfl), rfl⟩) ?_ ?_
   rotate_left
   ·simp only [Act.put, List.setIfInBounds_toArray, List.set_cons_zero, List.set_cons_succ, i64_w, i32_w]
    rfl
   refine pure_ (i := 17) (N := some 31) (v := undef) (a' := ?_) (zv_.bm 32 262143) rfl rfl (any_of HT_.out (by kernel_rfl)) (fun _ _ _ h => h) (Or.inr ⟨(by rfl), rfl⟩) ?_ ?_
   rotate_left
   ·simp only [Act.put, List.setIfInBounds_toArray, List.set_cons_zero, List.set_cons_succ, i64_w, i32_w]
    rfl
   refine pure_ (i := 18) (N := some 32) (v := undef) (a' := ?_) (zv_.bm 32 524287) rfl rfl (any_of HT_.out (by kernel_rfl)) (fun _ _ _ h => h) (Or.inr ⟨(by rfl), rfl⟩) ?_ ?_
   rotate_left
   ·simp only [Act.put, List.setIfInBounds_toArray, List.set_cons_zero, List.set_cons_succ, i64_w, i32_w]
    rfl
   refine pure_ (i := 19) (N := some 33) (v := undef) (a' := ?_) (zv_.bm 32 1048575) rfl rfl (any_of HT_.out (by kernel_rfl)) (fun _ _ _ h => h) (Or.inr ⟨(by rfl), rfl⟩) ?_ ?_
   rotate_left
   ·simp only [Act.put, List.setIfInBounds_toArray, List.set_cons_zero, List.set_cons_succ, i64_w, i32_w]
    rfl
   refine pure_ (i := 20) (N := some 34) (v := undef) (a' := ?_) (zv_.bm 32 2097151) rfl rfl (any_of HT_.out (by kernel_rfl)) (fun _ _ _ h => h) (Or.inr ⟨(by rfl), rfl⟩) ?_ ?_
   rotate_left
   ·simp only [Act.put, List.setIfInBounds_toArray, List.set_cons_zero, List.set_cons_succ, i64_w, i32_w]
    rfl
   refine pure_ (i := 21) (N := some 35) (v := undef) (a' := ?_) (zv_.bm 32 4194303) rfl rfl (any_of HT_.out (by kernel_rfl)) (fun _ _ _ h => h) (Or.inr ⟨(by rfl), rfl⟩) ?_ ?_
   rotate_left
   ·simp only [Act.put, List.setIfInBounds_toArray, List.set_cons_zero, List.set_cons_succ, i64_w, i32_w]
    rfl
   refine pure_ (i := 22) (N := some 36) (v := undef) (a' := ?_) (zv_.bm 32 8388607) rfl rfl (any_of HT_.out (by kernel_rfl)) (fun _ _ _ h => h) (Or.inr ⟨(by rfl), rfl⟩) ?_ ?_
   rotate_left
   ·simp only [Act.put, List.setIfInBounds_toArray, List.set_cons_zero, List.set_cons_succ, i64_w, i32_w]
    rfl
   refine pure_ (i := 23) (N := some 37) (v := undef) (a' := ?_) (zv_.bm 32 16777215) rfl rfl (any_of HT_.out (by kernel_rfl)) (fun _ _ _ h => h) (Or.inr ⟨(by rfl), rfl⟩) ?_ ?_
   rotate_left
   ·simp only [Act.put, List.setIfInBounds_toArray, List.set_cons_zero, List.set_cons_succ, i64_w, i32_w]
    rfl
   refine pure_ (i := 24) (N := some 38) (v := undef) (a' := ?_) (zv_.bm 32 33554431) rfl rfl (any_of HT_.out (by kernel_rfl)) (fun _ _ _ h => h) (Or.inr ⟨(by rfl), rfl⟩) ?_ ?_
   rotate_left
   ·simp only [Act.put, List.setIfInBounds_toArray, List.set_cons_zero, List.set_cons_succ, i64_w, i32_w]
    rfl
   refine pure_ (i := 25) (N := some 39) (v := undef) (a' := ?_) (zv_.bm 32 67108863) rfl rfl (any_of HT_.out (by kernel_rfl)) (fun _ _ _ h => h) (Or.inr ⟨(by rfl), rfl⟩) ?_ ?_
   rotate_left
   ·simp only [Act.put, List.setIfInBounds_toArray, List.set_cons_zero, List.set_cons_succ, i64_w, i32_w]
    rfl
   refine pure_ (i := 26) (N := some 40) (v := undef) (a' := ?_) (zv_.bm 32 134217727) rfl rfl (any_of HT_.out (by kernel_rfl)) (fun _ _ _ h => h) (Or.inr ⟨(by rfl), rfl⟩) ?_ ?_
   rotate_left
   ·simp only [Act.put, List.setIfInBounds_toArray, List.set_cons_zero, List.set_cons_succ, i64_w, i32_w]
    rfl
   refine pure_ (i := 27) (N := some 41) (v := undef) (a' := ?_) (zv_.bm 32 268435455) rfl rfl (any_of HT_.out (by kernel_rfl)) (fun _ _ _ h => h) (Or.inr ⟨(by rfl), rfl⟩) ?_ ?_
   rotate_left
   ·simp only [Act.put, List.setIfInBounds_toArray, List.set_cons_zero, List.set_cons_succ, i64_w, i32_w]
    rfl
   refine pure_ (i := 28) (N := some 42) (v := undef) (a' := ?_) (zv_.bm 32 536870911) rfl rfl (any_of HT_.out (by kernel_rfl)) (fun _ _ _ h => h) (Or.inr ⟨(by rfl), rfl⟩) ?_ ?_
   rotate_left
   ·simp only [Act.put, List.setIfInBounds_toArray, List.set_cons_zero, List.set_cons_succ, i64_w, i32_w]
    rfl
   refine pure_ (i := 29) (N := some 43) (v := undef) (a' := ?_) (zv_.bm 32 1073741823) rfl rfl (any_of HT_.out (by kernel_rfl)) (fun _ _ _ h => h) (Or.inr ⟨(by rfl), rfl⟩) ?_ ?_
   rotate_left
   ·simp only [Act.put, List.setIfInBounds_toArray, List.set_cons_zero, List.set_cons_succ, i64_w, i32_w]
    rfl
   refine zv_.pa (i := 30) (N := some 44) (zv_.bm 32 2147483647) HT_.out ?_
   refine zv_.pa (i := 31) (N := some 6) (zv_.bm 32 4294967295) HT_.out ?_
   refine done_ (done_of HT_.out (by kernel_rfl)) ?_
   try go_wp2
   go_ret
   exact ⟨wv3, wv2⟩
 ·rw [if_neg c4] at H
  have c4b0 : (a1_0 == 1) = false := beq_eq_false_iff_ne.mpr c4
  have c4b1 : (a1_0 != 1) = true := bne_iff_ne.mpr c4
  have HC15 := Aside0.mk H
  clear H
  have hcz16_0 : w.cell? ⟨B1, 0, none⟩ = some (.int .i64 a1_0) := xvc BK1.out
  have hcz16_1 : w.cell? ⟨B1, 1, none⟩ = some (.int .i64 a1_1) := xvc BK1.out
  have hcz16_2 : w.cell? ⟨B1, 2, none⟩ = some (.int .i64 a1_2) := xvc BK1.out
  have hcz16_3 : w.cell? ⟨B1, 3, none⟩ = some (.int .i64 a1_3) := xvc BK1.out
  have hcz16_4 : w.cell? ⟨B1, 4, none⟩ = some (.int .i64 a1_4) := xvc BK1.out
  have hcz16_5 : w.cell? ⟨B1, 5, none⟩ = some (.int .i64 a1_5) := xvc BK1.out
  have hfz16_0 := blk_frozen BK1.out 0
  have hfz16_1 := blk_frozen BK1.out 1
  have hfz16_2 := blk_frozen BK1.out 2
  have hfz16_3 := blk_frozen BK1.out 3
  have hfz16_4 := blk_frozen BK1.out 4
  have hfz16_5 := blk_frozen BK1.out 5
  go_enter Try.func84, Try.ntmps84
  try go_wp2
  have n0_ := Aside0.mk (blk_drew BK1.out)
  have n1_ := Aside0.mk (below_drew1 HB.out)
  clear BK1
  clear HB
  have BK1 := n0_
  have HB := n1_
  clear n0_ n1_
  refine start_ (n := 10) (S := fun w' => w'.cell? ⟨B1, 0, none⟩ = some (.int .i64 a1_0) ∧ w'.cell? ⟨B1, 1, none⟩ = some (.int .i64 a1_1) ∧ w'.cell? ⟨B1, 2, none⟩ = some (.int .i64 a1_2) ∧ w'.cell? ⟨B1, 3, none⟩ = some (.int .i64 a1_3) ∧ w'.cell? ⟨B1, 4, none⟩ = some (.int .i64 a1_4) ∧ w'.cell? ⟨B1, 5, none⟩ = some (.int .i64 a1_5)) (ds := []) (zv_.bm 10 0) (by kernel_rfl) rfl rfl ⟨xvc BK1.out, xvc BK1.out, xvc BK1.out, xvc BK1.out, xvc BK1.out, xvc BK1.out⟩ (fun hHeld => ?_); refine with_tabW spec_l09Can.tab3 spec_l09Can.bits3 (fun HT_ HW_ => ?_)
  generalize w.drew = w17 at BK1 HB hHeld ⊢
  refine zv_.pa (i := 0) (N := some 45) (zv_.bm 10 1) HT_.out ?_
  refine zv_.pa (i := 1) (N := some 46) (zv_.bm 10 3) HT_.out ?_
  refine zv_.pa (i := 2) (N := some 47) (zv_.bm 10 7) HT_.out ?_
  refine zv_.pa (i := 4) (N := some 49) (zv_.bm 10 23) HT_.out ?_
  refine zv_.pa (i := 5) (N := some 50) (zv_.bm 10 55) HT_.out ?_
  refine zv_.pa (i := 6) (N := some 51) (zv_.bm 10 119) HT_.out ?_
  refine zv_.ta (i := 3) (N := some 48) (zv_.bm 10 127) rfl (take_ofW HT_.out HW_.out (by kernel_rfl)) (Or.inl ⟨(by rfl), wv13⟩) hHeld ?_
  refine zv_.ta (i := 7) (N := some 52) (zv_.bm 10 255) rfl (take_ofW HT_.out HW_.out (by kernel_rfl)) (Or.inl ⟨(by rfl), wv13⟩) hHeld ?_
  refine zv_.pa (i := 8) (N := some 53) (zv_.bm 10 511) HT_.out ?_
  refine zv_.pa (i := 9) (N := some 7) (zv_.bm 10 1023) HT_.out ?_
  refine done_ (done_of HT_.out (by kernel_rfl)) ?_
  try go_wp2
  have n0_ := Aside0.mk (blk_drew BK1.out)
  have n1_ := Aside0.mk (below_drew1 HB.out)
  clear BK1
  clear HB
  have BK1 := n0_
  have HB := n1_
  clear n0_ n1_
  refine start_ (n := 10) (S := fun w' => w'.cell? ⟨B1, 0, none⟩ = some (.int .i64 a1_0) ∧ w'.cell? ⟨B1, 1, none⟩ = some (.int .i64 a1_1) ∧ w'.cell? ⟨B1, 2, none⟩ = some (.int .i64 a1_2) ∧ w'.cell? ⟨B1, 3, none⟩ = some (.int .i64 a1_3) ∧ w'.cell? ⟨B1, 4, none⟩ = some (.int .i64 a1_4) ∧ w'.cell? ⟨B1, 5, none⟩ = some (.int .i64 a1_5)) (ds := []) (zv_.bm 10 0) (by kernel_rfl) rfl rfl ⟨xvc BK1.out, xvc BK1.out, xvc BK1.out, xvc BK1.out, xvc BK1.out, xvc BK1.out⟩ (fun hHeld => ?_); refine with_tabW spec_l09Can.tab4 spec_l09Can.bits4 (fun HT_ HW_ => ?_)
  generalize w17.drew = w18 at BK1 HB hHeld ⊢
  refine zv_.pa (i := 0) (N := some 54) (zv_.bm 10 1) HT_.out ?_
  refine zv_.pa (i := 1) (N := some 55) (zv_.bm 10 3) HT_.out ?_
  refine zv_.pa (i := 2) (N := some 56) (zv_.bm 10 7) HT_.out ?_
  refine zv_.pa (i := 4) (N := some 58) (zv_.bm 10 23) HT_.out ?_
  refine zv_.pa (i := 5) (N := some 59) (zv_.bm 10 55) HT_.out ?_
  refine zv_.pa (i := 6) (N := some 60) (zv_.bm 10 119) HT_.out ?_
  refine zv_.ta (i := 3) (N := some 57) (zv_.bm 10 127) rfl (take_ofW HT_.out HW_.out (by kernel_rfl)) (Or.inl ⟨(by rfl), wv13⟩) hHeld ?_
  refine zv_.ta (i := 7) (N := some 61) (zv_.bm 10 255) rfl (take_ofW HT_.out HW_.out (by kernel_rfl)) (Or.inl ⟨(by rfl), wv13⟩) hHeld ?_
  refine zv_.pa (i := 8) (N := some 62) (zv_.bm 10 511) HT_.out ?_
  refine zv_.pa (i := 9) (N := some 8) (zv_.bm 10 1023) HT_.out ?_
  refine done_ (done_of HT_.out (by kernel_rfl)) ?_
  go_upto_region 5 with (fail)
  go_cut [83] (fun v83 wc => ∃ (kq : Nat) (x83_14 : Bool), v83 = .bool x83_14 ∧ Aside0 (spec_l09Can.j0 kq a0 a2 x83_14 a1_0 a1_1 a1_2 a1_3 a1_4 a1_5 = some r) ∧ Aside0 (kq ≤ k) ∧ Aside0 (wc.heap[B1]? = some (.cells #[.int .i64 a1_0, .int .i64 a1_1, .int .i64 a1_2, .int .i64 a1_3, .int .i64 a1_4, .int .i64 a1_5] 25 (0, 0))) ∧ Aside0 (Below w.heap.size w wc))
  case first =>
   have H := HC15.out
   clear HC15
   replace H := Option.bind_eq_some_iff.mp H
   obtain ⟨t124, A190, H⟩ := H
   replace H : (if t124 = true then (if (wrap64 (a1_2 - a1_3)) > 0 then (if (wrap64 (a1_2 - a1_3)) < a0 then (spec_l09Can.j0 k a0 a2 true a1_0 a1_1 a1_2 a1_3 a1_4 a1_5) else (if (wrap64 (a1_2 - a1_4)) > 0 then (spec_l09Can.j0 k a0 a2 (decide ((wrap64 (a1_2 - a1_4)) < a0)) a1_0 a1_1 a1_2 a1_3 a1_4 a1_5) else (spec_l09Can.j0 k a0 a2 false a1_0 a1_1 a1_2 a1_3 a1_4 a1_5))) else (if (wrap64 (a1_2 - a1_4)) > 0 then (spec_l09Can.j0 k a0 a2 (decide ((wrap64 (a1_2 - a1_4)) < a0)) a1_0 a1_1 a1_2 a1_3 a1_4 a1_5) else (spec_l09Can.j0 k a0 a2 false a1_0 a1_1 a1_2 a1_3 a1_4 a1_5))) else (spec_l09Can.j0 k a0 a2 true a1_0 a1_1 a1_2 a1_3 a1_4 a1_5)) = some r := H
   have A19 := Aside0.mk A190
   clear A190
   by_cases c20 : t124 = true
   ·subst c20
    have H1 : (if (wrap64 (a1_2 - a1_3)) > 0 then (if (wrap64 (a1_2 - a1_3)) < a0 then (spec_l09Can.j0 k a0 a2 true a1_0 a1_1 a1_2 a1_3 a1_4 a1_5) else (if (wrap64 (a1_2 - a1_4)) > 0 then (spec_l09Can.j0 k a0 a2 (decide ((wrap64 (a1_2 - a1_4)) < a0)) a1_0 a1_1 a1_2 a1_3 a1_4 a1_5) else (spec_l09Can.j0 k a0 a2 false a1_0 a1_1 a1_2 a1_3 a1_4 a1_5))) else (if (wrap64 (a1_2 - a1_4)) > 0 then (spec_l09Can.j0 k a0 a2 (decide ((wrap64 (a1_2 - a1_4)) < a0)) a1_0 a1_1 a1_2 a1_3 a1_4 a1_5) else (spec_l09Can.j0 k a0 a2 false a1_0 a1_1 a1_2 a1_3 a1_4 a1_5))) = some r := by rw [if_pos rfl] at H; exact H
    clear H
    have H := H1
    clear H1
    by_cases c21 : (wrap64 (a1_2 - a1_3)) > 0
    ·rw [if_pos c21] at H
     have c21b0 : decide (0 < (wrap64 (a1_2 - a1_3))) = true := decide_eq_true c21
     clear c21
     (first | rw [c21b0] | (simp only [i64_w, i32_w]; rw [c21b0]) | skip)
     by_cases c22 : (wrap64 (a1_2 - a1_3)) < a0
     ·rw [if_pos c22] at H
      have c22b0 : decide ((wrap64 (a1_2 - a1_3)) < a0) = true := decide_eq_true c22
      clear c22
      have H' := Aside0.mk H
      clear H
      go_wp2_with (first | ((with_reducible refine gate_callee (f := 149) rfl ?_); refine goesL_ (some 64) rfl rfl Try.func149 (by kernel_rfl) rfl #[.int .i64 a2, .int .i64 0, .int .i64 2] rfl wv1 ?_; (with_reducible refine (spec_l00In.calls a2 0 2 true _ A19.out).mono ?_); rintro e w' ⟨rfl, ⟨nd, rfl⟩⟩; refine ⟨_, rfl, ?_⟩))
      go_meet
      case rel => exact ⟨_, (true), wv6, H', ⟨wv33⟩, ⟨(xvb BK1.out)⟩, ⟨wv2⟩⟩
     ·rw [if_neg c22] at H
      have c22b0 : decide ((wrap64 (a1_2 - a1_3)) < a0) = false := decide_eq_false c22
      clear c22
      by_cases c23 : (wrap64 (a1_2 - a1_4)) > 0
      ·rw [if_pos c23] at H
       have c23b0 : decide (0 < (wrap64 (a1_2 - a1_4))) = true := decide_eq_true c23
       clear c23
       have H' := Aside0.mk H
       clear H
       go_wp2_with (first | ((with_reducible refine gate_callee (f := 149) rfl ?_); refine goesL_ (some 64) rfl rfl Try.func149 (by kernel_rfl) rfl #[.int .i64 a2, .int .i64 0, .int .i64 2] rfl wv1 ?_; (with_reducible refine (spec_l00In.calls a2 0 2 true _ A19.out).mono ?_); rintro e w' ⟨rfl, ⟨nd, rfl⟩⟩; refine ⟨_, rfl, ?_⟩))
       go_meet
       case rel => exact ⟨_, (decide ((wrap64 (a1_2 - a1_4)) < a0)), wv6, H', ⟨wv33⟩, ⟨(xvb BK1.out)⟩, ⟨wv2⟩⟩
      ·rw [if_neg c23] at H
       have c23b0 : decide (0 < (wrap64 (a1_2 - a1_4))) = false := decide_eq_false c23
       clear c23
       have H' := Aside0.mk H
       clear H
       go_wp2_with (first | ((with_reducible refine gate_callee (f := 149) rfl ?_); refine goesL_ (some 64) rfl rfl Try.func149 (by kernel_rfl) rfl #[.int .i64 a2, .int .i64 0, .int .i64 2] rfl wv1 ?_; (with_reducible refine (spec_l00In.calls a2 0 2 true _ A19.out).mono ?_); rintro e w' ⟨rfl, ⟨nd, rfl⟩⟩; refine ⟨_, rfl, ?_⟩))
       go_meet
       case rel => exact ⟨_, (false), wv6, H', ⟨wv33⟩, ⟨(xvb BK1.out)⟩, ⟨wv2⟩⟩
    ·rw [if_neg c21] at H
     have c21b0 : decide (0 < (wrap64 (a1_2 - a1_3))) = false := decide_eq_false c21
     clear c21
     (first | rw [c21b0] | (simp only [i64_w, i32_w]; rw [c21b0]) | skip)
     by_cases c24 : (wrap64 (a1_2 - a1_4)) > 0
     ·rw [if_pos c24] at H
      have c24b0 : decide (0 < (wrap64 (a1_2 - a1_4))) = true := decide_eq_true c24
      clear c24
      have H' := Aside0.mk H
      clear H
      go_wp2_with (first | ((with_reducible refine gate_callee (f := 149) rfl ?_); refine goesL_ (some 64) rfl rfl Try.func149 (by kernel_rfl) rfl #[.int .i64 a2, .int .i64 0, .int .i64 2] rfl wv1 ?_; (with_reducible refine (spec_l00In.calls a2 0 2 true _ A19.out).mono ?_); rintro e w' ⟨rfl, ⟨nd, rfl⟩⟩; refine ⟨_, rfl, ?_⟩))
      go_meet
      case rel => exact ⟨_, (decide ((wrap64 (a1_2 - a1_4)) < a0)), wv6, H', ⟨wv33⟩, ⟨(xvb BK1.out)⟩, ⟨wv2⟩⟩
     ·rw [if_neg c24] at H
      have c24b0 : decide (0 < (wrap64 (a1_2 - a1_4))) = false := decide_eq_false c24
      clear c24
      have H' := Aside0.mk H
      clear H
      go_wp2_with (first | ((with_reducible refine gate_callee (f := 149) rfl ?_); refine goesL_ (some 64) rfl rfl Try.func149 (by kernel_rfl) rfl #[.int .i64 a2, .int .i64 0, .int .i64 2] rfl wv1 ?_; (with_reducible refine (spec_l00In.calls a2 0 2 true _ A19.out).mono ?_); rintro e w' ⟨rfl, ⟨nd, rfl⟩⟩; refine ⟨_, rfl, ?_⟩))
      go_meet
      case rel => exact ⟨_, (false), wv6, H', ⟨wv33⟩, ⟨(xvb BK1.out)⟩, ⟨wv2⟩⟩
   ·replace c20 := Bool.eq_false_iff.mpr c20
    subst c20
    have H1 : (spec_l09Can.j0 k a0 a2 true a1_0 a1_1 a1_2 a1_3 a1_4 a1_5) = some r := by rw [if_neg (show ¬ (false = true) by decide)] at H; exact H
    clear H
    have H := H1
    clear H1
    have H' := Aside0.mk H
    clear H
    go_wp2_with (first | ((with_reducible refine gate_callee (f := 149) rfl ?_); refine goesL_ (some 64) rfl rfl Try.func149 (by kernel_rfl) rfl #[.int .i64 a2, .int .i64 0, .int .i64 2] rfl wv1 ?_; (with_reducible refine (spec_l00In.calls a2 0 2 false _ A19.out).mono ?_); rintro e w' ⟨rfl, ⟨nd, rfl⟩⟩; refine ⟨_, rfl, ?_⟩))
    go_meet
    case rel => exact ⟨_, (true), wv6, H', ⟨wv33⟩, ⟨(xvb BK1.out)⟩, ⟨wv2⟩⟩
  case rest =>
   clear HC15
   try clear c1
   try clear c2
   try clear p2
   try clear c4
   try clear c4b0
   try clear c4b1
   try clear c5
   try clear c5b0
   try clear c5b1
   try clear p6
   try clear c8
   try clear c14
   try clear c15
   try clear c20
   try clear c21
   try clear c21b0
   try clear c22
   try clear c22b0
   try clear c23
   try clear c23b0
   try clear c24
   try clear c24b0
   try clear hcz13_0
   try clear hcz13_1
   try clear hcz13_2
   try clear hcz13_3
   try clear hcz13_4
   try clear hcz13_5
   try clear hcz16_0
   try clear hcz16_1
   try clear hcz16_2
   try clear hcz16_3
   try clear hcz16_4
   try clear hcz16_5
   try clear hfz13_0
   try clear hfz13_1
   try clear hfz13_2
   try clear hfz13_3
   try clear hfz13_4
   try clear hfz13_5
   try clear hfz16_0
   try clear hfz16_1
   try clear hfz16_2
   try clear hfz16_3
   try clear hfz16_4
   try clear hfz16_5
   obtain ⟨kq, x83_14, rfl, HA, HJ14, BK1, HB⟩ := hcut
   cases kq with
   | zero => exact absurd HA.out (by simp [spec_l09Can.j0])
   | succ kj14 =>
    have H := HA.out
    clear HA
    simp only [spec_l09Can.j0] at H
    by_cases c25 : x83_14 = true
    ·subst c25
     have H1 : (some false) = some r := by rw [if_pos rfl] at H; exact H
     clear H
     have H := H1
     clear H1
     obtain rfl := Option.some.inj H
     go_wp2
     go_ret
     exact ⟨wv3, wv2⟩
    ·replace c25 := Bool.eq_false_iff.mpr c25
     subst c25
     have H1 : (if a2 = 2 then (if a1_5 ≥ a0 then ((spec_l09Apart.f a1_2 a1_3 a1_5).bind fun t125 => (if t125 = true then ((spec_l09Apart.f a1_2 a1_4 a1_5).bind fun t126 => (some t126)) else (some false))) else (some false)) else (some true)) = some r := by rw [if_neg (show ¬ (false = true) by decide)] at H; exact H
     clear H
     have H := H1
     clear H1
     by_cases c26 : a2 = 2
     ·rw [if_pos c26] at H
      have c26b0 : (a2 == 2) = true := beq_iff_eq.mpr c26
      have c26b1 : (a2 != 2) = false := bne_eq_false_iff_eq.mpr c26
      clear c26
      by_cases c27 : a1_5 ≥ a0
      ·rw [if_pos c27] at H
       have c27b0 : decide (a0 ≤ a1_5) = true := decide_eq_true c27
       clear c27
       replace H := Option.bind_eq_some_iff.mp H
       obtain ⟨t125, A280, H⟩ := H
       replace H : (if t125 = true then ((spec_l09Apart.f a1_2 a1_4 a1_5).bind fun t126 => (some t126)) else (some false)) = some r := H
       have A28 := Aside0.mk A280
       clear A280
       by_cases c29 : t125 = true
       ·subst c29
        have H1 : ((spec_l09Apart.f a1_2 a1_4 a1_5).bind fun t126 => (some t126)) = some r := by rw [if_pos rfl] at H; exact H
        clear H
        have H := H1
        clear H1
        replace H := Option.bind_eq_some_iff.mp H
        obtain ⟨t126, A300, H⟩ := H
        replace H : (some t126) = some r := H
        have A30 := Aside0.mk A300
        clear A300
        obtain rfl := Option.some.inj H
        try go_wp2
        have n0_ := Aside0.mk (blk_drew BK1.out)
        have n1_ := Aside0.mk (below_drew1 HB.out)
        clear BK1
        clear HB
        have BK1 := n0_
        have HB := n1_
        clear n0_ n1_
        refine start_ (n := 37) (S := fun w' => w'.cell? ⟨B1, 0, none⟩ = some (.int .i64 a1_0) ∧ w'.cell? ⟨B1, 1, none⟩ = some (.int .i64 a1_1) ∧ w'.cell? ⟨B1, 2, none⟩ = some (.int .i64 a1_2) ∧ w'.cell? ⟨B1, 3, none⟩ = some (.int .i64 a1_3) ∧ w'.cell? ⟨B1, 4, none⟩ = some (.int .i64 a1_4) ∧ w'.cell? ⟨B1, 5, none⟩ = some (.int .i64 a1_5)) (ds := []) (zv_.bm 37 0) (by kernel_rfl) rfl rfl ⟨xvc BK1.out, xvc BK1.out, xvc BK1.out, xvc BK1.out, xvc BK1.out, xvc BK1.out⟩ (fun hHeld => ?_); refine with_tabW spec_l09Can.tab8 spec_l09Can.bits8 (fun HT_ HW_ => ?_)
        generalize wc.drew = w31 at BK1 HB hHeld ⊢
        refine zv_.pa (i := 0) (N := some 86) (zv_.bm 37 1) HT_.out ?_
        refine zv_.pa (i := 1) (N := some 87) (zv_.bm 37 3) HT_.out ?_
        refine zv_.pa (i := 2) (N := some 88) (zv_.bm 37 7) HT_.out ?_
        refine zv_.pa (i := 4) (N := some 90) (zv_.bm 37 23) HT_.out ?_
        refine zv_.ta (i := 3) (N := some 89) (zv_.bm 37 31) rfl (take_ofW HT_.out HW_.out (by kernel_rfl)) (Or.inl ⟨(by rfl), wv13⟩) hHeld ?_
        refine zv_.pa (i := 5) (N := some 91) (zv_.bm 37 63) HT_.out ?_
        refine zv_.pa (i := 6) (N := some 92) (zv_.bm 37 127) HT_.out ?_
        refine zv_.pa (i := 7) (N := some 93) (zv_.bm 37 255) HT_.out ?_
        refine zv_.pa (i := 8) (N := some 94) (zv_.bm 37 511) HT_.out ?_
        refine zv_.pa (i := 9) (N := some 95) (zv_.bm 37 1023) HT_.out ?_
        refine zv_.pa (i := 11) (N := some 97) (zv_.bm 37 3071) HT_.out ?_
        refine zv_.pa (i := 12) (N := some 98) (zv_.bm 37 7167) HT_.out ?_
        refine zv_.pa (i := 13) (N := some 99) (zv_.bm 37 15359) HT_.out ?_
        refine zv_.pa (i := 15) (N := some 101) (zv_.bm 37 48127) HT_.out ?_
        refine zv_.pa (i := 16) (N := some 102) (zv_.bm 37 113663) HT_.out ?_
        refine zv_.pa (i := 17) (N := some 103) (zv_.bm 37 244735) HT_.out ?_
        refine zv_.ta (i := 10) (N := some 96) (zv_.bm 37 245759) rfl (take_ofW HT_.out HW_.out (by kernel_rfl)) (Or.inl ⟨(by rfl), wv13⟩) hHeld ?_
        refine zv_.ta (i := 14) (N := some 100) (zv_.bm 37 262143) rfl (take_ofW HT_.out HW_.out (by kernel_rfl)) (Or.inl ⟨(by rfl), wv13⟩) hHeld ?_
        refine zv_.ta (i := 18) (N := some 104) (zv_.bm 37 524287) rfl (take_ofW HT_.out HW_.out (by kernel_rfl)) (Or.inl ⟨(by rfl), wv13⟩) hHeld ?_
        refine one_ (i := 19) (N := some 105) (zv_.bm 37 1048575) rfl rfl (one_of HT_.out (by kernel_rfl)) (by decide) (fun K hK => ?_)
        refine goes_ Try.func153 (by kernel_rfl) rfl #[.int .i64 a1_2, .int .i64 a1_3, .int .i64 a1_5] (by rfl) rfl rfl wv1 ?_
        with_reducible refine (spec_l09Apart.calls a1_2 a1_3 a1_5 true _ A28.out).mono ?_
        rintro e w' ⟨rfl, ⟨nd, rfl⟩⟩
        refine ⟨_, rfl, ?_⟩
        refine hK.out _ _ ⟨xvc BK1.out, xvc BK1.out, xvc BK1.out, xvc BK1.out, xvc BK1.out, xvc BK1.out⟩ (fun hHeld => ?_)
        clear hK K
        refine norm_ (a' := ?_) ?_ ?_
        rotate_left
        ·show Act.put _ (some 105) _ = _
         simp only [Act.put, List.setIfInBounds_toArray, List.set_cons_zero, List.set_cons_succ, i64_w, i32_w]
         rfl
        refine zv_.pa (i := 20) (N := some 106) (zv_.bm 37 2097151) HT_.out ?_
        refine zv_.pa (i := 21) (N := some 107) (zv_.bm 37 4194303) HT_.out ?_
        refine zv_.pa (i := 22) (N := some 108) (zv_.bm 37 8388607) HT_.out ?_
        refine zv_.pa (i := 23) (N := some 109) (zv_.bm 37 16777215) HT_.out ?_
        refine zv_.pa (i := 24) (N := some 110) (zv_.bm 37 33554431) HT_.out ?_
        refine zv_.pa (i := 26) (N := some 112) (zv_.bm 37 100663295) HT_.out ?_
        refine zv_.pa (i := 27) (N := some 113) (zv_.bm 37 234881023) HT_.out ?_
        refine zv_.pa (i := 28) (N := some 114) (zv_.bm 37 503316479) HT_.out ?_
        refine zv_.pa (i := 30) (N := some 116) (zv_.bm 37 1577058303) HT_.out ?_
        refine zv_.pa (i := 31) (N := some 117) (zv_.bm 37 3724541951) HT_.out ?_
        refine zv_.pa (i := 32) (N := some 118) (zv_.bm 37 8019509247) HT_.out ?_
        refine zv_.ta (i := 25) (N := some 111) (zv_.bm 37 8053063679) rfl (take_ofW HT_.out HW_.out (by kernel_rfl)) (Or.inl ⟨(by rfl), wv13⟩) hHeld ?_
        refine zv_.ta (i := 29) (N := some 115) (zv_.bm 37 8589934591) rfl (take_ofW HT_.out HW_.out (by kernel_rfl)) (Or.inl ⟨(by rfl), wv13⟩) hHeld ?_
        refine zv_.ta (i := 33) (N := some 119) (zv_.bm 37 17179869183) rfl (take_ofW HT_.out HW_.out (by kernel_rfl)) (Or.inl ⟨(by rfl), wv13⟩) hHeld ?_
        refine one_ (i := 34) (N := some 120) (zv_.bm 37 34359738367) rfl rfl (one_of HT_.out (by kernel_rfl)) (by decide) (fun K hK => ?_)
        refine goes_ Try.func153 (by kernel_rfl) rfl #[.int .i64 a1_2, .int .i64 a1_4, .int .i64 a1_5] (by rfl) rfl rfl wv1 ?_
        with_reducible refine (spec_l09Apart.calls a1_2 a1_4 a1_5 t126 _ A30.out).mono ?_
        rintro e w' ⟨rfl, ⟨nd, rfl⟩⟩
        refine ⟨_, rfl, ?_⟩
        refine hK.out _ _ ⟨xvc BK1.out, xvc BK1.out, xvc BK1.out, xvc BK1.out, xvc BK1.out, xvc BK1.out⟩ (fun hHeld => ?_)
        clear hK K
        refine norm_ (a' := ?_) ?_ ?_
        rotate_left
        ·show Act.put _ (some 120) _ = _
         simp only [Act.put, List.setIfInBounds_toArray, List.set_cons_zero, List.set_cons_succ, i64_w, i32_w]
         rfl
        refine zv_.pa (i := 35) (N := some 121) (zv_.bm 37 68719476735) HT_.out ?_
        refine zv_.pa (i := 36) (N := some 6) (zv_.bm 37 137438953471) HT_.out ?_
        refine done_ (done_of HT_.out (by kernel_rfl)) ?_
        try go_wp2
        go_ret
        exact ⟨wv3, wv2⟩
       ·replace c29 := Bool.eq_false_iff.mpr c29
        subst c29
        have H1 : (some false) = some r := by rw [if_neg (show ¬ (false = true) by decide)] at H; exact H
        clear H
        have H := H1
        clear H1
        obtain rfl := Option.some.inj H
        try go_wp2
        have n0_ := Aside0.mk (blk_drew BK1.out)
        have n1_ := Aside0.mk (below_drew1 HB.out)
        clear BK1
        clear HB
        have BK1 := n0_
        have HB := n1_
        clear n0_ n1_
        refine start_ (n := 37) (S := fun w' => w'.cell? ⟨B1, 0, none⟩ = some (.int .i64 a1_0) ∧ w'.cell? ⟨B1, 1, none⟩ = some (.int .i64 a1_1) ∧ w'.cell? ⟨B1, 2, none⟩ = some (.int .i64 a1_2) ∧ w'.cell? ⟨B1, 3, none⟩ = some (.int .i64 a1_3) ∧ w'.cell? ⟨B1, 4, none⟩ = some (.int .i64 a1_4) ∧ w'.cell? ⟨B1, 5, none⟩ = some (.int .i64 a1_5)) (ds := []) (zv_.bm 37 0) (by kernel_rfl) rfl rfl ⟨xvc BK1.out, xvc BK1.out, xvc BK1.out, xvc BK1.out, xvc BK1.out, xvc BK1.out⟩ (fun hHeld => ?_); refine with_tabW spec_l09Can.tab8 spec_l09Can.bits8 (fun HT_ HW_ => ?_)
        generalize wc.drew = w32 at BK1 HB hHeld ⊢
        refine zv_.pa (i := 0) (N := some 86) (zv_.bm 37 1) HT_.out ?_
        refine zv_.pa (i := 1) (N := some 87) (zv_.bm 37 3) HT_.out ?_
        refine zv_.pa (i := 2) (N := some 88) (zv_.bm 37 7) HT_.out ?_
        refine zv_.pa (i := 4) (N := some 90) (zv_.bm 37 23) HT_.out ?_
        refine zv_.ta (i := 3) (N := some 89) (zv_.bm 37 31) rfl (take_ofW HT_.out HW_.out (by kernel_rfl)) (Or.inl ⟨(by rfl), wv13⟩) hHeld ?_
        refine zv_.pa (i := 5) (N := some 91) (zv_.bm 37 63) HT_.out ?_
        refine zv_.pa (i := 6) (N := some 92) (zv_.bm 37 127) HT_.out ?_
        refine zv_.pa (i := 7) (N := some 93) (zv_.bm 37 255) HT_.out ?_
        refine zv_.pa (i := 8) (N := some 94) (zv_.bm 37 511) HT_.out ?_
        refine zv_.pa (i := 9) (N := some 95) (zv_.bm 37 1023) HT_.out ?_
        refine zv_.pa (i := 11) (N := some 97) (zv_.bm 37 3071) HT_.out ?_
        refine zv_.pa (i := 12) (N := some 98) (zv_.bm 37 7167) HT_.out ?_
        refine zv_.pa (i := 13) (N := some 99) (zv_.bm 37 15359) HT_.out ?_
        refine zv_.pa (i := 15) (N := some 101) (zv_.bm 37 48127) HT_.out ?_
        refine zv_.pa (i := 16) (N := some 102) (zv_.bm 37 113663) HT_.out ?_
        refine zv_.pa (i := 17) (N := some 103) (zv_.bm 37 244735) HT_.out ?_
        refine zv_.ta (i := 10) (N := some 96) (zv_.bm 37 245759) rfl (take_ofW HT_.out HW_.out (by kernel_rfl)) (Or.inl ⟨(by rfl), wv13⟩) hHeld ?_
        refine zv_.ta (i := 14) (N := some 100) (zv_.bm 37 262143) rfl (take_ofW HT_.out HW_.out (by kernel_rfl)) (Or.inl ⟨(by rfl), wv13⟩) hHeld ?_
        refine zv_.ta (i := 18) (N := some 104) (zv_.bm 37 524287) rfl (take_ofW HT_.out HW_.out (by kernel_rfl)) (Or.inl ⟨(by rfl), wv13⟩) hHeld ?_
        refine one_ (i := 19) (N := some 105) (zv_.bm 37 1048575) rfl rfl (one_of HT_.out (by kernel_rfl)) (by decide) (fun K hK => ?_)
        refine goes_ Try.func153 (by kernel_rfl) rfl #[.int .i64 a1_2, .int .i64 a1_3, .int .i64 a1_5] (by rfl) rfl rfl wv1 ?_
        with_reducible refine (spec_l09Apart.calls a1_2 a1_3 a1_5 false _ A28.out).mono ?_
        rintro e w' ⟨rfl, ⟨nd, rfl⟩⟩
        refine ⟨_, rfl, ?_⟩
        refine hK.out _ _ ⟨xvc BK1.out, xvc BK1.out, xvc BK1.out, xvc BK1.out, xvc BK1.out, xvc BK1.out⟩ (fun hHeld => ?_)
        clear hK K
        refine norm_ (a' := ?_) ?_ ?_
        rotate_left
        ·show Act.put _ (some 105) _ = _
         simp only [Act.put, List.setIfInBounds_toArray, List.set_cons_zero, List.set_cons_succ, i64_w, i32_w]
         rfl
        refine zv_.pa (i := 20) (N := some 106) (zv_.bm 37 2097151) HT_.out ?_
        refine zv_.pa (i := 21) (N := some 107) (zv_.bm 37 4194303) HT_.out ?_
        refine pure_ (i := 22) (N := some 108) (v := undef) (a' := ?_) (zv_.bm 37 8388607) rfl rfl (any_of HT_.out (by kernel_rfl)) (fun _ _ _ h => h) (Or.inr ⟨(by rfl), rfl⟩) ?_ ?_
        rotate_left
        ·simp only [Act.put, List.setIfInBounds_toArray, List.set_cons_zero, List.set_cons_succ, i64_w, i32_w]
         rfl
        refine pure_ (i := 23) (N := some 109) (v := undef) (a' := ?_) (zv_.bm 37 16777215) rfl rfl (any_of HT_.out (by kernel_rfl)) (fun _ _ _ h => h) (Or.inr ⟨(by rfl), rfl⟩) ?_ ?_
        rotate_left
        ·simp only [Act.put, List.setIfInBounds_toArray, List.set_cons_zero, List.set_cons_succ, i64_w, i32_w]
         rfl
        refine pure_ (i := 24) (N := some 110) (v := undef) (a' := ?_) (zv_.bm 37 33554431) rfl rfl (any_of HT_.out (by kernel_rfl)) (fun _ _ _ h => h) (Or.inr ⟨(by rfl), rfl⟩) ?_ ?_
        rotate_left
        ·simp only [Act.put, List.setIfInBounds_toArray, List.set_cons_zero, List.set_cons_succ, i64_w, i32_w]
         rfl
        refine pure_ (i := 25) (N := some 111) (v := undef) (a' := ?_) (zv_.bm 37 67108863) rfl rfl (any_of HT_.out (by kernel_rfl)) (fun _ _ _ h => h) (Or.inr ⟨(by rfl), rfl⟩) ?_ ?_
        rotate_left
        ·simp only [Act.put, List.setIfInBounds_toArray, List.set_cons_zero, List.set_cons_succ, i64_w, i32_w]
         rfl
        refine pure_ (i := 26) (N := some 112) (v := undef) (a' := ?_) (zv_.bm 37 134217727) rfl rfl (any_of HT_.out (by kernel_rfl)) (fun _ _ _ h => h) (Or.inr ⟨(by rfl), rfl⟩) ?_ ?_
        rotate_left
        ·simp only [Act.put, List.setIfInBounds_toArray, List.set_cons_zero, List.set_cons_succ, i64_w, i32_w]
         rfl
        refine pure_ (i := 27) (N := some 113) (v := undef) (a' := ?_) (zv_.bm 37 268435455) rfl rfl (any_of HT_.out (by kernel_rfl)) (fun _ _ _ h => h) (Or.inr ⟨(by rfl), rfl⟩) ?_ ?_
        rotate_left
        ·simp only [Act.put, List.setIfInBounds_toArray, List.set_cons_zero, List.set_cons_succ, i64_w, i32_w]
         rfl
        refine pure_ (i := 28) (N := some 114) (v := undef) (a' := ?_) (zv_.bm 37 536870911) rfl rfl (any_of HT_.out (by kernel_rfl)) (fun _ _ _ h => h) (Or.inr ⟨(by rfl), rfl⟩) ?_ ?_
        rotate_left
        ·simp only [Act.put, List.setIfInBounds_toArray, List.set_cons_zero, List.set_cons_succ, i64_w, i32_w]
         rfl
        refine pure_ (i := 29) (N := some 115) (v := undef) (a' := ?_) (zv_.bm 37 1073741823) rfl rfl (any_of HT_.out (by kernel_rfl)) (fun _ _ _ h => h) (Or.inr ⟨(by rfl), rfl⟩) ?_ ?_
        rotate_left
        ·simp only [Act.put, List.setIfInBounds_toArray, List.set_cons_zero, List.set_cons_succ, i64_w, i32_w]
         rfl
        refine pure_ (i := 30) (N := some 116) (v := undef) (a' := ?_) (zv_.bm 37 2147483647) rfl rfl (any_of HT_.out (by kernel_rfl)) (fun _ _ _ h => h) (Or.inr ⟨(by rfl), rfl⟩) ?_ ?_
        rotate_left
        ·simp only [Act.put, List.setIfInBounds_toArray, List.set_cons_zero, List.set_cons_succ, i64_w, i32_w]
         rfl
        refine pure_ (i := 31) (N := some 117) (v := undef) (a' := ?_) (zv_.bm 37 4294967295) rfl rfl (any_of HT_.out (by kernel_rfl)) (fun _ _ _ h => h) (Or.inr ⟨(by rfl), rfl⟩) ?_ ?_
        rotate_left
        ·simp only [Act.put, List.setIfInBounds_toArray, List.set_cons_zero, List.set_cons_succ, i64_w, i32_w]
         rfl
        refine pure_ (i := 32) (N := some 118) (v := undef) (a' := ?_) (zv_.bm 37 8589934591) rfl rfl (any_of HT_.out (by kernel_rfl)) (fun _ _ _ h => h) (Or.inr ⟨(by rfl), rfl⟩) ?_ ?_
        rotate_left
        ·simp only [Act.put, List.setIfInBounds_toArray, List.set_cons_zero, List.set_cons_succ, i64_w, i32_w]
         rfl
        refine pure_ (i := 33) (N := some 119) (v := undef) (a' := ?_) (zv_.bm 37 17179869183) rfl rfl (any_of HT_.out (by kernel_rfl)) (fun _ _ _ h => h) (Or.inr ⟨(by rfl), rfl⟩) ?_ ?_
        rotate_left
        ·simp only [Act.put, List.setIfInBounds_toArray, List.set_cons_zero, List.set_cons_succ, i64_w, i32_w]
         rfl
        refine pure_ (i := 34) (N := some 120) (v := undef) (a' := ?_) (zv_.bm 37 34359738367) rfl rfl (any_of HT_.out (by kernel_rfl)) (fun _ _ _ h => h) (Or.inr ⟨(by rfl), rfl⟩) ?_ ?_
        rotate_left
        ·simp only [Act.put, List.setIfInBounds_toArray, List.set_cons_zero, List.set_cons_succ, i64_w, i32_w]
         rfl
        refine zv_.pa (i := 35) (N := some 121) (zv_.bm 37 68719476735) HT_.out ?_
        refine zv_.pa (i := 36) (N := some 6) (zv_.bm 37 137438953471) HT_.out ?_
        refine done_ (done_of HT_.out (by kernel_rfl)) ?_
        try go_wp2
        go_ret
        exact ⟨wv3, wv2⟩
      ·rw [if_neg c27] at H
       have c27b0 : decide (a0 ≤ a1_5) = false := decide_eq_false c27
       clear c27
       obtain rfl := Option.some.inj H
       try go_wp2
       have n0_ := Aside0.mk (blk_drew BK1.out)
       have n1_ := Aside0.mk (below_drew1 HB.out)
       clear BK1
       clear HB
       have BK1 := n0_
       have HB := n1_
       clear n0_ n1_
       refine start_ (n := 37) (S := fun w' => w'.cell? ⟨B1, 0, none⟩ = some (.int .i64 a1_0) ∧ w'.cell? ⟨B1, 1, none⟩ = some (.int .i64 a1_1) ∧ w'.cell? ⟨B1, 2, none⟩ = some (.int .i64 a1_2) ∧ w'.cell? ⟨B1, 3, none⟩ = some (.int .i64 a1_3) ∧ w'.cell? ⟨B1, 4, none⟩ = some (.int .i64 a1_4) ∧ w'.cell? ⟨B1, 5, none⟩ = some (.int .i64 a1_5)) (ds := []) (zv_.bm 37 0) (by kernel_rfl) rfl rfl ⟨xvc BK1.out, xvc BK1.out, xvc BK1.out, xvc BK1.out, xvc BK1.out, xvc BK1.out⟩ (fun hHeld => ?_); refine with_tabW spec_l09Can.tab8 spec_l09Can.bits8 (fun HT_ HW_ => ?_)
       generalize wc.drew = w33 at BK1 HB hHeld ⊢
       refine zv_.pa (i := 0) (N := some 86) (zv_.bm 37 1) HT_.out ?_
       refine zv_.pa (i := 1) (N := some 87) (zv_.bm 37 3) HT_.out ?_
       refine zv_.pa (i := 2) (N := some 88) (zv_.bm 37 7) HT_.out ?_
       refine zv_.pa (i := 4) (N := some 90) (zv_.bm 37 23) HT_.out ?_
       refine zv_.ta (i := 3) (N := some 89) (zv_.bm 37 31) rfl (take_ofW HT_.out HW_.out (by kernel_rfl)) (Or.inl ⟨(by rfl), wv13⟩) hHeld ?_
       refine zv_.pa (i := 5) (N := some 91) (zv_.bm 37 63) HT_.out ?_
       refine zv_.pa (i := 6) (N := some 92) (zv_.bm 37 127) HT_.out ?_
       refine pure_ (i := 7) (N := some 93) (v := undef) (a' := ?_) (zv_.bm 37 255) rfl rfl (any_of HT_.out (by kernel_rfl)) (fun _ _ _ h => h) (Or.inr ⟨(by rfl), rfl⟩) ?_ ?_
       rotate_left
       ·simp only [Act.put, List.setIfInBounds_toArray, List.set_cons_zero, List.set_cons_succ, i64_w, i32_w]
        rfl
       refine pure_ (i := 8) (N := some 94) (v := undef) (a' := ?_) (zv_.bm 37 511) rfl rfl (any_of HT_.out (by kernel_rfl)) (fun _ _ _ h => h) (Or.inr ⟨(by rfl), rfl⟩) ?_ ?_
       rotate_left
       ·simp only [Act.put, List.setIfInBounds_toArray, List.set_cons_zero, List.set_cons_succ, i64_w, i32_w]
        rfl
       refine pure_ (i := 9) (N := some 95) (v := undef) (a' := ?_) (zv_.bm 37 1023) rfl rfl (any_of HT_.out (by kernel_rfl)) (fun _ _ _ h => h) (Or.inr ⟨(by rfl), rfl⟩) ?_ ?_
       rotate_left
       ·simp only [Act.put, List.setIfInBounds_toArray, List.set_cons_zero, List.set_cons_succ, i64_w, i32_w]
        rfl
       refine pure_ (i := 10) (N := some 96) (v := undef) (a' := ?_) (zv_.bm 37 2047) rfl rfl (any_of HT_.out (by kernel_rfl)) (fun _ _ _ h => h) (Or.inr ⟨(by rfl), rfl⟩) ?_ ?_
       rotate_left
       ·simp only [Act.put, List.setIfInBounds_toArray, List.set_cons_zero, List.set_cons_succ, i64_w, i32_w]
        rfl
       refine pure_ (i := 11) (N := some 97) (v := undef) (a' := ?_) (zv_.bm 37 4095) rfl rfl (any_of HT_.out (by kernel_rfl)) (fun _ _ _ h => h) (Or.inr ⟨(by rfl), rfl⟩) ?_ ?_
       rotate_left
       ·simp only [Act.put, List.setIfInBounds_toArray, List.set_cons_zero, List.set_cons_succ, i64_w, i32_w]
        rfl
       refine pure_ (i := 12) (N := some 98) (v := undef) (a' := ?_) (zv_.bm 37 8191) rfl rfl (any_of HT_.out (by kernel_rfl)) (fun _ _ _ h => h) (Or.inr ⟨(by rfl), rfl⟩) ?_ ?_
       rotate_left
       ·simp only [Act.put, List.setIfInBounds_toArray, List.set_cons_zero, List.set_cons_succ, i64_w, i32_w]
        rfl
       refine pure_ (i := 13) (N := some 99) (v := undef) (a' := ?_) (zv_.bm 37 16383) rfl rfl (any_of HT_.out (by kernel_rfl)) (fun _ _ _ h => h) (Or.inr ⟨(by rfl), rfl⟩) ?_ ?_
       rotate_left
       ·simp only [Act.put, List.setIfInBounds_toArray, List.set_cons_zero, List.set_cons_succ, i64_w, i32_w]
        rfl
       refine pure_ (i := 14) (N := some 100) (v := undef) (a' := ?_) (zv_.bm 37 32767) rfl rfl (any_of HT_.out (by kernel_rfl)) (fun _ _ _ h => h) (Or.inr ⟨(by rfl), rfl⟩) ?_ ?_
       rotate_left
       ·simp only [Act.put, List.setIfInBounds_toArray, List.set_cons_zero, List.set_cons_succ, i64_w, i32_w]
        rfl
       refine pure_ (i := 15) (N := some 101) (v := undef) (a' := ?_) (zv_.bm 37 65535) rfl rfl (any_of HT_.out (by kernel_rfl)) (fun _ _ _ h => h) (Or.inr ⟨(by rfl), rfl⟩) ?_ ?_
       rotate_left
       ·simp only [Act.put, List.setIfInBounds_toArray, List.set_cons_zero, List.set_cons_succ, i64_w, i32_w]
        rfl
       refine pure_ (i := 16) (N := some 102) (v := undef) (a' := ?_) (zv_.bm 37 131071) rfl rfl (any_of HT_.out (by kernel_rfl)) (fun _ _ _ h => h) (Or.inr ⟨(by rfl), rfl⟩) ?_ ?_
       rotate_left
       ·simp only [Act.put, List.setIfInBounds_toArray, List.set_cons_zero, List.set_cons_succ, i64_w, i32_w]
        rfl
       refine pure_ (i := 17) (N := some 103) (v := undef) (a' := ?_) (zv_.bm 37 262143) rfl rfl (any_of HT_.out (by kernel_rfl)) (fun _ _ _ h => h) (Or.inr ⟨(by rfl), rfl⟩) ?_ ?_
       rotate_left
       ·simp only [Act.put, List.setIfInBounds_toArray, List.set_cons_zero, List.set_cons_succ, i64_w, i32_w]
        rfl
       refine pure_ (i := 18) (N := some 104) (v := undef) (a' := ?_) (zv_.bm 37 524287) rfl rfl (any_of HT_.out (by kernel_rfl)) (fun _ _ _ h => h) (Or.inr ⟨(by rfl), rfl⟩) ?_ ?_
       rotate_left
       ·simp only [Act.put, List.setIfInBounds_toArray, List.set_cons_zero, List.set_cons_succ, i64_w, i32_w]
        rfl
       refine pure_ (i := 19) (N := some 105) (v := undef) (a' := ?_) (zv_.bm 37 1048575) rfl rfl (any_of HT_.out (by kernel_rfl)) (fun _ _ _ h => h) (Or.inr ⟨(by rfl), rfl⟩) ?_ ?_
       rotate_left
       ·simp only [Act.put, List.setIfInBounds_toArray, List.set_cons_zero, List.set_cons_succ, i64_w, i32_w]
        rfl
       refine zv_.pa (i := 20) (N := some 106) (zv_.bm 37 2097151) HT_.out ?_
       refine zv_.pa (i := 21) (N := some 107) (zv_.bm 37 4194303) HT_.out ?_
       refine pure_ (i := 22) (N := some 108) (v := undef) (a' := ?_) (zv_.bm 37 8388607) rfl rfl (any_of HT_.out (by kernel_rfl)) (fun _ _ _ h => h) (Or.inr ⟨(by rfl), rfl⟩) ?_ ?_
       rotate_left
       ·simp only [Act.put, List.setIfInBounds_toArray, List.set_cons_zero, List.set_cons_succ, i64_w, i32_w]
        rfl
       refine pure_ (i := 23) (N := some 109) (v := undef) (a' := ?_) (zv_.bm 37 16777215) rfl rfl (any_of HT_.out (by kernel_rfl)) (fun _ _ _ h => h) (Or.inr ⟨(by rfl), rfl⟩) ?_ ?_
       rotate_left
       ·simp only [Act.put, List.setIfInBounds_toArray, List.set_cons_zero, List.set_cons_succ, i64_w, i32_w]
        rfl
       refine pure_ (i := 24) (N := some 110) (v := undef) (a' := ?_) (zv_.bm 37 33554431) rfl rfl (any_of HT_.out (by kernel_rfl)) (fun _ _ _ h => h) (Or.inr ⟨(by rfl), rfl⟩) ?_ ?_
       rotate_left
       ·simp only [Act.put, List.setIfInBounds_toArray, List.set_cons_zero, List.set_cons_succ, i64_w, i32_w]
        rfl
       refine pure_ (i := 25) (N := some 111) (v := undef) (a' := ?_) (zv_.bm 37 67108863) rfl rfl (any_of HT_.out (by kernel_rfl)) (fun _ _ _ h => h) (Or.inr ⟨(by rfl), rfl⟩) ?_ ?_
       rotate_left
       ·simp only [Act.put, List.setIfInBounds_toArray, List.set_cons_zero, List.set_cons_succ, i64_w, i32_w]
        rfl
       refine pure_ (i := 26) (N := some 112) (v := undef) (a' := ?_) (zv_.bm 37 134217727) rfl rfl (any_of HT_.out (by kernel_rfl)) (fun _ _ _ h => h) (Or.inr ⟨(by rfl), rfl⟩) ?_ ?_
       rotate_left
       ·simp only [Act.put, List.setIfInBounds_toArray, List.set_cons_zero, List.set_cons_succ, i64_w, i32_w]
        rfl
       refine pure_ (i := 27) (N := some 113) (v := undef) (a' := ?_) (zv_.bm 37 268435455) rfl rfl (any_of HT_.out (by kernel_rfl)) (fun _ _ _ h => h) (Or.inr ⟨(by rfl), rfl⟩) ?_ ?_
       rotate_left
       ·simp only [Act.put, List.setIfInBounds_toArray, List.set_cons_zero, List.set_cons_succ, i64_w, i32_w]
        rfl
       refine pure_ (i := 28) (N := some 114) (v := undef) (a' := ?_) (zv_.bm 37 536870911) rfl rfl (any_of HT_.out (by kernel_rfl)) (fun _ _ _ h => h) (Or.inr ⟨(by rfl), rfl⟩) ?_ ?_
       rotate_left
       ·simp only [Act.put, List.setIfInBounds_toArray, List.set_cons_zero, List.set_cons_succ, i64_w, i32_w]
        rfl
       refine pure_ (i := 29) (N := some 115) (v := undef) (a' := ?_) (zv_.bm 37 1073741823) rfl rfl (any_of HT_.out (by kernel_rfl)) (fun _ _ _ h => h) (Or.inr ⟨(by rfl), rfl⟩) ?_ ?_
       rotate_left
       ·simp only [Act.put, List.setIfInBounds_toArray, List.set_cons_zero, List.set_cons_succ, i64_w, i32_w]
        rfl
       refine pure_ (i := 30) (N := some 116) (v := undef) (a' := ?_) (zv_.bm 37 2147483647) rfl rfl (any_of HT_.out (by kernel_rfl)) (fun _ _ _ h => h) (Or.inr ⟨(by rfl), rfl⟩) ?_ ?_
       rotate_left
       ·simp only [Act.put, List.setIfInBounds_toArray, List.set_cons_zero, List.set_cons_succ, i64_w, i32_w]
        rfl
       refine pure_ (i := 31) (N := some 117) (v := undef) (a' := ?_) (zv_.bm 37 4294967295) rfl rfl (any_of HT_.out (by kernel_rfl)) (fun _ _ _ h => h) (Or.inr ⟨(by rfl), rfl⟩) ?_ ?_
       rotate_left
       ·simp only [Act.put, List.setIfInBounds_toArray, List.set_cons_zero, List.set_cons_succ, i64_w, i32_w]
        rfl
       refine pure_ (i := 32) (N := some 118) (v := undef) (a' := ?_) (zv_.bm 37 8589934591) rfl rfl (any_of HT_.out (by kernel_rfl)) (fun _ _ _ h => h) (Or.inr ⟨(by rfl), rfl⟩) ?_ ?_
       rotate_left
       ·simp only [Act.put, List.setIfInBounds_toArray, List.set_cons_zero, List.set_cons_succ, i64_w, i32_w]
        rfl
       refine pure_ (i := 33) (N := some 119) (v := undef) (a' := ?_) (zv_.bm 37 17179869183) rfl rfl (any_of HT_.out (by kernel_rfl)) (fun _ _ _ h => h) (Or.inr ⟨(by rfl), rfl⟩) ?_ ?_
       rotate_left
       ·simp only [Act.put, List.setIfInBounds_toArray, List.set_cons_zero, List.set_cons_succ, i64_w, i32_w]
        rfl
       refine pure_ (i := 34) (N := some 120) (v := undef) (a' := ?_) (zv_.bm 37 34359738367) rfl rfl (any_of HT_.out (by kernel_rfl)) (fun _ _ _ h => h) (Or.inr ⟨(by rfl), rfl⟩) ?_ ?_
       rotate_left
       ·simp only [Act.put, List.setIfInBounds_toArray, List.set_cons_zero, List.set_cons_succ, i64_w, i32_w]
        rfl
       refine zv_.pa (i := 35) (N := some 121) (zv_.bm 37 68719476735) HT_.out ?_
       refine zv_.pa (i := 36) (N := some 6) (zv_.bm 37 137438953471) HT_.out ?_
       refine done_ (done_of HT_.out (by kernel_rfl)) ?_
       try go_wp2
       go_ret
       exact ⟨wv3, wv2⟩
     ·rw [if_neg c26] at H
      have c26b0 : (a2 == 2) = false := beq_eq_false_iff_ne.mpr c26
      have c26b1 : (a2 != 2) = true := bne_iff_ne.mpr c26
      obtain rfl := Option.some.inj H
      go_wp2
      go_ret
      exact ⟨wv3, wv2⟩

end Go.Proofs.Ytpfoeologjacfaa.V
