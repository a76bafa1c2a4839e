-- Written by a program of this session (wip/tools) over the kit's print.
-- COMPACT
import Derived.Test.YtpfoeologjacfaaV0
import Derived.Test.YtpfoeologjacfaaV9
namespace Go.Proofs.Ytpfoeologjacfaa.V
open Go.RowKit Go.Proofs.YtpfoeologjacfaaW.PrintWords Go.Proofs.YtpfoeologjacfaaW.PrintLast Go.Proofs.YtpfoeologjacfaaW.PrintMore
attribute [local go_sem] max2_int min2_int max_two min_two max_three min_three max_four min_four   -- for this text's walks alone
set_option linter.unusedVariables false
set_option linter.unusedSimpArgs false

/-! ### impl_foldCode: function 132 -/
mutual
def impl_foldCode.l0 : Nat → List (S142) → Int → Int → Int → Int → Int → Int → Int → Int → Int → Int → Int → Option ((List (S142)))
 | 0, _, _, _, _, _, _, _, _, _, _, _, _ => none
 | k + 1, x5, x6, x7, x8, x295000, x295001, x296000, x296001, x296002, x296003, x296004, x296005 => if x8 < x7 then (if x8 = 0 then ((impl_loads.f 4 (-1) x296003).bind fun bt296 => (if x5.length < 1954687338268 then (impl_foldCode.l0 k (x5 ++ [(⟨bt296.1, bt296.2.1, bt296.2.2.1, bt296.2.2.2.1, bt296.2.2.2.2.1, bt296.2.2.2.2.2.1, bt296.2.2.2.2.2.2⟩ : S142)]) x6 x7 (wrap64 (x8 + x295000)) x295000 x295001 x296000 x296001 x296002 x296003 x296004 x296005) else (none))) else ((impl_loads.f 0 (-1) (wrap64 (x296003 + x8))).bind fun bt306 => ((impl_does.f x296001 4 4 0 (-1)).bind fun bt313 => ((some (([(⟨bt306.1, bt306.2.1, bt306.2.2.1, bt306.2.2.2.1, bt306.2.2.2.2.1, bt306.2.2.2.2.2.1, bt306.2.2.2.2.2.2⟩ : S142), (⟨bt313.1, bt313.2.1, bt313.2.2.1, bt313.2.2.2.1, bt313.2.2.2.2.1, bt313.2.2.2.2.2.1, bt313.2.2.2.2.2.2⟩ : S142)] : List (S142)) : List (S142))).bind fun y320 => (if x5.length + y320.length < 1954687338268 then (impl_foldCode.l0 k (x5 ++ y320) x6 x7 (wrap64 (x8 + x295000)) x295000 x295001 x296000 x296001 x296002 x296003 x296004 x296005) else (none)))))) else (if x6 > 0 then ((impl_firstLanes.f x6).bind fun t326 => (if x5.length + t326.length < 1954687338268 then ((some (x5 ++ t326 : List (S142))).bind fun y329 => (if x7 > 0 then ((impl_loads.f 0 3 (wrap64 (x296003 + x7))).bind fun bt332 => ((impl_does.f x296001 4 4 0 3).bind fun bt339 => ((some (([(⟨bt332.1, bt332.2.1, bt332.2.2.1, bt332.2.2.2.1, bt332.2.2.2.2.1, bt332.2.2.2.2.2.1, bt332.2.2.2.2.2.2⟩ : S142), (⟨bt339.1, bt339.2.1, bt339.2.2.1, bt339.2.2.2.1, bt339.2.2.2.2.1, bt339.2.2.2.2.2.1, bt339.2.2.2.2.2.2⟩ : S142)] : List (S142)) : List (S142))).bind fun y346 => (if y329.length + y346.length < 1954687338268 then (impl_foldCode.j1 k (y329 ++ y346) x7 x296000 x296001 x296002 x296003 x296004 x296005) else (none))))) else ((impl_loads.f 4 3 x296003).bind fun bt352 => (if y329.length < 1954687338268 then (impl_foldCode.j1 k (y329 ++ [(⟨bt352.1, bt352.2.1, bt352.2.2.1, bt352.2.2.2.1, bt352.2.2.2.2.1, bt352.2.2.2.2.2.1, bt352.2.2.2.2.2.2⟩ : S142)]) x7 x296000 x296001 x296002 x296003 x296004 x296005) else (none))))) else (none))) else (impl_foldCode.j1 k x5 x7 x296000 x296001 x296002 x296003 x296004 x296005))
def impl_foldCode.j1 : Nat → List (S142) → Int → Int → Int → Int → Int → Int → Int → Option ((List (S142)))
 | 0, _, _, _, _, _, _, _, _ => none
 | k + 1, x5, x7, x296000, x296001, x296002, x296003, x296004, x296005 => (impl_pick.f (decide (x7 > 0)) (-1) 3).bind fun t362 => (if x5.length < 1954687338268 then ((some (x5 ++ [(⟨10, 4, 4, 0, t362, x296001, NRow.nil⟩ : S142)] : List (S142))).bind fun y363 => ((impl_firstLanes.f 1).bind fun t366 => (if y363.length + t366.length < 1954687338268 then ((some (y363 ++ t366 : List (S142))).bind fun y369 => ((impl_loads.f 0 3 x296002).bind fun bt372 => ((impl_does.f x296001 0 0 4 3).bind fun bt379 => ((impl_stores.f 0 3 x296002).bind fun bt386 => ((some (([(⟨bt372.1, bt372.2.1, bt372.2.2.1, bt372.2.2.2.1, bt372.2.2.2.2.1, bt372.2.2.2.2.2.1, bt372.2.2.2.2.2.2⟩ : S142), (⟨bt379.1, bt379.2.1, bt379.2.2.1, bt379.2.2.2.1, bt379.2.2.2.2.1, bt379.2.2.2.2.2.1, bt379.2.2.2.2.2.2⟩ : S142), (⟨bt386.1, bt386.2.1, bt386.2.2.1, bt386.2.2.2.1, bt386.2.2.2.2.1, bt386.2.2.2.2.2.1, bt386.2.2.2.2.2.2⟩ : S142)] : List (S142)) : List (S142))).bind fun y393 => (if y369.length + y393.length < 1954687338268 then (some (y369 ++ y393)) else (none))))))) else (none)))) else (none))
end
def impl_foldCode.f (k : Nat) (a0_0 : Int) (a0_1 : Int) (a1_0 : Int) (a1_1 : Int) (a1_2 : Int) (a1_3 : Int) (a1_4 : Int) (a1_5 : Int) : Option ((List (S142))) := if a1_5 = 0 then (some ([] : List (S142))) else (if a0_0 = 0 then (none) else (impl_foldCode.l0 k ([] : List (S142)) (Int.tmod a1_5 a0_0) (wrap64 (a1_5 - (Int.tmod a1_5 a0_0))) 0 a0_0 a0_1 a1_0 a1_1 a1_2 a1_3 a1_4 a1_5))
theorem impl_foldCode.mono_l : ∀ k, (∀ y0 y1 y2 y3 y4 y5 y6 y7 y8 y9 y10 y11, LeO (impl_foldCode.l0 k y0 y1 y2 y3 y4 y5 y6 y7 y8 y9 y10 y11) (impl_foldCode.l0 (k + 1) y0 y1 y2 y3 y4 y5 y6 y7 y8 y9 y10 y11)) ∧ (∀ y0 y1 y2 y3 y4 y5 y6 y7, LeO (impl_foldCode.j1 k y0 y1 y2 y3 y4 y5 y6 y7) (impl_foldCode.j1 (k + 1) y0 y1 y2 y3 y4 y5 y6 y7))
 | 0 => ⟨fun _ _ _ _ _ _ _ _ _ _ _ _ r h => by simp [impl_foldCode.l0] at h, fun _ _ _ _ _ _ _ _ r h => by simp [impl_foldCode.j1] at h⟩
 | k + 1 => by
  obtain ⟨ih0, ih1⟩ := impl_foldCode.mono_l k
  refine ⟨?_, ?_⟩
  ·intro y0 y1 y2 y3 y4 y5 y6 y7 y8 y9 y10 y11
   unfold impl_foldCode.l0
   repeat' first
   | (with_reducible exact ih0 _ _ _ _ _ _ _ _ _ _ _ _)
   | (with_reducible exact ih1 _ _ _ _ _ _ _ _)
   | (with_reducible exact LeO.refl _)
   | (with_reducible exact LeO.none _)
   | (with_reducible refine LeO.ite ?_ ?_)
   | (with_reducible refine LeO.bind ?_ (fun _ => ?_))
   | exact ih0 _ _ _ _ _ _ _ _ _ _ _ _
   | exact ih1 _ _ _ _ _ _ _ _
   | exact LeO.none _
   | refine LeO.ite ?_ ?_
   | refine LeO.bind ?_ (fun _ => ?_)
  ·intro y0 y1 y2 y3 y4 y5 y6 y7
   unfold impl_foldCode.j1
   repeat' first
   | (with_reducible exact ih0 _ _ _ _ _ _ _ _ _ _ _ _)
   | (with_reducible exact ih1 _ _ _ _ _ _ _ _)
   | (with_reducible exact LeO.refl _)
   | (with_reducible exact LeO.none _)
   | (with_reducible refine LeO.ite ?_ ?_)
   | (with_reducible refine LeO.bind ?_ (fun _ => ?_))
   | exact ih0 _ _ _ _ _ _ _ _ _ _ _ _
   | exact ih1 _ _ _ _ _ _ _ _
   | exact LeO.none _
   | refine LeO.ite ?_ ?_
   | refine LeO.bind ?_ (fun _ => ?_)
theorem impl_foldCode.mono : ∀ a0 a1 a2 a3 a4 a5 a6 a7 k, LeO (impl_foldCode.f k a0 a1 a2 a3 a4 a5 a6 a7) (impl_foldCode.f (k + 1) a0 a1 a2 a3 a4 a5 a6 a7) := by
 intro a0 a1 a2 a3 a4 a5 a6 a7 k
 obtain ⟨ih0, ih1⟩ := impl_foldCode.mono_l k
 unfold impl_foldCode.f
 repeat' first
   | (with_reducible exact ih0 _ _ _ _ _ _ _ _ _ _ _ _)
   | (with_reducible exact ih1 _ _ _ _ _ _ _ _)
   | (with_reducible exact LeO.refl _)
   | (with_reducible exact LeO.none _)
   | (with_reducible refine LeO.ite ?_ ?_)
   | (with_reducible refine LeO.bind ?_ (fun _ => ?_))
   | exact ih0 _ _ _ _ _ _ _ _ _ _ _ _
   | exact ih1 _ _ _ _ _ _ _ _
   | exact LeO.none _
   | refine LeO.ite ?_ ?_
   | refine LeO.bind ?_ (fun _ => ?_)
def impl_foldCode.T11 : Bool × List (List Nat × List Nat) := (true, [([], []), ([], []), ([1], [1]), ([], []), ([2, 3], [2, 3]), ([4], [4]), ([], []), ([6], [6]), ([7, 5], [7]), ([5, 8], [5, 8]), ([0, 9, 8], [0, 9]), ([10, 10, 0, 1, 2, 3, 4, 5, 6, 7, 8, 9, 10], [0, 10])])
def impl_foldCode.B11 : List Nat := [0, 0, 2, 0, 14, 30, 0, 64, 254, 510, 1023, 2047]
theorem impl_foldCode.tab11 : rtab .any (opsOf Try.f132 11) = impl_foldCode.T11 := by kernel_rfl
theorem impl_foldCode.bits11 : waitsOk impl_foldCode.T11.2 impl_foldCode.B11 = true := by kernel_rfl
def impl_foldCode.T15 : Bool × List (List Nat × List Nat) := (true, [([], []), ([], []), ([1], [1]), ([], []), ([2, 3], [2, 3]), ([4], [4]), ([], []), ([6], [6]), ([7, 5], [7]), ([5, 8], [5, 8]), ([0, 9, 8], [0, 9]), ([10, 10, 0, 1, 2, 3, 4, 5, 6, 7, 8, 9, 10], [0, 10])])
def impl_foldCode.B15 : List Nat := [0, 0, 2, 0, 14, 30, 0, 64, 254, 510, 1023, 2047]
theorem impl_foldCode.tab15 : rtab .any (opsOf Try.f132 15) = impl_foldCode.T15 := by kernel_rfl
theorem impl_foldCode.bits15 : waitsOk impl_foldCode.T15.2 impl_foldCode.B15 = true := by kernel_rfl
def impl_foldCode.T17 : Bool × List (List Nat × List Nat) := (true, [([], []), ([], []), ([1], [1]), ([2], [2]), ([], []), ([4], [4]), ([3, 5], [3, 5]), ([6], [6]), ([0, 7, 3], [0, 7]), ([8, 8, 0, 1, 2, 3, 4, 5, 6, 7, 8], [0, 8])])
def impl_foldCode.B17 : List Nat := [0, 0, 2, 6, 0, 16, 62, 126, 255, 511]
theorem impl_foldCode.tab17 : rtab .any (opsOf Try.f132 17) = impl_foldCode.T17 := by kernel_rfl
theorem impl_foldCode.bits17 : waitsOk impl_foldCode.T17.2 impl_foldCode.B17 = true := by kernel_rfl
def impl_foldCode.T19 : Bool × List (List Nat × List Nat) := (true, [([], []), ([], []), ([1], [1]), ([2], [2]), ([], []), ([4], [4]), ([5, 3], [5]), ([], []), ([7], [7]), ([8, 6], [8]), ([3, 6, 9], [3, 6, 9]), ([0, 10, 9], [0, 10]), ([11, 11, 0, 1, 2, 3, 4, 5, 6, 7, 8, 9, 10, 11], [11])])
def impl_foldCode.B19 : List Nat := [0, 0, 2, 6, 0, 16, 62, 0, 128, 510, 1022, 2047, 4095]
theorem impl_foldCode.tab19 : rtab .any (opsOf Try.f132 19) = impl_foldCode.T19 := by kernel_rfl
theorem impl_foldCode.bits19 : waitsOk impl_foldCode.T19.2 impl_foldCode.B19 = true := by kernel_rfl
set_option maxHeartbeats 8000000 in
set_option maxRecDepth 100000 in
theorem impl_foldCode.calls (k : Nat) (a0_0 : Int) (a0_1 : Int) (a1_0 : Int) (a1_1 : Int) (a1_2 : Int) (a1_3 : Int) (a1_4 : Int) (a1_5 : Int) (r : List (S142)) (w : World) (h : impl_foldCode.f k a0_0 a0_1 a1_0 a1_1 a1_2 a1_3 a1_4 a1_5 = some r) :
  Calls Try.prog 132 #[.agg #[.int .i64 a0_0, .int .i64 a0_1], .agg #[.int .i64 a1_0, .int .i64 a1_1, .int .i64 a1_2, .int .i64 a1_3, .int .i64 a1_4, .int .i64 a1_5]] w fun e w' => ∃ v0_ : Value, e = .returned (v0_) ∧ Kd.R k142 142 w' w.heap.size (fun _ => True) v0_ r ∧ Below w.heap.size w w' := by
 have hu31 := Try.underlying31
 have hu25 := Try.underlying25
 have hu142 := Try.underlying142
 have HB := Aside0.mk (Below.refl w.heap.size w)
 have H : (if a1_5 = 0 then (some ([] : List (S142))) else (if a0_0 = 0 then (none) else (impl_foldCode.l0 k ([] : List (S142)) (Int.tmod a1_5 a0_0) (wrap64 (a1_5 - (Int.tmod a1_5 a0_0))) 0 a0_0 a0_1 a1_0 a1_1 a1_2 a1_3 a1_4 a1_5))) = some r := h
 clear h
 by_cases c3 : a1_5 = 0
 ·rw [if_pos c3] at H
  have c3b0 : (a1_5 == 0) = true := beq_iff_eq.mpr c3
  have c3b1 : (a1_5 != 0) = false := bne_eq_false_iff_eq.mpr c3
  clear c3
  obtain rfl := Option.some.inj H
  go_enter Try.func132, Try.ntmps132
  go_wp2_with (first | ((with_reducible refine gate_dst (N := 2) rfl ?_); refine box_event ?hg (N := 2) ?hd (cs := #[.int .i64 a0_0, .int .i64 a0_1]) (t := 31) ?hr ?_; (case hd => rfl); (case hg => rfl); (case hr => first | (go_simp; done) | (go_simp; rfl)); intro gb294 hg w4 hbox hb; have n0_ := Aside0.mk (below_step (xvo HB.out) hb); have n1_ := Aside0.mk (hbox); have n2_ := Aside0.mk ((by rw [hg]; exact (below_size (xvo HB.out)) : w.heap.size ≤ gb294)); have n3_ := Aside0.mk ((by rw [hg]; exact (below_size (xvo HB.out)) : w.heap.size ≤ gb294)); clear HB; have HB := n0_; have BK294 := n1_; have GW294 := n2_; have GE294 := n3_; clear n0_ n1_ n2_ n3_; clear hb hbox hg) | ((with_reducible refine gate_dst (N := 3) rfl ?_); refine box_event ?hg (N := 3) ?hd (cs := #[.int .i64 a1_0, .int .i64 a1_1, .int .i64 a1_2, .int .i64 a1_3, .int .i64 a1_4, .int .i64 a1_5]) (t := 25) ?hr ?_; (case hd => rfl); (case hg => rfl); (case hr => first | (go_simp; done) | (go_simp; rfl)); intro gb295 hg w5 hbox hb; have n0_ := Aside0.mk (xvl BK294.out hb); have n1_ := Aside0.mk (below_step wv36 hb); have n2_ := Aside0.mk (hbox); have n3_ := Aside0.mk ((by rw [hg]; exact (below_size wv36) : w.heap.size ≤ gb295)); have n4_ := Aside0.mk ((by rw [hg]; exact (below_size wv36) : w.heap.size ≤ gb295)); have n5_ := Aside0.mk ((by rw [hg]; exact Nat.ne_of_lt (blk_lt (g := gb294) (o := .cells #[.int .i64 a0_0, .int .i64 a0_1] 31 (0, 0)) (xvb BK294.out)) : gb294 ≠ gb295)); have n6_ := Aside0.mk ((by rw [hg]; exact Nat.ne_of_gt (blk_lt (g := gb294) (o := .cells #[.int .i64 a0_0, .int .i64 a0_1] 31 (0, 0)) (xvb BK294.out)) : gb295 ≠ gb294)); clear BK294; clear HB; have BK294 := n0_; have HB := n1_; have BK295 := n2_; have GW295 := n3_; have GE295 := n4_; have NB294_295 := n5_; have NB295_294 := n6_; clear n0_ n1_ n2_ n3_ n4_ n5_ n6_; clear hb hbox hg; have hnb6 := NB295_294.out; have hnc6 := NB294_295.out; have hcz7_0 : w5.cell? ⟨gb295, 0, none⟩ = some (.int .i64 a1_0) := xvc BK295.out; have hcz7_1 : w5.cell? ⟨gb295, 1, none⟩ = some (.int .i64 a1_1) := xvc BK295.out; have hcz7_2 : w5.cell? ⟨gb295, 2, none⟩ = some (.int .i64 a1_2) := xvc BK295.out; have hcz7_3 : w5.cell? ⟨gb295, 3, none⟩ = some (.int .i64 a1_3) := xvc BK295.out; have hcz7_4 : w5.cell? ⟨gb295, 4, none⟩ = some (.int .i64 a1_4) := xvc BK295.out; have hcz7_5 : w5.cell? ⟨gb295, 5, none⟩ = some (.int .i64 a1_5) := xvc BK295.out; have hfz7_0 := blk_frozen BK295.out 0; have hfz7_1 := blk_frozen BK295.out 1; have hfz7_2 := blk_frozen BK295.out 2; have hfz7_3 := blk_frozen BK295.out 3; have hfz7_4 := blk_frozen BK295.out 4; have hfz7_5 := blk_frozen BK295.out 5))
  go_ret
  exact ⟨_, wv3, wv29, wv4⟩
 ·rw [if_neg c3] at H
  have c3b0 : (a1_5 == 0) = false := beq_eq_false_iff_ne.mpr c3
  have c3b1 : (a1_5 != 0) = true := bne_iff_ne.mpr c3
  by_cases c8 : a0_0 = 0
  ·rw [if_pos c8] at H
   exact absurd H (by simp)
  ·rw [if_neg c8] at H
   have c8b0 : (a0_0 == 0) = false := beq_eq_false_iff_ne.mpr c8
   have c8b1 : (a0_0 != 0) = true := bne_iff_ne.mpr c8
   have H' := Aside0.mk H
   clear H
   go_enter Try.func132, Try.ntmps132
   go_wp2_with (first | ((with_reducible refine gate_dst (N := 2) rfl ?_); refine box_event ?hg (N := 2) ?hd (cs := #[.int .i64 a0_0, .int .i64 a0_1]) (t := 31) ?hr ?_; (case hd => rfl); (case hg => rfl); (case hr => first | (go_simp; done) | (go_simp; rfl)); intro gb294 hg w9 hbox hb; have n0_ := Aside0.mk (below_step (xvo HB.out) hb); have n1_ := Aside0.mk (hbox); have n2_ := Aside0.mk ((by rw [hg]; exact (below_size (xvo HB.out)) : w.heap.size ≤ gb294)); have n3_ := Aside0.mk ((by rw [hg]; exact (below_size (xvo HB.out)) : w.heap.size ≤ gb294)); clear HB; have HB := n0_; have BK294 := n1_; have GW294 := n2_; have GE294 := n3_; clear n0_ n1_ n2_ n3_; clear hb hbox hg) | ((with_reducible refine gate_dst (N := 3) rfl ?_); refine box_event ?hg (N := 3) ?hd (cs := #[.int .i64 a1_0, .int .i64 a1_1, .int .i64 a1_2, .int .i64 a1_3, .int .i64 a1_4, .int .i64 a1_5]) (t := 25) ?hr ?_; (case hd => rfl); (case hg => rfl); (case hr => first | (go_simp; done) | (go_simp; rfl)); intro gb295 hg w10 hbox hb; have n0_ := Aside0.mk (xvl BK294.out hb); have n1_ := Aside0.mk (below_step wv36 hb); have n2_ := Aside0.mk (hbox); have n3_ := Aside0.mk ((by rw [hg]; exact (below_size wv36) : w.heap.size ≤ gb295)); have n4_ := Aside0.mk ((by rw [hg]; exact (below_size wv36) : w.heap.size ≤ gb295)); have n5_ := Aside0.mk ((by rw [hg]; exact Nat.ne_of_lt (blk_lt (g := gb294) (o := .cells #[.int .i64 a0_0, .int .i64 a0_1] 31 (0, 0)) (xvb BK294.out)) : gb294 ≠ gb295)); have n6_ := Aside0.mk ((by rw [hg]; exact Nat.ne_of_gt (blk_lt (g := gb294) (o := .cells #[.int .i64 a0_0, .int .i64 a0_1] 31 (0, 0)) (xvb BK294.out)) : gb295 ≠ gb294)); clear BK294; clear HB; have BK294 := n0_; have HB := n1_; have BK295 := n2_; have GW295 := n3_; have GE295 := n4_; have NB294_295 := n5_; have NB295_294 := n6_; clear n0_ n1_ n2_ n3_ n4_ n5_ n6_; clear hb hbox hg; have hnb11 := NB295_294.out; have hnc11 := NB294_295.out; have hcz12_0 : w10.cell? ⟨gb295, 0, none⟩ = some (.int .i64 a1_0) := xvc BK295.out; have hcz12_1 : w10.cell? ⟨gb295, 1, none⟩ = some (.int .i64 a1_1) := xvc BK295.out; have hcz12_2 : w10.cell? ⟨gb295, 2, none⟩ = some (.int .i64 a1_2) := xvc BK295.out; have hcz12_3 : w10.cell? ⟨gb295, 3, none⟩ = some (.int .i64 a1_3) := xvc BK295.out; have hcz12_4 : w10.cell? ⟨gb295, 4, none⟩ = some (.int .i64 a1_4) := xvc BK295.out; have hcz12_5 : w10.cell? ⟨gb295, 5, none⟩ = some (.int .i64 a1_5) := xvc BK295.out; have hfz12_0 := blk_frozen BK295.out 0; have hfz12_1 := blk_frozen BK295.out 1; have hfz12_2 := blk_frozen BK295.out 2; have hfz12_3 := blk_frozen BK295.out 3; have hfz12_4 := blk_frozen BK295.out 4; have hfz12_5 := blk_frozen BK295.out 5; have hcz13_0 : w10.cell? ⟨gb294, 0, none⟩ = some (.int .i64 a0_0) := xvc BK294.out; have hcz13_1 : w10.cell? ⟨gb294, 1, none⟩ = some (.int .i64 a0_1) := xvc BK294.out; have hfz13_0 := blk_frozen BK294.out 0; have hfz13_1 := blk_frozen BK294.out 1))
   go_loopg [5, 8] k (fun kq v5 v8 w' => ∃ (x5_1 : List (S142)) (x8_1 : Int), v8 = .int .i64 x8_1 ∧ Aside0 (impl_foldCode.l0 kq x5_1 (Int.tmod a1_5 a0_0) (wrap64 (a1_5 - (Int.tmod a1_5 a0_0))) x8_1 a0_0 a0_1 a1_0 a1_1 a1_2 a1_3 a1_4 a1_5 = some r) ∧ Aside0 (kq ≤ k) ∧ Aside0 (Kd.R k142 142 w' w.heap.size (fun _ => True) v5 x5_1) ∧ Aside0 (w'.heap[gb294]? = some (.cells #[.int .i64 a0_0, .int .i64 a0_1] 31 (0, 0))) ∧ Aside0 (w'.heap[gb295]? = some (.cells #[.int .i64 a1_0, .int .i64 a1_1, .int .i64 a1_2, .int .i64 a1_3, .int .i64 a1_4, .int .i64 a1_5] 25 (0, 0))) ∧ Aside0 (Below w.heap.size w w'))
   case atStart => exact ⟨(([] : List (S142))), (0), wv6, H', ⟨Nat.le_refl _⟩, ⟨wv29⟩, ⟨(xvb BK294.out)⟩, ⟨(xvb BK295.out)⟩, ⟨wv4⟩⟩
   case round =>
    clear H'
    try clear c1
    try clear p2
    try clear c3
    try clear c3b0
    try clear c3b1
    try clear c6
    try clear p6
    try clear c8
    try clear c8b0
    try clear c8b1
    try clear c11
    try clear c13
    try clear hcz12_0
    try clear hcz12_1
    try clear hcz12_2
    try clear hcz12_3
    try clear hcz12_4
    try clear hcz12_5
    try clear hcz13_0
    try clear hcz13_1
    try clear hcz7_0
    try clear hcz7_1
    try clear hcz7_2
    try clear hcz7_3
    try clear hcz7_4
    try clear hcz7_5
    try clear hfz12_0
    try clear hfz12_1
    try clear hfz12_2
    try clear hfz12_3
    try clear hfz12_4
    try clear hfz12_5
    try clear hfz13_0
    try clear hfz13_1
    try clear hfz7_0
    try clear hfz7_1
    try clear hfz7_2
    try clear hfz7_3
    try clear hfz7_4
    try clear hfz7_5
    obtain ⟨x5_1, x8_1, rfl, HA, HK1, HO_5, BK294, BK295, HB⟩ := hrel
    cases gk with
    | zero => exact absurd HA.out (by simp [impl_foldCode.l0])
    | succ k1 =>
     have H := HA.out
     clear HA
     simp only [impl_foldCode.l0] at H
     by_cases c14 : x8_1 < (wrap64 (a1_5 - (Int.tmod a1_5 a0_0)))
     ·rw [if_pos c14] at H
      have c14b0 : decide (x8_1 < (wrap64 (a1_5 - (Int.tmod a1_5 a0_0)))) = true := decide_eq_true c14
      clear c14
      by_cases c15 : x8_1 = 0
      ·rw [if_pos c15] at H
       have c15b0 : (x8_1 == 0) = true := beq_iff_eq.mpr c15
       have c15b1 : (x8_1 != 0) = false := bne_eq_false_iff_eq.mpr c15
       clear c15
       replace H := Option.bind_eq_some_iff.mp H
       obtain ⟨⟨t296, t297, t298, t299, t300, t301, t302⟩, A160, H⟩ := H
       replace H : (if x5_1.length < 1954687338268 then (impl_foldCode.l0 k1 (x5_1 ++ [(⟨t296, t297, t298, t299, t300, t301, t302⟩ : S142)]) (Int.tmod a1_5 a0_0) (wrap64 (a1_5 - (Int.tmod a1_5 a0_0))) (wrap64 (x8_1 + a0_0)) a0_0 a0_1 a1_0 a1_1 a1_2 a1_3 a1_4 a1_5) else (none)) = some r := H
       have A16 := Aside0.mk A160
       clear A160
       by_cases c17 : x5_1.length < 1954687338268
       ·rw [if_pos c17] at H
        have LMc17 := Aside0.mk c17
        clear c17
        obtain ⟨y303, hy303⟩ : ∃ y_ : List (S142), y_ = (x5_1 ++ [(⟨t296, t297, t298, t299, t300, t301, t302⟩ : S142)]) := ⟨_, rfl⟩
        replace H : (impl_foldCode.l0 k1 y303 (Int.tmod a1_5 a0_0) (wrap64 (a1_5 - (Int.tmod a1_5 a0_0))) (wrap64 (x8_1 + a0_0)) a0_0 a0_1 a1_0 a1_1 a1_2 a1_3 a1_4 a1_5) = some r := by first | (rw [hy303]; with_reducible exact H) | (have H2_ := (Option.bind_some _ _).symm.trans H; rw [hy303]; with_reducible exact H2_) | (have H2_ := (Option.bind_some _ _).symm.trans H; with_reducible exact H2_) | with_reducible exact H | (rw [hy303]; exact H) | exact H
        have Ny303 := Aside0.mk hy303
        clear hy303
        have H' := Aside0.mk H
        clear H
        have hnb18 := NB295_294.out
        have hnc18 := NB294_295.out
        have hcz19_0 : wr.cell? ⟨gb295, 0, none⟩ = some (.int .i64 a1_0) := xvc BK295.out
        have hcz19_1 : wr.cell? ⟨gb295, 1, none⟩ = some (.int .i64 a1_1) := xvc BK295.out
        have hcz19_2 : wr.cell? ⟨gb295, 2, none⟩ = some (.int .i64 a1_2) := xvc BK295.out
        have hcz19_3 : wr.cell? ⟨gb295, 3, none⟩ = some (.int .i64 a1_3) := xvc BK295.out
        have hcz19_4 : wr.cell? ⟨gb295, 4, none⟩ = some (.int .i64 a1_4) := xvc BK295.out
        have hcz19_5 : wr.cell? ⟨gb295, 5, none⟩ = some (.int .i64 a1_5) := xvc BK295.out
        have hfz19_0 := blk_frozen BK295.out 0
        have hfz19_1 := blk_frozen BK295.out 1
        have hfz19_2 := blk_frozen BK295.out 2
        have hfz19_3 := blk_frozen BK295.out 3
        have hfz19_4 := blk_frozen BK295.out 4
        have hfz19_5 := blk_frozen BK295.out 5
        go_wp2_with (first | ((with_reducible refine gate_callee (f := 185) rfl ?_); refine goesL_ (some 33) rfl rfl Try.func185 (by kernel_rfl) rfl #[.int .i64 4, .int .i64 (-1), .int .i64 a1_3] rfl wv1 ?_; (with_reducible refine (impl_loads.calls 4 (-1) a1_3 t296 t297 t298 t299 t300 t301 t302 _ A16.out).mono ?_); rintro e w20 ⟨rfl, hb⟩; refine ⟨_, rfl, ?_⟩; have n0_ := Aside0.mk (Kd.R_below (xvr HO_5.out) hb); have n1_ := Aside0.mk (xvl BK294.out hb); have n2_ := Aside0.mk (xvl BK295.out hb); have n3_ := Aside0.mk (below_step wv4 hb); clear HO_5; clear BK294; clear BK295; clear HB; have HO_5 := n0_; have BK294 := n1_; have BK295 := n2_; have HB := n3_; clear n0_ n1_ n2_ n3_; (try clear hb); (try clear hb2); (try clear hk); (try clear hi)) | ((with_reducible refine gate_builtin (b := .append) (xs := #[.tmp 30, .tmp 34]) rfl ?_); at_builtin; refine Kd.R_append k142 (w0 := w) w.heap.size rfl (.tmp 30) (.tmp 34) 87 142 (.agg #[(.int .i64 0), (.int .i64 0), (.int .i64 0), (.int .i64 0), (.int .i64 0), (.int .i64 0), (.slice none 0 0)]) 72 rfl Try.underlying87 info142 rfl (by decide) (by omega) u5 x5_1 (⟨t296, t297, t298, t299, t300, t301, t302⟩ : S142) [.int .i64 t296, .int .i64 t297, .int .i64 t298, .int .i64 t299, .int .i64 t300, .int .i64 t301, .slice none 0 0] (fun _ => True) (fun _ => False) rfl rfl ?aP (fun _ hk => hk.elim) ?aF ?aO ?aB ?aS ?aL ?_; (case aP => exact k142_mkM _ _ _ (⟨t296, t297, t298, t299, t300, t301, t302⟩ : S142)); (case aB => exact wv4); (case aF => exact (fun _ _ => trivial)); (case aO => exact (xvr HO_5.out)); (case aS => exact (below_size wv4)); (case aL => have := LMc17.out; omega); intro v304 w21 ho hb hg hat; rw [← Ny303.out] at ho; have n0_ := Aside0.mk (blk_grown (g := gb294) (o := .cells #[.int .i64 a0_0, .int .i64 a0_1] 31 (0, 0)) (xvb BK294.out) hg (Kd.R_ne HO_5.out BK294.out (by decide))); have n1_ := Aside0.mk (blk_grown (g := gb295) (o := .cells #[.int .i64 a1_0, .int .i64 a1_1, .int .i64 a1_2, .int .i64 a1_3, .int .i64 a1_4, .int .i64 a1_5] 25 (0, 0)) (xvb BK295.out) hg (Kd.R_ne HO_5.out BK295.out (by decide))); have n2_ := Aside0.mk (hb); have n3_ := Aside0.mk (ho); clear BK294; clear BK295; clear HB; clear HO_5; have BK294 := n0_; have BK295 := n1_; have HB := n2_; have HO305 := n3_; clear n0_ n1_ n2_ n3_; clear ho hb hg hat; have hcz22_0 : w21.cell? ⟨gb294, 0, none⟩ = some (.int .i64 a0_0) := xvc BK294.out; have hcz22_1 : w21.cell? ⟨gb294, 1, none⟩ = some (.int .i64 a0_1) := xvc BK294.out; have hfz22_0 := blk_frozen BK294.out 0; have hfz22_1 := blk_frozen BK294.out 1))
        go_roundg k1
        case measure => have := HK1.out; omega
        case rel => exact ⟨(y303), (wrap64 (x8_1 + a0_0)), wv6, H', ⟨wv60⟩, ⟨(xvr HO305.out)⟩, ⟨(xvb BK294.out)⟩, ⟨(xvb BK295.out)⟩, ⟨wv4⟩⟩
       ·rw [if_neg c17] at H
        exact absurd H (by simp)
      ·rw [if_neg c15] at H
       have c15b0 : (x8_1 == 0) = false := beq_eq_false_iff_ne.mpr c15
       have c15b1 : (x8_1 != 0) = true := bne_iff_ne.mpr c15
       replace H := Option.bind_eq_some_iff.mp H
       obtain ⟨⟨t306, t307, t308, t309, t310, t311, t312⟩, A230, H⟩ := H
       replace H : ((impl_does.f a1_1 4 4 0 (-1)).bind fun bt313 => ((some (([(⟨t306, t307, t308, t309, t310, t311, t312⟩ : S142), (⟨bt313.1, bt313.2.1, bt313.2.2.1, bt313.2.2.2.1, bt313.2.2.2.2.1, bt313.2.2.2.2.2.1, bt313.2.2.2.2.2.2⟩ : S142)] : List (S142)) : List (S142))).bind fun y320 => (if x5_1.length + y320.length < 1954687338268 then (impl_foldCode.l0 k1 (x5_1 ++ y320) (Int.tmod a1_5 a0_0) (wrap64 (a1_5 - (Int.tmod a1_5 a0_0))) (wrap64 (x8_1 + a0_0)) a0_0 a0_1 a1_0 a1_1 a1_2 a1_3 a1_4 a1_5) else (none)))) = some r := H
       have A23 := Aside0.mk A230
       clear A230
       replace H := Option.bind_eq_some_iff.mp H
       obtain ⟨⟨t313, t314, t315, t316, t317, t318, t319⟩, A240, H⟩ := H
       replace H : ((some (([(⟨t306, t307, t308, t309, t310, t311, t312⟩ : S142), (⟨t313, t314, t315, t316, t317, t318, t319⟩ : S142)] : List (S142)) : List (S142))).bind fun y320 => (if x5_1.length + y320.length < 1954687338268 then (impl_foldCode.l0 k1 (x5_1 ++ y320) (Int.tmod a1_5 a0_0) (wrap64 (a1_5 - (Int.tmod a1_5 a0_0))) (wrap64 (x8_1 + a0_0)) a0_0 a0_1 a1_0 a1_1 a1_2 a1_3 a1_4 a1_5) else (none))) = some r := H
       have A24 := Aside0.mk A240
       clear A240
       obtain ⟨y320, hy320⟩ : ∃ y_ : List (S142), y_ = (([(⟨t306, t307, t308, t309, t310, t311, t312⟩ : S142), (⟨t313, t314, t315, t316, t317, t318, t319⟩ : S142)] : List (S142))) := ⟨_, rfl⟩
       replace H : (if x5_1.length + y320.length < 1954687338268 then (impl_foldCode.l0 k1 (x5_1 ++ y320) (Int.tmod a1_5 a0_0) (wrap64 (a1_5 - (Int.tmod a1_5 a0_0))) (wrap64 (x8_1 + a0_0)) a0_0 a0_1 a1_0 a1_1 a1_2 a1_3 a1_4 a1_5) else (none)) = some r := by first | (rw [hy320]; with_reducible exact H) | (have H2_ := (Option.bind_some _ _).symm.trans H; rw [hy320]; with_reducible exact H2_) | (have H2_ := (Option.bind_some _ _).symm.trans H; with_reducible exact H2_) | with_reducible exact H | (rw [hy320]; exact H) | exact H
       have Ny320 := Aside0.mk hy320
       clear hy320
       by_cases c25 : x5_1.length + y320.length < 1954687338268
       ·rw [if_pos c25] at H
        have LMc25 := Aside0.mk c25
        clear c25
        obtain ⟨y323, hy323⟩ : ∃ y_ : List (S142), y_ = (x5_1 ++ y320) := ⟨_, rfl⟩
        replace H : (impl_foldCode.l0 k1 y323 (Int.tmod a1_5 a0_0) (wrap64 (a1_5 - (Int.tmod a1_5 a0_0))) (wrap64 (x8_1 + a0_0)) a0_0 a0_1 a1_0 a1_1 a1_2 a1_3 a1_4 a1_5) = some r := by first | (rw [hy323]; with_reducible exact H) | (have H2_ := (Option.bind_some _ _).symm.trans H; rw [hy323]; with_reducible exact H2_) | (have H2_ := (Option.bind_some _ _).symm.trans H; with_reducible exact H2_) | with_reducible exact H | (rw [hy323]; exact H) | exact H
        have Ny323 := Aside0.mk hy323
        clear hy323
        have H' := Aside0.mk H
        clear H
        try go_wp2
        have n0_ := Aside0.mk (Kd.R_drew HO_5.out)
        have n1_ := Aside0.mk (blk_drew BK294.out)
        have n2_ := Aside0.mk (blk_drew BK295.out)
        have n3_ := Aside0.mk (below_drew1 HB.out)
        clear HO_5
        clear BK294
        clear BK295
        clear HB
        have HO_5 := n0_
        have BK294 := n1_
        have BK295 := n2_
        have HB := n3_
        clear n0_ n1_ n2_ n3_
        refine start_ (n := 12) (S := fun w' => w'.cell? ⟨gb295, 0, none⟩ = some (.int .i64 a1_0) ∧ w'.cell? ⟨gb295, 1, none⟩ = some (.int .i64 a1_1) ∧ w'.cell? ⟨gb295, 2, none⟩ = some (.int .i64 a1_2) ∧ w'.cell? ⟨gb295, 3, none⟩ = some (.int .i64 a1_3) ∧ w'.cell? ⟨gb295, 4, none⟩ = some (.int .i64 a1_4) ∧ w'.cell? ⟨gb295, 5, none⟩ = some (.int .i64 a1_5)) (ds := []) (zv_.bm 12 0) (by kernel_rfl) rfl rfl ⟨xvc BK295.out, xvc BK295.out, xvc BK295.out, xvc BK295.out, xvc BK295.out, xvc BK295.out⟩ (fun hHeld => ?_); refine with_tabW impl_foldCode.tab11 impl_foldCode.bits11 (fun HT_ HW_ => ?_)
        generalize wr.drew = w26 at HO_5 BK294 BK295 HB hHeld ⊢
        refine zv_.pa (i := 0) (N := some 36) (zv_.bm 12 1) HT_.out ?_
        refine zv_.pa (i := 1) (N := some 37) (zv_.bm 12 3) HT_.out ?_
        refine zv_.pa (i := 3) (N := some 39) (zv_.bm 12 11) HT_.out ?_
        refine zv_.pa (i := 6) (N := some 42) (zv_.bm 12 75) HT_.out ?_
        refine zv_.ta (i := 2) (N := some 38) (zv_.bm 12 79) rfl (take_ofW HT_.out HW_.out (by kernel_rfl)) (Or.inl ⟨(by rfl), wv13⟩) hHeld ?_
        refine zv_.pa (i := 4) (N := some 40) (zv_.bm 12 95) HT_.out ?_
        refine zv_.ta (i := 7) (N := some 43) (zv_.bm 12 223) rfl (take_ofW HT_.out HW_.out (by kernel_rfl)) (Or.inl ⟨(by rfl), wv13⟩) hHeld ?_
        refine one_ (i := 5) (N := some 41) (zv_.bm 12 255) rfl rfl (one_of HT_.out (by kernel_rfl)) (by decide) (fun K hK => ?_)
        refine goes_ Try.func185 (by kernel_rfl) rfl #[.int .i64 0, .int .i64 (-1), .int .i64 (wrap64 (a1_3 + x8_1))] (by rfl) rfl rfl wv1 ?_
        with_reducible refine (impl_loads.calls 0 (-1) (wrap64 (a1_3 + x8_1)) t306 t307 t308 t309 t310 t311 t312 _ A23.out).mono ?_
        rintro e w27 ⟨rfl, hb⟩
        refine ⟨_, rfl, ?_⟩
        have n0_ := Aside0.mk (Kd.R_below (xvr HO_5.out) hb)
        have n1_ := Aside0.mk (xvl BK294.out hb)
        have n2_ := Aside0.mk (xvl BK295.out hb)
        have n3_ := Aside0.mk (below_step wv4 hb)
        clear HO_5
        clear BK294
        clear BK295
        clear HB
        have HO_5 := n0_
        have BK294 := n1_
        have BK295 := n2_
        have HB := n3_
        clear n0_ n1_ n2_ n3_
        (try clear hb)
        (try clear hb2)
        (try clear hk)
        (try clear hi)
        refine hK.out _ _ ⟨xvc BK295.out, xvc BK295.out, xvc BK295.out, xvc BK295.out, xvc BK295.out, xvc BK295.out⟩ (fun hHeld => ?_)
        clear hK K
        refine norm_ (a' := ?_) ?_ ?_
        rotate_left
        ·show Act.put _ (some 41) _ = _
         simp only [Act.put, List.setIfInBounds_toArray, List.set_cons_zero, List.set_cons_succ, i64_w, i32_w]
         rfl
        refine one_ (i := 8) (N := some 44) (zv_.bm 12 511) rfl rfl (one_of HT_.out (by kernel_rfl)) (by decide) (fun K hK => ?_)
        refine goes_ Try.func186 (by kernel_rfl) rfl #[.int .i64 a1_1, .int .i64 4, .int .i64 4, .int .i64 0, .int .i64 (-1)] (by rfl) rfl rfl wv1 ?_
        with_reducible refine (impl_does.calls a1_1 4 4 0 (-1) t313 t314 t315 t316 t317 t318 t319 _ A24.out).mono ?_
        rintro e w28 ⟨rfl, hb⟩
        refine ⟨_, rfl, ?_⟩
        have n0_ := Aside0.mk (Kd.R_below (xvr HO_5.out) hb)
        have n1_ := Aside0.mk (xvl BK294.out hb)
        have n2_ := Aside0.mk (xvl BK295.out hb)
        have n3_ := Aside0.mk (below_step wv4 hb)
        clear HO_5
        clear BK294
        clear BK295
        clear HB
        have HO_5 := n0_
        have BK294 := n1_
        have BK295 := n2_
        have HB := n3_
        clear n0_ n1_ n2_ n3_
        (try clear hb)
        (try clear hb2)
        (try clear hk)
        (try clear hi)
        refine hK.out _ _ ⟨xvc BK295.out, xvc BK295.out, xvc BK295.out, xvc BK295.out, xvc BK295.out, xvc BK295.out⟩ (fun hHeld => ?_)
        clear hK K
        refine norm_ (a' := ?_) ?_ ?_
        rotate_left
        ·show Act.put _ (some 44) _ = _
         simp only [Act.put, List.setIfInBounds_toArray, List.set_cons_zero, List.set_cons_succ, i64_w, i32_w]
         rfl
        refine one_ (i := 9) (N := some 45) (zv_.bm 12 1023) rfl rfl (one_of HT_.out (by kernel_rfl)) (by decide) (fun K hK => ?_)
        refine Kd.R_lit_step k142 _ 142 ?hg (N := 45) ?hd (xs := ([(⟨t306, t307, t308, t309, t310, t311, t312⟩ : S142), (⟨t313, t314, t315, t316, t317, t318, t319⟩ : S142)] : List (S142))) (inner := [.int .i64 t306, .int .i64 t307, .int .i64 t308, .int .i64 t309, .int .i64 t310, .int .i64 t311, .slice none 0 0, .int .i64 t313, .int .i64 t314, .int .i64 t315, .int .i64 t316, .int .i64 t317, .int .i64 t318, .slice none 0 0]) (ok := fun _ => True) (okp := fun _ => True) ?hr ?hp (fun _ hk => hk) trivial (Below.refl _ _) (Nat.le_refl _) (by simp) ?_; (case hd => rfl); (case hg => rfl); (case hr => first | (go_simp; done) | (go_simp; rfl)); (case hp => exact (Reps.c7 (show Kd.M k142 _ _ _ (⟨t306, t307, t308, t309, t310, t311, t312⟩ : S142) [.int .i64 t306, .int .i64 t307, .int .i64 t308, .int .i64 t309, .int .i64 t310, .int .i64 t311, .slice none 0 0] from (k142_mkM _ _ _ (⟨t306, t307, t308, t309, t310, t311, t312⟩ : S142) )) (Reps.c7 (show Kd.M k142 _ _ _ (⟨t313, t314, t315, t316, t317, t318, t319⟩ : S142) [.int .i64 t313, .int .i64 t314, .int .i64 t315, .int .i64 t316, .int .i64 t317, .int .i64 t318, .slice none 0 0] from (k142_mkM _ _ _ (⟨t313, t314, t315, t316, t317, t318, t319⟩ : S142) )) (Reps.none _ _))))
        intro v321 w29 ho30 hb hg_ hnew_
        clear hg_ hnew_
        (first | rw [← Ny320.out] at ho30 | (simp only [Int.reduceToNat] at ho30; rw [← Ny320.out] at ho30))
        have n0_ := Aside0.mk (Kd.R_elder' (xvr HO_5.out) (Kd.R_base ho30) hb)
        have n1_ := Aside0.mk (Kd.R_lower (Kd.R_new' ho30 (Kd.R_lt (xvr HO_5.out))) (below_size wv4))
        have n2_ := Aside0.mk (xvl BK294.out hb)
        have n3_ := Aside0.mk (xvl BK295.out hb)
        have n4_ := Aside0.mk (below_step wv4 hb)
        clear HO_5
        clear BK294
        clear BK295
        clear HB
        have HO_5 := n0_
        have HO322 := n1_
        have BK294 := n2_
        have BK295 := n3_
        have HB := n4_
        clear n0_ n1_ n2_ n3_ n4_
        clear hb ho30
        obtain ⟨Ao32, co32, eo32⟩ := Kd.R_slice HO322.out
        (first | subst eo32 | (injection eo32 with f1_ f2_ f3_; have f4_ := f1_.symm; have f5_ := f3_.symm; clear f1_ f2_ f3_; subst f4_; subst f5_))
        refine hK.out _ _ ⟨xvc BK295.out, xvc BK295.out, xvc BK295.out, xvc BK295.out, xvc BK295.out, xvc BK295.out⟩ (fun hHeld => ?_)
        clear hK K
        refine norm_ (a' := ?_) ?_ ?_
        rotate_left
        ·show Act.put _ (some 45) _ = _
         simp only [Act.put, List.setIfInBounds_toArray, List.set_cons_zero, List.set_cons_succ, i64_w, i32_w]
         rfl
        refine one_ (i := 10) (N := some 46) (zv_.bm 12 2047) rfl rfl (one_of HT_.out (by kernel_rfl)) (by decide) (fun K hK => ?_)
        refine Kd.R_append_rows_step k142 (w0 := w) w.heap.size (by rfl) (.tmp 36) (.tmp 45) 87 142 (.agg #[(.int .i64 0), (.int .i64 0), (.int .i64 0), (.int .i64 0), (.int .i64 0), (.int .i64 0), (.slice none 0 0)]) 72 rfl Try.underlying87 info142 rfl (by decide) (by omega) u5 x5_1 y320 _ _ _ (fun k_ => some k_ ≠ (.slice Ao32 y320.length co32 : Value).ownBlock) (fun _ => False) rfl rfl ?aO ?aR (fun _ _ h => h) (fun _ h => h.elim) ?aF ?aB ?aS ?aL ?_
        (case aR => repeat (first | exact (Kd.R_reads' HO322.out).2.2 | (with_reducible refine Kd.C_alloc ?_ _) | (with_reducible refine Kd.C_drewN ?_ _) | (with_reducible refine Kd.C_drew ?_)))
        (case aB => exact wv4)
        (case aF => exact (fun k_ hk => Kd.fresh' (Kd.R_lt (xvr HO322.out)) k_ hk))
        (case aO => exact wv38)
        (case aS => exact (below_size wv4))
        (case aL => have := LMc25.out; omega)
        intro v324 w31 ho hb hg hat
        rw [← Ny323.out] at ho
        have n0_ := Aside0.mk (blk_grown (g := gb294) (o := .cells #[.int .i64 a0_0, .int .i64 a0_1] 31 (0, 0)) (xvb BK294.out) hg (Kd.R_ne HO_5.out BK294.out (by decide)))
        have n1_ := Aside0.mk (blk_grown (g := gb295) (o := .cells #[.int .i64 a1_0, .int .i64 a1_1, .int .i64 a1_2, .int .i64 a1_3, .int .i64 a1_4, .int .i64 a1_5] 25 (0, 0)) (xvb BK295.out) hg (Kd.R_ne HO_5.out BK295.out (by decide)))
        have n2_ := Aside0.mk (Kd.R_after (ok := (fun _ => True)) (xvr HO322.out) hg hat)
        have n3_ := Aside0.mk (hb)
        have n4_ := Aside0.mk (ho)
        clear BK294
        clear BK295
        clear HO322
        clear HB
        clear HO_5
        have BK294 := n0_
        have BK295 := n1_
        have HO322 := n2_
        have HB := n3_
        have HO325 := n4_
        clear n0_ n1_ n2_ n3_ n4_
        clear ho hb hg hat
        refine hK.out _ _ ⟨xvc BK295.out, xvc BK295.out, xvc BK295.out, xvc BK295.out, xvc BK295.out, xvc BK295.out⟩ (fun hHeld => ?_)
        clear hK K
        refine norm_ (a' := ?_) ?_ ?_
        rotate_left
        ·show Act.put _ (some 46) _ = _
         simp only [Act.put, List.setIfInBounds_toArray, List.set_cons_zero, List.set_cons_succ, i64_w, i32_w]
         rfl
        refine zv_.pa (i := 11) (N := some 5) (zv_.bm 12 4095) HT_.out ?_
        refine done_ (done_of HT_.out (by kernel_rfl)) ?_
        have hnb33 := NB294_295.out
        have hnc33 := NB295_294.out
        have hcz34_0 : w31.cell? ⟨gb294, 0, none⟩ = some (.int .i64 a0_0) := xvc BK294.out
        have hcz34_1 : w31.cell? ⟨gb294, 1, none⟩ = some (.int .i64 a0_1) := xvc BK294.out
        have hfz34_0 := blk_frozen BK294.out 0
        have hfz34_1 := blk_frozen BK294.out 1
        try go_wp2
        go_roundg k1
        case measure => have := HK1.out; omega
        case rel => exact ⟨(y323), (wrap64 (x8_1 + a0_0)), wv6, H', ⟨wv60⟩, ⟨(by (with_reducible repeat (first | apply Kd.R_alloc | apply Kd.R_drewN | apply Kd.R_drew)); exact Kd.R_mono HO325.out (fun _ hk => trivial))⟩, ⟨(xvb BK294.out)⟩, ⟨(xvb BK295.out)⟩, ⟨wv4⟩⟩
       ·rw [if_neg c25] at H
        exact absurd H (by simp)
     ·rw [if_neg c14] at H
      have c14b0 : decide (x8_1 < (wrap64 (a1_5 - (Int.tmod a1_5 a0_0)))) = false := decide_eq_false c14
      clear c14
      have HC35 := Aside0.mk H
      clear H
      go_upto_if 48 with (fail)
      go_cut [5] (fun v5 wc => ∃ (kq : Nat) (x5_34 : List (S142)), Aside0 (impl_foldCode.j1 kq x5_34 (wrap64 (a1_5 - (Int.tmod a1_5 a0_0))) a1_0 a1_1 a1_2 a1_3 a1_4 a1_5 = some r) ∧ Aside0 (kq ≤ k1) ∧ Aside0 (Kd.R k142 142 wc w.heap.size (fun _ => True) v5 x5_34) ∧ Aside0 (wc.heap[gb294]? = some (.cells #[.int .i64 a0_0, .int .i64 a0_1] 31 (0, 0))) ∧ Aside0 (wc.heap[gb295]? = some (.cells #[.int .i64 a1_0, .int .i64 a1_1, .int .i64 a1_2, .int .i64 a1_3, .int .i64 a1_4, .int .i64 a1_5] 25 (0, 0))) ∧ Aside0 (Below w.heap.size w wc))
      case first =>
       have H := HC35.out
       clear HC35
       by_cases c36 : (Int.tmod a1_5 a0_0) > 0
       ·rw [if_pos c36] at H
        have c36b0 : decide (0 < (Int.tmod a1_5 a0_0)) = true := decide_eq_true c36
        clear c36
        (first | rw [c36b0] | (simp only [i64_w, i32_w]; rw [c36b0]) | skip)
        replace H := Option.bind_eq_some_iff.mp H
        obtain ⟨t326, A370, H⟩ := H
        replace H : (if x5_1.length + t326.length < 1954687338268 then ((some (x5_1 ++ t326 : List (S142))).bind fun y329 => (if (wrap64 (a1_5 - (Int.tmod a1_5 a0_0))) > 0 then ((impl_loads.f 0 3 (wrap64 (a1_3 + (wrap64 (a1_5 - (Int.tmod a1_5 a0_0)))))).bind fun bt332 => ((impl_does.f a1_1 4 4 0 3).bind fun bt339 => ((some (([(⟨bt332.1, bt332.2.1, bt332.2.2.1, bt332.2.2.2.1, bt332.2.2.2.2.1, bt332.2.2.2.2.2.1, bt332.2.2.2.2.2.2⟩ : S142), (⟨bt339.1, bt339.2.1, bt339.2.2.1, bt339.2.2.2.1, bt339.2.2.2.2.1, bt339.2.2.2.2.2.1, bt339.2.2.2.2.2.2⟩ : S142)] : List (S142)) : List (S142))).bind fun y346 => (if y329.length + y346.length < 1954687338268 then (impl_foldCode.j1 k1 (y329 ++ y346) (wrap64 (a1_5 - (Int.tmod a1_5 a0_0))) a1_0 a1_1 a1_2 a1_3 a1_4 a1_5) else (none))))) else ((impl_loads.f 4 3 a1_3).bind fun bt352 => (if y329.length < 1954687338268 then (impl_foldCode.j1 k1 (y329 ++ [(⟨bt352.1, bt352.2.1, bt352.2.2.1, bt352.2.2.2.1, bt352.2.2.2.2.1, bt352.2.2.2.2.2.1, bt352.2.2.2.2.2.2⟩ : S142)]) (wrap64 (a1_5 - (Int.tmod a1_5 a0_0))) a1_0 a1_1 a1_2 a1_3 a1_4 a1_5) else (none))))) else (none)) = some r := H
        have A37 := Aside0.mk A370
        clear A370
        by_cases c38 : x5_1.length + t326.length < 1954687338268
        ·rw [if_pos c38] at H
         have LMc38 := Aside0.mk c38
         clear c38
         obtain ⟨y329, hy329⟩ : ∃ y_ : List (S142), y_ = (x5_1 ++ t326) := ⟨_, rfl⟩
         replace H : (if (wrap64 (a1_5 - (Int.tmod a1_5 a0_0))) > 0 then ((impl_loads.f 0 3 (wrap64 (a1_3 + (wrap64 (a1_5 - (Int.tmod a1_5 a0_0)))))).bind fun bt332 => ((impl_does.f a1_1 4 4 0 3).bind fun bt339 => ((some (([(⟨bt332.1, bt332.2.1, bt332.2.2.1, bt332.2.2.2.1, bt332.2.2.2.2.1, bt332.2.2.2.2.2.1, bt332.2.2.2.2.2.2⟩ : S142), (⟨bt339.1, bt339.2.1, bt339.2.2.1, bt339.2.2.2.1, bt339.2.2.2.2.1, bt339.2.2.2.2.2.1, bt339.2.2.2.2.2.2⟩ : S142)] : List (S142)) : List (S142))).bind fun y346 => (if y329.length + y346.length < 1954687338268 then (impl_foldCode.j1 k1 (y329 ++ y346) (wrap64 (a1_5 - (Int.tmod a1_5 a0_0))) a1_0 a1_1 a1_2 a1_3 a1_4 a1_5) else (none))))) else ((impl_loads.f 4 3 a1_3).bind fun bt352 => (if y329.length < 1954687338268 then (impl_foldCode.j1 k1 (y329 ++ [(⟨bt352.1, bt352.2.1, bt352.2.2.1, bt352.2.2.2.1, bt352.2.2.2.2.1, bt352.2.2.2.2.2.1, bt352.2.2.2.2.2.2⟩ : S142)]) (wrap64 (a1_5 - (Int.tmod a1_5 a0_0))) a1_0 a1_1 a1_2 a1_3 a1_4 a1_5) else (none)))) = some r := by first | (rw [hy329]; with_reducible exact H) | (have H2_ := (Option.bind_some _ _).symm.trans H; rw [hy329]; with_reducible exact H2_) | (have H2_ := (Option.bind_some _ _).symm.trans H; with_reducible exact H2_) | with_reducible exact H | (rw [hy329]; exact H) | exact H
         have Ny329 := Aside0.mk hy329
         clear hy329
         by_cases c39 : (wrap64 (a1_5 - (Int.tmod a1_5 a0_0))) > 0
         ·rw [if_pos c39] at H
          have c39b0 : decide (0 < (wrap64 (a1_5 - (Int.tmod a1_5 a0_0)))) = true := decide_eq_true c39
          clear c39
          replace H := Option.bind_eq_some_iff.mp H
          obtain ⟨⟨t332, t333, t334, t335, t336, t337, t338⟩, A400, H⟩ := H
          replace H : ((impl_does.f a1_1 4 4 0 3).bind fun bt339 => ((some (([(⟨t332, t333, t334, t335, t336, t337, t338⟩ : S142), (⟨bt339.1, bt339.2.1, bt339.2.2.1, bt339.2.2.2.1, bt339.2.2.2.2.1, bt339.2.2.2.2.2.1, bt339.2.2.2.2.2.2⟩ : S142)] : List (S142)) : List (S142))).bind fun y346 => (if y329.length + y346.length < 1954687338268 then (impl_foldCode.j1 k1 (y329 ++ y346) (wrap64 (a1_5 - (Int.tmod a1_5 a0_0))) a1_0 a1_1 a1_2 a1_3 a1_4 a1_5) else (none)))) = some r := H
          have A40 := Aside0.mk A400
          clear A400
          replace H := Option.bind_eq_some_iff.mp H
          obtain ⟨⟨t339, t340, t341, t342, t343, t344, t345⟩, A410, H⟩ := H
          replace H : ((some (([(⟨t332, t333, t334, t335, t336, t337, t338⟩ : S142), (⟨t339, t340, t341, t342, t343, t344, t345⟩ : S142)] : List (S142)) : List (S142))).bind fun y346 => (if y329.length + y346.length < 1954687338268 then (impl_foldCode.j1 k1 (y329 ++ y346) (wrap64 (a1_5 - (Int.tmod a1_5 a0_0))) a1_0 a1_1 a1_2 a1_3 a1_4 a1_5) else (none))) = some r := H
          have A41 := Aside0.mk A410
          clear A410
          obtain ⟨y346, hy346⟩ : ∃ y_ : List (S142), y_ = (([(⟨t332, t333, t334, t335, t336, t337, t338⟩ : S142), (⟨t339, t340, t341, t342, t343, t344, t345⟩ : S142)] : List (S142))) := ⟨_, rfl⟩
          replace H : (if y329.length + y346.length < 1954687338268 then (impl_foldCode.j1 k1 (y329 ++ y346) (wrap64 (a1_5 - (Int.tmod a1_5 a0_0))) a1_0 a1_1 a1_2 a1_3 a1_4 a1_5) else (none)) = some r := by first | (rw [hy346]; with_reducible exact H) | (have H2_ := (Option.bind_some _ _).symm.trans H; rw [hy346]; with_reducible exact H2_) | (have H2_ := (Option.bind_some _ _).symm.trans H; with_reducible exact H2_) | with_reducible exact H | (rw [hy346]; exact H) | exact H
          have Ny346 := Aside0.mk hy346
          clear hy346
          by_cases c42 : y329.length + y346.length < 1954687338268
          ·rw [if_pos c42] at H
           have LMc42 := Aside0.mk c42
           clear c42
           obtain ⟨y349, hy349⟩ : ∃ y_ : List (S142), y_ = (y329 ++ y346) := ⟨_, rfl⟩
           replace H : (impl_foldCode.j1 k1 y349 (wrap64 (a1_5 - (Int.tmod a1_5 a0_0))) a1_0 a1_1 a1_2 a1_3 a1_4 a1_5) = some r := by first | (rw [hy349]; with_reducible exact H) | (have H2_ := (Option.bind_some _ _).symm.trans H; rw [hy349]; with_reducible exact H2_) | (have H2_ := (Option.bind_some _ _).symm.trans H; with_reducible exact H2_) | with_reducible exact H | (rw [hy349]; exact H) | exact H
           have Ny349 := Aside0.mk hy349
           clear hy349
           have H' := Aside0.mk H
           clear H
           try go_wp2_with (first | ((with_reducible refine gate_callee (f := 187) rfl ?_); refine goesL_ (some 51) rfl rfl Try.func187 (by kernel_rfl) rfl #[.int .i64 (Int.tmod a1_5 a0_0)] rfl wv1 ?_; (with_reducible refine (impl_firstLanes.calls (Int.tmod a1_5 a0_0) t326 _ A37.out).mono ?_); rintro e w43 ⟨v327, rfl, ho0, hb⟩; refine ⟨_, rfl, ?_⟩; have n0_ := Aside0.mk (Kd.R_elder' (xvr HO_5.out) (Kd.R_base ho0) hb); have n1_ := Aside0.mk (Kd.R_lower (Kd.R_new' ho0 (Kd.R_lt (xvr HO_5.out))) (below_size wv4)); have n2_ := Aside0.mk (xvl BK294.out hb); have n3_ := Aside0.mk (xvl BK295.out hb); have n4_ := Aside0.mk (below_step wv4 hb); clear HO_5; clear BK294; clear BK295; clear HB; have HO_5 := n0_; have HO328 := n1_; have BK294 := n2_; have BK295 := n3_; have HB := n4_; clear n0_ n1_ n2_ n3_ n4_; (try clear hb); (try clear hb2); (try clear hk); (try clear hi); (try clear ho0); obtain ⟨Ao45, co45, eo45⟩ := Kd.R_slice HO328.out; subst eo45) | ((with_reducible refine gate_builtin (b := .append) (xs := #[.tmp 49, .tmp 51]) rfl ?_); at_builtin; refine Kd.R_append_rows k142 (w0 := w) w.heap.size rfl (.tmp 49) (.tmp 51) 87 142 (.agg #[(.int .i64 0), (.int .i64 0), (.int .i64 0), (.int .i64 0), (.int .i64 0), (.int .i64 0), (.slice none 0 0)]) 72 rfl Try.underlying87 info142 rfl (by decide) (by omega) u5 x5_1 t326 _ _ _ (fun k_ => some k_ ≠ (.slice Ao45 t326.length co45 : Value).ownBlock) (fun _ => False) rfl rfl ?aO ?aR (fun _ _ h => h) (fun _ h => h.elim) ?aF ?aB ?aS ?aL ?_; (case aR => repeat (first | exact (Kd.R_reads' HO328.out).2.2 | (with_reducible refine Kd.C_alloc ?_ _) | (with_reducible refine Kd.C_drewN ?_ _) | (with_reducible refine Kd.C_drew ?_))); (case aB => exact wv4); (case aF => exact (fun k_ hk => Kd.fresh' (Kd.R_lt (xvr HO328.out)) k_ hk)); (case aO => exact wv38); (case aS => exact (below_size wv4)); (case aL => have := LMc38.out; omega); intro v330 w44 ho hb hg hat; rw [← Ny329.out] at ho; have n0_ := Aside0.mk (blk_grown (g := gb294) (o := .cells #[.int .i64 a0_0, .int .i64 a0_1] 31 (0, 0)) (xvb BK294.out) hg (Kd.R_ne HO_5.out BK294.out (by decide))); have n1_ := Aside0.mk (blk_grown (g := gb295) (o := .cells #[.int .i64 a1_0, .int .i64 a1_1, .int .i64 a1_2, .int .i64 a1_3, .int .i64 a1_4, .int .i64 a1_5] 25 (0, 0)) (xvb BK295.out) hg (Kd.R_ne HO_5.out BK295.out (by decide))); have n2_ := Aside0.mk (Kd.R_after (ok := (fun _ => True)) (xvr HO328.out) hg hat); have n3_ := Aside0.mk (hb); have n4_ := Aside0.mk (ho); clear BK294; clear BK295; clear HO328; clear HB; clear HO_5; have BK294 := n0_; have BK295 := n1_; have HO328 := n2_; have HB := n3_; have HO331 := n4_; clear n0_ n1_ n2_ n3_ n4_; clear ho hb hg hat))
           have n0_ := Aside0.mk (Kd.R_drew HO328.out)
           have n1_ := Aside0.mk (Kd.R_drew HO331.out)
           have n2_ := Aside0.mk (blk_drew BK294.out)
           have n3_ := Aside0.mk (blk_drew BK295.out)
           have n4_ := Aside0.mk (below_drew1 HB.out)
           clear HO328
           clear HO331
           clear BK294
           clear BK295
           clear HB
           have HO328 := n0_
           have HO331 := n1_
           have BK294 := n2_
           have BK295 := n3_
           have HB := n4_
           clear n0_ n1_ n2_ n3_ n4_
           refine start_ (n := 12) (S := fun w' => w'.cell? ⟨gb295, 0, none⟩ = some (.int .i64 a1_0) ∧ w'.cell? ⟨gb295, 1, none⟩ = some (.int .i64 a1_1) ∧ w'.cell? ⟨gb295, 2, none⟩ = some (.int .i64 a1_2) ∧ w'.cell? ⟨gb295, 3, none⟩ = some (.int .i64 a1_3) ∧ w'.cell? ⟨gb295, 4, none⟩ = some (.int .i64 a1_4) ∧ w'.cell? ⟨gb295, 5, none⟩ = some (.int .i64 a1_5)) (ds := []) (zv_.bm 12 0) (by kernel_rfl) rfl rfl ⟨xvc BK295.out, xvc BK295.out, xvc BK295.out, xvc BK295.out, xvc BK295.out, xvc BK295.out⟩ (fun hHeld => ?_); refine with_tabW impl_foldCode.tab15 impl_foldCode.bits15 (fun HT_ HW_ => ?_)
           generalize w44.drew = w46 at HO328 HO331 BK294 BK295 HB hHeld ⊢
           refine zv_.pa (i := 0) (N := some 55) (zv_.bm 12 1) HT_.out ?_
           refine zv_.pa (i := 1) (N := some 56) (zv_.bm 12 3) HT_.out ?_
           refine zv_.pa (i := 3) (N := some 58) (zv_.bm 12 11) HT_.out ?_
           refine zv_.pa (i := 6) (N := some 61) (zv_.bm 12 75) HT_.out ?_
           refine zv_.ta (i := 2) (N := some 57) (zv_.bm 12 79) rfl (take_ofW HT_.out HW_.out (by kernel_rfl)) (Or.inl ⟨(by rfl), wv13⟩) hHeld ?_
           refine zv_.pa (i := 4) (N := some 59) (zv_.bm 12 95) HT_.out ?_
           refine zv_.ta (i := 7) (N := some 62) (zv_.bm 12 223) rfl (take_ofW HT_.out HW_.out (by kernel_rfl)) (Or.inl ⟨(by rfl), wv13⟩) hHeld ?_
           refine one_ (i := 5) (N := some 60) (zv_.bm 12 255) rfl rfl (one_of HT_.out (by kernel_rfl)) (by decide) (fun K hK => ?_)
           refine goes_ Try.func185 (by kernel_rfl) rfl #[.int .i64 0, .int .i64 3, .int .i64 (wrap64 (a1_3 + (wrap64 (a1_5 - (Int.tmod a1_5 a0_0)))))] (by rfl) rfl rfl wv1 ?_
           with_reducible refine (impl_loads.calls 0 3 (wrap64 (a1_3 + (wrap64 (a1_5 - (Int.tmod a1_5 a0_0))))) t332 t333 t334 t335 t336 t337 t338 _ A40.out).mono ?_
           rintro e w47 ⟨rfl, hb⟩
           refine ⟨_, rfl, ?_⟩
           have n0_ := Aside0.mk (Kd.R_below (xvr HO328.out) hb)
           have n1_ := Aside0.mk (Kd.R_below (xvr HO331.out) hb)
           have n2_ := Aside0.mk (xvl BK294.out hb)
           have n3_ := Aside0.mk (xvl BK295.out hb)
           have n4_ := Aside0.mk (below_step wv4 hb)
           clear HO328
           clear HO331
           clear BK294
           clear BK295
           clear HB
           have HO328 := n0_
           have HO331 := n1_
           have BK294 := n2_
           have BK295 := n3_
           have HB := n4_
           clear n0_ n1_ n2_ n3_ n4_
           (try clear hb)
           (try clear hb2)
           (try clear hk)
           (try clear hi)
           refine hK.out _ _ ⟨xvc BK295.out, xvc BK295.out, xvc BK295.out, xvc BK295.out, xvc BK295.out, xvc BK295.out⟩ (fun hHeld => ?_)
           clear hK K
           refine norm_ (a' := ?_) ?_ ?_
           rotate_left
           ·show Act.put _ (some 60) _ = _
            simp only [Act.put, List.setIfInBounds_toArray, List.set_cons_zero, List.set_cons_succ, i64_w, i32_w]
            rfl
           refine one_ (i := 8) (N := some 63) (zv_.bm 12 511) rfl rfl (one_of HT_.out (by kernel_rfl)) (by decide) (fun K hK => ?_)
           refine goes_ Try.func186 (by kernel_rfl) rfl #[.int .i64 a1_1, .int .i64 4, .int .i64 4, .int .i64 0, .int .i64 3] (by rfl) rfl rfl wv1 ?_
           with_reducible refine (impl_does.calls a1_1 4 4 0 3 t339 t340 t341 t342 t343 t344 t345 _ A41.out).mono ?_
           rintro e w48 ⟨rfl, hb⟩
           refine ⟨_, rfl, ?_⟩
           have n0_ := Aside0.mk (Kd.R_below (xvr HO328.out) hb)
           have n1_ := Aside0.mk (Kd.R_below (xvr HO331.out) hb)
           have n2_ := Aside0.mk (xvl BK294.out hb)
           have n3_ := Aside0.mk (xvl BK295.out hb)
           have n4_ := Aside0.mk (below_step wv4 hb)
           clear HO328
           clear HO331
           clear BK294
           clear BK295
           clear HB
           have HO328 := n0_
           have HO331 := n1_
           have BK294 := n2_
           have BK295 := n3_
           have HB := n4_
           clear n0_ n1_ n2_ n3_ n4_
           (try clear hb)
           (try clear hb2)
           (try clear hk)
           (try clear hi)
           refine hK.out _ _ ⟨xvc BK295.out, xvc BK295.out, xvc BK295.out, xvc BK295.out, xvc BK295.out, xvc BK295.out⟩ (fun hHeld => ?_)
           clear hK K
           refine norm_ (a' := ?_) ?_ ?_
           rotate_left
           ·show Act.put _ (some 63) _ = _
            simp only [Act.put, List.setIfInBounds_toArray, List.set_cons_zero, List.set_cons_succ, i64_w, i32_w]
            rfl
           refine one_ (i := 9) (N := some 64) (zv_.bm 12 1023) rfl rfl (one_of HT_.out (by kernel_rfl)) (by decide) (fun K hK => ?_)
           refine Kd.R_lit_step k142 _ 142 ?hg (N := 64) ?hd (xs := ([(⟨t332, t333, t334, t335, t336, t337, t338⟩ : S142), (⟨t339, t340, t341, t342, t343, t344, t345⟩ : S142)] : List (S142))) (inner := [.int .i64 t332, .int .i64 t333, .int .i64 t334, .int .i64 t335, .int .i64 t336, .int .i64 t337, .slice none 0 0, .int .i64 t339, .int .i64 t340, .int .i64 t341, .int .i64 t342, .int .i64 t343, .int .i64 t344, .slice none 0 0]) (ok := fun _ => True) (okp := fun _ => True) ?hr ?hp (fun _ hk => hk) trivial (Below.refl _ _) (Nat.le_refl _) (by simp) ?_; (case hd => rfl); (case hg => rfl); (case hr => first | (go_simp; done) | (go_simp; rfl)); (case hp => exact (Reps.c7 (show Kd.M k142 _ _ _ (⟨t332, t333, t334, t335, t336, t337, t338⟩ : S142) [.int .i64 t332, .int .i64 t333, .int .i64 t334, .int .i64 t335, .int .i64 t336, .int .i64 t337, .slice none 0 0] from (k142_mkM _ _ _ (⟨t332, t333, t334, t335, t336, t337, t338⟩ : S142) )) (Reps.c7 (show Kd.M k142 _ _ _ (⟨t339, t340, t341, t342, t343, t344, t345⟩ : S142) [.int .i64 t339, .int .i64 t340, .int .i64 t341, .int .i64 t342, .int .i64 t343, .int .i64 t344, .slice none 0 0] from (k142_mkM _ _ _ (⟨t339, t340, t341, t342, t343, t344, t345⟩ : S142) )) (Reps.none _ _))))
           intro v347 w49 ho50 hb hg_ hnew_
           clear hg_ hnew_
           (first | rw [← Ny346.out] at ho50 | (simp only [Int.reduceToNat] at ho50; rw [← Ny346.out] at ho50))
           have n0_ := Aside0.mk (Kd.R_elder' (xvr HO328.out) (Kd.R_base ho50) hb)
           have n1_ := Aside0.mk (Kd.R_elder' (xvr HO331.out) (Kd.R_base ho50) hb)
           have n2_ := Aside0.mk (Kd.R_lower (Kd.R_new' (Kd.R_new' ho50 (Kd.R_lt (xvr HO328.out))) (Kd.R_lt (xvr HO331.out))) (below_size wv4))
           have n3_ := Aside0.mk (xvl BK294.out hb)
           have n4_ := Aside0.mk (xvl BK295.out hb)
           have n5_ := Aside0.mk (below_step wv4 hb)
           clear HO328
           clear HO331
           clear BK294
           clear BK295
           clear HB
           have HO328 := n0_
           have HO331 := n1_
           have HO348 := n2_
           have BK294 := n3_
           have BK295 := n4_
           have HB := n5_
           clear n0_ n1_ n2_ n3_ n4_ n5_
           clear hb ho50
           obtain ⟨Ao52, co52, eo52⟩ := Kd.R_slice HO348.out
           (first | subst eo52 | (injection eo52 with f1_ f2_ f3_; have f4_ := f1_.symm; have f5_ := f3_.symm; clear f1_ f2_ f3_; subst f4_; subst f5_))
           refine hK.out _ _ ⟨xvc BK295.out, xvc BK295.out, xvc BK295.out, xvc BK295.out, xvc BK295.out, xvc BK295.out⟩ (fun hHeld => ?_)
           clear hK K
           refine norm_ (a' := ?_) ?_ ?_
           rotate_left
           ·show Act.put _ (some 64) _ = _
            simp only [Act.put, List.setIfInBounds_toArray, List.set_cons_zero, List.set_cons_succ, i64_w, i32_w]
            rfl
           refine one_ (i := 10) (N := some 65) (zv_.bm 12 2047) rfl rfl (one_of HT_.out (by kernel_rfl)) (by decide) (fun K hK => ?_)
           refine Kd.R_append_rows_step k142 (w0 := w) w.heap.size (by rfl) (.tmp 55) (.tmp 64) 87 142 (.agg #[(.int .i64 0), (.int .i64 0), (.int .i64 0), (.int .i64 0), (.int .i64 0), (.int .i64 0), (.slice none 0 0)]) 72 rfl Try.underlying87 info142 rfl (by decide) (by omega) v330 y329 y346 _ _ _ (fun k_ => some k_ ≠ (.slice Ao45 t326.length co45 : Value).ownBlock ∧ some k_ ≠ (.slice Ao52 y346.length co52 : Value).ownBlock) (fun _ => False) rfl rfl ?aO ?aR (fun _ _ h => h) (fun _ h => h.elim) ?aF ?aB ?aS ?aL ?_
           (case aR => repeat (first | exact (Kd.R_reads' HO348.out).2.2 | (with_reducible refine Kd.C_alloc ?_ _) | (with_reducible refine Kd.C_drewN ?_ _) | (with_reducible refine Kd.C_drew ?_)))
           (case aB => exact wv4)
           (case aF => exact (fun k_ hk => ⟨Kd.fresh' (Kd.R_lt (xvr HO328.out)) k_ hk, Kd.fresh' (Kd.R_lt (xvr HO348.out)) k_ hk⟩))
           (case aO => exact (xvr HO331.out))
           (case aS => exact (below_size wv4))
           (case aL => have := LMc42.out; omega)
           intro v350 w51 ho hb hg hat
           rw [← Ny349.out] at ho
           have n0_ := Aside0.mk (blk_grown (g := gb294) (o := .cells #[.int .i64 a0_0, .int .i64 a0_1] 31 (0, 0)) (xvb BK294.out) hg (Kd.R_ne HO331.out BK294.out (by decide)))
           have n1_ := Aside0.mk (blk_grown (g := gb295) (o := .cells #[.int .i64 a1_0, .int .i64 a1_1, .int .i64 a1_2, .int .i64 a1_3, .int .i64 a1_4, .int .i64 a1_5] 25 (0, 0)) (xvb BK295.out) hg (Kd.R_ne HO331.out BK295.out (by decide)))
           have n2_ := Aside0.mk (Kd.R_after (ok := (fun k_ => some k_ ≠ (.slice Ao52 y346.length co52 : Value).ownBlock)) (by (with_reducible repeat (first | apply Kd.R_alloc | apply Kd.R_drewN | apply Kd.R_drew)); exact Kd.R_mono HO328.out (fun _ hk => ⟨hk.2, hk.1.2⟩)) hg hat)
           have n3_ := Aside0.mk (Kd.R_after (ok := (fun k_ => some k_ ≠ (.slice Ao45 t326.length co45 : Value).ownBlock)) (by (with_reducible repeat (first | apply Kd.R_alloc | apply Kd.R_drewN | apply Kd.R_drew)); exact Kd.R_mono HO348.out (fun _ hk => ⟨hk.1.2, hk.2⟩)) hg hat)
           have n4_ := Aside0.mk (hb)
           have n5_ := Aside0.mk (ho)
           clear BK294
           clear BK295
           clear HO328
           clear HO348
           clear HB
           clear HO331
           have BK294 := n0_
           have BK295 := n1_
           have HO328 := n2_
           have HO348 := n3_
           have HB := n4_
           have HO351 := n5_
           clear n0_ n1_ n2_ n3_ n4_ n5_
           clear ho hb hg hat
           refine hK.out _ _ ⟨xvc BK295.out, xvc BK295.out, xvc BK295.out, xvc BK295.out, xvc BK295.out, xvc BK295.out⟩ (fun hHeld => ?_)
           clear hK K
           refine norm_ (a' := ?_) ?_ ?_
           rotate_left
           ·show Act.put _ (some 65) _ = _
            simp only [Act.put, List.setIfInBounds_toArray, List.set_cons_zero, List.set_cons_succ, i64_w, i32_w]
            rfl
           refine zv_.pa (i := 11) (N := some 5) (zv_.bm 12 4095) HT_.out ?_
           refine done_ (done_of HT_.out (by kernel_rfl)) ?_
           try go_wp2
           go_meet
           case rel => exact ⟨_, (y349), H', ⟨(by have := HK1.out; first | omega | exact Nat.le_refl _)⟩, ⟨(by (with_reducible repeat (first | apply Kd.R_alloc | apply Kd.R_drewN | apply Kd.R_drew)); exact Kd.R_mono HO351.out (fun _ hk => trivial))⟩, ⟨(xvb BK294.out)⟩, ⟨(xvb BK295.out)⟩, ⟨wv4⟩⟩
          ·rw [if_neg c42] at H
           exact absurd H (by simp)
         ·rw [if_neg c39] at H
          have c39b0 : decide (0 < (wrap64 (a1_5 - (Int.tmod a1_5 a0_0)))) = false := decide_eq_false c39
          clear c39
          replace H := Option.bind_eq_some_iff.mp H
          obtain ⟨⟨t352, t353, t354, t355, t356, t357, t358⟩, A530, H⟩ := H
          replace H : (if y329.length < 1954687338268 then (impl_foldCode.j1 k1 (y329 ++ [(⟨t352, t353, t354, t355, t356, t357, t358⟩ : S142)]) (wrap64 (a1_5 - (Int.tmod a1_5 a0_0))) a1_0 a1_1 a1_2 a1_3 a1_4 a1_5) else (none)) = some r := H
          have A53 := Aside0.mk A530
          clear A530
          by_cases c54 : y329.length < 1954687338268
          ·rw [if_pos c54] at H
           have LMc54 := Aside0.mk c54
           clear c54
           obtain ⟨y359, hy359⟩ : ∃ y_ : List (S142), y_ = (y329 ++ [(⟨t352, t353, t354, t355, t356, t357, t358⟩ : S142)]) := ⟨_, rfl⟩
           replace H : (impl_foldCode.j1 k1 y359 (wrap64 (a1_5 - (Int.tmod a1_5 a0_0))) a1_0 a1_1 a1_2 a1_3 a1_4 a1_5) = some r := by first | (rw [hy359]; with_reducible exact H) | (have H2_ := (Option.bind_some _ _).symm.trans H; rw [hy359]; with_reducible exact H2_) | (have H2_ := (Option.bind_some _ _).symm.trans H; with_reducible exact H2_) | with_reducible exact H | (rw [hy359]; exact H) | exact H
           have Ny359 := Aside0.mk hy359
           clear hy359
           have H' := Aside0.mk H
           clear H
           go_wp2_with (first | ((with_reducible refine gate_callee (f := 187) rfl ?_); refine goesL_ (some 51) rfl rfl Try.func187 (by kernel_rfl) rfl #[.int .i64 (Int.tmod a1_5 a0_0)] rfl wv1 ?_; (with_reducible refine (impl_firstLanes.calls (Int.tmod a1_5 a0_0) t326 _ A37.out).mono ?_); rintro e w55 ⟨v327, rfl, ho0, hb⟩; refine ⟨_, rfl, ?_⟩; have n0_ := Aside0.mk (Kd.R_elder' (xvr HO_5.out) (Kd.R_base ho0) hb); have n1_ := Aside0.mk (Kd.R_lower (Kd.R_new' ho0 (Kd.R_lt (xvr HO_5.out))) (below_size wv4)); have n2_ := Aside0.mk (xvl BK294.out hb); have n3_ := Aside0.mk (xvl BK295.out hb); have n4_ := Aside0.mk (below_step wv4 hb); clear HO_5; clear BK294; clear BK295; clear HB; have HO_5 := n0_; have HO328 := n1_; have BK294 := n2_; have BK295 := n3_; have HB := n4_; clear n0_ n1_ n2_ n3_ n4_; (try clear hb); (try clear hb2); (try clear hk); (try clear hi); (try clear ho0); obtain ⟨Ao57, co57, eo57⟩ := Kd.R_slice HO328.out; subst eo57) | ((with_reducible refine gate_builtin (b := .append) (xs := #[.tmp 49, .tmp 51]) rfl ?_); at_builtin; refine Kd.R_append_rows k142 (w0 := w) w.heap.size rfl (.tmp 49) (.tmp 51) 87 142 (.agg #[(.int .i64 0), (.int .i64 0), (.int .i64 0), (.int .i64 0), (.int .i64 0), (.int .i64 0), (.slice none 0 0)]) 72 rfl Try.underlying87 info142 rfl (by decide) (by omega) u5 x5_1 t326 _ _ _ (fun k_ => some k_ ≠ (.slice Ao57 t326.length co57 : Value).ownBlock) (fun _ => False) rfl rfl ?aO ?aR (fun _ _ h => h) (fun _ h => h.elim) ?aF ?aB ?aS ?aL ?_; (case aR => repeat (first | exact (Kd.R_reads' HO328.out).2.2 | (with_reducible refine Kd.C_alloc ?_ _) | (with_reducible refine Kd.C_drewN ?_ _) | (with_reducible refine Kd.C_drew ?_))); (case aB => exact wv4); (case aF => exact (fun k_ hk => Kd.fresh' (Kd.R_lt (xvr HO328.out)) k_ hk)); (case aO => exact wv38); (case aS => exact (below_size wv4)); (case aL => have := LMc38.out; omega); intro v330 w56 ho hb hg hat; rw [← Ny329.out] at ho; have n0_ := Aside0.mk (blk_grown (g := gb294) (o := .cells #[.int .i64 a0_0, .int .i64 a0_1] 31 (0, 0)) (xvb BK294.out) hg (Kd.R_ne HO_5.out BK294.out (by decide))); have n1_ := Aside0.mk (blk_grown (g := gb295) (o := .cells #[.int .i64 a1_0, .int .i64 a1_1, .int .i64 a1_2, .int .i64 a1_3, .int .i64 a1_4, .int .i64 a1_5] 25 (0, 0)) (xvb BK295.out) hg (Kd.R_ne HO_5.out BK295.out (by decide))); have n2_ := Aside0.mk (Kd.R_after (ok := (fun _ => True)) (xvr HO328.out) hg hat); have n3_ := Aside0.mk (hb); have n4_ := Aside0.mk (ho); clear BK294; clear BK295; clear HO328; clear HB; clear HO_5; have BK294 := n0_; have BK295 := n1_; have HO328 := n2_; have HB := n3_; have HO331 := n4_; clear n0_ n1_ n2_ n3_ n4_; clear ho hb hg hat; have hnb58 := NB295_294.out; have hnc58 := NB294_295.out; have hcz59_0 : w56.cell? ⟨gb295, 0, none⟩ = some (.int .i64 a1_0) := xvc BK295.out; have hcz59_1 : w56.cell? ⟨gb295, 1, none⟩ = some (.int .i64 a1_1) := xvc BK295.out; have hcz59_2 : w56.cell? ⟨gb295, 2, none⟩ = some (.int .i64 a1_2) := xvc BK295.out; have hcz59_3 : w56.cell? ⟨gb295, 3, none⟩ = some (.int .i64 a1_3) := xvc BK295.out; have hcz59_4 : w56.cell? ⟨gb295, 4, none⟩ = some (.int .i64 a1_4) := xvc BK295.out; have hcz59_5 : w56.cell? ⟨gb295, 5, none⟩ = some (.int .i64 a1_5) := xvc BK295.out; have hfz59_0 := blk_frozen BK295.out 0; have hfz59_1 := blk_frozen BK295.out 1; have hfz59_2 := blk_frozen BK295.out 2; have hfz59_3 := blk_frozen BK295.out 3; have hfz59_4 := blk_frozen BK295.out 4; have hfz59_5 := blk_frozen BK295.out 5) | ((with_reducible refine gate_callee (f := 185) rfl ?_); refine goesL_ (some 69) rfl rfl Try.func185 (by kernel_rfl) rfl #[.int .i64 4, .int .i64 3, .int .i64 a1_3] rfl wv1 ?_; (with_reducible refine (impl_loads.calls 4 3 a1_3 t352 t353 t354 t355 t356 t357 t358 _ A53.out).mono ?_); rintro e w60 ⟨rfl, hb⟩; refine ⟨_, rfl, ?_⟩; have n0_ := Aside0.mk (Kd.R_below (xvr HO328.out) hb); have n1_ := Aside0.mk (Kd.R_below (xvr HO331.out) hb); have n2_ := Aside0.mk (xvl BK294.out hb); have n3_ := Aside0.mk (xvl BK295.out hb); have n4_ := Aside0.mk (below_step wv4 hb); clear HO328; clear HO331; clear BK294; clear BK295; clear HB; have HO328 := n0_; have HO331 := n1_; have BK294 := n2_; have BK295 := n3_; have HB := n4_; clear n0_ n1_ n2_ n3_ n4_; (try clear hb); (try clear hb2); (try clear hk); (try clear hi)) | ((with_reducible refine gate_builtin (b := .append) (xs := #[.tmp 66, .tmp 70]) rfl ?_); at_builtin; refine Kd.R_append k142 (w0 := w) w.heap.size rfl (.tmp 66) (.tmp 70) 87 142 (.agg #[(.int .i64 0), (.int .i64 0), (.int .i64 0), (.int .i64 0), (.int .i64 0), (.int .i64 0), (.slice none 0 0)]) 72 rfl Try.underlying87 info142 rfl (by decide) (by omega) v330 y329 (⟨t352, t353, t354, t355, t356, t357, t358⟩ : S142) [.int .i64 t352, .int .i64 t353, .int .i64 t354, .int .i64 t355, .int .i64 t356, .int .i64 t357, .slice none 0 0] (fun k_ => some k_ ≠ (.slice Ao57 t326.length co57 : Value).ownBlock) (fun _ => False) rfl rfl ?aP (fun _ hk => hk.elim) ?aF ?aO ?aB ?aS ?aL ?_; (case aP => exact k142_mkM _ _ _ (⟨t352, t353, t354, t355, t356, t357, t358⟩ : S142)); (case aB => exact wv4); (case aF => exact (fun k_ hk => Kd.fresh' (Kd.R_lt (xvr HO328.out)) k_ hk)); (case aO => exact (xvr HO331.out)); (case aS => exact (below_size wv4)); (case aL => have := LMc54.out; omega); intro v360 w61 ho hb hg hat; rw [← Ny359.out] at ho; have n0_ := Aside0.mk (blk_grown (g := gb294) (o := .cells #[.int .i64 a0_0, .int .i64 a0_1] 31 (0, 0)) (xvb BK294.out) hg (Kd.R_ne HO331.out BK294.out (by decide))); have n1_ := Aside0.mk (blk_grown (g := gb295) (o := .cells #[.int .i64 a1_0, .int .i64 a1_1, .int .i64 a1_2, .int .i64 a1_3, .int .i64 a1_4, .int .i64 a1_5] 25 (0, 0)) (xvb BK295.out) hg (Kd.R_ne HO331.out BK295.out (by decide))); have n2_ := Aside0.mk (Kd.R_after (ok := (fun _ => True)) (xvr HO328.out) hg hat); have n3_ := Aside0.mk (hb); have n4_ := Aside0.mk (ho); clear BK294; clear BK295; clear HO328; clear HB; clear HO331; have BK294 := n0_; have BK295 := n1_; have HO328 := n2_; have HB := n3_; have HO361 := n4_; clear n0_ n1_ n2_ n3_ n4_; clear ho hb hg hat))
           go_meet
           case rel => exact ⟨_, (y359), H', ⟨(by have := HK1.out; first | omega | exact Nat.le_refl _)⟩, ⟨(by (with_reducible repeat (first | apply Kd.R_alloc | apply Kd.R_drewN | apply Kd.R_drew)); exact Kd.R_mono HO361.out (fun _ hk => trivial))⟩, ⟨(xvb BK294.out)⟩, ⟨(xvb BK295.out)⟩, ⟨wv4⟩⟩
          ·rw [if_neg c54] at H
           exact absurd H (by simp)
        ·rw [if_neg c38] at H
         exact absurd H (by simp)
       ·rw [if_neg c36] at H
        have c36b0 : decide (0 < (Int.tmod a1_5 a0_0)) = false := decide_eq_false c36
        clear c36
        (first | rw [c36b0] | (simp only [i64_w, i32_w]; rw [c36b0]) | skip)
        have H' := Aside0.mk H
        clear H
        go_wp2
        go_meet
        case rel => exact ⟨_, (x5_1), H', ⟨(by have := HK1.out; first | omega | exact Nat.le_refl _)⟩, ⟨(xvr HO_5.out)⟩, ⟨(xvb BK294.out)⟩, ⟨(xvb BK295.out)⟩, ⟨wv4⟩⟩
      case rest =>
       clear HC35
       try clear c1
       try clear c2
       try clear p2
       try clear c3
       try clear c4
       try clear c5
       try clear p6
       try clear c7
       try clear c14
       try clear c14b0
       try clear c15
       try clear c15b0
       try clear c15b1
       try clear c17
       try clear c18
       try clear c25
       try clear c33
       try clear c36
       try clear c36b0
       try clear c38
       try clear c39
       try clear c39b0
       try clear c42
       try clear c54
       try clear c58
       try clear hcz19_0
       try clear hcz19_1
       try clear hcz19_2
       try clear hcz19_3
       try clear hcz19_4
       try clear hcz19_5
       try clear hcz22_0
       try clear hcz22_1
       try clear hcz34_0
       try clear hcz34_1
       try clear hcz59_0
       try clear hcz59_1
       try clear hcz59_2
       try clear hcz59_3
       try clear hcz59_4
       try clear hcz59_5
       try clear hfz19_0
       try clear hfz19_1
       try clear hfz19_2
       try clear hfz19_3
       try clear hfz19_4
       try clear hfz19_5
       try clear hfz22_0
       try clear hfz22_1
       try clear hfz34_0
       try clear hfz34_1
       try clear hfz59_0
       try clear hfz59_1
       try clear hfz59_2
       try clear hfz59_3
       try clear hfz59_4
       try clear hfz59_5
       obtain ⟨kq, x5_34, HA, HJ34, HO_5, BK294, BK295, HB⟩ := hcut
       cases kq with
       | zero => exact absurd HA.out (by simp [impl_foldCode.j1])
       | succ kj34 =>
        have H := HA.out
        clear HA
        simp only [impl_foldCode.j1] at H
        replace H := Option.bind_eq_some_iff.mp H
        obtain ⟨t362, A620, H⟩ := H
        replace H : (if x5_34.length < 1954687338268 then ((some (x5_34 ++ [(⟨10, 4, 4, 0, t362, a1_1, NRow.nil⟩ : S142)] : List (S142))).bind fun y363 => ((impl_firstLanes.f 1).bind fun t366 => (if y363.length + t366.length < 1954687338268 then ((some (y363 ++ t366 : List (S142))).bind fun y369 => ((impl_loads.f 0 3 a1_2).bind fun bt372 => ((impl_does.f a1_1 0 0 4 3).bind fun bt379 => ((impl_stores.f 0 3 a1_2).bind fun bt386 => ((some (([(⟨bt372.1, bt372.2.1, bt372.2.2.1, bt372.2.2.2.1, bt372.2.2.2.2.1, bt372.2.2.2.2.2.1, bt372.2.2.2.2.2.2⟩ : S142), (⟨bt379.1, bt379.2.1, bt379.2.2.1, bt379.2.2.2.1, bt379.2.2.2.2.1, bt379.2.2.2.2.2.1, bt379.2.2.2.2.2.2⟩ : S142), (⟨bt386.1, bt386.2.1, bt386.2.2.1, bt386.2.2.2.1, bt386.2.2.2.2.1, bt386.2.2.2.2.2.1, bt386.2.2.2.2.2.2⟩ : S142)] : List (S142)) : List (S142))).bind fun y393 => (if y369.length + y393.length < 1954687338268 then (some (y369 ++ y393)) else (none))))))) else (none)))) else (none)) = some r := H
        have A62 := Aside0.mk A620
        clear A620
        by_cases c63 : x5_34.length < 1954687338268
        ·rw [if_pos c63] at H
         have LMc63 := Aside0.mk c63
         clear c63
         obtain ⟨y363, hy363⟩ : ∃ y_ : List (S142), y_ = (x5_34 ++ [(⟨10, 4, 4, 0, t362, a1_1, NRow.nil⟩ : S142)]) := ⟨_, rfl⟩
         replace H : ((impl_firstLanes.f 1).bind fun t366 => (if y363.length + t366.length < 1954687338268 then ((some (y363 ++ t366 : List (S142))).bind fun y369 => ((impl_loads.f 0 3 a1_2).bind fun bt372 => ((impl_does.f a1_1 0 0 4 3).bind fun bt379 => ((impl_stores.f 0 3 a1_2).bind fun bt386 => ((some (([(⟨bt372.1, bt372.2.1, bt372.2.2.1, bt372.2.2.2.1, bt372.2.2.2.2.1, bt372.2.2.2.2.2.1, bt372.2.2.2.2.2.2⟩ : S142), (⟨bt379.1, bt379.2.1, bt379.2.2.1, bt379.2.2.2.1, bt379.2.2.2.2.1, bt379.2.2.2.2.2.1, bt379.2.2.2.2.2.2⟩ : S142), (⟨bt386.1, bt386.2.1, bt386.2.2.1, bt386.2.2.2.1, bt386.2.2.2.2.1, bt386.2.2.2.2.2.1, bt386.2.2.2.2.2.2⟩ : S142)] : List (S142)) : List (S142))).bind fun y393 => (if y369.length + y393.length < 1954687338268 then (some (y369 ++ y393)) else (none))))))) else (none))) = some r := by first | (rw [hy363]; with_reducible exact H) | (have H2_ := (Option.bind_some _ _).symm.trans H; rw [hy363]; with_reducible exact H2_) | (have H2_ := (Option.bind_some _ _).symm.trans H; with_reducible exact H2_) | with_reducible exact H | (rw [hy363]; exact H) | exact H
         have Ny363 := Aside0.mk hy363
         clear hy363
         replace H := Option.bind_eq_some_iff.mp H
         obtain ⟨t366, A640, H⟩ := H
         replace H : (if y363.length + t366.length < 1954687338268 then ((some (y363 ++ t366 : List (S142))).bind fun y369 => ((impl_loads.f 0 3 a1_2).bind fun bt372 => ((impl_does.f a1_1 0 0 4 3).bind fun bt379 => ((impl_stores.f 0 3 a1_2).bind fun bt386 => ((some (([(⟨bt372.1, bt372.2.1, bt372.2.2.1, bt372.2.2.2.1, bt372.2.2.2.2.1, bt372.2.2.2.2.2.1, bt372.2.2.2.2.2.2⟩ : S142), (⟨bt379.1, bt379.2.1, bt379.2.2.1, bt379.2.2.2.1, bt379.2.2.2.2.1, bt379.2.2.2.2.2.1, bt379.2.2.2.2.2.2⟩ : S142), (⟨bt386.1, bt386.2.1, bt386.2.2.1, bt386.2.2.2.1, bt386.2.2.2.2.1, bt386.2.2.2.2.2.1, bt386.2.2.2.2.2.2⟩ : S142)] : List (S142)) : List (S142))).bind fun y393 => (if y369.length + y393.length < 1954687338268 then (some (y369 ++ y393)) else (none))))))) else (none)) = some r := H
         have A64 := Aside0.mk A640
         clear A640
         by_cases c65 : y363.length + t366.length < 1954687338268
         ·rw [if_pos c65] at H
          have LMc65 := Aside0.mk c65
          clear c65
          obtain ⟨y369, hy369⟩ : ∃ y_ : List (S142), y_ = (y363 ++ t366) := ⟨_, rfl⟩
          replace H : ((impl_loads.f 0 3 a1_2).bind fun bt372 => ((impl_does.f a1_1 0 0 4 3).bind fun bt379 => ((impl_stores.f 0 3 a1_2).bind fun bt386 => ((some (([(⟨bt372.1, bt372.2.1, bt372.2.2.1, bt372.2.2.2.1, bt372.2.2.2.2.1, bt372.2.2.2.2.2.1, bt372.2.2.2.2.2.2⟩ : S142), (⟨bt379.1, bt379.2.1, bt379.2.2.1, bt379.2.2.2.1, bt379.2.2.2.2.1, bt379.2.2.2.2.2.1, bt379.2.2.2.2.2.2⟩ : S142), (⟨bt386.1, bt386.2.1, bt386.2.2.1, bt386.2.2.2.1, bt386.2.2.2.2.1, bt386.2.2.2.2.2.1, bt386.2.2.2.2.2.2⟩ : S142)] : List (S142)) : List (S142))).bind fun y393 => (if y369.length + y393.length < 1954687338268 then (some (y369 ++ y393)) else (none)))))) = some r := by first | (rw [hy369]; with_reducible exact H) | (have H2_ := (Option.bind_some _ _).symm.trans H; rw [hy369]; with_reducible exact H2_) | (have H2_ := (Option.bind_some _ _).symm.trans H; with_reducible exact H2_) | with_reducible exact H | (rw [hy369]; exact H) | exact H
          have Ny369 := Aside0.mk hy369
          clear hy369
          replace H := Option.bind_eq_some_iff.mp H
          obtain ⟨⟨t372, t373, t374, t375, t376, t377, t378⟩, A660, H⟩ := H
          replace H : ((impl_does.f a1_1 0 0 4 3).bind fun bt379 => ((impl_stores.f 0 3 a1_2).bind fun bt386 => ((some (([(⟨t372, t373, t374, t375, t376, t377, t378⟩ : S142), (⟨bt379.1, bt379.2.1, bt379.2.2.1, bt379.2.2.2.1, bt379.2.2.2.2.1, bt379.2.2.2.2.2.1, bt379.2.2.2.2.2.2⟩ : S142), (⟨bt386.1, bt386.2.1, bt386.2.2.1, bt386.2.2.2.1, bt386.2.2.2.2.1, bt386.2.2.2.2.2.1, bt386.2.2.2.2.2.2⟩ : S142)] : List (S142)) : List (S142))).bind fun y393 => (if y369.length + y393.length < 1954687338268 then (some (y369 ++ y393)) else (none))))) = some r := H
          have A66 := Aside0.mk A660
          clear A660
          replace H := Option.bind_eq_some_iff.mp H
          obtain ⟨⟨t379, t380, t381, t382, t383, t384, t385⟩, A670, H⟩ := H
          replace H : ((impl_stores.f 0 3 a1_2).bind fun bt386 => ((some (([(⟨t372, t373, t374, t375, t376, t377, t378⟩ : S142), (⟨t379, t380, t381, t382, t383, t384, t385⟩ : S142), (⟨bt386.1, bt386.2.1, bt386.2.2.1, bt386.2.2.2.1, bt386.2.2.2.2.1, bt386.2.2.2.2.2.1, bt386.2.2.2.2.2.2⟩ : S142)] : List (S142)) : List (S142))).bind fun y393 => (if y369.length + y393.length < 1954687338268 then (some (y369 ++ y393)) else (none)))) = some r := H
          have A67 := Aside0.mk A670
          clear A670
          replace H := Option.bind_eq_some_iff.mp H
          obtain ⟨⟨t386, t387, t388, t389, t390, t391, t392⟩, A680, H⟩ := H
          replace H : ((some (([(⟨t372, t373, t374, t375, t376, t377, t378⟩ : S142), (⟨t379, t380, t381, t382, t383, t384, t385⟩ : S142), (⟨t386, t387, t388, t389, t390, t391, t392⟩ : S142)] : List (S142)) : List (S142))).bind fun y393 => (if y369.length + y393.length < 1954687338268 then (some (y369 ++ y393)) else (none))) = some r := H
          have A68 := Aside0.mk A680
          clear A680
          obtain ⟨y393, hy393⟩ : ∃ y_ : List (S142), y_ = (([(⟨t372, t373, t374, t375, t376, t377, t378⟩ : S142), (⟨t379, t380, t381, t382, t383, t384, t385⟩ : S142), (⟨t386, t387, t388, t389, t390, t391, t392⟩ : S142)] : List (S142))) := ⟨_, rfl⟩
          replace H : (if y369.length + y393.length < 1954687338268 then (some (y369 ++ y393)) else (none)) = some r := by first | (rw [hy393]; with_reducible exact H) | (have H2_ := (Option.bind_some _ _).symm.trans H; rw [hy393]; with_reducible exact H2_) | (have H2_ := (Option.bind_some _ _).symm.trans H; with_reducible exact H2_) | with_reducible exact H | (rw [hy393]; exact H) | exact H
          have Ny393 := Aside0.mk hy393
          clear hy393
          by_cases c69 : y369.length + y393.length < 1954687338268
          ·rw [if_pos c69] at H
           have LMc69 := Aside0.mk c69
           clear c69
           obtain ⟨y396, hy396⟩ : ∃ y_ : List (S142), y_ = (y369 ++ y393) := ⟨_, rfl⟩
           replace H : (some y396) = some r := by first | (rw [hy396]; with_reducible exact H) | (have H2_ := (Option.bind_some _ _).symm.trans H; rw [hy396]; with_reducible exact H2_) | (have H2_ := (Option.bind_some _ _).symm.trans H; with_reducible exact H2_) | with_reducible exact H | (rw [hy396]; exact H) | exact H
           have Ny396 := Aside0.mk hy396
           clear hy396
           obtain rfl := Option.some.inj H
           try go_wp2
           have n0_ := Aside0.mk (Kd.R_drew HO_5.out)
           have n1_ := Aside0.mk (blk_drew BK294.out)
           have n2_ := Aside0.mk (blk_drew BK295.out)
           have n3_ := Aside0.mk (below_drew1 HB.out)
           clear HO_5
           clear BK294
           clear BK295
           clear HB
           have HO_5 := n0_
           have BK294 := n1_
           have BK295 := n2_
           have HB := n3_
           clear n0_ n1_ n2_ n3_
           refine start_ (n := 10) (S := fun w' => w'.cell? ⟨gb295, 0, none⟩ = some (.int .i64 a1_0) ∧ w'.cell? ⟨gb295, 1, none⟩ = some (.int .i64 a1_1) ∧ w'.cell? ⟨gb295, 2, none⟩ = some (.int .i64 a1_2) ∧ w'.cell? ⟨gb295, 3, none⟩ = some (.int .i64 a1_3) ∧ w'.cell? ⟨gb295, 4, none⟩ = some (.int .i64 a1_4) ∧ w'.cell? ⟨gb295, 5, none⟩ = some (.int .i64 a1_5)) (ds := []) (zv_.bm 10 0) (by kernel_rfl) rfl rfl ⟨xvc BK295.out, xvc BK295.out, xvc BK295.out, xvc BK295.out, xvc BK295.out, xvc BK295.out⟩ (fun hHeld => ?_); refine with_tabW impl_foldCode.tab17 impl_foldCode.bits17 (fun HT_ HW_ => ?_)
           generalize wc.drew = w70 at HO_5 BK294 BK295 HB hHeld ⊢
           refine zv_.pa (i := 0) (N := some 72) (zv_.bm 10 1) HT_.out ?_
           refine zv_.pa (i := 1) (N := some 73) (zv_.bm 10 3) HT_.out ?_
           refine zv_.pa (i := 2) (N := some 74) (zv_.bm 10 7) HT_.out ?_
           refine zv_.pa (i := 4) (N := some 76) (zv_.bm 10 23) HT_.out ?_
           refine zv_.ta (i := 5) (N := some 77) (zv_.bm 10 55) rfl (take_ofW HT_.out HW_.out (by kernel_rfl)) (Or.inl ⟨(by rfl), wv13⟩) hHeld ?_
           refine one_ (i := 3) (N := some 75) (zv_.bm 10 63) rfl rfl (one_of HT_.out (by kernel_rfl)) (by decide) (fun K hK => ?_)
           refine goes_ Try.func165 (by kernel_rfl) rfl #[.bool (decide ((wrap64 (a1_5 - (Int.tmod a1_5 a0_0))) > 0)), .int .i64 (-1), .int .i64 3] (by rfl) rfl rfl wv1 ?_
           with_reducible refine (impl_pick.calls (decide ((wrap64 (a1_5 - (Int.tmod a1_5 a0_0))) > 0)) (-1) 3 t362 _ A62.out).mono ?_
           rintro e w' ⟨rfl, ⟨nd, rfl⟩⟩
           refine ⟨_, rfl, ?_⟩
           refine hK.out _ _ ⟨xvc BK295.out, xvc BK295.out, xvc BK295.out, xvc BK295.out, xvc BK295.out, xvc BK295.out⟩ (fun hHeld => ?_)
           clear hK K
           refine norm_ (a' := ?_) ?_ ?_
           rotate_left
           ·show Act.put _ (some 75) _ = _
            simp only [Act.put, List.setIfInBounds_toArray, List.set_cons_zero, List.set_cons_succ, i64_w, i32_w]
            rfl
           refine zv_.pa (i := 6) (N := some 78) (zv_.bm 10 127) HT_.out ?_
           refine one_ (i := 7) (N := some 79) (zv_.bm 10 255) rfl rfl (one_of HT_.out (by kernel_rfl)) (by decide) (fun K hK => ?_)
           refine value_ (w1 := ?_) (v := ?_) (by rfl) rfl ?_ ?_
           rotate_left 2
           ·go_simp
            constructor
            ·rfl
            ·rfl
           refine hK.out _ _ ⟨(blk_cell (blk_alloc BK295.out _) 0).trans rfl, (blk_cell (blk_alloc BK295.out _) 1).trans rfl, (blk_cell (blk_alloc BK295.out _) 2).trans rfl, (blk_cell (blk_alloc BK295.out _) 3).trans rfl, (blk_cell (blk_alloc BK295.out _) 4).trans rfl, (blk_cell (blk_alloc BK295.out _) 5).trans rfl⟩ (fun hHeld => ?_)
           clear hK K
           refine norm_ (a' := ?_) ?_ ?_
           rotate_left
           ·show Act.put _ (some 79) _ = _
            simp only [Act.put, List.setIfInBounds_toArray, List.set_cons_zero, List.set_cons_succ, i64_w, i32_w]
            rfl
           refine one_ (i := 8) (N := some 80) (zv_.bm 10 511) rfl rfl (one_of HT_.out (by kernel_rfl)) (by decide) (fun K hK => ?_)
           refine Kd.R_append_step k142 (w0 := w) w.heap.size (by rfl) (.tmp 72) (.tmp 79) 87 142 (.agg #[(.int .i64 0), (.int .i64 0), (.int .i64 0), (.int .i64 0), (.int .i64 0), (.int .i64 0), (.slice none 0 0)]) 72 rfl Try.underlying87 info142 rfl (by decide) (by omega) u5 x5_34 (⟨10, 4, 4, 0, t362, a1_1, NRow.nil⟩ : S142) [.int .i64 10, .int .i64 4, .int .i64 4, .int .i64 0, .int .i64 t362, .int .i64 a1_1, .slice none 0 0] (fun _ => True) (fun _ => False) rfl rfl ?aP (fun _ hk => hk.elim) ?aF ?aO ?aB ?aS ?aL ?_
           (case aP => exact k142_mkM _ _ _ (⟨10, 4, 4, 0, t362, a1_1, NRow.nil⟩ : S142))
           (case aB => exact wv4)
           (case aF => exact (fun _ _ => trivial))
           (case aO => exact (xvr HO_5.out))
           (case aS => exact (below_size wv4))
           (case aL => have := LMc63.out; omega)
           intro v364 w71 ho hb hg hat
           rw [← Ny363.out] at ho
           have n0_ := Aside0.mk (blk_grown (g := gb294) (o := .cells #[.int .i64 a0_0, .int .i64 a0_1] 31 (0, 0)) (xvb BK294.out) hg (Kd.R_ne HO_5.out BK294.out (by decide)))
           have n1_ := Aside0.mk (blk_grown (g := gb295) (o := .cells #[.int .i64 a1_0, .int .i64 a1_1, .int .i64 a1_2, .int .i64 a1_3, .int .i64 a1_4, .int .i64 a1_5] 25 (0, 0)) (xvb BK295.out) hg (Kd.R_ne HO_5.out BK295.out (by decide)))
           have n2_ := Aside0.mk (hb)
           have n3_ := Aside0.mk (ho)
           clear BK294
           clear BK295
           clear HB
           clear HO_5
           have BK294 := n0_
           have BK295 := n1_
           have HB := n2_
           have HO365 := n3_
           clear n0_ n1_ n2_ n3_
           clear ho hb hg hat
           refine hK.out _ _ ⟨xvc BK295.out, xvc BK295.out, xvc BK295.out, xvc BK295.out, xvc BK295.out, xvc BK295.out⟩ (fun hHeld => ?_)
           clear hK K
           refine norm_ (a' := ?_) ?_ ?_
           rotate_left
           ·show Act.put _ (some 80) _ = _
            simp only [Act.put, List.setIfInBounds_toArray, List.set_cons_zero, List.set_cons_succ, i64_w, i32_w]
            rfl
           refine zv_.pa (i := 9) (N := some 5) (zv_.bm 10 1023) HT_.out ?_
           refine done_ (done_of HT_.out (by kernel_rfl)) ?_
           try go_wp2_with (first | ((with_reducible refine gate_callee (f := 187) rfl ?_); refine goesL_ (some 82) rfl rfl Try.func187 (by kernel_rfl) rfl #[.int .i64 1] rfl wv1 ?_; (with_reducible refine (impl_firstLanes.calls 1 t366 _ A64.out).mono ?_); rintro e w72 ⟨v367, rfl, ho0, hb⟩; refine ⟨_, rfl, ?_⟩; have n0_ := Aside0.mk (Kd.R_elder' (xvr HO365.out) (Kd.R_base ho0) hb); have n1_ := Aside0.mk (Kd.R_lower (Kd.R_new' ho0 (Kd.R_lt (xvr HO365.out))) (below_size wv4)); have n2_ := Aside0.mk (xvl BK294.out hb); have n3_ := Aside0.mk (xvl BK295.out hb); have n4_ := Aside0.mk (below_step wv4 hb); clear HO365; clear BK294; clear BK295; clear HB; have HO365 := n0_; have HO368 := n1_; have BK294 := n2_; have BK295 := n3_; have HB := n4_; clear n0_ n1_ n2_ n3_ n4_; (try clear hb); (try clear hb2); (try clear hk); (try clear hi); (try clear ho0); obtain ⟨Ao74, co74, eo74⟩ := Kd.R_slice HO368.out; subst eo74) | ((with_reducible refine gate_builtin (b := .append) (xs := #[.tmp 81, .tmp 82]) rfl ?_); at_builtin; refine Kd.R_append_rows k142 (w0 := w) w.heap.size rfl (.tmp 81) (.tmp 82) 87 142 (.agg #[(.int .i64 0), (.int .i64 0), (.int .i64 0), (.int .i64 0), (.int .i64 0), (.int .i64 0), (.slice none 0 0)]) 72 rfl Try.underlying87 info142 rfl (by decide) (by omega) v364 y363 t366 _ _ _ (fun k_ => some k_ ≠ (.slice Ao74 t366.length co74 : Value).ownBlock) (fun _ => False) rfl rfl ?aO ?aR (fun _ _ h => h) (fun _ h => h.elim) ?aF ?aB ?aS ?aL ?_; (case aR => repeat (first | exact (Kd.R_reads' HO368.out).2.2 | (with_reducible refine Kd.C_alloc ?_ _) | (with_reducible refine Kd.C_drewN ?_ _) | (with_reducible refine Kd.C_drew ?_))); (case aB => exact wv4); (case aF => exact (fun k_ hk => Kd.fresh' (Kd.R_lt (xvr HO368.out)) k_ hk)); (case aO => exact (by (with_reducible repeat (first | apply Kd.R_alloc | apply Kd.R_drewN | apply Kd.R_drew)); exact Kd.R_mono HO365.out (fun _ hk => hk.2))); (case aS => exact (below_size wv4)); (case aL => have := LMc65.out; omega); intro v370 w73 ho hb hg hat; rw [← Ny369.out] at ho; have n0_ := Aside0.mk (blk_grown (g := gb294) (o := .cells #[.int .i64 a0_0, .int .i64 a0_1] 31 (0, 0)) (xvb BK294.out) hg (Kd.R_ne HO365.out BK294.out (by decide))); have n1_ := Aside0.mk (blk_grown (g := gb295) (o := .cells #[.int .i64 a1_0, .int .i64 a1_1, .int .i64 a1_2, .int .i64 a1_3, .int .i64 a1_4, .int .i64 a1_5] 25 (0, 0)) (xvb BK295.out) hg (Kd.R_ne HO365.out BK295.out (by decide))); have n2_ := Aside0.mk (Kd.R_after (ok := (fun _ => True)) (xvr HO368.out) hg hat); have n3_ := Aside0.mk (hb); have n4_ := Aside0.mk (ho); clear BK294; clear BK295; clear HO368; clear HB; clear HO365; have BK294 := n0_; have BK295 := n1_; have HO368 := n2_; have HB := n3_; have HO371 := n4_; clear n0_ n1_ n2_ n3_ n4_; clear ho hb hg hat))
           have n0_ := Aside0.mk (Kd.R_drew HO368.out)
           have n1_ := Aside0.mk (Kd.R_drew HO371.out)
           have n2_ := Aside0.mk (blk_drew BK294.out)
           have n3_ := Aside0.mk (blk_drew BK295.out)
           have n4_ := Aside0.mk (below_drew1 HB.out)
           clear HO368
           clear HO371
           clear BK294
           clear BK295
           clear HB
           have HO368 := n0_
           have HO371 := n1_
           have BK294 := n2_
           have BK295 := n3_
           have HB := n4_
           clear n0_ n1_ n2_ n3_ n4_
           refine start_ (n := 13) (S := fun w' => w'.cell? ⟨gb295, 0, none⟩ = some (.int .i64 a1_0) ∧ w'.cell? ⟨gb295, 1, none⟩ = some (.int .i64 a1_1) ∧ w'.cell? ⟨gb295, 2, none⟩ = some (.int .i64 a1_2) ∧ w'.cell? ⟨gb295, 3, none⟩ = some (.int .i64 a1_3) ∧ w'.cell? ⟨gb295, 4, none⟩ = some (.int .i64 a1_4) ∧ w'.cell? ⟨gb295, 5, none⟩ = some (.int .i64 a1_5)) (ds := []) (zv_.bm 13 0) (by kernel_rfl) rfl rfl ⟨xvc BK295.out, xvc BK295.out, xvc BK295.out, xvc BK295.out, xvc BK295.out, xvc BK295.out⟩ (fun hHeld => ?_); refine with_tabW impl_foldCode.tab19 impl_foldCode.bits19 (fun HT_ HW_ => ?_)
           generalize w73.drew = w75 at HO368 HO371 BK294 BK295 HB hHeld ⊢
           refine zv_.pa (i := 0) (N := some 84) (zv_.bm 13 1) HT_.out ?_
           refine zv_.pa (i := 1) (N := some 85) (zv_.bm 13 3) HT_.out ?_
           refine zv_.pa (i := 4) (N := some 88) (zv_.bm 13 19) HT_.out ?_
           refine zv_.pa (i := 7) (N := some 91) (zv_.bm 13 147) HT_.out ?_
           refine zv_.ta (i := 2) (N := some 86) (zv_.bm 13 151) rfl (take_ofW HT_.out HW_.out (by kernel_rfl)) (Or.inl ⟨(by rfl), wv13⟩) hHeld ?_
           refine zv_.ta (i := 5) (N := some 89) (zv_.bm 13 183) rfl (take_ofW HT_.out HW_.out (by kernel_rfl)) (Or.inl ⟨(by rfl), wv13⟩) hHeld ?_
           refine zv_.ta (i := 8) (N := some 92) (zv_.bm 13 439) rfl (take_ofW HT_.out HW_.out (by kernel_rfl)) (Or.inl ⟨(by rfl), wv13⟩) hHeld ?_
           refine one_ (i := 3) (N := some 87) (zv_.bm 13 447) rfl rfl (one_of HT_.out (by kernel_rfl)) (by decide) (fun K hK => ?_)
           refine goes_ Try.func185 (by kernel_rfl) rfl #[.int .i64 0, .int .i64 3, .int .i64 a1_2] (by rfl) rfl rfl wv1 ?_
           with_reducible refine (impl_loads.calls 0 3 a1_2 t372 t373 t374 t375 t376 t377 t378 _ A66.out).mono ?_
           rintro e w76 ⟨rfl, hb⟩
           refine ⟨_, rfl, ?_⟩
           have n0_ := Aside0.mk (Kd.R_below (xvr HO368.out) hb)
           have n1_ := Aside0.mk (Kd.R_below (xvr HO371.out) hb)
           have n2_ := Aside0.mk (xvl BK294.out hb)
           have n3_ := Aside0.mk (xvl BK295.out hb)
           have n4_ := Aside0.mk (below_step wv4 hb)
           clear HO368
           clear HO371
           clear BK294
           clear BK295
           clear HB
           have HO368 := n0_
           have HO371 := n1_
           have BK294 := n2_
           have BK295 := n3_
           have HB := n4_
           clear n0_ n1_ n2_ n3_ n4_
           (try clear hb)
           (try clear hb2)
           (try clear hk)
           (try clear hi)
           refine hK.out _ _ ⟨xvc BK295.out, xvc BK295.out, xvc BK295.out, xvc BK295.out, xvc BK295.out, xvc BK295.out⟩ (fun hHeld => ?_)
           clear hK K
           refine norm_ (a' := ?_) ?_ ?_
           rotate_left
           ·show Act.put _ (some 87) _ = _
            simp only [Act.put, List.setIfInBounds_toArray, List.set_cons_zero, List.set_cons_succ, i64_w, i32_w]
            rfl
           refine one_ (i := 6) (N := some 90) (zv_.bm 13 511) rfl rfl (one_of HT_.out (by kernel_rfl)) (by decide) (fun K hK => ?_)
           refine goes_ Try.func186 (by kernel_rfl) rfl #[.int .i64 a1_1, .int .i64 0, .int .i64 0, .int .i64 4, .int .i64 3] (by rfl) rfl rfl wv1 ?_
           with_reducible refine (impl_does.calls a1_1 0 0 4 3 t379 t380 t381 t382 t383 t384 t385 _ A67.out).mono ?_
           rintro e w77 ⟨rfl, hb⟩
           refine ⟨_, rfl, ?_⟩
           have n0_ := Aside0.mk (Kd.R_below (xvr HO368.out) hb)
           have n1_ := Aside0.mk (Kd.R_below (xvr HO371.out) hb)
           have n2_ := Aside0.mk (xvl BK294.out hb)
           have n3_ := Aside0.mk (xvl BK295.out hb)
           have n4_ := Aside0.mk (below_step wv4 hb)
           clear HO368
           clear HO371
           clear BK294
           clear BK295
           clear HB
           have HO368 := n0_
           have HO371 := n1_
           have BK294 := n2_
           have BK295 := n3_
           have HB := n4_
           clear n0_ n1_ n2_ n3_ n4_
           (try clear hb)
           (try clear hb2)
           (try clear hk)
           (try clear hi)
           refine hK.out _ _ ⟨xvc BK295.out, xvc BK295.out, xvc BK295.out, xvc BK295.out, xvc BK295.out, xvc BK295.out⟩ (fun hHeld => ?_)
           clear hK K
           refine norm_ (a' := ?_) ?_ ?_
           rotate_left
           ·show Act.put _ (some 90) _ = _
            simp only [Act.put, List.setIfInBounds_toArray, List.set_cons_zero, List.set_cons_succ, i64_w, i32_w]
            rfl
           refine one_ (i := 9) (N := some 93) (zv_.bm 13 1023) rfl rfl (one_of HT_.out (by kernel_rfl)) (by decide) (fun K hK => ?_)
           refine goes_ Try.func188 (by kernel_rfl) rfl #[.int .i64 0, .int .i64 3, .int .i64 a1_2] (by rfl) rfl rfl wv1 ?_
           with_reducible refine (impl_stores.calls 0 3 a1_2 t386 t387 t388 t389 t390 t391 t392 _ A68.out).mono ?_
           rintro e w78 ⟨rfl, hb⟩
           refine ⟨_, rfl, ?_⟩
           have n0_ := Aside0.mk (Kd.R_below (xvr HO368.out) hb)
           have n1_ := Aside0.mk (Kd.R_below (xvr HO371.out) hb)
           have n2_ := Aside0.mk (xvl BK294.out hb)
           have n3_ := Aside0.mk (xvl BK295.out hb)
           have n4_ := Aside0.mk (below_step wv4 hb)
           clear HO368
           clear HO371
           clear BK294
           clear BK295
           clear HB
           have HO368 := n0_
           have HO371 := n1_
           have BK294 := n2_
           have BK295 := n3_
           have HB := n4_
           clear n0_ n1_ n2_ n3_ n4_
           (try clear hb)
           (try clear hb2)
           (try clear hk)
           (try clear hi)
           refine hK.out _ _ ⟨xvc BK295.out, xvc BK295.out, xvc BK295.out, xvc BK295.out, xvc BK295.out, xvc BK295.out⟩ (fun hHeld => ?_)
           clear hK K
           refine norm_ (a' := ?_) ?_ ?_
           rotate_left
           ·show Act.put _ (some 93) _ = _
            simp only [Act.put, List.setIfInBounds_toArray, List.set_cons_zero, List.set_cons_succ, i64_w, i32_w]
            rfl
           refine one_ (i := 10) (N := some 94) (zv_.bm 13 2047) rfl rfl (one_of HT_.out (by kernel_rfl)) (by decide) (fun K hK => ?_)
           refine Kd.R_lit_step k142 _ 142 ?hg (N := 94) ?hd (xs := ([(⟨t372, t373, t374, t375, t376, t377, t378⟩ : S142), (⟨t379, t380, t381, t382, t383, t384, t385⟩ : S142), (⟨t386, t387, t388, t389, t390, t391, t392⟩ : S142)] : List (S142))) (inner := [.int .i64 t372, .int .i64 t373, .int .i64 t374, .int .i64 t375, .int .i64 t376, .int .i64 t377, .slice none 0 0, .int .i64 t379, .int .i64 t380, .int .i64 t381, .int .i64 t382, .int .i64 t383, .int .i64 t384, .slice none 0 0, .int .i64 t386, .int .i64 t387, .int .i64 t388, .int .i64 t389, .int .i64 t390, .int .i64 t391, .slice none 0 0]) (ok := fun _ => True) (okp := fun _ => True) ?hr ?hp (fun _ hk => hk) trivial (Below.refl _ _) (Nat.le_refl _) (by simp) ?_; (case hd => rfl); (case hg => rfl); (case hr => first | (go_simp; done) | (go_simp; rfl)); (case hp => exact (Reps.c7 (show Kd.M k142 _ _ _ (⟨t372, t373, t374, t375, t376, t377, t378⟩ : S142) [.int .i64 t372, .int .i64 t373, .int .i64 t374, .int .i64 t375, .int .i64 t376, .int .i64 t377, .slice none 0 0] from (k142_mkM _ _ _ (⟨t372, t373, t374, t375, t376, t377, t378⟩ : S142) )) (Reps.c7 (show Kd.M k142 _ _ _ (⟨t379, t380, t381, t382, t383, t384, t385⟩ : S142) [.int .i64 t379, .int .i64 t380, .int .i64 t381, .int .i64 t382, .int .i64 t383, .int .i64 t384, .slice none 0 0] from (k142_mkM _ _ _ (⟨t379, t380, t381, t382, t383, t384, t385⟩ : S142) )) (Reps.c7 (show Kd.M k142 _ _ _ (⟨t386, t387, t388, t389, t390, t391, t392⟩ : S142) [.int .i64 t386, .int .i64 t387, .int .i64 t388, .int .i64 t389, .int .i64 t390, .int .i64 t391, .slice none 0 0] from (k142_mkM _ _ _ (⟨t386, t387, t388, t389, t390, t391, t392⟩ : S142) )) (Reps.none _ _)))))
           intro v394 w79 ho80 hb hg_ hnew_
           clear hg_ hnew_
           (first | rw [← Ny393.out] at ho80 | (simp only [Int.reduceToNat] at ho80; rw [← Ny393.out] at ho80))
           have n0_ := Aside0.mk (Kd.R_elder' (xvr HO368.out) (Kd.R_base ho80) hb)
           have n1_ := Aside0.mk (Kd.R_elder' (xvr HO371.out) (Kd.R_base ho80) hb)
           have n2_ := Aside0.mk (Kd.R_lower (Kd.R_new' (Kd.R_new' ho80 (Kd.R_lt (xvr HO368.out))) (Kd.R_lt (xvr HO371.out))) (below_size wv4))
           have n3_ := Aside0.mk (xvl BK294.out hb)
           have n4_ := Aside0.mk (xvl BK295.out hb)
           have n5_ := Aside0.mk (below_step wv4 hb)
           clear HO368
           clear HO371
           clear BK294
           clear BK295
           clear HB
           have HO368 := n0_
           have HO371 := n1_
           have HO395 := n2_
           have BK294 := n3_
           have BK295 := n4_
           have HB := n5_
           clear n0_ n1_ n2_ n3_ n4_ n5_
           clear hb ho80
           obtain ⟨Ao82, co82, eo82⟩ := Kd.R_slice HO395.out
           (first | subst eo82 | (injection eo82 with f1_ f2_ f3_; have f4_ := f1_.symm; have f5_ := f3_.symm; clear f1_ f2_ f3_; subst f4_; subst f5_))
           refine hK.out _ _ ⟨xvc BK295.out, xvc BK295.out, xvc BK295.out, xvc BK295.out, xvc BK295.out, xvc BK295.out⟩ (fun hHeld => ?_)
           clear hK K
           refine norm_ (a' := ?_) ?_ ?_
           rotate_left
           ·show Act.put _ (some 94) _ = _
            simp only [Act.put, List.setIfInBounds_toArray, List.set_cons_zero, List.set_cons_succ, i64_w, i32_w]
            rfl
           refine one_ (i := 11) (N := some 95) (zv_.bm 13 4095) rfl rfl (one_of HT_.out (by kernel_rfl)) (by decide) (fun K hK => ?_)
           refine Kd.R_append_rows_step k142 (w0 := w) w.heap.size (by rfl) (.tmp 84) (.tmp 94) 87 142 (.agg #[(.int .i64 0), (.int .i64 0), (.int .i64 0), (.int .i64 0), (.int .i64 0), (.int .i64 0), (.slice none 0 0)]) 72 rfl Try.underlying87 info142 rfl (by decide) (by omega) v370 y369 y393 _ _ _ (fun k_ => some k_ ≠ (.slice Ao74 t366.length co74 : Value).ownBlock ∧ some k_ ≠ (.slice Ao82 y393.length co82 : Value).ownBlock) (fun _ => False) rfl rfl ?aO ?aR (fun _ _ h => h) (fun _ h => h.elim) ?aF ?aB ?aS ?aL ?_
           (case aR => repeat (first | exact (Kd.R_reads' HO395.out).2.2 | (with_reducible refine Kd.C_alloc ?_ _) | (with_reducible refine Kd.C_drewN ?_ _) | (with_reducible refine Kd.C_drew ?_)))
           (case aB => exact wv4)
           (case aF => exact (fun k_ hk => ⟨Kd.fresh' (Kd.R_lt (xvr HO368.out)) k_ hk, Kd.fresh' (Kd.R_lt (xvr HO395.out)) k_ hk⟩))
           (case aO => exact (xvr HO371.out))
           (case aS => exact (below_size wv4))
           (case aL => have := LMc69.out; omega)
           intro v397 w81 ho hb hg hat
           rw [← Ny396.out] at ho
           have n0_ := Aside0.mk (blk_grown (g := gb294) (o := .cells #[.int .i64 a0_0, .int .i64 a0_1] 31 (0, 0)) (xvb BK294.out) hg (Kd.R_ne HO371.out BK294.out (by decide)))
           have n1_ := Aside0.mk (blk_grown (g := gb295) (o := .cells #[.int .i64 a1_0, .int .i64 a1_1, .int .i64 a1_2, .int .i64 a1_3, .int .i64 a1_4, .int .i64 a1_5] 25 (0, 0)) (xvb BK295.out) hg (Kd.R_ne HO371.out BK295.out (by decide)))
           have n2_ := Aside0.mk (Kd.R_after (ok := (fun k_ => some k_ ≠ (.slice Ao82 y393.length co82 : Value).ownBlock)) (by (with_reducible repeat (first | apply Kd.R_alloc | apply Kd.R_drewN | apply Kd.R_drew)); exact Kd.R_mono HO368.out (fun _ hk => ⟨hk.2, hk.1.2⟩)) hg hat)
           have n3_ := Aside0.mk (Kd.R_after (ok := (fun k_ => some k_ ≠ (.slice Ao74 t366.length co74 : Value).ownBlock)) (by (with_reducible repeat (first | apply Kd.R_alloc | apply Kd.R_drewN | apply Kd.R_drew)); exact Kd.R_mono HO395.out (fun _ hk => ⟨hk.1.2, hk.2⟩)) hg hat)
           have n4_ := Aside0.mk (hb)
           have n5_ := Aside0.mk (ho)
           clear BK294
           clear BK295
           clear HO368
           clear HO395
           clear HB
           clear HO371
           have BK294 := n0_
           have BK295 := n1_
           have HO368 := n2_
           have HO395 := n3_
           have HB := n4_
           have HO398 := n5_
           clear n0_ n1_ n2_ n3_ n4_ n5_
           clear ho hb hg hat
           refine hK.out _ _ ⟨xvc BK295.out, xvc BK295.out, xvc BK295.out, xvc BK295.out, xvc BK295.out, xvc BK295.out⟩ (fun hHeld => ?_)
           clear hK K
           refine norm_ (a' := ?_) ?_ ?_
           rotate_left
           ·show Act.put _ (some 95) _ = _
            simp only [Act.put, List.setIfInBounds_toArray, List.set_cons_zero, List.set_cons_succ, i64_w, i32_w]
            rfl
           refine zv_.pa (i := 12) (N := some 4) (zv_.bm 13 8191) HT_.out ?_
           refine done_ (done_of HT_.out (by kernel_rfl)) ?_
           try go_wp2
           go_ret
           exact ⟨_, wv3, (by (with_reducible repeat (first | apply Kd.R_alloc | apply Kd.R_drewN | apply Kd.R_drew)); exact Kd.R_mono HO398.out (fun _ hk => trivial)), wv4⟩
          ·rw [if_neg c69] at H
           exact absurd H (by simp)
         ·rw [if_neg c65] at H
          exact absurd H (by simp)
        ·rw [if_neg c63] at H
         exact absurd H (by simp)

end Go.Proofs.Ytpfoeologjacfaa.V
