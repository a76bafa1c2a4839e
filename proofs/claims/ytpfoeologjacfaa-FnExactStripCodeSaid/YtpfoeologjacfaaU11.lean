-- Written by a program of this session (wip/tools) over the kit's print.
-- COMPACT
import Derived.Test.YtpfoeologjacfaaU0
import Derived.Test.YtpfoeologjacfaaU8
import Derived.Test.YtpfoeologjacfaaU9
import Derived.Test.YtpfoeologjacfaaU10
namespace Go.Proofs.Ytpfoeologjacfaa.U
open Go.RowKit Go.Proofs.YtpfoeologjacfaaW.PrintWords Go.Proofs.YtpfoeologjacfaaW.PrintLast Go.Proofs.YtpfoeologjacfaaW.PrintMore
attribute [local go_sem] max2_int min2_int max_two min_two max_three min_three max_four min_four   -- for this text's walks alone
set_option linter.unusedVariables false
set_option linter.unusedSimpArgs false

/-! ### impl_mapCode: function 133 -/
mutual
def impl_mapCode.l0 : Nat → Int → List (S142) → Int → Int → Int → Int → Int → Int → Int → Int → Int → Int → Int → Option ((List (S142)))
 | 0, _, _, _, _, _, _, _, _, _, _, _, _, _ => none
 | k + 1, x2, x7, x8, x9, x10, x425000, x425001, x426000, x426001, x426002, x426003, x426004, x426005 => if x10 < x9 then ((impl_strip.f x426000 x426001 x426002 x426003 x426004 x426005 x10 (-1)).bind fun t426 => (if x7.length + t426.length < 1954687338268 then (impl_mapCode.l0 k x2 (x7 ++ t426) x8 x9 (wrap64 (x10 + x425000)) x425000 x425001 x426000 x426001 x426002 x426003 x426004 x426005) else (none))) else (if x8 = 0 then (some x7) else (if x2 = 0 then ((impl_firstLanes.f x8).bind fun t432 => (if x7.length + t432.length < 1954687338268 then ((some (x7 ++ t432 : List (S142))).bind fun y435 => ((impl_strip.f x426000 x426001 x426002 x426003 x426004 x426005 x9 3).bind fun t438 => (if y435.length + t438.length < 1954687338268 then (some (y435 ++ t438)) else (none)))) else (none))) else (if x2 = 1 then ((impl_firstLanes.f 1).bind fun t444 => (if x7.length + t444.length < 1954687338268 then (impl_mapCode.l1 k (x7 ++ t444) x9 x426000 x426001 x426002 x426003 x426004 x426005) else (none))) else ((impl_strip.f x426000 x426001 x426002 x426003 x426004 x426005 (wrap64 (x426005 - x425000)) (-1)).bind fun t456 => (if x7.length + t456.length < 1954687338268 then (some (x7 ++ t456)) else (none))))))
def impl_mapCode.l1 : Nat → List (S142) → Int → Int → Int → Int → Int → Int → Int → Option ((List (S142)))
 | 0, _, _, _, _, _, _, _, _ => none
 | k + 1, x7, x11, x426000, x426001, x426002, x426003, x426004, x426005 => if x11 < x426005 then ((impl_strip.f x426000 x426001 x426002 x426003 x426004 x426005 x11 3).bind fun t450 => (if x7.length + t450.length < 1954687338268 then (impl_mapCode.l1 k (x7 ++ t450) (wrap64 (x11 + 1)) x426000 x426001 x426002 x426003 x426004 x426005) else (none))) else (some x7)
end
def impl_mapCode.f (k : Nat) (a0_0 : Int) (a0_1 : Int) (a1_0 : Int) (a1_1 : Int) (a1_2 : Int) (a1_3 : Int) (a1_4 : Int) (a1_5 : Int) (a2 : Int) : Option ((List (S142))) := if a0_0 = 0 then (none) else (impl_mapCode.l0 k a2 ([] : List (S142)) (Int.tmod a1_5 a0_0) (wrap64 (a1_5 - (Int.tmod a1_5 a0_0))) 0 a0_0 a0_1 a1_0 a1_1 a1_2 a1_3 a1_4 a1_5)
theorem impl_mapCode.mono_l : ∀ k, (∀ y0 y1 y2 y3 y4 y5 y6 y7 y8 y9 y10 y11 y12, LeO (impl_mapCode.l0 k y0 y1 y2 y3 y4 y5 y6 y7 y8 y9 y10 y11 y12) (impl_mapCode.l0 (k + 1) y0 y1 y2 y3 y4 y5 y6 y7 y8 y9 y10 y11 y12)) ∧ (∀ y0 y1 y2 y3 y4 y5 y6 y7, LeO (impl_mapCode.l1 k y0 y1 y2 y3 y4 y5 y6 y7) (impl_mapCode.l1 (k + 1) y0 y1 y2 y3 y4 y5 y6 y7))
 | 0 => ⟨fun _ _ _ _ _ _ _ _ _ _ _ _ _ r h => by simp [impl_mapCode.l0] at h, fun _ _ _ _ _ _ _ _ r h => by simp [impl_mapCode.l1] at h⟩
 | k + 1 => by
  obtain ⟨ih0, ih1⟩ := impl_mapCode.mono_l k
  refine ⟨?_, ?_⟩
  ·intro y0 y1 y2 y3 y4 y5 y6 y7 y8 y9 y10 y11 y12
   unfold impl_mapCode.l0
   repeat' first
   | (with_reducible exact ih0 _ _ _ _ _ _ _ _ _ _ _ _ _)
   | (with_reducible exact ih1 _ _ _ _ _ _ _ _)
   | (with_reducible exact LeO.refl _)
   | (with_reducible exact LeO.none _)
   | (with_reducible refine LeO.ite ?_ ?_)
   | (with_reducible refine LeO.bind ?_ (fun _ => ?_))
   | exact ih0 _ _ _ _ _ _ _ _ _ _ _ _ _
   | exact ih1 _ _ _ _ _ _ _ _
   | exact LeO.none _
   | refine LeO.ite ?_ ?_
   | refine LeO.bind ?_ (fun _ => ?_)
  ·intro y0 y1 y2 y3 y4 y5 y6 y7
   unfold impl_mapCode.l1
   repeat' first
   | (with_reducible exact ih0 _ _ _ _ _ _ _ _ _ _ _ _ _)
   | (with_reducible exact ih1 _ _ _ _ _ _ _ _)
   | (with_reducible exact LeO.refl _)
   | (with_reducible exact LeO.none _)
   | (with_reducible refine LeO.ite ?_ ?_)
   | (with_reducible refine LeO.bind ?_ (fun _ => ?_))
   | exact ih0 _ _ _ _ _ _ _ _ _ _ _ _ _
   | exact ih1 _ _ _ _ _ _ _ _
   | exact LeO.none _
   | refine LeO.ite ?_ ?_
   | refine LeO.bind ?_ (fun _ => ?_)
theorem impl_mapCode.mono : ∀ a0 a1 a2 a3 a4 a5 a6 a7 a8 k, LeO (impl_mapCode.f k a0 a1 a2 a3 a4 a5 a6 a7 a8) (impl_mapCode.f (k + 1) a0 a1 a2 a3 a4 a5 a6 a7 a8) := by
 intro a0 a1 a2 a3 a4 a5 a6 a7 a8 k
 obtain ⟨ih0, ih1⟩ := impl_mapCode.mono_l k
 unfold impl_mapCode.f
 repeat' first
   | (with_reducible exact ih0 _ _ _ _ _ _ _ _ _ _ _ _ _)
   | (with_reducible exact ih1 _ _ _ _ _ _ _ _)
   | (with_reducible exact LeO.refl _)
   | (with_reducible exact LeO.none _)
   | (with_reducible refine LeO.ite ?_ ?_)
   | (with_reducible refine LeO.bind ?_ (fun _ => ?_))
   | exact ih0 _ _ _ _ _ _ _ _ _ _ _ _ _
   | exact ih1 _ _ _ _ _ _ _ _
   | exact LeO.none _
   | refine LeO.ite ?_ ?_
   | refine LeO.bind ?_ (fun _ => ?_)
def impl_mapCode.T11 : Bool × List (List Nat × List Nat) := (true, [([], []), ([], []), ([1], [1]), ([0, 2, 2], [0, 2]), ([], []), ([], []), ([4, 5, 3], [4, 5]), ([3, 6, 6], [3, 6]), ([7, 7, 0, 1, 2, 3, 4, 5, 6, 7], [0, 7])])
def impl_mapCode.B11 : List Nat := [0, 0, 2, 7, 0, 0, 63, 127, 255]
theorem impl_mapCode.tab11 : rtab .any (opsOf Try.f133 11) = impl_mapCode.T11 := by kernel_rfl
theorem impl_mapCode.bits11 : waitsOk impl_mapCode.T11.2 impl_mapCode.B11 = true := by kernel_rfl
set_option maxHeartbeats 8000000 in
set_option maxRecDepth 100000 in
theorem impl_mapCode.calls (k : Nat) (a0_0 : Int) (a0_1 : Int) (a1_0 : Int) (a1_1 : Int) (a1_2 : Int) (a1_3 : Int) (a1_4 : Int) (a1_5 : Int) (a2 : Int) (r : List (S142)) (w : World) (h : impl_mapCode.f k a0_0 a0_1 a1_0 a1_1 a1_2 a1_3 a1_4 a1_5 a2 = some r) :
  Calls Try.prog 133 #[.agg #[.int .i64 a0_0, .int .i64 a0_1], .agg #[.int .i64 a1_0, .int .i64 a1_1, .int .i64 a1_2, .int .i64 a1_3, .int .i64 a1_4, .int .i64 a1_5], .int .i64 a2] w fun e w' => ∃ v0_ : Value, e = .returned (v0_) ∧ Kd.R k142 142 w' w.heap.size (fun _ => True) v0_ r ∧ Below w.heap.size w w' := by
 have hu31 := Try.underlying31
 have hu25 := Try.underlying25
 have HB := Aside0.mk (Below.refl w.heap.size w)
 have H : (if a0_0 = 0 then (none) else (impl_mapCode.l0 k a2 ([] : List (S142)) (Int.tmod a1_5 a0_0) (wrap64 (a1_5 - (Int.tmod a1_5 a0_0))) 0 a0_0 a0_1 a1_0 a1_1 a1_2 a1_3 a1_4 a1_5)) = some r := h
 clear h
 by_cases c4 : a0_0 = 0
 ·rw [if_pos c4] at H
  exact absurd H (by simp)
 ·rw [if_neg c4] at H
  have c4b0 : (a0_0 == 0) = false := beq_eq_false_iff_ne.mpr c4
  have c4b1 : (a0_0 != 0) = true := bne_iff_ne.mpr c4
  have H' := Aside0.mk H
  clear H
  go_enter Try.func133, Try.ntmps133
  go_wp2_with (first | ((with_reducible refine gate_dst (N := 3) rfl ?_); refine box_event ?hg (N := 3) ?hd (cs := #[.int .i64 a0_0, .int .i64 a0_1]) (t := 31) ?hr ?_; (case hd => rfl); (case hg => rfl); (case hr => first | (go_simp; done) | (go_simp; rfl)); intro gb424 hg w5 hbox hb; have n0_ := Aside0.mk (below_step (by repeat (first | (with_reducible first | exact HB.out | apply below_alloc | apply pw_below_drewN | apply below_drew1) | exact HB.out)) hb); have n1_ := Aside0.mk (hbox); have n2_ := Aside0.mk ((by rw [hg]; exact (below_size (by repeat (first | (with_reducible first | exact HB.out | apply below_alloc | apply pw_below_drewN | apply below_drew1) | exact HB.out))) : w.heap.size ≤ gb424)); have n3_ := Aside0.mk ((by rw [hg]; exact (below_size (by repeat (first | (with_reducible first | exact HB.out | apply below_alloc | apply pw_below_drewN | apply below_drew1) | exact HB.out))) : w.heap.size ≤ gb424)); clear HB; have HB := n0_; have BK424 := n1_; have GW424 := n2_; have GE424 := n3_; clear n0_ n1_ n2_ n3_; clear hb hbox hg) | ((with_reducible refine gate_dst (N := 4) rfl ?_); refine box_event ?hg (N := 4) ?hd (cs := #[.int .i64 a1_0, .int .i64 a1_1, .int .i64 a1_2, .int .i64 a1_3, .int .i64 a1_4, .int .i64 a1_5]) (t := 25) ?hr ?_; (case hd => rfl); (case hg => rfl); (case hr => first | (go_simp; done) | (go_simp; rfl)); intro gb425 hg w6 hbox hb; have n0_ := Aside0.mk (blk_below (g := gb424) (o := .cells #[.int .i64 a0_0, .int .i64 a0_1] 31 (0, 0)) (by (with_reducible repeat (first | refine blk_drewN ?_ _ | refine blk_drew ?_ | refine blk_alloc ?_ _)); exact BK424.out) hb); have n1_ := Aside0.mk (below_step (by repeat (first | (with_reducible first | exact HB.out | apply below_alloc | apply pw_below_drewN | apply below_drew1 | refine below_set ?_ GE424.out) | exact HB.out)) hb); have n2_ := Aside0.mk (hbox); have n3_ := Aside0.mk ((by rw [hg]; exact (below_size (by repeat (first | (with_reducible first | exact HB.out | apply below_alloc | apply pw_below_drewN | apply below_drew1 | refine below_set ?_ GE424.out) | exact HB.out))) : w.heap.size ≤ gb425)); have n4_ := Aside0.mk ((by rw [hg]; exact (below_size (by repeat (first | (with_reducible first | exact HB.out | apply below_alloc | apply pw_below_drewN | apply below_drew1 | refine below_set ?_ GE424.out) | exact HB.out))) : w.heap.size ≤ gb425)); have n5_ := Aside0.mk ((by rw [hg]; exact Nat.ne_of_lt (blk_lt (g := gb424) (o := .cells #[.int .i64 a0_0, .int .i64 a0_1] 31 (0, 0)) (by (with_reducible repeat (first | refine blk_drewN ?_ _ | refine blk_drew ?_ | refine blk_alloc ?_ _)); exact BK424.out)) : gb424 ≠ gb425)); have n6_ := Aside0.mk ((by rw [hg]; exact Nat.ne_of_gt (blk_lt (g := gb424) (o := .cells #[.int .i64 a0_0, .int .i64 a0_1] 31 (0, 0)) (by (with_reducible repeat (first | refine blk_drewN ?_ _ | refine blk_drew ?_ | refine blk_alloc ?_ _)); exact BK424.out)) : gb425 ≠ gb424)); clear BK424; clear HB; have BK424 := n0_; have HB := n1_; have BK425 := n2_; have GW425 := n3_; have GE425 := n4_; have NB424_425 := n5_; have NB425_424 := n6_; clear n0_ n1_ n2_ n3_ n4_ n5_ n6_; clear hb hbox hg; have hnb7 := NB425_424.out; have hnc7 := NB424_425.out; have hcz8_0 : w6.cell? ⟨gb425, 0, none⟩ = some (.int .i64 a1_0) := (blk_cell (w := w6) BK425.out 0).trans rfl; have hcz8_1 : w6.cell? ⟨gb425, 1, none⟩ = some (.int .i64 a1_1) := (blk_cell (w := w6) BK425.out 1).trans rfl; have hcz8_2 : w6.cell? ⟨gb425, 2, none⟩ = some (.int .i64 a1_2) := (blk_cell (w := w6) BK425.out 2).trans rfl; have hcz8_3 : w6.cell? ⟨gb425, 3, none⟩ = some (.int .i64 a1_3) := (blk_cell (w := w6) BK425.out 3).trans rfl; have hcz8_4 : w6.cell? ⟨gb425, 4, none⟩ = some (.int .i64 a1_4) := (blk_cell (w := w6) BK425.out 4).trans rfl; have hcz8_5 : w6.cell? ⟨gb425, 5, none⟩ = some (.int .i64 a1_5) := (blk_cell (w := w6) BK425.out 5).trans rfl; have hfz8_0 := blk_frozen (w := w6) BK425.out 0; have hfz8_1 := blk_frozen (w := w6) BK425.out 1; have hfz8_2 := blk_frozen (w := w6) BK425.out 2; have hfz8_3 := blk_frozen (w := w6) BK425.out 3; have hfz8_4 := blk_frozen (w := w6) BK425.out 4; have hfz8_5 := blk_frozen (w := w6) BK425.out 5; have hcz9_0 : w6.cell? ⟨gb424, 0, none⟩ = some (.int .i64 a0_0) := (blk_cell (w := w6) BK424.out 0).trans rfl; have hcz9_1 : w6.cell? ⟨gb424, 1, none⟩ = some (.int .i64 a0_1) := (blk_cell (w := w6) BK424.out 1).trans rfl; have hfz9_0 := blk_frozen (w := w6) BK424.out 0; have hfz9_1 := blk_frozen (w := w6) BK424.out 1))
  go_loopg [7, 10] k (fun kq v7 v10 w' => ∃ (x7_1 : List (S142)) (x10_1 : Int), v10 = .int .i64 x10_1 ∧ Aside0 (impl_mapCode.l0 kq a2 x7_1 (Int.tmod a1_5 a0_0) (wrap64 (a1_5 - (Int.tmod a1_5 a0_0))) x10_1 a0_0 a0_1 a1_0 a1_1 a1_2 a1_3 a1_4 a1_5 = some r) ∧ Aside0 (kq ≤ k) ∧ Aside0 (Kd.R k142 142 w' w.heap.size (fun _ => True) v7 x7_1) ∧ Aside0 (w'.heap[gb424]? = some (.cells #[.int .i64 a0_0, .int .i64 a0_1] 31 (0, 0))) ∧ Aside0 (w'.heap[gb425]? = some (.cells #[.int .i64 a1_0, .int .i64 a1_1, .int .i64 a1_2, .int .i64 a1_3, .int .i64 a1_4, .int .i64 a1_5] 25 (0, 0))) ∧ Aside0 (Below w.heap.size w w'))
  case atStart => exact ⟨(([] : List (S142))), (0), (by first | rfl | (simp; done) | (simp [*]; done)), H', ⟨Nat.le_refl _⟩, ⟨by first | exact Kd.R_nil _ _ _ _ _ | exact Kd.N_nil _ _ _ _ _ | exact Kd.V_nil _ _ _ _ _ | exact Kd.Q_nil _ _ _ _ _ | exact Kd.S_nil _ _ _ _ _⟩, ⟨by (with_reducible repeat (first | refine blk_drewN ?_ _ | refine blk_drew ?_ | refine blk_alloc ?_ _)); exact BK424.out⟩, ⟨by (with_reducible repeat (first | refine blk_drewN ?_ _ | refine blk_drew ?_ | refine blk_alloc ?_ _)); exact BK425.out⟩, ⟨by repeat (first | (with_reducible first | exact HB.out | apply below_alloc | apply pw_below_drewN | apply below_drew1 | refine below_set ?_ GE424.out | refine below_set ?_ GE425.out) | exact HB.out)⟩⟩
  case round =>
   clear H'
   try clear c1
   try clear p2
   try clear c4
   try clear c4b0
   try clear c4b1
   try clear p6
   try clear c7
   try clear hcz8_0
   try clear hcz8_1
   try clear hcz8_2
   try clear hcz8_3
   try clear hcz8_4
   try clear hcz8_5
   try clear hcz9_0
   try clear hcz9_1
   try clear hfz8_0
   try clear hfz8_1
   try clear hfz8_2
   try clear hfz8_3
   try clear hfz8_4
   try clear hfz8_5
   try clear hfz9_0
   try clear hfz9_1
   obtain ⟨x7_1, x10_1, rfl, HA, HK1, HO_7, BK424, BK425, HB⟩ := hrel
   cases gk with
   | zero => exact absurd HA.out (by simp [impl_mapCode.l0])
   | succ k1 =>
    have H := HA.out
    clear HA
    simp only [impl_mapCode.l0] at H
    by_cases c10 : x10_1 < (wrap64 (a1_5 - (Int.tmod a1_5 a0_0)))
    ·rw [if_pos c10] at H
     have c10b0 : decide (x10_1 < (wrap64 (a1_5 - (Int.tmod a1_5 a0_0)))) = true := decide_eq_true c10
     clear c10
     replace H := Option.bind_eq_some_iff.mp H
     obtain ⟨t426, A110, H⟩ := H
     replace H : (if x7_1.length + t426.length < 1954687338268 then (impl_mapCode.l0 k1 a2 (x7_1 ++ t426) (Int.tmod a1_5 a0_0) (wrap64 (a1_5 - (Int.tmod a1_5 a0_0))) (wrap64 (x10_1 + a0_0)) a0_0 a0_1 a1_0 a1_1 a1_2 a1_3 a1_4 a1_5) else (none)) = some r := H
     have A11 := Aside0.mk A110
     clear A110
     by_cases c12 : x7_1.length + t426.length < 1954687338268
     ·rw [if_pos c12] at H
      have LMc12 := Aside0.mk c12
      clear c12
      obtain ⟨y429, hy429⟩ : ∃ y_ : List (S142), y_ = (x7_1 ++ t426) := ⟨_, rfl⟩
      replace H : (impl_mapCode.l0 k1 a2 y429 (Int.tmod a1_5 a0_0) (wrap64 (a1_5 - (Int.tmod a1_5 a0_0))) (wrap64 (x10_1 + a0_0)) a0_0 a0_1 a1_0 a1_1 a1_2 a1_3 a1_4 a1_5) = some r := by first | (rw [hy429]; with_reducible exact H) | (have H2_ := (Option.bind_some _ _).symm.trans H; rw [hy429]; with_reducible exact H2_) | (have H2_ := (Option.bind_some _ _).symm.trans H; with_reducible exact H2_) | with_reducible exact H | (rw [hy429]; exact H) | exact H
      have Ny429 := Aside0.mk hy429
      clear hy429
      have H' := Aside0.mk H
      clear H
      have hnb13 := NB425_424.out
      have hnc13 := NB424_425.out
      have hcz14_0 : wr.cell? ⟨gb425, 0, none⟩ = some (.int .i64 a1_0) := (blk_cell (w := wr) BK425.out 0).trans rfl
      have hcz14_1 : wr.cell? ⟨gb425, 1, none⟩ = some (.int .i64 a1_1) := (blk_cell (w := wr) BK425.out 1).trans rfl
      have hcz14_2 : wr.cell? ⟨gb425, 2, none⟩ = some (.int .i64 a1_2) := (blk_cell (w := wr) BK425.out 2).trans rfl
      have hcz14_3 : wr.cell? ⟨gb425, 3, none⟩ = some (.int .i64 a1_3) := (blk_cell (w := wr) BK425.out 3).trans rfl
      have hcz14_4 : wr.cell? ⟨gb425, 4, none⟩ = some (.int .i64 a1_4) := (blk_cell (w := wr) BK425.out 4).trans rfl
      have hcz14_5 : wr.cell? ⟨gb425, 5, none⟩ = some (.int .i64 a1_5) := (blk_cell (w := wr) BK425.out 5).trans rfl
      have hfz14_0 := blk_frozen (w := wr) BK425.out 0
      have hfz14_1 := blk_frozen (w := wr) BK425.out 1
      have hfz14_2 := blk_frozen (w := wr) BK425.out 2
      have hfz14_3 := blk_frozen (w := wr) BK425.out 3
      have hfz14_4 := blk_frozen (w := wr) BK425.out 4
      have hfz14_5 := blk_frozen (w := wr) BK425.out 5
      go_wp2_with (first | ((with_reducible refine gate_callee (f := 189) rfl ?_); refine goesL_ (some 31) rfl rfl Try.func189 (by kernel_rfl) rfl #[.agg #[.int .i64 a1_0, .int .i64 a1_1, .int .i64 a1_2, .int .i64 a1_3, .int .i64 a1_4, .int .i64 a1_5], .int .i64 x10_1, .int .i64 (-1)] rfl (by (try simp only [List.map_toArray, List.map_cons, List.map_nil]); first | done | rfl | (simp only [List.length_drop, List.length_take]; rfl)) ?_; (with_reducible refine (impl_strip.calls a1_0 a1_1 a1_2 a1_3 a1_4 a1_5 x10_1 (-1) t426 _ A11.out).mono ?_); rintro e w15 ⟨v427, rfl, ho0, hb⟩; refine ⟨_, rfl, ?_⟩; have n0_ := Aside0.mk (Kd.R_elder' (by (with_reducible repeat (first | apply Kd.R_alloc | apply Kd.R_drewN | apply Kd.R_drew)); exact HO_7.out) (Kd.R_base ho0) hb); have n1_ := Aside0.mk (Kd.R_lower (Kd.R_new' ho0 (Kd.R_lt (by (with_reducible repeat (first | apply Kd.R_alloc | apply Kd.R_drewN | apply Kd.R_drew)); exact HO_7.out))) (below_size (by repeat (first | (with_reducible first | exact HB.out | apply below_alloc | apply pw_below_drewN | apply below_drew1 | refine below_set ?_ GE424.out | refine below_set ?_ GE425.out) | exact HB.out)))); have n2_ := Aside0.mk (blk_below (g := gb424) (o := .cells #[.int .i64 a0_0, .int .i64 a0_1] 31 (0, 0)) (by (with_reducible repeat (first | refine blk_drewN ?_ _ | refine blk_drew ?_ | refine blk_alloc ?_ _)); exact BK424.out) hb); have n3_ := Aside0.mk (blk_below (g := gb425) (o := .cells #[.int .i64 a1_0, .int .i64 a1_1, .int .i64 a1_2, .int .i64 a1_3, .int .i64 a1_4, .int .i64 a1_5] 25 (0, 0)) (by (with_reducible repeat (first | refine blk_drewN ?_ _ | refine blk_drew ?_ | refine blk_alloc ?_ _)); exact BK425.out) hb); have n4_ := Aside0.mk (below_step (by repeat (first | (with_reducible first | exact HB.out | apply below_alloc | apply pw_below_drewN | apply below_drew1 | refine below_set ?_ GE424.out | refine below_set ?_ GE425.out) | exact HB.out)) hb); clear HO_7; clear BK424; clear BK425; clear HB; have HO_7 := n0_; have HO428 := n1_; have BK424 := n2_; have BK425 := n3_; have HB := n4_; clear n0_ n1_ n2_ n3_ n4_; (try clear hb); (try clear hb2); (try clear hk); (try clear hi); (try clear ho0); obtain ⟨Ao17, co17, eo17⟩ := Kd.R_slice HO428.out; subst eo17) | ((with_reducible refine gate_builtin (b := .append) (xs := #[.tmp 28, .tmp 31]) rfl ?_); at_builtin; refine Kd.R_append_rows k142 (w0 := w) w.heap.size rfl (.tmp 28) (.tmp 31) 87 142 (.agg #[(.int .i64 0), (.int .i64 0), (.int .i64 0), (.int .i64 0), (.int .i64 0), (.int .i64 0), (.slice none 0 0)]) 72 rfl Try.underlying87 info142 rfl (by decide) (by omega) u7 x7_1 t426 _ _ _ (fun k_ => some k_ ≠ (.slice Ao17 t426.length co17 : Value).ownBlock) (fun _ => False) rfl rfl ?aO ?aR (fun _ _ h => h) (fun _ h => h.elim) ?aF ?aB ?aS ?aL ?_; (case aR => repeat (first | exact (Kd.R_reads' HO428.out).2.2 | (with_reducible refine Kd.C_alloc ?_ _) | (with_reducible refine Kd.C_drewN ?_ _) | (with_reducible refine Kd.C_drew ?_))); (case aB => exact (by repeat (first | (with_reducible first | exact HB.out | apply below_alloc | apply pw_below_drewN | apply below_drew1 | refine below_set ?_ GE424.out | refine below_set ?_ GE425.out) | exact HB.out))); (case aF => exact (fun k_ hk => Kd.fresh' (Kd.R_lt (by (with_reducible repeat (first | apply Kd.R_alloc | apply Kd.R_drewN | apply Kd.R_drew)); exact HO428.out)) k_ hk)); (case aO => exact (by (with_reducible repeat (first | apply Kd.R_alloc | apply Kd.R_drewN | apply Kd.R_drew)); exact Kd.R_mono HO_7.out (fun _ hk => hk.2))); (case aS => exact (below_size (by repeat (first | (with_reducible first | exact HB.out | apply below_alloc | apply pw_below_drewN | apply below_drew1 | refine below_set ?_ GE424.out | refine below_set ?_ GE425.out) | exact HB.out)))); (case aL => have := LMc12.out; omega); intro v430 w16 ho hb hg hat; rw [← Ny429.out] at ho; have n0_ := Aside0.mk (blk_grown (g := gb424) (o := .cells #[.int .i64 a0_0, .int .i64 a0_1] 31 (0, 0)) (by (with_reducible repeat (first | refine blk_drewN ?_ _ | refine blk_drew ?_ | refine blk_alloc ?_ _)); exact BK424.out) hg (Kd.R_ne HO_7.out BK424.out (by decide))); have n1_ := Aside0.mk (blk_grown (g := gb425) (o := .cells #[.int .i64 a1_0, .int .i64 a1_1, .int .i64 a1_2, .int .i64 a1_3, .int .i64 a1_4, .int .i64 a1_5] 25 (0, 0)) (by (with_reducible repeat (first | refine blk_drewN ?_ _ | refine blk_drew ?_ | refine blk_alloc ?_ _)); exact BK425.out) hg (Kd.R_ne HO_7.out BK425.out (by decide))); have n2_ := Aside0.mk (Kd.R_after (ok := (fun _ => True)) (by (with_reducible repeat (first | apply Kd.R_alloc | apply Kd.R_drewN | apply Kd.R_drew)); exact HO428.out) hg hat); have n3_ := Aside0.mk (hb); have n4_ := Aside0.mk (ho); clear BK424; clear BK425; clear HO428; clear HB; clear HO_7; have BK424 := n0_; have BK425 := n1_; have HO428 := n2_; have HB := n3_; have HO431 := n4_; clear n0_ n1_ n2_ n3_ n4_; clear ho hb hg hat; have hcz18_0 : w16.cell? ⟨gb424, 0, none⟩ = some (.int .i64 a0_0) := (blk_cell (w := w16) BK424.out 0).trans rfl; have hcz18_1 : w16.cell? ⟨gb424, 1, none⟩ = some (.int .i64 a0_1) := (blk_cell (w := w16) BK424.out 1).trans rfl; have hfz18_0 := blk_frozen (w := w16) BK424.out 0; have hfz18_1 := blk_frozen (w := w16) BK424.out 1))
      go_roundg k1
      case measure => have := HK1.out; omega
      case rel => exact ⟨(y429), (wrap64 (x10_1 + a0_0)), (by first | rfl | (simp; done) | (simp [*]; done)), H', ⟨by have := HK1.out; omega⟩, ⟨by (with_reducible repeat (first | apply Kd.R_alloc | apply Kd.R_drewN | apply Kd.R_drew)); exact Kd.R_mono HO431.out (fun _ hk => trivial)⟩, ⟨by (with_reducible repeat (first | refine blk_drewN ?_ _ | refine blk_drew ?_ | refine blk_alloc ?_ _)); exact BK424.out⟩, ⟨by (with_reducible repeat (first | refine blk_drewN ?_ _ | refine blk_drew ?_ | refine blk_alloc ?_ _)); exact BK425.out⟩, ⟨by repeat (first | (with_reducible first | exact HB.out | apply below_alloc | apply pw_below_drewN | apply below_drew1 | refine below_set ?_ GE424.out | refine below_set ?_ GE425.out) | exact HB.out)⟩⟩
     ·rw [if_neg c12] at H
      exact absurd H (by simp)
    ·rw [if_neg c10] at H
     have c10b0 : decide (x10_1 < (wrap64 (a1_5 - (Int.tmod a1_5 a0_0)))) = false := decide_eq_false c10
     clear c10
     by_cases c19 : (Int.tmod a1_5 a0_0) = 0
     ·rw [if_pos c19] at H
      have c19b0 : ((Int.tmod a1_5 a0_0) == 0) = true := beq_iff_eq.mpr c19
      have c19b1 : ((Int.tmod a1_5 a0_0) != 0) = false := bne_eq_false_iff_eq.mpr c19
      clear c19
      obtain rfl := Option.some.inj H
      go_wp2
      go_ret
      exact ⟨_, by first | rfl | (simp [errW_none, errW_some] <;> rfl) | (simp [*, errW_none, errW_some] <;> rfl), by (with_reducible repeat (first | apply Kd.R_alloc | apply Kd.R_drewN | apply Kd.R_drew)); exact HO_7.out, by repeat (first | (with_reducible first | exact HB.out | apply below_alloc | apply pw_below_drewN | apply below_drew1 | refine below_set ?_ GE424.out | refine below_set ?_ GE425.out) | exact HB.out)⟩
     ·rw [if_neg c19] at H
      have c19b0 : ((Int.tmod a1_5 a0_0) == 0) = false := beq_eq_false_iff_ne.mpr c19
      have c19b1 : ((Int.tmod a1_5 a0_0) != 0) = true := bne_iff_ne.mpr c19
      by_cases c20 : a2 = 0
      ·rw [if_pos c20] at H
       have c20b0 : (a2 == 0) = true := beq_iff_eq.mpr c20
       have c20b1 : (a2 != 0) = false := bne_eq_false_iff_eq.mpr c20
       clear c20
       replace H := Option.bind_eq_some_iff.mp H
       obtain ⟨t432, A210, H⟩ := H
       replace H : (if x7_1.length + t432.length < 1954687338268 then ((some (x7_1 ++ t432 : List (S142))).bind fun y435 => ((impl_strip.f a1_0 a1_1 a1_2 a1_3 a1_4 a1_5 (wrap64 (a1_5 - (Int.tmod a1_5 a0_0))) 3).bind fun t438 => (if y435.length + t438.length < 1954687338268 then (some (y435 ++ t438)) else (none)))) else (none)) = some r := H
       have A21 := Aside0.mk A210
       clear A210
       by_cases c22 : x7_1.length + t432.length < 1954687338268
       ·rw [if_pos c22] at H
        have LMc22 := Aside0.mk c22
        clear c22
        obtain ⟨y435, hy435⟩ : ∃ y_ : List (S142), y_ = (x7_1 ++ t432) := ⟨_, rfl⟩
        replace H : ((impl_strip.f a1_0 a1_1 a1_2 a1_3 a1_4 a1_5 (wrap64 (a1_5 - (Int.tmod a1_5 a0_0))) 3).bind fun t438 => (if y435.length + t438.length < 1954687338268 then (some (y435 ++ t438)) else (none))) = some r := by first | (rw [hy435]; with_reducible exact H) | (have H2_ := (Option.bind_some _ _).symm.trans H; rw [hy435]; with_reducible exact H2_) | (have H2_ := (Option.bind_some _ _).symm.trans H; with_reducible exact H2_) | with_reducible exact H | (rw [hy435]; exact H) | exact H
        have Ny435 := Aside0.mk hy435
        clear hy435
        replace H := Option.bind_eq_some_iff.mp H
        obtain ⟨t438, A230, H⟩ := H
        replace H : (if y435.length + t438.length < 1954687338268 then (some (y435 ++ t438)) else (none)) = some r := H
        have A23 := Aside0.mk A230
        clear A230
        by_cases c24 : y435.length + t438.length < 1954687338268
        ·rw [if_pos c24] at H
         have LMc24 := Aside0.mk c24
         clear c24
         obtain ⟨y441, hy441⟩ : ∃ y_ : List (S142), y_ = (y435 ++ t438) := ⟨_, rfl⟩
         replace H : (some y441) = some r := by first | (rw [hy441]; with_reducible exact H) | (have H2_ := (Option.bind_some _ _).symm.trans H; rw [hy441]; with_reducible exact H2_) | (have H2_ := (Option.bind_some _ _).symm.trans H; with_reducible exact H2_) | with_reducible exact H | (rw [hy441]; exact H) | exact H
         have Ny441 := Aside0.mk hy441
         clear hy441
         obtain rfl := Option.some.inj H
         try go_wp2
         have n0_ := Aside0.mk (Kd.R_drew HO_7.out)
         have n1_ := Aside0.mk (blk_drew BK424.out)
         have n2_ := Aside0.mk (blk_drew BK425.out)
         have n3_ := Aside0.mk (below_drew1 HB.out)
         clear HO_7
         clear BK424
         clear BK425
         clear HB
         have HO_7 := n0_
         have BK424 := n1_
         have BK425 := n2_
         have HB := n3_
         clear n0_ n1_ n2_ n3_
         refine start_ (n := 9) (S := fun w' => w'.cell? ⟨gb425, 0, none⟩ = some (.int .i64 a1_0) ∧ w'.cell? ⟨gb425, 1, none⟩ = some (.int .i64 a1_1) ∧ w'.cell? ⟨gb425, 2, none⟩ = some (.int .i64 a1_2) ∧ w'.cell? ⟨gb425, 3, none⟩ = some (.int .i64 a1_3) ∧ w'.cell? ⟨gb425, 4, none⟩ = some (.int .i64 a1_4) ∧ w'.cell? ⟨gb425, 5, none⟩ = some (.int .i64 a1_5)) (ds := []) (zu_.bm 9 0) (by kernel_rfl) rfl rfl ⟨(blk_cell BK425.out 0).trans rfl, (blk_cell BK425.out 1).trans rfl, (blk_cell BK425.out 2).trans rfl, (blk_cell BK425.out 3).trans rfl, (blk_cell BK425.out 4).trans rfl, (blk_cell BK425.out 5).trans rfl⟩ (fun hHeld => ?_); refine with_tabW impl_mapCode.tab11 impl_mapCode.bits11 (fun HT_ HW_ => ?_)
         generalize wr.drew = w25 at HO_7 BK424 BK425 HB hHeld ⊢
         refine zu_.pa (i := 0) (N := some 48) (zu_.bm 9 1) HT_.out ?_
         refine zu_.pa (i := 1) (N := some 49) (zu_.bm 9 3) HT_.out ?_
         refine zu_.pa (i := 5) (N := some 53) (zu_.bm 9 35) HT_.out ?_
         refine zu_.ta (i := 4) (N := some 52) (zu_.bm 9 51) rfl (take_ofW HT_.out HW_.out (by kernel_rfl)) (Or.inl ⟨by rfl, by rintro w' ⟨s0, s1, s2, s3, s4, s5⟩; go_simp; with_reducible rfl⟩) hHeld ?_
         refine one_ (i := 2) (N := some 50) (zu_.bm 9 55) rfl rfl (one_of HT_.out (by kernel_rfl)) (by decide) (fun K hK => ?_)
         refine goes_ Try.func187 (by kernel_rfl) rfl #[.int .i64 (Int.tmod a1_5 a0_0)] (by rfl) rfl rfl (by (try simp only [List.map_toArray, List.map_cons, List.map_nil]); first | done | rfl | (simp only [List.length_drop, List.length_take]; rfl)) ?_
         with_reducible refine (impl_firstLanes.calls (Int.tmod a1_5 a0_0) t432 _ A21.out).mono ?_
         rintro e w26 ⟨v433, rfl, ho0, hb⟩
         refine ⟨_, rfl, ?_⟩
         have n0_ := Aside0.mk (Kd.R_elder' (by (with_reducible repeat (first | apply Kd.R_alloc | apply Kd.R_drewN | apply Kd.R_drew)); exact HO_7.out) (Kd.R_base ho0) hb)
         have n1_ := Aside0.mk (Kd.R_lower (Kd.R_new' ho0 (Kd.R_lt (by (with_reducible repeat (first | apply Kd.R_alloc | apply Kd.R_drewN | apply Kd.R_drew)); exact HO_7.out))) (below_size (by repeat (first | (with_reducible first | exact HB.out | apply below_alloc | apply pw_below_drewN | apply below_drew1 | refine below_set ?_ GE424.out | refine below_set ?_ GE425.out) | exact HB.out))))
         have n2_ := Aside0.mk (blk_below (g := gb424) (o := .cells #[.int .i64 a0_0, .int .i64 a0_1] 31 (0, 0)) (by (with_reducible repeat (first | refine blk_drewN ?_ _ | refine blk_drew ?_ | refine blk_alloc ?_ _)); exact BK424.out) hb)
         have n3_ := Aside0.mk (blk_below (g := gb425) (o := .cells #[.int .i64 a1_0, .int .i64 a1_1, .int .i64 a1_2, .int .i64 a1_3, .int .i64 a1_4, .int .i64 a1_5] 25 (0, 0)) (by (with_reducible repeat (first | refine blk_drewN ?_ _ | refine blk_drew ?_ | refine blk_alloc ?_ _)); exact BK425.out) hb)
         have n4_ := Aside0.mk (below_step (by repeat (first | (with_reducible first | exact HB.out | apply below_alloc | apply pw_below_drewN | apply below_drew1 | refine below_set ?_ GE424.out | refine below_set ?_ GE425.out) | exact HB.out)) hb)
         clear HO_7
         clear BK424
         clear BK425
         clear HB
         have HO_7 := n0_
         have HO434 := n1_
         have BK424 := n2_
         have BK425 := n3_
         have HB := n4_
         clear n0_ n1_ n2_ n3_ n4_
         (try clear hb)
         (try clear hb2)
         (try clear hk)
         (try clear hi)
         (try clear ho0)
         obtain ⟨Ao28, co28, eo28⟩ := Kd.R_slice HO434.out
         (first | subst eo28 | (injection eo28 with f1_ f2_ f3_; have f4_ := f1_.symm; have f5_ := f3_.symm; clear f1_ f2_ f3_; subst f4_; subst f5_))
         refine hK.out _ _ ⟨(blk_cell BK425.out 0).trans rfl, (blk_cell BK425.out 1).trans rfl, (blk_cell BK425.out 2).trans rfl, (blk_cell BK425.out 3).trans rfl, (blk_cell BK425.out 4).trans rfl, (blk_cell BK425.out 5).trans rfl⟩ (fun hHeld => ?_)
         clear hK K
         refine norm_ (a' := ?_) ?_ ?_
         rotate_left
         ·show Act.put _ (some 50) _ = _
          simp only [Act.put, List.setIfInBounds_toArray, List.set_cons_zero, List.set_cons_succ, i64_w, i32_w]
          rfl
         refine one_ (i := 3) (N := some 51) (zu_.bm 9 63) rfl rfl (one_of HT_.out (by kernel_rfl)) (by decide) (fun K hK => ?_)
         refine Kd.R_append_rows_step k142 (w0 := w) w.heap.size (by rfl) (.tmp 48) (.tmp 50) 87 142 (.agg #[(.int .i64 0), (.int .i64 0), (.int .i64 0), (.int .i64 0), (.int .i64 0), (.int .i64 0), (.slice none 0 0)]) 72 rfl Try.underlying87 info142 rfl (by decide) (by omega) u7 x7_1 t432 _ _ _ (fun k_ => some k_ ≠ (.slice Ao28 t432.length co28 : Value).ownBlock) (fun _ => False) rfl rfl ?aO ?aR (fun _ _ h => h) (fun _ h => h.elim) ?aF ?aB ?aS ?aL ?_
         (case aR => repeat (first | exact (Kd.R_reads' HO434.out).2.2 | (with_reducible refine Kd.C_alloc ?_ _) | (with_reducible refine Kd.C_drewN ?_ _) | (with_reducible refine Kd.C_drew ?_)))
         (case aB => exact (by repeat (first | (with_reducible first | exact HB.out | apply below_alloc | apply pw_below_drewN | apply below_drew1 | refine below_set ?_ GE424.out | refine below_set ?_ GE425.out) | exact HB.out)))
         (case aF => exact (fun k_ hk => Kd.fresh' (Kd.R_lt (by (with_reducible repeat (first | apply Kd.R_alloc | apply Kd.R_drewN | apply Kd.R_drew)); exact HO434.out)) k_ hk))
         (case aO => exact (by (with_reducible repeat (first | apply Kd.R_alloc | apply Kd.R_drewN | apply Kd.R_drew)); exact Kd.R_mono HO_7.out (fun _ hk => hk.2)))
         (case aS => exact (below_size (by repeat (first | (with_reducible first | exact HB.out | apply below_alloc | apply pw_below_drewN | apply below_drew1 | refine below_set ?_ GE424.out | refine below_set ?_ GE425.out) | exact HB.out))))
         (case aL => have := LMc22.out; omega)
         intro v436 w27 ho hb hg hat
         rw [← Ny435.out] at ho
         have n0_ := Aside0.mk (blk_grown (g := gb424) (o := .cells #[.int .i64 a0_0, .int .i64 a0_1] 31 (0, 0)) (by (with_reducible repeat (first | refine blk_drewN ?_ _ | refine blk_drew ?_ | refine blk_alloc ?_ _)); exact BK424.out) hg (Kd.R_ne HO_7.out BK424.out (by decide)))
         have n1_ := Aside0.mk (blk_grown (g := gb425) (o := .cells #[.int .i64 a1_0, .int .i64 a1_1, .int .i64 a1_2, .int .i64 a1_3, .int .i64 a1_4, .int .i64 a1_5] 25 (0, 0)) (by (with_reducible repeat (first | refine blk_drewN ?_ _ | refine blk_drew ?_ | refine blk_alloc ?_ _)); exact BK425.out) hg (Kd.R_ne HO_7.out BK425.out (by decide)))
         have n2_ := Aside0.mk (Kd.R_after (ok := (fun _ => True)) (by (with_reducible repeat (first | apply Kd.R_alloc | apply Kd.R_drewN | apply Kd.R_drew)); exact HO434.out) hg hat)
         have n3_ := Aside0.mk (hb)
         have n4_ := Aside0.mk (ho)
         clear BK424
         clear BK425
         clear HO434
         clear HB
         clear HO_7
         have BK424 := n0_
         have BK425 := n1_
         have HO434 := n2_
         have HB := n3_
         have HO437 := n4_
         clear n0_ n1_ n2_ n3_ n4_
         clear ho hb hg hat
         refine hK.out _ _ ⟨(blk_cell BK425.out 0).trans rfl, (blk_cell BK425.out 1).trans rfl, (blk_cell BK425.out 2).trans rfl, (blk_cell BK425.out 3).trans rfl, (blk_cell BK425.out 4).trans rfl, (blk_cell BK425.out 5).trans rfl⟩ (fun hHeld => ?_)
         clear hK K
         refine norm_ (a' := ?_) ?_ ?_
         rotate_left
         ·show Act.put _ (some 51) _ = _
          simp only [Act.put, List.setIfInBounds_toArray, List.set_cons_zero, List.set_cons_succ, i64_w, i32_w]
          rfl
         refine one_ (i := 6) (N := some 54) (zu_.bm 9 127) rfl rfl (one_of HT_.out (by kernel_rfl)) (by decide) (fun K hK => ?_)
         refine goes_ Try.func189 (by kernel_rfl) rfl #[.agg #[.int .i64 a1_0, .int .i64 a1_1, .int .i64 a1_2, .int .i64 a1_3, .int .i64 a1_4, .int .i64 a1_5], .int .i64 (wrap64 (a1_5 - (Int.tmod a1_5 a0_0))), .int .i64 3] (by rfl) rfl rfl (by (try simp only [List.map_toArray, List.map_cons, List.map_nil]); first | done | rfl | (simp only [List.length_drop, List.length_take]; rfl)) ?_
         with_reducible refine (impl_strip.calls a1_0 a1_1 a1_2 a1_3 a1_4 a1_5 (wrap64 (a1_5 - (Int.tmod a1_5 a0_0))) 3 t438 _ A23.out).mono ?_
         rintro e w29 ⟨v439, rfl, ho0, hb⟩
         refine ⟨_, rfl, ?_⟩
         have n0_ := Aside0.mk (Kd.R_elder' (by (with_reducible repeat (first | apply Kd.R_alloc | apply Kd.R_drewN | apply Kd.R_drew)); exact HO434.out) (Kd.R_base ho0) hb)
         have n1_ := Aside0.mk (Kd.R_elder' (by (with_reducible repeat (first | apply Kd.R_alloc | apply Kd.R_drewN | apply Kd.R_drew)); exact HO437.out) (Kd.R_base ho0) hb)
         have n2_ := Aside0.mk (Kd.R_lower (Kd.R_new' (Kd.R_new' ho0 (Kd.R_lt (by (with_reducible repeat (first | apply Kd.R_alloc | apply Kd.R_drewN | apply Kd.R_drew)); exact HO434.out))) (Kd.R_lt (by (with_reducible repeat (first | apply Kd.R_alloc | apply Kd.R_drewN | apply Kd.R_drew)); exact HO437.out))) (below_size (by repeat (first | (with_reducible first | exact HB.out | apply below_alloc | apply pw_below_drewN | apply below_drew1 | refine below_set ?_ GE424.out | refine below_set ?_ GE425.out) | exact HB.out))))
         have n3_ := Aside0.mk (blk_below (g := gb424) (o := .cells #[.int .i64 a0_0, .int .i64 a0_1] 31 (0, 0)) (by (with_reducible repeat (first | refine blk_drewN ?_ _ | refine blk_drew ?_ | refine blk_alloc ?_ _)); exact BK424.out) hb)
         have n4_ := Aside0.mk (blk_below (g := gb425) (o := .cells #[.int .i64 a1_0, .int .i64 a1_1, .int .i64 a1_2, .int .i64 a1_3, .int .i64 a1_4, .int .i64 a1_5] 25 (0, 0)) (by (with_reducible repeat (first | refine blk_drewN ?_ _ | refine blk_drew ?_ | refine blk_alloc ?_ _)); exact BK425.out) hb)
         have n5_ := Aside0.mk (below_step (by repeat (first | (with_reducible first | exact HB.out | apply below_alloc | apply pw_below_drewN | apply below_drew1 | refine below_set ?_ GE424.out | refine below_set ?_ GE425.out) | exact HB.out)) hb)
         clear HO434
         clear HO437
         clear BK424
         clear BK425
         clear HB
         have HO434 := n0_
         have HO437 := n1_
         have HO440 := n2_
         have BK424 := n3_
         have BK425 := n4_
         have HB := n5_
         clear n0_ n1_ n2_ n3_ n4_ n5_
         (try clear hb)
         (try clear hb2)
         (try clear hk)
         (try clear hi)
         (try clear ho0)
         obtain ⟨Ao31, co31, eo31⟩ := Kd.R_slice HO440.out
         (first | subst eo31 | (injection eo31 with f1_ f2_ f3_; have f4_ := f1_.symm; have f5_ := f3_.symm; clear f1_ f2_ f3_; subst f4_; subst f5_))
         refine hK.out _ _ ⟨(blk_cell BK425.out 0).trans rfl, (blk_cell BK425.out 1).trans rfl, (blk_cell BK425.out 2).trans rfl, (blk_cell BK425.out 3).trans rfl, (blk_cell BK425.out 4).trans rfl, (blk_cell BK425.out 5).trans rfl⟩ (fun hHeld => ?_)
         clear hK K
         refine norm_ (a' := ?_) ?_ ?_
         rotate_left
         ·show Act.put _ (some 54) _ = _
          simp only [Act.put, List.setIfInBounds_toArray, List.set_cons_zero, List.set_cons_succ, i64_w, i32_w]
          rfl
         refine one_ (i := 7) (N := some 55) (zu_.bm 9 255) rfl rfl (one_of HT_.out (by kernel_rfl)) (by decide) (fun K hK => ?_)
         refine Kd.R_append_rows_step k142 (w0 := w) w.heap.size (by rfl) (.tmp 51) (.tmp 54) 87 142 (.agg #[(.int .i64 0), (.int .i64 0), (.int .i64 0), (.int .i64 0), (.int .i64 0), (.int .i64 0), (.slice none 0 0)]) 72 rfl Try.underlying87 info142 rfl (by decide) (by omega) v436 y435 t438 _ _ _ (fun k_ => some k_ ≠ (.slice Ao28 t432.length co28 : Value).ownBlock ∧ some k_ ≠ (.slice Ao31 t438.length co31 : Value).ownBlock) (fun _ => False) rfl rfl ?aO ?aR (fun _ _ h => h) (fun _ h => h.elim) ?aF ?aB ?aS ?aL ?_
         (case aR => repeat (first | exact (Kd.R_reads' HO440.out).2.2 | (with_reducible refine Kd.C_alloc ?_ _) | (with_reducible refine Kd.C_drewN ?_ _) | (with_reducible refine Kd.C_drew ?_)))
         (case aB => exact (by repeat (first | (with_reducible first | exact HB.out | apply below_alloc | apply pw_below_drewN | apply below_drew1 | refine below_set ?_ GE424.out | refine below_set ?_ GE425.out) | exact HB.out)))
         (case aF => exact (fun k_ hk => ⟨Kd.fresh' (Kd.R_lt (by (with_reducible repeat (first | apply Kd.R_alloc | apply Kd.R_drewN | apply Kd.R_drew)); exact HO434.out)) k_ hk, Kd.fresh' (Kd.R_lt (by (with_reducible repeat (first | apply Kd.R_alloc | apply Kd.R_drewN | apply Kd.R_drew)); exact HO440.out)) k_ hk⟩))
         (case aO => exact (by (with_reducible repeat (first | apply Kd.R_alloc | apply Kd.R_drewN | apply Kd.R_drew)); exact HO437.out))
         (case aS => exact (below_size (by repeat (first | (with_reducible first | exact HB.out | apply below_alloc | apply pw_below_drewN | apply below_drew1 | refine below_set ?_ GE424.out | refine below_set ?_ GE425.out) | exact HB.out))))
         (case aL => have := LMc24.out; omega)
         intro v442 w30 ho hb hg hat
         rw [← Ny441.out] at ho
         have n0_ := Aside0.mk (blk_grown (g := gb424) (o := .cells #[.int .i64 a0_0, .int .i64 a0_1] 31 (0, 0)) (by (with_reducible repeat (first | refine blk_drewN ?_ _ | refine blk_drew ?_ | refine blk_alloc ?_ _)); exact BK424.out) hg (Kd.R_ne HO437.out BK424.out (by decide)))
         have n1_ := Aside0.mk (blk_grown (g := gb425) (o := .cells #[.int .i64 a1_0, .int .i64 a1_1, .int .i64 a1_2, .int .i64 a1_3, .int .i64 a1_4, .int .i64 a1_5] 25 (0, 0)) (by (with_reducible repeat (first | refine blk_drewN ?_ _ | refine blk_drew ?_ | refine blk_alloc ?_ _)); exact BK425.out) hg (Kd.R_ne HO437.out BK425.out (by decide)))
         have n2_ := Aside0.mk (Kd.R_after (ok := (fun k_ => some k_ ≠ (.slice Ao31 t438.length co31 : Value).ownBlock)) (by (with_reducible repeat (first | apply Kd.R_alloc | apply Kd.R_drewN | apply Kd.R_drew)); exact Kd.R_mono HO434.out (fun _ hk => ⟨hk.2, hk.1.2⟩)) hg hat)
         have n3_ := Aside0.mk (Kd.R_after (ok := (fun k_ => some k_ ≠ (.slice Ao28 t432.length co28 : Value).ownBlock)) (by (with_reducible repeat (first | apply Kd.R_alloc | apply Kd.R_drewN | apply Kd.R_drew)); exact Kd.R_mono HO440.out (fun _ hk => ⟨hk.1.2, hk.2⟩)) hg hat)
         have n4_ := Aside0.mk (hb)
         have n5_ := Aside0.mk (ho)
         clear BK424
         clear BK425
         clear HO434
         clear HO440
         clear HB
         clear HO437
         have BK424 := n0_
         have BK425 := n1_
         have HO434 := n2_
         have HO440 := n3_
         have HB := n4_
         have HO443 := n5_
         clear n0_ n1_ n2_ n3_ n4_ n5_
         clear ho hb hg hat
         refine hK.out _ _ ⟨(blk_cell BK425.out 0).trans rfl, (blk_cell BK425.out 1).trans rfl, (blk_cell BK425.out 2).trans rfl, (blk_cell BK425.out 3).trans rfl, (blk_cell BK425.out 4).trans rfl, (blk_cell BK425.out 5).trans rfl⟩ (fun hHeld => ?_)
         clear hK K
         refine norm_ (a' := ?_) ?_ ?_
         rotate_left
         ·show Act.put _ (some 55) _ = _
          simp only [Act.put, List.setIfInBounds_toArray, List.set_cons_zero, List.set_cons_succ, i64_w, i32_w]
          rfl
         refine zu_.pa (i := 8) (N := some 7) (zu_.bm 9 511) HT_.out ?_
         refine done_ (done_of HT_.out (by kernel_rfl)) ?_
         try go_wp2
         go_ret
         exact ⟨_, by first | rfl | (simp [errW_none, errW_some] <;> rfl) | (simp [*, errW_none, errW_some] <;> rfl), by (with_reducible repeat (first | apply Kd.R_alloc | apply Kd.R_drewN | apply Kd.R_drew)); exact Kd.R_mono HO443.out (fun _ hk => trivial), by repeat (first | (with_reducible first | exact HB.out | apply below_alloc | apply pw_below_drewN | apply below_drew1 | refine below_set ?_ GE424.out | refine below_set ?_ GE425.out) | exact HB.out)⟩
        ·rw [if_neg c24] at H
         exact absurd H (by simp)
       ·rw [if_neg c22] at H
        exact absurd H (by simp)
      ·rw [if_neg c20] at H
       have c20b0 : (a2 == 0) = false := beq_eq_false_iff_ne.mpr c20
       have c20b1 : (a2 != 0) = true := bne_iff_ne.mpr c20
       by_cases c32 : a2 = 1
       ·rw [if_pos c32] at H
        have c32b0 : (a2 == 1) = true := beq_iff_eq.mpr c32
        have c32b1 : (a2 != 1) = false := bne_eq_false_iff_eq.mpr c32
        clear c32
        replace H := Option.bind_eq_some_iff.mp H
        obtain ⟨t444, A330, H⟩ := H
        replace H : (if x7_1.length + t444.length < 1954687338268 then (impl_mapCode.l1 k1 (x7_1 ++ t444) (wrap64 (a1_5 - (Int.tmod a1_5 a0_0))) a1_0 a1_1 a1_2 a1_3 a1_4 a1_5) else (none)) = some r := H
        have A33 := Aside0.mk A330
        clear A330
        by_cases c34 : x7_1.length + t444.length < 1954687338268
        ·rw [if_pos c34] at H
         have LMc34 := Aside0.mk c34
         clear c34
         obtain ⟨y447, hy447⟩ : ∃ y_ : List (S142), y_ = (x7_1 ++ t444) := ⟨_, rfl⟩
         replace H : (impl_mapCode.l1 k1 y447 (wrap64 (a1_5 - (Int.tmod a1_5 a0_0))) a1_0 a1_1 a1_2 a1_3 a1_4 a1_5) = some r := by first | (rw [hy447]; with_reducible exact H) | (have H2_ := (Option.bind_some _ _).symm.trans H; rw [hy447]; with_reducible exact H2_) | (have H2_ := (Option.bind_some _ _).symm.trans H; with_reducible exact H2_) | with_reducible exact H | (rw [hy447]; exact H) | exact H
         have Ny447 := Aside0.mk hy447
         clear hy447
         have H' := Aside0.mk H
         clear H
         go_wp2_with (first | ((with_reducible refine gate_callee (f := 187) rfl ?_); refine goesL_ (some 60) rfl rfl Try.func187 (by kernel_rfl) rfl #[.int .i64 1] rfl (by (try simp only [List.map_toArray, List.map_cons, List.map_nil]); first | done | rfl | (simp only [List.length_drop, List.length_take]; rfl)) ?_; (with_reducible refine (impl_firstLanes.calls 1 t444 _ A33.out).mono ?_); rintro e w35 ⟨v445, rfl, ho0, hb⟩; refine ⟨_, rfl, ?_⟩; have n0_ := Aside0.mk (Kd.R_elder' (by (with_reducible repeat (first | apply Kd.R_alloc | apply Kd.R_drewN | apply Kd.R_drew)); exact HO_7.out) (Kd.R_base ho0) hb); have n1_ := Aside0.mk (Kd.R_lower (Kd.R_new' ho0 (Kd.R_lt (by (with_reducible repeat (first | apply Kd.R_alloc | apply Kd.R_drewN | apply Kd.R_drew)); exact HO_7.out))) (below_size (by repeat (first | (with_reducible first | exact HB.out | apply below_alloc | apply pw_below_drewN | apply below_drew1 | refine below_set ?_ GE424.out | refine below_set ?_ GE425.out) | exact HB.out)))); have n2_ := Aside0.mk (blk_below (g := gb424) (o := .cells #[.int .i64 a0_0, .int .i64 a0_1] 31 (0, 0)) (by (with_reducible repeat (first | refine blk_drewN ?_ _ | refine blk_drew ?_ | refine blk_alloc ?_ _)); exact BK424.out) hb); have n3_ := Aside0.mk (blk_below (g := gb425) (o := .cells #[.int .i64 a1_0, .int .i64 a1_1, .int .i64 a1_2, .int .i64 a1_3, .int .i64 a1_4, .int .i64 a1_5] 25 (0, 0)) (by (with_reducible repeat (first | refine blk_drewN ?_ _ | refine blk_drew ?_ | refine blk_alloc ?_ _)); exact BK425.out) hb); have n4_ := Aside0.mk (below_step (by repeat (first | (with_reducible first | exact HB.out | apply below_alloc | apply pw_below_drewN | apply below_drew1 | refine below_set ?_ GE424.out | refine below_set ?_ GE425.out) | exact HB.out)) hb); clear HO_7; clear BK424; clear BK425; clear HB; have HO_7 := n0_; have HO446 := n1_; have BK424 := n2_; have BK425 := n3_; have HB := n4_; clear n0_ n1_ n2_ n3_ n4_; (try clear hb); (try clear hb2); (try clear hk); (try clear hi); (try clear ho0); obtain ⟨Ao37, co37, eo37⟩ := Kd.R_slice HO446.out; subst eo37) | ((with_reducible refine gate_builtin (b := .append) (xs := #[.tmp 59, .tmp 60]) rfl ?_); at_builtin; refine Kd.R_append_rows k142 (w0 := w) w.heap.size rfl (.tmp 59) (.tmp 60) 87 142 (.agg #[(.int .i64 0), (.int .i64 0), (.int .i64 0), (.int .i64 0), (.int .i64 0), (.int .i64 0), (.slice none 0 0)]) 72 rfl Try.underlying87 info142 rfl (by decide) (by omega) u7 x7_1 t444 _ _ _ (fun k_ => some k_ ≠ (.slice Ao37 t444.length co37 : Value).ownBlock) (fun _ => False) rfl rfl ?aO ?aR (fun _ _ h => h) (fun _ h => h.elim) ?aF ?aB ?aS ?aL ?_; (case aR => repeat (first | exact (Kd.R_reads' HO446.out).2.2 | (with_reducible refine Kd.C_alloc ?_ _) | (with_reducible refine Kd.C_drewN ?_ _) | (with_reducible refine Kd.C_drew ?_))); (case aB => exact (by repeat (first | (with_reducible first | exact HB.out | apply below_alloc | apply pw_below_drewN | apply below_drew1 | refine below_set ?_ GE424.out | refine below_set ?_ GE425.out) | exact HB.out))); (case aF => exact (fun k_ hk => Kd.fresh' (Kd.R_lt (by (with_reducible repeat (first | apply Kd.R_alloc | apply Kd.R_drewN | apply Kd.R_drew)); exact HO446.out)) k_ hk)); (case aO => exact (by (with_reducible repeat (first | apply Kd.R_alloc | apply Kd.R_drewN | apply Kd.R_drew)); exact Kd.R_mono HO_7.out (fun _ hk => hk.2))); (case aS => exact (below_size (by repeat (first | (with_reducible first | exact HB.out | apply below_alloc | apply pw_below_drewN | apply below_drew1 | refine below_set ?_ GE424.out | refine below_set ?_ GE425.out) | exact HB.out)))); (case aL => have := LMc34.out; omega); intro v448 w36 ho hb hg hat; rw [← Ny447.out] at ho; have n0_ := Aside0.mk (blk_grown (g := gb424) (o := .cells #[.int .i64 a0_0, .int .i64 a0_1] 31 (0, 0)) (by (with_reducible repeat (first | refine blk_drewN ?_ _ | refine blk_drew ?_ | refine blk_alloc ?_ _)); exact BK424.out) hg (Kd.R_ne HO_7.out BK424.out (by decide))); have n1_ := Aside0.mk (blk_grown (g := gb425) (o := .cells #[.int .i64 a1_0, .int .i64 a1_1, .int .i64 a1_2, .int .i64 a1_3, .int .i64 a1_4, .int .i64 a1_5] 25 (0, 0)) (by (with_reducible repeat (first | refine blk_drewN ?_ _ | refine blk_drew ?_ | refine blk_alloc ?_ _)); exact BK425.out) hg (Kd.R_ne HO_7.out BK425.out (by decide))); have n2_ := Aside0.mk (Kd.R_after (ok := (fun _ => True)) (by (with_reducible repeat (first | apply Kd.R_alloc | apply Kd.R_drewN | apply Kd.R_drew)); exact HO446.out) hg hat); have n3_ := Aside0.mk (hb); have n4_ := Aside0.mk (ho); clear BK424; clear BK425; clear HO446; clear HB; clear HO_7; have BK424 := n0_; have BK425 := n1_; have HO446 := n2_; have HB := n3_; have HO449 := n4_; clear n0_ n1_ n2_ n3_ n4_; clear ho hb hg hat))
         go_loopg [7, 11] k1 (fun kq v7 v11 w' => ∃ (x7_2 : List (S142)) (x11_2 : Int), v11 = .int .i64 x11_2 ∧ Aside0 (impl_mapCode.l1 kq x7_2 x11_2 a1_0 a1_1 a1_2 a1_3 a1_4 a1_5 = some r) ∧ Aside0 (kq ≤ k1) ∧ Aside0 (Kd.R k142 142 w' w.heap.size (fun _ => True) v7 x7_2) ∧ Aside0 (w'.heap[gb424]? = some (.cells #[.int .i64 a0_0, .int .i64 a0_1] 31 (0, 0))) ∧ Aside0 (w'.heap[gb425]? = some (.cells #[.int .i64 a1_0, .int .i64 a1_1, .int .i64 a1_2, .int .i64 a1_3, .int .i64 a1_4, .int .i64 a1_5] 25 (0, 0))) ∧ Aside0 (Below w.heap.size w w'))
         case atStart => exact ⟨(y447), ((wrap64 (a1_5 - (Int.tmod a1_5 a0_0)))), (by first | rfl | (simp; done) | (simp [*]; done)), H', ⟨Nat.le_refl _⟩, ⟨by (with_reducible repeat (first | apply Kd.R_alloc | apply Kd.R_drewN | apply Kd.R_drew)); exact Kd.R_mono HO449.out (fun _ hk => trivial)⟩, ⟨by (with_reducible repeat (first | refine blk_drewN ?_ _ | refine blk_drew ?_ | refine blk_alloc ?_ _)); exact BK424.out⟩, ⟨by (with_reducible repeat (first | refine blk_drewN ?_ _ | refine blk_drew ?_ | refine blk_alloc ?_ _)); exact BK425.out⟩, ⟨by repeat (first | (with_reducible first | exact HB.out | apply below_alloc | apply pw_below_drewN | apply below_drew1 | refine below_set ?_ GE424.out | refine below_set ?_ GE425.out) | exact HB.out)⟩⟩
         case round =>
          clear H'
          try clear c1
          try clear c2
          try clear p2
          try clear c3
          try clear c4
          try clear c4b0
          try clear c4b1
          try clear p6
          try clear c7
          try clear c10
          try clear c10b0
          try clear c12
          try clear c13
          try clear c18
          try clear c19
          try clear c19b0
          try clear c19b1
          try clear c20
          try clear c20b0
          try clear c20b1
          try clear c22
          try clear c24
          try clear c32
          try clear c32b0
          try clear c32b1
          try clear c34
          try clear hcz14_0
          try clear hcz14_1
          try clear hcz14_2
          try clear hcz14_3
          try clear hcz14_4
          try clear hcz14_5
          try clear hcz18_0
          try clear hcz18_1
          try clear hcz8_0
          try clear hcz8_1
          try clear hcz8_2
          try clear hcz8_3
          try clear hcz8_4
          try clear hcz8_5
          try clear hcz9_0
          try clear hcz9_1
          try clear hfz14_0
          try clear hfz14_1
          try clear hfz14_2
          try clear hfz14_3
          try clear hfz14_4
          try clear hfz14_5
          try clear hfz18_0
          try clear hfz18_1
          try clear hfz8_0
          try clear hfz8_1
          try clear hfz8_2
          try clear hfz8_3
          try clear hfz8_4
          try clear hfz8_5
          try clear hfz9_0
          try clear hfz9_1
          try clear p2
          try clear p6
          obtain ⟨x7_2, x11_2, rfl, HA, HK2, HO_7, BK424, BK425, HB⟩ := hrel
          cases gk with
          | zero => exact absurd HA.out (by simp [impl_mapCode.l1])
          | succ k2 =>
           have H := HA.out
           clear HA
           simp only [impl_mapCode.l1] at H
           by_cases c38 : x11_2 < a1_5
           ·rw [if_pos c38] at H
            have c38b0 : decide (x11_2 < a1_5) = true := decide_eq_true c38
            clear c38
            replace H := Option.bind_eq_some_iff.mp H
            obtain ⟨t450, A390, H⟩ := H
            replace H : (if x7_2.length + t450.length < 1954687338268 then (impl_mapCode.l1 k2 (x7_2 ++ t450) (wrap64 (x11_2 + 1)) a1_0 a1_1 a1_2 a1_3 a1_4 a1_5) else (none)) = some r := H
            have A39 := Aside0.mk A390
            clear A390
            by_cases c40 : x7_2.length + t450.length < 1954687338268
            ·rw [if_pos c40] at H
             have LMc40 := Aside0.mk c40
             clear c40
             obtain ⟨y453, hy453⟩ : ∃ y_ : List (S142), y_ = (x7_2 ++ t450) := ⟨_, rfl⟩
             replace H : (impl_mapCode.l1 k2 y453 (wrap64 (x11_2 + 1)) a1_0 a1_1 a1_2 a1_3 a1_4 a1_5) = some r := by first | (rw [hy453]; with_reducible exact H) | (have H2_ := (Option.bind_some _ _).symm.trans H; rw [hy453]; with_reducible exact H2_) | (have H2_ := (Option.bind_some _ _).symm.trans H; with_reducible exact H2_) | with_reducible exact H | (rw [hy453]; exact H) | exact H
             have Ny453 := Aside0.mk hy453
             clear hy453
             have H' := Aside0.mk H
             clear H
             have hnb41 := NB425_424.out
             have hnc41 := NB424_425.out
             have hcz42_0 : wr.cell? ⟨gb425, 0, none⟩ = some (.int .i64 a1_0) := (blk_cell (w := wr) BK425.out 0).trans rfl
             have hcz42_1 : wr.cell? ⟨gb425, 1, none⟩ = some (.int .i64 a1_1) := (blk_cell (w := wr) BK425.out 1).trans rfl
             have hcz42_2 : wr.cell? ⟨gb425, 2, none⟩ = some (.int .i64 a1_2) := (blk_cell (w := wr) BK425.out 2).trans rfl
             have hcz42_3 : wr.cell? ⟨gb425, 3, none⟩ = some (.int .i64 a1_3) := (blk_cell (w := wr) BK425.out 3).trans rfl
             have hcz42_4 : wr.cell? ⟨gb425, 4, none⟩ = some (.int .i64 a1_4) := (blk_cell (w := wr) BK425.out 4).trans rfl
             have hcz42_5 : wr.cell? ⟨gb425, 5, none⟩ = some (.int .i64 a1_5) := (blk_cell (w := wr) BK425.out 5).trans rfl
             have hfz42_0 := blk_frozen (w := wr) BK425.out 0
             have hfz42_1 := blk_frozen (w := wr) BK425.out 1
             have hfz42_2 := blk_frozen (w := wr) BK425.out 2
             have hfz42_3 := blk_frozen (w := wr) BK425.out 3
             have hfz42_4 := blk_frozen (w := wr) BK425.out 4
             have hfz42_5 := blk_frozen (w := wr) BK425.out 5
             go_wp2_with (first | ((with_reducible refine gate_callee (f := 189) rfl ?_); refine goesL_ (some 72) rfl rfl Try.func189 (by kernel_rfl) rfl #[.agg #[.int .i64 a1_0, .int .i64 a1_1, .int .i64 a1_2, .int .i64 a1_3, .int .i64 a1_4, .int .i64 a1_5], .int .i64 x11_2, .int .i64 3] rfl (by (try simp only [List.map_toArray, List.map_cons, List.map_nil]); first | done | rfl | (simp only [List.length_drop, List.length_take]; rfl)) ?_; (with_reducible refine (impl_strip.calls a1_0 a1_1 a1_2 a1_3 a1_4 a1_5 x11_2 3 t450 _ A39.out).mono ?_); rintro e w43 ⟨v451, rfl, ho0, hb⟩; refine ⟨_, rfl, ?_⟩; have n0_ := Aside0.mk (Kd.R_elder' (by (with_reducible repeat (first | apply Kd.R_alloc | apply Kd.R_drewN | apply Kd.R_drew)); exact HO_7.out) (Kd.R_base ho0) hb); have n1_ := Aside0.mk (Kd.R_lower (Kd.R_new' ho0 (Kd.R_lt (by (with_reducible repeat (first | apply Kd.R_alloc | apply Kd.R_drewN | apply Kd.R_drew)); exact HO_7.out))) (below_size (by repeat (first | (with_reducible first | exact HB.out | apply below_alloc | apply pw_below_drewN | apply below_drew1 | refine below_set ?_ GE424.out | refine below_set ?_ GE425.out) | exact HB.out)))); have n2_ := Aside0.mk (blk_below (g := gb424) (o := .cells #[.int .i64 a0_0, .int .i64 a0_1] 31 (0, 0)) (by (with_reducible repeat (first | refine blk_drewN ?_ _ | refine blk_drew ?_ | refine blk_alloc ?_ _)); exact BK424.out) hb); have n3_ := Aside0.mk (blk_below (g := gb425) (o := .cells #[.int .i64 a1_0, .int .i64 a1_1, .int .i64 a1_2, .int .i64 a1_3, .int .i64 a1_4, .int .i64 a1_5] 25 (0, 0)) (by (with_reducible repeat (first | refine blk_drewN ?_ _ | refine blk_drew ?_ | refine blk_alloc ?_ _)); exact BK425.out) hb); have n4_ := Aside0.mk (below_step (by repeat (first | (with_reducible first | exact HB.out | apply below_alloc | apply pw_below_drewN | apply below_drew1 | refine below_set ?_ GE424.out | refine below_set ?_ GE425.out) | exact HB.out)) hb); clear HO_7; clear BK424; clear BK425; clear HB; have HO_7 := n0_; have HO452 := n1_; have BK424 := n2_; have BK425 := n3_; have HB := n4_; clear n0_ n1_ n2_ n3_ n4_; (try clear hb); (try clear hb2); (try clear hk); (try clear hi); (try clear ho0); obtain ⟨Ao45, co45, eo45⟩ := Kd.R_slice HO452.out; subst eo45) | ((with_reducible refine gate_builtin (b := .append) (xs := #[.tmp 69, .tmp 72]) rfl ?_); at_builtin; refine Kd.R_append_rows k142 (w0 := w) w.heap.size rfl (.tmp 69) (.tmp 72) 87 142 (.agg #[(.int .i64 0), (.int .i64 0), (.int .i64 0), (.int .i64 0), (.int .i64 0), (.int .i64 0), (.slice none 0 0)]) 72 rfl Try.underlying87 info142 rfl (by decide) (by omega) u7 x7_2 t450 _ _ _ (fun k_ => some k_ ≠ (.slice Ao45 t450.length co45 : Value).ownBlock) (fun _ => False) rfl rfl ?aO ?aR (fun _ _ h => h) (fun _ h => h.elim) ?aF ?aB ?aS ?aL ?_; (case aR => repeat (first | exact (Kd.R_reads' HO452.out).2.2 | (with_reducible refine Kd.C_alloc ?_ _) | (with_reducible refine Kd.C_drewN ?_ _) | (with_reducible refine Kd.C_drew ?_))); (case aB => exact (by repeat (first | (with_reducible first | exact HB.out | apply below_alloc | apply pw_below_drewN | apply below_drew1 | refine below_set ?_ GE424.out | refine below_set ?_ GE425.out) | exact HB.out))); (case aF => exact (fun k_ hk => Kd.fresh' (Kd.R_lt (by (with_reducible repeat (first | apply Kd.R_alloc | apply Kd.R_drewN | apply Kd.R_drew)); exact HO452.out)) k_ hk)); (case aO => exact (by (with_reducible repeat (first | apply Kd.R_alloc | apply Kd.R_drewN | apply Kd.R_drew)); exact Kd.R_mono HO_7.out (fun _ hk => hk.2))); (case aS => exact (below_size (by repeat (first | (with_reducible first | exact HB.out | apply below_alloc | apply pw_below_drewN | apply below_drew1 | refine below_set ?_ GE424.out | refine below_set ?_ GE425.out) | exact HB.out)))); (case aL => have := LMc40.out; omega); intro v454 w44 ho hb hg hat; rw [← Ny453.out] at ho; have n0_ := Aside0.mk (blk_grown (g := gb424) (o := .cells #[.int .i64 a0_0, .int .i64 a0_1] 31 (0, 0)) (by (with_reducible repeat (first | refine blk_drewN ?_ _ | refine blk_drew ?_ | refine blk_alloc ?_ _)); exact BK424.out) hg (Kd.R_ne HO_7.out BK424.out (by decide))); have n1_ := Aside0.mk (blk_grown (g := gb425) (o := .cells #[.int .i64 a1_0, .int .i64 a1_1, .int .i64 a1_2, .int .i64 a1_3, .int .i64 a1_4, .int .i64 a1_5] 25 (0, 0)) (by (with_reducible repeat (first | refine blk_drewN ?_ _ | refine blk_drew ?_ | refine blk_alloc ?_ _)); exact BK425.out) hg (Kd.R_ne HO_7.out BK425.out (by decide))); have n2_ := Aside0.mk (Kd.R_after (ok := (fun _ => True)) (by (with_reducible repeat (first | apply Kd.R_alloc | apply Kd.R_drewN | apply Kd.R_drew)); exact HO452.out) hg hat); have n3_ := Aside0.mk (hb); have n4_ := Aside0.mk (ho); clear BK424; clear BK425; clear HO452; clear HB; clear HO_7; have BK424 := n0_; have BK425 := n1_; have HO452 := n2_; have HB := n3_; have HO455 := n4_; clear n0_ n1_ n2_ n3_ n4_; clear ho hb hg hat))
             go_roundg k2
             case measure => have := HK1.out; have := HK2.out; omega
             case rel => exact ⟨(y453), (wrap64 (x11_2 + 1)), (by first | rfl | (simp; done) | (simp [*]; done)), H', ⟨by have := HK1.out; have := HK2.out; omega⟩, ⟨by (with_reducible repeat (first | apply Kd.R_alloc | apply Kd.R_drewN | apply Kd.R_drew)); exact Kd.R_mono HO455.out (fun _ hk => trivial)⟩, ⟨by (with_reducible repeat (first | refine blk_drewN ?_ _ | refine blk_drew ?_ | refine blk_alloc ?_ _)); exact BK424.out⟩, ⟨by (with_reducible repeat (first | refine blk_drewN ?_ _ | refine blk_drew ?_ | refine blk_alloc ?_ _)); exact BK425.out⟩, ⟨by repeat (first | (with_reducible first | exact HB.out | apply below_alloc | apply pw_below_drewN | apply below_drew1 | refine below_set ?_ GE424.out | refine below_set ?_ GE425.out) | exact HB.out)⟩⟩
            ·rw [if_neg c40] at H
             exact absurd H (by simp)
           ·rw [if_neg c38] at H
            have c38b0 : decide (x11_2 < a1_5) = false := decide_eq_false c38
            clear c38
            obtain rfl := Option.some.inj H
            have hnb46 := NB425_424.out
            have hnc46 := NB424_425.out
            have hcz47_0 : wr.cell? ⟨gb425, 0, none⟩ = some (.int .i64 a1_0) := (blk_cell (w := wr) BK425.out 0).trans rfl
            have hcz47_1 : wr.cell? ⟨gb425, 1, none⟩ = some (.int .i64 a1_1) := (blk_cell (w := wr) BK425.out 1).trans rfl
            have hcz47_2 : wr.cell? ⟨gb425, 2, none⟩ = some (.int .i64 a1_2) := (blk_cell (w := wr) BK425.out 2).trans rfl
            have hcz47_3 : wr.cell? ⟨gb425, 3, none⟩ = some (.int .i64 a1_3) := (blk_cell (w := wr) BK425.out 3).trans rfl
            have hcz47_4 : wr.cell? ⟨gb425, 4, none⟩ = some (.int .i64 a1_4) := (blk_cell (w := wr) BK425.out 4).trans rfl
            have hcz47_5 : wr.cell? ⟨gb425, 5, none⟩ = some (.int .i64 a1_5) := (blk_cell (w := wr) BK425.out 5).trans rfl
            have hfz47_0 := blk_frozen (w := wr) BK425.out 0
            have hfz47_1 := blk_frozen (w := wr) BK425.out 1
            have hfz47_2 := blk_frozen (w := wr) BK425.out 2
            have hfz47_3 := blk_frozen (w := wr) BK425.out 3
            have hfz47_4 := blk_frozen (w := wr) BK425.out 4
            have hfz47_5 := blk_frozen (w := wr) BK425.out 5
            go_wp2
            go_ret
            exact ⟨_, by first | rfl | (simp [errW_none, errW_some] <;> rfl) | (simp [*, errW_none, errW_some] <;> rfl), by (with_reducible repeat (first | apply Kd.R_alloc | apply Kd.R_drewN | apply Kd.R_drew)); exact HO_7.out, by repeat (first | (with_reducible first | exact HB.out | apply below_alloc | apply pw_below_drewN | apply below_drew1 | refine below_set ?_ GE424.out | refine below_set ?_ GE425.out) | exact HB.out)⟩
        ·rw [if_neg c34] at H
         exact absurd H (by simp)
       ·rw [if_neg c32] at H
        have c32b0 : (a2 == 1) = false := beq_eq_false_iff_ne.mpr c32
        have c32b1 : (a2 != 1) = true := bne_iff_ne.mpr c32
        replace H := Option.bind_eq_some_iff.mp H
        obtain ⟨t456, A480, H⟩ := H
        replace H : (if x7_1.length + t456.length < 1954687338268 then (some (x7_1 ++ t456)) else (none)) = some r := H
        have A48 := Aside0.mk A480
        clear A480
        by_cases c49 : x7_1.length + t456.length < 1954687338268
        ·rw [if_pos c49] at H
         have LMc49 := Aside0.mk c49
         clear c49
         obtain ⟨y459, hy459⟩ : ∃ y_ : List (S142), y_ = (x7_1 ++ t456) := ⟨_, rfl⟩
         replace H : (some y459) = some r := by first | (rw [hy459]; with_reducible exact H) | (have H2_ := (Option.bind_some _ _).symm.trans H; rw [hy459]; with_reducible exact H2_) | (have H2_ := (Option.bind_some _ _).symm.trans H; with_reducible exact H2_) | with_reducible exact H | (rw [hy459]; exact H) | exact H
         have Ny459 := Aside0.mk hy459
         clear hy459
         obtain rfl := Option.some.inj H
         have hnb50 := NB425_424.out
         have hnc50 := NB424_425.out
         have hcz51_0 : wr.cell? ⟨gb425, 0, none⟩ = some (.int .i64 a1_0) := (blk_cell (w := wr) BK425.out 0).trans rfl
         have hcz51_1 : wr.cell? ⟨gb425, 1, none⟩ = some (.int .i64 a1_1) := (blk_cell (w := wr) BK425.out 1).trans rfl
         have hcz51_2 : wr.cell? ⟨gb425, 2, none⟩ = some (.int .i64 a1_2) := (blk_cell (w := wr) BK425.out 2).trans rfl
         have hcz51_3 : wr.cell? ⟨gb425, 3, none⟩ = some (.int .i64 a1_3) := (blk_cell (w := wr) BK425.out 3).trans rfl
         have hcz51_4 : wr.cell? ⟨gb425, 4, none⟩ = some (.int .i64 a1_4) := (blk_cell (w := wr) BK425.out 4).trans rfl
         have hcz51_5 : wr.cell? ⟨gb425, 5, none⟩ = some (.int .i64 a1_5) := (blk_cell (w := wr) BK425.out 5).trans rfl
         have hfz51_0 := blk_frozen (w := wr) BK425.out 0
         have hfz51_1 := blk_frozen (w := wr) BK425.out 1
         have hfz51_2 := blk_frozen (w := wr) BK425.out 2
         have hfz51_3 := blk_frozen (w := wr) BK425.out 3
         have hfz51_4 := blk_frozen (w := wr) BK425.out 4
         have hfz51_5 := blk_frozen (w := wr) BK425.out 5
         have hcz52_0 : wr.cell? ⟨gb424, 0, none⟩ = some (.int .i64 a0_0) := (blk_cell (w := wr) BK424.out 0).trans rfl
         have hcz52_1 : wr.cell? ⟨gb424, 1, none⟩ = some (.int .i64 a0_1) := (blk_cell (w := wr) BK424.out 1).trans rfl
         have hfz52_0 := blk_frozen (w := wr) BK424.out 0
         have hfz52_1 := blk_frozen (w := wr) BK424.out 1
         go_wp2_with (first | ((with_reducible refine gate_callee (f := 189) rfl ?_); refine goesL_ (some 40) rfl rfl Try.func189 (by kernel_rfl) rfl #[.agg #[.int .i64 a1_0, .int .i64 a1_1, .int .i64 a1_2, .int .i64 a1_3, .int .i64 a1_4, .int .i64 a1_5], .int .i64 (wrap64 (a1_5 - a0_0)), .int .i64 (-1)] rfl (by (try simp only [List.map_toArray, List.map_cons, List.map_nil]); first | done | rfl | (simp only [List.length_drop, List.length_take]; rfl)) ?_; (with_reducible refine (impl_strip.calls a1_0 a1_1 a1_2 a1_3 a1_4 a1_5 (wrap64 (a1_5 - a0_0)) (-1) t456 _ A48.out).mono ?_); rintro e w53 ⟨v457, rfl, ho0, hb⟩; refine ⟨_, rfl, ?_⟩; have n0_ := Aside0.mk (Kd.R_elder' (by (with_reducible repeat (first | apply Kd.R_alloc | apply Kd.R_drewN | apply Kd.R_drew)); exact HO_7.out) (Kd.R_base ho0) hb); have n1_ := Aside0.mk (Kd.R_lower (Kd.R_new' ho0 (Kd.R_lt (by (with_reducible repeat (first | apply Kd.R_alloc | apply Kd.R_drewN | apply Kd.R_drew)); exact HO_7.out))) (below_size (by repeat (first | (with_reducible first | exact HB.out | apply below_alloc | apply pw_below_drewN | apply below_drew1 | refine below_set ?_ GE424.out | refine below_set ?_ GE425.out) | exact HB.out)))); have n2_ := Aside0.mk (blk_below (g := gb424) (o := .cells #[.int .i64 a0_0, .int .i64 a0_1] 31 (0, 0)) (by (with_reducible repeat (first | refine blk_drewN ?_ _ | refine blk_drew ?_ | refine blk_alloc ?_ _)); exact BK424.out) hb); have n3_ := Aside0.mk (blk_below (g := gb425) (o := .cells #[.int .i64 a1_0, .int .i64 a1_1, .int .i64 a1_2, .int .i64 a1_3, .int .i64 a1_4, .int .i64 a1_5] 25 (0, 0)) (by (with_reducible repeat (first | refine blk_drewN ?_ _ | refine blk_drew ?_ | refine blk_alloc ?_ _)); exact BK425.out) hb); have n4_ := Aside0.mk (below_step (by repeat (first | (with_reducible first | exact HB.out | apply below_alloc | apply pw_below_drewN | apply below_drew1 | refine below_set ?_ GE424.out | refine below_set ?_ GE425.out) | exact HB.out)) hb); clear HO_7; clear BK424; clear BK425; clear HB; have HO_7 := n0_; have HO458 := n1_; have BK424 := n2_; have BK425 := n3_; have HB := n4_; clear n0_ n1_ n2_ n3_ n4_; (try clear hb); (try clear hb2); (try clear hk); (try clear hi); (try clear ho0); obtain ⟨Ao55, co55, eo55⟩ := Kd.R_slice HO458.out; subst eo55) | ((with_reducible refine gate_builtin (b := .append) (xs := #[.tmp 33, .tmp 40]) rfl ?_); at_builtin; refine Kd.R_append_rows k142 (w0 := w) w.heap.size rfl (.tmp 33) (.tmp 40) 87 142 (.agg #[(.int .i64 0), (.int .i64 0), (.int .i64 0), (.int .i64 0), (.int .i64 0), (.int .i64 0), (.slice none 0 0)]) 72 rfl Try.underlying87 info142 rfl (by decide) (by omega) u7 x7_1 t456 _ _ _ (fun k_ => some k_ ≠ (.slice Ao55 t456.length co55 : Value).ownBlock) (fun _ => False) rfl rfl ?aO ?aR (fun _ _ h => h) (fun _ h => h.elim) ?aF ?aB ?aS ?aL ?_; (case aR => repeat (first | exact (Kd.R_reads' HO458.out).2.2 | (with_reducible refine Kd.C_alloc ?_ _) | (with_reducible refine Kd.C_drewN ?_ _) | (with_reducible refine Kd.C_drew ?_))); (case aB => exact (by repeat (first | (with_reducible first | exact HB.out | apply below_alloc | apply pw_below_drewN | apply below_drew1 | refine below_set ?_ GE424.out | refine below_set ?_ GE425.out) | exact HB.out))); (case aF => exact (fun k_ hk => Kd.fresh' (Kd.R_lt (by (with_reducible repeat (first | apply Kd.R_alloc | apply Kd.R_drewN | apply Kd.R_drew)); exact HO458.out)) k_ hk)); (case aO => exact (by (with_reducible repeat (first | apply Kd.R_alloc | apply Kd.R_drewN | apply Kd.R_drew)); exact Kd.R_mono HO_7.out (fun _ hk => hk.2))); (case aS => exact (below_size (by repeat (first | (with_reducible first | exact HB.out | apply below_alloc | apply pw_below_drewN | apply below_drew1 | refine below_set ?_ GE424.out | refine below_set ?_ GE425.out) | exact HB.out)))); (case aL => have := LMc49.out; omega); intro v460 w54 ho hb hg hat; rw [← Ny459.out] at ho; have n0_ := Aside0.mk (blk_grown (g := gb424) (o := .cells #[.int .i64 a0_0, .int .i64 a0_1] 31 (0, 0)) (by (with_reducible repeat (first | refine blk_drewN ?_ _ | refine blk_drew ?_ | refine blk_alloc ?_ _)); exact BK424.out) hg (Kd.R_ne HO_7.out BK424.out (by decide))); have n1_ := Aside0.mk (blk_grown (g := gb425) (o := .cells #[.int .i64 a1_0, .int .i64 a1_1, .int .i64 a1_2, .int .i64 a1_3, .int .i64 a1_4, .int .i64 a1_5] 25 (0, 0)) (by (with_reducible repeat (first | refine blk_drewN ?_ _ | refine blk_drew ?_ | refine blk_alloc ?_ _)); exact BK425.out) hg (Kd.R_ne HO_7.out BK425.out (by decide))); have n2_ := Aside0.mk (Kd.R_after (ok := (fun _ => True)) (by (with_reducible repeat (first | apply Kd.R_alloc | apply Kd.R_drewN | apply Kd.R_drew)); exact HO458.out) hg hat); have n3_ := Aside0.mk (hb); have n4_ := Aside0.mk (ho); clear BK424; clear BK425; clear HO458; clear HB; clear HO_7; have BK424 := n0_; have BK425 := n1_; have HO458 := n2_; have HB := n3_; have HO461 := n4_; clear n0_ n1_ n2_ n3_ n4_; clear ho hb hg hat))
         go_ret
         exact ⟨_, by first | rfl | (simp [errW_none, errW_some] <;> rfl) | (simp [*, errW_none, errW_some] <;> rfl), by (with_reducible repeat (first | apply Kd.R_alloc | apply Kd.R_drewN | apply Kd.R_drew)); exact Kd.R_mono HO461.out (fun _ hk => trivial), by repeat (first | (with_reducible first | exact HB.out | apply below_alloc | apply pw_below_drewN | apply below_drew1 | refine below_set ?_ GE424.out | refine below_set ?_ GE425.out) | exact HB.out)⟩
        ·rw [if_neg c49] at H
         exact absurd H (by simp)

/-! ### impl_StripCode: function 67 -/
def impl_StripCode.f (k : Nat) (a0_0 : Int) (a0_1 : Int) (a1_0 : Int) (a1_1 : Int) (a1_2 : Int) (a1_3 : Int) (a1_4 : Int) (a1_5 : Int) (a2 : Int) : Option ((List (S142)) × Bool) := (impl_CanStrip.f k a0_0 a0_1 a1_0 a1_1 a1_2 a1_3 a1_4 a1_5 a2).bind fun t464 => (if t464 = true then ((impl_foldCode.f k a0_0 a0_1 a1_0 a1_1 a1_2 a1_3 a1_4 a1_5).bind fun t465 => (if a1_0 = 0 then ((impl_mapCode.f k a0_0 a0_1 a1_0 a1_1 a1_2 a1_3 a1_4 a1_5 a2).bind fun t468 => (if (t468.length : Int) > 60 then (some (([] : List (S142)), false)) else (some (t468, true)))) else (if (t465.length : Int) > 60 then (some (([] : List (S142)), false)) else (some (t465, true))))) else (some (([] : List (S142)), false)))
theorem impl_StripCode.mono : ∀ a0 a1 a2 a3 a4 a5 a6 a7 a8 k, LeO (impl_StripCode.f k a0 a1 a2 a3 a4 a5 a6 a7 a8) (impl_StripCode.f (k + 1) a0 a1 a2 a3 a4 a5 a6 a7 a8) := by
 intro a0 a1 a2 a3 a4 a5 a6 a7 a8 k
 unfold impl_StripCode.f
 repeat' first
   | (with_reducible exact impl_CanStrip.mono _ _ _ _ _ _ _ _ _ _)
   | (with_reducible exact impl_foldCode.mono _ _ _ _ _ _ _ _ _)
   | (with_reducible exact impl_mapCode.mono _ _ _ _ _ _ _ _ _ _)
   | (with_reducible exact LeO.refl _)
   | (with_reducible exact LeO.none _)
   | (with_reducible refine LeO.ite ?_ ?_)
   | (with_reducible refine LeO.bind ?_ (fun _ => ?_))
   | exact impl_CanStrip.mono _ _ _ _ _ _ _ _ _ _
   | exact impl_foldCode.mono _ _ _ _ _ _ _ _ _
   | exact impl_mapCode.mono _ _ _ _ _ _ _ _ _ _
   | exact LeO.none _
   | refine LeO.ite ?_ ?_
   | refine LeO.bind ?_ (fun _ => ?_)
set_option maxHeartbeats 8000000 in
set_option maxRecDepth 100000 in
theorem impl_StripCode.calls (k : Nat) (a0_0 : Int) (a0_1 : Int) (a1_0 : Int) (a1_1 : Int) (a1_2 : Int) (a1_3 : Int) (a1_4 : Int) (a1_5 : Int) (a2 : Int) (r1 : List (S142)) (r2 : Bool) (w : World) (h : impl_StripCode.f k a0_0 a0_1 a1_0 a1_1 a1_2 a1_3 a1_4 a1_5 a2 = some (r1, r2)) :
  Calls Try.prog 67 #[.agg #[.int .i64 a0_0, .int .i64 a0_1], .agg #[.int .i64 a1_0, .int .i64 a1_1, .int .i64 a1_2, .int .i64 a1_3, .int .i64 a1_4, .int .i64 a1_5], .int .i64 a2] w fun e w' => ∃ v0_ : Value, e = .returned (.tuple #[v0_, .bool r2]) ∧ Kd.R k142 142 w' w.heap.size (fun _ => True) v0_ r1 ∧ Below w.heap.size w w' := by
 have hu31 := Try.underlying31
 have hu25 := Try.underlying25
 have HB := Aside0.mk (Below.refl w.heap.size w)
 have H : ((impl_CanStrip.f k a0_0 a0_1 a1_0 a1_1 a1_2 a1_3 a1_4 a1_5 a2).bind fun t464 => (if t464 = true then ((impl_foldCode.f k a0_0 a0_1 a1_0 a1_1 a1_2 a1_3 a1_4 a1_5).bind fun t465 => (if a1_0 = 0 then ((impl_mapCode.f k a0_0 a0_1 a1_0 a1_1 a1_2 a1_3 a1_4 a1_5 a2).bind fun t468 => (if (t468.length : Int) > 60 then (some (([] : List (S142)), false)) else (some (t468, true)))) else (if (t465.length : Int) > 60 then (some (([] : List (S142)), false)) else (some (t465, true))))) else (some (([] : List (S142)), false)))) = some (r1, r2) := h
 clear h
 replace H := Option.bind_eq_some_iff.mp H
 obtain ⟨t464, A40, H⟩ := H
 replace H : (if t464 = true then ((impl_foldCode.f k a0_0 a0_1 a1_0 a1_1 a1_2 a1_3 a1_4 a1_5).bind fun t465 => (if a1_0 = 0 then ((impl_mapCode.f k a0_0 a0_1 a1_0 a1_1 a1_2 a1_3 a1_4 a1_5 a2).bind fun t468 => (if (t468.length : Int) > 60 then (some (([] : List (S142)), false)) else (some (t468, true)))) else (if (t465.length : Int) > 60 then (some (([] : List (S142)), false)) else (some (t465, true))))) else (some (([] : List (S142)), false))) = some (r1, r2) := H
 have A4 := Aside0.mk A40
 clear A40
 by_cases c5 : t464 = true
 ·subst c5
  have H1 : ((impl_foldCode.f k a0_0 a0_1 a1_0 a1_1 a1_2 a1_3 a1_4 a1_5).bind fun t465 => (if a1_0 = 0 then ((impl_mapCode.f k a0_0 a0_1 a1_0 a1_1 a1_2 a1_3 a1_4 a1_5 a2).bind fun t468 => (if (t468.length : Int) > 60 then (some (([] : List (S142)), false)) else (some (t468, true)))) else (if (t465.length : Int) > 60 then (some (([] : List (S142)), false)) else (some (t465, true))))) = some (r1, r2) := by rw [if_pos rfl] at H; exact H
  clear H
  have H := H1
  clear H1
  replace H := Option.bind_eq_some_iff.mp H
  obtain ⟨t465, A60, H⟩ := H
  replace H : (if a1_0 = 0 then ((impl_mapCode.f k a0_0 a0_1 a1_0 a1_1 a1_2 a1_3 a1_4 a1_5 a2).bind fun t468 => (if (t468.length : Int) > 60 then (some (([] : List (S142)), false)) else (some (t468, true)))) else (if (t465.length : Int) > 60 then (some (([] : List (S142)), false)) else (some (t465, true)))) = some (r1, r2) := H
  have A6 := Aside0.mk A60
  clear A60
  by_cases c7 : a1_0 = 0
  ·rw [if_pos c7] at H
   have c7b0 : (a1_0 == 0) = true := beq_iff_eq.mpr c7
   have c7b1 : (a1_0 != 0) = false := bne_eq_false_iff_eq.mpr c7
   clear c7
   replace H := Option.bind_eq_some_iff.mp H
   obtain ⟨t468, A80, H⟩ := H
   replace H : (if (t468.length : Int) > 60 then (some (([] : List (S142)), false)) else (some (t468, true))) = some (r1, r2) := H
   have A8 := Aside0.mk A80
   clear A80
   by_cases c9 : (t468.length : Int) > 60
   ·rw [if_pos c9] at H
    have c9b0 : decide (60 < (t468.length : Int)) = true := decide_eq_true c9
    have c9b1 : decide (60 < t468.length) = true := decide_eq_true (by omega)
    clear c9
    simp only [Option.some.injEq, Prod.mk.injEq] at H
    obtain ⟨rfl, rfl⟩ := H
    go_enter Try.func67, Try.ntmps67
    go_wp2_with (first | ((with_reducible refine gate_dst (N := 3) rfl ?_); refine box_event ?hg (N := 3) ?hd (cs := #[.int .i64 a0_0, .int .i64 a0_1]) (t := 31) ?hr ?_; (case hd => rfl); (case hg => rfl); (case hr => first | (go_simp; done) | (go_simp; rfl)); intro gb462 hg w10 hbox hb; have n0_ := Aside0.mk (below_step (by repeat (first | (with_reducible first | exact HB.out | apply below_alloc | apply pw_below_drewN | apply below_drew1) | exact HB.out)) hb); have n1_ := Aside0.mk (hbox); have n2_ := Aside0.mk ((by rw [hg]; exact (below_size (by repeat (first | (with_reducible first | exact HB.out | apply below_alloc | apply pw_below_drewN | apply below_drew1) | exact HB.out))) : w.heap.size ≤ gb462)); have n3_ := Aside0.mk ((by rw [hg]; exact (below_size (by repeat (first | (with_reducible first | exact HB.out | apply below_alloc | apply pw_below_drewN | apply below_drew1) | exact HB.out))) : w.heap.size ≤ gb462)); clear HB; have HB := n0_; have BK462 := n1_; have GW462 := n2_; have GE462 := n3_; clear n0_ n1_ n2_ n3_; clear hb hbox hg) | ((with_reducible refine gate_dst (N := 4) rfl ?_); refine box_event ?hg (N := 4) ?hd (cs := #[.int .i64 a1_0, .int .i64 a1_1, .int .i64 a1_2, .int .i64 a1_3, .int .i64 a1_4, .int .i64 a1_5]) (t := 25) ?hr ?_; (case hd => rfl); (case hg => rfl); (case hr => first | (go_simp; done) | (go_simp; rfl)); intro gb463 hg w11 hbox hb; have n0_ := Aside0.mk (blk_below (g := gb462) (o := .cells #[.int .i64 a0_0, .int .i64 a0_1] 31 (0, 0)) (by (with_reducible repeat (first | refine blk_drewN ?_ _ | refine blk_drew ?_ | refine blk_alloc ?_ _)); exact BK462.out) hb); have n1_ := Aside0.mk (below_step (by repeat (first | (with_reducible first | exact HB.out | apply below_alloc | apply pw_below_drewN | apply below_drew1 | refine below_set ?_ GE462.out) | exact HB.out)) hb); have n2_ := Aside0.mk (hbox); have n3_ := Aside0.mk ((by rw [hg]; exact (below_size (by repeat (first | (with_reducible first | exact HB.out | apply below_alloc | apply pw_below_drewN | apply below_drew1 | refine below_set ?_ GE462.out) | exact HB.out))) : w.heap.size ≤ gb463)); have n4_ := Aside0.mk ((by rw [hg]; exact (below_size (by repeat (first | (with_reducible first | exact HB.out | apply below_alloc | apply pw_below_drewN | apply below_drew1 | refine below_set ?_ GE462.out) | exact HB.out))) : w.heap.size ≤ gb463)); have n5_ := Aside0.mk ((by rw [hg]; exact Nat.ne_of_lt (blk_lt (g := gb462) (o := .cells #[.int .i64 a0_0, .int .i64 a0_1] 31 (0, 0)) (by (with_reducible repeat (first | refine blk_drewN ?_ _ | refine blk_drew ?_ | refine blk_alloc ?_ _)); exact BK462.out)) : gb462 ≠ gb463)); have n6_ := Aside0.mk ((by rw [hg]; exact Nat.ne_of_gt (blk_lt (g := gb462) (o := .cells #[.int .i64 a0_0, .int .i64 a0_1] 31 (0, 0)) (by (with_reducible repeat (first | refine blk_drewN ?_ _ | refine blk_drew ?_ | refine blk_alloc ?_ _)); exact BK462.out)) : gb463 ≠ gb462)); clear BK462; clear HB; have BK462 := n0_; have HB := n1_; have BK463 := n2_; have GW463 := n3_; have GE463 := n4_; have NB462_463 := n5_; have NB463_462 := n6_; clear n0_ n1_ n2_ n3_ n4_ n5_ n6_; clear hb hbox hg; have hnb12 := NB462_463.out; have hnc12 := NB463_462.out; have hcz13_0 : w11.cell? ⟨gb462, 0, none⟩ = some (.int .i64 a0_0) := (blk_cell (w := w11) BK462.out 0).trans rfl; have hcz13_1 : w11.cell? ⟨gb462, 1, none⟩ = some (.int .i64 a0_1) := (blk_cell (w := w11) BK462.out 1).trans rfl; have hfz13_0 := blk_frozen (w := w11) BK462.out 0; have hfz13_1 := blk_frozen (w := w11) BK462.out 1; have hcz14_0 : w11.cell? ⟨gb463, 0, none⟩ = some (.int .i64 a1_0) := (blk_cell (w := w11) BK463.out 0).trans rfl; have hcz14_1 : w11.cell? ⟨gb463, 1, none⟩ = some (.int .i64 a1_1) := (blk_cell (w := w11) BK463.out 1).trans rfl; have hcz14_2 : w11.cell? ⟨gb463, 2, none⟩ = some (.int .i64 a1_2) := (blk_cell (w := w11) BK463.out 2).trans rfl; have hcz14_3 : w11.cell? ⟨gb463, 3, none⟩ = some (.int .i64 a1_3) := (blk_cell (w := w11) BK463.out 3).trans rfl; have hcz14_4 : w11.cell? ⟨gb463, 4, none⟩ = some (.int .i64 a1_4) := (blk_cell (w := w11) BK463.out 4).trans rfl; have hcz14_5 : w11.cell? ⟨gb463, 5, none⟩ = some (.int .i64 a1_5) := (blk_cell (w := w11) BK463.out 5).trans rfl; have hfz14_0 := blk_frozen (w := w11) BK463.out 0; have hfz14_1 := blk_frozen (w := w11) BK463.out 1; have hfz14_2 := blk_frozen (w := w11) BK463.out 2; have hfz14_3 := blk_frozen (w := w11) BK463.out 3; have hfz14_4 := blk_frozen (w := w11) BK463.out 4; have hfz14_5 := blk_frozen (w := w11) BK463.out 5) | ((with_reducible refine gate_callee (f := 24) rfl ?_); refine goesL_ (some 12) rfl rfl Try.func24 (by kernel_rfl) rfl #[.agg #[.int .i64 a0_0, .int .i64 a0_1], .agg #[.int .i64 a1_0, .int .i64 a1_1, .int .i64 a1_2, .int .i64 a1_3, .int .i64 a1_4, .int .i64 a1_5], .int .i64 a2] rfl (by (try simp only [List.map_toArray, List.map_cons, List.map_nil]); first | done | rfl | (simp only [List.length_drop, List.length_take]; rfl)) ?_; (with_reducible refine (impl_CanStrip.calls k a0_0 a0_1 a1_0 a1_1 a1_2 a1_3 a1_4 a1_5 a2 true _ A4.out).mono ?_); rintro e w15 ⟨rfl, hb⟩; refine ⟨_, rfl, ?_⟩; have n0_ := Aside0.mk (blk_below (g := gb462) (o := .cells #[.int .i64 a0_0, .int .i64 a0_1] 31 (0, 0)) (by (with_reducible repeat (first | refine blk_drewN ?_ _ | refine blk_drew ?_ | refine blk_alloc ?_ _)); exact BK462.out) hb); have n1_ := Aside0.mk (blk_below (g := gb463) (o := .cells #[.int .i64 a1_0, .int .i64 a1_1, .int .i64 a1_2, .int .i64 a1_3, .int .i64 a1_4, .int .i64 a1_5] 25 (0, 0)) (by (with_reducible repeat (first | refine blk_drewN ?_ _ | refine blk_drew ?_ | refine blk_alloc ?_ _)); exact BK463.out) hb); have n2_ := Aside0.mk (below_step (by repeat (first | (with_reducible first | exact HB.out | apply below_alloc | apply pw_below_drewN | apply below_drew1 | refine below_set ?_ GE462.out | refine below_set ?_ GE463.out) | exact HB.out)) hb); clear BK462; clear BK463; clear HB; have BK462 := n0_; have BK463 := n1_; have HB := n2_; clear n0_ n1_ n2_; (try clear hb); (try clear hb2); (try clear hk); (try clear hi); have hcz16_0 : w15.cell? ⟨gb462, 0, none⟩ = some (.int .i64 a0_0) := (blk_cell (w := w15) BK462.out 0).trans rfl; have hcz16_1 : w15.cell? ⟨gb462, 1, none⟩ = some (.int .i64 a0_1) := (blk_cell (w := w15) BK462.out 1).trans rfl; have hfz16_0 := blk_frozen (w := w15) BK462.out 0; have hfz16_1 := blk_frozen (w := w15) BK462.out 1; have hcz17_0 : w15.cell? ⟨gb463, 0, none⟩ = some (.int .i64 a1_0) := (blk_cell (w := w15) BK463.out 0).trans rfl; have hcz17_1 : w15.cell? ⟨gb463, 1, none⟩ = some (.int .i64 a1_1) := (blk_cell (w := w15) BK463.out 1).trans rfl; have hcz17_2 : w15.cell? ⟨gb463, 2, none⟩ = some (.int .i64 a1_2) := (blk_cell (w := w15) BK463.out 2).trans rfl; have hcz17_3 : w15.cell? ⟨gb463, 3, none⟩ = some (.int .i64 a1_3) := (blk_cell (w := w15) BK463.out 3).trans rfl; have hcz17_4 : w15.cell? ⟨gb463, 4, none⟩ = some (.int .i64 a1_4) := (blk_cell (w := w15) BK463.out 4).trans rfl; have hcz17_5 : w15.cell? ⟨gb463, 5, none⟩ = some (.int .i64 a1_5) := (blk_cell (w := w15) BK463.out 5).trans rfl; have hfz17_0 := blk_frozen (w := w15) BK463.out 0; have hfz17_1 := blk_frozen (w := w15) BK463.out 1; have hfz17_2 := blk_frozen (w := w15) BK463.out 2; have hfz17_3 := blk_frozen (w := w15) BK463.out 3; have hfz17_4 := blk_frozen (w := w15) BK463.out 4; have hfz17_5 := blk_frozen (w := w15) BK463.out 5) | ((with_reducible refine gate_callee (f := 132) rfl ?_); refine goesL_ (some 16) rfl rfl Try.func132 (by kernel_rfl) rfl #[.agg #[.int .i64 a0_0, .int .i64 a0_1], .agg #[.int .i64 a1_0, .int .i64 a1_1, .int .i64 a1_2, .int .i64 a1_3, .int .i64 a1_4, .int .i64 a1_5]] rfl (by (try simp only [List.map_toArray, List.map_cons, List.map_nil]); first | done | rfl | (simp only [List.length_drop, List.length_take]; rfl)) ?_; (with_reducible refine (impl_foldCode.calls k a0_0 a0_1 a1_0 a1_1 a1_2 a1_3 a1_4 a1_5 t465 _ A6.out).mono ?_); rintro e w18 ⟨v466, rfl, ho0, hb⟩; refine ⟨_, rfl, ?_⟩; have n0_ := Aside0.mk (Kd.R_lower ho0 (below_size (by repeat (first | (with_reducible first | exact HB.out | apply below_alloc | apply pw_below_drewN | apply below_drew1 | refine below_set ?_ GE462.out | refine below_set ?_ GE463.out) | exact HB.out)))); have n1_ := Aside0.mk (blk_below (g := gb462) (o := .cells #[.int .i64 a0_0, .int .i64 a0_1] 31 (0, 0)) (by (with_reducible repeat (first | refine blk_drewN ?_ _ | refine blk_drew ?_ | refine blk_alloc ?_ _)); exact BK462.out) hb); have n2_ := Aside0.mk (blk_below (g := gb463) (o := .cells #[.int .i64 a1_0, .int .i64 a1_1, .int .i64 a1_2, .int .i64 a1_3, .int .i64 a1_4, .int .i64 a1_5] 25 (0, 0)) (by (with_reducible repeat (first | refine blk_drewN ?_ _ | refine blk_drew ?_ | refine blk_alloc ?_ _)); exact BK463.out) hb); have n3_ := Aside0.mk (below_step (by repeat (first | (with_reducible first | exact HB.out | apply below_alloc | apply pw_below_drewN | apply below_drew1 | refine below_set ?_ GE462.out | refine below_set ?_ GE463.out) | exact HB.out)) hb); clear BK462; clear BK463; clear HB; have HO467 := n0_; have BK462 := n1_; have BK463 := n2_; have HB := n3_; clear n0_ n1_ n2_ n3_; (try clear hb); (try clear hb2); (try clear hk); (try clear hi); (try clear ho0); have hcz19_0 : w18.cell? ⟨gb463, 0, none⟩ = some (.int .i64 a1_0) := (blk_cell (w := w18) BK463.out 0).trans rfl; have hcz19_1 : w18.cell? ⟨gb463, 1, none⟩ = some (.int .i64 a1_1) := (blk_cell (w := w18) BK463.out 1).trans rfl; have hcz19_2 : w18.cell? ⟨gb463, 2, none⟩ = some (.int .i64 a1_2) := (blk_cell (w := w18) BK463.out 2).trans rfl; have hcz19_3 : w18.cell? ⟨gb463, 3, none⟩ = some (.int .i64 a1_3) := (blk_cell (w := w18) BK463.out 3).trans rfl; have hcz19_4 : w18.cell? ⟨gb463, 4, none⟩ = some (.int .i64 a1_4) := (blk_cell (w := w18) BK463.out 4).trans rfl; have hcz19_5 : w18.cell? ⟨gb463, 5, none⟩ = some (.int .i64 a1_5) := (blk_cell (w := w18) BK463.out 5).trans rfl; have hfz19_0 := blk_frozen (w := w18) BK463.out 0; have hfz19_1 := blk_frozen (w := w18) BK463.out 1; have hfz19_2 := blk_frozen (w := w18) BK463.out 2; have hfz19_3 := blk_frozen (w := w18) BK463.out 3; have hfz19_4 := blk_frozen (w := w18) BK463.out 4; have hfz19_5 := blk_frozen (w := w18) BK463.out 5; have hcz20_0 : w18.cell? ⟨gb462, 0, none⟩ = some (.int .i64 a0_0) := (blk_cell (w := w18) BK462.out 0).trans rfl; have hcz20_1 : w18.cell? ⟨gb462, 1, none⟩ = some (.int .i64 a0_1) := (blk_cell (w := w18) BK462.out 1).trans rfl; have hfz20_0 := blk_frozen (w := w18) BK462.out 0; have hfz20_1 := blk_frozen (w := w18) BK462.out 1) | ((with_reducible refine gate_callee (f := 133) rfl ?_); refine goesL_ (some 23) rfl rfl Try.func133 (by kernel_rfl) rfl #[.agg #[.int .i64 a0_0, .int .i64 a0_1], .agg #[.int .i64 a1_0, .int .i64 a1_1, .int .i64 a1_2, .int .i64 a1_3, .int .i64 a1_4, .int .i64 a1_5], .int .i64 a2] rfl (by (try simp only [List.map_toArray, List.map_cons, List.map_nil]); first | done | rfl | (simp only [List.length_drop, List.length_take]; rfl)) ?_; (with_reducible refine (impl_mapCode.calls k a0_0 a0_1 a1_0 a1_1 a1_2 a1_3 a1_4 a1_5 a2 t468 _ A8.out).mono ?_); rintro e w21 ⟨v469, rfl, ho0, hb⟩; refine ⟨_, rfl, ?_⟩; have n0_ := Aside0.mk (Kd.R_elder' (by (with_reducible repeat (first | apply Kd.R_alloc | apply Kd.R_drewN | apply Kd.R_drew)); exact HO467.out) (Kd.R_base ho0) hb); have n1_ := Aside0.mk (Kd.R_lower (Kd.R_new' ho0 (Kd.R_lt (by (with_reducible repeat (first | apply Kd.R_alloc | apply Kd.R_drewN | apply Kd.R_drew)); exact HO467.out))) (below_size (by repeat (first | (with_reducible first | exact HB.out | apply below_alloc | apply pw_below_drewN | apply below_drew1 | refine below_set ?_ GE462.out | refine below_set ?_ GE463.out) | exact HB.out)))); have n2_ := Aside0.mk (blk_below (g := gb462) (o := .cells #[.int .i64 a0_0, .int .i64 a0_1] 31 (0, 0)) (by (with_reducible repeat (first | refine blk_drewN ?_ _ | refine blk_drew ?_ | refine blk_alloc ?_ _)); exact BK462.out) hb); have n3_ := Aside0.mk (blk_below (g := gb463) (o := .cells #[.int .i64 a1_0, .int .i64 a1_1, .int .i64 a1_2, .int .i64 a1_3, .int .i64 a1_4, .int .i64 a1_5] 25 (0, 0)) (by (with_reducible repeat (first | refine blk_drewN ?_ _ | refine blk_drew ?_ | refine blk_alloc ?_ _)); exact BK463.out) hb); have n4_ := Aside0.mk (below_step (by repeat (first | (with_reducible first | exact HB.out | apply below_alloc | apply pw_below_drewN | apply below_drew1 | refine below_set ?_ GE462.out | refine below_set ?_ GE463.out) | exact HB.out)) hb); clear HO467; clear BK462; clear BK463; clear HB; have HO467 := n0_; have HO470 := n1_; have BK462 := n2_; have BK463 := n3_; have HB := n4_; clear n0_ n1_ n2_ n3_ n4_; (try clear hb); (try clear hb2); (try clear hk); (try clear hi); (try clear ho0); obtain ⟨Ao22, co22, eo22⟩ := Kd.R_slice HO470.out; subst eo22))
    go_ret2
    exact ⟨_, by first | rfl | (simp [errW_none, errW_some] <;> rfl) | (simp [*, errW_none, errW_some] <;> rfl), by first | exact Kd.R_nil _ _ _ _ _ | exact Kd.N_nil _ _ _ _ _ | exact Kd.V_nil _ _ _ _ _ | exact Kd.Q_nil _ _ _ _ _ | exact Kd.S_nil _ _ _ _ _, by repeat (first | (with_reducible first | exact HB.out | apply below_alloc | apply pw_below_drewN | apply below_drew1 | refine below_set ?_ GE462.out | refine below_set ?_ GE463.out) | exact HB.out)⟩
   ·rw [if_neg c9] at H
    have c9b0 : decide (60 < (t468.length : Int)) = false := decide_eq_false c9
    have c9b1 : decide (60 < t468.length) = false := decide_eq_false (by omega)
    clear c9
    simp only [Option.some.injEq, Prod.mk.injEq] at H
    obtain ⟨rfl, rfl⟩ := H
    go_enter Try.func67, Try.ntmps67
    go_wp2_with (first | ((with_reducible refine gate_dst (N := 3) rfl ?_); refine box_event ?hg (N := 3) ?hd (cs := #[.int .i64 a0_0, .int .i64 a0_1]) (t := 31) ?hr ?_; (case hd => rfl); (case hg => rfl); (case hr => first | (go_simp; done) | (go_simp; rfl)); intro gb462 hg w23 hbox hb; have n0_ := Aside0.mk (below_step (by repeat (first | (with_reducible first | exact HB.out | apply below_alloc | apply pw_below_drewN | apply below_drew1) | exact HB.out)) hb); have n1_ := Aside0.mk (hbox); have n2_ := Aside0.mk ((by rw [hg]; exact (below_size (by repeat (first | (with_reducible first | exact HB.out | apply below_alloc | apply pw_below_drewN | apply below_drew1) | exact HB.out))) : w.heap.size ≤ gb462)); have n3_ := Aside0.mk ((by rw [hg]; exact (below_size (by repeat (first | (with_reducible first | exact HB.out | apply below_alloc | apply pw_below_drewN | apply below_drew1) | exact HB.out))) : w.heap.size ≤ gb462)); clear HB; have HB := n0_; have BK462 := n1_; have GW462 := n2_; have GE462 := n3_; clear n0_ n1_ n2_ n3_; clear hb hbox hg) | ((with_reducible refine gate_dst (N := 4) rfl ?_); refine box_event ?hg (N := 4) ?hd (cs := #[.int .i64 a1_0, .int .i64 a1_1, .int .i64 a1_2, .int .i64 a1_3, .int .i64 a1_4, .int .i64 a1_5]) (t := 25) ?hr ?_; (case hd => rfl); (case hg => rfl); (case hr => first | (go_simp; done) | (go_simp; rfl)); intro gb463 hg w24 hbox hb; have n0_ := Aside0.mk (blk_below (g := gb462) (o := .cells #[.int .i64 a0_0, .int .i64 a0_1] 31 (0, 0)) (by (with_reducible repeat (first | refine blk_drewN ?_ _ | refine blk_drew ?_ | refine blk_alloc ?_ _)); exact BK462.out) hb); have n1_ := Aside0.mk (below_step (by repeat (first | (with_reducible first | exact HB.out | apply below_alloc | apply pw_below_drewN | apply below_drew1 | refine below_set ?_ GE462.out) | exact HB.out)) hb); have n2_ := Aside0.mk (hbox); have n3_ := Aside0.mk ((by rw [hg]; exact (below_size (by repeat (first | (with_reducible first | exact HB.out | apply below_alloc | apply pw_below_drewN | apply below_drew1 | refine below_set ?_ GE462.out) | exact HB.out))) : w.heap.size ≤ gb463)); have n4_ := Aside0.mk ((by rw [hg]; exact (below_size (by repeat (first | (with_reducible first | exact HB.out | apply below_alloc | apply pw_below_drewN | apply below_drew1 | refine below_set ?_ GE462.out) | exact HB.out))) : w.heap.size ≤ gb463)); have n5_ := Aside0.mk ((by rw [hg]; exact Nat.ne_of_lt (blk_lt (g := gb462) (o := .cells #[.int .i64 a0_0, .int .i64 a0_1] 31 (0, 0)) (by (with_reducible repeat (first | refine blk_drewN ?_ _ | refine blk_drew ?_ | refine blk_alloc ?_ _)); exact BK462.out)) : gb462 ≠ gb463)); have n6_ := Aside0.mk ((by rw [hg]; exact Nat.ne_of_gt (blk_lt (g := gb462) (o := .cells #[.int .i64 a0_0, .int .i64 a0_1] 31 (0, 0)) (by (with_reducible repeat (first | refine blk_drewN ?_ _ | refine blk_drew ?_ | refine blk_alloc ?_ _)); exact BK462.out)) : gb463 ≠ gb462)); clear BK462; clear HB; have BK462 := n0_; have HB := n1_; have BK463 := n2_; have GW463 := n3_; have GE463 := n4_; have NB462_463 := n5_; have NB463_462 := n6_; clear n0_ n1_ n2_ n3_ n4_ n5_ n6_; clear hb hbox hg; have hnb25 := NB462_463.out; have hnc25 := NB463_462.out; have hcz26_0 : w24.cell? ⟨gb462, 0, none⟩ = some (.int .i64 a0_0) := (blk_cell (w := w24) BK462.out 0).trans rfl; have hcz26_1 : w24.cell? ⟨gb462, 1, none⟩ = some (.int .i64 a0_1) := (blk_cell (w := w24) BK462.out 1).trans rfl; have hfz26_0 := blk_frozen (w := w24) BK462.out 0; have hfz26_1 := blk_frozen (w := w24) BK462.out 1; have hcz27_0 : w24.cell? ⟨gb463, 0, none⟩ = some (.int .i64 a1_0) := (blk_cell (w := w24) BK463.out 0).trans rfl; have hcz27_1 : w24.cell? ⟨gb463, 1, none⟩ = some (.int .i64 a1_1) := (blk_cell (w := w24) BK463.out 1).trans rfl; have hcz27_2 : w24.cell? ⟨gb463, 2, none⟩ = some (.int .i64 a1_2) := (blk_cell (w := w24) BK463.out 2).trans rfl; have hcz27_3 : w24.cell? ⟨gb463, 3, none⟩ = some (.int .i64 a1_3) := (blk_cell (w := w24) BK463.out 3).trans rfl; have hcz27_4 : w24.cell? ⟨gb463, 4, none⟩ = some (.int .i64 a1_4) := (blk_cell (w := w24) BK463.out 4).trans rfl; have hcz27_5 : w24.cell? ⟨gb463, 5, none⟩ = some (.int .i64 a1_5) := (blk_cell (w := w24) BK463.out 5).trans rfl; have hfz27_0 := blk_frozen (w := w24) BK463.out 0; have hfz27_1 := blk_frozen (w := w24) BK463.out 1; have hfz27_2 := blk_frozen (w := w24) BK463.out 2; have hfz27_3 := blk_frozen (w := w24) BK463.out 3; have hfz27_4 := blk_frozen (w := w24) BK463.out 4; have hfz27_5 := blk_frozen (w := w24) BK463.out 5) | ((with_reducible refine gate_callee (f := 24) rfl ?_); refine goesL_ (some 12) rfl rfl Try.func24 (by kernel_rfl) rfl #[.agg #[.int .i64 a0_0, .int .i64 a0_1], .agg #[.int .i64 a1_0, .int .i64 a1_1, .int .i64 a1_2, .int .i64 a1_3, .int .i64 a1_4, .int .i64 a1_5], .int .i64 a2] rfl (by (try simp only [List.map_toArray, List.map_cons, List.map_nil]); first | done | rfl | (simp only [List.length_drop, List.length_take]; rfl)) ?_; (with_reducible refine (impl_CanStrip.calls k a0_0 a0_1 a1_0 a1_1 a1_2 a1_3 a1_4 a1_5 a2 true _ A4.out).mono ?_); rintro e w28 ⟨rfl, hb⟩; refine ⟨_, rfl, ?_⟩; have n0_ := Aside0.mk (blk_below (g := gb462) (o := .cells #[.int .i64 a0_0, .int .i64 a0_1] 31 (0, 0)) (by (with_reducible repeat (first | refine blk_drewN ?_ _ | refine blk_drew ?_ | refine blk_alloc ?_ _)); exact BK462.out) hb); have n1_ := Aside0.mk (blk_below (g := gb463) (o := .cells #[.int .i64 a1_0, .int .i64 a1_1, .int .i64 a1_2, .int .i64 a1_3, .int .i64 a1_4, .int .i64 a1_5] 25 (0, 0)) (by (with_reducible repeat (first | refine blk_drewN ?_ _ | refine blk_drew ?_ | refine blk_alloc ?_ _)); exact BK463.out) hb); have n2_ := Aside0.mk (below_step (by repeat (first | (with_reducible first | exact HB.out | apply below_alloc | apply pw_below_drewN | apply below_drew1 | refine below_set ?_ GE462.out | refine below_set ?_ GE463.out) | exact HB.out)) hb); clear BK462; clear BK463; clear HB; have BK462 := n0_; have BK463 := n1_; have HB := n2_; clear n0_ n1_ n2_; (try clear hb); (try clear hb2); (try clear hk); (try clear hi); have hcz29_0 : w28.cell? ⟨gb462, 0, none⟩ = some (.int .i64 a0_0) := (blk_cell (w := w28) BK462.out 0).trans rfl; have hcz29_1 : w28.cell? ⟨gb462, 1, none⟩ = some (.int .i64 a0_1) := (blk_cell (w := w28) BK462.out 1).trans rfl; have hfz29_0 := blk_frozen (w := w28) BK462.out 0; have hfz29_1 := blk_frozen (w := w28) BK462.out 1; have hcz30_0 : w28.cell? ⟨gb463, 0, none⟩ = some (.int .i64 a1_0) := (blk_cell (w := w28) BK463.out 0).trans rfl; have hcz30_1 : w28.cell? ⟨gb463, 1, none⟩ = some (.int .i64 a1_1) := (blk_cell (w := w28) BK463.out 1).trans rfl; have hcz30_2 : w28.cell? ⟨gb463, 2, none⟩ = some (.int .i64 a1_2) := (blk_cell (w := w28) BK463.out 2).trans rfl; have hcz30_3 : w28.cell? ⟨gb463, 3, none⟩ = some (.int .i64 a1_3) := (blk_cell (w := w28) BK463.out 3).trans rfl; have hcz30_4 : w28.cell? ⟨gb463, 4, none⟩ = some (.int .i64 a1_4) := (blk_cell (w := w28) BK463.out 4).trans rfl; have hcz30_5 : w28.cell? ⟨gb463, 5, none⟩ = some (.int .i64 a1_5) := (blk_cell (w := w28) BK463.out 5).trans rfl; have hfz30_0 := blk_frozen (w := w28) BK463.out 0; have hfz30_1 := blk_frozen (w := w28) BK463.out 1; have hfz30_2 := blk_frozen (w := w28) BK463.out 2; have hfz30_3 := blk_frozen (w := w28) BK463.out 3; have hfz30_4 := blk_frozen (w := w28) BK463.out 4; have hfz30_5 := blk_frozen (w := w28) BK463.out 5) | ((with_reducible refine gate_callee (f := 132) rfl ?_); refine goesL_ (some 16) rfl rfl Try.func132 (by kernel_rfl) rfl #[.agg #[.int .i64 a0_0, .int .i64 a0_1], .agg #[.int .i64 a1_0, .int .i64 a1_1, .int .i64 a1_2, .int .i64 a1_3, .int .i64 a1_4, .int .i64 a1_5]] rfl (by (try simp only [List.map_toArray, List.map_cons, List.map_nil]); first | done | rfl | (simp only [List.length_drop, List.length_take]; rfl)) ?_; (with_reducible refine (impl_foldCode.calls k a0_0 a0_1 a1_0 a1_1 a1_2 a1_3 a1_4 a1_5 t465 _ A6.out).mono ?_); rintro e w31 ⟨v466, rfl, ho0, hb⟩; refine ⟨_, rfl, ?_⟩; have n0_ := Aside0.mk (Kd.R_lower ho0 (below_size (by repeat (first | (with_reducible first | exact HB.out | apply below_alloc | apply pw_below_drewN | apply below_drew1 | refine below_set ?_ GE462.out | refine below_set ?_ GE463.out) | exact HB.out)))); have n1_ := Aside0.mk (blk_below (g := gb462) (o := .cells #[.int .i64 a0_0, .int .i64 a0_1] 31 (0, 0)) (by (with_reducible repeat (first | refine blk_drewN ?_ _ | refine blk_drew ?_ | refine blk_alloc ?_ _)); exact BK462.out) hb); have n2_ := Aside0.mk (blk_below (g := gb463) (o := .cells #[.int .i64 a1_0, .int .i64 a1_1, .int .i64 a1_2, .int .i64 a1_3, .int .i64 a1_4, .int .i64 a1_5] 25 (0, 0)) (by (with_reducible repeat (first | refine blk_drewN ?_ _ | refine blk_drew ?_ | refine blk_alloc ?_ _)); exact BK463.out) hb); have n3_ := Aside0.mk (below_step (by repeat (first | (with_reducible first | exact HB.out | apply below_alloc | apply pw_below_drewN | apply below_drew1 | refine below_set ?_ GE462.out | refine below_set ?_ GE463.out) | exact HB.out)) hb); clear BK462; clear BK463; clear HB; have HO467 := n0_; have BK462 := n1_; have BK463 := n2_; have HB := n3_; clear n0_ n1_ n2_ n3_; (try clear hb); (try clear hb2); (try clear hk); (try clear hi); (try clear ho0); have hcz32_0 : w31.cell? ⟨gb463, 0, none⟩ = some (.int .i64 a1_0) := (blk_cell (w := w31) BK463.out 0).trans rfl; have hcz32_1 : w31.cell? ⟨gb463, 1, none⟩ = some (.int .i64 a1_1) := (blk_cell (w := w31) BK463.out 1).trans rfl; have hcz32_2 : w31.cell? ⟨gb463, 2, none⟩ = some (.int .i64 a1_2) := (blk_cell (w := w31) BK463.out 2).trans rfl; have hcz32_3 : w31.cell? ⟨gb463, 3, none⟩ = some (.int .i64 a1_3) := (blk_cell (w := w31) BK463.out 3).trans rfl; have hcz32_4 : w31.cell? ⟨gb463, 4, none⟩ = some (.int .i64 a1_4) := (blk_cell (w := w31) BK463.out 4).trans rfl; have hcz32_5 : w31.cell? ⟨gb463, 5, none⟩ = some (.int .i64 a1_5) := (blk_cell (w := w31) BK463.out 5).trans rfl; have hfz32_0 := blk_frozen (w := w31) BK463.out 0; have hfz32_1 := blk_frozen (w := w31) BK463.out 1; have hfz32_2 := blk_frozen (w := w31) BK463.out 2; have hfz32_3 := blk_frozen (w := w31) BK463.out 3; have hfz32_4 := blk_frozen (w := w31) BK463.out 4; have hfz32_5 := blk_frozen (w := w31) BK463.out 5; have hcz33_0 : w31.cell? ⟨gb462, 0, none⟩ = some (.int .i64 a0_0) := (blk_cell (w := w31) BK462.out 0).trans rfl; have hcz33_1 : w31.cell? ⟨gb462, 1, none⟩ = some (.int .i64 a0_1) := (blk_cell (w := w31) BK462.out 1).trans rfl; have hfz33_0 := blk_frozen (w := w31) BK462.out 0; have hfz33_1 := blk_frozen (w := w31) BK462.out 1) | ((with_reducible refine gate_callee (f := 133) rfl ?_); refine goesL_ (some 23) rfl rfl Try.func133 (by kernel_rfl) rfl #[.agg #[.int .i64 a0_0, .int .i64 a0_1], .agg #[.int .i64 a1_0, .int .i64 a1_1, .int .i64 a1_2, .int .i64 a1_3, .int .i64 a1_4, .int .i64 a1_5], .int .i64 a2] rfl (by (try simp only [List.map_toArray, List.map_cons, List.map_nil]); first | done | rfl | (simp only [List.length_drop, List.length_take]; rfl)) ?_; (with_reducible refine (impl_mapCode.calls k a0_0 a0_1 a1_0 a1_1 a1_2 a1_3 a1_4 a1_5 a2 t468 _ A8.out).mono ?_); rintro e w34 ⟨v469, rfl, ho0, hb⟩; refine ⟨_, rfl, ?_⟩; have n0_ := Aside0.mk (Kd.R_elder' (by (with_reducible repeat (first | apply Kd.R_alloc | apply Kd.R_drewN | apply Kd.R_drew)); exact HO467.out) (Kd.R_base ho0) hb); have n1_ := Aside0.mk (Kd.R_lower (Kd.R_new' ho0 (Kd.R_lt (by (with_reducible repeat (first | apply Kd.R_alloc | apply Kd.R_drewN | apply Kd.R_drew)); exact HO467.out))) (below_size (by repeat (first | (with_reducible first | exact HB.out | apply below_alloc | apply pw_below_drewN | apply below_drew1 | refine below_set ?_ GE462.out | refine below_set ?_ GE463.out) | exact HB.out)))); have n2_ := Aside0.mk (blk_below (g := gb462) (o := .cells #[.int .i64 a0_0, .int .i64 a0_1] 31 (0, 0)) (by (with_reducible repeat (first | refine blk_drewN ?_ _ | refine blk_drew ?_ | refine blk_alloc ?_ _)); exact BK462.out) hb); have n3_ := Aside0.mk (blk_below (g := gb463) (o := .cells #[.int .i64 a1_0, .int .i64 a1_1, .int .i64 a1_2, .int .i64 a1_3, .int .i64 a1_4, .int .i64 a1_5] 25 (0, 0)) (by (with_reducible repeat (first | refine blk_drewN ?_ _ | refine blk_drew ?_ | refine blk_alloc ?_ _)); exact BK463.out) hb); have n4_ := Aside0.mk (below_step (by repeat (first | (with_reducible first | exact HB.out | apply below_alloc | apply pw_below_drewN | apply below_drew1 | refine below_set ?_ GE462.out | refine below_set ?_ GE463.out) | exact HB.out)) hb); clear HO467; clear BK462; clear BK463; clear HB; have HO467 := n0_; have HO470 := n1_; have BK462 := n2_; have BK463 := n3_; have HB := n4_; clear n0_ n1_ n2_ n3_ n4_; (try clear hb); (try clear hb2); (try clear hk); (try clear hi); (try clear ho0); obtain ⟨Ao35, co35, eo35⟩ := Kd.R_slice HO470.out; subst eo35))
    go_ret2
    exact ⟨_, by first | rfl | (simp [errW_none, errW_some] <;> rfl) | (simp [*, errW_none, errW_some] <;> rfl), by (with_reducible repeat (first | apply Kd.R_alloc | apply Kd.R_drewN | apply Kd.R_drew)); exact Kd.R_mono HO470.out (fun _ hk => trivial), by repeat (first | (with_reducible first | exact HB.out | apply below_alloc | apply pw_below_drewN | apply below_drew1 | refine below_set ?_ GE462.out | refine below_set ?_ GE463.out) | exact HB.out)⟩
  ·rw [if_neg c7] at H
   have c7b0 : (a1_0 == 0) = false := beq_eq_false_iff_ne.mpr c7
   have c7b1 : (a1_0 != 0) = true := bne_iff_ne.mpr c7
   by_cases c36 : (t465.length : Int) > 60
   ·rw [if_pos c36] at H
    have c36b0 : decide (60 < (t465.length : Int)) = true := decide_eq_true c36
    have c36b1 : decide (60 < t465.length) = true := decide_eq_true (by omega)
    clear c36
    simp only [Option.some.injEq, Prod.mk.injEq] at H
    obtain ⟨rfl, rfl⟩ := H
    go_enter Try.func67, Try.ntmps67
    go_wp2_with (first | ((with_reducible refine gate_dst (N := 3) rfl ?_); refine box_event ?hg (N := 3) ?hd (cs := #[.int .i64 a0_0, .int .i64 a0_1]) (t := 31) ?hr ?_; (case hd => rfl); (case hg => rfl); (case hr => first | (go_simp; done) | (go_simp; rfl)); intro gb462 hg w37 hbox hb; have n0_ := Aside0.mk (below_step (by repeat (first | (with_reducible first | exact HB.out | apply below_alloc | apply pw_below_drewN | apply below_drew1) | exact HB.out)) hb); have n1_ := Aside0.mk (hbox); have n2_ := Aside0.mk ((by rw [hg]; exact (below_size (by repeat (first | (with_reducible first | exact HB.out | apply below_alloc | apply pw_below_drewN | apply below_drew1) | exact HB.out))) : w.heap.size ≤ gb462)); have n3_ := Aside0.mk ((by rw [hg]; exact (below_size (by repeat (first | (with_reducible first | exact HB.out | apply below_alloc | apply pw_below_drewN | apply below_drew1) | exact HB.out))) : w.heap.size ≤ gb462)); clear HB; have HB := n0_; have BK462 := n1_; have GW462 := n2_; have GE462 := n3_; clear n0_ n1_ n2_ n3_; clear hb hbox hg) | ((with_reducible refine gate_dst (N := 4) rfl ?_); refine box_event ?hg (N := 4) ?hd (cs := #[.int .i64 a1_0, .int .i64 a1_1, .int .i64 a1_2, .int .i64 a1_3, .int .i64 a1_4, .int .i64 a1_5]) (t := 25) ?hr ?_; (case hd => rfl); (case hg => rfl); (case hr => first | (go_simp; done) | (go_simp; rfl)); intro gb463 hg w38 hbox hb; have n0_ := Aside0.mk (blk_below (g := gb462) (o := .cells #[.int .i64 a0_0, .int .i64 a0_1] 31 (0, 0)) (by (with_reducible repeat (first | refine blk_drewN ?_ _ | refine blk_drew ?_ | refine blk_alloc ?_ _)); exact BK462.out) hb); have n1_ := Aside0.mk (below_step (by repeat (first | (with_reducible first | exact HB.out | apply below_alloc | apply pw_below_drewN | apply below_drew1 | refine below_set ?_ GE462.out) | exact HB.out)) hb); have n2_ := Aside0.mk (hbox); have n3_ := Aside0.mk ((by rw [hg]; exact (below_size (by repeat (first | (with_reducible first | exact HB.out | apply below_alloc | apply pw_below_drewN | apply below_drew1 | refine below_set ?_ GE462.out) | exact HB.out))) : w.heap.size ≤ gb463)); have n4_ := Aside0.mk ((by rw [hg]; exact (below_size (by repeat (first | (with_reducible first | exact HB.out | apply below_alloc | apply pw_below_drewN | apply below_drew1 | refine below_set ?_ GE462.out) | exact HB.out))) : w.heap.size ≤ gb463)); have n5_ := Aside0.mk ((by rw [hg]; exact Nat.ne_of_lt (blk_lt (g := gb462) (o := .cells #[.int .i64 a0_0, .int .i64 a0_1] 31 (0, 0)) (by (with_reducible repeat (first | refine blk_drewN ?_ _ | refine blk_drew ?_ | refine blk_alloc ?_ _)); exact BK462.out)) : gb462 ≠ gb463)); have n6_ := Aside0.mk ((by rw [hg]; exact Nat.ne_of_gt (blk_lt (g := gb462) (o := .cells #[.int .i64 a0_0, .int .i64 a0_1] 31 (0, 0)) (by (with_reducible repeat (first | refine blk_drewN ?_ _ | refine blk_drew ?_ | refine blk_alloc ?_ _)); exact BK462.out)) : gb463 ≠ gb462)); clear BK462; clear HB; have BK462 := n0_; have HB := n1_; have BK463 := n2_; have GW463 := n3_; have GE463 := n4_; have NB462_463 := n5_; have NB463_462 := n6_; clear n0_ n1_ n2_ n3_ n4_ n5_ n6_; clear hb hbox hg; have hnb39 := NB462_463.out; have hnc39 := NB463_462.out; have hcz40_0 : w38.cell? ⟨gb462, 0, none⟩ = some (.int .i64 a0_0) := (blk_cell (w := w38) BK462.out 0).trans rfl; have hcz40_1 : w38.cell? ⟨gb462, 1, none⟩ = some (.int .i64 a0_1) := (blk_cell (w := w38) BK462.out 1).trans rfl; have hfz40_0 := blk_frozen (w := w38) BK462.out 0; have hfz40_1 := blk_frozen (w := w38) BK462.out 1; have hcz41_0 : w38.cell? ⟨gb463, 0, none⟩ = some (.int .i64 a1_0) := (blk_cell (w := w38) BK463.out 0).trans rfl; have hcz41_1 : w38.cell? ⟨gb463, 1, none⟩ = some (.int .i64 a1_1) := (blk_cell (w := w38) BK463.out 1).trans rfl; have hcz41_2 : w38.cell? ⟨gb463, 2, none⟩ = some (.int .i64 a1_2) := (blk_cell (w := w38) BK463.out 2).trans rfl; have hcz41_3 : w38.cell? ⟨gb463, 3, none⟩ = some (.int .i64 a1_3) := (blk_cell (w := w38) BK463.out 3).trans rfl; have hcz41_4 : w38.cell? ⟨gb463, 4, none⟩ = some (.int .i64 a1_4) := (blk_cell (w := w38) BK463.out 4).trans rfl; have hcz41_5 : w38.cell? ⟨gb463, 5, none⟩ = some (.int .i64 a1_5) := (blk_cell (w := w38) BK463.out 5).trans rfl; have hfz41_0 := blk_frozen (w := w38) BK463.out 0; have hfz41_1 := blk_frozen (w := w38) BK463.out 1; have hfz41_2 := blk_frozen (w := w38) BK463.out 2; have hfz41_3 := blk_frozen (w := w38) BK463.out 3; have hfz41_4 := blk_frozen (w := w38) BK463.out 4; have hfz41_5 := blk_frozen (w := w38) BK463.out 5) | ((with_reducible refine gate_callee (f := 24) rfl ?_); refine goesL_ (some 12) rfl rfl Try.func24 (by kernel_rfl) rfl #[.agg #[.int .i64 a0_0, .int .i64 a0_1], .agg #[.int .i64 a1_0, .int .i64 a1_1, .int .i64 a1_2, .int .i64 a1_3, .int .i64 a1_4, .int .i64 a1_5], .int .i64 a2] rfl (by (try simp only [List.map_toArray, List.map_cons, List.map_nil]); first | done | rfl | (simp only [List.length_drop, List.length_take]; rfl)) ?_; (with_reducible refine (impl_CanStrip.calls k a0_0 a0_1 a1_0 a1_1 a1_2 a1_3 a1_4 a1_5 a2 true _ A4.out).mono ?_); rintro e w42 ⟨rfl, hb⟩; refine ⟨_, rfl, ?_⟩; have n0_ := Aside0.mk (blk_below (g := gb462) (o := .cells #[.int .i64 a0_0, .int .i64 a0_1] 31 (0, 0)) (by (with_reducible repeat (first | refine blk_drewN ?_ _ | refine blk_drew ?_ | refine blk_alloc ?_ _)); exact BK462.out) hb); have n1_ := Aside0.mk (blk_below (g := gb463) (o := .cells #[.int .i64 a1_0, .int .i64 a1_1, .int .i64 a1_2, .int .i64 a1_3, .int .i64 a1_4, .int .i64 a1_5] 25 (0, 0)) (by (with_reducible repeat (first | refine blk_drewN ?_ _ | refine blk_drew ?_ | refine blk_alloc ?_ _)); exact BK463.out) hb); have n2_ := Aside0.mk (below_step (by repeat (first | (with_reducible first | exact HB.out | apply below_alloc | apply pw_below_drewN | apply below_drew1 | refine below_set ?_ GE462.out | refine below_set ?_ GE463.out) | exact HB.out)) hb); clear BK462; clear BK463; clear HB; have BK462 := n0_; have BK463 := n1_; have HB := n2_; clear n0_ n1_ n2_; (try clear hb); (try clear hb2); (try clear hk); (try clear hi); have hcz43_0 : w42.cell? ⟨gb462, 0, none⟩ = some (.int .i64 a0_0) := (blk_cell (w := w42) BK462.out 0).trans rfl; have hcz43_1 : w42.cell? ⟨gb462, 1, none⟩ = some (.int .i64 a0_1) := (blk_cell (w := w42) BK462.out 1).trans rfl; have hfz43_0 := blk_frozen (w := w42) BK462.out 0; have hfz43_1 := blk_frozen (w := w42) BK462.out 1; have hcz44_0 : w42.cell? ⟨gb463, 0, none⟩ = some (.int .i64 a1_0) := (blk_cell (w := w42) BK463.out 0).trans rfl; have hcz44_1 : w42.cell? ⟨gb463, 1, none⟩ = some (.int .i64 a1_1) := (blk_cell (w := w42) BK463.out 1).trans rfl; have hcz44_2 : w42.cell? ⟨gb463, 2, none⟩ = some (.int .i64 a1_2) := (blk_cell (w := w42) BK463.out 2).trans rfl; have hcz44_3 : w42.cell? ⟨gb463, 3, none⟩ = some (.int .i64 a1_3) := (blk_cell (w := w42) BK463.out 3).trans rfl; have hcz44_4 : w42.cell? ⟨gb463, 4, none⟩ = some (.int .i64 a1_4) := (blk_cell (w := w42) BK463.out 4).trans rfl; have hcz44_5 : w42.cell? ⟨gb463, 5, none⟩ = some (.int .i64 a1_5) := (blk_cell (w := w42) BK463.out 5).trans rfl; have hfz44_0 := blk_frozen (w := w42) BK463.out 0; have hfz44_1 := blk_frozen (w := w42) BK463.out 1; have hfz44_2 := blk_frozen (w := w42) BK463.out 2; have hfz44_3 := blk_frozen (w := w42) BK463.out 3; have hfz44_4 := blk_frozen (w := w42) BK463.out 4; have hfz44_5 := blk_frozen (w := w42) BK463.out 5) | ((with_reducible refine gate_callee (f := 132) rfl ?_); refine goesL_ (some 16) rfl rfl Try.func132 (by kernel_rfl) rfl #[.agg #[.int .i64 a0_0, .int .i64 a0_1], .agg #[.int .i64 a1_0, .int .i64 a1_1, .int .i64 a1_2, .int .i64 a1_3, .int .i64 a1_4, .int .i64 a1_5]] rfl (by (try simp only [List.map_toArray, List.map_cons, List.map_nil]); first | done | rfl | (simp only [List.length_drop, List.length_take]; rfl)) ?_; (with_reducible refine (impl_foldCode.calls k a0_0 a0_1 a1_0 a1_1 a1_2 a1_3 a1_4 a1_5 t465 _ A6.out).mono ?_); rintro e w45 ⟨v466, rfl, ho0, hb⟩; refine ⟨_, rfl, ?_⟩; have n0_ := Aside0.mk (Kd.R_lower ho0 (below_size (by repeat (first | (with_reducible first | exact HB.out | apply below_alloc | apply pw_below_drewN | apply below_drew1 | refine below_set ?_ GE462.out | refine below_set ?_ GE463.out) | exact HB.out)))); have n1_ := Aside0.mk (blk_below (g := gb462) (o := .cells #[.int .i64 a0_0, .int .i64 a0_1] 31 (0, 0)) (by (with_reducible repeat (first | refine blk_drewN ?_ _ | refine blk_drew ?_ | refine blk_alloc ?_ _)); exact BK462.out) hb); have n2_ := Aside0.mk (blk_below (g := gb463) (o := .cells #[.int .i64 a1_0, .int .i64 a1_1, .int .i64 a1_2, .int .i64 a1_3, .int .i64 a1_4, .int .i64 a1_5] 25 (0, 0)) (by (with_reducible repeat (first | refine blk_drewN ?_ _ | refine blk_drew ?_ | refine blk_alloc ?_ _)); exact BK463.out) hb); have n3_ := Aside0.mk (below_step (by repeat (first | (with_reducible first | exact HB.out | apply below_alloc | apply pw_below_drewN | apply below_drew1 | refine below_set ?_ GE462.out | refine below_set ?_ GE463.out) | exact HB.out)) hb); clear BK462; clear BK463; clear HB; have HO467 := n0_; have BK462 := n1_; have BK463 := n2_; have HB := n3_; clear n0_ n1_ n2_ n3_; (try clear hb); (try clear hb2); (try clear hk); (try clear hi); (try clear ho0); have hcz46_0 : w45.cell? ⟨gb463, 0, none⟩ = some (.int .i64 a1_0) := (blk_cell (w := w45) BK463.out 0).trans rfl; have hcz46_1 : w45.cell? ⟨gb463, 1, none⟩ = some (.int .i64 a1_1) := (blk_cell (w := w45) BK463.out 1).trans rfl; have hcz46_2 : w45.cell? ⟨gb463, 2, none⟩ = some (.int .i64 a1_2) := (blk_cell (w := w45) BK463.out 2).trans rfl; have hcz46_3 : w45.cell? ⟨gb463, 3, none⟩ = some (.int .i64 a1_3) := (blk_cell (w := w45) BK463.out 3).trans rfl; have hcz46_4 : w45.cell? ⟨gb463, 4, none⟩ = some (.int .i64 a1_4) := (blk_cell (w := w45) BK463.out 4).trans rfl; have hcz46_5 : w45.cell? ⟨gb463, 5, none⟩ = some (.int .i64 a1_5) := (blk_cell (w := w45) BK463.out 5).trans rfl; have hfz46_0 := blk_frozen (w := w45) BK463.out 0; have hfz46_1 := blk_frozen (w := w45) BK463.out 1; have hfz46_2 := blk_frozen (w := w45) BK463.out 2; have hfz46_3 := blk_frozen (w := w45) BK463.out 3; have hfz46_4 := blk_frozen (w := w45) BK463.out 4; have hfz46_5 := blk_frozen (w := w45) BK463.out 5; obtain ⟨Ao47, co47, eo47⟩ := Kd.R_slice HO467.out; subst eo47))
    go_ret2
    exact ⟨_, by first | rfl | (simp [errW_none, errW_some] <;> rfl) | (simp [*, errW_none, errW_some] <;> rfl), by first | exact Kd.R_nil _ _ _ _ _ | exact Kd.N_nil _ _ _ _ _ | exact Kd.V_nil _ _ _ _ _ | exact Kd.Q_nil _ _ _ _ _ | exact Kd.S_nil _ _ _ _ _, by repeat (first | (with_reducible first | exact HB.out | apply below_alloc | apply pw_below_drewN | apply below_drew1 | refine below_set ?_ GE462.out | refine below_set ?_ GE463.out) | exact HB.out)⟩
   ·rw [if_neg c36] at H
    have c36b0 : decide (60 < (t465.length : Int)) = false := decide_eq_false c36
    have c36b1 : decide (60 < t465.length) = false := decide_eq_false (by omega)
    clear c36
    simp only [Option.some.injEq, Prod.mk.injEq] at H
    obtain ⟨rfl, rfl⟩ := H
    go_enter Try.func67, Try.ntmps67
    go_wp2_with (first | ((with_reducible refine gate_dst (N := 3) rfl ?_); refine box_event ?hg (N := 3) ?hd (cs := #[.int .i64 a0_0, .int .i64 a0_1]) (t := 31) ?hr ?_; (case hd => rfl); (case hg => rfl); (case hr => first | (go_simp; done) | (go_simp; rfl)); intro gb462 hg w48 hbox hb; have n0_ := Aside0.mk (below_step (by repeat (first | (with_reducible first | exact HB.out | apply below_alloc | apply pw_below_drewN | apply below_drew1) | exact HB.out)) hb); have n1_ := Aside0.mk (hbox); have n2_ := Aside0.mk ((by rw [hg]; exact (below_size (by repeat (first | (with_reducible first | exact HB.out | apply below_alloc | apply pw_below_drewN | apply below_drew1) | exact HB.out))) : w.heap.size ≤ gb462)); have n3_ := Aside0.mk ((by rw [hg]; exact (below_size (by repeat (first | (with_reducible first | exact HB.out | apply below_alloc | apply pw_below_drewN | apply below_drew1) | exact HB.out))) : w.heap.size ≤ gb462)); clear HB; have HB := n0_; have BK462 := n1_; have GW462 := n2_; have GE462 := n3_; clear n0_ n1_ n2_ n3_; clear hb hbox hg) | ((with_reducible refine gate_dst (N := 4) rfl ?_); refine box_event ?hg (N := 4) ?hd (cs := #[.int .i64 a1_0, .int .i64 a1_1, .int .i64 a1_2, .int .i64 a1_3, .int .i64 a1_4, .int .i64 a1_5]) (t := 25) ?hr ?_; (case hd => rfl); (case hg => rfl); (case hr => first | (go_simp; done) | (go_simp; rfl)); intro gb463 hg w49 hbox hb; have n0_ := Aside0.mk (blk_below (g := gb462) (o := .cells #[.int .i64 a0_0, .int .i64 a0_1] 31 (0, 0)) (by (with_reducible repeat (first | refine blk_drewN ?_ _ | refine blk_drew ?_ | refine blk_alloc ?_ _)); exact BK462.out) hb); have n1_ := Aside0.mk (below_step (by repeat (first | (with_reducible first | exact HB.out | apply below_alloc | apply pw_below_drewN | apply below_drew1 | refine below_set ?_ GE462.out) | exact HB.out)) hb); have n2_ := Aside0.mk (hbox); have n3_ := Aside0.mk ((by rw [hg]; exact (below_size (by repeat (first | (with_reducible first | exact HB.out | apply below_alloc | apply pw_below_drewN | apply below_drew1 | refine below_set ?_ GE462.out) | exact HB.out))) : w.heap.size ≤ gb463)); have n4_ := Aside0.mk ((by rw [hg]; exact (below_size (by repeat (first | (with_reducible first | exact HB.out | apply below_alloc | apply pw_below_drewN | apply below_drew1 | refine below_set ?_ GE462.out) | exact HB.out))) : w.heap.size ≤ gb463)); have n5_ := Aside0.mk ((by rw [hg]; exact Nat.ne_of_lt (blk_lt (g := gb462) (o := .cells #[.int .i64 a0_0, .int .i64 a0_1] 31 (0, 0)) (by (with_reducible repeat (first | refine blk_drewN ?_ _ | refine blk_drew ?_ | refine blk_alloc ?_ _)); exact BK462.out)) : gb462 ≠ gb463)); have n6_ := Aside0.mk ((by rw [hg]; exact Nat.ne_of_gt (blk_lt (g := gb462) (o := .cells #[.int .i64 a0_0, .int .i64 a0_1] 31 (0, 0)) (by (with_reducible repeat (first | refine blk_drewN ?_ _ | refine blk_drew ?_ | refine blk_alloc ?_ _)); exact BK462.out)) : gb463 ≠ gb462)); clear BK462; clear HB; have BK462 := n0_; have HB := n1_; have BK463 := n2_; have GW463 := n3_; have GE463 := n4_; have NB462_463 := n5_; have NB463_462 := n6_; clear n0_ n1_ n2_ n3_ n4_ n5_ n6_; clear hb hbox hg; have hnb50 := NB462_463.out; have hnc50 := NB463_462.out; have hcz51_0 : w49.cell? ⟨gb462, 0, none⟩ = some (.int .i64 a0_0) := (blk_cell (w := w49) BK462.out 0).trans rfl; have hcz51_1 : w49.cell? ⟨gb462, 1, none⟩ = some (.int .i64 a0_1) := (blk_cell (w := w49) BK462.out 1).trans rfl; have hfz51_0 := blk_frozen (w := w49) BK462.out 0; have hfz51_1 := blk_frozen (w := w49) BK462.out 1; have hcz52_0 : w49.cell? ⟨gb463, 0, none⟩ = some (.int .i64 a1_0) := (blk_cell (w := w49) BK463.out 0).trans rfl; have hcz52_1 : w49.cell? ⟨gb463, 1, none⟩ = some (.int .i64 a1_1) := (blk_cell (w := w49) BK463.out 1).trans rfl; have hcz52_2 : w49.cell? ⟨gb463, 2, none⟩ = some (.int .i64 a1_2) := (blk_cell (w := w49) BK463.out 2).trans rfl; have hcz52_3 : w49.cell? ⟨gb463, 3, none⟩ = some (.int .i64 a1_3) := (blk_cell (w := w49) BK463.out 3).trans rfl; have hcz52_4 : w49.cell? ⟨gb463, 4, none⟩ = some (.int .i64 a1_4) := (blk_cell (w := w49) BK463.out 4).trans rfl; have hcz52_5 : w49.cell? ⟨gb463, 5, none⟩ = some (.int .i64 a1_5) := (blk_cell (w := w49) BK463.out 5).trans rfl; have hfz52_0 := blk_frozen (w := w49) BK463.out 0; have hfz52_1 := blk_frozen (w := w49) BK463.out 1; have hfz52_2 := blk_frozen (w := w49) BK463.out 2; have hfz52_3 := blk_frozen (w := w49) BK463.out 3; have hfz52_4 := blk_frozen (w := w49) BK463.out 4; have hfz52_5 := blk_frozen (w := w49) BK463.out 5) | ((with_reducible refine gate_callee (f := 24) rfl ?_); refine goesL_ (some 12) rfl rfl Try.func24 (by kernel_rfl) rfl #[.agg #[.int .i64 a0_0, .int .i64 a0_1], .agg #[.int .i64 a1_0, .int .i64 a1_1, .int .i64 a1_2, .int .i64 a1_3, .int .i64 a1_4, .int .i64 a1_5], .int .i64 a2] rfl (by (try simp only [List.map_toArray, List.map_cons, List.map_nil]); first | done | rfl | (simp only [List.length_drop, List.length_take]; rfl)) ?_; (with_reducible refine (impl_CanStrip.calls k a0_0 a0_1 a1_0 a1_1 a1_2 a1_3 a1_4 a1_5 a2 true _ A4.out).mono ?_); rintro e w53 ⟨rfl, hb⟩; refine ⟨_, rfl, ?_⟩; have n0_ := Aside0.mk (blk_below (g := gb462) (o := .cells #[.int .i64 a0_0, .int .i64 a0_1] 31 (0, 0)) (by (with_reducible repeat (first | refine blk_drewN ?_ _ | refine blk_drew ?_ | refine blk_alloc ?_ _)); exact BK462.out) hb); have n1_ := Aside0.mk (blk_below (g := gb463) (o := .cells #[.int .i64 a1_0, .int .i64 a1_1, .int .i64 a1_2, .int .i64 a1_3, .int .i64 a1_4, .int .i64 a1_5] 25 (0, 0)) (by (with_reducible repeat (first | refine blk_drewN ?_ _ | refine blk_drew ?_ | refine blk_alloc ?_ _)); exact BK463.out) hb); have n2_ := Aside0.mk (below_step (by repeat (first | (with_reducible first | exact HB.out | apply below_alloc | apply pw_below_drewN | apply below_drew1 | refine below_set ?_ GE462.out | refine below_set ?_ GE463.out) | exact HB.out)) hb); clear BK462; clear BK463; clear HB; have BK462 := n0_; have BK463 := n1_; have HB := n2_; clear n0_ n1_ n2_; (try clear hb); (try clear hb2); (try clear hk); (try clear hi); have hcz54_0 : w53.cell? ⟨gb462, 0, none⟩ = some (.int .i64 a0_0) := (blk_cell (w := w53) BK462.out 0).trans rfl; have hcz54_1 : w53.cell? ⟨gb462, 1, none⟩ = some (.int .i64 a0_1) := (blk_cell (w := w53) BK462.out 1).trans rfl; have hfz54_0 := blk_frozen (w := w53) BK462.out 0; have hfz54_1 := blk_frozen (w := w53) BK462.out 1; have hcz55_0 : w53.cell? ⟨gb463, 0, none⟩ = some (.int .i64 a1_0) := (blk_cell (w := w53) BK463.out 0).trans rfl; have hcz55_1 : w53.cell? ⟨gb463, 1, none⟩ = some (.int .i64 a1_1) := (blk_cell (w := w53) BK463.out 1).trans rfl; have hcz55_2 : w53.cell? ⟨gb463, 2, none⟩ = some (.int .i64 a1_2) := (blk_cell (w := w53) BK463.out 2).trans rfl; have hcz55_3 : w53.cell? ⟨gb463, 3, none⟩ = some (.int .i64 a1_3) := (blk_cell (w := w53) BK463.out 3).trans rfl; have hcz55_4 : w53.cell? ⟨gb463, 4, none⟩ = some (.int .i64 a1_4) := (blk_cell (w := w53) BK463.out 4).trans rfl; have hcz55_5 : w53.cell? ⟨gb463, 5, none⟩ = some (.int .i64 a1_5) := (blk_cell (w := w53) BK463.out 5).trans rfl; have hfz55_0 := blk_frozen (w := w53) BK463.out 0; have hfz55_1 := blk_frozen (w := w53) BK463.out 1; have hfz55_2 := blk_frozen (w := w53) BK463.out 2; have hfz55_3 := blk_frozen (w := w53) BK463.out 3; have hfz55_4 := blk_frozen (w := w53) BK463.out 4; have hfz55_5 := blk_frozen (w := w53) BK463.out 5) | ((with_reducible refine gate_callee (f := 132) rfl ?_); refine goesL_ (some 16) rfl rfl Try.func132 (by kernel_rfl) rfl #[.agg #[.int .i64 a0_0, .int .i64 a0_1], .agg #[.int .i64 a1_0, .int .i64 a1_1, .int .i64 a1_2, .int .i64 a1_3, .int .i64 a1_4, .int .i64 a1_5]] rfl (by (try simp only [List.map_toArray, List.map_cons, List.map_nil]); first | done | rfl | (simp only [List.length_drop, List.length_take]; rfl)) ?_; (with_reducible refine (impl_foldCode.calls k a0_0 a0_1 a1_0 a1_1 a1_2 a1_3 a1_4 a1_5 t465 _ A6.out).mono ?_); rintro e w56 ⟨v466, rfl, ho0, hb⟩; refine ⟨_, rfl, ?_⟩; have n0_ := Aside0.mk (Kd.R_lower ho0 (below_size (by repeat (first | (with_reducible first | exact HB.out | apply below_alloc | apply pw_below_drewN | apply below_drew1 | refine below_set ?_ GE462.out | refine below_set ?_ GE463.out) | exact HB.out)))); have n1_ := Aside0.mk (blk_below (g := gb462) (o := .cells #[.int .i64 a0_0, .int .i64 a0_1] 31 (0, 0)) (by (with_reducible repeat (first | refine blk_drewN ?_ _ | refine blk_drew ?_ | refine blk_alloc ?_ _)); exact BK462.out) hb); have n2_ := Aside0.mk (blk_below (g := gb463) (o := .cells #[.int .i64 a1_0, .int .i64 a1_1, .int .i64 a1_2, .int .i64 a1_3, .int .i64 a1_4, .int .i64 a1_5] 25 (0, 0)) (by (with_reducible repeat (first | refine blk_drewN ?_ _ | refine blk_drew ?_ | refine blk_alloc ?_ _)); exact BK463.out) hb); have n3_ := Aside0.mk (below_step (by repeat (first | (with_reducible first | exact HB.out | apply below_alloc | apply pw_below_drewN | apply below_drew1 | refine below_set ?_ GE462.out | refine below_set ?_ GE463.out) | exact HB.out)) hb); clear BK462; clear BK463; clear HB; have HO467 := n0_; have BK462 := n1_; have BK463 := n2_; have HB := n3_; clear n0_ n1_ n2_ n3_; (try clear hb); (try clear hb2); (try clear hk); (try clear hi); (try clear ho0); have hcz57_0 : w56.cell? ⟨gb463, 0, none⟩ = some (.int .i64 a1_0) := (blk_cell (w := w56) BK463.out 0).trans rfl; have hcz57_1 : w56.cell? ⟨gb463, 1, none⟩ = some (.int .i64 a1_1) := (blk_cell (w := w56) BK463.out 1).trans rfl; have hcz57_2 : w56.cell? ⟨gb463, 2, none⟩ = some (.int .i64 a1_2) := (blk_cell (w := w56) BK463.out 2).trans rfl; have hcz57_3 : w56.cell? ⟨gb463, 3, none⟩ = some (.int .i64 a1_3) := (blk_cell (w := w56) BK463.out 3).trans rfl; have hcz57_4 : w56.cell? ⟨gb463, 4, none⟩ = some (.int .i64 a1_4) := (blk_cell (w := w56) BK463.out 4).trans rfl; have hcz57_5 : w56.cell? ⟨gb463, 5, none⟩ = some (.int .i64 a1_5) := (blk_cell (w := w56) BK463.out 5).trans rfl; have hfz57_0 := blk_frozen (w := w56) BK463.out 0; have hfz57_1 := blk_frozen (w := w56) BK463.out 1; have hfz57_2 := blk_frozen (w := w56) BK463.out 2; have hfz57_3 := blk_frozen (w := w56) BK463.out 3; have hfz57_4 := blk_frozen (w := w56) BK463.out 4; have hfz57_5 := blk_frozen (w := w56) BK463.out 5; obtain ⟨Ao58, co58, eo58⟩ := Kd.R_slice HO467.out; subst eo58))
    go_ret2
    exact ⟨_, by first | rfl | (simp [errW_none, errW_some] <;> rfl) | (simp [*, errW_none, errW_some] <;> rfl), by (with_reducible repeat (first | apply Kd.R_alloc | apply Kd.R_drewN | apply Kd.R_drew)); exact HO467.out, by repeat (first | (with_reducible first | exact HB.out | apply below_alloc | apply pw_below_drewN | apply below_drew1 | refine below_set ?_ GE462.out | refine below_set ?_ GE463.out) | exact HB.out)⟩
 ·replace c5 := Bool.eq_false_iff.mpr c5
  subst c5
  have H1 : (some (([] : List (S142)), false)) = some (r1, r2) := by rw [if_neg (show ¬ (false = true) by decide)] at H; exact H
  clear H
  have H := H1
  clear H1
  simp only [Option.some.injEq, Prod.mk.injEq] at H
  obtain ⟨rfl, rfl⟩ := H
  go_enter Try.func67, Try.ntmps67
  go_wp2_with (first | ((with_reducible refine gate_dst (N := 3) rfl ?_); refine box_event ?hg (N := 3) ?hd (cs := #[.int .i64 a0_0, .int .i64 a0_1]) (t := 31) ?hr ?_; (case hd => rfl); (case hg => rfl); (case hr => first | (go_simp; done) | (go_simp; rfl)); intro gb462 hg w59 hbox hb; have n0_ := Aside0.mk (below_step (by repeat (first | (with_reducible first | exact HB.out | apply below_alloc | apply pw_below_drewN | apply below_drew1) | exact HB.out)) hb); have n1_ := Aside0.mk (hbox); have n2_ := Aside0.mk ((by rw [hg]; exact (below_size (by repeat (first | (with_reducible first | exact HB.out | apply below_alloc | apply pw_below_drewN | apply below_drew1) | exact HB.out))) : w.heap.size ≤ gb462)); have n3_ := Aside0.mk ((by rw [hg]; exact (below_size (by repeat (first | (with_reducible first | exact HB.out | apply below_alloc | apply pw_below_drewN | apply below_drew1) | exact HB.out))) : w.heap.size ≤ gb462)); clear HB; have HB := n0_; have BK462 := n1_; have GW462 := n2_; have GE462 := n3_; clear n0_ n1_ n2_ n3_; clear hb hbox hg) | ((with_reducible refine gate_dst (N := 4) rfl ?_); refine box_event ?hg (N := 4) ?hd (cs := #[.int .i64 a1_0, .int .i64 a1_1, .int .i64 a1_2, .int .i64 a1_3, .int .i64 a1_4, .int .i64 a1_5]) (t := 25) ?hr ?_; (case hd => rfl); (case hg => rfl); (case hr => first | (go_simp; done) | (go_simp; rfl)); intro gb463 hg w60 hbox hb; have n0_ := Aside0.mk (blk_below (g := gb462) (o := .cells #[.int .i64 a0_0, .int .i64 a0_1] 31 (0, 0)) (by (with_reducible repeat (first | refine blk_drewN ?_ _ | refine blk_drew ?_ | refine blk_alloc ?_ _)); exact BK462.out) hb); have n1_ := Aside0.mk (below_step (by repeat (first | (with_reducible first | exact HB.out | apply below_alloc | apply pw_below_drewN | apply below_drew1 | refine below_set ?_ GE462.out) | exact HB.out)) hb); have n2_ := Aside0.mk (hbox); have n3_ := Aside0.mk ((by rw [hg]; exact (below_size (by repeat (first | (with_reducible first | exact HB.out | apply below_alloc | apply pw_below_drewN | apply below_drew1 | refine below_set ?_ GE462.out) | exact HB.out))) : w.heap.size ≤ gb463)); have n4_ := Aside0.mk ((by rw [hg]; exact (below_size (by repeat (first | (with_reducible first | exact HB.out | apply below_alloc | apply pw_below_drewN | apply below_drew1 | refine below_set ?_ GE462.out) | exact HB.out))) : w.heap.size ≤ gb463)); have n5_ := Aside0.mk ((by rw [hg]; exact Nat.ne_of_lt (blk_lt (g := gb462) (o := .cells #[.int .i64 a0_0, .int .i64 a0_1] 31 (0, 0)) (by (with_reducible repeat (first | refine blk_drewN ?_ _ | refine blk_drew ?_ | refine blk_alloc ?_ _)); exact BK462.out)) : gb462 ≠ gb463)); have n6_ := Aside0.mk ((by rw [hg]; exact Nat.ne_of_gt (blk_lt (g := gb462) (o := .cells #[.int .i64 a0_0, .int .i64 a0_1] 31 (0, 0)) (by (with_reducible repeat (first | refine blk_drewN ?_ _ | refine blk_drew ?_ | refine blk_alloc ?_ _)); exact BK462.out)) : gb463 ≠ gb462)); clear BK462; clear HB; have BK462 := n0_; have HB := n1_; have BK463 := n2_; have GW463 := n3_; have GE463 := n4_; have NB462_463 := n5_; have NB463_462 := n6_; clear n0_ n1_ n2_ n3_ n4_ n5_ n6_; clear hb hbox hg; have hnb61 := NB462_463.out; have hnc61 := NB463_462.out; have hcz62_0 : w60.cell? ⟨gb462, 0, none⟩ = some (.int .i64 a0_0) := (blk_cell (w := w60) BK462.out 0).trans rfl; have hcz62_1 : w60.cell? ⟨gb462, 1, none⟩ = some (.int .i64 a0_1) := (blk_cell (w := w60) BK462.out 1).trans rfl; have hfz62_0 := blk_frozen (w := w60) BK462.out 0; have hfz62_1 := blk_frozen (w := w60) BK462.out 1; have hcz63_0 : w60.cell? ⟨gb463, 0, none⟩ = some (.int .i64 a1_0) := (blk_cell (w := w60) BK463.out 0).trans rfl; have hcz63_1 : w60.cell? ⟨gb463, 1, none⟩ = some (.int .i64 a1_1) := (blk_cell (w := w60) BK463.out 1).trans rfl; have hcz63_2 : w60.cell? ⟨gb463, 2, none⟩ = some (.int .i64 a1_2) := (blk_cell (w := w60) BK463.out 2).trans rfl; have hcz63_3 : w60.cell? ⟨gb463, 3, none⟩ = some (.int .i64 a1_3) := (blk_cell (w := w60) BK463.out 3).trans rfl; have hcz63_4 : w60.cell? ⟨gb463, 4, none⟩ = some (.int .i64 a1_4) := (blk_cell (w := w60) BK463.out 4).trans rfl; have hcz63_5 : w60.cell? ⟨gb463, 5, none⟩ = some (.int .i64 a1_5) := (blk_cell (w := w60) BK463.out 5).trans rfl; have hfz63_0 := blk_frozen (w := w60) BK463.out 0; have hfz63_1 := blk_frozen (w := w60) BK463.out 1; have hfz63_2 := blk_frozen (w := w60) BK463.out 2; have hfz63_3 := blk_frozen (w := w60) BK463.out 3; have hfz63_4 := blk_frozen (w := w60) BK463.out 4; have hfz63_5 := blk_frozen (w := w60) BK463.out 5) | ((with_reducible refine gate_callee (f := 24) rfl ?_); refine goesL_ (some 12) rfl rfl Try.func24 (by kernel_rfl) rfl #[.agg #[.int .i64 a0_0, .int .i64 a0_1], .agg #[.int .i64 a1_0, .int .i64 a1_1, .int .i64 a1_2, .int .i64 a1_3, .int .i64 a1_4, .int .i64 a1_5], .int .i64 a2] rfl (by (try simp only [List.map_toArray, List.map_cons, List.map_nil]); first | done | rfl | (simp only [List.length_drop, List.length_take]; rfl)) ?_; (with_reducible refine (impl_CanStrip.calls k a0_0 a0_1 a1_0 a1_1 a1_2 a1_3 a1_4 a1_5 a2 false _ A4.out).mono ?_); rintro e w64 ⟨rfl, hb⟩; refine ⟨_, rfl, ?_⟩; have n0_ := Aside0.mk (blk_below (g := gb462) (o := .cells #[.int .i64 a0_0, .int .i64 a0_1] 31 (0, 0)) (by (with_reducible repeat (first | refine blk_drewN ?_ _ | refine blk_drew ?_ | refine blk_alloc ?_ _)); exact BK462.out) hb); have n1_ := Aside0.mk (blk_below (g := gb463) (o := .cells #[.int .i64 a1_0, .int .i64 a1_1, .int .i64 a1_2, .int .i64 a1_3, .int .i64 a1_4, .int .i64 a1_5] 25 (0, 0)) (by (with_reducible repeat (first | refine blk_drewN ?_ _ | refine blk_drew ?_ | refine blk_alloc ?_ _)); exact BK463.out) hb); have n2_ := Aside0.mk (below_step (by repeat (first | (with_reducible first | exact HB.out | apply below_alloc | apply pw_below_drewN | apply below_drew1 | refine below_set ?_ GE462.out | refine below_set ?_ GE463.out) | exact HB.out)) hb); clear BK462; clear BK463; clear HB; have BK462 := n0_; have BK463 := n1_; have HB := n2_; clear n0_ n1_ n2_; (try clear hb); (try clear hb2); (try clear hk); (try clear hi)))
  go_ret2
  exact ⟨_, by first | rfl | (simp [errW_none, errW_some] <;> rfl) | (simp [*, errW_none, errW_some] <;> rfl), by first | exact Kd.R_nil _ _ _ _ _ | exact Kd.N_nil _ _ _ _ _ | exact Kd.V_nil _ _ _ _ _ | exact Kd.Q_nil _ _ _ _ _ | exact Kd.S_nil _ _ _ _ _, by repeat (first | (with_reducible first | exact HB.out | apply below_alloc | apply pw_below_drewN | apply below_drew1 | refine below_set ?_ GE462.out | refine below_set ?_ GE463.out) | exact HB.out)⟩

/-! ### laws_eqInt64S: function 30 -/
def laws_eqInt64S.l0 : Nat → List Int → List Int → Int → Option (Bool)
 | 0, _, _, _ => none
 | k + 1, x0, x1, x5 => if x5 < (x0.length : Int) then (if 0 ≤ x5 then (if x5 < (x1.length : Int) then (if (rd x0 x5) = (rd x1 x5) then (laws_eqInt64S.l0 k x0 x1 (wrap64 (x5 + 1))) else (some false)) else (none)) else (none)) else (some true)
def laws_eqInt64S.f (k : Nat) (l0 : List Int) (l1 : List Int) : Option (Bool) := if (l0.length : Int) = (l1.length : Int) then (laws_eqInt64S.l0 k l0 l1 0) else (some false)
theorem laws_eqInt64S.mono_l : ∀ k, (∀ y0 y1 y2, LeO (laws_eqInt64S.l0 k y0 y1 y2) (laws_eqInt64S.l0 (k + 1) y0 y1 y2))
 | 0 => fun _ _ _ r h => by simp [laws_eqInt64S.l0] at h
 | k + 1 => by
  have ih0 := laws_eqInt64S.mono_l k
  ·intro y0 y1 y2
   unfold laws_eqInt64S.l0
   repeat' first
   | (with_reducible exact ih0 _ _ _)
   | (with_reducible exact LeO.refl _)
   | (with_reducible exact LeO.none _)
   | (with_reducible refine LeO.ite ?_ ?_)
   | (with_reducible refine LeO.bind ?_ (fun _ => ?_))
   | exact ih0 _ _ _
   | exact LeO.none _
   | refine LeO.ite ?_ ?_
   | refine LeO.bind ?_ (fun _ => ?_)
theorem laws_eqInt64S.mono : ∀ a0 a1 k, LeO (laws_eqInt64S.f k a0 a1) (laws_eqInt64S.f (k + 1) a0 a1) := by
 intro a0 a1 k
 have ih0 := laws_eqInt64S.mono_l k
 unfold laws_eqInt64S.f
 repeat' first
   | (with_reducible exact ih0 _ _ _)
   | (with_reducible exact LeO.refl _)
   | (with_reducible exact LeO.none _)
   | (with_reducible refine LeO.ite ?_ ?_)
   | (with_reducible refine LeO.bind ?_ (fun _ => ?_))
   | exact ih0 _ _ _
   | exact LeO.none _
   | refine LeO.ite ?_ ?_
   | refine LeO.bind ?_ (fun _ => ?_)
set_option maxHeartbeats 8000000 in
set_option maxRecDepth 100000 in
theorem laws_eqInt64S.calls (k : Nat) (A0 : Option Addr) (c0 : Nat) (l0 : List Int) (A1 : Option Addr) (c1 : Nat) (l1 : List Int) (r : Bool) (w : World) (hr0 : Kd.C (Kd.int .i64) w A0 l0.length l0) (hc0 : l0.length ≤ c0) (hr1 : Kd.C (Kd.int .i64) w A1 l1.length l1) (hc1 : l1.length ≤ c1) (h : laws_eqInt64S.f k l0 l1 = some r) :
  Calls Try.prog 30 #[.slice A0 l0.length c0, .slice A1 l1.length c1] w fun e w' => e = .returned (.bool r) ∧ Drawn0 w w' := by
 have HR0 := Aside0.mk hr0
 have HC0 := Aside0.mk hc0
 clear hr0 hc0
 have HR1 := Aside0.mk hr1
 have HC1 := Aside0.mk hc1
 clear hr1 hc1
 have H : (if (l0.length : Int) = (l1.length : Int) then (laws_eqInt64S.l0 k l0 l1 0) else (some false)) = some r := h
 clear h
 by_cases c3 : (l0.length : Int) = (l1.length : Int)
 ·rw [if_pos c3] at H
  have c3b0 : ((l0.length : Int) == (l1.length : Int)) = true := beq_iff_eq.mpr c3
  have c3b1 : ((l0.length : Int) != (l1.length : Int)) = false := bne_eq_false_iff_eq.mpr c3
  have c3b2 : (l0.length == l1.length) = true := by first | simpa using c3 | (simp at c3 ⊢; omega)
  clear c3
  have H' := Aside0.mk H
  clear H
  go_enter Try.func30, Try.ntmps30
  go_wp2
  repeat (go_quiet (fail); try go_wp2)
  go_loopg [5] k (fun kq v5 w' => ∃ (x5_1 : Int), v5 = .int .i64 x5_1 ∧ Aside0 (laws_eqInt64S.l0 kq l0 l1 x5_1 = some r) ∧ Aside0 (kq ≤ k) ∧ Drawn0 w w')
  case atStart => exact ⟨(0), (by first | rfl | (simp; done) | (simp [*]; done)), H', ⟨Nat.le_refl _⟩, by repeat (first | exact Drawn0.refl _ | apply Drawn0.step)⟩
  case round =>
   clear H'
   try clear c1
   try clear p2
   try clear c3
   try clear c3b0
   try clear c3b1
   try clear c3b2
   obtain ⟨x5_1, rfl, HA, HK1, ⟨m1, rfl⟩⟩ := hrel
   cases gk with
   | zero => exact absurd HA.out (by simp [laws_eqInt64S.l0])
   | succ k1 =>
    have H := HA.out
    clear HA
    simp only [laws_eqInt64S.l0] at H
    by_cases c4 : x5_1 < (l0.length : Int)
    ·rw [if_pos c4] at H
     have c4b0 : decide (x5_1 < (l0.length : Int)) = true := decide_eq_true c4
     clear c4
     by_cases c5 : 0 ≤ x5_1
     ·rw [if_pos c5] at H
      have c5b0 : decide (0 ≤ x5_1) = true := decide_eq_true c5
      clear c5
      by_cases c6 : x5_1 < (l1.length : Int)
      ·rw [if_pos c6] at H
       have c6b0 : decide (x5_1 < (l1.length : Int)) = true := decide_eq_true c6
       clear c6
       by_cases c7 : (rd l0 x5_1) = (rd l1 x5_1)
       ·rw [if_pos c7] at H
        have c7b0 : ((rd l0 x5_1) == (rd l1 x5_1)) = true := beq_iff_eq.mpr c7
        have c7b1 : ((rd l0 x5_1) != (rd l1 x5_1)) = false := bne_eq_false_iff_eq.mpr c7
        clear c7
        have H' := Aside0.mk H
        clear H
        have p471 : 0 ≤ (x5_1 : Int) := of_decide_eq_true (by first | (with_reducible assumption) | assumption)
        have q471 : x5_1 < (l0.length : Int) := of_decide_eq_true (by first | (with_reducible assumption) | assumption)
        obtain ⟨ad471, e471, hx471_0⟩ := Kd.at_int HR0.out x5_1 p471 q471
        cases e471
        replace p471 := eq_true p471
        replace q471 := eq_true q471
        have p472 : 0 ≤ (x5_1 : Int) := of_decide_eq_true (by first | (with_reducible assumption) | assumption)
        have q472 : x5_1 < (l1.length : Int) := of_decide_eq_true (by first | (with_reducible assumption) | assumption)
        obtain ⟨ad472, e472, hx472_0⟩ := Kd.at_int HR1.out x5_1 p472 q472
        cases e472
        replace p472 := eq_true p472
        replace q472 := eq_true q472
        go_wp2
        repeat (go_quiet (fail); try go_wp2)
        go_roundg k1
        case measure => have := HK1.out; omega
        case rel => exact ⟨(wrap64 (x5_1 + 1)), (by first | rfl | (simp; done) | (simp [*]; done)), H', ⟨by have := HK1.out; omega⟩, by repeat (first | exact Drawn0.refl _ | apply Drawn0.step)⟩
       ·rw [if_neg c7] at H
        have c7b0 : ((rd l0 x5_1) == (rd l1 x5_1)) = false := beq_eq_false_iff_ne.mpr c7
        have c7b1 : ((rd l0 x5_1) != (rd l1 x5_1)) = true := bne_iff_ne.mpr c7
        obtain rfl := Option.some.inj H
        have p471 : 0 ≤ (x5_1 : Int) := of_decide_eq_true (by first | (with_reducible assumption) | assumption)
        have q471 : x5_1 < (l0.length : Int) := of_decide_eq_true (by first | (with_reducible assumption) | assumption)
        obtain ⟨ad471, e471, hx471_0⟩ := Kd.at_int HR0.out x5_1 p471 q471
        cases e471
        replace p471 := eq_true p471
        replace q471 := eq_true q471
        have p472 : 0 ≤ (x5_1 : Int) := of_decide_eq_true (by first | (with_reducible assumption) | assumption)
        have q472 : x5_1 < (l1.length : Int) := of_decide_eq_true (by first | (with_reducible assumption) | assumption)
        obtain ⟨ad472, e472, hx472_0⟩ := Kd.at_int HR1.out x5_1 p472 q472
        cases e472
        replace p472 := eq_true p472
        replace q472 := eq_true q472
        go_wp2
        repeat (go_quiet (fail); try go_wp2)
        go_ret
        exact ⟨by first | rfl | (simp; done) | (simp [*]; done), by repeat (first | exact Drawn0.refl _ | apply Drawn0.step)⟩
      ·rw [if_neg c6] at H
       exact absurd H (by simp)
     ·rw [if_neg c5] at H
      exact absurd H (by simp)
    ·rw [if_neg c4] at H
     have c4b0 : decide (x5_1 < (l0.length : Int)) = false := decide_eq_false c4
     clear c4
     obtain rfl := Option.some.inj H
     go_wp2
     repeat (go_quiet (fail); try go_wp2)
     go_ret
     exact ⟨by first | rfl | (simp; done) | (simp [*]; done), by repeat (first | exact Drawn0.refl _ | apply Drawn0.step)⟩
 ·rw [if_neg c3] at H
  have c3b0 : ((l0.length : Int) == (l1.length : Int)) = false := beq_eq_false_iff_ne.mpr c3
  have c3b1 : ((l0.length : Int) != (l1.length : Int)) = true := bne_iff_ne.mpr c3
  have c3b2 : (l0.length == l1.length) = false := by first | simpa using c3 | (simp at c3 ⊢; omega)
  obtain rfl := Option.some.inj H
  go_enter Try.func30, Try.ntmps30
  go_wp2
  repeat (go_quiet (fail); try go_wp2)
  go_ret
  exact ⟨by first | rfl | (simp; done) | (simp [*]; done), by repeat (first | exact Drawn0.refl _ | apply Drawn0.step)⟩

end Go.Proofs.Ytpfoeologjacfaa.U
