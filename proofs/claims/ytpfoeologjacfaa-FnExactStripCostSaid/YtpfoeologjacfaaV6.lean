-- Written by a program of this session (wip/tools) over the kit's print.
-- COMPACT
import Derived.Test.YtpfoeologjacfaaV0
import Derived.Test.YtpfoeologjacfaaV2
import Derived.Test.YtpfoeologjacfaaV3
import Derived.Test.YtpfoeologjacfaaV4
import Derived.Test.YtpfoeologjacfaaV5
namespace Go.Proofs.Ytpfoeologjacfaa.V
open Go.RowKit Go.Proofs.YtpfoeologjacfaaW.PrintWords Go.Proofs.YtpfoeologjacfaaW.PrintLast Go.Proofs.YtpfoeologjacfaaW.PrintMore
attribute [local go_sem] max2_int min2_int max_two min_two max_three min_three max_four min_four   -- for this text's walks alone
set_option linter.unusedVariables false
set_option linter.unusedSimpArgs false

/-! ### spec_l09Code: function 131 -/
mutual
def spec_l09Code.l0 : Nat → Int → List (S142) → Int → Int → Int → Int → Int → Int → Int → Int → Int → Option ((List (S142)) × Bool)
 | 0, _, _, _, _, _, _, _, _, _, _, _ => none
 | k + 1, x2, x8, x9, x1000, x1001, x2000, x2001, x2002, x2003, x2004, x2005 => if (wrap64 (x9 + x1000)) ≤ x2005 then ((spec_l09Strip.f x2000 x2001 x2002 x2003 x2004 x2005 x9 (-1)).bind fun t212 => (if x8.length + t212.length < 1954687338268 then (spec_l09Code.l0 k x2 (x8 ++ t212) (wrap64 (x9 + x1000)) x1000 x1001 x2000 x2001 x2002 x2003 x2004 x2005) else (none))) else (if x9 < x2005 then (if x2 = 0 then ((spec_l09Mask.f (wrap64 (x2005 - x9))).bind fun t218 => (if x8.length + t218.length < 1954687338268 then ((some (x8 ++ t218 : List (S142))).bind fun y221 => ((spec_l09Strip.f x2000 x2001 x2002 x2003 x2004 x2005 x9 3).bind fun t224 => (if y221.length + t224.length < 1954687338268 then ((some (y221 ++ t224 : List (S142))).bind fun y227 => (some (y227, decide ((y227.length : Int) ≤ 60)))) else (none)))) else (none))) else (if x2 = 1 then ((spec_l09Mask.f 1).bind fun t230 => (if x8.length + t230.length < 1954687338268 then (spec_l09Code.l1 k (x8 ++ t230) x9 x2000 x2001 x2002 x2003 x2004 x2005) else (none))) else ((spec_l09Strip.f x2000 x2001 x2002 x2003 x2004 x2005 (wrap64 (x2005 - x1000)) (-1)).bind fun t242 => (if x8.length + t242.length < 1954687338268 then ((some (x8 ++ t242 : List (S142))).bind fun y245 => (some (y245, decide ((y245.length : Int) ≤ 60)))) else (none))))) else (some (x8, decide ((x8.length : Int) ≤ 60))))
def spec_l09Code.l1 : Nat → List (S142) → Int → Int → Int → Int → Int → Int → Int → Option ((List (S142)) × Bool)
 | 0, _, _, _, _, _, _, _, _ => none
 | k + 1, x8, x9, x2000, x2001, x2002, x2003, x2004, x2005 => if x9 < x2005 then ((spec_l09Strip.f x2000 x2001 x2002 x2003 x2004 x2005 x9 3).bind fun t236 => (if x8.length + t236.length < 1954687338268 then (spec_l09Code.l1 k (x8 ++ t236) (wrap64 (x9 + 1)) x2000 x2001 x2002 x2003 x2004 x2005) else (none))) else (some (x8, decide ((x8.length : Int) ≤ 60)))
end
def spec_l09Code.f (k : Nat) (a0_0 : Int) (a0_1 : Int) (a1_0 : Int) (a1_1 : Int) (a1_2 : Int) (a1_3 : Int) (a1_4 : Int) (a1_5 : Int) (a2 : Int) : Option ((List (S142)) × Bool) := (spec_l09Can.f k a0_0 a1_0 a1_1 a1_2 a1_3 a1_4 a1_5 a2).bind fun t205 => (if t205 = true then (if a1_0 = 1 then ((spec_l09Fold.f k a0_0 a1_0 a1_1 a1_2 a1_3 a1_4 a1_5).bind fun t209 => (some (t209, decide ((t209.length : Int) ≤ 60)))) else (spec_l09Code.l0 k a2 (([] : List (S142))) 0 a0_0 a0_1 a1_0 a1_1 a1_2 a1_3 a1_4 a1_5)) else (some (([] : List (S142)), false)))
theorem spec_l09Code.mono_l : ∀ k, (∀ y0 y1 y2 y3 y4 y5 y6 y7 y8 y9 y10, LeO (spec_l09Code.l0 k y0 y1 y2 y3 y4 y5 y6 y7 y8 y9 y10) (spec_l09Code.l0 (k + 1) y0 y1 y2 y3 y4 y5 y6 y7 y8 y9 y10)) ∧ (∀ y0 y1 y2 y3 y4 y5 y6 y7, LeO (spec_l09Code.l1 k y0 y1 y2 y3 y4 y5 y6 y7) (spec_l09Code.l1 (k + 1) y0 y1 y2 y3 y4 y5 y6 y7))
 | 0 => ⟨fun _ _ _ _ _ _ _ _ _ _ _ r h => by simp [spec_l09Code.l0] at h, fun _ _ _ _ _ _ _ _ r h => by simp [spec_l09Code.l1] at h⟩
 | k + 1 => by
  obtain ⟨ih0, ih1⟩ := spec_l09Code.mono_l k
  refine ⟨?_, ?_⟩
  ·intro y0 y1 y2 y3 y4 y5 y6 y7 y8 y9 y10
   unfold spec_l09Code.l0
   repeat' first
   | (with_reducible exact ih0 _ _ _ _ _ _ _ _ _ _ _)
   | (with_reducible exact ih1 _ _ _ _ _ _ _ _)
   | (with_reducible exact spec_l09Can.mono _ _ _ _ _ _ _ _ _)
   | (with_reducible exact spec_l09Fold.mono _ _ _ _ _ _ _ _)
   | (with_reducible exact LeO.refl _)
   | (with_reducible exact LeO.none _)
   | (with_reducible refine LeO.ite ?_ ?_)
   | (with_reducible refine LeO.bind ?_ (fun _ => ?_))
   | exact ih0 _ _ _ _ _ _ _ _ _ _ _
   | exact ih1 _ _ _ _ _ _ _ _
   | exact spec_l09Can.mono _ _ _ _ _ _ _ _ _
   | exact spec_l09Fold.mono _ _ _ _ _ _ _ _
   | exact LeO.none _
   | refine LeO.ite ?_ ?_
   | refine LeO.bind ?_ (fun _ => ?_)
  ·intro y0 y1 y2 y3 y4 y5 y6 y7
   unfold spec_l09Code.l1
   repeat' first
   | (with_reducible exact ih0 _ _ _ _ _ _ _ _ _ _ _)
   | (with_reducible exact ih1 _ _ _ _ _ _ _ _)
   | (with_reducible exact spec_l09Can.mono _ _ _ _ _ _ _ _ _)
   | (with_reducible exact spec_l09Fold.mono _ _ _ _ _ _ _ _)
   | (with_reducible exact LeO.refl _)
   | (with_reducible exact LeO.none _)
   | (with_reducible refine LeO.ite ?_ ?_)
   | (with_reducible refine LeO.bind ?_ (fun _ => ?_))
   | exact ih0 _ _ _ _ _ _ _ _ _ _ _
   | exact ih1 _ _ _ _ _ _ _ _
   | exact spec_l09Can.mono _ _ _ _ _ _ _ _ _
   | exact spec_l09Fold.mono _ _ _ _ _ _ _ _
   | exact LeO.none _
   | refine LeO.ite ?_ ?_
   | refine LeO.bind ?_ (fun _ => ?_)
theorem spec_l09Code.mono : ∀ a0 a1 a2 a3 a4 a5 a6 a7 a8 k, LeO (spec_l09Code.f k a0 a1 a2 a3 a4 a5 a6 a7 a8) (spec_l09Code.f (k + 1) a0 a1 a2 a3 a4 a5 a6 a7 a8) := by
 intro a0 a1 a2 a3 a4 a5 a6 a7 a8 k
 obtain ⟨ih0, ih1⟩ := spec_l09Code.mono_l k
 unfold spec_l09Code.f
 repeat' first
   | (with_reducible exact ih0 _ _ _ _ _ _ _ _ _ _ _)
   | (with_reducible exact ih1 _ _ _ _ _ _ _ _)
   | (with_reducible exact spec_l09Can.mono _ _ _ _ _ _ _ _ _)
   | (with_reducible exact spec_l09Fold.mono _ _ _ _ _ _ _ _)
   | (with_reducible exact LeO.refl _)
   | (with_reducible exact LeO.none _)
   | (with_reducible refine LeO.ite ?_ ?_)
   | (with_reducible refine LeO.bind ?_ (fun _ => ?_))
   | exact ih0 _ _ _ _ _ _ _ _ _ _ _
   | exact ih1 _ _ _ _ _ _ _ _
   | exact spec_l09Can.mono _ _ _ _ _ _ _ _ _
   | exact spec_l09Fold.mono _ _ _ _ _ _ _ _
   | exact LeO.none _
   | refine LeO.ite ?_ ?_
   | refine LeO.bind ?_ (fun _ => ?_)
def spec_l09Code.T8 : Bool × List (List Nat × List Nat) := (true, [([], []), ([], []), ([1], [1]), ([2], [2]), ([3], [3]), ([0, 4], [0, 4]), ([], []), ([6], [6]), ([7], [7]), ([8], [8]), ([5, 9], [5, 9])])
def spec_l09Code.B8 : List Nat := [0, 0, 2, 6, 14, 31, 0, 64, 192, 448, 1023]
theorem spec_l09Code.tab8 : rtab .any (opsOf Try.f131 8) = spec_l09Code.T8 := by kernel_rfl
theorem spec_l09Code.bits8 : waitsOk spec_l09Code.T8.2 spec_l09Code.B8 = true := by kernel_rfl
def spec_l09Code.T13 : Bool × List (List Nat × List Nat) := (true, [([], []), ([], []), ([], []), ([2], [2]), ([3], [3]), ([4], [4]), ([], []), ([6], [6]), ([7], [7]), ([8], [8]), ([5, 9], [5, 9]), ([1, 10], [1, 10]), ([0, 11, 11], [0, 11]), ([12, 12, 0, 1, 2, 3, 4, 5, 6, 7, 8, 9, 10, 11, 12], [0, 12])])
def spec_l09Code.B13 : List Nat := [0, 0, 0, 4, 12, 28, 0, 64, 192, 448, 1020, 2046, 4095, 8191]
theorem spec_l09Code.tab13 : rtab .any (opsOf Try.f131 13) = spec_l09Code.T13 := by kernel_rfl
theorem spec_l09Code.bits13 : waitsOk spec_l09Code.T13.2 spec_l09Code.B13 = true := by kernel_rfl
set_option maxHeartbeats 8000000 in
set_option maxRecDepth 100000 in
theorem spec_l09Code.calls (k : Nat) (B0 : Nat) (a0_0 : Int) (a0_1 : Int) (B1 : Nat) (a1_0 : Int) (a1_1 : Int) (a1_2 : Int) (a1_3 : Int) (a1_4 : Int) (a1_5 : Int) (a2 : Int) (r1 : List (S142)) (r2 : Bool) (w : World) (hb0 : w.heap[B0]? = some (.cells #[.int .i64 a0_0, .int .i64 a0_1] 31 (0, 0))) (hb1 : w.heap[B1]? = some (.cells #[.int .i64 a1_0, .int .i64 a1_1, .int .i64 a1_2, .int .i64 a1_3, .int .i64 a1_4, .int .i64 a1_5] 25 (0, 0))) (hn0_1 : B0 ≠ B1) (hn1_0 : B1 ≠ B0) (h : spec_l09Code.f k a0_0 a0_1 a1_0 a1_1 a1_2 a1_3 a1_4 a1_5 a2 = some (r1, r2)) :
  Calls Try.prog 131 #[.pointer (some ⟨B0, 0, none⟩), .pointer (some ⟨B1, 0, none⟩), .int .i64 a2] w fun e w' => ∃ v0_ : Value, e = .returned (.tuple #[v0_, .bool r2]) ∧ Kd.R k142 142 w' w.heap.size (fun _ => True) v0_ r1 ∧ Below w.heap.size w w' := by
 have BK0 := Aside0.mk hb0
 clear hb0
 have BK1 := Aside0.mk hb1
 clear hb1
 have NB0_1 := Aside0.mk hn0_1
 clear hn0_1
 have NB1_0 := Aside0.mk hn1_0
 clear hn1_0
 have HB := Aside0.mk (Below.refl w.heap.size w)
 have H : ((spec_l09Can.f k a0_0 a1_0 a1_1 a1_2 a1_3 a1_4 a1_5 a2).bind fun t205 => (if t205 = true then (if a1_0 = 1 then ((spec_l09Fold.f k a0_0 a1_0 a1_1 a1_2 a1_3 a1_4 a1_5).bind fun t209 => (some (t209, decide ((t209.length : Int) ≤ 60)))) else (spec_l09Code.l0 k a2 (([] : List (S142))) 0 a0_0 a0_1 a1_0 a1_1 a1_2 a1_3 a1_4 a1_5)) else (some (([] : List (S142)), false)))) = some (r1, r2) := h
 clear h
 replace H := Option.bind_eq_some_iff.mp H
 obtain ⟨t205, A40, H⟩ := H
 replace H : (if t205 = true then (if a1_0 = 1 then ((spec_l09Fold.f k a0_0 a1_0 a1_1 a1_2 a1_3 a1_4 a1_5).bind fun t209 => (some (t209, decide ((t209.length : Int) ≤ 60)))) else (spec_l09Code.l0 k a2 (([] : List (S142))) 0 a0_0 a0_1 a1_0 a1_1 a1_2 a1_3 a1_4 a1_5)) else (some (([] : List (S142)), false))) = some (r1, r2) := H
 have A4 := Aside0.mk A40
 clear A40
 by_cases c5 : t205 = true
 ·subst c5
  have H1 : (if a1_0 = 1 then ((spec_l09Fold.f k a0_0 a1_0 a1_1 a1_2 a1_3 a1_4 a1_5).bind fun t209 => (some (t209, decide ((t209.length : Int) ≤ 60)))) else (spec_l09Code.l0 k a2 (([] : List (S142))) 0 a0_0 a0_1 a1_0 a1_1 a1_2 a1_3 a1_4 a1_5)) = some (r1, r2) := by rw [if_pos rfl] at H; exact H
  clear H
  have H := H1
  clear H1
  obtain ⟨y206, hy206⟩ : ∃ y_ : List (S142), y_ = (([] : List (S142))) := ⟨_, rfl⟩
  replace H : (if a1_0 = 1 then ((spec_l09Fold.f k a0_0 a1_0 a1_1 a1_2 a1_3 a1_4 a1_5).bind fun t209 => (some (t209, decide ((t209.length : Int) ≤ 60)))) else (spec_l09Code.l0 k a2 y206 0 a0_0 a0_1 a1_0 a1_1 a1_2 a1_3 a1_4 a1_5)) = some (r1, r2) := by first | (rw [hy206]; with_reducible exact H) | (have H2_ := (Option.bind_some _ _).symm.trans H; rw [hy206]; with_reducible exact H2_) | (have H2_ := (Option.bind_some _ _).symm.trans H; with_reducible exact H2_) | with_reducible exact H | (rw [hy206]; exact H) | exact H
  have Ny206 := Aside0.mk hy206
  clear hy206
  by_cases c6 : a1_0 = 1
  ·rw [if_pos c6] at H
   have c6b0 : (a1_0 == 1) = true := beq_iff_eq.mpr c6
   have c6b1 : (a1_0 != 1) = false := bne_eq_false_iff_eq.mpr c6
   clear c6
   replace H := Option.bind_eq_some_iff.mp H
   obtain ⟨t209, A70, H⟩ := H
   replace H : (some (t209, decide ((t209.length : Int) ≤ 60))) = some (r1, r2) := H
   have A7 := Aside0.mk A70
   clear A70
   simp only [Option.some.injEq, Prod.mk.injEq] at H
   obtain ⟨rfl, rfl⟩ := H
   have hnb8 := NB0_1.out
   have hnc8 := NB1_0.out
   have hcz9_0 : w.cell? ⟨B0, 0, none⟩ = some (.int .i64 a0_0) := xvc BK0.out
   have hcz9_1 : w.cell? ⟨B0, 1, none⟩ = some (.int .i64 a0_1) := xvc BK0.out
   have hfz9_0 := blk_frozen BK0.out 0
   have hfz9_1 := blk_frozen BK0.out 1
   go_enter Try.func131, Try.ntmps131
   go_wp2_with (first | ((with_reducible refine gate_callee (f := 84) rfl ?_); refine goesL_ (some 16) rfl rfl Try.func84 (by kernel_rfl) rfl #[.int .i64 a0_0, .pointer (some ⟨B1, 0, none⟩), .int .i64 a2] rfl wv1 ?_; (with_reducible refine (spec_l09Can.calls k a0_0 B1 a1_0 a1_1 a1_2 a1_3 a1_4 a1_5 a2 true _ ?side1 A4.out).mono ?_); (case side1 => (with_reducible repeat (first | refine blk_drewN ?_ _ | refine blk_drew ?_ | refine blk_alloc ?_ _)); exact BK1.out); rintro e w10 ⟨rfl, hb⟩; refine ⟨_, rfl, ?_⟩; have n0_ := Aside0.mk (blk_below (g := B0) (o := .cells #[.int .i64 a0_0, .int .i64 a0_1] 31 (0, 0)) (xvb BK0.out) hb); have n1_ := Aside0.mk (blk_below (g := B1) (o := .cells #[.int .i64 a1_0, .int .i64 a1_1, .int .i64 a1_2, .int .i64 a1_3, .int .i64 a1_4, .int .i64 a1_5] 25 (0, 0)) (xvb BK1.out) hb); have n2_ := Aside0.mk (below_step wv5 hb); clear BK0; clear BK1; clear HB; have BK0 := n0_; have BK1 := n1_; have HB := n2_; clear n0_ n1_ n2_; (try clear hb); (try clear hb2); (try clear hk); (try clear hi)) | ((with_reducible refine gate_dst (N := 18) rfl ?_); refine Kd.R_lit k142 _ 142 ?hg (N := 18) ?hd (xs := ([] : List (S142))) (inner := []) (ok := fun _ => True) (okp := fun _ => True) ?hr ?hp (fun _ hk => hk) trivial (Below.refl _ _) (Nat.le_refl _) (by simp) ?_; (case hd => rfl); (case hg => rfl); (case hr => first | (go_simp; done) | (go_simp; rfl)); (case hp => exact (Reps.none _ _)); intro v207 w11 ho12 hb hg_ hnew_; clear hg_ hnew_; (first | rw [← Ny206.out] at ho12 | (simp only [Int.reduceToNat] at ho12; rw [← Ny206.out] at ho12)); have n0_ := Aside0.mk (Kd.R_lower ho12 (below_size wv5)); have n1_ := Aside0.mk (blk_below (g := B0) (o := .cells #[.int .i64 a0_0, .int .i64 a0_1] 31 (0, 0)) (xvb BK0.out) hb); have n2_ := Aside0.mk (blk_below (g := B1) (o := .cells #[.int .i64 a1_0, .int .i64 a1_1, .int .i64 a1_2, .int .i64 a1_3, .int .i64 a1_4, .int .i64 a1_5] 25 (0, 0)) (xvb BK1.out) hb); have n3_ := Aside0.mk (below_step wv5 hb); clear BK0; clear BK1; clear HB; have HO208 := n0_; have BK0 := n1_; have BK1 := n2_; have HB := n3_; clear n0_ n1_ n2_ n3_; clear hb ho12; have hcz13_0 : w11.cell? ⟨B1, 0, none⟩ = some (.int .i64 a1_0) := xvc BK1.out; have hcz13_1 : w11.cell? ⟨B1, 1, none⟩ = some (.int .i64 a1_1) := xvc BK1.out; have hcz13_2 : w11.cell? ⟨B1, 2, none⟩ = some (.int .i64 a1_2) := xvc BK1.out; have hcz13_3 : w11.cell? ⟨B1, 3, none⟩ = some (.int .i64 a1_3) := xvc BK1.out; have hcz13_4 : w11.cell? ⟨B1, 4, none⟩ = some (.int .i64 a1_4) := xvc BK1.out; have hcz13_5 : w11.cell? ⟨B1, 5, none⟩ = some (.int .i64 a1_5) := xvc BK1.out; have hfz13_0 := blk_frozen BK1.out 0; have hfz13_1 := blk_frozen BK1.out 1; have hfz13_2 := blk_frozen BK1.out 2; have hfz13_3 := blk_frozen BK1.out 3; have hfz13_4 := blk_frozen BK1.out 4; have hfz13_5 := blk_frozen BK1.out 5; have hcz14_0 : w11.cell? ⟨B0, 0, none⟩ = some (.int .i64 a0_0) := xvc BK0.out; have hcz14_1 : w11.cell? ⟨B0, 1, none⟩ = some (.int .i64 a0_1) := xvc BK0.out; have hfz14_0 := blk_frozen BK0.out 0; have hfz14_1 := blk_frozen BK0.out 1) | ((with_reducible refine gate_callee (f := 182) rfl ?_); refine goesL_ (some 29) rfl rfl Try.func182 (by kernel_rfl) rfl #[.int .i64 a0_0, .pointer (some ⟨B1, 0, none⟩)] rfl wv1 ?_; (with_reducible refine (spec_l09Fold.calls k a0_0 B1 a1_0 a1_1 a1_2 a1_3 a1_4 a1_5 t209 _ ?side1 A7.out).mono ?_); (case side1 => (with_reducible repeat (first | refine blk_drewN ?_ _ | refine blk_drew ?_ | refine blk_alloc ?_ _)); exact BK1.out); rintro e w15 ⟨v210, rfl, ho0, hb⟩; refine ⟨_, rfl, ?_⟩; have n0_ := Aside0.mk (Kd.R_elder' (xvr HO208.out) (Kd.R_base ho0) hb); have n1_ := Aside0.mk (Kd.R_lower (Kd.R_new' ho0 (Kd.R_lt (xvr HO208.out))) (below_size wv5)); have n2_ := Aside0.mk (blk_below (g := B0) (o := .cells #[.int .i64 a0_0, .int .i64 a0_1] 31 (0, 0)) (xvb BK0.out) hb); have n3_ := Aside0.mk (blk_below (g := B1) (o := .cells #[.int .i64 a1_0, .int .i64 a1_1, .int .i64 a1_2, .int .i64 a1_3, .int .i64 a1_4, .int .i64 a1_5] 25 (0, 0)) (xvb BK1.out) hb); have n4_ := Aside0.mk (below_step wv5 hb); clear HO208; clear BK0; clear BK1; clear HB; have HO208 := n0_; have HO211 := n1_; have BK0 := n2_; have BK1 := n3_; have HB := n4_; clear n0_ n1_ n2_ n3_ n4_; (try clear hb); (try clear hb2); (try clear hk); (try clear hi); (try clear ho0); obtain ⟨Ao16, co16, eo16⟩ := Kd.R_slice HO211.out; subst eo16))
   go_ret2
   exact ⟨_, wv3, (by (with_reducible repeat (first | apply Kd.R_alloc | apply Kd.R_drewN | apply Kd.R_drew)); exact Kd.R_mono HO211.out (fun _ hk => trivial)), wv5⟩
  ·rw [if_neg c6] at H
   have c6b0 : (a1_0 == 1) = false := beq_eq_false_iff_ne.mpr c6
   have c6b1 : (a1_0 != 1) = true := bne_iff_ne.mpr c6
   have H' := Aside0.mk H
   clear H
   have hnb17 := NB0_1.out
   have hnc17 := NB1_0.out
   have hcz18_0 : w.cell? ⟨B0, 0, none⟩ = some (.int .i64 a0_0) := xvc BK0.out
   have hcz18_1 : w.cell? ⟨B0, 1, none⟩ = some (.int .i64 a0_1) := xvc BK0.out
   have hfz18_0 := blk_frozen BK0.out 0
   have hfz18_1 := blk_frozen BK0.out 1
   go_enter Try.func131, Try.ntmps131
   go_wp2_with (first | ((with_reducible refine gate_callee (f := 84) rfl ?_); refine goesL_ (some 16) rfl rfl Try.func84 (by kernel_rfl) rfl #[.int .i64 a0_0, .pointer (some ⟨B1, 0, none⟩), .int .i64 a2] rfl wv1 ?_; (with_reducible refine (spec_l09Can.calls k a0_0 B1 a1_0 a1_1 a1_2 a1_3 a1_4 a1_5 a2 true _ ?side1 A4.out).mono ?_); (case side1 => (with_reducible repeat (first | refine blk_drewN ?_ _ | refine blk_drew ?_ | refine blk_alloc ?_ _)); exact BK1.out); rintro e w19 ⟨rfl, hb⟩; refine ⟨_, rfl, ?_⟩; have n0_ := Aside0.mk (blk_below (g := B0) (o := .cells #[.int .i64 a0_0, .int .i64 a0_1] 31 (0, 0)) (xvb BK0.out) hb); have n1_ := Aside0.mk (blk_below (g := B1) (o := .cells #[.int .i64 a1_0, .int .i64 a1_1, .int .i64 a1_2, .int .i64 a1_3, .int .i64 a1_4, .int .i64 a1_5] 25 (0, 0)) (xvb BK1.out) hb); have n2_ := Aside0.mk (below_step wv5 hb); clear BK0; clear BK1; clear HB; have BK0 := n0_; have BK1 := n1_; have HB := n2_; clear n0_ n1_ n2_; (try clear hb); (try clear hb2); (try clear hk); (try clear hi)) | ((with_reducible refine gate_dst (N := 18) rfl ?_); refine Kd.R_lit k142 _ 142 ?hg (N := 18) ?hd (xs := ([] : List (S142))) (inner := []) (ok := fun _ => True) (okp := fun _ => True) ?hr ?hp (fun _ hk => hk) trivial (Below.refl _ _) (Nat.le_refl _) (by simp) ?_; (case hd => rfl); (case hg => rfl); (case hr => first | (go_simp; done) | (go_simp; rfl)); (case hp => exact (Reps.none _ _)); intro v207 w20 ho21 hb hg_ hnew_; clear hg_ hnew_; (first | rw [← Ny206.out] at ho21 | (simp only [Int.reduceToNat] at ho21; rw [← Ny206.out] at ho21)); have n0_ := Aside0.mk (Kd.R_lower ho21 (below_size wv5)); have n1_ := Aside0.mk (blk_below (g := B0) (o := .cells #[.int .i64 a0_0, .int .i64 a0_1] 31 (0, 0)) (xvb BK0.out) hb); have n2_ := Aside0.mk (blk_below (g := B1) (o := .cells #[.int .i64 a1_0, .int .i64 a1_1, .int .i64 a1_2, .int .i64 a1_3, .int .i64 a1_4, .int .i64 a1_5] 25 (0, 0)) (xvb BK1.out) hb); have n3_ := Aside0.mk (below_step wv5 hb); clear BK0; clear BK1; clear HB; have HO208 := n0_; have BK0 := n1_; have BK1 := n2_; have HB := n3_; clear n0_ n1_ n2_ n3_; clear hb ho21; have hcz22_0 : w20.cell? ⟨B1, 0, none⟩ = some (.int .i64 a1_0) := xvc BK1.out; have hcz22_1 : w20.cell? ⟨B1, 1, none⟩ = some (.int .i64 a1_1) := xvc BK1.out; have hcz22_2 : w20.cell? ⟨B1, 2, none⟩ = some (.int .i64 a1_2) := xvc BK1.out; have hcz22_3 : w20.cell? ⟨B1, 3, none⟩ = some (.int .i64 a1_3) := xvc BK1.out; have hcz22_4 : w20.cell? ⟨B1, 4, none⟩ = some (.int .i64 a1_4) := xvc BK1.out; have hcz22_5 : w20.cell? ⟨B1, 5, none⟩ = some (.int .i64 a1_5) := xvc BK1.out; have hfz22_0 := blk_frozen BK1.out 0; have hfz22_1 := blk_frozen BK1.out 1; have hfz22_2 := blk_frozen BK1.out 2; have hfz22_3 := blk_frozen BK1.out 3; have hfz22_4 := blk_frozen BK1.out 4; have hfz22_5 := blk_frozen BK1.out 5))
   go_loopg [8, 9] k (fun kq v8 v9 w' => ∃ (x8_1 : List (S142)) (x9_1 : Int) (x2000_1 : Int) (x2001_1 : Int) (x2002_1 : Int) (x2003_1 : Int) (x2004_1 : Int) (x2005_1 : Int), v9 = .int .i64 x9_1 ∧ Aside0 (spec_l09Code.l0 kq a2 x8_1 x9_1 a0_0 a0_1 x2000_1 x2001_1 x2002_1 x2003_1 x2004_1 x2005_1 = some (r1, r2)) ∧ Aside0 (kq ≤ k) ∧ Aside0 (Kd.R k142 142 w' w.heap.size (fun _ => True) v8 x8_1) ∧ Aside0 (w'.heap[B0]? = some (.cells #[.int .i64 a0_0, .int .i64 a0_1] 31 (0, 0))) ∧ Aside0 (w'.heap[B1]? = some (.cells #[.int .i64 x2000_1, .int .i64 x2001_1, .int .i64 x2002_1, .int .i64 x2003_1, .int .i64 x2004_1, .int .i64 x2005_1] 25 (0, 0))) ∧ Aside0 (Below w.heap.size w w'))
   case atStart => exact ⟨(y206), (0), (a1_0), (a1_1), (a1_2), (a1_3), (a1_4), (a1_5), wv6, H', ⟨Nat.le_refl _⟩, ⟨(xvr HO208.out)⟩, ⟨(xvb BK0.out)⟩, ⟨(xvb BK1.out)⟩, ⟨wv5⟩⟩
   case round =>
    clear H'
    try clear c1
    try clear p2
    try clear c5
    try clear c6
    try clear c6b0
    try clear c6b1
    try clear c8
    try clear c13
    try clear c17
    try clear c18
    try clear hcz13_0
    try clear hcz13_1
    try clear hcz13_2
    try clear hcz13_3
    try clear hcz13_4
    try clear hcz13_5
    try clear hcz14_0
    try clear hcz14_1
    try clear hcz18_0
    try clear hcz18_1
    try clear hcz22_0
    try clear hcz22_1
    try clear hcz22_2
    try clear hcz22_3
    try clear hcz22_4
    try clear hcz22_5
    try clear hcz9_0
    try clear hcz9_1
    try clear hfz13_0
    try clear hfz13_1
    try clear hfz13_2
    try clear hfz13_3
    try clear hfz13_4
    try clear hfz13_5
    try clear hfz14_0
    try clear hfz14_1
    try clear hfz18_0
    try clear hfz18_1
    try clear hfz22_0
    try clear hfz22_1
    try clear hfz22_2
    try clear hfz22_3
    try clear hfz22_4
    try clear hfz22_5
    try clear hfz9_0
    try clear hfz9_1
    obtain ⟨x8_1, x9_1, x2000_1, x2001_1, x2002_1, x2003_1, x2004_1, x2005_1, rfl, HA, HK1, HO_8, BK0, BK1, HB⟩ := hrel
    cases gk with
    | zero => exact absurd HA.out (by simp [spec_l09Code.l0])
    | succ k1 =>
     have H := HA.out
     clear HA
     simp only [spec_l09Code.l0] at H
     by_cases c23 : (wrap64 (x9_1 + a0_0)) ≤ x2005_1
     ·rw [if_pos c23] at H
      have c23b0 : decide ((wrap64 (x9_1 + a0_0)) ≤ x2005_1) = true := decide_eq_true c23
      clear c23
      replace H := Option.bind_eq_some_iff.mp H
      obtain ⟨t212, A240, H⟩ := H
      replace H : (if x8_1.length + t212.length < 1954687338268 then (spec_l09Code.l0 k1 a2 (x8_1 ++ t212) (wrap64 (x9_1 + a0_0)) a0_0 a0_1 x2000_1 x2001_1 x2002_1 x2003_1 x2004_1 x2005_1) else (none)) = some (r1, r2) := H
      have A24 := Aside0.mk A240
      clear A240
      by_cases c25 : x8_1.length + t212.length < 1954687338268
      ·rw [if_pos c25] at H
       have LMc25 := Aside0.mk c25
       clear c25
       obtain ⟨y215, hy215⟩ : ∃ y_ : List (S142), y_ = (x8_1 ++ t212) := ⟨_, rfl⟩
       replace H : (spec_l09Code.l0 k1 a2 y215 (wrap64 (x9_1 + a0_0)) a0_0 a0_1 x2000_1 x2001_1 x2002_1 x2003_1 x2004_1 x2005_1) = some (r1, r2) := by first | (rw [hy215]; with_reducible exact H) | (have H2_ := (Option.bind_some _ _).symm.trans H; rw [hy215]; with_reducible exact H2_) | (have H2_ := (Option.bind_some _ _).symm.trans H; with_reducible exact H2_) | with_reducible exact H | (rw [hy215]; exact H) | exact H
       have Ny215 := Aside0.mk hy215
       clear hy215
       have H' := Aside0.mk H
       clear H
       try go_wp2
       have n0_ := Aside0.mk (Kd.R_drew HO_8.out)
       have n1_ := Aside0.mk (blk_drew BK0.out)
       have n2_ := Aside0.mk (blk_drew BK1.out)
       have n3_ := Aside0.mk (below_drew1 HB.out)
       clear HO_8
       clear BK0
       clear BK1
       clear HB
       have HO_8 := n0_
       have BK0 := n1_
       have BK1 := n2_
       have HB := n3_
       clear n0_ n1_ n2_ n3_
       refine start_ (n := 11) (S := fun w' => w'.cell? ⟨B0, 0, none⟩ = some (.int .i64 a0_0) ∧ w'.cell? ⟨B0, 1, none⟩ = some (.int .i64 a0_1) ∧ w'.cell? ⟨B1, 0, none⟩ = some (.int .i64 x2000_1) ∧ w'.cell? ⟨B1, 1, none⟩ = some (.int .i64 x2001_1) ∧ w'.cell? ⟨B1, 2, none⟩ = some (.int .i64 x2002_1) ∧ w'.cell? ⟨B1, 3, none⟩ = some (.int .i64 x2003_1) ∧ w'.cell? ⟨B1, 4, none⟩ = some (.int .i64 x2004_1) ∧ w'.cell? ⟨B1, 5, none⟩ = some (.int .i64 x2005_1)) (ds := []) (zv_.bm 11 0) (by kernel_rfl) rfl rfl ⟨xvc BK0.out, xvc BK0.out, xvc BK1.out, xvc BK1.out, xvc BK1.out, xvc BK1.out, xvc BK1.out, xvc BK1.out⟩ (fun hHeld => ?_); refine with_tabW spec_l09Code.tab8 spec_l09Code.bits8 (fun HT_ HW_ => ?_)
       generalize wr.drew = w26 at HO_8 BK0 BK1 HB hHeld ⊢
       refine zv_.pa (i := 0) (N := some 34) (zv_.bm 11 1) HT_.out ?_
       refine zv_.pa (i := 1) (N := some 35) (zv_.bm 11 3) HT_.out ?_
       refine zv_.pa (i := 2) (N := some 36) (zv_.bm 11 7) HT_.out ?_
       refine zv_.pa (i := 3) (N := some 37) (zv_.bm 11 15) HT_.out ?_
       refine zv_.pa (i := 6) (N := some 40) (zv_.bm 11 79) HT_.out ?_
       refine zv_.pa (i := 7) (N := some 41) (zv_.bm 11 207) HT_.out ?_
       refine zv_.pa (i := 8) (N := some 42) (zv_.bm 11 463) HT_.out ?_
       refine zv_.ta (i := 4) (N := some 38) (zv_.bm 11 479) rfl (take_ofW HT_.out HW_.out (by kernel_rfl)) (Or.inl ⟨(by rfl), wv16⟩) hHeld ?_
       refine zv_.pa (i := 5) (N := some 39) (zv_.bm 11 511) HT_.out ?_
       refine zv_.ta (i := 9) (N := some 43) (zv_.bm 11 1023) rfl (take_ofW HT_.out HW_.out (by kernel_rfl)) (Or.inl ⟨(by rfl), wv16⟩) hHeld ?_
       refine zv_.pa (i := 10) (N := some 44) (zv_.bm 11 2047) HT_.out ?_
       refine done_ (done_of HT_.out (by kernel_rfl)) ?_
       try go_wp2_with (first | ((with_reducible refine gate_callee (f := 183) rfl ?_); refine goesL_ (some 54) rfl rfl Try.func183 (by kernel_rfl) rfl #[.pointer (some ⟨B1, 0, none⟩), .int .i64 x9_1, .int .i64 (-1)] rfl wv1 ?_; (with_reducible refine (spec_l09Strip.calls B1 x2000_1 x2001_1 x2002_1 x2003_1 x2004_1 x2005_1 x9_1 (-1) t212 _ ?side1 A24.out).mono ?_); (case side1 => (with_reducible repeat (first | refine blk_drewN ?_ _ | refine blk_drew ?_ | refine blk_alloc ?_ _)); exact BK1.out); rintro e w27 ⟨v213, rfl, ho0, hb⟩; refine ⟨_, rfl, ?_⟩; have n0_ := Aside0.mk (Kd.R_elder' (xvr HO_8.out) (Kd.R_base ho0) hb); have n1_ := Aside0.mk (Kd.R_lower (Kd.R_new' ho0 (Kd.R_lt (xvr HO_8.out))) (below_size wv5)); have n2_ := Aside0.mk (blk_below (g := B0) (o := .cells #[.int .i64 a0_0, .int .i64 a0_1] 31 (0, 0)) (xvb BK0.out) hb); have n3_ := Aside0.mk (blk_below (g := B1) (o := .cells #[.int .i64 x2000_1, .int .i64 x2001_1, .int .i64 x2002_1, .int .i64 x2003_1, .int .i64 x2004_1, .int .i64 x2005_1] 25 (0, 0)) (xvb BK1.out) hb); have n4_ := Aside0.mk (below_step wv5 hb); clear HO_8; clear BK0; clear BK1; clear HB; have HO_8 := n0_; have HO214 := n1_; have BK0 := n2_; have BK1 := n3_; have HB := n4_; clear n0_ n1_ n2_ n3_ n4_; (try clear hb); (try clear hb2); (try clear hk); (try clear hi); (try clear ho0); obtain ⟨Ao29, co29, eo29⟩ := Kd.R_slice HO214.out; subst eo29) | ((with_reducible refine gate_builtin (b := .append) (xs := #[.tmp 51, .tmp 54]) rfl ?_); at_builtin; refine Kd.R_append_rows k142 (w0 := w) w.heap.size rfl (.tmp 51) (.tmp 54) 87 142 (.agg #[(.int .i64 0), (.int .i64 0), (.int .i64 0), (.int .i64 0), (.int .i64 0), (.int .i64 0), (.slice none 0 0)]) 72 rfl Try.underlying87 info142 rfl (by decide) (by omega) u8 x8_1 t212 _ _ _ (fun k_ => some k_ ≠ (.slice Ao29 t212.length co29 : Value).ownBlock) (fun _ => False) rfl rfl ?aO ?aR (fun _ _ h => h) (fun _ h => h.elim) ?aF ?aB ?aS ?aL ?_; (case aR => repeat (first | exact (Kd.R_reads' HO214.out).2.2 | (with_reducible refine Kd.C_alloc ?_ _) | (with_reducible refine Kd.C_drewN ?_ _) | (with_reducible refine Kd.C_drew ?_))); (case aB => exact wv5); (case aF => exact (fun k_ hk => Kd.fresh' (Kd.R_lt (xvr HO214.out)) k_ hk)); (case aO => exact wv41); (case aS => exact (below_size wv5)); (case aL => have := LMc25.out; omega); intro v216 w28 ho hb hg hat; rw [← Ny215.out] at ho; have n0_ := Aside0.mk (blk_grown (g := B0) (o := .cells #[.int .i64 a0_0, .int .i64 a0_1] 31 (0, 0)) (xvb BK0.out) hg (Kd.R_ne HO_8.out BK0.out (by decide))); have n1_ := Aside0.mk (blk_grown (g := B1) (o := .cells #[.int .i64 x2000_1, .int .i64 x2001_1, .int .i64 x2002_1, .int .i64 x2003_1, .int .i64 x2004_1, .int .i64 x2005_1] 25 (0, 0)) (xvb BK1.out) hg (Kd.R_ne HO_8.out BK1.out (by decide))); have n2_ := Aside0.mk (Kd.R_after (ok := (fun _ => True)) (xvr HO214.out) hg hat); have n3_ := Aside0.mk (hb); have n4_ := Aside0.mk (ho); clear BK0; clear BK1; clear HO214; clear HB; clear HO_8; have BK0 := n0_; have BK1 := n1_; have HO214 := n2_; have HB := n3_; have HO217 := n4_; clear n0_ n1_ n2_ n3_ n4_; clear ho hb hg hat; have hnb30 := NB0_1.out; have hnc30 := NB1_0.out; have hcz31_0 : w28.cell? ⟨B0, 0, none⟩ = some (.int .i64 a0_0) := xvc BK0.out; have hcz31_1 : w28.cell? ⟨B0, 1, none⟩ = some (.int .i64 a0_1) := xvc BK0.out; have hfz31_0 := blk_frozen BK0.out 0; have hfz31_1 := blk_frozen BK0.out 1))
       go_roundg k1
       case measure => have := HK1.out; omega
       case rel => exact ⟨(y215), (wrap64 (x9_1 + a0_0)), (x2000_1), (x2001_1), (x2002_1), (x2003_1), (x2004_1), (x2005_1), wv6, H', ⟨wv60⟩, ⟨(by (with_reducible repeat (first | apply Kd.R_alloc | apply Kd.R_drewN | apply Kd.R_drew)); exact Kd.R_mono HO217.out (fun _ hk => trivial))⟩, ⟨(xvb BK0.out)⟩, ⟨(xvb BK1.out)⟩, ⟨wv5⟩⟩
      ·rw [if_neg c25] at H
       exact absurd H (by simp)
     ·rw [if_neg c23] at H
      have c23b0 : decide ((wrap64 (x9_1 + a0_0)) ≤ x2005_1) = false := decide_eq_false c23
      clear c23
      by_cases c32 : x9_1 < x2005_1
      ·rw [if_pos c32] at H
       have c32b0 : decide (x9_1 < x2005_1) = true := decide_eq_true c32
       clear c32
       by_cases c33 : a2 = 0
       ·rw [if_pos c33] at H
        have c33b0 : (a2 == 0) = true := beq_iff_eq.mpr c33
        have c33b1 : (a2 != 0) = false := bne_eq_false_iff_eq.mpr c33
        clear c33
        replace H := Option.bind_eq_some_iff.mp H
        obtain ⟨t218, A340, H⟩ := H
        replace H : (if x8_1.length + t218.length < 1954687338268 then ((some (x8_1 ++ t218 : List (S142))).bind fun y221 => ((spec_l09Strip.f x2000_1 x2001_1 x2002_1 x2003_1 x2004_1 x2005_1 x9_1 3).bind fun t224 => (if y221.length + t224.length < 1954687338268 then ((some (y221 ++ t224 : List (S142))).bind fun y227 => (some (y227, decide ((y227.length : Int) ≤ 60)))) else (none)))) else (none)) = some (r1, r2) := H
        have A34 := Aside0.mk A340
        clear A340
        by_cases c35 : x8_1.length + t218.length < 1954687338268
        ·rw [if_pos c35] at H
         have LMc35 := Aside0.mk c35
         clear c35
         obtain ⟨y221, hy221⟩ : ∃ y_ : List (S142), y_ = (x8_1 ++ t218) := ⟨_, rfl⟩
         replace H : ((spec_l09Strip.f x2000_1 x2001_1 x2002_1 x2003_1 x2004_1 x2005_1 x9_1 3).bind fun t224 => (if y221.length + t224.length < 1954687338268 then ((some (y221 ++ t224 : List (S142))).bind fun y227 => (some (y227, decide ((y227.length : Int) ≤ 60)))) else (none))) = some (r1, r2) := by first | (rw [hy221]; with_reducible exact H) | (have H2_ := (Option.bind_some _ _).symm.trans H; rw [hy221]; with_reducible exact H2_) | (have H2_ := (Option.bind_some _ _).symm.trans H; with_reducible exact H2_) | with_reducible exact H | (rw [hy221]; exact H) | exact H
         have Ny221 := Aside0.mk hy221
         clear hy221
         replace H := Option.bind_eq_some_iff.mp H
         obtain ⟨t224, A360, H⟩ := H
         replace H : (if y221.length + t224.length < 1954687338268 then ((some (y221 ++ t224 : List (S142))).bind fun y227 => (some (y227, decide ((y227.length : Int) ≤ 60)))) else (none)) = some (r1, r2) := H
         have A36 := Aside0.mk A360
         clear A360
         by_cases c37 : y221.length + t224.length < 1954687338268
         ·rw [if_pos c37] at H
          have LMc37 := Aside0.mk c37
          clear c37
          obtain ⟨y227, hy227⟩ : ∃ y_ : List (S142), y_ = (y221 ++ t224) := ⟨_, rfl⟩
          replace H : (some (y227, decide ((y227.length : Int) ≤ 60))) = some (r1, r2) := by first | (rw [hy227]; with_reducible exact H) | (have H2_ := (Option.bind_some _ _).symm.trans H; rw [hy227]; with_reducible exact H2_) | (have H2_ := (Option.bind_some _ _).symm.trans H; with_reducible exact H2_) | with_reducible exact H | (rw [hy227]; exact H) | exact H
          have Ny227 := Aside0.mk hy227
          clear hy227
          simp only [Option.some.injEq, Prod.mk.injEq] at H
          obtain ⟨rfl, rfl⟩ := H
          try go_wp2
          have n0_ := Aside0.mk (Kd.R_drew HO_8.out)
          have n1_ := Aside0.mk (blk_drew BK0.out)
          have n2_ := Aside0.mk (blk_drew BK1.out)
          have n3_ := Aside0.mk (below_drew1 HB.out)
          clear HO_8
          clear BK0
          clear BK1
          clear HB
          have HO_8 := n0_
          have BK0 := n1_
          have BK1 := n2_
          have HB := n3_
          clear n0_ n1_ n2_ n3_
          refine start_ (n := 11) (S := fun w' => w'.cell? ⟨B0, 0, none⟩ = some (.int .i64 a0_0) ∧ w'.cell? ⟨B0, 1, none⟩ = some (.int .i64 a0_1) ∧ w'.cell? ⟨B1, 0, none⟩ = some (.int .i64 x2000_1) ∧ w'.cell? ⟨B1, 1, none⟩ = some (.int .i64 x2001_1) ∧ w'.cell? ⟨B1, 2, none⟩ = some (.int .i64 x2002_1) ∧ w'.cell? ⟨B1, 3, none⟩ = some (.int .i64 x2003_1) ∧ w'.cell? ⟨B1, 4, none⟩ = some (.int .i64 x2004_1) ∧ w'.cell? ⟨B1, 5, none⟩ = some (.int .i64 x2005_1)) (ds := []) (zv_.bm 11 0) (by kernel_rfl) rfl rfl ⟨xvc BK0.out, xvc BK0.out, xvc BK1.out, xvc BK1.out, xvc BK1.out, xvc BK1.out, xvc BK1.out, xvc BK1.out⟩ (fun hHeld => ?_); refine with_tabW spec_l09Code.tab8 spec_l09Code.bits8 (fun HT_ HW_ => ?_)
          generalize wr.drew = w38 at HO_8 BK0 BK1 HB hHeld ⊢
          refine zv_.pa (i := 0) (N := some 34) (zv_.bm 11 1) HT_.out ?_
          refine zv_.pa (i := 1) (N := some 35) (zv_.bm 11 3) HT_.out ?_
          refine zv_.pa (i := 2) (N := some 36) (zv_.bm 11 7) HT_.out ?_
          refine zv_.pa (i := 3) (N := some 37) (zv_.bm 11 15) HT_.out ?_
          refine zv_.pa (i := 6) (N := some 40) (zv_.bm 11 79) HT_.out ?_
          refine zv_.pa (i := 7) (N := some 41) (zv_.bm 11 207) HT_.out ?_
          refine zv_.pa (i := 8) (N := some 42) (zv_.bm 11 463) HT_.out ?_
          refine zv_.ta (i := 4) (N := some 38) (zv_.bm 11 479) rfl (take_ofW HT_.out HW_.out (by kernel_rfl)) (Or.inl ⟨(by rfl), wv16⟩) hHeld ?_
          refine zv_.pa (i := 5) (N := some 39) (zv_.bm 11 511) HT_.out ?_
          refine zv_.ta (i := 9) (N := some 43) (zv_.bm 11 1023) rfl (take_ofW HT_.out HW_.out (by kernel_rfl)) (Or.inl ⟨(by rfl), wv16⟩) hHeld ?_
          refine zv_.pa (i := 10) (N := some 44) (zv_.bm 11 2047) HT_.out ?_
          refine done_ (done_of HT_.out (by kernel_rfl)) ?_
          have hnb39 := NB1_0.out
          have hnc39 := NB0_1.out
          have hcz40_0 : w38.cell? ⟨B1, 0, none⟩ = some (.int .i64 x2000_1) := xvc BK1.out
          have hcz40_1 : w38.cell? ⟨B1, 1, none⟩ = some (.int .i64 x2001_1) := xvc BK1.out
          have hcz40_2 : w38.cell? ⟨B1, 2, none⟩ = some (.int .i64 x2002_1) := xvc BK1.out
          have hcz40_3 : w38.cell? ⟨B1, 3, none⟩ = some (.int .i64 x2003_1) := xvc BK1.out
          have hcz40_4 : w38.cell? ⟨B1, 4, none⟩ = some (.int .i64 x2004_1) := xvc BK1.out
          have hcz40_5 : w38.cell? ⟨B1, 5, none⟩ = some (.int .i64 x2005_1) := xvc BK1.out
          have hfz40_0 := blk_frozen BK1.out 0
          have hfz40_1 := blk_frozen BK1.out 1
          have hfz40_2 := blk_frozen BK1.out 2
          have hfz40_3 := blk_frozen BK1.out 3
          have hfz40_4 := blk_frozen BK1.out 4
          have hfz40_5 := blk_frozen BK1.out 5
          try go_wp2_with (first | ((with_reducible refine gate_callee (f := 184) rfl ?_); refine goesL_ (some 85) rfl rfl Try.func184 (by kernel_rfl) rfl #[.int .i64 (wrap64 (x2005_1 - x9_1))] rfl wv1 ?_; (with_reducible refine (spec_l09Mask.calls (wrap64 (x2005_1 - x9_1)) t218 _ A34.out).mono ?_); rintro e w41 ⟨v219, rfl, ho0, hb⟩; refine ⟨_, rfl, ?_⟩; have n0_ := Aside0.mk (Kd.R_elder' (xvr HO_8.out) (Kd.R_base ho0) hb); have n1_ := Aside0.mk (Kd.R_lower (Kd.R_new' ho0 (Kd.R_lt (xvr HO_8.out))) (below_size wv5)); have n2_ := Aside0.mk (blk_below (g := B0) (o := .cells #[.int .i64 a0_0, .int .i64 a0_1] 31 (0, 0)) (xvb BK0.out) hb); have n3_ := Aside0.mk (blk_below (g := B1) (o := .cells #[.int .i64 x2000_1, .int .i64 x2001_1, .int .i64 x2002_1, .int .i64 x2003_1, .int .i64 x2004_1, .int .i64 x2005_1] 25 (0, 0)) (xvb BK1.out) hb); have n4_ := Aside0.mk (below_step wv5 hb); clear HO_8; clear BK0; clear BK1; clear HB; have HO_8 := n0_; have HO220 := n1_; have BK0 := n2_; have BK1 := n3_; have HB := n4_; clear n0_ n1_ n2_ n3_ n4_; (try clear hb); (try clear hb2); (try clear hk); (try clear hi); (try clear ho0); obtain ⟨Ao43, co43, eo43⟩ := Kd.R_slice HO220.out; subst eo43) | ((with_reducible refine gate_builtin (b := .append) (xs := #[.tmp 78, .tmp 85]) rfl ?_); at_builtin; refine Kd.R_append_rows k142 (w0 := w) w.heap.size rfl (.tmp 78) (.tmp 85) 87 142 (.agg #[(.int .i64 0), (.int .i64 0), (.int .i64 0), (.int .i64 0), (.int .i64 0), (.int .i64 0), (.slice none 0 0)]) 72 rfl Try.underlying87 info142 rfl (by decide) (by omega) u8 x8_1 t218 _ _ _ (fun k_ => some k_ ≠ (.slice Ao43 t218.length co43 : Value).ownBlock) (fun _ => False) rfl rfl ?aO ?aR (fun _ _ h => h) (fun _ h => h.elim) ?aF ?aB ?aS ?aL ?_; (case aR => repeat (first | exact (Kd.R_reads' HO220.out).2.2 | (with_reducible refine Kd.C_alloc ?_ _) | (with_reducible refine Kd.C_drewN ?_ _) | (with_reducible refine Kd.C_drew ?_))); (case aB => exact wv5); (case aF => exact (fun k_ hk => Kd.fresh' (Kd.R_lt (xvr HO220.out)) k_ hk)); (case aO => exact wv41); (case aS => exact (below_size wv5)); (case aL => have := LMc35.out; omega); intro v222 w42 ho hb hg hat; rw [← Ny221.out] at ho; have n0_ := Aside0.mk (blk_grown (g := B0) (o := .cells #[.int .i64 a0_0, .int .i64 a0_1] 31 (0, 0)) (xvb BK0.out) hg (Kd.R_ne HO_8.out BK0.out (by decide))); have n1_ := Aside0.mk (blk_grown (g := B1) (o := .cells #[.int .i64 x2000_1, .int .i64 x2001_1, .int .i64 x2002_1, .int .i64 x2003_1, .int .i64 x2004_1, .int .i64 x2005_1] 25 (0, 0)) (xvb BK1.out) hg (Kd.R_ne HO_8.out BK1.out (by decide))); have n2_ := Aside0.mk (Kd.R_after (ok := (fun _ => True)) (xvr HO220.out) hg hat); have n3_ := Aside0.mk (hb); have n4_ := Aside0.mk (ho); clear BK0; clear BK1; clear HO220; clear HB; clear HO_8; have BK0 := n0_; have BK1 := n1_; have HO220 := n2_; have HB := n3_; have HO223 := n4_; clear n0_ n1_ n2_ n3_ n4_; clear ho hb hg hat) | ((with_reducible refine gate_callee (f := 183) rfl ?_); refine goesL_ (some 90) rfl rfl Try.func183 (by kernel_rfl) rfl #[.pointer (some ⟨B1, 0, none⟩), .int .i64 x9_1, .int .i64 3] rfl wv1 ?_; (with_reducible refine (spec_l09Strip.calls B1 x2000_1 x2001_1 x2002_1 x2003_1 x2004_1 x2005_1 x9_1 3 t224 _ ?side1 A36.out).mono ?_); (case side1 => (with_reducible repeat (first | refine blk_drewN ?_ _ | refine blk_drew ?_ | refine blk_alloc ?_ _)); exact BK1.out); rintro e w44 ⟨v225, rfl, ho0, hb⟩; refine ⟨_, rfl, ?_⟩; have n0_ := Aside0.mk (Kd.R_elder' (xvr HO220.out) (Kd.R_base ho0) hb); have n1_ := Aside0.mk (Kd.R_elder' (xvr HO223.out) (Kd.R_base ho0) hb); have n2_ := Aside0.mk (Kd.R_lower (Kd.R_new' (Kd.R_new' ho0 (Kd.R_lt (xvr HO220.out))) (Kd.R_lt (xvr HO223.out))) (below_size wv5)); have n3_ := Aside0.mk (blk_below (g := B0) (o := .cells #[.int .i64 a0_0, .int .i64 a0_1] 31 (0, 0)) (xvb BK0.out) hb); have n4_ := Aside0.mk (blk_below (g := B1) (o := .cells #[.int .i64 x2000_1, .int .i64 x2001_1, .int .i64 x2002_1, .int .i64 x2003_1, .int .i64 x2004_1, .int .i64 x2005_1] 25 (0, 0)) (xvb BK1.out) hb); have n5_ := Aside0.mk (below_step wv5 hb); clear HO220; clear HO223; clear BK0; clear BK1; clear HB; have HO220 := n0_; have HO223 := n1_; have HO226 := n2_; have BK0 := n3_; have BK1 := n4_; have HB := n5_; clear n0_ n1_ n2_ n3_ n4_ n5_; (try clear hb); (try clear hb2); (try clear hk); (try clear hi); (try clear ho0); obtain ⟨Ao46, co46, eo46⟩ := Kd.R_slice HO226.out; subst eo46) | ((with_reducible refine gate_builtin (b := .append) (xs := #[.tmp 87, .tmp 90]) rfl ?_); at_builtin; refine Kd.R_append_rows k142 (w0 := w) w.heap.size rfl (.tmp 87) (.tmp 90) 87 142 (.agg #[(.int .i64 0), (.int .i64 0), (.int .i64 0), (.int .i64 0), (.int .i64 0), (.int .i64 0), (.slice none 0 0)]) 72 rfl Try.underlying87 info142 rfl (by decide) (by omega) v222 y221 t224 _ _ _ (fun k_ => some k_ ≠ (.slice Ao43 t218.length co43 : Value).ownBlock ∧ some k_ ≠ (.slice Ao46 t224.length co46 : Value).ownBlock) (fun _ => False) rfl rfl ?aO ?aR (fun _ _ h => h) (fun _ h => h.elim) ?aF ?aB ?aS ?aL ?_; (case aR => repeat (first | exact (Kd.R_reads' HO226.out).2.2 | (with_reducible refine Kd.C_alloc ?_ _) | (with_reducible refine Kd.C_drewN ?_ _) | (with_reducible refine Kd.C_drew ?_))); (case aB => exact wv5); (case aF => exact (fun k_ hk => ⟨Kd.fresh' (Kd.R_lt (xvr HO220.out)) k_ hk, Kd.fresh' (Kd.R_lt (xvr HO226.out)) k_ hk⟩)); (case aO => exact (xvr HO223.out)); (case aS => exact (below_size wv5)); (case aL => have := LMc37.out; omega); intro v228 w45 ho hb hg hat; rw [← Ny227.out] at ho; have n0_ := Aside0.mk (blk_grown (g := B0) (o := .cells #[.int .i64 a0_0, .int .i64 a0_1] 31 (0, 0)) (xvb BK0.out) hg (Kd.R_ne HO223.out BK0.out (by decide))); have n1_ := Aside0.mk (blk_grown (g := B1) (o := .cells #[.int .i64 x2000_1, .int .i64 x2001_1, .int .i64 x2002_1, .int .i64 x2003_1, .int .i64 x2004_1, .int .i64 x2005_1] 25 (0, 0)) (xvb BK1.out) hg (Kd.R_ne HO223.out BK1.out (by decide))); have n2_ := Aside0.mk (Kd.R_after (ok := (fun k_ => some k_ ≠ (.slice Ao46 t224.length co46 : Value).ownBlock)) (by (with_reducible repeat (first | apply Kd.R_alloc | apply Kd.R_drewN | apply Kd.R_drew)); exact Kd.R_mono HO220.out (fun _ hk => ⟨hk.2, hk.1.2⟩)) hg hat); have n3_ := Aside0.mk (Kd.R_after (ok := (fun k_ => some k_ ≠ (.slice Ao43 t218.length co43 : Value).ownBlock)) (by (with_reducible repeat (first | apply Kd.R_alloc | apply Kd.R_drewN | apply Kd.R_drew)); exact Kd.R_mono HO226.out (fun _ hk => ⟨hk.1.2, hk.2⟩)) hg hat); have n4_ := Aside0.mk (hb); have n5_ := Aside0.mk (ho); clear BK0; clear BK1; clear HO220; clear HO226; clear HB; clear HO223; have BK0 := n0_; have BK1 := n1_; have HO220 := n2_; have HO226 := n3_; have HB := n4_; have HO229 := n5_; clear n0_ n1_ n2_ n3_ n4_ n5_; clear ho hb hg hat; obtain ⟨Ao47, co47, eo47⟩ := Kd.R_slice HO229.out; subst eo47))
          go_ret2
          exact ⟨_, wv3, (by (with_reducible repeat (first | apply Kd.R_alloc | apply Kd.R_drewN | apply Kd.R_drew)); exact Kd.R_mono HO229.out (fun _ hk => trivial)), wv5⟩
         ·rw [if_neg c37] at H
          exact absurd H (by simp)
        ·rw [if_neg c35] at H
         exact absurd H (by simp)
       ·rw [if_neg c33] at H
        have c33b0 : (a2 == 0) = false := beq_eq_false_iff_ne.mpr c33
        have c33b1 : (a2 != 0) = true := bne_iff_ne.mpr c33
        by_cases c48 : a2 = 1
        ·rw [if_pos c48] at H
         have c48b0 : (a2 == 1) = true := beq_iff_eq.mpr c48
         have c48b1 : (a2 != 1) = false := bne_eq_false_iff_eq.mpr c48
         clear c48
         replace H := Option.bind_eq_some_iff.mp H
         obtain ⟨t230, A490, H⟩ := H
         replace H : (if x8_1.length + t230.length < 1954687338268 then (spec_l09Code.l1 k1 (x8_1 ++ t230) x9_1 x2000_1 x2001_1 x2002_1 x2003_1 x2004_1 x2005_1) else (none)) = some (r1, r2) := H
         have A49 := Aside0.mk A490
         clear A490
         by_cases c50 : x8_1.length + t230.length < 1954687338268
         ·rw [if_pos c50] at H
          have LMc50 := Aside0.mk c50
          clear c50
          obtain ⟨y233, hy233⟩ : ∃ y_ : List (S142), y_ = (x8_1 ++ t230) := ⟨_, rfl⟩
          replace H : (spec_l09Code.l1 k1 y233 x9_1 x2000_1 x2001_1 x2002_1 x2003_1 x2004_1 x2005_1) = some (r1, r2) := by first | (rw [hy233]; with_reducible exact H) | (have H2_ := (Option.bind_some _ _).symm.trans H; rw [hy233]; with_reducible exact H2_) | (have H2_ := (Option.bind_some _ _).symm.trans H; with_reducible exact H2_) | with_reducible exact H | (rw [hy233]; exact H) | exact H
          have Ny233 := Aside0.mk hy233
          clear hy233
          have H' := Aside0.mk H
          clear H
          try go_wp2
          have n0_ := Aside0.mk (Kd.R_drew HO_8.out)
          have n1_ := Aside0.mk (blk_drew BK0.out)
          have n2_ := Aside0.mk (blk_drew BK1.out)
          have n3_ := Aside0.mk (below_drew1 HB.out)
          clear HO_8
          clear BK0
          clear BK1
          clear HB
          have HO_8 := n0_
          have BK0 := n1_
          have BK1 := n2_
          have HB := n3_
          clear n0_ n1_ n2_ n3_
          refine start_ (n := 11) (S := fun w' => w'.cell? ⟨B0, 0, none⟩ = some (.int .i64 a0_0) ∧ w'.cell? ⟨B0, 1, none⟩ = some (.int .i64 a0_1) ∧ w'.cell? ⟨B1, 0, none⟩ = some (.int .i64 x2000_1) ∧ w'.cell? ⟨B1, 1, none⟩ = some (.int .i64 x2001_1) ∧ w'.cell? ⟨B1, 2, none⟩ = some (.int .i64 x2002_1) ∧ w'.cell? ⟨B1, 3, none⟩ = some (.int .i64 x2003_1) ∧ w'.cell? ⟨B1, 4, none⟩ = some (.int .i64 x2004_1) ∧ w'.cell? ⟨B1, 5, none⟩ = some (.int .i64 x2005_1)) (ds := []) (zv_.bm 11 0) (by kernel_rfl) rfl rfl ⟨xvc BK0.out, xvc BK0.out, xvc BK1.out, xvc BK1.out, xvc BK1.out, xvc BK1.out, xvc BK1.out, xvc BK1.out⟩ (fun hHeld => ?_); refine with_tabW spec_l09Code.tab8 spec_l09Code.bits8 (fun HT_ HW_ => ?_)
          generalize wr.drew = w51 at HO_8 BK0 BK1 HB hHeld ⊢
          refine zv_.pa (i := 0) (N := some 34) (zv_.bm 11 1) HT_.out ?_
          refine zv_.pa (i := 1) (N := some 35) (zv_.bm 11 3) HT_.out ?_
          refine zv_.pa (i := 2) (N := some 36) (zv_.bm 11 7) HT_.out ?_
          refine zv_.pa (i := 3) (N := some 37) (zv_.bm 11 15) HT_.out ?_
          refine zv_.pa (i := 6) (N := some 40) (zv_.bm 11 79) HT_.out ?_
          refine zv_.pa (i := 7) (N := some 41) (zv_.bm 11 207) HT_.out ?_
          refine zv_.pa (i := 8) (N := some 42) (zv_.bm 11 463) HT_.out ?_
          refine zv_.ta (i := 4) (N := some 38) (zv_.bm 11 479) rfl (take_ofW HT_.out HW_.out (by kernel_rfl)) (Or.inl ⟨(by rfl), wv16⟩) hHeld ?_
          refine zv_.pa (i := 5) (N := some 39) (zv_.bm 11 511) HT_.out ?_
          refine zv_.ta (i := 9) (N := some 43) (zv_.bm 11 1023) rfl (take_ofW HT_.out HW_.out (by kernel_rfl)) (Or.inl ⟨(by rfl), wv16⟩) hHeld ?_
          refine zv_.pa (i := 10) (N := some 44) (zv_.bm 11 2047) HT_.out ?_
          refine done_ (done_of HT_.out (by kernel_rfl)) ?_
          have hnb52 := NB1_0.out
          have hnc52 := NB0_1.out
          have hcz53_0 : w51.cell? ⟨B1, 0, none⟩ = some (.int .i64 x2000_1) := xvc BK1.out
          have hcz53_1 : w51.cell? ⟨B1, 1, none⟩ = some (.int .i64 x2001_1) := xvc BK1.out
          have hcz53_2 : w51.cell? ⟨B1, 2, none⟩ = some (.int .i64 x2002_1) := xvc BK1.out
          have hcz53_3 : w51.cell? ⟨B1, 3, none⟩ = some (.int .i64 x2003_1) := xvc BK1.out
          have hcz53_4 : w51.cell? ⟨B1, 4, none⟩ = some (.int .i64 x2004_1) := xvc BK1.out
          have hcz53_5 : w51.cell? ⟨B1, 5, none⟩ = some (.int .i64 x2005_1) := xvc BK1.out
          have hfz53_0 := blk_frozen BK1.out 0
          have hfz53_1 := blk_frozen BK1.out 1
          have hfz53_2 := blk_frozen BK1.out 2
          have hfz53_3 := blk_frozen BK1.out 3
          have hfz53_4 := blk_frozen BK1.out 4
          have hfz53_5 := blk_frozen BK1.out 5
          try go_wp2_with (first | ((with_reducible refine gate_callee (f := 184) rfl ?_); refine goesL_ (some 95) rfl rfl Try.func184 (by kernel_rfl) rfl #[.int .i64 1] rfl wv1 ?_; (with_reducible refine (spec_l09Mask.calls 1 t230 _ A49.out).mono ?_); rintro e w54 ⟨v231, rfl, ho0, hb⟩; refine ⟨_, rfl, ?_⟩; have n0_ := Aside0.mk (Kd.R_elder' (xvr HO_8.out) (Kd.R_base ho0) hb); have n1_ := Aside0.mk (Kd.R_lower (Kd.R_new' ho0 (Kd.R_lt (xvr HO_8.out))) (below_size wv5)); have n2_ := Aside0.mk (blk_below (g := B0) (o := .cells #[.int .i64 a0_0, .int .i64 a0_1] 31 (0, 0)) (xvb BK0.out) hb); have n3_ := Aside0.mk (blk_below (g := B1) (o := .cells #[.int .i64 x2000_1, .int .i64 x2001_1, .int .i64 x2002_1, .int .i64 x2003_1, .int .i64 x2004_1, .int .i64 x2005_1] 25 (0, 0)) (xvb BK1.out) hb); have n4_ := Aside0.mk (below_step wv5 hb); clear HO_8; clear BK0; clear BK1; clear HB; have HO_8 := n0_; have HO232 := n1_; have BK0 := n2_; have BK1 := n3_; have HB := n4_; clear n0_ n1_ n2_ n3_ n4_; (try clear hb); (try clear hb2); (try clear hk); (try clear hi); (try clear ho0); obtain ⟨Ao56, co56, eo56⟩ := Kd.R_slice HO232.out; subst eo56) | ((with_reducible refine gate_builtin (b := .append) (xs := #[.tmp 94, .tmp 95]) rfl ?_); at_builtin; refine Kd.R_append_rows k142 (w0 := w) w.heap.size rfl (.tmp 94) (.tmp 95) 87 142 (.agg #[(.int .i64 0), (.int .i64 0), (.int .i64 0), (.int .i64 0), (.int .i64 0), (.int .i64 0), (.slice none 0 0)]) 72 rfl Try.underlying87 info142 rfl (by decide) (by omega) u8 x8_1 t230 _ _ _ (fun k_ => some k_ ≠ (.slice Ao56 t230.length co56 : Value).ownBlock) (fun _ => False) rfl rfl ?aO ?aR (fun _ _ h => h) (fun _ h => h.elim) ?aF ?aB ?aS ?aL ?_; (case aR => repeat (first | exact (Kd.R_reads' HO232.out).2.2 | (with_reducible refine Kd.C_alloc ?_ _) | (with_reducible refine Kd.C_drewN ?_ _) | (with_reducible refine Kd.C_drew ?_))); (case aB => exact wv5); (case aF => exact (fun k_ hk => Kd.fresh' (Kd.R_lt (xvr HO232.out)) k_ hk)); (case aO => exact wv41); (case aS => exact (below_size wv5)); (case aL => have := LMc50.out; omega); intro v234 w55 ho hb hg hat; rw [← Ny233.out] at ho; have n0_ := Aside0.mk (blk_grown (g := B0) (o := .cells #[.int .i64 a0_0, .int .i64 a0_1] 31 (0, 0)) (xvb BK0.out) hg (Kd.R_ne HO_8.out BK0.out (by decide))); have n1_ := Aside0.mk (blk_grown (g := B1) (o := .cells #[.int .i64 x2000_1, .int .i64 x2001_1, .int .i64 x2002_1, .int .i64 x2003_1, .int .i64 x2004_1, .int .i64 x2005_1] 25 (0, 0)) (xvb BK1.out) hg (Kd.R_ne HO_8.out BK1.out (by decide))); have n2_ := Aside0.mk (Kd.R_after (ok := (fun _ => True)) (xvr HO232.out) hg hat); have n3_ := Aside0.mk (hb); have n4_ := Aside0.mk (ho); clear BK0; clear BK1; clear HO232; clear HB; clear HO_8; have BK0 := n0_; have BK1 := n1_; have HO232 := n2_; have HB := n3_; have HO235 := n4_; clear n0_ n1_ n2_ n3_ n4_; clear ho hb hg hat))
          go_loopg [8, 9] k1 (fun kq v8 v9 w' => ∃ (x8_2 : List (S142)) (x9_2 : Int) (x2000_2 : Int) (x2001_2 : Int) (x2002_2 : Int) (x2003_2 : Int) (x2004_2 : Int) (x2005_2 : Int), v9 = .int .i64 x9_2 ∧ Aside0 (spec_l09Code.l1 kq x8_2 x9_2 x2000_2 x2001_2 x2002_2 x2003_2 x2004_2 x2005_2 = some (r1, r2)) ∧ Aside0 (kq ≤ k1) ∧ Aside0 (Kd.R k142 142 w' w.heap.size (fun _ => True) v8 x8_2) ∧ Aside0 (w'.heap[B0]? = some (.cells #[.int .i64 a0_0, .int .i64 a0_1] 31 (0, 0))) ∧ Aside0 (w'.heap[B1]? = some (.cells #[.int .i64 x2000_2, .int .i64 x2001_2, .int .i64 x2002_2, .int .i64 x2003_2, .int .i64 x2004_2, .int .i64 x2005_2] 25 (0, 0))) ∧ Aside0 (Below w.heap.size w w'))
          case atStart => exact ⟨(y233), (x9_1), (x2000_1), (x2001_1), (x2002_1), (x2003_1), (x2004_1), (x2005_1), wv6, H', ⟨Nat.le_refl _⟩, ⟨(by (with_reducible repeat (first | apply Kd.R_alloc | apply Kd.R_drewN | apply Kd.R_drew)); exact Kd.R_mono HO235.out (fun _ hk => trivial))⟩, ⟨(xvb BK0.out)⟩, ⟨(xvb BK1.out)⟩, ⟨wv5⟩⟩
          case round =>
           clear H'
           try clear c1
           try clear c2
           try clear p2
           try clear c3
           try clear c4
           try clear c5
           try clear c6
           try clear c6b0
           try clear c6b1
           try clear p6
           try clear c8
           try clear c13
           try clear c17
           try clear c18
           try clear c23
           try clear c23b0
           try clear c25
           try clear c30
           try clear c32
           try clear c32b0
           try clear c33
           try clear c33b0
           try clear c33b1
           try clear c35
           try clear c37
           try clear c39
           try clear c48
           try clear c48b0
           try clear c48b1
           try clear c50
           try clear c52
           try clear hcz13_0
           try clear hcz13_1
           try clear hcz13_2
           try clear hcz13_3
           try clear hcz13_4
           try clear hcz13_5
           try clear hcz14_0
           try clear hcz14_1
           try clear hcz18_0
           try clear hcz18_1
           try clear hcz22_0
           try clear hcz22_1
           try clear hcz22_2
           try clear hcz22_3
           try clear hcz22_4
           try clear hcz22_5
           try clear hcz31_0
           try clear hcz31_1
           try clear hcz40_0
           try clear hcz40_1
           try clear hcz40_2
           try clear hcz40_3
           try clear hcz40_4
           try clear hcz40_5
           try clear hcz53_0
           try clear hcz53_1
           try clear hcz53_2
           try clear hcz53_3
           try clear hcz53_4
           try clear hcz53_5
           try clear hcz9_0
           try clear hcz9_1
           try clear hfz13_0
           try clear hfz13_1
           try clear hfz13_2
           try clear hfz13_3
           try clear hfz13_4
           try clear hfz13_5
           try clear hfz14_0
           try clear hfz14_1
           try clear hfz18_0
           try clear hfz18_1
           try clear hfz22_0
           try clear hfz22_1
           try clear hfz22_2
           try clear hfz22_3
           try clear hfz22_4
           try clear hfz22_5
           try clear hfz31_0
           try clear hfz31_1
           try clear hfz40_0
           try clear hfz40_1
           try clear hfz40_2
           try clear hfz40_3
           try clear hfz40_4
           try clear hfz40_5
           try clear hfz53_0
           try clear hfz53_1
           try clear hfz53_2
           try clear hfz53_3
           try clear hfz53_4
           try clear hfz53_5
           try clear hfz9_0
           try clear hfz9_1
           try clear p2
           obtain ⟨x8_2, x9_2, x2000_2, x2001_2, x2002_2, x2003_2, x2004_2, x2005_2, rfl, HA, HK2, HO_8, BK0, BK1, HB⟩ := hrel
           cases gk with
           | zero => exact absurd HA.out (by simp [spec_l09Code.l1])
           | succ k2 =>
            have H := HA.out
            clear HA
            simp only [spec_l09Code.l1] at H
            by_cases c57 : x9_2 < x2005_2
            ·rw [if_pos c57] at H
             have c57b0 : decide (x9_2 < x2005_2) = true := decide_eq_true c57
             clear c57
             replace H := Option.bind_eq_some_iff.mp H
             obtain ⟨t236, A580, H⟩ := H
             replace H : (if x8_2.length + t236.length < 1954687338268 then (spec_l09Code.l1 k2 (x8_2 ++ t236) (wrap64 (x9_2 + 1)) x2000_2 x2001_2 x2002_2 x2003_2 x2004_2 x2005_2) else (none)) = some (r1, r2) := H
             have A58 := Aside0.mk A580
             clear A580
             by_cases c59 : x8_2.length + t236.length < 1954687338268
             ·rw [if_pos c59] at H
              have LMc59 := Aside0.mk c59
              clear c59
              obtain ⟨y239, hy239⟩ : ∃ y_ : List (S142), y_ = (x8_2 ++ t236) := ⟨_, rfl⟩
              replace H : (spec_l09Code.l1 k2 y239 (wrap64 (x9_2 + 1)) x2000_2 x2001_2 x2002_2 x2003_2 x2004_2 x2005_2) = some (r1, r2) := by first | (rw [hy239]; with_reducible exact H) | (have H2_ := (Option.bind_some _ _).symm.trans H; rw [hy239]; with_reducible exact H2_) | (have H2_ := (Option.bind_some _ _).symm.trans H; with_reducible exact H2_) | with_reducible exact H | (rw [hy239]; exact H) | exact H
              have Ny239 := Aside0.mk hy239
              clear hy239
              have H' := Aside0.mk H
              clear H
              have hnb60 := NB1_0.out
              have hnc60 := NB0_1.out
              have hcz61_0 : wr.cell? ⟨B1, 0, none⟩ = some (.int .i64 x2000_2) := xvc BK1.out
              have hcz61_1 : wr.cell? ⟨B1, 1, none⟩ = some (.int .i64 x2001_2) := xvc BK1.out
              have hcz61_2 : wr.cell? ⟨B1, 2, none⟩ = some (.int .i64 x2002_2) := xvc BK1.out
              have hcz61_3 : wr.cell? ⟨B1, 3, none⟩ = some (.int .i64 x2003_2) := xvc BK1.out
              have hcz61_4 : wr.cell? ⟨B1, 4, none⟩ = some (.int .i64 x2004_2) := xvc BK1.out
              have hcz61_5 : wr.cell? ⟨B1, 5, none⟩ = some (.int .i64 x2005_2) := xvc BK1.out
              have hfz61_0 := blk_frozen BK1.out 0
              have hfz61_1 := blk_frozen BK1.out 1
              have hfz61_2 := blk_frozen BK1.out 2
              have hfz61_3 := blk_frozen BK1.out 3
              have hfz61_4 := blk_frozen BK1.out 4
              have hfz61_5 := blk_frozen BK1.out 5
              go_wp2_with (first | ((with_reducible refine gate_callee (f := 183) rfl ?_); refine goesL_ (some 108) rfl rfl Try.func183 (by kernel_rfl) rfl #[.pointer (some ⟨B1, 0, none⟩), .int .i64 x9_2, .int .i64 3] rfl wv1 ?_; (with_reducible refine (spec_l09Strip.calls B1 x2000_2 x2001_2 x2002_2 x2003_2 x2004_2 x2005_2 x9_2 3 t236 _ ?side1 A58.out).mono ?_); (case side1 => (with_reducible repeat (first | refine blk_drewN ?_ _ | refine blk_drew ?_ | refine blk_alloc ?_ _)); exact BK1.out); rintro e w62 ⟨v237, rfl, ho0, hb⟩; refine ⟨_, rfl, ?_⟩; have n0_ := Aside0.mk (Kd.R_elder' (xvr HO_8.out) (Kd.R_base ho0) hb); have n1_ := Aside0.mk (Kd.R_lower (Kd.R_new' ho0 (Kd.R_lt (xvr HO_8.out))) (below_size wv5)); have n2_ := Aside0.mk (blk_below (g := B0) (o := .cells #[.int .i64 a0_0, .int .i64 a0_1] 31 (0, 0)) (xvb BK0.out) hb); have n3_ := Aside0.mk (blk_below (g := B1) (o := .cells #[.int .i64 x2000_2, .int .i64 x2001_2, .int .i64 x2002_2, .int .i64 x2003_2, .int .i64 x2004_2, .int .i64 x2005_2] 25 (0, 0)) (xvb BK1.out) hb); have n4_ := Aside0.mk (below_step wv5 hb); clear HO_8; clear BK0; clear BK1; clear HB; have HO_8 := n0_; have HO238 := n1_; have BK0 := n2_; have BK1 := n3_; have HB := n4_; clear n0_ n1_ n2_ n3_ n4_; (try clear hb); (try clear hb2); (try clear hk); (try clear hi); (try clear ho0); obtain ⟨Ao64, co64, eo64⟩ := Kd.R_slice HO238.out; subst eo64) | ((with_reducible refine gate_builtin (b := .append) (xs := #[.tmp 105, .tmp 108]) rfl ?_); at_builtin; refine Kd.R_append_rows k142 (w0 := w) w.heap.size rfl (.tmp 105) (.tmp 108) 87 142 (.agg #[(.int .i64 0), (.int .i64 0), (.int .i64 0), (.int .i64 0), (.int .i64 0), (.int .i64 0), (.slice none 0 0)]) 72 rfl Try.underlying87 info142 rfl (by decide) (by omega) u8 x8_2 t236 _ _ _ (fun k_ => some k_ ≠ (.slice Ao64 t236.length co64 : Value).ownBlock) (fun _ => False) rfl rfl ?aO ?aR (fun _ _ h => h) (fun _ h => h.elim) ?aF ?aB ?aS ?aL ?_; (case aR => repeat (first | exact (Kd.R_reads' HO238.out).2.2 | (with_reducible refine Kd.C_alloc ?_ _) | (with_reducible refine Kd.C_drewN ?_ _) | (with_reducible refine Kd.C_drew ?_))); (case aB => exact wv5); (case aF => exact (fun k_ hk => Kd.fresh' (Kd.R_lt (xvr HO238.out)) k_ hk)); (case aO => exact wv41); (case aS => exact (below_size wv5)); (case aL => have := LMc59.out; omega); intro v240 w63 ho hb hg hat; rw [← Ny239.out] at ho; have n0_ := Aside0.mk (blk_grown (g := B0) (o := .cells #[.int .i64 a0_0, .int .i64 a0_1] 31 (0, 0)) (xvb BK0.out) hg (Kd.R_ne HO_8.out BK0.out (by decide))); have n1_ := Aside0.mk (blk_grown (g := B1) (o := .cells #[.int .i64 x2000_2, .int .i64 x2001_2, .int .i64 x2002_2, .int .i64 x2003_2, .int .i64 x2004_2, .int .i64 x2005_2] 25 (0, 0)) (xvb BK1.out) hg (Kd.R_ne HO_8.out BK1.out (by decide))); have n2_ := Aside0.mk (Kd.R_after (ok := (fun _ => True)) (xvr HO238.out) hg hat); have n3_ := Aside0.mk (hb); have n4_ := Aside0.mk (ho); clear BK0; clear BK1; clear HO238; clear HB; clear HO_8; have BK0 := n0_; have BK1 := n1_; have HO238 := n2_; have HB := n3_; have HO241 := n4_; clear n0_ n1_ n2_ n3_ n4_; clear ho hb hg hat))
              go_roundg k2
              case measure => have := HK1.out; have := HK2.out; omega
              case rel => exact ⟨(y239), (wrap64 (x9_2 + 1)), (x2000_2), (x2001_2), (x2002_2), (x2003_2), (x2004_2), (x2005_2), wv6, H', ⟨(by have := HK1.out; have := HK2.out; omega)⟩, ⟨(by (with_reducible repeat (first | apply Kd.R_alloc | apply Kd.R_drewN | apply Kd.R_drew)); exact Kd.R_mono HO241.out (fun _ hk => trivial))⟩, ⟨(xvb BK0.out)⟩, ⟨(xvb BK1.out)⟩, ⟨wv5⟩⟩
             ·rw [if_neg c59] at H
              exact absurd H (by simp)
            ·rw [if_neg c57] at H
             have c57b0 : decide (x9_2 < x2005_2) = false := decide_eq_false c57
             clear c57
             simp only [Option.some.injEq, Prod.mk.injEq] at H
             obtain ⟨rfl, rfl⟩ := H
             have hnb65 := NB1_0.out
             have hnc65 := NB0_1.out
             have hcz66_0 : wr.cell? ⟨B1, 0, none⟩ = some (.int .i64 x2000_2) := xvc BK1.out
             have hcz66_1 : wr.cell? ⟨B1, 1, none⟩ = some (.int .i64 x2001_2) := xvc BK1.out
             have hcz66_2 : wr.cell? ⟨B1, 2, none⟩ = some (.int .i64 x2002_2) := xvc BK1.out
             have hcz66_3 : wr.cell? ⟨B1, 3, none⟩ = some (.int .i64 x2003_2) := xvc BK1.out
             have hcz66_4 : wr.cell? ⟨B1, 4, none⟩ = some (.int .i64 x2004_2) := xvc BK1.out
             have hcz66_5 : wr.cell? ⟨B1, 5, none⟩ = some (.int .i64 x2005_2) := xvc BK1.out
             have hfz66_0 := blk_frozen BK1.out 0
             have hfz66_1 := blk_frozen BK1.out 1
             have hfz66_2 := blk_frozen BK1.out 2
             have hfz66_3 := blk_frozen BK1.out 3
             have hfz66_4 := blk_frozen BK1.out 4
             have hfz66_5 := blk_frozen BK1.out 5
             obtain ⟨Ao67, co67, eo67⟩ := Kd.R_slice HO_8.out
             subst eo67
             go_wp2
             go_ret2
             exact ⟨_, wv3, (xvr HO_8.out), wv5⟩
         ·rw [if_neg c50] at H
          exact absurd H (by simp)
        ·rw [if_neg c48] at H
         have c48b0 : (a2 == 1) = false := beq_eq_false_iff_ne.mpr c48
         have c48b1 : (a2 != 1) = true := bne_iff_ne.mpr c48
         replace H := Option.bind_eq_some_iff.mp H
         obtain ⟨t242, A680, H⟩ := H
         replace H : (if x8_1.length + t242.length < 1954687338268 then ((some (x8_1 ++ t242 : List (S142))).bind fun y245 => (some (y245, decide ((y245.length : Int) ≤ 60)))) else (none)) = some (r1, r2) := H
         have A68 := Aside0.mk A680
         clear A680
         by_cases c69 : x8_1.length + t242.length < 1954687338268
         ·rw [if_pos c69] at H
          have LMc69 := Aside0.mk c69
          clear c69
          obtain ⟨y245, hy245⟩ : ∃ y_ : List (S142), y_ = (x8_1 ++ t242) := ⟨_, rfl⟩
          replace H : (some (y245, decide ((y245.length : Int) ≤ 60))) = some (r1, r2) := by first | (rw [hy245]; with_reducible exact H) | (have H2_ := (Option.bind_some _ _).symm.trans H; rw [hy245]; with_reducible exact H2_) | (have H2_ := (Option.bind_some _ _).symm.trans H; with_reducible exact H2_) | with_reducible exact H | (rw [hy245]; exact H) | exact H
          have Ny245 := Aside0.mk hy245
          clear hy245
          simp only [Option.some.injEq, Prod.mk.injEq] at H
          obtain ⟨rfl, rfl⟩ := H
          try go_wp2
          have n0_ := Aside0.mk (Kd.R_drew HO_8.out)
          have n1_ := Aside0.mk (blk_drew BK0.out)
          have n2_ := Aside0.mk (blk_drew BK1.out)
          have n3_ := Aside0.mk (below_drew1 HB.out)
          clear HO_8
          clear BK0
          clear BK1
          clear HB
          have HO_8 := n0_
          have BK0 := n1_
          have BK1 := n2_
          have HB := n3_
          clear n0_ n1_ n2_ n3_
          refine start_ (n := 11) (S := fun w' => w'.cell? ⟨B0, 0, none⟩ = some (.int .i64 a0_0) ∧ w'.cell? ⟨B0, 1, none⟩ = some (.int .i64 a0_1) ∧ w'.cell? ⟨B1, 0, none⟩ = some (.int .i64 x2000_1) ∧ w'.cell? ⟨B1, 1, none⟩ = some (.int .i64 x2001_1) ∧ w'.cell? ⟨B1, 2, none⟩ = some (.int .i64 x2002_1) ∧ w'.cell? ⟨B1, 3, none⟩ = some (.int .i64 x2003_1) ∧ w'.cell? ⟨B1, 4, none⟩ = some (.int .i64 x2004_1) ∧ w'.cell? ⟨B1, 5, none⟩ = some (.int .i64 x2005_1)) (ds := []) (zv_.bm 11 0) (by kernel_rfl) rfl rfl ⟨xvc BK0.out, xvc BK0.out, xvc BK1.out, xvc BK1.out, xvc BK1.out, xvc BK1.out, xvc BK1.out, xvc BK1.out⟩ (fun hHeld => ?_); refine with_tabW spec_l09Code.tab8 spec_l09Code.bits8 (fun HT_ HW_ => ?_)
          generalize wr.drew = w70 at HO_8 BK0 BK1 HB hHeld ⊢
          refine zv_.pa (i := 0) (N := some 34) (zv_.bm 11 1) HT_.out ?_
          refine zv_.pa (i := 1) (N := some 35) (zv_.bm 11 3) HT_.out ?_
          refine zv_.pa (i := 2) (N := some 36) (zv_.bm 11 7) HT_.out ?_
          refine zv_.pa (i := 3) (N := some 37) (zv_.bm 11 15) HT_.out ?_
          refine zv_.pa (i := 6) (N := some 40) (zv_.bm 11 79) HT_.out ?_
          refine zv_.pa (i := 7) (N := some 41) (zv_.bm 11 207) HT_.out ?_
          refine zv_.pa (i := 8) (N := some 42) (zv_.bm 11 463) HT_.out ?_
          refine zv_.ta (i := 4) (N := some 38) (zv_.bm 11 479) rfl (take_ofW HT_.out HW_.out (by kernel_rfl)) (Or.inl ⟨(by rfl), wv16⟩) hHeld ?_
          refine zv_.pa (i := 5) (N := some 39) (zv_.bm 11 511) HT_.out ?_
          refine zv_.ta (i := 9) (N := some 43) (zv_.bm 11 1023) rfl (take_ofW HT_.out HW_.out (by kernel_rfl)) (Or.inl ⟨(by rfl), wv16⟩) hHeld ?_
          refine zv_.pa (i := 10) (N := some 44) (zv_.bm 11 2047) HT_.out ?_
          refine done_ (done_of HT_.out (by kernel_rfl)) ?_
          have hnb71 := NB1_0.out
          have hnc71 := NB0_1.out
          have hcz72_0 : w70.cell? ⟨B1, 0, none⟩ = some (.int .i64 x2000_1) := xvc BK1.out
          have hcz72_1 : w70.cell? ⟨B1, 1, none⟩ = some (.int .i64 x2001_1) := xvc BK1.out
          have hcz72_2 : w70.cell? ⟨B1, 2, none⟩ = some (.int .i64 x2002_1) := xvc BK1.out
          have hcz72_3 : w70.cell? ⟨B1, 3, none⟩ = some (.int .i64 x2003_1) := xvc BK1.out
          have hcz72_4 : w70.cell? ⟨B1, 4, none⟩ = some (.int .i64 x2004_1) := xvc BK1.out
          have hcz72_5 : w70.cell? ⟨B1, 5, none⟩ = some (.int .i64 x2005_1) := xvc BK1.out
          have hfz72_0 := blk_frozen BK1.out 0
          have hfz72_1 := blk_frozen BK1.out 1
          have hfz72_2 := blk_frozen BK1.out 2
          have hfz72_3 := blk_frozen BK1.out 3
          have hfz72_4 := blk_frozen BK1.out 4
          have hfz72_5 := blk_frozen BK1.out 5
          try go_wp2
          have n0_ := Aside0.mk (Kd.R_drew HO_8.out)
          have n1_ := Aside0.mk (blk_drew BK0.out)
          have n2_ := Aside0.mk (blk_drew BK1.out)
          have n3_ := Aside0.mk (below_drew1 HB.out)
          clear HO_8
          clear BK0
          clear BK1
          clear HB
          have HO_8 := n0_
          have BK0 := n1_
          have BK1 := n2_
          have HB := n3_
          clear n0_ n1_ n2_ n3_
          refine start_ (n := 14) (S := fun w' => w'.cell? ⟨B1, 0, none⟩ = some (.int .i64 x2000_1) ∧ w'.cell? ⟨B1, 1, none⟩ = some (.int .i64 x2001_1) ∧ w'.cell? ⟨B1, 2, none⟩ = some (.int .i64 x2002_1) ∧ w'.cell? ⟨B1, 3, none⟩ = some (.int .i64 x2003_1) ∧ w'.cell? ⟨B1, 4, none⟩ = some (.int .i64 x2004_1) ∧ w'.cell? ⟨B1, 5, none⟩ = some (.int .i64 x2005_1) ∧ w'.cell? ⟨B0, 0, none⟩ = some (.int .i64 a0_0) ∧ w'.cell? ⟨B0, 1, none⟩ = some (.int .i64 a0_1)) (ds := []) (zv_.bm 14 0) (by kernel_rfl) rfl rfl ⟨xvc BK1.out, xvc BK1.out, xvc BK1.out, xvc BK1.out, xvc BK1.out, xvc BK1.out, xvc BK0.out, xvc BK0.out⟩ (fun hHeld => ?_); refine with_tabW spec_l09Code.tab13 spec_l09Code.bits13 (fun HT_ HW_ => ?_)
          generalize w70.drew = w73 at HO_8 BK0 BK1 HB hHeld ⊢
          refine zv_.pa (i := 0) (N := some 63) (zv_.bm 14 1) HT_.out ?_
          refine zv_.pa (i := 1) (N := some 64) (zv_.bm 14 3) HT_.out ?_
          refine zv_.pa (i := 2) (N := some 65) (zv_.bm 14 7) HT_.out ?_
          refine zv_.pa (i := 3) (N := some 66) (zv_.bm 14 15) HT_.out ?_
          refine zv_.pa (i := 4) (N := some 67) (zv_.bm 14 31) HT_.out ?_
          refine zv_.pa (i := 6) (N := some 69) (zv_.bm 14 95) HT_.out ?_
          refine zv_.pa (i := 7) (N := some 70) (zv_.bm 14 223) HT_.out ?_
          refine zv_.pa (i := 8) (N := some 71) (zv_.bm 14 479) HT_.out ?_
          refine zv_.ta (i := 5) (N := some 68) (zv_.bm 14 511) rfl (take_ofW HT_.out HW_.out (by kernel_rfl)) (Or.inl ⟨(by rfl), wv16⟩) hHeld ?_
          refine zv_.ta (i := 9) (N := some 72) (zv_.bm 14 1023) rfl (take_ofW HT_.out HW_.out (by kernel_rfl)) (Or.inl ⟨(by rfl), wv16⟩) hHeld ?_
          refine zv_.pa (i := 10) (N := some 73) (zv_.bm 14 2047) HT_.out ?_
          refine one_ (i := 11) (N := some 74) (zv_.bm 14 4095) rfl rfl (one_of HT_.out (by kernel_rfl)) (by decide) (fun K hK => ?_)
          refine goes_ Try.func183 (by kernel_rfl) rfl #[.pointer (some ⟨B1, 0, none⟩), .int .i64 (wrap64 (x2005_1 - a0_0)), .int .i64 (-1)] (by rfl) rfl rfl wv1 ?_
          with_reducible refine (spec_l09Strip.calls B1 x2000_1 x2001_1 x2002_1 x2003_1 x2004_1 x2005_1 (wrap64 (x2005_1 - a0_0)) (-1) t242 _ ?side1 A68.out).mono ?_
          (case side1 => (with_reducible repeat (first | refine blk_drewN ?_ _ | refine blk_drew ?_ | refine blk_alloc ?_ _)); exact BK1.out)
          rintro e w74 ⟨v243, rfl, ho0, hb⟩
          refine ⟨_, rfl, ?_⟩
          have n0_ := Aside0.mk (Kd.R_elder' (xvr HO_8.out) (Kd.R_base ho0) hb)
          have n1_ := Aside0.mk (Kd.R_lower (Kd.R_new' ho0 (Kd.R_lt (xvr HO_8.out))) (below_size wv5))
          have n2_ := Aside0.mk (blk_below (g := B0) (o := .cells #[.int .i64 a0_0, .int .i64 a0_1] 31 (0, 0)) (xvb BK0.out) hb)
          have n3_ := Aside0.mk (blk_below (g := B1) (o := .cells #[.int .i64 x2000_1, .int .i64 x2001_1, .int .i64 x2002_1, .int .i64 x2003_1, .int .i64 x2004_1, .int .i64 x2005_1] 25 (0, 0)) (xvb BK1.out) hb)
          have n4_ := Aside0.mk (below_step wv5 hb)
          clear HO_8
          clear BK0
          clear BK1
          clear HB
          have HO_8 := n0_
          have HO244 := n1_
          have BK0 := n2_
          have BK1 := n3_
          have HB := n4_
          clear n0_ n1_ n2_ n3_ n4_
          (try clear hb)
          (try clear hb2)
          (try clear hk)
          (try clear hi)
          (try clear ho0)
          obtain ⟨Ao76, co76, eo76⟩ := Kd.R_slice HO244.out
          (first | subst eo76 | (injection eo76 with f1_ f2_ f3_; have f4_ := f1_.symm; have f5_ := f3_.symm; clear f1_ f2_ f3_; subst f4_; subst f5_))
          refine hK.out _ _ ⟨xvc BK1.out, xvc BK1.out, xvc BK1.out, xvc BK1.out, xvc BK1.out, xvc BK1.out, xvc BK0.out, xvc BK0.out⟩ (fun hHeld => ?_)
          clear hK K
          refine norm_ (a' := ?_) ?_ ?_
          rotate_left
          ·show Act.put _ (some 74) _ = _
           simp only [Act.put, List.setIfInBounds_toArray, List.set_cons_zero, List.set_cons_succ, i64_w, i32_w]
           rfl
          refine one_ (i := 12) (N := some 75) (zv_.bm 14 8191) rfl rfl (one_of HT_.out (by kernel_rfl)) (by decide) (fun K hK => ?_)
          refine Kd.R_append_rows_step k142 (w0 := w) w.heap.size (by rfl) (.tmp 63) (.tmp 74) 87 142 (.agg #[(.int .i64 0), (.int .i64 0), (.int .i64 0), (.int .i64 0), (.int .i64 0), (.int .i64 0), (.slice none 0 0)]) 72 rfl Try.underlying87 info142 rfl (by decide) (by omega) u8 x8_1 t242 _ _ _ (fun k_ => some k_ ≠ (.slice Ao76 t242.length co76 : Value).ownBlock) (fun _ => False) rfl rfl ?aO ?aR (fun _ _ h => h) (fun _ h => h.elim) ?aF ?aB ?aS ?aL ?_
          (case aR => repeat (first | exact (Kd.R_reads' HO244.out).2.2 | (with_reducible refine Kd.C_alloc ?_ _) | (with_reducible refine Kd.C_drewN ?_ _) | (with_reducible refine Kd.C_drew ?_)))
          (case aB => exact wv5)
          (case aF => exact (fun k_ hk => Kd.fresh' (Kd.R_lt (xvr HO244.out)) k_ hk))
          (case aO => exact wv41)
          (case aS => exact (below_size wv5))
          (case aL => have := LMc69.out; omega)
          intro v246 w75 ho hb hg hat
          rw [← Ny245.out] at ho
          have n0_ := Aside0.mk (blk_grown (g := B0) (o := .cells #[.int .i64 a0_0, .int .i64 a0_1] 31 (0, 0)) (xvb BK0.out) hg (Kd.R_ne HO_8.out BK0.out (by decide)))
          have n1_ := Aside0.mk (blk_grown (g := B1) (o := .cells #[.int .i64 x2000_1, .int .i64 x2001_1, .int .i64 x2002_1, .int .i64 x2003_1, .int .i64 x2004_1, .int .i64 x2005_1] 25 (0, 0)) (xvb BK1.out) hg (Kd.R_ne HO_8.out BK1.out (by decide)))
          have n2_ := Aside0.mk (Kd.R_after (ok := (fun _ => True)) (xvr HO244.out) hg hat)
          have n3_ := Aside0.mk (hb)
          have n4_ := Aside0.mk (ho)
          clear BK0
          clear BK1
          clear HO244
          clear HB
          clear HO_8
          have BK0 := n0_
          have BK1 := n1_
          have HO244 := n2_
          have HB := n3_
          have HO247 := n4_
          clear n0_ n1_ n2_ n3_ n4_
          clear ho hb hg hat
          refine hK.out _ _ ⟨xvc BK1.out, xvc BK1.out, xvc BK1.out, xvc BK1.out, xvc BK1.out, xvc BK1.out, xvc BK0.out, xvc BK0.out⟩ (fun hHeld => ?_)
          clear hK K
          refine norm_ (a' := ?_) ?_ ?_
          rotate_left
          ·show Act.put _ (some 75) _ = _
           simp only [Act.put, List.setIfInBounds_toArray, List.set_cons_zero, List.set_cons_succ, i64_w, i32_w]
           rfl
          refine zv_.pa (i := 13) (N := some 8) (zv_.bm 14 16383) HT_.out ?_
          refine done_ (done_of HT_.out (by kernel_rfl)) ?_
          obtain ⟨Ao77, co77, eo77⟩ := Kd.R_slice HO247.out
          subst eo77
          try go_wp2
          go_ret2
          exact ⟨_, wv3, (by (with_reducible repeat (first | apply Kd.R_alloc | apply Kd.R_drewN | apply Kd.R_drew)); exact Kd.R_mono HO247.out (fun _ hk => trivial)), wv5⟩
         ·rw [if_neg c69] at H
          exact absurd H (by simp)
      ·rw [if_neg c32] at H
       have c32b0 : decide (x9_1 < x2005_1) = false := decide_eq_false c32
       clear c32
       simp only [Option.some.injEq, Prod.mk.injEq] at H
       obtain ⟨rfl, rfl⟩ := H
       try go_wp2
       have n0_ := Aside0.mk (Kd.R_drew HO_8.out)
       have n1_ := Aside0.mk (blk_drew BK0.out)
       have n2_ := Aside0.mk (blk_drew BK1.out)
       have n3_ := Aside0.mk (below_drew1 HB.out)
       clear HO_8
       clear BK0
       clear BK1
       clear HB
       have HO_8 := n0_
       have BK0 := n1_
       have BK1 := n2_
       have HB := n3_
       clear n0_ n1_ n2_ n3_
       refine start_ (n := 11) (S := fun w' => w'.cell? ⟨B0, 0, none⟩ = some (.int .i64 a0_0) ∧ w'.cell? ⟨B0, 1, none⟩ = some (.int .i64 a0_1) ∧ w'.cell? ⟨B1, 0, none⟩ = some (.int .i64 x2000_1) ∧ w'.cell? ⟨B1, 1, none⟩ = some (.int .i64 x2001_1) ∧ w'.cell? ⟨B1, 2, none⟩ = some (.int .i64 x2002_1) ∧ w'.cell? ⟨B1, 3, none⟩ = some (.int .i64 x2003_1) ∧ w'.cell? ⟨B1, 4, none⟩ = some (.int .i64 x2004_1) ∧ w'.cell? ⟨B1, 5, none⟩ = some (.int .i64 x2005_1)) (ds := []) (zv_.bm 11 0) (by kernel_rfl) rfl rfl ⟨xvc BK0.out, xvc BK0.out, xvc BK1.out, xvc BK1.out, xvc BK1.out, xvc BK1.out, xvc BK1.out, xvc BK1.out⟩ (fun hHeld => ?_); refine with_tabW spec_l09Code.tab8 spec_l09Code.bits8 (fun HT_ HW_ => ?_)
       generalize wr.drew = w78 at HO_8 BK0 BK1 HB hHeld ⊢
       refine zv_.pa (i := 0) (N := some 34) (zv_.bm 11 1) HT_.out ?_
       refine zv_.pa (i := 1) (N := some 35) (zv_.bm 11 3) HT_.out ?_
       refine zv_.pa (i := 2) (N := some 36) (zv_.bm 11 7) HT_.out ?_
       refine zv_.pa (i := 3) (N := some 37) (zv_.bm 11 15) HT_.out ?_
       refine zv_.pa (i := 6) (N := some 40) (zv_.bm 11 79) HT_.out ?_
       refine zv_.pa (i := 7) (N := some 41) (zv_.bm 11 207) HT_.out ?_
       refine zv_.pa (i := 8) (N := some 42) (zv_.bm 11 463) HT_.out ?_
       refine zv_.ta (i := 4) (N := some 38) (zv_.bm 11 479) rfl (take_ofW HT_.out HW_.out (by kernel_rfl)) (Or.inl ⟨(by rfl), wv16⟩) hHeld ?_
       refine zv_.pa (i := 5) (N := some 39) (zv_.bm 11 511) HT_.out ?_
       refine zv_.ta (i := 9) (N := some 43) (zv_.bm 11 1023) rfl (take_ofW HT_.out HW_.out (by kernel_rfl)) (Or.inl ⟨(by rfl), wv16⟩) hHeld ?_
       refine zv_.pa (i := 10) (N := some 44) (zv_.bm 11 2047) HT_.out ?_
       refine done_ (done_of HT_.out (by kernel_rfl)) ?_
       have hnb79 := NB1_0.out
       have hnc79 := NB0_1.out
       have hcz80_0 : w78.cell? ⟨B1, 0, none⟩ = some (.int .i64 x2000_1) := xvc BK1.out
       have hcz80_1 : w78.cell? ⟨B1, 1, none⟩ = some (.int .i64 x2001_1) := xvc BK1.out
       have hcz80_2 : w78.cell? ⟨B1, 2, none⟩ = some (.int .i64 x2002_1) := xvc BK1.out
       have hcz80_3 : w78.cell? ⟨B1, 3, none⟩ = some (.int .i64 x2003_1) := xvc BK1.out
       have hcz80_4 : w78.cell? ⟨B1, 4, none⟩ = some (.int .i64 x2004_1) := xvc BK1.out
       have hcz80_5 : w78.cell? ⟨B1, 5, none⟩ = some (.int .i64 x2005_1) := xvc BK1.out
       have hfz80_0 := blk_frozen BK1.out 0
       have hfz80_1 := blk_frozen BK1.out 1
       have hfz80_2 := blk_frozen BK1.out 2
       have hfz80_3 := blk_frozen BK1.out 3
       have hfz80_4 := blk_frozen BK1.out 4
       have hfz80_5 := blk_frozen BK1.out 5
       obtain ⟨Ao81, co81, eo81⟩ := Kd.R_slice HO_8.out
       subst eo81
       try go_wp2
       go_ret2
       exact ⟨_, wv3, (xvr HO_8.out), wv5⟩
 ·replace c5 := Bool.eq_false_iff.mpr c5
  subst c5
  have H1 : (some (([] : List (S142)), false)) = some (r1, r2) := by rw [if_neg (show ¬ (false = true) by decide)] at H; exact H
  clear H
  have H := H1
  clear H1
  simp only [Option.some.injEq, Prod.mk.injEq] at H
  obtain ⟨rfl, rfl⟩ := H
  have hnb82 := NB0_1.out
  have hnc82 := NB1_0.out
  have hcz83_0 : w.cell? ⟨B0, 0, none⟩ = some (.int .i64 a0_0) := xvc BK0.out
  have hcz83_1 : w.cell? ⟨B0, 1, none⟩ = some (.int .i64 a0_1) := xvc BK0.out
  have hfz83_0 := blk_frozen BK0.out 0
  have hfz83_1 := blk_frozen BK0.out 1
  go_enter Try.func131, Try.ntmps131
  go_wp2_with (first | ((with_reducible refine gate_callee (f := 84) rfl ?_); refine goesL_ (some 16) rfl rfl Try.func84 (by kernel_rfl) rfl #[.int .i64 a0_0, .pointer (some ⟨B1, 0, none⟩), .int .i64 a2] rfl wv1 ?_; (with_reducible refine (spec_l09Can.calls k a0_0 B1 a1_0 a1_1 a1_2 a1_3 a1_4 a1_5 a2 false _ ?side1 A4.out).mono ?_); (case side1 => (with_reducible repeat (first | refine blk_drewN ?_ _ | refine blk_drew ?_ | refine blk_alloc ?_ _)); exact BK1.out); rintro e w84 ⟨rfl, hb⟩; refine ⟨_, rfl, ?_⟩; have n0_ := Aside0.mk (blk_below (g := B0) (o := .cells #[.int .i64 a0_0, .int .i64 a0_1] 31 (0, 0)) (xvb BK0.out) hb); have n1_ := Aside0.mk (blk_below (g := B1) (o := .cells #[.int .i64 a1_0, .int .i64 a1_1, .int .i64 a1_2, .int .i64 a1_3, .int .i64 a1_4, .int .i64 a1_5] 25 (0, 0)) (xvb BK1.out) hb); have n2_ := Aside0.mk (below_step wv5 hb); clear BK0; clear BK1; clear HB; have BK0 := n0_; have BK1 := n1_; have HB := n2_; clear n0_ n1_ n2_; (try clear hb); (try clear hb2); (try clear hk); (try clear hi)))
  go_ret2
  exact ⟨_, wv3, wv29, wv5⟩

end Go.Proofs.Ytpfoeologjacfaa.V
