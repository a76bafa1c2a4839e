-- Written by a program of this session (wip/tools) over the kit's print.
-- COMPACT
import Derived.Test.YtpfoeologjacfaaV0
import Derived.Test.YtpfoeologjacfaaV3
namespace Go.Proofs.Ytpfoeologjacfaa.V
open Go.RowKit Go.Proofs.YtpfoeologjacfaaW.PrintWords Go.Proofs.YtpfoeologjacfaaW.PrintLast Go.Proofs.YtpfoeologjacfaaW.PrintMore
attribute [local go_sem] max2_int min2_int max_two min_two max_three min_three max_four min_four   -- for this text's walks alone
set_option linter.unusedVariables false
set_option linter.unusedSimpArgs false

/-! ### spec_l09Fold: function 182 -/
def spec_l09Fold.l0 : Nat → Int → List (S142) → Int → Int → Int → Int → Int → Int → Int → Option ((List (S142)))
 | 0, _, _, _, _, _, _, _, _, _ => none
 | k + 1, x0, x5, x6, x2000, x2001, x2002, x2003, x2004, x2005 => if (wrap64 (x6 + x0)) ≤ x2005 then (if x6 = 0 then (if x5.length < 1954687338268 then (spec_l09Fold.l0 k x0 (x5 ++ [(⟨0, 4, 0, 1, (-1), x2003, NRow.nil⟩ : S142)]) (wrap64 (x6 + x0)) x2000 x2001 x2002 x2003 x2004 x2005) else (none)) else ((some (([(⟨0, 0, 0, 1, (-1), wrap64 (x2003 + x6), NRow.nil⟩ : S142), (⟨4, 4, 4, 0, (-1), x2001, NRow.nil⟩ : S142)] : List (S142)) : List (S142))).bind fun y136 => (if x5.length + y136.length < 1954687338268 then (spec_l09Fold.l0 k x0 (x5 ++ y136) (wrap64 (x6 + x0)) x2000 x2001 x2002 x2003 x2004 x2005) else (none)))) else (if x6 < x2005 then ((spec_l09Mask.f (wrap64 (x2005 - x6))).bind fun t142 => (if x5.length + t142.length < 1954687338268 then ((some (x5 ++ t142 : List (S142))).bind fun y145 => (if x6 > 0 then ((some (([(⟨0, 0, 0, 1, 3, wrap64 (x2003 + x6), NRow.nil⟩ : S142), (⟨4, 4, 4, 0, 3, x2001, NRow.nil⟩ : S142)] : List (S142)) : List (S142))).bind fun y148 => (if y145.length + y148.length < 1954687338268 then ((some (y145 ++ y148 : List (S142))).bind fun y151 => (if y151.length < 1954687338268 then ((some (y151 ++ [(⟨10, 4, 4, 0, (-1), x2001, NRow.nil⟩ : S142)] : List (S142))).bind fun y154 => ((spec_l09Mask.f 1).bind fun t157 => (if y154.length + t157.length < 1954687338268 then ((some (y154 ++ t157 : List (S142))).bind fun y160 => ((some (([(⟨0, 0, 0, 1, 3, x2002, NRow.nil⟩ : S142), (⟨4, 0, 0, 4, 3, x2001, NRow.nil⟩ : S142), (⟨1, 0, 0, 1, 3, x2002, NRow.nil⟩ : S142)] : List (S142)) : List (S142))).bind fun y163 => (if y160.length + y163.length < 1954687338268 then (some (y160 ++ y163)) else (none)))) else (none)))) else (none))) else (none))) else (if y145.length < 1954687338268 then ((some (y145 ++ [(⟨0, 4, 0, 1, 3, x2003, NRow.nil⟩ : S142)] : List (S142))).bind fun y169 => (if y169.length < 1954687338268 then ((some (y169 ++ [(⟨10, 4, 4, 0, 3, x2001, NRow.nil⟩ : S142)] : List (S142))).bind fun y172 => ((spec_l09Mask.f 1).bind fun t175 => (if y172.length + t175.length < 1954687338268 then ((some (y172 ++ t175 : List (S142))).bind fun y178 => ((some (([(⟨0, 0, 0, 1, 3, x2002, NRow.nil⟩ : S142), (⟨4, 0, 0, 4, 3, x2001, NRow.nil⟩ : S142), (⟨1, 0, 0, 1, 3, x2002, NRow.nil⟩ : S142)] : List (S142)) : List (S142))).bind fun y181 => (if y178.length + y181.length < 1954687338268 then (some (y178 ++ y181)) else (none)))) else (none)))) else (none))) else (none)))) else (none))) else (if x5.length < 1954687338268 then ((some (x5 ++ [(⟨10, 4, 4, 0, (-1), x2001, NRow.nil⟩ : S142)] : List (S142))).bind fun y187 => ((spec_l09Mask.f 1).bind fun t190 => (if y187.length + t190.length < 1954687338268 then ((some (y187 ++ t190 : List (S142))).bind fun y193 => ((some (([(⟨0, 0, 0, 1, 3, x2002, NRow.nil⟩ : S142), (⟨4, 0, 0, 4, 3, x2001, NRow.nil⟩ : S142), (⟨1, 0, 0, 1, 3, x2002, NRow.nil⟩ : S142)] : List (S142)) : List (S142))).bind fun y196 => (if y193.length + y196.length < 1954687338268 then (some (y193 ++ y196)) else (none)))) else (none)))) else (none)))
def spec_l09Fold.f (k : Nat) (a0 : Int) (a1_0 : Int) (a1_1 : Int) (a1_2 : Int) (a1_3 : Int) (a1_4 : Int) (a1_5 : Int) : Option ((List (S142))) := (some (([] : List (S142)) : List (S142))).bind fun y130 => (if a1_5 = 0 then (some y130) else (spec_l09Fold.l0 k a0 y130 0 a1_0 a1_1 a1_2 a1_3 a1_4 a1_5))
theorem spec_l09Fold.mono_l : ∀ k, (∀ y0 y1 y2 y3 y4 y5 y6 y7 y8, LeO (spec_l09Fold.l0 k y0 y1 y2 y3 y4 y5 y6 y7 y8) (spec_l09Fold.l0 (k + 1) y0 y1 y2 y3 y4 y5 y6 y7 y8))
 | 0 => fun _ _ _ _ _ _ _ _ _ r h => by simp [spec_l09Fold.l0] at h
 | k + 1 => by
  have ih0 := spec_l09Fold.mono_l k
  ·intro y0 y1 y2 y3 y4 y5 y6 y7 y8
   unfold spec_l09Fold.l0
   repeat' first
   | (with_reducible exact ih0 _ _ _ _ _ _ _ _ _)
   | (with_reducible exact LeO.refl _)
   | (with_reducible exact LeO.none _)
   | (with_reducible refine LeO.ite ?_ ?_)
   | (with_reducible refine LeO.bind ?_ (fun _ => ?_))
   | exact ih0 _ _ _ _ _ _ _ _ _
   | exact LeO.none _
   | refine LeO.ite ?_ ?_
   | refine LeO.bind ?_ (fun _ => ?_)
theorem spec_l09Fold.mono : ∀ a0 a1 a2 a3 a4 a5 a6 k, LeO (spec_l09Fold.f k a0 a1 a2 a3 a4 a5 a6) (spec_l09Fold.f (k + 1) a0 a1 a2 a3 a4 a5 a6) := by
 intro a0 a1 a2 a3 a4 a5 a6 k
 have ih0 := spec_l09Fold.mono_l k
 unfold spec_l09Fold.f
 repeat' first
   | (with_reducible exact ih0 _ _ _ _ _ _ _ _ _)
   | (with_reducible exact LeO.refl _)
   | (with_reducible exact LeO.none _)
   | (with_reducible refine LeO.ite ?_ ?_)
   | (with_reducible refine LeO.bind ?_ (fun _ => ?_))
   | exact ih0 _ _ _ _ _ _ _ _ _
   | exact LeO.none _
   | refine LeO.ite ?_ ?_
   | refine LeO.bind ?_ (fun _ => ?_)
def spec_l09Fold.T9 : Bool × List (List Nat × List Nat) := (true, [([], []), ([], []), ([1], [1]), ([2], [2]), ([3], [3]), ([], []), ([4, 5], [4, 5]), ([6], [6]), ([], []), ([8], [8]), ([9], [9]), ([10], [10]), ([11], [11]), ([7, 12], [7, 12]), ([0, 13], [0, 13]), ([14, 14, 0, 1, 2, 3, 4, 5, 6, 7, 8, 9, 10, 11, 12, 13, 14], [0, 14])])
def spec_l09Fold.B9 : List Nat := [0, 0, 2, 6, 14, 0, 62, 126, 0, 256, 768, 1792, 3840, 8190, 16383, 32767]
theorem spec_l09Fold.tab9 : rtab .any (opsOf Try.f182 9) = spec_l09Fold.T9 := by kernel_rfl
theorem spec_l09Fold.bits9 : waitsOk spec_l09Fold.T9.2 spec_l09Fold.B9 = true := by kernel_rfl
def spec_l09Fold.T14 : Bool × List (List Nat × List Nat) := (true, [([], []), ([], []), ([1], [1]), ([2], [2]), ([3], [3]), ([], []), ([4, 5], [4, 5]), ([6], [6]), ([], []), ([8], [8]), ([9], [9]), ([10], [10]), ([11], [11]), ([7, 12], [7, 12]), ([0, 13], [0, 13]), ([14, 14, 0, 1, 2, 3, 4, 5, 6, 7, 8, 9, 10, 11, 12, 13, 14], [0, 14])])
def spec_l09Fold.B14 : List Nat := [0, 0, 2, 6, 14, 0, 62, 126, 0, 256, 768, 1792, 3840, 8190, 16383, 32767]
theorem spec_l09Fold.tab14 : rtab .any (opsOf Try.f182 14) = spec_l09Fold.T14 := by kernel_rfl
theorem spec_l09Fold.bits14 : waitsOk spec_l09Fold.T14.2 spec_l09Fold.B14 = true := by kernel_rfl
def spec_l09Fold.T19 : Bool × List (List Nat × List Nat) := (true, [([], []), ([], []), ([1], [1]), ([2], [2]), ([3], [3]), ([4], [4]), ([], []), ([6], [6]), ([7], [7]), ([8], [8]), ([9], [9]), ([], []), ([11], [11]), ([12], [12]), ([13], [13]), ([14], [14]), ([5, 10, 15], [5, 10, 15]), ([0, 16], [0, 16]), ([17, 17, 0, 1, 2, 3, 4, 5, 6, 7, 8, 9, 10, 11, 12, 13, 14, 15, 16, 17], [17])])
def spec_l09Fold.B19 : List Nat := [0, 0, 2, 6, 14, 30, 0, 64, 192, 448, 960, 0, 2048, 6144, 14336, 30720, 65534, 131071, 262143]
theorem spec_l09Fold.tab19 : rtab .any (opsOf Try.f182 19) = spec_l09Fold.T19 := by kernel_rfl
theorem spec_l09Fold.bits19 : waitsOk spec_l09Fold.T19.2 spec_l09Fold.B19 = true := by kernel_rfl
set_option maxHeartbeats 8000000 in
set_option maxRecDepth 100000 in
theorem spec_l09Fold.calls (k : Nat) (a0 : Int) (B1 : Nat) (a1_0 : Int) (a1_1 : Int) (a1_2 : Int) (a1_3 : Int) (a1_4 : Int) (a1_5 : Int) (r : List (S142)) (w : World) (hb1 : w.heap[B1]? = some (.cells #[.int .i64 a1_0, .int .i64 a1_1, .int .i64 a1_2, .int .i64 a1_3, .int .i64 a1_4, .int .i64 a1_5] 25 (0, 0))) (h : spec_l09Fold.f k a0 a1_0 a1_1 a1_2 a1_3 a1_4 a1_5 = some r) :
  Calls Try.prog 182 #[.int .i64 a0, .pointer (some ⟨B1, 0, none⟩)] w fun e w' => ∃ v0_ : Value, e = .returned (v0_) ∧ Kd.R k142 142 w' w.heap.size (fun _ => True) v0_ r ∧ Below w.heap.size w w' := by
 have hu142 := Try.underlying142
 have BK1 := Aside0.mk hb1
 clear hb1
 have HB := Aside0.mk (Below.refl w.heap.size w)
 have H : ((some (([] : List (S142)) : List (S142))).bind fun y130 => (if a1_5 = 0 then (some y130) else (spec_l09Fold.l0 k a0 y130 0 a1_0 a1_1 a1_2 a1_3 a1_4 a1_5))) = some r := h
 clear h
 obtain ⟨y130, hy130⟩ : ∃ y_ : List (S142), y_ = (([] : List (S142))) := ⟨_, rfl⟩
 replace H : (if a1_5 = 0 then (some y130) else (spec_l09Fold.l0 k a0 y130 0 a1_0 a1_1 a1_2 a1_3 a1_4 a1_5)) = some r := by first | (rw [hy130]; with_reducible exact H) | (have H2_ := (Option.bind_some _ _).symm.trans H; rw [hy130]; with_reducible exact H2_) | (have H2_ := (Option.bind_some _ _).symm.trans H; with_reducible exact H2_) | with_reducible exact H | (rw [hy130]; exact H) | exact H
 have Ny130 := Aside0.mk hy130
 clear hy130
 by_cases c3 : a1_5 = 0
 ·rw [if_pos c3] at H
  have c3b0 : (a1_5 == 0) = true := beq_iff_eq.mpr c3
  have c3b1 : (a1_5 != 0) = false := bne_eq_false_iff_eq.mpr c3
  clear c3
  obtain rfl := Option.some.inj H
  go_enter Try.func182, Try.ntmps182
  go_wp2_with (first | ((with_reducible refine gate_dst (N := 8) rfl ?_); refine Kd.R_lit k142 _ 142 ?hg (N := 8) ?hd (xs := ([] : List (S142))) (inner := []) (ok := fun _ => True) (okp := fun _ => True) ?hr ?hp (fun _ hk => hk) trivial (Below.refl _ _) (Nat.le_refl _) (by simp) ?_; (case hd => rfl); (case hg => rfl); (case hr => first | (go_simp; done) | (go_simp; rfl)); (case hp => exact (Reps.none _ _)); intro v131 w4 ho5 hb hg_ hnew_; clear hg_ hnew_; (first | rw [← Ny130.out] at ho5 | (simp only [Int.reduceToNat] at ho5; rw [← Ny130.out] at ho5)); have n0_ := Aside0.mk (Kd.R_lower ho5 (below_size wv2)); have n1_ := Aside0.mk (blk_below (g := B1) (o := .cells #[.int .i64 a1_0, .int .i64 a1_1, .int .i64 a1_2, .int .i64 a1_3, .int .i64 a1_4, .int .i64 a1_5] 25 (0, 0)) (xvb BK1.out) hb); have n2_ := Aside0.mk (below_step wv2 hb); clear BK1; clear HB; have HO132 := n0_; have BK1 := n1_; have HB := n2_; clear n0_ n1_ n2_; clear hb ho5; have hcz6_0 : w4.cell? ⟨B1, 0, none⟩ = some (.int .i64 a1_0) := xvc BK1.out; have hcz6_1 : w4.cell? ⟨B1, 1, none⟩ = some (.int .i64 a1_1) := xvc BK1.out; have hcz6_2 : w4.cell? ⟨B1, 2, none⟩ = some (.int .i64 a1_2) := xvc BK1.out; have hcz6_3 : w4.cell? ⟨B1, 3, none⟩ = some (.int .i64 a1_3) := xvc BK1.out; have hcz6_4 : w4.cell? ⟨B1, 4, none⟩ = some (.int .i64 a1_4) := xvc BK1.out; have hcz6_5 : w4.cell? ⟨B1, 5, none⟩ = some (.int .i64 a1_5) := xvc BK1.out; have hfz6_0 := blk_frozen BK1.out 0; have hfz6_1 := blk_frozen BK1.out 1; have hfz6_2 := blk_frozen BK1.out 2; have hfz6_3 := blk_frozen BK1.out 3; have hfz6_4 := blk_frozen BK1.out 4; have hfz6_5 := blk_frozen BK1.out 5))
  go_ret
  exact ⟨_, wv3, (xvr HO132.out), wv2⟩
 ·rw [if_neg c3] at H
  have c3b0 : (a1_5 == 0) = false := beq_eq_false_iff_ne.mpr c3
  have c3b1 : (a1_5 != 0) = true := bne_iff_ne.mpr c3
  have H' := Aside0.mk H
  clear H
  go_enter Try.func182, Try.ntmps182
  go_wp2_with (first | ((with_reducible refine gate_dst (N := 8) rfl ?_); refine Kd.R_lit k142 _ 142 ?hg (N := 8) ?hd (xs := ([] : List (S142))) (inner := []) (ok := fun _ => True) (okp := fun _ => True) ?hr ?hp (fun _ hk => hk) trivial (Below.refl _ _) (Nat.le_refl _) (by simp) ?_; (case hd => rfl); (case hg => rfl); (case hr => first | (go_simp; done) | (go_simp; rfl)); (case hp => exact (Reps.none _ _)); intro v131 w7 ho8 hb hg_ hnew_; clear hg_ hnew_; (first | rw [← Ny130.out] at ho8 | (simp only [Int.reduceToNat] at ho8; rw [← Ny130.out] at ho8)); have n0_ := Aside0.mk (Kd.R_lower ho8 (below_size wv2)); have n1_ := Aside0.mk (blk_below (g := B1) (o := .cells #[.int .i64 a1_0, .int .i64 a1_1, .int .i64 a1_2, .int .i64 a1_3, .int .i64 a1_4, .int .i64 a1_5] 25 (0, 0)) (xvb BK1.out) hb); have n2_ := Aside0.mk (below_step wv2 hb); clear BK1; clear HB; have HO132 := n0_; have BK1 := n1_; have HB := n2_; clear n0_ n1_ n2_; clear hb ho8; have hcz9_0 : w7.cell? ⟨B1, 0, none⟩ = some (.int .i64 a1_0) := xvc BK1.out; have hcz9_1 : w7.cell? ⟨B1, 1, none⟩ = some (.int .i64 a1_1) := xvc BK1.out; have hcz9_2 : w7.cell? ⟨B1, 2, none⟩ = some (.int .i64 a1_2) := xvc BK1.out; have hcz9_3 : w7.cell? ⟨B1, 3, none⟩ = some (.int .i64 a1_3) := xvc BK1.out; have hcz9_4 : w7.cell? ⟨B1, 4, none⟩ = some (.int .i64 a1_4) := xvc BK1.out; have hcz9_5 : w7.cell? ⟨B1, 5, none⟩ = some (.int .i64 a1_5) := xvc BK1.out; have hfz9_0 := blk_frozen BK1.out 0; have hfz9_1 := blk_frozen BK1.out 1; have hfz9_2 := blk_frozen BK1.out 2; have hfz9_3 := blk_frozen BK1.out 3; have hfz9_4 := blk_frozen BK1.out 4; have hfz9_5 := blk_frozen BK1.out 5))
  go_loopg [5, 6] k (fun kq v5 v6 w' => ∃ (x5_1 : List (S142)) (x6_1 : Int), v6 = .int .i64 x6_1 ∧ Aside0 (spec_l09Fold.l0 kq a0 x5_1 x6_1 a1_0 a1_1 a1_2 a1_3 a1_4 a1_5 = some r) ∧ Aside0 (kq ≤ k) ∧ Aside0 (Kd.R k142 142 w' w.heap.size (fun _ => True) v5 x5_1) ∧ Aside0 (w'.heap[B1]? = some (.cells #[.int .i64 a1_0, .int .i64 a1_1, .int .i64 a1_2, .int .i64 a1_3, .int .i64 a1_4, .int .i64 a1_5] 25 (0, 0))) ∧ Aside0 (Below w.heap.size w w'))
  case atStart => exact ⟨(y130), (0), wv6, H', ⟨Nat.le_refl _⟩, ⟨(xvr HO132.out)⟩, ⟨(xvb BK1.out)⟩, ⟨wv2⟩⟩
  case round =>
   clear H'
   try clear c1
   try clear p2
   try clear c3
   try clear c3b0
   try clear c3b1
   try clear hcz6_0
   try clear hcz6_1
   try clear hcz6_2
   try clear hcz6_3
   try clear hcz6_4
   try clear hcz6_5
   try clear hcz9_0
   try clear hcz9_1
   try clear hcz9_2
   try clear hcz9_3
   try clear hcz9_4
   try clear hcz9_5
   try clear hfz6_0
   try clear hfz6_1
   try clear hfz6_2
   try clear hfz6_3
   try clear hfz6_4
   try clear hfz6_5
   try clear hfz9_0
   try clear hfz9_1
   try clear hfz9_2
   try clear hfz9_3
   try clear hfz9_4
   try clear hfz9_5
   obtain ⟨x5_1, x6_1, rfl, HA, HK1, HO_5, BK1, HB⟩ := hrel
   cases gk with
   | zero => exact absurd HA.out (by simp [spec_l09Fold.l0])
   | succ k1 =>
    have H := HA.out
    clear HA
    simp only [spec_l09Fold.l0] at H
    by_cases c10 : (wrap64 (x6_1 + a0)) ≤ a1_5
    ·rw [if_pos c10] at H
     have c10b0 : decide ((wrap64 (x6_1 + a0)) ≤ a1_5) = true := decide_eq_true c10
     clear c10
     by_cases c11 : x6_1 = 0
     ·rw [if_pos c11] at H
      have c11b0 : (x6_1 == 0) = true := beq_iff_eq.mpr c11
      have c11b1 : (x6_1 != 0) = false := bne_eq_false_iff_eq.mpr c11
      clear c11
      by_cases c12 : x5_1.length < 1954687338268
      ·rw [if_pos c12] at H
       have LMc12 := Aside0.mk c12
       clear c12
       obtain ⟨y133, hy133⟩ : ∃ y_ : List (S142), y_ = (x5_1 ++ [(⟨0, 4, 0, 1, (-1), a1_3, NRow.nil⟩ : S142)]) := ⟨_, rfl⟩
       replace H : (spec_l09Fold.l0 k1 a0 y133 (wrap64 (x6_1 + a0)) a1_0 a1_1 a1_2 a1_3 a1_4 a1_5) = some r := by first | (rw [hy133]; with_reducible exact H) | (have H2_ := (Option.bind_some _ _).symm.trans H; rw [hy133]; with_reducible exact H2_) | (have H2_ := (Option.bind_some _ _).symm.trans H; with_reducible exact H2_) | with_reducible exact H | (rw [hy133]; exact H) | exact H
       have Ny133 := Aside0.mk hy133
       clear hy133
       have H' := Aside0.mk H
       clear H
       have hcz13_0 : wr.cell? ⟨B1, 0, none⟩ = some (.int .i64 a1_0) := xvc BK1.out
       have hcz13_1 : wr.cell? ⟨B1, 1, none⟩ = some (.int .i64 a1_1) := xvc BK1.out
       have hcz13_2 : wr.cell? ⟨B1, 2, none⟩ = some (.int .i64 a1_2) := xvc BK1.out
       have hcz13_3 : wr.cell? ⟨B1, 3, none⟩ = some (.int .i64 a1_3) := xvc BK1.out
       have hcz13_4 : wr.cell? ⟨B1, 4, none⟩ = some (.int .i64 a1_4) := xvc BK1.out
       have hcz13_5 : wr.cell? ⟨B1, 5, none⟩ = some (.int .i64 a1_5) := xvc BK1.out
       have hfz13_0 := blk_frozen BK1.out 0
       have hfz13_1 := blk_frozen BK1.out 1
       have hfz13_2 := blk_frozen BK1.out 2
       have hfz13_3 := blk_frozen BK1.out 3
       have hfz13_4 := blk_frozen BK1.out 4
       have hfz13_5 := blk_frozen BK1.out 5
       go_wp2_with (first | ((with_reducible refine gate_builtin (b := .append) (xs := #[.tmp 28, .tmp 34]) rfl ?_); at_builtin; refine Kd.R_append k142 (w0 := w) w.heap.size rfl (.tmp 28) (.tmp 34) 87 142 (.agg #[(.int .i64 0), (.int .i64 0), (.int .i64 0), (.int .i64 0), (.int .i64 0), (.int .i64 0), (.slice none 0 0)]) 72 rfl Try.underlying87 info142 rfl (by decide) (by omega) u5 x5_1 (⟨0, 4, 0, 1, (-1), a1_3, NRow.nil⟩ : S142) [.int .i64 0, .int .i64 4, .int .i64 0, .int .i64 1, .int .i64 (-1), .int .i64 a1_3, .slice none 0 0] (fun _ => True) (fun _ => False) rfl rfl ?aP (fun _ hk => hk.elim) ?aF ?aO ?aB ?aS ?aL ?_; (case aP => exact k142_mkM _ _ _ (⟨0, 4, 0, 1, (-1), a1_3, NRow.nil⟩ : S142)); (case aB => exact wv2); (case aF => exact (fun _ _ => trivial)); (case aO => exact (xvr HO_5.out)); (case aS => exact (below_size wv2)); (case aL => have := LMc12.out; omega); intro v134 w14 ho hb hg hat; rw [← Ny133.out] at ho; have n0_ := Aside0.mk (blk_grown (g := B1) (o := .cells #[.int .i64 a1_0, .int .i64 a1_1, .int .i64 a1_2, .int .i64 a1_3, .int .i64 a1_4, .int .i64 a1_5] 25 (0, 0)) (xvb BK1.out) hg (Kd.R_ne HO_5.out BK1.out (by decide))); have n1_ := Aside0.mk (hb); have n2_ := Aside0.mk (ho); clear BK1; clear HB; clear HO_5; have BK1 := n0_; have HB := n1_; have HO135 := n2_; clear n0_ n1_ n2_; clear ho hb hg hat))
       go_roundg k1
       case measure => have := HK1.out; omega
       case rel => exact ⟨(y133), (wrap64 (x6_1 + a0)), wv6, H', ⟨wv60⟩, ⟨(xvr HO135.out)⟩, ⟨(xvb BK1.out)⟩, ⟨wv2⟩⟩
      ·rw [if_neg c12] at H
       exact absurd H (by simp)
     ·rw [if_neg c11] at H
      have c11b0 : (x6_1 == 0) = false := beq_eq_false_iff_ne.mpr c11
      have c11b1 : (x6_1 != 0) = true := bne_iff_ne.mpr c11
      obtain ⟨y136, hy136⟩ : ∃ y_ : List (S142), y_ = (([(⟨0, 0, 0, 1, (-1), wrap64 (a1_3 + x6_1), NRow.nil⟩ : S142), (⟨4, 4, 4, 0, (-1), a1_1, NRow.nil⟩ : S142)] : List (S142))) := ⟨_, rfl⟩
      replace H : (if x5_1.length + y136.length < 1954687338268 then (spec_l09Fold.l0 k1 a0 (x5_1 ++ y136) (wrap64 (x6_1 + a0)) a1_0 a1_1 a1_2 a1_3 a1_4 a1_5) else (none)) = some r := by first | (rw [hy136]; with_reducible exact H) | (have H2_ := (Option.bind_some _ _).symm.trans H; rw [hy136]; with_reducible exact H2_) | (have H2_ := (Option.bind_some _ _).symm.trans H; with_reducible exact H2_) | with_reducible exact H | (rw [hy136]; exact H) | exact H
      have Ny136 := Aside0.mk hy136
      clear hy136
      by_cases c15 : x5_1.length + y136.length < 1954687338268
      ·rw [if_pos c15] at H
       have LMc15 := Aside0.mk c15
       clear c15
       obtain ⟨y139, hy139⟩ : ∃ y_ : List (S142), y_ = (x5_1 ++ y136) := ⟨_, rfl⟩
       replace H : (spec_l09Fold.l0 k1 a0 y139 (wrap64 (x6_1 + a0)) a1_0 a1_1 a1_2 a1_3 a1_4 a1_5) = some r := by first | (rw [hy139]; with_reducible exact H) | (have H2_ := (Option.bind_some _ _).symm.trans H; rw [hy139]; with_reducible exact H2_) | (have H2_ := (Option.bind_some _ _).symm.trans H; with_reducible exact H2_) | with_reducible exact H | (rw [hy139]; exact H) | exact H
       have Ny139 := Aside0.mk hy139
       clear hy139
       have H' := Aside0.mk H
       clear H
       have hcz16_0 : wr.cell? ⟨B1, 0, none⟩ = some (.int .i64 a1_0) := xvc BK1.out
       have hcz16_1 : wr.cell? ⟨B1, 1, none⟩ = some (.int .i64 a1_1) := xvc BK1.out
       have hcz16_2 : wr.cell? ⟨B1, 2, none⟩ = some (.int .i64 a1_2) := xvc BK1.out
       have hcz16_3 : wr.cell? ⟨B1, 3, none⟩ = some (.int .i64 a1_3) := xvc BK1.out
       have hcz16_4 : wr.cell? ⟨B1, 4, none⟩ = some (.int .i64 a1_4) := xvc BK1.out
       have hcz16_5 : wr.cell? ⟨B1, 5, none⟩ = some (.int .i64 a1_5) := xvc BK1.out
       have hfz16_0 := blk_frozen BK1.out 0
       have hfz16_1 := blk_frozen BK1.out 1
       have hfz16_2 := blk_frozen BK1.out 2
       have hfz16_3 := blk_frozen BK1.out 3
       have hfz16_4 := blk_frozen BK1.out 4
       have hfz16_5 := blk_frozen BK1.out 5
       try go_wp2
       have n0_ := Aside0.mk (Kd.R_drew HO_5.out)
       have n1_ := Aside0.mk (blk_drew BK1.out)
       have n2_ := Aside0.mk (below_drew1 HB.out)
       clear HO_5
       clear BK1
       clear HB
       have HO_5 := n0_
       have BK1 := n1_
       have HB := n2_
       clear n0_ n1_ n2_
       refine start_ (n := 16) (S := fun w' => w'.cell? ⟨B1, 0, none⟩ = some (.int .i64 a1_0) ∧ w'.cell? ⟨B1, 1, none⟩ = some (.int .i64 a1_1) ∧ w'.cell? ⟨B1, 2, none⟩ = some (.int .i64 a1_2) ∧ w'.cell? ⟨B1, 3, none⟩ = some (.int .i64 a1_3) ∧ w'.cell? ⟨B1, 4, none⟩ = some (.int .i64 a1_4) ∧ w'.cell? ⟨B1, 5, none⟩ = some (.int .i64 a1_5)) (ds := []) (zv_.bm 16 0) (by kernel_rfl) rfl rfl ⟨xvc BK1.out, xvc BK1.out, xvc BK1.out, xvc BK1.out, xvc BK1.out, xvc BK1.out⟩ (fun hHeld => ?_); refine with_tabW spec_l09Fold.tab9 spec_l09Fold.bits9 (fun HT_ HW_ => ?_)
       generalize wr.drew = w17 at HO_5 BK1 HB hHeld ⊢
       refine zv_.pa (i := 0) (N := some 36) (zv_.bm 16 1) HT_.out ?_
       refine zv_.pa (i := 1) (N := some 37) (zv_.bm 16 3) HT_.out ?_
       refine zv_.pa (i := 2) (N := some 38) (zv_.bm 16 7) HT_.out ?_
       refine zv_.pa (i := 3) (N := some 39) (zv_.bm 16 15) HT_.out ?_
       refine zv_.pa (i := 5) (N := some 41) (zv_.bm 16 47) HT_.out ?_
       refine zv_.pa (i := 8) (N := some 44) (zv_.bm 16 303) HT_.out ?_
       refine zv_.pa (i := 9) (N := some 45) (zv_.bm 16 815) HT_.out ?_
       refine zv_.pa (i := 10) (N := some 46) (zv_.bm 16 1839) HT_.out ?_
       refine zv_.ta (i := 4) (N := some 40) (zv_.bm 16 1855) rfl (take_ofW HT_.out HW_.out (by kernel_rfl)) (Or.inl ⟨(by rfl), wv13⟩) hHeld ?_
       refine zv_.pa (i := 6) (N := some 42) (zv_.bm 16 1919) HT_.out ?_
       refine zv_.pa (i := 7) (N := some 43) (zv_.bm 16 2047) HT_.out ?_
       refine zv_.ta (i := 11) (N := some 47) (zv_.bm 16 4095) rfl (take_ofW HT_.out HW_.out (by kernel_rfl)) (Or.inl ⟨(by rfl), wv13⟩) hHeld ?_
       refine zv_.pa (i := 12) (N := some 48) (zv_.bm 16 8191) HT_.out ?_
       refine one_ (i := 13) (N := some 49) (zv_.bm 16 16383) rfl rfl (one_of HT_.out (by kernel_rfl)) (by decide) (fun K hK => ?_)
       refine Kd.R_lit_step k142 _ 142 ?hg (N := 49) ?hd (xs := ([(⟨0, 0, 0, 1, (-1), wrap64 (a1_3 + x6_1), NRow.nil⟩ : S142), (⟨4, 4, 4, 0, (-1), a1_1, NRow.nil⟩ : S142)] : List (S142))) (inner := [.int .i64 0, .int .i64 0, .int .i64 0, .int .i64 1, .int .i64 (-1), .int .i64 (wrap64 (a1_3 + x6_1)), .slice none 0 0, .int .i64 4, .int .i64 4, .int .i64 4, .int .i64 0, .int .i64 (-1), .int .i64 a1_1, .slice none 0 0]) (ok := fun _ => True) (okp := fun _ => True) ?hr ?hp (fun _ hk => hk) trivial (Below.refl _ _) (Nat.le_refl _) (by simp) ?_; (case hd => rfl); (case hg => rfl); (case hr => first | (go_simp; done) | (go_simp; rfl)); (case hp => exact (Reps.c7 (show Kd.M k142 _ _ _ (⟨0, 0, 0, 1, (-1), wrap64 (a1_3 + x6_1), NRow.nil⟩ : S142) [.int .i64 0, .int .i64 0, .int .i64 0, .int .i64 1, .int .i64 (-1), .int .i64 (wrap64 (a1_3 + x6_1)), .slice none 0 0] from (k142_mkM _ _ _ (⟨0, 0, 0, 1, (-1), wrap64 (a1_3 + x6_1), NRow.nil⟩ : S142) )) (Reps.c7 (show Kd.M k142 _ _ _ (⟨4, 4, 4, 0, (-1), a1_1, NRow.nil⟩ : S142) [.int .i64 4, .int .i64 4, .int .i64 4, .int .i64 0, .int .i64 (-1), .int .i64 a1_1, .slice none 0 0] from (k142_mkM _ _ _ (⟨4, 4, 4, 0, (-1), a1_1, NRow.nil⟩ : S142) )) (Reps.none _ _))))
       intro v137 w18 ho19 hb hg_ hnew_
       clear hg_ hnew_
       (first | rw [← Ny136.out] at ho19 | (simp only [Int.reduceToNat] at ho19; rw [← Ny136.out] at ho19))
       have n0_ := Aside0.mk (Kd.R_elder' (xvr HO_5.out) (Kd.R_base ho19) hb)
       have n1_ := Aside0.mk (Kd.R_lower (Kd.R_new' ho19 (Kd.R_lt (xvr HO_5.out))) (below_size wv2))
       have n2_ := Aside0.mk (blk_below (g := B1) (o := .cells #[.int .i64 a1_0, .int .i64 a1_1, .int .i64 a1_2, .int .i64 a1_3, .int .i64 a1_4, .int .i64 a1_5] 25 (0, 0)) (xvb BK1.out) hb)
       have n3_ := Aside0.mk (below_step wv2 hb)
       clear HO_5
       clear BK1
       clear HB
       have HO_5 := n0_
       have HO138 := n1_
       have BK1 := n2_
       have HB := n3_
       clear n0_ n1_ n2_ n3_
       clear hb ho19
       obtain ⟨Ao21, co21, eo21⟩ := Kd.R_slice HO138.out
       (first | subst eo21 | (injection eo21 with f1_ f2_ f3_; have f4_ := f1_.symm; have f5_ := f3_.symm; clear f1_ f2_ f3_; subst f4_; subst f5_))
       refine hK.out _ _ ⟨xvc BK1.out, xvc BK1.out, xvc BK1.out, xvc BK1.out, xvc BK1.out, xvc BK1.out⟩ (fun hHeld => ?_)
       clear hK K
       refine norm_ (a' := ?_) ?_ ?_
       rotate_left
       ·show Act.put _ (some 49) _ = _
        simp only [Act.put, List.setIfInBounds_toArray, List.set_cons_zero, List.set_cons_succ, i64_w, i32_w]
        rfl
       refine one_ (i := 14) (N := some 50) (zv_.bm 16 32767) rfl rfl (one_of HT_.out (by kernel_rfl)) (by decide) (fun K hK => ?_)
       refine Kd.R_append_rows_step k142 (w0 := w) w.heap.size (by rfl) (.tmp 36) (.tmp 49) 87 142 (.agg #[(.int .i64 0), (.int .i64 0), (.int .i64 0), (.int .i64 0), (.int .i64 0), (.int .i64 0), (.slice none 0 0)]) 72 rfl Try.underlying87 info142 rfl (by decide) (by omega) u5 x5_1 y136 _ _ _ (fun k_ => some k_ ≠ (.slice Ao21 y136.length co21 : Value).ownBlock) (fun _ => False) rfl rfl ?aO ?aR (fun _ _ h => h) (fun _ h => h.elim) ?aF ?aB ?aS ?aL ?_
       (case aR => repeat (first | exact (Kd.R_reads' HO138.out).2.2 | (with_reducible refine Kd.C_alloc ?_ _) | (with_reducible refine Kd.C_drewN ?_ _) | (with_reducible refine Kd.C_drew ?_)))
       (case aB => exact wv2)
       (case aF => exact (fun k_ hk => Kd.fresh' (Kd.R_lt (xvr HO138.out)) k_ hk))
       (case aO => exact wv38)
       (case aS => exact (below_size wv2))
       (case aL => have := LMc15.out; omega)
       intro v140 w20 ho hb hg hat
       rw [← Ny139.out] at ho
       have n0_ := Aside0.mk (blk_grown (g := B1) (o := .cells #[.int .i64 a1_0, .int .i64 a1_1, .int .i64 a1_2, .int .i64 a1_3, .int .i64 a1_4, .int .i64 a1_5] 25 (0, 0)) (xvb BK1.out) hg (Kd.R_ne HO_5.out BK1.out (by decide)))
       have n1_ := Aside0.mk (Kd.R_after (ok := (fun _ => True)) (xvr HO138.out) hg hat)
       have n2_ := Aside0.mk (hb)
       have n3_ := Aside0.mk (ho)
       clear BK1
       clear HO138
       clear HB
       clear HO_5
       have BK1 := n0_
       have HO138 := n1_
       have HB := n2_
       have HO141 := n3_
       clear n0_ n1_ n2_ n3_
       clear ho hb hg hat
       refine hK.out _ _ ⟨xvc BK1.out, xvc BK1.out, xvc BK1.out, xvc BK1.out, xvc BK1.out, xvc BK1.out⟩ (fun hHeld => ?_)
       clear hK K
       refine norm_ (a' := ?_) ?_ ?_
       rotate_left
       ·show Act.put _ (some 50) _ = _
        simp only [Act.put, List.setIfInBounds_toArray, List.set_cons_zero, List.set_cons_succ, i64_w, i32_w]
        rfl
       refine zv_.pa (i := 15) (N := some 5) (zv_.bm 16 65535) HT_.out ?_
       refine done_ (done_of HT_.out (by kernel_rfl)) ?_
       try go_wp2
       go_roundg k1
       case measure => have := HK1.out; omega
       case rel => exact ⟨(y139), (wrap64 (x6_1 + a0)), wv6, H', ⟨wv60⟩, ⟨(by (with_reducible repeat (first | apply Kd.R_alloc | apply Kd.R_drewN | apply Kd.R_drew)); exact Kd.R_mono HO141.out (fun _ hk => trivial))⟩, ⟨(xvb BK1.out)⟩, ⟨wv2⟩⟩
      ·rw [if_neg c15] at H
       exact absurd H (by simp)
    ·rw [if_neg c10] at H
     have c10b0 : decide ((wrap64 (x6_1 + a0)) ≤ a1_5) = false := decide_eq_false c10
     clear c10
     by_cases c22 : x6_1 < a1_5
     ·rw [if_pos c22] at H
      have c22b0 : decide (x6_1 < a1_5) = true := decide_eq_true c22
      clear c22
      replace H := Option.bind_eq_some_iff.mp H
      obtain ⟨t142, A230, H⟩ := H
      replace H : (if x5_1.length + t142.length < 1954687338268 then ((some (x5_1 ++ t142 : List (S142))).bind fun y145 => (if x6_1 > 0 then ((some (([(⟨0, 0, 0, 1, 3, wrap64 (a1_3 + x6_1), NRow.nil⟩ : S142), (⟨4, 4, 4, 0, 3, a1_1, NRow.nil⟩ : S142)] : List (S142)) : List (S142))).bind fun y148 => (if y145.length + y148.length < 1954687338268 then ((some (y145 ++ y148 : List (S142))).bind fun y151 => (if y151.length < 1954687338268 then ((some (y151 ++ [(⟨10, 4, 4, 0, (-1), a1_1, NRow.nil⟩ : S142)] : List (S142))).bind fun y154 => ((spec_l09Mask.f 1).bind fun t157 => (if y154.length + t157.length < 1954687338268 then ((some (y154 ++ t157 : List (S142))).bind fun y160 => ((some (([(⟨0, 0, 0, 1, 3, a1_2, NRow.nil⟩ : S142), (⟨4, 0, 0, 4, 3, a1_1, NRow.nil⟩ : S142), (⟨1, 0, 0, 1, 3, a1_2, NRow.nil⟩ : S142)] : List (S142)) : List (S142))).bind fun y163 => (if y160.length + y163.length < 1954687338268 then (some (y160 ++ y163)) else (none)))) else (none)))) else (none))) else (none))) else (if y145.length < 1954687338268 then ((some (y145 ++ [(⟨0, 4, 0, 1, 3, a1_3, NRow.nil⟩ : S142)] : List (S142))).bind fun y169 => (if y169.length < 1954687338268 then ((some (y169 ++ [(⟨10, 4, 4, 0, 3, a1_1, NRow.nil⟩ : S142)] : List (S142))).bind fun y172 => ((spec_l09Mask.f 1).bind fun t175 => (if y172.length + t175.length < 1954687338268 then ((some (y172 ++ t175 : List (S142))).bind fun y178 => ((some (([(⟨0, 0, 0, 1, 3, a1_2, NRow.nil⟩ : S142), (⟨4, 0, 0, 4, 3, a1_1, NRow.nil⟩ : S142), (⟨1, 0, 0, 1, 3, a1_2, NRow.nil⟩ : S142)] : List (S142)) : List (S142))).bind fun y181 => (if y178.length + y181.length < 1954687338268 then (some (y178 ++ y181)) else (none)))) else (none)))) else (none))) else (none)))) else (none)) = some r := H
      have A23 := Aside0.mk A230
      clear A230
      by_cases c24 : x5_1.length + t142.length < 1954687338268
      ·rw [if_pos c24] at H
       have LMc24 := Aside0.mk c24
       clear c24
       obtain ⟨y145, hy145⟩ : ∃ y_ : List (S142), y_ = (x5_1 ++ t142) := ⟨_, rfl⟩
       replace H : (if x6_1 > 0 then ((some (([(⟨0, 0, 0, 1, 3, wrap64 (a1_3 + x6_1), NRow.nil⟩ : S142), (⟨4, 4, 4, 0, 3, a1_1, NRow.nil⟩ : S142)] : List (S142)) : List (S142))).bind fun y148 => (if y145.length + y148.length < 1954687338268 then ((some (y145 ++ y148 : List (S142))).bind fun y151 => (if y151.length < 1954687338268 then ((some (y151 ++ [(⟨10, 4, 4, 0, (-1), a1_1, NRow.nil⟩ : S142)] : List (S142))).bind fun y154 => ((spec_l09Mask.f 1).bind fun t157 => (if y154.length + t157.length < 1954687338268 then ((some (y154 ++ t157 : List (S142))).bind fun y160 => ((some (([(⟨0, 0, 0, 1, 3, a1_2, NRow.nil⟩ : S142), (⟨4, 0, 0, 4, 3, a1_1, NRow.nil⟩ : S142), (⟨1, 0, 0, 1, 3, a1_2, NRow.nil⟩ : S142)] : List (S142)) : List (S142))).bind fun y163 => (if y160.length + y163.length < 1954687338268 then (some (y160 ++ y163)) else (none)))) else (none)))) else (none))) else (none))) else (if y145.length < 1954687338268 then ((some (y145 ++ [(⟨0, 4, 0, 1, 3, a1_3, NRow.nil⟩ : S142)] : List (S142))).bind fun y169 => (if y169.length < 1954687338268 then ((some (y169 ++ [(⟨10, 4, 4, 0, 3, a1_1, NRow.nil⟩ : S142)] : List (S142))).bind fun y172 => ((spec_l09Mask.f 1).bind fun t175 => (if y172.length + t175.length < 1954687338268 then ((some (y172 ++ t175 : List (S142))).bind fun y178 => ((some (([(⟨0, 0, 0, 1, 3, a1_2, NRow.nil⟩ : S142), (⟨4, 0, 0, 4, 3, a1_1, NRow.nil⟩ : S142), (⟨1, 0, 0, 1, 3, a1_2, NRow.nil⟩ : S142)] : List (S142)) : List (S142))).bind fun y181 => (if y178.length + y181.length < 1954687338268 then (some (y178 ++ y181)) else (none)))) else (none)))) else (none))) else (none))) = some r := by first | (rw [hy145]; with_reducible exact H) | (have H2_ := (Option.bind_some _ _).symm.trans H; rw [hy145]; with_reducible exact H2_) | (have H2_ := (Option.bind_some _ _).symm.trans H; with_reducible exact H2_) | with_reducible exact H | (rw [hy145]; exact H) | exact H
       have Ny145 := Aside0.mk hy145
       clear hy145
       by_cases c25 : x6_1 > 0
       ·rw [if_pos c25] at H
        have c25b0 : decide (0 < x6_1) = true := decide_eq_true c25
        clear c25
        obtain ⟨y148, hy148⟩ : ∃ y_ : List (S142), y_ = (([(⟨0, 0, 0, 1, 3, wrap64 (a1_3 + x6_1), NRow.nil⟩ : S142), (⟨4, 4, 4, 0, 3, a1_1, NRow.nil⟩ : S142)] : List (S142))) := ⟨_, rfl⟩
        replace H : (if y145.length + y148.length < 1954687338268 then ((some (y145 ++ y148 : List (S142))).bind fun y151 => (if y151.length < 1954687338268 then ((some (y151 ++ [(⟨10, 4, 4, 0, (-1), a1_1, NRow.nil⟩ : S142)] : List (S142))).bind fun y154 => ((spec_l09Mask.f 1).bind fun t157 => (if y154.length + t157.length < 1954687338268 then ((some (y154 ++ t157 : List (S142))).bind fun y160 => ((some (([(⟨0, 0, 0, 1, 3, a1_2, NRow.nil⟩ : S142), (⟨4, 0, 0, 4, 3, a1_1, NRow.nil⟩ : S142), (⟨1, 0, 0, 1, 3, a1_2, NRow.nil⟩ : S142)] : List (S142)) : List (S142))).bind fun y163 => (if y160.length + y163.length < 1954687338268 then (some (y160 ++ y163)) else (none)))) else (none)))) else (none))) else (none)) = some r := by first | (rw [hy148]; with_reducible exact H) | (have H2_ := (Option.bind_some _ _).symm.trans H; rw [hy148]; with_reducible exact H2_) | (have H2_ := (Option.bind_some _ _).symm.trans H; with_reducible exact H2_) | with_reducible exact H | (rw [hy148]; exact H) | exact H
        have Ny148 := Aside0.mk hy148
        clear hy148
        by_cases c26 : y145.length + y148.length < 1954687338268
        ·rw [if_pos c26] at H
         have LMc26 := Aside0.mk c26
         clear c26
         obtain ⟨y151, hy151⟩ : ∃ y_ : List (S142), y_ = (y145 ++ y148) := ⟨_, rfl⟩
         replace H : (if y151.length < 1954687338268 then ((some (y151 ++ [(⟨10, 4, 4, 0, (-1), a1_1, NRow.nil⟩ : S142)] : List (S142))).bind fun y154 => ((spec_l09Mask.f 1).bind fun t157 => (if y154.length + t157.length < 1954687338268 then ((some (y154 ++ t157 : List (S142))).bind fun y160 => ((some (([(⟨0, 0, 0, 1, 3, a1_2, NRow.nil⟩ : S142), (⟨4, 0, 0, 4, 3, a1_1, NRow.nil⟩ : S142), (⟨1, 0, 0, 1, 3, a1_2, NRow.nil⟩ : S142)] : List (S142)) : List (S142))).bind fun y163 => (if y160.length + y163.length < 1954687338268 then (some (y160 ++ y163)) else (none)))) else (none)))) else (none)) = some r := by first | (rw [hy151]; with_reducible exact H) | (have H2_ := (Option.bind_some _ _).symm.trans H; rw [hy151]; with_reducible exact H2_) | (have H2_ := (Option.bind_some _ _).symm.trans H; with_reducible exact H2_) | with_reducible exact H | (rw [hy151]; exact H) | exact H
         have Ny151 := Aside0.mk hy151
         clear hy151
         by_cases c27 : y151.length < 1954687338268
         ·rw [if_pos c27] at H
          have LMc27 := Aside0.mk c27
          clear c27
          obtain ⟨y154, hy154⟩ : ∃ y_ : List (S142), y_ = (y151 ++ [(⟨10, 4, 4, 0, (-1), a1_1, NRow.nil⟩ : S142)]) := ⟨_, rfl⟩
          replace H : ((spec_l09Mask.f 1).bind fun t157 => (if y154.length + t157.length < 1954687338268 then ((some (y154 ++ t157 : List (S142))).bind fun y160 => ((some (([(⟨0, 0, 0, 1, 3, a1_2, NRow.nil⟩ : S142), (⟨4, 0, 0, 4, 3, a1_1, NRow.nil⟩ : S142), (⟨1, 0, 0, 1, 3, a1_2, NRow.nil⟩ : S142)] : List (S142)) : List (S142))).bind fun y163 => (if y160.length + y163.length < 1954687338268 then (some (y160 ++ y163)) else (none)))) else (none))) = some r := by first | (rw [hy154]; with_reducible exact H) | (have H2_ := (Option.bind_some _ _).symm.trans H; rw [hy154]; with_reducible exact H2_) | (have H2_ := (Option.bind_some _ _).symm.trans H; with_reducible exact H2_) | with_reducible exact H | (rw [hy154]; exact H) | exact H
          have Ny154 := Aside0.mk hy154
          clear hy154
          replace H := Option.bind_eq_some_iff.mp H
          obtain ⟨t157, A280, H⟩ := H
          replace H : (if y154.length + t157.length < 1954687338268 then ((some (y154 ++ t157 : List (S142))).bind fun y160 => ((some (([(⟨0, 0, 0, 1, 3, a1_2, NRow.nil⟩ : S142), (⟨4, 0, 0, 4, 3, a1_1, NRow.nil⟩ : S142), (⟨1, 0, 0, 1, 3, a1_2, NRow.nil⟩ : S142)] : List (S142)) : List (S142))).bind fun y163 => (if y160.length + y163.length < 1954687338268 then (some (y160 ++ y163)) else (none)))) else (none)) = some r := H
          have A28 := Aside0.mk A280
          clear A280
          by_cases c29 : y154.length + t157.length < 1954687338268
          ·rw [if_pos c29] at H
           have LMc29 := Aside0.mk c29
           clear c29
           obtain ⟨y160, hy160⟩ : ∃ y_ : List (S142), y_ = (y154 ++ t157) := ⟨_, rfl⟩
           replace H : ((some (([(⟨0, 0, 0, 1, 3, a1_2, NRow.nil⟩ : S142), (⟨4, 0, 0, 4, 3, a1_1, NRow.nil⟩ : S142), (⟨1, 0, 0, 1, 3, a1_2, NRow.nil⟩ : S142)] : List (S142)) : List (S142))).bind fun y163 => (if y160.length + y163.length < 1954687338268 then (some (y160 ++ y163)) else (none))) = some r := by first | (rw [hy160]; with_reducible exact H) | (have H2_ := (Option.bind_some _ _).symm.trans H; rw [hy160]; with_reducible exact H2_) | (have H2_ := (Option.bind_some _ _).symm.trans H; with_reducible exact H2_) | with_reducible exact H | (rw [hy160]; exact H) | exact H
           have Ny160 := Aside0.mk hy160
           clear hy160
           obtain ⟨y163, hy163⟩ : ∃ y_ : List (S142), y_ = (([(⟨0, 0, 0, 1, 3, a1_2, NRow.nil⟩ : S142), (⟨4, 0, 0, 4, 3, a1_1, NRow.nil⟩ : S142), (⟨1, 0, 0, 1, 3, a1_2, NRow.nil⟩ : S142)] : List (S142))) := ⟨_, rfl⟩
           replace H : (if y160.length + y163.length < 1954687338268 then (some (y160 ++ y163)) else (none)) = some r := by first | (rw [hy163]; with_reducible exact H) | (have H2_ := (Option.bind_some _ _).symm.trans H; rw [hy163]; with_reducible exact H2_) | (have H2_ := (Option.bind_some _ _).symm.trans H; with_reducible exact H2_) | with_reducible exact H | (rw [hy163]; exact H) | exact H
           have Ny163 := Aside0.mk hy163
           clear hy163
           by_cases c30 : y160.length + y163.length < 1954687338268
           ·rw [if_pos c30] at H
            have LMc30 := Aside0.mk c30
            clear c30
            obtain ⟨y166, hy166⟩ : ∃ y_ : List (S142), y_ = (y160 ++ y163) := ⟨_, rfl⟩
            replace H : (some y166) = some r := by first | (rw [hy166]; with_reducible exact H) | (have H2_ := (Option.bind_some _ _).symm.trans H; rw [hy166]; with_reducible exact H2_) | (have H2_ := (Option.bind_some _ _).symm.trans H; with_reducible exact H2_) | with_reducible exact H | (rw [hy166]; exact H) | exact H
            have Ny166 := Aside0.mk hy166
            clear hy166
            obtain rfl := Option.some.inj H
            have hcz31_0 : wr.cell? ⟨B1, 0, none⟩ = some (.int .i64 a1_0) := xvc BK1.out
            have hcz31_1 : wr.cell? ⟨B1, 1, none⟩ = some (.int .i64 a1_1) := xvc BK1.out
            have hcz31_2 : wr.cell? ⟨B1, 2, none⟩ = some (.int .i64 a1_2) := xvc BK1.out
            have hcz31_3 : wr.cell? ⟨B1, 3, none⟩ = some (.int .i64 a1_3) := xvc BK1.out
            have hcz31_4 : wr.cell? ⟨B1, 4, none⟩ = some (.int .i64 a1_4) := xvc BK1.out
            have hcz31_5 : wr.cell? ⟨B1, 5, none⟩ = some (.int .i64 a1_5) := xvc BK1.out
            have hfz31_0 := blk_frozen BK1.out 0
            have hfz31_1 := blk_frozen BK1.out 1
            have hfz31_2 := blk_frozen BK1.out 2
            have hfz31_3 := blk_frozen BK1.out 3
            have hfz31_4 := blk_frozen BK1.out 4
            have hfz31_5 := blk_frozen BK1.out 5
            try go_wp2_with (first | ((with_reducible refine gate_callee (f := 184) rfl ?_); refine goesL_ (some 64) rfl rfl Try.func184 (by kernel_rfl) rfl #[.int .i64 (wrap64 (a1_5 - x6_1))] rfl wv1 ?_; (with_reducible refine (spec_l09Mask.calls (wrap64 (a1_5 - x6_1)) t142 _ A23.out).mono ?_); rintro e w32 ⟨v143, rfl, ho0, hb⟩; refine ⟨_, rfl, ?_⟩; have n0_ := Aside0.mk (Kd.R_elder' (xvr HO_5.out) (Kd.R_base ho0) hb); have n1_ := Aside0.mk (Kd.R_lower (Kd.R_new' ho0 (Kd.R_lt (xvr HO_5.out))) (below_size wv2)); have n2_ := Aside0.mk (blk_below (g := B1) (o := .cells #[.int .i64 a1_0, .int .i64 a1_1, .int .i64 a1_2, .int .i64 a1_3, .int .i64 a1_4, .int .i64 a1_5] 25 (0, 0)) (xvb BK1.out) hb); have n3_ := Aside0.mk (below_step wv2 hb); clear HO_5; clear BK1; clear HB; have HO_5 := n0_; have HO144 := n1_; have BK1 := n2_; have HB := n3_; clear n0_ n1_ n2_ n3_; (try clear hb); (try clear hb2); (try clear hk); (try clear hi); (try clear ho0); obtain ⟨Ao34, co34, eo34⟩ := Kd.R_slice HO144.out; subst eo34) | ((with_reducible refine gate_builtin (b := .append) (xs := #[.tmp 57, .tmp 64]) rfl ?_); at_builtin; refine Kd.R_append_rows k142 (w0 := w) w.heap.size rfl (.tmp 57) (.tmp 64) 87 142 (.agg #[(.int .i64 0), (.int .i64 0), (.int .i64 0), (.int .i64 0), (.int .i64 0), (.int .i64 0), (.slice none 0 0)]) 72 rfl Try.underlying87 info142 rfl (by decide) (by omega) u5 x5_1 t142 _ _ _ (fun k_ => some k_ ≠ (.slice Ao34 t142.length co34 : Value).ownBlock) (fun _ => False) rfl rfl ?aO ?aR (fun _ _ h => h) (fun _ h => h.elim) ?aF ?aB ?aS ?aL ?_; (case aR => repeat (first | exact (Kd.R_reads' HO144.out).2.2 | (with_reducible refine Kd.C_alloc ?_ _) | (with_reducible refine Kd.C_drewN ?_ _) | (with_reducible refine Kd.C_drew ?_))); (case aB => exact wv2); (case aF => exact (fun k_ hk => Kd.fresh' (Kd.R_lt (xvr HO144.out)) k_ hk)); (case aO => exact wv38); (case aS => exact (below_size wv2)); (case aL => have := LMc24.out; omega); intro v146 w33 ho hb hg hat; rw [← Ny145.out] at ho; have n0_ := Aside0.mk (blk_grown (g := B1) (o := .cells #[.int .i64 a1_0, .int .i64 a1_1, .int .i64 a1_2, .int .i64 a1_3, .int .i64 a1_4, .int .i64 a1_5] 25 (0, 0)) (xvb BK1.out) hg (Kd.R_ne HO_5.out BK1.out (by decide))); have n1_ := Aside0.mk (Kd.R_after (ok := (fun _ => True)) (xvr HO144.out) hg hat); have n2_ := Aside0.mk (hb); have n3_ := Aside0.mk (ho); clear BK1; clear HO144; clear HB; clear HO_5; have BK1 := n0_; have HO144 := n1_; have HB := n2_; have HO147 := n3_; clear n0_ n1_ n2_ n3_; clear ho hb hg hat))
            have n0_ := Aside0.mk (Kd.R_drew HO144.out)
            have n1_ := Aside0.mk (Kd.R_drew HO147.out)
            have n2_ := Aside0.mk (blk_drew BK1.out)
            have n3_ := Aside0.mk (below_drew1 HB.out)
            clear HO144
            clear HO147
            clear BK1
            clear HB
            have HO144 := n0_
            have HO147 := n1_
            have BK1 := n2_
            have HB := n3_
            clear n0_ n1_ n2_ n3_
            refine start_ (n := 16) (S := fun w' => w'.cell? ⟨B1, 0, none⟩ = some (.int .i64 a1_0) ∧ w'.cell? ⟨B1, 1, none⟩ = some (.int .i64 a1_1) ∧ w'.cell? ⟨B1, 2, none⟩ = some (.int .i64 a1_2) ∧ w'.cell? ⟨B1, 3, none⟩ = some (.int .i64 a1_3) ∧ w'.cell? ⟨B1, 4, none⟩ = some (.int .i64 a1_4) ∧ w'.cell? ⟨B1, 5, none⟩ = some (.int .i64 a1_5)) (ds := []) (zv_.bm 16 0) (by kernel_rfl) rfl rfl ⟨xvc BK1.out, xvc BK1.out, xvc BK1.out, xvc BK1.out, xvc BK1.out, xvc BK1.out⟩ (fun hHeld => ?_); refine with_tabW spec_l09Fold.tab14 spec_l09Fold.bits14 (fun HT_ HW_ => ?_)
            generalize w33.drew = w35 at HO144 HO147 BK1 HB hHeld ⊢
            refine zv_.pa (i := 0) (N := some 68) (zv_.bm 16 1) HT_.out ?_
            refine zv_.pa (i := 1) (N := some 69) (zv_.bm 16 3) HT_.out ?_
            refine zv_.pa (i := 2) (N := some 70) (zv_.bm 16 7) HT_.out ?_
            refine zv_.pa (i := 3) (N := some 71) (zv_.bm 16 15) HT_.out ?_
            refine zv_.pa (i := 5) (N := some 73) (zv_.bm 16 47) HT_.out ?_
            refine zv_.pa (i := 8) (N := some 76) (zv_.bm 16 303) HT_.out ?_
            refine zv_.pa (i := 9) (N := some 77) (zv_.bm 16 815) HT_.out ?_
            refine zv_.pa (i := 10) (N := some 78) (zv_.bm 16 1839) HT_.out ?_
            refine zv_.ta (i := 4) (N := some 72) (zv_.bm 16 1855) rfl (take_ofW HT_.out HW_.out (by kernel_rfl)) (Or.inl ⟨(by rfl), wv13⟩) hHeld ?_
            refine zv_.pa (i := 6) (N := some 74) (zv_.bm 16 1919) HT_.out ?_
            refine zv_.pa (i := 7) (N := some 75) (zv_.bm 16 2047) HT_.out ?_
            refine zv_.ta (i := 11) (N := some 79) (zv_.bm 16 4095) rfl (take_ofW HT_.out HW_.out (by kernel_rfl)) (Or.inl ⟨(by rfl), wv13⟩) hHeld ?_
            refine zv_.pa (i := 12) (N := some 80) (zv_.bm 16 8191) HT_.out ?_
            refine one_ (i := 13) (N := some 81) (zv_.bm 16 16383) rfl rfl (one_of HT_.out (by kernel_rfl)) (by decide) (fun K hK => ?_)
            refine Kd.R_lit_step k142 _ 142 ?hg (N := 81) ?hd (xs := ([(⟨0, 0, 0, 1, 3, wrap64 (a1_3 + x6_1), NRow.nil⟩ : S142), (⟨4, 4, 4, 0, 3, a1_1, NRow.nil⟩ : S142)] : List (S142))) (inner := [.int .i64 0, .int .i64 0, .int .i64 0, .int .i64 1, .int .i64 3, .int .i64 (wrap64 (a1_3 + x6_1)), .slice none 0 0, .int .i64 4, .int .i64 4, .int .i64 4, .int .i64 0, .int .i64 3, .int .i64 a1_1, .slice none 0 0]) (ok := fun _ => True) (okp := fun _ => True) ?hr ?hp (fun _ hk => hk) trivial (Below.refl _ _) (Nat.le_refl _) (by simp) ?_; (case hd => rfl); (case hg => rfl); (case hr => first | (go_simp; done) | (go_simp; rfl)); (case hp => exact (Reps.c7 (show Kd.M k142 _ _ _ (⟨0, 0, 0, 1, 3, wrap64 (a1_3 + x6_1), NRow.nil⟩ : S142) [.int .i64 0, .int .i64 0, .int .i64 0, .int .i64 1, .int .i64 3, .int .i64 (wrap64 (a1_3 + x6_1)), .slice none 0 0] from (k142_mkM _ _ _ (⟨0, 0, 0, 1, 3, wrap64 (a1_3 + x6_1), NRow.nil⟩ : S142) )) (Reps.c7 (show Kd.M k142 _ _ _ (⟨4, 4, 4, 0, 3, a1_1, NRow.nil⟩ : S142) [.int .i64 4, .int .i64 4, .int .i64 4, .int .i64 0, .int .i64 3, .int .i64 a1_1, .slice none 0 0] from (k142_mkM _ _ _ (⟨4, 4, 4, 0, 3, a1_1, NRow.nil⟩ : S142) )) (Reps.none _ _))))
            intro v149 w36 ho37 hb hg_ hnew_
            clear hg_ hnew_
            (first | rw [← Ny148.out] at ho37 | (simp only [Int.reduceToNat] at ho37; rw [← Ny148.out] at ho37))
            have n0_ := Aside0.mk (Kd.R_elder' (xvr HO144.out) (Kd.R_base ho37) hb)
            have n1_ := Aside0.mk (Kd.R_elder' (xvr HO147.out) (Kd.R_base ho37) hb)
            have n2_ := Aside0.mk (Kd.R_lower (Kd.R_new' (Kd.R_new' ho37 (Kd.R_lt (xvr HO144.out))) (Kd.R_lt (xvr HO147.out))) (below_size wv2))
            have n3_ := Aside0.mk (blk_below (g := B1) (o := .cells #[.int .i64 a1_0, .int .i64 a1_1, .int .i64 a1_2, .int .i64 a1_3, .int .i64 a1_4, .int .i64 a1_5] 25 (0, 0)) (xvb BK1.out) hb)
            have n4_ := Aside0.mk (below_step wv2 hb)
            clear HO144
            clear HO147
            clear BK1
            clear HB
            have HO144 := n0_
            have HO147 := n1_
            have HO150 := n2_
            have BK1 := n3_
            have HB := n4_
            clear n0_ n1_ n2_ n3_ n4_
            clear hb ho37
            obtain ⟨Ao39, co39, eo39⟩ := Kd.R_slice HO150.out
            (first | subst eo39 | (injection eo39 with f1_ f2_ f3_; have f4_ := f1_.symm; have f5_ := f3_.symm; clear f1_ f2_ f3_; subst f4_; subst f5_))
            refine hK.out _ _ ⟨xvc BK1.out, xvc BK1.out, xvc BK1.out, xvc BK1.out, xvc BK1.out, xvc BK1.out⟩ (fun hHeld => ?_)
            clear hK K
            refine norm_ (a' := ?_) ?_ ?_
            rotate_left
            ·show Act.put _ (some 81) _ = _
             simp only [Act.put, List.setIfInBounds_toArray, List.set_cons_zero, List.set_cons_succ, i64_w, i32_w]
             rfl
            refine one_ (i := 14) (N := some 82) (zv_.bm 16 32767) rfl rfl (one_of HT_.out (by kernel_rfl)) (by decide) (fun K hK => ?_)
            refine Kd.R_append_rows_step k142 (w0 := w) w.heap.size (by rfl) (.tmp 68) (.tmp 81) 87 142 (.agg #[(.int .i64 0), (.int .i64 0), (.int .i64 0), (.int .i64 0), (.int .i64 0), (.int .i64 0), (.slice none 0 0)]) 72 rfl Try.underlying87 info142 rfl (by decide) (by omega) v146 y145 y148 _ _ _ (fun k_ => some k_ ≠ (.slice Ao34 t142.length co34 : Value).ownBlock ∧ some k_ ≠ (.slice Ao39 y148.length co39 : Value).ownBlock) (fun _ => False) rfl rfl ?aO ?aR (fun _ _ h => h) (fun _ h => h.elim) ?aF ?aB ?aS ?aL ?_
            (case aR => repeat (first | exact (Kd.R_reads' HO150.out).2.2 | (with_reducible refine Kd.C_alloc ?_ _) | (with_reducible refine Kd.C_drewN ?_ _) | (with_reducible refine Kd.C_drew ?_)))
            (case aB => exact wv2)
            (case aF => exact (fun k_ hk => ⟨Kd.fresh' (Kd.R_lt (xvr HO144.out)) k_ hk, Kd.fresh' (Kd.R_lt (xvr HO150.out)) k_ hk⟩))
            (case aO => exact (xvr HO147.out))
            (case aS => exact (below_size wv2))
            (case aL => have := LMc26.out; omega)
            intro v152 w38 ho hb hg hat
            rw [← Ny151.out] at ho
            have n0_ := Aside0.mk (blk_grown (g := B1) (o := .cells #[.int .i64 a1_0, .int .i64 a1_1, .int .i64 a1_2, .int .i64 a1_3, .int .i64 a1_4, .int .i64 a1_5] 25 (0, 0)) (xvb BK1.out) hg (Kd.R_ne HO147.out BK1.out (by decide)))
            have n1_ := Aside0.mk (Kd.R_after (ok := (fun k_ => some k_ ≠ (.slice Ao39 y148.length co39 : Value).ownBlock)) (by (with_reducible repeat (first | apply Kd.R_alloc | apply Kd.R_drewN | apply Kd.R_drew)); exact Kd.R_mono HO144.out (fun _ hk => ⟨hk.2, hk.1.2⟩)) hg hat)
            have n2_ := Aside0.mk (Kd.R_after (ok := (fun k_ => some k_ ≠ (.slice Ao34 t142.length co34 : Value).ownBlock)) (by (with_reducible repeat (first | apply Kd.R_alloc | apply Kd.R_drewN | apply Kd.R_drew)); exact Kd.R_mono HO150.out (fun _ hk => ⟨hk.1.2, hk.2⟩)) hg hat)
            have n3_ := Aside0.mk (hb)
            have n4_ := Aside0.mk (ho)
            clear BK1
            clear HO144
            clear HO150
            clear HB
            clear HO147
            have BK1 := n0_
            have HO144 := n1_
            have HO150 := n2_
            have HB := n3_
            have HO153 := n4_
            clear n0_ n1_ n2_ n3_ n4_
            clear ho hb hg hat
            refine hK.out _ _ ⟨xvc BK1.out, xvc BK1.out, xvc BK1.out, xvc BK1.out, xvc BK1.out, xvc BK1.out⟩ (fun hHeld => ?_)
            clear hK K
            refine norm_ (a' := ?_) ?_ ?_
            rotate_left
            ·show Act.put _ (some 82) _ = _
             simp only [Act.put, List.setIfInBounds_toArray, List.set_cons_zero, List.set_cons_succ, i64_w, i32_w]
             rfl
            refine zv_.pa (i := 15) (N := some 5) (zv_.bm 16 65535) HT_.out ?_
            refine done_ (done_of HT_.out (by kernel_rfl)) ?_
            have hcz40_0 : w38.cell? ⟨B1, 0, none⟩ = some (.int .i64 a1_0) := xvc BK1.out
            have hcz40_1 : w38.cell? ⟨B1, 1, none⟩ = some (.int .i64 a1_1) := xvc BK1.out
            have hcz40_2 : w38.cell? ⟨B1, 2, none⟩ = some (.int .i64 a1_2) := xvc BK1.out
            have hcz40_3 : w38.cell? ⟨B1, 3, none⟩ = some (.int .i64 a1_3) := xvc BK1.out
            have hcz40_4 : w38.cell? ⟨B1, 4, none⟩ = some (.int .i64 a1_4) := xvc BK1.out
            have hcz40_5 : w38.cell? ⟨B1, 5, none⟩ = some (.int .i64 a1_5) := xvc BK1.out
            have hfz40_0 := blk_frozen BK1.out 0
            have hfz40_1 := blk_frozen BK1.out 1
            have hfz40_2 := blk_frozen BK1.out 2
            have hfz40_3 := blk_frozen BK1.out 3
            have hfz40_4 := blk_frozen BK1.out 4
            have hfz40_5 := blk_frozen BK1.out 5
            try go_wp2_with (first | ((with_reducible refine gate_builtin (b := .append) (xs := #[.tmp 91, .tmp 98]) rfl ?_); at_builtin; refine Kd.R_append k142 (w0 := w) w.heap.size rfl (.tmp 91) (.tmp 98) 87 142 (.agg #[(.int .i64 0), (.int .i64 0), (.int .i64 0), (.int .i64 0), (.int .i64 0), (.int .i64 0), (.slice none 0 0)]) 72 rfl Try.underlying87 info142 rfl (by decide) (by omega) v152 y151 (⟨10, 4, 4, 0, (-1), a1_1, NRow.nil⟩ : S142) [.int .i64 10, .int .i64 4, .int .i64 4, .int .i64 0, .int .i64 (-1), .int .i64 a1_1, .slice none 0 0] (fun k_ => some k_ ≠ (.slice Ao34 t142.length co34 : Value).ownBlock ∧ some k_ ≠ (.slice Ao39 y148.length co39 : Value).ownBlock) (fun _ => False) rfl rfl ?aP (fun _ hk => hk.elim) ?aF ?aO ?aB ?aS ?aL ?_; (case aP => exact k142_mkM _ _ _ (⟨10, 4, 4, 0, (-1), a1_1, NRow.nil⟩ : S142)); (case aB => exact wv2); (case aF => exact (fun k_ hk => ⟨Kd.fresh' (Kd.R_lt (xvr HO144.out)) k_ hk, Kd.fresh' (Kd.R_lt (xvr HO150.out)) k_ hk⟩)); (case aO => exact (xvr HO153.out)); (case aS => exact (below_size wv2)); (case aL => have := LMc27.out; omega); intro v155 w41 ho hb hg hat; rw [← Ny154.out] at ho; have n0_ := Aside0.mk (blk_grown (g := B1) (o := .cells #[.int .i64 a1_0, .int .i64 a1_1, .int .i64 a1_2, .int .i64 a1_3, .int .i64 a1_4, .int .i64 a1_5] 25 (0, 0)) (xvb BK1.out) hg (Kd.R_ne HO153.out BK1.out (by decide))); have n1_ := Aside0.mk (Kd.R_after (ok := (fun k_ => some k_ ≠ (.slice Ao39 y148.length co39 : Value).ownBlock)) (xvr HO144.out) hg hat); have n2_ := Aside0.mk (Kd.R_after (ok := (fun k_ => some k_ ≠ (.slice Ao34 t142.length co34 : Value).ownBlock)) (xvr HO150.out) hg hat); have n3_ := Aside0.mk (hb); have n4_ := Aside0.mk (ho); clear BK1; clear HO144; clear HO150; clear HB; clear HO153; have BK1 := n0_; have HO144 := n1_; have HO150 := n2_; have HB := n3_; have HO156 := n4_; clear n0_ n1_ n2_ n3_ n4_; clear ho hb hg hat) | ((with_reducible refine gate_callee (f := 184) rfl ?_); refine goesL_ (some 101) rfl rfl Try.func184 (by kernel_rfl) rfl #[.int .i64 1] rfl wv1 ?_; (with_reducible refine (spec_l09Mask.calls 1 t157 _ A28.out).mono ?_); rintro e w42 ⟨v158, rfl, ho0, hb⟩; refine ⟨_, rfl, ?_⟩; have n0_ := Aside0.mk (Kd.R_elder' (xvr HO144.out) (Kd.R_base ho0) hb); have n1_ := Aside0.mk (Kd.R_elder' (xvr HO150.out) (Kd.R_base ho0) hb); have n2_ := Aside0.mk (Kd.R_elder' (xvr HO156.out) (Kd.R_base ho0) hb); have n3_ := Aside0.mk (Kd.R_lower (Kd.R_new' (Kd.R_new' (Kd.R_new' ho0 (Kd.R_lt (xvr HO144.out))) (Kd.R_lt (xvr HO150.out))) (Kd.R_lt (xvr HO156.out))) (below_size wv2)); have n4_ := Aside0.mk (blk_below (g := B1) (o := .cells #[.int .i64 a1_0, .int .i64 a1_1, .int .i64 a1_2, .int .i64 a1_3, .int .i64 a1_4, .int .i64 a1_5] 25 (0, 0)) (xvb BK1.out) hb); have n5_ := Aside0.mk (below_step wv2 hb); clear HO144; clear HO150; clear HO156; clear BK1; clear HB; have HO144 := n0_; have HO150 := n1_; have HO156 := n2_; have HO159 := n3_; have BK1 := n4_; have HB := n5_; clear n0_ n1_ n2_ n3_ n4_ n5_; (try clear hb); (try clear hb2); (try clear hk); (try clear hi); (try clear ho0); obtain ⟨Ao44, co44, eo44⟩ := Kd.R_slice HO159.out; subst eo44) | ((with_reducible refine gate_builtin (b := .append) (xs := #[.tmp 100, .tmp 101]) rfl ?_); at_builtin; refine Kd.R_append_rows k142 (w0 := w) w.heap.size rfl (.tmp 100) (.tmp 101) 87 142 (.agg #[(.int .i64 0), (.int .i64 0), (.int .i64 0), (.int .i64 0), (.int .i64 0), (.int .i64 0), (.slice none 0 0)]) 72 rfl Try.underlying87 info142 rfl (by decide) (by omega) v155 y154 t157 _ _ _ (fun k_ => some k_ ≠ (.slice Ao34 t142.length co34 : Value).ownBlock ∧ some k_ ≠ (.slice Ao39 y148.length co39 : Value).ownBlock ∧ some k_ ≠ (.slice Ao44 t157.length co44 : Value).ownBlock) (fun _ => False) rfl rfl ?aO ?aR (fun _ _ h => h) (fun _ h => h.elim) ?aF ?aB ?aS ?aL ?_; (case aR => repeat (first | exact (Kd.R_reads' HO159.out).2.2 | (with_reducible refine Kd.C_alloc ?_ _) | (with_reducible refine Kd.C_drewN ?_ _) | (with_reducible refine Kd.C_drew ?_))); (case aB => exact wv2); (case aF => exact (fun k_ hk => ⟨Kd.fresh' (Kd.R_lt (xvr HO144.out)) k_ hk, Kd.fresh' (Kd.R_lt (xvr HO150.out)) k_ hk, Kd.fresh' (Kd.R_lt (xvr HO159.out)) k_ hk⟩)); (case aO => exact (by (with_reducible repeat (first | apply Kd.R_alloc | apply Kd.R_drewN | apply Kd.R_drew)); exact Kd.R_mono HO156.out (fun _ hk => ⟨hk.1.1, ⟨hk.1.2, hk.2⟩⟩))); (case aS => exact (below_size wv2)); (case aL => have := LMc29.out; omega); intro v161 w43 ho hb hg hat; rw [← Ny160.out] at ho; have n0_ := Aside0.mk (blk_grown (g := B1) (o := .cells #[.int .i64 a1_0, .int .i64 a1_1, .int .i64 a1_2, .int .i64 a1_3, .int .i64 a1_4, .int .i64 a1_5] 25 (0, 0)) (xvb BK1.out) hg (Kd.R_ne HO156.out BK1.out (by decide))); have n1_ := Aside0.mk (Kd.R_after (ok := (fun k_ => some k_ ≠ (.slice Ao39 y148.length co39 : Value).ownBlock ∧ some k_ ≠ (.slice Ao44 t157.length co44 : Value).ownBlock)) (by (with_reducible repeat (first | apply Kd.R_alloc | apply Kd.R_drewN | apply Kd.R_drew)); exact Kd.R_mono HO144.out (fun _ hk => ⟨⟨hk.1.1, hk.2⟩, hk.1.2⟩)) hg hat); have n2_ := Aside0.mk (Kd.R_after (ok := (fun k_ => some k_ ≠ (.slice Ao34 t142.length co34 : Value).ownBlock ∧ some k_ ≠ (.slice Ao44 t157.length co44 : Value).ownBlock)) (by (with_reducible repeat (first | apply Kd.R_alloc | apply Kd.R_drewN | apply Kd.R_drew)); exact Kd.R_mono HO150.out (fun _ hk => ⟨⟨hk.1.1, hk.2⟩, hk.1.2⟩)) hg hat); have n3_ := Aside0.mk (Kd.R_after (ok := (fun k_ => some k_ ≠ (.slice Ao34 t142.length co34 : Value).ownBlock ∧ some k_ ≠ (.slice Ao39 y148.length co39 : Value).ownBlock)) (by (with_reducible repeat (first | apply Kd.R_alloc | apply Kd.R_drewN | apply Kd.R_drew)); exact Kd.R_mono HO159.out (fun _ hk => ⟨⟨hk.1.1.2, hk.1.2⟩, hk.2⟩)) hg hat); have n4_ := Aside0.mk (hb); have n5_ := Aside0.mk (ho); clear BK1; clear HO144; clear HO150; clear HO159; clear HB; clear HO156; have BK1 := n0_; have HO144 := n1_; have HO150 := n2_; have HO159 := n3_; have HB := n4_; have HO162 := n5_; clear n0_ n1_ n2_ n3_ n4_ n5_; clear ho hb hg hat))
            have n0_ := Aside0.mk (Kd.R_drew HO144.out)
            have n1_ := Aside0.mk (Kd.R_drew HO150.out)
            have n2_ := Aside0.mk (Kd.R_drew HO159.out)
            have n3_ := Aside0.mk (Kd.R_drew HO162.out)
            have n4_ := Aside0.mk (blk_drew BK1.out)
            have n5_ := Aside0.mk (below_drew1 HB.out)
            clear HO144
            clear HO150
            clear HO159
            clear HO162
            clear BK1
            clear HB
            have HO144 := n0_
            have HO150 := n1_
            have HO159 := n2_
            have HO162 := n3_
            have BK1 := n4_
            have HB := n5_
            clear n0_ n1_ n2_ n3_ n4_ n5_
            refine start_ (n := 19) (S := fun w' => w'.cell? ⟨B1, 0, none⟩ = some (.int .i64 a1_0) ∧ w'.cell? ⟨B1, 1, none⟩ = some (.int .i64 a1_1) ∧ w'.cell? ⟨B1, 2, none⟩ = some (.int .i64 a1_2) ∧ w'.cell? ⟨B1, 3, none⟩ = some (.int .i64 a1_3) ∧ w'.cell? ⟨B1, 4, none⟩ = some (.int .i64 a1_4) ∧ w'.cell? ⟨B1, 5, none⟩ = some (.int .i64 a1_5)) (ds := []) (zv_.bm 19 0) (by kernel_rfl) rfl rfl ⟨xvc BK1.out, xvc BK1.out, xvc BK1.out, xvc BK1.out, xvc BK1.out, xvc BK1.out⟩ (fun hHeld => ?_); refine with_tabW spec_l09Fold.tab19 spec_l09Fold.bits19 (fun HT_ HW_ => ?_)
            generalize w43.drew = w45 at HO144 HO150 HO159 HO162 BK1 HB hHeld ⊢
            refine zv_.pa (i := 0) (N := some 103) (zv_.bm 19 1) HT_.out ?_
            refine zv_.pa (i := 1) (N := some 104) (zv_.bm 19 3) HT_.out ?_
            refine zv_.pa (i := 2) (N := some 105) (zv_.bm 19 7) HT_.out ?_
            refine zv_.pa (i := 3) (N := some 106) (zv_.bm 19 15) HT_.out ?_
            refine zv_.pa (i := 6) (N := some 109) (zv_.bm 19 79) HT_.out ?_
            refine zv_.pa (i := 7) (N := some 110) (zv_.bm 19 207) HT_.out ?_
            refine zv_.pa (i := 8) (N := some 111) (zv_.bm 19 463) HT_.out ?_
            refine zv_.pa (i := 11) (N := some 114) (zv_.bm 19 2511) HT_.out ?_
            refine zv_.pa (i := 12) (N := some 115) (zv_.bm 19 6607) HT_.out ?_
            refine zv_.pa (i := 13) (N := some 116) (zv_.bm 19 14799) HT_.out ?_
            refine zv_.ta (i := 4) (N := some 107) (zv_.bm 19 14815) rfl (take_ofW HT_.out HW_.out (by kernel_rfl)) (Or.inl ⟨(by rfl), wv13⟩) hHeld ?_
            refine zv_.pa (i := 5) (N := some 108) (zv_.bm 19 14847) HT_.out ?_
            refine zv_.ta (i := 9) (N := some 112) (zv_.bm 19 15359) rfl (take_ofW HT_.out HW_.out (by kernel_rfl)) (Or.inl ⟨(by rfl), wv13⟩) hHeld ?_
            refine zv_.pa (i := 10) (N := some 113) (zv_.bm 19 16383) HT_.out ?_
            refine zv_.ta (i := 14) (N := some 117) (zv_.bm 19 32767) rfl (take_ofW HT_.out HW_.out (by kernel_rfl)) (Or.inl ⟨(by rfl), wv13⟩) hHeld ?_
            refine zv_.pa (i := 15) (N := some 118) (zv_.bm 19 65535) HT_.out ?_
            refine one_ (i := 16) (N := some 119) (zv_.bm 19 131071) rfl rfl (one_of HT_.out (by kernel_rfl)) (by decide) (fun K hK => ?_)
            refine Kd.R_lit_step k142 _ 142 ?hg (N := 119) ?hd (xs := ([(⟨0, 0, 0, 1, 3, a1_2, NRow.nil⟩ : S142), (⟨4, 0, 0, 4, 3, a1_1, NRow.nil⟩ : S142), (⟨1, 0, 0, 1, 3, a1_2, NRow.nil⟩ : S142)] : List (S142))) (inner := [.int .i64 0, .int .i64 0, .int .i64 0, .int .i64 1, .int .i64 3, .int .i64 a1_2, .slice none 0 0, .int .i64 4, .int .i64 0, .int .i64 0, .int .i64 4, .int .i64 3, .int .i64 a1_1, .slice none 0 0, .int .i64 1, .int .i64 0, .int .i64 0, .int .i64 1, .int .i64 3, .int .i64 a1_2, .slice none 0 0]) (ok := fun _ => True) (okp := fun _ => True) ?hr ?hp (fun _ hk => hk) trivial (Below.refl _ _) (Nat.le_refl _) (by simp) ?_; (case hd => rfl); (case hg => rfl); (case hr => first | (go_simp; done) | (go_simp; rfl)); (case hp => exact (Reps.c7 (show Kd.M k142 _ _ _ (⟨0, 0, 0, 1, 3, a1_2, NRow.nil⟩ : S142) [.int .i64 0, .int .i64 0, .int .i64 0, .int .i64 1, .int .i64 3, .int .i64 a1_2, .slice none 0 0] from (k142_mkM _ _ _ (⟨0, 0, 0, 1, 3, a1_2, NRow.nil⟩ : S142) )) (Reps.c7 (show Kd.M k142 _ _ _ (⟨4, 0, 0, 4, 3, a1_1, NRow.nil⟩ : S142) [.int .i64 4, .int .i64 0, .int .i64 0, .int .i64 4, .int .i64 3, .int .i64 a1_1, .slice none 0 0] from (k142_mkM _ _ _ (⟨4, 0, 0, 4, 3, a1_1, NRow.nil⟩ : S142) )) (Reps.c7 (show Kd.M k142 _ _ _ (⟨1, 0, 0, 1, 3, a1_2, NRow.nil⟩ : S142) [.int .i64 1, .int .i64 0, .int .i64 0, .int .i64 1, .int .i64 3, .int .i64 a1_2, .slice none 0 0] from (k142_mkM _ _ _ (⟨1, 0, 0, 1, 3, a1_2, NRow.nil⟩ : S142) )) (Reps.none _ _)))))
            intro v164 w46 ho47 hb hg_ hnew_
            clear hg_ hnew_
            (first | rw [← Ny163.out] at ho47 | (simp only [Int.reduceToNat] at ho47; rw [← Ny163.out] at ho47))
            have n0_ := Aside0.mk (Kd.R_elder' (xvr HO144.out) (Kd.R_base ho47) hb)
            have n1_ := Aside0.mk (Kd.R_elder' (xvr HO150.out) (Kd.R_base ho47) hb)
            have n2_ := Aside0.mk (Kd.R_elder' (xvr HO159.out) (Kd.R_base ho47) hb)
            have n3_ := Aside0.mk (Kd.R_elder' (xvr HO162.out) (Kd.R_base ho47) hb)
            have n4_ := Aside0.mk (Kd.R_lower (Kd.R_new' (Kd.R_new' (Kd.R_new' (Kd.R_new' ho47 (Kd.R_lt (xvr HO144.out))) (Kd.R_lt (xvr HO150.out))) (Kd.R_lt (xvr HO159.out))) (Kd.R_lt (xvr HO162.out))) (below_size wv2))
            have n5_ := Aside0.mk (blk_below (g := B1) (o := .cells #[.int .i64 a1_0, .int .i64 a1_1, .int .i64 a1_2, .int .i64 a1_3, .int .i64 a1_4, .int .i64 a1_5] 25 (0, 0)) (xvb BK1.out) hb)
            have n6_ := Aside0.mk (below_step wv2 hb)
            clear HO144
            clear HO150
            clear HO159
            clear HO162
            clear BK1
            clear HB
            have HO144 := n0_
            have HO150 := n1_
            have HO159 := n2_
            have HO162 := n3_
            have HO165 := n4_
            have BK1 := n5_
            have HB := n6_
            clear n0_ n1_ n2_ n3_ n4_ n5_ n6_
            clear hb ho47
            obtain ⟨Ao49, co49, eo49⟩ := Kd.R_slice HO165.out
            (first | subst eo49 | (injection eo49 with f1_ f2_ f3_; have f4_ := f1_.symm; have f5_ := f3_.symm; clear f1_ f2_ f3_; subst f4_; subst f5_))
            refine hK.out _ _ ⟨xvc BK1.out, xvc BK1.out, xvc BK1.out, xvc BK1.out, xvc BK1.out, xvc BK1.out⟩ (fun hHeld => ?_)
            clear hK K
            refine norm_ (a' := ?_) ?_ ?_
            rotate_left
            ·show Act.put _ (some 119) _ = _
             simp only [Act.put, List.setIfInBounds_toArray, List.set_cons_zero, List.set_cons_succ, i64_w, i32_w]
             rfl
            refine one_ (i := 17) (N := some 120) (zv_.bm 19 262143) rfl rfl (one_of HT_.out (by kernel_rfl)) (by decide) (fun K hK => ?_)
            refine Kd.R_append_rows_step k142 (w0 := w) w.heap.size (by rfl) (.tmp 103) (.tmp 119) 87 142 (.agg #[(.int .i64 0), (.int .i64 0), (.int .i64 0), (.int .i64 0), (.int .i64 0), (.int .i64 0), (.slice none 0 0)]) 72 rfl Try.underlying87 info142 rfl (by decide) (by omega) v161 y160 y163 _ _ _ (fun k_ => some k_ ≠ (.slice Ao34 t142.length co34 : Value).ownBlock ∧ some k_ ≠ (.slice Ao39 y148.length co39 : Value).ownBlock ∧ some k_ ≠ (.slice Ao44 t157.length co44 : Value).ownBlock ∧ some k_ ≠ (.slice Ao49 y163.length co49 : Value).ownBlock) (fun _ => False) rfl rfl ?aO ?aR (fun _ _ h => h) (fun _ h => h.elim) ?aF ?aB ?aS ?aL ?_
            (case aR => repeat (first | exact (Kd.R_reads' HO165.out).2.2 | (with_reducible refine Kd.C_alloc ?_ _) | (with_reducible refine Kd.C_drewN ?_ _) | (with_reducible refine Kd.C_drew ?_)))
            (case aB => exact wv2)
            (case aF => exact (fun k_ hk => ⟨Kd.fresh' (Kd.R_lt (xvr HO144.out)) k_ hk, Kd.fresh' (Kd.R_lt (xvr HO150.out)) k_ hk, Kd.fresh' (Kd.R_lt (xvr HO159.out)) k_ hk, Kd.fresh' (Kd.R_lt (xvr HO165.out)) k_ hk⟩))
            (case aO => exact (by (with_reducible repeat (first | apply Kd.R_alloc | apply Kd.R_drewN | apply Kd.R_drew)); exact Kd.R_mono HO162.out (fun _ hk => ⟨hk.1.1, ⟨hk.1.2.1, ⟨hk.1.2.2, hk.2⟩⟩⟩)))
            (case aS => exact (below_size wv2))
            (case aL => have := LMc30.out; omega)
            intro v167 w48 ho hb hg hat
            rw [← Ny166.out] at ho
            have n0_ := Aside0.mk (blk_grown (g := B1) (o := .cells #[.int .i64 a1_0, .int .i64 a1_1, .int .i64 a1_2, .int .i64 a1_3, .int .i64 a1_4, .int .i64 a1_5] 25 (0, 0)) (xvb BK1.out) hg (Kd.R_ne HO162.out BK1.out (by decide)))
            have n1_ := Aside0.mk (Kd.R_after (ok := (fun k_ => some k_ ≠ (.slice Ao39 y148.length co39 : Value).ownBlock ∧ some k_ ≠ (.slice Ao44 t157.length co44 : Value).ownBlock ∧ some k_ ≠ (.slice Ao49 y163.length co49 : Value).ownBlock)) (by (with_reducible repeat (first | apply Kd.R_alloc | apply Kd.R_drewN | apply Kd.R_drew)); exact Kd.R_mono HO144.out (fun _ hk => ⟨⟨hk.1.1.1, ⟨hk.1.1.2, hk.2⟩⟩, hk.1.2⟩)) hg hat)
            have n2_ := Aside0.mk (Kd.R_after (ok := (fun k_ => some k_ ≠ (.slice Ao34 t142.length co34 : Value).ownBlock ∧ some k_ ≠ (.slice Ao44 t157.length co44 : Value).ownBlock ∧ some k_ ≠ (.slice Ao49 y163.length co49 : Value).ownBlock)) (by (with_reducible repeat (first | apply Kd.R_alloc | apply Kd.R_drewN | apply Kd.R_drew)); exact Kd.R_mono HO150.out (fun _ hk => ⟨⟨hk.1.1.1, ⟨hk.1.1.2, hk.2⟩⟩, hk.1.2⟩)) hg hat)
            have n3_ := Aside0.mk (Kd.R_after (ok := (fun k_ => some k_ ≠ (.slice Ao34 t142.length co34 : Value).ownBlock ∧ some k_ ≠ (.slice Ao39 y148.length co39 : Value).ownBlock ∧ some k_ ≠ (.slice Ao49 y163.length co49 : Value).ownBlock)) (by (with_reducible repeat (first | apply Kd.R_alloc | apply Kd.R_drewN | apply Kd.R_drew)); exact Kd.R_mono HO159.out (fun _ hk => ⟨⟨hk.1.1.1, ⟨hk.1.1.2, hk.2⟩⟩, hk.1.2⟩)) hg hat)
            have n4_ := Aside0.mk (Kd.R_after (ok := (fun k_ => some k_ ≠ (.slice Ao34 t142.length co34 : Value).ownBlock ∧ some k_ ≠ (.slice Ao39 y148.length co39 : Value).ownBlock ∧ some k_ ≠ (.slice Ao44 t157.length co44 : Value).ownBlock)) (by (with_reducible repeat (first | apply Kd.R_alloc | apply Kd.R_drewN | apply Kd.R_drew)); exact Kd.R_mono HO165.out (fun _ hk => ⟨⟨hk.1.1.1.2, ⟨hk.1.1.2, hk.1.2⟩⟩, hk.2⟩)) hg hat)
            have n5_ := Aside0.mk (hb)
            have n6_ := Aside0.mk (ho)
            clear BK1
            clear HO144
            clear HO150
            clear HO159
            clear HO165
            clear HB
            clear HO162
            have BK1 := n0_
            have HO144 := n1_
            have HO150 := n2_
            have HO159 := n3_
            have HO165 := n4_
            have HB := n5_
            have HO168 := n6_
            clear n0_ n1_ n2_ n3_ n4_ n5_ n6_
            clear ho hb hg hat
            refine hK.out _ _ ⟨xvc BK1.out, xvc BK1.out, xvc BK1.out, xvc BK1.out, xvc BK1.out, xvc BK1.out⟩ (fun hHeld => ?_)
            clear hK K
            refine norm_ (a' := ?_) ?_ ?_
            rotate_left
            ·show Act.put _ (some 120) _ = _
             simp only [Act.put, List.setIfInBounds_toArray, List.set_cons_zero, List.set_cons_succ, i64_w, i32_w]
             rfl
            refine zv_.pa (i := 18) (N := some 4) (zv_.bm 19 524287) HT_.out ?_
            refine done_ (done_of HT_.out (by kernel_rfl)) ?_
            try go_wp2
            go_ret
            exact ⟨_, wv3, (by (with_reducible repeat (first | apply Kd.R_alloc | apply Kd.R_drewN | apply Kd.R_drew)); exact Kd.R_mono HO168.out (fun _ hk => trivial)), wv2⟩
           ·rw [if_neg c30] at H
            exact absurd H (by simp)
          ·rw [if_neg c29] at H
           exact absurd H (by simp)
         ·rw [if_neg c27] at H
          exact absurd H (by simp)
        ·rw [if_neg c26] at H
         exact absurd H (by simp)
       ·rw [if_neg c25] at H
        have c25b0 : decide (0 < x6_1) = false := decide_eq_false c25
        clear c25
        by_cases c50 : y145.length < 1954687338268
        ·rw [if_pos c50] at H
         have LMc50 := Aside0.mk c50
         clear c50
         obtain ⟨y169, hy169⟩ : ∃ y_ : List (S142), y_ = (y145 ++ [(⟨0, 4, 0, 1, 3, a1_3, NRow.nil⟩ : S142)]) := ⟨_, rfl⟩
         replace H : (if y169.length < 1954687338268 then ((some (y169 ++ [(⟨10, 4, 4, 0, 3, a1_1, NRow.nil⟩ : S142)] : List (S142))).bind fun y172 => ((spec_l09Mask.f 1).bind fun t175 => (if y172.length + t175.length < 1954687338268 then ((some (y172 ++ t175 : List (S142))).bind fun y178 => ((some (([(⟨0, 0, 0, 1, 3, a1_2, NRow.nil⟩ : S142), (⟨4, 0, 0, 4, 3, a1_1, NRow.nil⟩ : S142), (⟨1, 0, 0, 1, 3, a1_2, NRow.nil⟩ : S142)] : List (S142)) : List (S142))).bind fun y181 => (if y178.length + y181.length < 1954687338268 then (some (y178 ++ y181)) else (none)))) else (none)))) else (none)) = some r := by first | (rw [hy169]; with_reducible exact H) | (have H2_ := (Option.bind_some _ _).symm.trans H; rw [hy169]; with_reducible exact H2_) | (have H2_ := (Option.bind_some _ _).symm.trans H; with_reducible exact H2_) | with_reducible exact H | (rw [hy169]; exact H) | exact H
         have Ny169 := Aside0.mk hy169
         clear hy169
         by_cases c51 : y169.length < 1954687338268
         ·rw [if_pos c51] at H
          have LMc51 := Aside0.mk c51
          clear c51
          obtain ⟨y172, hy172⟩ : ∃ y_ : List (S142), y_ = (y169 ++ [(⟨10, 4, 4, 0, 3, a1_1, NRow.nil⟩ : S142)]) := ⟨_, rfl⟩
          replace H : ((spec_l09Mask.f 1).bind fun t175 => (if y172.length + t175.length < 1954687338268 then ((some (y172 ++ t175 : List (S142))).bind fun y178 => ((some (([(⟨0, 0, 0, 1, 3, a1_2, NRow.nil⟩ : S142), (⟨4, 0, 0, 4, 3, a1_1, NRow.nil⟩ : S142), (⟨1, 0, 0, 1, 3, a1_2, NRow.nil⟩ : S142)] : List (S142)) : List (S142))).bind fun y181 => (if y178.length + y181.length < 1954687338268 then (some (y178 ++ y181)) else (none)))) else (none))) = some r := by first | (rw [hy172]; with_reducible exact H) | (have H2_ := (Option.bind_some _ _).symm.trans H; rw [hy172]; with_reducible exact H2_) | (have H2_ := (Option.bind_some _ _).symm.trans H; with_reducible exact H2_) | with_reducible exact H | (rw [hy172]; exact H) | exact H
          have Ny172 := Aside0.mk hy172
          clear hy172
          replace H := Option.bind_eq_some_iff.mp H
          obtain ⟨t175, A520, H⟩ := H
          replace H : (if y172.length + t175.length < 1954687338268 then ((some (y172 ++ t175 : List (S142))).bind fun y178 => ((some (([(⟨0, 0, 0, 1, 3, a1_2, NRow.nil⟩ : S142), (⟨4, 0, 0, 4, 3, a1_1, NRow.nil⟩ : S142), (⟨1, 0, 0, 1, 3, a1_2, NRow.nil⟩ : S142)] : List (S142)) : List (S142))).bind fun y181 => (if y178.length + y181.length < 1954687338268 then (some (y178 ++ y181)) else (none)))) else (none)) = some r := H
          have A52 := Aside0.mk A520
          clear A520
          by_cases c53 : y172.length + t175.length < 1954687338268
          ·rw [if_pos c53] at H
           have LMc53 := Aside0.mk c53
           clear c53
           obtain ⟨y178, hy178⟩ : ∃ y_ : List (S142), y_ = (y172 ++ t175) := ⟨_, rfl⟩
           replace H : ((some (([(⟨0, 0, 0, 1, 3, a1_2, NRow.nil⟩ : S142), (⟨4, 0, 0, 4, 3, a1_1, NRow.nil⟩ : S142), (⟨1, 0, 0, 1, 3, a1_2, NRow.nil⟩ : S142)] : List (S142)) : List (S142))).bind fun y181 => (if y178.length + y181.length < 1954687338268 then (some (y178 ++ y181)) else (none))) = some r := by first | (rw [hy178]; with_reducible exact H) | (have H2_ := (Option.bind_some _ _).symm.trans H; rw [hy178]; with_reducible exact H2_) | (have H2_ := (Option.bind_some _ _).symm.trans H; with_reducible exact H2_) | with_reducible exact H | (rw [hy178]; exact H) | exact H
           have Ny178 := Aside0.mk hy178
           clear hy178
           obtain ⟨y181, hy181⟩ : ∃ y_ : List (S142), y_ = (([(⟨0, 0, 0, 1, 3, a1_2, NRow.nil⟩ : S142), (⟨4, 0, 0, 4, 3, a1_1, NRow.nil⟩ : S142), (⟨1, 0, 0, 1, 3, a1_2, NRow.nil⟩ : S142)] : List (S142))) := ⟨_, rfl⟩
           replace H : (if y178.length + y181.length < 1954687338268 then (some (y178 ++ y181)) else (none)) = some r := by first | (rw [hy181]; with_reducible exact H) | (have H2_ := (Option.bind_some _ _).symm.trans H; rw [hy181]; with_reducible exact H2_) | (have H2_ := (Option.bind_some _ _).symm.trans H; with_reducible exact H2_) | with_reducible exact H | (rw [hy181]; exact H) | exact H
           have Ny181 := Aside0.mk hy181
           clear hy181
           by_cases c54 : y178.length + y181.length < 1954687338268
           ·rw [if_pos c54] at H
            have LMc54 := Aside0.mk c54
            clear c54
            obtain ⟨y184, hy184⟩ : ∃ y_ : List (S142), y_ = (y178 ++ y181) := ⟨_, rfl⟩
            replace H : (some y184) = some r := by first | (rw [hy184]; with_reducible exact H) | (have H2_ := (Option.bind_some _ _).symm.trans H; rw [hy184]; with_reducible exact H2_) | (have H2_ := (Option.bind_some _ _).symm.trans H; with_reducible exact H2_) | with_reducible exact H | (rw [hy184]; exact H) | exact H
            have Ny184 := Aside0.mk hy184
            clear hy184
            obtain rfl := Option.some.inj H
            have hcz55_0 : wr.cell? ⟨B1, 0, none⟩ = some (.int .i64 a1_0) := xvc BK1.out
            have hcz55_1 : wr.cell? ⟨B1, 1, none⟩ = some (.int .i64 a1_1) := xvc BK1.out
            have hcz55_2 : wr.cell? ⟨B1, 2, none⟩ = some (.int .i64 a1_2) := xvc BK1.out
            have hcz55_3 : wr.cell? ⟨B1, 3, none⟩ = some (.int .i64 a1_3) := xvc BK1.out
            have hcz55_4 : wr.cell? ⟨B1, 4, none⟩ = some (.int .i64 a1_4) := xvc BK1.out
            have hcz55_5 : wr.cell? ⟨B1, 5, none⟩ = some (.int .i64 a1_5) := xvc BK1.out
            have hfz55_0 := blk_frozen BK1.out 0
            have hfz55_1 := blk_frozen BK1.out 1
            have hfz55_2 := blk_frozen BK1.out 2
            have hfz55_3 := blk_frozen BK1.out 3
            have hfz55_4 := blk_frozen BK1.out 4
            have hfz55_5 := blk_frozen BK1.out 5
            try go_wp2_with (first | ((with_reducible refine gate_callee (f := 184) rfl ?_); refine goesL_ (some 64) rfl rfl Try.func184 (by kernel_rfl) rfl #[.int .i64 (wrap64 (a1_5 - x6_1))] rfl wv1 ?_; (with_reducible refine (spec_l09Mask.calls (wrap64 (a1_5 - x6_1)) t142 _ A23.out).mono ?_); rintro e w56 ⟨v143, rfl, ho0, hb⟩; refine ⟨_, rfl, ?_⟩; have n0_ := Aside0.mk (Kd.R_elder' (xvr HO_5.out) (Kd.R_base ho0) hb); have n1_ := Aside0.mk (Kd.R_lower (Kd.R_new' ho0 (Kd.R_lt (xvr HO_5.out))) (below_size wv2)); have n2_ := Aside0.mk (blk_below (g := B1) (o := .cells #[.int .i64 a1_0, .int .i64 a1_1, .int .i64 a1_2, .int .i64 a1_3, .int .i64 a1_4, .int .i64 a1_5] 25 (0, 0)) (xvb BK1.out) hb); have n3_ := Aside0.mk (below_step wv2 hb); clear HO_5; clear BK1; clear HB; have HO_5 := n0_; have HO144 := n1_; have BK1 := n2_; have HB := n3_; clear n0_ n1_ n2_ n3_; (try clear hb); (try clear hb2); (try clear hk); (try clear hi); (try clear ho0); obtain ⟨Ao58, co58, eo58⟩ := Kd.R_slice HO144.out; subst eo58) | ((with_reducible refine gate_builtin (b := .append) (xs := #[.tmp 57, .tmp 64]) rfl ?_); at_builtin; refine Kd.R_append_rows k142 (w0 := w) w.heap.size rfl (.tmp 57) (.tmp 64) 87 142 (.agg #[(.int .i64 0), (.int .i64 0), (.int .i64 0), (.int .i64 0), (.int .i64 0), (.int .i64 0), (.slice none 0 0)]) 72 rfl Try.underlying87 info142 rfl (by decide) (by omega) u5 x5_1 t142 _ _ _ (fun k_ => some k_ ≠ (.slice Ao58 t142.length co58 : Value).ownBlock) (fun _ => False) rfl rfl ?aO ?aR (fun _ _ h => h) (fun _ h => h.elim) ?aF ?aB ?aS ?aL ?_; (case aR => repeat (first | exact (Kd.R_reads' HO144.out).2.2 | (with_reducible refine Kd.C_alloc ?_ _) | (with_reducible refine Kd.C_drewN ?_ _) | (with_reducible refine Kd.C_drew ?_))); (case aB => exact wv2); (case aF => exact (fun k_ hk => Kd.fresh' (Kd.R_lt (xvr HO144.out)) k_ hk)); (case aO => exact wv38); (case aS => exact (below_size wv2)); (case aL => have := LMc24.out; omega); intro v146 w57 ho hb hg hat; rw [← Ny145.out] at ho; have n0_ := Aside0.mk (blk_grown (g := B1) (o := .cells #[.int .i64 a1_0, .int .i64 a1_1, .int .i64 a1_2, .int .i64 a1_3, .int .i64 a1_4, .int .i64 a1_5] 25 (0, 0)) (xvb BK1.out) hg (Kd.R_ne HO_5.out BK1.out (by decide))); have n1_ := Aside0.mk (Kd.R_after (ok := (fun _ => True)) (xvr HO144.out) hg hat); have n2_ := Aside0.mk (hb); have n3_ := Aside0.mk (ho); clear BK1; clear HO144; clear HB; clear HO_5; have BK1 := n0_; have HO144 := n1_; have HB := n2_; have HO147 := n3_; clear n0_ n1_ n2_ n3_; clear ho hb hg hat; have hcz59_0 : w57.cell? ⟨B1, 0, none⟩ = some (.int .i64 a1_0) := xvc BK1.out; have hcz59_1 : w57.cell? ⟨B1, 1, none⟩ = some (.int .i64 a1_1) := xvc BK1.out; have hcz59_2 : w57.cell? ⟨B1, 2, none⟩ = some (.int .i64 a1_2) := xvc BK1.out; have hcz59_3 : w57.cell? ⟨B1, 3, none⟩ = some (.int .i64 a1_3) := xvc BK1.out; have hcz59_4 : w57.cell? ⟨B1, 4, none⟩ = some (.int .i64 a1_4) := xvc BK1.out; have hcz59_5 : w57.cell? ⟨B1, 5, none⟩ = some (.int .i64 a1_5) := xvc BK1.out; have hfz59_0 := blk_frozen BK1.out 0; have hfz59_1 := blk_frozen BK1.out 1; have hfz59_2 := blk_frozen BK1.out 2; have hfz59_3 := blk_frozen BK1.out 3; have hfz59_4 := blk_frozen BK1.out 4; have hfz59_5 := blk_frozen BK1.out 5) | ((with_reducible refine gate_builtin (b := .append) (xs := #[.tmp 83, .tmp 89]) rfl ?_); at_builtin; refine Kd.R_append k142 (w0 := w) w.heap.size rfl (.tmp 83) (.tmp 89) 87 142 (.agg #[(.int .i64 0), (.int .i64 0), (.int .i64 0), (.int .i64 0), (.int .i64 0), (.int .i64 0), (.slice none 0 0)]) 72 rfl Try.underlying87 info142 rfl (by decide) (by omega) v146 y145 (⟨0, 4, 0, 1, 3, a1_3, NRow.nil⟩ : S142) [.int .i64 0, .int .i64 4, .int .i64 0, .int .i64 1, .int .i64 3, .int .i64 a1_3, .slice none 0 0] (fun k_ => some k_ ≠ (.slice Ao58 t142.length co58 : Value).ownBlock) (fun _ => False) rfl rfl ?aP (fun _ hk => hk.elim) ?aF ?aO ?aB ?aS ?aL ?_; (case aP => exact k142_mkM _ _ _ (⟨0, 4, 0, 1, 3, a1_3, NRow.nil⟩ : S142)); (case aB => exact wv2); (case aF => exact (fun k_ hk => Kd.fresh' (Kd.R_lt (xvr HO144.out)) k_ hk)); (case aO => exact (xvr HO147.out)); (case aS => exact (below_size wv2)); (case aL => have := LMc50.out; omega); intro v170 w60 ho hb hg hat; rw [← Ny169.out] at ho; have n0_ := Aside0.mk (blk_grown (g := B1) (o := .cells #[.int .i64 a1_0, .int .i64 a1_1, .int .i64 a1_2, .int .i64 a1_3, .int .i64 a1_4, .int .i64 a1_5] 25 (0, 0)) (xvb BK1.out) hg (Kd.R_ne HO147.out BK1.out (by decide))); have n1_ := Aside0.mk (Kd.R_after (ok := (fun _ => True)) (xvr HO144.out) hg hat); have n2_ := Aside0.mk (hb); have n3_ := Aside0.mk (ho); clear BK1; clear HO144; clear HB; clear HO147; have BK1 := n0_; have HO144 := n1_; have HB := n2_; have HO171 := n3_; clear n0_ n1_ n2_ n3_; clear ho hb hg hat; have hcz61_0 : w60.cell? ⟨B1, 0, none⟩ = some (.int .i64 a1_0) := xvc BK1.out; have hcz61_1 : w60.cell? ⟨B1, 1, none⟩ = some (.int .i64 a1_1) := xvc BK1.out; have hcz61_2 : w60.cell? ⟨B1, 2, none⟩ = some (.int .i64 a1_2) := xvc BK1.out; have hcz61_3 : w60.cell? ⟨B1, 3, none⟩ = some (.int .i64 a1_3) := xvc BK1.out; have hcz61_4 : w60.cell? ⟨B1, 4, none⟩ = some (.int .i64 a1_4) := xvc BK1.out; have hcz61_5 : w60.cell? ⟨B1, 5, none⟩ = some (.int .i64 a1_5) := xvc BK1.out; have hfz61_0 := blk_frozen BK1.out 0; have hfz61_1 := blk_frozen BK1.out 1; have hfz61_2 := blk_frozen BK1.out 2; have hfz61_3 := blk_frozen BK1.out 3; have hfz61_4 := blk_frozen BK1.out 4; have hfz61_5 := blk_frozen BK1.out 5) | ((with_reducible refine gate_builtin (b := .append) (xs := #[.tmp 91, .tmp 98]) rfl ?_); at_builtin; refine Kd.R_append k142 (w0 := w) w.heap.size rfl (.tmp 91) (.tmp 98) 87 142 (.agg #[(.int .i64 0), (.int .i64 0), (.int .i64 0), (.int .i64 0), (.int .i64 0), (.int .i64 0), (.slice none 0 0)]) 72 rfl Try.underlying87 info142 rfl (by decide) (by omega) v170 y169 (⟨10, 4, 4, 0, 3, a1_1, NRow.nil⟩ : S142) [.int .i64 10, .int .i64 4, .int .i64 4, .int .i64 0, .int .i64 3, .int .i64 a1_1, .slice none 0 0] (fun k_ => some k_ ≠ (.slice Ao58 t142.length co58 : Value).ownBlock) (fun _ => False) rfl rfl ?aP (fun _ hk => hk.elim) ?aF ?aO ?aB ?aS ?aL ?_; (case aP => exact k142_mkM _ _ _ (⟨10, 4, 4, 0, 3, a1_1, NRow.nil⟩ : S142)); (case aB => exact wv2); (case aF => exact (fun k_ hk => Kd.fresh' (Kd.R_lt (xvr HO144.out)) k_ hk)); (case aO => exact (xvr HO171.out)); (case aS => exact (below_size wv2)); (case aL => have := LMc51.out; omega); intro v173 w62 ho hb hg hat; rw [← Ny172.out] at ho; have n0_ := Aside0.mk (blk_grown (g := B1) (o := .cells #[.int .i64 a1_0, .int .i64 a1_1, .int .i64 a1_2, .int .i64 a1_3, .int .i64 a1_4, .int .i64 a1_5] 25 (0, 0)) (xvb BK1.out) hg (Kd.R_ne HO171.out BK1.out (by decide))); have n1_ := Aside0.mk (Kd.R_after (ok := (fun _ => True)) (xvr HO144.out) hg hat); have n2_ := Aside0.mk (hb); have n3_ := Aside0.mk (ho); clear BK1; clear HO144; clear HB; clear HO171; have BK1 := n0_; have HO144 := n1_; have HB := n2_; have HO174 := n3_; clear n0_ n1_ n2_ n3_; clear ho hb hg hat) | ((with_reducible refine gate_callee (f := 184) rfl ?_); refine goesL_ (some 101) rfl rfl Try.func184 (by kernel_rfl) rfl #[.int .i64 1] rfl wv1 ?_; (with_reducible refine (spec_l09Mask.calls 1 t175 _ A52.out).mono ?_); rintro e w63 ⟨v176, rfl, ho0, hb⟩; refine ⟨_, rfl, ?_⟩; have n0_ := Aside0.mk (Kd.R_elder' (xvr HO144.out) (Kd.R_base ho0) hb); have n1_ := Aside0.mk (Kd.R_elder' (xvr HO174.out) (Kd.R_base ho0) hb); have n2_ := Aside0.mk (Kd.R_lower (Kd.R_new' (Kd.R_new' ho0 (Kd.R_lt (xvr HO144.out))) (Kd.R_lt (xvr HO174.out))) (below_size wv2)); have n3_ := Aside0.mk (blk_below (g := B1) (o := .cells #[.int .i64 a1_0, .int .i64 a1_1, .int .i64 a1_2, .int .i64 a1_3, .int .i64 a1_4, .int .i64 a1_5] 25 (0, 0)) (xvb BK1.out) hb); have n4_ := Aside0.mk (below_step wv2 hb); clear HO144; clear HO174; clear BK1; clear HB; have HO144 := n0_; have HO174 := n1_; have HO177 := n2_; have BK1 := n3_; have HB := n4_; clear n0_ n1_ n2_ n3_ n4_; (try clear hb); (try clear hb2); (try clear hk); (try clear hi); (try clear ho0); obtain ⟨Ao65, co65, eo65⟩ := Kd.R_slice HO177.out; subst eo65) | ((with_reducible refine gate_builtin (b := .append) (xs := #[.tmp 100, .tmp 101]) rfl ?_); at_builtin; refine Kd.R_append_rows k142 (w0 := w) w.heap.size rfl (.tmp 100) (.tmp 101) 87 142 (.agg #[(.int .i64 0), (.int .i64 0), (.int .i64 0), (.int .i64 0), (.int .i64 0), (.int .i64 0), (.slice none 0 0)]) 72 rfl Try.underlying87 info142 rfl (by decide) (by omega) v173 y172 t175 _ _ _ (fun k_ => some k_ ≠ (.slice Ao58 t142.length co58 : Value).ownBlock ∧ some k_ ≠ (.slice Ao65 t175.length co65 : Value).ownBlock) (fun _ => False) rfl rfl ?aO ?aR (fun _ _ h => h) (fun _ h => h.elim) ?aF ?aB ?aS ?aL ?_; (case aR => repeat (first | exact (Kd.R_reads' HO177.out).2.2 | (with_reducible refine Kd.C_alloc ?_ _) | (with_reducible refine Kd.C_drewN ?_ _) | (with_reducible refine Kd.C_drew ?_))); (case aB => exact wv2); (case aF => exact (fun k_ hk => ⟨Kd.fresh' (Kd.R_lt (xvr HO144.out)) k_ hk, Kd.fresh' (Kd.R_lt (xvr HO177.out)) k_ hk⟩)); (case aO => exact (xvr HO174.out)); (case aS => exact (below_size wv2)); (case aL => have := LMc53.out; omega); intro v179 w64 ho hb hg hat; rw [← Ny178.out] at ho; have n0_ := Aside0.mk (blk_grown (g := B1) (o := .cells #[.int .i64 a1_0, .int .i64 a1_1, .int .i64 a1_2, .int .i64 a1_3, .int .i64 a1_4, .int .i64 a1_5] 25 (0, 0)) (xvb BK1.out) hg (Kd.R_ne HO174.out BK1.out (by decide))); have n1_ := Aside0.mk (Kd.R_after (ok := (fun k_ => some k_ ≠ (.slice Ao65 t175.length co65 : Value).ownBlock)) (by (with_reducible repeat (first | apply Kd.R_alloc | apply Kd.R_drewN | apply Kd.R_drew)); exact Kd.R_mono HO144.out (fun _ hk => ⟨hk.2, hk.1.2⟩)) hg hat); have n2_ := Aside0.mk (Kd.R_after (ok := (fun k_ => some k_ ≠ (.slice Ao58 t142.length co58 : Value).ownBlock)) (by (with_reducible repeat (first | apply Kd.R_alloc | apply Kd.R_drewN | apply Kd.R_drew)); exact Kd.R_mono HO177.out (fun _ hk => ⟨hk.1.2, hk.2⟩)) hg hat); have n3_ := Aside0.mk (hb); have n4_ := Aside0.mk (ho); clear BK1; clear HO144; clear HO177; clear HB; clear HO174; have BK1 := n0_; have HO144 := n1_; have HO177 := n2_; have HB := n3_; have HO180 := n4_; clear n0_ n1_ n2_ n3_ n4_; clear ho hb hg hat))
            have n0_ := Aside0.mk (Kd.R_drew HO144.out)
            have n1_ := Aside0.mk (Kd.R_drew HO177.out)
            have n2_ := Aside0.mk (Kd.R_drew HO180.out)
            have n3_ := Aside0.mk (blk_drew BK1.out)
            have n4_ := Aside0.mk (below_drew1 HB.out)
            clear HO144
            clear HO177
            clear HO180
            clear BK1
            clear HB
            have HO144 := n0_
            have HO177 := n1_
            have HO180 := n2_
            have BK1 := n3_
            have HB := n4_
            clear n0_ n1_ n2_ n3_ n4_
            refine start_ (n := 19) (S := fun w' => w'.cell? ⟨B1, 0, none⟩ = some (.int .i64 a1_0) ∧ w'.cell? ⟨B1, 1, none⟩ = some (.int .i64 a1_1) ∧ w'.cell? ⟨B1, 2, none⟩ = some (.int .i64 a1_2) ∧ w'.cell? ⟨B1, 3, none⟩ = some (.int .i64 a1_3) ∧ w'.cell? ⟨B1, 4, none⟩ = some (.int .i64 a1_4) ∧ w'.cell? ⟨B1, 5, none⟩ = some (.int .i64 a1_5)) (ds := []) (zv_.bm 19 0) (by kernel_rfl) rfl rfl ⟨xvc BK1.out, xvc BK1.out, xvc BK1.out, xvc BK1.out, xvc BK1.out, xvc BK1.out⟩ (fun hHeld => ?_); refine with_tabW spec_l09Fold.tab19 spec_l09Fold.bits19 (fun HT_ HW_ => ?_)
            generalize w64.drew = w66 at HO144 HO177 HO180 BK1 HB hHeld ⊢
            refine zv_.pa (i := 0) (N := some 103) (zv_.bm 19 1) HT_.out ?_
            refine zv_.pa (i := 1) (N := some 104) (zv_.bm 19 3) HT_.out ?_
            refine zv_.pa (i := 2) (N := some 105) (zv_.bm 19 7) HT_.out ?_
            refine zv_.pa (i := 3) (N := some 106) (zv_.bm 19 15) HT_.out ?_
            refine zv_.pa (i := 6) (N := some 109) (zv_.bm 19 79) HT_.out ?_
            refine zv_.pa (i := 7) (N := some 110) (zv_.bm 19 207) HT_.out ?_
            refine zv_.pa (i := 8) (N := some 111) (zv_.bm 19 463) HT_.out ?_
            refine zv_.pa (i := 11) (N := some 114) (zv_.bm 19 2511) HT_.out ?_
            refine zv_.pa (i := 12) (N := some 115) (zv_.bm 19 6607) HT_.out ?_
            refine zv_.pa (i := 13) (N := some 116) (zv_.bm 19 14799) HT_.out ?_
            refine zv_.ta (i := 4) (N := some 107) (zv_.bm 19 14815) rfl (take_ofW HT_.out HW_.out (by kernel_rfl)) (Or.inl ⟨(by rfl), wv13⟩) hHeld ?_
            refine zv_.pa (i := 5) (N := some 108) (zv_.bm 19 14847) HT_.out ?_
            refine zv_.ta (i := 9) (N := some 112) (zv_.bm 19 15359) rfl (take_ofW HT_.out HW_.out (by kernel_rfl)) (Or.inl ⟨(by rfl), wv13⟩) hHeld ?_
            refine zv_.pa (i := 10) (N := some 113) (zv_.bm 19 16383) HT_.out ?_
            refine zv_.ta (i := 14) (N := some 117) (zv_.bm 19 32767) rfl (take_ofW HT_.out HW_.out (by kernel_rfl)) (Or.inl ⟨(by rfl), wv13⟩) hHeld ?_
            refine zv_.pa (i := 15) (N := some 118) (zv_.bm 19 65535) HT_.out ?_
            refine one_ (i := 16) (N := some 119) (zv_.bm 19 131071) rfl rfl (one_of HT_.out (by kernel_rfl)) (by decide) (fun K hK => ?_)
            refine Kd.R_lit_step k142 _ 142 ?hg (N := 119) ?hd (xs := ([(⟨0, 0, 0, 1, 3, a1_2, NRow.nil⟩ : S142), (⟨4, 0, 0, 4, 3, a1_1, NRow.nil⟩ : S142), (⟨1, 0, 0, 1, 3, a1_2, NRow.nil⟩ : S142)] : List (S142))) (inner := [.int .i64 0, .int .i64 0, .int .i64 0, .int .i64 1, .int .i64 3, .int .i64 a1_2, .slice none 0 0, .int .i64 4, .int .i64 0, .int .i64 0, .int .i64 4, .int .i64 3, .int .i64 a1_1, .slice none 0 0, .int .i64 1, .int .i64 0, .int .i64 0, .int .i64 1, .int .i64 3, .int .i64 a1_2, .slice none 0 0]) (ok := fun _ => True) (okp := fun _ => True) ?hr ?hp (fun _ hk => hk) trivial (Below.refl _ _) (Nat.le_refl _) (by simp) ?_; (case hd => rfl); (case hg => rfl); (case hr => first | (go_simp; done) | (go_simp; rfl)); (case hp => exact (Reps.c7 (show Kd.M k142 _ _ _ (⟨0, 0, 0, 1, 3, a1_2, NRow.nil⟩ : S142) [.int .i64 0, .int .i64 0, .int .i64 0, .int .i64 1, .int .i64 3, .int .i64 a1_2, .slice none 0 0] from (k142_mkM _ _ _ (⟨0, 0, 0, 1, 3, a1_2, NRow.nil⟩ : S142) )) (Reps.c7 (show Kd.M k142 _ _ _ (⟨4, 0, 0, 4, 3, a1_1, NRow.nil⟩ : S142) [.int .i64 4, .int .i64 0, .int .i64 0, .int .i64 4, .int .i64 3, .int .i64 a1_1, .slice none 0 0] from (k142_mkM _ _ _ (⟨4, 0, 0, 4, 3, a1_1, NRow.nil⟩ : S142) )) (Reps.c7 (show Kd.M k142 _ _ _ (⟨1, 0, 0, 1, 3, a1_2, NRow.nil⟩ : S142) [.int .i64 1, .int .i64 0, .int .i64 0, .int .i64 1, .int .i64 3, .int .i64 a1_2, .slice none 0 0] from (k142_mkM _ _ _ (⟨1, 0, 0, 1, 3, a1_2, NRow.nil⟩ : S142) )) (Reps.none _ _)))))
            intro v182 w67 ho68 hb hg_ hnew_
            clear hg_ hnew_
            (first | rw [← Ny181.out] at ho68 | (simp only [Int.reduceToNat] at ho68; rw [← Ny181.out] at ho68))
            have n0_ := Aside0.mk (Kd.R_elder' (xvr HO144.out) (Kd.R_base ho68) hb)
            have n1_ := Aside0.mk (Kd.R_elder' (xvr HO177.out) (Kd.R_base ho68) hb)
            have n2_ := Aside0.mk (Kd.R_elder' (xvr HO180.out) (Kd.R_base ho68) hb)
            have n3_ := Aside0.mk (Kd.R_lower (Kd.R_new' (Kd.R_new' (Kd.R_new' ho68 (Kd.R_lt (xvr HO144.out))) (Kd.R_lt (xvr HO177.out))) (Kd.R_lt (xvr HO180.out))) (below_size wv2))
            have n4_ := Aside0.mk (blk_below (g := B1) (o := .cells #[.int .i64 a1_0, .int .i64 a1_1, .int .i64 a1_2, .int .i64 a1_3, .int .i64 a1_4, .int .i64 a1_5] 25 (0, 0)) (xvb BK1.out) hb)
            have n5_ := Aside0.mk (below_step wv2 hb)
            clear HO144
            clear HO177
            clear HO180
            clear BK1
            clear HB
            have HO144 := n0_
            have HO177 := n1_
            have HO180 := n2_
            have HO183 := n3_
            have BK1 := n4_
            have HB := n5_
            clear n0_ n1_ n2_ n3_ n4_ n5_
            clear hb ho68
            obtain ⟨Ao70, co70, eo70⟩ := Kd.R_slice HO183.out
            (first | subst eo70 | (injection eo70 with f1_ f2_ f3_; have f4_ := f1_.symm; have f5_ := f3_.symm; clear f1_ f2_ f3_; subst f4_; subst f5_))
            refine hK.out _ _ ⟨xvc BK1.out, xvc BK1.out, xvc BK1.out, xvc BK1.out, xvc BK1.out, xvc BK1.out⟩ (fun hHeld => ?_)
            clear hK K
            refine norm_ (a' := ?_) ?_ ?_
            rotate_left
            ·show Act.put _ (some 119) _ = _
             simp only [Act.put, List.setIfInBounds_toArray, List.set_cons_zero, List.set_cons_succ, i64_w, i32_w]
             rfl
            refine one_ (i := 17) (N := some 120) (zv_.bm 19 262143) rfl rfl (one_of HT_.out (by kernel_rfl)) (by decide) (fun K hK => ?_)
            refine Kd.R_append_rows_step k142 (w0 := w) w.heap.size (by rfl) (.tmp 103) (.tmp 119) 87 142 (.agg #[(.int .i64 0), (.int .i64 0), (.int .i64 0), (.int .i64 0), (.int .i64 0), (.int .i64 0), (.slice none 0 0)]) 72 rfl Try.underlying87 info142 rfl (by decide) (by omega) v179 y178 y181 _ _ _ (fun k_ => some k_ ≠ (.slice Ao58 t142.length co58 : Value).ownBlock ∧ some k_ ≠ (.slice Ao65 t175.length co65 : Value).ownBlock ∧ some k_ ≠ (.slice Ao70 y181.length co70 : Value).ownBlock) (fun _ => False) rfl rfl ?aO ?aR (fun _ _ h => h) (fun _ h => h.elim) ?aF ?aB ?aS ?aL ?_
            (case aR => repeat (first | exact (Kd.R_reads' HO183.out).2.2 | (with_reducible refine Kd.C_alloc ?_ _) | (with_reducible refine Kd.C_drewN ?_ _) | (with_reducible refine Kd.C_drew ?_)))
            (case aB => exact wv2)
            (case aF => exact (fun k_ hk => ⟨Kd.fresh' (Kd.R_lt (xvr HO144.out)) k_ hk, Kd.fresh' (Kd.R_lt (xvr HO177.out)) k_ hk, Kd.fresh' (Kd.R_lt (xvr HO183.out)) k_ hk⟩))
            (case aO => exact (by (with_reducible repeat (first | apply Kd.R_alloc | apply Kd.R_drewN | apply Kd.R_drew)); exact Kd.R_mono HO180.out (fun _ hk => ⟨hk.1.1, ⟨hk.1.2, hk.2⟩⟩)))
            (case aS => exact (below_size wv2))
            (case aL => have := LMc54.out; omega)
            intro v185 w69 ho hb hg hat
            rw [← Ny184.out] at ho
            have n0_ := Aside0.mk (blk_grown (g := B1) (o := .cells #[.int .i64 a1_0, .int .i64 a1_1, .int .i64 a1_2, .int .i64 a1_3, .int .i64 a1_4, .int .i64 a1_5] 25 (0, 0)) (xvb BK1.out) hg (Kd.R_ne HO180.out BK1.out (by decide)))
            have n1_ := Aside0.mk (Kd.R_after (ok := (fun k_ => some k_ ≠ (.slice Ao65 t175.length co65 : Value).ownBlock ∧ some k_ ≠ (.slice Ao70 y181.length co70 : Value).ownBlock)) (by (with_reducible repeat (first | apply Kd.R_alloc | apply Kd.R_drewN | apply Kd.R_drew)); exact Kd.R_mono HO144.out (fun _ hk => ⟨⟨hk.1.1, hk.2⟩, hk.1.2⟩)) hg hat)
            have n2_ := Aside0.mk (Kd.R_after (ok := (fun k_ => some k_ ≠ (.slice Ao58 t142.length co58 : Value).ownBlock ∧ some k_ ≠ (.slice Ao70 y181.length co70 : Value).ownBlock)) (by (with_reducible repeat (first | apply Kd.R_alloc | apply Kd.R_drewN | apply Kd.R_drew)); exact Kd.R_mono HO177.out (fun _ hk => ⟨⟨hk.1.1, hk.2⟩, hk.1.2⟩)) hg hat)
            have n3_ := Aside0.mk (Kd.R_after (ok := (fun k_ => some k_ ≠ (.slice Ao58 t142.length co58 : Value).ownBlock ∧ some k_ ≠ (.slice Ao65 t175.length co65 : Value).ownBlock)) (by (with_reducible repeat (first | apply Kd.R_alloc | apply Kd.R_drewN | apply Kd.R_drew)); exact Kd.R_mono HO183.out (fun _ hk => ⟨⟨hk.1.1.2, hk.1.2⟩, hk.2⟩)) hg hat)
            have n4_ := Aside0.mk (hb)
            have n5_ := Aside0.mk (ho)
            clear BK1
            clear HO144
            clear HO177
            clear HO183
            clear HB
            clear HO180
            have BK1 := n0_
            have HO144 := n1_
            have HO177 := n2_
            have HO183 := n3_
            have HB := n4_
            have HO186 := n5_
            clear n0_ n1_ n2_ n3_ n4_ n5_
            clear ho hb hg hat
            refine hK.out _ _ ⟨xvc BK1.out, xvc BK1.out, xvc BK1.out, xvc BK1.out, xvc BK1.out, xvc BK1.out⟩ (fun hHeld => ?_)
            clear hK K
            refine norm_ (a' := ?_) ?_ ?_
            rotate_left
            ·show Act.put _ (some 120) _ = _
             simp only [Act.put, List.setIfInBounds_toArray, List.set_cons_zero, List.set_cons_succ, i64_w, i32_w]
             rfl
            refine zv_.pa (i := 18) (N := some 4) (zv_.bm 19 524287) HT_.out ?_
            refine done_ (done_of HT_.out (by kernel_rfl)) ?_
            try go_wp2
            go_ret
            exact ⟨_, wv3, (by (with_reducible repeat (first | apply Kd.R_alloc | apply Kd.R_drewN | apply Kd.R_drew)); exact Kd.R_mono HO186.out (fun _ hk => trivial)), wv2⟩
           ·rw [if_neg c54] at H
            exact absurd H (by simp)
          ·rw [if_neg c53] at H
           exact absurd H (by simp)
         ·rw [if_neg c51] at H
          exact absurd H (by simp)
        ·rw [if_neg c50] at H
         exact absurd H (by simp)
      ·rw [if_neg c24] at H
       exact absurd H (by simp)
     ·rw [if_neg c22] at H
      have c22b0 : decide (x6_1 < a1_5) = false := decide_eq_false c22
      clear c22
      by_cases c71 : x5_1.length < 1954687338268
      ·rw [if_pos c71] at H
       have LMc71 := Aside0.mk c71
       clear c71
       obtain ⟨y187, hy187⟩ : ∃ y_ : List (S142), y_ = (x5_1 ++ [(⟨10, 4, 4, 0, (-1), a1_1, NRow.nil⟩ : S142)]) := ⟨_, rfl⟩
       replace H : ((spec_l09Mask.f 1).bind fun t190 => (if y187.length + t190.length < 1954687338268 then ((some (y187 ++ t190 : List (S142))).bind fun y193 => ((some (([(⟨0, 0, 0, 1, 3, a1_2, NRow.nil⟩ : S142), (⟨4, 0, 0, 4, 3, a1_1, NRow.nil⟩ : S142), (⟨1, 0, 0, 1, 3, a1_2, NRow.nil⟩ : S142)] : List (S142)) : List (S142))).bind fun y196 => (if y193.length + y196.length < 1954687338268 then (some (y193 ++ y196)) else (none)))) else (none))) = some r := by first | (rw [hy187]; with_reducible exact H) | (have H2_ := (Option.bind_some _ _).symm.trans H; rw [hy187]; with_reducible exact H2_) | (have H2_ := (Option.bind_some _ _).symm.trans H; with_reducible exact H2_) | with_reducible exact H | (rw [hy187]; exact H) | exact H
       have Ny187 := Aside0.mk hy187
       clear hy187
       replace H := Option.bind_eq_some_iff.mp H
       obtain ⟨t190, A720, H⟩ := H
       replace H : (if y187.length + t190.length < 1954687338268 then ((some (y187 ++ t190 : List (S142))).bind fun y193 => ((some (([(⟨0, 0, 0, 1, 3, a1_2, NRow.nil⟩ : S142), (⟨4, 0, 0, 4, 3, a1_1, NRow.nil⟩ : S142), (⟨1, 0, 0, 1, 3, a1_2, NRow.nil⟩ : S142)] : List (S142)) : List (S142))).bind fun y196 => (if y193.length + y196.length < 1954687338268 then (some (y193 ++ y196)) else (none)))) else (none)) = some r := H
       have A72 := Aside0.mk A720
       clear A720
       by_cases c73 : y187.length + t190.length < 1954687338268
       ·rw [if_pos c73] at H
        have LMc73 := Aside0.mk c73
        clear c73
        obtain ⟨y193, hy193⟩ : ∃ y_ : List (S142), y_ = (y187 ++ t190) := ⟨_, rfl⟩
        replace H : ((some (([(⟨0, 0, 0, 1, 3, a1_2, NRow.nil⟩ : S142), (⟨4, 0, 0, 4, 3, a1_1, NRow.nil⟩ : S142), (⟨1, 0, 0, 1, 3, a1_2, NRow.nil⟩ : S142)] : List (S142)) : List (S142))).bind fun y196 => (if y193.length + y196.length < 1954687338268 then (some (y193 ++ y196)) else (none))) = some r := by first | (rw [hy193]; with_reducible exact H) | (have H2_ := (Option.bind_some _ _).symm.trans H; rw [hy193]; with_reducible exact H2_) | (have H2_ := (Option.bind_some _ _).symm.trans H; with_reducible exact H2_) | with_reducible exact H | (rw [hy193]; exact H) | exact H
        have Ny193 := Aside0.mk hy193
        clear hy193
        obtain ⟨y196, hy196⟩ : ∃ y_ : List (S142), y_ = (([(⟨0, 0, 0, 1, 3, a1_2, NRow.nil⟩ : S142), (⟨4, 0, 0, 4, 3, a1_1, NRow.nil⟩ : S142), (⟨1, 0, 0, 1, 3, a1_2, NRow.nil⟩ : S142)] : List (S142))) := ⟨_, rfl⟩
        replace H : (if y193.length + y196.length < 1954687338268 then (some (y193 ++ y196)) else (none)) = some r := by first | (rw [hy196]; with_reducible exact H) | (have H2_ := (Option.bind_some _ _).symm.trans H; rw [hy196]; with_reducible exact H2_) | (have H2_ := (Option.bind_some _ _).symm.trans H; with_reducible exact H2_) | with_reducible exact H | (rw [hy196]; exact H) | exact H
        have Ny196 := Aside0.mk hy196
        clear hy196
        by_cases c74 : y193.length + y196.length < 1954687338268
        ·rw [if_pos c74] at H
         have LMc74 := Aside0.mk c74
         clear c74
         obtain ⟨y199, hy199⟩ : ∃ y_ : List (S142), y_ = (y193 ++ y196) := ⟨_, rfl⟩
         replace H : (some y199) = some r := by first | (rw [hy199]; with_reducible exact H) | (have H2_ := (Option.bind_some _ _).symm.trans H; rw [hy199]; with_reducible exact H2_) | (have H2_ := (Option.bind_some _ _).symm.trans H; with_reducible exact H2_) | with_reducible exact H | (rw [hy199]; exact H) | exact H
         have Ny199 := Aside0.mk hy199
         clear hy199
         obtain rfl := Option.some.inj H
         have hcz75_0 : wr.cell? ⟨B1, 0, none⟩ = some (.int .i64 a1_0) := xvc BK1.out
         have hcz75_1 : wr.cell? ⟨B1, 1, none⟩ = some (.int .i64 a1_1) := xvc BK1.out
         have hcz75_2 : wr.cell? ⟨B1, 2, none⟩ = some (.int .i64 a1_2) := xvc BK1.out
         have hcz75_3 : wr.cell? ⟨B1, 3, none⟩ = some (.int .i64 a1_3) := xvc BK1.out
         have hcz75_4 : wr.cell? ⟨B1, 4, none⟩ = some (.int .i64 a1_4) := xvc BK1.out
         have hcz75_5 : wr.cell? ⟨B1, 5, none⟩ = some (.int .i64 a1_5) := xvc BK1.out
         have hfz75_0 := blk_frozen BK1.out 0
         have hfz75_1 := blk_frozen BK1.out 1
         have hfz75_2 := blk_frozen BK1.out 2
         have hfz75_3 := blk_frozen BK1.out 3
         have hfz75_4 := blk_frozen BK1.out 4
         have hfz75_5 := blk_frozen BK1.out 5
         try go_wp2_with (first | ((with_reducible refine gate_builtin (b := .append) (xs := #[.tmp 91, .tmp 98]) rfl ?_); at_builtin; refine Kd.R_append k142 (w0 := w) w.heap.size rfl (.tmp 91) (.tmp 98) 87 142 (.agg #[(.int .i64 0), (.int .i64 0), (.int .i64 0), (.int .i64 0), (.int .i64 0), (.int .i64 0), (.slice none 0 0)]) 72 rfl Try.underlying87 info142 rfl (by decide) (by omega) u5 x5_1 (⟨10, 4, 4, 0, (-1), a1_1, NRow.nil⟩ : S142) [.int .i64 10, .int .i64 4, .int .i64 4, .int .i64 0, .int .i64 (-1), .int .i64 a1_1, .slice none 0 0] (fun _ => True) (fun _ => False) rfl rfl ?aP (fun _ hk => hk.elim) ?aF ?aO ?aB ?aS ?aL ?_; (case aP => exact k142_mkM _ _ _ (⟨10, 4, 4, 0, (-1), a1_1, NRow.nil⟩ : S142)); (case aB => exact wv2); (case aF => exact (fun _ _ => trivial)); (case aO => exact (xvr HO_5.out)); (case aS => exact (below_size wv2)); (case aL => have := LMc71.out; omega); intro v188 w76 ho hb hg hat; rw [← Ny187.out] at ho; have n0_ := Aside0.mk (blk_grown (g := B1) (o := .cells #[.int .i64 a1_0, .int .i64 a1_1, .int .i64 a1_2, .int .i64 a1_3, .int .i64 a1_4, .int .i64 a1_5] 25 (0, 0)) (xvb BK1.out) hg (Kd.R_ne HO_5.out BK1.out (by decide))); have n1_ := Aside0.mk (hb); have n2_ := Aside0.mk (ho); clear BK1; clear HB; clear HO_5; have BK1 := n0_; have HB := n1_; have HO189 := n2_; clear n0_ n1_ n2_; clear ho hb hg hat) | ((with_reducible refine gate_callee (f := 184) rfl ?_); refine goesL_ (some 101) rfl rfl Try.func184 (by kernel_rfl) rfl #[.int .i64 1] rfl wv1 ?_; (with_reducible refine (spec_l09Mask.calls 1 t190 _ A72.out).mono ?_); rintro e w77 ⟨v191, rfl, ho0, hb⟩; refine ⟨_, rfl, ?_⟩; have n0_ := Aside0.mk (Kd.R_elder' (xvr HO189.out) (Kd.R_base ho0) hb); have n1_ := Aside0.mk (Kd.R_lower (Kd.R_new' ho0 (Kd.R_lt (xvr HO189.out))) (below_size wv2)); have n2_ := Aside0.mk (blk_below (g := B1) (o := .cells #[.int .i64 a1_0, .int .i64 a1_1, .int .i64 a1_2, .int .i64 a1_3, .int .i64 a1_4, .int .i64 a1_5] 25 (0, 0)) (xvb BK1.out) hb); have n3_ := Aside0.mk (below_step wv2 hb); clear HO189; clear BK1; clear HB; have HO189 := n0_; have HO192 := n1_; have BK1 := n2_; have HB := n3_; clear n0_ n1_ n2_ n3_; (try clear hb); (try clear hb2); (try clear hk); (try clear hi); (try clear ho0); obtain ⟨Ao79, co79, eo79⟩ := Kd.R_slice HO192.out; subst eo79) | ((with_reducible refine gate_builtin (b := .append) (xs := #[.tmp 100, .tmp 101]) rfl ?_); at_builtin; refine Kd.R_append_rows k142 (w0 := w) w.heap.size rfl (.tmp 100) (.tmp 101) 87 142 (.agg #[(.int .i64 0), (.int .i64 0), (.int .i64 0), (.int .i64 0), (.int .i64 0), (.int .i64 0), (.slice none 0 0)]) 72 rfl Try.underlying87 info142 rfl (by decide) (by omega) v188 y187 t190 _ _ _ (fun k_ => some k_ ≠ (.slice Ao79 t190.length co79 : Value).ownBlock) (fun _ => False) rfl rfl ?aO ?aR (fun _ _ h => h) (fun _ h => h.elim) ?aF ?aB ?aS ?aL ?_; (case aR => repeat (first | exact (Kd.R_reads' HO192.out).2.2 | (with_reducible refine Kd.C_alloc ?_ _) | (with_reducible refine Kd.C_drewN ?_ _) | (with_reducible refine Kd.C_drew ?_))); (case aB => exact wv2); (case aF => exact (fun k_ hk => Kd.fresh' (Kd.R_lt (xvr HO192.out)) k_ hk)); (case aO => exact (by (with_reducible repeat (first | apply Kd.R_alloc | apply Kd.R_drewN | apply Kd.R_drew)); exact Kd.R_mono HO189.out (fun _ hk => hk.2))); (case aS => exact (below_size wv2)); (case aL => have := LMc73.out; omega); intro v194 w78 ho hb hg hat; rw [← Ny193.out] at ho; have n0_ := Aside0.mk (blk_grown (g := B1) (o := .cells #[.int .i64 a1_0, .int .i64 a1_1, .int .i64 a1_2, .int .i64 a1_3, .int .i64 a1_4, .int .i64 a1_5] 25 (0, 0)) (xvb BK1.out) hg (Kd.R_ne HO189.out BK1.out (by decide))); have n1_ := Aside0.mk (Kd.R_after (ok := (fun _ => True)) (xvr HO192.out) hg hat); have n2_ := Aside0.mk (hb); have n3_ := Aside0.mk (ho); clear BK1; clear HO192; clear HB; clear HO189; have BK1 := n0_; have HO192 := n1_; have HB := n2_; have HO195 := n3_; clear n0_ n1_ n2_ n3_; clear ho hb hg hat))
         have n0_ := Aside0.mk (Kd.R_drew HO192.out)
         have n1_ := Aside0.mk (Kd.R_drew HO195.out)
         have n2_ := Aside0.mk (blk_drew BK1.out)
         have n3_ := Aside0.mk (below_drew1 HB.out)
         clear HO192
         clear HO195
         clear BK1
         clear HB
         have HO192 := n0_
         have HO195 := n1_
         have BK1 := n2_
         have HB := n3_
         clear n0_ n1_ n2_ n3_
         refine start_ (n := 19) (S := fun w' => w'.cell? ⟨B1, 0, none⟩ = some (.int .i64 a1_0) ∧ w'.cell? ⟨B1, 1, none⟩ = some (.int .i64 a1_1) ∧ w'.cell? ⟨B1, 2, none⟩ = some (.int .i64 a1_2) ∧ w'.cell? ⟨B1, 3, none⟩ = some (.int .i64 a1_3) ∧ w'.cell? ⟨B1, 4, none⟩ = some (.int .i64 a1_4) ∧ w'.cell? ⟨B1, 5, none⟩ = some (.int .i64 a1_5)) (ds := []) (zv_.bm 19 0) (by kernel_rfl) rfl rfl ⟨xvc BK1.out, xvc BK1.out, xvc BK1.out, xvc BK1.out, xvc BK1.out, xvc BK1.out⟩ (fun hHeld => ?_); refine with_tabW spec_l09Fold.tab19 spec_l09Fold.bits19 (fun HT_ HW_ => ?_)
         generalize w78.drew = w80 at HO192 HO195 BK1 HB hHeld ⊢
         refine zv_.pa (i := 0) (N := some 103) (zv_.bm 19 1) HT_.out ?_
         refine zv_.pa (i := 1) (N := some 104) (zv_.bm 19 3) HT_.out ?_
         refine zv_.pa (i := 2) (N := some 105) (zv_.bm 19 7) HT_.out ?_
         refine zv_.pa (i := 3) (N := some 106) (zv_.bm 19 15) HT_.out ?_
         refine zv_.pa (i := 6) (N := some 109) (zv_.bm 19 79) HT_.out ?_
         refine zv_.pa (i := 7) (N := some 110) (zv_.bm 19 207) HT_.out ?_
         refine zv_.pa (i := 8) (N := some 111) (zv_.bm 19 463) HT_.out ?_
         refine zv_.pa (i := 11) (N := some 114) (zv_.bm 19 2511) HT_.out ?_
         refine zv_.pa (i := 12) (N := some 115) (zv_.bm 19 6607) HT_.out ?_
         refine zv_.pa (i := 13) (N := some 116) (zv_.bm 19 14799) HT_.out ?_
         refine zv_.ta (i := 4) (N := some 107) (zv_.bm 19 14815) rfl (take_ofW HT_.out HW_.out (by kernel_rfl)) (Or.inl ⟨(by rfl), wv13⟩) hHeld ?_
         refine zv_.pa (i := 5) (N := some 108) (zv_.bm 19 14847) HT_.out ?_
         refine zv_.ta (i := 9) (N := some 112) (zv_.bm 19 15359) rfl (take_ofW HT_.out HW_.out (by kernel_rfl)) (Or.inl ⟨(by rfl), wv13⟩) hHeld ?_
         refine zv_.pa (i := 10) (N := some 113) (zv_.bm 19 16383) HT_.out ?_
         refine zv_.ta (i := 14) (N := some 117) (zv_.bm 19 32767) rfl (take_ofW HT_.out HW_.out (by kernel_rfl)) (Or.inl ⟨(by rfl), wv13⟩) hHeld ?_
         refine zv_.pa (i := 15) (N := some 118) (zv_.bm 19 65535) HT_.out ?_
         refine one_ (i := 16) (N := some 119) (zv_.bm 19 131071) rfl rfl (one_of HT_.out (by kernel_rfl)) (by decide) (fun K hK => ?_)
         refine Kd.R_lit_step k142 _ 142 ?hg (N := 119) ?hd (xs := ([(⟨0, 0, 0, 1, 3, a1_2, NRow.nil⟩ : S142), (⟨4, 0, 0, 4, 3, a1_1, NRow.nil⟩ : S142), (⟨1, 0, 0, 1, 3, a1_2, NRow.nil⟩ : S142)] : List (S142))) (inner := [.int .i64 0, .int .i64 0, .int .i64 0, .int .i64 1, .int .i64 3, .int .i64 a1_2, .slice none 0 0, .int .i64 4, .int .i64 0, .int .i64 0, .int .i64 4, .int .i64 3, .int .i64 a1_1, .slice none 0 0, .int .i64 1, .int .i64 0, .int .i64 0, .int .i64 1, .int .i64 3, .int .i64 a1_2, .slice none 0 0]) (ok := fun _ => True) (okp := fun _ => True) ?hr ?hp (fun _ hk => hk) trivial (Below.refl _ _) (Nat.le_refl _) (by simp) ?_; (case hd => rfl); (case hg => rfl); (case hr => first | (go_simp; done) | (go_simp; rfl)); (case hp => exact (Reps.c7 (show Kd.M k142 _ _ _ (⟨0, 0, 0, 1, 3, a1_2, NRow.nil⟩ : S142) [.int .i64 0, .int .i64 0, .int .i64 0, .int .i64 1, .int .i64 3, .int .i64 a1_2, .slice none 0 0] from (k142_mkM _ _ _ (⟨0, 0, 0, 1, 3, a1_2, NRow.nil⟩ : S142) )) (Reps.c7 (show Kd.M k142 _ _ _ (⟨4, 0, 0, 4, 3, a1_1, NRow.nil⟩ : S142) [.int .i64 4, .int .i64 0, .int .i64 0, .int .i64 4, .int .i64 3, .int .i64 a1_1, .slice none 0 0] from (k142_mkM _ _ _ (⟨4, 0, 0, 4, 3, a1_1, NRow.nil⟩ : S142) )) (Reps.c7 (show Kd.M k142 _ _ _ (⟨1, 0, 0, 1, 3, a1_2, NRow.nil⟩ : S142) [.int .i64 1, .int .i64 0, .int .i64 0, .int .i64 1, .int .i64 3, .int .i64 a1_2, .slice none 0 0] from (k142_mkM _ _ _ (⟨1, 0, 0, 1, 3, a1_2, NRow.nil⟩ : S142) )) (Reps.none _ _)))))
         intro v197 w81 ho82 hb hg_ hnew_
         clear hg_ hnew_
         (first | rw [← Ny196.out] at ho82 | (simp only [Int.reduceToNat] at ho82; rw [← Ny196.out] at ho82))
         have n0_ := Aside0.mk (Kd.R_elder' (xvr HO192.out) (Kd.R_base ho82) hb)
         have n1_ := Aside0.mk (Kd.R_elder' (xvr HO195.out) (Kd.R_base ho82) hb)
         have n2_ := Aside0.mk (Kd.R_lower (Kd.R_new' (Kd.R_new' ho82 (Kd.R_lt (xvr HO192.out))) (Kd.R_lt (xvr HO195.out))) (below_size wv2))
         have n3_ := Aside0.mk (blk_below (g := B1) (o := .cells #[.int .i64 a1_0, .int .i64 a1_1, .int .i64 a1_2, .int .i64 a1_3, .int .i64 a1_4, .int .i64 a1_5] 25 (0, 0)) (xvb BK1.out) hb)
         have n4_ := Aside0.mk (below_step wv2 hb)
         clear HO192
         clear HO195
         clear BK1
         clear HB
         have HO192 := n0_
         have HO195 := n1_
         have HO198 := n2_
         have BK1 := n3_
         have HB := n4_
         clear n0_ n1_ n2_ n3_ n4_
         clear hb ho82
         obtain ⟨Ao84, co84, eo84⟩ := Kd.R_slice HO198.out
         (first | subst eo84 | (injection eo84 with f1_ f2_ f3_; have f4_ := f1_.symm; have f5_ := f3_.symm; clear f1_ f2_ f3_; subst f4_; subst f5_))
         refine hK.out _ _ ⟨xvc BK1.out, xvc BK1.out, xvc BK1.out, xvc BK1.out, xvc BK1.out, xvc BK1.out⟩ (fun hHeld => ?_)
         clear hK K
         refine norm_ (a' := ?_) ?_ ?_
         rotate_left
         ·show Act.put _ (some 119) _ = _
          simp only [Act.put, List.setIfInBounds_toArray, List.set_cons_zero, List.set_cons_succ, i64_w, i32_w]
          rfl
         refine one_ (i := 17) (N := some 120) (zv_.bm 19 262143) rfl rfl (one_of HT_.out (by kernel_rfl)) (by decide) (fun K hK => ?_)
         refine Kd.R_append_rows_step k142 (w0 := w) w.heap.size (by rfl) (.tmp 103) (.tmp 119) 87 142 (.agg #[(.int .i64 0), (.int .i64 0), (.int .i64 0), (.int .i64 0), (.int .i64 0), (.int .i64 0), (.slice none 0 0)]) 72 rfl Try.underlying87 info142 rfl (by decide) (by omega) v194 y193 y196 _ _ _ (fun k_ => some k_ ≠ (.slice Ao79 t190.length co79 : Value).ownBlock ∧ some k_ ≠ (.slice Ao84 y196.length co84 : Value).ownBlock) (fun _ => False) rfl rfl ?aO ?aR (fun _ _ h => h) (fun _ h => h.elim) ?aF ?aB ?aS ?aL ?_
         (case aR => repeat (first | exact (Kd.R_reads' HO198.out).2.2 | (with_reducible refine Kd.C_alloc ?_ _) | (with_reducible refine Kd.C_drewN ?_ _) | (with_reducible refine Kd.C_drew ?_)))
         (case aB => exact wv2)
         (case aF => exact (fun k_ hk => ⟨Kd.fresh' (Kd.R_lt (xvr HO192.out)) k_ hk, Kd.fresh' (Kd.R_lt (xvr HO198.out)) k_ hk⟩))
         (case aO => exact (xvr HO195.out))
         (case aS => exact (below_size wv2))
         (case aL => have := LMc74.out; omega)
         intro v200 w83 ho hb hg hat
         rw [← Ny199.out] at ho
         have n0_ := Aside0.mk (blk_grown (g := B1) (o := .cells #[.int .i64 a1_0, .int .i64 a1_1, .int .i64 a1_2, .int .i64 a1_3, .int .i64 a1_4, .int .i64 a1_5] 25 (0, 0)) (xvb BK1.out) hg (Kd.R_ne HO195.out BK1.out (by decide)))
         have n1_ := Aside0.mk (Kd.R_after (ok := (fun k_ => some k_ ≠ (.slice Ao84 y196.length co84 : Value).ownBlock)) (by (with_reducible repeat (first | apply Kd.R_alloc | apply Kd.R_drewN | apply Kd.R_drew)); exact Kd.R_mono HO192.out (fun _ hk => ⟨hk.2, hk.1.2⟩)) hg hat)
         have n2_ := Aside0.mk (Kd.R_after (ok := (fun k_ => some k_ ≠ (.slice Ao79 t190.length co79 : Value).ownBlock)) (by (with_reducible repeat (first | apply Kd.R_alloc | apply Kd.R_drewN | apply Kd.R_drew)); exact Kd.R_mono HO198.out (fun _ hk => ⟨hk.1.2, hk.2⟩)) hg hat)
         have n3_ := Aside0.mk (hb)
         have n4_ := Aside0.mk (ho)
         clear BK1
         clear HO192
         clear HO198
         clear HB
         clear HO195
         have BK1 := n0_
         have HO192 := n1_
         have HO198 := n2_
         have HB := n3_
         have HO201 := n4_
         clear n0_ n1_ n2_ n3_ n4_
         clear ho hb hg hat
         refine hK.out _ _ ⟨xvc BK1.out, xvc BK1.out, xvc BK1.out, xvc BK1.out, xvc BK1.out, xvc BK1.out⟩ (fun hHeld => ?_)
         clear hK K
         refine norm_ (a' := ?_) ?_ ?_
         rotate_left
         ·show Act.put _ (some 120) _ = _
          simp only [Act.put, List.setIfInBounds_toArray, List.set_cons_zero, List.set_cons_succ, i64_w, i32_w]
          rfl
         refine zv_.pa (i := 18) (N := some 4) (zv_.bm 19 524287) HT_.out ?_
         refine done_ (done_of HT_.out (by kernel_rfl)) ?_
         try go_wp2
         go_ret
         exact ⟨_, wv3, (by (with_reducible repeat (first | apply Kd.R_alloc | apply Kd.R_drewN | apply Kd.R_drew)); exact Kd.R_mono HO201.out (fun _ hk => trivial)), wv2⟩
        ·rw [if_neg c74] at H
         exact absurd H (by simp)
       ·rw [if_neg c73] at H
        exact absurd H (by simp)
      ·rw [if_neg c71] at H
       exact absurd H (by simp)

end Go.Proofs.Ytpfoeologjacfaa.V
