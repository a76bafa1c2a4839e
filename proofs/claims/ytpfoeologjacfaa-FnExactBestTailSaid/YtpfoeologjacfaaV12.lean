-- Written by a program of this session (wip/tools) over the kit's print.
-- COMPACT
import Derived.Test.YtpfoeologjacfaaV0
import Derived.Test.YtpfoeologjacfaaV8
import Derived.Test.YtpfoeologjacfaaV9
import Derived.Test.YtpfoeologjacfaaV10
import Derived.Test.YtpfoeologjacfaaV11
namespace Go.Proofs.Ytpfoeologjacfaa.V
open Go.RowKit Go.Proofs.YtpfoeologjacfaaW.PrintWords Go.Proofs.YtpfoeologjacfaaW.PrintLast Go.Proofs.YtpfoeologjacfaaW.PrintMore
attribute [local go_sem] max2_int min2_int max_two min_two max_three min_three max_four min_four   -- for this text's walks alone
set_option linter.unusedVariables false
set_option linter.unusedSimpArgs false

/-! ### impl_mapCode: function 133 -/
mutual
def impl_mapCode.l0 : Nat → Int → List (S142) → Int → Int → Int → Int → Int → Int → Int → Int → Int → Int → Int → Option ((List (S142)))
 | 0, _, _, _, _, _, _, _, _, _, _, _, _, _ => none
 | k + 1, x2, x7, x8, x9, x10, x432000, x432001, x433000, x433001, x433002, x433003, x433004, x433005 => if x10 < x9 then ((impl_strip.f x433000 x433001 x433002 x433003 x433004 x433005 x10 (-1)).bind fun t433 => (if x7.length + t433.length < 1954687338268 then (impl_mapCode.l0 k x2 (x7 ++ t433) x8 x9 (wrap64 (x10 + x432000)) x432000 x432001 x433000 x433001 x433002 x433003 x433004 x433005) else (none))) else (if x8 = 0 then (some x7) else (if x2 = 0 then ((impl_firstLanes.f x8).bind fun t439 => (if x7.length + t439.length < 1954687338268 then ((some (x7 ++ t439 : List (S142))).bind fun y442 => ((impl_strip.f x433000 x433001 x433002 x433003 x433004 x433005 x9 3).bind fun t445 => (if y442.length + t445.length < 1954687338268 then (some (y442 ++ t445)) else (none)))) else (none))) else (if x2 = 1 then ((impl_firstLanes.f 1).bind fun t451 => (if x7.length + t451.length < 1954687338268 then (impl_mapCode.l1 k (x7 ++ t451) x9 x433000 x433001 x433002 x433003 x433004 x433005) else (none))) else ((impl_strip.f x433000 x433001 x433002 x433003 x433004 x433005 (wrap64 (x433005 - x432000)) (-1)).bind fun t463 => (if x7.length + t463.length < 1954687338268 then (some (x7 ++ t463)) else (none))))))
def impl_mapCode.l1 : Nat → List (S142) → Int → Int → Int → Int → Int → Int → Int → Option ((List (S142)))
 | 0, _, _, _, _, _, _, _, _ => none
 | k + 1, x7, x11, x433000, x433001, x433002, x433003, x433004, x433005 => if x11 < x433005 then ((impl_strip.f x433000 x433001 x433002 x433003 x433004 x433005 x11 3).bind fun t457 => (if x7.length + t457.length < 1954687338268 then (impl_mapCode.l1 k (x7 ++ t457) (wrap64 (x11 + 1)) x433000 x433001 x433002 x433003 x433004 x433005) else (none))) else (some x7)
end
def impl_mapCode.f (k : Nat) (a0_0 : Int) (a0_1 : Int) (a1_0 : Int) (a1_1 : Int) (a1_2 : Int) (a1_3 : Int) (a1_4 : Int) (a1_5 : Int) (a2 : Int) : Option ((List (S142))) := if a0_0 = 0 then (none) else (impl_mapCode.l0 k a2 ([] : List (S142)) (Int.tmod a1_5 a0_0) (wrap64 (a1_5 - (Int.tmod a1_5 a0_0))) 0 a0_0 a0_1 a1_0 a1_1 a1_2 a1_3 a1_4 a1_5)
theorem impl_mapCode.mono_l : ∀ k, (∀ y0 y1 y2 y3 y4 y5 y6 y7 y8 y9 y10 y11 y12, LeO (impl_mapCode.l0 k y0 y1 y2 y3 y4 y5 y6 y7 y8 y9 y10 y11 y12) (impl_mapCode.l0 (k + 1) y0 y1 y2 y3 y4 y5 y6 y7 y8 y9 y10 y11 y12)) ∧ (∀ y0 y1 y2 y3 y4 y5 y6 y7, LeO (impl_mapCode.l1 k y0 y1 y2 y3 y4 y5 y6 y7) (impl_mapCode.l1 (k + 1) y0 y1 y2 y3 y4 y5 y6 y7))
 | 0 => ⟨fun _ _ _ _ _ _ _ _ _ _ _ _ _ r h => by simp [impl_mapCode.l0] at h, fun _ _ _ _ _ _ _ _ r h => by simp [impl_mapCode.l1] at h⟩
 | k + 1 => by
  obtain ⟨ih0, ih1⟩ := impl_mapCode.mono_l k
  refine ⟨?_, ?_⟩
  ·intro y0 y1 y2 y3 y4 y5 y6 y7 y8 y9 y10 y11 y12
   unfold impl_mapCode.l0
   repeat' first
   | (with_reducible exact ih0 _ _ _ _ _ _ _ _ _ _ _ _ _)
   | (with_reducible exact ih1 _ _ _ _ _ _ _ _)
   | (with_reducible exact LeO.refl _)
   | (with_reducible exact LeO.none _)
   | (with_reducible refine LeO.ite ?_ ?_)
   | (with_reducible refine LeO.bind ?_ (fun _ => ?_))
   | exact ih0 _ _ _ _ _ _ _ _ _ _ _ _ _
   | exact ih1 _ _ _ _ _ _ _ _
   | exact LeO.none _
   | refine LeO.ite ?_ ?_
   | refine LeO.bind ?_ (fun _ => ?_)
  ·intro y0 y1 y2 y3 y4 y5 y6 y7
   unfold impl_mapCode.l1
   repeat' first
   | (with_reducible exact ih0 _ _ _ _ _ _ _ _ _ _ _ _ _)
   | (with_reducible exact ih1 _ _ _ _ _ _ _ _)
   | (with_reducible exact LeO.refl _)
   | (with_reducible exact LeO.none _)
   | (with_reducible refine LeO.ite ?_ ?_)
   | (with_reducible refine LeO.bind ?_ (fun _ => ?_))
   | exact ih0 _ _ _ _ _ _ _ _ _ _ _ _ _
   | exact ih1 _ _ _ _ _ _ _ _
   | exact LeO.none _
   | refine LeO.ite ?_ ?_
   | refine LeO.bind ?_ (fun _ => ?_)
theorem impl_mapCode.mono : ∀ a0 a1 a2 a3 a4 a5 a6 a7 a8 k, LeO (impl_mapCode.f k a0 a1 a2 a3 a4 a5 a6 a7 a8) (impl_mapCode.f (k + 1) a0 a1 a2 a3 a4 a5 a6 a7 a8) := by
 intro a0 a1 a2 a3 a4 a5 a6 a7 a8 k
 obtain ⟨ih0, ih1⟩ := impl_mapCode.mono_l k
 unfold impl_mapCode.f
 repeat' first
   | (with_reducible exact ih0 _ _ _ _ _ _ _ _ _ _ _ _ _)
   | (with_reducible exact ih1 _ _ _ _ _ _ _ _)
   | (with_reducible exact LeO.refl _)
   | (with_reducible exact LeO.none _)
   | (with_reducible refine LeO.ite ?_ ?_)
   | (with_reducible refine LeO.bind ?_ (fun _ => ?_))
   | exact ih0 _ _ _ _ _ _ _ _ _ _ _ _ _
   | exact ih1 _ _ _ _ _ _ _ _
   | exact LeO.none _
   | refine LeO.ite ?_ ?_
   | refine LeO.bind ?_ (fun _ => ?_)
def impl_mapCode.T11 : Bool × List (List Nat × List Nat) := (true, [([], []), ([], []), ([1], [1]), ([0, 2, 2], [0, 2]), ([], []), ([], []), ([4, 5, 3], [4, 5]), ([3, 6, 6], [3, 6]), ([7, 7, 0, 1, 2, 3, 4, 5, 6, 7], [0, 7])])
def impl_mapCode.B11 : List Nat := [0, 0, 2, 7, 0, 0, 63, 127, 255]
theorem impl_mapCode.tab11 : rtab .any (opsOf Try.f133 11) = impl_mapCode.T11 := by kernel_rfl
theorem impl_mapCode.bits11 : waitsOk impl_mapCode.T11.2 impl_mapCode.B11 = true := by kernel_rfl
set_option maxHeartbeats 8000000 in
set_option maxRecDepth 100000 in
theorem impl_mapCode.calls (k : Nat) (a0_0 : Int) (a0_1 : Int) (a1_0 : Int) (a1_1 : Int) (a1_2 : Int) (a1_3 : Int) (a1_4 : Int) (a1_5 : Int) (a2 : Int) (r : List (S142)) (w : World) (h : impl_mapCode.f k a0_0 a0_1 a1_0 a1_1 a1_2 a1_3 a1_4 a1_5 a2 = some r) :
  Calls Try.prog 133 #[.agg #[.int .i64 a0_0, .int .i64 a0_1], .agg #[.int .i64 a1_0, .int .i64 a1_1, .int .i64 a1_2, .int .i64 a1_3, .int .i64 a1_4, .int .i64 a1_5], .int .i64 a2] w fun e w' => ∃ v0_ : Value, e = .returned (v0_) ∧ Kd.R k142 142 w' w.heap.size (fun _ => True) v0_ r ∧ Below w.heap.size w w' := by
 have hu31 := Try.underlying31
 have hu25 := Try.underlying25
 have HB := Aside0.mk (Below.refl w.heap.size w)
 have H : (if a0_0 = 0 then (none) else (impl_mapCode.l0 k a2 ([] : List (S142)) (Int.tmod a1_5 a0_0) (wrap64 (a1_5 - (Int.tmod a1_5 a0_0))) 0 a0_0 a0_1 a1_0 a1_1 a1_2 a1_3 a1_4 a1_5)) = some r := h
 clear h
 by_cases c4 : a0_0 = 0
 ·rw [if_pos c4] at H
  exact absurd H (by simp)
 ·rw [if_neg c4] at H
  have c4b0 : (a0_0 == 0) = false := beq_eq_false_iff_ne.mpr c4
  have c4b1 : (a0_0 != 0) = true := bne_iff_ne.mpr c4
  have H' := Aside0.mk H
  clear H
  go_enter Try.func133, Try.ntmps133
  go_wp2_with (first | ((with_reducible refine gate_dst (N := 3) rfl ?_); refine box_event ?hg (N := 3) ?hd (cs := #[.int .i64 a0_0, .int .i64 a0_1]) (t := 31) ?hr ?_; (case hd => rfl); (case hg => rfl); (case hr => first | (go_simp; done) | (go_simp; rfl)); intro gb431 hg w5 hbox hb; have n0_ := Aside0.mk (below_step (xvo HB.out) hb); have n1_ := Aside0.mk (hbox); have n2_ := Aside0.mk ((by rw [hg]; exact (below_size (xvo HB.out)) : w.heap.size ≤ gb431)); have n3_ := Aside0.mk ((by rw [hg]; exact (below_size (xvo HB.out)) : w.heap.size ≤ gb431)); clear HB; have HB := n0_; have BK431 := n1_; have GW431 := n2_; have GE431 := n3_; clear n0_ n1_ n2_ n3_; clear hb hbox hg) | ((with_reducible refine gate_dst (N := 4) rfl ?_); refine box_event ?hg (N := 4) ?hd (cs := #[.int .i64 a1_0, .int .i64 a1_1, .int .i64 a1_2, .int .i64 a1_3, .int .i64 a1_4, .int .i64 a1_5]) (t := 25) ?hr ?_; (case hd => rfl); (case hg => rfl); (case hr => first | (go_simp; done) | (go_simp; rfl)); intro gb432 hg w6 hbox hb; have n0_ := Aside0.mk (xvl BK431.out hb); have n1_ := Aside0.mk (below_step wv53 hb); have n2_ := Aside0.mk (hbox); have n3_ := Aside0.mk ((by rw [hg]; exact (below_size wv53) : w.heap.size ≤ gb432)); have n4_ := Aside0.mk ((by rw [hg]; exact (below_size wv53) : w.heap.size ≤ gb432)); have n5_ := Aside0.mk ((by rw [hg]; exact Nat.ne_of_lt (blk_lt (g := gb431) (o := .cells #[.int .i64 a0_0, .int .i64 a0_1] 31 (0, 0)) (xvb BK431.out)) : gb431 ≠ gb432)); have n6_ := Aside0.mk ((by rw [hg]; exact Nat.ne_of_gt (blk_lt (g := gb431) (o := .cells #[.int .i64 a0_0, .int .i64 a0_1] 31 (0, 0)) (xvb BK431.out)) : gb432 ≠ gb431)); clear BK431; clear HB; have BK431 := n0_; have HB := n1_; have BK432 := n2_; have GW432 := n3_; have GE432 := n4_; have NB431_432 := n5_; have NB432_431 := n6_; clear n0_ n1_ n2_ n3_ n4_ n5_ n6_; clear hb hbox hg; have hnb7 := NB432_431.out; have hnc7 := NB431_432.out; have hcz8_0 : w6.cell? ⟨gb432, 0, none⟩ = some (.int .i64 a1_0) := xvc BK432.out; have hcz8_1 : w6.cell? ⟨gb432, 1, none⟩ = some (.int .i64 a1_1) := xvc BK432.out; have hcz8_2 : w6.cell? ⟨gb432, 2, none⟩ = some (.int .i64 a1_2) := xvc BK432.out; have hcz8_3 : w6.cell? ⟨gb432, 3, none⟩ = some (.int .i64 a1_3) := xvc BK432.out; have hcz8_4 : w6.cell? ⟨gb432, 4, none⟩ = some (.int .i64 a1_4) := xvc BK432.out; have hcz8_5 : w6.cell? ⟨gb432, 5, none⟩ = some (.int .i64 a1_5) := xvc BK432.out; have hfz8_0 := blk_frozen BK432.out 0; have hfz8_1 := blk_frozen BK432.out 1; have hfz8_2 := blk_frozen BK432.out 2; have hfz8_3 := blk_frozen BK432.out 3; have hfz8_4 := blk_frozen BK432.out 4; have hfz8_5 := blk_frozen BK432.out 5; have hcz9_0 : w6.cell? ⟨gb431, 0, none⟩ = some (.int .i64 a0_0) := xvc BK431.out; have hcz9_1 : w6.cell? ⟨gb431, 1, none⟩ = some (.int .i64 a0_1) := xvc BK431.out; have hfz9_0 := blk_frozen BK431.out 0; have hfz9_1 := blk_frozen BK431.out 1))
  go_loopg [7, 10] k (fun kq v7 v10 w' => ∃ (x7_1 : List (S142)) (x10_1 : Int), v10 = .int .i64 x10_1 ∧ Aside0 (impl_mapCode.l0 kq a2 x7_1 (Int.tmod a1_5 a0_0) (wrap64 (a1_5 - (Int.tmod a1_5 a0_0))) x10_1 a0_0 a0_1 a1_0 a1_1 a1_2 a1_3 a1_4 a1_5 = some r) ∧ Aside0 (kq ≤ k) ∧ Aside0 (Kd.R k142 142 w' w.heap.size (fun _ => True) v7 x7_1) ∧ Aside0 (w'.heap[gb431]? = some (.cells #[.int .i64 a0_0, .int .i64 a0_1] 31 (0, 0))) ∧ Aside0 (w'.heap[gb432]? = some (.cells #[.int .i64 a1_0, .int .i64 a1_1, .int .i64 a1_2, .int .i64 a1_3, .int .i64 a1_4, .int .i64 a1_5] 25 (0, 0))) ∧ Aside0 (Below w.heap.size w w'))
  case atStart => exact ⟨(([] : List (S142))), (0), wv6, H', ⟨Nat.le_refl _⟩, ⟨wv29⟩, ⟨(xvb BK431.out)⟩, ⟨(xvb BK432.out)⟩, ⟨wv7⟩⟩
  case round =>
   clear H'
   try clear c1
   try clear p2
   try clear c4
   try clear c4b0
   try clear c4b1
   try clear p6
   try clear c7
   try clear hcz8_0
   try clear hcz8_1
   try clear hcz8_2
   try clear hcz8_3
   try clear hcz8_4
   try clear hcz8_5
   try clear hcz9_0
   try clear hcz9_1
   try clear hfz8_0
   try clear hfz8_1
   try clear hfz8_2
   try clear hfz8_3
   try clear hfz8_4
   try clear hfz8_5
   try clear hfz9_0
   try clear hfz9_1
   obtain ⟨x7_1, x10_1, rfl, HA, HK1, HO_7, BK431, BK432, HB⟩ := hrel
   cases gk with
   | zero => exact absurd HA.out (by simp [impl_mapCode.l0])
   | succ k1 =>
    have H := HA.out
    clear HA
    simp only [impl_mapCode.l0] at H
    by_cases c10 : x10_1 < (wrap64 (a1_5 - (Int.tmod a1_5 a0_0)))
    ·rw [if_pos c10] at H
     have c10b0 : decide (x10_1 < (wrap64 (a1_5 - (Int.tmod a1_5 a0_0)))) = true := decide_eq_true c10
     clear c10
     replace H := Option.bind_eq_some_iff.mp H
     obtain ⟨t433, A110, H⟩ := H
     replace H : (if x7_1.length + t433.length < 1954687338268 then (impl_mapCode.l0 k1 a2 (x7_1 ++ t433) (Int.tmod a1_5 a0_0) (wrap64 (a1_5 - (Int.tmod a1_5 a0_0))) (wrap64 (x10_1 + a0_0)) a0_0 a0_1 a1_0 a1_1 a1_2 a1_3 a1_4 a1_5) else (none)) = some r := H
     have A11 := Aside0.mk A110
     clear A110
     by_cases c12 : x7_1.length + t433.length < 1954687338268
     ·rw [if_pos c12] at H
      have LMc12 := Aside0.mk c12
      clear c12
      obtain ⟨y436, hy436⟩ : ∃ y_ : List (S142), y_ = (x7_1 ++ t433) := ⟨_, rfl⟩
      replace H : (impl_mapCode.l0 k1 a2 y436 (Int.tmod a1_5 a0_0) (wrap64 (a1_5 - (Int.tmod a1_5 a0_0))) (wrap64 (x10_1 + a0_0)) a0_0 a0_1 a1_0 a1_1 a1_2 a1_3 a1_4 a1_5) = some r := by first | (rw [hy436]; with_reducible exact H) | (have H2_ := (Option.bind_some _ _).symm.trans H; rw [hy436]; with_reducible exact H2_) | (have H2_ := (Option.bind_some _ _).symm.trans H; with_reducible exact H2_) | with_reducible exact H | (rw [hy436]; exact H) | exact H
      have Ny436 := Aside0.mk hy436
      clear hy436
      have H' := Aside0.mk H
      clear H
      have hnb13 := NB432_431.out
      have hnc13 := NB431_432.out
      have hcz14_0 : wr.cell? ⟨gb432, 0, none⟩ = some (.int .i64 a1_0) := xvc BK432.out
      have hcz14_1 : wr.cell? ⟨gb432, 1, none⟩ = some (.int .i64 a1_1) := xvc BK432.out
      have hcz14_2 : wr.cell? ⟨gb432, 2, none⟩ = some (.int .i64 a1_2) := xvc BK432.out
      have hcz14_3 : wr.cell? ⟨gb432, 3, none⟩ = some (.int .i64 a1_3) := xvc BK432.out
      have hcz14_4 : wr.cell? ⟨gb432, 4, none⟩ = some (.int .i64 a1_4) := xvc BK432.out
      have hcz14_5 : wr.cell? ⟨gb432, 5, none⟩ = some (.int .i64 a1_5) := xvc BK432.out
      have hfz14_0 := blk_frozen BK432.out 0
      have hfz14_1 := blk_frozen BK432.out 1
      have hfz14_2 := blk_frozen BK432.out 2
      have hfz14_3 := blk_frozen BK432.out 3
      have hfz14_4 := blk_frozen BK432.out 4
      have hfz14_5 := blk_frozen BK432.out 5
      go_wp2_with (first | ((with_reducible refine gate_callee (f := 189) rfl ?_); refine goesL_ (some 31) rfl rfl Try.func189 (by kernel_rfl) rfl #[.agg #[.int .i64 a1_0, .int .i64 a1_1, .int .i64 a1_2, .int .i64 a1_3, .int .i64 a1_4, .int .i64 a1_5], .int .i64 x10_1, .int .i64 (-1)] rfl wv1 ?_; (with_reducible refine (impl_strip.calls a1_0 a1_1 a1_2 a1_3 a1_4 a1_5 x10_1 (-1) t433 _ A11.out).mono ?_); rintro e w15 ⟨v434, rfl, ho0, hb⟩; refine ⟨_, rfl, ?_⟩; have n0_ := Aside0.mk (Kd.R_elder' (xvr HO_7.out) (Kd.R_base ho0) hb); have n1_ := Aside0.mk (Kd.R_lower (Kd.R_new' ho0 (Kd.R_lt (xvr HO_7.out))) (below_size wv7)); have n2_ := Aside0.mk (xvl BK431.out hb); have n3_ := Aside0.mk (xvl BK432.out hb); have n4_ := Aside0.mk (below_step wv7 hb); clear HO_7; clear BK431; clear BK432; clear HB; have HO_7 := n0_; have HO435 := n1_; have BK431 := n2_; have BK432 := n3_; have HB := n4_; clear n0_ n1_ n2_ n3_ n4_; (try clear hb); (try clear hb2); (try clear hk); (try clear hi); (try clear ho0); obtain ⟨Ao17, co17, eo17⟩ := Kd.R_slice HO435.out; subst eo17) | ((with_reducible refine gate_builtin (b := .append) (xs := #[.tmp 28, .tmp 31]) rfl ?_); at_builtin; refine Kd.R_append_rows k142 (w0 := w) w.heap.size rfl (.tmp 28) (.tmp 31) 87 142 (.agg #[(.int .i64 0), (.int .i64 0), (.int .i64 0), (.int .i64 0), (.int .i64 0), (.int .i64 0), (.slice none 0 0)]) 72 rfl Try.underlying87 info142 rfl (by decide) (by omega) u7 x7_1 t433 _ _ _ (fun k_ => some k_ ≠ (.slice Ao17 t433.length co17 : Value).ownBlock) (fun _ => False) rfl rfl ?aO ?aR (fun _ _ h => h) (fun _ h => h.elim) ?aF ?aB ?aS ?aL ?_; (case aR => repeat (first | exact (Kd.R_reads' HO435.out).2.2 | (with_reducible refine Kd.C_alloc ?_ _) | (with_reducible refine Kd.C_drewN ?_ _) | (with_reducible refine Kd.C_drew ?_))); (case aB => exact wv7); (case aF => exact (fun k_ hk => Kd.fresh' (Kd.R_lt (xvr HO435.out)) k_ hk)); (case aO => exact wv42); (case aS => exact (below_size wv7)); (case aL => have := LMc12.out; omega); intro v437 w16 ho hb hg hat; rw [← Ny436.out] at ho; have n0_ := Aside0.mk (blk_grown (g := gb431) (o := .cells #[.int .i64 a0_0, .int .i64 a0_1] 31 (0, 0)) (xvb BK431.out) hg (Kd.R_ne HO_7.out BK431.out (by decide))); have n1_ := Aside0.mk (blk_grown (g := gb432) (o := .cells #[.int .i64 a1_0, .int .i64 a1_1, .int .i64 a1_2, .int .i64 a1_3, .int .i64 a1_4, .int .i64 a1_5] 25 (0, 0)) (xvb BK432.out) hg (Kd.R_ne HO_7.out BK432.out (by decide))); have n2_ := Aside0.mk (Kd.R_after (ok := (fun _ => True)) (xvr HO435.out) hg hat); have n3_ := Aside0.mk (hb); have n4_ := Aside0.mk (ho); clear BK431; clear BK432; clear HO435; clear HB; clear HO_7; have BK431 := n0_; have BK432 := n1_; have HO435 := n2_; have HB := n3_; have HO438 := n4_; clear n0_ n1_ n2_ n3_ n4_; clear ho hb hg hat; have hcz18_0 : w16.cell? ⟨gb431, 0, none⟩ = some (.int .i64 a0_0) := xvc BK431.out; have hcz18_1 : w16.cell? ⟨gb431, 1, none⟩ = some (.int .i64 a0_1) := xvc BK431.out; have hfz18_0 := blk_frozen BK431.out 0; have hfz18_1 := blk_frozen BK431.out 1))
      go_roundg k1
      case measure => have := HK1.out; omega
      case rel => exact ⟨(y436), (wrap64 (x10_1 + a0_0)), wv6, H', ⟨wv60⟩, ⟨(by (with_reducible repeat (first | apply Kd.R_alloc | apply Kd.R_drewN | apply Kd.R_drew)); exact Kd.R_mono HO438.out (fun _ hk => trivial))⟩, ⟨(xvb BK431.out)⟩, ⟨(xvb BK432.out)⟩, ⟨wv7⟩⟩
     ·rw [if_neg c12] at H
      exact absurd H (by simp)
    ·rw [if_neg c10] at H
     have c10b0 : decide (x10_1 < (wrap64 (a1_5 - (Int.tmod a1_5 a0_0)))) = false := decide_eq_false c10
     clear c10
     by_cases c19 : (Int.tmod a1_5 a0_0) = 0
     ·rw [if_pos c19] at H
      have c19b0 : ((Int.tmod a1_5 a0_0) == 0) = true := beq_iff_eq.mpr c19
      have c19b1 : ((Int.tmod a1_5 a0_0) != 0) = false := bne_eq_false_iff_eq.mpr c19
      clear c19
      obtain rfl := Option.some.inj H
      go_wp2
      go_ret
      exact ⟨_, wv3, (xvr HO_7.out), wv7⟩
     ·rw [if_neg c19] at H
      have c19b0 : ((Int.tmod a1_5 a0_0) == 0) = false := beq_eq_false_iff_ne.mpr c19
      have c19b1 : ((Int.tmod a1_5 a0_0) != 0) = true := bne_iff_ne.mpr c19
      by_cases c20 : a2 = 0
      ·rw [if_pos c20] at H
       have c20b0 : (a2 == 0) = true := beq_iff_eq.mpr c20
       have c20b1 : (a2 != 0) = false := bne_eq_false_iff_eq.mpr c20
       clear c20
       replace H := Option.bind_eq_some_iff.mp H
       obtain ⟨t439, A210, H⟩ := H
       replace H : (if x7_1.length + t439.length < 1954687338268 then ((some (x7_1 ++ t439 : List (S142))).bind fun y442 => ((impl_strip.f a1_0 a1_1 a1_2 a1_3 a1_4 a1_5 (wrap64 (a1_5 - (Int.tmod a1_5 a0_0))) 3).bind fun t445 => (if y442.length + t445.length < 1954687338268 then (some (y442 ++ t445)) else (none)))) else (none)) = some r := H
       have A21 := Aside0.mk A210
       clear A210
       by_cases c22 : x7_1.length + t439.length < 1954687338268
       ·rw [if_pos c22] at H
        have LMc22 := Aside0.mk c22
        clear c22
        obtain ⟨y442, hy442⟩ : ∃ y_ : List (S142), y_ = (x7_1 ++ t439) := ⟨_, rfl⟩
        replace H : ((impl_strip.f a1_0 a1_1 a1_2 a1_3 a1_4 a1_5 (wrap64 (a1_5 - (Int.tmod a1_5 a0_0))) 3).bind fun t445 => (if y442.length + t445.length < 1954687338268 then (some (y442 ++ t445)) else (none))) = some r := by first | (rw [hy442]; with_reducible exact H) | (have H2_ := (Option.bind_some _ _).symm.trans H; rw [hy442]; with_reducible exact H2_) | (have H2_ := (Option.bind_some _ _).symm.trans H; with_reducible exact H2_) | with_reducible exact H | (rw [hy442]; exact H) | exact H
        have Ny442 := Aside0.mk hy442
        clear hy442
        replace H := Option.bind_eq_some_iff.mp H
        obtain ⟨t445, A230, H⟩ := H
        replace H : (if y442.length + t445.length < 1954687338268 then (some (y442 ++ t445)) else (none)) = some r := H
        have A23 := Aside0.mk A230
        clear A230
        by_cases c24 : y442.length + t445.length < 1954687338268
        ·rw [if_pos c24] at H
         have LMc24 := Aside0.mk c24
         clear c24
         obtain ⟨y448, hy448⟩ : ∃ y_ : List (S142), y_ = (y442 ++ t445) := ⟨_, rfl⟩
         replace H : (some y448) = some r := by first | (rw [hy448]; with_reducible exact H) | (have H2_ := (Option.bind_some _ _).symm.trans H; rw [hy448]; with_reducible exact H2_) | (have H2_ := (Option.bind_some _ _).symm.trans H; with_reducible exact H2_) | with_reducible exact H | (rw [hy448]; exact H) | exact H
         have Ny448 := Aside0.mk hy448
         clear hy448
         obtain rfl := Option.some.inj H
         try go_wp2
         have n0_ := Aside0.mk (Kd.R_drew HO_7.out)
         have n1_ := Aside0.mk (blk_drew BK431.out)
         have n2_ := Aside0.mk (blk_drew BK432.out)
         have n3_ := Aside0.mk (below_drew1 HB.out)
         clear HO_7
         clear BK431
         clear BK432
         clear HB
         have HO_7 := n0_
         have BK431 := n1_
         have BK432 := n2_
         have HB := n3_
         clear n0_ n1_ n2_ n3_
         refine start_ (n := 9) (S := fun w' => w'.cell? ⟨gb432, 0, none⟩ = some (.int .i64 a1_0) ∧ w'.cell? ⟨gb432, 1, none⟩ = some (.int .i64 a1_1) ∧ w'.cell? ⟨gb432, 2, none⟩ = some (.int .i64 a1_2) ∧ w'.cell? ⟨gb432, 3, none⟩ = some (.int .i64 a1_3) ∧ w'.cell? ⟨gb432, 4, none⟩ = some (.int .i64 a1_4) ∧ w'.cell? ⟨gb432, 5, none⟩ = some (.int .i64 a1_5)) (ds := []) (zv_.bm 9 0) (by kernel_rfl) rfl rfl ⟨xvc BK432.out, xvc BK432.out, xvc BK432.out, xvc BK432.out, xvc BK432.out, xvc BK432.out⟩ (fun hHeld => ?_); refine with_tabW impl_mapCode.tab11 impl_mapCode.bits11 (fun HT_ HW_ => ?_)
         generalize wr.drew = w25 at HO_7 BK431 BK432 HB hHeld ⊢
         refine zv_.pa (i := 0) (N := some 48) (zv_.bm 9 1) HT_.out ?_
         refine zv_.pa (i := 1) (N := some 49) (zv_.bm 9 3) HT_.out ?_
         refine zv_.pa (i := 5) (N := some 53) (zv_.bm 9 35) HT_.out ?_
         refine zv_.ta (i := 4) (N := some 52) (zv_.bm 9 51) rfl (take_ofW HT_.out HW_.out (by kernel_rfl)) (Or.inl ⟨(by rfl), wv13⟩) hHeld ?_
         refine one_ (i := 2) (N := some 50) (zv_.bm 9 55) rfl rfl (one_of HT_.out (by kernel_rfl)) (by decide) (fun K hK => ?_)
         refine goes_ Try.func187 (by kernel_rfl) rfl #[.int .i64 (Int.tmod a1_5 a0_0)] (by rfl) rfl rfl wv1 ?_
         with_reducible refine (impl_firstLanes.calls (Int.tmod a1_5 a0_0) t439 _ A21.out).mono ?_
         rintro e w26 ⟨v440, rfl, ho0, hb⟩
         refine ⟨_, rfl, ?_⟩
         have n0_ := Aside0.mk (Kd.R_elder' (xvr HO_7.out) (Kd.R_base ho0) hb)
         have n1_ := Aside0.mk (Kd.R_lower (Kd.R_new' ho0 (Kd.R_lt (xvr HO_7.out))) (below_size wv7))
         have n2_ := Aside0.mk (xvl BK431.out hb)
         have n3_ := Aside0.mk (xvl BK432.out hb)
         have n4_ := Aside0.mk (below_step wv7 hb)
         clear HO_7
         clear BK431
         clear BK432
         clear HB
         have HO_7 := n0_
         have HO441 := n1_
         have BK431 := n2_
         have BK432 := n3_
         have HB := n4_
         clear n0_ n1_ n2_ n3_ n4_
         (try clear hb)
         (try clear hb2)
         (try clear hk)
         (try clear hi)
         (try clear ho0)
         obtain ⟨Ao28, co28, eo28⟩ := Kd.R_slice HO441.out
         (first | subst eo28 | (injection eo28 with f1_ f2_ f3_; have f4_ := f1_.symm; have f5_ := f3_.symm; clear f1_ f2_ f3_; subst f4_; subst f5_))
         refine hK.out _ _ ⟨xvc BK432.out, xvc BK432.out, xvc BK432.out, xvc BK432.out, xvc BK432.out, xvc BK432.out⟩ (fun hHeld => ?_)
         clear hK K
         refine norm_ (a' := ?_) ?_ ?_
         rotate_left
         ·show Act.put _ (some 50) _ = _
          simp only [Act.put, List.setIfInBounds_toArray, List.set_cons_zero, List.set_cons_succ, i64_w, i32_w]
          rfl
         refine one_ (i := 3) (N := some 51) (zv_.bm 9 63) rfl rfl (one_of HT_.out (by kernel_rfl)) (by decide) (fun K hK => ?_)
         refine Kd.R_append_rows_step k142 (w0 := w) w.heap.size (by rfl) (.tmp 48) (.tmp 50) 87 142 (.agg #[(.int .i64 0), (.int .i64 0), (.int .i64 0), (.int .i64 0), (.int .i64 0), (.int .i64 0), (.slice none 0 0)]) 72 rfl Try.underlying87 info142 rfl (by decide) (by omega) u7 x7_1 t439 _ _ _ (fun k_ => some k_ ≠ (.slice Ao28 t439.length co28 : Value).ownBlock) (fun _ => False) rfl rfl ?aO ?aR (fun _ _ h => h) (fun _ h => h.elim) ?aF ?aB ?aS ?aL ?_
         (case aR => repeat (first | exact (Kd.R_reads' HO441.out).2.2 | (with_reducible refine Kd.C_alloc ?_ _) | (with_reducible refine Kd.C_drewN ?_ _) | (with_reducible refine Kd.C_drew ?_)))
         (case aB => exact wv7)
         (case aF => exact (fun k_ hk => Kd.fresh' (Kd.R_lt (xvr HO441.out)) k_ hk))
         (case aO => exact wv42)
         (case aS => exact (below_size wv7))
         (case aL => have := LMc22.out; omega)
         intro v443 w27 ho hb hg hat
         rw [← Ny442.out] at ho
         have n0_ := Aside0.mk (blk_grown (g := gb431) (o := .cells #[.int .i64 a0_0, .int .i64 a0_1] 31 (0, 0)) (xvb BK431.out) hg (Kd.R_ne HO_7.out BK431.out (by decide)))
         have n1_ := Aside0.mk (blk_grown (g := gb432) (o := .cells #[.int .i64 a1_0, .int .i64 a1_1, .int .i64 a1_2, .int .i64 a1_3, .int .i64 a1_4, .int .i64 a1_5] 25 (0, 0)) (xvb BK432.out) hg (Kd.R_ne HO_7.out BK432.out (by decide)))
         have n2_ := Aside0.mk (Kd.R_after (ok := (fun _ => True)) (xvr HO441.out) hg hat)
         have n3_ := Aside0.mk (hb)
         have n4_ := Aside0.mk (ho)
         clear BK431
         clear BK432
         clear HO441
         clear HB
         clear HO_7
         have BK431 := n0_
         have BK432 := n1_
         have HO441 := n2_
         have HB := n3_
         have HO444 := n4_
         clear n0_ n1_ n2_ n3_ n4_
         clear ho hb hg hat
         refine hK.out _ _ ⟨xvc BK432.out, xvc BK432.out, xvc BK432.out, xvc BK432.out, xvc BK432.out, xvc BK432.out⟩ (fun hHeld => ?_)
         clear hK K
         refine norm_ (a' := ?_) ?_ ?_
         rotate_left
         ·show Act.put _ (some 51) _ = _
          simp only [Act.put, List.setIfInBounds_toArray, List.set_cons_zero, List.set_cons_succ, i64_w, i32_w]
          rfl
         refine one_ (i := 6) (N := some 54) (zv_.bm 9 127) rfl rfl (one_of HT_.out (by kernel_rfl)) (by decide) (fun K hK => ?_)
         refine goes_ Try.func189 (by kernel_rfl) rfl #[.agg #[.int .i64 a1_0, .int .i64 a1_1, .int .i64 a1_2, .int .i64 a1_3, .int .i64 a1_4, .int .i64 a1_5], .int .i64 (wrap64 (a1_5 - (Int.tmod a1_5 a0_0))), .int .i64 3] (by rfl) rfl rfl wv1 ?_
         with_reducible refine (impl_strip.calls a1_0 a1_1 a1_2 a1_3 a1_4 a1_5 (wrap64 (a1_5 - (Int.tmod a1_5 a0_0))) 3 t445 _ A23.out).mono ?_
         rintro e w29 ⟨v446, rfl, ho0, hb⟩
         refine ⟨_, rfl, ?_⟩
         have n0_ := Aside0.mk (Kd.R_elder' (xvr HO441.out) (Kd.R_base ho0) hb)
         have n1_ := Aside0.mk (Kd.R_elder' (xvr HO444.out) (Kd.R_base ho0) hb)
         have n2_ := Aside0.mk (Kd.R_lower (Kd.R_new' (Kd.R_new' ho0 (Kd.R_lt (xvr HO441.out))) (Kd.R_lt (xvr HO444.out))) (below_size wv7))
         have n3_ := Aside0.mk (xvl BK431.out hb)
         have n4_ := Aside0.mk (xvl BK432.out hb)
         have n5_ := Aside0.mk (below_step wv7 hb)
         clear HO441
         clear HO444
         clear BK431
         clear BK432
         clear HB
         have HO441 := n0_
         have HO444 := n1_
         have HO447 := n2_
         have BK431 := n3_
         have BK432 := n4_
         have HB := n5_
         clear n0_ n1_ n2_ n3_ n4_ n5_
         (try clear hb)
         (try clear hb2)
         (try clear hk)
         (try clear hi)
         (try clear ho0)
         obtain ⟨Ao31, co31, eo31⟩ := Kd.R_slice HO447.out
         (first | subst eo31 | (injection eo31 with f1_ f2_ f3_; have f4_ := f1_.symm; have f5_ := f3_.symm; clear f1_ f2_ f3_; subst f4_; subst f5_))
         refine hK.out _ _ ⟨xvc BK432.out, xvc BK432.out, xvc BK432.out, xvc BK432.out, xvc BK432.out, xvc BK432.out⟩ (fun hHeld => ?_)
         clear hK K
         refine norm_ (a' := ?_) ?_ ?_
         rotate_left
         ·show Act.put _ (some 54) _ = _
          simp only [Act.put, List.setIfInBounds_toArray, List.set_cons_zero, List.set_cons_succ, i64_w, i32_w]
          rfl
         refine one_ (i := 7) (N := some 55) (zv_.bm 9 255) rfl rfl (one_of HT_.out (by kernel_rfl)) (by decide) (fun K hK => ?_)
         refine Kd.R_append_rows_step k142 (w0 := w) w.heap.size (by rfl) (.tmp 51) (.tmp 54) 87 142 (.agg #[(.int .i64 0), (.int .i64 0), (.int .i64 0), (.int .i64 0), (.int .i64 0), (.int .i64 0), (.slice none 0 0)]) 72 rfl Try.underlying87 info142 rfl (by decide) (by omega) v443 y442 t445 _ _ _ (fun k_ => some k_ ≠ (.slice Ao28 t439.length co28 : Value).ownBlock ∧ some k_ ≠ (.slice Ao31 t445.length co31 : Value).ownBlock) (fun _ => False) rfl rfl ?aO ?aR (fun _ _ h => h) (fun _ h => h.elim) ?aF ?aB ?aS ?aL ?_
         (case aR => repeat (first | exact (Kd.R_reads' HO447.out).2.2 | (with_reducible refine Kd.C_alloc ?_ _) | (with_reducible refine Kd.C_drewN ?_ _) | (with_reducible refine Kd.C_drew ?_)))
         (case aB => exact wv7)
         (case aF => exact (fun k_ hk => ⟨Kd.fresh' (Kd.R_lt (xvr HO441.out)) k_ hk, Kd.fresh' (Kd.R_lt (xvr HO447.out)) k_ hk⟩))
         (case aO => exact (xvr HO444.out))
         (case aS => exact (below_size wv7))
         (case aL => have := LMc24.out; omega)
         intro v449 w30 ho hb hg hat
         rw [← Ny448.out] at ho
         have n0_ := Aside0.mk (blk_grown (g := gb431) (o := .cells #[.int .i64 a0_0, .int .i64 a0_1] 31 (0, 0)) (xvb BK431.out) hg (Kd.R_ne HO444.out BK431.out (by decide)))
         have n1_ := Aside0.mk (blk_grown (g := gb432) (o := .cells #[.int .i64 a1_0, .int .i64 a1_1, .int .i64 a1_2, .int .i64 a1_3, .int .i64 a1_4, .int .i64 a1_5] 25 (0, 0)) (xvb BK432.out) hg (Kd.R_ne HO444.out BK432.out (by decide)))
         have n2_ := Aside0.mk (Kd.R_after (ok := (fun k_ => some k_ ≠ (.slice Ao31 t445.length co31 : Value).ownBlock)) (by (with_reducible repeat (first | apply Kd.R_alloc | apply Kd.R_drewN | apply Kd.R_drew)); exact Kd.R_mono HO441.out (fun _ hk => ⟨hk.2, hk.1.2⟩)) hg hat)
         have n3_ := Aside0.mk (Kd.R_after (ok := (fun k_ => some k_ ≠ (.slice Ao28 t439.length co28 : Value).ownBlock)) (by (with_reducible repeat (first | apply Kd.R_alloc | apply Kd.R_drewN | apply Kd.R_drew)); exact Kd.R_mono HO447.out (fun _ hk => ⟨hk.1.2, hk.2⟩)) hg hat)
         have n4_ := Aside0.mk (hb)
         have n5_ := Aside0.mk (ho)
         clear BK431
         clear BK432
         clear HO441
         clear HO447
         clear HB
         clear HO444
         have BK431 := n0_
         have BK432 := n1_
         have HO441 := n2_
         have HO447 := n3_
         have HB := n4_
         have HO450 := n5_
         clear n0_ n1_ n2_ n3_ n4_ n5_
         clear ho hb hg hat
         refine hK.out _ _ ⟨xvc BK432.out, xvc BK432.out, xvc BK432.out, xvc BK432.out, xvc BK432.out, xvc BK432.out⟩ (fun hHeld => ?_)
         clear hK K
         refine norm_ (a' := ?_) ?_ ?_
         rotate_left
         ·show Act.put _ (some 55) _ = _
          simp only [Act.put, List.setIfInBounds_toArray, List.set_cons_zero, List.set_cons_succ, i64_w, i32_w]
          rfl
         refine zv_.pa (i := 8) (N := some 7) (zv_.bm 9 511) HT_.out ?_
         refine done_ (done_of HT_.out (by kernel_rfl)) ?_
         try go_wp2
         go_ret
         exact ⟨_, wv3, (by (with_reducible repeat (first | apply Kd.R_alloc | apply Kd.R_drewN | apply Kd.R_drew)); exact Kd.R_mono HO450.out (fun _ hk => trivial)), wv7⟩
        ·rw [if_neg c24] at H
         exact absurd H (by simp)
       ·rw [if_neg c22] at H
        exact absurd H (by simp)
      ·rw [if_neg c20] at H
       have c20b0 : (a2 == 0) = false := beq_eq_false_iff_ne.mpr c20
       have c20b1 : (a2 != 0) = true := bne_iff_ne.mpr c20
       by_cases c32 : a2 = 1
       ·rw [if_pos c32] at H
        have c32b0 : (a2 == 1) = true := beq_iff_eq.mpr c32
        have c32b1 : (a2 != 1) = false := bne_eq_false_iff_eq.mpr c32
        clear c32
        replace H := Option.bind_eq_some_iff.mp H
        obtain ⟨t451, A330, H⟩ := H
        replace H : (if x7_1.length + t451.length < 1954687338268 then (impl_mapCode.l1 k1 (x7_1 ++ t451) (wrap64 (a1_5 - (Int.tmod a1_5 a0_0))) a1_0 a1_1 a1_2 a1_3 a1_4 a1_5) else (none)) = some r := H
        have A33 := Aside0.mk A330
        clear A330
        by_cases c34 : x7_1.length + t451.length < 1954687338268
        ·rw [if_pos c34] at H
         have LMc34 := Aside0.mk c34
         clear c34
         obtain ⟨y454, hy454⟩ : ∃ y_ : List (S142), y_ = (x7_1 ++ t451) := ⟨_, rfl⟩
         replace H : (impl_mapCode.l1 k1 y454 (wrap64 (a1_5 - (Int.tmod a1_5 a0_0))) a1_0 a1_1 a1_2 a1_3 a1_4 a1_5) = some r := by first | (rw [hy454]; with_reducible exact H) | (have H2_ := (Option.bind_some _ _).symm.trans H; rw [hy454]; with_reducible exact H2_) | (have H2_ := (Option.bind_some _ _).symm.trans H; with_reducible exact H2_) | with_reducible exact H | (rw [hy454]; exact H) | exact H
         have Ny454 := Aside0.mk hy454
         clear hy454
         have H' := Aside0.mk H
         clear H
         go_wp2_with (first | ((with_reducible refine gate_callee (f := 187) rfl ?_); refine goesL_ (some 60) rfl rfl Try.func187 (by kernel_rfl) rfl #[.int .i64 1] rfl wv1 ?_; (with_reducible refine (impl_firstLanes.calls 1 t451 _ A33.out).mono ?_); rintro e w35 ⟨v452, rfl, ho0, hb⟩; refine ⟨_, rfl, ?_⟩; have n0_ := Aside0.mk (Kd.R_elder' (xvr HO_7.out) (Kd.R_base ho0) hb); have n1_ := Aside0.mk (Kd.R_lower (Kd.R_new' ho0 (Kd.R_lt (xvr HO_7.out))) (below_size wv7)); have n2_ := Aside0.mk (xvl BK431.out hb); have n3_ := Aside0.mk (xvl BK432.out hb); have n4_ := Aside0.mk (below_step wv7 hb); clear HO_7; clear BK431; clear BK432; clear HB; have HO_7 := n0_; have HO453 := n1_; have BK431 := n2_; have BK432 := n3_; have HB := n4_; clear n0_ n1_ n2_ n3_ n4_; (try clear hb); (try clear hb2); (try clear hk); (try clear hi); (try clear ho0); obtain ⟨Ao37, co37, eo37⟩ := Kd.R_slice HO453.out; subst eo37) | ((with_reducible refine gate_builtin (b := .append) (xs := #[.tmp 59, .tmp 60]) rfl ?_); at_builtin; refine Kd.R_append_rows k142 (w0 := w) w.heap.size rfl (.tmp 59) (.tmp 60) 87 142 (.agg #[(.int .i64 0), (.int .i64 0), (.int .i64 0), (.int .i64 0), (.int .i64 0), (.int .i64 0), (.slice none 0 0)]) 72 rfl Try.underlying87 info142 rfl (by decide) (by omega) u7 x7_1 t451 _ _ _ (fun k_ => some k_ ≠ (.slice Ao37 t451.length co37 : Value).ownBlock) (fun _ => False) rfl rfl ?aO ?aR (fun _ _ h => h) (fun _ h => h.elim) ?aF ?aB ?aS ?aL ?_; (case aR => repeat (first | exact (Kd.R_reads' HO453.out).2.2 | (with_reducible refine Kd.C_alloc ?_ _) | (with_reducible refine Kd.C_drewN ?_ _) | (with_reducible refine Kd.C_drew ?_))); (case aB => exact wv7); (case aF => exact (fun k_ hk => Kd.fresh' (Kd.R_lt (xvr HO453.out)) k_ hk)); (case aO => exact wv42); (case aS => exact (below_size wv7)); (case aL => have := LMc34.out; omega); intro v455 w36 ho hb hg hat; rw [← Ny454.out] at ho; have n0_ := Aside0.mk (blk_grown (g := gb431) (o := .cells #[.int .i64 a0_0, .int .i64 a0_1] 31 (0, 0)) (xvb BK431.out) hg (Kd.R_ne HO_7.out BK431.out (by decide))); have n1_ := Aside0.mk (blk_grown (g := gb432) (o := .cells #[.int .i64 a1_0, .int .i64 a1_1, .int .i64 a1_2, .int .i64 a1_3, .int .i64 a1_4, .int .i64 a1_5] 25 (0, 0)) (xvb BK432.out) hg (Kd.R_ne HO_7.out BK432.out (by decide))); have n2_ := Aside0.mk (Kd.R_after (ok := (fun _ => True)) (xvr HO453.out) hg hat); have n3_ := Aside0.mk (hb); have n4_ := Aside0.mk (ho); clear BK431; clear BK432; clear HO453; clear HB; clear HO_7; have BK431 := n0_; have BK432 := n1_; have HO453 := n2_; have HB := n3_; have HO456 := n4_; clear n0_ n1_ n2_ n3_ n4_; clear ho hb hg hat))
         go_loopg [7, 11] k1 (fun kq v7 v11 w' => ∃ (x7_2 : List (S142)) (x11_2 : Int), v11 = .int .i64 x11_2 ∧ Aside0 (impl_mapCode.l1 kq x7_2 x11_2 a1_0 a1_1 a1_2 a1_3 a1_4 a1_5 = some r) ∧ Aside0 (kq ≤ k1) ∧ Aside0 (Kd.R k142 142 w' w.heap.size (fun _ => True) v7 x7_2) ∧ Aside0 (w'.heap[gb431]? = some (.cells #[.int .i64 a0_0, .int .i64 a0_1] 31 (0, 0))) ∧ Aside0 (w'.heap[gb432]? = some (.cells #[.int .i64 a1_0, .int .i64 a1_1, .int .i64 a1_2, .int .i64 a1_3, .int .i64 a1_4, .int .i64 a1_5] 25 (0, 0))) ∧ Aside0 (Below w.heap.size w w'))
         case atStart => exact ⟨(y454), ((wrap64 (a1_5 - (Int.tmod a1_5 a0_0)))), wv6, H', ⟨Nat.le_refl _⟩, ⟨(by (with_reducible repeat (first | apply Kd.R_alloc | apply Kd.R_drewN | apply Kd.R_drew)); exact Kd.R_mono HO456.out (fun _ hk => trivial))⟩, ⟨(xvb BK431.out)⟩, ⟨(xvb BK432.out)⟩, ⟨wv7⟩⟩
         case round =>
          clear H'
          try clear c1
          try clear c2
          try clear p2
          try clear c3
          try clear c4
          try clear c4b0
          try clear c4b1
          try clear p6
          try clear c7
          try clear c10
          try clear c10b0
          try clear c12
          try clear c13
          try clear c18
          try clear c19
          try clear c19b0
          try clear c19b1
          try clear c20
          try clear c20b0
          try clear c20b1
          try clear c22
          try clear c24
          try clear c32
          try clear c32b0
          try clear c32b1
          try clear c34
          try clear hcz14_0
          try clear hcz14_1
          try clear hcz14_2
          try clear hcz14_3
          try clear hcz14_4
          try clear hcz14_5
          try clear hcz18_0
          try clear hcz18_1
          try clear hcz8_0
          try clear hcz8_1
          try clear hcz8_2
          try clear hcz8_3
          try clear hcz8_4
          try clear hcz8_5
          try clear hcz9_0
          try clear hcz9_1
          try clear hfz14_0
          try clear hfz14_1
          try clear hfz14_2
          try clear hfz14_3
          try clear hfz14_4
          try clear hfz14_5
          try clear hfz18_0
          try clear hfz18_1
          try clear hfz8_0
          try clear hfz8_1
          try clear hfz8_2
          try clear hfz8_3
          try clear hfz8_4
          try clear hfz8_5
          try clear hfz9_0
          try clear hfz9_1
          try clear p2
          try clear p6
          obtain ⟨x7_2, x11_2, rfl, HA, HK2, HO_7, BK431, BK432, HB⟩ := hrel
          cases gk with
          | zero => exact absurd HA.out (by simp [impl_mapCode.l1])
          | succ k2 =>
           have H := HA.out
           clear HA
           simp only [impl_mapCode.l1] at H
           by_cases c38 : x11_2 < a1_5
           ·rw [if_pos c38] at H
            have c38b0 : decide (x11_2 < a1_5) = true := decide_eq_true c38
            clear c38
            replace H := Option.bind_eq_some_iff.mp H
            obtain ⟨t457, A390, H⟩ := H
            replace H : (if x7_2.length + t457.length < 1954687338268 then (impl_mapCode.l1 k2 (x7_2 ++ t457) (wrap64 (x11_2 + 1)) a1_0 a1_1 a1_2 a1_3 a1_4 a1_5) else (none)) = some r := H
            have A39 := Aside0.mk A390
            clear A390
            by_cases c40 : x7_2.length + t457.length < 1954687338268
            ·rw [if_pos c40] at H
             have LMc40 := Aside0.mk c40
             clear c40
             obtain ⟨y460, hy460⟩ : ∃ y_ : List (S142), y_ = (x7_2 ++ t457) := ⟨_, rfl⟩
             replace H : (impl_mapCode.l1 k2 y460 (wrap64 (x11_2 + 1)) a1_0 a1_1 a1_2 a1_3 a1_4 a1_5) = some r := by first | (rw [hy460]; with_reducible exact H) | (have H2_ := (Option.bind_some _ _).symm.trans H; rw [hy460]; with_reducible exact H2_) | (have H2_ := (Option.bind_some _ _).symm.trans H; with_reducible exact H2_) | with_reducible exact H | (rw [hy460]; exact H) | exact H
             have Ny460 := Aside0.mk hy460
             clear hy460
             have H' := Aside0.mk H
             clear H
             have hnb41 := NB432_431.out
             have hnc41 := NB431_432.out
             have hcz42_0 : wr.cell? ⟨gb432, 0, none⟩ = some (.int .i64 a1_0) := xvc BK432.out
             have hcz42_1 : wr.cell? ⟨gb432, 1, none⟩ = some (.int .i64 a1_1) := xvc BK432.out
             have hcz42_2 : wr.cell? ⟨gb432, 2, none⟩ = some (.int .i64 a1_2) := xvc BK432.out
             have hcz42_3 : wr.cell? ⟨gb432, 3, none⟩ = some (.int .i64 a1_3) := xvc BK432.out
             have hcz42_4 : wr.cell? ⟨gb432, 4, none⟩ = some (.int .i64 a1_4) := xvc BK432.out
             have hcz42_5 : wr.cell? ⟨gb432, 5, none⟩ = some (.int .i64 a1_5) := xvc BK432.out
             have hfz42_0 := blk_frozen BK432.out 0
             have hfz42_1 := blk_frozen BK432.out 1
             have hfz42_2 := blk_frozen BK432.out 2
             have hfz42_3 := blk_frozen BK432.out 3
             have hfz42_4 := blk_frozen BK432.out 4
             have hfz42_5 := blk_frozen BK432.out 5
             go_wp2_with (first | ((with_reducible refine gate_callee (f := 189) rfl ?_); refine goesL_ (some 72) rfl rfl Try.func189 (by kernel_rfl) rfl #[.agg #[.int .i64 a1_0, .int .i64 a1_1, .int .i64 a1_2, .int .i64 a1_3, .int .i64 a1_4, .int .i64 a1_5], .int .i64 x11_2, .int .i64 3] rfl wv1 ?_; (with_reducible refine (impl_strip.calls a1_0 a1_1 a1_2 a1_3 a1_4 a1_5 x11_2 3 t457 _ A39.out).mono ?_); rintro e w43 ⟨v458, rfl, ho0, hb⟩; refine ⟨_, rfl, ?_⟩; have n0_ := Aside0.mk (Kd.R_elder' (xvr HO_7.out) (Kd.R_base ho0) hb); have n1_ := Aside0.mk (Kd.R_lower (Kd.R_new' ho0 (Kd.R_lt (xvr HO_7.out))) (below_size wv7)); have n2_ := Aside0.mk (xvl BK431.out hb); have n3_ := Aside0.mk (xvl BK432.out hb); have n4_ := Aside0.mk (below_step wv7 hb); clear HO_7; clear BK431; clear BK432; clear HB; have HO_7 := n0_; have HO459 := n1_; have BK431 := n2_; have BK432 := n3_; have HB := n4_; clear n0_ n1_ n2_ n3_ n4_; (try clear hb); (try clear hb2); (try clear hk); (try clear hi); (try clear ho0); obtain ⟨Ao45, co45, eo45⟩ := Kd.R_slice HO459.out; subst eo45) | ((with_reducible refine gate_builtin (b := .append) (xs := #[.tmp 69, .tmp 72]) rfl ?_); at_builtin; refine Kd.R_append_rows k142 (w0 := w) w.heap.size rfl (.tmp 69) (.tmp 72) 87 142 (.agg #[(.int .i64 0), (.int .i64 0), (.int .i64 0), (.int .i64 0), (.int .i64 0), (.int .i64 0), (.slice none 0 0)]) 72 rfl Try.underlying87 info142 rfl (by decide) (by omega) u7 x7_2 t457 _ _ _ (fun k_ => some k_ ≠ (.slice Ao45 t457.length co45 : Value).ownBlock) (fun _ => False) rfl rfl ?aO ?aR (fun _ _ h => h) (fun _ h => h.elim) ?aF ?aB ?aS ?aL ?_; (case aR => repeat (first | exact (Kd.R_reads' HO459.out).2.2 | (with_reducible refine Kd.C_alloc ?_ _) | (with_reducible refine Kd.C_drewN ?_ _) | (with_reducible refine Kd.C_drew ?_))); (case aB => exact wv7); (case aF => exact (fun k_ hk => Kd.fresh' (Kd.R_lt (xvr HO459.out)) k_ hk)); (case aO => exact wv42); (case aS => exact (below_size wv7)); (case aL => have := LMc40.out; omega); intro v461 w44 ho hb hg hat; rw [← Ny460.out] at ho; have n0_ := Aside0.mk (blk_grown (g := gb431) (o := .cells #[.int .i64 a0_0, .int .i64 a0_1] 31 (0, 0)) (xvb BK431.out) hg (Kd.R_ne HO_7.out BK431.out (by decide))); have n1_ := Aside0.mk (blk_grown (g := gb432) (o := .cells #[.int .i64 a1_0, .int .i64 a1_1, .int .i64 a1_2, .int .i64 a1_3, .int .i64 a1_4, .int .i64 a1_5] 25 (0, 0)) (xvb BK432.out) hg (Kd.R_ne HO_7.out BK432.out (by decide))); have n2_ := Aside0.mk (Kd.R_after (ok := (fun _ => True)) (xvr HO459.out) hg hat); have n3_ := Aside0.mk (hb); have n4_ := Aside0.mk (ho); clear BK431; clear BK432; clear HO459; clear HB; clear HO_7; have BK431 := n0_; have BK432 := n1_; have HO459 := n2_; have HB := n3_; have HO462 := n4_; clear n0_ n1_ n2_ n3_ n4_; clear ho hb hg hat))
             go_roundg k2
             case measure => have := HK1.out; have := HK2.out; omega
             case rel => exact ⟨(y460), (wrap64 (x11_2 + 1)), wv6, H', ⟨(by have := HK1.out; have := HK2.out; omega)⟩, ⟨(by (with_reducible repeat (first | apply Kd.R_alloc | apply Kd.R_drewN | apply Kd.R_drew)); exact Kd.R_mono HO462.out (fun _ hk => trivial))⟩, ⟨(xvb BK431.out)⟩, ⟨(xvb BK432.out)⟩, ⟨wv7⟩⟩
            ·rw [if_neg c40] at H
             exact absurd H (by simp)
           ·rw [if_neg c38] at H
            have c38b0 : decide (x11_2 < a1_5) = false := decide_eq_false c38
            clear c38
            obtain rfl := Option.some.inj H
            have hnb46 := NB432_431.out
            have hnc46 := NB431_432.out
            have hcz47_0 : wr.cell? ⟨gb432, 0, none⟩ = some (.int .i64 a1_0) := xvc BK432.out
            have hcz47_1 : wr.cell? ⟨gb432, 1, none⟩ = some (.int .i64 a1_1) := xvc BK432.out
            have hcz47_2 : wr.cell? ⟨gb432, 2, none⟩ = some (.int .i64 a1_2) := xvc BK432.out
            have hcz47_3 : wr.cell? ⟨gb432, 3, none⟩ = some (.int .i64 a1_3) := xvc BK432.out
            have hcz47_4 : wr.cell? ⟨gb432, 4, none⟩ = some (.int .i64 a1_4) := xvc BK432.out
            have hcz47_5 : wr.cell? ⟨gb432, 5, none⟩ = some (.int .i64 a1_5) := xvc BK432.out
            have hfz47_0 := blk_frozen BK432.out 0
            have hfz47_1 := blk_frozen BK432.out 1
            have hfz47_2 := blk_frozen BK432.out 2
            have hfz47_3 := blk_frozen BK432.out 3
            have hfz47_4 := blk_frozen BK432.out 4
            have hfz47_5 := blk_frozen BK432.out 5
            go_wp2
            go_ret
            exact ⟨_, wv3, (xvr HO_7.out), wv7⟩
        ·rw [if_neg c34] at H
         exact absurd H (by simp)
       ·rw [if_neg c32] at H
        have c32b0 : (a2 == 1) = false := beq_eq_false_iff_ne.mpr c32
        have c32b1 : (a2 != 1) = true := bne_iff_ne.mpr c32
        replace H := Option.bind_eq_some_iff.mp H
        obtain ⟨t463, A480, H⟩ := H
        replace H : (if x7_1.length + t463.length < 1954687338268 then (some (x7_1 ++ t463)) else (none)) = some r := H
        have A48 := Aside0.mk A480
        clear A480
        by_cases c49 : x7_1.length + t463.length < 1954687338268
        ·rw [if_pos c49] at H
         have LMc49 := Aside0.mk c49
         clear c49
         obtain ⟨y466, hy466⟩ : ∃ y_ : List (S142), y_ = (x7_1 ++ t463) := ⟨_, rfl⟩
         replace H : (some y466) = some r := by first | (rw [hy466]; with_reducible exact H) | (have H2_ := (Option.bind_some _ _).symm.trans H; rw [hy466]; with_reducible exact H2_) | (have H2_ := (Option.bind_some _ _).symm.trans H; with_reducible exact H2_) | with_reducible exact H | (rw [hy466]; exact H) | exact H
         have Ny466 := Aside0.mk hy466
         clear hy466
         obtain rfl := Option.some.inj H
         have hnb50 := NB432_431.out
         have hnc50 := NB431_432.out
         have hcz51_0 : wr.cell? ⟨gb432, 0, none⟩ = some (.int .i64 a1_0) := xvc BK432.out
         have hcz51_1 : wr.cell? ⟨gb432, 1, none⟩ = some (.int .i64 a1_1) := xvc BK432.out
         have hcz51_2 : wr.cell? ⟨gb432, 2, none⟩ = some (.int .i64 a1_2) := xvc BK432.out
         have hcz51_3 : wr.cell? ⟨gb432, 3, none⟩ = some (.int .i64 a1_3) := xvc BK432.out
         have hcz51_4 : wr.cell? ⟨gb432, 4, none⟩ = some (.int .i64 a1_4) := xvc BK432.out
         have hcz51_5 : wr.cell? ⟨gb432, 5, none⟩ = some (.int .i64 a1_5) := xvc BK432.out
         have hfz51_0 := blk_frozen BK432.out 0
         have hfz51_1 := blk_frozen BK432.out 1
         have hfz51_2 := blk_frozen BK432.out 2
         have hfz51_3 := blk_frozen BK432.out 3
         have hfz51_4 := blk_frozen BK432.out 4
         have hfz51_5 := blk_frozen BK432.out 5
         have hcz52_0 : wr.cell? ⟨gb431, 0, none⟩ = some (.int .i64 a0_0) := xvc BK431.out
         have hcz52_1 : wr.cell? ⟨gb431, 1, none⟩ = some (.int .i64 a0_1) := xvc BK431.out
         have hfz52_0 := blk_frozen BK431.out 0
         have hfz52_1 := blk_frozen BK431.out 1
         go_wp2_with (first | ((with_reducible refine gate_callee (f := 189) rfl ?_); refine goesL_ (some 40) rfl rfl Try.func189 (by kernel_rfl) rfl #[.agg #[.int .i64 a1_0, .int .i64 a1_1, .int .i64 a1_2, .int .i64 a1_3, .int .i64 a1_4, .int .i64 a1_5], .int .i64 (wrap64 (a1_5 - a0_0)), .int .i64 (-1)] rfl wv1 ?_; (with_reducible refine (impl_strip.calls a1_0 a1_1 a1_2 a1_3 a1_4 a1_5 (wrap64 (a1_5 - a0_0)) (-1) t463 _ A48.out).mono ?_); rintro e w53 ⟨v464, rfl, ho0, hb⟩; refine ⟨_, rfl, ?_⟩; have n0_ := Aside0.mk (Kd.R_elder' (xvr HO_7.out) (Kd.R_base ho0) hb); have n1_ := Aside0.mk (Kd.R_lower (Kd.R_new' ho0 (Kd.R_lt (xvr HO_7.out))) (below_size wv7)); have n2_ := Aside0.mk (xvl BK431.out hb); have n3_ := Aside0.mk (xvl BK432.out hb); have n4_ := Aside0.mk (below_step wv7 hb); clear HO_7; clear BK431; clear BK432; clear HB; have HO_7 := n0_; have HO465 := n1_; have BK431 := n2_; have BK432 := n3_; have HB := n4_; clear n0_ n1_ n2_ n3_ n4_; (try clear hb); (try clear hb2); (try clear hk); (try clear hi); (try clear ho0); obtain ⟨Ao55, co55, eo55⟩ := Kd.R_slice HO465.out; subst eo55) | ((with_reducible refine gate_builtin (b := .append) (xs := #[.tmp 33, .tmp 40]) rfl ?_); at_builtin; refine Kd.R_append_rows k142 (w0 := w) w.heap.size rfl (.tmp 33) (.tmp 40) 87 142 (.agg #[(.int .i64 0), (.int .i64 0), (.int .i64 0), (.int .i64 0), (.int .i64 0), (.int .i64 0), (.slice none 0 0)]) 72 rfl Try.underlying87 info142 rfl (by decide) (by omega) u7 x7_1 t463 _ _ _ (fun k_ => some k_ ≠ (.slice Ao55 t463.length co55 : Value).ownBlock) (fun _ => False) rfl rfl ?aO ?aR (fun _ _ h => h) (fun _ h => h.elim) ?aF ?aB ?aS ?aL ?_; (case aR => repeat (first | exact (Kd.R_reads' HO465.out).2.2 | (with_reducible refine Kd.C_alloc ?_ _) | (with_reducible refine Kd.C_drewN ?_ _) | (with_reducible refine Kd.C_drew ?_))); (case aB => exact wv7); (case aF => exact (fun k_ hk => Kd.fresh' (Kd.R_lt (xvr HO465.out)) k_ hk)); (case aO => exact wv42); (case aS => exact (below_size wv7)); (case aL => have := LMc49.out; omega); intro v467 w54 ho hb hg hat; rw [← Ny466.out] at ho; have n0_ := Aside0.mk (blk_grown (g := gb431) (o := .cells #[.int .i64 a0_0, .int .i64 a0_1] 31 (0, 0)) (xvb BK431.out) hg (Kd.R_ne HO_7.out BK431.out (by decide))); have n1_ := Aside0.mk (blk_grown (g := gb432) (o := .cells #[.int .i64 a1_0, .int .i64 a1_1, .int .i64 a1_2, .int .i64 a1_3, .int .i64 a1_4, .int .i64 a1_5] 25 (0, 0)) (xvb BK432.out) hg (Kd.R_ne HO_7.out BK432.out (by decide))); have n2_ := Aside0.mk (Kd.R_after (ok := (fun _ => True)) (xvr HO465.out) hg hat); have n3_ := Aside0.mk (hb); have n4_ := Aside0.mk (ho); clear BK431; clear BK432; clear HO465; clear HB; clear HO_7; have BK431 := n0_; have BK432 := n1_; have HO465 := n2_; have HB := n3_; have HO468 := n4_; clear n0_ n1_ n2_ n3_ n4_; clear ho hb hg hat))
         go_ret
         exact ⟨_, wv3, (by (with_reducible repeat (first | apply Kd.R_alloc | apply Kd.R_drewN | apply Kd.R_drew)); exact Kd.R_mono HO468.out (fun _ hk => trivial)), wv7⟩
        ·rw [if_neg c49] at H
         exact absurd H (by simp)

/-! ### impl_StripCode: function 67 -/
def impl_StripCode.f (k : Nat) (a0_0 : Int) (a0_1 : Int) (a1_0 : Int) (a1_1 : Int) (a1_2 : Int) (a1_3 : Int) (a1_4 : Int) (a1_5 : Int) (a2 : Int) : Option ((List (S142)) × Bool) := (impl_CanStrip.f k a0_0 a0_1 a1_0 a1_1 a1_2 a1_3 a1_4 a1_5 a2).bind fun t471 => (if t471 = true then ((impl_foldCode.f k a0_0 a0_1 a1_0 a1_1 a1_2 a1_3 a1_4 a1_5).bind fun t472 => (if a1_0 = 0 then ((impl_mapCode.f k a0_0 a0_1 a1_0 a1_1 a1_2 a1_3 a1_4 a1_5 a2).bind fun t475 => (if (t475.length : Int) > 60 then (some (([] : List (S142)), false)) else (some (t475, true)))) else (if (t472.length : Int) > 60 then (some (([] : List (S142)), false)) else (some (t472, true))))) else (some (([] : List (S142)), false)))
theorem impl_StripCode.mono : ∀ a0 a1 a2 a3 a4 a5 a6 a7 a8 k, LeO (impl_StripCode.f k a0 a1 a2 a3 a4 a5 a6 a7 a8) (impl_StripCode.f (k + 1) a0 a1 a2 a3 a4 a5 a6 a7 a8) := by
 intro a0 a1 a2 a3 a4 a5 a6 a7 a8 k
 unfold impl_StripCode.f
 repeat' first
   | (with_reducible exact impl_CanStrip.mono _ _ _ _ _ _ _ _ _ _)
   | (with_reducible exact impl_foldCode.mono _ _ _ _ _ _ _ _ _)
   | (with_reducible exact impl_mapCode.mono _ _ _ _ _ _ _ _ _ _)
   | (with_reducible exact LeO.refl _)
   | (with_reducible exact LeO.none _)
   | (with_reducible refine LeO.ite ?_ ?_)
   | (with_reducible refine LeO.bind ?_ (fun _ => ?_))
   | exact impl_CanStrip.mono _ _ _ _ _ _ _ _ _ _
   | exact impl_foldCode.mono _ _ _ _ _ _ _ _ _
   | exact impl_mapCode.mono _ _ _ _ _ _ _ _ _ _
   | exact LeO.none _
   | refine LeO.ite ?_ ?_
   | refine LeO.bind ?_ (fun _ => ?_)
set_option maxHeartbeats 8000000 in
set_option maxRecDepth 100000 in
theorem impl_StripCode.calls (k : Nat) (a0_0 : Int) (a0_1 : Int) (a1_0 : Int) (a1_1 : Int) (a1_2 : Int) (a1_3 : Int) (a1_4 : Int) (a1_5 : Int) (a2 : Int) (r1 : List (S142)) (r2 : Bool) (w : World) (h : impl_StripCode.f k a0_0 a0_1 a1_0 a1_1 a1_2 a1_3 a1_4 a1_5 a2 = some (r1, r2)) :
  Calls Try.prog 67 #[.agg #[.int .i64 a0_0, .int .i64 a0_1], .agg #[.int .i64 a1_0, .int .i64 a1_1, .int .i64 a1_2, .int .i64 a1_3, .int .i64 a1_4, .int .i64 a1_5], .int .i64 a2] w fun e w' => ∃ v0_ : Value, e = .returned (.tuple #[v0_, .bool r2]) ∧ Kd.R k142 142 w' w.heap.size (fun _ => True) v0_ r1 ∧ Below w.heap.size w w' := by
 have hu31 := Try.underlying31
 have hu25 := Try.underlying25
 have HB := Aside0.mk (Below.refl w.heap.size w)
 have H : ((impl_CanStrip.f k a0_0 a0_1 a1_0 a1_1 a1_2 a1_3 a1_4 a1_5 a2).bind fun t471 => (if t471 = true then ((impl_foldCode.f k a0_0 a0_1 a1_0 a1_1 a1_2 a1_3 a1_4 a1_5).bind fun t472 => (if a1_0 = 0 then ((impl_mapCode.f k a0_0 a0_1 a1_0 a1_1 a1_2 a1_3 a1_4 a1_5 a2).bind fun t475 => (if (t475.length : Int) > 60 then (some (([] : List (S142)), false)) else (some (t475, true)))) else (if (t472.length : Int) > 60 then (some (([] : List (S142)), false)) else (some (t472, true))))) else (some (([] : List (S142)), false)))) = some (r1, r2) := h
 clear h
 replace H := Option.bind_eq_some_iff.mp H
 obtain ⟨t471, A40, H⟩ := H
 replace H : (if t471 = true then ((impl_foldCode.f k a0_0 a0_1 a1_0 a1_1 a1_2 a1_3 a1_4 a1_5).bind fun t472 => (if a1_0 = 0 then ((impl_mapCode.f k a0_0 a0_1 a1_0 a1_1 a1_2 a1_3 a1_4 a1_5 a2).bind fun t475 => (if (t475.length : Int) > 60 then (some (([] : List (S142)), false)) else (some (t475, true)))) else (if (t472.length : Int) > 60 then (some (([] : List (S142)), false)) else (some (t472, true))))) else (some (([] : List (S142)), false))) = some (r1, r2) := H
 have A4 := Aside0.mk A40
 clear A40
 by_cases c5 : t471 = true
 ·subst c5
  have H1 : ((impl_foldCode.f k a0_0 a0_1 a1_0 a1_1 a1_2 a1_3 a1_4 a1_5).bind fun t472 => (if a1_0 = 0 then ((impl_mapCode.f k a0_0 a0_1 a1_0 a1_1 a1_2 a1_3 a1_4 a1_5 a2).bind fun t475 => (if (t475.length : Int) > 60 then (some (([] : List (S142)), false)) else (some (t475, true)))) else (if (t472.length : Int) > 60 then (some (([] : List (S142)), false)) else (some (t472, true))))) = some (r1, r2) := by rw [if_pos rfl] at H; exact H
  clear H
  have H := H1
  clear H1
  replace H := Option.bind_eq_some_iff.mp H
  obtain ⟨t472, A60, H⟩ := H
  replace H : (if a1_0 = 0 then ((impl_mapCode.f k a0_0 a0_1 a1_0 a1_1 a1_2 a1_3 a1_4 a1_5 a2).bind fun t475 => (if (t475.length : Int) > 60 then (some (([] : List (S142)), false)) else (some (t475, true)))) else (if (t472.length : Int) > 60 then (some (([] : List (S142)), false)) else (some (t472, true)))) = some (r1, r2) := H
  have A6 := Aside0.mk A60
  clear A60
  by_cases c7 : a1_0 = 0
  ·rw [if_pos c7] at H
   have c7b0 : (a1_0 == 0) = true := beq_iff_eq.mpr c7
   have c7b1 : (a1_0 != 0) = false := bne_eq_false_iff_eq.mpr c7
   clear c7
   replace H := Option.bind_eq_some_iff.mp H
   obtain ⟨t475, A80, H⟩ := H
   replace H : (if (t475.length : Int) > 60 then (some (([] : List (S142)), false)) else (some (t475, true))) = some (r1, r2) := H
   have A8 := Aside0.mk A80
   clear A80
   by_cases c9 : (t475.length : Int) > 60
   ·rw [if_pos c9] at H
    have c9b0 : decide (60 < (t475.length : Int)) = true := decide_eq_true c9
    have c9b1 : decide (60 < t475.length) = true := decide_eq_true (by omega)
    clear c9
    simp only [Option.some.injEq, Prod.mk.injEq] at H
    obtain ⟨rfl, rfl⟩ := H
    go_enter Try.func67, Try.ntmps67
    go_wp2_with (first | ((with_reducible refine gate_dst (N := 3) rfl ?_); refine box_event ?hg (N := 3) ?hd (cs := #[.int .i64 a0_0, .int .i64 a0_1]) (t := 31) ?hr ?_; (case hd => rfl); (case hg => rfl); (case hr => first | (go_simp; done) | (go_simp; rfl)); intro gb469 hg w10 hbox hb; have n0_ := Aside0.mk (below_step (xvo HB.out) hb); have n1_ := Aside0.mk (hbox); have n2_ := Aside0.mk ((by rw [hg]; exact (below_size (xvo HB.out)) : w.heap.size ≤ gb469)); have n3_ := Aside0.mk ((by rw [hg]; exact (below_size (xvo HB.out)) : w.heap.size ≤ gb469)); clear HB; have HB := n0_; have BK469 := n1_; have GW469 := n2_; have GE469 := n3_; clear n0_ n1_ n2_ n3_; clear hb hbox hg) | ((with_reducible refine gate_dst (N := 4) rfl ?_); refine box_event ?hg (N := 4) ?hd (cs := #[.int .i64 a1_0, .int .i64 a1_1, .int .i64 a1_2, .int .i64 a1_3, .int .i64 a1_4, .int .i64 a1_5]) (t := 25) ?hr ?_; (case hd => rfl); (case hg => rfl); (case hr => first | (go_simp; done) | (go_simp; rfl)); intro gb470 hg w11 hbox hb; have n0_ := Aside0.mk (xvl BK469.out hb); have n1_ := Aside0.mk (below_step wv19 hb); have n2_ := Aside0.mk (hbox); have n3_ := Aside0.mk ((by rw [hg]; exact (below_size wv19) : w.heap.size ≤ gb470)); have n4_ := Aside0.mk ((by rw [hg]; exact (below_size wv19) : w.heap.size ≤ gb470)); have n5_ := Aside0.mk ((by rw [hg]; exact Nat.ne_of_lt (blk_lt (g := gb469) (o := .cells #[.int .i64 a0_0, .int .i64 a0_1] 31 (0, 0)) (xvb BK469.out)) : gb469 ≠ gb470)); have n6_ := Aside0.mk ((by rw [hg]; exact Nat.ne_of_gt (blk_lt (g := gb469) (o := .cells #[.int .i64 a0_0, .int .i64 a0_1] 31 (0, 0)) (xvb BK469.out)) : gb470 ≠ gb469)); clear BK469; clear HB; have BK469 := n0_; have HB := n1_; have BK470 := n2_; have GW470 := n3_; have GE470 := n4_; have NB469_470 := n5_; have NB470_469 := n6_; clear n0_ n1_ n2_ n3_ n4_ n5_ n6_; clear hb hbox hg; have hnb12 := NB469_470.out; have hnc12 := NB470_469.out; have hcz13_0 : w11.cell? ⟨gb469, 0, none⟩ = some (.int .i64 a0_0) := xvc BK469.out; have hcz13_1 : w11.cell? ⟨gb469, 1, none⟩ = some (.int .i64 a0_1) := xvc BK469.out; have hfz13_0 := blk_frozen BK469.out 0; have hfz13_1 := blk_frozen BK469.out 1; have hcz14_0 : w11.cell? ⟨gb470, 0, none⟩ = some (.int .i64 a1_0) := xvc BK470.out; have hcz14_1 : w11.cell? ⟨gb470, 1, none⟩ = some (.int .i64 a1_1) := xvc BK470.out; have hcz14_2 : w11.cell? ⟨gb470, 2, none⟩ = some (.int .i64 a1_2) := xvc BK470.out; have hcz14_3 : w11.cell? ⟨gb470, 3, none⟩ = some (.int .i64 a1_3) := xvc BK470.out; have hcz14_4 : w11.cell? ⟨gb470, 4, none⟩ = some (.int .i64 a1_4) := xvc BK470.out; have hcz14_5 : w11.cell? ⟨gb470, 5, none⟩ = some (.int .i64 a1_5) := xvc BK470.out; have hfz14_0 := blk_frozen BK470.out 0; have hfz14_1 := blk_frozen BK470.out 1; have hfz14_2 := blk_frozen BK470.out 2; have hfz14_3 := blk_frozen BK470.out 3; have hfz14_4 := blk_frozen BK470.out 4; have hfz14_5 := blk_frozen BK470.out 5) | ((with_reducible refine gate_callee (f := 24) rfl ?_); refine goesL_ (some 12) rfl rfl Try.func24 (by kernel_rfl) rfl #[.agg #[.int .i64 a0_0, .int .i64 a0_1], .agg #[.int .i64 a1_0, .int .i64 a1_1, .int .i64 a1_2, .int .i64 a1_3, .int .i64 a1_4, .int .i64 a1_5], .int .i64 a2] rfl wv1 ?_; (with_reducible refine (impl_CanStrip.calls k a0_0 a0_1 a1_0 a1_1 a1_2 a1_3 a1_4 a1_5 a2 true _ A4.out).mono ?_); rintro e w15 ⟨rfl, hb⟩; refine ⟨_, rfl, ?_⟩; have n0_ := Aside0.mk (xvl BK469.out hb); have n1_ := Aside0.mk (xvl BK470.out hb); have n2_ := Aside0.mk (below_step wv10 hb); clear BK469; clear BK470; clear HB; have BK469 := n0_; have BK470 := n1_; have HB := n2_; clear n0_ n1_ n2_; (try clear hb); (try clear hb2); (try clear hk); (try clear hi); have hcz16_0 : w15.cell? ⟨gb469, 0, none⟩ = some (.int .i64 a0_0) := xvc BK469.out; have hcz16_1 : w15.cell? ⟨gb469, 1, none⟩ = some (.int .i64 a0_1) := xvc BK469.out; have hfz16_0 := blk_frozen BK469.out 0; have hfz16_1 := blk_frozen BK469.out 1; have hcz17_0 : w15.cell? ⟨gb470, 0, none⟩ = some (.int .i64 a1_0) := xvc BK470.out; have hcz17_1 : w15.cell? ⟨gb470, 1, none⟩ = some (.int .i64 a1_1) := xvc BK470.out; have hcz17_2 : w15.cell? ⟨gb470, 2, none⟩ = some (.int .i64 a1_2) := xvc BK470.out; have hcz17_3 : w15.cell? ⟨gb470, 3, none⟩ = some (.int .i64 a1_3) := xvc BK470.out; have hcz17_4 : w15.cell? ⟨gb470, 4, none⟩ = some (.int .i64 a1_4) := xvc BK470.out; have hcz17_5 : w15.cell? ⟨gb470, 5, none⟩ = some (.int .i64 a1_5) := xvc BK470.out; have hfz17_0 := blk_frozen BK470.out 0; have hfz17_1 := blk_frozen BK470.out 1; have hfz17_2 := blk_frozen BK470.out 2; have hfz17_3 := blk_frozen BK470.out 3; have hfz17_4 := blk_frozen BK470.out 4; have hfz17_5 := blk_frozen BK470.out 5) | ((with_reducible refine gate_callee (f := 132) rfl ?_); refine goesL_ (some 16) rfl rfl Try.func132 (by kernel_rfl) rfl #[.agg #[.int .i64 a0_0, .int .i64 a0_1], .agg #[.int .i64 a1_0, .int .i64 a1_1, .int .i64 a1_2, .int .i64 a1_3, .int .i64 a1_4, .int .i64 a1_5]] rfl wv1 ?_; (with_reducible refine (impl_foldCode.calls k a0_0 a0_1 a1_0 a1_1 a1_2 a1_3 a1_4 a1_5 t472 _ A6.out).mono ?_); rintro e w18 ⟨v473, rfl, ho0, hb⟩; refine ⟨_, rfl, ?_⟩; have n0_ := Aside0.mk (Kd.R_lower ho0 (below_size wv10)); have n1_ := Aside0.mk (xvl BK469.out hb); have n2_ := Aside0.mk (xvl BK470.out hb); have n3_ := Aside0.mk (below_step wv10 hb); clear BK469; clear BK470; clear HB; have HO474 := n0_; have BK469 := n1_; have BK470 := n2_; have HB := n3_; clear n0_ n1_ n2_ n3_; (try clear hb); (try clear hb2); (try clear hk); (try clear hi); (try clear ho0); have hcz19_0 : w18.cell? ⟨gb470, 0, none⟩ = some (.int .i64 a1_0) := xvc BK470.out; have hcz19_1 : w18.cell? ⟨gb470, 1, none⟩ = some (.int .i64 a1_1) := xvc BK470.out; have hcz19_2 : w18.cell? ⟨gb470, 2, none⟩ = some (.int .i64 a1_2) := xvc BK470.out; have hcz19_3 : w18.cell? ⟨gb470, 3, none⟩ = some (.int .i64 a1_3) := xvc BK470.out; have hcz19_4 : w18.cell? ⟨gb470, 4, none⟩ = some (.int .i64 a1_4) := xvc BK470.out; have hcz19_5 : w18.cell? ⟨gb470, 5, none⟩ = some (.int .i64 a1_5) := xvc BK470.out; have hfz19_0 := blk_frozen BK470.out 0; have hfz19_1 := blk_frozen BK470.out 1; have hfz19_2 := blk_frozen BK470.out 2; have hfz19_3 := blk_frozen BK470.out 3; have hfz19_4 := blk_frozen BK470.out 4; have hfz19_5 := blk_frozen BK470.out 5; have hcz20_0 : w18.cell? ⟨gb469, 0, none⟩ = some (.int .i64 a0_0) := xvc BK469.out; have hcz20_1 : w18.cell? ⟨gb469, 1, none⟩ = some (.int .i64 a0_1) := xvc BK469.out; have hfz20_0 := blk_frozen BK469.out 0; have hfz20_1 := blk_frozen BK469.out 1) | ((with_reducible refine gate_callee (f := 133) rfl ?_); refine goesL_ (some 23) rfl rfl Try.func133 (by kernel_rfl) rfl #[.agg #[.int .i64 a0_0, .int .i64 a0_1], .agg #[.int .i64 a1_0, .int .i64 a1_1, .int .i64 a1_2, .int .i64 a1_3, .int .i64 a1_4, .int .i64 a1_5], .int .i64 a2] rfl wv1 ?_; (with_reducible refine (impl_mapCode.calls k a0_0 a0_1 a1_0 a1_1 a1_2 a1_3 a1_4 a1_5 a2 t475 _ A8.out).mono ?_); rintro e w21 ⟨v476, rfl, ho0, hb⟩; refine ⟨_, rfl, ?_⟩; have n0_ := Aside0.mk (Kd.R_elder' (xvr HO474.out) (Kd.R_base ho0) hb); have n1_ := Aside0.mk (Kd.R_lower (Kd.R_new' ho0 (Kd.R_lt (xvr HO474.out))) (below_size wv10)); have n2_ := Aside0.mk (xvl BK469.out hb); have n3_ := Aside0.mk (xvl BK470.out hb); have n4_ := Aside0.mk (below_step wv10 hb); clear HO474; clear BK469; clear BK470; clear HB; have HO474 := n0_; have HO477 := n1_; have BK469 := n2_; have BK470 := n3_; have HB := n4_; clear n0_ n1_ n2_ n3_ n4_; (try clear hb); (try clear hb2); (try clear hk); (try clear hi); (try clear ho0); obtain ⟨Ao22, co22, eo22⟩ := Kd.R_slice HO477.out; subst eo22))
    go_ret2
    exact ⟨_, wv3, wv29, wv10⟩
   ·rw [if_neg c9] at H
    have c9b0 : decide (60 < (t475.length : Int)) = false := decide_eq_false c9
    have c9b1 : decide (60 < t475.length) = false := decide_eq_false (by omega)
    clear c9
    simp only [Option.some.injEq, Prod.mk.injEq] at H
    obtain ⟨rfl, rfl⟩ := H
    go_enter Try.func67, Try.ntmps67
    go_wp2_with (first | ((with_reducible refine gate_dst (N := 3) rfl ?_); refine box_event ?hg (N := 3) ?hd (cs := #[.int .i64 a0_0, .int .i64 a0_1]) (t := 31) ?hr ?_; (case hd => rfl); (case hg => rfl); (case hr => first | (go_simp; done) | (go_simp; rfl)); intro gb469 hg w23 hbox hb; have n0_ := Aside0.mk (below_step (xvo HB.out) hb); have n1_ := Aside0.mk (hbox); have n2_ := Aside0.mk ((by rw [hg]; exact (below_size (xvo HB.out)) : w.heap.size ≤ gb469)); have n3_ := Aside0.mk ((by rw [hg]; exact (below_size (xvo HB.out)) : w.heap.size ≤ gb469)); clear HB; have HB := n0_; have BK469 := n1_; have GW469 := n2_; have GE469 := n3_; clear n0_ n1_ n2_ n3_; clear hb hbox hg) | ((with_reducible refine gate_dst (N := 4) rfl ?_); refine box_event ?hg (N := 4) ?hd (cs := #[.int .i64 a1_0, .int .i64 a1_1, .int .i64 a1_2, .int .i64 a1_3, .int .i64 a1_4, .int .i64 a1_5]) (t := 25) ?hr ?_; (case hd => rfl); (case hg => rfl); (case hr => first | (go_simp; done) | (go_simp; rfl)); intro gb470 hg w24 hbox hb; have n0_ := Aside0.mk (xvl BK469.out hb); have n1_ := Aside0.mk (below_step wv19 hb); have n2_ := Aside0.mk (hbox); have n3_ := Aside0.mk ((by rw [hg]; exact (below_size wv19) : w.heap.size ≤ gb470)); have n4_ := Aside0.mk ((by rw [hg]; exact (below_size wv19) : w.heap.size ≤ gb470)); have n5_ := Aside0.mk ((by rw [hg]; exact Nat.ne_of_lt (blk_lt (g := gb469) (o := .cells #[.int .i64 a0_0, .int .i64 a0_1] 31 (0, 0)) (xvb BK469.out)) : gb469 ≠ gb470)); have n6_ := Aside0.mk ((by rw [hg]; exact Nat.ne_of_gt (blk_lt (g := gb469) (o := .cells #[.int .i64 a0_0, .int .i64 a0_1] 31 (0, 0)) (xvb BK469.out)) : gb470 ≠ gb469)); clear BK469; clear HB; have BK469 := n0_; have HB := n1_; have BK470 := n2_; have GW470 := n3_; have GE470 := n4_; have NB469_470 := n5_; have NB470_469 := n6_; clear n0_ n1_ n2_ n3_ n4_ n5_ n6_; clear hb hbox hg; have hnb25 := NB469_470.out; have hnc25 := NB470_469.out; have hcz26_0 : w24.cell? ⟨gb469, 0, none⟩ = some (.int .i64 a0_0) := xvc BK469.out; have hcz26_1 : w24.cell? ⟨gb469, 1, none⟩ = some (.int .i64 a0_1) := xvc BK469.out; have hfz26_0 := blk_frozen BK469.out 0; have hfz26_1 := blk_frozen BK469.out 1; have hcz27_0 : w24.cell? ⟨gb470, 0, none⟩ = some (.int .i64 a1_0) := xvc BK470.out; have hcz27_1 : w24.cell? ⟨gb470, 1, none⟩ = some (.int .i64 a1_1) := xvc BK470.out; have hcz27_2 : w24.cell? ⟨gb470, 2, none⟩ = some (.int .i64 a1_2) := xvc BK470.out; have hcz27_3 : w24.cell? ⟨gb470, 3, none⟩ = some (.int .i64 a1_3) := xvc BK470.out; have hcz27_4 : w24.cell? ⟨gb470, 4, none⟩ = some (.int .i64 a1_4) := xvc BK470.out; have hcz27_5 : w24.cell? ⟨gb470, 5, none⟩ = some (.int .i64 a1_5) := xvc BK470.out; have hfz27_0 := blk_frozen BK470.out 0; have hfz27_1 := blk_frozen BK470.out 1; have hfz27_2 := blk_frozen BK470.out 2; have hfz27_3 := blk_frozen BK470.out 3; have hfz27_4 := blk_frozen BK470.out 4; have hfz27_5 := blk_frozen BK470.out 5) | ((with_reducible refine gate_callee (f := 24) rfl ?_); refine goesL_ (some 12) rfl rfl Try.func24 (by kernel_rfl) rfl #[.agg #[.int .i64 a0_0, .int .i64 a0_1], .agg #[.int .i64 a1_0, .int .i64 a1_1, .int .i64 a1_2, .int .i64 a1_3, .int .i64 a1_4, .int .i64 a1_5], .int .i64 a2] rfl wv1 ?_; (with_reducible refine (impl_CanStrip.calls k a0_0 a0_1 a1_0 a1_1 a1_2 a1_3 a1_4 a1_5 a2 true _ A4.out).mono ?_); rintro e w28 ⟨rfl, hb⟩; refine ⟨_, rfl, ?_⟩; have n0_ := Aside0.mk (xvl BK469.out hb); have n1_ := Aside0.mk (xvl BK470.out hb); have n2_ := Aside0.mk (below_step wv10 hb); clear BK469; clear BK470; clear HB; have BK469 := n0_; have BK470 := n1_; have HB := n2_; clear n0_ n1_ n2_; (try clear hb); (try clear hb2); (try clear hk); (try clear hi); have hcz29_0 : w28.cell? ⟨gb469, 0, none⟩ = some (.int .i64 a0_0) := xvc BK469.out; have hcz29_1 : w28.cell? ⟨gb469, 1, none⟩ = some (.int .i64 a0_1) := xvc BK469.out; have hfz29_0 := blk_frozen BK469.out 0; have hfz29_1 := blk_frozen BK469.out 1; have hcz30_0 : w28.cell? ⟨gb470, 0, none⟩ = some (.int .i64 a1_0) := xvc BK470.out; have hcz30_1 : w28.cell? ⟨gb470, 1, none⟩ = some (.int .i64 a1_1) := xvc BK470.out; have hcz30_2 : w28.cell? ⟨gb470, 2, none⟩ = some (.int .i64 a1_2) := xvc BK470.out; have hcz30_3 : w28.cell? ⟨gb470, 3, none⟩ = some (.int .i64 a1_3) := xvc BK470.out; have hcz30_4 : w28.cell? ⟨gb470, 4, none⟩ = some (.int .i64 a1_4) := xvc BK470.out; have hcz30_5 : w28.cell? ⟨gb470, 5, none⟩ = some (.int .i64 a1_5) := xvc BK470.out; have hfz30_0 := blk_frozen BK470.out 0; have hfz30_1 := blk_frozen BK470.out 1; have hfz30_2 := blk_frozen BK470.out 2; have hfz30_3 := blk_frozen BK470.out 3; have hfz30_4 := blk_frozen BK470.out 4; have hfz30_5 := blk_frozen BK470.out 5) | ((with_reducible refine gate_callee (f := 132) rfl ?_); refine goesL_ (some 16) rfl rfl Try.func132 (by kernel_rfl) rfl #[.agg #[.int .i64 a0_0, .int .i64 a0_1], .agg #[.int .i64 a1_0, .int .i64 a1_1, .int .i64 a1_2, .int .i64 a1_3, .int .i64 a1_4, .int .i64 a1_5]] rfl wv1 ?_; (with_reducible refine (impl_foldCode.calls k a0_0 a0_1 a1_0 a1_1 a1_2 a1_3 a1_4 a1_5 t472 _ A6.out).mono ?_); rintro e w31 ⟨v473, rfl, ho0, hb⟩; refine ⟨_, rfl, ?_⟩; have n0_ := Aside0.mk (Kd.R_lower ho0 (below_size wv10)); have n1_ := Aside0.mk (xvl BK469.out hb); have n2_ := Aside0.mk (xvl BK470.out hb); have n3_ := Aside0.mk (below_step wv10 hb); clear BK469; clear BK470; clear HB; have HO474 := n0_; have BK469 := n1_; have BK470 := n2_; have HB := n3_; clear n0_ n1_ n2_ n3_; (try clear hb); (try clear hb2); (try clear hk); (try clear hi); (try clear ho0); have hcz32_0 : w31.cell? ⟨gb470, 0, none⟩ = some (.int .i64 a1_0) := xvc BK470.out; have hcz32_1 : w31.cell? ⟨gb470, 1, none⟩ = some (.int .i64 a1_1) := xvc BK470.out; have hcz32_2 : w31.cell? ⟨gb470, 2, none⟩ = some (.int .i64 a1_2) := xvc BK470.out; have hcz32_3 : w31.cell? ⟨gb470, 3, none⟩ = some (.int .i64 a1_3) := xvc BK470.out; have hcz32_4 : w31.cell? ⟨gb470, 4, none⟩ = some (.int .i64 a1_4) := xvc BK470.out; have hcz32_5 : w31.cell? ⟨gb470, 5, none⟩ = some (.int .i64 a1_5) := xvc BK470.out; have hfz32_0 := blk_frozen BK470.out 0; have hfz32_1 := blk_frozen BK470.out 1; have hfz32_2 := blk_frozen BK470.out 2; have hfz32_3 := blk_frozen BK470.out 3; have hfz32_4 := blk_frozen BK470.out 4; have hfz32_5 := blk_frozen BK470.out 5; have hcz33_0 : w31.cell? ⟨gb469, 0, none⟩ = some (.int .i64 a0_0) := xvc BK469.out; have hcz33_1 : w31.cell? ⟨gb469, 1, none⟩ = some (.int .i64 a0_1) := xvc BK469.out; have hfz33_0 := blk_frozen BK469.out 0; have hfz33_1 := blk_frozen BK469.out 1) | ((with_reducible refine gate_callee (f := 133) rfl ?_); refine goesL_ (some 23) rfl rfl Try.func133 (by kernel_rfl) rfl #[.agg #[.int .i64 a0_0, .int .i64 a0_1], .agg #[.int .i64 a1_0, .int .i64 a1_1, .int .i64 a1_2, .int .i64 a1_3, .int .i64 a1_4, .int .i64 a1_5], .int .i64 a2] rfl wv1 ?_; (with_reducible refine (impl_mapCode.calls k a0_0 a0_1 a1_0 a1_1 a1_2 a1_3 a1_4 a1_5 a2 t475 _ A8.out).mono ?_); rintro e w34 ⟨v476, rfl, ho0, hb⟩; refine ⟨_, rfl, ?_⟩; have n0_ := Aside0.mk (Kd.R_elder' (xvr HO474.out) (Kd.R_base ho0) hb); have n1_ := Aside0.mk (Kd.R_lower (Kd.R_new' ho0 (Kd.R_lt (xvr HO474.out))) (below_size wv10)); have n2_ := Aside0.mk (xvl BK469.out hb); have n3_ := Aside0.mk (xvl BK470.out hb); have n4_ := Aside0.mk (below_step wv10 hb); clear HO474; clear BK469; clear BK470; clear HB; have HO474 := n0_; have HO477 := n1_; have BK469 := n2_; have BK470 := n3_; have HB := n4_; clear n0_ n1_ n2_ n3_ n4_; (try clear hb); (try clear hb2); (try clear hk); (try clear hi); (try clear ho0); obtain ⟨Ao35, co35, eo35⟩ := Kd.R_slice HO477.out; subst eo35))
    go_ret2
    exact ⟨_, wv3, (by (with_reducible repeat (first | apply Kd.R_alloc | apply Kd.R_drewN | apply Kd.R_drew)); exact Kd.R_mono HO477.out (fun _ hk => trivial)), wv10⟩
  ·rw [if_neg c7] at H
   have c7b0 : (a1_0 == 0) = false := beq_eq_false_iff_ne.mpr c7
   have c7b1 : (a1_0 != 0) = true := bne_iff_ne.mpr c7
   by_cases c36 : (t472.length : Int) > 60
   ·rw [if_pos c36] at H
    have c36b0 : decide (60 < (t472.length : Int)) = true := decide_eq_true c36
    have c36b1 : decide (60 < t472.length) = true := decide_eq_true (by omega)
    clear c36
    simp only [Option.some.injEq, Prod.mk.injEq] at H
    obtain ⟨rfl, rfl⟩ := H
    go_enter Try.func67, Try.ntmps67
    go_wp2_with (first | ((with_reducible refine gate_dst (N := 3) rfl ?_); refine box_event ?hg (N := 3) ?hd (cs := #[.int .i64 a0_0, .int .i64 a0_1]) (t := 31) ?hr ?_; (case hd => rfl); (case hg => rfl); (case hr => first | (go_simp; done) | (go_simp; rfl)); intro gb469 hg w37 hbox hb; have n0_ := Aside0.mk (below_step (xvo HB.out) hb); have n1_ := Aside0.mk (hbox); have n2_ := Aside0.mk ((by rw [hg]; exact (below_size (xvo HB.out)) : w.heap.size ≤ gb469)); have n3_ := Aside0.mk ((by rw [hg]; exact (below_size (xvo HB.out)) : w.heap.size ≤ gb469)); clear HB; have HB := n0_; have BK469 := n1_; have GW469 := n2_; have GE469 := n3_; clear n0_ n1_ n2_ n3_; clear hb hbox hg) | ((with_reducible refine gate_dst (N := 4) rfl ?_); refine box_event ?hg (N := 4) ?hd (cs := #[.int .i64 a1_0, .int .i64 a1_1, .int .i64 a1_2, .int .i64 a1_3, .int .i64 a1_4, .int .i64 a1_5]) (t := 25) ?hr ?_; (case hd => rfl); (case hg => rfl); (case hr => first | (go_simp; done) | (go_simp; rfl)); intro gb470 hg w38 hbox hb; have n0_ := Aside0.mk (xvl BK469.out hb); have n1_ := Aside0.mk (below_step wv19 hb); have n2_ := Aside0.mk (hbox); have n3_ := Aside0.mk ((by rw [hg]; exact (below_size wv19) : w.heap.size ≤ gb470)); have n4_ := Aside0.mk ((by rw [hg]; exact (below_size wv19) : w.heap.size ≤ gb470)); have n5_ := Aside0.mk ((by rw [hg]; exact Nat.ne_of_lt (blk_lt (g := gb469) (o := .cells #[.int .i64 a0_0, .int .i64 a0_1] 31 (0, 0)) (xvb BK469.out)) : gb469 ≠ gb470)); have n6_ := Aside0.mk ((by rw [hg]; exact Nat.ne_of_gt (blk_lt (g := gb469) (o := .cells #[.int .i64 a0_0, .int .i64 a0_1] 31 (0, 0)) (xvb BK469.out)) : gb470 ≠ gb469)); clear BK469; clear HB; have BK469 := n0_; have HB := n1_; have BK470 := n2_; have GW470 := n3_; have GE470 := n4_; have NB469_470 := n5_; have NB470_469 := n6_; clear n0_ n1_ n2_ n3_ n4_ n5_ n6_; clear hb hbox hg; have hnb39 := NB469_470.out; have hnc39 := NB470_469.out; have hcz40_0 : w38.cell? ⟨gb469, 0, none⟩ = some (.int .i64 a0_0) := xvc BK469.out; have hcz40_1 : w38.cell? ⟨gb469, 1, none⟩ = some (.int .i64 a0_1) := xvc BK469.out; have hfz40_0 := blk_frozen BK469.out 0; have hfz40_1 := blk_frozen BK469.out 1; have hcz41_0 : w38.cell? ⟨gb470, 0, none⟩ = some (.int .i64 a1_0) := xvc BK470.out; have hcz41_1 : w38.cell? ⟨gb470, 1, none⟩ = some (.int .i64 a1_1) := xvc BK470.out; have hcz41_2 : w38.cell? ⟨gb470, 2, none⟩ = some (.int .i64 a1_2) := xvc BK470.out; have hcz41_3 : w38.cell? ⟨gb470, 3, none⟩ = some (.int .i64 a1_3) := xvc BK470.out; have hcz41_4 : w38.cell? ⟨gb470, 4, none⟩ = some (.int .i64 a1_4) := xvc BK470.out; have hcz41_5 : w38.cell? ⟨gb470, 5, none⟩ = some (.int .i64 a1_5) := xvc BK470.out; have hfz41_0 := blk_frozen BK470.out 0; have hfz41_1 := blk_frozen BK470.out 1; have hfz41_2 := blk_frozen BK470.out 2; have hfz41_3 := blk_frozen BK470.out 3; have hfz41_4 := blk_frozen BK470.out 4; have hfz41_5 := blk_frozen BK470.out 5) | ((with_reducible refine gate_callee (f := 24) rfl ?_); refine goesL_ (some 12) rfl rfl Try.func24 (by kernel_rfl) rfl #[.agg #[.int .i64 a0_0, .int .i64 a0_1], .agg #[.int .i64 a1_0, .int .i64 a1_1, .int .i64 a1_2, .int .i64 a1_3, .int .i64 a1_4, .int .i64 a1_5], .int .i64 a2] rfl wv1 ?_; (with_reducible refine (impl_CanStrip.calls k a0_0 a0_1 a1_0 a1_1 a1_2 a1_3 a1_4 a1_5 a2 true _ A4.out).mono ?_); rintro e w42 ⟨rfl, hb⟩; refine ⟨_, rfl, ?_⟩; have n0_ := Aside0.mk (xvl BK469.out hb); have n1_ := Aside0.mk (xvl BK470.out hb); have n2_ := Aside0.mk (below_step wv10 hb); clear BK469; clear BK470; clear HB; have BK469 := n0_; have BK470 := n1_; have HB := n2_; clear n0_ n1_ n2_; (try clear hb); (try clear hb2); (try clear hk); (try clear hi); have hcz43_0 : w42.cell? ⟨gb469, 0, none⟩ = some (.int .i64 a0_0) := xvc BK469.out; have hcz43_1 : w42.cell? ⟨gb469, 1, none⟩ = some (.int .i64 a0_1) := xvc BK469.out; have hfz43_0 := blk_frozen BK469.out 0; have hfz43_1 := blk_frozen BK469.out 1; have hcz44_0 : w42.cell? ⟨gb470, 0, none⟩ = some (.int .i64 a1_0) := xvc BK470.out; have hcz44_1 : w42.cell? ⟨gb470, 1, none⟩ = some (.int .i64 a1_1) := xvc BK470.out; have hcz44_2 : w42.cell? ⟨gb470, 2, none⟩ = some (.int .i64 a1_2) := xvc BK470.out; have hcz44_3 : w42.cell? ⟨gb470, 3, none⟩ = some (.int .i64 a1_3) := xvc BK470.out; have hcz44_4 : w42.cell? ⟨gb470, 4, none⟩ = some (.int .i64 a1_4) := xvc BK470.out; have hcz44_5 : w42.cell? ⟨gb470, 5, none⟩ = some (.int .i64 a1_5) := xvc BK470.out; have hfz44_0 := blk_frozen BK470.out 0; have hfz44_1 := blk_frozen BK470.out 1; have hfz44_2 := blk_frozen BK470.out 2; have hfz44_3 := blk_frozen BK470.out 3; have hfz44_4 := blk_frozen BK470.out 4; have hfz44_5 := blk_frozen BK470.out 5) | ((with_reducible refine gate_callee (f := 132) rfl ?_); refine goesL_ (some 16) rfl rfl Try.func132 (by kernel_rfl) rfl #[.agg #[.int .i64 a0_0, .int .i64 a0_1], .agg #[.int .i64 a1_0, .int .i64 a1_1, .int .i64 a1_2, .int .i64 a1_3, .int .i64 a1_4, .int .i64 a1_5]] rfl wv1 ?_; (with_reducible refine (impl_foldCode.calls k a0_0 a0_1 a1_0 a1_1 a1_2 a1_3 a1_4 a1_5 t472 _ A6.out).mono ?_); rintro e w45 ⟨v473, rfl, ho0, hb⟩; refine ⟨_, rfl, ?_⟩; have n0_ := Aside0.mk (Kd.R_lower ho0 (below_size wv10)); have n1_ := Aside0.mk (xvl BK469.out hb); have n2_ := Aside0.mk (xvl BK470.out hb); have n3_ := Aside0.mk (below_step wv10 hb); clear BK469; clear BK470; clear HB; have HO474 := n0_; have BK469 := n1_; have BK470 := n2_; have HB := n3_; clear n0_ n1_ n2_ n3_; (try clear hb); (try clear hb2); (try clear hk); (try clear hi); (try clear ho0); have hcz46_0 : w45.cell? ⟨gb470, 0, none⟩ = some (.int .i64 a1_0) := xvc BK470.out; have hcz46_1 : w45.cell? ⟨gb470, 1, none⟩ = some (.int .i64 a1_1) := xvc BK470.out; have hcz46_2 : w45.cell? ⟨gb470, 2, none⟩ = some (.int .i64 a1_2) := xvc BK470.out; have hcz46_3 : w45.cell? ⟨gb470, 3, none⟩ = some (.int .i64 a1_3) := xvc BK470.out; have hcz46_4 : w45.cell? ⟨gb470, 4, none⟩ = some (.int .i64 a1_4) := xvc BK470.out; have hcz46_5 : w45.cell? ⟨gb470, 5, none⟩ = some (.int .i64 a1_5) := xvc BK470.out; have hfz46_0 := blk_frozen BK470.out 0; have hfz46_1 := blk_frozen BK470.out 1; have hfz46_2 := blk_frozen BK470.out 2; have hfz46_3 := blk_frozen BK470.out 3; have hfz46_4 := blk_frozen BK470.out 4; have hfz46_5 := blk_frozen BK470.out 5; obtain ⟨Ao47, co47, eo47⟩ := Kd.R_slice HO474.out; subst eo47))
    go_ret2
    exact ⟨_, wv3, wv29, wv10⟩
   ·rw [if_neg c36] at H
    have c36b0 : decide (60 < (t472.length : Int)) = false := decide_eq_false c36
    have c36b1 : decide (60 < t472.length) = false := decide_eq_false (by omega)
    clear c36
    simp only [Option.some.injEq, Prod.mk.injEq] at H
    obtain ⟨rfl, rfl⟩ := H
    go_enter Try.func67, Try.ntmps67
    go_wp2_with (first | ((with_reducible refine gate_dst (N := 3) rfl ?_); refine box_event ?hg (N := 3) ?hd (cs := #[.int .i64 a0_0, .int .i64 a0_1]) (t := 31) ?hr ?_; (case hd => rfl); (case hg => rfl); (case hr => first | (go_simp; done) | (go_simp; rfl)); intro gb469 hg w48 hbox hb; have n0_ := Aside0.mk (below_step (xvo HB.out) hb); have n1_ := Aside0.mk (hbox); have n2_ := Aside0.mk ((by rw [hg]; exact (below_size (xvo HB.out)) : w.heap.size ≤ gb469)); have n3_ := Aside0.mk ((by rw [hg]; exact (below_size (xvo HB.out)) : w.heap.size ≤ gb469)); clear HB; have HB := n0_; have BK469 := n1_; have GW469 := n2_; have GE469 := n3_; clear n0_ n1_ n2_ n3_; clear hb hbox hg) | ((with_reducible refine gate_dst (N := 4) rfl ?_); refine box_event ?hg (N := 4) ?hd (cs := #[.int .i64 a1_0, .int .i64 a1_1, .int .i64 a1_2, .int .i64 a1_3, .int .i64 a1_4, .int .i64 a1_5]) (t := 25) ?hr ?_; (case hd => rfl); (case hg => rfl); (case hr => first | (go_simp; done) | (go_simp; rfl)); intro gb470 hg w49 hbox hb; have n0_ := Aside0.mk (xvl BK469.out hb); have n1_ := Aside0.mk (below_step wv19 hb); have n2_ := Aside0.mk (hbox); have n3_ := Aside0.mk ((by rw [hg]; exact (below_size wv19) : w.heap.size ≤ gb470)); have n4_ := Aside0.mk ((by rw [hg]; exact (below_size wv19) : w.heap.size ≤ gb470)); have n5_ := Aside0.mk ((by rw [hg]; exact Nat.ne_of_lt (blk_lt (g := gb469) (o := .cells #[.int .i64 a0_0, .int .i64 a0_1] 31 (0, 0)) (xvb BK469.out)) : gb469 ≠ gb470)); have n6_ := Aside0.mk ((by rw [hg]; exact Nat.ne_of_gt (blk_lt (g := gb469) (o := .cells #[.int .i64 a0_0, .int .i64 a0_1] 31 (0, 0)) (xvb BK469.out)) : gb470 ≠ gb469)); clear BK469; clear HB; have BK469 := n0_; have HB := n1_; have BK470 := n2_; have GW470 := n3_; have GE470 := n4_; have NB469_470 := n5_; have NB470_469 := n6_; clear n0_ n1_ n2_ n3_ n4_ n5_ n6_; clear hb hbox hg; have hnb50 := NB469_470.out; have hnc50 := NB470_469.out; have hcz51_0 : w49.cell? ⟨gb469, 0, none⟩ = some (.int .i64 a0_0) := xvc BK469.out; have hcz51_1 : w49.cell? ⟨gb469, 1, none⟩ = some (.int .i64 a0_1) := xvc BK469.out; have hfz51_0 := blk_frozen BK469.out 0; have hfz51_1 := blk_frozen BK469.out 1; have hcz52_0 : w49.cell? ⟨gb470, 0, none⟩ = some (.int .i64 a1_0) := xvc BK470.out; have hcz52_1 : w49.cell? ⟨gb470, 1, none⟩ = some (.int .i64 a1_1) := xvc BK470.out; have hcz52_2 : w49.cell? ⟨gb470, 2, none⟩ = some (.int .i64 a1_2) := xvc BK470.out; have hcz52_3 : w49.cell? ⟨gb470, 3, none⟩ = some (.int .i64 a1_3) := xvc BK470.out; have hcz52_4 : w49.cell? ⟨gb470, 4, none⟩ = some (.int .i64 a1_4) := xvc BK470.out; have hcz52_5 : w49.cell? ⟨gb470, 5, none⟩ = some (.int .i64 a1_5) := xvc BK470.out; have hfz52_0 := blk_frozen BK470.out 0; have hfz52_1 := blk_frozen BK470.out 1; have hfz52_2 := blk_frozen BK470.out 2; have hfz52_3 := blk_frozen BK470.out 3; have hfz52_4 := blk_frozen BK470.out 4; have hfz52_5 := blk_frozen BK470.out 5) | ((with_reducible refine gate_callee (f := 24) rfl ?_); refine goesL_ (some 12) rfl rfl Try.func24 (by kernel_rfl) rfl #[.agg #[.int .i64 a0_0, .int .i64 a0_1], .agg #[.int .i64 a1_0, .int .i64 a1_1, .int .i64 a1_2, .int .i64 a1_3, .int .i64 a1_4, .int .i64 a1_5], .int .i64 a2] rfl wv1 ?_; (with_reducible refine (impl_CanStrip.calls k a0_0 a0_1 a1_0 a1_1 a1_2 a1_3 a1_4 a1_5 a2 true _ A4.out).mono ?_); rintro e w53 ⟨rfl, hb⟩; refine ⟨_, rfl, ?_⟩; have n0_ := Aside0.mk (xvl BK469.out hb); have n1_ := Aside0.mk (xvl BK470.out hb); have n2_ := Aside0.mk (below_step wv10 hb); clear BK469; clear BK470; clear HB; have BK469 := n0_; have BK470 := n1_; have HB := n2_; clear n0_ n1_ n2_; (try clear hb); (try clear hb2); (try clear hk); (try clear hi); have hcz54_0 : w53.cell? ⟨gb469, 0, none⟩ = some (.int .i64 a0_0) := xvc BK469.out; have hcz54_1 : w53.cell? ⟨gb469, 1, none⟩ = some (.int .i64 a0_1) := xvc BK469.out; have hfz54_0 := blk_frozen BK469.out 0; have hfz54_1 := blk_frozen BK469.out 1; have hcz55_0 : w53.cell? ⟨gb470, 0, none⟩ = some (.int .i64 a1_0) := xvc BK470.out; have hcz55_1 : w53.cell? ⟨gb470, 1, none⟩ = some (.int .i64 a1_1) := xvc BK470.out; have hcz55_2 : w53.cell? ⟨gb470, 2, none⟩ = some (.int .i64 a1_2) := xvc BK470.out; have hcz55_3 : w53.cell? ⟨gb470, 3, none⟩ = some (.int .i64 a1_3) := xvc BK470.out; have hcz55_4 : w53.cell? ⟨gb470, 4, none⟩ = some (.int .i64 a1_4) := xvc BK470.out; have hcz55_5 : w53.cell? ⟨gb470, 5, none⟩ = some (.int .i64 a1_5) := xvc BK470.out; have hfz55_0 := blk_frozen BK470.out 0; have hfz55_1 := blk_frozen BK470.out 1; have hfz55_2 := blk_frozen BK470.out 2; have hfz55_3 := blk_frozen BK470.out 3; have hfz55_4 := blk_frozen BK470.out 4; have hfz55_5 := blk_frozen BK470.out 5) | ((with_reducible refine gate_callee (f := 132) rfl ?_); refine goesL_ (some 16) rfl rfl Try.func132 (by kernel_rfl) rfl #[.agg #[.int .i64 a0_0, .int .i64 a0_1], .agg #[.int .i64 a1_0, .int .i64 a1_1, .int .i64 a1_2, .int .i64 a1_3, .int .i64 a1_4, .int .i64 a1_5]] rfl wv1 ?_; (with_reducible refine (impl_foldCode.calls k a0_0 a0_1 a1_0 a1_1 a1_2 a1_3 a1_4 a1_5 t472 _ A6.out).mono ?_); rintro e w56 ⟨v473, rfl, ho0, hb⟩; refine ⟨_, rfl, ?_⟩; have n0_ := Aside0.mk (Kd.R_lower ho0 (below_size wv10)); have n1_ := Aside0.mk (xvl BK469.out hb); have n2_ := Aside0.mk (xvl BK470.out hb); have n3_ := Aside0.mk (below_step wv10 hb); clear BK469; clear BK470; clear HB; have HO474 := n0_; have BK469 := n1_; have BK470 := n2_; have HB := n3_; clear n0_ n1_ n2_ n3_; (try clear hb); (try clear hb2); (try clear hk); (try clear hi); (try clear ho0); have hcz57_0 : w56.cell? ⟨gb470, 0, none⟩ = some (.int .i64 a1_0) := xvc BK470.out; have hcz57_1 : w56.cell? ⟨gb470, 1, none⟩ = some (.int .i64 a1_1) := xvc BK470.out; have hcz57_2 : w56.cell? ⟨gb470, 2, none⟩ = some (.int .i64 a1_2) := xvc BK470.out; have hcz57_3 : w56.cell? ⟨gb470, 3, none⟩ = some (.int .i64 a1_3) := xvc BK470.out; have hcz57_4 : w56.cell? ⟨gb470, 4, none⟩ = some (.int .i64 a1_4) := xvc BK470.out; have hcz57_5 : w56.cell? ⟨gb470, 5, none⟩ = some (.int .i64 a1_5) := xvc BK470.out; have hfz57_0 := blk_frozen BK470.out 0; have hfz57_1 := blk_frozen BK470.out 1; have hfz57_2 := blk_frozen BK470.out 2; have hfz57_3 := blk_frozen BK470.out 3; have hfz57_4 := blk_frozen BK470.out 4; have hfz57_5 := blk_frozen BK470.out 5; obtain ⟨Ao58, co58, eo58⟩ := Kd.R_slice HO474.out; subst eo58))
    go_ret2
    exact ⟨_, wv3, (xvr HO474.out), wv10⟩
 ·replace c5 := Bool.eq_false_iff.mpr c5
  subst c5
  have H1 : (some (([] : List (S142)), false)) = some (r1, r2) := by rw [if_neg (show ¬ (false = true) by decide)] at H; exact H
  clear H
  have H := H1
  clear H1
  simp only [Option.some.injEq, Prod.mk.injEq] at H
  obtain ⟨rfl, rfl⟩ := H
  go_enter Try.func67, Try.ntmps67
  go_wp2_with (first | ((with_reducible refine gate_dst (N := 3) rfl ?_); refine box_event ?hg (N := 3) ?hd (cs := #[.int .i64 a0_0, .int .i64 a0_1]) (t := 31) ?hr ?_; (case hd => rfl); (case hg => rfl); (case hr => first | (go_simp; done) | (go_simp; rfl)); intro gb469 hg w59 hbox hb; have n0_ := Aside0.mk (below_step (xvo HB.out) hb); have n1_ := Aside0.mk (hbox); have n2_ := Aside0.mk ((by rw [hg]; exact (below_size (xvo HB.out)) : w.heap.size ≤ gb469)); have n3_ := Aside0.mk ((by rw [hg]; exact (below_size (xvo HB.out)) : w.heap.size ≤ gb469)); clear HB; have HB := n0_; have BK469 := n1_; have GW469 := n2_; have GE469 := n3_; clear n0_ n1_ n2_ n3_; clear hb hbox hg) | ((with_reducible refine gate_dst (N := 4) rfl ?_); refine box_event ?hg (N := 4) ?hd (cs := #[.int .i64 a1_0, .int .i64 a1_1, .int .i64 a1_2, .int .i64 a1_3, .int .i64 a1_4, .int .i64 a1_5]) (t := 25) ?hr ?_; (case hd => rfl); (case hg => rfl); (case hr => first | (go_simp; done) | (go_simp; rfl)); intro gb470 hg w60 hbox hb; have n0_ := Aside0.mk (xvl BK469.out hb); have n1_ := Aside0.mk (below_step wv19 hb); have n2_ := Aside0.mk (hbox); have n3_ := Aside0.mk ((by rw [hg]; exact (below_size wv19) : w.heap.size ≤ gb470)); have n4_ := Aside0.mk ((by rw [hg]; exact (below_size wv19) : w.heap.size ≤ gb470)); have n5_ := Aside0.mk ((by rw [hg]; exact Nat.ne_of_lt (blk_lt (g := gb469) (o := .cells #[.int .i64 a0_0, .int .i64 a0_1] 31 (0, 0)) (xvb BK469.out)) : gb469 ≠ gb470)); have n6_ := Aside0.mk ((by rw [hg]; exact Nat.ne_of_gt (blk_lt (g := gb469) (o := .cells #[.int .i64 a0_0, .int .i64 a0_1] 31 (0, 0)) (xvb BK469.out)) : gb470 ≠ gb469)); clear BK469; clear HB; have BK469 := n0_; have HB := n1_; have BK470 := n2_; have GW470 := n3_; have GE470 := n4_; have NB469_470 := n5_; have NB470_469 := n6_; clear n0_ n1_ n2_ n3_ n4_ n5_ n6_; clear hb hbox hg; have hnb61 := NB469_470.out; have hnc61 := NB470_469.out; have hcz62_0 : w60.cell? ⟨gb469, 0, none⟩ = some (.int .i64 a0_0) := xvc BK469.out; have hcz62_1 : w60.cell? ⟨gb469, 1, none⟩ = some (.int .i64 a0_1) := xvc BK469.out; have hfz62_0 := blk_frozen BK469.out 0; have hfz62_1 := blk_frozen BK469.out 1; have hcz63_0 : w60.cell? ⟨gb470, 0, none⟩ = some (.int .i64 a1_0) := xvc BK470.out; have hcz63_1 : w60.cell? ⟨gb470, 1, none⟩ = some (.int .i64 a1_1) := xvc BK470.out; have hcz63_2 : w60.cell? ⟨gb470, 2, none⟩ = some (.int .i64 a1_2) := xvc BK470.out; have hcz63_3 : w60.cell? ⟨gb470, 3, none⟩ = some (.int .i64 a1_3) := xvc BK470.out; have hcz63_4 : w60.cell? ⟨gb470, 4, none⟩ = some (.int .i64 a1_4) := xvc BK470.out; have hcz63_5 : w60.cell? ⟨gb470, 5, none⟩ = some (.int .i64 a1_5) := xvc BK470.out; have hfz63_0 := blk_frozen BK470.out 0; have hfz63_1 := blk_frozen BK470.out 1; have hfz63_2 := blk_frozen BK470.out 2; have hfz63_3 := blk_frozen BK470.out 3; have hfz63_4 := blk_frozen BK470.out 4; have hfz63_5 := blk_frozen BK470.out 5) | ((with_reducible refine gate_callee (f := 24) rfl ?_); refine goesL_ (some 12) rfl rfl Try.func24 (by kernel_rfl) rfl #[.agg #[.int .i64 a0_0, .int .i64 a0_1], .agg #[.int .i64 a1_0, .int .i64 a1_1, .int .i64 a1_2, .int .i64 a1_3, .int .i64 a1_4, .int .i64 a1_5], .int .i64 a2] rfl wv1 ?_; (with_reducible refine (impl_CanStrip.calls k a0_0 a0_1 a1_0 a1_1 a1_2 a1_3 a1_4 a1_5 a2 false _ A4.out).mono ?_); rintro e w64 ⟨rfl, hb⟩; refine ⟨_, rfl, ?_⟩; have n0_ := Aside0.mk (xvl BK469.out hb); have n1_ := Aside0.mk (xvl BK470.out hb); have n2_ := Aside0.mk (below_step wv10 hb); clear BK469; clear BK470; clear HB; have BK469 := n0_; have BK470 := n1_; have HB := n2_; clear n0_ n1_ n2_; (try clear hb); (try clear hb2); (try clear hk); (try clear hi)))
  go_ret2
  exact ⟨_, wv3, wv29, wv10⟩

/-- An instruction with no table, as a value. -/
def instrV (x : S142) : Value := .agg #[.int .i64 x.f0, .int .i64 x.f1, .int .i64 x.f2, .int .i64 x.f3, .int .i64 x.f4, .int .i64 x.f5, .slice none 0 0]
def PredI (g : Nat) (lb : Array Value) (f : S142 → Option Bool) (w : World) : Prop :=
 ∀ W, Below w.heap.size w W → ∀ x r, f x = some r → Calls Try.prog g (#[instrV x] ++ lb) W fun e w' => e = .returned (.bool r) ∧ Below W.heap.size W w'
theorem PredI.later {g : Nat} {lb : Array Value} {f : S142 → Option Bool} {w W : World} (h : PredI g lb f w) (hb : Below w.heap.size w W) : PredI g lb f W :=
 fun W' hb' => h W' (hb.trans (hb'.mono hb.size))

/-- A predicate's function value: in every later world, at every element. -/
def PredO {α : Type} (d : Kd α) (g : Nat) (lb : Array Value) (f : α → Option Bool) (w : World) : Prop :=
 ∀ W, Below w.heap.size w W → ∀ x v r, d.K W x [v] → f x = some r → Calls Try.prog g (#[v] ++ lb) W fun e w' => e = .returned (.bool r) ∧ Below W.heap.size W w'
theorem PredO.later {α : Type} {d : Kd α} {g : Nat} {lb : Array Value} {f : α → Option Bool} {w W : World} (h : PredO d g lb f w) (hb : Below w.heap.size w W) : PredO d g lb f W :=
 fun W' hb' => h W' (hb.trans (hb'.mono hb.size))
def firstO {α : Type} (f : α → Option Bool) : List α → Nat → Option Int
 | [], _ => some (-1)
 | x :: xs, i => (f x).bind fun b => if b = true then some (i : Int) else firstO f xs (i + 1)
theorem firstO_drop {α : Type} (f : α → Option Bool) (l : List α) (k : Nat) (h : k < l.length) :
  firstO f (l.drop k) k = (f l[k]).bind fun b => if b = true then some (k : Int) else firstO f (l.drop (k + 1)) (k + 1) := by
 rw [List.drop_eq_getElem_cons h]; rfl
theorem firstO_le {α : Type} {f g : α → Option Bool} (h : ∀ x, LeO (f x) (g x)) : ∀ (l : List α) (i : Nat), LeO (firstO f l i) (firstO g l i)
 | [], _ => LeO.refl _
 | x :: xs, i => by
  unfold firstO
  exact LeO.bind (h x) (fun b => LeO.ite (LeO.refl _) (firstO_le h xs (i + 1)))
def notO (f : Option Bool) : Option Bool := f.bind fun b => some (!b)
def anyO {α : Type} (f : α → Option Bool) (l : List α) : Option Bool := (firstO f l 0).bind fun i => some (decide (0 ≤ i))
def allO {α : Type} (f : α → Option Bool) (l : List α) : Option Bool := notO (anyO (fun x => notO (f x)) l)
theorem notO_le {f g : Option Bool} (h : LeO f g) : LeO (notO f) (notO g) := LeO.bind h (fun _ => LeO.refl _)
theorem anyO_le {α : Type} {f g : α → Option Bool} (h : ∀ x, LeO (f x) (g x)) (l : List α) : LeO (anyO f l) (anyO g l) := LeO.bind (firstO_le h l 0) (fun _ => LeO.refl _)
theorem allO_le {α : Type} {f g : α → Option Bool} (h : ∀ x, LeO (f x) (g x)) (l : List α) : LeO (allO f l) (allO g l) := notO_le (anyO_le (fun x => notO_le (h x)) l)
theorem firstO_total {α : Type} {f : α → Option Bool} {p : α → Bool} : ∀ (l : List α) (i : Nat), (∀ x ∈ l, f x = some (p x)) → ∃ r, firstO f l i = some r ∧ (0 ≤ r ↔ l.any p = true)
 | [], i, _ => ⟨-1, rfl, (by simp)⟩
 | x :: xs, i, h => by
  unfold firstO
  rw [h x (by simp)]
  by_cases hp : p x = true
  ·exact ⟨i, (by simp [hp]), (by simp [hp])⟩
  ·obtain ⟨r, h1, h2⟩ := firstO_total xs (i + 1) (fun y hy => h y (by simp [hy]))
   exact ⟨r, (by simp [hp, h1]), (by simp [hp, h2])⟩
theorem anyO_total {α : Type} {f : α → Option Bool} {p : α → Bool} (l : List α) (h : ∀ x ∈ l, f x = some (p x)) : anyO f l = some (l.any p) := by
 obtain ⟨r, h1, h2⟩ := firstO_total l 0 h
 unfold anyO
 rw [h1]
 show some (decide (0 ≤ r)) = _
 congr 1
 rw [Bool.eq_iff_iff, decide_eq_true_iff]; exact h2
theorem allO_total {α : Type} {f : α → Option Bool} {p : α → Bool} (l : List α) (h : ∀ x ∈ l, f x = some (p x)) : allO f l = some (l.all p) := by
 unfold allO
 rw [anyO_total (p := fun x => !p x) l (fun x hx => by rw [h x hx]; rfl)]
 show some (!(l.any fun x => !p x)) = _
 rw [← List.all_eq_not_any_not]

set_option maxHeartbeats 4000000 in
set_option maxRecDepth 100000 in
theorem slices_IndexFunc_Instr (f : S142 → Option Bool) (g : Nat) (lb : Array Value)
  (eg : ∀ args w, (callFunc g args).run Try.prog w = .ok (.enter g args) w) (A : Option Addr) (c : Nat) (l : List S142) (r : Int) (w : World)
  (hp : PredI g lb f w) (hr : Kd.C k142 w A l.length l) (h : firstO f l 0 = some r) :
  Calls Try.prog 238 #[.slice A l.length c, .func (.func g) #[] lb] w fun e w' => e = .returned (.int .i64 r) ∧ Below w.heap.size w w' := by
 have hu := Try.underlying142
 have hm := hr.2.1
 have HR := Aside0.mk hr
 have HP := Aside0.mk hp
 have HF := Aside0.mk h
 clear hr hp h
 go_enter Try.func238, Try.ntmps238
 go_wp2
 go_loopg [5, 8] l.length (fun gg _ s8 wr => ∃ kk : Nat, kk ≤ l.length ∧ l.length - kk ≤ gg ∧ s8 = .int .i64 kk ∧ Aside0 (Below w.heap.size w wr) ∧ Aside0 (firstO f (l.drop kk) kk = some r))
 case atStart => exact ⟨0, Nat.zero_le _, (by omega), rfl, ⟨Below.refl _ w⟩, HF⟩
 case round =>
  clear HF
  obtain ⟨kk, hkk, hg, rfl, BW, FA⟩ := hrel
  by_cases hlt : kk < l.length
  ·have hltz : (kk : Int) < (l.length : Int) := by omega
   obtain ⟨ad, rfl, q0, q1, q2, q3, q4, q5, q6⟩ := at_T142 (Kd.C_below HR.out BW.out) (kk : Int) (by omega) hltz
   simp only [Int.toNat_natCast] at q0 q1 q2 q3 q4 q5 q6
   have hx : rd_T142 l (kk : Int) = l[kk] := by simp [rd_T142, List.getD_eq_getElem?_getD, hlt]
   rw [hx] at q0 q1 q2 q3 q4 q5
   have hfd := FA.out
   rw [firstO_drop f l kk hlt, Option.bind_eq_some_iff] at hfd
   obtain ⟨b, hb, hfd⟩ := hfd
   have hcall := HP.out wr BW.out l[kk] b hb
   have HFD := Aside0.mk hfd
   unfold instrV at hcall
   generalize l[kk] = y at q0 q1 q2 q3 q4 q5 hcall
   clear hfd hb hx
   cases b with
   | true =>
    go_wp2_with (go_at_fn g; refine hcall.mono ?_; rintro e w' ⟨rfl, hb'⟩)
    go_ret
    refine ⟨?_, below_step BW.out hb'⟩
    have := Option.some.inj (show some (kk : Int) = some r from HFD.out)
    rw [← this]; rfl
   | false =>
    go_wp2_with (go_at_fn g; refine hcall.mono ?_; rintro e w' ⟨rfl, hb'⟩)
    go_roundg (l.length - (kk + 1))
    case measure => omega
    case rel => exact ⟨kk + 1, (by omega), (by omega), (by go_num), ⟨below_step BW.out hb'⟩, ⟨HFD.out⟩⟩
  ·have hltz : ¬ (kk : Int) < (l.length : Int) := by omega
   have : kk = l.length := by omega
   subst this
   go_wp2
   go_ret
   refine ⟨?_, BW.out⟩
   have hx := FA.out
   rw [List.drop_length] at hx
   rw [← Option.some.inj hx]; rfl

theorem slices_ContainsFunc_Instr (f : S142 → Option Bool) (g : Nat) (lb : Array Value)
  (eg : ∀ args w, (callFunc g args).run Try.prog w = .ok (.enter g args) w) (A : Option Addr) (c : Nat) (l : List S142) (r : Bool) (w : World)
  (hp : PredI g lb f w) (hr : Kd.C k142 w A l.length l) (h : anyO f l = some r) :
  Calls Try.prog 219 #[.slice A l.length c, .func (.func g) #[] lb] w fun e w' => e = .returned (.bool r) ∧ Below w.heap.size w w' := by
 obtain ⟨i, hi, h2⟩ := Option.bind_eq_some_iff.1 h
 obtain rfl := Option.some.inj h2
 have hc := slices_IndexFunc_Instr f g lb eg A c l i w hp hr hi
 clear hr hp h hi h2
 go_enter Try.func219, Try.ntmps219
 go_wp2_with (go_at_call 238; refine hc.mono ?_; rintro e w' ⟨rfl, hb'⟩)
 go_ret
 exact ⟨(by simp), hb'⟩

theorem areAll_lit_Instr (f : S142 → Option Bool) (g : Nat) (lb : Array Value)
  (eg : ∀ args w, (callFunc g args).run Try.prog w = .ok (.enter g args) w) (w : World) (B : Nat)
  (hB : B < w.heap.size) (hcell : w.cell? ⟨B, 0, none⟩ = some (.func (.func g) #[] lb)) (hp : PredI g lb f w) :
  PredI 220 #[.pointer (some ⟨B, 0, none⟩)] (fun x => notO (f x)) w := by
 intro W hb x r hx
 have hu := Try.underlying142
 have hc : W.cell? ⟨B, 0, none⟩ = some (.func (.func g) #[] lb) := (hb.cell (p := ⟨B, 0, none⟩) hB).trans hcell
 have hBW : B < W.heap.size := Nat.lt_of_lt_of_le hB hb.size
 obtain ⟨b, hb1, hb2⟩ := Option.bind_eq_some_iff.1 hx
 obtain rfl := Option.some.inj hb2
 have hbx : Below W.heap.size W (W.alloc (.cells #[.int .i64 x.f0, .int .i64 x.f1, .int .i64 x.f2, .int .i64 x.f3, .int .i64 x.f4, .int .i64 x.f5, .slice none 0 0] 142)) := (Below.refl _ W).alloc (Nat.le_refl _) _
 have hcall := (hp.later (hb.trans (hbx.mono hb.size))) _ (Below.refl _ _) x b hb1
 unfold instrV at hcall ⊢
 show Calls Try.prog 220 #[.agg #[.int .i64 x.f0, .int .i64 x.f1, .int .i64 x.f2, .int .i64 x.f3, .int .i64 x.f4, .int .i64 x.f5, .slice none 0 0], .pointer (some ⟨B, 0, none⟩)] W (fun e w' => e = .returned (.bool (!b)) ∧ Below W.heap.size W w')
 have hc2 : (W.alloc (.cells #[.int .i64 x.f0, .int .i64 x.f1, .int .i64 x.f2, .int .i64 x.f3, .int .i64 x.f4, .int .i64 x.f5, .slice none 0 0] 142)).cell? ⟨B, 0, none⟩ = some (.func (.func g) #[] lb) := (hbx.cell (p := ⟨B, 0, none⟩) hBW).trans hc
 clear hp hcell hx hb1 hb2
 go_enter Try.func220, Try.ntmps220
 go_wp2_with (go_at_fn g; refine hcall.mono ?_; rintro e w' ⟨rfl, hb'⟩)
 go_ret
 exact ⟨rfl, below_step hbx hb'⟩
theorem areAll_Instr (f : S142 → Option Bool) (g : Nat) (lb : Array Value)
  (eg : ∀ args w, (callFunc g args).run Try.prog w = .ok (.enter g args) w) (A : Option Addr) (c : Nat) (l : List S142) (r : Bool) (w : World)
  (hp : PredI g lb f w) (hr : Kd.C k142 w A l.length l) (h : allO f l = some r) :
  Calls Try.prog 209 #[.slice A l.length c, .func (.func g) #[] lb] w fun e w' => e = .returned (.bool r) ∧ Below w.heap.size w w' := by
 obtain ⟨b, hb, h2⟩ := Option.bind_eq_some_iff.1 h
 obtain rfl := Option.some.inj h2
 have hb1 : Below w.heap.size w (w.alloc (.cells #[.func (.func g) #[] lb] 184)) := (Below.refl _ w).alloc (Nat.le_refl _) _
 have hc := slices_ContainsFunc_Instr (fun x => notO (f x)) 220 #[.pointer (some ⟨w.heap.size, 0, none⟩)] (enters_of Try.func220 (by kernel_rfl) rfl) A c l b _
  (areAll_lit_Instr f g lb eg (w.alloc (.cells #[.func (.func g) #[] lb] 184)) w.heap.size (by simp) (by simp) (hp.later hb1)) (Kd.C_below hr hb1) hb
 clear hr hp h hb h2
 go_enter Try.func209, Try.ntmps209
 go_wp2_with (go_at_call 219; refine hc.mono ?_; rintro e w' ⟨rfl, hb'⟩)
 go_ret
 exact ⟨rfl, below_step hb1 hb'⟩

/-! ### impl_shapes: function 221 -/
def impl_shapes.f  : Option ((List (S191))) := some (([(⟨(⟨#[108, 111, 97, 100]⟩ : ByteArray), 1, 0, 3, true, false, false⟩ : S191), (⟨(⟨#[115, 116, 111, 114, 101]⟩ : ByteArray), 0, 1, 3, true, false, false⟩ : S191), (⟨(⟨#[103, 97, 116, 104, 101, 114]⟩ : ByteArray), 1, 1, 0, true, false, false⟩ : S191), (⟨(⟨#[115, 99, 97, 116, 116, 101, 114]⟩ : ByteArray), 0, 1, 1, true, false, false⟩ : S191), (⟨(⟨#[111, 112]⟩ : ByteArray), 1, 1, 1, true, false, false⟩ : S191), (⟨(⟨#[99, 109, 112]⟩ : ByteArray), 2, 1, 1, true, false, false⟩ : S191), (⟨(⟨#[115, 101, 108, 101, 99, 116]⟩ : ByteArray), 1, 1, 1, true, true, false⟩ : S191), (⟨(⟨#[115, 104, 117, 102, 102, 108, 101]⟩ : ByteArray), 1, 1, 1, true, false, true⟩ : S191), (⟨(⟨#[102, 105, 108, 108]⟩ : ByteArray), 1, 0, 0, true, false, false⟩ : S191), (⟨(⟨#[115, 116, 101, 112, 115]⟩ : ByteArray), 1, 0, 3, true, false, false⟩ : S191), (⟨(⟨#[114, 101, 100, 117, 99, 101]⟩ : ByteArray), 1, 1, 0, true, false, false⟩ : S191), (⟨(⟨#[109, 97, 115, 107, 115]⟩ : ByteArray), 2, 2, 2, true, false, false⟩ : S191), (⟨(⟨#[99, 111, 109, 112, 114, 101, 115, 115]⟩ : ByteArray), 1, 1, 0, true, false, false⟩ : S191), (⟨(⟨#[101, 120, 112, 97, 110, 100]⟩ : ByteArray), 1, 1, 0, true, false, false⟩ : S191), (⟨(⟨#[99, 111, 117, 110, 116]⟩ : ByteArray), 1, 2, 0, false, false, false⟩ : S191)] : List (S191)))
set_option maxHeartbeats 8000000 in
set_option maxRecDepth 100000 in
theorem impl_shapes.calls  (r : List (S191)) (w : World) (h : impl_shapes.f  = some r) :
  Calls Try.prog 221 #[] w fun e w' => ∃ v0_ : Value, e = .returned (v0_) ∧ Kd.R k191 191 w' w.heap.size (fun _ => True) v0_ r ∧ Below w.heap.size w w' := by
 have hu191 := Try.underlying191
 have HB := Aside0.mk (Below.refl w.heap.size w)
 have H : (some (([(⟨(⟨#[108, 111, 97, 100]⟩ : ByteArray), 1, 0, 3, true, false, false⟩ : S191), (⟨(⟨#[115, 116, 111, 114, 101]⟩ : ByteArray), 0, 1, 3, true, false, false⟩ : S191), (⟨(⟨#[103, 97, 116, 104, 101, 114]⟩ : ByteArray), 1, 1, 0, true, false, false⟩ : S191), (⟨(⟨#[115, 99, 97, 116, 116, 101, 114]⟩ : ByteArray), 0, 1, 1, true, false, false⟩ : S191), (⟨(⟨#[111, 112]⟩ : ByteArray), 1, 1, 1, true, false, false⟩ : S191), (⟨(⟨#[99, 109, 112]⟩ : ByteArray), 2, 1, 1, true, false, false⟩ : S191), (⟨(⟨#[115, 101, 108, 101, 99, 116]⟩ : ByteArray), 1, 1, 1, true, true, false⟩ : S191), (⟨(⟨#[115, 104, 117, 102, 102, 108, 101]⟩ : ByteArray), 1, 1, 1, true, false, true⟩ : S191), (⟨(⟨#[102, 105, 108, 108]⟩ : ByteArray), 1, 0, 0, true, false, false⟩ : S191), (⟨(⟨#[115, 116, 101, 112, 115]⟩ : ByteArray), 1, 0, 3, true, false, false⟩ : S191), (⟨(⟨#[114, 101, 100, 117, 99, 101]⟩ : ByteArray), 1, 1, 0, true, false, false⟩ : S191), (⟨(⟨#[109, 97, 115, 107, 115]⟩ : ByteArray), 2, 2, 2, true, false, false⟩ : S191), (⟨(⟨#[99, 111, 109, 112, 114, 101, 115, 115]⟩ : ByteArray), 1, 1, 0, true, false, false⟩ : S191), (⟨(⟨#[101, 120, 112, 97, 110, 100]⟩ : ByteArray), 1, 1, 0, true, false, false⟩ : S191), (⟨(⟨#[99, 111, 117, 110, 116]⟩ : ByteArray), 1, 2, 0, false, false, false⟩ : S191)] : List (S191)))) = some r := h
 clear h
 obtain ⟨y478, hy478⟩ : ∃ y_ : List (S191), y_ = (([(⟨(⟨#[108, 111, 97, 100]⟩ : ByteArray), 1, 0, 3, true, false, false⟩ : S191), (⟨(⟨#[115, 116, 111, 114, 101]⟩ : ByteArray), 0, 1, 3, true, false, false⟩ : S191), (⟨(⟨#[103, 97, 116, 104, 101, 114]⟩ : ByteArray), 1, 1, 0, true, false, false⟩ : S191), (⟨(⟨#[115, 99, 97, 116, 116, 101, 114]⟩ : ByteArray), 0, 1, 1, true, false, false⟩ : S191), (⟨(⟨#[111, 112]⟩ : ByteArray), 1, 1, 1, true, false, false⟩ : S191), (⟨(⟨#[99, 109, 112]⟩ : ByteArray), 2, 1, 1, true, false, false⟩ : S191), (⟨(⟨#[115, 101, 108, 101, 99, 116]⟩ : ByteArray), 1, 1, 1, true, true, false⟩ : S191), (⟨(⟨#[115, 104, 117, 102, 102, 108, 101]⟩ : ByteArray), 1, 1, 1, true, false, true⟩ : S191), (⟨(⟨#[102, 105, 108, 108]⟩ : ByteArray), 1, 0, 0, true, false, false⟩ : S191), (⟨(⟨#[115, 116, 101, 112, 115]⟩ : ByteArray), 1, 0, 3, true, false, false⟩ : S191), (⟨(⟨#[114, 101, 100, 117, 99, 101]⟩ : ByteArray), 1, 1, 0, true, false, false⟩ : S191), (⟨(⟨#[109, 97, 115, 107, 115]⟩ : ByteArray), 2, 2, 2, true, false, false⟩ : S191), (⟨(⟨#[99, 111, 109, 112, 114, 101, 115, 115]⟩ : ByteArray), 1, 1, 0, true, false, false⟩ : S191), (⟨(⟨#[101, 120, 112, 97, 110, 100]⟩ : ByteArray), 1, 1, 0, true, false, false⟩ : S191), (⟨(⟨#[99, 111, 117, 110, 116]⟩ : ByteArray), 1, 2, 0, false, false, false⟩ : S191)] : List (S191))) := ⟨_, rfl⟩
 replace H : (some y478) = some r := by first | (rw [hy478]; with_reducible exact H) | (have H2_ := (Option.bind_some _ _).symm.trans H; rw [hy478]; with_reducible exact H2_) | (have H2_ := (Option.bind_some _ _).symm.trans H; with_reducible exact H2_) | with_reducible exact H | (rw [hy478]; exact H) | exact H
 have Ny478 := Aside0.mk hy478
 clear hy478
 obtain rfl := Option.some.inj H
 go_enter Try.func221, Try.ntmps221
 go_wp2_with (first | ((with_reducible refine gate_dst (N := 49) rfl ?_); refine Kd.R_lit k191 _ 191 ?hg (N := 49) ?hd (xs := ([(⟨(⟨#[108, 111, 97, 100]⟩ : ByteArray), 1, 0, 3, true, false, false⟩ : S191), (⟨(⟨#[115, 116, 111, 114, 101]⟩ : ByteArray), 0, 1, 3, true, false, false⟩ : S191), (⟨(⟨#[103, 97, 116, 104, 101, 114]⟩ : ByteArray), 1, 1, 0, true, false, false⟩ : S191), (⟨(⟨#[115, 99, 97, 116, 116, 101, 114]⟩ : ByteArray), 0, 1, 1, true, false, false⟩ : S191), (⟨(⟨#[111, 112]⟩ : ByteArray), 1, 1, 1, true, false, false⟩ : S191), (⟨(⟨#[99, 109, 112]⟩ : ByteArray), 2, 1, 1, true, false, false⟩ : S191), (⟨(⟨#[115, 101, 108, 101, 99, 116]⟩ : ByteArray), 1, 1, 1, true, true, false⟩ : S191), (⟨(⟨#[115, 104, 117, 102, 102, 108, 101]⟩ : ByteArray), 1, 1, 1, true, false, true⟩ : S191), (⟨(⟨#[102, 105, 108, 108]⟩ : ByteArray), 1, 0, 0, true, false, false⟩ : S191), (⟨(⟨#[115, 116, 101, 112, 115]⟩ : ByteArray), 1, 0, 3, true, false, false⟩ : S191), (⟨(⟨#[114, 101, 100, 117, 99, 101]⟩ : ByteArray), 1, 1, 0, true, false, false⟩ : S191), (⟨(⟨#[109, 97, 115, 107, 115]⟩ : ByteArray), 2, 2, 2, true, false, false⟩ : S191), (⟨(⟨#[99, 111, 109, 112, 114, 101, 115, 115]⟩ : ByteArray), 1, 1, 0, true, false, false⟩ : S191), (⟨(⟨#[101, 120, 112, 97, 110, 100]⟩ : ByteArray), 1, 1, 0, true, false, false⟩ : S191), (⟨(⟨#[99, 111, 117, 110, 116]⟩ : ByteArray), 1, 2, 0, false, false, false⟩ : S191)] : List (S191))) (inner := [.string (⟨#[108, 111, 97, 100]⟩ : ByteArray), .int .i64 1, .int .i64 0, .int .i64 3, .bool true, .bool false, .bool false, .string (⟨#[115, 116, 111, 114, 101]⟩ : ByteArray), .int .i64 0, .int .i64 1, .int .i64 3, .bool true, .bool false, .bool false, .string (⟨#[103, 97, 116, 104, 101, 114]⟩ : ByteArray), .int .i64 1, .int .i64 1, .int .i64 0, .bool true, .bool false, .bool false, .string (⟨#[115, 99, 97, 116, 116, 101, 114]⟩ : ByteArray), .int .i64 0, .int .i64 1, .int .i64 1, .bool true, .bool false, .bool false, .string (⟨#[111, 112]⟩ : ByteArray), .int .i64 1, .int .i64 1, .int .i64 1, .bool true, .bool false, .bool false, .string (⟨#[99, 109, 112]⟩ : ByteArray), .int .i64 2, .int .i64 1, .int .i64 1, .bool true, .bool false, .bool false, .string (⟨#[115, 101, 108, 101, 99, 116]⟩ : ByteArray), .int .i64 1, .int .i64 1, .int .i64 1, .bool true, .bool true, .bool false, .string (⟨#[115, 104, 117, 102, 102, 108, 101]⟩ : ByteArray), .int .i64 1, .int .i64 1, .int .i64 1, .bool true, .bool false, .bool true, .string (⟨#[102, 105, 108, 108]⟩ : ByteArray), .int .i64 1, .int .i64 0, .int .i64 0, .bool true, .bool false, .bool false, .string (⟨#[115, 116, 101, 112, 115]⟩ : ByteArray), .int .i64 1, .int .i64 0, .int .i64 3, .bool true, .bool false, .bool false, .string (⟨#[114, 101, 100, 117, 99, 101]⟩ : ByteArray), .int .i64 1, .int .i64 1, .int .i64 0, .bool true, .bool false, .bool false, .string (⟨#[109, 97, 115, 107, 115]⟩ : ByteArray), .int .i64 2, .int .i64 2, .int .i64 2, .bool true, .bool false, .bool false, .string (⟨#[99, 111, 109, 112, 114, 101, 115, 115]⟩ : ByteArray), .int .i64 1, .int .i64 1, .int .i64 0, .bool true, .bool false, .bool false, .string (⟨#[101, 120, 112, 97, 110, 100]⟩ : ByteArray), .int .i64 1, .int .i64 1, .int .i64 0, .bool true, .bool false, .bool false, .string (⟨#[99, 111, 117, 110, 116]⟩ : ByteArray), .int .i64 1, .int .i64 2, .int .i64 0, .bool false, .bool false, .bool false]) (ok := fun _ => True) (okp := fun _ => True) ?hr ?hp (fun _ hk => hk) trivial (Below.refl _ _) (Nat.le_refl _) (by simp) ?_; (case hd => rfl); (case hg => rfl); (case hr => first | (go_simp; done) | (go_simp; rfl)); (case hp => exact (Reps.c7 (show Kd.M k191 _ _ _ (⟨(⟨#[108, 111, 97, 100]⟩ : ByteArray), 1, 0, 3, true, false, false⟩ : S191) [.string (⟨#[108, 111, 97, 100]⟩ : ByteArray), .int .i64 1, .int .i64 0, .int .i64 3, .bool true, .bool false, .bool false] from (k191_mkM _ _ _ (⟨(⟨#[108, 111, 97, 100]⟩ : ByteArray), 1, 0, 3, true, false, false⟩ : S191) )) (Reps.c7 (show Kd.M k191 _ _ _ (⟨(⟨#[115, 116, 111, 114, 101]⟩ : ByteArray), 0, 1, 3, true, false, false⟩ : S191) [.string (⟨#[115, 116, 111, 114, 101]⟩ : ByteArray), .int .i64 0, .int .i64 1, .int .i64 3, .bool true, .bool false, .bool false] from (k191_mkM _ _ _ (⟨(⟨#[115, 116, 111, 114, 101]⟩ : ByteArray), 0, 1, 3, true, false, false⟩ : S191) )) (Reps.c7 (show Kd.M k191 _ _ _ (⟨(⟨#[103, 97, 116, 104, 101, 114]⟩ : ByteArray), 1, 1, 0, true, false, false⟩ : S191) [.string (⟨#[103, 97, 116, 104, 101, 114]⟩ : ByteArray), .int .i64 1, .int .i64 1, .int .i64 0, .bool true, .bool false, .bool false] from (k191_mkM _ _ _ (⟨(⟨#[103, 97, 116, 104, 101, 114]⟩ : ByteArray), 1, 1, 0, true, false, false⟩ : S191) )) (Reps.c7 (show Kd.M k191 _ _ _ (⟨(⟨#[115, 99, 97, 116, 116, 101, 114]⟩ : ByteArray), 0, 1, 1, true, false, false⟩ : S191) [.string (⟨#[115, 99, 97, 116, 116, 101, 114]⟩ : ByteArray), .int .i64 0, .int .i64 1, .int .i64 1, .bool true, .bool false, .bool false] from (k191_mkM _ _ _ (⟨(⟨#[115, 99, 97, 116, 116, 101, 114]⟩ : ByteArray), 0, 1, 1, true, false, false⟩ : S191) )) (Reps.c7 (show Kd.M k191 _ _ _ (⟨(⟨#[111, 112]⟩ : ByteArray), 1, 1, 1, true, false, false⟩ : S191) [.string (⟨#[111, 112]⟩ : ByteArray), .int .i64 1, .int .i64 1, .int .i64 1, .bool true, .bool false, .bool false] from (k191_mkM _ _ _ (⟨(⟨#[111, 112]⟩ : ByteArray), 1, 1, 1, true, false, false⟩ : S191) )) (Reps.c7 (show Kd.M k191 _ _ _ (⟨(⟨#[99, 109, 112]⟩ : ByteArray), 2, 1, 1, true, false, false⟩ : S191) [.string (⟨#[99, 109, 112]⟩ : ByteArray), .int .i64 2, .int .i64 1, .int .i64 1, .bool true, .bool false, .bool false] from (k191_mkM _ _ _ (⟨(⟨#[99, 109, 112]⟩ : ByteArray), 2, 1, 1, true, false, false⟩ : S191) )) (Reps.c7 (show Kd.M k191 _ _ _ (⟨(⟨#[115, 101, 108, 101, 99, 116]⟩ : ByteArray), 1, 1, 1, true, true, false⟩ : S191) [.string (⟨#[115, 101, 108, 101, 99, 116]⟩ : ByteArray), .int .i64 1, .int .i64 1, .int .i64 1, .bool true, .bool true, .bool false] from (k191_mkM _ _ _ (⟨(⟨#[115, 101, 108, 101, 99, 116]⟩ : ByteArray), 1, 1, 1, true, true, false⟩ : S191) )) (Reps.c7 (show Kd.M k191 _ _ _ (⟨(⟨#[115, 104, 117, 102, 102, 108, 101]⟩ : ByteArray), 1, 1, 1, true, false, true⟩ : S191) [.string (⟨#[115, 104, 117, 102, 102, 108, 101]⟩ : ByteArray), .int .i64 1, .int .i64 1, .int .i64 1, .bool true, .bool false, .bool true] from (k191_mkM _ _ _ (⟨(⟨#[115, 104, 117, 102, 102, 108, 101]⟩ : ByteArray), 1, 1, 1, true, false, true⟩ : S191) )) (Reps.c7 (show Kd.M k191 _ _ _ (⟨(⟨#[102, 105, 108, 108]⟩ : ByteArray), 1, 0, 0, true, false, false⟩ : S191) [.string (⟨#[102, 105, 108, 108]⟩ : ByteArray), .int .i64 1, .int .i64 0, .int .i64 0, .bool true, .bool false, .bool false] from (k191_mkM _ _ _ (⟨(⟨#[102, 105, 108, 108]⟩ : ByteArray), 1, 0, 0, true, false, false⟩ : S191) )) (Reps.c7 (show Kd.M k191 _ _ _ (⟨(⟨#[115, 116, 101, 112, 115]⟩ : ByteArray), 1, 0, 3, true, false, false⟩ : S191) [.string (⟨#[115, 116, 101, 112, 115]⟩ : ByteArray), .int .i64 1, .int .i64 0, .int .i64 3, .bool true, .bool false, .bool false] from (k191_mkM _ _ _ (⟨(⟨#[115, 116, 101, 112, 115]⟩ : ByteArray), 1, 0, 3, true, false, false⟩ : S191) )) (Reps.c7 (show Kd.M k191 _ _ _ (⟨(⟨#[114, 101, 100, 117, 99, 101]⟩ : ByteArray), 1, 1, 0, true, false, false⟩ : S191) [.string (⟨#[114, 101, 100, 117, 99, 101]⟩ : ByteArray), .int .i64 1, .int .i64 1, .int .i64 0, .bool true, .bool false, .bool false] from (k191_mkM _ _ _ (⟨(⟨#[114, 101, 100, 117, 99, 101]⟩ : ByteArray), 1, 1, 0, true, false, false⟩ : S191) )) (Reps.c7 (show Kd.M k191 _ _ _ (⟨(⟨#[109, 97, 115, 107, 115]⟩ : ByteArray), 2, 2, 2, true, false, false⟩ : S191) [.string (⟨#[109, 97, 115, 107, 115]⟩ : ByteArray), .int .i64 2, .int .i64 2, .int .i64 2, .bool true, .bool false, .bool false] from (k191_mkM _ _ _ (⟨(⟨#[109, 97, 115, 107, 115]⟩ : ByteArray), 2, 2, 2, true, false, false⟩ : S191) )) (Reps.c7 (show Kd.M k191 _ _ _ (⟨(⟨#[99, 111, 109, 112, 114, 101, 115, 115]⟩ : ByteArray), 1, 1, 0, true, false, false⟩ : S191) [.string (⟨#[99, 111, 109, 112, 114, 101, 115, 115]⟩ : ByteArray), .int .i64 1, .int .i64 1, .int .i64 0, .bool true, .bool false, .bool false] from (k191_mkM _ _ _ (⟨(⟨#[99, 111, 109, 112, 114, 101, 115, 115]⟩ : ByteArray), 1, 1, 0, true, false, false⟩ : S191) )) (Reps.c7 (show Kd.M k191 _ _ _ (⟨(⟨#[101, 120, 112, 97, 110, 100]⟩ : ByteArray), 1, 1, 0, true, false, false⟩ : S191) [.string (⟨#[101, 120, 112, 97, 110, 100]⟩ : ByteArray), .int .i64 1, .int .i64 1, .int .i64 0, .bool true, .bool false, .bool false] from (k191_mkM _ _ _ (⟨(⟨#[101, 120, 112, 97, 110, 100]⟩ : ByteArray), 1, 1, 0, true, false, false⟩ : S191) )) (Reps.c7 (show Kd.M k191 _ _ _ (⟨(⟨#[99, 111, 117, 110, 116]⟩ : ByteArray), 1, 2, 0, false, false, false⟩ : S191) [.string (⟨#[99, 111, 117, 110, 116]⟩ : ByteArray), .int .i64 1, .int .i64 2, .int .i64 0, .bool false, .bool false, .bool false] from (k191_mkM _ _ _ (⟨(⟨#[99, 111, 117, 110, 116]⟩ : ByteArray), 1, 2, 0, false, false, false⟩ : S191) )) (Reps.none _ _))))))))))))))))); intro v479 w1 ho2 hb hg_ hnew_; clear hg_ hnew_; (first | rw [← Ny478.out] at ho2 | (simp only [Int.reduceToNat] at ho2; rw [← Ny478.out] at ho2)); have n0_ := Aside0.mk (Kd.R_lower ho2 (below_size (xvo HB.out))); have n1_ := Aside0.mk (below_step (xvo HB.out) hb); clear HB; have HO480 := n0_; have HB := n1_; clear n0_ n1_; clear hb ho2))
 go_ret
 exact ⟨_, wv3, (xvr HO480.out), (xvo HB.out)⟩

end Go.Proofs.Ytpfoeologjacfaa.V
