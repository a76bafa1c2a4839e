-- Written by a program of this session (wip/tools) over the kit's print.
-- COMPACT
import Derived.Test.YtpfoeologjacfaaV0
import Derived.Test.YtpfoeologjacfaaV7
import Derived.Test.YtpfoeologjacfaaV16
namespace Go.Proofs.Ytpfoeologjacfaa.V
open Go.RowKit Go.Proofs.YtpfoeologjacfaaW.PrintWords Go.Proofs.YtpfoeologjacfaaW.PrintLast Go.Proofs.YtpfoeologjacfaaW.PrintMore
attribute [local go_sem] max2_int min2_int max_two min_two max_three min_three max_four min_four   -- for this text's walks alone
set_option linter.unusedVariables false
set_option linter.unusedSimpArgs false

/-! ### spec_BestTail: function 73 -/
def spec_BestTail.l0 : Nat → Int → Int → Int → Int → Int → Int → Int → Int → Int → Int → Int → Option (Int × Int × Bool)
 | 0, _, _, _, _, _, _, _, _, _, _, _ => none
 | k + 1, x7, x8, x9, x567000, x567001, x568000, x568001, x568002, x568003, x568004, x568005 => if x9 ≤ 2 then ((spec_StripCost.f k x567000 x567001 x568000 x568001 x568002 x568003 x568004 x568005 x9).bind fun bt568 => (if bt568.2 = true then (if x7 < 0 then (spec_BestTail.l0 k x9 bt568.1 (wrap64 (x9 + 1)) x567000 x567001 x568000 x568001 x568002 x568003 x568004 x568005) else (if bt568.1 < x8 then (spec_BestTail.l0 k x9 bt568.1 (wrap64 (x9 + 1)) x567000 x567001 x568000 x568001 x568002 x568003 x568004 x568005) else (spec_BestTail.l0 k x7 x8 (wrap64 (x9 + 1)) x567000 x567001 x568000 x568001 x568002 x568003 x568004 x568005))) else (spec_BestTail.l0 k x7 x8 (wrap64 (x9 + 1)) x567000 x567001 x568000 x568001 x568002 x568003 x568004 x568005))) else (if x7 < 0 then (some (0, 0, false)) else (some (x7, x8, true)))
def spec_BestTail.f (k : Nat) (a0_0 : Int) (a0_1 : Int) (a1_0 : Int) (a1_1 : Int) (a1_2 : Int) (a1_3 : Int) (a1_4 : Int) (a1_5 : Int) : Option (Int × Int × Bool) := spec_BestTail.l0 k (-1) 0 0 a0_0 a0_1 a1_0 a1_1 a1_2 a1_3 a1_4 a1_5
theorem spec_BestTail.mono_l : ∀ k, (∀ y0 y1 y2 y3 y4 y5 y6 y7 y8 y9 y10, LeO (spec_BestTail.l0 k y0 y1 y2 y3 y4 y5 y6 y7 y8 y9 y10) (spec_BestTail.l0 (k + 1) y0 y1 y2 y3 y4 y5 y6 y7 y8 y9 y10))
 | 0 => fun _ _ _ _ _ _ _ _ _ _ _ r h => by simp [spec_BestTail.l0] at h
 | k + 1 => by
  have ih0 := spec_BestTail.mono_l k
  ·intro y0 y1 y2 y3 y4 y5 y6 y7 y8 y9 y10
   unfold spec_BestTail.l0
   repeat' first
   | (with_reducible exact ih0 _ _ _ _ _ _ _ _ _ _ _)
   | (with_reducible exact spec_StripCost.mono _ _ _ _ _ _ _ _ _ _)
   | (with_reducible exact LeO.refl _)
   | (with_reducible exact LeO.none _)
   | (with_reducible refine LeO.ite ?_ ?_)
   | (with_reducible refine LeO.bind ?_ (fun _ => ?_))
   | exact ih0 _ _ _ _ _ _ _ _ _ _ _
   | exact spec_StripCost.mono _ _ _ _ _ _ _ _ _ _
   | exact LeO.none _
   | refine LeO.ite ?_ ?_
   | refine LeO.bind ?_ (fun _ => ?_)
theorem spec_BestTail.mono : ∀ a0 a1 a2 a3 a4 a5 a6 a7 k, LeO (spec_BestTail.f k a0 a1 a2 a3 a4 a5 a6 a7) (spec_BestTail.f (k + 1) a0 a1 a2 a3 a4 a5 a6 a7) := by
 intro a0 a1 a2 a3 a4 a5 a6 a7 k
 have ih0 := spec_BestTail.mono_l k
 unfold spec_BestTail.f
 repeat' first
   | (with_reducible exact ih0 _ _ _ _ _ _ _ _ _ _ _)
   | (with_reducible exact spec_StripCost.mono _ _ _ _ _ _ _ _ _ _)
   | (with_reducible exact LeO.refl _)
   | (with_reducible exact LeO.none _)
   | (with_reducible refine LeO.ite ?_ ?_)
   | (with_reducible refine LeO.bind ?_ (fun _ => ?_))
   | exact ih0 _ _ _ _ _ _ _ _ _ _ _
   | exact spec_StripCost.mono _ _ _ _ _ _ _ _ _ _
   | exact LeO.none _
   | refine LeO.ite ?_ ?_
   | refine LeO.bind ?_ (fun _ => ?_)
set_option maxHeartbeats 8000000 in
set_option maxRecDepth 100000 in
theorem spec_BestTail.calls (k : Nat) (a0_0 : Int) (a0_1 : Int) (a1_0 : Int) (a1_1 : Int) (a1_2 : Int) (a1_3 : Int) (a1_4 : Int) (a1_5 : Int) (r1 : Int) (r2 : Int) (r3 : Bool) (w : World) (h : spec_BestTail.f k a0_0 a0_1 a1_0 a1_1 a1_2 a1_3 a1_4 a1_5 = some (r1, r2, r3)) :
  Calls Try.prog 73 #[.agg #[.int .i64 a0_0, .int .i64 a0_1], .agg #[.int .i64 a1_0, .int .i64 a1_1, .int .i64 a1_2, .int .i64 a1_3, .int .i64 a1_4, .int .i64 a1_5]] w fun e w' => e = .returned (.tuple #[.int .i64 r1, .int .i64 r2, .bool r3]) ∧ Below w.heap.size w w' := by
 have hu31 := Try.underlying31
 have hu25 := Try.underlying25
 have HB := Aside0.mk (Below.refl w.heap.size w)
 have H : (spec_BestTail.l0 k (-1) 0 0 a0_0 a0_1 a1_0 a1_1 a1_2 a1_3 a1_4 a1_5) = some (r1, r2, r3) := h
 clear h
 have H' := Aside0.mk H
 clear H
 go_enter Try.func73, Try.ntmps73
 go_wp2_with (first | ((with_reducible refine gate_dst (N := 2) rfl ?_); refine box_event ?hg (N := 2) ?hd (cs := #[.int .i64 a0_0, .int .i64 a0_1]) (t := 31) ?hr ?_; (case hd => rfl); (case hg => rfl); (case hr => first | (go_simp; done) | (go_simp; rfl)); intro gb566 hg w3 hbox hb; have n0_ := Aside0.mk (below_step (xvo HB.out) hb); have n1_ := Aside0.mk (hbox); have n2_ := Aside0.mk ((by rw [hg]; exact (below_size (xvo HB.out)) : w.heap.size ≤ gb566)); have n3_ := Aside0.mk ((by rw [hg]; exact (below_size (xvo HB.out)) : w.heap.size ≤ gb566)); clear HB; have HB := n0_; have BK566 := n1_; have GW566 := n2_; have GE566 := n3_; clear n0_ n1_ n2_ n3_; clear hb hbox hg) | ((with_reducible refine gate_dst (N := 3) rfl ?_); refine box_event ?hg (N := 3) ?hd (cs := #[.int .i64 a1_0, .int .i64 a1_1, .int .i64 a1_2, .int .i64 a1_3, .int .i64 a1_4, .int .i64 a1_5]) (t := 25) ?hr ?_; (case hd => rfl); (case hg => rfl); (case hr => first | (go_simp; done) | (go_simp; rfl)); intro gb567 hg w4 hbox hb; have n0_ := Aside0.mk (xvl BK566.out hb); have n1_ := Aside0.mk (below_step wv48 hb); have n2_ := Aside0.mk (hbox); have n3_ := Aside0.mk ((by rw [hg]; exact (below_size wv48) : w.heap.size ≤ gb567)); have n4_ := Aside0.mk ((by rw [hg]; exact (below_size wv48) : w.heap.size ≤ gb567)); have n5_ := Aside0.mk ((by rw [hg]; exact Nat.ne_of_lt (blk_lt (g := gb566) (o := .cells #[.int .i64 a0_0, .int .i64 a0_1] 31 (0, 0)) (xvb BK566.out)) : gb566 ≠ gb567)); have n6_ := Aside0.mk ((by rw [hg]; exact Nat.ne_of_gt (blk_lt (g := gb566) (o := .cells #[.int .i64 a0_0, .int .i64 a0_1] 31 (0, 0)) (xvb BK566.out)) : gb567 ≠ gb566)); clear BK566; clear HB; have BK566 := n0_; have HB := n1_; have BK567 := n2_; have GW567 := n3_; have GE567 := n4_; have NB566_567 := n5_; have NB567_566 := n6_; clear n0_ n1_ n2_ n3_ n4_ n5_ n6_; clear hb hbox hg))
 go_loopg [7, 8, 9] k (fun kq v7 v8 v9 w' => ∃ (x7_1 : Int) (x8_1 : Int) (x9_1 : Int), v7 = .int .i64 x7_1 ∧ v8 = .int .i64 x8_1 ∧ v9 = .int .i64 x9_1 ∧ Aside0 (spec_BestTail.l0 kq x7_1 x8_1 x9_1 a0_0 a0_1 a1_0 a1_1 a1_2 a1_3 a1_4 a1_5 = some (r1, r2, r3)) ∧ Aside0 (kq ≤ k) ∧ Aside0 (w'.heap[gb566]? = some (.cells #[.int .i64 a0_0, .int .i64 a0_1] 31 (0, 0))) ∧ Aside0 (w'.heap[gb567]? = some (.cells #[.int .i64 a1_0, .int .i64 a1_1, .int .i64 a1_2, .int .i64 a1_3, .int .i64 a1_4, .int .i64 a1_5] 25 (0, 0))) ∧ Aside0 (Below w.heap.size w w'))
 case atStart => exact ⟨((-1)), (0), (0), wv6, wv6, wv6, H', ⟨Nat.le_refl _⟩, ⟨(xvb BK566.out)⟩, ⟨(xvb BK567.out)⟩, ⟨wv21⟩⟩
 case round =>
  clear H'
  try clear p2
  obtain ⟨x7_1, x8_1, x9_1, rfl, rfl, rfl, HA, HK1, BK566, BK567, HB⟩ := hrel
  cases gk with
  | zero => exact absurd HA.out (by simp [spec_BestTail.l0])
  | succ k1 =>
   have H := HA.out
   clear HA
   simp only [spec_BestTail.l0] at H
   by_cases c5 : x9_1 ≤ 2
   ·rw [if_pos c5] at H
    have c5b0 : decide (x9_1 ≤ 2) = true := decide_eq_true c5
    clear c5
    replace H := Option.bind_eq_some_iff.mp H
    obtain ⟨⟨t568, t569⟩, A60, H⟩ := H
    replace H : (if t569 = true then (if x7_1 < 0 then (spec_BestTail.l0 k1 x9_1 t568 (wrap64 (x9_1 + 1)) a0_0 a0_1 a1_0 a1_1 a1_2 a1_3 a1_4 a1_5) else (if t568 < x8_1 then (spec_BestTail.l0 k1 x9_1 t568 (wrap64 (x9_1 + 1)) a0_0 a0_1 a1_0 a1_1 a1_2 a1_3 a1_4 a1_5) else (spec_BestTail.l0 k1 x7_1 x8_1 (wrap64 (x9_1 + 1)) a0_0 a0_1 a1_0 a1_1 a1_2 a1_3 a1_4 a1_5))) else (spec_BestTail.l0 k1 x7_1 x8_1 (wrap64 (x9_1 + 1)) a0_0 a0_1 a1_0 a1_1 a1_2 a1_3 a1_4 a1_5)) = some (r1, r2, r3) := H
    have A6 := Aside0.mk A60
    clear A60
    by_cases c7 : t569 = true
    ·subst c7
     have H1 : (if x7_1 < 0 then (spec_BestTail.l0 k1 x9_1 t568 (wrap64 (x9_1 + 1)) a0_0 a0_1 a1_0 a1_1 a1_2 a1_3 a1_4 a1_5) else (if t568 < x8_1 then (spec_BestTail.l0 k1 x9_1 t568 (wrap64 (x9_1 + 1)) a0_0 a0_1 a1_0 a1_1 a1_2 a1_3 a1_4 a1_5) else (spec_BestTail.l0 k1 x7_1 x8_1 (wrap64 (x9_1 + 1)) a0_0 a0_1 a1_0 a1_1 a1_2 a1_3 a1_4 a1_5))) = some (r1, r2, r3) := by rw [if_pos rfl] at H; exact H
     clear H
     have H := H1
     clear H1
     by_cases c8 : x7_1 < 0
     ·rw [if_pos c8] at H
      have c8b0 : decide (x7_1 < 0) = true := decide_eq_true c8
      clear c8
      have H' := Aside0.mk H
      clear H
      have hnb9 := NB566_567.out
      have hnc9 := NB567_566.out
      have hcz10_0 : wr.cell? ⟨gb566, 0, none⟩ = some (.int .i64 a0_0) := xvc BK566.out
      have hcz10_1 : wr.cell? ⟨gb566, 1, none⟩ = some (.int .i64 a0_1) := xvc BK566.out
      have hfz10_0 := blk_frozen BK566.out 0
      have hfz10_1 := blk_frozen BK566.out 1
      have hcz11_0 : wr.cell? ⟨gb567, 0, none⟩ = some (.int .i64 a1_0) := xvc BK567.out
      have hcz11_1 : wr.cell? ⟨gb567, 1, none⟩ = some (.int .i64 a1_1) := xvc BK567.out
      have hcz11_2 : wr.cell? ⟨gb567, 2, none⟩ = some (.int .i64 a1_2) := xvc BK567.out
      have hcz11_3 : wr.cell? ⟨gb567, 3, none⟩ = some (.int .i64 a1_3) := xvc BK567.out
      have hcz11_4 : wr.cell? ⟨gb567, 4, none⟩ = some (.int .i64 a1_4) := xvc BK567.out
      have hcz11_5 : wr.cell? ⟨gb567, 5, none⟩ = some (.int .i64 a1_5) := xvc BK567.out
      have hfz11_0 := blk_frozen BK567.out 0
      have hfz11_1 := blk_frozen BK567.out 1
      have hfz11_2 := blk_frozen BK567.out 2
      have hfz11_3 := blk_frozen BK567.out 3
      have hfz11_4 := blk_frozen BK567.out 4
      have hfz11_5 := blk_frozen BK567.out 5
      go_wp2_with (first | ((with_reducible refine gate_callee (f := 71) rfl ?_); refine goesL_ (some 20) rfl rfl Try.func71 (by kernel_rfl) rfl #[.agg #[.int .i64 a0_0, .int .i64 a0_1], .agg #[.int .i64 a1_0, .int .i64 a1_1, .int .i64 a1_2, .int .i64 a1_3, .int .i64 a1_4, .int .i64 a1_5], .int .i64 x9_1] rfl wv1 ?_; (with_reducible refine (spec_StripCost.calls k1 a0_0 a0_1 a1_0 a1_1 a1_2 a1_3 a1_4 a1_5 x9_1 t568 true _ A6.out).mono ?_); rintro e w12 ⟨rfl, hb⟩; refine ⟨_, rfl, ?_⟩; have n0_ := Aside0.mk (xvl BK566.out hb); have n1_ := Aside0.mk (xvl BK567.out hb); have n2_ := Aside0.mk (below_step wv21 hb); clear BK566; clear BK567; clear HB; have BK566 := n0_; have BK567 := n1_; have HB := n2_; clear n0_ n1_ n2_; (try clear hb); (try clear hb2); (try clear hk); (try clear hi)))
      go_roundg k1
      case measure => have := HK1.out; omega
      case rel => exact ⟨(x9_1), (t568), (wrap64 (x9_1 + 1)), wv6, wv6, wv6, H', ⟨wv60⟩, ⟨(xvb BK566.out)⟩, ⟨(xvb BK567.out)⟩, ⟨wv21⟩⟩
     ·rw [if_neg c8] at H
      have c8b0 : decide (x7_1 < 0) = false := decide_eq_false c8
      clear c8
      by_cases c13 : t568 < x8_1
      ·rw [if_pos c13] at H
       have c13b0 : decide (t568 < x8_1) = true := decide_eq_true c13
       clear c13
       have H' := Aside0.mk H
       clear H
       have hnb14 := NB566_567.out
       have hnc14 := NB567_566.out
       have hcz15_0 : wr.cell? ⟨gb566, 0, none⟩ = some (.int .i64 a0_0) := xvc BK566.out
       have hcz15_1 : wr.cell? ⟨gb566, 1, none⟩ = some (.int .i64 a0_1) := xvc BK566.out
       have hfz15_0 := blk_frozen BK566.out 0
       have hfz15_1 := blk_frozen BK566.out 1
       have hcz16_0 : wr.cell? ⟨gb567, 0, none⟩ = some (.int .i64 a1_0) := xvc BK567.out
       have hcz16_1 : wr.cell? ⟨gb567, 1, none⟩ = some (.int .i64 a1_1) := xvc BK567.out
       have hcz16_2 : wr.cell? ⟨gb567, 2, none⟩ = some (.int .i64 a1_2) := xvc BK567.out
       have hcz16_3 : wr.cell? ⟨gb567, 3, none⟩ = some (.int .i64 a1_3) := xvc BK567.out
       have hcz16_4 : wr.cell? ⟨gb567, 4, none⟩ = some (.int .i64 a1_4) := xvc BK567.out
       have hcz16_5 : wr.cell? ⟨gb567, 5, none⟩ = some (.int .i64 a1_5) := xvc BK567.out
       have hfz16_0 := blk_frozen BK567.out 0
       have hfz16_1 := blk_frozen BK567.out 1
       have hfz16_2 := blk_frozen BK567.out 2
       have hfz16_3 := blk_frozen BK567.out 3
       have hfz16_4 := blk_frozen BK567.out 4
       have hfz16_5 := blk_frozen BK567.out 5
       go_wp2_with (first | ((with_reducible refine gate_callee (f := 71) rfl ?_); refine goesL_ (some 20) rfl rfl Try.func71 (by kernel_rfl) rfl #[.agg #[.int .i64 a0_0, .int .i64 a0_1], .agg #[.int .i64 a1_0, .int .i64 a1_1, .int .i64 a1_2, .int .i64 a1_3, .int .i64 a1_4, .int .i64 a1_5], .int .i64 x9_1] rfl wv1 ?_; (with_reducible refine (spec_StripCost.calls k1 a0_0 a0_1 a1_0 a1_1 a1_2 a1_3 a1_4 a1_5 x9_1 t568 true _ A6.out).mono ?_); rintro e w17 ⟨rfl, hb⟩; refine ⟨_, rfl, ?_⟩; have n0_ := Aside0.mk (xvl BK566.out hb); have n1_ := Aside0.mk (xvl BK567.out hb); have n2_ := Aside0.mk (below_step wv21 hb); clear BK566; clear BK567; clear HB; have BK566 := n0_; have BK567 := n1_; have HB := n2_; clear n0_ n1_ n2_; (try clear hb); (try clear hb2); (try clear hk); (try clear hi)))
       go_roundg k1
       case measure => have := HK1.out; omega
       case rel => exact ⟨(x9_1), (t568), (wrap64 (x9_1 + 1)), wv6, wv6, wv6, H', ⟨wv60⟩, ⟨(xvb BK566.out)⟩, ⟨(xvb BK567.out)⟩, ⟨wv21⟩⟩
      ·rw [if_neg c13] at H
       have c13b0 : decide (t568 < x8_1) = false := decide_eq_false c13
       clear c13
       have H' := Aside0.mk H
       clear H
       have hnb18 := NB566_567.out
       have hnc18 := NB567_566.out
       have hcz19_0 : wr.cell? ⟨gb566, 0, none⟩ = some (.int .i64 a0_0) := xvc BK566.out
       have hcz19_1 : wr.cell? ⟨gb566, 1, none⟩ = some (.int .i64 a0_1) := xvc BK566.out
       have hfz19_0 := blk_frozen BK566.out 0
       have hfz19_1 := blk_frozen BK566.out 1
       have hcz20_0 : wr.cell? ⟨gb567, 0, none⟩ = some (.int .i64 a1_0) := xvc BK567.out
       have hcz20_1 : wr.cell? ⟨gb567, 1, none⟩ = some (.int .i64 a1_1) := xvc BK567.out
       have hcz20_2 : wr.cell? ⟨gb567, 2, none⟩ = some (.int .i64 a1_2) := xvc BK567.out
       have hcz20_3 : wr.cell? ⟨gb567, 3, none⟩ = some (.int .i64 a1_3) := xvc BK567.out
       have hcz20_4 : wr.cell? ⟨gb567, 4, none⟩ = some (.int .i64 a1_4) := xvc BK567.out
       have hcz20_5 : wr.cell? ⟨gb567, 5, none⟩ = some (.int .i64 a1_5) := xvc BK567.out
       have hfz20_0 := blk_frozen BK567.out 0
       have hfz20_1 := blk_frozen BK567.out 1
       have hfz20_2 := blk_frozen BK567.out 2
       have hfz20_3 := blk_frozen BK567.out 3
       have hfz20_4 := blk_frozen BK567.out 4
       have hfz20_5 := blk_frozen BK567.out 5
       go_wp2_with (first | ((with_reducible refine gate_callee (f := 71) rfl ?_); refine goesL_ (some 20) rfl rfl Try.func71 (by kernel_rfl) rfl #[.agg #[.int .i64 a0_0, .int .i64 a0_1], .agg #[.int .i64 a1_0, .int .i64 a1_1, .int .i64 a1_2, .int .i64 a1_3, .int .i64 a1_4, .int .i64 a1_5], .int .i64 x9_1] rfl wv1 ?_; (with_reducible refine (spec_StripCost.calls k1 a0_0 a0_1 a1_0 a1_1 a1_2 a1_3 a1_4 a1_5 x9_1 t568 true _ A6.out).mono ?_); rintro e w21 ⟨rfl, hb⟩; refine ⟨_, rfl, ?_⟩; have n0_ := Aside0.mk (xvl BK566.out hb); have n1_ := Aside0.mk (xvl BK567.out hb); have n2_ := Aside0.mk (below_step wv21 hb); clear BK566; clear BK567; clear HB; have BK566 := n0_; have BK567 := n1_; have HB := n2_; clear n0_ n1_ n2_; (try clear hb); (try clear hb2); (try clear hk); (try clear hi)))
       go_roundg k1
       case measure => have := HK1.out; omega
       case rel => exact ⟨(x7_1), (x8_1), (wrap64 (x9_1 + 1)), wv6, wv6, wv6, H', ⟨wv60⟩, ⟨(xvb BK566.out)⟩, ⟨(xvb BK567.out)⟩, ⟨wv21⟩⟩
    ·replace c7 := Bool.eq_false_iff.mpr c7
     subst c7
     have H1 : (spec_BestTail.l0 k1 x7_1 x8_1 (wrap64 (x9_1 + 1)) a0_0 a0_1 a1_0 a1_1 a1_2 a1_3 a1_4 a1_5) = some (r1, r2, r3) := by rw [if_neg (show ¬ (false = true) by decide)] at H; exact H
     clear H
     have H := H1
     clear H1
     have H' := Aside0.mk H
     clear H
     have hnb22 := NB566_567.out
     have hnc22 := NB567_566.out
     have hcz23_0 : wr.cell? ⟨gb566, 0, none⟩ = some (.int .i64 a0_0) := xvc BK566.out
     have hcz23_1 : wr.cell? ⟨gb566, 1, none⟩ = some (.int .i64 a0_1) := xvc BK566.out
     have hfz23_0 := blk_frozen BK566.out 0
     have hfz23_1 := blk_frozen BK566.out 1
     have hcz24_0 : wr.cell? ⟨gb567, 0, none⟩ = some (.int .i64 a1_0) := xvc BK567.out
     have hcz24_1 : wr.cell? ⟨gb567, 1, none⟩ = some (.int .i64 a1_1) := xvc BK567.out
     have hcz24_2 : wr.cell? ⟨gb567, 2, none⟩ = some (.int .i64 a1_2) := xvc BK567.out
     have hcz24_3 : wr.cell? ⟨gb567, 3, none⟩ = some (.int .i64 a1_3) := xvc BK567.out
     have hcz24_4 : wr.cell? ⟨gb567, 4, none⟩ = some (.int .i64 a1_4) := xvc BK567.out
     have hcz24_5 : wr.cell? ⟨gb567, 5, none⟩ = some (.int .i64 a1_5) := xvc BK567.out
     have hfz24_0 := blk_frozen BK567.out 0
     have hfz24_1 := blk_frozen BK567.out 1
     have hfz24_2 := blk_frozen BK567.out 2
     have hfz24_3 := blk_frozen BK567.out 3
     have hfz24_4 := blk_frozen BK567.out 4
     have hfz24_5 := blk_frozen BK567.out 5
     go_wp2_with (first | ((with_reducible refine gate_callee (f := 71) rfl ?_); refine goesL_ (some 20) rfl rfl Try.func71 (by kernel_rfl) rfl #[.agg #[.int .i64 a0_0, .int .i64 a0_1], .agg #[.int .i64 a1_0, .int .i64 a1_1, .int .i64 a1_2, .int .i64 a1_3, .int .i64 a1_4, .int .i64 a1_5], .int .i64 x9_1] rfl wv1 ?_; (with_reducible refine (spec_StripCost.calls k1 a0_0 a0_1 a1_0 a1_1 a1_2 a1_3 a1_4 a1_5 x9_1 t568 false _ A6.out).mono ?_); rintro e w25 ⟨rfl, hb⟩; refine ⟨_, rfl, ?_⟩; have n0_ := Aside0.mk (xvl BK566.out hb); have n1_ := Aside0.mk (xvl BK567.out hb); have n2_ := Aside0.mk (below_step wv21 hb); clear BK566; clear BK567; clear HB; have BK566 := n0_; have BK567 := n1_; have HB := n2_; clear n0_ n1_ n2_; (try clear hb); (try clear hb2); (try clear hk); (try clear hi)))
     go_roundg k1
     case measure => have := HK1.out; omega
     case rel => exact ⟨(x7_1), (x8_1), (wrap64 (x9_1 + 1)), wv6, wv6, wv6, H', ⟨wv60⟩, ⟨(xvb BK566.out)⟩, ⟨(xvb BK567.out)⟩, ⟨wv21⟩⟩
   ·rw [if_neg c5] at H
    have c5b0 : decide (x9_1 ≤ 2) = false := decide_eq_false c5
    clear c5
    by_cases c26 : x7_1 < 0
    ·rw [if_pos c26] at H
     have c26b0 : decide (x7_1 < 0) = true := decide_eq_true c26
     clear c26
     simp only [Option.some.injEq, Prod.mk.injEq] at H
     obtain ⟨rfl, rfl, rfl⟩ := H
     go_wp2
     go_ret3
     exact ⟨wv3, wv21⟩
    ·rw [if_neg c26] at H
     have c26b0 : decide (x7_1 < 0) = false := decide_eq_false c26
     clear c26
     simp only [Option.some.injEq, Prod.mk.injEq] at H
     obtain ⟨rfl, rfl, rfl⟩ := H
     go_wp2
     go_ret3
     exact ⟨wv3, wv21⟩

/-! ### impl_BestTail: function 74 -/
def impl_BestTail.l0 : Nat → Int → Int → Int → Int → Int → Int → Int → Int → Int → Int → Int → Option (Int × Int × Bool)
 | 0, _, _, _, _, _, _, _, _, _, _, _ => none
 | k + 1, x7, x8, x9, x571000, x571001, x572000, x572001, x572002, x572003, x572004, x572005 => if x9 ≤ 2 then ((impl_StripCost.f k x571000 x571001 x572000 x572001 x572002 x572003 x572004 x572005 x9).bind fun bt572 => (if bt572.2 = true then (if x7 < 0 then (impl_BestTail.l0 k x9 bt572.1 (wrap64 (x9 + 1)) x571000 x571001 x572000 x572001 x572002 x572003 x572004 x572005) else (if bt572.1 < x8 then (impl_BestTail.l0 k x9 bt572.1 (wrap64 (x9 + 1)) x571000 x571001 x572000 x572001 x572002 x572003 x572004 x572005) else (impl_BestTail.l0 k x7 x8 (wrap64 (x9 + 1)) x571000 x571001 x572000 x572001 x572002 x572003 x572004 x572005))) else (impl_BestTail.l0 k x7 x8 (wrap64 (x9 + 1)) x571000 x571001 x572000 x572001 x572002 x572003 x572004 x572005))) else (if x7 < 0 then (some (0, 0, false)) else (some (x7, x8, true)))
def impl_BestTail.f (k : Nat) (a0_0 : Int) (a0_1 : Int) (a1_0 : Int) (a1_1 : Int) (a1_2 : Int) (a1_3 : Int) (a1_4 : Int) (a1_5 : Int) : Option (Int × Int × Bool) := impl_BestTail.l0 k (-1) 0 0 a0_0 a0_1 a1_0 a1_1 a1_2 a1_3 a1_4 a1_5
theorem impl_BestTail.mono_l : ∀ k, (∀ y0 y1 y2 y3 y4 y5 y6 y7 y8 y9 y10, LeO (impl_BestTail.l0 k y0 y1 y2 y3 y4 y5 y6 y7 y8 y9 y10) (impl_BestTail.l0 (k + 1) y0 y1 y2 y3 y4 y5 y6 y7 y8 y9 y10))
 | 0 => fun _ _ _ _ _ _ _ _ _ _ _ r h => by simp [impl_BestTail.l0] at h
 | k + 1 => by
  have ih0 := impl_BestTail.mono_l k
  ·intro y0 y1 y2 y3 y4 y5 y6 y7 y8 y9 y10
   unfold impl_BestTail.l0
   repeat' first
   | (with_reducible exact ih0 _ _ _ _ _ _ _ _ _ _ _)
   | (with_reducible exact impl_StripCost.mono _ _ _ _ _ _ _ _ _ _)
   | (with_reducible exact LeO.refl _)
   | (with_reducible exact LeO.none _)
   | (with_reducible refine LeO.ite ?_ ?_)
   | (with_reducible refine LeO.bind ?_ (fun _ => ?_))
   | exact ih0 _ _ _ _ _ _ _ _ _ _ _
   | exact impl_StripCost.mono _ _ _ _ _ _ _ _ _ _
   | exact LeO.none _
   | refine LeO.ite ?_ ?_
   | refine LeO.bind ?_ (fun _ => ?_)
theorem impl_BestTail.mono : ∀ a0 a1 a2 a3 a4 a5 a6 a7 k, LeO (impl_BestTail.f k a0 a1 a2 a3 a4 a5 a6 a7) (impl_BestTail.f (k + 1) a0 a1 a2 a3 a4 a5 a6 a7) := by
 intro a0 a1 a2 a3 a4 a5 a6 a7 k
 have ih0 := impl_BestTail.mono_l k
 unfold impl_BestTail.f
 repeat' first
   | (with_reducible exact ih0 _ _ _ _ _ _ _ _ _ _ _)
   | (with_reducible exact impl_StripCost.mono _ _ _ _ _ _ _ _ _ _)
   | (with_reducible exact LeO.refl _)
   | (with_reducible exact LeO.none _)
   | (with_reducible refine LeO.ite ?_ ?_)
   | (with_reducible refine LeO.bind ?_ (fun _ => ?_))
   | exact ih0 _ _ _ _ _ _ _ _ _ _ _
   | exact impl_StripCost.mono _ _ _ _ _ _ _ _ _ _
   | exact LeO.none _
   | refine LeO.ite ?_ ?_
   | refine LeO.bind ?_ (fun _ => ?_)
set_option maxHeartbeats 8000000 in
set_option maxRecDepth 100000 in
theorem impl_BestTail.calls (k : Nat) (a0_0 : Int) (a0_1 : Int) (a1_0 : Int) (a1_1 : Int) (a1_2 : Int) (a1_3 : Int) (a1_4 : Int) (a1_5 : Int) (r1 : Int) (r2 : Int) (r3 : Bool) (w : World) (h : impl_BestTail.f k a0_0 a0_1 a1_0 a1_1 a1_2 a1_3 a1_4 a1_5 = some (r1, r2, r3)) :
  Calls Try.prog 74 #[.agg #[.int .i64 a0_0, .int .i64 a0_1], .agg #[.int .i64 a1_0, .int .i64 a1_1, .int .i64 a1_2, .int .i64 a1_3, .int .i64 a1_4, .int .i64 a1_5]] w fun e w' => e = .returned (.tuple #[.int .i64 r1, .int .i64 r2, .bool r3]) ∧ Below w.heap.size w w' := by
 have hu31 := Try.underlying31
 have hu25 := Try.underlying25
 have HB := Aside0.mk (Below.refl w.heap.size w)
 have H : (impl_BestTail.l0 k (-1) 0 0 a0_0 a0_1 a1_0 a1_1 a1_2 a1_3 a1_4 a1_5) = some (r1, r2, r3) := h
 clear h
 have H' := Aside0.mk H
 clear H
 go_enter Try.func74, Try.ntmps74
 go_wp2_with (first | ((with_reducible refine gate_dst (N := 2) rfl ?_); refine box_event ?hg (N := 2) ?hd (cs := #[.int .i64 a0_0, .int .i64 a0_1]) (t := 31) ?hr ?_; (case hd => rfl); (case hg => rfl); (case hr => first | (go_simp; done) | (go_simp; rfl)); intro gb570 hg w3 hbox hb; have n0_ := Aside0.mk (below_step (xvo HB.out) hb); have n1_ := Aside0.mk (hbox); have n2_ := Aside0.mk ((by rw [hg]; exact (below_size (xvo HB.out)) : w.heap.size ≤ gb570)); have n3_ := Aside0.mk ((by rw [hg]; exact (below_size (xvo HB.out)) : w.heap.size ≤ gb570)); clear HB; have HB := n0_; have BK570 := n1_; have GW570 := n2_; have GE570 := n3_; clear n0_ n1_ n2_ n3_; clear hb hbox hg) | ((with_reducible refine gate_dst (N := 3) rfl ?_); refine box_event ?hg (N := 3) ?hd (cs := #[.int .i64 a1_0, .int .i64 a1_1, .int .i64 a1_2, .int .i64 a1_3, .int .i64 a1_4, .int .i64 a1_5]) (t := 25) ?hr ?_; (case hd => rfl); (case hg => rfl); (case hr => first | (go_simp; done) | (go_simp; rfl)); intro gb571 hg w4 hbox hb; have n0_ := Aside0.mk (xvl BK570.out hb); have n1_ := Aside0.mk (below_step wv47 hb); have n2_ := Aside0.mk (hbox); have n3_ := Aside0.mk ((by rw [hg]; exact (below_size wv47) : w.heap.size ≤ gb571)); have n4_ := Aside0.mk ((by rw [hg]; exact (below_size wv47) : w.heap.size ≤ gb571)); have n5_ := Aside0.mk ((by rw [hg]; exact Nat.ne_of_lt (blk_lt (g := gb570) (o := .cells #[.int .i64 a0_0, .int .i64 a0_1] 31 (0, 0)) (xvb BK570.out)) : gb570 ≠ gb571)); have n6_ := Aside0.mk ((by rw [hg]; exact Nat.ne_of_gt (blk_lt (g := gb570) (o := .cells #[.int .i64 a0_0, .int .i64 a0_1] 31 (0, 0)) (xvb BK570.out)) : gb571 ≠ gb570)); clear BK570; clear HB; have BK570 := n0_; have HB := n1_; have BK571 := n2_; have GW571 := n3_; have GE571 := n4_; have NB570_571 := n5_; have NB571_570 := n6_; clear n0_ n1_ n2_ n3_ n4_ n5_ n6_; clear hb hbox hg))
 go_loopg [7, 8, 9] k (fun kq v7 v8 v9 w' => ∃ (x7_1 : Int) (x8_1 : Int) (x9_1 : Int), v7 = .int .i64 x7_1 ∧ v8 = .int .i64 x8_1 ∧ v9 = .int .i64 x9_1 ∧ Aside0 (impl_BestTail.l0 kq x7_1 x8_1 x9_1 a0_0 a0_1 a1_0 a1_1 a1_2 a1_3 a1_4 a1_5 = some (r1, r2, r3)) ∧ Aside0 (kq ≤ k) ∧ Aside0 (w'.heap[gb570]? = some (.cells #[.int .i64 a0_0, .int .i64 a0_1] 31 (0, 0))) ∧ Aside0 (w'.heap[gb571]? = some (.cells #[.int .i64 a1_0, .int .i64 a1_1, .int .i64 a1_2, .int .i64 a1_3, .int .i64 a1_4, .int .i64 a1_5] 25 (0, 0))) ∧ Aside0 (Below w.heap.size w w'))
 case atStart => exact ⟨((-1)), (0), (0), wv6, wv6, wv6, H', ⟨Nat.le_refl _⟩, ⟨(xvb BK570.out)⟩, ⟨(xvb BK571.out)⟩, ⟨wv20⟩⟩
 case round =>
  clear H'
  try clear p2
  obtain ⟨x7_1, x8_1, x9_1, rfl, rfl, rfl, HA, HK1, BK570, BK571, HB⟩ := hrel
  cases gk with
  | zero => exact absurd HA.out (by simp [impl_BestTail.l0])
  | succ k1 =>
   have H := HA.out
   clear HA
   simp only [impl_BestTail.l0] at H
   by_cases c5 : x9_1 ≤ 2
   ·rw [if_pos c5] at H
    have c5b0 : decide (x9_1 ≤ 2) = true := decide_eq_true c5
    clear c5
    replace H := Option.bind_eq_some_iff.mp H
    obtain ⟨⟨t572, t573⟩, A60, H⟩ := H
    replace H : (if t573 = true then (if x7_1 < 0 then (impl_BestTail.l0 k1 x9_1 t572 (wrap64 (x9_1 + 1)) a0_0 a0_1 a1_0 a1_1 a1_2 a1_3 a1_4 a1_5) else (if t572 < x8_1 then (impl_BestTail.l0 k1 x9_1 t572 (wrap64 (x9_1 + 1)) a0_0 a0_1 a1_0 a1_1 a1_2 a1_3 a1_4 a1_5) else (impl_BestTail.l0 k1 x7_1 x8_1 (wrap64 (x9_1 + 1)) a0_0 a0_1 a1_0 a1_1 a1_2 a1_3 a1_4 a1_5))) else (impl_BestTail.l0 k1 x7_1 x8_1 (wrap64 (x9_1 + 1)) a0_0 a0_1 a1_0 a1_1 a1_2 a1_3 a1_4 a1_5)) = some (r1, r2, r3) := H
    have A6 := Aside0.mk A60
    clear A60
    by_cases c7 : t573 = true
    ·subst c7
     have H1 : (if x7_1 < 0 then (impl_BestTail.l0 k1 x9_1 t572 (wrap64 (x9_1 + 1)) a0_0 a0_1 a1_0 a1_1 a1_2 a1_3 a1_4 a1_5) else (if t572 < x8_1 then (impl_BestTail.l0 k1 x9_1 t572 (wrap64 (x9_1 + 1)) a0_0 a0_1 a1_0 a1_1 a1_2 a1_3 a1_4 a1_5) else (impl_BestTail.l0 k1 x7_1 x8_1 (wrap64 (x9_1 + 1)) a0_0 a0_1 a1_0 a1_1 a1_2 a1_3 a1_4 a1_5))) = some (r1, r2, r3) := by rw [if_pos rfl] at H; exact H
     clear H
     have H := H1
     clear H1
     by_cases c8 : x7_1 < 0
     ·rw [if_pos c8] at H
      have c8b0 : decide (x7_1 < 0) = true := decide_eq_true c8
      clear c8
      have H' := Aside0.mk H
      clear H
      have hnb9 := NB570_571.out
      have hnc9 := NB571_570.out
      have hcz10_0 : wr.cell? ⟨gb570, 0, none⟩ = some (.int .i64 a0_0) := xvc BK570.out
      have hcz10_1 : wr.cell? ⟨gb570, 1, none⟩ = some (.int .i64 a0_1) := xvc BK570.out
      have hfz10_0 := blk_frozen BK570.out 0
      have hfz10_1 := blk_frozen BK570.out 1
      have hcz11_0 : wr.cell? ⟨gb571, 0, none⟩ = some (.int .i64 a1_0) := xvc BK571.out
      have hcz11_1 : wr.cell? ⟨gb571, 1, none⟩ = some (.int .i64 a1_1) := xvc BK571.out
      have hcz11_2 : wr.cell? ⟨gb571, 2, none⟩ = some (.int .i64 a1_2) := xvc BK571.out
      have hcz11_3 : wr.cell? ⟨gb571, 3, none⟩ = some (.int .i64 a1_3) := xvc BK571.out
      have hcz11_4 : wr.cell? ⟨gb571, 4, none⟩ = some (.int .i64 a1_4) := xvc BK571.out
      have hcz11_5 : wr.cell? ⟨gb571, 5, none⟩ = some (.int .i64 a1_5) := xvc BK571.out
      have hfz11_0 := blk_frozen BK571.out 0
      have hfz11_1 := blk_frozen BK571.out 1
      have hfz11_2 := blk_frozen BK571.out 2
      have hfz11_3 := blk_frozen BK571.out 3
      have hfz11_4 := blk_frozen BK571.out 4
      have hfz11_5 := blk_frozen BK571.out 5
      go_wp2_with (first | ((with_reducible refine gate_callee (f := 72) rfl ?_); refine goesL_ (some 20) rfl rfl Try.func72 (by kernel_rfl) rfl #[.agg #[.int .i64 a0_0, .int .i64 a0_1], .agg #[.int .i64 a1_0, .int .i64 a1_1, .int .i64 a1_2, .int .i64 a1_3, .int .i64 a1_4, .int .i64 a1_5], .int .i64 x9_1] rfl wv1 ?_; (with_reducible refine (impl_StripCost.calls k1 a0_0 a0_1 a1_0 a1_1 a1_2 a1_3 a1_4 a1_5 x9_1 t572 true _ A6.out).mono ?_); rintro e w12 ⟨rfl, hb⟩; refine ⟨_, rfl, ?_⟩; have n0_ := Aside0.mk (xvl BK570.out hb); have n1_ := Aside0.mk (xvl BK571.out hb); have n2_ := Aside0.mk (below_step wv20 hb); clear BK570; clear BK571; clear HB; have BK570 := n0_; have BK571 := n1_; have HB := n2_; clear n0_ n1_ n2_; (try clear hb); (try clear hb2); (try clear hk); (try clear hi)))
      go_roundg k1
      case measure => have := HK1.out; omega
      case rel => exact ⟨(x9_1), (t572), (wrap64 (x9_1 + 1)), wv6, wv6, wv6, H', ⟨wv60⟩, ⟨(xvb BK570.out)⟩, ⟨(xvb BK571.out)⟩, ⟨wv20⟩⟩
     ·rw [if_neg c8] at H
      have c8b0 : decide (x7_1 < 0) = false := decide_eq_false c8
      clear c8
      by_cases c13 : t572 < x8_1
      ·rw [if_pos c13] at H
       have c13b0 : decide (t572 < x8_1) = true := decide_eq_true c13
       clear c13
       have H' := Aside0.mk H
       clear H
       have hnb14 := NB570_571.out
       have hnc14 := NB571_570.out
       have hcz15_0 : wr.cell? ⟨gb570, 0, none⟩ = some (.int .i64 a0_0) := xvc BK570.out
       have hcz15_1 : wr.cell? ⟨gb570, 1, none⟩ = some (.int .i64 a0_1) := xvc BK570.out
       have hfz15_0 := blk_frozen BK570.out 0
       have hfz15_1 := blk_frozen BK570.out 1
       have hcz16_0 : wr.cell? ⟨gb571, 0, none⟩ = some (.int .i64 a1_0) := xvc BK571.out
       have hcz16_1 : wr.cell? ⟨gb571, 1, none⟩ = some (.int .i64 a1_1) := xvc BK571.out
       have hcz16_2 : wr.cell? ⟨gb571, 2, none⟩ = some (.int .i64 a1_2) := xvc BK571.out
       have hcz16_3 : wr.cell? ⟨gb571, 3, none⟩ = some (.int .i64 a1_3) := xvc BK571.out
       have hcz16_4 : wr.cell? ⟨gb571, 4, none⟩ = some (.int .i64 a1_4) := xvc BK571.out
       have hcz16_5 : wr.cell? ⟨gb571, 5, none⟩ = some (.int .i64 a1_5) := xvc BK571.out
       have hfz16_0 := blk_frozen BK571.out 0
       have hfz16_1 := blk_frozen BK571.out 1
       have hfz16_2 := blk_frozen BK571.out 2
       have hfz16_3 := blk_frozen BK571.out 3
       have hfz16_4 := blk_frozen BK571.out 4
       have hfz16_5 := blk_frozen BK571.out 5
       go_wp2_with (first | ((with_reducible refine gate_callee (f := 72) rfl ?_); refine goesL_ (some 20) rfl rfl Try.func72 (by kernel_rfl) rfl #[.agg #[.int .i64 a0_0, .int .i64 a0_1], .agg #[.int .i64 a1_0, .int .i64 a1_1, .int .i64 a1_2, .int .i64 a1_3, .int .i64 a1_4, .int .i64 a1_5], .int .i64 x9_1] rfl wv1 ?_; (with_reducible refine (impl_StripCost.calls k1 a0_0 a0_1 a1_0 a1_1 a1_2 a1_3 a1_4 a1_5 x9_1 t572 true _ A6.out).mono ?_); rintro e w17 ⟨rfl, hb⟩; refine ⟨_, rfl, ?_⟩; have n0_ := Aside0.mk (xvl BK570.out hb); have n1_ := Aside0.mk (xvl BK571.out hb); have n2_ := Aside0.mk (below_step wv20 hb); clear BK570; clear BK571; clear HB; have BK570 := n0_; have BK571 := n1_; have HB := n2_; clear n0_ n1_ n2_; (try clear hb); (try clear hb2); (try clear hk); (try clear hi)))
       go_roundg k1
       case measure => have := HK1.out; omega
       case rel => exact ⟨(x9_1), (t572), (wrap64 (x9_1 + 1)), wv6, wv6, wv6, H', ⟨wv60⟩, ⟨(xvb BK570.out)⟩, ⟨(xvb BK571.out)⟩, ⟨wv20⟩⟩
      ·rw [if_neg c13] at H
       have c13b0 : decide (t572 < x8_1) = false := decide_eq_false c13
       clear c13
       have H' := Aside0.mk H
       clear H
       have hnb18 := NB570_571.out
       have hnc18 := NB571_570.out
       have hcz19_0 : wr.cell? ⟨gb570, 0, none⟩ = some (.int .i64 a0_0) := xvc BK570.out
       have hcz19_1 : wr.cell? ⟨gb570, 1, none⟩ = some (.int .i64 a0_1) := xvc BK570.out
       have hfz19_0 := blk_frozen BK570.out 0
       have hfz19_1 := blk_frozen BK570.out 1
       have hcz20_0 : wr.cell? ⟨gb571, 0, none⟩ = some (.int .i64 a1_0) := xvc BK571.out
       have hcz20_1 : wr.cell? ⟨gb571, 1, none⟩ = some (.int .i64 a1_1) := xvc BK571.out
       have hcz20_2 : wr.cell? ⟨gb571, 2, none⟩ = some (.int .i64 a1_2) := xvc BK571.out
       have hcz20_3 : wr.cell? ⟨gb571, 3, none⟩ = some (.int .i64 a1_3) := xvc BK571.out
       have hcz20_4 : wr.cell? ⟨gb571, 4, none⟩ = some (.int .i64 a1_4) := xvc BK571.out
       have hcz20_5 : wr.cell? ⟨gb571, 5, none⟩ = some (.int .i64 a1_5) := xvc BK571.out
       have hfz20_0 := blk_frozen BK571.out 0
       have hfz20_1 := blk_frozen BK571.out 1
       have hfz20_2 := blk_frozen BK571.out 2
       have hfz20_3 := blk_frozen BK571.out 3
       have hfz20_4 := blk_frozen BK571.out 4
       have hfz20_5 := blk_frozen BK571.out 5
       go_wp2_with (first | ((with_reducible refine gate_callee (f := 72) rfl ?_); refine goesL_ (some 20) rfl rfl Try.func72 (by kernel_rfl) rfl #[.agg #[.int .i64 a0_0, .int .i64 a0_1], .agg #[.int .i64 a1_0, .int .i64 a1_1, .int .i64 a1_2, .int .i64 a1_3, .int .i64 a1_4, .int .i64 a1_5], .int .i64 x9_1] rfl wv1 ?_; (with_reducible refine (impl_StripCost.calls k1 a0_0 a0_1 a1_0 a1_1 a1_2 a1_3 a1_4 a1_5 x9_1 t572 true _ A6.out).mono ?_); rintro e w21 ⟨rfl, hb⟩; refine ⟨_, rfl, ?_⟩; have n0_ := Aside0.mk (xvl BK570.out hb); have n1_ := Aside0.mk (xvl BK571.out hb); have n2_ := Aside0.mk (below_step wv20 hb); clear BK570; clear BK571; clear HB; have BK570 := n0_; have BK571 := n1_; have HB := n2_; clear n0_ n1_ n2_; (try clear hb); (try clear hb2); (try clear hk); (try clear hi)))
       go_roundg k1
       case measure => have := HK1.out; omega
       case rel => exact ⟨(x7_1), (x8_1), (wrap64 (x9_1 + 1)), wv6, wv6, wv6, H', ⟨wv60⟩, ⟨(xvb BK570.out)⟩, ⟨(xvb BK571.out)⟩, ⟨wv20⟩⟩
    ·replace c7 := Bool.eq_false_iff.mpr c7
     subst c7
     have H1 : (impl_BestTail.l0 k1 x7_1 x8_1 (wrap64 (x9_1 + 1)) a0_0 a0_1 a1_0 a1_1 a1_2 a1_3 a1_4 a1_5) = some (r1, r2, r3) := by rw [if_neg (show ¬ (false = true) by decide)] at H; exact H
     clear H
     have H := H1
     clear H1
     have H' := Aside0.mk H
     clear H
     have hnb22 := NB570_571.out
     have hnc22 := NB571_570.out
     have hcz23_0 : wr.cell? ⟨gb570, 0, none⟩ = some (.int .i64 a0_0) := xvc BK570.out
     have hcz23_1 : wr.cell? ⟨gb570, 1, none⟩ = some (.int .i64 a0_1) := xvc BK570.out
     have hfz23_0 := blk_frozen BK570.out 0
     have hfz23_1 := blk_frozen BK570.out 1
     have hcz24_0 : wr.cell? ⟨gb571, 0, none⟩ = some (.int .i64 a1_0) := xvc BK571.out
     have hcz24_1 : wr.cell? ⟨gb571, 1, none⟩ = some (.int .i64 a1_1) := xvc BK571.out
     have hcz24_2 : wr.cell? ⟨gb571, 2, none⟩ = some (.int .i64 a1_2) := xvc BK571.out
     have hcz24_3 : wr.cell? ⟨gb571, 3, none⟩ = some (.int .i64 a1_3) := xvc BK571.out
     have hcz24_4 : wr.cell? ⟨gb571, 4, none⟩ = some (.int .i64 a1_4) := xvc BK571.out
     have hcz24_5 : wr.cell? ⟨gb571, 5, none⟩ = some (.int .i64 a1_5) := xvc BK571.out
     have hfz24_0 := blk_frozen BK571.out 0
     have hfz24_1 := blk_frozen BK571.out 1
     have hfz24_2 := blk_frozen BK571.out 2
     have hfz24_3 := blk_frozen BK571.out 3
     have hfz24_4 := blk_frozen BK571.out 4
     have hfz24_5 := blk_frozen BK571.out 5
     go_wp2_with (first | ((with_reducible refine gate_callee (f := 72) rfl ?_); refine goesL_ (some 20) rfl rfl Try.func72 (by kernel_rfl) rfl #[.agg #[.int .i64 a0_0, .int .i64 a0_1], .agg #[.int .i64 a1_0, .int .i64 a1_1, .int .i64 a1_2, .int .i64 a1_3, .int .i64 a1_4, .int .i64 a1_5], .int .i64 x9_1] rfl wv1 ?_; (with_reducible refine (impl_StripCost.calls k1 a0_0 a0_1 a1_0 a1_1 a1_2 a1_3 a1_4 a1_5 x9_1 t572 false _ A6.out).mono ?_); rintro e w25 ⟨rfl, hb⟩; refine ⟨_, rfl, ?_⟩; have n0_ := Aside0.mk (xvl BK570.out hb); have n1_ := Aside0.mk (xvl BK571.out hb); have n2_ := Aside0.mk (below_step wv20 hb); clear BK570; clear BK571; clear HB; have BK570 := n0_; have BK571 := n1_; have HB := n2_; clear n0_ n1_ n2_; (try clear hb); (try clear hb2); (try clear hk); (try clear hi)))
     go_roundg k1
     case measure => have := HK1.out; omega
     case rel => exact ⟨(x7_1), (x8_1), (wrap64 (x9_1 + 1)), wv6, wv6, wv6, H', ⟨wv60⟩, ⟨(xvb BK570.out)⟩, ⟨(xvb BK571.out)⟩, ⟨wv20⟩⟩
   ·rw [if_neg c5] at H
    have c5b0 : decide (x9_1 ≤ 2) = false := decide_eq_false c5
    clear c5
    by_cases c26 : x7_1 < 0
    ·rw [if_pos c26] at H
     have c26b0 : decide (x7_1 < 0) = true := decide_eq_true c26
     clear c26
     simp only [Option.some.injEq, Prod.mk.injEq] at H
     obtain ⟨rfl, rfl, rfl⟩ := H
     go_wp2
     go_ret3
     exact ⟨wv3, wv20⟩
    ·rw [if_neg c26] at H
     have c26b0 : decide (x7_1 < 0) = false := decide_eq_false c26
     clear c26
     simp only [Option.some.injEq, Prod.mk.injEq] at H
     obtain ⟨rfl, rfl, rfl⟩ := H
     go_wp2
     go_ret3
     exact ⟨wv3, wv20⟩

end Go.Proofs.Ytpfoeologjacfaa.V
