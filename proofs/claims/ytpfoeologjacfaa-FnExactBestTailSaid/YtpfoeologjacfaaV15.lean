-- Written by a program of this session (wip/tools) over the kit's print.
-- COMPACT
import Derived.Test.YtpfoeologjacfaaV0
import Derived.Test.YtpfoeologjacfaaV7
import Derived.Test.YtpfoeologjacfaaV12
import Derived.Test.YtpfoeologjacfaaV13
import Derived.Test.YtpfoeologjacfaaV14
namespace Go.Proofs.Ytpfoeologjacfaa.V
open Go.RowKit Go.Proofs.YtpfoeologjacfaaW.PrintWords Go.Proofs.YtpfoeologjacfaaW.PrintLast Go.Proofs.YtpfoeologjacfaaW.PrintMore
attribute [local go_sem] max2_int min2_int max_two min_two max_three min_three max_four min_four   -- for this text's walks alone
set_option linter.unusedVariables false
set_option linter.unusedSimpArgs false

/-- An operation that yields a value, here and now: a step of its own. -/
theorem load_ {P : Program} {ops : Array Oper} {Q : Exit → Act → World → Prop} {oi : Oper} {N : Option Tmp} {a : Act} {w : World} {K : Act → World → Prop} (v : Value) (hw : Region.wanted oi (yielded ops a.tmps) = true) (hN : oi.dst = N)
  (hrun : (execOp a.eval oi).run P w = .ok (.value v) w) (h : K (a.put N v) w) : if Region.wanted oi (yielded ops a.tmps) = true then Oper.wp P oi a w K Q else K (a.put N undef) w := by
 rw [if_pos hw]
 subst hN
 simp only [Oper.wp, hrun, Oper.upon]
 exact h
/-! ### impl_ValidInstr: function 211 -/
mutual
def impl_ValidInstr.j0 : Nat → Bool → Int → Int → Int → Int → Int → Int → Int → Int → NRow → Option (Bool)
 | 0, _, _, _, _, _, _, _, _, _, _ => none
 | k + 1, x15, x501000, x501001, x502000, x502001, x502002, x502003, x502004, x502005, x502006 => if x15 = true then (some false) else ((impl_shapes.f).bind fun t504 => (if 0 ≤ x502000 then (if x502000 < (t504.length : Int) then (if x502004 = (-1) then (if ((rd_T191 t504 x502000).f5 = true) then (if (rd_T191 t504 x502000).f4 = true then ((impl_isMaskNumber.f x502004).bind fun t509 => (impl_ValidInstr.j1 k t509 x501000 x501001 x502000 x502001 x502002 x502003 x502004 x502005 x502006 ((rd_T191 t504 x502000).f0) ((rd_T191 t504 x502000).f1) ((rd_T191 t504 x502000).f2) ((rd_T191 t504 x502000).f3) ((rd_T191 t504 x502000).f4) ((rd_T191 t504 x502000).f5) ((rd_T191 t504 x502000).f6))) else (impl_ValidInstr.j1 k false x501000 x501001 x502000 x502001 x502002 x502003 x502004 x502005 x502006 ((rd_T191 t504 x502000).f0) ((rd_T191 t504 x502000).f1) ((rd_T191 t504 x502000).f2) ((rd_T191 t504 x502000).f3) ((rd_T191 t504 x502000).f4) ((rd_T191 t504 x502000).f5) ((rd_T191 t504 x502000).f6))) else (impl_ValidInstr.j1 k true x501000 x501001 x502000 x502001 x502002 x502003 x502004 x502005 x502006 ((rd_T191 t504 x502000).f0) ((rd_T191 t504 x502000).f1) ((rd_T191 t504 x502000).f2) ((rd_T191 t504 x502000).f3) ((rd_T191 t504 x502000).f4) ((rd_T191 t504 x502000).f5) ((rd_T191 t504 x502000).f6))) else (if (rd_T191 t504 x502000).f4 = true then ((impl_isMaskNumber.f x502004).bind fun t510 => (impl_ValidInstr.j1 k t510 x501000 x501001 x502000 x502001 x502002 x502003 x502004 x502005 x502006 ((rd_T191 t504 x502000).f0) ((rd_T191 t504 x502000).f1) ((rd_T191 t504 x502000).f2) ((rd_T191 t504 x502000).f3) ((rd_T191 t504 x502000).f4) ((rd_T191 t504 x502000).f5) ((rd_T191 t504 x502000).f6))) else (impl_ValidInstr.j1 k false x501000 x501001 x502000 x502001 x502002 x502003 x502004 x502005 x502006 ((rd_T191 t504 x502000).f0) ((rd_T191 t504 x502000).f1) ((rd_T191 t504 x502000).f2) ((rd_T191 t504 x502000).f3) ((rd_T191 t504 x502000).f4) ((rd_T191 t504 x502000).f5) ((rd_T191 t504 x502000).f6)))) else (none)) else (none)))
def impl_ValidInstr.j1 : Nat → Bool → Int → Int → Int → Int → Int → Int → Int → Int → NRow → ByteArray → Int → Int → Int → Bool → Bool → Bool → Option (Bool)
 | 0, _, _, _, _, _, _, _, _, _, _, _, _, _, _, _, _, _ => none
 | k + 1, x6, x501000, x501001, x502000, x502001, x502002, x502003, x502004, x502005, x502006, x509000, x509001, x509002, x509003, x509004, x509005, x509006 => if x6 = true then ((impl_isField.f x509001 x502001).bind fun t511 => (if t511 = true then ((impl_isField.f x509002 x502002).bind fun t512 => (if t512 = true then ((impl_isField.f x509003 x502003).bind fun t513 => (if t513 = true then ((impl_isStride.f k x502000 x502001 x502002 x502003 x502004 x502005 x502006).bind fun t514 => (if t514 = true then ((impl_isI.f k x501000 x501001 x502000 x502001 x502002 x502003 x502004 x502005 x502006).bind fun t515 => (if t515 = true then ((impl_isTable.f x501000 x501001 x502000 x502001 x502002 x502003 x502004 x502005 x502006 x509006).bind fun t516 => (some t516)) else (some false))) else (some false))) else (some false))) else (some false))) else (some false))) else (some false)
end
def impl_ValidInstr.f (k : Nat) (a0_0 : Int) (a0_1 : Int) (a1_0 : Int) (a1_1 : Int) (a1_2 : Int) (a1_3 : Int) (a1_4 : Int) (a1_5 : Int) (a1_6 : NRow) : Option (Bool) := (impl_ValidMachine.f a0_0 a0_1).bind fun t502 => (if t502 = true then ((impl_within.f a1_0 0 14).bind fun t503 => (impl_ValidInstr.j0 k (!t503) a0_0 a0_1 a1_0 a1_1 a1_2 a1_3 a1_4 a1_5 a1_6)) else (impl_ValidInstr.j0 k true a0_0 a0_1 a1_0 a1_1 a1_2 a1_3 a1_4 a1_5 a1_6))
theorem impl_ValidInstr.mono_l : ∀ k, (∀ y0 y1 y2 y3 y4 y5 y6 y7 y8 y9, LeO (impl_ValidInstr.j0 k y0 y1 y2 y3 y4 y5 y6 y7 y8 y9) (impl_ValidInstr.j0 (k + 1) y0 y1 y2 y3 y4 y5 y6 y7 y8 y9)) ∧ (∀ y0 y1 y2 y3 y4 y5 y6 y7 y8 y9 y10 y11 y12 y13 y14 y15 y16, LeO (impl_ValidInstr.j1 k y0 y1 y2 y3 y4 y5 y6 y7 y8 y9 y10 y11 y12 y13 y14 y15 y16) (impl_ValidInstr.j1 (k + 1) y0 y1 y2 y3 y4 y5 y6 y7 y8 y9 y10 y11 y12 y13 y14 y15 y16))
 | 0 => ⟨fun _ _ _ _ _ _ _ _ _ _ r h => by simp [impl_ValidInstr.j0] at h, fun _ _ _ _ _ _ _ _ _ _ _ _ _ _ _ _ _ r h => by simp [impl_ValidInstr.j1] at h⟩
 | k + 1 => by
  obtain ⟨ih0, ih1⟩ := impl_ValidInstr.mono_l k
  refine ⟨?_, ?_⟩
  ·intro y0 y1 y2 y3 y4 y5 y6 y7 y8 y9
   unfold impl_ValidInstr.j0
   repeat' first
   | (with_reducible exact ih0 _ _ _ _ _ _ _ _ _ _)
   | (with_reducible exact ih1 _ _ _ _ _ _ _ _ _ _ _ _ _ _ _ _ _)
   | (with_reducible exact impl_isI.mono _ _ _ _ _ _ _ _ _ _)
   | (with_reducible exact impl_isStride.mono _ _ _ _ _ _ _ _)
   | (with_reducible exact LeO.refl _)
   | (with_reducible exact LeO.none _)
   | (with_reducible refine LeO.ite ?_ ?_)
   | (with_reducible refine LeO.bind ?_ (fun _ => ?_))
   | exact ih0 _ _ _ _ _ _ _ _ _ _
   | exact ih1 _ _ _ _ _ _ _ _ _ _ _ _ _ _ _ _ _
   | exact impl_isI.mono _ _ _ _ _ _ _ _ _ _
   | exact impl_isStride.mono _ _ _ _ _ _ _ _
   | exact LeO.none _
   | refine LeO.ite ?_ ?_
   | refine LeO.bind ?_ (fun _ => ?_)
  ·intro y0 y1 y2 y3 y4 y5 y6 y7 y8 y9 y10 y11 y12 y13 y14 y15 y16
   unfold impl_ValidInstr.j1
   repeat' first
   | (with_reducible exact ih0 _ _ _ _ _ _ _ _ _ _)
   | (with_reducible exact ih1 _ _ _ _ _ _ _ _ _ _ _ _ _ _ _ _ _)
   | (with_reducible exact impl_isI.mono _ _ _ _ _ _ _ _ _ _)
   | (with_reducible exact impl_isStride.mono _ _ _ _ _ _ _ _)
   | (with_reducible exact LeO.refl _)
   | (with_reducible exact LeO.none _)
   | (with_reducible refine LeO.ite ?_ ?_)
   | (with_reducible refine LeO.bind ?_ (fun _ => ?_))
   | exact ih0 _ _ _ _ _ _ _ _ _ _
   | exact ih1 _ _ _ _ _ _ _ _ _ _ _ _ _ _ _ _ _
   | exact impl_isI.mono _ _ _ _ _ _ _ _ _ _
   | exact impl_isStride.mono _ _ _ _ _ _ _ _
   | exact LeO.none _
   | refine LeO.ite ?_ ?_
   | refine LeO.bind ?_ (fun _ => ?_)
theorem impl_ValidInstr.mono : ∀ a0 a1 a2 a3 a4 a5 a6 a7 a8 k, LeO (impl_ValidInstr.f k a0 a1 a2 a3 a4 a5 a6 a7 a8) (impl_ValidInstr.f (k + 1) a0 a1 a2 a3 a4 a5 a6 a7 a8) := by
 intro a0 a1 a2 a3 a4 a5 a6 a7 a8 k
 obtain ⟨ih0, ih1⟩ := impl_ValidInstr.mono_l k
 unfold impl_ValidInstr.f
 repeat' first
   | (with_reducible exact ih0 _ _ _ _ _ _ _ _ _ _)
   | (with_reducible exact ih1 _ _ _ _ _ _ _ _ _ _ _ _ _ _ _ _ _)
   | (with_reducible exact impl_isI.mono _ _ _ _ _ _ _ _ _ _)
   | (with_reducible exact impl_isStride.mono _ _ _ _ _ _ _ _)
   | (with_reducible exact LeO.refl _)
   | (with_reducible exact LeO.none _)
   | (with_reducible refine LeO.ite ?_ ?_)
   | (with_reducible refine LeO.bind ?_ (fun _ => ?_))
   | exact ih0 _ _ _ _ _ _ _ _ _ _
   | exact ih1 _ _ _ _ _ _ _ _ _ _ _ _ _ _ _ _ _
   | exact impl_isI.mono _ _ _ _ _ _ _ _ _ _
   | exact impl_isStride.mono _ _ _ _ _ _ _ _
   | exact LeO.none _
   | refine LeO.ite ?_ ?_
   | refine LeO.bind ?_ (fun _ => ?_)
set_option maxHeartbeats 8000000 in
set_option maxRecDepth 100000 in
theorem impl_ValidInstr.calls (k : Nat) (a0_0 : Int) (a0_1 : Int) (a1_0 : Int) (a1_1 : Int) (a1_2 : Int) (a1_3 : Int) (a1_4 : Int) (a1_5 : Int) (a1_6 : NRow) (r : Bool) (w : World) (h : impl_ValidInstr.f k a0_0 a0_1 a1_0 a1_1 a1_2 a1_3 a1_4 a1_5 a1_6 = some r) :
  Calls Try.prog 211 #[.agg #[.int .i64 a0_0, .int .i64 a0_1], .agg #[.int .i64 a1_0, .int .i64 a1_1, .int .i64 a1_2, .int .i64 a1_3, .int .i64 a1_4, .int .i64 a1_5, .slice none 0 0]] w fun e w' => e = .returned (.bool r) ∧ Below w.heap.size w w' := by
 have hu31 := Try.underlying31
 have hu142 := Try.underlying142
 have hu191 := Try.underlying191
 have HB := Aside0.mk (Below.refl w.heap.size w)
 have H : ((impl_ValidMachine.f a0_0 a0_1).bind fun t502 => (if t502 = true then ((impl_within.f a1_0 0 14).bind fun t503 => (impl_ValidInstr.j0 k (!t503) a0_0 a0_1 a1_0 a1_1 a1_2 a1_3 a1_4 a1_5 a1_6)) else (impl_ValidInstr.j0 k true a0_0 a0_1 a1_0 a1_1 a1_2 a1_3 a1_4 a1_5 a1_6))) = some r := h
 clear h
 have HC3 := Aside0.mk H
 clear H
 go_enter Try.func211, Try.ntmps211
 go_upto_region 1 with (first | ((with_reducible refine gate_dst (N := 2) rfl ?_); refine box_event ?hg (N := 2) ?hd (cs := #[.int .i64 a0_0, .int .i64 a0_1]) (t := 31) ?hr ?_; (case hd => rfl); (case hg => rfl); (case hr => first | (go_simp; done) | (go_simp; rfl)); intro gb500 hg w4 hbox hb; have n0_ := Aside0.mk (below_step (xvo HB.out) hb); have n1_ := Aside0.mk (hbox); have n2_ := Aside0.mk ((by rw [hg]; exact (below_size (xvo HB.out)) : w.heap.size ≤ gb500)); have n3_ := Aside0.mk ((by rw [hg]; exact (below_size (xvo HB.out)) : w.heap.size ≤ gb500)); clear HB; have HB := n0_; have BK500 := n1_; have GW500 := n2_; have GE500 := n3_; clear n0_ n1_ n2_ n3_; clear hb hbox hg) | ((with_reducible refine gate_dst (N := 3) rfl ?_); refine box_event ?hg (N := 3) ?hd (cs := #[.int .i64 a1_0, .int .i64 a1_1, .int .i64 a1_2, .int .i64 a1_3, .int .i64 a1_4, .int .i64 a1_5, .slice none 0 0]) (t := 142) ?hr ?_; (case hd => rfl); (case hg => rfl); (case hr => first | (go_simp; done) | (go_simp; rfl)); intro gb501 hg w5 hbox hb; have n0_ := Aside0.mk (xvl BK500.out hb); have n1_ := Aside0.mk (below_step wv51 hb); have n2_ := Aside0.mk (hbox); have n3_ := Aside0.mk ((by rw [hg]; exact (below_size wv51) : w.heap.size ≤ gb501)); have n4_ := Aside0.mk ((by rw [hg]; exact (below_size wv51) : w.heap.size ≤ gb501)); have n5_ := Aside0.mk ((by rw [hg]; exact Nat.ne_of_lt (blk_lt (g := gb500) (o := .cells #[.int .i64 a0_0, .int .i64 a0_1] 31 (0, 0)) (xvb BK500.out)) : gb500 ≠ gb501)); have n6_ := Aside0.mk ((by rw [hg]; exact Nat.ne_of_gt (blk_lt (g := gb500) (o := .cells #[.int .i64 a0_0, .int .i64 a0_1] 31 (0, 0)) (xvb BK500.out)) : gb501 ≠ gb500)); clear BK500; clear HB; have BK500 := n0_; have HB := n1_; have BK501 := n2_; have GW501 := n3_; have GE501 := n4_; have NB500_501 := n5_; have NB501_500 := n6_; clear n0_ n1_ n2_ n3_ n4_ n5_ n6_; clear hb hbox hg))
 (try simp only [Act.put, List.setIfInBounds_toArray, List.set_cons_zero, List.set_cons_succ])
 go_cut [15] (fun v15 wc => ∃ (kq : Nat) (x15_2 : Bool), v15 = .bool x15_2 ∧ Aside0 (impl_ValidInstr.j0 kq x15_2 a0_0 a0_1 a1_0 a1_1 a1_2 a1_3 a1_4 a1_5 a1_6 = some r) ∧ Aside0 (kq ≤ k) ∧ Aside0 (wc.heap[gb500]? = some (.cells #[.int .i64 a0_0, .int .i64 a0_1] 31 (0, 0))) ∧ Aside0 (wc.heap[gb501]? = some (.cells #[.int .i64 a1_0, .int .i64 a1_1, .int .i64 a1_2, .int .i64 a1_3, .int .i64 a1_4, .int .i64 a1_5, .slice none 0 0] 142 (0, 0))) ∧ Aside0 (Below w.heap.size w wc))
 case first =>
  have H := HC3.out
  clear HC3
  replace H := Option.bind_eq_some_iff.mp H
  obtain ⟨t502, A60, H⟩ := H
  replace H : (if t502 = true then ((impl_within.f a1_0 0 14).bind fun t503 => (impl_ValidInstr.j0 k (!t503) a0_0 a0_1 a1_0 a1_1 a1_2 a1_3 a1_4 a1_5 a1_6)) else (impl_ValidInstr.j0 k true a0_0 a0_1 a1_0 a1_1 a1_2 a1_3 a1_4 a1_5 a1_6)) = some r := H
  have A6 := Aside0.mk A60
  clear A60
  by_cases c7 : t502 = true
  ·subst c7
   have H1 : ((impl_within.f a1_0 0 14).bind fun t503 => (impl_ValidInstr.j0 k (!t503) a0_0 a0_1 a1_0 a1_1 a1_2 a1_3 a1_4 a1_5 a1_6)) = some r := by rw [if_pos rfl] at H; exact H
   clear H
   have H := H1
   clear H1
   replace H := Option.bind_eq_some_iff.mp H
   obtain ⟨t503, A80, H⟩ := H
   replace H : (impl_ValidInstr.j0 k (!t503) a0_0 a0_1 a1_0 a1_1 a1_2 a1_3 a1_4 a1_5 a1_6) = some r := H
   have A8 := Aside0.mk A80
   clear A80
   have H' := Aside0.mk H
   clear H
   have hnb9 := NB500_501.out
   have hnc9 := NB501_500.out
   have hcz10_0 : w5.cell? ⟨gb500, 0, none⟩ = some (.int .i64 a0_0) := xvc BK500.out
   have hcz10_1 : w5.cell? ⟨gb500, 1, none⟩ = some (.int .i64 a0_1) := xvc BK500.out
   have hfz10_0 := blk_frozen BK500.out 0
   have hfz10_1 := blk_frozen BK500.out 1
   go_wp2_with (first | ((with_reducible refine gate_callee (f := 85) rfl ?_); refine goesL_ (some 8) rfl rfl Try.func85 (by kernel_rfl) rfl #[.agg #[.int .i64 a0_0, .int .i64 a0_1]] rfl wv1 ?_; (with_reducible refine (impl_ValidMachine.calls a0_0 a0_1 true _ A6.out).mono ?_); rintro e w11 ⟨rfl, hb⟩; refine ⟨_, rfl, ?_⟩; have n0_ := Aside0.mk (xvl BK500.out hb); have n1_ := Aside0.mk (xvl BK501.out hb); have n2_ := Aside0.mk (below_step wv15 hb); clear BK500; clear BK501; clear HB; have BK500 := n0_; have BK501 := n1_; have HB := n2_; clear n0_ n1_ n2_; (try clear hb); (try clear hb2); (try clear hk); (try clear hi); have hcz12_0 : w11.cell? ⟨gb501, 0, none⟩ = some (.int .i64 a1_0) := xvc BK501.out; have hcz12_1 : w11.cell? ⟨gb501, 1, none⟩ = some (.int .i64 a1_1) := xvc BK501.out; have hcz12_2 : w11.cell? ⟨gb501, 2, none⟩ = some (.int .i64 a1_2) := xvc BK501.out; have hcz12_3 : w11.cell? ⟨gb501, 3, none⟩ = some (.int .i64 a1_3) := xvc BK501.out; have hcz12_4 : w11.cell? ⟨gb501, 4, none⟩ = some (.int .i64 a1_4) := xvc BK501.out; have hcz12_5 : w11.cell? ⟨gb501, 5, none⟩ = some (.int .i64 a1_5) := xvc BK501.out; have hcz12_6 : w11.cell? ⟨gb501, 6, none⟩ = some (.slice none 0 0) := xvc BK501.out; have hfz12_0 := blk_frozen BK501.out 0; have hfz12_1 := blk_frozen BK501.out 1; have hfz12_2 := blk_frozen BK501.out 2; have hfz12_3 := blk_frozen BK501.out 3; have hfz12_4 := blk_frozen BK501.out 4; have hfz12_5 := blk_frozen BK501.out 5; have hfz12_6 := blk_frozen BK501.out 6) | (go_at_call 81; (with_reducible refine (impl_within.calls a1_0 0 14 t503 _ A8.out).mono ?_); rintro e w' ⟨rfl, ⟨nd, rfl⟩⟩))
   go_meet
   case rel => exact ⟨_, (!t503), wv6, H', ⟨wv33⟩, ⟨(xvb BK500.out)⟩, ⟨(xvb BK501.out)⟩, ⟨wv15⟩⟩
  ·replace c7 := Bool.eq_false_iff.mpr c7
   subst c7
   have H1 : (impl_ValidInstr.j0 k true a0_0 a0_1 a1_0 a1_1 a1_2 a1_3 a1_4 a1_5 a1_6) = some r := by rw [if_neg (show ¬ (false = true) by decide)] at H; exact H
   clear H
   have H := H1
   clear H1
   have H' := Aside0.mk H
   clear H
   have hnb13 := NB500_501.out
   have hnc13 := NB501_500.out
   have hcz14_0 : w5.cell? ⟨gb500, 0, none⟩ = some (.int .i64 a0_0) := xvc BK500.out
   have hcz14_1 : w5.cell? ⟨gb500, 1, none⟩ = some (.int .i64 a0_1) := xvc BK500.out
   have hfz14_0 := blk_frozen BK500.out 0
   have hfz14_1 := blk_frozen BK500.out 1
   go_wp2_with (first | ((with_reducible refine gate_callee (f := 85) rfl ?_); refine goesL_ (some 8) rfl rfl Try.func85 (by kernel_rfl) rfl #[.agg #[.int .i64 a0_0, .int .i64 a0_1]] rfl wv1 ?_; (with_reducible refine (impl_ValidMachine.calls a0_0 a0_1 false _ A6.out).mono ?_); rintro e w15 ⟨rfl, hb⟩; refine ⟨_, rfl, ?_⟩; have n0_ := Aside0.mk (xvl BK500.out hb); have n1_ := Aside0.mk (xvl BK501.out hb); have n2_ := Aside0.mk (below_step wv15 hb); clear BK500; clear BK501; clear HB; have BK500 := n0_; have BK501 := n1_; have HB := n2_; clear n0_ n1_ n2_; (try clear hb); (try clear hb2); (try clear hk); (try clear hi)))
   go_meet
   case rel => exact ⟨_, (true), wv6, H', ⟨wv33⟩, ⟨(xvb BK500.out)⟩, ⟨(xvb BK501.out)⟩, ⟨wv15⟩⟩
 case rest =>
  clear HC3
  try clear c1
  try clear c2
  try clear p2
  try clear c7
  try clear c8
  try clear c9
  try clear c13
  try clear hcz10_0
  try clear hcz10_1
  try clear hcz12_0
  try clear hcz12_1
  try clear hcz12_2
  try clear hcz12_3
  try clear hcz12_4
  try clear hcz12_5
  try clear hcz12_6
  try clear hcz14_0
  try clear hcz14_1
  try clear hfz10_0
  try clear hfz10_1
  try clear hfz12_0
  try clear hfz12_1
  try clear hfz12_2
  try clear hfz12_3
  try clear hfz12_4
  try clear hfz12_5
  try clear hfz12_6
  try clear hfz14_0
  try clear hfz14_1
  obtain ⟨kq, x15_2, rfl, HA, HJ2, BK500, BK501, HB⟩ := hcut
  cases kq with
  | zero => exact absurd HA.out (by simp [impl_ValidInstr.j0])
  | succ kj2 =>
   have H := HA.out
   clear HA
   simp only [impl_ValidInstr.j0] at H
   by_cases c16 : x15_2 = true
   ·subst c16
    have H1 : (some false) = some r := by rw [if_pos rfl] at H; exact H
    clear H
    have H := H1
    clear H1
    obtain rfl := Option.some.inj H
    go_wp2
    go_ret
    exact ⟨wv3, wv15⟩
   ·replace c16 := Bool.eq_false_iff.mpr c16
    subst c16
    have H1 : ((impl_shapes.f).bind fun t504 => (if 0 ≤ a1_0 then (if a1_0 < (t504.length : Int) then (if a1_4 = (-1) then (if ((rd_T191 t504 a1_0).f5 = true) then (if (rd_T191 t504 a1_0).f4 = true then ((impl_isMaskNumber.f a1_4).bind fun t509 => (impl_ValidInstr.j1 kj2 t509 a0_0 a0_1 a1_0 a1_1 a1_2 a1_3 a1_4 a1_5 a1_6 ((rd_T191 t504 a1_0).f0) ((rd_T191 t504 a1_0).f1) ((rd_T191 t504 a1_0).f2) ((rd_T191 t504 a1_0).f3) ((rd_T191 t504 a1_0).f4) ((rd_T191 t504 a1_0).f5) ((rd_T191 t504 a1_0).f6))) else (impl_ValidInstr.j1 kj2 false a0_0 a0_1 a1_0 a1_1 a1_2 a1_3 a1_4 a1_5 a1_6 ((rd_T191 t504 a1_0).f0) ((rd_T191 t504 a1_0).f1) ((rd_T191 t504 a1_0).f2) ((rd_T191 t504 a1_0).f3) ((rd_T191 t504 a1_0).f4) ((rd_T191 t504 a1_0).f5) ((rd_T191 t504 a1_0).f6))) else (impl_ValidInstr.j1 kj2 true a0_0 a0_1 a1_0 a1_1 a1_2 a1_3 a1_4 a1_5 a1_6 ((rd_T191 t504 a1_0).f0) ((rd_T191 t504 a1_0).f1) ((rd_T191 t504 a1_0).f2) ((rd_T191 t504 a1_0).f3) ((rd_T191 t504 a1_0).f4) ((rd_T191 t504 a1_0).f5) ((rd_T191 t504 a1_0).f6))) else (if (rd_T191 t504 a1_0).f4 = true then ((impl_isMaskNumber.f a1_4).bind fun t510 => (impl_ValidInstr.j1 kj2 t510 a0_0 a0_1 a1_0 a1_1 a1_2 a1_3 a1_4 a1_5 a1_6 ((rd_T191 t504 a1_0).f0) ((rd_T191 t504 a1_0).f1) ((rd_T191 t504 a1_0).f2) ((rd_T191 t504 a1_0).f3) ((rd_T191 t504 a1_0).f4) ((rd_T191 t504 a1_0).f5) ((rd_T191 t504 a1_0).f6))) else (impl_ValidInstr.j1 kj2 false a0_0 a0_1 a1_0 a1_1 a1_2 a1_3 a1_4 a1_5 a1_6 ((rd_T191 t504 a1_0).f0) ((rd_T191 t504 a1_0).f1) ((rd_T191 t504 a1_0).f2) ((rd_T191 t504 a1_0).f3) ((rd_T191 t504 a1_0).f4) ((rd_T191 t504 a1_0).f5) ((rd_T191 t504 a1_0).f6)))) else (none)) else (none))) = some r := by rw [if_neg (show ¬ (false = true) by decide)] at H; exact H
    clear H
    have H := H1
    clear H1
    replace H := Option.bind_eq_some_iff.mp H
    obtain ⟨t504, A170, H⟩ := H
    replace H : (if 0 ≤ a1_0 then (if a1_0 < (t504.length : Int) then (if a1_4 = (-1) then (if ((rd_T191 t504 a1_0).f5 = true) then (if (rd_T191 t504 a1_0).f4 = true then ((impl_isMaskNumber.f a1_4).bind fun t509 => (impl_ValidInstr.j1 kj2 t509 a0_0 a0_1 a1_0 a1_1 a1_2 a1_3 a1_4 a1_5 a1_6 ((rd_T191 t504 a1_0).f0) ((rd_T191 t504 a1_0).f1) ((rd_T191 t504 a1_0).f2) ((rd_T191 t504 a1_0).f3) ((rd_T191 t504 a1_0).f4) ((rd_T191 t504 a1_0).f5) ((rd_T191 t504 a1_0).f6))) else (impl_ValidInstr.j1 kj2 false a0_0 a0_1 a1_0 a1_1 a1_2 a1_3 a1_4 a1_5 a1_6 ((rd_T191 t504 a1_0).f0) ((rd_T191 t504 a1_0).f1) ((rd_T191 t504 a1_0).f2) ((rd_T191 t504 a1_0).f3) ((rd_T191 t504 a1_0).f4) ((rd_T191 t504 a1_0).f5) ((rd_T191 t504 a1_0).f6))) else (impl_ValidInstr.j1 kj2 true a0_0 a0_1 a1_0 a1_1 a1_2 a1_3 a1_4 a1_5 a1_6 ((rd_T191 t504 a1_0).f0) ((rd_T191 t504 a1_0).f1) ((rd_T191 t504 a1_0).f2) ((rd_T191 t504 a1_0).f3) ((rd_T191 t504 a1_0).f4) ((rd_T191 t504 a1_0).f5) ((rd_T191 t504 a1_0).f6))) else (if (rd_T191 t504 a1_0).f4 = true then ((impl_isMaskNumber.f a1_4).bind fun t510 => (impl_ValidInstr.j1 kj2 t510 a0_0 a0_1 a1_0 a1_1 a1_2 a1_3 a1_4 a1_5 a1_6 ((rd_T191 t504 a1_0).f0) ((rd_T191 t504 a1_0).f1) ((rd_T191 t504 a1_0).f2) ((rd_T191 t504 a1_0).f3) ((rd_T191 t504 a1_0).f4) ((rd_T191 t504 a1_0).f5) ((rd_T191 t504 a1_0).f6))) else (impl_ValidInstr.j1 kj2 false a0_0 a0_1 a1_0 a1_1 a1_2 a1_3 a1_4 a1_5 a1_6 ((rd_T191 t504 a1_0).f0) ((rd_T191 t504 a1_0).f1) ((rd_T191 t504 a1_0).f2) ((rd_T191 t504 a1_0).f3) ((rd_T191 t504 a1_0).f4) ((rd_T191 t504 a1_0).f5) ((rd_T191 t504 a1_0).f6)))) else (none)) else (none)) = some r := H
    have A17 := Aside0.mk A170
    clear A170
    by_cases c18 : 0 ≤ a1_0
    ·rw [if_pos c18] at H
     have c18b0 : decide (0 ≤ a1_0) = true := decide_eq_true c18
     clear c18
     by_cases c19 : a1_0 < (t504.length : Int)
     ·rw [if_pos c19] at H
      have c19b0 : decide (a1_0 < (t504.length : Int)) = true := decide_eq_true c19
      clear c19
      have HC20 := Aside0.mk H
      clear H
      try go_wp2
      have n0_ := Aside0.mk (blk_drew BK500.out)
      have n1_ := Aside0.mk (blk_drew BK501.out)
      have n2_ := Aside0.mk (below_drew1 HB.out)
      clear BK500
      clear BK501
      clear HB
      have BK500 := n0_
      have BK501 := n1_
      have HB := n2_
      clear n0_ n1_ n2_
      refine start_ (n := 7) (S := fun w' => w'.cell? ⟨gb501, 0, none⟩ = some (.int .i64 a1_0) ∧ w'.cell? ⟨gb501, 1, none⟩ = some (.int .i64 a1_1) ∧ w'.cell? ⟨gb501, 2, none⟩ = some (.int .i64 a1_2) ∧ w'.cell? ⟨gb501, 3, none⟩ = some (.int .i64 a1_3) ∧ w'.cell? ⟨gb501, 4, none⟩ = some (.int .i64 a1_4) ∧ w'.cell? ⟨gb501, 5, none⟩ = some (.int .i64 a1_5) ∧ w'.cell? ⟨gb501, 6, none⟩ = some (.slice none 0 0)) (ds := []) (zv_.bm 7 0) (by kernel_rfl) rfl rfl ⟨xvc BK501.out, xvc BK501.out, xvc BK501.out, xvc BK501.out, xvc BK501.out, xvc BK501.out, xvc BK501.out⟩ (fun hHeld => ?_)
      generalize wc.drew = w21 at BK500 BK501 HB hHeld ⊢
      refine pure_ (i := 1) (N := some 17) (v := ?_) (a' := ?_) (zv_.bm 7 2) rfl rfl (by kernel_rfl) (fun _ _ _ h => h) (Or.inl ⟨(by rfl), ?_⟩) ?_ ?_
      rotate_left
      ·intro w'
       go_simp
       with_reducible rfl
      rotate_left
      ·simp only [Act.put, List.setIfInBounds_toArray, List.set_cons_zero, List.set_cons_succ, i64_w, i32_w]
       rfl
      refine take_ (i := 2) (N := some 18) (v := ?_) (a' := ?_) (zv_.bm 7 6) rfl rfl (by kernel_rfl) (fun _ _ _ h => h) (Or.inl ⟨(by rfl), ?_⟩) hHeld ?_ ?_
      rotate_left
      ·rintro w' ⟨s0, s1, s2, s3, s4, s5, s6⟩
       go_simp
       with_reducible rfl
      rotate_left
      ·simp only [Act.put, List.setIfInBounds_toArray, List.set_cons_zero, List.set_cons_succ, i64_w, i32_w]
       rfl
      refine join_ (σ := Value × Nat × Addr) 1 (zv_.bm 7 63) (fun s_ => [(16, s_.1), (5, .pointer (some ⟨s_.2.1, 0, none⟩)), (19, .pointer (some s_.2.2)), (20, .agg #[.string ((rd_T191 t504 a1_0).f0), .int .i64 ((rd_T191 t504 a1_0).f1), .int .i64 ((rd_T191 t504 a1_0).f2), .int .i64 ((rd_T191 t504 a1_0).f3), .bool ((rd_T191 t504 a1_0).f4), .bool ((rd_T191 t504 a1_0).f5), .bool ((rd_T191 t504 a1_0).f6)])]) (fun s_ w' => (w'.cell? ⟨gb501, 0, none⟩ = some (.int .i64 a1_0) ∧ w'.cell? ⟨gb501, 1, none⟩ = some (.int .i64 a1_1) ∧ w'.cell? ⟨gb501, 2, none⟩ = some (.int .i64 a1_2) ∧ w'.cell? ⟨gb501, 3, none⟩ = some (.int .i64 a1_3) ∧ w'.cell? ⟨gb501, 4, none⟩ = some (.int .i64 a1_4) ∧ w'.cell? ⟨gb501, 5, none⟩ = some (.int .i64 a1_5) ∧ w'.cell? ⟨gb501, 6, none⟩ = some (.slice none 0 0)) ∧ (Kd.R k191 191 w' w.heap.size (fun k_ => k_ ≠ s_.2.1) s_.1 t504) ∧ (w'.heap[gb500]? = some (.cells #[.int .i64 a0_0, .int .i64 a0_1] 31 (0, 0))) ∧ (w'.heap[gb501]? = some (.cells #[.int .i64 a1_0, .int .i64 a1_1, .int .i64 a1_2, .int .i64 a1_3, .int .i64 a1_4, .int .i64 a1_5, .slice none 0 0] 142 (0, 0))) ∧ (w'.heap[s_.2.1]? = some (.cells #[.string (⟨#[]⟩ : ByteArray), .int .i64 0, .int .i64 0, .int .i64 0, .bool false, .bool false, .bool false] 191 (0, 0))) ∧ (w.heap.size ≤ s_.2.1) ∧ (w.heap.size ≤ s_.2.1) ∧ (gb500 ≠ s_.2.1) ∧ (s_.2.1 ≠ gb500) ∧ (gb501 ≠ s_.2.1) ∧ (s_.2.1 ≠ gb501) ∧ (Below w.heap.size w w')) ?_ ?_
      rotate_left
      ·intro hCont
       refine two_ (i := 0) (j := 5) (Ni := some 16) (Nj := some 5) (zv_.bm 7 7) (zv_.bm 7 38) rfl rfl rfl rfl (by kernel_rfl) (by decide) (by decide) (fun K hK => ?_) (fun K hK => ?_)
       ·skip
        refine goes_ Try.func221 (by kernel_rfl) rfl #[] (by rfl) rfl rfl wv1 ?_
        with_reducible refine (impl_shapes.calls  t504 _ A17.out).mono ?_
        rintro e w22 ⟨v505, rfl, ho0, hb⟩
        refine ⟨_, rfl, ?_⟩
        have n0_ := Aside0.mk (Kd.R_lower ho0 (below_size wv15))
        have n1_ := Aside0.mk (xvl BK500.out hb)
        have n2_ := Aside0.mk (xvl BK501.out hb)
        have n3_ := Aside0.mk (below_step wv15 hb)
        clear BK500
        clear BK501
        clear HB
        have HO506 := n0_
        have BK500 := n1_
        have BK501 := n2_
        have HB := n3_
        clear n0_ n1_ n2_ n3_
        (try clear hb)
        (try clear hb2)
        (try clear hk)
        (try clear hi)
        (try clear ho0)
        refine hK.out _ _ ⟨xvc BK501.out, xvc BK501.out, xvc BK501.out, xvc BK501.out, xvc BK501.out, xvc BK501.out, xvc BK501.out⟩ (fun hHeld => ?_)
        clear hK K
        refine norm_ (a' := ?_) ?_ ?_
        rotate_left
        ·show Act.put _ (some 16) _ = _
         simp only [Act.put, List.setIfInBounds_toArray, List.set_cons_zero, List.set_cons_succ, i64_w, i32_w]
         rfl
        obtain ⟨Aw_, cw_, ew_⟩ := Kd.R_slice HO506.out
        subst ew_
        have pw_ : 0 ≤ (a1_0 : Int) := of_decide_eq_true wv46
        have qw_ : a1_0 < (t504.length : Int) := of_decide_eq_true wv46
        obtain ⟨ad507, ew_, hx507_0, hx507_1, hx507_2, hx507_3, hx507_4, hx507_5, hx507_6⟩ := at_T191 (Kd.R_reads' HO506.out).2.2 a1_0 pw_ qw_
        cases ew_
        replace pw_ := eq_true pw_
        replace qw_ := eq_true qw_
        refine pure_ (i := 3) (N := some 19) (v := ?_) (a' := ?_) (zv_.bm 7 15) rfl rfl (by kernel_rfl) (fun _ _ _ h => h) (Or.inl ⟨(by rfl), ?_⟩) ?_ ?_
        rotate_left
        ·intro w'
         go_simp
         with_reducible rfl
        rotate_left
        ·simp only [Act.put, List.setIfInBounds_toArray, List.set_cons_zero, List.set_cons_succ, i64_w, i32_w]
         rfl
        refine two_ (i := 4) (j := 5) (Ni := some 20) (Nj := some 5) (zv_.bm 7 31) (zv_.bm 7 47) rfl rfl rfl rfl (by kernel_rfl) (by decide) (by decide) (fun K hK => ?_) (fun K hK => ?_)
        ·skip
         refine load_ (.agg #[.string ((rd_T191 t504 a1_0).f0), .int .i64 ((rd_T191 t504 a1_0).f1), .int .i64 ((rd_T191 t504 a1_0).f2), .int .i64 ((rd_T191 t504 a1_0).f3), .bool ((rd_T191 t504 a1_0).f4), .bool ((rd_T191 t504 a1_0).f5), .bool ((rd_T191 t504 a1_0).f6)]) (by rfl) rfl (by go_simp <;> with_reducible rfl) ?_
         refine hK.out _ _ ⟨xvc BK501.out, xvc BK501.out, xvc BK501.out, xvc BK501.out, xvc BK501.out, xvc BK501.out, xvc BK501.out⟩ (fun hHeld => ?_)
         clear hK K
         refine norm_ (a' := ?_) ?_ ?_
         rotate_left
         ·show Act.put _ (some 20) _ = _
          simp only [Act.put, List.setIfInBounds_toArray, List.set_cons_zero, List.set_cons_succ, i64_w, i32_w]
          rfl
         clear hx507_0 hx507_1 hx507_2 hx507_3 hx507_4 hx507_5 hx507_6
         refine one_ (i := 5) (N := some 5) (zv_.bm 7 63) rfl rfl (by kernel_rfl) (by decide) (fun K hK => ?_)
         refine box_step ?hg (N := 5) ?hd (cs := #[.string (⟨#[]⟩ : ByteArray), .int .i64 0, .int .i64 0, .int .i64 0, .bool false, .bool false, .bool false]) (t := 191) ?hr ?_; (case hd => rfl); (case hg => rfl); (case hr => first | (go_simp; done) | (go_simp; rfl))
         intro gb508 hg w23 hbox hb
         have n0_ := Aside0.mk (Kd.R_below (Kd.R_elderB (xvr HO506.out) gb508 (Nat.le_of_eq hg.symm)) hb)
         have n1_ := Aside0.mk (xvl BK500.out hb)
         have n2_ := Aside0.mk (xvl BK501.out hb)
         have n3_ := Aside0.mk (below_step wv15 hb)
         have n4_ := Aside0.mk (hbox)
         have n5_ := Aside0.mk ((by rw [hg]; exact (below_size wv15) : w.heap.size ≤ gb508))
         have n6_ := Aside0.mk ((by rw [hg]; exact (below_size wv15) : w.heap.size ≤ gb508))
         have n7_ := Aside0.mk ((by rw [hg]; exact Nat.ne_of_lt (blk_lt (g := gb500) (o := .cells #[.int .i64 a0_0, .int .i64 a0_1] 31 (0, 0)) (xvb BK500.out)) : gb500 ≠ gb508))
         have n8_ := Aside0.mk ((by rw [hg]; exact Nat.ne_of_gt (blk_lt (g := gb500) (o := .cells #[.int .i64 a0_0, .int .i64 a0_1] 31 (0, 0)) (xvb BK500.out)) : gb508 ≠ gb500))
         have n9_ := Aside0.mk ((by rw [hg]; exact Nat.ne_of_lt (blk_lt (g := gb501) (o := .cells #[.int .i64 a1_0, .int .i64 a1_1, .int .i64 a1_2, .int .i64 a1_3, .int .i64 a1_4, .int .i64 a1_5, .slice none 0 0] 142 (0, 0)) (xvb BK501.out)) : gb501 ≠ gb508))
         have n10_ := Aside0.mk ((by rw [hg]; exact Nat.ne_of_gt (blk_lt (g := gb501) (o := .cells #[.int .i64 a1_0, .int .i64 a1_1, .int .i64 a1_2, .int .i64 a1_3, .int .i64 a1_4, .int .i64 a1_5, .slice none 0 0] 142 (0, 0)) (xvb BK501.out)) : gb508 ≠ gb501))
         clear HO506
         clear BK500
         clear BK501
         clear HB
         have HO506 := n0_
         have BK500 := n1_
         have BK501 := n2_
         have HB := n3_
         have BK508 := n4_
         have GW508 := n5_
         have GE508 := n6_
         have NB500_508 := n7_
         have NB508_500 := n8_
         have NB501_508 := n9_
         have NB508_501 := n10_
         clear n0_ n1_ n2_ n3_ n4_ n5_ n6_ n7_ n8_ n9_ n10_
         clear hb hbox hg
         refine hK.out _ _ ⟨xvc BK501.out, xvc BK501.out, xvc BK501.out, xvc BK501.out, xvc BK501.out, xvc BK501.out, xvc BK501.out⟩ (fun hHeld => ?_)
         clear hK K
         refine norm_ (a' := ?_) ?_ ?_
         rotate_left
         ·show Act.put _ (some 5) _ = _
          simp only [Act.put, List.setIfInBounds_toArray, List.set_cons_zero, List.set_cons_succ, i64_w, i32_w]
          rfl
         exact norm_ (by simp only [putAll, Act.put, List.setIfInBounds_toArray, List.set_cons_zero, List.set_cons_succ]) (hCont (.slice (some ad507) t504.length cw_, gb508, ad507.add ((a1_0).toNat * 7)) _ ⟨hHeld, wv61, (xvb BK500.out), (xvb BK501.out), (xvb BK508.out), GW508.out, GE508.out, NB500_508.out, NB508_500.out, NB501_508.out, NB508_501.out, wv9⟩)
        ·skip
         clear hx507_0 hx507_1 hx507_2 hx507_3 hx507_4 hx507_5 hx507_6
         refine box_step ?hg (N := 5) ?hd (cs := #[.string (⟨#[]⟩ : ByteArray), .int .i64 0, .int .i64 0, .int .i64 0, .bool false, .bool false, .bool false]) (t := 191) ?hr ?_; (case hd => rfl); (case hg => rfl); (case hr => first | (go_simp; done) | (go_simp; rfl))
         intro gb508 hg w23 hbox hb
         have n0_ := Aside0.mk (Kd.R_below (Kd.R_elderB (xvr HO506.out) gb508 (Nat.le_of_eq hg.symm)) hb)
         have n1_ := Aside0.mk (xvl BK500.out hb)
         have n2_ := Aside0.mk (xvl BK501.out hb)
         have n3_ := Aside0.mk (below_step wv15 hb)
         have n4_ := Aside0.mk (hbox)
         have n5_ := Aside0.mk ((by rw [hg]; exact (below_size wv15) : w.heap.size ≤ gb508))
         have n6_ := Aside0.mk ((by rw [hg]; exact (below_size wv15) : w.heap.size ≤ gb508))
         have n7_ := Aside0.mk ((by rw [hg]; exact Nat.ne_of_lt (blk_lt (g := gb500) (o := .cells #[.int .i64 a0_0, .int .i64 a0_1] 31 (0, 0)) (xvb BK500.out)) : gb500 ≠ gb508))
         have n8_ := Aside0.mk ((by rw [hg]; exact Nat.ne_of_gt (blk_lt (g := gb500) (o := .cells #[.int .i64 a0_0, .int .i64 a0_1] 31 (0, 0)) (xvb BK500.out)) : gb508 ≠ gb500))
         have n9_ := Aside0.mk ((by rw [hg]; exact Nat.ne_of_lt (blk_lt (g := gb501) (o := .cells #[.int .i64 a1_0, .int .i64 a1_1, .int .i64 a1_2, .int .i64 a1_3, .int .i64 a1_4, .int .i64 a1_5, .slice none 0 0] 142 (0, 0)) (xvb BK501.out)) : gb501 ≠ gb508))
         have n10_ := Aside0.mk ((by rw [hg]; exact Nat.ne_of_gt (blk_lt (g := gb501) (o := .cells #[.int .i64 a1_0, .int .i64 a1_1, .int .i64 a1_2, .int .i64 a1_3, .int .i64 a1_4, .int .i64 a1_5, .slice none 0 0] 142 (0, 0)) (xvb BK501.out)) : gb508 ≠ gb501))
         clear HO506
         clear BK500
         clear BK501
         clear HB
         have HO506 := n0_
         have BK500 := n1_
         have BK501 := n2_
         have HB := n3_
         have BK508 := n4_
         have GW508 := n5_
         have GE508 := n6_
         have NB500_508 := n7_
         have NB508_500 := n8_
         have NB501_508 := n9_
         have NB508_501 := n10_
         clear n0_ n1_ n2_ n3_ n4_ n5_ n6_ n7_ n8_ n9_ n10_
         clear hb hbox hg
         refine hK.out _ _ ⟨xvc BK501.out, xvc BK501.out, xvc BK501.out, xvc BK501.out, xvc BK501.out, xvc BK501.out, xvc BK501.out⟩ (fun hHeld => ?_)
         clear hK K
         refine norm_ (a' := ?_) ?_ ?_
         rotate_left
         ·show Act.put _ (some 5) _ = _
          simp only [Act.put, List.setIfInBounds_toArray, List.set_cons_zero, List.set_cons_succ, i64_w, i32_w]
          rfl
         have pw2_ : 0 ≤ (a1_0 : Int) := of_eq_true pw_
         have qw2_ : a1_0 < (t504.length : Int) := of_eq_true qw_
         obtain ⟨ax_, ew_, hx507_0, hx507_1, hx507_2, hx507_3, hx507_4, hx507_5, hx507_6⟩ := at_T191 (Kd.R_reads' HO506.out).2.2 a1_0 pw2_ qw2_
         cases ew_
         clear pw2_ qw2_
         refine one_ (i := 4) (N := some 20) (zv_.bm 7 63) rfl rfl (by kernel_rfl) (by decide) (fun K hK => ?_)
         refine load_ (.agg #[.string ((rd_T191 t504 a1_0).f0), .int .i64 ((rd_T191 t504 a1_0).f1), .int .i64 ((rd_T191 t504 a1_0).f2), .int .i64 ((rd_T191 t504 a1_0).f3), .bool ((rd_T191 t504 a1_0).f4), .bool ((rd_T191 t504 a1_0).f5), .bool ((rd_T191 t504 a1_0).f6)]) (by rfl) rfl (by go_simp <;> with_reducible rfl) ?_
         refine hK.out _ _ ⟨xvc BK501.out, xvc BK501.out, xvc BK501.out, xvc BK501.out, xvc BK501.out, xvc BK501.out, xvc BK501.out⟩ (fun hHeld => ?_)
         clear hK K
         refine norm_ (a' := ?_) ?_ ?_
         rotate_left
         ·show Act.put _ (some 20) _ = _
          simp only [Act.put, List.setIfInBounds_toArray, List.set_cons_zero, List.set_cons_succ, i64_w, i32_w]
          rfl
         exact norm_ (by simp only [putAll, Act.put, List.setIfInBounds_toArray, List.set_cons_zero, List.set_cons_succ]) (hCont (.slice (some ad507) t504.length cw_, gb508, ad507.add ((a1_0).toNat * 7)) _ ⟨hHeld, wv61, (xvb BK500.out), (xvb BK501.out), (xvb BK508.out), GW508.out, GE508.out, NB500_508.out, NB508_500.out, NB501_508.out, NB508_501.out, wv9⟩)
       ·skip
        refine box_step ?hg (N := 5) ?hd (cs := #[.string (⟨#[]⟩ : ByteArray), .int .i64 0, .int .i64 0, .int .i64 0, .bool false, .bool false, .bool false]) (t := 191) ?hr ?_; (case hd => rfl); (case hg => rfl); (case hr => first | (go_simp; done) | (go_simp; rfl))
        intro gb508 hg w22 hbox hb
        have n0_ := Aside0.mk (xvl BK500.out hb)
        have n1_ := Aside0.mk (xvl BK501.out hb)
        have n2_ := Aside0.mk (below_step wv15 hb)
        have n3_ := Aside0.mk (hbox)
        have n4_ := Aside0.mk ((by rw [hg]; exact (below_size wv15) : w.heap.size ≤ gb508))
        have n5_ := Aside0.mk ((by rw [hg]; exact (below_size wv15) : w.heap.size ≤ gb508))
        have n6_ := Aside0.mk ((by rw [hg]; exact Nat.ne_of_lt (blk_lt (g := gb500) (o := .cells #[.int .i64 a0_0, .int .i64 a0_1] 31 (0, 0)) (xvb BK500.out)) : gb500 ≠ gb508))
        have n7_ := Aside0.mk ((by rw [hg]; exact Nat.ne_of_gt (blk_lt (g := gb500) (o := .cells #[.int .i64 a0_0, .int .i64 a0_1] 31 (0, 0)) (xvb BK500.out)) : gb508 ≠ gb500))
        have n8_ := Aside0.mk ((by rw [hg]; exact Nat.ne_of_lt (blk_lt (g := gb501) (o := .cells #[.int .i64 a1_0, .int .i64 a1_1, .int .i64 a1_2, .int .i64 a1_3, .int .i64 a1_4, .int .i64 a1_5, .slice none 0 0] 142 (0, 0)) (xvb BK501.out)) : gb501 ≠ gb508))
        have n9_ := Aside0.mk ((by rw [hg]; exact Nat.ne_of_gt (blk_lt (g := gb501) (o := .cells #[.int .i64 a1_0, .int .i64 a1_1, .int .i64 a1_2, .int .i64 a1_3, .int .i64 a1_4, .int .i64 a1_5, .slice none 0 0] 142 (0, 0)) (xvb BK501.out)) : gb508 ≠ gb501))
        clear BK500
        clear BK501
        clear HB
        have BK500 := n0_
        have BK501 := n1_
        have HB := n2_
        have BK508 := n3_
        have GW508 := n4_
        have GE508 := n5_
        have NB500_508 := n6_
        have NB508_500 := n7_
        have NB501_508 := n8_
        have NB508_501 := n9_
        clear n0_ n1_ n2_ n3_ n4_ n5_ n6_ n7_ n8_ n9_
        clear hb hbox hg
        refine hK.out _ _ ⟨xvc BK501.out, xvc BK501.out, xvc BK501.out, xvc BK501.out, xvc BK501.out, xvc BK501.out, xvc BK501.out⟩ (fun hHeld => ?_)
        clear hK K
        refine norm_ (a' := ?_) ?_ ?_
        rotate_left
        ·show Act.put _ (some 5) _ = _
         simp only [Act.put, List.setIfInBounds_toArray, List.set_cons_zero, List.set_cons_succ, i64_w, i32_w]
         rfl
        refine one_ (i := 0) (N := some 16) (zv_.bm 7 39) rfl rfl (by kernel_rfl) (by decide) (fun K hK => ?_)
        refine goes_ Try.func221 (by kernel_rfl) rfl #[] (by rfl) rfl rfl wv1 ?_
        with_reducible refine (impl_shapes.calls  t504 _ A17.out).mono ?_
        rintro e w23 ⟨v505, rfl, ho0, hb⟩
        refine ⟨_, rfl, ?_⟩
        have n0_ := Aside0.mk (Kd.R_lower (Kd.R_newB ho0 (g := gb508) (o := .cells #[.string (⟨#[]⟩ : ByteArray), .int .i64 0, .int .i64 0, .int .i64 0, .bool false, .bool false, .bool false] 191 (0, 0)) (xvb BK508.out)) (below_size wv9))
        have n1_ := Aside0.mk (xvl BK500.out hb)
        have n2_ := Aside0.mk (xvl BK501.out hb)
        have n3_ := Aside0.mk (xvl BK508.out hb)
        have n4_ := Aside0.mk (below_step wv9 hb)
        clear BK500
        clear BK501
        clear BK508
        clear HB
        have HO506 := n0_
        have BK500 := n1_
        have BK501 := n2_
        have BK508 := n3_
        have HB := n4_
        clear n0_ n1_ n2_ n3_ n4_
        (try clear hb)
        (try clear hb2)
        (try clear hk)
        (try clear hi)
        (try clear ho0)
        refine hK.out _ _ ⟨xvc BK501.out, xvc BK501.out, xvc BK501.out, xvc BK501.out, xvc BK501.out, xvc BK501.out, xvc BK501.out⟩ (fun hHeld => ?_)
        clear hK K
        refine norm_ (a' := ?_) ?_ ?_
        rotate_left
        ·show Act.put _ (some 16) _ = _
         simp only [Act.put, List.setIfInBounds_toArray, List.set_cons_zero, List.set_cons_succ, i64_w, i32_w]
         rfl
        obtain ⟨Aw_, cw_, ew_⟩ := Kd.R_slice HO506.out
        subst ew_
        have pw_ : 0 ≤ (a1_0 : Int) := of_decide_eq_true wv46
        have qw_ : a1_0 < (t504.length : Int) := of_decide_eq_true wv46
        obtain ⟨ad507, ew_, hx507_0, hx507_1, hx507_2, hx507_3, hx507_4, hx507_5, hx507_6⟩ := at_T191 (Kd.R_reads' HO506.out).2.2 a1_0 pw_ qw_
        cases ew_
        replace pw_ := eq_true pw_
        replace qw_ := eq_true qw_
        refine pure_ (i := 3) (N := some 19) (v := ?_) (a' := ?_) (zv_.bm 7 47) rfl rfl (by kernel_rfl) (fun _ _ _ h => h) (Or.inl ⟨(by rfl), ?_⟩) ?_ ?_
        rotate_left
        ·intro w'
         go_simp
         with_reducible rfl
        rotate_left
        ·simp only [Act.put, List.setIfInBounds_toArray, List.set_cons_zero, List.set_cons_succ, i64_w, i32_w]
         rfl
        refine one_ (i := 4) (N := some 20) (zv_.bm 7 63) rfl rfl (by kernel_rfl) (by decide) (fun K hK => ?_)
        refine load_ (.agg #[.string ((rd_T191 t504 a1_0).f0), .int .i64 ((rd_T191 t504 a1_0).f1), .int .i64 ((rd_T191 t504 a1_0).f2), .int .i64 ((rd_T191 t504 a1_0).f3), .bool ((rd_T191 t504 a1_0).f4), .bool ((rd_T191 t504 a1_0).f5), .bool ((rd_T191 t504 a1_0).f6)]) (by rfl) rfl (by go_simp <;> with_reducible rfl) ?_
        refine hK.out _ _ ⟨xvc BK501.out, xvc BK501.out, xvc BK501.out, xvc BK501.out, xvc BK501.out, xvc BK501.out, xvc BK501.out⟩ (fun hHeld => ?_)
        clear hK K
        refine norm_ (a' := ?_) ?_ ?_
        rotate_left
        ·show Act.put _ (some 20) _ = _
         simp only [Act.put, List.setIfInBounds_toArray, List.set_cons_zero, List.set_cons_succ, i64_w, i32_w]
         rfl
        exact norm_ (by simp only [putAll, Act.put, List.setIfInBounds_toArray, List.set_cons_zero, List.set_cons_succ]) (hCont (.slice (some ad507) t504.length cw_, gb508, ad507.add ((a1_0).toNat * 7)) _ ⟨hHeld, wv61, (xvb BK500.out), (xvb BK501.out), (xvb BK508.out), GW508.out, GE508.out, NB500_508.out, NB508_500.out, NB501_508.out, NB508_501.out, wv9⟩)
      rintro ⟨v505, gb508, pel_⟩ w24 ⟨hS_, h0_, h1_, h2_, h3_, h4_, h5_, h6_, h7_, h8_, h9_, h10_⟩
      have n0_ : Aside0 (Kd.R k191 191 w24 w.heap.size (fun k_ => k_ ≠ gb508) v505 t504) := ⟨h0_⟩
      have n1_ : Aside0 (w24.heap[gb500]? = some (.cells #[.int .i64 a0_0, .int .i64 a0_1] 31 (0, 0))) := ⟨h1_⟩
      have n2_ : Aside0 (w24.heap[gb501]? = some (.cells #[.int .i64 a1_0, .int .i64 a1_1, .int .i64 a1_2, .int .i64 a1_3, .int .i64 a1_4, .int .i64 a1_5, .slice none 0 0] 142 (0, 0))) := ⟨h2_⟩
      have n3_ : Aside0 (w24.heap[gb508]? = some (.cells #[.string (⟨#[]⟩ : ByteArray), .int .i64 0, .int .i64 0, .int .i64 0, .bool false, .bool false, .bool false] 191 (0, 0))) := ⟨h3_⟩
      have n4_ : Aside0 (w.heap.size ≤ gb508) := ⟨h4_⟩
      have n5_ : Aside0 (w.heap.size ≤ gb508) := ⟨h5_⟩
      have n6_ : Aside0 (gb500 ≠ gb508) := ⟨h6_⟩
      have n7_ : Aside0 (gb508 ≠ gb500) := ⟨h7_⟩
      have n8_ : Aside0 (gb501 ≠ gb508) := ⟨h8_⟩
      have n9_ : Aside0 (gb508 ≠ gb501) := ⟨h9_⟩
      have n10_ : Aside0 (Below w.heap.size w w24) := ⟨h10_⟩
      clear BK500
      clear BK501
      clear HB
      clear h0_ h1_ h2_ h3_ h4_ h5_ h6_ h7_ h8_ h9_ h10_
      have HO506 := n0_
      have BK500 := n1_
      have BK501 := n2_
      have BK508 := n3_
      have GW508 := n4_
      have GE508 := n5_
      have NB500_508 := n6_
      have NB508_500 := n7_
      have NB501_508 := n8_
      have NB508_501 := n9_
      have HB := n10_
      clear n0_ n1_ n2_ n3_ n4_ n5_ n6_ n7_ n8_ n9_ n10_
      have hHeld : w24.cell? ⟨gb501, 0, none⟩ = some (.int .i64 a1_0) ∧ w24.cell? ⟨gb501, 1, none⟩ = some (.int .i64 a1_1) ∧ w24.cell? ⟨gb501, 2, none⟩ = some (.int .i64 a1_2) ∧ w24.cell? ⟨gb501, 3, none⟩ = some (.int .i64 a1_3) ∧ w24.cell? ⟨gb501, 4, none⟩ = some (.int .i64 a1_4) ∧ w24.cell? ⟨gb501, 5, none⟩ = some (.int .i64 a1_5) ∧ w24.cell? ⟨gb501, 6, none⟩ = some (.slice none 0 0) := hS_
      obtain ⟨Ao25, co25, eo25⟩ := Kd.R_slice HO506.out
      (first | subst eo25 | (injection eo25 with f1_ f2_ f3_; have f4_ := f1_.symm; have f5_ := f3_.symm; clear f1_ f2_ f3_; subst f4_; subst f5_))
      have p507 : 0 ≤ (a1_0 : Int) := of_decide_eq_true wv46
      have q507 : a1_0 < (t504.length : Int) := of_decide_eq_true wv46
      obtain ⟨ad507, e507, hx507_0, hx507_1, hx507_2, hx507_3, hx507_4, hx507_5, hx507_6⟩ := at_T191 (Kd.R_reads' HO506.out).2.2 a1_0 p507 q507
      cases e507
      replace p507 := eq_true p507
      replace q507 := eq_true q507
      refine norm_ (a' := ?_) ?_ ?_
      rotate_left
      ·simp only [putAll, Act.put, List.setIfInBounds_toArray, List.set_cons_zero, List.set_cons_succ]
       rfl
      refine one_ (i := 6) (N := none) (zv_.bm 7 127) rfl rfl (by kernel_rfl) (by decide) (fun K hK => ?_)
      have hs26 : w24.cell? ⟨gb508, 0, none⟩ = some (.string (⟨#[]⟩ : ByteArray)) := xvc BK508.out
      have hfs26 := blk_frozen BK508.out 0
      have hns26_0 := NB500_508.out
      have hns26_1 := NB501_508.out
      have hms26_0 := NB508_500.out
      have hms26_1 := NB508_501.out
      have hs27 : w24.cell? ⟨gb508, 1, none⟩ = some (.int .i64 0) := xvc BK508.out
      have hfs27 := blk_frozen BK508.out 1
      have hns27_0 := NB500_508.out
      have hns27_1 := NB501_508.out
      have hms27_0 := NB508_500.out
      have hms27_1 := NB508_501.out
      have hs28 : w24.cell? ⟨gb508, 2, none⟩ = some (.int .i64 0) := xvc BK508.out
      have hfs28 := blk_frozen BK508.out 2
      have hns28_0 := NB500_508.out
      have hns28_1 := NB501_508.out
      have hms28_0 := NB508_500.out
      have hms28_1 := NB508_501.out
      have hs29 : w24.cell? ⟨gb508, 3, none⟩ = some (.int .i64 0) := xvc BK508.out
      have hfs29 := blk_frozen BK508.out 3
      have hns29_0 := NB500_508.out
      have hns29_1 := NB501_508.out
      have hms29_0 := NB508_500.out
      have hms29_1 := NB508_501.out
      have hs30 : w24.cell? ⟨gb508, 4, none⟩ = some (.bool false) := xvc BK508.out
      have hfs30 := blk_frozen BK508.out 4
      have hns30_0 := NB500_508.out
      have hns30_1 := NB501_508.out
      have hms30_0 := NB508_500.out
      have hms30_1 := NB508_501.out
      have hs31 : w24.cell? ⟨gb508, 5, none⟩ = some (.bool false) := xvc BK508.out
      have hfs31 := blk_frozen BK508.out 5
      have hns31_0 := NB500_508.out
      have hns31_1 := NB501_508.out
      have hms31_0 := NB508_500.out
      have hms31_1 := NB508_501.out
      have hs32 : w24.cell? ⟨gb508, 6, none⟩ = some (.bool false) := xvc BK508.out
      have hfs32 := blk_frozen BK508.out 6
      have hns32_0 := NB500_508.out
      have hns32_1 := NB501_508.out
      have hms32_0 := NB508_500.out
      have hms32_1 := NB508_501.out
      refine skip_ (w1 := ?_) (by rfl) rfl ?_ ?_
      rotate_left
      ·go_simp
       rfl
      refine hK.out _ _ ⟨((cell_far (p := ⟨gb508, _, none⟩) NB501_508.out _).trans (((cell_far (p := ⟨gb508, _, none⟩) NB501_508.out _).trans (((cell_far (p := ⟨gb508, _, none⟩) NB501_508.out _).trans (((cell_far (p := ⟨gb508, _, none⟩) NB501_508.out _).trans (((cell_far (p := ⟨gb508, _, none⟩) NB501_508.out _).trans (((cell_far (p := ⟨gb508, _, none⟩) NB501_508.out _).trans (((cell_far (p := ⟨gb508, _, none⟩) NB501_508.out _).trans (hHeld.1)))))))))))))), ((cell_far (p := ⟨gb508, _, none⟩) NB501_508.out _).trans (((cell_far (p := ⟨gb508, _, none⟩) NB501_508.out _).trans (((cell_far (p := ⟨gb508, _, none⟩) NB501_508.out _).trans (((cell_far (p := ⟨gb508, _, none⟩) NB501_508.out _).trans (((cell_far (p := ⟨gb508, _, none⟩) NB501_508.out _).trans (((cell_far (p := ⟨gb508, _, none⟩) NB501_508.out _).trans (((cell_far (p := ⟨gb508, _, none⟩) NB501_508.out _).trans (hHeld.2.1)))))))))))))), ((cell_far (p := ⟨gb508, _, none⟩) NB501_508.out _).trans (((cell_far (p := ⟨gb508, _, none⟩) NB501_508.out _).trans (((cell_far (p := ⟨gb508, _, none⟩) NB501_508.out _).trans (((cell_far (p := ⟨gb508, _, none⟩) NB501_508.out _).trans (((cell_far (p := ⟨gb508, _, none⟩) NB501_508.out _).trans (((cell_far (p := ⟨gb508, _, none⟩) NB501_508.out _).trans (((cell_far (p := ⟨gb508, _, none⟩) NB501_508.out _).trans (hHeld.2.2.1)))))))))))))), ((cell_far (p := ⟨gb508, _, none⟩) NB501_508.out _).trans (((cell_far (p := ⟨gb508, _, none⟩) NB501_508.out _).trans (((cell_far (p := ⟨gb508, _, none⟩) NB501_508.out _).trans (((cell_far (p := ⟨gb508, _, none⟩) NB501_508.out _).trans (((cell_far (p := ⟨gb508, _, none⟩) NB501_508.out _).trans (((cell_far (p := ⟨gb508, _, none⟩) NB501_508.out _).trans (((cell_far (p := ⟨gb508, _, none⟩) NB501_508.out _).trans (hHeld.2.2.2.1)))))))))))))), ((cell_far (p := ⟨gb508, _, none⟩) NB501_508.out _).trans (((cell_far (p := ⟨gb508, _, none⟩) NB501_508.out _).trans (((cell_far (p := ⟨gb508, _, none⟩) NB501_508.out _).trans (((cell_far (p := ⟨gb508, _, none⟩) NB501_508.out _).trans (((cell_far (p := ⟨gb508, _, none⟩) NB501_508.out _).trans (((cell_far (p := ⟨gb508, _, none⟩) NB501_508.out _).trans (((cell_far (p := ⟨gb508, _, none⟩) NB501_508.out _).trans (hHeld.2.2.2.2.1)))))))))))))), ((cell_far (p := ⟨gb508, _, none⟩) NB501_508.out _).trans (((cell_far (p := ⟨gb508, _, none⟩) NB501_508.out _).trans (((cell_far (p := ⟨gb508, _, none⟩) NB501_508.out _).trans (((cell_far (p := ⟨gb508, _, none⟩) NB501_508.out _).trans (((cell_far (p := ⟨gb508, _, none⟩) NB501_508.out _).trans (((cell_far (p := ⟨gb508, _, none⟩) NB501_508.out _).trans (((cell_far (p := ⟨gb508, _, none⟩) NB501_508.out _).trans (hHeld.2.2.2.2.2.1)))))))))))))), ((cell_far (p := ⟨gb508, _, none⟩) NB501_508.out _).trans (((cell_far (p := ⟨gb508, _, none⟩) NB501_508.out _).trans (((cell_far (p := ⟨gb508, _, none⟩) NB501_508.out _).trans (((cell_far (p := ⟨gb508, _, none⟩) NB501_508.out _).trans (((cell_far (p := ⟨gb508, _, none⟩) NB501_508.out _).trans (((cell_far (p := ⟨gb508, _, none⟩) NB501_508.out _).trans (((cell_far (p := ⟨gb508, _, none⟩) NB501_508.out _).trans (hHeld.2.2.2.2.2.2))))))))))))))⟩ (fun hHeld => ?_)
      clear hK K
      refine done_ (by kernel_rfl) ?_
      go_upto_region 4 with (fail)
      go_cut [6] (fun v6 wc => ∃ (kq : Nat) (x6_19 : Bool), v6 = .bool x6_19 ∧ Aside0 (impl_ValidInstr.j1 kq x6_19 a0_0 a0_1 a1_0 a1_1 a1_2 a1_3 a1_4 a1_5 a1_6 ((rd_T191 t504 a1_0).f0) ((rd_T191 t504 a1_0).f1) ((rd_T191 t504 a1_0).f2) ((rd_T191 t504 a1_0).f3) ((rd_T191 t504 a1_0).f4) ((rd_T191 t504 a1_0).f5) ((rd_T191 t504 a1_0).f6) = some r) ∧ Aside0 (kq ≤ kj2) ∧ Aside0 (wc.heap[gb500]? = some (.cells #[.int .i64 a0_0, .int .i64 a0_1] 31 (0, 0))) ∧ Aside0 (wc.heap[gb501]? = some (.cells #[.int .i64 a1_0, .int .i64 a1_1, .int .i64 a1_2, .int .i64 a1_3, .int .i64 a1_4, .int .i64 a1_5, .slice none 0 0] 142 (0, 0))) ∧ Aside0 (wc.heap[gb508]? = some (.cells #[.string ((rd_T191 t504 a1_0).f0), .int .i64 ((rd_T191 t504 a1_0).f1), .int .i64 ((rd_T191 t504 a1_0).f2), .int .i64 ((rd_T191 t504 a1_0).f3), .bool ((rd_T191 t504 a1_0).f4), .bool ((rd_T191 t504 a1_0).f5), .bool ((rd_T191 t504 a1_0).f6)] 191 (0, 0))) ∧ Aside0 (Below w.heap.size w wc))
      case first =>
       have H := HC20.out
       clear HC20
       by_cases c33 : a1_4 = (-1)
       ·rw [if_pos c33] at H
        have c33b0 : (a1_4 == (-1)) = true := beq_iff_eq.mpr c33
        have c33b1 : (a1_4 != (-1)) = false := bne_eq_false_iff_eq.mpr c33
        clear c33
        (first | rw [c33b0] | (simp only [i64_w, i32_w]; rw [c33b0]) | skip)
        obtain ⟨bq34, hbq34⟩ : ∃ b_ : Bool, b_ = ((rd_T191 t504 a1_0).f5) := ⟨_, rfl⟩
        replace H : (if (bq34 = true) then (if (rd_T191 t504 a1_0).f4 = true then ((impl_isMaskNumber.f a1_4).bind fun t509 => (impl_ValidInstr.j1 kj2 t509 a0_0 a0_1 a1_0 a1_1 a1_2 a1_3 a1_4 a1_5 a1_6 ((rd_T191 t504 a1_0).f0) ((rd_T191 t504 a1_0).f1) ((rd_T191 t504 a1_0).f2) ((rd_T191 t504 a1_0).f3) ((rd_T191 t504 a1_0).f4) bq34 ((rd_T191 t504 a1_0).f6))) else (impl_ValidInstr.j1 kj2 false a0_0 a0_1 a1_0 a1_1 a1_2 a1_3 a1_4 a1_5 a1_6 ((rd_T191 t504 a1_0).f0) ((rd_T191 t504 a1_0).f1) ((rd_T191 t504 a1_0).f2) ((rd_T191 t504 a1_0).f3) ((rd_T191 t504 a1_0).f4) bq34 ((rd_T191 t504 a1_0).f6))) else (impl_ValidInstr.j1 kj2 true a0_0 a0_1 a1_0 a1_1 a1_2 a1_3 a1_4 a1_5 a1_6 ((rd_T191 t504 a1_0).f0) ((rd_T191 t504 a1_0).f1) ((rd_T191 t504 a1_0).f2) ((rd_T191 t504 a1_0).f3) ((rd_T191 t504 a1_0).f4) bq34 ((rd_T191 t504 a1_0).f6))) = some r := by rw [← hbq34] at H; exact H
        have Nbq34 := Aside0.mk hbq34
        (try rw [← hbq34])
        clear hbq34
        by_cases c35 : (bq34 = true)
        ·subst c35
         have H1 : (if (rd_T191 t504 a1_0).f4 = true then ((impl_isMaskNumber.f a1_4).bind fun t509 => (impl_ValidInstr.j1 kj2 t509 a0_0 a0_1 a1_0 a1_1 a1_2 a1_3 a1_4 a1_5 a1_6 ((rd_T191 t504 a1_0).f0) ((rd_T191 t504 a1_0).f1) ((rd_T191 t504 a1_0).f2) ((rd_T191 t504 a1_0).f3) ((rd_T191 t504 a1_0).f4) true ((rd_T191 t504 a1_0).f6))) else (impl_ValidInstr.j1 kj2 false a0_0 a0_1 a1_0 a1_1 a1_2 a1_3 a1_4 a1_5 a1_6 ((rd_T191 t504 a1_0).f0) ((rd_T191 t504 a1_0).f1) ((rd_T191 t504 a1_0).f2) ((rd_T191 t504 a1_0).f3) ((rd_T191 t504 a1_0).f4) true ((rd_T191 t504 a1_0).f6))) = some r := by rw [if_pos rfl] at H; exact H
         clear H
         have H := H1
         clear H1
         obtain ⟨bq36, hbq36⟩ : ∃ b_ : Bool, b_ = ((rd_T191 t504 a1_0).f4) := ⟨_, rfl⟩
         replace H : (if bq36 = true then ((impl_isMaskNumber.f a1_4).bind fun t509 => (impl_ValidInstr.j1 kj2 t509 a0_0 a0_1 a1_0 a1_1 a1_2 a1_3 a1_4 a1_5 a1_6 ((rd_T191 t504 a1_0).f0) ((rd_T191 t504 a1_0).f1) ((rd_T191 t504 a1_0).f2) ((rd_T191 t504 a1_0).f3) bq36 true ((rd_T191 t504 a1_0).f6))) else (impl_ValidInstr.j1 kj2 false a0_0 a0_1 a1_0 a1_1 a1_2 a1_3 a1_4 a1_5 a1_6 ((rd_T191 t504 a1_0).f0) ((rd_T191 t504 a1_0).f1) ((rd_T191 t504 a1_0).f2) ((rd_T191 t504 a1_0).f3) bq36 true ((rd_T191 t504 a1_0).f6))) = some r := by rw [← hbq36] at H; exact H
         have Nbq36 := Aside0.mk hbq36
         (try rw [← hbq36])
         clear hbq36
         by_cases c37 : bq36 = true
         ·subst c37
          have H1 : ((impl_isMaskNumber.f a1_4).bind fun t509 => (impl_ValidInstr.j1 kj2 t509 a0_0 a0_1 a1_0 a1_1 a1_2 a1_3 a1_4 a1_5 a1_6 ((rd_T191 t504 a1_0).f0) ((rd_T191 t504 a1_0).f1) ((rd_T191 t504 a1_0).f2) ((rd_T191 t504 a1_0).f3) true true ((rd_T191 t504 a1_0).f6))) = some r := by rw [if_pos rfl] at H; exact H
          clear H
          have H := H1
          clear H1
          replace H := Option.bind_eq_some_iff.mp H
          obtain ⟨t509, A380, H⟩ := H
          replace H : (impl_ValidInstr.j1 kj2 t509 a0_0 a0_1 a1_0 a1_1 a1_2 a1_3 a1_4 a1_5 a1_6 ((rd_T191 t504 a1_0).f0) ((rd_T191 t504 a1_0).f1) ((rd_T191 t504 a1_0).f2) ((rd_T191 t504 a1_0).f3) true true ((rd_T191 t504 a1_0).f6)) = some r := H
          have A38 := Aside0.mk A380
          clear A380
          have H' := Aside0.mk H
          clear H
          have hnb39 := NB501_500.out
          have hnc39 := NB500_501.out
          have hnb40 := NB501_508.out
          have hnc40 := NB508_501.out
          have hcz41_0 : w24.cell? ⟨gb501, 0, none⟩ = some (.int .i64 a1_0) := xvc BK501.out
          have hcz41_1 : w24.cell? ⟨gb501, 1, none⟩ = some (.int .i64 a1_1) := xvc BK501.out
          have hcz41_2 : w24.cell? ⟨gb501, 2, none⟩ = some (.int .i64 a1_2) := xvc BK501.out
          have hcz41_3 : w24.cell? ⟨gb501, 3, none⟩ = some (.int .i64 a1_3) := xvc BK501.out
          have hcz41_4 : w24.cell? ⟨gb501, 4, none⟩ = some (.int .i64 a1_4) := xvc BK501.out
          have hcz41_5 : w24.cell? ⟨gb501, 5, none⟩ = some (.int .i64 a1_5) := xvc BK501.out
          have hcz41_6 : w24.cell? ⟨gb501, 6, none⟩ = some (.slice none 0 0) := xvc BK501.out
          have hfz41_0 := blk_frozen BK501.out 0
          have hfz41_1 := blk_frozen BK501.out 1
          have hfz41_2 := blk_frozen BK501.out 2
          have hfz41_3 := blk_frozen BK501.out 3
          have hfz41_4 := blk_frozen BK501.out 4
          have hfz41_5 := blk_frozen BK501.out 5
          have hfz41_6 := blk_frozen BK501.out 6
          have hnb42 := NB508_500.out
          have hnc42 := NB500_508.out
          have hcz43_0 : w24.cell? ⟨gb508, 0, none⟩ = some (.string (⟨#[]⟩ : ByteArray)) := xvc BK508.out
          have hcz43_1 : w24.cell? ⟨gb508, 1, none⟩ = some (.int .i64 0) := xvc BK508.out
          have hcz43_2 : w24.cell? ⟨gb508, 2, none⟩ = some (.int .i64 0) := xvc BK508.out
          have hcz43_3 : w24.cell? ⟨gb508, 3, none⟩ = some (.int .i64 0) := xvc BK508.out
          have hcz43_4 : w24.cell? ⟨gb508, 4, none⟩ = some (.bool false) := xvc BK508.out
          have hcz43_5 : w24.cell? ⟨gb508, 5, none⟩ = some (.bool false) := xvc BK508.out
          have hcz43_6 : w24.cell? ⟨gb508, 6, none⟩ = some (.bool false) := xvc BK508.out
          have hfz43_0 := blk_frozen BK508.out 0
          have hfz43_1 := blk_frozen BK508.out 1
          have hfz43_2 := blk_frozen BK508.out 2
          have hfz43_3 := blk_frozen BK508.out 3
          have hfz43_4 := blk_frozen BK508.out 4
          have hfz43_5 := blk_frozen BK508.out 5
          have hfz43_6 := blk_frozen BK508.out 6
          go_wp2_with (first | (go_at_call 222; (with_reducible refine (impl_isMaskNumber.calls a1_4 t509 _ A38.out).mono ?_); rintro e w' ⟨rfl, ⟨nd, rfl⟩⟩))
          go_meet
          case rel => (try rw [← Nbq34.out]); (try rw [← Nbq36.out]); exact ⟨_, (t509), wv6, H', ⟨wv43⟩, ⟨(xvq BK500.out NB500_508.out)⟩, ⟨(xvq BK501.out NB501_508.out)⟩, ⟨(by (with_reducible repeat (first | refine blk_drewN ?_ _ | refine blk_drew ?_ | refine blk_alloc ?_ _)); refine blk_put (cs := #[.string ((rd_T191 t504 a1_0).f0), .int .i64 ((rd_T191 t504 a1_0).f1), .int .i64 ((rd_T191 t504 a1_0).f2), .int .i64 ((rd_T191 t504 a1_0).f3), .bool (true), .bool (true), .bool false]) ?_ 6 _ rfl; (with_reducible repeat (first | refine blk_drewN ?_ _ | refine blk_drew ?_ | refine blk_alloc ?_ _)); refine blk_put (cs := #[.string ((rd_T191 t504 a1_0).f0), .int .i64 ((rd_T191 t504 a1_0).f1), .int .i64 ((rd_T191 t504 a1_0).f2), .int .i64 ((rd_T191 t504 a1_0).f3), .bool (true), .bool false, .bool false]) ?_ 5 _ rfl; (with_reducible repeat (first | refine blk_drewN ?_ _ | refine blk_drew ?_ | refine blk_alloc ?_ _)); refine blk_put (cs := #[.string ((rd_T191 t504 a1_0).f0), .int .i64 ((rd_T191 t504 a1_0).f1), .int .i64 ((rd_T191 t504 a1_0).f2), .int .i64 ((rd_T191 t504 a1_0).f3), .bool false, .bool false, .bool false]) ?_ 4 _ rfl; (with_reducible repeat (first | refine blk_drewN ?_ _ | refine blk_drew ?_ | refine blk_alloc ?_ _)); refine blk_put (cs := #[.string ((rd_T191 t504 a1_0).f0), .int .i64 ((rd_T191 t504 a1_0).f1), .int .i64 ((rd_T191 t504 a1_0).f2), .int .i64 0, .bool false, .bool false, .bool false]) ?_ 3 _ rfl; (with_reducible repeat (first | refine blk_drewN ?_ _ | refine blk_drew ?_ | refine blk_alloc ?_ _)); refine blk_put (cs := #[.string ((rd_T191 t504 a1_0).f0), .int .i64 ((rd_T191 t504 a1_0).f1), .int .i64 0, .int .i64 0, .bool false, .bool false, .bool false]) ?_ 2 _ rfl; (with_reducible repeat (first | refine blk_drewN ?_ _ | refine blk_drew ?_ | refine blk_alloc ?_ _)); refine blk_put (cs := #[.string ((rd_T191 t504 a1_0).f0), .int .i64 0, .int .i64 0, .int .i64 0, .bool false, .bool false, .bool false]) ?_ 1 _ rfl; (with_reducible repeat (first | refine blk_drewN ?_ _ | refine blk_drew ?_ | refine blk_alloc ?_ _)); refine blk_put (cs := #[.string (⟨#[]⟩ : ByteArray), .int .i64 0, .int .i64 0, .int .i64 0, .bool false, .bool false, .bool false]) ?_ 0 _ rfl; (with_reducible repeat (first | refine blk_drewN ?_ _ | refine blk_drew ?_ | refine blk_alloc ?_ _)); exact BK508.out)⟩, ⟨wv9⟩⟩
         ·replace c37 := Bool.eq_false_iff.mpr c37
          subst c37
          have H1 : (impl_ValidInstr.j1 kj2 false a0_0 a0_1 a1_0 a1_1 a1_2 a1_3 a1_4 a1_5 a1_6 ((rd_T191 t504 a1_0).f0) ((rd_T191 t504 a1_0).f1) ((rd_T191 t504 a1_0).f2) ((rd_T191 t504 a1_0).f3) false true ((rd_T191 t504 a1_0).f6)) = some r := by rw [if_neg (show ¬ (false = true) by decide)] at H; exact H
          clear H
          have H := H1
          clear H1
          have H' := Aside0.mk H
          clear H
          have hnb44 := NB501_500.out
          have hnc44 := NB500_501.out
          have hnb45 := NB501_508.out
          have hnc45 := NB508_501.out
          have hcz46_0 : w24.cell? ⟨gb501, 0, none⟩ = some (.int .i64 a1_0) := xvc BK501.out
          have hcz46_1 : w24.cell? ⟨gb501, 1, none⟩ = some (.int .i64 a1_1) := xvc BK501.out
          have hcz46_2 : w24.cell? ⟨gb501, 2, none⟩ = some (.int .i64 a1_2) := xvc BK501.out
          have hcz46_3 : w24.cell? ⟨gb501, 3, none⟩ = some (.int .i64 a1_3) := xvc BK501.out
          have hcz46_4 : w24.cell? ⟨gb501, 4, none⟩ = some (.int .i64 a1_4) := xvc BK501.out
          have hcz46_5 : w24.cell? ⟨gb501, 5, none⟩ = some (.int .i64 a1_5) := xvc BK501.out
          have hcz46_6 : w24.cell? ⟨gb501, 6, none⟩ = some (.slice none 0 0) := xvc BK501.out
          have hfz46_0 := blk_frozen BK501.out 0
          have hfz46_1 := blk_frozen BK501.out 1
          have hfz46_2 := blk_frozen BK501.out 2
          have hfz46_3 := blk_frozen BK501.out 3
          have hfz46_4 := blk_frozen BK501.out 4
          have hfz46_5 := blk_frozen BK501.out 5
          have hfz46_6 := blk_frozen BK501.out 6
          have hnb47 := NB508_500.out
          have hnc47 := NB500_508.out
          have hcz48_0 : w24.cell? ⟨gb508, 0, none⟩ = some (.string (⟨#[]⟩ : ByteArray)) := xvc BK508.out
          have hcz48_1 : w24.cell? ⟨gb508, 1, none⟩ = some (.int .i64 0) := xvc BK508.out
          have hcz48_2 : w24.cell? ⟨gb508, 2, none⟩ = some (.int .i64 0) := xvc BK508.out
          have hcz48_3 : w24.cell? ⟨gb508, 3, none⟩ = some (.int .i64 0) := xvc BK508.out
          have hcz48_4 : w24.cell? ⟨gb508, 4, none⟩ = some (.bool false) := xvc BK508.out
          have hcz48_5 : w24.cell? ⟨gb508, 5, none⟩ = some (.bool false) := xvc BK508.out
          have hcz48_6 : w24.cell? ⟨gb508, 6, none⟩ = some (.bool false) := xvc BK508.out
          have hfz48_0 := blk_frozen BK508.out 0
          have hfz48_1 := blk_frozen BK508.out 1
          have hfz48_2 := blk_frozen BK508.out 2
          have hfz48_3 := blk_frozen BK508.out 3
          have hfz48_4 := blk_frozen BK508.out 4
          have hfz48_5 := blk_frozen BK508.out 5
          have hfz48_6 := blk_frozen BK508.out 6
          go_wp2
          go_meet
          case rel => (try rw [← Nbq34.out]); (try rw [← Nbq36.out]); exact ⟨_, (false), wv6, H', ⟨wv43⟩, ⟨(xvq BK500.out NB500_508.out)⟩, ⟨(xvq BK501.out NB501_508.out)⟩, ⟨(by (with_reducible repeat (first | refine blk_drewN ?_ _ | refine blk_drew ?_ | refine blk_alloc ?_ _)); refine blk_put (cs := #[.string ((rd_T191 t504 a1_0).f0), .int .i64 ((rd_T191 t504 a1_0).f1), .int .i64 ((rd_T191 t504 a1_0).f2), .int .i64 ((rd_T191 t504 a1_0).f3), .bool (false), .bool (true), .bool false]) ?_ 6 _ rfl; (with_reducible repeat (first | refine blk_drewN ?_ _ | refine blk_drew ?_ | refine blk_alloc ?_ _)); refine blk_put (cs := #[.string ((rd_T191 t504 a1_0).f0), .int .i64 ((rd_T191 t504 a1_0).f1), .int .i64 ((rd_T191 t504 a1_0).f2), .int .i64 ((rd_T191 t504 a1_0).f3), .bool (false), .bool false, .bool false]) ?_ 5 _ rfl; (with_reducible repeat (first | refine blk_drewN ?_ _ | refine blk_drew ?_ | refine blk_alloc ?_ _)); refine blk_put (cs := #[.string ((rd_T191 t504 a1_0).f0), .int .i64 ((rd_T191 t504 a1_0).f1), .int .i64 ((rd_T191 t504 a1_0).f2), .int .i64 ((rd_T191 t504 a1_0).f3), .bool false, .bool false, .bool false]) ?_ 4 _ rfl; (with_reducible repeat (first | refine blk_drewN ?_ _ | refine blk_drew ?_ | refine blk_alloc ?_ _)); refine blk_put (cs := #[.string ((rd_T191 t504 a1_0).f0), .int .i64 ((rd_T191 t504 a1_0).f1), .int .i64 ((rd_T191 t504 a1_0).f2), .int .i64 0, .bool false, .bool false, .bool false]) ?_ 3 _ rfl; (with_reducible repeat (first | refine blk_drewN ?_ _ | refine blk_drew ?_ | refine blk_alloc ?_ _)); refine blk_put (cs := #[.string ((rd_T191 t504 a1_0).f0), .int .i64 ((rd_T191 t504 a1_0).f1), .int .i64 0, .int .i64 0, .bool false, .bool false, .bool false]) ?_ 2 _ rfl; (with_reducible repeat (first | refine blk_drewN ?_ _ | refine blk_drew ?_ | refine blk_alloc ?_ _)); refine blk_put (cs := #[.string ((rd_T191 t504 a1_0).f0), .int .i64 0, .int .i64 0, .int .i64 0, .bool false, .bool false, .bool false]) ?_ 1 _ rfl; (with_reducible repeat (first | refine blk_drewN ?_ _ | refine blk_drew ?_ | refine blk_alloc ?_ _)); refine blk_put (cs := #[.string (⟨#[]⟩ : ByteArray), .int .i64 0, .int .i64 0, .int .i64 0, .bool false, .bool false, .bool false]) ?_ 0 _ rfl; (with_reducible repeat (first | refine blk_drewN ?_ _ | refine blk_drew ?_ | refine blk_alloc ?_ _)); exact BK508.out)⟩, ⟨wv9⟩⟩
        ·replace c35 := Bool.eq_false_iff.mpr c35
         subst c35
         have H1 : (impl_ValidInstr.j1 kj2 true a0_0 a0_1 a1_0 a1_1 a1_2 a1_3 a1_4 a1_5 a1_6 ((rd_T191 t504 a1_0).f0) ((rd_T191 t504 a1_0).f1) ((rd_T191 t504 a1_0).f2) ((rd_T191 t504 a1_0).f3) ((rd_T191 t504 a1_0).f4) false ((rd_T191 t504 a1_0).f6)) = some r := by rw [if_neg (show ¬ (false = true) by decide)] at H; exact H
         clear H
         have H := H1
         clear H1
         have H' := Aside0.mk H
         clear H
         have hnb49 := NB501_500.out
         have hnc49 := NB500_501.out
         have hnb50 := NB501_508.out
         have hnc50 := NB508_501.out
         have hcz51_0 : w24.cell? ⟨gb501, 0, none⟩ = some (.int .i64 a1_0) := xvc BK501.out
         have hcz51_1 : w24.cell? ⟨gb501, 1, none⟩ = some (.int .i64 a1_1) := xvc BK501.out
         have hcz51_2 : w24.cell? ⟨gb501, 2, none⟩ = some (.int .i64 a1_2) := xvc BK501.out
         have hcz51_3 : w24.cell? ⟨gb501, 3, none⟩ = some (.int .i64 a1_3) := xvc BK501.out
         have hcz51_4 : w24.cell? ⟨gb501, 4, none⟩ = some (.int .i64 a1_4) := xvc BK501.out
         have hcz51_5 : w24.cell? ⟨gb501, 5, none⟩ = some (.int .i64 a1_5) := xvc BK501.out
         have hcz51_6 : w24.cell? ⟨gb501, 6, none⟩ = some (.slice none 0 0) := xvc BK501.out
         have hfz51_0 := blk_frozen BK501.out 0
         have hfz51_1 := blk_frozen BK501.out 1
         have hfz51_2 := blk_frozen BK501.out 2
         have hfz51_3 := blk_frozen BK501.out 3
         have hfz51_4 := blk_frozen BK501.out 4
         have hfz51_5 := blk_frozen BK501.out 5
         have hfz51_6 := blk_frozen BK501.out 6
         have hnb52 := NB508_500.out
         have hnc52 := NB500_508.out
         have hcz53_0 : w24.cell? ⟨gb508, 0, none⟩ = some (.string (⟨#[]⟩ : ByteArray)) := xvc BK508.out
         have hcz53_1 : w24.cell? ⟨gb508, 1, none⟩ = some (.int .i64 0) := xvc BK508.out
         have hcz53_2 : w24.cell? ⟨gb508, 2, none⟩ = some (.int .i64 0) := xvc BK508.out
         have hcz53_3 : w24.cell? ⟨gb508, 3, none⟩ = some (.int .i64 0) := xvc BK508.out
         have hcz53_4 : w24.cell? ⟨gb508, 4, none⟩ = some (.bool false) := xvc BK508.out
         have hcz53_5 : w24.cell? ⟨gb508, 5, none⟩ = some (.bool false) := xvc BK508.out
         have hcz53_6 : w24.cell? ⟨gb508, 6, none⟩ = some (.bool false) := xvc BK508.out
         have hfz53_0 := blk_frozen BK508.out 0
         have hfz53_1 := blk_frozen BK508.out 1
         have hfz53_2 := blk_frozen BK508.out 2
         have hfz53_3 := blk_frozen BK508.out 3
         have hfz53_4 := blk_frozen BK508.out 4
         have hfz53_5 := blk_frozen BK508.out 5
         have hfz53_6 := blk_frozen BK508.out 6
         go_wp2
         go_meet
         case rel => (try rw [← Nbq34.out]); exact ⟨_, (true), wv6, H', ⟨wv43⟩, ⟨(xvq BK500.out NB500_508.out)⟩, ⟨(xvq BK501.out NB501_508.out)⟩, ⟨(by (with_reducible repeat (first | refine blk_drewN ?_ _ | refine blk_drew ?_ | refine blk_alloc ?_ _)); refine blk_put (cs := #[.string ((rd_T191 t504 a1_0).f0), .int .i64 ((rd_T191 t504 a1_0).f1), .int .i64 ((rd_T191 t504 a1_0).f2), .int .i64 ((rd_T191 t504 a1_0).f3), .bool ((rd_T191 t504 a1_0).f4), .bool (false), .bool false]) ?_ 6 _ rfl; (with_reducible repeat (first | refine blk_drewN ?_ _ | refine blk_drew ?_ | refine blk_alloc ?_ _)); refine blk_put (cs := #[.string ((rd_T191 t504 a1_0).f0), .int .i64 ((rd_T191 t504 a1_0).f1), .int .i64 ((rd_T191 t504 a1_0).f2), .int .i64 ((rd_T191 t504 a1_0).f3), .bool ((rd_T191 t504 a1_0).f4), .bool false, .bool false]) ?_ 5 _ rfl; (with_reducible repeat (first | refine blk_drewN ?_ _ | refine blk_drew ?_ | refine blk_alloc ?_ _)); refine blk_put (cs := #[.string ((rd_T191 t504 a1_0).f0), .int .i64 ((rd_T191 t504 a1_0).f1), .int .i64 ((rd_T191 t504 a1_0).f2), .int .i64 ((rd_T191 t504 a1_0).f3), .bool false, .bool false, .bool false]) ?_ 4 _ rfl; (with_reducible repeat (first | refine blk_drewN ?_ _ | refine blk_drew ?_ | refine blk_alloc ?_ _)); refine blk_put (cs := #[.string ((rd_T191 t504 a1_0).f0), .int .i64 ((rd_T191 t504 a1_0).f1), .int .i64 ((rd_T191 t504 a1_0).f2), .int .i64 0, .bool false, .bool false, .bool false]) ?_ 3 _ rfl; (with_reducible repeat (first | refine blk_drewN ?_ _ | refine blk_drew ?_ | refine blk_alloc ?_ _)); refine blk_put (cs := #[.string ((rd_T191 t504 a1_0).f0), .int .i64 ((rd_T191 t504 a1_0).f1), .int .i64 0, .int .i64 0, .bool false, .bool false, .bool false]) ?_ 2 _ rfl; (with_reducible repeat (first | refine blk_drewN ?_ _ | refine blk_drew ?_ | refine blk_alloc ?_ _)); refine blk_put (cs := #[.string ((rd_T191 t504 a1_0).f0), .int .i64 0, .int .i64 0, .int .i64 0, .bool false, .bool false, .bool false]) ?_ 1 _ rfl; (with_reducible repeat (first | refine blk_drewN ?_ _ | refine blk_drew ?_ | refine blk_alloc ?_ _)); refine blk_put (cs := #[.string (⟨#[]⟩ : ByteArray), .int .i64 0, .int .i64 0, .int .i64 0, .bool false, .bool false, .bool false]) ?_ 0 _ rfl; (with_reducible repeat (first | refine blk_drewN ?_ _ | refine blk_drew ?_ | refine blk_alloc ?_ _)); exact BK508.out)⟩, ⟨wv9⟩⟩
       ·rw [if_neg c33] at H
        have c33b0 : (a1_4 == (-1)) = false := beq_eq_false_iff_ne.mpr c33
        have c33b1 : (a1_4 != (-1)) = true := bne_iff_ne.mpr c33
        (first | rw [c33b0] | (simp only [i64_w, i32_w]; rw [c33b0]) | skip)
        obtain ⟨bq54, hbq54⟩ : ∃ b_ : Bool, b_ = ((rd_T191 t504 a1_0).f4) := ⟨_, rfl⟩
        replace H : (if bq54 = true then ((impl_isMaskNumber.f a1_4).bind fun t510 => (impl_ValidInstr.j1 kj2 t510 a0_0 a0_1 a1_0 a1_1 a1_2 a1_3 a1_4 a1_5 a1_6 ((rd_T191 t504 a1_0).f0) ((rd_T191 t504 a1_0).f1) ((rd_T191 t504 a1_0).f2) ((rd_T191 t504 a1_0).f3) bq54 ((rd_T191 t504 a1_0).f5) ((rd_T191 t504 a1_0).f6))) else (impl_ValidInstr.j1 kj2 false a0_0 a0_1 a1_0 a1_1 a1_2 a1_3 a1_4 a1_5 a1_6 ((rd_T191 t504 a1_0).f0) ((rd_T191 t504 a1_0).f1) ((rd_T191 t504 a1_0).f2) ((rd_T191 t504 a1_0).f3) bq54 ((rd_T191 t504 a1_0).f5) ((rd_T191 t504 a1_0).f6))) = some r := by rw [← hbq54] at H; exact H
        have Nbq54 := Aside0.mk hbq54
        (try rw [← hbq54])
        clear hbq54
        by_cases c55 : bq54 = true
        ·subst c55
         have H1 : ((impl_isMaskNumber.f a1_4).bind fun t510 => (impl_ValidInstr.j1 kj2 t510 a0_0 a0_1 a1_0 a1_1 a1_2 a1_3 a1_4 a1_5 a1_6 ((rd_T191 t504 a1_0).f0) ((rd_T191 t504 a1_0).f1) ((rd_T191 t504 a1_0).f2) ((rd_T191 t504 a1_0).f3) true ((rd_T191 t504 a1_0).f5) ((rd_T191 t504 a1_0).f6))) = some r := by rw [if_pos rfl] at H; exact H
         clear H
         have H := H1
         clear H1
         replace H := Option.bind_eq_some_iff.mp H
         obtain ⟨t510, A560, H⟩ := H
         replace H : (impl_ValidInstr.j1 kj2 t510 a0_0 a0_1 a1_0 a1_1 a1_2 a1_3 a1_4 a1_5 a1_6 ((rd_T191 t504 a1_0).f0) ((rd_T191 t504 a1_0).f1) ((rd_T191 t504 a1_0).f2) ((rd_T191 t504 a1_0).f3) true ((rd_T191 t504 a1_0).f5) ((rd_T191 t504 a1_0).f6)) = some r := H
         have A56 := Aside0.mk A560
         clear A560
         have H' := Aside0.mk H
         clear H
         have hnb57 := NB501_500.out
         have hnc57 := NB500_501.out
         have hnb58 := NB501_508.out
         have hnc58 := NB508_501.out
         have hcz59_0 : w24.cell? ⟨gb501, 0, none⟩ = some (.int .i64 a1_0) := xvc BK501.out
         have hcz59_1 : w24.cell? ⟨gb501, 1, none⟩ = some (.int .i64 a1_1) := xvc BK501.out
         have hcz59_2 : w24.cell? ⟨gb501, 2, none⟩ = some (.int .i64 a1_2) := xvc BK501.out
         have hcz59_3 : w24.cell? ⟨gb501, 3, none⟩ = some (.int .i64 a1_3) := xvc BK501.out
         have hcz59_4 : w24.cell? ⟨gb501, 4, none⟩ = some (.int .i64 a1_4) := xvc BK501.out
         have hcz59_5 : w24.cell? ⟨gb501, 5, none⟩ = some (.int .i64 a1_5) := xvc BK501.out
         have hcz59_6 : w24.cell? ⟨gb501, 6, none⟩ = some (.slice none 0 0) := xvc BK501.out
         have hfz59_0 := blk_frozen BK501.out 0
         have hfz59_1 := blk_frozen BK501.out 1
         have hfz59_2 := blk_frozen BK501.out 2
         have hfz59_3 := blk_frozen BK501.out 3
         have hfz59_4 := blk_frozen BK501.out 4
         have hfz59_5 := blk_frozen BK501.out 5
         have hfz59_6 := blk_frozen BK501.out 6
         have hnb60 := NB508_500.out
         have hnc60 := NB500_508.out
         have hcz61_0 : w24.cell? ⟨gb508, 0, none⟩ = some (.string (⟨#[]⟩ : ByteArray)) := xvc BK508.out
         have hcz61_1 : w24.cell? ⟨gb508, 1, none⟩ = some (.int .i64 0) := xvc BK508.out
         have hcz61_2 : w24.cell? ⟨gb508, 2, none⟩ = some (.int .i64 0) := xvc BK508.out
         have hcz61_3 : w24.cell? ⟨gb508, 3, none⟩ = some (.int .i64 0) := xvc BK508.out
         have hcz61_4 : w24.cell? ⟨gb508, 4, none⟩ = some (.bool false) := xvc BK508.out
         have hcz61_5 : w24.cell? ⟨gb508, 5, none⟩ = some (.bool false) := xvc BK508.out
         have hcz61_6 : w24.cell? ⟨gb508, 6, none⟩ = some (.bool false) := xvc BK508.out
         have hfz61_0 := blk_frozen BK508.out 0
         have hfz61_1 := blk_frozen BK508.out 1
         have hfz61_2 := blk_frozen BK508.out 2
         have hfz61_3 := blk_frozen BK508.out 3
         have hfz61_4 := blk_frozen BK508.out 4
         have hfz61_5 := blk_frozen BK508.out 5
         have hfz61_6 := blk_frozen BK508.out 6
         go_wp2_with (first | (go_at_call 222; (with_reducible refine (impl_isMaskNumber.calls a1_4 t510 _ A56.out).mono ?_); rintro e w' ⟨rfl, ⟨nd, rfl⟩⟩))
         go_meet
         case rel => (try rw [← Nbq54.out]); exact ⟨_, (t510), wv6, H', ⟨wv43⟩, ⟨(xvq BK500.out NB500_508.out)⟩, ⟨(xvq BK501.out NB501_508.out)⟩, ⟨(by (with_reducible repeat (first | refine blk_drewN ?_ _ | refine blk_drew ?_ | refine blk_alloc ?_ _)); refine blk_put (cs := #[.string ((rd_T191 t504 a1_0).f0), .int .i64 ((rd_T191 t504 a1_0).f1), .int .i64 ((rd_T191 t504 a1_0).f2), .int .i64 ((rd_T191 t504 a1_0).f3), .bool (true), .bool ((rd_T191 t504 a1_0).f5), .bool false]) ?_ 6 _ rfl; (with_reducible repeat (first | refine blk_drewN ?_ _ | refine blk_drew ?_ | refine blk_alloc ?_ _)); refine blk_put (cs := #[.string ((rd_T191 t504 a1_0).f0), .int .i64 ((rd_T191 t504 a1_0).f1), .int .i64 ((rd_T191 t504 a1_0).f2), .int .i64 ((rd_T191 t504 a1_0).f3), .bool (true), .bool false, .bool false]) ?_ 5 _ rfl; (with_reducible repeat (first | refine blk_drewN ?_ _ | refine blk_drew ?_ | refine blk_alloc ?_ _)); refine blk_put (cs := #[.string ((rd_T191 t504 a1_0).f0), .int .i64 ((rd_T191 t504 a1_0).f1), .int .i64 ((rd_T191 t504 a1_0).f2), .int .i64 ((rd_T191 t504 a1_0).f3), .bool false, .bool false, .bool false]) ?_ 4 _ rfl; (with_reducible repeat (first | refine blk_drewN ?_ _ | refine blk_drew ?_ | refine blk_alloc ?_ _)); refine blk_put (cs := #[.string ((rd_T191 t504 a1_0).f0), .int .i64 ((rd_T191 t504 a1_0).f1), .int .i64 ((rd_T191 t504 a1_0).f2), .int .i64 0, .bool false, .bool false, .bool false]) ?_ 3 _ rfl; (with_reducible repeat (first | refine blk_drewN ?_ _ | refine blk_drew ?_ | refine blk_alloc ?_ _)); refine blk_put (cs := #[.string ((rd_T191 t504 a1_0).f0), .int .i64 ((rd_T191 t504 a1_0).f1), .int .i64 0, .int .i64 0, .bool false, .bool false, .bool false]) ?_ 2 _ rfl; (with_reducible repeat (first | refine blk_drewN ?_ _ | refine blk_drew ?_ | refine blk_alloc ?_ _)); refine blk_put (cs := #[.string ((rd_T191 t504 a1_0).f0), .int .i64 0, .int .i64 0, .int .i64 0, .bool false, .bool false, .bool false]) ?_ 1 _ rfl; (with_reducible repeat (first | refine blk_drewN ?_ _ | refine blk_drew ?_ | refine blk_alloc ?_ _)); refine blk_put (cs := #[.string (⟨#[]⟩ : ByteArray), .int .i64 0, .int .i64 0, .int .i64 0, .bool false, .bool false, .bool false]) ?_ 0 _ rfl; (with_reducible repeat (first | refine blk_drewN ?_ _ | refine blk_drew ?_ | refine blk_alloc ?_ _)); exact BK508.out)⟩, ⟨wv9⟩⟩
        ·replace c55 := Bool.eq_false_iff.mpr c55
         subst c55
         have H1 : (impl_ValidInstr.j1 kj2 false a0_0 a0_1 a1_0 a1_1 a1_2 a1_3 a1_4 a1_5 a1_6 ((rd_T191 t504 a1_0).f0) ((rd_T191 t504 a1_0).f1) ((rd_T191 t504 a1_0).f2) ((rd_T191 t504 a1_0).f3) false ((rd_T191 t504 a1_0).f5) ((rd_T191 t504 a1_0).f6)) = some r := by rw [if_neg (show ¬ (false = true) by decide)] at H; exact H
         clear H
         have H := H1
         clear H1
         have H' := Aside0.mk H
         clear H
         have hnb62 := NB501_500.out
         have hnc62 := NB500_501.out
         have hnb63 := NB501_508.out
         have hnc63 := NB508_501.out
         have hcz64_0 : w24.cell? ⟨gb501, 0, none⟩ = some (.int .i64 a1_0) := xvc BK501.out
         have hcz64_1 : w24.cell? ⟨gb501, 1, none⟩ = some (.int .i64 a1_1) := xvc BK501.out
         have hcz64_2 : w24.cell? ⟨gb501, 2, none⟩ = some (.int .i64 a1_2) := xvc BK501.out
         have hcz64_3 : w24.cell? ⟨gb501, 3, none⟩ = some (.int .i64 a1_3) := xvc BK501.out
         have hcz64_4 : w24.cell? ⟨gb501, 4, none⟩ = some (.int .i64 a1_4) := xvc BK501.out
         have hcz64_5 : w24.cell? ⟨gb501, 5, none⟩ = some (.int .i64 a1_5) := xvc BK501.out
         have hcz64_6 : w24.cell? ⟨gb501, 6, none⟩ = some (.slice none 0 0) := xvc BK501.out
         have hfz64_0 := blk_frozen BK501.out 0
         have hfz64_1 := blk_frozen BK501.out 1
         have hfz64_2 := blk_frozen BK501.out 2
         have hfz64_3 := blk_frozen BK501.out 3
         have hfz64_4 := blk_frozen BK501.out 4
         have hfz64_5 := blk_frozen BK501.out 5
         have hfz64_6 := blk_frozen BK501.out 6
         have hnb65 := NB508_500.out
         have hnc65 := NB500_508.out
         have hcz66_0 : w24.cell? ⟨gb508, 0, none⟩ = some (.string (⟨#[]⟩ : ByteArray)) := xvc BK508.out
         have hcz66_1 : w24.cell? ⟨gb508, 1, none⟩ = some (.int .i64 0) := xvc BK508.out
         have hcz66_2 : w24.cell? ⟨gb508, 2, none⟩ = some (.int .i64 0) := xvc BK508.out
         have hcz66_3 : w24.cell? ⟨gb508, 3, none⟩ = some (.int .i64 0) := xvc BK508.out
         have hcz66_4 : w24.cell? ⟨gb508, 4, none⟩ = some (.bool false) := xvc BK508.out
         have hcz66_5 : w24.cell? ⟨gb508, 5, none⟩ = some (.bool false) := xvc BK508.out
         have hcz66_6 : w24.cell? ⟨gb508, 6, none⟩ = some (.bool false) := xvc BK508.out
         have hfz66_0 := blk_frozen BK508.out 0
         have hfz66_1 := blk_frozen BK508.out 1
         have hfz66_2 := blk_frozen BK508.out 2
         have hfz66_3 := blk_frozen BK508.out 3
         have hfz66_4 := blk_frozen BK508.out 4
         have hfz66_5 := blk_frozen BK508.out 5
         have hfz66_6 := blk_frozen BK508.out 6
         go_wp2
         go_meet
         case rel => (try rw [← Nbq54.out]); exact ⟨_, (false), wv6, H', ⟨wv43⟩, ⟨(xvq BK500.out NB500_508.out)⟩, ⟨(xvq BK501.out NB501_508.out)⟩, ⟨(by (with_reducible repeat (first | refine blk_drewN ?_ _ | refine blk_drew ?_ | refine blk_alloc ?_ _)); refine blk_put (cs := #[.string ((rd_T191 t504 a1_0).f0), .int .i64 ((rd_T191 t504 a1_0).f1), .int .i64 ((rd_T191 t504 a1_0).f2), .int .i64 ((rd_T191 t504 a1_0).f3), .bool (false), .bool ((rd_T191 t504 a1_0).f5), .bool false]) ?_ 6 _ rfl; (with_reducible repeat (first | refine blk_drewN ?_ _ | refine blk_drew ?_ | refine blk_alloc ?_ _)); refine blk_put (cs := #[.string ((rd_T191 t504 a1_0).f0), .int .i64 ((rd_T191 t504 a1_0).f1), .int .i64 ((rd_T191 t504 a1_0).f2), .int .i64 ((rd_T191 t504 a1_0).f3), .bool (false), .bool false, .bool false]) ?_ 5 _ rfl; (with_reducible repeat (first | refine blk_drewN ?_ _ | refine blk_drew ?_ | refine blk_alloc ?_ _)); refine blk_put (cs := #[.string ((rd_T191 t504 a1_0).f0), .int .i64 ((rd_T191 t504 a1_0).f1), .int .i64 ((rd_T191 t504 a1_0).f2), .int .i64 ((rd_T191 t504 a1_0).f3), .bool false, .bool false, .bool false]) ?_ 4 _ rfl; (with_reducible repeat (first | refine blk_drewN ?_ _ | refine blk_drew ?_ | refine blk_alloc ?_ _)); refine blk_put (cs := #[.string ((rd_T191 t504 a1_0).f0), .int .i64 ((rd_T191 t504 a1_0).f1), .int .i64 ((rd_T191 t504 a1_0).f2), .int .i64 0, .bool false, .bool false, .bool false]) ?_ 3 _ rfl; (with_reducible repeat (first | refine blk_drewN ?_ _ | refine blk_drew ?_ | refine blk_alloc ?_ _)); refine blk_put (cs := #[.string ((rd_T191 t504 a1_0).f0), .int .i64 ((rd_T191 t504 a1_0).f1), .int .i64 0, .int .i64 0, .bool false, .bool false, .bool false]) ?_ 2 _ rfl; (with_reducible repeat (first | refine blk_drewN ?_ _ | refine blk_drew ?_ | refine blk_alloc ?_ _)); refine blk_put (cs := #[.string ((rd_T191 t504 a1_0).f0), .int .i64 0, .int .i64 0, .int .i64 0, .bool false, .bool false, .bool false]) ?_ 1 _ rfl; (with_reducible repeat (first | refine blk_drewN ?_ _ | refine blk_drew ?_ | refine blk_alloc ?_ _)); refine blk_put (cs := #[.string (⟨#[]⟩ : ByteArray), .int .i64 0, .int .i64 0, .int .i64 0, .bool false, .bool false, .bool false]) ?_ 0 _ rfl; (with_reducible repeat (first | refine blk_drewN ?_ _ | refine blk_drew ?_ | refine blk_alloc ?_ _)); exact BK508.out)⟩, ⟨wv9⟩⟩
      case rest =>
       clear HC20
       try clear c1
       try clear c2
       try clear p2
       try clear c3
       try clear q3
       try clear c4
       try clear c5
       try clear p5
       try clear q5
       try clear hx5
       try clear c6
       try clear c18
       try clear c18b0
       try clear c19
       try clear c19b0
       try clear c22
       try clear c33
       try clear c33b0
       try clear c33b1
       try clear q34
       try clear c35
       try clear q36
       try clear c37
       try clear c39
       try clear c40
       try clear c42
       try clear c44
       try clear c45
       try clear c47
       try clear c49
       try clear c50
       try clear p50
       try clear q50
       try clear hx50
       try clear c52
       try clear q54
       try clear c55
       try clear c57
       try clear c58
       try clear c60
       try clear c62
       try clear c63
       try clear c65
       try clear hcz41_0
       try clear hcz41_1
       try clear hcz41_2
       try clear hcz41_3
       try clear hcz41_4
       try clear hcz41_5
       try clear hcz41_6
       try clear hcz43_0
       try clear hcz43_1
       try clear hcz43_2
       try clear hcz43_3
       try clear hcz43_4
       try clear hcz43_5
       try clear hcz43_6
       try clear hcz46_0
       try clear hcz46_1
       try clear hcz46_2
       try clear hcz46_3
       try clear hcz46_4
       try clear hcz46_5
       try clear hcz46_6
       try clear hcz48_0
       try clear hcz48_1
       try clear hcz48_2
       try clear hcz48_3
       try clear hcz48_4
       try clear hcz48_5
       try clear hcz48_6
       try clear hcz51_0
       try clear hcz51_1
       try clear hcz51_2
       try clear hcz51_3
       try clear hcz51_4
       try clear hcz51_5
       try clear hcz51_6
       try clear hcz53_0
       try clear hcz53_1
       try clear hcz53_2
       try clear hcz53_3
       try clear hcz53_4
       try clear hcz53_5
       try clear hcz53_6
       try clear hcz59_0
       try clear hcz59_1
       try clear hcz59_2
       try clear hcz59_3
       try clear hcz59_4
       try clear hcz59_5
       try clear hcz59_6
       try clear hcz61_0
       try clear hcz61_1
       try clear hcz61_2
       try clear hcz61_3
       try clear hcz61_4
       try clear hcz61_5
       try clear hcz61_6
       try clear hcz64_0
       try clear hcz64_1
       try clear hcz64_2
       try clear hcz64_3
       try clear hcz64_4
       try clear hcz64_5
       try clear hcz64_6
       try clear hcz66_0
       try clear hcz66_1
       try clear hcz66_2
       try clear hcz66_3
       try clear hcz66_4
       try clear hcz66_5
       try clear hcz66_6
       try clear hfz41_0
       try clear hfz41_1
       try clear hfz41_2
       try clear hfz41_3
       try clear hfz41_4
       try clear hfz41_5
       try clear hfz41_6
       try clear hfz43_0
       try clear hfz43_1
       try clear hfz43_2
       try clear hfz43_3
       try clear hfz43_4
       try clear hfz43_5
       try clear hfz43_6
       try clear hfz46_0
       try clear hfz46_1
       try clear hfz46_2
       try clear hfz46_3
       try clear hfz46_4
       try clear hfz46_5
       try clear hfz46_6
       try clear hfz48_0
       try clear hfz48_1
       try clear hfz48_2
       try clear hfz48_3
       try clear hfz48_4
       try clear hfz48_5
       try clear hfz48_6
       try clear hfz51_0
       try clear hfz51_1
       try clear hfz51_2
       try clear hfz51_3
       try clear hfz51_4
       try clear hfz51_5
       try clear hfz51_6
       try clear hfz53_0
       try clear hfz53_1
       try clear hfz53_2
       try clear hfz53_3
       try clear hfz53_4
       try clear hfz53_5
       try clear hfz53_6
       try clear hfz59_0
       try clear hfz59_1
       try clear hfz59_2
       try clear hfz59_3
       try clear hfz59_4
       try clear hfz59_5
       try clear hfz59_6
       try clear hfz61_0
       try clear hfz61_1
       try clear hfz61_2
       try clear hfz61_3
       try clear hfz61_4
       try clear hfz61_5
       try clear hfz61_6
       try clear hfz64_0
       try clear hfz64_1
       try clear hfz64_2
       try clear hfz64_3
       try clear hfz64_4
       try clear hfz64_5
       try clear hfz64_6
       try clear hfz66_0
       try clear hfz66_1
       try clear hfz66_2
       try clear hfz66_3
       try clear hfz66_4
       try clear hfz66_5
       try clear hfz66_6
       try clear hx507_0
       try clear hx507_1
       try clear hx507_2
       try clear hx507_3
       try clear hx507_4
       try clear hx507_5
       try clear hx507_6
       try clear p507
       try clear q507
       obtain ⟨kq, x6_19, rfl, HA, HJ19, BK500, BK501, BK508, HB⟩ := hcut
       cases kq with
       | zero => exact absurd HA.out (by simp [impl_ValidInstr.j1])
       | succ kj19 =>
        have H := HA.out
        clear HA
        simp only [impl_ValidInstr.j1] at H
        by_cases c67 : x6_19 = true
        ·subst c67
         have H1 : ((impl_isField.f ((rd_T191 t504 a1_0).f1) a1_1).bind fun t511 => (if t511 = true then ((impl_isField.f ((rd_T191 t504 a1_0).f2) a1_2).bind fun t512 => (if t512 = true then ((impl_isField.f ((rd_T191 t504 a1_0).f3) a1_3).bind fun t513 => (if t513 = true then ((impl_isStride.f kj19 a1_0 a1_1 a1_2 a1_3 a1_4 a1_5 a1_6).bind fun t514 => (if t514 = true then ((impl_isI.f kj19 a0_0 a0_1 a1_0 a1_1 a1_2 a1_3 a1_4 a1_5 a1_6).bind fun t515 => (if t515 = true then ((impl_isTable.f a0_0 a0_1 a1_0 a1_1 a1_2 a1_3 a1_4 a1_5 a1_6 ((rd_T191 t504 a1_0).f6)).bind fun t516 => (some t516)) else (some false))) else (some false))) else (some false))) else (some false))) else (some false))) = some r := by rw [if_pos rfl] at H; exact H
         clear H
         have H := H1
         clear H1
         replace H := Option.bind_eq_some_iff.mp H
         obtain ⟨t511, A680, H⟩ := H
         replace H : (if t511 = true then ((impl_isField.f ((rd_T191 t504 a1_0).f2) a1_2).bind fun t512 => (if t512 = true then ((impl_isField.f ((rd_T191 t504 a1_0).f3) a1_3).bind fun t513 => (if t513 = true then ((impl_isStride.f kj19 a1_0 a1_1 a1_2 a1_3 a1_4 a1_5 a1_6).bind fun t514 => (if t514 = true then ((impl_isI.f kj19 a0_0 a0_1 a1_0 a1_1 a1_2 a1_3 a1_4 a1_5 a1_6).bind fun t515 => (if t515 = true then ((impl_isTable.f a0_0 a0_1 a1_0 a1_1 a1_2 a1_3 a1_4 a1_5 a1_6 ((rd_T191 t504 a1_0).f6)).bind fun t516 => (some t516)) else (some false))) else (some false))) else (some false))) else (some false))) else (some false)) = some r := H
         have A68 := Aside0.mk A680
         clear A680
         by_cases c69 : t511 = true
         ·subst c69
          have H1 : ((impl_isField.f ((rd_T191 t504 a1_0).f2) a1_2).bind fun t512 => (if t512 = true then ((impl_isField.f ((rd_T191 t504 a1_0).f3) a1_3).bind fun t513 => (if t513 = true then ((impl_isStride.f kj19 a1_0 a1_1 a1_2 a1_3 a1_4 a1_5 a1_6).bind fun t514 => (if t514 = true then ((impl_isI.f kj19 a0_0 a0_1 a1_0 a1_1 a1_2 a1_3 a1_4 a1_5 a1_6).bind fun t515 => (if t515 = true then ((impl_isTable.f a0_0 a0_1 a1_0 a1_1 a1_2 a1_3 a1_4 a1_5 a1_6 ((rd_T191 t504 a1_0).f6)).bind fun t516 => (some t516)) else (some false))) else (some false))) else (some false))) else (some false))) = some r := by rw [if_pos rfl] at H; exact H
          clear H
          have H := H1
          clear H1
          replace H := Option.bind_eq_some_iff.mp H
          obtain ⟨t512, A700, H⟩ := H
          replace H : (if t512 = true then ((impl_isField.f ((rd_T191 t504 a1_0).f3) a1_3).bind fun t513 => (if t513 = true then ((impl_isStride.f kj19 a1_0 a1_1 a1_2 a1_3 a1_4 a1_5 a1_6).bind fun t514 => (if t514 = true then ((impl_isI.f kj19 a0_0 a0_1 a1_0 a1_1 a1_2 a1_3 a1_4 a1_5 a1_6).bind fun t515 => (if t515 = true then ((impl_isTable.f a0_0 a0_1 a1_0 a1_1 a1_2 a1_3 a1_4 a1_5 a1_6 ((rd_T191 t504 a1_0).f6)).bind fun t516 => (some t516)) else (some false))) else (some false))) else (some false))) else (some false)) = some r := H
          have A70 := Aside0.mk A700
          clear A700
          by_cases c71 : t512 = true
          ·subst c71
           have H1 : ((impl_isField.f ((rd_T191 t504 a1_0).f3) a1_3).bind fun t513 => (if t513 = true then ((impl_isStride.f kj19 a1_0 a1_1 a1_2 a1_3 a1_4 a1_5 a1_6).bind fun t514 => (if t514 = true then ((impl_isI.f kj19 a0_0 a0_1 a1_0 a1_1 a1_2 a1_3 a1_4 a1_5 a1_6).bind fun t515 => (if t515 = true then ((impl_isTable.f a0_0 a0_1 a1_0 a1_1 a1_2 a1_3 a1_4 a1_5 a1_6 ((rd_T191 t504 a1_0).f6)).bind fun t516 => (some t516)) else (some false))) else (some false))) else (some false))) = some r := by rw [if_pos rfl] at H; exact H
           clear H
           have H := H1
           clear H1
           replace H := Option.bind_eq_some_iff.mp H
           obtain ⟨t513, A720, H⟩ := H
           replace H : (if t513 = true then ((impl_isStride.f kj19 a1_0 a1_1 a1_2 a1_3 a1_4 a1_5 a1_6).bind fun t514 => (if t514 = true then ((impl_isI.f kj19 a0_0 a0_1 a1_0 a1_1 a1_2 a1_3 a1_4 a1_5 a1_6).bind fun t515 => (if t515 = true then ((impl_isTable.f a0_0 a0_1 a1_0 a1_1 a1_2 a1_3 a1_4 a1_5 a1_6 ((rd_T191 t504 a1_0).f6)).bind fun t516 => (some t516)) else (some false))) else (some false))) else (some false)) = some r := H
           have A72 := Aside0.mk A720
           clear A720
           by_cases c73 : t513 = true
           ·subst c73
            have H1 : ((impl_isStride.f kj19 a1_0 a1_1 a1_2 a1_3 a1_4 a1_5 a1_6).bind fun t514 => (if t514 = true then ((impl_isI.f kj19 a0_0 a0_1 a1_0 a1_1 a1_2 a1_3 a1_4 a1_5 a1_6).bind fun t515 => (if t515 = true then ((impl_isTable.f a0_0 a0_1 a1_0 a1_1 a1_2 a1_3 a1_4 a1_5 a1_6 ((rd_T191 t504 a1_0).f6)).bind fun t516 => (some t516)) else (some false))) else (some false))) = some r := by rw [if_pos rfl] at H; exact H
            clear H
            have H := H1
            clear H1
            replace H := Option.bind_eq_some_iff.mp H
            obtain ⟨t514, A740, H⟩ := H
            replace H : (if t514 = true then ((impl_isI.f kj19 a0_0 a0_1 a1_0 a1_1 a1_2 a1_3 a1_4 a1_5 a1_6).bind fun t515 => (if t515 = true then ((impl_isTable.f a0_0 a0_1 a1_0 a1_1 a1_2 a1_3 a1_4 a1_5 a1_6 ((rd_T191 t504 a1_0).f6)).bind fun t516 => (some t516)) else (some false))) else (some false)) = some r := H
            have A74 := Aside0.mk A740
            clear A740
            by_cases c75 : t514 = true
            ·subst c75
             have H1 : ((impl_isI.f kj19 a0_0 a0_1 a1_0 a1_1 a1_2 a1_3 a1_4 a1_5 a1_6).bind fun t515 => (if t515 = true then ((impl_isTable.f a0_0 a0_1 a1_0 a1_1 a1_2 a1_3 a1_4 a1_5 a1_6 ((rd_T191 t504 a1_0).f6)).bind fun t516 => (some t516)) else (some false))) = some r := by rw [if_pos rfl] at H; exact H
             clear H
             have H := H1
             clear H1
             replace H := Option.bind_eq_some_iff.mp H
             obtain ⟨t515, A760, H⟩ := H
             replace H : (if t515 = true then ((impl_isTable.f a0_0 a0_1 a1_0 a1_1 a1_2 a1_3 a1_4 a1_5 a1_6 ((rd_T191 t504 a1_0).f6)).bind fun t516 => (some t516)) else (some false)) = some r := H
             have A76 := Aside0.mk A760
             clear A760
             by_cases c77 : t515 = true
             ·subst c77
              have H1 : ((impl_isTable.f a0_0 a0_1 a1_0 a1_1 a1_2 a1_3 a1_4 a1_5 a1_6 ((rd_T191 t504 a1_0).f6)).bind fun t516 => (some t516)) = some r := by rw [if_pos rfl] at H; exact H
              clear H
              have H := H1
              clear H1
              replace H := Option.bind_eq_some_iff.mp H
              obtain ⟨t516, A780, H⟩ := H
              replace H : (some t516) = some r := H
              have A78 := Aside0.mk A780
              clear A780
              obtain rfl := Option.some.inj H
              have hnb79 := NB508_500.out
              have hnc79 := NB500_508.out
              have hnb80 := NB508_501.out
              have hnc80 := NB501_508.out
              have hcz81_0 : wc.cell? ⟨gb508, 0, none⟩ = some (.string ((rd_T191 t504 a1_0).f0)) := xvc BK508.out
              have hcz81_1 : wc.cell? ⟨gb508, 1, none⟩ = some (.int .i64 ((rd_T191 t504 a1_0).f1)) := xvc BK508.out
              have hcz81_2 : wc.cell? ⟨gb508, 2, none⟩ = some (.int .i64 ((rd_T191 t504 a1_0).f2)) := xvc BK508.out
              have hcz81_3 : wc.cell? ⟨gb508, 3, none⟩ = some (.int .i64 ((rd_T191 t504 a1_0).f3)) := xvc BK508.out
              have hcz81_4 : wc.cell? ⟨gb508, 4, none⟩ = some (.bool ((rd_T191 t504 a1_0).f4)) := xvc BK508.out
              have hcz81_5 : wc.cell? ⟨gb508, 5, none⟩ = some (.bool ((rd_T191 t504 a1_0).f5)) := xvc BK508.out
              have hcz81_6 : wc.cell? ⟨gb508, 6, none⟩ = some (.bool ((rd_T191 t504 a1_0).f6)) := xvc BK508.out
              have hfz81_0 := blk_frozen BK508.out 0
              have hfz81_1 := blk_frozen BK508.out 1
              have hfz81_2 := blk_frozen BK508.out 2
              have hfz81_3 := blk_frozen BK508.out 3
              have hfz81_4 := blk_frozen BK508.out 4
              have hfz81_5 := blk_frozen BK508.out 5
              have hfz81_6 := blk_frozen BK508.out 6
              have hnb82 := NB501_500.out
              have hnc82 := NB500_501.out
              have hcz83_0 : wc.cell? ⟨gb501, 0, none⟩ = some (.int .i64 a1_0) := xvc BK501.out
              have hcz83_1 : wc.cell? ⟨gb501, 1, none⟩ = some (.int .i64 a1_1) := xvc BK501.out
              have hcz83_2 : wc.cell? ⟨gb501, 2, none⟩ = some (.int .i64 a1_2) := xvc BK501.out
              have hcz83_3 : wc.cell? ⟨gb501, 3, none⟩ = some (.int .i64 a1_3) := xvc BK501.out
              have hcz83_4 : wc.cell? ⟨gb501, 4, none⟩ = some (.int .i64 a1_4) := xvc BK501.out
              have hcz83_5 : wc.cell? ⟨gb501, 5, none⟩ = some (.int .i64 a1_5) := xvc BK501.out
              have hcz83_6 : wc.cell? ⟨gb501, 6, none⟩ = some (.slice none 0 0) := xvc BK501.out
              have hfz83_0 := blk_frozen BK501.out 0
              have hfz83_1 := blk_frozen BK501.out 1
              have hfz83_2 := blk_frozen BK501.out 2
              have hfz83_3 := blk_frozen BK501.out 3
              have hfz83_4 := blk_frozen BK501.out 4
              have hfz83_5 := blk_frozen BK501.out 5
              have hfz83_6 := blk_frozen BK501.out 6
              go_wp2_with (first | (go_at_call 223; (with_reducible refine (impl_isField.calls ((rd_T191 t504 a1_0).f1) a1_1 true _ A68.out).mono ?_); rintro e w' ⟨rfl, ⟨nd, rfl⟩⟩) | (go_at_call 223; (with_reducible refine (impl_isField.calls ((rd_T191 t504 a1_0).f2) a1_2 true _ A70.out).mono ?_); rintro e w' ⟨rfl, ⟨nd, rfl⟩⟩) | (go_at_call 223; (with_reducible refine (impl_isField.calls ((rd_T191 t504 a1_0).f3) a1_3 true _ A72.out).mono ?_); rintro e w' ⟨rfl, ⟨nd, rfl⟩⟩) | (go_at_call 224; (with_reducible refine (impl_isStride.calls kj19 a1_0 a1_1 a1_2 a1_3 a1_4 a1_5 a1_6 true _ A74.out).mono ?_); rintro e w84 ⟨rfl, hb⟩; have n0_ := Aside0.mk (xvl BK500.out hb); have n1_ := Aside0.mk (xvl BK501.out hb); have n2_ := Aside0.mk (xvl BK508.out hb); have n3_ := Aside0.mk (below_step wv9 hb); clear BK500; clear BK501; clear BK508; clear HB; have BK500 := n0_; have BK501 := n1_; have BK508 := n2_; have HB := n3_; clear n0_ n1_ n2_ n3_; (try clear hb); (try clear hb2); (try clear hk); (try clear hi); have hcz85_0 : w84.cell? ⟨gb500, 0, none⟩ = some (.int .i64 a0_0) := xvc BK500.out; have hcz85_1 : w84.cell? ⟨gb500, 1, none⟩ = some (.int .i64 a0_1) := xvc BK500.out; have hfz85_0 := blk_frozen BK500.out 0; have hfz85_1 := blk_frozen BK500.out 1; have hcz86_0 : w84.cell? ⟨gb501, 0, none⟩ = some (.int .i64 a1_0) := xvc BK501.out; have hcz86_1 : w84.cell? ⟨gb501, 1, none⟩ = some (.int .i64 a1_1) := xvc BK501.out; have hcz86_2 : w84.cell? ⟨gb501, 2, none⟩ = some (.int .i64 a1_2) := xvc BK501.out; have hcz86_3 : w84.cell? ⟨gb501, 3, none⟩ = some (.int .i64 a1_3) := xvc BK501.out; have hcz86_4 : w84.cell? ⟨gb501, 4, none⟩ = some (.int .i64 a1_4) := xvc BK501.out; have hcz86_5 : w84.cell? ⟨gb501, 5, none⟩ = some (.int .i64 a1_5) := xvc BK501.out; have hcz86_6 : w84.cell? ⟨gb501, 6, none⟩ = some (.slice none 0 0) := xvc BK501.out; have hfz86_0 := blk_frozen BK501.out 0; have hfz86_1 := blk_frozen BK501.out 1; have hfz86_2 := blk_frozen BK501.out 2; have hfz86_3 := blk_frozen BK501.out 3; have hfz86_4 := blk_frozen BK501.out 4; have hfz86_5 := blk_frozen BK501.out 5; have hfz86_6 := blk_frozen BK501.out 6) | (go_at_call 225; (with_reducible refine (impl_isI.calls kj19 a0_0 a0_1 a1_0 a1_1 a1_2 a1_3 a1_4 a1_5 a1_6 true _ A76.out).mono ?_); rintro e w87 ⟨rfl, hb⟩; have n0_ := Aside0.mk (xvl BK500.out hb); have n1_ := Aside0.mk (xvl BK501.out hb); have n2_ := Aside0.mk (xvl BK508.out hb); have n3_ := Aside0.mk (below_step wv9 hb); clear BK500; clear BK501; clear BK508; clear HB; have BK500 := n0_; have BK501 := n1_; have BK508 := n2_; have HB := n3_; clear n0_ n1_ n2_ n3_; (try clear hb); (try clear hb2); (try clear hk); (try clear hi); have hcz88_0 : w87.cell? ⟨gb500, 0, none⟩ = some (.int .i64 a0_0) := xvc BK500.out; have hcz88_1 : w87.cell? ⟨gb500, 1, none⟩ = some (.int .i64 a0_1) := xvc BK500.out; have hfz88_0 := blk_frozen BK500.out 0; have hfz88_1 := blk_frozen BK500.out 1; have hcz89_0 : w87.cell? ⟨gb501, 0, none⟩ = some (.int .i64 a1_0) := xvc BK501.out; have hcz89_1 : w87.cell? ⟨gb501, 1, none⟩ = some (.int .i64 a1_1) := xvc BK501.out; have hcz89_2 : w87.cell? ⟨gb501, 2, none⟩ = some (.int .i64 a1_2) := xvc BK501.out; have hcz89_3 : w87.cell? ⟨gb501, 3, none⟩ = some (.int .i64 a1_3) := xvc BK501.out; have hcz89_4 : w87.cell? ⟨gb501, 4, none⟩ = some (.int .i64 a1_4) := xvc BK501.out; have hcz89_5 : w87.cell? ⟨gb501, 5, none⟩ = some (.int .i64 a1_5) := xvc BK501.out; have hcz89_6 : w87.cell? ⟨gb501, 6, none⟩ = some (.slice none 0 0) := xvc BK501.out; have hfz89_0 := blk_frozen BK501.out 0; have hfz89_1 := blk_frozen BK501.out 1; have hfz89_2 := blk_frozen BK501.out 2; have hfz89_3 := blk_frozen BK501.out 3; have hfz89_4 := blk_frozen BK501.out 4; have hfz89_5 := blk_frozen BK501.out 5; have hfz89_6 := blk_frozen BK501.out 6; have hcz90_0 : w87.cell? ⟨gb508, 0, none⟩ = some (.string ((rd_T191 t504 a1_0).f0)) := xvc BK508.out; have hcz90_1 : w87.cell? ⟨gb508, 1, none⟩ = some (.int .i64 ((rd_T191 t504 a1_0).f1)) := xvc BK508.out; have hcz90_2 : w87.cell? ⟨gb508, 2, none⟩ = some (.int .i64 ((rd_T191 t504 a1_0).f2)) := xvc BK508.out; have hcz90_3 : w87.cell? ⟨gb508, 3, none⟩ = some (.int .i64 ((rd_T191 t504 a1_0).f3)) := xvc BK508.out; have hcz90_4 : w87.cell? ⟨gb508, 4, none⟩ = some (.bool ((rd_T191 t504 a1_0).f4)) := xvc BK508.out; have hcz90_5 : w87.cell? ⟨gb508, 5, none⟩ = some (.bool ((rd_T191 t504 a1_0).f5)) := xvc BK508.out; have hcz90_6 : w87.cell? ⟨gb508, 6, none⟩ = some (.bool ((rd_T191 t504 a1_0).f6)) := xvc BK508.out; have hfz90_0 := blk_frozen BK508.out 0; have hfz90_1 := blk_frozen BK508.out 1; have hfz90_2 := blk_frozen BK508.out 2; have hfz90_3 := blk_frozen BK508.out 3; have hfz90_4 := blk_frozen BK508.out 4; have hfz90_5 := blk_frozen BK508.out 5; have hfz90_6 := blk_frozen BK508.out 6) | (go_at_call 226; (with_reducible refine (impl_isTable.calls a0_0 a0_1 a1_0 a1_1 a1_2 a1_3 a1_4 a1_5 a1_6 ((rd_T191 t504 a1_0).f6) t516 _ A78.out).mono ?_); rintro e w91 ⟨rfl, hb⟩; have n0_ := Aside0.mk (xvl BK500.out hb); have n1_ := Aside0.mk (xvl BK501.out hb); have n2_ := Aside0.mk (xvl BK508.out hb); have n3_ := Aside0.mk (below_step wv9 hb); clear BK500; clear BK501; clear BK508; clear HB; have BK500 := n0_; have BK501 := n1_; have BK508 := n2_; have HB := n3_; clear n0_ n1_ n2_ n3_; (try clear hb); (try clear hb2); (try clear hk); (try clear hi)))
              go_ret
              exact ⟨wv3, wv9⟩
             ·replace c77 := Bool.eq_false_iff.mpr c77
              subst c77
              have H1 : (some false) = some r := by rw [if_neg (show ¬ (false = true) by decide)] at H; exact H
              clear H
              have H := H1
              clear H1
              obtain rfl := Option.some.inj H
              have hnb92 := NB508_500.out
              have hnc92 := NB500_508.out
              have hnb93 := NB508_501.out
              have hnc93 := NB501_508.out
              have hcz94_0 : wc.cell? ⟨gb508, 0, none⟩ = some (.string ((rd_T191 t504 a1_0).f0)) := xvc BK508.out
              have hcz94_1 : wc.cell? ⟨gb508, 1, none⟩ = some (.int .i64 ((rd_T191 t504 a1_0).f1)) := xvc BK508.out
              have hcz94_2 : wc.cell? ⟨gb508, 2, none⟩ = some (.int .i64 ((rd_T191 t504 a1_0).f2)) := xvc BK508.out
              have hcz94_3 : wc.cell? ⟨gb508, 3, none⟩ = some (.int .i64 ((rd_T191 t504 a1_0).f3)) := xvc BK508.out
              have hcz94_4 : wc.cell? ⟨gb508, 4, none⟩ = some (.bool ((rd_T191 t504 a1_0).f4)) := xvc BK508.out
              have hcz94_5 : wc.cell? ⟨gb508, 5, none⟩ = some (.bool ((rd_T191 t504 a1_0).f5)) := xvc BK508.out
              have hcz94_6 : wc.cell? ⟨gb508, 6, none⟩ = some (.bool ((rd_T191 t504 a1_0).f6)) := xvc BK508.out
              have hfz94_0 := blk_frozen BK508.out 0
              have hfz94_1 := blk_frozen BK508.out 1
              have hfz94_2 := blk_frozen BK508.out 2
              have hfz94_3 := blk_frozen BK508.out 3
              have hfz94_4 := blk_frozen BK508.out 4
              have hfz94_5 := blk_frozen BK508.out 5
              have hfz94_6 := blk_frozen BK508.out 6
              have hnb95 := NB501_500.out
              have hnc95 := NB500_501.out
              have hcz96_0 : wc.cell? ⟨gb501, 0, none⟩ = some (.int .i64 a1_0) := xvc BK501.out
              have hcz96_1 : wc.cell? ⟨gb501, 1, none⟩ = some (.int .i64 a1_1) := xvc BK501.out
              have hcz96_2 : wc.cell? ⟨gb501, 2, none⟩ = some (.int .i64 a1_2) := xvc BK501.out
              have hcz96_3 : wc.cell? ⟨gb501, 3, none⟩ = some (.int .i64 a1_3) := xvc BK501.out
              have hcz96_4 : wc.cell? ⟨gb501, 4, none⟩ = some (.int .i64 a1_4) := xvc BK501.out
              have hcz96_5 : wc.cell? ⟨gb501, 5, none⟩ = some (.int .i64 a1_5) := xvc BK501.out
              have hcz96_6 : wc.cell? ⟨gb501, 6, none⟩ = some (.slice none 0 0) := xvc BK501.out
              have hfz96_0 := blk_frozen BK501.out 0
              have hfz96_1 := blk_frozen BK501.out 1
              have hfz96_2 := blk_frozen BK501.out 2
              have hfz96_3 := blk_frozen BK501.out 3
              have hfz96_4 := blk_frozen BK501.out 4
              have hfz96_5 := blk_frozen BK501.out 5
              have hfz96_6 := blk_frozen BK501.out 6
              go_wp2_with (first | (go_at_call 223; (with_reducible refine (impl_isField.calls ((rd_T191 t504 a1_0).f1) a1_1 true _ A68.out).mono ?_); rintro e w' ⟨rfl, ⟨nd, rfl⟩⟩) | (go_at_call 223; (with_reducible refine (impl_isField.calls ((rd_T191 t504 a1_0).f2) a1_2 true _ A70.out).mono ?_); rintro e w' ⟨rfl, ⟨nd, rfl⟩⟩) | (go_at_call 223; (with_reducible refine (impl_isField.calls ((rd_T191 t504 a1_0).f3) a1_3 true _ A72.out).mono ?_); rintro e w' ⟨rfl, ⟨nd, rfl⟩⟩) | (go_at_call 224; (with_reducible refine (impl_isStride.calls kj19 a1_0 a1_1 a1_2 a1_3 a1_4 a1_5 a1_6 true _ A74.out).mono ?_); rintro e w97 ⟨rfl, hb⟩; have n0_ := Aside0.mk (xvl BK500.out hb); have n1_ := Aside0.mk (xvl BK501.out hb); have n2_ := Aside0.mk (xvl BK508.out hb); have n3_ := Aside0.mk (below_step wv9 hb); clear BK500; clear BK501; clear BK508; clear HB; have BK500 := n0_; have BK501 := n1_; have BK508 := n2_; have HB := n3_; clear n0_ n1_ n2_ n3_; (try clear hb); (try clear hb2); (try clear hk); (try clear hi); have hcz98_0 : w97.cell? ⟨gb500, 0, none⟩ = some (.int .i64 a0_0) := xvc BK500.out; have hcz98_1 : w97.cell? ⟨gb500, 1, none⟩ = some (.int .i64 a0_1) := xvc BK500.out; have hfz98_0 := blk_frozen BK500.out 0; have hfz98_1 := blk_frozen BK500.out 1; have hcz99_0 : w97.cell? ⟨gb501, 0, none⟩ = some (.int .i64 a1_0) := xvc BK501.out; have hcz99_1 : w97.cell? ⟨gb501, 1, none⟩ = some (.int .i64 a1_1) := xvc BK501.out; have hcz99_2 : w97.cell? ⟨gb501, 2, none⟩ = some (.int .i64 a1_2) := xvc BK501.out; have hcz99_3 : w97.cell? ⟨gb501, 3, none⟩ = some (.int .i64 a1_3) := xvc BK501.out; have hcz99_4 : w97.cell? ⟨gb501, 4, none⟩ = some (.int .i64 a1_4) := xvc BK501.out; have hcz99_5 : w97.cell? ⟨gb501, 5, none⟩ = some (.int .i64 a1_5) := xvc BK501.out; have hcz99_6 : w97.cell? ⟨gb501, 6, none⟩ = some (.slice none 0 0) := xvc BK501.out; have hfz99_0 := blk_frozen BK501.out 0; have hfz99_1 := blk_frozen BK501.out 1; have hfz99_2 := blk_frozen BK501.out 2; have hfz99_3 := blk_frozen BK501.out 3; have hfz99_4 := blk_frozen BK501.out 4; have hfz99_5 := blk_frozen BK501.out 5; have hfz99_6 := blk_frozen BK501.out 6) | (go_at_call 225; (with_reducible refine (impl_isI.calls kj19 a0_0 a0_1 a1_0 a1_1 a1_2 a1_3 a1_4 a1_5 a1_6 false _ A76.out).mono ?_); rintro e w100 ⟨rfl, hb⟩; have n0_ := Aside0.mk (xvl BK500.out hb); have n1_ := Aside0.mk (xvl BK501.out hb); have n2_ := Aside0.mk (xvl BK508.out hb); have n3_ := Aside0.mk (below_step wv9 hb); clear BK500; clear BK501; clear BK508; clear HB; have BK500 := n0_; have BK501 := n1_; have BK508 := n2_; have HB := n3_; clear n0_ n1_ n2_ n3_; (try clear hb); (try clear hb2); (try clear hk); (try clear hi)))
              go_ret
              exact ⟨wv3, wv9⟩
            ·replace c75 := Bool.eq_false_iff.mpr c75
             subst c75
             have H1 : (some false) = some r := by rw [if_neg (show ¬ (false = true) by decide)] at H; exact H
             clear H
             have H := H1
             clear H1
             obtain rfl := Option.some.inj H
             have hnb101 := NB508_500.out
             have hnc101 := NB500_508.out
             have hnb102 := NB508_501.out
             have hnc102 := NB501_508.out
             have hcz103_0 : wc.cell? ⟨gb508, 0, none⟩ = some (.string ((rd_T191 t504 a1_0).f0)) := xvc BK508.out
             have hcz103_1 : wc.cell? ⟨gb508, 1, none⟩ = some (.int .i64 ((rd_T191 t504 a1_0).f1)) := xvc BK508.out
             have hcz103_2 : wc.cell? ⟨gb508, 2, none⟩ = some (.int .i64 ((rd_T191 t504 a1_0).f2)) := xvc BK508.out
             have hcz103_3 : wc.cell? ⟨gb508, 3, none⟩ = some (.int .i64 ((rd_T191 t504 a1_0).f3)) := xvc BK508.out
             have hcz103_4 : wc.cell? ⟨gb508, 4, none⟩ = some (.bool ((rd_T191 t504 a1_0).f4)) := xvc BK508.out
             have hcz103_5 : wc.cell? ⟨gb508, 5, none⟩ = some (.bool ((rd_T191 t504 a1_0).f5)) := xvc BK508.out
             have hcz103_6 : wc.cell? ⟨gb508, 6, none⟩ = some (.bool ((rd_T191 t504 a1_0).f6)) := xvc BK508.out
             have hfz103_0 := blk_frozen BK508.out 0
             have hfz103_1 := blk_frozen BK508.out 1
             have hfz103_2 := blk_frozen BK508.out 2
             have hfz103_3 := blk_frozen BK508.out 3
             have hfz103_4 := blk_frozen BK508.out 4
             have hfz103_5 := blk_frozen BK508.out 5
             have hfz103_6 := blk_frozen BK508.out 6
             have hnb104 := NB501_500.out
             have hnc104 := NB500_501.out
             have hcz105_0 : wc.cell? ⟨gb501, 0, none⟩ = some (.int .i64 a1_0) := xvc BK501.out
             have hcz105_1 : wc.cell? ⟨gb501, 1, none⟩ = some (.int .i64 a1_1) := xvc BK501.out
             have hcz105_2 : wc.cell? ⟨gb501, 2, none⟩ = some (.int .i64 a1_2) := xvc BK501.out
             have hcz105_3 : wc.cell? ⟨gb501, 3, none⟩ = some (.int .i64 a1_3) := xvc BK501.out
             have hcz105_4 : wc.cell? ⟨gb501, 4, none⟩ = some (.int .i64 a1_4) := xvc BK501.out
             have hcz105_5 : wc.cell? ⟨gb501, 5, none⟩ = some (.int .i64 a1_5) := xvc BK501.out
             have hcz105_6 : wc.cell? ⟨gb501, 6, none⟩ = some (.slice none 0 0) := xvc BK501.out
             have hfz105_0 := blk_frozen BK501.out 0
             have hfz105_1 := blk_frozen BK501.out 1
             have hfz105_2 := blk_frozen BK501.out 2
             have hfz105_3 := blk_frozen BK501.out 3
             have hfz105_4 := blk_frozen BK501.out 4
             have hfz105_5 := blk_frozen BK501.out 5
             have hfz105_6 := blk_frozen BK501.out 6
             go_wp2_with (first | (go_at_call 223; (with_reducible refine (impl_isField.calls ((rd_T191 t504 a1_0).f1) a1_1 true _ A68.out).mono ?_); rintro e w' ⟨rfl, ⟨nd, rfl⟩⟩) | (go_at_call 223; (with_reducible refine (impl_isField.calls ((rd_T191 t504 a1_0).f2) a1_2 true _ A70.out).mono ?_); rintro e w' ⟨rfl, ⟨nd, rfl⟩⟩) | (go_at_call 223; (with_reducible refine (impl_isField.calls ((rd_T191 t504 a1_0).f3) a1_3 true _ A72.out).mono ?_); rintro e w' ⟨rfl, ⟨nd, rfl⟩⟩) | (go_at_call 224; (with_reducible refine (impl_isStride.calls kj19 a1_0 a1_1 a1_2 a1_3 a1_4 a1_5 a1_6 false _ A74.out).mono ?_); rintro e w106 ⟨rfl, hb⟩; have n0_ := Aside0.mk (xvl BK500.out hb); have n1_ := Aside0.mk (xvl BK501.out hb); have n2_ := Aside0.mk (xvl BK508.out hb); have n3_ := Aside0.mk (below_step wv9 hb); clear BK500; clear BK501; clear BK508; clear HB; have BK500 := n0_; have BK501 := n1_; have BK508 := n2_; have HB := n3_; clear n0_ n1_ n2_ n3_; (try clear hb); (try clear hb2); (try clear hk); (try clear hi)))
             go_ret
             exact ⟨wv3, wv9⟩
           ·replace c73 := Bool.eq_false_iff.mpr c73
            subst c73
            have H1 : (some false) = some r := by rw [if_neg (show ¬ (false = true) by decide)] at H; exact H
            clear H
            have H := H1
            clear H1
            obtain rfl := Option.some.inj H
            have hnb107 := NB508_500.out
            have hnc107 := NB500_508.out
            have hnb108 := NB508_501.out
            have hnc108 := NB501_508.out
            have hcz109_0 : wc.cell? ⟨gb508, 0, none⟩ = some (.string ((rd_T191 t504 a1_0).f0)) := xvc BK508.out
            have hcz109_1 : wc.cell? ⟨gb508, 1, none⟩ = some (.int .i64 ((rd_T191 t504 a1_0).f1)) := xvc BK508.out
            have hcz109_2 : wc.cell? ⟨gb508, 2, none⟩ = some (.int .i64 ((rd_T191 t504 a1_0).f2)) := xvc BK508.out
            have hcz109_3 : wc.cell? ⟨gb508, 3, none⟩ = some (.int .i64 ((rd_T191 t504 a1_0).f3)) := xvc BK508.out
            have hcz109_4 : wc.cell? ⟨gb508, 4, none⟩ = some (.bool ((rd_T191 t504 a1_0).f4)) := xvc BK508.out
            have hcz109_5 : wc.cell? ⟨gb508, 5, none⟩ = some (.bool ((rd_T191 t504 a1_0).f5)) := xvc BK508.out
            have hcz109_6 : wc.cell? ⟨gb508, 6, none⟩ = some (.bool ((rd_T191 t504 a1_0).f6)) := xvc BK508.out
            have hfz109_0 := blk_frozen BK508.out 0
            have hfz109_1 := blk_frozen BK508.out 1
            have hfz109_2 := blk_frozen BK508.out 2
            have hfz109_3 := blk_frozen BK508.out 3
            have hfz109_4 := blk_frozen BK508.out 4
            have hfz109_5 := blk_frozen BK508.out 5
            have hfz109_6 := blk_frozen BK508.out 6
            have hnb110 := NB501_500.out
            have hnc110 := NB500_501.out
            have hcz111_0 : wc.cell? ⟨gb501, 0, none⟩ = some (.int .i64 a1_0) := xvc BK501.out
            have hcz111_1 : wc.cell? ⟨gb501, 1, none⟩ = some (.int .i64 a1_1) := xvc BK501.out
            have hcz111_2 : wc.cell? ⟨gb501, 2, none⟩ = some (.int .i64 a1_2) := xvc BK501.out
            have hcz111_3 : wc.cell? ⟨gb501, 3, none⟩ = some (.int .i64 a1_3) := xvc BK501.out
            have hcz111_4 : wc.cell? ⟨gb501, 4, none⟩ = some (.int .i64 a1_4) := xvc BK501.out
            have hcz111_5 : wc.cell? ⟨gb501, 5, none⟩ = some (.int .i64 a1_5) := xvc BK501.out
            have hcz111_6 : wc.cell? ⟨gb501, 6, none⟩ = some (.slice none 0 0) := xvc BK501.out
            have hfz111_0 := blk_frozen BK501.out 0
            have hfz111_1 := blk_frozen BK501.out 1
            have hfz111_2 := blk_frozen BK501.out 2
            have hfz111_3 := blk_frozen BK501.out 3
            have hfz111_4 := blk_frozen BK501.out 4
            have hfz111_5 := blk_frozen BK501.out 5
            have hfz111_6 := blk_frozen BK501.out 6
            go_wp2_with (first | (go_at_call 223; (with_reducible refine (impl_isField.calls ((rd_T191 t504 a1_0).f1) a1_1 true _ A68.out).mono ?_); rintro e w' ⟨rfl, ⟨nd, rfl⟩⟩) | (go_at_call 223; (with_reducible refine (impl_isField.calls ((rd_T191 t504 a1_0).f2) a1_2 true _ A70.out).mono ?_); rintro e w' ⟨rfl, ⟨nd, rfl⟩⟩) | (go_at_call 223; (with_reducible refine (impl_isField.calls ((rd_T191 t504 a1_0).f3) a1_3 false _ A72.out).mono ?_); rintro e w' ⟨rfl, ⟨nd, rfl⟩⟩))
            go_ret
            exact ⟨wv3, wv9⟩
          ·replace c71 := Bool.eq_false_iff.mpr c71
           subst c71
           have H1 : (some false) = some r := by rw [if_neg (show ¬ (false = true) by decide)] at H; exact H
           clear H
           have H := H1
           clear H1
           obtain rfl := Option.some.inj H
           have hnb112 := NB508_500.out
           have hnc112 := NB500_508.out
           have hnb113 := NB508_501.out
           have hnc113 := NB501_508.out
           have hcz114_0 : wc.cell? ⟨gb508, 0, none⟩ = some (.string ((rd_T191 t504 a1_0).f0)) := xvc BK508.out
           have hcz114_1 : wc.cell? ⟨gb508, 1, none⟩ = some (.int .i64 ((rd_T191 t504 a1_0).f1)) := xvc BK508.out
           have hcz114_2 : wc.cell? ⟨gb508, 2, none⟩ = some (.int .i64 ((rd_T191 t504 a1_0).f2)) := xvc BK508.out
           have hcz114_3 : wc.cell? ⟨gb508, 3, none⟩ = some (.int .i64 ((rd_T191 t504 a1_0).f3)) := xvc BK508.out
           have hcz114_4 : wc.cell? ⟨gb508, 4, none⟩ = some (.bool ((rd_T191 t504 a1_0).f4)) := xvc BK508.out
           have hcz114_5 : wc.cell? ⟨gb508, 5, none⟩ = some (.bool ((rd_T191 t504 a1_0).f5)) := xvc BK508.out
           have hcz114_6 : wc.cell? ⟨gb508, 6, none⟩ = some (.bool ((rd_T191 t504 a1_0).f6)) := xvc BK508.out
           have hfz114_0 := blk_frozen BK508.out 0
           have hfz114_1 := blk_frozen BK508.out 1
           have hfz114_2 := blk_frozen BK508.out 2
           have hfz114_3 := blk_frozen BK508.out 3
           have hfz114_4 := blk_frozen BK508.out 4
           have hfz114_5 := blk_frozen BK508.out 5
           have hfz114_6 := blk_frozen BK508.out 6
           have hnb115 := NB501_500.out
           have hnc115 := NB500_501.out
           have hcz116_0 : wc.cell? ⟨gb501, 0, none⟩ = some (.int .i64 a1_0) := xvc BK501.out
           have hcz116_1 : wc.cell? ⟨gb501, 1, none⟩ = some (.int .i64 a1_1) := xvc BK501.out
           have hcz116_2 : wc.cell? ⟨gb501, 2, none⟩ = some (.int .i64 a1_2) := xvc BK501.out
           have hcz116_3 : wc.cell? ⟨gb501, 3, none⟩ = some (.int .i64 a1_3) := xvc BK501.out
           have hcz116_4 : wc.cell? ⟨gb501, 4, none⟩ = some (.int .i64 a1_4) := xvc BK501.out
           have hcz116_5 : wc.cell? ⟨gb501, 5, none⟩ = some (.int .i64 a1_5) := xvc BK501.out
           have hcz116_6 : wc.cell? ⟨gb501, 6, none⟩ = some (.slice none 0 0) := xvc BK501.out
           have hfz116_0 := blk_frozen BK501.out 0
           have hfz116_1 := blk_frozen BK501.out 1
           have hfz116_2 := blk_frozen BK501.out 2
           have hfz116_3 := blk_frozen BK501.out 3
           have hfz116_4 := blk_frozen BK501.out 4
           have hfz116_5 := blk_frozen BK501.out 5
           have hfz116_6 := blk_frozen BK501.out 6
           go_wp2_with (first | (go_at_call 223; (with_reducible refine (impl_isField.calls ((rd_T191 t504 a1_0).f1) a1_1 true _ A68.out).mono ?_); rintro e w' ⟨rfl, ⟨nd, rfl⟩⟩) | (go_at_call 223; (with_reducible refine (impl_isField.calls ((rd_T191 t504 a1_0).f2) a1_2 false _ A70.out).mono ?_); rintro e w' ⟨rfl, ⟨nd, rfl⟩⟩))
           go_ret
           exact ⟨wv3, wv9⟩
         ·replace c69 := Bool.eq_false_iff.mpr c69
          subst c69
          have H1 : (some false) = some r := by rw [if_neg (show ¬ (false = true) by decide)] at H; exact H
          clear H
          have H := H1
          clear H1
          obtain rfl := Option.some.inj H
          have hnb117 := NB508_500.out
          have hnc117 := NB500_508.out
          have hnb118 := NB508_501.out
          have hnc118 := NB501_508.out
          have hcz119_0 : wc.cell? ⟨gb508, 0, none⟩ = some (.string ((rd_T191 t504 a1_0).f0)) := xvc BK508.out
          have hcz119_1 : wc.cell? ⟨gb508, 1, none⟩ = some (.int .i64 ((rd_T191 t504 a1_0).f1)) := xvc BK508.out
          have hcz119_2 : wc.cell? ⟨gb508, 2, none⟩ = some (.int .i64 ((rd_T191 t504 a1_0).f2)) := xvc BK508.out
          have hcz119_3 : wc.cell? ⟨gb508, 3, none⟩ = some (.int .i64 ((rd_T191 t504 a1_0).f3)) := xvc BK508.out
          have hcz119_4 : wc.cell? ⟨gb508, 4, none⟩ = some (.bool ((rd_T191 t504 a1_0).f4)) := xvc BK508.out
          have hcz119_5 : wc.cell? ⟨gb508, 5, none⟩ = some (.bool ((rd_T191 t504 a1_0).f5)) := xvc BK508.out
          have hcz119_6 : wc.cell? ⟨gb508, 6, none⟩ = some (.bool ((rd_T191 t504 a1_0).f6)) := xvc BK508.out
          have hfz119_0 := blk_frozen BK508.out 0
          have hfz119_1 := blk_frozen BK508.out 1
          have hfz119_2 := blk_frozen BK508.out 2
          have hfz119_3 := blk_frozen BK508.out 3
          have hfz119_4 := blk_frozen BK508.out 4
          have hfz119_5 := blk_frozen BK508.out 5
          have hfz119_6 := blk_frozen BK508.out 6
          have hnb120 := NB501_500.out
          have hnc120 := NB500_501.out
          have hcz121_0 : wc.cell? ⟨gb501, 0, none⟩ = some (.int .i64 a1_0) := xvc BK501.out
          have hcz121_1 : wc.cell? ⟨gb501, 1, none⟩ = some (.int .i64 a1_1) := xvc BK501.out
          have hcz121_2 : wc.cell? ⟨gb501, 2, none⟩ = some (.int .i64 a1_2) := xvc BK501.out
          have hcz121_3 : wc.cell? ⟨gb501, 3, none⟩ = some (.int .i64 a1_3) := xvc BK501.out
          have hcz121_4 : wc.cell? ⟨gb501, 4, none⟩ = some (.int .i64 a1_4) := xvc BK501.out
          have hcz121_5 : wc.cell? ⟨gb501, 5, none⟩ = some (.int .i64 a1_5) := xvc BK501.out
          have hcz121_6 : wc.cell? ⟨gb501, 6, none⟩ = some (.slice none 0 0) := xvc BK501.out
          have hfz121_0 := blk_frozen BK501.out 0
          have hfz121_1 := blk_frozen BK501.out 1
          have hfz121_2 := blk_frozen BK501.out 2
          have hfz121_3 := blk_frozen BK501.out 3
          have hfz121_4 := blk_frozen BK501.out 4
          have hfz121_5 := blk_frozen BK501.out 5
          have hfz121_6 := blk_frozen BK501.out 6
          go_wp2_with (first | (go_at_call 223; (with_reducible refine (impl_isField.calls ((rd_T191 t504 a1_0).f1) a1_1 false _ A68.out).mono ?_); rintro e w' ⟨rfl, ⟨nd, rfl⟩⟩))
          go_ret
          exact ⟨wv3, wv9⟩
        ·replace c67 := Bool.eq_false_iff.mpr c67
         subst c67
         have H1 : (some false) = some r := by rw [if_neg (show ¬ (false = true) by decide)] at H; exact H
         clear H
         have H := H1
         clear H1
         obtain rfl := Option.some.inj H
         go_wp2
         go_ret
         exact ⟨wv3, wv9⟩
     ·rw [if_neg c19] at H
      exact absurd H (by simp)
    ·rw [if_neg c18] at H
     exact absurd H (by simp)

end Go.Proofs.Ytpfoeologjacfaa.V
