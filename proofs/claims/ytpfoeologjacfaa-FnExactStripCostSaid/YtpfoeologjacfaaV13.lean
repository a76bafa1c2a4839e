-- Written by a program of this session (wip/tools) over the kit's print.
-- COMPACT
import Derived.Test.YtpfoeologjacfaaV0
import Derived.Test.YtpfoeologjacfaaV7
namespace Go.Proofs.Ytpfoeologjacfaa.V
open Go.RowKit Go.Proofs.YtpfoeologjacfaaW.PrintWords Go.Proofs.YtpfoeologjacfaaW.PrintLast Go.Proofs.YtpfoeologjacfaaW.PrintMore
attribute [local go_sem] max2_int min2_int max_two min_two max_three min_three max_four min_four   -- for this text's walks alone
set_option linter.unusedVariables false
set_option linter.unusedSimpArgs false

/-! ### impl_isMaskNumber: function 222 -/
def impl_isMaskNumber.f (a0 : Int) : Option (Bool) := (impl_within.f a0 0 3).bind fun t481 => (some t481)
set_option maxHeartbeats 8000000 in
set_option maxRecDepth 100000 in
theorem impl_isMaskNumber.calls (a0 : Int) (r : Bool) (w : World) (h : impl_isMaskNumber.f a0 = some r) :
  Calls Try.prog 222 #[.int .i64 a0] w fun e w' => e = .returned (.bool r) ∧ Drawn0 w w' := by
 have H : ((impl_within.f a0 0 3).bind fun t481 => (some t481)) = some r := h
 clear h
 replace H := Option.bind_eq_some_iff.mp H
 obtain ⟨t481, A20, H⟩ := H
 replace H : (some t481) = some r := H
 have A2 := Aside0.mk A20
 clear A20
 obtain rfl := Option.some.inj H
 go_enter Try.func222, Try.ntmps222
 go_wp2_with (first | ((with_reducible refine gate_callee (f := 81) rfl ?_); refine goesL_ (some 4) rfl rfl Try.func81 (by kernel_rfl) rfl #[.int .i64 a0, .int .i64 0, .int .i64 3] rfl wv1 ?_; (with_reducible refine (impl_within.calls a0 0 3 t481 _ A2.out).mono ?_); rintro e w' ⟨rfl, ⟨nd, rfl⟩⟩; refine ⟨_, rfl, ?_⟩))
 go_ret
 exact ⟨wv6, wv14⟩

/-! ### impl_isField: function 223 -/
def impl_isField.f (a0 : Int) (a1 : Int) : Option (Bool) := if a0 = 1 then ((impl_within.f a1 0 7).bind fun t482 => (some t482)) else (if a0 = 2 then ((impl_isMaskNumber.f a1).bind fun t483 => (some t483)) else (if a0 = 3 then (some true) else (some (a1 == 0))))
set_option maxHeartbeats 8000000 in
set_option maxRecDepth 100000 in
theorem impl_isField.calls (a0 : Int) (a1 : Int) (r : Bool) (w : World) (h : impl_isField.f a0 a1 = some r) :
  Calls Try.prog 223 #[.int .i64 a0, .int .i64 a1] w fun e w' => e = .returned (.bool r) ∧ Drawn0 w w' := by
 have H : (if a0 = 1 then ((impl_within.f a1 0 7).bind fun t482 => (some t482)) else (if a0 = 2 then ((impl_isMaskNumber.f a1).bind fun t483 => (some t483)) else (if a0 = 3 then (some true) else (some (a1 == 0))))) = some r := h
 clear h
 by_cases c3 : a0 = 1
 ·rw [if_pos c3] at H
  have c3b0 : (a0 == 1) = true := beq_iff_eq.mpr c3
  have c3b1 : (a0 != 1) = false := bne_eq_false_iff_eq.mpr c3
  clear c3
  replace H := Option.bind_eq_some_iff.mp H
  obtain ⟨t482, A40, H⟩ := H
  replace H : (some t482) = some r := H
  have A4 := Aside0.mk A40
  clear A40
  obtain rfl := Option.some.inj H
  go_enter Try.func223, Try.ntmps223
  go_wp2_with (first | ((with_reducible refine gate_callee (f := 81) rfl ?_); refine goesL_ (some 9) rfl rfl Try.func81 (by kernel_rfl) rfl #[.int .i64 a1, .int .i64 0, .int .i64 7] rfl wv1 ?_; (with_reducible refine (impl_within.calls a1 0 7 t482 _ A4.out).mono ?_); rintro e w' ⟨rfl, ⟨nd, rfl⟩⟩; refine ⟨_, rfl, ?_⟩))
  go_ret
  exact ⟨wv6, wv14⟩
 ·rw [if_neg c3] at H
  have c3b0 : (a0 == 1) = false := beq_eq_false_iff_ne.mpr c3
  have c3b1 : (a0 != 1) = true := bne_iff_ne.mpr c3
  by_cases c5 : a0 = 2
  ·rw [if_pos c5] at H
   have c5b0 : (a0 == 2) = true := beq_iff_eq.mpr c5
   have c5b1 : (a0 != 2) = false := bne_eq_false_iff_eq.mpr c5
   clear c5
   replace H := Option.bind_eq_some_iff.mp H
   obtain ⟨t483, A60, H⟩ := H
   replace H : (some t483) = some r := H
   have A6 := Aside0.mk A60
   clear A60
   obtain rfl := Option.some.inj H
   go_enter Try.func223, Try.ntmps223
   go_wp2_with (first | ((with_reducible refine gate_callee (f := 222) rfl ?_); refine goesL_ (some 13) rfl rfl Try.func222 (by kernel_rfl) rfl #[.int .i64 a1] rfl wv1 ?_; (with_reducible refine (impl_isMaskNumber.calls a1 t483 _ A6.out).mono ?_); rintro e w' ⟨rfl, ⟨nd, rfl⟩⟩; refine ⟨_, rfl, ?_⟩))
   go_ret
   exact ⟨wv6, wv14⟩
  ·rw [if_neg c5] at H
   have c5b0 : (a0 == 2) = false := beq_eq_false_iff_ne.mpr c5
   have c5b1 : (a0 != 2) = true := bne_iff_ne.mpr c5
   by_cases c7 : a0 = 3
   ·rw [if_pos c7] at H
    have c7b0 : (a0 == 3) = true := beq_iff_eq.mpr c7
    have c7b1 : (a0 != 3) = false := bne_eq_false_iff_eq.mpr c7
    clear c7
    obtain rfl := Option.some.inj H
    go_enter Try.func223, Try.ntmps223
    go_wp2
    go_ret
    exact ⟨wv6, wv14⟩
   ·rw [if_neg c7] at H
    have c7b0 : (a0 == 3) = false := beq_eq_false_iff_ne.mpr c7
    have c7b1 : (a0 != 3) = true := bne_iff_ne.mpr c7
    obtain rfl := Option.some.inj H
    go_enter Try.func223, Try.ntmps223
    go_wp2
    go_ret
    exact ⟨wv6, wv14⟩

/-! ### impl_isStride: function 224 -/
def impl_isStride.j0 : Nat → Int → Bool → Int → Int → Int → Int → Int → Int → NRow → Option (Bool)
 | 0, _, _, _, _, _, _, _, _, _ => none
 | k + 1, x4, x5, x485000, x485001, x485002, x485003, x485004, x485005, x485006 => if x5 = true then ((impl_within.f x485003 1 8).bind fun t485 => (some t485)) else (if x4 = 9 then ((impl_within.f x485003 0 8).bind fun t486 => (some t486)) else (some true))
def impl_isStride.f (k : Nat) (a0_0 : Int) (a0_1 : Int) (a0_2 : Int) (a0_3 : Int) (a0_4 : Int) (a0_5 : Int) (a0_6 : NRow) : Option (Bool) := if a0_0 = 0 then (impl_isStride.j0 k a0_0 (a0_0 == 0) a0_0 a0_1 a0_2 a0_3 a0_4 a0_5 a0_6) else (impl_isStride.j0 k a0_0 (a0_0 == 1) a0_0 a0_1 a0_2 a0_3 a0_4 a0_5 a0_6)
theorem impl_isStride.mono_l : ∀ k, (∀ y0 y1 y2 y3 y4 y5 y6 y7 y8, LeO (impl_isStride.j0 k y0 y1 y2 y3 y4 y5 y6 y7 y8) (impl_isStride.j0 (k + 1) y0 y1 y2 y3 y4 y5 y6 y7 y8))
 | 0 => fun _ _ _ _ _ _ _ _ _ r h => by simp [impl_isStride.j0] at h
 | k + 1 => by
  have ih0 := impl_isStride.mono_l k
  ·intro y0 y1 y2 y3 y4 y5 y6 y7 y8
   unfold impl_isStride.j0
   repeat' first
   | (with_reducible exact ih0 _ _ _ _ _ _ _ _ _)
   | (with_reducible exact LeO.refl _)
   | (with_reducible exact LeO.none _)
   | (with_reducible refine LeO.ite ?_ ?_)
   | (with_reducible refine LeO.bind ?_ (fun _ => ?_))
   | exact ih0 _ _ _ _ _ _ _ _ _
   | exact LeO.none _
   | refine LeO.ite ?_ ?_
   | refine LeO.bind ?_ (fun _ => ?_)
theorem impl_isStride.mono : ∀ a0 a1 a2 a3 a4 a5 a6 k, LeO (impl_isStride.f k a0 a1 a2 a3 a4 a5 a6) (impl_isStride.f (k + 1) a0 a1 a2 a3 a4 a5 a6) := by
 intro a0 a1 a2 a3 a4 a5 a6 k
 have ih0 := impl_isStride.mono_l k
 unfold impl_isStride.f
 repeat' first
   | (with_reducible exact ih0 _ _ _ _ _ _ _ _ _)
   | (with_reducible exact LeO.refl _)
   | (with_reducible exact LeO.none _)
   | (with_reducible refine LeO.ite ?_ ?_)
   | (with_reducible refine LeO.bind ?_ (fun _ => ?_))
   | exact ih0 _ _ _ _ _ _ _ _ _
   | exact LeO.none _
   | refine LeO.ite ?_ ?_
   | refine LeO.bind ?_ (fun _ => ?_)
set_option maxHeartbeats 8000000 in
set_option maxRecDepth 100000 in
theorem impl_isStride.calls (k : Nat) (a0_0 : Int) (a0_1 : Int) (a0_2 : Int) (a0_3 : Int) (a0_4 : Int) (a0_5 : Int) (a0_6 : NRow) (r : Bool) (w : World) (h : impl_isStride.f k a0_0 a0_1 a0_2 a0_3 a0_4 a0_5 a0_6 = some r) :
  Calls Try.prog 224 #[.agg #[.int .i64 a0_0, .int .i64 a0_1, .int .i64 a0_2, .int .i64 a0_3, .int .i64 a0_4, .int .i64 a0_5, .slice none 0 0]] w fun e w' => e = .returned (.bool r) ∧ Below w.heap.size w w' := by
 have hu142 := Try.underlying142
 have HB := Aside0.mk (Below.refl w.heap.size w)
 have H : (if a0_0 = 0 then (impl_isStride.j0 k a0_0 (a0_0 == 0) a0_0 a0_1 a0_2 a0_3 a0_4 a0_5 a0_6) else (impl_isStride.j0 k a0_0 (a0_0 == 1) a0_0 a0_1 a0_2 a0_3 a0_4 a0_5 a0_6)) = some r := h
 clear h
 have HC2 := Aside0.mk H
 clear H
 go_enter Try.func224, Try.ntmps224
 go_upto_if 5 with (first | ((with_reducible refine gate_dst (N := 1) rfl ?_); refine box_event ?hg (N := 1) ?hd (cs := #[.int .i64 a0_0, .int .i64 a0_1, .int .i64 a0_2, .int .i64 a0_3, .int .i64 a0_4, .int .i64 a0_5, .slice none 0 0]) (t := 142) ?hr ?_; (case hd => rfl); (case hg => rfl); (case hr => first | (go_simp; done) | (go_simp; rfl)); intro gb484 hg w3 hbox hb; have n0_ := Aside0.mk (below_step (xvo HB.out) hb); have n1_ := Aside0.mk (hbox); have n2_ := Aside0.mk ((by rw [hg]; exact (below_size (xvo HB.out)) : w.heap.size ≤ gb484)); have n3_ := Aside0.mk ((by rw [hg]; exact (below_size (xvo HB.out)) : w.heap.size ≤ gb484)); clear HB; have HB := n0_; have BK484 := n1_; have GW484 := n2_; have GE484 := n3_; clear n0_ n1_ n2_ n3_; clear hb hbox hg; have hcz4_0 : w3.cell? ⟨gb484, 0, none⟩ = some (.int .i64 a0_0) := xvc BK484.out; have hcz4_1 : w3.cell? ⟨gb484, 1, none⟩ = some (.int .i64 a0_1) := xvc BK484.out; have hcz4_2 : w3.cell? ⟨gb484, 2, none⟩ = some (.int .i64 a0_2) := xvc BK484.out; have hcz4_3 : w3.cell? ⟨gb484, 3, none⟩ = some (.int .i64 a0_3) := xvc BK484.out; have hcz4_4 : w3.cell? ⟨gb484, 4, none⟩ = some (.int .i64 a0_4) := xvc BK484.out; have hcz4_5 : w3.cell? ⟨gb484, 5, none⟩ = some (.int .i64 a0_5) := xvc BK484.out; have hcz4_6 : w3.cell? ⟨gb484, 6, none⟩ = some (.slice none 0 0) := xvc BK484.out; have hfz4_0 := blk_frozen BK484.out 0; have hfz4_1 := blk_frozen BK484.out 1; have hfz4_2 := blk_frozen BK484.out 2; have hfz4_3 := blk_frozen BK484.out 3; have hfz4_4 := blk_frozen BK484.out 4; have hfz4_5 := blk_frozen BK484.out 5; have hfz4_6 := blk_frozen BK484.out 6))
 (try simp only [Act.put, List.setIfInBounds_toArray, List.set_cons_zero, List.set_cons_succ])
 go_cut [5] (fun v5 wc => ∃ (kq : Nat) (x5_1 : Bool), v5 = .bool x5_1 ∧ Aside0 (impl_isStride.j0 kq a0_0 x5_1 a0_0 a0_1 a0_2 a0_3 a0_4 a0_5 a0_6 = some r) ∧ Aside0 (kq ≤ k) ∧ Aside0 (wc.heap[gb484]? = some (.cells #[.int .i64 a0_0, .int .i64 a0_1, .int .i64 a0_2, .int .i64 a0_3, .int .i64 a0_4, .int .i64 a0_5, .slice none 0 0] 142 (0, 0))) ∧ Aside0 (Below w.heap.size w wc))
 case first =>
  have H := HC2.out
  clear HC2
  by_cases c5 : a0_0 = 0
  ·rw [if_pos c5] at H
   have c5b0 : (a0_0 == 0) = true := beq_iff_eq.mpr c5
   have c5b1 : (a0_0 != 0) = false := bne_eq_false_iff_eq.mpr c5
   clear c5
   (first | rw [c5b0] | (simp only [i64_w, i32_w]; rw [c5b0]) | skip)
   have H' := Aside0.mk H
   clear H
   go_wp2
   go_meet
   case rel => exact ⟨_, ((a0_0 == 0)), wv6, H', ⟨wv33⟩, ⟨(xvb BK484.out)⟩, ⟨wv39⟩⟩
  ·rw [if_neg c5] at H
   have c5b0 : (a0_0 == 0) = false := beq_eq_false_iff_ne.mpr c5
   have c5b1 : (a0_0 != 0) = true := bne_iff_ne.mpr c5
   (first | rw [c5b0] | (simp only [i64_w, i32_w]; rw [c5b0]) | skip)
   have H' := Aside0.mk H
   clear H
   go_wp2
   go_meet
   case rel => exact ⟨_, ((a0_0 == 1)), wv6, H', ⟨wv33⟩, ⟨(xvb BK484.out)⟩, ⟨wv39⟩⟩
 case rest =>
  clear HC2
  try clear c2
  try clear p2
  try clear c5
  try clear c5b0
  try clear c5b1
  try clear hcz4_0
  try clear hcz4_1
  try clear hcz4_2
  try clear hcz4_3
  try clear hcz4_4
  try clear hcz4_5
  try clear hcz4_6
  try clear hfz4_0
  try clear hfz4_1
  try clear hfz4_2
  try clear hfz4_3
  try clear hfz4_4
  try clear hfz4_5
  try clear hfz4_6
  obtain ⟨kq, x5_1, rfl, HA, HJ1, BK484, HB⟩ := hcut
  cases kq with
  | zero => exact absurd HA.out (by simp [impl_isStride.j0])
  | succ kj1 =>
   have H := HA.out
   clear HA
   simp only [impl_isStride.j0] at H
   by_cases c6 : x5_1 = true
   ·subst c6
    have H1 : ((impl_within.f a0_3 1 8).bind fun t485 => (some t485)) = some r := by rw [if_pos rfl] at H; exact H
    clear H
    have H := H1
    clear H1
    replace H := Option.bind_eq_some_iff.mp H
    obtain ⟨t485, A70, H⟩ := H
    replace H : (some t485) = some r := H
    have A7 := Aside0.mk A70
    clear A70
    obtain rfl := Option.some.inj H
    have hcz8_0 : wc.cell? ⟨gb484, 0, none⟩ = some (.int .i64 a0_0) := xvc BK484.out
    have hcz8_1 : wc.cell? ⟨gb484, 1, none⟩ = some (.int .i64 a0_1) := xvc BK484.out
    have hcz8_2 : wc.cell? ⟨gb484, 2, none⟩ = some (.int .i64 a0_2) := xvc BK484.out
    have hcz8_3 : wc.cell? ⟨gb484, 3, none⟩ = some (.int .i64 a0_3) := xvc BK484.out
    have hcz8_4 : wc.cell? ⟨gb484, 4, none⟩ = some (.int .i64 a0_4) := xvc BK484.out
    have hcz8_5 : wc.cell? ⟨gb484, 5, none⟩ = some (.int .i64 a0_5) := xvc BK484.out
    have hcz8_6 : wc.cell? ⟨gb484, 6, none⟩ = some (.slice none 0 0) := xvc BK484.out
    have hfz8_0 := blk_frozen BK484.out 0
    have hfz8_1 := blk_frozen BK484.out 1
    have hfz8_2 := blk_frozen BK484.out 2
    have hfz8_3 := blk_frozen BK484.out 3
    have hfz8_4 := blk_frozen BK484.out 4
    have hfz8_5 := blk_frozen BK484.out 5
    have hfz8_6 := blk_frozen BK484.out 6
    go_wp2_with (first | ((with_reducible refine gate_callee (f := 81) rfl ?_); refine goesL_ (some 10) rfl rfl Try.func81 (by kernel_rfl) rfl #[.int .i64 a0_3, .int .i64 1, .int .i64 8] rfl wv1 ?_; (with_reducible refine (impl_within.calls a0_3 1 8 t485 _ A7.out).mono ?_); rintro e w' ⟨rfl, ⟨nd, rfl⟩⟩; refine ⟨_, rfl, ?_⟩))
    go_ret
    exact ⟨wv3, wv39⟩
   ·replace c6 := Bool.eq_false_iff.mpr c6
    subst c6
    have H1 : (if a0_0 = 9 then ((impl_within.f a0_3 0 8).bind fun t486 => (some t486)) else (some true)) = some r := by rw [if_neg (show ¬ (false = true) by decide)] at H; exact H
    clear H
    have H := H1
    clear H1
    by_cases c9 : a0_0 = 9
    ·rw [if_pos c9] at H
     have c9b0 : (a0_0 == 9) = true := beq_iff_eq.mpr c9
     have c9b1 : (a0_0 != 9) = false := bne_eq_false_iff_eq.mpr c9
     clear c9
     replace H := Option.bind_eq_some_iff.mp H
     obtain ⟨t486, A100, H⟩ := H
     replace H : (some t486) = some r := H
     have A10 := Aside0.mk A100
     clear A100
     obtain rfl := Option.some.inj H
     have hcz11_0 : wc.cell? ⟨gb484, 0, none⟩ = some (.int .i64 a0_0) := xvc BK484.out
     have hcz11_1 : wc.cell? ⟨gb484, 1, none⟩ = some (.int .i64 a0_1) := xvc BK484.out
     have hcz11_2 : wc.cell? ⟨gb484, 2, none⟩ = some (.int .i64 a0_2) := xvc BK484.out
     have hcz11_3 : wc.cell? ⟨gb484, 3, none⟩ = some (.int .i64 a0_3) := xvc BK484.out
     have hcz11_4 : wc.cell? ⟨gb484, 4, none⟩ = some (.int .i64 a0_4) := xvc BK484.out
     have hcz11_5 : wc.cell? ⟨gb484, 5, none⟩ = some (.int .i64 a0_5) := xvc BK484.out
     have hcz11_6 : wc.cell? ⟨gb484, 6, none⟩ = some (.slice none 0 0) := xvc BK484.out
     have hfz11_0 := blk_frozen BK484.out 0
     have hfz11_1 := blk_frozen BK484.out 1
     have hfz11_2 := blk_frozen BK484.out 2
     have hfz11_3 := blk_frozen BK484.out 3
     have hfz11_4 := blk_frozen BK484.out 4
     have hfz11_5 := blk_frozen BK484.out 5
     have hfz11_6 := blk_frozen BK484.out 6
     go_wp2_with (first | ((with_reducible refine gate_callee (f := 81) rfl ?_); refine goesL_ (some 15) rfl rfl Try.func81 (by kernel_rfl) rfl #[.int .i64 a0_3, .int .i64 0, .int .i64 8] rfl wv1 ?_; (with_reducible refine (impl_within.calls a0_3 0 8 t486 _ A10.out).mono ?_); rintro e w' ⟨rfl, ⟨nd, rfl⟩⟩; refine ⟨_, rfl, ?_⟩))
     go_ret
     exact ⟨wv3, wv39⟩
    ·rw [if_neg c9] at H
     have c9b0 : (a0_0 == 9) = false := beq_eq_false_iff_ne.mpr c9
     have c9b1 : (a0_0 != 9) = true := bne_iff_ne.mpr c9
     obtain rfl := Option.some.inj H
     go_wp2
     go_ret
     exact ⟨wv3, wv39⟩

def impl_IsWord.f (a0 a1 : Int) : Option Bool := some (wordB a0 a1)
theorem IsWord_any (b x : Int) (w : World) : Calls Try.prog 115 #[.int .i64 b, .int .i64 x] w fun e w' => e = .returned (.bool (wordB b x)) ∧ w = w' := by
 unfold wordB
 by_cases hb : bitsB b = true
 ·rcases bits_cases hb with rfl | rfl | rfl
  all_goals
   go_enter Try.func115, Try.ntmps115
   go_wp2_with (first | (go_at_call 154; refine (isBits_any _ _).mono ?_; rintro e w' ⟨rfl, rfl⟩) | (go_at_call 81; refine (within_any _ _ _ _).mono ?_; rintro e w' ⟨rfl, rfl⟩))
   go_ret
   exact ⟨(by first | rfl | simp), rfl⟩
 ·have hb' : bitsB b = false := by simpa using hb
  go_enter Try.func115, Try.ntmps115
  go_wp2_with (go_at_call 154; refine (isBits_any _ _).mono ?_; rintro e w' ⟨rfl, rfl⟩)
  go_ret
  exact ⟨(by simp [hb']), rfl⟩
theorem impl_IsWord.calls (a0 a1 : Int) (r : Bool) (w : World) (h : impl_IsWord.f a0 a1 = some r) :
  Calls Try.prog 115 #[.int .i64 a0, .int .i64 a1] w fun e w' => e = .returned (.bool r) ∧ Drawn0 w w' := by
 obtain rfl := Option.some.inj h
 exact (IsWord_any a0 a1 w).mono fun e w' ⟨he, hw⟩ => ⟨he, hw ▸ Drawn0.refl w⟩

/-! ### impl_isCmp: function 239 -/
def impl_isCmp.f (a0 : Int) : Option (Bool) := (impl_within.f a0 0 5).bind fun t487 => (some t487)
set_option maxHeartbeats 8000000 in
set_option maxRecDepth 100000 in
theorem impl_isCmp.calls (a0 : Int) (r : Bool) (w : World) (h : impl_isCmp.f a0 = some r) :
  Calls Try.prog 239 #[.int .i64 a0] w fun e w' => e = .returned (.bool r) ∧ Drawn0 w w' := by
 have H : ((impl_within.f a0 0 5).bind fun t487 => (some t487)) = some r := h
 clear h
 replace H := Option.bind_eq_some_iff.mp H
 obtain ⟨t487, A20, H⟩ := H
 replace H : (some t487) = some r := H
 have A2 := Aside0.mk A20
 clear A20
 obtain rfl := Option.some.inj H
 go_enter Try.func239, Try.ntmps239
 go_wp2_with (first | ((with_reducible refine gate_callee (f := 81) rfl ?_); refine goesL_ (some 4) rfl rfl Try.func81 (by kernel_rfl) rfl #[.int .i64 a0, .int .i64 0, .int .i64 5] rfl wv1 ?_; (with_reducible refine (impl_within.calls a0 0 5 t487 _ A2.out).mono ?_); rintro e w' ⟨rfl, ⟨nd, rfl⟩⟩; refine ⟨_, rfl, ?_⟩))
 go_ret
 exact ⟨wv6, wv14⟩

/-! ### impl_isI: function 225 -/
mutual
def impl_isI.j0 : Nat → Int → Bool → Int → Int → Int → Int → Int → Int → Int → Int → NRow → Option (Bool)
 | 0, _, _, _, _, _, _, _, _, _, _, _ => none
 | k + 1, x6, x7, x489000, x489001, x490000, x490001, x490002, x490003, x490004, x490005, x490006 => if x7 = true then ((impl_within.f x490005 0 63).bind fun t490 => (some t490)) else (if x6 = 4 then (impl_isI.j1 k x6 (x6 == 4) x489000 x489001 x490000 x490001 x490002 x490003 x490004 x490005 x490006) else (impl_isI.j1 k x6 (x6 == 10) x489000 x489001 x490000 x490001 x490002 x490003 x490004 x490005 x490006))
def impl_isI.j1 : Nat → Int → Bool → Int → Int → Int → Int → Int → Int → Int → Int → NRow → Option (Bool)
 | 0, _, _, _, _, _, _, _, _, _, _, _ => none
 | k + 1, x6, x15, x489000, x489001, x490000, x490001, x490002, x490003, x490004, x490005, x490006 => if x15 = true then ((impl_isOp.f x490005).bind fun t491 => (some t491)) else (if x6 = 5 then ((impl_isCmp.f x490005).bind fun t492 => (some t492)) else (if x6 = 8 then (impl_isI.j2 k x6 (x6 == 8) x489000 x489001 x490000 x490001 x490002 x490003 x490004 x490005 x490006) else (impl_isI.j2 k x6 (x6 == 9) x489000 x489001 x490000 x490001 x490002 x490003 x490004 x490005 x490006)))
def impl_isI.j2 : Nat → Int → Bool → Int → Int → Int → Int → Int → Int → Int → Int → NRow → Option (Bool)
 | 0, _, _, _, _, _, _, _, _, _, _, _ => none
 | k + 1, x6, x26, x489000, x489001, x490000, x490001, x490002, x490003, x490004, x490005, x490006 => if x26 = true then ((impl_IsWord.f x489001 x490005).bind fun t493 => (some t493)) else (if x6 = 11 then ((impl_within.f x490005 0 3).bind fun t494 => (some t494)) else (some (x490005 == 0)))
end
def impl_isI.f (k : Nat) (a0_0 : Int) (a0_1 : Int) (a1_0 : Int) (a1_1 : Int) (a1_2 : Int) (a1_3 : Int) (a1_4 : Int) (a1_5 : Int) (a1_6 : NRow) : Option (Bool) := if a1_0 = 0 then (impl_isI.j0 k a1_0 (a1_0 == 0) a0_0 a0_1 a1_0 a1_1 a1_2 a1_3 a1_4 a1_5 a1_6) else (if a1_0 = 1 then (impl_isI.j0 k a1_0 (a1_0 == 1) a0_0 a0_1 a1_0 a1_1 a1_2 a1_3 a1_4 a1_5 a1_6) else (if a1_0 = 2 then (impl_isI.j0 k a1_0 (a1_0 == 2) a0_0 a0_1 a1_0 a1_1 a1_2 a1_3 a1_4 a1_5 a1_6) else (impl_isI.j0 k a1_0 (a1_0 == 3) a0_0 a0_1 a1_0 a1_1 a1_2 a1_3 a1_4 a1_5 a1_6)))
theorem impl_isI.mono_l : ∀ k, (∀ y0 y1 y2 y3 y4 y5 y6 y7 y8 y9 y10, LeO (impl_isI.j0 k y0 y1 y2 y3 y4 y5 y6 y7 y8 y9 y10) (impl_isI.j0 (k + 1) y0 y1 y2 y3 y4 y5 y6 y7 y8 y9 y10)) ∧ (∀ y0 y1 y2 y3 y4 y5 y6 y7 y8 y9 y10, LeO (impl_isI.j1 k y0 y1 y2 y3 y4 y5 y6 y7 y8 y9 y10) (impl_isI.j1 (k + 1) y0 y1 y2 y3 y4 y5 y6 y7 y8 y9 y10)) ∧ (∀ y0 y1 y2 y3 y4 y5 y6 y7 y8 y9 y10, LeO (impl_isI.j2 k y0 y1 y2 y3 y4 y5 y6 y7 y8 y9 y10) (impl_isI.j2 (k + 1) y0 y1 y2 y3 y4 y5 y6 y7 y8 y9 y10))
 | 0 => ⟨fun _ _ _ _ _ _ _ _ _ _ _ r h => by simp [impl_isI.j0] at h, fun _ _ _ _ _ _ _ _ _ _ _ r h => by simp [impl_isI.j1] at h, fun _ _ _ _ _ _ _ _ _ _ _ r h => by simp [impl_isI.j2] at h⟩
 | k + 1 => by
  obtain ⟨ih0, ih1, ih2⟩ := impl_isI.mono_l k
  refine ⟨?_, ?_, ?_⟩
  ·intro y0 y1 y2 y3 y4 y5 y6 y7 y8 y9 y10
   unfold impl_isI.j0
   repeat' first
   | (with_reducible exact ih0 _ _ _ _ _ _ _ _ _ _ _)
   | (with_reducible exact ih1 _ _ _ _ _ _ _ _ _ _ _)
   | (with_reducible exact ih2 _ _ _ _ _ _ _ _ _ _ _)
   | (with_reducible exact LeO.refl _)
   | (with_reducible exact LeO.none _)
   | (with_reducible refine LeO.ite ?_ ?_)
   | (with_reducible refine LeO.bind ?_ (fun _ => ?_))
   | exact ih0 _ _ _ _ _ _ _ _ _ _ _
   | exact ih1 _ _ _ _ _ _ _ _ _ _ _
   | exact ih2 _ _ _ _ _ _ _ _ _ _ _
   | exact LeO.none _
   | refine LeO.ite ?_ ?_
   | refine LeO.bind ?_ (fun _ => ?_)
  ·intro y0 y1 y2 y3 y4 y5 y6 y7 y8 y9 y10
   unfold impl_isI.j1
   repeat' first
   | (with_reducible exact ih0 _ _ _ _ _ _ _ _ _ _ _)
   | (with_reducible exact ih1 _ _ _ _ _ _ _ _ _ _ _)
   | (with_reducible exact ih2 _ _ _ _ _ _ _ _ _ _ _)
   | (with_reducible exact LeO.refl _)
   | (with_reducible exact LeO.none _)
   | (with_reducible refine LeO.ite ?_ ?_)
   | (with_reducible refine LeO.bind ?_ (fun _ => ?_))
   | exact ih0 _ _ _ _ _ _ _ _ _ _ _
   | exact ih1 _ _ _ _ _ _ _ _ _ _ _
   | exact ih2 _ _ _ _ _ _ _ _ _ _ _
   | exact LeO.none _
   | refine LeO.ite ?_ ?_
   | refine LeO.bind ?_ (fun _ => ?_)
  ·intro y0 y1 y2 y3 y4 y5 y6 y7 y8 y9 y10
   unfold impl_isI.j2
   repeat' first
   | (with_reducible exact ih0 _ _ _ _ _ _ _ _ _ _ _)
   | (with_reducible exact ih1 _ _ _ _ _ _ _ _ _ _ _)
   | (with_reducible exact ih2 _ _ _ _ _ _ _ _ _ _ _)
   | (with_reducible exact LeO.refl _)
   | (with_reducible exact LeO.none _)
   | (with_reducible refine LeO.ite ?_ ?_)
   | (with_reducible refine LeO.bind ?_ (fun _ => ?_))
   | exact ih0 _ _ _ _ _ _ _ _ _ _ _
   | exact ih1 _ _ _ _ _ _ _ _ _ _ _
   | exact ih2 _ _ _ _ _ _ _ _ _ _ _
   | exact LeO.none _
   | refine LeO.ite ?_ ?_
   | refine LeO.bind ?_ (fun _ => ?_)
theorem impl_isI.mono : ∀ a0 a1 a2 a3 a4 a5 a6 a7 a8 k, LeO (impl_isI.f k a0 a1 a2 a3 a4 a5 a6 a7 a8) (impl_isI.f (k + 1) a0 a1 a2 a3 a4 a5 a6 a7 a8) := by
 intro a0 a1 a2 a3 a4 a5 a6 a7 a8 k
 obtain ⟨ih0, ih1, ih2⟩ := impl_isI.mono_l k
 unfold impl_isI.f
 repeat' first
   | (with_reducible exact ih0 _ _ _ _ _ _ _ _ _ _ _)
   | (with_reducible exact ih1 _ _ _ _ _ _ _ _ _ _ _)
   | (with_reducible exact ih2 _ _ _ _ _ _ _ _ _ _ _)
   | (with_reducible exact LeO.refl _)
   | (with_reducible exact LeO.none _)
   | (with_reducible refine LeO.ite ?_ ?_)
   | (with_reducible refine LeO.bind ?_ (fun _ => ?_))
   | exact ih0 _ _ _ _ _ _ _ _ _ _ _
   | exact ih1 _ _ _ _ _ _ _ _ _ _ _
   | exact ih2 _ _ _ _ _ _ _ _ _ _ _
   | exact LeO.none _
   | refine LeO.ite ?_ ?_
   | refine LeO.bind ?_ (fun _ => ?_)
set_option maxHeartbeats 8000000 in
set_option maxRecDepth 100000 in
theorem impl_isI.calls (k : Nat) (a0_0 : Int) (a0_1 : Int) (a1_0 : Int) (a1_1 : Int) (a1_2 : Int) (a1_3 : Int) (a1_4 : Int) (a1_5 : Int) (a1_6 : NRow) (r : Bool) (w : World) (h : impl_isI.f k a0_0 a0_1 a1_0 a1_1 a1_2 a1_3 a1_4 a1_5 a1_6 = some r) :
  Calls Try.prog 225 #[.agg #[.int .i64 a0_0, .int .i64 a0_1], .agg #[.int .i64 a1_0, .int .i64 a1_1, .int .i64 a1_2, .int .i64 a1_3, .int .i64 a1_4, .int .i64 a1_5, .slice none 0 0]] w fun e w' => e = .returned (.bool r) ∧ Below w.heap.size w w' := by
 have hu31 := Try.underlying31
 have hu142 := Try.underlying142
 have HB := Aside0.mk (Below.refl w.heap.size w)
 have H : (if a1_0 = 0 then (impl_isI.j0 k a1_0 (a1_0 == 0) a0_0 a0_1 a1_0 a1_1 a1_2 a1_3 a1_4 a1_5 a1_6) else (if a1_0 = 1 then (impl_isI.j0 k a1_0 (a1_0 == 1) a0_0 a0_1 a1_0 a1_1 a1_2 a1_3 a1_4 a1_5 a1_6) else (if a1_0 = 2 then (impl_isI.j0 k a1_0 (a1_0 == 2) a0_0 a0_1 a1_0 a1_1 a1_2 a1_3 a1_4 a1_5 a1_6) else (impl_isI.j0 k a1_0 (a1_0 == 3) a0_0 a0_1 a1_0 a1_1 a1_2 a1_3 a1_4 a1_5 a1_6)))) = some r := h
 clear h
 have HC3 := Aside0.mk H
 clear H
 go_enter Try.func225, Try.ntmps225
 go_upto_if 7 with (first | ((with_reducible refine gate_dst (N := 2) rfl ?_); refine box_event ?hg (N := 2) ?hd (cs := #[.int .i64 a0_0, .int .i64 a0_1]) (t := 31) ?hr ?_; (case hd => rfl); (case hg => rfl); (case hr => first | (go_simp; done) | (go_simp; rfl)); intro gb488 hg w4 hbox hb; have n0_ := Aside0.mk (below_step (xvo HB.out) hb); have n1_ := Aside0.mk (hbox); have n2_ := Aside0.mk ((by rw [hg]; exact (below_size (xvo HB.out)) : w.heap.size ≤ gb488)); have n3_ := Aside0.mk ((by rw [hg]; exact (below_size (xvo HB.out)) : w.heap.size ≤ gb488)); clear HB; have HB := n0_; have BK488 := n1_; have GW488 := n2_; have GE488 := n3_; clear n0_ n1_ n2_ n3_; clear hb hbox hg) | ((with_reducible refine gate_dst (N := 3) rfl ?_); refine box_event ?hg (N := 3) ?hd (cs := #[.int .i64 a1_0, .int .i64 a1_1, .int .i64 a1_2, .int .i64 a1_3, .int .i64 a1_4, .int .i64 a1_5, .slice none 0 0]) (t := 142) ?hr ?_; (case hd => rfl); (case hg => rfl); (case hr => first | (go_simp; done) | (go_simp; rfl)); intro gb489 hg w5 hbox hb; have n0_ := Aside0.mk (xvl BK488.out hb); have n1_ := Aside0.mk (below_step wv52 hb); have n2_ := Aside0.mk (hbox); have n3_ := Aside0.mk ((by rw [hg]; exact (below_size wv52) : w.heap.size ≤ gb489)); have n4_ := Aside0.mk ((by rw [hg]; exact (below_size wv52) : w.heap.size ≤ gb489)); have n5_ := Aside0.mk ((by rw [hg]; exact Nat.ne_of_lt (blk_lt (g := gb488) (o := .cells #[.int .i64 a0_0, .int .i64 a0_1] 31 (0, 0)) (xvb BK488.out)) : gb488 ≠ gb489)); have n6_ := Aside0.mk ((by rw [hg]; exact Nat.ne_of_gt (blk_lt (g := gb488) (o := .cells #[.int .i64 a0_0, .int .i64 a0_1] 31 (0, 0)) (xvb BK488.out)) : gb489 ≠ gb488)); clear BK488; clear HB; have BK488 := n0_; have HB := n1_; have BK489 := n2_; have GW489 := n3_; have GE489 := n4_; have NB488_489 := n5_; have NB489_488 := n6_; clear n0_ n1_ n2_ n3_ n4_ n5_ n6_; clear hb hbox hg; have hnb6 := NB489_488.out; have hnc6 := NB488_489.out; have hcz7_0 : w5.cell? ⟨gb489, 0, none⟩ = some (.int .i64 a1_0) := xvc BK489.out; have hcz7_1 : w5.cell? ⟨gb489, 1, none⟩ = some (.int .i64 a1_1) := xvc BK489.out; have hcz7_2 : w5.cell? ⟨gb489, 2, none⟩ = some (.int .i64 a1_2) := xvc BK489.out; have hcz7_3 : w5.cell? ⟨gb489, 3, none⟩ = some (.int .i64 a1_3) := xvc BK489.out; have hcz7_4 : w5.cell? ⟨gb489, 4, none⟩ = some (.int .i64 a1_4) := xvc BK489.out; have hcz7_5 : w5.cell? ⟨gb489, 5, none⟩ = some (.int .i64 a1_5) := xvc BK489.out; have hcz7_6 : w5.cell? ⟨gb489, 6, none⟩ = some (.slice none 0 0) := xvc BK489.out; have hfz7_0 := blk_frozen BK489.out 0; have hfz7_1 := blk_frozen BK489.out 1; have hfz7_2 := blk_frozen BK489.out 2; have hfz7_3 := blk_frozen BK489.out 3; have hfz7_4 := blk_frozen BK489.out 4; have hfz7_5 := blk_frozen BK489.out 5; have hfz7_6 := blk_frozen BK489.out 6))
 (try simp only [Act.put, List.setIfInBounds_toArray, List.set_cons_zero, List.set_cons_succ])
 go_cut [7] (fun v7 wc => ∃ (kq : Nat) (x7_2 : Bool), v7 = .bool x7_2 ∧ Aside0 (impl_isI.j0 kq a1_0 x7_2 a0_0 a0_1 a1_0 a1_1 a1_2 a1_3 a1_4 a1_5 a1_6 = some r) ∧ Aside0 (kq ≤ k) ∧ Aside0 (wc.heap[gb488]? = some (.cells #[.int .i64 a0_0, .int .i64 a0_1] 31 (0, 0))) ∧ Aside0 (wc.heap[gb489]? = some (.cells #[.int .i64 a1_0, .int .i64 a1_1, .int .i64 a1_2, .int .i64 a1_3, .int .i64 a1_4, .int .i64 a1_5, .slice none 0 0] 142 (0, 0))) ∧ Aside0 (Below w.heap.size w wc))
 case first =>
  have H := HC3.out
  clear HC3
  by_cases c8 : a1_0 = 0
  ·rw [if_pos c8] at H
   have c8b0 : (a1_0 == 0) = true := beq_iff_eq.mpr c8
   have c8b1 : (a1_0 != 0) = false := bne_eq_false_iff_eq.mpr c8
   clear c8
   (first | rw [c8b0] | (simp only [i64_w, i32_w]; rw [c8b0]) | skip)
   have H' := Aside0.mk H
   clear H
   go_wp2
   go_meet
   case rel => exact ⟨_, ((a1_0 == 0)), wv6, H', ⟨wv33⟩, ⟨(xvb BK488.out)⟩, ⟨(xvb BK489.out)⟩, ⟨wv17⟩⟩
  ·rw [if_neg c8] at H
   have c8b0 : (a1_0 == 0) = false := beq_eq_false_iff_ne.mpr c8
   have c8b1 : (a1_0 != 0) = true := bne_iff_ne.mpr c8
   (first | rw [c8b0] | (simp only [i64_w, i32_w]; rw [c8b0]) | skip)
   by_cases c9 : a1_0 = 1
   ·rw [if_pos c9] at H
    have c9b0 : (a1_0 == 1) = true := beq_iff_eq.mpr c9
    have c9b1 : (a1_0 != 1) = false := bne_eq_false_iff_eq.mpr c9
    clear c9
    have H' := Aside0.mk H
    clear H
    go_wp2
    go_meet
    case rel => exact ⟨_, ((a1_0 == 1)), wv6, H', ⟨wv33⟩, ⟨(xvb BK488.out)⟩, ⟨(xvb BK489.out)⟩, ⟨wv17⟩⟩
   ·rw [if_neg c9] at H
    have c9b0 : (a1_0 == 1) = false := beq_eq_false_iff_ne.mpr c9
    have c9b1 : (a1_0 != 1) = true := bne_iff_ne.mpr c9
    by_cases c10 : a1_0 = 2
    ·rw [if_pos c10] at H
     have c10b0 : (a1_0 == 2) = true := beq_iff_eq.mpr c10
     have c10b1 : (a1_0 != 2) = false := bne_eq_false_iff_eq.mpr c10
     clear c10
     have H' := Aside0.mk H
     clear H
     go_wp2
     go_meet
     case rel => exact ⟨_, ((a1_0 == 2)), wv6, H', ⟨wv33⟩, ⟨(xvb BK488.out)⟩, ⟨(xvb BK489.out)⟩, ⟨wv17⟩⟩
    ·rw [if_neg c10] at H
     have c10b0 : (a1_0 == 2) = false := beq_eq_false_iff_ne.mpr c10
     have c10b1 : (a1_0 != 2) = true := bne_iff_ne.mpr c10
     have H' := Aside0.mk H
     clear H
     go_wp2
     go_meet
     case rel => exact ⟨_, ((a1_0 == 3)), wv6, H', ⟨wv33⟩, ⟨(xvb BK488.out)⟩, ⟨(xvb BK489.out)⟩, ⟨wv17⟩⟩
 case rest =>
  clear HC3
  try clear c1
  try clear c2
  try clear p2
  try clear c6
  try clear c8
  try clear c8b0
  try clear c8b1
  try clear c9
  try clear c9b0
  try clear c9b1
  try clear c10
  try clear c10b0
  try clear c10b1
  try clear hcz7_0
  try clear hcz7_1
  try clear hcz7_2
  try clear hcz7_3
  try clear hcz7_4
  try clear hcz7_5
  try clear hcz7_6
  try clear hfz7_0
  try clear hfz7_1
  try clear hfz7_2
  try clear hfz7_3
  try clear hfz7_4
  try clear hfz7_5
  try clear hfz7_6
  obtain ⟨kq, x7_2, rfl, HA, HJ2, BK488, BK489, HB⟩ := hcut
  cases kq with
  | zero => exact absurd HA.out (by simp [impl_isI.j0])
  | succ kj2 =>
   have H := HA.out
   clear HA
   simp only [impl_isI.j0] at H
   by_cases c11 : x7_2 = true
   ·subst c11
    have H1 : ((impl_within.f a1_5 0 63).bind fun t490 => (some t490)) = some r := by rw [if_pos rfl] at H; exact H
    clear H
    have H := H1
    clear H1
    replace H := Option.bind_eq_some_iff.mp H
    obtain ⟨t490, A120, H⟩ := H
    replace H : (some t490) = some r := H
    have A12 := Aside0.mk A120
    clear A120
    obtain rfl := Option.some.inj H
    have hnb13 := NB489_488.out
    have hnc13 := NB488_489.out
    have hcz14_0 : wc.cell? ⟨gb489, 0, none⟩ = some (.int .i64 a1_0) := xvc BK489.out
    have hcz14_1 : wc.cell? ⟨gb489, 1, none⟩ = some (.int .i64 a1_1) := xvc BK489.out
    have hcz14_2 : wc.cell? ⟨gb489, 2, none⟩ = some (.int .i64 a1_2) := xvc BK489.out
    have hcz14_3 : wc.cell? ⟨gb489, 3, none⟩ = some (.int .i64 a1_3) := xvc BK489.out
    have hcz14_4 : wc.cell? ⟨gb489, 4, none⟩ = some (.int .i64 a1_4) := xvc BK489.out
    have hcz14_5 : wc.cell? ⟨gb489, 5, none⟩ = some (.int .i64 a1_5) := xvc BK489.out
    have hcz14_6 : wc.cell? ⟨gb489, 6, none⟩ = some (.slice none 0 0) := xvc BK489.out
    have hfz14_0 := blk_frozen BK489.out 0
    have hfz14_1 := blk_frozen BK489.out 1
    have hfz14_2 := blk_frozen BK489.out 2
    have hfz14_3 := blk_frozen BK489.out 3
    have hfz14_4 := blk_frozen BK489.out 4
    have hfz14_5 := blk_frozen BK489.out 5
    have hfz14_6 := blk_frozen BK489.out 6
    go_wp2_with (first | ((with_reducible refine gate_callee (f := 81) rfl ?_); refine goesL_ (some 14) rfl rfl Try.func81 (by kernel_rfl) rfl #[.int .i64 a1_5, .int .i64 0, .int .i64 63] rfl wv1 ?_; (with_reducible refine (impl_within.calls a1_5 0 63 t490 _ A12.out).mono ?_); rintro e w' ⟨rfl, ⟨nd, rfl⟩⟩; refine ⟨_, rfl, ?_⟩))
    go_ret
    exact ⟨wv3, wv17⟩
   ·replace c11 := Bool.eq_false_iff.mpr c11
    subst c11
    have H1 : (if a1_0 = 4 then (impl_isI.j1 kj2 a1_0 (a1_0 == 4) a0_0 a0_1 a1_0 a1_1 a1_2 a1_3 a1_4 a1_5 a1_6) else (impl_isI.j1 kj2 a1_0 (a1_0 == 10) a0_0 a0_1 a1_0 a1_1 a1_2 a1_3 a1_4 a1_5 a1_6)) = some r := by rw [if_neg (show ¬ (false = true) by decide)] at H; exact H
    clear H
    have H := H1
    clear H1
    have HC15 := Aside0.mk H
    clear H
    go_upto_if 15 with (fail)
    go_cut [15] (fun v15 wc => ∃ (kq : Nat) (x15_14 : Bool), v15 = .bool x15_14 ∧ Aside0 (impl_isI.j1 kq a1_0 x15_14 a0_0 a0_1 a1_0 a1_1 a1_2 a1_3 a1_4 a1_5 a1_6 = some r) ∧ Aside0 (kq ≤ kj2) ∧ Aside0 (wc.heap[gb488]? = some (.cells #[.int .i64 a0_0, .int .i64 a0_1] 31 (0, 0))) ∧ Aside0 (wc.heap[gb489]? = some (.cells #[.int .i64 a1_0, .int .i64 a1_1, .int .i64 a1_2, .int .i64 a1_3, .int .i64 a1_4, .int .i64 a1_5, .slice none 0 0] 142 (0, 0))) ∧ Aside0 (Below w.heap.size w wc))
    case first =>
     have H := HC15.out
     clear HC15
     by_cases c16 : a1_0 = 4
     ·rw [if_pos c16] at H
      have c16b0 : (a1_0 == 4) = true := beq_iff_eq.mpr c16
      have c16b1 : (a1_0 != 4) = false := bne_eq_false_iff_eq.mpr c16
      clear c16
      (first | rw [c16b0] | (simp only [i64_w, i32_w]; rw [c16b0]) | skip)
      have H' := Aside0.mk H
      clear H
      go_wp2
      go_meet
      case rel => exact ⟨_, ((a1_0 == 4)), wv6, H', ⟨wv43⟩, ⟨(xvb BK488.out)⟩, ⟨(xvb BK489.out)⟩, ⟨wv17⟩⟩
     ·rw [if_neg c16] at H
      have c16b0 : (a1_0 == 4) = false := beq_eq_false_iff_ne.mpr c16
      have c16b1 : (a1_0 != 4) = true := bne_iff_ne.mpr c16
      (first | rw [c16b0] | (simp only [i64_w, i32_w]; rw [c16b0]) | skip)
      have H' := Aside0.mk H
      clear H
      go_wp2
      go_meet
      case rel => exact ⟨_, ((a1_0 == 10)), wv6, H', ⟨wv43⟩, ⟨(xvb BK488.out)⟩, ⟨(xvb BK489.out)⟩, ⟨wv17⟩⟩
    case rest =>
     clear HC15
     try clear c1
     try clear c2
     try clear p2
     try clear c6
     try clear c8
     try clear c8b0
     try clear c8b1
     try clear c9
     try clear c9b0
     try clear c9b1
     try clear c10
     try clear c10b0
     try clear c10b1
     try clear c11
     try clear c13
     try clear c16
     try clear c16b0
     try clear c16b1
     try clear hcz14_0
     try clear hcz14_1
     try clear hcz14_2
     try clear hcz14_3
     try clear hcz14_4
     try clear hcz14_5
     try clear hcz14_6
     try clear hcz7_0
     try clear hcz7_1
     try clear hcz7_2
     try clear hcz7_3
     try clear hcz7_4
     try clear hcz7_5
     try clear hcz7_6
     try clear hfz14_0
     try clear hfz14_1
     try clear hfz14_2
     try clear hfz14_3
     try clear hfz14_4
     try clear hfz14_5
     try clear hfz14_6
     try clear hfz7_0
     try clear hfz7_1
     try clear hfz7_2
     try clear hfz7_3
     try clear hfz7_4
     try clear hfz7_5
     try clear hfz7_6
     try clear p2
     obtain ⟨kq, x15_14, rfl, HA, HJ14, BK488, BK489, HB⟩ := hcut
     cases kq with
     | zero => exact absurd HA.out (by simp [impl_isI.j1])
     | succ kj14 =>
      have H := HA.out
      clear HA
      simp only [impl_isI.j1] at H
      by_cases c17 : x15_14 = true
      ·subst c17
       have H1 : ((impl_isOp.f a1_5).bind fun t491 => (some t491)) = some r := by rw [if_pos rfl] at H; exact H
       clear H
       have H := H1
       clear H1
       replace H := Option.bind_eq_some_iff.mp H
       obtain ⟨t491, A180, H⟩ := H
       replace H : (some t491) = some r := H
       have A18 := Aside0.mk A180
       clear A180
       obtain rfl := Option.some.inj H
       have hnb19 := NB489_488.out
       have hnc19 := NB488_489.out
       have hcz20_0 : wc.cell? ⟨gb489, 0, none⟩ = some (.int .i64 a1_0) := xvc BK489.out
       have hcz20_1 : wc.cell? ⟨gb489, 1, none⟩ = some (.int .i64 a1_1) := xvc BK489.out
       have hcz20_2 : wc.cell? ⟨gb489, 2, none⟩ = some (.int .i64 a1_2) := xvc BK489.out
       have hcz20_3 : wc.cell? ⟨gb489, 3, none⟩ = some (.int .i64 a1_3) := xvc BK489.out
       have hcz20_4 : wc.cell? ⟨gb489, 4, none⟩ = some (.int .i64 a1_4) := xvc BK489.out
       have hcz20_5 : wc.cell? ⟨gb489, 5, none⟩ = some (.int .i64 a1_5) := xvc BK489.out
       have hcz20_6 : wc.cell? ⟨gb489, 6, none⟩ = some (.slice none 0 0) := xvc BK489.out
       have hfz20_0 := blk_frozen BK489.out 0
       have hfz20_1 := blk_frozen BK489.out 1
       have hfz20_2 := blk_frozen BK489.out 2
       have hfz20_3 := blk_frozen BK489.out 3
       have hfz20_4 := blk_frozen BK489.out 4
       have hfz20_5 := blk_frozen BK489.out 5
       have hfz20_6 := blk_frozen BK489.out 6
       go_wp2_with (first | ((with_reducible refine gate_callee (f := 80) rfl ?_); refine goesL_ (some 20) rfl rfl Try.func80 (by kernel_rfl) rfl #[.int .i64 a1_5] rfl wv1 ?_; (with_reducible refine (impl_isOp.calls a1_5 t491 _ A18.out).mono ?_); rintro e w' ⟨rfl, ⟨nd, rfl⟩⟩; refine ⟨_, rfl, ?_⟩))
       go_ret
       exact ⟨wv3, wv17⟩
      ·replace c17 := Bool.eq_false_iff.mpr c17
       subst c17
       have H1 : (if a1_0 = 5 then ((impl_isCmp.f a1_5).bind fun t492 => (some t492)) else (if a1_0 = 8 then (impl_isI.j2 kj14 a1_0 (a1_0 == 8) a0_0 a0_1 a1_0 a1_1 a1_2 a1_3 a1_4 a1_5 a1_6) else (impl_isI.j2 kj14 a1_0 (a1_0 == 9) a0_0 a0_1 a1_0 a1_1 a1_2 a1_3 a1_4 a1_5 a1_6))) = some r := by rw [if_neg (show ¬ (false = true) by decide)] at H; exact H
       clear H
       have H := H1
       clear H1
       by_cases c21 : a1_0 = 5
       ·rw [if_pos c21] at H
        have c21b0 : (a1_0 == 5) = true := beq_iff_eq.mpr c21
        have c21b1 : (a1_0 != 5) = false := bne_eq_false_iff_eq.mpr c21
        clear c21
        replace H := Option.bind_eq_some_iff.mp H
        obtain ⟨t492, A220, H⟩ := H
        replace H : (some t492) = some r := H
        have A22 := Aside0.mk A220
        clear A220
        obtain rfl := Option.some.inj H
        have hnb23 := NB489_488.out
        have hnc23 := NB488_489.out
        have hcz24_0 : wc.cell? ⟨gb489, 0, none⟩ = some (.int .i64 a1_0) := xvc BK489.out
        have hcz24_1 : wc.cell? ⟨gb489, 1, none⟩ = some (.int .i64 a1_1) := xvc BK489.out
        have hcz24_2 : wc.cell? ⟨gb489, 2, none⟩ = some (.int .i64 a1_2) := xvc BK489.out
        have hcz24_3 : wc.cell? ⟨gb489, 3, none⟩ = some (.int .i64 a1_3) := xvc BK489.out
        have hcz24_4 : wc.cell? ⟨gb489, 4, none⟩ = some (.int .i64 a1_4) := xvc BK489.out
        have hcz24_5 : wc.cell? ⟨gb489, 5, none⟩ = some (.int .i64 a1_5) := xvc BK489.out
        have hcz24_6 : wc.cell? ⟨gb489, 6, none⟩ = some (.slice none 0 0) := xvc BK489.out
        have hfz24_0 := blk_frozen BK489.out 0
        have hfz24_1 := blk_frozen BK489.out 1
        have hfz24_2 := blk_frozen BK489.out 2
        have hfz24_3 := blk_frozen BK489.out 3
        have hfz24_4 := blk_frozen BK489.out 4
        have hfz24_5 := blk_frozen BK489.out 5
        have hfz24_6 := blk_frozen BK489.out 6
        go_wp2_with (first | ((with_reducible refine gate_callee (f := 239) rfl ?_); refine goesL_ (some 25) rfl rfl Try.func239 (by kernel_rfl) rfl #[.int .i64 a1_5] rfl wv1 ?_; (with_reducible refine (impl_isCmp.calls a1_5 t492 _ A22.out).mono ?_); rintro e w' ⟨rfl, ⟨nd, rfl⟩⟩; refine ⟨_, rfl, ?_⟩))
        go_ret
        exact ⟨wv3, wv17⟩
       ·rw [if_neg c21] at H
        have c21b0 : (a1_0 == 5) = false := beq_eq_false_iff_ne.mpr c21
        have c21b1 : (a1_0 != 5) = true := bne_iff_ne.mpr c21
        have HC25 := Aside0.mk H
        clear H
        go_upto_if 26 with (fail)
        go_cut [26] (fun v26 wc => ∃ (kq : Nat) (x26_24 : Bool), v26 = .bool x26_24 ∧ Aside0 (impl_isI.j2 kq a1_0 x26_24 a0_0 a0_1 a1_0 a1_1 a1_2 a1_3 a1_4 a1_5 a1_6 = some r) ∧ Aside0 (kq ≤ kj14) ∧ Aside0 (wc.heap[gb488]? = some (.cells #[.int .i64 a0_0, .int .i64 a0_1] 31 (0, 0))) ∧ Aside0 (wc.heap[gb489]? = some (.cells #[.int .i64 a1_0, .int .i64 a1_1, .int .i64 a1_2, .int .i64 a1_3, .int .i64 a1_4, .int .i64 a1_5, .slice none 0 0] 142 (0, 0))) ∧ Aside0 (Below w.heap.size w wc))
        case first =>
         have H := HC25.out
         clear HC25
         by_cases c26 : a1_0 = 8
         ·rw [if_pos c26] at H
          have c26b0 : (a1_0 == 8) = true := beq_iff_eq.mpr c26
          have c26b1 : (a1_0 != 8) = false := bne_eq_false_iff_eq.mpr c26
          clear c26
          (first | rw [c26b0] | (simp only [i64_w, i32_w]; rw [c26b0]) | skip)
          have H' := Aside0.mk H
          clear H
          go_wp2
          go_meet
          case rel => exact ⟨_, ((a1_0 == 8)), wv6, H', ⟨(by have := HJ2.out; have := HJ14.out; first | omega | exact Nat.le_refl _)⟩, ⟨(xvb BK488.out)⟩, ⟨(xvb BK489.out)⟩, ⟨wv17⟩⟩
         ·rw [if_neg c26] at H
          have c26b0 : (a1_0 == 8) = false := beq_eq_false_iff_ne.mpr c26
          have c26b1 : (a1_0 != 8) = true := bne_iff_ne.mpr c26
          (first | rw [c26b0] | (simp only [i64_w, i32_w]; rw [c26b0]) | skip)
          have H' := Aside0.mk H
          clear H
          go_wp2
          go_meet
          case rel => exact ⟨_, ((a1_0 == 9)), wv6, H', ⟨(by have := HJ2.out; have := HJ14.out; first | omega | exact Nat.le_refl _)⟩, ⟨(xvb BK488.out)⟩, ⟨(xvb BK489.out)⟩, ⟨wv17⟩⟩
        case rest =>
         clear HC25
         try clear c1
         try clear c2
         try clear p2
         try clear c6
         try clear c8
         try clear c8b0
         try clear c8b1
         try clear c9
         try clear c9b0
         try clear c9b1
         try clear c10
         try clear c10b0
         try clear c10b1
         try clear c11
         try clear c13
         try clear c16
         try clear c16b0
         try clear c16b1
         try clear c17
         try clear c19
         try clear c21
         try clear c21b0
         try clear c21b1
         try clear c22
         try clear c23
         try clear c26
         try clear c26b0
         try clear c26b1
         try clear hcz14_0
         try clear hcz14_1
         try clear hcz14_2
         try clear hcz14_3
         try clear hcz14_4
         try clear hcz14_5
         try clear hcz14_6
         try clear hcz20_0
         try clear hcz20_1
         try clear hcz20_2
         try clear hcz20_3
         try clear hcz20_4
         try clear hcz20_5
         try clear hcz20_6
         try clear hcz24_0
         try clear hcz24_1
         try clear hcz24_2
         try clear hcz24_3
         try clear hcz24_4
         try clear hcz24_5
         try clear hcz24_6
         try clear hcz7_0
         try clear hcz7_1
         try clear hcz7_2
         try clear hcz7_3
         try clear hcz7_4
         try clear hcz7_5
         try clear hcz7_6
         try clear hfz14_0
         try clear hfz14_1
         try clear hfz14_2
         try clear hfz14_3
         try clear hfz14_4
         try clear hfz14_5
         try clear hfz14_6
         try clear hfz20_0
         try clear hfz20_1
         try clear hfz20_2
         try clear hfz20_3
         try clear hfz20_4
         try clear hfz20_5
         try clear hfz20_6
         try clear hfz24_0
         try clear hfz24_1
         try clear hfz24_2
         try clear hfz24_3
         try clear hfz24_4
         try clear hfz24_5
         try clear hfz24_6
         try clear hfz7_0
         try clear hfz7_1
         try clear hfz7_2
         try clear hfz7_3
         try clear hfz7_4
         try clear hfz7_5
         try clear hfz7_6
         try clear p2
         obtain ⟨kq, x26_24, rfl, HA, HJ24, BK488, BK489, HB⟩ := hcut
         cases kq with
         | zero => exact absurd HA.out (by simp [impl_isI.j2])
         | succ kj24 =>
          have H := HA.out
          clear HA
          simp only [impl_isI.j2] at H
          by_cases c27 : x26_24 = true
          ·subst c27
           have H1 : ((impl_IsWord.f a0_1 a1_5).bind fun t493 => (some t493)) = some r := by rw [if_pos rfl] at H; exact H
           clear H
           have H := H1
           clear H1
           replace H := Option.bind_eq_some_iff.mp H
           obtain ⟨t493, A280, H⟩ := H
           replace H : (some t493) = some r := H
           have A28 := Aside0.mk A280
           clear A280
           obtain rfl := Option.some.inj H
           have hnb29 := NB488_489.out
           have hnc29 := NB489_488.out
           have hcz30_0 : wc.cell? ⟨gb488, 0, none⟩ = some (.int .i64 a0_0) := xvc BK488.out
           have hcz30_1 : wc.cell? ⟨gb488, 1, none⟩ = some (.int .i64 a0_1) := xvc BK488.out
           have hfz30_0 := blk_frozen BK488.out 0
           have hfz30_1 := blk_frozen BK488.out 1
           have hcz31_0 : wc.cell? ⟨gb489, 0, none⟩ = some (.int .i64 a1_0) := xvc BK489.out
           have hcz31_1 : wc.cell? ⟨gb489, 1, none⟩ = some (.int .i64 a1_1) := xvc BK489.out
           have hcz31_2 : wc.cell? ⟨gb489, 2, none⟩ = some (.int .i64 a1_2) := xvc BK489.out
           have hcz31_3 : wc.cell? ⟨gb489, 3, none⟩ = some (.int .i64 a1_3) := xvc BK489.out
           have hcz31_4 : wc.cell? ⟨gb489, 4, none⟩ = some (.int .i64 a1_4) := xvc BK489.out
           have hcz31_5 : wc.cell? ⟨gb489, 5, none⟩ = some (.int .i64 a1_5) := xvc BK489.out
           have hcz31_6 : wc.cell? ⟨gb489, 6, none⟩ = some (.slice none 0 0) := xvc BK489.out
           have hfz31_0 := blk_frozen BK489.out 0
           have hfz31_1 := blk_frozen BK489.out 1
           have hfz31_2 := blk_frozen BK489.out 2
           have hfz31_3 := blk_frozen BK489.out 3
           have hfz31_4 := blk_frozen BK489.out 4
           have hfz31_5 := blk_frozen BK489.out 5
           have hfz31_6 := blk_frozen BK489.out 6
           go_wp2_with (first | ((with_reducible refine gate_callee (f := 115) rfl ?_); refine goesL_ (some 33) rfl rfl Try.func115 (by kernel_rfl) rfl #[.int .i64 a0_1, .int .i64 a1_5] rfl wv1 ?_; (with_reducible refine (impl_IsWord.calls a0_1 a1_5 t493 _ A28.out).mono ?_); rintro e w' ⟨rfl, ⟨nd, rfl⟩⟩; refine ⟨_, rfl, ?_⟩))
           go_ret
           exact ⟨wv3, wv17⟩
          ·replace c27 := Bool.eq_false_iff.mpr c27
           subst c27
           have H1 : (if a1_0 = 11 then ((impl_within.f a1_5 0 3).bind fun t494 => (some t494)) else (some (a1_5 == 0))) = some r := by rw [if_neg (show ¬ (false = true) by decide)] at H; exact H
           clear H
           have H := H1
           clear H1
           by_cases c32 : a1_0 = 11
           ·rw [if_pos c32] at H
            have c32b0 : (a1_0 == 11) = true := beq_iff_eq.mpr c32
            have c32b1 : (a1_0 != 11) = false := bne_eq_false_iff_eq.mpr c32
            clear c32
            replace H := Option.bind_eq_some_iff.mp H
            obtain ⟨t494, A330, H⟩ := H
            replace H : (some t494) = some r := H
            have A33 := Aside0.mk A330
            clear A330
            obtain rfl := Option.some.inj H
            have hnb34 := NB489_488.out
            have hnc34 := NB488_489.out
            have hcz35_0 : wc.cell? ⟨gb489, 0, none⟩ = some (.int .i64 a1_0) := xvc BK489.out
            have hcz35_1 : wc.cell? ⟨gb489, 1, none⟩ = some (.int .i64 a1_1) := xvc BK489.out
            have hcz35_2 : wc.cell? ⟨gb489, 2, none⟩ = some (.int .i64 a1_2) := xvc BK489.out
            have hcz35_3 : wc.cell? ⟨gb489, 3, none⟩ = some (.int .i64 a1_3) := xvc BK489.out
            have hcz35_4 : wc.cell? ⟨gb489, 4, none⟩ = some (.int .i64 a1_4) := xvc BK489.out
            have hcz35_5 : wc.cell? ⟨gb489, 5, none⟩ = some (.int .i64 a1_5) := xvc BK489.out
            have hcz35_6 : wc.cell? ⟨gb489, 6, none⟩ = some (.slice none 0 0) := xvc BK489.out
            have hfz35_0 := blk_frozen BK489.out 0
            have hfz35_1 := blk_frozen BK489.out 1
            have hfz35_2 := blk_frozen BK489.out 2
            have hfz35_3 := blk_frozen BK489.out 3
            have hfz35_4 := blk_frozen BK489.out 4
            have hfz35_5 := blk_frozen BK489.out 5
            have hfz35_6 := blk_frozen BK489.out 6
            go_wp2_with (first | ((with_reducible refine gate_callee (f := 81) rfl ?_); refine goesL_ (some 38) rfl rfl Try.func81 (by kernel_rfl) rfl #[.int .i64 a1_5, .int .i64 0, .int .i64 3] rfl wv1 ?_; (with_reducible refine (impl_within.calls a1_5 0 3 t494 _ A33.out).mono ?_); rintro e w' ⟨rfl, ⟨nd, rfl⟩⟩; refine ⟨_, rfl, ?_⟩))
            go_ret
            exact ⟨wv3, wv17⟩
           ·rw [if_neg c32] at H
            have c32b0 : (a1_0 == 11) = false := beq_eq_false_iff_ne.mpr c32
            have c32b1 : (a1_0 != 11) = true := bne_iff_ne.mpr c32
            obtain rfl := Option.some.inj H
            have hnb36 := NB489_488.out
            have hnc36 := NB488_489.out
            have hcz37_0 : wc.cell? ⟨gb489, 0, none⟩ = some (.int .i64 a1_0) := xvc BK489.out
            have hcz37_1 : wc.cell? ⟨gb489, 1, none⟩ = some (.int .i64 a1_1) := xvc BK489.out
            have hcz37_2 : wc.cell? ⟨gb489, 2, none⟩ = some (.int .i64 a1_2) := xvc BK489.out
            have hcz37_3 : wc.cell? ⟨gb489, 3, none⟩ = some (.int .i64 a1_3) := xvc BK489.out
            have hcz37_4 : wc.cell? ⟨gb489, 4, none⟩ = some (.int .i64 a1_4) := xvc BK489.out
            have hcz37_5 : wc.cell? ⟨gb489, 5, none⟩ = some (.int .i64 a1_5) := xvc BK489.out
            have hcz37_6 : wc.cell? ⟨gb489, 6, none⟩ = some (.slice none 0 0) := xvc BK489.out
            have hfz37_0 := blk_frozen BK489.out 0
            have hfz37_1 := blk_frozen BK489.out 1
            have hfz37_2 := blk_frozen BK489.out 2
            have hfz37_3 := blk_frozen BK489.out 3
            have hfz37_4 := blk_frozen BK489.out 4
            have hfz37_5 := blk_frozen BK489.out 5
            have hfz37_6 := blk_frozen BK489.out 6
            go_wp2
            go_ret
            exact ⟨wv3, wv17⟩

/-! ### impl_length_int64: function 95 -/
def impl_length_int64.f (l0 : List Int) : Option (Int) := some (l0.length : Int)
set_option maxHeartbeats 8000000 in
set_option maxRecDepth 100000 in
theorem impl_length_int64.calls (A0 : Option Addr) (c0 : Nat) (l0 : List Int) (r : Int) (w : World) (hr0 : Kd.C (Kd.int .i64) w A0 l0.length l0) (hc0 : l0.length ≤ c0) (h : impl_length_int64.f l0 = some r) :
  Calls Try.prog 95 #[.slice A0 l0.length c0] w fun e w' => e = .returned (.int .i64 r) ∧ Drawn0 w w' := by
 have HR0 := Aside0.mk hr0
 have HC0 := Aside0.mk hc0
 clear hr0 hc0
 have H : (some (l0.length : Int)) = some r := h
 clear h
 obtain rfl := Option.some.inj H
 go_enter Try.func95, Try.ntmps95
 go_wp2
 go_ret
 exact ⟨wv6, wv14⟩

end Go.Proofs.Ytpfoeologjacfaa.V
