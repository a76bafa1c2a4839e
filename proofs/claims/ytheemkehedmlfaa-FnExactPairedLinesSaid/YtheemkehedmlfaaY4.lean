-- Written by a program of this session (wip/tools) over the kit's print.
-- COMPACT
import Derived.Test.YtheemkehedmlfaaY0
import Derived.Test.YtheemkehedmlfaaY3
namespace Go.Proofs.Ytheemkehedmlfaa.Y
open Go.RowKit Go.Proofs.YtheemkehedmlfaaW.PrintWords Go.Proofs.YtheemkehedmlfaaW.PrintLast Go.Proofs.YtheemkehedmlfaaW.PrintMore
attribute [local go_sem] max2_int min2_int max_two min_two max_three min_three max_four min_four   -- for this text's walks alone
set_option linter.unusedVariables false
set_option linter.unusedSimpArgs false

/-! ### spec_l08Rounds: function 94 -/
def spec_l08Rounds.l0 : Nat → List (S63) → List Int → Int → Int → Option (Int)
 | 0, _, _, _, _ => none
 | k + 1, x0, x1, x5, x6 => if x6 < (x1.length : Int) then (if 0 ≤ x6 then (if 0 ≤ (rd x1 x6) then (if (rd x1 x6) < (x0.length : Int) then (if ((rd_T63 x0 (rd x1 x6)).f0) = 5 then ((spec_l00Min.f (wrap64 (x5 * ((rd_T63 x0 (rd x1 x6)).f4))) 65).bind fun t121 => (spec_l08Rounds.l0 k x0 x1 t121 (wrap64 (x6 + 1)))) else (spec_l08Rounds.l0 k x0 x1 x5 (wrap64 (x6 + 1)))) else (none)) else (none)) else (none)) else (some x5)
def spec_l08Rounds.f (k : Nat) (l0 : List (S63)) (l1 : List Int) : Option (Int) := spec_l08Rounds.l0 k l0 l1 1 0
theorem spec_l08Rounds.mono_l : ∀ k, (∀ y0 y1 y2 y3, LeO (spec_l08Rounds.l0 k y0 y1 y2 y3) (spec_l08Rounds.l0 (k + 1) y0 y1 y2 y3))
 | 0 => fun _ _ _ _ r h => by simp [spec_l08Rounds.l0] at h
 | k + 1 => by
  have ih0 := spec_l08Rounds.mono_l k
  intro y0 y1 y2 y3
  unfold spec_l08Rounds.l0
  repeat' first
  | (with_reducible exact ih0 _ _ _ _)
  | (with_reducible exact LeO.refl _)
  | (with_reducible exact LeO.none _)
  | (with_reducible refine LeO.ite ?_ ?_)
  | (with_reducible refine LeO.bind ?_ (fun _ => ?_))
  | exact ih0 _ _ _ _
  | exact LeO.none _
  | refine LeO.ite ?_ ?_
  | refine LeO.bind ?_ (fun _ => ?_)
theorem spec_l08Rounds.mono : ∀ a0 a1 k, LeO (spec_l08Rounds.f k a0 a1) (spec_l08Rounds.f (k + 1) a0 a1) := by
 intro a0 a1 k
 have ih0 := spec_l08Rounds.mono_l k
 unfold spec_l08Rounds.f
 repeat' first
   | (with_reducible exact ih0 _ _ _ _)
   | (with_reducible exact LeO.refl _)
   | (with_reducible exact LeO.none _)
   | (with_reducible refine LeO.ite ?_ ?_)
   | (with_reducible refine LeO.bind ?_ (fun _ => ?_))
   | exact ih0 _ _ _ _
   | exact LeO.none _
   | refine LeO.ite ?_ ?_
   | refine LeO.bind ?_ (fun _ => ?_)
set_option maxHeartbeats 8000000 in
set_option maxRecDepth 100000 in
theorem spec_l08Rounds.calls (k : Nat) (A0 : Option Addr) (c0 : Nat) (l0 : List (S63)) (A1 : Option Addr) (c1 : Nat) (l1 : List Int) (r : Int) (w : World) (hr0 : Kd.C k63 w A0 l0.length l0) (hc0 : l0.length ≤ c0) (hr1 : Kd.C (Kd.int .i64) w A1 l1.length l1) (hc1 : l1.length ≤ c1) (h : spec_l08Rounds.f k l0 l1 = some r) :
  Calls Try.prog 94 #[.slice A0 l0.length c0, .slice A1 l1.length c1] w fun e w' => e = .returned (.int .i64 r) ∧ Drawn0 w w' := by
 have HR0 := Aside0.mk hr0
 have HC0 := Aside0.mk hc0
 clear hr0 hc0
 have HR1 := Aside0.mk hr1
 have HC1 := Aside0.mk hc1
 clear hr1 hc1
 have H : (spec_l08Rounds.l0 k l0 l1 1 0) = some r := h
 clear h
 have H' := Aside0.mk H
 clear H
 go_enter Try.func94, Try.ntmps94
 go_wp2
 go_loopg [5, 6] k (fun kq v5 v6 w' => ∃ (x5_1 : Int) (x6_1 : Int), v5 = .int .i64 x5_1 ∧ v6 = .int .i64 x6_1 ∧ Aside0 (spec_l08Rounds.l0 kq l0 l1 x5_1 x6_1 = some r) ∧ Aside0 (kq ≤ k) ∧ Drawn0 w w')
 case atStart => exact ⟨(1), (0), wy5, wy5, H', ⟨Nat.le_refl _⟩, wy13⟩
 case round =>
  clear H'
  try clear c1
  try clear p2
  obtain ⟨x5_1, x6_1, rfl, rfl, HA, HK1, ⟨m1, rfl⟩⟩ := hrel
  cases gk with
  | zero => exact absurd HA.out (by simp [spec_l08Rounds.l0])
  | succ k1 =>
   have H := HA.out
   clear HA
   simp only [spec_l08Rounds.l0] at H
   by_cases c3 : x6_1 < (l1.length : Int)
   ·rw [if_pos c3] at H
    have c3b0 : decide (x6_1 < (l1.length : Int)) = true := decide_eq_true c3
    clear c3
    replace H := zy_g H
    obtain ⟨c4, H⟩ := H
    have c4b0 : decide (0 ≤ x6_1) = true := decide_eq_true c4
    clear c4
    replace H := zy_g H
    obtain ⟨c5, H⟩ := H
    have c5b0 : decide (0 ≤ (rd l1 x6_1)) = true := decide_eq_true c5
    clear c5
    replace H := zy_g H
    obtain ⟨c6, H⟩ := H
    have c6b0 : decide ((rd l1 x6_1) < (l0.length : Int)) = true := decide_eq_true c6
    clear c6
    by_cases c7 : ((rd_T63 l0 (rd l1 x6_1)).f0) = 5
    ·rw [if_pos c7] at H
     have c7b0 : (((rd_T63 l0 (rd l1 x6_1)).f0) == 5) = true := beq_iff_eq.mpr c7
     have c7b1 : (((rd_T63 l0 (rd l1 x6_1)).f0) != 5) = false := bne_eq_false_iff_eq.mpr c7
     clear c7
     replace H := Option.bind_eq_some_iff.mp H
     obtain ⟨t121, A80, H⟩ := H
     replace H : (spec_l08Rounds.l0 k1 l0 l1 t121 (wrap64 (x6_1 + 1))) = some r := H
     have A8 := Aside0.mk A80
     clear A80
     have H' := Aside0.mk H
     clear H
     have p117 : 0 ≤ (x6_1 : Int) := xyd
     have q117 : x6_1 < (l1.length : Int) := xyd
     obtain ⟨ad117, e117, hx117_0⟩ := Kd.at_int HR1.out x6_1 p117 q117
     cases e117
     replace p117 := eq_true p117
     replace q117 := eq_true q117
     have p118 : 0 ≤ ((rd l1 x6_1) : Int) := xyd
     have q118 : (rd l1 x6_1) < (l0.length : Int) := xyd
     obtain ⟨ad118, e118, hx118_0, hx118_1, hx118_2, hx118_3, hx118_4⟩ := at_T63 HR0.out (rd l1 x6_1) p118 q118
     cases e118
     replace p118 := eq_true p118
     replace q118 := eq_true q118
     have p119 : 0 ≤ (x6_1 : Int) := xyd
     have q119 : x6_1 < (l1.length : Int) := xyd
     obtain ⟨ad119, e119, hx119_0⟩ := Kd.at_int HR1.out x6_1 p119 q119
     obtain rfl : ad117 = ad119 := (by injection e119)
     replace p119 := eq_true p119
     replace q119 := eq_true q119
     have p120 : 0 ≤ ((rd l1 x6_1) : Int) := xyd
     have q120 : (rd l1 x6_1) < (l0.length : Int) := xyd
     obtain ⟨ad120, e120, hx120_0, hx120_1, hx120_2, hx120_3, hx120_4⟩ := at_T63 HR0.out (rd l1 x6_1) p120 q120
     obtain rfl : ad118 = ad120 := (by injection e120)
     replace p120 := eq_true p120
     replace q120 := eq_true q120
     go_wp2_with (first | ((with_reducible refine gate_callee (f := 132) rfl ?_); refine goesL_ (some 32) rfl rfl Try.func132 (by kernel_rfl) rfl #[.int .i64 (wrap64 (x5_1 * ((rd_T63 l0 (rd l1 x6_1)).f4))), .int .i64 65] rfl wy2 ?_; (with_reducible refine (spec_l00Min.calls (wrap64 (x5_1 * ((rd_T63 l0 (rd l1 x6_1)).f4))) 65 t121 _ A8.out).mono ?_); rintro e w' ⟨rfl, ⟨nd, rfl⟩⟩; refine ⟨_, rfl, ?_⟩))
     go_roundg k1
     case measure => have := HK1.out; omega
     case rel => exact ⟨(t121), (wrap64 (x6_1 + 1)), wy5, wy5, H', ⟨(by have := HK1.out; omega)⟩, wy13⟩
    rw [if_neg c7] at H
    have c7b0 : (((rd_T63 l0 (rd l1 x6_1)).f0) == 5) = false := beq_eq_false_iff_ne.mpr c7
    have c7b1 : (((rd_T63 l0 (rd l1 x6_1)).f0) != 5) = true := bne_iff_ne.mpr c7
    have H' := Aside0.mk H
    clear H
    have p117 : 0 ≤ (x6_1 : Int) := xyd
    have q117 : x6_1 < (l1.length : Int) := xyd
    obtain ⟨ad117, e117, hx117_0⟩ := Kd.at_int HR1.out x6_1 p117 q117
    cases e117
    replace p117 := eq_true p117
    replace q117 := eq_true q117
    have p118 : 0 ≤ ((rd l1 x6_1) : Int) := xyd
    have q118 : (rd l1 x6_1) < (l0.length : Int) := xyd
    obtain ⟨ad118, e118, hx118_0, hx118_1, hx118_2, hx118_3, hx118_4⟩ := at_T63 HR0.out (rd l1 x6_1) p118 q118
    cases e118
    replace p118 := eq_true p118
    replace q118 := eq_true q118
    go_wp2
    go_roundg k1
    case measure => have := HK1.out; omega
    case rel => exact ⟨(x5_1), (wrap64 (x6_1 + 1)), wy5, wy5, H', ⟨(by have := HK1.out; omega)⟩, wy13⟩
   rw [if_neg c3] at H
   have c3b0 : decide (x6_1 < (l1.length : Int)) = false := decide_eq_false c3
   clear c3
   obtain rfl := Option.some.inj H
   go_wp2
   go_ret
   exact ⟨wy5, wy13⟩

end Go.Proofs.Ytheemkehedmlfaa.Y
