-- Written by a program of this session (wip/tools) over the kit's print.
import Derived.Test.YtpfoeologjacfaaH0
import Derived.Test.YtpfoeologjacfaaH1
import Derived.Test.YtpfoeologjacfaaH2
import Derived.Test.YtpfoeologjacfaaH3
namespace Go.Proofs.Ytpfoeologjacfaa.H
open Go.RowKit Go.Proofs.YtpfoeologjacfaaW.PrintWords Go.Proofs.YtpfoeologjacfaaW.PrintLast Go.Proofs.YtpfoeologjacfaaW.PrintMore
attribute [local go_sem] max2_int min2_int max_two min_two max_three min_three max_four min_four   -- for this text's walks alone
set_option linter.unusedVariables false
set_option linter.unusedSimpArgs false

/-! ### laws_FnBlocks: function 10 -/
mutual
def laws_FnBlocks.j0 : Nat → Int → List Int → Int → Int → Int → Int → List Int → Int → Bool → Bool → Option (Bool)
  | 0, _, _, _, _, _, _, _, _, _, _ => none
  | k + 1, x5, x6, x7, x8, x9, x10, x12, x14, x15, x113 => if x113 = true then (some false) else (if (wrap64 ((wrap64 (x10 - 1)) * x7)) ≥ (x6.length : Int) then (if x10 > 0 then (laws_FnBlocks.j1 k x5 x6 x8 x9 x12 x14 x15 true) else (laws_FnBlocks.j1 k x5 x6 x8 x9 x12 x14 x15 (decide ((wrap64 (x10 * x7)) < (x6.length : Int))))) else (laws_FnBlocks.j1 k x5 x6 x8 x9 x12 x14 x15 (decide ((wrap64 (x10 * x7)) < (x6.length : Int)))))
def laws_FnBlocks.j1 : Nat → Int → List Int → Int → Int → List Int → Int → Bool → Bool → Option (Bool)
  | 0, _, _, _, _, _, _, _, _ => none
  | k + 1, x5, x6, x8, x9, x12, x14, x15, x132 => if x132 = true then (some false) else (laws_FnBlocks.l0 k x5 x6 x8 x9 x12 x14 x15 0 0)
def laws_FnBlocks.l0 : Nat → Int → List Int → Int → Int → List Int → Int → Bool → Int → Int → Option (Bool)
  | 0, _, _, _, _, _, _, _, _, _ => none
  | k + 1, x5, x6, x8, x9, x12, x14, x15, x21, x22 => if x22 < (x6.length : Int) then (if 0 ≤ x22 then ((impl_DoOp.f 0 x5 x21 (rd x6 x22)).bind fun bt236 => (if bt236.2 = true then (if x22 < (x12.length : Int) then (if (rd x12 x22) = bt236.1 then (if x15 = true then (if x22 < x14 then (if (rd x6 x22) = x8 then (some false) else (laws_FnBlocks.l0 k x5 x6 x8 x9 x12 x14 x15 bt236.1 (wrap64 (x22 + 1)))) else (laws_FnBlocks.l0 k x5 x6 x8 x9 x12 x14 x15 bt236.1 (wrap64 (x22 + 1)))) else (laws_FnBlocks.l0 k x5 x6 x8 x9 x12 x14 x15 bt236.1 (wrap64 (x22 + 1)))) else (some false)) else (none)) else (some false))) else (none)) else (if x21 = x9 then (if x15 = true then (if x14 ≥ 0 then (if x14 < (x6.length : Int) then (if 0 ≤ x14 then (some ((rd x6 x14) == x8)) else (none)) else (some false)) else (some false)) else (some true)) else (some false))
end
def laws_FnBlocks.f (k : Nat) (l0 : List Int) (l1 : List Int) : Option (Bool) := (laws_r8Long.f l0 l1).bind fun t213 => (if t213 = true then (some true) else ((spec_R8Bits.f l1).bind fun t214 => ((spec_R8Block.f k l0 t214).bind fun t215 => ((spec_R8Lanes.f l1).bind fun t218 => ((laws_r8At.f l1 20 7).bind fun t219 => ((impl_SumBlock.f k t214 t218 t215).bind fun bt220 => ((impl_PrefixBlock.f k t214 t218 t215).bind fun bt223 => ((impl_FindInBlock.f k t214 t218 t215 t219).bind fun bt227 => ((impl_CountInBlock.f k t214 t218 t215 t219).bind fun bt229 => ((impl_SumBlock.f k t214 2 t215).bind fun bt231 => (if bt220.2.2 = true then (if bt223.2 = true then (if bt229.2 = true then (if bt231.2.2 = true then (if (bt223.1.length : Int) = (t215.length : Int) then (if bt231.1 = bt220.1 then ((laws_r8Count.f k t215 t219).bind fun t234 => (if bt229.1 = t234 then (laws_FnBlocks.j0 k t214 t215 t218 t219 bt220.1 bt220.2.1 bt223.1 bt227.1 bt227.2 (bt227.2 != (decide (bt229.1 > 0)))) else (laws_FnBlocks.j0 k t214 t215 t218 t219 bt220.1 bt220.2.1 bt223.1 bt227.1 bt227.2 true))) else (laws_FnBlocks.j0 k t214 t215 t218 t219 bt220.1 bt220.2.1 bt223.1 bt227.1 bt227.2 true)) else (laws_FnBlocks.j0 k t214 t215 t218 t219 bt220.1 bt220.2.1 bt223.1 bt227.1 bt227.2 true)) else (laws_FnBlocks.j0 k t214 t215 t218 t219 bt220.1 bt220.2.1 bt223.1 bt227.1 bt227.2 true)) else (laws_FnBlocks.j0 k t214 t215 t218 t219 bt220.1 bt220.2.1 bt223.1 bt227.1 bt227.2 true)) else (laws_FnBlocks.j0 k t214 t215 t218 t219 bt220.1 bt220.2.1 bt223.1 bt227.1 bt227.2 true)) else (laws_FnBlocks.j0 k t214 t215 t218 t219 bt220.1 bt220.2.1 bt223.1 bt227.1 bt227.2 true))))))))))))
theorem laws_FnBlocks.mono_l : ∀ k, (∀ y0 y1 y2 y3 y4 y5 y6 y7 y8 y9, LeO (laws_FnBlocks.j0 k y0 y1 y2 y3 y4 y5 y6 y7 y8 y9) (laws_FnBlocks.j0 (k + 1) y0 y1 y2 y3 y4 y5 y6 y7 y8 y9)) ∧ (∀ y0 y1 y2 y3 y4 y5 y6 y7, LeO (laws_FnBlocks.j1 k y0 y1 y2 y3 y4 y5 y6 y7) (laws_FnBlocks.j1 (k + 1) y0 y1 y2 y3 y4 y5 y6 y7)) ∧ (∀ y0 y1 y2 y3 y4 y5 y6 y7 y8, LeO (laws_FnBlocks.l0 k y0 y1 y2 y3 y4 y5 y6 y7 y8) (laws_FnBlocks.l0 (k + 1) y0 y1 y2 y3 y4 y5 y6 y7 y8))
  | 0 => ⟨fun _ _ _ _ _ _ _ _ _ _ r h => by simp [laws_FnBlocks.j0] at h, fun _ _ _ _ _ _ _ _ r h => by simp [laws_FnBlocks.j1] at h, fun _ _ _ _ _ _ _ _ _ r h => by simp [laws_FnBlocks.l0] at h⟩
  | k + 1 => by
    obtain ⟨ih0, ih1, ih2⟩ := laws_FnBlocks.mono_l k
    refine ⟨?_, ?_, ?_⟩
    · intro y0 y1 y2 y3 y4 y5 y6 y7 y8 y9
      unfold laws_FnBlocks.j0
      repeat' first
      | (with_reducible exact ih0 _ _ _ _ _ _ _ _ _ _)
      | (with_reducible exact ih1 _ _ _ _ _ _ _ _)
      | (with_reducible exact ih2 _ _ _ _ _ _ _ _ _)
      | (with_reducible exact impl_CountInBlock.mono _ _ _ _ _)
      | (with_reducible exact impl_FindInBlock.mono _ _ _ _ _)
      | (with_reducible exact impl_PrefixBlock.mono _ _ _ _)
      | (with_reducible exact impl_SumBlock.mono _ _ _ _)
      | (with_reducible exact laws_r8Count.mono _ _ _)
      | (with_reducible exact spec_R8Block.mono _ _ _)
      | (with_reducible exact LeO.refl _)
      | (with_reducible exact LeO.none _)
      | (with_reducible refine LeO.ite ?_ ?_)
      | (with_reducible refine LeO.bind ?_ (fun _ => ?_))
      | exact ih0 _ _ _ _ _ _ _ _ _ _
      | exact ih1 _ _ _ _ _ _ _ _
      | exact ih2 _ _ _ _ _ _ _ _ _
      | exact impl_CountInBlock.mono _ _ _ _ _
      | exact impl_FindInBlock.mono _ _ _ _ _
      | exact impl_PrefixBlock.mono _ _ _ _
      | exact impl_SumBlock.mono _ _ _ _
      | exact laws_r8Count.mono _ _ _
      | exact spec_R8Block.mono _ _ _
      | exact LeO.none _
      | refine LeO.ite ?_ ?_
      | refine LeO.bind ?_ (fun _ => ?_)
    · intro y0 y1 y2 y3 y4 y5 y6 y7
      unfold laws_FnBlocks.j1
      repeat' first
      | (with_reducible exact ih0 _ _ _ _ _ _ _ _ _ _)
      | (with_reducible exact ih1 _ _ _ _ _ _ _ _)
      | (with_reducible exact ih2 _ _ _ _ _ _ _ _ _)
      | (with_reducible exact impl_CountInBlock.mono _ _ _ _ _)
      | (with_reducible exact impl_FindInBlock.mono _ _ _ _ _)
      | (with_reducible exact impl_PrefixBlock.mono _ _ _ _)
      | (with_reducible exact impl_SumBlock.mono _ _ _ _)
      | (with_reducible exact laws_r8Count.mono _ _ _)
      | (with_reducible exact spec_R8Block.mono _ _ _)
      | (with_reducible exact LeO.refl _)
      | (with_reducible exact LeO.none _)
      | (with_reducible refine LeO.ite ?_ ?_)
      | (with_reducible refine LeO.bind ?_ (fun _ => ?_))
      | exact ih0 _ _ _ _ _ _ _ _ _ _
      | exact ih1 _ _ _ _ _ _ _ _
      | exact ih2 _ _ _ _ _ _ _ _ _
      | exact impl_CountInBlock.mono _ _ _ _ _
      | exact impl_FindInBlock.mono _ _ _ _ _
      | exact impl_PrefixBlock.mono _ _ _ _
      | exact impl_SumBlock.mono _ _ _ _
      | exact laws_r8Count.mono _ _ _
      | exact spec_R8Block.mono _ _ _
      | exact LeO.none _
      | refine LeO.ite ?_ ?_
      | refine LeO.bind ?_ (fun _ => ?_)
    · intro y0 y1 y2 y3 y4 y5 y6 y7 y8
      unfold laws_FnBlocks.l0
      repeat' first
      | (with_reducible exact ih0 _ _ _ _ _ _ _ _ _ _)
      | (with_reducible exact ih1 _ _ _ _ _ _ _ _)
      | (with_reducible exact ih2 _ _ _ _ _ _ _ _ _)
      | (with_reducible exact impl_CountInBlock.mono _ _ _ _ _)
      | (with_reducible exact impl_FindInBlock.mono _ _ _ _ _)
      | (with_reducible exact impl_PrefixBlock.mono _ _ _ _)
      | (with_reducible exact impl_SumBlock.mono _ _ _ _)
      | (with_reducible exact laws_r8Count.mono _ _ _)
      | (with_reducible exact spec_R8Block.mono _ _ _)
      | (with_reducible exact LeO.refl _)
      | (with_reducible exact LeO.none _)
      | (with_reducible refine LeO.ite ?_ ?_)
      | (with_reducible refine LeO.bind ?_ (fun _ => ?_))
      | exact ih0 _ _ _ _ _ _ _ _ _ _
      | exact ih1 _ _ _ _ _ _ _ _
      | exact ih2 _ _ _ _ _ _ _ _ _
      | exact impl_CountInBlock.mono _ _ _ _ _
      | exact impl_FindInBlock.mono _ _ _ _ _
      | exact impl_PrefixBlock.mono _ _ _ _
      | exact impl_SumBlock.mono _ _ _ _
      | exact laws_r8Count.mono _ _ _
      | exact spec_R8Block.mono _ _ _
      | exact LeO.none _
      | refine LeO.ite ?_ ?_
      | refine LeO.bind ?_ (fun _ => ?_)
theorem laws_FnBlocks.mono : ∀ a0 a1 k, LeO (laws_FnBlocks.f k a0 a1) (laws_FnBlocks.f (k + 1) a0 a1) := by
  intro a0 a1 k
  obtain ⟨ih0, ih1, ih2⟩ := laws_FnBlocks.mono_l k
  unfold laws_FnBlocks.f
  repeat' first
      | (with_reducible exact ih0 _ _ _ _ _ _ _ _ _ _)
      | (with_reducible exact ih1 _ _ _ _ _ _ _ _)
      | (with_reducible exact ih2 _ _ _ _ _ _ _ _ _)
      | (with_reducible exact impl_CountInBlock.mono _ _ _ _ _)
      | (with_reducible exact impl_FindInBlock.mono _ _ _ _ _)
      | (with_reducible exact impl_PrefixBlock.mono _ _ _ _)
      | (with_reducible exact impl_SumBlock.mono _ _ _ _)
      | (with_reducible exact laws_r8Count.mono _ _ _)
      | (with_reducible exact spec_R8Block.mono _ _ _)
      | (with_reducible exact LeO.refl _)
      | (with_reducible exact LeO.none _)
      | (with_reducible refine LeO.ite ?_ ?_)
      | (with_reducible refine LeO.bind ?_ (fun _ => ?_))
      | exact ih0 _ _ _ _ _ _ _ _ _ _
      | exact ih1 _ _ _ _ _ _ _ _
      | exact ih2 _ _ _ _ _ _ _ _ _
      | exact impl_CountInBlock.mono _ _ _ _ _
      | exact impl_FindInBlock.mono _ _ _ _ _
      | exact impl_PrefixBlock.mono _ _ _ _
      | exact impl_SumBlock.mono _ _ _ _
      | exact laws_r8Count.mono _ _ _
      | exact spec_R8Block.mono _ _ _
      | exact LeO.none _
      | refine LeO.ite ?_ ?_
      | refine LeO.bind ?_ (fun _ => ?_)
set_option maxHeartbeats 8000000 in
set_option maxRecDepth 100000 in
theorem laws_FnBlocks.calls (k : Nat) (A0 : Option Addr) (c0 : Nat) (l0 : List Int) (A1 : Option Addr) (c1 : Nat) (l1 : List Int) (r : Bool) (w : World) (hr0 : Kd.C (Kd.int .u8) w A0 l0.length l0) (hc0 : l0.length ≤ c0) (hr1 : Kd.C (Kd.int .u8) w A1 l1.length l1) (hc1 : l1.length ≤ c1) (h : laws_FnBlocks.f k l0 l1 = some r) :
    Calls Try.prog 10 #[.slice A0 l0.length c0, .slice A1 l1.length c1] w fun e w' => e = .returned (.bool r) ∧ Below w.heap.size w w' := by
  have HR0 := Aside0.mk hr0
  have HC0 := Aside0.mk hc0
  clear hr0 hc0
  have HR1 := Aside0.mk hr1
  have HC1 := Aside0.mk hc1
  clear hr1 hc1
  have HB := Aside0.mk (Below.refl w.heap.size w)
  have H : ((laws_r8Long.f l0 l1).bind fun t213 => (if t213 = true then (some true) else ((spec_R8Bits.f l1).bind fun t214 => ((spec_R8Block.f k l0 t214).bind fun t215 => ((spec_R8Lanes.f l1).bind fun t218 => ((laws_r8At.f l1 20 7).bind fun t219 => ((impl_SumBlock.f k t214 t218 t215).bind fun bt220 => ((impl_PrefixBlock.f k t214 t218 t215).bind fun bt223 => ((impl_FindInBlock.f k t214 t218 t215 t219).bind fun bt227 => ((impl_CountInBlock.f k t214 t218 t215 t219).bind fun bt229 => ((impl_SumBlock.f k t214 2 t215).bind fun bt231 => (if bt220.2.2 = true then (if bt223.2 = true then (if bt229.2 = true then (if bt231.2.2 = true then (if (bt223.1.length : Int) = (t215.length : Int) then (if bt231.1 = bt220.1 then ((laws_r8Count.f k t215 t219).bind fun t234 => (if bt229.1 = t234 then (laws_FnBlocks.j0 k t214 t215 t218 t219 bt220.1 bt220.2.1 bt223.1 bt227.1 bt227.2 (bt227.2 != (decide (bt229.1 > 0)))) else (laws_FnBlocks.j0 k t214 t215 t218 t219 bt220.1 bt220.2.1 bt223.1 bt227.1 bt227.2 true))) else (laws_FnBlocks.j0 k t214 t215 t218 t219 bt220.1 bt220.2.1 bt223.1 bt227.1 bt227.2 true)) else (laws_FnBlocks.j0 k t214 t215 t218 t219 bt220.1 bt220.2.1 bt223.1 bt227.1 bt227.2 true)) else (laws_FnBlocks.j0 k t214 t215 t218 t219 bt220.1 bt220.2.1 bt223.1 bt227.1 bt227.2 true)) else (laws_FnBlocks.j0 k t214 t215 t218 t219 bt220.1 bt220.2.1 bt223.1 bt227.1 bt227.2 true)) else (laws_FnBlocks.j0 k t214 t215 t218 t219 bt220.1 bt220.2.1 bt223.1 bt227.1 bt227.2 true)) else (laws_FnBlocks.j0 k t214 t215 t218 t219 bt220.1 bt220.2.1 bt223.1 bt227.1 bt227.2 true))))))))))))) = some r := h
  clear h
  replace H := Option.bind_eq_some_iff.mp H
  obtain ⟨t213, A30, H⟩ := H
  replace H : (if t213 = true then (some true) else ((spec_R8Bits.f l1).bind fun t214 => ((spec_R8Block.f k l0 t214).bind fun t215 => ((spec_R8Lanes.f l1).bind fun t218 => ((laws_r8At.f l1 20 7).bind fun t219 => ((impl_SumBlock.f k t214 t218 t215).bind fun bt220 => ((impl_PrefixBlock.f k t214 t218 t215).bind fun bt223 => ((impl_FindInBlock.f k t214 t218 t215 t219).bind fun bt227 => ((impl_CountInBlock.f k t214 t218 t215 t219).bind fun bt229 => ((impl_SumBlock.f k t214 2 t215).bind fun bt231 => (if bt220.2.2 = true then (if bt223.2 = true then (if bt229.2 = true then (if bt231.2.2 = true then (if (bt223.1.length : Int) = (t215.length : Int) then (if bt231.1 = bt220.1 then ((laws_r8Count.f k t215 t219).bind fun t234 => (if bt229.1 = t234 then (laws_FnBlocks.j0 k t214 t215 t218 t219 bt220.1 bt220.2.1 bt223.1 bt227.1 bt227.2 (bt227.2 != (decide (bt229.1 > 0)))) else (laws_FnBlocks.j0 k t214 t215 t218 t219 bt220.1 bt220.2.1 bt223.1 bt227.1 bt227.2 true))) else (laws_FnBlocks.j0 k t214 t215 t218 t219 bt220.1 bt220.2.1 bt223.1 bt227.1 bt227.2 true)) else (laws_FnBlocks.j0 k t214 t215 t218 t219 bt220.1 bt220.2.1 bt223.1 bt227.1 bt227.2 true)) else (laws_FnBlocks.j0 k t214 t215 t218 t219 bt220.1 bt220.2.1 bt223.1 bt227.1 bt227.2 true)) else (laws_FnBlocks.j0 k t214 t215 t218 t219 bt220.1 bt220.2.1 bt223.1 bt227.1 bt227.2 true)) else (laws_FnBlocks.j0 k t214 t215 t218 t219 bt220.1 bt220.2.1 bt223.1 bt227.1 bt227.2 true)) else (laws_FnBlocks.j0 k t214 t215 t218 t219 bt220.1 bt220.2.1 bt223.1 bt227.1 bt227.2 true)))))))))))) = some r := H
  have A3 := Aside0.mk A30
  clear A30
  by_cases c4 : t213 = true
  · subst c4
    have H1 : (some true) = some r := by rw [if_pos rfl] at H; exact H
    clear H
    have H := H1
    clear H1
    obtain rfl := Option.some.inj H
    go_enter Try.func10, Try.ntmps10
    go_wp2_with (first | ((with_reducible refine gate_callee (f := 33) rfl ?_); refine goesL_ (some 27) rfl rfl Try.func33 (by kernel_rfl) rfl #[.slice A0 l0.length c0, .slice A1 l1.length c1] rfl (by (try simp only [List.map_toArray, List.map_cons, List.map_nil]); first | done | rfl | (simp only [List.length_drop, List.length_take]; rfl)) ?_; (with_reducible refine (laws_r8Long.calls _ _ l0 _ _ l1 true _ ?side1 ?side2 ?side3 ?side4 A3.out).mono ?_); (case side1 => repeat (first | exact HR0.out | (with_reducible refine Kd.C_alloc ?_ _) | (with_reducible refine Kd.C_drewN ?_ _) | (with_reducible refine Kd.C_drew ?_))); (case side2 => exact HC0.out); (case side3 => repeat (first | exact HR1.out | (with_reducible refine Kd.C_alloc ?_ _) | (with_reducible refine Kd.C_drewN ?_ _) | (with_reducible refine Kd.C_drew ?_))); (case side4 => exact HC1.out); rintro e w' ⟨rfl, ⟨nd, rfl⟩⟩; refine ⟨_, rfl, ?_⟩))
    go_ret
    exact ⟨by first | rfl | (simp [errW_none, errW_some] <;> rfl) | (simp [*, errW_none, errW_some] <;> rfl), by repeat (first | (with_reducible first | exact HB.out | apply below_alloc | apply pw_below_drewN | apply below_drew1) | exact HB.out)⟩
  · replace c4 := Bool.eq_false_iff.mpr c4
    subst c4
    have H1 : ((spec_R8Bits.f l1).bind fun t214 => ((spec_R8Block.f k l0 t214).bind fun t215 => ((spec_R8Lanes.f l1).bind fun t218 => ((laws_r8At.f l1 20 7).bind fun t219 => ((impl_SumBlock.f k t214 t218 t215).bind fun bt220 => ((impl_PrefixBlock.f k t214 t218 t215).bind fun bt223 => ((impl_FindInBlock.f k t214 t218 t215 t219).bind fun bt227 => ((impl_CountInBlock.f k t214 t218 t215 t219).bind fun bt229 => ((impl_SumBlock.f k t214 2 t215).bind fun bt231 => (if bt220.2.2 = true then (if bt223.2 = true then (if bt229.2 = true then (if bt231.2.2 = true then (if (bt223.1.length : Int) = (t215.length : Int) then (if bt231.1 = bt220.1 then ((laws_r8Count.f k t215 t219).bind fun t234 => (if bt229.1 = t234 then (laws_FnBlocks.j0 k t214 t215 t218 t219 bt220.1 bt220.2.1 bt223.1 bt227.1 bt227.2 (bt227.2 != (decide (bt229.1 > 0)))) else (laws_FnBlocks.j0 k t214 t215 t218 t219 bt220.1 bt220.2.1 bt223.1 bt227.1 bt227.2 true))) else (laws_FnBlocks.j0 k t214 t215 t218 t219 bt220.1 bt220.2.1 bt223.1 bt227.1 bt227.2 true)) else (laws_FnBlocks.j0 k t214 t215 t218 t219 bt220.1 bt220.2.1 bt223.1 bt227.1 bt227.2 true)) else (laws_FnBlocks.j0 k t214 t215 t218 t219 bt220.1 bt220.2.1 bt223.1 bt227.1 bt227.2 true)) else (laws_FnBlocks.j0 k t214 t215 t218 t219 bt220.1 bt220.2.1 bt223.1 bt227.1 bt227.2 true)) else (laws_FnBlocks.j0 k t214 t215 t218 t219 bt220.1 bt220.2.1 bt223.1 bt227.1 bt227.2 true)) else (laws_FnBlocks.j0 k t214 t215 t218 t219 bt220.1 bt220.2.1 bt223.1 bt227.1 bt227.2 true))))))))))) = some r := by rw [if_neg (show ¬ (false = true) by decide)] at H; exact H
    clear H
    have H := H1
    clear H1
    replace H := Option.bind_eq_some_iff.mp H
    obtain ⟨t214, A50, H⟩ := H
    replace H : ((spec_R8Block.f k l0 t214).bind fun t215 => ((spec_R8Lanes.f l1).bind fun t218 => ((laws_r8At.f l1 20 7).bind fun t219 => ((impl_SumBlock.f k t214 t218 t215).bind fun bt220 => ((impl_PrefixBlock.f k t214 t218 t215).bind fun bt223 => ((impl_FindInBlock.f k t214 t218 t215 t219).bind fun bt227 => ((impl_CountInBlock.f k t214 t218 t215 t219).bind fun bt229 => ((impl_SumBlock.f k t214 2 t215).bind fun bt231 => (if bt220.2.2 = true then (if bt223.2 = true then (if bt229.2 = true then (if bt231.2.2 = true then (if (bt223.1.length : Int) = (t215.length : Int) then (if bt231.1 = bt220.1 then ((laws_r8Count.f k t215 t219).bind fun t234 => (if bt229.1 = t234 then (laws_FnBlocks.j0 k t214 t215 t218 t219 bt220.1 bt220.2.1 bt223.1 bt227.1 bt227.2 (bt227.2 != (decide (bt229.1 > 0)))) else (laws_FnBlocks.j0 k t214 t215 t218 t219 bt220.1 bt220.2.1 bt223.1 bt227.1 bt227.2 true))) else (laws_FnBlocks.j0 k t214 t215 t218 t219 bt220.1 bt220.2.1 bt223.1 bt227.1 bt227.2 true)) else (laws_FnBlocks.j0 k t214 t215 t218 t219 bt220.1 bt220.2.1 bt223.1 bt227.1 bt227.2 true)) else (laws_FnBlocks.j0 k t214 t215 t218 t219 bt220.1 bt220.2.1 bt223.1 bt227.1 bt227.2 true)) else (laws_FnBlocks.j0 k t214 t215 t218 t219 bt220.1 bt220.2.1 bt223.1 bt227.1 bt227.2 true)) else (laws_FnBlocks.j0 k t214 t215 t218 t219 bt220.1 bt220.2.1 bt223.1 bt227.1 bt227.2 true)) else (laws_FnBlocks.j0 k t214 t215 t218 t219 bt220.1 bt220.2.1 bt223.1 bt227.1 bt227.2 true)))))))))) = some r := H
    have A5 := Aside0.mk A50
    clear A50
    replace H := Option.bind_eq_some_iff.mp H
    obtain ⟨t215, A60, H⟩ := H
    replace H : ((spec_R8Lanes.f l1).bind fun t218 => ((laws_r8At.f l1 20 7).bind fun t219 => ((impl_SumBlock.f k t214 t218 t215).bind fun bt220 => ((impl_PrefixBlock.f k t214 t218 t215).bind fun bt223 => ((impl_FindInBlock.f k t214 t218 t215 t219).bind fun bt227 => ((impl_CountInBlock.f k t214 t218 t215 t219).bind fun bt229 => ((impl_SumBlock.f k t214 2 t215).bind fun bt231 => (if bt220.2.2 = true then (if bt223.2 = true then (if bt229.2 = true then (if bt231.2.2 = true then (if (bt223.1.length : Int) = (t215.length : Int) then (if bt231.1 = bt220.1 then ((laws_r8Count.f k t215 t219).bind fun t234 => (if bt229.1 = t234 then (laws_FnBlocks.j0 k t214 t215 t218 t219 bt220.1 bt220.2.1 bt223.1 bt227.1 bt227.2 (bt227.2 != (decide (bt229.1 > 0)))) else (laws_FnBlocks.j0 k t214 t215 t218 t219 bt220.1 bt220.2.1 bt223.1 bt227.1 bt227.2 true))) else (laws_FnBlocks.j0 k t214 t215 t218 t219 bt220.1 bt220.2.1 bt223.1 bt227.1 bt227.2 true)) else (laws_FnBlocks.j0 k t214 t215 t218 t219 bt220.1 bt220.2.1 bt223.1 bt227.1 bt227.2 true)) else (laws_FnBlocks.j0 k t214 t215 t218 t219 bt220.1 bt220.2.1 bt223.1 bt227.1 bt227.2 true)) else (laws_FnBlocks.j0 k t214 t215 t218 t219 bt220.1 bt220.2.1 bt223.1 bt227.1 bt227.2 true)) else (laws_FnBlocks.j0 k t214 t215 t218 t219 bt220.1 bt220.2.1 bt223.1 bt227.1 bt227.2 true)) else (laws_FnBlocks.j0 k t214 t215 t218 t219 bt220.1 bt220.2.1 bt223.1 bt227.1 bt227.2 true))))))))) = some r := H
    have A6 := Aside0.mk A60
    clear A60
    replace H := Option.bind_eq_some_iff.mp H
    obtain ⟨t218, A70, H⟩ := H
    replace H : ((laws_r8At.f l1 20 7).bind fun t219 => ((impl_SumBlock.f k t214 t218 t215).bind fun bt220 => ((impl_PrefixBlock.f k t214 t218 t215).bind fun bt223 => ((impl_FindInBlock.f k t214 t218 t215 t219).bind fun bt227 => ((impl_CountInBlock.f k t214 t218 t215 t219).bind fun bt229 => ((impl_SumBlock.f k t214 2 t215).bind fun bt231 => (if bt220.2.2 = true then (if bt223.2 = true then (if bt229.2 = true then (if bt231.2.2 = true then (if (bt223.1.length : Int) = (t215.length : Int) then (if bt231.1 = bt220.1 then ((laws_r8Count.f k t215 t219).bind fun t234 => (if bt229.1 = t234 then (laws_FnBlocks.j0 k t214 t215 t218 t219 bt220.1 bt220.2.1 bt223.1 bt227.1 bt227.2 (bt227.2 != (decide (bt229.1 > 0)))) else (laws_FnBlocks.j0 k t214 t215 t218 t219 bt220.1 bt220.2.1 bt223.1 bt227.1 bt227.2 true))) else (laws_FnBlocks.j0 k t214 t215 t218 t219 bt220.1 bt220.2.1 bt223.1 bt227.1 bt227.2 true)) else (laws_FnBlocks.j0 k t214 t215 t218 t219 bt220.1 bt220.2.1 bt223.1 bt227.1 bt227.2 true)) else (laws_FnBlocks.j0 k t214 t215 t218 t219 bt220.1 bt220.2.1 bt223.1 bt227.1 bt227.2 true)) else (laws_FnBlocks.j0 k t214 t215 t218 t219 bt220.1 bt220.2.1 bt223.1 bt227.1 bt227.2 true)) else (laws_FnBlocks.j0 k t214 t215 t218 t219 bt220.1 bt220.2.1 bt223.1 bt227.1 bt227.2 true)) else (laws_FnBlocks.j0 k t214 t215 t218 t219 bt220.1 bt220.2.1 bt223.1 bt227.1 bt227.2 true)))))))) = some r := H
    have A7 := Aside0.mk A70
    clear A70
    replace H := Option.bind_eq_some_iff.mp H
    obtain ⟨t219, A80, H⟩ := H
    replace H : ((impl_SumBlock.f k t214 t218 t215).bind fun bt220 => ((impl_PrefixBlock.f k t214 t218 t215).bind fun bt223 => ((impl_FindInBlock.f k t214 t218 t215 t219).bind fun bt227 => ((impl_CountInBlock.f k t214 t218 t215 t219).bind fun bt229 => ((impl_SumBlock.f k t214 2 t215).bind fun bt231 => (if bt220.2.2 = true then (if bt223.2 = true then (if bt229.2 = true then (if bt231.2.2 = true then (if (bt223.1.length : Int) = (t215.length : Int) then (if bt231.1 = bt220.1 then ((laws_r8Count.f k t215 t219).bind fun t234 => (if bt229.1 = t234 then (laws_FnBlocks.j0 k t214 t215 t218 t219 bt220.1 bt220.2.1 bt223.1 bt227.1 bt227.2 (bt227.2 != (decide (bt229.1 > 0)))) else (laws_FnBlocks.j0 k t214 t215 t218 t219 bt220.1 bt220.2.1 bt223.1 bt227.1 bt227.2 true))) else (laws_FnBlocks.j0 k t214 t215 t218 t219 bt220.1 bt220.2.1 bt223.1 bt227.1 bt227.2 true)) else (laws_FnBlocks.j0 k t214 t215 t218 t219 bt220.1 bt220.2.1 bt223.1 bt227.1 bt227.2 true)) else (laws_FnBlocks.j0 k t214 t215 t218 t219 bt220.1 bt220.2.1 bt223.1 bt227.1 bt227.2 true)) else (laws_FnBlocks.j0 k t214 t215 t218 t219 bt220.1 bt220.2.1 bt223.1 bt227.1 bt227.2 true)) else (laws_FnBlocks.j0 k t214 t215 t218 t219 bt220.1 bt220.2.1 bt223.1 bt227.1 bt227.2 true)) else (laws_FnBlocks.j0 k t214 t215 t218 t219 bt220.1 bt220.2.1 bt223.1 bt227.1 bt227.2 true))))))) = some r := H
    have A8 := Aside0.mk A80
    clear A80
    replace H := Option.bind_eq_some_iff.mp H
    obtain ⟨⟨t220, t221, t222⟩, A90, H⟩ := H
    replace H : ((impl_PrefixBlock.f k t214 t218 t215).bind fun bt223 => ((impl_FindInBlock.f k t214 t218 t215 t219).bind fun bt227 => ((impl_CountInBlock.f k t214 t218 t215 t219).bind fun bt229 => ((impl_SumBlock.f k t214 2 t215).bind fun bt231 => (if t222 = true then (if bt223.2 = true then (if bt229.2 = true then (if bt231.2.2 = true then (if (bt223.1.length : Int) = (t215.length : Int) then (if bt231.1 = t220 then ((laws_r8Count.f k t215 t219).bind fun t234 => (if bt229.1 = t234 then (laws_FnBlocks.j0 k t214 t215 t218 t219 t220 t221 bt223.1 bt227.1 bt227.2 (bt227.2 != (decide (bt229.1 > 0)))) else (laws_FnBlocks.j0 k t214 t215 t218 t219 t220 t221 bt223.1 bt227.1 bt227.2 true))) else (laws_FnBlocks.j0 k t214 t215 t218 t219 t220 t221 bt223.1 bt227.1 bt227.2 true)) else (laws_FnBlocks.j0 k t214 t215 t218 t219 t220 t221 bt223.1 bt227.1 bt227.2 true)) else (laws_FnBlocks.j0 k t214 t215 t218 t219 t220 t221 bt223.1 bt227.1 bt227.2 true)) else (laws_FnBlocks.j0 k t214 t215 t218 t219 t220 t221 bt223.1 bt227.1 bt227.2 true)) else (laws_FnBlocks.j0 k t214 t215 t218 t219 t220 t221 bt223.1 bt227.1 bt227.2 true)) else (laws_FnBlocks.j0 k t214 t215 t218 t219 t220 t221 bt223.1 bt227.1 bt227.2 true)))))) = some r := H
    have A9 := Aside0.mk A90
    clear A90
    replace H := Option.bind_eq_some_iff.mp H
    obtain ⟨⟨t223, t224⟩, A100, H⟩ := H
    replace H : ((impl_FindInBlock.f k t214 t218 t215 t219).bind fun bt227 => ((impl_CountInBlock.f k t214 t218 t215 t219).bind fun bt229 => ((impl_SumBlock.f k t214 2 t215).bind fun bt231 => (if t222 = true then (if t224 = true then (if bt229.2 = true then (if bt231.2.2 = true then (if (t223.length : Int) = (t215.length : Int) then (if bt231.1 = t220 then ((laws_r8Count.f k t215 t219).bind fun t234 => (if bt229.1 = t234 then (laws_FnBlocks.j0 k t214 t215 t218 t219 t220 t221 t223 bt227.1 bt227.2 (bt227.2 != (decide (bt229.1 > 0)))) else (laws_FnBlocks.j0 k t214 t215 t218 t219 t220 t221 t223 bt227.1 bt227.2 true))) else (laws_FnBlocks.j0 k t214 t215 t218 t219 t220 t221 t223 bt227.1 bt227.2 true)) else (laws_FnBlocks.j0 k t214 t215 t218 t219 t220 t221 t223 bt227.1 bt227.2 true)) else (laws_FnBlocks.j0 k t214 t215 t218 t219 t220 t221 t223 bt227.1 bt227.2 true)) else (laws_FnBlocks.j0 k t214 t215 t218 t219 t220 t221 t223 bt227.1 bt227.2 true)) else (laws_FnBlocks.j0 k t214 t215 t218 t219 t220 t221 t223 bt227.1 bt227.2 true)) else (laws_FnBlocks.j0 k t214 t215 t218 t219 t220 t221 t223 bt227.1 bt227.2 true))))) = some r := H
    have A10 := Aside0.mk A100
    clear A100
    replace H := Option.bind_eq_some_iff.mp H
    obtain ⟨⟨t227, t228⟩, A110, H⟩ := H
    replace H : ((impl_CountInBlock.f k t214 t218 t215 t219).bind fun bt229 => ((impl_SumBlock.f k t214 2 t215).bind fun bt231 => (if t222 = true then (if t224 = true then (if bt229.2 = true then (if bt231.2.2 = true then (if (t223.length : Int) = (t215.length : Int) then (if bt231.1 = t220 then ((laws_r8Count.f k t215 t219).bind fun t234 => (if bt229.1 = t234 then (laws_FnBlocks.j0 k t214 t215 t218 t219 t220 t221 t223 t227 t228 (t228 != (decide (bt229.1 > 0)))) else (laws_FnBlocks.j0 k t214 t215 t218 t219 t220 t221 t223 t227 t228 true))) else (laws_FnBlocks.j0 k t214 t215 t218 t219 t220 t221 t223 t227 t228 true)) else (laws_FnBlocks.j0 k t214 t215 t218 t219 t220 t221 t223 t227 t228 true)) else (laws_FnBlocks.j0 k t214 t215 t218 t219 t220 t221 t223 t227 t228 true)) else (laws_FnBlocks.j0 k t214 t215 t218 t219 t220 t221 t223 t227 t228 true)) else (laws_FnBlocks.j0 k t214 t215 t218 t219 t220 t221 t223 t227 t228 true)) else (laws_FnBlocks.j0 k t214 t215 t218 t219 t220 t221 t223 t227 t228 true)))) = some r := H
    have A11 := Aside0.mk A110
    clear A110
    replace H := Option.bind_eq_some_iff.mp H
    obtain ⟨⟨t229, t230⟩, A120, H⟩ := H
    replace H : ((impl_SumBlock.f k t214 2 t215).bind fun bt231 => (if t222 = true then (if t224 = true then (if t230 = true then (if bt231.2.2 = true then (if (t223.length : Int) = (t215.length : Int) then (if bt231.1 = t220 then ((laws_r8Count.f k t215 t219).bind fun t234 => (if t229 = t234 then (laws_FnBlocks.j0 k t214 t215 t218 t219 t220 t221 t223 t227 t228 (t228 != (decide (t229 > 0)))) else (laws_FnBlocks.j0 k t214 t215 t218 t219 t220 t221 t223 t227 t228 true))) else (laws_FnBlocks.j0 k t214 t215 t218 t219 t220 t221 t223 t227 t228 true)) else (laws_FnBlocks.j0 k t214 t215 t218 t219 t220 t221 t223 t227 t228 true)) else (laws_FnBlocks.j0 k t214 t215 t218 t219 t220 t221 t223 t227 t228 true)) else (laws_FnBlocks.j0 k t214 t215 t218 t219 t220 t221 t223 t227 t228 true)) else (laws_FnBlocks.j0 k t214 t215 t218 t219 t220 t221 t223 t227 t228 true)) else (laws_FnBlocks.j0 k t214 t215 t218 t219 t220 t221 t223 t227 t228 true))) = some r := H
    have A12 := Aside0.mk A120
    clear A120
    replace H := Option.bind_eq_some_iff.mp H
    obtain ⟨⟨t231, t232, t233⟩, A130, H⟩ := H
    replace H : (if t222 = true then (if t224 = true then (if t230 = true then (if t233 = true then (if (t223.length : Int) = (t215.length : Int) then (if t231 = t220 then ((laws_r8Count.f k t215 t219).bind fun t234 => (if t229 = t234 then (laws_FnBlocks.j0 k t214 t215 t218 t219 t220 t221 t223 t227 t228 (t228 != (decide (t229 > 0)))) else (laws_FnBlocks.j0 k t214 t215 t218 t219 t220 t221 t223 t227 t228 true))) else (laws_FnBlocks.j0 k t214 t215 t218 t219 t220 t221 t223 t227 t228 true)) else (laws_FnBlocks.j0 k t214 t215 t218 t219 t220 t221 t223 t227 t228 true)) else (laws_FnBlocks.j0 k t214 t215 t218 t219 t220 t221 t223 t227 t228 true)) else (laws_FnBlocks.j0 k t214 t215 t218 t219 t220 t221 t223 t227 t228 true)) else (laws_FnBlocks.j0 k t214 t215 t218 t219 t220 t221 t223 t227 t228 true)) else (laws_FnBlocks.j0 k t214 t215 t218 t219 t220 t221 t223 t227 t228 true)) = some r := H
    have A13 := Aside0.mk A130
    clear A130
    have HC14 := Aside0.mk H
    clear H
    go_enter Try.func10, Try.ntmps10
    go_upto_region 12 with (first | ((with_reducible refine gate_callee (f := 33) rfl ?_); refine goesL_ (some 27) rfl rfl Try.func33 (by kernel_rfl) rfl #[.slice A0 l0.length c0, .slice A1 l1.length c1] rfl (by (try simp only [List.map_toArray, List.map_cons, List.map_nil]); first | done | rfl | (simp only [List.length_drop, List.length_take]; rfl)) ?_; (with_reducible refine (laws_r8Long.calls _ _ l0 _ _ l1 false _ ?side1 ?side2 ?side3 ?side4 A3.out).mono ?_); (case side1 => repeat (first | exact HR0.out | (with_reducible refine Kd.C_alloc ?_ _) | (with_reducible refine Kd.C_drewN ?_ _) | (with_reducible refine Kd.C_drew ?_))); (case side2 => exact HC0.out); (case side3 => repeat (first | exact HR1.out | (with_reducible refine Kd.C_alloc ?_ _) | (with_reducible refine Kd.C_drewN ?_ _) | (with_reducible refine Kd.C_drew ?_))); (case side4 => exact HC1.out); rintro e w' ⟨rfl, ⟨nd, rfl⟩⟩; refine ⟨_, rfl, ?_⟩) | ((with_reducible refine gate_callee (f := 34) rfl ?_); refine goesL_ (some 29) rfl rfl Try.func34 (by kernel_rfl) rfl #[.slice A1 l1.length c1] rfl (by (try simp only [List.map_toArray, List.map_cons, List.map_nil]); first | done | rfl | (simp only [List.length_drop, List.length_take]; rfl)) ?_; (with_reducible refine (spec_R8Bits.calls _ _ l1 t214 _ ?side1 ?side2 A5.out).mono ?_); (case side1 => repeat (first | exact HR1.out | (with_reducible refine Kd.C_alloc ?_ _) | (with_reducible refine Kd.C_drewN ?_ _) | (with_reducible refine Kd.C_drew ?_))); (case side2 => exact HC1.out); rintro e w15 ⟨rfl, hb⟩; refine ⟨_, rfl, ?_⟩; have n0_ := Aside0.mk (below_step (by repeat (first | (with_reducible first | exact HB.out | apply below_alloc | apply pw_below_drewN | apply below_drew1) | exact HB.out)) hb); clear HB; have HB := n0_; clear n0_; (try clear hb); (try clear hb2); (try clear hk); (try clear hi)) | ((with_reducible refine gate_callee (f := 48) rfl ?_); refine goesL_ (some 32) rfl rfl Try.func48 (by kernel_rfl) rfl #[.slice A0 l0.length c0, .int .i64 t214] rfl (by (try simp only [List.map_toArray, List.map_cons, List.map_nil]); first | done | rfl | (simp only [List.length_drop, List.length_take]; rfl)) ?_; (with_reducible refine (spec_R8Block.calls k _ _ l0 t214 t215 _ ?side1 ?side2 A6.out).mono ?_); (case side1 => repeat (first | exact (Kd.C_below HR0.out HB.out) | (with_reducible refine Kd.C_alloc ?_ _) | (with_reducible refine Kd.C_drewN ?_ _) | (with_reducible refine Kd.C_drew ?_))); (case side2 => exact HC0.out); rintro e w16 ⟨v216, rfl, ho0, hb⟩; refine ⟨_, rfl, ?_⟩; have n0_ := Aside0.mk (Kd.R_lower ho0 (below_size (by repeat (first | (with_reducible first | exact HB.out | apply below_alloc | apply pw_below_drewN | apply below_drew1) | exact HB.out)))); have n1_ := Aside0.mk (below_step (by repeat (first | (with_reducible first | exact HB.out | apply below_alloc | apply pw_below_drewN | apply below_drew1) | exact HB.out)) hb); clear HB; have HO217 := n0_; have HB := n1_; clear n0_ n1_; (try clear hb); (try clear hb2); (try clear hk); (try clear hi); (try clear ho0)) | ((with_reducible refine gate_callee (f := 35) rfl ?_); refine goesL_ (some 34) rfl rfl Try.func35 (by kernel_rfl) rfl #[.slice A1 l1.length c1] rfl (by (try simp only [List.map_toArray, List.map_cons, List.map_nil]); first | done | rfl | (simp only [List.length_drop, List.length_take]; rfl)) ?_; (with_reducible refine (spec_R8Lanes.calls _ _ l1 t218 _ ?side1 ?side2 A7.out).mono ?_); (case side1 => repeat (first | exact (Kd.C_below HR1.out HB.out) | (with_reducible refine Kd.C_alloc ?_ _) | (with_reducible refine Kd.C_drewN ?_ _) | (with_reducible refine Kd.C_drew ?_))); (case side2 => exact HC1.out); rintro e w17 ⟨rfl, hb⟩; refine ⟨_, rfl, ?_⟩; have n0_ := Aside0.mk (Kd.R_below (by (with_reducible repeat (first | apply Kd.R_alloc | apply Kd.R_drewN | apply Kd.R_drew)); exact HO217.out) hb); have n1_ := Aside0.mk (below_step (by repeat (first | (with_reducible first | exact HB.out | apply below_alloc | apply pw_below_drewN | apply below_drew1) | exact HB.out)) hb); clear HO217; clear HB; have HO217 := n0_; have HB := n1_; clear n0_ n1_; (try clear hb); (try clear hb2); (try clear hk); (try clear hi)) | ((with_reducible refine gate_callee (f := 49) rfl ?_); refine goesL_ (some 36) rfl rfl Try.func49 (by kernel_rfl) rfl #[.slice A1 l1.length c1, .int .i64 20, .int .i64 7] rfl (by (try simp only [List.map_toArray, List.map_cons, List.map_nil]); first | done | rfl | (simp only [List.length_drop, List.length_take]; rfl)) ?_; (with_reducible refine (laws_r8At.calls _ _ l1 20 7 t219 _ ?side1 ?side2 A8.out).mono ?_); (case side1 => repeat (first | exact (Kd.C_below HR1.out HB.out) | (with_reducible refine Kd.C_alloc ?_ _) | (with_reducible refine Kd.C_drewN ?_ _) | (with_reducible refine Kd.C_drew ?_))); (case side2 => exact HC1.out); rintro e w' ⟨rfl, ⟨nd, rfl⟩⟩; refine ⟨_, rfl, ?_⟩; obtain ⟨Ao18, co18, eo18⟩ := Kd.R_slice HO217.out; subst eo18) | ((with_reducible refine gate_callee (f := 50) rfl ?_); refine goesL_ (some 41) rfl rfl Try.func50 (by kernel_rfl) rfl #[.int .i64 t214, .int .i64 t218, .slice Ao18 t215.length co18] rfl (by (try simp only [List.map_toArray, List.map_cons, List.map_nil]); first | done | rfl | (simp only [List.length_drop, List.length_take]; rfl)) ?_; (with_reducible refine (impl_SumBlock.calls k t214 t218 _ _ t215 t220 t221 t222 _ ?side1 ?side2 A9.out).mono ?_); (case side1 => repeat (first | exact (Kd.R_reads' HO217.out).2.2 | (with_reducible refine Kd.C_alloc ?_ _) | (with_reducible refine Kd.C_drewN ?_ _) | (with_reducible refine Kd.C_drew ?_))); (case side2 => exact (Kd.R_reads' HO217.out).2.1); rintro e w19 ⟨rfl, hb⟩; refine ⟨_, rfl, ?_⟩; have n0_ := Aside0.mk (Kd.R_below (by (with_reducible repeat (first | apply Kd.R_alloc | apply Kd.R_drewN | apply Kd.R_drew)); exact HO217.out) hb); have n1_ := Aside0.mk (below_step (by repeat (first | (with_reducible first | exact HB.out | apply below_alloc | apply pw_below_drewN | apply below_drew1) | exact HB.out)) hb); clear HO217; clear HB; have HO217 := n0_; have HB := n1_; clear n0_ n1_; (try clear hb); (try clear hb2); (try clear hk); (try clear hi)) | ((with_reducible refine gate_callee (f := 51) rfl ?_); refine goesL_ (some 49) rfl rfl Try.func51 (by kernel_rfl) rfl #[.int .i64 t214, .int .i64 t218, .slice Ao18 t215.length co18] rfl (by (try simp only [List.map_toArray, List.map_cons, List.map_nil]); first | done | rfl | (simp only [List.length_drop, List.length_take]; rfl)) ?_; (with_reducible refine (impl_PrefixBlock.calls k t214 t218 _ _ t215 t223 t224 _ ?side1 ?side2 A10.out).mono ?_); (case side1 => repeat (first | exact (Kd.R_reads' HO217.out).2.2 | (with_reducible refine Kd.C_alloc ?_ _) | (with_reducible refine Kd.C_drewN ?_ _) | (with_reducible refine Kd.C_drew ?_))); (case side2 => exact (Kd.R_reads' HO217.out).2.1); rintro e w20 ⟨v225, rfl, ho0, hb⟩; refine ⟨_, rfl, ?_⟩; have n0_ := Aside0.mk (Kd.R_elder' (by (with_reducible repeat (first | apply Kd.R_alloc | apply Kd.R_drewN | apply Kd.R_drew)); exact HO217.out) (Kd.R_base ho0) hb); have n1_ := Aside0.mk (Kd.R_lower (Kd.R_new' ho0 (Kd.R_lt (by (with_reducible repeat (first | apply Kd.R_alloc | apply Kd.R_drewN | apply Kd.R_drew)); exact HO217.out))) (below_size (by repeat (first | (with_reducible first | exact HB.out | apply below_alloc | apply pw_below_drewN | apply below_drew1) | exact HB.out)))); have n2_ := Aside0.mk (below_step (by repeat (first | (with_reducible first | exact HB.out | apply below_alloc | apply pw_below_drewN | apply below_drew1) | exact HB.out)) hb); clear HO217; clear HB; have HO217 := n0_; have HO226 := n1_; have HB := n2_; clear n0_ n1_ n2_; (try clear hb); (try clear hb2); (try clear hk); (try clear hi); (try clear ho0)) | ((with_reducible refine gate_callee (f := 52) rfl ?_); refine goesL_ (some 57) rfl rfl Try.func52 (by kernel_rfl) rfl #[.int .i64 t214, .int .i64 t218, .slice Ao18 t215.length co18, .int .i64 t219] rfl (by (try simp only [List.map_toArray, List.map_cons, List.map_nil]); first | done | rfl | (simp only [List.length_drop, List.length_take]; rfl)) ?_; (with_reducible refine (impl_FindInBlock.calls k t214 t218 _ _ t215 t219 t227 t228 _ ?side1 ?side2 A11.out).mono ?_); (case side1 => repeat (first | exact (Kd.R_reads' HO217.out).2.2 | (with_reducible refine Kd.C_alloc ?_ _) | (with_reducible refine Kd.C_drewN ?_ _) | (with_reducible refine Kd.C_drew ?_))); (case side2 => exact (Kd.R_reads' HO217.out).2.1); rintro e w21 ⟨rfl, hb⟩; refine ⟨_, rfl, ?_⟩; have n0_ := Aside0.mk (Kd.R_below (by (with_reducible repeat (first | apply Kd.R_alloc | apply Kd.R_drewN | apply Kd.R_drew)); exact HO217.out) hb); have n1_ := Aside0.mk (Kd.R_below (by (with_reducible repeat (first | apply Kd.R_alloc | apply Kd.R_drewN | apply Kd.R_drew)); exact HO226.out) hb); have n2_ := Aside0.mk (below_step (by repeat (first | (with_reducible first | exact HB.out | apply below_alloc | apply pw_below_drewN | apply below_drew1) | exact HB.out)) hb); clear HO217; clear HO226; clear HB; have HO217 := n0_; have HO226 := n1_; have HB := n2_; clear n0_ n1_ n2_; (try clear hb); (try clear hb2); (try clear hk); (try clear hi)) | ((with_reducible refine gate_callee (f := 53) rfl ?_); refine goesL_ (some 65) rfl rfl Try.func53 (by kernel_rfl) rfl #[.int .i64 t214, .int .i64 t218, .slice Ao18 t215.length co18, .int .i64 t219] rfl (by (try simp only [List.map_toArray, List.map_cons, List.map_nil]); first | done | rfl | (simp only [List.length_drop, List.length_take]; rfl)) ?_; (with_reducible refine (impl_CountInBlock.calls k t214 t218 _ _ t215 t219 t229 t230 _ ?side1 ?side2 A12.out).mono ?_); (case side1 => repeat (first | exact (Kd.R_reads' HO217.out).2.2 | (with_reducible refine Kd.C_alloc ?_ _) | (with_reducible refine Kd.C_drewN ?_ _) | (with_reducible refine Kd.C_drew ?_))); (case side2 => exact (Kd.R_reads' HO217.out).2.1); rintro e w22 ⟨rfl, hb⟩; refine ⟨_, rfl, ?_⟩; have n0_ := Aside0.mk (Kd.R_below (by (with_reducible repeat (first | apply Kd.R_alloc | apply Kd.R_drewN | apply Kd.R_drew)); exact HO217.out) hb); have n1_ := Aside0.mk (Kd.R_below (by (with_reducible repeat (first | apply Kd.R_alloc | apply Kd.R_drewN | apply Kd.R_drew)); exact HO226.out) hb); have n2_ := Aside0.mk (below_step (by repeat (first | (with_reducible first | exact HB.out | apply below_alloc | apply pw_below_drewN | apply below_drew1) | exact HB.out)) hb); clear HO217; clear HO226; clear HB; have HO217 := n0_; have HO226 := n1_; have HB := n2_; clear n0_ n1_ n2_; (try clear hb); (try clear hb2); (try clear hk); (try clear hi)) | ((with_reducible refine gate_callee (f := 50) rfl ?_); refine goesL_ (some 71) rfl rfl Try.func50 (by kernel_rfl) rfl #[.int .i64 t214, .int .i64 2, .slice Ao18 t215.length co18] rfl (by (try simp only [List.map_toArray, List.map_cons, List.map_nil]); first | done | rfl | (simp only [List.length_drop, List.length_take]; rfl)) ?_; (with_reducible refine (impl_SumBlock.calls k t214 2 _ _ t215 t231 t232 t233 _ ?side1 ?side2 A13.out).mono ?_); (case side1 => repeat (first | exact (Kd.R_reads' HO217.out).2.2 | (with_reducible refine Kd.C_alloc ?_ _) | (with_reducible refine Kd.C_drewN ?_ _) | (with_reducible refine Kd.C_drew ?_))); (case side2 => exact (Kd.R_reads' HO217.out).2.1); rintro e w23 ⟨rfl, hb⟩; refine ⟨_, rfl, ?_⟩; have n0_ := Aside0.mk (Kd.R_below (by (with_reducible repeat (first | apply Kd.R_alloc | apply Kd.R_drewN | apply Kd.R_drew)); exact HO217.out) hb); have n1_ := Aside0.mk (Kd.R_below (by (with_reducible repeat (first | apply Kd.R_alloc | apply Kd.R_drewN | apply Kd.R_drew)); exact HO226.out) hb); have n2_ := Aside0.mk (below_step (by repeat (first | (with_reducible first | exact HB.out | apply below_alloc | apply pw_below_drewN | apply below_drew1) | exact HB.out)) hb); clear HO217; clear HO226; clear HB; have HO217 := n0_; have HO226 := n1_; have HB := n2_; clear n0_ n1_ n2_; (try clear hb); (try clear hb2); (try clear hk); (try clear hi)))
    (try simp only [Act.put, List.setIfInBounds_toArray, List.set_cons_zero, List.set_cons_succ])
    go_cut [113] (fun v113 wc => ∃ (kq : Nat) (x113_13 : Bool), v113 = .bool x113_13 ∧ Aside0 (laws_FnBlocks.j0 kq t214 t215 t218 t219 t220 t221 t223 t227 t228 x113_13 = some r) ∧ Aside0 (kq ≤ k) ∧ Aside0 (Kd.R (Kd.int .i64) 2 wc w.heap.size (fun k_ => some k_ ≠ (v225 : Value).ownBlock) (.slice Ao18 t215.length co18) t215) ∧ Aside0 (Kd.R (Kd.int .i64) 2 wc w.heap.size (fun k_ => some k_ ≠ ((.slice Ao18 t215.length co18) : Value).ownBlock) v225 t223) ∧ Aside0 (Below w.heap.size w wc))
    case first =>
      have H := HC14.out
      clear HC14
      by_cases c24 : t222 = true
      · subst c24
        have H1 : (if t224 = true then (if t230 = true then (if t233 = true then (if (t223.length : Int) = (t215.length : Int) then (if t231 = t220 then ((laws_r8Count.f k t215 t219).bind fun t234 => (if t229 = t234 then (laws_FnBlocks.j0 k t214 t215 t218 t219 t220 t221 t223 t227 t228 (t228 != (decide (t229 > 0)))) else (laws_FnBlocks.j0 k t214 t215 t218 t219 t220 t221 t223 t227 t228 true))) else (laws_FnBlocks.j0 k t214 t215 t218 t219 t220 t221 t223 t227 t228 true)) else (laws_FnBlocks.j0 k t214 t215 t218 t219 t220 t221 t223 t227 t228 true)) else (laws_FnBlocks.j0 k t214 t215 t218 t219 t220 t221 t223 t227 t228 true)) else (laws_FnBlocks.j0 k t214 t215 t218 t219 t220 t221 t223 t227 t228 true)) else (laws_FnBlocks.j0 k t214 t215 t218 t219 t220 t221 t223 t227 t228 true)) = some r := by rw [if_pos rfl] at H; exact H
        clear H
        have H := H1
        clear H1
        by_cases c25 : t224 = true
        · subst c25
          have H1 : (if t230 = true then (if t233 = true then (if (t223.length : Int) = (t215.length : Int) then (if t231 = t220 then ((laws_r8Count.f k t215 t219).bind fun t234 => (if t229 = t234 then (laws_FnBlocks.j0 k t214 t215 t218 t219 t220 t221 t223 t227 t228 (t228 != (decide (t229 > 0)))) else (laws_FnBlocks.j0 k t214 t215 t218 t219 t220 t221 t223 t227 t228 true))) else (laws_FnBlocks.j0 k t214 t215 t218 t219 t220 t221 t223 t227 t228 true)) else (laws_FnBlocks.j0 k t214 t215 t218 t219 t220 t221 t223 t227 t228 true)) else (laws_FnBlocks.j0 k t214 t215 t218 t219 t220 t221 t223 t227 t228 true)) else (laws_FnBlocks.j0 k t214 t215 t218 t219 t220 t221 t223 t227 t228 true)) = some r := by rw [if_pos rfl] at H; exact H
          clear H
          have H := H1
          clear H1
          by_cases c26 : t230 = true
          · subst c26
            have H1 : (if t233 = true then (if (t223.length : Int) = (t215.length : Int) then (if t231 = t220 then ((laws_r8Count.f k t215 t219).bind fun t234 => (if t229 = t234 then (laws_FnBlocks.j0 k t214 t215 t218 t219 t220 t221 t223 t227 t228 (t228 != (decide (t229 > 0)))) else (laws_FnBlocks.j0 k t214 t215 t218 t219 t220 t221 t223 t227 t228 true))) else (laws_FnBlocks.j0 k t214 t215 t218 t219 t220 t221 t223 t227 t228 true)) else (laws_FnBlocks.j0 k t214 t215 t218 t219 t220 t221 t223 t227 t228 true)) else (laws_FnBlocks.j0 k t214 t215 t218 t219 t220 t221 t223 t227 t228 true)) = some r := by rw [if_pos rfl] at H; exact H
            clear H
            have H := H1
            clear H1
            by_cases c27 : t233 = true
            · subst c27
              have H1 : (if (t223.length : Int) = (t215.length : Int) then (if t231 = t220 then ((laws_r8Count.f k t215 t219).bind fun t234 => (if t229 = t234 then (laws_FnBlocks.j0 k t214 t215 t218 t219 t220 t221 t223 t227 t228 (t228 != (decide (t229 > 0)))) else (laws_FnBlocks.j0 k t214 t215 t218 t219 t220 t221 t223 t227 t228 true))) else (laws_FnBlocks.j0 k t214 t215 t218 t219 t220 t221 t223 t227 t228 true)) else (laws_FnBlocks.j0 k t214 t215 t218 t219 t220 t221 t223 t227 t228 true)) = some r := by rw [if_pos rfl] at H; exact H
              clear H
              have H := H1
              clear H1
              by_cases c28 : (t223.length : Int) = (t215.length : Int)
              · rw [if_pos c28] at H
                have c28b0 : ((t223.length : Int) == (t215.length : Int)) = true := beq_iff_eq.mpr c28
                have c28b1 : ((t223.length : Int) != (t215.length : Int)) = false := bne_eq_false_iff_eq.mpr c28
                have c28b2 : (t223.length == t215.length) = true := by first | simpa using c28 | (simp at c28 ⊢; omega)
                clear c28
                (first | rw [c28b0] | (simp only [i64_w, i32_w]; rw [c28b0]) | skip)
                by_cases c29 : t231 = t220
                · rw [if_pos c29] at H
                  have c29b0 : (t231 == t220) = true := beq_iff_eq.mpr c29
                  have c29b1 : (t231 != t220) = false := bne_eq_false_iff_eq.mpr c29
                  clear c29
                  replace H := Option.bind_eq_some_iff.mp H
                  obtain ⟨t234, A300, H⟩ := H
                  replace H : (if t229 = t234 then (laws_FnBlocks.j0 k t214 t215 t218 t219 t220 t221 t223 t227 t228 (t228 != (decide (t229 > 0)))) else (laws_FnBlocks.j0 k t214 t215 t218 t219 t220 t221 t223 t227 t228 true)) = some r := H
                  have A30 := Aside0.mk A300
                  clear A300
                  by_cases c31 : t229 = t234
                  · rw [if_pos c31] at H
                    have c31b0 : (t229 == t234) = true := beq_iff_eq.mpr c31
                    have c31b1 : (t229 != t234) = false := bne_eq_false_iff_eq.mpr c31
                    clear c31
                    have H' := Aside0.mk H
                    clear H
                    obtain ⟨Ao32, co32, eo32⟩ := Kd.R_slice HO226.out
                    subst eo32
                    go_wp2_with (first | (go_at_call 46; (with_reducible refine (laws_r8Count.calls k _ _ t215 t219 t234 _ ?side1 ?side2 A30.out).mono ?_); (case side1 => repeat (first | exact (Kd.R_reads' HO217.out).2.2 | (with_reducible refine Kd.C_alloc ?_ _) | (with_reducible refine Kd.C_drewN ?_ _) | (with_reducible refine Kd.C_drew ?_))); (case side2 => exact (Kd.R_reads' HO217.out).2.1); rintro e w' ⟨rfl, ⟨nd, rfl⟩⟩))
                    go_meet
                    case rel => exact ⟨_, ((t228 != (decide (t229 > 0)))), (by first | rfl | (simp; done) | (simp [*]; done)), H', ⟨by first | omega | exact Nat.le_refl _⟩, ⟨by (with_reducible repeat (first | apply Kd.R_alloc | apply Kd.R_drewN | apply Kd.R_drew)); exact Kd.R_mono HO217.out (fun _ hk => hk.2)⟩, ⟨by (with_reducible repeat (first | apply Kd.R_alloc | apply Kd.R_drewN | apply Kd.R_drew)); exact Kd.R_mono HO226.out (fun _ hk => hk.2)⟩, ⟨by repeat (first | (with_reducible first | exact HB.out | apply below_alloc | apply pw_below_drewN | apply below_drew1) | exact HB.out)⟩⟩
                  · rw [if_neg c31] at H
                    have c31b0 : (t229 == t234) = false := beq_eq_false_iff_ne.mpr c31
                    have c31b1 : (t229 != t234) = true := bne_iff_ne.mpr c31
                    have H' := Aside0.mk H
                    clear H
                    obtain ⟨Ao33, co33, eo33⟩ := Kd.R_slice HO226.out
                    subst eo33
                    go_wp2_with (first | (go_at_call 46; (with_reducible refine (laws_r8Count.calls k _ _ t215 t219 t234 _ ?side1 ?side2 A30.out).mono ?_); (case side1 => repeat (first | exact (Kd.R_reads' HO217.out).2.2 | (with_reducible refine Kd.C_alloc ?_ _) | (with_reducible refine Kd.C_drewN ?_ _) | (with_reducible refine Kd.C_drew ?_))); (case side2 => exact (Kd.R_reads' HO217.out).2.1); rintro e w' ⟨rfl, ⟨nd, rfl⟩⟩))
                    go_meet
                    case rel => exact ⟨_, (true), (by first | rfl | (simp; done) | (simp [*]; done)), H', ⟨by first | omega | exact Nat.le_refl _⟩, ⟨by (with_reducible repeat (first | apply Kd.R_alloc | apply Kd.R_drewN | apply Kd.R_drew)); exact Kd.R_mono HO217.out (fun _ hk => hk.2)⟩, ⟨by (with_reducible repeat (first | apply Kd.R_alloc | apply Kd.R_drewN | apply Kd.R_drew)); exact Kd.R_mono HO226.out (fun _ hk => hk.2)⟩, ⟨by repeat (first | (with_reducible first | exact HB.out | apply below_alloc | apply pw_below_drewN | apply below_drew1) | exact HB.out)⟩⟩
                · rw [if_neg c29] at H
                  have c29b0 : (t231 == t220) = false := beq_eq_false_iff_ne.mpr c29
                  have c29b1 : (t231 != t220) = true := bne_iff_ne.mpr c29
                  have H' := Aside0.mk H
                  clear H
                  obtain ⟨Ao34, co34, eo34⟩ := Kd.R_slice HO226.out
                  subst eo34
                  go_wp2
                  go_meet
                  case rel => exact ⟨_, (true), (by first | rfl | (simp; done) | (simp [*]; done)), H', ⟨by first | omega | exact Nat.le_refl _⟩, ⟨by (with_reducible repeat (first | apply Kd.R_alloc | apply Kd.R_drewN | apply Kd.R_drew)); exact Kd.R_mono HO217.out (fun _ hk => hk.2)⟩, ⟨by (with_reducible repeat (first | apply Kd.R_alloc | apply Kd.R_drewN | apply Kd.R_drew)); exact Kd.R_mono HO226.out (fun _ hk => hk.2)⟩, ⟨by repeat (first | (with_reducible first | exact HB.out | apply below_alloc | apply pw_below_drewN | apply below_drew1) | exact HB.out)⟩⟩
              · rw [if_neg c28] at H
                have c28b0 : ((t223.length : Int) == (t215.length : Int)) = false := beq_eq_false_iff_ne.mpr c28
                have c28b1 : ((t223.length : Int) != (t215.length : Int)) = true := bne_iff_ne.mpr c28
                have c28b2 : (t223.length == t215.length) = false := by first | simpa using c28 | (simp at c28 ⊢; omega)
                (first | rw [c28b0] | (simp only [i64_w, i32_w]; rw [c28b0]) | skip)
                have H' := Aside0.mk H
                clear H
                obtain ⟨Ao35, co35, eo35⟩ := Kd.R_slice HO226.out
                subst eo35
                go_wp2
                go_meet
                case rel => exact ⟨_, (true), (by first | rfl | (simp; done) | (simp [*]; done)), H', ⟨by first | omega | exact Nat.le_refl _⟩, ⟨by (with_reducible repeat (first | apply Kd.R_alloc | apply Kd.R_drewN | apply Kd.R_drew)); exact Kd.R_mono HO217.out (fun _ hk => hk.2)⟩, ⟨by (with_reducible repeat (first | apply Kd.R_alloc | apply Kd.R_drewN | apply Kd.R_drew)); exact Kd.R_mono HO226.out (fun _ hk => hk.2)⟩, ⟨by repeat (first | (with_reducible first | exact HB.out | apply below_alloc | apply pw_below_drewN | apply below_drew1) | exact HB.out)⟩⟩
            · replace c27 := Bool.eq_false_iff.mpr c27
              subst c27
              have H1 : (laws_FnBlocks.j0 k t214 t215 t218 t219 t220 t221 t223 t227 t228 true) = some r := by rw [if_neg (show ¬ (false = true) by decide)] at H; exact H
              clear H
              have H := H1
              clear H1
              have H' := Aside0.mk H
              clear H
              go_wp2
              go_meet
              case rel => exact ⟨_, (true), (by first | rfl | (simp; done) | (simp [*]; done)), H', ⟨by first | omega | exact Nat.le_refl _⟩, ⟨by (with_reducible repeat (first | apply Kd.R_alloc | apply Kd.R_drewN | apply Kd.R_drew)); exact Kd.R_mono HO217.out (fun _ hk => hk.2)⟩, ⟨by (with_reducible repeat (first | apply Kd.R_alloc | apply Kd.R_drewN | apply Kd.R_drew)); exact Kd.R_mono HO226.out (fun _ hk => hk.2)⟩, ⟨by repeat (first | (with_reducible first | exact HB.out | apply below_alloc | apply pw_below_drewN | apply below_drew1) | exact HB.out)⟩⟩
          · replace c26 := Bool.eq_false_iff.mpr c26
            subst c26
            have H1 : (laws_FnBlocks.j0 k t214 t215 t218 t219 t220 t221 t223 t227 t228 true) = some r := by rw [if_neg (show ¬ (false = true) by decide)] at H; exact H
            clear H
            have H := H1
            clear H1
            have H' := Aside0.mk H
            clear H
            go_wp2
            go_meet
            case rel => exact ⟨_, (true), (by first | rfl | (simp; done) | (simp [*]; done)), H', ⟨by first | omega | exact Nat.le_refl _⟩, ⟨by (with_reducible repeat (first | apply Kd.R_alloc | apply Kd.R_drewN | apply Kd.R_drew)); exact Kd.R_mono HO217.out (fun _ hk => hk.2)⟩, ⟨by (with_reducible repeat (first | apply Kd.R_alloc | apply Kd.R_drewN | apply Kd.R_drew)); exact Kd.R_mono HO226.out (fun _ hk => hk.2)⟩, ⟨by repeat (first | (with_reducible first | exact HB.out | apply below_alloc | apply pw_below_drewN | apply below_drew1) | exact HB.out)⟩⟩
        · replace c25 := Bool.eq_false_iff.mpr c25
          subst c25
          have H1 : (laws_FnBlocks.j0 k t214 t215 t218 t219 t220 t221 t223 t227 t228 true) = some r := by rw [if_neg (show ¬ (false = true) by decide)] at H; exact H
          clear H
          have H := H1
          clear H1
          have H' := Aside0.mk H
          clear H
          go_wp2
          go_meet
          case rel => exact ⟨_, (true), (by first | rfl | (simp; done) | (simp [*]; done)), H', ⟨by first | omega | exact Nat.le_refl _⟩, ⟨by (with_reducible repeat (first | apply Kd.R_alloc | apply Kd.R_drewN | apply Kd.R_drew)); exact Kd.R_mono HO217.out (fun _ hk => hk.2)⟩, ⟨by (with_reducible repeat (first | apply Kd.R_alloc | apply Kd.R_drewN | apply Kd.R_drew)); exact Kd.R_mono HO226.out (fun _ hk => hk.2)⟩, ⟨by repeat (first | (with_reducible first | exact HB.out | apply below_alloc | apply pw_below_drewN | apply below_drew1) | exact HB.out)⟩⟩
      · replace c24 := Bool.eq_false_iff.mpr c24
        subst c24
        have H1 : (laws_FnBlocks.j0 k t214 t215 t218 t219 t220 t221 t223 t227 t228 true) = some r := by rw [if_neg (show ¬ (false = true) by decide)] at H; exact H
        clear H
        have H := H1
        clear H1
        have H' := Aside0.mk H
        clear H
        go_wp2
        go_meet
        case rel => exact ⟨_, (true), (by first | rfl | (simp; done) | (simp [*]; done)), H', ⟨by first | omega | exact Nat.le_refl _⟩, ⟨by (with_reducible repeat (first | apply Kd.R_alloc | apply Kd.R_drewN | apply Kd.R_drew)); exact Kd.R_mono HO217.out (fun _ hk => hk.2)⟩, ⟨by (with_reducible repeat (first | apply Kd.R_alloc | apply Kd.R_drewN | apply Kd.R_drew)); exact Kd.R_mono HO226.out (fun _ hk => hk.2)⟩, ⟨by repeat (first | (with_reducible first | exact HB.out | apply below_alloc | apply pw_below_drewN | apply below_drew1) | exact HB.out)⟩⟩
    case rest =>
      clear HC14
      try clear c1
      try clear c2
      try clear p2
      try clear c3
      try clear c4
      try clear c5
      try clear c10
      try clear c24
      try clear c25
      try clear c26
      try clear c27
      try clear c28
      try clear c28b0
      try clear c28b1
      try clear c28b2
      try clear c29
      try clear c29b0
      try clear c29b1
      try clear c31
      try clear c31b0
      try clear c31b1
      try clear c33
      try clear c34
      try clear c35
      obtain ⟨kq, x113_13, rfl, HA, HJ13, HO_6, HO_12, HB⟩ := hcut
      cases kq with
      | zero => exact absurd HA.out (by simp [laws_FnBlocks.j0])
      | succ kj13 =>
        have H := HA.out
        clear HA
        simp only [laws_FnBlocks.j0] at H
        by_cases c36 : x113_13 = true
        · subst c36
          have H1 : (some false) = some r := by rw [if_pos rfl] at H; exact H
          clear H
          have H := H1
          clear H1
          obtain rfl := Option.some.inj H
          go_wp2
          go_ret
          exact ⟨by first | rfl | (simp [errW_none, errW_some] <;> rfl) | (simp [*, errW_none, errW_some] <;> rfl), by repeat (first | (with_reducible first | exact HB.out | apply below_alloc | apply pw_below_drewN | apply below_drew1) | exact HB.out)⟩
        · replace c36 := Bool.eq_false_iff.mpr c36
          subst c36
          have H1 : (if (wrap64 ((wrap64 (t221 - 1)) * t218)) ≥ (t215.length : Int) then (if t221 > 0 then (laws_FnBlocks.j1 kj13 t214 t215 t219 t220 t223 t227 t228 true) else (laws_FnBlocks.j1 kj13 t214 t215 t219 t220 t223 t227 t228 (decide ((wrap64 (t221 * t218)) < (t215.length : Int))))) else (laws_FnBlocks.j1 kj13 t214 t215 t219 t220 t223 t227 t228 (decide ((wrap64 (t221 * t218)) < (t215.length : Int))))) = some r := by rw [if_neg (show ¬ (false = true) by decide)] at H; exact H
          clear H
          have H := H1
          clear H1
          have HC37 := Aside0.mk H
          clear H
          go_upto_region 14 with (fail)
          go_cut [132] (fun v132 wc => ∃ (kq : Nat) (x132_36 : Bool), v132 = .bool x132_36 ∧ Aside0 (laws_FnBlocks.j1 kq t214 t215 t219 t220 t223 t227 t228 x132_36 = some r) ∧ Aside0 (kq ≤ kj13) ∧ Aside0 (Kd.R (Kd.int .i64) 2 wc w.heap.size (fun k_ => some k_ ≠ (v225 : Value).ownBlock) (.slice Ao18 t215.length co18) t215) ∧ Aside0 (Kd.R (Kd.int .i64) 2 wc w.heap.size (fun k_ => some k_ ≠ ((.slice Ao18 t215.length co18) : Value).ownBlock) v225 t223) ∧ Aside0 (Below w.heap.size w wc))
          case first =>
            have H := HC37.out
            clear HC37
            by_cases c38 : (wrap64 ((wrap64 (t221 - 1)) * t218)) ≥ (t215.length : Int)
            · rw [if_pos c38] at H
              have c38b0 : decide ((t215.length : Int) ≤ (wrap64 ((wrap64 (t221 - 1)) * t218))) = true := decide_eq_true c38
              clear c38
              (first | rw [c38b0] | (simp only [i64_w, i32_w]; rw [c38b0]) | skip)
              by_cases c39 : t221 > 0
              · rw [if_pos c39] at H
                have c39b0 : decide (0 < t221) = true := decide_eq_true c39
                clear c39
                have H' := Aside0.mk H
                clear H
                go_wp2
                go_meet
                case rel => exact ⟨_, (true), (by first | rfl | (simp; done) | (simp [*]; done)), H', ⟨by have := HJ13.out; first | omega | exact Nat.le_refl _⟩, ⟨by (with_reducible repeat (first | apply Kd.R_alloc | apply Kd.R_drewN | apply Kd.R_drew)); exact HO_6.out⟩, ⟨by (with_reducible repeat (first | apply Kd.R_alloc | apply Kd.R_drewN | apply Kd.R_drew)); exact HO_12.out⟩, ⟨by repeat (first | (with_reducible first | exact HB.out | apply below_alloc | apply pw_below_drewN | apply below_drew1) | exact HB.out)⟩⟩
              · rw [if_neg c39] at H
                have c39b0 : decide (0 < t221) = false := decide_eq_false c39
                clear c39
                have H' := Aside0.mk H
                clear H
                go_wp2
                go_meet
                case rel => exact ⟨_, (decide ((wrap64 (t221 * t218)) < (t215.length : Int))), (by first | rfl | (simp; done) | (simp [*]; done)), H', ⟨by have := HJ13.out; first | omega | exact Nat.le_refl _⟩, ⟨by (with_reducible repeat (first | apply Kd.R_alloc | apply Kd.R_drewN | apply Kd.R_drew)); exact HO_6.out⟩, ⟨by (with_reducible repeat (first | apply Kd.R_alloc | apply Kd.R_drewN | apply Kd.R_drew)); exact HO_12.out⟩, ⟨by repeat (first | (with_reducible first | exact HB.out | apply below_alloc | apply pw_below_drewN | apply below_drew1) | exact HB.out)⟩⟩
            · rw [if_neg c38] at H
              have c38b0 : decide ((t215.length : Int) ≤ (wrap64 ((wrap64 (t221 - 1)) * t218))) = false := decide_eq_false c38
              clear c38
              (first | rw [c38b0] | (simp only [i64_w, i32_w]; rw [c38b0]) | skip)
              have H' := Aside0.mk H
              clear H
              go_wp2
              go_meet
              case rel => exact ⟨_, (decide ((wrap64 (t221 * t218)) < (t215.length : Int))), (by first | rfl | (simp; done) | (simp [*]; done)), H', ⟨by have := HJ13.out; first | omega | exact Nat.le_refl _⟩, ⟨by (with_reducible repeat (first | apply Kd.R_alloc | apply Kd.R_drewN | apply Kd.R_drew)); exact HO_6.out⟩, ⟨by (with_reducible repeat (first | apply Kd.R_alloc | apply Kd.R_drewN | apply Kd.R_drew)); exact HO_12.out⟩, ⟨by repeat (first | (with_reducible first | exact HB.out | apply below_alloc | apply pw_below_drewN | apply below_drew1) | exact HB.out)⟩⟩
          case rest =>
            clear HC37
            try clear c1
            try clear c2
            try clear p2
            try clear c3
            try clear c4
            try clear c5
            try clear p6
            try clear c10
            try clear c24
            try clear c25
            try clear c26
            try clear c27
            try clear c28
            try clear c28b0
            try clear c28b1
            try clear c28b2
            try clear c29
            try clear c29b0
            try clear c29b1
            try clear c31
            try clear c31b0
            try clear c31b1
            try clear c33
            try clear c34
            try clear c35
            try clear c36
            try clear c38
            try clear c38b0
            try clear c39
            try clear c39b0
            try clear p2
            obtain ⟨kq, x132_36, rfl, HA, HJ36, HO_6, HO_12, HB⟩ := hcut
            cases kq with
            | zero => exact absurd HA.out (by simp [laws_FnBlocks.j1])
            | succ kj36 =>
              have H := HA.out
              clear HA
              simp only [laws_FnBlocks.j1] at H
              by_cases c40 : x132_36 = true
              · subst c40
                have H1 : (some false) = some r := by rw [if_pos rfl] at H; exact H
                clear H
                have H := H1
                clear H1
                obtain rfl := Option.some.inj H
                go_wp2
                go_ret
                exact ⟨by first | rfl | (simp [errW_none, errW_some] <;> rfl) | (simp [*, errW_none, errW_some] <;> rfl), by repeat (first | (with_reducible first | exact HB.out | apply below_alloc | apply pw_below_drewN | apply below_drew1) | exact HB.out)⟩
              · replace c40 := Bool.eq_false_iff.mpr c40
                subst c40
                have H1 : (laws_FnBlocks.l0 kj36 t214 t215 t219 t220 t223 t227 t228 0 0) = some r := by rw [if_neg (show ¬ (false = true) by decide)] at H; exact H
                clear H
                have H := H1
                clear H1
                have H' := Aside0.mk H
                clear H
                go_wp2
                go_loopg [21, 22] kj36 (fun kq v21 v22 w' => ∃ (x21_3 : Int) (x22_3 : Int), v21 = .int .i64 x21_3 ∧ v22 = .int .i64 x22_3 ∧ Aside0 (laws_FnBlocks.l0 kq t214 t215 t219 t220 t223 t227 t228 x21_3 x22_3 = some r) ∧ Aside0 (kq ≤ kj36) ∧ Aside0 (Kd.R (Kd.int .i64) 2 w' w.heap.size (fun k_ => some k_ ≠ (v225 : Value).ownBlock) (.slice Ao18 t215.length co18) t215) ∧ Aside0 (Kd.R (Kd.int .i64) 2 w' w.heap.size (fun k_ => some k_ ≠ ((.slice Ao18 t215.length co18) : Value).ownBlock) v225 t223) ∧ Aside0 (Below w.heap.size w w'))
                case atStart => exact ⟨(0), (0), (by first | rfl | (simp; done) | (simp [*]; done)), (by first | rfl | (simp; done) | (simp [*]; done)), H', ⟨Nat.le_refl _⟩, ⟨by (with_reducible repeat (first | apply Kd.R_alloc | apply Kd.R_drewN | apply Kd.R_drew)); exact HO_6.out⟩, ⟨by (with_reducible repeat (first | apply Kd.R_alloc | apply Kd.R_drewN | apply Kd.R_drew)); exact HO_12.out⟩, ⟨by repeat (first | (with_reducible first | exact HB.out | apply below_alloc | apply pw_below_drewN | apply below_drew1) | exact HB.out)⟩⟩
                case round =>
                  clear H'
                  try clear c1
                  try clear c2
                  try clear p2
                  try clear c3
                  try clear c4
                  try clear c5
                  try clear p6
                  try clear c10
                  try clear c24
                  try clear c25
                  try clear c26
                  try clear c27
                  try clear c28
                  try clear c28b0
                  try clear c28b1
                  try clear c28b2
                  try clear c29
                  try clear c29b0
                  try clear c29b1
                  try clear c31
                  try clear c31b0
                  try clear c31b1
                  try clear c33
                  try clear c34
                  try clear c35
                  try clear c36
                  try clear c38
                  try clear c38b0
                  try clear c39
                  try clear c39b0
                  try clear c40
                  try clear p2
                  try clear p6
                  obtain ⟨x21_3, x22_3, rfl, rfl, HA, HK3, HO_6, HO_12, HB⟩ := hrel
                  cases gk with
                  | zero => exact absurd HA.out (by simp [laws_FnBlocks.l0])
                  | succ k3 =>
                    have H := HA.out
                    clear HA
                    simp only [laws_FnBlocks.l0] at H
                    by_cases c41 : x22_3 < (t215.length : Int)
                    · rw [if_pos c41] at H
                      have c41b0 : decide (x22_3 < (t215.length : Int)) = true := decide_eq_true c41
                      clear c41
                      by_cases c42 : 0 ≤ x22_3
                      · rw [if_pos c42] at H
                        have c42b0 : decide (0 ≤ x22_3) = true := decide_eq_true c42
                        clear c42
                        replace H := Option.bind_eq_some_iff.mp H
                        obtain ⟨⟨t236, t237⟩, A430, H⟩ := H
                        replace H : (if t237 = true then (if x22_3 < (t223.length : Int) then (if (rd t223 x22_3) = t236 then (if t228 = true then (if x22_3 < t227 then (if (rd t215 x22_3) = t219 then (some false) else (laws_FnBlocks.l0 k3 t214 t215 t219 t220 t223 t227 t228 t236 (wrap64 (x22_3 + 1)))) else (laws_FnBlocks.l0 k3 t214 t215 t219 t220 t223 t227 t228 t236 (wrap64 (x22_3 + 1)))) else (laws_FnBlocks.l0 k3 t214 t215 t219 t220 t223 t227 t228 t236 (wrap64 (x22_3 + 1)))) else (some false)) else (none)) else (some false)) = some r := H
                        have A43 := Aside0.mk A430
                        clear A430
                        by_cases c44 : t237 = true
                        · subst c44
                          have H1 : (if x22_3 < (t223.length : Int) then (if (rd t223 x22_3) = t236 then (if t228 = true then (if x22_3 < t227 then (if (rd t215 x22_3) = t219 then (some false) else (laws_FnBlocks.l0 k3 t214 t215 t219 t220 t223 t227 t228 t236 (wrap64 (x22_3 + 1)))) else (laws_FnBlocks.l0 k3 t214 t215 t219 t220 t223 t227 t228 t236 (wrap64 (x22_3 + 1)))) else (laws_FnBlocks.l0 k3 t214 t215 t219 t220 t223 t227 t228 t236 (wrap64 (x22_3 + 1)))) else (some false)) else (none)) = some r := by rw [if_pos rfl] at H; exact H
                          clear H
                          have H := H1
                          clear H1
                          by_cases c45 : x22_3 < (t223.length : Int)
                          · rw [if_pos c45] at H
                            have c45b0 : decide (x22_3 < (t223.length : Int)) = true := decide_eq_true c45
                            clear c45
                            by_cases c46 : (rd t223 x22_3) = t236
                            · rw [if_pos c46] at H
                              have c46b0 : ((rd t223 x22_3) == t236) = true := beq_iff_eq.mpr c46
                              have c46b1 : ((rd t223 x22_3) != t236) = false := bne_eq_false_iff_eq.mpr c46
                              clear c46
                              by_cases c47 : t228 = true
                              · subst c47
                                have H1 : (if x22_3 < t227 then (if (rd t215 x22_3) = t219 then (some false) else (laws_FnBlocks.l0 k3 t214 t215 t219 t220 t223 t227 true t236 (wrap64 (x22_3 + 1)))) else (laws_FnBlocks.l0 k3 t214 t215 t219 t220 t223 t227 true t236 (wrap64 (x22_3 + 1)))) = some r := by rw [if_pos rfl] at H; exact H
                                clear H
                                have H := H1
                                clear H1
                                by_cases c48 : x22_3 < t227
                                · rw [if_pos c48] at H
                                  have c48b0 : decide (x22_3 < t227) = true := decide_eq_true c48
                                  clear c48
                                  by_cases c49 : (rd t215 x22_3) = t219
                                  · rw [if_pos c49] at H
                                    have c49b0 : ((rd t215 x22_3) == t219) = true := beq_iff_eq.mpr c49
                                    have c49b1 : ((rd t215 x22_3) != t219) = false := bne_eq_false_iff_eq.mpr c49
                                    clear c49
                                    obtain rfl := Option.some.inj H
                                    have p235 : 0 ≤ (x22_3 : Int) := of_decide_eq_true (by first | (with_reducible assumption) | assumption)
                                    have q235 : x22_3 < (t215.length : Int) := of_decide_eq_true (by first | (with_reducible assumption) | assumption)
                                    obtain ⟨ad235, e235, hx235_0⟩ := Kd.at_int (Kd.R_reads' HO_6.out).2.2 x22_3 p235 q235
                                    cases e235
                                    replace p235 := eq_true p235
                                    replace q235 := eq_true q235
                                    go_wp2_with (first | ((with_reducible refine gate_callee (f := 54) rfl ?_); refine goesL_ (some 146) rfl rfl Try.func54 (by kernel_rfl) rfl #[.int .i64 0, .int .i64 t214, .int .i64 x21_3, .int .i64 (rd t215 x22_3)] rfl (by (try simp only [List.map_toArray, List.map_cons, List.map_nil]); first | done | rfl | (simp only [List.length_drop, List.length_take]; rfl)) ?_; (with_reducible refine (impl_DoOp.calls 0 t214 x21_3 (rd t215 x22_3) t236 true _ A43.out).mono ?_); rintro e w50 ⟨rfl, hb⟩; refine ⟨_, rfl, ?_⟩; have n0_ := Aside0.mk (Kd.R_below (by (with_reducible repeat (first | apply Kd.R_alloc | apply Kd.R_drewN | apply Kd.R_drew)); exact HO_6.out) hb); have n1_ := Aside0.mk (Kd.R_below (by (with_reducible repeat (first | apply Kd.R_alloc | apply Kd.R_drewN | apply Kd.R_drew)); exact HO_12.out) hb); have n2_ := Aside0.mk (below_step (by repeat (first | (with_reducible first | exact HB.out | apply below_alloc | apply pw_below_drewN | apply below_drew1) | exact HB.out)) hb); clear HO_6; clear HO_12; clear HB; have HO_6 := n0_; have HO_12 := n1_; have HB := n2_; clear n0_ n1_ n2_; (try clear hb); (try clear hb2); (try clear hk); (try clear hi); obtain ⟨Ao51, co51, eo51⟩ := Kd.R_slice HO_12.out; subst eo51; have p238 : 0 ≤ (x22_3 : Int) := of_decide_eq_true (by first | (with_reducible assumption) | assumption); have q238 : x22_3 < (t223.length : Int) := of_decide_eq_true (by first | (with_reducible assumption) | assumption); obtain ⟨ad238, e238, hx238_0⟩ := Kd.at_int (Kd.R_reads' HO_12.out).2.2 x22_3 p238 q238; cases e238; replace p238 := eq_true p238; replace q238 := eq_true q238; have p239 : 0 ≤ (x22_3 : Int) := of_decide_eq_true (by first | (with_reducible assumption) | assumption); have q239 : x22_3 < (t215.length : Int) := of_decide_eq_true (by first | (with_reducible assumption) | assumption); obtain ⟨ad239, e239, hx239_0⟩ := Kd.at_int (Kd.R_reads' HO_6.out).2.2 x22_3 p239 q239; obtain rfl : ad235 = ad239 := (by injection e239); replace p239 := eq_true p239; replace q239 := eq_true q239))
                                    go_ret
                                    exact ⟨by first | rfl | (simp [errW_none, errW_some] <;> rfl) | (simp [*, errW_none, errW_some] <;> rfl), by repeat (first | (with_reducible first | exact HB.out | apply below_alloc | apply pw_below_drewN | apply below_drew1) | exact HB.out)⟩
                                  · rw [if_neg c49] at H
                                    have c49b0 : ((rd t215 x22_3) == t219) = false := beq_eq_false_iff_ne.mpr c49
                                    have c49b1 : ((rd t215 x22_3) != t219) = true := bne_iff_ne.mpr c49
                                    have H' := Aside0.mk H
                                    clear H
                                    have p235 : 0 ≤ (x22_3 : Int) := of_decide_eq_true (by first | (with_reducible assumption) | assumption)
                                    have q235 : x22_3 < (t215.length : Int) := of_decide_eq_true (by first | (with_reducible assumption) | assumption)
                                    obtain ⟨ad235, e235, hx235_0⟩ := Kd.at_int (Kd.R_reads' HO_6.out).2.2 x22_3 p235 q235
                                    cases e235
                                    replace p235 := eq_true p235
                                    replace q235 := eq_true q235
                                    go_wp2_with (first | ((with_reducible refine gate_callee (f := 54) rfl ?_); refine goesL_ (some 146) rfl rfl Try.func54 (by kernel_rfl) rfl #[.int .i64 0, .int .i64 t214, .int .i64 x21_3, .int .i64 (rd t215 x22_3)] rfl (by (try simp only [List.map_toArray, List.map_cons, List.map_nil]); first | done | rfl | (simp only [List.length_drop, List.length_take]; rfl)) ?_; (with_reducible refine (impl_DoOp.calls 0 t214 x21_3 (rd t215 x22_3) t236 true _ A43.out).mono ?_); rintro e w52 ⟨rfl, hb⟩; refine ⟨_, rfl, ?_⟩; have n0_ := Aside0.mk (Kd.R_below (by (with_reducible repeat (first | apply Kd.R_alloc | apply Kd.R_drewN | apply Kd.R_drew)); exact HO_6.out) hb); have n1_ := Aside0.mk (Kd.R_below (by (with_reducible repeat (first | apply Kd.R_alloc | apply Kd.R_drewN | apply Kd.R_drew)); exact HO_12.out) hb); have n2_ := Aside0.mk (below_step (by repeat (first | (with_reducible first | exact HB.out | apply below_alloc | apply pw_below_drewN | apply below_drew1) | exact HB.out)) hb); clear HO_6; clear HO_12; clear HB; have HO_6 := n0_; have HO_12 := n1_; have HB := n2_; clear n0_ n1_ n2_; (try clear hb); (try clear hb2); (try clear hk); (try clear hi); obtain ⟨Ao53, co53, eo53⟩ := Kd.R_slice HO_12.out; subst eo53; have p238 : 0 ≤ (x22_3 : Int) := of_decide_eq_true (by first | (with_reducible assumption) | assumption); have q238 : x22_3 < (t223.length : Int) := of_decide_eq_true (by first | (with_reducible assumption) | assumption); obtain ⟨ad238, e238, hx238_0⟩ := Kd.at_int (Kd.R_reads' HO_12.out).2.2 x22_3 p238 q238; cases e238; replace p238 := eq_true p238; replace q238 := eq_true q238; have p239 : 0 ≤ (x22_3 : Int) := of_decide_eq_true (by first | (with_reducible assumption) | assumption); have q239 : x22_3 < (t215.length : Int) := of_decide_eq_true (by first | (with_reducible assumption) | assumption); obtain ⟨ad239, e239, hx239_0⟩ := Kd.at_int (Kd.R_reads' HO_6.out).2.2 x22_3 p239 q239; obtain rfl : ad235 = ad239 := (by injection e239); replace p239 := eq_true p239; replace q239 := eq_true q239))
                                    go_roundg k3
                                    case measure => have := HJ13.out; have := HJ36.out; have := HK3.out; omega
                                    case rel => exact ⟨(t236), (wrap64 (x22_3 + 1)), (by first | rfl | (simp; done) | (simp [*]; done)), (by first | rfl | (simp; done) | (simp [*]; done)), H', ⟨by have := HJ13.out; have := HJ36.out; have := HK3.out; omega⟩, ⟨by (with_reducible repeat (first | apply Kd.R_alloc | apply Kd.R_drewN | apply Kd.R_drew)); exact HO_6.out⟩, ⟨by (with_reducible repeat (first | apply Kd.R_alloc | apply Kd.R_drewN | apply Kd.R_drew)); exact HO_12.out⟩, ⟨by repeat (first | (with_reducible first | exact HB.out | apply below_alloc | apply pw_below_drewN | apply below_drew1) | exact HB.out)⟩⟩
                                · rw [if_neg c48] at H
                                  have c48b0 : decide (x22_3 < t227) = false := decide_eq_false c48
                                  clear c48
                                  have H' := Aside0.mk H
                                  clear H
                                  have p235 : 0 ≤ (x22_3 : Int) := of_decide_eq_true (by first | (with_reducible assumption) | assumption)
                                  have q235 : x22_3 < (t215.length : Int) := of_decide_eq_true (by first | (with_reducible assumption) | assumption)
                                  obtain ⟨ad235, e235, hx235_0⟩ := Kd.at_int (Kd.R_reads' HO_6.out).2.2 x22_3 p235 q235
                                  cases e235
                                  replace p235 := eq_true p235
                                  replace q235 := eq_true q235
                                  go_wp2_with (first | ((with_reducible refine gate_callee (f := 54) rfl ?_); refine goesL_ (some 146) rfl rfl Try.func54 (by kernel_rfl) rfl #[.int .i64 0, .int .i64 t214, .int .i64 x21_3, .int .i64 (rd t215 x22_3)] rfl (by (try simp only [List.map_toArray, List.map_cons, List.map_nil]); first | done | rfl | (simp only [List.length_drop, List.length_take]; rfl)) ?_; (with_reducible refine (impl_DoOp.calls 0 t214 x21_3 (rd t215 x22_3) t236 true _ A43.out).mono ?_); rintro e w54 ⟨rfl, hb⟩; refine ⟨_, rfl, ?_⟩; have n0_ := Aside0.mk (Kd.R_below (by (with_reducible repeat (first | apply Kd.R_alloc | apply Kd.R_drewN | apply Kd.R_drew)); exact HO_6.out) hb); have n1_ := Aside0.mk (Kd.R_below (by (with_reducible repeat (first | apply Kd.R_alloc | apply Kd.R_drewN | apply Kd.R_drew)); exact HO_12.out) hb); have n2_ := Aside0.mk (below_step (by repeat (first | (with_reducible first | exact HB.out | apply below_alloc | apply pw_below_drewN | apply below_drew1) | exact HB.out)) hb); clear HO_6; clear HO_12; clear HB; have HO_6 := n0_; have HO_12 := n1_; have HB := n2_; clear n0_ n1_ n2_; (try clear hb); (try clear hb2); (try clear hk); (try clear hi); obtain ⟨Ao55, co55, eo55⟩ := Kd.R_slice HO_12.out; subst eo55; have p238 : 0 ≤ (x22_3 : Int) := of_decide_eq_true (by first | (with_reducible assumption) | assumption); have q238 : x22_3 < (t223.length : Int) := of_decide_eq_true (by first | (with_reducible assumption) | assumption); obtain ⟨ad238, e238, hx238_0⟩ := Kd.at_int (Kd.R_reads' HO_12.out).2.2 x22_3 p238 q238; cases e238; replace p238 := eq_true p238; replace q238 := eq_true q238))
                                  go_roundg k3
                                  case measure => have := HJ13.out; have := HJ36.out; have := HK3.out; omega
                                  case rel => exact ⟨(t236), (wrap64 (x22_3 + 1)), (by first | rfl | (simp; done) | (simp [*]; done)), (by first | rfl | (simp; done) | (simp [*]; done)), H', ⟨by have := HJ13.out; have := HJ36.out; have := HK3.out; omega⟩, ⟨by (with_reducible repeat (first | apply Kd.R_alloc | apply Kd.R_drewN | apply Kd.R_drew)); exact HO_6.out⟩, ⟨by (with_reducible repeat (first | apply Kd.R_alloc | apply Kd.R_drewN | apply Kd.R_drew)); exact HO_12.out⟩, ⟨by repeat (first | (with_reducible first | exact HB.out | apply below_alloc | apply pw_below_drewN | apply below_drew1) | exact HB.out)⟩⟩
                              · replace c47 := Bool.eq_false_iff.mpr c47
                                subst c47
                                have H1 : (laws_FnBlocks.l0 k3 t214 t215 t219 t220 t223 t227 false t236 (wrap64 (x22_3 + 1))) = some r := by rw [if_neg (show ¬ (false = true) by decide)] at H; exact H
                                clear H
                                have H := H1
                                clear H1
                                have H' := Aside0.mk H
                                clear H
                                have p235 : 0 ≤ (x22_3 : Int) := of_decide_eq_true (by first | (with_reducible assumption) | assumption)
                                have q235 : x22_3 < (t215.length : Int) := of_decide_eq_true (by first | (with_reducible assumption) | assumption)
                                obtain ⟨ad235, e235, hx235_0⟩ := Kd.at_int (Kd.R_reads' HO_6.out).2.2 x22_3 p235 q235
                                cases e235
                                replace p235 := eq_true p235
                                replace q235 := eq_true q235
                                go_wp2_with (first | ((with_reducible refine gate_callee (f := 54) rfl ?_); refine goesL_ (some 146) rfl rfl Try.func54 (by kernel_rfl) rfl #[.int .i64 0, .int .i64 t214, .int .i64 x21_3, .int .i64 (rd t215 x22_3)] rfl (by (try simp only [List.map_toArray, List.map_cons, List.map_nil]); first | done | rfl | (simp only [List.length_drop, List.length_take]; rfl)) ?_; (with_reducible refine (impl_DoOp.calls 0 t214 x21_3 (rd t215 x22_3) t236 true _ A43.out).mono ?_); rintro e w56 ⟨rfl, hb⟩; refine ⟨_, rfl, ?_⟩; have n0_ := Aside0.mk (Kd.R_below (by (with_reducible repeat (first | apply Kd.R_alloc | apply Kd.R_drewN | apply Kd.R_drew)); exact HO_6.out) hb); have n1_ := Aside0.mk (Kd.R_below (by (with_reducible repeat (first | apply Kd.R_alloc | apply Kd.R_drewN | apply Kd.R_drew)); exact HO_12.out) hb); have n2_ := Aside0.mk (below_step (by repeat (first | (with_reducible first | exact HB.out | apply below_alloc | apply pw_below_drewN | apply below_drew1) | exact HB.out)) hb); clear HO_6; clear HO_12; clear HB; have HO_6 := n0_; have HO_12 := n1_; have HB := n2_; clear n0_ n1_ n2_; (try clear hb); (try clear hb2); (try clear hk); (try clear hi); obtain ⟨Ao57, co57, eo57⟩ := Kd.R_slice HO_12.out; subst eo57; have p238 : 0 ≤ (x22_3 : Int) := of_decide_eq_true (by first | (with_reducible assumption) | assumption); have q238 : x22_3 < (t223.length : Int) := of_decide_eq_true (by first | (with_reducible assumption) | assumption); obtain ⟨ad238, e238, hx238_0⟩ := Kd.at_int (Kd.R_reads' HO_12.out).2.2 x22_3 p238 q238; cases e238; replace p238 := eq_true p238; replace q238 := eq_true q238))
                                go_roundg k3
                                case measure => have := HJ13.out; have := HJ36.out; have := HK3.out; omega
                                case rel => exact ⟨(t236), (wrap64 (x22_3 + 1)), (by first | rfl | (simp; done) | (simp [*]; done)), (by first | rfl | (simp; done) | (simp [*]; done)), H', ⟨by have := HJ13.out; have := HJ36.out; have := HK3.out; omega⟩, ⟨by (with_reducible repeat (first | apply Kd.R_alloc | apply Kd.R_drewN | apply Kd.R_drew)); exact HO_6.out⟩, ⟨by (with_reducible repeat (first | apply Kd.R_alloc | apply Kd.R_drewN | apply Kd.R_drew)); exact HO_12.out⟩, ⟨by repeat (first | (with_reducible first | exact HB.out | apply below_alloc | apply pw_below_drewN | apply below_drew1) | exact HB.out)⟩⟩
                            · rw [if_neg c46] at H
                              have c46b0 : ((rd t223 x22_3) == t236) = false := beq_eq_false_iff_ne.mpr c46
                              have c46b1 : ((rd t223 x22_3) != t236) = true := bne_iff_ne.mpr c46
                              obtain rfl := Option.some.inj H
                              have p235 : 0 ≤ (x22_3 : Int) := of_decide_eq_true (by first | (with_reducible assumption) | assumption)
                              have q235 : x22_3 < (t215.length : Int) := of_decide_eq_true (by first | (with_reducible assumption) | assumption)
                              obtain ⟨ad235, e235, hx235_0⟩ := Kd.at_int (Kd.R_reads' HO_6.out).2.2 x22_3 p235 q235
                              cases e235
                              replace p235 := eq_true p235
                              replace q235 := eq_true q235
                              go_wp2_with (first | ((with_reducible refine gate_callee (f := 54) rfl ?_); refine goesL_ (some 146) rfl rfl Try.func54 (by kernel_rfl) rfl #[.int .i64 0, .int .i64 t214, .int .i64 x21_3, .int .i64 (rd t215 x22_3)] rfl (by (try simp only [List.map_toArray, List.map_cons, List.map_nil]); first | done | rfl | (simp only [List.length_drop, List.length_take]; rfl)) ?_; (with_reducible refine (impl_DoOp.calls 0 t214 x21_3 (rd t215 x22_3) t236 true _ A43.out).mono ?_); rintro e w58 ⟨rfl, hb⟩; refine ⟨_, rfl, ?_⟩; have n0_ := Aside0.mk (Kd.R_below (by (with_reducible repeat (first | apply Kd.R_alloc | apply Kd.R_drewN | apply Kd.R_drew)); exact HO_6.out) hb); have n1_ := Aside0.mk (Kd.R_below (by (with_reducible repeat (first | apply Kd.R_alloc | apply Kd.R_drewN | apply Kd.R_drew)); exact HO_12.out) hb); have n2_ := Aside0.mk (below_step (by repeat (first | (with_reducible first | exact HB.out | apply below_alloc | apply pw_below_drewN | apply below_drew1) | exact HB.out)) hb); clear HO_6; clear HO_12; clear HB; have HO_6 := n0_; have HO_12 := n1_; have HB := n2_; clear n0_ n1_ n2_; (try clear hb); (try clear hb2); (try clear hk); (try clear hi); obtain ⟨Ao59, co59, eo59⟩ := Kd.R_slice HO_12.out; subst eo59; have p238 : 0 ≤ (x22_3 : Int) := of_decide_eq_true (by first | (with_reducible assumption) | assumption); have q238 : x22_3 < (t223.length : Int) := of_decide_eq_true (by first | (with_reducible assumption) | assumption); obtain ⟨ad238, e238, hx238_0⟩ := Kd.at_int (Kd.R_reads' HO_12.out).2.2 x22_3 p238 q238; cases e238; replace p238 := eq_true p238; replace q238 := eq_true q238))
                              go_ret
                              exact ⟨by first | rfl | (simp [errW_none, errW_some] <;> rfl) | (simp [*, errW_none, errW_some] <;> rfl), by repeat (first | (with_reducible first | exact HB.out | apply below_alloc | apply pw_below_drewN | apply below_drew1) | exact HB.out)⟩
                          · rw [if_neg c45] at H
                            exact absurd H (by simp)
                        · replace c44 := Bool.eq_false_iff.mpr c44
                          subst c44
                          have H1 : (some false) = some r := by rw [if_neg (show ¬ (false = true) by decide)] at H; exact H
                          clear H
                          have H := H1
                          clear H1
                          obtain rfl := Option.some.inj H
                          have p235 : 0 ≤ (x22_3 : Int) := of_decide_eq_true (by first | (with_reducible assumption) | assumption)
                          have q235 : x22_3 < (t215.length : Int) := of_decide_eq_true (by first | (with_reducible assumption) | assumption)
                          obtain ⟨ad235, e235, hx235_0⟩ := Kd.at_int (Kd.R_reads' HO_6.out).2.2 x22_3 p235 q235
                          cases e235
                          replace p235 := eq_true p235
                          replace q235 := eq_true q235
                          go_wp2_with (first | ((with_reducible refine gate_callee (f := 54) rfl ?_); refine goesL_ (some 146) rfl rfl Try.func54 (by kernel_rfl) rfl #[.int .i64 0, .int .i64 t214, .int .i64 x21_3, .int .i64 (rd t215 x22_3)] rfl (by (try simp only [List.map_toArray, List.map_cons, List.map_nil]); first | done | rfl | (simp only [List.length_drop, List.length_take]; rfl)) ?_; (with_reducible refine (impl_DoOp.calls 0 t214 x21_3 (rd t215 x22_3) t236 false _ A43.out).mono ?_); rintro e w60 ⟨rfl, hb⟩; refine ⟨_, rfl, ?_⟩; have n0_ := Aside0.mk (Kd.R_below (by (with_reducible repeat (first | apply Kd.R_alloc | apply Kd.R_drewN | apply Kd.R_drew)); exact HO_6.out) hb); have n1_ := Aside0.mk (Kd.R_below (by (with_reducible repeat (first | apply Kd.R_alloc | apply Kd.R_drewN | apply Kd.R_drew)); exact HO_12.out) hb); have n2_ := Aside0.mk (below_step (by repeat (first | (with_reducible first | exact HB.out | apply below_alloc | apply pw_below_drewN | apply below_drew1) | exact HB.out)) hb); clear HO_6; clear HO_12; clear HB; have HO_6 := n0_; have HO_12 := n1_; have HB := n2_; clear n0_ n1_ n2_; (try clear hb); (try clear hb2); (try clear hk); (try clear hi)))
                          go_ret
                          exact ⟨by first | rfl | (simp [errW_none, errW_some] <;> rfl) | (simp [*, errW_none, errW_some] <;> rfl), by repeat (first | (with_reducible first | exact HB.out | apply below_alloc | apply pw_below_drewN | apply below_drew1) | exact HB.out)⟩
                      · rw [if_neg c42] at H
                        exact absurd H (by simp)
                    · rw [if_neg c41] at H
                      have c41b0 : decide (x22_3 < (t215.length : Int)) = false := decide_eq_false c41
                      clear c41
                      by_cases c61 : x21_3 = t220
                      · rw [if_pos c61] at H
                        have c61b0 : (x21_3 == t220) = true := beq_iff_eq.mpr c61
                        have c61b1 : (x21_3 != t220) = false := bne_eq_false_iff_eq.mpr c61
                        clear c61
                        by_cases c62 : t228 = true
                        · subst c62
                          have H1 : (if t227 ≥ 0 then (if t227 < (t215.length : Int) then (if 0 ≤ t227 then (some ((rd t215 t227) == t219)) else (none)) else (some false)) else (some false)) = some r := by rw [if_pos rfl] at H; exact H
                          clear H
                          have H := H1
                          clear H1
                          by_cases c63 : t227 ≥ 0
                          · rw [if_pos c63] at H
                            have c63b0 : decide (0 ≤ t227) = true := decide_eq_true c63
                            clear c63
                            by_cases c64 : t227 < (t215.length : Int)
                            · rw [if_pos c64] at H
                              have c64b0 : decide (t227 < (t215.length : Int)) = true := decide_eq_true c64
                              clear c64
                              by_cases c65 : 0 ≤ t227
                              · rw [if_pos c65] at H
                                have c65b0 : decide (0 ≤ t227) = true := decide_eq_true c65
                                clear c65
                                obtain rfl := Option.some.inj H
                                have p240 : 0 ≤ (t227 : Int) := of_decide_eq_true (by first | (with_reducible assumption) | assumption)
                                have q240 : t227 < (t215.length : Int) := of_decide_eq_true (by first | (with_reducible assumption) | assumption)
                                obtain ⟨ad240, e240, hx240_0⟩ := Kd.at_int (Kd.R_reads' HO_6.out).2.2 t227 p240 q240
                                cases e240
                                replace p240 := eq_true p240
                                replace q240 := eq_true q240
                                go_wp2
                                go_ret
                                exact ⟨by first | rfl | (simp [errW_none, errW_some] <;> rfl) | (simp [*, errW_none, errW_some] <;> rfl), by repeat (first | (with_reducible first | exact HB.out | apply below_alloc | apply pw_below_drewN | apply below_drew1) | exact HB.out)⟩
                              · rw [if_neg c65] at H
                                exact absurd H (by simp)
                            · rw [if_neg c64] at H
                              have c64b0 : decide (t227 < (t215.length : Int)) = false := decide_eq_false c64
                              clear c64
                              obtain rfl := Option.some.inj H
                              go_wp2
                              go_ret
                              exact ⟨by first | rfl | (simp [errW_none, errW_some] <;> rfl) | (simp [*, errW_none, errW_some] <;> rfl), by repeat (first | (with_reducible first | exact HB.out | apply below_alloc | apply pw_below_drewN | apply below_drew1) | exact HB.out)⟩
                          · rw [if_neg c63] at H
                            have c63b0 : decide (0 ≤ t227) = false := decide_eq_false c63
                            clear c63
                            obtain rfl := Option.some.inj H
                            go_wp2
                            go_ret
                            exact ⟨by first | rfl | (simp [errW_none, errW_some] <;> rfl) | (simp [*, errW_none, errW_some] <;> rfl), by repeat (first | (with_reducible first | exact HB.out | apply below_alloc | apply pw_below_drewN | apply below_drew1) | exact HB.out)⟩
                        · replace c62 := Bool.eq_false_iff.mpr c62
                          subst c62
                          have H1 : (some true) = some r := by rw [if_neg (show ¬ (false = true) by decide)] at H; exact H
                          clear H
                          have H := H1
                          clear H1
                          obtain rfl := Option.some.inj H
                          go_wp2
                          go_ret
                          exact ⟨by first | rfl | (simp [errW_none, errW_some] <;> rfl) | (simp [*, errW_none, errW_some] <;> rfl), by repeat (first | (with_reducible first | exact HB.out | apply below_alloc | apply pw_below_drewN | apply below_drew1) | exact HB.out)⟩
                      · rw [if_neg c61] at H
                        have c61b0 : (x21_3 == t220) = false := beq_eq_false_iff_ne.mpr c61
                        have c61b1 : (x21_3 != t220) = true := bne_iff_ne.mpr c61
                        obtain rfl := Option.some.inj H
                        go_wp2
                        go_ret
                        exact ⟨by first | rfl | (simp [errW_none, errW_some] <;> rfl) | (simp [*, errW_none, errW_some] <;> rfl), by repeat (first | (with_reducible first | exact HB.out | apply below_alloc | apply pw_below_drewN | apply below_drew1) | exact HB.out)⟩

/-- THE ONE PURE STATEMENT of laws_FnBlocks: yours. -/
def laws_FnBlocks.Pure : Prop := ∀ (l0 : List Int) (l1 : List Int), l0.length ≤ maxLen → l0.length * 1 ≤ 140737488351232 → (∀ x ∈ l0, (Lit.int .u8 x).wf = true) → l1.length ≤ maxLen → l1.length * 1 ≤ 140737488351232 → (∀ x ∈ l1, (Lit.int .u8 x).wf = true) → ∃ k, laws_FnBlocks.f k l0 l1 = some true
theorem laws_FnBlocks.walk (P : laws_FnBlocks.Pure) (a0 : Option Addr) (len0 cap0 : Nat) (z0 : List Int) (a1 : Option Addr) (len1 cap1 : Nat) (z1 : List Int) (w : World) (w0 : (a0 = none ∧ len0 = 0 ∧ cap0 = 0 ∧ z0 = []) ∨ ∃ x, a0 = some x ∧ len0 ≤ cap0 ∧ cap0 ≤ maxLen ∧ z0.length = cap0 ∧ (∀ i, i < z0.length → w.cell? (x.add i) = some (.int .u8 (z0.getD i 0))) ∧ ∀ n ∈ z0, (Lit.int .u8 n).wf = true) (y0 : len0 * 1 ≤ 140737488351232) (w1 : (a1 = none ∧ len1 = 0 ∧ cap1 = 0 ∧ z1 = []) ∨ ∃ x, a1 = some x ∧ len1 ≤ cap1 ∧ cap1 ≤ maxLen ∧ z1.length = cap1 ∧ (∀ i, i < z1.length → w.cell? (x.add i) = some (.int .u8 (z1.getD i 0))) ∧ ∀ n ∈ z1, (Lit.int .u8 n).wf = true) (y1 : len1 * 1 ≤ 140737488351232) :
    Calls Try.prog 10 #[.slice a0 len0 cap0, .slice a1 len1 cap1] w fun e w' => e = .returned (.bool true) ∧ Below w.heap.size w w' := by
  obtain ⟨l0, rfl, hr0, hm0, hw0, hc0⟩ := ReadsInt.ofRowC w0
  obtain ⟨l1, rfl, hr1, hm1, hw1, hc1⟩ := ReadsInt.ofRowC w1
  obtain ⟨k, h⟩ := P l0 l1 hm0 y0 hw0 hm1 y1 hw1
  refine (laws_FnBlocks.calls k _ _ l0 _ _ l1 true w (Kd.C_of_reads (d := (0 : Int)) (h1 := fun _ => rfl) hr0) hc0 (Kd.C_of_reads (d := (0 : Int)) (h1 := fun _ => rfl) hr1) hc1 h).mono ?_
  rintro e w' ⟨rfl, hd⟩
  exact ⟨rfl, hd⟩

end Go.Proofs.Ytpfoeologjacfaa.H
