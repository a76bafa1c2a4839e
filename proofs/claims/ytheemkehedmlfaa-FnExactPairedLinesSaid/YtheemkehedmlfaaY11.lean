-- Written by a program of this session (wip/tools) over the kit's print.
-- COMPACT
import Derived.Test.YtheemkehedmlfaaY0
import Derived.Test.YtheemkehedmlfaaY2
import Derived.Test.YtheemkehedmlfaaY6
import Derived.Test.YtheemkehedmlfaaY9
import Derived.Test.YtheemkehedmlfaaY10
namespace Go.Proofs.Ytheemkehedmlfaa.Y
open Go.RowKit Go.Proofs.YtheemkehedmlfaaW.PrintWords Go.Proofs.YtheemkehedmlfaaW.PrintLast Go.Proofs.YtheemkehedmlfaaW.PrintMore
attribute [local go_sem] max2_int min2_int max_two min_two max_three min_three max_four min_four   -- for this text's walks alone
set_option linter.unusedVariables false
set_option linter.unusedSimpArgs false

/-! ### laws_FnExactPairedLines: function 4 -/
mutual
def laws_FnExactPairedLines.j0 : Nat → Int → List (S65) → List Int → Bool → List (S63) → List Int → Bool → Bool → Option (Bool)
 | 0, _, _, _, _, _, _, _, _ => none
 | k + 1, x0, x1, x6, x7, x8, x9, x10, x44 => if x44 = true then (some false) else ((laws_toLineS.f k x1).bind fun t349 => ((laws_eqLineS.f k x8 t349).bind fun t352 => (if t352 = true then ((laws_markLineS.f k x8 1).bind fun bt353 => (if bt353.1 < 0 then (laws_FnExactPairedLines.j1 k x0 x1 x6 x7 x9 true) else ((laws_eqInt64S.f k x9 x6).bind fun t355 => (if t355 = true then (laws_FnExactPairedLines.j1 k x0 x1 x6 x7 x9 (x10 != x7)) else (laws_FnExactPairedLines.j1 k x0 x1 x6 x7 x9 true))))) else (some false))))
def laws_FnExactPairedLines.j1 : Nat → Int → List (S65) → List Int → Bool → List Int → Bool → Option (Bool)
 | 0, _, _, _, _, _, _ => none
 | k + 1, x0, x1, x6, x7, x9, x65 => if x65 = true then (some false) else ((laws_markInt64S.f k x9 1).bind fun bt356 => ((laws_heldInt64S.f k bt356.2 1).bind fun t358 => (if t358 < 0 then (some false) else (if t358 = bt356.1 then ((laws_toLineS.f k x1).bind fun t359 => ((impl_PairedLines.f k x0 t359).bind fun bt362 => ((laws_eqInt64S.f k bt362.1 x6).bind fun t366 => (if t366 = true then (laws_FnExactPairedLines.j2 k bt356.2 bt356.1 (bt362.2 != x7)) else (laws_FnExactPairedLines.j2 k bt356.2 bt356.1 true))))) else (some false)))))
def laws_FnExactPairedLines.j2 : Nat → List Int → Int → Bool → Option (Bool)
 | 0, _, _, _ => none
 | k + 1, x9, x12, x92 => if x92 = true then (some false) else ((laws_heldInt64S.f k x9 1).bind fun t367 => (if t367 < 0 then (some false) else (if t367 = x12 then (some true) else (some false))))
end
def laws_FnExactPairedLines.f (k : Nat) (a0 : Int) (l1 : List (S65)) : Option (Bool) := (laws_szLineS.f l1 1048576).bind fun t333 => (if t333 < 0 then (some true) else ((laws_toLineS.f k l1).bind fun t334 => ((spec_PairedLines.f k a0 t334).bind fun bt337 => ((laws_toLineS.f k l1).bind fun t341 => ((impl_PairedLines.f k a0 t341).bind fun bt344 => ((laws_eqInt64S.f k bt344.1 bt337.1).bind fun t348 => (if t348 = true then (laws_FnExactPairedLines.j0 k a0 l1 bt337.1 bt337.2 t341 bt344.1 bt344.2 (bt344.2 != bt337.2)) else (laws_FnExactPairedLines.j0 k a0 l1 bt337.1 bt337.2 t341 bt344.1 bt344.2 true))))))))
theorem laws_FnExactPairedLines.mono_l : ∀ k, (∀ y0 y1 y2 y3 y4 y5 y6 y7, LeO (laws_FnExactPairedLines.j0 k y0 y1 y2 y3 y4 y5 y6 y7) (laws_FnExactPairedLines.j0 (k + 1) y0 y1 y2 y3 y4 y5 y6 y7)) ∧ (∀ y0 y1 y2 y3 y4 y5, LeO (laws_FnExactPairedLines.j1 k y0 y1 y2 y3 y4 y5) (laws_FnExactPairedLines.j1 (k + 1) y0 y1 y2 y3 y4 y5)) ∧ (∀ y0 y1 y2, LeO (laws_FnExactPairedLines.j2 k y0 y1 y2) (laws_FnExactPairedLines.j2 (k + 1) y0 y1 y2))
 | 0 => ⟨fun _ _ _ _ _ _ _ _ r h => by simp [laws_FnExactPairedLines.j0] at h, fun _ _ _ _ _ _ r h => by simp [laws_FnExactPairedLines.j1] at h, fun _ _ _ r h => by simp [laws_FnExactPairedLines.j2] at h⟩
 | k + 1 => by
  obtain ⟨ih0, ih1, ih2⟩ := laws_FnExactPairedLines.mono_l k
  refine ⟨?_, ?_, ?_⟩
  ·intro y0 y1 y2 y3 y4 y5 y6 y7
   unfold laws_FnExactPairedLines.j0
   repeat' first
   | (with_reducible exact ih0 _ _ _ _ _ _ _ _)
   | (with_reducible exact ih1 _ _ _ _ _ _)
   | (with_reducible exact ih2 _ _ _)
   | (with_reducible exact impl_PairedLines.mono _ _ _)
   | (with_reducible exact laws_eqInt64S.mono _ _ _)
   | (with_reducible exact laws_eqLineS.mono _ _ _)
   | (with_reducible exact laws_heldInt64S.mono _ _ _)
   | (with_reducible exact laws_markInt64S.mono _ _ _)
   | (with_reducible exact laws_markLineS.mono _ _ _)
   | (with_reducible exact laws_toLineS.mono _ _)
   | (with_reducible exact spec_PairedLines.mono _ _ _)
   | (with_reducible exact LeO.refl _)
   | (with_reducible exact LeO.none _)
   | (with_reducible refine LeO.ite ?_ ?_)
   | (with_reducible refine LeO.bind ?_ (fun _ => ?_))
   | exact ih0 _ _ _ _ _ _ _ _
   | exact ih1 _ _ _ _ _ _
   | exact ih2 _ _ _
   | exact impl_PairedLines.mono _ _ _
   | exact laws_eqInt64S.mono _ _ _
   | exact laws_eqLineS.mono _ _ _
   | exact laws_heldInt64S.mono _ _ _
   | exact laws_markInt64S.mono _ _ _
   | exact laws_markLineS.mono _ _ _
   | exact laws_toLineS.mono _ _
   | exact spec_PairedLines.mono _ _ _
   | exact LeO.none _
   | refine LeO.ite ?_ ?_
   | refine LeO.bind ?_ (fun _ => ?_)
  ·intro y0 y1 y2 y3 y4 y5
   unfold laws_FnExactPairedLines.j1
   repeat' first
   | (with_reducible exact ih0 _ _ _ _ _ _ _ _)
   | (with_reducible exact ih1 _ _ _ _ _ _)
   | (with_reducible exact ih2 _ _ _)
   | (with_reducible exact impl_PairedLines.mono _ _ _)
   | (with_reducible exact laws_eqInt64S.mono _ _ _)
   | (with_reducible exact laws_eqLineS.mono _ _ _)
   | (with_reducible exact laws_heldInt64S.mono _ _ _)
   | (with_reducible exact laws_markInt64S.mono _ _ _)
   | (with_reducible exact laws_markLineS.mono _ _ _)
   | (with_reducible exact laws_toLineS.mono _ _)
   | (with_reducible exact spec_PairedLines.mono _ _ _)
   | (with_reducible exact LeO.refl _)
   | (with_reducible exact LeO.none _)
   | (with_reducible refine LeO.ite ?_ ?_)
   | (with_reducible refine LeO.bind ?_ (fun _ => ?_))
   | exact ih0 _ _ _ _ _ _ _ _
   | exact ih1 _ _ _ _ _ _
   | exact ih2 _ _ _
   | exact impl_PairedLines.mono _ _ _
   | exact laws_eqInt64S.mono _ _ _
   | exact laws_eqLineS.mono _ _ _
   | exact laws_heldInt64S.mono _ _ _
   | exact laws_markInt64S.mono _ _ _
   | exact laws_markLineS.mono _ _ _
   | exact laws_toLineS.mono _ _
   | exact spec_PairedLines.mono _ _ _
   | exact LeO.none _
   | refine LeO.ite ?_ ?_
   | refine LeO.bind ?_ (fun _ => ?_)
  intro y0 y1 y2
  unfold laws_FnExactPairedLines.j2
  repeat' first
  | (with_reducible exact ih0 _ _ _ _ _ _ _ _)
  | (with_reducible exact ih1 _ _ _ _ _ _)
  | (with_reducible exact ih2 _ _ _)
  | (with_reducible exact impl_PairedLines.mono _ _ _)
  | (with_reducible exact laws_eqInt64S.mono _ _ _)
  | (with_reducible exact laws_eqLineS.mono _ _ _)
  | (with_reducible exact laws_heldInt64S.mono _ _ _)
  | (with_reducible exact laws_markInt64S.mono _ _ _)
  | (with_reducible exact laws_markLineS.mono _ _ _)
  | (with_reducible exact laws_toLineS.mono _ _)
  | (with_reducible exact spec_PairedLines.mono _ _ _)
  | (with_reducible exact LeO.refl _)
  | (with_reducible exact LeO.none _)
  | (with_reducible refine LeO.ite ?_ ?_)
  | (with_reducible refine LeO.bind ?_ (fun _ => ?_))
  | exact ih0 _ _ _ _ _ _ _ _
  | exact ih1 _ _ _ _ _ _
  | exact ih2 _ _ _
  | exact impl_PairedLines.mono _ _ _
  | exact laws_eqInt64S.mono _ _ _
  | exact laws_eqLineS.mono _ _ _
  | exact laws_heldInt64S.mono _ _ _
  | exact laws_markInt64S.mono _ _ _
  | exact laws_markLineS.mono _ _ _
  | exact laws_toLineS.mono _ _
  | exact spec_PairedLines.mono _ _ _
  | exact LeO.none _
  | refine LeO.ite ?_ ?_
  | refine LeO.bind ?_ (fun _ => ?_)
theorem laws_FnExactPairedLines.mono : ∀ a0 a1 k, LeO (laws_FnExactPairedLines.f k a0 a1) (laws_FnExactPairedLines.f (k + 1) a0 a1) := by
 intro a0 a1 k
 obtain ⟨ih0, ih1, ih2⟩ := laws_FnExactPairedLines.mono_l k
 unfold laws_FnExactPairedLines.f
 repeat' first
   | (with_reducible exact ih0 _ _ _ _ _ _ _ _)
   | (with_reducible exact ih1 _ _ _ _ _ _)
   | (with_reducible exact ih2 _ _ _)
   | (with_reducible exact impl_PairedLines.mono _ _ _)
   | (with_reducible exact laws_eqInt64S.mono _ _ _)
   | (with_reducible exact laws_eqLineS.mono _ _ _)
   | (with_reducible exact laws_heldInt64S.mono _ _ _)
   | (with_reducible exact laws_markInt64S.mono _ _ _)
   | (with_reducible exact laws_markLineS.mono _ _ _)
   | (with_reducible exact laws_toLineS.mono _ _)
   | (with_reducible exact spec_PairedLines.mono _ _ _)
   | (with_reducible exact LeO.refl _)
   | (with_reducible exact LeO.none _)
   | (with_reducible refine LeO.ite ?_ ?_)
   | (with_reducible refine LeO.bind ?_ (fun _ => ?_))
   | exact ih0 _ _ _ _ _ _ _ _
   | exact ih1 _ _ _ _ _ _
   | exact ih2 _ _ _
   | exact impl_PairedLines.mono _ _ _
   | exact laws_eqInt64S.mono _ _ _
   | exact laws_eqLineS.mono _ _ _
   | exact laws_heldInt64S.mono _ _ _
   | exact laws_markInt64S.mono _ _ _
   | exact laws_markLineS.mono _ _ _
   | exact laws_toLineS.mono _ _
   | exact spec_PairedLines.mono _ _ _
   | exact LeO.none _
   | refine LeO.ite ?_ ?_
   | refine LeO.bind ?_ (fun _ => ?_)
set_option maxHeartbeats 8000000 in
set_option maxRecDepth 100000 in
theorem laws_FnExactPairedLines.calls (k : Nat) (a0 : Int) (A1 : Option Addr) (c1 : Nat) (l1 : List (S65)) (r : Bool) (w : World) (hr1 : Kd.C k65 w A1 l1.length l1) (hc1 : l1.length ≤ c1) (h : laws_FnExactPairedLines.f k a0 l1 = some r) :
  Calls Try.prog 4 #[.int .i64 a0, .slice A1 l1.length c1] w fun e w' => e = .returned (.bool r) ∧ Below w.heap.size w w' := by
 have HR1 := Aside0.mk hr1
 have HC1 := Aside0.mk hc1
 clear hr1 hc1
 have HB := Aside0.mk (Below.refl w.heap.size w)
 have H : ((laws_szLineS.f l1 1048576).bind fun t333 => (if t333 < 0 then (some true) else ((laws_toLineS.f k l1).bind fun t334 => ((spec_PairedLines.f k a0 t334).bind fun bt337 => ((laws_toLineS.f k l1).bind fun t341 => ((impl_PairedLines.f k a0 t341).bind fun bt344 => ((laws_eqInt64S.f k bt344.1 bt337.1).bind fun t348 => (if t348 = true then (laws_FnExactPairedLines.j0 k a0 l1 bt337.1 bt337.2 t341 bt344.1 bt344.2 (bt344.2 != bt337.2)) else (laws_FnExactPairedLines.j0 k a0 l1 bt337.1 bt337.2 t341 bt344.1 bt344.2 true))))))))) = some r := h
 clear h
 replace H := Option.bind_eq_some_iff.mp H
 obtain ⟨t333, A30, H⟩ := H
 replace H : (if t333 < 0 then (some true) else ((laws_toLineS.f k l1).bind fun t334 => ((spec_PairedLines.f k a0 t334).bind fun bt337 => ((laws_toLineS.f k l1).bind fun t341 => ((impl_PairedLines.f k a0 t341).bind fun bt344 => ((laws_eqInt64S.f k bt344.1 bt337.1).bind fun t348 => (if t348 = true then (laws_FnExactPairedLines.j0 k a0 l1 bt337.1 bt337.2 t341 bt344.1 bt344.2 (bt344.2 != bt337.2)) else (laws_FnExactPairedLines.j0 k a0 l1 bt337.1 bt337.2 t341 bt344.1 bt344.2 true)))))))) = some r := H
 have A3 := Aside0.mk A30
 clear A30
 by_cases c4 : t333 < 0
 ·rw [if_pos c4] at H
  have c4b0 : decide (t333 < 0) = true := decide_eq_true c4
  clear c4
  obtain rfl := Option.some.inj H
  go_enter Try.func4, Try.ntmps4
  go_wp2_with (first | ((with_reducible refine gate_callee (f := 13) rfl ?_); refine goesL_ (some 18) rfl rfl Try.func13 (by kernel_rfl) rfl #[.slice A1 l1.length c1, .int .i64 1048576] rfl wy2 ?_; (with_reducible refine (laws_szLineS.calls _ _ l1 1048576 t333 _ ?side1 ?side2 A3.out).mono ?_); (case side1 => repeat (first | exact HR1.out | (with_reducible refine Kd.C_alloc ?_ _) | (with_reducible refine Kd.C_drewN ?_ _) | (with_reducible refine Kd.C_drew ?_))); (case side2 => exact HC1.out); rintro e w' ⟨rfl, ⟨nd, rfl⟩⟩; refine ⟨_, rfl, ?_⟩))
  go_ret
  exact ⟨wy3, (xyo HB.out)⟩
 rw [if_neg c4] at H
 have c4b0 : decide (t333 < 0) = false := decide_eq_false c4
 clear c4
 replace H := Option.bind_eq_some_iff.mp H
 obtain ⟨t334, A50, H⟩ := H
 replace H : ((spec_PairedLines.f k a0 t334).bind fun bt337 => ((laws_toLineS.f k l1).bind fun t341 => ((impl_PairedLines.f k a0 t341).bind fun bt344 => ((laws_eqInt64S.f k bt344.1 bt337.1).bind fun t348 => (if t348 = true then (laws_FnExactPairedLines.j0 k a0 l1 bt337.1 bt337.2 t341 bt344.1 bt344.2 (bt344.2 != bt337.2)) else (laws_FnExactPairedLines.j0 k a0 l1 bt337.1 bt337.2 t341 bt344.1 bt344.2 true)))))) = some r := H
 have A5 := Aside0.mk A50
 clear A50
 replace H := Option.bind_eq_some_iff.mp H
 obtain ⟨⟨t337, t338⟩, A60, H⟩ := H
 replace H : ((laws_toLineS.f k l1).bind fun t341 => ((impl_PairedLines.f k a0 t341).bind fun bt344 => ((laws_eqInt64S.f k bt344.1 t337).bind fun t348 => (if t348 = true then (laws_FnExactPairedLines.j0 k a0 l1 t337 t338 t341 bt344.1 bt344.2 (bt344.2 != t338)) else (laws_FnExactPairedLines.j0 k a0 l1 t337 t338 t341 bt344.1 bt344.2 true))))) = some r := H
 have A6 := Aside0.mk A60
 clear A60
 replace H := Option.bind_eq_some_iff.mp H
 obtain ⟨t341, A70, H⟩ := H
 replace H : ((impl_PairedLines.f k a0 t341).bind fun bt344 => ((laws_eqInt64S.f k bt344.1 t337).bind fun t348 => (if t348 = true then (laws_FnExactPairedLines.j0 k a0 l1 t337 t338 t341 bt344.1 bt344.2 (bt344.2 != t338)) else (laws_FnExactPairedLines.j0 k a0 l1 t337 t338 t341 bt344.1 bt344.2 true)))) = some r := H
 have A7 := Aside0.mk A70
 clear A70
 replace H := Option.bind_eq_some_iff.mp H
 obtain ⟨⟨t344, t345⟩, A80, H⟩ := H
 replace H : ((laws_eqInt64S.f k t344 t337).bind fun t348 => (if t348 = true then (laws_FnExactPairedLines.j0 k a0 l1 t337 t338 t341 t344 t345 (t345 != t338)) else (laws_FnExactPairedLines.j0 k a0 l1 t337 t338 t341 t344 t345 true))) = some r := H
 have A8 := Aside0.mk A80
 clear A80
 have HC9 := Aside0.mk H
 clear H
 go_enter Try.func4, Try.ntmps4
 go_upto_region 8 with (first | ((with_reducible refine gate_callee (f := 13) rfl ?_); refine goesL_ (some 18) rfl rfl Try.func13 (by kernel_rfl) rfl #[.slice A1 l1.length c1, .int .i64 1048576] rfl wy2 ?_; (with_reducible refine (laws_szLineS.calls _ _ l1 1048576 t333 _ ?side1 ?side2 A3.out).mono ?_); (case side1 => repeat (first | exact HR1.out | (with_reducible refine Kd.C_alloc ?_ _) | (with_reducible refine Kd.C_drewN ?_ _) | (with_reducible refine Kd.C_drew ?_))); (case side2 => exact HC1.out); rintro e w' ⟨rfl, ⟨nd, rfl⟩⟩; refine ⟨_, rfl, ?_⟩) | ((with_reducible refine gate_callee (f := 15) rfl ?_); refine goesL_ (some 24) rfl rfl Try.func15 (by kernel_rfl) rfl #[.slice A1 l1.length c1] rfl wy2 ?_; (with_reducible refine (laws_toLineS.calls k _ _ l1 t334 _ ?side1 ?side2 A5.out).mono ?_); (case side1 => repeat (first | exact HR1.out | (with_reducible refine Kd.C_alloc ?_ _) | (with_reducible refine Kd.C_drewN ?_ _) | (with_reducible refine Kd.C_drew ?_))); (case side2 => exact HC1.out); rintro e w10 ⟨v335, rfl, ho0, hb⟩; refine ⟨_, rfl, ?_⟩; have HO336 := Aside0.mk (Kd.R_lower ho0 (below_size (xyo HB.out))); replace HB := Aside0.mk (below_step (xyo HB.out) hb); (try clear hb); (try clear hb2); (try clear hk); (try clear hi); (try clear ho0); obtain ⟨Ao11, co11, eo11⟩ := Kd.R_slice HO336.out; subst eo11) | ((with_reducible refine gate_callee (f := 18) rfl ?_); refine goesL_ (some 25) rfl rfl Try.func18 (by kernel_rfl) rfl #[.int .i64 a0, .slice Ao11 t334.length co11] rfl wy2 ?_; (with_reducible refine (spec_PairedLines.calls k a0 _ _ t334 t337 t338 _ ?side1 ?side2 A6.out).mono ?_); (case side1 => repeat (first | exact (Kd.R_reads' HO336.out).2.2 | (with_reducible refine Kd.C_alloc ?_ _) | (with_reducible refine Kd.C_drewN ?_ _) | (with_reducible refine Kd.C_drew ?_))); (case side2 => exact (Kd.R_reads' HO336.out).2.1); rintro e w12 ⟨v339, rfl, ho0, hb⟩; refine ⟨_, rfl, ?_⟩; replace HO336 := Aside0.mk (Kd.R_below (xyr HO336.out) hb); have HO340 := Aside0.mk (Kd.R_lower ho0 (below_size (xyo HB.out))); replace HB := Aside0.mk (below_step (xyo HB.out) hb); (try clear hb); (try clear hb2); (try clear hk); (try clear hi); (try clear ho0)) | ((with_reducible refine gate_callee (f := 15) rfl ?_); refine goesL_ (some 29) rfl rfl Try.func15 (by kernel_rfl) rfl #[.slice A1 l1.length c1] rfl wy2 ?_; (with_reducible refine (laws_toLineS.calls k _ _ l1 t341 _ ?side1 ?side2 A7.out).mono ?_); (case side1 => repeat (first | exact (Kd.C_below HR1.out HB.out) | (with_reducible refine Kd.C_alloc ?_ _) | (with_reducible refine Kd.C_drewN ?_ _) | (with_reducible refine Kd.C_drew ?_))); (case side2 => exact HC1.out); rintro e w13 ⟨v342, rfl, ho0, hb⟩; refine ⟨_, rfl, ?_⟩; replace HO340 := Aside0.mk (Kd.R_below (xyr HO340.out) hb); have HO343 := Aside0.mk (Kd.R_lower (Kd.R_new' ho0 (Kd.R_lt (xyr HO336.out))) (below_size (xyo HB.out))); replace HO336 := Aside0.mk (Kd.R_elder' (xyr HO336.out) (Kd.R_base ho0) hb); replace HB := Aside0.mk (below_step (xyo HB.out) hb); (try clear hb); (try clear hb2); (try clear hk); (try clear hi); (try clear ho0); obtain ⟨Ao14, co14, eo14⟩ := Kd.R_slice HO343.out; subst eo14) | ((with_reducible refine gate_callee (f := 19) rfl ?_); refine goesL_ (some 33) rfl rfl Try.func19 (by kernel_rfl) rfl #[.int .i64 a0, .slice Ao14 t341.length co14] rfl wy2 ?_; (with_reducible refine (impl_PairedLines.calls k a0 _ _ t341 t344 t345 _ ?side1 ?side2 A8.out).mono ?_); (case side1 => repeat (first | exact (Kd.R_reads' HO343.out).2.2 | (with_reducible refine Kd.C_alloc ?_ _) | (with_reducible refine Kd.C_drewN ?_ _) | (with_reducible refine Kd.C_drew ?_))); (case side2 => exact (Kd.R_reads' HO343.out).2.1); rintro e w15 ⟨v346, rfl, ho0, hb⟩; refine ⟨_, rfl, ?_⟩; replace HO336 := Aside0.mk (Kd.R_below (xyr HO336.out) hb); replace HO343 := Aside0.mk (Kd.R_below (xyr HO343.out) hb); have HO347 := Aside0.mk (Kd.R_lower (Kd.R_new' ho0 (Kd.R_lt (xyr HO340.out))) (below_size (xyo HB.out))); replace HO340 := Aside0.mk (Kd.R_elder' (xyr HO340.out) (Kd.R_base ho0) hb); replace HB := Aside0.mk (below_step (xyo HB.out) hb); (try clear hb); (try clear hb2); (try clear hk); (try clear hi); (try clear ho0)))
 (try simp only [Act.put, List.setIfInBounds_toArray, List.set_cons_zero, List.set_cons_succ])
 go_cut [44] (fun v44 wc => ∃ (kq : Nat) (x44_8 : Bool), v44 = .bool x44_8 ∧ Aside0 (laws_FnExactPairedLines.j0 kq a0 l1 t337 t338 t341 t344 t345 x44_8 = some r) ∧ Aside0 (kq ≤ k) ∧ Aside0 (Kd.R (Kd.int .i64) 2 wc w.heap.size (fun k_ => some k_ ≠ (v346 : Value).ownBlock) v339 t337) ∧ Aside0 (Kd.R k63 63 wc w.heap.size (fun _ => True) (.slice Ao14 t341.length co14) t341) ∧ Aside0 (Kd.R (Kd.int .i64) 2 wc w.heap.size (fun k_ => some k_ ≠ (v339 : Value).ownBlock) v346 t344) ∧ Aside0 (Below w.heap.size w wc))
 case first =>
  have H := HC9.out
  clear HC9
  replace H := Option.bind_eq_some_iff.mp H
  obtain ⟨t348, A160, H⟩ := H
  replace H : (if t348 = true then (laws_FnExactPairedLines.j0 k a0 l1 t337 t338 t341 t344 t345 (t345 != t338)) else (laws_FnExactPairedLines.j0 k a0 l1 t337 t338 t341 t344 t345 true)) = some r := H
  have A16 := Aside0.mk A160
  clear A160
  by_cases c17 : t348 = true
  ·subst c17
   have H1 : (laws_FnExactPairedLines.j0 k a0 l1 t337 t338 t341 t344 t345 (t345 != t338)) = some r := by rw [if_pos rfl] at H; exact H
   clear H
   have H := H1
   clear H1
   have H' := Aside0.mk H
   clear H
   obtain ⟨Ao18, co18, eo18⟩ := Kd.R_slice HO347.out
   subst eo18
   obtain ⟨Ao19, co19, eo19⟩ := Kd.R_slice HO340.out
   subst eo19
   go_wp2_with (first | ((with_reducible refine gate_callee (f := 20) rfl ?_); refine goesL_ (some 38) rfl rfl Try.func20 (by kernel_rfl) rfl #[.slice Ao18 t344.length co18, .slice Ao19 t337.length co19] rfl wy2 ?_; (with_reducible refine (laws_eqInt64S.calls k _ _ t344 _ _ t337 true _ ?side1 ?side2 ?side3 ?side4 A16.out).mono ?_); (case side1 => repeat (first | exact (Kd.R_reads' HO347.out).2.2 | (with_reducible refine Kd.C_alloc ?_ _) | (with_reducible refine Kd.C_drewN ?_ _) | (with_reducible refine Kd.C_drew ?_))); (case side2 => exact (Kd.R_reads' HO347.out).2.1); (case side3 => repeat (first | exact (Kd.R_reads' HO340.out).2.2 | (with_reducible refine Kd.C_alloc ?_ _) | (with_reducible refine Kd.C_drewN ?_ _) | (with_reducible refine Kd.C_drew ?_))); (case side4 => exact (Kd.R_reads' HO340.out).2.1); rintro e w' ⟨rfl, ⟨nd, rfl⟩⟩; refine ⟨_, rfl, ?_⟩))
   go_meet
   case rel => exact ⟨_, ((t345 != t338)), wy5, H', ⟨(by first | omega | exact Nat.le_refl _)⟩, ⟨(by (with_reducible repeat (first | apply Kd.R_alloc | apply Kd.R_drewN | apply Kd.R_drew)); exact Kd.R_mono HO340.out (fun _ hk => hk.2))⟩, ⟨(by (with_reducible repeat (first | apply Kd.R_alloc | apply Kd.R_drewN | apply Kd.R_drew)); exact Kd.R_mono HO343.out (fun _ hk => trivial))⟩, ⟨(by (with_reducible repeat (first | apply Kd.R_alloc | apply Kd.R_drewN | apply Kd.R_drew)); exact Kd.R_mono HO347.out (fun _ hk => hk.2))⟩, ⟨(xyo HB.out)⟩⟩
  replace c17 := Bool.eq_false_iff.mpr c17
  subst c17
  have H1 : (laws_FnExactPairedLines.j0 k a0 l1 t337 t338 t341 t344 t345 true) = some r := by rw [if_neg (show ¬ (false = true) by decide)] at H; exact H
  clear H
  have H := H1
  clear H1
  have H' := Aside0.mk H
  clear H
  obtain ⟨Ao20, co20, eo20⟩ := Kd.R_slice HO347.out
  subst eo20
  obtain ⟨Ao21, co21, eo21⟩ := Kd.R_slice HO340.out
  subst eo21
  go_wp2_with (first | ((with_reducible refine gate_callee (f := 20) rfl ?_); refine goesL_ (some 38) rfl rfl Try.func20 (by kernel_rfl) rfl #[.slice Ao20 t344.length co20, .slice Ao21 t337.length co21] rfl wy2 ?_; (with_reducible refine (laws_eqInt64S.calls k _ _ t344 _ _ t337 false _ ?side1 ?side2 ?side3 ?side4 A16.out).mono ?_); (case side1 => repeat (first | exact (Kd.R_reads' HO347.out).2.2 | (with_reducible refine Kd.C_alloc ?_ _) | (with_reducible refine Kd.C_drewN ?_ _) | (with_reducible refine Kd.C_drew ?_))); (case side2 => exact (Kd.R_reads' HO347.out).2.1); (case side3 => repeat (first | exact (Kd.R_reads' HO340.out).2.2 | (with_reducible refine Kd.C_alloc ?_ _) | (with_reducible refine Kd.C_drewN ?_ _) | (with_reducible refine Kd.C_drew ?_))); (case side4 => exact (Kd.R_reads' HO340.out).2.1); rintro e w' ⟨rfl, ⟨nd, rfl⟩⟩; refine ⟨_, rfl, ?_⟩))
  go_meet
  case rel => exact ⟨_, (true), wy5, H', ⟨(by first | omega | exact Nat.le_refl _)⟩, ⟨(by (with_reducible repeat (first | apply Kd.R_alloc | apply Kd.R_drewN | apply Kd.R_drew)); exact Kd.R_mono HO340.out (fun _ hk => hk.2))⟩, ⟨(by (with_reducible repeat (first | apply Kd.R_alloc | apply Kd.R_drewN | apply Kd.R_drew)); exact Kd.R_mono HO343.out (fun _ hk => trivial))⟩, ⟨(by (with_reducible repeat (first | apply Kd.R_alloc | apply Kd.R_drewN | apply Kd.R_drew)); exact Kd.R_mono HO347.out (fun _ hk => hk.2))⟩, ⟨(xyo HB.out)⟩⟩
 case rest =>
  clear HC9
  try clear c1
  try clear c2
  try clear p2
  try clear c4
  try clear c4b0
  try clear c13
  try clear c15
  try clear c17
  try clear c18
  try clear c19
  try clear c20
  obtain ⟨kq, x44_8, rfl, HA, HJ8, HO_6, HO_8, HO_9, HB⟩ := hcut
  cases kq with
  | zero => exact absurd HA.out (by simp [laws_FnExactPairedLines.j0])
  | succ kj8 =>
   have H := HA.out
   clear HA
   simp only [laws_FnExactPairedLines.j0] at H
   by_cases c22 : x44_8 = true
   ·subst c22
    have H1 : (some false) = some r := by rw [if_pos rfl] at H; exact H
    clear H
    have H := H1
    clear H1
    obtain rfl := Option.some.inj H
    go_wp2
    go_ret
    exact ⟨wy3, (xyo HB.out)⟩
   replace c22 := Bool.eq_false_iff.mpr c22
   subst c22
   have H1 : ((laws_toLineS.f kj8 l1).bind fun t349 => ((laws_eqLineS.f kj8 t341 t349).bind fun t352 => (if t352 = true then ((laws_markLineS.f kj8 t341 1).bind fun bt353 => (if bt353.1 < 0 then (laws_FnExactPairedLines.j1 kj8 a0 l1 t337 t338 t344 true) else ((laws_eqInt64S.f kj8 t344 t337).bind fun t355 => (if t355 = true then (laws_FnExactPairedLines.j1 kj8 a0 l1 t337 t338 t344 (t345 != t338)) else (laws_FnExactPairedLines.j1 kj8 a0 l1 t337 t338 t344 true))))) else (some false)))) = some r := by rw [if_neg (show ¬ (false = true) by decide)] at H; exact H
   clear H
   have H := H1
   clear H1
   replace H := Option.bind_eq_some_iff.mp H
   obtain ⟨t349, A230, H⟩ := H
   replace H : ((laws_eqLineS.f kj8 t341 t349).bind fun t352 => (if t352 = true then ((laws_markLineS.f kj8 t341 1).bind fun bt353 => (if bt353.1 < 0 then (laws_FnExactPairedLines.j1 kj8 a0 l1 t337 t338 t344 true) else ((laws_eqInt64S.f kj8 t344 t337).bind fun t355 => (if t355 = true then (laws_FnExactPairedLines.j1 kj8 a0 l1 t337 t338 t344 (t345 != t338)) else (laws_FnExactPairedLines.j1 kj8 a0 l1 t337 t338 t344 true))))) else (some false))) = some r := H
   have A23 := Aside0.mk A230
   clear A230
   replace H := Option.bind_eq_some_iff.mp H
   obtain ⟨t352, A240, H⟩ := H
   replace H : (if t352 = true then ((laws_markLineS.f kj8 t341 1).bind fun bt353 => (if bt353.1 < 0 then (laws_FnExactPairedLines.j1 kj8 a0 l1 t337 t338 t344 true) else ((laws_eqInt64S.f kj8 t344 t337).bind fun t355 => (if t355 = true then (laws_FnExactPairedLines.j1 kj8 a0 l1 t337 t338 t344 (t345 != t338)) else (laws_FnExactPairedLines.j1 kj8 a0 l1 t337 t338 t344 true))))) else (some false)) = some r := H
   have A24 := Aside0.mk A240
   clear A240
   by_cases c25 : t352 = true
   ·subst c25
    have H1 : ((laws_markLineS.f kj8 t341 1).bind fun bt353 => (if bt353.1 < 0 then (laws_FnExactPairedLines.j1 kj8 a0 l1 t337 t338 t344 true) else ((laws_eqInt64S.f kj8 t344 t337).bind fun t355 => (if t355 = true then (laws_FnExactPairedLines.j1 kj8 a0 l1 t337 t338 t344 (t345 != t338)) else (laws_FnExactPairedLines.j1 kj8 a0 l1 t337 t338 t344 true))))) = some r := by rw [if_pos rfl] at H; exact H
    clear H
    have H := H1
    clear H1
    replace H := Option.bind_eq_some_iff.mp H
    obtain ⟨⟨t353, t354⟩, A260, H⟩ := H
    replace H : (if t353 < 0 then (laws_FnExactPairedLines.j1 kj8 a0 l1 t337 t338 t344 true) else ((laws_eqInt64S.f kj8 t344 t337).bind fun t355 => (if t355 = true then (laws_FnExactPairedLines.j1 kj8 a0 l1 t337 t338 t344 (t345 != t338)) else (laws_FnExactPairedLines.j1 kj8 a0 l1 t337 t338 t344 true)))) = some r := H
    have A26 := Aside0.mk A260
    clear A260
    have HC27 := Aside0.mk H
    clear H
    go_upto_region 14 with (first | ((with_reducible refine gate_callee (f := 15) rfl ?_); refine goesL_ (some 47) rfl rfl Try.func15 (by kernel_rfl) rfl #[.slice A1 l1.length c1] rfl wy2 ?_; (with_reducible refine (laws_toLineS.calls kj8 _ _ l1 t349 _ ?side1 ?side2 A23.out).mono ?_); (case side1 => repeat (first | exact (Kd.C_below HR1.out HB.out) | (with_reducible refine Kd.C_alloc ?_ _) | (with_reducible refine Kd.C_drewN ?_ _) | (with_reducible refine Kd.C_drew ?_))); (case side2 => exact HC1.out); rintro e w28 ⟨v350, rfl, ho0, hb⟩; refine ⟨_, rfl, ?_⟩; replace HO_6 := Aside0.mk (Kd.R_below (xyr HO_6.out) hb); replace HO_9 := Aside0.mk (Kd.R_below (xyr HO_9.out) hb); have HO351 := Aside0.mk (Kd.R_lower (Kd.R_new' ho0 (Kd.R_lt (xyr HO_8.out))) (below_size (xyo HB.out))); replace HO_8 := Aside0.mk (Kd.R_elder' (xyr HO_8.out) (Kd.R_base ho0) hb); replace HB := Aside0.mk (below_step (xyo HB.out) hb); (try clear hb); (try clear hb2); (try clear hk); (try clear hi); (try clear ho0); obtain ⟨Ao29, co29, eo29⟩ := Kd.R_slice HO351.out; subst eo29) | ((with_reducible refine gate_callee (f := 17) rfl ?_); refine goesL_ (some 48) rfl rfl Try.func17 (by kernel_rfl) rfl #[.slice Ao14 t341.length co14, .slice Ao29 t349.length co29] rfl wy2 ?_; (with_reducible refine (laws_eqLineS.calls kj8 _ _ t341 _ _ t349 true _ ?side1 ?side2 ?side3 ?side4 A24.out).mono ?_); (case side1 => repeat (first | exact (Kd.R_reads' HO_8.out).2.2 | (with_reducible refine Kd.C_alloc ?_ _) | (with_reducible refine Kd.C_drewN ?_ _) | (with_reducible refine Kd.C_drew ?_))); (case side2 => exact (Kd.R_reads' HO_8.out).2.1); (case side3 => repeat (first | exact (Kd.R_reads' HO351.out).2.2 | (with_reducible refine Kd.C_alloc ?_ _) | (with_reducible refine Kd.C_drewN ?_ _) | (with_reducible refine Kd.C_drew ?_))); (case side4 => exact (Kd.R_reads' HO351.out).2.1); rintro e w30 ⟨rfl, hb⟩; refine ⟨_, rfl, ?_⟩; replace HO_6 := Aside0.mk (Kd.R_below (xyr HO_6.out) hb); replace HO_8 := Aside0.mk (Kd.R_below (xyr HO_8.out) hb); replace HO_9 := Aside0.mk (Kd.R_below (xyr HO_9.out) hb); replace HO351 := Aside0.mk (Kd.R_below (xyr HO351.out) hb); replace HB := Aside0.mk (below_step (xyo HB.out) hb); (try clear hb); (try clear hb2); (try clear hk); (try clear hi)) | ((with_reducible refine gate_callee (f := 21) rfl ?_); refine goesL_ (some 52) rfl rfl Try.func21 (by kernel_rfl) rfl #[.slice Ao14 t341.length co14, .int .i64 1] rfl wy2 ?_; (with_reducible refine (laws_markLineS.calls kj8 (fun k_ => some k_ = (.slice Ao14 t341.length co14 : Value).ownBlock) (.slice Ao14 t341.length co14) t341 1 t353 t354 w _ ?side1 ?side2 A26.out).mono ?_); (case side1 => repeat (first | (with_reducible first | exact HB.out | apply below_alloc | apply pw_below_drewN | apply below_drew1) | exact HB.out)); (case side2 => exact Kd.R_tight rfl HO_8.out); rintro e w31 ⟨rfl, hy0, hb, hkp⟩; refine ⟨_, rfl, ?_⟩; replace HO_6 := Aside0.mk (Kd.R_mono (ok' := fun k_ => some k_ ≠ (v346 : Value).ownBlock) (Kd.R_keptB ((Kd.R_apart' HO_6.out (Kd.R_typed HO_8.out) (by decide))) hkp (fun k_ hk_ hs_ => (hk_.2) hs_)) (fun k_ hk_ => hk_.1.1)); replace HO_9 := Aside0.mk (Kd.R_mono (ok' := fun k_ => some k_ ≠ (v339 : Value).ownBlock) (Kd.R_keptB ((Kd.R_apart' HO_9.out (Kd.R_typed HO_8.out) (by decide))) hkp (fun k_ hk_ hs_ => (hk_.2) hs_)) (fun k_ hk_ => hk_.1.1)); replace HO_8 := Aside0.mk (Kd.R_reok rfl hy0 (fun k_ e_ => HO_8.out.1 k_ e_)); replace HO351 := Aside0.mk (Kd.R_mono (ok' := fun k_ => some k_ ≠ (.slice Ao14 t341.length co14 : Value).ownBlock) (Kd.R_keptB (HO351.out) hkp (fun k_ hk_ hs_ => (hk_.2) hs_)) (fun k_ hk_ => hk_.1.2)); replace HB := Aside0.mk (hb); (try clear hb); (try clear hkp); (try clear hy0)))
    (try simp only [Act.put, List.setIfInBounds_toArray, List.set_cons_zero, List.set_cons_succ])
    go_cut [65] (fun v65 wc => ∃ (kq : Nat) (x65_26 : Bool), v65 = .bool x65_26 ∧ Aside0 (laws_FnExactPairedLines.j1 kq a0 l1 t337 t338 t344 x65_26 = some r) ∧ Aside0 (kq ≤ kj8) ∧ Aside0 (Kd.R (Kd.int .i64) 2 wc w.heap.size (fun k_ => some k_ ≠ (v346 : Value).ownBlock) v339 t337) ∧ Aside0 (Kd.R (Kd.int .i64) 2 wc w.heap.size (fun k_ => some k_ ≠ (v339 : Value).ownBlock) v346 t344) ∧ Aside0 (Below w.heap.size w wc))
    case first =>
     have H := HC27.out
     clear HC27
     by_cases c32 : t353 < 0
     ·rw [if_pos c32] at H
      have c32b0 : decide (t353 < 0) = true := decide_eq_true c32
      clear c32
      (first | rw [c32b0] | (simp only [i64_w, i32_w]; rw [c32b0]) | skip)
      have H' := Aside0.mk H
      clear H
      go_wp2
      go_meet
      case rel => exact ⟨_, (true), wy5, H', ⟨(by have := HJ8.out; first | omega | exact Nat.le_refl _)⟩, ⟨(xyr HO_6.out)⟩, ⟨(xyr HO_9.out)⟩, ⟨(xyo HB.out)⟩⟩
     rw [if_neg c32] at H
     have c32b0 : decide (t353 < 0) = false := decide_eq_false c32
     clear c32
     (first | rw [c32b0] | (simp only [i64_w, i32_w]; rw [c32b0]) | skip)
     replace H := Option.bind_eq_some_iff.mp H
     obtain ⟨t355, A330, H⟩ := H
     replace H : (if t355 = true then (laws_FnExactPairedLines.j1 kj8 a0 l1 t337 t338 t344 (t345 != t338)) else (laws_FnExactPairedLines.j1 kj8 a0 l1 t337 t338 t344 true)) = some r := H
     have A33 := Aside0.mk A330
     clear A330
     by_cases c34 : t355 = true
     ·subst c34
      have H1 : (laws_FnExactPairedLines.j1 kj8 a0 l1 t337 t338 t344 (t345 != t338)) = some r := by rw [if_pos rfl] at H; exact H
      clear H
      have H := H1
      clear H1
      have H' := Aside0.mk H
      clear H
      obtain ⟨Ao35, co35, eo35⟩ := Kd.R_slice HO_9.out
      subst eo35
      obtain ⟨Ao36, co36, eo36⟩ := Kd.R_slice HO_6.out
      subst eo36
      go_wp2_with (first | (go_at_call 20; (with_reducible refine (laws_eqInt64S.calls kj8 _ _ t344 _ _ t337 true _ ?side1 ?side2 ?side3 ?side4 A33.out).mono ?_); (case side1 => repeat (first | exact (Kd.R_reads' HO_9.out).2.2 | (with_reducible refine Kd.C_alloc ?_ _) | (with_reducible refine Kd.C_drewN ?_ _) | (with_reducible refine Kd.C_drew ?_))); (case side2 => exact (Kd.R_reads' HO_9.out).2.1); (case side3 => repeat (first | exact (Kd.R_reads' HO_6.out).2.2 | (with_reducible refine Kd.C_alloc ?_ _) | (with_reducible refine Kd.C_drewN ?_ _) | (with_reducible refine Kd.C_drew ?_))); (case side4 => exact (Kd.R_reads' HO_6.out).2.1); rintro e w' ⟨rfl, ⟨nd, rfl⟩⟩))
      go_meet
      case rel => exact ⟨_, ((t345 != t338)), wy5, H', ⟨(by have := HJ8.out; first | omega | exact Nat.le_refl _)⟩, ⟨(xyr HO_6.out)⟩, ⟨(xyr HO_9.out)⟩, ⟨(xyo HB.out)⟩⟩
     replace c34 := Bool.eq_false_iff.mpr c34
     subst c34
     have H1 : (laws_FnExactPairedLines.j1 kj8 a0 l1 t337 t338 t344 true) = some r := by rw [if_neg (show ¬ (false = true) by decide)] at H; exact H
     clear H
     have H := H1
     clear H1
     have H' := Aside0.mk H
     clear H
     obtain ⟨Ao37, co37, eo37⟩ := Kd.R_slice HO_9.out
     subst eo37
     obtain ⟨Ao38, co38, eo38⟩ := Kd.R_slice HO_6.out
     subst eo38
     go_wp2_with (first | (go_at_call 20; (with_reducible refine (laws_eqInt64S.calls kj8 _ _ t344 _ _ t337 false _ ?side1 ?side2 ?side3 ?side4 A33.out).mono ?_); (case side1 => repeat (first | exact (Kd.R_reads' HO_9.out).2.2 | (with_reducible refine Kd.C_alloc ?_ _) | (with_reducible refine Kd.C_drewN ?_ _) | (with_reducible refine Kd.C_drew ?_))); (case side2 => exact (Kd.R_reads' HO_9.out).2.1); (case side3 => repeat (first | exact (Kd.R_reads' HO_6.out).2.2 | (with_reducible refine Kd.C_alloc ?_ _) | (with_reducible refine Kd.C_drewN ?_ _) | (with_reducible refine Kd.C_drew ?_))); (case side4 => exact (Kd.R_reads' HO_6.out).2.1); rintro e w' ⟨rfl, ⟨nd, rfl⟩⟩))
     go_meet
     case rel => exact ⟨_, (true), wy5, H', ⟨(by have := HJ8.out; first | omega | exact Nat.le_refl _)⟩, ⟨(xyr HO_6.out)⟩, ⟨(xyr HO_9.out)⟩, ⟨(xyo HB.out)⟩⟩
    case rest =>
     clear HC27
     try clear c1
     try clear c2
     try clear p2
     try clear c3
     try clear c4
     try clear c4b0
     try clear c13
     try clear c15
     try clear c17
     try clear c18
     try clear c19
     try clear c20
     try clear c21
     try clear c22
     try clear c25
     try clear c32
     try clear c32b0
     try clear c34
     try clear p2
     obtain ⟨kq, x65_26, rfl, HA, HJ26, HO_6, HO_9, HB⟩ := hcut
     cases kq with
     | zero => exact absurd HA.out (by simp [laws_FnExactPairedLines.j1])
     | succ kj26 =>
      have H := HA.out
      clear HA
      simp only [laws_FnExactPairedLines.j1] at H
      by_cases c39 : x65_26 = true
      ·subst c39
       have H1 : (some false) = some r := by rw [if_pos rfl] at H; exact H
       clear H
       have H := H1
       clear H1
       obtain rfl := Option.some.inj H
       go_wp2
       go_ret
       exact ⟨wy3, (xyo HB.out)⟩
      replace c39 := Bool.eq_false_iff.mpr c39
      subst c39
      have H1 : ((laws_markInt64S.f kj26 t344 1).bind fun bt356 => ((laws_heldInt64S.f kj26 bt356.2 1).bind fun t358 => (if t358 < 0 then (some false) else (if t358 = bt356.1 then ((laws_toLineS.f kj26 l1).bind fun t359 => ((impl_PairedLines.f kj26 a0 t359).bind fun bt362 => ((laws_eqInt64S.f kj26 bt362.1 t337).bind fun t366 => (if t366 = true then (laws_FnExactPairedLines.j2 kj26 bt356.2 bt356.1 (bt362.2 != t338)) else (laws_FnExactPairedLines.j2 kj26 bt356.2 bt356.1 true))))) else (some false))))) = some r := by rw [if_neg (show ¬ (false = true) by decide)] at H; exact H
      clear H
      have H := H1
      clear H1
      replace H := Option.bind_eq_some_iff.mp H
      obtain ⟨⟨t356, t357⟩, A400, H⟩ := H
      replace H : ((laws_heldInt64S.f kj26 t357 1).bind fun t358 => (if t358 < 0 then (some false) else (if t358 = t356 then ((laws_toLineS.f kj26 l1).bind fun t359 => ((impl_PairedLines.f kj26 a0 t359).bind fun bt362 => ((laws_eqInt64S.f kj26 bt362.1 t337).bind fun t366 => (if t366 = true then (laws_FnExactPairedLines.j2 kj26 t357 t356 (bt362.2 != t338)) else (laws_FnExactPairedLines.j2 kj26 t357 t356 true))))) else (some false)))) = some r := H
      have A40 := Aside0.mk A400
      clear A400
      replace H := Option.bind_eq_some_iff.mp H
      obtain ⟨t358, A410, H⟩ := H
      replace H : (if t358 < 0 then (some false) else (if t358 = t356 then ((laws_toLineS.f kj26 l1).bind fun t359 => ((impl_PairedLines.f kj26 a0 t359).bind fun bt362 => ((laws_eqInt64S.f kj26 bt362.1 t337).bind fun t366 => (if t366 = true then (laws_FnExactPairedLines.j2 kj26 t357 t356 (bt362.2 != t338)) else (laws_FnExactPairedLines.j2 kj26 t357 t356 true))))) else (some false))) = some r := H
      have A41 := Aside0.mk A410
      clear A410
      by_cases c42 : t358 < 0
      ·rw [if_pos c42] at H
       have c42b0 : decide (t358 < 0) = true := decide_eq_true c42
       clear c42
       obtain rfl := Option.some.inj H
       obtain ⟨Ao43, co43, eo43⟩ := Kd.R_slice HO_9.out
       subst eo43
       go_wp2_with (first | ((with_reducible refine gate_callee (f := 22) rfl ?_); refine goesL_ (some 68) rfl rfl Try.func22 (by kernel_rfl) rfl #[.slice Ao43 t344.length co43, .int .i64 1] rfl wy2 ?_; (with_reducible refine (laws_markInt64S.calls kj26 (fun k_ => some k_ = (.slice Ao43 t344.length co43 : Value).ownBlock) (.slice Ao43 t344.length co43) t344 1 t356 t357 w _ ?side1 ?side2 A40.out).mono ?_); (case side1 => repeat (first | (with_reducible first | exact HB.out | apply below_alloc | apply pw_below_drewN | apply below_drew1) | exact HB.out)); (case side2 => exact Kd.R_tight rfl HO_9.out); rintro e w44 ⟨rfl, hy0, hb, hkp⟩; refine ⟨_, rfl, ?_⟩; replace HO_6 := Aside0.mk (Kd.R_mono (ok' := fun k_ => some k_ ≠ (.slice Ao43 t344.length co43 : Value).ownBlock) (Kd.R_keptB (HO_6.out) hkp (fun k_ hk_ hs_ => (hk_) hs_)) (fun k_ hk_ => hk_.1)); replace HO_9 := Aside0.mk (Kd.R_reok rfl hy0 (fun k_ e_ => HO_9.out.1 k_ e_)); replace HB := Aside0.mk (hb); (try clear hb); (try clear hkp); (try clear hy0)) | ((with_reducible refine gate_callee (f := 23) rfl ?_); refine goesL_ (some 71) rfl rfl Try.func23 (by kernel_rfl) rfl #[.slice Ao43 t357.length co43, .int .i64 1] rfl wy35 ?_; (with_reducible refine (laws_heldInt64S.calls kj26 _ _ t357 1 t358 _ ?side1 ?side2 A41.out).mono ?_); (case side1 => repeat (first | exact (Kd.R_reads' HO_9.out).2.2 | (with_reducible refine Kd.C_alloc ?_ _) | (with_reducible refine Kd.C_drewN ?_ _) | (with_reducible refine Kd.C_drew ?_))); (case side2 => rw [show t357.length = t344.length from (Kd.R_reads' HO_9.out).1.symm]; exact (Kd.R_reads' HO_9.out).2.1); rintro e w' ⟨rfl, ⟨nd, rfl⟩⟩; refine ⟨_, rfl, ?_⟩))
       go_ret
       exact ⟨wy3, (xyo HB.out)⟩
      rw [if_neg c42] at H
      have c42b0 : decide (t358 < 0) = false := decide_eq_false c42
      clear c42
      by_cases c45 : t358 = t356
      ·rw [if_pos c45] at H
       have c45b0 : (t358 == t356) = true := beq_iff_eq.mpr c45
       have c45b1 : (t358 != t356) = false := bne_eq_false_iff_eq.mpr c45
       clear c45
       replace H := Option.bind_eq_some_iff.mp H
       obtain ⟨t359, A460, H⟩ := H
       replace H : ((impl_PairedLines.f kj26 a0 t359).bind fun bt362 => ((laws_eqInt64S.f kj26 bt362.1 t337).bind fun t366 => (if t366 = true then (laws_FnExactPairedLines.j2 kj26 t357 t356 (bt362.2 != t338)) else (laws_FnExactPairedLines.j2 kj26 t357 t356 true)))) = some r := H
       have A46 := Aside0.mk A460
       clear A460
       replace H := Option.bind_eq_some_iff.mp H
       obtain ⟨⟨t362, t363⟩, A470, H⟩ := H
       replace H : ((laws_eqInt64S.f kj26 t362 t337).bind fun t366 => (if t366 = true then (laws_FnExactPairedLines.j2 kj26 t357 t356 (t363 != t338)) else (laws_FnExactPairedLines.j2 kj26 t357 t356 true))) = some r := H
       have A47 := Aside0.mk A470
       clear A470
       have HC48 := Aside0.mk H
       clear H
       obtain ⟨Ao49, co49, eo49⟩ := Kd.R_slice HO_9.out
       subst eo49
       go_upto_region 25 with (first | ((with_reducible refine gate_callee (f := 22) rfl ?_); refine goesL_ (some 68) rfl rfl Try.func22 (by kernel_rfl) rfl #[.slice Ao49 t344.length co49, .int .i64 1] rfl wy2 ?_; (with_reducible refine (laws_markInt64S.calls kj26 (fun k_ => some k_ = (.slice Ao49 t344.length co49 : Value).ownBlock) (.slice Ao49 t344.length co49) t344 1 t356 t357 w _ ?side1 ?side2 A40.out).mono ?_); (case side1 => repeat (first | (with_reducible first | exact HB.out | apply below_alloc | apply pw_below_drewN | apply below_drew1) | exact HB.out)); (case side2 => exact Kd.R_tight rfl HO_9.out); rintro e w50 ⟨rfl, hy0, hb, hkp⟩; refine ⟨_, rfl, ?_⟩; replace HO_6 := Aside0.mk (Kd.R_mono (ok' := fun k_ => some k_ ≠ (.slice Ao49 t344.length co49 : Value).ownBlock) (Kd.R_keptB (HO_6.out) hkp (fun k_ hk_ hs_ => (hk_) hs_)) (fun k_ hk_ => hk_.1)); replace HO_9 := Aside0.mk (Kd.R_reok rfl hy0 (fun k_ e_ => HO_9.out.1 k_ e_)); replace HB := Aside0.mk (hb); (try clear hb); (try clear hkp); (try clear hy0)) | ((with_reducible refine gate_callee (f := 23) rfl ?_); refine goesL_ (some 71) rfl rfl Try.func23 (by kernel_rfl) rfl #[.slice Ao49 t357.length co49, .int .i64 1] rfl wy35 ?_; (with_reducible refine (laws_heldInt64S.calls kj26 _ _ t357 1 t358 _ ?side1 ?side2 A41.out).mono ?_); (case side1 => repeat (first | exact (Kd.R_reads' HO_9.out).2.2 | (with_reducible refine Kd.C_alloc ?_ _) | (with_reducible refine Kd.C_drewN ?_ _) | (with_reducible refine Kd.C_drew ?_))); (case side2 => rw [show t357.length = t344.length from (Kd.R_reads' HO_9.out).1.symm]; exact (Kd.R_reads' HO_9.out).2.1); rintro e w' ⟨rfl, ⟨nd, rfl⟩⟩; refine ⟨_, rfl, ?_⟩) | ((with_reducible refine gate_callee (f := 15) rfl ?_); refine goesL_ (some 80) rfl rfl Try.func15 (by kernel_rfl) rfl #[.slice A1 l1.length c1] rfl wy2 ?_; (with_reducible refine (laws_toLineS.calls kj26 _ _ l1 t359 _ ?side1 ?side2 A46.out).mono ?_); (case side1 => repeat (first | exact (Kd.C_below HR1.out (xyo HB.out)) | (with_reducible refine Kd.C_alloc ?_ _) | (with_reducible refine Kd.C_drewN ?_ _) | (with_reducible refine Kd.C_drew ?_))); (case side2 => exact HC1.out); rintro e w51 ⟨v360, rfl, ho0, hb⟩; refine ⟨_, rfl, ?_⟩; replace HO_6 := Aside0.mk (Kd.R_below (xyr HO_6.out) hb); replace HO_9 := Aside0.mk (Kd.R_below (xyr HO_9.out) hb); have HO361 := Aside0.mk (Kd.R_lower ho0 (below_size (xyo HB.out))); replace HB := Aside0.mk (below_step (xyo HB.out) hb); (try clear hb); (try clear hb2); (try clear hk); (try clear hi); (try clear ho0); obtain ⟨Ao52, co52, eo52⟩ := Kd.R_slice HO361.out; subst eo52) | ((with_reducible refine gate_callee (f := 19) rfl ?_); refine goesL_ (some 81) rfl rfl Try.func19 (by kernel_rfl) rfl #[.int .i64 a0, .slice Ao52 t359.length co52] rfl wy2 ?_; (with_reducible refine (impl_PairedLines.calls kj26 a0 _ _ t359 t362 t363 _ ?side1 ?side2 A47.out).mono ?_); (case side1 => repeat (first | exact (Kd.R_reads' HO361.out).2.2 | (with_reducible refine Kd.C_alloc ?_ _) | (with_reducible refine Kd.C_drewN ?_ _) | (with_reducible refine Kd.C_drew ?_))); (case side2 => exact (Kd.R_reads' HO361.out).2.1); rintro e w53 ⟨v364, rfl, ho0, hb⟩; refine ⟨_, rfl, ?_⟩; replace HO361 := Aside0.mk (Kd.R_below (xyr HO361.out) hb); have HO365 := Aside0.mk (Kd.R_lower (Kd.R_new' (Kd.R_new' ho0 (Kd.R_lt (xyr HO_6.out))) (Kd.R_lt (xyr HO_9.out))) (below_size (xyo HB.out))); replace HO_6 := Aside0.mk (Kd.R_elder' (xyr HO_6.out) (Kd.R_base ho0) hb); replace HO_9 := Aside0.mk (Kd.R_elder' (xyr HO_9.out) (Kd.R_base ho0) hb); replace HB := Aside0.mk (below_step (xyo HB.out) hb); (try clear hb); (try clear hb2); (try clear hk); (try clear hi); (try clear ho0)))
       (try simp only [Act.put, List.setIfInBounds_toArray, List.set_cons_zero, List.set_cons_succ])
       go_cut [92] (fun v92 wc => ∃ (kq : Nat) (x92_47 : Bool), v92 = .bool x92_47 ∧ Aside0 (laws_FnExactPairedLines.j2 kq t357 t356 x92_47 = some r) ∧ Aside0 (kq ≤ kj26) ∧ Aside0 (Kd.R (Kd.int .i64) 2 wc w.heap.size (fun _ => True) (.slice Ao49 t344.length co49) t357) ∧ Aside0 (Below w.heap.size w wc))
       case first =>
        have H := HC48.out
        clear HC48
        replace H := Option.bind_eq_some_iff.mp H
        obtain ⟨t366, A540, H⟩ := H
        replace H : (if t366 = true then (laws_FnExactPairedLines.j2 kj26 t357 t356 (t363 != t338)) else (laws_FnExactPairedLines.j2 kj26 t357 t356 true)) = some r := H
        have A54 := Aside0.mk A540
        clear A540
        by_cases c55 : t366 = true
        ·subst c55
         have H1 : (laws_FnExactPairedLines.j2 kj26 t357 t356 (t363 != t338)) = some r := by rw [if_pos rfl] at H; exact H
         clear H
         have H := H1
         clear H1
         have H' := Aside0.mk H
         clear H
         obtain ⟨Ao56, co56, eo56⟩ := Kd.R_slice HO365.out
         subst eo56
         obtain ⟨Ao57, co57, eo57⟩ := Kd.R_slice HO_6.out
         subst eo57
         go_wp2_with (first | ((with_reducible refine gate_callee (f := 20) rfl ?_); refine goesL_ (some 86) rfl rfl Try.func20 (by kernel_rfl) rfl #[.slice Ao56 t362.length co56, .slice Ao57 t337.length co57] rfl wy2 ?_; (with_reducible refine (laws_eqInt64S.calls kj26 _ _ t362 _ _ t337 true _ ?side1 ?side2 ?side3 ?side4 A54.out).mono ?_); (case side1 => repeat (first | exact (Kd.R_reads' HO365.out).2.2 | (with_reducible refine Kd.C_alloc ?_ _) | (with_reducible refine Kd.C_drewN ?_ _) | (with_reducible refine Kd.C_drew ?_))); (case side2 => exact (Kd.R_reads' HO365.out).2.1); (case side3 => repeat (first | exact (Kd.R_reads' HO_6.out).2.2 | (with_reducible refine Kd.C_alloc ?_ _) | (with_reducible refine Kd.C_drewN ?_ _) | (with_reducible refine Kd.C_drew ?_))); (case side4 => exact (Kd.R_reads' HO_6.out).2.1); rintro e w' ⟨rfl, ⟨nd, rfl⟩⟩; refine ⟨_, rfl, ?_⟩))
         go_meet
         case rel => exact ⟨_, ((t363 != t338)), wy5, H', ⟨(by have := HJ8.out; have := HJ26.out; first | omega | exact Nat.le_refl _)⟩, ⟨(by (with_reducible repeat (first | apply Kd.R_alloc | apply Kd.R_drewN | apply Kd.R_drew)); exact Kd.R_mono HO_9.out (fun _ hk => trivial))⟩, ⟨(xyo HB.out)⟩⟩
        replace c55 := Bool.eq_false_iff.mpr c55
        subst c55
        have H1 : (laws_FnExactPairedLines.j2 kj26 t357 t356 true) = some r := by rw [if_neg (show ¬ (false = true) by decide)] at H; exact H
        clear H
        have H := H1
        clear H1
        have H' := Aside0.mk H
        clear H
        obtain ⟨Ao58, co58, eo58⟩ := Kd.R_slice HO365.out
        subst eo58
        obtain ⟨Ao59, co59, eo59⟩ := Kd.R_slice HO_6.out
        subst eo59
        go_wp2_with (first | ((with_reducible refine gate_callee (f := 20) rfl ?_); refine goesL_ (some 86) rfl rfl Try.func20 (by kernel_rfl) rfl #[.slice Ao58 t362.length co58, .slice Ao59 t337.length co59] rfl wy2 ?_; (with_reducible refine (laws_eqInt64S.calls kj26 _ _ t362 _ _ t337 false _ ?side1 ?side2 ?side3 ?side4 A54.out).mono ?_); (case side1 => repeat (first | exact (Kd.R_reads' HO365.out).2.2 | (with_reducible refine Kd.C_alloc ?_ _) | (with_reducible refine Kd.C_drewN ?_ _) | (with_reducible refine Kd.C_drew ?_))); (case side2 => exact (Kd.R_reads' HO365.out).2.1); (case side3 => repeat (first | exact (Kd.R_reads' HO_6.out).2.2 | (with_reducible refine Kd.C_alloc ?_ _) | (with_reducible refine Kd.C_drewN ?_ _) | (with_reducible refine Kd.C_drew ?_))); (case side4 => exact (Kd.R_reads' HO_6.out).2.1); rintro e w' ⟨rfl, ⟨nd, rfl⟩⟩; refine ⟨_, rfl, ?_⟩))
        go_meet
        case rel => exact ⟨_, (true), wy5, H', ⟨(by have := HJ8.out; have := HJ26.out; first | omega | exact Nat.le_refl _)⟩, ⟨(by (with_reducible repeat (first | apply Kd.R_alloc | apply Kd.R_drewN | apply Kd.R_drew)); exact Kd.R_mono HO_9.out (fun _ hk => trivial))⟩, ⟨(xyo HB.out)⟩⟩
       case rest =>
        clear HC48
        try clear c1
        try clear c2
        try clear p2
        try clear c3
        try clear c4
        try clear c4b0
        try clear c5
        try clear c13
        try clear c15
        try clear c17
        try clear c18
        try clear c19
        try clear c20
        try clear c21
        try clear c22
        try clear c23
        try clear c25
        try clear c32
        try clear c32b0
        try clear c34
        try clear c39
        try clear c42
        try clear c42b0
        try clear c45
        try clear c45b0
        try clear c45b1
        try clear c55
        try clear p2
        obtain ⟨kq, x92_47, rfl, HA, HJ47, HO_9, HB⟩ := hcut
        have hl9_47 := (Kd.R_reads' HO_9.out).1
        rw [hl9_47] at HO_9
        (try simp only [hl9_47])
        cases kq with
        | zero => exact absurd HA.out (by simp [laws_FnExactPairedLines.j2])
        | succ kj47 =>
         have H := HA.out
         clear HA
         simp only [laws_FnExactPairedLines.j2] at H
         by_cases c60 : x92_47 = true
         ·subst c60
          have H1 : (some false) = some r := by rw [if_pos rfl] at H; exact H
          clear H
          have H := H1
          clear H1
          obtain rfl := Option.some.inj H
          go_wp2
          go_ret
          exact ⟨wy3, (xyo HB.out)⟩
         replace c60 := Bool.eq_false_iff.mpr c60
         subst c60
         have H1 : ((laws_heldInt64S.f kj47 t357 1).bind fun t367 => (if t367 < 0 then (some false) else (if t367 = t356 then (some true) else (some false)))) = some r := by rw [if_neg (show ¬ (false = true) by decide)] at H; exact H
         clear H
         have H := H1
         clear H1
         replace H := Option.bind_eq_some_iff.mp H
         obtain ⟨t367, A610, H⟩ := H
         replace H : (if t367 < 0 then (some false) else (if t367 = t356 then (some true) else (some false))) = some r := H
         have A61 := Aside0.mk A610
         clear A610
         by_cases c62 : t367 < 0
         ·rw [if_pos c62] at H
          have c62b0 : decide (t367 < 0) = true := decide_eq_true c62
          clear c62
          obtain rfl := Option.some.inj H
          go_wp2_with (first | ((with_reducible refine gate_callee (f := 23) rfl ?_); refine goesL_ (some 95) rfl rfl Try.func23 (by kernel_rfl) rfl #[.slice Ao49 t357.length co49, .int .i64 1] rfl wy2 ?_; (with_reducible refine (laws_heldInt64S.calls kj47 _ _ t357 1 t367 _ ?side1 ?side2 A61.out).mono ?_); (case side1 => repeat (first | exact (Kd.R_reads' HO_9.out).2.2 | (with_reducible refine Kd.C_alloc ?_ _) | (with_reducible refine Kd.C_drewN ?_ _) | (with_reducible refine Kd.C_drew ?_))); (case side2 => exact (Kd.R_reads' HO_9.out).2.1); rintro e w' ⟨rfl, ⟨nd, rfl⟩⟩; refine ⟨_, rfl, ?_⟩))
          go_ret
          exact ⟨wy3, (xyo HB.out)⟩
         rw [if_neg c62] at H
         have c62b0 : decide (t367 < 0) = false := decide_eq_false c62
         clear c62
         by_cases c63 : t367 = t356
         ·rw [if_pos c63] at H
          have c63b0 : (t367 == t356) = true := beq_iff_eq.mpr c63
          have c63b1 : (t367 != t356) = false := bne_eq_false_iff_eq.mpr c63
          clear c63
          obtain rfl := Option.some.inj H
          go_wp2_with (first | ((with_reducible refine gate_callee (f := 23) rfl ?_); refine goesL_ (some 95) rfl rfl Try.func23 (by kernel_rfl) rfl #[.slice Ao49 t357.length co49, .int .i64 1] rfl wy2 ?_; (with_reducible refine (laws_heldInt64S.calls kj47 _ _ t357 1 t367 _ ?side1 ?side2 A61.out).mono ?_); (case side1 => repeat (first | exact (Kd.R_reads' HO_9.out).2.2 | (with_reducible refine Kd.C_alloc ?_ _) | (with_reducible refine Kd.C_drewN ?_ _) | (with_reducible refine Kd.C_drew ?_))); (case side2 => exact (Kd.R_reads' HO_9.out).2.1); rintro e w' ⟨rfl, ⟨nd, rfl⟩⟩; refine ⟨_, rfl, ?_⟩))
          go_ret
          exact ⟨wy3, (xyo HB.out)⟩
         rw [if_neg c63] at H
         have c63b0 : (t367 == t356) = false := beq_eq_false_iff_ne.mpr c63
         have c63b1 : (t367 != t356) = true := bne_iff_ne.mpr c63
         obtain rfl := Option.some.inj H
         go_wp2_with (first | ((with_reducible refine gate_callee (f := 23) rfl ?_); refine goesL_ (some 95) rfl rfl Try.func23 (by kernel_rfl) rfl #[.slice Ao49 t357.length co49, .int .i64 1] rfl wy2 ?_; (with_reducible refine (laws_heldInt64S.calls kj47 _ _ t357 1 t367 _ ?side1 ?side2 A61.out).mono ?_); (case side1 => repeat (first | exact (Kd.R_reads' HO_9.out).2.2 | (with_reducible refine Kd.C_alloc ?_ _) | (with_reducible refine Kd.C_drewN ?_ _) | (with_reducible refine Kd.C_drew ?_))); (case side2 => exact (Kd.R_reads' HO_9.out).2.1); rintro e w' ⟨rfl, ⟨nd, rfl⟩⟩; refine ⟨_, rfl, ?_⟩))
         go_ret
         exact ⟨wy3, (xyo HB.out)⟩
      rw [if_neg c45] at H
      have c45b0 : (t358 == t356) = false := beq_eq_false_iff_ne.mpr c45
      have c45b1 : (t358 != t356) = true := bne_iff_ne.mpr c45
      obtain rfl := Option.some.inj H
      obtain ⟨Ao64, co64, eo64⟩ := Kd.R_slice HO_9.out
      subst eo64
      go_wp2_with (first | ((with_reducible refine gate_callee (f := 22) rfl ?_); refine goesL_ (some 68) rfl rfl Try.func22 (by kernel_rfl) rfl #[.slice Ao64 t344.length co64, .int .i64 1] rfl wy2 ?_; (with_reducible refine (laws_markInt64S.calls kj26 (fun k_ => some k_ = (.slice Ao64 t344.length co64 : Value).ownBlock) (.slice Ao64 t344.length co64) t344 1 t356 t357 w _ ?side1 ?side2 A40.out).mono ?_); (case side1 => repeat (first | (with_reducible first | exact HB.out | apply below_alloc | apply pw_below_drewN | apply below_drew1) | exact HB.out)); (case side2 => exact Kd.R_tight rfl HO_9.out); rintro e w65 ⟨rfl, hy0, hb, hkp⟩; refine ⟨_, rfl, ?_⟩; replace HO_6 := Aside0.mk (Kd.R_mono (ok' := fun k_ => some k_ ≠ (.slice Ao64 t344.length co64 : Value).ownBlock) (Kd.R_keptB (HO_6.out) hkp (fun k_ hk_ hs_ => (hk_) hs_)) (fun k_ hk_ => hk_.1)); replace HO_9 := Aside0.mk (Kd.R_reok rfl hy0 (fun k_ e_ => HO_9.out.1 k_ e_)); replace HB := Aside0.mk (hb); (try clear hb); (try clear hkp); (try clear hy0)) | ((with_reducible refine gate_callee (f := 23) rfl ?_); refine goesL_ (some 71) rfl rfl Try.func23 (by kernel_rfl) rfl #[.slice Ao64 t357.length co64, .int .i64 1] rfl wy35 ?_; (with_reducible refine (laws_heldInt64S.calls kj26 _ _ t357 1 t358 _ ?side1 ?side2 A41.out).mono ?_); (case side1 => repeat (first | exact (Kd.R_reads' HO_9.out).2.2 | (with_reducible refine Kd.C_alloc ?_ _) | (with_reducible refine Kd.C_drewN ?_ _) | (with_reducible refine Kd.C_drew ?_))); (case side2 => rw [show t357.length = t344.length from (Kd.R_reads' HO_9.out).1.symm]; exact (Kd.R_reads' HO_9.out).2.1); rintro e w' ⟨rfl, ⟨nd, rfl⟩⟩; refine ⟨_, rfl, ?_⟩))
      go_ret
      exact ⟨wy3, (xyo HB.out)⟩
   replace c25 := Bool.eq_false_iff.mpr c25
   subst c25
   have H1 : (some false) = some r := by rw [if_neg (show ¬ (false = true) by decide)] at H; exact H
   clear H
   have H := H1
   clear H1
   obtain rfl := Option.some.inj H
   go_wp2_with (first | ((with_reducible refine gate_callee (f := 15) rfl ?_); refine goesL_ (some 47) rfl rfl Try.func15 (by kernel_rfl) rfl #[.slice A1 l1.length c1] rfl wy2 ?_; (with_reducible refine (laws_toLineS.calls kj8 _ _ l1 t349 _ ?side1 ?side2 A23.out).mono ?_); (case side1 => repeat (first | exact (Kd.C_below HR1.out HB.out) | (with_reducible refine Kd.C_alloc ?_ _) | (with_reducible refine Kd.C_drewN ?_ _) | (with_reducible refine Kd.C_drew ?_))); (case side2 => exact HC1.out); rintro e w66 ⟨v350, rfl, ho0, hb⟩; refine ⟨_, rfl, ?_⟩; replace HO_6 := Aside0.mk (Kd.R_below (xyr HO_6.out) hb); replace HO_9 := Aside0.mk (Kd.R_below (xyr HO_9.out) hb); have HO351 := Aside0.mk (Kd.R_lower (Kd.R_new' ho0 (Kd.R_lt (xyr HO_8.out))) (below_size (xyo HB.out))); replace HO_8 := Aside0.mk (Kd.R_elder' (xyr HO_8.out) (Kd.R_base ho0) hb); replace HB := Aside0.mk (below_step (xyo HB.out) hb); (try clear hb); (try clear hb2); (try clear hk); (try clear hi); (try clear ho0); obtain ⟨Ao67, co67, eo67⟩ := Kd.R_slice HO351.out; subst eo67) | ((with_reducible refine gate_callee (f := 17) rfl ?_); refine goesL_ (some 48) rfl rfl Try.func17 (by kernel_rfl) rfl #[.slice Ao14 t341.length co14, .slice Ao67 t349.length co67] rfl wy2 ?_; (with_reducible refine (laws_eqLineS.calls kj8 _ _ t341 _ _ t349 false _ ?side1 ?side2 ?side3 ?side4 A24.out).mono ?_); (case side1 => repeat (first | exact (Kd.R_reads' HO_8.out).2.2 | (with_reducible refine Kd.C_alloc ?_ _) | (with_reducible refine Kd.C_drewN ?_ _) | (with_reducible refine Kd.C_drew ?_))); (case side2 => exact (Kd.R_reads' HO_8.out).2.1); (case side3 => repeat (first | exact (Kd.R_reads' HO351.out).2.2 | (with_reducible refine Kd.C_alloc ?_ _) | (with_reducible refine Kd.C_drewN ?_ _) | (with_reducible refine Kd.C_drew ?_))); (case side4 => exact (Kd.R_reads' HO351.out).2.1); rintro e w68 ⟨rfl, hb⟩; refine ⟨_, rfl, ?_⟩; replace HO_6 := Aside0.mk (Kd.R_below (xyr HO_6.out) hb); replace HO_8 := Aside0.mk (Kd.R_below (xyr HO_8.out) hb); replace HO_9 := Aside0.mk (Kd.R_below (xyr HO_9.out) hb); replace HO351 := Aside0.mk (Kd.R_below (xyr HO351.out) hb); replace HB := Aside0.mk (below_step (xyo HB.out) hb); (try clear hb); (try clear hb2); (try clear hk); (try clear hi)))
   go_ret
   exact ⟨wy3, (xyo HB.out)⟩

/-- THE ONE PURE STATEMENT of laws_FnExactPairedLines: yours. -/
def laws_FnExactPairedLines.Pure : Prop := ∀ (a0 : Int) (l1 : List (S65)), (Lit.int .i64 a0).wf = true → (fun l : List (S65) => l.length ≤ maxLen ∧ ∀ x ∈ l, (fun y : S65 => (fun x : Int => (Lit.int .i64 x).wf = true) y.f0 ∧ (fun x : Int => (Lit.int .i64 x).wf = true) y.f1 ∧ (fun x : Int => (Lit.int .i64 x).wf = true) y.f2 ∧ (fun x : Int => (Lit.int .i64 x).wf = true) y.f3 ∧ (fun x : Int => (Lit.int .i64 x).wf = true) y.f4) x) l1 → ∃ k, laws_FnExactPairedLines.f k a0 l1 = some true
theorem laws_FnExactPairedLines.walk (P : laws_FnExactPairedLines.Pure) (a0 : Int) (A1 : Option Addr) (c1 : Nat) (l1 : List (S65)) (w : World) (w0 : (Lit.int .i64 a0).wf = true) (hr1 : Kd.C k65 w A1 l1.length l1) (hc1 : l1.length ≤ c1) (w1 : (fun l : List (S65) => l.length ≤ maxLen ∧ ∀ x ∈ l, (fun y : S65 => (fun x : Int => (Lit.int .i64 x).wf = true) y.f0 ∧ (fun x : Int => (Lit.int .i64 x).wf = true) y.f1 ∧ (fun x : Int => (Lit.int .i64 x).wf = true) y.f2 ∧ (fun x : Int => (Lit.int .i64 x).wf = true) y.f3 ∧ (fun x : Int => (Lit.int .i64 x).wf = true) y.f4) x) l1) :
  Calls Try.prog 4 #[.int .i64 a0, .slice A1 l1.length c1] w fun e w' => e = .returned (.bool true) ∧ Below w.heap.size w w' := by
 obtain ⟨k, h⟩ := P a0 l1 w0 w1
 refine (laws_FnExactPairedLines.calls k a0 A1 c1 l1 true w hr1 hc1 h).mono ?_
 rintro e w' ⟨rfl, hd⟩
 exact ⟨rfl, hd⟩

end Go.Proofs.Ytheemkehedmlfaa.Y
