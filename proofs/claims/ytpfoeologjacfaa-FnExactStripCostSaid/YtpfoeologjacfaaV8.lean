-- Written by a program of this session (wip/tools) over the kit's print.
-- COMPACT
import Derived.Test.YtpfoeologjacfaaV0
import Derived.Test.YtpfoeologjacfaaV7
namespace Go.Proofs.Ytpfoeologjacfaa.V
open Go.RowKit Go.Proofs.YtpfoeologjacfaaW.PrintWords Go.Proofs.YtpfoeologjacfaaW.PrintLast Go.Proofs.YtpfoeologjacfaaW.PrintMore
attribute [local go_sem] max2_int min2_int max_two min_two max_three min_three max_four min_four   -- for this text's walks alone
set_option linter.unusedVariables false
set_option linter.unusedSimpArgs false

/-! ### impl_IsCommutative: function 86 -/
def impl_IsCommutative.f (a0 : Int) : Option (Bool) := if a0 = 0 then (some true) else (if a0 = 14 then (some true) else ((impl_within.f a0 2 11).bind fun t275 => (some t275)))
set_option maxHeartbeats 8000000 in
set_option maxRecDepth 100000 in
theorem impl_IsCommutative.calls (a0 : Int) (r : Bool) (w : World) (h : impl_IsCommutative.f a0 = some r) :
  Calls Try.prog 86 #[.int .i64 a0] w fun e w' => e = .returned (.bool r) ∧ Drawn0 w w' := by
 have H : (if a0 = 0 then (some true) else (if a0 = 14 then (some true) else ((impl_within.f a0 2 11).bind fun t275 => (some t275)))) = some r := h
 clear h
 by_cases c2 : a0 = 0
 ·rw [if_pos c2] at H
  have c2b0 : (a0 == 0) = true := beq_iff_eq.mpr c2
  have c2b1 : (a0 != 0) = false := bne_eq_false_iff_eq.mpr c2
  clear c2
  obtain rfl := Option.some.inj H
  go_enter Try.func86, Try.ntmps86
  go_wp2
  go_ret
  exact ⟨wv6, wv14⟩
 ·rw [if_neg c2] at H
  have c2b0 : (a0 == 0) = false := beq_eq_false_iff_ne.mpr c2
  have c2b1 : (a0 != 0) = true := bne_iff_ne.mpr c2
  by_cases c3 : a0 = 14
  ·rw [if_pos c3] at H
   have c3b0 : (a0 == 14) = true := beq_iff_eq.mpr c3
   have c3b1 : (a0 != 14) = false := bne_eq_false_iff_eq.mpr c3
   clear c3
   obtain rfl := Option.some.inj H
   go_enter Try.func86, Try.ntmps86
   go_wp2
   go_ret
   exact ⟨wv6, wv14⟩
  ·rw [if_neg c3] at H
   have c3b0 : (a0 == 14) = false := beq_eq_false_iff_ne.mpr c3
   have c3b1 : (a0 != 14) = true := bne_iff_ne.mpr c3
   replace H := Option.bind_eq_some_iff.mp H
   obtain ⟨t275, A40, H⟩ := H
   replace H : (some t275) = some r := H
   have A4 := Aside0.mk A40
   clear A40
   obtain rfl := Option.some.inj H
   go_enter Try.func86, Try.ntmps86
   go_wp2_with (first | (go_at_call 81; (with_reducible refine (impl_within.calls a0 2 11 t275 _ A4.out).mono ?_); rintro e w' ⟨rfl, ⟨nd, rfl⟩⟩))
   go_ret
   exact ⟨wv6, wv14⟩

/-! ### impl_IsAssociative: function 87 -/
def impl_IsAssociative.f (a0 : Int) : Option (Bool) := if a0 = 0 then (some true) else ((impl_within.f a0 2 10).bind fun t276 => (some t276))
set_option maxHeartbeats 8000000 in
set_option maxRecDepth 100000 in
theorem impl_IsAssociative.calls (a0 : Int) (r : Bool) (w : World) (h : impl_IsAssociative.f a0 = some r) :
  Calls Try.prog 87 #[.int .i64 a0] w fun e w' => e = .returned (.bool r) ∧ Drawn0 w w' := by
 have H : (if a0 = 0 then (some true) else ((impl_within.f a0 2 10).bind fun t276 => (some t276))) = some r := h
 clear h
 by_cases c2 : a0 = 0
 ·rw [if_pos c2] at H
  have c2b0 : (a0 == 0) = true := beq_iff_eq.mpr c2
  have c2b1 : (a0 != 0) = false := bne_eq_false_iff_eq.mpr c2
  clear c2
  obtain rfl := Option.some.inj H
  go_enter Try.func87, Try.ntmps87
  go_wp2
  go_ret
  exact ⟨wv6, wv14⟩
 ·rw [if_neg c2] at H
  have c2b0 : (a0 == 0) = false := beq_eq_false_iff_ne.mpr c2
  have c2b1 : (a0 != 0) = true := bne_iff_ne.mpr c2
  replace H := Option.bind_eq_some_iff.mp H
  obtain ⟨t276, A30, H⟩ := H
  replace H : (some t276) = some r := H
  have A3 := Aside0.mk A30
  clear A30
  obtain rfl := Option.some.inj H
  go_enter Try.func87, Try.ntmps87
  go_wp2_with (first | (go_at_call 81; (with_reducible refine (impl_within.calls a0 2 10 t276 _ A3.out).mono ?_); rintro e w' ⟨rfl, ⟨nd, rfl⟩⟩))
  go_ret
  exact ⟨wv6, wv14⟩

/-! ### impl_isFar: function 88 -/
def impl_isFar.f (a0 : Int) (a1 : Int) (a2 : Int) : Option (Bool) := if (wrap64 (a0 - a1)) ≤ 0 then (some true) else (some (decide ((wrap64 (a0 - a1)) ≥ a2)))
set_option maxHeartbeats 8000000 in
set_option maxRecDepth 100000 in
theorem impl_isFar.calls (a0 : Int) (a1 : Int) (a2 : Int) (r : Bool) (w : World) (h : impl_isFar.f a0 a1 a2 = some r) :
  Calls Try.prog 88 #[.int .i64 a0, .int .i64 a1, .int .i64 a2] w fun e w' => e = .returned (.bool r) ∧ Drawn0 w w' := by
 have H : (if (wrap64 (a0 - a1)) ≤ 0 then (some true) else (some (decide ((wrap64 (a0 - a1)) ≥ a2)))) = some r := h
 clear h
 by_cases c4 : (wrap64 (a0 - a1)) ≤ 0
 ·rw [if_pos c4] at H
  have c4b0 : decide ((wrap64 (a0 - a1)) ≤ 0) = true := decide_eq_true c4
  clear c4
  obtain rfl := Option.some.inj H
  go_enter Try.func88, Try.ntmps88
  go_wp2
  go_ret
  exact ⟨wv6, wv14⟩
 ·rw [if_neg c4] at H
  have c4b0 : decide ((wrap64 (a0 - a1)) ≤ 0) = false := decide_eq_false c4
  clear c4
  obtain rfl := Option.some.inj H
  go_enter Try.func88, Try.ntmps88
  go_wp2
  go_ret
  exact ⟨wv6, wv14⟩

/-! ### impl_areApart: function 89 -/
def impl_areApart.f (a0 : Int) (a1 : Int) (a2 : Int) : Option (Bool) := if (wrap64 (a0 + a2)) ≤ a1 then (some true) else (some (decide ((wrap64 (a1 + a2)) ≤ a0)))
set_option maxHeartbeats 8000000 in
set_option maxRecDepth 100000 in
theorem impl_areApart.calls (a0 : Int) (a1 : Int) (a2 : Int) (r : Bool) (w : World) (h : impl_areApart.f a0 a1 a2 = some r) :
  Calls Try.prog 89 #[.int .i64 a0, .int .i64 a1, .int .i64 a2] w fun e w' => e = .returned (.bool r) ∧ Drawn0 w w' := by
 have H : (if (wrap64 (a0 + a2)) ≤ a1 then (some true) else (some (decide ((wrap64 (a1 + a2)) ≤ a0)))) = some r := h
 clear h
 by_cases c4 : (wrap64 (a0 + a2)) ≤ a1
 ·rw [if_pos c4] at H
  have c4b0 : decide ((wrap64 (a0 + a2)) ≤ a1) = true := decide_eq_true c4
  clear c4
  obtain rfl := Option.some.inj H
  go_enter Try.func89, Try.ntmps89
  go_wp2
  go_ret
  exact ⟨wv6, wv14⟩
 ·rw [if_neg c4] at H
  have c4b0 : decide ((wrap64 (a0 + a2)) ≤ a1) = false := decide_eq_false c4
  clear c4
  obtain rfl := Option.some.inj H
  go_enter Try.func89, Try.ntmps89
  go_wp2
  go_ret
  exact ⟨wv6, wv14⟩

/-! ### impl_CanStrip: function 24 -/
mutual
def impl_CanStrip.j0 : Nat → Int → Bool → Int → Int → Int → Int → Int → Int → Int → Int → Option (Bool)
 | 0, _, _, _, _, _, _, _, _, _, _ => none
 | k + 1, x2, x19, x278000, x278001, x279000, x279001, x279002, x279003, x279004, x279005 => if x19 = true then (some false) else (if x279000 = 1 then (if x2 = 0 then ((impl_IsCommutative.f x279001).bind fun t282 => (if t282 = true then ((impl_IsAssociative.f x279001).bind fun t283 => (if t283 = true then (if x279003 ≤ x279002 then (some (!(decide (x279002 < (wrap64 (x279003 + x279005)))))) else (some (!false))) else (some false))) else (some false))) else (some false)) else ((impl_isFar.f x279002 x279003 x278000).bind fun t284 => (if t284 = true then ((impl_isFar.f x279002 x279004 x278000).bind fun t285 => (impl_CanStrip.j1 k x2 (!t285) x278000 x278001 x279000 x279001 x279002 x279003 x279004 x279005)) else (impl_CanStrip.j1 k x2 true x278000 x278001 x279000 x279001 x279002 x279003 x279004 x279005))))
def impl_CanStrip.j1 : Nat → Int → Bool → Int → Int → Int → Int → Int → Int → Int → Int → Option (Bool)
 | 0, _, _, _, _, _, _, _, _, _, _ => none
 | k + 1, x2, x70, x278000, x278001, x279000, x279001, x279002, x279003, x279004, x279005 => if x70 = true then (some false) else (if x2 = 2 then (if x279005 ≥ x278000 then ((impl_areApart.f x279002 x279003 x279005).bind fun t286 => (if t286 = true then ((impl_areApart.f x279002 x279004 x279005).bind fun t287 => (some t287)) else (some false))) else (some false)) else (some true))
end
def impl_CanStrip.f (k : Nat) (a0_0 : Int) (a0_1 : Int) (a1_0 : Int) (a1_1 : Int) (a1_2 : Int) (a1_3 : Int) (a1_4 : Int) (a1_5 : Int) (a2 : Int) : Option (Bool) := (impl_ValidMachine.f a0_0 a0_1).bind fun t279 => (if t279 = true then ((impl_ValidLoop.f k a1_0 a1_1 a1_2 a1_3 a1_4 a1_5).bind fun t280 => (if t280 = true then ((impl_within.f a2 0 2).bind fun t281 => (impl_CanStrip.j0 k a2 (!t281) a0_0 a0_1 a1_0 a1_1 a1_2 a1_3 a1_4 a1_5)) else (impl_CanStrip.j0 k a2 true a0_0 a0_1 a1_0 a1_1 a1_2 a1_3 a1_4 a1_5))) else (impl_CanStrip.j0 k a2 true a0_0 a0_1 a1_0 a1_1 a1_2 a1_3 a1_4 a1_5))
theorem impl_CanStrip.mono_l : ∀ k, (∀ y0 y1 y2 y3 y4 y5 y6 y7 y8 y9, LeO (impl_CanStrip.j0 k y0 y1 y2 y3 y4 y5 y6 y7 y8 y9) (impl_CanStrip.j0 (k + 1) y0 y1 y2 y3 y4 y5 y6 y7 y8 y9)) ∧ (∀ y0 y1 y2 y3 y4 y5 y6 y7 y8 y9, LeO (impl_CanStrip.j1 k y0 y1 y2 y3 y4 y5 y6 y7 y8 y9) (impl_CanStrip.j1 (k + 1) y0 y1 y2 y3 y4 y5 y6 y7 y8 y9))
 | 0 => ⟨fun _ _ _ _ _ _ _ _ _ _ r h => by simp [impl_CanStrip.j0] at h, fun _ _ _ _ _ _ _ _ _ _ r h => by simp [impl_CanStrip.j1] at h⟩
 | k + 1 => by
  obtain ⟨ih0, ih1⟩ := impl_CanStrip.mono_l k
  refine ⟨?_, ?_⟩
  ·intro y0 y1 y2 y3 y4 y5 y6 y7 y8 y9
   unfold impl_CanStrip.j0
   repeat' first
   | (with_reducible exact ih0 _ _ _ _ _ _ _ _ _ _)
   | (with_reducible exact ih1 _ _ _ _ _ _ _ _ _ _)
   | (with_reducible exact impl_ValidLoop.mono _ _ _ _ _ _ _)
   | (with_reducible exact LeO.refl _)
   | (with_reducible exact LeO.none _)
   | (with_reducible refine LeO.ite ?_ ?_)
   | (with_reducible refine LeO.bind ?_ (fun _ => ?_))
   | exact ih0 _ _ _ _ _ _ _ _ _ _
   | exact ih1 _ _ _ _ _ _ _ _ _ _
   | exact impl_ValidLoop.mono _ _ _ _ _ _ _
   | exact LeO.none _
   | refine LeO.ite ?_ ?_
   | refine LeO.bind ?_ (fun _ => ?_)
  ·intro y0 y1 y2 y3 y4 y5 y6 y7 y8 y9
   unfold impl_CanStrip.j1
   repeat' first
   | (with_reducible exact ih0 _ _ _ _ _ _ _ _ _ _)
   | (with_reducible exact ih1 _ _ _ _ _ _ _ _ _ _)
   | (with_reducible exact impl_ValidLoop.mono _ _ _ _ _ _ _)
   | (with_reducible exact LeO.refl _)
   | (with_reducible exact LeO.none _)
   | (with_reducible refine LeO.ite ?_ ?_)
   | (with_reducible refine LeO.bind ?_ (fun _ => ?_))
   | exact ih0 _ _ _ _ _ _ _ _ _ _
   | exact ih1 _ _ _ _ _ _ _ _ _ _
   | exact impl_ValidLoop.mono _ _ _ _ _ _ _
   | exact LeO.none _
   | refine LeO.ite ?_ ?_
   | refine LeO.bind ?_ (fun _ => ?_)
theorem impl_CanStrip.mono : ∀ a0 a1 a2 a3 a4 a5 a6 a7 a8 k, LeO (impl_CanStrip.f k a0 a1 a2 a3 a4 a5 a6 a7 a8) (impl_CanStrip.f (k + 1) a0 a1 a2 a3 a4 a5 a6 a7 a8) := by
 intro a0 a1 a2 a3 a4 a5 a6 a7 a8 k
 obtain ⟨ih0, ih1⟩ := impl_CanStrip.mono_l k
 unfold impl_CanStrip.f
 repeat' first
   | (with_reducible exact ih0 _ _ _ _ _ _ _ _ _ _)
   | (with_reducible exact ih1 _ _ _ _ _ _ _ _ _ _)
   | (with_reducible exact impl_ValidLoop.mono _ _ _ _ _ _ _)
   | (with_reducible exact LeO.refl _)
   | (with_reducible exact LeO.none _)
   | (with_reducible refine LeO.ite ?_ ?_)
   | (with_reducible refine LeO.bind ?_ (fun _ => ?_))
   | exact ih0 _ _ _ _ _ _ _ _ _ _
   | exact ih1 _ _ _ _ _ _ _ _ _ _
   | exact impl_ValidLoop.mono _ _ _ _ _ _ _
   | exact LeO.none _
   | refine LeO.ite ?_ ?_
   | refine LeO.bind ?_ (fun _ => ?_)
set_option maxHeartbeats 8000000 in
set_option maxRecDepth 100000 in
theorem impl_CanStrip.calls (k : Nat) (a0_0 : Int) (a0_1 : Int) (a1_0 : Int) (a1_1 : Int) (a1_2 : Int) (a1_3 : Int) (a1_4 : Int) (a1_5 : Int) (a2 : Int) (r : Bool) (w : World) (h : impl_CanStrip.f k a0_0 a0_1 a1_0 a1_1 a1_2 a1_3 a1_4 a1_5 a2 = some r) :
  Calls Try.prog 24 #[.agg #[.int .i64 a0_0, .int .i64 a0_1], .agg #[.int .i64 a1_0, .int .i64 a1_1, .int .i64 a1_2, .int .i64 a1_3, .int .i64 a1_4, .int .i64 a1_5], .int .i64 a2] w fun e w' => e = .returned (.bool r) ∧ Below w.heap.size w w' := by
 have hu31 := Try.underlying31
 have hu25 := Try.underlying25
 have HB := Aside0.mk (Below.refl w.heap.size w)
 have H : ((impl_ValidMachine.f a0_0 a0_1).bind fun t279 => (if t279 = true then ((impl_ValidLoop.f k a1_0 a1_1 a1_2 a1_3 a1_4 a1_5).bind fun t280 => (if t280 = true then ((impl_within.f a2 0 2).bind fun t281 => (impl_CanStrip.j0 k a2 (!t281) a0_0 a0_1 a1_0 a1_1 a1_2 a1_3 a1_4 a1_5)) else (impl_CanStrip.j0 k a2 true a0_0 a0_1 a1_0 a1_1 a1_2 a1_3 a1_4 a1_5))) else (impl_CanStrip.j0 k a2 true a0_0 a0_1 a1_0 a1_1 a1_2 a1_3 a1_4 a1_5))) = some r := h
 clear h
 have HC4 := Aside0.mk H
 clear H
 go_enter Try.func24, Try.ntmps24
 go_upto_region 1 with (first | ((with_reducible refine gate_dst (N := 3) rfl ?_); refine box_event ?hg (N := 3) ?hd (cs := #[.int .i64 a0_0, .int .i64 a0_1]) (t := 31) ?hr ?_; (case hd => rfl); (case hg => rfl); (case hr => first | (go_simp; done) | (go_simp; rfl)); intro gb277 hg w5 hbox hb; have n0_ := Aside0.mk (below_step (xvo HB.out) hb); have n1_ := Aside0.mk (hbox); have n2_ := Aside0.mk ((by rw [hg]; exact (below_size (xvo HB.out)) : w.heap.size ≤ gb277)); have n3_ := Aside0.mk ((by rw [hg]; exact (below_size (xvo HB.out)) : w.heap.size ≤ gb277)); clear HB; have HB := n0_; have BK277 := n1_; have GW277 := n2_; have GE277 := n3_; clear n0_ n1_ n2_ n3_; clear hb hbox hg) | ((with_reducible refine gate_dst (N := 4) rfl ?_); refine box_event ?hg (N := 4) ?hd (cs := #[.int .i64 a1_0, .int .i64 a1_1, .int .i64 a1_2, .int .i64 a1_3, .int .i64 a1_4, .int .i64 a1_5]) (t := 25) ?hr ?_; (case hd => rfl); (case hg => rfl); (case hr => first | (go_simp; done) | (go_simp; rfl)); intro gb278 hg w6 hbox hb; have n0_ := Aside0.mk (xvl BK277.out hb); have n1_ := Aside0.mk (below_step wv54 hb); have n2_ := Aside0.mk (hbox); have n3_ := Aside0.mk ((by rw [hg]; exact (below_size wv54) : w.heap.size ≤ gb278)); have n4_ := Aside0.mk ((by rw [hg]; exact (below_size wv54) : w.heap.size ≤ gb278)); have n5_ := Aside0.mk ((by rw [hg]; exact Nat.ne_of_lt (blk_lt (g := gb277) (o := .cells #[.int .i64 a0_0, .int .i64 a0_1] 31 (0, 0)) (xvb BK277.out)) : gb277 ≠ gb278)); have n6_ := Aside0.mk ((by rw [hg]; exact Nat.ne_of_gt (blk_lt (g := gb277) (o := .cells #[.int .i64 a0_0, .int .i64 a0_1] 31 (0, 0)) (xvb BK277.out)) : gb278 ≠ gb277)); clear BK277; clear HB; have BK277 := n0_; have HB := n1_; have BK278 := n2_; have GW278 := n3_; have GE278 := n4_; have NB277_278 := n5_; have NB278_277 := n6_; clear n0_ n1_ n2_ n3_ n4_ n5_ n6_; clear hb hbox hg))
 (try simp only [Act.put, List.setIfInBounds_toArray, List.set_cons_zero, List.set_cons_succ])
 go_cut [19] (fun v19 wc => ∃ (kq : Nat) (x19_3 : Bool), v19 = .bool x19_3 ∧ Aside0 (impl_CanStrip.j0 kq a2 x19_3 a0_0 a0_1 a1_0 a1_1 a1_2 a1_3 a1_4 a1_5 = some r) ∧ Aside0 (kq ≤ k) ∧ Aside0 (wc.heap[gb277]? = some (.cells #[.int .i64 a0_0, .int .i64 a0_1] 31 (0, 0))) ∧ Aside0 (wc.heap[gb278]? = some (.cells #[.int .i64 a1_0, .int .i64 a1_1, .int .i64 a1_2, .int .i64 a1_3, .int .i64 a1_4, .int .i64 a1_5] 25 (0, 0))) ∧ Aside0 (Below w.heap.size w wc))
 case first =>
  have H := HC4.out
  clear HC4
  replace H := Option.bind_eq_some_iff.mp H
  obtain ⟨t279, A70, H⟩ := H
  replace H : (if t279 = true then ((impl_ValidLoop.f k a1_0 a1_1 a1_2 a1_3 a1_4 a1_5).bind fun t280 => (if t280 = true then ((impl_within.f a2 0 2).bind fun t281 => (impl_CanStrip.j0 k a2 (!t281) a0_0 a0_1 a1_0 a1_1 a1_2 a1_3 a1_4 a1_5)) else (impl_CanStrip.j0 k a2 true a0_0 a0_1 a1_0 a1_1 a1_2 a1_3 a1_4 a1_5))) else (impl_CanStrip.j0 k a2 true a0_0 a0_1 a1_0 a1_1 a1_2 a1_3 a1_4 a1_5)) = some r := H
  have A7 := Aside0.mk A70
  clear A70
  by_cases c8 : t279 = true
  ·subst c8
   have H1 : ((impl_ValidLoop.f k a1_0 a1_1 a1_2 a1_3 a1_4 a1_5).bind fun t280 => (if t280 = true then ((impl_within.f a2 0 2).bind fun t281 => (impl_CanStrip.j0 k a2 (!t281) a0_0 a0_1 a1_0 a1_1 a1_2 a1_3 a1_4 a1_5)) else (impl_CanStrip.j0 k a2 true a0_0 a0_1 a1_0 a1_1 a1_2 a1_3 a1_4 a1_5))) = some r := by rw [if_pos rfl] at H; exact H
   clear H
   have H := H1
   clear H1
   replace H := Option.bind_eq_some_iff.mp H
   obtain ⟨t280, A90, H⟩ := H
   replace H : (if t280 = true then ((impl_within.f a2 0 2).bind fun t281 => (impl_CanStrip.j0 k a2 (!t281) a0_0 a0_1 a1_0 a1_1 a1_2 a1_3 a1_4 a1_5)) else (impl_CanStrip.j0 k a2 true a0_0 a0_1 a1_0 a1_1 a1_2 a1_3 a1_4 a1_5)) = some r := H
   have A9 := Aside0.mk A90
   clear A90
   by_cases c10 : t280 = true
   ·subst c10
    have H1 : ((impl_within.f a2 0 2).bind fun t281 => (impl_CanStrip.j0 k a2 (!t281) a0_0 a0_1 a1_0 a1_1 a1_2 a1_3 a1_4 a1_5)) = some r := by rw [if_pos rfl] at H; exact H
    clear H
    have H := H1
    clear H1
    replace H := Option.bind_eq_some_iff.mp H
    obtain ⟨t281, A110, H⟩ := H
    replace H : (impl_CanStrip.j0 k a2 (!t281) a0_0 a0_1 a1_0 a1_1 a1_2 a1_3 a1_4 a1_5) = some r := H
    have A11 := Aside0.mk A110
    clear A110
    have H' := Aside0.mk H
    clear H
    have hnb12 := NB277_278.out
    have hnc12 := NB278_277.out
    have hcz13_0 : w6.cell? ⟨gb277, 0, none⟩ = some (.int .i64 a0_0) := xvc BK277.out
    have hcz13_1 : w6.cell? ⟨gb277, 1, none⟩ = some (.int .i64 a0_1) := xvc BK277.out
    have hfz13_0 := blk_frozen BK277.out 0
    have hfz13_1 := blk_frozen BK277.out 1
    go_wp2_with (first | ((with_reducible refine gate_callee (f := 85) rfl ?_); refine goesL_ (some 8) rfl rfl Try.func85 (by kernel_rfl) rfl #[.agg #[.int .i64 a0_0, .int .i64 a0_1]] rfl wv1 ?_; (with_reducible refine (impl_ValidMachine.calls a0_0 a0_1 true _ A7.out).mono ?_); rintro e w14 ⟨rfl, hb⟩; refine ⟨_, rfl, ?_⟩; have n0_ := Aside0.mk (xvl BK277.out hb); have n1_ := Aside0.mk (xvl BK278.out hb); have n2_ := Aside0.mk (below_step wv12 hb); clear BK277; clear BK278; clear HB; have BK277 := n0_; have BK278 := n1_; have HB := n2_; clear n0_ n1_ n2_; (try clear hb); (try clear hb2); (try clear hk); (try clear hi); have hcz15_0 : w14.cell? ⟨gb278, 0, none⟩ = some (.int .i64 a1_0) := xvc BK278.out; have hcz15_1 : w14.cell? ⟨gb278, 1, none⟩ = some (.int .i64 a1_1) := xvc BK278.out; have hcz15_2 : w14.cell? ⟨gb278, 2, none⟩ = some (.int .i64 a1_2) := xvc BK278.out; have hcz15_3 : w14.cell? ⟨gb278, 3, none⟩ = some (.int .i64 a1_3) := xvc BK278.out; have hcz15_4 : w14.cell? ⟨gb278, 4, none⟩ = some (.int .i64 a1_4) := xvc BK278.out; have hcz15_5 : w14.cell? ⟨gb278, 5, none⟩ = some (.int .i64 a1_5) := xvc BK278.out; have hfz15_0 := blk_frozen BK278.out 0; have hfz15_1 := blk_frozen BK278.out 1; have hfz15_2 := blk_frozen BK278.out 2; have hfz15_3 := blk_frozen BK278.out 3; have hfz15_4 := blk_frozen BK278.out 4; have hfz15_5 := blk_frozen BK278.out 5) | (go_at_call 21; (with_reducible refine (impl_ValidLoop.calls k a1_0 a1_1 a1_2 a1_3 a1_4 a1_5 true _ A9.out).mono ?_); rintro e w16 ⟨rfl, hb⟩; have n0_ := Aside0.mk (xvl BK277.out hb); have n1_ := Aside0.mk (xvl BK278.out hb); have n2_ := Aside0.mk (below_step wv12 hb); clear BK277; clear BK278; clear HB; have BK277 := n0_; have BK278 := n1_; have HB := n2_; clear n0_ n1_ n2_; (try clear hb); (try clear hb2); (try clear hk); (try clear hi)) | (go_at_call 81; (with_reducible refine (impl_within.calls a2 0 2 t281 _ A11.out).mono ?_); rintro e w' ⟨rfl, ⟨nd, rfl⟩⟩))
    go_meet
    case rel => exact ⟨_, (!t281), wv6, H', ⟨wv33⟩, ⟨(xvb BK277.out)⟩, ⟨(xvb BK278.out)⟩, ⟨wv12⟩⟩
   ·replace c10 := Bool.eq_false_iff.mpr c10
    subst c10
    have H1 : (impl_CanStrip.j0 k a2 true a0_0 a0_1 a1_0 a1_1 a1_2 a1_3 a1_4 a1_5) = some r := by rw [if_neg (show ¬ (false = true) by decide)] at H; exact H
    clear H
    have H := H1
    clear H1
    have H' := Aside0.mk H
    clear H
    have hnb17 := NB277_278.out
    have hnc17 := NB278_277.out
    have hcz18_0 : w6.cell? ⟨gb277, 0, none⟩ = some (.int .i64 a0_0) := xvc BK277.out
    have hcz18_1 : w6.cell? ⟨gb277, 1, none⟩ = some (.int .i64 a0_1) := xvc BK277.out
    have hfz18_0 := blk_frozen BK277.out 0
    have hfz18_1 := blk_frozen BK277.out 1
    go_wp2_with (first | ((with_reducible refine gate_callee (f := 85) rfl ?_); refine goesL_ (some 8) rfl rfl Try.func85 (by kernel_rfl) rfl #[.agg #[.int .i64 a0_0, .int .i64 a0_1]] rfl wv1 ?_; (with_reducible refine (impl_ValidMachine.calls a0_0 a0_1 true _ A7.out).mono ?_); rintro e w19 ⟨rfl, hb⟩; refine ⟨_, rfl, ?_⟩; have n0_ := Aside0.mk (xvl BK277.out hb); have n1_ := Aside0.mk (xvl BK278.out hb); have n2_ := Aside0.mk (below_step wv12 hb); clear BK277; clear BK278; clear HB; have BK277 := n0_; have BK278 := n1_; have HB := n2_; clear n0_ n1_ n2_; (try clear hb); (try clear hb2); (try clear hk); (try clear hi); have hcz20_0 : w19.cell? ⟨gb278, 0, none⟩ = some (.int .i64 a1_0) := xvc BK278.out; have hcz20_1 : w19.cell? ⟨gb278, 1, none⟩ = some (.int .i64 a1_1) := xvc BK278.out; have hcz20_2 : w19.cell? ⟨gb278, 2, none⟩ = some (.int .i64 a1_2) := xvc BK278.out; have hcz20_3 : w19.cell? ⟨gb278, 3, none⟩ = some (.int .i64 a1_3) := xvc BK278.out; have hcz20_4 : w19.cell? ⟨gb278, 4, none⟩ = some (.int .i64 a1_4) := xvc BK278.out; have hcz20_5 : w19.cell? ⟨gb278, 5, none⟩ = some (.int .i64 a1_5) := xvc BK278.out; have hfz20_0 := blk_frozen BK278.out 0; have hfz20_1 := blk_frozen BK278.out 1; have hfz20_2 := blk_frozen BK278.out 2; have hfz20_3 := blk_frozen BK278.out 3; have hfz20_4 := blk_frozen BK278.out 4; have hfz20_5 := blk_frozen BK278.out 5) | (go_at_call 21; (with_reducible refine (impl_ValidLoop.calls k a1_0 a1_1 a1_2 a1_3 a1_4 a1_5 false _ A9.out).mono ?_); rintro e w21 ⟨rfl, hb⟩; have n0_ := Aside0.mk (xvl BK277.out hb); have n1_ := Aside0.mk (xvl BK278.out hb); have n2_ := Aside0.mk (below_step wv12 hb); clear BK277; clear BK278; clear HB; have BK277 := n0_; have BK278 := n1_; have HB := n2_; clear n0_ n1_ n2_; (try clear hb); (try clear hb2); (try clear hk); (try clear hi)))
    go_meet
    case rel => exact ⟨_, (true), wv6, H', ⟨wv33⟩, ⟨(xvb BK277.out)⟩, ⟨(xvb BK278.out)⟩, ⟨wv12⟩⟩
  ·replace c8 := Bool.eq_false_iff.mpr c8
   subst c8
   have H1 : (impl_CanStrip.j0 k a2 true a0_0 a0_1 a1_0 a1_1 a1_2 a1_3 a1_4 a1_5) = some r := by rw [if_neg (show ¬ (false = true) by decide)] at H; exact H
   clear H
   have H := H1
   clear H1
   have H' := Aside0.mk H
   clear H
   have hnb22 := NB277_278.out
   have hnc22 := NB278_277.out
   have hcz23_0 : w6.cell? ⟨gb277, 0, none⟩ = some (.int .i64 a0_0) := xvc BK277.out
   have hcz23_1 : w6.cell? ⟨gb277, 1, none⟩ = some (.int .i64 a0_1) := xvc BK277.out
   have hfz23_0 := blk_frozen BK277.out 0
   have hfz23_1 := blk_frozen BK277.out 1
   go_wp2_with (first | ((with_reducible refine gate_callee (f := 85) rfl ?_); refine goesL_ (some 8) rfl rfl Try.func85 (by kernel_rfl) rfl #[.agg #[.int .i64 a0_0, .int .i64 a0_1]] rfl wv1 ?_; (with_reducible refine (impl_ValidMachine.calls a0_0 a0_1 false _ A7.out).mono ?_); rintro e w24 ⟨rfl, hb⟩; refine ⟨_, rfl, ?_⟩; have n0_ := Aside0.mk (xvl BK277.out hb); have n1_ := Aside0.mk (xvl BK278.out hb); have n2_ := Aside0.mk (below_step wv12 hb); clear BK277; clear BK278; clear HB; have BK277 := n0_; have BK278 := n1_; have HB := n2_; clear n0_ n1_ n2_; (try clear hb); (try clear hb2); (try clear hk); (try clear hi)))
   go_meet
   case rel => exact ⟨_, (true), wv6, H', ⟨wv33⟩, ⟨(xvb BK277.out)⟩, ⟨(xvb BK278.out)⟩, ⟨wv12⟩⟩
 case rest =>
  clear HC4
  try clear c1
  try clear c2
  try clear p2
  try clear c8
  try clear c10
  try clear c12
  try clear c17
  try clear c22
  try clear c24
  try clear hcz13_0
  try clear hcz13_1
  try clear hcz15_0
  try clear hcz15_1
  try clear hcz15_2
  try clear hcz15_3
  try clear hcz15_4
  try clear hcz15_5
  try clear hcz18_0
  try clear hcz18_1
  try clear hcz20_0
  try clear hcz20_1
  try clear hcz20_2
  try clear hcz20_3
  try clear hcz20_4
  try clear hcz20_5
  try clear hcz23_0
  try clear hcz23_1
  try clear hfz13_0
  try clear hfz13_1
  try clear hfz15_0
  try clear hfz15_1
  try clear hfz15_2
  try clear hfz15_3
  try clear hfz15_4
  try clear hfz15_5
  try clear hfz18_0
  try clear hfz18_1
  try clear hfz20_0
  try clear hfz20_1
  try clear hfz20_2
  try clear hfz20_3
  try clear hfz20_4
  try clear hfz20_5
  try clear hfz23_0
  try clear hfz23_1
  obtain ⟨kq, x19_3, rfl, HA, HJ3, BK277, BK278, HB⟩ := hcut
  cases kq with
  | zero => exact absurd HA.out (by simp [impl_CanStrip.j0])
  | succ kj3 =>
   have H := HA.out
   clear HA
   simp only [impl_CanStrip.j0] at H
   by_cases c25 : x19_3 = true
   ·subst c25
    have H1 : (some false) = some r := by rw [if_pos rfl] at H; exact H
    clear H
    have H := H1
    clear H1
    obtain rfl := Option.some.inj H
    go_wp2
    go_ret
    exact ⟨wv3, wv12⟩
   ·replace c25 := Bool.eq_false_iff.mpr c25
    subst c25
    have H1 : (if a1_0 = 1 then (if a2 = 0 then ((impl_IsCommutative.f a1_1).bind fun t282 => (if t282 = true then ((impl_IsAssociative.f a1_1).bind fun t283 => (if t283 = true then (if a1_3 ≤ a1_2 then (some (!(decide (a1_2 < (wrap64 (a1_3 + a1_5)))))) else (some (!false))) else (some false))) else (some false))) else (some false)) else ((impl_isFar.f a1_2 a1_3 a0_0).bind fun t284 => (if t284 = true then ((impl_isFar.f a1_2 a1_4 a0_0).bind fun t285 => (impl_CanStrip.j1 kj3 a2 (!t285) a0_0 a0_1 a1_0 a1_1 a1_2 a1_3 a1_4 a1_5)) else (impl_CanStrip.j1 kj3 a2 true a0_0 a0_1 a1_0 a1_1 a1_2 a1_3 a1_4 a1_5)))) = some r := by rw [if_neg (show ¬ (false = true) by decide)] at H; exact H
    clear H
    have H := H1
    clear H1
    by_cases c26 : a1_0 = 1
    ·rw [if_pos c26] at H
     have c26b0 : (a1_0 == 1) = true := beq_iff_eq.mpr c26
     have c26b1 : (a1_0 != 1) = false := bne_eq_false_iff_eq.mpr c26
     clear c26
     by_cases c27 : a2 = 0
     ·rw [if_pos c27] at H
      have c27b0 : (a2 == 0) = true := beq_iff_eq.mpr c27
      have c27b1 : (a2 != 0) = false := bne_eq_false_iff_eq.mpr c27
      clear c27
      replace H := Option.bind_eq_some_iff.mp H
      obtain ⟨t282, A280, H⟩ := H
      replace H : (if t282 = true then ((impl_IsAssociative.f a1_1).bind fun t283 => (if t283 = true then (if a1_3 ≤ a1_2 then (some (!(decide (a1_2 < (wrap64 (a1_3 + a1_5)))))) else (some (!false))) else (some false))) else (some false)) = some r := H
      have A28 := Aside0.mk A280
      clear A280
      by_cases c29 : t282 = true
      ·subst c29
       have H1 : ((impl_IsAssociative.f a1_1).bind fun t283 => (if t283 = true then (if a1_3 ≤ a1_2 then (some (!(decide (a1_2 < (wrap64 (a1_3 + a1_5)))))) else (some (!false))) else (some false))) = some r := by rw [if_pos rfl] at H; exact H
       clear H
       have H := H1
       clear H1
       replace H := Option.bind_eq_some_iff.mp H
       obtain ⟨t283, A300, H⟩ := H
       replace H : (if t283 = true then (if a1_3 ≤ a1_2 then (some (!(decide (a1_2 < (wrap64 (a1_3 + a1_5)))))) else (some (!false))) else (some false)) = some r := H
       have A30 := Aside0.mk A300
       clear A300
       by_cases c31 : t283 = true
       ·subst c31
        have H1 : (if a1_3 ≤ a1_2 then (some (!(decide (a1_2 < (wrap64 (a1_3 + a1_5)))))) else (some (!false))) = some r := by rw [if_pos rfl] at H; exact H
        clear H
        have H := H1
        clear H1
        by_cases c32 : a1_3 ≤ a1_2
        ·rw [if_pos c32] at H
         have c32b0 : decide (a1_3 ≤ a1_2) = true := decide_eq_true c32
         clear c32
         obtain rfl := Option.some.inj H
         have hnb33 := NB278_277.out
         have hnc33 := NB277_278.out
         have hcz34_0 : wc.cell? ⟨gb278, 0, none⟩ = some (.int .i64 a1_0) := xvc BK278.out
         have hcz34_1 : wc.cell? ⟨gb278, 1, none⟩ = some (.int .i64 a1_1) := xvc BK278.out
         have hcz34_2 : wc.cell? ⟨gb278, 2, none⟩ = some (.int .i64 a1_2) := xvc BK278.out
         have hcz34_3 : wc.cell? ⟨gb278, 3, none⟩ = some (.int .i64 a1_3) := xvc BK278.out
         have hcz34_4 : wc.cell? ⟨gb278, 4, none⟩ = some (.int .i64 a1_4) := xvc BK278.out
         have hcz34_5 : wc.cell? ⟨gb278, 5, none⟩ = some (.int .i64 a1_5) := xvc BK278.out
         have hfz34_0 := blk_frozen BK278.out 0
         have hfz34_1 := blk_frozen BK278.out 1
         have hfz34_2 := blk_frozen BK278.out 2
         have hfz34_3 := blk_frozen BK278.out 3
         have hfz34_4 := blk_frozen BK278.out 4
         have hfz34_5 := blk_frozen BK278.out 5
         go_wp2_with (first | (go_at_call 86; (with_reducible refine (impl_IsCommutative.calls a1_1 true _ A28.out).mono ?_); rintro e w' ⟨rfl, ⟨nd, rfl⟩⟩) | (go_at_call 87; (with_reducible refine (impl_IsAssociative.calls a1_1 true _ A30.out).mono ?_); rintro e w' ⟨rfl, ⟨nd, rfl⟩⟩))
         go_ret
         exact ⟨wv3, wv12⟩
        ·rw [if_neg c32] at H
         have c32b0 : decide (a1_3 ≤ a1_2) = false := decide_eq_false c32
         clear c32
         obtain rfl := Option.some.inj H
         have hnb35 := NB278_277.out
         have hnc35 := NB277_278.out
         have hcz36_0 : wc.cell? ⟨gb278, 0, none⟩ = some (.int .i64 a1_0) := xvc BK278.out
         have hcz36_1 : wc.cell? ⟨gb278, 1, none⟩ = some (.int .i64 a1_1) := xvc BK278.out
         have hcz36_2 : wc.cell? ⟨gb278, 2, none⟩ = some (.int .i64 a1_2) := xvc BK278.out
         have hcz36_3 : wc.cell? ⟨gb278, 3, none⟩ = some (.int .i64 a1_3) := xvc BK278.out
         have hcz36_4 : wc.cell? ⟨gb278, 4, none⟩ = some (.int .i64 a1_4) := xvc BK278.out
         have hcz36_5 : wc.cell? ⟨gb278, 5, none⟩ = some (.int .i64 a1_5) := xvc BK278.out
         have hfz36_0 := blk_frozen BK278.out 0
         have hfz36_1 := blk_frozen BK278.out 1
         have hfz36_2 := blk_frozen BK278.out 2
         have hfz36_3 := blk_frozen BK278.out 3
         have hfz36_4 := blk_frozen BK278.out 4
         have hfz36_5 := blk_frozen BK278.out 5
         go_wp2_with (first | (go_at_call 86; (with_reducible refine (impl_IsCommutative.calls a1_1 true _ A28.out).mono ?_); rintro e w' ⟨rfl, ⟨nd, rfl⟩⟩) | (go_at_call 87; (with_reducible refine (impl_IsAssociative.calls a1_1 true _ A30.out).mono ?_); rintro e w' ⟨rfl, ⟨nd, rfl⟩⟩))
         go_ret
         exact ⟨wv3, wv12⟩
       ·replace c31 := Bool.eq_false_iff.mpr c31
        subst c31
        have H1 : (some false) = some r := by rw [if_neg (show ¬ (false = true) by decide)] at H; exact H
        clear H
        have H := H1
        clear H1
        obtain rfl := Option.some.inj H
        have hnb37 := NB278_277.out
        have hnc37 := NB277_278.out
        have hcz38_0 : wc.cell? ⟨gb278, 0, none⟩ = some (.int .i64 a1_0) := xvc BK278.out
        have hcz38_1 : wc.cell? ⟨gb278, 1, none⟩ = some (.int .i64 a1_1) := xvc BK278.out
        have hcz38_2 : wc.cell? ⟨gb278, 2, none⟩ = some (.int .i64 a1_2) := xvc BK278.out
        have hcz38_3 : wc.cell? ⟨gb278, 3, none⟩ = some (.int .i64 a1_3) := xvc BK278.out
        have hcz38_4 : wc.cell? ⟨gb278, 4, none⟩ = some (.int .i64 a1_4) := xvc BK278.out
        have hcz38_5 : wc.cell? ⟨gb278, 5, none⟩ = some (.int .i64 a1_5) := xvc BK278.out
        have hfz38_0 := blk_frozen BK278.out 0
        have hfz38_1 := blk_frozen BK278.out 1
        have hfz38_2 := blk_frozen BK278.out 2
        have hfz38_3 := blk_frozen BK278.out 3
        have hfz38_4 := blk_frozen BK278.out 4
        have hfz38_5 := blk_frozen BK278.out 5
        go_wp2_with (first | (go_at_call 86; (with_reducible refine (impl_IsCommutative.calls a1_1 true _ A28.out).mono ?_); rintro e w' ⟨rfl, ⟨nd, rfl⟩⟩) | (go_at_call 87; (with_reducible refine (impl_IsAssociative.calls a1_1 false _ A30.out).mono ?_); rintro e w' ⟨rfl, ⟨nd, rfl⟩⟩))
        go_ret
        exact ⟨wv3, wv12⟩
      ·replace c29 := Bool.eq_false_iff.mpr c29
       subst c29
       have H1 : (some false) = some r := by rw [if_neg (show ¬ (false = true) by decide)] at H; exact H
       clear H
       have H := H1
       clear H1
       obtain rfl := Option.some.inj H
       have hnb39 := NB278_277.out
       have hnc39 := NB277_278.out
       have hcz40_0 : wc.cell? ⟨gb278, 0, none⟩ = some (.int .i64 a1_0) := xvc BK278.out
       have hcz40_1 : wc.cell? ⟨gb278, 1, none⟩ = some (.int .i64 a1_1) := xvc BK278.out
       have hcz40_2 : wc.cell? ⟨gb278, 2, none⟩ = some (.int .i64 a1_2) := xvc BK278.out
       have hcz40_3 : wc.cell? ⟨gb278, 3, none⟩ = some (.int .i64 a1_3) := xvc BK278.out
       have hcz40_4 : wc.cell? ⟨gb278, 4, none⟩ = some (.int .i64 a1_4) := xvc BK278.out
       have hcz40_5 : wc.cell? ⟨gb278, 5, none⟩ = some (.int .i64 a1_5) := xvc BK278.out
       have hfz40_0 := blk_frozen BK278.out 0
       have hfz40_1 := blk_frozen BK278.out 1
       have hfz40_2 := blk_frozen BK278.out 2
       have hfz40_3 := blk_frozen BK278.out 3
       have hfz40_4 := blk_frozen BK278.out 4
       have hfz40_5 := blk_frozen BK278.out 5
       go_wp2_with (first | (go_at_call 86; (with_reducible refine (impl_IsCommutative.calls a1_1 false _ A28.out).mono ?_); rintro e w' ⟨rfl, ⟨nd, rfl⟩⟩))
       go_ret
       exact ⟨wv3, wv12⟩
     ·rw [if_neg c27] at H
      have c27b0 : (a2 == 0) = false := beq_eq_false_iff_ne.mpr c27
      have c27b1 : (a2 != 0) = true := bne_iff_ne.mpr c27
      obtain rfl := Option.some.inj H
      have hnb41 := NB278_277.out
      have hnc41 := NB277_278.out
      have hcz42_0 : wc.cell? ⟨gb278, 0, none⟩ = some (.int .i64 a1_0) := xvc BK278.out
      have hcz42_1 : wc.cell? ⟨gb278, 1, none⟩ = some (.int .i64 a1_1) := xvc BK278.out
      have hcz42_2 : wc.cell? ⟨gb278, 2, none⟩ = some (.int .i64 a1_2) := xvc BK278.out
      have hcz42_3 : wc.cell? ⟨gb278, 3, none⟩ = some (.int .i64 a1_3) := xvc BK278.out
      have hcz42_4 : wc.cell? ⟨gb278, 4, none⟩ = some (.int .i64 a1_4) := xvc BK278.out
      have hcz42_5 : wc.cell? ⟨gb278, 5, none⟩ = some (.int .i64 a1_5) := xvc BK278.out
      have hfz42_0 := blk_frozen BK278.out 0
      have hfz42_1 := blk_frozen BK278.out 1
      have hfz42_2 := blk_frozen BK278.out 2
      have hfz42_3 := blk_frozen BK278.out 3
      have hfz42_4 := blk_frozen BK278.out 4
      have hfz42_5 := blk_frozen BK278.out 5
      go_wp2
      go_ret
      exact ⟨wv3, wv12⟩
    ·rw [if_neg c26] at H
     have c26b0 : (a1_0 == 1) = false := beq_eq_false_iff_ne.mpr c26
     have c26b1 : (a1_0 != 1) = true := bne_iff_ne.mpr c26
     have HC43 := Aside0.mk H
     clear H
     have hnb44 := NB278_277.out
     have hnc44 := NB277_278.out
     have hcz45_0 : wc.cell? ⟨gb278, 0, none⟩ = some (.int .i64 a1_0) := xvc BK278.out
     have hcz45_1 : wc.cell? ⟨gb278, 1, none⟩ = some (.int .i64 a1_1) := xvc BK278.out
     have hcz45_2 : wc.cell? ⟨gb278, 2, none⟩ = some (.int .i64 a1_2) := xvc BK278.out
     have hcz45_3 : wc.cell? ⟨gb278, 3, none⟩ = some (.int .i64 a1_3) := xvc BK278.out
     have hcz45_4 : wc.cell? ⟨gb278, 4, none⟩ = some (.int .i64 a1_4) := xvc BK278.out
     have hcz45_5 : wc.cell? ⟨gb278, 5, none⟩ = some (.int .i64 a1_5) := xvc BK278.out
     have hfz45_0 := blk_frozen BK278.out 0
     have hfz45_1 := blk_frozen BK278.out 1
     have hfz45_2 := blk_frozen BK278.out 2
     have hfz45_3 := blk_frozen BK278.out 3
     have hfz45_4 := blk_frozen BK278.out 4
     have hfz45_5 := blk_frozen BK278.out 5
     go_upto_region 5 with (fail)
     go_cut [70] (fun v70 wc => ∃ (kq : Nat) (x70_42 : Bool), v70 = .bool x70_42 ∧ Aside0 (impl_CanStrip.j1 kq a2 x70_42 a0_0 a0_1 a1_0 a1_1 a1_2 a1_3 a1_4 a1_5 = some r) ∧ Aside0 (kq ≤ kj3) ∧ Aside0 (wc.heap[gb277]? = some (.cells #[.int .i64 a0_0, .int .i64 a0_1] 31 (0, 0))) ∧ Aside0 (wc.heap[gb278]? = some (.cells #[.int .i64 a1_0, .int .i64 a1_1, .int .i64 a1_2, .int .i64 a1_3, .int .i64 a1_4, .int .i64 a1_5] 25 (0, 0))) ∧ Aside0 (Below w.heap.size w wc))
     case first =>
      have H := HC43.out
      clear HC43
      replace H := Option.bind_eq_some_iff.mp H
      obtain ⟨t284, A460, H⟩ := H
      replace H : (if t284 = true then ((impl_isFar.f a1_2 a1_4 a0_0).bind fun t285 => (impl_CanStrip.j1 kj3 a2 (!t285) a0_0 a0_1 a1_0 a1_1 a1_2 a1_3 a1_4 a1_5)) else (impl_CanStrip.j1 kj3 a2 true a0_0 a0_1 a1_0 a1_1 a1_2 a1_3 a1_4 a1_5)) = some r := H
      have A46 := Aside0.mk A460
      clear A460
      by_cases c47 : t284 = true
      ·subst c47
       have H1 : ((impl_isFar.f a1_2 a1_4 a0_0).bind fun t285 => (impl_CanStrip.j1 kj3 a2 (!t285) a0_0 a0_1 a1_0 a1_1 a1_2 a1_3 a1_4 a1_5)) = some r := by rw [if_pos rfl] at H; exact H
       clear H
       have H := H1
       clear H1
       replace H := Option.bind_eq_some_iff.mp H
       obtain ⟨t285, A480, H⟩ := H
       replace H : (impl_CanStrip.j1 kj3 a2 (!t285) a0_0 a0_1 a1_0 a1_1 a1_2 a1_3 a1_4 a1_5) = some r := H
       have A48 := Aside0.mk A480
       clear A480
       have H' := Aside0.mk H
       clear H
       have hnb49 := NB278_277.out
       have hnc49 := NB277_278.out
       have hcz50_0 : wc.cell? ⟨gb278, 0, none⟩ = some (.int .i64 a1_0) := xvc BK278.out
       have hcz50_1 : wc.cell? ⟨gb278, 1, none⟩ = some (.int .i64 a1_1) := xvc BK278.out
       have hcz50_2 : wc.cell? ⟨gb278, 2, none⟩ = some (.int .i64 a1_2) := xvc BK278.out
       have hcz50_3 : wc.cell? ⟨gb278, 3, none⟩ = some (.int .i64 a1_3) := xvc BK278.out
       have hcz50_4 : wc.cell? ⟨gb278, 4, none⟩ = some (.int .i64 a1_4) := xvc BK278.out
       have hcz50_5 : wc.cell? ⟨gb278, 5, none⟩ = some (.int .i64 a1_5) := xvc BK278.out
       have hfz50_0 := blk_frozen BK278.out 0
       have hfz50_1 := blk_frozen BK278.out 1
       have hfz50_2 := blk_frozen BK278.out 2
       have hfz50_3 := blk_frozen BK278.out 3
       have hfz50_4 := blk_frozen BK278.out 4
       have hfz50_5 := blk_frozen BK278.out 5
       have hcz51_0 : wc.cell? ⟨gb277, 0, none⟩ = some (.int .i64 a0_0) := xvc BK277.out
       have hcz51_1 : wc.cell? ⟨gb277, 1, none⟩ = some (.int .i64 a0_1) := xvc BK277.out
       have hfz51_0 := blk_frozen BK277.out 0
       have hfz51_1 := blk_frozen BK277.out 1
       go_wp2_with (first | ((with_reducible refine gate_callee (f := 88) rfl ?_); refine goesL_ (some 59) rfl rfl Try.func88 (by kernel_rfl) rfl #[.int .i64 a1_2, .int .i64 a1_3, .int .i64 a0_0] rfl wv1 ?_; (with_reducible refine (impl_isFar.calls a1_2 a1_3 a0_0 true _ A46.out).mono ?_); rintro e w' ⟨rfl, ⟨nd, rfl⟩⟩; refine ⟨_, rfl, ?_⟩) | (go_at_call 88; (with_reducible refine (impl_isFar.calls a1_2 a1_4 a0_0 t285 _ A48.out).mono ?_); rintro e w' ⟨rfl, ⟨nd, rfl⟩⟩))
       go_meet
       case rel => exact ⟨_, (!t285), wv6, H', ⟨(by have := HJ3.out; first | omega | exact Nat.le_refl _)⟩, ⟨(xvb BK277.out)⟩, ⟨(xvb BK278.out)⟩, ⟨wv12⟩⟩
      ·replace c47 := Bool.eq_false_iff.mpr c47
       subst c47
       have H1 : (impl_CanStrip.j1 kj3 a2 true a0_0 a0_1 a1_0 a1_1 a1_2 a1_3 a1_4 a1_5) = some r := by rw [if_neg (show ¬ (false = true) by decide)] at H; exact H
       clear H
       have H := H1
       clear H1
       have H' := Aside0.mk H
       clear H
       have hnb52 := NB278_277.out
       have hnc52 := NB277_278.out
       have hcz53_0 : wc.cell? ⟨gb278, 0, none⟩ = some (.int .i64 a1_0) := xvc BK278.out
       have hcz53_1 : wc.cell? ⟨gb278, 1, none⟩ = some (.int .i64 a1_1) := xvc BK278.out
       have hcz53_2 : wc.cell? ⟨gb278, 2, none⟩ = some (.int .i64 a1_2) := xvc BK278.out
       have hcz53_3 : wc.cell? ⟨gb278, 3, none⟩ = some (.int .i64 a1_3) := xvc BK278.out
       have hcz53_4 : wc.cell? ⟨gb278, 4, none⟩ = some (.int .i64 a1_4) := xvc BK278.out
       have hcz53_5 : wc.cell? ⟨gb278, 5, none⟩ = some (.int .i64 a1_5) := xvc BK278.out
       have hfz53_0 := blk_frozen BK278.out 0
       have hfz53_1 := blk_frozen BK278.out 1
       have hfz53_2 := blk_frozen BK278.out 2
       have hfz53_3 := blk_frozen BK278.out 3
       have hfz53_4 := blk_frozen BK278.out 4
       have hfz53_5 := blk_frozen BK278.out 5
       have hcz54_0 : wc.cell? ⟨gb277, 0, none⟩ = some (.int .i64 a0_0) := xvc BK277.out
       have hcz54_1 : wc.cell? ⟨gb277, 1, none⟩ = some (.int .i64 a0_1) := xvc BK277.out
       have hfz54_0 := blk_frozen BK277.out 0
       have hfz54_1 := blk_frozen BK277.out 1
       go_wp2_with (first | ((with_reducible refine gate_callee (f := 88) rfl ?_); refine goesL_ (some 59) rfl rfl Try.func88 (by kernel_rfl) rfl #[.int .i64 a1_2, .int .i64 a1_3, .int .i64 a0_0] rfl wv1 ?_; (with_reducible refine (impl_isFar.calls a1_2 a1_3 a0_0 false _ A46.out).mono ?_); rintro e w' ⟨rfl, ⟨nd, rfl⟩⟩; refine ⟨_, rfl, ?_⟩))
       go_meet
       case rel => exact ⟨_, (true), wv6, H', ⟨(by have := HJ3.out; first | omega | exact Nat.le_refl _)⟩, ⟨(xvb BK277.out)⟩, ⟨(xvb BK278.out)⟩, ⟨wv12⟩⟩
     case rest =>
      clear HC43
      try clear c1
      try clear c2
      try clear p2
      try clear c3
      try clear c4
      try clear c5
      try clear p6
      try clear c8
      try clear c10
      try clear c12
      try clear c17
      try clear c22
      try clear c24
      try clear c25
      try clear c26
      try clear c26b0
      try clear c26b1
      try clear c27
      try clear c27b0
      try clear c27b1
      try clear c29
      try clear c31
      try clear c32
      try clear c32b0
      try clear c33
      try clear c35
      try clear c37
      try clear c39
      try clear c41
      try clear c44
      try clear c47
      try clear c49
      try clear c52
      try clear hcz13_0
      try clear hcz13_1
      try clear hcz15_0
      try clear hcz15_1
      try clear hcz15_2
      try clear hcz15_3
      try clear hcz15_4
      try clear hcz15_5
      try clear hcz18_0
      try clear hcz18_1
      try clear hcz20_0
      try clear hcz20_1
      try clear hcz20_2
      try clear hcz20_3
      try clear hcz20_4
      try clear hcz20_5
      try clear hcz23_0
      try clear hcz23_1
      try clear hcz34_0
      try clear hcz34_1
      try clear hcz34_2
      try clear hcz34_3
      try clear hcz34_4
      try clear hcz34_5
      try clear hcz36_0
      try clear hcz36_1
      try clear hcz36_2
      try clear hcz36_3
      try clear hcz36_4
      try clear hcz36_5
      try clear hcz38_0
      try clear hcz38_1
      try clear hcz38_2
      try clear hcz38_3
      try clear hcz38_4
      try clear hcz38_5
      try clear hcz40_0
      try clear hcz40_1
      try clear hcz40_2
      try clear hcz40_3
      try clear hcz40_4
      try clear hcz40_5
      try clear hcz42_0
      try clear hcz42_1
      try clear hcz42_2
      try clear hcz42_3
      try clear hcz42_4
      try clear hcz42_5
      try clear hcz45_0
      try clear hcz45_1
      try clear hcz45_2
      try clear hcz45_3
      try clear hcz45_4
      try clear hcz45_5
      try clear hcz50_0
      try clear hcz50_1
      try clear hcz50_2
      try clear hcz50_3
      try clear hcz50_4
      try clear hcz50_5
      try clear hcz51_0
      try clear hcz51_1
      try clear hcz53_0
      try clear hcz53_1
      try clear hcz53_2
      try clear hcz53_3
      try clear hcz53_4
      try clear hcz53_5
      try clear hcz54_0
      try clear hcz54_1
      try clear hfz13_0
      try clear hfz13_1
      try clear hfz15_0
      try clear hfz15_1
      try clear hfz15_2
      try clear hfz15_3
      try clear hfz15_4
      try clear hfz15_5
      try clear hfz18_0
      try clear hfz18_1
      try clear hfz20_0
      try clear hfz20_1
      try clear hfz20_2
      try clear hfz20_3
      try clear hfz20_4
      try clear hfz20_5
      try clear hfz23_0
      try clear hfz23_1
      try clear hfz34_0
      try clear hfz34_1
      try clear hfz34_2
      try clear hfz34_3
      try clear hfz34_4
      try clear hfz34_5
      try clear hfz36_0
      try clear hfz36_1
      try clear hfz36_2
      try clear hfz36_3
      try clear hfz36_4
      try clear hfz36_5
      try clear hfz38_0
      try clear hfz38_1
      try clear hfz38_2
      try clear hfz38_3
      try clear hfz38_4
      try clear hfz38_5
      try clear hfz40_0
      try clear hfz40_1
      try clear hfz40_2
      try clear hfz40_3
      try clear hfz40_4
      try clear hfz40_5
      try clear hfz42_0
      try clear hfz42_1
      try clear hfz42_2
      try clear hfz42_3
      try clear hfz42_4
      try clear hfz42_5
      try clear hfz45_0
      try clear hfz45_1
      try clear hfz45_2
      try clear hfz45_3
      try clear hfz45_4
      try clear hfz45_5
      try clear hfz50_0
      try clear hfz50_1
      try clear hfz50_2
      try clear hfz50_3
      try clear hfz50_4
      try clear hfz50_5
      try clear hfz51_0
      try clear hfz51_1
      try clear hfz53_0
      try clear hfz53_1
      try clear hfz53_2
      try clear hfz53_3
      try clear hfz53_4
      try clear hfz53_5
      try clear hfz54_0
      try clear hfz54_1
      try clear p2
      obtain ⟨kq, x70_42, rfl, HA, HJ42, BK277, BK278, HB⟩ := hcut
      cases kq with
      | zero => exact absurd HA.out (by simp [impl_CanStrip.j1])
      | succ kj42 =>
       have H := HA.out
       clear HA
       simp only [impl_CanStrip.j1] at H
       by_cases c55 : x70_42 = true
       ·subst c55
        have H1 : (some false) = some r := by rw [if_pos rfl] at H; exact H
        clear H
        have H := H1
        clear H1
        obtain rfl := Option.some.inj H
        go_wp2
        go_ret
        exact ⟨wv3, wv12⟩
       ·replace c55 := Bool.eq_false_iff.mpr c55
        subst c55
        have H1 : (if a2 = 2 then (if a1_5 ≥ a0_0 then ((impl_areApart.f a1_2 a1_3 a1_5).bind fun t286 => (if t286 = true then ((impl_areApart.f a1_2 a1_4 a1_5).bind fun t287 => (some t287)) else (some false))) else (some false)) else (some true)) = some r := by rw [if_neg (show ¬ (false = true) by decide)] at H; exact H
        clear H
        have H := H1
        clear H1
        by_cases c56 : a2 = 2
        ·rw [if_pos c56] at H
         have c56b0 : (a2 == 2) = true := beq_iff_eq.mpr c56
         have c56b1 : (a2 != 2) = false := bne_eq_false_iff_eq.mpr c56
         clear c56
         by_cases c57 : a1_5 ≥ a0_0
         ·rw [if_pos c57] at H
          have c57b0 : decide (a0_0 ≤ a1_5) = true := decide_eq_true c57
          clear c57
          replace H := Option.bind_eq_some_iff.mp H
          obtain ⟨t286, A580, H⟩ := H
          replace H : (if t286 = true then ((impl_areApart.f a1_2 a1_4 a1_5).bind fun t287 => (some t287)) else (some false)) = some r := H
          have A58 := Aside0.mk A580
          clear A580
          by_cases c59 : t286 = true
          ·subst c59
           have H1 : ((impl_areApart.f a1_2 a1_4 a1_5).bind fun t287 => (some t287)) = some r := by rw [if_pos rfl] at H; exact H
           clear H
           have H := H1
           clear H1
           replace H := Option.bind_eq_some_iff.mp H
           obtain ⟨t287, A600, H⟩ := H
           replace H : (some t287) = some r := H
           have A60 := Aside0.mk A600
           clear A600
           obtain rfl := Option.some.inj H
           have hnb61 := NB278_277.out
           have hnc61 := NB277_278.out
           have hcz62_0 : wc.cell? ⟨gb278, 0, none⟩ = some (.int .i64 a1_0) := xvc BK278.out
           have hcz62_1 : wc.cell? ⟨gb278, 1, none⟩ = some (.int .i64 a1_1) := xvc BK278.out
           have hcz62_2 : wc.cell? ⟨gb278, 2, none⟩ = some (.int .i64 a1_2) := xvc BK278.out
           have hcz62_3 : wc.cell? ⟨gb278, 3, none⟩ = some (.int .i64 a1_3) := xvc BK278.out
           have hcz62_4 : wc.cell? ⟨gb278, 4, none⟩ = some (.int .i64 a1_4) := xvc BK278.out
           have hcz62_5 : wc.cell? ⟨gb278, 5, none⟩ = some (.int .i64 a1_5) := xvc BK278.out
           have hfz62_0 := blk_frozen BK278.out 0
           have hfz62_1 := blk_frozen BK278.out 1
           have hfz62_2 := blk_frozen BK278.out 2
           have hfz62_3 := blk_frozen BK278.out 3
           have hfz62_4 := blk_frozen BK278.out 4
           have hfz62_5 := blk_frozen BK278.out 5
           have hcz63_0 : wc.cell? ⟨gb277, 0, none⟩ = some (.int .i64 a0_0) := xvc BK277.out
           have hcz63_1 : wc.cell? ⟨gb277, 1, none⟩ = some (.int .i64 a0_1) := xvc BK277.out
           have hfz63_0 := blk_frozen BK277.out 0
           have hfz63_1 := blk_frozen BK277.out 1
           go_wp2_with (first | (go_at_call 89; (with_reducible refine (impl_areApart.calls a1_2 a1_3 a1_5 true _ A58.out).mono ?_); rintro e w' ⟨rfl, ⟨nd, rfl⟩⟩) | (go_at_call 89; (with_reducible refine (impl_areApart.calls a1_2 a1_4 a1_5 t287 _ A60.out).mono ?_); rintro e w' ⟨rfl, ⟨nd, rfl⟩⟩))
           go_ret
           exact ⟨wv3, wv12⟩
          ·replace c59 := Bool.eq_false_iff.mpr c59
           subst c59
           have H1 : (some false) = some r := by rw [if_neg (show ¬ (false = true) by decide)] at H; exact H
           clear H
           have H := H1
           clear H1
           obtain rfl := Option.some.inj H
           have hnb64 := NB278_277.out
           have hnc64 := NB277_278.out
           have hcz65_0 : wc.cell? ⟨gb278, 0, none⟩ = some (.int .i64 a1_0) := xvc BK278.out
           have hcz65_1 : wc.cell? ⟨gb278, 1, none⟩ = some (.int .i64 a1_1) := xvc BK278.out
           have hcz65_2 : wc.cell? ⟨gb278, 2, none⟩ = some (.int .i64 a1_2) := xvc BK278.out
           have hcz65_3 : wc.cell? ⟨gb278, 3, none⟩ = some (.int .i64 a1_3) := xvc BK278.out
           have hcz65_4 : wc.cell? ⟨gb278, 4, none⟩ = some (.int .i64 a1_4) := xvc BK278.out
           have hcz65_5 : wc.cell? ⟨gb278, 5, none⟩ = some (.int .i64 a1_5) := xvc BK278.out
           have hfz65_0 := blk_frozen BK278.out 0
           have hfz65_1 := blk_frozen BK278.out 1
           have hfz65_2 := blk_frozen BK278.out 2
           have hfz65_3 := blk_frozen BK278.out 3
           have hfz65_4 := blk_frozen BK278.out 4
           have hfz65_5 := blk_frozen BK278.out 5
           have hcz66_0 : wc.cell? ⟨gb277, 0, none⟩ = some (.int .i64 a0_0) := xvc BK277.out
           have hcz66_1 : wc.cell? ⟨gb277, 1, none⟩ = some (.int .i64 a0_1) := xvc BK277.out
           have hfz66_0 := blk_frozen BK277.out 0
           have hfz66_1 := blk_frozen BK277.out 1
           go_wp2_with (first | (go_at_call 89; (with_reducible refine (impl_areApart.calls a1_2 a1_3 a1_5 false _ A58.out).mono ?_); rintro e w' ⟨rfl, ⟨nd, rfl⟩⟩))
           go_ret
           exact ⟨wv3, wv12⟩
         ·rw [if_neg c57] at H
          have c57b0 : decide (a0_0 ≤ a1_5) = false := decide_eq_false c57
          clear c57
          obtain rfl := Option.some.inj H
          have hnb67 := NB278_277.out
          have hnc67 := NB277_278.out
          have hcz68_0 : wc.cell? ⟨gb278, 0, none⟩ = some (.int .i64 a1_0) := xvc BK278.out
          have hcz68_1 : wc.cell? ⟨gb278, 1, none⟩ = some (.int .i64 a1_1) := xvc BK278.out
          have hcz68_2 : wc.cell? ⟨gb278, 2, none⟩ = some (.int .i64 a1_2) := xvc BK278.out
          have hcz68_3 : wc.cell? ⟨gb278, 3, none⟩ = some (.int .i64 a1_3) := xvc BK278.out
          have hcz68_4 : wc.cell? ⟨gb278, 4, none⟩ = some (.int .i64 a1_4) := xvc BK278.out
          have hcz68_5 : wc.cell? ⟨gb278, 5, none⟩ = some (.int .i64 a1_5) := xvc BK278.out
          have hfz68_0 := blk_frozen BK278.out 0
          have hfz68_1 := blk_frozen BK278.out 1
          have hfz68_2 := blk_frozen BK278.out 2
          have hfz68_3 := blk_frozen BK278.out 3
          have hfz68_4 := blk_frozen BK278.out 4
          have hfz68_5 := blk_frozen BK278.out 5
          have hcz69_0 : wc.cell? ⟨gb277, 0, none⟩ = some (.int .i64 a0_0) := xvc BK277.out
          have hcz69_1 : wc.cell? ⟨gb277, 1, none⟩ = some (.int .i64 a0_1) := xvc BK277.out
          have hfz69_0 := blk_frozen BK277.out 0
          have hfz69_1 := blk_frozen BK277.out 1
          go_wp2
          go_ret
          exact ⟨wv3, wv12⟩
        ·rw [if_neg c56] at H
         have c56b0 : (a2 == 2) = false := beq_eq_false_iff_ne.mpr c56
         have c56b1 : (a2 != 2) = true := bne_iff_ne.mpr c56
         obtain rfl := Option.some.inj H
         go_wp2
         go_ret
         exact ⟨wv3, wv12⟩

end Go.Proofs.Ytpfoeologjacfaa.V
