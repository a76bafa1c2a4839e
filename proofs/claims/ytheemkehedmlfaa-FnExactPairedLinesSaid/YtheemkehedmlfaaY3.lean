-- Written by a program of this session (wip/tools) over the kit's print.
-- COMPACT
import Derived.Test.YtheemkehedmlfaaY0
import Derived.Test.YtheemkehedmlfaaY2
namespace Go.Proofs.Ytheemkehedmlfaa.Y
open Go.RowKit Go.Proofs.YtheemkehedmlfaaW.PrintWords Go.Proofs.YtheemkehedmlfaaW.PrintLast Go.Proofs.YtheemkehedmlfaaW.PrintMore
attribute [local go_sem] max2_int min2_int max_two min_two max_three min_three max_four min_four   -- for this text's walks alone
set_option linter.unusedVariables false
set_option linter.unusedSimpArgs false

/-! ### spec_l08Line: function 93 -/
mutual
def spec_l08Line.j0 : Nat → Int → Bool → Int → Int → Int → Int → Int → Option (Bool)
 | 0, _, _, _, _, _, _, _ => none
 | k + 1, x6, x48, x107000, x107001, x107002, x107003, x107004 => if x48 = true then (if x107001 = 0 then ((spec_l01CmpIs.f x107002).bind fun t113 => (if t113 = true then ((spec_l08Var.f x107003).bind fun t114 => (if t114 = true then ((spec_l08Var.f x107004).bind fun t115 => (some t115)) else (some false))) else (some false))) else (some false)) else (if x6 = 3 then (spec_l08Line.j1 k x6 (x6 == 3) x107000 x107001 x107002 x107003 x107004) else (spec_l08Line.j1 k x6 (x6 == 4) x107000 x107001 x107002 x107003 x107004))
def spec_l08Line.j1 : Nat → Int → Bool → Int → Int → Int → Int → Int → Option (Bool)
 | 0, _, _, _, _, _, _, _ => none
 | k + 1, x6, x69, x107000, x107001, x107002, x107003, x107004 => if x69 = true then (if x107001 = 0 then (if x107002 = 0 then (if x107003 = 0 then (some (x107004 == 0)) else (some false)) else (some false)) else (some false)) else (if x6 = 5 then (if x107001 = 0 then (if x107002 = 0 then (if x107003 = 0 then ((spec_l00In.f x107004 1 8).bind fun t116 => (some t116)) else (some false)) else (some false)) else (some false)) else (some false))
end
def spec_l08Line.f (k : Nat) (a0 : Int) (a1_0 : Int) (a1_1 : Int) (a1_2 : Int) (a1_3 : Int) (a1_4 : Int) : Option (Bool) := if a1_0 = 0 then ((spec_l08Var.f a1_1).bind fun t107 => (if t107 = true then ((spec_l01OpIs.f a1_2).bind fun t108 => (if t108 = true then ((spec_l08Var.f a1_3).bind fun t109 => (if t109 = true then ((spec_l08Var.f a1_4).bind fun t110 => (some t110)) else (some false))) else (some false))) else (some false))) else (if a1_0 = 1 then ((spec_l08Var.f a1_1).bind fun t111 => (if t111 = true then (if a1_2 = 0 then (if a1_3 = 0 then ((spec_l01Word.f a0 a1_4).bind fun t112 => (some t112)) else (some false)) else (some false)) else (some false))) else (if a1_0 = 2 then (spec_l08Line.j0 k a1_0 (a1_0 == 2) a1_0 a1_1 a1_2 a1_3 a1_4) else (spec_l08Line.j0 k a1_0 (a1_0 == 6) a1_0 a1_1 a1_2 a1_3 a1_4)))
theorem spec_l08Line.mono_l : ∀ k, (∀ y0 y1 y2 y3 y4 y5 y6, LeO (spec_l08Line.j0 k y0 y1 y2 y3 y4 y5 y6) (spec_l08Line.j0 (k + 1) y0 y1 y2 y3 y4 y5 y6)) ∧ (∀ y0 y1 y2 y3 y4 y5 y6, LeO (spec_l08Line.j1 k y0 y1 y2 y3 y4 y5 y6) (spec_l08Line.j1 (k + 1) y0 y1 y2 y3 y4 y5 y6))
 | 0 => ⟨fun _ _ _ _ _ _ _ r h => by simp [spec_l08Line.j0] at h, fun _ _ _ _ _ _ _ r h => by simp [spec_l08Line.j1] at h⟩
 | k + 1 => by
  obtain ⟨ih0, ih1⟩ := spec_l08Line.mono_l k
  refine ⟨?_, ?_⟩
  ·intro y0 y1 y2 y3 y4 y5 y6
   unfold spec_l08Line.j0
   repeat' first
   | (with_reducible exact ih0 _ _ _ _ _ _ _)
   | (with_reducible exact ih1 _ _ _ _ _ _ _)
   | (with_reducible exact LeO.refl _)
   | (with_reducible exact LeO.none _)
   | (with_reducible refine LeO.ite ?_ ?_)
   | (with_reducible refine LeO.bind ?_ (fun _ => ?_))
   | exact ih0 _ _ _ _ _ _ _
   | exact ih1 _ _ _ _ _ _ _
   | exact LeO.none _
   | refine LeO.ite ?_ ?_
   | refine LeO.bind ?_ (fun _ => ?_)
  intro y0 y1 y2 y3 y4 y5 y6
  unfold spec_l08Line.j1
  repeat' first
  | (with_reducible exact ih0 _ _ _ _ _ _ _)
  | (with_reducible exact ih1 _ _ _ _ _ _ _)
  | (with_reducible exact LeO.refl _)
  | (with_reducible exact LeO.none _)
  | (with_reducible refine LeO.ite ?_ ?_)
  | (with_reducible refine LeO.bind ?_ (fun _ => ?_))
  | exact ih0 _ _ _ _ _ _ _
  | exact ih1 _ _ _ _ _ _ _
  | exact LeO.none _
  | refine LeO.ite ?_ ?_
  | refine LeO.bind ?_ (fun _ => ?_)
theorem spec_l08Line.mono : ∀ a0 a1 a2 a3 a4 a5 k, LeO (spec_l08Line.f k a0 a1 a2 a3 a4 a5) (spec_l08Line.f (k + 1) a0 a1 a2 a3 a4 a5) := by
 intro a0 a1 a2 a3 a4 a5 k
 obtain ⟨ih0, ih1⟩ := spec_l08Line.mono_l k
 unfold spec_l08Line.f
 repeat' first
   | (with_reducible exact ih0 _ _ _ _ _ _ _)
   | (with_reducible exact ih1 _ _ _ _ _ _ _)
   | (with_reducible exact LeO.refl _)
   | (with_reducible exact LeO.none _)
   | (with_reducible refine LeO.ite ?_ ?_)
   | (with_reducible refine LeO.bind ?_ (fun _ => ?_))
   | exact ih0 _ _ _ _ _ _ _
   | exact ih1 _ _ _ _ _ _ _
   | exact LeO.none _
   | refine LeO.ite ?_ ?_
   | refine LeO.bind ?_ (fun _ => ?_)
set_option maxHeartbeats 8000000 in
set_option maxRecDepth 100000 in
theorem spec_l08Line.calls (k : Nat) (a0 : Int) (a1_0 : Int) (a1_1 : Int) (a1_2 : Int) (a1_3 : Int) (a1_4 : Int) (r : Bool) (w : World) (h : spec_l08Line.f k a0 a1_0 a1_1 a1_2 a1_3 a1_4 = some r) :
  Calls Try.prog 93 #[.int .i64 a0, .agg #[.int .i64 a1_0, .int .i64 a1_1, .int .i64 a1_2, .int .i64 a1_3, .int .i64 a1_4]] w fun e w' => e = .returned (.bool r) ∧ Below w.heap.size w w' := by
 have hu63 := Try.underlying63
 have HB := Aside0.mk (Below.refl w.heap.size w)
 have H : (if a1_0 = 0 then ((spec_l08Var.f a1_1).bind fun t107 => (if t107 = true then ((spec_l01OpIs.f a1_2).bind fun t108 => (if t108 = true then ((spec_l08Var.f a1_3).bind fun t109 => (if t109 = true then ((spec_l08Var.f a1_4).bind fun t110 => (some t110)) else (some false))) else (some false))) else (some false))) else (if a1_0 = 1 then ((spec_l08Var.f a1_1).bind fun t111 => (if t111 = true then (if a1_2 = 0 then (if a1_3 = 0 then ((spec_l01Word.f a0 a1_4).bind fun t112 => (some t112)) else (some false)) else (some false)) else (some false))) else (if a1_0 = 2 then (spec_l08Line.j0 k a1_0 (a1_0 == 2) a1_0 a1_1 a1_2 a1_3 a1_4) else (spec_l08Line.j0 k a1_0 (a1_0 == 6) a1_0 a1_1 a1_2 a1_3 a1_4)))) = some r := h
 clear h
 by_cases c3 : a1_0 = 0
 ·rw [if_pos c3] at H
  have c3b0 : (a1_0 == 0) = true := beq_iff_eq.mpr c3
  have c3b1 : (a1_0 != 0) = false := bne_eq_false_iff_eq.mpr c3
  clear c3
  replace H := Option.bind_eq_some_iff.mp H
  obtain ⟨t107, A40, H⟩ := H
  replace H : (if t107 = true then ((spec_l01OpIs.f a1_2).bind fun t108 => (if t108 = true then ((spec_l08Var.f a1_3).bind fun t109 => (if t109 = true then ((spec_l08Var.f a1_4).bind fun t110 => (some t110)) else (some false))) else (some false))) else (some false)) = some r := H
  have A4 := Aside0.mk A40
  clear A40
  by_cases c5 : t107 = true
  ·subst c5
   have H1 : ((spec_l01OpIs.f a1_2).bind fun t108 => (if t108 = true then ((spec_l08Var.f a1_3).bind fun t109 => (if t109 = true then ((spec_l08Var.f a1_4).bind fun t110 => (some t110)) else (some false))) else (some false))) = some r := by rw [if_pos rfl] at H; exact H
   clear H
   have H := H1
   clear H1
   replace H := Option.bind_eq_some_iff.mp H
   obtain ⟨t108, A60, H⟩ := H
   replace H : (if t108 = true then ((spec_l08Var.f a1_3).bind fun t109 => (if t109 = true then ((spec_l08Var.f a1_4).bind fun t110 => (some t110)) else (some false))) else (some false)) = some r := H
   have A6 := Aside0.mk A60
   clear A60
   by_cases c7 : t108 = true
   ·subst c7
    have H1 : ((spec_l08Var.f a1_3).bind fun t109 => (if t109 = true then ((spec_l08Var.f a1_4).bind fun t110 => (some t110)) else (some false))) = some r := by rw [if_pos rfl] at H; exact H
    clear H
    have H := H1
    clear H1
    replace H := Option.bind_eq_some_iff.mp H
    obtain ⟨t109, A80, H⟩ := H
    replace H : (if t109 = true then ((spec_l08Var.f a1_4).bind fun t110 => (some t110)) else (some false)) = some r := H
    have A8 := Aside0.mk A80
    clear A80
    by_cases c9 : t109 = true
    ·subst c9
     have H1 : ((spec_l08Var.f a1_4).bind fun t110 => (some t110)) = some r := by rw [if_pos rfl] at H; exact H
     clear H
     have H := H1
     clear H1
     replace H := Option.bind_eq_some_iff.mp H
     obtain ⟨t110, A100, H⟩ := H
     replace H : (some t110) = some r := H
     have A10 := Aside0.mk A100
     clear A100
     obtain rfl := Option.some.inj H
     go_enter Try.func93, Try.ntmps93
     go_wp2_with (first | ((with_reducible refine gate_dst (N := 3) rfl ?_); refine box_event ?hg (N := 3) ?hd (cs := #[.int .i64 a1_0, .int .i64 a1_1, .int .i64 a1_2, .int .i64 a1_3, .int .i64 a1_4]) (t := 63) ?hr ?_; (case hd => rfl); (case hg => rfl); (case hr => first | (go_simp; done) | (go_simp; rfl)); intro gb106 hg w11 hbox hb; have BK106 := Aside0.mk (hbox); have GW106 := Aside0.mk ((by rw [hg]; exact (below_size (xyo HB.out)) : w.heap.size ≤ gb106)); have GE106 := Aside0.mk ((by rw [hg]; exact (below_size (xyo HB.out)) : w.heap.size ≤ gb106)); replace HB := Aside0.mk (below_step (xyo HB.out) hb); clear hb hbox hg; have hcz12_0 : w11.cell? ⟨gb106, 0, none⟩ = some (.int .i64 a1_0) := xyc BK106.out; have hcz12_1 : w11.cell? ⟨gb106, 1, none⟩ = some (.int .i64 a1_1) := xyc BK106.out; have hcz12_2 : w11.cell? ⟨gb106, 2, none⟩ = some (.int .i64 a1_2) := xyc BK106.out; have hcz12_3 : w11.cell? ⟨gb106, 3, none⟩ = some (.int .i64 a1_3) := xyc BK106.out; have hcz12_4 : w11.cell? ⟨gb106, 4, none⟩ = some (.int .i64 a1_4) := xyc BK106.out; have hfz12_0 := blk_frozen BK106.out 0; have hfz12_1 := blk_frozen BK106.out 1; have hfz12_2 := blk_frozen BK106.out 2; have hfz12_3 := blk_frozen BK106.out 3; have hfz12_4 := blk_frozen BK106.out 4) | ((with_reducible refine gate_callee (f := 128) rfl ?_); refine goesL_ (some 11) rfl rfl Try.func128 (by kernel_rfl) rfl #[.int .i64 a1_1] rfl wy2 ?_; (with_reducible refine (spec_l08Var.calls a1_1 true _ A4.out).mono ?_); rintro e w' ⟨rfl, ⟨nd, rfl⟩⟩; refine ⟨_, rfl, ?_⟩) | (go_at_call 129; (with_reducible refine (spec_l01OpIs.calls a1_2 true _ A6.out).mono ?_); rintro e w' ⟨rfl, ⟨nd, rfl⟩⟩) | (go_at_call 128; (with_reducible refine (spec_l08Var.calls a1_3 true _ A8.out).mono ?_); rintro e w' ⟨rfl, ⟨nd, rfl⟩⟩) | (go_at_call 128; (with_reducible refine (spec_l08Var.calls a1_4 t110 _ A10.out).mono ?_); rintro e w' ⟨rfl, ⟨nd, rfl⟩⟩))
     go_ret
     exact ⟨wy3, wy6⟩
    replace c9 := Bool.eq_false_iff.mpr c9
    subst c9
    have H1 : (some false) = some r := by rw [if_neg (show ¬ (false = true) by decide)] at H; exact H
    clear H
    have H := H1
    clear H1
    obtain rfl := Option.some.inj H
    go_enter Try.func93, Try.ntmps93
    go_wp2_with (first | ((with_reducible refine gate_dst (N := 3) rfl ?_); refine box_event ?hg (N := 3) ?hd (cs := #[.int .i64 a1_0, .int .i64 a1_1, .int .i64 a1_2, .int .i64 a1_3, .int .i64 a1_4]) (t := 63) ?hr ?_; (case hd => rfl); (case hg => rfl); (case hr => first | (go_simp; done) | (go_simp; rfl)); intro gb106 hg w13 hbox hb; have BK106 := Aside0.mk (hbox); have GW106 := Aside0.mk ((by rw [hg]; exact (below_size (xyo HB.out)) : w.heap.size ≤ gb106)); have GE106 := Aside0.mk ((by rw [hg]; exact (below_size (xyo HB.out)) : w.heap.size ≤ gb106)); replace HB := Aside0.mk (below_step (xyo HB.out) hb); clear hb hbox hg; have hcz14_0 : w13.cell? ⟨gb106, 0, none⟩ = some (.int .i64 a1_0) := xyc BK106.out; have hcz14_1 : w13.cell? ⟨gb106, 1, none⟩ = some (.int .i64 a1_1) := xyc BK106.out; have hcz14_2 : w13.cell? ⟨gb106, 2, none⟩ = some (.int .i64 a1_2) := xyc BK106.out; have hcz14_3 : w13.cell? ⟨gb106, 3, none⟩ = some (.int .i64 a1_3) := xyc BK106.out; have hcz14_4 : w13.cell? ⟨gb106, 4, none⟩ = some (.int .i64 a1_4) := xyc BK106.out; have hfz14_0 := blk_frozen BK106.out 0; have hfz14_1 := blk_frozen BK106.out 1; have hfz14_2 := blk_frozen BK106.out 2; have hfz14_3 := blk_frozen BK106.out 3; have hfz14_4 := blk_frozen BK106.out 4) | ((with_reducible refine gate_callee (f := 128) rfl ?_); refine goesL_ (some 11) rfl rfl Try.func128 (by kernel_rfl) rfl #[.int .i64 a1_1] rfl wy2 ?_; (with_reducible refine (spec_l08Var.calls a1_1 true _ A4.out).mono ?_); rintro e w' ⟨rfl, ⟨nd, rfl⟩⟩; refine ⟨_, rfl, ?_⟩) | (go_at_call 129; (with_reducible refine (spec_l01OpIs.calls a1_2 true _ A6.out).mono ?_); rintro e w' ⟨rfl, ⟨nd, rfl⟩⟩) | (go_at_call 128; (with_reducible refine (spec_l08Var.calls a1_3 false _ A8.out).mono ?_); rintro e w' ⟨rfl, ⟨nd, rfl⟩⟩))
    go_ret
    exact ⟨wy3, wy6⟩
   replace c7 := Bool.eq_false_iff.mpr c7
   subst c7
   have H1 : (some false) = some r := by rw [if_neg (show ¬ (false = true) by decide)] at H; exact H
   clear H
   have H := H1
   clear H1
   obtain rfl := Option.some.inj H
   go_enter Try.func93, Try.ntmps93
   go_wp2_with (first | ((with_reducible refine gate_dst (N := 3) rfl ?_); refine box_event ?hg (N := 3) ?hd (cs := #[.int .i64 a1_0, .int .i64 a1_1, .int .i64 a1_2, .int .i64 a1_3, .int .i64 a1_4]) (t := 63) ?hr ?_; (case hd => rfl); (case hg => rfl); (case hr => first | (go_simp; done) | (go_simp; rfl)); intro gb106 hg w15 hbox hb; have BK106 := Aside0.mk (hbox); have GW106 := Aside0.mk ((by rw [hg]; exact (below_size (xyo HB.out)) : w.heap.size ≤ gb106)); have GE106 := Aside0.mk ((by rw [hg]; exact (below_size (xyo HB.out)) : w.heap.size ≤ gb106)); replace HB := Aside0.mk (below_step (xyo HB.out) hb); clear hb hbox hg; have hcz16_0 : w15.cell? ⟨gb106, 0, none⟩ = some (.int .i64 a1_0) := xyc BK106.out; have hcz16_1 : w15.cell? ⟨gb106, 1, none⟩ = some (.int .i64 a1_1) := xyc BK106.out; have hcz16_2 : w15.cell? ⟨gb106, 2, none⟩ = some (.int .i64 a1_2) := xyc BK106.out; have hcz16_3 : w15.cell? ⟨gb106, 3, none⟩ = some (.int .i64 a1_3) := xyc BK106.out; have hcz16_4 : w15.cell? ⟨gb106, 4, none⟩ = some (.int .i64 a1_4) := xyc BK106.out; have hfz16_0 := blk_frozen BK106.out 0; have hfz16_1 := blk_frozen BK106.out 1; have hfz16_2 := blk_frozen BK106.out 2; have hfz16_3 := blk_frozen BK106.out 3; have hfz16_4 := blk_frozen BK106.out 4) | ((with_reducible refine gate_callee (f := 128) rfl ?_); refine goesL_ (some 11) rfl rfl Try.func128 (by kernel_rfl) rfl #[.int .i64 a1_1] rfl wy2 ?_; (with_reducible refine (spec_l08Var.calls a1_1 true _ A4.out).mono ?_); rintro e w' ⟨rfl, ⟨nd, rfl⟩⟩; refine ⟨_, rfl, ?_⟩) | (go_at_call 129; (with_reducible refine (spec_l01OpIs.calls a1_2 false _ A6.out).mono ?_); rintro e w' ⟨rfl, ⟨nd, rfl⟩⟩))
   go_ret
   exact ⟨wy3, wy6⟩
  replace c5 := Bool.eq_false_iff.mpr c5
  subst c5
  have H1 : (some false) = some r := by rw [if_neg (show ¬ (false = true) by decide)] at H; exact H
  clear H
  have H := H1
  clear H1
  obtain rfl := Option.some.inj H
  go_enter Try.func93, Try.ntmps93
  go_wp2_with (first | ((with_reducible refine gate_dst (N := 3) rfl ?_); refine box_event ?hg (N := 3) ?hd (cs := #[.int .i64 a1_0, .int .i64 a1_1, .int .i64 a1_2, .int .i64 a1_3, .int .i64 a1_4]) (t := 63) ?hr ?_; (case hd => rfl); (case hg => rfl); (case hr => first | (go_simp; done) | (go_simp; rfl)); intro gb106 hg w17 hbox hb; have BK106 := Aside0.mk (hbox); have GW106 := Aside0.mk ((by rw [hg]; exact (below_size (xyo HB.out)) : w.heap.size ≤ gb106)); have GE106 := Aside0.mk ((by rw [hg]; exact (below_size (xyo HB.out)) : w.heap.size ≤ gb106)); replace HB := Aside0.mk (below_step (xyo HB.out) hb); clear hb hbox hg; have hcz18_0 : w17.cell? ⟨gb106, 0, none⟩ = some (.int .i64 a1_0) := xyc BK106.out; have hcz18_1 : w17.cell? ⟨gb106, 1, none⟩ = some (.int .i64 a1_1) := xyc BK106.out; have hcz18_2 : w17.cell? ⟨gb106, 2, none⟩ = some (.int .i64 a1_2) := xyc BK106.out; have hcz18_3 : w17.cell? ⟨gb106, 3, none⟩ = some (.int .i64 a1_3) := xyc BK106.out; have hcz18_4 : w17.cell? ⟨gb106, 4, none⟩ = some (.int .i64 a1_4) := xyc BK106.out; have hfz18_0 := blk_frozen BK106.out 0; have hfz18_1 := blk_frozen BK106.out 1; have hfz18_2 := blk_frozen BK106.out 2; have hfz18_3 := blk_frozen BK106.out 3; have hfz18_4 := blk_frozen BK106.out 4) | ((with_reducible refine gate_callee (f := 128) rfl ?_); refine goesL_ (some 11) rfl rfl Try.func128 (by kernel_rfl) rfl #[.int .i64 a1_1] rfl wy2 ?_; (with_reducible refine (spec_l08Var.calls a1_1 false _ A4.out).mono ?_); rintro e w' ⟨rfl, ⟨nd, rfl⟩⟩; refine ⟨_, rfl, ?_⟩))
  go_ret
  exact ⟨wy3, wy6⟩
 rw [if_neg c3] at H
 have c3b0 : (a1_0 == 0) = false := beq_eq_false_iff_ne.mpr c3
 have c3b1 : (a1_0 != 0) = true := bne_iff_ne.mpr c3
 by_cases c19 : a1_0 = 1
 ·rw [if_pos c19] at H
  have c19b0 : (a1_0 == 1) = true := beq_iff_eq.mpr c19
  have c19b1 : (a1_0 != 1) = false := bne_eq_false_iff_eq.mpr c19
  clear c19
  replace H := Option.bind_eq_some_iff.mp H
  obtain ⟨t111, A200, H⟩ := H
  replace H : (if t111 = true then (if a1_2 = 0 then (if a1_3 = 0 then ((spec_l01Word.f a0 a1_4).bind fun t112 => (some t112)) else (some false)) else (some false)) else (some false)) = some r := H
  have A20 := Aside0.mk A200
  clear A200
  by_cases c21 : t111 = true
  ·subst c21
   have H1 : (if a1_2 = 0 then (if a1_3 = 0 then ((spec_l01Word.f a0 a1_4).bind fun t112 => (some t112)) else (some false)) else (some false)) = some r := by rw [if_pos rfl] at H; exact H
   clear H
   have H := H1
   clear H1
   by_cases c22 : a1_2 = 0
   ·rw [if_pos c22] at H
    have c22b0 : (a1_2 == 0) = true := beq_iff_eq.mpr c22
    have c22b1 : (a1_2 != 0) = false := bne_eq_false_iff_eq.mpr c22
    clear c22
    by_cases c23 : a1_3 = 0
    ·rw [if_pos c23] at H
     have c23b0 : (a1_3 == 0) = true := beq_iff_eq.mpr c23
     have c23b1 : (a1_3 != 0) = false := bne_eq_false_iff_eq.mpr c23
     clear c23
     replace H := Option.bind_eq_some_iff.mp H
     obtain ⟨t112, A240, H⟩ := H
     replace H : (some t112) = some r := H
     have A24 := Aside0.mk A240
     clear A240
     obtain rfl := Option.some.inj H
     go_enter Try.func93, Try.ntmps93
     go_wp2_with (first | ((with_reducible refine gate_dst (N := 3) rfl ?_); refine box_event ?hg (N := 3) ?hd (cs := #[.int .i64 a1_0, .int .i64 a1_1, .int .i64 a1_2, .int .i64 a1_3, .int .i64 a1_4]) (t := 63) ?hr ?_; (case hd => rfl); (case hg => rfl); (case hr => first | (go_simp; done) | (go_simp; rfl)); intro gb106 hg w25 hbox hb; have BK106 := Aside0.mk (hbox); have GW106 := Aside0.mk ((by rw [hg]; exact (below_size (xyo HB.out)) : w.heap.size ≤ gb106)); have GE106 := Aside0.mk ((by rw [hg]; exact (below_size (xyo HB.out)) : w.heap.size ≤ gb106)); replace HB := Aside0.mk (below_step (xyo HB.out) hb); clear hb hbox hg; have hcz26_0 : w25.cell? ⟨gb106, 0, none⟩ = some (.int .i64 a1_0) := xyc BK106.out; have hcz26_1 : w25.cell? ⟨gb106, 1, none⟩ = some (.int .i64 a1_1) := xyc BK106.out; have hcz26_2 : w25.cell? ⟨gb106, 2, none⟩ = some (.int .i64 a1_2) := xyc BK106.out; have hcz26_3 : w25.cell? ⟨gb106, 3, none⟩ = some (.int .i64 a1_3) := xyc BK106.out; have hcz26_4 : w25.cell? ⟨gb106, 4, none⟩ = some (.int .i64 a1_4) := xyc BK106.out; have hfz26_0 := blk_frozen BK106.out 0; have hfz26_1 := blk_frozen BK106.out 1; have hfz26_2 := blk_frozen BK106.out 2; have hfz26_3 := blk_frozen BK106.out 3; have hfz26_4 := blk_frozen BK106.out 4) | ((with_reducible refine gate_callee (f := 128) rfl ?_); refine goesL_ (some 31) rfl rfl Try.func128 (by kernel_rfl) rfl #[.int .i64 a1_1] rfl wy2 ?_; (with_reducible refine (spec_l08Var.calls a1_1 true _ A20.out).mono ?_); rintro e w' ⟨rfl, ⟨nd, rfl⟩⟩; refine ⟨_, rfl, ?_⟩) | (go_at_call 130; (with_reducible refine (spec_l01Word.calls a0 a1_4 t112 _ A24.out).mono ?_); rintro e w' ⟨rfl, ⟨nd, rfl⟩⟩))
     go_ret
     exact ⟨wy3, wy6⟩
    rw [if_neg c23] at H
    have c23b0 : (a1_3 == 0) = false := beq_eq_false_iff_ne.mpr c23
    have c23b1 : (a1_3 != 0) = true := bne_iff_ne.mpr c23
    obtain rfl := Option.some.inj H
    go_enter Try.func93, Try.ntmps93
    go_wp2_with (first | ((with_reducible refine gate_dst (N := 3) rfl ?_); refine box_event ?hg (N := 3) ?hd (cs := #[.int .i64 a1_0, .int .i64 a1_1, .int .i64 a1_2, .int .i64 a1_3, .int .i64 a1_4]) (t := 63) ?hr ?_; (case hd => rfl); (case hg => rfl); (case hr => first | (go_simp; done) | (go_simp; rfl)); intro gb106 hg w27 hbox hb; have BK106 := Aside0.mk (hbox); have GW106 := Aside0.mk ((by rw [hg]; exact (below_size (xyo HB.out)) : w.heap.size ≤ gb106)); have GE106 := Aside0.mk ((by rw [hg]; exact (below_size (xyo HB.out)) : w.heap.size ≤ gb106)); replace HB := Aside0.mk (below_step (xyo HB.out) hb); clear hb hbox hg; have hcz28_0 : w27.cell? ⟨gb106, 0, none⟩ = some (.int .i64 a1_0) := xyc BK106.out; have hcz28_1 : w27.cell? ⟨gb106, 1, none⟩ = some (.int .i64 a1_1) := xyc BK106.out; have hcz28_2 : w27.cell? ⟨gb106, 2, none⟩ = some (.int .i64 a1_2) := xyc BK106.out; have hcz28_3 : w27.cell? ⟨gb106, 3, none⟩ = some (.int .i64 a1_3) := xyc BK106.out; have hcz28_4 : w27.cell? ⟨gb106, 4, none⟩ = some (.int .i64 a1_4) := xyc BK106.out; have hfz28_0 := blk_frozen BK106.out 0; have hfz28_1 := blk_frozen BK106.out 1; have hfz28_2 := blk_frozen BK106.out 2; have hfz28_3 := blk_frozen BK106.out 3; have hfz28_4 := blk_frozen BK106.out 4) | ((with_reducible refine gate_callee (f := 128) rfl ?_); refine goesL_ (some 31) rfl rfl Try.func128 (by kernel_rfl) rfl #[.int .i64 a1_1] rfl wy2 ?_; (with_reducible refine (spec_l08Var.calls a1_1 true _ A20.out).mono ?_); rintro e w' ⟨rfl, ⟨nd, rfl⟩⟩; refine ⟨_, rfl, ?_⟩))
    go_ret
    exact ⟨wy3, wy6⟩
   rw [if_neg c22] at H
   have c22b0 : (a1_2 == 0) = false := beq_eq_false_iff_ne.mpr c22
   have c22b1 : (a1_2 != 0) = true := bne_iff_ne.mpr c22
   obtain rfl := Option.some.inj H
   go_enter Try.func93, Try.ntmps93
   go_wp2_with (first | ((with_reducible refine gate_dst (N := 3) rfl ?_); refine box_event ?hg (N := 3) ?hd (cs := #[.int .i64 a1_0, .int .i64 a1_1, .int .i64 a1_2, .int .i64 a1_3, .int .i64 a1_4]) (t := 63) ?hr ?_; (case hd => rfl); (case hg => rfl); (case hr => first | (go_simp; done) | (go_simp; rfl)); intro gb106 hg w29 hbox hb; have BK106 := Aside0.mk (hbox); have GW106 := Aside0.mk ((by rw [hg]; exact (below_size (xyo HB.out)) : w.heap.size ≤ gb106)); have GE106 := Aside0.mk ((by rw [hg]; exact (below_size (xyo HB.out)) : w.heap.size ≤ gb106)); replace HB := Aside0.mk (below_step (xyo HB.out) hb); clear hb hbox hg; have hcz30_0 : w29.cell? ⟨gb106, 0, none⟩ = some (.int .i64 a1_0) := xyc BK106.out; have hcz30_1 : w29.cell? ⟨gb106, 1, none⟩ = some (.int .i64 a1_1) := xyc BK106.out; have hcz30_2 : w29.cell? ⟨gb106, 2, none⟩ = some (.int .i64 a1_2) := xyc BK106.out; have hcz30_3 : w29.cell? ⟨gb106, 3, none⟩ = some (.int .i64 a1_3) := xyc BK106.out; have hcz30_4 : w29.cell? ⟨gb106, 4, none⟩ = some (.int .i64 a1_4) := xyc BK106.out; have hfz30_0 := blk_frozen BK106.out 0; have hfz30_1 := blk_frozen BK106.out 1; have hfz30_2 := blk_frozen BK106.out 2; have hfz30_3 := blk_frozen BK106.out 3; have hfz30_4 := blk_frozen BK106.out 4) | ((with_reducible refine gate_callee (f := 128) rfl ?_); refine goesL_ (some 31) rfl rfl Try.func128 (by kernel_rfl) rfl #[.int .i64 a1_1] rfl wy2 ?_; (with_reducible refine (spec_l08Var.calls a1_1 true _ A20.out).mono ?_); rintro e w' ⟨rfl, ⟨nd, rfl⟩⟩; refine ⟨_, rfl, ?_⟩))
   go_ret
   exact ⟨wy3, wy6⟩
  replace c21 := Bool.eq_false_iff.mpr c21
  subst c21
  have H1 : (some false) = some r := by rw [if_neg (show ¬ (false = true) by decide)] at H; exact H
  clear H
  have H := H1
  clear H1
  obtain rfl := Option.some.inj H
  go_enter Try.func93, Try.ntmps93
  go_wp2_with (first | ((with_reducible refine gate_dst (N := 3) rfl ?_); refine box_event ?hg (N := 3) ?hd (cs := #[.int .i64 a1_0, .int .i64 a1_1, .int .i64 a1_2, .int .i64 a1_3, .int .i64 a1_4]) (t := 63) ?hr ?_; (case hd => rfl); (case hg => rfl); (case hr => first | (go_simp; done) | (go_simp; rfl)); intro gb106 hg w31 hbox hb; have BK106 := Aside0.mk (hbox); have GW106 := Aside0.mk ((by rw [hg]; exact (below_size (xyo HB.out)) : w.heap.size ≤ gb106)); have GE106 := Aside0.mk ((by rw [hg]; exact (below_size (xyo HB.out)) : w.heap.size ≤ gb106)); replace HB := Aside0.mk (below_step (xyo HB.out) hb); clear hb hbox hg; have hcz32_0 : w31.cell? ⟨gb106, 0, none⟩ = some (.int .i64 a1_0) := xyc BK106.out; have hcz32_1 : w31.cell? ⟨gb106, 1, none⟩ = some (.int .i64 a1_1) := xyc BK106.out; have hcz32_2 : w31.cell? ⟨gb106, 2, none⟩ = some (.int .i64 a1_2) := xyc BK106.out; have hcz32_3 : w31.cell? ⟨gb106, 3, none⟩ = some (.int .i64 a1_3) := xyc BK106.out; have hcz32_4 : w31.cell? ⟨gb106, 4, none⟩ = some (.int .i64 a1_4) := xyc BK106.out; have hfz32_0 := blk_frozen BK106.out 0; have hfz32_1 := blk_frozen BK106.out 1; have hfz32_2 := blk_frozen BK106.out 2; have hfz32_3 := blk_frozen BK106.out 3; have hfz32_4 := blk_frozen BK106.out 4) | ((with_reducible refine gate_callee (f := 128) rfl ?_); refine goesL_ (some 31) rfl rfl Try.func128 (by kernel_rfl) rfl #[.int .i64 a1_1] rfl wy2 ?_; (with_reducible refine (spec_l08Var.calls a1_1 false _ A20.out).mono ?_); rintro e w' ⟨rfl, ⟨nd, rfl⟩⟩; refine ⟨_, rfl, ?_⟩))
  go_ret
  exact ⟨wy3, wy6⟩
 rw [if_neg c19] at H
 have c19b0 : (a1_0 == 1) = false := beq_eq_false_iff_ne.mpr c19
 have c19b1 : (a1_0 != 1) = true := bne_iff_ne.mpr c19
 have HC33 := Aside0.mk H
 clear H
 go_enter Try.func93, Try.ntmps93
 go_upto_if 48 with (first | ((with_reducible refine gate_dst (N := 3) rfl ?_); refine box_event ?hg (N := 3) ?hd (cs := #[.int .i64 a1_0, .int .i64 a1_1, .int .i64 a1_2, .int .i64 a1_3, .int .i64 a1_4]) (t := 63) ?hr ?_; (case hd => rfl); (case hg => rfl); (case hr => first | (go_simp; done) | (go_simp; rfl)); intro gb106 hg w34 hbox hb; have BK106 := Aside0.mk (hbox); have GW106 := Aside0.mk ((by rw [hg]; exact (below_size (xyo HB.out)) : w.heap.size ≤ gb106)); have GE106 := Aside0.mk ((by rw [hg]; exact (below_size (xyo HB.out)) : w.heap.size ≤ gb106)); replace HB := Aside0.mk (below_step (xyo HB.out) hb); clear hb hbox hg; have hcz35_0 : w34.cell? ⟨gb106, 0, none⟩ = some (.int .i64 a1_0) := xyc BK106.out; have hcz35_1 : w34.cell? ⟨gb106, 1, none⟩ = some (.int .i64 a1_1) := xyc BK106.out; have hcz35_2 : w34.cell? ⟨gb106, 2, none⟩ = some (.int .i64 a1_2) := xyc BK106.out; have hcz35_3 : w34.cell? ⟨gb106, 3, none⟩ = some (.int .i64 a1_3) := xyc BK106.out; have hcz35_4 : w34.cell? ⟨gb106, 4, none⟩ = some (.int .i64 a1_4) := xyc BK106.out; have hfz35_0 := blk_frozen BK106.out 0; have hfz35_1 := blk_frozen BK106.out 1; have hfz35_2 := blk_frozen BK106.out 2; have hfz35_3 := blk_frozen BK106.out 3; have hfz35_4 := blk_frozen BK106.out 4))
 (try simp only [Act.put, List.setIfInBounds_toArray, List.set_cons_zero, List.set_cons_succ])
 go_cut [48] (fun v48 wc => ∃ (kq : Nat) (x48_32 : Bool), v48 = .bool x48_32 ∧ Aside0 (spec_l08Line.j0 kq a1_0 x48_32 a1_0 a1_1 a1_2 a1_3 a1_4 = some r) ∧ Aside0 (kq ≤ k) ∧ Aside0 (wc.heap[gb106]? = some (.cells #[.int .i64 a1_0, .int .i64 a1_1, .int .i64 a1_2, .int .i64 a1_3, .int .i64 a1_4] 63 (0, 0))) ∧ Aside0 (Below w.heap.size w wc))
 case first =>
  have H := HC33.out
  clear HC33
  by_cases c36 : a1_0 = 2
  ·rw [if_pos c36] at H
   have c36b0 : (a1_0 == 2) = true := beq_iff_eq.mpr c36
   have c36b1 : (a1_0 != 2) = false := bne_eq_false_iff_eq.mpr c36
   clear c36
   (first | rw [c36b0] | (simp only [i64_w, i32_w]; rw [c36b0]) | skip)
   have H' := Aside0.mk H
   clear H
   go_wp2
   go_meet
   case rel => exact ⟨_, ((a1_0 == 2)), wy5, H', ⟨(by first | omega | exact Nat.le_refl _)⟩, ⟨(xyb BK106.out)⟩, ⟨wy6⟩⟩
  rw [if_neg c36] at H
  have c36b0 : (a1_0 == 2) = false := beq_eq_false_iff_ne.mpr c36
  have c36b1 : (a1_0 != 2) = true := bne_iff_ne.mpr c36
  (first | rw [c36b0] | (simp only [i64_w, i32_w]; rw [c36b0]) | skip)
  have H' := Aside0.mk H
  clear H
  go_wp2
  go_meet
  case rel => exact ⟨_, ((a1_0 == 6)), wy5, H', ⟨(by first | omega | exact Nat.le_refl _)⟩, ⟨(xyb BK106.out)⟩, ⟨wy6⟩⟩
 case rest =>
  clear HC33
  try clear c1
  try clear c2
  try clear p2
  try clear c3
  try clear c3b0
  try clear c3b1
  try clear c5
  try clear c7
  try clear c9
  try clear c12
  try clear c19
  try clear c19b0
  try clear c19b1
  try clear c21
  try clear c22
  try clear c22b0
  try clear c22b1
  try clear c23
  try clear c23b0
  try clear c23b1
  try clear c36
  try clear c36b0
  try clear c36b1
  try clear hcz12_0
  try clear hcz12_1
  try clear hcz12_2
  try clear hcz12_3
  try clear hcz12_4
  try clear hcz14_0
  try clear hcz14_1
  try clear hcz14_2
  try clear hcz14_3
  try clear hcz14_4
  try clear hcz16_0
  try clear hcz16_1
  try clear hcz16_2
  try clear hcz16_3
  try clear hcz16_4
  try clear hcz18_0
  try clear hcz18_1
  try clear hcz18_2
  try clear hcz18_3
  try clear hcz18_4
  try clear hcz26_0
  try clear hcz26_1
  try clear hcz26_2
  try clear hcz26_3
  try clear hcz26_4
  try clear hcz28_0
  try clear hcz28_1
  try clear hcz28_2
  try clear hcz28_3
  try clear hcz28_4
  try clear hcz30_0
  try clear hcz30_1
  try clear hcz30_2
  try clear hcz30_3
  try clear hcz30_4
  try clear hcz32_0
  try clear hcz32_1
  try clear hcz32_2
  try clear hcz32_3
  try clear hcz32_4
  try clear hcz35_0
  try clear hcz35_1
  try clear hcz35_2
  try clear hcz35_3
  try clear hcz35_4
  try clear hfz12_0
  try clear hfz12_1
  try clear hfz12_2
  try clear hfz12_3
  try clear hfz12_4
  try clear hfz14_0
  try clear hfz14_1
  try clear hfz14_2
  try clear hfz14_3
  try clear hfz14_4
  try clear hfz16_0
  try clear hfz16_1
  try clear hfz16_2
  try clear hfz16_3
  try clear hfz16_4
  try clear hfz18_0
  try clear hfz18_1
  try clear hfz18_2
  try clear hfz18_3
  try clear hfz18_4
  try clear hfz26_0
  try clear hfz26_1
  try clear hfz26_2
  try clear hfz26_3
  try clear hfz26_4
  try clear hfz28_0
  try clear hfz28_1
  try clear hfz28_2
  try clear hfz28_3
  try clear hfz28_4
  try clear hfz30_0
  try clear hfz30_1
  try clear hfz30_2
  try clear hfz30_3
  try clear hfz30_4
  try clear hfz32_0
  try clear hfz32_1
  try clear hfz32_2
  try clear hfz32_3
  try clear hfz32_4
  try clear hfz35_0
  try clear hfz35_1
  try clear hfz35_2
  try clear hfz35_3
  try clear hfz35_4
  obtain ⟨kq, x48_32, rfl, HA, HJ32, BK106, HB⟩ := hcut
  cases kq with
  | zero => exact absurd HA.out (by simp [spec_l08Line.j0])
  | succ kj32 =>
   have H := HA.out
   clear HA
   simp only [spec_l08Line.j0] at H
   by_cases c37 : x48_32 = true
   ·subst c37
    have H1 : (if a1_1 = 0 then ((spec_l01CmpIs.f a1_2).bind fun t113 => (if t113 = true then ((spec_l08Var.f a1_3).bind fun t114 => (if t114 = true then ((spec_l08Var.f a1_4).bind fun t115 => (some t115)) else (some false))) else (some false))) else (some false)) = some r := by rw [if_pos rfl] at H; exact H
    clear H
    have H := H1
    clear H1
    by_cases c38 : a1_1 = 0
    ·rw [if_pos c38] at H
     have c38b0 : (a1_1 == 0) = true := beq_iff_eq.mpr c38
     have c38b1 : (a1_1 != 0) = false := bne_eq_false_iff_eq.mpr c38
     clear c38
     replace H := Option.bind_eq_some_iff.mp H
     obtain ⟨t113, A390, H⟩ := H
     replace H : (if t113 = true then ((spec_l08Var.f a1_3).bind fun t114 => (if t114 = true then ((spec_l08Var.f a1_4).bind fun t115 => (some t115)) else (some false))) else (some false)) = some r := H
     have A39 := Aside0.mk A390
     clear A390
     by_cases c40 : t113 = true
     ·subst c40
      have H1 : ((spec_l08Var.f a1_3).bind fun t114 => (if t114 = true then ((spec_l08Var.f a1_4).bind fun t115 => (some t115)) else (some false))) = some r := by rw [if_pos rfl] at H; exact H
      clear H
      have H := H1
      clear H1
      replace H := Option.bind_eq_some_iff.mp H
      obtain ⟨t114, A410, H⟩ := H
      replace H : (if t114 = true then ((spec_l08Var.f a1_4).bind fun t115 => (some t115)) else (some false)) = some r := H
      have A41 := Aside0.mk A410
      clear A410
      by_cases c42 : t114 = true
      ·subst c42
       have H1 : ((spec_l08Var.f a1_4).bind fun t115 => (some t115)) = some r := by rw [if_pos rfl] at H; exact H
       clear H
       have H := H1
       clear H1
       replace H := Option.bind_eq_some_iff.mp H
       obtain ⟨t115, A430, H⟩ := H
       replace H : (some t115) = some r := H
       have A43 := Aside0.mk A430
       clear A430
       obtain rfl := Option.some.inj H
       have hcz44_0 : wc.cell? ⟨gb106, 0, none⟩ = some (.int .i64 a1_0) := xyc BK106.out
       have hcz44_1 : wc.cell? ⟨gb106, 1, none⟩ = some (.int .i64 a1_1) := xyc BK106.out
       have hcz44_2 : wc.cell? ⟨gb106, 2, none⟩ = some (.int .i64 a1_2) := xyc BK106.out
       have hcz44_3 : wc.cell? ⟨gb106, 3, none⟩ = some (.int .i64 a1_3) := xyc BK106.out
       have hcz44_4 : wc.cell? ⟨gb106, 4, none⟩ = some (.int .i64 a1_4) := xyc BK106.out
       have hfz44_0 := blk_frozen BK106.out 0
       have hfz44_1 := blk_frozen BK106.out 1
       have hfz44_2 := blk_frozen BK106.out 2
       have hfz44_3 := blk_frozen BK106.out 3
       have hfz44_4 := blk_frozen BK106.out 4
       go_wp2_with (first | (go_at_call 131; (with_reducible refine (spec_l01CmpIs.calls a1_2 true _ A39.out).mono ?_); rintro e w' ⟨rfl, ⟨nd, rfl⟩⟩) | (go_at_call 128; (with_reducible refine (spec_l08Var.calls a1_3 true _ A41.out).mono ?_); rintro e w' ⟨rfl, ⟨nd, rfl⟩⟩) | (go_at_call 128; (with_reducible refine (spec_l08Var.calls a1_4 t115 _ A43.out).mono ?_); rintro e w' ⟨rfl, ⟨nd, rfl⟩⟩))
       go_ret
       exact ⟨wy3, wy6⟩
      replace c42 := Bool.eq_false_iff.mpr c42
      subst c42
      have H1 : (some false) = some r := by rw [if_neg (show ¬ (false = true) by decide)] at H; exact H
      clear H
      have H := H1
      clear H1
      obtain rfl := Option.some.inj H
      have hcz45_0 : wc.cell? ⟨gb106, 0, none⟩ = some (.int .i64 a1_0) := xyc BK106.out
      have hcz45_1 : wc.cell? ⟨gb106, 1, none⟩ = some (.int .i64 a1_1) := xyc BK106.out
      have hcz45_2 : wc.cell? ⟨gb106, 2, none⟩ = some (.int .i64 a1_2) := xyc BK106.out
      have hcz45_3 : wc.cell? ⟨gb106, 3, none⟩ = some (.int .i64 a1_3) := xyc BK106.out
      have hcz45_4 : wc.cell? ⟨gb106, 4, none⟩ = some (.int .i64 a1_4) := xyc BK106.out
      have hfz45_0 := blk_frozen BK106.out 0
      have hfz45_1 := blk_frozen BK106.out 1
      have hfz45_2 := blk_frozen BK106.out 2
      have hfz45_3 := blk_frozen BK106.out 3
      have hfz45_4 := blk_frozen BK106.out 4
      go_wp2_with (first | (go_at_call 131; (with_reducible refine (spec_l01CmpIs.calls a1_2 true _ A39.out).mono ?_); rintro e w' ⟨rfl, ⟨nd, rfl⟩⟩) | (go_at_call 128; (with_reducible refine (spec_l08Var.calls a1_3 false _ A41.out).mono ?_); rintro e w' ⟨rfl, ⟨nd, rfl⟩⟩))
      go_ret
      exact ⟨wy3, wy6⟩
     replace c40 := Bool.eq_false_iff.mpr c40
     subst c40
     have H1 : (some false) = some r := by rw [if_neg (show ¬ (false = true) by decide)] at H; exact H
     clear H
     have H := H1
     clear H1
     obtain rfl := Option.some.inj H
     have hcz46_0 : wc.cell? ⟨gb106, 0, none⟩ = some (.int .i64 a1_0) := xyc BK106.out
     have hcz46_1 : wc.cell? ⟨gb106, 1, none⟩ = some (.int .i64 a1_1) := xyc BK106.out
     have hcz46_2 : wc.cell? ⟨gb106, 2, none⟩ = some (.int .i64 a1_2) := xyc BK106.out
     have hcz46_3 : wc.cell? ⟨gb106, 3, none⟩ = some (.int .i64 a1_3) := xyc BK106.out
     have hcz46_4 : wc.cell? ⟨gb106, 4, none⟩ = some (.int .i64 a1_4) := xyc BK106.out
     have hfz46_0 := blk_frozen BK106.out 0
     have hfz46_1 := blk_frozen BK106.out 1
     have hfz46_2 := blk_frozen BK106.out 2
     have hfz46_3 := blk_frozen BK106.out 3
     have hfz46_4 := blk_frozen BK106.out 4
     go_wp2_with (first | (go_at_call 131; (with_reducible refine (spec_l01CmpIs.calls a1_2 false _ A39.out).mono ?_); rintro e w' ⟨rfl, ⟨nd, rfl⟩⟩))
     go_ret
     exact ⟨wy3, wy6⟩
    rw [if_neg c38] at H
    have c38b0 : (a1_1 == 0) = false := beq_eq_false_iff_ne.mpr c38
    have c38b1 : (a1_1 != 0) = true := bne_iff_ne.mpr c38
    obtain rfl := Option.some.inj H
    have hcz47_0 : wc.cell? ⟨gb106, 0, none⟩ = some (.int .i64 a1_0) := xyc BK106.out
    have hcz47_1 : wc.cell? ⟨gb106, 1, none⟩ = some (.int .i64 a1_1) := xyc BK106.out
    have hcz47_2 : wc.cell? ⟨gb106, 2, none⟩ = some (.int .i64 a1_2) := xyc BK106.out
    have hcz47_3 : wc.cell? ⟨gb106, 3, none⟩ = some (.int .i64 a1_3) := xyc BK106.out
    have hcz47_4 : wc.cell? ⟨gb106, 4, none⟩ = some (.int .i64 a1_4) := xyc BK106.out
    have hfz47_0 := blk_frozen BK106.out 0
    have hfz47_1 := blk_frozen BK106.out 1
    have hfz47_2 := blk_frozen BK106.out 2
    have hfz47_3 := blk_frozen BK106.out 3
    have hfz47_4 := blk_frozen BK106.out 4
    go_wp2
    go_ret
    exact ⟨wy3, wy6⟩
   replace c37 := Bool.eq_false_iff.mpr c37
   subst c37
   have H1 : (if a1_0 = 3 then (spec_l08Line.j1 kj32 a1_0 (a1_0 == 3) a1_0 a1_1 a1_2 a1_3 a1_4) else (spec_l08Line.j1 kj32 a1_0 (a1_0 == 4) a1_0 a1_1 a1_2 a1_3 a1_4)) = some r := by rw [if_neg (show ¬ (false = true) by decide)] at H; exact H
   clear H
   have H := H1
   clear H1
   have HC48 := Aside0.mk H
   clear H
   go_upto_if 69 with (fail)
   go_cut [69] (fun v69 wc => ∃ (kq : Nat) (x69_47 : Bool), v69 = .bool x69_47 ∧ Aside0 (spec_l08Line.j1 kq a1_0 x69_47 a1_0 a1_1 a1_2 a1_3 a1_4 = some r) ∧ Aside0 (kq ≤ kj32) ∧ Aside0 (wc.heap[gb106]? = some (.cells #[.int .i64 a1_0, .int .i64 a1_1, .int .i64 a1_2, .int .i64 a1_3, .int .i64 a1_4] 63 (0, 0))) ∧ Aside0 (Below w.heap.size w wc))
   case first =>
    have H := HC48.out
    clear HC48
    by_cases c49 : a1_0 = 3
    ·rw [if_pos c49] at H
     have c49b0 : (a1_0 == 3) = true := beq_iff_eq.mpr c49
     have c49b1 : (a1_0 != 3) = false := bne_eq_false_iff_eq.mpr c49
     clear c49
     (first | rw [c49b0] | (simp only [i64_w, i32_w]; rw [c49b0]) | skip)
     have H' := Aside0.mk H
     clear H
     go_wp2
     go_meet
     case rel => exact ⟨_, ((a1_0 == 3)), wy5, H', ⟨(by have := HJ32.out; first | omega | exact Nat.le_refl _)⟩, ⟨(xyb BK106.out)⟩, ⟨wy6⟩⟩
    rw [if_neg c49] at H
    have c49b0 : (a1_0 == 3) = false := beq_eq_false_iff_ne.mpr c49
    have c49b1 : (a1_0 != 3) = true := bne_iff_ne.mpr c49
    (first | rw [c49b0] | (simp only [i64_w, i32_w]; rw [c49b0]) | skip)
    have H' := Aside0.mk H
    clear H
    go_wp2
    go_meet
    case rel => exact ⟨_, ((a1_0 == 4)), wy5, H', ⟨(by have := HJ32.out; first | omega | exact Nat.le_refl _)⟩, ⟨(xyb BK106.out)⟩, ⟨wy6⟩⟩
   case rest =>
    clear HC48
    try clear c1
    try clear c2
    try clear p2
    try clear c3
    try clear c3b0
    try clear c3b1
    try clear c4
    try clear c5
    try clear c7
    try clear c9
    try clear c12
    try clear c19
    try clear c19b0
    try clear c19b1
    try clear c21
    try clear c22
    try clear c22b0
    try clear c22b1
    try clear c23
    try clear c23b0
    try clear c23b1
    try clear c36
    try clear c36b0
    try clear c36b1
    try clear c37
    try clear c38
    try clear c38b0
    try clear c38b1
    try clear c40
    try clear c42
    try clear c49
    try clear c49b0
    try clear c49b1
    try clear hcz12_0
    try clear hcz12_1
    try clear hcz12_2
    try clear hcz12_3
    try clear hcz12_4
    try clear hcz14_0
    try clear hcz14_1
    try clear hcz14_2
    try clear hcz14_3
    try clear hcz14_4
    try clear hcz16_0
    try clear hcz16_1
    try clear hcz16_2
    try clear hcz16_3
    try clear hcz16_4
    try clear hcz18_0
    try clear hcz18_1
    try clear hcz18_2
    try clear hcz18_3
    try clear hcz18_4
    try clear hcz26_0
    try clear hcz26_1
    try clear hcz26_2
    try clear hcz26_3
    try clear hcz26_4
    try clear hcz28_0
    try clear hcz28_1
    try clear hcz28_2
    try clear hcz28_3
    try clear hcz28_4
    try clear hcz30_0
    try clear hcz30_1
    try clear hcz30_2
    try clear hcz30_3
    try clear hcz30_4
    try clear hcz32_0
    try clear hcz32_1
    try clear hcz32_2
    try clear hcz32_3
    try clear hcz32_4
    try clear hcz35_0
    try clear hcz35_1
    try clear hcz35_2
    try clear hcz35_3
    try clear hcz35_4
    try clear hcz44_0
    try clear hcz44_1
    try clear hcz44_2
    try clear hcz44_3
    try clear hcz44_4
    try clear hcz45_0
    try clear hcz45_1
    try clear hcz45_2
    try clear hcz45_3
    try clear hcz45_4
    try clear hcz46_0
    try clear hcz46_1
    try clear hcz46_2
    try clear hcz46_3
    try clear hcz46_4
    try clear hcz47_0
    try clear hcz47_1
    try clear hcz47_2
    try clear hcz47_3
    try clear hcz47_4
    try clear hfz12_0
    try clear hfz12_1
    try clear hfz12_2
    try clear hfz12_3
    try clear hfz12_4
    try clear hfz14_0
    try clear hfz14_1
    try clear hfz14_2
    try clear hfz14_3
    try clear hfz14_4
    try clear hfz16_0
    try clear hfz16_1
    try clear hfz16_2
    try clear hfz16_3
    try clear hfz16_4
    try clear hfz18_0
    try clear hfz18_1
    try clear hfz18_2
    try clear hfz18_3
    try clear hfz18_4
    try clear hfz26_0
    try clear hfz26_1
    try clear hfz26_2
    try clear hfz26_3
    try clear hfz26_4
    try clear hfz28_0
    try clear hfz28_1
    try clear hfz28_2
    try clear hfz28_3
    try clear hfz28_4
    try clear hfz30_0
    try clear hfz30_1
    try clear hfz30_2
    try clear hfz30_3
    try clear hfz30_4
    try clear hfz32_0
    try clear hfz32_1
    try clear hfz32_2
    try clear hfz32_3
    try clear hfz32_4
    try clear hfz35_0
    try clear hfz35_1
    try clear hfz35_2
    try clear hfz35_3
    try clear hfz35_4
    try clear hfz44_0
    try clear hfz44_1
    try clear hfz44_2
    try clear hfz44_3
    try clear hfz44_4
    try clear hfz45_0
    try clear hfz45_1
    try clear hfz45_2
    try clear hfz45_3
    try clear hfz45_4
    try clear hfz46_0
    try clear hfz46_1
    try clear hfz46_2
    try clear hfz46_3
    try clear hfz46_4
    try clear hfz47_0
    try clear hfz47_1
    try clear hfz47_2
    try clear hfz47_3
    try clear hfz47_4
    try clear p2
    obtain ⟨kq, x69_47, rfl, HA, HJ47, BK106, HB⟩ := hcut
    cases kq with
    | zero => exact absurd HA.out (by simp [spec_l08Line.j1])
    | succ kj47 =>
     have H := HA.out
     clear HA
     simp only [spec_l08Line.j1] at H
     by_cases c50 : x69_47 = true
     ·subst c50
      have H1 : (if a1_1 = 0 then (if a1_2 = 0 then (if a1_3 = 0 then (some (a1_4 == 0)) else (some false)) else (some false)) else (some false)) = some r := by rw [if_pos rfl] at H; exact H
      clear H
      have H := H1
      clear H1
      by_cases c51 : a1_1 = 0
      ·rw [if_pos c51] at H
       have c51b0 : (a1_1 == 0) = true := beq_iff_eq.mpr c51
       have c51b1 : (a1_1 != 0) = false := bne_eq_false_iff_eq.mpr c51
       clear c51
       by_cases c52 : a1_2 = 0
       ·rw [if_pos c52] at H
        have c52b0 : (a1_2 == 0) = true := beq_iff_eq.mpr c52
        have c52b1 : (a1_2 != 0) = false := bne_eq_false_iff_eq.mpr c52
        clear c52
        by_cases c53 : a1_3 = 0
        ·rw [if_pos c53] at H
         have c53b0 : (a1_3 == 0) = true := beq_iff_eq.mpr c53
         have c53b1 : (a1_3 != 0) = false := bne_eq_false_iff_eq.mpr c53
         clear c53
         obtain rfl := Option.some.inj H
         have hcz54_0 : wc.cell? ⟨gb106, 0, none⟩ = some (.int .i64 a1_0) := xyc BK106.out
         have hcz54_1 : wc.cell? ⟨gb106, 1, none⟩ = some (.int .i64 a1_1) := xyc BK106.out
         have hcz54_2 : wc.cell? ⟨gb106, 2, none⟩ = some (.int .i64 a1_2) := xyc BK106.out
         have hcz54_3 : wc.cell? ⟨gb106, 3, none⟩ = some (.int .i64 a1_3) := xyc BK106.out
         have hcz54_4 : wc.cell? ⟨gb106, 4, none⟩ = some (.int .i64 a1_4) := xyc BK106.out
         have hfz54_0 := blk_frozen BK106.out 0
         have hfz54_1 := blk_frozen BK106.out 1
         have hfz54_2 := blk_frozen BK106.out 2
         have hfz54_3 := blk_frozen BK106.out 3
         have hfz54_4 := blk_frozen BK106.out 4
         go_wp2
         go_ret
         exact ⟨wy3, wy6⟩
        rw [if_neg c53] at H
        have c53b0 : (a1_3 == 0) = false := beq_eq_false_iff_ne.mpr c53
        have c53b1 : (a1_3 != 0) = true := bne_iff_ne.mpr c53
        obtain rfl := Option.some.inj H
        have hcz55_0 : wc.cell? ⟨gb106, 0, none⟩ = some (.int .i64 a1_0) := xyc BK106.out
        have hcz55_1 : wc.cell? ⟨gb106, 1, none⟩ = some (.int .i64 a1_1) := xyc BK106.out
        have hcz55_2 : wc.cell? ⟨gb106, 2, none⟩ = some (.int .i64 a1_2) := xyc BK106.out
        have hcz55_3 : wc.cell? ⟨gb106, 3, none⟩ = some (.int .i64 a1_3) := xyc BK106.out
        have hcz55_4 : wc.cell? ⟨gb106, 4, none⟩ = some (.int .i64 a1_4) := xyc BK106.out
        have hfz55_0 := blk_frozen BK106.out 0
        have hfz55_1 := blk_frozen BK106.out 1
        have hfz55_2 := blk_frozen BK106.out 2
        have hfz55_3 := blk_frozen BK106.out 3
        have hfz55_4 := blk_frozen BK106.out 4
        go_wp2
        go_ret
        exact ⟨wy3, wy6⟩
       rw [if_neg c52] at H
       have c52b0 : (a1_2 == 0) = false := beq_eq_false_iff_ne.mpr c52
       have c52b1 : (a1_2 != 0) = true := bne_iff_ne.mpr c52
       obtain rfl := Option.some.inj H
       have hcz56_0 : wc.cell? ⟨gb106, 0, none⟩ = some (.int .i64 a1_0) := xyc BK106.out
       have hcz56_1 : wc.cell? ⟨gb106, 1, none⟩ = some (.int .i64 a1_1) := xyc BK106.out
       have hcz56_2 : wc.cell? ⟨gb106, 2, none⟩ = some (.int .i64 a1_2) := xyc BK106.out
       have hcz56_3 : wc.cell? ⟨gb106, 3, none⟩ = some (.int .i64 a1_3) := xyc BK106.out
       have hcz56_4 : wc.cell? ⟨gb106, 4, none⟩ = some (.int .i64 a1_4) := xyc BK106.out
       have hfz56_0 := blk_frozen BK106.out 0
       have hfz56_1 := blk_frozen BK106.out 1
       have hfz56_2 := blk_frozen BK106.out 2
       have hfz56_3 := blk_frozen BK106.out 3
       have hfz56_4 := blk_frozen BK106.out 4
       go_wp2
       go_ret
       exact ⟨wy3, wy6⟩
      rw [if_neg c51] at H
      have c51b0 : (a1_1 == 0) = false := beq_eq_false_iff_ne.mpr c51
      have c51b1 : (a1_1 != 0) = true := bne_iff_ne.mpr c51
      obtain rfl := Option.some.inj H
      have hcz57_0 : wc.cell? ⟨gb106, 0, none⟩ = some (.int .i64 a1_0) := xyc BK106.out
      have hcz57_1 : wc.cell? ⟨gb106, 1, none⟩ = some (.int .i64 a1_1) := xyc BK106.out
      have hcz57_2 : wc.cell? ⟨gb106, 2, none⟩ = some (.int .i64 a1_2) := xyc BK106.out
      have hcz57_3 : wc.cell? ⟨gb106, 3, none⟩ = some (.int .i64 a1_3) := xyc BK106.out
      have hcz57_4 : wc.cell? ⟨gb106, 4, none⟩ = some (.int .i64 a1_4) := xyc BK106.out
      have hfz57_0 := blk_frozen BK106.out 0
      have hfz57_1 := blk_frozen BK106.out 1
      have hfz57_2 := blk_frozen BK106.out 2
      have hfz57_3 := blk_frozen BK106.out 3
      have hfz57_4 := blk_frozen BK106.out 4
      go_wp2
      go_ret
      exact ⟨wy3, wy6⟩
     replace c50 := Bool.eq_false_iff.mpr c50
     subst c50
     have H1 : (if a1_0 = 5 then (if a1_1 = 0 then (if a1_2 = 0 then (if a1_3 = 0 then ((spec_l00In.f a1_4 1 8).bind fun t116 => (some t116)) else (some false)) else (some false)) else (some false)) else (some false)) = some r := by rw [if_neg (show ¬ (false = true) by decide)] at H; exact H
     clear H
     have H := H1
     clear H1
     by_cases c58 : a1_0 = 5
     ·rw [if_pos c58] at H
      have c58b0 : (a1_0 == 5) = true := beq_iff_eq.mpr c58
      have c58b1 : (a1_0 != 5) = false := bne_eq_false_iff_eq.mpr c58
      clear c58
      by_cases c59 : a1_1 = 0
      ·rw [if_pos c59] at H
       have c59b0 : (a1_1 == 0) = true := beq_iff_eq.mpr c59
       have c59b1 : (a1_1 != 0) = false := bne_eq_false_iff_eq.mpr c59
       clear c59
       by_cases c60 : a1_2 = 0
       ·rw [if_pos c60] at H
        have c60b0 : (a1_2 == 0) = true := beq_iff_eq.mpr c60
        have c60b1 : (a1_2 != 0) = false := bne_eq_false_iff_eq.mpr c60
        clear c60
        by_cases c61 : a1_3 = 0
        ·rw [if_pos c61] at H
         have c61b0 : (a1_3 == 0) = true := beq_iff_eq.mpr c61
         have c61b1 : (a1_3 != 0) = false := bne_eq_false_iff_eq.mpr c61
         clear c61
         replace H := Option.bind_eq_some_iff.mp H
         obtain ⟨t116, A620, H⟩ := H
         replace H : (some t116) = some r := H
         have A62 := Aside0.mk A620
         clear A620
         obtain rfl := Option.some.inj H
         have hcz63_0 : wc.cell? ⟨gb106, 0, none⟩ = some (.int .i64 a1_0) := xyc BK106.out
         have hcz63_1 : wc.cell? ⟨gb106, 1, none⟩ = some (.int .i64 a1_1) := xyc BK106.out
         have hcz63_2 : wc.cell? ⟨gb106, 2, none⟩ = some (.int .i64 a1_2) := xyc BK106.out
         have hcz63_3 : wc.cell? ⟨gb106, 3, none⟩ = some (.int .i64 a1_3) := xyc BK106.out
         have hcz63_4 : wc.cell? ⟨gb106, 4, none⟩ = some (.int .i64 a1_4) := xyc BK106.out
         have hfz63_0 := blk_frozen BK106.out 0
         have hfz63_1 := blk_frozen BK106.out 1
         have hfz63_2 := blk_frozen BK106.out 2
         have hfz63_3 := blk_frozen BK106.out 3
         have hfz63_4 := blk_frozen BK106.out 4
         go_wp2_with (first | (go_at_call 123; (with_reducible refine (spec_l00In.calls a1_4 1 8 t116 _ A62.out).mono ?_); rintro e w' ⟨rfl, ⟨nd, rfl⟩⟩))
         go_ret
         exact ⟨wy3, wy6⟩
        rw [if_neg c61] at H
        have c61b0 : (a1_3 == 0) = false := beq_eq_false_iff_ne.mpr c61
        have c61b1 : (a1_3 != 0) = true := bne_iff_ne.mpr c61
        obtain rfl := Option.some.inj H
        have hcz64_0 : wc.cell? ⟨gb106, 0, none⟩ = some (.int .i64 a1_0) := xyc BK106.out
        have hcz64_1 : wc.cell? ⟨gb106, 1, none⟩ = some (.int .i64 a1_1) := xyc BK106.out
        have hcz64_2 : wc.cell? ⟨gb106, 2, none⟩ = some (.int .i64 a1_2) := xyc BK106.out
        have hcz64_3 : wc.cell? ⟨gb106, 3, none⟩ = some (.int .i64 a1_3) := xyc BK106.out
        have hcz64_4 : wc.cell? ⟨gb106, 4, none⟩ = some (.int .i64 a1_4) := xyc BK106.out
        have hfz64_0 := blk_frozen BK106.out 0
        have hfz64_1 := blk_frozen BK106.out 1
        have hfz64_2 := blk_frozen BK106.out 2
        have hfz64_3 := blk_frozen BK106.out 3
        have hfz64_4 := blk_frozen BK106.out 4
        go_wp2
        go_ret
        exact ⟨wy3, wy6⟩
       rw [if_neg c60] at H
       have c60b0 : (a1_2 == 0) = false := beq_eq_false_iff_ne.mpr c60
       have c60b1 : (a1_2 != 0) = true := bne_iff_ne.mpr c60
       obtain rfl := Option.some.inj H
       have hcz65_0 : wc.cell? ⟨gb106, 0, none⟩ = some (.int .i64 a1_0) := xyc BK106.out
       have hcz65_1 : wc.cell? ⟨gb106, 1, none⟩ = some (.int .i64 a1_1) := xyc BK106.out
       have hcz65_2 : wc.cell? ⟨gb106, 2, none⟩ = some (.int .i64 a1_2) := xyc BK106.out
       have hcz65_3 : wc.cell? ⟨gb106, 3, none⟩ = some (.int .i64 a1_3) := xyc BK106.out
       have hcz65_4 : wc.cell? ⟨gb106, 4, none⟩ = some (.int .i64 a1_4) := xyc BK106.out
       have hfz65_0 := blk_frozen BK106.out 0
       have hfz65_1 := blk_frozen BK106.out 1
       have hfz65_2 := blk_frozen BK106.out 2
       have hfz65_3 := blk_frozen BK106.out 3
       have hfz65_4 := blk_frozen BK106.out 4
       go_wp2
       go_ret
       exact ⟨wy3, wy6⟩
      rw [if_neg c59] at H
      have c59b0 : (a1_1 == 0) = false := beq_eq_false_iff_ne.mpr c59
      have c59b1 : (a1_1 != 0) = true := bne_iff_ne.mpr c59
      obtain rfl := Option.some.inj H
      have hcz66_0 : wc.cell? ⟨gb106, 0, none⟩ = some (.int .i64 a1_0) := xyc BK106.out
      have hcz66_1 : wc.cell? ⟨gb106, 1, none⟩ = some (.int .i64 a1_1) := xyc BK106.out
      have hcz66_2 : wc.cell? ⟨gb106, 2, none⟩ = some (.int .i64 a1_2) := xyc BK106.out
      have hcz66_3 : wc.cell? ⟨gb106, 3, none⟩ = some (.int .i64 a1_3) := xyc BK106.out
      have hcz66_4 : wc.cell? ⟨gb106, 4, none⟩ = some (.int .i64 a1_4) := xyc BK106.out
      have hfz66_0 := blk_frozen BK106.out 0
      have hfz66_1 := blk_frozen BK106.out 1
      have hfz66_2 := blk_frozen BK106.out 2
      have hfz66_3 := blk_frozen BK106.out 3
      have hfz66_4 := blk_frozen BK106.out 4
      go_wp2
      go_ret
      exact ⟨wy3, wy6⟩
     rw [if_neg c58] at H
     have c58b0 : (a1_0 == 5) = false := beq_eq_false_iff_ne.mpr c58
     have c58b1 : (a1_0 != 5) = true := bne_iff_ne.mpr c58
     obtain rfl := Option.some.inj H
     go_wp2
     go_ret
     exact ⟨wy3, wy6⟩

/-! ### spec_l00Min: function 132 -/
def spec_l00Min.f (a0 : Int) (a1 : Int) : Option (Int) := if a0 < a1 then (some a0) else (some a1)
set_option maxHeartbeats 8000000 in
set_option maxRecDepth 100000 in
theorem spec_l00Min.calls (a0 : Int) (a1 : Int) (r : Int) (w : World) (h : spec_l00Min.f a0 a1 = some r) :
  Calls Try.prog 132 #[.int .i64 a0, .int .i64 a1] w fun e w' => e = .returned (.int .i64 r) ∧ Drawn0 w w' := by
 have H : (if a0 < a1 then (some a0) else (some a1)) = some r := h
 clear h
 by_cases c3 : a0 < a1
 ·rw [if_pos c3] at H
  have c3b0 : decide (a0 < a1) = true := decide_eq_true c3
  clear c3
  obtain rfl := Option.some.inj H
  go_enter Try.func132, Try.ntmps132
  go_wp2
  go_ret
  exact ⟨wy5, wy13⟩
 rw [if_neg c3] at H
 have c3b0 : decide (a0 < a1) = false := decide_eq_false c3
 clear c3
 obtain rfl := Option.some.inj H
 go_enter Try.func132, Try.ntmps132
 go_wp2
 go_ret
 exact ⟨wy5, wy13⟩

end Go.Proofs.Ytheemkehedmlfaa.Y
