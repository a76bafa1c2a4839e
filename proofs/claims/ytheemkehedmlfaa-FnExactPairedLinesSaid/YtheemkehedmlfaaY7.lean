-- Written by a program of this session (wip/tools) over the kit's print.
-- COMPACT
import Derived.Test.YtheemkehedmlfaaY0
import Derived.Test.YtheemkehedmlfaaY1
import Derived.Test.YtheemkehedmlfaaY6
namespace Go.Proofs.Ytheemkehedmlfaa.Y
open Go.RowKit Go.Proofs.YtheemkehedmlfaaW.PrintWords Go.Proofs.YtheemkehedmlfaaW.PrintLast Go.Proofs.YtheemkehedmlfaaW.PrintMore
attribute [local go_sem] max2_int min2_int max_two min_two max_three min_three max_four min_four   -- for this text's walks alone
set_option linter.unusedVariables false
set_option linter.unusedSimpArgs false

attribute [local go_sem high] eqA63
/-! ### impl_isLine: function 92 -/
mutual
def impl_isLine.j0 : Nat → Int → Bool → Int → Int → Int → Int → Int → Option (Bool)
 | 0, _, _, _, _, _, _, _ => none
 | k + 1, x6, x48, x210000, x210001, x210002, x210003, x210004 => if x48 = true then (if x210001 = 0 then ((impl_isCmp.f x210002).bind fun t216 => (if t216 = true then ((impl_isVar.f x210003).bind fun t217 => (if t217 = true then ((impl_isVar.f x210004).bind fun t218 => (some t218)) else (some false))) else (some false))) else (some false)) else (if x6 = 3 then (impl_isLine.j1 k x6 (x6 == 3) x210000 x210001 x210002 x210003 x210004) else (impl_isLine.j1 k x6 (x6 == 4) x210000 x210001 x210002 x210003 x210004))
def impl_isLine.j1 : Nat → Int → Bool → Int → Int → Int → Int → Int → Option (Bool)
 | 0, _, _, _, _, _, _, _ => none
 | k + 1, x6, x69, x210000, x210001, x210002, x210003, x210004 => if x69 = true then (some (x210001 == 0 && (x210002 == 0 && (x210003 == 0 && (x210004 == 0))))) else (if x6 = 5 then (if (x210000 == 5 && (x210001 == 0 && (x210002 == 0 && (x210003 == 0)))) = true then ((impl_within.f x210004 1 8).bind fun t219 => (some t219)) else (some false)) else (some false))
end
def impl_isLine.f (k : Nat) (a0 : Int) (a1_0 : Int) (a1_1 : Int) (a1_2 : Int) (a1_3 : Int) (a1_4 : Int) : Option (Bool) := if a1_0 = 0 then ((impl_isVar.f a1_1).bind fun t210 => (if t210 = true then ((impl_isOp.f a1_2).bind fun t211 => (if t211 = true then ((impl_isVar.f a1_3).bind fun t212 => (if t212 = true then ((impl_isVar.f a1_4).bind fun t213 => (some t213)) else (some false))) else (some false))) else (some false))) else (if a1_0 = 1 then ((impl_isVar.f a1_1).bind fun t214 => (if t214 = true then (if a1_2 = 0 then (if a1_3 = 0 then ((impl_IsWord.f a0 a1_4).bind fun t215 => (some t215)) else (some false)) else (some false)) else (some false))) else (if a1_0 = 2 then (impl_isLine.j0 k a1_0 (a1_0 == 2) a1_0 a1_1 a1_2 a1_3 a1_4) else (impl_isLine.j0 k a1_0 (a1_0 == 6) a1_0 a1_1 a1_2 a1_3 a1_4)))
theorem impl_isLine.mono_l : ∀ k, (∀ y0 y1 y2 y3 y4 y5 y6, LeO (impl_isLine.j0 k y0 y1 y2 y3 y4 y5 y6) (impl_isLine.j0 (k + 1) y0 y1 y2 y3 y4 y5 y6)) ∧ (∀ y0 y1 y2 y3 y4 y5 y6, LeO (impl_isLine.j1 k y0 y1 y2 y3 y4 y5 y6) (impl_isLine.j1 (k + 1) y0 y1 y2 y3 y4 y5 y6))
 | 0 => ⟨fun _ _ _ _ _ _ _ r h => by simp [impl_isLine.j0] at h, fun _ _ _ _ _ _ _ r h => by simp [impl_isLine.j1] at h⟩
 | k + 1 => by
  obtain ⟨ih0, ih1⟩ := impl_isLine.mono_l k
  refine ⟨?_, ?_⟩
  ·intro y0 y1 y2 y3 y4 y5 y6
   unfold impl_isLine.j0
   repeat' first
   | (with_reducible exact ih0 _ _ _ _ _ _ _)
   | (with_reducible exact ih1 _ _ _ _ _ _ _)
   | (with_reducible exact LeO.refl _)
   | (with_reducible exact LeO.none _)
   | (with_reducible refine LeO.ite ?_ ?_)
   | (with_reducible refine LeO.bind ?_ (fun _ => ?_))
   | exact ih0 _ _ _ _ _ _ _
   | exact ih1 _ _ _ _ _ _ _
   | exact LeO.none _
   | refine LeO.ite ?_ ?_
   | refine LeO.bind ?_ (fun _ => ?_)
  intro y0 y1 y2 y3 y4 y5 y6
  unfold impl_isLine.j1
  repeat' first
  | (with_reducible exact ih0 _ _ _ _ _ _ _)
  | (with_reducible exact ih1 _ _ _ _ _ _ _)
  | (with_reducible exact LeO.refl _)
  | (with_reducible exact LeO.none _)
  | (with_reducible refine LeO.ite ?_ ?_)
  | (with_reducible refine LeO.bind ?_ (fun _ => ?_))
  | exact ih0 _ _ _ _ _ _ _
  | exact ih1 _ _ _ _ _ _ _
  | exact LeO.none _
  | refine LeO.ite ?_ ?_
  | refine LeO.bind ?_ (fun _ => ?_)
theorem impl_isLine.mono : ∀ a0 a1 a2 a3 a4 a5 k, LeO (impl_isLine.f k a0 a1 a2 a3 a4 a5) (impl_isLine.f (k + 1) a0 a1 a2 a3 a4 a5) := by
 intro a0 a1 a2 a3 a4 a5 k
 obtain ⟨ih0, ih1⟩ := impl_isLine.mono_l k
 unfold impl_isLine.f
 repeat' first
   | (with_reducible exact ih0 _ _ _ _ _ _ _)
   | (with_reducible exact ih1 _ _ _ _ _ _ _)
   | (with_reducible exact LeO.refl _)
   | (with_reducible exact LeO.none _)
   | (with_reducible refine LeO.ite ?_ ?_)
   | (with_reducible refine LeO.bind ?_ (fun _ => ?_))
   | exact ih0 _ _ _ _ _ _ _
   | exact ih1 _ _ _ _ _ _ _
   | exact LeO.none _
   | refine LeO.ite ?_ ?_
   | refine LeO.bind ?_ (fun _ => ?_)
set_option maxHeartbeats 8000000 in
set_option maxRecDepth 100000 in
theorem impl_isLine.calls (k : Nat) (a0 : Int) (a1_0 : Int) (a1_1 : Int) (a1_2 : Int) (a1_3 : Int) (a1_4 : Int) (r : Bool) (w : World) (h : impl_isLine.f k a0 a1_0 a1_1 a1_2 a1_3 a1_4 = some r) :
  Calls Try.prog 92 #[.int .i64 a0, .agg #[.int .i64 a1_0, .int .i64 a1_1, .int .i64 a1_2, .int .i64 a1_3, .int .i64 a1_4]] w fun e w' => e = .returned (.bool r) ∧ Below w.heap.size w w' := by
 have hu63 := Try.underlying63
 have HB := Aside0.mk (Below.refl w.heap.size w)
 have H : (if a1_0 = 0 then ((impl_isVar.f a1_1).bind fun t210 => (if t210 = true then ((impl_isOp.f a1_2).bind fun t211 => (if t211 = true then ((impl_isVar.f a1_3).bind fun t212 => (if t212 = true then ((impl_isVar.f a1_4).bind fun t213 => (some t213)) else (some false))) else (some false))) else (some false))) else (if a1_0 = 1 then ((impl_isVar.f a1_1).bind fun t214 => (if t214 = true then (if a1_2 = 0 then (if a1_3 = 0 then ((impl_IsWord.f a0 a1_4).bind fun t215 => (some t215)) else (some false)) else (some false)) else (some false))) else (if a1_0 = 2 then (impl_isLine.j0 k a1_0 (a1_0 == 2) a1_0 a1_1 a1_2 a1_3 a1_4) else (impl_isLine.j0 k a1_0 (a1_0 == 6) a1_0 a1_1 a1_2 a1_3 a1_4)))) = some r := h
 clear h
 by_cases c3 : a1_0 = 0
 ·rw [if_pos c3] at H
  have c3b0 : (a1_0 == 0) = true := beq_iff_eq.mpr c3
  have c3b1 : (a1_0 != 0) = false := bne_eq_false_iff_eq.mpr c3
  clear c3
  replace H := Option.bind_eq_some_iff.mp H
  obtain ⟨t210, A40, H⟩ := H
  replace H : (if t210 = true then ((impl_isOp.f a1_2).bind fun t211 => (if t211 = true then ((impl_isVar.f a1_3).bind fun t212 => (if t212 = true then ((impl_isVar.f a1_4).bind fun t213 => (some t213)) else (some false))) else (some false))) else (some false)) = some r := H
  have A4 := Aside0.mk A40
  clear A40
  by_cases c5 : t210 = true
  ·subst c5
   have H1 : ((impl_isOp.f a1_2).bind fun t211 => (if t211 = true then ((impl_isVar.f a1_3).bind fun t212 => (if t212 = true then ((impl_isVar.f a1_4).bind fun t213 => (some t213)) else (some false))) else (some false))) = some r := by rw [if_pos rfl] at H; exact H
   clear H
   have H := H1
   clear H1
   replace H := Option.bind_eq_some_iff.mp H
   obtain ⟨t211, A60, H⟩ := H
   replace H : (if t211 = true then ((impl_isVar.f a1_3).bind fun t212 => (if t212 = true then ((impl_isVar.f a1_4).bind fun t213 => (some t213)) else (some false))) else (some false)) = some r := H
   have A6 := Aside0.mk A60
   clear A60
   by_cases c7 : t211 = true
   ·subst c7
    have H1 : ((impl_isVar.f a1_3).bind fun t212 => (if t212 = true then ((impl_isVar.f a1_4).bind fun t213 => (some t213)) else (some false))) = some r := by rw [if_pos rfl] at H; exact H
    clear H
    have H := H1
    clear H1
    replace H := Option.bind_eq_some_iff.mp H
    obtain ⟨t212, A80, H⟩ := H
    replace H : (if t212 = true then ((impl_isVar.f a1_4).bind fun t213 => (some t213)) else (some false)) = some r := H
    have A8 := Aside0.mk A80
    clear A80
    by_cases c9 : t212 = true
    ·subst c9
     have H1 : ((impl_isVar.f a1_4).bind fun t213 => (some t213)) = some r := by rw [if_pos rfl] at H; exact H
     clear H
     have H := H1
     clear H1
     replace H := Option.bind_eq_some_iff.mp H
     obtain ⟨t213, A100, H⟩ := H
     replace H : (some t213) = some r := H
     have A10 := Aside0.mk A100
     clear A100
     obtain rfl := Option.some.inj H
     go_enter Try.func92, Try.ntmps92
     go_wp2_with (first | ((with_reducible refine gate_dst (N := 3) rfl ?_); refine box_event ?hg (N := 3) ?hd (cs := #[.int .i64 a1_0, .int .i64 a1_1, .int .i64 a1_2, .int .i64 a1_3, .int .i64 a1_4]) (t := 63) ?hr ?_; (case hd => rfl); (case hg => rfl); (case hr => first | (go_simp; done) | (go_simp; rfl)); intro gb209 hg w11 hbox hb; have BK209 := Aside0.mk (hbox); have GW209 := Aside0.mk ((by rw [hg]; exact (below_size (xyo HB.out)) : w.heap.size ≤ gb209)); have GE209 := Aside0.mk ((by rw [hg]; exact (below_size (xyo HB.out)) : w.heap.size ≤ gb209)); replace HB := Aside0.mk (below_step (xyo HB.out) hb); clear hb hbox hg; have hcz12_0 : w11.cell? ⟨gb209, 0, none⟩ = some (.int .i64 a1_0) := xyc BK209.out; have hcz12_1 : w11.cell? ⟨gb209, 1, none⟩ = some (.int .i64 a1_1) := xyc BK209.out; have hcz12_2 : w11.cell? ⟨gb209, 2, none⟩ = some (.int .i64 a1_2) := xyc BK209.out; have hcz12_3 : w11.cell? ⟨gb209, 3, none⟩ = some (.int .i64 a1_3) := xyc BK209.out; have hcz12_4 : w11.cell? ⟨gb209, 4, none⟩ = some (.int .i64 a1_4) := xyc BK209.out; have hfz12_0 := blk_frozen BK209.out 0; have hfz12_1 := blk_frozen BK209.out 1; have hfz12_2 := blk_frozen BK209.out 2; have hfz12_3 := blk_frozen BK209.out 3; have hfz12_4 := blk_frozen BK209.out 4) | ((with_reducible refine gate_callee (f := 125) rfl ?_); refine goesL_ (some 11) rfl rfl Try.func125 (by kernel_rfl) rfl #[.int .i64 a1_1] rfl wy2 ?_; (with_reducible refine (impl_isVar.calls a1_1 true _ A4.out).mono ?_); rintro e w' ⟨rfl, ⟨nd, rfl⟩⟩; refine ⟨_, rfl, ?_⟩) | (go_at_call 126; (with_reducible refine (impl_isOp.calls a1_2 true _ A6.out).mono ?_); rintro e w' ⟨rfl, ⟨nd, rfl⟩⟩) | (go_at_call 125; (with_reducible refine (impl_isVar.calls a1_3 true _ A8.out).mono ?_); rintro e w' ⟨rfl, ⟨nd, rfl⟩⟩) | (go_at_call 125; (with_reducible refine (impl_isVar.calls a1_4 t213 _ A10.out).mono ?_); rintro e w' ⟨rfl, ⟨nd, rfl⟩⟩))
     go_ret
     exact ⟨wy3, wy8⟩
    replace c9 := Bool.eq_false_iff.mpr c9
    subst c9
    have H1 : (some false) = some r := by rw [if_neg (show ¬ (false = true) by decide)] at H; exact H
    clear H
    have H := H1
    clear H1
    obtain rfl := Option.some.inj H
    go_enter Try.func92, Try.ntmps92
    go_wp2_with (first | ((with_reducible refine gate_dst (N := 3) rfl ?_); refine box_event ?hg (N := 3) ?hd (cs := #[.int .i64 a1_0, .int .i64 a1_1, .int .i64 a1_2, .int .i64 a1_3, .int .i64 a1_4]) (t := 63) ?hr ?_; (case hd => rfl); (case hg => rfl); (case hr => first | (go_simp; done) | (go_simp; rfl)); intro gb209 hg w13 hbox hb; have BK209 := Aside0.mk (hbox); have GW209 := Aside0.mk ((by rw [hg]; exact (below_size (xyo HB.out)) : w.heap.size ≤ gb209)); have GE209 := Aside0.mk ((by rw [hg]; exact (below_size (xyo HB.out)) : w.heap.size ≤ gb209)); replace HB := Aside0.mk (below_step (xyo HB.out) hb); clear hb hbox hg; have hcz14_0 : w13.cell? ⟨gb209, 0, none⟩ = some (.int .i64 a1_0) := xyc BK209.out; have hcz14_1 : w13.cell? ⟨gb209, 1, none⟩ = some (.int .i64 a1_1) := xyc BK209.out; have hcz14_2 : w13.cell? ⟨gb209, 2, none⟩ = some (.int .i64 a1_2) := xyc BK209.out; have hcz14_3 : w13.cell? ⟨gb209, 3, none⟩ = some (.int .i64 a1_3) := xyc BK209.out; have hcz14_4 : w13.cell? ⟨gb209, 4, none⟩ = some (.int .i64 a1_4) := xyc BK209.out; have hfz14_0 := blk_frozen BK209.out 0; have hfz14_1 := blk_frozen BK209.out 1; have hfz14_2 := blk_frozen BK209.out 2; have hfz14_3 := blk_frozen BK209.out 3; have hfz14_4 := blk_frozen BK209.out 4) | ((with_reducible refine gate_callee (f := 125) rfl ?_); refine goesL_ (some 11) rfl rfl Try.func125 (by kernel_rfl) rfl #[.int .i64 a1_1] rfl wy2 ?_; (with_reducible refine (impl_isVar.calls a1_1 true _ A4.out).mono ?_); rintro e w' ⟨rfl, ⟨nd, rfl⟩⟩; refine ⟨_, rfl, ?_⟩) | (go_at_call 126; (with_reducible refine (impl_isOp.calls a1_2 true _ A6.out).mono ?_); rintro e w' ⟨rfl, ⟨nd, rfl⟩⟩) | (go_at_call 125; (with_reducible refine (impl_isVar.calls a1_3 false _ A8.out).mono ?_); rintro e w' ⟨rfl, ⟨nd, rfl⟩⟩))
    go_ret
    exact ⟨wy3, wy8⟩
   replace c7 := Bool.eq_false_iff.mpr c7
   subst c7
   have H1 : (some false) = some r := by rw [if_neg (show ¬ (false = true) by decide)] at H; exact H
   clear H
   have H := H1
   clear H1
   obtain rfl := Option.some.inj H
   go_enter Try.func92, Try.ntmps92
   go_wp2_with (first | ((with_reducible refine gate_dst (N := 3) rfl ?_); refine box_event ?hg (N := 3) ?hd (cs := #[.int .i64 a1_0, .int .i64 a1_1, .int .i64 a1_2, .int .i64 a1_3, .int .i64 a1_4]) (t := 63) ?hr ?_; (case hd => rfl); (case hg => rfl); (case hr => first | (go_simp; done) | (go_simp; rfl)); intro gb209 hg w15 hbox hb; have BK209 := Aside0.mk (hbox); have GW209 := Aside0.mk ((by rw [hg]; exact (below_size (xyo HB.out)) : w.heap.size ≤ gb209)); have GE209 := Aside0.mk ((by rw [hg]; exact (below_size (xyo HB.out)) : w.heap.size ≤ gb209)); replace HB := Aside0.mk (below_step (xyo HB.out) hb); clear hb hbox hg; have hcz16_0 : w15.cell? ⟨gb209, 0, none⟩ = some (.int .i64 a1_0) := xyc BK209.out; have hcz16_1 : w15.cell? ⟨gb209, 1, none⟩ = some (.int .i64 a1_1) := xyc BK209.out; have hcz16_2 : w15.cell? ⟨gb209, 2, none⟩ = some (.int .i64 a1_2) := xyc BK209.out; have hcz16_3 : w15.cell? ⟨gb209, 3, none⟩ = some (.int .i64 a1_3) := xyc BK209.out; have hcz16_4 : w15.cell? ⟨gb209, 4, none⟩ = some (.int .i64 a1_4) := xyc BK209.out; have hfz16_0 := blk_frozen BK209.out 0; have hfz16_1 := blk_frozen BK209.out 1; have hfz16_2 := blk_frozen BK209.out 2; have hfz16_3 := blk_frozen BK209.out 3; have hfz16_4 := blk_frozen BK209.out 4) | ((with_reducible refine gate_callee (f := 125) rfl ?_); refine goesL_ (some 11) rfl rfl Try.func125 (by kernel_rfl) rfl #[.int .i64 a1_1] rfl wy2 ?_; (with_reducible refine (impl_isVar.calls a1_1 true _ A4.out).mono ?_); rintro e w' ⟨rfl, ⟨nd, rfl⟩⟩; refine ⟨_, rfl, ?_⟩) | (go_at_call 126; (with_reducible refine (impl_isOp.calls a1_2 false _ A6.out).mono ?_); rintro e w' ⟨rfl, ⟨nd, rfl⟩⟩))
   go_ret
   exact ⟨wy3, wy8⟩
  replace c5 := Bool.eq_false_iff.mpr c5
  subst c5
  have H1 : (some false) = some r := by rw [if_neg (show ¬ (false = true) by decide)] at H; exact H
  clear H
  have H := H1
  clear H1
  obtain rfl := Option.some.inj H
  go_enter Try.func92, Try.ntmps92
  go_wp2_with (first | ((with_reducible refine gate_dst (N := 3) rfl ?_); refine box_event ?hg (N := 3) ?hd (cs := #[.int .i64 a1_0, .int .i64 a1_1, .int .i64 a1_2, .int .i64 a1_3, .int .i64 a1_4]) (t := 63) ?hr ?_; (case hd => rfl); (case hg => rfl); (case hr => first | (go_simp; done) | (go_simp; rfl)); intro gb209 hg w17 hbox hb; have BK209 := Aside0.mk (hbox); have GW209 := Aside0.mk ((by rw [hg]; exact (below_size (xyo HB.out)) : w.heap.size ≤ gb209)); have GE209 := Aside0.mk ((by rw [hg]; exact (below_size (xyo HB.out)) : w.heap.size ≤ gb209)); replace HB := Aside0.mk (below_step (xyo HB.out) hb); clear hb hbox hg; have hcz18_0 : w17.cell? ⟨gb209, 0, none⟩ = some (.int .i64 a1_0) := xyc BK209.out; have hcz18_1 : w17.cell? ⟨gb209, 1, none⟩ = some (.int .i64 a1_1) := xyc BK209.out; have hcz18_2 : w17.cell? ⟨gb209, 2, none⟩ = some (.int .i64 a1_2) := xyc BK209.out; have hcz18_3 : w17.cell? ⟨gb209, 3, none⟩ = some (.int .i64 a1_3) := xyc BK209.out; have hcz18_4 : w17.cell? ⟨gb209, 4, none⟩ = some (.int .i64 a1_4) := xyc BK209.out; have hfz18_0 := blk_frozen BK209.out 0; have hfz18_1 := blk_frozen BK209.out 1; have hfz18_2 := blk_frozen BK209.out 2; have hfz18_3 := blk_frozen BK209.out 3; have hfz18_4 := blk_frozen BK209.out 4) | ((with_reducible refine gate_callee (f := 125) rfl ?_); refine goesL_ (some 11) rfl rfl Try.func125 (by kernel_rfl) rfl #[.int .i64 a1_1] rfl wy2 ?_; (with_reducible refine (impl_isVar.calls a1_1 false _ A4.out).mono ?_); rintro e w' ⟨rfl, ⟨nd, rfl⟩⟩; refine ⟨_, rfl, ?_⟩))
  go_ret
  exact ⟨wy3, wy8⟩
 rw [if_neg c3] at H
 have c3b0 : (a1_0 == 0) = false := beq_eq_false_iff_ne.mpr c3
 have c3b1 : (a1_0 != 0) = true := bne_iff_ne.mpr c3
 by_cases c19 : a1_0 = 1
 ·rw [if_pos c19] at H
  have c19b0 : (a1_0 == 1) = true := beq_iff_eq.mpr c19
  have c19b1 : (a1_0 != 1) = false := bne_eq_false_iff_eq.mpr c19
  clear c19
  replace H := Option.bind_eq_some_iff.mp H
  obtain ⟨t214, A200, H⟩ := H
  replace H : (if t214 = true then (if a1_2 = 0 then (if a1_3 = 0 then ((impl_IsWord.f a0 a1_4).bind fun t215 => (some t215)) else (some false)) else (some false)) else (some false)) = some r := H
  have A20 := Aside0.mk A200
  clear A200
  by_cases c21 : t214 = true
  ·subst c21
   have H1 : (if a1_2 = 0 then (if a1_3 = 0 then ((impl_IsWord.f a0 a1_4).bind fun t215 => (some t215)) else (some false)) else (some false)) = some r := by rw [if_pos rfl] at H; exact H
   clear H
   have H := H1
   clear H1
   by_cases c22 : a1_2 = 0
   ·rw [if_pos c22] at H
    have c22b0 : (a1_2 == 0) = true := beq_iff_eq.mpr c22
    have c22b1 : (a1_2 != 0) = false := bne_eq_false_iff_eq.mpr c22
    clear c22
    by_cases c23 : a1_3 = 0
    ·rw [if_pos c23] at H
     have c23b0 : (a1_3 == 0) = true := beq_iff_eq.mpr c23
     have c23b1 : (a1_3 != 0) = false := bne_eq_false_iff_eq.mpr c23
     clear c23
     replace H := Option.bind_eq_some_iff.mp H
     obtain ⟨t215, A240, H⟩ := H
     replace H : (some t215) = some r := H
     have A24 := Aside0.mk A240
     clear A240
     obtain rfl := Option.some.inj H
     go_enter Try.func92, Try.ntmps92
     go_wp2_with (first | ((with_reducible refine gate_dst (N := 3) rfl ?_); refine box_event ?hg (N := 3) ?hd (cs := #[.int .i64 a1_0, .int .i64 a1_1, .int .i64 a1_2, .int .i64 a1_3, .int .i64 a1_4]) (t := 63) ?hr ?_; (case hd => rfl); (case hg => rfl); (case hr => first | (go_simp; done) | (go_simp; rfl)); intro gb209 hg w25 hbox hb; have BK209 := Aside0.mk (hbox); have GW209 := Aside0.mk ((by rw [hg]; exact (below_size (xyo HB.out)) : w.heap.size ≤ gb209)); have GE209 := Aside0.mk ((by rw [hg]; exact (below_size (xyo HB.out)) : w.heap.size ≤ gb209)); replace HB := Aside0.mk (below_step (xyo HB.out) hb); clear hb hbox hg; have hcz26_0 : w25.cell? ⟨gb209, 0, none⟩ = some (.int .i64 a1_0) := xyc BK209.out; have hcz26_1 : w25.cell? ⟨gb209, 1, none⟩ = some (.int .i64 a1_1) := xyc BK209.out; have hcz26_2 : w25.cell? ⟨gb209, 2, none⟩ = some (.int .i64 a1_2) := xyc BK209.out; have hcz26_3 : w25.cell? ⟨gb209, 3, none⟩ = some (.int .i64 a1_3) := xyc BK209.out; have hcz26_4 : w25.cell? ⟨gb209, 4, none⟩ = some (.int .i64 a1_4) := xyc BK209.out; have hfz26_0 := blk_frozen BK209.out 0; have hfz26_1 := blk_frozen BK209.out 1; have hfz26_2 := blk_frozen BK209.out 2; have hfz26_3 := blk_frozen BK209.out 3; have hfz26_4 := blk_frozen BK209.out 4) | ((with_reducible refine gate_callee (f := 125) rfl ?_); refine goesL_ (some 31) rfl rfl Try.func125 (by kernel_rfl) rfl #[.int .i64 a1_1] rfl wy2 ?_; (with_reducible refine (impl_isVar.calls a1_1 true _ A20.out).mono ?_); rintro e w' ⟨rfl, ⟨nd, rfl⟩⟩; refine ⟨_, rfl, ?_⟩) | (go_at_call 102; (with_reducible refine (impl_IsWord.calls a0 a1_4 t215 _ A24.out).mono ?_); rintro e w' ⟨rfl, ⟨nd, rfl⟩⟩))
     go_ret
     exact ⟨wy3, wy8⟩
    rw [if_neg c23] at H
    have c23b0 : (a1_3 == 0) = false := beq_eq_false_iff_ne.mpr c23
    have c23b1 : (a1_3 != 0) = true := bne_iff_ne.mpr c23
    obtain rfl := Option.some.inj H
    go_enter Try.func92, Try.ntmps92
    go_wp2_with (first | ((with_reducible refine gate_dst (N := 3) rfl ?_); refine box_event ?hg (N := 3) ?hd (cs := #[.int .i64 a1_0, .int .i64 a1_1, .int .i64 a1_2, .int .i64 a1_3, .int .i64 a1_4]) (t := 63) ?hr ?_; (case hd => rfl); (case hg => rfl); (case hr => first | (go_simp; done) | (go_simp; rfl)); intro gb209 hg w27 hbox hb; have BK209 := Aside0.mk (hbox); have GW209 := Aside0.mk ((by rw [hg]; exact (below_size (xyo HB.out)) : w.heap.size ≤ gb209)); have GE209 := Aside0.mk ((by rw [hg]; exact (below_size (xyo HB.out)) : w.heap.size ≤ gb209)); replace HB := Aside0.mk (below_step (xyo HB.out) hb); clear hb hbox hg; have hcz28_0 : w27.cell? ⟨gb209, 0, none⟩ = some (.int .i64 a1_0) := xyc BK209.out; have hcz28_1 : w27.cell? ⟨gb209, 1, none⟩ = some (.int .i64 a1_1) := xyc BK209.out; have hcz28_2 : w27.cell? ⟨gb209, 2, none⟩ = some (.int .i64 a1_2) := xyc BK209.out; have hcz28_3 : w27.cell? ⟨gb209, 3, none⟩ = some (.int .i64 a1_3) := xyc BK209.out; have hcz28_4 : w27.cell? ⟨gb209, 4, none⟩ = some (.int .i64 a1_4) := xyc BK209.out; have hfz28_0 := blk_frozen BK209.out 0; have hfz28_1 := blk_frozen BK209.out 1; have hfz28_2 := blk_frozen BK209.out 2; have hfz28_3 := blk_frozen BK209.out 3; have hfz28_4 := blk_frozen BK209.out 4) | ((with_reducible refine gate_callee (f := 125) rfl ?_); refine goesL_ (some 31) rfl rfl Try.func125 (by kernel_rfl) rfl #[.int .i64 a1_1] rfl wy2 ?_; (with_reducible refine (impl_isVar.calls a1_1 true _ A20.out).mono ?_); rintro e w' ⟨rfl, ⟨nd, rfl⟩⟩; refine ⟨_, rfl, ?_⟩))
    go_ret
    exact ⟨wy3, wy8⟩
   rw [if_neg c22] at H
   have c22b0 : (a1_2 == 0) = false := beq_eq_false_iff_ne.mpr c22
   have c22b1 : (a1_2 != 0) = true := bne_iff_ne.mpr c22
   obtain rfl := Option.some.inj H
   go_enter Try.func92, Try.ntmps92
   go_wp2_with (first | ((with_reducible refine gate_dst (N := 3) rfl ?_); refine box_event ?hg (N := 3) ?hd (cs := #[.int .i64 a1_0, .int .i64 a1_1, .int .i64 a1_2, .int .i64 a1_3, .int .i64 a1_4]) (t := 63) ?hr ?_; (case hd => rfl); (case hg => rfl); (case hr => first | (go_simp; done) | (go_simp; rfl)); intro gb209 hg w29 hbox hb; have BK209 := Aside0.mk (hbox); have GW209 := Aside0.mk ((by rw [hg]; exact (below_size (xyo HB.out)) : w.heap.size ≤ gb209)); have GE209 := Aside0.mk ((by rw [hg]; exact (below_size (xyo HB.out)) : w.heap.size ≤ gb209)); replace HB := Aside0.mk (below_step (xyo HB.out) hb); clear hb hbox hg; have hcz30_0 : w29.cell? ⟨gb209, 0, none⟩ = some (.int .i64 a1_0) := xyc BK209.out; have hcz30_1 : w29.cell? ⟨gb209, 1, none⟩ = some (.int .i64 a1_1) := xyc BK209.out; have hcz30_2 : w29.cell? ⟨gb209, 2, none⟩ = some (.int .i64 a1_2) := xyc BK209.out; have hcz30_3 : w29.cell? ⟨gb209, 3, none⟩ = some (.int .i64 a1_3) := xyc BK209.out; have hcz30_4 : w29.cell? ⟨gb209, 4, none⟩ = some (.int .i64 a1_4) := xyc BK209.out; have hfz30_0 := blk_frozen BK209.out 0; have hfz30_1 := blk_frozen BK209.out 1; have hfz30_2 := blk_frozen BK209.out 2; have hfz30_3 := blk_frozen BK209.out 3; have hfz30_4 := blk_frozen BK209.out 4) | ((with_reducible refine gate_callee (f := 125) rfl ?_); refine goesL_ (some 31) rfl rfl Try.func125 (by kernel_rfl) rfl #[.int .i64 a1_1] rfl wy2 ?_; (with_reducible refine (impl_isVar.calls a1_1 true _ A20.out).mono ?_); rintro e w' ⟨rfl, ⟨nd, rfl⟩⟩; refine ⟨_, rfl, ?_⟩))
   go_ret
   exact ⟨wy3, wy8⟩
  replace c21 := Bool.eq_false_iff.mpr c21
  subst c21
  have H1 : (some false) = some r := by rw [if_neg (show ¬ (false = true) by decide)] at H; exact H
  clear H
  have H := H1
  clear H1
  obtain rfl := Option.some.inj H
  go_enter Try.func92, Try.ntmps92
  go_wp2_with (first | ((with_reducible refine gate_dst (N := 3) rfl ?_); refine box_event ?hg (N := 3) ?hd (cs := #[.int .i64 a1_0, .int .i64 a1_1, .int .i64 a1_2, .int .i64 a1_3, .int .i64 a1_4]) (t := 63) ?hr ?_; (case hd => rfl); (case hg => rfl); (case hr => first | (go_simp; done) | (go_simp; rfl)); intro gb209 hg w31 hbox hb; have BK209 := Aside0.mk (hbox); have GW209 := Aside0.mk ((by rw [hg]; exact (below_size (xyo HB.out)) : w.heap.size ≤ gb209)); have GE209 := Aside0.mk ((by rw [hg]; exact (below_size (xyo HB.out)) : w.heap.size ≤ gb209)); replace HB := Aside0.mk (below_step (xyo HB.out) hb); clear hb hbox hg; have hcz32_0 : w31.cell? ⟨gb209, 0, none⟩ = some (.int .i64 a1_0) := xyc BK209.out; have hcz32_1 : w31.cell? ⟨gb209, 1, none⟩ = some (.int .i64 a1_1) := xyc BK209.out; have hcz32_2 : w31.cell? ⟨gb209, 2, none⟩ = some (.int .i64 a1_2) := xyc BK209.out; have hcz32_3 : w31.cell? ⟨gb209, 3, none⟩ = some (.int .i64 a1_3) := xyc BK209.out; have hcz32_4 : w31.cell? ⟨gb209, 4, none⟩ = some (.int .i64 a1_4) := xyc BK209.out; have hfz32_0 := blk_frozen BK209.out 0; have hfz32_1 := blk_frozen BK209.out 1; have hfz32_2 := blk_frozen BK209.out 2; have hfz32_3 := blk_frozen BK209.out 3; have hfz32_4 := blk_frozen BK209.out 4) | ((with_reducible refine gate_callee (f := 125) rfl ?_); refine goesL_ (some 31) rfl rfl Try.func125 (by kernel_rfl) rfl #[.int .i64 a1_1] rfl wy2 ?_; (with_reducible refine (impl_isVar.calls a1_1 false _ A20.out).mono ?_); rintro e w' ⟨rfl, ⟨nd, rfl⟩⟩; refine ⟨_, rfl, ?_⟩))
  go_ret
  exact ⟨wy3, wy8⟩
 rw [if_neg c19] at H
 have c19b0 : (a1_0 == 1) = false := beq_eq_false_iff_ne.mpr c19
 have c19b1 : (a1_0 != 1) = true := bne_iff_ne.mpr c19
 have HC33 := Aside0.mk H
 clear H
 go_enter Try.func92, Try.ntmps92
 go_upto_if 48 with (first | ((with_reducible refine gate_dst (N := 3) rfl ?_); refine box_event ?hg (N := 3) ?hd (cs := #[.int .i64 a1_0, .int .i64 a1_1, .int .i64 a1_2, .int .i64 a1_3, .int .i64 a1_4]) (t := 63) ?hr ?_; (case hd => rfl); (case hg => rfl); (case hr => first | (go_simp; done) | (go_simp; rfl)); intro gb209 hg w34 hbox hb; have BK209 := Aside0.mk (hbox); have GW209 := Aside0.mk ((by rw [hg]; exact (below_size (xyo HB.out)) : w.heap.size ≤ gb209)); have GE209 := Aside0.mk ((by rw [hg]; exact (below_size (xyo HB.out)) : w.heap.size ≤ gb209)); replace HB := Aside0.mk (below_step (xyo HB.out) hb); clear hb hbox hg; have hcz35_0 : w34.cell? ⟨gb209, 0, none⟩ = some (.int .i64 a1_0) := xyc BK209.out; have hcz35_1 : w34.cell? ⟨gb209, 1, none⟩ = some (.int .i64 a1_1) := xyc BK209.out; have hcz35_2 : w34.cell? ⟨gb209, 2, none⟩ = some (.int .i64 a1_2) := xyc BK209.out; have hcz35_3 : w34.cell? ⟨gb209, 3, none⟩ = some (.int .i64 a1_3) := xyc BK209.out; have hcz35_4 : w34.cell? ⟨gb209, 4, none⟩ = some (.int .i64 a1_4) := xyc BK209.out; have hfz35_0 := blk_frozen BK209.out 0; have hfz35_1 := blk_frozen BK209.out 1; have hfz35_2 := blk_frozen BK209.out 2; have hfz35_3 := blk_frozen BK209.out 3; have hfz35_4 := blk_frozen BK209.out 4))
 (try simp only [Act.put, List.setIfInBounds_toArray, List.set_cons_zero, List.set_cons_succ])
 go_cut [48] (fun v48 wc => ∃ (kq : Nat) (x48_32 : Bool), v48 = .bool x48_32 ∧ Aside0 (impl_isLine.j0 kq a1_0 x48_32 a1_0 a1_1 a1_2 a1_3 a1_4 = some r) ∧ Aside0 (kq ≤ k) ∧ Aside0 (wc.heap[gb209]? = some (.cells #[.int .i64 a1_0, .int .i64 a1_1, .int .i64 a1_2, .int .i64 a1_3, .int .i64 a1_4] 63 (0, 0))) ∧ Aside0 (Below w.heap.size w wc))
 case first =>
  have H := HC33.out
  clear HC33
  by_cases c36 : a1_0 = 2
  ·rw [if_pos c36] at H
   have c36b0 : (a1_0 == 2) = true := beq_iff_eq.mpr c36
   have c36b1 : (a1_0 != 2) = false := bne_eq_false_iff_eq.mpr c36
   clear c36
   (first | rw [c36b0] | (simp only [i64_w, i32_w]; rw [c36b0]) | skip)
   have H' := Aside0.mk H
   clear H
   go_wp2
   go_meet
   case rel => exact ⟨_, ((a1_0 == 2)), wy5, H', ⟨(by first | omega | exact Nat.le_refl _)⟩, ⟨(xyb BK209.out)⟩, ⟨wy8⟩⟩
  rw [if_neg c36] at H
  have c36b0 : (a1_0 == 2) = false := beq_eq_false_iff_ne.mpr c36
  have c36b1 : (a1_0 != 2) = true := bne_iff_ne.mpr c36
  (first | rw [c36b0] | (simp only [i64_w, i32_w]; rw [c36b0]) | skip)
  have H' := Aside0.mk H
  clear H
  go_wp2
  go_meet
  case rel => exact ⟨_, ((a1_0 == 6)), wy5, H', ⟨(by first | omega | exact Nat.le_refl _)⟩, ⟨(xyb BK209.out)⟩, ⟨wy8⟩⟩
 case rest =>
  clear HC33
  try clear c1
  try clear c2
  try clear p2
  try clear c3
  try clear c3b0
  try clear c3b1
  try clear c5
  try clear c7
  try clear c9
  try clear c12
  try clear c19
  try clear c19b0
  try clear c19b1
  try clear c21
  try clear c22
  try clear c22b0
  try clear c22b1
  try clear c23
  try clear c23b0
  try clear c23b1
  try clear c36
  try clear c36b0
  try clear c36b1
  try clear hcz12_0
  try clear hcz12_1
  try clear hcz12_2
  try clear hcz12_3
  try clear hcz12_4
  try clear hcz14_0
  try clear hcz14_1
  try clear hcz14_2
  try clear hcz14_3
  try clear hcz14_4
  try clear hcz16_0
  try clear hcz16_1
  try clear hcz16_2
  try clear hcz16_3
  try clear hcz16_4
  try clear hcz18_0
  try clear hcz18_1
  try clear hcz18_2
  try clear hcz18_3
  try clear hcz18_4
  try clear hcz26_0
  try clear hcz26_1
  try clear hcz26_2
  try clear hcz26_3
  try clear hcz26_4
  try clear hcz28_0
  try clear hcz28_1
  try clear hcz28_2
  try clear hcz28_3
  try clear hcz28_4
  try clear hcz30_0
  try clear hcz30_1
  try clear hcz30_2
  try clear hcz30_3
  try clear hcz30_4
  try clear hcz32_0
  try clear hcz32_1
  try clear hcz32_2
  try clear hcz32_3
  try clear hcz32_4
  try clear hcz35_0
  try clear hcz35_1
  try clear hcz35_2
  try clear hcz35_3
  try clear hcz35_4
  try clear hfz12_0
  try clear hfz12_1
  try clear hfz12_2
  try clear hfz12_3
  try clear hfz12_4
  try clear hfz14_0
  try clear hfz14_1
  try clear hfz14_2
  try clear hfz14_3
  try clear hfz14_4
  try clear hfz16_0
  try clear hfz16_1
  try clear hfz16_2
  try clear hfz16_3
  try clear hfz16_4
  try clear hfz18_0
  try clear hfz18_1
  try clear hfz18_2
  try clear hfz18_3
  try clear hfz18_4
  try clear hfz26_0
  try clear hfz26_1
  try clear hfz26_2
  try clear hfz26_3
  try clear hfz26_4
  try clear hfz28_0
  try clear hfz28_1
  try clear hfz28_2
  try clear hfz28_3
  try clear hfz28_4
  try clear hfz30_0
  try clear hfz30_1
  try clear hfz30_2
  try clear hfz30_3
  try clear hfz30_4
  try clear hfz32_0
  try clear hfz32_1
  try clear hfz32_2
  try clear hfz32_3
  try clear hfz32_4
  try clear hfz35_0
  try clear hfz35_1
  try clear hfz35_2
  try clear hfz35_3
  try clear hfz35_4
  obtain ⟨kq, x48_32, rfl, HA, HJ32, BK209, HB⟩ := hcut
  cases kq with
  | zero => exact absurd HA.out (by simp [impl_isLine.j0])
  | succ kj32 =>
   have H := HA.out
   clear HA
   simp only [impl_isLine.j0] at H
   by_cases c37 : x48_32 = true
   ·subst c37
    have H1 : (if a1_1 = 0 then ((impl_isCmp.f a1_2).bind fun t216 => (if t216 = true then ((impl_isVar.f a1_3).bind fun t217 => (if t217 = true then ((impl_isVar.f a1_4).bind fun t218 => (some t218)) else (some false))) else (some false))) else (some false)) = some r := by rw [if_pos rfl] at H; exact H
    clear H
    have H := H1
    clear H1
    by_cases c38 : a1_1 = 0
    ·rw [if_pos c38] at H
     have c38b0 : (a1_1 == 0) = true := beq_iff_eq.mpr c38
     have c38b1 : (a1_1 != 0) = false := bne_eq_false_iff_eq.mpr c38
     clear c38
     replace H := Option.bind_eq_some_iff.mp H
     obtain ⟨t216, A390, H⟩ := H
     replace H : (if t216 = true then ((impl_isVar.f a1_3).bind fun t217 => (if t217 = true then ((impl_isVar.f a1_4).bind fun t218 => (some t218)) else (some false))) else (some false)) = some r := H
     have A39 := Aside0.mk A390
     clear A390
     by_cases c40 : t216 = true
     ·subst c40
      have H1 : ((impl_isVar.f a1_3).bind fun t217 => (if t217 = true then ((impl_isVar.f a1_4).bind fun t218 => (some t218)) else (some false))) = some r := by rw [if_pos rfl] at H; exact H
      clear H
      have H := H1
      clear H1
      replace H := Option.bind_eq_some_iff.mp H
      obtain ⟨t217, A410, H⟩ := H
      replace H : (if t217 = true then ((impl_isVar.f a1_4).bind fun t218 => (some t218)) else (some false)) = some r := H
      have A41 := Aside0.mk A410
      clear A410
      by_cases c42 : t217 = true
      ·subst c42
       have H1 : ((impl_isVar.f a1_4).bind fun t218 => (some t218)) = some r := by rw [if_pos rfl] at H; exact H
       clear H
       have H := H1
       clear H1
       replace H := Option.bind_eq_some_iff.mp H
       obtain ⟨t218, A430, H⟩ := H
       replace H : (some t218) = some r := H
       have A43 := Aside0.mk A430
       clear A430
       obtain rfl := Option.some.inj H
       have hcz44_0 : wc.cell? ⟨gb209, 0, none⟩ = some (.int .i64 a1_0) := xyc BK209.out
       have hcz44_1 : wc.cell? ⟨gb209, 1, none⟩ = some (.int .i64 a1_1) := xyc BK209.out
       have hcz44_2 : wc.cell? ⟨gb209, 2, none⟩ = some (.int .i64 a1_2) := xyc BK209.out
       have hcz44_3 : wc.cell? ⟨gb209, 3, none⟩ = some (.int .i64 a1_3) := xyc BK209.out
       have hcz44_4 : wc.cell? ⟨gb209, 4, none⟩ = some (.int .i64 a1_4) := xyc BK209.out
       have hfz44_0 := blk_frozen BK209.out 0
       have hfz44_1 := blk_frozen BK209.out 1
       have hfz44_2 := blk_frozen BK209.out 2
       have hfz44_3 := blk_frozen BK209.out 3
       have hfz44_4 := blk_frozen BK209.out 4
       go_wp2_with (first | (go_at_call 127; (with_reducible refine (impl_isCmp.calls a1_2 true _ A39.out).mono ?_); rintro e w' ⟨rfl, ⟨nd, rfl⟩⟩) | (go_at_call 125; (with_reducible refine (impl_isVar.calls a1_3 true _ A41.out).mono ?_); rintro e w' ⟨rfl, ⟨nd, rfl⟩⟩) | (go_at_call 125; (with_reducible refine (impl_isVar.calls a1_4 t218 _ A43.out).mono ?_); rintro e w' ⟨rfl, ⟨nd, rfl⟩⟩))
       go_ret
       exact ⟨wy3, wy8⟩
      replace c42 := Bool.eq_false_iff.mpr c42
      subst c42
      have H1 : (some false) = some r := by rw [if_neg (show ¬ (false = true) by decide)] at H; exact H
      clear H
      have H := H1
      clear H1
      obtain rfl := Option.some.inj H
      have hcz45_0 : wc.cell? ⟨gb209, 0, none⟩ = some (.int .i64 a1_0) := xyc BK209.out
      have hcz45_1 : wc.cell? ⟨gb209, 1, none⟩ = some (.int .i64 a1_1) := xyc BK209.out
      have hcz45_2 : wc.cell? ⟨gb209, 2, none⟩ = some (.int .i64 a1_2) := xyc BK209.out
      have hcz45_3 : wc.cell? ⟨gb209, 3, none⟩ = some (.int .i64 a1_3) := xyc BK209.out
      have hcz45_4 : wc.cell? ⟨gb209, 4, none⟩ = some (.int .i64 a1_4) := xyc BK209.out
      have hfz45_0 := blk_frozen BK209.out 0
      have hfz45_1 := blk_frozen BK209.out 1
      have hfz45_2 := blk_frozen BK209.out 2
      have hfz45_3 := blk_frozen BK209.out 3
      have hfz45_4 := blk_frozen BK209.out 4
      go_wp2_with (first | (go_at_call 127; (with_reducible refine (impl_isCmp.calls a1_2 true _ A39.out).mono ?_); rintro e w' ⟨rfl, ⟨nd, rfl⟩⟩) | (go_at_call 125; (with_reducible refine (impl_isVar.calls a1_3 false _ A41.out).mono ?_); rintro e w' ⟨rfl, ⟨nd, rfl⟩⟩))
      go_ret
      exact ⟨wy3, wy8⟩
     replace c40 := Bool.eq_false_iff.mpr c40
     subst c40
     have H1 : (some false) = some r := by rw [if_neg (show ¬ (false = true) by decide)] at H; exact H
     clear H
     have H := H1
     clear H1
     obtain rfl := Option.some.inj H
     have hcz46_0 : wc.cell? ⟨gb209, 0, none⟩ = some (.int .i64 a1_0) := xyc BK209.out
     have hcz46_1 : wc.cell? ⟨gb209, 1, none⟩ = some (.int .i64 a1_1) := xyc BK209.out
     have hcz46_2 : wc.cell? ⟨gb209, 2, none⟩ = some (.int .i64 a1_2) := xyc BK209.out
     have hcz46_3 : wc.cell? ⟨gb209, 3, none⟩ = some (.int .i64 a1_3) := xyc BK209.out
     have hcz46_4 : wc.cell? ⟨gb209, 4, none⟩ = some (.int .i64 a1_4) := xyc BK209.out
     have hfz46_0 := blk_frozen BK209.out 0
     have hfz46_1 := blk_frozen BK209.out 1
     have hfz46_2 := blk_frozen BK209.out 2
     have hfz46_3 := blk_frozen BK209.out 3
     have hfz46_4 := blk_frozen BK209.out 4
     go_wp2_with (first | (go_at_call 127; (with_reducible refine (impl_isCmp.calls a1_2 false _ A39.out).mono ?_); rintro e w' ⟨rfl, ⟨nd, rfl⟩⟩))
     go_ret
     exact ⟨wy3, wy8⟩
    rw [if_neg c38] at H
    have c38b0 : (a1_1 == 0) = false := beq_eq_false_iff_ne.mpr c38
    have c38b1 : (a1_1 != 0) = true := bne_iff_ne.mpr c38
    obtain rfl := Option.some.inj H
    have hcz47_0 : wc.cell? ⟨gb209, 0, none⟩ = some (.int .i64 a1_0) := xyc BK209.out
    have hcz47_1 : wc.cell? ⟨gb209, 1, none⟩ = some (.int .i64 a1_1) := xyc BK209.out
    have hcz47_2 : wc.cell? ⟨gb209, 2, none⟩ = some (.int .i64 a1_2) := xyc BK209.out
    have hcz47_3 : wc.cell? ⟨gb209, 3, none⟩ = some (.int .i64 a1_3) := xyc BK209.out
    have hcz47_4 : wc.cell? ⟨gb209, 4, none⟩ = some (.int .i64 a1_4) := xyc BK209.out
    have hfz47_0 := blk_frozen BK209.out 0
    have hfz47_1 := blk_frozen BK209.out 1
    have hfz47_2 := blk_frozen BK209.out 2
    have hfz47_3 := blk_frozen BK209.out 3
    have hfz47_4 := blk_frozen BK209.out 4
    go_wp2
    go_ret
    exact ⟨wy3, wy8⟩
   replace c37 := Bool.eq_false_iff.mpr c37
   subst c37
   have H1 : (if a1_0 = 3 then (impl_isLine.j1 kj32 a1_0 (a1_0 == 3) a1_0 a1_1 a1_2 a1_3 a1_4) else (impl_isLine.j1 kj32 a1_0 (a1_0 == 4) a1_0 a1_1 a1_2 a1_3 a1_4)) = some r := by rw [if_neg (show ¬ (false = true) by decide)] at H; exact H
   clear H
   have H := H1
   clear H1
   have HC48 := Aside0.mk H
   clear H
   go_upto_if 69 with (fail)
   go_cut [69] (fun v69 wc => ∃ (kq : Nat) (x69_47 : Bool), v69 = .bool x69_47 ∧ Aside0 (impl_isLine.j1 kq a1_0 x69_47 a1_0 a1_1 a1_2 a1_3 a1_4 = some r) ∧ Aside0 (kq ≤ kj32) ∧ Aside0 (wc.heap[gb209]? = some (.cells #[.int .i64 a1_0, .int .i64 a1_1, .int .i64 a1_2, .int .i64 a1_3, .int .i64 a1_4] 63 (0, 0))) ∧ Aside0 (Below w.heap.size w wc))
   case first =>
    have H := HC48.out
    clear HC48
    by_cases c49 : a1_0 = 3
    ·rw [if_pos c49] at H
     have c49b0 : (a1_0 == 3) = true := beq_iff_eq.mpr c49
     have c49b1 : (a1_0 != 3) = false := bne_eq_false_iff_eq.mpr c49
     clear c49
     (first | rw [c49b0] | (simp only [i64_w, i32_w]; rw [c49b0]) | skip)
     have H' := Aside0.mk H
     clear H
     go_wp2
     go_meet
     case rel => exact ⟨_, ((a1_0 == 3)), wy5, H', ⟨(by have := HJ32.out; first | omega | exact Nat.le_refl _)⟩, ⟨(xyb BK209.out)⟩, ⟨wy8⟩⟩
    rw [if_neg c49] at H
    have c49b0 : (a1_0 == 3) = false := beq_eq_false_iff_ne.mpr c49
    have c49b1 : (a1_0 != 3) = true := bne_iff_ne.mpr c49
    (first | rw [c49b0] | (simp only [i64_w, i32_w]; rw [c49b0]) | skip)
    have H' := Aside0.mk H
    clear H
    go_wp2
    go_meet
    case rel => exact ⟨_, ((a1_0 == 4)), wy5, H', ⟨(by have := HJ32.out; first | omega | exact Nat.le_refl _)⟩, ⟨(xyb BK209.out)⟩, ⟨wy8⟩⟩
   case rest =>
    clear HC48
    try clear c1
    try clear c2
    try clear p2
    try clear c3
    try clear c3b0
    try clear c3b1
    try clear c4
    try clear c5
    try clear c7
    try clear c9
    try clear c12
    try clear c19
    try clear c19b0
    try clear c19b1
    try clear c21
    try clear c22
    try clear c22b0
    try clear c22b1
    try clear c23
    try clear c23b0
    try clear c23b1
    try clear c36
    try clear c36b0
    try clear c36b1
    try clear c37
    try clear c38
    try clear c38b0
    try clear c38b1
    try clear c40
    try clear c42
    try clear c49
    try clear c49b0
    try clear c49b1
    try clear hcz12_0
    try clear hcz12_1
    try clear hcz12_2
    try clear hcz12_3
    try clear hcz12_4
    try clear hcz14_0
    try clear hcz14_1
    try clear hcz14_2
    try clear hcz14_3
    try clear hcz14_4
    try clear hcz16_0
    try clear hcz16_1
    try clear hcz16_2
    try clear hcz16_3
    try clear hcz16_4
    try clear hcz18_0
    try clear hcz18_1
    try clear hcz18_2
    try clear hcz18_3
    try clear hcz18_4
    try clear hcz26_0
    try clear hcz26_1
    try clear hcz26_2
    try clear hcz26_3
    try clear hcz26_4
    try clear hcz28_0
    try clear hcz28_1
    try clear hcz28_2
    try clear hcz28_3
    try clear hcz28_4
    try clear hcz30_0
    try clear hcz30_1
    try clear hcz30_2
    try clear hcz30_3
    try clear hcz30_4
    try clear hcz32_0
    try clear hcz32_1
    try clear hcz32_2
    try clear hcz32_3
    try clear hcz32_4
    try clear hcz35_0
    try clear hcz35_1
    try clear hcz35_2
    try clear hcz35_3
    try clear hcz35_4
    try clear hcz44_0
    try clear hcz44_1
    try clear hcz44_2
    try clear hcz44_3
    try clear hcz44_4
    try clear hcz45_0
    try clear hcz45_1
    try clear hcz45_2
    try clear hcz45_3
    try clear hcz45_4
    try clear hcz46_0
    try clear hcz46_1
    try clear hcz46_2
    try clear hcz46_3
    try clear hcz46_4
    try clear hcz47_0
    try clear hcz47_1
    try clear hcz47_2
    try clear hcz47_3
    try clear hcz47_4
    try clear hfz12_0
    try clear hfz12_1
    try clear hfz12_2
    try clear hfz12_3
    try clear hfz12_4
    try clear hfz14_0
    try clear hfz14_1
    try clear hfz14_2
    try clear hfz14_3
    try clear hfz14_4
    try clear hfz16_0
    try clear hfz16_1
    try clear hfz16_2
    try clear hfz16_3
    try clear hfz16_4
    try clear hfz18_0
    try clear hfz18_1
    try clear hfz18_2
    try clear hfz18_3
    try clear hfz18_4
    try clear hfz26_0
    try clear hfz26_1
    try clear hfz26_2
    try clear hfz26_3
    try clear hfz26_4
    try clear hfz28_0
    try clear hfz28_1
    try clear hfz28_2
    try clear hfz28_3
    try clear hfz28_4
    try clear hfz30_0
    try clear hfz30_1
    try clear hfz30_2
    try clear hfz30_3
    try clear hfz30_4
    try clear hfz32_0
    try clear hfz32_1
    try clear hfz32_2
    try clear hfz32_3
    try clear hfz32_4
    try clear hfz35_0
    try clear hfz35_1
    try clear hfz35_2
    try clear hfz35_3
    try clear hfz35_4
    try clear hfz44_0
    try clear hfz44_1
    try clear hfz44_2
    try clear hfz44_3
    try clear hfz44_4
    try clear hfz45_0
    try clear hfz45_1
    try clear hfz45_2
    try clear hfz45_3
    try clear hfz45_4
    try clear hfz46_0
    try clear hfz46_1
    try clear hfz46_2
    try clear hfz46_3
    try clear hfz46_4
    try clear hfz47_0
    try clear hfz47_1
    try clear hfz47_2
    try clear hfz47_3
    try clear hfz47_4
    try clear p2
    obtain ⟨kq, x69_47, rfl, HA, HJ47, BK209, HB⟩ := hcut
    cases kq with
    | zero => exact absurd HA.out (by simp [impl_isLine.j1])
    | succ kj47 =>
     have H := HA.out
     clear HA
     simp only [impl_isLine.j1] at H
     by_cases c50 : x69_47 = true
     ·subst c50
      have H1 : (some (a1_1 == 0 && (a1_2 == 0 && (a1_3 == 0 && (a1_4 == 0))))) = some r := by rw [if_pos rfl] at H; exact H
      clear H
      have H := H1
      clear H1
      obtain rfl := Option.some.inj H
      have hcz51_0 : wc.cell? ⟨gb209, 0, none⟩ = some (.int .i64 a1_0) := xyc BK209.out
      have hcz51_1 : wc.cell? ⟨gb209, 1, none⟩ = some (.int .i64 a1_1) := xyc BK209.out
      have hcz51_2 : wc.cell? ⟨gb209, 2, none⟩ = some (.int .i64 a1_2) := xyc BK209.out
      have hcz51_3 : wc.cell? ⟨gb209, 3, none⟩ = some (.int .i64 a1_3) := xyc BK209.out
      have hcz51_4 : wc.cell? ⟨gb209, 4, none⟩ = some (.int .i64 a1_4) := xyc BK209.out
      have hfz51_0 := blk_frozen BK209.out 0
      have hfz51_1 := blk_frozen BK209.out 1
      have hfz51_2 := blk_frozen BK209.out 2
      have hfz51_3 := blk_frozen BK209.out 3
      have hfz51_4 := blk_frozen BK209.out 4
      go_wp2
      go_ret
      exact ⟨wy3, wy8⟩
     replace c50 := Bool.eq_false_iff.mpr c50
     subst c50
     have H1 : (if a1_0 = 5 then (if (a1_0 == 5 && (a1_1 == 0 && (a1_2 == 0 && (a1_3 == 0)))) = true then ((impl_within.f a1_4 1 8).bind fun t219 => (some t219)) else (some false)) else (some false)) = some r := by rw [if_neg (show ¬ (false = true) by decide)] at H; exact H
     clear H
     have H := H1
     clear H1
     by_cases c52 : a1_0 = 5
     ·rw [if_pos c52] at H
      have c52b0 : (a1_0 == 5) = true := beq_iff_eq.mpr c52
      have c52b1 : (a1_0 != 5) = false := bne_eq_false_iff_eq.mpr c52
      clear c52
      by_cases c53 : (a1_0 == 5 && (a1_1 == 0 && (a1_2 == 0 && (a1_3 == 0)))) = true
      ·rw [if_pos c53] at H
       have c53b0 : (a1_0 == 5 && (a1_1 == 0 && (a1_2 == 0 && (a1_3 == 0)))) = true := c53
       (try (have c53b1 : (a1_1 == 0 && (a1_2 == 0 && (a1_3 == 0))) = true := by have h_ : (a1_0 == 5 && (a1_1 == 0 && (a1_2 == 0 && (a1_3 == 0)))) = true := c53; rw [show (a1_0 == 5) = true by assumption, Bool.true_and] at h_; exact h_))
       clear c53
       replace H := Option.bind_eq_some_iff.mp H
       obtain ⟨t219, A540, H⟩ := H
       replace H : (some t219) = some r := H
       have A54 := Aside0.mk A540
       clear A540
       obtain rfl := Option.some.inj H
       have hcz55_0 : wc.cell? ⟨gb209, 0, none⟩ = some (.int .i64 a1_0) := xyc BK209.out
       have hcz55_1 : wc.cell? ⟨gb209, 1, none⟩ = some (.int .i64 a1_1) := xyc BK209.out
       have hcz55_2 : wc.cell? ⟨gb209, 2, none⟩ = some (.int .i64 a1_2) := xyc BK209.out
       have hcz55_3 : wc.cell? ⟨gb209, 3, none⟩ = some (.int .i64 a1_3) := xyc BK209.out
       have hcz55_4 : wc.cell? ⟨gb209, 4, none⟩ = some (.int .i64 a1_4) := xyc BK209.out
       have hfz55_0 := blk_frozen BK209.out 0
       have hfz55_1 := blk_frozen BK209.out 1
       have hfz55_2 := blk_frozen BK209.out 2
       have hfz55_3 := blk_frozen BK209.out 3
       have hfz55_4 := blk_frozen BK209.out 4
       go_wp2_with (first | (go_at_call 115; (with_reducible refine (impl_within.calls a1_4 1 8 t219 _ A54.out).mono ?_); rintro e w' ⟨rfl, ⟨nd, rfl⟩⟩))
       go_ret
       exact ⟨wy3, wy8⟩
      rw [if_neg c53] at H
      have c53b0 : (a1_0 == 5 && (a1_1 == 0 && (a1_2 == 0 && (a1_3 == 0)))) = false := by simpa using c53
      (try (have c53b1 : (a1_1 == 0 && (a1_2 == 0 && (a1_3 == 0))) = false := by have h_ : (a1_0 == 5 && (a1_1 == 0 && (a1_2 == 0 && (a1_3 == 0)))) = false := (by simpa using c53); rw [show (a1_0 == 5) = true by assumption, Bool.true_and] at h_; exact h_))
      clear c53
      obtain rfl := Option.some.inj H
      have hcz56_0 : wc.cell? ⟨gb209, 0, none⟩ = some (.int .i64 a1_0) := xyc BK209.out
      have hcz56_1 : wc.cell? ⟨gb209, 1, none⟩ = some (.int .i64 a1_1) := xyc BK209.out
      have hcz56_2 : wc.cell? ⟨gb209, 2, none⟩ = some (.int .i64 a1_2) := xyc BK209.out
      have hcz56_3 : wc.cell? ⟨gb209, 3, none⟩ = some (.int .i64 a1_3) := xyc BK209.out
      have hcz56_4 : wc.cell? ⟨gb209, 4, none⟩ = some (.int .i64 a1_4) := xyc BK209.out
      have hfz56_0 := blk_frozen BK209.out 0
      have hfz56_1 := blk_frozen BK209.out 1
      have hfz56_2 := blk_frozen BK209.out 2
      have hfz56_3 := blk_frozen BK209.out 3
      have hfz56_4 := blk_frozen BK209.out 4
      go_wp2
      go_ret
      exact ⟨wy3, wy8⟩
     rw [if_neg c52] at H
     have c52b0 : (a1_0 == 5) = false := beq_eq_false_iff_ne.mpr c52
     have c52b1 : (a1_0 != 5) = true := bne_iff_ne.mpr c52
     obtain rfl := Option.some.inj H
     go_wp2
     go_ret
     exact ⟨wy3, wy8⟩

/-- The object of a map of ints that are true: its keys, in the order in which they came. -/
def mobj (l : List Int) : Obj := .map (l.mapIdx fun i k => { key := .int .i64 k, val := .bool true, born := i }).toArray l.length
def mset (l : List Int) (k : Int) : List Int := if l.contains k then l else l ++ [k]
def mget (l : List Int) (k : Int) : Bool := l.contains k
theorem findNow_mobj (l : List Int) (k : Int) : ∀ (c i : Nat), Instr.findNow (.int .i64) (.int .i64 k) (l.mapIdx fun i k => { key := .int .i64 k, val := .bool true, born := c + i }) i = some ((l.findIdx? (· == k)).map fun j => (i + j, .bool true)) := by
 induction l with
 | nil => intro c i; rfl
 | cons x xs ih =>
  intro c i
  rw [List.mapIdx_cons]
  by_cases h : k = x
  ·subst h
   simp [Instr.findNow, Instr.sameNow, List.findIdx?_cons]
  have h1 : (k == x) = false := beq_eq_false_iff_ne.mpr h
  have h2 : (x == k) = false := beq_eq_false_iff_ne.mpr (Ne.symm h)
  have e : (fun (j : Nat) (a : Int) => ({ key := .int .i64 a, val := .bool true, born := c + (j + 1) } : MapEntry)) = fun j a => { key := .int .i64 a, val := .bool true, born := (c + 1) + j } := by
   funext j a; rw [show c + (j + 1) = c + 1 + j by omega]
  simp only [Instr.findNow, Instr.sameNow, if_true, h1, List.findIdx?_cons, h2]
  rw [e, ih (c + 1) (i + 1)]
  cases xs.findIdx? (· == k) with
  | none => rfl
  | some j => simp; omega
theorem find_mobj (l : List Int) (k : Int) : Instr.findNow (.int .i64) (.int .i64 k) (l.mapIdx fun i k => { key := .int .i64 k, val := .bool true, born := i }) 0 = some ((l.findIdx? (· == k)).map fun j => (j, .bool true)) := by
 have h := findNow_mobj l k 0 0
 simp only [Nat.zero_add] at h
 exact h
theorem contains_find (l : List Int) (k : Int) : l.contains k = (l.findIdx? (· == k)).isSome := by
 rw [List.findIdx?_isSome]
 induction l with
 | nil => rfl
 | cons x xs ih =>
  have e : (k == x) = (x == k) := by
   by_cases h : k = x
   ·subst h; rfl
   rw [beq_eq_false_iff_ne.mpr h, beq_eq_false_iff_ne.mpr (Ne.symm h)]
  rw [List.contains_cons, List.any_cons, ih, e]
theorem run_mget {P : Program} {w : World} {t kt et : TypeId} {g : Nat} {l : List Int} (hb : w.heap[g]? = some (mobj l)) (ht : P.underlying t = some (.map kt et)) (hk : P.underlying kt = some (.int .i64)) (hz : (zeroValue et).run P w = .ok (.bool false) w) (k : Int) :
  (Instr.lookup t (.map (some g)) (.int .i64 k) false).run P w = .ok (.bool (mget l k)) w := by
 have hc : ∀ e, (Instr.checkKey e 10000 kt (.int .i64 k)).run P w = .ok () w := fun e => MapKept.run_checkKey (k := .int .i64 k) hk (by simp [MapKept.IsKey]) e 9999
 have hf := find_mobj l k
 unfold mget
 rw [contains_find]
 cases hi : l.findIdx? (· == k) with
 | none =>
  rw [hi] at hf
  simp [Instr.lookup, run_underlying ht, MapKept.run_getObj_map hb, hc, MapKept.run_findKey hk hf, hz, Result.andThen]
 | some j =>
  rw [hi] at hf
  simp [Instr.lookup, run_underlying ht, MapKept.run_getObj_map hb, hc, MapKept.run_findKey hk hf, hz, Result.andThen]
theorem run_mset {P : Program} {w : World} {t kt et : TypeId} {g : Nat} {l : List Int} (hb : w.heap[g]? = some (mobj l)) (ht : P.underlying t = some (.map kt et)) (hk : P.underlying kt = some (.int .i64)) (k : Int) :
  (Instr.mapUpdate t (.map (some g)) (.int .i64 k) (.bool true)).run P w = .ok () { w with heap := w.heap.setIfInBounds g (mobj (mset l k)) } := by
 have hc : ∀ e, (Instr.checkKey e 10000 kt (.int .i64 k)).run P w = .ok () w := fun e => MapKept.run_checkKey (k := .int .i64 k) hk (by simp [MapKept.IsKey]) e 9999
 have hf := find_mobj l k
 unfold mset
 rw [contains_find]
 cases hi : l.findIdx? (· == k) with
 | none =>
  rw [hi] at hf
  simp [Instr.mapUpdate, run_underlying ht, MapKept.run_getObj_map hb, hc, MapKept.run_findKey hk hf, MapKept.run_setObj_map _ hb, Result.andThen]
  congr 2 <;> simp [List.mapIdx_append]
 | some j =>
  rw [hi] at hf
  obtain ⟨hj, hjk, _⟩ := List.findIdx?_eq_some_iff_getElem.1 hi
  have hkey : l[j] = k := by simpa using hjk
  have hs : (Instr.keyThatStays (.int .i64 k) (.int .i64 k)).run P w = .ok (.int .i64 k) w := by simp [Instr.keyThatStays, Instr.sameBits]
  simp [Instr.mapUpdate, run_underlying ht, MapKept.run_getObj_map hb, hc, MapKept.run_findKey hk hf, MapKept.run_setObj_map _ hb, Result.andThen, hj, hkey, hs]
  congr 3
  apply List.ext_getElem
  ·simp
  intro i h1 h2
  simp only [List.getElem_modify, List.getElem_mapIdx]
  split
  ·rename_i hij
   subst hij
   simp [hkey]
  rfl
theorem mset_grown {w : World} {g : Nat} {l l' : List Int} (hb : w.heap[g]? = some (mobj l)) : w.grownBy { w with heap := w.heap.setIfInBounds g (mobj l') } (some g) :=
 ⟨rfl, rfl, rfl, by simp, fun i _ hi => by
  have e : g ≠ i := fun e => hi (by rw [e])
  simp [Array.getElem?_setIfInBounds, e]⟩
theorem mset_same {w : World} {g : Nat} {l l' : List Int} (hb : w.heap[g]? = some (mobj l)) : ({ w with heap := w.heap.setIfInBounds g (mobj l') } : World).heap[g]? = some (mobj l') := by
 have h := (Array.getElem?_eq_some_iff.1 hb).1
 simp [Array.getElem?_setIfInBounds, h]
theorem blk_farM {w : World} {g : Nat} {o : Obj} (h : w.heap[g]? = some o) {p : Addr} (hp : g ≠ p.block) (u : Value) : (w.setCell p u).heap[g]? = some o := (Below.heap_setCell w p u g hp).trans h
theorem ne_mobj {W : World} {g e' : Nat} {l : List Int} {v : Value} (hty : ∀ k, v.ownBlock = some k → ∃ cells, W.heap[k]? = some (.cells cells e' (0, 0))) (hb : W.heap[g]? = some (mobj l)) : some g ≠ v.ownBlock := fun e => by
 obtain ⟨cells, hc⟩ := hty g e.symm
 rw [hb] at hc
 exact absurd (Option.some.inj hc) (by unfold mobj; simp)
section
variable {P : Program} {ops : Array Oper} {rest : List Oper} {o : Oper} {a : Act} {Q : Exit → Act → World → Prop}
theorem below_mset {w0 W w1 : World} {base g : Nat} (hb : Below base w0 W) (hge : base ≤ g) (hs : g < W.heap.size) (hg : W.grownBy w1 (some g)) : Below base w0 w1 :=
 pw_below_grown hb (some g) (by omega) hg (fun k e => by injection e with e; omega)
theorem gate_mset {t : TypeId} {m x : Tmp} {v : Operand} {W : World} (_ho : o.op = .mapUpdate t (.tmp m) (.tmp x) v) (h : wpList P ops Q (o :: rest) a W) : wpList P ops Q (o :: rest) a W := h
theorem makeMap_event {W : World} (hgd : o.guard = none) {N : Tmp} (_hd : o.dst = some N) {t : TypeId} (ho : o.op = .makeMap t none)
  (h : ∀ g, g = W.heap.size → ∀ w1, w1.heap[g]? = some (mobj ([] : List Int)) → Below W.heap.size W w1 → wpList P ops Q rest (a.put o.dst (.map (some g))) w1) : wpList P ops Q (o :: rest) a W := by
 refine wpList_plain hgd fun K hK => ?_
 unfold Oper.wp
 simp [execOp, ho, Instr.makeMap, Result.andThen]
 exact hK _ _ (h _ rfl _ (heap_alloc_new W _) (below_alloc (Below.refl _ _) _))
theorem mset_event {w0 W : World} {t kt et g : Nat} {m x : Tmp} {k : Int} {l : List Int} (base : Nat) (hgd : o.guard = none) (ho : o.op = .mapUpdate t (.tmp m) (.tmp x) (.const (.bool true))) (hN : o.dst = none)
  (hm : a.eval (.tmp m) = .map (some g)) (hx : a.eval (.tmp x) = .int .i64 k) (ht : P.underlying t = some (.map kt et)) (hk : P.underlying kt = some (.int .i64)) (hb : W.heap[g]? = some (mobj l)) (hB : Below base w0 W) (hge : base ≤ g)
  (h : ∀ w1, w1.heap[g]? = some (mobj (mset l k)) → Below base w0 w1 → W.grownBy w1 (some g) → wpList P ops Q rest a w1) : wpList P ops Q (o :: rest) a W := by
 refine wpList_plain hgd fun K hK => ?_
 have hv : a.eval (.const (.bool true)) = .bool true := rfl
 unfold Oper.wp
 simp only [execOp, ho, hm, hx, hv, Result.andThen]
 simp [run_mset hb ht hk k, Result.andThen, Oper.upon]
 have e_ : a.put o.dst undef = a := by rw [hN]; rfl
 rw [e_]
 exact hK _ _ (h _ (mset_same hb) (below_mset hB hge (blk_lt hb) (mset_grown hb)) (mset_grown hb))
end

end Go.Proofs.Ytheemkehedmlfaa.Y
