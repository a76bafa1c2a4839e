-- Written by a program of this session (wip/tools) over the kit's print.
-- COMPACT
import Derived.Test.YtpfoeologjacfaaV0
import Derived.Test.YtpfoeologjacfaaV7
import Derived.Test.YtpfoeologjacfaaV9
import Derived.Test.YtpfoeologjacfaaV12
import Derived.Test.YtpfoeologjacfaaV14
import Derived.Test.YtpfoeologjacfaaV15
namespace Go.Proofs.Ytpfoeologjacfaa.V
open Go.RowKit Go.Proofs.YtpfoeologjacfaaW.PrintWords Go.Proofs.YtpfoeologjacfaaW.PrintLast Go.Proofs.YtpfoeologjacfaaW.PrintMore
attribute [local go_sem] max2_int min2_int max_two min_two max_three min_three max_four min_four   -- for this text's walks alone
set_option linter.unusedVariables false
set_option linter.unusedSimpArgs false

/-! ### impl_ValidProgram_1: function 210 -/
def impl_ValidProgram_1.f (k : Nat) (a0_0 : Int) (a0_1 : Int) (a0_2 : Int) (a0_3 : Int) (a0_4 : Int) (a0_5 : Int) (a0_6 : NRow) (a1_0 : Int) (a1_1 : Int) : Option (Bool) := (impl_ValidInstr.f k a1_0 a1_1 a0_0 a0_1 a0_2 a0_3 a0_4 a0_5 a0_6).bind fun t518 => (some t518)
theorem impl_ValidProgram_1.mono : ∀ a0 a1 a2 a3 a4 a5 a6 a7 a8 k, LeO (impl_ValidProgram_1.f k a0 a1 a2 a3 a4 a5 a6 a7 a8) (impl_ValidProgram_1.f (k + 1) a0 a1 a2 a3 a4 a5 a6 a7 a8) := by
 intro a0 a1 a2 a3 a4 a5 a6 a7 a8 k
 unfold impl_ValidProgram_1.f
 repeat' first
   | (with_reducible exact impl_ValidInstr.mono _ _ _ _ _ _ _ _ _ _)
   | (with_reducible exact LeO.refl _)
   | (with_reducible exact LeO.none _)
   | (with_reducible refine LeO.ite ?_ ?_)
   | (with_reducible refine LeO.bind ?_ (fun _ => ?_))
   | exact impl_ValidInstr.mono _ _ _ _ _ _ _ _ _ _
   | exact LeO.none _
   | refine LeO.ite ?_ ?_
   | refine LeO.bind ?_ (fun _ => ?_)
set_option maxHeartbeats 8000000 in
set_option maxRecDepth 100000 in
theorem impl_ValidProgram_1.calls (k : Nat) (a0_0 : Int) (a0_1 : Int) (a0_2 : Int) (a0_3 : Int) (a0_4 : Int) (a0_5 : Int) (a0_6 : NRow) (B1 : Nat) (a1_0 : Int) (a1_1 : Int) (r : Bool) (w : World) (hb1 : w.heap[B1]? = some (.cells #[.int .i64 a1_0, .int .i64 a1_1] 31 (0, 0))) (h : impl_ValidProgram_1.f k a0_0 a0_1 a0_2 a0_3 a0_4 a0_5 a0_6 a1_0 a1_1 = some r) :
  Calls Try.prog 210 #[.agg #[.int .i64 a0_0, .int .i64 a0_1, .int .i64 a0_2, .int .i64 a0_3, .int .i64 a0_4, .int .i64 a0_5, .slice none 0 0], .pointer (some ⟨B1, 0, none⟩)] w fun e w' => e = .returned (.bool r) ∧ Below w.heap.size w w' := by
 have hu142 := Try.underlying142
 have hu31 := Try.underlying31
 have BK1 := Aside0.mk hb1
 clear hb1
 have HB := Aside0.mk (Below.refl w.heap.size w)
 have H : ((impl_ValidInstr.f k a1_0 a1_1 a0_0 a0_1 a0_2 a0_3 a0_4 a0_5 a0_6).bind fun t518 => (some t518)) = some r := h
 clear h
 replace H := Option.bind_eq_some_iff.mp H
 obtain ⟨t518, A30, H⟩ := H
 replace H : (some t518) = some r := H
 have A3 := Aside0.mk A30
 clear A30
 obtain rfl := Option.some.inj H
 go_enter Try.func210, Try.ntmps210
 go_wp2_with (first | ((with_reducible refine gate_dst (N := 2) rfl ?_); refine box_event ?hg (N := 2) ?hd (cs := #[.int .i64 a0_0, .int .i64 a0_1, .int .i64 a0_2, .int .i64 a0_3, .int .i64 a0_4, .int .i64 a0_5, .slice none 0 0]) (t := 142) ?hr ?_; (case hd => rfl); (case hg => rfl); (case hr => first | (go_simp; done) | (go_simp; rfl)); intro gb517 hg w4 hbox hb; have n0_ := Aside0.mk (blk_below (g := B1) (o := .cells #[.int .i64 a1_0, .int .i64 a1_1] 31 (0, 0)) (xvb BK1.out) hb); have n1_ := Aside0.mk (below_step wv2 hb); have n2_ := Aside0.mk (hbox); have n3_ := Aside0.mk ((by rw [hg]; exact (below_size wv2) : w.heap.size ≤ gb517)); have n4_ := Aside0.mk ((by rw [hg]; exact (below_size wv2) : w.heap.size ≤ gb517)); have n5_ := Aside0.mk ((by rw [hg]; exact Nat.ne_of_lt (blk_lt (g := B1) (o := .cells #[.int .i64 a1_0, .int .i64 a1_1] 31 (0, 0)) (xvb BK1.out)) : B1 ≠ gb517)); have n6_ := Aside0.mk ((by rw [hg]; exact Nat.ne_of_gt (blk_lt (g := B1) (o := .cells #[.int .i64 a1_0, .int .i64 a1_1] 31 (0, 0)) (xvb BK1.out)) : gb517 ≠ B1)); clear BK1; clear HB; have BK1 := n0_; have HB := n1_; have BK517 := n2_; have GW517 := n3_; have GE517 := n4_; have NB1_517 := n5_; have NB517_1 := n6_; clear n0_ n1_ n2_ n3_ n4_ n5_ n6_; clear hb hbox hg; have hnb5 := NB1_517.out; have hnc5 := NB517_1.out; have hcz6_0 : w4.cell? ⟨B1, 0, none⟩ = some (.int .i64 a1_0) := xvc BK1.out; have hcz6_1 : w4.cell? ⟨B1, 1, none⟩ = some (.int .i64 a1_1) := xvc BK1.out; have hfz6_0 := blk_frozen BK1.out 0; have hfz6_1 := blk_frozen BK1.out 1; have hcz7_0 : w4.cell? ⟨gb517, 0, none⟩ = some (.int .i64 a0_0) := xvc BK517.out; have hcz7_1 : w4.cell? ⟨gb517, 1, none⟩ = some (.int .i64 a0_1) := xvc BK517.out; have hcz7_2 : w4.cell? ⟨gb517, 2, none⟩ = some (.int .i64 a0_2) := xvc BK517.out; have hcz7_3 : w4.cell? ⟨gb517, 3, none⟩ = some (.int .i64 a0_3) := xvc BK517.out; have hcz7_4 : w4.cell? ⟨gb517, 4, none⟩ = some (.int .i64 a0_4) := xvc BK517.out; have hcz7_5 : w4.cell? ⟨gb517, 5, none⟩ = some (.int .i64 a0_5) := xvc BK517.out; have hcz7_6 : w4.cell? ⟨gb517, 6, none⟩ = some (.slice none 0 0) := xvc BK517.out; have hfz7_0 := blk_frozen BK517.out 0; have hfz7_1 := blk_frozen BK517.out 1; have hfz7_2 := blk_frozen BK517.out 2; have hfz7_3 := blk_frozen BK517.out 3; have hfz7_4 := blk_frozen BK517.out 4; have hfz7_5 := blk_frozen BK517.out 5; have hfz7_6 := blk_frozen BK517.out 6) | ((with_reducible refine gate_callee (f := 211) rfl ?_); refine goesL_ (some 6) rfl rfl Try.func211 (by kernel_rfl) rfl #[.agg #[.int .i64 a1_0, .int .i64 a1_1], .agg #[.int .i64 a0_0, .int .i64 a0_1, .int .i64 a0_2, .int .i64 a0_3, .int .i64 a0_4, .int .i64 a0_5, .slice none 0 0]] rfl wv1 ?_; (with_reducible refine (impl_ValidInstr.calls k a1_0 a1_1 a0_0 a0_1 a0_2 a0_3 a0_4 a0_5 a0_6 t518 _ A3.out).mono ?_); rintro e w8 ⟨rfl, hb⟩; refine ⟨_, rfl, ?_⟩; have n0_ := Aside0.mk (blk_below (g := B1) (o := .cells #[.int .i64 a1_0, .int .i64 a1_1] 31 (0, 0)) (xvb BK1.out) hb); have n1_ := Aside0.mk (xvl BK517.out hb); have n2_ := Aside0.mk (below_step (by repeat (first | (with_reducible first | exact HB.out | apply below_alloc | apply pw_below_drewN | apply below_drew1 | refine below_set ?_ GE1.out | refine below_set ?_ GE517.out) | exact HB.out)) hb); clear BK1; clear BK517; clear HB; have BK1 := n0_; have BK517 := n1_; have HB := n2_; clear n0_ n1_ n2_; (try clear hb); (try clear hb2); (try clear hk); (try clear hi)))
 go_ret
 exact ⟨wv3, (by repeat (first | (with_reducible first | exact HB.out | apply below_alloc | apply pw_below_drewN | apply below_drew1 | refine below_set ?_ GE1.out | refine below_set ?_ GE517.out) | exact HB.out))⟩

def impl_Instr_at_impl_ValidProgram_1.f (k : Nat) (l0 : List S142) (a1_0 : Int) (a1_1 : Int) : Option Bool := allO (fun x => impl_ValidProgram_1.f k x.f0 x.f1 x.f2 x.f3 x.f4 x.f5 x.f6 a1_0 a1_1) l0
theorem impl_Instr_at_impl_ValidProgram_1.mono : ∀ (l0 : List S142) (a1_0 : Int) (a1_1 : Int) k, LeO (impl_Instr_at_impl_ValidProgram_1.f k l0 a1_0 a1_1) (impl_Instr_at_impl_ValidProgram_1.f (k + 1) l0 a1_0 a1_1) := by intro l0 a1_0 a1_1 k; unfold impl_Instr_at_impl_ValidProgram_1.f; refine allO_le ?_ l0; intro x; exact impl_ValidProgram_1.mono x.f0 x.f1 x.f2 x.f3 x.f4 x.f5 x.f6 a1_0 a1_1 k
theorem impl_Instr_at_impl_ValidProgram_1.calls (k : Nat) (A0 : Option Addr) (c0 : Nat) (l0 : List S142) (B1 : Nat) (a1_0 : Int) (a1_1 : Int) (r : Bool) (w : World) (hr0 : Kd.C k142 w A0 l0.length l0) (hc0 : l0.length ≤ c0) (hb1 : w.heap[B1]? = some (.cells #[.int .i64 a1_0, .int .i64 a1_1] 31 (0, 0))) (h : impl_Instr_at_impl_ValidProgram_1.f k l0 a1_0 a1_1 = some r) :
  Calls Try.prog 209 #[.slice A0 l0.length c0, .func (.func 210) #[] #[.pointer (some ⟨B1, 0, none⟩)]] w fun e w' => e = .returned (.bool r) ∧ Below w.heap.size w w' := by
 refine areAll_Instr (fun x => impl_ValidProgram_1.f k x.f0 x.f1 x.f2 x.f3 x.f4 x.f5 x.f6 a1_0 a1_1) 210 #[.pointer (some ⟨B1, 0, none⟩)] (enters_of Try.func210 (by kernel_rfl) rfl) A0 c0 l0 r w ?_ hr0 h
 rintro W hb x q hx
 exact (impl_ValidProgram_1.calls k x.f0 x.f1 x.f2 x.f3 x.f4 x.f5 x.f6 B1 a1_0 a1_1 q W (blk_below hb1 hb) hx).mono fun e w' ⟨he, hw⟩ => ⟨he, hw⟩

/-! ### impl_ValidProgram: function 191 -/
def impl_ValidProgram.f (k : Nat) (a0_0 : Int) (a0_1 : Int) (l1 : List (S142)) : Option (Bool) := (impl_ValidMachine.f a0_0 a0_1).bind fun t520 => (if t520 = true then (if (l1.length : Int) ≤ 60 then ((impl_Instr_at_impl_ValidProgram_1.f k l1 a0_0 a0_1).bind fun t521 => (some t521)) else (some false)) else (some false))
theorem impl_ValidProgram.mono : ∀ a0 a1 a2 k, LeO (impl_ValidProgram.f k a0 a1 a2) (impl_ValidProgram.f (k + 1) a0 a1 a2) := by
 intro a0 a1 a2 k
 unfold impl_ValidProgram.f
 repeat' first
   | (with_reducible exact impl_Instr_at_impl_ValidProgram_1.mono _ _ _ _)
   | (with_reducible exact LeO.refl _)
   | (with_reducible exact LeO.none _)
   | (with_reducible refine LeO.ite ?_ ?_)
   | (with_reducible refine LeO.bind ?_ (fun _ => ?_))
   | exact impl_Instr_at_impl_ValidProgram_1.mono _ _ _ _
   | exact LeO.none _
   | refine LeO.ite ?_ ?_
   | refine LeO.bind ?_ (fun _ => ?_)
set_option maxHeartbeats 8000000 in
set_option maxRecDepth 100000 in
theorem impl_ValidProgram.calls (k : Nat) (a0_0 : Int) (a0_1 : Int) (A1 : Option Addr) (c1 : Nat) (l1 : List (S142)) (r : Bool) (w : World) (hr1 : Kd.C k142 w A1 l1.length l1) (hc1 : l1.length ≤ c1) (h : impl_ValidProgram.f k a0_0 a0_1 l1 = some r) :
  Calls Try.prog 191 #[.agg #[.int .i64 a0_0, .int .i64 a0_1], .slice A1 l1.length c1] w fun e w' => e = .returned (.bool r) ∧ Below w.heap.size w w' := by
 have hu31 := Try.underlying31
 have HR1 := Aside0.mk hr1
 have HC1 := Aside0.mk hc1
 clear hr1 hc1
 have HB := Aside0.mk (Below.refl w.heap.size w)
 have H : ((impl_ValidMachine.f a0_0 a0_1).bind fun t520 => (if t520 = true then (if (l1.length : Int) ≤ 60 then ((impl_Instr_at_impl_ValidProgram_1.f k l1 a0_0 a0_1).bind fun t521 => (some t521)) else (some false)) else (some false))) = some r := h
 clear h
 replace H := Option.bind_eq_some_iff.mp H
 obtain ⟨t520, A30, H⟩ := H
 replace H : (if t520 = true then (if (l1.length : Int) ≤ 60 then ((impl_Instr_at_impl_ValidProgram_1.f k l1 a0_0 a0_1).bind fun t521 => (some t521)) else (some false)) else (some false)) = some r := H
 have A3 := Aside0.mk A30
 clear A30
 by_cases c4 : t520 = true
 ·subst c4
  have H1 : (if (l1.length : Int) ≤ 60 then ((impl_Instr_at_impl_ValidProgram_1.f k l1 a0_0 a0_1).bind fun t521 => (some t521)) else (some false)) = some r := by rw [if_pos rfl] at H; exact H
  clear H
  have H := H1
  clear H1
  by_cases c5 : (l1.length : Int) ≤ 60
  ·rw [if_pos c5] at H
   have c5b0 : decide ((l1.length : Int) ≤ 60) = true := decide_eq_true c5
   have c5b1 : decide (l1.length ≤ 60) = true := decide_eq_true (by omega)
   clear c5
   replace H := Option.bind_eq_some_iff.mp H
   obtain ⟨t521, A60, H⟩ := H
   replace H : (some t521) = some r := H
   have A6 := Aside0.mk A60
   clear A60
   obtain rfl := Option.some.inj H
   go_enter Try.func191, Try.ntmps191
   go_wp2_with (first | ((with_reducible refine gate_dst (N := 2) rfl ?_); (try (refine gate_guard (by rfl) ?_; dsimp only)); refine box_event ?hg (N := 2) ?hd (cs := #[.int .i64 a0_0, .int .i64 a0_1]) (t := 31) ?hr ?_; (case hd => rfl); (case hg => rfl); (case hr => first | (go_simp; done) | (go_simp; rfl)); intro gb519 hg w7 hbox hb; have n0_ := Aside0.mk (below_step (xvo HB.out) hb); have n1_ := Aside0.mk (hbox); have n2_ := Aside0.mk ((by rw [hg]; exact (below_size (xvo HB.out)) : w.heap.size ≤ gb519)); have n3_ := Aside0.mk ((by rw [hg]; exact (below_size (xvo HB.out)) : w.heap.size ≤ gb519)); clear HB; have HB := n0_; have BK519 := n1_; have GW519 := n2_; have GE519 := n3_; clear n0_ n1_ n2_ n3_; clear hb hbox hg; have hcz8_0 : w7.cell? ⟨gb519, 0, none⟩ = some (.int .i64 a0_0) := xvc BK519.out; have hcz8_1 : w7.cell? ⟨gb519, 1, none⟩ = some (.int .i64 a0_1) := xvc BK519.out; have hfz8_0 := blk_frozen BK519.out 0; have hfz8_1 := blk_frozen BK519.out 1) | ((with_reducible refine gate_callee (f := 85) rfl ?_); refine goesL_ (some 6) rfl rfl Try.func85 (by kernel_rfl) rfl #[.agg #[.int .i64 a0_0, .int .i64 a0_1]] rfl wv1 ?_; (with_reducible refine (impl_ValidMachine.calls a0_0 a0_1 true _ A3.out).mono ?_); rintro e w9 ⟨rfl, hb⟩; refine ⟨_, rfl, ?_⟩; have n0_ := Aside0.mk (xvl BK519.out hb); have n1_ := Aside0.mk (below_step wv30 hb); clear BK519; clear HB; have BK519 := n0_; have HB := n1_; clear n0_ n1_; (try clear hb); (try clear hb2); (try clear hk); (try clear hi)) | (go_at_call 209; (with_reducible refine (impl_Instr_at_impl_ValidProgram_1.calls k _ _ l1 gb519 a0_0 a0_1 t521 _ ?side1 ?side2 ?side3 A6.out).mono ?_); (case side1 => repeat (first | exact (Kd.C_below HR1.out HB.out) | (with_reducible refine Kd.C_alloc ?_ _) | (with_reducible refine Kd.C_drewN ?_ _) | (with_reducible refine Kd.C_drew ?_))); (case side2 => exact HC1.out); (case side3 => (with_reducible repeat (first | refine blk_drewN ?_ _ | refine blk_drew ?_ | refine blk_alloc ?_ _)); exact BK519.out); rintro e w10 ⟨rfl, hb⟩; have n0_ := Aside0.mk (xvl BK519.out hb); have n1_ := Aside0.mk (below_step wv30 hb); clear BK519; clear HB; have BK519 := n0_; have HB := n1_; clear n0_ n1_; (try clear hb); (try clear hb2); (try clear hk); (try clear hi)))
   go_ret
   exact ⟨wv3, wv30⟩
  ·rw [if_neg c5] at H
   have c5b0 : decide ((l1.length : Int) ≤ 60) = false := decide_eq_false c5
   have c5b1 : decide (l1.length ≤ 60) = false := decide_eq_false (by omega)
   clear c5
   obtain rfl := Option.some.inj H
   go_enter Try.func191, Try.ntmps191
   go_wp2_with (first | ((with_reducible refine gate_dst (N := 2) rfl ?_); (try (refine gate_guard (by rfl) ?_; dsimp only)); refine box_event ?hg (N := 2) ?hd (cs := #[.int .i64 a0_0, .int .i64 a0_1]) (t := 31) ?hr ?_; (case hd => rfl); (case hg => rfl); (case hr => first | (go_simp; done) | (go_simp; rfl)); intro gb519 hg w11 hbox hb; have n0_ := Aside0.mk (below_step (xvo HB.out) hb); have n1_ := Aside0.mk (hbox); have n2_ := Aside0.mk ((by rw [hg]; exact (below_size (xvo HB.out)) : w.heap.size ≤ gb519)); have n3_ := Aside0.mk ((by rw [hg]; exact (below_size (xvo HB.out)) : w.heap.size ≤ gb519)); clear HB; have HB := n0_; have BK519 := n1_; have GW519 := n2_; have GE519 := n3_; clear n0_ n1_ n2_ n3_; clear hb hbox hg; have hcz12_0 : w11.cell? ⟨gb519, 0, none⟩ = some (.int .i64 a0_0) := xvc BK519.out; have hcz12_1 : w11.cell? ⟨gb519, 1, none⟩ = some (.int .i64 a0_1) := xvc BK519.out; have hfz12_0 := blk_frozen BK519.out 0; have hfz12_1 := blk_frozen BK519.out 1) | ((with_reducible refine gate_callee (f := 85) rfl ?_); refine goesL_ (some 6) rfl rfl Try.func85 (by kernel_rfl) rfl #[.agg #[.int .i64 a0_0, .int .i64 a0_1]] rfl wv1 ?_; (with_reducible refine (impl_ValidMachine.calls a0_0 a0_1 true _ A3.out).mono ?_); rintro e w13 ⟨rfl, hb⟩; refine ⟨_, rfl, ?_⟩; have n0_ := Aside0.mk (xvl BK519.out hb); have n1_ := Aside0.mk (below_step wv30 hb); clear BK519; clear HB; have BK519 := n0_; have HB := n1_; clear n0_ n1_; (try clear hb); (try clear hb2); (try clear hk); (try clear hi)))
   go_ret
   exact ⟨wv3, wv30⟩
 ·replace c4 := Bool.eq_false_iff.mpr c4
  subst c4
  have H1 : (some false) = some r := by rw [if_neg (show ¬ (false = true) by decide)] at H; exact H
  clear H
  have H := H1
  clear H1
  obtain rfl := Option.some.inj H
  go_enter Try.func191, Try.ntmps191
  go_wp2_with (first | ((with_reducible refine gate_dst (N := 2) rfl ?_); (try (refine gate_guard (by rfl) ?_; dsimp only)); refine box_event ?hg (N := 2) ?hd (cs := #[.int .i64 a0_0, .int .i64 a0_1]) (t := 31) ?hr ?_; (case hd => rfl); (case hg => rfl); (case hr => first | (go_simp; done) | (go_simp; rfl)); intro gb519 hg w14 hbox hb; have n0_ := Aside0.mk (below_step (xvo HB.out) hb); have n1_ := Aside0.mk (hbox); have n2_ := Aside0.mk ((by rw [hg]; exact (below_size (xvo HB.out)) : w.heap.size ≤ gb519)); have n3_ := Aside0.mk ((by rw [hg]; exact (below_size (xvo HB.out)) : w.heap.size ≤ gb519)); clear HB; have HB := n0_; have BK519 := n1_; have GW519 := n2_; have GE519 := n3_; clear n0_ n1_ n2_ n3_; clear hb hbox hg; have hcz15_0 : w14.cell? ⟨gb519, 0, none⟩ = some (.int .i64 a0_0) := xvc BK519.out; have hcz15_1 : w14.cell? ⟨gb519, 1, none⟩ = some (.int .i64 a0_1) := xvc BK519.out; have hfz15_0 := blk_frozen BK519.out 0; have hfz15_1 := blk_frozen BK519.out 1) | ((with_reducible refine gate_callee (f := 85) rfl ?_); refine goesL_ (some 6) rfl rfl Try.func85 (by kernel_rfl) rfl #[.agg #[.int .i64 a0_0, .int .i64 a0_1]] rfl wv1 ?_; (with_reducible refine (impl_ValidMachine.calls a0_0 a0_1 false _ A3.out).mono ?_); rintro e w16 ⟨rfl, hb⟩; refine ⟨_, rfl, ?_⟩; have n0_ := Aside0.mk (xvl BK519.out hb); have n1_ := Aside0.mk (below_step wv30 hb); clear BK519; clear HB; have BK519 := n0_; have HB := n1_; clear n0_ n1_; (try clear hb); (try clear hb2); (try clear hk); (try clear hi)))
  go_ret
  exact ⟨wv3, wv30⟩

/-! ### impl_isWide_1: function 227 -/
def impl_isWide_1.f (a0 : Int) (a1_0 : Int) (a1_1 : Int) : Option (Bool) := some (decide (a0 ≥ a1_0))
set_option maxHeartbeats 8000000 in
set_option maxRecDepth 100000 in
theorem impl_isWide_1.calls (a0 : Int) (B1 : Nat) (a1_0 : Int) (a1_1 : Int) (r : Bool) (w : World) (hb1 : w.heap[B1]? = some (.cells #[.int .i64 a1_0, .int .i64 a1_1] 31 (0, 0))) (h : impl_isWide_1.f a0 a1_0 a1_1 = some r) :
  Calls Try.prog 227 #[.int .i64 a0, .pointer (some ⟨B1, 0, none⟩)] w fun e w' => e = .returned (.bool r) ∧ Drawn0 w w' := by
 have BK1 := Aside0.mk hb1
 clear hb1
 have H : (some (decide (a0 ≥ a1_0))) = some r := h
 clear h
 obtain rfl := Option.some.inj H
 have hcz3_0 : w.cell? ⟨B1, 0, none⟩ = some (.int .i64 a1_0) := xvc BK1.out
 have hcz3_1 : w.cell? ⟨B1, 1, none⟩ = some (.int .i64 a1_1) := xvc BK1.out
 have hfz3_0 := blk_frozen BK1.out 0
 have hfz3_1 := blk_frozen BK1.out 1
 go_enter Try.func227, Try.ntmps227
 go_wp2
 go_ret
 exact ⟨wv6, wv14⟩

def slices_ContainsFunc_int64_int64_at_impl_isWide_1.f (l0 : List Int) (a1_0 : Int) (a1_1 : Int) : Option Bool := anyO (fun x => impl_isWide_1.f x a1_0 a1_1) l0
theorem slices_ContainsFunc_int64_int64_at_impl_isWide_1.calls (A0 : Option Addr) (c0 : Nat) (l0 : List Int) (B1 : Nat) (a1_0 : Int) (a1_1 : Int) (r : Bool) (w : World) (hr0 : Kd.C (Kd.int .i64) w A0 l0.length l0) (hc0 : l0.length ≤ c0) (hb1 : w.heap[B1]? = some (.cells #[.int .i64 a1_0, .int .i64 a1_1] 31 (0, 0))) (h : slices_ContainsFunc_int64_int64_at_impl_isWide_1.f l0 a1_0 a1_1 = some r) :
  Calls Try.prog 201 #[.slice A0 l0.length c0, .func (.func 227) #[] #[.pointer (some ⟨B1, 0, none⟩)]] w fun e w' => e = .returned (.bool r) ∧ Below w.heap.size w w' := by
 refine slices_ContainsFunc_int64 (Kd.int .i64) rfl (fun x => impl_isWide_1.f x a1_0 a1_1) 227 #[.pointer (some ⟨B1, 0, none⟩)] (enters_of Try.func227 (by kernel_rfl) rfl) A0 c0 l0 r w ?_ hr0 h
 rintro W hb x v q hK hx
 obtain rfl : v = .int .i64 x := by simpa [Kd.int, Kd.bool, Kd.string, Kd.scalar] using hK
 exact (impl_isWide_1.calls x B1 a1_0 a1_1 q W (blk_below hb1 hb) hx).mono fun e w' ⟨he, hw⟩ => ⟨he, hw.below⟩

/-! ### impl_isWide: function 212 -/
def impl_isWide.f (a0_0 : Int) (a0_1 : Int) (a1_0 : Int) (a1_1 : Int) (a1_2 : Int) (a1_3 : Int) (a1_4 : Int) (a1_5 : Int) (a1_6 : NRow) : Option (Bool) := (slices_ContainsFunc_int64_int64_at_impl_isWide_1.f ([] : List Int) a0_0 a0_1).bind fun t524 => (some t524)
set_option maxHeartbeats 8000000 in
set_option maxRecDepth 100000 in
theorem impl_isWide.calls (a0_0 : Int) (a0_1 : Int) (a1_0 : Int) (a1_1 : Int) (a1_2 : Int) (a1_3 : Int) (a1_4 : Int) (a1_5 : Int) (a1_6 : NRow) (r : Bool) (w : World) (h : impl_isWide.f a0_0 a0_1 a1_0 a1_1 a1_2 a1_3 a1_4 a1_5 a1_6 = some r) :
  Calls Try.prog 212 #[.agg #[.int .i64 a0_0, .int .i64 a0_1], .agg #[.int .i64 a1_0, .int .i64 a1_1, .int .i64 a1_2, .int .i64 a1_3, .int .i64 a1_4, .int .i64 a1_5, .slice none 0 0]] w fun e w' => e = .returned (.bool r) ∧ Below w.heap.size w w' := by
 have hu31 := Try.underlying31
 have hu142 := Try.underlying142
 have HB := Aside0.mk (Below.refl w.heap.size w)
 have H : ((slices_ContainsFunc_int64_int64_at_impl_isWide_1.f ([] : List Int) a0_0 a0_1).bind fun t524 => (some t524)) = some r := h
 clear h
 replace H := Option.bind_eq_some_iff.mp H
 obtain ⟨t524, A30, H⟩ := H
 replace H : (some t524) = some r := H
 have A3 := Aside0.mk A30
 clear A30
 obtain rfl := Option.some.inj H
 go_enter Try.func212, Try.ntmps212
 go_wp2_with (first | ((with_reducible refine gate_dst (N := 2) rfl ?_); refine box_event ?hg (N := 2) ?hd (cs := #[.int .i64 a0_0, .int .i64 a0_1]) (t := 31) ?hr ?_; (case hd => rfl); (case hg => rfl); (case hr => first | (go_simp; done) | (go_simp; rfl)); intro gb522 hg w4 hbox hb; have n0_ := Aside0.mk (below_step (xvo HB.out) hb); have n1_ := Aside0.mk (hbox); have n2_ := Aside0.mk ((by rw [hg]; exact (below_size (xvo HB.out)) : w.heap.size ≤ gb522)); have n3_ := Aside0.mk ((by rw [hg]; exact (below_size (xvo HB.out)) : w.heap.size ≤ gb522)); clear HB; have HB := n0_; have BK522 := n1_; have GW522 := n2_; have GE522 := n3_; clear n0_ n1_ n2_ n3_; clear hb hbox hg) | ((with_reducible refine gate_dst (N := 3) rfl ?_); refine box_event ?hg (N := 3) ?hd (cs := #[.int .i64 a1_0, .int .i64 a1_1, .int .i64 a1_2, .int .i64 a1_3, .int .i64 a1_4, .int .i64 a1_5, .slice none 0 0]) (t := 142) ?hr ?_; (case hd => rfl); (case hg => rfl); (case hr => first | (go_simp; done) | (go_simp; rfl)); intro gb523 hg w5 hbox hb; have n0_ := Aside0.mk (xvl BK522.out hb); have n1_ := Aside0.mk (below_step wv50 hb); have n2_ := Aside0.mk (hbox); have n3_ := Aside0.mk ((by rw [hg]; exact (below_size wv50) : w.heap.size ≤ gb523)); have n4_ := Aside0.mk ((by rw [hg]; exact (below_size wv50) : w.heap.size ≤ gb523)); have n5_ := Aside0.mk ((by rw [hg]; exact Nat.ne_of_lt (blk_lt (g := gb522) (o := .cells #[.int .i64 a0_0, .int .i64 a0_1] 31 (0, 0)) (xvb BK522.out)) : gb522 ≠ gb523)); have n6_ := Aside0.mk ((by rw [hg]; exact Nat.ne_of_gt (blk_lt (g := gb522) (o := .cells #[.int .i64 a0_0, .int .i64 a0_1] 31 (0, 0)) (xvb BK522.out)) : gb523 ≠ gb522)); clear BK522; clear HB; have BK522 := n0_; have HB := n1_; have BK523 := n2_; have GW523 := n3_; have GE523 := n4_; have NB522_523 := n5_; have NB523_522 := n6_; clear n0_ n1_ n2_ n3_ n4_ n5_ n6_; clear hb hbox hg; have hnb6 := NB523_522.out; have hnc6 := NB522_523.out; have hcz7_0 : w5.cell? ⟨gb523, 0, none⟩ = some (.int .i64 a1_0) := xvc BK523.out; have hcz7_1 : w5.cell? ⟨gb523, 1, none⟩ = some (.int .i64 a1_1) := xvc BK523.out; have hcz7_2 : w5.cell? ⟨gb523, 2, none⟩ = some (.int .i64 a1_2) := xvc BK523.out; have hcz7_3 : w5.cell? ⟨gb523, 3, none⟩ = some (.int .i64 a1_3) := xvc BK523.out; have hcz7_4 : w5.cell? ⟨gb523, 4, none⟩ = some (.int .i64 a1_4) := xvc BK523.out; have hcz7_5 : w5.cell? ⟨gb523, 5, none⟩ = some (.int .i64 a1_5) := xvc BK523.out; have hcz7_6 : w5.cell? ⟨gb523, 6, none⟩ = some (.slice none 0 0) := xvc BK523.out; have hfz7_0 := blk_frozen BK523.out 0; have hfz7_1 := blk_frozen BK523.out 1; have hfz7_2 := blk_frozen BK523.out 2; have hfz7_3 := blk_frozen BK523.out 3; have hfz7_4 := blk_frozen BK523.out 4; have hfz7_5 := blk_frozen BK523.out 5; have hfz7_6 := blk_frozen BK523.out 6) | ((with_reducible refine gate_callee (f := 201) rfl ?_); refine goesL_ (some 8) rfl rfl Try.func201 (by kernel_rfl) rfl #[.slice none 0 0, .func (.func 227) #[] #[.pointer (some ⟨gb522, 0, none⟩)]] rfl wv1 ?_; (refine (slices_ContainsFunc_int64_int64_at_impl_isWide_1.calls _ _ ([] : List Int) gb522 a0_0 a0_1 t524 _ ?side1 ?side2 ?side3 A3.out).mono ?_); (case side1 => exact Kd.C_nil _ _); (case side2 => exact Nat.le_refl _); (case side3 => (with_reducible repeat (first | refine blk_drewN ?_ _ | refine blk_drew ?_ | refine blk_alloc ?_ _)); exact BK522.out); rintro e w8 ⟨rfl, hb⟩; refine ⟨_, rfl, ?_⟩; have n0_ := Aside0.mk (xvl BK522.out hb); have n1_ := Aside0.mk (xvl BK523.out hb); have n2_ := Aside0.mk (below_step (by repeat (first | (with_reducible first | exact HB.out | apply below_alloc | apply pw_below_drewN | apply below_drew1 | refine below_set ?_ GE522.out | refine below_set ?_ GE523.out) | exact HB.out)) hb); clear BK522; clear BK523; clear HB; have BK522 := n0_; have BK523 := n1_; have HB := n2_; clear n0_ n1_ n2_; (try clear hb); (try clear hb2); (try clear hk); (try clear hi)))
 go_ret
 exact ⟨wv3, (by repeat (first | (with_reducible first | exact HB.out | apply below_alloc | apply pw_below_drewN | apply below_drew1 | refine below_set ?_ GE522.out | refine below_set ?_ GE523.out) | exact HB.out))⟩

/-! ### impl_cost: function 192 -/
mutual
def impl_cost.j0 : Nat → Int → Bool → Int → Int → Int → Int → Int → Int → Int → Int → NRow → Option (Int)
 | 0, _, _, _, _, _, _, _, _, _, _, _ => none
 | k + 1, x6, x7, x526000, x526001, x527000, x527001, x527002, x527003, x527004, x527005, x527006 => if x7 = true then ((impl_pick.f (x527003 == 1) 1 x526000).bind fun t527 => (some t527)) else (if x6 = 2 then (impl_cost.j1 k x6 (x6 == 2) x526000 x526001 x527000 x527001 x527002 x527003 x527004 x527005 x527006) else (if x6 = 3 then (impl_cost.j1 k x6 (x6 == 3) x526000 x526001 x527000 x527001 x527002 x527003 x527004 x527005 x527006) else (impl_cost.j1 k x6 (x6 == 10) x526000 x526001 x527000 x527001 x527002 x527003 x527004 x527005 x527006)))
def impl_cost.j1 : Nat → Int → Bool → Int → Int → Int → Int → Int → Int → Int → Int → NRow → Option (Int)
 | 0, _, _, _, _, _, _, _, _, _, _, _ => none
 | k + 1, x6, x16, x526000, x526001, x527000, x527001, x527002, x527003, x527004, x527005, x527006 => if x16 = true then (some x526000) else (if x6 = 4 then ((impl_pick.f (x527005 == 2) 3 1).bind fun t528 => (some t528)) else (if x6 = 7 then ((impl_isWide.f x526000 x526001 x527000 x527001 x527002 x527003 x527004 x527005 x527006).bind fun t529 => ((impl_pick.f t529 2 1).bind fun t530 => (some t530))) else (if x6 = 12 then (some 2) else (if x6 = 13 then (some 2) else (some 1)))))
end
def impl_cost.f (k : Nat) (a0_0 : Int) (a0_1 : Int) (a1_0 : Int) (a1_1 : Int) (a1_2 : Int) (a1_3 : Int) (a1_4 : Int) (a1_5 : Int) (a1_6 : NRow) : Option (Int) := if a1_0 = 0 then (impl_cost.j0 k a1_0 (a1_0 == 0) a0_0 a0_1 a1_0 a1_1 a1_2 a1_3 a1_4 a1_5 a1_6) else (impl_cost.j0 k a1_0 (a1_0 == 1) a0_0 a0_1 a1_0 a1_1 a1_2 a1_3 a1_4 a1_5 a1_6)
theorem impl_cost.mono_l : ∀ k, (∀ y0 y1 y2 y3 y4 y5 y6 y7 y8 y9 y10, LeO (impl_cost.j0 k y0 y1 y2 y3 y4 y5 y6 y7 y8 y9 y10) (impl_cost.j0 (k + 1) y0 y1 y2 y3 y4 y5 y6 y7 y8 y9 y10)) ∧ (∀ y0 y1 y2 y3 y4 y5 y6 y7 y8 y9 y10, LeO (impl_cost.j1 k y0 y1 y2 y3 y4 y5 y6 y7 y8 y9 y10) (impl_cost.j1 (k + 1) y0 y1 y2 y3 y4 y5 y6 y7 y8 y9 y10))
 | 0 => ⟨fun _ _ _ _ _ _ _ _ _ _ _ r h => by simp [impl_cost.j0] at h, fun _ _ _ _ _ _ _ _ _ _ _ r h => by simp [impl_cost.j1] at h⟩
 | k + 1 => by
  obtain ⟨ih0, ih1⟩ := impl_cost.mono_l k
  refine ⟨?_, ?_⟩
  ·intro y0 y1 y2 y3 y4 y5 y6 y7 y8 y9 y10
   unfold impl_cost.j0
   repeat' first
   | (with_reducible exact ih0 _ _ _ _ _ _ _ _ _ _ _)
   | (with_reducible exact ih1 _ _ _ _ _ _ _ _ _ _ _)
   | (with_reducible exact LeO.refl _)
   | (with_reducible exact LeO.none _)
   | (with_reducible refine LeO.ite ?_ ?_)
   | (with_reducible refine LeO.bind ?_ (fun _ => ?_))
   | exact ih0 _ _ _ _ _ _ _ _ _ _ _
   | exact ih1 _ _ _ _ _ _ _ _ _ _ _
   | exact LeO.none _
   | refine LeO.ite ?_ ?_
   | refine LeO.bind ?_ (fun _ => ?_)
  ·intro y0 y1 y2 y3 y4 y5 y6 y7 y8 y9 y10
   unfold impl_cost.j1
   repeat' first
   | (with_reducible exact ih0 _ _ _ _ _ _ _ _ _ _ _)
   | (with_reducible exact ih1 _ _ _ _ _ _ _ _ _ _ _)
   | (with_reducible exact LeO.refl _)
   | (with_reducible exact LeO.none _)
   | (with_reducible refine LeO.ite ?_ ?_)
   | (with_reducible refine LeO.bind ?_ (fun _ => ?_))
   | exact ih0 _ _ _ _ _ _ _ _ _ _ _
   | exact ih1 _ _ _ _ _ _ _ _ _ _ _
   | exact LeO.none _
   | refine LeO.ite ?_ ?_
   | refine LeO.bind ?_ (fun _ => ?_)
theorem impl_cost.mono : ∀ a0 a1 a2 a3 a4 a5 a6 a7 a8 k, LeO (impl_cost.f k a0 a1 a2 a3 a4 a5 a6 a7 a8) (impl_cost.f (k + 1) a0 a1 a2 a3 a4 a5 a6 a7 a8) := by
 intro a0 a1 a2 a3 a4 a5 a6 a7 a8 k
 obtain ⟨ih0, ih1⟩ := impl_cost.mono_l k
 unfold impl_cost.f
 repeat' first
   | (with_reducible exact ih0 _ _ _ _ _ _ _ _ _ _ _)
   | (with_reducible exact ih1 _ _ _ _ _ _ _ _ _ _ _)
   | (with_reducible exact LeO.refl _)
   | (with_reducible exact LeO.none _)
   | (with_reducible refine LeO.ite ?_ ?_)
   | (with_reducible refine LeO.bind ?_ (fun _ => ?_))
   | exact ih0 _ _ _ _ _ _ _ _ _ _ _
   | exact ih1 _ _ _ _ _ _ _ _ _ _ _
   | exact LeO.none _
   | refine LeO.ite ?_ ?_
   | refine LeO.bind ?_ (fun _ => ?_)
set_option maxHeartbeats 8000000 in
set_option maxRecDepth 100000 in
theorem impl_cost.calls (k : Nat) (a0_0 : Int) (a0_1 : Int) (a1_0 : Int) (a1_1 : Int) (a1_2 : Int) (a1_3 : Int) (a1_4 : Int) (a1_5 : Int) (a1_6 : NRow) (r : Int) (w : World) (h : impl_cost.f k a0_0 a0_1 a1_0 a1_1 a1_2 a1_3 a1_4 a1_5 a1_6 = some r) :
  Calls Try.prog 192 #[.agg #[.int .i64 a0_0, .int .i64 a0_1], .agg #[.int .i64 a1_0, .int .i64 a1_1, .int .i64 a1_2, .int .i64 a1_3, .int .i64 a1_4, .int .i64 a1_5, .slice none 0 0]] w fun e w' => e = .returned (.int .i64 r) ∧ Below w.heap.size w w' := by
 have hu31 := Try.underlying31
 have hu142 := Try.underlying142
 have HB := Aside0.mk (Below.refl w.heap.size w)
 have H : (if a1_0 = 0 then (impl_cost.j0 k a1_0 (a1_0 == 0) a0_0 a0_1 a1_0 a1_1 a1_2 a1_3 a1_4 a1_5 a1_6) else (impl_cost.j0 k a1_0 (a1_0 == 1) a0_0 a0_1 a1_0 a1_1 a1_2 a1_3 a1_4 a1_5 a1_6)) = some r := h
 clear h
 have HC3 := Aside0.mk H
 clear H
 go_enter Try.func192, Try.ntmps192
 go_upto_if 7 with (first | ((with_reducible refine gate_dst (N := 2) rfl ?_); refine box_event ?hg (N := 2) ?hd (cs := #[.int .i64 a0_0, .int .i64 a0_1]) (t := 31) ?hr ?_; (case hd => rfl); (case hg => rfl); (case hr => first | (go_simp; done) | (go_simp; rfl)); intro gb525 hg w4 hbox hb; have n0_ := Aside0.mk (below_step (xvo HB.out) hb); have n1_ := Aside0.mk (hbox); have n2_ := Aside0.mk ((by rw [hg]; exact (below_size (xvo HB.out)) : w.heap.size ≤ gb525)); have n3_ := Aside0.mk ((by rw [hg]; exact (below_size (xvo HB.out)) : w.heap.size ≤ gb525)); clear HB; have HB := n0_; have BK525 := n1_; have GW525 := n2_; have GE525 := n3_; clear n0_ n1_ n2_ n3_; clear hb hbox hg) | ((with_reducible refine gate_dst (N := 3) rfl ?_); refine box_event ?hg (N := 3) ?hd (cs := #[.int .i64 a1_0, .int .i64 a1_1, .int .i64 a1_2, .int .i64 a1_3, .int .i64 a1_4, .int .i64 a1_5, .slice none 0 0]) (t := 142) ?hr ?_; (case hd => rfl); (case hg => rfl); (case hr => first | (go_simp; done) | (go_simp; rfl)); intro gb526 hg w5 hbox hb; have n0_ := Aside0.mk (xvl BK525.out hb); have n1_ := Aside0.mk (below_step wv49 hb); have n2_ := Aside0.mk (hbox); have n3_ := Aside0.mk ((by rw [hg]; exact (below_size wv49) : w.heap.size ≤ gb526)); have n4_ := Aside0.mk ((by rw [hg]; exact (below_size wv49) : w.heap.size ≤ gb526)); have n5_ := Aside0.mk ((by rw [hg]; exact Nat.ne_of_lt (blk_lt (g := gb525) (o := .cells #[.int .i64 a0_0, .int .i64 a0_1] 31 (0, 0)) (xvb BK525.out)) : gb525 ≠ gb526)); have n6_ := Aside0.mk ((by rw [hg]; exact Nat.ne_of_gt (blk_lt (g := gb525) (o := .cells #[.int .i64 a0_0, .int .i64 a0_1] 31 (0, 0)) (xvb BK525.out)) : gb526 ≠ gb525)); clear BK525; clear HB; have BK525 := n0_; have HB := n1_; have BK526 := n2_; have GW526 := n3_; have GE526 := n4_; have NB525_526 := n5_; have NB526_525 := n6_; clear n0_ n1_ n2_ n3_ n4_ n5_ n6_; clear hb hbox hg; have hnb6 := NB526_525.out; have hnc6 := NB525_526.out; have hcz7_0 : w5.cell? ⟨gb526, 0, none⟩ = some (.int .i64 a1_0) := xvc BK526.out; have hcz7_1 : w5.cell? ⟨gb526, 1, none⟩ = some (.int .i64 a1_1) := xvc BK526.out; have hcz7_2 : w5.cell? ⟨gb526, 2, none⟩ = some (.int .i64 a1_2) := xvc BK526.out; have hcz7_3 : w5.cell? ⟨gb526, 3, none⟩ = some (.int .i64 a1_3) := xvc BK526.out; have hcz7_4 : w5.cell? ⟨gb526, 4, none⟩ = some (.int .i64 a1_4) := xvc BK526.out; have hcz7_5 : w5.cell? ⟨gb526, 5, none⟩ = some (.int .i64 a1_5) := xvc BK526.out; have hcz7_6 : w5.cell? ⟨gb526, 6, none⟩ = some (.slice none 0 0) := xvc BK526.out; have hfz7_0 := blk_frozen BK526.out 0; have hfz7_1 := blk_frozen BK526.out 1; have hfz7_2 := blk_frozen BK526.out 2; have hfz7_3 := blk_frozen BK526.out 3; have hfz7_4 := blk_frozen BK526.out 4; have hfz7_5 := blk_frozen BK526.out 5; have hfz7_6 := blk_frozen BK526.out 6))
 (try simp only [Act.put, List.setIfInBounds_toArray, List.set_cons_zero, List.set_cons_succ])
 go_cut [7] (fun v7 wc => ∃ (kq : Nat) (x7_2 : Bool), v7 = .bool x7_2 ∧ Aside0 (impl_cost.j0 kq a1_0 x7_2 a0_0 a0_1 a1_0 a1_1 a1_2 a1_3 a1_4 a1_5 a1_6 = some r) ∧ Aside0 (kq ≤ k) ∧ Aside0 (wc.heap[gb525]? = some (.cells #[.int .i64 a0_0, .int .i64 a0_1] 31 (0, 0))) ∧ Aside0 (wc.heap[gb526]? = some (.cells #[.int .i64 a1_0, .int .i64 a1_1, .int .i64 a1_2, .int .i64 a1_3, .int .i64 a1_4, .int .i64 a1_5, .slice none 0 0] 142 (0, 0))) ∧ Aside0 (Below w.heap.size w wc))
 case first =>
  have H := HC3.out
  clear HC3
  by_cases c8 : a1_0 = 0
  ·rw [if_pos c8] at H
   have c8b0 : (a1_0 == 0) = true := beq_iff_eq.mpr c8
   have c8b1 : (a1_0 != 0) = false := bne_eq_false_iff_eq.mpr c8
   clear c8
   (first | rw [c8b0] | (simp only [i64_w, i32_w]; rw [c8b0]) | skip)
   have H' := Aside0.mk H
   clear H
   go_wp2
   go_meet
   case rel => exact ⟨_, ((a1_0 == 0)), wv6, H', ⟨wv33⟩, ⟨(xvb BK525.out)⟩, ⟨(xvb BK526.out)⟩, ⟨wv18⟩⟩
  ·rw [if_neg c8] at H
   have c8b0 : (a1_0 == 0) = false := beq_eq_false_iff_ne.mpr c8
   have c8b1 : (a1_0 != 0) = true := bne_iff_ne.mpr c8
   (first | rw [c8b0] | (simp only [i64_w, i32_w]; rw [c8b0]) | skip)
   have H' := Aside0.mk H
   clear H
   go_wp2
   go_meet
   case rel => exact ⟨_, ((a1_0 == 1)), wv6, H', ⟨wv33⟩, ⟨(xvb BK525.out)⟩, ⟨(xvb BK526.out)⟩, ⟨wv18⟩⟩
 case rest =>
  clear HC3
  try clear c1
  try clear p2
  try clear c6
  try clear c8
  try clear c8b0
  try clear c8b1
  try clear hcz7_0
  try clear hcz7_1
  try clear hcz7_2
  try clear hcz7_3
  try clear hcz7_4
  try clear hcz7_5
  try clear hcz7_6
  try clear hfz7_0
  try clear hfz7_1
  try clear hfz7_2
  try clear hfz7_3
  try clear hfz7_4
  try clear hfz7_5
  try clear hfz7_6
  obtain ⟨kq, x7_2, rfl, HA, HJ2, BK525, BK526, HB⟩ := hcut
  cases kq with
  | zero => exact absurd HA.out (by simp [impl_cost.j0])
  | succ kj2 =>
   have H := HA.out
   clear HA
   simp only [impl_cost.j0] at H
   by_cases c9 : x7_2 = true
   ·subst c9
    have H1 : ((impl_pick.f (a1_3 == 1) 1 a0_0).bind fun t527 => (some t527)) = some r := by rw [if_pos rfl] at H; exact H
    clear H
    have H := H1
    clear H1
    replace H := Option.bind_eq_some_iff.mp H
    obtain ⟨t527, A100, H⟩ := H
    replace H : (some t527) = some r := H
    have A10 := Aside0.mk A100
    clear A100
    obtain rfl := Option.some.inj H
    have hnb11 := NB526_525.out
    have hnc11 := NB525_526.out
    have hcz12_0 : wc.cell? ⟨gb526, 0, none⟩ = some (.int .i64 a1_0) := xvc BK526.out
    have hcz12_1 : wc.cell? ⟨gb526, 1, none⟩ = some (.int .i64 a1_1) := xvc BK526.out
    have hcz12_2 : wc.cell? ⟨gb526, 2, none⟩ = some (.int .i64 a1_2) := xvc BK526.out
    have hcz12_3 : wc.cell? ⟨gb526, 3, none⟩ = some (.int .i64 a1_3) := xvc BK526.out
    have hcz12_4 : wc.cell? ⟨gb526, 4, none⟩ = some (.int .i64 a1_4) := xvc BK526.out
    have hcz12_5 : wc.cell? ⟨gb526, 5, none⟩ = some (.int .i64 a1_5) := xvc BK526.out
    have hcz12_6 : wc.cell? ⟨gb526, 6, none⟩ = some (.slice none 0 0) := xvc BK526.out
    have hfz12_0 := blk_frozen BK526.out 0
    have hfz12_1 := blk_frozen BK526.out 1
    have hfz12_2 := blk_frozen BK526.out 2
    have hfz12_3 := blk_frozen BK526.out 3
    have hfz12_4 := blk_frozen BK526.out 4
    have hfz12_5 := blk_frozen BK526.out 5
    have hfz12_6 := blk_frozen BK526.out 6
    have hcz13_0 : wc.cell? ⟨gb525, 0, none⟩ = some (.int .i64 a0_0) := xvc BK525.out
    have hcz13_1 : wc.cell? ⟨gb525, 1, none⟩ = some (.int .i64 a0_1) := xvc BK525.out
    have hfz13_0 := blk_frozen BK525.out 0
    have hfz13_1 := blk_frozen BK525.out 1
    go_wp2_with (first | ((with_reducible refine gate_callee (f := 165) rfl ?_); refine goesL_ (some 15) rfl rfl Try.func165 (by kernel_rfl) rfl #[.bool (a1_3 == 1), .int .i64 1, .int .i64 a0_0] rfl wv1 ?_; (with_reducible refine (impl_pick.calls (a1_3 == 1) 1 a0_0 t527 _ A10.out).mono ?_); rintro e w' ⟨rfl, ⟨nd, rfl⟩⟩; refine ⟨_, rfl, ?_⟩))
    go_ret
    exact ⟨wv3, wv18⟩
   ·replace c9 := Bool.eq_false_iff.mpr c9
    subst c9
    have H1 : (if a1_0 = 2 then (impl_cost.j1 kj2 a1_0 (a1_0 == 2) a0_0 a0_1 a1_0 a1_1 a1_2 a1_3 a1_4 a1_5 a1_6) else (if a1_0 = 3 then (impl_cost.j1 kj2 a1_0 (a1_0 == 3) a0_0 a0_1 a1_0 a1_1 a1_2 a1_3 a1_4 a1_5 a1_6) else (impl_cost.j1 kj2 a1_0 (a1_0 == 10) a0_0 a0_1 a1_0 a1_1 a1_2 a1_3 a1_4 a1_5 a1_6))) = some r := by rw [if_neg (show ¬ (false = true) by decide)] at H; exact H
    clear H
    have H := H1
    clear H1
    have HC14 := Aside0.mk H
    clear H
    go_upto_if 16 with (fail)
    go_cut [16] (fun v16 wc => ∃ (kq : Nat) (x16_13 : Bool), v16 = .bool x16_13 ∧ Aside0 (impl_cost.j1 kq a1_0 x16_13 a0_0 a0_1 a1_0 a1_1 a1_2 a1_3 a1_4 a1_5 a1_6 = some r) ∧ Aside0 (kq ≤ kj2) ∧ Aside0 (wc.heap[gb525]? = some (.cells #[.int .i64 a0_0, .int .i64 a0_1] 31 (0, 0))) ∧ Aside0 (wc.heap[gb526]? = some (.cells #[.int .i64 a1_0, .int .i64 a1_1, .int .i64 a1_2, .int .i64 a1_3, .int .i64 a1_4, .int .i64 a1_5, .slice none 0 0] 142 (0, 0))) ∧ Aside0 (Below w.heap.size w wc))
    case first =>
     have H := HC14.out
     clear HC14
     by_cases c15 : a1_0 = 2
     ·rw [if_pos c15] at H
      have c15b0 : (a1_0 == 2) = true := beq_iff_eq.mpr c15
      have c15b1 : (a1_0 != 2) = false := bne_eq_false_iff_eq.mpr c15
      clear c15
      (first | rw [c15b0] | (simp only [i64_w, i32_w]; rw [c15b0]) | skip)
      have H' := Aside0.mk H
      clear H
      go_wp2
      go_meet
      case rel => exact ⟨_, ((a1_0 == 2)), wv6, H', ⟨wv43⟩, ⟨(xvb BK525.out)⟩, ⟨(xvb BK526.out)⟩, ⟨wv18⟩⟩
     ·rw [if_neg c15] at H
      have c15b0 : (a1_0 == 2) = false := beq_eq_false_iff_ne.mpr c15
      have c15b1 : (a1_0 != 2) = true := bne_iff_ne.mpr c15
      (first | rw [c15b0] | (simp only [i64_w, i32_w]; rw [c15b0]) | skip)
      by_cases c16 : a1_0 = 3
      ·rw [if_pos c16] at H
       have c16b0 : (a1_0 == 3) = true := beq_iff_eq.mpr c16
       have c16b1 : (a1_0 != 3) = false := bne_eq_false_iff_eq.mpr c16
       clear c16
       have H' := Aside0.mk H
       clear H
       go_wp2
       go_meet
       case rel => exact ⟨_, ((a1_0 == 3)), wv6, H', ⟨wv43⟩, ⟨(xvb BK525.out)⟩, ⟨(xvb BK526.out)⟩, ⟨wv18⟩⟩
      ·rw [if_neg c16] at H
       have c16b0 : (a1_0 == 3) = false := beq_eq_false_iff_ne.mpr c16
       have c16b1 : (a1_0 != 3) = true := bne_iff_ne.mpr c16
       have H' := Aside0.mk H
       clear H
       go_wp2
       go_meet
       case rel => exact ⟨_, ((a1_0 == 10)), wv6, H', ⟨wv43⟩, ⟨(xvb BK525.out)⟩, ⟨(xvb BK526.out)⟩, ⟨wv18⟩⟩
    case rest =>
     clear HC14
     try clear c1
     try clear p2
     try clear c6
     try clear c8
     try clear c8b0
     try clear c8b1
     try clear c9
     try clear c11
     try clear c15
     try clear c15b0
     try clear c15b1
     try clear c16
     try clear c16b0
     try clear c16b1
     try clear hcz12_0
     try clear hcz12_1
     try clear hcz12_2
     try clear hcz12_3
     try clear hcz12_4
     try clear hcz12_5
     try clear hcz12_6
     try clear hcz13_0
     try clear hcz13_1
     try clear hcz7_0
     try clear hcz7_1
     try clear hcz7_2
     try clear hcz7_3
     try clear hcz7_4
     try clear hcz7_5
     try clear hcz7_6
     try clear hfz12_0
     try clear hfz12_1
     try clear hfz12_2
     try clear hfz12_3
     try clear hfz12_4
     try clear hfz12_5
     try clear hfz12_6
     try clear hfz13_0
     try clear hfz13_1
     try clear hfz7_0
     try clear hfz7_1
     try clear hfz7_2
     try clear hfz7_3
     try clear hfz7_4
     try clear hfz7_5
     try clear hfz7_6
     try clear p2
     obtain ⟨kq, x16_13, rfl, HA, HJ13, BK525, BK526, HB⟩ := hcut
     cases kq with
     | zero => exact absurd HA.out (by simp [impl_cost.j1])
     | succ kj13 =>
      have H := HA.out
      clear HA
      simp only [impl_cost.j1] at H
      by_cases c17 : x16_13 = true
      ·subst c17
       have H1 : (some a0_0) = some r := by rw [if_pos rfl] at H; exact H
       clear H
       have H := H1
       clear H1
       obtain rfl := Option.some.inj H
       have hnb18 := NB525_526.out
       have hnc18 := NB526_525.out
       have hcz19_0 : wc.cell? ⟨gb525, 0, none⟩ = some (.int .i64 a0_0) := xvc BK525.out
       have hcz19_1 : wc.cell? ⟨gb525, 1, none⟩ = some (.int .i64 a0_1) := xvc BK525.out
       have hfz19_0 := blk_frozen BK525.out 0
       have hfz19_1 := blk_frozen BK525.out 1
       go_wp2
       go_ret
       exact ⟨wv3, wv18⟩
      ·replace c17 := Bool.eq_false_iff.mpr c17
       subst c17
       have H1 : (if a1_0 = 4 then ((impl_pick.f (a1_5 == 2) 3 1).bind fun t528 => (some t528)) else (if a1_0 = 7 then ((impl_isWide.f a0_0 a0_1 a1_0 a1_1 a1_2 a1_3 a1_4 a1_5 a1_6).bind fun t529 => ((impl_pick.f t529 2 1).bind fun t530 => (some t530))) else (if a1_0 = 12 then (some 2) else (if a1_0 = 13 then (some 2) else (some 1))))) = some r := by rw [if_neg (show ¬ (false = true) by decide)] at H; exact H
       clear H
       have H := H1
       clear H1
       by_cases c20 : a1_0 = 4
       ·rw [if_pos c20] at H
        have c20b0 : (a1_0 == 4) = true := beq_iff_eq.mpr c20
        have c20b1 : (a1_0 != 4) = false := bne_eq_false_iff_eq.mpr c20
        clear c20
        replace H := Option.bind_eq_some_iff.mp H
        obtain ⟨t528, A210, H⟩ := H
        replace H : (some t528) = some r := H
        have A21 := Aside0.mk A210
        clear A210
        obtain rfl := Option.some.inj H
        have hnb22 := NB526_525.out
        have hnc22 := NB525_526.out
        have hcz23_0 : wc.cell? ⟨gb526, 0, none⟩ = some (.int .i64 a1_0) := xvc BK526.out
        have hcz23_1 : wc.cell? ⟨gb526, 1, none⟩ = some (.int .i64 a1_1) := xvc BK526.out
        have hcz23_2 : wc.cell? ⟨gb526, 2, none⟩ = some (.int .i64 a1_2) := xvc BK526.out
        have hcz23_3 : wc.cell? ⟨gb526, 3, none⟩ = some (.int .i64 a1_3) := xvc BK526.out
        have hcz23_4 : wc.cell? ⟨gb526, 4, none⟩ = some (.int .i64 a1_4) := xvc BK526.out
        have hcz23_5 : wc.cell? ⟨gb526, 5, none⟩ = some (.int .i64 a1_5) := xvc BK526.out
        have hcz23_6 : wc.cell? ⟨gb526, 6, none⟩ = some (.slice none 0 0) := xvc BK526.out
        have hfz23_0 := blk_frozen BK526.out 0
        have hfz23_1 := blk_frozen BK526.out 1
        have hfz23_2 := blk_frozen BK526.out 2
        have hfz23_3 := blk_frozen BK526.out 3
        have hfz23_4 := blk_frozen BK526.out 4
        have hfz23_5 := blk_frozen BK526.out 5
        have hfz23_6 := blk_frozen BK526.out 6
        go_wp2_with (first | ((with_reducible refine gate_callee (f := 165) rfl ?_); refine goesL_ (some 27) rfl rfl Try.func165 (by kernel_rfl) rfl #[.bool (a1_5 == 2), .int .i64 3, .int .i64 1] rfl wv1 ?_; (with_reducible refine (impl_pick.calls (a1_5 == 2) 3 1 t528 _ A21.out).mono ?_); rintro e w' ⟨rfl, ⟨nd, rfl⟩⟩; refine ⟨_, rfl, ?_⟩))
        go_ret
        exact ⟨wv3, wv18⟩
       ·rw [if_neg c20] at H
        have c20b0 : (a1_0 == 4) = false := beq_eq_false_iff_ne.mpr c20
        have c20b1 : (a1_0 != 4) = true := bne_iff_ne.mpr c20
        by_cases c24 : a1_0 = 7
        ·rw [if_pos c24] at H
         have c24b0 : (a1_0 == 7) = true := beq_iff_eq.mpr c24
         have c24b1 : (a1_0 != 7) = false := bne_eq_false_iff_eq.mpr c24
         clear c24
         replace H := Option.bind_eq_some_iff.mp H
         obtain ⟨t529, A250, H⟩ := H
         replace H : ((impl_pick.f t529 2 1).bind fun t530 => (some t530)) = some r := H
         have A25 := Aside0.mk A250
         clear A250
         replace H := Option.bind_eq_some_iff.mp H
         obtain ⟨t530, A260, H⟩ := H
         replace H : (some t530) = some r := H
         have A26 := Aside0.mk A260
         clear A260
         obtain rfl := Option.some.inj H
         have hnb27 := NB525_526.out
         have hnc27 := NB526_525.out
         have hcz28_0 : wc.cell? ⟨gb525, 0, none⟩ = some (.int .i64 a0_0) := xvc BK525.out
         have hcz28_1 : wc.cell? ⟨gb525, 1, none⟩ = some (.int .i64 a0_1) := xvc BK525.out
         have hfz28_0 := blk_frozen BK525.out 0
         have hfz28_1 := blk_frozen BK525.out 1
         have hcz29_0 : wc.cell? ⟨gb526, 0, none⟩ = some (.int .i64 a1_0) := xvc BK526.out
         have hcz29_1 : wc.cell? ⟨gb526, 1, none⟩ = some (.int .i64 a1_1) := xvc BK526.out
         have hcz29_2 : wc.cell? ⟨gb526, 2, none⟩ = some (.int .i64 a1_2) := xvc BK526.out
         have hcz29_3 : wc.cell? ⟨gb526, 3, none⟩ = some (.int .i64 a1_3) := xvc BK526.out
         have hcz29_4 : wc.cell? ⟨gb526, 4, none⟩ = some (.int .i64 a1_4) := xvc BK526.out
         have hcz29_5 : wc.cell? ⟨gb526, 5, none⟩ = some (.int .i64 a1_5) := xvc BK526.out
         have hcz29_6 : wc.cell? ⟨gb526, 6, none⟩ = some (.slice none 0 0) := xvc BK526.out
         have hfz29_0 := blk_frozen BK526.out 0
         have hfz29_1 := blk_frozen BK526.out 1
         have hfz29_2 := blk_frozen BK526.out 2
         have hfz29_3 := blk_frozen BK526.out 3
         have hfz29_4 := blk_frozen BK526.out 4
         have hfz29_5 := blk_frozen BK526.out 5
         have hfz29_6 := blk_frozen BK526.out 6
         go_wp2_with (first | ((with_reducible refine gate_callee (f := 212) rfl ?_); refine goesL_ (some 32) rfl rfl Try.func212 (by kernel_rfl) rfl #[.agg #[.int .i64 a0_0, .int .i64 a0_1], .agg #[.int .i64 a1_0, .int .i64 a1_1, .int .i64 a1_2, .int .i64 a1_3, .int .i64 a1_4, .int .i64 a1_5, .slice none 0 0]] rfl wv1 ?_; (with_reducible refine (impl_isWide.calls a0_0 a0_1 a1_0 a1_1 a1_2 a1_3 a1_4 a1_5 a1_6 t529 _ A25.out).mono ?_); rintro e w30 ⟨rfl, hb⟩; refine ⟨_, rfl, ?_⟩; have n0_ := Aside0.mk (xvl BK525.out hb); have n1_ := Aside0.mk (xvl BK526.out hb); have n2_ := Aside0.mk (below_step wv18 hb); clear BK525; clear BK526; clear HB; have BK525 := n0_; have BK526 := n1_; have HB := n2_; clear n0_ n1_ n2_; (try clear hb); (try clear hb2); (try clear hk); (try clear hi)) | ((with_reducible refine gate_callee (f := 165) rfl ?_); refine goesL_ (some 33) rfl rfl Try.func165 (by kernel_rfl) rfl #[.bool t529, .int .i64 2, .int .i64 1] rfl wv1 ?_; (with_reducible refine (impl_pick.calls t529 2 1 t530 _ A26.out).mono ?_); rintro e w' ⟨rfl, ⟨nd, rfl⟩⟩; refine ⟨_, rfl, ?_⟩))
         go_ret
         exact ⟨wv3, wv18⟩
        ·rw [if_neg c24] at H
         have c24b0 : (a1_0 == 7) = false := beq_eq_false_iff_ne.mpr c24
         have c24b1 : (a1_0 != 7) = true := bne_iff_ne.mpr c24
         by_cases c31 : a1_0 = 12
         ·rw [if_pos c31] at H
          have c31b0 : (a1_0 == 12) = true := beq_iff_eq.mpr c31
          have c31b1 : (a1_0 != 12) = false := bne_eq_false_iff_eq.mpr c31
          clear c31
          obtain rfl := Option.some.inj H
          go_wp2
          go_ret
          exact ⟨wv3, wv18⟩
         ·rw [if_neg c31] at H
          have c31b0 : (a1_0 == 12) = false := beq_eq_false_iff_ne.mpr c31
          have c31b1 : (a1_0 != 12) = true := bne_iff_ne.mpr c31
          by_cases c32 : a1_0 = 13
          ·rw [if_pos c32] at H
           have c32b0 : (a1_0 == 13) = true := beq_iff_eq.mpr c32
           have c32b1 : (a1_0 != 13) = false := bne_eq_false_iff_eq.mpr c32
           clear c32
           obtain rfl := Option.some.inj H
           go_wp2
           go_ret
           exact ⟨wv3, wv18⟩
          ·rw [if_neg c32] at H
           have c32b0 : (a1_0 == 13) = false := beq_eq_false_iff_ne.mpr c32
           have c32b1 : (a1_0 != 13) = true := bne_iff_ne.mpr c32
           obtain rfl := Option.some.inj H
           go_wp2
           go_ret
           exact ⟨wv3, wv18⟩

/-! ### impl_CostOf: function 136 -/
def impl_CostOf.l0 : Nat → Int → List (S142) → Int → Int → Int → Int → Option (Int × Bool)
 | 0, _, _, _, _, _, _ => none
 | k + 1, x6, x13, x14, x15, x532000, x532001 => if x15 < x14 then (if 0 ≤ x15 then (if x15 < (x13.length : Int) then ((impl_cost.f k x532000 x532001 ((rd_T142 x13 x15).f0) ((rd_T142 x13 x15).f1) ((rd_T142 x13 x15).f2) ((rd_T142 x13 x15).f3) ((rd_T142 x13 x15).f4) ((rd_T142 x13 x15).f5) ((rd_T142 x13 x15).f6)).bind fun t535 => (impl_CostOf.l0 k (wrap64 (x6 + t535)) x13 x14 (wrap64 (x15 + 1)) x532000 x532001)) else (none)) else (none)) else (some (x6, true))
def impl_CostOf.f (k : Nat) (a0_0 : Int) (a0_1 : Int) (l1 : List (S142)) : Option (Int × Bool) := (impl_ValidProgram.f k a0_0 a0_1 l1).bind fun t532 => (if t532 = true then (impl_CostOf.l0 k 0 l1 (l1.length : Int) 0 a0_0 a0_1) else (some (0, false)))
theorem impl_CostOf.mono_l : ∀ k, (∀ y0 y1 y2 y3 y4 y5, LeO (impl_CostOf.l0 k y0 y1 y2 y3 y4 y5) (impl_CostOf.l0 (k + 1) y0 y1 y2 y3 y4 y5))
 | 0 => fun _ _ _ _ _ _ r h => by simp [impl_CostOf.l0] at h
 | k + 1 => by
  have ih0 := impl_CostOf.mono_l k
  ·intro y0 y1 y2 y3 y4 y5
   unfold impl_CostOf.l0
   repeat' first
   | (with_reducible exact ih0 _ _ _ _ _ _)
   | (with_reducible exact impl_ValidProgram.mono _ _ _ _)
   | (with_reducible exact impl_cost.mono _ _ _ _ _ _ _ _ _ _)
   | (with_reducible exact LeO.refl _)
   | (with_reducible exact LeO.none _)
   | (with_reducible refine LeO.ite ?_ ?_)
   | (with_reducible refine LeO.bind ?_ (fun _ => ?_))
   | exact ih0 _ _ _ _ _ _
   | exact impl_ValidProgram.mono _ _ _ _
   | exact impl_cost.mono _ _ _ _ _ _ _ _ _ _
   | exact LeO.none _
   | refine LeO.ite ?_ ?_
   | refine LeO.bind ?_ (fun _ => ?_)
theorem impl_CostOf.mono : ∀ a0 a1 a2 k, LeO (impl_CostOf.f k a0 a1 a2) (impl_CostOf.f (k + 1) a0 a1 a2) := by
 intro a0 a1 a2 k
 have ih0 := impl_CostOf.mono_l k
 unfold impl_CostOf.f
 repeat' first
   | (with_reducible exact ih0 _ _ _ _ _ _)
   | (with_reducible exact impl_ValidProgram.mono _ _ _ _)
   | (with_reducible exact impl_cost.mono _ _ _ _ _ _ _ _ _ _)
   | (with_reducible exact LeO.refl _)
   | (with_reducible exact LeO.none _)
   | (with_reducible refine LeO.ite ?_ ?_)
   | (with_reducible refine LeO.bind ?_ (fun _ => ?_))
   | exact ih0 _ _ _ _ _ _
   | exact impl_ValidProgram.mono _ _ _ _
   | exact impl_cost.mono _ _ _ _ _ _ _ _ _ _
   | exact LeO.none _
   | refine LeO.ite ?_ ?_
   | refine LeO.bind ?_ (fun _ => ?_)
set_option maxHeartbeats 8000000 in
set_option maxRecDepth 100000 in
theorem impl_CostOf.calls (k : Nat) (a0_0 : Int) (a0_1 : Int) (A1 : Option Addr) (c1 : Nat) (l1 : List (S142)) (r1 : Int) (r2 : Bool) (w : World) (hr1 : Kd.C k142 w A1 l1.length l1) (hc1 : l1.length ≤ c1) (h : impl_CostOf.f k a0_0 a0_1 l1 = some (r1, r2)) :
  Calls Try.prog 136 #[.agg #[.int .i64 a0_0, .int .i64 a0_1], .slice A1 l1.length c1] w fun e w' => e = .returned (.tuple #[.int .i64 r1, .bool r2]) ∧ Below w.heap.size w w' := by
 have hu31 := Try.underlying31
 have hu142 := Try.underlying142
 have HR1 := Aside0.mk hr1
 have HC1 := Aside0.mk hc1
 clear hr1 hc1
 have HB := Aside0.mk (Below.refl w.heap.size w)
 have H : ((impl_ValidProgram.f k a0_0 a0_1 l1).bind fun t532 => (if t532 = true then (impl_CostOf.l0 k 0 l1 (l1.length : Int) 0 a0_0 a0_1) else (some (0, false)))) = some (r1, r2) := h
 clear h
 replace H := Option.bind_eq_some_iff.mp H
 obtain ⟨t532, A30, H⟩ := H
 replace H : (if t532 = true then (impl_CostOf.l0 k 0 l1 (l1.length : Int) 0 a0_0 a0_1) else (some (0, false))) = some (r1, r2) := H
 have A3 := Aside0.mk A30
 clear A30
 by_cases c4 : t532 = true
 ·subst c4
  have H1 : (impl_CostOf.l0 k 0 l1 (l1.length : Int) 0 a0_0 a0_1) = some (r1, r2) := by rw [if_pos rfl] at H; exact H
  clear H
  have H := H1
  clear H1
  have H' := Aside0.mk H
  clear H
  go_enter Try.func136, Try.ntmps136
  go_wp2_with (first | ((with_reducible refine gate_dst (N := 2) rfl ?_); refine box_event ?hg (N := 2) ?hd (cs := #[.int .i64 a0_0, .int .i64 a0_1]) (t := 31) ?hr ?_; (case hd => rfl); (case hg => rfl); (case hr => first | (go_simp; done) | (go_simp; rfl)); intro gb531 hg w5 hbox hb; have n0_ := Aside0.mk (below_step (xvo HB.out) hb); have n1_ := Aside0.mk (hbox); have n2_ := Aside0.mk ((by rw [hg]; exact (below_size (xvo HB.out)) : w.heap.size ≤ gb531)); have n3_ := Aside0.mk ((by rw [hg]; exact (below_size (xvo HB.out)) : w.heap.size ≤ gb531)); clear HB; have HB := n0_; have BK531 := n1_; have GW531 := n2_; have GE531 := n3_; clear n0_ n1_ n2_ n3_; clear hb hbox hg; have hcz6_0 : w5.cell? ⟨gb531, 0, none⟩ = some (.int .i64 a0_0) := xvc BK531.out; have hcz6_1 : w5.cell? ⟨gb531, 1, none⟩ = some (.int .i64 a0_1) := xvc BK531.out; have hfz6_0 := blk_frozen BK531.out 0; have hfz6_1 := blk_frozen BK531.out 1) | ((with_reducible refine gate_callee (f := 191) rfl ?_); refine goesL_ (some 11) rfl rfl Try.func191 (by kernel_rfl) rfl #[.agg #[.int .i64 a0_0, .int .i64 a0_1], .slice A1 l1.length c1] rfl wv1 ?_; (with_reducible refine (impl_ValidProgram.calls k a0_0 a0_1 _ _ l1 true _ ?side1 ?side2 A3.out).mono ?_); (case side1 => repeat (first | exact (Kd.C_below HR1.out HB.out) | (with_reducible refine Kd.C_alloc ?_ _) | (with_reducible refine Kd.C_drewN ?_ _) | (with_reducible refine Kd.C_drew ?_))); (case side2 => exact HC1.out); rintro e w7 ⟨rfl, hb⟩; refine ⟨_, rfl, ?_⟩; have n0_ := Aside0.mk (xvl BK531.out hb); have n1_ := Aside0.mk (below_step wv28 hb); clear BK531; clear HB; have BK531 := n0_; have HB := n1_; clear n0_ n1_; (try clear hb); (try clear hb2); (try clear hk); (try clear hi)))
  go_loopg [6, 15] k (fun kq v6 v15 w' => ∃ (x6_1 : Int) (x15_1 : Int), v6 = .int .i64 x6_1 ∧ v15 = .int .i64 x15_1 ∧ Aside0 (impl_CostOf.l0 kq x6_1 l1 (l1.length : Int) x15_1 a0_0 a0_1 = some (r1, r2)) ∧ Aside0 (kq ≤ k) ∧ Aside0 (w'.heap[gb531]? = some (.cells #[.int .i64 a0_0, .int .i64 a0_1] 31 (0, 0))) ∧ Aside0 (Below w.heap.size w w'))
  case atStart => exact ⟨(0), (0), wv6, wv6, H', ⟨Nat.le_refl _⟩, ⟨(xvb BK531.out)⟩, ⟨wv28⟩⟩
  case round =>
   clear H'
   try clear c1
   try clear p2
   try clear c4
   try clear hcz6_0
   try clear hcz6_1
   try clear hfz6_0
   try clear hfz6_1
   obtain ⟨x6_1, x15_1, rfl, rfl, HA, HK1, BK531, HB⟩ := hrel
   cases gk with
   | zero => exact absurd HA.out (by simp [impl_CostOf.l0])
   | succ k1 =>
    have H := HA.out
    clear HA
    simp only [impl_CostOf.l0] at H
    by_cases c8 : x15_1 < (l1.length : Int)
    ·rw [if_pos c8] at H
     have c8b0 : decide (x15_1 < (l1.length : Int)) = true := decide_eq_true c8
     clear c8
     by_cases c9 : 0 ≤ x15_1
     ·rw [if_pos c9] at H
      have c9b0 : decide (0 ≤ x15_1) = true := decide_eq_true c9
      clear c9
      by_cases c10 : x15_1 < (l1.length : Int)
      ·rw [if_pos c10] at H
       have c10b0 : decide (x15_1 < (l1.length : Int)) = true := decide_eq_true c10
       clear c10
       replace H := Option.bind_eq_some_iff.mp H
       obtain ⟨t535, A110, H⟩ := H
       replace H : (impl_CostOf.l0 k1 (wrap64 (x6_1 + t535)) l1 (l1.length : Int) (wrap64 (x15_1 + 1)) a0_0 a0_1) = some (r1, r2) := H
       have A11 := Aside0.mk A110
       clear A110
       have H' := Aside0.mk H
       clear H
       have p533 : 0 ≤ (x15_1 : Int) := of_decide_eq_true wv46
       have q533 : x15_1 < (l1.length : Int) := of_decide_eq_true wv46
       obtain ⟨ad533, e533, hx533_0, hx533_1, hx533_2, hx533_3, hx533_4, hx533_5, hx533_6⟩ := at_T142 HR1.out x15_1 p533 q533
       cases e533
       replace hx533_0 := (HB.out.cell (World.block_lt_of_cell? w _ hx533_0)).trans hx533_0
       replace hx533_1 := (HB.out.cell (World.block_lt_of_cell? w _ hx533_1)).trans hx533_1
       replace hx533_2 := (HB.out.cell (World.block_lt_of_cell? w _ hx533_2)).trans hx533_2
       replace hx533_3 := (HB.out.cell (World.block_lt_of_cell? w _ hx533_3)).trans hx533_3
       replace hx533_4 := (HB.out.cell (World.block_lt_of_cell? w _ hx533_4)).trans hx533_4
       replace hx533_5 := (HB.out.cell (World.block_lt_of_cell? w _ hx533_5)).trans hx533_5
       replace hx533_6 := (HB.out.cell (World.block_lt_of_cell? w _ hx533_6)).trans hx533_6
       replace p533 := eq_true p533
       replace q533 := eq_true q533
       go_wp2_with (first | ((with_reducible refine gate_dst (N := 8) rfl ?_); refine box_event ?hg (N := 8) ?hd (cs := #[.int .i64 0, .int .i64 0, .int .i64 0, .int .i64 0, .int .i64 0, .int .i64 0, .slice none 0 0]) (t := 142) ?hr ?_; (case hd => rfl); (case hg => rfl); (case hr => first | (go_simp; done) | (go_simp; rfl)); intro gb534 hg w12 hbox hb; have n0_ := Aside0.mk (xvl BK531.out hb); have n1_ := Aside0.mk (below_step wv28 hb); have n2_ := Aside0.mk (hbox); have n3_ := Aside0.mk ((by rw [hg]; exact (below_size wv28) : w.heap.size ≤ gb534)); have n4_ := Aside0.mk ((by rw [hg]; exact (below_size wv28) : w.heap.size ≤ gb534)); have n5_ := Aside0.mk ((by rw [hg]; exact Nat.ne_of_lt (blk_lt (g := gb531) (o := .cells #[.int .i64 a0_0, .int .i64 a0_1] 31 (0, 0)) (xvb BK531.out)) : gb531 ≠ gb534)); have n6_ := Aside0.mk ((by rw [hg]; exact Nat.ne_of_gt (blk_lt (g := gb531) (o := .cells #[.int .i64 a0_0, .int .i64 a0_1] 31 (0, 0)) (xvb BK531.out)) : gb534 ≠ gb531)); clear BK531; clear HB; have BK531 := n0_; have HB := n1_; have BK534 := n2_; have GW534 := n3_; have GE534 := n4_; have NB531_534 := n5_; have NB534_531 := n6_; clear n0_ n1_ n2_ n3_ n4_ n5_ n6_; clear hb hbox hg; have hnb13 := NB534_531.out; have hnc13 := NB531_534.out; have hcz14_0 : w12.cell? ⟨gb534, 0, none⟩ = some (.int .i64 0) := xvc BK534.out; have hcz14_1 : w12.cell? ⟨gb534, 1, none⟩ = some (.int .i64 0) := xvc BK534.out; have hcz14_2 : w12.cell? ⟨gb534, 2, none⟩ = some (.int .i64 0) := xvc BK534.out; have hcz14_3 : w12.cell? ⟨gb534, 3, none⟩ = some (.int .i64 0) := xvc BK534.out; have hcz14_4 : w12.cell? ⟨gb534, 4, none⟩ = some (.int .i64 0) := xvc BK534.out; have hcz14_5 : w12.cell? ⟨gb534, 5, none⟩ = some (.int .i64 0) := xvc BK534.out; have hcz14_6 : w12.cell? ⟨gb534, 6, none⟩ = some (.slice none 0 0) := xvc BK534.out; have hfz14_0 := blk_frozen BK534.out 0; have hfz14_1 := blk_frozen BK534.out 1; have hfz14_2 := blk_frozen BK534.out 2; have hfz14_3 := blk_frozen BK534.out 3; have hfz14_4 := blk_frozen BK534.out 4; have hfz14_5 := blk_frozen BK534.out 5; have hfz14_6 := blk_frozen BK534.out 6; have hcz15_0 : w12.cell? ⟨gb531, 0, none⟩ = some (.int .i64 a0_0) := xvc BK531.out; have hcz15_1 : w12.cell? ⟨gb531, 1, none⟩ = some (.int .i64 a0_1) := xvc BK531.out; have hfz15_0 := blk_frozen BK531.out 0; have hfz15_1 := blk_frozen BK531.out 1) | ((with_reducible refine gate_callee (f := 192) rfl ?_); refine goesL_ (some 22) rfl rfl Try.func192 (by kernel_rfl) rfl #[.agg #[.int .i64 a0_0, .int .i64 a0_1], .agg #[.int .i64 ((rd_T142 l1 x15_1).f0), .int .i64 ((rd_T142 l1 x15_1).f1), .int .i64 ((rd_T142 l1 x15_1).f2), .int .i64 ((rd_T142 l1 x15_1).f3), .int .i64 ((rd_T142 l1 x15_1).f4), .int .i64 ((rd_T142 l1 x15_1).f5), .slice none 0 0]] rfl wv1 ?_; (with_reducible refine (impl_cost.calls k1 a0_0 a0_1 ((rd_T142 l1 x15_1).f0) ((rd_T142 l1 x15_1).f1) ((rd_T142 l1 x15_1).f2) ((rd_T142 l1 x15_1).f3) ((rd_T142 l1 x15_1).f4) ((rd_T142 l1 x15_1).f5) ((rd_T142 l1 x15_1).f6) t535 _ A11.out).mono ?_); rintro e w16 ⟨rfl, hb⟩; refine ⟨_, rfl, ?_⟩; have n0_ := Aside0.mk (blk_below (g := gb531) (o := .cells #[.int .i64 a0_0, .int .i64 a0_1] 31 (0, 0)) (xvq BK531.out NB531_534.out) hb); have n1_ := Aside0.mk (blk_below (g := gb534) (o := .cells #[.int .i64 ((rd_T142 l1 x15_1).f0), .int .i64 ((rd_T142 l1 x15_1).f1), .int .i64 ((rd_T142 l1 x15_1).f2), .int .i64 ((rd_T142 l1 x15_1).f3), .int .i64 ((rd_T142 l1 x15_1).f4), .int .i64 ((rd_T142 l1 x15_1).f5), .slice none 0 0] 142 (0, 0)) (by (with_reducible repeat (first | refine blk_drewN ?_ _ | refine blk_drew ?_ | refine blk_alloc ?_ _)); refine blk_put (cs := #[.int .i64 ((rd_T142 l1 x15_1).f0), .int .i64 ((rd_T142 l1 x15_1).f1), .int .i64 ((rd_T142 l1 x15_1).f2), .int .i64 ((rd_T142 l1 x15_1).f3), .int .i64 ((rd_T142 l1 x15_1).f4), .int .i64 ((rd_T142 l1 x15_1).f5), .slice none 0 0]) ?_ 6 _ rfl; (with_reducible repeat (first | refine blk_drewN ?_ _ | refine blk_drew ?_ | refine blk_alloc ?_ _)); refine blk_put (cs := #[.int .i64 ((rd_T142 l1 x15_1).f0), .int .i64 ((rd_T142 l1 x15_1).f1), .int .i64 ((rd_T142 l1 x15_1).f2), .int .i64 ((rd_T142 l1 x15_1).f3), .int .i64 ((rd_T142 l1 x15_1).f4), .int .i64 0, .slice none 0 0]) ?_ 5 _ rfl; (with_reducible repeat (first | refine blk_drewN ?_ _ | refine blk_drew ?_ | refine blk_alloc ?_ _)); refine blk_put (cs := #[.int .i64 ((rd_T142 l1 x15_1).f0), .int .i64 ((rd_T142 l1 x15_1).f1), .int .i64 ((rd_T142 l1 x15_1).f2), .int .i64 ((rd_T142 l1 x15_1).f3), .int .i64 0, .int .i64 0, .slice none 0 0]) ?_ 4 _ rfl; (with_reducible repeat (first | refine blk_drewN ?_ _ | refine blk_drew ?_ | refine blk_alloc ?_ _)); refine blk_put (cs := #[.int .i64 ((rd_T142 l1 x15_1).f0), .int .i64 ((rd_T142 l1 x15_1).f1), .int .i64 ((rd_T142 l1 x15_1).f2), .int .i64 0, .int .i64 0, .int .i64 0, .slice none 0 0]) ?_ 3 _ rfl; (with_reducible repeat (first | refine blk_drewN ?_ _ | refine blk_drew ?_ | refine blk_alloc ?_ _)); refine blk_put (cs := #[.int .i64 ((rd_T142 l1 x15_1).f0), .int .i64 ((rd_T142 l1 x15_1).f1), .int .i64 0, .int .i64 0, .int .i64 0, .int .i64 0, .slice none 0 0]) ?_ 2 _ rfl; (with_reducible repeat (first | refine blk_drewN ?_ _ | refine blk_drew ?_ | refine blk_alloc ?_ _)); refine blk_put (cs := #[.int .i64 ((rd_T142 l1 x15_1).f0), .int .i64 0, .int .i64 0, .int .i64 0, .int .i64 0, .int .i64 0, .slice none 0 0]) ?_ 1 _ rfl; (with_reducible repeat (first | refine blk_drewN ?_ _ | refine blk_drew ?_ | refine blk_alloc ?_ _)); refine blk_put (cs := #[.int .i64 0, .int .i64 0, .int .i64 0, .int .i64 0, .int .i64 0, .int .i64 0, .slice none 0 0]) ?_ 0 _ rfl; (with_reducible repeat (first | refine blk_drewN ?_ _ | refine blk_drew ?_ | refine blk_alloc ?_ _)); exact BK534.out) hb); have n2_ := Aside0.mk (below_step (by repeat (first | (with_reducible first | exact HB.out | apply below_alloc | apply pw_below_drewN | apply below_drew1 | refine below_set ?_ GE531.out | refine below_set ?_ GE534.out) | exact HB.out)) hb); clear BK531; clear BK534; clear HB; have BK531 := n0_; have BK534 := n1_; have HB := n2_; clear n0_ n1_ n2_; (try clear hb); (try clear hb2); (try clear hk); (try clear hi)))
       go_roundg k1
       case measure => have := HK1.out; omega
       case rel => exact ⟨(wrap64 (x6_1 + t535)), (wrap64 (x15_1 + 1)), wv6, wv6, H', ⟨wv60⟩, ⟨(xvb BK531.out)⟩, ⟨(by repeat (first | (with_reducible first | exact HB.out | apply below_alloc | apply pw_below_drewN | apply below_drew1 | refine below_set ?_ GE531.out | refine below_set ?_ GE534.out) | exact HB.out))⟩⟩
      ·rw [if_neg c10] at H
       exact absurd H (by simp)
     ·rw [if_neg c9] at H
      exact absurd H (by simp)
    ·rw [if_neg c8] at H
     have c8b0 : decide (x15_1 < (l1.length : Int)) = false := decide_eq_false c8
     clear c8
     simp only [Option.some.injEq, Prod.mk.injEq] at H
     obtain ⟨rfl, rfl⟩ := H
     go_wp2
     go_ret2
     exact ⟨wv3, wv28⟩
 ·replace c4 := Bool.eq_false_iff.mpr c4
  subst c4
  have H1 : (some (0, false)) = some (r1, r2) := by rw [if_neg (show ¬ (false = true) by decide)] at H; exact H
  clear H
  have H := H1
  clear H1
  simp only [Option.some.injEq, Prod.mk.injEq] at H
  obtain ⟨rfl, rfl⟩ := H
  go_enter Try.func136, Try.ntmps136
  go_wp2_with (first | ((with_reducible refine gate_dst (N := 2) rfl ?_); refine box_event ?hg (N := 2) ?hd (cs := #[.int .i64 a0_0, .int .i64 a0_1]) (t := 31) ?hr ?_; (case hd => rfl); (case hg => rfl); (case hr => first | (go_simp; done) | (go_simp; rfl)); intro gb531 hg w17 hbox hb; have n0_ := Aside0.mk (below_step (xvo HB.out) hb); have n1_ := Aside0.mk (hbox); have n2_ := Aside0.mk ((by rw [hg]; exact (below_size (xvo HB.out)) : w.heap.size ≤ gb531)); have n3_ := Aside0.mk ((by rw [hg]; exact (below_size (xvo HB.out)) : w.heap.size ≤ gb531)); clear HB; have HB := n0_; have BK531 := n1_; have GW531 := n2_; have GE531 := n3_; clear n0_ n1_ n2_ n3_; clear hb hbox hg; have hcz18_0 : w17.cell? ⟨gb531, 0, none⟩ = some (.int .i64 a0_0) := xvc BK531.out; have hcz18_1 : w17.cell? ⟨gb531, 1, none⟩ = some (.int .i64 a0_1) := xvc BK531.out; have hfz18_0 := blk_frozen BK531.out 0; have hfz18_1 := blk_frozen BK531.out 1) | ((with_reducible refine gate_callee (f := 191) rfl ?_); refine goesL_ (some 11) rfl rfl Try.func191 (by kernel_rfl) rfl #[.agg #[.int .i64 a0_0, .int .i64 a0_1], .slice A1 l1.length c1] rfl wv1 ?_; (with_reducible refine (impl_ValidProgram.calls k a0_0 a0_1 _ _ l1 false _ ?side1 ?side2 A3.out).mono ?_); (case side1 => repeat (first | exact (Kd.C_below HR1.out HB.out) | (with_reducible refine Kd.C_alloc ?_ _) | (with_reducible refine Kd.C_drewN ?_ _) | (with_reducible refine Kd.C_drew ?_))); (case side2 => exact HC1.out); rintro e w19 ⟨rfl, hb⟩; refine ⟨_, rfl, ?_⟩; have n0_ := Aside0.mk (xvl BK531.out hb); have n1_ := Aside0.mk (below_step wv28 hb); clear BK531; clear HB; have BK531 := n0_; have HB := n1_; clear n0_ n1_; (try clear hb); (try clear hb2); (try clear hk); (try clear hi)))
  go_ret2
  exact ⟨wv3, wv28⟩

/-! ### impl_StripCost: function 72 -/
def impl_StripCost.f (k : Nat) (a0_0 : Int) (a0_1 : Int) (a1_0 : Int) (a1_1 : Int) (a1_2 : Int) (a1_3 : Int) (a1_4 : Int) (a1_5 : Int) (a2 : Int) : Option (Int × Bool) := (impl_StripCode.f k a0_0 a0_1 a1_0 a1_1 a1_2 a1_3 a1_4 a1_5 a2).bind fun bt538 => (if bt538.2 = true then ((impl_CostOf.f k a0_0 a0_1 bt538.1).bind fun bt542 => (some (bt542.1, bt542.2))) else (some (0, false)))
theorem impl_StripCost.mono : ∀ a0 a1 a2 a3 a4 a5 a6 a7 a8 k, LeO (impl_StripCost.f k a0 a1 a2 a3 a4 a5 a6 a7 a8) (impl_StripCost.f (k + 1) a0 a1 a2 a3 a4 a5 a6 a7 a8) := by
 intro a0 a1 a2 a3 a4 a5 a6 a7 a8 k
 unfold impl_StripCost.f
 repeat' first
   | (with_reducible exact impl_CostOf.mono _ _ _ _)
   | (with_reducible exact impl_StripCode.mono _ _ _ _ _ _ _ _ _ _)
   | (with_reducible exact LeO.refl _)
   | (with_reducible exact LeO.none _)
   | (with_reducible refine LeO.ite ?_ ?_)
   | (with_reducible refine LeO.bind ?_ (fun _ => ?_))
   | exact impl_CostOf.mono _ _ _ _
   | exact impl_StripCode.mono _ _ _ _ _ _ _ _ _ _
   | exact LeO.none _
   | refine LeO.ite ?_ ?_
   | refine LeO.bind ?_ (fun _ => ?_)
set_option maxHeartbeats 8000000 in
set_option maxRecDepth 100000 in
theorem impl_StripCost.calls (k : Nat) (a0_0 : Int) (a0_1 : Int) (a1_0 : Int) (a1_1 : Int) (a1_2 : Int) (a1_3 : Int) (a1_4 : Int) (a1_5 : Int) (a2 : Int) (r1 : Int) (r2 : Bool) (w : World) (h : impl_StripCost.f k a0_0 a0_1 a1_0 a1_1 a1_2 a1_3 a1_4 a1_5 a2 = some (r1, r2)) :
  Calls Try.prog 72 #[.agg #[.int .i64 a0_0, .int .i64 a0_1], .agg #[.int .i64 a1_0, .int .i64 a1_1, .int .i64 a1_2, .int .i64 a1_3, .int .i64 a1_4, .int .i64 a1_5], .int .i64 a2] w fun e w' => e = .returned (.tuple #[.int .i64 r1, .bool r2]) ∧ Below w.heap.size w w' := by
 have hu31 := Try.underlying31
 have hu25 := Try.underlying25
 have HB := Aside0.mk (Below.refl w.heap.size w)
 have H : ((impl_StripCode.f k a0_0 a0_1 a1_0 a1_1 a1_2 a1_3 a1_4 a1_5 a2).bind fun bt538 => (if bt538.2 = true then ((impl_CostOf.f k a0_0 a0_1 bt538.1).bind fun bt542 => (some (bt542.1, bt542.2))) else (some (0, false)))) = some (r1, r2) := h
 clear h
 replace H := Option.bind_eq_some_iff.mp H
 obtain ⟨⟨t538, t541⟩, A40, H⟩ := H
 replace H : (if t541 = true then ((impl_CostOf.f k a0_0 a0_1 t538).bind fun bt542 => (some (bt542.1, bt542.2))) else (some (0, false))) = some (r1, r2) := H
 have A4 := Aside0.mk A40
 clear A40
 by_cases c5 : t541 = true
 ·subst c5
  have H1 : ((impl_CostOf.f k a0_0 a0_1 t538).bind fun bt542 => (some (bt542.1, bt542.2))) = some (r1, r2) := by rw [if_pos rfl] at H; exact H
  clear H
  have H := H1
  clear H1
  replace H := Option.bind_eq_some_iff.mp H
  obtain ⟨⟨t542, t543⟩, A60, H⟩ := H
  replace H : (some (t542, t543)) = some (r1, r2) := H
  have A6 := Aside0.mk A60
  clear A60
  simp only [Option.some.injEq, Prod.mk.injEq] at H
  obtain ⟨rfl, rfl⟩ := H
  go_enter Try.func72, Try.ntmps72
  go_wp2_with (first | ((with_reducible refine gate_dst (N := 3) rfl ?_); refine box_event ?hg (N := 3) ?hd (cs := #[.int .i64 a0_0, .int .i64 a0_1]) (t := 31) ?hr ?_; (case hd => rfl); (case hg => rfl); (case hr => first | (go_simp; done) | (go_simp; rfl)); intro gb536 hg w7 hbox hb; have n0_ := Aside0.mk (below_step (xvo HB.out) hb); have n1_ := Aside0.mk (hbox); have n2_ := Aside0.mk ((by rw [hg]; exact (below_size (xvo HB.out)) : w.heap.size ≤ gb536)); have n3_ := Aside0.mk ((by rw [hg]; exact (below_size (xvo HB.out)) : w.heap.size ≤ gb536)); clear HB; have HB := n0_; have BK536 := n1_; have GW536 := n2_; have GE536 := n3_; clear n0_ n1_ n2_ n3_; clear hb hbox hg) | ((with_reducible refine gate_dst (N := 4) rfl ?_); refine box_event ?hg (N := 4) ?hd (cs := #[.int .i64 a1_0, .int .i64 a1_1, .int .i64 a1_2, .int .i64 a1_3, .int .i64 a1_4, .int .i64 a1_5]) (t := 25) ?hr ?_; (case hd => rfl); (case hg => rfl); (case hr => first | (go_simp; done) | (go_simp; rfl)); intro gb537 hg w8 hbox hb; have n0_ := Aside0.mk (xvl BK536.out hb); have n1_ := Aside0.mk (below_step wv35 hb); have n2_ := Aside0.mk (hbox); have n3_ := Aside0.mk ((by rw [hg]; exact (below_size wv35) : w.heap.size ≤ gb537)); have n4_ := Aside0.mk ((by rw [hg]; exact (below_size wv35) : w.heap.size ≤ gb537)); have n5_ := Aside0.mk ((by rw [hg]; exact Nat.ne_of_lt (blk_lt (g := gb536) (o := .cells #[.int .i64 a0_0, .int .i64 a0_1] 31 (0, 0)) (xvb BK536.out)) : gb536 ≠ gb537)); have n6_ := Aside0.mk ((by rw [hg]; exact Nat.ne_of_gt (blk_lt (g := gb536) (o := .cells #[.int .i64 a0_0, .int .i64 a0_1] 31 (0, 0)) (xvb BK536.out)) : gb537 ≠ gb536)); clear BK536; clear HB; have BK536 := n0_; have HB := n1_; have BK537 := n2_; have GW537 := n3_; have GE537 := n4_; have NB536_537 := n5_; have NB537_536 := n6_; clear n0_ n1_ n2_ n3_ n4_ n5_ n6_; clear hb hbox hg; have hnb9 := NB536_537.out; have hnc9 := NB537_536.out; have hcz10_0 : w8.cell? ⟨gb536, 0, none⟩ = some (.int .i64 a0_0) := xvc BK536.out; have hcz10_1 : w8.cell? ⟨gb536, 1, none⟩ = some (.int .i64 a0_1) := xvc BK536.out; have hfz10_0 := blk_frozen BK536.out 0; have hfz10_1 := blk_frozen BK536.out 1; have hcz11_0 : w8.cell? ⟨gb537, 0, none⟩ = some (.int .i64 a1_0) := xvc BK537.out; have hcz11_1 : w8.cell? ⟨gb537, 1, none⟩ = some (.int .i64 a1_1) := xvc BK537.out; have hcz11_2 : w8.cell? ⟨gb537, 2, none⟩ = some (.int .i64 a1_2) := xvc BK537.out; have hcz11_3 : w8.cell? ⟨gb537, 3, none⟩ = some (.int .i64 a1_3) := xvc BK537.out; have hcz11_4 : w8.cell? ⟨gb537, 4, none⟩ = some (.int .i64 a1_4) := xvc BK537.out; have hcz11_5 : w8.cell? ⟨gb537, 5, none⟩ = some (.int .i64 a1_5) := xvc BK537.out; have hfz11_0 := blk_frozen BK537.out 0; have hfz11_1 := blk_frozen BK537.out 1; have hfz11_2 := blk_frozen BK537.out 2; have hfz11_3 := blk_frozen BK537.out 3; have hfz11_4 := blk_frozen BK537.out 4; have hfz11_5 := blk_frozen BK537.out 5) | ((with_reducible refine gate_callee (f := 67) rfl ?_); refine goesL_ (some 14) rfl rfl Try.func67 (by kernel_rfl) rfl #[.agg #[.int .i64 a0_0, .int .i64 a0_1], .agg #[.int .i64 a1_0, .int .i64 a1_1, .int .i64 a1_2, .int .i64 a1_3, .int .i64 a1_4, .int .i64 a1_5], .int .i64 a2] rfl wv1 ?_; (with_reducible refine (impl_StripCode.calls k a0_0 a0_1 a1_0 a1_1 a1_2 a1_3 a1_4 a1_5 a2 t538 true _ A4.out).mono ?_); rintro e w12 ⟨v539, rfl, ho0, hb⟩; refine ⟨_, rfl, ?_⟩; have n0_ := Aside0.mk (Kd.R_lower ho0 (below_size wv27)); have n1_ := Aside0.mk (xvl BK536.out hb); have n2_ := Aside0.mk (xvl BK537.out hb); have n3_ := Aside0.mk (below_step wv27 hb); clear BK536; clear BK537; clear HB; have HO540 := n0_; have BK536 := n1_; have BK537 := n2_; have HB := n3_; clear n0_ n1_ n2_ n3_; (try clear hb); (try clear hb2); (try clear hk); (try clear hi); (try clear ho0); have hcz13_0 : w12.cell? ⟨gb536, 0, none⟩ = some (.int .i64 a0_0) := xvc BK536.out; have hcz13_1 : w12.cell? ⟨gb536, 1, none⟩ = some (.int .i64 a0_1) := xvc BK536.out; have hfz13_0 := blk_frozen BK536.out 0; have hfz13_1 := blk_frozen BK536.out 1; obtain ⟨Ao14, co14, eo14⟩ := Kd.R_slice HO540.out; subst eo14) | ((with_reducible refine gate_callee (f := 136) rfl ?_); refine goesL_ (some 21) rfl rfl Try.func136 (by kernel_rfl) rfl #[.agg #[.int .i64 a0_0, .int .i64 a0_1], .slice Ao14 t538.length co14] rfl wv1 ?_; (with_reducible refine (impl_CostOf.calls k a0_0 a0_1 _ _ t538 t542 t543 _ ?side1 ?side2 A6.out).mono ?_); (case side1 => repeat (first | exact (Kd.R_reads' HO540.out).2.2 | (with_reducible refine Kd.C_alloc ?_ _) | (with_reducible refine Kd.C_drewN ?_ _) | (with_reducible refine Kd.C_drew ?_))); (case side2 => exact (Kd.R_reads' HO540.out).2.1); rintro e w15 ⟨rfl, hb⟩; refine ⟨_, rfl, ?_⟩; have n0_ := Aside0.mk (Kd.R_below (xvr HO540.out) hb); have n1_ := Aside0.mk (xvl BK536.out hb); have n2_ := Aside0.mk (xvl BK537.out hb); have n3_ := Aside0.mk (below_step wv27 hb); clear HO540; clear BK536; clear BK537; clear HB; have HO540 := n0_; have BK536 := n1_; have BK537 := n2_; have HB := n3_; clear n0_ n1_ n2_ n3_; (try clear hb); (try clear hb2); (try clear hk); (try clear hi)))
  go_ret2
  exact ⟨wv3, wv27⟩
 ·replace c5 := Bool.eq_false_iff.mpr c5
  subst c5
  have H1 : (some (0, false)) = some (r1, r2) := by rw [if_neg (show ¬ (false = true) by decide)] at H; exact H
  clear H
  have H := H1
  clear H1
  simp only [Option.some.injEq, Prod.mk.injEq] at H
  obtain ⟨rfl, rfl⟩ := H
  go_enter Try.func72, Try.ntmps72
  go_wp2_with (first | ((with_reducible refine gate_dst (N := 3) rfl ?_); refine box_event ?hg (N := 3) ?hd (cs := #[.int .i64 a0_0, .int .i64 a0_1]) (t := 31) ?hr ?_; (case hd => rfl); (case hg => rfl); (case hr => first | (go_simp; done) | (go_simp; rfl)); intro gb536 hg w16 hbox hb; have n0_ := Aside0.mk (below_step (xvo HB.out) hb); have n1_ := Aside0.mk (hbox); have n2_ := Aside0.mk ((by rw [hg]; exact (below_size (xvo HB.out)) : w.heap.size ≤ gb536)); have n3_ := Aside0.mk ((by rw [hg]; exact (below_size (xvo HB.out)) : w.heap.size ≤ gb536)); clear HB; have HB := n0_; have BK536 := n1_; have GW536 := n2_; have GE536 := n3_; clear n0_ n1_ n2_ n3_; clear hb hbox hg) | ((with_reducible refine gate_dst (N := 4) rfl ?_); refine box_event ?hg (N := 4) ?hd (cs := #[.int .i64 a1_0, .int .i64 a1_1, .int .i64 a1_2, .int .i64 a1_3, .int .i64 a1_4, .int .i64 a1_5]) (t := 25) ?hr ?_; (case hd => rfl); (case hg => rfl); (case hr => first | (go_simp; done) | (go_simp; rfl)); intro gb537 hg w17 hbox hb; have n0_ := Aside0.mk (xvl BK536.out hb); have n1_ := Aside0.mk (below_step wv35 hb); have n2_ := Aside0.mk (hbox); have n3_ := Aside0.mk ((by rw [hg]; exact (below_size wv35) : w.heap.size ≤ gb537)); have n4_ := Aside0.mk ((by rw [hg]; exact (below_size wv35) : w.heap.size ≤ gb537)); have n5_ := Aside0.mk ((by rw [hg]; exact Nat.ne_of_lt (blk_lt (g := gb536) (o := .cells #[.int .i64 a0_0, .int .i64 a0_1] 31 (0, 0)) (xvb BK536.out)) : gb536 ≠ gb537)); have n6_ := Aside0.mk ((by rw [hg]; exact Nat.ne_of_gt (blk_lt (g := gb536) (o := .cells #[.int .i64 a0_0, .int .i64 a0_1] 31 (0, 0)) (xvb BK536.out)) : gb537 ≠ gb536)); clear BK536; clear HB; have BK536 := n0_; have HB := n1_; have BK537 := n2_; have GW537 := n3_; have GE537 := n4_; have NB536_537 := n5_; have NB537_536 := n6_; clear n0_ n1_ n2_ n3_ n4_ n5_ n6_; clear hb hbox hg; have hnb18 := NB536_537.out; have hnc18 := NB537_536.out; have hcz19_0 : w17.cell? ⟨gb536, 0, none⟩ = some (.int .i64 a0_0) := xvc BK536.out; have hcz19_1 : w17.cell? ⟨gb536, 1, none⟩ = some (.int .i64 a0_1) := xvc BK536.out; have hfz19_0 := blk_frozen BK536.out 0; have hfz19_1 := blk_frozen BK536.out 1; have hcz20_0 : w17.cell? ⟨gb537, 0, none⟩ = some (.int .i64 a1_0) := xvc BK537.out; have hcz20_1 : w17.cell? ⟨gb537, 1, none⟩ = some (.int .i64 a1_1) := xvc BK537.out; have hcz20_2 : w17.cell? ⟨gb537, 2, none⟩ = some (.int .i64 a1_2) := xvc BK537.out; have hcz20_3 : w17.cell? ⟨gb537, 3, none⟩ = some (.int .i64 a1_3) := xvc BK537.out; have hcz20_4 : w17.cell? ⟨gb537, 4, none⟩ = some (.int .i64 a1_4) := xvc BK537.out; have hcz20_5 : w17.cell? ⟨gb537, 5, none⟩ = some (.int .i64 a1_5) := xvc BK537.out; have hfz20_0 := blk_frozen BK537.out 0; have hfz20_1 := blk_frozen BK537.out 1; have hfz20_2 := blk_frozen BK537.out 2; have hfz20_3 := blk_frozen BK537.out 3; have hfz20_4 := blk_frozen BK537.out 4; have hfz20_5 := blk_frozen BK537.out 5) | ((with_reducible refine gate_callee (f := 67) rfl ?_); refine goesL_ (some 14) rfl rfl Try.func67 (by kernel_rfl) rfl #[.agg #[.int .i64 a0_0, .int .i64 a0_1], .agg #[.int .i64 a1_0, .int .i64 a1_1, .int .i64 a1_2, .int .i64 a1_3, .int .i64 a1_4, .int .i64 a1_5], .int .i64 a2] rfl wv1 ?_; (with_reducible refine (impl_StripCode.calls k a0_0 a0_1 a1_0 a1_1 a1_2 a1_3 a1_4 a1_5 a2 t538 false _ A4.out).mono ?_); rintro e w21 ⟨v539, rfl, ho0, hb⟩; refine ⟨_, rfl, ?_⟩; have n0_ := Aside0.mk (Kd.R_lower ho0 (below_size wv27)); have n1_ := Aside0.mk (xvl BK536.out hb); have n2_ := Aside0.mk (xvl BK537.out hb); have n3_ := Aside0.mk (below_step wv27 hb); clear BK536; clear BK537; clear HB; have HO540 := n0_; have BK536 := n1_; have BK537 := n2_; have HB := n3_; clear n0_ n1_ n2_ n3_; (try clear hb); (try clear hb2); (try clear hk); (try clear hi); (try clear ho0)))
  go_ret2
  exact ⟨wv3, wv27⟩

end Go.Proofs.Ytpfoeologjacfaa.V
