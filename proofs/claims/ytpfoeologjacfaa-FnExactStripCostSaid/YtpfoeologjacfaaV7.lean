-- Written by a program of this session (wip/tools) over the kit's print.
-- COMPACT
import Derived.Test.YtpfoeologjacfaaV0
import Derived.Test.YtpfoeologjacfaaV1
import Derived.Test.YtpfoeologjacfaaV6
namespace Go.Proofs.Ytpfoeologjacfaa.V
open Go.RowKit Go.Proofs.YtpfoeologjacfaaW.PrintWords Go.Proofs.YtpfoeologjacfaaW.PrintLast Go.Proofs.YtpfoeologjacfaaW.PrintMore
attribute [local go_sem] max2_int min2_int max_two min_two max_three min_three max_four min_four   -- for this text's walks alone
set_option linter.unusedVariables false
set_option linter.unusedSimpArgs false

/-! ### spec_StripCode: function 66 -/
def spec_StripCode.j0 : Nat → Int → Bool → Int → Int → Int → Int → Int → Int → Int → Int → Option ((List (S142)) × Bool)
 | 0, _, _, _, _, _, _, _, _, _, _ => none
 | k + 1, x2, x15, x249000, x249001, x250000, x250001, x250002, x250003, x250004, x250005 => if x15 = true then (some (([] : List (S142)), false)) else ((spec_l09Code.f k x249000 x249001 x250000 x250001 x250002 x250003 x250004 x250005 x2).bind fun bt252 => (if bt252.2 = true then (some (bt252.1, true)) else (some (([] : List (S142)), false))))
def spec_StripCode.f (k : Nat) (a0_0 : Int) (a0_1 : Int) (a1_0 : Int) (a1_1 : Int) (a1_2 : Int) (a1_3 : Int) (a1_4 : Int) (a1_5 : Int) (a2 : Int) : Option ((List (S142)) × Bool) := (spec_l05Machine.f a0_0 a0_1).bind fun t250 => (if t250 = true then ((spec_l09Is.f k a1_0 a1_1 a1_2 a1_3 a1_4 a1_5).bind fun t251 => (spec_StripCode.j0 k a2 (!t251) a0_0 a0_1 a1_0 a1_1 a1_2 a1_3 a1_4 a1_5)) else (spec_StripCode.j0 k a2 true a0_0 a0_1 a1_0 a1_1 a1_2 a1_3 a1_4 a1_5))
theorem spec_StripCode.mono_l : ∀ k, (∀ y0 y1 y2 y3 y4 y5 y6 y7 y8 y9, LeO (spec_StripCode.j0 k y0 y1 y2 y3 y4 y5 y6 y7 y8 y9) (spec_StripCode.j0 (k + 1) y0 y1 y2 y3 y4 y5 y6 y7 y8 y9))
 | 0 => fun _ _ _ _ _ _ _ _ _ _ r h => by simp [spec_StripCode.j0] at h
 | k + 1 => by
  have ih0 := spec_StripCode.mono_l k
  ·intro y0 y1 y2 y3 y4 y5 y6 y7 y8 y9
   unfold spec_StripCode.j0
   repeat' first
   | (with_reducible exact ih0 _ _ _ _ _ _ _ _ _ _)
   | (with_reducible exact spec_l09Code.mono _ _ _ _ _ _ _ _ _ _)
   | (with_reducible exact spec_l09Is.mono _ _ _ _ _ _ _)
   | (with_reducible exact LeO.refl _)
   | (with_reducible exact LeO.none _)
   | (with_reducible refine LeO.ite ?_ ?_)
   | (with_reducible refine LeO.bind ?_ (fun _ => ?_))
   | exact ih0 _ _ _ _ _ _ _ _ _ _
   | exact spec_l09Code.mono _ _ _ _ _ _ _ _ _ _
   | exact spec_l09Is.mono _ _ _ _ _ _ _
   | exact LeO.none _
   | refine LeO.ite ?_ ?_
   | refine LeO.bind ?_ (fun _ => ?_)
theorem spec_StripCode.mono : ∀ a0 a1 a2 a3 a4 a5 a6 a7 a8 k, LeO (spec_StripCode.f k a0 a1 a2 a3 a4 a5 a6 a7 a8) (spec_StripCode.f (k + 1) a0 a1 a2 a3 a4 a5 a6 a7 a8) := by
 intro a0 a1 a2 a3 a4 a5 a6 a7 a8 k
 have ih0 := spec_StripCode.mono_l k
 unfold spec_StripCode.f
 repeat' first
   | (with_reducible exact ih0 _ _ _ _ _ _ _ _ _ _)
   | (with_reducible exact spec_l09Code.mono _ _ _ _ _ _ _ _ _ _)
   | (with_reducible exact spec_l09Is.mono _ _ _ _ _ _ _)
   | (with_reducible exact LeO.refl _)
   | (with_reducible exact LeO.none _)
   | (with_reducible refine LeO.ite ?_ ?_)
   | (with_reducible refine LeO.bind ?_ (fun _ => ?_))
   | exact ih0 _ _ _ _ _ _ _ _ _ _
   | exact spec_l09Code.mono _ _ _ _ _ _ _ _ _ _
   | exact spec_l09Is.mono _ _ _ _ _ _ _
   | exact LeO.none _
   | refine LeO.ite ?_ ?_
   | refine LeO.bind ?_ (fun _ => ?_)
set_option maxHeartbeats 8000000 in
set_option maxRecDepth 100000 in
theorem spec_StripCode.calls (k : Nat) (a0_0 : Int) (a0_1 : Int) (a1_0 : Int) (a1_1 : Int) (a1_2 : Int) (a1_3 : Int) (a1_4 : Int) (a1_5 : Int) (a2 : Int) (r1 : List (S142)) (r2 : Bool) (w : World) (h : spec_StripCode.f k a0_0 a0_1 a1_0 a1_1 a1_2 a1_3 a1_4 a1_5 a2 = some (r1, r2)) :
  Calls Try.prog 66 #[.agg #[.int .i64 a0_0, .int .i64 a0_1], .agg #[.int .i64 a1_0, .int .i64 a1_1, .int .i64 a1_2, .int .i64 a1_3, .int .i64 a1_4, .int .i64 a1_5], .int .i64 a2] w fun e w' => ∃ v0_ : Value, e = .returned (.tuple #[v0_, .bool r2]) ∧ Kd.R k142 142 w' w.heap.size (fun _ => True) v0_ r1 ∧ Below w.heap.size w w' := by
 have hu31 := Try.underlying31
 have hu25 := Try.underlying25
 have HB := Aside0.mk (Below.refl w.heap.size w)
 have H : ((spec_l05Machine.f a0_0 a0_1).bind fun t250 => (if t250 = true then ((spec_l09Is.f k a1_0 a1_1 a1_2 a1_3 a1_4 a1_5).bind fun t251 => (spec_StripCode.j0 k a2 (!t251) a0_0 a0_1 a1_0 a1_1 a1_2 a1_3 a1_4 a1_5)) else (spec_StripCode.j0 k a2 true a0_0 a0_1 a1_0 a1_1 a1_2 a1_3 a1_4 a1_5))) = some (r1, r2) := h
 clear h
 have HC4 := Aside0.mk H
 clear H
 go_enter Try.func66, Try.ntmps66
 go_upto_region 1 with (first | ((with_reducible refine gate_dst (N := 3) rfl ?_); refine box_event ?hg (N := 3) ?hd (cs := #[.int .i64 a0_0, .int .i64 a0_1]) (t := 31) ?hr ?_; (case hd => rfl); (case hg => rfl); (case hr => first | (go_simp; done) | (go_simp; rfl)); intro gb248 hg w5 hbox hb; have n0_ := Aside0.mk (below_step (xvo HB.out) hb); have n1_ := Aside0.mk (hbox); have n2_ := Aside0.mk ((by rw [hg]; exact (below_size (xvo HB.out)) : w.heap.size ≤ gb248)); have n3_ := Aside0.mk ((by rw [hg]; exact (below_size (xvo HB.out)) : w.heap.size ≤ gb248)); clear HB; have HB := n0_; have BK248 := n1_; have GW248 := n2_; have GE248 := n3_; clear n0_ n1_ n2_ n3_; clear hb hbox hg) | ((with_reducible refine gate_dst (N := 4) rfl ?_); refine box_event ?hg (N := 4) ?hd (cs := #[.int .i64 a1_0, .int .i64 a1_1, .int .i64 a1_2, .int .i64 a1_3, .int .i64 a1_4, .int .i64 a1_5]) (t := 25) ?hr ?_; (case hd => rfl); (case hg => rfl); (case hr => first | (go_simp; done) | (go_simp; rfl)); intro gb249 hg w6 hbox hb; have n0_ := Aside0.mk (xvl BK248.out hb); have n1_ := Aside0.mk (below_step wv55 hb); have n2_ := Aside0.mk (hbox); have n3_ := Aside0.mk ((by rw [hg]; exact (below_size wv55) : w.heap.size ≤ gb249)); have n4_ := Aside0.mk ((by rw [hg]; exact (below_size wv55) : w.heap.size ≤ gb249)); have n5_ := Aside0.mk ((by rw [hg]; exact Nat.ne_of_lt (blk_lt (g := gb248) (o := .cells #[.int .i64 a0_0, .int .i64 a0_1] 31 (0, 0)) (xvb BK248.out)) : gb248 ≠ gb249)); have n6_ := Aside0.mk ((by rw [hg]; exact Nat.ne_of_gt (blk_lt (g := gb248) (o := .cells #[.int .i64 a0_0, .int .i64 a0_1] 31 (0, 0)) (xvb BK248.out)) : gb249 ≠ gb248)); clear BK248; clear HB; have BK248 := n0_; have HB := n1_; have BK249 := n2_; have GW249 := n3_; have GE249 := n4_; have NB248_249 := n5_; have NB249_248 := n6_; clear n0_ n1_ n2_ n3_ n4_ n5_ n6_; clear hb hbox hg))
 (try simp only [Act.put, List.setIfInBounds_toArray, List.set_cons_zero, List.set_cons_succ])
 go_cut [15] (fun v15 wc => ∃ (kq : Nat) (x15_3 : Bool) (x249000_3 : Int) (x249001_3 : Int) (x250000_3 : Int) (x250001_3 : Int) (x250002_3 : Int) (x250003_3 : Int) (x250004_3 : Int) (x250005_3 : Int), v15 = .bool x15_3 ∧ Aside0 (spec_StripCode.j0 kq a2 x15_3 x249000_3 x249001_3 x250000_3 x250001_3 x250002_3 x250003_3 x250004_3 x250005_3 = some (r1, r2)) ∧ Aside0 (kq ≤ k) ∧ Aside0 (wc.heap[gb248]? = some (.cells #[.int .i64 x249000_3, .int .i64 x249001_3] 31 (0, 0))) ∧ Aside0 (wc.heap[gb249]? = some (.cells #[.int .i64 x250000_3, .int .i64 x250001_3, .int .i64 x250002_3, .int .i64 x250003_3, .int .i64 x250004_3, .int .i64 x250005_3] 25 (0, 0))) ∧ Aside0 (Below w.heap.size w wc))
 case first =>
  have H := HC4.out
  clear HC4
  replace H := Option.bind_eq_some_iff.mp H
  obtain ⟨t250, A70, H⟩ := H
  replace H : (if t250 = true then ((spec_l09Is.f k a1_0 a1_1 a1_2 a1_3 a1_4 a1_5).bind fun t251 => (spec_StripCode.j0 k a2 (!t251) a0_0 a0_1 a1_0 a1_1 a1_2 a1_3 a1_4 a1_5)) else (spec_StripCode.j0 k a2 true a0_0 a0_1 a1_0 a1_1 a1_2 a1_3 a1_4 a1_5)) = some (r1, r2) := H
  have A7 := Aside0.mk A70
  clear A70
  by_cases c8 : t250 = true
  ·subst c8
   have H1 : ((spec_l09Is.f k a1_0 a1_1 a1_2 a1_3 a1_4 a1_5).bind fun t251 => (spec_StripCode.j0 k a2 (!t251) a0_0 a0_1 a1_0 a1_1 a1_2 a1_3 a1_4 a1_5)) = some (r1, r2) := by rw [if_pos rfl] at H; exact H
   clear H
   have H := H1
   clear H1
   replace H := Option.bind_eq_some_iff.mp H
   obtain ⟨t251, A90, H⟩ := H
   replace H : (spec_StripCode.j0 k a2 (!t251) a0_0 a0_1 a1_0 a1_1 a1_2 a1_3 a1_4 a1_5) = some (r1, r2) := H
   have A9 := Aside0.mk A90
   clear A90
   have H' := Aside0.mk H
   clear H
   go_wp2_with (first | ((with_reducible refine gate_callee (f := 83) rfl ?_); refine goesL_ (some 10) rfl rfl Try.func83 (by kernel_rfl) rfl #[.pointer (some ⟨gb248, 0, none⟩)] rfl wv1 ?_; (with_reducible refine (spec_l05Machine.calls gb248 a0_0 a0_1 true _ ?side1 A7.out).mono ?_); (case side1 => (with_reducible repeat (first | refine blk_drewN ?_ _ | refine blk_drew ?_ | refine blk_alloc ?_ _)); exact BK248.out); rintro e w' ⟨rfl, ⟨nd, rfl⟩⟩; refine ⟨_, rfl, ?_⟩) | (go_at_call 79; (with_reducible refine (spec_l09Is.calls k gb249 a1_0 a1_1 a1_2 a1_3 a1_4 a1_5 t251 _ ?side1 A9.out).mono ?_); (case side1 => (with_reducible repeat (first | refine blk_drewN ?_ _ | refine blk_drew ?_ | refine blk_alloc ?_ _)); exact BK249.out); rintro e w' ⟨rfl, ⟨nd, rfl⟩⟩))
   go_meet
   case rel => exact ⟨_, (!t251), (a0_0), (a0_1), (a1_0), (a1_1), (a1_2), (a1_3), (a1_4), (a1_5), wv6, H', ⟨wv33⟩, ⟨(xvb BK248.out)⟩, ⟨(xvb BK249.out)⟩, ⟨wv23⟩⟩
  ·replace c8 := Bool.eq_false_iff.mpr c8
   subst c8
   have H1 : (spec_StripCode.j0 k a2 true a0_0 a0_1 a1_0 a1_1 a1_2 a1_3 a1_4 a1_5) = some (r1, r2) := by rw [if_neg (show ¬ (false = true) by decide)] at H; exact H
   clear H
   have H := H1
   clear H1
   have H' := Aside0.mk H
   clear H
   go_wp2_with (first | ((with_reducible refine gate_callee (f := 83) rfl ?_); refine goesL_ (some 10) rfl rfl Try.func83 (by kernel_rfl) rfl #[.pointer (some ⟨gb248, 0, none⟩)] rfl wv1 ?_; (with_reducible refine (spec_l05Machine.calls gb248 a0_0 a0_1 false _ ?side1 A7.out).mono ?_); (case side1 => (with_reducible repeat (first | refine blk_drewN ?_ _ | refine blk_drew ?_ | refine blk_alloc ?_ _)); exact BK248.out); rintro e w' ⟨rfl, ⟨nd, rfl⟩⟩; refine ⟨_, rfl, ?_⟩))
   go_meet
   case rel => exact ⟨_, (true), (a0_0), (a0_1), (a1_0), (a1_1), (a1_2), (a1_3), (a1_4), (a1_5), wv6, H', ⟨wv33⟩, ⟨(xvb BK248.out)⟩, ⟨(xvb BK249.out)⟩, ⟨wv23⟩⟩
 case rest =>
  clear HC4
  try clear p2
  try clear c6
  try clear c8
  obtain ⟨kq, x15_3, x249000_3, x249001_3, x250000_3, x250001_3, x250002_3, x250003_3, x250004_3, x250005_3, rfl, HA, HJ3, BK248, BK249, HB⟩ := hcut
  cases kq with
  | zero => exact absurd HA.out (by simp [spec_StripCode.j0])
  | succ kj3 =>
   have H := HA.out
   clear HA
   simp only [spec_StripCode.j0] at H
   by_cases c10 : x15_3 = true
   ·subst c10
    have H1 : (some (([] : List (S142)), false)) = some (r1, r2) := by rw [if_pos rfl] at H; exact H
    clear H
    have H := H1
    clear H1
    simp only [Option.some.injEq, Prod.mk.injEq] at H
    obtain ⟨rfl, rfl⟩ := H
    go_wp2
    go_ret2
    exact ⟨_, wv3, wv29, wv23⟩
   ·replace c10 := Bool.eq_false_iff.mpr c10
    subst c10
    have H1 : ((spec_l09Code.f kj3 x249000_3 x249001_3 x250000_3 x250001_3 x250002_3 x250003_3 x250004_3 x250005_3 a2).bind fun bt252 => (if bt252.2 = true then (some (bt252.1, true)) else (some (([] : List (S142)), false)))) = some (r1, r2) := by rw [if_neg (show ¬ (false = true) by decide)] at H; exact H
    clear H
    have H := H1
    clear H1
    replace H := Option.bind_eq_some_iff.mp H
    obtain ⟨⟨t252, t255⟩, A110, H⟩ := H
    replace H : (if t255 = true then (some (t252, true)) else (some (([] : List (S142)), false))) = some (r1, r2) := H
    have A11 := Aside0.mk A110
    clear A110
    by_cases c12 : t255 = true
    ·subst c12
     have H1 : (some (t252, true)) = some (r1, r2) := by rw [if_pos rfl] at H; exact H
     clear H
     have H := H1
     clear H1
     simp only [Option.some.injEq, Prod.mk.injEq] at H
     obtain ⟨rfl, rfl⟩ := H
     go_wp2_with (first | ((with_reducible refine gate_callee (f := 131) rfl ?_); refine goesL_ (some 18) rfl rfl Try.func131 (by kernel_rfl) rfl #[.pointer (some ⟨gb248, 0, none⟩), .pointer (some ⟨gb249, 0, none⟩), .int .i64 a2] rfl wv1 ?_; (with_reducible refine (spec_l09Code.calls kj3 gb248 x249000_3 x249001_3 gb249 x250000_3 x250001_3 x250002_3 x250003_3 x250004_3 x250005_3 a2 t252 true _ ?side1 ?side2 ?side3 ?side4 A11.out).mono ?_); (case side1 => (with_reducible repeat (first | refine blk_drewN ?_ _ | refine blk_drew ?_ | refine blk_alloc ?_ _)); exact BK248.out); (case side2 => (with_reducible repeat (first | refine blk_drewN ?_ _ | refine blk_drew ?_ | refine blk_alloc ?_ _)); exact BK249.out); (case side3 => exact NB248_249.out); (case side4 => exact NB249_248.out); rintro e w13 ⟨v253, rfl, ho0, hb⟩; refine ⟨_, rfl, ?_⟩; have n0_ := Aside0.mk (Kd.R_lower ho0 (below_size wv23)); have n1_ := Aside0.mk (xvl BK248.out hb); have n2_ := Aside0.mk (xvl BK249.out hb); have n3_ := Aside0.mk (below_step wv23 hb); clear BK248; clear BK249; clear HB; have HO254 := n0_; have BK248 := n1_; have BK249 := n2_; have HB := n3_; clear n0_ n1_ n2_ n3_; (try clear hb); (try clear hb2); (try clear hk); (try clear hi); (try clear ho0)))
     go_ret2
     exact ⟨_, wv3, (xvr HO254.out), wv23⟩
    ·replace c12 := Bool.eq_false_iff.mpr c12
     subst c12
     have H1 : (some (([] : List (S142)), false)) = some (r1, r2) := by rw [if_neg (show ¬ (false = true) by decide)] at H; exact H
     clear H
     have H := H1
     clear H1
     simp only [Option.some.injEq, Prod.mk.injEq] at H
     obtain ⟨rfl, rfl⟩ := H
     go_wp2_with (first | ((with_reducible refine gate_callee (f := 131) rfl ?_); refine goesL_ (some 18) rfl rfl Try.func131 (by kernel_rfl) rfl #[.pointer (some ⟨gb248, 0, none⟩), .pointer (some ⟨gb249, 0, none⟩), .int .i64 a2] rfl wv1 ?_; (with_reducible refine (spec_l09Code.calls kj3 gb248 x249000_3 x249001_3 gb249 x250000_3 x250001_3 x250002_3 x250003_3 x250004_3 x250005_3 a2 t252 false _ ?side1 ?side2 ?side3 ?side4 A11.out).mono ?_); (case side1 => (with_reducible repeat (first | refine blk_drewN ?_ _ | refine blk_drew ?_ | refine blk_alloc ?_ _)); exact BK248.out); (case side2 => (with_reducible repeat (first | refine blk_drewN ?_ _ | refine blk_drew ?_ | refine blk_alloc ?_ _)); exact BK249.out); (case side3 => exact NB248_249.out); (case side4 => exact NB249_248.out); rintro e w14 ⟨v253, rfl, ho0, hb⟩; refine ⟨_, rfl, ?_⟩; have n0_ := Aside0.mk (Kd.R_lower ho0 (below_size wv23)); have n1_ := Aside0.mk (xvl BK248.out hb); have n2_ := Aside0.mk (xvl BK249.out hb); have n3_ := Aside0.mk (below_step wv23 hb); clear BK248; clear BK249; clear HB; have HO254 := n0_; have BK248 := n1_; have BK249 := n2_; have HB := n3_; clear n0_ n1_ n2_ n3_; (try clear hb); (try clear hb2); (try clear hk); (try clear hi); (try clear ho0)))
     go_ret2
     exact ⟨_, wv3, wv29, wv23⟩

/-- What an instruction costs, of the kinds that strips are made of. -/
def costO (n : Int) (x : S142) : Option Int :=
 if x.f0 = 0 ∨ x.f0 = 1 then some (if x.f3 > 1 then n else 1) else if x.f0 = 10 then some n else if x.f0 = 4 then some (if x.f5 = 2 then 3 else 1)
 else if x.f0 = 5 ∨ x.f0 = 8 ∨ x.f0 = 9 then some 1 else none
def costsO (n : Int) : List S142 → Int → Option Int
 | [], s => some s
 | x :: l, s => (costO n x).bind fun c => costsO n l (wrap64 (s + c))
theorem costsO_drop (n : Int) (l : List S142) (k : Nat) (h : k < l.length) (s : Int) : costsO n (l.drop k) s = (costO n l[k]).bind fun c => costsO n (l.drop (k + 1)) (wrap64 (s + c)) := by
 rw [List.drop_eq_getElem_cons h]; rfl
set_option maxHeartbeats 4000000 in
set_option maxRecDepth 100000 in
theorem l05Cost_at (B : Nat) (n b : Int) (p : Addr) (x : S142) (r : Int) (w : World) (hb : w.heap[B]? = some (.cells #[.int .i64 n, .int .i64 b] 31 (0, 0)))
  (h0 : w.cell? p = some (.int .i64 x.f0)) (h3 : w.cell? ⟨p.block, p.off + 3, none⟩ = some (.int .i64 x.f3)) (h5 : w.cell? ⟨p.block, p.off + 5, none⟩ = some (.int .i64 x.f5)) (h : costO n x = some r) :
  Calls Try.prog 190 #[.pointer (some ⟨B, 0, none⟩), .pointer (some p)] w fun e w' => e = .returned (.int .i64 r) ∧ Drawn0 w w' := by
 have hu := Try.underlying142
 have hu2 := Try.underlying31
 have hn : w.cell? ⟨B, 0, none⟩ = some (.int .i64 n) := (blk_cell hb 0).trans rfl
 obtain ⟨f0, f1, f2, f3, f4, f5, f6⟩ := x
 unfold costO at h
 simp only at h h0 h3 h5
 clear hb
 by_cases c0 : f0 = 0
 ·subst c0
  obtain rfl := Option.some.inj h
  by_cases c3 : f3 > 1
  ·rw [if_pos c3]
   clear h
   go_enter Try.func190, Try.ntmps190
   go_wp2
   go_ret
   exact ⟨rfl, wv34⟩
  ·rw [if_neg c3]
   clear h
   go_enter Try.func190, Try.ntmps190
   go_wp2
   go_ret
   exact ⟨rfl, wv34⟩
 by_cases c1 : f0 = 1
 ·subst c1
  obtain rfl := Option.some.inj h
  by_cases c3 : f3 > 1
  ·rw [if_pos c3]
   clear h
   go_enter Try.func190, Try.ntmps190
   go_wp2
   go_ret
   exact ⟨rfl, wv34⟩
  ·rw [if_neg c3]
   clear h
   go_enter Try.func190, Try.ntmps190
   go_wp2
   go_ret
   exact ⟨rfl, wv34⟩
 rw [if_neg (by omega)] at h
 by_cases c10 : f0 = 10
 ·subst c10
  obtain rfl := Option.some.inj h
  clear h
  go_enter Try.func190, Try.ntmps190
  go_wp2
  go_ret
  exact ⟨rfl, wv34⟩
 rw [if_neg c10] at h
 by_cases c4 : f0 = 4
 ·subst c4
  obtain rfl := Option.some.inj h
  by_cases c5 : f5 = 2
  ·subst c5
   clear h
   go_enter Try.func190, Try.ntmps190
   go_wp2
   go_ret
   exact ⟨rfl, wv34⟩
  ·rw [if_neg c5]
   have c5b : (f5 == 2) = false := by simpa using c5
   clear h
   go_enter Try.func190, Try.ntmps190
   go_wp2
   go_ret
   exact ⟨rfl, wv34⟩
 rw [if_neg c4] at h
 by_cases c5 : f0 = 5
 ·subst c5
  obtain rfl := Option.some.inj h
  clear h
  go_enter Try.func190, Try.ntmps190
  go_wp2
  go_ret
  exact ⟨rfl, wv34⟩
 by_cases c8 : f0 = 8
 ·subst c8
  obtain rfl := Option.some.inj h
  clear h
  go_enter Try.func190, Try.ntmps190
  go_wp2
  go_ret
  exact ⟨rfl, wv34⟩
 by_cases c9 : f0 = 9
 ·subst c9
  obtain rfl := Option.some.inj h
  clear h
  go_enter Try.func190, Try.ntmps190
  go_wp2
  go_ret
  exact ⟨rfl, wv34⟩
 rw [if_neg (by omega)] at h
 cases h

def spec_l05Costs.f (a0_0 a0_1 : Int) (l1 : List S142) : Option Int := costsO a0_0 l1 0
set_option maxHeartbeats 4000000 in
set_option maxRecDepth 100000 in
theorem spec_l05Costs.calls (B0 : Nat) (a0_0 a0_1 : Int) (A1 : Option Addr) (c1 : Nat) (l1 : List S142) (r : Int) (w : World) (hb0 : w.heap[B0]? = some (.cells #[.int .i64 a0_0, .int .i64 a0_1] 31 (0, 0)))
  (hr1 : Kd.C k142 w A1 l1.length l1) (hc1 : l1.length ≤ c1) (h : spec_l05Costs.f a0_0 a0_1 l1 = some r) :
  Calls Try.prog 135 #[.pointer (some ⟨B0, 0, none⟩), .slice A1 l1.length c1] w fun e w' => e = .returned (.int .i64 r) ∧ Drawn0 w w' := by
 have hm := hr1.2.1
 have HR := Aside0.mk hr1
 have HB := Aside0.mk hb0
 have HF : Aside0 (costsO a0_0 l1 0 = some r) := ⟨h⟩
 clear hr1 hb0 h hc1
 go_enter Try.func135, Try.ntmps135
 go_wp2
 go_loopg [5, 6] l1.length (fun gg s5 s6 wr => ∃ (kk : Nat) (s : Int), kk ≤ l1.length ∧ l1.length - kk ≤ gg ∧ s5 = .int .i64 s ∧ s6 = .int .i64 kk ∧ Drawn0 w wr ∧ Aside0 (costsO a0_0 (l1.drop kk) s = some r))
 case atStart => exact ⟨0, 0, Nat.zero_le _, (by omega), rfl, rfl, wv14, HF⟩
 case round =>
  clear HF
  obtain ⟨kk, s, hkk, hg, rfl, rfl, ⟨m1, rfl⟩, FA⟩ := hrel
  by_cases hlt : kk < l1.length
  ·have hltz : (kk : Int) < (l1.length : Int) := by omega
   obtain ⟨ad, rfl, q0, q1, q2, q3, q4, q5, q6⟩ := at_T142 HR.out (kk : Int) (by omega) hltz
   simp only [Int.toNat_natCast] at q0 q3 q5
   have hx : rd_T142 l1 (kk : Int) = l1[kk] := by simp [rd_T142, List.getD_eq_getElem?_getD, hlt]
   rw [hx] at q0 q3 q5
   have hfd := FA.out
   rw [costsO_drop a0_0 l1 kk hlt, Option.bind_eq_some_iff] at hfd
   obtain ⟨c, hc, hfd⟩ := hfd
   have hcall := fun (m : Nat) => l05Cost_at B0 a0_0 a0_1 (ad.add (kk * 7)) l1[kk] c (w.drewN m) HB.out q0 q3 q5 hc
   have HFD := Aside0.mk hfd
   clear hfd hc hx q0 q1 q2 q3 q4 q5 q6 FA
   go_wp2_with (go_at_call 190; refine (hcall _).mono ?_; rintro e w' ⟨rfl, ⟨nd, rfl⟩⟩)
   go_roundg (l1.length - (kk + 1))
   case measure => omega
   case rel => exact ⟨kk + 1, _, (by omega), (by omega), rfl, (by go_num), wv34, ⟨HFD.out⟩⟩
  ·have hltz : ¬ (kk : Int) < (l1.length : Int) := by omega
   have : kk = l1.length := by omega
   subst this
   go_wp2
   go_ret
   have hx := FA.out
   rw [List.drop_length] at hx
   obtain rfl := Option.some.inj hx
   exact ⟨rfl, wv34⟩

/-! ### spec_StripCost: function 71 -/
def spec_StripCost.f (k : Nat) (a0_0 : Int) (a0_1 : Int) (a1_0 : Int) (a1_1 : Int) (a1_2 : Int) (a1_3 : Int) (a1_4 : Int) (a1_5 : Int) (a2 : Int) : Option (Int × Bool) := (spec_StripCode.f k a0_0 a0_1 a1_0 a1_1 a1_2 a1_3 a1_4 a1_5 a2).bind fun bt258 => (if bt258.2 = true then ((spec_l05Costs.f a0_0 a0_1 bt258.1).bind fun t262 => (some (t262, true))) else (some (0, false)))
theorem spec_StripCost.mono : ∀ a0 a1 a2 a3 a4 a5 a6 a7 a8 k, LeO (spec_StripCost.f k a0 a1 a2 a3 a4 a5 a6 a7 a8) (spec_StripCost.f (k + 1) a0 a1 a2 a3 a4 a5 a6 a7 a8) := by
 intro a0 a1 a2 a3 a4 a5 a6 a7 a8 k
 unfold spec_StripCost.f
 repeat' first
   | (with_reducible exact spec_StripCode.mono _ _ _ _ _ _ _ _ _ _)
   | (with_reducible exact LeO.refl _)
   | (with_reducible exact LeO.none _)
   | (with_reducible refine LeO.ite ?_ ?_)
   | (with_reducible refine LeO.bind ?_ (fun _ => ?_))
   | exact spec_StripCode.mono _ _ _ _ _ _ _ _ _ _
   | exact LeO.none _
   | refine LeO.ite ?_ ?_
   | refine LeO.bind ?_ (fun _ => ?_)
set_option maxHeartbeats 8000000 in
set_option maxRecDepth 100000 in
theorem spec_StripCost.calls (k : Nat) (a0_0 : Int) (a0_1 : Int) (a1_0 : Int) (a1_1 : Int) (a1_2 : Int) (a1_3 : Int) (a1_4 : Int) (a1_5 : Int) (a2 : Int) (r1 : Int) (r2 : Bool) (w : World) (h : spec_StripCost.f k a0_0 a0_1 a1_0 a1_1 a1_2 a1_3 a1_4 a1_5 a2 = some (r1, r2)) :
  Calls Try.prog 71 #[.agg #[.int .i64 a0_0, .int .i64 a0_1], .agg #[.int .i64 a1_0, .int .i64 a1_1, .int .i64 a1_2, .int .i64 a1_3, .int .i64 a1_4, .int .i64 a1_5], .int .i64 a2] w fun e w' => e = .returned (.tuple #[.int .i64 r1, .bool r2]) ∧ Below w.heap.size w w' := by
 have hu31 := Try.underlying31
 have hu25 := Try.underlying25
 have HB := Aside0.mk (Below.refl w.heap.size w)
 have H : ((spec_StripCode.f k a0_0 a0_1 a1_0 a1_1 a1_2 a1_3 a1_4 a1_5 a2).bind fun bt258 => (if bt258.2 = true then ((spec_l05Costs.f a0_0 a0_1 bt258.1).bind fun t262 => (some (t262, true))) else (some (0, false)))) = some (r1, r2) := h
 clear h
 replace H := Option.bind_eq_some_iff.mp H
 obtain ⟨⟨t258, t261⟩, A40, H⟩ := H
 replace H : (if t261 = true then ((spec_l05Costs.f a0_0 a0_1 t258).bind fun t262 => (some (t262, true))) else (some (0, false))) = some (r1, r2) := H
 have A4 := Aside0.mk A40
 clear A40
 by_cases c5 : t261 = true
 ·subst c5
  have H1 : ((spec_l05Costs.f a0_0 a0_1 t258).bind fun t262 => (some (t262, true))) = some (r1, r2) := by rw [if_pos rfl] at H; exact H
  clear H
  have H := H1
  clear H1
  replace H := Option.bind_eq_some_iff.mp H
  obtain ⟨t262, A60, H⟩ := H
  replace H : (some (t262, true)) = some (r1, r2) := H
  have A6 := Aside0.mk A60
  clear A60
  simp only [Option.some.injEq, Prod.mk.injEq] at H
  obtain ⟨rfl, rfl⟩ := H
  go_enter Try.func71, Try.ntmps71
  go_wp2_with (first | ((with_reducible refine gate_dst (N := 3) rfl ?_); refine box_event ?hg (N := 3) ?hd (cs := #[.int .i64 a0_0, .int .i64 a0_1]) (t := 31) ?hr ?_; (case hd => rfl); (case hg => rfl); (case hr => first | (go_simp; done) | (go_simp; rfl)); intro gb256 hg w7 hbox hb; have n0_ := Aside0.mk (below_step (xvo HB.out) hb); have n1_ := Aside0.mk (hbox); have n2_ := Aside0.mk ((by rw [hg]; exact (below_size (xvo HB.out)) : w.heap.size ≤ gb256)); have n3_ := Aside0.mk ((by rw [hg]; exact (below_size (xvo HB.out)) : w.heap.size ≤ gb256)); clear HB; have HB := n0_; have BK256 := n1_; have GW256 := n2_; have GE256 := n3_; clear n0_ n1_ n2_ n3_; clear hb hbox hg) | ((with_reducible refine gate_dst (N := 4) rfl ?_); refine box_event ?hg (N := 4) ?hd (cs := #[.int .i64 a1_0, .int .i64 a1_1, .int .i64 a1_2, .int .i64 a1_3, .int .i64 a1_4, .int .i64 a1_5]) (t := 25) ?hr ?_; (case hd => rfl); (case hg => rfl); (case hr => first | (go_simp; done) | (go_simp; rfl)); intro gb257 hg w8 hbox hb; have n0_ := Aside0.mk (xvl BK256.out hb); have n1_ := Aside0.mk (below_step wv37 hb); have n2_ := Aside0.mk (hbox); have n3_ := Aside0.mk ((by rw [hg]; exact (below_size wv37) : w.heap.size ≤ gb257)); have n4_ := Aside0.mk ((by rw [hg]; exact (below_size wv37) : w.heap.size ≤ gb257)); have n5_ := Aside0.mk ((by rw [hg]; exact Nat.ne_of_lt (blk_lt (g := gb256) (o := .cells #[.int .i64 a0_0, .int .i64 a0_1] 31 (0, 0)) (xvb BK256.out)) : gb256 ≠ gb257)); have n6_ := Aside0.mk ((by rw [hg]; exact Nat.ne_of_gt (blk_lt (g := gb256) (o := .cells #[.int .i64 a0_0, .int .i64 a0_1] 31 (0, 0)) (xvb BK256.out)) : gb257 ≠ gb256)); clear BK256; clear HB; have BK256 := n0_; have HB := n1_; have BK257 := n2_; have GW257 := n3_; have GE257 := n4_; have NB256_257 := n5_; have NB257_256 := n6_; clear n0_ n1_ n2_ n3_ n4_ n5_ n6_; clear hb hbox hg; have hnb9 := NB256_257.out; have hnc9 := NB257_256.out; have hcz10_0 : w8.cell? ⟨gb256, 0, none⟩ = some (.int .i64 a0_0) := xvc BK256.out; have hcz10_1 : w8.cell? ⟨gb256, 1, none⟩ = some (.int .i64 a0_1) := xvc BK256.out; have hfz10_0 := blk_frozen BK256.out 0; have hfz10_1 := blk_frozen BK256.out 1; have hcz11_0 : w8.cell? ⟨gb257, 0, none⟩ = some (.int .i64 a1_0) := xvc BK257.out; have hcz11_1 : w8.cell? ⟨gb257, 1, none⟩ = some (.int .i64 a1_1) := xvc BK257.out; have hcz11_2 : w8.cell? ⟨gb257, 2, none⟩ = some (.int .i64 a1_2) := xvc BK257.out; have hcz11_3 : w8.cell? ⟨gb257, 3, none⟩ = some (.int .i64 a1_3) := xvc BK257.out; have hcz11_4 : w8.cell? ⟨gb257, 4, none⟩ = some (.int .i64 a1_4) := xvc BK257.out; have hcz11_5 : w8.cell? ⟨gb257, 5, none⟩ = some (.int .i64 a1_5) := xvc BK257.out; have hfz11_0 := blk_frozen BK257.out 0; have hfz11_1 := blk_frozen BK257.out 1; have hfz11_2 := blk_frozen BK257.out 2; have hfz11_3 := blk_frozen BK257.out 3; have hfz11_4 := blk_frozen BK257.out 4; have hfz11_5 := blk_frozen BK257.out 5) | ((with_reducible refine gate_callee (f := 66) rfl ?_); refine goesL_ (some 14) rfl rfl Try.func66 (by kernel_rfl) rfl #[.agg #[.int .i64 a0_0, .int .i64 a0_1], .agg #[.int .i64 a1_0, .int .i64 a1_1, .int .i64 a1_2, .int .i64 a1_3, .int .i64 a1_4, .int .i64 a1_5], .int .i64 a2] rfl wv1 ?_; (with_reducible refine (spec_StripCode.calls k a0_0 a0_1 a1_0 a1_1 a1_2 a1_3 a1_4 a1_5 a2 t258 true _ A4.out).mono ?_); rintro e w12 ⟨v259, rfl, ho0, hb⟩; refine ⟨_, rfl, ?_⟩; have n0_ := Aside0.mk (Kd.R_lower ho0 (below_size wv32)); have n1_ := Aside0.mk (xvl BK256.out hb); have n2_ := Aside0.mk (xvl BK257.out hb); have n3_ := Aside0.mk (below_step wv32 hb); clear BK256; clear BK257; clear HB; have HO260 := n0_; have BK256 := n1_; have BK257 := n2_; have HB := n3_; clear n0_ n1_ n2_ n3_; (try clear hb); (try clear hb2); (try clear hk); (try clear hi); (try clear ho0); obtain ⟨Ao13, co13, eo13⟩ := Kd.R_slice HO260.out; subst eo13) | ((with_reducible refine gate_callee (f := 135) rfl ?_); refine goesL_ (some 20) rfl rfl Try.func135 (by kernel_rfl) rfl #[.pointer (some ⟨gb256, 0, none⟩), .slice Ao13 t258.length co13] rfl wv1 ?_; (with_reducible refine (spec_l05Costs.calls gb256 a0_0 a0_1 _ _ t258 t262 _ ?side1 ?side2 ?side3 A6.out).mono ?_); (case side1 => (with_reducible repeat (first | refine blk_drewN ?_ _ | refine blk_drew ?_ | refine blk_alloc ?_ _)); exact BK256.out); (case side2 => repeat (first | exact (Kd.R_reads' HO260.out).2.2 | (with_reducible refine Kd.C_alloc ?_ _) | (with_reducible refine Kd.C_drewN ?_ _) | (with_reducible refine Kd.C_drew ?_))); (case side3 => exact (Kd.R_reads' HO260.out).2.1); rintro e w' ⟨rfl, ⟨nd, rfl⟩⟩; refine ⟨_, rfl, ?_⟩))
  go_ret2
  exact ⟨wv3, wv32⟩
 ·replace c5 := Bool.eq_false_iff.mpr c5
  subst c5
  have H1 : (some (0, false)) = some (r1, r2) := by rw [if_neg (show ¬ (false = true) by decide)] at H; exact H
  clear H
  have H := H1
  clear H1
  simp only [Option.some.injEq, Prod.mk.injEq] at H
  obtain ⟨rfl, rfl⟩ := H
  go_enter Try.func71, Try.ntmps71
  go_wp2_with (first | ((with_reducible refine gate_dst (N := 3) rfl ?_); refine box_event ?hg (N := 3) ?hd (cs := #[.int .i64 a0_0, .int .i64 a0_1]) (t := 31) ?hr ?_; (case hd => rfl); (case hg => rfl); (case hr => first | (go_simp; done) | (go_simp; rfl)); intro gb256 hg w14 hbox hb; have n0_ := Aside0.mk (below_step (xvo HB.out) hb); have n1_ := Aside0.mk (hbox); have n2_ := Aside0.mk ((by rw [hg]; exact (below_size (xvo HB.out)) : w.heap.size ≤ gb256)); have n3_ := Aside0.mk ((by rw [hg]; exact (below_size (xvo HB.out)) : w.heap.size ≤ gb256)); clear HB; have HB := n0_; have BK256 := n1_; have GW256 := n2_; have GE256 := n3_; clear n0_ n1_ n2_ n3_; clear hb hbox hg) | ((with_reducible refine gate_dst (N := 4) rfl ?_); refine box_event ?hg (N := 4) ?hd (cs := #[.int .i64 a1_0, .int .i64 a1_1, .int .i64 a1_2, .int .i64 a1_3, .int .i64 a1_4, .int .i64 a1_5]) (t := 25) ?hr ?_; (case hd => rfl); (case hg => rfl); (case hr => first | (go_simp; done) | (go_simp; rfl)); intro gb257 hg w15 hbox hb; have n0_ := Aside0.mk (xvl BK256.out hb); have n1_ := Aside0.mk (below_step wv37 hb); have n2_ := Aside0.mk (hbox); have n3_ := Aside0.mk ((by rw [hg]; exact (below_size wv37) : w.heap.size ≤ gb257)); have n4_ := Aside0.mk ((by rw [hg]; exact (below_size wv37) : w.heap.size ≤ gb257)); have n5_ := Aside0.mk ((by rw [hg]; exact Nat.ne_of_lt (blk_lt (g := gb256) (o := .cells #[.int .i64 a0_0, .int .i64 a0_1] 31 (0, 0)) (xvb BK256.out)) : gb256 ≠ gb257)); have n6_ := Aside0.mk ((by rw [hg]; exact Nat.ne_of_gt (blk_lt (g := gb256) (o := .cells #[.int .i64 a0_0, .int .i64 a0_1] 31 (0, 0)) (xvb BK256.out)) : gb257 ≠ gb256)); clear BK256; clear HB; have BK256 := n0_; have HB := n1_; have BK257 := n2_; have GW257 := n3_; have GE257 := n4_; have NB256_257 := n5_; have NB257_256 := n6_; clear n0_ n1_ n2_ n3_ n4_ n5_ n6_; clear hb hbox hg; have hnb16 := NB256_257.out; have hnc16 := NB257_256.out; have hcz17_0 : w15.cell? ⟨gb256, 0, none⟩ = some (.int .i64 a0_0) := xvc BK256.out; have hcz17_1 : w15.cell? ⟨gb256, 1, none⟩ = some (.int .i64 a0_1) := xvc BK256.out; have hfz17_0 := blk_frozen BK256.out 0; have hfz17_1 := blk_frozen BK256.out 1; have hcz18_0 : w15.cell? ⟨gb257, 0, none⟩ = some (.int .i64 a1_0) := xvc BK257.out; have hcz18_1 : w15.cell? ⟨gb257, 1, none⟩ = some (.int .i64 a1_1) := xvc BK257.out; have hcz18_2 : w15.cell? ⟨gb257, 2, none⟩ = some (.int .i64 a1_2) := xvc BK257.out; have hcz18_3 : w15.cell? ⟨gb257, 3, none⟩ = some (.int .i64 a1_3) := xvc BK257.out; have hcz18_4 : w15.cell? ⟨gb257, 4, none⟩ = some (.int .i64 a1_4) := xvc BK257.out; have hcz18_5 : w15.cell? ⟨gb257, 5, none⟩ = some (.int .i64 a1_5) := xvc BK257.out; have hfz18_0 := blk_frozen BK257.out 0; have hfz18_1 := blk_frozen BK257.out 1; have hfz18_2 := blk_frozen BK257.out 2; have hfz18_3 := blk_frozen BK257.out 3; have hfz18_4 := blk_frozen BK257.out 4; have hfz18_5 := blk_frozen BK257.out 5) | ((with_reducible refine gate_callee (f := 66) rfl ?_); refine goesL_ (some 14) rfl rfl Try.func66 (by kernel_rfl) rfl #[.agg #[.int .i64 a0_0, .int .i64 a0_1], .agg #[.int .i64 a1_0, .int .i64 a1_1, .int .i64 a1_2, .int .i64 a1_3, .int .i64 a1_4, .int .i64 a1_5], .int .i64 a2] rfl wv1 ?_; (with_reducible refine (spec_StripCode.calls k a0_0 a0_1 a1_0 a1_1 a1_2 a1_3 a1_4 a1_5 a2 t258 false _ A4.out).mono ?_); rintro e w19 ⟨v259, rfl, ho0, hb⟩; refine ⟨_, rfl, ?_⟩; have n0_ := Aside0.mk (Kd.R_lower ho0 (below_size wv32)); have n1_ := Aside0.mk (xvl BK256.out hb); have n2_ := Aside0.mk (xvl BK257.out hb); have n3_ := Aside0.mk (below_step wv32 hb); clear BK256; clear BK257; clear HB; have HO260 := n0_; have BK256 := n1_; have BK257 := n2_; have HB := n3_; clear n0_ n1_ n2_ n3_; (try clear hb); (try clear hb2); (try clear hk); (try clear hi); (try clear ho0)))
  go_ret2
  exact ⟨wv3, wv32⟩

def bitsB (a : Int) : Bool := a == 4 || (a == 8 || a == 16)
def lanesB (a : Int) : Bool := a == 2 || (a == 4 || (a == 8 || a == 16))
def inB (n low high : Int) : Bool := decide (low ≤ n) && decide (n ≤ high)
def wordB (bits x : Int) : Bool := bitsB bits && inB x 0 (2 ^ bits.toNat - 1)
theorem bits_cases {a : Int} (h : bitsB a = true) : a = 4 ∨ a = 8 ∨ a = 16 := by simpa [bitsB] using h
theorem lanes_cases {a : Int} (h : lanesB a = true) : a = 2 ∨ a = 4 ∨ a = 8 ∨ a = 16 := by simpa [lanesB] using h

def impl_within.f (a0 a1 a2 : Int) : Option Bool := some (inB a0 a1 a2)
theorem within_any (n l h : Int) (w : World) : Calls Try.prog 81 #[.int .i64 n, .int .i64 l, .int .i64 h] w fun e w' => e = .returned (.bool (inB n l h)) ∧ w = w' := by
 unfold inB
 by_cases h1 : l ≤ n
 ·have d1 : decide (l ≤ n) = true := by simpa using h1
  go_enter Try.func81, Try.ntmps81
  go_wp2
  go_ret
  exact ⟨(by simp [h1]), rfl⟩
 ·have d1 : decide (l ≤ n) = false := by simpa using h1
  go_enter Try.func81, Try.ntmps81
  go_wp2
  go_ret
  exact ⟨(by simp [h1]), rfl⟩
theorem impl_within.calls (a0 a1 a2 : Int) (r : Bool) (w : World) (h : impl_within.f a0 a1 a2 = some r) :
  Calls Try.prog 81 #[.int .i64 a0, .int .i64 a1, .int .i64 a2] w fun e w' => e = .returned (.bool r) ∧ Drawn0 w w' := by
 obtain rfl := Option.some.inj h
 exact (within_any a0 a1 a2 w).mono fun e w' ⟨he, hw⟩ => ⟨he, hw ▸ Drawn0.refl w⟩

/-! ### impl_isOp: function 80 -/
def impl_isOp.f (a0 : Int) : Option (Bool) := (impl_within.f a0 0 17).bind fun t263 => (some t263)
set_option maxHeartbeats 8000000 in
set_option maxRecDepth 100000 in
theorem impl_isOp.calls (a0 : Int) (r : Bool) (w : World) (h : impl_isOp.f a0 = some r) :
  Calls Try.prog 80 #[.int .i64 a0] w fun e w' => e = .returned (.bool r) ∧ Drawn0 w w' := by
 have H : ((impl_within.f a0 0 17).bind fun t263 => (some t263)) = some r := h
 clear h
 replace H := Option.bind_eq_some_iff.mp H
 obtain ⟨t263, A20, H⟩ := H
 replace H : (some t263) = some r := H
 have A2 := Aside0.mk A20
 clear A20
 obtain rfl := Option.some.inj H
 go_enter Try.func80, Try.ntmps80
 go_wp2_with (first | ((with_reducible refine gate_callee (f := 81) rfl ?_); refine goesL_ (some 4) rfl rfl Try.func81 (by kernel_rfl) rfl #[.int .i64 a0, .int .i64 0, .int .i64 17] rfl wv1 ?_; (with_reducible refine (impl_within.calls a0 0 17 t263 _ A2.out).mono ?_); rintro e w' ⟨rfl, ⟨nd, rfl⟩⟩; refine ⟨_, rfl, ?_⟩))
 go_ret
 exact ⟨wv6, wv14⟩

/-! ### impl_isSpan: function 82 -/
def impl_isSpan.f (a0 : Int) (a1 : Int) : Option (Bool) := (impl_within.f a0 0 63).bind fun t264 => (if t264 = true then (some (decide ((wrap64 (a0 + a1)) ≤ 64))) else (some false))
set_option maxHeartbeats 8000000 in
set_option maxRecDepth 100000 in
theorem impl_isSpan.calls (a0 : Int) (a1 : Int) (r : Bool) (w : World) (h : impl_isSpan.f a0 a1 = some r) :
  Calls Try.prog 82 #[.int .i64 a0, .int .i64 a1] w fun e w' => e = .returned (.bool r) ∧ Drawn0 w w' := by
 have H : ((impl_within.f a0 0 63).bind fun t264 => (if t264 = true then (some (decide ((wrap64 (a0 + a1)) ≤ 64))) else (some false))) = some r := h
 clear h
 replace H := Option.bind_eq_some_iff.mp H
 obtain ⟨t264, A30, H⟩ := H
 replace H : (if t264 = true then (some (decide ((wrap64 (a0 + a1)) ≤ 64))) else (some false)) = some r := H
 have A3 := Aside0.mk A30
 clear A30
 by_cases c4 : t264 = true
 ·subst c4
  have H1 : (some (decide ((wrap64 (a0 + a1)) ≤ 64))) = some r := by rw [if_pos rfl] at H; exact H
  clear H
  have H := H1
  clear H1
  obtain rfl := Option.some.inj H
  go_enter Try.func82, Try.ntmps82
  go_wp2_with (first | ((with_reducible refine gate_callee (f := 81) rfl ?_); refine goesL_ (some 6) rfl rfl Try.func81 (by kernel_rfl) rfl #[.int .i64 a0, .int .i64 0, .int .i64 63] rfl wv1 ?_; (with_reducible refine (impl_within.calls a0 0 63 true _ A3.out).mono ?_); rintro e w' ⟨rfl, ⟨nd, rfl⟩⟩; refine ⟨_, rfl, ?_⟩))
  go_ret
  exact ⟨wv6, wv14⟩
 ·replace c4 := Bool.eq_false_iff.mpr c4
  subst c4
  have H1 : (some false) = some r := by rw [if_neg (show ¬ (false = true) by decide)] at H; exact H
  clear H
  have H := H1
  clear H1
  obtain rfl := Option.some.inj H
  go_enter Try.func82, Try.ntmps82
  go_wp2_with (first | ((with_reducible refine gate_callee (f := 81) rfl ?_); refine goesL_ (some 6) rfl rfl Try.func81 (by kernel_rfl) rfl #[.int .i64 a0, .int .i64 0, .int .i64 63] rfl wv1 ?_; (with_reducible refine (impl_within.calls a0 0 63 false _ A3.out).mono ?_); rintro e w' ⟨rfl, ⟨nd, rfl⟩⟩; refine ⟨_, rfl, ?_⟩))
  go_ret
  exact ⟨wv6, wv14⟩

/-! ### impl_ValidLoop: function 21 -/
def impl_ValidLoop.j0 : Nat → Bool → Int → Int → Int → Int → Int → Int → Option (Bool)
 | 0, _, _, _, _, _, _, _ => none
 | k + 1, x20, x266000, x266001, x266002, x266003, x266004, x266005 => if x20 = true then (some false) else (if x266000 = 0 then ((impl_isSpan.f x266002 x266005).bind fun t269 => (if t269 = true then ((impl_isSpan.f x266004 x266005).bind fun t270 => (some t270)) else (some false))) else (if x266000 = 1 then ((impl_isSpan.f x266002 0).bind fun t271 => (if t271 = true then (some (x266004 == 0)) else (some false))) else (some false)))
def impl_ValidLoop.f (k : Nat) (a0_0 : Int) (a0_1 : Int) (a0_2 : Int) (a0_3 : Int) (a0_4 : Int) (a0_5 : Int) : Option (Bool) := (impl_isOp.f a0_1).bind fun t266 => (if t266 = true then ((impl_within.f a0_5 0 24).bind fun t267 => (if t267 = true then ((impl_isSpan.f a0_3 a0_5).bind fun t268 => (impl_ValidLoop.j0 k (!t268) a0_0 a0_1 a0_2 a0_3 a0_4 a0_5)) else (impl_ValidLoop.j0 k true a0_0 a0_1 a0_2 a0_3 a0_4 a0_5))) else (impl_ValidLoop.j0 k true a0_0 a0_1 a0_2 a0_3 a0_4 a0_5))
theorem impl_ValidLoop.mono_l : ∀ k, (∀ y0 y1 y2 y3 y4 y5 y6, LeO (impl_ValidLoop.j0 k y0 y1 y2 y3 y4 y5 y6) (impl_ValidLoop.j0 (k + 1) y0 y1 y2 y3 y4 y5 y6))
 | 0 => fun _ _ _ _ _ _ _ r h => by simp [impl_ValidLoop.j0] at h
 | k + 1 => by
  have ih0 := impl_ValidLoop.mono_l k
  ·intro y0 y1 y2 y3 y4 y5 y6
   unfold impl_ValidLoop.j0
   repeat' first
   | (with_reducible exact ih0 _ _ _ _ _ _ _)
   | (with_reducible exact LeO.refl _)
   | (with_reducible exact LeO.none _)
   | (with_reducible refine LeO.ite ?_ ?_)
   | (with_reducible refine LeO.bind ?_ (fun _ => ?_))
   | exact ih0 _ _ _ _ _ _ _
   | exact LeO.none _
   | refine LeO.ite ?_ ?_
   | refine LeO.bind ?_ (fun _ => ?_)
theorem impl_ValidLoop.mono : ∀ a0 a1 a2 a3 a4 a5 k, LeO (impl_ValidLoop.f k a0 a1 a2 a3 a4 a5) (impl_ValidLoop.f (k + 1) a0 a1 a2 a3 a4 a5) := by
 intro a0 a1 a2 a3 a4 a5 k
 have ih0 := impl_ValidLoop.mono_l k
 unfold impl_ValidLoop.f
 repeat' first
   | (with_reducible exact ih0 _ _ _ _ _ _ _)
   | (with_reducible exact LeO.refl _)
   | (with_reducible exact LeO.none _)
   | (with_reducible refine LeO.ite ?_ ?_)
   | (with_reducible refine LeO.bind ?_ (fun _ => ?_))
   | exact ih0 _ _ _ _ _ _ _
   | exact LeO.none _
   | refine LeO.ite ?_ ?_
   | refine LeO.bind ?_ (fun _ => ?_)
set_option maxHeartbeats 8000000 in
set_option maxRecDepth 100000 in
theorem impl_ValidLoop.calls (k : Nat) (a0_0 : Int) (a0_1 : Int) (a0_2 : Int) (a0_3 : Int) (a0_4 : Int) (a0_5 : Int) (r : Bool) (w : World) (h : impl_ValidLoop.f k a0_0 a0_1 a0_2 a0_3 a0_4 a0_5 = some r) :
  Calls Try.prog 21 #[.agg #[.int .i64 a0_0, .int .i64 a0_1, .int .i64 a0_2, .int .i64 a0_3, .int .i64 a0_4, .int .i64 a0_5]] w fun e w' => e = .returned (.bool r) ∧ Below w.heap.size w w' := by
 have hu25 := Try.underlying25
 have HB := Aside0.mk (Below.refl w.heap.size w)
 have H : ((impl_isOp.f a0_1).bind fun t266 => (if t266 = true then ((impl_within.f a0_5 0 24).bind fun t267 => (if t267 = true then ((impl_isSpan.f a0_3 a0_5).bind fun t268 => (impl_ValidLoop.j0 k (!t268) a0_0 a0_1 a0_2 a0_3 a0_4 a0_5)) else (impl_ValidLoop.j0 k true a0_0 a0_1 a0_2 a0_3 a0_4 a0_5))) else (impl_ValidLoop.j0 k true a0_0 a0_1 a0_2 a0_3 a0_4 a0_5))) = some r := h
 clear h
 have HC2 := Aside0.mk H
 clear H
 go_enter Try.func21, Try.ntmps21
 go_upto_region 1 with (first | ((with_reducible refine gate_dst (N := 1) rfl ?_); refine box_event ?hg (N := 1) ?hd (cs := #[.int .i64 a0_0, .int .i64 a0_1, .int .i64 a0_2, .int .i64 a0_3, .int .i64 a0_4, .int .i64 a0_5]) (t := 25) ?hr ?_; (case hd => rfl); (case hg => rfl); (case hr => first | (go_simp; done) | (go_simp; rfl)); intro gb265 hg w3 hbox hb; have n0_ := Aside0.mk (below_step (xvo HB.out) hb); have n1_ := Aside0.mk (hbox); have n2_ := Aside0.mk ((by rw [hg]; exact (below_size (xvo HB.out)) : w.heap.size ≤ gb265)); have n3_ := Aside0.mk ((by rw [hg]; exact (below_size (xvo HB.out)) : w.heap.size ≤ gb265)); clear HB; have HB := n0_; have BK265 := n1_; have GW265 := n2_; have GE265 := n3_; clear n0_ n1_ n2_ n3_; clear hb hbox hg))
 (try simp only [Act.put, List.setIfInBounds_toArray, List.set_cons_zero, List.set_cons_succ])
 go_cut [20] (fun v20 wc => ∃ (kq : Nat) (x20_1 : Bool), v20 = .bool x20_1 ∧ Aside0 (impl_ValidLoop.j0 kq x20_1 a0_0 a0_1 a0_2 a0_3 a0_4 a0_5 = some r) ∧ Aside0 (kq ≤ k) ∧ Aside0 (wc.heap[gb265]? = some (.cells #[.int .i64 a0_0, .int .i64 a0_1, .int .i64 a0_2, .int .i64 a0_3, .int .i64 a0_4, .int .i64 a0_5] 25 (0, 0))) ∧ Aside0 (Below w.heap.size w wc))
 case first =>
  have H := HC2.out
  clear HC2
  replace H := Option.bind_eq_some_iff.mp H
  obtain ⟨t266, A40, H⟩ := H
  replace H : (if t266 = true then ((impl_within.f a0_5 0 24).bind fun t267 => (if t267 = true then ((impl_isSpan.f a0_3 a0_5).bind fun t268 => (impl_ValidLoop.j0 k (!t268) a0_0 a0_1 a0_2 a0_3 a0_4 a0_5)) else (impl_ValidLoop.j0 k true a0_0 a0_1 a0_2 a0_3 a0_4 a0_5))) else (impl_ValidLoop.j0 k true a0_0 a0_1 a0_2 a0_3 a0_4 a0_5)) = some r := H
  have A4 := Aside0.mk A40
  clear A40
  by_cases c5 : t266 = true
  ·subst c5
   have H1 : ((impl_within.f a0_5 0 24).bind fun t267 => (if t267 = true then ((impl_isSpan.f a0_3 a0_5).bind fun t268 => (impl_ValidLoop.j0 k (!t268) a0_0 a0_1 a0_2 a0_3 a0_4 a0_5)) else (impl_ValidLoop.j0 k true a0_0 a0_1 a0_2 a0_3 a0_4 a0_5))) = some r := by rw [if_pos rfl] at H; exact H
   clear H
   have H := H1
   clear H1
   replace H := Option.bind_eq_some_iff.mp H
   obtain ⟨t267, A60, H⟩ := H
   replace H : (if t267 = true then ((impl_isSpan.f a0_3 a0_5).bind fun t268 => (impl_ValidLoop.j0 k (!t268) a0_0 a0_1 a0_2 a0_3 a0_4 a0_5)) else (impl_ValidLoop.j0 k true a0_0 a0_1 a0_2 a0_3 a0_4 a0_5)) = some r := H
   have A6 := Aside0.mk A60
   clear A60
   by_cases c7 : t267 = true
   ·subst c7
    have H1 : ((impl_isSpan.f a0_3 a0_5).bind fun t268 => (impl_ValidLoop.j0 k (!t268) a0_0 a0_1 a0_2 a0_3 a0_4 a0_5)) = some r := by rw [if_pos rfl] at H; exact H
    clear H
    have H := H1
    clear H1
    replace H := Option.bind_eq_some_iff.mp H
    obtain ⟨t268, A80, H⟩ := H
    replace H : (impl_ValidLoop.j0 k (!t268) a0_0 a0_1 a0_2 a0_3 a0_4 a0_5) = some r := H
    have A8 := Aside0.mk A80
    clear A80
    have H' := Aside0.mk H
    clear H
    have hcz9_0 : w3.cell? ⟨gb265, 0, none⟩ = some (.int .i64 a0_0) := xvc BK265.out
    have hcz9_1 : w3.cell? ⟨gb265, 1, none⟩ = some (.int .i64 a0_1) := xvc BK265.out
    have hcz9_2 : w3.cell? ⟨gb265, 2, none⟩ = some (.int .i64 a0_2) := xvc BK265.out
    have hcz9_3 : w3.cell? ⟨gb265, 3, none⟩ = some (.int .i64 a0_3) := xvc BK265.out
    have hcz9_4 : w3.cell? ⟨gb265, 4, none⟩ = some (.int .i64 a0_4) := xvc BK265.out
    have hcz9_5 : w3.cell? ⟨gb265, 5, none⟩ = some (.int .i64 a0_5) := xvc BK265.out
    have hfz9_0 := blk_frozen BK265.out 0
    have hfz9_1 := blk_frozen BK265.out 1
    have hfz9_2 := blk_frozen BK265.out 2
    have hfz9_3 := blk_frozen BK265.out 3
    have hfz9_4 := blk_frozen BK265.out 4
    have hfz9_5 := blk_frozen BK265.out 5
    go_wp2_with (first | ((with_reducible refine gate_callee (f := 80) rfl ?_); refine goesL_ (some 5) rfl rfl Try.func80 (by kernel_rfl) rfl #[.int .i64 a0_1] rfl wv1 ?_; (with_reducible refine (impl_isOp.calls a0_1 true _ A4.out).mono ?_); rintro e w' ⟨rfl, ⟨nd, rfl⟩⟩; refine ⟨_, rfl, ?_⟩) | (go_at_call 81; (with_reducible refine (impl_within.calls a0_5 0 24 true _ A6.out).mono ?_); rintro e w' ⟨rfl, ⟨nd, rfl⟩⟩) | (go_at_call 82; (with_reducible refine (impl_isSpan.calls a0_3 a0_5 t268 _ A8.out).mono ?_); rintro e w' ⟨rfl, ⟨nd, rfl⟩⟩))
    go_meet
    case rel => exact ⟨_, (!t268), wv6, H', ⟨wv33⟩, ⟨(xvb BK265.out)⟩, ⟨wv26⟩⟩
   ·replace c7 := Bool.eq_false_iff.mpr c7
    subst c7
    have H1 : (impl_ValidLoop.j0 k true a0_0 a0_1 a0_2 a0_3 a0_4 a0_5) = some r := by rw [if_neg (show ¬ (false = true) by decide)] at H; exact H
    clear H
    have H := H1
    clear H1
    have H' := Aside0.mk H
    clear H
    have hcz10_0 : w3.cell? ⟨gb265, 0, none⟩ = some (.int .i64 a0_0) := xvc BK265.out
    have hcz10_1 : w3.cell? ⟨gb265, 1, none⟩ = some (.int .i64 a0_1) := xvc BK265.out
    have hcz10_2 : w3.cell? ⟨gb265, 2, none⟩ = some (.int .i64 a0_2) := xvc BK265.out
    have hcz10_3 : w3.cell? ⟨gb265, 3, none⟩ = some (.int .i64 a0_3) := xvc BK265.out
    have hcz10_4 : w3.cell? ⟨gb265, 4, none⟩ = some (.int .i64 a0_4) := xvc BK265.out
    have hcz10_5 : w3.cell? ⟨gb265, 5, none⟩ = some (.int .i64 a0_5) := xvc BK265.out
    have hfz10_0 := blk_frozen BK265.out 0
    have hfz10_1 := blk_frozen BK265.out 1
    have hfz10_2 := blk_frozen BK265.out 2
    have hfz10_3 := blk_frozen BK265.out 3
    have hfz10_4 := blk_frozen BK265.out 4
    have hfz10_5 := blk_frozen BK265.out 5
    go_wp2_with (first | ((with_reducible refine gate_callee (f := 80) rfl ?_); refine goesL_ (some 5) rfl rfl Try.func80 (by kernel_rfl) rfl #[.int .i64 a0_1] rfl wv1 ?_; (with_reducible refine (impl_isOp.calls a0_1 true _ A4.out).mono ?_); rintro e w' ⟨rfl, ⟨nd, rfl⟩⟩; refine ⟨_, rfl, ?_⟩) | (go_at_call 81; (with_reducible refine (impl_within.calls a0_5 0 24 false _ A6.out).mono ?_); rintro e w' ⟨rfl, ⟨nd, rfl⟩⟩))
    go_meet
    case rel => exact ⟨_, (true), wv6, H', ⟨wv33⟩, ⟨(xvb BK265.out)⟩, ⟨wv26⟩⟩
  ·replace c5 := Bool.eq_false_iff.mpr c5
   subst c5
   have H1 : (impl_ValidLoop.j0 k true a0_0 a0_1 a0_2 a0_3 a0_4 a0_5) = some r := by rw [if_neg (show ¬ (false = true) by decide)] at H; exact H
   clear H
   have H := H1
   clear H1
   have H' := Aside0.mk H
   clear H
   have hcz11_0 : w3.cell? ⟨gb265, 0, none⟩ = some (.int .i64 a0_0) := xvc BK265.out
   have hcz11_1 : w3.cell? ⟨gb265, 1, none⟩ = some (.int .i64 a0_1) := xvc BK265.out
   have hcz11_2 : w3.cell? ⟨gb265, 2, none⟩ = some (.int .i64 a0_2) := xvc BK265.out
   have hcz11_3 : w3.cell? ⟨gb265, 3, none⟩ = some (.int .i64 a0_3) := xvc BK265.out
   have hcz11_4 : w3.cell? ⟨gb265, 4, none⟩ = some (.int .i64 a0_4) := xvc BK265.out
   have hcz11_5 : w3.cell? ⟨gb265, 5, none⟩ = some (.int .i64 a0_5) := xvc BK265.out
   have hfz11_0 := blk_frozen BK265.out 0
   have hfz11_1 := blk_frozen BK265.out 1
   have hfz11_2 := blk_frozen BK265.out 2
   have hfz11_3 := blk_frozen BK265.out 3
   have hfz11_4 := blk_frozen BK265.out 4
   have hfz11_5 := blk_frozen BK265.out 5
   go_wp2_with (first | ((with_reducible refine gate_callee (f := 80) rfl ?_); refine goesL_ (some 5) rfl rfl Try.func80 (by kernel_rfl) rfl #[.int .i64 a0_1] rfl wv1 ?_; (with_reducible refine (impl_isOp.calls a0_1 false _ A4.out).mono ?_); rintro e w' ⟨rfl, ⟨nd, rfl⟩⟩; refine ⟨_, rfl, ?_⟩))
   go_meet
   case rel => exact ⟨_, (true), wv6, H', ⟨wv33⟩, ⟨(xvb BK265.out)⟩, ⟨wv26⟩⟩
 case rest =>
  clear HC2
  try clear c2
  try clear p2
  try clear c5
  try clear c7
  try clear c8
  try clear hcz10_0
  try clear hcz10_1
  try clear hcz10_2
  try clear hcz10_3
  try clear hcz10_4
  try clear hcz10_5
  try clear hcz11_0
  try clear hcz11_1
  try clear hcz11_2
  try clear hcz11_3
  try clear hcz11_4
  try clear hcz11_5
  try clear hcz9_0
  try clear hcz9_1
  try clear hcz9_2
  try clear hcz9_3
  try clear hcz9_4
  try clear hcz9_5
  try clear hfz10_0
  try clear hfz10_1
  try clear hfz10_2
  try clear hfz10_3
  try clear hfz10_4
  try clear hfz10_5
  try clear hfz11_0
  try clear hfz11_1
  try clear hfz11_2
  try clear hfz11_3
  try clear hfz11_4
  try clear hfz11_5
  try clear hfz9_0
  try clear hfz9_1
  try clear hfz9_2
  try clear hfz9_3
  try clear hfz9_4
  try clear hfz9_5
  obtain ⟨kq, x20_1, rfl, HA, HJ1, BK265, HB⟩ := hcut
  cases kq with
  | zero => exact absurd HA.out (by simp [impl_ValidLoop.j0])
  | succ kj1 =>
   have H := HA.out
   clear HA
   simp only [impl_ValidLoop.j0] at H
   by_cases c12 : x20_1 = true
   ·subst c12
    have H1 : (some false) = some r := by rw [if_pos rfl] at H; exact H
    clear H
    have H := H1
    clear H1
    obtain rfl := Option.some.inj H
    go_wp2
    go_ret
    exact ⟨wv3, wv26⟩
   ·replace c12 := Bool.eq_false_iff.mpr c12
    subst c12
    have H1 : (if a0_0 = 0 then ((impl_isSpan.f a0_2 a0_5).bind fun t269 => (if t269 = true then ((impl_isSpan.f a0_4 a0_5).bind fun t270 => (some t270)) else (some false))) else (if a0_0 = 1 then ((impl_isSpan.f a0_2 0).bind fun t271 => (if t271 = true then (some (a0_4 == 0)) else (some false))) else (some false))) = some r := by rw [if_neg (show ¬ (false = true) by decide)] at H; exact H
    clear H
    have H := H1
    clear H1
    by_cases c13 : a0_0 = 0
    ·rw [if_pos c13] at H
     have c13b0 : (a0_0 == 0) = true := beq_iff_eq.mpr c13
     have c13b1 : (a0_0 != 0) = false := bne_eq_false_iff_eq.mpr c13
     clear c13
     replace H := Option.bind_eq_some_iff.mp H
     obtain ⟨t269, A140, H⟩ := H
     replace H : (if t269 = true then ((impl_isSpan.f a0_4 a0_5).bind fun t270 => (some t270)) else (some false)) = some r := H
     have A14 := Aside0.mk A140
     clear A140
     by_cases c15 : t269 = true
     ·subst c15
      have H1 : ((impl_isSpan.f a0_4 a0_5).bind fun t270 => (some t270)) = some r := by rw [if_pos rfl] at H; exact H
      clear H
      have H := H1
      clear H1
      replace H := Option.bind_eq_some_iff.mp H
      obtain ⟨t270, A160, H⟩ := H
      replace H : (some t270) = some r := H
      have A16 := Aside0.mk A160
      clear A160
      obtain rfl := Option.some.inj H
      have hcz17_0 : wc.cell? ⟨gb265, 0, none⟩ = some (.int .i64 a0_0) := xvc BK265.out
      have hcz17_1 : wc.cell? ⟨gb265, 1, none⟩ = some (.int .i64 a0_1) := xvc BK265.out
      have hcz17_2 : wc.cell? ⟨gb265, 2, none⟩ = some (.int .i64 a0_2) := xvc BK265.out
      have hcz17_3 : wc.cell? ⟨gb265, 3, none⟩ = some (.int .i64 a0_3) := xvc BK265.out
      have hcz17_4 : wc.cell? ⟨gb265, 4, none⟩ = some (.int .i64 a0_4) := xvc BK265.out
      have hcz17_5 : wc.cell? ⟨gb265, 5, none⟩ = some (.int .i64 a0_5) := xvc BK265.out
      have hfz17_0 := blk_frozen BK265.out 0
      have hfz17_1 := blk_frozen BK265.out 1
      have hfz17_2 := blk_frozen BK265.out 2
      have hfz17_3 := blk_frozen BK265.out 3
      have hfz17_4 := blk_frozen BK265.out 4
      have hfz17_5 := blk_frozen BK265.out 5
      go_wp2_with (first | ((with_reducible refine gate_callee (f := 82) rfl ?_); refine goesL_ (some 29) rfl rfl Try.func82 (by kernel_rfl) rfl #[.int .i64 a0_2, .int .i64 a0_5] rfl wv1 ?_; (with_reducible refine (impl_isSpan.calls a0_2 a0_5 true _ A14.out).mono ?_); rintro e w' ⟨rfl, ⟨nd, rfl⟩⟩; refine ⟨_, rfl, ?_⟩) | (go_at_call 82; (with_reducible refine (impl_isSpan.calls a0_4 a0_5 t270 _ A16.out).mono ?_); rintro e w' ⟨rfl, ⟨nd, rfl⟩⟩))
      go_ret
      exact ⟨wv3, wv26⟩
     ·replace c15 := Bool.eq_false_iff.mpr c15
      subst c15
      have H1 : (some false) = some r := by rw [if_neg (show ¬ (false = true) by decide)] at H; exact H
      clear H
      have H := H1
      clear H1
      obtain rfl := Option.some.inj H
      have hcz18_0 : wc.cell? ⟨gb265, 0, none⟩ = some (.int .i64 a0_0) := xvc BK265.out
      have hcz18_1 : wc.cell? ⟨gb265, 1, none⟩ = some (.int .i64 a0_1) := xvc BK265.out
      have hcz18_2 : wc.cell? ⟨gb265, 2, none⟩ = some (.int .i64 a0_2) := xvc BK265.out
      have hcz18_3 : wc.cell? ⟨gb265, 3, none⟩ = some (.int .i64 a0_3) := xvc BK265.out
      have hcz18_4 : wc.cell? ⟨gb265, 4, none⟩ = some (.int .i64 a0_4) := xvc BK265.out
      have hcz18_5 : wc.cell? ⟨gb265, 5, none⟩ = some (.int .i64 a0_5) := xvc BK265.out
      have hfz18_0 := blk_frozen BK265.out 0
      have hfz18_1 := blk_frozen BK265.out 1
      have hfz18_2 := blk_frozen BK265.out 2
      have hfz18_3 := blk_frozen BK265.out 3
      have hfz18_4 := blk_frozen BK265.out 4
      have hfz18_5 := blk_frozen BK265.out 5
      go_wp2_with (first | ((with_reducible refine gate_callee (f := 82) rfl ?_); refine goesL_ (some 29) rfl rfl Try.func82 (by kernel_rfl) rfl #[.int .i64 a0_2, .int .i64 a0_5] rfl wv1 ?_; (with_reducible refine (impl_isSpan.calls a0_2 a0_5 false _ A14.out).mono ?_); rintro e w' ⟨rfl, ⟨nd, rfl⟩⟩; refine ⟨_, rfl, ?_⟩))
      go_ret
      exact ⟨wv3, wv26⟩
    ·rw [if_neg c13] at H
     have c13b0 : (a0_0 == 0) = false := beq_eq_false_iff_ne.mpr c13
     have c13b1 : (a0_0 != 0) = true := bne_iff_ne.mpr c13
     by_cases c19 : a0_0 = 1
     ·rw [if_pos c19] at H
      have c19b0 : (a0_0 == 1) = true := beq_iff_eq.mpr c19
      have c19b1 : (a0_0 != 1) = false := bne_eq_false_iff_eq.mpr c19
      clear c19
      replace H := Option.bind_eq_some_iff.mp H
      obtain ⟨t271, A200, H⟩ := H
      replace H : (if t271 = true then (some (a0_4 == 0)) else (some false)) = some r := H
      have A20 := Aside0.mk A200
      clear A200
      by_cases c21 : t271 = true
      ·subst c21
       have H1 : (some (a0_4 == 0)) = some r := by rw [if_pos rfl] at H; exact H
       clear H
       have H := H1
       clear H1
       obtain rfl := Option.some.inj H
       have hcz22_0 : wc.cell? ⟨gb265, 0, none⟩ = some (.int .i64 a0_0) := xvc BK265.out
       have hcz22_1 : wc.cell? ⟨gb265, 1, none⟩ = some (.int .i64 a0_1) := xvc BK265.out
       have hcz22_2 : wc.cell? ⟨gb265, 2, none⟩ = some (.int .i64 a0_2) := xvc BK265.out
       have hcz22_3 : wc.cell? ⟨gb265, 3, none⟩ = some (.int .i64 a0_3) := xvc BK265.out
       have hcz22_4 : wc.cell? ⟨gb265, 4, none⟩ = some (.int .i64 a0_4) := xvc BK265.out
       have hcz22_5 : wc.cell? ⟨gb265, 5, none⟩ = some (.int .i64 a0_5) := xvc BK265.out
       have hfz22_0 := blk_frozen BK265.out 0
       have hfz22_1 := blk_frozen BK265.out 1
       have hfz22_2 := blk_frozen BK265.out 2
       have hfz22_3 := blk_frozen BK265.out 3
       have hfz22_4 := blk_frozen BK265.out 4
       have hfz22_5 := blk_frozen BK265.out 5
       go_wp2_with (first | ((with_reducible refine gate_callee (f := 82) rfl ?_); refine goesL_ (some 41) rfl rfl Try.func82 (by kernel_rfl) rfl #[.int .i64 a0_2, .int .i64 0] rfl wv1 ?_; (with_reducible refine (impl_isSpan.calls a0_2 0 true _ A20.out).mono ?_); rintro e w' ⟨rfl, ⟨nd, rfl⟩⟩; refine ⟨_, rfl, ?_⟩))
       go_ret
       exact ⟨wv3, wv26⟩
      ·replace c21 := Bool.eq_false_iff.mpr c21
       subst c21
       have H1 : (some false) = some r := by rw [if_neg (show ¬ (false = true) by decide)] at H; exact H
       clear H
       have H := H1
       clear H1
       obtain rfl := Option.some.inj H
       have hcz23_0 : wc.cell? ⟨gb265, 0, none⟩ = some (.int .i64 a0_0) := xvc BK265.out
       have hcz23_1 : wc.cell? ⟨gb265, 1, none⟩ = some (.int .i64 a0_1) := xvc BK265.out
       have hcz23_2 : wc.cell? ⟨gb265, 2, none⟩ = some (.int .i64 a0_2) := xvc BK265.out
       have hcz23_3 : wc.cell? ⟨gb265, 3, none⟩ = some (.int .i64 a0_3) := xvc BK265.out
       have hcz23_4 : wc.cell? ⟨gb265, 4, none⟩ = some (.int .i64 a0_4) := xvc BK265.out
       have hcz23_5 : wc.cell? ⟨gb265, 5, none⟩ = some (.int .i64 a0_5) := xvc BK265.out
       have hfz23_0 := blk_frozen BK265.out 0
       have hfz23_1 := blk_frozen BK265.out 1
       have hfz23_2 := blk_frozen BK265.out 2
       have hfz23_3 := blk_frozen BK265.out 3
       have hfz23_4 := blk_frozen BK265.out 4
       have hfz23_5 := blk_frozen BK265.out 5
       go_wp2_with (first | ((with_reducible refine gate_callee (f := 82) rfl ?_); refine goesL_ (some 41) rfl rfl Try.func82 (by kernel_rfl) rfl #[.int .i64 a0_2, .int .i64 0] rfl wv1 ?_; (with_reducible refine (impl_isSpan.calls a0_2 0 false _ A20.out).mono ?_); rintro e w' ⟨rfl, ⟨nd, rfl⟩⟩; refine ⟨_, rfl, ?_⟩))
       go_ret
       exact ⟨wv3, wv26⟩
     ·rw [if_neg c19] at H
      have c19b0 : (a0_0 == 1) = false := beq_eq_false_iff_ne.mpr c19
      have c19b1 : (a0_0 != 1) = true := bne_iff_ne.mpr c19
      obtain rfl := Option.some.inj H
      have hcz24_0 : wc.cell? ⟨gb265, 0, none⟩ = some (.int .i64 a0_0) := xvc BK265.out
      have hcz24_1 : wc.cell? ⟨gb265, 1, none⟩ = some (.int .i64 a0_1) := xvc BK265.out
      have hcz24_2 : wc.cell? ⟨gb265, 2, none⟩ = some (.int .i64 a0_2) := xvc BK265.out
      have hcz24_3 : wc.cell? ⟨gb265, 3, none⟩ = some (.int .i64 a0_3) := xvc BK265.out
      have hcz24_4 : wc.cell? ⟨gb265, 4, none⟩ = some (.int .i64 a0_4) := xvc BK265.out
      have hcz24_5 : wc.cell? ⟨gb265, 5, none⟩ = some (.int .i64 a0_5) := xvc BK265.out
      have hfz24_0 := blk_frozen BK265.out 0
      have hfz24_1 := blk_frozen BK265.out 1
      have hfz24_2 := blk_frozen BK265.out 2
      have hfz24_3 := blk_frozen BK265.out 3
      have hfz24_4 := blk_frozen BK265.out 4
      have hfz24_5 := blk_frozen BK265.out 5
      go_wp2
      go_ret
      exact ⟨wv3, wv26⟩

def impl_isLanes.f (a0 : Int) : Option Bool := some (lanesB a0)
theorem isLanes_any (a : Int) (w : World) : Calls Try.prog 107 #[.int .i64 a] w fun e w' => e = .returned (.bool (lanesB a)) ∧ w = w' := by
 unfold lanesB
 by_cases h2 : a = 2
 ·subst h2
  go_enter Try.func107, Try.ntmps107
  go_wp2
  go_ret
  exact ⟨rfl, rfl⟩
 have b2 : (a == 2) = false := by simpa using h2
 by_cases h4 : a = 4
 ·subst h4
  go_enter Try.func107, Try.ntmps107
  go_wp2
  go_ret
  exact ⟨rfl, rfl⟩
 have b4 : (a == 4) = false := by simpa using h4
 by_cases h8 : a = 8
 ·subst h8
  go_enter Try.func107, Try.ntmps107
  go_wp2
  go_ret
  exact ⟨rfl, rfl⟩
 have b8 : (a == 8) = false := by simpa using h8
 go_enter Try.func107, Try.ntmps107
 go_wp2
 go_ret
 exact ⟨(by rw [b2, b4, b8]; rfl), rfl⟩
theorem impl_isLanes.calls (a0 : Int) (r : Bool) (w : World) (h : impl_isLanes.f a0 = some r) :
  Calls Try.prog 107 #[.int .i64 a0] w fun e w' => e = .returned (.bool r) ∧ Drawn0 w w' := by
 obtain rfl := Option.some.inj h
 exact (isLanes_any a0 w).mono fun e w' ⟨he, hw⟩ => ⟨he, hw ▸ Drawn0.refl w⟩

def impl_isBits.f (a0 : Int) : Option Bool := some (bitsB a0)
theorem isBits_any (a : Int) (w : World) : Calls Try.prog 154 #[.int .i64 a] w fun e w' => e = .returned (.bool (bitsB a)) ∧ w = w' := by
 unfold bitsB
 by_cases h4 : a = 4
 ·subst h4
  go_enter Try.func154, Try.ntmps154
  go_wp2
  go_ret
  exact ⟨rfl, rfl⟩
 ·have b4 : (a == 4) = false := by simpa using h4
  by_cases h8 : a = 8
  ·subst h8
   go_enter Try.func154, Try.ntmps154
   go_wp2
   go_ret
   exact ⟨rfl, rfl⟩
  ·have b8 : (a == 8) = false := by simpa using h8
   go_enter Try.func154, Try.ntmps154
   go_wp2
   go_ret
   exact ⟨(by rw [b4, b8]; rfl), rfl⟩
theorem impl_isBits.calls (a0 : Int) (r : Bool) (w : World) (h : impl_isBits.f a0 = some r) :
  Calls Try.prog 154 #[.int .i64 a0] w fun e w' => e = .returned (.bool r) ∧ Drawn0 w w' := by
 obtain rfl := Option.some.inj h
 exact (isBits_any a0 w).mono fun e w' ⟨he, hw⟩ => ⟨he, hw ▸ Drawn0.refl w⟩

/-! ### impl_ValidMachine: function 85 -/
def impl_ValidMachine.f (a0_0 : Int) (a0_1 : Int) : Option (Bool) := (impl_isLanes.f a0_0).bind fun t273 => (if t273 = true then ((impl_isBits.f a0_1).bind fun t274 => (some t274)) else (some false))
set_option maxHeartbeats 8000000 in
set_option maxRecDepth 100000 in
theorem impl_ValidMachine.calls (a0_0 : Int) (a0_1 : Int) (r : Bool) (w : World) (h : impl_ValidMachine.f a0_0 a0_1 = some r) :
  Calls Try.prog 85 #[.agg #[.int .i64 a0_0, .int .i64 a0_1]] w fun e w' => e = .returned (.bool r) ∧ Below w.heap.size w w' := by
 have hu31 := Try.underlying31
 have HB := Aside0.mk (Below.refl w.heap.size w)
 have H : ((impl_isLanes.f a0_0).bind fun t273 => (if t273 = true then ((impl_isBits.f a0_1).bind fun t274 => (some t274)) else (some false))) = some r := h
 clear h
 replace H := Option.bind_eq_some_iff.mp H
 obtain ⟨t273, A20, H⟩ := H
 replace H : (if t273 = true then ((impl_isBits.f a0_1).bind fun t274 => (some t274)) else (some false)) = some r := H
 have A2 := Aside0.mk A20
 clear A20
 by_cases c3 : t273 = true
 ·subst c3
  have H1 : ((impl_isBits.f a0_1).bind fun t274 => (some t274)) = some r := by rw [if_pos rfl] at H; exact H
  clear H
  have H := H1
  clear H1
  replace H := Option.bind_eq_some_iff.mp H
  obtain ⟨t274, A40, H⟩ := H
  replace H : (some t274) = some r := H
  have A4 := Aside0.mk A40
  clear A40
  obtain rfl := Option.some.inj H
  go_enter Try.func85, Try.ntmps85
  go_wp2_with (first | ((with_reducible refine gate_dst (N := 1) rfl ?_); refine box_event ?hg (N := 1) ?hd (cs := #[.int .i64 a0_0, .int .i64 a0_1]) (t := 31) ?hr ?_; (case hd => rfl); (case hg => rfl); (case hr => first | (go_simp; done) | (go_simp; rfl)); intro gb272 hg w5 hbox hb; have n0_ := Aside0.mk (below_step (xvo HB.out) hb); have n1_ := Aside0.mk (hbox); have n2_ := Aside0.mk ((by rw [hg]; exact (below_size (xvo HB.out)) : w.heap.size ≤ gb272)); have n3_ := Aside0.mk ((by rw [hg]; exact (below_size (xvo HB.out)) : w.heap.size ≤ gb272)); clear HB; have HB := n0_; have BK272 := n1_; have GW272 := n2_; have GE272 := n3_; clear n0_ n1_ n2_ n3_; clear hb hbox hg; have hcz6_0 : w5.cell? ⟨gb272, 0, none⟩ = some (.int .i64 a0_0) := xvc BK272.out; have hcz6_1 : w5.cell? ⟨gb272, 1, none⟩ = some (.int .i64 a0_1) := xvc BK272.out; have hfz6_0 := blk_frozen BK272.out 0; have hfz6_1 := blk_frozen BK272.out 1) | ((with_reducible refine gate_callee (f := 107) rfl ?_); refine goesL_ (some 5) rfl rfl Try.func107 (by kernel_rfl) rfl #[.int .i64 a0_0] rfl wv1 ?_; (with_reducible refine (impl_isLanes.calls a0_0 true _ A2.out).mono ?_); rintro e w' ⟨rfl, ⟨nd, rfl⟩⟩; refine ⟨_, rfl, ?_⟩) | (go_at_call 154; (with_reducible refine (impl_isBits.calls a0_1 t274 _ A4.out).mono ?_); rintro e w' ⟨rfl, ⟨nd, rfl⟩⟩))
  go_ret
  exact ⟨wv3, (by repeat (first | (with_reducible first | exact HB.out | apply below_alloc | apply pw_below_drewN | apply below_drew1 | refine below_set ?_ GE272.out) | exact HB.out))⟩
 ·replace c3 := Bool.eq_false_iff.mpr c3
  subst c3
  have H1 : (some false) = some r := by rw [if_neg (show ¬ (false = true) by decide)] at H; exact H
  clear H
  have H := H1
  clear H1
  obtain rfl := Option.some.inj H
  go_enter Try.func85, Try.ntmps85
  go_wp2_with (first | ((with_reducible refine gate_dst (N := 1) rfl ?_); refine box_event ?hg (N := 1) ?hd (cs := #[.int .i64 a0_0, .int .i64 a0_1]) (t := 31) ?hr ?_; (case hd => rfl); (case hg => rfl); (case hr => first | (go_simp; done) | (go_simp; rfl)); intro gb272 hg w7 hbox hb; have n0_ := Aside0.mk (below_step (xvo HB.out) hb); have n1_ := Aside0.mk (hbox); have n2_ := Aside0.mk ((by rw [hg]; exact (below_size (xvo HB.out)) : w.heap.size ≤ gb272)); have n3_ := Aside0.mk ((by rw [hg]; exact (below_size (xvo HB.out)) : w.heap.size ≤ gb272)); clear HB; have HB := n0_; have BK272 := n1_; have GW272 := n2_; have GE272 := n3_; clear n0_ n1_ n2_ n3_; clear hb hbox hg; have hcz8_0 : w7.cell? ⟨gb272, 0, none⟩ = some (.int .i64 a0_0) := xvc BK272.out; have hcz8_1 : w7.cell? ⟨gb272, 1, none⟩ = some (.int .i64 a0_1) := xvc BK272.out; have hfz8_0 := blk_frozen BK272.out 0; have hfz8_1 := blk_frozen BK272.out 1) | ((with_reducible refine gate_callee (f := 107) rfl ?_); refine goesL_ (some 5) rfl rfl Try.func107 (by kernel_rfl) rfl #[.int .i64 a0_0] rfl wv1 ?_; (with_reducible refine (impl_isLanes.calls a0_0 false _ A2.out).mono ?_); rintro e w' ⟨rfl, ⟨nd, rfl⟩⟩; refine ⟨_, rfl, ?_⟩))
  go_ret
  exact ⟨wv3, (by repeat (first | (with_reducible first | exact HB.out | apply below_alloc | apply pw_below_drewN | apply below_drew1 | refine below_set ?_ GE272.out) | exact HB.out))⟩

end Go.Proofs.Ytpfoeologjacfaa.V
