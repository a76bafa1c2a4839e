-- Written by a program of this session (wip/tools) over the kit's print.
-- COMPACT
import Derived.Test.YtpfoeologjacfaaM0
import Derived.Test.YtpfoeologjacfaaM1
namespace Go.Proofs.Ytpfoeologjacfaa.M
open Go.RowKit Go.Proofs.YtpfoeologjacfaaW.PrintWords Go.Proofs.YtpfoeologjacfaaW.PrintLast Go.Proofs.YtpfoeologjacfaaW.PrintMore
attribute [local go_sem] max2_int min2_int max_two min_two max_three min_three max_four min_four   -- for this text's walks alone
set_option linter.unusedVariables false
set_option linter.unusedSimpArgs false

/-! ### impl_exchanged: function 96 -/
def impl_exchanged.l0 : Nat → List Int → List Int → Int → Int → Int → Int → Option (List Int)
 | 0, _, _, _, _, _, _ => none
 | k + 1, x1, x5, x12, x13, x105000, x105001 => if x13 < x12 then (if (Go.bits .and .i64 x13 x105000) = 0 then (if 0 ≤ x13 then (if x13 < (x1.length : Int) then (if 0 ≤ (wrap64 (x13 + x105000)) then (if (wrap64 (x13 + x105000)) < (x1.length : Int) then ((impl_length_int64.f x1).bind fun t113 => (if (Go.bits .and .i64 (Go.bits .and .i64 x13 x105001) (wrap64 (t113 - 1))) = 0 then (if x13 < (x5.length : Int) then (if (wrap64 (x13 + x105000)) < (x5.length : Int) then (impl_exchanged.l0 k x1 ((x5.set (x13 : Int).toNat (mn (rd x1 x13) (rd x1 (wrap64 (x13 + x105000))))).set ((wrap64 (x13 + x105000)) : Int).toNat (mx (rd x1 x13) (rd x1 (wrap64 (x13 + x105000))))) x12 (wrap64 (x13 + 1)) x105000 x105001) else (none)) else (none)) else (if x13 < (x5.length : Int) then (if (wrap64 (x13 + x105000)) < (x5.length : Int) then (impl_exchanged.l0 k x1 ((x5.set (x13 : Int).toNat (mx (rd x1 x13) (rd x1 (wrap64 (x13 + x105000))))).set ((wrap64 (x13 + x105000)) : Int).toNat (mn (rd x1 x13) (rd x1 (wrap64 (x13 + x105000))))) x12 (wrap64 (x13 + 1)) x105000 x105001) else (none)) else (none)))) else (none)) else (none)) else (none)) else (none)) else (impl_exchanged.l0 k x1 x5 x12 (wrap64 (x13 + 1)) x105000 x105001)) else (some x5)
def impl_exchanged.f (k : Nat) (a0_0 : Int) (a0_1 : Int) (l1 : List Int) : Option (List Int) := (slices_Clone_int64_int64.f l1).bind fun t105 => ((impl_length_int64.f l1).bind fun t108 => (impl_exchanged.l0 k l1 t105 t108 0 a0_0 a0_1))
theorem impl_exchanged.mono_l : ∀ k, (∀ y0 y1 y2 y3 y4 y5, LeO (impl_exchanged.l0 k y0 y1 y2 y3 y4 y5) (impl_exchanged.l0 (k + 1) y0 y1 y2 y3 y4 y5))
 | 0 => fun _ _ _ _ _ _ r h => by simp [impl_exchanged.l0] at h
 | k + 1 => by
  have ih0 := impl_exchanged.mono_l k
  ·intro y0 y1 y2 y3 y4 y5
   unfold impl_exchanged.l0
   repeat' first
   | (with_reducible exact ih0 _ _ _ _ _ _)
   | (with_reducible exact LeO.refl _)
   | (with_reducible exact LeO.none _)
   | (with_reducible refine LeO.ite ?_ ?_)
   | (with_reducible refine LeO.bind ?_ (fun _ => ?_))
   | exact ih0 _ _ _ _ _ _
   | exact LeO.none _
   | refine LeO.ite ?_ ?_
   | refine LeO.bind ?_ (fun _ => ?_)
theorem impl_exchanged.mono : ∀ a0 a1 a2 k, LeO (impl_exchanged.f k a0 a1 a2) (impl_exchanged.f (k + 1) a0 a1 a2) := by
 intro a0 a1 a2 k
 have ih0 := impl_exchanged.mono_l k
 unfold impl_exchanged.f
 repeat' first
   | (with_reducible exact ih0 _ _ _ _ _ _)
   | (with_reducible exact LeO.refl _)
   | (with_reducible exact LeO.none _)
   | (with_reducible refine LeO.ite ?_ ?_)
   | (with_reducible refine LeO.bind ?_ (fun _ => ?_))
   | exact ih0 _ _ _ _ _ _
   | exact LeO.none _
   | refine LeO.ite ?_ ?_
   | refine LeO.bind ?_ (fun _ => ?_)
def impl_exchanged.T6 : Bool × List (List Nat × List Nat) := (true, [([], []), ([], []), ([0, 1], [0, 1]), ([2], [2]), ([], []), ([], []), ([], []), ([6], [6]), ([5, 7], [5, 7]), ([4, 8], [4, 8]), ([9], [9]), ([3, 10], [3, 10]), ([], []), ([], []), ([12, 13], [12, 13]), ([14], [14]), ([], []), ([], []), ([], []), ([18], [18]), ([17, 19], [17, 19]), ([16, 20], [16, 20]), ([21], [21]), ([15, 22], [15, 22]), ([11, 0, 1, 2, 3, 4, 5, 6, 7, 8, 9, 10, 11], [11]), ([23, 24, 0, 1, 2, 3, 4, 5, 6, 7, 8, 9, 10, 11, 12, 13, 14, 15, 16, 17, 18, 19, 20, 21, 22, 23, 24], [23])])
def impl_exchanged.B6 : List Nat := [0, 0, 3, 7, 0, 0, 0, 64, 224, 496, 1008, 2047, 0, 0, 12288, 28672, 0, 0, 0, 262144, 917504, 2031616, 4128768, 8384512, 4095, 33554431]
theorem impl_exchanged.tab6 : rtab .any (opsOf Try.f96 6) = impl_exchanged.T6 := by kernel_rfl
theorem impl_exchanged.bits6 : waitsOk impl_exchanged.T6.2 impl_exchanged.B6 = true := by kernel_rfl
def impl_exchanged.T7 : Bool × List (List Nat × List Nat) := (true, [([], []), ([], []), ([1], [1]), ([0, 2], [0, 2]), ([], []), ([4], [4]), ([5], [5]), ([3, 6], [3, 6]), ([7], [7])])
def impl_exchanged.B7 : List Nat := [0, 0, 2, 7, 0, 16, 48, 127, 255]
theorem impl_exchanged.tab7 : rtab .any (opsOf Try.f96 7) = impl_exchanged.T7 := by kernel_rfl
theorem impl_exchanged.bits7 : waitsOk impl_exchanged.T7.2 impl_exchanged.B7 = true := by kernel_rfl
def impl_exchanged.T9 : Bool × List (List Nat × List Nat) := (true, [([], []), ([], []), ([], []), ([], []), ([], []), ([4], [4]), ([3, 5], [3, 5]), ([], []), ([], []), ([0, 1, 0, 1, 7], [0, 1]), ([9, 7, 0, 1, 7], [7, 9]), ([2, 6, 0, 1, 2, 3, 4, 5, 6, 7, 8, 9, 10], [2, 6]), ([11, 8, 10, 0, 1, 2, 3, 4, 5, 6, 7, 8, 9, 10], [8, 11])])
def impl_exchanged.B9 : List Nat := [0, 0, 0, 0, 0, 16, 56, 0, 0, 131, 643, 2047, 4095]
theorem impl_exchanged.tab9 : rtab .any (opsOf Try.f96 9) = impl_exchanged.T9 := by kernel_rfl
theorem impl_exchanged.bits9 : waitsOk impl_exchanged.T9.2 impl_exchanged.B9 = true := by kernel_rfl
set_option maxHeartbeats 8000000 in
set_option maxRecDepth 100000 in
theorem impl_exchanged.calls (k : Nat) (a0_0 : Int) (a0_1 : Int) (A1 : Option Addr) (c1 : Nat) (l1 : List Int) (r : List Int) (w : World) (hr1 : Kd.C (Kd.int .i64) w A1 l1.length l1) (hc1 : l1.length ≤ c1) (h : impl_exchanged.f k a0_0 a0_1 l1 = some r) :
  Calls Try.prog 96 #[.agg #[.int .i64 a0_0, .int .i64 a0_1], .slice A1 l1.length c1] w fun e w' => ∃ v0_ : Value, e = .returned (v0_) ∧ Kd.R (Kd.int .i64) 2 w' w.heap.size (fun _ => True) v0_ r ∧ Below w.heap.size w w' := by
 have hu54 := Try.underlying54
 have HR1 := Aside0.mk hr1
 have HC1 := Aside0.mk hc1
 clear hr1 hc1
 have HB := Aside0.mk (Below.refl w.heap.size w)
 have H : ((slices_Clone_int64_int64.f l1).bind fun t105 => ((impl_length_int64.f l1).bind fun t108 => (impl_exchanged.l0 k l1 t105 t108 0 a0_0 a0_1))) = some r := h
 clear h
 replace H := Option.bind_eq_some_iff.mp H
 obtain ⟨t105, A30, H⟩ := H
 replace H : ((impl_length_int64.f l1).bind fun t108 => (impl_exchanged.l0 k l1 t105 t108 0 a0_0 a0_1)) = some r := H
 have A3 := Aside0.mk A30
 clear A30
 replace H := Option.bind_eq_some_iff.mp H
 obtain ⟨t108, A40, H⟩ := H
 replace H : (impl_exchanged.l0 k l1 t105 t108 0 a0_0 a0_1) = some r := H
 have A4 := Aside0.mk A40
 clear A40
 have H' := Aside0.mk H
 clear H
 go_enter Try.func96, Try.ntmps96
 go_wp2_with (first | ((with_reducible refine gate_dst (N := 2) rfl ?_); refine box_event ?hg (N := 2) ?hd (cs := #[.int .i64 a0_0, .int .i64 a0_1]) (t := 54) ?hr ?_; (case hd => rfl); (case hg => rfl); (case hr => first | (go_simp; done) | (go_simp; rfl)); intro gb104 hg w5 hbox hb; have n0_ := Aside0.mk (below_step (by repeat (first | (with_reducible first | exact HB.out | apply below_alloc | apply pw_below_drewN | apply below_drew1) | exact HB.out)) hb); have n1_ := Aside0.mk (hbox); have n2_ := Aside0.mk ((by rw [hg]; exact (below_size (by repeat (first | (with_reducible first | exact HB.out | apply below_alloc | apply pw_below_drewN | apply below_drew1) | exact HB.out))) : w.heap.size ≤ gb104)); have n3_ := Aside0.mk ((by rw [hg]; exact (below_size (by repeat (first | (with_reducible first | exact HB.out | apply below_alloc | apply pw_below_drewN | apply below_drew1) | exact HB.out))) : w.heap.size ≤ gb104)); clear HB; have HB := n0_; have BK104 := n1_; have GW104 := n2_; have GE104 := n3_; clear n0_ n1_ n2_ n3_; clear hb hbox hg) | ((with_reducible refine gate_callee (f := 93) rfl ?_); refine goesL_ (some 10) rfl rfl Try.func93 (by kernel_rfl) rfl #[.slice A1 l1.length c1] rfl (by (try simp only [List.map_toArray, List.map_cons, List.map_nil]); first | done | rfl | (simp only [List.length_drop, List.length_take]; rfl)) ?_; (with_reducible refine (slices_Clone_int64_int64.calls _ _ l1 t105 _ ?side1 ?side2 A3.out).mono ?_); (case side1 => repeat (first | exact (Kd.C_below HR1.out HB.out) | (with_reducible refine Kd.C_alloc ?_ _) | (with_reducible refine Kd.C_drewN ?_ _) | (with_reducible refine Kd.C_drew ?_))); (case side2 => exact HC1.out); rintro e w6 ⟨v106, rfl, ho0, hb⟩; refine ⟨_, rfl, ?_⟩; have n0_ := Aside0.mk (Kd.R_lower ho0 (below_size (by repeat (first | (with_reducible first | exact HB.out | apply below_alloc | apply pw_below_drewN | apply below_drew1 | refine below_set ?_ GE104.out) | exact HB.out)))); have n1_ := Aside0.mk (blk_below (g := gb104) (o := .cells #[.int .i64 a0_0, .int .i64 a0_1] 54 (0, 0)) (by (with_reducible repeat (first | refine blk_drewN ?_ _ | refine blk_drew ?_ | refine blk_alloc ?_ _)); exact BK104.out) hb); have n2_ := Aside0.mk (below_step (by repeat (first | (with_reducible first | exact HB.out | apply below_alloc | apply pw_below_drewN | apply below_drew1 | refine below_set ?_ GE104.out) | exact HB.out)) hb); clear BK104; clear HB; have HO107 := n0_; have BK104 := n1_; have HB := n2_; clear n0_ n1_ n2_; (try clear hb); (try clear hb2); (try clear hk); (try clear hi); (try clear ho0)) | ((with_reducible refine gate_callee (f := 95) rfl ?_); refine goesL_ (some 12) rfl rfl Try.func95 (by kernel_rfl) rfl #[.slice A1 l1.length c1] rfl (by (try simp only [List.map_toArray, List.map_cons, List.map_nil]); first | done | rfl | (simp only [List.length_drop, List.length_take]; rfl)) ?_; (with_reducible refine (impl_length_int64.calls _ _ l1 t108 _ ?side1 ?side2 A4.out).mono ?_); (case side1 => repeat (first | exact (Kd.C_below HR1.out HB.out) | (with_reducible refine Kd.C_alloc ?_ _) | (with_reducible refine Kd.C_drewN ?_ _) | (with_reducible refine Kd.C_drew ?_))); (case side2 => exact HC1.out); rintro e w' ⟨rfl, ⟨nd, rfl⟩⟩; refine ⟨_, rfl, ?_⟩))
 go_loopg [13] k (fun kq v13 w' => ∃ (x5_1 : List Int) (x13_1 : Int), v13 = .int .i64 x13_1 ∧ Aside0 (impl_exchanged.l0 kq l1 x5_1 t108 x13_1 a0_0 a0_1 = some r) ∧ Aside0 (kq ≤ k) ∧ Aside0 (Kd.R (Kd.int .i64) 2 w' w.heap.size (fun _ => True) v106 x5_1) ∧ Aside0 (w'.heap[gb104]? = some (.cells #[.int .i64 a0_0, .int .i64 a0_1] 54 (0, 0))) ∧ Aside0 (Below w.heap.size w w'))
 case atStart => exact ⟨(t105), (0), (by first | rfl | (simp; done) | (simp [*]; done)), H', ⟨Nat.le_refl _⟩, ⟨by (with_reducible repeat (first | apply Kd.R_alloc | apply Kd.R_drewN | apply Kd.R_drew)); exact HO107.out⟩, ⟨by (with_reducible repeat (first | refine blk_drewN ?_ _ | refine blk_drew ?_ | refine blk_alloc ?_ _)); exact BK104.out⟩, ⟨by repeat (first | (with_reducible first | exact HB.out | apply below_alloc | apply pw_below_drewN | apply below_drew1 | refine below_set ?_ GE104.out) | exact HB.out)⟩⟩
 case round =>
  clear H'
  try clear c1
  try clear p2
  obtain ⟨x5_1, x13_1, rfl, HA, HK1, HO_5, BK104, HB⟩ := hrel
  cases gk with
  | zero => exact absurd HA.out (by simp [impl_exchanged.l0])
  | succ k1 =>
   have H := HA.out
   clear HA
   simp only [impl_exchanged.l0] at H
   by_cases c7 : x13_1 < t108
   ·rw [if_pos c7] at H
    have c7b0 : decide (x13_1 < t108) = true := decide_eq_true c7
    clear c7
    by_cases c8 : (Go.bits .and .i64 x13_1 a0_0) = 0
    ·rw [if_pos c8] at H
     have c8b0 : ((Go.bits .and .i64 x13_1 a0_0) == 0) = true := beq_iff_eq.mpr c8
     have c8b1 : ((Go.bits .and .i64 x13_1 a0_0) != 0) = false := bne_eq_false_iff_eq.mpr c8
     clear c8
     by_cases c9 : 0 ≤ x13_1
     ·rw [if_pos c9] at H
      have c9b0 : decide (0 ≤ x13_1) = true := decide_eq_true c9
      clear c9
      by_cases c10 : x13_1 < (l1.length : Int)
      ·rw [if_pos c10] at H
       have c10b0 : decide (x13_1 < (l1.length : Int)) = true := decide_eq_true c10
       clear c10
       obtain ⟨ji11, hji11⟩ : ∃ j_ : Int, (wrap64 (x13_1 + a0_0)) = j_ := ⟨_, rfl⟩
       replace H : (if 0 ≤ (ji11) then (if (ji11) < (l1.length : Int) then ((impl_length_int64.f l1).bind fun t113 => (if (Go.bits .and .i64 (Go.bits .and .i64 x13_1 a0_1) (wrap64 (t113 - 1))) = 0 then (if x13_1 < (x5_1.length : Int) then (if (ji11) < (x5_1.length : Int) then (impl_exchanged.l0 k1 l1 ((x5_1.set (x13_1 : Int).toNat (mn (rd l1 x13_1) (rd l1 (ji11)))).set ((ji11) : Int).toNat (mx (rd l1 x13_1) (rd l1 (ji11)))) t108 (wrap64 (x13_1 + 1)) a0_0 a0_1) else (none)) else (none)) else (if x13_1 < (x5_1.length : Int) then (if (ji11) < (x5_1.length : Int) then (impl_exchanged.l0 k1 l1 ((x5_1.set (x13_1 : Int).toNat (mx (rd l1 x13_1) (rd l1 (ji11)))).set ((ji11) : Int).toNat (mn (rd l1 x13_1) (rd l1 (ji11)))) t108 (wrap64 (x13_1 + 1)) a0_0 a0_1) else (none)) else (none)))) else (none)) else (none)) = some r := by first | (rw [hji11] at H; exact H) | (simp only [hji11] at H ⊢; exact H)
       have hji11w : (IntKind.i64.wrap (x13_1 + a0_0)) = ji11 := (i64_w _).trans hji11
       by_cases c12 : 0 ≤ (ji11)
       ·rw [if_pos c12] at H
        have c12b0 : decide (0 ≤ (ji11)) = true := decide_eq_true c12
        clear c12
        by_cases c13 : (ji11) < (l1.length : Int)
        ·rw [if_pos c13] at H
         have c13b0 : decide ((ji11) < (l1.length : Int)) = true := decide_eq_true c13
         clear c13
         obtain ⟨ji14, hji14⟩ : ∃ j_ : Int, (mn (rd l1 x13_1) (rd l1 (ji11))) = j_ := ⟨_, rfl⟩
         replace H : ((impl_length_int64.f l1).bind fun t113 => (if (Go.bits .and .i64 (Go.bits .and .i64 x13_1 a0_1) (wrap64 (t113 - 1))) = 0 then (if x13_1 < (x5_1.length : Int) then (if (ji11) < (x5_1.length : Int) then (impl_exchanged.l0 k1 l1 ((x5_1.set (x13_1 : Int).toNat (ji14)).set ((ji11) : Int).toNat (mx (rd l1 x13_1) (rd l1 (ji11)))) t108 (wrap64 (x13_1 + 1)) a0_0 a0_1) else (none)) else (none)) else (if x13_1 < (x5_1.length : Int) then (if (ji11) < (x5_1.length : Int) then (impl_exchanged.l0 k1 l1 ((x5_1.set (x13_1 : Int).toNat (mx (rd l1 x13_1) (rd l1 (ji11)))).set ((ji11) : Int).toNat (ji14)) t108 (wrap64 (x13_1 + 1)) a0_0 a0_1) else (none)) else (none)))) = some r := by first | (rw [hji14] at H; exact H) | (simp only [hji14] at H ⊢; exact H)
         have hji14_ : (if (rd l1 (ji11)) < (rd l1 x13_1) then (rd l1 (ji11)) else (rd l1 x13_1)) = ji14 := hji14
         obtain ⟨ji15, hji15⟩ : ∃ j_ : Int, (mx (rd l1 x13_1) (rd l1 (ji11))) = j_ := ⟨_, rfl⟩
         replace H : ((impl_length_int64.f l1).bind fun t113 => (if (Go.bits .and .i64 (Go.bits .and .i64 x13_1 a0_1) (wrap64 (t113 - 1))) = 0 then (if x13_1 < (x5_1.length : Int) then (if (ji11) < (x5_1.length : Int) then (impl_exchanged.l0 k1 l1 ((x5_1.set (x13_1 : Int).toNat (ji14)).set ((ji11) : Int).toNat (ji15)) t108 (wrap64 (x13_1 + 1)) a0_0 a0_1) else (none)) else (none)) else (if x13_1 < (x5_1.length : Int) then (if (ji11) < (x5_1.length : Int) then (impl_exchanged.l0 k1 l1 ((x5_1.set (x13_1 : Int).toNat (ji15)).set ((ji11) : Int).toNat (ji14)) t108 (wrap64 (x13_1 + 1)) a0_0 a0_1) else (none)) else (none)))) = some r := by first | (rw [hji15] at H; exact H) | (simp only [hji15] at H ⊢; exact H)
         have hji15_ : (if (rd l1 x13_1) < (rd l1 (ji11)) then (rd l1 (ji11)) else (rd l1 x13_1)) = ji15 := hji15
         replace H := Option.bind_eq_some_iff.mp H
         obtain ⟨t113, A160, H⟩ := H
         replace H : (if (Go.bits .and .i64 (Go.bits .and .i64 x13_1 a0_1) (wrap64 (t113 - 1))) = 0 then (if x13_1 < (x5_1.length : Int) then (if (ji11) < (x5_1.length : Int) then (impl_exchanged.l0 k1 l1 ((x5_1.set (x13_1 : Int).toNat (ji14)).set ((ji11) : Int).toNat (ji15)) t108 (wrap64 (x13_1 + 1)) a0_0 a0_1) else (none)) else (none)) else (if x13_1 < (x5_1.length : Int) then (if (ji11) < (x5_1.length : Int) then (impl_exchanged.l0 k1 l1 ((x5_1.set (x13_1 : Int).toNat (ji15)).set ((ji11) : Int).toNat (ji14)) t108 (wrap64 (x13_1 + 1)) a0_0 a0_1) else (none)) else (none))) = some r := H
         have A16 := Aside0.mk A160
         clear A160
         by_cases c17 : (Go.bits .and .i64 (Go.bits .and .i64 x13_1 a0_1) (wrap64 (t113 - 1))) = 0
         ·rw [if_pos c17] at H
          have c17b0 : ((Go.bits .and .i64 (Go.bits .and .i64 x13_1 a0_1) (wrap64 (t113 - 1))) == 0) = true := beq_iff_eq.mpr c17
          have c17b1 : ((Go.bits .and .i64 (Go.bits .and .i64 x13_1 a0_1) (wrap64 (t113 - 1))) != 0) = false := bne_eq_false_iff_eq.mpr c17
          clear c17
          by_cases c18 : x13_1 < (x5_1.length : Int)
          ·rw [if_pos c18] at H
           have c18b0 : decide (x13_1 < (x5_1.length : Int)) = true := decide_eq_true c18
           clear c18
           obtain ⟨y114, hy114⟩ : ∃ y_ : List Int, y_ = (x5_1.set (x13_1 : Int).toNat (ji14)) := ⟨_, rfl⟩
           replace H : (if (ji11) < (x5_1.length : Int) then (impl_exchanged.l0 k1 l1 (y114.set ((ji11) : Int).toNat (ji15)) t108 (wrap64 (x13_1 + 1)) a0_0 a0_1) else (none)) = some r := by first | (rw [hy114]; with_reducible exact H) | (have H2_ := (Option.bind_some _ _).symm.trans H; rw [hy114]; with_reducible exact H2_) | (have H2_ := (Option.bind_some _ _).symm.trans H; with_reducible exact H2_) | with_reducible exact H | (rw [hy114]; exact H) | exact H
           have Ny114 := Aside0.mk hy114
           clear hy114
           by_cases c20 : (ji11) < (x5_1.length : Int)
           ·rw [if_pos c20] at H
            have c20b0 : decide ((ji11) < (x5_1.length : Int)) = true := decide_eq_true c20
            clear c20
            obtain ⟨y115, hy115⟩ : ∃ y_ : List Int, y_ = (y114.set ((ji11) : Int).toNat (ji15)) := ⟨_, rfl⟩
            replace H : (impl_exchanged.l0 k1 l1 y115 t108 (wrap64 (x13_1 + 1)) a0_0 a0_1) = some r := by first | (rw [hy115]; with_reducible exact H) | (have H2_ := (Option.bind_some _ _).symm.trans H; rw [hy115]; with_reducible exact H2_) | (have H2_ := (Option.bind_some _ _).symm.trans H; with_reducible exact H2_) | with_reducible exact H | (rw [hy115]; exact H) | exact H
            have Ny115 := Aside0.mk hy115
            clear hy115
            have H' := Aside0.mk H
            clear H
            have hcz22_0 : wr.cell? ⟨gb104, 0, none⟩ = some (.int .i64 a0_0) := (blk_cell (w := wr) BK104.out 0).trans rfl
            have hcz22_1 : wr.cell? ⟨gb104, 1, none⟩ = some (.int .i64 a0_1) := (blk_cell (w := wr) BK104.out 1).trans rfl
            have hfz22_0 := blk_frozen (w := wr) BK104.out 0
            have hfz22_1 := blk_frozen (w := wr) BK104.out 1
            try go_wp2
            have n0_ := Aside0.mk (Kd.R_drew HO_5.out)
            have n1_ := Aside0.mk (blk_drew BK104.out)
            have n2_ := Aside0.mk (below_drew1 HB.out)
            clear HO_5
            clear BK104
            clear HB
            have HO_5 := n0_
            have BK104 := n1_
            have HB := n2_
            clear n0_ n1_ n2_
            have p109 : 0 ≤ (x13_1 : Int) := of_decide_eq_true (by first | (with_reducible assumption) | assumption)
            have q109 : x13_1 < (l1.length : Int) := of_decide_eq_true (by first | (with_reducible assumption) | assumption)
            obtain ⟨ad109, e109, hx109_0⟩ := Kd.at_int HR1.out x13_1 p109 q109
            have hw109_0 := hx109_0
            cases e109
            replace hx109_0 := (HB.out.cell (World.block_lt_of_cell? w _ hx109_0)).trans hx109_0
            replace p109 := eq_true p109
            replace q109 := eq_true q109
            have p110 : 0 ≤ ((ji11) : Int) := of_decide_eq_true (by first | (with_reducible assumption) | assumption)
            have q110 : (ji11) < (l1.length : Int) := of_decide_eq_true (by first | (with_reducible assumption) | assumption)
            obtain ⟨ad110, e110, hx110_0⟩ := Kd.at_int HR1.out (ji11) p110 q110
            have hw110_0 := hx110_0
            obtain rfl : ad109 = ad110 := (by injection e110)
            replace hx110_0 := (HB.out.cell (World.block_lt_of_cell? w _ hx110_0)).trans hx110_0
            replace p110 := eq_true p110
            replace q110 := eq_true q110
            have p111 : 0 ≤ (x13_1 : Int) := of_decide_eq_true (by first | (with_reducible assumption) | assumption)
            have q111 : x13_1 < (l1.length : Int) := of_decide_eq_true (by first | (with_reducible assumption) | assumption)
            obtain ⟨ad111, e111, hx111_0⟩ := Kd.at_int HR1.out x13_1 p111 q111
            have hw111_0 := hx111_0
            obtain rfl : ad109 = ad111 := (by injection e111)
            replace hx111_0 := (HB.out.cell (World.block_lt_of_cell? w _ hx111_0)).trans hx111_0
            replace p111 := eq_true p111
            replace q111 := eq_true q111
            have p112 : 0 ≤ ((ji11) : Int) := of_decide_eq_true (by first | (with_reducible assumption) | assumption)
            have q112 : (ji11) < (l1.length : Int) := of_decide_eq_true (by first | (with_reducible assumption) | assumption)
            obtain ⟨ad112, e112, hx112_0⟩ := Kd.at_int HR1.out (ji11) p112 q112
            have hw112_0 := hx112_0
            obtain rfl : ad109 = ad112 := (by injection e112)
            replace hx112_0 := (HB.out.cell (World.block_lt_of_cell? w _ hx112_0)).trans hx112_0
            replace p112 := eq_true p112
            replace q112 := eq_true q112
            refine start_ (n := 26) (S := fun w' => w'.cell? ⟨gb104, 0, none⟩ = some (.int .i64 a0_0) ∧ w'.cell? ⟨gb104, 1, none⟩ = some (.int .i64 a0_1) ∧ w'.cell? (ad109.add (x13_1).toNat) = some (.int .i64 (rd l1 x13_1)) ∧ w'.cell? (ad109.add ((ji11)).toNat) = some (.int .i64 (rd l1 (ji11))) ∧ w'.cell? (ad109.add (x13_1).toNat) = some (.int .i64 (rd l1 x13_1)) ∧ w'.cell? (ad109.add ((ji11)).toNat) = some (.int .i64 (rd l1 (ji11)))) (ds := []) (zm_.bm 26 0) (by kernel_rfl) rfl rfl ⟨(blk_cell BK104.out 0).trans rfl, (blk_cell BK104.out 1).trans rfl, ((HB.out.cell (World.block_lt_of_cell? w _ hw109_0)).trans hw109_0), ((HB.out.cell (World.block_lt_of_cell? w _ hw110_0)).trans hw110_0), ((HB.out.cell (World.block_lt_of_cell? w _ hw111_0)).trans hw111_0), ((HB.out.cell (World.block_lt_of_cell? w _ hw112_0)).trans hw112_0)⟩ (fun hHeld => ?_); refine with_tabW impl_exchanged.tab6 impl_exchanged.bits6 (fun HT_ HW_ => ?_)
            generalize wr.drew = w23 at HO_5 BK104 HB hx109_0 hx110_0 hx111_0 hx112_0 hHeld ⊢
            refine zm_.pa (i := 0) (N := some 21) (zm_.bm 26 1) HT_.out ?_
            refine zm_.pa (i := 1) (N := some 22) (zm_.bm 26 3) HT_.out ?_
            refine zm_.pa (i := 2) (N := some 23) (zm_.bm 26 7) HT_.out ?_
            refine zm_.pa (i := 4) (N := some 25) (zm_.bm 26 23) HT_.out ?_
            refine zm_.pa (i := 5) (N := some 26) (zm_.bm 26 55) HT_.out ?_
            refine zm_.pa (i := 6) (N := some 27) (zm_.bm 26 119) HT_.out ?_
            refine zm_.pa (i := 12) (N := some 33) (zm_.bm 26 4215) HT_.out ?_
            refine zm_.pa (i := 13) (N := some 34) (zm_.bm 26 12407) HT_.out ?_
            refine zm_.pa (i := 14) (N := some 35) (zm_.bm 26 28791) HT_.out ?_
            refine zm_.pa (i := 16) (N := some 37) (zm_.bm 26 94327) HT_.out ?_
            refine zm_.pa (i := 17) (N := some 38) (zm_.bm 26 225399) HT_.out ?_
            refine zm_.pa (i := 18) (N := some 39) (zm_.bm 26 487543) HT_.out ?_
            refine zm_.ta (i := 3) (N := some 24) (zm_.bm 26 487551) rfl (take_ofW HT_.out HW_.out (by kernel_rfl)) (Or.inl ⟨by rfl, by rintro w' ⟨s0, s1, s2, s3, s4, s5⟩; go_simp; with_reducible rfl⟩) hHeld ?_
            refine zm_.ta (i := 7) (N := some 28) (zm_.bm 26 487679) rfl (take_ofW HT_.out HW_.out (by kernel_rfl)) (Or.inl ⟨by rfl, by rintro w' ⟨s0, s1, s2, s3, s4, s5⟩; go_simp; with_reducible rfl⟩) hHeld ?_
            refine zm_.pa (i := 8) (N := some 29) (zm_.bm 26 487935) HT_.out ?_
            refine zm_.pa (i := 9) (N := some 30) (zm_.bm 26 488447) HT_.out ?_
            refine zm_.ta (i := 10) (N := some 31) (zm_.bm 26 489471) rfl (take_ofW HT_.out HW_.out (by kernel_rfl)) (Or.inl ⟨by rfl, by rintro w' ⟨s0, s1, s2, s3, s4, s5⟩; go_simp; with_reducible rfl⟩) hHeld ?_
            refine zm_.pa (i := 11) (N := some 32) (zm_.bm 26 491519) HT_.out ?_
            refine zm_.pa (i := 24) (N := some 7) (zm_.bm 26 17268735) HT_.out ?_
            refine zm_.ta (i := 15) (N := some 36) (zm_.bm 26 17301503) rfl (take_ofW HT_.out HW_.out (by kernel_rfl)) (Or.inl ⟨by rfl, by rintro w' ⟨s0, s1, s2, s3, s4, s5⟩; go_simp; with_reducible rfl⟩) hHeld ?_
            refine zm_.ta (i := 19) (N := some 40) (zm_.bm 26 17825791) rfl (take_ofW HT_.out HW_.out (by kernel_rfl)) (Or.inl ⟨by rfl, by rintro w' ⟨s0, s1, s2, s3, s4, s5⟩; go_simp; with_reducible rfl⟩) hHeld ?_
            refine zm_.pa (i := 20) (N := some 41) (zm_.bm 26 18874367) HT_.out ?_
            refine zm_.pa (i := 21) (N := some 42) (zm_.bm 26 20971519) HT_.out ?_
            refine zm_.ta (i := 22) (N := some 43) (zm_.bm 26 25165823) rfl (take_ofW HT_.out HW_.out (by kernel_rfl)) (Or.inl ⟨by rfl, by rintro w' ⟨s0, s1, s2, s3, s4, s5⟩; go_simp; with_reducible rfl⟩) hHeld ?_
            refine zm_.pa (i := 23) (N := some 44) (zm_.bm 26 33554431) HT_.out ?_
            refine zm_.pa (i := 25) (N := some 8) (zm_.bm 26 67108863) HT_.out ?_
            refine done_ (done_of HT_.out (by kernel_rfl)) ?_
            try go_wp2
            have n0_ := Aside0.mk (Kd.R_drew HO_5.out)
            have n1_ := Aside0.mk (blk_drew BK104.out)
            have n2_ := Aside0.mk (below_drew1 HB.out)
            clear HO_5
            clear BK104
            clear HB
            have HO_5 := n0_
            have BK104 := n1_
            have HB := n2_
            clear n0_ n1_ n2_
            refine start_ (n := 9) (S := fun w' => w'.cell? ⟨gb104, 0, none⟩ = some (.int .i64 a0_0) ∧ w'.cell? ⟨gb104, 1, none⟩ = some (.int .i64 a0_1)) (ds := []) (zm_.bm 9 0) (by kernel_rfl) rfl rfl ⟨(blk_cell BK104.out 0).trans rfl, (blk_cell BK104.out 1).trans rfl⟩ (fun hHeld => ?_); refine with_tabW impl_exchanged.tab7 impl_exchanged.bits7 (fun HT_ HW_ => ?_)
            generalize w23.drew = w24 at HO_5 BK104 HB hHeld ⊢
            refine zm_.pa (i := 0) (N := some 45) (zm_.bm 9 1) HT_.out ?_
            refine zm_.pa (i := 1) (N := some 46) (zm_.bm 9 3) HT_.out ?_
            refine zm_.pa (i := 4) (N := some 49) (zm_.bm 9 19) HT_.out ?_
            refine zm_.ta (i := 2) (N := some 47) (zm_.bm 9 23) rfl (take_ofW HT_.out HW_.out (by kernel_rfl)) (Or.inl ⟨by rfl, by rintro w' ⟨s0, s1⟩; go_simp; with_reducible rfl⟩) hHeld ?_
            refine zm_.pa (i := 3) (N := some 48) (zm_.bm 9 31) HT_.out ?_
            refine one_ (i := 5) (N := some 50) (zm_.bm 9 63) rfl rfl (one_of HT_.out (by kernel_rfl)) (by decide) (fun K hK => ?_)
            refine goes_ Try.func95 (by kernel_rfl) rfl #[.slice (some ad109) l1.length c1] (by rfl) rfl rfl (by (try simp only [List.map_toArray, List.map_cons, List.map_nil]); first | done | rfl | (simp only [List.length_drop, List.length_take]; rfl)) ?_
            with_reducible refine (impl_length_int64.calls _ _ l1 t113 _ ?side1 ?side2 A16.out).mono ?_
            (case side1 => repeat (first | exact (Kd.C_below HR1.out HB.out) | (with_reducible refine Kd.C_alloc ?_ _) | (with_reducible refine Kd.C_drewN ?_ _) | (with_reducible refine Kd.C_drew ?_)))
            (case side2 => exact HC1.out)
            rintro e w' ⟨rfl, ⟨nd, rfl⟩⟩
            refine ⟨_, rfl, ?_⟩
            refine hK.out _ _ ⟨(blk_cell BK104.out 0).trans rfl, (blk_cell BK104.out 1).trans rfl⟩ (fun hHeld => ?_)
            clear hK K
            refine norm_ (a' := ?_) ?_ ?_
            rotate_left
            ·show Act.put _ (some 50) _ = _
             simp only [Act.put, List.setIfInBounds_toArray, List.set_cons_zero, List.set_cons_succ, i64_w, i32_w]
             rfl
            refine zm_.pa (i := 6) (N := some 51) (zm_.bm 9 127) HT_.out ?_
            refine zm_.pa (i := 7) (N := some 52) (zm_.bm 9 255) HT_.out ?_
            refine zm_.pa (i := 8) (N := some 53) (zm_.bm 9 511) HT_.out ?_
            refine done_ (done_of HT_.out (by kernel_rfl)) ?_
            try go_wp2
            (try (rw [drewN_self w24]; generalize hq_ : World.drewN w24 _ = w24; have n0_ : Aside0 (Kd.R (Kd.int .i64) 2 w24 w.heap.size (fun _ => True) v106 x5_1) := ⟨by rw [← hq_]; exact (by (with_reducible repeat (first | apply Kd.R_alloc | apply Kd.R_drewN | apply Kd.R_drew)); exact HO_5.out)⟩; have n1_ : Aside0 (w24.heap[gb104]? = some (.cells #[.int .i64 a0_0, .int .i64 a0_1] 54 (0, 0))) := ⟨by rw [← hq_]; exact (by (with_reducible repeat (first | refine blk_drewN ?_ _ | refine blk_drew ?_ | refine blk_alloc ?_ _)); exact BK104.out)⟩; have n2_ : Aside0 (Below w.heap.size w w24) := ⟨by rw [← hq_]; exact (by repeat (first | (with_reducible first | exact HB.out | apply below_alloc | apply pw_below_drewN | apply below_drew1 | refine below_set ?_ GE104.out) | exact HB.out))⟩; clear HO_5 BK104 HB hq_; have HO_5 := n0_; have BK104 := n1_; have HB := n2_; clear n0_ n1_ n2_))
            have n0_ := Aside0.mk (Kd.R_drew HO_5.out)
            have n1_ := Aside0.mk (blk_drew BK104.out)
            have n2_ := Aside0.mk (below_drew1 HB.out)
            clear HO_5
            clear BK104
            clear HB
            have HO_5 := n0_
            have BK104 := n1_
            have HB := n2_
            clear n0_ n1_ n2_
            have p19 : 0 ≤ (x13_1 : Int) := of_decide_eq_true (by first | (with_reducible assumption) | assumption)
            have q19 : (x13_1 : Int) < ((x5_1.length : Int) : Int) := of_decide_eq_true (by first | (with_reducible assumption) | assumption)
            obtain ⟨go19, co19, eo19, gb19, gl19, cl19, HG19⟩ := Kd.R_form HO_5.out (by omega)
            (first | cases eo19 | (injection eo19 with ea_ en_ ec_; (first | subst ea_ | (injection ea_ with ea_; subst ea_)); subst ec_; clear en_))
            have GB19 := Aside0.mk gb19
            have GG19 := Aside0.mk HG19
            clear gb19 gl19 HG19
            obtain ⟨hx19_0, hf19_0⟩ := Kd.R_celln 0 HO_5.out (x13_1 : Int) p19 q19
            replace p19 := eq_true p19
            replace q19 := eq_true q19
            have HP26 := Kd.R_putn HO_5.out (x13_1 : Int) ji14
            rw [← Ny114.out] at HP26
            have HQ26 := Aside0.mk HP26
            clear HP26
            have p21 : 0 ≤ ((ji11) : Int) := of_decide_eq_true (by first | (with_reducible assumption) | assumption)
            have q21 : ((ji11) : Int) < ((x5_1.length : Int) : Int) := of_decide_eq_true (by first | (with_reducible assumption) | assumption)
            obtain ⟨hx21_0, hf21_0⟩ := Kd.R_celln 0 HQ26.out ((ji11) : Int) p21 q21
            replace p21 := eq_true p21
            replace q21 := eq_true q21
            have HP27 := Kd.R_putn HQ26.out ((ji11) : Int) ji15
            rw [← Ny115.out] at HP27
            have HQ27 := Aside0.mk HP27
            clear HP27
            refine start_ (n := 13) (S := fun w' => w'.cell? ⟨gb104, 0, none⟩ = some (.int .i64 a0_0) ∧ w'.cell? ⟨gb104, 1, none⟩ = some (.int .i64 a0_1)) (ds := []) (zm_.bm 13 0) (by kernel_rfl) rfl rfl ⟨(blk_cell BK104.out 0).trans rfl, (blk_cell BK104.out 1).trans rfl⟩ (fun hHeld => ?_); refine with_tabW impl_exchanged.tab9 impl_exchanged.bits9 (fun HT_ HW_ => ?_)
            generalize w24.drew = w25 at HO_5 BK104 HB GG19 HQ26 HQ27 hf19_0 hf21_0 hx19_0 hx21_0 hHeld ⊢
            refine zm_.pa (i := 0) (N := some 56) (zm_.bm 13 1) HT_.out ?_
            refine zm_.pa (i := 1) (N := some 57) (zm_.bm 13 3) HT_.out ?_
            refine zm_.pa (i := 2) (N := some 58) (zm_.bm 13 7) HT_.out ?_
            refine zm_.pa (i := 3) (N := some 59) (zm_.bm 13 15) HT_.out ?_
            refine zm_.pa (i := 4) (N := some 60) (zm_.bm 13 31) HT_.out ?_
            refine zm_.pa (i := 7) (N := some 63) (zm_.bm 13 159) HT_.out ?_
            refine zm_.pa (i := 8) (N := some 64) (zm_.bm 13 415) HT_.out ?_
            refine zm_.pa (i := 9) (N := some 65) (zm_.bm 13 927) HT_.out ?_
            refine zm_.ta (i := 5) (N := some 61) (zm_.bm 13 959) rfl (take_ofW HT_.out HW_.out (by kernel_rfl)) (Or.inl ⟨by rfl, by rintro w' ⟨s0, s1⟩; go_simp; with_reducible rfl⟩) hHeld ?_
            refine zm_.pa (i := 6) (N := some 62) (zm_.bm 13 1023) HT_.out ?_
            refine one_ (i := 10) (N := none) (zm_.bm 13 2047) rfl rfl (one_of HT_.out (by kernel_rfl)) (by decide) (fun K hK => ?_)
            refine skip_ (w1 := ?_) (by rfl) rfl ?_ ?_
            rotate_left
            ·go_simp
             rfl
            refine hK.out _ _ ⟨((cell_far (p := ⟨go19, _, none⟩) (by have h_ := Kd.R_ne HO_5.out BK104.out (by decide); intro e_; exact h_ (by first | (rw [e_]; rfl) | exact congrArg some e_ | exact congrArg some e_.symm)) _).trans (hHeld.1)), ((cell_far (p := ⟨go19, _, none⟩) (by have h_ := Kd.R_ne HO_5.out BK104.out (by decide); intro e_; exact h_ (by first | (rw [e_]; rfl) | exact congrArg some e_ | exact congrArg some e_.symm)) _).trans (hHeld.2))⟩ (fun hHeld => ?_)
            clear hK K
            refine zm_.pa (i := 11) (N := some 66) (zm_.bm 13 4095) HT_.out ?_
            refine one_ (i := 12) (N := none) (zm_.bm 13 8191) rfl rfl (one_of HT_.out (by kernel_rfl)) (by decide) (fun K hK => ?_)
            refine skip_ (w1 := ?_) (by rfl) rfl ?_ ?_
            rotate_left
            ·go_simp
             rfl
            refine hK.out _ _ ⟨((cell_far (p := ⟨go19, _, none⟩) (by have h_ := Kd.R_ne HO_5.out BK104.out (by decide); intro e_; exact h_ (by first | (rw [e_]; rfl) | exact congrArg some e_ | exact congrArg some e_.symm)) _).trans (hHeld.1)), ((cell_far (p := ⟨go19, _, none⟩) (by have h_ := Kd.R_ne HO_5.out BK104.out (by decide); intro e_; exact h_ (by first | (rw [e_]; rfl) | exact congrArg some e_ | exact congrArg some e_.symm)) _).trans (hHeld.2))⟩ (fun hHeld => ?_)
            clear hK K
            refine done_ (done_of HT_.out (by kernel_rfl)) ?_
            try go_wp2
            go_roundg k1
            case measure => have := HK1.out; omega
            case rel => exact ⟨(y115), (wrap64 (x13_1 + 1)), (by first | rfl | (simp; done) | (simp [*]; done)), H', ⟨by have := HK1.out; omega⟩, ⟨by (with_reducible repeat (first | apply Kd.R_alloc | apply Kd.R_drewN | apply Kd.R_drew)); exact HQ27.out⟩, ⟨by (with_reducible repeat (first | refine blk_drewN ?_ _ | refine blk_drew ?_ | refine blk_alloc ?_ _)); refine blk_far ?_ (by have h_ := Kd.R_ne HO_5.out BK104.out (by decide); intro e_; exact h_ (by first | (rw [e_]; rfl) | exact congrArg some e_ | exact congrArg some e_.symm)) _; (with_reducible repeat (first | refine blk_drewN ?_ _ | refine blk_drew ?_ | refine blk_alloc ?_ _)); refine blk_far ?_ (by have h_ := Kd.R_ne HO_5.out BK104.out (by decide); intro e_; exact h_ (by first | (rw [e_]; rfl) | exact congrArg some e_ | exact congrArg some e_.symm)) _; (with_reducible repeat (first | refine blk_drewN ?_ _ | refine blk_drew ?_ | refine blk_alloc ?_ _)); exact BK104.out⟩, ⟨by repeat (first | (with_reducible first | exact HB.out | apply below_alloc | apply pw_below_drewN | apply below_drew1 | refine below_set ?_ GB19.out | refine below_set ?_ GB19.out | refine below_set ?_ GE104.out) | exact HB.out)⟩⟩
           ·rw [if_neg c20] at H
            exact absurd H (by simp)
          ·rw [if_neg c18] at H
           exact absurd H (by simp)
         ·rw [if_neg c17] at H
          have c17b0 : ((Go.bits .and .i64 (Go.bits .and .i64 x13_1 a0_1) (wrap64 (t113 - 1))) == 0) = false := beq_eq_false_iff_ne.mpr c17
          have c17b1 : ((Go.bits .and .i64 (Go.bits .and .i64 x13_1 a0_1) (wrap64 (t113 - 1))) != 0) = true := bne_iff_ne.mpr c17
          by_cases c28 : x13_1 < (x5_1.length : Int)
          ·rw [if_pos c28] at H
           have c28b0 : decide (x13_1 < (x5_1.length : Int)) = true := decide_eq_true c28
           clear c28
           obtain ⟨y116, hy116⟩ : ∃ y_ : List Int, y_ = (x5_1.set (x13_1 : Int).toNat (ji15)) := ⟨_, rfl⟩
           replace H : (if (ji11) < (x5_1.length : Int) then (impl_exchanged.l0 k1 l1 (y116.set ((ji11) : Int).toNat (ji14)) t108 (wrap64 (x13_1 + 1)) a0_0 a0_1) else (none)) = some r := by first | (rw [hy116]; with_reducible exact H) | (have H2_ := (Option.bind_some _ _).symm.trans H; rw [hy116]; with_reducible exact H2_) | (have H2_ := (Option.bind_some _ _).symm.trans H; with_reducible exact H2_) | with_reducible exact H | (rw [hy116]; exact H) | exact H
           have Ny116 := Aside0.mk hy116
           clear hy116
           by_cases c30 : (ji11) < (x5_1.length : Int)
           ·rw [if_pos c30] at H
            have c30b0 : decide ((ji11) < (x5_1.length : Int)) = true := decide_eq_true c30
            clear c30
            obtain ⟨y117, hy117⟩ : ∃ y_ : List Int, y_ = (y116.set ((ji11) : Int).toNat (ji14)) := ⟨_, rfl⟩
            replace H : (impl_exchanged.l0 k1 l1 y117 t108 (wrap64 (x13_1 + 1)) a0_0 a0_1) = some r := by first | (rw [hy117]; with_reducible exact H) | (have H2_ := (Option.bind_some _ _).symm.trans H; rw [hy117]; with_reducible exact H2_) | (have H2_ := (Option.bind_some _ _).symm.trans H; with_reducible exact H2_) | with_reducible exact H | (rw [hy117]; exact H) | exact H
            have Ny117 := Aside0.mk hy117
            clear hy117
            have H' := Aside0.mk H
            clear H
            have hcz32_0 : wr.cell? ⟨gb104, 0, none⟩ = some (.int .i64 a0_0) := (blk_cell (w := wr) BK104.out 0).trans rfl
            have hcz32_1 : wr.cell? ⟨gb104, 1, none⟩ = some (.int .i64 a0_1) := (blk_cell (w := wr) BK104.out 1).trans rfl
            have hfz32_0 := blk_frozen (w := wr) BK104.out 0
            have hfz32_1 := blk_frozen (w := wr) BK104.out 1
            try go_wp2
            have n0_ := Aside0.mk (Kd.R_drew HO_5.out)
            have n1_ := Aside0.mk (blk_drew BK104.out)
            have n2_ := Aside0.mk (below_drew1 HB.out)
            clear HO_5
            clear BK104
            clear HB
            have HO_5 := n0_
            have BK104 := n1_
            have HB := n2_
            clear n0_ n1_ n2_
            have p109 : 0 ≤ (x13_1 : Int) := of_decide_eq_true (by first | (with_reducible assumption) | assumption)
            have q109 : x13_1 < (l1.length : Int) := of_decide_eq_true (by first | (with_reducible assumption) | assumption)
            obtain ⟨ad109, e109, hx109_0⟩ := Kd.at_int HR1.out x13_1 p109 q109
            have hw109_0 := hx109_0
            cases e109
            replace hx109_0 := (HB.out.cell (World.block_lt_of_cell? w _ hx109_0)).trans hx109_0
            replace p109 := eq_true p109
            replace q109 := eq_true q109
            have p110 : 0 ≤ ((ji11) : Int) := of_decide_eq_true (by first | (with_reducible assumption) | assumption)
            have q110 : (ji11) < (l1.length : Int) := of_decide_eq_true (by first | (with_reducible assumption) | assumption)
            obtain ⟨ad110, e110, hx110_0⟩ := Kd.at_int HR1.out (ji11) p110 q110
            have hw110_0 := hx110_0
            obtain rfl : ad109 = ad110 := (by injection e110)
            replace hx110_0 := (HB.out.cell (World.block_lt_of_cell? w _ hx110_0)).trans hx110_0
            replace p110 := eq_true p110
            replace q110 := eq_true q110
            have p111 : 0 ≤ (x13_1 : Int) := of_decide_eq_true (by first | (with_reducible assumption) | assumption)
            have q111 : x13_1 < (l1.length : Int) := of_decide_eq_true (by first | (with_reducible assumption) | assumption)
            obtain ⟨ad111, e111, hx111_0⟩ := Kd.at_int HR1.out x13_1 p111 q111
            have hw111_0 := hx111_0
            obtain rfl : ad109 = ad111 := (by injection e111)
            replace hx111_0 := (HB.out.cell (World.block_lt_of_cell? w _ hx111_0)).trans hx111_0
            replace p111 := eq_true p111
            replace q111 := eq_true q111
            have p112 : 0 ≤ ((ji11) : Int) := of_decide_eq_true (by first | (with_reducible assumption) | assumption)
            have q112 : (ji11) < (l1.length : Int) := of_decide_eq_true (by first | (with_reducible assumption) | assumption)
            obtain ⟨ad112, e112, hx112_0⟩ := Kd.at_int HR1.out (ji11) p112 q112
            have hw112_0 := hx112_0
            obtain rfl : ad109 = ad112 := (by injection e112)
            replace hx112_0 := (HB.out.cell (World.block_lt_of_cell? w _ hx112_0)).trans hx112_0
            replace p112 := eq_true p112
            replace q112 := eq_true q112
            refine start_ (n := 26) (S := fun w' => w'.cell? ⟨gb104, 0, none⟩ = some (.int .i64 a0_0) ∧ w'.cell? ⟨gb104, 1, none⟩ = some (.int .i64 a0_1) ∧ w'.cell? (ad109.add (x13_1).toNat) = some (.int .i64 (rd l1 x13_1)) ∧ w'.cell? (ad109.add ((ji11)).toNat) = some (.int .i64 (rd l1 (ji11))) ∧ w'.cell? (ad109.add (x13_1).toNat) = some (.int .i64 (rd l1 x13_1)) ∧ w'.cell? (ad109.add ((ji11)).toNat) = some (.int .i64 (rd l1 (ji11)))) (ds := []) (zm_.bm 26 0) (by kernel_rfl) rfl rfl ⟨(blk_cell BK104.out 0).trans rfl, (blk_cell BK104.out 1).trans rfl, ((HB.out.cell (World.block_lt_of_cell? w _ hw109_0)).trans hw109_0), ((HB.out.cell (World.block_lt_of_cell? w _ hw110_0)).trans hw110_0), ((HB.out.cell (World.block_lt_of_cell? w _ hw111_0)).trans hw111_0), ((HB.out.cell (World.block_lt_of_cell? w _ hw112_0)).trans hw112_0)⟩ (fun hHeld => ?_); refine with_tabW impl_exchanged.tab6 impl_exchanged.bits6 (fun HT_ HW_ => ?_)
            generalize wr.drew = w33 at HO_5 BK104 HB hx109_0 hx110_0 hx111_0 hx112_0 hHeld ⊢
            refine zm_.pa (i := 0) (N := some 21) (zm_.bm 26 1) HT_.out ?_
            refine zm_.pa (i := 1) (N := some 22) (zm_.bm 26 3) HT_.out ?_
            refine zm_.pa (i := 2) (N := some 23) (zm_.bm 26 7) HT_.out ?_
            refine zm_.pa (i := 4) (N := some 25) (zm_.bm 26 23) HT_.out ?_
            refine zm_.pa (i := 5) (N := some 26) (zm_.bm 26 55) HT_.out ?_
            refine zm_.pa (i := 6) (N := some 27) (zm_.bm 26 119) HT_.out ?_
            refine zm_.pa (i := 12) (N := some 33) (zm_.bm 26 4215) HT_.out ?_
            refine zm_.pa (i := 13) (N := some 34) (zm_.bm 26 12407) HT_.out ?_
            refine zm_.pa (i := 14) (N := some 35) (zm_.bm 26 28791) HT_.out ?_
            refine zm_.pa (i := 16) (N := some 37) (zm_.bm 26 94327) HT_.out ?_
            refine zm_.pa (i := 17) (N := some 38) (zm_.bm 26 225399) HT_.out ?_
            refine zm_.pa (i := 18) (N := some 39) (zm_.bm 26 487543) HT_.out ?_
            refine zm_.ta (i := 3) (N := some 24) (zm_.bm 26 487551) rfl (take_ofW HT_.out HW_.out (by kernel_rfl)) (Or.inl ⟨by rfl, by rintro w' ⟨s0, s1, s2, s3, s4, s5⟩; go_simp; with_reducible rfl⟩) hHeld ?_
            refine zm_.ta (i := 7) (N := some 28) (zm_.bm 26 487679) rfl (take_ofW HT_.out HW_.out (by kernel_rfl)) (Or.inl ⟨by rfl, by rintro w' ⟨s0, s1, s2, s3, s4, s5⟩; go_simp; with_reducible rfl⟩) hHeld ?_
            refine zm_.pa (i := 8) (N := some 29) (zm_.bm 26 487935) HT_.out ?_
            refine zm_.pa (i := 9) (N := some 30) (zm_.bm 26 488447) HT_.out ?_
            refine zm_.ta (i := 10) (N := some 31) (zm_.bm 26 489471) rfl (take_ofW HT_.out HW_.out (by kernel_rfl)) (Or.inl ⟨by rfl, by rintro w' ⟨s0, s1, s2, s3, s4, s5⟩; go_simp; with_reducible rfl⟩) hHeld ?_
            refine zm_.pa (i := 11) (N := some 32) (zm_.bm 26 491519) HT_.out ?_
            refine zm_.pa (i := 24) (N := some 7) (zm_.bm 26 17268735) HT_.out ?_
            refine zm_.ta (i := 15) (N := some 36) (zm_.bm 26 17301503) rfl (take_ofW HT_.out HW_.out (by kernel_rfl)) (Or.inl ⟨by rfl, by rintro w' ⟨s0, s1, s2, s3, s4, s5⟩; go_simp; with_reducible rfl⟩) hHeld ?_
            refine zm_.ta (i := 19) (N := some 40) (zm_.bm 26 17825791) rfl (take_ofW HT_.out HW_.out (by kernel_rfl)) (Or.inl ⟨by rfl, by rintro w' ⟨s0, s1, s2, s3, s4, s5⟩; go_simp; with_reducible rfl⟩) hHeld ?_
            refine zm_.pa (i := 20) (N := some 41) (zm_.bm 26 18874367) HT_.out ?_
            refine zm_.pa (i := 21) (N := some 42) (zm_.bm 26 20971519) HT_.out ?_
            refine zm_.ta (i := 22) (N := some 43) (zm_.bm 26 25165823) rfl (take_ofW HT_.out HW_.out (by kernel_rfl)) (Or.inl ⟨by rfl, by rintro w' ⟨s0, s1, s2, s3, s4, s5⟩; go_simp; with_reducible rfl⟩) hHeld ?_
            refine zm_.pa (i := 23) (N := some 44) (zm_.bm 26 33554431) HT_.out ?_
            refine zm_.pa (i := 25) (N := some 8) (zm_.bm 26 67108863) HT_.out ?_
            refine done_ (done_of HT_.out (by kernel_rfl)) ?_
            try go_wp2
            have n0_ := Aside0.mk (Kd.R_drew HO_5.out)
            have n1_ := Aside0.mk (blk_drew BK104.out)
            have n2_ := Aside0.mk (below_drew1 HB.out)
            clear HO_5
            clear BK104
            clear HB
            have HO_5 := n0_
            have BK104 := n1_
            have HB := n2_
            clear n0_ n1_ n2_
            refine start_ (n := 9) (S := fun w' => w'.cell? ⟨gb104, 0, none⟩ = some (.int .i64 a0_0) ∧ w'.cell? ⟨gb104, 1, none⟩ = some (.int .i64 a0_1)) (ds := []) (zm_.bm 9 0) (by kernel_rfl) rfl rfl ⟨(blk_cell BK104.out 0).trans rfl, (blk_cell BK104.out 1).trans rfl⟩ (fun hHeld => ?_); refine with_tabW impl_exchanged.tab7 impl_exchanged.bits7 (fun HT_ HW_ => ?_)
            generalize w33.drew = w34 at HO_5 BK104 HB hHeld ⊢
            refine zm_.pa (i := 0) (N := some 45) (zm_.bm 9 1) HT_.out ?_
            refine zm_.pa (i := 1) (N := some 46) (zm_.bm 9 3) HT_.out ?_
            refine zm_.pa (i := 4) (N := some 49) (zm_.bm 9 19) HT_.out ?_
            refine zm_.ta (i := 2) (N := some 47) (zm_.bm 9 23) rfl (take_ofW HT_.out HW_.out (by kernel_rfl)) (Or.inl ⟨by rfl, by rintro w' ⟨s0, s1⟩; go_simp; with_reducible rfl⟩) hHeld ?_
            refine zm_.pa (i := 3) (N := some 48) (zm_.bm 9 31) HT_.out ?_
            refine one_ (i := 5) (N := some 50) (zm_.bm 9 63) rfl rfl (one_of HT_.out (by kernel_rfl)) (by decide) (fun K hK => ?_)
            refine goes_ Try.func95 (by kernel_rfl) rfl #[.slice (some ad109) l1.length c1] (by rfl) rfl rfl (by (try simp only [List.map_toArray, List.map_cons, List.map_nil]); first | done | rfl | (simp only [List.length_drop, List.length_take]; rfl)) ?_
            with_reducible refine (impl_length_int64.calls _ _ l1 t113 _ ?side1 ?side2 A16.out).mono ?_
            (case side1 => repeat (first | exact (Kd.C_below HR1.out HB.out) | (with_reducible refine Kd.C_alloc ?_ _) | (with_reducible refine Kd.C_drewN ?_ _) | (with_reducible refine Kd.C_drew ?_)))
            (case side2 => exact HC1.out)
            rintro e w' ⟨rfl, ⟨nd, rfl⟩⟩
            refine ⟨_, rfl, ?_⟩
            refine hK.out _ _ ⟨(blk_cell BK104.out 0).trans rfl, (blk_cell BK104.out 1).trans rfl⟩ (fun hHeld => ?_)
            clear hK K
            refine norm_ (a' := ?_) ?_ ?_
            rotate_left
            ·show Act.put _ (some 50) _ = _
             simp only [Act.put, List.setIfInBounds_toArray, List.set_cons_zero, List.set_cons_succ, i64_w, i32_w]
             rfl
            refine zm_.pa (i := 6) (N := some 51) (zm_.bm 9 127) HT_.out ?_
            refine zm_.pa (i := 7) (N := some 52) (zm_.bm 9 255) HT_.out ?_
            refine zm_.pa (i := 8) (N := some 53) (zm_.bm 9 511) HT_.out ?_
            refine done_ (done_of HT_.out (by kernel_rfl)) ?_
            try go_wp2
            (try (rw [drewN_self w34]; generalize hq_ : World.drewN w34 _ = w34; have n0_ : Aside0 (Kd.R (Kd.int .i64) 2 w34 w.heap.size (fun _ => True) v106 x5_1) := ⟨by rw [← hq_]; exact (by (with_reducible repeat (first | apply Kd.R_alloc | apply Kd.R_drewN | apply Kd.R_drew)); exact HO_5.out)⟩; have n1_ : Aside0 (w34.heap[gb104]? = some (.cells #[.int .i64 a0_0, .int .i64 a0_1] 54 (0, 0))) := ⟨by rw [← hq_]; exact (by (with_reducible repeat (first | refine blk_drewN ?_ _ | refine blk_drew ?_ | refine blk_alloc ?_ _)); exact BK104.out)⟩; have n2_ : Aside0 (Below w.heap.size w w34) := ⟨by rw [← hq_]; exact (by repeat (first | (with_reducible first | exact HB.out | apply below_alloc | apply pw_below_drewN | apply below_drew1 | refine below_set ?_ GE104.out) | exact HB.out))⟩; clear HO_5 BK104 HB hq_; have HO_5 := n0_; have BK104 := n1_; have HB := n2_; clear n0_ n1_ n2_))
            have n0_ := Aside0.mk (Kd.R_drew HO_5.out)
            have n1_ := Aside0.mk (blk_drew BK104.out)
            have n2_ := Aside0.mk (below_drew1 HB.out)
            clear HO_5
            clear BK104
            clear HB
            have HO_5 := n0_
            have BK104 := n1_
            have HB := n2_
            clear n0_ n1_ n2_
            have p29 : 0 ≤ (x13_1 : Int) := of_decide_eq_true (by first | (with_reducible assumption) | assumption)
            have q29 : (x13_1 : Int) < ((x5_1.length : Int) : Int) := of_decide_eq_true (by first | (with_reducible assumption) | assumption)
            obtain ⟨go29, co29, eo29, gb29, gl29, cl29, HG29⟩ := Kd.R_form HO_5.out (by omega)
            (first | cases eo29 | (injection eo29 with ea_ en_ ec_; (first | subst ea_ | (injection ea_ with ea_; subst ea_)); subst ec_; clear en_))
            have GB29 := Aside0.mk gb29
            have GG29 := Aside0.mk HG29
            clear gb29 gl29 HG29
            obtain ⟨hx29_0, hf29_0⟩ := Kd.R_celln 0 HO_5.out (x13_1 : Int) p29 q29
            replace p29 := eq_true p29
            replace q29 := eq_true q29
            have HP36 := Kd.R_putn HO_5.out (x13_1 : Int) ji15
            rw [← Ny116.out] at HP36
            have HQ36 := Aside0.mk HP36
            clear HP36
            have p31 : 0 ≤ ((ji11) : Int) := of_decide_eq_true (by first | (with_reducible assumption) | assumption)
            have q31 : ((ji11) : Int) < ((x5_1.length : Int) : Int) := of_decide_eq_true (by first | (with_reducible assumption) | assumption)
            obtain ⟨hx31_0, hf31_0⟩ := Kd.R_celln 0 HQ36.out ((ji11) : Int) p31 q31
            replace p31 := eq_true p31
            replace q31 := eq_true q31
            have HP37 := Kd.R_putn HQ36.out ((ji11) : Int) ji14
            rw [← Ny117.out] at HP37
            have HQ37 := Aside0.mk HP37
            clear HP37
            refine start_ (n := 13) (S := fun w' => w'.cell? ⟨gb104, 0, none⟩ = some (.int .i64 a0_0) ∧ w'.cell? ⟨gb104, 1, none⟩ = some (.int .i64 a0_1)) (ds := []) (zm_.bm 13 0) (by kernel_rfl) rfl rfl ⟨(blk_cell BK104.out 0).trans rfl, (blk_cell BK104.out 1).trans rfl⟩ (fun hHeld => ?_); refine with_tabW impl_exchanged.tab9 impl_exchanged.bits9 (fun HT_ HW_ => ?_)
            generalize w34.drew = w35 at HO_5 BK104 HB GG29 HQ36 HQ37 hf29_0 hf31_0 hx29_0 hx31_0 hHeld ⊢
            refine zm_.pa (i := 0) (N := some 56) (zm_.bm 13 1) HT_.out ?_
            refine zm_.pa (i := 1) (N := some 57) (zm_.bm 13 3) HT_.out ?_
            refine zm_.pa (i := 2) (N := some 58) (zm_.bm 13 7) HT_.out ?_
            refine zm_.pa (i := 3) (N := some 59) (zm_.bm 13 15) HT_.out ?_
            refine zm_.pa (i := 4) (N := some 60) (zm_.bm 13 31) HT_.out ?_
            refine zm_.pa (i := 7) (N := some 63) (zm_.bm 13 159) HT_.out ?_
            refine zm_.pa (i := 8) (N := some 64) (zm_.bm 13 415) HT_.out ?_
            refine zm_.pa (i := 9) (N := some 65) (zm_.bm 13 927) HT_.out ?_
            refine zm_.ta (i := 5) (N := some 61) (zm_.bm 13 959) rfl (take_ofW HT_.out HW_.out (by kernel_rfl)) (Or.inl ⟨by rfl, by rintro w' ⟨s0, s1⟩; go_simp; with_reducible rfl⟩) hHeld ?_
            refine zm_.pa (i := 6) (N := some 62) (zm_.bm 13 1023) HT_.out ?_
            refine one_ (i := 10) (N := none) (zm_.bm 13 2047) rfl rfl (one_of HT_.out (by kernel_rfl)) (by decide) (fun K hK => ?_)
            refine skip_ (w1 := ?_) (by rfl) rfl ?_ ?_
            rotate_left
            ·go_simp
             rfl
            refine hK.out _ _ ⟨((cell_far (p := ⟨go29, _, none⟩) (by have h_ := Kd.R_ne HO_5.out BK104.out (by decide); intro e_; exact h_ (by first | (rw [e_]; rfl) | exact congrArg some e_ | exact congrArg some e_.symm)) _).trans (hHeld.1)), ((cell_far (p := ⟨go29, _, none⟩) (by have h_ := Kd.R_ne HO_5.out BK104.out (by decide); intro e_; exact h_ (by first | (rw [e_]; rfl) | exact congrArg some e_ | exact congrArg some e_.symm)) _).trans (hHeld.2))⟩ (fun hHeld => ?_)
            clear hK K
            refine zm_.pa (i := 11) (N := some 66) (zm_.bm 13 4095) HT_.out ?_
            refine one_ (i := 12) (N := none) (zm_.bm 13 8191) rfl rfl (one_of HT_.out (by kernel_rfl)) (by decide) (fun K hK => ?_)
            refine skip_ (w1 := ?_) (by rfl) rfl ?_ ?_
            rotate_left
            ·go_simp
             rfl
            refine hK.out _ _ ⟨((cell_far (p := ⟨go29, _, none⟩) (by have h_ := Kd.R_ne HO_5.out BK104.out (by decide); intro e_; exact h_ (by first | (rw [e_]; rfl) | exact congrArg some e_ | exact congrArg some e_.symm)) _).trans (hHeld.1)), ((cell_far (p := ⟨go29, _, none⟩) (by have h_ := Kd.R_ne HO_5.out BK104.out (by decide); intro e_; exact h_ (by first | (rw [e_]; rfl) | exact congrArg some e_ | exact congrArg some e_.symm)) _).trans (hHeld.2))⟩ (fun hHeld => ?_)
            clear hK K
            refine done_ (done_of HT_.out (by kernel_rfl)) ?_
            try go_wp2
            go_roundg k1
            case measure => have := HK1.out; omega
            case rel => exact ⟨(y117), (wrap64 (x13_1 + 1)), (by first | rfl | (simp; done) | (simp [*]; done)), H', ⟨by have := HK1.out; omega⟩, ⟨by (with_reducible repeat (first | apply Kd.R_alloc | apply Kd.R_drewN | apply Kd.R_drew)); exact HQ37.out⟩, ⟨by (with_reducible repeat (first | refine blk_drewN ?_ _ | refine blk_drew ?_ | refine blk_alloc ?_ _)); refine blk_far ?_ (by have h_ := Kd.R_ne HO_5.out BK104.out (by decide); intro e_; exact h_ (by first | (rw [e_]; rfl) | exact congrArg some e_ | exact congrArg some e_.symm)) _; (with_reducible repeat (first | refine blk_drewN ?_ _ | refine blk_drew ?_ | refine blk_alloc ?_ _)); refine blk_far ?_ (by have h_ := Kd.R_ne HO_5.out BK104.out (by decide); intro e_; exact h_ (by first | (rw [e_]; rfl) | exact congrArg some e_ | exact congrArg some e_.symm)) _; (with_reducible repeat (first | refine blk_drewN ?_ _ | refine blk_drew ?_ | refine blk_alloc ?_ _)); exact BK104.out⟩, ⟨by repeat (first | (with_reducible first | exact HB.out | apply below_alloc | apply pw_below_drewN | apply below_drew1 | refine below_set ?_ GB29.out | refine below_set ?_ GB29.out | refine below_set ?_ GE104.out) | exact HB.out)⟩⟩
           ·rw [if_neg c30] at H
            exact absurd H (by simp)
          ·rw [if_neg c28] at H
           exact absurd H (by simp)
        ·rw [if_neg c13] at H
         exact absurd H (by simp)
       ·rw [if_neg c12] at H
        exact absurd H (by simp)
      ·rw [if_neg c10] at H
       exact absurd H (by simp)
     ·rw [if_neg c9] at H
      exact absurd H (by simp)
    ·rw [if_neg c8] at H
     have c8b0 : ((Go.bits .and .i64 x13_1 a0_0) == 0) = false := beq_eq_false_iff_ne.mpr c8
     have c8b1 : ((Go.bits .and .i64 x13_1 a0_0) != 0) = true := bne_iff_ne.mpr c8
     have H' := Aside0.mk H
     clear H
     have hcz38_0 : wr.cell? ⟨gb104, 0, none⟩ = some (.int .i64 a0_0) := (blk_cell (w := wr) BK104.out 0).trans rfl
     have hcz38_1 : wr.cell? ⟨gb104, 1, none⟩ = some (.int .i64 a0_1) := (blk_cell (w := wr) BK104.out 1).trans rfl
     have hfz38_0 := blk_frozen (w := wr) BK104.out 0
     have hfz38_1 := blk_frozen (w := wr) BK104.out 1
     go_wp2
     go_roundg k1
     case measure => have := HK1.out; omega
     case rel => exact ⟨(x5_1), (wrap64 (x13_1 + 1)), (by first | rfl | (simp; done) | (simp [*]; done)), H', ⟨by have := HK1.out; omega⟩, ⟨by (with_reducible repeat (first | apply Kd.R_alloc | apply Kd.R_drewN | apply Kd.R_drew)); exact HO_5.out⟩, ⟨by (with_reducible repeat (first | refine blk_drewN ?_ _ | refine blk_drew ?_ | refine blk_alloc ?_ _)); exact BK104.out⟩, ⟨by repeat (first | (with_reducible first | exact HB.out | apply below_alloc | apply pw_below_drewN | apply below_drew1 | refine below_set ?_ GE104.out) | exact HB.out)⟩⟩
   ·rw [if_neg c7] at H
    have c7b0 : decide (x13_1 < t108) = false := decide_eq_false c7
    clear c7
    obtain rfl := Option.some.inj H
    go_wp2
    go_ret
    exact ⟨_, by first | rfl | (simp [errW_none, errW_some] <;> rfl) | (simp [*, errW_none, errW_some] <;> rfl), by (with_reducible repeat (first | apply Kd.R_alloc | apply Kd.R_drewN | apply Kd.R_drew)); exact HO_5.out, by repeat (first | (with_reducible first | exact HB.out | apply below_alloc | apply pw_below_drewN | apply below_drew1 | refine below_set ?_ GE104.out) | exact HB.out)⟩

end Go.Proofs.Ytpfoeologjacfaa.M
