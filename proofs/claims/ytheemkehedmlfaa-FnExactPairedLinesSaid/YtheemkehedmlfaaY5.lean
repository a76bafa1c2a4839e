-- Written by a program of this session (wip/tools) over the kit's print.
-- COMPACT
import Derived.Test.YtheemkehedmlfaaY0
import Derived.Test.YtheemkehedmlfaaY3
import Derived.Test.YtheemkehedmlfaaY4
namespace Go.Proofs.Ytheemkehedmlfaa.Y
open Go.RowKit Go.Proofs.YtheemkehedmlfaaW.PrintWords Go.Proofs.YtheemkehedmlfaaW.PrintLast Go.Proofs.YtheemkehedmlfaaW.PrintMore
attribute [local go_sem] max2_int min2_int max_two min_two max_three min_three max_four min_four   -- for this text's walks alone
set_option linter.unusedVariables false
set_option linter.unusedSimpArgs false

/-! ### spec_l08Pairs: function 58 -/
mutual
def spec_l08Pairs.l0 : Nat → Int → List (S63) → List Int → Int → Option (List Int × Bool)
 | 0, _, _, _, _ => none
 | k + 1, x0, x1, x6, x7 => if x7 < (x1.length : Int) then (spec_l08Pairs.j1 k x0 x1 x6 x7 (decide ((x1.length : Int) ≤ 24))) else (spec_l08Pairs.j1 k x0 x1 x6 x7 false)
def spec_l08Pairs.j1 : Nat → Int → List (S63) → List Int → Int → Bool → Option (List Int × Bool)
 | 0, _, _, _, _, _ => none
 | k + 1, x0, x1, x6, x7, x25 => if x25 = true then (if 0 ≤ x7 then (if x7 < (x1.length : Int) then ((spec_l08Line.f k x0 ((rd_T63 x1 x7).f0) ((rd_T63 x1 x7).f1) ((rd_T63 x1 x7).f2) ((rd_T63 x1 x7).f3) ((rd_T63 x1 x7).f4)).bind fun t126 => (if t126 = true then (if x6.length < 17592186044416 then (spec_l08Pairs.l0 k x0 x1 (x6 ++ [x7]) (wrap64 (x7 + 1))) else (none)) else (some (x6, false)))) else (none)) else (none)) else (spec_l08Pairs.l1 k x1 x6 (([] : List Int)) (([] : List Int)) (([] : List (List Int))) 0)
def spec_l08Pairs.l1 : Nat → List (S63) → List Int → List Int → List Int → List (List Int) → Int → Option (List Int × Bool)
 | 0, _, _, _, _, _, _ => none
 | k + 1, x1, x6, x8, x9, x10, x11 => if x11 < (x6.length : Int) then (if 0 ≤ x11 then (if x11 < (x1.length : Int) then (if ((rd_T63 x1 x11).f0) = 2 then (spec_l08Pairs.j3 k x1 x6 x8 x9 x10 x11 (x8.length : Int) ((rd_T63 x1 x11).f0) (((rd_T63 x1 x11).f0) == 2)) else (spec_l08Pairs.j3 k x1 x6 x8 x9 x10 x11 (x8.length : Int) ((rd_T63 x1 x11).f0) (((rd_T63 x1 x11).f0) == 5))) else (none)) else (none)) else (if (x8.length : Int) = 0 then (some (x6, decide ((x1.length : Int) ≤ 24))) else (some (x6, false)))
def spec_l08Pairs.j3 : Nat → List (S63) → List Int → List Int → List Int → List (List Int) → Int → Int → Int → Bool → Option (List Int × Bool)
 | 0, _, _, _, _, _, _, _, _, _ => none
 | k + 1, x1, x6, x8, x9, x10, x11, x13, x56, x57 => if x57 = true then (if x8.length < 17592186044416 then ((some (x8 ++ [x11] : List Int)).bind fun y140 => (if x9.length < 17592186044416 then (if x10.length < 5864062014805 then (if (wrap64 (x13 + 1)) > 4 then (some (x6, false)) else ((spec_l08Rounds.f k x1 y140).bind fun t152 => (if t152 > 64 then (some (x6, false)) else (spec_l08Pairs.l1 k x1 x6 y140 (x9 ++ [x11]) (x10 ++ [(([] : List Int))]) (wrap64 (x11 + 1)))))) else (none)) else (none))) else (none)) else (if x56 = 3 then (if x13 = 0 then (some (x6, false)) else (if 0 ≤ (wrap64 (x13 - 1)) then (if (wrap64 (x13 - 1)) < (x9.length : Int) then (if 0 ≤ (rd x9 (wrap64 (x13 - 1))) then (if (rd x9 (wrap64 (x13 - 1))) < (x1.length : Int) then (if ((rd_T63 x1 (rd x9 (wrap64 (x13 - 1)))).f0) = 2 then (if (rd x9 (wrap64 (x13 - 1))) < (x6.length : Int) then (spec_l08Pairs.l1 k x1 (x6.set ((rd x9 (wrap64 (x13 - 1))) : Int).toNat x11) x8 (x9.set ((wrap64 (x13 - 1)) : Int).toNat x11) x10 (wrap64 (x11 + 1))) else (none)) else (some (x6, false))) else (none)) else (none)) else (none)) else (none))) else (if x56 = 4 then (if x13 = 0 then (some (x6, false)) else (if 0 ≤ (wrap64 (x13 - 1)) then (if (wrap64 (x13 - 1)) < (x9.length : Int) then (if 0 ≤ (rd x9 (wrap64 (x13 - 1))) then (if (rd x9 (wrap64 (x13 - 1))) < (x6.length : Int) then (if (wrap64 (x13 - 1)) < (x8.length : Int) then (if 0 ≤ x11 then (if x11 < (x6.length : Int) then (spec_l08Pairs.l2 k x1 ((x6.set ((rd x9 (wrap64 (x13 - 1))) : Int).toNat x11).set (x11 : Int).toNat (rd x8 (wrap64 (x13 - 1)))) x8 x9 x10 x11 x13 0) else (none)) else (none)) else (none)) else (none)) else (none)) else (none)) else (none))) else (if x56 = 6 then (spec_l08Pairs.l3 k x1 x6 x8 x9 x10 x11 (wrap64 (x13 - 1))) else (spec_l08Pairs.l1 k x1 x6 x8 x9 x10 (wrap64 (x11 + 1))))))
def spec_l08Pairs.l2 : Nat → List (S63) → List Int → List Int → List Int → List (List Int) → Int → Int → Int → Option (List Int × Bool)
 | 0, _, _, _, _, _, _, _, _ => none
 | k + 1, x1, x6, x8, x9, x10, x11, x13, x14 => if 0 ≤ (wrap64 (x13 - 1)) then (if (wrap64 (x13 - 1)) < (x10.length : Int) then (if x14 < ((rd_L2 x10 (wrap64 (x13 - 1))).length : Int) then (if 0 ≤ x14 then (if 0 ≤ (rd (rd_L2 x10 (wrap64 (x13 - 1))) x14) then (if (rd (rd_L2 x10 (wrap64 (x13 - 1))) x14) < (x6.length : Int) then (spec_l08Pairs.l2 k x1 (x6.set ((rd (rd_L2 x10 (wrap64 (x13 - 1))) x14) : Int).toNat x11) x8 x9 x10 x11 x13 (wrap64 (x14 + 1))) else (none)) else (none)) else (none)) else (if (wrap64 (x13 - 1)) ≤ (x8.length : Int) then (if (wrap64 (x13 - 1)) ≤ (x9.length : Int) then (if (wrap64 (x13 - 1)) ≤ (x10.length : Int) then (spec_l08Pairs.l1 k x1 x6 (x8.take ((wrap64 (x13 - 1)) : Int).toNat) (x9.take ((wrap64 (x13 - 1)) : Int).toNat) (x10.take ((wrap64 (x13 - 1)) : Int).toNat) (wrap64 (x11 + 1))) else (none)) else (none)) else (none))) else (none)) else (none)
def spec_l08Pairs.l3 : Nat → List (S63) → List Int → List Int → List Int → List (List Int) → Int → Int → Option (List Int × Bool)
 | 0, _, _, _, _, _, _, _ => none
 | k + 1, x1, x6, x8, x9, x10, x11, x15 => if x15 ≥ 0 then (if 0 ≤ x15 then (if x15 < (x8.length : Int) then (if 0 ≤ (rd x8 x15) then (if (rd x8 x15) < (x1.length : Int) then (if ((rd_T63 x1 (rd x8 x15)).f0) = 5 then (if x15 < 0 then (some (x6, false)) else (if x15 < (x10.length : Int) then (if (rd_L2 x10 x15).length < 17592186044416 then (spec_l08Pairs.l1 k x1 x6 x8 x9 (x10.set (x15 : Int).toNat ((rd_L2 x10 x15) ++ [x11])) (wrap64 (x11 + 1))) else (none)) else (none))) else (spec_l08Pairs.l3 k x1 x6 x8 x9 x10 x11 (wrap64 (x15 - 1)))) else (none)) else (none)) else (none)) else (none)) else (if x15 < 0 then (some (x6, false)) else (if 0 ≤ x15 then (if x15 < (x10.length : Int) then (if (rd_L2 x10 x15).length < 17592186044416 then (spec_l08Pairs.l1 k x1 x6 x8 x9 (x10.set (x15 : Int).toNat ((rd_L2 x10 x15) ++ [x11])) (wrap64 (x11 + 1))) else (none)) else (none)) else (none)))
end
def spec_l08Pairs.f (k : Nat) (a0 : Int) (l1 : List (S63)) : Option (List Int × Bool) := spec_l08Pairs.l0 k a0 l1 (([] : List Int)) 0
theorem spec_l08Pairs.mono_l : ∀ k, (∀ y0 y1 y2 y3, LeO (spec_l08Pairs.l0 k y0 y1 y2 y3) (spec_l08Pairs.l0 (k + 1) y0 y1 y2 y3)) ∧ (∀ y0 y1 y2 y3 y4, LeO (spec_l08Pairs.j1 k y0 y1 y2 y3 y4) (spec_l08Pairs.j1 (k + 1) y0 y1 y2 y3 y4)) ∧ (∀ y0 y1 y2 y3 y4 y5, LeO (spec_l08Pairs.l1 k y0 y1 y2 y3 y4 y5) (spec_l08Pairs.l1 (k + 1) y0 y1 y2 y3 y4 y5)) ∧ (∀ y0 y1 y2 y3 y4 y5 y6 y7 y8, LeO (spec_l08Pairs.j3 k y0 y1 y2 y3 y4 y5 y6 y7 y8) (spec_l08Pairs.j3 (k + 1) y0 y1 y2 y3 y4 y5 y6 y7 y8)) ∧ (∀ y0 y1 y2 y3 y4 y5 y6 y7, LeO (spec_l08Pairs.l2 k y0 y1 y2 y3 y4 y5 y6 y7) (spec_l08Pairs.l2 (k + 1) y0 y1 y2 y3 y4 y5 y6 y7)) ∧ (∀ y0 y1 y2 y3 y4 y5 y6, LeO (spec_l08Pairs.l3 k y0 y1 y2 y3 y4 y5 y6) (spec_l08Pairs.l3 (k + 1) y0 y1 y2 y3 y4 y5 y6))
 | 0 => ⟨fun _ _ _ _ r h => by simp [spec_l08Pairs.l0] at h, fun _ _ _ _ _ r h => by simp [spec_l08Pairs.j1] at h, fun _ _ _ _ _ _ r h => by simp [spec_l08Pairs.l1] at h, fun _ _ _ _ _ _ _ _ _ r h => by simp [spec_l08Pairs.j3] at h, fun _ _ _ _ _ _ _ _ r h => by simp [spec_l08Pairs.l2] at h, fun _ _ _ _ _ _ _ r h => by simp [spec_l08Pairs.l3] at h⟩
 | k + 1 => by
  obtain ⟨ih0, ih1, ih2, ih3, ih4, ih5⟩ := spec_l08Pairs.mono_l k
  refine ⟨?_, ?_, ?_, ?_, ?_, ?_⟩
  ·intro y0 y1 y2 y3
   unfold spec_l08Pairs.l0
   repeat' first
   | (with_reducible exact ih0 _ _ _ _)
   | (with_reducible exact ih1 _ _ _ _ _)
   | (with_reducible exact ih2 _ _ _ _ _ _)
   | (with_reducible exact ih3 _ _ _ _ _ _ _ _ _)
   | (with_reducible exact ih4 _ _ _ _ _ _ _ _)
   | (with_reducible exact ih5 _ _ _ _ _ _ _)
   | (with_reducible exact spec_l08Line.mono _ _ _ _ _ _ _)
   | (with_reducible exact spec_l08Rounds.mono _ _ _)
   | (with_reducible exact LeO.refl _)
   | (with_reducible exact LeO.none _)
   | (with_reducible refine LeO.ite ?_ ?_)
   | (with_reducible refine LeO.bind ?_ (fun _ => ?_))
   | exact ih0 _ _ _ _
   | exact ih1 _ _ _ _ _
   | exact ih2 _ _ _ _ _ _
   | exact ih3 _ _ _ _ _ _ _ _ _
   | exact ih4 _ _ _ _ _ _ _ _
   | exact ih5 _ _ _ _ _ _ _
   | exact spec_l08Line.mono _ _ _ _ _ _ _
   | exact spec_l08Rounds.mono _ _ _
   | exact LeO.none _
   | refine LeO.ite ?_ ?_
   | refine LeO.bind ?_ (fun _ => ?_)
  ·intro y0 y1 y2 y3 y4
   unfold spec_l08Pairs.j1
   repeat' first
   | (with_reducible exact ih0 _ _ _ _)
   | (with_reducible exact ih1 _ _ _ _ _)
   | (with_reducible exact ih2 _ _ _ _ _ _)
   | (with_reducible exact ih3 _ _ _ _ _ _ _ _ _)
   | (with_reducible exact ih4 _ _ _ _ _ _ _ _)
   | (with_reducible exact ih5 _ _ _ _ _ _ _)
   | (with_reducible exact spec_l08Line.mono _ _ _ _ _ _ _)
   | (with_reducible exact spec_l08Rounds.mono _ _ _)
   | (with_reducible exact LeO.refl _)
   | (with_reducible exact LeO.none _)
   | (with_reducible refine LeO.ite ?_ ?_)
   | (with_reducible refine LeO.bind ?_ (fun _ => ?_))
   | exact ih0 _ _ _ _
   | exact ih1 _ _ _ _ _
   | exact ih2 _ _ _ _ _ _
   | exact ih3 _ _ _ _ _ _ _ _ _
   | exact ih4 _ _ _ _ _ _ _ _
   | exact ih5 _ _ _ _ _ _ _
   | exact spec_l08Line.mono _ _ _ _ _ _ _
   | exact spec_l08Rounds.mono _ _ _
   | exact LeO.none _
   | refine LeO.ite ?_ ?_
   | refine LeO.bind ?_ (fun _ => ?_)
  ·intro y0 y1 y2 y3 y4 y5
   unfold spec_l08Pairs.l1
   repeat' first
   | (with_reducible exact ih0 _ _ _ _)
   | (with_reducible exact ih1 _ _ _ _ _)
   | (with_reducible exact ih2 _ _ _ _ _ _)
   | (with_reducible exact ih3 _ _ _ _ _ _ _ _ _)
   | (with_reducible exact ih4 _ _ _ _ _ _ _ _)
   | (with_reducible exact ih5 _ _ _ _ _ _ _)
   | (with_reducible exact spec_l08Line.mono _ _ _ _ _ _ _)
   | (with_reducible exact spec_l08Rounds.mono _ _ _)
   | (with_reducible exact LeO.refl _)
   | (with_reducible exact LeO.none _)
   | (with_reducible refine LeO.ite ?_ ?_)
   | (with_reducible refine LeO.bind ?_ (fun _ => ?_))
   | exact ih0 _ _ _ _
   | exact ih1 _ _ _ _ _
   | exact ih2 _ _ _ _ _ _
   | exact ih3 _ _ _ _ _ _ _ _ _
   | exact ih4 _ _ _ _ _ _ _ _
   | exact ih5 _ _ _ _ _ _ _
   | exact spec_l08Line.mono _ _ _ _ _ _ _
   | exact spec_l08Rounds.mono _ _ _
   | exact LeO.none _
   | refine LeO.ite ?_ ?_
   | refine LeO.bind ?_ (fun _ => ?_)
  ·intro y0 y1 y2 y3 y4 y5 y6 y7 y8
   unfold spec_l08Pairs.j3
   repeat' first
   | (with_reducible exact ih0 _ _ _ _)
   | (with_reducible exact ih1 _ _ _ _ _)
   | (with_reducible exact ih2 _ _ _ _ _ _)
   | (with_reducible exact ih3 _ _ _ _ _ _ _ _ _)
   | (with_reducible exact ih4 _ _ _ _ _ _ _ _)
   | (with_reducible exact ih5 _ _ _ _ _ _ _)
   | (with_reducible exact spec_l08Line.mono _ _ _ _ _ _ _)
   | (with_reducible exact spec_l08Rounds.mono _ _ _)
   | (with_reducible exact LeO.refl _)
   | (with_reducible exact LeO.none _)
   | (with_reducible refine LeO.ite ?_ ?_)
   | (with_reducible refine LeO.bind ?_ (fun _ => ?_))
   | exact ih0 _ _ _ _
   | exact ih1 _ _ _ _ _
   | exact ih2 _ _ _ _ _ _
   | exact ih3 _ _ _ _ _ _ _ _ _
   | exact ih4 _ _ _ _ _ _ _ _
   | exact ih5 _ _ _ _ _ _ _
   | exact spec_l08Line.mono _ _ _ _ _ _ _
   | exact spec_l08Rounds.mono _ _ _
   | exact LeO.none _
   | refine LeO.ite ?_ ?_
   | refine LeO.bind ?_ (fun _ => ?_)
  ·intro y0 y1 y2 y3 y4 y5 y6 y7
   unfold spec_l08Pairs.l2
   repeat' first
   | (with_reducible exact ih0 _ _ _ _)
   | (with_reducible exact ih1 _ _ _ _ _)
   | (with_reducible exact ih2 _ _ _ _ _ _)
   | (with_reducible exact ih3 _ _ _ _ _ _ _ _ _)
   | (with_reducible exact ih4 _ _ _ _ _ _ _ _)
   | (with_reducible exact ih5 _ _ _ _ _ _ _)
   | (with_reducible exact spec_l08Line.mono _ _ _ _ _ _ _)
   | (with_reducible exact spec_l08Rounds.mono _ _ _)
   | (with_reducible exact LeO.refl _)
   | (with_reducible exact LeO.none _)
   | (with_reducible refine LeO.ite ?_ ?_)
   | (with_reducible refine LeO.bind ?_ (fun _ => ?_))
   | exact ih0 _ _ _ _
   | exact ih1 _ _ _ _ _
   | exact ih2 _ _ _ _ _ _
   | exact ih3 _ _ _ _ _ _ _ _ _
   | exact ih4 _ _ _ _ _ _ _ _
   | exact ih5 _ _ _ _ _ _ _
   | exact spec_l08Line.mono _ _ _ _ _ _ _
   | exact spec_l08Rounds.mono _ _ _
   | exact LeO.none _
   | refine LeO.ite ?_ ?_
   | refine LeO.bind ?_ (fun _ => ?_)
  intro y0 y1 y2 y3 y4 y5 y6
  unfold spec_l08Pairs.l3
  repeat' first
  | (with_reducible exact ih0 _ _ _ _)
  | (with_reducible exact ih1 _ _ _ _ _)
  | (with_reducible exact ih2 _ _ _ _ _ _)
  | (with_reducible exact ih3 _ _ _ _ _ _ _ _ _)
  | (with_reducible exact ih4 _ _ _ _ _ _ _ _)
  | (with_reducible exact ih5 _ _ _ _ _ _ _)
  | (with_reducible exact spec_l08Line.mono _ _ _ _ _ _ _)
  | (with_reducible exact spec_l08Rounds.mono _ _ _)
  | (with_reducible exact LeO.refl _)
  | (with_reducible exact LeO.none _)
  | (with_reducible refine LeO.ite ?_ ?_)
  | (with_reducible refine LeO.bind ?_ (fun _ => ?_))
  | exact ih0 _ _ _ _
  | exact ih1 _ _ _ _ _
  | exact ih2 _ _ _ _ _ _
  | exact ih3 _ _ _ _ _ _ _ _ _
  | exact ih4 _ _ _ _ _ _ _ _
  | exact ih5 _ _ _ _ _ _ _
  | exact spec_l08Line.mono _ _ _ _ _ _ _
  | exact spec_l08Rounds.mono _ _ _
  | exact LeO.none _
  | refine LeO.ite ?_ ?_
  | refine LeO.bind ?_ (fun _ => ?_)
theorem spec_l08Pairs.mono : ∀ a0 a1 k, LeO (spec_l08Pairs.f k a0 a1) (spec_l08Pairs.f (k + 1) a0 a1) := by
 intro a0 a1 k
 obtain ⟨ih0, ih1, ih2, ih3, ih4, ih5⟩ := spec_l08Pairs.mono_l k
 unfold spec_l08Pairs.f
 repeat' first
   | (with_reducible exact ih0 _ _ _ _)
   | (with_reducible exact ih1 _ _ _ _ _)
   | (with_reducible exact ih2 _ _ _ _ _ _)
   | (with_reducible exact ih3 _ _ _ _ _ _ _ _ _)
   | (with_reducible exact ih4 _ _ _ _ _ _ _ _)
   | (with_reducible exact ih5 _ _ _ _ _ _ _)
   | (with_reducible exact spec_l08Line.mono _ _ _ _ _ _ _)
   | (with_reducible exact spec_l08Rounds.mono _ _ _)
   | (with_reducible exact LeO.refl _)
   | (with_reducible exact LeO.none _)
   | (with_reducible refine LeO.ite ?_ ?_)
   | (with_reducible refine LeO.bind ?_ (fun _ => ?_))
   | exact ih0 _ _ _ _
   | exact ih1 _ _ _ _ _
   | exact ih2 _ _ _ _ _ _
   | exact ih3 _ _ _ _ _ _ _ _ _
   | exact ih4 _ _ _ _ _ _ _ _
   | exact ih5 _ _ _ _ _ _ _
   | exact spec_l08Line.mono _ _ _ _ _ _ _
   | exact spec_l08Rounds.mono _ _ _
   | exact LeO.none _
   | refine LeO.ite ?_ ?_
   | refine LeO.bind ?_ (fun _ => ?_)
set_option maxHeartbeats 8000000 in
set_option maxRecDepth 100000 in
theorem spec_l08Pairs.calls (k : Nat) (a0 : Int) (A1 : Option Addr) (c1 : Nat) (l1 : List (S63)) (r1 : List Int) (r2 : Bool) (w : World) (hr1 : Kd.C k63 w A1 l1.length l1) (hc1 : l1.length ≤ c1) (h : spec_l08Pairs.f k a0 l1 = some (r1, r2)) :
  Calls Try.prog 58 #[.int .i64 a0, .slice A1 l1.length c1] w fun e w' => ∃ v0_ : Value, e = .returned (.tuple #[v0_, .bool r2]) ∧ Kd.R (Kd.int .i64) 2 w' w.heap.size (fun _ => True) v0_ r1 ∧ Below w.heap.size w w' := by
 have hu63 := Try.underlying63
 have HR1 := Aside0.mk hr1
 have HC1 := Aside0.mk hc1
 clear hr1 hc1
 have HB := Aside0.mk (Below.refl w.heap.size w)
 have H : (spec_l08Pairs.l0 k a0 l1 (([] : List Int)) 0) = some (r1, r2) := h
 clear h
 obtain ⟨y122, hy122⟩ : ∃ y_ : List Int, y_ = (([] : List Int)) := ⟨_, rfl⟩
 replace H : (spec_l08Pairs.l0 k a0 l1 y122 0) = some (r1, r2) := by first | (rw [hy122]; with_reducible exact H) | (have H2_ := (Option.bind_some _ _).symm.trans H; rw [hy122]; with_reducible exact H2_) | (have H2_ := (Option.bind_some _ _).symm.trans H; with_reducible exact H2_) | with_reducible exact H | (rw [hy122]; exact H) | exact H
 have Ny122 := Aside0.mk hy122
 clear hy122
 have H' := Aside0.mk H
 clear H
 go_enter Try.func58, Try.ntmps58
 go_wp2_with (first | ((with_reducible refine gate_dst (N := 16) rfl ?_); (try (refine gate_guard (by rfl) ?_; dsimp only)); refine Kd.R_lit (Kd.int .i64) _ 2 ?hg (N := 16) ?hd (xs := ([] : List Int)) (inner := []) (ok := fun _ => True) (okp := fun _ => True) ?hr ?hp (fun _ hk => hk) trivial (Below.refl _ _) (Nat.le_refl _) (by simp) ?_; (case hd => rfl); (case hg => rfl); (case hr => first | (go_simp; done) | (go_simp; rfl)); (case hp => exact (Reps.none _ _)); intro v123 w3 ho4 hb hg_ hnew_; clear hg_ hnew_; (first | rw [← Ny122.out] at ho4 | (simp only [Int.reduceToNat] at ho4; rw [← Ny122.out] at ho4)); have HO124 := Aside0.mk (Kd.R_lower ho4 (below_size (xyo HB.out))); replace HB := Aside0.mk (below_step (xyo HB.out) hb); clear hb ho4))
 go_loopg [6, 7] k (fun kq v6 v7 w' => ∃ (x6_1 : List Int) (x7_1 : Int), v7 = .int .i64 x7_1 ∧ Aside0 (spec_l08Pairs.l0 kq a0 l1 x6_1 x7_1 = some (r1, r2)) ∧ Aside0 (kq ≤ k) ∧ Aside0 (Kd.R (Kd.int .i64) 2 w' w.heap.size (fun _ => True) v6 x6_1) ∧ Aside0 (Below w.heap.size w w'))
 case atStart => exact ⟨(y122), (0), wy5, H', ⟨Nat.le_refl _⟩, ⟨(xyr HO124.out)⟩, ⟨(xyo HB.out)⟩⟩
 case round =>
  clear H'
  try clear c1
  try clear p2
  obtain ⟨x6_1, x7_1, rfl, HA, HK1, HO_6, HB⟩ := hrel
  cases gk with
  | zero => exact absurd HA.out (by simp [spec_l08Pairs.l0])
  | succ k1 =>
   have H := HA.out
   clear HA
   simp only [spec_l08Pairs.l0] at H
   have HC5 := Aside0.mk H
   clear H
   go_upto_region 3 with (fail)
   go_cut [25] (fun v25 wc => ∃ (kq : Nat) (x25_4 : Bool), v25 = .bool x25_4 ∧ Aside0 (spec_l08Pairs.j1 kq a0 l1 x6_1 x7_1 x25_4 = some (r1, r2)) ∧ Aside0 (kq ≤ k1) ∧ Aside0 (Kd.R (Kd.int .i64) 2 wc w.heap.size (fun _ => True) u6 x6_1) ∧ Aside0 (Below w.heap.size w wc))
   case first =>
    have H := HC5.out
    clear HC5
    by_cases c6 : x7_1 < (l1.length : Int)
    ·rw [if_pos c6] at H
     have c6b0 : decide (x7_1 < (l1.length : Int)) = true := decide_eq_true c6
     clear c6
     (first | rw [c6b0] | (simp only [i64_w, i32_w]; rw [c6b0]) | skip)
     have H' := Aside0.mk H
     clear H
     go_wp2
     go_meet
     case rel => exact ⟨_, (decide ((l1.length : Int) ≤ 24)), wy5, H', ⟨(by have := HK1.out; first | omega | exact Nat.le_refl _)⟩, ⟨(xyr HO_6.out)⟩, ⟨(xyo HB.out)⟩⟩
    rw [if_neg c6] at H
    have c6b0 : decide (x7_1 < (l1.length : Int)) = false := decide_eq_false c6
    clear c6
    (first | rw [c6b0] | (simp only [i64_w, i32_w]; rw [c6b0]) | skip)
    have H' := Aside0.mk H
    clear H
    go_wp2
    go_meet
    case rel => exact ⟨_, (false), wy5, H', ⟨(by have := HK1.out; first | omega | exact Nat.le_refl _)⟩, ⟨(xyr HO_6.out)⟩, ⟨(xyo HB.out)⟩⟩
   case rest =>
    clear HC5
    try clear c1
    try clear p2
    try clear c5
    try clear c6
    try clear c6b0
    try clear p2
    obtain ⟨kq, x25_4, rfl, HA, HJ4, HO_6, HB⟩ := hcut
    cases kq with
    | zero => exact absurd HA.out (by simp [spec_l08Pairs.j1])
    | succ kj4 =>
     have H := HA.out
     clear HA
     simp only [spec_l08Pairs.j1] at H
     by_cases c7 : x25_4 = true
     ·subst c7
      have H1 : (if 0 ≤ x7_1 then (if x7_1 < (l1.length : Int) then ((spec_l08Line.f kj4 a0 ((rd_T63 l1 x7_1).f0) ((rd_T63 l1 x7_1).f1) ((rd_T63 l1 x7_1).f2) ((rd_T63 l1 x7_1).f3) ((rd_T63 l1 x7_1).f4)).bind fun t126 => (if t126 = true then (if x6_1.length < 17592186044416 then (spec_l08Pairs.l0 kj4 a0 l1 (x6_1 ++ [x7_1]) (wrap64 (x7_1 + 1))) else (none)) else (some (x6_1, false)))) else (none)) else (none)) = some (r1, r2) := by rw [if_pos rfl] at H; exact H
      clear H
      have H := H1
      clear H1
      replace H := zy_g H
      obtain ⟨c8, H⟩ := H
      have c8b0 : decide (0 ≤ x7_1) = true := decide_eq_true c8
      clear c8
      replace H := zy_g H
      obtain ⟨c9, H⟩ := H
      have c9b0 : decide (x7_1 < (l1.length : Int)) = true := decide_eq_true c9
      clear c9
      replace H := Option.bind_eq_some_iff.mp H
      obtain ⟨t126, A100, H⟩ := H
      replace H : (if t126 = true then (if x6_1.length < 17592186044416 then (spec_l08Pairs.l0 kj4 a0 l1 (x6_1 ++ [x7_1]) (wrap64 (x7_1 + 1))) else (none)) else (some (x6_1, false))) = some (r1, r2) := H
      have A10 := Aside0.mk A100
      clear A100
      by_cases c11 : t126 = true
      ·subst c11
       have H1 : (if x6_1.length < 17592186044416 then (spec_l08Pairs.l0 kj4 a0 l1 (x6_1 ++ [x7_1]) (wrap64 (x7_1 + 1))) else (none)) = some (r1, r2) := by rw [if_pos rfl] at H; exact H
       clear H
       have H := H1
       clear H1
       replace H := zy_g H
       obtain ⟨c12, H⟩ := H
       have LMc12 := Aside0.mk c12
       clear c12
       obtain ⟨y127, hy127⟩ : ∃ y_ : List Int, y_ = (x6_1 ++ [x7_1]) := ⟨_, rfl⟩
       replace H : (spec_l08Pairs.l0 kj4 a0 l1 y127 (wrap64 (x7_1 + 1))) = some (r1, r2) := by first | (rw [hy127]; with_reducible exact H) | (have H2_ := (Option.bind_some _ _).symm.trans H; rw [hy127]; with_reducible exact H2_) | (have H2_ := (Option.bind_some _ _).symm.trans H; with_reducible exact H2_) | with_reducible exact H | (rw [hy127]; exact H) | exact H
       have Ny127 := Aside0.mk hy127
       clear hy127
       have H' := Aside0.mk H
       clear H
       have p125 : 0 ≤ (x7_1 : Int) := xyd
       have q125 : x7_1 < (l1.length : Int) := xyd
       obtain ⟨ad125, e125, hx125_0, hx125_1, hx125_2, hx125_3, hx125_4⟩ := at_T63 HR1.out x7_1 p125 q125
       cases e125
       replace hx125_0 := xyh HB.out hx125_0
       replace hx125_1 := xyh HB.out hx125_1
       replace hx125_2 := xyh HB.out hx125_2
       replace hx125_3 := xyh HB.out hx125_3
       replace hx125_4 := xyh HB.out hx125_4
       replace p125 := eq_true p125
       replace q125 := eq_true q125
       go_wp2_with (first | ((with_reducible refine gate_callee (f := 93) rfl ?_); refine goesL_ (some 33) rfl rfl Try.func93 (by kernel_rfl) rfl #[.int .i64 a0, .agg #[.int .i64 ((rd_T63 l1 x7_1).f0), .int .i64 ((rd_T63 l1 x7_1).f1), .int .i64 ((rd_T63 l1 x7_1).f2), .int .i64 ((rd_T63 l1 x7_1).f3), .int .i64 ((rd_T63 l1 x7_1).f4)]] rfl wy2 ?_; (with_reducible refine (spec_l08Line.calls kj4 a0 ((rd_T63 l1 x7_1).f0) ((rd_T63 l1 x7_1).f1) ((rd_T63 l1 x7_1).f2) ((rd_T63 l1 x7_1).f3) ((rd_T63 l1 x7_1).f4) true _ A10.out).mono ?_); rintro e w13 ⟨rfl, hb⟩; refine ⟨_, rfl, ?_⟩; replace HO_6 := Aside0.mk (Kd.R_below (xyr HO_6.out) hb); replace HB := Aside0.mk (below_step (xyo HB.out) hb); (try clear hb); (try clear hb2); (try clear hk); (try clear hi)) | ((with_reducible refine gate_builtin (b := .append) (xs := #[.tmp 36, .tmp 38]) rfl ?_); (try (refine gate_guard (by rfl) ?_; dsimp only)); at_builtin; refine Kd.R_append (Kd.int .i64) (w0 := w) w.heap.size rfl (.tmp 36) (.tmp 38) 29 2 (.int .i64 0) 8 rfl Try.underlying29 info2 rfl (by decide) (by omega) u6 x6_1 x7_1 [.int .i64 x7_1] (fun _ => True) (fun _ => False) rfl rfl ?aP (fun _ hk => hk.elim) ?aF ?aO ?aB ?aS ?aL ?_; (case aP => exact rfl); (case aB => exact (xyo HB.out)); (case aF => exact (fun _ _ => trivial)); (case aO => exact (xyr HO_6.out)); (case aS => exact (below_size (xyo HB.out))); (case aL => have := LMc12.out; omega); intro v128 w14 ho hb hg hat; rw [← Ny127.out] at ho; replace HB := Aside0.mk (hb); have HO129 := Aside0.mk (ho); clear HO_6; clear ho hb hg hat))
       go_roundg kj4
       case measure => have := HK1.out; have := HJ4.out; omega
       case rel => exact ⟨(y127), (wrap64 (x7_1 + 1)), wy5, H', ⟨(by have := HK1.out; have := HJ4.out; omega)⟩, ⟨(xyr HO129.out)⟩, ⟨(xyo HB.out)⟩⟩
      replace c11 := Bool.eq_false_iff.mpr c11
      subst c11
      have H1 : (some (x6_1, false)) = some (r1, r2) := by rw [if_neg (show ¬ (false = true) by decide)] at H; exact H
      clear H
      have H := H1
      clear H1
      simp only [Option.some.injEq, Prod.mk.injEq] at H
      obtain ⟨rfl, rfl⟩ := H
      have p125 : 0 ≤ (x7_1 : Int) := xyd
      have q125 : x7_1 < (l1.length : Int) := xyd
      obtain ⟨ad125, e125, hx125_0, hx125_1, hx125_2, hx125_3, hx125_4⟩ := at_T63 HR1.out x7_1 p125 q125
      cases e125
      replace hx125_0 := xyh HB.out hx125_0
      replace hx125_1 := xyh HB.out hx125_1
      replace hx125_2 := xyh HB.out hx125_2
      replace hx125_3 := xyh HB.out hx125_3
      replace hx125_4 := xyh HB.out hx125_4
      replace p125 := eq_true p125
      replace q125 := eq_true q125
      go_wp2_with (first | ((with_reducible refine gate_callee (f := 93) rfl ?_); refine goesL_ (some 33) rfl rfl Try.func93 (by kernel_rfl) rfl #[.int .i64 a0, .agg #[.int .i64 ((rd_T63 l1 x7_1).f0), .int .i64 ((rd_T63 l1 x7_1).f1), .int .i64 ((rd_T63 l1 x7_1).f2), .int .i64 ((rd_T63 l1 x7_1).f3), .int .i64 ((rd_T63 l1 x7_1).f4)]] rfl wy2 ?_; (with_reducible refine (spec_l08Line.calls kj4 a0 ((rd_T63 l1 x7_1).f0) ((rd_T63 l1 x7_1).f1) ((rd_T63 l1 x7_1).f2) ((rd_T63 l1 x7_1).f3) ((rd_T63 l1 x7_1).f4) false _ A10.out).mono ?_); rintro e w15 ⟨rfl, hb⟩; refine ⟨_, rfl, ?_⟩; replace HO_6 := Aside0.mk (Kd.R_below (xyr HO_6.out) hb); replace HB := Aside0.mk (below_step (xyo HB.out) hb); (try clear hb); (try clear hb2); (try clear hk); (try clear hi)))
      go_ret2
      exact ⟨_, wy3, (xyr HO_6.out), (xyo HB.out)⟩
     replace c7 := Bool.eq_false_iff.mpr c7
     subst c7
     have H1 : (spec_l08Pairs.l1 kj4 l1 x6_1 (([] : List Int)) (([] : List Int)) (([] : List (List Int))) 0) = some (r1, r2) := by rw [if_neg (show ¬ (false = true) by decide)] at H; exact H
     clear H
     have H := H1
     clear H1
     obtain ⟨y130, hy130⟩ : ∃ y_ : List Int, y_ = (([] : List Int)) := ⟨_, rfl⟩
     replace H : (spec_l08Pairs.l1 kj4 l1 x6_1 y130 (([] : List Int)) (([] : List (List Int))) 0) = some (r1, r2) := by first | (rw [hy130]; with_reducible exact H) | (have H2_ := (Option.bind_some _ _).symm.trans H; rw [hy130]; with_reducible exact H2_) | (have H2_ := (Option.bind_some _ _).symm.trans H; with_reducible exact H2_) | with_reducible exact H | (rw [hy130]; exact H) | exact H
     have Ny130 := Aside0.mk hy130
     clear hy130
     obtain ⟨y133, hy133⟩ : ∃ y_ : List Int, y_ = (([] : List Int)) := ⟨_, rfl⟩
     replace H : (spec_l08Pairs.l1 kj4 l1 x6_1 y130 y133 (([] : List (List Int))) 0) = some (r1, r2) := by first | (rw [hy133]; with_reducible exact H) | (have H2_ := (Option.bind_some _ _).symm.trans H; rw [hy133]; with_reducible exact H2_) | (have H2_ := (Option.bind_some _ _).symm.trans H; with_reducible exact H2_) | with_reducible exact H | (rw [hy133]; exact H) | exact H
     have Ny133 := Aside0.mk hy133
     clear hy133
     obtain ⟨y136, hy136⟩ : ∃ y_ : List (List Int), y_ = (([] : List (List Int))) := ⟨_, rfl⟩
     replace H : (spec_l08Pairs.l1 kj4 l1 x6_1 y130 y133 y136 0) = some (r1, r2) := by first | (rw [hy136]; with_reducible exact H) | (have H2_ := (Option.bind_some _ _).symm.trans H; rw [hy136]; with_reducible exact H2_) | (have H2_ := (Option.bind_some _ _).symm.trans H; with_reducible exact H2_) | with_reducible exact H | (rw [hy136]; exact H) | exact H
     have Ny136 := Aside0.mk hy136
     clear hy136
     have H' := Aside0.mk H
     clear H
     go_wp2_with (first | ((with_reducible refine gate_dst (N := 40) rfl ?_); (try (refine gate_guard (by rfl) ?_; dsimp only)); refine Kd.R_lit (Kd.int .i64) _ 2 ?hg (N := 40) ?hd (xs := ([] : List Int)) (inner := []) (ok := fun _ => True) (okp := fun _ => True) ?hr ?hp (fun _ hk => hk) trivial (Below.refl _ _) (Nat.le_refl _) (by simp) ?_; (case hd => rfl); (case hg => rfl); (case hr => first | (go_simp; done) | (go_simp; rfl)); (case hp => exact (Reps.none _ _)); intro v131 w16 ho17 hb hg_ hnew_; clear hg_ hnew_; (first | rw [← Ny130.out] at ho17 | (simp only [Int.reduceToNat] at ho17; rw [← Ny130.out] at ho17)); have HO132 := Aside0.mk (Kd.R_lower (Kd.R_new' ho17 (Kd.R_lt (xyr HO_6.out))) (below_size (xyo HB.out))); replace HO_6 := Aside0.mk (Kd.R_elder' (xyr HO_6.out) (Kd.R_base ho17) hb); replace HB := Aside0.mk (below_step (xyo HB.out) hb); clear hb ho17) | ((with_reducible refine gate_dst (N := 41) rfl ?_); (try (refine gate_guard (by rfl) ?_; dsimp only)); refine Kd.R_lit (Kd.int .i64) _ 2 ?hg (N := 41) ?hd (xs := ([] : List Int)) (inner := []) (ok := fun _ => True) (okp := fun _ => True) ?hr ?hp (fun _ hk => hk) trivial (Below.refl _ _) (Nat.le_refl _) (by simp) ?_; (case hd => rfl); (case hg => rfl); (case hr => first | (go_simp; done) | (go_simp; rfl)); (case hp => exact (Reps.none _ _)); intro v134 w18 ho19 hb hg_ hnew_; clear hg_ hnew_; (first | rw [← Ny133.out] at ho19 | (simp only [Int.reduceToNat] at ho19; rw [← Ny133.out] at ho19)); have HO135 := Aside0.mk (Kd.R_lower (Kd.R_new' (Kd.R_new' ho19 (Kd.R_lt (xyr HO_6.out))) (Kd.R_lt (xyr HO132.out))) (below_size (xyo HB.out))); replace HO_6 := Aside0.mk (Kd.R_elder' (xyr HO_6.out) (Kd.R_base ho19) hb); replace HO132 := Aside0.mk (Kd.R_elder' (xyr HO132.out) (Kd.R_base ho19) hb); replace HB := Aside0.mk (below_step (xyo HB.out) hb); clear hb ho19) | ((with_reducible refine gate_dst (N := 42) rfl ?_); (try (refine gate_guard (by rfl) ?_; dsimp only)); refine Kd.S_lit (Kd.slice 2 (Kd.int .i64)) _ 29 ?hg (N := 42) ?hd (xs := ([] : List (List Int))) (inner := []) (ok := fun _ => True) (okp := fun _ => True) ?hr ?hp (fun _ hk => hk) trivial (Below.refl _ _) (Nat.le_refl _) (by simp) ?_; (case hd => rfl); (case hg => rfl); (case hr => first | (go_simp; done) | (go_simp; rfl)); (case hp => exact (Reps.none _ _)); intro v137 w20 ho21 hb hg_ hnew_; clear hg_ hnew_; (first | rw [← Ny136.out] at ho21 | (simp only [Int.reduceToNat] at ho21; rw [← Ny136.out] at ho21)); have HO138 := Aside0.mk (Kd.S_lower (Kd.S_new' (Kd.S_new' (Kd.S_new' ho21 (Kd.R_lt (xyr HO_6.out))) (Kd.R_lt (xyr HO132.out))) (Kd.R_lt (xyr HO135.out))) (below_size (xyo HB.out))); replace HO_6 := Aside0.mk (Kd.R_below (xyr HO_6.out) hb); replace HO132 := Aside0.mk (Kd.R_below (xyr HO132.out) hb); replace HO135 := Aside0.mk (Kd.R_below (xyr HO135.out) hb); replace HB := Aside0.mk (below_step (xyo HB.out) hb); clear hb ho21))
     go_loopg [8, 9, 10, 11] kj4 (fun kq v8 v9 v10 v11 w' => ∃ (x6_3 : List Int) (x8_3 : List Int) (x9_3 : List Int) (x10_3 : List (List Int)) (x11_3 : Int), v11 = .int .i64 x11_3 ∧ Aside0 (spec_l08Pairs.l1 kq l1 x6_3 x8_3 x9_3 x10_3 x11_3 = some (r1, r2)) ∧ Aside0 (kq ≤ kj4) ∧ Aside0 (Kd.R (Kd.int .i64) 2 w' w.heap.size (fun k_ => some k_ ≠ (v8 : Value).ownBlock ∧ some k_ ≠ (v9 : Value).ownBlock) u6 x6_3) ∧ Aside0 (Kd.R (Kd.int .i64) 2 w' w.heap.size (fun k_ => some k_ ≠ (u6 : Value).ownBlock ∧ some k_ ≠ (v9 : Value).ownBlock) v8 x8_3) ∧ Aside0 (Kd.R (Kd.int .i64) 2 w' w.heap.size (fun k_ => some k_ ≠ (u6 : Value).ownBlock ∧ some k_ ≠ (v8 : Value).ownBlock) v9 x9_3) ∧ Aside0 (Kd.S (Kd.slice 2 (Kd.int .i64)) 29 w' w.heap.size (fun k_ => some k_ ≠ (u6 : Value).ownBlock ∧ some k_ ≠ (v8 : Value).ownBlock ∧ some k_ ≠ (v9 : Value).ownBlock) v10 x10_3) ∧ Aside0 (Below w.heap.size w w'))
     case atStart => exact ⟨(x6_1), (y130), (y133), (y136), (0), wy5, H', ⟨Nat.le_refl _⟩, ⟨(by (with_reducible repeat (first | apply Kd.R_alloc | apply Kd.R_drewN | apply Kd.R_drew)); exact Kd.R_mono HO_6.out (fun _ hk => ⟨hk.1.2, hk.2⟩))⟩, ⟨(by (with_reducible repeat (first | apply Kd.R_alloc | apply Kd.R_drewN | apply Kd.R_drew)); exact Kd.R_mono HO132.out (fun _ hk => ⟨hk.1.2, hk.2⟩))⟩, ⟨(by (with_reducible repeat (first | apply Kd.R_alloc | apply Kd.R_drewN | apply Kd.R_drew)); exact Kd.R_mono HO135.out (fun _ hk => ⟨hk.1.2, hk.2⟩))⟩, ⟨(by (with_reducible repeat (first | apply Kd.S_alloc | apply Kd.S_drewN | apply Kd.S_drew)); exact Kd.S_mono HO138.out (fun _ hk => ⟨hk.1.1.2, ⟨hk.1.2, hk.2⟩⟩))⟩, ⟨(xyo HB.out)⟩⟩
     case round =>
      clear H'
      try clear c1
      try clear p1
      try clear q1
      try clear hx1
      try clear p2
      try clear c5
      try clear c6
      try clear c6b0
      try clear p6
      try clear c7
      try clear c8
      try clear c8b0
      try clear c9
      try clear c9b0
      try clear c11
      try clear c12
      try clear p12
      try clear q12
      try clear hx12
      try clear hx125_0
      try clear hx125_1
      try clear hx125_2
      try clear hx125_3
      try clear hx125_4
      try clear p125
      try clear p2
      try clear q125
      obtain ⟨x6_3, x8_3, x9_3, x10_3, x11_3, rfl, HA, HK3, HO_6, HO_8, HO_9, HO_10, HB⟩ := hrel
      cases gk with
      | zero => exact absurd HA.out (by simp [spec_l08Pairs.l1])
      | succ k3 =>
       have H := HA.out
       clear HA
       simp only [spec_l08Pairs.l1] at H
       by_cases c22 : x11_3 < (x6_3.length : Int)
       ·rw [if_pos c22] at H
        have c22b0 : decide (x11_3 < (x6_3.length : Int)) = true := decide_eq_true c22
        clear c22
        replace H := zy_g H
        obtain ⟨c23, H⟩ := H
        have c23b0 : decide (0 ≤ x11_3) = true := decide_eq_true c23
        clear c23
        replace H := zy_g H
        obtain ⟨c24, H⟩ := H
        have c24b0 : decide (x11_3 < (l1.length : Int)) = true := decide_eq_true c24
        clear c24
        have HC25 := Aside0.mk H
        clear H
        obtain ⟨Ao26, co26, eo26⟩ := Kd.R_slice HO_6.out
        subst eo26
        have p139 : 0 ≤ (x11_3 : Int) := xyd
        have q139 : x11_3 < (l1.length : Int) := xyd
        obtain ⟨ad139, e139, hx139_0, hx139_1, hx139_2, hx139_3, hx139_4⟩ := at_T63 HR1.out x11_3 p139 q139
        cases e139
        replace hx139_0 := xyh HB.out hx139_0
        replace hx139_1 := xyh HB.out hx139_1
        replace hx139_2 := xyh HB.out hx139_2
        replace hx139_3 := xyh HB.out hx139_3
        replace hx139_4 := xyh HB.out hx139_4
        replace p139 := eq_true p139
        replace q139 := eq_true q139
        obtain ⟨Ao27, co27, eo27⟩ := Kd.R_slice HO_8.out
        subst eo27
        go_upto_if 57 with (fail)
        go_cut [57] (fun v57 wc => ∃ (kq : Nat) (x57_24 : Bool), v57 = .bool x57_24 ∧ Aside0 (spec_l08Pairs.j3 kq l1 x6_3 x8_3 x9_3 x10_3 x11_3 (x8_3.length : Int) ((rd_T63 l1 x11_3).f0) x57_24 = some (r1, r2)) ∧ Aside0 (kq ≤ k3) ∧ Aside0 (Kd.R (Kd.int .i64) 2 wc w.heap.size (fun k_ => some k_ ≠ ((.slice Ao27 x8_3.length co27) : Value).ownBlock ∧ some k_ ≠ (u9 : Value).ownBlock) (.slice Ao26 x6_3.length co26) x6_3) ∧ Aside0 (Kd.R (Kd.int .i64) 2 wc w.heap.size (fun k_ => some k_ ≠ ((.slice Ao26 x6_3.length co26) : Value).ownBlock ∧ some k_ ≠ (u9 : Value).ownBlock) (.slice Ao27 x8_3.length co27) x8_3) ∧ Aside0 (Kd.R (Kd.int .i64) 2 wc w.heap.size (fun k_ => some k_ ≠ ((.slice Ao26 x6_3.length co26) : Value).ownBlock ∧ some k_ ≠ ((.slice Ao27 x8_3.length co27) : Value).ownBlock) u9 x9_3) ∧ Aside0 (Kd.S (Kd.slice 2 (Kd.int .i64)) 29 wc w.heap.size (fun k_ => some k_ ≠ ((.slice Ao26 x6_3.length co26) : Value).ownBlock ∧ some k_ ≠ ((.slice Ao27 x8_3.length co27) : Value).ownBlock ∧ some k_ ≠ (u9 : Value).ownBlock) u10 x10_3) ∧ Aside0 (Below w.heap.size w wc))
        case first =>
         have H := HC25.out
         clear HC25
         by_cases c28 : ((rd_T63 l1 x11_3).f0) = 2
         ·rw [if_pos c28] at H
          have c28b0 : (((rd_T63 l1 x11_3).f0) == 2) = true := beq_iff_eq.mpr c28
          have c28b1 : (((rd_T63 l1 x11_3).f0) != 2) = false := bne_eq_false_iff_eq.mpr c28
          clear c28
          (first | rw [c28b0] | (simp only [i64_w, i32_w]; rw [c28b0]) | skip)
          have H' := Aside0.mk H
          clear H
          go_wp2
          go_meet
          case rel => exact ⟨_, ((((rd_T63 l1 x11_3).f0) == 2)), wy5, H', ⟨(by have := HK1.out; have := HJ4.out; have := HK3.out; first | omega | exact Nat.le_refl _)⟩, ⟨(xyr HO_6.out)⟩, ⟨(xyr HO_8.out)⟩, ⟨(xyr HO_9.out)⟩, ⟨wy11⟩, ⟨(xyo HB.out)⟩⟩
         rw [if_neg c28] at H
         have c28b0 : (((rd_T63 l1 x11_3).f0) == 2) = false := beq_eq_false_iff_ne.mpr c28
         have c28b1 : (((rd_T63 l1 x11_3).f0) != 2) = true := bne_iff_ne.mpr c28
         (first | rw [c28b0] | (simp only [i64_w, i32_w]; rw [c28b0]) | skip)
         have H' := Aside0.mk H
         clear H
         go_wp2
         go_meet
         case rel => exact ⟨_, ((((rd_T63 l1 x11_3).f0) == 5)), wy5, H', ⟨(by have := HK1.out; have := HJ4.out; have := HK3.out; first | omega | exact Nat.le_refl _)⟩, ⟨(xyr HO_6.out)⟩, ⟨(xyr HO_8.out)⟩, ⟨(xyr HO_9.out)⟩, ⟨wy11⟩, ⟨(xyo HB.out)⟩⟩
        case rest =>
         clear HC25
         try clear c1
         try clear p1
         try clear q1
         try clear hx1
         try clear c2
         try clear p2
         try clear c5
         try clear c6
         try clear c6b0
         try clear p6
         try clear c7
         try clear c8
         try clear c8b0
         try clear c9
         try clear c9b0
         try clear c11
         try clear c12
         try clear p12
         try clear q12
         try clear hx12
         try clear p13
         try clear q13
         try clear hx13
         try clear c22
         try clear c22b0
         try clear c23
         try clear c23b0
         try clear c24
         try clear c24b0
         try clear c28
         try clear c28b0
         try clear c28b1
         try clear hx125_0
         try clear hx125_1
         try clear hx125_2
         try clear hx125_3
         try clear hx125_4
         try clear hx139_0
         try clear hx139_1
         try clear hx139_2
         try clear hx139_3
         try clear hx139_4
         try clear p1
         try clear p12
         try clear p125
         try clear p139
         try clear p2
         try clear p6
         try clear q1
         try clear q12
         try clear q125
         try clear q139
         obtain ⟨kq, x57_24, rfl, HA, HJ24, HO_6, HO_8, HO_9, HO_10, HB⟩ := hcut
         cases kq with
         | zero => exact absurd HA.out (by simp [spec_l08Pairs.j3])
         | succ kj24 =>
          have H := HA.out
          clear HA
          simp only [spec_l08Pairs.j3] at H
          by_cases c29 : x57_24 = true
          ·subst c29
           have H1 : (if x8_3.length < 17592186044416 then ((some (x8_3 ++ [x11_3] : List Int)).bind fun y140 => (if x9_3.length < 17592186044416 then (if x10_3.length < 5864062014805 then (if (wrap64 ((x8_3.length : Int) + 1)) > 4 then (some (x6_3, false)) else ((spec_l08Rounds.f kj24 l1 y140).bind fun t152 => (if t152 > 64 then (some (x6_3, false)) else (spec_l08Pairs.l1 kj24 l1 x6_3 y140 (x9_3 ++ [x11_3]) (x10_3 ++ [(([] : List Int))]) (wrap64 (x11_3 + 1)))))) else (none)) else (none))) else (none)) = some (r1, r2) := by rw [if_pos rfl] at H; exact H
           clear H
           have H := H1
           clear H1
           replace H := zy_g H
           obtain ⟨c30, H⟩ := H
           have LMc30 := Aside0.mk c30
           clear c30
           obtain ⟨y140, hy140⟩ : ∃ y_ : List Int, y_ = (x8_3 ++ [x11_3]) := ⟨_, rfl⟩
           replace H : (if x9_3.length < 17592186044416 then (if x10_3.length < 5864062014805 then (if (wrap64 ((x8_3.length : Int) + 1)) > 4 then (some (x6_3, false)) else ((spec_l08Rounds.f kj24 l1 y140).bind fun t152 => (if t152 > 64 then (some (x6_3, false)) else (spec_l08Pairs.l1 kj24 l1 x6_3 y140 (x9_3 ++ [x11_3]) (x10_3 ++ [(([] : List Int))]) (wrap64 (x11_3 + 1)))))) else (none)) else (none)) = some (r1, r2) := by first | (rw [hy140]; with_reducible exact H) | (have H2_ := (Option.bind_some _ _).symm.trans H; rw [hy140]; with_reducible exact H2_) | (have H2_ := (Option.bind_some _ _).symm.trans H; with_reducible exact H2_) | with_reducible exact H | (rw [hy140]; exact H) | exact H
           have Ny140 := Aside0.mk hy140
           clear hy140
           replace H := zy_g H
           obtain ⟨c31, H⟩ := H
           have LMc31 := Aside0.mk c31
           clear c31
           obtain ⟨y143, hy143⟩ : ∃ y_ : List Int, y_ = (x9_3 ++ [x11_3]) := ⟨_, rfl⟩
           replace H : (if x10_3.length < 5864062014805 then (if (wrap64 ((x8_3.length : Int) + 1)) > 4 then (some (x6_3, false)) else ((spec_l08Rounds.f kj24 l1 y140).bind fun t152 => (if t152 > 64 then (some (x6_3, false)) else (spec_l08Pairs.l1 kj24 l1 x6_3 y140 y143 (x10_3 ++ [(([] : List Int))]) (wrap64 (x11_3 + 1)))))) else (none)) = some (r1, r2) := by first | (rw [hy143]; with_reducible exact H) | (have H2_ := (Option.bind_some _ _).symm.trans H; rw [hy143]; with_reducible exact H2_) | (have H2_ := (Option.bind_some _ _).symm.trans H; with_reducible exact H2_) | with_reducible exact H | (rw [hy143]; exact H) | exact H
           have Ny143 := Aside0.mk hy143
           clear hy143
           obtain ⟨y146, hy146⟩ : ∃ y_ : List Int, y_ = (([] : List Int)) := ⟨_, rfl⟩
           replace H : (if x10_3.length < 5864062014805 then (if (wrap64 ((x8_3.length : Int) + 1)) > 4 then (some (x6_3, false)) else ((spec_l08Rounds.f kj24 l1 y140).bind fun t152 => (if t152 > 64 then (some (x6_3, false)) else (spec_l08Pairs.l1 kj24 l1 x6_3 y140 y143 (x10_3 ++ [y146]) (wrap64 (x11_3 + 1)))))) else (none)) = some (r1, r2) := by first | (rw [hy146]; with_reducible exact H) | (have H2_ := (Option.bind_some _ _).symm.trans H; rw [hy146]; with_reducible exact H2_) | (have H2_ := (Option.bind_some _ _).symm.trans H; with_reducible exact H2_) | with_reducible exact H | (rw [hy146]; exact H) | exact H
           have Ny146 := Aside0.mk hy146
           clear hy146
           replace H := zy_g H
           obtain ⟨c32, H⟩ := H
           have LMc32 := Aside0.mk c32
           clear c32
           obtain ⟨y149, hy149⟩ : ∃ y_ : List (List Int), y_ = (x10_3 ++ [y146]) := ⟨_, rfl⟩
           replace H : (if (wrap64 ((x8_3.length : Int) + 1)) > 4 then (some (x6_3, false)) else ((spec_l08Rounds.f kj24 l1 y140).bind fun t152 => (if t152 > 64 then (some (x6_3, false)) else (spec_l08Pairs.l1 kj24 l1 x6_3 y140 y143 y149 (wrap64 (x11_3 + 1)))))) = some (r1, r2) := by first | (rw [hy149]; with_reducible exact H) | (have H2_ := (Option.bind_some _ _).symm.trans H; rw [hy149]; with_reducible exact H2_) | (have H2_ := (Option.bind_some _ _).symm.trans H; with_reducible exact H2_) | with_reducible exact H | (rw [hy149]; exact H) | exact H
           have Ny149 := Aside0.mk hy149
           clear hy149
           by_cases c33 : (wrap64 ((x8_3.length : Int) + 1)) > 4
           ·rw [if_pos c33] at H
            have c33b0 : decide (4 < (wrap64 ((x8_3.length : Int) + 1))) = true := decide_eq_true c33
            clear c33
            simp only [Option.some.injEq, Prod.mk.injEq] at H
            obtain ⟨rfl, rfl⟩ := H
            go_wp2_with (first | ((with_reducible refine gate_builtin (b := .append) (xs := #[.tmp 60, .tmp 62]) rfl ?_); (try (refine gate_guard (by rfl) ?_; dsimp only)); at_builtin; refine Kd.R_append (Kd.int .i64) (w0 := w) w.heap.size rfl (.tmp 60) (.tmp 62) 29 2 (.int .i64 0) 8 rfl Try.underlying29 info2 rfl (by decide) (by omega) (.slice Ao27 x8_3.length co27) x8_3 x11_3 [.int .i64 x11_3] (fun k_ => some k_ ≠ (.slice Ao26 x6_3.length co26 : Value).ownBlock ∧ some k_ ≠ (u9 : Value).ownBlock) (fun _ => False) rfl rfl ?aP (fun _ hk => hk.elim) ?aF ?aO ?aB ?aS ?aL ?_; (case aP => exact rfl); (case aB => exact (xyo HB.out)); (case aF => exact (fun k_ hk => ⟨Kd.fresh' (Kd.R_lt (xyr HO_6.out)) k_ hk, Kd.fresh' (Kd.R_lt (xyr HO_9.out)) k_ hk⟩)); (case aO => exact (xyr HO_8.out)); (case aS => exact (below_size (xyo HB.out))); (case aL => have := LMc30.out; omega); intro v141 w34 ho hb hg hat; rw [← Ny140.out] at ho; replace HO_6 := Aside0.mk (Kd.R_after (ok := (fun k_ => some k_ ≠ (u9 : Value).ownBlock)) wy19 hg hat); replace HO_9 := Aside0.mk (Kd.R_after (ok := (fun k_ => some k_ ≠ (.slice Ao26 x6_3.length co26 : Value).ownBlock)) (xyr HO_9.out) hg hat); replace HO_10 := Aside0.mk (Kd.S_after (ok := (fun k_ => some k_ ≠ (.slice Ao26 x6_3.length co26 : Value).ownBlock ∧ some k_ ≠ (u9 : Value).ownBlock)) wy44 hg hat); replace HB := Aside0.mk (hb); have HO142 := Aside0.mk (ho); clear HO_8; clear ho hb hg hat) | ((with_reducible refine gate_builtin (b := .append) (xs := #[.tmp 64, .tmp 66]) rfl ?_); (try (refine gate_guard (by rfl) ?_; dsimp only)); at_builtin; refine Kd.R_append (Kd.int .i64) (w0 := w) w.heap.size rfl (.tmp 64) (.tmp 66) 29 2 (.int .i64 0) 8 rfl Try.underlying29 info2 rfl (by decide) (by omega) u9 x9_3 x11_3 [.int .i64 x11_3] (fun k_ => some k_ ≠ (.slice Ao26 x6_3.length co26 : Value).ownBlock ∧ some k_ ≠ (v141 : Value).ownBlock) (fun _ => False) rfl rfl ?aP (fun _ hk => hk.elim) ?aF ?aO ?aB ?aS ?aL ?_; (case aP => exact rfl); (case aB => exact (xyo HB.out)); (case aF => exact (fun k_ hk => ⟨Kd.fresh' (Kd.R_lt (xyr HO_6.out)) k_ hk, Kd.fresh' (Kd.R_lt (xyr HO142.out)) k_ hk⟩)); (case aO => exact (xyr HO_9.out)); (case aS => exact (below_size (xyo HB.out))); (case aL => have := LMc31.out; omega); intro v144 w35 ho hb hg hat; rw [← Ny143.out] at ho; replace HO_6 := Aside0.mk (Kd.R_after (ok := (fun k_ => some k_ ≠ (v141 : Value).ownBlock)) wy19 hg hat); replace HO_10 := Aside0.mk (Kd.S_after (ok := (fun k_ => some k_ ≠ (.slice Ao26 x6_3.length co26 : Value).ownBlock ∧ some k_ ≠ (v141 : Value).ownBlock)) wy43 hg hat); replace HO142 := Aside0.mk (Kd.R_after (ok := (fun k_ => some k_ ≠ (.slice Ao26 x6_3.length co26 : Value).ownBlock)) (xyr HO142.out) hg hat); replace HB := Aside0.mk (hb); have HO145 := Aside0.mk (ho); clear HO_9; clear ho hb hg hat) | ((with_reducible refine gate_dst (N := 69) rfl ?_); (try (refine gate_guard (by rfl) ?_; dsimp only)); refine Kd.R_lit (Kd.int .i64) _ 2 ?hg (N := 69) ?hd (xs := ([] : List Int)) (inner := []) (ok := fun _ => True) (okp := fun _ => True) ?hr ?hp (fun _ hk => hk) trivial (Below.refl _ _) (Nat.le_refl _) (by simp) ?_; (case hd => rfl); (case hg => rfl); (case hr => first | (go_simp; done) | (go_simp; rfl)); (case hp => exact (Reps.none _ _)); intro v147 w36 ho37 hb hg_ hnew_; clear hg_ hnew_; (first | rw [← Ny146.out] at ho37 | (simp only [Int.reduceToNat] at ho37; rw [← Ny146.out] at ho37)); replace HO_10 := Aside0.mk (Kd.S_elder' wy11 (Kd.R_base ho37) hb); have HO148 := Aside0.mk (Kd.R_lower (Kd.R_new' (Kd.R_new' (Kd.R_new' ho37 (Kd.R_lt (xyr HO_6.out))) (Kd.R_lt (xyr HO142.out))) (Kd.R_lt (xyr HO145.out))) (below_size (xyo HB.out))); replace HO_6 := Aside0.mk (Kd.R_elder' (xyr HO_6.out) (Kd.R_base ho37) hb); replace HO142 := Aside0.mk (Kd.R_elder' (xyr HO142.out) (Kd.R_base ho37) hb); replace HO145 := Aside0.mk (Kd.R_elder' (xyr HO145.out) (Kd.R_base ho37) hb); replace HB := Aside0.mk (below_step (xyo HB.out) hb); clear hb ho37; obtain ⟨Ao39, co39, eo39⟩ := Kd.R_slice HO148.out; subst eo39) | ((with_reducible refine gate_builtin (b := .append) (xs := #[.tmp 68, .tmp 70]) rfl ?_); (try (refine gate_guard (by rfl) ?_; dsimp only)); at_builtin; refine Kd.S_append (Kd.slice 2 (Kd.int .i64)) (w0 := w) w.heap.size rfl (.tmp 68) (.tmp 70) 51 29 (.slice none 0 0) 24 rfl Try.underlying51 info29 rfl (by decide) (by omega) u10 x10_3 y146 [.slice Ao39 y146.length co39] (fun k_ => some k_ ≠ (.slice Ao26 x6_3.length co26 : Value).ownBlock ∧ some k_ ≠ (v141 : Value).ownBlock ∧ some k_ ≠ (v144 : Value).ownBlock) (fun k_ => some k_ = (.slice Ao39 y146.length co39 : Value).ownBlock) rfl rfl ?aP (fun k_ hk_ => ((Kd.R_mono (ok' := fun k_ => ((fun k_ => some k_ ≠ (.slice Ao26 x6_3.length co26 : Value).ownBlock ∧ some k_ ≠ (v141 : Value).ownBlock ∧ some k_ ≠ (v144 : Value).ownBlock)) k_ ∧ some k_ ≠ (u10 : Value).ownBlock) (Kd.R_apart' (HO148.out) (Kd.S_typed HO_10.out) (by decide)) (fun k_ hk => ⟨⟨hk.1.1.1.2, ⟨hk.1.1.2, hk.1.2⟩⟩, hk.2⟩))).1 k_ hk_.symm) ?aF ?aO ?aB ?aS ?aL ?_; (case aP => exact Kd.M_row (Kd.R_mono (Kd.R_tight rfl (Kd.R_mono (ok' := fun k_ => ((fun k_ => some k_ ≠ (.slice Ao26 x6_3.length co26 : Value).ownBlock ∧ some k_ ≠ (v141 : Value).ownBlock ∧ some k_ ≠ (v144 : Value).ownBlock)) k_ ∧ some k_ ≠ (u10 : Value).ownBlock) (Kd.R_apart' (HO148.out) (Kd.S_typed HO_10.out) (by decide)) (fun k_ hk => ⟨⟨hk.1.1.1.2, ⟨hk.1.1.2, hk.1.2⟩⟩, hk.2⟩))) (fun _ h_ => h_))); (case aB => exact (xyo HB.out)); (case aF => exact (fun k_ hk => ⟨Kd.fresh' (Kd.R_lt (xyr HO_6.out)) k_ hk, Kd.fresh' (Kd.R_lt (xyr HO142.out)) k_ hk, Kd.fresh' (Kd.R_lt (xyr HO145.out)) k_ hk⟩)); (case aO => exact wy38); (case aS => exact (below_size (xyo HB.out))); (case aL => have := LMc32.out; omega); intro v150 w38 ho hb hg hat; rw [← Ny149.out] at ho; replace HO_6 := Aside0.mk (Kd.R_over' (xyr HO_6.out) (Kd.S_typed wy11) (by decide) hg); replace HO142 := Aside0.mk (Kd.R_over' (xyr HO142.out) (Kd.S_typed wy11) (by decide) hg); replace HO145 := Aside0.mk (Kd.R_over' (xyr HO145.out) (Kd.S_typed wy11) (by decide) hg); replace HB := Aside0.mk (hb); have HO151 := Aside0.mk (ho); clear HO_10 HO148; clear ho hb hg hat))
            go_ret2
            exact ⟨_, wy3, wy17, (xyo HB.out)⟩
           rw [if_neg c33] at H
           have c33b0 : decide (4 < (wrap64 ((x8_3.length : Int) + 1))) = false := decide_eq_false c33
           clear c33
           replace H := Option.bind_eq_some_iff.mp H
           obtain ⟨t152, A400, H⟩ := H
           replace H : (if t152 > 64 then (some (x6_3, false)) else (spec_l08Pairs.l1 kj24 l1 x6_3 y140 y143 y149 (wrap64 (x11_3 + 1)))) = some (r1, r2) := H
           have A40 := Aside0.mk A400
           clear A400
           by_cases c41 : t152 > 64
           ·rw [if_pos c41] at H
            have c41b0 : decide (64 < t152) = true := decide_eq_true c41
            clear c41
            simp only [Option.some.injEq, Prod.mk.injEq] at H
            obtain ⟨rfl, rfl⟩ := H
            go_wp2_with (first | ((with_reducible refine gate_builtin (b := .append) (xs := #[.tmp 60, .tmp 62]) rfl ?_); (try (refine gate_guard (by rfl) ?_; dsimp only)); at_builtin; refine Kd.R_append (Kd.int .i64) (w0 := w) w.heap.size rfl (.tmp 60) (.tmp 62) 29 2 (.int .i64 0) 8 rfl Try.underlying29 info2 rfl (by decide) (by omega) (.slice Ao27 x8_3.length co27) x8_3 x11_3 [.int .i64 x11_3] (fun k_ => some k_ ≠ (.slice Ao26 x6_3.length co26 : Value).ownBlock ∧ some k_ ≠ (u9 : Value).ownBlock) (fun _ => False) rfl rfl ?aP (fun _ hk => hk.elim) ?aF ?aO ?aB ?aS ?aL ?_; (case aP => exact rfl); (case aB => exact (xyo HB.out)); (case aF => exact (fun k_ hk => ⟨Kd.fresh' (Kd.R_lt (xyr HO_6.out)) k_ hk, Kd.fresh' (Kd.R_lt (xyr HO_9.out)) k_ hk⟩)); (case aO => exact (xyr HO_8.out)); (case aS => exact (below_size (xyo HB.out))); (case aL => have := LMc30.out; omega); intro v141 w42 ho hb hg hat; rw [← Ny140.out] at ho; replace HO_6 := Aside0.mk (Kd.R_after (ok := (fun k_ => some k_ ≠ (u9 : Value).ownBlock)) wy19 hg hat); replace HO_9 := Aside0.mk (Kd.R_after (ok := (fun k_ => some k_ ≠ (.slice Ao26 x6_3.length co26 : Value).ownBlock)) (xyr HO_9.out) hg hat); replace HO_10 := Aside0.mk (Kd.S_after (ok := (fun k_ => some k_ ≠ (.slice Ao26 x6_3.length co26 : Value).ownBlock ∧ some k_ ≠ (u9 : Value).ownBlock)) wy44 hg hat); replace HB := Aside0.mk (hb); have HO142 := Aside0.mk (ho); clear HO_8; clear ho hb hg hat) | ((with_reducible refine gate_builtin (b := .append) (xs := #[.tmp 64, .tmp 66]) rfl ?_); (try (refine gate_guard (by rfl) ?_; dsimp only)); at_builtin; refine Kd.R_append (Kd.int .i64) (w0 := w) w.heap.size rfl (.tmp 64) (.tmp 66) 29 2 (.int .i64 0) 8 rfl Try.underlying29 info2 rfl (by decide) (by omega) u9 x9_3 x11_3 [.int .i64 x11_3] (fun k_ => some k_ ≠ (.slice Ao26 x6_3.length co26 : Value).ownBlock ∧ some k_ ≠ (v141 : Value).ownBlock) (fun _ => False) rfl rfl ?aP (fun _ hk => hk.elim) ?aF ?aO ?aB ?aS ?aL ?_; (case aP => exact rfl); (case aB => exact (xyo HB.out)); (case aF => exact (fun k_ hk => ⟨Kd.fresh' (Kd.R_lt (xyr HO_6.out)) k_ hk, Kd.fresh' (Kd.R_lt (xyr HO142.out)) k_ hk⟩)); (case aO => exact (xyr HO_9.out)); (case aS => exact (below_size (xyo HB.out))); (case aL => have := LMc31.out; omega); intro v144 w43 ho hb hg hat; rw [← Ny143.out] at ho; replace HO_6 := Aside0.mk (Kd.R_after (ok := (fun k_ => some k_ ≠ (v141 : Value).ownBlock)) wy19 hg hat); replace HO_10 := Aside0.mk (Kd.S_after (ok := (fun k_ => some k_ ≠ (.slice Ao26 x6_3.length co26 : Value).ownBlock ∧ some k_ ≠ (v141 : Value).ownBlock)) wy43 hg hat); replace HO142 := Aside0.mk (Kd.R_after (ok := (fun k_ => some k_ ≠ (.slice Ao26 x6_3.length co26 : Value).ownBlock)) (xyr HO142.out) hg hat); replace HB := Aside0.mk (hb); have HO145 := Aside0.mk (ho); clear HO_9; clear ho hb hg hat) | ((with_reducible refine gate_dst (N := 69) rfl ?_); (try (refine gate_guard (by rfl) ?_; dsimp only)); refine Kd.R_lit (Kd.int .i64) _ 2 ?hg (N := 69) ?hd (xs := ([] : List Int)) (inner := []) (ok := fun _ => True) (okp := fun _ => True) ?hr ?hp (fun _ hk => hk) trivial (Below.refl _ _) (Nat.le_refl _) (by simp) ?_; (case hd => rfl); (case hg => rfl); (case hr => first | (go_simp; done) | (go_simp; rfl)); (case hp => exact (Reps.none _ _)); intro v147 w44 ho45 hb hg_ hnew_; clear hg_ hnew_; (first | rw [← Ny146.out] at ho45 | (simp only [Int.reduceToNat] at ho45; rw [← Ny146.out] at ho45)); replace HO_10 := Aside0.mk (Kd.S_elder' wy11 (Kd.R_base ho45) hb); have HO148 := Aside0.mk (Kd.R_lower (Kd.R_new' (Kd.R_new' (Kd.R_new' ho45 (Kd.R_lt (xyr HO_6.out))) (Kd.R_lt (xyr HO142.out))) (Kd.R_lt (xyr HO145.out))) (below_size (xyo HB.out))); replace HO_6 := Aside0.mk (Kd.R_elder' (xyr HO_6.out) (Kd.R_base ho45) hb); replace HO142 := Aside0.mk (Kd.R_elder' (xyr HO142.out) (Kd.R_base ho45) hb); replace HO145 := Aside0.mk (Kd.R_elder' (xyr HO145.out) (Kd.R_base ho45) hb); replace HB := Aside0.mk (below_step (xyo HB.out) hb); clear hb ho45; obtain ⟨Ao47, co47, eo47⟩ := Kd.R_slice HO148.out; subst eo47) | ((with_reducible refine gate_builtin (b := .append) (xs := #[.tmp 68, .tmp 70]) rfl ?_); (try (refine gate_guard (by rfl) ?_; dsimp only)); at_builtin; refine Kd.S_append (Kd.slice 2 (Kd.int .i64)) (w0 := w) w.heap.size rfl (.tmp 68) (.tmp 70) 51 29 (.slice none 0 0) 24 rfl Try.underlying51 info29 rfl (by decide) (by omega) u10 x10_3 y146 [.slice Ao47 y146.length co47] (fun k_ => some k_ ≠ (.slice Ao26 x6_3.length co26 : Value).ownBlock ∧ some k_ ≠ (v141 : Value).ownBlock ∧ some k_ ≠ (v144 : Value).ownBlock) (fun k_ => some k_ = (.slice Ao47 y146.length co47 : Value).ownBlock) rfl rfl ?aP (fun k_ hk_ => ((Kd.R_mono (ok' := fun k_ => ((fun k_ => some k_ ≠ (.slice Ao26 x6_3.length co26 : Value).ownBlock ∧ some k_ ≠ (v141 : Value).ownBlock ∧ some k_ ≠ (v144 : Value).ownBlock)) k_ ∧ some k_ ≠ (u10 : Value).ownBlock) (Kd.R_apart' (HO148.out) (Kd.S_typed HO_10.out) (by decide)) (fun k_ hk => ⟨⟨hk.1.1.1.2, ⟨hk.1.1.2, hk.1.2⟩⟩, hk.2⟩))).1 k_ hk_.symm) ?aF ?aO ?aB ?aS ?aL ?_; (case aP => exact Kd.M_row (Kd.R_mono (Kd.R_tight rfl (Kd.R_mono (ok' := fun k_ => ((fun k_ => some k_ ≠ (.slice Ao26 x6_3.length co26 : Value).ownBlock ∧ some k_ ≠ (v141 : Value).ownBlock ∧ some k_ ≠ (v144 : Value).ownBlock)) k_ ∧ some k_ ≠ (u10 : Value).ownBlock) (Kd.R_apart' (HO148.out) (Kd.S_typed HO_10.out) (by decide)) (fun k_ hk => ⟨⟨hk.1.1.1.2, ⟨hk.1.1.2, hk.1.2⟩⟩, hk.2⟩))) (fun _ h_ => h_))); (case aB => exact (xyo HB.out)); (case aF => exact (fun k_ hk => ⟨Kd.fresh' (Kd.R_lt (xyr HO_6.out)) k_ hk, Kd.fresh' (Kd.R_lt (xyr HO142.out)) k_ hk, Kd.fresh' (Kd.R_lt (xyr HO145.out)) k_ hk⟩)); (case aO => exact wy38); (case aS => exact (below_size (xyo HB.out))); (case aL => have := LMc32.out; omega); intro v150 w46 ho hb hg hat; rw [← Ny149.out] at ho; replace HO_6 := Aside0.mk (Kd.R_over' (xyr HO_6.out) (Kd.S_typed wy11) (by decide) hg); replace HO142 := Aside0.mk (Kd.R_over' (xyr HO142.out) (Kd.S_typed wy11) (by decide) hg); replace HO145 := Aside0.mk (Kd.R_over' (xyr HO145.out) (Kd.S_typed wy11) (by decide) hg); replace HB := Aside0.mk (hb); have HO151 := Aside0.mk (ho); clear HO_10 HO148; clear ho hb hg hat; obtain ⟨Ao48, co48, eo48⟩ := Kd.R_slice HO142.out; subst eo48) | (go_at_call 94; (with_reducible refine (spec_l08Rounds.calls kj24 _ _ l1 _ _ y140 t152 _ ?side1 ?side2 ?side3 ?side4 A40.out).mono ?_); (case side1 => repeat (first | exact (Kd.C_below HR1.out HB.out) | (with_reducible refine Kd.C_alloc ?_ _) | (with_reducible refine Kd.C_drewN ?_ _) | (with_reducible refine Kd.C_drew ?_))); (case side2 => exact HC1.out); (case side3 => repeat (first | exact (Kd.R_reads' HO142.out).2.2 | (with_reducible refine Kd.C_alloc ?_ _) | (with_reducible refine Kd.C_drewN ?_ _) | (with_reducible refine Kd.C_drew ?_))); (case side4 => exact (Kd.R_reads' HO142.out).2.1); rintro e w' ⟨rfl, ⟨nd, rfl⟩⟩))
            go_ret2
            exact ⟨_, wy3, wy17, (xyo HB.out)⟩
           rw [if_neg c41] at H
           have c41b0 : decide (64 < t152) = false := decide_eq_false c41
           clear c41
           have H' := Aside0.mk H
           clear H
           go_wp2_with (first | ((with_reducible refine gate_builtin (b := .append) (xs := #[.tmp 60, .tmp 62]) rfl ?_); (try (refine gate_guard (by rfl) ?_; dsimp only)); at_builtin; refine Kd.R_append (Kd.int .i64) (w0 := w) w.heap.size rfl (.tmp 60) (.tmp 62) 29 2 (.int .i64 0) 8 rfl Try.underlying29 info2 rfl (by decide) (by omega) (.slice Ao27 x8_3.length co27) x8_3 x11_3 [.int .i64 x11_3] (fun k_ => some k_ ≠ (.slice Ao26 x6_3.length co26 : Value).ownBlock ∧ some k_ ≠ (u9 : Value).ownBlock) (fun _ => False) rfl rfl ?aP (fun _ hk => hk.elim) ?aF ?aO ?aB ?aS ?aL ?_; (case aP => exact rfl); (case aB => exact (xyo HB.out)); (case aF => exact (fun k_ hk => ⟨Kd.fresh' (Kd.R_lt (xyr HO_6.out)) k_ hk, Kd.fresh' (Kd.R_lt (xyr HO_9.out)) k_ hk⟩)); (case aO => exact (xyr HO_8.out)); (case aS => exact (below_size (xyo HB.out))); (case aL => have := LMc30.out; omega); intro v141 w49 ho hb hg hat; rw [← Ny140.out] at ho; replace HO_6 := Aside0.mk (Kd.R_after (ok := (fun k_ => some k_ ≠ (u9 : Value).ownBlock)) wy19 hg hat); replace HO_9 := Aside0.mk (Kd.R_after (ok := (fun k_ => some k_ ≠ (.slice Ao26 x6_3.length co26 : Value).ownBlock)) (xyr HO_9.out) hg hat); replace HO_10 := Aside0.mk (Kd.S_after (ok := (fun k_ => some k_ ≠ (.slice Ao26 x6_3.length co26 : Value).ownBlock ∧ some k_ ≠ (u9 : Value).ownBlock)) wy44 hg hat); replace HB := Aside0.mk (hb); have HO142 := Aside0.mk (ho); clear HO_8; clear ho hb hg hat) | ((with_reducible refine gate_builtin (b := .append) (xs := #[.tmp 64, .tmp 66]) rfl ?_); (try (refine gate_guard (by rfl) ?_; dsimp only)); at_builtin; refine Kd.R_append (Kd.int .i64) (w0 := w) w.heap.size rfl (.tmp 64) (.tmp 66) 29 2 (.int .i64 0) 8 rfl Try.underlying29 info2 rfl (by decide) (by omega) u9 x9_3 x11_3 [.int .i64 x11_3] (fun k_ => some k_ ≠ (.slice Ao26 x6_3.length co26 : Value).ownBlock ∧ some k_ ≠ (v141 : Value).ownBlock) (fun _ => False) rfl rfl ?aP (fun _ hk => hk.elim) ?aF ?aO ?aB ?aS ?aL ?_; (case aP => exact rfl); (case aB => exact (xyo HB.out)); (case aF => exact (fun k_ hk => ⟨Kd.fresh' (Kd.R_lt (xyr HO_6.out)) k_ hk, Kd.fresh' (Kd.R_lt (xyr HO142.out)) k_ hk⟩)); (case aO => exact (xyr HO_9.out)); (case aS => exact (below_size (xyo HB.out))); (case aL => have := LMc31.out; omega); intro v144 w50 ho hb hg hat; rw [← Ny143.out] at ho; replace HO_6 := Aside0.mk (Kd.R_after (ok := (fun k_ => some k_ ≠ (v141 : Value).ownBlock)) wy19 hg hat); replace HO_10 := Aside0.mk (Kd.S_after (ok := (fun k_ => some k_ ≠ (.slice Ao26 x6_3.length co26 : Value).ownBlock ∧ some k_ ≠ (v141 : Value).ownBlock)) wy43 hg hat); replace HO142 := Aside0.mk (Kd.R_after (ok := (fun k_ => some k_ ≠ (.slice Ao26 x6_3.length co26 : Value).ownBlock)) (xyr HO142.out) hg hat); replace HB := Aside0.mk (hb); have HO145 := Aside0.mk (ho); clear HO_9; clear ho hb hg hat) | ((with_reducible refine gate_dst (N := 69) rfl ?_); (try (refine gate_guard (by rfl) ?_; dsimp only)); refine Kd.R_lit (Kd.int .i64) _ 2 ?hg (N := 69) ?hd (xs := ([] : List Int)) (inner := []) (ok := fun _ => True) (okp := fun _ => True) ?hr ?hp (fun _ hk => hk) trivial (Below.refl _ _) (Nat.le_refl _) (by simp) ?_; (case hd => rfl); (case hg => rfl); (case hr => first | (go_simp; done) | (go_simp; rfl)); (case hp => exact (Reps.none _ _)); intro v147 w51 ho52 hb hg_ hnew_; clear hg_ hnew_; (first | rw [← Ny146.out] at ho52 | (simp only [Int.reduceToNat] at ho52; rw [← Ny146.out] at ho52)); replace HO_10 := Aside0.mk (Kd.S_elder' wy11 (Kd.R_base ho52) hb); have HO148 := Aside0.mk (Kd.R_lower (Kd.R_new' (Kd.R_new' (Kd.R_new' ho52 (Kd.R_lt (xyr HO_6.out))) (Kd.R_lt (xyr HO142.out))) (Kd.R_lt (xyr HO145.out))) (below_size (xyo HB.out))); replace HO_6 := Aside0.mk (Kd.R_elder' (xyr HO_6.out) (Kd.R_base ho52) hb); replace HO142 := Aside0.mk (Kd.R_elder' (xyr HO142.out) (Kd.R_base ho52) hb); replace HO145 := Aside0.mk (Kd.R_elder' (xyr HO145.out) (Kd.R_base ho52) hb); replace HB := Aside0.mk (below_step (xyo HB.out) hb); clear hb ho52; obtain ⟨Ao54, co54, eo54⟩ := Kd.R_slice HO148.out; subst eo54) | ((with_reducible refine gate_builtin (b := .append) (xs := #[.tmp 68, .tmp 70]) rfl ?_); (try (refine gate_guard (by rfl) ?_; dsimp only)); at_builtin; refine Kd.S_append (Kd.slice 2 (Kd.int .i64)) (w0 := w) w.heap.size rfl (.tmp 68) (.tmp 70) 51 29 (.slice none 0 0) 24 rfl Try.underlying51 info29 rfl (by decide) (by omega) u10 x10_3 y146 [.slice Ao54 y146.length co54] (fun k_ => some k_ ≠ (.slice Ao26 x6_3.length co26 : Value).ownBlock ∧ some k_ ≠ (v141 : Value).ownBlock ∧ some k_ ≠ (v144 : Value).ownBlock) (fun k_ => some k_ = (.slice Ao54 y146.length co54 : Value).ownBlock) rfl rfl ?aP (fun k_ hk_ => ((Kd.R_mono (ok' := fun k_ => ((fun k_ => some k_ ≠ (.slice Ao26 x6_3.length co26 : Value).ownBlock ∧ some k_ ≠ (v141 : Value).ownBlock ∧ some k_ ≠ (v144 : Value).ownBlock)) k_ ∧ some k_ ≠ (u10 : Value).ownBlock) (Kd.R_apart' (HO148.out) (Kd.S_typed HO_10.out) (by decide)) (fun k_ hk => ⟨⟨hk.1.1.1.2, ⟨hk.1.1.2, hk.1.2⟩⟩, hk.2⟩))).1 k_ hk_.symm) ?aF ?aO ?aB ?aS ?aL ?_; (case aP => exact Kd.M_row (Kd.R_mono (Kd.R_tight rfl (Kd.R_mono (ok' := fun k_ => ((fun k_ => some k_ ≠ (.slice Ao26 x6_3.length co26 : Value).ownBlock ∧ some k_ ≠ (v141 : Value).ownBlock ∧ some k_ ≠ (v144 : Value).ownBlock)) k_ ∧ some k_ ≠ (u10 : Value).ownBlock) (Kd.R_apart' (HO148.out) (Kd.S_typed HO_10.out) (by decide)) (fun k_ hk => ⟨⟨hk.1.1.1.2, ⟨hk.1.1.2, hk.1.2⟩⟩, hk.2⟩))) (fun _ h_ => h_))); (case aB => exact (xyo HB.out)); (case aF => exact (fun k_ hk => ⟨Kd.fresh' (Kd.R_lt (xyr HO_6.out)) k_ hk, Kd.fresh' (Kd.R_lt (xyr HO142.out)) k_ hk, Kd.fresh' (Kd.R_lt (xyr HO145.out)) k_ hk⟩)); (case aO => exact wy38); (case aS => exact (below_size (xyo HB.out))); (case aL => have := LMc32.out; omega); intro v150 w53 ho hb hg hat; rw [← Ny149.out] at ho; replace HO_6 := Aside0.mk (Kd.R_over' (xyr HO_6.out) (Kd.S_typed wy11) (by decide) hg); replace HO142 := Aside0.mk (Kd.R_over' (xyr HO142.out) (Kd.S_typed wy11) (by decide) hg); replace HO145 := Aside0.mk (Kd.R_over' (xyr HO145.out) (Kd.S_typed wy11) (by decide) hg); replace HB := Aside0.mk (hb); have HO151 := Aside0.mk (ho); clear HO_10 HO148; clear ho hb hg hat; obtain ⟨Ao55, co55, eo55⟩ := Kd.R_slice HO142.out; subst eo55) | (go_at_call 94; (with_reducible refine (spec_l08Rounds.calls kj24 _ _ l1 _ _ y140 t152 _ ?side1 ?side2 ?side3 ?side4 A40.out).mono ?_); (case side1 => repeat (first | exact (Kd.C_below HR1.out HB.out) | (with_reducible refine Kd.C_alloc ?_ _) | (with_reducible refine Kd.C_drewN ?_ _) | (with_reducible refine Kd.C_drew ?_))); (case side2 => exact HC1.out); (case side3 => repeat (first | exact (Kd.R_reads' HO142.out).2.2 | (with_reducible refine Kd.C_alloc ?_ _) | (with_reducible refine Kd.C_drewN ?_ _) | (with_reducible refine Kd.C_drew ?_))); (case side4 => exact (Kd.R_reads' HO142.out).2.1); rintro e w' ⟨rfl, ⟨nd, rfl⟩⟩))
           go_roundg kj24
           case measure => have := HK1.out; have := HJ4.out; have := HK3.out; have := HJ24.out; omega
           case rel => exact ⟨(x6_3), (y140), (y143), (y149), (wrap64 (x11_3 + 1)), wy5, H', ⟨(by have := HK1.out; have := HJ4.out; have := HK3.out; have := HJ24.out; omega)⟩, ⟨(by (with_reducible repeat (first | apply Kd.R_alloc | apply Kd.R_drewN | apply Kd.R_drew)); exact Kd.R_mono HO_6.out (fun _ hk => ⟨hk.1.1, hk.1.2⟩))⟩, ⟨(by (with_reducible repeat (first | apply Kd.R_alloc | apply Kd.R_drewN | apply Kd.R_drew)); exact Kd.R_mono HO142.out (fun _ hk => ⟨hk.1.1, hk.1.2⟩))⟩, ⟨(by (with_reducible repeat (first | apply Kd.R_alloc | apply Kd.R_drewN | apply Kd.R_drew)); exact Kd.R_mono HO145.out (fun _ hk => ⟨hk.1.1, hk.1.2⟩))⟩, ⟨(by (with_reducible repeat (first | apply Kd.S_alloc | apply Kd.S_drewN | apply Kd.S_drew)); exact HO151.out)⟩, ⟨(xyo HB.out)⟩⟩
          replace c29 := Bool.eq_false_iff.mpr c29
          subst c29
          have H1 : (if ((rd_T63 l1 x11_3).f0) = 3 then (if (x8_3.length : Int) = 0 then (some (x6_3, false)) else (if 0 ≤ (wrap64 ((x8_3.length : Int) - 1)) then (if (wrap64 ((x8_3.length : Int) - 1)) < (x9_3.length : Int) then (if 0 ≤ (rd x9_3 (wrap64 ((x8_3.length : Int) - 1))) then (if (rd x9_3 (wrap64 ((x8_3.length : Int) - 1))) < (l1.length : Int) then (if ((rd_T63 l1 (rd x9_3 (wrap64 ((x8_3.length : Int) - 1)))).f0) = 2 then (if (rd x9_3 (wrap64 ((x8_3.length : Int) - 1))) < (x6_3.length : Int) then (spec_l08Pairs.l1 kj24 l1 (x6_3.set ((rd x9_3 (wrap64 ((x8_3.length : Int) - 1))) : Int).toNat x11_3) x8_3 (x9_3.set ((wrap64 ((x8_3.length : Int) - 1)) : Int).toNat x11_3) x10_3 (wrap64 (x11_3 + 1))) else (none)) else (some (x6_3, false))) else (none)) else (none)) else (none)) else (none))) else (if ((rd_T63 l1 x11_3).f0) = 4 then (if (x8_3.length : Int) = 0 then (some (x6_3, false)) else (if 0 ≤ (wrap64 ((x8_3.length : Int) - 1)) then (if (wrap64 ((x8_3.length : Int) - 1)) < (x9_3.length : Int) then (if 0 ≤ (rd x9_3 (wrap64 ((x8_3.length : Int) - 1))) then (if (rd x9_3 (wrap64 ((x8_3.length : Int) - 1))) < (x6_3.length : Int) then (if (wrap64 ((x8_3.length : Int) - 1)) < (x8_3.length : Int) then (if 0 ≤ x11_3 then (if x11_3 < (x6_3.length : Int) then (spec_l08Pairs.l2 kj24 l1 ((x6_3.set ((rd x9_3 (wrap64 ((x8_3.length : Int) - 1))) : Int).toNat x11_3).set (x11_3 : Int).toNat (rd x8_3 (wrap64 ((x8_3.length : Int) - 1)))) x8_3 x9_3 x10_3 x11_3 (x8_3.length : Int) 0) else (none)) else (none)) else (none)) else (none)) else (none)) else (none)) else (none))) else (if ((rd_T63 l1 x11_3).f0) = 6 then (spec_l08Pairs.l3 kj24 l1 x6_3 x8_3 x9_3 x10_3 x11_3 (wrap64 ((x8_3.length : Int) - 1))) else (spec_l08Pairs.l1 kj24 l1 x6_3 x8_3 x9_3 x10_3 (wrap64 (x11_3 + 1)))))) = some (r1, r2) := by rw [if_neg (show ¬ (false = true) by decide)] at H; exact H
          clear H
          have H := H1
          clear H1
          by_cases c56 : ((rd_T63 l1 x11_3).f0) = 3
          ·rw [if_pos c56] at H
           have c56b0 : (((rd_T63 l1 x11_3).f0) == 3) = true := beq_iff_eq.mpr c56
           have c56b1 : (((rd_T63 l1 x11_3).f0) != 3) = false := bne_eq_false_iff_eq.mpr c56
           clear c56
           by_cases c57 : (x8_3.length : Int) = 0
           ·rw [if_pos c57] at H
            have c57b0 : ((x8_3.length : Int) == 0) = true := beq_iff_eq.mpr c57
            have c57b1 : ((x8_3.length : Int) != 0) = false := bne_eq_false_iff_eq.mpr c57
            clear c57
            simp only [Option.some.injEq, Prod.mk.injEq] at H
            obtain ⟨rfl, rfl⟩ := H
            go_wp2
            go_ret2
            exact ⟨_, wy3, wy17, (xyo HB.out)⟩
           rw [if_neg c57] at H
           have c57b0 : ((x8_3.length : Int) == 0) = false := beq_eq_false_iff_ne.mpr c57
           have c57b1 : ((x8_3.length : Int) != 0) = true := bne_iff_ne.mpr c57
           have c57b2 : ¬ (x8_3 = []) := fun h_ => c57 (by rw [h_]; rfl)
           obtain ⟨ji58, hji58⟩ : ∃ j_ : Int, (wrap64 ((x8_3.length : Int) - 1)) = j_ := ⟨_, rfl⟩
           replace H : (if 0 ≤ (ji58) then (if (ji58) < (x9_3.length : Int) then (if 0 ≤ (rd x9_3 (ji58)) then (if (rd x9_3 (ji58)) < (l1.length : Int) then (if ((rd_T63 l1 (rd x9_3 (ji58))).f0) = 2 then (if (rd x9_3 (ji58)) < (x6_3.length : Int) then (spec_l08Pairs.l1 kj24 l1 (x6_3.set ((rd x9_3 (ji58)) : Int).toNat x11_3) x8_3 (x9_3.set ((ji58) : Int).toNat x11_3) x10_3 (wrap64 (x11_3 + 1))) else (none)) else (some (x6_3, false))) else (none)) else (none)) else (none)) else (none)) = some (r1, r2) := by first | (rw [hji58] at H; exact H) | (simp only [hji58] at H ⊢; exact H)
           have hji58w : (IntKind.i64.wrap ((x8_3.length : Int) - 1)) = ji58 := (i64_w _).trans hji58
           replace H := zy_g H
           obtain ⟨c59, H⟩ := H
           have c59b0 : decide (0 ≤ (ji58)) = true := decide_eq_true c59
           clear c59
           replace H := zy_g H
           obtain ⟨c60, H⟩ := H
           have c60b0 : decide ((ji58) < (x9_3.length : Int)) = true := decide_eq_true c60
           clear c60
           replace H := zy_g H
           obtain ⟨c61, H⟩ := H
           have c61b0 : decide (0 ≤ (rd x9_3 (ji58))) = true := decide_eq_true c61
           clear c61
           replace H := zy_g H
           obtain ⟨c62, H⟩ := H
           have c62b0 : decide ((rd x9_3 (ji58)) < (l1.length : Int)) = true := decide_eq_true c62
           clear c62
           by_cases c63 : ((rd_T63 l1 (rd x9_3 (ji58))).f0) = 2
           ·rw [if_pos c63] at H
            have c63b0 : (((rd_T63 l1 (rd x9_3 (ji58))).f0) == 2) = true := beq_iff_eq.mpr c63
            have c63b1 : (((rd_T63 l1 (rd x9_3 (ji58))).f0) != 2) = false := bne_eq_false_iff_eq.mpr c63
            clear c63
            replace H := zy_g H
            obtain ⟨c64, H⟩ := H
            have c64b0 : decide ((rd x9_3 (ji58)) < (x6_3.length : Int)) = true := decide_eq_true c64
            clear c64
            obtain ⟨y156, hy156⟩ : ∃ y_ : List Int, y_ = (x6_3.set ((rd x9_3 (ji58)) : Int).toNat x11_3) := ⟨_, rfl⟩
            replace H : (spec_l08Pairs.l1 kj24 l1 y156 x8_3 (x9_3.set ((ji58) : Int).toNat x11_3) x10_3 (wrap64 (x11_3 + 1))) = some (r1, r2) := by first | (rw [hy156]; with_reducible exact H) | (have H2_ := (Option.bind_some _ _).symm.trans H; rw [hy156]; with_reducible exact H2_) | (have H2_ := (Option.bind_some _ _).symm.trans H; with_reducible exact H2_) | with_reducible exact H | (rw [hy156]; exact H) | exact H
            have Ny156 := Aside0.mk hy156
            clear hy156
            obtain ⟨y157, hy157⟩ : ∃ y_ : List Int, y_ = (x9_3.set ((ji58) : Int).toNat x11_3) := ⟨_, rfl⟩
            replace H : (spec_l08Pairs.l1 kj24 l1 y156 x8_3 y157 x10_3 (wrap64 (x11_3 + 1))) = some (r1, r2) := by first | (rw [hy157]; with_reducible exact H) | (have H2_ := (Option.bind_some _ _).symm.trans H; rw [hy157]; with_reducible exact H2_) | (have H2_ := (Option.bind_some _ _).symm.trans H; with_reducible exact H2_) | with_reducible exact H | (rw [hy157]; exact H) | exact H
            have Ny157 := Aside0.mk hy157
            clear hy157
            have H' := Aside0.mk H
            clear H
            obtain ⟨Ao67, co67, eo67⟩ := Kd.R_slice HO_9.out
            subst eo67
            have p153 : 0 ≤ ((ji58) : Int) := xyd
            have q153 : (ji58) < (x9_3.length : Int) := xyd
            obtain ⟨ad153, e153, hx153_0⟩ := Kd.at_int (Kd.R_reads' HO_9.out).2.2 (ji58) p153 q153
            cases e153
            replace p153 := eq_true p153
            replace q153 := eq_true q153
            have p154 : 0 ≤ ((rd x9_3 (ji58)) : Int) := xyd
            have q154 : (rd x9_3 (ji58)) < (l1.length : Int) := xyd
            obtain ⟨ad154, e154, hx154_0, hx154_1, hx154_2, hx154_3, hx154_4⟩ := at_T63 HR1.out (rd x9_3 (ji58)) p154 q154
            obtain rfl : ad139 = ad154 := (by injection e154)
            replace hx154_0 := xyh HB.out hx154_0
            replace hx154_1 := xyh HB.out hx154_1
            replace hx154_2 := xyh HB.out hx154_2
            replace hx154_3 := xyh HB.out hx154_3
            replace hx154_4 := xyh HB.out hx154_4
            replace p154 := eq_true p154
            replace q154 := eq_true q154
            have p155 : 0 ≤ ((ji58) : Int) := xyd
            have q155 : (ji58) < (x9_3.length : Int) := xyd
            obtain ⟨ad155, e155, hx155_0⟩ := Kd.at_int (Kd.R_reads' HO_9.out).2.2 (ji58) p155 q155
            obtain rfl : ad153 = ad155 := (by injection e155)
            replace p155 := eq_true p155
            replace q155 := eq_true q155
            have p65 : 0 ≤ ((rd x9_3 (ji58)) : Int) := xyd
            have q65 : ((rd x9_3 (ji58)) : Int) < ((x6_3.length : Int) : Int) := xyd
            obtain ⟨go65, co65, eo65, gb65, gl65, cl65, HG65⟩ := Kd.R_form HO_6.out (by omega)
            (first | cases eo65 | (injection eo65 with ea_ en_ ec_; (first | subst ea_ | (injection ea_ with ea_; subst ea_)); subst ec_; clear en_))
            have GB65 := Aside0.mk gb65
            have GG65 := Aside0.mk HG65
            clear gb65 gl65 HG65
            obtain ⟨hx65_0, hf65_0⟩ := Kd.R_celln 0 HO_6.out ((rd x9_3 (ji58)) : Int) p65 q65
            replace p65 := eq_true p65
            replace q65 := eq_true q65
            have HP68 := Kd.R_putg HO_6.out ((rd x9_3 (ji58)) : Int) x11_3
            go_wp2_with (first | ((with_reducible refine gate_store (t := 2) (p := 106) rfl ?_); refine xys ((wc.setCell ⟨go65, ((rd x9_3 (ji58)) : Int).toNat, none⟩ (.int .i64 x11_3))) ?_; intro w69 hw; have hg : wc.grownBy w69 (some go65) := (by rw [hw]; exact HP68.2); have hp_ : Kd.R (Kd.int .i64) 2 w69 w.heap.size (fun k_ => some k_ ≠ (.slice Ao27 x8_3.length co27 : Value).ownBlock ∧ some k_ ≠ (.slice (some ad153) x9_3.length co67 : Value).ownBlock) (.slice (some ⟨go65, 0, none⟩) x6_3.length co26) y156 := (by rw [hw, Ny156.out]; exact HP68.1); clear HP68; replace HO_6 := Aside0.mk (hp_); replace HO_8 := Aside0.mk (Kd.R_after (v := (.slice (some ⟨go65, 0, none⟩) x6_3.length co26)) (v1 := (.slice (some ⟨go65, 0, none⟩) x6_3.length co26)) (ok := (fun k_ => some k_ ≠ (.slice (some ad153) x9_3.length co67 : Value).ownBlock)) wy12 hg (.inl rfl)); replace HO_9 := Aside0.mk (Kd.R_after (v := (.slice (some ⟨go65, 0, none⟩) x6_3.length co26)) (v1 := (.slice (some ⟨go65, 0, none⟩) x6_3.length co26)) (ok := (fun k_ => some k_ ≠ (.slice Ao27 x8_3.length co27 : Value).ownBlock)) wy33 hg (.inl rfl)); replace HO_10 := Aside0.mk (Kd.S_after (v := (.slice (some ⟨go65, 0, none⟩) x6_3.length co26)) (v1 := (.slice (some ⟨go65, 0, none⟩) x6_3.length co26)) (ok := (fun k_ => some k_ ≠ (.slice Ao27 x8_3.length co27 : Value).ownBlock ∧ some k_ ≠ (.slice (some ad153) x9_3.length co67 : Value).ownBlock)) wy42 hg (.inl rfl)); replace HB := Aside0.mk ((by rw [hw]; exact below_set (HB.out) GB65.out : Below w.heap.size w w69)); clear hg hw hp_; have p66 : 0 ≤ ((ji58) : Int) := xyd; have q66 : ((ji58) : Int) < ((x9_3.length : Int) : Int) := xyd; obtain ⟨go66, co66, eo66, gb66, gl66, cl66, HG66⟩ := Kd.R_form HO_9.out (by omega); (first | cases eo66 | (injection eo66 with ea_ en_ ec_; (first | subst ea_ | (injection ea_ with ea_; subst ea_)); subst ec_; clear en_)); have GB66 := Aside0.mk gb66; have GG66 := Aside0.mk HG66; clear gb66 gl66 HG66; (first | simp only [add_plain] at hx153_0 | skip); (first | simp only [add_plain] at hx155_0 | skip); obtain ⟨hx66_0, hf66_0⟩ := Kd.R_celln 0 HO_9.out ((ji58) : Int) p66 q66; replace p66 := eq_true p66; replace q66 := eq_true q66; obtain ⟨hy70_, hz70_⟩ := Kd.R_celln 0 HO_9.out ((ji58) : Int) xyd xyd; have HP70 := Kd.R_putg HO_9.out ((ji58) : Int) x11_3) | ((with_reducible refine gate_store (t := 2) (p := 111) rfl ?_); refine xys ((w69.setCell ⟨go66, ((ji58) : Int).toNat, none⟩ (.int .i64 x11_3))) ?_; intro w71 hw; have hg : w69.grownBy w71 (some go66) := (by rw [hw]; exact HP70.2); have hp_ : Kd.R (Kd.int .i64) 2 w71 w.heap.size (fun k_ => some k_ ≠ (.slice Ao27 x8_3.length co27 : Value).ownBlock ∧ some k_ ≠ (.slice (some ⟨go65, 0, none⟩) x6_3.length co26 : Value).ownBlock) (.slice (some ⟨go66, 0, none⟩) x9_3.length co67) y157 := (by rw [hw, Ny157.out]; exact HP70.1); clear HP70; replace HO_6 := Aside0.mk (Kd.R_after (v := (.slice (some ⟨go66, 0, none⟩) x9_3.length co67)) (v1 := (.slice (some ⟨go66, 0, none⟩) x9_3.length co67)) (ok := (fun k_ => some k_ ≠ (.slice Ao27 x8_3.length co27 : Value).ownBlock)) (xyr HO_6.out) hg (.inl rfl)); replace HO_8 := Aside0.mk (Kd.R_after (v := (.slice (some ⟨go66, 0, none⟩) x9_3.length co67)) (v1 := (.slice (some ⟨go66, 0, none⟩) x9_3.length co67)) (ok := (fun k_ => some k_ ≠ (.slice (some ⟨go65, 0, none⟩) x6_3.length co26 : Value).ownBlock)) wy12 hg (.inl rfl)); replace HO_9 := Aside0.mk (hp_); replace HO_10 := Aside0.mk (Kd.S_after (v := (.slice (some ⟨go66, 0, none⟩) x9_3.length co67)) (v1 := (.slice (some ⟨go66, 0, none⟩) x9_3.length co67)) (ok := (fun k_ => some k_ ≠ (.slice (some ⟨go65, 0, none⟩) x6_3.length co26 : Value).ownBlock ∧ some k_ ≠ (.slice Ao27 x8_3.length co27 : Value).ownBlock)) (by (with_reducible repeat (first | apply Kd.S_alloc | apply Kd.S_drewN | apply Kd.S_drew)); exact Kd.S_mono HO_10.out (fun _ hk => ⟨⟨hk.2, hk.1.1⟩, hk.1.2⟩)) hg (.inl rfl)); replace HB := Aside0.mk ((by rw [hw]; exact below_set (HB.out) GB66.out : Below w.heap.size w w71)); clear hg hw hp_))
            go_roundg kj24
            case measure => have := HK1.out; have := HJ4.out; have := HK3.out; have := HJ24.out; omega
            case rel => exact ⟨(y156), (x8_3), (y157), (x10_3), (wrap64 (x11_3 + 1)), wy5, H', ⟨(by have := HK1.out; have := HJ4.out; have := HK3.out; have := HJ24.out; omega)⟩, ⟨(xyr HO_6.out)⟩, ⟨(xyr HO_8.out)⟩, ⟨wy33⟩, ⟨(by (with_reducible repeat (first | apply Kd.S_alloc | apply Kd.S_drewN | apply Kd.S_drew)); exact Kd.S_mono HO_10.out (fun _ hk => ⟨hk.1.1, ⟨hk.1.2, hk.2⟩⟩))⟩, ⟨(xyo HB.out)⟩⟩
           rw [if_neg c63] at H
           have c63b0 : (((rd_T63 l1 (rd x9_3 (ji58))).f0) == 2) = false := beq_eq_false_iff_ne.mpr c63
           have c63b1 : (((rd_T63 l1 (rd x9_3 (ji58))).f0) != 2) = true := bne_iff_ne.mpr c63
           simp only [Option.some.injEq, Prod.mk.injEq] at H
           obtain ⟨rfl, rfl⟩ := H
           obtain ⟨Ao72, co72, eo72⟩ := Kd.R_slice HO_9.out
           subst eo72
           have p153 : 0 ≤ ((ji58) : Int) := xyd
           have q153 : (ji58) < (x9_3.length : Int) := xyd
           obtain ⟨ad153, e153, hx153_0⟩ := Kd.at_int (Kd.R_reads' HO_9.out).2.2 (ji58) p153 q153
           cases e153
           replace p153 := eq_true p153
           replace q153 := eq_true q153
           have p154 : 0 ≤ ((rd x9_3 (ji58)) : Int) := xyd
           have q154 : (rd x9_3 (ji58)) < (l1.length : Int) := xyd
           obtain ⟨ad154, e154, hx154_0, hx154_1, hx154_2, hx154_3, hx154_4⟩ := at_T63 HR1.out (rd x9_3 (ji58)) p154 q154
           obtain rfl : ad139 = ad154 := (by injection e154)
           replace hx154_0 := xyh HB.out hx154_0
           replace hx154_1 := xyh HB.out hx154_1
           replace hx154_2 := xyh HB.out hx154_2
           replace hx154_3 := xyh HB.out hx154_3
           replace hx154_4 := xyh HB.out hx154_4
           replace p154 := eq_true p154
           replace q154 := eq_true q154
           go_wp2
           go_ret2
           exact ⟨_, (by first | rfl | (simp [errW_none, errW_some] <;> rfl) | (simp only [← hji58]; first | rfl | (simp [errW_none, errW_some] <;> rfl)) | (simp [*, errW_none, errW_some] <;> rfl)), wy17, (xyo HB.out)⟩
          rw [if_neg c56] at H
          have c56b0 : (((rd_T63 l1 x11_3).f0) == 3) = false := beq_eq_false_iff_ne.mpr c56
          have c56b1 : (((rd_T63 l1 x11_3).f0) != 3) = true := bne_iff_ne.mpr c56
          by_cases c73 : ((rd_T63 l1 x11_3).f0) = 4
          ·rw [if_pos c73] at H
           have c73b0 : (((rd_T63 l1 x11_3).f0) == 4) = true := beq_iff_eq.mpr c73
           have c73b1 : (((rd_T63 l1 x11_3).f0) != 4) = false := bne_eq_false_iff_eq.mpr c73
           clear c73
           by_cases c74 : (x8_3.length : Int) = 0
           ·rw [if_pos c74] at H
            have c74b0 : ((x8_3.length : Int) == 0) = true := beq_iff_eq.mpr c74
            have c74b1 : ((x8_3.length : Int) != 0) = false := bne_eq_false_iff_eq.mpr c74
            clear c74
            simp only [Option.some.injEq, Prod.mk.injEq] at H
            obtain ⟨rfl, rfl⟩ := H
            go_wp2
            go_ret2
            exact ⟨_, wy3, wy17, (xyo HB.out)⟩
           rw [if_neg c74] at H
           have c74b0 : ((x8_3.length : Int) == 0) = false := beq_eq_false_iff_ne.mpr c74
           have c74b1 : ((x8_3.length : Int) != 0) = true := bne_iff_ne.mpr c74
           have c74b2 : ¬ (x8_3 = []) := fun h_ => c74 (by rw [h_]; rfl)
           (try clear hji58w)
           (try clear hji58)
           obtain ⟨ji75, hji75⟩ : ∃ j_ : Int, (wrap64 ((x8_3.length : Int) - 1)) = j_ := ⟨_, rfl⟩
           replace H : (if 0 ≤ (ji75) then (if (ji75) < (x9_3.length : Int) then (if 0 ≤ (rd x9_3 (ji75)) then (if (rd x9_3 (ji75)) < (x6_3.length : Int) then (if (ji75) < (x8_3.length : Int) then (if 0 ≤ x11_3 then (if x11_3 < (x6_3.length : Int) then (spec_l08Pairs.l2 kj24 l1 ((x6_3.set ((rd x9_3 (ji75)) : Int).toNat x11_3).set (x11_3 : Int).toNat (rd x8_3 (ji75))) x8_3 x9_3 x10_3 x11_3 (x8_3.length : Int) 0) else (none)) else (none)) else (none)) else (none)) else (none)) else (none)) else (none)) = some (r1, r2) := by first | (rw [hji75] at H; exact H) | (simp only [hji75] at H ⊢; exact H)
           have hji75w : (IntKind.i64.wrap ((x8_3.length : Int) - 1)) = ji75 := (i64_w _).trans hji75
           replace H := zy_g H
           obtain ⟨c76, H⟩ := H
           have c76b0 : decide (0 ≤ (ji75)) = true := decide_eq_true c76
           clear c76
           replace H := zy_g H
           obtain ⟨c77, H⟩ := H
           have c77b0 : decide ((ji75) < (x9_3.length : Int)) = true := decide_eq_true c77
           clear c77
           replace H := zy_g H
           obtain ⟨c78, H⟩ := H
           have c78b0 : decide (0 ≤ (rd x9_3 (ji75))) = true := decide_eq_true c78
           clear c78
           replace H := zy_g H
           obtain ⟨c79, H⟩ := H
           have c79b0 : decide ((rd x9_3 (ji75)) < (x6_3.length : Int)) = true := decide_eq_true c79
           clear c79
           obtain ⟨y159, hy159⟩ : ∃ y_ : List Int, y_ = (x6_3.set ((rd x9_3 (ji75)) : Int).toNat x11_3) := ⟨_, rfl⟩
           replace H : (if (ji75) < (x8_3.length : Int) then (if 0 ≤ x11_3 then (if x11_3 < (x6_3.length : Int) then (spec_l08Pairs.l2 kj24 l1 (y159.set (x11_3 : Int).toNat (rd x8_3 (ji75))) x8_3 x9_3 x10_3 x11_3 (x8_3.length : Int) 0) else (none)) else (none)) else (none)) = some (r1, r2) := by first | (rw [hy159]; with_reducible exact H) | (have H2_ := (Option.bind_some _ _).symm.trans H; rw [hy159]; with_reducible exact H2_) | (have H2_ := (Option.bind_some _ _).symm.trans H; with_reducible exact H2_) | with_reducible exact H | (rw [hy159]; exact H) | exact H
           have Ny159 := Aside0.mk hy159
           clear hy159
           replace H := zy_g H
           obtain ⟨c81, H⟩ := H
           have c81b0 : decide ((ji75) < (x8_3.length : Int)) = true := decide_eq_true c81
           clear c81
           replace H := zy_g H
           obtain ⟨c82, H⟩ := H
           have c82b0 : decide (0 ≤ x11_3) = true := decide_eq_true c82
           clear c82
           replace H := zy_g H
           obtain ⟨c83, H⟩ := H
           have c83b0 : decide (x11_3 < (x6_3.length : Int)) = true := decide_eq_true c83
           clear c83
           obtain ⟨y161, hy161⟩ : ∃ y_ : List Int, y_ = (y159.set (x11_3 : Int).toNat (rd x8_3 (ji75))) := ⟨_, rfl⟩
           replace H : (spec_l08Pairs.l2 kj24 l1 y161 x8_3 x9_3 x10_3 x11_3 (x8_3.length : Int) 0) = some (r1, r2) := by first | (rw [hy161]; with_reducible exact H) | (have H2_ := (Option.bind_some _ _).symm.trans H; rw [hy161]; with_reducible exact H2_) | (have H2_ := (Option.bind_some _ _).symm.trans H; with_reducible exact H2_) | with_reducible exact H | (rw [hy161]; exact H) | exact H
           have Ny161 := Aside0.mk hy161
           clear hy161
           have H' := Aside0.mk H
           clear H
           obtain ⟨Ao85, co85, eo85⟩ := Kd.R_slice HO_9.out
           subst eo85
           have p158 : 0 ≤ ((ji75) : Int) := xyd
           have q158 : (ji75) < (x9_3.length : Int) := xyd
           obtain ⟨ad158, e158, hx158_0⟩ := Kd.at_int (Kd.R_reads' HO_9.out).2.2 (ji75) p158 q158
           cases e158
           replace p158 := eq_true p158
           replace q158 := eq_true q158
           have p80 : 0 ≤ ((rd x9_3 (ji75)) : Int) := xyd
           have q80 : ((rd x9_3 (ji75)) : Int) < ((x6_3.length : Int) : Int) := xyd
           obtain ⟨go80, co80, eo80, gb80, gl80, cl80, HG80⟩ := Kd.R_form HO_6.out (by omega)
           (first | cases eo80 | (injection eo80 with ea_ en_ ec_; (first | subst ea_ | (injection ea_ with ea_; subst ea_)); subst ec_; clear en_))
           have GB80 := Aside0.mk gb80
           have GG80 := Aside0.mk HG80
           clear gb80 gl80 HG80
           obtain ⟨hx80_0, hf80_0⟩ := Kd.R_celln 0 HO_6.out ((rd x9_3 (ji75)) : Int) p80 q80
           replace p80 := eq_true p80
           replace q80 := eq_true q80
           have HP86 := Kd.R_putg HO_6.out ((rd x9_3 (ji75)) : Int) x11_3
           go_wp2_with (first | ((with_reducible refine gate_store (t := 2) (p := 124) rfl ?_); refine xys ((wc.setCell ⟨go80, ((rd x9_3 (ji75)) : Int).toNat, none⟩ (.int .i64 x11_3))) ?_; intro w87 hw; have hg : wc.grownBy w87 (some go80) := (by rw [hw]; exact HP86.2); have hp_ : Kd.R (Kd.int .i64) 2 w87 w.heap.size (fun k_ => some k_ ≠ (.slice Ao27 x8_3.length co27 : Value).ownBlock ∧ some k_ ≠ (.slice (some ad158) x9_3.length co85 : Value).ownBlock) (.slice (some ⟨go80, 0, none⟩) x6_3.length co26) y159 := (by rw [hw, Ny159.out]; exact HP86.1); clear HP86; replace HO_6 := Aside0.mk (hp_); replace HO_8 := Aside0.mk (Kd.R_after (v := (.slice (some ⟨go80, 0, none⟩) x6_3.length co26)) (v1 := (.slice (some ⟨go80, 0, none⟩) x6_3.length co26)) (ok := (fun k_ => some k_ ≠ (.slice (some ad158) x9_3.length co85 : Value).ownBlock)) wy12 hg (.inl rfl)); replace HO_9 := Aside0.mk (Kd.R_after (v := (.slice (some ⟨go80, 0, none⟩) x6_3.length co26)) (v1 := (.slice (some ⟨go80, 0, none⟩) x6_3.length co26)) (ok := (fun k_ => some k_ ≠ (.slice Ao27 x8_3.length co27 : Value).ownBlock)) wy33 hg (.inl rfl)); replace HO_10 := Aside0.mk (Kd.S_after (v := (.slice (some ⟨go80, 0, none⟩) x6_3.length co26)) (v1 := (.slice (some ⟨go80, 0, none⟩) x6_3.length co26)) (ok := (fun k_ => some k_ ≠ (.slice Ao27 x8_3.length co27 : Value).ownBlock ∧ some k_ ≠ (.slice (some ad158) x9_3.length co85 : Value).ownBlock)) wy42 hg (.inl rfl)); replace HB := Aside0.mk ((by rw [hw]; exact below_set (HB.out) GB80.out : Below w.heap.size w w87)); clear hg hw hp_; have p160 : 0 ≤ ((ji75) : Int) := xyd; have q160 : (ji75) < (x8_3.length : Int) := xyd; obtain ⟨ad160, e160, hx160_0⟩ := Kd.at_int (Kd.R_reads' HO_8.out).2.2 (ji75) p160 q160; cases e160; replace p160 := eq_true p160; replace q160 := eq_true q160; have p84 : 0 ≤ (x11_3 : Int) := xyd; have q84 : (x11_3 : Int) < ((x6_3.length : Int) : Int) := xyd; obtain ⟨hx84_0, hf84_0⟩ := Kd.R_celln 0 HO_6.out (x11_3 : Int) p84 q84; replace p84 := eq_true p84; replace q84 := eq_true q84; obtain ⟨hy88_, hz88_⟩ := Kd.R_celln 0 HO_6.out (x11_3 : Int) xyd xyd; have HP88 := Kd.R_putg HO_6.out (x11_3 : Int) (rd x8_3 (ji75))) | ((with_reducible refine gate_store (t := 2) (p := 132) rfl ?_); refine xys ((w87.setCell ⟨go80, (x11_3 : Int).toNat, none⟩ (.int .i64 (rd x8_3 (ji75))))) ?_; intro w89 hw; have hg : w87.grownBy w89 (some go80) := (by rw [hw]; exact HP88.2); have hp_ : Kd.R (Kd.int .i64) 2 w89 w.heap.size (fun k_ => some k_ ≠ (.slice (some ad160) x8_3.length co27 : Value).ownBlock ∧ some k_ ≠ (.slice (some ad158) x9_3.length co85 : Value).ownBlock) (.slice (some ⟨go80, 0, none⟩) x6_3.length co26) y161 := (by rw [hw, Ny161.out]; exact HP88.1); clear HP88; replace HO_6 := Aside0.mk (hp_); replace HO_8 := Aside0.mk (Kd.R_after (v := (.slice (some ⟨go80, 0, none⟩) x6_3.length co26)) (v1 := (.slice (some ⟨go80, 0, none⟩) x6_3.length co26)) (ok := (fun k_ => some k_ ≠ (.slice (some ad158) x9_3.length co85 : Value).ownBlock)) (xyr HO_8.out) hg (.inl rfl)); replace HO_9 := Aside0.mk (Kd.R_after (v := (.slice (some ⟨go80, 0, none⟩) x6_3.length co26)) (v1 := (.slice (some ⟨go80, 0, none⟩) x6_3.length co26)) (ok := (fun k_ => some k_ ≠ (.slice (some ad160) x8_3.length co27 : Value).ownBlock)) (xyr HO_9.out) hg (.inl rfl)); replace HO_10 := Aside0.mk (Kd.S_after (v := (.slice (some ⟨go80, 0, none⟩) x6_3.length co26)) (v1 := (.slice (some ⟨go80, 0, none⟩) x6_3.length co26)) (ok := (fun k_ => some k_ ≠ (.slice (some ad160) x8_3.length co27 : Value).ownBlock ∧ some k_ ≠ (.slice (some ad158) x9_3.length co85 : Value).ownBlock)) wy11 hg (.inl rfl)); replace HB := Aside0.mk ((by rw [hw]; exact below_set (HB.out) GB80.out : Below w.heap.size w w89)); clear hg hw hp_))
           go_loopg [14] kj24 (fun kq v14 w' => ∃ (x6_5 : List Int) (x14_5 : Int), v14 = .int .i64 x14_5 ∧ Aside0 (spec_l08Pairs.l2 kq l1 x6_5 x8_3 x9_3 x10_3 x11_3 (x8_3.length : Int) x14_5 = some (r1, r2)) ∧ Aside0 (kq ≤ kj24) ∧ Aside0 (Kd.R (Kd.int .i64) 2 w' w.heap.size (fun k_ => some k_ ≠ ((.slice (some ad160) x8_3.length co27) : Value).ownBlock ∧ some k_ ≠ ((.slice (some ad158) x9_3.length co85) : Value).ownBlock) (.slice (some ⟨go80, 0, none⟩) x6_3.length co26) x6_5) ∧ Aside0 (Kd.R (Kd.int .i64) 2 w' w.heap.size (fun k_ => some k_ ≠ ((.slice (some ⟨go80, 0, none⟩) x6_3.length co26) : Value).ownBlock ∧ some k_ ≠ ((.slice (some ad158) x9_3.length co85) : Value).ownBlock) (.slice (some ad160) x8_3.length co27) x8_3) ∧ Aside0 (Kd.R (Kd.int .i64) 2 w' w.heap.size (fun k_ => some k_ ≠ ((.slice (some ⟨go80, 0, none⟩) x6_3.length co26) : Value).ownBlock ∧ some k_ ≠ ((.slice (some ad160) x8_3.length co27) : Value).ownBlock) (.slice (some ad158) x9_3.length co85) x9_3) ∧ Aside0 (Kd.S (Kd.slice 2 (Kd.int .i64)) 29 w' w.heap.size (fun k_ => some k_ ≠ ((.slice (some ⟨go80, 0, none⟩) x6_3.length co26) : Value).ownBlock ∧ some k_ ≠ ((.slice (some ad160) x8_3.length co27) : Value).ownBlock ∧ some k_ ≠ ((.slice (some ad158) x9_3.length co85) : Value).ownBlock) u10 x10_3) ∧ Aside0 (Below w.heap.size w w'))
           case atStart => exact ⟨(y161), (0), wy5, H', ⟨Nat.le_refl _⟩, ⟨(xyr HO_6.out)⟩, ⟨wy12⟩, ⟨wy33⟩, ⟨(by (with_reducible repeat (first | apply Kd.S_alloc | apply Kd.S_drewN | apply Kd.S_drew)); exact Kd.S_mono HO_10.out (fun _ hk => ⟨hk.2, ⟨hk.1.1, hk.1.2⟩⟩))⟩, ⟨(xyo HB.out)⟩⟩
           case round =>
            clear H'
            try clear c1
            try clear p1
            try clear q1
            try clear hx1
            try clear c2
            try clear p2
            try clear c3
            try clear c4
            try clear c5
            try clear c6
            try clear c6b0
            try clear p6
            try clear q6
            try clear hx6
            try clear hf6
            try clear c7
            try clear c8
            try clear c8b0
            try clear p8
            try clear q8
            try clear hx8
            try clear hf8
            try clear c9
            try clear c9b0
            try clear c11
            try clear c12
            try clear p12
            try clear q12
            try clear hx12
            try clear p13
            try clear q13
            try clear hx13
            try clear p15
            try clear q15
            try clear hx15
            try clear p16
            try clear q16
            try clear hx16
            try clear c22
            try clear c22b0
            try clear c23
            try clear c23b0
            try clear c24
            try clear c24b0
            try clear c28
            try clear c28b0
            try clear c28b1
            try clear c29
            try clear c30
            try clear c31
            try clear c32
            try clear c33
            try clear c33b0
            try clear c41
            try clear c41b0
            try clear c56
            try clear c56b0
            try clear c56b1
            try clear c57
            try clear c57b0
            try clear c57b1
            try clear c57b2
            try clear c59
            try clear c59b0
            try clear c60
            try clear c60b0
            try clear c61
            try clear c61b0
            try clear c62
            try clear c62b0
            try clear c63
            try clear c63b0
            try clear c63b1
            try clear c64
            try clear c64b0
            try clear p64
            try clear p65
            try clear q65
            try clear hx65
            try clear hf65
            try clear p66
            try clear q66
            try clear hx66
            try clear hf66
            try clear c73
            try clear c73b0
            try clear c73b1
            try clear c74
            try clear c74b0
            try clear c74b1
            try clear c74b2
            try clear c76
            try clear c76b0
            try clear c77
            try clear c77b0
            try clear c78
            try clear c78b0
            try clear c79
            try clear c79b0
            try clear p80
            try clear q80
            try clear hx80
            try clear hf80
            try clear c81
            try clear c81b0
            try clear c82
            try clear c82b0
            try clear c83
            try clear c83b0
            try clear p84
            try clear q84
            try clear hx84
            try clear hf84
            try clear hx125_0
            try clear hx125_1
            try clear hx125_2
            try clear hx125_3
            try clear hx125_4
            try clear hx139_0
            try clear hx139_1
            try clear hx139_2
            try clear hx139_3
            try clear hx139_4
            try clear hx153_0
            try clear hx154_0
            try clear hx154_1
            try clear hx154_2
            try clear hx154_3
            try clear hx154_4
            try clear hx155_0
            try clear hx158_0
            try clear hx160_0
            try clear hx65_0
            try clear hx66_0
            try clear hx80_0
            try clear hx84_0
            try clear p1
            try clear p12
            try clear p125
            try clear p13
            try clear p139
            try clear p153
            try clear p154
            try clear p155
            try clear p158
            try clear p160
            try clear p2
            try clear p6
            try clear p65
            try clear p66
            try clear p80
            try clear p84
            try clear q1
            try clear q12
            try clear q125
            try clear q13
            try clear q139
            try clear q153
            try clear q154
            try clear q155
            try clear q158
            try clear q160
            try clear q65
            try clear q66
            try clear q80
            try clear q84
            obtain ⟨x6_5, x14_5, rfl, HA, HK5, HO_6, HO_8, HO_9, HO_10, HB⟩ := hrel
            have hl6_5 := (Kd.R_reads' HO_6.out).1
            rw [hl6_5] at HO_6
            (try simp only [hl6_5])
            (try simp only [hl6_5] at HO_8)
            (try simp only [hl6_5] at HO_9)
            (try simp only [hl6_5] at HO_10)
            cases gk with
            | zero => exact absurd HA.out (by simp [spec_l08Pairs.l2])
            | succ k5 =>
             have H := HA.out
             clear HA
             simp only [spec_l08Pairs.l2] at H
             (try clear hji58w)
             (try clear hji58)
             (try clear hji75w)
             (try clear hji75)
             obtain ⟨ji90, hji90⟩ : ∃ j_ : Int, (wrap64 ((x8_3.length : Int) - 1)) = j_ := ⟨_, rfl⟩
             replace H : (if 0 ≤ (ji90) then (if (ji90) < (x10_3.length : Int) then (if x14_5 < ((rd_L2 x10_3 (ji90)).length : Int) then (if 0 ≤ x14_5 then (if 0 ≤ (rd (rd_L2 x10_3 (ji90)) x14_5) then (if (rd (rd_L2 x10_3 (ji90)) x14_5) < (x6_5.length : Int) then (spec_l08Pairs.l2 k5 l1 (x6_5.set ((rd (rd_L2 x10_3 (ji90)) x14_5) : Int).toNat x11_3) x8_3 x9_3 x10_3 x11_3 (x8_3.length : Int) (wrap64 (x14_5 + 1))) else (none)) else (none)) else (none)) else (if (ji90) ≤ (x8_3.length : Int) then (if (ji90) ≤ (x9_3.length : Int) then (if (ji90) ≤ (x10_3.length : Int) then (spec_l08Pairs.l1 k5 l1 x6_5 (x8_3.take ((ji90) : Int).toNat) (x9_3.take ((ji90) : Int).toNat) (x10_3.take ((ji90) : Int).toNat) (wrap64 (x11_3 + 1))) else (none)) else (none)) else (none))) else (none)) else (none)) = some (r1, r2) := by first | (rw [hji90] at H; exact H) | (simp only [hji90] at H ⊢; exact H)
             have hji90w : (IntKind.i64.wrap ((x8_3.length : Int) - 1)) = ji90 := (i64_w _).trans hji90
             replace H := zy_g H
             obtain ⟨c91, H⟩ := H
             have c91b0 : decide (0 ≤ (ji90)) = true := decide_eq_true c91
             clear c91
             replace H := zy_g H
             obtain ⟨c92, H⟩ := H
             have c92b0 : decide ((ji90) < (x10_3.length : Int)) = true := decide_eq_true c92
             clear c92
             by_cases c93 : x14_5 < ((rd_L2 x10_3 (ji90)).length : Int)
             ·rw [if_pos c93] at H
              have c93b0 : decide (x14_5 < ((rd_L2 x10_3 (ji90)).length : Int)) = true := decide_eq_true c93
              clear c93
              replace H := zy_g H
              obtain ⟨c94, H⟩ := H
              have c94b0 : decide (0 ≤ x14_5) = true := decide_eq_true c94
              clear c94
              replace H := zy_g H
              obtain ⟨c95, H⟩ := H
              have c95b0 : decide (0 ≤ (rd (rd_L2 x10_3 (ji90)) x14_5)) = true := decide_eq_true c95
              clear c95
              replace H := zy_g H
              obtain ⟨c96, H⟩ := H
              have c96b0 : decide ((rd (rd_L2 x10_3 (ji90)) x14_5) < (x6_5.length : Int)) = true := decide_eq_true c96
              clear c96
              obtain ⟨y165, hy165⟩ : ∃ y_ : List Int, y_ = (x6_5.set ((rd (rd_L2 x10_3 (ji90)) x14_5) : Int).toNat x11_3) := ⟨_, rfl⟩
              replace H : (spec_l08Pairs.l2 k5 l1 y165 x8_3 x9_3 x10_3 x11_3 (x8_3.length : Int) (wrap64 (x14_5 + 1))) = some (r1, r2) := by first | (rw [hy165]; with_reducible exact H) | (have H2_ := (Option.bind_some _ _).symm.trans H; rw [hy165]; with_reducible exact H2_) | (have H2_ := (Option.bind_some _ _).symm.trans H; with_reducible exact H2_) | with_reducible exact H | (rw [hy165]; exact H) | exact H
              have Ny165 := Aside0.mk hy165
              clear hy165
              have H' := Aside0.mk H
              clear H
              obtain ⟨Ao98, co98, eo98⟩ := Kd.S_slice HO_10.out
              subst eo98
              have p162 : 0 ≤ ((ji90) : Int) := xyd
              have q162 : (ji90) < (x10_3.length : Int) := xyd
              obtain ⟨ad162, A162_0, c162_0, e162, hx162_0, hl162_0, hi162_0⟩ := at_L2 (Kd.S_reads' HO_10.out).2.2 (ji90) p162 q162
              cases e162
              obtain ⟨ce162, hce162, hMe162, hcc162⟩ := Kd.S_get HO_10.out [] (ji90) p162 (by first | exact q162 | exact xyd | (have e_ := (Kd.S_reads' HO_10.out).1; omega))
              obtain ⟨ve162_0, rfl, ge162_0⟩ := hMe162
              have hv162_0 := hcc162 0 _ rfl
              rw [Nat.add_zero, show ((Kd.slice 2 (Kd.int .i64))).sz = 1 from rfl, Nat.mul_one] at hv162_0
              replace hv162_0 := Option.some.inj (hv162_0.symm.trans hx162_0)
              rw [hv162_0] at ge162_0
              have HL162_0 := Aside0.mk (show Kd.R (Kd.int .i64) 2 _ _ _ _ (rd_L2 x10_3 (ji90)) from ge162_0)
              clear hv162_0 ge162_0
              have HX162_0 := Aside0.mk hx162_0
              clear hcc162 hce162
              have HR162_0 := Aside0.mk hi162_0
              have HC162_0 := Aside0.mk hl162_0
              clear hi162_0 hl162_0
              replace p162 := eq_true p162
              replace q162 := eq_true q162
              have p163 : 0 ≤ ((ji90) : Int) := xyd
              have q163 : (ji90) < (x10_3.length : Int) := xyd
              obtain ⟨ad163, A163_0, c163_0, e163, hx163_0, hl163_0, hi163_0⟩ := at_L2 (Kd.S_reads' HO_10.out).2.2 (ji90) p163 q163
              obtain rfl : ad162 = ad163 := (by injection e163)
              obtain ⟨ce163, hce163, hMe163, hcc163⟩ := Kd.S_get HO_10.out [] (ji90) p163 (by first | exact q163 | exact xyd | (have e_ := (Kd.S_reads' HO_10.out).1; omega))
              obtain ⟨ve163_0, rfl, ge163_0⟩ := hMe163
              have hv163_0 := hcc163 0 _ rfl
              rw [Nat.add_zero, show ((Kd.slice 2 (Kd.int .i64))).sz = 1 from rfl, Nat.mul_one] at hv163_0
              replace hv163_0 := Option.some.inj (hv163_0.symm.trans hx163_0)
              rw [hv163_0] at ge163_0
              have HL163_0 := Aside0.mk (show Kd.R (Kd.int .i64) 2 _ _ _ _ (rd_L2 x10_3 (ji90)) from ge163_0)
              clear hv163_0 ge163_0
              have HX163_0 := Aside0.mk hx163_0
              clear hcc163 hce163
              have HR163_0 := Aside0.mk hi163_0
              have HC163_0 := Aside0.mk hl163_0
              clear hi163_0 hl163_0
              replace p163 := eq_true p163
              replace q163 := eq_true q163
              have ea_ := Option.some.inj (hx162_0.symm.trans hx163_0)
              injection ea_ with ea_ en_ ec_
              subst ea_
              subst ec_
              clear en_
              have p164 : 0 ≤ (x14_5 : Int) := xyd
              have q164 : x14_5 < ((rd_L2 x10_3 (ji90)).length : Int) := xyd
              obtain ⟨ad164, e164, hx164_0⟩ := Kd.at_int (by repeat (first | (with_reducible exact HR163_0.out) | (with_reducible refine Kd.C_alloc ?_ _) | (with_reducible refine Kd.C_drewN ?_ _) | (with_reducible refine Kd.C_drew ?_) | exact HR163_0.out)) x14_5 p164 q164
              cases e164
              replace p164 := eq_true p164
              replace q164 := eq_true q164
              have p97 : 0 ≤ ((rd (rd_L2 x10_3 (ji90)) x14_5) : Int) := xyd
              have q97 : ((rd (rd_L2 x10_3 (ji90)) x14_5) : Int) < ((x6_5.length : Int) : Int) := xyd
              obtain ⟨hx97_0, hf97_0⟩ := Kd.R_celln 0 HO_6.out ((rd (rd_L2 x10_3 (ji90)) x14_5) : Int) p97 q97
              replace p97 := eq_true p97
              replace q97 := eq_true q97
              have HP99 := Kd.R_putg HO_6.out ((rd (rd_L2 x10_3 (ji90)) x14_5) : Int) x11_3
              go_wp2_with (first | ((with_reducible refine gate_store (t := 2) (p := 153) rfl ?_); refine xys ((wr.setCell ⟨go80, ((rd (rd_L2 x10_3 (ji90)) x14_5) : Int).toNat, none⟩ (.int .i64 x11_3))) ?_; intro w100 hw; have hg : wr.grownBy w100 (some go80) := (by rw [hw]; exact HP99.2); have hp_ : Kd.R (Kd.int .i64) 2 w100 w.heap.size (fun k_ => some k_ ≠ (.slice (some ad160) x8_3.length co27 : Value).ownBlock ∧ some k_ ≠ (.slice (some ad158) x9_3.length co85 : Value).ownBlock) (.slice (some ⟨go80, 0, none⟩) x6_5.length co26) y165 := (by rw [hw, Ny165.out]; exact HP99.1); clear HP99; replace HO_6 := Aside0.mk (hp_); replace HO_8 := Aside0.mk (Kd.R_after (v := (.slice (some ⟨go80, 0, none⟩) x6_5.length co26)) (v1 := (.slice (some ⟨go80, 0, none⟩) x6_5.length co26)) (ok := (fun k_ => some k_ ≠ (.slice (some ad158) x9_3.length co85 : Value).ownBlock)) wy12 hg (.inl rfl)); replace HO_9 := Aside0.mk (Kd.R_after (v := (.slice (some ⟨go80, 0, none⟩) x6_5.length co26)) (v1 := (.slice (some ⟨go80, 0, none⟩) x6_5.length co26)) (ok := (fun k_ => some k_ ≠ (.slice (some ad160) x8_3.length co27 : Value).ownBlock)) wy33 hg (.inl rfl)); replace HO_10 := Aside0.mk (Kd.S_after (v := (.slice (some ⟨go80, 0, none⟩) x6_5.length co26)) (v1 := (.slice (some ⟨go80, 0, none⟩) x6_5.length co26)) (ok := (fun k_ => some k_ ≠ (.slice (some ad160) x8_3.length co27 : Value).ownBlock ∧ some k_ ≠ (.slice (some ad158) x9_3.length co85 : Value).ownBlock)) wy42 hg (.inl rfl)); replace HL162_0 := Aside0.mk (Kd.R_after (v := (.slice (some ⟨go80, 0, none⟩) x6_5.length co26)) (v1 := (.slice (some ⟨go80, 0, none⟩) x6_5.length co26)) (ok := (fun k_ => some k_ ≠ (.slice (some ad160) x8_3.length co27 : Value).ownBlock ∧ some k_ ≠ (.slice (some ad158) x9_3.length co85 : Value).ownBlock ∧ some k_ ≠ (.slice (some ad162) x10_3.length co98 : Value).ownBlock)) (by (with_reducible repeat (first | apply Kd.R_alloc | apply Kd.R_drewN | apply Kd.R_drew)); exact Kd.R_mono HL162_0.out (fun _ hk => ⟨⟨hk.1.2.1, ⟨hk.1.2.2, hk.2⟩⟩, hk.1.1⟩)) hg (.inl rfl)); replace HL163_0 := Aside0.mk (Kd.R_after (v := (.slice (some ⟨go80, 0, none⟩) x6_5.length co26)) (v1 := (.slice (some ⟨go80, 0, none⟩) x6_5.length co26)) (ok := (fun k_ => some k_ ≠ (.slice (some ad160) x8_3.length co27 : Value).ownBlock ∧ some k_ ≠ (.slice (some ad158) x9_3.length co85 : Value).ownBlock ∧ some k_ ≠ (.slice (some ad162) x10_3.length co98 : Value).ownBlock)) (by (with_reducible repeat (first | apply Kd.R_alloc | apply Kd.R_drewN | apply Kd.R_drew)); exact Kd.R_mono HL163_0.out (fun _ hk => ⟨⟨hk.1.2.1, ⟨hk.1.2.2, hk.2⟩⟩, hk.1.1⟩)) hg (.inl rfl)); replace HB := Aside0.mk ((by rw [hw]; exact below_set (HB.out) GB80.out : Below w.heap.size w w100)); clear hg hw hp_))
              (try simp only [← hl6_5])
              go_roundg k5
              case measure => have := HK1.out; have := HJ4.out; have := HK3.out; have := HJ24.out; have := HK5.out; omega
              case rel => exact ⟨(y165), (wrap64 (x14_5 + 1)), wy5, H', ⟨wy47⟩, ⟨(by (try simp only [hl6_5]); (with_reducible repeat (first | apply Kd.R_alloc | apply Kd.R_drewN | apply Kd.R_drew)); exact HO_6.out)⟩, ⟨(by (try simp only [hl6_5]); (with_reducible repeat (first | apply Kd.R_alloc | apply Kd.R_drewN | apply Kd.R_drew)); exact Kd.R_mono HO_8.out (fun _ hk => ⟨hk.2, hk.1⟩))⟩, ⟨(by (try simp only [hl6_5]); (with_reducible repeat (first | apply Kd.R_alloc | apply Kd.R_drewN | apply Kd.R_drew)); exact Kd.R_mono HO_9.out (fun _ hk => ⟨hk.2, hk.1⟩))⟩, ⟨(by (try simp only [hl6_5]); (with_reducible repeat (first | apply Kd.S_alloc | apply Kd.S_drewN | apply Kd.S_drew)); exact Kd.S_mono HO_10.out (fun _ hk => ⟨hk.2, ⟨hk.1.1, hk.1.2⟩⟩))⟩, ⟨(xyo HB.out)⟩⟩
             rw [if_neg c93] at H
             have c93b0 : decide (x14_5 < ((rd_L2 x10_3 (ji90)).length : Int)) = false := decide_eq_false c93
             clear c93
             replace H := zy_g H
             obtain ⟨c101, H⟩ := H
             have c101b0 := eq_true c101
             have c101b1 : decide ((ji90) ≤ (x8_3.length : Int)) = true := decide_eq_true c101
             clear c101
             obtain ⟨y166, hy166⟩ : ∃ y_ : List Int, y_ = (x8_3.take ((ji90) : Int).toNat) := ⟨_, rfl⟩
             replace H : (if (ji90) ≤ (x9_3.length : Int) then (if (ji90) ≤ (x10_3.length : Int) then (spec_l08Pairs.l1 k5 l1 x6_5 y166 (x9_3.take ((ji90) : Int).toNat) (x10_3.take ((ji90) : Int).toNat) (wrap64 (x11_3 + 1))) else (none)) else (none)) = some (r1, r2) := by first | (rw [hy166]; with_reducible exact H) | (have H2_ := (Option.bind_some _ _).symm.trans H; rw [hy166]; with_reducible exact H2_) | (have H2_ := (Option.bind_some _ _).symm.trans H; with_reducible exact H2_) | with_reducible exact H | (rw [hy166]; exact H) | exact H
             have Ny166 := Aside0.mk hy166
             clear hy166
             replace H := zy_g H
             obtain ⟨c102, H⟩ := H
             have c102b0 := eq_true c102
             have c102b1 : decide ((ji90) ≤ (x9_3.length : Int)) = true := decide_eq_true c102
             clear c102
             obtain ⟨y169, hy169⟩ : ∃ y_ : List Int, y_ = (x9_3.take ((ji90) : Int).toNat) := ⟨_, rfl⟩
             replace H : (if (ji90) ≤ (x10_3.length : Int) then (spec_l08Pairs.l1 k5 l1 x6_5 y166 y169 (x10_3.take ((ji90) : Int).toNat) (wrap64 (x11_3 + 1))) else (none)) = some (r1, r2) := by first | (rw [hy169]; with_reducible exact H) | (have H2_ := (Option.bind_some _ _).symm.trans H; rw [hy169]; with_reducible exact H2_) | (have H2_ := (Option.bind_some _ _).symm.trans H; with_reducible exact H2_) | with_reducible exact H | (rw [hy169]; exact H) | exact H
             have Ny169 := Aside0.mk hy169
             clear hy169
             replace H := zy_g H
             obtain ⟨c103, H⟩ := H
             have c103b0 := eq_true c103
             have c103b1 : decide ((ji90) ≤ (x10_3.length : Int)) = true := decide_eq_true c103
             clear c103
             obtain ⟨y172, hy172⟩ : ∃ y_ : List (List Int), y_ = (x10_3.take ((ji90) : Int).toNat) := ⟨_, rfl⟩
             replace H : (spec_l08Pairs.l1 k5 l1 x6_5 y166 y169 y172 (wrap64 (x11_3 + 1))) = some (r1, r2) := by first | (rw [hy172]; with_reducible exact H) | (have H2_ := (Option.bind_some _ _).symm.trans H; rw [hy172]; with_reducible exact H2_) | (have H2_ := (Option.bind_some _ _).symm.trans H; with_reducible exact H2_) | with_reducible exact H | (rw [hy172]; exact H) | exact H
             have Ny172 := Aside0.mk hy172
             clear hy172
             have H' := Aside0.mk H
             clear H
             obtain ⟨Ao104, co104, eo104⟩ := Kd.S_slice HO_10.out
             subst eo104
             have p162 : 0 ≤ ((ji90) : Int) := xyd
             have q162 : (ji90) < (x10_3.length : Int) := xyd
             obtain ⟨ad162, A162_0, c162_0, e162, hx162_0, hl162_0, hi162_0⟩ := at_L2 (Kd.S_reads' HO_10.out).2.2 (ji90) p162 q162
             cases e162
             obtain ⟨ce162, hce162, hMe162, hcc162⟩ := Kd.S_get HO_10.out [] (ji90) p162 (by first | exact q162 | exact xyd | (have e_ := (Kd.S_reads' HO_10.out).1; omega))
             obtain ⟨ve162_0, rfl, ge162_0⟩ := hMe162
             have hv162_0 := hcc162 0 _ rfl
             rw [Nat.add_zero, show ((Kd.slice 2 (Kd.int .i64))).sz = 1 from rfl, Nat.mul_one] at hv162_0
             replace hv162_0 := Option.some.inj (hv162_0.symm.trans hx162_0)
             rw [hv162_0] at ge162_0
             have HL162_0 := Aside0.mk (show Kd.R (Kd.int .i64) 2 _ _ _ _ (rd_L2 x10_3 (ji90)) from ge162_0)
             clear hv162_0 ge162_0
             have HX162_0 := Aside0.mk hx162_0
             clear hcc162 hce162
             have HR162_0 := Aside0.mk hi162_0
             have HC162_0 := Aside0.mk hl162_0
             clear hi162_0 hl162_0
             replace p162 := eq_true p162
             replace q162 := eq_true q162
             have q105 : ((ji90) : Int) ≤ ((x8_3.length : Int) : Int) := xyd
             obtain ⟨i0105, hi0105, _, hsz105, _⟩ := info_parts info2
             have hcut105 := cut_to (P := Try.prog) 29 2 .i64 Try.underlying29 hi0105 (some ad160) x8_3.length co27 (ji90) xyd q105 (Kd.R_reads' HO_8.out).2.1
             have hr105 := Kd.R_take (m := ((ji90) : Int).toNat) HO_8.out (by omega)
             have hy105 : y166.length = ((ji90) : Int).toNat := (by rw [Ny166.out, List.length_take]; omega)
             rw [← Ny166.out] at hr105
             rw [← hy105] at hr105 hcut105
             clear hy105 hi0105 hsz105 HO_8
             have HO168 := Aside0.mk hr105
             clear hr105
             replace q105 := eq_true q105
             have q106 : ((ji90) : Int) ≤ ((x9_3.length : Int) : Int) := xyd
             obtain ⟨i0106, hi0106, _, hsz106, _⟩ := info_parts info2
             have hcut106 := cut_to (P := Try.prog) 29 2 .i64 Try.underlying29 hi0106 (some ad158) x9_3.length co85 (ji90) xyd q106 (Kd.R_reads' HO_9.out).2.1
             have hr106 := Kd.R_take (m := ((ji90) : Int).toNat) HO_9.out (by omega)
             have hy106 : y169.length = ((ji90) : Int).toNat := (by rw [Ny169.out, List.length_take]; omega)
             rw [← Ny169.out] at hr106
             rw [← hy106] at hr106 hcut106
             clear hy106 hi0106 hsz106 HO_9
             have HO171 := Aside0.mk hr106
             clear hr106
             replace q106 := eq_true q106
             have q107 : ((ji90) : Int) ≤ ((x10_3.length : Int) : Int) := xyd
             obtain ⟨i0107, hi0107, _, hsz107, _⟩ := info_parts info29
             have hcut107 := cut_to (P := Try.prog) 51 29 .i64 Try.underlying51 hi0107 (some ad162) x10_3.length co104 (ji90) xyd q107 (Kd.S_reads' HO_10.out).2.1
             have hr107 := Kd.S_take (m := ((ji90) : Int).toNat) HO_10.out (by omega)
             have hy107 : y172.length = ((ji90) : Int).toNat := (by rw [Ny172.out, List.length_take]; omega)
             rw [← Ny172.out] at hr107
             rw [← hy107] at hr107 hcut107
             clear hy107 hi0107 hsz107 HO_10
             have HO174 := Aside0.mk hr107
             clear hr107
             replace q107 := eq_true q107
             go_wp2
             (try simp only [← hl6_5])
             go_roundg k5
             case measure => have := HK1.out; have := HJ4.out; have := HK3.out; have := HJ24.out; have := HK5.out; omega
             case rel => exact ⟨(x6_5), (y166), (y169), (y172), (wrap64 (x11_3 + 1)), wy5, H', ⟨wy47⟩, ⟨(by (try simp only [hl6_5]); (with_reducible repeat (first | apply Kd.R_alloc | apply Kd.R_drewN | apply Kd.R_drew)); exact HO_6.out)⟩, ⟨(by (try simp only [hl6_5]); (with_reducible repeat (first | apply Kd.R_alloc | apply Kd.R_drewN | apply Kd.R_drew)); exact HO168.out)⟩, ⟨(by (try simp only [hl6_5]); (with_reducible repeat (first | apply Kd.R_alloc | apply Kd.R_drewN | apply Kd.R_drew)); exact HO171.out)⟩, ⟨(by (try simp only [hl6_5]); (with_reducible repeat (first | apply Kd.S_alloc | apply Kd.S_drewN | apply Kd.S_drew)); exact HO174.out)⟩, ⟨(xyo HB.out)⟩⟩
          rw [if_neg c73] at H
          have c73b0 : (((rd_T63 l1 x11_3).f0) == 4) = false := beq_eq_false_iff_ne.mpr c73
          have c73b1 : (((rd_T63 l1 x11_3).f0) != 4) = true := bne_iff_ne.mpr c73
          by_cases c108 : ((rd_T63 l1 x11_3).f0) = 6
          ·rw [if_pos c108] at H
           have c108b0 : (((rd_T63 l1 x11_3).f0) == 6) = true := beq_iff_eq.mpr c108
           have c108b1 : (((rd_T63 l1 x11_3).f0) != 6) = false := bne_eq_false_iff_eq.mpr c108
           clear c108
           have H' := Aside0.mk H
           clear H
           go_wp2
           go_loopg [15] kj24 (fun kq v15 w' => ∃ (x15_5 : Int), v15 = .int .i64 x15_5 ∧ Aside0 (spec_l08Pairs.l3 kq l1 x6_3 x8_3 x9_3 x10_3 x11_3 x15_5 = some (r1, r2)) ∧ Aside0 (kq ≤ kj24) ∧ Aside0 (Kd.R (Kd.int .i64) 2 w' w.heap.size (fun k_ => some k_ ≠ ((.slice Ao27 x8_3.length co27) : Value).ownBlock ∧ some k_ ≠ (u9 : Value).ownBlock) (.slice Ao26 x6_3.length co26) x6_3) ∧ Aside0 (Kd.R (Kd.int .i64) 2 w' w.heap.size (fun k_ => some k_ ≠ ((.slice Ao26 x6_3.length co26) : Value).ownBlock ∧ some k_ ≠ (u9 : Value).ownBlock) (.slice Ao27 x8_3.length co27) x8_3) ∧ Aside0 (Kd.R (Kd.int .i64) 2 w' w.heap.size (fun k_ => some k_ ≠ ((.slice Ao26 x6_3.length co26) : Value).ownBlock ∧ some k_ ≠ ((.slice Ao27 x8_3.length co27) : Value).ownBlock) u9 x9_3) ∧ Aside0 (Kd.S (Kd.slice 2 (Kd.int .i64)) 29 w' w.heap.size (fun k_ => some k_ ≠ ((.slice Ao26 x6_3.length co26) : Value).ownBlock ∧ some k_ ≠ ((.slice Ao27 x8_3.length co27) : Value).ownBlock ∧ some k_ ≠ (u9 : Value).ownBlock) u10 x10_3) ∧ Aside0 (Below w.heap.size w w'))
           case atStart => exact ⟨(wrap64 ((x8_3.length : Int) - 1)), wy5, H', ⟨Nat.le_refl _⟩, ⟨(xyr HO_6.out)⟩, ⟨(xyr HO_8.out)⟩, ⟨(xyr HO_9.out)⟩, ⟨wy11⟩, ⟨(xyo HB.out)⟩⟩
           case round =>
            clear H'
            try clear c1
            try clear p1
            try clear q1
            try clear hx1
            try clear c2
            try clear p2
            try clear c3
            try clear c4
            try clear c5
            try clear c6
            try clear c6b0
            try clear p6
            try clear q6
            try clear hx6
            try clear hf6
            try clear c7
            try clear c8
            try clear c8b0
            try clear p8
            try clear q8
            try clear hx8
            try clear hf8
            try clear c9
            try clear c9b0
            try clear p9
            try clear q9
            try clear hx9
            try clear hf9
            try clear c10
            try clear q10
            try clear c11
            try clear c12
            try clear p12
            try clear q12
            try clear hx12
            try clear p13
            try clear q13
            try clear hx13
            try clear p15
            try clear q15
            try clear hx15
            try clear c16
            try clear p16
            try clear q16
            try clear hx16
            try clear c22
            try clear c22b0
            try clear c23
            try clear c23b0
            try clear c24
            try clear c24b0
            try clear c28
            try clear c28b0
            try clear c28b1
            try clear c29
            try clear c30
            try clear c31
            try clear c32
            try clear c33
            try clear c33b0
            try clear c41
            try clear c41b0
            try clear c56
            try clear c56b0
            try clear c56b1
            try clear c57
            try clear c57b0
            try clear c57b1
            try clear c57b2
            try clear c59
            try clear c59b0
            try clear c60
            try clear c60b0
            try clear c61
            try clear c61b0
            try clear c62
            try clear c62b0
            try clear c63
            try clear c63b0
            try clear c63b1
            try clear c64
            try clear c64b0
            try clear p64
            try clear p65
            try clear q65
            try clear hx65
            try clear hf65
            try clear p66
            try clear q66
            try clear hx66
            try clear hf66
            try clear c73
            try clear c73b0
            try clear c73b1
            try clear c74
            try clear c74b0
            try clear c74b1
            try clear c74b2
            try clear c76
            try clear c76b0
            try clear c77
            try clear c77b0
            try clear c78
            try clear c78b0
            try clear c79
            try clear c79b0
            try clear p80
            try clear q80
            try clear hx80
            try clear hf80
            try clear c81
            try clear c81b0
            try clear c82
            try clear c82b0
            try clear c83
            try clear c83b0
            try clear p84
            try clear q84
            try clear hx84
            try clear hf84
            try clear c91
            try clear c91b0
            try clear c92
            try clear c92b0
            try clear c93
            try clear c93b0
            try clear c94
            try clear c94b0
            try clear c95
            try clear c95b0
            try clear c96
            try clear c96b0
            try clear p97
            try clear q97
            try clear hx97
            try clear hf97
            try clear c101
            try clear c101b0
            try clear c101b1
            try clear c102
            try clear c102b0
            try clear c102b1
            try clear c103
            try clear c103b0
            try clear c103b1
            try clear q105
            try clear q106
            try clear q107
            try clear c108
            try clear c108b0
            try clear c108b1
            try clear hx125_0
            try clear hx125_1
            try clear hx125_2
            try clear hx125_3
            try clear hx125_4
            try clear hx139_0
            try clear hx139_1
            try clear hx139_2
            try clear hx139_3
            try clear hx139_4
            try clear hx153_0
            try clear hx154_0
            try clear hx154_1
            try clear hx154_2
            try clear hx154_3
            try clear hx154_4
            try clear hx155_0
            try clear hx158_0
            try clear hx160_0
            try clear hx162_0
            try clear hx163_0
            try clear hx164_0
            try clear hx65_0
            try clear hx66_0
            try clear hx80_0
            try clear hx84_0
            try clear hx97_0
            try clear p1
            try clear p12
            try clear p125
            try clear p13
            try clear p139
            try clear p15
            try clear p153
            try clear p154
            try clear p155
            try clear p158
            try clear p16
            try clear p160
            try clear p162
            try clear p163
            try clear p164
            try clear p2
            try clear p6
            try clear p64
            try clear p65
            try clear p66
            try clear p8
            try clear p80
            try clear p84
            try clear p97
            try clear q1
            try clear q105
            try clear q106
            try clear q107
            try clear q12
            try clear q125
            try clear q13
            try clear q139
            try clear q15
            try clear q153
            try clear q154
            try clear q155
            try clear q158
            try clear q16
            try clear q160
            try clear q162
            try clear q163
            try clear q164
            try clear q6
            try clear q65
            try clear q66
            try clear q8
            try clear q80
            try clear q84
            try clear q97
            obtain ⟨x15_5, rfl, HA, HK5, HO_6, HO_8, HO_9, HO_10, HB⟩ := hrel
            cases gk with
            | zero => exact absurd HA.out (by simp [spec_l08Pairs.l3])
            | succ k5 =>
             have H := HA.out
             clear HA
             simp only [spec_l08Pairs.l3] at H
             by_cases c109 : x15_5 ≥ 0
             ·rw [if_pos c109] at H
              have c109b0 : decide (0 ≤ x15_5) = true := decide_eq_true c109
              clear c109
              replace H := zy_g H
              obtain ⟨c110, H⟩ := H
              have c110b0 : decide (0 ≤ x15_5) = true := decide_eq_true c110
              clear c110
              replace H := zy_g H
              obtain ⟨c111, H⟩ := H
              have c111b0 : decide (x15_5 < (x8_3.length : Int)) = true := decide_eq_true c111
              clear c111
              replace H := zy_g H
              obtain ⟨c112, H⟩ := H
              have c112b0 : decide (0 ≤ (rd x8_3 x15_5)) = true := decide_eq_true c112
              clear c112
              replace H := zy_g H
              obtain ⟨c113, H⟩ := H
              have c113b0 : decide ((rd x8_3 x15_5) < (l1.length : Int)) = true := decide_eq_true c113
              clear c113
              by_cases c114 : ((rd_T63 l1 (rd x8_3 x15_5)).f0) = 5
              ·rw [if_pos c114] at H
               have c114b0 : (((rd_T63 l1 (rd x8_3 x15_5)).f0) == 5) = true := beq_iff_eq.mpr c114
               have c114b1 : (((rd_T63 l1 (rd x8_3 x15_5)).f0) != 5) = false := bne_eq_false_iff_eq.mpr c114
               clear c114
               by_cases c115 : x15_5 < 0
               ·rw [if_pos c115] at H
                have c115b0 : decide (x15_5 < 0) = true := decide_eq_true c115
                clear c115
                simp only [Option.some.injEq, Prod.mk.injEq] at H
                obtain ⟨rfl, rfl⟩ := H
                have p175 : 0 ≤ (x15_5 : Int) := xyd
                have q175 : x15_5 < (x8_3.length : Int) := xyd
                obtain ⟨ad175, e175, hx175_0⟩ := Kd.at_int (Kd.R_reads' HO_8.out).2.2 x15_5 p175 q175
                cases e175
                replace p175 := eq_true p175
                replace q175 := eq_true q175
                have p176 : 0 ≤ ((rd x8_3 x15_5) : Int) := xyd
                have q176 : (rd x8_3 x15_5) < (l1.length : Int) := xyd
                obtain ⟨ad176, e176, hx176_0, hx176_1, hx176_2, hx176_3, hx176_4⟩ := at_T63 HR1.out (rd x8_3 x15_5) p176 q176
                obtain rfl : ad139 = ad176 := (by injection e176)
                replace hx176_0 := xyh HB.out hx176_0
                replace hx176_1 := xyh HB.out hx176_1
                replace hx176_2 := xyh HB.out hx176_2
                replace hx176_3 := xyh HB.out hx176_3
                replace hx176_4 := xyh HB.out hx176_4
                replace p176 := eq_true p176
                replace q176 := eq_true q176
                go_wp2
                go_ret2
                exact ⟨_, wy3, wy17, (xyo HB.out)⟩
               rw [if_neg c115] at H
               have c115b0 : decide (x15_5 < 0) = false := decide_eq_false c115
               clear c115
               replace H := zy_g H
               obtain ⟨c116, H⟩ := H
               have c116b0 : decide (x15_5 < (x10_3.length : Int)) = true := decide_eq_true c116
               clear c116
               replace H := zy_g H
               obtain ⟨c117, H⟩ := H
               have LMc117 := Aside0.mk c117
               clear c117
               obtain ⟨y178, hy178⟩ : ∃ y_ : List Int, y_ = ((rd_L2 x10_3 x15_5) ++ [x11_3]) := ⟨_, rfl⟩
               replace H : (spec_l08Pairs.l1 k5 l1 x6_3 x8_3 x9_3 (x10_3.set (x15_5 : Int).toNat y178) (wrap64 (x11_3 + 1))) = some (r1, r2) := by first | (rw [hy178]; with_reducible exact H) | (have H2_ := (Option.bind_some _ _).symm.trans H; rw [hy178]; with_reducible exact H2_) | (have H2_ := (Option.bind_some _ _).symm.trans H; with_reducible exact H2_) | with_reducible exact H | (rw [hy178]; exact H) | exact H
               have Ny178 := Aside0.mk hy178
               clear hy178
               obtain ⟨y181, hy181⟩ : ∃ y_ : List (List Int), y_ = (x10_3.set (x15_5 : Int).toNat y178) := ⟨_, rfl⟩
               replace H : (spec_l08Pairs.l1 k5 l1 x6_3 x8_3 x9_3 y181 (wrap64 (x11_3 + 1))) = some (r1, r2) := by first | (rw [hy181]; with_reducible exact H) | (have H2_ := (Option.bind_some _ _).symm.trans H; rw [hy181]; with_reducible exact H2_) | (have H2_ := (Option.bind_some _ _).symm.trans H; with_reducible exact H2_) | with_reducible exact H | (rw [hy181]; exact H) | exact H
               have Ny181 := Aside0.mk hy181
               clear hy181
               have H' := Aside0.mk H
               clear H
               have p175 : 0 ≤ (x15_5 : Int) := xyd
               have q175 : x15_5 < (x8_3.length : Int) := xyd
               obtain ⟨ad175, e175, hx175_0⟩ := Kd.at_int (Kd.R_reads' HO_8.out).2.2 x15_5 p175 q175
               cases e175
               replace p175 := eq_true p175
               replace q175 := eq_true q175
               have p176 : 0 ≤ ((rd x8_3 x15_5) : Int) := xyd
               have q176 : (rd x8_3 x15_5) < (l1.length : Int) := xyd
               obtain ⟨ad176, e176, hx176_0, hx176_1, hx176_2, hx176_3, hx176_4⟩ := at_T63 HR1.out (rd x8_3 x15_5) p176 q176
               obtain rfl : ad139 = ad176 := (by injection e176)
               replace hx176_0 := xyh HB.out hx176_0
               replace hx176_1 := xyh HB.out hx176_1
               replace hx176_2 := xyh HB.out hx176_2
               replace hx176_3 := xyh HB.out hx176_3
               replace hx176_4 := xyh HB.out hx176_4
               replace p176 := eq_true p176
               replace q176 := eq_true q176
               obtain ⟨Ao119, co119, eo119⟩ := Kd.S_slice HO_10.out
               subst eo119
               have p177 : 0 ≤ (x15_5 : Int) := xyd
               have q177 : x15_5 < (x10_3.length : Int) := xyd
               obtain ⟨ad177, A177_0, c177_0, e177, hx177_0, hl177_0, hi177_0⟩ := at_L2 (Kd.S_reads' HO_10.out).2.2 x15_5 p177 q177
               cases e177
               obtain ⟨ce177, hce177, hMe177, hcc177⟩ := Kd.S_get HO_10.out [] x15_5 p177 (by first | exact q177 | exact xyd | (have e_ := (Kd.S_reads' HO_10.out).1; omega))
               obtain ⟨ve177_0, rfl, ge177_0⟩ := hMe177
               have hv177_0 := hcc177 0 _ rfl
               rw [Nat.add_zero, show ((Kd.slice 2 (Kd.int .i64))).sz = 1 from rfl, Nat.mul_one] at hv177_0
               replace hv177_0 := Option.some.inj (hv177_0.symm.trans hx177_0)
               rw [hv177_0] at ge177_0
               have HL177_0 := Aside0.mk (show Kd.R (Kd.int .i64) 2 _ _ _ _ (rd_L2 x10_3 x15_5) from ge177_0)
               clear hv177_0 ge177_0
               have HX177_0 := Aside0.mk hx177_0
               clear hcc177 hce177
               have HR177_0 := Aside0.mk hi177_0
               have HC177_0 := Aside0.mk hl177_0
               clear hi177_0 hl177_0
               replace p177 := eq_true p177
               replace q177 := eq_true q177
               obtain ⟨go120, co120, eo120, gb120, gl120, cl120, HG120⟩ := Kd.S_form HO_10.out (by have h_ : (x15_5 : Int) < ((x10_3.length : Int) : Int) := xyd; have h2_ : 0 ≤ (x15_5 : Int) := xyd; omega)
               (first | cases eo120 | (injection eo120 with ea_ en_ ec_; (first | subst ea_ | (injection ea_ with ea_; subst ea_)); subst ec_; clear en_))
               have GB120 := Aside0.mk gb120
               have GG120 := Aside0.mk HG120
               clear gb120 gl120 HG120
               (first | simp only [add_plain] at hx177_0 | skip)
               obtain ⟨oki120, ce120, hcl120, hM120, hcc120, _, _, hH120⟩ := Kd.S_elem HO_10.out [] (x15_5 : Int) xyd (by have h_ : (x15_5 : Int) < ((x10_3.length : Int) : Int) := xyd; first | exact h_ | (have e_ := (Kd.S_reads' HO_10.out).1; omega) | simpa using h_)
               obtain ⟨ve120_0, rfl, ge120_0⟩ := hM120
               have hv120 := hcc120 0 _ rfl
               have hX120 := HX177_0.out
               (try simp only [add_plain] at hX120)
               (try simp only [Nat.add_zero] at hv120)
               (try rw [show ((Kd.slice 2 (Kd.int .i64))).sz = 1 from rfl, Nat.mul_one] at hv120)
               replace hv120 := Option.some.inj (hv120.symm.trans hX120)
               subst hv120
               clear hX120 hcc120 hcl120
               have UU120 := Aside0.mk (show Kd.R (Kd.int .i64) 2 _ w.heap.size oki120 (.slice A177_0 (rd_L2 x10_3 x15_5).length c177_0) (rd_L2 x10_3 x15_5) from ge120_0)
               have HH120 := Aside0.mk hH120
               have HN120 := Aside0.mk (Kd.S_reads' HO_10.out).1
               clear hH120 ge120_0
               go_wp2_with (first | ((with_reducible refine gate_builtin (b := .append) (xs := #[.tmp 193, .tmp 195]) rfl ?_); (try (refine gate_guard (by rfl) ?_; dsimp only)); at_builtin; refine Kd.R_append (Kd.int .i64) (w0 := w) w.heap.size rfl (.tmp 193) (.tmp 195) 29 2 (.int .i64 0) 8 rfl Try.underlying29 info2 rfl (by decide) (by omega) (.slice A177_0 (rd_L2 x10_3 x15_5).length c177_0) (rd_L2 x10_3 x15_5) x11_3 [.int .i64 x11_3] (fun k_ => oki120 k_ ∨ ((fun k_ => some k_ ≠ (.slice Ao26 x6_3.length co26 : Value).ownBlock ∧ some k_ ≠ (.slice (some ad175) x8_3.length co27 : Value).ownBlock ∧ some k_ ≠ (u9 : Value).ownBlock)) k_ ∧ wr.heap.size ≤ k_) (fun _ => False) rfl rfl ?aP (fun _ hk => hk.elim) ?aF ?aO ?aB ?aS ?aL ?_; (case aP => exact rfl); (case aB => exact (xyo HB.out)); (case aF => exact (fun k_ hk => .inr ⟨⟨Kd.fresh' (Kd.R_lt (xyr HO_6.out)) k_ hk, Kd.fresh' (Kd.R_lt (xyr HO_8.out)) k_ hk, Kd.fresh' (Kd.R_lt (xyr HO_9.out)) k_ hk⟩, hk⟩)); (case aO => exact (by (with_reducible repeat (first | apply Kd.R_alloc | apply Kd.R_drewN | apply Kd.R_drew)); exact Kd.R_mono UU120.out (fun _ hk => .inl hk))); (case aS => exact (below_size (xyo HB.out))); (case aL => have := LMc117.out; omega); intro v179 w121 ho hb hg hat; rw [← Ny178.out] at ho; replace HO_6 := Aside0.mk (Kd.R_grown2 (xyr HO_6.out) rfl hg (fun k_ e_ => (HL177_0.out.1 k_ e_).1.1)); replace HO_8 := Aside0.mk (Kd.R_grown2 (xyr HO_8.out) rfl hg (fun k_ e_ => (HL177_0.out.1 k_ e_).1.2.1)); replace HO_9 := Aside0.mk (Kd.R_grown2 (xyr HO_9.out) rfl hg (fun k_ e_ => (HL177_0.out.1 k_ e_).1.2.2)); replace HB := Aside0.mk (hb); replace HH120 := Aside0.mk (Kd.H_grown (Kd.H_widen (by repeat (first | exact HH120.out | refine Kd.H_alloc ?_ _ | refine Kd.H_drewN ?_ _ | refine Kd.H_drew ?_))) hg (fun k_ e_ => .inl (UU120.out.1 k_ e_))); have HO180 := Aside0.mk (ho); clear HO_10 UU120 HL177_0; clear ho hb hg hat; have p118 : 0 ≤ (x15_5 : Int) := xyd; have q118 : (x15_5 : Int) < ((x10_3.length : Int) : Int) := xyd; replace p118 := eq_true p118; replace q118 := eq_true q118; obtain ⟨Ao124, co124, eo124⟩ := Kd.R_slice HO180.out; subst eo124; obtain ⟨_, _, hraw122, _, _, hcc122, _⟩ := Kd.H_raw HH120.out xyd (by have h_ : (x15_5 : Int) < ((x10_3.length : Int) : Int) := xyd; first | exact h_ | (have e_ := (HN120.out); omega) | simpa using h_); obtain ⟨_, hfr122⟩ := Kd.H_at HH120.out xyd (by have h_ : (x15_5 : Int) < ((x10_3.length : Int) : Int) := xyd; first | exact h_ | (have e_ := (HN120.out); omega) | simpa using h_); have hx122_0 := hcc122 0 _ rfl; have hf122_0 := hfr122 0; (try simp only [Nat.add_zero] at hx122_0 hf122_0); (try rw [show ((Kd.slice 2 (Kd.int .i64))).sz = 1 from rfl, Nat.mul_one] at hx122_0); (try rw [show ((Kd.slice 2 (Kd.int .i64))).sz = 1 from rfl, Nat.mul_one] at hf122_0); have HP122 := Kd.S_seg0 HH120.out xyd (by have h_ : (x15_5 : Int) < ((x10_3.length : Int) : Int) := xyd; first | exact h_ | (have e_ := (HN120.out); omega) | simpa using h_) (seg := [.slice Ao124 y178.length co124]) (j := 0) (show 1 ≤ 1 from by decide) (x' := y178) (Kd.M_row HO180.out) (fun _ hk => hk); (try simp only [show ((Kd.slice 2 (Kd.int .i64))).sz = 1 from rfl, Nat.mul_one, Nat.add_zero] at HP122); clear hcc122 hfr122) | ((with_reducible refine gate_store (t := 29) (p := 197) rfl ?_); refine xys ((w121.setCell ⟨go120, (x15_5 : Int).toNat, none⟩ (.slice Ao124 y178.length co124))) ?_; intro w123 hw; have hg : w121.grownBy w123 (some go120) := (by rw [hw]; exact HP122.2); have hp_ : Kd.S (Kd.slice 2 (Kd.int .i64)) 29 w123 w.heap.size (fun k_ => some k_ ≠ (.slice Ao26 x6_3.length co26 : Value).ownBlock ∧ some k_ ≠ (.slice (some ad175) x8_3.length co27 : Value).ownBlock ∧ some k_ ≠ (u9 : Value).ownBlock) (.slice (some ⟨go120, 0, none⟩) x10_3.length co119) y181 := (by rw [hw, Ny181.out]; exact HP122.1); clear HP122; replace HO_6 := Aside0.mk (Kd.R_over' (xyr HO_6.out) (Kd.R_typed hraw122) (by decide) hg); replace HO_8 := Aside0.mk (Kd.R_over' (xyr HO_8.out) (Kd.R_typed hraw122) (by decide) hg); replace HO_9 := Aside0.mk (Kd.R_over' (xyr HO_9.out) (Kd.R_typed hraw122) (by decide) hg); replace HB := Aside0.mk ((by rw [hw]; exact below_set HB.out GB120.out : Below w.heap.size w w123)); have HO_10 := Aside0.mk (hp_); clear HO180 HH120; clear hg hw hp_ hraw122))
               go_roundg k5
               case measure => have := HK1.out; have := HJ4.out; have := HK3.out; have := HJ24.out; have := HK5.out; omega
               case rel => exact ⟨(x6_3), (x8_3), (x9_3), (y181), (wrap64 (x11_3 + 1)), wy5, H', ⟨wy47⟩, ⟨(xyr HO_6.out)⟩, ⟨(xyr HO_8.out)⟩, ⟨(xyr HO_9.out)⟩, ⟨wy11⟩, ⟨(xyo HB.out)⟩⟩
              rw [if_neg c114] at H
              have c114b0 : (((rd_T63 l1 (rd x8_3 x15_5)).f0) == 5) = false := beq_eq_false_iff_ne.mpr c114
              have c114b1 : (((rd_T63 l1 (rd x8_3 x15_5)).f0) != 5) = true := bne_iff_ne.mpr c114
              have H' := Aside0.mk H
              clear H
              have p175 : 0 ≤ (x15_5 : Int) := xyd
              have q175 : x15_5 < (x8_3.length : Int) := xyd
              obtain ⟨ad175, e175, hx175_0⟩ := Kd.at_int (Kd.R_reads' HO_8.out).2.2 x15_5 p175 q175
              cases e175
              replace p175 := eq_true p175
              replace q175 := eq_true q175
              have p176 : 0 ≤ ((rd x8_3 x15_5) : Int) := xyd
              have q176 : (rd x8_3 x15_5) < (l1.length : Int) := xyd
              obtain ⟨ad176, e176, hx176_0, hx176_1, hx176_2, hx176_3, hx176_4⟩ := at_T63 HR1.out (rd x8_3 x15_5) p176 q176
              obtain rfl : ad139 = ad176 := (by injection e176)
              replace hx176_0 := xyh HB.out hx176_0
              replace hx176_1 := xyh HB.out hx176_1
              replace hx176_2 := xyh HB.out hx176_2
              replace hx176_3 := xyh HB.out hx176_3
              replace hx176_4 := xyh HB.out hx176_4
              replace p176 := eq_true p176
              replace q176 := eq_true q176
              go_wp2
              go_roundg k5
              case measure => have := HK1.out; have := HJ4.out; have := HK3.out; have := HJ24.out; have := HK5.out; omega
              case rel => exact ⟨(wrap64 (x15_5 - 1)), wy5, H', ⟨wy47⟩, ⟨(xyr HO_6.out)⟩, ⟨(xyr HO_8.out)⟩, ⟨(xyr HO_9.out)⟩, ⟨wy11⟩, ⟨(xyo HB.out)⟩⟩
             rw [if_neg c109] at H
             have c109b0 : decide (0 ≤ x15_5) = false := decide_eq_false c109
             clear c109
             by_cases c125 : x15_5 < 0
             ·rw [if_pos c125] at H
              have c125b0 : decide (x15_5 < 0) = true := decide_eq_true c125
              clear c125
              simp only [Option.some.injEq, Prod.mk.injEq] at H
              obtain ⟨rfl, rfl⟩ := H
              go_wp2
              go_ret2
              exact ⟨_, wy3, wy17, (xyo HB.out)⟩
             rw [if_neg c125] at H
             have c125b0 : decide (x15_5 < 0) = false := decide_eq_false c125
             clear c125
             replace H := zy_g H
             obtain ⟨c126, H⟩ := H
             have c126b0 : decide (0 ≤ x15_5) = true := decide_eq_true c126
             clear c126
             exact absurd (c126b0.symm.trans c109b0) (by decide)
          rw [if_neg c108] at H
          have c108b0 : (((rd_T63 l1 x11_3).f0) == 6) = false := beq_eq_false_iff_ne.mpr c108
          have c108b1 : (((rd_T63 l1 x11_3).f0) != 6) = true := bne_iff_ne.mpr c108
          have H' := Aside0.mk H
          clear H
          go_wp2
          go_roundg kj24
          case measure => have := HK1.out; have := HJ4.out; have := HK3.out; have := HJ24.out; omega
          case rel => exact ⟨(x6_3), (x8_3), (x9_3), (x10_3), (wrap64 (x11_3 + 1)), wy5, H', ⟨(by have := HK1.out; have := HJ4.out; have := HK3.out; have := HJ24.out; omega)⟩, ⟨(xyr HO_6.out)⟩, ⟨(xyr HO_8.out)⟩, ⟨(xyr HO_9.out)⟩, ⟨wy11⟩, ⟨(xyo HB.out)⟩⟩
       rw [if_neg c22] at H
       have c22b0 : decide (x11_3 < (x6_3.length : Int)) = false := decide_eq_false c22
       clear c22
       by_cases c127 : (x8_3.length : Int) = 0
       ·rw [if_pos c127] at H
        have c127b0 : ((x8_3.length : Int) == 0) = true := beq_iff_eq.mpr c127
        have c127b1 : ((x8_3.length : Int) != 0) = false := bne_eq_false_iff_eq.mpr c127
        clear c127
        simp only [Option.some.injEq, Prod.mk.injEq] at H
        obtain ⟨rfl, rfl⟩ := H
        obtain ⟨Ao128, co128, eo128⟩ := Kd.R_slice HO_6.out
        subst eo128
        obtain ⟨Ao129, co129, eo129⟩ := Kd.R_slice HO_8.out
        subst eo129
        go_wp2
        go_ret2
        exact ⟨_, wy3, wy17, (xyo HB.out)⟩
       rw [if_neg c127] at H
       have c127b0 : ((x8_3.length : Int) == 0) = false := beq_eq_false_iff_ne.mpr c127
       have c127b1 : ((x8_3.length : Int) != 0) = true := bne_iff_ne.mpr c127
       have c127b2 : ¬ (x8_3 = []) := fun h_ => c127 (by rw [h_]; rfl)
       simp only [Option.some.injEq, Prod.mk.injEq] at H
       obtain ⟨rfl, rfl⟩ := H
       obtain ⟨Ao130, co130, eo130⟩ := Kd.R_slice HO_6.out
       subst eo130
       obtain ⟨Ao131, co131, eo131⟩ := Kd.R_slice HO_8.out
       subst eo131
       go_wp2
       go_ret2
       exact ⟨_, wy3, wy17, (xyo HB.out)⟩

end Go.Proofs.Ytheemkehedmlfaa.Y
