-- Written by a program of this session (wip/tools) over the kit's print.
-- COMPACT
import Derived.Test.YtpfoeologjacfaaM0
import Derived.Test.YtpfoeologjacfaaM3
import Derived.Test.YtpfoeologjacfaaM4
import Derived.Test.YtpfoeologjacfaaM5
namespace Go.Proofs.Ytpfoeologjacfaa.M
open Go.RowKit Go.Proofs.YtpfoeologjacfaaW.PrintWords Go.Proofs.YtpfoeologjacfaaW.PrintLast Go.Proofs.YtpfoeologjacfaaW.PrintMore
attribute [local go_sem] max2_int min2_int max_two min_two max_three min_three max_four min_four   -- for this text's walks alone
set_option linter.unusedVariables false
set_option linter.unusedSimpArgs false

/-! ### laws_FnSorted: function 9 -/
def z9.bm (n m : Nat) : Array Bool := ((List.range n).map fun i => m.testBit i).toArray
section
variable {P : Program} {ops : Array Oper} {Q : Exit → Act → World → Prop} {md : Region.Mode} {S : World → Prop} {ds : List Nat} {i : Nat} {N : Option Tmp} {oi : Oper} {v : Value} {fuel : Nat} {l : Array Bool} {a a' : Act} {w : World} {T : Bool × List (List Nat × List Nat)}
/-- The word 'pure_', with what is always shown in the same way left to it. -/
theorem z9.pa (l' : Array Bool) (hT : rtab md ops = T) (h : wpAnyLast P md ops Q S ds fuel l' a' w) (hc : anyT T l.toList l'.toList i = true := by kernel_rfl) (hi : ops[i]? = some oi := by rfl) (hN : oi.dst = N := by rfl) (hQ : ∀ c a w, Q (.panic c) (a.put oi.dst v) w → Q (.panic c) a w := by exact fun _ _ _ h => h)
  (hy : Yields P ops oi v a := by exact Or.inl ⟨by rfl, by intro w'; go_simp; with_reducible rfl⟩) (ha : a.put N v = a' := by simp only [Act.put, List.setIfInBounds_toArray, List.set_cons_zero, List.set_cons_succ, i64_w, i32_w]; rfl) : wpAnyLast P md ops Q S ds (fuel + 1) l a w := pure_ l' hi hN (any_of hT hc) hQ hy ha h
/-- The word 'take_', so. -/
theorem z9.ta (l' : Array Bool) (hi : ops[i]? = some oi) (hc : takeB md ops ds l l' i = true) (hy : YieldsIf P ops S oi v a) (hS : S w) (h : wpAnyLast P md ops Q S ds fuel l' a' w) (hN : oi.dst = N := by rfl) (hQ : ∀ c a w, Q (.panic c) (a.put oi.dst v) w → Q (.panic c) a w := by exact fun _ _ _ h => h)
  (ha : a.put N v = a' := by simp only [Act.put, List.setIfInBounds_toArray, List.set_cons_zero, List.set_cons_succ, i64_w, i32_w]; rfl) : wpAnyLast P md ops Q S ds (fuel + 1) l a w := take_ l' hi hN hc hQ hy hS ha h
end
mutual
def laws_FnSorted.j0 : Nat → Int → List Int → List Int → List (S54) → Int → Bool → Option (Bool)
 | 0, _, _, _, _, _, _ => none
 | k + 1, x5, x7, x8, x10, x12, x82 => if x82 = true then (some false) else (laws_FnSorted.l0 k x5 x7 x8 x10 x12 x7 0)
def laws_FnSorted.l0 : Nat → Int → List Int → List Int → List (S54) → Int → List Int → Int → Option (Bool)
 | 0, _, _, _, _, _, _, _ => none
 | k + 1, x5, x7, x8, x10, x12, x14, x15 => if x15 < (x10.length : Int) then (if 0 ≤ x15 then ((impl_ExchangeLanes.f k x5 ((rd_T54 x10 x15).f0) ((rd_T54 x10 x15).f1) x14).bind fun bt236 => (if bt236.2 = true then (laws_FnSorted.l0 k x5 x7 x8 x10 x12 bt236.1 (wrap64 (x15 + 1))) else (some false))) else (none)) else (laws_FnSorted.l1 k x7 x8 x12 x14 0)
def laws_FnSorted.l1 : Nat → List Int → List Int → Int → List Int → Int → Option (Bool)
 | 0, _, _, _, _, _ => none
 | k + 1, x7, x8, x12, x14, x18 => if x18 < (x7.length : Int) then (if x18 > 0 then (if 0 ≤ x18 then (if x18 < (x8.length : Int) then (if 0 ≤ (wrap64 (x18 - 1)) then (if (wrap64 (x18 - 1)) < (x8.length : Int) then (if (rd x8 x18) < (rd x8 (wrap64 (x18 - 1))) then (some false) else ((laws_r8Count.f k x8 (rd x7 x18)).bind fun t244 => ((laws_r8Count.f k x7 (rd x7 x18)).bind fun t246 => (if t244 = t246 then (if x18 < x12 then (if 0 ≤ x12 then (if x12 < (x7.length : Int) then (if (rd x7 x18) = (rd x7 x12) then (some false) else (laws_FnSorted.l1 k x7 x8 x12 x14 (wrap64 (x18 + 1)))) else (none)) else (none)) else (laws_FnSorted.l1 k x7 x8 x12 x14 (wrap64 (x18 + 1)))) else (some false))))) else (none)) else (none)) else (none)) else (none)) else (if 0 ≤ x18 then ((laws_r8Count.f k x8 (rd x7 x18)).bind fun t250 => ((laws_r8Count.f k x7 (rd x7 x18)).bind fun t252 => (if t250 = t252 then (if x18 < x12 then (if 0 ≤ x12 then (if x12 < (x7.length : Int) then (if (rd x7 x18) = (rd x7 x12) then (some false) else (laws_FnSorted.l1 k x7 x8 x12 x14 (wrap64 (x18 + 1)))) else (none)) else (none)) else (laws_FnSorted.l1 k x7 x8 x12 x14 (wrap64 (x18 + 1)))) else (some false)))) else (none))) else ((laws_r8Same.f k x14 x8).bind fun t240 => (some t240))
end
def laws_FnSorted.f (k : Nat) (l0 : List Int) (l1 : List Int) : Option (Bool) := (laws_r8Long.f l0 l1).bind fun t217 => (if t217 = true then (some true) else ((spec_R8Bits.f l0).bind fun t218 => ((spec_R8Lanes.f l1).bind fun t219 => ((spec_R8Vector.f k l0 t218 t219).bind fun t220 => ((impl_SortLanes.f k t218 t220).bind fun bt223 => ((impl_SortSteps.f k t219).bind fun bt227 => ((impl_LeastLane.f k t218 t220).bind fun bt231 => (if bt223.2 = true then (if bt227.2 = true then (if bt231.2 = true then (if (bt223.1.length : Int) = (t220.length : Int) then (if bt231.1 < 0 then (laws_FnSorted.j0 k t218 t220 bt223.1 bt227.1 bt231.1 true) else (if bt231.1 ≥ t219 then (laws_FnSorted.j0 k t218 t220 bt223.1 bt227.1 bt231.1 true) else (if 0 ≤ bt231.1 then (if bt231.1 < (t220.length : Int) then (if 0 < (bt223.1.length : Int) then (laws_FnSorted.j0 k t218 t220 bt223.1 bt227.1 bt231.1 ((rd t220 bt231.1) != (rd bt223.1 0))) else (none)) else (none)) else (none)))) else (laws_FnSorted.j0 k t218 t220 bt223.1 bt227.1 bt231.1 true)) else (laws_FnSorted.j0 k t218 t220 bt223.1 bt227.1 bt231.1 true)) else (laws_FnSorted.j0 k t218 t220 bt223.1 bt227.1 bt231.1 true)) else (laws_FnSorted.j0 k t218 t220 bt223.1 bt227.1 bt231.1 true)))))))))
theorem laws_FnSorted.mono_l : ∀ k, (∀ y0 y1 y2 y3 y4 y5, LeO (laws_FnSorted.j0 k y0 y1 y2 y3 y4 y5) (laws_FnSorted.j0 (k + 1) y0 y1 y2 y3 y4 y5)) ∧ (∀ y0 y1 y2 y3 y4 y5 y6, LeO (laws_FnSorted.l0 k y0 y1 y2 y3 y4 y5 y6) (laws_FnSorted.l0 (k + 1) y0 y1 y2 y3 y4 y5 y6)) ∧ (∀ y0 y1 y2 y3 y4, LeO (laws_FnSorted.l1 k y0 y1 y2 y3 y4) (laws_FnSorted.l1 (k + 1) y0 y1 y2 y3 y4))
 | 0 => ⟨fun _ _ _ _ _ _ r h => by simp [laws_FnSorted.j0] at h, fun _ _ _ _ _ _ _ r h => by simp [laws_FnSorted.l0] at h, fun _ _ _ _ _ r h => by simp [laws_FnSorted.l1] at h⟩
 | k + 1 => by
  obtain ⟨ih0, ih1, ih2⟩ := laws_FnSorted.mono_l k
  refine ⟨?_, ?_, ?_⟩
  ·intro y0 y1 y2 y3 y4 y5
   unfold laws_FnSorted.j0
   repeat' first
   | (with_reducible exact ih0 _ _ _ _ _ _)
   | (with_reducible exact ih1 _ _ _ _ _ _ _)
   | (with_reducible exact ih2 _ _ _ _ _)
   | (with_reducible exact impl_ExchangeLanes.mono _ _ _ _ _)
   | (with_reducible exact impl_LeastLane.mono _ _ _)
   | (with_reducible exact impl_SortLanes.mono _ _ _)
   | (with_reducible exact impl_SortSteps.mono _ _)
   | (with_reducible exact laws_r8Count.mono _ _ _)
   | (with_reducible exact laws_r8Same.mono _ _ _)
   | (with_reducible exact spec_R8Vector.mono _ _ _ _)
   | (with_reducible exact LeO.refl _)
   | (with_reducible exact LeO.none _)
   | (with_reducible refine LeO.ite ?_ ?_)
   | (with_reducible refine LeO.bind ?_ (fun _ => ?_))
   | exact ih0 _ _ _ _ _ _
   | exact ih1 _ _ _ _ _ _ _
   | exact ih2 _ _ _ _ _
   | exact impl_ExchangeLanes.mono _ _ _ _ _
   | exact impl_LeastLane.mono _ _ _
   | exact impl_SortLanes.mono _ _ _
   | exact impl_SortSteps.mono _ _
   | exact laws_r8Count.mono _ _ _
   | exact laws_r8Same.mono _ _ _
   | exact spec_R8Vector.mono _ _ _ _
   | exact LeO.none _
   | refine LeO.ite ?_ ?_
   | refine LeO.bind ?_ (fun _ => ?_)
  ·intro y0 y1 y2 y3 y4 y5 y6
   unfold laws_FnSorted.l0
   repeat' first
   | (with_reducible exact ih0 _ _ _ _ _ _)
   | (with_reducible exact ih1 _ _ _ _ _ _ _)
   | (with_reducible exact ih2 _ _ _ _ _)
   | (with_reducible exact impl_ExchangeLanes.mono _ _ _ _ _)
   | (with_reducible exact impl_LeastLane.mono _ _ _)
   | (with_reducible exact impl_SortLanes.mono _ _ _)
   | (with_reducible exact impl_SortSteps.mono _ _)
   | (with_reducible exact laws_r8Count.mono _ _ _)
   | (with_reducible exact laws_r8Same.mono _ _ _)
   | (with_reducible exact spec_R8Vector.mono _ _ _ _)
   | (with_reducible exact LeO.refl _)
   | (with_reducible exact LeO.none _)
   | (with_reducible refine LeO.ite ?_ ?_)
   | (with_reducible refine LeO.bind ?_ (fun _ => ?_))
   | exact ih0 _ _ _ _ _ _
   | exact ih1 _ _ _ _ _ _ _
   | exact ih2 _ _ _ _ _
   | exact impl_ExchangeLanes.mono _ _ _ _ _
   | exact impl_LeastLane.mono _ _ _
   | exact impl_SortLanes.mono _ _ _
   | exact impl_SortSteps.mono _ _
   | exact laws_r8Count.mono _ _ _
   | exact laws_r8Same.mono _ _ _
   | exact spec_R8Vector.mono _ _ _ _
   | exact LeO.none _
   | refine LeO.ite ?_ ?_
   | refine LeO.bind ?_ (fun _ => ?_)
  ·intro y0 y1 y2 y3 y4
   unfold laws_FnSorted.l1
   repeat' first
   | (with_reducible exact ih0 _ _ _ _ _ _)
   | (with_reducible exact ih1 _ _ _ _ _ _ _)
   | (with_reducible exact ih2 _ _ _ _ _)
   | (with_reducible exact impl_ExchangeLanes.mono _ _ _ _ _)
   | (with_reducible exact impl_LeastLane.mono _ _ _)
   | (with_reducible exact impl_SortLanes.mono _ _ _)
   | (with_reducible exact impl_SortSteps.mono _ _)
   | (with_reducible exact laws_r8Count.mono _ _ _)
   | (with_reducible exact laws_r8Same.mono _ _ _)
   | (with_reducible exact spec_R8Vector.mono _ _ _ _)
   | (with_reducible exact LeO.refl _)
   | (with_reducible exact LeO.none _)
   | (with_reducible refine LeO.ite ?_ ?_)
   | (with_reducible refine LeO.bind ?_ (fun _ => ?_))
   | exact ih0 _ _ _ _ _ _
   | exact ih1 _ _ _ _ _ _ _
   | exact ih2 _ _ _ _ _
   | exact impl_ExchangeLanes.mono _ _ _ _ _
   | exact impl_LeastLane.mono _ _ _
   | exact impl_SortLanes.mono _ _ _
   | exact impl_SortSteps.mono _ _
   | exact laws_r8Count.mono _ _ _
   | exact laws_r8Same.mono _ _ _
   | exact spec_R8Vector.mono _ _ _ _
   | exact LeO.none _
   | refine LeO.ite ?_ ?_
   | refine LeO.bind ?_ (fun _ => ?_)
theorem laws_FnSorted.mono : ∀ a0 a1 k, LeO (laws_FnSorted.f k a0 a1) (laws_FnSorted.f (k + 1) a0 a1) := by
 intro a0 a1 k
 obtain ⟨ih0, ih1, ih2⟩ := laws_FnSorted.mono_l k
 unfold laws_FnSorted.f
 repeat' first
   | (with_reducible exact ih0 _ _ _ _ _ _)
   | (with_reducible exact ih1 _ _ _ _ _ _ _)
   | (with_reducible exact ih2 _ _ _ _ _)
   | (with_reducible exact impl_ExchangeLanes.mono _ _ _ _ _)
   | (with_reducible exact impl_LeastLane.mono _ _ _)
   | (with_reducible exact impl_SortLanes.mono _ _ _)
   | (with_reducible exact impl_SortSteps.mono _ _)
   | (with_reducible exact laws_r8Count.mono _ _ _)
   | (with_reducible exact laws_r8Same.mono _ _ _)
   | (with_reducible exact spec_R8Vector.mono _ _ _ _)
   | (with_reducible exact LeO.refl _)
   | (with_reducible exact LeO.none _)
   | (with_reducible refine LeO.ite ?_ ?_)
   | (with_reducible refine LeO.bind ?_ (fun _ => ?_))
   | exact ih0 _ _ _ _ _ _
   | exact ih1 _ _ _ _ _ _ _
   | exact ih2 _ _ _ _ _
   | exact impl_ExchangeLanes.mono _ _ _ _ _
   | exact impl_LeastLane.mono _ _ _
   | exact impl_SortLanes.mono _ _ _
   | exact impl_SortSteps.mono _ _
   | exact laws_r8Count.mono _ _ _
   | exact laws_r8Same.mono _ _ _
   | exact spec_R8Vector.mono _ _ _ _
   | exact LeO.none _
   | refine LeO.ite ?_ ?_
   | refine LeO.bind ?_ (fun _ => ?_)
def laws_FnSorted.T9 : Bool × List (List Nat × List Nat) := (true, [([], []), ([0], [0]), ([1], [1]), ([2], [2]), ([3, 2], [2, 3]), ([2, 4], [2, 4]), ([5, 2], [5]), ([6], [6]), ([7, 6], [6, 7]), ([6, 8], [6, 8]), ([9, 6], [9]), ([10], [10]), ([11, 10], [10, 11]), ([10], [10]), ([13, 10], [10, 13]), ([12, 14, 10], [10, 12, 14]), ([10, 15], [10, 15]), ([16, 10], [16]), ([17], [17]), ([18, 17], [17, 18]), ([17, 19], [17, 19]), ([20, 17], [20]), ([21], [21]), ([21], [21]), ([22, 23, 21], [21, 22, 23]), ([21, 24], [21, 24]), ([25, 21], [25]), ([26], [26]), ([26], [26]), ([27, 28, 26], [26, 27, 28]), ([29, 26], [26, 29]), ([26], [26]), ([31, 26], [26, 31]), ([32, 26], [26, 32]), ([30, 33, 26], [26, 30, 33]), ([26, 34], [26, 34])])
def laws_FnSorted.B9 : List Nat := [0, 1, 3, 7, 15, 31, 63, 127, 255, 511, 1023, 2047, 4095, 2047, 10239, 32767, 65535, 131071, 262143, 524287, 1048575, 2097151, 4194303, 4194303, 16777215, 33554431, 67108863, 134217727, 134217727, 536870911, 1073741823, 134217727, 2281701375, 6576668671, 17179869183, 34359738367]
theorem laws_FnSorted.tab9 : rtab .any (opsOf Try.f9 9) = laws_FnSorted.T9 := by kernel_rfl
theorem laws_FnSorted.bits9 : waitsOk laws_FnSorted.T9.2 laws_FnSorted.B9 = true := by kernel_rfl
def laws_FnSorted.T22 : Bool × List (List Nat × List Nat) := (true, [([], []), ([0], [0]), ([1], [1]), ([2], [2]), ([2], [2]), ([3, 4, 2], [2, 3, 4]), ([5, 2], [2, 5]), ([2], [2]), ([2], [2]), ([8, 2], [2, 8]), ([7, 9, 2], [2, 7, 9]), ([10, 2], [2, 10]), ([6, 11, 2], [2, 6, 11]), ([2, 12], [2, 12]), ([13, 2], [13]), ([14], [14]), ([14], [14]), ([14], [14]), ([16, 17, 14], [14, 16, 17]), ([18, 14], [14, 18]), ([15, 19, 14, 14], [14, 15, 19]), ([14], [14]), ([14], [14]), ([14], [14]), ([22, 23, 14], [14, 22, 23]), ([24, 14], [14, 24]), ([21, 25, 20, 14], [14, 21, 25]), ([20, 26, 14], [14, 20, 26]), ([14, 27], [14, 27]), ([28, 26], [28]), ([29], [29]), ([29], [29]), ([30, 31, 29], [29, 30, 31]), ([32, 29, 29], [29, 32]), ([33], [33]), ([33], [33]), ([34, 35, 33], [33, 34, 35]), ([36, 33], [33, 36]), ([33], [33]), ([33], [33]), ([38, 39, 33], [33, 38, 39]), ([40, 33], [33, 40]), ([37, 41, 33], [33, 37, 41]), ([33, 42, 29], [29, 33, 42]), ([29, 43], [29, 43])])
def laws_FnSorted.B22 : List Nat := [0, 1, 3, 7, 7, 31, 63, 7, 7, 263, 903, 1927, 4095, 8191, 16383, 32767, 32767, 32767, 229375, 491519, 1048575, 32767, 32767, 32767, 12615679, 29392895, 67108863, 134217727, 268435455, 536870911, 1073741823, 1073741823, 4294967295, 8589934591, 17179869183, 17179869183, 68719476735, 137438953471, 17179869183, 17179869183, 841813590015, 1941325217791, 4398046511103, 8796093022207, 17592186044415]
theorem laws_FnSorted.tab22 : rtab .any (opsOf Try.f9 22) = laws_FnSorted.T22 := by kernel_rfl
theorem laws_FnSorted.bits22 : waitsOk laws_FnSorted.T22.2 laws_FnSorted.B22 = true := by kernel_rfl
set_option maxHeartbeats 8000000 in
set_option maxRecDepth 100000 in
theorem laws_FnSorted.calls (k : Nat) (A0 : Option Addr) (c0 : Nat) (l0 : List Int) (A1 : Option Addr) (c1 : Nat) (l1 : List Int) (r : Bool) (w : World) (hr0 : Kd.C (Kd.int .u8) w A0 l0.length l0) (hc0 : l0.length ≤ c0) (hr1 : Kd.C (Kd.int .u8) w A1 l1.length l1) (hc1 : l1.length ≤ c1) (h : laws_FnSorted.f k l0 l1 = some r) :
  Calls Try.prog 9 #[.slice A0 l0.length c0, .slice A1 l1.length c1] w fun e w' => e = .returned (.bool r) ∧ Below w.heap.size w w' := by
 have hu54 := Try.underlying54
 have HR0 := Aside0.mk hr0
 have HC0 := Aside0.mk hc0
 clear hr0 hc0
 have HR1 := Aside0.mk hr1
 have HC1 := Aside0.mk hc1
 clear hr1 hc1
 have HB := Aside0.mk (Below.refl w.heap.size w)
 have H : ((laws_r8Long.f l0 l1).bind fun t217 => (if t217 = true then (some true) else ((spec_R8Bits.f l0).bind fun t218 => ((spec_R8Lanes.f l1).bind fun t219 => ((spec_R8Vector.f k l0 t218 t219).bind fun t220 => ((impl_SortLanes.f k t218 t220).bind fun bt223 => ((impl_SortSteps.f k t219).bind fun bt227 => ((impl_LeastLane.f k t218 t220).bind fun bt231 => (if bt223.2 = true then (if bt227.2 = true then (if bt231.2 = true then (if (bt223.1.length : Int) = (t220.length : Int) then (if bt231.1 < 0 then (laws_FnSorted.j0 k t218 t220 bt223.1 bt227.1 bt231.1 true) else (if bt231.1 ≥ t219 then (laws_FnSorted.j0 k t218 t220 bt223.1 bt227.1 bt231.1 true) else (if 0 ≤ bt231.1 then (if bt231.1 < (t220.length : Int) then (if 0 < (bt223.1.length : Int) then (laws_FnSorted.j0 k t218 t220 bt223.1 bt227.1 bt231.1 ((rd t220 bt231.1) != (rd bt223.1 0))) else (none)) else (none)) else (none)))) else (laws_FnSorted.j0 k t218 t220 bt223.1 bt227.1 bt231.1 true)) else (laws_FnSorted.j0 k t218 t220 bt223.1 bt227.1 bt231.1 true)) else (laws_FnSorted.j0 k t218 t220 bt223.1 bt227.1 bt231.1 true)) else (laws_FnSorted.j0 k t218 t220 bt223.1 bt227.1 bt231.1 true)))))))))) = some r := h
 clear h
 replace H := Option.bind_eq_some_iff.mp H
 obtain ⟨t217, A30, H⟩ := H
 replace H : (if t217 = true then (some true) else ((spec_R8Bits.f l0).bind fun t218 => ((spec_R8Lanes.f l1).bind fun t219 => ((spec_R8Vector.f k l0 t218 t219).bind fun t220 => ((impl_SortLanes.f k t218 t220).bind fun bt223 => ((impl_SortSteps.f k t219).bind fun bt227 => ((impl_LeastLane.f k t218 t220).bind fun bt231 => (if bt223.2 = true then (if bt227.2 = true then (if bt231.2 = true then (if (bt223.1.length : Int) = (t220.length : Int) then (if bt231.1 < 0 then (laws_FnSorted.j0 k t218 t220 bt223.1 bt227.1 bt231.1 true) else (if bt231.1 ≥ t219 then (laws_FnSorted.j0 k t218 t220 bt223.1 bt227.1 bt231.1 true) else (if 0 ≤ bt231.1 then (if bt231.1 < (t220.length : Int) then (if 0 < (bt223.1.length : Int) then (laws_FnSorted.j0 k t218 t220 bt223.1 bt227.1 bt231.1 ((rd t220 bt231.1) != (rd bt223.1 0))) else (none)) else (none)) else (none)))) else (laws_FnSorted.j0 k t218 t220 bt223.1 bt227.1 bt231.1 true)) else (laws_FnSorted.j0 k t218 t220 bt223.1 bt227.1 bt231.1 true)) else (laws_FnSorted.j0 k t218 t220 bt223.1 bt227.1 bt231.1 true)) else (laws_FnSorted.j0 k t218 t220 bt223.1 bt227.1 bt231.1 true))))))))) = some r := H
 have A3 := Aside0.mk A30
 clear A30
 by_cases c4 : t217 = true
 ·subst c4
  have H1 : (some true) = some r := by rw [if_pos rfl] at H; exact H
  clear H
  have H := H1
  clear H1
  obtain rfl := Option.some.inj H
  go_enter Try.func9, Try.ntmps9
  go_wp2_with (first | ((with_reducible refine gate_callee (f := 33) rfl ?_); refine goesL_ (some 21) rfl rfl Try.func33 (by kernel_rfl) rfl #[.slice A0 l0.length c0, .slice A1 l1.length c1] rfl (by (try simp only [List.map_toArray, List.map_cons, List.map_nil]); first | done | rfl | (simp only [List.length_drop, List.length_take]; rfl)) ?_; (with_reducible refine (laws_r8Long.calls _ _ l0 _ _ l1 true _ ?side1 ?side2 ?side3 ?side4 A3.out).mono ?_); (case side1 => repeat (first | exact HR0.out | (with_reducible refine Kd.C_alloc ?_ _) | (with_reducible refine Kd.C_drewN ?_ _) | (with_reducible refine Kd.C_drew ?_))); (case side2 => exact HC0.out); (case side3 => repeat (first | exact HR1.out | (with_reducible refine Kd.C_alloc ?_ _) | (with_reducible refine Kd.C_drewN ?_ _) | (with_reducible refine Kd.C_drew ?_))); (case side4 => exact HC1.out); rintro e w' ⟨rfl, ⟨nd, rfl⟩⟩; refine ⟨_, rfl, ?_⟩))
  go_ret
  exact ⟨by first | rfl | (simp [errW_none, errW_some] <;> rfl) | (simp [*, errW_none, errW_some] <;> rfl), by repeat (first | (with_reducible first | exact HB.out | apply below_alloc | apply pw_below_drewN | apply below_drew1) | exact HB.out)⟩
 ·replace c4 := Bool.eq_false_iff.mpr c4
  subst c4
  have H1 : ((spec_R8Bits.f l0).bind fun t218 => ((spec_R8Lanes.f l1).bind fun t219 => ((spec_R8Vector.f k l0 t218 t219).bind fun t220 => ((impl_SortLanes.f k t218 t220).bind fun bt223 => ((impl_SortSteps.f k t219).bind fun bt227 => ((impl_LeastLane.f k t218 t220).bind fun bt231 => (if bt223.2 = true then (if bt227.2 = true then (if bt231.2 = true then (if (bt223.1.length : Int) = (t220.length : Int) then (if bt231.1 < 0 then (laws_FnSorted.j0 k t218 t220 bt223.1 bt227.1 bt231.1 true) else (if bt231.1 ≥ t219 then (laws_FnSorted.j0 k t218 t220 bt223.1 bt227.1 bt231.1 true) else (if 0 ≤ bt231.1 then (if bt231.1 < (t220.length : Int) then (if 0 < (bt223.1.length : Int) then (laws_FnSorted.j0 k t218 t220 bt223.1 bt227.1 bt231.1 ((rd t220 bt231.1) != (rd bt223.1 0))) else (none)) else (none)) else (none)))) else (laws_FnSorted.j0 k t218 t220 bt223.1 bt227.1 bt231.1 true)) else (laws_FnSorted.j0 k t218 t220 bt223.1 bt227.1 bt231.1 true)) else (laws_FnSorted.j0 k t218 t220 bt223.1 bt227.1 bt231.1 true)) else (laws_FnSorted.j0 k t218 t220 bt223.1 bt227.1 bt231.1 true)))))))) = some r := by rw [if_neg (show ¬ (false = true) by decide)] at H; exact H
  clear H
  have H := H1
  clear H1
  replace H := Option.bind_eq_some_iff.mp H
  obtain ⟨t218, A50, H⟩ := H
  replace H : ((spec_R8Lanes.f l1).bind fun t219 => ((spec_R8Vector.f k l0 t218 t219).bind fun t220 => ((impl_SortLanes.f k t218 t220).bind fun bt223 => ((impl_SortSteps.f k t219).bind fun bt227 => ((impl_LeastLane.f k t218 t220).bind fun bt231 => (if bt223.2 = true then (if bt227.2 = true then (if bt231.2 = true then (if (bt223.1.length : Int) = (t220.length : Int) then (if bt231.1 < 0 then (laws_FnSorted.j0 k t218 t220 bt223.1 bt227.1 bt231.1 true) else (if bt231.1 ≥ t219 then (laws_FnSorted.j0 k t218 t220 bt223.1 bt227.1 bt231.1 true) else (if 0 ≤ bt231.1 then (if bt231.1 < (t220.length : Int) then (if 0 < (bt223.1.length : Int) then (laws_FnSorted.j0 k t218 t220 bt223.1 bt227.1 bt231.1 ((rd t220 bt231.1) != (rd bt223.1 0))) else (none)) else (none)) else (none)))) else (laws_FnSorted.j0 k t218 t220 bt223.1 bt227.1 bt231.1 true)) else (laws_FnSorted.j0 k t218 t220 bt223.1 bt227.1 bt231.1 true)) else (laws_FnSorted.j0 k t218 t220 bt223.1 bt227.1 bt231.1 true)) else (laws_FnSorted.j0 k t218 t220 bt223.1 bt227.1 bt231.1 true))))))) = some r := H
  have A5 := Aside0.mk A50
  clear A50
  replace H := Option.bind_eq_some_iff.mp H
  obtain ⟨t219, A60, H⟩ := H
  replace H : ((spec_R8Vector.f k l0 t218 t219).bind fun t220 => ((impl_SortLanes.f k t218 t220).bind fun bt223 => ((impl_SortSteps.f k t219).bind fun bt227 => ((impl_LeastLane.f k t218 t220).bind fun bt231 => (if bt223.2 = true then (if bt227.2 = true then (if bt231.2 = true then (if (bt223.1.length : Int) = (t220.length : Int) then (if bt231.1 < 0 then (laws_FnSorted.j0 k t218 t220 bt223.1 bt227.1 bt231.1 true) else (if bt231.1 ≥ t219 then (laws_FnSorted.j0 k t218 t220 bt223.1 bt227.1 bt231.1 true) else (if 0 ≤ bt231.1 then (if bt231.1 < (t220.length : Int) then (if 0 < (bt223.1.length : Int) then (laws_FnSorted.j0 k t218 t220 bt223.1 bt227.1 bt231.1 ((rd t220 bt231.1) != (rd bt223.1 0))) else (none)) else (none)) else (none)))) else (laws_FnSorted.j0 k t218 t220 bt223.1 bt227.1 bt231.1 true)) else (laws_FnSorted.j0 k t218 t220 bt223.1 bt227.1 bt231.1 true)) else (laws_FnSorted.j0 k t218 t220 bt223.1 bt227.1 bt231.1 true)) else (laws_FnSorted.j0 k t218 t220 bt223.1 bt227.1 bt231.1 true)))))) = some r := H
  have A6 := Aside0.mk A60
  clear A60
  replace H := Option.bind_eq_some_iff.mp H
  obtain ⟨t220, A70, H⟩ := H
  replace H : ((impl_SortLanes.f k t218 t220).bind fun bt223 => ((impl_SortSteps.f k t219).bind fun bt227 => ((impl_LeastLane.f k t218 t220).bind fun bt231 => (if bt223.2 = true then (if bt227.2 = true then (if bt231.2 = true then (if (bt223.1.length : Int) = (t220.length : Int) then (if bt231.1 < 0 then (laws_FnSorted.j0 k t218 t220 bt223.1 bt227.1 bt231.1 true) else (if bt231.1 ≥ t219 then (laws_FnSorted.j0 k t218 t220 bt223.1 bt227.1 bt231.1 true) else (if 0 ≤ bt231.1 then (if bt231.1 < (t220.length : Int) then (if 0 < (bt223.1.length : Int) then (laws_FnSorted.j0 k t218 t220 bt223.1 bt227.1 bt231.1 ((rd t220 bt231.1) != (rd bt223.1 0))) else (none)) else (none)) else (none)))) else (laws_FnSorted.j0 k t218 t220 bt223.1 bt227.1 bt231.1 true)) else (laws_FnSorted.j0 k t218 t220 bt223.1 bt227.1 bt231.1 true)) else (laws_FnSorted.j0 k t218 t220 bt223.1 bt227.1 bt231.1 true)) else (laws_FnSorted.j0 k t218 t220 bt223.1 bt227.1 bt231.1 true))))) = some r := H
  have A7 := Aside0.mk A70
  clear A70
  replace H := Option.bind_eq_some_iff.mp H
  obtain ⟨⟨t223, t224⟩, A80, H⟩ := H
  replace H : ((impl_SortSteps.f k t219).bind fun bt227 => ((impl_LeastLane.f k t218 t220).bind fun bt231 => (if t224 = true then (if bt227.2 = true then (if bt231.2 = true then (if (t223.length : Int) = (t220.length : Int) then (if bt231.1 < 0 then (laws_FnSorted.j0 k t218 t220 t223 bt227.1 bt231.1 true) else (if bt231.1 ≥ t219 then (laws_FnSorted.j0 k t218 t220 t223 bt227.1 bt231.1 true) else (if 0 ≤ bt231.1 then (if bt231.1 < (t220.length : Int) then (if 0 < (t223.length : Int) then (laws_FnSorted.j0 k t218 t220 t223 bt227.1 bt231.1 ((rd t220 bt231.1) != (rd t223 0))) else (none)) else (none)) else (none)))) else (laws_FnSorted.j0 k t218 t220 t223 bt227.1 bt231.1 true)) else (laws_FnSorted.j0 k t218 t220 t223 bt227.1 bt231.1 true)) else (laws_FnSorted.j0 k t218 t220 t223 bt227.1 bt231.1 true)) else (laws_FnSorted.j0 k t218 t220 t223 bt227.1 bt231.1 true)))) = some r := H
  have A8 := Aside0.mk A80
  clear A80
  replace H := Option.bind_eq_some_iff.mp H
  obtain ⟨⟨t227, t228⟩, A90, H⟩ := H
  replace H : ((impl_LeastLane.f k t218 t220).bind fun bt231 => (if t224 = true then (if t228 = true then (if bt231.2 = true then (if (t223.length : Int) = (t220.length : Int) then (if bt231.1 < 0 then (laws_FnSorted.j0 k t218 t220 t223 t227 bt231.1 true) else (if bt231.1 ≥ t219 then (laws_FnSorted.j0 k t218 t220 t223 t227 bt231.1 true) else (if 0 ≤ bt231.1 then (if bt231.1 < (t220.length : Int) then (if 0 < (t223.length : Int) then (laws_FnSorted.j0 k t218 t220 t223 t227 bt231.1 ((rd t220 bt231.1) != (rd t223 0))) else (none)) else (none)) else (none)))) else (laws_FnSorted.j0 k t218 t220 t223 t227 bt231.1 true)) else (laws_FnSorted.j0 k t218 t220 t223 t227 bt231.1 true)) else (laws_FnSorted.j0 k t218 t220 t223 t227 bt231.1 true)) else (laws_FnSorted.j0 k t218 t220 t223 t227 bt231.1 true))) = some r := H
  have A9 := Aside0.mk A90
  clear A90
  replace H := Option.bind_eq_some_iff.mp H
  obtain ⟨⟨t231, t232⟩, A100, H⟩ := H
  replace H : (if t224 = true then (if t228 = true then (if t232 = true then (if (t223.length : Int) = (t220.length : Int) then (if t231 < 0 then (laws_FnSorted.j0 k t218 t220 t223 t227 t231 true) else (if t231 ≥ t219 then (laws_FnSorted.j0 k t218 t220 t223 t227 t231 true) else (if 0 ≤ t231 then (if t231 < (t220.length : Int) then (if 0 < (t223.length : Int) then (laws_FnSorted.j0 k t218 t220 t223 t227 t231 ((rd t220 t231) != (rd t223 0))) else (none)) else (none)) else (none)))) else (laws_FnSorted.j0 k t218 t220 t223 t227 t231 true)) else (laws_FnSorted.j0 k t218 t220 t223 t227 t231 true)) else (laws_FnSorted.j0 k t218 t220 t223 t227 t231 true)) else (laws_FnSorted.j0 k t218 t220 t223 t227 t231 true)) = some r := H
  have A10 := Aside0.mk A100
  clear A100
  have HC11 := Aside0.mk H
  clear H
  go_enter Try.func9, Try.ntmps9
  go_upto_region 9 with (first | ((with_reducible refine gate_callee (f := 33) rfl ?_); refine goesL_ (some 21) rfl rfl Try.func33 (by kernel_rfl) rfl #[.slice A0 l0.length c0, .slice A1 l1.length c1] rfl (by (try simp only [List.map_toArray, List.map_cons, List.map_nil]); first | done | rfl | (simp only [List.length_drop, List.length_take]; rfl)) ?_; (with_reducible refine (laws_r8Long.calls _ _ l0 _ _ l1 false _ ?side1 ?side2 ?side3 ?side4 A3.out).mono ?_); (case side1 => repeat (first | exact HR0.out | (with_reducible refine Kd.C_alloc ?_ _) | (with_reducible refine Kd.C_drewN ?_ _) | (with_reducible refine Kd.C_drew ?_))); (case side2 => exact HC0.out); (case side3 => repeat (first | exact HR1.out | (with_reducible refine Kd.C_alloc ?_ _) | (with_reducible refine Kd.C_drewN ?_ _) | (with_reducible refine Kd.C_drew ?_))); (case side4 => exact HC1.out); rintro e w' ⟨rfl, ⟨nd, rfl⟩⟩; refine ⟨_, rfl, ?_⟩) | ((with_reducible refine gate_callee (f := 34) rfl ?_); refine goesL_ (some 23) rfl rfl Try.func34 (by kernel_rfl) rfl #[.slice A0 l0.length c0] rfl (by (try simp only [List.map_toArray, List.map_cons, List.map_nil]); first | done | rfl | (simp only [List.length_drop, List.length_take]; rfl)) ?_; (with_reducible refine (spec_R8Bits.calls _ _ l0 t218 _ ?side1 ?side2 A5.out).mono ?_); (case side1 => repeat (first | exact HR0.out | (with_reducible refine Kd.C_alloc ?_ _) | (with_reducible refine Kd.C_drewN ?_ _) | (with_reducible refine Kd.C_drew ?_))); (case side2 => exact HC0.out); rintro e w12 ⟨rfl, hb⟩; refine ⟨_, rfl, ?_⟩; have n0_ := Aside0.mk (below_step (by repeat (first | (with_reducible first | exact HB.out | apply below_alloc | apply pw_below_drewN | apply below_drew1) | exact HB.out)) hb); clear HB; have HB := n0_; clear n0_; (try clear hb); (try clear hb2); (try clear hk); (try clear hi)) | ((with_reducible refine gate_callee (f := 35) rfl ?_); refine goesL_ (some 25) rfl rfl Try.func35 (by kernel_rfl) rfl #[.slice A1 l1.length c1] rfl (by (try simp only [List.map_toArray, List.map_cons, List.map_nil]); first | done | rfl | (simp only [List.length_drop, List.length_take]; rfl)) ?_; (with_reducible refine (spec_R8Lanes.calls _ _ l1 t219 _ ?side1 ?side2 A6.out).mono ?_); (case side1 => repeat (first | exact (Kd.C_below HR1.out HB.out) | (with_reducible refine Kd.C_alloc ?_ _) | (with_reducible refine Kd.C_drewN ?_ _) | (with_reducible refine Kd.C_drew ?_))); (case side2 => exact HC1.out); rintro e w13 ⟨rfl, hb⟩; refine ⟨_, rfl, ?_⟩; have n0_ := Aside0.mk (below_step (by repeat (first | (with_reducible first | exact HB.out | apply below_alloc | apply pw_below_drewN | apply below_drew1) | exact HB.out)) hb); clear HB; have HB := n0_; clear n0_; (try clear hb); (try clear hb2); (try clear hk); (try clear hi)) | ((with_reducible refine gate_callee (f := 36) rfl ?_); refine goesL_ (some 29) rfl rfl Try.func36 (by kernel_rfl) rfl #[.slice A0 l0.length c0, .int .i64 t218, .int .i64 t219] rfl (by (try simp only [List.map_toArray, List.map_cons, List.map_nil]); first | done | rfl | (simp only [List.length_drop, List.length_take]; rfl)) ?_; (with_reducible refine (spec_R8Vector.calls k _ _ l0 t218 t219 t220 _ ?side1 ?side2 A7.out).mono ?_); (case side1 => repeat (first | exact (Kd.C_below HR0.out HB.out) | (with_reducible refine Kd.C_alloc ?_ _) | (with_reducible refine Kd.C_drewN ?_ _) | (with_reducible refine Kd.C_drew ?_))); (case side2 => exact HC0.out); rintro e w14 ⟨v221, rfl, ho0, hb⟩; refine ⟨_, rfl, ?_⟩; have n0_ := Aside0.mk (Kd.R_lower ho0 (below_size (by repeat (first | (with_reducible first | exact HB.out | apply below_alloc | apply pw_below_drewN | apply below_drew1) | exact HB.out)))); have n1_ := Aside0.mk (below_step (by repeat (first | (with_reducible first | exact HB.out | apply below_alloc | apply pw_below_drewN | apply below_drew1) | exact HB.out)) hb); clear HB; have HO222 := n0_; have HB := n1_; clear n0_ n1_; (try clear hb); (try clear hb2); (try clear hk); (try clear hi); (try clear ho0); obtain ⟨Ao15, co15, eo15⟩ := Kd.R_slice HO222.out; subst eo15) | ((with_reducible refine gate_callee (f := 29) rfl ?_); refine goesL_ (some 33) rfl rfl Try.func29 (by kernel_rfl) rfl #[.int .i64 t218, .slice Ao15 t220.length co15] rfl (by (try simp only [List.map_toArray, List.map_cons, List.map_nil]); first | done | rfl | (simp only [List.length_drop, List.length_take]; rfl)) ?_; (with_reducible refine (impl_SortLanes.calls k t218 _ _ t220 t223 t224 _ ?side1 ?side2 A8.out).mono ?_); (case side1 => repeat (first | exact (Kd.R_reads' HO222.out).2.2 | (with_reducible refine Kd.C_alloc ?_ _) | (with_reducible refine Kd.C_drewN ?_ _) | (with_reducible refine Kd.C_drew ?_))); (case side2 => exact (Kd.R_reads' HO222.out).2.1); rintro e w16 ⟨v225, rfl, ho0, hb⟩; refine ⟨_, rfl, ?_⟩; have n0_ := Aside0.mk (Kd.R_elder' (by (with_reducible repeat (first | apply Kd.R_alloc | apply Kd.R_drewN | apply Kd.R_drew)); exact HO222.out) (Kd.R_base ho0) hb); have n1_ := Aside0.mk (Kd.R_lower (Kd.R_new' ho0 (Kd.R_lt (by (with_reducible repeat (first | apply Kd.R_alloc | apply Kd.R_drewN | apply Kd.R_drew)); exact HO222.out))) (below_size (by repeat (first | (with_reducible first | exact HB.out | apply below_alloc | apply pw_below_drewN | apply below_drew1) | exact HB.out)))); have n2_ := Aside0.mk (below_step (by repeat (first | (with_reducible first | exact HB.out | apply below_alloc | apply pw_below_drewN | apply below_drew1) | exact HB.out)) hb); clear HO222; clear HB; have HO222 := n0_; have HO226 := n1_; have HB := n2_; clear n0_ n1_ n2_; (try clear hb); (try clear hb2); (try clear hk); (try clear hi); (try clear ho0)) | ((with_reducible refine gate_callee (f := 44) rfl ?_); refine goesL_ (some 38) rfl rfl Try.func44 (by kernel_rfl) rfl #[.int .i64 t219] rfl (by (try simp only [List.map_toArray, List.map_cons, List.map_nil]); first | done | rfl | (simp only [List.length_drop, List.length_take]; rfl)) ?_; (with_reducible refine (impl_SortSteps.calls k t219 t227 t228 _ A9.out).mono ?_); rintro e w17 ⟨v229, rfl, ho0, hb⟩; refine ⟨_, rfl, ?_⟩; have n0_ := Aside0.mk (Kd.R_below (by (with_reducible repeat (first | apply Kd.R_alloc | apply Kd.R_drewN | apply Kd.R_drew)); exact HO222.out) hb); have n1_ := Aside0.mk (Kd.R_below (by (with_reducible repeat (first | apply Kd.R_alloc | apply Kd.R_drewN | apply Kd.R_drew)); exact HO226.out) hb); have n2_ := Aside0.mk (Kd.R_lower ho0 (below_size (by repeat (first | (with_reducible first | exact HB.out | apply below_alloc | apply pw_below_drewN | apply below_drew1) | exact HB.out)))); have n3_ := Aside0.mk (below_step (by repeat (first | (with_reducible first | exact HB.out | apply below_alloc | apply pw_below_drewN | apply below_drew1) | exact HB.out)) hb); clear HO222; clear HO226; clear HB; have HO222 := n0_; have HO226 := n1_; have HO230 := n2_; have HB := n3_; clear n0_ n1_ n2_ n3_; (try clear hb); (try clear hb2); (try clear hk); (try clear hi); (try clear ho0)) | ((with_reducible refine gate_callee (f := 45) rfl ?_); refine goesL_ (some 44) rfl rfl Try.func45 (by kernel_rfl) rfl #[.int .i64 t218, .slice Ao15 t220.length co15] rfl (by (try simp only [List.map_toArray, List.map_cons, List.map_nil]); first | done | rfl | (simp only [List.length_drop, List.length_take]; rfl)) ?_; (with_reducible refine (impl_LeastLane.calls k t218 _ _ t220 t231 t232 _ ?side1 ?side2 A10.out).mono ?_); (case side1 => repeat (first | exact (Kd.R_reads' HO222.out).2.2 | (with_reducible refine Kd.C_alloc ?_ _) | (with_reducible refine Kd.C_drewN ?_ _) | (with_reducible refine Kd.C_drew ?_))); (case side2 => exact (Kd.R_reads' HO222.out).2.1); rintro e w18 ⟨rfl, hb⟩; refine ⟨_, rfl, ?_⟩; have n0_ := Aside0.mk (Kd.R_below (by (with_reducible repeat (first | apply Kd.R_alloc | apply Kd.R_drewN | apply Kd.R_drew)); exact HO222.out) hb); have n1_ := Aside0.mk (Kd.R_below (by (with_reducible repeat (first | apply Kd.R_alloc | apply Kd.R_drewN | apply Kd.R_drew)); exact HO226.out) hb); have n2_ := Aside0.mk (Kd.R_below (by (with_reducible repeat (first | apply Kd.R_alloc | apply Kd.R_drewN | apply Kd.R_drew)); exact HO230.out) hb); have n3_ := Aside0.mk (below_step (by repeat (first | (with_reducible first | exact HB.out | apply below_alloc | apply pw_below_drewN | apply below_drew1) | exact HB.out)) hb); clear HO222; clear HO226; clear HO230; clear HB; have HO222 := n0_; have HO226 := n1_; have HO230 := n2_; have HB := n3_; clear n0_ n1_ n2_ n3_; (try clear hb); (try clear hb2); (try clear hk); (try clear hi)))
  (try simp only [Act.put, List.setIfInBounds_toArray, List.set_cons_zero, List.set_cons_succ])
  go_cut [82] (fun v82 wc => ∃ (kq : Nat) (x82_10 : Bool), v82 = .bool x82_10 ∧ Aside0 (laws_FnSorted.j0 kq t218 t220 t223 t227 t231 x82_10 = some r) ∧ Aside0 (kq ≤ k) ∧ Aside0 (Kd.R (Kd.int .i64) 2 wc w.heap.size (fun k_ => some k_ ≠ (v225 : Value).ownBlock) (.slice Ao15 t220.length co15) t220) ∧ Aside0 (Kd.R (Kd.int .i64) 2 wc w.heap.size (fun k_ => some k_ ≠ ((.slice Ao15 t220.length co15) : Value).ownBlock) v225 t223) ∧ Aside0 (Kd.R k54 54 wc w.heap.size (fun _ => True) v229 t227) ∧ Aside0 (Below w.heap.size w wc))
  case first =>
   have H := HC11.out
   clear HC11
   by_cases c19 : t224 = true
   ·subst c19
    have H1 : (if t228 = true then (if t232 = true then (if (t223.length : Int) = (t220.length : Int) then (if t231 < 0 then (laws_FnSorted.j0 k t218 t220 t223 t227 t231 true) else (if t231 ≥ t219 then (laws_FnSorted.j0 k t218 t220 t223 t227 t231 true) else (if 0 ≤ t231 then (if t231 < (t220.length : Int) then (if 0 < (t223.length : Int) then (laws_FnSorted.j0 k t218 t220 t223 t227 t231 ((rd t220 t231) != (rd t223 0))) else (none)) else (none)) else (none)))) else (laws_FnSorted.j0 k t218 t220 t223 t227 t231 true)) else (laws_FnSorted.j0 k t218 t220 t223 t227 t231 true)) else (laws_FnSorted.j0 k t218 t220 t223 t227 t231 true)) = some r := by rw [if_pos rfl] at H; exact H
    clear H
    have H := H1
    clear H1
    by_cases c20 : t228 = true
    ·subst c20
     have H1 : (if t232 = true then (if (t223.length : Int) = (t220.length : Int) then (if t231 < 0 then (laws_FnSorted.j0 k t218 t220 t223 t227 t231 true) else (if t231 ≥ t219 then (laws_FnSorted.j0 k t218 t220 t223 t227 t231 true) else (if 0 ≤ t231 then (if t231 < (t220.length : Int) then (if 0 < (t223.length : Int) then (laws_FnSorted.j0 k t218 t220 t223 t227 t231 ((rd t220 t231) != (rd t223 0))) else (none)) else (none)) else (none)))) else (laws_FnSorted.j0 k t218 t220 t223 t227 t231 true)) else (laws_FnSorted.j0 k t218 t220 t223 t227 t231 true)) = some r := by rw [if_pos rfl] at H; exact H
     clear H
     have H := H1
     clear H1
     by_cases c21 : t232 = true
     ·subst c21
      have H1 : (if (t223.length : Int) = (t220.length : Int) then (if t231 < 0 then (laws_FnSorted.j0 k t218 t220 t223 t227 t231 true) else (if t231 ≥ t219 then (laws_FnSorted.j0 k t218 t220 t223 t227 t231 true) else (if 0 ≤ t231 then (if t231 < (t220.length : Int) then (if 0 < (t223.length : Int) then (laws_FnSorted.j0 k t218 t220 t223 t227 t231 ((rd t220 t231) != (rd t223 0))) else (none)) else (none)) else (none)))) else (laws_FnSorted.j0 k t218 t220 t223 t227 t231 true)) = some r := by rw [if_pos rfl] at H; exact H
      clear H
      have H := H1
      clear H1
      by_cases c22 : (t223.length : Int) = (t220.length : Int)
      ·rw [if_pos c22] at H
       have c22b0 : ((t223.length : Int) == (t220.length : Int)) = true := beq_iff_eq.mpr c22
       have c22b1 : ((t223.length : Int) != (t220.length : Int)) = false := bne_eq_false_iff_eq.mpr c22
       have c22b2 : (t223.length == t220.length) = true := by first | simpa using c22 | (simp at c22 ⊢; omega)
       clear c22
       (first | rw [c22b0] | (simp only [i64_w, i32_w]; rw [c22b0]) | skip)
       by_cases c23 : t231 < 0
       ·rw [if_pos c23] at H
        have c23b0 : decide (t231 < 0) = true := decide_eq_true c23
        clear c23
        as_aux_lemma =>
         have H' := Aside0.mk H
         clear H
         try go_wp2
         have n0_ := Aside0.mk (Kd.R_drew HO222.out)
         have n1_ := Aside0.mk (Kd.R_drew HO226.out)
         have n2_ := Aside0.mk (Kd.R_drew HO230.out)
         have n3_ := Aside0.mk (below_drew1 HB.out)
         clear HO222
         clear HO226
         clear HO230
         clear HB
         have HO222 := n0_
         have HO226 := n1_
         have HO230 := n2_
         have HB := n3_
         clear n0_ n1_ n2_ n3_
         obtain ⟨Ao25, co25, eo25⟩ := Kd.R_slice HO226.out
         (first | subst eo25 | (injection eo25 with f1_ f2_ f3_; have f4_ := f1_.symm; have f5_ := f3_.symm; clear f1_ f2_ f3_; subst f4_; subst f5_))
         refine start_ (n := 36) (S := fun w' => True) (ds := []) (z9.bm 36 0) (by kernel_rfl) rfl rfl trivial (fun hHeld => ?_); refine with_tabW laws_FnSorted.tab9 laws_FnSorted.bits9 (fun HT_ HW_ => ?_)
         generalize w18.drew = w24 at HO222 HO226 HO230 HB hHeld ⊢
         refine z9.pa (i := 0) (N := some 47) (z9.bm 36 1) HT_.out ?_
         refine z9.pa (i := 1) (N := some 48) (z9.bm 36 3) HT_.out ?_
         refine z9.pa (i := 2) (N := some 49) (z9.bm 36 7) HT_.out ?_
         refine z9.pa (i := 3) (N := some 50) (z9.bm 36 15) HT_.out ?_
         refine z9.pa (i := 4) (N := some 51) (z9.bm 36 31) HT_.out ?_
         refine z9.pa (i := 5) (N := some 52) (z9.bm 36 63) HT_.out ?_
         refine z9.pa (i := 6) (N := some 53) (z9.bm 36 127) HT_.out ?_
         refine z9.pa (i := 7) (N := some 54) (z9.bm 36 255) HT_.out ?_
         refine z9.pa (i := 8) (N := some 55) (z9.bm 36 511) HT_.out ?_
         refine z9.pa (i := 9) (N := some 56) (z9.bm 36 1023) HT_.out ?_
         refine z9.pa (i := 10) (N := some 57) (z9.bm 36 2047) HT_.out ?_
         refine z9.pa (i := 11) (N := some 58) (z9.bm 36 4095) HT_.out ?_
         refine z9.pa (i := 12) (N := some 59) (z9.bm 36 8191) HT_.out ?_
         refine z9.pa (i := 13) (N := some 60) (z9.bm 36 16383) HT_.out ?_
         refine z9.pa (i := 14) (N := some 61) (z9.bm 36 32767) HT_.out ?_
         refine z9.pa (i := 15) (N := some 62) (z9.bm 36 65535) HT_.out ?_
         refine z9.pa (i := 16) (N := some 63) (z9.bm 36 131071) HT_.out ?_
         refine z9.pa (i := 17) (N := some 64) (z9.bm 36 262143) HT_.out ?_
         refine z9.pa (i := 18) (N := some 65) (z9.bm 36 524287) HT_.out ?_
         refine z9.pa (i := 19) (N := some 66) (z9.bm 36 1048575) HT_.out ?_
         refine z9.pa (i := 20) (N := some 67) (z9.bm 36 2097151) HT_.out ?_
         refine z9.pa (i := 21) (N := some 68) (z9.bm 36 4194303) HT_.out ?_
         refine pure_ (i := 22) (N := some 69) (v := undef) (a' := ?_) (z9.bm 36 8388607) rfl rfl (any_of HT_.out (by kernel_rfl)) (fun _ _ _ h => h) (Or.inr ⟨by rfl, rfl⟩) ?_ ?_
         rotate_left
         ·simp only [Act.put, List.setIfInBounds_toArray, List.set_cons_zero, List.set_cons_succ, i64_w, i32_w]
          rfl
         refine pure_ (i := 23) (N := some 70) (v := undef) (a' := ?_) (z9.bm 36 16777215) rfl rfl (any_of HT_.out (by kernel_rfl)) (fun _ _ _ h => h) (Or.inr ⟨by rfl, rfl⟩) ?_ ?_
         rotate_left
         ·simp only [Act.put, List.setIfInBounds_toArray, List.set_cons_zero, List.set_cons_succ, i64_w, i32_w]
          rfl
         refine pure_ (i := 24) (N := some 71) (v := undef) (a' := ?_) (z9.bm 36 33554431) rfl rfl (any_of HT_.out (by kernel_rfl)) (fun _ _ _ h => h) (Or.inr ⟨by rfl, rfl⟩) ?_ ?_
         rotate_left
         ·simp only [Act.put, List.setIfInBounds_toArray, List.set_cons_zero, List.set_cons_succ, i64_w, i32_w]
          rfl
         refine z9.pa (i := 25) (N := some 72) (z9.bm 36 67108863) HT_.out ?_
         refine z9.pa (i := 26) (N := some 73) (z9.bm 36 134217727) HT_.out ?_
         refine pure_ (i := 27) (N := some 74) (v := undef) (a' := ?_) (z9.bm 36 268435455) rfl rfl (any_of HT_.out (by kernel_rfl)) (fun _ _ _ h => h) (Or.inr ⟨by rfl, rfl⟩) ?_ ?_
         rotate_left
         ·simp only [Act.put, List.setIfInBounds_toArray, List.set_cons_zero, List.set_cons_succ, i64_w, i32_w]
          rfl
         refine pure_ (i := 28) (N := some 75) (v := undef) (a' := ?_) (z9.bm 36 536870911) rfl rfl (any_of HT_.out (by kernel_rfl)) (fun _ _ _ h => h) (Or.inr ⟨by rfl, rfl⟩) ?_ ?_
         rotate_left
         ·simp only [Act.put, List.setIfInBounds_toArray, List.set_cons_zero, List.set_cons_succ, i64_w, i32_w]
          rfl
         refine pure_ (i := 29) (N := some 76) (v := undef) (a' := ?_) (z9.bm 36 1073741823) rfl rfl (any_of HT_.out (by kernel_rfl)) (fun _ _ _ h => h) (Or.inr ⟨by rfl, rfl⟩) ?_ ?_
         rotate_left
         ·simp only [Act.put, List.setIfInBounds_toArray, List.set_cons_zero, List.set_cons_succ, i64_w, i32_w]
          rfl
         refine pure_ (i := 30) (N := some 77) (v := undef) (a' := ?_) (z9.bm 36 2147483647) rfl rfl (any_of HT_.out (by kernel_rfl)) (fun _ _ _ h => h) (Or.inr ⟨by rfl, rfl⟩) ?_ ?_
         rotate_left
         ·simp only [Act.put, List.setIfInBounds_toArray, List.set_cons_zero, List.set_cons_succ, i64_w, i32_w]
          rfl
         refine pure_ (i := 31) (N := some 78) (v := undef) (a' := ?_) (z9.bm 36 4294967295) rfl rfl (any_of HT_.out (by kernel_rfl)) (fun _ _ _ h => h) (Or.inr ⟨by rfl, rfl⟩) ?_ ?_
         rotate_left
         ·simp only [Act.put, List.setIfInBounds_toArray, List.set_cons_zero, List.set_cons_succ, i64_w, i32_w]
          rfl
         refine pure_ (i := 32) (N := some 79) (v := undef) (a' := ?_) (z9.bm 36 8589934591) rfl rfl (any_of HT_.out (by kernel_rfl)) (fun _ _ _ h => h) (Or.inr ⟨by rfl, rfl⟩) ?_ ?_
         rotate_left
         ·simp only [Act.put, List.setIfInBounds_toArray, List.set_cons_zero, List.set_cons_succ, i64_w, i32_w]
          rfl
         refine pure_ (i := 33) (N := some 80) (v := undef) (a' := ?_) (z9.bm 36 17179869183) rfl rfl (any_of HT_.out (by kernel_rfl)) (fun _ _ _ h => h) (Or.inr ⟨by rfl, rfl⟩) ?_ ?_
         rotate_left
         ·simp only [Act.put, List.setIfInBounds_toArray, List.set_cons_zero, List.set_cons_succ, i64_w, i32_w]
          rfl
         refine pure_ (i := 34) (N := some 81) (v := undef) (a' := ?_) (z9.bm 36 34359738367) rfl rfl (any_of HT_.out (by kernel_rfl)) (fun _ _ _ h => h) (Or.inr ⟨by rfl, rfl⟩) ?_ ?_
         rotate_left
         ·simp only [Act.put, List.setIfInBounds_toArray, List.set_cons_zero, List.set_cons_succ, i64_w, i32_w]
          rfl
         refine z9.pa (i := 35) (N := some 82) (z9.bm 36 68719476735) HT_.out ?_
         refine done_ (done_of HT_.out (by kernel_rfl)) ?_
         try go_wp2
         go_meet
         case rel => exact ⟨_, (true), (by first | rfl | (simp; done) | (simp [*]; done)), H', ⟨by first | omega | exact Nat.le_refl _⟩, ⟨by (with_reducible repeat (first | apply Kd.R_alloc | apply Kd.R_drewN | apply Kd.R_drew)); exact Kd.R_mono HO222.out (fun _ hk => hk.2)⟩, ⟨by (with_reducible repeat (first | apply Kd.R_alloc | apply Kd.R_drewN | apply Kd.R_drew)); exact Kd.R_mono HO226.out (fun _ hk => hk.2)⟩, ⟨by (with_reducible repeat (first | apply Kd.R_alloc | apply Kd.R_drewN | apply Kd.R_drew)); exact HO230.out⟩, ⟨by repeat (first | (with_reducible first | exact HB.out | apply below_alloc | apply pw_below_drewN | apply below_drew1) | exact HB.out)⟩⟩
       ·rw [if_neg c23] at H
        have c23b0 : decide (t231 < 0) = false := decide_eq_false c23
        clear c23
        by_cases c26 : t231 ≥ t219
        ·rw [if_pos c26] at H
         have c26b0 : decide (t219 ≤ t231) = true := decide_eq_true c26
         clear c26
         as_aux_lemma =>
          have H' := Aside0.mk H
          clear H
          try go_wp2
          have n0_ := Aside0.mk (Kd.R_drew HO222.out)
          have n1_ := Aside0.mk (Kd.R_drew HO226.out)
          have n2_ := Aside0.mk (Kd.R_drew HO230.out)
          have n3_ := Aside0.mk (below_drew1 HB.out)
          clear HO222
          clear HO226
          clear HO230
          clear HB
          have HO222 := n0_
          have HO226 := n1_
          have HO230 := n2_
          have HB := n3_
          clear n0_ n1_ n2_ n3_
          obtain ⟨Ao28, co28, eo28⟩ := Kd.R_slice HO226.out
          (first | subst eo28 | (injection eo28 with f1_ f2_ f3_; have f4_ := f1_.symm; have f5_ := f3_.symm; clear f1_ f2_ f3_; subst f4_; subst f5_))
          refine start_ (n := 36) (S := fun w' => True) (ds := []) (z9.bm 36 0) (by kernel_rfl) rfl rfl trivial (fun hHeld => ?_); refine with_tabW laws_FnSorted.tab9 laws_FnSorted.bits9 (fun HT_ HW_ => ?_)
          generalize w18.drew = w27 at HO222 HO226 HO230 HB hHeld ⊢
          refine z9.pa (i := 0) (N := some 47) (z9.bm 36 1) HT_.out ?_
          refine z9.pa (i := 1) (N := some 48) (z9.bm 36 3) HT_.out ?_
          refine z9.pa (i := 2) (N := some 49) (z9.bm 36 7) HT_.out ?_
          refine z9.pa (i := 3) (N := some 50) (z9.bm 36 15) HT_.out ?_
          refine z9.pa (i := 4) (N := some 51) (z9.bm 36 31) HT_.out ?_
          refine z9.pa (i := 5) (N := some 52) (z9.bm 36 63) HT_.out ?_
          refine z9.pa (i := 6) (N := some 53) (z9.bm 36 127) HT_.out ?_
          refine z9.pa (i := 7) (N := some 54) (z9.bm 36 255) HT_.out ?_
          refine z9.pa (i := 8) (N := some 55) (z9.bm 36 511) HT_.out ?_
          refine z9.pa (i := 9) (N := some 56) (z9.bm 36 1023) HT_.out ?_
          refine z9.pa (i := 10) (N := some 57) (z9.bm 36 2047) HT_.out ?_
          refine z9.pa (i := 11) (N := some 58) (z9.bm 36 4095) HT_.out ?_
          refine z9.pa (i := 12) (N := some 59) (z9.bm 36 8191) HT_.out ?_
          refine z9.pa (i := 13) (N := some 60) (z9.bm 36 16383) HT_.out ?_
          refine z9.pa (i := 14) (N := some 61) (z9.bm 36 32767) HT_.out ?_
          refine z9.pa (i := 15) (N := some 62) (z9.bm 36 65535) HT_.out ?_
          refine z9.pa (i := 16) (N := some 63) (z9.bm 36 131071) HT_.out ?_
          refine z9.pa (i := 17) (N := some 64) (z9.bm 36 262143) HT_.out ?_
          refine z9.pa (i := 18) (N := some 65) (z9.bm 36 524287) HT_.out ?_
          refine z9.pa (i := 19) (N := some 66) (z9.bm 36 1048575) HT_.out ?_
          refine z9.pa (i := 20) (N := some 67) (z9.bm 36 2097151) HT_.out ?_
          refine z9.pa (i := 21) (N := some 68) (z9.bm 36 4194303) HT_.out ?_
          refine z9.pa (i := 22) (N := some 69) (z9.bm 36 8388607) HT_.out ?_
          refine z9.pa (i := 23) (N := some 70) (z9.bm 36 16777215) HT_.out ?_
          refine z9.pa (i := 24) (N := some 71) (z9.bm 36 33554431) HT_.out ?_
          refine z9.pa (i := 25) (N := some 72) (z9.bm 36 67108863) HT_.out ?_
          refine z9.pa (i := 26) (N := some 73) (z9.bm 36 134217727) HT_.out ?_
          refine pure_ (i := 27) (N := some 74) (v := undef) (a' := ?_) (z9.bm 36 268435455) rfl rfl (any_of HT_.out (by kernel_rfl)) (fun _ _ _ h => h) (Or.inr ⟨by rfl, rfl⟩) ?_ ?_
          rotate_left
          ·simp only [Act.put, List.setIfInBounds_toArray, List.set_cons_zero, List.set_cons_succ, i64_w, i32_w]
           rfl
          refine pure_ (i := 28) (N := some 75) (v := undef) (a' := ?_) (z9.bm 36 536870911) rfl rfl (any_of HT_.out (by kernel_rfl)) (fun _ _ _ h => h) (Or.inr ⟨by rfl, rfl⟩) ?_ ?_
          rotate_left
          ·simp only [Act.put, List.setIfInBounds_toArray, List.set_cons_zero, List.set_cons_succ, i64_w, i32_w]
           rfl
          refine pure_ (i := 29) (N := some 76) (v := undef) (a' := ?_) (z9.bm 36 1073741823) rfl rfl (any_of HT_.out (by kernel_rfl)) (fun _ _ _ h => h) (Or.inr ⟨by rfl, rfl⟩) ?_ ?_
          rotate_left
          ·simp only [Act.put, List.setIfInBounds_toArray, List.set_cons_zero, List.set_cons_succ, i64_w, i32_w]
           rfl
          refine pure_ (i := 30) (N := some 77) (v := undef) (a' := ?_) (z9.bm 36 2147483647) rfl rfl (any_of HT_.out (by kernel_rfl)) (fun _ _ _ h => h) (Or.inr ⟨by rfl, rfl⟩) ?_ ?_
          rotate_left
          ·simp only [Act.put, List.setIfInBounds_toArray, List.set_cons_zero, List.set_cons_succ, i64_w, i32_w]
           rfl
          refine pure_ (i := 31) (N := some 78) (v := undef) (a' := ?_) (z9.bm 36 4294967295) rfl rfl (any_of HT_.out (by kernel_rfl)) (fun _ _ _ h => h) (Or.inr ⟨by rfl, rfl⟩) ?_ ?_
          rotate_left
          ·simp only [Act.put, List.setIfInBounds_toArray, List.set_cons_zero, List.set_cons_succ, i64_w, i32_w]
           rfl
          refine pure_ (i := 32) (N := some 79) (v := undef) (a' := ?_) (z9.bm 36 8589934591) rfl rfl (any_of HT_.out (by kernel_rfl)) (fun _ _ _ h => h) (Or.inr ⟨by rfl, rfl⟩) ?_ ?_
          rotate_left
          ·simp only [Act.put, List.setIfInBounds_toArray, List.set_cons_zero, List.set_cons_succ, i64_w, i32_w]
           rfl
          refine pure_ (i := 33) (N := some 80) (v := undef) (a' := ?_) (z9.bm 36 17179869183) rfl rfl (any_of HT_.out (by kernel_rfl)) (fun _ _ _ h => h) (Or.inr ⟨by rfl, rfl⟩) ?_ ?_
          rotate_left
          ·simp only [Act.put, List.setIfInBounds_toArray, List.set_cons_zero, List.set_cons_succ, i64_w, i32_w]
           rfl
          refine pure_ (i := 34) (N := some 81) (v := undef) (a' := ?_) (z9.bm 36 34359738367) rfl rfl (any_of HT_.out (by kernel_rfl)) (fun _ _ _ h => h) (Or.inr ⟨by rfl, rfl⟩) ?_ ?_
          rotate_left
          ·simp only [Act.put, List.setIfInBounds_toArray, List.set_cons_zero, List.set_cons_succ, i64_w, i32_w]
           rfl
          refine z9.pa (i := 35) (N := some 82) (z9.bm 36 68719476735) HT_.out ?_
          refine done_ (done_of HT_.out (by kernel_rfl)) ?_
          try go_wp2
          go_meet
          case rel => exact ⟨_, (true), (by first | rfl | (simp; done) | (simp [*]; done)), H', ⟨by first | omega | exact Nat.le_refl _⟩, ⟨by (with_reducible repeat (first | apply Kd.R_alloc | apply Kd.R_drewN | apply Kd.R_drew)); exact Kd.R_mono HO222.out (fun _ hk => hk.2)⟩, ⟨by (with_reducible repeat (first | apply Kd.R_alloc | apply Kd.R_drewN | apply Kd.R_drew)); exact Kd.R_mono HO226.out (fun _ hk => hk.2)⟩, ⟨by (with_reducible repeat (first | apply Kd.R_alloc | apply Kd.R_drewN | apply Kd.R_drew)); exact HO230.out⟩, ⟨by repeat (first | (with_reducible first | exact HB.out | apply below_alloc | apply pw_below_drewN | apply below_drew1) | exact HB.out)⟩⟩
        ·rw [if_neg c26] at H
         have c26b0 : decide (t219 ≤ t231) = false := decide_eq_false c26
         clear c26
         by_cases c29 : 0 ≤ t231
         ·rw [if_pos c29] at H
          have c29b0 : decide (0 ≤ t231) = true := decide_eq_true c29
          clear c29
          by_cases c30 : t231 < (t220.length : Int)
          ·rw [if_pos c30] at H
           have c30b0 : decide (t231 < (t220.length : Int)) = true := decide_eq_true c30
           clear c30
           by_cases c31 : 0 < (t223.length : Int)
           ·rw [if_pos c31] at H
            have c31b0 : decide (0 < (t223.length : Int)) = true := decide_eq_true c31
            have c31b1 : decide (0 < t223.length) = true := decide_eq_true (by omega)
            clear c31
            as_aux_lemma =>
             have H' := Aside0.mk H
             clear H
             try go_wp2
             have n0_ := Aside0.mk (Kd.R_drew HO222.out)
             have n1_ := Aside0.mk (Kd.R_drew HO226.out)
             have n2_ := Aside0.mk (Kd.R_drew HO230.out)
             have n3_ := Aside0.mk (below_drew1 HB.out)
             clear HO222
             clear HO226
             clear HO230
             clear HB
             have HO222 := n0_
             have HO226 := n1_
             have HO230 := n2_
             have HB := n3_
             clear n0_ n1_ n2_ n3_
             obtain ⟨Ao33, co33, eo33⟩ := Kd.R_slice HO226.out
             (first | subst eo33 | (injection eo33 with f1_ f2_ f3_; have f4_ := f1_.symm; have f5_ := f3_.symm; clear f1_ f2_ f3_; subst f4_; subst f5_))
             have p233 : 0 ≤ (t231 : Int) := of_decide_eq_true (by first | (with_reducible assumption) | assumption)
             have q233 : t231 < (t220.length : Int) := of_decide_eq_true (by first | (with_reducible assumption) | assumption)
             obtain ⟨ad233, e233, hx233_0⟩ := Kd.at_int (Kd.R_reads' HO222.out).2.2 t231 p233 q233
             cases e233
             replace p233 := eq_true p233
             replace q233 := eq_true q233
             have p234 : 0 ≤ (0 : Int) := (by omega)
             have q234 : 0 < (t223.length : Int) := of_decide_eq_true (by first | (with_reducible assumption) | assumption)
             obtain ⟨ad234, e234, hx234_0⟩ := Kd.at_int (Kd.R_reads' HO226.out).2.2 0 p234 q234
             cases e234
             have qi234 : (0 < t223.length) = True := eq_true (by omega)
             (try rw [show ((0 : Int)).toNat = 0 from rfl] at hx234_0)
             (try rw [Addr.add_zero'] at hx234_0)
             replace p234 := eq_true p234
             replace q234 := eq_true q234
             refine start_ (n := 36) (S := fun w' => w'.cell? (ad233.add (t231).toNat) = some (.int .i64 (rd t220 t231)) ∧ w'.cell? ad234 = some (.int .i64 (rd t223 0))) (ds := []) (z9.bm 36 0) (by kernel_rfl) rfl rfl ⟨hx233_0, hx234_0⟩ (fun hHeld => ?_); refine with_tabW laws_FnSorted.tab9 laws_FnSorted.bits9 (fun HT_ HW_ => ?_)
             generalize w18.drew = w32 at HO222 HO226 HO230 HB hx233_0 hx234_0 hHeld ⊢
             refine z9.pa (i := 0) (N := some 47) (z9.bm 36 1) HT_.out ?_
             refine z9.pa (i := 1) (N := some 48) (z9.bm 36 3) HT_.out ?_
             refine z9.pa (i := 2) (N := some 49) (z9.bm 36 7) HT_.out ?_
             refine z9.pa (i := 3) (N := some 50) (z9.bm 36 15) HT_.out ?_
             refine z9.pa (i := 4) (N := some 51) (z9.bm 36 31) HT_.out ?_
             refine z9.pa (i := 5) (N := some 52) (z9.bm 36 63) HT_.out ?_
             refine z9.pa (i := 6) (N := some 53) (z9.bm 36 127) HT_.out ?_
             refine z9.pa (i := 7) (N := some 54) (z9.bm 36 255) HT_.out ?_
             refine z9.pa (i := 8) (N := some 55) (z9.bm 36 511) HT_.out ?_
             refine z9.pa (i := 9) (N := some 56) (z9.bm 36 1023) HT_.out ?_
             refine z9.pa (i := 10) (N := some 57) (z9.bm 36 2047) HT_.out ?_
             refine z9.pa (i := 11) (N := some 58) (z9.bm 36 4095) HT_.out ?_
             refine z9.pa (i := 12) (N := some 59) (z9.bm 36 8191) HT_.out ?_
             refine z9.pa (i := 13) (N := some 60) (z9.bm 36 16383) HT_.out ?_
             refine z9.pa (i := 14) (N := some 61) (z9.bm 36 32767) HT_.out ?_
             refine z9.pa (i := 15) (N := some 62) (z9.bm 36 65535) HT_.out ?_
             refine z9.pa (i := 16) (N := some 63) (z9.bm 36 131071) HT_.out ?_
             refine z9.pa (i := 17) (N := some 64) (z9.bm 36 262143) HT_.out ?_
             refine z9.pa (i := 18) (N := some 65) (z9.bm 36 524287) HT_.out ?_
             refine z9.pa (i := 19) (N := some 66) (z9.bm 36 1048575) HT_.out ?_
             refine z9.pa (i := 20) (N := some 67) (z9.bm 36 2097151) HT_.out ?_
             refine z9.pa (i := 21) (N := some 68) (z9.bm 36 4194303) HT_.out ?_
             refine z9.pa (i := 22) (N := some 69) (z9.bm 36 8388607) HT_.out ?_
             refine z9.pa (i := 23) (N := some 70) (z9.bm 36 16777215) HT_.out ?_
             refine z9.pa (i := 24) (N := some 71) (z9.bm 36 33554431) HT_.out ?_
             refine z9.pa (i := 25) (N := some 72) (z9.bm 36 67108863) HT_.out ?_
             refine z9.pa (i := 26) (N := some 73) (z9.bm 36 134217727) HT_.out ?_
             refine z9.pa (i := 27) (N := some 74) (z9.bm 36 268435455) HT_.out ?_
             refine z9.pa (i := 28) (N := some 75) (z9.bm 36 536870911) HT_.out ?_
             refine z9.pa (i := 29) (N := some 76) (z9.bm 36 1073741823) HT_.out ?_
             refine z9.pa (i := 31) (N := some 78) (z9.bm 36 3221225471) HT_.out ?_
             refine z9.pa (i := 32) (N := some 79) (z9.bm 36 7516192767) HT_.out ?_
             refine z9.ta (i := 30) (N := some 77) (z9.bm 36 8589934591) rfl (take_ofW HT_.out HW_.out (by kernel_rfl)) (Or.inl ⟨by rfl, by rintro w' ⟨s0, s1⟩; go_simp; with_reducible rfl⟩) hHeld ?_
             refine z9.ta (i := 33) (N := some 80) (z9.bm 36 17179869183) rfl (take_ofW HT_.out HW_.out (by kernel_rfl)) (Or.inl ⟨by rfl, by rintro w' ⟨s0, s1⟩; go_simp; with_reducible rfl⟩) hHeld ?_
             refine z9.pa (i := 34) (N := some 81) (z9.bm 36 34359738367) HT_.out ?_
             refine z9.pa (i := 35) (N := some 82) (z9.bm 36 68719476735) HT_.out ?_
             refine done_ (done_of HT_.out (by kernel_rfl)) ?_
             try go_wp2
             go_meet
             case rel => exact ⟨_, (((rd t220 t231) != (rd t223 0))), (by first | rfl | (simp; done) | (simp [*]; done)), H', ⟨by first | omega | exact Nat.le_refl _⟩, ⟨by (with_reducible repeat (first | apply Kd.R_alloc | apply Kd.R_drewN | apply Kd.R_drew)); exact Kd.R_mono HO222.out (fun _ hk => hk.2)⟩, ⟨by (with_reducible repeat (first | apply Kd.R_alloc | apply Kd.R_drewN | apply Kd.R_drew)); exact Kd.R_mono HO226.out (fun _ hk => hk.2)⟩, ⟨by (with_reducible repeat (first | apply Kd.R_alloc | apply Kd.R_drewN | apply Kd.R_drew)); exact HO230.out⟩, ⟨by repeat (first | (with_reducible first | exact HB.out | apply below_alloc | apply pw_below_drewN | apply below_drew1) | exact HB.out)⟩⟩
           ·rw [if_neg c31] at H
            exact absurd H (by simp)
          ·rw [if_neg c30] at H
           exact absurd H (by simp)
         ·rw [if_neg c29] at H
          exact absurd H (by simp)
      ·rw [if_neg c22] at H
       have c22b0 : ((t223.length : Int) == (t220.length : Int)) = false := beq_eq_false_iff_ne.mpr c22
       have c22b1 : ((t223.length : Int) != (t220.length : Int)) = true := bne_iff_ne.mpr c22
       have c22b2 : (t223.length == t220.length) = false := by first | simpa using c22 | (simp at c22 ⊢; omega)
       (first | rw [c22b0] | (simp only [i64_w, i32_w]; rw [c22b0]) | skip)
       as_aux_lemma =>
        have H' := Aside0.mk H
        clear H
        try go_wp2
        have n0_ := Aside0.mk (Kd.R_drew HO222.out)
        have n1_ := Aside0.mk (Kd.R_drew HO226.out)
        have n2_ := Aside0.mk (Kd.R_drew HO230.out)
        have n3_ := Aside0.mk (below_drew1 HB.out)
        clear HO222
        clear HO226
        clear HO230
        clear HB
        have HO222 := n0_
        have HO226 := n1_
        have HO230 := n2_
        have HB := n3_
        clear n0_ n1_ n2_ n3_
        obtain ⟨Ao35, co35, eo35⟩ := Kd.R_slice HO226.out
        (first | subst eo35 | (injection eo35 with f1_ f2_ f3_; have f4_ := f1_.symm; have f5_ := f3_.symm; clear f1_ f2_ f3_; subst f4_; subst f5_))
        refine start_ (n := 36) (S := fun w' => True) (ds := []) (z9.bm 36 0) (by kernel_rfl) rfl rfl trivial (fun hHeld => ?_); refine with_tabW laws_FnSorted.tab9 laws_FnSorted.bits9 (fun HT_ HW_ => ?_)
        generalize w18.drew = w34 at HO222 HO226 HO230 HB hHeld ⊢
        refine z9.pa (i := 0) (N := some 47) (z9.bm 36 1) HT_.out ?_
        refine z9.pa (i := 1) (N := some 48) (z9.bm 36 3) HT_.out ?_
        refine z9.pa (i := 2) (N := some 49) (z9.bm 36 7) HT_.out ?_
        refine z9.pa (i := 3) (N := some 50) (z9.bm 36 15) HT_.out ?_
        refine z9.pa (i := 4) (N := some 51) (z9.bm 36 31) HT_.out ?_
        refine z9.pa (i := 5) (N := some 52) (z9.bm 36 63) HT_.out ?_
        refine z9.pa (i := 6) (N := some 53) (z9.bm 36 127) HT_.out ?_
        refine z9.pa (i := 7) (N := some 54) (z9.bm 36 255) HT_.out ?_
        refine z9.pa (i := 8) (N := some 55) (z9.bm 36 511) HT_.out ?_
        refine z9.pa (i := 9) (N := some 56) (z9.bm 36 1023) HT_.out ?_
        refine z9.pa (i := 10) (N := some 57) (z9.bm 36 2047) HT_.out ?_
        refine z9.pa (i := 11) (N := some 58) (z9.bm 36 4095) HT_.out ?_
        refine z9.pa (i := 12) (N := some 59) (z9.bm 36 8191) HT_.out ?_
        refine z9.pa (i := 13) (N := some 60) (z9.bm 36 16383) HT_.out ?_
        refine z9.pa (i := 14) (N := some 61) (z9.bm 36 32767) HT_.out ?_
        refine z9.pa (i := 15) (N := some 62) (z9.bm 36 65535) HT_.out ?_
        refine z9.pa (i := 16) (N := some 63) (z9.bm 36 131071) HT_.out ?_
        refine z9.pa (i := 17) (N := some 64) (z9.bm 36 262143) HT_.out ?_
        refine pure_ (i := 18) (N := some 65) (v := undef) (a' := ?_) (z9.bm 36 524287) rfl rfl (any_of HT_.out (by kernel_rfl)) (fun _ _ _ h => h) (Or.inr ⟨by rfl, rfl⟩) ?_ ?_
        rotate_left
        ·simp only [Act.put, List.setIfInBounds_toArray, List.set_cons_zero, List.set_cons_succ, i64_w, i32_w]
         rfl
        refine pure_ (i := 19) (N := some 66) (v := undef) (a' := ?_) (z9.bm 36 1048575) rfl rfl (any_of HT_.out (by kernel_rfl)) (fun _ _ _ h => h) (Or.inr ⟨by rfl, rfl⟩) ?_ ?_
        rotate_left
        ·simp only [Act.put, List.setIfInBounds_toArray, List.set_cons_zero, List.set_cons_succ, i64_w, i32_w]
         rfl
        refine z9.pa (i := 20) (N := some 67) (z9.bm 36 2097151) HT_.out ?_
        refine z9.pa (i := 21) (N := some 68) (z9.bm 36 4194303) HT_.out ?_
        refine pure_ (i := 22) (N := some 69) (v := undef) (a' := ?_) (z9.bm 36 8388607) rfl rfl (any_of HT_.out (by kernel_rfl)) (fun _ _ _ h => h) (Or.inr ⟨by rfl, rfl⟩) ?_ ?_
        rotate_left
        ·simp only [Act.put, List.setIfInBounds_toArray, List.set_cons_zero, List.set_cons_succ, i64_w, i32_w]
         rfl
        refine pure_ (i := 23) (N := some 70) (v := undef) (a' := ?_) (z9.bm 36 16777215) rfl rfl (any_of HT_.out (by kernel_rfl)) (fun _ _ _ h => h) (Or.inr ⟨by rfl, rfl⟩) ?_ ?_
        rotate_left
        ·simp only [Act.put, List.setIfInBounds_toArray, List.set_cons_zero, List.set_cons_succ, i64_w, i32_w]
         rfl
        refine pure_ (i := 24) (N := some 71) (v := undef) (a' := ?_) (z9.bm 36 33554431) rfl rfl (any_of HT_.out (by kernel_rfl)) (fun _ _ _ h => h) (Or.inr ⟨by rfl, rfl⟩) ?_ ?_
        rotate_left
        ·simp only [Act.put, List.setIfInBounds_toArray, List.set_cons_zero, List.set_cons_succ, i64_w, i32_w]
         rfl
        refine z9.pa (i := 25) (N := some 72) (z9.bm 36 67108863) HT_.out ?_
        refine z9.pa (i := 26) (N := some 73) (z9.bm 36 134217727) HT_.out ?_
        refine pure_ (i := 27) (N := some 74) (v := undef) (a' := ?_) (z9.bm 36 268435455) rfl rfl (any_of HT_.out (by kernel_rfl)) (fun _ _ _ h => h) (Or.inr ⟨by rfl, rfl⟩) ?_ ?_
        rotate_left
        ·simp only [Act.put, List.setIfInBounds_toArray, List.set_cons_zero, List.set_cons_succ, i64_w, i32_w]
         rfl
        refine pure_ (i := 28) (N := some 75) (v := undef) (a' := ?_) (z9.bm 36 536870911) rfl rfl (any_of HT_.out (by kernel_rfl)) (fun _ _ _ h => h) (Or.inr ⟨by rfl, rfl⟩) ?_ ?_
        rotate_left
        ·simp only [Act.put, List.setIfInBounds_toArray, List.set_cons_zero, List.set_cons_succ, i64_w, i32_w]
         rfl
        refine pure_ (i := 29) (N := some 76) (v := undef) (a' := ?_) (z9.bm 36 1073741823) rfl rfl (any_of HT_.out (by kernel_rfl)) (fun _ _ _ h => h) (Or.inr ⟨by rfl, rfl⟩) ?_ ?_
        rotate_left
        ·simp only [Act.put, List.setIfInBounds_toArray, List.set_cons_zero, List.set_cons_succ, i64_w, i32_w]
         rfl
        refine pure_ (i := 30) (N := some 77) (v := undef) (a' := ?_) (z9.bm 36 2147483647) rfl rfl (any_of HT_.out (by kernel_rfl)) (fun _ _ _ h => h) (Or.inr ⟨by rfl, rfl⟩) ?_ ?_
        rotate_left
        ·simp only [Act.put, List.setIfInBounds_toArray, List.set_cons_zero, List.set_cons_succ, i64_w, i32_w]
         rfl
        refine pure_ (i := 31) (N := some 78) (v := undef) (a' := ?_) (z9.bm 36 4294967295) rfl rfl (any_of HT_.out (by kernel_rfl)) (fun _ _ _ h => h) (Or.inr ⟨by rfl, rfl⟩) ?_ ?_
        rotate_left
        ·simp only [Act.put, List.setIfInBounds_toArray, List.set_cons_zero, List.set_cons_succ, i64_w, i32_w]
         rfl
        refine pure_ (i := 32) (N := some 79) (v := undef) (a' := ?_) (z9.bm 36 8589934591) rfl rfl (any_of HT_.out (by kernel_rfl)) (fun _ _ _ h => h) (Or.inr ⟨by rfl, rfl⟩) ?_ ?_
        rotate_left
        ·simp only [Act.put, List.setIfInBounds_toArray, List.set_cons_zero, List.set_cons_succ, i64_w, i32_w]
         rfl
        refine pure_ (i := 33) (N := some 80) (v := undef) (a' := ?_) (z9.bm 36 17179869183) rfl rfl (any_of HT_.out (by kernel_rfl)) (fun _ _ _ h => h) (Or.inr ⟨by rfl, rfl⟩) ?_ ?_
        rotate_left
        ·simp only [Act.put, List.setIfInBounds_toArray, List.set_cons_zero, List.set_cons_succ, i64_w, i32_w]
         rfl
        refine pure_ (i := 34) (N := some 81) (v := undef) (a' := ?_) (z9.bm 36 34359738367) rfl rfl (any_of HT_.out (by kernel_rfl)) (fun _ _ _ h => h) (Or.inr ⟨by rfl, rfl⟩) ?_ ?_
        rotate_left
        ·simp only [Act.put, List.setIfInBounds_toArray, List.set_cons_zero, List.set_cons_succ, i64_w, i32_w]
         rfl
        refine z9.pa (i := 35) (N := some 82) (z9.bm 36 68719476735) HT_.out ?_
        refine done_ (done_of HT_.out (by kernel_rfl)) ?_
        try go_wp2
        go_meet
        case rel => exact ⟨_, (true), (by first | rfl | (simp; done) | (simp [*]; done)), H', ⟨by first | omega | exact Nat.le_refl _⟩, ⟨by (with_reducible repeat (first | apply Kd.R_alloc | apply Kd.R_drewN | apply Kd.R_drew)); exact Kd.R_mono HO222.out (fun _ hk => hk.2)⟩, ⟨by (with_reducible repeat (first | apply Kd.R_alloc | apply Kd.R_drewN | apply Kd.R_drew)); exact Kd.R_mono HO226.out (fun _ hk => hk.2)⟩, ⟨by (with_reducible repeat (first | apply Kd.R_alloc | apply Kd.R_drewN | apply Kd.R_drew)); exact HO230.out⟩, ⟨by repeat (first | (with_reducible first | exact HB.out | apply below_alloc | apply pw_below_drewN | apply below_drew1) | exact HB.out)⟩⟩
     ·replace c21 := Bool.eq_false_iff.mpr c21
      subst c21
      have H1 : (laws_FnSorted.j0 k t218 t220 t223 t227 t231 true) = some r := by rw [if_neg (show ¬ (false = true) by decide)] at H; exact H
      clear H
      have H := H1
      clear H1
      as_aux_lemma =>
       have H' := Aside0.mk H
       clear H
       try go_wp2
       have n0_ := Aside0.mk (Kd.R_drew HO222.out)
       have n1_ := Aside0.mk (Kd.R_drew HO226.out)
       have n2_ := Aside0.mk (Kd.R_drew HO230.out)
       have n3_ := Aside0.mk (below_drew1 HB.out)
       clear HO222
       clear HO226
       clear HO230
       clear HB
       have HO222 := n0_
       have HO226 := n1_
       have HO230 := n2_
       have HB := n3_
       clear n0_ n1_ n2_ n3_
       refine start_ (n := 36) (S := fun w' => True) (ds := []) (z9.bm 36 0) (by kernel_rfl) rfl rfl trivial (fun hHeld => ?_); refine with_tabW laws_FnSorted.tab9 laws_FnSorted.bits9 (fun HT_ HW_ => ?_)
       generalize w18.drew = w36 at HO222 HO226 HO230 HB hHeld ⊢
       refine z9.pa (i := 0) (N := some 47) (z9.bm 36 1) HT_.out ?_
       refine z9.pa (i := 1) (N := some 48) (z9.bm 36 3) HT_.out ?_
       refine z9.pa (i := 2) (N := some 49) (z9.bm 36 7) HT_.out ?_
       refine z9.pa (i := 3) (N := some 50) (z9.bm 36 15) HT_.out ?_
       refine z9.pa (i := 4) (N := some 51) (z9.bm 36 31) HT_.out ?_
       refine z9.pa (i := 5) (N := some 52) (z9.bm 36 63) HT_.out ?_
       refine z9.pa (i := 6) (N := some 53) (z9.bm 36 127) HT_.out ?_
       refine z9.pa (i := 7) (N := some 54) (z9.bm 36 255) HT_.out ?_
       refine z9.pa (i := 8) (N := some 55) (z9.bm 36 511) HT_.out ?_
       refine z9.pa (i := 9) (N := some 56) (z9.bm 36 1023) HT_.out ?_
       refine z9.pa (i := 10) (N := some 57) (z9.bm 36 2047) HT_.out ?_
       refine pure_ (i := 11) (N := some 58) (v := undef) (a' := ?_) (z9.bm 36 4095) rfl rfl (any_of HT_.out (by kernel_rfl)) (fun _ _ _ h => h) (Or.inr ⟨by rfl, rfl⟩) ?_ ?_
       rotate_left
       ·simp only [Act.put, List.setIfInBounds_toArray, List.set_cons_zero, List.set_cons_succ, i64_w, i32_w]
        rfl
       refine pure_ (i := 12) (N := some 59) (v := undef) (a' := ?_) (z9.bm 36 8191) rfl rfl (any_of HT_.out (by kernel_rfl)) (fun _ _ _ h => h) (Or.inr ⟨by rfl, rfl⟩) ?_ ?_
       rotate_left
       ·simp only [Act.put, List.setIfInBounds_toArray, List.set_cons_zero, List.set_cons_succ, i64_w, i32_w]
        rfl
       refine pure_ (i := 13) (N := some 60) (v := undef) (a' := ?_) (z9.bm 36 16383) rfl rfl (any_of HT_.out (by kernel_rfl)) (fun _ _ _ h => h) (Or.inr ⟨by rfl, rfl⟩) ?_ ?_
       rotate_left
       ·simp only [Act.put, List.setIfInBounds_toArray, List.set_cons_zero, List.set_cons_succ, i64_w, i32_w]
        rfl
       refine pure_ (i := 14) (N := some 61) (v := undef) (a' := ?_) (z9.bm 36 32767) rfl rfl (any_of HT_.out (by kernel_rfl)) (fun _ _ _ h => h) (Or.inr ⟨by rfl, rfl⟩) ?_ ?_
       rotate_left
       ·simp only [Act.put, List.setIfInBounds_toArray, List.set_cons_zero, List.set_cons_succ, i64_w, i32_w]
        rfl
       refine pure_ (i := 15) (N := some 62) (v := undef) (a' := ?_) (z9.bm 36 65535) rfl rfl (any_of HT_.out (by kernel_rfl)) (fun _ _ _ h => h) (Or.inr ⟨by rfl, rfl⟩) ?_ ?_
       rotate_left
       ·simp only [Act.put, List.setIfInBounds_toArray, List.set_cons_zero, List.set_cons_succ, i64_w, i32_w]
        rfl
       refine z9.pa (i := 16) (N := some 63) (z9.bm 36 131071) HT_.out ?_
       refine z9.pa (i := 17) (N := some 64) (z9.bm 36 262143) HT_.out ?_
       refine pure_ (i := 18) (N := some 65) (v := undef) (a' := ?_) (z9.bm 36 524287) rfl rfl (any_of HT_.out (by kernel_rfl)) (fun _ _ _ h => h) (Or.inr ⟨by rfl, rfl⟩) ?_ ?_
       rotate_left
       ·simp only [Act.put, List.setIfInBounds_toArray, List.set_cons_zero, List.set_cons_succ, i64_w, i32_w]
        rfl
       refine pure_ (i := 19) (N := some 66) (v := undef) (a' := ?_) (z9.bm 36 1048575) rfl rfl (any_of HT_.out (by kernel_rfl)) (fun _ _ _ h => h) (Or.inr ⟨by rfl, rfl⟩) ?_ ?_
       rotate_left
       ·simp only [Act.put, List.setIfInBounds_toArray, List.set_cons_zero, List.set_cons_succ, i64_w, i32_w]
        rfl
       refine z9.pa (i := 20) (N := some 67) (z9.bm 36 2097151) HT_.out ?_
       refine z9.pa (i := 21) (N := some 68) (z9.bm 36 4194303) HT_.out ?_
       refine pure_ (i := 22) (N := some 69) (v := undef) (a' := ?_) (z9.bm 36 8388607) rfl rfl (any_of HT_.out (by kernel_rfl)) (fun _ _ _ h => h) (Or.inr ⟨by rfl, rfl⟩) ?_ ?_
       rotate_left
       ·simp only [Act.put, List.setIfInBounds_toArray, List.set_cons_zero, List.set_cons_succ, i64_w, i32_w]
        rfl
       refine pure_ (i := 23) (N := some 70) (v := undef) (a' := ?_) (z9.bm 36 16777215) rfl rfl (any_of HT_.out (by kernel_rfl)) (fun _ _ _ h => h) (Or.inr ⟨by rfl, rfl⟩) ?_ ?_
       rotate_left
       ·simp only [Act.put, List.setIfInBounds_toArray, List.set_cons_zero, List.set_cons_succ, i64_w, i32_w]
        rfl
       refine pure_ (i := 24) (N := some 71) (v := undef) (a' := ?_) (z9.bm 36 33554431) rfl rfl (any_of HT_.out (by kernel_rfl)) (fun _ _ _ h => h) (Or.inr ⟨by rfl, rfl⟩) ?_ ?_
       rotate_left
       ·simp only [Act.put, List.setIfInBounds_toArray, List.set_cons_zero, List.set_cons_succ, i64_w, i32_w]
        rfl
       refine z9.pa (i := 25) (N := some 72) (z9.bm 36 67108863) HT_.out ?_
       refine z9.pa (i := 26) (N := some 73) (z9.bm 36 134217727) HT_.out ?_
       refine pure_ (i := 27) (N := some 74) (v := undef) (a' := ?_) (z9.bm 36 268435455) rfl rfl (any_of HT_.out (by kernel_rfl)) (fun _ _ _ h => h) (Or.inr ⟨by rfl, rfl⟩) ?_ ?_
       rotate_left
       ·simp only [Act.put, List.setIfInBounds_toArray, List.set_cons_zero, List.set_cons_succ, i64_w, i32_w]
        rfl
       refine pure_ (i := 28) (N := some 75) (v := undef) (a' := ?_) (z9.bm 36 536870911) rfl rfl (any_of HT_.out (by kernel_rfl)) (fun _ _ _ h => h) (Or.inr ⟨by rfl, rfl⟩) ?_ ?_
       rotate_left
       ·simp only [Act.put, List.setIfInBounds_toArray, List.set_cons_zero, List.set_cons_succ, i64_w, i32_w]
        rfl
       refine pure_ (i := 29) (N := some 76) (v := undef) (a' := ?_) (z9.bm 36 1073741823) rfl rfl (any_of HT_.out (by kernel_rfl)) (fun _ _ _ h => h) (Or.inr ⟨by rfl, rfl⟩) ?_ ?_
       rotate_left
       ·simp only [Act.put, List.setIfInBounds_toArray, List.set_cons_zero, List.set_cons_succ, i64_w, i32_w]
        rfl
       refine pure_ (i := 30) (N := some 77) (v := undef) (a' := ?_) (z9.bm 36 2147483647) rfl rfl (any_of HT_.out (by kernel_rfl)) (fun _ _ _ h => h) (Or.inr ⟨by rfl, rfl⟩) ?_ ?_
       rotate_left
       ·simp only [Act.put, List.setIfInBounds_toArray, List.set_cons_zero, List.set_cons_succ, i64_w, i32_w]
        rfl
       refine pure_ (i := 31) (N := some 78) (v := undef) (a' := ?_) (z9.bm 36 4294967295) rfl rfl (any_of HT_.out (by kernel_rfl)) (fun _ _ _ h => h) (Or.inr ⟨by rfl, rfl⟩) ?_ ?_
       rotate_left
       ·simp only [Act.put, List.setIfInBounds_toArray, List.set_cons_zero, List.set_cons_succ, i64_w, i32_w]
        rfl
       refine pure_ (i := 32) (N := some 79) (v := undef) (a' := ?_) (z9.bm 36 8589934591) rfl rfl (any_of HT_.out (by kernel_rfl)) (fun _ _ _ h => h) (Or.inr ⟨by rfl, rfl⟩) ?_ ?_
       rotate_left
       ·simp only [Act.put, List.setIfInBounds_toArray, List.set_cons_zero, List.set_cons_succ, i64_w, i32_w]
        rfl
       refine pure_ (i := 33) (N := some 80) (v := undef) (a' := ?_) (z9.bm 36 17179869183) rfl rfl (any_of HT_.out (by kernel_rfl)) (fun _ _ _ h => h) (Or.inr ⟨by rfl, rfl⟩) ?_ ?_
       rotate_left
       ·simp only [Act.put, List.setIfInBounds_toArray, List.set_cons_zero, List.set_cons_succ, i64_w, i32_w]
        rfl
       refine pure_ (i := 34) (N := some 81) (v := undef) (a' := ?_) (z9.bm 36 34359738367) rfl rfl (any_of HT_.out (by kernel_rfl)) (fun _ _ _ h => h) (Or.inr ⟨by rfl, rfl⟩) ?_ ?_
       rotate_left
       ·simp only [Act.put, List.setIfInBounds_toArray, List.set_cons_zero, List.set_cons_succ, i64_w, i32_w]
        rfl
       refine z9.pa (i := 35) (N := some 82) (z9.bm 36 68719476735) HT_.out ?_
       refine done_ (done_of HT_.out (by kernel_rfl)) ?_
       try go_wp2
       go_meet
       case rel => exact ⟨_, (true), (by first | rfl | (simp; done) | (simp [*]; done)), H', ⟨by first | omega | exact Nat.le_refl _⟩, ⟨by (with_reducible repeat (first | apply Kd.R_alloc | apply Kd.R_drewN | apply Kd.R_drew)); exact Kd.R_mono HO222.out (fun _ hk => hk.2)⟩, ⟨by (with_reducible repeat (first | apply Kd.R_alloc | apply Kd.R_drewN | apply Kd.R_drew)); exact Kd.R_mono HO226.out (fun _ hk => hk.2)⟩, ⟨by (with_reducible repeat (first | apply Kd.R_alloc | apply Kd.R_drewN | apply Kd.R_drew)); exact HO230.out⟩, ⟨by repeat (first | (with_reducible first | exact HB.out | apply below_alloc | apply pw_below_drewN | apply below_drew1) | exact HB.out)⟩⟩
    ·replace c20 := Bool.eq_false_iff.mpr c20
     subst c20
     have H1 : (laws_FnSorted.j0 k t218 t220 t223 t227 t231 true) = some r := by rw [if_neg (show ¬ (false = true) by decide)] at H; exact H
     clear H
     have H := H1
     clear H1
     as_aux_lemma =>
      have H' := Aside0.mk H
      clear H
      try go_wp2
      have n0_ := Aside0.mk (Kd.R_drew HO222.out)
      have n1_ := Aside0.mk (Kd.R_drew HO226.out)
      have n2_ := Aside0.mk (Kd.R_drew HO230.out)
      have n3_ := Aside0.mk (below_drew1 HB.out)
      clear HO222
      clear HO226
      clear HO230
      clear HB
      have HO222 := n0_
      have HO226 := n1_
      have HO230 := n2_
      have HB := n3_
      clear n0_ n1_ n2_ n3_
      refine start_ (n := 36) (S := fun w' => True) (ds := []) (z9.bm 36 0) (by kernel_rfl) rfl rfl trivial (fun hHeld => ?_); refine with_tabW laws_FnSorted.tab9 laws_FnSorted.bits9 (fun HT_ HW_ => ?_)
      generalize w18.drew = w37 at HO222 HO226 HO230 HB hHeld ⊢
      refine z9.pa (i := 0) (N := some 47) (z9.bm 36 1) HT_.out ?_
      refine z9.pa (i := 1) (N := some 48) (z9.bm 36 3) HT_.out ?_
      refine z9.pa (i := 2) (N := some 49) (z9.bm 36 7) HT_.out ?_
      refine z9.pa (i := 3) (N := some 50) (z9.bm 36 15) HT_.out ?_
      refine z9.pa (i := 4) (N := some 51) (z9.bm 36 31) HT_.out ?_
      refine z9.pa (i := 5) (N := some 52) (z9.bm 36 63) HT_.out ?_
      refine z9.pa (i := 6) (N := some 53) (z9.bm 36 127) HT_.out ?_
      refine pure_ (i := 7) (N := some 54) (v := undef) (a' := ?_) (z9.bm 36 255) rfl rfl (any_of HT_.out (by kernel_rfl)) (fun _ _ _ h => h) (Or.inr ⟨by rfl, rfl⟩) ?_ ?_
      rotate_left
      ·simp only [Act.put, List.setIfInBounds_toArray, List.set_cons_zero, List.set_cons_succ, i64_w, i32_w]
       rfl
      refine pure_ (i := 8) (N := some 55) (v := undef) (a' := ?_) (z9.bm 36 511) rfl rfl (any_of HT_.out (by kernel_rfl)) (fun _ _ _ h => h) (Or.inr ⟨by rfl, rfl⟩) ?_ ?_
      rotate_left
      ·simp only [Act.put, List.setIfInBounds_toArray, List.set_cons_zero, List.set_cons_succ, i64_w, i32_w]
       rfl
      refine z9.pa (i := 9) (N := some 56) (z9.bm 36 1023) HT_.out ?_
      refine z9.pa (i := 10) (N := some 57) (z9.bm 36 2047) HT_.out ?_
      refine pure_ (i := 11) (N := some 58) (v := undef) (a' := ?_) (z9.bm 36 4095) rfl rfl (any_of HT_.out (by kernel_rfl)) (fun _ _ _ h => h) (Or.inr ⟨by rfl, rfl⟩) ?_ ?_
      rotate_left
      ·simp only [Act.put, List.setIfInBounds_toArray, List.set_cons_zero, List.set_cons_succ, i64_w, i32_w]
       rfl
      refine pure_ (i := 12) (N := some 59) (v := undef) (a' := ?_) (z9.bm 36 8191) rfl rfl (any_of HT_.out (by kernel_rfl)) (fun _ _ _ h => h) (Or.inr ⟨by rfl, rfl⟩) ?_ ?_
      rotate_left
      ·simp only [Act.put, List.setIfInBounds_toArray, List.set_cons_zero, List.set_cons_succ, i64_w, i32_w]
       rfl
      refine pure_ (i := 13) (N := some 60) (v := undef) (a' := ?_) (z9.bm 36 16383) rfl rfl (any_of HT_.out (by kernel_rfl)) (fun _ _ _ h => h) (Or.inr ⟨by rfl, rfl⟩) ?_ ?_
      rotate_left
      ·simp only [Act.put, List.setIfInBounds_toArray, List.set_cons_zero, List.set_cons_succ, i64_w, i32_w]
       rfl
      refine pure_ (i := 14) (N := some 61) (v := undef) (a' := ?_) (z9.bm 36 32767) rfl rfl (any_of HT_.out (by kernel_rfl)) (fun _ _ _ h => h) (Or.inr ⟨by rfl, rfl⟩) ?_ ?_
      rotate_left
      ·simp only [Act.put, List.setIfInBounds_toArray, List.set_cons_zero, List.set_cons_succ, i64_w, i32_w]
       rfl
      refine pure_ (i := 15) (N := some 62) (v := undef) (a' := ?_) (z9.bm 36 65535) rfl rfl (any_of HT_.out (by kernel_rfl)) (fun _ _ _ h => h) (Or.inr ⟨by rfl, rfl⟩) ?_ ?_
      rotate_left
      ·simp only [Act.put, List.setIfInBounds_toArray, List.set_cons_zero, List.set_cons_succ, i64_w, i32_w]
       rfl
      refine z9.pa (i := 16) (N := some 63) (z9.bm 36 131071) HT_.out ?_
      refine z9.pa (i := 17) (N := some 64) (z9.bm 36 262143) HT_.out ?_
      refine pure_ (i := 18) (N := some 65) (v := undef) (a' := ?_) (z9.bm 36 524287) rfl rfl (any_of HT_.out (by kernel_rfl)) (fun _ _ _ h => h) (Or.inr ⟨by rfl, rfl⟩) ?_ ?_
      rotate_left
      ·simp only [Act.put, List.setIfInBounds_toArray, List.set_cons_zero, List.set_cons_succ, i64_w, i32_w]
       rfl
      refine pure_ (i := 19) (N := some 66) (v := undef) (a' := ?_) (z9.bm 36 1048575) rfl rfl (any_of HT_.out (by kernel_rfl)) (fun _ _ _ h => h) (Or.inr ⟨by rfl, rfl⟩) ?_ ?_
      rotate_left
      ·simp only [Act.put, List.setIfInBounds_toArray, List.set_cons_zero, List.set_cons_succ, i64_w, i32_w]
       rfl
      refine z9.pa (i := 20) (N := some 67) (z9.bm 36 2097151) HT_.out ?_
      refine z9.pa (i := 21) (N := some 68) (z9.bm 36 4194303) HT_.out ?_
      refine pure_ (i := 22) (N := some 69) (v := undef) (a' := ?_) (z9.bm 36 8388607) rfl rfl (any_of HT_.out (by kernel_rfl)) (fun _ _ _ h => h) (Or.inr ⟨by rfl, rfl⟩) ?_ ?_
      rotate_left
      ·simp only [Act.put, List.setIfInBounds_toArray, List.set_cons_zero, List.set_cons_succ, i64_w, i32_w]
       rfl
      refine pure_ (i := 23) (N := some 70) (v := undef) (a' := ?_) (z9.bm 36 16777215) rfl rfl (any_of HT_.out (by kernel_rfl)) (fun _ _ _ h => h) (Or.inr ⟨by rfl, rfl⟩) ?_ ?_
      rotate_left
      ·simp only [Act.put, List.setIfInBounds_toArray, List.set_cons_zero, List.set_cons_succ, i64_w, i32_w]
       rfl
      refine pure_ (i := 24) (N := some 71) (v := undef) (a' := ?_) (z9.bm 36 33554431) rfl rfl (any_of HT_.out (by kernel_rfl)) (fun _ _ _ h => h) (Or.inr ⟨by rfl, rfl⟩) ?_ ?_
      rotate_left
      ·simp only [Act.put, List.setIfInBounds_toArray, List.set_cons_zero, List.set_cons_succ, i64_w, i32_w]
       rfl
      refine z9.pa (i := 25) (N := some 72) (z9.bm 36 67108863) HT_.out ?_
      refine z9.pa (i := 26) (N := some 73) (z9.bm 36 134217727) HT_.out ?_
      refine pure_ (i := 27) (N := some 74) (v := undef) (a' := ?_) (z9.bm 36 268435455) rfl rfl (any_of HT_.out (by kernel_rfl)) (fun _ _ _ h => h) (Or.inr ⟨by rfl, rfl⟩) ?_ ?_
      rotate_left
      ·simp only [Act.put, List.setIfInBounds_toArray, List.set_cons_zero, List.set_cons_succ, i64_w, i32_w]
       rfl
      refine pure_ (i := 28) (N := some 75) (v := undef) (a' := ?_) (z9.bm 36 536870911) rfl rfl (any_of HT_.out (by kernel_rfl)) (fun _ _ _ h => h) (Or.inr ⟨by rfl, rfl⟩) ?_ ?_
      rotate_left
      ·simp only [Act.put, List.setIfInBounds_toArray, List.set_cons_zero, List.set_cons_succ, i64_w, i32_w]
       rfl
      refine pure_ (i := 29) (N := some 76) (v := undef) (a' := ?_) (z9.bm 36 1073741823) rfl rfl (any_of HT_.out (by kernel_rfl)) (fun _ _ _ h => h) (Or.inr ⟨by rfl, rfl⟩) ?_ ?_
      rotate_left
      ·simp only [Act.put, List.setIfInBounds_toArray, List.set_cons_zero, List.set_cons_succ, i64_w, i32_w]
       rfl
      refine pure_ (i := 30) (N := some 77) (v := undef) (a' := ?_) (z9.bm 36 2147483647) rfl rfl (any_of HT_.out (by kernel_rfl)) (fun _ _ _ h => h) (Or.inr ⟨by rfl, rfl⟩) ?_ ?_
      rotate_left
      ·simp only [Act.put, List.setIfInBounds_toArray, List.set_cons_zero, List.set_cons_succ, i64_w, i32_w]
       rfl
      refine pure_ (i := 31) (N := some 78) (v := undef) (a' := ?_) (z9.bm 36 4294967295) rfl rfl (any_of HT_.out (by kernel_rfl)) (fun _ _ _ h => h) (Or.inr ⟨by rfl, rfl⟩) ?_ ?_
      rotate_left
      ·simp only [Act.put, List.setIfInBounds_toArray, List.set_cons_zero, List.set_cons_succ, i64_w, i32_w]
       rfl
      refine pure_ (i := 32) (N := some 79) (v := undef) (a' := ?_) (z9.bm 36 8589934591) rfl rfl (any_of HT_.out (by kernel_rfl)) (fun _ _ _ h => h) (Or.inr ⟨by rfl, rfl⟩) ?_ ?_
      rotate_left
      ·simp only [Act.put, List.setIfInBounds_toArray, List.set_cons_zero, List.set_cons_succ, i64_w, i32_w]
       rfl
      refine pure_ (i := 33) (N := some 80) (v := undef) (a' := ?_) (z9.bm 36 17179869183) rfl rfl (any_of HT_.out (by kernel_rfl)) (fun _ _ _ h => h) (Or.inr ⟨by rfl, rfl⟩) ?_ ?_
      rotate_left
      ·simp only [Act.put, List.setIfInBounds_toArray, List.set_cons_zero, List.set_cons_succ, i64_w, i32_w]
       rfl
      refine pure_ (i := 34) (N := some 81) (v := undef) (a' := ?_) (z9.bm 36 34359738367) rfl rfl (any_of HT_.out (by kernel_rfl)) (fun _ _ _ h => h) (Or.inr ⟨by rfl, rfl⟩) ?_ ?_
      rotate_left
      ·simp only [Act.put, List.setIfInBounds_toArray, List.set_cons_zero, List.set_cons_succ, i64_w, i32_w]
       rfl
      refine z9.pa (i := 35) (N := some 82) (z9.bm 36 68719476735) HT_.out ?_
      refine done_ (done_of HT_.out (by kernel_rfl)) ?_
      try go_wp2
      go_meet
      case rel => exact ⟨_, (true), (by first | rfl | (simp; done) | (simp [*]; done)), H', ⟨by first | omega | exact Nat.le_refl _⟩, ⟨by (with_reducible repeat (first | apply Kd.R_alloc | apply Kd.R_drewN | apply Kd.R_drew)); exact Kd.R_mono HO222.out (fun _ hk => hk.2)⟩, ⟨by (with_reducible repeat (first | apply Kd.R_alloc | apply Kd.R_drewN | apply Kd.R_drew)); exact Kd.R_mono HO226.out (fun _ hk => hk.2)⟩, ⟨by (with_reducible repeat (first | apply Kd.R_alloc | apply Kd.R_drewN | apply Kd.R_drew)); exact HO230.out⟩, ⟨by repeat (first | (with_reducible first | exact HB.out | apply below_alloc | apply pw_below_drewN | apply below_drew1) | exact HB.out)⟩⟩
   ·replace c19 := Bool.eq_false_iff.mpr c19
    subst c19
    have H1 : (laws_FnSorted.j0 k t218 t220 t223 t227 t231 true) = some r := by rw [if_neg (show ¬ (false = true) by decide)] at H; exact H
    clear H
    have H := H1
    clear H1
    as_aux_lemma =>
     have H' := Aside0.mk H
     clear H
     try go_wp2
     have n0_ := Aside0.mk (Kd.R_drew HO222.out)
     have n1_ := Aside0.mk (Kd.R_drew HO226.out)
     have n2_ := Aside0.mk (Kd.R_drew HO230.out)
     have n3_ := Aside0.mk (below_drew1 HB.out)
     clear HO222
     clear HO226
     clear HO230
     clear HB
     have HO222 := n0_
     have HO226 := n1_
     have HO230 := n2_
     have HB := n3_
     clear n0_ n1_ n2_ n3_
     refine start_ (n := 36) (S := fun w' => True) (ds := []) (z9.bm 36 0) (by kernel_rfl) rfl rfl trivial (fun hHeld => ?_); refine with_tabW laws_FnSorted.tab9 laws_FnSorted.bits9 (fun HT_ HW_ => ?_)
     generalize w18.drew = w38 at HO222 HO226 HO230 HB hHeld ⊢
     refine z9.pa (i := 0) (N := some 47) (z9.bm 36 1) HT_.out ?_
     refine z9.pa (i := 1) (N := some 48) (z9.bm 36 3) HT_.out ?_
     refine z9.pa (i := 2) (N := some 49) (z9.bm 36 7) HT_.out ?_
     refine pure_ (i := 3) (N := some 50) (v := undef) (a' := ?_) (z9.bm 36 15) rfl rfl (any_of HT_.out (by kernel_rfl)) (fun _ _ _ h => h) (Or.inr ⟨by rfl, rfl⟩) ?_ ?_
     rotate_left
     ·simp only [Act.put, List.setIfInBounds_toArray, List.set_cons_zero, List.set_cons_succ, i64_w, i32_w]
      rfl
     refine pure_ (i := 4) (N := some 51) (v := undef) (a' := ?_) (z9.bm 36 31) rfl rfl (any_of HT_.out (by kernel_rfl)) (fun _ _ _ h => h) (Or.inr ⟨by rfl, rfl⟩) ?_ ?_
     rotate_left
     ·simp only [Act.put, List.setIfInBounds_toArray, List.set_cons_zero, List.set_cons_succ, i64_w, i32_w]
      rfl
     refine z9.pa (i := 5) (N := some 52) (z9.bm 36 63) HT_.out ?_
     refine z9.pa (i := 6) (N := some 53) (z9.bm 36 127) HT_.out ?_
     refine pure_ (i := 7) (N := some 54) (v := undef) (a' := ?_) (z9.bm 36 255) rfl rfl (any_of HT_.out (by kernel_rfl)) (fun _ _ _ h => h) (Or.inr ⟨by rfl, rfl⟩) ?_ ?_
     rotate_left
     ·simp only [Act.put, List.setIfInBounds_toArray, List.set_cons_zero, List.set_cons_succ, i64_w, i32_w]
      rfl
     refine pure_ (i := 8) (N := some 55) (v := undef) (a' := ?_) (z9.bm 36 511) rfl rfl (any_of HT_.out (by kernel_rfl)) (fun _ _ _ h => h) (Or.inr ⟨by rfl, rfl⟩) ?_ ?_
     rotate_left
     ·simp only [Act.put, List.setIfInBounds_toArray, List.set_cons_zero, List.set_cons_succ, i64_w, i32_w]
      rfl
     refine z9.pa (i := 9) (N := some 56) (z9.bm 36 1023) HT_.out ?_
     refine z9.pa (i := 10) (N := some 57) (z9.bm 36 2047) HT_.out ?_
     refine pure_ (i := 11) (N := some 58) (v := undef) (a' := ?_) (z9.bm 36 4095) rfl rfl (any_of HT_.out (by kernel_rfl)) (fun _ _ _ h => h) (Or.inr ⟨by rfl, rfl⟩) ?_ ?_
     rotate_left
     ·simp only [Act.put, List.setIfInBounds_toArray, List.set_cons_zero, List.set_cons_succ, i64_w, i32_w]
      rfl
     refine pure_ (i := 12) (N := some 59) (v := undef) (a' := ?_) (z9.bm 36 8191) rfl rfl (any_of HT_.out (by kernel_rfl)) (fun _ _ _ h => h) (Or.inr ⟨by rfl, rfl⟩) ?_ ?_
     rotate_left
     ·simp only [Act.put, List.setIfInBounds_toArray, List.set_cons_zero, List.set_cons_succ, i64_w, i32_w]
      rfl
     refine pure_ (i := 13) (N := some 60) (v := undef) (a' := ?_) (z9.bm 36 16383) rfl rfl (any_of HT_.out (by kernel_rfl)) (fun _ _ _ h => h) (Or.inr ⟨by rfl, rfl⟩) ?_ ?_
     rotate_left
     ·simp only [Act.put, List.setIfInBounds_toArray, List.set_cons_zero, List.set_cons_succ, i64_w, i32_w]
      rfl
     refine pure_ (i := 14) (N := some 61) (v := undef) (a' := ?_) (z9.bm 36 32767) rfl rfl (any_of HT_.out (by kernel_rfl)) (fun _ _ _ h => h) (Or.inr ⟨by rfl, rfl⟩) ?_ ?_
     rotate_left
     ·simp only [Act.put, List.setIfInBounds_toArray, List.set_cons_zero, List.set_cons_succ, i64_w, i32_w]
      rfl
     refine pure_ (i := 15) (N := some 62) (v := undef) (a' := ?_) (z9.bm 36 65535) rfl rfl (any_of HT_.out (by kernel_rfl)) (fun _ _ _ h => h) (Or.inr ⟨by rfl, rfl⟩) ?_ ?_
     rotate_left
     ·simp only [Act.put, List.setIfInBounds_toArray, List.set_cons_zero, List.set_cons_succ, i64_w, i32_w]
      rfl
     refine z9.pa (i := 16) (N := some 63) (z9.bm 36 131071) HT_.out ?_
     refine z9.pa (i := 17) (N := some 64) (z9.bm 36 262143) HT_.out ?_
     refine pure_ (i := 18) (N := some 65) (v := undef) (a' := ?_) (z9.bm 36 524287) rfl rfl (any_of HT_.out (by kernel_rfl)) (fun _ _ _ h => h) (Or.inr ⟨by rfl, rfl⟩) ?_ ?_
     rotate_left
     ·simp only [Act.put, List.setIfInBounds_toArray, List.set_cons_zero, List.set_cons_succ, i64_w, i32_w]
      rfl
     refine pure_ (i := 19) (N := some 66) (v := undef) (a' := ?_) (z9.bm 36 1048575) rfl rfl (any_of HT_.out (by kernel_rfl)) (fun _ _ _ h => h) (Or.inr ⟨by rfl, rfl⟩) ?_ ?_
     rotate_left
     ·simp only [Act.put, List.setIfInBounds_toArray, List.set_cons_zero, List.set_cons_succ, i64_w, i32_w]
      rfl
     refine z9.pa (i := 20) (N := some 67) (z9.bm 36 2097151) HT_.out ?_
     refine z9.pa (i := 21) (N := some 68) (z9.bm 36 4194303) HT_.out ?_
     refine pure_ (i := 22) (N := some 69) (v := undef) (a' := ?_) (z9.bm 36 8388607) rfl rfl (any_of HT_.out (by kernel_rfl)) (fun _ _ _ h => h) (Or.inr ⟨by rfl, rfl⟩) ?_ ?_
     rotate_left
     ·simp only [Act.put, List.setIfInBounds_toArray, List.set_cons_zero, List.set_cons_succ, i64_w, i32_w]
      rfl
     refine pure_ (i := 23) (N := some 70) (v := undef) (a' := ?_) (z9.bm 36 16777215) rfl rfl (any_of HT_.out (by kernel_rfl)) (fun _ _ _ h => h) (Or.inr ⟨by rfl, rfl⟩) ?_ ?_
     rotate_left
     ·simp only [Act.put, List.setIfInBounds_toArray, List.set_cons_zero, List.set_cons_succ, i64_w, i32_w]
      rfl
     refine pure_ (i := 24) (N := some 71) (v := undef) (a' := ?_) (z9.bm 36 33554431) rfl rfl (any_of HT_.out (by kernel_rfl)) (fun _ _ _ h => h) (Or.inr ⟨by rfl, rfl⟩) ?_ ?_
     rotate_left
     ·simp only [Act.put, List.setIfInBounds_toArray, List.set_cons_zero, List.set_cons_succ, i64_w, i32_w]
      rfl
     refine z9.pa (i := 25) (N := some 72) (z9.bm 36 67108863) HT_.out ?_
     refine z9.pa (i := 26) (N := some 73) (z9.bm 36 134217727) HT_.out ?_
     refine pure_ (i := 27) (N := some 74) (v := undef) (a' := ?_) (z9.bm 36 268435455) rfl rfl (any_of HT_.out (by kernel_rfl)) (fun _ _ _ h => h) (Or.inr ⟨by rfl, rfl⟩) ?_ ?_
     rotate_left
     ·simp only [Act.put, List.setIfInBounds_toArray, List.set_cons_zero, List.set_cons_succ, i64_w, i32_w]
      rfl
     refine pure_ (i := 28) (N := some 75) (v := undef) (a' := ?_) (z9.bm 36 536870911) rfl rfl (any_of HT_.out (by kernel_rfl)) (fun _ _ _ h => h) (Or.inr ⟨by rfl, rfl⟩) ?_ ?_
     rotate_left
     ·simp only [Act.put, List.setIfInBounds_toArray, List.set_cons_zero, List.set_cons_succ, i64_w, i32_w]
      rfl
     refine pure_ (i := 29) (N := some 76) (v := undef) (a' := ?_) (z9.bm 36 1073741823) rfl rfl (any_of HT_.out (by kernel_rfl)) (fun _ _ _ h => h) (Or.inr ⟨by rfl, rfl⟩) ?_ ?_
     rotate_left
     ·simp only [Act.put, List.setIfInBounds_toArray, List.set_cons_zero, List.set_cons_succ, i64_w, i32_w]
      rfl
     refine pure_ (i := 30) (N := some 77) (v := undef) (a' := ?_) (z9.bm 36 2147483647) rfl rfl (any_of HT_.out (by kernel_rfl)) (fun _ _ _ h => h) (Or.inr ⟨by rfl, rfl⟩) ?_ ?_
     rotate_left
     ·simp only [Act.put, List.setIfInBounds_toArray, List.set_cons_zero, List.set_cons_succ, i64_w, i32_w]
      rfl
     refine pure_ (i := 31) (N := some 78) (v := undef) (a' := ?_) (z9.bm 36 4294967295) rfl rfl (any_of HT_.out (by kernel_rfl)) (fun _ _ _ h => h) (Or.inr ⟨by rfl, rfl⟩) ?_ ?_
     rotate_left
     ·simp only [Act.put, List.setIfInBounds_toArray, List.set_cons_zero, List.set_cons_succ, i64_w, i32_w]
      rfl
     refine pure_ (i := 32) (N := some 79) (v := undef) (a' := ?_) (z9.bm 36 8589934591) rfl rfl (any_of HT_.out (by kernel_rfl)) (fun _ _ _ h => h) (Or.inr ⟨by rfl, rfl⟩) ?_ ?_
     rotate_left
     ·simp only [Act.put, List.setIfInBounds_toArray, List.set_cons_zero, List.set_cons_succ, i64_w, i32_w]
      rfl
     refine pure_ (i := 33) (N := some 80) (v := undef) (a' := ?_) (z9.bm 36 17179869183) rfl rfl (any_of HT_.out (by kernel_rfl)) (fun _ _ _ h => h) (Or.inr ⟨by rfl, rfl⟩) ?_ ?_
     rotate_left
     ·simp only [Act.put, List.setIfInBounds_toArray, List.set_cons_zero, List.set_cons_succ, i64_w, i32_w]
      rfl
     refine pure_ (i := 34) (N := some 81) (v := undef) (a' := ?_) (z9.bm 36 34359738367) rfl rfl (any_of HT_.out (by kernel_rfl)) (fun _ _ _ h => h) (Or.inr ⟨by rfl, rfl⟩) ?_ ?_
     rotate_left
     ·simp only [Act.put, List.setIfInBounds_toArray, List.set_cons_zero, List.set_cons_succ, i64_w, i32_w]
      rfl
     refine z9.pa (i := 35) (N := some 82) (z9.bm 36 68719476735) HT_.out ?_
     refine done_ (done_of HT_.out (by kernel_rfl)) ?_
     try go_wp2
     go_meet
     case rel => exact ⟨_, (true), (by first | rfl | (simp; done) | (simp [*]; done)), H', ⟨by first | omega | exact Nat.le_refl _⟩, ⟨by (with_reducible repeat (first | apply Kd.R_alloc | apply Kd.R_drewN | apply Kd.R_drew)); exact Kd.R_mono HO222.out (fun _ hk => hk.2)⟩, ⟨by (with_reducible repeat (first | apply Kd.R_alloc | apply Kd.R_drewN | apply Kd.R_drew)); exact Kd.R_mono HO226.out (fun _ hk => hk.2)⟩, ⟨by (with_reducible repeat (first | apply Kd.R_alloc | apply Kd.R_drewN | apply Kd.R_drew)); exact HO230.out⟩, ⟨by repeat (first | (with_reducible first | exact HB.out | apply below_alloc | apply pw_below_drewN | apply below_drew1) | exact HB.out)⟩⟩
  case rest =>
   clear HC11
   try clear c1
   try clear c2
   try clear p2
   try clear c19
   try clear c20
   obtain ⟨kq, x82_10, rfl, HA, HJ10, HO_7, HO_8, HO_10, HB⟩ := hcut
   cases kq with
   | zero => exact absurd HA.out (by simp [laws_FnSorted.j0])
   | succ kj10 =>
    have H := HA.out
    clear HA
    simp only [laws_FnSorted.j0] at H
    by_cases c39 : x82_10 = true
    ·subst c39
     have H1 : (some false) = some r := by rw [if_pos rfl] at H; exact H
     clear H
     have H := H1
     clear H1
     obtain rfl := Option.some.inj H
     go_wp2
     go_ret
     exact ⟨by first | rfl | (simp [errW_none, errW_some] <;> rfl) | (simp [*, errW_none, errW_some] <;> rfl), by repeat (first | (with_reducible first | exact HB.out | apply below_alloc | apply pw_below_drewN | apply below_drew1) | exact HB.out)⟩
    ·replace c39 := Bool.eq_false_iff.mpr c39
     subst c39
     have H1 : (laws_FnSorted.l0 kj10 t218 t220 t223 t227 t231 t220 0) = some r := by rw [if_neg (show ¬ (false = true) by decide)] at H; exact H
     clear H
     have H := H1
     clear H1
     as_aux_lemma =>
      have H' := Aside0.mk H
      clear H
      go_wp2
      go_loopg [14, 15] kj10 (fun kq v14 v15 w' => ∃ (x14_2 : List Int) (x15_2 : Int), v15 = .int .i64 x15_2 ∧ Aside0 (laws_FnSorted.l0 kq t218 t220 t223 t227 t231 x14_2 x15_2 = some r) ∧ Aside0 (kq ≤ kj10) ∧ Aside0 (Kd.R (Kd.int .i64) 2 w' w.heap.size (fun k_ => some k_ ≠ (v225 : Value).ownBlock) (.slice Ao15 t220.length co15) t220) ∧ Aside0 (Kd.R (Kd.int .i64) 2 w' w.heap.size (fun k_ => some k_ ≠ ((.slice Ao15 t220.length co15) : Value).ownBlock ∧ some k_ ≠ (v14 : Value).ownBlock) v225 t223) ∧ Aside0 (Kd.R k54 54 w' w.heap.size (fun _ => True) v229 t227) ∧ Aside0 (Kd.R (Kd.int .i64) 2 w' w.heap.size (fun k_ => some k_ ≠ (v225 : Value).ownBlock) v14 x14_2) ∧ Aside0 (Below w.heap.size w w'))
      case atStart => exact ⟨(t220), (0), (by first | rfl | (simp; done) | (simp [*]; done)), H', ⟨Nat.le_refl _⟩, ⟨by (with_reducible repeat (first | apply Kd.R_alloc | apply Kd.R_drewN | apply Kd.R_drew)); exact HO_7.out⟩, ⟨by (with_reducible repeat (first | apply Kd.R_alloc | apply Kd.R_drewN | apply Kd.R_drew)); exact Kd.R_mono HO_8.out (fun _ hk => ⟨hk, hk⟩)⟩, ⟨by (with_reducible repeat (first | apply Kd.R_alloc | apply Kd.R_drewN | apply Kd.R_drew)); exact HO_10.out⟩, ⟨by (with_reducible repeat (first | apply Kd.R_alloc | apply Kd.R_drewN | apply Kd.R_drew)); exact HO_7.out⟩, ⟨by repeat (first | (with_reducible first | exact HB.out | apply below_alloc | apply pw_below_drewN | apply below_drew1) | exact HB.out)⟩⟩
      case round =>
       clear H'
       try clear c1
       try clear c2
       try clear p2
       try clear c3
       try clear c19
       try clear c20
       try clear c39
       try clear p2
       obtain ⟨x14_2, x15_2, rfl, HA, HK2, HO_7, HO_8, HO_10, HO_14, HB⟩ := hrel
       cases gk with
       | zero => exact absurd HA.out (by simp [laws_FnSorted.l0])
       | succ k2 =>
        have H := HA.out
        clear HA
        simp only [laws_FnSorted.l0] at H
        by_cases c40 : x15_2 < (t227.length : Int)
        ·rw [if_pos c40] at H
         have c40b0 : decide (x15_2 < (t227.length : Int)) = true := decide_eq_true c40
         clear c40
         by_cases c41 : 0 ≤ x15_2
         ·rw [if_pos c41] at H
          have c41b0 : decide (0 ≤ x15_2) = true := decide_eq_true c41
          clear c41
          replace H := Option.bind_eq_some_iff.mp H
          obtain ⟨⟨t236, t239⟩, A420, H⟩ := H
          replace H : (if t239 = true then (laws_FnSorted.l0 k2 t218 t220 t223 t227 t231 t236 (wrap64 (x15_2 + 1))) else (some false)) = some r := H
          have A42 := Aside0.mk A420
          clear A420
          by_cases c43 : t239 = true
          ·subst c43
           have H1 : (laws_FnSorted.l0 k2 t218 t220 t223 t227 t231 t236 (wrap64 (x15_2 + 1))) = some r := by rw [if_pos rfl] at H; exact H
           clear H
           have H := H1
           clear H1
           have H' := Aside0.mk H
           clear H
           obtain ⟨Ao44, co44, eo44⟩ := Kd.R_slice HO_10.out
           subst eo44
           have p235 : 0 ≤ (x15_2 : Int) := of_decide_eq_true (by first | (with_reducible assumption) | assumption)
           have q235 : x15_2 < (t227.length : Int) := of_decide_eq_true (by first | (with_reducible assumption) | assumption)
           obtain ⟨ad235, e235, hx235_0, hx235_1⟩ := at_T54 (Kd.R_reads' HO_10.out).2.2 x15_2 p235 q235
           cases e235
           replace p235 := eq_true p235
           replace q235 := eq_true q235
           obtain ⟨Ao45, co45, eo45⟩ := Kd.R_slice HO_14.out
           subst eo45
           go_wp2_with (first | ((with_reducible refine gate_callee (f := 43) rfl ?_); refine goesL_ (some 97) rfl rfl Try.func43 (by kernel_rfl) rfl #[.int .i64 t218, .agg #[.int .i64 ((rd_T54 t227 x15_2).f0), .int .i64 ((rd_T54 t227 x15_2).f1)], .slice Ao45 x14_2.length co45] rfl (by (try simp only [List.map_toArray, List.map_cons, List.map_nil]); first | done | rfl | (simp only [List.length_drop, List.length_take]; rfl)) ?_; (with_reducible refine (impl_ExchangeLanes.calls k2 t218 ((rd_T54 t227 x15_2).f0) ((rd_T54 t227 x15_2).f1) _ _ x14_2 t236 true _ ?side1 ?side2 A42.out).mono ?_); (case side1 => repeat (first | exact (Kd.R_reads' HO_14.out).2.2 | (with_reducible refine Kd.C_alloc ?_ _) | (with_reducible refine Kd.C_drewN ?_ _) | (with_reducible refine Kd.C_drew ?_))); (case side2 => exact (Kd.R_reads' HO_14.out).2.1); rintro e w46 ⟨v237, rfl, ho0, hb⟩; refine ⟨_, rfl, ?_⟩; have n0_ := Aside0.mk (Kd.R_elder' (by (with_reducible repeat (first | apply Kd.R_alloc | apply Kd.R_drewN | apply Kd.R_drew)); exact HO_7.out) (Kd.R_base ho0) hb); have n1_ := Aside0.mk (Kd.R_elder' (by (with_reducible repeat (first | apply Kd.R_alloc | apply Kd.R_drewN | apply Kd.R_drew)); exact HO_8.out) (Kd.R_base ho0) hb); have n2_ := Aside0.mk (Kd.R_below (by (with_reducible repeat (first | apply Kd.R_alloc | apply Kd.R_drewN | apply Kd.R_drew)); exact HO_10.out) hb); have n3_ := Aside0.mk (Kd.R_elder' (by (with_reducible repeat (first | apply Kd.R_alloc | apply Kd.R_drewN | apply Kd.R_drew)); exact HO_14.out) (Kd.R_base ho0) hb); have n4_ := Aside0.mk (Kd.R_lower (Kd.R_new' (Kd.R_new' (Kd.R_new' ho0 (Kd.R_lt (by (with_reducible repeat (first | apply Kd.R_alloc | apply Kd.R_drewN | apply Kd.R_drew)); exact HO_7.out))) (Kd.R_lt (by (with_reducible repeat (first | apply Kd.R_alloc | apply Kd.R_drewN | apply Kd.R_drew)); exact HO_8.out))) (Kd.R_lt (by (with_reducible repeat (first | apply Kd.R_alloc | apply Kd.R_drewN | apply Kd.R_drew)); exact HO_14.out))) (below_size (by repeat (first | (with_reducible first | exact HB.out | apply below_alloc | apply pw_below_drewN | apply below_drew1) | exact HB.out)))); have n5_ := Aside0.mk (below_step (by repeat (first | (with_reducible first | exact HB.out | apply below_alloc | apply pw_below_drewN | apply below_drew1) | exact HB.out)) hb); clear HO_7; clear HO_8; clear HO_10; clear HO_14; clear HB; have HO_7 := n0_; have HO_8 := n1_; have HO_10 := n2_; have HO_14 := n3_; have HO238 := n4_; have HB := n5_; clear n0_ n1_ n2_ n3_ n4_ n5_; (try clear hb); (try clear hb2); (try clear hk); (try clear hi); (try clear ho0)))
           go_roundg k2
           case measure => have := HJ10.out; have := HK2.out; omega
           case rel => exact ⟨(t236), (wrap64 (x15_2 + 1)), (by first | rfl | (simp; done) | (simp [*]; done)), H', ⟨by have := HJ10.out; have := HK2.out; omega⟩, ⟨by (with_reducible repeat (first | apply Kd.R_alloc | apply Kd.R_drewN | apply Kd.R_drew)); exact Kd.R_mono HO_7.out (fun _ hk => hk.1)⟩, ⟨by (with_reducible repeat (first | apply Kd.R_alloc | apply Kd.R_drewN | apply Kd.R_drew)); exact Kd.R_mono HO_8.out (fun _ hk => ⟨hk.1.1, hk.2⟩)⟩, ⟨by (with_reducible repeat (first | apply Kd.R_alloc | apply Kd.R_drewN | apply Kd.R_drew)); exact HO_10.out⟩, ⟨by (with_reducible repeat (first | apply Kd.R_alloc | apply Kd.R_drewN | apply Kd.R_drew)); exact Kd.R_mono HO238.out (fun _ hk => hk.1.2)⟩, ⟨by repeat (first | (with_reducible first | exact HB.out | apply below_alloc | apply pw_below_drewN | apply below_drew1) | exact HB.out)⟩⟩
          ·replace c43 := Bool.eq_false_iff.mpr c43
           subst c43
           have H1 : (some false) = some r := by rw [if_neg (show ¬ (false = true) by decide)] at H; exact H
           clear H
           have H := H1
           clear H1
           obtain rfl := Option.some.inj H
           obtain ⟨Ao47, co47, eo47⟩ := Kd.R_slice HO_10.out
           subst eo47
           have p235 : 0 ≤ (x15_2 : Int) := of_decide_eq_true (by first | (with_reducible assumption) | assumption)
           have q235 : x15_2 < (t227.length : Int) := of_decide_eq_true (by first | (with_reducible assumption) | assumption)
           obtain ⟨ad235, e235, hx235_0, hx235_1⟩ := at_T54 (Kd.R_reads' HO_10.out).2.2 x15_2 p235 q235
           cases e235
           replace p235 := eq_true p235
           replace q235 := eq_true q235
           obtain ⟨Ao48, co48, eo48⟩ := Kd.R_slice HO_14.out
           subst eo48
           go_wp2_with (first | ((with_reducible refine gate_callee (f := 43) rfl ?_); refine goesL_ (some 97) rfl rfl Try.func43 (by kernel_rfl) rfl #[.int .i64 t218, .agg #[.int .i64 ((rd_T54 t227 x15_2).f0), .int .i64 ((rd_T54 t227 x15_2).f1)], .slice Ao48 x14_2.length co48] rfl (by (try simp only [List.map_toArray, List.map_cons, List.map_nil]); first | done | rfl | (simp only [List.length_drop, List.length_take]; rfl)) ?_; (with_reducible refine (impl_ExchangeLanes.calls k2 t218 ((rd_T54 t227 x15_2).f0) ((rd_T54 t227 x15_2).f1) _ _ x14_2 t236 false _ ?side1 ?side2 A42.out).mono ?_); (case side1 => repeat (first | exact (Kd.R_reads' HO_14.out).2.2 | (with_reducible refine Kd.C_alloc ?_ _) | (with_reducible refine Kd.C_drewN ?_ _) | (with_reducible refine Kd.C_drew ?_))); (case side2 => exact (Kd.R_reads' HO_14.out).2.1); rintro e w49 ⟨v237, rfl, ho0, hb⟩; refine ⟨_, rfl, ?_⟩; have n0_ := Aside0.mk (Kd.R_elder' (by (with_reducible repeat (first | apply Kd.R_alloc | apply Kd.R_drewN | apply Kd.R_drew)); exact HO_7.out) (Kd.R_base ho0) hb); have n1_ := Aside0.mk (Kd.R_elder' (by (with_reducible repeat (first | apply Kd.R_alloc | apply Kd.R_drewN | apply Kd.R_drew)); exact HO_8.out) (Kd.R_base ho0) hb); have n2_ := Aside0.mk (Kd.R_below (by (with_reducible repeat (first | apply Kd.R_alloc | apply Kd.R_drewN | apply Kd.R_drew)); exact HO_10.out) hb); have n3_ := Aside0.mk (Kd.R_elder' (by (with_reducible repeat (first | apply Kd.R_alloc | apply Kd.R_drewN | apply Kd.R_drew)); exact HO_14.out) (Kd.R_base ho0) hb); have n4_ := Aside0.mk (Kd.R_lower (Kd.R_new' (Kd.R_new' (Kd.R_new' ho0 (Kd.R_lt (by (with_reducible repeat (first | apply Kd.R_alloc | apply Kd.R_drewN | apply Kd.R_drew)); exact HO_7.out))) (Kd.R_lt (by (with_reducible repeat (first | apply Kd.R_alloc | apply Kd.R_drewN | apply Kd.R_drew)); exact HO_8.out))) (Kd.R_lt (by (with_reducible repeat (first | apply Kd.R_alloc | apply Kd.R_drewN | apply Kd.R_drew)); exact HO_14.out))) (below_size (by repeat (first | (with_reducible first | exact HB.out | apply below_alloc | apply pw_below_drewN | apply below_drew1) | exact HB.out)))); have n5_ := Aside0.mk (below_step (by repeat (first | (with_reducible first | exact HB.out | apply below_alloc | apply pw_below_drewN | apply below_drew1) | exact HB.out)) hb); clear HO_7; clear HO_8; clear HO_10; clear HO_14; clear HB; have HO_7 := n0_; have HO_8 := n1_; have HO_10 := n2_; have HO_14 := n3_; have HO238 := n4_; have HB := n5_; clear n0_ n1_ n2_ n3_ n4_ n5_; (try clear hb); (try clear hb2); (try clear hk); (try clear hi); (try clear ho0)))
           go_ret
           exact ⟨by first | rfl | (simp [errW_none, errW_some] <;> rfl) | (simp [*, errW_none, errW_some] <;> rfl), by repeat (first | (with_reducible first | exact HB.out | apply below_alloc | apply pw_below_drewN | apply below_drew1) | exact HB.out)⟩
         ·rw [if_neg c41] at H
          exact absurd H (by simp)
        ·rw [if_neg c40] at H
         have c40b0 : decide (x15_2 < (t227.length : Int)) = false := decide_eq_false c40
         clear c40
         have H' := Aside0.mk H
         clear H
         obtain ⟨Ao50, co50, eo50⟩ := Kd.R_slice HO_10.out
         subst eo50
         go_wp2
         go_loopg [18] k2 (fun kq v18 w' => ∃ (x18_3 : Int), v18 = .int .i64 x18_3 ∧ Aside0 (laws_FnSorted.l1 kq t220 t223 t231 x14_2 x18_3 = some r) ∧ Aside0 (kq ≤ k2) ∧ Aside0 (Kd.R (Kd.int .i64) 2 w' w.heap.size (fun k_ => some k_ ≠ (v225 : Value).ownBlock) (.slice Ao15 t220.length co15) t220) ∧ Aside0 (Kd.R (Kd.int .i64) 2 w' w.heap.size (fun k_ => some k_ ≠ ((.slice Ao15 t220.length co15) : Value).ownBlock ∧ some k_ ≠ (u14 : Value).ownBlock) v225 t223) ∧ Aside0 (Kd.R (Kd.int .i64) 2 w' w.heap.size (fun k_ => some k_ ≠ (v225 : Value).ownBlock) u14 x14_2) ∧ Aside0 (Below w.heap.size w w'))
         case atStart => exact ⟨(0), (by first | rfl | (simp; done) | (simp [*]; done)), H', ⟨Nat.le_refl _⟩, ⟨by (with_reducible repeat (first | apply Kd.R_alloc | apply Kd.R_drewN | apply Kd.R_drew)); exact HO_7.out⟩, ⟨by (with_reducible repeat (first | apply Kd.R_alloc | apply Kd.R_drewN | apply Kd.R_drew)); exact HO_8.out⟩, ⟨by (with_reducible repeat (first | apply Kd.R_alloc | apply Kd.R_drewN | apply Kd.R_drew)); exact HO_14.out⟩, ⟨by repeat (first | (with_reducible first | exact HB.out | apply below_alloc | apply pw_below_drewN | apply below_drew1) | exact HB.out)⟩⟩
         case round =>
          clear H'
          try clear c1
          try clear c2
          try clear p2
          try clear q2
          try clear hx2
          try clear c3
          try clear c4
          try clear p6
          try clear c19
          try clear c20
          try clear p23
          try clear q23
          try clear hx23
          try clear c39
          try clear c40
          try clear c40b0
          try clear c41
          try clear c41b0
          try clear c43
          try clear hx235_0
          try clear hx235_1
          try clear p2
          try clear p235
          try clear q235
          obtain ⟨x18_3, rfl, HA, HK3, HO_7, HO_8, HO_14, HB⟩ := hrel
          cases gk with
          | zero => exact absurd HA.out (by simp [laws_FnSorted.l1])
          | succ k3 =>
           have H := HA.out
           clear HA
           simp only [laws_FnSorted.l1] at H
           by_cases c51 : x18_3 < (t220.length : Int)
           ·rw [if_pos c51] at H
            have c51b0 : decide (x18_3 < (t220.length : Int)) = true := decide_eq_true c51
            clear c51
            by_cases c52 : x18_3 > 0
            ·rw [if_pos c52] at H
             have c52b0 : decide (0 < x18_3) = true := decide_eq_true c52
             clear c52
             by_cases c53 : 0 ≤ x18_3
             ·rw [if_pos c53] at H
              have c53b0 : decide (0 ≤ x18_3) = true := decide_eq_true c53
              clear c53
              by_cases c54 : x18_3 < (t223.length : Int)
              ·rw [if_pos c54] at H
               have c54b0 : decide (x18_3 < (t223.length : Int)) = true := decide_eq_true c54
               clear c54
               obtain ⟨ji55, hji55⟩ : ∃ j_ : Int, (wrap64 (x18_3 - 1)) = j_ := ⟨_, rfl⟩
               replace H : (if 0 ≤ (ji55) then (if (ji55) < (t223.length : Int) then (if (rd t223 x18_3) < (rd t223 (ji55)) then (some false) else ((laws_r8Count.f k3 t223 (rd t220 x18_3)).bind fun t244 => ((laws_r8Count.f k3 t220 (rd t220 x18_3)).bind fun t246 => (if t244 = t246 then (if x18_3 < t231 then (if 0 ≤ t231 then (if t231 < (t220.length : Int) then (if (rd t220 x18_3) = (rd t220 t231) then (some false) else (laws_FnSorted.l1 k3 t220 t223 t231 x14_2 (wrap64 (x18_3 + 1)))) else (none)) else (none)) else (laws_FnSorted.l1 k3 t220 t223 t231 x14_2 (wrap64 (x18_3 + 1)))) else (some false))))) else (none)) else (none)) = some r := by first | (rw [hji55] at H; exact H) | (simp only [hji55] at H ⊢; exact H)
               have hji55w : (IntKind.i64.wrap (x18_3 - 1)) = ji55 := (i64_w _).trans hji55
               by_cases c56 : 0 ≤ (ji55)
               ·rw [if_pos c56] at H
                have c56b0 : decide (0 ≤ (ji55)) = true := decide_eq_true c56
                clear c56
                by_cases c57 : (ji55) < (t223.length : Int)
                ·rw [if_pos c57] at H
                 have c57b0 : decide ((ji55) < (t223.length : Int)) = true := decide_eq_true c57
                 clear c57
                 by_cases c58 : (rd t223 x18_3) < (rd t223 (ji55))
                 ·rw [if_pos c58] at H
                  have c58b0 : decide ((rd t223 x18_3) < (rd t223 (ji55))) = true := decide_eq_true c58
                  clear c58
                  obtain rfl := Option.some.inj H
                  try go_wp2
                  have n0_ := Aside0.mk (Kd.R_drew HO_7.out)
                  have n1_ := Aside0.mk (Kd.R_drew HO_8.out)
                  have n2_ := Aside0.mk (Kd.R_drew HO_14.out)
                  have n3_ := Aside0.mk (below_drew1 HB.out)
                  clear HO_7
                  clear HO_8
                  clear HO_14
                  clear HB
                  have HO_7 := n0_
                  have HO_8 := n1_
                  have HO_14 := n2_
                  have HB := n3_
                  clear n0_ n1_ n2_ n3_
                  obtain ⟨Ao60, co60, eo60⟩ := Kd.R_slice HO_8.out
                  (first | subst eo60 | (injection eo60 with f1_ f2_ f3_; have f4_ := f1_.symm; have f5_ := f3_.symm; clear f1_ f2_ f3_; subst f4_; subst f5_))
                  have p241 : 0 ≤ (x18_3 : Int) := of_decide_eq_true (by first | (with_reducible assumption) | assumption)
                  have q241 : x18_3 < (t223.length : Int) := of_decide_eq_true (by first | (with_reducible assumption) | assumption)
                  obtain ⟨ad241, e241, hx241_0⟩ := Kd.at_int (Kd.R_reads' HO_8.out).2.2 x18_3 p241 q241
                  cases e241
                  replace p241 := eq_true p241
                  replace q241 := eq_true q241
                  have p242 : 0 ≤ ((ji55) : Int) := of_decide_eq_true (by first | (with_reducible assumption) | assumption)
                  have q242 : (ji55) < (t223.length : Int) := of_decide_eq_true (by first | (with_reducible assumption) | assumption)
                  obtain ⟨ad242, e242, hx242_0⟩ := Kd.at_int (Kd.R_reads' HO_8.out).2.2 (ji55) p242 q242
                  obtain rfl : ad241 = ad242 := (by injection e242)
                  replace p242 := eq_true p242
                  replace q242 := eq_true q242
                  refine start_ (n := 45) (S := fun w' => w'.cell? (ad241.add (x18_3).toNat) = some (.int .i64 (rd t223 x18_3)) ∧ w'.cell? (ad241.add ((ji55)).toNat) = some (.int .i64 (rd t223 (ji55)))) (ds := []) (z9.bm 45 0) (by kernel_rfl) rfl rfl ⟨hx241_0, hx242_0⟩ (fun hHeld => ?_); refine with_tabW laws_FnSorted.tab22 laws_FnSorted.bits22 (fun HT_ HW_ => ?_)
                  generalize wr.drew = w59 at HO_7 HO_8 HO_14 HB hx241_0 hx242_0 hHeld ⊢
                  refine z9.pa (i := 0) (N := some 109) (z9.bm 45 1) HT_.out ?_
                  refine z9.pa (i := 1) (N := some 110) (z9.bm 45 3) HT_.out ?_
                  refine z9.pa (i := 2) (N := some 111) (z9.bm 45 7) HT_.out ?_
                  refine z9.pa (i := 3) (N := some 112) (z9.bm 45 15) HT_.out ?_
                  refine z9.pa (i := 4) (N := some 113) (z9.bm 45 31) HT_.out ?_
                  refine z9.pa (i := 5) (N := some 114) (z9.bm 45 63) HT_.out ?_
                  refine z9.pa (i := 7) (N := some 116) (z9.bm 45 191) HT_.out ?_
                  refine z9.pa (i := 8) (N := some 117) (z9.bm 45 447) HT_.out ?_
                  refine z9.pa (i := 9) (N := some 118) (z9.bm 45 959) HT_.out ?_
                  refine z9.pa (i := 10) (N := some 119) (z9.bm 45 1983) HT_.out ?_
                  refine z9.ta (i := 6) (N := some 115) (z9.bm 45 2047) rfl (take_ofW HT_.out HW_.out (by kernel_rfl)) (Or.inl ⟨by rfl, by rintro w' ⟨s0, s1⟩; go_simp; with_reducible rfl⟩) hHeld ?_
                  refine z9.ta (i := 11) (N := some 120) (z9.bm 45 4095) rfl (take_ofW HT_.out HW_.out (by kernel_rfl)) (Or.inl ⟨by rfl, by rintro w' ⟨s0, s1⟩; go_simp; with_reducible rfl⟩) hHeld ?_
                  refine z9.pa (i := 12) (N := some 121) (z9.bm 45 8191) HT_.out ?_
                  refine z9.pa (i := 13) (N := some 122) (z9.bm 45 16383) HT_.out ?_
                  refine z9.pa (i := 14) (N := some 123) (z9.bm 45 32767) HT_.out ?_
                  refine pure_ (i := 15) (N := some 124) (v := undef) (a' := ?_) (z9.bm 45 65535) rfl rfl (any_of HT_.out (by kernel_rfl)) (fun _ _ _ h => h) (Or.inr ⟨by rfl, rfl⟩) ?_ ?_
                  rotate_left
                  ·simp only [Act.put, List.setIfInBounds_toArray, List.set_cons_zero, List.set_cons_succ, i64_w, i32_w]
                   rfl
                  refine pure_ (i := 16) (N := some 125) (v := undef) (a' := ?_) (z9.bm 45 131071) rfl rfl (any_of HT_.out (by kernel_rfl)) (fun _ _ _ h => h) (Or.inr ⟨by rfl, rfl⟩) ?_ ?_
                  rotate_left
                  ·simp only [Act.put, List.setIfInBounds_toArray, List.set_cons_zero, List.set_cons_succ, i64_w, i32_w]
                   rfl
                  refine pure_ (i := 17) (N := some 126) (v := undef) (a' := ?_) (z9.bm 45 262143) rfl rfl (any_of HT_.out (by kernel_rfl)) (fun _ _ _ h => h) (Or.inr ⟨by rfl, rfl⟩) ?_ ?_
                  rotate_left
                  ·simp only [Act.put, List.setIfInBounds_toArray, List.set_cons_zero, List.set_cons_succ, i64_w, i32_w]
                   rfl
                  refine pure_ (i := 18) (N := some 127) (v := undef) (a' := ?_) (z9.bm 45 524287) rfl rfl (any_of HT_.out (by kernel_rfl)) (fun _ _ _ h => h) (Or.inr ⟨by rfl, rfl⟩) ?_ ?_
                  rotate_left
                  ·simp only [Act.put, List.setIfInBounds_toArray, List.set_cons_zero, List.set_cons_succ, i64_w, i32_w]
                   rfl
                  refine pure_ (i := 19) (N := some 128) (v := undef) (a' := ?_) (z9.bm 45 1048575) rfl rfl (any_of HT_.out (by kernel_rfl)) (fun _ _ _ h => h) (Or.inr ⟨by rfl, rfl⟩) ?_ ?_
                  rotate_left
                  ·simp only [Act.put, List.setIfInBounds_toArray, List.set_cons_zero, List.set_cons_succ, i64_w, i32_w]
                   rfl
                  refine pure_ (i := 20) (N := some 129) (v := undef) (a' := ?_) (z9.bm 45 2097151) rfl rfl (any_of HT_.out (by kernel_rfl)) (fun _ _ _ h => h) (Or.inr ⟨by rfl, rfl⟩) ?_ ?_
                  rotate_left
                  ·simp only [Act.put, List.setIfInBounds_toArray, List.set_cons_zero, List.set_cons_succ, i64_w, i32_w]
                   rfl
                  refine pure_ (i := 21) (N := some 130) (v := undef) (a' := ?_) (z9.bm 45 4194303) rfl rfl (any_of HT_.out (by kernel_rfl)) (fun _ _ _ h => h) (Or.inr ⟨by rfl, rfl⟩) ?_ ?_
                  rotate_left
                  ·simp only [Act.put, List.setIfInBounds_toArray, List.set_cons_zero, List.set_cons_succ, i64_w, i32_w]
                   rfl
                  refine pure_ (i := 22) (N := some 131) (v := undef) (a' := ?_) (z9.bm 45 8388607) rfl rfl (any_of HT_.out (by kernel_rfl)) (fun _ _ _ h => h) (Or.inr ⟨by rfl, rfl⟩) ?_ ?_
                  rotate_left
                  ·simp only [Act.put, List.setIfInBounds_toArray, List.set_cons_zero, List.set_cons_succ, i64_w, i32_w]
                   rfl
                  refine pure_ (i := 23) (N := some 132) (v := undef) (a' := ?_) (z9.bm 45 16777215) rfl rfl (any_of HT_.out (by kernel_rfl)) (fun _ _ _ h => h) (Or.inr ⟨by rfl, rfl⟩) ?_ ?_
                  rotate_left
                  ·simp only [Act.put, List.setIfInBounds_toArray, List.set_cons_zero, List.set_cons_succ, i64_w, i32_w]
                   rfl
                  refine pure_ (i := 24) (N := some 133) (v := undef) (a' := ?_) (z9.bm 45 33554431) rfl rfl (any_of HT_.out (by kernel_rfl)) (fun _ _ _ h => h) (Or.inr ⟨by rfl, rfl⟩) ?_ ?_
                  rotate_left
                  ·simp only [Act.put, List.setIfInBounds_toArray, List.set_cons_zero, List.set_cons_succ, i64_w, i32_w]
                   rfl
                  refine pure_ (i := 25) (N := some 134) (v := undef) (a' := ?_) (z9.bm 45 67108863) rfl rfl (any_of HT_.out (by kernel_rfl)) (fun _ _ _ h => h) (Or.inr ⟨by rfl, rfl⟩) ?_ ?_
                  rotate_left
                  ·simp only [Act.put, List.setIfInBounds_toArray, List.set_cons_zero, List.set_cons_succ, i64_w, i32_w]
                   rfl
                  refine pure_ (i := 26) (N := some 135) (v := undef) (a' := ?_) (z9.bm 45 134217727) rfl rfl (any_of HT_.out (by kernel_rfl)) (fun _ _ _ h => h) (Or.inr ⟨by rfl, rfl⟩) ?_ ?_
                  rotate_left
                  ·simp only [Act.put, List.setIfInBounds_toArray, List.set_cons_zero, List.set_cons_succ, i64_w, i32_w]
                   rfl
                  refine pure_ (i := 27) (N := some 136) (v := undef) (a' := ?_) (z9.bm 45 268435455) rfl rfl (any_of HT_.out (by kernel_rfl)) (fun _ _ _ h => h) (Or.inr ⟨by rfl, rfl⟩) ?_ ?_
                  rotate_left
                  ·simp only [Act.put, List.setIfInBounds_toArray, List.set_cons_zero, List.set_cons_succ, i64_w, i32_w]
                   rfl
                  refine z9.pa (i := 28) (N := some 137) (z9.bm 45 536870911) HT_.out ?_
                  refine z9.pa (i := 29) (N := some 138) (z9.bm 45 1073741823) HT_.out ?_
                  refine pure_ (i := 30) (N := some 139) (v := undef) (a' := ?_) (z9.bm 45 2147483647) rfl rfl (any_of HT_.out (by kernel_rfl)) (fun _ _ _ h => h) (Or.inr ⟨by rfl, rfl⟩) ?_ ?_
                  rotate_left
                  ·simp only [Act.put, List.setIfInBounds_toArray, List.set_cons_zero, List.set_cons_succ, i64_w, i32_w]
                   rfl
                  refine pure_ (i := 31) (N := some 140) (v := undef) (a' := ?_) (z9.bm 45 4294967295) rfl rfl (any_of HT_.out (by kernel_rfl)) (fun _ _ _ h => h) (Or.inr ⟨by rfl, rfl⟩) ?_ ?_
                  rotate_left
                  ·simp only [Act.put, List.setIfInBounds_toArray, List.set_cons_zero, List.set_cons_succ, i64_w, i32_w]
                   rfl
                  refine pure_ (i := 32) (N := some 141) (v := undef) (a' := ?_) (z9.bm 45 8589934591) rfl rfl (any_of HT_.out (by kernel_rfl)) (fun _ _ _ h => h) (Or.inr ⟨by rfl, rfl⟩) ?_ ?_
                  rotate_left
                  ·simp only [Act.put, List.setIfInBounds_toArray, List.set_cons_zero, List.set_cons_succ, i64_w, i32_w]
                   rfl
                  refine pure_ (i := 33) (N := some 142) (v := undef) (a' := ?_) (z9.bm 45 17179869183) rfl rfl (any_of HT_.out (by kernel_rfl)) (fun _ _ _ h => h) (Or.inr ⟨by rfl, rfl⟩) ?_ ?_
                  rotate_left
                  ·simp only [Act.put, List.setIfInBounds_toArray, List.set_cons_zero, List.set_cons_succ, i64_w, i32_w]
                   rfl
                  refine pure_ (i := 34) (N := some 143) (v := undef) (a' := ?_) (z9.bm 45 34359738367) rfl rfl (any_of HT_.out (by kernel_rfl)) (fun _ _ _ h => h) (Or.inr ⟨by rfl, rfl⟩) ?_ ?_
                  rotate_left
                  ·simp only [Act.put, List.setIfInBounds_toArray, List.set_cons_zero, List.set_cons_succ, i64_w, i32_w]
                   rfl
                  refine pure_ (i := 35) (N := some 144) (v := undef) (a' := ?_) (z9.bm 45 68719476735) rfl rfl (any_of HT_.out (by kernel_rfl)) (fun _ _ _ h => h) (Or.inr ⟨by rfl, rfl⟩) ?_ ?_
                  rotate_left
                  ·simp only [Act.put, List.setIfInBounds_toArray, List.set_cons_zero, List.set_cons_succ, i64_w, i32_w]
                   rfl
                  refine pure_ (i := 36) (N := some 145) (v := undef) (a' := ?_) (z9.bm 45 137438953471) rfl rfl (any_of HT_.out (by kernel_rfl)) (fun _ _ _ h => h) (Or.inr ⟨by rfl, rfl⟩) ?_ ?_
                  rotate_left
                  ·simp only [Act.put, List.setIfInBounds_toArray, List.set_cons_zero, List.set_cons_succ, i64_w, i32_w]
                   rfl
                  refine pure_ (i := 37) (N := some 146) (v := undef) (a' := ?_) (z9.bm 45 274877906943) rfl rfl (any_of HT_.out (by kernel_rfl)) (fun _ _ _ h => h) (Or.inr ⟨by rfl, rfl⟩) ?_ ?_
                  rotate_left
                  ·simp only [Act.put, List.setIfInBounds_toArray, List.set_cons_zero, List.set_cons_succ, i64_w, i32_w]
                   rfl
                  refine pure_ (i := 38) (N := some 147) (v := undef) (a' := ?_) (z9.bm 45 549755813887) rfl rfl (any_of HT_.out (by kernel_rfl)) (fun _ _ _ h => h) (Or.inr ⟨by rfl, rfl⟩) ?_ ?_
                  rotate_left
                  ·simp only [Act.put, List.setIfInBounds_toArray, List.set_cons_zero, List.set_cons_succ, i64_w, i32_w]
                   rfl
                  refine pure_ (i := 39) (N := some 148) (v := undef) (a' := ?_) (z9.bm 45 1099511627775) rfl rfl (any_of HT_.out (by kernel_rfl)) (fun _ _ _ h => h) (Or.inr ⟨by rfl, rfl⟩) ?_ ?_
                  rotate_left
                  ·simp only [Act.put, List.setIfInBounds_toArray, List.set_cons_zero, List.set_cons_succ, i64_w, i32_w]
                   rfl
                  refine pure_ (i := 40) (N := some 149) (v := undef) (a' := ?_) (z9.bm 45 2199023255551) rfl rfl (any_of HT_.out (by kernel_rfl)) (fun _ _ _ h => h) (Or.inr ⟨by rfl, rfl⟩) ?_ ?_
                  rotate_left
                  ·simp only [Act.put, List.setIfInBounds_toArray, List.set_cons_zero, List.set_cons_succ, i64_w, i32_w]
                   rfl
                  refine pure_ (i := 41) (N := some 150) (v := undef) (a' := ?_) (z9.bm 45 4398046511103) rfl rfl (any_of HT_.out (by kernel_rfl)) (fun _ _ _ h => h) (Or.inr ⟨by rfl, rfl⟩) ?_ ?_
                  rotate_left
                  ·simp only [Act.put, List.setIfInBounds_toArray, List.set_cons_zero, List.set_cons_succ, i64_w, i32_w]
                   rfl
                  refine pure_ (i := 42) (N := some 151) (v := undef) (a' := ?_) (z9.bm 45 8796093022207) rfl rfl (any_of HT_.out (by kernel_rfl)) (fun _ _ _ h => h) (Or.inr ⟨by rfl, rfl⟩) ?_ ?_
                  rotate_left
                  ·simp only [Act.put, List.setIfInBounds_toArray, List.set_cons_zero, List.set_cons_succ, i64_w, i32_w]
                   rfl
                  refine pure_ (i := 43) (N := some 152) (v := undef) (a' := ?_) (z9.bm 45 17592186044415) rfl rfl (any_of HT_.out (by kernel_rfl)) (fun _ _ _ h => h) (Or.inr ⟨by rfl, rfl⟩) ?_ ?_
                  rotate_left
                  ·simp only [Act.put, List.setIfInBounds_toArray, List.set_cons_zero, List.set_cons_succ, i64_w, i32_w]
                   rfl
                  refine z9.pa (i := 44) (N := some 153) (z9.bm 45 35184372088831) HT_.out ?_
                  refine done_ (done_of HT_.out (by kernel_rfl)) ?_
                  try go_wp2
                  go_ret
                  exact ⟨by first | rfl | (simp [errW_none, errW_some] <;> rfl) | (simp only [← hji55]; first | rfl | (simp [errW_none, errW_some] <;> rfl)) | (simp [*, errW_none, errW_some] <;> rfl), by repeat (first | (with_reducible first | exact HB.out | apply below_alloc | apply pw_below_drewN | apply below_drew1) | exact HB.out)⟩
                 ·rw [if_neg c58] at H
                  have c58b0 : decide ((rd t223 x18_3) < (rd t223 (ji55))) = false := decide_eq_false c58
                  clear c58
                  replace H := Option.bind_eq_some_iff.mp H
                  obtain ⟨t244, A610, H⟩ := H
                  replace H : ((laws_r8Count.f k3 t220 (rd t220 x18_3)).bind fun t246 => (if t244 = t246 then (if x18_3 < t231 then (if 0 ≤ t231 then (if t231 < (t220.length : Int) then (if (rd t220 x18_3) = (rd t220 t231) then (some false) else (laws_FnSorted.l1 k3 t220 t223 t231 x14_2 (wrap64 (x18_3 + 1)))) else (none)) else (none)) else (laws_FnSorted.l1 k3 t220 t223 t231 x14_2 (wrap64 (x18_3 + 1)))) else (some false))) = some r := H
                  have A61 := Aside0.mk A610
                  clear A610
                  replace H := Option.bind_eq_some_iff.mp H
                  obtain ⟨t246, A620, H⟩ := H
                  replace H : (if t244 = t246 then (if x18_3 < t231 then (if 0 ≤ t231 then (if t231 < (t220.length : Int) then (if (rd t220 x18_3) = (rd t220 t231) then (some false) else (laws_FnSorted.l1 k3 t220 t223 t231 x14_2 (wrap64 (x18_3 + 1)))) else (none)) else (none)) else (laws_FnSorted.l1 k3 t220 t223 t231 x14_2 (wrap64 (x18_3 + 1)))) else (some false)) = some r := H
                  have A62 := Aside0.mk A620
                  clear A620
                  by_cases c63 : t244 = t246
                  ·rw [if_pos c63] at H
                   have c63b0 : (t244 == t246) = true := beq_iff_eq.mpr c63
                   have c63b1 : (t244 != t246) = false := bne_eq_false_iff_eq.mpr c63
                   clear c63
                   by_cases c64 : x18_3 < t231
                   ·rw [if_pos c64] at H
                    have c64b0 : decide (x18_3 < t231) = true := decide_eq_true c64
                    clear c64
                    by_cases c65 : 0 ≤ t231
                    ·rw [if_pos c65] at H
                     have c65b0 : decide (0 ≤ t231) = true := decide_eq_true c65
                     clear c65
                     by_cases c66 : t231 < (t220.length : Int)
                     ·rw [if_pos c66] at H
                      have c66b0 : decide (t231 < (t220.length : Int)) = true := decide_eq_true c66
                      clear c66
                      by_cases c67 : (rd t220 x18_3) = (rd t220 t231)
                      ·rw [if_pos c67] at H
                       have c67b0 : ((rd t220 x18_3) == (rd t220 t231)) = true := beq_iff_eq.mpr c67
                       have c67b1 : ((rd t220 x18_3) != (rd t220 t231)) = false := bne_eq_false_iff_eq.mpr c67
                       clear c67
                       obtain rfl := Option.some.inj H
                       try go_wp2
                       have n0_ := Aside0.mk (Kd.R_drew HO_7.out)
                       have n1_ := Aside0.mk (Kd.R_drew HO_8.out)
                       have n2_ := Aside0.mk (Kd.R_drew HO_14.out)
                       have n3_ := Aside0.mk (below_drew1 HB.out)
                       clear HO_7
                       clear HO_8
                       clear HO_14
                       clear HB
                       have HO_7 := n0_
                       have HO_8 := n1_
                       have HO_14 := n2_
                       have HB := n3_
                       clear n0_ n1_ n2_ n3_
                       obtain ⟨Ao69, co69, eo69⟩ := Kd.R_slice HO_8.out
                       (first | subst eo69 | (injection eo69 with f1_ f2_ f3_; have f4_ := f1_.symm; have f5_ := f3_.symm; clear f1_ f2_ f3_; subst f4_; subst f5_))
                       have p241 : 0 ≤ (x18_3 : Int) := of_decide_eq_true (by first | (with_reducible assumption) | assumption)
                       have q241 : x18_3 < (t223.length : Int) := of_decide_eq_true (by first | (with_reducible assumption) | assumption)
                       obtain ⟨ad241, e241, hx241_0⟩ := Kd.at_int (Kd.R_reads' HO_8.out).2.2 x18_3 p241 q241
                       cases e241
                       replace p241 := eq_true p241
                       replace q241 := eq_true q241
                       have p242 : 0 ≤ ((ji55) : Int) := of_decide_eq_true (by first | (with_reducible assumption) | assumption)
                       have q242 : (ji55) < (t223.length : Int) := of_decide_eq_true (by first | (with_reducible assumption) | assumption)
                       obtain ⟨ad242, e242, hx242_0⟩ := Kd.at_int (Kd.R_reads' HO_8.out).2.2 (ji55) p242 q242
                       obtain rfl : ad241 = ad242 := (by injection e242)
                       replace p242 := eq_true p242
                       replace q242 := eq_true q242
                       have p243 : 0 ≤ (x18_3 : Int) := of_decide_eq_true (by first | (with_reducible assumption) | assumption)
                       have q243 : x18_3 < (t220.length : Int) := of_decide_eq_true (by first | (with_reducible assumption) | assumption)
                       obtain ⟨ad243, e243, hx243_0⟩ := Kd.at_int (Kd.R_reads' HO_7.out).2.2 x18_3 p243 q243
                       cases e243
                       replace p243 := eq_true p243
                       replace q243 := eq_true q243
                       have p245 : 0 ≤ (x18_3 : Int) := of_decide_eq_true (by first | (with_reducible assumption) | assumption)
                       have q245 : x18_3 < (t220.length : Int) := of_decide_eq_true (by first | (with_reducible assumption) | assumption)
                       obtain ⟨ad245, e245, hx245_0⟩ := Kd.at_int (Kd.R_reads' HO_7.out).2.2 x18_3 p245 q245
                       obtain rfl : ad243 = ad245 := (by injection e245)
                       replace p245 := eq_true p245
                       replace q245 := eq_true q245
                       have p247 : 0 ≤ (x18_3 : Int) := of_decide_eq_true (by first | (with_reducible assumption) | assumption)
                       have q247 : x18_3 < (t220.length : Int) := of_decide_eq_true (by first | (with_reducible assumption) | assumption)
                       obtain ⟨ad247, e247, hx247_0⟩ := Kd.at_int (Kd.R_reads' HO_7.out).2.2 x18_3 p247 q247
                       obtain rfl : ad243 = ad247 := (by injection e247)
                       replace p247 := eq_true p247
                       replace q247 := eq_true q247
                       have p248 : 0 ≤ (t231 : Int) := of_decide_eq_true (by first | (with_reducible assumption) | assumption)
                       have q248 : t231 < (t220.length : Int) := of_decide_eq_true (by first | (with_reducible assumption) | assumption)
                       obtain ⟨ad248, e248, hx248_0⟩ := Kd.at_int (Kd.R_reads' HO_7.out).2.2 t231 p248 q248
                       obtain rfl : ad243 = ad248 := (by injection e248)
                       replace p248 := eq_true p248
                       replace q248 := eq_true q248
                       refine start_ (n := 45) (S := fun w' => w'.cell? (ad241.add (x18_3).toNat) = some (.int .i64 (rd t223 x18_3)) ∧ w'.cell? (ad241.add ((ji55)).toNat) = some (.int .i64 (rd t223 (ji55))) ∧ w'.cell? (ad243.add (x18_3).toNat) = some (.int .i64 (rd t220 x18_3)) ∧ w'.cell? (ad243.add (x18_3).toNat) = some (.int .i64 (rd t220 x18_3)) ∧ w'.cell? (ad243.add (x18_3).toNat) = some (.int .i64 (rd t220 x18_3)) ∧ w'.cell? (ad243.add (t231).toNat) = some (.int .i64 (rd t220 t231))) (ds := []) (z9.bm 45 0) (by kernel_rfl) rfl rfl ⟨hx241_0, hx242_0, hx243_0, hx245_0, hx247_0, hx248_0⟩ (fun hHeld => ?_); refine with_tabW laws_FnSorted.tab22 laws_FnSorted.bits22 (fun HT_ HW_ => ?_)
                       generalize wr.drew = w68 at HO_7 HO_8 HO_14 HB hx241_0 hx242_0 hx243_0 hx245_0 hx247_0 hx248_0 hHeld ⊢
                       refine z9.pa (i := 0) (N := some 109) (z9.bm 45 1) HT_.out ?_
                       refine z9.pa (i := 1) (N := some 110) (z9.bm 45 3) HT_.out ?_
                       refine z9.pa (i := 2) (N := some 111) (z9.bm 45 7) HT_.out ?_
                       refine z9.pa (i := 3) (N := some 112) (z9.bm 45 15) HT_.out ?_
                       refine z9.pa (i := 4) (N := some 113) (z9.bm 45 31) HT_.out ?_
                       refine z9.pa (i := 5) (N := some 114) (z9.bm 45 63) HT_.out ?_
                       refine z9.pa (i := 7) (N := some 116) (z9.bm 45 191) HT_.out ?_
                       refine z9.pa (i := 8) (N := some 117) (z9.bm 45 447) HT_.out ?_
                       refine z9.pa (i := 9) (N := some 118) (z9.bm 45 959) HT_.out ?_
                       refine z9.pa (i := 10) (N := some 119) (z9.bm 45 1983) HT_.out ?_
                       refine z9.ta (i := 6) (N := some 115) (z9.bm 45 2047) rfl (take_ofW HT_.out HW_.out (by kernel_rfl)) (Or.inl ⟨by rfl, by rintro w' ⟨s0, s1, s2, s3, s4, s5⟩; go_simp; with_reducible rfl⟩) hHeld ?_
                       refine z9.ta (i := 11) (N := some 120) (z9.bm 45 4095) rfl (take_ofW HT_.out HW_.out (by kernel_rfl)) (Or.inl ⟨by rfl, by rintro w' ⟨s0, s1, s2, s3, s4, s5⟩; go_simp; with_reducible rfl⟩) hHeld ?_
                       refine z9.pa (i := 12) (N := some 121) (z9.bm 45 8191) HT_.out ?_
                       refine z9.pa (i := 13) (N := some 122) (z9.bm 45 16383) HT_.out ?_
                       refine z9.pa (i := 14) (N := some 123) (z9.bm 45 32767) HT_.out ?_
                       refine z9.pa (i := 15) (N := some 124) (z9.bm 45 65535) HT_.out ?_
                       refine z9.pa (i := 16) (N := some 125) (z9.bm 45 131071) HT_.out ?_
                       refine z9.pa (i := 17) (N := some 126) (z9.bm 45 262143) HT_.out ?_
                       refine z9.pa (i := 18) (N := some 127) (z9.bm 45 524287) HT_.out ?_
                       refine z9.pa (i := 21) (N := some 130) (z9.bm 45 2621439) HT_.out ?_
                       refine z9.pa (i := 22) (N := some 131) (z9.bm 45 6815743) HT_.out ?_
                       refine z9.pa (i := 23) (N := some 132) (z9.bm 45 15204351) HT_.out ?_
                       refine z9.pa (i := 24) (N := some 133) (z9.bm 45 31981567) HT_.out ?_
                       refine z9.ta (i := 19) (N := some 128) (z9.bm 45 32505855) rfl (take_ofW HT_.out HW_.out (by kernel_rfl)) (Or.inl ⟨by rfl, by rintro w' ⟨s0, s1, s2, s3, s4, s5⟩; go_simp; with_reducible rfl⟩) hHeld ?_
                       refine z9.ta (i := 25) (N := some 134) (z9.bm 45 66060287) rfl (take_ofW HT_.out HW_.out (by kernel_rfl)) (Or.inl ⟨by rfl, by rintro w' ⟨s0, s1, s2, s3, s4, s5⟩; go_simp; with_reducible rfl⟩) hHeld ?_
                       refine one_ (i := 20) (N := some 129) (z9.bm 45 67108863) rfl rfl (one_of HT_.out (by kernel_rfl)) (by decide) (fun K hK => ?_)
                       refine goes_ Try.func46 (by kernel_rfl) rfl #[.slice (some ad241) t223.length co69, .int .i64 (rd t220 x18_3)] (by rfl) rfl rfl (by (try simp only [List.map_toArray, List.map_cons, List.map_nil]); first | done | rfl | (simp only [List.length_drop, List.length_take]; rfl)) ?_
                       with_reducible refine (laws_r8Count.calls k3 _ _ t223 (rd t220 x18_3) t244 _ ?side1 ?side2 A61.out).mono ?_
                       (case side1 => repeat (first | exact (Kd.R_reads' HO_8.out).2.2 | (with_reducible refine Kd.C_alloc ?_ _) | (with_reducible refine Kd.C_drewN ?_ _) | (with_reducible refine Kd.C_drew ?_)))
                       (case side2 => exact (Kd.R_reads' HO_8.out).2.1)
                       rintro e w' ⟨rfl, ⟨nd, rfl⟩⟩
                       refine ⟨_, rfl, ?_⟩
                       refine hK.out _ _ ⟨hHeld.1, hHeld.2.1, hHeld.2.2.1, hHeld.2.2.2.1, hHeld.2.2.2.2.1, hHeld.2.2.2.2.2⟩ (fun hHeld => ?_)
                       clear hK K
                       refine norm_ (a' := ?_) ?_ ?_
                       rotate_left
                       ·show Act.put _ (some 129) _ = _
                        simp only [Act.put, List.setIfInBounds_toArray, List.set_cons_zero, List.set_cons_succ, i64_w, i32_w]
                        rfl
                       refine one_ (i := 26) (N := some 135) (z9.bm 45 134217727) rfl rfl (one_of HT_.out (by kernel_rfl)) (by decide) (fun K hK => ?_)
                       refine goes_ Try.func46 (by kernel_rfl) rfl #[.slice (some ad243) t220.length co15, .int .i64 (rd t220 x18_3)] (by rfl) rfl rfl (by (try simp only [List.map_toArray, List.map_cons, List.map_nil]); first | done | rfl | (simp only [List.length_drop, List.length_take]; rfl)) ?_
                       with_reducible refine (laws_r8Count.calls k3 _ _ t220 (rd t220 x18_3) t246 _ ?side1 ?side2 A62.out).mono ?_
                       (case side1 => repeat (first | exact (Kd.R_reads' HO_7.out).2.2 | (with_reducible refine Kd.C_alloc ?_ _) | (with_reducible refine Kd.C_drewN ?_ _) | (with_reducible refine Kd.C_drew ?_)))
                       (case side2 => exact (Kd.R_reads' HO_7.out).2.1)
                       rintro e w' ⟨rfl, ⟨nd, rfl⟩⟩
                       refine ⟨_, rfl, ?_⟩
                       refine hK.out _ _ ⟨hHeld.1, hHeld.2.1, hHeld.2.2.1, hHeld.2.2.2.1, hHeld.2.2.2.2.1, hHeld.2.2.2.2.2⟩ (fun hHeld => ?_)
                       clear hK K
                       refine norm_ (a' := ?_) ?_ ?_
                       rotate_left
                       ·show Act.put _ (some 135) _ = _
                        simp only [Act.put, List.setIfInBounds_toArray, List.set_cons_zero, List.set_cons_succ, i64_w, i32_w]
                        rfl
                       refine z9.pa (i := 27) (N := some 136) (z9.bm 45 268435455) HT_.out ?_
                       refine z9.pa (i := 28) (N := some 137) (z9.bm 45 536870911) HT_.out ?_
                       refine z9.pa (i := 29) (N := some 138) (z9.bm 45 1073741823) HT_.out ?_
                       refine z9.pa (i := 30) (N := some 139) (z9.bm 45 2147483647) HT_.out ?_
                       refine z9.pa (i := 31) (N := some 140) (z9.bm 45 4294967295) HT_.out ?_
                       refine z9.pa (i := 32) (N := some 141) (z9.bm 45 8589934591) HT_.out ?_
                       refine z9.pa (i := 33) (N := some 142) (z9.bm 45 17179869183) HT_.out ?_
                       refine z9.pa (i := 34) (N := some 143) (z9.bm 45 34359738367) HT_.out ?_
                       refine z9.pa (i := 35) (N := some 144) (z9.bm 45 68719476735) HT_.out ?_
                       refine z9.pa (i := 36) (N := some 145) (z9.bm 45 137438953471) HT_.out ?_
                       refine z9.pa (i := 38) (N := some 147) (z9.bm 45 412316860415) HT_.out ?_
                       refine z9.pa (i := 39) (N := some 148) (z9.bm 45 962072674303) HT_.out ?_
                       refine z9.pa (i := 40) (N := some 149) (z9.bm 45 2061584302079) HT_.out ?_
                       refine z9.ta (i := 37) (N := some 146) (z9.bm 45 2199023255551) rfl (take_ofW HT_.out HW_.out (by kernel_rfl)) (Or.inl ⟨by rfl, by rintro w' ⟨s0, s1, s2, s3, s4, s5⟩; go_simp; with_reducible rfl⟩) hHeld ?_
                       refine z9.ta (i := 41) (N := some 150) (z9.bm 45 4398046511103) rfl (take_ofW HT_.out HW_.out (by kernel_rfl)) (Or.inl ⟨by rfl, by rintro w' ⟨s0, s1, s2, s3, s4, s5⟩; go_simp; with_reducible rfl⟩) hHeld ?_
                       refine z9.pa (i := 42) (N := some 151) (z9.bm 45 8796093022207) HT_.out ?_
                       refine z9.pa (i := 43) (N := some 152) (z9.bm 45 17592186044415) HT_.out ?_
                       refine z9.pa (i := 44) (N := some 153) (z9.bm 45 35184372088831) HT_.out ?_
                       refine done_ (done_of HT_.out (by kernel_rfl)) ?_
                       try go_wp2
                       go_ret
                       exact ⟨by first | rfl | (simp [errW_none, errW_some] <;> rfl) | (simp only [← hji55]; first | rfl | (simp [errW_none, errW_some] <;> rfl)) | (simp [*, errW_none, errW_some] <;> rfl), by repeat (first | (with_reducible first | exact HB.out | apply below_alloc | apply pw_below_drewN | apply below_drew1) | exact HB.out)⟩
                      ·rw [if_neg c67] at H
                       have c67b0 : ((rd t220 x18_3) == (rd t220 t231)) = false := beq_eq_false_iff_ne.mpr c67
                       have c67b1 : ((rd t220 x18_3) != (rd t220 t231)) = true := bne_iff_ne.mpr c67
                       have H' := Aside0.mk H
                       clear H
                       try go_wp2
                       have n0_ := Aside0.mk (Kd.R_drew HO_7.out)
                       have n1_ := Aside0.mk (Kd.R_drew HO_8.out)
                       have n2_ := Aside0.mk (Kd.R_drew HO_14.out)
                       have n3_ := Aside0.mk (below_drew1 HB.out)
                       clear HO_7
                       clear HO_8
                       clear HO_14
                       clear HB
                       have HO_7 := n0_
                       have HO_8 := n1_
                       have HO_14 := n2_
                       have HB := n3_
                       clear n0_ n1_ n2_ n3_
                       obtain ⟨Ao71, co71, eo71⟩ := Kd.R_slice HO_8.out
                       (first | subst eo71 | (injection eo71 with f1_ f2_ f3_; have f4_ := f1_.symm; have f5_ := f3_.symm; clear f1_ f2_ f3_; subst f4_; subst f5_))
                       have p241 : 0 ≤ (x18_3 : Int) := of_decide_eq_true (by first | (with_reducible assumption) | assumption)
                       have q241 : x18_3 < (t223.length : Int) := of_decide_eq_true (by first | (with_reducible assumption) | assumption)
                       obtain ⟨ad241, e241, hx241_0⟩ := Kd.at_int (Kd.R_reads' HO_8.out).2.2 x18_3 p241 q241
                       cases e241
                       replace p241 := eq_true p241
                       replace q241 := eq_true q241
                       have p242 : 0 ≤ ((ji55) : Int) := of_decide_eq_true (by first | (with_reducible assumption) | assumption)
                       have q242 : (ji55) < (t223.length : Int) := of_decide_eq_true (by first | (with_reducible assumption) | assumption)
                       obtain ⟨ad242, e242, hx242_0⟩ := Kd.at_int (Kd.R_reads' HO_8.out).2.2 (ji55) p242 q242
                       obtain rfl : ad241 = ad242 := (by injection e242)
                       replace p242 := eq_true p242
                       replace q242 := eq_true q242
                       have p243 : 0 ≤ (x18_3 : Int) := of_decide_eq_true (by first | (with_reducible assumption) | assumption)
                       have q243 : x18_3 < (t220.length : Int) := of_decide_eq_true (by first | (with_reducible assumption) | assumption)
                       obtain ⟨ad243, e243, hx243_0⟩ := Kd.at_int (Kd.R_reads' HO_7.out).2.2 x18_3 p243 q243
                       cases e243
                       replace p243 := eq_true p243
                       replace q243 := eq_true q243
                       have p245 : 0 ≤ (x18_3 : Int) := of_decide_eq_true (by first | (with_reducible assumption) | assumption)
                       have q245 : x18_3 < (t220.length : Int) := of_decide_eq_true (by first | (with_reducible assumption) | assumption)
                       obtain ⟨ad245, e245, hx245_0⟩ := Kd.at_int (Kd.R_reads' HO_7.out).2.2 x18_3 p245 q245
                       obtain rfl : ad243 = ad245 := (by injection e245)
                       replace p245 := eq_true p245
                       replace q245 := eq_true q245
                       have p247 : 0 ≤ (x18_3 : Int) := of_decide_eq_true (by first | (with_reducible assumption) | assumption)
                       have q247 : x18_3 < (t220.length : Int) := of_decide_eq_true (by first | (with_reducible assumption) | assumption)
                       obtain ⟨ad247, e247, hx247_0⟩ := Kd.at_int (Kd.R_reads' HO_7.out).2.2 x18_3 p247 q247
                       obtain rfl : ad243 = ad247 := (by injection e247)
                       replace p247 := eq_true p247
                       replace q247 := eq_true q247
                       have p248 : 0 ≤ (t231 : Int) := of_decide_eq_true (by first | (with_reducible assumption) | assumption)
                       have q248 : t231 < (t220.length : Int) := of_decide_eq_true (by first | (with_reducible assumption) | assumption)
                       obtain ⟨ad248, e248, hx248_0⟩ := Kd.at_int (Kd.R_reads' HO_7.out).2.2 t231 p248 q248
                       obtain rfl : ad243 = ad248 := (by injection e248)
                       replace p248 := eq_true p248
                       replace q248 := eq_true q248
                       refine start_ (n := 45) (S := fun w' => w'.cell? (ad241.add (x18_3).toNat) = some (.int .i64 (rd t223 x18_3)) ∧ w'.cell? (ad241.add ((ji55)).toNat) = some (.int .i64 (rd t223 (ji55))) ∧ w'.cell? (ad243.add (x18_3).toNat) = some (.int .i64 (rd t220 x18_3)) ∧ w'.cell? (ad243.add (x18_3).toNat) = some (.int .i64 (rd t220 x18_3)) ∧ w'.cell? (ad243.add (x18_3).toNat) = some (.int .i64 (rd t220 x18_3)) ∧ w'.cell? (ad243.add (t231).toNat) = some (.int .i64 (rd t220 t231))) (ds := []) (z9.bm 45 0) (by kernel_rfl) rfl rfl ⟨hx241_0, hx242_0, hx243_0, hx245_0, hx247_0, hx248_0⟩ (fun hHeld => ?_); refine with_tabW laws_FnSorted.tab22 laws_FnSorted.bits22 (fun HT_ HW_ => ?_)
                       generalize wr.drew = w70 at HO_7 HO_8 HO_14 HB hx241_0 hx242_0 hx243_0 hx245_0 hx247_0 hx248_0 hHeld ⊢
                       refine z9.pa (i := 0) (N := some 109) (z9.bm 45 1) HT_.out ?_
                       refine z9.pa (i := 1) (N := some 110) (z9.bm 45 3) HT_.out ?_
                       refine z9.pa (i := 2) (N := some 111) (z9.bm 45 7) HT_.out ?_
                       refine z9.pa (i := 3) (N := some 112) (z9.bm 45 15) HT_.out ?_
                       refine z9.pa (i := 4) (N := some 113) (z9.bm 45 31) HT_.out ?_
                       refine z9.pa (i := 5) (N := some 114) (z9.bm 45 63) HT_.out ?_
                       refine z9.pa (i := 7) (N := some 116) (z9.bm 45 191) HT_.out ?_
                       refine z9.pa (i := 8) (N := some 117) (z9.bm 45 447) HT_.out ?_
                       refine z9.pa (i := 9) (N := some 118) (z9.bm 45 959) HT_.out ?_
                       refine z9.pa (i := 10) (N := some 119) (z9.bm 45 1983) HT_.out ?_
                       refine z9.ta (i := 6) (N := some 115) (z9.bm 45 2047) rfl (take_ofW HT_.out HW_.out (by kernel_rfl)) (Or.inl ⟨by rfl, by rintro w' ⟨s0, s1, s2, s3, s4, s5⟩; go_simp; with_reducible rfl⟩) hHeld ?_
                       refine z9.ta (i := 11) (N := some 120) (z9.bm 45 4095) rfl (take_ofW HT_.out HW_.out (by kernel_rfl)) (Or.inl ⟨by rfl, by rintro w' ⟨s0, s1, s2, s3, s4, s5⟩; go_simp; with_reducible rfl⟩) hHeld ?_
                       refine z9.pa (i := 12) (N := some 121) (z9.bm 45 8191) HT_.out ?_
                       refine z9.pa (i := 13) (N := some 122) (z9.bm 45 16383) HT_.out ?_
                       refine z9.pa (i := 14) (N := some 123) (z9.bm 45 32767) HT_.out ?_
                       refine z9.pa (i := 15) (N := some 124) (z9.bm 45 65535) HT_.out ?_
                       refine z9.pa (i := 16) (N := some 125) (z9.bm 45 131071) HT_.out ?_
                       refine z9.pa (i := 17) (N := some 126) (z9.bm 45 262143) HT_.out ?_
                       refine z9.pa (i := 18) (N := some 127) (z9.bm 45 524287) HT_.out ?_
                       refine z9.pa (i := 21) (N := some 130) (z9.bm 45 2621439) HT_.out ?_
                       refine z9.pa (i := 22) (N := some 131) (z9.bm 45 6815743) HT_.out ?_
                       refine z9.pa (i := 23) (N := some 132) (z9.bm 45 15204351) HT_.out ?_
                       refine z9.pa (i := 24) (N := some 133) (z9.bm 45 31981567) HT_.out ?_
                       refine z9.ta (i := 19) (N := some 128) (z9.bm 45 32505855) rfl (take_ofW HT_.out HW_.out (by kernel_rfl)) (Or.inl ⟨by rfl, by rintro w' ⟨s0, s1, s2, s3, s4, s5⟩; go_simp; with_reducible rfl⟩) hHeld ?_
                       refine z9.ta (i := 25) (N := some 134) (z9.bm 45 66060287) rfl (take_ofW HT_.out HW_.out (by kernel_rfl)) (Or.inl ⟨by rfl, by rintro w' ⟨s0, s1, s2, s3, s4, s5⟩; go_simp; with_reducible rfl⟩) hHeld ?_
                       refine one_ (i := 20) (N := some 129) (z9.bm 45 67108863) rfl rfl (one_of HT_.out (by kernel_rfl)) (by decide) (fun K hK => ?_)
                       refine goes_ Try.func46 (by kernel_rfl) rfl #[.slice (some ad241) t223.length co71, .int .i64 (rd t220 x18_3)] (by rfl) rfl rfl (by (try simp only [List.map_toArray, List.map_cons, List.map_nil]); first | done | rfl | (simp only [List.length_drop, List.length_take]; rfl)) ?_
                       with_reducible refine (laws_r8Count.calls k3 _ _ t223 (rd t220 x18_3) t244 _ ?side1 ?side2 A61.out).mono ?_
                       (case side1 => repeat (first | exact (Kd.R_reads' HO_8.out).2.2 | (with_reducible refine Kd.C_alloc ?_ _) | (with_reducible refine Kd.C_drewN ?_ _) | (with_reducible refine Kd.C_drew ?_)))
                       (case side2 => exact (Kd.R_reads' HO_8.out).2.1)
                       rintro e w' ⟨rfl, ⟨nd, rfl⟩⟩
                       refine ⟨_, rfl, ?_⟩
                       refine hK.out _ _ ⟨hHeld.1, hHeld.2.1, hHeld.2.2.1, hHeld.2.2.2.1, hHeld.2.2.2.2.1, hHeld.2.2.2.2.2⟩ (fun hHeld => ?_)
                       clear hK K
                       refine norm_ (a' := ?_) ?_ ?_
                       rotate_left
                       ·show Act.put _ (some 129) _ = _
                        simp only [Act.put, List.setIfInBounds_toArray, List.set_cons_zero, List.set_cons_succ, i64_w, i32_w]
                        rfl
                       refine one_ (i := 26) (N := some 135) (z9.bm 45 134217727) rfl rfl (one_of HT_.out (by kernel_rfl)) (by decide) (fun K hK => ?_)
                       refine goes_ Try.func46 (by kernel_rfl) rfl #[.slice (some ad243) t220.length co15, .int .i64 (rd t220 x18_3)] (by rfl) rfl rfl (by (try simp only [List.map_toArray, List.map_cons, List.map_nil]); first | done | rfl | (simp only [List.length_drop, List.length_take]; rfl)) ?_
                       with_reducible refine (laws_r8Count.calls k3 _ _ t220 (rd t220 x18_3) t246 _ ?side1 ?side2 A62.out).mono ?_
                       (case side1 => repeat (first | exact (Kd.R_reads' HO_7.out).2.2 | (with_reducible refine Kd.C_alloc ?_ _) | (with_reducible refine Kd.C_drewN ?_ _) | (with_reducible refine Kd.C_drew ?_)))
                       (case side2 => exact (Kd.R_reads' HO_7.out).2.1)
                       rintro e w' ⟨rfl, ⟨nd, rfl⟩⟩
                       refine ⟨_, rfl, ?_⟩
                       refine hK.out _ _ ⟨hHeld.1, hHeld.2.1, hHeld.2.2.1, hHeld.2.2.2.1, hHeld.2.2.2.2.1, hHeld.2.2.2.2.2⟩ (fun hHeld => ?_)
                       clear hK K
                       refine norm_ (a' := ?_) ?_ ?_
                       rotate_left
                       ·show Act.put _ (some 135) _ = _
                        simp only [Act.put, List.setIfInBounds_toArray, List.set_cons_zero, List.set_cons_succ, i64_w, i32_w]
                        rfl
                       refine z9.pa (i := 27) (N := some 136) (z9.bm 45 268435455) HT_.out ?_
                       refine z9.pa (i := 28) (N := some 137) (z9.bm 45 536870911) HT_.out ?_
                       refine z9.pa (i := 29) (N := some 138) (z9.bm 45 1073741823) HT_.out ?_
                       refine z9.pa (i := 30) (N := some 139) (z9.bm 45 2147483647) HT_.out ?_
                       refine z9.pa (i := 31) (N := some 140) (z9.bm 45 4294967295) HT_.out ?_
                       refine z9.pa (i := 32) (N := some 141) (z9.bm 45 8589934591) HT_.out ?_
                       refine z9.pa (i := 33) (N := some 142) (z9.bm 45 17179869183) HT_.out ?_
                       refine z9.pa (i := 34) (N := some 143) (z9.bm 45 34359738367) HT_.out ?_
                       refine z9.pa (i := 35) (N := some 144) (z9.bm 45 68719476735) HT_.out ?_
                       refine z9.pa (i := 36) (N := some 145) (z9.bm 45 137438953471) HT_.out ?_
                       refine z9.pa (i := 38) (N := some 147) (z9.bm 45 412316860415) HT_.out ?_
                       refine z9.pa (i := 39) (N := some 148) (z9.bm 45 962072674303) HT_.out ?_
                       refine z9.pa (i := 40) (N := some 149) (z9.bm 45 2061584302079) HT_.out ?_
                       refine z9.ta (i := 37) (N := some 146) (z9.bm 45 2199023255551) rfl (take_ofW HT_.out HW_.out (by kernel_rfl)) (Or.inl ⟨by rfl, by rintro w' ⟨s0, s1, s2, s3, s4, s5⟩; go_simp; with_reducible rfl⟩) hHeld ?_
                       refine z9.ta (i := 41) (N := some 150) (z9.bm 45 4398046511103) rfl (take_ofW HT_.out HW_.out (by kernel_rfl)) (Or.inl ⟨by rfl, by rintro w' ⟨s0, s1, s2, s3, s4, s5⟩; go_simp; with_reducible rfl⟩) hHeld ?_
                       refine z9.pa (i := 42) (N := some 151) (z9.bm 45 8796093022207) HT_.out ?_
                       refine z9.pa (i := 43) (N := some 152) (z9.bm 45 17592186044415) HT_.out ?_
                       refine z9.pa (i := 44) (N := some 153) (z9.bm 45 35184372088831) HT_.out ?_
                       refine done_ (done_of HT_.out (by kernel_rfl)) ?_
                       try go_wp2
                       go_roundg k3
                       case measure => have := HJ10.out; have := HK2.out; have := HK3.out; omega
                       case rel => exact ⟨(wrap64 (x18_3 + 1)), (by first | rfl | (simp; done) | (simp [*]; done)), H', ⟨by have := HJ10.out; have := HK2.out; have := HK3.out; omega⟩, ⟨by (with_reducible repeat (first | apply Kd.R_alloc | apply Kd.R_drewN | apply Kd.R_drew)); exact HO_7.out⟩, ⟨by (with_reducible repeat (first | apply Kd.R_alloc | apply Kd.R_drewN | apply Kd.R_drew)); exact HO_8.out⟩, ⟨by (with_reducible repeat (first | apply Kd.R_alloc | apply Kd.R_drewN | apply Kd.R_drew)); exact HO_14.out⟩, ⟨by repeat (first | (with_reducible first | exact HB.out | apply below_alloc | apply pw_below_drewN | apply below_drew1) | exact HB.out)⟩⟩
                     ·rw [if_neg c66] at H
                      exact absurd H (by simp)
                    ·rw [if_neg c65] at H
                     exact absurd H (by simp)
                   ·rw [if_neg c64] at H
                    have c64b0 : decide (x18_3 < t231) = false := decide_eq_false c64
                    clear c64
                    have H' := Aside0.mk H
                    clear H
                    try go_wp2
                    have n0_ := Aside0.mk (Kd.R_drew HO_7.out)
                    have n1_ := Aside0.mk (Kd.R_drew HO_8.out)
                    have n2_ := Aside0.mk (Kd.R_drew HO_14.out)
                    have n3_ := Aside0.mk (below_drew1 HB.out)
                    clear HO_7
                    clear HO_8
                    clear HO_14
                    clear HB
                    have HO_7 := n0_
                    have HO_8 := n1_
                    have HO_14 := n2_
                    have HB := n3_
                    clear n0_ n1_ n2_ n3_
                    obtain ⟨Ao73, co73, eo73⟩ := Kd.R_slice HO_8.out
                    (first | subst eo73 | (injection eo73 with f1_ f2_ f3_; have f4_ := f1_.symm; have f5_ := f3_.symm; clear f1_ f2_ f3_; subst f4_; subst f5_))
                    have p241 : 0 ≤ (x18_3 : Int) := of_decide_eq_true (by first | (with_reducible assumption) | assumption)
                    have q241 : x18_3 < (t223.length : Int) := of_decide_eq_true (by first | (with_reducible assumption) | assumption)
                    obtain ⟨ad241, e241, hx241_0⟩ := Kd.at_int (Kd.R_reads' HO_8.out).2.2 x18_3 p241 q241
                    cases e241
                    replace p241 := eq_true p241
                    replace q241 := eq_true q241
                    have p242 : 0 ≤ ((ji55) : Int) := of_decide_eq_true (by first | (with_reducible assumption) | assumption)
                    have q242 : (ji55) < (t223.length : Int) := of_decide_eq_true (by first | (with_reducible assumption) | assumption)
                    obtain ⟨ad242, e242, hx242_0⟩ := Kd.at_int (Kd.R_reads' HO_8.out).2.2 (ji55) p242 q242
                    obtain rfl : ad241 = ad242 := (by injection e242)
                    replace p242 := eq_true p242
                    replace q242 := eq_true q242
                    have p243 : 0 ≤ (x18_3 : Int) := of_decide_eq_true (by first | (with_reducible assumption) | assumption)
                    have q243 : x18_3 < (t220.length : Int) := of_decide_eq_true (by first | (with_reducible assumption) | assumption)
                    obtain ⟨ad243, e243, hx243_0⟩ := Kd.at_int (Kd.R_reads' HO_7.out).2.2 x18_3 p243 q243
                    cases e243
                    replace p243 := eq_true p243
                    replace q243 := eq_true q243
                    have p245 : 0 ≤ (x18_3 : Int) := of_decide_eq_true (by first | (with_reducible assumption) | assumption)
                    have q245 : x18_3 < (t220.length : Int) := of_decide_eq_true (by first | (with_reducible assumption) | assumption)
                    obtain ⟨ad245, e245, hx245_0⟩ := Kd.at_int (Kd.R_reads' HO_7.out).2.2 x18_3 p245 q245
                    obtain rfl : ad243 = ad245 := (by injection e245)
                    replace p245 := eq_true p245
                    replace q245 := eq_true q245
                    refine start_ (n := 45) (S := fun w' => w'.cell? (ad241.add (x18_3).toNat) = some (.int .i64 (rd t223 x18_3)) ∧ w'.cell? (ad241.add ((ji55)).toNat) = some (.int .i64 (rd t223 (ji55))) ∧ w'.cell? (ad243.add (x18_3).toNat) = some (.int .i64 (rd t220 x18_3)) ∧ w'.cell? (ad243.add (x18_3).toNat) = some (.int .i64 (rd t220 x18_3))) (ds := []) (z9.bm 45 0) (by kernel_rfl) rfl rfl ⟨hx241_0, hx242_0, hx243_0, hx245_0⟩ (fun hHeld => ?_); refine with_tabW laws_FnSorted.tab22 laws_FnSorted.bits22 (fun HT_ HW_ => ?_)
                    generalize wr.drew = w72 at HO_7 HO_8 HO_14 HB hx241_0 hx242_0 hx243_0 hx245_0 hHeld ⊢
                    refine z9.pa (i := 0) (N := some 109) (z9.bm 45 1) HT_.out ?_
                    refine z9.pa (i := 1) (N := some 110) (z9.bm 45 3) HT_.out ?_
                    refine z9.pa (i := 2) (N := some 111) (z9.bm 45 7) HT_.out ?_
                    refine z9.pa (i := 3) (N := some 112) (z9.bm 45 15) HT_.out ?_
                    refine z9.pa (i := 4) (N := some 113) (z9.bm 45 31) HT_.out ?_
                    refine z9.pa (i := 5) (N := some 114) (z9.bm 45 63) HT_.out ?_
                    refine z9.pa (i := 7) (N := some 116) (z9.bm 45 191) HT_.out ?_
                    refine z9.pa (i := 8) (N := some 117) (z9.bm 45 447) HT_.out ?_
                    refine z9.pa (i := 9) (N := some 118) (z9.bm 45 959) HT_.out ?_
                    refine z9.pa (i := 10) (N := some 119) (z9.bm 45 1983) HT_.out ?_
                    refine z9.ta (i := 6) (N := some 115) (z9.bm 45 2047) rfl (take_ofW HT_.out HW_.out (by kernel_rfl)) (Or.inl ⟨by rfl, by rintro w' ⟨s0, s1, s2, s3⟩; go_simp; with_reducible rfl⟩) hHeld ?_
                    refine z9.ta (i := 11) (N := some 120) (z9.bm 45 4095) rfl (take_ofW HT_.out HW_.out (by kernel_rfl)) (Or.inl ⟨by rfl, by rintro w' ⟨s0, s1, s2, s3⟩; go_simp; with_reducible rfl⟩) hHeld ?_
                    refine z9.pa (i := 12) (N := some 121) (z9.bm 45 8191) HT_.out ?_
                    refine z9.pa (i := 13) (N := some 122) (z9.bm 45 16383) HT_.out ?_
                    refine z9.pa (i := 14) (N := some 123) (z9.bm 45 32767) HT_.out ?_
                    refine z9.pa (i := 15) (N := some 124) (z9.bm 45 65535) HT_.out ?_
                    refine z9.pa (i := 16) (N := some 125) (z9.bm 45 131071) HT_.out ?_
                    refine z9.pa (i := 17) (N := some 126) (z9.bm 45 262143) HT_.out ?_
                    refine z9.pa (i := 18) (N := some 127) (z9.bm 45 524287) HT_.out ?_
                    refine z9.pa (i := 21) (N := some 130) (z9.bm 45 2621439) HT_.out ?_
                    refine z9.pa (i := 22) (N := some 131) (z9.bm 45 6815743) HT_.out ?_
                    refine z9.pa (i := 23) (N := some 132) (z9.bm 45 15204351) HT_.out ?_
                    refine z9.pa (i := 24) (N := some 133) (z9.bm 45 31981567) HT_.out ?_
                    refine z9.ta (i := 19) (N := some 128) (z9.bm 45 32505855) rfl (take_ofW HT_.out HW_.out (by kernel_rfl)) (Or.inl ⟨by rfl, by rintro w' ⟨s0, s1, s2, s3⟩; go_simp; with_reducible rfl⟩) hHeld ?_
                    refine z9.ta (i := 25) (N := some 134) (z9.bm 45 66060287) rfl (take_ofW HT_.out HW_.out (by kernel_rfl)) (Or.inl ⟨by rfl, by rintro w' ⟨s0, s1, s2, s3⟩; go_simp; with_reducible rfl⟩) hHeld ?_
                    refine one_ (i := 20) (N := some 129) (z9.bm 45 67108863) rfl rfl (one_of HT_.out (by kernel_rfl)) (by decide) (fun K hK => ?_)
                    refine goes_ Try.func46 (by kernel_rfl) rfl #[.slice (some ad241) t223.length co73, .int .i64 (rd t220 x18_3)] (by rfl) rfl rfl (by (try simp only [List.map_toArray, List.map_cons, List.map_nil]); first | done | rfl | (simp only [List.length_drop, List.length_take]; rfl)) ?_
                    with_reducible refine (laws_r8Count.calls k3 _ _ t223 (rd t220 x18_3) t244 _ ?side1 ?side2 A61.out).mono ?_
                    (case side1 => repeat (first | exact (Kd.R_reads' HO_8.out).2.2 | (with_reducible refine Kd.C_alloc ?_ _) | (with_reducible refine Kd.C_drewN ?_ _) | (with_reducible refine Kd.C_drew ?_)))
                    (case side2 => exact (Kd.R_reads' HO_8.out).2.1)
                    rintro e w' ⟨rfl, ⟨nd, rfl⟩⟩
                    refine ⟨_, rfl, ?_⟩
                    refine hK.out _ _ ⟨hHeld.1, hHeld.2.1, hHeld.2.2.1, hHeld.2.2.2⟩ (fun hHeld => ?_)
                    clear hK K
                    refine norm_ (a' := ?_) ?_ ?_
                    rotate_left
                    ·show Act.put _ (some 129) _ = _
                     simp only [Act.put, List.setIfInBounds_toArray, List.set_cons_zero, List.set_cons_succ, i64_w, i32_w]
                     rfl
                    refine one_ (i := 26) (N := some 135) (z9.bm 45 134217727) rfl rfl (one_of HT_.out (by kernel_rfl)) (by decide) (fun K hK => ?_)
                    refine goes_ Try.func46 (by kernel_rfl) rfl #[.slice (some ad243) t220.length co15, .int .i64 (rd t220 x18_3)] (by rfl) rfl rfl (by (try simp only [List.map_toArray, List.map_cons, List.map_nil]); first | done | rfl | (simp only [List.length_drop, List.length_take]; rfl)) ?_
                    with_reducible refine (laws_r8Count.calls k3 _ _ t220 (rd t220 x18_3) t246 _ ?side1 ?side2 A62.out).mono ?_
                    (case side1 => repeat (first | exact (Kd.R_reads' HO_7.out).2.2 | (with_reducible refine Kd.C_alloc ?_ _) | (with_reducible refine Kd.C_drewN ?_ _) | (with_reducible refine Kd.C_drew ?_)))
                    (case side2 => exact (Kd.R_reads' HO_7.out).2.1)
                    rintro e w' ⟨rfl, ⟨nd, rfl⟩⟩
                    refine ⟨_, rfl, ?_⟩
                    refine hK.out _ _ ⟨hHeld.1, hHeld.2.1, hHeld.2.2.1, hHeld.2.2.2⟩ (fun hHeld => ?_)
                    clear hK K
                    refine norm_ (a' := ?_) ?_ ?_
                    rotate_left
                    ·show Act.put _ (some 135) _ = _
                     simp only [Act.put, List.setIfInBounds_toArray, List.set_cons_zero, List.set_cons_succ, i64_w, i32_w]
                     rfl
                    refine z9.pa (i := 27) (N := some 136) (z9.bm 45 268435455) HT_.out ?_
                    refine z9.pa (i := 28) (N := some 137) (z9.bm 45 536870911) HT_.out ?_
                    refine z9.pa (i := 29) (N := some 138) (z9.bm 45 1073741823) HT_.out ?_
                    refine z9.pa (i := 30) (N := some 139) (z9.bm 45 2147483647) HT_.out ?_
                    refine z9.pa (i := 31) (N := some 140) (z9.bm 45 4294967295) HT_.out ?_
                    refine z9.pa (i := 32) (N := some 141) (z9.bm 45 8589934591) HT_.out ?_
                    refine z9.pa (i := 33) (N := some 142) (z9.bm 45 17179869183) HT_.out ?_
                    refine pure_ (i := 34) (N := some 143) (v := undef) (a' := ?_) (z9.bm 45 34359738367) rfl rfl (any_of HT_.out (by kernel_rfl)) (fun _ _ _ h => h) (Or.inr ⟨by rfl, rfl⟩) ?_ ?_
                    rotate_left
                    ·simp only [Act.put, List.setIfInBounds_toArray, List.set_cons_zero, List.set_cons_succ, i64_w, i32_w]
                     rfl
                    refine pure_ (i := 35) (N := some 144) (v := undef) (a' := ?_) (z9.bm 45 68719476735) rfl rfl (any_of HT_.out (by kernel_rfl)) (fun _ _ _ h => h) (Or.inr ⟨by rfl, rfl⟩) ?_ ?_
                    rotate_left
                    ·simp only [Act.put, List.setIfInBounds_toArray, List.set_cons_zero, List.set_cons_succ, i64_w, i32_w]
                     rfl
                    refine pure_ (i := 36) (N := some 145) (v := undef) (a' := ?_) (z9.bm 45 137438953471) rfl rfl (any_of HT_.out (by kernel_rfl)) (fun _ _ _ h => h) (Or.inr ⟨by rfl, rfl⟩) ?_ ?_
                    rotate_left
                    ·simp only [Act.put, List.setIfInBounds_toArray, List.set_cons_zero, List.set_cons_succ, i64_w, i32_w]
                     rfl
                    refine pure_ (i := 37) (N := some 146) (v := undef) (a' := ?_) (z9.bm 45 274877906943) rfl rfl (any_of HT_.out (by kernel_rfl)) (fun _ _ _ h => h) (Or.inr ⟨by rfl, rfl⟩) ?_ ?_
                    rotate_left
                    ·simp only [Act.put, List.setIfInBounds_toArray, List.set_cons_zero, List.set_cons_succ, i64_w, i32_w]
                     rfl
                    refine pure_ (i := 38) (N := some 147) (v := undef) (a' := ?_) (z9.bm 45 549755813887) rfl rfl (any_of HT_.out (by kernel_rfl)) (fun _ _ _ h => h) (Or.inr ⟨by rfl, rfl⟩) ?_ ?_
                    rotate_left
                    ·simp only [Act.put, List.setIfInBounds_toArray, List.set_cons_zero, List.set_cons_succ, i64_w, i32_w]
                     rfl
                    refine pure_ (i := 39) (N := some 148) (v := undef) (a' := ?_) (z9.bm 45 1099511627775) rfl rfl (any_of HT_.out (by kernel_rfl)) (fun _ _ _ h => h) (Or.inr ⟨by rfl, rfl⟩) ?_ ?_
                    rotate_left
                    ·simp only [Act.put, List.setIfInBounds_toArray, List.set_cons_zero, List.set_cons_succ, i64_w, i32_w]
                     rfl
                    refine pure_ (i := 40) (N := some 149) (v := undef) (a' := ?_) (z9.bm 45 2199023255551) rfl rfl (any_of HT_.out (by kernel_rfl)) (fun _ _ _ h => h) (Or.inr ⟨by rfl, rfl⟩) ?_ ?_
                    rotate_left
                    ·simp only [Act.put, List.setIfInBounds_toArray, List.set_cons_zero, List.set_cons_succ, i64_w, i32_w]
                     rfl
                    refine pure_ (i := 41) (N := some 150) (v := undef) (a' := ?_) (z9.bm 45 4398046511103) rfl rfl (any_of HT_.out (by kernel_rfl)) (fun _ _ _ h => h) (Or.inr ⟨by rfl, rfl⟩) ?_ ?_
                    rotate_left
                    ·simp only [Act.put, List.setIfInBounds_toArray, List.set_cons_zero, List.set_cons_succ, i64_w, i32_w]
                     rfl
                    refine pure_ (i := 42) (N := some 151) (v := undef) (a' := ?_) (z9.bm 45 8796093022207) rfl rfl (any_of HT_.out (by kernel_rfl)) (fun _ _ _ h => h) (Or.inr ⟨by rfl, rfl⟩) ?_ ?_
                    rotate_left
                    ·simp only [Act.put, List.setIfInBounds_toArray, List.set_cons_zero, List.set_cons_succ, i64_w, i32_w]
                     rfl
                    refine z9.pa (i := 43) (N := some 152) (z9.bm 45 17592186044415) HT_.out ?_
                    refine z9.pa (i := 44) (N := some 153) (z9.bm 45 35184372088831) HT_.out ?_
                    refine done_ (done_of HT_.out (by kernel_rfl)) ?_
                    try go_wp2
                    go_roundg k3
                    case measure => have := HJ10.out; have := HK2.out; have := HK3.out; omega
                    case rel => exact ⟨(wrap64 (x18_3 + 1)), (by first | rfl | (simp; done) | (simp [*]; done)), H', ⟨by have := HJ10.out; have := HK2.out; have := HK3.out; omega⟩, ⟨by (with_reducible repeat (first | apply Kd.R_alloc | apply Kd.R_drewN | apply Kd.R_drew)); exact HO_7.out⟩, ⟨by (with_reducible repeat (first | apply Kd.R_alloc | apply Kd.R_drewN | apply Kd.R_drew)); exact HO_8.out⟩, ⟨by (with_reducible repeat (first | apply Kd.R_alloc | apply Kd.R_drewN | apply Kd.R_drew)); exact HO_14.out⟩, ⟨by repeat (first | (with_reducible first | exact HB.out | apply below_alloc | apply pw_below_drewN | apply below_drew1) | exact HB.out)⟩⟩
                  ·rw [if_neg c63] at H
                   have c63b0 : (t244 == t246) = false := beq_eq_false_iff_ne.mpr c63
                   have c63b1 : (t244 != t246) = true := bne_iff_ne.mpr c63
                   obtain rfl := Option.some.inj H
                   try go_wp2
                   have n0_ := Aside0.mk (Kd.R_drew HO_7.out)
                   have n1_ := Aside0.mk (Kd.R_drew HO_8.out)
                   have n2_ := Aside0.mk (Kd.R_drew HO_14.out)
                   have n3_ := Aside0.mk (below_drew1 HB.out)
                   clear HO_7
                   clear HO_8
                   clear HO_14
                   clear HB
                   have HO_7 := n0_
                   have HO_8 := n1_
                   have HO_14 := n2_
                   have HB := n3_
                   clear n0_ n1_ n2_ n3_
                   obtain ⟨Ao75, co75, eo75⟩ := Kd.R_slice HO_8.out
                   (first | subst eo75 | (injection eo75 with f1_ f2_ f3_; have f4_ := f1_.symm; have f5_ := f3_.symm; clear f1_ f2_ f3_; subst f4_; subst f5_))
                   have p241 : 0 ≤ (x18_3 : Int) := of_decide_eq_true (by first | (with_reducible assumption) | assumption)
                   have q241 : x18_3 < (t223.length : Int) := of_decide_eq_true (by first | (with_reducible assumption) | assumption)
                   obtain ⟨ad241, e241, hx241_0⟩ := Kd.at_int (Kd.R_reads' HO_8.out).2.2 x18_3 p241 q241
                   cases e241
                   replace p241 := eq_true p241
                   replace q241 := eq_true q241
                   have p242 : 0 ≤ ((ji55) : Int) := of_decide_eq_true (by first | (with_reducible assumption) | assumption)
                   have q242 : (ji55) < (t223.length : Int) := of_decide_eq_true (by first | (with_reducible assumption) | assumption)
                   obtain ⟨ad242, e242, hx242_0⟩ := Kd.at_int (Kd.R_reads' HO_8.out).2.2 (ji55) p242 q242
                   obtain rfl : ad241 = ad242 := (by injection e242)
                   replace p242 := eq_true p242
                   replace q242 := eq_true q242
                   have p243 : 0 ≤ (x18_3 : Int) := of_decide_eq_true (by first | (with_reducible assumption) | assumption)
                   have q243 : x18_3 < (t220.length : Int) := of_decide_eq_true (by first | (with_reducible assumption) | assumption)
                   obtain ⟨ad243, e243, hx243_0⟩ := Kd.at_int (Kd.R_reads' HO_7.out).2.2 x18_3 p243 q243
                   cases e243
                   replace p243 := eq_true p243
                   replace q243 := eq_true q243
                   have p245 : 0 ≤ (x18_3 : Int) := of_decide_eq_true (by first | (with_reducible assumption) | assumption)
                   have q245 : x18_3 < (t220.length : Int) := of_decide_eq_true (by first | (with_reducible assumption) | assumption)
                   obtain ⟨ad245, e245, hx245_0⟩ := Kd.at_int (Kd.R_reads' HO_7.out).2.2 x18_3 p245 q245
                   obtain rfl : ad243 = ad245 := (by injection e245)
                   replace p245 := eq_true p245
                   replace q245 := eq_true q245
                   refine start_ (n := 45) (S := fun w' => w'.cell? (ad241.add (x18_3).toNat) = some (.int .i64 (rd t223 x18_3)) ∧ w'.cell? (ad241.add ((ji55)).toNat) = some (.int .i64 (rd t223 (ji55))) ∧ w'.cell? (ad243.add (x18_3).toNat) = some (.int .i64 (rd t220 x18_3)) ∧ w'.cell? (ad243.add (x18_3).toNat) = some (.int .i64 (rd t220 x18_3))) (ds := []) (z9.bm 45 0) (by kernel_rfl) rfl rfl ⟨hx241_0, hx242_0, hx243_0, hx245_0⟩ (fun hHeld => ?_); refine with_tabW laws_FnSorted.tab22 laws_FnSorted.bits22 (fun HT_ HW_ => ?_)
                   generalize wr.drew = w74 at HO_7 HO_8 HO_14 HB hx241_0 hx242_0 hx243_0 hx245_0 hHeld ⊢
                   refine z9.pa (i := 0) (N := some 109) (z9.bm 45 1) HT_.out ?_
                   refine z9.pa (i := 1) (N := some 110) (z9.bm 45 3) HT_.out ?_
                   refine z9.pa (i := 2) (N := some 111) (z9.bm 45 7) HT_.out ?_
                   refine z9.pa (i := 3) (N := some 112) (z9.bm 45 15) HT_.out ?_
                   refine z9.pa (i := 4) (N := some 113) (z9.bm 45 31) HT_.out ?_
                   refine z9.pa (i := 5) (N := some 114) (z9.bm 45 63) HT_.out ?_
                   refine z9.pa (i := 7) (N := some 116) (z9.bm 45 191) HT_.out ?_
                   refine z9.pa (i := 8) (N := some 117) (z9.bm 45 447) HT_.out ?_
                   refine z9.pa (i := 9) (N := some 118) (z9.bm 45 959) HT_.out ?_
                   refine z9.pa (i := 10) (N := some 119) (z9.bm 45 1983) HT_.out ?_
                   refine z9.ta (i := 6) (N := some 115) (z9.bm 45 2047) rfl (take_ofW HT_.out HW_.out (by kernel_rfl)) (Or.inl ⟨by rfl, by rintro w' ⟨s0, s1, s2, s3⟩; go_simp; with_reducible rfl⟩) hHeld ?_
                   refine z9.ta (i := 11) (N := some 120) (z9.bm 45 4095) rfl (take_ofW HT_.out HW_.out (by kernel_rfl)) (Or.inl ⟨by rfl, by rintro w' ⟨s0, s1, s2, s3⟩; go_simp; with_reducible rfl⟩) hHeld ?_
                   refine z9.pa (i := 12) (N := some 121) (z9.bm 45 8191) HT_.out ?_
                   refine z9.pa (i := 13) (N := some 122) (z9.bm 45 16383) HT_.out ?_
                   refine z9.pa (i := 14) (N := some 123) (z9.bm 45 32767) HT_.out ?_
                   refine z9.pa (i := 15) (N := some 124) (z9.bm 45 65535) HT_.out ?_
                   refine z9.pa (i := 16) (N := some 125) (z9.bm 45 131071) HT_.out ?_
                   refine z9.pa (i := 17) (N := some 126) (z9.bm 45 262143) HT_.out ?_
                   refine z9.pa (i := 18) (N := some 127) (z9.bm 45 524287) HT_.out ?_
                   refine z9.pa (i := 21) (N := some 130) (z9.bm 45 2621439) HT_.out ?_
                   refine z9.pa (i := 22) (N := some 131) (z9.bm 45 6815743) HT_.out ?_
                   refine z9.pa (i := 23) (N := some 132) (z9.bm 45 15204351) HT_.out ?_
                   refine z9.pa (i := 24) (N := some 133) (z9.bm 45 31981567) HT_.out ?_
                   refine z9.ta (i := 19) (N := some 128) (z9.bm 45 32505855) rfl (take_ofW HT_.out HW_.out (by kernel_rfl)) (Or.inl ⟨by rfl, by rintro w' ⟨s0, s1, s2, s3⟩; go_simp; with_reducible rfl⟩) hHeld ?_
                   refine z9.ta (i := 25) (N := some 134) (z9.bm 45 66060287) rfl (take_ofW HT_.out HW_.out (by kernel_rfl)) (Or.inl ⟨by rfl, by rintro w' ⟨s0, s1, s2, s3⟩; go_simp; with_reducible rfl⟩) hHeld ?_
                   refine one_ (i := 20) (N := some 129) (z9.bm 45 67108863) rfl rfl (one_of HT_.out (by kernel_rfl)) (by decide) (fun K hK => ?_)
                   refine goes_ Try.func46 (by kernel_rfl) rfl #[.slice (some ad241) t223.length co75, .int .i64 (rd t220 x18_3)] (by rfl) rfl rfl (by (try simp only [List.map_toArray, List.map_cons, List.map_nil]); first | done | rfl | (simp only [List.length_drop, List.length_take]; rfl)) ?_
                   with_reducible refine (laws_r8Count.calls k3 _ _ t223 (rd t220 x18_3) t244 _ ?side1 ?side2 A61.out).mono ?_
                   (case side1 => repeat (first | exact (Kd.R_reads' HO_8.out).2.2 | (with_reducible refine Kd.C_alloc ?_ _) | (with_reducible refine Kd.C_drewN ?_ _) | (with_reducible refine Kd.C_drew ?_)))
                   (case side2 => exact (Kd.R_reads' HO_8.out).2.1)
                   rintro e w' ⟨rfl, ⟨nd, rfl⟩⟩
                   refine ⟨_, rfl, ?_⟩
                   refine hK.out _ _ ⟨hHeld.1, hHeld.2.1, hHeld.2.2.1, hHeld.2.2.2⟩ (fun hHeld => ?_)
                   clear hK K
                   refine norm_ (a' := ?_) ?_ ?_
                   rotate_left
                   ·show Act.put _ (some 129) _ = _
                    simp only [Act.put, List.setIfInBounds_toArray, List.set_cons_zero, List.set_cons_succ, i64_w, i32_w]
                    rfl
                   refine one_ (i := 26) (N := some 135) (z9.bm 45 134217727) rfl rfl (one_of HT_.out (by kernel_rfl)) (by decide) (fun K hK => ?_)
                   refine goes_ Try.func46 (by kernel_rfl) rfl #[.slice (some ad243) t220.length co15, .int .i64 (rd t220 x18_3)] (by rfl) rfl rfl (by (try simp only [List.map_toArray, List.map_cons, List.map_nil]); first | done | rfl | (simp only [List.length_drop, List.length_take]; rfl)) ?_
                   with_reducible refine (laws_r8Count.calls k3 _ _ t220 (rd t220 x18_3) t246 _ ?side1 ?side2 A62.out).mono ?_
                   (case side1 => repeat (first | exact (Kd.R_reads' HO_7.out).2.2 | (with_reducible refine Kd.C_alloc ?_ _) | (with_reducible refine Kd.C_drewN ?_ _) | (with_reducible refine Kd.C_drew ?_)))
                   (case side2 => exact (Kd.R_reads' HO_7.out).2.1)
                   rintro e w' ⟨rfl, ⟨nd, rfl⟩⟩
                   refine ⟨_, rfl, ?_⟩
                   refine hK.out _ _ ⟨hHeld.1, hHeld.2.1, hHeld.2.2.1, hHeld.2.2.2⟩ (fun hHeld => ?_)
                   clear hK K
                   refine norm_ (a' := ?_) ?_ ?_
                   rotate_left
                   ·show Act.put _ (some 135) _ = _
                    simp only [Act.put, List.setIfInBounds_toArray, List.set_cons_zero, List.set_cons_succ, i64_w, i32_w]
                    rfl
                   refine z9.pa (i := 27) (N := some 136) (z9.bm 45 268435455) HT_.out ?_
                   refine z9.pa (i := 28) (N := some 137) (z9.bm 45 536870911) HT_.out ?_
                   refine z9.pa (i := 29) (N := some 138) (z9.bm 45 1073741823) HT_.out ?_
                   refine pure_ (i := 30) (N := some 139) (v := undef) (a' := ?_) (z9.bm 45 2147483647) rfl rfl (any_of HT_.out (by kernel_rfl)) (fun _ _ _ h => h) (Or.inr ⟨by rfl, rfl⟩) ?_ ?_
                   rotate_left
                   ·simp only [Act.put, List.setIfInBounds_toArray, List.set_cons_zero, List.set_cons_succ, i64_w, i32_w]
                    rfl
                   refine pure_ (i := 31) (N := some 140) (v := undef) (a' := ?_) (z9.bm 45 4294967295) rfl rfl (any_of HT_.out (by kernel_rfl)) (fun _ _ _ h => h) (Or.inr ⟨by rfl, rfl⟩) ?_ ?_
                   rotate_left
                   ·simp only [Act.put, List.setIfInBounds_toArray, List.set_cons_zero, List.set_cons_succ, i64_w, i32_w]
                    rfl
                   refine pure_ (i := 32) (N := some 141) (v := undef) (a' := ?_) (z9.bm 45 8589934591) rfl rfl (any_of HT_.out (by kernel_rfl)) (fun _ _ _ h => h) (Or.inr ⟨by rfl, rfl⟩) ?_ ?_
                   rotate_left
                   ·simp only [Act.put, List.setIfInBounds_toArray, List.set_cons_zero, List.set_cons_succ, i64_w, i32_w]
                    rfl
                   refine pure_ (i := 33) (N := some 142) (v := undef) (a' := ?_) (z9.bm 45 17179869183) rfl rfl (any_of HT_.out (by kernel_rfl)) (fun _ _ _ h => h) (Or.inr ⟨by rfl, rfl⟩) ?_ ?_
                   rotate_left
                   ·simp only [Act.put, List.setIfInBounds_toArray, List.set_cons_zero, List.set_cons_succ, i64_w, i32_w]
                    rfl
                   refine pure_ (i := 34) (N := some 143) (v := undef) (a' := ?_) (z9.bm 45 34359738367) rfl rfl (any_of HT_.out (by kernel_rfl)) (fun _ _ _ h => h) (Or.inr ⟨by rfl, rfl⟩) ?_ ?_
                   rotate_left
                   ·simp only [Act.put, List.setIfInBounds_toArray, List.set_cons_zero, List.set_cons_succ, i64_w, i32_w]
                    rfl
                   refine pure_ (i := 35) (N := some 144) (v := undef) (a' := ?_) (z9.bm 45 68719476735) rfl rfl (any_of HT_.out (by kernel_rfl)) (fun _ _ _ h => h) (Or.inr ⟨by rfl, rfl⟩) ?_ ?_
                   rotate_left
                   ·simp only [Act.put, List.setIfInBounds_toArray, List.set_cons_zero, List.set_cons_succ, i64_w, i32_w]
                    rfl
                   refine pure_ (i := 36) (N := some 145) (v := undef) (a' := ?_) (z9.bm 45 137438953471) rfl rfl (any_of HT_.out (by kernel_rfl)) (fun _ _ _ h => h) (Or.inr ⟨by rfl, rfl⟩) ?_ ?_
                   rotate_left
                   ·simp only [Act.put, List.setIfInBounds_toArray, List.set_cons_zero, List.set_cons_succ, i64_w, i32_w]
                    rfl
                   refine pure_ (i := 37) (N := some 146) (v := undef) (a' := ?_) (z9.bm 45 274877906943) rfl rfl (any_of HT_.out (by kernel_rfl)) (fun _ _ _ h => h) (Or.inr ⟨by rfl, rfl⟩) ?_ ?_
                   rotate_left
                   ·simp only [Act.put, List.setIfInBounds_toArray, List.set_cons_zero, List.set_cons_succ, i64_w, i32_w]
                    rfl
                   refine pure_ (i := 38) (N := some 147) (v := undef) (a' := ?_) (z9.bm 45 549755813887) rfl rfl (any_of HT_.out (by kernel_rfl)) (fun _ _ _ h => h) (Or.inr ⟨by rfl, rfl⟩) ?_ ?_
                   rotate_left
                   ·simp only [Act.put, List.setIfInBounds_toArray, List.set_cons_zero, List.set_cons_succ, i64_w, i32_w]
                    rfl
                   refine pure_ (i := 39) (N := some 148) (v := undef) (a' := ?_) (z9.bm 45 1099511627775) rfl rfl (any_of HT_.out (by kernel_rfl)) (fun _ _ _ h => h) (Or.inr ⟨by rfl, rfl⟩) ?_ ?_
                   rotate_left
                   ·simp only [Act.put, List.setIfInBounds_toArray, List.set_cons_zero, List.set_cons_succ, i64_w, i32_w]
                    rfl
                   refine pure_ (i := 40) (N := some 149) (v := undef) (a' := ?_) (z9.bm 45 2199023255551) rfl rfl (any_of HT_.out (by kernel_rfl)) (fun _ _ _ h => h) (Or.inr ⟨by rfl, rfl⟩) ?_ ?_
                   rotate_left
                   ·simp only [Act.put, List.setIfInBounds_toArray, List.set_cons_zero, List.set_cons_succ, i64_w, i32_w]
                    rfl
                   refine pure_ (i := 41) (N := some 150) (v := undef) (a' := ?_) (z9.bm 45 4398046511103) rfl rfl (any_of HT_.out (by kernel_rfl)) (fun _ _ _ h => h) (Or.inr ⟨by rfl, rfl⟩) ?_ ?_
                   rotate_left
                   ·simp only [Act.put, List.setIfInBounds_toArray, List.set_cons_zero, List.set_cons_succ, i64_w, i32_w]
                    rfl
                   refine pure_ (i := 42) (N := some 151) (v := undef) (a' := ?_) (z9.bm 45 8796093022207) rfl rfl (any_of HT_.out (by kernel_rfl)) (fun _ _ _ h => h) (Or.inr ⟨by rfl, rfl⟩) ?_ ?_
                   rotate_left
                   ·simp only [Act.put, List.setIfInBounds_toArray, List.set_cons_zero, List.set_cons_succ, i64_w, i32_w]
                    rfl
                   refine pure_ (i := 43) (N := some 152) (v := undef) (a' := ?_) (z9.bm 45 17592186044415) rfl rfl (any_of HT_.out (by kernel_rfl)) (fun _ _ _ h => h) (Or.inr ⟨by rfl, rfl⟩) ?_ ?_
                   rotate_left
                   ·simp only [Act.put, List.setIfInBounds_toArray, List.set_cons_zero, List.set_cons_succ, i64_w, i32_w]
                    rfl
                   refine z9.pa (i := 44) (N := some 153) (z9.bm 45 35184372088831) HT_.out ?_
                   refine done_ (done_of HT_.out (by kernel_rfl)) ?_
                   try go_wp2
                   go_ret
                   exact ⟨by first | rfl | (simp [errW_none, errW_some] <;> rfl) | (simp only [← hji55]; first | rfl | (simp [errW_none, errW_some] <;> rfl)) | (simp [*, errW_none, errW_some] <;> rfl), by repeat (first | (with_reducible first | exact HB.out | apply below_alloc | apply pw_below_drewN | apply below_drew1) | exact HB.out)⟩
                ·rw [if_neg c57] at H
                 exact absurd H (by simp)
               ·rw [if_neg c56] at H
                exact absurd H (by simp)
              ·rw [if_neg c54] at H
               exact absurd H (by simp)
             ·rw [if_neg c53] at H
              exact absurd H (by simp)
            ·rw [if_neg c52] at H
             have c52b0 : decide (0 < x18_3) = false := decide_eq_false c52
             clear c52
             by_cases c76 : 0 ≤ x18_3
             ·rw [if_pos c76] at H
              have c76b0 : decide (0 ≤ x18_3) = true := decide_eq_true c76
              clear c76
              replace H := Option.bind_eq_some_iff.mp H
              obtain ⟨t250, A770, H⟩ := H
              replace H : ((laws_r8Count.f k3 t220 (rd t220 x18_3)).bind fun t252 => (if t250 = t252 then (if x18_3 < t231 then (if 0 ≤ t231 then (if t231 < (t220.length : Int) then (if (rd t220 x18_3) = (rd t220 t231) then (some false) else (laws_FnSorted.l1 k3 t220 t223 t231 x14_2 (wrap64 (x18_3 + 1)))) else (none)) else (none)) else (laws_FnSorted.l1 k3 t220 t223 t231 x14_2 (wrap64 (x18_3 + 1)))) else (some false))) = some r := H
              have A77 := Aside0.mk A770
              clear A770
              replace H := Option.bind_eq_some_iff.mp H
              obtain ⟨t252, A780, H⟩ := H
              replace H : (if t250 = t252 then (if x18_3 < t231 then (if 0 ≤ t231 then (if t231 < (t220.length : Int) then (if (rd t220 x18_3) = (rd t220 t231) then (some false) else (laws_FnSorted.l1 k3 t220 t223 t231 x14_2 (wrap64 (x18_3 + 1)))) else (none)) else (none)) else (laws_FnSorted.l1 k3 t220 t223 t231 x14_2 (wrap64 (x18_3 + 1)))) else (some false)) = some r := H
              have A78 := Aside0.mk A780
              clear A780
              by_cases c79 : t250 = t252
              ·rw [if_pos c79] at H
               have c79b0 : (t250 == t252) = true := beq_iff_eq.mpr c79
               have c79b1 : (t250 != t252) = false := bne_eq_false_iff_eq.mpr c79
               clear c79
               by_cases c80 : x18_3 < t231
               ·rw [if_pos c80] at H
                have c80b0 : decide (x18_3 < t231) = true := decide_eq_true c80
                clear c80
                by_cases c81 : 0 ≤ t231
                ·rw [if_pos c81] at H
                 have c81b0 : decide (0 ≤ t231) = true := decide_eq_true c81
                 clear c81
                 by_cases c82 : t231 < (t220.length : Int)
                 ·rw [if_pos c82] at H
                  have c82b0 : decide (t231 < (t220.length : Int)) = true := decide_eq_true c82
                  clear c82
                  by_cases c83 : (rd t220 x18_3) = (rd t220 t231)
                  ·rw [if_pos c83] at H
                   have c83b0 : ((rd t220 x18_3) == (rd t220 t231)) = true := beq_iff_eq.mpr c83
                   have c83b1 : ((rd t220 x18_3) != (rd t220 t231)) = false := bne_eq_false_iff_eq.mpr c83
                   clear c83
                   obtain rfl := Option.some.inj H
                   try go_wp2
                   have n0_ := Aside0.mk (Kd.R_drew HO_7.out)
                   have n1_ := Aside0.mk (Kd.R_drew HO_8.out)
                   have n2_ := Aside0.mk (Kd.R_drew HO_14.out)
                   have n3_ := Aside0.mk (below_drew1 HB.out)
                   clear HO_7
                   clear HO_8
                   clear HO_14
                   clear HB
                   have HO_7 := n0_
                   have HO_8 := n1_
                   have HO_14 := n2_
                   have HB := n3_
                   clear n0_ n1_ n2_ n3_
                   have p249 : 0 ≤ (x18_3 : Int) := of_decide_eq_true (by first | (with_reducible assumption) | assumption)
                   have q249 : x18_3 < (t220.length : Int) := of_decide_eq_true (by first | (with_reducible assumption) | assumption)
                   obtain ⟨ad249, e249, hx249_0⟩ := Kd.at_int (Kd.R_reads' HO_7.out).2.2 x18_3 p249 q249
                   cases e249
                   replace p249 := eq_true p249
                   replace q249 := eq_true q249
                   have p251 : 0 ≤ (x18_3 : Int) := of_decide_eq_true (by first | (with_reducible assumption) | assumption)
                   have q251 : x18_3 < (t220.length : Int) := of_decide_eq_true (by first | (with_reducible assumption) | assumption)
                   obtain ⟨ad251, e251, hx251_0⟩ := Kd.at_int (Kd.R_reads' HO_7.out).2.2 x18_3 p251 q251
                   obtain rfl : ad249 = ad251 := (by injection e251)
                   replace p251 := eq_true p251
                   replace q251 := eq_true q251
                   obtain ⟨Ao85, co85, eo85⟩ := Kd.R_slice HO_8.out
                   (first | subst eo85 | (injection eo85 with f1_ f2_ f3_; have f4_ := f1_.symm; have f5_ := f3_.symm; clear f1_ f2_ f3_; subst f4_; subst f5_))
                   have p253 : 0 ≤ (x18_3 : Int) := of_decide_eq_true (by first | (with_reducible assumption) | assumption)
                   have q253 : x18_3 < (t220.length : Int) := of_decide_eq_true (by first | (with_reducible assumption) | assumption)
                   obtain ⟨ad253, e253, hx253_0⟩ := Kd.at_int (Kd.R_reads' HO_7.out).2.2 x18_3 p253 q253
                   obtain rfl : ad249 = ad253 := (by injection e253)
                   replace p253 := eq_true p253
                   replace q253 := eq_true q253
                   have p254 : 0 ≤ (t231 : Int) := of_decide_eq_true (by first | (with_reducible assumption) | assumption)
                   have q254 : t231 < (t220.length : Int) := of_decide_eq_true (by first | (with_reducible assumption) | assumption)
                   obtain ⟨ad254, e254, hx254_0⟩ := Kd.at_int (Kd.R_reads' HO_7.out).2.2 t231 p254 q254
                   obtain rfl : ad249 = ad254 := (by injection e254)
                   replace p254 := eq_true p254
                   replace q254 := eq_true q254
                   refine start_ (n := 45) (S := fun w' => w'.cell? (ad249.add (x18_3).toNat) = some (.int .i64 (rd t220 x18_3)) ∧ w'.cell? (ad249.add (x18_3).toNat) = some (.int .i64 (rd t220 x18_3)) ∧ w'.cell? (ad249.add (x18_3).toNat) = some (.int .i64 (rd t220 x18_3)) ∧ w'.cell? (ad249.add (t231).toNat) = some (.int .i64 (rd t220 t231))) (ds := []) (z9.bm 45 0) (by kernel_rfl) rfl rfl ⟨hx249_0, hx251_0, hx253_0, hx254_0⟩ (fun hHeld => ?_); refine with_tabW laws_FnSorted.tab22 laws_FnSorted.bits22 (fun HT_ HW_ => ?_)
                   generalize wr.drew = w84 at HO_7 HO_8 HO_14 HB hx249_0 hx251_0 hx253_0 hx254_0 hHeld ⊢
                   refine z9.pa (i := 0) (N := some 109) (z9.bm 45 1) HT_.out ?_
                   refine z9.pa (i := 1) (N := some 110) (z9.bm 45 3) HT_.out ?_
                   refine z9.pa (i := 2) (N := some 111) (z9.bm 45 7) HT_.out ?_
                   refine pure_ (i := 3) (N := some 112) (v := undef) (a' := ?_) (z9.bm 45 15) rfl rfl (any_of HT_.out (by kernel_rfl)) (fun _ _ _ h => h) (Or.inr ⟨by rfl, rfl⟩) ?_ ?_
                   rotate_left
                   ·simp only [Act.put, List.setIfInBounds_toArray, List.set_cons_zero, List.set_cons_succ, i64_w, i32_w]
                    rfl
                   refine pure_ (i := 4) (N := some 113) (v := undef) (a' := ?_) (z9.bm 45 31) rfl rfl (any_of HT_.out (by kernel_rfl)) (fun _ _ _ h => h) (Or.inr ⟨by rfl, rfl⟩) ?_ ?_
                   rotate_left
                   ·simp only [Act.put, List.setIfInBounds_toArray, List.set_cons_zero, List.set_cons_succ, i64_w, i32_w]
                    rfl
                   refine pure_ (i := 5) (N := some 114) (v := undef) (a' := ?_) (z9.bm 45 63) rfl rfl (any_of HT_.out (by kernel_rfl)) (fun _ _ _ h => h) (Or.inr ⟨by rfl, rfl⟩) ?_ ?_
                   rotate_left
                   ·simp only [Act.put, List.setIfInBounds_toArray, List.set_cons_zero, List.set_cons_succ, i64_w, i32_w]
                    rfl
                   refine pure_ (i := 6) (N := some 115) (v := undef) (a' := ?_) (z9.bm 45 127) rfl rfl (any_of HT_.out (by kernel_rfl)) (fun _ _ _ h => h) (Or.inr ⟨by rfl, rfl⟩) ?_ ?_
                   rotate_left
                   ·simp only [Act.put, List.setIfInBounds_toArray, List.set_cons_zero, List.set_cons_succ, i64_w, i32_w]
                    rfl
                   refine pure_ (i := 7) (N := some 116) (v := undef) (a' := ?_) (z9.bm 45 255) rfl rfl (any_of HT_.out (by kernel_rfl)) (fun _ _ _ h => h) (Or.inr ⟨by rfl, rfl⟩) ?_ ?_
                   rotate_left
                   ·simp only [Act.put, List.setIfInBounds_toArray, List.set_cons_zero, List.set_cons_succ, i64_w, i32_w]
                    rfl
                   refine pure_ (i := 8) (N := some 117) (v := undef) (a' := ?_) (z9.bm 45 511) rfl rfl (any_of HT_.out (by kernel_rfl)) (fun _ _ _ h => h) (Or.inr ⟨by rfl, rfl⟩) ?_ ?_
                   rotate_left
                   ·simp only [Act.put, List.setIfInBounds_toArray, List.set_cons_zero, List.set_cons_succ, i64_w, i32_w]
                    rfl
                   refine pure_ (i := 9) (N := some 118) (v := undef) (a' := ?_) (z9.bm 45 1023) rfl rfl (any_of HT_.out (by kernel_rfl)) (fun _ _ _ h => h) (Or.inr ⟨by rfl, rfl⟩) ?_ ?_
                   rotate_left
                   ·simp only [Act.put, List.setIfInBounds_toArray, List.set_cons_zero, List.set_cons_succ, i64_w, i32_w]
                    rfl
                   refine pure_ (i := 10) (N := some 119) (v := undef) (a' := ?_) (z9.bm 45 2047) rfl rfl (any_of HT_.out (by kernel_rfl)) (fun _ _ _ h => h) (Or.inr ⟨by rfl, rfl⟩) ?_ ?_
                   rotate_left
                   ·simp only [Act.put, List.setIfInBounds_toArray, List.set_cons_zero, List.set_cons_succ, i64_w, i32_w]
                    rfl
                   refine pure_ (i := 11) (N := some 120) (v := undef) (a' := ?_) (z9.bm 45 4095) rfl rfl (any_of HT_.out (by kernel_rfl)) (fun _ _ _ h => h) (Or.inr ⟨by rfl, rfl⟩) ?_ ?_
                   rotate_left
                   ·simp only [Act.put, List.setIfInBounds_toArray, List.set_cons_zero, List.set_cons_succ, i64_w, i32_w]
                    rfl
                   refine pure_ (i := 12) (N := some 121) (v := undef) (a' := ?_) (z9.bm 45 8191) rfl rfl (any_of HT_.out (by kernel_rfl)) (fun _ _ _ h => h) (Or.inr ⟨by rfl, rfl⟩) ?_ ?_
                   rotate_left
                   ·simp only [Act.put, List.setIfInBounds_toArray, List.set_cons_zero, List.set_cons_succ, i64_w, i32_w]
                    rfl
                   refine z9.pa (i := 13) (N := some 122) (z9.bm 45 16383) HT_.out ?_
                   refine z9.pa (i := 14) (N := some 123) (z9.bm 45 32767) HT_.out ?_
                   refine z9.pa (i := 15) (N := some 124) (z9.bm 45 65535) HT_.out ?_
                   refine z9.pa (i := 16) (N := some 125) (z9.bm 45 131071) HT_.out ?_
                   refine z9.pa (i := 17) (N := some 126) (z9.bm 45 262143) HT_.out ?_
                   refine z9.pa (i := 18) (N := some 127) (z9.bm 45 524287) HT_.out ?_
                   refine z9.pa (i := 21) (N := some 130) (z9.bm 45 2621439) HT_.out ?_
                   refine z9.pa (i := 22) (N := some 131) (z9.bm 45 6815743) HT_.out ?_
                   refine z9.pa (i := 23) (N := some 132) (z9.bm 45 15204351) HT_.out ?_
                   refine z9.pa (i := 24) (N := some 133) (z9.bm 45 31981567) HT_.out ?_
                   refine z9.ta (i := 19) (N := some 128) (z9.bm 45 32505855) rfl (take_ofW HT_.out HW_.out (by kernel_rfl)) (Or.inl ⟨by rfl, by rintro w' ⟨s0, s1, s2, s3⟩; go_simp; with_reducible rfl⟩) hHeld ?_
                   refine z9.ta (i := 25) (N := some 134) (z9.bm 45 66060287) rfl (take_ofW HT_.out HW_.out (by kernel_rfl)) (Or.inl ⟨by rfl, by rintro w' ⟨s0, s1, s2, s3⟩; go_simp; with_reducible rfl⟩) hHeld ?_
                   refine one_ (i := 20) (N := some 129) (z9.bm 45 67108863) rfl rfl (one_of HT_.out (by kernel_rfl)) (by decide) (fun K hK => ?_)
                   refine goes_ Try.func46 (by kernel_rfl) rfl #[.slice Ao85 t223.length co85, .int .i64 (rd t220 x18_3)] (by rfl) rfl rfl (by (try simp only [List.map_toArray, List.map_cons, List.map_nil]); first | done | rfl | (simp only [List.length_drop, List.length_take]; rfl)) ?_
                   with_reducible refine (laws_r8Count.calls k3 _ _ t223 (rd t220 x18_3) t250 _ ?side1 ?side2 A77.out).mono ?_
                   (case side1 => repeat (first | exact (Kd.R_reads' HO_8.out).2.2 | (with_reducible refine Kd.C_alloc ?_ _) | (with_reducible refine Kd.C_drewN ?_ _) | (with_reducible refine Kd.C_drew ?_)))
                   (case side2 => exact (Kd.R_reads' HO_8.out).2.1)
                   rintro e w' ⟨rfl, ⟨nd, rfl⟩⟩
                   refine ⟨_, rfl, ?_⟩
                   refine hK.out _ _ ⟨hHeld.1, hHeld.2.1, hHeld.2.2.1, hHeld.2.2.2⟩ (fun hHeld => ?_)
                   clear hK K
                   refine norm_ (a' := ?_) ?_ ?_
                   rotate_left
                   ·show Act.put _ (some 129) _ = _
                    simp only [Act.put, List.setIfInBounds_toArray, List.set_cons_zero, List.set_cons_succ, i64_w, i32_w]
                    rfl
                   refine one_ (i := 26) (N := some 135) (z9.bm 45 134217727) rfl rfl (one_of HT_.out (by kernel_rfl)) (by decide) (fun K hK => ?_)
                   refine goes_ Try.func46 (by kernel_rfl) rfl #[.slice (some ad249) t220.length co15, .int .i64 (rd t220 x18_3)] (by rfl) rfl rfl (by (try simp only [List.map_toArray, List.map_cons, List.map_nil]); first | done | rfl | (simp only [List.length_drop, List.length_take]; rfl)) ?_
                   with_reducible refine (laws_r8Count.calls k3 _ _ t220 (rd t220 x18_3) t252 _ ?side1 ?side2 A78.out).mono ?_
                   (case side1 => repeat (first | exact (Kd.R_reads' HO_7.out).2.2 | (with_reducible refine Kd.C_alloc ?_ _) | (with_reducible refine Kd.C_drewN ?_ _) | (with_reducible refine Kd.C_drew ?_)))
                   (case side2 => exact (Kd.R_reads' HO_7.out).2.1)
                   rintro e w' ⟨rfl, ⟨nd, rfl⟩⟩
                   refine ⟨_, rfl, ?_⟩
                   refine hK.out _ _ ⟨hHeld.1, hHeld.2.1, hHeld.2.2.1, hHeld.2.2.2⟩ (fun hHeld => ?_)
                   clear hK K
                   refine norm_ (a' := ?_) ?_ ?_
                   rotate_left
                   ·show Act.put _ (some 135) _ = _
                    simp only [Act.put, List.setIfInBounds_toArray, List.set_cons_zero, List.set_cons_succ, i64_w, i32_w]
                    rfl
                   refine z9.pa (i := 27) (N := some 136) (z9.bm 45 268435455) HT_.out ?_
                   refine z9.pa (i := 28) (N := some 137) (z9.bm 45 536870911) HT_.out ?_
                   refine z9.pa (i := 29) (N := some 138) (z9.bm 45 1073741823) HT_.out ?_
                   refine z9.pa (i := 30) (N := some 139) (z9.bm 45 2147483647) HT_.out ?_
                   refine z9.pa (i := 31) (N := some 140) (z9.bm 45 4294967295) HT_.out ?_
                   refine z9.pa (i := 32) (N := some 141) (z9.bm 45 8589934591) HT_.out ?_
                   refine z9.pa (i := 33) (N := some 142) (z9.bm 45 17179869183) HT_.out ?_
                   refine z9.pa (i := 34) (N := some 143) (z9.bm 45 34359738367) HT_.out ?_
                   refine z9.pa (i := 35) (N := some 144) (z9.bm 45 68719476735) HT_.out ?_
                   refine z9.pa (i := 36) (N := some 145) (z9.bm 45 137438953471) HT_.out ?_
                   refine z9.pa (i := 38) (N := some 147) (z9.bm 45 412316860415) HT_.out ?_
                   refine z9.pa (i := 39) (N := some 148) (z9.bm 45 962072674303) HT_.out ?_
                   refine z9.pa (i := 40) (N := some 149) (z9.bm 45 2061584302079) HT_.out ?_
                   refine z9.ta (i := 37) (N := some 146) (z9.bm 45 2199023255551) rfl (take_ofW HT_.out HW_.out (by kernel_rfl)) (Or.inl ⟨by rfl, by rintro w' ⟨s0, s1, s2, s3⟩; go_simp; with_reducible rfl⟩) hHeld ?_
                   refine z9.ta (i := 41) (N := some 150) (z9.bm 45 4398046511103) rfl (take_ofW HT_.out HW_.out (by kernel_rfl)) (Or.inl ⟨by rfl, by rintro w' ⟨s0, s1, s2, s3⟩; go_simp; with_reducible rfl⟩) hHeld ?_
                   refine z9.pa (i := 42) (N := some 151) (z9.bm 45 8796093022207) HT_.out ?_
                   refine z9.pa (i := 43) (N := some 152) (z9.bm 45 17592186044415) HT_.out ?_
                   refine z9.pa (i := 44) (N := some 153) (z9.bm 45 35184372088831) HT_.out ?_
                   refine done_ (done_of HT_.out (by kernel_rfl)) ?_
                   try go_wp2
                   go_ret
                   exact ⟨by first | rfl | (simp [errW_none, errW_some] <;> rfl) | (simp [*, errW_none, errW_some] <;> rfl), by repeat (first | (with_reducible first | exact HB.out | apply below_alloc | apply pw_below_drewN | apply below_drew1) | exact HB.out)⟩
                  ·rw [if_neg c83] at H
                   have c83b0 : ((rd t220 x18_3) == (rd t220 t231)) = false := beq_eq_false_iff_ne.mpr c83
                   have c83b1 : ((rd t220 x18_3) != (rd t220 t231)) = true := bne_iff_ne.mpr c83
                   have H' := Aside0.mk H
                   clear H
                   try go_wp2
                   have n0_ := Aside0.mk (Kd.R_drew HO_7.out)
                   have n1_ := Aside0.mk (Kd.R_drew HO_8.out)
                   have n2_ := Aside0.mk (Kd.R_drew HO_14.out)
                   have n3_ := Aside0.mk (below_drew1 HB.out)
                   clear HO_7
                   clear HO_8
                   clear HO_14
                   clear HB
                   have HO_7 := n0_
                   have HO_8 := n1_
                   have HO_14 := n2_
                   have HB := n3_
                   clear n0_ n1_ n2_ n3_
                   have p249 : 0 ≤ (x18_3 : Int) := of_decide_eq_true (by first | (with_reducible assumption) | assumption)
                   have q249 : x18_3 < (t220.length : Int) := of_decide_eq_true (by first | (with_reducible assumption) | assumption)
                   obtain ⟨ad249, e249, hx249_0⟩ := Kd.at_int (Kd.R_reads' HO_7.out).2.2 x18_3 p249 q249
                   cases e249
                   replace p249 := eq_true p249
                   replace q249 := eq_true q249
                   have p251 : 0 ≤ (x18_3 : Int) := of_decide_eq_true (by first | (with_reducible assumption) | assumption)
                   have q251 : x18_3 < (t220.length : Int) := of_decide_eq_true (by first | (with_reducible assumption) | assumption)
                   obtain ⟨ad251, e251, hx251_0⟩ := Kd.at_int (Kd.R_reads' HO_7.out).2.2 x18_3 p251 q251
                   obtain rfl : ad249 = ad251 := (by injection e251)
                   replace p251 := eq_true p251
                   replace q251 := eq_true q251
                   obtain ⟨Ao87, co87, eo87⟩ := Kd.R_slice HO_8.out
                   (first | subst eo87 | (injection eo87 with f1_ f2_ f3_; have f4_ := f1_.symm; have f5_ := f3_.symm; clear f1_ f2_ f3_; subst f4_; subst f5_))
                   have p253 : 0 ≤ (x18_3 : Int) := of_decide_eq_true (by first | (with_reducible assumption) | assumption)
                   have q253 : x18_3 < (t220.length : Int) := of_decide_eq_true (by first | (with_reducible assumption) | assumption)
                   obtain ⟨ad253, e253, hx253_0⟩ := Kd.at_int (Kd.R_reads' HO_7.out).2.2 x18_3 p253 q253
                   obtain rfl : ad249 = ad253 := (by injection e253)
                   replace p253 := eq_true p253
                   replace q253 := eq_true q253
                   have p254 : 0 ≤ (t231 : Int) := of_decide_eq_true (by first | (with_reducible assumption) | assumption)
                   have q254 : t231 < (t220.length : Int) := of_decide_eq_true (by first | (with_reducible assumption) | assumption)
                   obtain ⟨ad254, e254, hx254_0⟩ := Kd.at_int (Kd.R_reads' HO_7.out).2.2 t231 p254 q254
                   obtain rfl : ad249 = ad254 := (by injection e254)
                   replace p254 := eq_true p254
                   replace q254 := eq_true q254
                   refine start_ (n := 45) (S := fun w' => w'.cell? (ad249.add (x18_3).toNat) = some (.int .i64 (rd t220 x18_3)) ∧ w'.cell? (ad249.add (x18_3).toNat) = some (.int .i64 (rd t220 x18_3)) ∧ w'.cell? (ad249.add (x18_3).toNat) = some (.int .i64 (rd t220 x18_3)) ∧ w'.cell? (ad249.add (t231).toNat) = some (.int .i64 (rd t220 t231))) (ds := []) (z9.bm 45 0) (by kernel_rfl) rfl rfl ⟨hx249_0, hx251_0, hx253_0, hx254_0⟩ (fun hHeld => ?_); refine with_tabW laws_FnSorted.tab22 laws_FnSorted.bits22 (fun HT_ HW_ => ?_)
                   generalize wr.drew = w86 at HO_7 HO_8 HO_14 HB hx249_0 hx251_0 hx253_0 hx254_0 hHeld ⊢
                   refine z9.pa (i := 0) (N := some 109) (z9.bm 45 1) HT_.out ?_
                   refine z9.pa (i := 1) (N := some 110) (z9.bm 45 3) HT_.out ?_
                   refine z9.pa (i := 2) (N := some 111) (z9.bm 45 7) HT_.out ?_
                   refine pure_ (i := 3) (N := some 112) (v := undef) (a' := ?_) (z9.bm 45 15) rfl rfl (any_of HT_.out (by kernel_rfl)) (fun _ _ _ h => h) (Or.inr ⟨by rfl, rfl⟩) ?_ ?_
                   rotate_left
                   ·simp only [Act.put, List.setIfInBounds_toArray, List.set_cons_zero, List.set_cons_succ, i64_w, i32_w]
                    rfl
                   refine pure_ (i := 4) (N := some 113) (v := undef) (a' := ?_) (z9.bm 45 31) rfl rfl (any_of HT_.out (by kernel_rfl)) (fun _ _ _ h => h) (Or.inr ⟨by rfl, rfl⟩) ?_ ?_
                   rotate_left
                   ·simp only [Act.put, List.setIfInBounds_toArray, List.set_cons_zero, List.set_cons_succ, i64_w, i32_w]
                    rfl
                   refine pure_ (i := 5) (N := some 114) (v := undef) (a' := ?_) (z9.bm 45 63) rfl rfl (any_of HT_.out (by kernel_rfl)) (fun _ _ _ h => h) (Or.inr ⟨by rfl, rfl⟩) ?_ ?_
                   rotate_left
                   ·simp only [Act.put, List.setIfInBounds_toArray, List.set_cons_zero, List.set_cons_succ, i64_w, i32_w]
                    rfl
                   refine pure_ (i := 6) (N := some 115) (v := undef) (a' := ?_) (z9.bm 45 127) rfl rfl (any_of HT_.out (by kernel_rfl)) (fun _ _ _ h => h) (Or.inr ⟨by rfl, rfl⟩) ?_ ?_
                   rotate_left
                   ·simp only [Act.put, List.setIfInBounds_toArray, List.set_cons_zero, List.set_cons_succ, i64_w, i32_w]
                    rfl
                   refine pure_ (i := 7) (N := some 116) (v := undef) (a' := ?_) (z9.bm 45 255) rfl rfl (any_of HT_.out (by kernel_rfl)) (fun _ _ _ h => h) (Or.inr ⟨by rfl, rfl⟩) ?_ ?_
                   rotate_left
                   ·simp only [Act.put, List.setIfInBounds_toArray, List.set_cons_zero, List.set_cons_succ, i64_w, i32_w]
                    rfl
                   refine pure_ (i := 8) (N := some 117) (v := undef) (a' := ?_) (z9.bm 45 511) rfl rfl (any_of HT_.out (by kernel_rfl)) (fun _ _ _ h => h) (Or.inr ⟨by rfl, rfl⟩) ?_ ?_
                   rotate_left
                   ·simp only [Act.put, List.setIfInBounds_toArray, List.set_cons_zero, List.set_cons_succ, i64_w, i32_w]
                    rfl
                   refine pure_ (i := 9) (N := some 118) (v := undef) (a' := ?_) (z9.bm 45 1023) rfl rfl (any_of HT_.out (by kernel_rfl)) (fun _ _ _ h => h) (Or.inr ⟨by rfl, rfl⟩) ?_ ?_
                   rotate_left
                   ·simp only [Act.put, List.setIfInBounds_toArray, List.set_cons_zero, List.set_cons_succ, i64_w, i32_w]
                    rfl
                   refine pure_ (i := 10) (N := some 119) (v := undef) (a' := ?_) (z9.bm 45 2047) rfl rfl (any_of HT_.out (by kernel_rfl)) (fun _ _ _ h => h) (Or.inr ⟨by rfl, rfl⟩) ?_ ?_
                   rotate_left
                   ·simp only [Act.put, List.setIfInBounds_toArray, List.set_cons_zero, List.set_cons_succ, i64_w, i32_w]
                    rfl
                   refine pure_ (i := 11) (N := some 120) (v := undef) (a' := ?_) (z9.bm 45 4095) rfl rfl (any_of HT_.out (by kernel_rfl)) (fun _ _ _ h => h) (Or.inr ⟨by rfl, rfl⟩) ?_ ?_
                   rotate_left
                   ·simp only [Act.put, List.setIfInBounds_toArray, List.set_cons_zero, List.set_cons_succ, i64_w, i32_w]
                    rfl
                   refine pure_ (i := 12) (N := some 121) (v := undef) (a' := ?_) (z9.bm 45 8191) rfl rfl (any_of HT_.out (by kernel_rfl)) (fun _ _ _ h => h) (Or.inr ⟨by rfl, rfl⟩) ?_ ?_
                   rotate_left
                   ·simp only [Act.put, List.setIfInBounds_toArray, List.set_cons_zero, List.set_cons_succ, i64_w, i32_w]
                    rfl
                   refine z9.pa (i := 13) (N := some 122) (z9.bm 45 16383) HT_.out ?_
                   refine z9.pa (i := 14) (N := some 123) (z9.bm 45 32767) HT_.out ?_
                   refine z9.pa (i := 15) (N := some 124) (z9.bm 45 65535) HT_.out ?_
                   refine z9.pa (i := 16) (N := some 125) (z9.bm 45 131071) HT_.out ?_
                   refine z9.pa (i := 17) (N := some 126) (z9.bm 45 262143) HT_.out ?_
                   refine z9.pa (i := 18) (N := some 127) (z9.bm 45 524287) HT_.out ?_
                   refine z9.pa (i := 21) (N := some 130) (z9.bm 45 2621439) HT_.out ?_
                   refine z9.pa (i := 22) (N := some 131) (z9.bm 45 6815743) HT_.out ?_
                   refine z9.pa (i := 23) (N := some 132) (z9.bm 45 15204351) HT_.out ?_
                   refine z9.pa (i := 24) (N := some 133) (z9.bm 45 31981567) HT_.out ?_
                   refine z9.ta (i := 19) (N := some 128) (z9.bm 45 32505855) rfl (take_ofW HT_.out HW_.out (by kernel_rfl)) (Or.inl ⟨by rfl, by rintro w' ⟨s0, s1, s2, s3⟩; go_simp; with_reducible rfl⟩) hHeld ?_
                   refine z9.ta (i := 25) (N := some 134) (z9.bm 45 66060287) rfl (take_ofW HT_.out HW_.out (by kernel_rfl)) (Or.inl ⟨by rfl, by rintro w' ⟨s0, s1, s2, s3⟩; go_simp; with_reducible rfl⟩) hHeld ?_
                   refine one_ (i := 20) (N := some 129) (z9.bm 45 67108863) rfl rfl (one_of HT_.out (by kernel_rfl)) (by decide) (fun K hK => ?_)
                   refine goes_ Try.func46 (by kernel_rfl) rfl #[.slice Ao87 t223.length co87, .int .i64 (rd t220 x18_3)] (by rfl) rfl rfl (by (try simp only [List.map_toArray, List.map_cons, List.map_nil]); first | done | rfl | (simp only [List.length_drop, List.length_take]; rfl)) ?_
                   with_reducible refine (laws_r8Count.calls k3 _ _ t223 (rd t220 x18_3) t250 _ ?side1 ?side2 A77.out).mono ?_
                   (case side1 => repeat (first | exact (Kd.R_reads' HO_8.out).2.2 | (with_reducible refine Kd.C_alloc ?_ _) | (with_reducible refine Kd.C_drewN ?_ _) | (with_reducible refine Kd.C_drew ?_)))
                   (case side2 => exact (Kd.R_reads' HO_8.out).2.1)
                   rintro e w' ⟨rfl, ⟨nd, rfl⟩⟩
                   refine ⟨_, rfl, ?_⟩
                   refine hK.out _ _ ⟨hHeld.1, hHeld.2.1, hHeld.2.2.1, hHeld.2.2.2⟩ (fun hHeld => ?_)
                   clear hK K
                   refine norm_ (a' := ?_) ?_ ?_
                   rotate_left
                   ·show Act.put _ (some 129) _ = _
                    simp only [Act.put, List.setIfInBounds_toArray, List.set_cons_zero, List.set_cons_succ, i64_w, i32_w]
                    rfl
                   refine one_ (i := 26) (N := some 135) (z9.bm 45 134217727) rfl rfl (one_of HT_.out (by kernel_rfl)) (by decide) (fun K hK => ?_)
                   refine goes_ Try.func46 (by kernel_rfl) rfl #[.slice (some ad249) t220.length co15, .int .i64 (rd t220 x18_3)] (by rfl) rfl rfl (by (try simp only [List.map_toArray, List.map_cons, List.map_nil]); first | done | rfl | (simp only [List.length_drop, List.length_take]; rfl)) ?_
                   with_reducible refine (laws_r8Count.calls k3 _ _ t220 (rd t220 x18_3) t252 _ ?side1 ?side2 A78.out).mono ?_
                   (case side1 => repeat (first | exact (Kd.R_reads' HO_7.out).2.2 | (with_reducible refine Kd.C_alloc ?_ _) | (with_reducible refine Kd.C_drewN ?_ _) | (with_reducible refine Kd.C_drew ?_)))
                   (case side2 => exact (Kd.R_reads' HO_7.out).2.1)
                   rintro e w' ⟨rfl, ⟨nd, rfl⟩⟩
                   refine ⟨_, rfl, ?_⟩
                   refine hK.out _ _ ⟨hHeld.1, hHeld.2.1, hHeld.2.2.1, hHeld.2.2.2⟩ (fun hHeld => ?_)
                   clear hK K
                   refine norm_ (a' := ?_) ?_ ?_
                   rotate_left
                   ·show Act.put _ (some 135) _ = _
                    simp only [Act.put, List.setIfInBounds_toArray, List.set_cons_zero, List.set_cons_succ, i64_w, i32_w]
                    rfl
                   refine z9.pa (i := 27) (N := some 136) (z9.bm 45 268435455) HT_.out ?_
                   refine z9.pa (i := 28) (N := some 137) (z9.bm 45 536870911) HT_.out ?_
                   refine z9.pa (i := 29) (N := some 138) (z9.bm 45 1073741823) HT_.out ?_
                   refine z9.pa (i := 30) (N := some 139) (z9.bm 45 2147483647) HT_.out ?_
                   refine z9.pa (i := 31) (N := some 140) (z9.bm 45 4294967295) HT_.out ?_
                   refine z9.pa (i := 32) (N := some 141) (z9.bm 45 8589934591) HT_.out ?_
                   refine z9.pa (i := 33) (N := some 142) (z9.bm 45 17179869183) HT_.out ?_
                   refine z9.pa (i := 34) (N := some 143) (z9.bm 45 34359738367) HT_.out ?_
                   refine z9.pa (i := 35) (N := some 144) (z9.bm 45 68719476735) HT_.out ?_
                   refine z9.pa (i := 36) (N := some 145) (z9.bm 45 137438953471) HT_.out ?_
                   refine z9.pa (i := 38) (N := some 147) (z9.bm 45 412316860415) HT_.out ?_
                   refine z9.pa (i := 39) (N := some 148) (z9.bm 45 962072674303) HT_.out ?_
                   refine z9.pa (i := 40) (N := some 149) (z9.bm 45 2061584302079) HT_.out ?_
                   refine z9.ta (i := 37) (N := some 146) (z9.bm 45 2199023255551) rfl (take_ofW HT_.out HW_.out (by kernel_rfl)) (Or.inl ⟨by rfl, by rintro w' ⟨s0, s1, s2, s3⟩; go_simp; with_reducible rfl⟩) hHeld ?_
                   refine z9.ta (i := 41) (N := some 150) (z9.bm 45 4398046511103) rfl (take_ofW HT_.out HW_.out (by kernel_rfl)) (Or.inl ⟨by rfl, by rintro w' ⟨s0, s1, s2, s3⟩; go_simp; with_reducible rfl⟩) hHeld ?_
                   refine z9.pa (i := 42) (N := some 151) (z9.bm 45 8796093022207) HT_.out ?_
                   refine z9.pa (i := 43) (N := some 152) (z9.bm 45 17592186044415) HT_.out ?_
                   refine z9.pa (i := 44) (N := some 153) (z9.bm 45 35184372088831) HT_.out ?_
                   refine done_ (done_of HT_.out (by kernel_rfl)) ?_
                   try go_wp2
                   go_roundg k3
                   case measure => have := HJ10.out; have := HK2.out; have := HK3.out; omega
                   case rel => exact ⟨(wrap64 (x18_3 + 1)), (by first | rfl | (simp; done) | (simp [*]; done)), H', ⟨by have := HJ10.out; have := HK2.out; have := HK3.out; omega⟩, ⟨by (with_reducible repeat (first | apply Kd.R_alloc | apply Kd.R_drewN | apply Kd.R_drew)); exact HO_7.out⟩, ⟨by (with_reducible repeat (first | apply Kd.R_alloc | apply Kd.R_drewN | apply Kd.R_drew)); exact HO_8.out⟩, ⟨by (with_reducible repeat (first | apply Kd.R_alloc | apply Kd.R_drewN | apply Kd.R_drew)); exact HO_14.out⟩, ⟨by repeat (first | (with_reducible first | exact HB.out | apply below_alloc | apply pw_below_drewN | apply below_drew1) | exact HB.out)⟩⟩
                 ·rw [if_neg c82] at H
                  exact absurd H (by simp)
                ·rw [if_neg c81] at H
                 exact absurd H (by simp)
               ·rw [if_neg c80] at H
                have c80b0 : decide (x18_3 < t231) = false := decide_eq_false c80
                clear c80
                have H' := Aside0.mk H
                clear H
                try go_wp2
                have n0_ := Aside0.mk (Kd.R_drew HO_7.out)
                have n1_ := Aside0.mk (Kd.R_drew HO_8.out)
                have n2_ := Aside0.mk (Kd.R_drew HO_14.out)
                have n3_ := Aside0.mk (below_drew1 HB.out)
                clear HO_7
                clear HO_8
                clear HO_14
                clear HB
                have HO_7 := n0_
                have HO_8 := n1_
                have HO_14 := n2_
                have HB := n3_
                clear n0_ n1_ n2_ n3_
                have p249 : 0 ≤ (x18_3 : Int) := of_decide_eq_true (by first | (with_reducible assumption) | assumption)
                have q249 : x18_3 < (t220.length : Int) := of_decide_eq_true (by first | (with_reducible assumption) | assumption)
                obtain ⟨ad249, e249, hx249_0⟩ := Kd.at_int (Kd.R_reads' HO_7.out).2.2 x18_3 p249 q249
                cases e249
                replace p249 := eq_true p249
                replace q249 := eq_true q249
                have p251 : 0 ≤ (x18_3 : Int) := of_decide_eq_true (by first | (with_reducible assumption) | assumption)
                have q251 : x18_3 < (t220.length : Int) := of_decide_eq_true (by first | (with_reducible assumption) | assumption)
                obtain ⟨ad251, e251, hx251_0⟩ := Kd.at_int (Kd.R_reads' HO_7.out).2.2 x18_3 p251 q251
                obtain rfl : ad249 = ad251 := (by injection e251)
                replace p251 := eq_true p251
                replace q251 := eq_true q251
                obtain ⟨Ao89, co89, eo89⟩ := Kd.R_slice HO_8.out
                (first | subst eo89 | (injection eo89 with f1_ f2_ f3_; have f4_ := f1_.symm; have f5_ := f3_.symm; clear f1_ f2_ f3_; subst f4_; subst f5_))
                refine start_ (n := 45) (S := fun w' => w'.cell? (ad249.add (x18_3).toNat) = some (.int .i64 (rd t220 x18_3)) ∧ w'.cell? (ad249.add (x18_3).toNat) = some (.int .i64 (rd t220 x18_3))) (ds := []) (z9.bm 45 0) (by kernel_rfl) rfl rfl ⟨hx249_0, hx251_0⟩ (fun hHeld => ?_); refine with_tabW laws_FnSorted.tab22 laws_FnSorted.bits22 (fun HT_ HW_ => ?_)
                generalize wr.drew = w88 at HO_7 HO_8 HO_14 HB hx249_0 hx251_0 hHeld ⊢
                refine z9.pa (i := 0) (N := some 109) (z9.bm 45 1) HT_.out ?_
                refine z9.pa (i := 1) (N := some 110) (z9.bm 45 3) HT_.out ?_
                refine z9.pa (i := 2) (N := some 111) (z9.bm 45 7) HT_.out ?_
                refine pure_ (i := 3) (N := some 112) (v := undef) (a' := ?_) (z9.bm 45 15) rfl rfl (any_of HT_.out (by kernel_rfl)) (fun _ _ _ h => h) (Or.inr ⟨by rfl, rfl⟩) ?_ ?_
                rotate_left
                ·simp only [Act.put, List.setIfInBounds_toArray, List.set_cons_zero, List.set_cons_succ, i64_w, i32_w]
                 rfl
                refine pure_ (i := 4) (N := some 113) (v := undef) (a' := ?_) (z9.bm 45 31) rfl rfl (any_of HT_.out (by kernel_rfl)) (fun _ _ _ h => h) (Or.inr ⟨by rfl, rfl⟩) ?_ ?_
                rotate_left
                ·simp only [Act.put, List.setIfInBounds_toArray, List.set_cons_zero, List.set_cons_succ, i64_w, i32_w]
                 rfl
                refine pure_ (i := 5) (N := some 114) (v := undef) (a' := ?_) (z9.bm 45 63) rfl rfl (any_of HT_.out (by kernel_rfl)) (fun _ _ _ h => h) (Or.inr ⟨by rfl, rfl⟩) ?_ ?_
                rotate_left
                ·simp only [Act.put, List.setIfInBounds_toArray, List.set_cons_zero, List.set_cons_succ, i64_w, i32_w]
                 rfl
                refine pure_ (i := 6) (N := some 115) (v := undef) (a' := ?_) (z9.bm 45 127) rfl rfl (any_of HT_.out (by kernel_rfl)) (fun _ _ _ h => h) (Or.inr ⟨by rfl, rfl⟩) ?_ ?_
                rotate_left
                ·simp only [Act.put, List.setIfInBounds_toArray, List.set_cons_zero, List.set_cons_succ, i64_w, i32_w]
                 rfl
                refine pure_ (i := 7) (N := some 116) (v := undef) (a' := ?_) (z9.bm 45 255) rfl rfl (any_of HT_.out (by kernel_rfl)) (fun _ _ _ h => h) (Or.inr ⟨by rfl, rfl⟩) ?_ ?_
                rotate_left
                ·simp only [Act.put, List.setIfInBounds_toArray, List.set_cons_zero, List.set_cons_succ, i64_w, i32_w]
                 rfl
                refine pure_ (i := 8) (N := some 117) (v := undef) (a' := ?_) (z9.bm 45 511) rfl rfl (any_of HT_.out (by kernel_rfl)) (fun _ _ _ h => h) (Or.inr ⟨by rfl, rfl⟩) ?_ ?_
                rotate_left
                ·simp only [Act.put, List.setIfInBounds_toArray, List.set_cons_zero, List.set_cons_succ, i64_w, i32_w]
                 rfl
                refine pure_ (i := 9) (N := some 118) (v := undef) (a' := ?_) (z9.bm 45 1023) rfl rfl (any_of HT_.out (by kernel_rfl)) (fun _ _ _ h => h) (Or.inr ⟨by rfl, rfl⟩) ?_ ?_
                rotate_left
                ·simp only [Act.put, List.setIfInBounds_toArray, List.set_cons_zero, List.set_cons_succ, i64_w, i32_w]
                 rfl
                refine pure_ (i := 10) (N := some 119) (v := undef) (a' := ?_) (z9.bm 45 2047) rfl rfl (any_of HT_.out (by kernel_rfl)) (fun _ _ _ h => h) (Or.inr ⟨by rfl, rfl⟩) ?_ ?_
                rotate_left
                ·simp only [Act.put, List.setIfInBounds_toArray, List.set_cons_zero, List.set_cons_succ, i64_w, i32_w]
                 rfl
                refine pure_ (i := 11) (N := some 120) (v := undef) (a' := ?_) (z9.bm 45 4095) rfl rfl (any_of HT_.out (by kernel_rfl)) (fun _ _ _ h => h) (Or.inr ⟨by rfl, rfl⟩) ?_ ?_
                rotate_left
                ·simp only [Act.put, List.setIfInBounds_toArray, List.set_cons_zero, List.set_cons_succ, i64_w, i32_w]
                 rfl
                refine pure_ (i := 12) (N := some 121) (v := undef) (a' := ?_) (z9.bm 45 8191) rfl rfl (any_of HT_.out (by kernel_rfl)) (fun _ _ _ h => h) (Or.inr ⟨by rfl, rfl⟩) ?_ ?_
                rotate_left
                ·simp only [Act.put, List.setIfInBounds_toArray, List.set_cons_zero, List.set_cons_succ, i64_w, i32_w]
                 rfl
                refine z9.pa (i := 13) (N := some 122) (z9.bm 45 16383) HT_.out ?_
                refine z9.pa (i := 14) (N := some 123) (z9.bm 45 32767) HT_.out ?_
                refine z9.pa (i := 15) (N := some 124) (z9.bm 45 65535) HT_.out ?_
                refine z9.pa (i := 16) (N := some 125) (z9.bm 45 131071) HT_.out ?_
                refine z9.pa (i := 17) (N := some 126) (z9.bm 45 262143) HT_.out ?_
                refine z9.pa (i := 18) (N := some 127) (z9.bm 45 524287) HT_.out ?_
                refine z9.pa (i := 21) (N := some 130) (z9.bm 45 2621439) HT_.out ?_
                refine z9.pa (i := 22) (N := some 131) (z9.bm 45 6815743) HT_.out ?_
                refine z9.pa (i := 23) (N := some 132) (z9.bm 45 15204351) HT_.out ?_
                refine z9.pa (i := 24) (N := some 133) (z9.bm 45 31981567) HT_.out ?_
                refine z9.ta (i := 19) (N := some 128) (z9.bm 45 32505855) rfl (take_ofW HT_.out HW_.out (by kernel_rfl)) (Or.inl ⟨by rfl, by rintro w' ⟨s0, s1⟩; go_simp; with_reducible rfl⟩) hHeld ?_
                refine z9.ta (i := 25) (N := some 134) (z9.bm 45 66060287) rfl (take_ofW HT_.out HW_.out (by kernel_rfl)) (Or.inl ⟨by rfl, by rintro w' ⟨s0, s1⟩; go_simp; with_reducible rfl⟩) hHeld ?_
                refine one_ (i := 20) (N := some 129) (z9.bm 45 67108863) rfl rfl (one_of HT_.out (by kernel_rfl)) (by decide) (fun K hK => ?_)
                refine goes_ Try.func46 (by kernel_rfl) rfl #[.slice Ao89 t223.length co89, .int .i64 (rd t220 x18_3)] (by rfl) rfl rfl (by (try simp only [List.map_toArray, List.map_cons, List.map_nil]); first | done | rfl | (simp only [List.length_drop, List.length_take]; rfl)) ?_
                with_reducible refine (laws_r8Count.calls k3 _ _ t223 (rd t220 x18_3) t250 _ ?side1 ?side2 A77.out).mono ?_
                (case side1 => repeat (first | exact (Kd.R_reads' HO_8.out).2.2 | (with_reducible refine Kd.C_alloc ?_ _) | (with_reducible refine Kd.C_drewN ?_ _) | (with_reducible refine Kd.C_drew ?_)))
                (case side2 => exact (Kd.R_reads' HO_8.out).2.1)
                rintro e w' ⟨rfl, ⟨nd, rfl⟩⟩
                refine ⟨_, rfl, ?_⟩
                refine hK.out _ _ ⟨hHeld.1, hHeld.2⟩ (fun hHeld => ?_)
                clear hK K
                refine norm_ (a' := ?_) ?_ ?_
                rotate_left
                ·show Act.put _ (some 129) _ = _
                 simp only [Act.put, List.setIfInBounds_toArray, List.set_cons_zero, List.set_cons_succ, i64_w, i32_w]
                 rfl
                refine one_ (i := 26) (N := some 135) (z9.bm 45 134217727) rfl rfl (one_of HT_.out (by kernel_rfl)) (by decide) (fun K hK => ?_)
                refine goes_ Try.func46 (by kernel_rfl) rfl #[.slice (some ad249) t220.length co15, .int .i64 (rd t220 x18_3)] (by rfl) rfl rfl (by (try simp only [List.map_toArray, List.map_cons, List.map_nil]); first | done | rfl | (simp only [List.length_drop, List.length_take]; rfl)) ?_
                with_reducible refine (laws_r8Count.calls k3 _ _ t220 (rd t220 x18_3) t252 _ ?side1 ?side2 A78.out).mono ?_
                (case side1 => repeat (first | exact (Kd.R_reads' HO_7.out).2.2 | (with_reducible refine Kd.C_alloc ?_ _) | (with_reducible refine Kd.C_drewN ?_ _) | (with_reducible refine Kd.C_drew ?_)))
                (case side2 => exact (Kd.R_reads' HO_7.out).2.1)
                rintro e w' ⟨rfl, ⟨nd, rfl⟩⟩
                refine ⟨_, rfl, ?_⟩
                refine hK.out _ _ ⟨hHeld.1, hHeld.2⟩ (fun hHeld => ?_)
                clear hK K
                refine norm_ (a' := ?_) ?_ ?_
                rotate_left
                ·show Act.put _ (some 135) _ = _
                 simp only [Act.put, List.setIfInBounds_toArray, List.set_cons_zero, List.set_cons_succ, i64_w, i32_w]
                 rfl
                refine z9.pa (i := 27) (N := some 136) (z9.bm 45 268435455) HT_.out ?_
                refine z9.pa (i := 28) (N := some 137) (z9.bm 45 536870911) HT_.out ?_
                refine z9.pa (i := 29) (N := some 138) (z9.bm 45 1073741823) HT_.out ?_
                refine z9.pa (i := 30) (N := some 139) (z9.bm 45 2147483647) HT_.out ?_
                refine z9.pa (i := 31) (N := some 140) (z9.bm 45 4294967295) HT_.out ?_
                refine z9.pa (i := 32) (N := some 141) (z9.bm 45 8589934591) HT_.out ?_
                refine z9.pa (i := 33) (N := some 142) (z9.bm 45 17179869183) HT_.out ?_
                refine pure_ (i := 34) (N := some 143) (v := undef) (a' := ?_) (z9.bm 45 34359738367) rfl rfl (any_of HT_.out (by kernel_rfl)) (fun _ _ _ h => h) (Or.inr ⟨by rfl, rfl⟩) ?_ ?_
                rotate_left
                ·simp only [Act.put, List.setIfInBounds_toArray, List.set_cons_zero, List.set_cons_succ, i64_w, i32_w]
                 rfl
                refine pure_ (i := 35) (N := some 144) (v := undef) (a' := ?_) (z9.bm 45 68719476735) rfl rfl (any_of HT_.out (by kernel_rfl)) (fun _ _ _ h => h) (Or.inr ⟨by rfl, rfl⟩) ?_ ?_
                rotate_left
                ·simp only [Act.put, List.setIfInBounds_toArray, List.set_cons_zero, List.set_cons_succ, i64_w, i32_w]
                 rfl
                refine pure_ (i := 36) (N := some 145) (v := undef) (a' := ?_) (z9.bm 45 137438953471) rfl rfl (any_of HT_.out (by kernel_rfl)) (fun _ _ _ h => h) (Or.inr ⟨by rfl, rfl⟩) ?_ ?_
                rotate_left
                ·simp only [Act.put, List.setIfInBounds_toArray, List.set_cons_zero, List.set_cons_succ, i64_w, i32_w]
                 rfl
                refine pure_ (i := 37) (N := some 146) (v := undef) (a' := ?_) (z9.bm 45 274877906943) rfl rfl (any_of HT_.out (by kernel_rfl)) (fun _ _ _ h => h) (Or.inr ⟨by rfl, rfl⟩) ?_ ?_
                rotate_left
                ·simp only [Act.put, List.setIfInBounds_toArray, List.set_cons_zero, List.set_cons_succ, i64_w, i32_w]
                 rfl
                refine pure_ (i := 38) (N := some 147) (v := undef) (a' := ?_) (z9.bm 45 549755813887) rfl rfl (any_of HT_.out (by kernel_rfl)) (fun _ _ _ h => h) (Or.inr ⟨by rfl, rfl⟩) ?_ ?_
                rotate_left
                ·simp only [Act.put, List.setIfInBounds_toArray, List.set_cons_zero, List.set_cons_succ, i64_w, i32_w]
                 rfl
                refine pure_ (i := 39) (N := some 148) (v := undef) (a' := ?_) (z9.bm 45 1099511627775) rfl rfl (any_of HT_.out (by kernel_rfl)) (fun _ _ _ h => h) (Or.inr ⟨by rfl, rfl⟩) ?_ ?_
                rotate_left
                ·simp only [Act.put, List.setIfInBounds_toArray, List.set_cons_zero, List.set_cons_succ, i64_w, i32_w]
                 rfl
                refine pure_ (i := 40) (N := some 149) (v := undef) (a' := ?_) (z9.bm 45 2199023255551) rfl rfl (any_of HT_.out (by kernel_rfl)) (fun _ _ _ h => h) (Or.inr ⟨by rfl, rfl⟩) ?_ ?_
                rotate_left
                ·simp only [Act.put, List.setIfInBounds_toArray, List.set_cons_zero, List.set_cons_succ, i64_w, i32_w]
                 rfl
                refine pure_ (i := 41) (N := some 150) (v := undef) (a' := ?_) (z9.bm 45 4398046511103) rfl rfl (any_of HT_.out (by kernel_rfl)) (fun _ _ _ h => h) (Or.inr ⟨by rfl, rfl⟩) ?_ ?_
                rotate_left
                ·simp only [Act.put, List.setIfInBounds_toArray, List.set_cons_zero, List.set_cons_succ, i64_w, i32_w]
                 rfl
                refine pure_ (i := 42) (N := some 151) (v := undef) (a' := ?_) (z9.bm 45 8796093022207) rfl rfl (any_of HT_.out (by kernel_rfl)) (fun _ _ _ h => h) (Or.inr ⟨by rfl, rfl⟩) ?_ ?_
                rotate_left
                ·simp only [Act.put, List.setIfInBounds_toArray, List.set_cons_zero, List.set_cons_succ, i64_w, i32_w]
                 rfl
                refine z9.pa (i := 43) (N := some 152) (z9.bm 45 17592186044415) HT_.out ?_
                refine z9.pa (i := 44) (N := some 153) (z9.bm 45 35184372088831) HT_.out ?_
                refine done_ (done_of HT_.out (by kernel_rfl)) ?_
                try go_wp2
                go_roundg k3
                case measure => have := HJ10.out; have := HK2.out; have := HK3.out; omega
                case rel => exact ⟨(wrap64 (x18_3 + 1)), (by first | rfl | (simp; done) | (simp [*]; done)), H', ⟨by have := HJ10.out; have := HK2.out; have := HK3.out; omega⟩, ⟨by (with_reducible repeat (first | apply Kd.R_alloc | apply Kd.R_drewN | apply Kd.R_drew)); exact HO_7.out⟩, ⟨by (with_reducible repeat (first | apply Kd.R_alloc | apply Kd.R_drewN | apply Kd.R_drew)); exact HO_8.out⟩, ⟨by (with_reducible repeat (first | apply Kd.R_alloc | apply Kd.R_drewN | apply Kd.R_drew)); exact HO_14.out⟩, ⟨by repeat (first | (with_reducible first | exact HB.out | apply below_alloc | apply pw_below_drewN | apply below_drew1) | exact HB.out)⟩⟩
              ·rw [if_neg c79] at H
               have c79b0 : (t250 == t252) = false := beq_eq_false_iff_ne.mpr c79
               have c79b1 : (t250 != t252) = true := bne_iff_ne.mpr c79
               obtain rfl := Option.some.inj H
               try go_wp2
               have n0_ := Aside0.mk (Kd.R_drew HO_7.out)
               have n1_ := Aside0.mk (Kd.R_drew HO_8.out)
               have n2_ := Aside0.mk (Kd.R_drew HO_14.out)
               have n3_ := Aside0.mk (below_drew1 HB.out)
               clear HO_7
               clear HO_8
               clear HO_14
               clear HB
               have HO_7 := n0_
               have HO_8 := n1_
               have HO_14 := n2_
               have HB := n3_
               clear n0_ n1_ n2_ n3_
               have p249 : 0 ≤ (x18_3 : Int) := of_decide_eq_true (by first | (with_reducible assumption) | assumption)
               have q249 : x18_3 < (t220.length : Int) := of_decide_eq_true (by first | (with_reducible assumption) | assumption)
               obtain ⟨ad249, e249, hx249_0⟩ := Kd.at_int (Kd.R_reads' HO_7.out).2.2 x18_3 p249 q249
               cases e249
               replace p249 := eq_true p249
               replace q249 := eq_true q249
               have p251 : 0 ≤ (x18_3 : Int) := of_decide_eq_true (by first | (with_reducible assumption) | assumption)
               have q251 : x18_3 < (t220.length : Int) := of_decide_eq_true (by first | (with_reducible assumption) | assumption)
               obtain ⟨ad251, e251, hx251_0⟩ := Kd.at_int (Kd.R_reads' HO_7.out).2.2 x18_3 p251 q251
               obtain rfl : ad249 = ad251 := (by injection e251)
               replace p251 := eq_true p251
               replace q251 := eq_true q251
               obtain ⟨Ao91, co91, eo91⟩ := Kd.R_slice HO_8.out
               (first | subst eo91 | (injection eo91 with f1_ f2_ f3_; have f4_ := f1_.symm; have f5_ := f3_.symm; clear f1_ f2_ f3_; subst f4_; subst f5_))
               refine start_ (n := 45) (S := fun w' => w'.cell? (ad249.add (x18_3).toNat) = some (.int .i64 (rd t220 x18_3)) ∧ w'.cell? (ad249.add (x18_3).toNat) = some (.int .i64 (rd t220 x18_3))) (ds := []) (z9.bm 45 0) (by kernel_rfl) rfl rfl ⟨hx249_0, hx251_0⟩ (fun hHeld => ?_); refine with_tabW laws_FnSorted.tab22 laws_FnSorted.bits22 (fun HT_ HW_ => ?_)
               generalize wr.drew = w90 at HO_7 HO_8 HO_14 HB hx249_0 hx251_0 hHeld ⊢
               refine z9.pa (i := 0) (N := some 109) (z9.bm 45 1) HT_.out ?_
               refine z9.pa (i := 1) (N := some 110) (z9.bm 45 3) HT_.out ?_
               refine z9.pa (i := 2) (N := some 111) (z9.bm 45 7) HT_.out ?_
               refine pure_ (i := 3) (N := some 112) (v := undef) (a' := ?_) (z9.bm 45 15) rfl rfl (any_of HT_.out (by kernel_rfl)) (fun _ _ _ h => h) (Or.inr ⟨by rfl, rfl⟩) ?_ ?_
               rotate_left
               ·simp only [Act.put, List.setIfInBounds_toArray, List.set_cons_zero, List.set_cons_succ, i64_w, i32_w]
                rfl
               refine pure_ (i := 4) (N := some 113) (v := undef) (a' := ?_) (z9.bm 45 31) rfl rfl (any_of HT_.out (by kernel_rfl)) (fun _ _ _ h => h) (Or.inr ⟨by rfl, rfl⟩) ?_ ?_
               rotate_left
               ·simp only [Act.put, List.setIfInBounds_toArray, List.set_cons_zero, List.set_cons_succ, i64_w, i32_w]
                rfl
               refine pure_ (i := 5) (N := some 114) (v := undef) (a' := ?_) (z9.bm 45 63) rfl rfl (any_of HT_.out (by kernel_rfl)) (fun _ _ _ h => h) (Or.inr ⟨by rfl, rfl⟩) ?_ ?_
               rotate_left
               ·simp only [Act.put, List.setIfInBounds_toArray, List.set_cons_zero, List.set_cons_succ, i64_w, i32_w]
                rfl
               refine pure_ (i := 6) (N := some 115) (v := undef) (a' := ?_) (z9.bm 45 127) rfl rfl (any_of HT_.out (by kernel_rfl)) (fun _ _ _ h => h) (Or.inr ⟨by rfl, rfl⟩) ?_ ?_
               rotate_left
               ·simp only [Act.put, List.setIfInBounds_toArray, List.set_cons_zero, List.set_cons_succ, i64_w, i32_w]
                rfl
               refine pure_ (i := 7) (N := some 116) (v := undef) (a' := ?_) (z9.bm 45 255) rfl rfl (any_of HT_.out (by kernel_rfl)) (fun _ _ _ h => h) (Or.inr ⟨by rfl, rfl⟩) ?_ ?_
               rotate_left
               ·simp only [Act.put, List.setIfInBounds_toArray, List.set_cons_zero, List.set_cons_succ, i64_w, i32_w]
                rfl
               refine pure_ (i := 8) (N := some 117) (v := undef) (a' := ?_) (z9.bm 45 511) rfl rfl (any_of HT_.out (by kernel_rfl)) (fun _ _ _ h => h) (Or.inr ⟨by rfl, rfl⟩) ?_ ?_
               rotate_left
               ·simp only [Act.put, List.setIfInBounds_toArray, List.set_cons_zero, List.set_cons_succ, i64_w, i32_w]
                rfl
               refine pure_ (i := 9) (N := some 118) (v := undef) (a' := ?_) (z9.bm 45 1023) rfl rfl (any_of HT_.out (by kernel_rfl)) (fun _ _ _ h => h) (Or.inr ⟨by rfl, rfl⟩) ?_ ?_
               rotate_left
               ·simp only [Act.put, List.setIfInBounds_toArray, List.set_cons_zero, List.set_cons_succ, i64_w, i32_w]
                rfl
               refine pure_ (i := 10) (N := some 119) (v := undef) (a' := ?_) (z9.bm 45 2047) rfl rfl (any_of HT_.out (by kernel_rfl)) (fun _ _ _ h => h) (Or.inr ⟨by rfl, rfl⟩) ?_ ?_
               rotate_left
               ·simp only [Act.put, List.setIfInBounds_toArray, List.set_cons_zero, List.set_cons_succ, i64_w, i32_w]
                rfl
               refine pure_ (i := 11) (N := some 120) (v := undef) (a' := ?_) (z9.bm 45 4095) rfl rfl (any_of HT_.out (by kernel_rfl)) (fun _ _ _ h => h) (Or.inr ⟨by rfl, rfl⟩) ?_ ?_
               rotate_left
               ·simp only [Act.put, List.setIfInBounds_toArray, List.set_cons_zero, List.set_cons_succ, i64_w, i32_w]
                rfl
               refine pure_ (i := 12) (N := some 121) (v := undef) (a' := ?_) (z9.bm 45 8191) rfl rfl (any_of HT_.out (by kernel_rfl)) (fun _ _ _ h => h) (Or.inr ⟨by rfl, rfl⟩) ?_ ?_
               rotate_left
               ·simp only [Act.put, List.setIfInBounds_toArray, List.set_cons_zero, List.set_cons_succ, i64_w, i32_w]
                rfl
               refine z9.pa (i := 13) (N := some 122) (z9.bm 45 16383) HT_.out ?_
               refine z9.pa (i := 14) (N := some 123) (z9.bm 45 32767) HT_.out ?_
               refine z9.pa (i := 15) (N := some 124) (z9.bm 45 65535) HT_.out ?_
               refine z9.pa (i := 16) (N := some 125) (z9.bm 45 131071) HT_.out ?_
               refine z9.pa (i := 17) (N := some 126) (z9.bm 45 262143) HT_.out ?_
               refine z9.pa (i := 18) (N := some 127) (z9.bm 45 524287) HT_.out ?_
               refine z9.pa (i := 21) (N := some 130) (z9.bm 45 2621439) HT_.out ?_
               refine z9.pa (i := 22) (N := some 131) (z9.bm 45 6815743) HT_.out ?_
               refine z9.pa (i := 23) (N := some 132) (z9.bm 45 15204351) HT_.out ?_
               refine z9.pa (i := 24) (N := some 133) (z9.bm 45 31981567) HT_.out ?_
               refine z9.ta (i := 19) (N := some 128) (z9.bm 45 32505855) rfl (take_ofW HT_.out HW_.out (by kernel_rfl)) (Or.inl ⟨by rfl, by rintro w' ⟨s0, s1⟩; go_simp; with_reducible rfl⟩) hHeld ?_
               refine z9.ta (i := 25) (N := some 134) (z9.bm 45 66060287) rfl (take_ofW HT_.out HW_.out (by kernel_rfl)) (Or.inl ⟨by rfl, by rintro w' ⟨s0, s1⟩; go_simp; with_reducible rfl⟩) hHeld ?_
               refine one_ (i := 20) (N := some 129) (z9.bm 45 67108863) rfl rfl (one_of HT_.out (by kernel_rfl)) (by decide) (fun K hK => ?_)
               refine goes_ Try.func46 (by kernel_rfl) rfl #[.slice Ao91 t223.length co91, .int .i64 (rd t220 x18_3)] (by rfl) rfl rfl (by (try simp only [List.map_toArray, List.map_cons, List.map_nil]); first | done | rfl | (simp only [List.length_drop, List.length_take]; rfl)) ?_
               with_reducible refine (laws_r8Count.calls k3 _ _ t223 (rd t220 x18_3) t250 _ ?side1 ?side2 A77.out).mono ?_
               (case side1 => repeat (first | exact (Kd.R_reads' HO_8.out).2.2 | (with_reducible refine Kd.C_alloc ?_ _) | (with_reducible refine Kd.C_drewN ?_ _) | (with_reducible refine Kd.C_drew ?_)))
               (case side2 => exact (Kd.R_reads' HO_8.out).2.1)
               rintro e w' ⟨rfl, ⟨nd, rfl⟩⟩
               refine ⟨_, rfl, ?_⟩
               refine hK.out _ _ ⟨hHeld.1, hHeld.2⟩ (fun hHeld => ?_)
               clear hK K
               refine norm_ (a' := ?_) ?_ ?_
               rotate_left
               ·show Act.put _ (some 129) _ = _
                simp only [Act.put, List.setIfInBounds_toArray, List.set_cons_zero, List.set_cons_succ, i64_w, i32_w]
                rfl
               refine one_ (i := 26) (N := some 135) (z9.bm 45 134217727) rfl rfl (one_of HT_.out (by kernel_rfl)) (by decide) (fun K hK => ?_)
               refine goes_ Try.func46 (by kernel_rfl) rfl #[.slice (some ad249) t220.length co15, .int .i64 (rd t220 x18_3)] (by rfl) rfl rfl (by (try simp only [List.map_toArray, List.map_cons, List.map_nil]); first | done | rfl | (simp only [List.length_drop, List.length_take]; rfl)) ?_
               with_reducible refine (laws_r8Count.calls k3 _ _ t220 (rd t220 x18_3) t252 _ ?side1 ?side2 A78.out).mono ?_
               (case side1 => repeat (first | exact (Kd.R_reads' HO_7.out).2.2 | (with_reducible refine Kd.C_alloc ?_ _) | (with_reducible refine Kd.C_drewN ?_ _) | (with_reducible refine Kd.C_drew ?_)))
               (case side2 => exact (Kd.R_reads' HO_7.out).2.1)
               rintro e w' ⟨rfl, ⟨nd, rfl⟩⟩
               refine ⟨_, rfl, ?_⟩
               refine hK.out _ _ ⟨hHeld.1, hHeld.2⟩ (fun hHeld => ?_)
               clear hK K
               refine norm_ (a' := ?_) ?_ ?_
               rotate_left
               ·show Act.put _ (some 135) _ = _
                simp only [Act.put, List.setIfInBounds_toArray, List.set_cons_zero, List.set_cons_succ, i64_w, i32_w]
                rfl
               refine z9.pa (i := 27) (N := some 136) (z9.bm 45 268435455) HT_.out ?_
               refine z9.pa (i := 28) (N := some 137) (z9.bm 45 536870911) HT_.out ?_
               refine z9.pa (i := 29) (N := some 138) (z9.bm 45 1073741823) HT_.out ?_
               refine pure_ (i := 30) (N := some 139) (v := undef) (a' := ?_) (z9.bm 45 2147483647) rfl rfl (any_of HT_.out (by kernel_rfl)) (fun _ _ _ h => h) (Or.inr ⟨by rfl, rfl⟩) ?_ ?_
               rotate_left
               ·simp only [Act.put, List.setIfInBounds_toArray, List.set_cons_zero, List.set_cons_succ, i64_w, i32_w]
                rfl
               refine pure_ (i := 31) (N := some 140) (v := undef) (a' := ?_) (z9.bm 45 4294967295) rfl rfl (any_of HT_.out (by kernel_rfl)) (fun _ _ _ h => h) (Or.inr ⟨by rfl, rfl⟩) ?_ ?_
               rotate_left
               ·simp only [Act.put, List.setIfInBounds_toArray, List.set_cons_zero, List.set_cons_succ, i64_w, i32_w]
                rfl
               refine pure_ (i := 32) (N := some 141) (v := undef) (a' := ?_) (z9.bm 45 8589934591) rfl rfl (any_of HT_.out (by kernel_rfl)) (fun _ _ _ h => h) (Or.inr ⟨by rfl, rfl⟩) ?_ ?_
               rotate_left
               ·simp only [Act.put, List.setIfInBounds_toArray, List.set_cons_zero, List.set_cons_succ, i64_w, i32_w]
                rfl
               refine pure_ (i := 33) (N := some 142) (v := undef) (a' := ?_) (z9.bm 45 17179869183) rfl rfl (any_of HT_.out (by kernel_rfl)) (fun _ _ _ h => h) (Or.inr ⟨by rfl, rfl⟩) ?_ ?_
               rotate_left
               ·simp only [Act.put, List.setIfInBounds_toArray, List.set_cons_zero, List.set_cons_succ, i64_w, i32_w]
                rfl
               refine pure_ (i := 34) (N := some 143) (v := undef) (a' := ?_) (z9.bm 45 34359738367) rfl rfl (any_of HT_.out (by kernel_rfl)) (fun _ _ _ h => h) (Or.inr ⟨by rfl, rfl⟩) ?_ ?_
               rotate_left
               ·simp only [Act.put, List.setIfInBounds_toArray, List.set_cons_zero, List.set_cons_succ, i64_w, i32_w]
                rfl
               refine pure_ (i := 35) (N := some 144) (v := undef) (a' := ?_) (z9.bm 45 68719476735) rfl rfl (any_of HT_.out (by kernel_rfl)) (fun _ _ _ h => h) (Or.inr ⟨by rfl, rfl⟩) ?_ ?_
               rotate_left
               ·simp only [Act.put, List.setIfInBounds_toArray, List.set_cons_zero, List.set_cons_succ, i64_w, i32_w]
                rfl
               refine pure_ (i := 36) (N := some 145) (v := undef) (a' := ?_) (z9.bm 45 137438953471) rfl rfl (any_of HT_.out (by kernel_rfl)) (fun _ _ _ h => h) (Or.inr ⟨by rfl, rfl⟩) ?_ ?_
               rotate_left
               ·simp only [Act.put, List.setIfInBounds_toArray, List.set_cons_zero, List.set_cons_succ, i64_w, i32_w]
                rfl
               refine pure_ (i := 37) (N := some 146) (v := undef) (a' := ?_) (z9.bm 45 274877906943) rfl rfl (any_of HT_.out (by kernel_rfl)) (fun _ _ _ h => h) (Or.inr ⟨by rfl, rfl⟩) ?_ ?_
               rotate_left
               ·simp only [Act.put, List.setIfInBounds_toArray, List.set_cons_zero, List.set_cons_succ, i64_w, i32_w]
                rfl
               refine pure_ (i := 38) (N := some 147) (v := undef) (a' := ?_) (z9.bm 45 549755813887) rfl rfl (any_of HT_.out (by kernel_rfl)) (fun _ _ _ h => h) (Or.inr ⟨by rfl, rfl⟩) ?_ ?_
               rotate_left
               ·simp only [Act.put, List.setIfInBounds_toArray, List.set_cons_zero, List.set_cons_succ, i64_w, i32_w]
                rfl
               refine pure_ (i := 39) (N := some 148) (v := undef) (a' := ?_) (z9.bm 45 1099511627775) rfl rfl (any_of HT_.out (by kernel_rfl)) (fun _ _ _ h => h) (Or.inr ⟨by rfl, rfl⟩) ?_ ?_
               rotate_left
               ·simp only [Act.put, List.setIfInBounds_toArray, List.set_cons_zero, List.set_cons_succ, i64_w, i32_w]
                rfl
               refine pure_ (i := 40) (N := some 149) (v := undef) (a' := ?_) (z9.bm 45 2199023255551) rfl rfl (any_of HT_.out (by kernel_rfl)) (fun _ _ _ h => h) (Or.inr ⟨by rfl, rfl⟩) ?_ ?_
               rotate_left
               ·simp only [Act.put, List.setIfInBounds_toArray, List.set_cons_zero, List.set_cons_succ, i64_w, i32_w]
                rfl
               refine pure_ (i := 41) (N := some 150) (v := undef) (a' := ?_) (z9.bm 45 4398046511103) rfl rfl (any_of HT_.out (by kernel_rfl)) (fun _ _ _ h => h) (Or.inr ⟨by rfl, rfl⟩) ?_ ?_
               rotate_left
               ·simp only [Act.put, List.setIfInBounds_toArray, List.set_cons_zero, List.set_cons_succ, i64_w, i32_w]
                rfl
               refine pure_ (i := 42) (N := some 151) (v := undef) (a' := ?_) (z9.bm 45 8796093022207) rfl rfl (any_of HT_.out (by kernel_rfl)) (fun _ _ _ h => h) (Or.inr ⟨by rfl, rfl⟩) ?_ ?_
               rotate_left
               ·simp only [Act.put, List.setIfInBounds_toArray, List.set_cons_zero, List.set_cons_succ, i64_w, i32_w]
                rfl
               refine pure_ (i := 43) (N := some 152) (v := undef) (a' := ?_) (z9.bm 45 17592186044415) rfl rfl (any_of HT_.out (by kernel_rfl)) (fun _ _ _ h => h) (Or.inr ⟨by rfl, rfl⟩) ?_ ?_
               rotate_left
               ·simp only [Act.put, List.setIfInBounds_toArray, List.set_cons_zero, List.set_cons_succ, i64_w, i32_w]
                rfl
               refine z9.pa (i := 44) (N := some 153) (z9.bm 45 35184372088831) HT_.out ?_
               refine done_ (done_of HT_.out (by kernel_rfl)) ?_
               try go_wp2
               go_ret
               exact ⟨by first | rfl | (simp [errW_none, errW_some] <;> rfl) | (simp [*, errW_none, errW_some] <;> rfl), by repeat (first | (with_reducible first | exact HB.out | apply below_alloc | apply pw_below_drewN | apply below_drew1) | exact HB.out)⟩
             ·rw [if_neg c76] at H
              exact absurd H (by simp)
           ·rw [if_neg c51] at H
            have c51b0 : decide (x18_3 < (t220.length : Int)) = false := decide_eq_false c51
            clear c51
            replace H := Option.bind_eq_some_iff.mp H
            obtain ⟨t240, A920, H⟩ := H
            replace H : (some t240) = some r := H
            have A92 := Aside0.mk A920
            clear A920
            obtain rfl := Option.some.inj H
            obtain ⟨Ao93, co93, eo93⟩ := Kd.R_slice HO_14.out
            subst eo93
            obtain ⟨Ao94, co94, eo94⟩ := Kd.R_slice HO_8.out
            subst eo94
            go_wp2_with (first | ((with_reducible refine gate_callee (f := 47) rfl ?_); refine goesL_ (some 156) rfl rfl Try.func47 (by kernel_rfl) rfl #[.slice Ao93 x14_2.length co93, .slice Ao94 t223.length co94] rfl (by (try simp only [List.map_toArray, List.map_cons, List.map_nil]); first | done | rfl | (simp only [List.length_drop, List.length_take]; rfl)) ?_; (with_reducible refine (laws_r8Same.calls k3 _ _ x14_2 _ _ t223 t240 _ ?side1 ?side2 ?side3 ?side4 A92.out).mono ?_); (case side1 => repeat (first | exact (Kd.R_reads' HO_14.out).2.2 | (with_reducible refine Kd.C_alloc ?_ _) | (with_reducible refine Kd.C_drewN ?_ _) | (with_reducible refine Kd.C_drew ?_))); (case side2 => exact (Kd.R_reads' HO_14.out).2.1); (case side3 => repeat (first | exact (Kd.R_reads' HO_8.out).2.2 | (with_reducible refine Kd.C_alloc ?_ _) | (with_reducible refine Kd.C_drewN ?_ _) | (with_reducible refine Kd.C_drew ?_))); (case side4 => exact (Kd.R_reads' HO_8.out).2.1); rintro e w' ⟨rfl, ⟨nd, rfl⟩⟩; refine ⟨_, rfl, ?_⟩))
            go_ret
            exact ⟨by first | rfl | (simp [errW_none, errW_some] <;> rfl) | (simp [*, errW_none, errW_some] <;> rfl), by repeat (first | (with_reducible first | exact HB.out | apply below_alloc | apply pw_below_drewN | apply below_drew1) | exact HB.out)⟩

/-- THE ONE PURE STATEMENT of laws_FnSorted: yours. -/
def laws_FnSorted.Pure : Prop := ∀ (l0 : List Int) (l1 : List Int), l0.length ≤ maxLen → l0.length * 1 ≤ 140737488351232 → (∀ x ∈ l0, (Lit.int .u8 x).wf = true) → l1.length ≤ maxLen → l1.length * 1 ≤ 140737488351232 → (∀ x ∈ l1, (Lit.int .u8 x).wf = true) → ∃ k, laws_FnSorted.f k l0 l1 = some true
theorem laws_FnSorted.walk (P : laws_FnSorted.Pure) (a0 : Option Addr) (len0 cap0 : Nat) (z0 : List Int) (a1 : Option Addr) (len1 cap1 : Nat) (z1 : List Int) (w : World) (w0 : (a0 = none ∧ len0 = 0 ∧ cap0 = 0 ∧ z0 = []) ∨ ∃ x, a0 = some x ∧ len0 ≤ cap0 ∧ cap0 ≤ maxLen ∧ z0.length = cap0 ∧ (∀ i, i < z0.length → w.cell? (x.add i) = some (.int .u8 (z0.getD i 0))) ∧ ∀ n ∈ z0, (Lit.int .u8 n).wf = true) (y0 : len0 * 1 ≤ 140737488351232) (w1 : (a1 = none ∧ len1 = 0 ∧ cap1 = 0 ∧ z1 = []) ∨ ∃ x, a1 = some x ∧ len1 ≤ cap1 ∧ cap1 ≤ maxLen ∧ z1.length = cap1 ∧ (∀ i, i < z1.length → w.cell? (x.add i) = some (.int .u8 (z1.getD i 0))) ∧ ∀ n ∈ z1, (Lit.int .u8 n).wf = true) (y1 : len1 * 1 ≤ 140737488351232) :
  Calls Try.prog 9 #[.slice a0 len0 cap0, .slice a1 len1 cap1] w fun e w' => e = .returned (.bool true) ∧ Below w.heap.size w w' := by
 obtain ⟨l0, rfl, hr0, hm0, hw0, hc0⟩ := ReadsInt.ofRowC w0
 obtain ⟨l1, rfl, hr1, hm1, hw1, hc1⟩ := ReadsInt.ofRowC w1
 obtain ⟨k, h⟩ := P l0 l1 hm0 y0 hw0 hm1 y1 hw1
 refine (laws_FnSorted.calls k _ _ l0 _ _ l1 true w (Kd.C_of_reads (d := (0 : Int)) (h1 := fun _ => rfl) hr0) hc0 (Kd.C_of_reads (d := (0 : Int)) (h1 := fun _ => rfl) hr1) hc1 h).mono ?_
 rintro e w' ⟨rfl, hd⟩
 exact ⟨rfl, hd⟩

end Go.Proofs.Ytpfoeologjacfaa.M
