-- Written by a program of this session (wip/tools) over the kit's print.
-- COMPACT
import Derived.Test.YtheemkehedmlfaaY0
import Derived.Test.YtheemkehedmlfaaY7
namespace Go.Proofs.Ytheemkehedmlfaa.Y
open Go.RowKit Go.Proofs.YtheemkehedmlfaaW.PrintWords Go.Proofs.YtheemkehedmlfaaW.PrintLast Go.Proofs.YtheemkehedmlfaaW.PrintMore
attribute [local go_sem] max2_int min2_int max_two min_two max_three min_three max_four min_four   -- for this text's walks alone
set_option linter.unusedVariables false
set_option linter.unusedSimpArgs false

/-! ### impl_paired: function 56 -/
mutual
def impl_paired.l0 : Nat → Int → List (S63) → List Int → List Int → List Int → List (List Int) → List Int → List (S63) → Int → Int → (List Int) → Option (List Int × Bool)
 | 0, _, _, _, _, _, _, _, _, _, _, _ => none
 | k + 1, x0, x1, x6, x7, x8, x9, x10, x24, x25, x26, x227000 => if x26 < x25 then (if 0 ≤ x26 then (if x26 < (x24.length : Int) then (if x26 < (x6.length : Int) then ((some (x6.set (x26 : Int).toNat x26 : List Int)).bind fun y229 => ((impl_isLine.f k x0 ((rd_T63 x24 x26).f0) ((rd_T63 x24 x26).f1) ((rd_T63 x24 x26).f2) ((rd_T63 x24 x26).f3) ((rd_T63 x24 x26).f4)).bind fun t230 => (if t230 = true then (if ((rd_T63 x24 x26).f0) = 2 then (impl_paired.j1 k x0 x1 y229 x7 x8 x9 x10 x26 (wrap64 ((x7.length : Int) - 1)) x24 x25 x26 ((rd_T63 x24 x26).f0) (((rd_T63 x24 x26).f0) == 2) x227000 ((rd_T63 x24 x26).f0) ((rd_T63 x24 x26).f1) ((rd_T63 x24 x26).f2) ((rd_T63 x24 x26).f3) ((rd_T63 x24 x26).f4)) else (impl_paired.j1 k x0 x1 y229 x7 x8 x9 x10 x26 (wrap64 ((x7.length : Int) - 1)) x24 x25 x26 ((rd_T63 x24 x26).f0) (((rd_T63 x24 x26).f0) == 5) x227000 ((rd_T63 x24 x26).f0) ((rd_T63 x24 x26).f1) ((rd_T63 x24 x26).f2) ((rd_T63 x24 x26).f3) ((rd_T63 x24 x26).f4))) else (some (([] : List Int), false))))) else (none)) else (none)) else (none)) else (some (x6, ((x7.length : Int) == 0)))
def impl_paired.j1 : Nat → Int → List (S63) → List Int → List Int → List Int → List (List Int) → List Int → Int → Int → List (S63) → Int → Int → Int → Bool → (List Int) → Int → Int → Int → Int → Int → Option (List Int × Bool)
 | 0, _, _, _, _, _, _, _, _, _, _, _, _, _, _, _, _, _, _, _, _ => none
 | k + 1, x0, x1, x6, x7, x8, x9, x10, x12, x14, x24, x25, x26, x43, x44, x227000, x229000, x229001, x229002, x229003, x229004 => if x44 = true then (if x7.length < 17592186044416 then ((some (x7 ++ [x12] : List Int)).bind fun y231 => (if x229000 = 5 then (if x8.length < 17592186044416 then (if x9.length < 5864062014805 then (if 0 ≤ (wrap64 ((x10.length : Int) - 1)) then (if (wrap64 ((x10.length : Int) - 1)) < (x10.length : Int) then (if x10.length < 17592186044416 then ((some (x10 ++ [wrap64 ((rd x10 (wrap64 ((x10.length : Int) - 1))) * x229004)] : List Int)).bind fun y241 => (if (y231.length : Int) > 4 then (some (([] : List Int), false)) else (if 0 ≤ (wrap64 ((y241.length : Int) - 1)) then (if (wrap64 ((y241.length : Int) - 1)) < (y241.length : Int) then (if (rd y241 (wrap64 ((y241.length : Int) - 1))) > 64 then (some (([] : List Int), false)) else (impl_paired.l0 k x0 x1 x6 y231 (x8 ++ [x12]) (x9 ++ [[]]) y241 x24 x25 (wrap64 (x26 + 1)) x227000)) else (none)) else (none)))) else (none)) else (none)) else (none)) else (none)) else (none)) else (if (y231.length : Int) > 4 then (some (([] : List Int), false)) else (if 0 ≤ (wrap64 ((x10.length : Int) - 1)) then (if (wrap64 ((x10.length : Int) - 1)) < (x10.length : Int) then (if (rd x10 (wrap64 ((x10.length : Int) - 1))) > 64 then (some (([] : List Int), false)) else (impl_paired.l0 k x0 x1 x6 y231 x8 x9 x10 x24 x25 (wrap64 (x26 + 1)) x227000)) else (none)) else (none))))) else (none)) else (if x43 = 3 then (if x14 < 0 then (impl_paired.j2 k x0 x1 x6 x7 x8 x9 x10 x12 x14 x24 x25 x26 true x227000) else (if 0 ≤ x14 then (if x14 < (x7.length : Int) then (if 0 ≤ (rd x7 x14) then (if (rd x7 x14) < (x1.length : Int) then (if ((rd_T63 x1 (rd x7 x14)).f0) = 2 then (impl_paired.j2 k x0 x1 x6 x7 x8 x9 x10 x12 x14 x24 x25 x26 (mget x227000 (rd x7 x14)) x227000) else (impl_paired.j2 k x0 x1 x6 x7 x8 x9 x10 x12 x14 x24 x25 x26 true x227000)) else (none)) else (none)) else (none)) else (none))) else (if x43 = 4 then (if x14 < 0 then (some (([] : List Int), false)) else (if 0 ≤ x14 then (if x14 < (x7.length : Int) then (if 0 ≤ x12 then (if x12 < (x6.length : Int) then ((some (x6.set (x12 : Int).toNat (rd x7 x14) : List Int)).bind fun y254 => (if 0 ≤ (rd x7 x14) then (if (rd x7 x14) < (x1.length : Int) then (if ((rd_T63 x1 (rd x7 x14)).f0) = 5 then (if (rd x7 x14) < (x6.length : Int) then (if 0 ≤ (wrap64 ((x8.length : Int) - 1)) then (if (wrap64 ((x8.length : Int) - 1)) < (x9.length : Int) then (impl_paired.l1 k x0 x1 (y254.set ((rd x7 x14) : Int).toNat x12) x7 x8 x9 x10 x12 x14 (wrap64 ((x8.length : Int) - 1)) x24 x25 x26 (rd_L5 x9 (wrap64 ((x8.length : Int) - 1))) ((rd_L5 x9 (wrap64 ((x8.length : Int) - 1))).length : Int) 0 x227000) else (none)) else (none)) else (none)) else (if mget x227000 (rd x7 x14) = true then (if (rd x7 x14) < (x6.length : Int) then (if 0 ≤ (rd y254 (rd x7 x14)) then (if (rd y254 (rd x7 x14)) < (x6.length : Int) then (if x14 ≤ (x7.length : Int) then ((some (x7.take (x14 : Int).toNat : List Int)).bind fun y275 => (if (y275.length : Int) > 4 then (some (([] : List Int), false)) else (if 0 ≤ (wrap64 ((x10.length : Int) - 1)) then (if (wrap64 ((x10.length : Int) - 1)) < (x10.length : Int) then (if (rd x10 (wrap64 ((x10.length : Int) - 1))) > 64 then (some (([] : List Int), false)) else (impl_paired.l0 k x0 x1 (y254.set ((rd y254 (rd x7 x14)) : Int).toNat x12) y275 x8 x9 x10 x24 x25 (wrap64 (x26 + 1)) x227000)) else (none)) else (none)))) else (none)) else (none)) else (none)) else (none)) else (if (rd x7 x14) < (x6.length : Int) then (if x14 ≤ (x7.length : Int) then ((some (x7.take (x14 : Int).toNat : List Int)).bind fun y280 => (if (y280.length : Int) > 4 then (some (([] : List Int), false)) else (if 0 ≤ (wrap64 ((x10.length : Int) - 1)) then (if (wrap64 ((x10.length : Int) - 1)) < (x10.length : Int) then (if (rd x10 (wrap64 ((x10.length : Int) - 1))) > 64 then (some (([] : List Int), false)) else (impl_paired.l0 k x0 x1 (y254.set ((rd x7 x14) : Int).toNat x12) y280 x8 x9 x10 x24 x25 (wrap64 (x26 + 1)) x227000)) else (none)) else (none)))) else (none)) else (none)))) else (none)) else (none))) else (none)) else (none)) else (none)) else (none))) else (if x43 = 6 then (if (x8.length : Int) = 0 then (some (([] : List Int), false)) else (if 0 ≤ (wrap64 ((x8.length : Int) - 1)) then (if (wrap64 ((x8.length : Int) - 1)) < (x9.length : Int) then (if (rd_L5 x9 (wrap64 ((x8.length : Int) - 1))).length < 17592186044416 then (if (x7.length : Int) > 4 then (some (([] : List Int), false)) else (if 0 ≤ (wrap64 ((x10.length : Int) - 1)) then (if (wrap64 ((x10.length : Int) - 1)) < (x10.length : Int) then (if (rd x10 (wrap64 ((x10.length : Int) - 1))) > 64 then (some (([] : List Int), false)) else (impl_paired.l0 k x0 x1 x6 x7 x8 (x9.set ((wrap64 ((x8.length : Int) - 1)) : Int).toNat ((rd_L5 x9 (wrap64 ((x8.length : Int) - 1))) ++ [x12])) x10 x24 x25 (wrap64 (x26 + 1)) x227000)) else (none)) else (none))) else (none)) else (none)) else (none))) else (if (x7.length : Int) > 4 then (some (([] : List Int), false)) else (if 0 ≤ (wrap64 ((x10.length : Int) - 1)) then (if (wrap64 ((x10.length : Int) - 1)) < (x10.length : Int) then (if (rd x10 (wrap64 ((x10.length : Int) - 1))) > 64 then (some (([] : List Int), false)) else (impl_paired.l0 k x0 x1 x6 x7 x8 x9 x10 x24 x25 (wrap64 (x26 + 1)) x227000)) else (none)) else (none))))))
def impl_paired.j2 : Nat → Int → List (S63) → List Int → List Int → List Int → List (List Int) → List Int → Int → Int → List (S63) → Int → Int → Bool → (List Int) → Option (List Int × Bool)
 | 0, _, _, _, _, _, _, _, _, _, _, _, _, _, _ => none
 | k + 1, x0, x1, x6, x7, x8, x9, x10, x12, x14, x24, x25, x26, x95, x227000 => if x95 = true then (some (([] : List Int), false)) else (if 0 ≤ x14 then (if x14 < (x7.length : Int) then (if 0 ≤ (rd x7 x14) then (if (rd x7 x14) < (x6.length : Int) then (if (x7.length : Int) > 4 then (some (([] : List Int), false)) else (if 0 ≤ (wrap64 ((x10.length : Int) - 1)) then (if (wrap64 ((x10.length : Int) - 1)) < (x10.length : Int) then (if (rd x10 (wrap64 ((x10.length : Int) - 1))) > 64 then (some (([] : List Int), false)) else (impl_paired.l0 k x0 x1 (x6.set ((rd x7 x14) : Int).toNat x12) x7 x8 x9 x10 x24 x25 (wrap64 (x26 + 1)) (mset x227000 (rd x7 x14)))) else (none)) else (none))) else (none)) else (none)) else (none)) else (none))
def impl_paired.l1 : Nat → Int → List (S63) → List Int → List Int → List Int → List (List Int) → List Int → Int → Int → Int → List (S63) → Int → Int → List Int → Int → Int → (List Int) → Option (List Int × Bool)
 | 0, _, _, _, _, _, _, _, _, _, _, _, _, _, _, _, _, _ => none
 | k + 1, x0, x1, x6, x7, x8, x9, x10, x12, x14, x16, x24, x25, x26, x141, x142, x143, x227000 => if x143 < x142 then (if 0 ≤ x143 then (if x143 < (x141.length : Int) then (if 0 ≤ (rd x141 x143) then (if (rd x141 x143) < (x6.length : Int) then (impl_paired.l1 k x0 x1 (x6.set ((rd x141 x143) : Int).toNat x12) x7 x8 x9 x10 x12 x14 x16 x24 x25 x26 x141 x142 (wrap64 (x143 + 1)) x227000) else (none)) else (none)) else (none)) else (none)) else (if 0 ≤ x16 then (if x16 ≤ (x8.length : Int) then (if x16 ≤ (x9.length : Int) then (if 0 ≤ (wrap64 ((x10.length : Int) - 1)) then (if (wrap64 ((x10.length : Int) - 1)) ≤ (x10.length : Int) then ((some (x10.take ((wrap64 ((x10.length : Int) - 1)) : Int).toNat : List Int)).bind fun y266 => (if 0 ≤ x14 then (if x14 ≤ (x7.length : Int) then ((some (x7.take (x14 : Int).toNat : List Int)).bind fun y269 => (if (y269.length : Int) > 4 then (some (([] : List Int), false)) else (if 0 ≤ (wrap64 ((y266.length : Int) - 1)) then (if (wrap64 ((y266.length : Int) - 1)) < (y266.length : Int) then (if (rd y266 (wrap64 ((y266.length : Int) - 1))) > 64 then (some (([] : List Int), false)) else (impl_paired.l0 k x0 x1 x6 y269 (x8.take (x16 : Int).toNat) (x9.take (x16 : Int).toNat) y266 x24 x25 (wrap64 (x26 + 1)) x227000)) else (none)) else (none)))) else (none)) else (none))) else (none)) else (none)) else (none)) else (none)) else (none))
end
def impl_paired.f (k : Nat) (a0 : Int) (l1 : List (S63)) : Option (List Int × Bool) := if 0 ≤ (l1.length : Int) then (if ((l1.length : Int) : Int).toNat ≤ 35184372088832 then (impl_paired.l0 k a0 l1 (List.replicate ((l1.length : Int) : Int).toNat 0) ([] : List Int) ([] : List Int) ([] : List (List Int)) (([1] : List Int)) l1 (l1.length : Int) 0 ([] : List Int)) else (none)) else (none)
theorem impl_paired.mono_l : ∀ k, (∀ y0 y1 y2 y3 y4 y5 y6 y7 y8 y9 y10, LeO (impl_paired.l0 k y0 y1 y2 y3 y4 y5 y6 y7 y8 y9 y10) (impl_paired.l0 (k + 1) y0 y1 y2 y3 y4 y5 y6 y7 y8 y9 y10)) ∧ (∀ y0 y1 y2 y3 y4 y5 y6 y7 y8 y9 y10 y11 y12 y13 y14 y15 y16 y17 y18 y19, LeO (impl_paired.j1 k y0 y1 y2 y3 y4 y5 y6 y7 y8 y9 y10 y11 y12 y13 y14 y15 y16 y17 y18 y19) (impl_paired.j1 (k + 1) y0 y1 y2 y3 y4 y5 y6 y7 y8 y9 y10 y11 y12 y13 y14 y15 y16 y17 y18 y19)) ∧ (∀ y0 y1 y2 y3 y4 y5 y6 y7 y8 y9 y10 y11 y12 y13, LeO (impl_paired.j2 k y0 y1 y2 y3 y4 y5 y6 y7 y8 y9 y10 y11 y12 y13) (impl_paired.j2 (k + 1) y0 y1 y2 y3 y4 y5 y6 y7 y8 y9 y10 y11 y12 y13)) ∧ (∀ y0 y1 y2 y3 y4 y5 y6 y7 y8 y9 y10 y11 y12 y13 y14 y15 y16, LeO (impl_paired.l1 k y0 y1 y2 y3 y4 y5 y6 y7 y8 y9 y10 y11 y12 y13 y14 y15 y16) (impl_paired.l1 (k + 1) y0 y1 y2 y3 y4 y5 y6 y7 y8 y9 y10 y11 y12 y13 y14 y15 y16))
 | 0 => ⟨fun _ _ _ _ _ _ _ _ _ _ _ r h => by simp [impl_paired.l0] at h, fun _ _ _ _ _ _ _ _ _ _ _ _ _ _ _ _ _ _ _ _ r h => by simp [impl_paired.j1] at h, fun _ _ _ _ _ _ _ _ _ _ _ _ _ _ r h => by simp [impl_paired.j2] at h, fun _ _ _ _ _ _ _ _ _ _ _ _ _ _ _ _ _ r h => by simp [impl_paired.l1] at h⟩
 | k + 1 => by
  obtain ⟨ih0, ih1, ih2, ih3⟩ := impl_paired.mono_l k
  refine ⟨?_, ?_, ?_, ?_⟩
  ·intro y0 y1 y2 y3 y4 y5 y6 y7 y8 y9 y10
   unfold impl_paired.l0
   repeat' first
   | (with_reducible exact ih0 _ _ _ _ _ _ _ _ _ _ _)
   | (with_reducible exact ih1 _ _ _ _ _ _ _ _ _ _ _ _ _ _ _ _ _ _ _ _)
   | (with_reducible exact ih2 _ _ _ _ _ _ _ _ _ _ _ _ _ _)
   | (with_reducible exact ih3 _ _ _ _ _ _ _ _ _ _ _ _ _ _ _ _ _)
   | (with_reducible exact impl_isLine.mono _ _ _ _ _ _ _)
   | (with_reducible exact LeO.refl _)
   | (with_reducible exact LeO.none _)
   | (with_reducible refine LeO.ite ?_ ?_)
   | (with_reducible refine LeO.bind ?_ (fun _ => ?_))
   | exact ih0 _ _ _ _ _ _ _ _ _ _ _
   | exact ih1 _ _ _ _ _ _ _ _ _ _ _ _ _ _ _ _ _ _ _ _
   | exact ih2 _ _ _ _ _ _ _ _ _ _ _ _ _ _
   | exact ih3 _ _ _ _ _ _ _ _ _ _ _ _ _ _ _ _ _
   | exact impl_isLine.mono _ _ _ _ _ _ _
   | exact LeO.none _
   | refine LeO.ite ?_ ?_
   | refine LeO.bind ?_ (fun _ => ?_)
  ·intro y0 y1 y2 y3 y4 y5 y6 y7 y8 y9 y10 y11 y12 y13 y14 y15 y16 y17 y18 y19
   unfold impl_paired.j1
   repeat' first
   | (with_reducible exact ih0 _ _ _ _ _ _ _ _ _ _ _)
   | (with_reducible exact ih1 _ _ _ _ _ _ _ _ _ _ _ _ _ _ _ _ _ _ _ _)
   | (with_reducible exact ih2 _ _ _ _ _ _ _ _ _ _ _ _ _ _)
   | (with_reducible exact ih3 _ _ _ _ _ _ _ _ _ _ _ _ _ _ _ _ _)
   | (with_reducible exact impl_isLine.mono _ _ _ _ _ _ _)
   | (with_reducible exact LeO.refl _)
   | (with_reducible exact LeO.none _)
   | (with_reducible refine LeO.ite ?_ ?_)
   | (with_reducible refine LeO.bind ?_ (fun _ => ?_))
   | exact ih0 _ _ _ _ _ _ _ _ _ _ _
   | exact ih1 _ _ _ _ _ _ _ _ _ _ _ _ _ _ _ _ _ _ _ _
   | exact ih2 _ _ _ _ _ _ _ _ _ _ _ _ _ _
   | exact ih3 _ _ _ _ _ _ _ _ _ _ _ _ _ _ _ _ _
   | exact impl_isLine.mono _ _ _ _ _ _ _
   | exact LeO.none _
   | refine LeO.ite ?_ ?_
   | refine LeO.bind ?_ (fun _ => ?_)
  ·intro y0 y1 y2 y3 y4 y5 y6 y7 y8 y9 y10 y11 y12 y13
   unfold impl_paired.j2
   repeat' first
   | (with_reducible exact ih0 _ _ _ _ _ _ _ _ _ _ _)
   | (with_reducible exact ih1 _ _ _ _ _ _ _ _ _ _ _ _ _ _ _ _ _ _ _ _)
   | (with_reducible exact ih2 _ _ _ _ _ _ _ _ _ _ _ _ _ _)
   | (with_reducible exact ih3 _ _ _ _ _ _ _ _ _ _ _ _ _ _ _ _ _)
   | (with_reducible exact impl_isLine.mono _ _ _ _ _ _ _)
   | (with_reducible exact LeO.refl _)
   | (with_reducible exact LeO.none _)
   | (with_reducible refine LeO.ite ?_ ?_)
   | (with_reducible refine LeO.bind ?_ (fun _ => ?_))
   | exact ih0 _ _ _ _ _ _ _ _ _ _ _
   | exact ih1 _ _ _ _ _ _ _ _ _ _ _ _ _ _ _ _ _ _ _ _
   | exact ih2 _ _ _ _ _ _ _ _ _ _ _ _ _ _
   | exact ih3 _ _ _ _ _ _ _ _ _ _ _ _ _ _ _ _ _
   | exact impl_isLine.mono _ _ _ _ _ _ _
   | exact LeO.none _
   | refine LeO.ite ?_ ?_
   | refine LeO.bind ?_ (fun _ => ?_)
  intro y0 y1 y2 y3 y4 y5 y6 y7 y8 y9 y10 y11 y12 y13 y14 y15 y16
  unfold impl_paired.l1
  repeat' first
  | (with_reducible exact ih0 _ _ _ _ _ _ _ _ _ _ _)
  | (with_reducible exact ih1 _ _ _ _ _ _ _ _ _ _ _ _ _ _ _ _ _ _ _ _)
  | (with_reducible exact ih2 _ _ _ _ _ _ _ _ _ _ _ _ _ _)
  | (with_reducible exact ih3 _ _ _ _ _ _ _ _ _ _ _ _ _ _ _ _ _)
  | (with_reducible exact impl_isLine.mono _ _ _ _ _ _ _)
  | (with_reducible exact LeO.refl _)
  | (with_reducible exact LeO.none _)
  | (with_reducible refine LeO.ite ?_ ?_)
  | (with_reducible refine LeO.bind ?_ (fun _ => ?_))
  | exact ih0 _ _ _ _ _ _ _ _ _ _ _
  | exact ih1 _ _ _ _ _ _ _ _ _ _ _ _ _ _ _ _ _ _ _ _
  | exact ih2 _ _ _ _ _ _ _ _ _ _ _ _ _ _
  | exact ih3 _ _ _ _ _ _ _ _ _ _ _ _ _ _ _ _ _
  | exact impl_isLine.mono _ _ _ _ _ _ _
  | exact LeO.none _
  | refine LeO.ite ?_ ?_
  | refine LeO.bind ?_ (fun _ => ?_)
theorem impl_paired.mono : ∀ a0 a1 k, LeO (impl_paired.f k a0 a1) (impl_paired.f (k + 1) a0 a1) := by
 intro a0 a1 k
 obtain ⟨ih0, ih1, ih2, ih3⟩ := impl_paired.mono_l k
 unfold impl_paired.f
 repeat' first
   | (with_reducible exact ih0 _ _ _ _ _ _ _ _ _ _ _)
   | (with_reducible exact ih1 _ _ _ _ _ _ _ _ _ _ _ _ _ _ _ _ _ _ _ _)
   | (with_reducible exact ih2 _ _ _ _ _ _ _ _ _ _ _ _ _ _)
   | (with_reducible exact ih3 _ _ _ _ _ _ _ _ _ _ _ _ _ _ _ _ _)
   | (with_reducible exact impl_isLine.mono _ _ _ _ _ _ _)
   | (with_reducible exact LeO.refl _)
   | (with_reducible exact LeO.none _)
   | (with_reducible refine LeO.ite ?_ ?_)
   | (with_reducible refine LeO.bind ?_ (fun _ => ?_))
   | exact ih0 _ _ _ _ _ _ _ _ _ _ _
   | exact ih1 _ _ _ _ _ _ _ _ _ _ _ _ _ _ _ _ _ _ _ _
   | exact ih2 _ _ _ _ _ _ _ _ _ _ _ _ _ _
   | exact ih3 _ _ _ _ _ _ _ _ _ _ _ _ _ _ _ _ _
   | exact impl_isLine.mono _ _ _ _ _ _ _
   | exact LeO.none _
   | refine LeO.ite ?_ ?_
   | refine LeO.bind ?_ (fun _ => ?_)
def impl_paired.T19 : Bool × List (List Nat × List Nat) := (true, [([], []), ([], []), ([], []), ([2], [2]), ([3], [3]), ([1, 4], [1, 4]), ([5], [5]), ([], []), ([7], [7]), ([6, 8], [6, 8]), ([9], [9]), ([0, 10], [0, 10]), ([11, 11, 0, 1, 2, 3, 4, 5, 6, 7, 8, 9, 10, 11], [0, 1, 2, 11])])
def impl_paired.B19 : List Nat := [0, 0, 0, 4, 12, 30, 62, 0, 128, 510, 1022, 2047, 4095]
theorem own_len_ (A : Option Addr) (n m c : Nat) : (Value.slice A n c).ownBlock = (Value.slice A m c).ownBlock := by cases A <;> rfl
theorem impl_paired.tab19 : rtab .any (opsOf Try.f56 19) = impl_paired.T19 := by kernel_rfl
theorem impl_paired.bits19 : waitsOk impl_paired.T19.2 impl_paired.B19 = true := by kernel_rfl
def impl_paired.T39 : Bool × List (List Nat × List Nat) := (true, [([], []), ([], []), ([0, 1], [0, 1]), ([], []), ([], []), ([3, 4], [3, 4]), ([], []), ([], []), ([7], [7]), ([8], [8]), ([6, 9], [6, 9]), ([2, 0, 1, 2], [0, 2]), ([5, 11, 0, 1, 2, 3, 4, 5, 11], [3, 5]), ([10, 12, 0, 1, 2, 3, 4, 5, 6, 7, 8, 9, 10, 11, 12], [6, 7, 10])])
def impl_paired.B39 : List Nat := [0, 0, 3, 0, 0, 24, 0, 0, 128, 384, 960, 7, 2111, 8191]
theorem impl_paired.tab39 : rtab .any (opsOf Try.f56 39) = impl_paired.T39 := by kernel_rfl
theorem impl_paired.bits39 : waitsOk impl_paired.T39.2 impl_paired.B39 = true := by kernel_rfl
set_option maxHeartbeats 8000000 in
set_option maxRecDepth 100000 in
theorem impl_paired.calls (k : Nat) (a0 : Int) (A1 : Option Addr) (c1 : Nat) (l1 : List (S63)) (r1 : List Int) (r2 : Bool) (w : World) (hr1 : Kd.C k63 w A1 l1.length l1) (hc1 : l1.length ≤ c1) (h : impl_paired.f k a0 l1 = some (r1, r2)) :
  Calls Try.prog 56 #[.int .i64 a0, .slice A1 l1.length c1] w fun e w' => ∃ v0_ : Value, e = .returned (.tuple #[v0_, .bool r2]) ∧ Kd.R (Kd.int .i64) 2 w' w.heap.size (fun _ => True) v0_ r1 ∧ Below w.heap.size w w' := by
 have hu63 := Try.underlying63
 have HR1 := Aside0.mk hr1
 have HC1 := Aside0.mk hc1
 clear hr1 hc1
 have HB := Aside0.mk (Below.refl w.heap.size w)
 have H : (if 0 ≤ (l1.length : Int) then (if ((l1.length : Int) : Int).toNat ≤ 35184372088832 then (impl_paired.l0 k a0 l1 (List.replicate ((l1.length : Int) : Int).toNat 0) ([] : List Int) ([] : List Int) ([] : List (List Int)) (([1] : List Int)) l1 (l1.length : Int) 0 ([] : List Int)) else (none)) else (none)) = some (r1, r2) := h
 clear h
 replace H := zy_g H
 obtain ⟨c3, H⟩ := H
 have c3b0 := eq_true c3
 have c3b1 : decide (0 ≤ (l1.length : Int)) = true := decide_eq_true c3
 clear c3
 replace H := zy_g H
 obtain ⟨c4, H⟩ := H
 have c4b0 := eq_true c4
 have c4b1 : decide (((l1.length : Int) : Int).toNat ≤ 35184372088832) = true := decide_eq_true c4
 clear c4
 obtain ⟨y220, hy220⟩ : ∃ y_ : List Int, y_ = (List.replicate ((l1.length : Int) : Int).toNat 0) := ⟨_, rfl⟩
 replace H : (impl_paired.l0 k a0 l1 y220 ([] : List Int) ([] : List Int) ([] : List (List Int)) (([1] : List Int)) l1 (l1.length : Int) 0 ([] : List Int)) = some (r1, r2) := by first | (rw [hy220]; with_reducible exact H) | (have H2_ := (Option.bind_some _ _).symm.trans H; rw [hy220]; with_reducible exact H2_) | (have H2_ := (Option.bind_some _ _).symm.trans H; with_reducible exact H2_) | with_reducible exact H | (rw [hy220]; exact H) | exact H
 have Ny220 := Aside0.mk hy220
 clear hy220
 obtain ⟨y223, hy223⟩ : ∃ y_ : List Int, y_ = (([1] : List Int)) := ⟨_, rfl⟩
 replace H : (impl_paired.l0 k a0 l1 y220 ([] : List Int) ([] : List Int) ([] : List (List Int)) y223 l1 (l1.length : Int) 0 ([] : List Int)) = some (r1, r2) := by first | (rw [hy223]; with_reducible exact H) | (have H2_ := (Option.bind_some _ _).symm.trans H; rw [hy223]; with_reducible exact H2_) | (have H2_ := (Option.bind_some _ _).symm.trans H; with_reducible exact H2_) | with_reducible exact H | (rw [hy223]; exact H) | exact H
 have Ny223 := Aside0.mk hy223
 clear hy223
 have H' := Aside0.mk H
 clear H
 go_enter Try.func56, Try.ntmps56
 go_wp2_with (first | ((with_reducible refine gate_dst (N := 21) rfl ?_); (try (refine gate_guard (by rfl) ?_; dsimp only)); refine Kd.R_make (Kd.int .i64) _ 2 rfl (N := 21) rfl 29 _ _ rfl (l1.length : Int) rfl rfl Try.underlying29 (.int .i64 0) 8 info2 rfl (by decide) (by omega) 0 (ok := fun _ => True) (okp := fun _ => True) rfl (fun _ hk => hk) trivial xyd (Nat.le_trans (Nat.mul_le_mul_right _ (xyd : (l1.length : Int).toNat ≤ 35184372088832)) (by omega)) (Below.refl _ _) (Nat.le_refl _) ?_; intro v221 w5 ho6 hb hg_ hnew_; clear hg_ hnew_; (first | rw [← Ny220.out] at ho6 | (simp only [Int.reduceToNat] at ho6; rw [← Ny220.out] at ho6)); have HO222 := Aside0.mk (Kd.R_lower ho6 (below_size (xyo HB.out))); replace HB := Aside0.mk (below_step (xyo HB.out) hb); clear hb ho6) | ((with_reducible refine gate_dst (N := 22) rfl ?_); (try (refine gate_guard (by rfl) ?_; dsimp only)); refine Kd.R_lit (Kd.int .i64) _ 2 ?hg (N := 22) ?hd (xs := ([1] : List Int)) (inner := [.int .i64 1]) (ok := fun _ => True) (okp := fun _ => True) ?hr ?hp (fun _ hk => hk) trivial (Below.refl _ _) (Nat.le_refl _) (by simp) ?_; (case hd => rfl); (case hg => rfl); (case hr => first | (go_simp; done) | (go_simp; rfl)); (case hp => exact (Reps.one (show Kd.M (Kd.int .i64) _ _ _ 1 [.int .i64 1] from rfl) (Reps.none _ _))); intro v224 w7 ho8 hb hg_ hnew_; clear hg_ hnew_; (first | rw [← Ny223.out] at ho8 | (simp only [Int.reduceToNat] at ho8; rw [← Ny223.out] at ho8)); have HO225 := Aside0.mk (Kd.R_lower (Kd.R_new' ho8 (Kd.R_lt (xyr HO222.out))) (below_size (xyo HB.out))); replace HO222 := Aside0.mk (Kd.R_elder' (xyr HO222.out) (Kd.R_base ho8) hb); replace HB := Aside0.mk (below_step (xyo HB.out) hb); clear hb ho8) | ((with_reducible refine gate_dst (N := 23) rfl ?_); (try (refine gate_guard (by rfl) ?_; dsimp only)); refine makeMap_event ?hg (N := 23) ?hd (t := 103) ?ho ?_; (case hd => rfl); (case hg => rfl); (case ho => rfl); intro gb226 hg w9 hbox hb; replace HO222 := Aside0.mk (Kd.R_below (Kd.R_elderB (xyr HO222.out) gb226 (Nat.le_of_eq hg.symm)) hb); replace HO225 := Aside0.mk (Kd.R_below (Kd.R_elderB (xyr HO225.out) gb226 (Nat.le_of_eq hg.symm)) hb); have BK226 := Aside0.mk (hbox); have GW226 := Aside0.mk ((by rw [hg]; exact (below_size (xyo HB.out)) : w.heap.size ≤ gb226)); have GE226 := Aside0.mk ((by rw [hg]; exact (below_size (xyo HB.out)) : w.heap.size ≤ gb226)); replace HB := Aside0.mk (below_step (xyo HB.out) hb); clear hb hbox hg))
 go_loopg [7, 8, 9, 10, 26] k (fun kq v7 v8 v9 v10 v26 w' => ∃ (x6_1 : List Int) (x7_1 : List Int) (x8_1 : List Int) (x9_1 : List (List Int)) (x10_1 : List Int) (x26_1 : Int) (x227000_1 : (List Int)), v26 = .int .i64 x26_1 ∧ Aside0 (impl_paired.l0 kq a0 l1 x6_1 x7_1 x8_1 x9_1 x10_1 l1 (l1.length : Int) x26_1 x227000_1 = some (r1, r2)) ∧ Aside0 (kq ≤ k) ∧ Aside0 (Kd.R (Kd.int .i64) 2 w' w.heap.size (fun k_ => some k_ ≠ (v10 : Value).ownBlock ∧ k_ ≠ gb226) v221 x6_1) ∧ Aside0 (Kd.R (Kd.int .i64) 3 w' w.heap.size (fun k_ => some k_ ≠ (v8 : Value).ownBlock ∧ k_ ≠ gb226) v7 x7_1) ∧ Aside0 (Kd.R (Kd.int .i64) 3 w' w.heap.size (fun k_ => some k_ ≠ (v7 : Value).ownBlock ∧ k_ ≠ gb226) v8 x8_1) ∧ Aside0 (Kd.S (Kd.slice 3 (Kd.int .i64)) 101 w' w.heap.size (fun k_ => some k_ ≠ (v7 : Value).ownBlock ∧ some k_ ≠ (v8 : Value).ownBlock ∧ k_ ≠ gb226) v9 x9_1) ∧ Aside0 (Kd.R (Kd.int .i64) 2 w' w.heap.size (fun k_ => some k_ ≠ (v221 : Value).ownBlock ∧ k_ ≠ gb226) v10 x10_1) ∧ Aside0 (w'.heap[gb226]? = some (mobj x227000_1)) ∧ Aside0 (Below w.heap.size w w'))
 case atStart => exact ⟨(y220), (([] : List Int)), (([] : List Int)), (([] : List (List Int))), (y223), (0), (([] : List Int)), wy5, H', ⟨Nat.le_refl _⟩, ⟨(by (with_reducible repeat (first | apply Kd.R_alloc | apply Kd.R_drewN | apply Kd.R_drew)); exact Kd.R_mono HO222.out (fun _ hk => ⟨hk.1.2, hk.2⟩))⟩, ⟨wy7⟩, ⟨wy7⟩, ⟨(by first | exact Kd.S_nil _ _ _ _ _ | exact Kd.N_nil _ _ _ _ _ | exact Kd.V_nil _ _ _ _ _ | exact Kd.Q_nil _ _ _ _ _ | exact Kd.R_nil _ _ _ _ _)⟩, ⟨(by (with_reducible repeat (first | apply Kd.R_alloc | apply Kd.R_drewN | apply Kd.R_drew)); exact Kd.R_mono HO225.out (fun _ hk => ⟨hk.1.2, hk.2⟩))⟩, ⟨(xyb BK226.out)⟩, ⟨wy20⟩⟩
 case round =>
  clear H'
  try clear c1
  try clear p2
  try clear c3
  try clear c3b0
  try clear c3b1
  try clear c4
  try clear c4b0
  try clear c4b1
  try clear c5
  obtain ⟨x6_1, x7_1, x8_1, x9_1, x10_1, x26_1, x227000_1, rfl, HA, HK1, HO_6, HO_7, HO_8, HO_9, HO_10, BK226, HB⟩ := hrel
  cases gk with
  | zero => exact absurd HA.out (by simp [impl_paired.l0])
  | succ k1 =>
   have H := HA.out
   clear HA
   simp only [impl_paired.l0] at H
   by_cases c10 : x26_1 < (l1.length : Int)
   ·rw [if_pos c10] at H
    have c10b0 : decide (x26_1 < (l1.length : Int)) = true := decide_eq_true c10
    clear c10
    replace H := zy_g H
    obtain ⟨c11, H⟩ := H
    have c11b0 : decide (0 ≤ x26_1) = true := decide_eq_true c11
    clear c11
    replace H := zy_g H
    obtain ⟨c12, H⟩ := H
    have c12b0 : decide (x26_1 < (l1.length : Int)) = true := decide_eq_true c12
    clear c12
    replace H := zy_g H
    obtain ⟨c13, H⟩ := H
    have c13b0 : decide (x26_1 < (x6_1.length : Int)) = true := decide_eq_true c13
    clear c13
    obtain ⟨y229, hy229⟩ : ∃ y_ : List Int, y_ = (x6_1.set (x26_1 : Int).toNat x26_1) := ⟨_, rfl⟩
    replace H : ((impl_isLine.f k1 a0 ((rd_T63 l1 x26_1).f0) ((rd_T63 l1 x26_1).f1) ((rd_T63 l1 x26_1).f2) ((rd_T63 l1 x26_1).f3) ((rd_T63 l1 x26_1).f4)).bind fun t230 => (if t230 = true then (if ((rd_T63 l1 x26_1).f0) = 2 then (impl_paired.j1 k1 a0 l1 y229 x7_1 x8_1 x9_1 x10_1 x26_1 (wrap64 ((x7_1.length : Int) - 1)) l1 (l1.length : Int) x26_1 ((rd_T63 l1 x26_1).f0) (((rd_T63 l1 x26_1).f0) == 2) x227000_1 ((rd_T63 l1 x26_1).f0) ((rd_T63 l1 x26_1).f1) ((rd_T63 l1 x26_1).f2) ((rd_T63 l1 x26_1).f3) ((rd_T63 l1 x26_1).f4)) else (impl_paired.j1 k1 a0 l1 y229 x7_1 x8_1 x9_1 x10_1 x26_1 (wrap64 ((x7_1.length : Int) - 1)) l1 (l1.length : Int) x26_1 ((rd_T63 l1 x26_1).f0) (((rd_T63 l1 x26_1).f0) == 5) x227000_1 ((rd_T63 l1 x26_1).f0) ((rd_T63 l1 x26_1).f1) ((rd_T63 l1 x26_1).f2) ((rd_T63 l1 x26_1).f3) ((rd_T63 l1 x26_1).f4))) else (some (([] : List Int), false)))) = some (r1, r2) := by first | (rw [hy229]; with_reducible exact H) | (have H2_ := (Option.bind_some _ _).symm.trans H; rw [hy229]; with_reducible exact H2_) | (have H2_ := (Option.bind_some _ _).symm.trans H; with_reducible exact H2_) | with_reducible exact H | (rw [hy229]; exact H) | exact H
    have Ny229 := Aside0.mk hy229
    clear hy229
    replace H := Option.bind_eq_some_iff.mp H
    obtain ⟨t230, A150, H⟩ := H
    replace H : (if t230 = true then (if ((rd_T63 l1 x26_1).f0) = 2 then (impl_paired.j1 k1 a0 l1 y229 x7_1 x8_1 x9_1 x10_1 x26_1 (wrap64 ((x7_1.length : Int) - 1)) l1 (l1.length : Int) x26_1 ((rd_T63 l1 x26_1).f0) (((rd_T63 l1 x26_1).f0) == 2) x227000_1 ((rd_T63 l1 x26_1).f0) ((rd_T63 l1 x26_1).f1) ((rd_T63 l1 x26_1).f2) ((rd_T63 l1 x26_1).f3) ((rd_T63 l1 x26_1).f4)) else (impl_paired.j1 k1 a0 l1 y229 x7_1 x8_1 x9_1 x10_1 x26_1 (wrap64 ((x7_1.length : Int) - 1)) l1 (l1.length : Int) x26_1 ((rd_T63 l1 x26_1).f0) (((rd_T63 l1 x26_1).f0) == 5) x227000_1 ((rd_T63 l1 x26_1).f0) ((rd_T63 l1 x26_1).f1) ((rd_T63 l1 x26_1).f2) ((rd_T63 l1 x26_1).f3) ((rd_T63 l1 x26_1).f4))) else (some (([] : List Int), false))) = some (r1, r2) := H
    have A15 := Aside0.mk A150
    clear A150
    by_cases c16 : t230 = true
    ·subst c16
     have H1 : (if ((rd_T63 l1 x26_1).f0) = 2 then (impl_paired.j1 k1 a0 l1 y229 x7_1 x8_1 x9_1 x10_1 x26_1 (wrap64 ((x7_1.length : Int) - 1)) l1 (l1.length : Int) x26_1 ((rd_T63 l1 x26_1).f0) (((rd_T63 l1 x26_1).f0) == 2) x227000_1 ((rd_T63 l1 x26_1).f0) ((rd_T63 l1 x26_1).f1) ((rd_T63 l1 x26_1).f2) ((rd_T63 l1 x26_1).f3) ((rd_T63 l1 x26_1).f4)) else (impl_paired.j1 k1 a0 l1 y229 x7_1 x8_1 x9_1 x10_1 x26_1 (wrap64 ((x7_1.length : Int) - 1)) l1 (l1.length : Int) x26_1 ((rd_T63 l1 x26_1).f0) (((rd_T63 l1 x26_1).f0) == 5) x227000_1 ((rd_T63 l1 x26_1).f0) ((rd_T63 l1 x26_1).f1) ((rd_T63 l1 x26_1).f2) ((rd_T63 l1 x26_1).f3) ((rd_T63 l1 x26_1).f4))) = some (r1, r2) := by rw [if_pos rfl] at H; exact H
     clear H
     have H := H1
     clear H1
     have HC17 := Aside0.mk H
     clear H
     have p227 : 0 ≤ (x26_1 : Int) := xyd
     have q227 : x26_1 < (l1.length : Int) := xyd
     obtain ⟨ad227, e227, hx227_0, hx227_1, hx227_2, hx227_3, hx227_4⟩ := at_T63 HR1.out x26_1 p227 q227
     cases e227
     replace hx227_0 := xyh HB.out hx227_0
     replace hx227_1 := xyh HB.out hx227_1
     replace hx227_2 := xyh HB.out hx227_2
     replace hx227_3 := xyh HB.out hx227_3
     replace hx227_4 := xyh HB.out hx227_4
     replace p227 := eq_true p227
     replace q227 := eq_true q227
     go_upto_if 44 with (first | ((with_reducible refine gate_dst (N := 13) rfl ?_); (try (refine gate_guard (by rfl) ?_; dsimp only)); refine box_event ?hg (N := 13) ?hd (cs := #[.int .i64 0, .int .i64 0, .int .i64 0, .int .i64 0, .int .i64 0]) (t := 63) ?hr ?_; (case hd => rfl); (case hg => rfl); (case hr => first | (go_simp; done) | (go_simp; rfl)); intro gb228 hg w18 hbox hb; replace HO_6 := Aside0.mk (Kd.R_below (xyr HO_6.out) hb); replace HO_7 := Aside0.mk (Kd.R_below (xyr HO_7.out) hb); replace HO_8 := Aside0.mk (Kd.R_below (xyr HO_8.out) hb); replace HO_9 := Aside0.mk (Kd.S_below wy4 hb); replace HO_10 := Aside0.mk (Kd.R_below (xyr HO_10.out) hb); have BK228 := Aside0.mk (hbox); have GW228 := Aside0.mk ((by rw [hg]; exact (below_size wy20) : w.heap.size ≤ gb228)); have GE228 := Aside0.mk ((by rw [hg]; exact (below_size wy20) : w.heap.size ≤ gb228)); replace HB := Aside0.mk (below_step wy20 hb); have NB226_228 := Aside0.mk ((by rw [hg]; exact Nat.ne_of_lt (blk_lt (g := gb226) (o := mobj x227000_1) (xyb BK226.out)) : gb226 ≠ gb228)); have NB228_226 := Aside0.mk ((by rw [hg]; exact Nat.ne_of_gt (blk_lt (g := gb226) (o := mobj x227000_1) (xyb BK226.out)) : gb228 ≠ gb226)); replace BK226 := Aside0.mk (blk_below (g := gb226) (o := mobj x227000_1) (xyb BK226.out) hb); clear hb hbox hg; have hnb19 := NB228_226.out; have hnc19 := NB226_228.out; have hcz20_0 : w18.cell? ⟨gb228, 0, none⟩ = some (.int .i64 0) := xyc BK228.out; have hcz20_1 : w18.cell? ⟨gb228, 1, none⟩ = some (.int .i64 0) := xyc BK228.out; have hcz20_2 : w18.cell? ⟨gb228, 2, none⟩ = some (.int .i64 0) := xyc BK228.out; have hcz20_3 : w18.cell? ⟨gb228, 3, none⟩ = some (.int .i64 0) := xyc BK228.out; have hcz20_4 : w18.cell? ⟨gb228, 4, none⟩ = some (.int .i64 0) := xyc BK228.out; have hfz20_0 := blk_frozen BK228.out 0; have hfz20_1 := blk_frozen BK228.out 1; have hfz20_2 := blk_frozen BK228.out 2; have hfz20_3 := blk_frozen BK228.out 3; have hfz20_4 := blk_frozen BK228.out 4) | ((with_reducible refine gate_store (t := 63) (p := 13) rfl ?_); refine xys ((((((w18.setCell ⟨gb228, 0, none⟩ (.int .i64 ((rd_T63 l1 x26_1).f0))).setCell ⟨gb228, 1, none⟩ (.int .i64 ((rd_T63 l1 x26_1).f1))).setCell ⟨gb228, 2, none⟩ (.int .i64 ((rd_T63 l1 x26_1).f2))).setCell ⟨gb228, 3, none⟩ (.int .i64 ((rd_T63 l1 x26_1).f3))).setCell ⟨gb228, 4, none⟩ (.int .i64 ((rd_T63 l1 x26_1).f4)))) ?_; intro w21 hw; have n0_ : Aside0 (Kd.R (Kd.int .i64) 2 w21 w.heap.size (fun k_ => some k_ ≠ (u10 : Value).ownBlock ∧ k_ ≠ gb226) v221 x6_1) := ⟨wy31⟩; have n1_ : Aside0 (Kd.R (Kd.int .i64) 3 w21 w.heap.size (fun k_ => some k_ ≠ (u8 : Value).ownBlock ∧ k_ ≠ gb226) u7 x7_1) := ⟨wy30⟩; have n2_ : Aside0 (Kd.R (Kd.int .i64) 3 w21 w.heap.size (fun k_ => some k_ ≠ (u7 : Value).ownBlock ∧ k_ ≠ gb226) u8 x8_1) := ⟨wy29⟩; have n3_ : Aside0 (Kd.S (Kd.slice 3 (Kd.int .i64)) 101 w21 w.heap.size (fun k_ => some k_ ≠ (u7 : Value).ownBlock ∧ some k_ ≠ (u8 : Value).ownBlock ∧ k_ ≠ gb226) u9 x9_1) := ⟨wy27⟩; have n4_ : Aside0 (Kd.R (Kd.int .i64) 2 w21 w.heap.size (fun k_ => some k_ ≠ (v221 : Value).ownBlock ∧ k_ ≠ gb226) u10 x10_1) := ⟨wy28⟩; have n5_ : Aside0 (w21.heap[gb226]? = some (mobj x227000_1)) := ⟨wy24⟩; have n6_ : Aside0 (w21.heap[gb228]? = some (.cells #[.int .i64 ((rd_T63 l1 x26_1).f0), .int .i64 ((rd_T63 l1 x26_1).f1), .int .i64 ((rd_T63 l1 x26_1).f2), .int .i64 ((rd_T63 l1 x26_1).f3), .int .i64 ((rd_T63 l1 x26_1).f4)] 63 (0, 0))) := ⟨wy16⟩; have n7_ : Aside0 (Below w.heap.size w w21) := ⟨(by rw [hw]; exact wy1)⟩; clear hw HO_6 HO_7 HO_8 HO_9 HO_10 BK226 BK228 HB; have HO_6 := n0_; have HO_7 := n1_; have HO_8 := n2_; have HO_9 := n3_; have HO_10 := n4_; have BK226 := n5_; have BK228 := n6_; have HB := n7_; clear n0_ n1_ n2_ n3_ n4_ n5_ n6_ n7_; have p14 : 0 ≤ (x26_1 : Int) := xyd; have q14 : (x26_1 : Int) < ((x6_1.length : Int) : Int) := xyd; obtain ⟨go14, co14, eo14, gb14, gl14, cl14, HG14⟩ := Kd.R_form HO_6.out (by omega); (first | cases eo14 | (injection eo14 with ea_ en_ ec_; (first | subst ea_ | (injection ea_ with ea_; subst ea_)); subst ec_; clear en_)); have GB14 := Aside0.mk gb14; have GG14 := Aside0.mk HG14; clear gb14 gl14 HG14; obtain ⟨hx14_0, hf14_0⟩ := Kd.R_celln 0 HO_6.out (x26_1 : Int) p14 q14; replace p14 := eq_true p14; replace q14 := eq_true q14; obtain ⟨hy22_, hz22_⟩ := Kd.R_celln 0 HO_6.out (x26_1 : Int) xyd xyd; have HP22 := Kd.R_putg HO_6.out (x26_1 : Int) x26_1) | ((with_reducible refine gate_store (t := 2) (p := 34) rfl ?_); refine xys ((w21.setCell ⟨go14, (x26_1 : Int).toNat, none⟩ (.int .i64 x26_1))) ?_; intro w23 hw; have hg : w21.grownBy w23 (some go14) := (by rw [hw]; exact HP22.2); have hp_ : Kd.R (Kd.int .i64) 2 w23 w.heap.size (fun k_ => some k_ ≠ (u10 : Value).ownBlock ∧ k_ ≠ gb226) (.slice (some ⟨go14, 0, none⟩) x6_1.length co14) y229 := (by rw [hw, Ny229.out]; exact HP22.1); clear HP22; replace HO_7 := Aside0.mk (Kd.R_over' (xyr HO_7.out) (Kd.R_typed HO_6.out) (by decide) hg); replace HO_8 := Aside0.mk (Kd.R_over' (xyr HO_8.out) (Kd.R_typed HO_6.out) (by decide) hg); replace HO_9 := Aside0.mk (Kd.S_over' wy4 (Kd.R_typed HO_6.out) (by decide) hg); replace HO_10 := Aside0.mk (Kd.R_after (v := (.slice (some ⟨go14, 0, none⟩) x6_1.length co14)) (v1 := (.slice (some ⟨go14, 0, none⟩) x6_1.length co14)) (ok := (fun k_ => k_ ≠ gb226)) wy10 hg (.inl rfl)); replace BK226 := Aside0.mk (blk_grown (g := gb226) (o := mobj x227000_1) (xyb BK226.out) hg (Kd.R_away HO_6.out (fun _ hk => hk.2))); replace BK228 := Aside0.mk (blk_grown (g := gb228) (o := .cells #[.int .i64 ((rd_T63 l1 x26_1).f0), .int .i64 ((rd_T63 l1 x26_1).f1), .int .i64 ((rd_T63 l1 x26_1).f2), .int .i64 ((rd_T63 l1 x26_1).f3), .int .i64 ((rd_T63 l1 x26_1).f4)] 63 (0, 0)) (xyb BK228.out) hg (Kd.R_ne HO_6.out BK228.out (by decide))); replace HO_6 := Aside0.mk (hp_); replace HB := Aside0.mk ((by rw [hw]; exact below_set (HB.out) GB14.out : Below w.heap.size w w23)); clear hg hw hp_; have hcz24_0 : w23.cell? ⟨gb228, 0, none⟩ = some (.int .i64 ((rd_T63 l1 x26_1).f0)) := xyc BK228.out; have hcz24_1 : w23.cell? ⟨gb228, 1, none⟩ = some (.int .i64 ((rd_T63 l1 x26_1).f1)) := xyc BK228.out; have hcz24_2 : w23.cell? ⟨gb228, 2, none⟩ = some (.int .i64 ((rd_T63 l1 x26_1).f2)) := xyc BK228.out; have hcz24_3 : w23.cell? ⟨gb228, 3, none⟩ = some (.int .i64 ((rd_T63 l1 x26_1).f3)) := xyc BK228.out; have hcz24_4 : w23.cell? ⟨gb228, 4, none⟩ = some (.int .i64 ((rd_T63 l1 x26_1).f4)) := xyc BK228.out; have hfz24_0 := blk_frozen BK228.out 0; have hfz24_1 := blk_frozen BK228.out 1; have hfz24_2 := blk_frozen BK228.out 2; have hfz24_3 := blk_frozen BK228.out 3; have hfz24_4 := blk_frozen BK228.out 4) | ((with_reducible refine gate_callee (f := 92) rfl ?_); refine goesL_ (some 37) rfl rfl Try.func92 (by kernel_rfl) rfl #[.int .i64 a0, .agg #[.int .i64 ((rd_T63 l1 x26_1).f0), .int .i64 ((rd_T63 l1 x26_1).f1), .int .i64 ((rd_T63 l1 x26_1).f2), .int .i64 ((rd_T63 l1 x26_1).f3), .int .i64 ((rd_T63 l1 x26_1).f4)]] rfl wy2 ?_; (with_reducible refine (impl_isLine.calls k1 a0 ((rd_T63 l1 x26_1).f0) ((rd_T63 l1 x26_1).f1) ((rd_T63 l1 x26_1).f2) ((rd_T63 l1 x26_1).f3) ((rd_T63 l1 x26_1).f4) true _ A15.out).mono ?_); rintro e w25 ⟨rfl, hb⟩; refine ⟨_, rfl, ?_⟩; replace HO_6 := Aside0.mk (Kd.R_below (xyr HO_6.out) hb); replace HO_7 := Aside0.mk (Kd.R_below (xyr HO_7.out) hb); replace HO_8 := Aside0.mk (Kd.R_below (xyr HO_8.out) hb); replace HO_9 := Aside0.mk (Kd.S_below wy4 hb); replace HO_10 := Aside0.mk (Kd.R_below (xyr HO_10.out) hb); replace BK226 := Aside0.mk (blk_below (g := gb226) (o := mobj x227000_1) (xyb BK226.out) hb); replace BK228 := Aside0.mk (xyl BK228.out hb); replace HB := Aside0.mk (below_step wy1 hb); (try clear hb); (try clear hb2); (try clear hk); (try clear hi); obtain ⟨Ao26, co26, eo26⟩ := Kd.R_slice HO_7.out; subst eo26; have hcz27_0 : w25.cell? ⟨gb228, 0, none⟩ = some (.int .i64 ((rd_T63 l1 x26_1).f0)) := xyc BK228.out; have hcz27_1 : w25.cell? ⟨gb228, 1, none⟩ = some (.int .i64 ((rd_T63 l1 x26_1).f1)) := xyc BK228.out; have hcz27_2 : w25.cell? ⟨gb228, 2, none⟩ = some (.int .i64 ((rd_T63 l1 x26_1).f2)) := xyc BK228.out; have hcz27_3 : w25.cell? ⟨gb228, 3, none⟩ = some (.int .i64 ((rd_T63 l1 x26_1).f3)) := xyc BK228.out; have hcz27_4 : w25.cell? ⟨gb228, 4, none⟩ = some (.int .i64 ((rd_T63 l1 x26_1).f4)) := xyc BK228.out; have hfz27_0 := blk_frozen BK228.out 0; have hfz27_1 := blk_frozen BK228.out 1; have hfz27_2 := blk_frozen BK228.out 2; have hfz27_3 := blk_frozen BK228.out 3; have hfz27_4 := blk_frozen BK228.out 4))
     (try simp only [Act.put, List.setIfInBounds_toArray, List.set_cons_zero, List.set_cons_succ])
     go_cut [44] (fun v44 wc => ∃ (kq : Nat) (x44_16 : Bool), v44 = .bool x44_16 ∧ Aside0 (impl_paired.j1 kq a0 l1 y229 x7_1 x8_1 x9_1 x10_1 x26_1 (wrap64 ((x7_1.length : Int) - 1)) l1 (l1.length : Int) x26_1 ((rd_T63 l1 x26_1).f0) x44_16 x227000_1 ((rd_T63 l1 x26_1).f0) ((rd_T63 l1 x26_1).f1) ((rd_T63 l1 x26_1).f2) ((rd_T63 l1 x26_1).f3) ((rd_T63 l1 x26_1).f4) = some (r1, r2)) ∧ Aside0 (kq ≤ k1) ∧ Aside0 (Kd.R (Kd.int .i64) 2 wc w.heap.size (fun k_ => some k_ ≠ (u10 : Value).ownBlock ∧ k_ ≠ gb226) (.slice (some ⟨go14, 0, none⟩) x6_1.length co14) y229) ∧ Aside0 (Kd.R (Kd.int .i64) 3 wc w.heap.size (fun k_ => some k_ ≠ (u8 : Value).ownBlock ∧ k_ ≠ gb226) (.slice Ao26 x7_1.length co26) x7_1) ∧ Aside0 (Kd.R (Kd.int .i64) 3 wc w.heap.size (fun k_ => some k_ ≠ ((.slice Ao26 x7_1.length co26) : Value).ownBlock ∧ k_ ≠ gb226) u8 x8_1) ∧ Aside0 (Kd.S (Kd.slice 3 (Kd.int .i64)) 101 wc w.heap.size (fun k_ => some k_ ≠ ((.slice Ao26 x7_1.length co26) : Value).ownBlock ∧ some k_ ≠ (u8 : Value).ownBlock ∧ k_ ≠ gb226) u9 x9_1) ∧ Aside0 (Kd.R (Kd.int .i64) 2 wc w.heap.size (fun k_ => some k_ ≠ ((.slice (some ⟨go14, 0, none⟩) x6_1.length co14) : Value).ownBlock ∧ k_ ≠ gb226) u10 x10_1) ∧ Aside0 (wc.heap[gb226]? = some (mobj x227000_1)) ∧ Aside0 (wc.heap[gb228]? = some (.cells #[.int .i64 ((rd_T63 l1 x26_1).f0), .int .i64 ((rd_T63 l1 x26_1).f1), .int .i64 ((rd_T63 l1 x26_1).f2), .int .i64 ((rd_T63 l1 x26_1).f3), .int .i64 ((rd_T63 l1 x26_1).f4)] 63 (0, 0))) ∧ Aside0 (Below w.heap.size w wc))
     case first =>
      have H := HC17.out
      clear HC17
      by_cases c28 : ((rd_T63 l1 x26_1).f0) = 2
      ·rw [if_pos c28] at H
       have c28b0 : (((rd_T63 l1 x26_1).f0) == 2) = true := beq_iff_eq.mpr c28
       have c28b1 : (((rd_T63 l1 x26_1).f0) != 2) = false := bne_eq_false_iff_eq.mpr c28
       clear c28
       (first | rw [c28b0] | (simp only [i64_w, i32_w]; rw [c28b0]) | skip)
       have H' := Aside0.mk H
       clear H
       go_wp2
       go_meet
       case rel => exact ⟨_, ((((rd_T63 l1 x26_1).f0) == 2)), wy5, H', ⟨(by have := HK1.out; first | omega | exact Nat.le_refl _)⟩, ⟨(xyr HO_6.out)⟩, ⟨(xyr HO_7.out)⟩, ⟨(xyr HO_8.out)⟩, ⟨wy4⟩, ⟨wy10⟩, ⟨(xyb BK226.out)⟩, ⟨(xyb BK228.out)⟩, ⟨wy1⟩⟩
      rw [if_neg c28] at H
      have c28b0 : (((rd_T63 l1 x26_1).f0) == 2) = false := beq_eq_false_iff_ne.mpr c28
      have c28b1 : (((rd_T63 l1 x26_1).f0) != 2) = true := bne_iff_ne.mpr c28
      (first | rw [c28b0] | (simp only [i64_w, i32_w]; rw [c28b0]) | skip)
      have H' := Aside0.mk H
      clear H
      go_wp2
      go_meet
      case rel => exact ⟨_, ((((rd_T63 l1 x26_1).f0) == 5)), wy5, H', ⟨(by have := HK1.out; first | omega | exact Nat.le_refl _)⟩, ⟨(xyr HO_6.out)⟩, ⟨(xyr HO_7.out)⟩, ⟨(xyr HO_8.out)⟩, ⟨wy4⟩, ⟨wy10⟩, ⟨(xyb BK226.out)⟩, ⟨(xyb BK228.out)⟩, ⟨wy1⟩⟩
     case rest =>
      clear HC17
      try clear c1
      try clear p1
      try clear q1
      try clear hx1
      try clear c2
      try clear p2
      try clear q2
      try clear hx2
      try clear c3
      try clear c3b0
      try clear c3b1
      try clear c4
      try clear c4b0
      try clear c4b1
      try clear c5
      try clear p6
      try clear c9
      try clear c10
      try clear c10b0
      try clear c11
      try clear c11b0
      try clear c12
      try clear c12b0
      try clear c13
      try clear c13b0
      try clear p14
      try clear q14
      try clear hx14
      try clear hf14
      try clear c16
      try clear c19
      try clear p22
      try clear q22
      try clear hx22
      try clear c28
      try clear c28b0
      try clear c28b1
      try clear hcz20_0
      try clear hcz20_1
      try clear hcz20_2
      try clear hcz20_3
      try clear hcz20_4
      try clear hcz24_0
      try clear hcz24_1
      try clear hcz24_2
      try clear hcz24_3
      try clear hcz24_4
      try clear hcz27_0
      try clear hcz27_1
      try clear hcz27_2
      try clear hcz27_3
      try clear hcz27_4
      try clear hfz20_0
      try clear hfz20_1
      try clear hfz20_2
      try clear hfz20_3
      try clear hfz20_4
      try clear hfz24_0
      try clear hfz24_1
      try clear hfz24_2
      try clear hfz24_3
      try clear hfz24_4
      try clear hfz27_0
      try clear hfz27_1
      try clear hfz27_2
      try clear hfz27_3
      try clear hfz27_4
      try clear hx14_0
      try clear hx227_0
      try clear hx227_1
      try clear hx227_2
      try clear hx227_3
      try clear hx227_4
      try clear p14
      try clear p2
      try clear p227
      try clear q14
      try clear q227
      obtain ⟨kq, x44_16, rfl, HA, HJ16, HO_6, HO_7, HO_8, HO_9, HO_10, BK226, BK228, HB⟩ := hcut
      have hl6_16 := (Kd.R_reads' HO_6.out).1
      rw [hl6_16] at HO_6
      (try simp only [hl6_16])
      (try simp only [hl6_16] at BK226)
      (try simp only [hl6_16] at BK228)
      (try simp only [hl6_16] at HO_7)
      (try simp only [hl6_16] at HO_8)
      (try simp only [hl6_16] at HO_9)
      (try simp only [hl6_16] at HO_10)
      cases kq with
      | zero => exact absurd HA.out (by simp [impl_paired.j1])
      | succ kj16 =>
       have H := HA.out
       clear HA
       simp only [impl_paired.j1] at H
       by_cases c29 : x44_16 = true
       ·as_aux_lemma =>
        subst c29
        have H1 : (if x7_1.length < 17592186044416 then ((some (x7_1 ++ [x26_1] : List Int)).bind fun y231 => (if ((rd_T63 l1 x26_1).f0) = 5 then (if x8_1.length < 17592186044416 then (if x9_1.length < 5864062014805 then (if 0 ≤ (wrap64 ((x10_1.length : Int) - 1)) then (if (wrap64 ((x10_1.length : Int) - 1)) < (x10_1.length : Int) then (if x10_1.length < 17592186044416 then ((some (x10_1 ++ [wrap64 ((rd x10_1 (wrap64 ((x10_1.length : Int) - 1))) * ((rd_T63 l1 x26_1).f4))] : List Int)).bind fun y241 => (if (y231.length : Int) > 4 then (some (([] : List Int), false)) else (if 0 ≤ (wrap64 ((y241.length : Int) - 1)) then (if (wrap64 ((y241.length : Int) - 1)) < (y241.length : Int) then (if (rd y241 (wrap64 ((y241.length : Int) - 1))) > 64 then (some (([] : List Int), false)) else (impl_paired.l0 kj16 a0 l1 y229 y231 (x8_1 ++ [x26_1]) (x9_1 ++ [[]]) y241 l1 (l1.length : Int) (wrap64 (x26_1 + 1)) x227000_1)) else (none)) else (none)))) else (none)) else (none)) else (none)) else (none)) else (none)) else (if (y231.length : Int) > 4 then (some (([] : List Int), false)) else (if 0 ≤ (wrap64 ((x10_1.length : Int) - 1)) then (if (wrap64 ((x10_1.length : Int) - 1)) < (x10_1.length : Int) then (if (rd x10_1 (wrap64 ((x10_1.length : Int) - 1))) > 64 then (some (([] : List Int), false)) else (impl_paired.l0 kj16 a0 l1 y229 y231 x8_1 x9_1 x10_1 l1 (l1.length : Int) (wrap64 (x26_1 + 1)) x227000_1)) else (none)) else (none))))) else (none)) = some (r1, r2) := by rw [if_pos rfl] at H; exact H
        clear H
        have H := H1
        clear H1
        replace H := zy_g H
        obtain ⟨c30, H⟩ := H
        have LMc30 := Aside0.mk c30
        clear c30
        obtain ⟨y231, hy231⟩ : ∃ y_ : List Int, y_ = (x7_1 ++ [x26_1]) := ⟨_, rfl⟩
        replace H : (if ((rd_T63 l1 x26_1).f0) = 5 then (if x8_1.length < 17592186044416 then (if x9_1.length < 5864062014805 then (if 0 ≤ (wrap64 ((x10_1.length : Int) - 1)) then (if (wrap64 ((x10_1.length : Int) - 1)) < (x10_1.length : Int) then (if x10_1.length < 17592186044416 then ((some (x10_1 ++ [wrap64 ((rd x10_1 (wrap64 ((x10_1.length : Int) - 1))) * ((rd_T63 l1 x26_1).f4))] : List Int)).bind fun y241 => (if (y231.length : Int) > 4 then (some (([] : List Int), false)) else (if 0 ≤ (wrap64 ((y241.length : Int) - 1)) then (if (wrap64 ((y241.length : Int) - 1)) < (y241.length : Int) then (if (rd y241 (wrap64 ((y241.length : Int) - 1))) > 64 then (some (([] : List Int), false)) else (impl_paired.l0 kj16 a0 l1 y229 y231 (x8_1 ++ [x26_1]) (x9_1 ++ [[]]) y241 l1 (l1.length : Int) (wrap64 (x26_1 + 1)) x227000_1)) else (none)) else (none)))) else (none)) else (none)) else (none)) else (none)) else (none)) else (if (y231.length : Int) > 4 then (some (([] : List Int), false)) else (if 0 ≤ (wrap64 ((x10_1.length : Int) - 1)) then (if (wrap64 ((x10_1.length : Int) - 1)) < (x10_1.length : Int) then (if (rd x10_1 (wrap64 ((x10_1.length : Int) - 1))) > 64 then (some (([] : List Int), false)) else (impl_paired.l0 kj16 a0 l1 y229 y231 x8_1 x9_1 x10_1 l1 (l1.length : Int) (wrap64 (x26_1 + 1)) x227000_1)) else (none)) else (none)))) = some (r1, r2) := by first | (rw [hy231]; with_reducible exact H) | (have H2_ := (Option.bind_some _ _).symm.trans H; rw [hy231]; with_reducible exact H2_) | (have H2_ := (Option.bind_some _ _).symm.trans H; with_reducible exact H2_) | with_reducible exact H | (rw [hy231]; exact H) | exact H
        have Ny231 := Aside0.mk hy231
        clear hy231
        by_cases c31 : ((rd_T63 l1 x26_1).f0) = 5
        ·rw [if_pos c31] at H
         have c31b0 : (((rd_T63 l1 x26_1).f0) == 5) = true := beq_iff_eq.mpr c31
         have c31b1 : (((rd_T63 l1 x26_1).f0) != 5) = false := bne_eq_false_iff_eq.mpr c31
         clear c31
         replace H := zy_g H
         obtain ⟨c32, H⟩ := H
         have LMc32 := Aside0.mk c32
         clear c32
         obtain ⟨y234, hy234⟩ : ∃ y_ : List Int, y_ = (x8_1 ++ [x26_1]) := ⟨_, rfl⟩
         replace H : (if x9_1.length < 5864062014805 then (if 0 ≤ (wrap64 ((x10_1.length : Int) - 1)) then (if (wrap64 ((x10_1.length : Int) - 1)) < (x10_1.length : Int) then (if x10_1.length < 17592186044416 then ((some (x10_1 ++ [wrap64 ((rd x10_1 (wrap64 ((x10_1.length : Int) - 1))) * ((rd_T63 l1 x26_1).f4))] : List Int)).bind fun y241 => (if (y231.length : Int) > 4 then (some (([] : List Int), false)) else (if 0 ≤ (wrap64 ((y241.length : Int) - 1)) then (if (wrap64 ((y241.length : Int) - 1)) < (y241.length : Int) then (if (rd y241 (wrap64 ((y241.length : Int) - 1))) > 64 then (some (([] : List Int), false)) else (impl_paired.l0 kj16 a0 l1 y229 y231 y234 (x9_1 ++ [[]]) y241 l1 (l1.length : Int) (wrap64 (x26_1 + 1)) x227000_1)) else (none)) else (none)))) else (none)) else (none)) else (none)) else (none)) = some (r1, r2) := by first | (rw [hy234]; with_reducible exact H) | (have H2_ := (Option.bind_some _ _).symm.trans H; rw [hy234]; with_reducible exact H2_) | (have H2_ := (Option.bind_some _ _).symm.trans H; with_reducible exact H2_) | with_reducible exact H | (rw [hy234]; exact H) | exact H
         have Ny234 := Aside0.mk hy234
         clear hy234
         replace H := zy_g H
         obtain ⟨c33, H⟩ := H
         have LMc33 := Aside0.mk c33
         clear c33
         obtain ⟨y237, hy237⟩ : ∃ y_ : List (List Int), y_ = (x9_1 ++ [[]]) := ⟨_, rfl⟩
         replace H : (if 0 ≤ (wrap64 ((x10_1.length : Int) - 1)) then (if (wrap64 ((x10_1.length : Int) - 1)) < (x10_1.length : Int) then (if x10_1.length < 17592186044416 then ((some (x10_1 ++ [wrap64 ((rd x10_1 (wrap64 ((x10_1.length : Int) - 1))) * ((rd_T63 l1 x26_1).f4))] : List Int)).bind fun y241 => (if (y231.length : Int) > 4 then (some (([] : List Int), false)) else (if 0 ≤ (wrap64 ((y241.length : Int) - 1)) then (if (wrap64 ((y241.length : Int) - 1)) < (y241.length : Int) then (if (rd y241 (wrap64 ((y241.length : Int) - 1))) > 64 then (some (([] : List Int), false)) else (impl_paired.l0 kj16 a0 l1 y229 y231 y234 y237 y241 l1 (l1.length : Int) (wrap64 (x26_1 + 1)) x227000_1)) else (none)) else (none)))) else (none)) else (none)) else (none)) = some (r1, r2) := by first | (rw [hy237]; with_reducible exact H) | (have H2_ := (Option.bind_some _ _).symm.trans H; rw [hy237]; with_reducible exact H2_) | (have H2_ := (Option.bind_some _ _).symm.trans H; with_reducible exact H2_) | with_reducible exact H | (rw [hy237]; exact H) | exact H
         have Ny237 := Aside0.mk hy237
         clear hy237
         obtain ⟨ji34, hji34⟩ : ∃ j_ : Int, (wrap64 ((x10_1.length : Int) - 1)) = j_ := ⟨_, rfl⟩
         replace H : (if 0 ≤ (ji34) then (if (ji34) < (x10_1.length : Int) then (if x10_1.length < 17592186044416 then ((some (x10_1 ++ [wrap64 ((rd x10_1 (ji34)) * ((rd_T63 l1 x26_1).f4))] : List Int)).bind fun y241 => (if (y231.length : Int) > 4 then (some (([] : List Int), false)) else (if 0 ≤ (wrap64 ((y241.length : Int) - 1)) then (if (wrap64 ((y241.length : Int) - 1)) < (y241.length : Int) then (if (rd y241 (wrap64 ((y241.length : Int) - 1))) > 64 then (some (([] : List Int), false)) else (impl_paired.l0 kj16 a0 l1 y229 y231 y234 y237 y241 l1 (l1.length : Int) (wrap64 (x26_1 + 1)) x227000_1)) else (none)) else (none)))) else (none)) else (none)) else (none)) = some (r1, r2) := by first | (rw [hji34] at H; exact H) | (simp only [hji34] at H ⊢; exact H)
         have hji34w : (IntKind.i64.wrap ((x10_1.length : Int) - 1)) = ji34 := (i64_w _).trans hji34
         replace H := zy_g H
         obtain ⟨c35, H⟩ := H
         have c35b0 : decide (0 ≤ (ji34)) = true := decide_eq_true c35
         clear c35
         replace H := zy_g H
         obtain ⟨c36, H⟩ := H
         have c36b0 : decide ((ji34) < (x10_1.length : Int)) = true := decide_eq_true c36
         clear c36
         replace H := zy_g H
         obtain ⟨c37, H⟩ := H
         have LMc37 := Aside0.mk c37
         clear c37
         obtain ⟨y241, hy241⟩ : ∃ y_ : List Int, y_ = (x10_1 ++ [wrap64 ((rd x10_1 (ji34)) * ((rd_T63 l1 x26_1).f4))]) := ⟨_, rfl⟩
         replace H : (if (y231.length : Int) > 4 then (some (([] : List Int), false)) else (if 0 ≤ (wrap64 ((y241.length : Int) - 1)) then (if (wrap64 ((y241.length : Int) - 1)) < (y241.length : Int) then (if (rd y241 (wrap64 ((y241.length : Int) - 1))) > 64 then (some (([] : List Int), false)) else (impl_paired.l0 kj16 a0 l1 y229 y231 y234 y237 y241 l1 (l1.length : Int) (wrap64 (x26_1 + 1)) x227000_1)) else (none)) else (none))) = some (r1, r2) := by first | (rw [hy241]; with_reducible exact H) | (have H2_ := (Option.bind_some _ _).symm.trans H; rw [hy241]; with_reducible exact H2_) | (have H2_ := (Option.bind_some _ _).symm.trans H; with_reducible exact H2_) | with_reducible exact H | (rw [hy241]; exact H) | exact H
         have Ny241 := Aside0.mk hy241
         clear hy241
         by_cases c38 : (y231.length : Int) > 4
         ·rw [if_pos c38] at H
          have c38b0 : decide (4 < (y231.length : Int)) = true := decide_eq_true c38
          have c38b1 : decide (4 < y231.length) = true := decide_eq_true (by omega)
          clear c38
          simp only [Option.some.injEq, Prod.mk.injEq] at H
          obtain ⟨rfl, rfl⟩ := H
          try go_wp2_with (first | ((with_reducible refine gate_builtin (b := .append) (xs := #[.tmp 47, .tmp 49]) rfl ?_); (try (refine gate_guard (by rfl) ?_; dsimp only)); at_builtin; refine Kd.R_append (Kd.int .i64) (w0 := w) w.heap.size rfl (.tmp 47) (.tmp 49) 101 3 (.int .i64 0) 8 rfl Try.underlying101 info3 rfl (by decide) (by omega) (.slice Ao26 x7_1.length co26) x7_1 x26_1 [.int .i64 x26_1] (fun k_ => some k_ ≠ (u8 : Value).ownBlock ∧ k_ ≠ gb226) (fun _ => False) rfl rfl ?aP (fun _ hk => hk.elim) ?aF ?aO ?aB ?aS ?aL ?_; (case aP => exact rfl); (case aB => exact wy1); (case aF => exact (fun k_ hk => ⟨Kd.fresh' (Kd.R_lt (xyr HO_8.out)) k_ hk, Kd.freshB (g := gb226) (o := mobj x227000_1) (xyb BK226.out) k_ hk⟩)); (case aO => exact (xyr HO_7.out)); (case aS => exact (below_size wy1)); (case aL => have := LMc30.out; omega); intro v232 w39 ho hb hg hat; rw [← Ny231.out] at ho; replace HO_6 := Aside0.mk (Kd.R_over' (xyr HO_6.out) (Kd.R_typed (xyr HO_7.out)) (by decide) hg); replace HO_8 := Aside0.mk (Kd.R_after (ok := (fun k_ => k_ ≠ gb226)) wy12 hg hat); replace HO_9 := Aside0.mk (Kd.S_after (ok := (fun k_ => some k_ ≠ (u8 : Value).ownBlock ∧ k_ ≠ gb226)) wy25 hg hat); replace HO_10 := Aside0.mk (Kd.R_over' (xyr HO_10.out) (Kd.R_typed (xyr HO_7.out)) (by decide) hg); replace BK226 := Aside0.mk (blk_grown (g := gb226) (o := mobj x227000_1) (xyb BK226.out) hg (Kd.R_away HO_7.out (fun _ hk => hk.2))); replace BK228 := Aside0.mk (blk_grown (g := gb228) (o := .cells #[.int .i64 ((rd_T63 l1 x26_1).f0), .int .i64 ((rd_T63 l1 x26_1).f1), .int .i64 ((rd_T63 l1 x26_1).f2), .int .i64 ((rd_T63 l1 x26_1).f3), .int .i64 ((rd_T63 l1 x26_1).f4)] 63 (0, 0)) (xyb BK228.out) hg (Kd.R_ne HO_7.out BK228.out (by decide))); replace HB := Aside0.mk (hb); have HO233 := Aside0.mk (ho); clear HO_7; clear ho hb hg hat; have hnb40 := NB228_226.out; have hnc40 := NB226_228.out; have hcz41_0 : w39.cell? ⟨gb228, 0, none⟩ = some (.int .i64 ((rd_T63 l1 x26_1).f0)) := xyc BK228.out; have hcz41_1 : w39.cell? ⟨gb228, 1, none⟩ = some (.int .i64 ((rd_T63 l1 x26_1).f1)) := xyc BK228.out; have hcz41_2 : w39.cell? ⟨gb228, 2, none⟩ = some (.int .i64 ((rd_T63 l1 x26_1).f2)) := xyc BK228.out; have hcz41_3 : w39.cell? ⟨gb228, 3, none⟩ = some (.int .i64 ((rd_T63 l1 x26_1).f3)) := xyc BK228.out; have hcz41_4 : w39.cell? ⟨gb228, 4, none⟩ = some (.int .i64 ((rd_T63 l1 x26_1).f4)) := xyc BK228.out; have hfz41_0 := blk_frozen BK228.out 0; have hfz41_1 := blk_frozen BK228.out 1; have hfz41_2 := blk_frozen BK228.out 2; have hfz41_3 := blk_frozen BK228.out 3; have hfz41_4 := blk_frozen BK228.out 4) | ((with_reducible refine gate_builtin (b := .append) (xs := #[.tmp 54, .tmp 56]) rfl ?_); (try (refine gate_guard (by rfl) ?_; dsimp only)); at_builtin; refine Kd.R_append (Kd.int .i64) (w0 := w) w.heap.size rfl (.tmp 54) (.tmp 56) 101 3 (.int .i64 0) 8 rfl Try.underlying101 info3 rfl (by decide) (by omega) u8 x8_1 x26_1 [.int .i64 x26_1] (fun k_ => some k_ ≠ (v232 : Value).ownBlock ∧ k_ ≠ gb226) (fun _ => False) rfl rfl ?aP (fun _ hk => hk.elim) ?aF ?aO ?aB ?aS ?aL ?_; (case aP => exact rfl); (case aB => exact wy1); (case aF => exact (fun k_ hk => ⟨Kd.fresh' (Kd.R_lt (xyr HO233.out)) k_ hk, Kd.freshB (g := gb226) (o := mobj x227000_1) (xyb BK226.out) k_ hk⟩)); (case aO => exact wy12); (case aS => exact (below_size wy1)); (case aL => have := LMc32.out; omega); intro v235 w42 ho hb hg hat; rw [← Ny234.out] at ho; replace HO_6 := Aside0.mk (Kd.R_over' (xyr HO_6.out) (Kd.R_typed (xyr HO_8.out)) (by decide) hg); replace HO_9 := Aside0.mk (Kd.S_after (ok := (fun k_ => some k_ ≠ (v232 : Value).ownBlock ∧ k_ ≠ gb226)) wy45 hg hat); replace HO_10 := Aside0.mk (Kd.R_over' (xyr HO_10.out) (Kd.R_typed (xyr HO_8.out)) (by decide) hg); replace BK226 := Aside0.mk (blk_grown (g := gb226) (o := mobj x227000_1) (xyb BK226.out) hg (Kd.R_away HO_8.out (fun _ hk => hk.1))); replace BK228 := Aside0.mk (blk_grown (g := gb228) (o := .cells #[.int .i64 ((rd_T63 l1 x26_1).f0), .int .i64 ((rd_T63 l1 x26_1).f1), .int .i64 ((rd_T63 l1 x26_1).f2), .int .i64 ((rd_T63 l1 x26_1).f3), .int .i64 ((rd_T63 l1 x26_1).f4)] 63 (0, 0)) (xyb BK228.out) hg (Kd.R_ne HO_8.out BK228.out (by decide))); replace HO233 := Aside0.mk (Kd.R_after (ok := (fun k_ => k_ ≠ gb226)) wy46 hg hat); replace HB := Aside0.mk (hb); have HO236 := Aside0.mk (ho); clear HO_8; clear ho hb hg hat) | ((with_reducible refine gate_builtin (b := .append) (xs := #[.tmp 58, .tmp 59]) rfl ?_); (try (refine gate_guard (by rfl) ?_; dsimp only)); at_builtin; refine Kd.S_append (Kd.slice 3 (Kd.int .i64)) (w0 := w) w.heap.size rfl (.tmp 58) (.tmp 59) 102 101 (.slice none 0 0) 24 rfl Try.underlying102 info101 rfl (by decide) (by omega) u9 x9_1 [] [.slice none 0 0] (fun k_ => some k_ ≠ (v232 : Value).ownBlock ∧ some k_ ≠ (v235 : Value).ownBlock ∧ k_ ≠ gb226) (fun _ => False) rfl rfl ?aP (fun _ hk => hk.elim) ?aF ?aO ?aB ?aS ?aL ?_; (case aP => exact ⟨_, rfl, Kd.R_nil _ _ _ _ _⟩); (case aB => exact wy1); (case aF => exact (fun k_ hk => ⟨Kd.fresh' (Kd.R_lt (xyr HO233.out)) k_ hk, Kd.fresh' (Kd.R_lt (xyr HO236.out)) k_ hk, Kd.freshB (g := gb226) (o := mobj x227000_1) (xyb BK226.out) k_ hk⟩)); (case aO => exact wy39); (case aS => exact (below_size wy1)); (case aL => have := LMc33.out; omega); intro v238 w43 ho hb hg hat; rw [← Ny237.out] at ho; replace HO_6 := Aside0.mk (Kd.R_over' (xyr HO_6.out) (Kd.S_typed wy4) (by decide) hg); replace HO_10 := Aside0.mk (Kd.R_over' (xyr HO_10.out) (Kd.S_typed wy4) (by decide) hg); replace BK226 := Aside0.mk (blk_grown (g := gb226) (o := mobj x227000_1) (xyb BK226.out) hg (Kd.S_away HO_9.out (fun _ hk => hk.1.2))); replace BK228 := Aside0.mk (blk_grown (g := gb228) (o := .cells #[.int .i64 ((rd_T63 l1 x26_1).f0), .int .i64 ((rd_T63 l1 x26_1).f1), .int .i64 ((rd_T63 l1 x26_1).f2), .int .i64 ((rd_T63 l1 x26_1).f3), .int .i64 ((rd_T63 l1 x26_1).f4)] 63 (0, 0)) (xyb BK228.out) hg (Kd.S_ne HO_9.out BK228.out (by decide))); replace HO233 := Aside0.mk (Kd.R_over' (xyr HO233.out) (Kd.S_typed wy4) (by decide) hg); replace HO236 := Aside0.mk (Kd.R_over' (xyr HO236.out) (Kd.S_typed wy4) (by decide) hg); replace HB := Aside0.mk (hb); have HO239 := Aside0.mk (ho); clear HO_9; clear ho hb hg hat))
          replace HO_6 := Aside0.mk (Kd.R_drew HO_6.out)
          replace HO_10 := Aside0.mk (Kd.R_drew HO_10.out)
          replace HO233 := Aside0.mk (Kd.R_drew HO233.out)
          replace HO236 := Aside0.mk (Kd.R_drew HO236.out)
          replace HO239 := Aside0.mk (Kd.S_drew HO239.out)
          replace BK226 := Aside0.mk (blk_drew BK226.out)
          replace BK228 := Aside0.mk (blk_drew BK228.out)
          replace HB := Aside0.mk (below_drew1 HB.out)
          obtain ⟨Ao45, co45, eo45⟩ := Kd.R_slice HO_10.out
          (first | subst eo45 | (injection eo45 with f1_ f2_ f3_; have f4_ := f1_.symm; have f5_ := f3_.symm; clear f1_ f2_ f3_; subst f4_; subst f5_))
          have p240 : 0 ≤ ((ji34) : Int) := xyd
          have q240 : (ji34) < (x10_1.length : Int) := xyd
          obtain ⟨ad240, e240, hx240_0⟩ := Kd.at_int (Kd.R_reads' HO_10.out).2.2 (ji34) p240 q240
          cases e240
          replace p240 := eq_true p240
          replace q240 := eq_true q240
          refine start_ (n := 13) (S := fun w' => w'.cell? ⟨gb228, 0, none⟩ = some (.int .i64 ((rd_T63 l1 x26_1).f0)) ∧ w'.cell? ⟨gb228, 1, none⟩ = some (.int .i64 ((rd_T63 l1 x26_1).f1)) ∧ w'.cell? ⟨gb228, 2, none⟩ = some (.int .i64 ((rd_T63 l1 x26_1).f2)) ∧ w'.cell? ⟨gb228, 3, none⟩ = some (.int .i64 ((rd_T63 l1 x26_1).f3)) ∧ w'.cell? ⟨gb228, 4, none⟩ = some (.int .i64 ((rd_T63 l1 x26_1).f4)) ∧ w'.cell? (ad240.add ((ji34)).toNat) = some (.int .i64 (rd x10_1 (ji34)))) (ds := [10, 11]) (zy_.bm 13 0) (by kernel_rfl) rfl rfl ⟨xyc BK228.out, xyc BK228.out, xyc BK228.out, xyc BK228.out, xyc BK228.out, hx240_0⟩ (fun hHeld => ?_); refine with_tabW impl_paired.tab19 impl_paired.bits19 (fun HT_ HW_ => ?_)
          generalize w43.drew = w44 at HO_6 HO_10 HO233 HO236 HO239 BK226 BK228 HB hx240_0 hHeld ⊢
          refine zy_.pa (i := 0) (N := some 61) (zy_.bm 13 1) HT_.out ?_
          refine zy_.pa (i := 1) (N := some 62) (zy_.bm 13 3) HT_.out ?_
          refine zy_.pa (i := 2) (N := some 63) (zy_.bm 13 7) HT_.out ?_
          refine zy_.pa (i := 3) (N := some 64) (zy_.bm 13 15) HT_.out ?_
          refine zy_.pa (i := 4) (N := some 65) (zy_.bm 13 31) HT_.out ?_
          refine zy_.pa (i := 5) (N := some 66) (zy_.bm 13 63) HT_.out ?_
          refine zy_.pa (i := 7) (N := some 68) (zy_.bm 13 191) HT_.out ?_
          refine zy_.ta (i := 6) (N := some 67) (zy_.bm 13 255) rfl (take_ofW HT_.out HW_.out (by kernel_rfl)) (Or.inl ⟨(by rfl), wy40⟩) hHeld ?_
          refine zy_.ta (i := 8) (N := some 69) (zy_.bm 13 511) rfl (take_ofW HT_.out HW_.out (by kernel_rfl)) (Or.inl ⟨(by rfl), wy40⟩) hHeld ?_
          refine zy_.pa (i := 9) (N := some 70) (zy_.bm 13 1023) HT_.out ?_
          refine last_ (i := 10) (N := some 71) (zy_.bm 13 2047) rfl rfl (one_of HT_.out (by kernel_rfl)) (by decide) (fun K hK => ?_)
          refine value_ (w1 := ?_) (v := ?_) (by rfl) rfl ?_ ?_
          rotate_left 2
          ·go_simp
           constructor
           ·rfl
           rfl
          refine hK.out _ _ ?_
          clear hK K
          refine norm_ (a' := ?_) ?_ ?_
          rotate_left
          ·show Act.put _ (some 71) _ = _
           simp only [Act.put, List.setIfInBounds_toArray, List.set_cons_zero, List.set_cons_succ, i64_w, i32_w]
           rfl
          refine last_ (i := 11) (N := some 72) (zy_.bm 13 4095) rfl rfl (one_of HT_.out (by kernel_rfl)) (by decide) (fun K hK => ?_)
          refine Kd.R_append_step (Kd.int .i64) (w0 := w) w.heap.size (by rfl) (.tmp 61) (.tmp 71) 29 2 (.int .i64 0) 8 rfl Try.underlying29 info2 rfl (by decide) (by omega) (.slice (some ad240) x10_1.length co45) x10_1 (wrap64 ((rd x10_1 (ji34)) * ((rd_T63 l1 x26_1).f4))) [.int .i64 (wrap64 ((rd x10_1 (ji34)) * ((rd_T63 l1 x26_1).f4)))] (fun k_ => some k_ ≠ (.slice (some ⟨go14, 0, none⟩) y229.length co14 : Value).ownBlock ∧ k_ ≠ gb226) (fun _ => False) rfl rfl ?aP (fun _ hk => hk.elim) ?aF ?aO ?aB ?aS ?aL ?_
          (case aP => exact rfl)
          (case aB => exact wy1)
          (case aF => exact (fun k_ hk => ⟨Kd.fresh' (Kd.R_lt (xyr HO_6.out)) k_ hk, Kd.freshB (g := gb226) (o := mobj x227000_1) (xyb BK226.out) k_ hk⟩))
          (case aO => exact (xyr HO_10.out))
          (case aS => exact (below_size wy1))
          (case aL => have := LMc37.out; omega)
          intro v242 w46 ho hb hg hat
          rw [← Ny241.out] at ho
          replace HO_6 := Aside0.mk (Kd.R_after (ok := (fun k_ => k_ ≠ gb226)) wy19 hg hat)
          replace BK226 := Aside0.mk (blk_grown (g := gb226) (o := mobj x227000_1) (xyb BK226.out) hg (Kd.R_away HO_10.out (fun _ hk => hk.2)))
          replace BK228 := Aside0.mk (blk_grown (g := gb228) (o := .cells #[.int .i64 ((rd_T63 l1 x26_1).f0), .int .i64 ((rd_T63 l1 x26_1).f1), .int .i64 ((rd_T63 l1 x26_1).f2), .int .i64 ((rd_T63 l1 x26_1).f3), .int .i64 ((rd_T63 l1 x26_1).f4)] 63 (0, 0)) (xyb BK228.out) hg (Kd.R_ne HO_10.out BK228.out (by decide)))
          replace HO233 := Aside0.mk (Kd.R_over' (xyr HO233.out) (Kd.R_typed (xyr HO_10.out)) (by decide) hg)
          replace HO236 := Aside0.mk (Kd.R_over' (xyr HO236.out) (Kd.R_typed (xyr HO_10.out)) (by decide) hg)
          replace HO239 := Aside0.mk (Kd.S_over' wy49 (Kd.R_typed (xyr HO_10.out)) (by decide) hg)
          replace HB := Aside0.mk (hb)
          have HO243 := Aside0.mk (ho)
          clear HO_10
          clear ho hb hg hat
          refine hK.out _ _ ?_
          clear hK K
          refine norm_ (a' := ?_) ?_ ?_
          rotate_left
          ·show Act.put _ (some 72) _ = _
           simp only [Act.put, List.setIfInBounds_toArray, List.set_cons_zero, List.set_cons_succ, i64_w, i32_w]
           rfl
          refine zy_.pa (i := 12) (N := some 10) (zy_.bm 13 8191) HT_.out ?_
          refine done_ (done_of HT_.out (by kernel_rfl)) ?_
          obtain ⟨Ao47, co47, eo47⟩ := Kd.R_slice HO233.out
          subst eo47
          try go_wp2
          go_ret2
          exact ⟨_, (by first | rfl | (simp [errW_none, errW_some] <;> rfl) | (simp only [← hji34]; first | rfl | (simp [errW_none, errW_some] <;> rfl)) | (simp [*, errW_none, errW_some] <;> rfl)), wy7, wy1⟩
         rw [if_neg c38] at H
         have c38b0 : decide (4 < (y231.length : Int)) = false := decide_eq_false c38
         have c38b1 : decide (4 < y231.length) = false := decide_eq_false (by omega)
         clear c38
         obtain ⟨ji48, hji48⟩ : ∃ j_ : Int, (wrap64 ((y241.length : Int) - 1)) = j_ := ⟨_, rfl⟩
         replace H : (if 0 ≤ (ji48) then (if (ji48) < (y241.length : Int) then (if (rd y241 (ji48)) > 64 then (some (([] : List Int), false)) else (impl_paired.l0 kj16 a0 l1 y229 y231 y234 y237 y241 l1 (l1.length : Int) (wrap64 (x26_1 + 1)) x227000_1)) else (none)) else (none)) = some (r1, r2) := by first | (rw [hji48] at H; exact H) | (simp only [hji48] at H ⊢; exact H)
         have hji48w : (IntKind.i64.wrap ((y241.length : Int) - 1)) = ji48 := (i64_w _).trans hji48
         replace H := zy_g H
         obtain ⟨c49, H⟩ := H
         have c49b0 : decide (0 ≤ (ji48)) = true := decide_eq_true c49
         clear c49
         replace H := zy_g H
         obtain ⟨c50, H⟩ := H
         have c50b0 : decide ((ji48) < (y241.length : Int)) = true := decide_eq_true c50
         clear c50
         by_cases c51 : (rd y241 (ji48)) > 64
         ·rw [if_pos c51] at H
          have c51b0 : decide (64 < (rd y241 (ji48))) = true := decide_eq_true c51
          clear c51
          simp only [Option.some.injEq, Prod.mk.injEq] at H
          obtain ⟨rfl, rfl⟩ := H
          try go_wp2_with (first | ((with_reducible refine gate_builtin (b := .append) (xs := #[.tmp 47, .tmp 49]) rfl ?_); (try (refine gate_guard (by rfl) ?_; dsimp only)); at_builtin; refine Kd.R_append (Kd.int .i64) (w0 := w) w.heap.size rfl (.tmp 47) (.tmp 49) 101 3 (.int .i64 0) 8 rfl Try.underlying101 info3 rfl (by decide) (by omega) (.slice Ao26 x7_1.length co26) x7_1 x26_1 [.int .i64 x26_1] (fun k_ => some k_ ≠ (u8 : Value).ownBlock ∧ k_ ≠ gb226) (fun _ => False) rfl rfl ?aP (fun _ hk => hk.elim) ?aF ?aO ?aB ?aS ?aL ?_; (case aP => exact rfl); (case aB => exact wy1); (case aF => exact (fun k_ hk => ⟨Kd.fresh' (Kd.R_lt (xyr HO_8.out)) k_ hk, Kd.freshB (g := gb226) (o := mobj x227000_1) (xyb BK226.out) k_ hk⟩)); (case aO => exact (xyr HO_7.out)); (case aS => exact (below_size wy1)); (case aL => have := LMc30.out; omega); intro v232 w52 ho hb hg hat; rw [← Ny231.out] at ho; replace HO_6 := Aside0.mk (Kd.R_over' (xyr HO_6.out) (Kd.R_typed (xyr HO_7.out)) (by decide) hg); replace HO_8 := Aside0.mk (Kd.R_after (ok := (fun k_ => k_ ≠ gb226)) wy12 hg hat); replace HO_9 := Aside0.mk (Kd.S_after (ok := (fun k_ => some k_ ≠ (u8 : Value).ownBlock ∧ k_ ≠ gb226)) wy25 hg hat); replace HO_10 := Aside0.mk (Kd.R_over' (xyr HO_10.out) (Kd.R_typed (xyr HO_7.out)) (by decide) hg); replace BK226 := Aside0.mk (blk_grown (g := gb226) (o := mobj x227000_1) (xyb BK226.out) hg (Kd.R_away HO_7.out (fun _ hk => hk.2))); replace BK228 := Aside0.mk (blk_grown (g := gb228) (o := .cells #[.int .i64 ((rd_T63 l1 x26_1).f0), .int .i64 ((rd_T63 l1 x26_1).f1), .int .i64 ((rd_T63 l1 x26_1).f2), .int .i64 ((rd_T63 l1 x26_1).f3), .int .i64 ((rd_T63 l1 x26_1).f4)] 63 (0, 0)) (xyb BK228.out) hg (Kd.R_ne HO_7.out BK228.out (by decide))); replace HB := Aside0.mk (hb); have HO233 := Aside0.mk (ho); clear HO_7; clear ho hb hg hat; have hnb53 := NB228_226.out; have hnc53 := NB226_228.out; have hcz54_0 : w52.cell? ⟨gb228, 0, none⟩ = some (.int .i64 ((rd_T63 l1 x26_1).f0)) := xyc BK228.out; have hcz54_1 : w52.cell? ⟨gb228, 1, none⟩ = some (.int .i64 ((rd_T63 l1 x26_1).f1)) := xyc BK228.out; have hcz54_2 : w52.cell? ⟨gb228, 2, none⟩ = some (.int .i64 ((rd_T63 l1 x26_1).f2)) := xyc BK228.out; have hcz54_3 : w52.cell? ⟨gb228, 3, none⟩ = some (.int .i64 ((rd_T63 l1 x26_1).f3)) := xyc BK228.out; have hcz54_4 : w52.cell? ⟨gb228, 4, none⟩ = some (.int .i64 ((rd_T63 l1 x26_1).f4)) := xyc BK228.out; have hfz54_0 := blk_frozen BK228.out 0; have hfz54_1 := blk_frozen BK228.out 1; have hfz54_2 := blk_frozen BK228.out 2; have hfz54_3 := blk_frozen BK228.out 3; have hfz54_4 := blk_frozen BK228.out 4) | ((with_reducible refine gate_builtin (b := .append) (xs := #[.tmp 54, .tmp 56]) rfl ?_); (try (refine gate_guard (by rfl) ?_; dsimp only)); at_builtin; refine Kd.R_append (Kd.int .i64) (w0 := w) w.heap.size rfl (.tmp 54) (.tmp 56) 101 3 (.int .i64 0) 8 rfl Try.underlying101 info3 rfl (by decide) (by omega) u8 x8_1 x26_1 [.int .i64 x26_1] (fun k_ => some k_ ≠ (v232 : Value).ownBlock ∧ k_ ≠ gb226) (fun _ => False) rfl rfl ?aP (fun _ hk => hk.elim) ?aF ?aO ?aB ?aS ?aL ?_; (case aP => exact rfl); (case aB => exact wy1); (case aF => exact (fun k_ hk => ⟨Kd.fresh' (Kd.R_lt (xyr HO233.out)) k_ hk, Kd.freshB (g := gb226) (o := mobj x227000_1) (xyb BK226.out) k_ hk⟩)); (case aO => exact wy12); (case aS => exact (below_size wy1)); (case aL => have := LMc32.out; omega); intro v235 w55 ho hb hg hat; rw [← Ny234.out] at ho; replace HO_6 := Aside0.mk (Kd.R_over' (xyr HO_6.out) (Kd.R_typed (xyr HO_8.out)) (by decide) hg); replace HO_9 := Aside0.mk (Kd.S_after (ok := (fun k_ => some k_ ≠ (v232 : Value).ownBlock ∧ k_ ≠ gb226)) wy45 hg hat); replace HO_10 := Aside0.mk (Kd.R_over' (xyr HO_10.out) (Kd.R_typed (xyr HO_8.out)) (by decide) hg); replace BK226 := Aside0.mk (blk_grown (g := gb226) (o := mobj x227000_1) (xyb BK226.out) hg (Kd.R_away HO_8.out (fun _ hk => hk.1))); replace BK228 := Aside0.mk (blk_grown (g := gb228) (o := .cells #[.int .i64 ((rd_T63 l1 x26_1).f0), .int .i64 ((rd_T63 l1 x26_1).f1), .int .i64 ((rd_T63 l1 x26_1).f2), .int .i64 ((rd_T63 l1 x26_1).f3), .int .i64 ((rd_T63 l1 x26_1).f4)] 63 (0, 0)) (xyb BK228.out) hg (Kd.R_ne HO_8.out BK228.out (by decide))); replace HO233 := Aside0.mk (Kd.R_after (ok := (fun k_ => k_ ≠ gb226)) wy46 hg hat); replace HB := Aside0.mk (hb); have HO236 := Aside0.mk (ho); clear HO_8; clear ho hb hg hat) | ((with_reducible refine gate_builtin (b := .append) (xs := #[.tmp 58, .tmp 59]) rfl ?_); (try (refine gate_guard (by rfl) ?_; dsimp only)); at_builtin; refine Kd.S_append (Kd.slice 3 (Kd.int .i64)) (w0 := w) w.heap.size rfl (.tmp 58) (.tmp 59) 102 101 (.slice none 0 0) 24 rfl Try.underlying102 info101 rfl (by decide) (by omega) u9 x9_1 [] [.slice none 0 0] (fun k_ => some k_ ≠ (v232 : Value).ownBlock ∧ some k_ ≠ (v235 : Value).ownBlock ∧ k_ ≠ gb226) (fun _ => False) rfl rfl ?aP (fun _ hk => hk.elim) ?aF ?aO ?aB ?aS ?aL ?_; (case aP => exact ⟨_, rfl, Kd.R_nil _ _ _ _ _⟩); (case aB => exact wy1); (case aF => exact (fun k_ hk => ⟨Kd.fresh' (Kd.R_lt (xyr HO233.out)) k_ hk, Kd.fresh' (Kd.R_lt (xyr HO236.out)) k_ hk, Kd.freshB (g := gb226) (o := mobj x227000_1) (xyb BK226.out) k_ hk⟩)); (case aO => exact wy39); (case aS => exact (below_size wy1)); (case aL => have := LMc33.out; omega); intro v238 w56 ho hb hg hat; rw [← Ny237.out] at ho; replace HO_6 := Aside0.mk (Kd.R_over' (xyr HO_6.out) (Kd.S_typed wy4) (by decide) hg); replace HO_10 := Aside0.mk (Kd.R_over' (xyr HO_10.out) (Kd.S_typed wy4) (by decide) hg); replace BK226 := Aside0.mk (blk_grown (g := gb226) (o := mobj x227000_1) (xyb BK226.out) hg (Kd.S_away HO_9.out (fun _ hk => hk.1.2))); replace BK228 := Aside0.mk (blk_grown (g := gb228) (o := .cells #[.int .i64 ((rd_T63 l1 x26_1).f0), .int .i64 ((rd_T63 l1 x26_1).f1), .int .i64 ((rd_T63 l1 x26_1).f2), .int .i64 ((rd_T63 l1 x26_1).f3), .int .i64 ((rd_T63 l1 x26_1).f4)] 63 (0, 0)) (xyb BK228.out) hg (Kd.S_ne HO_9.out BK228.out (by decide))); replace HO233 := Aside0.mk (Kd.R_over' (xyr HO233.out) (Kd.S_typed wy4) (by decide) hg); replace HO236 := Aside0.mk (Kd.R_over' (xyr HO236.out) (Kd.S_typed wy4) (by decide) hg); replace HB := Aside0.mk (hb); have HO239 := Aside0.mk (ho); clear HO_9; clear ho hb hg hat))
          replace HO_6 := Aside0.mk (Kd.R_drew HO_6.out)
          replace HO_10 := Aside0.mk (Kd.R_drew HO_10.out)
          replace HO233 := Aside0.mk (Kd.R_drew HO233.out)
          replace HO236 := Aside0.mk (Kd.R_drew HO236.out)
          replace HO239 := Aside0.mk (Kd.S_drew HO239.out)
          replace BK226 := Aside0.mk (blk_drew BK226.out)
          replace BK228 := Aside0.mk (blk_drew BK228.out)
          replace HB := Aside0.mk (below_drew1 HB.out)
          obtain ⟨Ao58, co58, eo58⟩ := Kd.R_slice HO_10.out
          (first | subst eo58 | (injection eo58 with f1_ f2_ f3_; have f4_ := f1_.symm; have f5_ := f3_.symm; clear f1_ f2_ f3_; subst f4_; subst f5_))
          have p240 : 0 ≤ ((ji34) : Int) := xyd
          have q240 : (ji34) < (x10_1.length : Int) := xyd
          obtain ⟨ad240, e240, hx240_0⟩ := Kd.at_int (Kd.R_reads' HO_10.out).2.2 (ji34) p240 q240
          cases e240
          replace p240 := eq_true p240
          replace q240 := eq_true q240
          refine start_ (n := 13) (S := fun w' => w'.cell? ⟨gb228, 0, none⟩ = some (.int .i64 ((rd_T63 l1 x26_1).f0)) ∧ w'.cell? ⟨gb228, 1, none⟩ = some (.int .i64 ((rd_T63 l1 x26_1).f1)) ∧ w'.cell? ⟨gb228, 2, none⟩ = some (.int .i64 ((rd_T63 l1 x26_1).f2)) ∧ w'.cell? ⟨gb228, 3, none⟩ = some (.int .i64 ((rd_T63 l1 x26_1).f3)) ∧ w'.cell? ⟨gb228, 4, none⟩ = some (.int .i64 ((rd_T63 l1 x26_1).f4)) ∧ w'.cell? (ad240.add ((ji34)).toNat) = some (.int .i64 (rd x10_1 (ji34)))) (ds := [10, 11]) (zy_.bm 13 0) (by kernel_rfl) rfl rfl ⟨xyc BK228.out, xyc BK228.out, xyc BK228.out, xyc BK228.out, xyc BK228.out, hx240_0⟩ (fun hHeld => ?_); refine with_tabW impl_paired.tab19 impl_paired.bits19 (fun HT_ HW_ => ?_)
          generalize w56.drew = w57 at HO_6 HO_10 HO233 HO236 HO239 BK226 BK228 HB hx240_0 hHeld ⊢
          refine zy_.pa (i := 0) (N := some 61) (zy_.bm 13 1) HT_.out ?_
          refine zy_.pa (i := 1) (N := some 62) (zy_.bm 13 3) HT_.out ?_
          refine zy_.pa (i := 2) (N := some 63) (zy_.bm 13 7) HT_.out ?_
          refine zy_.pa (i := 3) (N := some 64) (zy_.bm 13 15) HT_.out ?_
          refine zy_.pa (i := 4) (N := some 65) (zy_.bm 13 31) HT_.out ?_
          refine zy_.pa (i := 5) (N := some 66) (zy_.bm 13 63) HT_.out ?_
          refine zy_.pa (i := 7) (N := some 68) (zy_.bm 13 191) HT_.out ?_
          refine zy_.ta (i := 6) (N := some 67) (zy_.bm 13 255) rfl (take_ofW HT_.out HW_.out (by kernel_rfl)) (Or.inl ⟨(by rfl), wy40⟩) hHeld ?_
          refine zy_.ta (i := 8) (N := some 69) (zy_.bm 13 511) rfl (take_ofW HT_.out HW_.out (by kernel_rfl)) (Or.inl ⟨(by rfl), wy40⟩) hHeld ?_
          refine zy_.pa (i := 9) (N := some 70) (zy_.bm 13 1023) HT_.out ?_
          refine last_ (i := 10) (N := some 71) (zy_.bm 13 2047) rfl rfl (one_of HT_.out (by kernel_rfl)) (by decide) (fun K hK => ?_)
          refine value_ (w1 := ?_) (v := ?_) (by rfl) rfl ?_ ?_
          rotate_left 2
          ·go_simp
           constructor
           ·rfl
           rfl
          refine hK.out _ _ ?_
          clear hK K
          refine norm_ (a' := ?_) ?_ ?_
          rotate_left
          ·show Act.put _ (some 71) _ = _
           simp only [Act.put, List.setIfInBounds_toArray, List.set_cons_zero, List.set_cons_succ, i64_w, i32_w]
           rfl
          refine last_ (i := 11) (N := some 72) (zy_.bm 13 4095) rfl rfl (one_of HT_.out (by kernel_rfl)) (by decide) (fun K hK => ?_)
          refine Kd.R_append_step (Kd.int .i64) (w0 := w) w.heap.size (by rfl) (.tmp 61) (.tmp 71) 29 2 (.int .i64 0) 8 rfl Try.underlying29 info2 rfl (by decide) (by omega) (.slice (some ad240) x10_1.length co58) x10_1 (wrap64 ((rd x10_1 (ji34)) * ((rd_T63 l1 x26_1).f4))) [.int .i64 (wrap64 ((rd x10_1 (ji34)) * ((rd_T63 l1 x26_1).f4)))] (fun k_ => some k_ ≠ (.slice (some ⟨go14, 0, none⟩) y229.length co14 : Value).ownBlock ∧ k_ ≠ gb226) (fun _ => False) rfl rfl ?aP (fun _ hk => hk.elim) ?aF ?aO ?aB ?aS ?aL ?_
          (case aP => exact rfl)
          (case aB => exact wy1)
          (case aF => exact (fun k_ hk => ⟨Kd.fresh' (Kd.R_lt (xyr HO_6.out)) k_ hk, Kd.freshB (g := gb226) (o := mobj x227000_1) (xyb BK226.out) k_ hk⟩))
          (case aO => exact (xyr HO_10.out))
          (case aS => exact (below_size wy1))
          (case aL => have := LMc37.out; omega)
          intro v242 w59 ho hb hg hat
          rw [← Ny241.out] at ho
          replace HO_6 := Aside0.mk (Kd.R_after (ok := (fun k_ => k_ ≠ gb226)) wy19 hg hat)
          replace BK226 := Aside0.mk (blk_grown (g := gb226) (o := mobj x227000_1) (xyb BK226.out) hg (Kd.R_away HO_10.out (fun _ hk => hk.2)))
          replace BK228 := Aside0.mk (blk_grown (g := gb228) (o := .cells #[.int .i64 ((rd_T63 l1 x26_1).f0), .int .i64 ((rd_T63 l1 x26_1).f1), .int .i64 ((rd_T63 l1 x26_1).f2), .int .i64 ((rd_T63 l1 x26_1).f3), .int .i64 ((rd_T63 l1 x26_1).f4)] 63 (0, 0)) (xyb BK228.out) hg (Kd.R_ne HO_10.out BK228.out (by decide)))
          replace HO233 := Aside0.mk (Kd.R_over' (xyr HO233.out) (Kd.R_typed (xyr HO_10.out)) (by decide) hg)
          replace HO236 := Aside0.mk (Kd.R_over' (xyr HO236.out) (Kd.R_typed (xyr HO_10.out)) (by decide) hg)
          replace HO239 := Aside0.mk (Kd.S_over' wy49 (Kd.R_typed (xyr HO_10.out)) (by decide) hg)
          replace HB := Aside0.mk (hb)
          have HO243 := Aside0.mk (ho)
          clear HO_10
          clear ho hb hg hat
          refine hK.out _ _ ?_
          clear hK K
          refine norm_ (a' := ?_) ?_ ?_
          rotate_left
          ·show Act.put _ (some 72) _ = _
           simp only [Act.put, List.setIfInBounds_toArray, List.set_cons_zero, List.set_cons_succ, i64_w, i32_w]
           rfl
          refine zy_.pa (i := 12) (N := some 10) (zy_.bm 13 8191) HT_.out ?_
          refine done_ (done_of HT_.out (by kernel_rfl)) ?_
          obtain ⟨Ao60, co60, eo60⟩ := Kd.R_slice HO233.out
          subst eo60
          obtain ⟨Ao61, co61, eo61⟩ := Kd.R_slice HO243.out
          subst eo61
          have p244 : 0 ≤ ((ji48) : Int) := xyd
          have q244 : (ji48) < (y241.length : Int) := xyd
          obtain ⟨ad244, e244, hx244_0⟩ := Kd.at_int (Kd.R_reads' HO243.out).2.2 (ji48) p244 q244
          cases e244
          replace p244 := eq_true p244
          replace q244 := eq_true q244
          try go_wp2
          go_ret2
          exact ⟨_, (by first | rfl | (simp [errW_none, errW_some] <;> rfl) | (simp only [← hji34, ← hji48]; first | rfl | (simp [errW_none, errW_some] <;> rfl)) | (simp [*, errW_none, errW_some] <;> rfl)), wy7, wy1⟩
         rw [if_neg c51] at H
         have c51b0 : decide (64 < (rd y241 (ji48))) = false := decide_eq_false c51
         clear c51
         have H' := Aside0.mk H
         clear H
         try go_wp2_with (first | ((with_reducible refine gate_builtin (b := .append) (xs := #[.tmp 47, .tmp 49]) rfl ?_); (try (refine gate_guard (by rfl) ?_; dsimp only)); at_builtin; refine Kd.R_append (Kd.int .i64) (w0 := w) w.heap.size rfl (.tmp 47) (.tmp 49) 101 3 (.int .i64 0) 8 rfl Try.underlying101 info3 rfl (by decide) (by omega) (.slice Ao26 x7_1.length co26) x7_1 x26_1 [.int .i64 x26_1] (fun k_ => some k_ ≠ (u8 : Value).ownBlock ∧ k_ ≠ gb226) (fun _ => False) rfl rfl ?aP (fun _ hk => hk.elim) ?aF ?aO ?aB ?aS ?aL ?_; (case aP => exact rfl); (case aB => exact wy1); (case aF => exact (fun k_ hk => ⟨Kd.fresh' (Kd.R_lt (xyr HO_8.out)) k_ hk, Kd.freshB (g := gb226) (o := mobj x227000_1) (xyb BK226.out) k_ hk⟩)); (case aO => exact (xyr HO_7.out)); (case aS => exact (below_size wy1)); (case aL => have := LMc30.out; omega); intro v232 w62 ho hb hg hat; rw [← Ny231.out] at ho; replace HO_6 := Aside0.mk (Kd.R_over' (xyr HO_6.out) (Kd.R_typed (xyr HO_7.out)) (by decide) hg); replace HO_8 := Aside0.mk (Kd.R_after (ok := (fun k_ => k_ ≠ gb226)) wy12 hg hat); replace HO_9 := Aside0.mk (Kd.S_after (ok := (fun k_ => some k_ ≠ (u8 : Value).ownBlock ∧ k_ ≠ gb226)) wy25 hg hat); replace HO_10 := Aside0.mk (Kd.R_over' (xyr HO_10.out) (Kd.R_typed (xyr HO_7.out)) (by decide) hg); replace BK226 := Aside0.mk (blk_grown (g := gb226) (o := mobj x227000_1) (xyb BK226.out) hg (Kd.R_away HO_7.out (fun _ hk => hk.2))); replace BK228 := Aside0.mk (blk_grown (g := gb228) (o := .cells #[.int .i64 ((rd_T63 l1 x26_1).f0), .int .i64 ((rd_T63 l1 x26_1).f1), .int .i64 ((rd_T63 l1 x26_1).f2), .int .i64 ((rd_T63 l1 x26_1).f3), .int .i64 ((rd_T63 l1 x26_1).f4)] 63 (0, 0)) (xyb BK228.out) hg (Kd.R_ne HO_7.out BK228.out (by decide))); replace HB := Aside0.mk (hb); have HO233 := Aside0.mk (ho); clear HO_7; clear ho hb hg hat; have hnb63 := NB228_226.out; have hnc63 := NB226_228.out; have hcz64_0 : w62.cell? ⟨gb228, 0, none⟩ = some (.int .i64 ((rd_T63 l1 x26_1).f0)) := xyc BK228.out; have hcz64_1 : w62.cell? ⟨gb228, 1, none⟩ = some (.int .i64 ((rd_T63 l1 x26_1).f1)) := xyc BK228.out; have hcz64_2 : w62.cell? ⟨gb228, 2, none⟩ = some (.int .i64 ((rd_T63 l1 x26_1).f2)) := xyc BK228.out; have hcz64_3 : w62.cell? ⟨gb228, 3, none⟩ = some (.int .i64 ((rd_T63 l1 x26_1).f3)) := xyc BK228.out; have hcz64_4 : w62.cell? ⟨gb228, 4, none⟩ = some (.int .i64 ((rd_T63 l1 x26_1).f4)) := xyc BK228.out; have hfz64_0 := blk_frozen BK228.out 0; have hfz64_1 := blk_frozen BK228.out 1; have hfz64_2 := blk_frozen BK228.out 2; have hfz64_3 := blk_frozen BK228.out 3; have hfz64_4 := blk_frozen BK228.out 4) | ((with_reducible refine gate_builtin (b := .append) (xs := #[.tmp 54, .tmp 56]) rfl ?_); (try (refine gate_guard (by rfl) ?_; dsimp only)); at_builtin; refine Kd.R_append (Kd.int .i64) (w0 := w) w.heap.size rfl (.tmp 54) (.tmp 56) 101 3 (.int .i64 0) 8 rfl Try.underlying101 info3 rfl (by decide) (by omega) u8 x8_1 x26_1 [.int .i64 x26_1] (fun k_ => some k_ ≠ (v232 : Value).ownBlock ∧ k_ ≠ gb226) (fun _ => False) rfl rfl ?aP (fun _ hk => hk.elim) ?aF ?aO ?aB ?aS ?aL ?_; (case aP => exact rfl); (case aB => exact wy1); (case aF => exact (fun k_ hk => ⟨Kd.fresh' (Kd.R_lt (xyr HO233.out)) k_ hk, Kd.freshB (g := gb226) (o := mobj x227000_1) (xyb BK226.out) k_ hk⟩)); (case aO => exact wy12); (case aS => exact (below_size wy1)); (case aL => have := LMc32.out; omega); intro v235 w65 ho hb hg hat; rw [← Ny234.out] at ho; replace HO_6 := Aside0.mk (Kd.R_over' (xyr HO_6.out) (Kd.R_typed (xyr HO_8.out)) (by decide) hg); replace HO_9 := Aside0.mk (Kd.S_after (ok := (fun k_ => some k_ ≠ (v232 : Value).ownBlock ∧ k_ ≠ gb226)) wy45 hg hat); replace HO_10 := Aside0.mk (Kd.R_over' (xyr HO_10.out) (Kd.R_typed (xyr HO_8.out)) (by decide) hg); replace BK226 := Aside0.mk (blk_grown (g := gb226) (o := mobj x227000_1) (xyb BK226.out) hg (Kd.R_away HO_8.out (fun _ hk => hk.1))); replace BK228 := Aside0.mk (blk_grown (g := gb228) (o := .cells #[.int .i64 ((rd_T63 l1 x26_1).f0), .int .i64 ((rd_T63 l1 x26_1).f1), .int .i64 ((rd_T63 l1 x26_1).f2), .int .i64 ((rd_T63 l1 x26_1).f3), .int .i64 ((rd_T63 l1 x26_1).f4)] 63 (0, 0)) (xyb BK228.out) hg (Kd.R_ne HO_8.out BK228.out (by decide))); replace HO233 := Aside0.mk (Kd.R_after (ok := (fun k_ => k_ ≠ gb226)) wy46 hg hat); replace HB := Aside0.mk (hb); have HO236 := Aside0.mk (ho); clear HO_8; clear ho hb hg hat) | ((with_reducible refine gate_builtin (b := .append) (xs := #[.tmp 58, .tmp 59]) rfl ?_); (try (refine gate_guard (by rfl) ?_; dsimp only)); at_builtin; refine Kd.S_append (Kd.slice 3 (Kd.int .i64)) (w0 := w) w.heap.size rfl (.tmp 58) (.tmp 59) 102 101 (.slice none 0 0) 24 rfl Try.underlying102 info101 rfl (by decide) (by omega) u9 x9_1 [] [.slice none 0 0] (fun k_ => some k_ ≠ (v232 : Value).ownBlock ∧ some k_ ≠ (v235 : Value).ownBlock ∧ k_ ≠ gb226) (fun _ => False) rfl rfl ?aP (fun _ hk => hk.elim) ?aF ?aO ?aB ?aS ?aL ?_; (case aP => exact ⟨_, rfl, Kd.R_nil _ _ _ _ _⟩); (case aB => exact wy1); (case aF => exact (fun k_ hk => ⟨Kd.fresh' (Kd.R_lt (xyr HO233.out)) k_ hk, Kd.fresh' (Kd.R_lt (xyr HO236.out)) k_ hk, Kd.freshB (g := gb226) (o := mobj x227000_1) (xyb BK226.out) k_ hk⟩)); (case aO => exact wy39); (case aS => exact (below_size wy1)); (case aL => have := LMc33.out; omega); intro v238 w66 ho hb hg hat; rw [← Ny237.out] at ho; replace HO_6 := Aside0.mk (Kd.R_over' (xyr HO_6.out) (Kd.S_typed wy4) (by decide) hg); replace HO_10 := Aside0.mk (Kd.R_over' (xyr HO_10.out) (Kd.S_typed wy4) (by decide) hg); replace BK226 := Aside0.mk (blk_grown (g := gb226) (o := mobj x227000_1) (xyb BK226.out) hg (Kd.S_away HO_9.out (fun _ hk => hk.1.2))); replace BK228 := Aside0.mk (blk_grown (g := gb228) (o := .cells #[.int .i64 ((rd_T63 l1 x26_1).f0), .int .i64 ((rd_T63 l1 x26_1).f1), .int .i64 ((rd_T63 l1 x26_1).f2), .int .i64 ((rd_T63 l1 x26_1).f3), .int .i64 ((rd_T63 l1 x26_1).f4)] 63 (0, 0)) (xyb BK228.out) hg (Kd.S_ne HO_9.out BK228.out (by decide))); replace HO233 := Aside0.mk (Kd.R_over' (xyr HO233.out) (Kd.S_typed wy4) (by decide) hg); replace HO236 := Aside0.mk (Kd.R_over' (xyr HO236.out) (Kd.S_typed wy4) (by decide) hg); replace HB := Aside0.mk (hb); have HO239 := Aside0.mk (ho); clear HO_9; clear ho hb hg hat))
         replace HO_6 := Aside0.mk (Kd.R_drew HO_6.out)
         replace HO_10 := Aside0.mk (Kd.R_drew HO_10.out)
         replace HO233 := Aside0.mk (Kd.R_drew HO233.out)
         replace HO236 := Aside0.mk (Kd.R_drew HO236.out)
         replace HO239 := Aside0.mk (Kd.S_drew HO239.out)
         replace BK226 := Aside0.mk (blk_drew BK226.out)
         replace BK228 := Aside0.mk (blk_drew BK228.out)
         replace HB := Aside0.mk (below_drew1 HB.out)
         obtain ⟨Ao68, co68, eo68⟩ := Kd.R_slice HO_10.out
         (first | subst eo68 | (injection eo68 with f1_ f2_ f3_; have f4_ := f1_.symm; have f5_ := f3_.symm; clear f1_ f2_ f3_; subst f4_; subst f5_))
         have p240 : 0 ≤ ((ji34) : Int) := xyd
         have q240 : (ji34) < (x10_1.length : Int) := xyd
         obtain ⟨ad240, e240, hx240_0⟩ := Kd.at_int (Kd.R_reads' HO_10.out).2.2 (ji34) p240 q240
         cases e240
         replace p240 := eq_true p240
         replace q240 := eq_true q240
         refine start_ (n := 13) (S := fun w' => w'.cell? ⟨gb228, 0, none⟩ = some (.int .i64 ((rd_T63 l1 x26_1).f0)) ∧ w'.cell? ⟨gb228, 1, none⟩ = some (.int .i64 ((rd_T63 l1 x26_1).f1)) ∧ w'.cell? ⟨gb228, 2, none⟩ = some (.int .i64 ((rd_T63 l1 x26_1).f2)) ∧ w'.cell? ⟨gb228, 3, none⟩ = some (.int .i64 ((rd_T63 l1 x26_1).f3)) ∧ w'.cell? ⟨gb228, 4, none⟩ = some (.int .i64 ((rd_T63 l1 x26_1).f4)) ∧ w'.cell? (ad240.add ((ji34)).toNat) = some (.int .i64 (rd x10_1 (ji34)))) (ds := [10, 11]) (zy_.bm 13 0) (by kernel_rfl) rfl rfl ⟨xyc BK228.out, xyc BK228.out, xyc BK228.out, xyc BK228.out, xyc BK228.out, hx240_0⟩ (fun hHeld => ?_); refine with_tabW impl_paired.tab19 impl_paired.bits19 (fun HT_ HW_ => ?_)
         generalize w66.drew = w67 at HO_6 HO_10 HO233 HO236 HO239 BK226 BK228 HB hx240_0 hHeld ⊢
         refine zy_.pa (i := 0) (N := some 61) (zy_.bm 13 1) HT_.out ?_
         refine zy_.pa (i := 1) (N := some 62) (zy_.bm 13 3) HT_.out ?_
         refine zy_.pa (i := 2) (N := some 63) (zy_.bm 13 7) HT_.out ?_
         refine zy_.pa (i := 3) (N := some 64) (zy_.bm 13 15) HT_.out ?_
         refine zy_.pa (i := 4) (N := some 65) (zy_.bm 13 31) HT_.out ?_
         refine zy_.pa (i := 5) (N := some 66) (zy_.bm 13 63) HT_.out ?_
         refine zy_.pa (i := 7) (N := some 68) (zy_.bm 13 191) HT_.out ?_
         refine zy_.ta (i := 6) (N := some 67) (zy_.bm 13 255) rfl (take_ofW HT_.out HW_.out (by kernel_rfl)) (Or.inl ⟨(by rfl), wy40⟩) hHeld ?_
         refine zy_.ta (i := 8) (N := some 69) (zy_.bm 13 511) rfl (take_ofW HT_.out HW_.out (by kernel_rfl)) (Or.inl ⟨(by rfl), wy40⟩) hHeld ?_
         refine zy_.pa (i := 9) (N := some 70) (zy_.bm 13 1023) HT_.out ?_
         refine last_ (i := 10) (N := some 71) (zy_.bm 13 2047) rfl rfl (one_of HT_.out (by kernel_rfl)) (by decide) (fun K hK => ?_)
         refine value_ (w1 := ?_) (v := ?_) (by rfl) rfl ?_ ?_
         rotate_left 2
         ·go_simp
          constructor
          ·rfl
          rfl
         refine hK.out _ _ ?_
         clear hK K
         refine norm_ (a' := ?_) ?_ ?_
         rotate_left
         ·show Act.put _ (some 71) _ = _
          simp only [Act.put, List.setIfInBounds_toArray, List.set_cons_zero, List.set_cons_succ, i64_w, i32_w]
          rfl
         refine last_ (i := 11) (N := some 72) (zy_.bm 13 4095) rfl rfl (one_of HT_.out (by kernel_rfl)) (by decide) (fun K hK => ?_)
         refine Kd.R_append_step (Kd.int .i64) (w0 := w) w.heap.size (by rfl) (.tmp 61) (.tmp 71) 29 2 (.int .i64 0) 8 rfl Try.underlying29 info2 rfl (by decide) (by omega) (.slice (some ad240) x10_1.length co68) x10_1 (wrap64 ((rd x10_1 (ji34)) * ((rd_T63 l1 x26_1).f4))) [.int .i64 (wrap64 ((rd x10_1 (ji34)) * ((rd_T63 l1 x26_1).f4)))] (fun k_ => some k_ ≠ (.slice (some ⟨go14, 0, none⟩) y229.length co14 : Value).ownBlock ∧ k_ ≠ gb226) (fun _ => False) rfl rfl ?aP (fun _ hk => hk.elim) ?aF ?aO ?aB ?aS ?aL ?_
         (case aP => exact rfl)
         (case aB => exact wy1)
         (case aF => exact (fun k_ hk => ⟨Kd.fresh' (Kd.R_lt (xyr HO_6.out)) k_ hk, Kd.freshB (g := gb226) (o := mobj x227000_1) (xyb BK226.out) k_ hk⟩))
         (case aO => exact (xyr HO_10.out))
         (case aS => exact (below_size wy1))
         (case aL => have := LMc37.out; omega)
         intro v242 w69 ho hb hg hat
         rw [← Ny241.out] at ho
         replace HO_6 := Aside0.mk (Kd.R_after (ok := (fun k_ => k_ ≠ gb226)) wy19 hg hat)
         replace BK226 := Aside0.mk (blk_grown (g := gb226) (o := mobj x227000_1) (xyb BK226.out) hg (Kd.R_away HO_10.out (fun _ hk => hk.2)))
         replace BK228 := Aside0.mk (blk_grown (g := gb228) (o := .cells #[.int .i64 ((rd_T63 l1 x26_1).f0), .int .i64 ((rd_T63 l1 x26_1).f1), .int .i64 ((rd_T63 l1 x26_1).f2), .int .i64 ((rd_T63 l1 x26_1).f3), .int .i64 ((rd_T63 l1 x26_1).f4)] 63 (0, 0)) (xyb BK228.out) hg (Kd.R_ne HO_10.out BK228.out (by decide)))
         replace HO233 := Aside0.mk (Kd.R_over' (xyr HO233.out) (Kd.R_typed (xyr HO_10.out)) (by decide) hg)
         replace HO236 := Aside0.mk (Kd.R_over' (xyr HO236.out) (Kd.R_typed (xyr HO_10.out)) (by decide) hg)
         replace HO239 := Aside0.mk (Kd.S_over' wy49 (Kd.R_typed (xyr HO_10.out)) (by decide) hg)
         replace HB := Aside0.mk (hb)
         have HO243 := Aside0.mk (ho)
         clear HO_10
         clear ho hb hg hat
         refine hK.out _ _ ?_
         clear hK K
         refine norm_ (a' := ?_) ?_ ?_
         rotate_left
         ·show Act.put _ (some 72) _ = _
          simp only [Act.put, List.setIfInBounds_toArray, List.set_cons_zero, List.set_cons_succ, i64_w, i32_w]
          rfl
         refine zy_.pa (i := 12) (N := some 10) (zy_.bm 13 8191) HT_.out ?_
         refine done_ (done_of HT_.out (by kernel_rfl)) ?_
         obtain ⟨Ao70, co70, eo70⟩ := Kd.R_slice HO233.out
         subst eo70
         obtain ⟨Ao71, co71, eo71⟩ := Kd.R_slice HO243.out
         subst eo71
         have p244 : 0 ≤ ((ji48) : Int) := xyd
         have q244 : (ji48) < (y241.length : Int) := xyd
         obtain ⟨ad244, e244, hx244_0⟩ := Kd.at_int (Kd.R_reads' HO243.out).2.2 (ji48) p244 q244
         cases e244
         replace p244 := eq_true p244
         replace q244 := eq_true q244
         try go_wp2
         (try simp only [← hl6_16])
         go_roundg kj16
         case measure => have := HK1.out; have := HJ16.out; omega
         case rel => exact ⟨(y229), (y231), (y234), (y237), (y241), (wrap64 (x26_1 + 1)), (x227000_1), wy5, H', ⟨wy50⟩, ⟨(by (try simp only [hl6_16]); (with_reducible repeat (first | apply Kd.R_alloc | apply Kd.R_drewN | apply Kd.R_drew)); exact Kd.R_mono HO_6.out (fun _ hk => ⟨hk.2, hk.1⟩))⟩, ⟨(by (try simp only [hl6_16]); (with_reducible repeat (first | apply Kd.R_alloc | apply Kd.R_drewN | apply Kd.R_drew)); exact Kd.R_mono HO233.out (fun _ hk => ⟨hk.2, hk.1⟩))⟩, ⟨(by (try simp only [hl6_16]); (with_reducible repeat (first | apply Kd.R_alloc | apply Kd.R_drewN | apply Kd.R_drew)); exact HO236.out)⟩, ⟨(by (try simp only [hl6_16]); (with_reducible repeat (first | apply Kd.S_alloc | apply Kd.S_drewN | apply Kd.S_drew)); exact HO239.out)⟩, ⟨(by (try simp only [hl6_16]); (with_reducible repeat (first | apply Kd.R_alloc | apply Kd.R_drewN | apply Kd.R_drew)); exact HO243.out)⟩, ⟨wy14⟩, ⟨wy1⟩⟩
        rw [if_neg c31] at H
        have c31b0 : (((rd_T63 l1 x26_1).f0) == 5) = false := beq_eq_false_iff_ne.mpr c31
        have c31b1 : (((rd_T63 l1 x26_1).f0) != 5) = true := bne_iff_ne.mpr c31
        by_cases c72 : (y231.length : Int) > 4
        ·rw [if_pos c72] at H
         have c72b0 : decide (4 < (y231.length : Int)) = true := decide_eq_true c72
         have c72b1 : decide (4 < y231.length) = true := decide_eq_true (by omega)
         clear c72
         simp only [Option.some.injEq, Prod.mk.injEq] at H
         obtain ⟨rfl, rfl⟩ := H
         go_wp2_with (first | ((with_reducible refine gate_builtin (b := .append) (xs := #[.tmp 47, .tmp 49]) rfl ?_); (try (refine gate_guard (by rfl) ?_; dsimp only)); at_builtin; refine Kd.R_append (Kd.int .i64) (w0 := w) w.heap.size rfl (.tmp 47) (.tmp 49) 101 3 (.int .i64 0) 8 rfl Try.underlying101 info3 rfl (by decide) (by omega) (.slice Ao26 x7_1.length co26) x7_1 x26_1 [.int .i64 x26_1] (fun k_ => some k_ ≠ (u8 : Value).ownBlock ∧ k_ ≠ gb226) (fun _ => False) rfl rfl ?aP (fun _ hk => hk.elim) ?aF ?aO ?aB ?aS ?aL ?_; (case aP => exact rfl); (case aB => exact wy1); (case aF => exact (fun k_ hk => ⟨Kd.fresh' (Kd.R_lt (xyr HO_8.out)) k_ hk, Kd.freshB (g := gb226) (o := mobj x227000_1) (xyb BK226.out) k_ hk⟩)); (case aO => exact (xyr HO_7.out)); (case aS => exact (below_size wy1)); (case aL => have := LMc30.out; omega); intro v232 w73 ho hb hg hat; rw [← Ny231.out] at ho; replace HO_6 := Aside0.mk (Kd.R_over' (xyr HO_6.out) (Kd.R_typed (xyr HO_7.out)) (by decide) hg); replace HO_8 := Aside0.mk (Kd.R_after (ok := (fun k_ => k_ ≠ gb226)) wy12 hg hat); replace HO_9 := Aside0.mk (Kd.S_after (ok := (fun k_ => some k_ ≠ (u8 : Value).ownBlock ∧ k_ ≠ gb226)) wy25 hg hat); replace HO_10 := Aside0.mk (Kd.R_over' (xyr HO_10.out) (Kd.R_typed (xyr HO_7.out)) (by decide) hg); replace BK226 := Aside0.mk (blk_grown (g := gb226) (o := mobj x227000_1) (xyb BK226.out) hg (Kd.R_away HO_7.out (fun _ hk => hk.2))); replace BK228 := Aside0.mk (blk_grown (g := gb228) (o := .cells #[.int .i64 ((rd_T63 l1 x26_1).f0), .int .i64 ((rd_T63 l1 x26_1).f1), .int .i64 ((rd_T63 l1 x26_1).f2), .int .i64 ((rd_T63 l1 x26_1).f3), .int .i64 ((rd_T63 l1 x26_1).f4)] 63 (0, 0)) (xyb BK228.out) hg (Kd.R_ne HO_7.out BK228.out (by decide))); replace HB := Aside0.mk (hb); have HO233 := Aside0.mk (ho); clear HO_7; clear ho hb hg hat; have hnb74 := NB228_226.out; have hnc74 := NB226_228.out; have hcz75_0 : w73.cell? ⟨gb228, 0, none⟩ = some (.int .i64 ((rd_T63 l1 x26_1).f0)) := xyc BK228.out; have hcz75_1 : w73.cell? ⟨gb228, 1, none⟩ = some (.int .i64 ((rd_T63 l1 x26_1).f1)) := xyc BK228.out; have hcz75_2 : w73.cell? ⟨gb228, 2, none⟩ = some (.int .i64 ((rd_T63 l1 x26_1).f2)) := xyc BK228.out; have hcz75_3 : w73.cell? ⟨gb228, 3, none⟩ = some (.int .i64 ((rd_T63 l1 x26_1).f3)) := xyc BK228.out; have hcz75_4 : w73.cell? ⟨gb228, 4, none⟩ = some (.int .i64 ((rd_T63 l1 x26_1).f4)) := xyc BK228.out; have hfz75_0 := blk_frozen BK228.out 0; have hfz75_1 := blk_frozen BK228.out 1; have hfz75_2 := blk_frozen BK228.out 2; have hfz75_3 := blk_frozen BK228.out 3; have hfz75_4 := blk_frozen BK228.out 4; obtain ⟨Ao76, co76, eo76⟩ := Kd.R_slice HO233.out; subst eo76))
         go_ret2
         exact ⟨_, wy3, wy7, wy1⟩
        rw [if_neg c72] at H
        have c72b0 : decide (4 < (y231.length : Int)) = false := decide_eq_false c72
        have c72b1 : decide (4 < y231.length) = false := decide_eq_false (by omega)
        clear c72
        (try clear hji34w)
        (try clear hji34)
        obtain ⟨ji77, hji77⟩ : ∃ j_ : Int, (wrap64 ((x10_1.length : Int) - 1)) = j_ := ⟨_, rfl⟩
        replace H : (if 0 ≤ (ji77) then (if (ji77) < (x10_1.length : Int) then (if (rd x10_1 (ji77)) > 64 then (some (([] : List Int), false)) else (impl_paired.l0 kj16 a0 l1 y229 y231 x8_1 x9_1 x10_1 l1 (l1.length : Int) (wrap64 (x26_1 + 1)) x227000_1)) else (none)) else (none)) = some (r1, r2) := by first | (rw [hji77] at H; exact H) | (simp only [hji77] at H ⊢; exact H)
        have hji77w : (IntKind.i64.wrap ((x10_1.length : Int) - 1)) = ji77 := (i64_w _).trans hji77
        replace H := zy_g H
        obtain ⟨c78, H⟩ := H
        have c78b0 : decide (0 ≤ (ji77)) = true := decide_eq_true c78
        clear c78
        replace H := zy_g H
        obtain ⟨c79, H⟩ := H
        have c79b0 : decide ((ji77) < (x10_1.length : Int)) = true := decide_eq_true c79
        clear c79
        by_cases c80 : (rd x10_1 (ji77)) > 64
        ·rw [if_pos c80] at H
         have c80b0 : decide (64 < (rd x10_1 (ji77))) = true := decide_eq_true c80
         clear c80
         simp only [Option.some.injEq, Prod.mk.injEq] at H
         obtain ⟨rfl, rfl⟩ := H
         go_wp2_with (first | ((with_reducible refine gate_builtin (b := .append) (xs := #[.tmp 47, .tmp 49]) rfl ?_); (try (refine gate_guard (by rfl) ?_; dsimp only)); at_builtin; refine Kd.R_append (Kd.int .i64) (w0 := w) w.heap.size rfl (.tmp 47) (.tmp 49) 101 3 (.int .i64 0) 8 rfl Try.underlying101 info3 rfl (by decide) (by omega) (.slice Ao26 x7_1.length co26) x7_1 x26_1 [.int .i64 x26_1] (fun k_ => some k_ ≠ (u8 : Value).ownBlock ∧ k_ ≠ gb226) (fun _ => False) rfl rfl ?aP (fun _ hk => hk.elim) ?aF ?aO ?aB ?aS ?aL ?_; (case aP => exact rfl); (case aB => exact wy1); (case aF => exact (fun k_ hk => ⟨Kd.fresh' (Kd.R_lt (xyr HO_8.out)) k_ hk, Kd.freshB (g := gb226) (o := mobj x227000_1) (xyb BK226.out) k_ hk⟩)); (case aO => exact (xyr HO_7.out)); (case aS => exact (below_size wy1)); (case aL => have := LMc30.out; omega); intro v232 w81 ho hb hg hat; rw [← Ny231.out] at ho; replace HO_6 := Aside0.mk (Kd.R_over' (xyr HO_6.out) (Kd.R_typed (xyr HO_7.out)) (by decide) hg); replace HO_8 := Aside0.mk (Kd.R_after (ok := (fun k_ => k_ ≠ gb226)) wy12 hg hat); replace HO_9 := Aside0.mk (Kd.S_after (ok := (fun k_ => some k_ ≠ (u8 : Value).ownBlock ∧ k_ ≠ gb226)) wy25 hg hat); replace HO_10 := Aside0.mk (Kd.R_over' (xyr HO_10.out) (Kd.R_typed (xyr HO_7.out)) (by decide) hg); replace BK226 := Aside0.mk (blk_grown (g := gb226) (o := mobj x227000_1) (xyb BK226.out) hg (Kd.R_away HO_7.out (fun _ hk => hk.2))); replace BK228 := Aside0.mk (blk_grown (g := gb228) (o := .cells #[.int .i64 ((rd_T63 l1 x26_1).f0), .int .i64 ((rd_T63 l1 x26_1).f1), .int .i64 ((rd_T63 l1 x26_1).f2), .int .i64 ((rd_T63 l1 x26_1).f3), .int .i64 ((rd_T63 l1 x26_1).f4)] 63 (0, 0)) (xyb BK228.out) hg (Kd.R_ne HO_7.out BK228.out (by decide))); replace HB := Aside0.mk (hb); have HO233 := Aside0.mk (ho); clear HO_7; clear ho hb hg hat; have hnb82 := NB228_226.out; have hnc82 := NB226_228.out; have hcz83_0 : w81.cell? ⟨gb228, 0, none⟩ = some (.int .i64 ((rd_T63 l1 x26_1).f0)) := xyc BK228.out; have hcz83_1 : w81.cell? ⟨gb228, 1, none⟩ = some (.int .i64 ((rd_T63 l1 x26_1).f1)) := xyc BK228.out; have hcz83_2 : w81.cell? ⟨gb228, 2, none⟩ = some (.int .i64 ((rd_T63 l1 x26_1).f2)) := xyc BK228.out; have hcz83_3 : w81.cell? ⟨gb228, 3, none⟩ = some (.int .i64 ((rd_T63 l1 x26_1).f3)) := xyc BK228.out; have hcz83_4 : w81.cell? ⟨gb228, 4, none⟩ = some (.int .i64 ((rd_T63 l1 x26_1).f4)) := xyc BK228.out; have hfz83_0 := blk_frozen BK228.out 0; have hfz83_1 := blk_frozen BK228.out 1; have hfz83_2 := blk_frozen BK228.out 2; have hfz83_3 := blk_frozen BK228.out 3; have hfz83_4 := blk_frozen BK228.out 4; obtain ⟨Ao84, co84, eo84⟩ := Kd.R_slice HO233.out; subst eo84; obtain ⟨Ao85, co85, eo85⟩ := Kd.R_slice HO_10.out; subst eo85; have p245 : 0 ≤ ((ji77) : Int) := xyd; have q245 : (ji77) < (x10_1.length : Int) := xyd; obtain ⟨ad245, e245, hx245_0⟩ := Kd.at_int (Kd.R_reads' HO_10.out).2.2 (ji77) p245 q245; cases e245; replace p245 := eq_true p245; replace q245 := eq_true q245))
         go_ret2
         exact ⟨_, (by first | rfl | (simp [errW_none, errW_some] <;> rfl) | (simp only [← hji77]; first | rfl | (simp [errW_none, errW_some] <;> rfl)) | (simp [*, errW_none, errW_some] <;> rfl)), wy7, wy1⟩
        rw [if_neg c80] at H
        have c80b0 : decide (64 < (rd x10_1 (ji77))) = false := decide_eq_false c80
        clear c80
        have H' := Aside0.mk H
        clear H
        go_wp2_with (first | ((with_reducible refine gate_builtin (b := .append) (xs := #[.tmp 47, .tmp 49]) rfl ?_); (try (refine gate_guard (by rfl) ?_; dsimp only)); at_builtin; refine Kd.R_append (Kd.int .i64) (w0 := w) w.heap.size rfl (.tmp 47) (.tmp 49) 101 3 (.int .i64 0) 8 rfl Try.underlying101 info3 rfl (by decide) (by omega) (.slice Ao26 x7_1.length co26) x7_1 x26_1 [.int .i64 x26_1] (fun k_ => some k_ ≠ (u8 : Value).ownBlock ∧ k_ ≠ gb226) (fun _ => False) rfl rfl ?aP (fun _ hk => hk.elim) ?aF ?aO ?aB ?aS ?aL ?_; (case aP => exact rfl); (case aB => exact wy1); (case aF => exact (fun k_ hk => ⟨Kd.fresh' (Kd.R_lt (xyr HO_8.out)) k_ hk, Kd.freshB (g := gb226) (o := mobj x227000_1) (xyb BK226.out) k_ hk⟩)); (case aO => exact (xyr HO_7.out)); (case aS => exact (below_size wy1)); (case aL => have := LMc30.out; omega); intro v232 w86 ho hb hg hat; rw [← Ny231.out] at ho; replace HO_6 := Aside0.mk (Kd.R_over' (xyr HO_6.out) (Kd.R_typed (xyr HO_7.out)) (by decide) hg); replace HO_8 := Aside0.mk (Kd.R_after (ok := (fun k_ => k_ ≠ gb226)) wy12 hg hat); replace HO_9 := Aside0.mk (Kd.S_after (ok := (fun k_ => some k_ ≠ (u8 : Value).ownBlock ∧ k_ ≠ gb226)) wy25 hg hat); replace HO_10 := Aside0.mk (Kd.R_over' (xyr HO_10.out) (Kd.R_typed (xyr HO_7.out)) (by decide) hg); replace BK226 := Aside0.mk (blk_grown (g := gb226) (o := mobj x227000_1) (xyb BK226.out) hg (Kd.R_away HO_7.out (fun _ hk => hk.2))); replace BK228 := Aside0.mk (blk_grown (g := gb228) (o := .cells #[.int .i64 ((rd_T63 l1 x26_1).f0), .int .i64 ((rd_T63 l1 x26_1).f1), .int .i64 ((rd_T63 l1 x26_1).f2), .int .i64 ((rd_T63 l1 x26_1).f3), .int .i64 ((rd_T63 l1 x26_1).f4)] 63 (0, 0)) (xyb BK228.out) hg (Kd.R_ne HO_7.out BK228.out (by decide))); replace HB := Aside0.mk (hb); have HO233 := Aside0.mk (ho); clear HO_7; clear ho hb hg hat; have hnb87 := NB228_226.out; have hnc87 := NB226_228.out; have hcz88_0 : w86.cell? ⟨gb228, 0, none⟩ = some (.int .i64 ((rd_T63 l1 x26_1).f0)) := xyc BK228.out; have hcz88_1 : w86.cell? ⟨gb228, 1, none⟩ = some (.int .i64 ((rd_T63 l1 x26_1).f1)) := xyc BK228.out; have hcz88_2 : w86.cell? ⟨gb228, 2, none⟩ = some (.int .i64 ((rd_T63 l1 x26_1).f2)) := xyc BK228.out; have hcz88_3 : w86.cell? ⟨gb228, 3, none⟩ = some (.int .i64 ((rd_T63 l1 x26_1).f3)) := xyc BK228.out; have hcz88_4 : w86.cell? ⟨gb228, 4, none⟩ = some (.int .i64 ((rd_T63 l1 x26_1).f4)) := xyc BK228.out; have hfz88_0 := blk_frozen BK228.out 0; have hfz88_1 := blk_frozen BK228.out 1; have hfz88_2 := blk_frozen BK228.out 2; have hfz88_3 := blk_frozen BK228.out 3; have hfz88_4 := blk_frozen BK228.out 4; obtain ⟨Ao89, co89, eo89⟩ := Kd.R_slice HO233.out; subst eo89; obtain ⟨Ao90, co90, eo90⟩ := Kd.R_slice HO_10.out; subst eo90; have p245 : 0 ≤ ((ji77) : Int) := xyd; have q245 : (ji77) < (x10_1.length : Int) := xyd; obtain ⟨ad245, e245, hx245_0⟩ := Kd.at_int (Kd.R_reads' HO_10.out).2.2 (ji77) p245 q245; cases e245; replace p245 := eq_true p245; replace q245 := eq_true q245))
        (try simp only [← hl6_16])
        go_roundg kj16
        case measure => have := HK1.out; have := HJ16.out; omega
        case rel => exact ⟨(y229), (y231), (x8_1), (x9_1), (x10_1), (wrap64 (x26_1 + 1)), (x227000_1), wy5, H', ⟨wy50⟩, ⟨wy18⟩, ⟨(by (try simp only [hl6_16]); (with_reducible repeat (first | apply Kd.R_alloc | apply Kd.R_drewN | apply Kd.R_drew)); exact HO233.out)⟩, ⟨(by (try simp only [hl6_16]); (with_reducible repeat (first | apply Kd.R_alloc | apply Kd.R_drewN | apply Kd.R_drew)); exact Kd.R_mono HO_8.out (fun _ hk => ⟨hk.2, hk.1⟩))⟩, ⟨(by (try simp only [hl6_16]); (with_reducible repeat (first | apply Kd.S_alloc | apply Kd.S_drewN | apply Kd.S_drew)); exact Kd.S_mono HO_9.out (fun _ hk => ⟨hk.2, ⟨hk.1.1, hk.1.2⟩⟩))⟩, ⟨wy32⟩, ⟨wy14⟩, ⟨wy1⟩⟩
       replace c29 := Bool.eq_false_iff.mpr c29
       subst c29
       have H1 : (if ((rd_T63 l1 x26_1).f0) = 3 then (if (wrap64 ((x7_1.length : Int) - 1)) < 0 then (impl_paired.j2 kj16 a0 l1 y229 x7_1 x8_1 x9_1 x10_1 x26_1 (wrap64 ((x7_1.length : Int) - 1)) l1 (l1.length : Int) x26_1 true x227000_1) else (if 0 ≤ (wrap64 ((x7_1.length : Int) - 1)) then (if (wrap64 ((x7_1.length : Int) - 1)) < (x7_1.length : Int) then (if 0 ≤ (rd x7_1 (wrap64 ((x7_1.length : Int) - 1))) then (if (rd x7_1 (wrap64 ((x7_1.length : Int) - 1))) < (l1.length : Int) then (if ((rd_T63 l1 (rd x7_1 (wrap64 ((x7_1.length : Int) - 1)))).f0) = 2 then (impl_paired.j2 kj16 a0 l1 y229 x7_1 x8_1 x9_1 x10_1 x26_1 (wrap64 ((x7_1.length : Int) - 1)) l1 (l1.length : Int) x26_1 (mget x227000_1 (rd x7_1 (wrap64 ((x7_1.length : Int) - 1)))) x227000_1) else (impl_paired.j2 kj16 a0 l1 y229 x7_1 x8_1 x9_1 x10_1 x26_1 (wrap64 ((x7_1.length : Int) - 1)) l1 (l1.length : Int) x26_1 true x227000_1)) else (none)) else (none)) else (none)) else (none))) else (if ((rd_T63 l1 x26_1).f0) = 4 then (if (wrap64 ((x7_1.length : Int) - 1)) < 0 then (some (([] : List Int), false)) else (if 0 ≤ (wrap64 ((x7_1.length : Int) - 1)) then (if (wrap64 ((x7_1.length : Int) - 1)) < (x7_1.length : Int) then (if 0 ≤ x26_1 then (if x26_1 < (y229.length : Int) then ((some (y229.set (x26_1 : Int).toNat (rd x7_1 (wrap64 ((x7_1.length : Int) - 1))) : List Int)).bind fun y254 => (if 0 ≤ (rd x7_1 (wrap64 ((x7_1.length : Int) - 1))) then (if (rd x7_1 (wrap64 ((x7_1.length : Int) - 1))) < (l1.length : Int) then (if ((rd_T63 l1 (rd x7_1 (wrap64 ((x7_1.length : Int) - 1)))).f0) = 5 then (if (rd x7_1 (wrap64 ((x7_1.length : Int) - 1))) < (y229.length : Int) then (if 0 ≤ (wrap64 ((x8_1.length : Int) - 1)) then (if (wrap64 ((x8_1.length : Int) - 1)) < (x9_1.length : Int) then (impl_paired.l1 kj16 a0 l1 (y254.set ((rd x7_1 (wrap64 ((x7_1.length : Int) - 1))) : Int).toNat x26_1) x7_1 x8_1 x9_1 x10_1 x26_1 (wrap64 ((x7_1.length : Int) - 1)) (wrap64 ((x8_1.length : Int) - 1)) l1 (l1.length : Int) x26_1 (rd_L5 x9_1 (wrap64 ((x8_1.length : Int) - 1))) ((rd_L5 x9_1 (wrap64 ((x8_1.length : Int) - 1))).length : Int) 0 x227000_1) else (none)) else (none)) else (none)) else (if mget x227000_1 (rd x7_1 (wrap64 ((x7_1.length : Int) - 1))) = true then (if (rd x7_1 (wrap64 ((x7_1.length : Int) - 1))) < (y229.length : Int) then (if 0 ≤ (rd y254 (rd x7_1 (wrap64 ((x7_1.length : Int) - 1)))) then (if (rd y254 (rd x7_1 (wrap64 ((x7_1.length : Int) - 1)))) < (y229.length : Int) then (if (wrap64 ((x7_1.length : Int) - 1)) ≤ (x7_1.length : Int) then ((some (x7_1.take ((wrap64 ((x7_1.length : Int) - 1)) : Int).toNat : List Int)).bind fun y275 => (if (y275.length : Int) > 4 then (some (([] : List Int), false)) else (if 0 ≤ (wrap64 ((x10_1.length : Int) - 1)) then (if (wrap64 ((x10_1.length : Int) - 1)) < (x10_1.length : Int) then (if (rd x10_1 (wrap64 ((x10_1.length : Int) - 1))) > 64 then (some (([] : List Int), false)) else (impl_paired.l0 kj16 a0 l1 (y254.set ((rd y254 (rd x7_1 (wrap64 ((x7_1.length : Int) - 1)))) : Int).toNat x26_1) y275 x8_1 x9_1 x10_1 l1 (l1.length : Int) (wrap64 (x26_1 + 1)) x227000_1)) else (none)) else (none)))) else (none)) else (none)) else (none)) else (none)) else (if (rd x7_1 (wrap64 ((x7_1.length : Int) - 1))) < (y229.length : Int) then (if (wrap64 ((x7_1.length : Int) - 1)) ≤ (x7_1.length : Int) then ((some (x7_1.take ((wrap64 ((x7_1.length : Int) - 1)) : Int).toNat : List Int)).bind fun y280 => (if (y280.length : Int) > 4 then (some (([] : List Int), false)) else (if 0 ≤ (wrap64 ((x10_1.length : Int) - 1)) then (if (wrap64 ((x10_1.length : Int) - 1)) < (x10_1.length : Int) then (if (rd x10_1 (wrap64 ((x10_1.length : Int) - 1))) > 64 then (some (([] : List Int), false)) else (impl_paired.l0 kj16 a0 l1 (y254.set ((rd x7_1 (wrap64 ((x7_1.length : Int) - 1))) : Int).toNat x26_1) y280 x8_1 x9_1 x10_1 l1 (l1.length : Int) (wrap64 (x26_1 + 1)) x227000_1)) else (none)) else (none)))) else (none)) else (none)))) else (none)) else (none))) else (none)) else (none)) else (none)) else (none))) else (if ((rd_T63 l1 x26_1).f0) = 6 then (if (x8_1.length : Int) = 0 then (some (([] : List Int), false)) else (if 0 ≤ (wrap64 ((x8_1.length : Int) - 1)) then (if (wrap64 ((x8_1.length : Int) - 1)) < (x9_1.length : Int) then (if (rd_L5 x9_1 (wrap64 ((x8_1.length : Int) - 1))).length < 17592186044416 then (if (x7_1.length : Int) > 4 then (some (([] : List Int), false)) else (if 0 ≤ (wrap64 ((x10_1.length : Int) - 1)) then (if (wrap64 ((x10_1.length : Int) - 1)) < (x10_1.length : Int) then (if (rd x10_1 (wrap64 ((x10_1.length : Int) - 1))) > 64 then (some (([] : List Int), false)) else (impl_paired.l0 kj16 a0 l1 y229 x7_1 x8_1 (x9_1.set ((wrap64 ((x8_1.length : Int) - 1)) : Int).toNat ((rd_L5 x9_1 (wrap64 ((x8_1.length : Int) - 1))) ++ [x26_1])) x10_1 l1 (l1.length : Int) (wrap64 (x26_1 + 1)) x227000_1)) else (none)) else (none))) else (none)) else (none)) else (none))) else (if (x7_1.length : Int) > 4 then (some (([] : List Int), false)) else (if 0 ≤ (wrap64 ((x10_1.length : Int) - 1)) then (if (wrap64 ((x10_1.length : Int) - 1)) < (x10_1.length : Int) then (if (rd x10_1 (wrap64 ((x10_1.length : Int) - 1))) > 64 then (some (([] : List Int), false)) else (impl_paired.l0 kj16 a0 l1 y229 x7_1 x8_1 x9_1 x10_1 l1 (l1.length : Int) (wrap64 (x26_1 + 1)) x227000_1)) else (none)) else (none)))))) = some (r1, r2) := by rw [if_neg (show ¬ (false = true) by decide)] at H; exact H
       clear H
       have H := H1
       clear H1
       by_cases c91 : ((rd_T63 l1 x26_1).f0) = 3
       ·as_aux_lemma =>
        rw [if_pos c91] at H
        have c91b0 : (((rd_T63 l1 x26_1).f0) == 3) = true := beq_iff_eq.mpr c91
        have c91b1 : (((rd_T63 l1 x26_1).f0) != 3) = false := bne_eq_false_iff_eq.mpr c91
        clear c91
        have HC92 := Aside0.mk H
        clear H
        go_upto_region 21 with (fail)
        go_cut [95] (fun v95 wc => ∃ (kq : Nat) (x95_91 : Bool), v95 = .bool x95_91 ∧ Aside0 (impl_paired.j2 kq a0 l1 y229 x7_1 x8_1 x9_1 x10_1 x26_1 (wrap64 ((x7_1.length : Int) - 1)) l1 (l1.length : Int) x26_1 x95_91 x227000_1 = some (r1, r2)) ∧ Aside0 (kq ≤ kj16) ∧ Aside0 (Kd.R (Kd.int .i64) 2 wc w.heap.size (fun k_ => some k_ ≠ (u10 : Value).ownBlock ∧ k_ ≠ gb226) (.slice (some ⟨go14, 0, none⟩) y229.length co14) y229) ∧ Aside0 (Kd.R (Kd.int .i64) 3 wc w.heap.size (fun k_ => some k_ ≠ (u8 : Value).ownBlock ∧ k_ ≠ gb226) (.slice Ao26 x7_1.length co26) x7_1) ∧ Aside0 (Kd.R (Kd.int .i64) 3 wc w.heap.size (fun k_ => some k_ ≠ ((.slice Ao26 x7_1.length co26) : Value).ownBlock ∧ k_ ≠ gb226) u8 x8_1) ∧ Aside0 (Kd.S (Kd.slice 3 (Kd.int .i64)) 101 wc w.heap.size (fun k_ => some k_ ≠ ((.slice Ao26 x7_1.length co26) : Value).ownBlock ∧ some k_ ≠ (u8 : Value).ownBlock ∧ k_ ≠ gb226) u9 x9_1) ∧ Aside0 (Kd.R (Kd.int .i64) 2 wc w.heap.size (fun k_ => some k_ ≠ ((.slice (some ⟨go14, 0, none⟩) y229.length co14) : Value).ownBlock ∧ k_ ≠ gb226) u10 x10_1) ∧ Aside0 (wc.heap[gb226]? = some (mobj x227000_1)) ∧ Aside0 (wc.heap[gb228]? = some (.cells #[.int .i64 ((rd_T63 l1 x26_1).f0), .int .i64 ((rd_T63 l1 x26_1).f1), .int .i64 ((rd_T63 l1 x26_1).f2), .int .i64 ((rd_T63 l1 x26_1).f3), .int .i64 ((rd_T63 l1 x26_1).f4)] 63 (0, 0))) ∧ Aside0 (Below w.heap.size w wc))
        case first =>
         have H := HC92.out
         clear HC92
         by_cases c93 : (wrap64 ((x7_1.length : Int) - 1)) < 0
         ·rw [if_pos c93] at H
          have c93b0 : decide ((wrap64 ((x7_1.length : Int) - 1)) < 0) = true := decide_eq_true c93
          clear c93
          (first | rw [c93b0] | (simp only [i64_w, i32_w]; rw [c93b0]) | skip)
          have H' := Aside0.mk H
          clear H
          go_wp2
          go_meet
          case rel => exact ⟨_, (true), wy5, H', ⟨(by have := HK1.out; have := HJ16.out; first | omega | exact Nat.le_refl _)⟩, ⟨wy18⟩, ⟨wy26⟩, ⟨wy22⟩, ⟨wy21⟩, ⟨wy32⟩, ⟨wy14⟩, ⟨wy36⟩, ⟨wy1⟩⟩
         rw [if_neg c93] at H
         have c93b0 : decide ((wrap64 ((x7_1.length : Int) - 1)) < 0) = false := decide_eq_false c93
         clear c93
         (first | rw [c93b0] | (simp only [i64_w, i32_w]; rw [c93b0]) | skip)
         obtain ⟨ji94, hji94⟩ : ∃ j_ : Int, (wrap64 ((x7_1.length : Int) - 1)) = j_ := ⟨_, rfl⟩
         replace H : (if 0 ≤ (ji94) then (if (ji94) < (x7_1.length : Int) then (if 0 ≤ (rd x7_1 (ji94)) then (if (rd x7_1 (ji94)) < (l1.length : Int) then (if ((rd_T63 l1 (rd x7_1 (ji94))).f0) = 2 then (impl_paired.j2 kj16 a0 l1 y229 x7_1 x8_1 x9_1 x10_1 x26_1 (ji94) l1 (l1.length : Int) x26_1 (mget x227000_1 (rd x7_1 (ji94))) x227000_1) else (impl_paired.j2 kj16 a0 l1 y229 x7_1 x8_1 x9_1 x10_1 x26_1 (ji94) l1 (l1.length : Int) x26_1 true x227000_1)) else (none)) else (none)) else (none)) else (none)) = some (r1, r2) := by first | (rw [hji94] at H; exact H) | (simp only [hji94] at H ⊢; exact H)
         (try rw [hji94] at c93b0)
         have hji94w : (IntKind.i64.wrap ((x7_1.length : Int) - 1)) = ji94 := (i64_w _).trans hji94
         replace H := zy_g H
         obtain ⟨c95, H⟩ := H
         have c95b0 : decide (0 ≤ (ji94)) = true := decide_eq_true c95
         clear c95
         replace H := zy_g H
         obtain ⟨c96, H⟩ := H
         have c96b0 : decide ((ji94) < (x7_1.length : Int)) = true := decide_eq_true c96
         clear c96
         replace H := zy_g H
         obtain ⟨c97, H⟩ := H
         have c97b0 : decide (0 ≤ (rd x7_1 (ji94))) = true := decide_eq_true c97
         clear c97
         replace H := zy_g H
         obtain ⟨c98, H⟩ := H
         have c98b0 : decide ((rd x7_1 (ji94)) < (l1.length : Int)) = true := decide_eq_true c98
         clear c98
         by_cases c99 : ((rd_T63 l1 (rd x7_1 (ji94))).f0) = 2
         ·rw [if_pos c99] at H
          have c99b0 : (((rd_T63 l1 (rd x7_1 (ji94))).f0) == 2) = true := beq_iff_eq.mpr c99
          have c99b1 : (((rd_T63 l1 (rd x7_1 (ji94))).f0) != 2) = false := bne_eq_false_iff_eq.mpr c99
          clear c99
          have H' := Aside0.mk H
          clear H
          have p246 : 0 ≤ ((ji94) : Int) := xyd
          have q246 : (ji94) < (x7_1.length : Int) := xyd
          obtain ⟨ad246, e246, hx246_0⟩ := Kd.at_int (Kd.R_reads' HO_7.out).2.2 (ji94) p246 q246
          cases e246
          replace p246 := eq_true p246
          replace q246 := eq_true q246
          have p247 : 0 ≤ ((rd x7_1 (ji94)) : Int) := xyd
          have q247 : (rd x7_1 (ji94)) < (l1.length : Int) := xyd
          obtain ⟨ad247, e247, hx247_0, hx247_1, hx247_2, hx247_3, hx247_4⟩ := at_T63 HR1.out (rd x7_1 (ji94)) p247 q247
          obtain rfl : ad227 = ad247 := (by injection e247)
          replace hx247_0 := xyh HB.out hx247_0
          replace hx247_1 := xyh HB.out hx247_1
          replace hx247_2 := xyh HB.out hx247_2
          replace hx247_3 := xyh HB.out hx247_3
          replace hx247_4 := xyh HB.out hx247_4
          replace p247 := eq_true p247
          replace q247 := eq_true q247
          have p248 : 0 ≤ ((ji94) : Int) := xyd
          have q248 : (ji94) < (x7_1.length : Int) := xyd
          obtain ⟨ad248, e248, hx248_0⟩ := Kd.at_int (Kd.R_reads' HO_7.out).2.2 (ji94) p248 q248
          obtain rfl : ad246 = ad248 := (by injection e248)
          replace p248 := eq_true p248
          replace q248 := eq_true q248
          have hmlm100 : (Instr.lookup 103 (.map (some gb226)) (.int .i64 (rd x7_1 (ji94))) false).run Try.prog wc = .ok (.bool (mget x227000_1 (rd x7_1 (ji94)))) wc := (run_mget (P := Try.prog) (w := wc) (t := 103) (kt := 3) (et := 4) (xyb BK226.out) (by kernel_rfl) (by kernel_rfl) (by rfl) (rd x7_1 (ji94)))
          go_wp2
          subst hji94
          go_meet
          case rel => exact ⟨_, (mget x227000_1 (rd x7_1 (wrap64 ((x7_1.length : Int) - 1)))), (by first | rfl | (simp; done) | (simp [*]; done)), H', ⟨(by have := HK1.out; have := HJ16.out; first | omega | exact Nat.le_refl _)⟩, ⟨wy18⟩, ⟨wy26⟩, ⟨wy22⟩, ⟨wy21⟩, ⟨wy32⟩, ⟨wy14⟩, ⟨wy36⟩, ⟨wy1⟩⟩
         rw [if_neg c99] at H
         have c99b0 : (((rd_T63 l1 (rd x7_1 (ji94))).f0) == 2) = false := beq_eq_false_iff_ne.mpr c99
         have c99b1 : (((rd_T63 l1 (rd x7_1 (ji94))).f0) != 2) = true := bne_iff_ne.mpr c99
         have H' := Aside0.mk H
         clear H
         have p246 : 0 ≤ ((ji94) : Int) := xyd
         have q246 : (ji94) < (x7_1.length : Int) := xyd
         obtain ⟨ad246, e246, hx246_0⟩ := Kd.at_int (Kd.R_reads' HO_7.out).2.2 (ji94) p246 q246
         cases e246
         replace p246 := eq_true p246
         replace q246 := eq_true q246
         have p247 : 0 ≤ ((rd x7_1 (ji94)) : Int) := xyd
         have q247 : (rd x7_1 (ji94)) < (l1.length : Int) := xyd
         obtain ⟨ad247, e247, hx247_0, hx247_1, hx247_2, hx247_3, hx247_4⟩ := at_T63 HR1.out (rd x7_1 (ji94)) p247 q247
         obtain rfl : ad227 = ad247 := (by injection e247)
         replace hx247_0 := xyh HB.out hx247_0
         replace hx247_1 := xyh HB.out hx247_1
         replace hx247_2 := xyh HB.out hx247_2
         replace hx247_3 := xyh HB.out hx247_3
         replace hx247_4 := xyh HB.out hx247_4
         replace p247 := eq_true p247
         replace q247 := eq_true q247
         go_wp2
         subst hji94
         go_meet
         case rel => exact ⟨_, (true), wy5, H', ⟨(by have := HK1.out; have := HJ16.out; first | omega | exact Nat.le_refl _)⟩, ⟨wy18⟩, ⟨wy26⟩, ⟨wy22⟩, ⟨wy21⟩, ⟨wy32⟩, ⟨wy14⟩, ⟨wy36⟩, ⟨wy1⟩⟩
        case rest =>
         clear HC92
         try clear c2
         try clear p2
         try clear q2
         try clear hx2
         try clear c3
         try clear c4
         try clear c5
         try clear c6
         try clear p6
         try clear c7
         try clear c8
         try clear c9
         try clear p24
         try clear q24
         try clear hx24
         try clear c29
         try clear c30
         try clear c31
         try clear c31b0
         try clear c31b1
         try clear c32
         try clear c33
         try clear c35
         try clear c36
         try clear c37
         try clear c49
         try clear c49b0
         try clear c50
         try clear c50b0
         try clear c51
         try clear c51b0
         try clear c53
         try clear c63
         try clear p64
         try clear c72
         try clear c72b0
         try clear c72b1
         try clear c74
         try clear c78
         try clear c78b0
         try clear c79
         try clear c79b0
         try clear c80
         try clear c80b0
         try clear c82
         try clear c87
         try clear c91
         try clear c91b0
         try clear c91b1
         try clear c93
         try clear c93b0
         try clear c95
         try clear c95b0
         try clear c96
         try clear c96b0
         try clear c97
         try clear c97b0
         try clear c98
         try clear c98b0
         try clear c99
         try clear c99b0
         try clear c99b1
         try clear hcz54_0
         try clear hcz54_1
         try clear hcz54_2
         try clear hcz54_3
         try clear hcz54_4
         try clear hcz64_0
         try clear hcz64_1
         try clear hcz64_2
         try clear hcz64_3
         try clear hcz64_4
         try clear hcz75_0
         try clear hcz75_1
         try clear hcz75_2
         try clear hcz75_3
         try clear hcz75_4
         try clear hcz83_0
         try clear hcz83_1
         try clear hcz83_2
         try clear hcz83_3
         try clear hcz83_4
         try clear hcz88_0
         try clear hcz88_1
         try clear hcz88_2
         try clear hcz88_3
         try clear hcz88_4
         try clear hfz54_0
         try clear hfz54_1
         try clear hfz54_2
         try clear hfz54_3
         try clear hfz54_4
         try clear hfz64_0
         try clear hfz64_1
         try clear hfz64_2
         try clear hfz64_3
         try clear hfz64_4
         try clear hfz75_0
         try clear hfz75_1
         try clear hfz75_2
         try clear hfz75_3
         try clear hfz75_4
         try clear hfz83_0
         try clear hfz83_1
         try clear hfz83_2
         try clear hfz83_3
         try clear hfz83_4
         try clear hfz88_0
         try clear hfz88_1
         try clear hfz88_2
         try clear hfz88_3
         try clear hfz88_4
         try clear hx240_0
         try clear hx244_0
         try clear hx245_0
         try clear hx246_0
         try clear hx247_0
         try clear hx247_1
         try clear hx247_2
         try clear hx247_3
         try clear hx247_4
         try clear hx248_0
         try clear p240
         try clear p244
         try clear p245
         try clear p246
         try clear p247
         try clear p248
         try clear q240
         try clear q244
         try clear q245
         try clear q246
         try clear q247
         try clear q248
         obtain ⟨kq, x95_91, rfl, HA, HJ91, HO_6, HO_7, HO_8, HO_9, HO_10, BK226, BK228, HB⟩ := hcut
         cases kq with
         | zero => exact absurd HA.out (by simp [impl_paired.j2])
         | succ kj91 =>
          have H := HA.out
          clear HA
          simp only [impl_paired.j2] at H
          by_cases c101 : x95_91 = true
          ·subst c101
           have H1 : (some (([] : List Int), false)) = some (r1, r2) := by rw [if_pos rfl] at H; exact H
           clear H
           have H := H1
           clear H1
           simp only [Option.some.injEq, Prod.mk.injEq] at H
           obtain ⟨rfl, rfl⟩ := H
           go_wp2
           go_ret2
           exact ⟨_, wy3, wy7, wy1⟩
          replace c101 := Bool.eq_false_iff.mpr c101
          subst c101
          have H1 : (if 0 ≤ (wrap64 ((x7_1.length : Int) - 1)) then (if (wrap64 ((x7_1.length : Int) - 1)) < (x7_1.length : Int) then (if 0 ≤ (rd x7_1 (wrap64 ((x7_1.length : Int) - 1))) then (if (rd x7_1 (wrap64 ((x7_1.length : Int) - 1))) < (y229.length : Int) then (if (x7_1.length : Int) > 4 then (some (([] : List Int), false)) else (if 0 ≤ (wrap64 ((x10_1.length : Int) - 1)) then (if (wrap64 ((x10_1.length : Int) - 1)) < (x10_1.length : Int) then (if (rd x10_1 (wrap64 ((x10_1.length : Int) - 1))) > 64 then (some (([] : List Int), false)) else (impl_paired.l0 kj91 a0 l1 (y229.set ((rd x7_1 (wrap64 ((x7_1.length : Int) - 1))) : Int).toNat x26_1) x7_1 x8_1 x9_1 x10_1 l1 (l1.length : Int) (wrap64 (x26_1 + 1)) (mset x227000_1 (rd x7_1 (wrap64 ((x7_1.length : Int) - 1)))))) else (none)) else (none))) else (none)) else (none)) else (none)) else (none)) = some (r1, r2) := by rw [if_neg (show ¬ (false = true) by decide)] at H; exact H
          clear H
          have H := H1
          clear H1
          (try clear hji94w)
          (try clear hji94)
          obtain ⟨ji102, hji102⟩ : ∃ j_ : Int, (wrap64 ((x7_1.length : Int) - 1)) = j_ := ⟨_, rfl⟩
          replace H : (if 0 ≤ (ji102) then (if (ji102) < (x7_1.length : Int) then (if 0 ≤ (rd x7_1 (ji102)) then (if (rd x7_1 (ji102)) < (y229.length : Int) then (if (x7_1.length : Int) > 4 then (some (([] : List Int), false)) else (if 0 ≤ (wrap64 ((x10_1.length : Int) - 1)) then (if (wrap64 ((x10_1.length : Int) - 1)) < (x10_1.length : Int) then (if (rd x10_1 (wrap64 ((x10_1.length : Int) - 1))) > 64 then (some (([] : List Int), false)) else (impl_paired.l0 kj91 a0 l1 (y229.set ((rd x7_1 (ji102)) : Int).toNat x26_1) x7_1 x8_1 x9_1 x10_1 l1 (l1.length : Int) (wrap64 (x26_1 + 1)) (mset x227000_1 (rd x7_1 (ji102))))) else (none)) else (none))) else (none)) else (none)) else (none)) else (none)) = some (r1, r2) := by first | (rw [hji102] at H; exact H) | (simp only [hji102] at H ⊢; exact H)
          have hji102w : (IntKind.i64.wrap ((x7_1.length : Int) - 1)) = ji102 := (i64_w _).trans hji102
          replace H := zy_g H
          obtain ⟨c103, H⟩ := H
          have c103b0 : decide (0 ≤ (ji102)) = true := decide_eq_true c103
          clear c103
          replace H := zy_g H
          obtain ⟨c104, H⟩ := H
          have c104b0 : decide ((ji102) < (x7_1.length : Int)) = true := decide_eq_true c104
          clear c104
          replace H := zy_g H
          obtain ⟨c105, H⟩ := H
          have c105b0 : decide (0 ≤ (rd x7_1 (ji102))) = true := decide_eq_true c105
          clear c105
          replace H := zy_g H
          obtain ⟨c106, H⟩ := H
          have c106b0 : decide ((rd x7_1 (ji102)) < (y229.length : Int)) = true := decide_eq_true c106
          clear c106
          obtain ⟨y251, hy251⟩ : ∃ y_ : List Int, y_ = (y229.set ((rd x7_1 (ji102)) : Int).toNat x26_1) := ⟨_, rfl⟩
          replace H : (if (x7_1.length : Int) > 4 then (some (([] : List Int), false)) else (if 0 ≤ (wrap64 ((x10_1.length : Int) - 1)) then (if (wrap64 ((x10_1.length : Int) - 1)) < (x10_1.length : Int) then (if (rd x10_1 (wrap64 ((x10_1.length : Int) - 1))) > 64 then (some (([] : List Int), false)) else (impl_paired.l0 kj91 a0 l1 y251 x7_1 x8_1 x9_1 x10_1 l1 (l1.length : Int) (wrap64 (x26_1 + 1)) (mset x227000_1 (rd x7_1 (ji102))))) else (none)) else (none))) = some (r1, r2) := by first | (rw [hy251]; with_reducible exact H) | (have H2_ := (Option.bind_some _ _).symm.trans H; rw [hy251]; with_reducible exact H2_) | (have H2_ := (Option.bind_some _ _).symm.trans H; with_reducible exact H2_) | with_reducible exact H | (rw [hy251]; exact H) | exact H
          have Ny251 := Aside0.mk hy251
          clear hy251
          by_cases c108 : (x7_1.length : Int) > 4
          ·rw [if_pos c108] at H
           have c108b0 : decide (4 < (x7_1.length : Int)) = true := decide_eq_true c108
           have c108b1 : decide (4 < x7_1.length) = true := decide_eq_true (by omega)
           clear c108
           simp only [Option.some.injEq, Prod.mk.injEq] at H
           obtain ⟨rfl, rfl⟩ := H
           have p249 : 0 ≤ ((ji102) : Int) := xyd
           have q249 : (ji102) < (x7_1.length : Int) := xyd
           obtain ⟨ad249, e249, hx249_0⟩ := Kd.at_int (Kd.R_reads' HO_7.out).2.2 (ji102) p249 q249
           cases e249
           replace p249 := eq_true p249
           replace q249 := eq_true q249
           go_wp2_with (first | ((with_reducible refine gate_mset (m := 96) (x := 100) rfl ?_); refine mset_event (t := 103) (kt := 3) (et := 4) (m := 96) (x := 100) (g := gb226) (k := (rd x7_1 (ji102))) (l := x227000_1) (w0 := w) w.heap.size ?hg ?ho ?hn ?hm ?hx (by kernel_rfl) (by kernel_rfl) (xyb BK226.out) wy1 GE226.out ?_; (case hg => rfl); (case ho => rfl); (case hn => rfl); (case hm => first | rfl | (go_simp; done)); (case hx => first | rfl | (go_simp; done)); intro w109 ho hb hg; replace HO_6 := Aside0.mk (Kd.R_grown HO_6.out hg (fun k_ hk e_ => hk.2 (Option.some.inj e_))); replace HO_7 := Aside0.mk (Kd.R_grown HO_7.out hg (fun k_ hk e_ => hk.2 (Option.some.inj e_))); replace HO_8 := Aside0.mk (Kd.R_grown HO_8.out hg (fun k_ hk e_ => hk.2 (Option.some.inj e_))); replace HO_9 := Aside0.mk (Kd.S_grown HO_9.out hg (fun k_ hk e_ => hk.2.2 (Option.some.inj e_))); replace HO_10 := Aside0.mk (Kd.R_grown HO_10.out hg (fun k_ hk e_ => hk.2 (Option.some.inj e_))); replace BK226 := Aside0.mk (ho); replace BK228 := Aside0.mk (blk_grown (g := gb228) (o := .cells #[.int .i64 ((rd_T63 l1 x26_1).f0), .int .i64 ((rd_T63 l1 x26_1).f1), .int .i64 ((rd_T63 l1 x26_1).f2), .int .i64 ((rd_T63 l1 x26_1).f3), .int .i64 ((rd_T63 l1 x26_1).f4)] 63 (0, 0)) (xyb BK228.out) hg (fun e_ => NB228_226.out (Option.some.inj e_))); replace HB := Aside0.mk (hb); clear ho hb hg; have p250 : 0 ≤ ((ji102) : Int) := xyd; have q250 : (ji102) < (x7_1.length : Int) := xyd; obtain ⟨ad250, e250, hx250_0⟩ := Kd.at_int (Kd.R_reads' HO_7.out).2.2 (ji102) p250 q250; obtain rfl : ad249 = ad250 := (by injection e250); replace p250 := eq_true p250; replace q250 := eq_true q250; have p107 : 0 ≤ ((rd x7_1 (ji102)) : Int) := xyd; have q107 : ((rd x7_1 (ji102)) : Int) < ((y229.length : Int) : Int) := xyd; obtain ⟨hx107_0, hf107_0⟩ := Kd.R_celln 0 HO_6.out ((rd x7_1 (ji102)) : Int) p107 q107; replace p107 := eq_true p107; replace q107 := eq_true q107; obtain ⟨hy110_, hz110_⟩ := Kd.R_celln 0 HO_6.out ((rd x7_1 (ji102)) : Int) xyd xyd; have HP110 := Kd.R_putg HO_6.out ((rd x7_1 (ji102)) : Int) x26_1) | ((with_reducible refine gate_store (t := 2) (p := 107) rfl ?_); refine xys ((w109.setCell ⟨go14, ((rd x7_1 (ji102)) : Int).toNat, none⟩ (.int .i64 x26_1))) ?_; intro w111 hw; have hg : w109.grownBy w111 (some go14) := (by rw [hw]; exact HP110.2); have hp_ : Kd.R (Kd.int .i64) 2 w111 w.heap.size (fun k_ => some k_ ≠ (u10 : Value).ownBlock ∧ k_ ≠ gb226) (.slice (some ⟨go14, 0, none⟩) y229.length co14) y251 := (by rw [hw, Ny251.out]; exact HP110.1); clear HP110; replace HO_7 := Aside0.mk (Kd.R_over' (xyr HO_7.out) (Kd.R_typed HO_6.out) (by decide) hg); replace HO_8 := Aside0.mk (Kd.R_over' (xyr HO_8.out) (Kd.R_typed HO_6.out) (by decide) hg); replace HO_9 := Aside0.mk (Kd.S_over' wy4 (Kd.R_typed HO_6.out) (by decide) hg); replace HO_10 := Aside0.mk (Kd.R_after (v := (.slice (some ⟨go14, 0, none⟩) y229.length co14)) (v1 := (.slice (some ⟨go14, 0, none⟩) y229.length co14)) (ok := (fun k_ => k_ ≠ gb226)) wy10 hg (.inl rfl)); replace BK226 := Aside0.mk (blk_grown (g := gb226) (o := mobj (mset x227000_1 (rd x7_1 (ji102)))) (xyb BK226.out) hg (Kd.R_away HO_6.out (fun _ hk => hk.2))); replace BK228 := Aside0.mk (blk_grown (g := gb228) (o := .cells #[.int .i64 ((rd_T63 l1 x26_1).f0), .int .i64 ((rd_T63 l1 x26_1).f1), .int .i64 ((rd_T63 l1 x26_1).f2), .int .i64 ((rd_T63 l1 x26_1).f3), .int .i64 ((rd_T63 l1 x26_1).f4)] 63 (0, 0)) (xyb BK228.out) hg (Kd.R_ne HO_6.out BK228.out (by decide))); replace HO_6 := Aside0.mk (hp_); replace HB := Aside0.mk ((by rw [hw]; exact below_set (HB.out) GB14.out : Below w.heap.size w w111)); clear hg hw hp_))
           go_ret2
           exact ⟨_, (by first | rfl | (simp [errW_none, errW_some] <;> rfl) | (simp only [← hji102]; first | rfl | (simp [errW_none, errW_some] <;> rfl)) | (simp [*, errW_none, errW_some] <;> rfl)), wy7, wy1⟩
          rw [if_neg c108] at H
          have c108b0 : decide (4 < (x7_1.length : Int)) = false := decide_eq_false c108
          have c108b1 : decide (4 < x7_1.length) = false := decide_eq_false (by omega)
          clear c108
          (try clear hji34w)
          (try clear hji34)
          (try clear hji77w)
          (try clear hji77)
          obtain ⟨ji112, hji112⟩ : ∃ j_ : Int, (wrap64 ((x10_1.length : Int) - 1)) = j_ := ⟨_, rfl⟩
          replace H : (if 0 ≤ (ji112) then (if (ji112) < (x10_1.length : Int) then (if (rd x10_1 (ji112)) > 64 then (some (([] : List Int), false)) else (impl_paired.l0 kj91 a0 l1 y251 x7_1 x8_1 x9_1 x10_1 l1 (l1.length : Int) (wrap64 (x26_1 + 1)) (mset x227000_1 (rd x7_1 (ji102))))) else (none)) else (none)) = some (r1, r2) := by first | (rw [hji112] at H; exact H) | (simp only [hji112] at H ⊢; exact H)
          have hji112w : (IntKind.i64.wrap ((x10_1.length : Int) - 1)) = ji112 := (i64_w _).trans hji112
          replace H := zy_g H
          obtain ⟨c113, H⟩ := H
          have c113b0 : decide (0 ≤ (ji112)) = true := decide_eq_true c113
          clear c113
          replace H := zy_g H
          obtain ⟨c114, H⟩ := H
          have c114b0 : decide ((ji112) < (x10_1.length : Int)) = true := decide_eq_true c114
          clear c114
          by_cases c115 : (rd x10_1 (ji112)) > 64
          ·rw [if_pos c115] at H
           have c115b0 : decide (64 < (rd x10_1 (ji112))) = true := decide_eq_true c115
           clear c115
           simp only [Option.some.injEq, Prod.mk.injEq] at H
           obtain ⟨rfl, rfl⟩ := H
           have p249 : 0 ≤ ((ji102) : Int) := xyd
           have q249 : (ji102) < (x7_1.length : Int) := xyd
           obtain ⟨ad249, e249, hx249_0⟩ := Kd.at_int (Kd.R_reads' HO_7.out).2.2 (ji102) p249 q249
           cases e249
           replace p249 := eq_true p249
           replace q249 := eq_true q249
           go_wp2_with (first | ((with_reducible refine gate_mset (m := 96) (x := 100) rfl ?_); refine mset_event (t := 103) (kt := 3) (et := 4) (m := 96) (x := 100) (g := gb226) (k := (rd x7_1 (ji102))) (l := x227000_1) (w0 := w) w.heap.size ?hg ?ho ?hn ?hm ?hx (by kernel_rfl) (by kernel_rfl) (xyb BK226.out) wy1 GE226.out ?_; (case hg => rfl); (case ho => rfl); (case hn => rfl); (case hm => first | rfl | (go_simp; done)); (case hx => first | rfl | (go_simp; done)); intro w116 ho hb hg; replace HO_6 := Aside0.mk (Kd.R_grown HO_6.out hg (fun k_ hk e_ => hk.2 (Option.some.inj e_))); replace HO_7 := Aside0.mk (Kd.R_grown HO_7.out hg (fun k_ hk e_ => hk.2 (Option.some.inj e_))); replace HO_8 := Aside0.mk (Kd.R_grown HO_8.out hg (fun k_ hk e_ => hk.2 (Option.some.inj e_))); replace HO_9 := Aside0.mk (Kd.S_grown HO_9.out hg (fun k_ hk e_ => hk.2.2 (Option.some.inj e_))); replace HO_10 := Aside0.mk (Kd.R_grown HO_10.out hg (fun k_ hk e_ => hk.2 (Option.some.inj e_))); replace BK226 := Aside0.mk (ho); replace BK228 := Aside0.mk (blk_grown (g := gb228) (o := .cells #[.int .i64 ((rd_T63 l1 x26_1).f0), .int .i64 ((rd_T63 l1 x26_1).f1), .int .i64 ((rd_T63 l1 x26_1).f2), .int .i64 ((rd_T63 l1 x26_1).f3), .int .i64 ((rd_T63 l1 x26_1).f4)] 63 (0, 0)) (xyb BK228.out) hg (fun e_ => NB228_226.out (Option.some.inj e_))); replace HB := Aside0.mk (hb); clear ho hb hg; have p250 : 0 ≤ ((ji102) : Int) := xyd; have q250 : (ji102) < (x7_1.length : Int) := xyd; obtain ⟨ad250, e250, hx250_0⟩ := Kd.at_int (Kd.R_reads' HO_7.out).2.2 (ji102) p250 q250; obtain rfl : ad249 = ad250 := (by injection e250); replace p250 := eq_true p250; replace q250 := eq_true q250; have p107 : 0 ≤ ((rd x7_1 (ji102)) : Int) := xyd; have q107 : ((rd x7_1 (ji102)) : Int) < ((y229.length : Int) : Int) := xyd; obtain ⟨hx107_0, hf107_0⟩ := Kd.R_celln 0 HO_6.out ((rd x7_1 (ji102)) : Int) p107 q107; replace p107 := eq_true p107; replace q107 := eq_true q107; obtain ⟨hy117_, hz117_⟩ := Kd.R_celln 0 HO_6.out ((rd x7_1 (ji102)) : Int) xyd xyd; have HP117 := Kd.R_putg HO_6.out ((rd x7_1 (ji102)) : Int) x26_1) | ((with_reducible refine gate_store (t := 2) (p := 107) rfl ?_); refine xys ((w116.setCell ⟨go14, ((rd x7_1 (ji102)) : Int).toNat, none⟩ (.int .i64 x26_1))) ?_; intro w118 hw; have hg : w116.grownBy w118 (some go14) := (by rw [hw]; exact HP117.2); have hp_ : Kd.R (Kd.int .i64) 2 w118 w.heap.size (fun k_ => some k_ ≠ (u10 : Value).ownBlock ∧ k_ ≠ gb226) (.slice (some ⟨go14, 0, none⟩) y229.length co14) y251 := (by rw [hw, Ny251.out]; exact HP117.1); clear HP117; replace HO_7 := Aside0.mk (Kd.R_over' (xyr HO_7.out) (Kd.R_typed HO_6.out) (by decide) hg); replace HO_8 := Aside0.mk (Kd.R_over' (xyr HO_8.out) (Kd.R_typed HO_6.out) (by decide) hg); replace HO_9 := Aside0.mk (Kd.S_over' wy4 (Kd.R_typed HO_6.out) (by decide) hg); replace HO_10 := Aside0.mk (Kd.R_after (v := (.slice (some ⟨go14, 0, none⟩) y229.length co14)) (v1 := (.slice (some ⟨go14, 0, none⟩) y229.length co14)) (ok := (fun k_ => k_ ≠ gb226)) wy10 hg (.inl rfl)); replace BK226 := Aside0.mk (blk_grown (g := gb226) (o := mobj (mset x227000_1 (rd x7_1 (ji102)))) (xyb BK226.out) hg (Kd.R_away HO_6.out (fun _ hk => hk.2))); replace BK228 := Aside0.mk (blk_grown (g := gb228) (o := .cells #[.int .i64 ((rd_T63 l1 x26_1).f0), .int .i64 ((rd_T63 l1 x26_1).f1), .int .i64 ((rd_T63 l1 x26_1).f2), .int .i64 ((rd_T63 l1 x26_1).f3), .int .i64 ((rd_T63 l1 x26_1).f4)] 63 (0, 0)) (xyb BK228.out) hg (Kd.R_ne HO_6.out BK228.out (by decide))); replace HO_6 := Aside0.mk (hp_); replace HB := Aside0.mk ((by rw [hw]; exact below_set (HB.out) GB14.out : Below w.heap.size w w118)); clear hg hw hp_; obtain ⟨Ao119, co119, eo119⟩ := Kd.R_slice HO_10.out; subst eo119; have p252 : 0 ≤ ((ji112) : Int) := xyd; have q252 : (ji112) < (x10_1.length : Int) := xyd; obtain ⟨ad252, e252, hx252_0⟩ := Kd.at_int (Kd.R_reads' HO_10.out).2.2 (ji112) p252 q252; cases e252; replace p252 := eq_true p252; replace q252 := eq_true q252))
           go_ret2
           exact ⟨_, (by first | rfl | (simp [errW_none, errW_some] <;> rfl) | (simp only [← hji102, ← hji112]; first | rfl | (simp [errW_none, errW_some] <;> rfl)) | (simp [*, errW_none, errW_some] <;> rfl)), wy7, wy1⟩
          rw [if_neg c115] at H
          have c115b0 : decide (64 < (rd x10_1 (ji112))) = false := decide_eq_false c115
          clear c115
          have H' := Aside0.mk H
          clear H
          have p249 : 0 ≤ ((ji102) : Int) := xyd
          have q249 : (ji102) < (x7_1.length : Int) := xyd
          obtain ⟨ad249, e249, hx249_0⟩ := Kd.at_int (Kd.R_reads' HO_7.out).2.2 (ji102) p249 q249
          cases e249
          replace p249 := eq_true p249
          replace q249 := eq_true q249
          go_wp2_with (first | ((with_reducible refine gate_mset (m := 96) (x := 100) rfl ?_); refine mset_event (t := 103) (kt := 3) (et := 4) (m := 96) (x := 100) (g := gb226) (k := (rd x7_1 (ji102))) (l := x227000_1) (w0 := w) w.heap.size ?hg ?ho ?hn ?hm ?hx (by kernel_rfl) (by kernel_rfl) (xyb BK226.out) wy1 GE226.out ?_; (case hg => rfl); (case ho => rfl); (case hn => rfl); (case hm => first | rfl | (go_simp; done)); (case hx => first | rfl | (go_simp; done)); intro w120 ho hb hg; replace HO_6 := Aside0.mk (Kd.R_grown HO_6.out hg (fun k_ hk e_ => hk.2 (Option.some.inj e_))); replace HO_7 := Aside0.mk (Kd.R_grown HO_7.out hg (fun k_ hk e_ => hk.2 (Option.some.inj e_))); replace HO_8 := Aside0.mk (Kd.R_grown HO_8.out hg (fun k_ hk e_ => hk.2 (Option.some.inj e_))); replace HO_9 := Aside0.mk (Kd.S_grown HO_9.out hg (fun k_ hk e_ => hk.2.2 (Option.some.inj e_))); replace HO_10 := Aside0.mk (Kd.R_grown HO_10.out hg (fun k_ hk e_ => hk.2 (Option.some.inj e_))); replace BK226 := Aside0.mk (ho); replace BK228 := Aside0.mk (blk_grown (g := gb228) (o := .cells #[.int .i64 ((rd_T63 l1 x26_1).f0), .int .i64 ((rd_T63 l1 x26_1).f1), .int .i64 ((rd_T63 l1 x26_1).f2), .int .i64 ((rd_T63 l1 x26_1).f3), .int .i64 ((rd_T63 l1 x26_1).f4)] 63 (0, 0)) (xyb BK228.out) hg (fun e_ => NB228_226.out (Option.some.inj e_))); replace HB := Aside0.mk (hb); clear ho hb hg; have p250 : 0 ≤ ((ji102) : Int) := xyd; have q250 : (ji102) < (x7_1.length : Int) := xyd; obtain ⟨ad250, e250, hx250_0⟩ := Kd.at_int (Kd.R_reads' HO_7.out).2.2 (ji102) p250 q250; obtain rfl : ad249 = ad250 := (by injection e250); replace p250 := eq_true p250; replace q250 := eq_true q250; have p107 : 0 ≤ ((rd x7_1 (ji102)) : Int) := xyd; have q107 : ((rd x7_1 (ji102)) : Int) < ((y229.length : Int) : Int) := xyd; obtain ⟨hx107_0, hf107_0⟩ := Kd.R_celln 0 HO_6.out ((rd x7_1 (ji102)) : Int) p107 q107; replace p107 := eq_true p107; replace q107 := eq_true q107; obtain ⟨hy121_, hz121_⟩ := Kd.R_celln 0 HO_6.out ((rd x7_1 (ji102)) : Int) xyd xyd; have HP121 := Kd.R_putg HO_6.out ((rd x7_1 (ji102)) : Int) x26_1) | ((with_reducible refine gate_store (t := 2) (p := 107) rfl ?_); refine xys ((w120.setCell ⟨go14, ((rd x7_1 (ji102)) : Int).toNat, none⟩ (.int .i64 x26_1))) ?_; intro w122 hw; have hg : w120.grownBy w122 (some go14) := (by rw [hw]; exact HP121.2); have hp_ : Kd.R (Kd.int .i64) 2 w122 w.heap.size (fun k_ => some k_ ≠ (u10 : Value).ownBlock ∧ k_ ≠ gb226) (.slice (some ⟨go14, 0, none⟩) y229.length co14) y251 := (by rw [hw, Ny251.out]; exact HP121.1); clear HP121; replace HO_7 := Aside0.mk (Kd.R_over' (xyr HO_7.out) (Kd.R_typed HO_6.out) (by decide) hg); replace HO_8 := Aside0.mk (Kd.R_over' (xyr HO_8.out) (Kd.R_typed HO_6.out) (by decide) hg); replace HO_9 := Aside0.mk (Kd.S_over' wy4 (Kd.R_typed HO_6.out) (by decide) hg); replace HO_10 := Aside0.mk (Kd.R_after (v := (.slice (some ⟨go14, 0, none⟩) y229.length co14)) (v1 := (.slice (some ⟨go14, 0, none⟩) y229.length co14)) (ok := (fun k_ => k_ ≠ gb226)) wy10 hg (.inl rfl)); replace BK226 := Aside0.mk (blk_grown (g := gb226) (o := mobj (mset x227000_1 (rd x7_1 (ji102)))) (xyb BK226.out) hg (Kd.R_away HO_6.out (fun _ hk => hk.2))); replace BK228 := Aside0.mk (blk_grown (g := gb228) (o := .cells #[.int .i64 ((rd_T63 l1 x26_1).f0), .int .i64 ((rd_T63 l1 x26_1).f1), .int .i64 ((rd_T63 l1 x26_1).f2), .int .i64 ((rd_T63 l1 x26_1).f3), .int .i64 ((rd_T63 l1 x26_1).f4)] 63 (0, 0)) (xyb BK228.out) hg (Kd.R_ne HO_6.out BK228.out (by decide))); replace HO_6 := Aside0.mk (hp_); replace HB := Aside0.mk ((by rw [hw]; exact below_set (HB.out) GB14.out : Below w.heap.size w w122)); clear hg hw hp_; obtain ⟨Ao123, co123, eo123⟩ := Kd.R_slice HO_10.out; subst eo123; have p252 : 0 ≤ ((ji112) : Int) := xyd; have q252 : (ji112) < (x10_1.length : Int) := xyd; obtain ⟨ad252, e252, hx252_0⟩ := Kd.at_int (Kd.R_reads' HO_10.out).2.2 (ji112) p252 q252; cases e252; replace p252 := eq_true p252; replace q252 := eq_true q252))
          (try simp only [← hl6_16])
          go_roundg kj91
          case measure => have := HK1.out; have := HJ16.out; have := HJ91.out; omega
          case rel => exact ⟨(y251), (x7_1), (x8_1), (x9_1), (x10_1), (wrap64 (x26_1 + 1)), (mset x227000_1 (rd x7_1 (ji102))), wy5, H', ⟨(by have := HK1.out; have := HJ16.out; have := HJ91.out; omega)⟩, ⟨wy18⟩, ⟨wy26⟩, ⟨wy22⟩, ⟨wy21⟩, ⟨wy34⟩, ⟨wy14⟩, ⟨wy1⟩⟩
       rw [if_neg c91] at H
       have c91b0 : (((rd_T63 l1 x26_1).f0) == 3) = false := beq_eq_false_iff_ne.mpr c91
       have c91b1 : (((rd_T63 l1 x26_1).f0) != 3) = true := bne_iff_ne.mpr c91
       by_cases c124 : ((rd_T63 l1 x26_1).f0) = 4
       ·as_aux_lemma =>
        rw [if_pos c124] at H
        have c124b0 : (((rd_T63 l1 x26_1).f0) == 4) = true := beq_iff_eq.mpr c124
        have c124b1 : (((rd_T63 l1 x26_1).f0) != 4) = false := bne_eq_false_iff_eq.mpr c124
        clear c124
        by_cases c125 : (wrap64 ((x7_1.length : Int) - 1)) < 0
        ·rw [if_pos c125] at H
         have c125b0 : decide ((wrap64 ((x7_1.length : Int) - 1)) < 0) = true := decide_eq_true c125
         clear c125
         simp only [Option.some.injEq, Prod.mk.injEq] at H
         obtain ⟨rfl, rfl⟩ := H
         go_wp2
         go_ret2
         exact ⟨_, wy3, wy7, wy1⟩
        rw [if_neg c125] at H
        have c125b0 : decide ((wrap64 ((x7_1.length : Int) - 1)) < 0) = false := decide_eq_false c125
        clear c125
        (try clear hji94w)
        (try clear hji94)
        (try clear hji102w)
        (try clear hji102)
        obtain ⟨ji126, hji126⟩ : ∃ j_ : Int, (wrap64 ((x7_1.length : Int) - 1)) = j_ := ⟨_, rfl⟩
        replace H : (if 0 ≤ (ji126) then (if (ji126) < (x7_1.length : Int) then (if 0 ≤ x26_1 then (if x26_1 < (y229.length : Int) then ((some (y229.set (x26_1 : Int).toNat (rd x7_1 (ji126)) : List Int)).bind fun y254 => (if 0 ≤ (rd x7_1 (ji126)) then (if (rd x7_1 (ji126)) < (l1.length : Int) then (if ((rd_T63 l1 (rd x7_1 (ji126))).f0) = 5 then (if (rd x7_1 (ji126)) < (y229.length : Int) then (if 0 ≤ (wrap64 ((x8_1.length : Int) - 1)) then (if (wrap64 ((x8_1.length : Int) - 1)) < (x9_1.length : Int) then (impl_paired.l1 kj16 a0 l1 (y254.set ((rd x7_1 (ji126)) : Int).toNat x26_1) x7_1 x8_1 x9_1 x10_1 x26_1 (ji126) (wrap64 ((x8_1.length : Int) - 1)) l1 (l1.length : Int) x26_1 (rd_L5 x9_1 (wrap64 ((x8_1.length : Int) - 1))) ((rd_L5 x9_1 (wrap64 ((x8_1.length : Int) - 1))).length : Int) 0 x227000_1) else (none)) else (none)) else (none)) else (if mget x227000_1 (rd x7_1 (ji126)) = true then (if (rd x7_1 (ji126)) < (y229.length : Int) then (if 0 ≤ (rd y254 (rd x7_1 (ji126))) then (if (rd y254 (rd x7_1 (ji126))) < (y229.length : Int) then (if (ji126) ≤ (x7_1.length : Int) then ((some (x7_1.take ((ji126) : Int).toNat : List Int)).bind fun y275 => (if (y275.length : Int) > 4 then (some (([] : List Int), false)) else (if 0 ≤ (wrap64 ((x10_1.length : Int) - 1)) then (if (wrap64 ((x10_1.length : Int) - 1)) < (x10_1.length : Int) then (if (rd x10_1 (wrap64 ((x10_1.length : Int) - 1))) > 64 then (some (([] : List Int), false)) else (impl_paired.l0 kj16 a0 l1 (y254.set ((rd y254 (rd x7_1 (ji126))) : Int).toNat x26_1) y275 x8_1 x9_1 x10_1 l1 (l1.length : Int) (wrap64 (x26_1 + 1)) x227000_1)) else (none)) else (none)))) else (none)) else (none)) else (none)) else (none)) else (if (rd x7_1 (ji126)) < (y229.length : Int) then (if (ji126) ≤ (x7_1.length : Int) then ((some (x7_1.take ((ji126) : Int).toNat : List Int)).bind fun y280 => (if (y280.length : Int) > 4 then (some (([] : List Int), false)) else (if 0 ≤ (wrap64 ((x10_1.length : Int) - 1)) then (if (wrap64 ((x10_1.length : Int) - 1)) < (x10_1.length : Int) then (if (rd x10_1 (wrap64 ((x10_1.length : Int) - 1))) > 64 then (some (([] : List Int), false)) else (impl_paired.l0 kj16 a0 l1 (y254.set ((rd x7_1 (ji126)) : Int).toNat x26_1) y280 x8_1 x9_1 x10_1 l1 (l1.length : Int) (wrap64 (x26_1 + 1)) x227000_1)) else (none)) else (none)))) else (none)) else (none)))) else (none)) else (none))) else (none)) else (none)) else (none)) else (none)) = some (r1, r2) := by first | (rw [hji126] at H; exact H) | (simp only [hji126] at H ⊢; exact H)
        (try rw [hji126] at c125b0)
        have hji126w : (IntKind.i64.wrap ((x7_1.length : Int) - 1)) = ji126 := (i64_w _).trans hji126
        replace H := zy_g H
        obtain ⟨c127, H⟩ := H
        have c127b0 : decide (0 ≤ (ji126)) = true := decide_eq_true c127
        clear c127
        replace H := zy_g H
        obtain ⟨c128, H⟩ := H
        have c128b0 : decide ((ji126) < (x7_1.length : Int)) = true := decide_eq_true c128
        clear c128
        replace H := zy_g H
        obtain ⟨c129, H⟩ := H
        have c129b0 : decide (0 ≤ x26_1) = true := decide_eq_true c129
        clear c129
        replace H := zy_g H
        obtain ⟨c130, H⟩ := H
        have c130b0 : decide (x26_1 < (y229.length : Int)) = true := decide_eq_true c130
        clear c130
        obtain ⟨y254, hy254⟩ : ∃ y_ : List Int, y_ = (y229.set (x26_1 : Int).toNat (rd x7_1 (ji126))) := ⟨_, rfl⟩
        replace H : (if 0 ≤ (rd x7_1 (ji126)) then (if (rd x7_1 (ji126)) < (l1.length : Int) then (if ((rd_T63 l1 (rd x7_1 (ji126))).f0) = 5 then (if (rd x7_1 (ji126)) < (y229.length : Int) then (if 0 ≤ (wrap64 ((x8_1.length : Int) - 1)) then (if (wrap64 ((x8_1.length : Int) - 1)) < (x9_1.length : Int) then (impl_paired.l1 kj16 a0 l1 (y254.set ((rd x7_1 (ji126)) : Int).toNat x26_1) x7_1 x8_1 x9_1 x10_1 x26_1 (ji126) (wrap64 ((x8_1.length : Int) - 1)) l1 (l1.length : Int) x26_1 (rd_L5 x9_1 (wrap64 ((x8_1.length : Int) - 1))) ((rd_L5 x9_1 (wrap64 ((x8_1.length : Int) - 1))).length : Int) 0 x227000_1) else (none)) else (none)) else (none)) else (if mget x227000_1 (rd x7_1 (ji126)) = true then (if (rd x7_1 (ji126)) < (y229.length : Int) then (if 0 ≤ (rd y254 (rd x7_1 (ji126))) then (if (rd y254 (rd x7_1 (ji126))) < (y229.length : Int) then (if (ji126) ≤ (x7_1.length : Int) then ((some (x7_1.take ((ji126) : Int).toNat : List Int)).bind fun y275 => (if (y275.length : Int) > 4 then (some (([] : List Int), false)) else (if 0 ≤ (wrap64 ((x10_1.length : Int) - 1)) then (if (wrap64 ((x10_1.length : Int) - 1)) < (x10_1.length : Int) then (if (rd x10_1 (wrap64 ((x10_1.length : Int) - 1))) > 64 then (some (([] : List Int), false)) else (impl_paired.l0 kj16 a0 l1 (y254.set ((rd y254 (rd x7_1 (ji126))) : Int).toNat x26_1) y275 x8_1 x9_1 x10_1 l1 (l1.length : Int) (wrap64 (x26_1 + 1)) x227000_1)) else (none)) else (none)))) else (none)) else (none)) else (none)) else (none)) else (if (rd x7_1 (ji126)) < (y229.length : Int) then (if (ji126) ≤ (x7_1.length : Int) then ((some (x7_1.take ((ji126) : Int).toNat : List Int)).bind fun y280 => (if (y280.length : Int) > 4 then (some (([] : List Int), false)) else (if 0 ≤ (wrap64 ((x10_1.length : Int) - 1)) then (if (wrap64 ((x10_1.length : Int) - 1)) < (x10_1.length : Int) then (if (rd x10_1 (wrap64 ((x10_1.length : Int) - 1))) > 64 then (some (([] : List Int), false)) else (impl_paired.l0 kj16 a0 l1 (y254.set ((rd x7_1 (ji126)) : Int).toNat x26_1) y280 x8_1 x9_1 x10_1 l1 (l1.length : Int) (wrap64 (x26_1 + 1)) x227000_1)) else (none)) else (none)))) else (none)) else (none)))) else (none)) else (none)) = some (r1, r2) := by first | (rw [hy254]; with_reducible exact H) | (have H2_ := (Option.bind_some _ _).symm.trans H; rw [hy254]; with_reducible exact H2_) | (have H2_ := (Option.bind_some _ _).symm.trans H; with_reducible exact H2_) | with_reducible exact H | (rw [hy254]; exact H) | exact H
        have Ny254 := Aside0.mk hy254
        clear hy254
        replace H := zy_g H
        obtain ⟨c132, H⟩ := H
        have c132b0 : decide (0 ≤ (rd x7_1 (ji126))) = true := decide_eq_true c132
        clear c132
        replace H := zy_g H
        obtain ⟨c133, H⟩ := H
        have c133b0 : decide ((rd x7_1 (ji126)) < (l1.length : Int)) = true := decide_eq_true c133
        clear c133
        by_cases c134 : ((rd_T63 l1 (rd x7_1 (ji126))).f0) = 5
        ·rw [if_pos c134] at H
         have c134b0 : (((rd_T63 l1 (rd x7_1 (ji126))).f0) == 5) = true := beq_iff_eq.mpr c134
         have c134b1 : (((rd_T63 l1 (rd x7_1 (ji126))).f0) != 5) = false := bne_eq_false_iff_eq.mpr c134
         clear c134
         replace H := zy_g H
         obtain ⟨c135, H⟩ := H
         have c135b0 : decide ((rd x7_1 (ji126)) < (y229.length : Int)) = true := decide_eq_true c135
         clear c135
         obtain ⟨y256, hy256⟩ : ∃ y_ : List Int, y_ = (y254.set ((rd x7_1 (ji126)) : Int).toNat x26_1) := ⟨_, rfl⟩
         replace H : (if 0 ≤ (wrap64 ((x8_1.length : Int) - 1)) then (if (wrap64 ((x8_1.length : Int) - 1)) < (x9_1.length : Int) then (impl_paired.l1 kj16 a0 l1 y256 x7_1 x8_1 x9_1 x10_1 x26_1 (ji126) (wrap64 ((x8_1.length : Int) - 1)) l1 (l1.length : Int) x26_1 (rd_L5 x9_1 (wrap64 ((x8_1.length : Int) - 1))) ((rd_L5 x9_1 (wrap64 ((x8_1.length : Int) - 1))).length : Int) 0 x227000_1) else (none)) else (none)) = some (r1, r2) := by first | (rw [hy256]; with_reducible exact H) | (have H2_ := (Option.bind_some _ _).symm.trans H; rw [hy256]; with_reducible exact H2_) | (have H2_ := (Option.bind_some _ _).symm.trans H; with_reducible exact H2_) | with_reducible exact H | (rw [hy256]; exact H) | exact H
         have Ny256 := Aside0.mk hy256
         clear hy256
         obtain ⟨ji137, hji137⟩ : ∃ j_ : Int, (wrap64 ((x8_1.length : Int) - 1)) = j_ := ⟨_, rfl⟩
         replace H : (if 0 ≤ (ji137) then (if (ji137) < (x9_1.length : Int) then (impl_paired.l1 kj16 a0 l1 y256 x7_1 x8_1 x9_1 x10_1 x26_1 (ji126) ji137 l1 (l1.length : Int) x26_1 (rd_L5 x9_1 (ji137)) ((rd_L5 x9_1 (ji137)).length : Int) 0 x227000_1) else (none)) else (none)) = some (r1, r2) := by first | (rw [hji137] at H; exact H) | (simp only [hji137] at H ⊢; exact H)
         have hji137w : (IntKind.i64.wrap ((x8_1.length : Int) - 1)) = ji137 := (i64_w _).trans hji137
         replace H := zy_g H
         obtain ⟨c138, H⟩ := H
         have c138b0 : decide (0 ≤ (ji137)) = true := decide_eq_true c138
         clear c138
         replace H := zy_g H
         obtain ⟨c139, H⟩ := H
         have c139b0 : decide ((ji137) < (x9_1.length : Int)) = true := decide_eq_true c139
         clear c139
         have H' := Aside0.mk H
         clear H
         have p253 : 0 ≤ ((ji126) : Int) := xyd
         have q253 : (ji126) < (x7_1.length : Int) := xyd
         obtain ⟨ad253, e253, hx253_0⟩ := Kd.at_int (Kd.R_reads' HO_7.out).2.2 (ji126) p253 q253
         cases e253
         replace p253 := eq_true p253
         replace q253 := eq_true q253
         have p131 : 0 ≤ (x26_1 : Int) := xyd
         have q131 : (x26_1 : Int) < ((y229.length : Int) : Int) := xyd
         obtain ⟨hx131_0, hf131_0⟩ := Kd.R_celln 0 HO_6.out (x26_1 : Int) p131 q131
         replace p131 := eq_true p131
         replace q131 := eq_true q131
         have HP140 := Kd.R_putg HO_6.out (x26_1 : Int) (rd x7_1 (ji126))
         go_wp2_with (first | ((with_reducible refine gate_store (t := 2) (p := 119) rfl ?_); refine xys ((wc.setCell ⟨go14, (x26_1 : Int).toNat, none⟩ (.int .i64 (rd x7_1 (ji126))))) ?_; intro w141 hw; have hg : wc.grownBy w141 (some go14) := (by rw [hw]; exact HP140.2); have hp_ : Kd.R (Kd.int .i64) 2 w141 w.heap.size (fun k_ => some k_ ≠ (u10 : Value).ownBlock ∧ k_ ≠ gb226) (.slice (some ⟨go14, 0, none⟩) y229.length co14) y254 := (by rw [hw, Ny254.out]; exact HP140.1); clear HP140; replace HO_7 := Aside0.mk (Kd.R_over' (xyr HO_7.out) (Kd.R_typed HO_6.out) (by decide) hg); replace HO_8 := Aside0.mk (Kd.R_over' (xyr HO_8.out) (Kd.R_typed HO_6.out) (by decide) hg); replace HO_9 := Aside0.mk (Kd.S_over' wy4 (Kd.R_typed HO_6.out) (by decide) hg); replace HO_10 := Aside0.mk (Kd.R_after (v := (.slice (some ⟨go14, 0, none⟩) y229.length co14)) (v1 := (.slice (some ⟨go14, 0, none⟩) y229.length co14)) (ok := (fun k_ => k_ ≠ gb226)) wy10 hg (.inl rfl)); replace BK226 := Aside0.mk (blk_grown (g := gb226) (o := mobj x227000_1) (xyb BK226.out) hg (Kd.R_away HO_6.out (fun _ hk => hk.2))); replace BK228 := Aside0.mk (blk_grown (g := gb228) (o := .cells #[.int .i64 ((rd_T63 l1 x26_1).f0), .int .i64 ((rd_T63 l1 x26_1).f1), .int .i64 ((rd_T63 l1 x26_1).f2), .int .i64 ((rd_T63 l1 x26_1).f3), .int .i64 ((rd_T63 l1 x26_1).f4)] 63 (0, 0)) (xyb BK228.out) hg (Kd.R_ne HO_6.out BK228.out (by decide))); replace HO_6 := Aside0.mk (hp_); replace HB := Aside0.mk ((by rw [hw]; exact below_set (HB.out) GB14.out : Below w.heap.size w w141)); clear hg hw hp_; have p255 : 0 ≤ ((rd x7_1 (ji126)) : Int) := xyd; have q255 : (rd x7_1 (ji126)) < (l1.length : Int) := xyd; obtain ⟨ad255, e255, hx255_0, hx255_1, hx255_2, hx255_3, hx255_4⟩ := at_T63 HR1.out (rd x7_1 (ji126)) p255 q255; obtain rfl : ad227 = ad255 := (by injection e255); replace hx255_0 := xyh HB.out hx255_0; replace hx255_1 := xyh HB.out hx255_1; replace hx255_2 := xyh HB.out hx255_2; replace hx255_3 := xyh HB.out hx255_3; replace hx255_4 := xyh HB.out hx255_4; replace p255 := eq_true p255; replace q255 := eq_true q255; have p136 : 0 ≤ ((rd x7_1 (ji126)) : Int) := xyd; have q136 : ((rd x7_1 (ji126)) : Int) < ((y229.length : Int) : Int) := xyd; obtain ⟨hx136_0, hf136_0⟩ := Kd.R_celln 0 HO_6.out ((rd x7_1 (ji126)) : Int) p136 q136; replace p136 := eq_true p136; replace q136 := eq_true q136; obtain ⟨hy142_, hz142_⟩ := Kd.R_celln 0 HO_6.out ((rd x7_1 (ji126)) : Int) xyd xyd; have HP142 := Kd.R_putg HO_6.out ((rd x7_1 (ji126)) : Int) x26_1) | ((with_reducible refine gate_store (t := 2) (p := 134) rfl ?_); refine xys ((w141.setCell ⟨go14, ((rd x7_1 (ji126)) : Int).toNat, none⟩ (.int .i64 x26_1))) ?_; intro w143 hw; have hg : w141.grownBy w143 (some go14) := (by rw [hw]; exact HP142.2); have hp_ : Kd.R (Kd.int .i64) 2 w143 w.heap.size (fun k_ => some k_ ≠ (u10 : Value).ownBlock ∧ k_ ≠ gb226) (.slice (some ⟨go14, 0, none⟩) y229.length co14) y256 := (by rw [hw, Ny256.out]; exact HP142.1); clear HP142; replace HO_7 := Aside0.mk (Kd.R_over' (xyr HO_7.out) (Kd.R_typed HO_6.out) (by decide) hg); replace HO_8 := Aside0.mk (Kd.R_over' (xyr HO_8.out) (Kd.R_typed HO_6.out) (by decide) hg); replace HO_9 := Aside0.mk (Kd.S_over' wy4 (Kd.R_typed HO_6.out) (by decide) hg); replace HO_10 := Aside0.mk (Kd.R_after (v := (.slice (some ⟨go14, 0, none⟩) y229.length co14)) (v1 := (.slice (some ⟨go14, 0, none⟩) y229.length co14)) (ok := (fun k_ => k_ ≠ gb226)) (xyr HO_10.out) hg (.inl rfl)); replace BK226 := Aside0.mk (blk_grown (g := gb226) (o := mobj x227000_1) (xyb BK226.out) hg (Kd.R_away HO_6.out (fun _ hk => hk.2))); replace BK228 := Aside0.mk (blk_grown (g := gb228) (o := .cells #[.int .i64 ((rd_T63 l1 x26_1).f0), .int .i64 ((rd_T63 l1 x26_1).f1), .int .i64 ((rd_T63 l1 x26_1).f2), .int .i64 ((rd_T63 l1 x26_1).f3), .int .i64 ((rd_T63 l1 x26_1).f4)] 63 (0, 0)) (xyb BK228.out) hg (Kd.R_ne HO_6.out BK228.out (by decide))); replace HO_6 := Aside0.mk (hp_); replace HB := Aside0.mk ((by rw [hw]; exact below_set (HB.out) GB14.out : Below w.heap.size w w143)); clear hg hw hp_; obtain ⟨Ao144, co144, eo144⟩ := Kd.R_slice HO_8.out; subst eo144; obtain ⟨Ao145, co145, eo145⟩ := Kd.S_slice HO_9.out; subst eo145; have p257 : 0 ≤ ((ji137) : Int) := xyd; have q257 : (ji137) < (x9_1.length : Int) := xyd; obtain ⟨ad257, A257_0, c257_0, e257, hx257_0, hl257_0, hi257_0⟩ := at_L5 (Kd.S_reads' HO_9.out).2.2 (ji137) p257 q257; cases e257; obtain ⟨ce257, hce257, hMe257, hcc257⟩ := Kd.S_get HO_9.out [] (ji137) p257 (by first | exact q257 | exact xyd | (have e_ := (Kd.S_reads' HO_9.out).1; omega)); obtain ⟨ve257_0, rfl, ge257_0⟩ := hMe257; have hv257_0 := hcc257 0 _ rfl; rw [Nat.add_zero, show ((Kd.slice 3 (Kd.int .i64))).sz = 1 from rfl, Nat.mul_one] at hv257_0; replace hv257_0 := Option.some.inj (hv257_0.symm.trans hx257_0); rw [hv257_0] at ge257_0; have HL257_0 := Aside0.mk (show Kd.R (Kd.int .i64) 3 _ _ _ _ (rd_L5 x9_1 (ji137)) from ge257_0); clear hv257_0 ge257_0; have HX257_0 := Aside0.mk hx257_0; clear hcc257 hce257; have HR257_0 := Aside0.mk hi257_0; have HC257_0 := Aside0.mk hl257_0; clear hi257_0 hl257_0; replace p257 := eq_true p257; replace q257 := eq_true q257))
         go_loopg [143] kj16 (fun kq v143 w' => ∃ (x6_3 : List Int) (x143_3 : Int), v143 = .int .i64 x143_3 ∧ Aside0 (impl_paired.l1 kq a0 l1 x6_3 x7_1 x8_1 x9_1 x10_1 x26_1 (ji126) ji137 l1 (l1.length : Int) x26_1 (rd_L5 x9_1 (ji137)) ((rd_L5 x9_1 (ji137)).length : Int) x143_3 x227000_1 = some (r1, r2)) ∧ Aside0 (kq ≤ kj16) ∧ Aside0 (Kd.R (Kd.int .i64) 2 w' w.heap.size (fun k_ => some k_ ≠ (u10 : Value).ownBlock ∧ k_ ≠ gb226) (.slice (some ⟨go14, 0, none⟩) y229.length co14) x6_3) ∧ Aside0 (Kd.R (Kd.int .i64) 3 w' w.heap.size (fun k_ => some k_ ≠ ((.slice Ao144 x8_1.length co144) : Value).ownBlock ∧ k_ ≠ gb226) (.slice (some ad253) x7_1.length co26) x7_1) ∧ Aside0 (Kd.R (Kd.int .i64) 3 w' w.heap.size (fun k_ => some k_ ≠ ((.slice (some ad253) x7_1.length co26) : Value).ownBlock ∧ k_ ≠ gb226) (.slice Ao144 x8_1.length co144) x8_1) ∧ Aside0 (Kd.S (Kd.slice 3 (Kd.int .i64)) 101 w' w.heap.size (fun k_ => some k_ ≠ ((.slice (some ad253) x7_1.length co26) : Value).ownBlock ∧ some k_ ≠ ((.slice Ao144 x8_1.length co144) : Value).ownBlock ∧ k_ ≠ gb226) (.slice (some ad257) x9_1.length co145) x9_1) ∧ Aside0 (Kd.R (Kd.int .i64) 2 w' w.heap.size (fun k_ => some k_ ≠ ((.slice (some ⟨go14, 0, none⟩) y229.length co14) : Value).ownBlock ∧ k_ ≠ gb226) u10 x10_1) ∧ Aside0 (w'.heap[gb226]? = some (mobj x227000_1)) ∧ Aside0 (w'.heap[gb228]? = some (.cells #[.int .i64 ((rd_T63 l1 x26_1).f0), .int .i64 ((rd_T63 l1 x26_1).f1), .int .i64 ((rd_T63 l1 x26_1).f2), .int .i64 ((rd_T63 l1 x26_1).f3), .int .i64 ((rd_T63 l1 x26_1).f4)] 63 (0, 0))) ∧ Aside0 (Below w.heap.size w w') ∧ Aside0 (Kd.R (Kd.int .i64) 3 w' w.heap.size (fun _ => True) (.slice A257_0 (rd_L5 x9_1 (ji137)).length c257_0) (rd_L5 x9_1 (ji137))))
         case atStart => exact ⟨(y256), (0), wy5, H', ⟨Nat.le_refl _⟩, ⟨wy18⟩, ⟨wy26⟩, ⟨wy22⟩, ⟨wy21⟩, ⟨wy34⟩, ⟨wy14⟩, ⟨wy36⟩, ⟨wy1⟩, ⟨Kd.R_mono HL257_0.out (fun _ _ => trivial)⟩⟩
         case round =>
          clear H'
          try clear c1
          try clear p1
          try clear q1
          try clear hx1
          try clear c2
          try clear p2
          try clear q2
          try clear hx2
          try clear c3
          try clear c4
          try clear c5
          try clear c6
          try clear p6
          try clear c7
          try clear c8
          try clear c9
          try clear c10
          try clear p10
          try clear q10
          try clear hx10
          try clear hf10
          try clear c11
          try clear c12
          try clear c13
          try clear p13
          try clear q13
          try clear hx13
          try clear hf13
          try clear p24
          try clear q24
          try clear hx24
          try clear c25
          try clear p25
          try clear q25
          try clear hx25
          try clear c29
          try clear c30
          try clear c31
          try clear c31b0
          try clear c31b1
          try clear c32
          try clear c33
          try clear c35
          try clear c36
          try clear c37
          try clear c49
          try clear c49b0
          try clear c50
          try clear c50b0
          try clear c51
          try clear c51b0
          try clear c53
          try clear c63
          try clear p64
          try clear c72
          try clear c72b0
          try clear c72b1
          try clear c74
          try clear c78
          try clear c78b0
          try clear c79
          try clear c79b0
          try clear c80
          try clear c80b0
          try clear c82
          try clear c87
          try clear c91
          try clear c91b0
          try clear c91b1
          try clear c93
          try clear c93b0
          try clear c95
          try clear c95b0
          try clear c96
          try clear c96b0
          try clear c97
          try clear c97b0
          try clear c98
          try clear c98b0
          try clear c99
          try clear c99b0
          try clear c99b1
          try clear c101
          try clear c103
          try clear c103b0
          try clear c104
          try clear c104b0
          try clear c105
          try clear c105b0
          try clear c106
          try clear c106b0
          try clear p107
          try clear q107
          try clear hx107
          try clear hf107
          try clear c108
          try clear c108b0
          try clear c108b1
          try clear c113
          try clear c113b0
          try clear c114
          try clear c114b0
          try clear c115
          try clear c115b0
          try clear c124
          try clear c124b0
          try clear c124b1
          try clear c125
          try clear c125b0
          try clear c127
          try clear c127b0
          try clear c128
          try clear c128b0
          try clear c129
          try clear c129b0
          try clear c130
          try clear c130b0
          try clear p131
          try clear q131
          try clear hx131
          try clear hf131
          try clear c132
          try clear c132b0
          try clear c133
          try clear c133b0
          try clear c134
          try clear c134b0
          try clear c134b1
          try clear c135
          try clear c135b0
          try clear p136
          try clear q136
          try clear hx136
          try clear hf136
          try clear c138
          try clear c138b0
          try clear c139
          try clear c139b0
          try clear hcz54_0
          try clear hcz54_1
          try clear hcz54_2
          try clear hcz54_3
          try clear hcz54_4
          try clear hcz64_0
          try clear hcz64_1
          try clear hcz64_2
          try clear hcz64_3
          try clear hcz64_4
          try clear hcz75_0
          try clear hcz75_1
          try clear hcz75_2
          try clear hcz75_3
          try clear hcz75_4
          try clear hcz83_0
          try clear hcz83_1
          try clear hcz83_2
          try clear hcz83_3
          try clear hcz83_4
          try clear hcz88_0
          try clear hcz88_1
          try clear hcz88_2
          try clear hcz88_3
          try clear hcz88_4
          try clear hfz54_0
          try clear hfz54_1
          try clear hfz54_2
          try clear hfz54_3
          try clear hfz54_4
          try clear hfz64_0
          try clear hfz64_1
          try clear hfz64_2
          try clear hfz64_3
          try clear hfz64_4
          try clear hfz75_0
          try clear hfz75_1
          try clear hfz75_2
          try clear hfz75_3
          try clear hfz75_4
          try clear hfz83_0
          try clear hfz83_1
          try clear hfz83_2
          try clear hfz83_3
          try clear hfz83_4
          try clear hfz88_0
          try clear hfz88_1
          try clear hfz88_2
          try clear hfz88_3
          try clear hfz88_4
          try clear hx107_0
          try clear hx131_0
          try clear hx136_0
          try clear hx240_0
          try clear hx244_0
          try clear hx245_0
          try clear hx246_0
          try clear hx247_0
          try clear hx247_1
          try clear hx247_2
          try clear hx247_3
          try clear hx247_4
          try clear hx248_0
          try clear hx249_0
          try clear hx250_0
          try clear hx252_0
          try clear hx253_0
          try clear hx255_0
          try clear hx255_1
          try clear hx255_2
          try clear hx255_3
          try clear hx255_4
          try clear hx257_0
          try clear p107
          try clear p131
          try clear p136
          try clear p2
          try clear p24
          try clear p240
          try clear p244
          try clear p245
          try clear p246
          try clear p247
          try clear p248
          try clear p249
          try clear p250
          try clear p252
          try clear p253
          try clear p255
          try clear p257
          try clear p6
          try clear p64
          try clear q107
          try clear q131
          try clear q136
          try clear q2
          try clear q24
          try clear q240
          try clear q244
          try clear q245
          try clear q246
          try clear q247
          try clear q248
          try clear q249
          try clear q250
          try clear q252
          try clear q253
          try clear q255
          try clear q257
          obtain ⟨x6_3, x143_3, rfl, HA, HK3, HO_6, HO_7, HO_8, HO_9, HO_10, BK226, BK228, HB, HL257⟩ := hrel
          have hl6_3 := (Kd.R_reads' HO_6.out).1
          rw [hl6_3] at HO_6
          (try simp only [hl6_3])
          (try simp only [hl6_3] at BK226)
          (try simp only [hl6_3] at BK228)
          (try simp only [hl6_3] at HO_7)
          (try simp only [hl6_3] at HO_8)
          (try simp only [hl6_3] at HO_9)
          (try simp only [hl6_3] at HO_10)
          cases gk with
          | zero => exact absurd HA.out (by simp [impl_paired.l1])
          | succ k3 =>
           have H := HA.out
           clear HA
           simp only [impl_paired.l1] at H
           by_cases c146 : x143_3 < ((rd_L5 x9_1 (ji137)).length : Int)
           ·rw [if_pos c146] at H
            have c146b0 : decide (x143_3 < ((rd_L5 x9_1 (ji137)).length : Int)) = true := decide_eq_true c146
            clear c146
            replace H := zy_g H
            obtain ⟨c147, H⟩ := H
            have c147b0 : decide (0 ≤ x143_3) = true := decide_eq_true c147
            clear c147
            replace H := zy_g H
            obtain ⟨c148, H⟩ := H
            have c148b0 : decide (x143_3 < ((rd_L5 x9_1 (ji137)).length : Int)) = true := decide_eq_true c148
            clear c148
            replace H := zy_g H
            obtain ⟨c149, H⟩ := H
            have c149b0 : decide (0 ≤ (rd (rd_L5 x9_1 (ji137)) x143_3)) = true := decide_eq_true c149
            clear c149
            replace H := zy_g H
            obtain ⟨c150, H⟩ := H
            have c150b0 : decide ((rd (rd_L5 x9_1 (ji137)) x143_3) < (x6_3.length : Int)) = true := decide_eq_true c150
            clear c150
            obtain ⟨y259, hy259⟩ : ∃ y_ : List Int, y_ = (x6_3.set ((rd (rd_L5 x9_1 (ji137)) x143_3) : Int).toNat x26_1) := ⟨_, rfl⟩
            replace H : (impl_paired.l1 k3 a0 l1 y259 x7_1 x8_1 x9_1 x10_1 x26_1 (ji126) ji137 l1 (l1.length : Int) x26_1 (rd_L5 x9_1 (ji137)) ((rd_L5 x9_1 (ji137)).length : Int) (wrap64 (x143_3 + 1)) x227000_1) = some (r1, r2) := by first | (rw [hy259]; with_reducible exact H) | (have H2_ := (Option.bind_some _ _).symm.trans H; rw [hy259]; with_reducible exact H2_) | (have H2_ := (Option.bind_some _ _).symm.trans H; with_reducible exact H2_) | with_reducible exact H | (rw [hy259]; exact H) | exact H
            have Ny259 := Aside0.mk hy259
            clear hy259
            have H' := Aside0.mk H
            clear H
            have p258 : 0 ≤ (x143_3 : Int) := xyd
            have q258 : x143_3 < ((rd_L5 x9_1 (ji137)).length : Int) := xyd
            obtain ⟨ad258, e258, hx258_0⟩ := Kd.at_int (Kd.R_reads' HL257.out).2.2 x143_3 p258 q258
            cases e258
            replace p258 := eq_true p258
            replace q258 := eq_true q258
            have p151 : 0 ≤ ((rd (rd_L5 x9_1 (ji137)) x143_3) : Int) := xyd
            have q151 : ((rd (rd_L5 x9_1 (ji137)) x143_3) : Int) < ((x6_3.length : Int) : Int) := xyd
            obtain ⟨hx151_0, hf151_0⟩ := Kd.R_celln 0 HO_6.out ((rd (rd_L5 x9_1 (ji137)) x143_3) : Int) p151 q151
            replace p151 := eq_true p151
            replace q151 := eq_true q151
            have HP152 := Kd.R_putg HO_6.out ((rd (rd_L5 x9_1 (ji137)) x143_3) : Int) x26_1
            go_wp2_with (first | ((with_reducible refine gate_store (t := 2) (p := 150) rfl ?_); refine xys ((wr.setCell ⟨go14, ((rd (rd_L5 x9_1 (ji137)) x143_3) : Int).toNat, none⟩ (.int .i64 x26_1))) ?_; intro w153 hw; have hg : wr.grownBy w153 (some go14) := (by rw [hw]; exact HP152.2); have hp_ : Kd.R (Kd.int .i64) 2 w153 w.heap.size (fun k_ => some k_ ≠ (u10 : Value).ownBlock ∧ k_ ≠ gb226) (.slice (some ⟨go14, 0, none⟩) x6_3.length co14) y259 := (by rw [hw, Ny259.out]; exact HP152.1); clear HP152; replace HO_7 := Aside0.mk (Kd.R_over' (xyr HO_7.out) (Kd.R_typed HO_6.out) (by decide) hg); replace HO_8 := Aside0.mk (Kd.R_over' (xyr HO_8.out) (Kd.R_typed HO_6.out) (by decide) hg); replace HO_9 := Aside0.mk (Kd.S_over' wy4 (Kd.R_typed HO_6.out) (by decide) hg); replace HO_10 := Aside0.mk (Kd.R_after (v := (.slice (some ⟨go14, 0, none⟩) x6_3.length co14)) (v1 := (.slice (some ⟨go14, 0, none⟩) x6_3.length co14)) (ok := (fun k_ => k_ ≠ gb226)) wy10 hg (.inl rfl)); replace BK226 := Aside0.mk (blk_grown (g := gb226) (o := mobj x227000_1) (xyb BK226.out) hg (Kd.R_away HO_6.out (fun _ hk => hk.2))); replace BK228 := Aside0.mk (blk_grown (g := gb228) (o := .cells #[.int .i64 ((rd_T63 l1 x26_1).f0), .int .i64 ((rd_T63 l1 x26_1).f1), .int .i64 ((rd_T63 l1 x26_1).f2), .int .i64 ((rd_T63 l1 x26_1).f3), .int .i64 ((rd_T63 l1 x26_1).f4)] 63 (0, 0)) (xyb BK228.out) hg (Kd.R_ne HO_6.out BK228.out (by decide))); replace HL257 := Aside0.mk (Kd.R_over' (xyr HL257.out) (Kd.R_typed HO_6.out) (by decide) hg); replace HO_6 := Aside0.mk (hp_); replace HB := Aside0.mk ((by rw [hw]; exact below_set (HB.out) GB14.out : Below w.heap.size w w153)); clear hg hw hp_))
            (try simp only [← hl6_3])
            go_roundg k3
            case measure => have := HK1.out; have := HJ16.out; have := HK3.out; omega
            case rel => exact ⟨(y259), (wrap64 (x143_3 + 1)), wy5, H', ⟨(by have := HK1.out; have := HJ16.out; have := HK3.out; omega)⟩, ⟨(by (try simp only [hl6_16]); (try simp only [hl6_3]); (with_reducible repeat (first | apply Kd.R_alloc | apply Kd.R_drewN | apply Kd.R_drew)); exact HO_6.out)⟩, ⟨(by (try simp only [hl6_16]); (try simp only [hl6_3]); (with_reducible repeat (first | apply Kd.R_alloc | apply Kd.R_drewN | apply Kd.R_drew)); exact HO_7.out)⟩, ⟨(by (try simp only [hl6_16]); (try simp only [hl6_3]); (with_reducible repeat (first | apply Kd.R_alloc | apply Kd.R_drewN | apply Kd.R_drew)); exact HO_8.out)⟩, ⟨(by (try simp only [hl6_16]); (try simp only [hl6_3]); (with_reducible repeat (first | apply Kd.S_alloc | apply Kd.S_drewN | apply Kd.S_drew)); exact HO_9.out)⟩, ⟨(by (try simp only [hl6_16]); (try simp only [hl6_3]); (with_reducible repeat (first | apply Kd.R_alloc | apply Kd.R_drewN | apply Kd.R_drew)); exact Kd.R_mono HO_10.out (fun _ hk => ⟨hk.2, hk.1⟩))⟩, ⟨(by (try simp only [hl6_16]); (try simp only [hl6_3]); (with_reducible repeat (first | refine blk_drewN ?_ _ | refine blk_drew ?_ | refine blk_alloc ?_ _)); exact BK226.out)⟩, ⟨(by (try simp only [hl6_16]); (try simp only [hl6_3]); (with_reducible repeat (first | refine blk_drewN ?_ _ | refine blk_drew ?_ | refine blk_alloc ?_ _)); exact BK228.out)⟩, ⟨wy1⟩, ⟨HL257.out⟩⟩
           rw [if_neg c146] at H
           have c146b0 : decide (x143_3 < ((rd_L5 x9_1 (ji137)).length : Int)) = false := decide_eq_false c146
           clear c146
           replace H := zy_g H
           obtain ⟨c154, H⟩ := H
           have c154b0 := eq_true c154
           have c154b1 : decide (0 ≤ ji137) = true := decide_eq_true c154
           clear c154
           replace H := zy_g H
           obtain ⟨c155, H⟩ := H
           have c155b0 := eq_true c155
           have c155b1 : decide (ji137 ≤ (x8_1.length : Int)) = true := decide_eq_true c155
           clear c155
           obtain ⟨y260, hy260⟩ : ∃ y_ : List Int, y_ = (x8_1.take (ji137 : Int).toNat) := ⟨_, rfl⟩
           replace H : (if ji137 ≤ (x9_1.length : Int) then (if 0 ≤ (wrap64 ((x10_1.length : Int) - 1)) then (if (wrap64 ((x10_1.length : Int) - 1)) ≤ (x10_1.length : Int) then ((some (x10_1.take ((wrap64 ((x10_1.length : Int) - 1)) : Int).toNat : List Int)).bind fun y266 => (if 0 ≤ (ji126) then (if (ji126) ≤ (x7_1.length : Int) then ((some (x7_1.take ((ji126) : Int).toNat : List Int)).bind fun y269 => (if (y269.length : Int) > 4 then (some (([] : List Int), false)) else (if 0 ≤ (wrap64 ((y266.length : Int) - 1)) then (if (wrap64 ((y266.length : Int) - 1)) < (y266.length : Int) then (if (rd y266 (wrap64 ((y266.length : Int) - 1))) > 64 then (some (([] : List Int), false)) else (impl_paired.l0 k3 a0 l1 x6_3 y269 y260 (x9_1.take (ji137 : Int).toNat) y266 l1 (l1.length : Int) (wrap64 (x26_1 + 1)) x227000_1)) else (none)) else (none)))) else (none)) else (none))) else (none)) else (none)) else (none)) = some (r1, r2) := by first | (rw [hy260]; with_reducible exact H) | (have H2_ := (Option.bind_some _ _).symm.trans H; rw [hy260]; with_reducible exact H2_) | (have H2_ := (Option.bind_some _ _).symm.trans H; with_reducible exact H2_) | with_reducible exact H | (rw [hy260]; exact H) | exact H
           have Ny260 := Aside0.mk hy260
           clear hy260
           replace H := zy_g H
           obtain ⟨c156, H⟩ := H
           have c156b0 := eq_true c156
           have c156b1 : decide (ji137 ≤ (x9_1.length : Int)) = true := decide_eq_true c156
           clear c156
           obtain ⟨y263, hy263⟩ : ∃ y_ : List (List Int), y_ = (x9_1.take (ji137 : Int).toNat) := ⟨_, rfl⟩
           replace H : (if 0 ≤ (wrap64 ((x10_1.length : Int) - 1)) then (if (wrap64 ((x10_1.length : Int) - 1)) ≤ (x10_1.length : Int) then ((some (x10_1.take ((wrap64 ((x10_1.length : Int) - 1)) : Int).toNat : List Int)).bind fun y266 => (if 0 ≤ (ji126) then (if (ji126) ≤ (x7_1.length : Int) then ((some (x7_1.take ((ji126) : Int).toNat : List Int)).bind fun y269 => (if (y269.length : Int) > 4 then (some (([] : List Int), false)) else (if 0 ≤ (wrap64 ((y266.length : Int) - 1)) then (if (wrap64 ((y266.length : Int) - 1)) < (y266.length : Int) then (if (rd y266 (wrap64 ((y266.length : Int) - 1))) > 64 then (some (([] : List Int), false)) else (impl_paired.l0 k3 a0 l1 x6_3 y269 y260 y263 y266 l1 (l1.length : Int) (wrap64 (x26_1 + 1)) x227000_1)) else (none)) else (none)))) else (none)) else (none))) else (none)) else (none)) = some (r1, r2) := by first | (rw [hy263]; with_reducible exact H) | (have H2_ := (Option.bind_some _ _).symm.trans H; rw [hy263]; with_reducible exact H2_) | (have H2_ := (Option.bind_some _ _).symm.trans H; with_reducible exact H2_) | with_reducible exact H | (rw [hy263]; exact H) | exact H
           have Ny263 := Aside0.mk hy263
           clear hy263
           (try clear hji34w)
           (try clear hji34)
           (try clear hji77w)
           (try clear hji77)
           (try clear hji112w)
           (try clear hji112)
           obtain ⟨ji157, hji157⟩ : ∃ j_ : Int, (wrap64 ((x10_1.length : Int) - 1)) = j_ := ⟨_, rfl⟩
           replace H : (if 0 ≤ (ji157) then (if (ji157) ≤ (x10_1.length : Int) then ((some (x10_1.take ((ji157) : Int).toNat : List Int)).bind fun y266 => (if 0 ≤ (ji126) then (if (ji126) ≤ (x7_1.length : Int) then ((some (x7_1.take ((ji126) : Int).toNat : List Int)).bind fun y269 => (if (y269.length : Int) > 4 then (some (([] : List Int), false)) else (if 0 ≤ (wrap64 ((y266.length : Int) - 1)) then (if (wrap64 ((y266.length : Int) - 1)) < (y266.length : Int) then (if (rd y266 (wrap64 ((y266.length : Int) - 1))) > 64 then (some (([] : List Int), false)) else (impl_paired.l0 k3 a0 l1 x6_3 y269 y260 y263 y266 l1 (l1.length : Int) (wrap64 (x26_1 + 1)) x227000_1)) else (none)) else (none)))) else (none)) else (none))) else (none)) else (none)) = some (r1, r2) := by first | (rw [hji157] at H; exact H) | (simp only [hji157] at H ⊢; exact H)
           have hji157w : (IntKind.i64.wrap ((x10_1.length : Int) - 1)) = ji157 := (i64_w _).trans hji157
           replace H := zy_g H
           obtain ⟨c158, H⟩ := H
           have c158b0 := eq_true c158
           have c158b1 : decide (0 ≤ (ji157)) = true := decide_eq_true c158
           clear c158
           replace H := zy_g H
           obtain ⟨c159, H⟩ := H
           have c159b0 := eq_true c159
           have c159b1 : decide ((ji157) ≤ (x10_1.length : Int)) = true := decide_eq_true c159
           clear c159
           obtain ⟨y266, hy266⟩ : ∃ y_ : List Int, y_ = (x10_1.take ((ji157) : Int).toNat) := ⟨_, rfl⟩
           replace H : (if 0 ≤ (ji126) then (if (ji126) ≤ (x7_1.length : Int) then ((some (x7_1.take ((ji126) : Int).toNat : List Int)).bind fun y269 => (if (y269.length : Int) > 4 then (some (([] : List Int), false)) else (if 0 ≤ (wrap64 ((y266.length : Int) - 1)) then (if (wrap64 ((y266.length : Int) - 1)) < (y266.length : Int) then (if (rd y266 (wrap64 ((y266.length : Int) - 1))) > 64 then (some (([] : List Int), false)) else (impl_paired.l0 k3 a0 l1 x6_3 y269 y260 y263 y266 l1 (l1.length : Int) (wrap64 (x26_1 + 1)) x227000_1)) else (none)) else (none)))) else (none)) else (none)) = some (r1, r2) := by first | (rw [hy266]; with_reducible exact H) | (have H2_ := (Option.bind_some _ _).symm.trans H; rw [hy266]; with_reducible exact H2_) | (have H2_ := (Option.bind_some _ _).symm.trans H; with_reducible exact H2_) | with_reducible exact H | (rw [hy266]; exact H) | exact H
           have Ny266 := Aside0.mk hy266
           clear hy266
           replace H := zy_g H
           obtain ⟨c160, H⟩ := H
           have c160b0 := eq_true c160
           have c160b1 : decide (0 ≤ (ji126)) = true := decide_eq_true c160
           clear c160
           replace H := zy_g H
           obtain ⟨c161, H⟩ := H
           have c161b0 := eq_true c161
           have c161b1 : decide ((ji126) ≤ (x7_1.length : Int)) = true := decide_eq_true c161
           clear c161
           obtain ⟨y269, hy269⟩ : ∃ y_ : List Int, y_ = (x7_1.take ((ji126) : Int).toNat) := ⟨_, rfl⟩
           replace H : (if (y269.length : Int) > 4 then (some (([] : List Int), false)) else (if 0 ≤ (wrap64 ((y266.length : Int) - 1)) then (if (wrap64 ((y266.length : Int) - 1)) < (y266.length : Int) then (if (rd y266 (wrap64 ((y266.length : Int) - 1))) > 64 then (some (([] : List Int), false)) else (impl_paired.l0 k3 a0 l1 x6_3 y269 y260 y263 y266 l1 (l1.length : Int) (wrap64 (x26_1 + 1)) x227000_1)) else (none)) else (none))) = some (r1, r2) := by first | (rw [hy269]; with_reducible exact H) | (have H2_ := (Option.bind_some _ _).symm.trans H; rw [hy269]; with_reducible exact H2_) | (have H2_ := (Option.bind_some _ _).symm.trans H; with_reducible exact H2_) | with_reducible exact H | (rw [hy269]; exact H) | exact H
           have Ny269 := Aside0.mk hy269
           clear hy269
           by_cases c162 : (y269.length : Int) > 4
           ·rw [if_pos c162] at H
            have c162b0 : decide (4 < (y269.length : Int)) = true := decide_eq_true c162
            have c162b1 : decide (4 < y269.length) = true := decide_eq_true (by omega)
            clear c162
            simp only [Option.some.injEq, Prod.mk.injEq] at H
            obtain ⟨rfl, rfl⟩ := H
            try go_wp2
            replace HO_6 := Aside0.mk (Kd.R_drew HO_6.out)
            replace HO_7 := Aside0.mk (Kd.R_drew HO_7.out)
            replace HO_8 := Aside0.mk (Kd.R_drew HO_8.out)
            replace HO_9 := Aside0.mk (Kd.S_drew HO_9.out)
            replace HO_10 := Aside0.mk (Kd.R_drew HO_10.out)
            replace BK226 := Aside0.mk (blk_drew BK226.out)
            replace BK228 := Aside0.mk (blk_drew BK228.out)
            replace HB := Aside0.mk (below_drew1 HB.out)
            have q164 : (ji137 : Int) ≤ ((x8_1.length : Int) : Int) := xyd
            obtain ⟨i0164, hi0164, _, hsz164, _⟩ := info_parts info3
            have hcut164 := cut_to (P := Try.prog) 101 3 .i64 Try.underlying101 hi0164 Ao144 x8_1.length co144 ji137 xyd q164 (Kd.R_reads' HO_8.out).2.1
            have hr164 := Kd.R_take (m := (ji137 : Int).toNat) HO_8.out (by omega)
            have hy164 : y260.length = (ji137 : Int).toNat := (by rw [Ny260.out, List.length_take]; omega)
            rw [← Ny260.out] at hr164
            rw [← hy164] at hr164 hcut164
            clear hy164 hi0164 hsz164 HO_8
            have HO262 := Aside0.mk hr164
            clear hr164
            replace q164 := eq_true q164
            have q165 : (ji137 : Int) ≤ ((x9_1.length : Int) : Int) := xyd
            obtain ⟨i0165, hi0165, _, hsz165, _⟩ := info_parts info101
            have hcut165 := cut_to (P := Try.prog) 102 101 .i64 Try.underlying102 hi0165 (some ad257) x9_1.length co145 ji137 xyd q165 (Kd.S_reads' HO_9.out).2.1
            have hr165 := Kd.S_take (m := (ji137 : Int).toNat) HO_9.out (by omega)
            have hy165 : y263.length = (ji137 : Int).toNat := (by rw [Ny263.out, List.length_take]; omega)
            rw [← Ny263.out] at hr165
            rw [← hy165] at hr165 hcut165
            clear hy165 hi0165 hsz165 HO_9
            have HO265 := Aside0.mk hr165
            clear hr165
            replace q165 := eq_true q165
            obtain ⟨Ao166, co166, eo166⟩ := Kd.R_slice HO_10.out
            (first | subst eo166 | (injection eo166 with f1_ f2_ f3_; have f4_ := f1_.symm; have f5_ := f3_.symm; clear f1_ f2_ f3_; subst f4_; subst f5_))
            have q167 : ((ji157) : Int) ≤ ((x10_1.length : Int) : Int) := xyd
            obtain ⟨i0167, hi0167, _, hsz167, _⟩ := info_parts info2
            have hcut167 := cut_to (P := Try.prog) 29 2 .i64 Try.underlying29 hi0167 Ao166 x10_1.length co166 (ji157) xyd q167 (Kd.R_reads' HO_10.out).2.1
            have hr167 := Kd.R_take (m := ((ji157) : Int).toNat) HO_10.out (by omega)
            have hy167 : y266.length = ((ji157) : Int).toNat := (by rw [Ny266.out, List.length_take]; omega)
            rw [← Ny266.out] at hr167
            rw [← hy167] at hr167 hcut167
            clear hy167 hi0167 hsz167 HO_10
            have HO268 := Aside0.mk hr167
            clear hr167
            replace q167 := eq_true q167
            refine start_ (n := 14) (S := fun w' => True) (ds := []) (zy_.bm 14 0) (by kernel_rfl) rfl rfl trivial (fun hHeld => ?_); refine with_tabW impl_paired.tab39 impl_paired.bits39 (fun HT_ HW_ => ?_)
            generalize wr.drew = w163 at HO_6 HO_7 HO_8 HO_9 HO_10 BK226 BK228 HB HO262 HO265 HO268 hHeld ⊢
            refine zy_.pa (i := 0) (N := some 152) (zy_.bm 14 1) HT_.out ?_
            refine zy_.pa (i := 1) (N := some 153) (zy_.bm 14 3) HT_.out ?_
            refine zy_.pa (i := 2) (N := some 154) (zy_.bm 14 7) HT_.out ?_
            refine zy_.pa (i := 3) (N := some 155) (zy_.bm 14 15) HT_.out ?_
            refine zy_.pa (i := 4) (N := some 156) (zy_.bm 14 31) HT_.out ?_
            refine zy_.pa (i := 5) (N := some 157) (zy_.bm 14 63) HT_.out ?_
            refine zy_.pa (i := 6) (N := some 158) (zy_.bm 14 127) HT_.out ?_
            refine zy_.pa (i := 7) (N := some 159) (zy_.bm 14 255) HT_.out ?_
            refine zy_.pa (i := 8) (N := some 160) (zy_.bm 14 511) HT_.out ?_
            refine zy_.pa (i := 9) (N := some 161) (zy_.bm 14 1023) HT_.out ?_
            refine zy_.pa (i := 10) (N := some 162) (zy_.bm 14 2047) HT_.out ?_
            refine zy_.pa (i := 11) (N := some 8) (zy_.bm 14 4095) HT_.out ?_
            refine zy_.pa (i := 12) (N := some 9) (zy_.bm 14 8191) HT_.out ?_
            refine zy_.pa (i := 13) (N := some 10) (zy_.bm 14 16383) HT_.out ?_
            refine done_ (done_of HT_.out (by kernel_rfl)) ?_
            have q168 : ((ji126) : Int) ≤ ((x7_1.length : Int) : Int) := xyd
            obtain ⟨i0168, hi0168, _, hsz168, _⟩ := info_parts info3
            have hcut168 := cut_to (P := Try.prog) 101 3 .i64 Try.underlying101 hi0168 (some ad253) x7_1.length co26 (ji126) xyd q168 (Kd.R_reads' HO_7.out).2.1
            have hr168 := Kd.R_take (m := ((ji126) : Int).toNat) HO_7.out (by omega)
            have hy168 : y269.length = ((ji126) : Int).toNat := (by rw [Ny269.out, List.length_take]; omega)
            rw [← Ny269.out] at hr168
            rw [← hy168] at hr168 hcut168
            clear hy168 hi0168 hsz168 HO_7
            have HO271 := Aside0.mk hr168
            clear hr168
            replace q168 := eq_true q168
            try go_wp2
            go_ret2
            exact ⟨_, (by first | rfl | (simp [errW_none, errW_some] <;> rfl) | (simp only [← hji126, ← hji137, ← hji157]; first | rfl | (simp [errW_none, errW_some] <;> rfl)) | (simp [*, errW_none, errW_some] <;> rfl)), wy7, wy1⟩
           rw [if_neg c162] at H
           have c162b0 : decide (4 < (y269.length : Int)) = false := decide_eq_false c162
           have c162b1 : decide (4 < y269.length) = false := decide_eq_false (by omega)
           clear c162
           obtain ⟨ji169, hji169⟩ : ∃ j_ : Int, (wrap64 ((y266.length : Int) - 1)) = j_ := ⟨_, rfl⟩
           replace H : (if 0 ≤ (ji169) then (if (ji169) < (y266.length : Int) then (if (rd y266 (ji169)) > 64 then (some (([] : List Int), false)) else (impl_paired.l0 k3 a0 l1 x6_3 y269 y260 y263 y266 l1 (l1.length : Int) (wrap64 (x26_1 + 1)) x227000_1)) else (none)) else (none)) = some (r1, r2) := by first | (rw [hji169] at H; exact H) | (simp only [hji169] at H ⊢; exact H)
           have hji169w : (IntKind.i64.wrap ((y266.length : Int) - 1)) = ji169 := (i64_w _).trans hji169
           replace H := zy_g H
           obtain ⟨c170, H⟩ := H
           have c170b0 : decide (0 ≤ (ji169)) = true := decide_eq_true c170
           clear c170
           replace H := zy_g H
           obtain ⟨c171, H⟩ := H
           have c171b0 : decide ((ji169) < (y266.length : Int)) = true := decide_eq_true c171
           clear c171
           by_cases c172 : (rd y266 (ji169)) > 64
           ·rw [if_pos c172] at H
            have c172b0 : decide (64 < (rd y266 (ji169))) = true := decide_eq_true c172
            clear c172
            simp only [Option.some.injEq, Prod.mk.injEq] at H
            obtain ⟨rfl, rfl⟩ := H
            try go_wp2
            replace HO_6 := Aside0.mk (Kd.R_drew HO_6.out)
            replace HO_7 := Aside0.mk (Kd.R_drew HO_7.out)
            replace HO_8 := Aside0.mk (Kd.R_drew HO_8.out)
            replace HO_9 := Aside0.mk (Kd.S_drew HO_9.out)
            replace HO_10 := Aside0.mk (Kd.R_drew HO_10.out)
            replace BK226 := Aside0.mk (blk_drew BK226.out)
            replace BK228 := Aside0.mk (blk_drew BK228.out)
            replace HB := Aside0.mk (below_drew1 HB.out)
            have q174 : (ji137 : Int) ≤ ((x8_1.length : Int) : Int) := xyd
            obtain ⟨i0174, hi0174, _, hsz174, _⟩ := info_parts info3
            have hcut174 := cut_to (P := Try.prog) 101 3 .i64 Try.underlying101 hi0174 Ao144 x8_1.length co144 ji137 xyd q174 (Kd.R_reads' HO_8.out).2.1
            have hr174 := Kd.R_take (m := (ji137 : Int).toNat) HO_8.out (by omega)
            have hy174 : y260.length = (ji137 : Int).toNat := (by rw [Ny260.out, List.length_take]; omega)
            rw [← Ny260.out] at hr174
            rw [← hy174] at hr174 hcut174
            clear hy174 hi0174 hsz174 HO_8
            have HO262 := Aside0.mk hr174
            clear hr174
            replace q174 := eq_true q174
            have q175 : (ji137 : Int) ≤ ((x9_1.length : Int) : Int) := xyd
            obtain ⟨i0175, hi0175, _, hsz175, _⟩ := info_parts info101
            have hcut175 := cut_to (P := Try.prog) 102 101 .i64 Try.underlying102 hi0175 (some ad257) x9_1.length co145 ji137 xyd q175 (Kd.S_reads' HO_9.out).2.1
            have hr175 := Kd.S_take (m := (ji137 : Int).toNat) HO_9.out (by omega)
            have hy175 : y263.length = (ji137 : Int).toNat := (by rw [Ny263.out, List.length_take]; omega)
            rw [← Ny263.out] at hr175
            rw [← hy175] at hr175 hcut175
            clear hy175 hi0175 hsz175 HO_9
            have HO265 := Aside0.mk hr175
            clear hr175
            replace q175 := eq_true q175
            obtain ⟨Ao176, co176, eo176⟩ := Kd.R_slice HO_10.out
            (first | subst eo176 | (injection eo176 with f1_ f2_ f3_; have f4_ := f1_.symm; have f5_ := f3_.symm; clear f1_ f2_ f3_; subst f4_; subst f5_))
            have q177 : ((ji157) : Int) ≤ ((x10_1.length : Int) : Int) := xyd
            obtain ⟨i0177, hi0177, _, hsz177, _⟩ := info_parts info2
            have hcut177 := cut_to (P := Try.prog) 29 2 .i64 Try.underlying29 hi0177 Ao176 x10_1.length co176 (ji157) xyd q177 (Kd.R_reads' HO_10.out).2.1
            have hr177 := Kd.R_take (m := ((ji157) : Int).toNat) HO_10.out (by omega)
            have hy177 : y266.length = ((ji157) : Int).toNat := (by rw [Ny266.out, List.length_take]; omega)
            rw [← Ny266.out] at hr177
            rw [← hy177] at hr177 hcut177
            clear hy177 hi0177 hsz177 HO_10
            have HO268 := Aside0.mk hr177
            clear hr177
            replace q177 := eq_true q177
            refine start_ (n := 14) (S := fun w' => True) (ds := []) (zy_.bm 14 0) (by kernel_rfl) rfl rfl trivial (fun hHeld => ?_); refine with_tabW impl_paired.tab39 impl_paired.bits39 (fun HT_ HW_ => ?_)
            generalize wr.drew = w173 at HO_6 HO_7 HO_8 HO_9 HO_10 BK226 BK228 HB HO262 HO265 HO268 hHeld ⊢
            refine zy_.pa (i := 0) (N := some 152) (zy_.bm 14 1) HT_.out ?_
            refine zy_.pa (i := 1) (N := some 153) (zy_.bm 14 3) HT_.out ?_
            refine zy_.pa (i := 2) (N := some 154) (zy_.bm 14 7) HT_.out ?_
            refine zy_.pa (i := 3) (N := some 155) (zy_.bm 14 15) HT_.out ?_
            refine zy_.pa (i := 4) (N := some 156) (zy_.bm 14 31) HT_.out ?_
            refine zy_.pa (i := 5) (N := some 157) (zy_.bm 14 63) HT_.out ?_
            refine zy_.pa (i := 6) (N := some 158) (zy_.bm 14 127) HT_.out ?_
            refine zy_.pa (i := 7) (N := some 159) (zy_.bm 14 255) HT_.out ?_
            refine zy_.pa (i := 8) (N := some 160) (zy_.bm 14 511) HT_.out ?_
            refine zy_.pa (i := 9) (N := some 161) (zy_.bm 14 1023) HT_.out ?_
            refine zy_.pa (i := 10) (N := some 162) (zy_.bm 14 2047) HT_.out ?_
            refine zy_.pa (i := 11) (N := some 8) (zy_.bm 14 4095) HT_.out ?_
            refine zy_.pa (i := 12) (N := some 9) (zy_.bm 14 8191) HT_.out ?_
            refine zy_.pa (i := 13) (N := some 10) (zy_.bm 14 16383) HT_.out ?_
            refine done_ (done_of HT_.out (by kernel_rfl)) ?_
            have q178 : ((ji126) : Int) ≤ ((x7_1.length : Int) : Int) := xyd
            obtain ⟨i0178, hi0178, _, hsz178, _⟩ := info_parts info3
            have hcut178 := cut_to (P := Try.prog) 101 3 .i64 Try.underlying101 hi0178 (some ad253) x7_1.length co26 (ji126) xyd q178 (Kd.R_reads' HO_7.out).2.1
            have hr178 := Kd.R_take (m := ((ji126) : Int).toNat) HO_7.out (by omega)
            have hy178 : y269.length = ((ji126) : Int).toNat := (by rw [Ny269.out, List.length_take]; omega)
            rw [← Ny269.out] at hr178
            rw [← hy178] at hr178 hcut178
            clear hy178 hi0178 hsz178 HO_7
            have HO271 := Aside0.mk hr178
            clear hr178
            replace q178 := eq_true q178
            have p272 : 0 ≤ ((ji169) : Int) := xyd
            have q272 : (ji169) < (y266.length : Int) := xyd
            obtain ⟨ad272, e272, hx272_0⟩ := Kd.at_int (Kd.R_reads' HO268.out).2.2 (ji169) p272 q272
            cases e272
            replace p272 := eq_true p272
            replace q272 := eq_true q272
            try go_wp2
            go_ret2
            exact ⟨_, (by first | rfl | (simp [errW_none, errW_some] <;> rfl) | (simp only [← hji126, ← hji137, ← hji157, ← hji169]; first | rfl | (simp [errW_none, errW_some] <;> rfl)) | (simp [*, errW_none, errW_some] <;> rfl)), wy7, wy1⟩
           rw [if_neg c172] at H
           have c172b0 : decide (64 < (rd y266 (ji169))) = false := decide_eq_false c172
           clear c172
           have H' := Aside0.mk H
           clear H
           try go_wp2
           replace HO_6 := Aside0.mk (Kd.R_drew HO_6.out)
           replace HO_7 := Aside0.mk (Kd.R_drew HO_7.out)
           replace HO_8 := Aside0.mk (Kd.R_drew HO_8.out)
           replace HO_9 := Aside0.mk (Kd.S_drew HO_9.out)
           replace HO_10 := Aside0.mk (Kd.R_drew HO_10.out)
           replace BK226 := Aside0.mk (blk_drew BK226.out)
           replace BK228 := Aside0.mk (blk_drew BK228.out)
           replace HB := Aside0.mk (below_drew1 HB.out)
           have q180 : (ji137 : Int) ≤ ((x8_1.length : Int) : Int) := xyd
           obtain ⟨i0180, hi0180, _, hsz180, _⟩ := info_parts info3
           have hcut180 := cut_to (P := Try.prog) 101 3 .i64 Try.underlying101 hi0180 Ao144 x8_1.length co144 ji137 xyd q180 (Kd.R_reads' HO_8.out).2.1
           have hr180 := Kd.R_take (m := (ji137 : Int).toNat) HO_8.out (by omega)
           have hy180 : y260.length = (ji137 : Int).toNat := (by rw [Ny260.out, List.length_take]; omega)
           rw [← Ny260.out] at hr180
           rw [← hy180] at hr180 hcut180
           clear hy180 hi0180 hsz180 HO_8
           have HO262 := Aside0.mk hr180
           clear hr180
           replace q180 := eq_true q180
           have q181 : (ji137 : Int) ≤ ((x9_1.length : Int) : Int) := xyd
           obtain ⟨i0181, hi0181, _, hsz181, _⟩ := info_parts info101
           have hcut181 := cut_to (P := Try.prog) 102 101 .i64 Try.underlying102 hi0181 (some ad257) x9_1.length co145 ji137 xyd q181 (Kd.S_reads' HO_9.out).2.1
           have hr181 := Kd.S_take (m := (ji137 : Int).toNat) HO_9.out (by omega)
           have hy181 : y263.length = (ji137 : Int).toNat := (by rw [Ny263.out, List.length_take]; omega)
           rw [← Ny263.out] at hr181
           rw [← hy181] at hr181 hcut181
           clear hy181 hi0181 hsz181 HO_9
           have HO265 := Aside0.mk hr181
           clear hr181
           replace q181 := eq_true q181
           obtain ⟨Ao182, co182, eo182⟩ := Kd.R_slice HO_10.out
           (first | subst eo182 | (injection eo182 with f1_ f2_ f3_; have f4_ := f1_.symm; have f5_ := f3_.symm; clear f1_ f2_ f3_; subst f4_; subst f5_))
           have q183 : ((ji157) : Int) ≤ ((x10_1.length : Int) : Int) := xyd
           obtain ⟨i0183, hi0183, _, hsz183, _⟩ := info_parts info2
           have hcut183 := cut_to (P := Try.prog) 29 2 .i64 Try.underlying29 hi0183 Ao182 x10_1.length co182 (ji157) xyd q183 (Kd.R_reads' HO_10.out).2.1
           have hr183 := Kd.R_take (m := ((ji157) : Int).toNat) HO_10.out (by omega)
           have hy183 : y266.length = ((ji157) : Int).toNat := (by rw [Ny266.out, List.length_take]; omega)
           rw [← Ny266.out] at hr183
           rw [← hy183] at hr183 hcut183
           clear hy183 hi0183 hsz183 HO_10
           have HO268 := Aside0.mk hr183
           clear hr183
           replace q183 := eq_true q183
           refine start_ (n := 14) (S := fun w' => True) (ds := []) (zy_.bm 14 0) (by kernel_rfl) rfl rfl trivial (fun hHeld => ?_); refine with_tabW impl_paired.tab39 impl_paired.bits39 (fun HT_ HW_ => ?_)
           generalize wr.drew = w179 at HO_6 HO_7 HO_8 HO_9 HO_10 BK226 BK228 HB HO262 HO265 HO268 hHeld ⊢
           refine zy_.pa (i := 0) (N := some 152) (zy_.bm 14 1) HT_.out ?_
           refine zy_.pa (i := 1) (N := some 153) (zy_.bm 14 3) HT_.out ?_
           refine zy_.pa (i := 2) (N := some 154) (zy_.bm 14 7) HT_.out ?_
           refine zy_.pa (i := 3) (N := some 155) (zy_.bm 14 15) HT_.out ?_
           refine zy_.pa (i := 4) (N := some 156) (zy_.bm 14 31) HT_.out ?_
           refine zy_.pa (i := 5) (N := some 157) (zy_.bm 14 63) HT_.out ?_
           refine zy_.pa (i := 6) (N := some 158) (zy_.bm 14 127) HT_.out ?_
           refine zy_.pa (i := 7) (N := some 159) (zy_.bm 14 255) HT_.out ?_
           refine zy_.pa (i := 8) (N := some 160) (zy_.bm 14 511) HT_.out ?_
           refine zy_.pa (i := 9) (N := some 161) (zy_.bm 14 1023) HT_.out ?_
           refine zy_.pa (i := 10) (N := some 162) (zy_.bm 14 2047) HT_.out ?_
           refine zy_.pa (i := 11) (N := some 8) (zy_.bm 14 4095) HT_.out ?_
           refine zy_.pa (i := 12) (N := some 9) (zy_.bm 14 8191) HT_.out ?_
           refine zy_.pa (i := 13) (N := some 10) (zy_.bm 14 16383) HT_.out ?_
           refine done_ (done_of HT_.out (by kernel_rfl)) ?_
           have q184 : ((ji126) : Int) ≤ ((x7_1.length : Int) : Int) := xyd
           obtain ⟨i0184, hi0184, _, hsz184, _⟩ := info_parts info3
           have hcut184 := cut_to (P := Try.prog) 101 3 .i64 Try.underlying101 hi0184 (some ad253) x7_1.length co26 (ji126) xyd q184 (Kd.R_reads' HO_7.out).2.1
           have hr184 := Kd.R_take (m := ((ji126) : Int).toNat) HO_7.out (by omega)
           have hy184 : y269.length = ((ji126) : Int).toNat := (by rw [Ny269.out, List.length_take]; omega)
           rw [← Ny269.out] at hr184
           rw [← hy184] at hr184 hcut184
           clear hy184 hi0184 hsz184 HO_7
           have HO271 := Aside0.mk hr184
           clear hr184
           replace q184 := eq_true q184
           have p272 : 0 ≤ ((ji169) : Int) := xyd
           have q272 : (ji169) < (y266.length : Int) := xyd
           obtain ⟨ad272, e272, hx272_0⟩ := Kd.at_int (Kd.R_reads' HO268.out).2.2 (ji169) p272 q272
           cases e272
           replace p272 := eq_true p272
           replace q272 := eq_true q272
           try go_wp2
           (try simp only [← hl6_16, ← hl6_3])
           go_roundg k3
           case measure => have := HK1.out; have := HJ16.out; have := HK3.out; omega
           case rel =>
            replace HO271 := Aside0.mk (Kd.R_mono HO271.out (fun k_ hk_ => (⟨fun e_ => hk_.1 (e_.trans (own_len_ _ _ _ _)), hk_.2⟩ : some k_ ≠ (Value.slice Ao144 y260.length co144).ownBlock ∧ k_ ≠ gb226)))
            replace HO265 := Aside0.mk (Kd.S_mono HO265.out (fun k_ hk_ => (⟨fun e_ => hk_.1 e_, fun e_ => hk_.2.1 (e_.trans (own_len_ _ _ _ _)), hk_.2.2⟩ : some k_ ≠ (Value.slice (some ad253) y269.length co26).ownBlock ∧ some k_ ≠ (Value.slice Ao144 y260.length co144).ownBlock ∧ k_ ≠ gb226)))
            exact ⟨(x6_3), (y269), (y260), (y263), (y266), (wrap64 (x26_1 + 1)), (x227000_1), wy5, H', ⟨(by have := HK1.out; have := HJ16.out; have := HK3.out; omega)⟩, ⟨(by (try simp only [hl6_16]); (try simp only [hl6_3]); (with_reducible repeat (first | apply Kd.R_alloc | apply Kd.R_drewN | apply Kd.R_drew)); exact HO_6.out)⟩, ⟨(by (try simp only [hl6_16]); (try simp only [hl6_3]); (with_reducible repeat (first | apply Kd.R_alloc | apply Kd.R_drewN | apply Kd.R_drew)); exact HO271.out)⟩, ⟨(by (try simp only [hl6_16]); (try simp only [hl6_3]); (with_reducible repeat (first | apply Kd.R_alloc | apply Kd.R_drewN | apply Kd.R_drew)); exact HO262.out)⟩, ⟨(by (try simp only [hl6_16]); (try simp only [hl6_3]); (with_reducible repeat (first | apply Kd.S_alloc | apply Kd.S_drewN | apply Kd.S_drew)); exact HO265.out)⟩, ⟨(by (try simp only [hl6_16]); (try simp only [hl6_3]); (with_reducible repeat (first | apply Kd.R_alloc | apply Kd.R_drewN | apply Kd.R_drew)); exact HO268.out)⟩, ⟨(by (try simp only [hl6_16]); (try simp only [hl6_3]); (with_reducible repeat (first | refine blk_drewN ?_ _ | refine blk_drew ?_ | refine blk_alloc ?_ _)); exact BK226.out)⟩, ⟨wy1⟩⟩
        rw [if_neg c134] at H
        have c134b0 : (((rd_T63 l1 (rd x7_1 (ji126))).f0) == 5) = false := beq_eq_false_iff_ne.mpr c134
        have c134b1 : (((rd_T63 l1 (rd x7_1 (ji126))).f0) != 5) = true := bne_iff_ne.mpr c134
        by_cases c185 : mget x227000_1 (rd x7_1 (ji126)) = true
        ·rw [if_pos c185] at H
         have c185b0 : mget x227000_1 (rd x7_1 (ji126)) = true := c185
         clear c185
         replace H := zy_g H
         obtain ⟨c186, H⟩ := H
         have c186b0 : decide ((rd x7_1 (ji126)) < (y229.length : Int)) = true := decide_eq_true c186
         clear c186
         replace H := zy_g H
         obtain ⟨c187, H⟩ := H
         have c187b0 : decide (0 ≤ (rd y254 (rd x7_1 (ji126)))) = true := decide_eq_true c187
         clear c187
         replace H := zy_g H
         obtain ⟨c188, H⟩ := H
         have c188b0 : decide ((rd y254 (rd x7_1 (ji126))) < (y229.length : Int)) = true := decide_eq_true c188
         clear c188
         obtain ⟨y274, hy274⟩ : ∃ y_ : List Int, y_ = (y254.set ((rd y254 (rd x7_1 (ji126))) : Int).toNat x26_1) := ⟨_, rfl⟩
         replace H : (if (ji126) ≤ (x7_1.length : Int) then ((some (x7_1.take ((ji126) : Int).toNat : List Int)).bind fun y275 => (if (y275.length : Int) > 4 then (some (([] : List Int), false)) else (if 0 ≤ (wrap64 ((x10_1.length : Int) - 1)) then (if (wrap64 ((x10_1.length : Int) - 1)) < (x10_1.length : Int) then (if (rd x10_1 (wrap64 ((x10_1.length : Int) - 1))) > 64 then (some (([] : List Int), false)) else (impl_paired.l0 kj16 a0 l1 y274 y275 x8_1 x9_1 x10_1 l1 (l1.length : Int) (wrap64 (x26_1 + 1)) x227000_1)) else (none)) else (none)))) else (none)) = some (r1, r2) := by first | (rw [hy274]; with_reducible exact H) | (have H2_ := (Option.bind_some _ _).symm.trans H; rw [hy274]; with_reducible exact H2_) | (have H2_ := (Option.bind_some _ _).symm.trans H; with_reducible exact H2_) | with_reducible exact H | (rw [hy274]; exact H) | exact H
         have Ny274 := Aside0.mk hy274
         clear hy274
         replace H := zy_g H
         obtain ⟨c190, H⟩ := H
         have c190b0 := eq_true c190
         have c190b1 : decide ((ji126) ≤ (x7_1.length : Int)) = true := decide_eq_true c190
         clear c190
         obtain ⟨y275, hy275⟩ : ∃ y_ : List Int, y_ = (x7_1.take ((ji126) : Int).toNat) := ⟨_, rfl⟩
         replace H : (if (y275.length : Int) > 4 then (some (([] : List Int), false)) else (if 0 ≤ (wrap64 ((x10_1.length : Int) - 1)) then (if (wrap64 ((x10_1.length : Int) - 1)) < (x10_1.length : Int) then (if (rd x10_1 (wrap64 ((x10_1.length : Int) - 1))) > 64 then (some (([] : List Int), false)) else (impl_paired.l0 kj16 a0 l1 y274 y275 x8_1 x9_1 x10_1 l1 (l1.length : Int) (wrap64 (x26_1 + 1)) x227000_1)) else (none)) else (none))) = some (r1, r2) := by first | (rw [hy275]; with_reducible exact H) | (have H2_ := (Option.bind_some _ _).symm.trans H; rw [hy275]; with_reducible exact H2_) | (have H2_ := (Option.bind_some _ _).symm.trans H; with_reducible exact H2_) | with_reducible exact H | (rw [hy275]; exact H) | exact H
         have Ny275 := Aside0.mk hy275
         clear hy275
         by_cases c191 : (y275.length : Int) > 4
         ·rw [if_pos c191] at H
          have c191b0 : decide (4 < (y275.length : Int)) = true := decide_eq_true c191
          have c191b1 : decide (4 < y275.length) = true := decide_eq_true (by omega)
          clear c191
          simp only [Option.some.injEq, Prod.mk.injEq] at H
          obtain ⟨rfl, rfl⟩ := H
          have p253 : 0 ≤ ((ji126) : Int) := xyd
          have q253 : (ji126) < (x7_1.length : Int) := xyd
          obtain ⟨ad253, e253, hx253_0⟩ := Kd.at_int (Kd.R_reads' HO_7.out).2.2 (ji126) p253 q253
          cases e253
          replace p253 := eq_true p253
          replace q253 := eq_true q253
          have p131 : 0 ≤ (x26_1 : Int) := xyd
          have q131 : (x26_1 : Int) < ((y229.length : Int) : Int) := xyd
          obtain ⟨hx131_0, hf131_0⟩ := Kd.R_celln 0 HO_6.out (x26_1 : Int) p131 q131
          replace p131 := eq_true p131
          replace q131 := eq_true q131
          have HP192 := Kd.R_putg HO_6.out (x26_1 : Int) (rd x7_1 (ji126))
          go_wp2_with (first | ((with_reducible refine gate_store (t := 2) (p := 119) rfl ?_); refine xys ((wc.setCell ⟨go14, (x26_1 : Int).toNat, none⟩ (.int .i64 (rd x7_1 (ji126))))) ?_; intro w193 hw; have hg : wc.grownBy w193 (some go14) := (by rw [hw]; exact HP192.2); have hp_ : Kd.R (Kd.int .i64) 2 w193 w.heap.size (fun k_ => some k_ ≠ (u10 : Value).ownBlock ∧ k_ ≠ gb226) (.slice (some ⟨go14, 0, none⟩) y229.length co14) y254 := (by rw [hw, Ny254.out]; exact HP192.1); clear HP192; replace HO_7 := Aside0.mk (Kd.R_over' (xyr HO_7.out) (Kd.R_typed HO_6.out) (by decide) hg); replace HO_8 := Aside0.mk (Kd.R_over' (xyr HO_8.out) (Kd.R_typed HO_6.out) (by decide) hg); replace HO_9 := Aside0.mk (Kd.S_over' wy4 (Kd.R_typed HO_6.out) (by decide) hg); replace HO_10 := Aside0.mk (Kd.R_after (v := (.slice (some ⟨go14, 0, none⟩) y229.length co14)) (v1 := (.slice (some ⟨go14, 0, none⟩) y229.length co14)) (ok := (fun k_ => k_ ≠ gb226)) wy10 hg (.inl rfl)); replace BK226 := Aside0.mk (blk_grown (g := gb226) (o := mobj x227000_1) (xyb BK226.out) hg (Kd.R_away HO_6.out (fun _ hk => hk.2))); replace BK228 := Aside0.mk (blk_grown (g := gb228) (o := .cells #[.int .i64 ((rd_T63 l1 x26_1).f0), .int .i64 ((rd_T63 l1 x26_1).f1), .int .i64 ((rd_T63 l1 x26_1).f2), .int .i64 ((rd_T63 l1 x26_1).f3), .int .i64 ((rd_T63 l1 x26_1).f4)] 63 (0, 0)) (xyb BK228.out) hg (Kd.R_ne HO_6.out BK228.out (by decide))); replace HO_6 := Aside0.mk (hp_); replace HB := Aside0.mk ((by rw [hw]; exact below_set (HB.out) GB14.out : Below w.heap.size w w193)); clear hg hw hp_; have p255 : 0 ≤ ((rd x7_1 (ji126)) : Int) := xyd; have q255 : (rd x7_1 (ji126)) < (l1.length : Int) := xyd; obtain ⟨ad255, e255, hx255_0, hx255_1, hx255_2, hx255_3, hx255_4⟩ := at_T63 HR1.out (rd x7_1 (ji126)) p255 q255; obtain rfl : ad227 = ad255 := (by injection e255); replace hx255_0 := xyh HB.out hx255_0; replace hx255_1 := xyh HB.out hx255_1; replace hx255_2 := xyh HB.out hx255_2; replace hx255_3 := xyh HB.out hx255_3; replace hx255_4 := xyh HB.out hx255_4; replace p255 := eq_true p255; replace q255 := eq_true q255; have hmlm194 : (Instr.lookup 103 (.map (some gb226)) (.int .i64 (rd x7_1 (ji126))) false).run Try.prog w193 = .ok (.bool (mget x227000_1 (rd x7_1 (ji126)))) w193 := (run_mget (P := Try.prog) (w := w193) (t := 103) (kt := 3) (et := 4) (xyb BK226.out) (by kernel_rfl) (by kernel_rfl) (by rfl) (rd x7_1 (ji126))); have p273 : 0 ≤ ((rd x7_1 (ji126)) : Int) := xyd; have q273 : (rd x7_1 (ji126)) < (y254.length : Int) := (by have h_ : ((rd x7_1 (ji126)) : Int) < ((y229.length : Int) : Int) := xyd; first | (have e_ := (Kd.R_reads' HO_6.out).1; omega) | simpa only [Ny254.out, List.length_set] using h_); have ql273 : (((rd x7_1 (ji126)) : Int) < ((y229.length : Int) : Int)) = True := eq_true xyd; obtain ⟨ad273, e273, hx273_0⟩ := Kd.at_int (Kd.R_reads' HO_6.out).2.2 (rd x7_1 (ji126)) p273 q273; obtain rfl : (⟨go14, 0, none⟩ : Addr) = ad273 := (by injection e273); (first | simp only [add_plain] at hx273_0 | simp only [add_at] at hx273_0 | simp only [Addr.add, Nat.zero_add] at hx273_0 | skip); replace p273 := eq_true p273; replace q273 := eq_true q273; have p189 : 0 ≤ ((rd y254 (rd x7_1 (ji126))) : Int) := xyd; have q189 : ((rd y254 (rd x7_1 (ji126))) : Int) < ((y229.length : Int) : Int) := xyd; obtain ⟨hx189_0, hf189_0⟩ := Kd.R_celln 0 HO_6.out ((rd y254 (rd x7_1 (ji126))) : Int) p189 q189; replace p189 := eq_true p189; replace q189 := eq_true q189; obtain ⟨hy195_, hz195_⟩ := Kd.R_celln 0 HO_6.out ((rd y254 (rd x7_1 (ji126))) : Int) xyd xyd; have HP195 := Kd.R_putg HO_6.out ((rd y254 (rd x7_1 (ji126))) : Int) x26_1) | ((with_reducible refine gate_store (t := 2) (p := 173) rfl ?_); refine xys ((w193.setCell ⟨go14, ((rd y254 (rd x7_1 (ji126))) : Int).toNat, none⟩ (.int .i64 x26_1))) ?_; intro w196 hw; have hg : w193.grownBy w196 (some go14) := (by rw [hw]; exact HP195.2); have hp_ : Kd.R (Kd.int .i64) 2 w196 w.heap.size (fun k_ => some k_ ≠ (u10 : Value).ownBlock ∧ k_ ≠ gb226) (.slice (some ⟨go14, 0, none⟩) y229.length co14) y274 := (by rw [hw, Ny274.out]; exact HP195.1); clear HP195; replace HO_7 := Aside0.mk (Kd.R_over' (xyr HO_7.out) (Kd.R_typed HO_6.out) (by decide) hg); replace HO_8 := Aside0.mk (Kd.R_over' (xyr HO_8.out) (Kd.R_typed HO_6.out) (by decide) hg); replace HO_9 := Aside0.mk (Kd.S_over' wy4 (Kd.R_typed HO_6.out) (by decide) hg); replace HO_10 := Aside0.mk (Kd.R_after (v := (.slice (some ⟨go14, 0, none⟩) y229.length co14)) (v1 := (.slice (some ⟨go14, 0, none⟩) y229.length co14)) (ok := (fun k_ => k_ ≠ gb226)) (xyr HO_10.out) hg (.inl rfl)); replace BK226 := Aside0.mk (blk_grown (g := gb226) (o := mobj x227000_1) (xyb BK226.out) hg (Kd.R_away HO_6.out (fun _ hk => hk.2))); replace BK228 := Aside0.mk (blk_grown (g := gb228) (o := .cells #[.int .i64 ((rd_T63 l1 x26_1).f0), .int .i64 ((rd_T63 l1 x26_1).f1), .int .i64 ((rd_T63 l1 x26_1).f2), .int .i64 ((rd_T63 l1 x26_1).f3), .int .i64 ((rd_T63 l1 x26_1).f4)] 63 (0, 0)) (xyb BK228.out) hg (Kd.R_ne HO_6.out BK228.out (by decide))); replace HO_6 := Aside0.mk (hp_); replace HB := Aside0.mk ((by rw [hw]; exact below_set (HB.out) GB14.out : Below w.heap.size w w196)); clear hg hw hp_; have q197 : ((ji126) : Int) ≤ ((x7_1.length : Int) : Int) := xyd; obtain ⟨i0197, hi0197, _, hsz197, _⟩ := info_parts info3; have hcut197 := cut_to (P := Try.prog) 101 3 .i64 Try.underlying101 hi0197 (some ad253) x7_1.length co26 (ji126) xyd q197 (Kd.R_reads' HO_7.out).2.1; have hr197 := Kd.R_take (m := ((ji126) : Int).toNat) HO_7.out (by omega); have hy197 : y275.length = ((ji126) : Int).toNat := (by rw [Ny275.out, List.length_take]; omega); rw [← Ny275.out] at hr197; rw [← hy197] at hr197 hcut197; clear hy197 hi0197 hsz197 HO_7; have HO277 := Aside0.mk hr197; clear hr197; replace q197 := eq_true q197))
          go_ret2
          exact ⟨_, (by first | rfl | (simp [errW_none, errW_some] <;> rfl) | (simp only [← hji126]; first | rfl | (simp [errW_none, errW_some] <;> rfl)) | (simp [*, errW_none, errW_some] <;> rfl)), wy7, wy1⟩
         rw [if_neg c191] at H
         have c191b0 : decide (4 < (y275.length : Int)) = false := decide_eq_false c191
         have c191b1 : decide (4 < y275.length) = false := decide_eq_false (by omega)
         clear c191
         (try clear hji34w)
         (try clear hji34)
         (try clear hji77w)
         (try clear hji77)
         (try clear hji112w)
         (try clear hji112)
         (try clear hji157w)
         (try clear hji157)
         obtain ⟨ji198, hji198⟩ : ∃ j_ : Int, (wrap64 ((x10_1.length : Int) - 1)) = j_ := ⟨_, rfl⟩
         replace H : (if 0 ≤ (ji198) then (if (ji198) < (x10_1.length : Int) then (if (rd x10_1 (ji198)) > 64 then (some (([] : List Int), false)) else (impl_paired.l0 kj16 a0 l1 y274 y275 x8_1 x9_1 x10_1 l1 (l1.length : Int) (wrap64 (x26_1 + 1)) x227000_1)) else (none)) else (none)) = some (r1, r2) := by first | (rw [hji198] at H; exact H) | (simp only [hji198] at H ⊢; exact H)
         have hji198w : (IntKind.i64.wrap ((x10_1.length : Int) - 1)) = ji198 := (i64_w _).trans hji198
         replace H := zy_g H
         obtain ⟨c199, H⟩ := H
         have c199b0 : decide (0 ≤ (ji198)) = true := decide_eq_true c199
         clear c199
         replace H := zy_g H
         obtain ⟨c200, H⟩ := H
         have c200b0 : decide ((ji198) < (x10_1.length : Int)) = true := decide_eq_true c200
         clear c200
         by_cases c201 : (rd x10_1 (ji198)) > 64
         ·rw [if_pos c201] at H
          have c201b0 : decide (64 < (rd x10_1 (ji198))) = true := decide_eq_true c201
          clear c201
          simp only [Option.some.injEq, Prod.mk.injEq] at H
          obtain ⟨rfl, rfl⟩ := H
          have p253 : 0 ≤ ((ji126) : Int) := xyd
          have q253 : (ji126) < (x7_1.length : Int) := xyd
          obtain ⟨ad253, e253, hx253_0⟩ := Kd.at_int (Kd.R_reads' HO_7.out).2.2 (ji126) p253 q253
          cases e253
          replace p253 := eq_true p253
          replace q253 := eq_true q253
          have p131 : 0 ≤ (x26_1 : Int) := xyd
          have q131 : (x26_1 : Int) < ((y229.length : Int) : Int) := xyd
          obtain ⟨hx131_0, hf131_0⟩ := Kd.R_celln 0 HO_6.out (x26_1 : Int) p131 q131
          replace p131 := eq_true p131
          replace q131 := eq_true q131
          have HP202 := Kd.R_putg HO_6.out (x26_1 : Int) (rd x7_1 (ji126))
          go_wp2_with (first | ((with_reducible refine gate_store (t := 2) (p := 119) rfl ?_); refine xys ((wc.setCell ⟨go14, (x26_1 : Int).toNat, none⟩ (.int .i64 (rd x7_1 (ji126))))) ?_; intro w203 hw; have hg : wc.grownBy w203 (some go14) := (by rw [hw]; exact HP202.2); have hp_ : Kd.R (Kd.int .i64) 2 w203 w.heap.size (fun k_ => some k_ ≠ (u10 : Value).ownBlock ∧ k_ ≠ gb226) (.slice (some ⟨go14, 0, none⟩) y229.length co14) y254 := (by rw [hw, Ny254.out]; exact HP202.1); clear HP202; replace HO_7 := Aside0.mk (Kd.R_over' (xyr HO_7.out) (Kd.R_typed HO_6.out) (by decide) hg); replace HO_8 := Aside0.mk (Kd.R_over' (xyr HO_8.out) (Kd.R_typed HO_6.out) (by decide) hg); replace HO_9 := Aside0.mk (Kd.S_over' wy4 (Kd.R_typed HO_6.out) (by decide) hg); replace HO_10 := Aside0.mk (Kd.R_after (v := (.slice (some ⟨go14, 0, none⟩) y229.length co14)) (v1 := (.slice (some ⟨go14, 0, none⟩) y229.length co14)) (ok := (fun k_ => k_ ≠ gb226)) wy10 hg (.inl rfl)); replace BK226 := Aside0.mk (blk_grown (g := gb226) (o := mobj x227000_1) (xyb BK226.out) hg (Kd.R_away HO_6.out (fun _ hk => hk.2))); replace BK228 := Aside0.mk (blk_grown (g := gb228) (o := .cells #[.int .i64 ((rd_T63 l1 x26_1).f0), .int .i64 ((rd_T63 l1 x26_1).f1), .int .i64 ((rd_T63 l1 x26_1).f2), .int .i64 ((rd_T63 l1 x26_1).f3), .int .i64 ((rd_T63 l1 x26_1).f4)] 63 (0, 0)) (xyb BK228.out) hg (Kd.R_ne HO_6.out BK228.out (by decide))); replace HO_6 := Aside0.mk (hp_); replace HB := Aside0.mk ((by rw [hw]; exact below_set (HB.out) GB14.out : Below w.heap.size w w203)); clear hg hw hp_; have p255 : 0 ≤ ((rd x7_1 (ji126)) : Int) := xyd; have q255 : (rd x7_1 (ji126)) < (l1.length : Int) := xyd; obtain ⟨ad255, e255, hx255_0, hx255_1, hx255_2, hx255_3, hx255_4⟩ := at_T63 HR1.out (rd x7_1 (ji126)) p255 q255; obtain rfl : ad227 = ad255 := (by injection e255); replace hx255_0 := xyh HB.out hx255_0; replace hx255_1 := xyh HB.out hx255_1; replace hx255_2 := xyh HB.out hx255_2; replace hx255_3 := xyh HB.out hx255_3; replace hx255_4 := xyh HB.out hx255_4; replace p255 := eq_true p255; replace q255 := eq_true q255; have hmlm204 : (Instr.lookup 103 (.map (some gb226)) (.int .i64 (rd x7_1 (ji126))) false).run Try.prog w203 = .ok (.bool (mget x227000_1 (rd x7_1 (ji126)))) w203 := (run_mget (P := Try.prog) (w := w203) (t := 103) (kt := 3) (et := 4) (xyb BK226.out) (by kernel_rfl) (by kernel_rfl) (by rfl) (rd x7_1 (ji126))); have p273 : 0 ≤ ((rd x7_1 (ji126)) : Int) := xyd; have q273 : (rd x7_1 (ji126)) < (y254.length : Int) := (by have h_ : ((rd x7_1 (ji126)) : Int) < ((y229.length : Int) : Int) := xyd; first | (have e_ := (Kd.R_reads' HO_6.out).1; omega) | simpa only [Ny254.out, List.length_set] using h_); have ql273 : (((rd x7_1 (ji126)) : Int) < ((y229.length : Int) : Int)) = True := eq_true xyd; obtain ⟨ad273, e273, hx273_0⟩ := Kd.at_int (Kd.R_reads' HO_6.out).2.2 (rd x7_1 (ji126)) p273 q273; obtain rfl : (⟨go14, 0, none⟩ : Addr) = ad273 := (by injection e273); (first | simp only [add_plain] at hx273_0 | simp only [add_at] at hx273_0 | simp only [Addr.add, Nat.zero_add] at hx273_0 | skip); replace p273 := eq_true p273; replace q273 := eq_true q273; have p189 : 0 ≤ ((rd y254 (rd x7_1 (ji126))) : Int) := xyd; have q189 : ((rd y254 (rd x7_1 (ji126))) : Int) < ((y229.length : Int) : Int) := xyd; obtain ⟨hx189_0, hf189_0⟩ := Kd.R_celln 0 HO_6.out ((rd y254 (rd x7_1 (ji126))) : Int) p189 q189; replace p189 := eq_true p189; replace q189 := eq_true q189; obtain ⟨hy205_, hz205_⟩ := Kd.R_celln 0 HO_6.out ((rd y254 (rd x7_1 (ji126))) : Int) xyd xyd; have HP205 := Kd.R_putg HO_6.out ((rd y254 (rd x7_1 (ji126))) : Int) x26_1) | ((with_reducible refine gate_store (t := 2) (p := 173) rfl ?_); refine xys ((w203.setCell ⟨go14, ((rd y254 (rd x7_1 (ji126))) : Int).toNat, none⟩ (.int .i64 x26_1))) ?_; intro w206 hw; have hg : w203.grownBy w206 (some go14) := (by rw [hw]; exact HP205.2); have hp_ : Kd.R (Kd.int .i64) 2 w206 w.heap.size (fun k_ => some k_ ≠ (u10 : Value).ownBlock ∧ k_ ≠ gb226) (.slice (some ⟨go14, 0, none⟩) y229.length co14) y274 := (by rw [hw, Ny274.out]; exact HP205.1); clear HP205; replace HO_7 := Aside0.mk (Kd.R_over' (xyr HO_7.out) (Kd.R_typed HO_6.out) (by decide) hg); replace HO_8 := Aside0.mk (Kd.R_over' (xyr HO_8.out) (Kd.R_typed HO_6.out) (by decide) hg); replace HO_9 := Aside0.mk (Kd.S_over' wy4 (Kd.R_typed HO_6.out) (by decide) hg); replace HO_10 := Aside0.mk (Kd.R_after (v := (.slice (some ⟨go14, 0, none⟩) y229.length co14)) (v1 := (.slice (some ⟨go14, 0, none⟩) y229.length co14)) (ok := (fun k_ => k_ ≠ gb226)) (xyr HO_10.out) hg (.inl rfl)); replace BK226 := Aside0.mk (blk_grown (g := gb226) (o := mobj x227000_1) (xyb BK226.out) hg (Kd.R_away HO_6.out (fun _ hk => hk.2))); replace BK228 := Aside0.mk (blk_grown (g := gb228) (o := .cells #[.int .i64 ((rd_T63 l1 x26_1).f0), .int .i64 ((rd_T63 l1 x26_1).f1), .int .i64 ((rd_T63 l1 x26_1).f2), .int .i64 ((rd_T63 l1 x26_1).f3), .int .i64 ((rd_T63 l1 x26_1).f4)] 63 (0, 0)) (xyb BK228.out) hg (Kd.R_ne HO_6.out BK228.out (by decide))); replace HO_6 := Aside0.mk (hp_); replace HB := Aside0.mk ((by rw [hw]; exact below_set (HB.out) GB14.out : Below w.heap.size w w206)); clear hg hw hp_; have q207 : ((ji126) : Int) ≤ ((x7_1.length : Int) : Int) := xyd; obtain ⟨i0207, hi0207, _, hsz207, _⟩ := info_parts info3; have hcut207 := cut_to (P := Try.prog) 101 3 .i64 Try.underlying101 hi0207 (some ad253) x7_1.length co26 (ji126) xyd q207 (Kd.R_reads' HO_7.out).2.1; have hr207 := Kd.R_take (m := ((ji126) : Int).toNat) HO_7.out (by omega); have hy207 : y275.length = ((ji126) : Int).toNat := (by rw [Ny275.out, List.length_take]; omega); rw [← Ny275.out] at hr207; rw [← hy207] at hr207 hcut207; clear hy207 hi0207 hsz207 HO_7; have HO277 := Aside0.mk hr207; clear hr207; replace q207 := eq_true q207; obtain ⟨Ao208, co208, eo208⟩ := Kd.R_slice HO_10.out; subst eo208; have p278 : 0 ≤ ((ji198) : Int) := xyd; have q278 : (ji198) < (x10_1.length : Int) := xyd; obtain ⟨ad278, e278, hx278_0⟩ := Kd.at_int (Kd.R_reads' HO_10.out).2.2 (ji198) p278 q278; cases e278; replace p278 := eq_true p278; replace q278 := eq_true q278))
          go_ret2
          exact ⟨_, (by first | rfl | (simp [errW_none, errW_some] <;> rfl) | (simp only [← hji126, ← hji198]; first | rfl | (simp [errW_none, errW_some] <;> rfl)) | (simp [*, errW_none, errW_some] <;> rfl)), wy7, wy1⟩
         rw [if_neg c201] at H
         have c201b0 : decide (64 < (rd x10_1 (ji198))) = false := decide_eq_false c201
         clear c201
         have H' := Aside0.mk H
         clear H
         have p253 : 0 ≤ ((ji126) : Int) := xyd
         have q253 : (ji126) < (x7_1.length : Int) := xyd
         obtain ⟨ad253, e253, hx253_0⟩ := Kd.at_int (Kd.R_reads' HO_7.out).2.2 (ji126) p253 q253
         cases e253
         replace p253 := eq_true p253
         replace q253 := eq_true q253
         have p131 : 0 ≤ (x26_1 : Int) := xyd
         have q131 : (x26_1 : Int) < ((y229.length : Int) : Int) := xyd
         obtain ⟨hx131_0, hf131_0⟩ := Kd.R_celln 0 HO_6.out (x26_1 : Int) p131 q131
         replace p131 := eq_true p131
         replace q131 := eq_true q131
         have HP209 := Kd.R_putg HO_6.out (x26_1 : Int) (rd x7_1 (ji126))
         go_wp2_with (first | ((with_reducible refine gate_store (t := 2) (p := 119) rfl ?_); refine xys ((wc.setCell ⟨go14, (x26_1 : Int).toNat, none⟩ (.int .i64 (rd x7_1 (ji126))))) ?_; intro w210 hw; have hg : wc.grownBy w210 (some go14) := (by rw [hw]; exact HP209.2); have hp_ : Kd.R (Kd.int .i64) 2 w210 w.heap.size (fun k_ => some k_ ≠ (u10 : Value).ownBlock ∧ k_ ≠ gb226) (.slice (some ⟨go14, 0, none⟩) y229.length co14) y254 := (by rw [hw, Ny254.out]; exact HP209.1); clear HP209; replace HO_7 := Aside0.mk (Kd.R_over' (xyr HO_7.out) (Kd.R_typed HO_6.out) (by decide) hg); replace HO_8 := Aside0.mk (Kd.R_over' (xyr HO_8.out) (Kd.R_typed HO_6.out) (by decide) hg); replace HO_9 := Aside0.mk (Kd.S_over' wy4 (Kd.R_typed HO_6.out) (by decide) hg); replace HO_10 := Aside0.mk (Kd.R_after (v := (.slice (some ⟨go14, 0, none⟩) y229.length co14)) (v1 := (.slice (some ⟨go14, 0, none⟩) y229.length co14)) (ok := (fun k_ => k_ ≠ gb226)) wy10 hg (.inl rfl)); replace BK226 := Aside0.mk (blk_grown (g := gb226) (o := mobj x227000_1) (xyb BK226.out) hg (Kd.R_away HO_6.out (fun _ hk => hk.2))); replace BK228 := Aside0.mk (blk_grown (g := gb228) (o := .cells #[.int .i64 ((rd_T63 l1 x26_1).f0), .int .i64 ((rd_T63 l1 x26_1).f1), .int .i64 ((rd_T63 l1 x26_1).f2), .int .i64 ((rd_T63 l1 x26_1).f3), .int .i64 ((rd_T63 l1 x26_1).f4)] 63 (0, 0)) (xyb BK228.out) hg (Kd.R_ne HO_6.out BK228.out (by decide))); replace HO_6 := Aside0.mk (hp_); replace HB := Aside0.mk ((by rw [hw]; exact below_set (HB.out) GB14.out : Below w.heap.size w w210)); clear hg hw hp_; have p255 : 0 ≤ ((rd x7_1 (ji126)) : Int) := xyd; have q255 : (rd x7_1 (ji126)) < (l1.length : Int) := xyd; obtain ⟨ad255, e255, hx255_0, hx255_1, hx255_2, hx255_3, hx255_4⟩ := at_T63 HR1.out (rd x7_1 (ji126)) p255 q255; obtain rfl : ad227 = ad255 := (by injection e255); replace hx255_0 := xyh HB.out hx255_0; replace hx255_1 := xyh HB.out hx255_1; replace hx255_2 := xyh HB.out hx255_2; replace hx255_3 := xyh HB.out hx255_3; replace hx255_4 := xyh HB.out hx255_4; replace p255 := eq_true p255; replace q255 := eq_true q255; have hmlm211 : (Instr.lookup 103 (.map (some gb226)) (.int .i64 (rd x7_1 (ji126))) false).run Try.prog w210 = .ok (.bool (mget x227000_1 (rd x7_1 (ji126)))) w210 := (run_mget (P := Try.prog) (w := w210) (t := 103) (kt := 3) (et := 4) (xyb BK226.out) (by kernel_rfl) (by kernel_rfl) (by rfl) (rd x7_1 (ji126))); have p273 : 0 ≤ ((rd x7_1 (ji126)) : Int) := xyd; have q273 : (rd x7_1 (ji126)) < (y254.length : Int) := (by have h_ : ((rd x7_1 (ji126)) : Int) < ((y229.length : Int) : Int) := xyd; first | (have e_ := (Kd.R_reads' HO_6.out).1; omega) | simpa only [Ny254.out, List.length_set] using h_); have ql273 : (((rd x7_1 (ji126)) : Int) < ((y229.length : Int) : Int)) = True := eq_true xyd; obtain ⟨ad273, e273, hx273_0⟩ := Kd.at_int (Kd.R_reads' HO_6.out).2.2 (rd x7_1 (ji126)) p273 q273; obtain rfl : (⟨go14, 0, none⟩ : Addr) = ad273 := (by injection e273); (first | simp only [add_plain] at hx273_0 | simp only [add_at] at hx273_0 | simp only [Addr.add, Nat.zero_add] at hx273_0 | skip); replace p273 := eq_true p273; replace q273 := eq_true q273; have p189 : 0 ≤ ((rd y254 (rd x7_1 (ji126))) : Int) := xyd; have q189 : ((rd y254 (rd x7_1 (ji126))) : Int) < ((y229.length : Int) : Int) := xyd; obtain ⟨hx189_0, hf189_0⟩ := Kd.R_celln 0 HO_6.out ((rd y254 (rd x7_1 (ji126))) : Int) p189 q189; replace p189 := eq_true p189; replace q189 := eq_true q189; obtain ⟨hy212_, hz212_⟩ := Kd.R_celln 0 HO_6.out ((rd y254 (rd x7_1 (ji126))) : Int) xyd xyd; have HP212 := Kd.R_putg HO_6.out ((rd y254 (rd x7_1 (ji126))) : Int) x26_1) | ((with_reducible refine gate_store (t := 2) (p := 173) rfl ?_); refine xys ((w210.setCell ⟨go14, ((rd y254 (rd x7_1 (ji126))) : Int).toNat, none⟩ (.int .i64 x26_1))) ?_; intro w213 hw; have hg : w210.grownBy w213 (some go14) := (by rw [hw]; exact HP212.2); have hp_ : Kd.R (Kd.int .i64) 2 w213 w.heap.size (fun k_ => some k_ ≠ (u10 : Value).ownBlock ∧ k_ ≠ gb226) (.slice (some ⟨go14, 0, none⟩) y229.length co14) y274 := (by rw [hw, Ny274.out]; exact HP212.1); clear HP212; replace HO_7 := Aside0.mk (Kd.R_over' (xyr HO_7.out) (Kd.R_typed HO_6.out) (by decide) hg); replace HO_8 := Aside0.mk (Kd.R_over' (xyr HO_8.out) (Kd.R_typed HO_6.out) (by decide) hg); replace HO_9 := Aside0.mk (Kd.S_over' wy4 (Kd.R_typed HO_6.out) (by decide) hg); replace HO_10 := Aside0.mk (Kd.R_after (v := (.slice (some ⟨go14, 0, none⟩) y229.length co14)) (v1 := (.slice (some ⟨go14, 0, none⟩) y229.length co14)) (ok := (fun k_ => k_ ≠ gb226)) (xyr HO_10.out) hg (.inl rfl)); replace BK226 := Aside0.mk (blk_grown (g := gb226) (o := mobj x227000_1) (xyb BK226.out) hg (Kd.R_away HO_6.out (fun _ hk => hk.2))); replace BK228 := Aside0.mk (blk_grown (g := gb228) (o := .cells #[.int .i64 ((rd_T63 l1 x26_1).f0), .int .i64 ((rd_T63 l1 x26_1).f1), .int .i64 ((rd_T63 l1 x26_1).f2), .int .i64 ((rd_T63 l1 x26_1).f3), .int .i64 ((rd_T63 l1 x26_1).f4)] 63 (0, 0)) (xyb BK228.out) hg (Kd.R_ne HO_6.out BK228.out (by decide))); replace HO_6 := Aside0.mk (hp_); replace HB := Aside0.mk ((by rw [hw]; exact below_set (HB.out) GB14.out : Below w.heap.size w w213)); clear hg hw hp_; have q214 : ((ji126) : Int) ≤ ((x7_1.length : Int) : Int) := xyd; obtain ⟨i0214, hi0214, _, hsz214, _⟩ := info_parts info3; have hcut214 := cut_to (P := Try.prog) 101 3 .i64 Try.underlying101 hi0214 (some ad253) x7_1.length co26 (ji126) xyd q214 (Kd.R_reads' HO_7.out).2.1; have hr214 := Kd.R_take (m := ((ji126) : Int).toNat) HO_7.out (by omega); have hy214 : y275.length = ((ji126) : Int).toNat := (by rw [Ny275.out, List.length_take]; omega); rw [← Ny275.out] at hr214; rw [← hy214] at hr214 hcut214; clear hy214 hi0214 hsz214 HO_7; have HO277 := Aside0.mk hr214; clear hr214; replace q214 := eq_true q214; obtain ⟨Ao215, co215, eo215⟩ := Kd.R_slice HO_10.out; subst eo215; have p278 : 0 ≤ ((ji198) : Int) := xyd; have q278 : (ji198) < (x10_1.length : Int) := xyd; obtain ⟨ad278, e278, hx278_0⟩ := Kd.at_int (Kd.R_reads' HO_10.out).2.2 (ji198) p278 q278; cases e278; replace p278 := eq_true p278; replace q278 := eq_true q278))
         (try simp only [← hl6_16])
         go_roundg kj16
         case measure => have := HK1.out; have := HJ16.out; omega
         case rel => exact ⟨(y274), (y275), (x8_1), (x9_1), (x10_1), (wrap64 (x26_1 + 1)), (x227000_1), wy5, H', ⟨wy50⟩, ⟨wy18⟩, ⟨(by (try simp only [hl6_16]); (with_reducible repeat (first | apply Kd.R_alloc | apply Kd.R_drewN | apply Kd.R_drew)); exact HO277.out)⟩, ⟨wy22⟩, ⟨wy21⟩, ⟨wy34⟩, ⟨wy14⟩, ⟨wy1⟩⟩
        rw [if_neg c185] at H
        have c185b0 : mget x227000_1 (rd x7_1 (ji126)) = false := by simpa using c185
        clear c185
        replace H := zy_g H
        obtain ⟨c216, H⟩ := H
        have c216b0 : decide ((rd x7_1 (ji126)) < (y229.length : Int)) = true := decide_eq_true c216
        clear c216
        obtain ⟨y279, hy279⟩ : ∃ y_ : List Int, y_ = (y254.set ((rd x7_1 (ji126)) : Int).toNat x26_1) := ⟨_, rfl⟩
        replace H : (if (ji126) ≤ (x7_1.length : Int) then ((some (x7_1.take ((ji126) : Int).toNat : List Int)).bind fun y280 => (if (y280.length : Int) > 4 then (some (([] : List Int), false)) else (if 0 ≤ (wrap64 ((x10_1.length : Int) - 1)) then (if (wrap64 ((x10_1.length : Int) - 1)) < (x10_1.length : Int) then (if (rd x10_1 (wrap64 ((x10_1.length : Int) - 1))) > 64 then (some (([] : List Int), false)) else (impl_paired.l0 kj16 a0 l1 y279 y280 x8_1 x9_1 x10_1 l1 (l1.length : Int) (wrap64 (x26_1 + 1)) x227000_1)) else (none)) else (none)))) else (none)) = some (r1, r2) := by first | (rw [hy279]; with_reducible exact H) | (have H2_ := (Option.bind_some _ _).symm.trans H; rw [hy279]; with_reducible exact H2_) | (have H2_ := (Option.bind_some _ _).symm.trans H; with_reducible exact H2_) | with_reducible exact H | (rw [hy279]; exact H) | exact H
        have Ny279 := Aside0.mk hy279
        clear hy279
        replace H := zy_g H
        obtain ⟨c218, H⟩ := H
        have c218b0 := eq_true c218
        have c218b1 : decide ((ji126) ≤ (x7_1.length : Int)) = true := decide_eq_true c218
        clear c218
        obtain ⟨y280, hy280⟩ : ∃ y_ : List Int, y_ = (x7_1.take ((ji126) : Int).toNat) := ⟨_, rfl⟩
        replace H : (if (y280.length : Int) > 4 then (some (([] : List Int), false)) else (if 0 ≤ (wrap64 ((x10_1.length : Int) - 1)) then (if (wrap64 ((x10_1.length : Int) - 1)) < (x10_1.length : Int) then (if (rd x10_1 (wrap64 ((x10_1.length : Int) - 1))) > 64 then (some (([] : List Int), false)) else (impl_paired.l0 kj16 a0 l1 y279 y280 x8_1 x9_1 x10_1 l1 (l1.length : Int) (wrap64 (x26_1 + 1)) x227000_1)) else (none)) else (none))) = some (r1, r2) := by first | (rw [hy280]; with_reducible exact H) | (have H2_ := (Option.bind_some _ _).symm.trans H; rw [hy280]; with_reducible exact H2_) | (have H2_ := (Option.bind_some _ _).symm.trans H; with_reducible exact H2_) | with_reducible exact H | (rw [hy280]; exact H) | exact H
        have Ny280 := Aside0.mk hy280
        clear hy280
        by_cases c219 : (y280.length : Int) > 4
        ·rw [if_pos c219] at H
         have c219b0 : decide (4 < (y280.length : Int)) = true := decide_eq_true c219
         have c219b1 : decide (4 < y280.length) = true := decide_eq_true (by omega)
         clear c219
         simp only [Option.some.injEq, Prod.mk.injEq] at H
         obtain ⟨rfl, rfl⟩ := H
         have p253 : 0 ≤ ((ji126) : Int) := xyd
         have q253 : (ji126) < (x7_1.length : Int) := xyd
         obtain ⟨ad253, e253, hx253_0⟩ := Kd.at_int (Kd.R_reads' HO_7.out).2.2 (ji126) p253 q253
         cases e253
         replace p253 := eq_true p253
         replace q253 := eq_true q253
         have p131 : 0 ≤ (x26_1 : Int) := xyd
         have q131 : (x26_1 : Int) < ((y229.length : Int) : Int) := xyd
         obtain ⟨hx131_0, hf131_0⟩ := Kd.R_celln 0 HO_6.out (x26_1 : Int) p131 q131
         replace p131 := eq_true p131
         replace q131 := eq_true q131
         have HP220 := Kd.R_putg HO_6.out (x26_1 : Int) (rd x7_1 (ji126))
         go_wp2_with (first | ((with_reducible refine gate_store (t := 2) (p := 119) rfl ?_); refine xys ((wc.setCell ⟨go14, (x26_1 : Int).toNat, none⟩ (.int .i64 (rd x7_1 (ji126))))) ?_; intro w221 hw; have hg : wc.grownBy w221 (some go14) := (by rw [hw]; exact HP220.2); have hp_ : Kd.R (Kd.int .i64) 2 w221 w.heap.size (fun k_ => some k_ ≠ (u10 : Value).ownBlock ∧ k_ ≠ gb226) (.slice (some ⟨go14, 0, none⟩) y229.length co14) y254 := (by rw [hw, Ny254.out]; exact HP220.1); clear HP220; replace HO_7 := Aside0.mk (Kd.R_over' (xyr HO_7.out) (Kd.R_typed HO_6.out) (by decide) hg); replace HO_8 := Aside0.mk (Kd.R_over' (xyr HO_8.out) (Kd.R_typed HO_6.out) (by decide) hg); replace HO_9 := Aside0.mk (Kd.S_over' wy4 (Kd.R_typed HO_6.out) (by decide) hg); replace HO_10 := Aside0.mk (Kd.R_after (v := (.slice (some ⟨go14, 0, none⟩) y229.length co14)) (v1 := (.slice (some ⟨go14, 0, none⟩) y229.length co14)) (ok := (fun k_ => k_ ≠ gb226)) wy10 hg (.inl rfl)); replace BK226 := Aside0.mk (blk_grown (g := gb226) (o := mobj x227000_1) (xyb BK226.out) hg (Kd.R_away HO_6.out (fun _ hk => hk.2))); replace BK228 := Aside0.mk (blk_grown (g := gb228) (o := .cells #[.int .i64 ((rd_T63 l1 x26_1).f0), .int .i64 ((rd_T63 l1 x26_1).f1), .int .i64 ((rd_T63 l1 x26_1).f2), .int .i64 ((rd_T63 l1 x26_1).f3), .int .i64 ((rd_T63 l1 x26_1).f4)] 63 (0, 0)) (xyb BK228.out) hg (Kd.R_ne HO_6.out BK228.out (by decide))); replace HO_6 := Aside0.mk (hp_); replace HB := Aside0.mk ((by rw [hw]; exact below_set (HB.out) GB14.out : Below w.heap.size w w221)); clear hg hw hp_; have p255 : 0 ≤ ((rd x7_1 (ji126)) : Int) := xyd; have q255 : (rd x7_1 (ji126)) < (l1.length : Int) := xyd; obtain ⟨ad255, e255, hx255_0, hx255_1, hx255_2, hx255_3, hx255_4⟩ := at_T63 HR1.out (rd x7_1 (ji126)) p255 q255; obtain rfl : ad227 = ad255 := (by injection e255); replace hx255_0 := xyh HB.out hx255_0; replace hx255_1 := xyh HB.out hx255_1; replace hx255_2 := xyh HB.out hx255_2; replace hx255_3 := xyh HB.out hx255_3; replace hx255_4 := xyh HB.out hx255_4; replace p255 := eq_true p255; replace q255 := eq_true q255; have hmlm222 : (Instr.lookup 103 (.map (some gb226)) (.int .i64 (rd x7_1 (ji126))) false).run Try.prog w221 = .ok (.bool (mget x227000_1 (rd x7_1 (ji126)))) w221 := (run_mget (P := Try.prog) (w := w221) (t := 103) (kt := 3) (et := 4) (xyb BK226.out) (by kernel_rfl) (by kernel_rfl) (by rfl) (rd x7_1 (ji126))); have p217 : 0 ≤ ((rd x7_1 (ji126)) : Int) := xyd; have q217 : ((rd x7_1 (ji126)) : Int) < ((y229.length : Int) : Int) := xyd; obtain ⟨hx217_0, hf217_0⟩ := Kd.R_celln 0 HO_6.out ((rd x7_1 (ji126)) : Int) p217 q217; replace p217 := eq_true p217; replace q217 := eq_true q217; obtain ⟨hy223_, hz223_⟩ := Kd.R_celln 0 HO_6.out ((rd x7_1 (ji126)) : Int) xyd xyd; have HP223 := Kd.R_putg HO_6.out ((rd x7_1 (ji126)) : Int) x26_1) | ((with_reducible refine gate_store (t := 2) (p := 123) rfl ?_); refine xys ((w221.setCell ⟨go14, ((rd x7_1 (ji126)) : Int).toNat, none⟩ (.int .i64 x26_1))) ?_; intro w224 hw; have hg : w221.grownBy w224 (some go14) := (by rw [hw]; exact HP223.2); have hp_ : Kd.R (Kd.int .i64) 2 w224 w.heap.size (fun k_ => some k_ ≠ (u10 : Value).ownBlock ∧ k_ ≠ gb226) (.slice (some ⟨go14, 0, none⟩) y229.length co14) y279 := (by rw [hw, Ny279.out]; exact HP223.1); clear HP223; replace HO_7 := Aside0.mk (Kd.R_over' (xyr HO_7.out) (Kd.R_typed HO_6.out) (by decide) hg); replace HO_8 := Aside0.mk (Kd.R_over' (xyr HO_8.out) (Kd.R_typed HO_6.out) (by decide) hg); replace HO_9 := Aside0.mk (Kd.S_over' wy4 (Kd.R_typed HO_6.out) (by decide) hg); replace HO_10 := Aside0.mk (Kd.R_after (v := (.slice (some ⟨go14, 0, none⟩) y229.length co14)) (v1 := (.slice (some ⟨go14, 0, none⟩) y229.length co14)) (ok := (fun k_ => k_ ≠ gb226)) (xyr HO_10.out) hg (.inl rfl)); replace BK226 := Aside0.mk (blk_grown (g := gb226) (o := mobj x227000_1) (xyb BK226.out) hg (Kd.R_away HO_6.out (fun _ hk => hk.2))); replace BK228 := Aside0.mk (blk_grown (g := gb228) (o := .cells #[.int .i64 ((rd_T63 l1 x26_1).f0), .int .i64 ((rd_T63 l1 x26_1).f1), .int .i64 ((rd_T63 l1 x26_1).f2), .int .i64 ((rd_T63 l1 x26_1).f3), .int .i64 ((rd_T63 l1 x26_1).f4)] 63 (0, 0)) (xyb BK228.out) hg (Kd.R_ne HO_6.out BK228.out (by decide))); replace HO_6 := Aside0.mk (hp_); replace HB := Aside0.mk ((by rw [hw]; exact below_set (HB.out) GB14.out : Below w.heap.size w w224)); clear hg hw hp_; have q225 : ((ji126) : Int) ≤ ((x7_1.length : Int) : Int) := xyd; obtain ⟨i0225, hi0225, _, hsz225, _⟩ := info_parts info3; have hcut225 := cut_to (P := Try.prog) 101 3 .i64 Try.underlying101 hi0225 (some ad253) x7_1.length co26 (ji126) xyd q225 (Kd.R_reads' HO_7.out).2.1; have hr225 := Kd.R_take (m := ((ji126) : Int).toNat) HO_7.out (by omega); have hy225 : y280.length = ((ji126) : Int).toNat := (by rw [Ny280.out, List.length_take]; omega); rw [← Ny280.out] at hr225; rw [← hy225] at hr225 hcut225; clear hy225 hi0225 hsz225 HO_7; have HO282 := Aside0.mk hr225; clear hr225; replace q225 := eq_true q225))
         go_ret2
         exact ⟨_, (by first | rfl | (simp [errW_none, errW_some] <;> rfl) | (simp only [← hji126]; first | rfl | (simp [errW_none, errW_some] <;> rfl)) | (simp [*, errW_none, errW_some] <;> rfl)), wy7, wy1⟩
        rw [if_neg c219] at H
        have c219b0 : decide (4 < (y280.length : Int)) = false := decide_eq_false c219
        have c219b1 : decide (4 < y280.length) = false := decide_eq_false (by omega)
        clear c219
        (try clear hji34w)
        (try clear hji34)
        (try clear hji77w)
        (try clear hji77)
        (try clear hji112w)
        (try clear hji112)
        (try clear hji157w)
        (try clear hji157)
        (try clear hji198w)
        (try clear hji198)
        obtain ⟨ji226, hji226⟩ : ∃ j_ : Int, (wrap64 ((x10_1.length : Int) - 1)) = j_ := ⟨_, rfl⟩
        replace H : (if 0 ≤ (ji226) then (if (ji226) < (x10_1.length : Int) then (if (rd x10_1 (ji226)) > 64 then (some (([] : List Int), false)) else (impl_paired.l0 kj16 a0 l1 y279 y280 x8_1 x9_1 x10_1 l1 (l1.length : Int) (wrap64 (x26_1 + 1)) x227000_1)) else (none)) else (none)) = some (r1, r2) := by first | (rw [hji226] at H; exact H) | (simp only [hji226] at H ⊢; exact H)
        have hji226w : (IntKind.i64.wrap ((x10_1.length : Int) - 1)) = ji226 := (i64_w _).trans hji226
        replace H := zy_g H
        obtain ⟨c227, H⟩ := H
        have c227b0 : decide (0 ≤ (ji226)) = true := decide_eq_true c227
        clear c227
        replace H := zy_g H
        obtain ⟨c228, H⟩ := H
        have c228b0 : decide ((ji226) < (x10_1.length : Int)) = true := decide_eq_true c228
        clear c228
        by_cases c229 : (rd x10_1 (ji226)) > 64
        ·rw [if_pos c229] at H
         have c229b0 : decide (64 < (rd x10_1 (ji226))) = true := decide_eq_true c229
         clear c229
         simp only [Option.some.injEq, Prod.mk.injEq] at H
         obtain ⟨rfl, rfl⟩ := H
         have p253 : 0 ≤ ((ji126) : Int) := xyd
         have q253 : (ji126) < (x7_1.length : Int) := xyd
         obtain ⟨ad253, e253, hx253_0⟩ := Kd.at_int (Kd.R_reads' HO_7.out).2.2 (ji126) p253 q253
         cases e253
         replace p253 := eq_true p253
         replace q253 := eq_true q253
         have p131 : 0 ≤ (x26_1 : Int) := xyd
         have q131 : (x26_1 : Int) < ((y229.length : Int) : Int) := xyd
         obtain ⟨hx131_0, hf131_0⟩ := Kd.R_celln 0 HO_6.out (x26_1 : Int) p131 q131
         replace p131 := eq_true p131
         replace q131 := eq_true q131
         have HP230 := Kd.R_putg HO_6.out (x26_1 : Int) (rd x7_1 (ji126))
         go_wp2_with (first | ((with_reducible refine gate_store (t := 2) (p := 119) rfl ?_); refine xys ((wc.setCell ⟨go14, (x26_1 : Int).toNat, none⟩ (.int .i64 (rd x7_1 (ji126))))) ?_; intro w231 hw; have hg : wc.grownBy w231 (some go14) := (by rw [hw]; exact HP230.2); have hp_ : Kd.R (Kd.int .i64) 2 w231 w.heap.size (fun k_ => some k_ ≠ (u10 : Value).ownBlock ∧ k_ ≠ gb226) (.slice (some ⟨go14, 0, none⟩) y229.length co14) y254 := (by rw [hw, Ny254.out]; exact HP230.1); clear HP230; replace HO_7 := Aside0.mk (Kd.R_over' (xyr HO_7.out) (Kd.R_typed HO_6.out) (by decide) hg); replace HO_8 := Aside0.mk (Kd.R_over' (xyr HO_8.out) (Kd.R_typed HO_6.out) (by decide) hg); replace HO_9 := Aside0.mk (Kd.S_over' wy4 (Kd.R_typed HO_6.out) (by decide) hg); replace HO_10 := Aside0.mk (Kd.R_after (v := (.slice (some ⟨go14, 0, none⟩) y229.length co14)) (v1 := (.slice (some ⟨go14, 0, none⟩) y229.length co14)) (ok := (fun k_ => k_ ≠ gb226)) wy10 hg (.inl rfl)); replace BK226 := Aside0.mk (blk_grown (g := gb226) (o := mobj x227000_1) (xyb BK226.out) hg (Kd.R_away HO_6.out (fun _ hk => hk.2))); replace BK228 := Aside0.mk (blk_grown (g := gb228) (o := .cells #[.int .i64 ((rd_T63 l1 x26_1).f0), .int .i64 ((rd_T63 l1 x26_1).f1), .int .i64 ((rd_T63 l1 x26_1).f2), .int .i64 ((rd_T63 l1 x26_1).f3), .int .i64 ((rd_T63 l1 x26_1).f4)] 63 (0, 0)) (xyb BK228.out) hg (Kd.R_ne HO_6.out BK228.out (by decide))); replace HO_6 := Aside0.mk (hp_); replace HB := Aside0.mk ((by rw [hw]; exact below_set (HB.out) GB14.out : Below w.heap.size w w231)); clear hg hw hp_; have p255 : 0 ≤ ((rd x7_1 (ji126)) : Int) := xyd; have q255 : (rd x7_1 (ji126)) < (l1.length : Int) := xyd; obtain ⟨ad255, e255, hx255_0, hx255_1, hx255_2, hx255_3, hx255_4⟩ := at_T63 HR1.out (rd x7_1 (ji126)) p255 q255; obtain rfl : ad227 = ad255 := (by injection e255); replace hx255_0 := xyh HB.out hx255_0; replace hx255_1 := xyh HB.out hx255_1; replace hx255_2 := xyh HB.out hx255_2; replace hx255_3 := xyh HB.out hx255_3; replace hx255_4 := xyh HB.out hx255_4; replace p255 := eq_true p255; replace q255 := eq_true q255; have hmlm232 : (Instr.lookup 103 (.map (some gb226)) (.int .i64 (rd x7_1 (ji126))) false).run Try.prog w231 = .ok (.bool (mget x227000_1 (rd x7_1 (ji126)))) w231 := (run_mget (P := Try.prog) (w := w231) (t := 103) (kt := 3) (et := 4) (xyb BK226.out) (by kernel_rfl) (by kernel_rfl) (by rfl) (rd x7_1 (ji126))); have p217 : 0 ≤ ((rd x7_1 (ji126)) : Int) := xyd; have q217 : ((rd x7_1 (ji126)) : Int) < ((y229.length : Int) : Int) := xyd; obtain ⟨hx217_0, hf217_0⟩ := Kd.R_celln 0 HO_6.out ((rd x7_1 (ji126)) : Int) p217 q217; replace p217 := eq_true p217; replace q217 := eq_true q217; obtain ⟨hy233_, hz233_⟩ := Kd.R_celln 0 HO_6.out ((rd x7_1 (ji126)) : Int) xyd xyd; have HP233 := Kd.R_putg HO_6.out ((rd x7_1 (ji126)) : Int) x26_1) | ((with_reducible refine gate_store (t := 2) (p := 123) rfl ?_); refine xys ((w231.setCell ⟨go14, ((rd x7_1 (ji126)) : Int).toNat, none⟩ (.int .i64 x26_1))) ?_; intro w234 hw; have hg : w231.grownBy w234 (some go14) := (by rw [hw]; exact HP233.2); have hp_ : Kd.R (Kd.int .i64) 2 w234 w.heap.size (fun k_ => some k_ ≠ (u10 : Value).ownBlock ∧ k_ ≠ gb226) (.slice (some ⟨go14, 0, none⟩) y229.length co14) y279 := (by rw [hw, Ny279.out]; exact HP233.1); clear HP233; replace HO_7 := Aside0.mk (Kd.R_over' (xyr HO_7.out) (Kd.R_typed HO_6.out) (by decide) hg); replace HO_8 := Aside0.mk (Kd.R_over' (xyr HO_8.out) (Kd.R_typed HO_6.out) (by decide) hg); replace HO_9 := Aside0.mk (Kd.S_over' wy4 (Kd.R_typed HO_6.out) (by decide) hg); replace HO_10 := Aside0.mk (Kd.R_after (v := (.slice (some ⟨go14, 0, none⟩) y229.length co14)) (v1 := (.slice (some ⟨go14, 0, none⟩) y229.length co14)) (ok := (fun k_ => k_ ≠ gb226)) (xyr HO_10.out) hg (.inl rfl)); replace BK226 := Aside0.mk (blk_grown (g := gb226) (o := mobj x227000_1) (xyb BK226.out) hg (Kd.R_away HO_6.out (fun _ hk => hk.2))); replace BK228 := Aside0.mk (blk_grown (g := gb228) (o := .cells #[.int .i64 ((rd_T63 l1 x26_1).f0), .int .i64 ((rd_T63 l1 x26_1).f1), .int .i64 ((rd_T63 l1 x26_1).f2), .int .i64 ((rd_T63 l1 x26_1).f3), .int .i64 ((rd_T63 l1 x26_1).f4)] 63 (0, 0)) (xyb BK228.out) hg (Kd.R_ne HO_6.out BK228.out (by decide))); replace HO_6 := Aside0.mk (hp_); replace HB := Aside0.mk ((by rw [hw]; exact below_set (HB.out) GB14.out : Below w.heap.size w w234)); clear hg hw hp_; have q235 : ((ji126) : Int) ≤ ((x7_1.length : Int) : Int) := xyd; obtain ⟨i0235, hi0235, _, hsz235, _⟩ := info_parts info3; have hcut235 := cut_to (P := Try.prog) 101 3 .i64 Try.underlying101 hi0235 (some ad253) x7_1.length co26 (ji126) xyd q235 (Kd.R_reads' HO_7.out).2.1; have hr235 := Kd.R_take (m := ((ji126) : Int).toNat) HO_7.out (by omega); have hy235 : y280.length = ((ji126) : Int).toNat := (by rw [Ny280.out, List.length_take]; omega); rw [← Ny280.out] at hr235; rw [← hy235] at hr235 hcut235; clear hy235 hi0235 hsz235 HO_7; have HO282 := Aside0.mk hr235; clear hr235; replace q235 := eq_true q235; obtain ⟨Ao236, co236, eo236⟩ := Kd.R_slice HO_10.out; subst eo236; have p283 : 0 ≤ ((ji226) : Int) := xyd; have q283 : (ji226) < (x10_1.length : Int) := xyd; obtain ⟨ad283, e283, hx283_0⟩ := Kd.at_int (Kd.R_reads' HO_10.out).2.2 (ji226) p283 q283; cases e283; replace p283 := eq_true p283; replace q283 := eq_true q283))
         go_ret2
         exact ⟨_, (by first | rfl | (simp [errW_none, errW_some] <;> rfl) | (simp only [← hji126, ← hji226]; first | rfl | (simp [errW_none, errW_some] <;> rfl)) | (simp [*, errW_none, errW_some] <;> rfl)), wy7, wy1⟩
        rw [if_neg c229] at H
        have c229b0 : decide (64 < (rd x10_1 (ji226))) = false := decide_eq_false c229
        clear c229
        have H' := Aside0.mk H
        clear H
        have p253 : 0 ≤ ((ji126) : Int) := xyd
        have q253 : (ji126) < (x7_1.length : Int) := xyd
        obtain ⟨ad253, e253, hx253_0⟩ := Kd.at_int (Kd.R_reads' HO_7.out).2.2 (ji126) p253 q253
        cases e253
        replace p253 := eq_true p253
        replace q253 := eq_true q253
        have p131 : 0 ≤ (x26_1 : Int) := xyd
        have q131 : (x26_1 : Int) < ((y229.length : Int) : Int) := xyd
        obtain ⟨hx131_0, hf131_0⟩ := Kd.R_celln 0 HO_6.out (x26_1 : Int) p131 q131
        replace p131 := eq_true p131
        replace q131 := eq_true q131
        have HP237 := Kd.R_putg HO_6.out (x26_1 : Int) (rd x7_1 (ji126))
        go_wp2_with (first | ((with_reducible refine gate_store (t := 2) (p := 119) rfl ?_); refine xys ((wc.setCell ⟨go14, (x26_1 : Int).toNat, none⟩ (.int .i64 (rd x7_1 (ji126))))) ?_; intro w238 hw; have hg : wc.grownBy w238 (some go14) := (by rw [hw]; exact HP237.2); have hp_ : Kd.R (Kd.int .i64) 2 w238 w.heap.size (fun k_ => some k_ ≠ (u10 : Value).ownBlock ∧ k_ ≠ gb226) (.slice (some ⟨go14, 0, none⟩) y229.length co14) y254 := (by rw [hw, Ny254.out]; exact HP237.1); clear HP237; replace HO_7 := Aside0.mk (Kd.R_over' (xyr HO_7.out) (Kd.R_typed HO_6.out) (by decide) hg); replace HO_8 := Aside0.mk (Kd.R_over' (xyr HO_8.out) (Kd.R_typed HO_6.out) (by decide) hg); replace HO_9 := Aside0.mk (Kd.S_over' wy4 (Kd.R_typed HO_6.out) (by decide) hg); replace HO_10 := Aside0.mk (Kd.R_after (v := (.slice (some ⟨go14, 0, none⟩) y229.length co14)) (v1 := (.slice (some ⟨go14, 0, none⟩) y229.length co14)) (ok := (fun k_ => k_ ≠ gb226)) wy10 hg (.inl rfl)); replace BK226 := Aside0.mk (blk_grown (g := gb226) (o := mobj x227000_1) (xyb BK226.out) hg (Kd.R_away HO_6.out (fun _ hk => hk.2))); replace BK228 := Aside0.mk (blk_grown (g := gb228) (o := .cells #[.int .i64 ((rd_T63 l1 x26_1).f0), .int .i64 ((rd_T63 l1 x26_1).f1), .int .i64 ((rd_T63 l1 x26_1).f2), .int .i64 ((rd_T63 l1 x26_1).f3), .int .i64 ((rd_T63 l1 x26_1).f4)] 63 (0, 0)) (xyb BK228.out) hg (Kd.R_ne HO_6.out BK228.out (by decide))); replace HO_6 := Aside0.mk (hp_); replace HB := Aside0.mk ((by rw [hw]; exact below_set (HB.out) GB14.out : Below w.heap.size w w238)); clear hg hw hp_; have p255 : 0 ≤ ((rd x7_1 (ji126)) : Int) := xyd; have q255 : (rd x7_1 (ji126)) < (l1.length : Int) := xyd; obtain ⟨ad255, e255, hx255_0, hx255_1, hx255_2, hx255_3, hx255_4⟩ := at_T63 HR1.out (rd x7_1 (ji126)) p255 q255; obtain rfl : ad227 = ad255 := (by injection e255); replace hx255_0 := xyh HB.out hx255_0; replace hx255_1 := xyh HB.out hx255_1; replace hx255_2 := xyh HB.out hx255_2; replace hx255_3 := xyh HB.out hx255_3; replace hx255_4 := xyh HB.out hx255_4; replace p255 := eq_true p255; replace q255 := eq_true q255; have hmlm239 : (Instr.lookup 103 (.map (some gb226)) (.int .i64 (rd x7_1 (ji126))) false).run Try.prog w238 = .ok (.bool (mget x227000_1 (rd x7_1 (ji126)))) w238 := (run_mget (P := Try.prog) (w := w238) (t := 103) (kt := 3) (et := 4) (xyb BK226.out) (by kernel_rfl) (by kernel_rfl) (by rfl) (rd x7_1 (ji126))); have p217 : 0 ≤ ((rd x7_1 (ji126)) : Int) := xyd; have q217 : ((rd x7_1 (ji126)) : Int) < ((y229.length : Int) : Int) := xyd; obtain ⟨hx217_0, hf217_0⟩ := Kd.R_celln 0 HO_6.out ((rd x7_1 (ji126)) : Int) p217 q217; replace p217 := eq_true p217; replace q217 := eq_true q217; obtain ⟨hy240_, hz240_⟩ := Kd.R_celln 0 HO_6.out ((rd x7_1 (ji126)) : Int) xyd xyd; have HP240 := Kd.R_putg HO_6.out ((rd x7_1 (ji126)) : Int) x26_1) | ((with_reducible refine gate_store (t := 2) (p := 123) rfl ?_); refine xys ((w238.setCell ⟨go14, ((rd x7_1 (ji126)) : Int).toNat, none⟩ (.int .i64 x26_1))) ?_; intro w241 hw; have hg : w238.grownBy w241 (some go14) := (by rw [hw]; exact HP240.2); have hp_ : Kd.R (Kd.int .i64) 2 w241 w.heap.size (fun k_ => some k_ ≠ (u10 : Value).ownBlock ∧ k_ ≠ gb226) (.slice (some ⟨go14, 0, none⟩) y229.length co14) y279 := (by rw [hw, Ny279.out]; exact HP240.1); clear HP240; replace HO_7 := Aside0.mk (Kd.R_over' (xyr HO_7.out) (Kd.R_typed HO_6.out) (by decide) hg); replace HO_8 := Aside0.mk (Kd.R_over' (xyr HO_8.out) (Kd.R_typed HO_6.out) (by decide) hg); replace HO_9 := Aside0.mk (Kd.S_over' wy4 (Kd.R_typed HO_6.out) (by decide) hg); replace HO_10 := Aside0.mk (Kd.R_after (v := (.slice (some ⟨go14, 0, none⟩) y229.length co14)) (v1 := (.slice (some ⟨go14, 0, none⟩) y229.length co14)) (ok := (fun k_ => k_ ≠ gb226)) (xyr HO_10.out) hg (.inl rfl)); replace BK226 := Aside0.mk (blk_grown (g := gb226) (o := mobj x227000_1) (xyb BK226.out) hg (Kd.R_away HO_6.out (fun _ hk => hk.2))); replace BK228 := Aside0.mk (blk_grown (g := gb228) (o := .cells #[.int .i64 ((rd_T63 l1 x26_1).f0), .int .i64 ((rd_T63 l1 x26_1).f1), .int .i64 ((rd_T63 l1 x26_1).f2), .int .i64 ((rd_T63 l1 x26_1).f3), .int .i64 ((rd_T63 l1 x26_1).f4)] 63 (0, 0)) (xyb BK228.out) hg (Kd.R_ne HO_6.out BK228.out (by decide))); replace HO_6 := Aside0.mk (hp_); replace HB := Aside0.mk ((by rw [hw]; exact below_set (HB.out) GB14.out : Below w.heap.size w w241)); clear hg hw hp_; have q242 : ((ji126) : Int) ≤ ((x7_1.length : Int) : Int) := xyd; obtain ⟨i0242, hi0242, _, hsz242, _⟩ := info_parts info3; have hcut242 := cut_to (P := Try.prog) 101 3 .i64 Try.underlying101 hi0242 (some ad253) x7_1.length co26 (ji126) xyd q242 (Kd.R_reads' HO_7.out).2.1; have hr242 := Kd.R_take (m := ((ji126) : Int).toNat) HO_7.out (by omega); have hy242 : y280.length = ((ji126) : Int).toNat := (by rw [Ny280.out, List.length_take]; omega); rw [← Ny280.out] at hr242; rw [← hy242] at hr242 hcut242; clear hy242 hi0242 hsz242 HO_7; have HO282 := Aside0.mk hr242; clear hr242; replace q242 := eq_true q242; obtain ⟨Ao243, co243, eo243⟩ := Kd.R_slice HO_10.out; subst eo243; have p283 : 0 ≤ ((ji226) : Int) := xyd; have q283 : (ji226) < (x10_1.length : Int) := xyd; obtain ⟨ad283, e283, hx283_0⟩ := Kd.at_int (Kd.R_reads' HO_10.out).2.2 (ji226) p283 q283; cases e283; replace p283 := eq_true p283; replace q283 := eq_true q283))
        (try simp only [← hl6_16])
        go_roundg kj16
        case measure => have := HK1.out; have := HJ16.out; omega
        case rel => exact ⟨(y279), (y280), (x8_1), (x9_1), (x10_1), (wrap64 (x26_1 + 1)), (x227000_1), wy5, H', ⟨wy50⟩, ⟨wy18⟩, ⟨(by (try simp only [hl6_16]); (with_reducible repeat (first | apply Kd.R_alloc | apply Kd.R_drewN | apply Kd.R_drew)); exact HO282.out)⟩, ⟨wy22⟩, ⟨wy21⟩, ⟨wy34⟩, ⟨wy14⟩, ⟨wy1⟩⟩
       rw [if_neg c124] at H
       have c124b0 : (((rd_T63 l1 x26_1).f0) == 4) = false := beq_eq_false_iff_ne.mpr c124
       have c124b1 : (((rd_T63 l1 x26_1).f0) != 4) = true := bne_iff_ne.mpr c124
       by_cases c244 : ((rd_T63 l1 x26_1).f0) = 6
       ·as_aux_lemma =>
        rw [if_pos c244] at H
        have c244b0 : (((rd_T63 l1 x26_1).f0) == 6) = true := beq_iff_eq.mpr c244
        have c244b1 : (((rd_T63 l1 x26_1).f0) != 6) = false := bne_eq_false_iff_eq.mpr c244
        clear c244
        by_cases c245 : (x8_1.length : Int) = 0
        ·rw [if_pos c245] at H
         have c245b0 : ((x8_1.length : Int) == 0) = true := beq_iff_eq.mpr c245
         have c245b1 : ((x8_1.length : Int) != 0) = false := bne_eq_false_iff_eq.mpr c245
         clear c245
         simp only [Option.some.injEq, Prod.mk.injEq] at H
         obtain ⟨rfl, rfl⟩ := H
         obtain ⟨Ao246, co246, eo246⟩ := Kd.R_slice HO_8.out
         subst eo246
         go_wp2
         go_ret2
         exact ⟨_, wy3, wy7, wy1⟩
        rw [if_neg c245] at H
        have c245b0 : ((x8_1.length : Int) == 0) = false := beq_eq_false_iff_ne.mpr c245
        have c245b1 : ((x8_1.length : Int) != 0) = true := bne_iff_ne.mpr c245
        have c245b2 : ¬ (x8_1 = []) := fun h_ => c245 (by rw [h_]; rfl)
        (try clear hji137w)
        (try clear hji137)
        obtain ⟨ji247, hji247⟩ : ∃ j_ : Int, (wrap64 ((x8_1.length : Int) - 1)) = j_ := ⟨_, rfl⟩
        replace H : (if 0 ≤ (ji247) then (if (ji247) < (x9_1.length : Int) then (if (rd_L5 x9_1 (ji247)).length < 17592186044416 then (if (x7_1.length : Int) > 4 then (some (([] : List Int), false)) else (if 0 ≤ (wrap64 ((x10_1.length : Int) - 1)) then (if (wrap64 ((x10_1.length : Int) - 1)) < (x10_1.length : Int) then (if (rd x10_1 (wrap64 ((x10_1.length : Int) - 1))) > 64 then (some (([] : List Int), false)) else (impl_paired.l0 kj16 a0 l1 y229 x7_1 x8_1 (x9_1.set ((ji247) : Int).toNat ((rd_L5 x9_1 (ji247)) ++ [x26_1])) x10_1 l1 (l1.length : Int) (wrap64 (x26_1 + 1)) x227000_1)) else (none)) else (none))) else (none)) else (none)) else (none)) = some (r1, r2) := by first | (rw [hji247] at H; exact H) | (simp only [hji247] at H ⊢; exact H)
        have hji247w : (IntKind.i64.wrap ((x8_1.length : Int) - 1)) = ji247 := (i64_w _).trans hji247
        replace H := zy_g H
        obtain ⟨c248, H⟩ := H
        have c248b0 : decide (0 ≤ (ji247)) = true := decide_eq_true c248
        clear c248
        replace H := zy_g H
        obtain ⟨c249, H⟩ := H
        have c249b0 : decide ((ji247) < (x9_1.length : Int)) = true := decide_eq_true c249
        clear c249
        replace H := zy_g H
        obtain ⟨c250, H⟩ := H
        have LMc250 := Aside0.mk c250
        clear c250
        obtain ⟨y285, hy285⟩ : ∃ y_ : List Int, y_ = ((rd_L5 x9_1 (ji247)) ++ [x26_1]) := ⟨_, rfl⟩
        replace H : (if (x7_1.length : Int) > 4 then (some (([] : List Int), false)) else (if 0 ≤ (wrap64 ((x10_1.length : Int) - 1)) then (if (wrap64 ((x10_1.length : Int) - 1)) < (x10_1.length : Int) then (if (rd x10_1 (wrap64 ((x10_1.length : Int) - 1))) > 64 then (some (([] : List Int), false)) else (impl_paired.l0 kj16 a0 l1 y229 x7_1 x8_1 (x9_1.set ((ji247) : Int).toNat y285) x10_1 l1 (l1.length : Int) (wrap64 (x26_1 + 1)) x227000_1)) else (none)) else (none))) = some (r1, r2) := by first | (rw [hy285]; with_reducible exact H) | (have H2_ := (Option.bind_some _ _).symm.trans H; rw [hy285]; with_reducible exact H2_) | (have H2_ := (Option.bind_some _ _).symm.trans H; with_reducible exact H2_) | with_reducible exact H | (rw [hy285]; exact H) | exact H
        have Ny285 := Aside0.mk hy285
        clear hy285
        obtain ⟨y288, hy288⟩ : ∃ y_ : List (List Int), y_ = (x9_1.set ((ji247) : Int).toNat y285) := ⟨_, rfl⟩
        replace H : (if (x7_1.length : Int) > 4 then (some (([] : List Int), false)) else (if 0 ≤ (wrap64 ((x10_1.length : Int) - 1)) then (if (wrap64 ((x10_1.length : Int) - 1)) < (x10_1.length : Int) then (if (rd x10_1 (wrap64 ((x10_1.length : Int) - 1))) > 64 then (some (([] : List Int), false)) else (impl_paired.l0 kj16 a0 l1 y229 x7_1 x8_1 y288 x10_1 l1 (l1.length : Int) (wrap64 (x26_1 + 1)) x227000_1)) else (none)) else (none))) = some (r1, r2) := by first | (rw [hy288]; with_reducible exact H) | (have H2_ := (Option.bind_some _ _).symm.trans H; rw [hy288]; with_reducible exact H2_) | (have H2_ := (Option.bind_some _ _).symm.trans H; with_reducible exact H2_) | with_reducible exact H | (rw [hy288]; exact H) | exact H
        have Ny288 := Aside0.mk hy288
        clear hy288
        by_cases c252 : (x7_1.length : Int) > 4
        ·rw [if_pos c252] at H
         have c252b0 : decide (4 < (x7_1.length : Int)) = true := decide_eq_true c252
         have c252b1 : decide (4 < x7_1.length) = true := decide_eq_true (by omega)
         clear c252
         simp only [Option.some.injEq, Prod.mk.injEq] at H
         obtain ⟨rfl, rfl⟩ := H
         obtain ⟨Ao253, co253, eo253⟩ := Kd.R_slice HO_8.out
         subst eo253
         obtain ⟨Ao254, co254, eo254⟩ := Kd.S_slice HO_9.out
         subst eo254
         have p284 : 0 ≤ ((ji247) : Int) := xyd
         have q284 : (ji247) < (x9_1.length : Int) := xyd
         obtain ⟨ad284, A284_0, c284_0, e284, hx284_0, hl284_0, hi284_0⟩ := at_L5 (Kd.S_reads' HO_9.out).2.2 (ji247) p284 q284
         cases e284
         obtain ⟨ce284, hce284, hMe284, hcc284⟩ := Kd.S_get HO_9.out [] (ji247) p284 (by first | exact q284 | exact xyd | (have e_ := (Kd.S_reads' HO_9.out).1; omega))
         obtain ⟨ve284_0, rfl, ge284_0⟩ := hMe284
         have hv284_0 := hcc284 0 _ rfl
         rw [Nat.add_zero, show ((Kd.slice 3 (Kd.int .i64))).sz = 1 from rfl, Nat.mul_one] at hv284_0
         replace hv284_0 := Option.some.inj (hv284_0.symm.trans hx284_0)
         rw [hv284_0] at ge284_0
         have HL284_0 := Aside0.mk (show Kd.R (Kd.int .i64) 3 _ _ _ _ (rd_L5 x9_1 (ji247)) from ge284_0)
         clear hv284_0 ge284_0
         have HX284_0 := Aside0.mk hx284_0
         clear hcc284 hce284
         have HR284_0 := Aside0.mk hi284_0
         have HC284_0 := Aside0.mk hl284_0
         clear hi284_0 hl284_0
         replace p284 := eq_true p284
         replace q284 := eq_true q284
         obtain ⟨go255, co255, eo255, gb255, gl255, cl255, HG255⟩ := Kd.S_form HO_9.out (by have h_ : ((ji247) : Int) < ((x9_1.length : Int) : Int) := xyd; have h2_ : 0 ≤ ((ji247) : Int) := xyd; omega)
         (first | cases eo255 | (injection eo255 with ea_ en_ ec_; (first | subst ea_ | (injection ea_ with ea_; subst ea_)); subst ec_; clear en_))
         have GB255 := Aside0.mk gb255
         have GG255 := Aside0.mk HG255
         clear gb255 gl255 HG255
         (first | simp only [add_plain] at hx284_0 | skip)
         obtain ⟨oki255, ce255, hcl255, hM255, hcc255, _, _, hH255⟩ := Kd.S_elem HO_9.out [] ((ji247) : Int) xyd (by have h_ : ((ji247) : Int) < ((x9_1.length : Int) : Int) := xyd; first | exact h_ | (have e_ := (Kd.S_reads' HO_9.out).1; omega) | simpa using h_)
         obtain ⟨ve255_0, rfl, ge255_0⟩ := hM255
         have hv255 := hcc255 0 _ rfl
         have hX255 := HX284_0.out
         (try simp only [add_plain] at hX255)
         (try simp only [Nat.add_zero] at hv255)
         (try rw [show ((Kd.slice 3 (Kd.int .i64))).sz = 1 from rfl, Nat.mul_one] at hv255)
         replace hv255 := Option.some.inj (hv255.symm.trans hX255)
         subst hv255
         clear hX255 hcc255 hcl255
         have UU255 := Aside0.mk (show Kd.R (Kd.int .i64) 3 _ w.heap.size oki255 (.slice A284_0 (rd_L5 x9_1 (ji247)).length c284_0) (rd_L5 x9_1 (ji247)) from ge255_0)
         have HH255 := Aside0.mk hH255
         have HN255 := Aside0.mk (Kd.S_reads' HO_9.out).1
         clear hH255 ge255_0
         go_wp2_with (first | ((with_reducible refine gate_builtin (b := .append) (xs := #[.tmp 191, .tmp 193]) rfl ?_); (try (refine gate_guard (by rfl) ?_; dsimp only)); at_builtin; refine Kd.R_append (Kd.int .i64) (w0 := w) w.heap.size rfl (.tmp 191) (.tmp 193) 101 3 (.int .i64 0) 8 rfl Try.underlying101 info3 rfl (by decide) (by omega) (.slice A284_0 (rd_L5 x9_1 (ji247)).length c284_0) (rd_L5 x9_1 (ji247)) x26_1 [.int .i64 x26_1] (fun k_ => oki255 k_ ∨ ((fun k_ => some k_ ≠ (.slice Ao26 x7_1.length co26 : Value).ownBlock ∧ some k_ ≠ (.slice Ao253 x8_1.length co253 : Value).ownBlock ∧ k_ ≠ gb226)) k_ ∧ wc.heap.size ≤ k_) (fun _ => False) rfl rfl ?aP (fun _ hk => hk.elim) ?aF ?aO ?aB ?aS ?aL ?_; (case aP => exact rfl); (case aB => exact wy1); (case aF => exact (fun k_ hk => .inr ⟨⟨Kd.fresh' (Kd.R_lt (xyr HO_7.out)) k_ hk, Kd.fresh' (Kd.R_lt (xyr HO_8.out)) k_ hk, Kd.freshB (g := gb226) (o := mobj x227000_1) (xyb BK226.out) k_ hk⟩, hk⟩)); (case aO => exact (by (with_reducible repeat (first | apply Kd.R_alloc | apply Kd.R_drewN | apply Kd.R_drew)); exact Kd.R_mono UU255.out (fun _ hk => .inl hk))); (case aS => exact (below_size wy1)); (case aL => have := LMc250.out; omega); intro v286 w256 ho hb hg hat; rw [← Ny285.out] at ho; replace HO_6 := Aside0.mk (Kd.R_over' (xyr HO_6.out) (Kd.R_typed HL284_0.out) (by decide) hg); replace HO_7 := Aside0.mk (Kd.R_grown2 (xyr HO_7.out) rfl hg (fun k_ e_ => (HL284_0.out.1 k_ e_).1.1)); replace HO_8 := Aside0.mk (Kd.R_grown2 (xyr HO_8.out) rfl hg (fun k_ e_ => (HL284_0.out.1 k_ e_).1.2.1)); replace HO_10 := Aside0.mk (Kd.R_over' (xyr HO_10.out) (Kd.R_typed HL284_0.out) (by decide) hg); replace BK226 := Aside0.mk (blk_grown (g := gb226) (o := mobj x227000_1) (xyb BK226.out) hg (Kd.R_away HL284_0.out (fun _ hk => hk.1.2.2))); replace BK228 := Aside0.mk (blk_grown (g := gb228) (o := .cells #[.int .i64 ((rd_T63 l1 x26_1).f0), .int .i64 ((rd_T63 l1 x26_1).f1), .int .i64 ((rd_T63 l1 x26_1).f2), .int .i64 ((rd_T63 l1 x26_1).f3), .int .i64 ((rd_T63 l1 x26_1).f4)] 63 (0, 0)) (xyb BK228.out) hg (Kd.R_ne HL284_0.out BK228.out (by decide))); replace HB := Aside0.mk (hb); replace HH255 := Aside0.mk (Kd.H_grown (Kd.H_widen (by repeat (first | exact HH255.out | refine Kd.H_alloc ?_ _ | refine Kd.H_drewN ?_ _ | refine Kd.H_drew ?_))) hg (fun k_ e_ => .inl (UU255.out.1 k_ e_))); have HO287 := Aside0.mk (ho); clear HO_9 UU255 HL284_0; clear ho hb hg hat; have p251 : 0 ≤ ((ji247) : Int) := xyd; have q251 : ((ji247) : Int) < ((x9_1.length : Int) : Int) := xyd; replace p251 := eq_true p251; replace q251 := eq_true q251; obtain ⟨Ao259, co259, eo259⟩ := Kd.R_slice HO287.out; subst eo259; obtain ⟨_, _, hraw257, _, _, hcc257, _⟩ := Kd.H_raw HH255.out xyd (by have h_ : ((ji247) : Int) < ((x9_1.length : Int) : Int) := xyd; first | exact h_ | (have e_ := (HN255.out); omega) | simpa using h_); obtain ⟨_, hfr257⟩ := Kd.H_at HH255.out xyd (by have h_ : ((ji247) : Int) < ((x9_1.length : Int) : Int) := xyd; first | exact h_ | (have e_ := (HN255.out); omega) | simpa using h_); have hx257_0 := hcc257 0 _ rfl; have hf257_0 := hfr257 0; (try simp only [Nat.add_zero] at hx257_0 hf257_0); (try rw [show ((Kd.slice 3 (Kd.int .i64))).sz = 1 from rfl, Nat.mul_one] at hx257_0); (try rw [show ((Kd.slice 3 (Kd.int .i64))).sz = 1 from rfl, Nat.mul_one] at hf257_0); have HP257 := Kd.S_seg0 HH255.out xyd (by have h_ : ((ji247) : Int) < ((x9_1.length : Int) : Int) := xyd; first | exact h_ | (have e_ := (HN255.out); omega) | simpa using h_) (seg := [.slice Ao259 y285.length co259]) (j := 0) (show 1 ≤ 1 from by decide) (x' := y285) (Kd.M_row HO287.out) (fun _ hk => hk); (try simp only [show ((Kd.slice 3 (Kd.int .i64))).sz = 1 from rfl, Nat.mul_one, Nat.add_zero] at HP257); clear hcc257 hfr257) | ((with_reducible refine gate_store (t := 101) (p := 195) rfl ?_); refine xys ((w256.setCell ⟨go255, ((ji247) : Int).toNat, none⟩ (.slice Ao259 y285.length co259))) ?_; intro w258 hw; have hg : w256.grownBy w258 (some go255) := (by rw [hw]; exact HP257.2); have hp_ : Kd.S (Kd.slice 3 (Kd.int .i64)) 101 w258 w.heap.size (fun k_ => some k_ ≠ (.slice Ao26 x7_1.length co26 : Value).ownBlock ∧ some k_ ≠ (.slice Ao253 x8_1.length co253 : Value).ownBlock ∧ k_ ≠ gb226) (.slice (some ⟨go255, 0, none⟩) x9_1.length co254) y288 := (by rw [hw, Ny288.out]; exact HP257.1); clear HP257; replace HO_6 := Aside0.mk (Kd.R_over' (xyr HO_6.out) (Kd.R_typed hraw257) (by decide) hg); replace HO_7 := Aside0.mk (Kd.R_over' (xyr HO_7.out) (Kd.R_typed hraw257) (by decide) hg); replace HO_8 := Aside0.mk (Kd.R_over' (xyr HO_8.out) (Kd.R_typed hraw257) (by decide) hg); replace HO_10 := Aside0.mk (Kd.R_over' (xyr HO_10.out) (Kd.R_typed hraw257) (by decide) hg); replace BK226 := Aside0.mk (blk_grown (g := gb226) (o := mobj x227000_1) (xyb BK226.out) hg (ne_mobj (Kd.R_typed hraw257) (xyb BK226.out))); replace BK228 := Aside0.mk (blk_grown (g := gb228) (o := .cells #[.int .i64 ((rd_T63 l1 x26_1).f0), .int .i64 ((rd_T63 l1 x26_1).f1), .int .i64 ((rd_T63 l1 x26_1).f2), .int .i64 ((rd_T63 l1 x26_1).f3), .int .i64 ((rd_T63 l1 x26_1).f4)] 63 (0, 0)) (xyb BK228.out) hg (Kd.R_ne hraw257 BK228.out (by decide))); replace HB := Aside0.mk ((by rw [hw]; exact below_set HB.out GB255.out : Below w.heap.size w w258)); have HO_9 := Aside0.mk (hp_); clear HO287 HH255; clear hg hw hp_ hraw257))
         go_ret2
         exact ⟨_, (by first | rfl | (simp [errW_none, errW_some] <;> rfl) | (simp only [← hji247]; first | rfl | (simp [errW_none, errW_some] <;> rfl)) | (simp [*, errW_none, errW_some] <;> rfl)), wy7, wy1⟩
        rw [if_neg c252] at H
        have c252b0 : decide (4 < (x7_1.length : Int)) = false := decide_eq_false c252
        have c252b1 : decide (4 < x7_1.length) = false := decide_eq_false (by omega)
        clear c252
        (try clear hji34w)
        (try clear hji34)
        (try clear hji77w)
        (try clear hji77)
        (try clear hji112w)
        (try clear hji112)
        (try clear hji157w)
        (try clear hji157)
        (try clear hji198w)
        (try clear hji198)
        (try clear hji226w)
        (try clear hji226)
        obtain ⟨ji260, hji260⟩ : ∃ j_ : Int, (wrap64 ((x10_1.length : Int) - 1)) = j_ := ⟨_, rfl⟩
        replace H : (if 0 ≤ (ji260) then (if (ji260) < (x10_1.length : Int) then (if (rd x10_1 (ji260)) > 64 then (some (([] : List Int), false)) else (impl_paired.l0 kj16 a0 l1 y229 x7_1 x8_1 y288 x10_1 l1 (l1.length : Int) (wrap64 (x26_1 + 1)) x227000_1)) else (none)) else (none)) = some (r1, r2) := by first | (rw [hji260] at H; exact H) | (simp only [hji260] at H ⊢; exact H)
        have hji260w : (IntKind.i64.wrap ((x10_1.length : Int) - 1)) = ji260 := (i64_w _).trans hji260
        replace H := zy_g H
        obtain ⟨c261, H⟩ := H
        have c261b0 : decide (0 ≤ (ji260)) = true := decide_eq_true c261
        clear c261
        replace H := zy_g H
        obtain ⟨c262, H⟩ := H
        have c262b0 : decide ((ji260) < (x10_1.length : Int)) = true := decide_eq_true c262
        clear c262
        by_cases c263 : (rd x10_1 (ji260)) > 64
        ·rw [if_pos c263] at H
         have c263b0 : decide (64 < (rd x10_1 (ji260))) = true := decide_eq_true c263
         clear c263
         simp only [Option.some.injEq, Prod.mk.injEq] at H
         obtain ⟨rfl, rfl⟩ := H
         obtain ⟨Ao264, co264, eo264⟩ := Kd.R_slice HO_8.out
         subst eo264
         obtain ⟨Ao265, co265, eo265⟩ := Kd.S_slice HO_9.out
         subst eo265
         have p284 : 0 ≤ ((ji247) : Int) := xyd
         have q284 : (ji247) < (x9_1.length : Int) := xyd
         obtain ⟨ad284, A284_0, c284_0, e284, hx284_0, hl284_0, hi284_0⟩ := at_L5 (Kd.S_reads' HO_9.out).2.2 (ji247) p284 q284
         cases e284
         obtain ⟨ce284, hce284, hMe284, hcc284⟩ := Kd.S_get HO_9.out [] (ji247) p284 (by first | exact q284 | exact xyd | (have e_ := (Kd.S_reads' HO_9.out).1; omega))
         obtain ⟨ve284_0, rfl, ge284_0⟩ := hMe284
         have hv284_0 := hcc284 0 _ rfl
         rw [Nat.add_zero, show ((Kd.slice 3 (Kd.int .i64))).sz = 1 from rfl, Nat.mul_one] at hv284_0
         replace hv284_0 := Option.some.inj (hv284_0.symm.trans hx284_0)
         rw [hv284_0] at ge284_0
         have HL284_0 := Aside0.mk (show Kd.R (Kd.int .i64) 3 _ _ _ _ (rd_L5 x9_1 (ji247)) from ge284_0)
         clear hv284_0 ge284_0
         have HX284_0 := Aside0.mk hx284_0
         clear hcc284 hce284
         have HR284_0 := Aside0.mk hi284_0
         have HC284_0 := Aside0.mk hl284_0
         clear hi284_0 hl284_0
         replace p284 := eq_true p284
         replace q284 := eq_true q284
         obtain ⟨go266, co266, eo266, gb266, gl266, cl266, HG266⟩ := Kd.S_form HO_9.out (by have h_ : ((ji247) : Int) < ((x9_1.length : Int) : Int) := xyd; have h2_ : 0 ≤ ((ji247) : Int) := xyd; omega)
         (first | cases eo266 | (injection eo266 with ea_ en_ ec_; (first | subst ea_ | (injection ea_ with ea_; subst ea_)); subst ec_; clear en_))
         have GB266 := Aside0.mk gb266
         have GG266 := Aside0.mk HG266
         clear gb266 gl266 HG266
         (first | simp only [add_plain] at hx284_0 | skip)
         obtain ⟨oki266, ce266, hcl266, hM266, hcc266, _, _, hH266⟩ := Kd.S_elem HO_9.out [] ((ji247) : Int) xyd (by have h_ : ((ji247) : Int) < ((x9_1.length : Int) : Int) := xyd; first | exact h_ | (have e_ := (Kd.S_reads' HO_9.out).1; omega) | simpa using h_)
         obtain ⟨ve266_0, rfl, ge266_0⟩ := hM266
         have hv266 := hcc266 0 _ rfl
         have hX266 := HX284_0.out
         (try simp only [add_plain] at hX266)
         (try simp only [Nat.add_zero] at hv266)
         (try rw [show ((Kd.slice 3 (Kd.int .i64))).sz = 1 from rfl, Nat.mul_one] at hv266)
         replace hv266 := Option.some.inj (hv266.symm.trans hX266)
         subst hv266
         clear hX266 hcc266 hcl266
         have UU266 := Aside0.mk (show Kd.R (Kd.int .i64) 3 _ w.heap.size oki266 (.slice A284_0 (rd_L5 x9_1 (ji247)).length c284_0) (rd_L5 x9_1 (ji247)) from ge266_0)
         have HH266 := Aside0.mk hH266
         have HN266 := Aside0.mk (Kd.S_reads' HO_9.out).1
         clear hH266 ge266_0
         go_wp2_with (first | ((with_reducible refine gate_builtin (b := .append) (xs := #[.tmp 191, .tmp 193]) rfl ?_); (try (refine gate_guard (by rfl) ?_; dsimp only)); at_builtin; refine Kd.R_append (Kd.int .i64) (w0 := w) w.heap.size rfl (.tmp 191) (.tmp 193) 101 3 (.int .i64 0) 8 rfl Try.underlying101 info3 rfl (by decide) (by omega) (.slice A284_0 (rd_L5 x9_1 (ji247)).length c284_0) (rd_L5 x9_1 (ji247)) x26_1 [.int .i64 x26_1] (fun k_ => oki266 k_ ∨ ((fun k_ => some k_ ≠ (.slice Ao26 x7_1.length co26 : Value).ownBlock ∧ some k_ ≠ (.slice Ao264 x8_1.length co264 : Value).ownBlock ∧ k_ ≠ gb226)) k_ ∧ wc.heap.size ≤ k_) (fun _ => False) rfl rfl ?aP (fun _ hk => hk.elim) ?aF ?aO ?aB ?aS ?aL ?_; (case aP => exact rfl); (case aB => exact wy1); (case aF => exact (fun k_ hk => .inr ⟨⟨Kd.fresh' (Kd.R_lt (xyr HO_7.out)) k_ hk, Kd.fresh' (Kd.R_lt (xyr HO_8.out)) k_ hk, Kd.freshB (g := gb226) (o := mobj x227000_1) (xyb BK226.out) k_ hk⟩, hk⟩)); (case aO => exact (by (with_reducible repeat (first | apply Kd.R_alloc | apply Kd.R_drewN | apply Kd.R_drew)); exact Kd.R_mono UU266.out (fun _ hk => .inl hk))); (case aS => exact (below_size wy1)); (case aL => have := LMc250.out; omega); intro v286 w267 ho hb hg hat; rw [← Ny285.out] at ho; replace HO_6 := Aside0.mk (Kd.R_over' (xyr HO_6.out) (Kd.R_typed HL284_0.out) (by decide) hg); replace HO_7 := Aside0.mk (Kd.R_grown2 (xyr HO_7.out) rfl hg (fun k_ e_ => (HL284_0.out.1 k_ e_).1.1)); replace HO_8 := Aside0.mk (Kd.R_grown2 (xyr HO_8.out) rfl hg (fun k_ e_ => (HL284_0.out.1 k_ e_).1.2.1)); replace HO_10 := Aside0.mk (Kd.R_over' (xyr HO_10.out) (Kd.R_typed HL284_0.out) (by decide) hg); replace BK226 := Aside0.mk (blk_grown (g := gb226) (o := mobj x227000_1) (xyb BK226.out) hg (Kd.R_away HL284_0.out (fun _ hk => hk.1.2.2))); replace BK228 := Aside0.mk (blk_grown (g := gb228) (o := .cells #[.int .i64 ((rd_T63 l1 x26_1).f0), .int .i64 ((rd_T63 l1 x26_1).f1), .int .i64 ((rd_T63 l1 x26_1).f2), .int .i64 ((rd_T63 l1 x26_1).f3), .int .i64 ((rd_T63 l1 x26_1).f4)] 63 (0, 0)) (xyb BK228.out) hg (Kd.R_ne HL284_0.out BK228.out (by decide))); replace HB := Aside0.mk (hb); replace HH266 := Aside0.mk (Kd.H_grown (Kd.H_widen (by repeat (first | exact HH266.out | refine Kd.H_alloc ?_ _ | refine Kd.H_drewN ?_ _ | refine Kd.H_drew ?_))) hg (fun k_ e_ => .inl (UU266.out.1 k_ e_))); have HO287 := Aside0.mk (ho); clear HO_9 UU266 HL284_0; clear ho hb hg hat; have p251 : 0 ≤ ((ji247) : Int) := xyd; have q251 : ((ji247) : Int) < ((x9_1.length : Int) : Int) := xyd; replace p251 := eq_true p251; replace q251 := eq_true q251; obtain ⟨Ao270, co270, eo270⟩ := Kd.R_slice HO287.out; subst eo270; obtain ⟨_, _, hraw268, _, _, hcc268, _⟩ := Kd.H_raw HH266.out xyd (by have h_ : ((ji247) : Int) < ((x9_1.length : Int) : Int) := xyd; first | exact h_ | (have e_ := (HN266.out); omega) | simpa using h_); obtain ⟨_, hfr268⟩ := Kd.H_at HH266.out xyd (by have h_ : ((ji247) : Int) < ((x9_1.length : Int) : Int) := xyd; first | exact h_ | (have e_ := (HN266.out); omega) | simpa using h_); have hx268_0 := hcc268 0 _ rfl; have hf268_0 := hfr268 0; (try simp only [Nat.add_zero] at hx268_0 hf268_0); (try rw [show ((Kd.slice 3 (Kd.int .i64))).sz = 1 from rfl, Nat.mul_one] at hx268_0); (try rw [show ((Kd.slice 3 (Kd.int .i64))).sz = 1 from rfl, Nat.mul_one] at hf268_0); have HP268 := Kd.S_seg0 HH266.out xyd (by have h_ : ((ji247) : Int) < ((x9_1.length : Int) : Int) := xyd; first | exact h_ | (have e_ := (HN266.out); omega) | simpa using h_) (seg := [.slice Ao270 y285.length co270]) (j := 0) (show 1 ≤ 1 from by decide) (x' := y285) (Kd.M_row HO287.out) (fun _ hk => hk); (try simp only [show ((Kd.slice 3 (Kd.int .i64))).sz = 1 from rfl, Nat.mul_one, Nat.add_zero] at HP268); clear hcc268 hfr268) | ((with_reducible refine gate_store (t := 101) (p := 195) rfl ?_); refine xys ((w267.setCell ⟨go266, ((ji247) : Int).toNat, none⟩ (.slice Ao270 y285.length co270))) ?_; intro w269 hw; have hg : w267.grownBy w269 (some go266) := (by rw [hw]; exact HP268.2); have hp_ : Kd.S (Kd.slice 3 (Kd.int .i64)) 101 w269 w.heap.size (fun k_ => some k_ ≠ (.slice Ao26 x7_1.length co26 : Value).ownBlock ∧ some k_ ≠ (.slice Ao264 x8_1.length co264 : Value).ownBlock ∧ k_ ≠ gb226) (.slice (some ⟨go266, 0, none⟩) x9_1.length co265) y288 := (by rw [hw, Ny288.out]; exact HP268.1); clear HP268; replace HO_6 := Aside0.mk (Kd.R_over' (xyr HO_6.out) (Kd.R_typed hraw268) (by decide) hg); replace HO_7 := Aside0.mk (Kd.R_over' (xyr HO_7.out) (Kd.R_typed hraw268) (by decide) hg); replace HO_8 := Aside0.mk (Kd.R_over' (xyr HO_8.out) (Kd.R_typed hraw268) (by decide) hg); replace HO_10 := Aside0.mk (Kd.R_over' (xyr HO_10.out) (Kd.R_typed hraw268) (by decide) hg); replace BK226 := Aside0.mk (blk_grown (g := gb226) (o := mobj x227000_1) (xyb BK226.out) hg (ne_mobj (Kd.R_typed hraw268) (xyb BK226.out))); replace BK228 := Aside0.mk (blk_grown (g := gb228) (o := .cells #[.int .i64 ((rd_T63 l1 x26_1).f0), .int .i64 ((rd_T63 l1 x26_1).f1), .int .i64 ((rd_T63 l1 x26_1).f2), .int .i64 ((rd_T63 l1 x26_1).f3), .int .i64 ((rd_T63 l1 x26_1).f4)] 63 (0, 0)) (xyb BK228.out) hg (Kd.R_ne hraw268 BK228.out (by decide))); replace HB := Aside0.mk ((by rw [hw]; exact below_set HB.out GB266.out : Below w.heap.size w w269)); have HO_9 := Aside0.mk (hp_); clear HO287 HH266; clear hg hw hp_ hraw268; obtain ⟨Ao271, co271, eo271⟩ := Kd.R_slice HO_10.out; subst eo271; have p289 : 0 ≤ ((ji260) : Int) := xyd; have q289 : (ji260) < (x10_1.length : Int) := xyd; obtain ⟨ad289, e289, hx289_0⟩ := Kd.at_int (Kd.R_reads' HO_10.out).2.2 (ji260) p289 q289; cases e289; replace p289 := eq_true p289; replace q289 := eq_true q289))
         go_ret2
         exact ⟨_, (by first | rfl | (simp [errW_none, errW_some] <;> rfl) | (simp only [← hji247, ← hji260]; first | rfl | (simp [errW_none, errW_some] <;> rfl)) | (simp [*, errW_none, errW_some] <;> rfl)), wy7, wy1⟩
        rw [if_neg c263] at H
        have c263b0 : decide (64 < (rd x10_1 (ji260))) = false := decide_eq_false c263
        clear c263
        have H' := Aside0.mk H
        clear H
        obtain ⟨Ao272, co272, eo272⟩ := Kd.R_slice HO_8.out
        subst eo272
        obtain ⟨Ao273, co273, eo273⟩ := Kd.S_slice HO_9.out
        subst eo273
        have p284 : 0 ≤ ((ji247) : Int) := xyd
        have q284 : (ji247) < (x9_1.length : Int) := xyd
        obtain ⟨ad284, A284_0, c284_0, e284, hx284_0, hl284_0, hi284_0⟩ := at_L5 (Kd.S_reads' HO_9.out).2.2 (ji247) p284 q284
        cases e284
        obtain ⟨ce284, hce284, hMe284, hcc284⟩ := Kd.S_get HO_9.out [] (ji247) p284 (by first | exact q284 | exact xyd | (have e_ := (Kd.S_reads' HO_9.out).1; omega))
        obtain ⟨ve284_0, rfl, ge284_0⟩ := hMe284
        have hv284_0 := hcc284 0 _ rfl
        rw [Nat.add_zero, show ((Kd.slice 3 (Kd.int .i64))).sz = 1 from rfl, Nat.mul_one] at hv284_0
        replace hv284_0 := Option.some.inj (hv284_0.symm.trans hx284_0)
        rw [hv284_0] at ge284_0
        have HL284_0 := Aside0.mk (show Kd.R (Kd.int .i64) 3 _ _ _ _ (rd_L5 x9_1 (ji247)) from ge284_0)
        clear hv284_0 ge284_0
        have HX284_0 := Aside0.mk hx284_0
        clear hcc284 hce284
        have HR284_0 := Aside0.mk hi284_0
        have HC284_0 := Aside0.mk hl284_0
        clear hi284_0 hl284_0
        replace p284 := eq_true p284
        replace q284 := eq_true q284
        obtain ⟨go274, co274, eo274, gb274, gl274, cl274, HG274⟩ := Kd.S_form HO_9.out (by have h_ : ((ji247) : Int) < ((x9_1.length : Int) : Int) := xyd; have h2_ : 0 ≤ ((ji247) : Int) := xyd; omega)
        (first | cases eo274 | (injection eo274 with ea_ en_ ec_; (first | subst ea_ | (injection ea_ with ea_; subst ea_)); subst ec_; clear en_))
        have GB274 := Aside0.mk gb274
        have GG274 := Aside0.mk HG274
        clear gb274 gl274 HG274
        (first | simp only [add_plain] at hx284_0 | skip)
        obtain ⟨oki274, ce274, hcl274, hM274, hcc274, _, _, hH274⟩ := Kd.S_elem HO_9.out [] ((ji247) : Int) xyd (by have h_ : ((ji247) : Int) < ((x9_1.length : Int) : Int) := xyd; first | exact h_ | (have e_ := (Kd.S_reads' HO_9.out).1; omega) | simpa using h_)
        obtain ⟨ve274_0, rfl, ge274_0⟩ := hM274
        have hv274 := hcc274 0 _ rfl
        have hX274 := HX284_0.out
        (try simp only [add_plain] at hX274)
        (try simp only [Nat.add_zero] at hv274)
        (try rw [show ((Kd.slice 3 (Kd.int .i64))).sz = 1 from rfl, Nat.mul_one] at hv274)
        replace hv274 := Option.some.inj (hv274.symm.trans hX274)
        subst hv274
        clear hX274 hcc274 hcl274
        have UU274 := Aside0.mk (show Kd.R (Kd.int .i64) 3 _ w.heap.size oki274 (.slice A284_0 (rd_L5 x9_1 (ji247)).length c284_0) (rd_L5 x9_1 (ji247)) from ge274_0)
        have HH274 := Aside0.mk hH274
        have HN274 := Aside0.mk (Kd.S_reads' HO_9.out).1
        clear hH274 ge274_0
        go_wp2_with (first | ((with_reducible refine gate_builtin (b := .append) (xs := #[.tmp 191, .tmp 193]) rfl ?_); (try (refine gate_guard (by rfl) ?_; dsimp only)); at_builtin; refine Kd.R_append (Kd.int .i64) (w0 := w) w.heap.size rfl (.tmp 191) (.tmp 193) 101 3 (.int .i64 0) 8 rfl Try.underlying101 info3 rfl (by decide) (by omega) (.slice A284_0 (rd_L5 x9_1 (ji247)).length c284_0) (rd_L5 x9_1 (ji247)) x26_1 [.int .i64 x26_1] (fun k_ => oki274 k_ ∨ ((fun k_ => some k_ ≠ (.slice Ao26 x7_1.length co26 : Value).ownBlock ∧ some k_ ≠ (.slice Ao272 x8_1.length co272 : Value).ownBlock ∧ k_ ≠ gb226)) k_ ∧ wc.heap.size ≤ k_) (fun _ => False) rfl rfl ?aP (fun _ hk => hk.elim) ?aF ?aO ?aB ?aS ?aL ?_; (case aP => exact rfl); (case aB => exact wy1); (case aF => exact (fun k_ hk => .inr ⟨⟨Kd.fresh' (Kd.R_lt (xyr HO_7.out)) k_ hk, Kd.fresh' (Kd.R_lt (xyr HO_8.out)) k_ hk, Kd.freshB (g := gb226) (o := mobj x227000_1) (xyb BK226.out) k_ hk⟩, hk⟩)); (case aO => exact (by (with_reducible repeat (first | apply Kd.R_alloc | apply Kd.R_drewN | apply Kd.R_drew)); exact Kd.R_mono UU274.out (fun _ hk => .inl hk))); (case aS => exact (below_size wy1)); (case aL => have := LMc250.out; omega); intro v286 w275 ho hb hg hat; rw [← Ny285.out] at ho; replace HO_6 := Aside0.mk (Kd.R_over' (xyr HO_6.out) (Kd.R_typed HL284_0.out) (by decide) hg); replace HO_7 := Aside0.mk (Kd.R_grown2 (xyr HO_7.out) rfl hg (fun k_ e_ => (HL284_0.out.1 k_ e_).1.1)); replace HO_8 := Aside0.mk (Kd.R_grown2 (xyr HO_8.out) rfl hg (fun k_ e_ => (HL284_0.out.1 k_ e_).1.2.1)); replace HO_10 := Aside0.mk (Kd.R_over' (xyr HO_10.out) (Kd.R_typed HL284_0.out) (by decide) hg); replace BK226 := Aside0.mk (blk_grown (g := gb226) (o := mobj x227000_1) (xyb BK226.out) hg (Kd.R_away HL284_0.out (fun _ hk => hk.1.2.2))); replace BK228 := Aside0.mk (blk_grown (g := gb228) (o := .cells #[.int .i64 ((rd_T63 l1 x26_1).f0), .int .i64 ((rd_T63 l1 x26_1).f1), .int .i64 ((rd_T63 l1 x26_1).f2), .int .i64 ((rd_T63 l1 x26_1).f3), .int .i64 ((rd_T63 l1 x26_1).f4)] 63 (0, 0)) (xyb BK228.out) hg (Kd.R_ne HL284_0.out BK228.out (by decide))); replace HB := Aside0.mk (hb); replace HH274 := Aside0.mk (Kd.H_grown (Kd.H_widen (by repeat (first | exact HH274.out | refine Kd.H_alloc ?_ _ | refine Kd.H_drewN ?_ _ | refine Kd.H_drew ?_))) hg (fun k_ e_ => .inl (UU274.out.1 k_ e_))); have HO287 := Aside0.mk (ho); clear HO_9 UU274 HL284_0; clear ho hb hg hat; have p251 : 0 ≤ ((ji247) : Int) := xyd; have q251 : ((ji247) : Int) < ((x9_1.length : Int) : Int) := xyd; replace p251 := eq_true p251; replace q251 := eq_true q251; obtain ⟨Ao278, co278, eo278⟩ := Kd.R_slice HO287.out; subst eo278; obtain ⟨_, _, hraw276, _, _, hcc276, _⟩ := Kd.H_raw HH274.out xyd (by have h_ : ((ji247) : Int) < ((x9_1.length : Int) : Int) := xyd; first | exact h_ | (have e_ := (HN274.out); omega) | simpa using h_); obtain ⟨_, hfr276⟩ := Kd.H_at HH274.out xyd (by have h_ : ((ji247) : Int) < ((x9_1.length : Int) : Int) := xyd; first | exact h_ | (have e_ := (HN274.out); omega) | simpa using h_); have hx276_0 := hcc276 0 _ rfl; have hf276_0 := hfr276 0; (try simp only [Nat.add_zero] at hx276_0 hf276_0); (try rw [show ((Kd.slice 3 (Kd.int .i64))).sz = 1 from rfl, Nat.mul_one] at hx276_0); (try rw [show ((Kd.slice 3 (Kd.int .i64))).sz = 1 from rfl, Nat.mul_one] at hf276_0); have HP276 := Kd.S_seg0 HH274.out xyd (by have h_ : ((ji247) : Int) < ((x9_1.length : Int) : Int) := xyd; first | exact h_ | (have e_ := (HN274.out); omega) | simpa using h_) (seg := [.slice Ao278 y285.length co278]) (j := 0) (show 1 ≤ 1 from by decide) (x' := y285) (Kd.M_row HO287.out) (fun _ hk => hk); (try simp only [show ((Kd.slice 3 (Kd.int .i64))).sz = 1 from rfl, Nat.mul_one, Nat.add_zero] at HP276); clear hcc276 hfr276) | ((with_reducible refine gate_store (t := 101) (p := 195) rfl ?_); refine xys ((w275.setCell ⟨go274, ((ji247) : Int).toNat, none⟩ (.slice Ao278 y285.length co278))) ?_; intro w277 hw; have hg : w275.grownBy w277 (some go274) := (by rw [hw]; exact HP276.2); have hp_ : Kd.S (Kd.slice 3 (Kd.int .i64)) 101 w277 w.heap.size (fun k_ => some k_ ≠ (.slice Ao26 x7_1.length co26 : Value).ownBlock ∧ some k_ ≠ (.slice Ao272 x8_1.length co272 : Value).ownBlock ∧ k_ ≠ gb226) (.slice (some ⟨go274, 0, none⟩) x9_1.length co273) y288 := (by rw [hw, Ny288.out]; exact HP276.1); clear HP276; replace HO_6 := Aside0.mk (Kd.R_over' (xyr HO_6.out) (Kd.R_typed hraw276) (by decide) hg); replace HO_7 := Aside0.mk (Kd.R_over' (xyr HO_7.out) (Kd.R_typed hraw276) (by decide) hg); replace HO_8 := Aside0.mk (Kd.R_over' (xyr HO_8.out) (Kd.R_typed hraw276) (by decide) hg); replace HO_10 := Aside0.mk (Kd.R_over' (xyr HO_10.out) (Kd.R_typed hraw276) (by decide) hg); replace BK226 := Aside0.mk (blk_grown (g := gb226) (o := mobj x227000_1) (xyb BK226.out) hg (ne_mobj (Kd.R_typed hraw276) (xyb BK226.out))); replace BK228 := Aside0.mk (blk_grown (g := gb228) (o := .cells #[.int .i64 ((rd_T63 l1 x26_1).f0), .int .i64 ((rd_T63 l1 x26_1).f1), .int .i64 ((rd_T63 l1 x26_1).f2), .int .i64 ((rd_T63 l1 x26_1).f3), .int .i64 ((rd_T63 l1 x26_1).f4)] 63 (0, 0)) (xyb BK228.out) hg (Kd.R_ne hraw276 BK228.out (by decide))); replace HB := Aside0.mk ((by rw [hw]; exact below_set HB.out GB274.out : Below w.heap.size w w277)); have HO_9 := Aside0.mk (hp_); clear HO287 HH274; clear hg hw hp_ hraw276; obtain ⟨Ao279, co279, eo279⟩ := Kd.R_slice HO_10.out; subst eo279; have p289 : 0 ≤ ((ji260) : Int) := xyd; have q289 : (ji260) < (x10_1.length : Int) := xyd; obtain ⟨ad289, e289, hx289_0⟩ := Kd.at_int (Kd.R_reads' HO_10.out).2.2 (ji260) p289 q289; cases e289; replace p289 := eq_true p289; replace q289 := eq_true q289))
        (try simp only [← hl6_16])
        go_roundg kj16
        case measure => have := HK1.out; have := HJ16.out; omega
        case rel => exact ⟨(y229), (x7_1), (x8_1), (y288), (x10_1), (wrap64 (x26_1 + 1)), (x227000_1), wy5, H', ⟨wy50⟩, ⟨wy18⟩, ⟨wy26⟩, ⟨wy22⟩, ⟨wy21⟩, ⟨wy32⟩, ⟨wy14⟩, ⟨wy1⟩⟩
       rw [if_neg c244] at H
       have c244b0 : (((rd_T63 l1 x26_1).f0) == 6) = false := beq_eq_false_iff_ne.mpr c244
       have c244b1 : (((rd_T63 l1 x26_1).f0) != 6) = true := bne_iff_ne.mpr c244
       by_cases c280 : (x7_1.length : Int) > 4
       ·rw [if_pos c280] at H
        have c280b0 : decide (4 < (x7_1.length : Int)) = true := decide_eq_true c280
        have c280b1 : decide (4 < x7_1.length) = true := decide_eq_true (by omega)
        clear c280
        simp only [Option.some.injEq, Prod.mk.injEq] at H
        obtain ⟨rfl, rfl⟩ := H
        go_wp2
        go_ret2
        exact ⟨_, wy3, wy7, wy1⟩
       rw [if_neg c280] at H
       have c280b0 : decide (4 < (x7_1.length : Int)) = false := decide_eq_false c280
       have c280b1 : decide (4 < x7_1.length) = false := decide_eq_false (by omega)
       clear c280
       (try clear hji34w)
       (try clear hji34)
       (try clear hji77w)
       (try clear hji77)
       (try clear hji112w)
       (try clear hji112)
       (try clear hji157w)
       (try clear hji157)
       (try clear hji198w)
       (try clear hji198)
       (try clear hji226w)
       (try clear hji226)
       (try clear hji260w)
       (try clear hji260)
       obtain ⟨ji281, hji281⟩ : ∃ j_ : Int, (wrap64 ((x10_1.length : Int) - 1)) = j_ := ⟨_, rfl⟩
       replace H : (if 0 ≤ (ji281) then (if (ji281) < (x10_1.length : Int) then (if (rd x10_1 (ji281)) > 64 then (some (([] : List Int), false)) else (impl_paired.l0 kj16 a0 l1 y229 x7_1 x8_1 x9_1 x10_1 l1 (l1.length : Int) (wrap64 (x26_1 + 1)) x227000_1)) else (none)) else (none)) = some (r1, r2) := by first | (rw [hji281] at H; exact H) | (simp only [hji281] at H ⊢; exact H)
       have hji281w : (IntKind.i64.wrap ((x10_1.length : Int) - 1)) = ji281 := (i64_w _).trans hji281
       replace H := zy_g H
       obtain ⟨c282, H⟩ := H
       have c282b0 : decide (0 ≤ (ji281)) = true := decide_eq_true c282
       clear c282
       replace H := zy_g H
       obtain ⟨c283, H⟩ := H
       have c283b0 : decide ((ji281) < (x10_1.length : Int)) = true := decide_eq_true c283
       clear c283
       by_cases c284 : (rd x10_1 (ji281)) > 64
       ·rw [if_pos c284] at H
        have c284b0 : decide (64 < (rd x10_1 (ji281))) = true := decide_eq_true c284
        clear c284
        simp only [Option.some.injEq, Prod.mk.injEq] at H
        obtain ⟨rfl, rfl⟩ := H
        obtain ⟨Ao285, co285, eo285⟩ := Kd.R_slice HO_10.out
        subst eo285
        have p290 : 0 ≤ ((ji281) : Int) := xyd
        have q290 : (ji281) < (x10_1.length : Int) := xyd
        obtain ⟨ad290, e290, hx290_0⟩ := Kd.at_int (Kd.R_reads' HO_10.out).2.2 (ji281) p290 q290
        cases e290
        replace p290 := eq_true p290
        replace q290 := eq_true q290
        go_wp2
        go_ret2
        exact ⟨_, (by first | rfl | (simp [errW_none, errW_some] <;> rfl) | (simp only [← hji281]; first | rfl | (simp [errW_none, errW_some] <;> rfl)) | (simp [*, errW_none, errW_some] <;> rfl)), wy7, wy1⟩
       rw [if_neg c284] at H
       have c284b0 : decide (64 < (rd x10_1 (ji281))) = false := decide_eq_false c284
       clear c284
       have H' := Aside0.mk H
       clear H
       obtain ⟨Ao286, co286, eo286⟩ := Kd.R_slice HO_10.out
       subst eo286
       have p290 : 0 ≤ ((ji281) : Int) := xyd
       have q290 : (ji281) < (x10_1.length : Int) := xyd
       obtain ⟨ad290, e290, hx290_0⟩ := Kd.at_int (Kd.R_reads' HO_10.out).2.2 (ji281) p290 q290
       cases e290
       replace p290 := eq_true p290
       replace q290 := eq_true q290
       go_wp2
       (try simp only [← hl6_16])
       go_roundg kj16
       case measure => have := HK1.out; have := HJ16.out; omega
       case rel => exact ⟨(y229), (x7_1), (x8_1), (x9_1), (x10_1), (wrap64 (x26_1 + 1)), (x227000_1), wy5, H', ⟨wy50⟩, ⟨wy18⟩, ⟨wy26⟩, ⟨wy22⟩, ⟨wy21⟩, ⟨wy32⟩, ⟨wy14⟩, ⟨wy1⟩⟩
    replace c16 := Bool.eq_false_iff.mpr c16
    subst c16
    have H1 : (some (([] : List Int), false)) = some (r1, r2) := by rw [if_neg (show ¬ (false = true) by decide)] at H; exact H
    clear H
    have H := H1
    clear H1
    simp only [Option.some.injEq, Prod.mk.injEq] at H
    obtain ⟨rfl, rfl⟩ := H
    have p227 : 0 ≤ (x26_1 : Int) := xyd
    have q227 : x26_1 < (l1.length : Int) := xyd
    obtain ⟨ad227, e227, hx227_0, hx227_1, hx227_2, hx227_3, hx227_4⟩ := at_T63 HR1.out x26_1 p227 q227
    cases e227
    replace hx227_0 := xyh HB.out hx227_0
    replace hx227_1 := xyh HB.out hx227_1
    replace hx227_2 := xyh HB.out hx227_2
    replace hx227_3 := xyh HB.out hx227_3
    replace hx227_4 := xyh HB.out hx227_4
    replace p227 := eq_true p227
    replace q227 := eq_true q227
    go_wp2_with (first | ((with_reducible refine gate_dst (N := 13) rfl ?_); (try (refine gate_guard (by rfl) ?_; dsimp only)); refine box_event ?hg (N := 13) ?hd (cs := #[.int .i64 0, .int .i64 0, .int .i64 0, .int .i64 0, .int .i64 0]) (t := 63) ?hr ?_; (case hd => rfl); (case hg => rfl); (case hr => first | (go_simp; done) | (go_simp; rfl)); intro gb228 hg w287 hbox hb; replace HO_6 := Aside0.mk (Kd.R_below (xyr HO_6.out) hb); replace HO_7 := Aside0.mk (Kd.R_below (xyr HO_7.out) hb); replace HO_8 := Aside0.mk (Kd.R_below (xyr HO_8.out) hb); replace HO_9 := Aside0.mk (Kd.S_below wy4 hb); replace HO_10 := Aside0.mk (Kd.R_below (xyr HO_10.out) hb); have BK228 := Aside0.mk (hbox); have GW228 := Aside0.mk ((by rw [hg]; exact (below_size wy20) : w.heap.size ≤ gb228)); have GE228 := Aside0.mk ((by rw [hg]; exact (below_size wy20) : w.heap.size ≤ gb228)); replace HB := Aside0.mk (below_step wy20 hb); have NB226_228 := Aside0.mk ((by rw [hg]; exact Nat.ne_of_lt (blk_lt (g := gb226) (o := mobj x227000_1) (xyb BK226.out)) : gb226 ≠ gb228)); have NB228_226 := Aside0.mk ((by rw [hg]; exact Nat.ne_of_gt (blk_lt (g := gb226) (o := mobj x227000_1) (xyb BK226.out)) : gb228 ≠ gb226)); replace BK226 := Aside0.mk (blk_below (g := gb226) (o := mobj x227000_1) (xyb BK226.out) hb); clear hb hbox hg; have hnb288 := NB228_226.out; have hnc288 := NB226_228.out; have hcz289_0 : w287.cell? ⟨gb228, 0, none⟩ = some (.int .i64 0) := xyc BK228.out; have hcz289_1 : w287.cell? ⟨gb228, 1, none⟩ = some (.int .i64 0) := xyc BK228.out; have hcz289_2 : w287.cell? ⟨gb228, 2, none⟩ = some (.int .i64 0) := xyc BK228.out; have hcz289_3 : w287.cell? ⟨gb228, 3, none⟩ = some (.int .i64 0) := xyc BK228.out; have hcz289_4 : w287.cell? ⟨gb228, 4, none⟩ = some (.int .i64 0) := xyc BK228.out; have hfz289_0 := blk_frozen BK228.out 0; have hfz289_1 := blk_frozen BK228.out 1; have hfz289_2 := blk_frozen BK228.out 2; have hfz289_3 := blk_frozen BK228.out 3; have hfz289_4 := blk_frozen BK228.out 4) | ((with_reducible refine gate_store (t := 63) (p := 13) rfl ?_); refine xys ((((((w287.setCell ⟨gb228, 0, none⟩ (.int .i64 ((rd_T63 l1 x26_1).f0))).setCell ⟨gb228, 1, none⟩ (.int .i64 ((rd_T63 l1 x26_1).f1))).setCell ⟨gb228, 2, none⟩ (.int .i64 ((rd_T63 l1 x26_1).f2))).setCell ⟨gb228, 3, none⟩ (.int .i64 ((rd_T63 l1 x26_1).f3))).setCell ⟨gb228, 4, none⟩ (.int .i64 ((rd_T63 l1 x26_1).f4)))) ?_; intro w290 hw; have n0_ : Aside0 (Kd.R (Kd.int .i64) 2 w290 w.heap.size (fun k_ => some k_ ≠ (u10 : Value).ownBlock ∧ k_ ≠ gb226) v221 x6_1) := ⟨wy31⟩; have n1_ : Aside0 (Kd.R (Kd.int .i64) 3 w290 w.heap.size (fun k_ => some k_ ≠ (u8 : Value).ownBlock ∧ k_ ≠ gb226) u7 x7_1) := ⟨wy30⟩; have n2_ : Aside0 (Kd.R (Kd.int .i64) 3 w290 w.heap.size (fun k_ => some k_ ≠ (u7 : Value).ownBlock ∧ k_ ≠ gb226) u8 x8_1) := ⟨wy29⟩; have n3_ : Aside0 (Kd.S (Kd.slice 3 (Kd.int .i64)) 101 w290 w.heap.size (fun k_ => some k_ ≠ (u7 : Value).ownBlock ∧ some k_ ≠ (u8 : Value).ownBlock ∧ k_ ≠ gb226) u9 x9_1) := ⟨wy27⟩; have n4_ : Aside0 (Kd.R (Kd.int .i64) 2 w290 w.heap.size (fun k_ => some k_ ≠ (v221 : Value).ownBlock ∧ k_ ≠ gb226) u10 x10_1) := ⟨wy28⟩; have n5_ : Aside0 (w290.heap[gb226]? = some (mobj x227000_1)) := ⟨wy24⟩; have n6_ : Aside0 (w290.heap[gb228]? = some (.cells #[.int .i64 ((rd_T63 l1 x26_1).f0), .int .i64 ((rd_T63 l1 x26_1).f1), .int .i64 ((rd_T63 l1 x26_1).f2), .int .i64 ((rd_T63 l1 x26_1).f3), .int .i64 ((rd_T63 l1 x26_1).f4)] 63 (0, 0))) := ⟨wy16⟩; have n7_ : Aside0 (Below w.heap.size w w290) := ⟨(by rw [hw]; exact wy1)⟩; clear hw HO_6 HO_7 HO_8 HO_9 HO_10 BK226 BK228 HB; have HO_6 := n0_; have HO_7 := n1_; have HO_8 := n2_; have HO_9 := n3_; have HO_10 := n4_; have BK226 := n5_; have BK228 := n6_; have HB := n7_; clear n0_ n1_ n2_ n3_ n4_ n5_ n6_ n7_; have p14 : 0 ≤ (x26_1 : Int) := xyd; have q14 : (x26_1 : Int) < ((x6_1.length : Int) : Int) := xyd; obtain ⟨go14, co14, eo14, gb14, gl14, cl14, HG14⟩ := Kd.R_form HO_6.out (by omega); (first | cases eo14 | (injection eo14 with ea_ en_ ec_; (first | subst ea_ | (injection ea_ with ea_; subst ea_)); subst ec_; clear en_)); have GB14 := Aside0.mk gb14; have GG14 := Aside0.mk HG14; clear gb14 gl14 HG14; obtain ⟨hx14_0, hf14_0⟩ := Kd.R_celln 0 HO_6.out (x26_1 : Int) p14 q14; replace p14 := eq_true p14; replace q14 := eq_true q14; obtain ⟨hy291_, hz291_⟩ := Kd.R_celln 0 HO_6.out (x26_1 : Int) xyd xyd; have HP291 := Kd.R_putg HO_6.out (x26_1 : Int) x26_1) | ((with_reducible refine gate_store (t := 2) (p := 34) rfl ?_); refine xys ((w290.setCell ⟨go14, (x26_1 : Int).toNat, none⟩ (.int .i64 x26_1))) ?_; intro w292 hw; have hg : w290.grownBy w292 (some go14) := (by rw [hw]; exact HP291.2); have hp_ : Kd.R (Kd.int .i64) 2 w292 w.heap.size (fun k_ => some k_ ≠ (u10 : Value).ownBlock ∧ k_ ≠ gb226) (.slice (some ⟨go14, 0, none⟩) x6_1.length co14) y229 := (by rw [hw, Ny229.out]; exact HP291.1); clear HP291; replace HO_7 := Aside0.mk (Kd.R_over' (xyr HO_7.out) (Kd.R_typed HO_6.out) (by decide) hg); replace HO_8 := Aside0.mk (Kd.R_over' (xyr HO_8.out) (Kd.R_typed HO_6.out) (by decide) hg); replace HO_9 := Aside0.mk (Kd.S_over' wy4 (Kd.R_typed HO_6.out) (by decide) hg); replace HO_10 := Aside0.mk (Kd.R_after (v := (.slice (some ⟨go14, 0, none⟩) x6_1.length co14)) (v1 := (.slice (some ⟨go14, 0, none⟩) x6_1.length co14)) (ok := (fun k_ => k_ ≠ gb226)) wy10 hg (.inl rfl)); replace BK226 := Aside0.mk (blk_grown (g := gb226) (o := mobj x227000_1) (xyb BK226.out) hg (Kd.R_away HO_6.out (fun _ hk => hk.2))); replace BK228 := Aside0.mk (blk_grown (g := gb228) (o := .cells #[.int .i64 ((rd_T63 l1 x26_1).f0), .int .i64 ((rd_T63 l1 x26_1).f1), .int .i64 ((rd_T63 l1 x26_1).f2), .int .i64 ((rd_T63 l1 x26_1).f3), .int .i64 ((rd_T63 l1 x26_1).f4)] 63 (0, 0)) (xyb BK228.out) hg (Kd.R_ne HO_6.out BK228.out (by decide))); replace HO_6 := Aside0.mk (hp_); replace HB := Aside0.mk ((by rw [hw]; exact below_set (HB.out) GB14.out : Below w.heap.size w w292)); clear hg hw hp_; have hcz293_0 : w292.cell? ⟨gb228, 0, none⟩ = some (.int .i64 ((rd_T63 l1 x26_1).f0)) := xyc BK228.out; have hcz293_1 : w292.cell? ⟨gb228, 1, none⟩ = some (.int .i64 ((rd_T63 l1 x26_1).f1)) := xyc BK228.out; have hcz293_2 : w292.cell? ⟨gb228, 2, none⟩ = some (.int .i64 ((rd_T63 l1 x26_1).f2)) := xyc BK228.out; have hcz293_3 : w292.cell? ⟨gb228, 3, none⟩ = some (.int .i64 ((rd_T63 l1 x26_1).f3)) := xyc BK228.out; have hcz293_4 : w292.cell? ⟨gb228, 4, none⟩ = some (.int .i64 ((rd_T63 l1 x26_1).f4)) := xyc BK228.out; have hfz293_0 := blk_frozen BK228.out 0; have hfz293_1 := blk_frozen BK228.out 1; have hfz293_2 := blk_frozen BK228.out 2; have hfz293_3 := blk_frozen BK228.out 3; have hfz293_4 := blk_frozen BK228.out 4) | ((with_reducible refine gate_callee (f := 92) rfl ?_); refine goesL_ (some 37) rfl rfl Try.func92 (by kernel_rfl) rfl #[.int .i64 a0, .agg #[.int .i64 ((rd_T63 l1 x26_1).f0), .int .i64 ((rd_T63 l1 x26_1).f1), .int .i64 ((rd_T63 l1 x26_1).f2), .int .i64 ((rd_T63 l1 x26_1).f3), .int .i64 ((rd_T63 l1 x26_1).f4)]] rfl wy2 ?_; (with_reducible refine (impl_isLine.calls k1 a0 ((rd_T63 l1 x26_1).f0) ((rd_T63 l1 x26_1).f1) ((rd_T63 l1 x26_1).f2) ((rd_T63 l1 x26_1).f3) ((rd_T63 l1 x26_1).f4) false _ A15.out).mono ?_); rintro e w294 ⟨rfl, hb⟩; refine ⟨_, rfl, ?_⟩; replace HO_6 := Aside0.mk (Kd.R_below (xyr HO_6.out) hb); replace HO_7 := Aside0.mk (Kd.R_below (xyr HO_7.out) hb); replace HO_8 := Aside0.mk (Kd.R_below (xyr HO_8.out) hb); replace HO_9 := Aside0.mk (Kd.S_below wy4 hb); replace HO_10 := Aside0.mk (Kd.R_below (xyr HO_10.out) hb); replace BK226 := Aside0.mk (blk_below (g := gb226) (o := mobj x227000_1) (xyb BK226.out) hb); replace BK228 := Aside0.mk (xyl BK228.out hb); replace HB := Aside0.mk (below_step wy1 hb); (try clear hb); (try clear hb2); (try clear hk); (try clear hi)))
    go_ret2
    exact ⟨_, wy3, wy7, wy1⟩
   rw [if_neg c10] at H
   have c10b0 : decide (x26_1 < (l1.length : Int)) = false := decide_eq_false c10
   clear c10
   simp only [Option.some.injEq, Prod.mk.injEq] at H
   obtain ⟨rfl, rfl⟩ := H
   obtain ⟨Ao295, co295, eo295⟩ := Kd.R_slice HO_7.out
   subst eo295
   go_wp2
   go_ret2
   exact ⟨_, wy3, wy17, wy20⟩

end Go.Proofs.Ytheemkehedmlfaa.Y
