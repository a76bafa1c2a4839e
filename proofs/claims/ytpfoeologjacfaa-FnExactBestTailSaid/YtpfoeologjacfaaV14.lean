-- Written by a program of this session (wip/tools) over the kit's print.
-- COMPACT
import Derived.Test.YtpfoeologjacfaaV0
import Derived.Test.YtpfoeologjacfaaV7
import Derived.Test.YtpfoeologjacfaaV12
import Derived.Test.YtpfoeologjacfaaV13
namespace Go.Proofs.Ytpfoeologjacfaa.V
open Go.RowKit Go.Proofs.YtpfoeologjacfaaW.PrintWords Go.Proofs.YtpfoeologjacfaaW.PrintLast Go.Proofs.YtpfoeologjacfaaW.PrintMore
attribute [local go_sem] max2_int min2_int max_two min_two max_three min_three max_four min_four   -- for this text's walks alone
set_option linter.unusedVariables false
set_option linter.unusedSimpArgs false

set_option maxHeartbeats 1000000 in
theorem slices_IndexFunc_int64 {α : Type} (d : Kd α) (hs : d.sz = 1) (f : α → Option Bool) (g : Nat) (lb : Array Value)
  (eg : ∀ args w, (callFunc g args).run Try.prog w = .ok (.enter g args) w) (A : Option Addr) (c : Nat) (l : List α) (r : Int) (w : World)
  (hp : PredO d g lb f w) (hr : d.C w A l.length l) (h : firstO f l 0 = some r) :
  Calls Try.prog 217 #[.slice A l.length c, .func (.func g) #[] lb] w fun e w' => e = .returned (.int .i64 r) ∧ Below w.heap.size w w' := by
 have hm := hr.2.1
 have HR := Aside0.mk hr
 have HP := Aside0.mk hp
 have HF := Aside0.mk h
 clear hr hp h
 go_enter Try.func217, Try.ntmps217
 go_wp2
 go_loopg [5, 8] l.length (fun gg _ s8 wr => ∃ kk : Nat, kk ≤ l.length ∧ l.length - kk ≤ gg ∧ s8 = .int .i64 kk ∧ Aside0 (Below w.heap.size w wr) ∧ Aside0 (firstO f (l.drop kk) kk = some r))
 case atStart => exact ⟨0, Nat.zero_le _, (by omega), rfl, ⟨Below.refl _ w⟩, HF⟩
 case round =>
  clear HF
  obtain ⟨kk, hkk, hg, rfl, BW, FA⟩ := hrel
  by_cases hlt : kk < l.length
  ·have hltz : (kk : Int) < (l.length : Int) := by omega
   have hc := Kd.C_below HR.out BW.out
   obtain ⟨ad, rfl, hcell⟩ := hc.2.2 (by omega)
   obtain ⟨cs, hcl, hK, hcs⟩ := hcell kk l[kk] (List.getElem?_eq_getElem hlt)
   rw [hs] at hcl
   obtain ⟨v, rfl⟩ : ∃ v, cs = [v] := by
    match cs, hcl with
    | [v], _ => exact ⟨v, rfl⟩
   have l2 : wr.cell? (ad.add kk) = some v := by
    have := hcs 0 v rfl
    rwa [hs, Nat.mul_one, Nat.add_zero] at this
   have hfd := FA.out
   rw [firstO_drop f l kk hlt, Option.bind_eq_some_iff] at hfd
   obtain ⟨b, hb, hfd⟩ := hfd
   have hcall := HP.out wr BW.out l[kk] v b hK hb
   have HFD := Aside0.mk hfd
   clear hcs hK hcell hc hfd hb
   cases b with
   | true =>
    go_wp2_with (go_at_fn g; refine hcall.mono ?_; rintro e w' ⟨rfl, hb'⟩)
    go_ret
    refine ⟨?_, below_step BW.out hb'⟩
    have := Option.some.inj (show some (kk : Int) = some r from HFD.out)
    rw [← this]; rfl
   | false =>
    go_wp2_with (go_at_fn g; refine hcall.mono ?_; rintro e w' ⟨rfl, hb'⟩)
    go_roundg (l.length - (kk + 1))
    case measure => omega
    case rel => exact ⟨kk + 1, (by omega), (by omega), (by go_num), ⟨below_step BW.out hb'⟩, ⟨HFD.out⟩⟩
  ·have hltz : ¬ (kk : Int) < (l.length : Int) := by omega
   have : kk = l.length := by omega
   subst this
   go_wp2
   go_ret
   refine ⟨?_, BW.out⟩
   have hx := FA.out
   rw [List.drop_length] at hx
   rw [← Option.some.inj hx]; rfl

theorem slices_ContainsFunc_int64 {α : Type} (d : Kd α) (hs : d.sz = 1) (f : α → Option Bool) (g : Nat) (lb : Array Value)
  (eg : ∀ args w, (callFunc g args).run Try.prog w = .ok (.enter g args) w) (A : Option Addr) (c : Nat) (l : List α) (r : Bool) (w : World)
  (hp : PredO d g lb f w) (hr : d.C w A l.length l) (h : anyO f l = some r) :
  Calls Try.prog 201 #[.slice A l.length c, .func (.func g) #[] lb] w fun e w' => e = .returned (.bool r) ∧ Below w.heap.size w w' := by
 obtain ⟨i, hi, h2⟩ := Option.bind_eq_some_iff.1 h
 obtain rfl := Option.some.inj h2
 have hc := slices_IndexFunc_int64 d hs f g lb eg A c l i w hp hr hi
 clear hr hp h hi h2
 go_enter Try.func201, Try.ntmps201
 go_wp2_with (go_at_call 217; refine hc.mono ?_; rintro e w' ⟨rfl, hb'⟩)
 go_ret
 exact ⟨(by simp), hb'⟩

theorem areAll_lit_int64 {α : Type} (d : Kd α) (f : α → Option Bool) (g : Nat) (lb : Array Value)
  (eg : ∀ args w, (callFunc g args).run Try.prog w = .ok (.enter g args) w) (w : World) (B : Nat)
  (hB : B < w.heap.size) (hcell : w.cell? ⟨B, 0, none⟩ = some (.func (.func g) #[] lb)) (hp : PredO d g lb f w) :
  PredO d 202 #[.pointer (some ⟨B, 0, none⟩)] (fun x => notO (f x)) w := by
 intro W hb x v r hK hx
 have hc : W.cell? ⟨B, 0, none⟩ = some (.func (.func g) #[] lb) := (hb.cell (p := ⟨B, 0, none⟩) hB).trans hcell
 obtain ⟨b, hb1, hb2⟩ := Option.bind_eq_some_iff.1 hx
 obtain rfl := Option.some.inj hb2
 have hcall := hp W hb x v b hK hb1
 show Calls Try.prog 202 #[v, .pointer (some ⟨B, 0, none⟩)] W (fun e w' => e = .returned (.bool (!b)) ∧ Below W.heap.size W w')
 clear hp hcell hK hx hb1 hb2
 go_enter Try.func202, Try.ntmps202
 go_wp2_with (go_at_fn g; refine hcall.mono ?_; rintro e w' ⟨rfl, hb'⟩)
 go_ret
 exact ⟨rfl, hb'⟩
theorem areAll_int64 {α : Type} (d : Kd α) (hs : d.sz = 1) (f : α → Option Bool) (g : Nat) (lb : Array Value)
  (eg : ∀ args w, (callFunc g args).run Try.prog w = .ok (.enter g args) w) (A : Option Addr) (c : Nat) (l : List α) (r : Bool) (w : World)
  (hp : PredO d g lb f w) (hr : d.C w A l.length l) (h : allO f l = some r) :
  Calls Try.prog 157 #[.slice A l.length c, .func (.func g) #[] lb] w fun e w' => e = .returned (.bool r) ∧ Below w.heap.size w w' := by
 obtain ⟨b, hb, h2⟩ := Option.bind_eq_some_iff.1 h
 obtain rfl := Option.some.inj h2
 have hb1 : Below w.heap.size w (w.alloc (.cells #[.func (.func g) #[] lb] 102)) := (Below.refl _ w).alloc (Nat.le_refl _) _
 have hc := slices_ContainsFunc_int64 d hs (fun x => notO (f x)) 202 #[.pointer (some ⟨w.heap.size, 0, none⟩)] (enters_of Try.func202 (by kernel_rfl) rfl) A c l b _
  (areAll_lit_int64 d f g lb eg (w.alloc (.cells #[.func (.func g) #[] lb] 102)) w.heap.size (by simp) (by simp) (hp.later hb1)) (Kd.C_below hr hb1) hb
 clear hr hp h hb h2
 go_enter Try.func157, Try.ntmps157
 go_wp2_with (go_at_call 201; refine hc.mono ?_; rintro e w' ⟨rfl, hb'⟩)
 go_ret
 exact ⟨rfl, below_step hb1 hb'⟩

/-! ### impl_isTable_1: function 240 -/
def impl_isTable_1.f (a0 : Int) (a1_0 : Int) (a1_1 : Int) : Option (Bool) := (impl_within.f a0 0 (wrap64 ((wrap64 (2 * a1_0)) - 1))).bind fun t495 => (some t495)
set_option maxHeartbeats 8000000 in
set_option maxRecDepth 100000 in
theorem impl_isTable_1.calls (a0 : Int) (B1 : Nat) (a1_0 : Int) (a1_1 : Int) (r : Bool) (w : World) (hb1 : w.heap[B1]? = some (.cells #[.int .i64 a1_0, .int .i64 a1_1] 31 (0, 0))) (h : impl_isTable_1.f a0 a1_0 a1_1 = some r) :
  Calls Try.prog 240 #[.int .i64 a0, .pointer (some ⟨B1, 0, none⟩)] w fun e w' => e = .returned (.bool r) ∧ Drawn0 w w' := by
 have BK1 := Aside0.mk hb1
 clear hb1
 have H : ((impl_within.f a0 0 (wrap64 ((wrap64 (2 * a1_0)) - 1))).bind fun t495 => (some t495)) = some r := h
 clear h
 replace H := Option.bind_eq_some_iff.mp H
 obtain ⟨t495, A30, H⟩ := H
 replace H : (some t495) = some r := H
 have A3 := Aside0.mk A30
 clear A30
 obtain rfl := Option.some.inj H
 have hcz4_0 : w.cell? ⟨B1, 0, none⟩ = some (.int .i64 a1_0) := xvc BK1.out
 have hcz4_1 : w.cell? ⟨B1, 1, none⟩ = some (.int .i64 a1_1) := xvc BK1.out
 have hfz4_0 := blk_frozen BK1.out 0
 have hfz4_1 := blk_frozen BK1.out 1
 go_enter Try.func240, Try.ntmps240
 go_wp2_with (first | ((with_reducible refine gate_callee (f := 81) rfl ?_); refine goesL_ (some 9) rfl rfl Try.func81 (by kernel_rfl) rfl #[.int .i64 a0, .int .i64 0, .int .i64 (wrap64 ((wrap64 (2 * a1_0)) - 1))] rfl wv1 ?_; (with_reducible refine (impl_within.calls a0 0 (wrap64 ((wrap64 (2 * a1_0)) - 1)) t495 _ A3.out).mono ?_); rintro e w' ⟨rfl, ⟨nd, rfl⟩⟩; refine ⟨_, rfl, ?_⟩))
 go_ret
 exact ⟨wv6, wv14⟩

def impl_areAll_int64_at_impl_isTable_1.f (l0 : List Int) (a1_0 : Int) (a1_1 : Int) : Option Bool := allO (fun x => impl_isTable_1.f x a1_0 a1_1) l0
theorem impl_areAll_int64_at_impl_isTable_1.calls (A0 : Option Addr) (c0 : Nat) (l0 : List Int) (B1 : Nat) (a1_0 : Int) (a1_1 : Int) (r : Bool) (w : World) (hr0 : Kd.C (Kd.int .i64) w A0 l0.length l0) (hc0 : l0.length ≤ c0) (hb1 : w.heap[B1]? = some (.cells #[.int .i64 a1_0, .int .i64 a1_1] 31 (0, 0))) (h : impl_areAll_int64_at_impl_isTable_1.f l0 a1_0 a1_1 = some r) :
  Calls Try.prog 157 #[.slice A0 l0.length c0, .func (.func 240) #[] #[.pointer (some ⟨B1, 0, none⟩)]] w fun e w' => e = .returned (.bool r) ∧ Below w.heap.size w w' := by
 refine areAll_int64 (Kd.int .i64) rfl (fun x => impl_isTable_1.f x a1_0 a1_1) 240 #[.pointer (some ⟨B1, 0, none⟩)] (enters_of Try.func240 (by kernel_rfl) rfl) A0 c0 l0 r w ?_ hr0 h
 rintro W hb x v q hK hx
 obtain rfl : v = .int .i64 x := by simpa [Kd.int, Kd.bool, Kd.string, Kd.scalar] using hK
 exact (impl_isTable_1.calls x B1 a1_0 a1_1 q W (blk_below hb1 hb) hx).mono fun e w' ⟨he, hw⟩ => ⟨he, hw.below⟩

/-! ### impl_isTable: function 226 -/
def impl_isTable.f (a0_0 : Int) (a0_1 : Int) (a1_0 : Int) (a1_1 : Int) (a1_2 : Int) (a1_3 : Int) (a1_4 : Int) (a1_5 : Int) (a1_6 : NRow) (a2 : Bool) : Option (Bool) := if a2 = true then ((impl_length_int64.f ([] : List Int)).bind fun t498 => (if t498 = a0_0 then ((impl_areAll_int64_at_impl_isTable_1.f ([] : List Int) a0_0 a0_1).bind fun t499 => (some t499)) else (some false))) else (some (0 == 0))
def impl_isTable.T3 : Bool × List (List Nat × List Nat) := (true, [([], []), ([0], [0]), ([1], [1]), ([], []), ([3], [3]), ([2, 4], [2, 4]), ([5, 2], [5]), ([6], [6]), ([7, 6], [6, 7]), ([6], [6]), ([8, 9, 6, 6], [6, 8, 9]), ([6, 10], [6, 10]), ([11, 10, 0, 1, 2, 3, 4, 5, 6, 7, 8, 9, 10, 11], [11])])
def impl_isTable.B3 : List Nat := [0, 1, 3, 0, 8, 31, 63, 127, 255, 127, 1023, 2047, 4095]
theorem impl_isTable.tab3 : rtab .any (opsOf Try.f226 3) = impl_isTable.T3 := by kernel_rfl
theorem impl_isTable.bits3 : waitsOk impl_isTable.T3.2 impl_isTable.B3 = true := by kernel_rfl
set_option maxHeartbeats 8000000 in
set_option maxRecDepth 100000 in
theorem impl_isTable.calls (a0_0 : Int) (a0_1 : Int) (a1_0 : Int) (a1_1 : Int) (a1_2 : Int) (a1_3 : Int) (a1_4 : Int) (a1_5 : Int) (a1_6 : NRow) (a2 : Bool) (r : Bool) (w : World) (h : impl_isTable.f a0_0 a0_1 a1_0 a1_1 a1_2 a1_3 a1_4 a1_5 a1_6 a2 = some r) :
  Calls Try.prog 226 #[.agg #[.int .i64 a0_0, .int .i64 a0_1], .agg #[.int .i64 a1_0, .int .i64 a1_1, .int .i64 a1_2, .int .i64 a1_3, .int .i64 a1_4, .int .i64 a1_5, .slice none 0 0], .bool a2] w fun e w' => e = .returned (.bool r) ∧ Below w.heap.size w w' := by
 have hu31 := Try.underlying31
 have hu142 := Try.underlying142
 have HB := Aside0.mk (Below.refl w.heap.size w)
 have H : (if a2 = true then ((impl_length_int64.f ([] : List Int)).bind fun t498 => (if t498 = a0_0 then ((impl_areAll_int64_at_impl_isTable_1.f ([] : List Int) a0_0 a0_1).bind fun t499 => (some t499)) else (some false))) else (some (0 == 0))) = some r := h
 clear h
 by_cases c4 : a2 = true
 ·subst c4
  have H1 : ((impl_length_int64.f ([] : List Int)).bind fun t498 => (if t498 = a0_0 then ((impl_areAll_int64_at_impl_isTable_1.f ([] : List Int) a0_0 a0_1).bind fun t499 => (some t499)) else (some false))) = some r := by rw [if_pos rfl] at H; exact H
  clear H
  have H := H1
  clear H1
  replace H := Option.bind_eq_some_iff.mp H
  obtain ⟨t498, A50, H⟩ := H
  replace H : (if t498 = a0_0 then ((impl_areAll_int64_at_impl_isTable_1.f ([] : List Int) a0_0 a0_1).bind fun t499 => (some t499)) else (some false)) = some r := H
  have A5 := Aside0.mk A50
  clear A50
  by_cases c6 : t498 = a0_0
  ·rw [if_pos c6] at H
   have c6b0 : (t498 == a0_0) = true := beq_iff_eq.mpr c6
   have c6b1 : (t498 != a0_0) = false := bne_eq_false_iff_eq.mpr c6
   clear c6
   replace H := Option.bind_eq_some_iff.mp H
   obtain ⟨t499, A70, H⟩ := H
   replace H : (some t499) = some r := H
   have A7 := Aside0.mk A70
   clear A70
   obtain rfl := Option.some.inj H
   go_enter Try.func226, Try.ntmps226
   try go_wp2_with (first | ((with_reducible refine gate_dst (N := 3) rfl ?_); refine box_event ?hg (N := 3) ?hd (cs := #[.int .i64 a0_0, .int .i64 a0_1]) (t := 31) ?hr ?_; (case hd => rfl); (case hg => rfl); (case hr => first | (go_simp; done) | (go_simp; rfl)); intro gb496 hg w8 hbox hb; have n0_ := Aside0.mk (below_step (xvo HB.out) hb); have n1_ := Aside0.mk (hbox); have n2_ := Aside0.mk ((by rw [hg]; exact (below_size (xvo HB.out)) : w.heap.size ≤ gb496)); have n3_ := Aside0.mk ((by rw [hg]; exact (below_size (xvo HB.out)) : w.heap.size ≤ gb496)); clear HB; have HB := n0_; have BK496 := n1_; have GW496 := n2_; have GE496 := n3_; clear n0_ n1_ n2_ n3_; clear hb hbox hg) | ((with_reducible refine gate_dst (N := 4) rfl ?_); refine box_event ?hg (N := 4) ?hd (cs := #[.int .i64 a1_0, .int .i64 a1_1, .int .i64 a1_2, .int .i64 a1_3, .int .i64 a1_4, .int .i64 a1_5, .slice none 0 0]) (t := 142) ?hr ?_; (case hd => rfl); (case hg => rfl); (case hr => first | (go_simp; done) | (go_simp; rfl)); intro gb497 hg w9 hbox hb; have n0_ := Aside0.mk (xvl BK496.out hb); have n1_ := Aside0.mk (below_step wv25 hb); have n2_ := Aside0.mk (hbox); have n3_ := Aside0.mk ((by rw [hg]; exact (below_size wv25) : w.heap.size ≤ gb497)); have n4_ := Aside0.mk ((by rw [hg]; exact (below_size wv25) : w.heap.size ≤ gb497)); have n5_ := Aside0.mk ((by rw [hg]; exact Nat.ne_of_lt (blk_lt (g := gb496) (o := .cells #[.int .i64 a0_0, .int .i64 a0_1] 31 (0, 0)) (xvb BK496.out)) : gb496 ≠ gb497)); have n6_ := Aside0.mk ((by rw [hg]; exact Nat.ne_of_gt (blk_lt (g := gb496) (o := .cells #[.int .i64 a0_0, .int .i64 a0_1] 31 (0, 0)) (xvb BK496.out)) : gb497 ≠ gb496)); clear BK496; clear HB; have BK496 := n0_; have HB := n1_; have BK497 := n2_; have GW497 := n3_; have GE497 := n4_; have NB496_497 := n5_; have NB497_496 := n6_; clear n0_ n1_ n2_ n3_ n4_ n5_ n6_; clear hb hbox hg))
   have n0_ := Aside0.mk (blk_drew BK496.out)
   have n1_ := Aside0.mk (blk_drew BK497.out)
   have n2_ := Aside0.mk (below_drew1 HB.out)
   clear BK496
   clear BK497
   clear HB
   have BK496 := n0_
   have BK497 := n1_
   have HB := n2_
   clear n0_ n1_ n2_
   refine start_ (n := 13) (S := fun w' => w'.cell? ⟨gb497, 0, none⟩ = some (.int .i64 a1_0) ∧ w'.cell? ⟨gb497, 1, none⟩ = some (.int .i64 a1_1) ∧ w'.cell? ⟨gb497, 2, none⟩ = some (.int .i64 a1_2) ∧ w'.cell? ⟨gb497, 3, none⟩ = some (.int .i64 a1_3) ∧ w'.cell? ⟨gb497, 4, none⟩ = some (.int .i64 a1_4) ∧ w'.cell? ⟨gb497, 5, none⟩ = some (.int .i64 a1_5) ∧ w'.cell? ⟨gb497, 6, none⟩ = some (.slice none 0 0) ∧ w'.cell? ⟨gb496, 0, none⟩ = some (.int .i64 a0_0) ∧ w'.cell? ⟨gb496, 1, none⟩ = some (.int .i64 a0_1)) (ds := []) (zv_.bm 13 0) (by kernel_rfl) rfl rfl ⟨xvc BK497.out, xvc BK497.out, xvc BK497.out, xvc BK497.out, xvc BK497.out, xvc BK497.out, xvc BK497.out, xvc BK496.out, xvc BK496.out⟩ (fun hHeld => ?_); refine with_tabW impl_isTable.tab3 impl_isTable.bits3 (fun HT_ HW_ => ?_)
   generalize w9.drew = w10 at BK496 BK497 HB hHeld ⊢
   refine zv_.pa (i := 0) (N := some 13) (zv_.bm 13 1) HT_.out ?_
   refine zv_.pa (i := 3) (N := some 16) (zv_.bm 13 9) HT_.out ?_
   refine zv_.ta (i := 1) (N := some 14) (zv_.bm 13 11) rfl (take_ofW HT_.out HW_.out (by kernel_rfl)) (Or.inl ⟨(by rfl), wv59⟩) hHeld ?_
   refine zv_.ta (i := 4) (N := some 17) (zv_.bm 13 27) rfl (take_ofW HT_.out HW_.out (by kernel_rfl)) (Or.inl ⟨(by rfl), wv59⟩) hHeld ?_
   refine one_ (i := 2) (N := some 15) (zv_.bm 13 31) rfl rfl (one_of HT_.out (by kernel_rfl)) (by decide) (fun K hK => ?_)
   refine goes_ Try.func95 (by kernel_rfl) rfl #[.slice none 0 0] (by rfl) rfl rfl wv1 ?_
   refine (impl_length_int64.calls _ _ ([] : List Int) t498 _ ?side1 ?side2 A5.out).mono ?_
   (case side1 => exact Kd.C_nil _ _)
   (case side2 => exact Nat.le_refl _)
   rintro e w' ⟨rfl, ⟨nd, rfl⟩⟩
   refine ⟨_, rfl, ?_⟩
   refine hK.out _ _ ⟨xvc BK497.out, xvc BK497.out, xvc BK497.out, xvc BK497.out, xvc BK497.out, xvc BK497.out, xvc BK497.out, xvc BK496.out, xvc BK496.out⟩ (fun hHeld => ?_)
   clear hK K
   refine norm_ (a' := ?_) ?_ ?_
   rotate_left
   ·show Act.put _ (some 15) _ = _
    simp only [Act.put, List.setIfInBounds_toArray, List.set_cons_zero, List.set_cons_succ, i64_w, i32_w]
    rfl
   refine zv_.pa (i := 5) (N := some 18) (zv_.bm 13 63) HT_.out ?_
   refine zv_.pa (i := 6) (N := some 19) (zv_.bm 13 127) HT_.out ?_
   refine zv_.pa (i := 7) (N := some 20) (zv_.bm 13 255) HT_.out ?_
   refine zv_.pa (i := 9) (N := some 22) (zv_.bm 13 767) HT_.out ?_
   refine zv_.ta (i := 8) (N := some 21) (zv_.bm 13 1023) rfl (take_ofW HT_.out HW_.out (by kernel_rfl)) (Or.inl ⟨(by rfl), wv59⟩) hHeld ?_
   refine one_ (i := 10) (N := some 23) (zv_.bm 13 2047) rfl rfl (one_of HT_.out (by kernel_rfl)) (by decide) (fun K hK => ?_)
   refine goes_ Try.func157 (by kernel_rfl) rfl #[.slice none 0 0, .func (.func 240) #[] #[.pointer (some ⟨gb496, 0, none⟩)]] (by rfl) rfl rfl wv1 ?_
   refine (impl_areAll_int64_at_impl_isTable_1.calls _ _ ([] : List Int) gb496 a0_0 a0_1 t499 _ ?side1 ?side2 ?side3 A7.out).mono ?_
   (case side1 => exact Kd.C_nil _ _)
   (case side2 => exact Nat.le_refl _)
   (case side3 => (with_reducible repeat (first | refine blk_drewN ?_ _ | refine blk_drew ?_ | refine blk_alloc ?_ _)); exact BK496.out)
   rintro e w11 ⟨rfl, hb⟩
   refine ⟨_, rfl, ?_⟩
   have n0_ := Aside0.mk (xvl BK496.out hb)
   have n1_ := Aside0.mk (xvl BK497.out hb)
   have n2_ := Aside0.mk (below_step wv40 hb)
   clear BK496
   clear BK497
   clear HB
   have BK496 := n0_
   have BK497 := n1_
   have HB := n2_
   clear n0_ n1_ n2_
   (try clear hb)
   (try clear hb2)
   (try clear hk)
   (try clear hi)
   refine hK.out _ _ ⟨xvc BK497.out, xvc BK497.out, xvc BK497.out, xvc BK497.out, xvc BK497.out, xvc BK497.out, xvc BK497.out, xvc BK496.out, xvc BK496.out⟩ (fun hHeld => ?_)
   clear hK K
   refine norm_ (a' := ?_) ?_ ?_
   rotate_left
   ·show Act.put _ (some 23) _ = _
    simp only [Act.put, List.setIfInBounds_toArray, List.set_cons_zero, List.set_cons_succ, i64_w, i32_w]
    rfl
   refine zv_.pa (i := 11) (N := some 24) (zv_.bm 13 4095) HT_.out ?_
   refine zv_.pa (i := 12) (N := some 6) (zv_.bm 13 8191) HT_.out ?_
   refine done_ (done_of HT_.out (by kernel_rfl)) ?_
   try go_wp2
   go_ret
   exact ⟨wv3, wv40⟩
  ·rw [if_neg c6] at H
   have c6b0 : (t498 == a0_0) = false := beq_eq_false_iff_ne.mpr c6
   have c6b1 : (t498 != a0_0) = true := bne_iff_ne.mpr c6
   obtain rfl := Option.some.inj H
   go_enter Try.func226, Try.ntmps226
   try go_wp2_with (first | ((with_reducible refine gate_dst (N := 3) rfl ?_); refine box_event ?hg (N := 3) ?hd (cs := #[.int .i64 a0_0, .int .i64 a0_1]) (t := 31) ?hr ?_; (case hd => rfl); (case hg => rfl); (case hr => first | (go_simp; done) | (go_simp; rfl)); intro gb496 hg w12 hbox hb; have n0_ := Aside0.mk (below_step (xvo HB.out) hb); have n1_ := Aside0.mk (hbox); have n2_ := Aside0.mk ((by rw [hg]; exact (below_size (xvo HB.out)) : w.heap.size ≤ gb496)); have n3_ := Aside0.mk ((by rw [hg]; exact (below_size (xvo HB.out)) : w.heap.size ≤ gb496)); clear HB; have HB := n0_; have BK496 := n1_; have GW496 := n2_; have GE496 := n3_; clear n0_ n1_ n2_ n3_; clear hb hbox hg) | ((with_reducible refine gate_dst (N := 4) rfl ?_); refine box_event ?hg (N := 4) ?hd (cs := #[.int .i64 a1_0, .int .i64 a1_1, .int .i64 a1_2, .int .i64 a1_3, .int .i64 a1_4, .int .i64 a1_5, .slice none 0 0]) (t := 142) ?hr ?_; (case hd => rfl); (case hg => rfl); (case hr => first | (go_simp; done) | (go_simp; rfl)); intro gb497 hg w13 hbox hb; have n0_ := Aside0.mk (xvl BK496.out hb); have n1_ := Aside0.mk (below_step wv25 hb); have n2_ := Aside0.mk (hbox); have n3_ := Aside0.mk ((by rw [hg]; exact (below_size wv25) : w.heap.size ≤ gb497)); have n4_ := Aside0.mk ((by rw [hg]; exact (below_size wv25) : w.heap.size ≤ gb497)); have n5_ := Aside0.mk ((by rw [hg]; exact Nat.ne_of_lt (blk_lt (g := gb496) (o := .cells #[.int .i64 a0_0, .int .i64 a0_1] 31 (0, 0)) (xvb BK496.out)) : gb496 ≠ gb497)); have n6_ := Aside0.mk ((by rw [hg]; exact Nat.ne_of_gt (blk_lt (g := gb496) (o := .cells #[.int .i64 a0_0, .int .i64 a0_1] 31 (0, 0)) (xvb BK496.out)) : gb497 ≠ gb496)); clear BK496; clear HB; have BK496 := n0_; have HB := n1_; have BK497 := n2_; have GW497 := n3_; have GE497 := n4_; have NB496_497 := n5_; have NB497_496 := n6_; clear n0_ n1_ n2_ n3_ n4_ n5_ n6_; clear hb hbox hg))
   have n0_ := Aside0.mk (blk_drew BK496.out)
   have n1_ := Aside0.mk (blk_drew BK497.out)
   have n2_ := Aside0.mk (below_drew1 HB.out)
   clear BK496
   clear BK497
   clear HB
   have BK496 := n0_
   have BK497 := n1_
   have HB := n2_
   clear n0_ n1_ n2_
   refine start_ (n := 13) (S := fun w' => w'.cell? ⟨gb497, 0, none⟩ = some (.int .i64 a1_0) ∧ w'.cell? ⟨gb497, 1, none⟩ = some (.int .i64 a1_1) ∧ w'.cell? ⟨gb497, 2, none⟩ = some (.int .i64 a1_2) ∧ w'.cell? ⟨gb497, 3, none⟩ = some (.int .i64 a1_3) ∧ w'.cell? ⟨gb497, 4, none⟩ = some (.int .i64 a1_4) ∧ w'.cell? ⟨gb497, 5, none⟩ = some (.int .i64 a1_5) ∧ w'.cell? ⟨gb497, 6, none⟩ = some (.slice none 0 0) ∧ w'.cell? ⟨gb496, 0, none⟩ = some (.int .i64 a0_0) ∧ w'.cell? ⟨gb496, 1, none⟩ = some (.int .i64 a0_1)) (ds := []) (zv_.bm 13 0) (by kernel_rfl) rfl rfl ⟨xvc BK497.out, xvc BK497.out, xvc BK497.out, xvc BK497.out, xvc BK497.out, xvc BK497.out, xvc BK497.out, xvc BK496.out, xvc BK496.out⟩ (fun hHeld => ?_); refine with_tabW impl_isTable.tab3 impl_isTable.bits3 (fun HT_ HW_ => ?_)
   generalize w13.drew = w14 at BK496 BK497 HB hHeld ⊢
   refine zv_.pa (i := 0) (N := some 13) (zv_.bm 13 1) HT_.out ?_
   refine zv_.pa (i := 3) (N := some 16) (zv_.bm 13 9) HT_.out ?_
   refine zv_.ta (i := 1) (N := some 14) (zv_.bm 13 11) rfl (take_ofW HT_.out HW_.out (by kernel_rfl)) (Or.inl ⟨(by rfl), wv59⟩) hHeld ?_
   refine zv_.ta (i := 4) (N := some 17) (zv_.bm 13 27) rfl (take_ofW HT_.out HW_.out (by kernel_rfl)) (Or.inl ⟨(by rfl), wv59⟩) hHeld ?_
   refine one_ (i := 2) (N := some 15) (zv_.bm 13 31) rfl rfl (one_of HT_.out (by kernel_rfl)) (by decide) (fun K hK => ?_)
   refine goes_ Try.func95 (by kernel_rfl) rfl #[.slice none 0 0] (by rfl) rfl rfl wv1 ?_
   refine (impl_length_int64.calls _ _ ([] : List Int) t498 _ ?side1 ?side2 A5.out).mono ?_
   (case side1 => exact Kd.C_nil _ _)
   (case side2 => exact Nat.le_refl _)
   rintro e w' ⟨rfl, ⟨nd, rfl⟩⟩
   refine ⟨_, rfl, ?_⟩
   refine hK.out _ _ ⟨xvc BK497.out, xvc BK497.out, xvc BK497.out, xvc BK497.out, xvc BK497.out, xvc BK497.out, xvc BK497.out, xvc BK496.out, xvc BK496.out⟩ (fun hHeld => ?_)
   clear hK K
   refine norm_ (a' := ?_) ?_ ?_
   rotate_left
   ·show Act.put _ (some 15) _ = _
    simp only [Act.put, List.setIfInBounds_toArray, List.set_cons_zero, List.set_cons_succ, i64_w, i32_w]
    rfl
   refine zv_.pa (i := 5) (N := some 18) (zv_.bm 13 63) HT_.out ?_
   refine zv_.pa (i := 6) (N := some 19) (zv_.bm 13 127) HT_.out ?_
   refine pure_ (i := 7) (N := some 20) (v := undef) (a' := ?_) (zv_.bm 13 255) rfl rfl (any_of HT_.out (by kernel_rfl)) (fun _ _ _ h => h) (Or.inr ⟨(by rfl), rfl⟩) ?_ ?_
   rotate_left
   ·simp only [Act.put, List.setIfInBounds_toArray, List.set_cons_zero, List.set_cons_succ, i64_w, i32_w]
    rfl
   refine pure_ (i := 8) (N := some 21) (v := undef) (a' := ?_) (zv_.bm 13 511) rfl rfl (any_of HT_.out (by kernel_rfl)) (fun _ _ _ h => h) (Or.inr ⟨(by rfl), rfl⟩) ?_ ?_
   rotate_left
   ·simp only [Act.put, List.setIfInBounds_toArray, List.set_cons_zero, List.set_cons_succ, i64_w, i32_w]
    rfl
   refine pure_ (i := 9) (N := some 22) (v := undef) (a' := ?_) (zv_.bm 13 1023) rfl rfl (any_of HT_.out (by kernel_rfl)) (fun _ _ _ h => h) (Or.inr ⟨(by rfl), rfl⟩) ?_ ?_
   rotate_left
   ·simp only [Act.put, List.setIfInBounds_toArray, List.set_cons_zero, List.set_cons_succ, i64_w, i32_w]
    rfl
   refine pure_ (i := 10) (N := some 23) (v := undef) (a' := ?_) (zv_.bm 13 2047) rfl rfl (any_of HT_.out (by kernel_rfl)) (fun _ _ _ h => h) (Or.inr ⟨(by rfl), rfl⟩) ?_ ?_
   rotate_left
   ·simp only [Act.put, List.setIfInBounds_toArray, List.set_cons_zero, List.set_cons_succ, i64_w, i32_w]
    rfl
   refine zv_.pa (i := 11) (N := some 24) (zv_.bm 13 4095) HT_.out ?_
   refine zv_.pa (i := 12) (N := some 6) (zv_.bm 13 8191) HT_.out ?_
   refine done_ (done_of HT_.out (by kernel_rfl)) ?_
   try go_wp2
   go_ret
   exact ⟨wv3, wv40⟩
 ·replace c4 := Bool.eq_false_iff.mpr c4
  subst c4
  have H1 : (some (0 == 0)) = some r := by rw [if_neg (show ¬ (false = true) by decide)] at H; exact H
  clear H
  have H := H1
  clear H1
  obtain rfl := Option.some.inj H
  go_enter Try.func226, Try.ntmps226
  go_wp2_with (first | ((with_reducible refine gate_dst (N := 3) rfl ?_); refine box_event ?hg (N := 3) ?hd (cs := #[.int .i64 a0_0, .int .i64 a0_1]) (t := 31) ?hr ?_; (case hd => rfl); (case hg => rfl); (case hr => first | (go_simp; done) | (go_simp; rfl)); intro gb496 hg w15 hbox hb; have n0_ := Aside0.mk (below_step (xvo HB.out) hb); have n1_ := Aside0.mk (hbox); have n2_ := Aside0.mk ((by rw [hg]; exact (below_size (xvo HB.out)) : w.heap.size ≤ gb496)); have n3_ := Aside0.mk ((by rw [hg]; exact (below_size (xvo HB.out)) : w.heap.size ≤ gb496)); clear HB; have HB := n0_; have BK496 := n1_; have GW496 := n2_; have GE496 := n3_; clear n0_ n1_ n2_ n3_; clear hb hbox hg) | ((with_reducible refine gate_dst (N := 4) rfl ?_); refine box_event ?hg (N := 4) ?hd (cs := #[.int .i64 a1_0, .int .i64 a1_1, .int .i64 a1_2, .int .i64 a1_3, .int .i64 a1_4, .int .i64 a1_5, .slice none 0 0]) (t := 142) ?hr ?_; (case hd => rfl); (case hg => rfl); (case hr => first | (go_simp; done) | (go_simp; rfl)); intro gb497 hg w16 hbox hb; have n0_ := Aside0.mk (xvl BK496.out hb); have n1_ := Aside0.mk (below_step wv25 hb); have n2_ := Aside0.mk (hbox); have n3_ := Aside0.mk ((by rw [hg]; exact (below_size wv25) : w.heap.size ≤ gb497)); have n4_ := Aside0.mk ((by rw [hg]; exact (below_size wv25) : w.heap.size ≤ gb497)); have n5_ := Aside0.mk ((by rw [hg]; exact Nat.ne_of_lt (blk_lt (g := gb496) (o := .cells #[.int .i64 a0_0, .int .i64 a0_1] 31 (0, 0)) (xvb BK496.out)) : gb496 ≠ gb497)); have n6_ := Aside0.mk ((by rw [hg]; exact Nat.ne_of_gt (blk_lt (g := gb496) (o := .cells #[.int .i64 a0_0, .int .i64 a0_1] 31 (0, 0)) (xvb BK496.out)) : gb497 ≠ gb496)); clear BK496; clear HB; have BK496 := n0_; have HB := n1_; have BK497 := n2_; have GW497 := n3_; have GE497 := n4_; have NB496_497 := n5_; have NB497_496 := n6_; clear n0_ n1_ n2_ n3_ n4_ n5_ n6_; clear hb hbox hg; have hnb17 := NB497_496.out; have hnc17 := NB496_497.out; have hcz18_0 : w16.cell? ⟨gb497, 0, none⟩ = some (.int .i64 a1_0) := xvc BK497.out; have hcz18_1 : w16.cell? ⟨gb497, 1, none⟩ = some (.int .i64 a1_1) := xvc BK497.out; have hcz18_2 : w16.cell? ⟨gb497, 2, none⟩ = some (.int .i64 a1_2) := xvc BK497.out; have hcz18_3 : w16.cell? ⟨gb497, 3, none⟩ = some (.int .i64 a1_3) := xvc BK497.out; have hcz18_4 : w16.cell? ⟨gb497, 4, none⟩ = some (.int .i64 a1_4) := xvc BK497.out; have hcz18_5 : w16.cell? ⟨gb497, 5, none⟩ = some (.int .i64 a1_5) := xvc BK497.out; have hcz18_6 : w16.cell? ⟨gb497, 6, none⟩ = some (.slice none 0 0) := xvc BK497.out; have hfz18_0 := blk_frozen BK497.out 0; have hfz18_1 := blk_frozen BK497.out 1; have hfz18_2 := blk_frozen BK497.out 2; have hfz18_3 := blk_frozen BK497.out 3; have hfz18_4 := blk_frozen BK497.out 4; have hfz18_5 := blk_frozen BK497.out 5; have hfz18_6 := blk_frozen BK497.out 6))
  go_ret
  exact ⟨wv3, wv40⟩

end Go.Proofs.Ytpfoeologjacfaa.V
