/- Plain lemmas that the proof of FnExactStripCost leans on. -/
import Derived.KernelRfl
import Derived.Test.YtpfoeologjacfaaV0
import Derived.Test.YtpfoeologjacfaaV1
import Derived.Test.YtpfoeologjacfaaV10
import Derived.Test.YtpfoeologjacfaaV11
import Derived.Test.YtpfoeologjacfaaV12
import Derived.Test.YtpfoeologjacfaaV13
import Derived.Test.YtpfoeologjacfaaV15
import Derived.Test.YtpfoeologjacfaaV16
import Derived.Test.YtpfoeologjacfaaV2
import Derived.Test.YtpfoeologjacfaaV3
import Derived.Test.YtpfoeologjacfaaV4
import Derived.Test.YtpfoeologjacfaaV5
import Derived.Test.YtpfoeologjacfaaV6
import Derived.Test.YtpfoeologjacfaaV7
import Derived.Test.YtpfoeologjacfaaV8
import Derived.Test.YtpfoeologjacfaaV9
namespace Go.Proofs.Ytpfoeologjacfaa.V
open Go.RowKit Go.Proofs.YtpfoeologjacfaaW.PrintWords Go.Proofs.YtpfoeologjacfaaW.PrintLast Go.Proofs.YtpfoeologjacfaaW.PrintMore
set_option linter.unusedVariables false
set_option linter.unusedSimpArgs false

theorem w64 {x : Int} (h0 : -9223372036854775808 ≤ x) (h1 : x ≤ 9223372036854775807) : wrap64 x = x := by unfold wrap64; omega

theorem Ev.if_pos {α : Type} {c : Prop} [Decidable c] {g f : Nat → Option α} {r : α} (h : c) (k : Ev g r) : Ev (fun n => if c then g n else f n) r := Ev.congr (fun n => _root_.if_pos h) k

theorem Ev.if_neg {α : Type} {c : Prop} [Decidable c] {g f : Nat → Option α} {r : α} (h : ¬ c) (k : Ev f r) : Ev (fun n => if c then g n else f n) r := Ev.congr (fun n => _root_.if_neg h) k

theorem Ev.bind' {α β : Type} {g : Option α} {f : Nat → α → Option β} {a : α} {r : β} (h : g = some a) (k : Ev (fun n => f n a) r) : Ev (fun n => g.bind (f n)) r := Ev.congr (fun n => by rw [h]; rfl) k

theorem Ev.some' {α : Type} {a r : α} (h : a = r) : Ev (fun _ => some a) r := h ▸ Ev.now a

theorem in_eq (a b c : Int) : spec_l00In.f a b c = some (inB a b c) := by
  unfold spec_l00In.f inB
  by_cases h : b ≤ a
  · rw [_root_.if_pos h]; simp [h]
  · rw [_root_.if_neg (by omega)]; simp [h]

theorem bits_eq (a : Int) : spec_l01Bits.f a = some (bitsB a) := by
  unfold spec_l01Bits.f bitsB
  by_cases h4 : a = 4
  · subst h4; rfl
  by_cases h8 : a = 8
  · subst h8; rfl
  rw [_root_.if_neg h4, _root_.if_neg h8, beq_eq_false_iff_ne.2 h4, beq_eq_false_iff_ne.2 h8]
  rfl

def fitB (a n : Int) : Bool := inB a 0 63 && decide (a + n ≤ 64)

def loopB (a0 a1 a2 a3 a4 a5 : Int) : Bool :=
  inB a1 0 17 && (inB a5 0 24 && (fitB a3 a5 && (if a0 = 1 then (a4 == 0 && fitB a2 0) else if a0 = 0 then (fitB a4 a5 && fitB a2 a5) else false)))

theorem in_iff {n a b : Int} : inB n a b = true ↔ a ≤ n ∧ n ≤ b := by simp [inB]

theorem within_eq' (a b c : Int) : impl_within.f a b c = some (inB a b c) := rfl

theorem fit_spec (a n : Int) (h0 : 0 ≤ n) (h1 : n ≤ 24) : spec_l09Fits.f a n = some (fitB a n) := by
  unfold spec_l09Fits.f spec_l00Max.f
  split
  · simp only [Option.bind_some]
    rw [w64 (by omega) (by omega), in_eq]
    simp only [Option.bind_some, fitB, inB]
    congr 1
    rw [Bool.eq_iff_iff]; simp; omega
  · simp only [Option.bind_some]
    rw [w64 (by omega) (by omega), in_eq]
    simp only [Option.bind_some, fitB, inB]
    congr 1
    rw [Bool.eq_iff_iff]; simp; omega

theorem fit_one (a : Int) : spec_l09Fits.f a 1 = some (fitB a 0) := by
  rw [fit_spec a 1 (by omega) (by omega)]
  simp only [fitB, inB]
  congr 1
  rw [Bool.eq_iff_iff]; simp; omega

theorem fit_impl (a n : Int) (h0 : 0 ≤ n) (h1 : n ≤ 24) : impl_isSpan.f a n = some (fitB a n) := by
  unfold impl_isSpan.f
  rw [within_eq']
  simp only [Option.bind_some]
  by_cases h : inB a 0 63 = true
  · have := in_iff.1 h
    rw [_root_.if_pos h, w64 (by omega) (by omega)]
    simp [fitB, h]
  · rw [_root_.if_neg h]
    simp [fitB, h]

theorem opIs_eq (a : Int) : spec_l01OpIs.f a = some (inB a 0 17) := by
  unfold spec_l01OpIs.f
  rw [in_eq]; rfl

theorem isOp_eq (a : Int) : impl_isOp.f a = some (inB a 0 17) := rfl

theorem loop_spec (k : Nat) (a0 a1 a2 a3 a4 a5 : Int) : spec_l09Is.f (k + 1) a0 a1 a2 a3 a4 a5 = some (loopB a0 a1 a2 a3 a4 a5) := by
  unfold spec_l09Is.f loopB
  rw [opIs_eq, in_eq]
  simp only [Option.bind_some, spec_l09Is.j0, if_true]
  by_cases h1 : inB a1 0 17 = true
  · rw [_root_.if_pos h1, h1]
    by_cases h2 : inB a5 0 24 = true
    · have hb := in_iff.1 h2
      rw [_root_.if_pos h2, h2, fit_spec a3 a5 hb.1 hb.2, fit_spec a4 a5 hb.1 hb.2, fit_spec a2 a5 hb.1 hb.2, fit_one]
      simp only [Option.bind_some]
      cases fitB a3 a5 <;> cases fitB a4 a5 <;> cases fitB a2 a5 <;> simp <;> (repeat' split) <;> simp_all
    · rw [_root_.if_neg h2]
      simp [h2]
  · rw [_root_.if_neg h1]
    simp [h1]

theorem loop_impl (k : Nat) (a0 a1 a2 a3 a4 a5 : Int) : impl_ValidLoop.f (k + 1) a0 a1 a2 a3 a4 a5 = some (loopB a0 a1 a2 a3 a4 a5) := by
  unfold impl_ValidLoop.f loopB
  rw [isOp_eq, within_eq']
  simp only [Option.bind_some, impl_ValidLoop.j0, if_true]
  by_cases h1 : inB a1 0 17 = true
  · rw [_root_.if_pos h1, h1]
    by_cases h2 : inB a5 0 24 = true
    · have hb := in_iff.1 h2
      rw [_root_.if_pos h2, h2, fit_impl a3 a5 hb.1 hb.2, fit_impl a4 a5 hb.1 hb.2, fit_impl a2 a5 hb.1 hb.2, fit_impl a2 0 (by omega) (by omega)]
      simp only [Option.bind_some]
      cases fitB a3 a5 <;> cases fitB a4 a5 <;> cases fitB a2 a5 <;> cases fitB a2 0 <;> simp <;> (repeat' split) <;> simp_all
    · rw [_root_.if_neg h2]
      simp [h2]
  · rw [_root_.if_neg h1]
    simp [h1]

theorem loop_facts {a0 a1 a2 a3 a4 a5 : Int} (h : loopB a0 a1 a2 a3 a4 a5 = true) :
    0 ≤ a1 ∧ a1 ≤ 17 ∧ 0 ≤ a5 ∧ a5 ≤ 24 ∧ 0 ≤ a3 ∧ a3 + a5 ≤ 64 ∧ a3 ≤ 63 ∧ (a0 = 1 ∧ a4 = 0 ∧ 0 ≤ a2 ∧ a2 ≤ 63 ∨ a0 = 0 ∧ 0 ≤ a4 ∧ a4 ≤ 63 ∧ a4 + a5 ≤ 64 ∧ 0 ≤ a2 ∧ a2 ≤ 63 ∧ a2 + a5 ≤ 64) := by
  unfold loopB at h
  simp only [Bool.and_eq_true, fitB, inB, decide_eq_true_eq] at h
  obtain ⟨⟨p1, p2⟩, ⟨p3, p4⟩, ⟨⟨p5, p6⟩, p7⟩, h⟩ := h
  refine ⟨p1, p2, p3, p4, p5, p7, p6, ?_⟩
  by_cases e : a0 = 1
  · rw [_root_.if_pos e] at h
    simp at h
    left; omega
  · rw [_root_.if_neg e] at h
    by_cases e' : a0 = 0
    · rw [_root_.if_pos e'] at h
      simp at h
      right; omega
    · rw [_root_.if_neg e'] at h
      cases h

def commB (a : Int) : Bool := decide (a = 0 ∨ a = 14 ∨ 2 ≤ a ∧ a ≤ 11)

def assocB (a : Int) : Bool := decide (a = 0 ∨ 2 ≤ a ∧ a ≤ 10)

theorem comm_spec (a : Int) : spec_l01Commutes.f a = some (commB a) := by
  unfold spec_l01Commutes.f commB
  rw [opIs_eq]
  simp only [Option.bind_some, inB]
  repeat' split
  all_goals (congr 1; rw [Bool.eq_iff_iff]; simp; omega)

theorem comm_impl (a : Int) : impl_IsCommutative.f a = some (commB a) := by
  unfold impl_IsCommutative.f commB
  rw [within_eq']
  simp only [Option.bind_some, inB]
  repeat' split
  all_goals (congr 1; rw [Bool.eq_iff_iff]; simp; omega)

theorem assoc_spec (a : Int) : spec_l01Associates.f a = some (assocB a) := by
  unfold spec_l01Associates.f assocB
  rw [comm_spec]
  simp only [Option.bind_some, commB]
  repeat' split
  all_goals (congr 1; rw [Bool.eq_iff_iff]; simp at *; omega)

theorem assoc_impl (a : Int) : impl_IsAssociative.f a = some (assocB a) := by
  unfold impl_IsAssociative.f assocB
  rw [within_eq']
  simp only [Option.bind_some, inB]
  repeat' split
  all_goals (congr 1; rw [Bool.eq_iff_iff]; simp; omega)

theorem assoc_comm {a : Int} (h : assocB a = true) : commB a = true := by
  simp only [assocB, commB, decide_eq_true_eq] at *; omega

theorem apart_eq (a b c : Int) : spec_l09Apart.f a b c = impl_areApart.f a b c := rfl

/-- Whether a loop of a good form may be cut into strips. -/
def canB (n a0 a1 a2 a3 a4 a5 x : Int) : Bool :=
  if a0 = 1 then decide (x = 0) && (assocB a1 && !(decide (a3 ≤ a2) && decide (a2 < a3 + a5)))
  else inB x 0 2 && ((decide (a2 - a3 ≤ 0) || decide (n ≤ a2 - a3)) && ((decide (a2 - a4 ≤ 0) || decide (n ≤ a2 - a4)) && (decide (x ≠ 2) || (decide (n ≤ a5) && ((decide (a2 + a5 ≤ a3) || decide (a3 + a5 ≤ a2)) && (decide (a2 + a5 ≤ a4) || decide (a4 + a5 ≤ a2)))))))

theorem apart_impl (a b c : Int) (ha : 0 ≤ a ∧ a ≤ 63) (hb : 0 ≤ b ∧ b ≤ 63) (hc : 0 ≤ c ∧ c ≤ 24) : impl_areApart.f a b c = some (decide (a + c ≤ b) || decide (b + c ≤ a)) := by
  unfold impl_areApart.f
  rw [w64 (by omega) (by omega), w64 (by omega) (by omega)]
  split
  · rename_i h; simp [h]
  · rename_i h; simp [h]

theorem far_impl (a b c : Int) (ha : 0 ≤ a ∧ a ≤ 63) (hb : 0 ≤ b ∧ b ≤ 63) : impl_isFar.f a b c = some (decide (a - b ≤ 0) || decide (c ≤ a - b)) := by
  unfold impl_isFar.f
  rw [w64 (by omega) (by omega)]
  split
  · rename_i h; simp only [h, decide_true, Bool.true_or]
  · rename_i h; simp only [h, decide_false, Bool.false_or, ge_iff_le]

theorem can_spec (k : Nat) (n a0 a1 a2 a3 a4 a5 x : Int) (h : loopB a0 a1 a2 a3 a4 a5 = true) : spec_l09Can.f (k + 1) n a0 a1 a2 a3 a4 a5 x = some (canB n a0 a1 a2 a3 a4 a5 x) := by
  have hf := loop_facts h
  have e1 : wrap64 (wrap64 (a3 + a5) - 1) = a3 + a5 - 1 := by rw [w64 (x := a3 + a5) (by omega) (by omega), w64 (by omega) (by omega)]
  have e2 : wrap64 (a2 - a3) = a2 - a3 := w64 (by omega) (by omega)
  have e3 : wrap64 (a2 - a4) = a2 - a4 := w64 (by omega) (by omega)
  unfold spec_l09Can.f canB
  by_cases e : a0 = 1
  · rw [_root_.if_pos e, _root_.if_pos e, assoc_spec, in_eq, e1]
    simp only [Option.bind_some]
    by_cases hx : x = 0
    · rw [_root_.if_pos hx]
      cases assocB a1
      · simp
      · simp only [if_true, hx]
        congr 1; rw [Bool.eq_iff_iff]; simp [inB]; omega
    · rw [_root_.if_neg hx]; simp [hx]
  · rw [_root_.if_neg e, _root_.if_neg e, in_eq, e2, e3]
    simp only [Option.bind_some, spec_l09Can.j0, apart_eq]
    rw [apart_impl a2 a3 a5 (by omega) (by omega) (by omega), apart_impl a2 a4 a5 (by omega) (by omega) (by omega)]
    simp only [Option.bind_some]
    cases inB x 0 2
    · simp
    · by_cases c1 : a2 - a3 > 0 <;> by_cases c2 : a2 - a3 < n <;> by_cases c3 : a2 - a4 > 0 <;> by_cases c4 : a2 - a4 < n <;> by_cases c5 : x = 2 <;> by_cases c6 : a5 ≥ n <;> by_cases c7 : a2 + a5 ≤ a3 <;> by_cases c8 : a3 + a5 ≤ a2 <;>
        simp only [c1, c2, c3, c4, c5, c6, c7, c8, decide_true, decide_false, if_true, if_false, Bool.true_and, Bool.false_and, Bool.and_true, Bool.or_true, Bool.true_or, Bool.false_or, Bool.or_false, Bool.not_true, Bool.not_false, not_true, not_false_iff, ne_eq, ge_iff_le, (show (a2 - a3 ≤ 0) = ¬ (a2 - a3 > 0) from propext (by omega)), (show (n ≤ a2 - a3) = ¬ (a2 - a3 < n) from propext (by omega)), (show (a2 - a4 ≤ 0) = ¬ (a2 - a4 > 0) from propext (by omega)), (show (n ≤ a2 - a4) = ¬ (a2 - a4 < n) from propext (by omega))] <;> first | rfl | simp_all

theorem can_impl (k : Nat) (n b a0 a1 a2 a3 a4 a5 x : Int) (hm : (lanesB n && bitsB b) = true) (h : loopB a0 a1 a2 a3 a4 a5 = true) : impl_CanStrip.f (k + 3) n b a0 a1 a2 a3 a4 a5 x = some (canB n a0 a1 a2 a3 a4 a5 x) := by
  have hf := loop_facts h
  have e1 : wrap64 (a3 + a5) = a3 + a5 := w64 (by omega) (by omega)
  have hm' : impl_ValidMachine.f n b = some true := by
    unfold impl_ValidMachine.f
    rw [show impl_isLanes.f n = some (lanesB n) from rfl, show impl_isBits.f b = some (bitsB b) from rfl]
    simp only [Bool.and_eq_true] at hm
    simp [hm.1, hm.2]
  unfold impl_CanStrip.f canB
  rw [hm', show k + 3 = (k + 2) + 1 from rfl, loop_impl, h, within_eq']
  simp only [Option.bind_some, if_true, impl_CanStrip.j0, impl_CanStrip.j1, e1]
  rw [comm_impl, assoc_impl, far_impl a2 a3 n (by omega) (by omega), far_impl a2 a4 n (by omega) (by omega), apart_impl a2 a3 a5 (by omega) (by omega) (by omega), apart_impl a2 a4 a5 (by omega) (by omega) (by omega)]
  simp only [Option.bind_some]
  by_cases e : a0 = 1
  · rw [_root_.if_pos e]
    by_cases hx : x = 0
    · subst hx
      have h2 : inB 0 0 2 = true := by decide
      cases ha : assocB a1
      · cases commB a1 <;> simp [h2, e]
      · rw [assoc_comm ha]
        by_cases c1 : a3 ≤ a2 <;> by_cases c2 : a2 < a3 + a5 <;> simp [h2, e, c1, c2]
    · cases inB x 0 2 <;> simp [hx, e]
  · rw [_root_.if_neg e]
    cases inB x 0 2
    · simp [e]
    · by_cases c1 : a2 - a3 ≤ 0 <;> by_cases c2 : n ≤ a2 - a3 <;> by_cases c3 : a2 - a4 ≤ 0 <;> by_cases c4 : n ≤ a2 - a4 <;> by_cases c5 : x = 2 <;> by_cases c6 : a5 ≥ n <;> by_cases c7 : a2 + a5 ≤ a3 <;> by_cases c8 : a3 + a5 ≤ a2 <;>
        simp [c1, c2, c3, c4, c5, c6, c7, c8, e]

theorem machine_spec (a b : Int) : spec_l05Machine.f a b = some (lanesB a && bitsB b) := by
  unfold spec_l05Machine.f lanesB
  rw [bits_eq]
  simp only [Option.bind_some]
  by_cases h1 : a = 2
  · subst h1; simp
  · by_cases h2 : a = 4
    · subst h2; simp
    · by_cases h3 : a = 8
      · subst h3; simp
      · by_cases h4 : a = 16
        · subst h4; simp
        · simp [h1, h2, h3, h4]

theorem machine_impl (a b : Int) : impl_ValidMachine.f a b = some (lanesB a && bitsB b) := by
  unfold impl_ValidMachine.f
  rw [show impl_isLanes.f a = some (lanesB a) from rfl, show impl_isBits.f b = some (bitsB b) from rfl]
  simp only [Option.bind_some]
  cases lanesB a <;> simp

theorem w64n (a i : Nat) (h : a + i ≤ 1000) : wrap64 ((a : Int) + (i : Int)) = ((a + i : Nat) : Int) := by
  rw [w64 (by omega) (by omega)]; omega

theorem Ev.at {α : Type} {g : Nat → Option α} {r : α} (m : Nat) (h : ∀ k, g (k + m) = some r) : Ev g r :=
  ⟨m, fun k hk => by obtain ⟨j, rfl⟩ := Nat.exists_eq_add_of_le' hk; exact h j⟩

def stripL (a1 a2 a3 a4 i m : Int) : List S142 := [⟨0, 0, 0, 1, m, wrap64 (a3 + i), NRow.nil⟩, ⟨0, 1, 0, 1, m, wrap64 (a4 + i), NRow.nil⟩, ⟨4, 2, 0, 1, m, a1, NRow.nil⟩, ⟨1, 0, 2, 1, m, wrap64 (a2 + i), NRow.nil⟩]

def maskL (v : Int) : List S142 := [⟨9, 7, 0, 1, -1, 0, NRow.nil⟩, ⟨8, 6, 0, 0, -1, v, NRow.nil⟩, ⟨5, 3, 7, 6, -1, 2, NRow.nil⟩]

def finL (a1 a2 : Int) : List S142 := [⟨0, 0, 0, 1, 3, a2, NRow.nil⟩, ⟨4, 0, 0, 4, 3, a1, NRow.nil⟩, ⟨1, 0, 0, 1, 3, a2, NRow.nil⟩]

theorem stripL_length (a1 a2 a3 a4 i m : Int) : (stripL a1 a2 a3 a4 i m).length = 4 := rfl

theorem maskL_length (v : Int) : (maskL v).length = 3 := rfl

theorem strip_impl (a0 a1 a2 a3 a4 a5 i m : Int) : impl_strip.f a0 a1 a2 a3 a4 a5 i m = some (stripL a1 a2 a3 a4 i m) := rfl

theorem strip_spec (a0 a1 a2 a3 a4 a5 i m : Int) : spec_l09Strip.f a0 a1 a2 a3 a4 a5 i m = some (stripL a1 a2 a3 a4 i m) := rfl

theorem mask_impl (v : Int) : impl_firstLanes.f v = some (maskL v) := rfl

theorem mask_spec (v : Int) : spec_l09Mask.f v = some (maskL v) := rfl

theorem fold_tail (out : List S142) (E : Int) (a0 a1 a2 a3 a4 a5 : Int) (ho : out.length ≤ 600) : Ev (fun k => impl_foldCode.j1 k out E a0 a1 a2 a3 a4 a5) (((out ++ [⟨10, 4, 4, 0, if E > 0 then -1 else 3, a1, NRow.nil⟩]) ++ maskL 1) ++ finL a1 a2) := by
  have hp : impl_pick.f (decide (E > 0)) (-1) 3 = some (if E > 0 then -1 else 3) := by
    unfold impl_pick.f
    by_cases h : E > 0
    · rw [_root_.if_pos (by simpa using h), _root_.if_pos h]
    · rw [_root_.if_neg (by simpa using h), _root_.if_neg h]
  refine Ev.step (fun k => impl_foldCode.j1.eq_2 _ _ _ _ _ _ _ _ _) (Ev.bind' hp (Ev.if_pos (by omega) (Ev.bind' rfl (Ev.bind' (mask_impl _) (Ev.if_pos (by simp [maskL_length]; omega) (Ev.bind' rfl (Ev.bind' rfl (Ev.bind' rfl (Ev.bind' rfl (Ev.bind' rfl (Ev.if_pos (by simp [maskL_length]; omega) (Ev.now _))))))))))))

theorem tmod_nat (c n : Nat) : Int.tmod (c : Int) (n : Int) = ((c % n : Nat) : Int) := rfl

theorem CanStrip_impl' (k : Nat) (n b a0 a1 a2 a3 a4 a5 x : Int) : impl_CanStrip.f (k + 3) n b a0 a1 a2 a3 a4 a5 x = some ((lanesB n && bitsB b) && (loopB a0 a1 a2 a3 a4 a5 && canB n a0 a1 a2 a3 a4 a5 x)) := by
  by_cases h1 : (lanesB n && bitsB b) = true
  · by_cases h2 : loopB a0 a1 a2 a3 a4 a5 = true
    · rw [can_impl k n b a0 a1 a2 a3 a4 a5 x h1 h2, h1, h2]; rfl
    · unfold impl_CanStrip.f
      rw [machine_impl, h1, show k + 3 = (k + 2) + 1 from rfl, loop_impl]
      simp [impl_CanStrip.j0, h2]
  · unfold impl_CanStrip.f
    rw [machine_impl, show k + 3 = (k + 2) + 1 from rfl]
    simp only [Option.bind_some]
    rw [_root_.if_neg h1]
    simp [impl_CanStrip.j0, h1]

/-- The instructions that strips are made of: each is valid, and its cost is told. -/
def GI (y : S142) : Prop := (y.f4 = -1 ∨ y.f4 = 3) ∧ ((y.f0 = 0 ∧ 0 ≤ y.f1 ∧ y.f1 ≤ 7 ∧ y.f2 = 0 ∧ y.f3 = 1 ∧ 0 ≤ y.f5 ∧ y.f5 ≤ 63) ∨ (y.f0 = 1 ∧ y.f1 = 0 ∧ 0 ≤ y.f2 ∧ y.f2 ≤ 7 ∧ y.f3 = 1 ∧ 0 ≤ y.f5 ∧ y.f5 ≤ 63) ∨
  (y.f0 = 4 ∧ 0 ≤ y.f1 ∧ y.f1 ≤ 7 ∧ 0 ≤ y.f2 ∧ y.f2 ≤ 7 ∧ 0 ≤ y.f3 ∧ y.f3 ≤ 7 ∧ 0 ≤ y.f5 ∧ y.f5 ≤ 17) ∨ (y.f0 = 5 ∧ y.f1 = 3 ∧ y.f2 = 7 ∧ y.f3 = 6 ∧ y.f5 = 2) ∨ (y.f0 = 8 ∧ y.f1 = 6 ∧ y.f2 = 0 ∧ y.f3 = 0 ∧ 0 ≤ y.f5 ∧ y.f5 ≤ 15) ∨
  (y.f0 = 9 ∧ y.f1 = 7 ∧ y.f2 = 0 ∧ y.f3 = 1 ∧ y.f5 = 0) ∨ (y.f0 = 10 ∧ y.f1 = 4 ∧ y.f2 = 4 ∧ y.f3 = 0 ∧ 0 ≤ y.f5 ∧ y.f5 ≤ 17))

theorem G_app {a b : List S142} (h : ∀ y ∈ a, GI y) (k : ∀ y ∈ b, GI y) : ∀ y ∈ a ++ b, GI y := fun y hy => (List.mem_append.1 hy).elim (h y) (k y)

theorem gi0 {f1 m i : Int} {t : NRow} (hm : m = -1 ∨ m = 3) (h1 : 0 ≤ f1 ∧ f1 ≤ 7) (h5 : 0 ≤ i ∧ i ≤ 63) : GI ⟨0, f1, 0, 1, m, i, t⟩ := ⟨hm, Or.inl ⟨rfl, h1.1, h1.2, rfl, rfl, h5.1, h5.2⟩⟩

theorem gi1 {f2 m i : Int} {t : NRow} (hm : m = -1 ∨ m = 3) (h1 : 0 ≤ f2 ∧ f2 ≤ 7) (h5 : 0 ≤ i ∧ i ≤ 63) : GI ⟨1, 0, f2, 1, m, i, t⟩ := ⟨hm, Or.inr (Or.inl ⟨rfl, rfl, h1.1, h1.2, rfl, h5.1, h5.2⟩)⟩

theorem gi4 {f1 f2 f3 m i : Int} {t : NRow} (hm : m = -1 ∨ m = 3) (h1 : 0 ≤ f1 ∧ f1 ≤ 7) (h2 : 0 ≤ f2 ∧ f2 ≤ 7) (h3 : 0 ≤ f3 ∧ f3 ≤ 7) (h5 : 0 ≤ i ∧ i ≤ 17) : GI ⟨4, f1, f2, f3, m, i, t⟩ := ⟨hm, Or.inr (Or.inr (Or.inl ⟨rfl, h1.1, h1.2, h2.1, h2.2, h3.1, h3.2, h5.1, h5.2⟩))⟩

theorem gi5 {m : Int} {t : NRow} (hm : m = -1 ∨ m = 3) : GI ⟨5, 3, 7, 6, m, 2, t⟩ := ⟨hm, Or.inr (Or.inr (Or.inr (Or.inl ⟨rfl, rfl, rfl, rfl, rfl⟩)))⟩

theorem gi8 {m i : Int} {t : NRow} (hm : m = -1 ∨ m = 3) (h5 : 0 ≤ i ∧ i ≤ 15) : GI ⟨8, 6, 0, 0, m, i, t⟩ := ⟨hm, Or.inr (Or.inr (Or.inr (Or.inr (Or.inl ⟨rfl, rfl, rfl, rfl, h5.1, h5.2⟩))))⟩

theorem gi9 {m : Int} {t : NRow} (hm : m = -1 ∨ m = 3) : GI ⟨9, 7, 0, 1, m, 0, t⟩ := ⟨hm, Or.inr (Or.inr (Or.inr (Or.inr (Or.inr (Or.inl ⟨rfl, rfl, rfl, rfl, rfl⟩)))))⟩

theorem gi10 {m i : Int} {t : NRow} (hm : m = -1 ∨ m = 3) (h5 : 0 ≤ i ∧ i ≤ 17) : GI ⟨10, 4, 4, 0, m, i, t⟩ := ⟨hm, Or.inr (Or.inr (Or.inr (Or.inr (Or.inr (Or.inr ⟨rfl, rfl, rfl, rfl, h5.1, h5.2⟩)))))⟩

theorem strip_good {a1 a2 a3 a4 i m : Int} (h1 : 0 ≤ a1 ∧ a1 ≤ 17) (h2 : 0 ≤ a2 + i ∧ a2 + i ≤ 63) (h3 : 0 ≤ a3 + i ∧ a3 + i ≤ 63) (h4 : 0 ≤ a4 + i ∧ a4 + i ≤ 63) (hm : m = -1 ∨ m = 3) : ∀ y ∈ stripL a1 a2 a3 a4 i m, GI y := by
  intro y hy
  simp only [stripL, List.mem_cons, List.not_mem_nil, or_false] at hy
  rw [w64 (x := a3 + i) (by omega) (by omega), w64 (x := a4 + i) (by omega) (by omega), w64 (x := a2 + i) (by omega) (by omega)] at hy
  rcases hy with rfl | rfl | rfl | rfl
  · exact gi0 hm (by omega) h3
  · exact gi0 hm (by omega) h4
  · exact gi4 hm (by omega) (by omega) (by omega) h1
  · exact gi1 hm (by omega) h2

theorem strip_goodN {a1 a2 a3 a4 m : Int} {i c : Nat} (hg : 0 ≤ a1 ∧ a1 ≤ 17 ∧ 0 ≤ a2 ∧ a2 + c ≤ 64 ∧ 0 ≤ a3 ∧ a3 + c ≤ 64 ∧ 0 ≤ a4 ∧ a4 + c ≤ 64) (hi : i < c) (hm : m = -1 ∨ m = 3) : ∀ y ∈ stripL a1 a2 a3 a4 (i : Int) m, GI y :=
  strip_good (by omega) (by omega) (by omega) (by omega) hm

theorem mask_good {v : Int} (h : 0 ≤ v ∧ v ≤ 15) : ∀ y ∈ maskL v, GI y := by
  intro y hy
  simp only [maskL, List.mem_cons, List.not_mem_nil, or_false] at hy
  rcases hy with rfl | rfl | rfl
  · exact gi9 (Or.inl rfl)
  · exact gi8 (Or.inl rfl) h
  · exact gi5 (Or.inl rfl)

theorem mask_goodN {n R : Nat} (hn : 2 ≤ n ∧ n ≤ 16) (hR : R < n) : ∀ y ∈ maskL (R : Int), GI y := mask_good (by omega)

theorem fin_good {a1 a2 : Int} (h1 : 0 ≤ a1 ∧ a1 ≤ 17) (h2 : 0 ≤ a2 ∧ a2 ≤ 63) : ∀ y ∈ finL a1 a2, GI y := by
  intro y hy
  simp only [finL, List.mem_cons, List.not_mem_nil, or_false] at hy
  rcases hy with rfl | rfl | rfl
  · exact gi0 (Or.inr rfl) (by omega) h2
  · exact gi4 (Or.inr rfl) (by omega) (by omega) (by omega) h1
  · exact gi1 (Or.inr rfl) (by omega) h2

theorem red_good {a1 m : Int} (h1 : 0 ≤ a1 ∧ a1 ≤ 17) (hm : m = -1 ∨ m = 3) : ∀ y ∈ ([⟨10, 4, 4, 0, m, a1, NRow.nil⟩] : List S142), GI y := by
  intro y hy
  obtain rfl := List.mem_singleton.1 hy
  exact gi10 hm h1

theorem load_good {a3 m : Int} (h1 : 0 ≤ a3 ∧ a3 ≤ 63) (hm : m = -1 ∨ m = 3) : ∀ y ∈ ([⟨0, 4, 0, 1, m, a3, NRow.nil⟩] : List S142), GI y := by
  intro y hy
  obtain rfl := List.mem_singleton.1 hy
  exact gi0 hm (by omega) h1

theorem two_good {a1 i m : Int} (h1 : 0 ≤ a1 ∧ a1 ≤ 17) (hm : m = -1 ∨ m = 3) (h2 : 0 ≤ i ∧ i ≤ 63) : ∀ y ∈ ([⟨0, 0, 0, 1, m, i, NRow.nil⟩, ⟨4, 4, 4, 0, m, a1, NRow.nil⟩] : List S142), GI y := by
  intro y hy
  simp only [List.mem_cons, List.not_mem_nil, or_false] at hy
  rcases hy with rfl | rfl
  · exact gi0 hm (by omega) h2
  · exact gi4 hm (by omega) (by omega) (by omega) h1

theorem two_goodN {a1 a2 a3 m : Int} {i c : Nat} (hg : 0 ≤ a1 ∧ a1 ≤ 17 ∧ 0 ≤ a2 ∧ a2 ≤ 63 ∧ 0 ≤ a3 ∧ a3 + c ≤ 64) (hi : i < c) (hm : m = -1 ∨ m = 3) : ∀ y ∈ ([⟨0, 0, 0, 1, m, wrap64 (a3 + (i : Int)), NRow.nil⟩, ⟨4, 4, 4, 0, m, a1, NRow.nil⟩] : List S142), GI y :=
  two_good (by omega) hm (by rw [w64 (by omega) (by omega)]; omega)

theorem fold_hg {a1 a2 a3 : Int} {c : Nat} (h0 : 0 < c) (hg : 0 ≤ a1 ∧ a1 ≤ 17 ∧ 0 ≤ a2 ∧ a2 ≤ 63 ∧ 0 ≤ a3 ∧ a3 + c ≤ 64) : (0 ≤ a1 ∧ a1 ≤ 17) ∧ (0 ≤ a2 ∧ a2 ≤ 63) ∧ (0 ≤ a3 ∧ a3 ≤ 63) := by omega

theorem peel_goG (a0 a1 a2 a3 a4 : Int) (c : Nat) (hc : c ≤ 24) (hg : 0 ≤ a1 ∧ a1 ≤ 17 ∧ 0 ≤ a2 ∧ a2 + c ≤ 64 ∧ 0 ≤ a3 ∧ a3 + c ≤ 64 ∧ 0 ≤ a4 ∧ a4 + c ≤ 64) : ∀ (d j : Nat) (out : List S142), j + d = c → out.length + 4 * d ≤ 1000 → (∀ y ∈ out, GI y) →
    ∃ L : List S142, L.length ≤ 1000 ∧ (∀ y ∈ L, GI y) ∧ Ev (fun k => impl_mapCode.l1 k out (j : Int) a0 a1 a2 a3 a4 (c : Int)) L ∧ Ev (fun k => spec_l09Code.l1 k out (j : Int) a0 a1 a2 a3 a4 (c : Int)) (L, decide ((L.length : Int) ≤ 60)) := by
  intro d
  induction d with
  | zero =>
    intro j out hj ho hG
    exact ⟨out, by omega, hG, Ev.step (fun k => impl_mapCode.l1.eq_2 _ _ _ _ _ _ _ _ _) (Ev.if_neg (by omega) (Ev.now _)), Ev.step (fun k => spec_l09Code.l1.eq_2 _ _ _ _ _ _ _ _ _) (Ev.if_neg (by omega) (Ev.now _))⟩
  | succ d ih =>
    intro j out hj ho hG
    have e : Aside0 (wrap64 ((j : Int) + 1) = ((j + 1 : Nat) : Int)) := ⟨by rw [w64 (by omega) (by omega)]; rfl⟩
    obtain ⟨L, hL, hLG, h1, h2⟩ := ih (j + 1) (out ++ stripL a1 a2 a3 a4 (j : Int) 3) (by omega) (by rw [List.length_append, stripL_length]; omega) (G_app hG (strip_goodN hg (by omega) (Or.inr rfl)))
    rw [← e.out] at h1 h2
    exact ⟨L, hL, hLG, Ev.step (fun k => impl_mapCode.l1.eq_2 _ _ _ _ _ _ _ _ _) (Ev.if_pos (by omega) (Ev.bind' (strip_impl _ _ _ _ _ _ _ _) (Ev.if_pos (by rw [stripL_length]; omega) h1))),
      Ev.step (fun k => spec_l09Code.l1.eq_2 _ _ _ _ _ _ _ _ _) (Ev.if_pos (by omega) (Ev.bind' (strip_spec _ _ _ _ _ _ _ _) (Ev.if_pos (by rw [stripL_length]; omega) h2)))⟩

theorem map_goG (x b a0 a1 a2 a3 a4 : Int) (n c E R : Nat) (hn : 2 ≤ n ∧ n ≤ 16) (hc : c ≤ 24) (hE : E + R = c) (hR : R < n) (hg : 0 ≤ a1 ∧ a1 ≤ 17 ∧ 0 ≤ a2 ∧ a2 + c ≤ 64 ∧ 0 ≤ a3 ∧ a3 + c ≤ 64 ∧ 0 ≤ a4 ∧ a4 + c ≤ 64) (hx2 : ¬ x = 0 → ¬ x = 1 → R ≠ 0 → n ≤ c) : ∀ (d i : Nat) (out : List S142), i + n * d = E → out.length + 4 * d ≤ 500 → d ≤ 24 → (∀ y ∈ out, GI y) →
    ∃ L : List S142, L.length ≤ 1000 ∧ (∀ y ∈ L, GI y) ∧ Ev (fun k => impl_mapCode.l0 k x out (R : Int) (E : Int) (i : Int) (n : Int) b a0 a1 a2 a3 a4 (c : Int)) L ∧ Ev (fun k => spec_l09Code.l0 k x out (i : Int) (n : Int) b a0 a1 a2 a3 a4 (c : Int)) (L, decide ((L.length : Int) ≤ 60)) := by
  intro d
  induction d with
  | zero =>
    intro i out hi ho _ hG
    obtain rfl : i = E := by omega
    have e1 : Aside0 (wrap64 ((i : Int) + (n : Int)) = ((i + n : Nat) : Int)) := ⟨w64n i n (by omega)⟩
    have e2 : Aside0 (wrap64 ((c : Int) - (i : Int)) = (R : Int)) := ⟨by rw [w64 (by omega) (by omega)]; omega⟩
    by_cases hr : R = 0
    · refine ⟨out, by omega, hG, Ev.step (fun k => impl_mapCode.l0.eq_2 _ _ _ _ _ _ _ _ _ _ _ _ _ _) (Ev.if_neg (by omega) (Ev.if_pos (by omega) (Ev.now _))), ?_⟩
      refine Ev.step (fun k => spec_l09Code.l0.eq_2 _ _ _ _ _ _ _ _ _ _ _ _) (Ev.if_neg (by rw [e1.out]; omega) (Ev.if_neg (by omega) (Ev.now _)))
    · by_cases hx0 : x = 0
      · refine ⟨(out ++ maskL (R : Int)) ++ stripL a1 a2 a3 a4 (i : Int) 3, by simp [maskL_length, stripL_length]; omega, G_app (G_app hG (mask_goodN hn hR)) (strip_goodN hg (by omega) (Or.inr rfl)), Ev.step (fun k => impl_mapCode.l0.eq_2 _ _ _ _ _ _ _ _ _ _ _ _ _ _) (Ev.if_neg (by omega) (Ev.if_neg (by omega) (Ev.if_pos hx0 (Ev.bind' (mask_impl _) (Ev.if_pos (by rw [maskL_length]; omega) (Ev.bind' rfl (Ev.bind' (strip_impl _ _ _ _ _ _ _ _) (Ev.if_pos (by simp [maskL_length, stripL_length]; omega) (Ev.now _))))))))), ?_⟩
        refine Ev.step (fun k => spec_l09Code.l0.eq_2 _ _ _ _ _ _ _ _ _ _ _ _) (Ev.if_neg (by rw [e1.out]; omega) (Ev.if_pos (by omega) (Ev.if_pos hx0 ?_)))
        rw [e2.out]
        exact Ev.bind' (mask_spec _) (Ev.if_pos (by rw [maskL_length]; omega) (Ev.bind' rfl (Ev.bind' (strip_spec _ _ _ _ _ _ _ _) (Ev.if_pos (by simp [maskL_length, stripL_length]; omega) (Ev.bind' rfl (Ev.now _))))))
      · by_cases hx1 : x = 1
        · obtain ⟨L, hL, hLG, h1, h2⟩ := peel_goG a0 a1 a2 a3 a4 c hc hg R i (out ++ maskL 1) (by omega) (by simp [maskL_length]; omega) (G_app hG (mask_good (by omega)))
          refine ⟨L, hL, hLG, Ev.step (fun k => impl_mapCode.l0.eq_2 _ _ _ _ _ _ _ _ _ _ _ _ _ _) (Ev.if_neg (by omega) (Ev.if_neg (by omega) (Ev.if_neg hx0 (Ev.if_pos hx1 (Ev.bind' (mask_impl _) (Ev.if_pos (by rw [maskL_length]; omega) h1)))))), ?_⟩
          exact Ev.step (fun k => spec_l09Code.l0.eq_2 _ _ _ _ _ _ _ _ _ _ _ _) (Ev.if_neg (by rw [e1.out]; omega) (Ev.if_pos (by omega) (Ev.if_neg hx0 (Ev.if_pos hx1 (Ev.bind' (mask_spec _) (Ev.if_pos (by rw [maskL_length]; omega) h2))))))
        · have hnc := hx2 hx0 hx1 hr
          have e3 : Aside0 (wrap64 ((c : Int) - (n : Int)) = ((c - n : Nat) : Int)) := ⟨by rw [w64 (by omega) (by omega)]; omega⟩
          refine ⟨out ++ stripL a1 a2 a3 a4 (wrap64 ((c : Int) - (n : Int))) (-1), by simp [stripL_length]; omega, G_app hG (by rw [e3.out]; exact strip_goodN hg (by omega) (Or.inl rfl)), Ev.step (fun k => impl_mapCode.l0.eq_2 _ _ _ _ _ _ _ _ _ _ _ _ _ _) (Ev.if_neg (by omega) (Ev.if_neg (by omega) (Ev.if_neg hx0 (Ev.if_neg hx1 (Ev.bind' (strip_impl _ _ _ _ _ _ _ _) (Ev.if_pos (by simp [stripL_length]; omega) (Ev.now _))))))), ?_⟩
          exact Ev.step (fun k => spec_l09Code.l0.eq_2 _ _ _ _ _ _ _ _ _ _ _ _) (Ev.if_neg (by rw [e1.out]; omega) (Ev.if_pos (by omega) (Ev.if_neg hx0 (Ev.if_neg hx1 (Ev.bind' (strip_spec _ _ _ _ _ _ _ _) (Ev.if_pos (by simp [stripL_length]; omega) (Ev.bind' rfl (Ev.now _))))))))
  | succ d ih =>
    intro i out hi ho hd hG
    have hm : n * (d + 1) = n * d + n := Nat.mul_succ n d
    have e1 : Aside0 (wrap64 ((i : Int) + (n : Int)) = ((i + n : Nat) : Int)) := ⟨w64n i n (by omega)⟩
    obtain ⟨L, hL, hLG, h1, h2⟩ := ih (i + n) (out ++ stripL a1 a2 a3 a4 (i : Int) (-1)) (by omega) (by rw [List.length_append, stripL_length]; omega) (by omega) (G_app hG (strip_goodN hg (by omega) (Or.inl rfl)))
    rw [← e1.out] at h1 h2
    exact ⟨L, hL, hLG, Ev.step (fun k => impl_mapCode.l0.eq_2 _ _ _ _ _ _ _ _ _ _ _ _ _ _) (Ev.if_pos (by omega) (Ev.bind' (strip_impl _ _ _ _ _ _ _ _) (Ev.if_pos (by rw [stripL_length]; omega) h1))),
      Ev.step (fun k => spec_l09Code.l0.eq_2 _ _ _ _ _ _ _ _ _ _ _ _) (Ev.if_pos (by rw [e1.out]; omega) (Ev.bind' (strip_spec _ _ _ _ _ _ _ _) (Ev.if_pos (by rw [stripL_length]; omega) h2)))⟩

theorem fold_goG (b a0 a1 a2 a3 a4 : Int) (n c E R : Nat) (hn : 2 ≤ n ∧ n ≤ 16) (h0 : 0 < c) (hc : c ≤ 24) (hE : E + R = c) (hR : R < n) (hg : 0 ≤ a1 ∧ a1 ≤ 17 ∧ 0 ≤ a2 ∧ a2 ≤ 63 ∧ 0 ≤ a3 ∧ a3 + c ≤ 64) : ∀ (d i : Nat) (out : List S142), i + n * d = E → out.length + 2 * d ≤ 500 → d ≤ 24 → (∀ y ∈ out, GI y) →
    ∃ L : List S142, L.length ≤ 1000 ∧ (∀ y ∈ L, GI y) ∧ Ev (fun k => impl_foldCode.l0 k out (R : Int) (E : Int) (i : Int) (n : Int) b a0 a1 a2 a3 a4 (c : Int)) L ∧ Ev (fun k => spec_l09Fold.l0 k (n : Int) out (i : Int) a0 a1 a2 a3 a4 (c : Int)) L := by
  intro d
  induction d with
  | zero =>
    intro i out hi ho _ hG
    obtain rfl : i = E := by omega
    have e1 : Aside0 (wrap64 ((i : Int) + (n : Int)) = ((i + n : Nat) : Int)) := ⟨w64n i n (by omega)⟩
    have e2 : Aside0 (wrap64 ((c : Int) - (i : Int)) = (R : Int)) := ⟨by rw [w64 (by omega) (by omega)]; omega⟩
    by_cases hr : R = 0
    · have hpos : ((i : Nat) : Int) > 0 := by omega
      have ht := fold_tail out (i : Int) a0 a1 a2 a3 a4 (c : Int) (by omega)
      rw [_root_.if_pos hpos] at ht
      refine ⟨_, ?_, ?_, Ev.step (fun k => impl_foldCode.l0.eq_2 _ _ _ _ _ _ _ _ _ _ _ _ _) (Ev.if_neg (by omega) (Ev.if_neg (by omega) ht)), ?_⟩
      · simp [maskL_length, finL]; omega
      · exact G_app (G_app (G_app hG (red_good (fold_hg h0 hg).1 (Or.inl rfl))) (mask_good (by omega))) (fin_good (fold_hg h0 hg).1 (fold_hg h0 hg).2.1)
      · refine Ev.step (fun k => spec_l09Fold.l0.eq_2 _ _ _ _ _ _ _ _ _ _) (Ev.if_neg (by rw [e1.out]; omega) (Ev.if_neg (by omega) (Ev.if_pos (by omega) (Ev.bind' rfl (Ev.bind' (mask_spec _) (Ev.if_pos (by simp [maskL_length]; omega) (Ev.bind' rfl (Ev.bind' rfl (Ev.if_pos (by simp [maskL_length]; omega) (Ev.now _))))))))))
    · by_cases hi0 : i = 0
      · have hpos : ¬ ((i : Nat) : Int) > 0 := by omega
        have ht := fold_tail ((out ++ maskL (R : Int)) ++ [⟨0, 4, 0, 1, 3, a3, NRow.nil⟩]) (i : Int) a0 a1 a2 a3 a4 (c : Int) (by simp [maskL_length]; omega)
        rw [_root_.if_neg hpos] at ht
        refine ⟨_, ?_, ?_, Ev.step (fun k => impl_foldCode.l0.eq_2 _ _ _ _ _ _ _ _ _ _ _ _ _) (Ev.if_neg (by omega) (Ev.if_pos (by omega) (Ev.bind' (mask_impl _) (Ev.if_pos (by simp [maskL_length]; omega) (Ev.bind' rfl (Ev.if_neg hpos (Ev.bind' rfl (Ev.if_pos (by simp [maskL_length]; omega) ht)))))))), ?_⟩
        · simp [maskL_length, finL]; omega
        · exact G_app (G_app (G_app (G_app (G_app hG (mask_goodN hn hR)) (load_good (fold_hg h0 hg).2.2 (Or.inr rfl))) (red_good (fold_hg h0 hg).1 (Or.inr rfl))) (mask_good (by omega))) (fin_good (fold_hg h0 hg).1 (fold_hg h0 hg).2.1)
        · refine Ev.step (fun k => spec_l09Fold.l0.eq_2 _ _ _ _ _ _ _ _ _ _) (Ev.if_neg (by rw [e1.out]; omega) (Ev.if_pos (by omega) ?_))
          rw [e2.out]
          refine Ev.bind' (mask_spec _) (Ev.if_pos (by simp [maskL_length]; omega) (Ev.bind' rfl (Ev.if_neg hpos (Ev.if_pos (by simp [maskL_length]; omega) (Ev.bind' rfl (Ev.if_pos (by simp [maskL_length]; omega) (Ev.bind' rfl (Ev.bind' (mask_spec _) (Ev.if_pos (by simp [maskL_length]; omega) (Ev.bind' rfl (Ev.bind' rfl (Ev.if_pos (by simp [maskL_length]; omega) (Ev.now _)))))))))))))
      · have hpos : ((i : Nat) : Int) > 0 := by omega
        have ht := fold_tail ((out ++ maskL (R : Int)) ++ [⟨0, 0, 0, 1, 3, wrap64 (a3 + (i : Int)), NRow.nil⟩, ⟨4, 4, 4, 0, 3, a1, NRow.nil⟩]) (i : Int) a0 a1 a2 a3 a4 (c : Int) (by simp [maskL_length]; omega)
        rw [_root_.if_pos hpos] at ht
        refine ⟨_, ?_, ?_, Ev.step (fun k => impl_foldCode.l0.eq_2 _ _ _ _ _ _ _ _ _ _ _ _ _) (Ev.if_neg (by omega) (Ev.if_pos (by omega) (Ev.bind' (mask_impl _) (Ev.if_pos (by simp [maskL_length]; omega) (Ev.bind' rfl (Ev.if_pos hpos (Ev.bind' rfl (Ev.bind' rfl (Ev.bind' rfl (Ev.if_pos (by simp [maskL_length]; omega) ht)))))))))), ?_⟩
        · simp [maskL_length, finL]; omega
        · exact G_app (G_app (G_app (G_app (G_app hG (mask_goodN hn hR)) (two_goodN hg (by omega) (Or.inr rfl))) (red_good (fold_hg h0 hg).1 (Or.inl rfl))) (mask_good (by omega))) (fin_good (fold_hg h0 hg).1 (fold_hg h0 hg).2.1)
        · refine Ev.step (fun k => spec_l09Fold.l0.eq_2 _ _ _ _ _ _ _ _ _ _) (Ev.if_neg (by rw [e1.out]; omega) (Ev.if_pos (by omega) ?_))
          rw [e2.out]
          refine Ev.bind' (mask_spec _) (Ev.if_pos (by simp [maskL_length]; omega) (Ev.bind' rfl (Ev.if_pos hpos (Ev.bind' rfl (Ev.if_pos (by simp [maskL_length]; omega) (Ev.bind' rfl (Ev.if_pos (by simp [maskL_length]; omega) (Ev.bind' rfl (Ev.bind' (mask_spec _) (Ev.if_pos (by simp [maskL_length]; omega) (Ev.bind' rfl (Ev.bind' rfl (Ev.if_pos (by simp [maskL_length]; omega) (Ev.now _))))))))))))))
  | succ d ih =>
    intro i out hi ho hd hG
    have hm : n * (d + 1) = n * d + n := Nat.mul_succ n d
    have qa : (i : Int) < (E : Int) := by omega
    have e1 : Aside0 (wrap64 ((i : Int) + (n : Int)) = ((i + n : Nat) : Int)) := ⟨w64n i n (by omega)⟩
    by_cases hi0 : i = 0
    · obtain ⟨L, hL, hLG, h1, h2⟩ := ih (i + n) (out ++ [⟨0, 4, 0, 1, -1, a3, NRow.nil⟩]) (by omega) (by simp; omega) (by omega) (G_app hG (load_good (fold_hg h0 hg).2.2 (Or.inl rfl)))
      rw [← e1.out] at h1 h2
      exact ⟨L, hL, hLG, Ev.step (fun k => impl_foldCode.l0.eq_2 _ _ _ _ _ _ _ _ _ _ _ _ _) (Ev.if_pos qa (Ev.if_pos (Int.natCast_eq_zero.2 hi0) (Ev.bind' rfl (Ev.if_pos (by omega) h1)))),
        Ev.step (fun k => spec_l09Fold.l0.eq_2 _ _ _ _ _ _ _ _ _ _) (Ev.if_pos (by rw [e1.out]; omega) (Ev.if_pos (by omega) (Ev.if_pos (by omega) h2)))⟩
    · obtain ⟨L, hL, hLG, h1, h2⟩ := ih (i + n) (out ++ [⟨0, 0, 0, 1, -1, wrap64 (a3 + (i : Int)), NRow.nil⟩, ⟨4, 4, 4, 0, -1, a1, NRow.nil⟩]) (by omega) (by simp; omega) (by omega) (G_app hG (two_goodN hg (by omega) (Or.inl rfl)))
      rw [← e1.out] at h1 h2
      exact ⟨L, hL, hLG, Ev.step (fun k => impl_foldCode.l0.eq_2 _ _ _ _ _ _ _ _ _ _ _ _ _) (Ev.if_pos qa (Ev.if_neg (fun q_ => hi0 (Int.natCast_eq_zero.1 q_)) (Ev.bind' rfl (Ev.bind' rfl (Ev.bind' rfl (Ev.if_pos (by simp; omega) h1)))))),
        Ev.step (fun k => spec_l09Fold.l0.eq_2 _ _ _ _ _ _ _ _ _ _) (Ev.if_pos (by rw [e1.out]; omega) (Ev.if_neg (by omega) (Ev.bind' rfl (Ev.if_pos (by simp; omega) h2))))⟩

theorem StripCode_exG (n b a0 a1 a2 a3 a4 a5 x : Int) : ∃ r : List S142 × Bool, r.1.length ≤ 1000 ∧ (∀ y ∈ r.1, GI y) ∧ (r.2 = true → r.1.length ≤ 60 ∧ (lanesB n && bitsB b) = true) ∧ Ev (fun k => spec_StripCode.f k n b a0 a1 a2 a3 a4 a5 x) r ∧ Ev (fun k => impl_StripCode.f k n b a0 a1 a2 a3 a4 a5 x) r := by
  unfold spec_StripCode.f impl_StripCode.f
  have hci : Ev (fun k => impl_CanStrip.f k n b a0 a1 a2 a3 a4 a5 x) ((lanesB n && bitsB b) && (loopB a0 a1 a2 a3 a4 a5 && canB n a0 a1 a2 a3 a4 a5 x)) := Ev.at 3 fun k => CanStrip_impl' k n b a0 a1 a2 a3 a4 a5 x
  by_cases h1 : (lanesB n && bitsB b) = true
  · by_cases h2 : loopB a0 a1 a2 a3 a4 a5 = true
    · by_cases h3 : canB n a0 a1 a2 a3 a4 a5 x = true
      · rw [h1, h2, h3] at hci
        have hf := loop_facts h2
        have hl : lanesB n = true := by revert h1; cases lanesB n <;> simp
        obtain ⟨N, rfl, hN⟩ : ∃ N : Nat, n = (N : Int) ∧ 2 ≤ N ∧ N ≤ 16 := by
          rcases lanes_cases hl with rfl | rfl | rfl | rfl
          · exact ⟨2, rfl, by omega⟩
          · exact ⟨4, rfl, by omega⟩
          · exact ⟨8, rfl, by omega⟩
          · exact ⟨16, rfl, by omega⟩
        obtain ⟨c, rfl⟩ := Int.eq_ofNat_of_zero_le hf.2.2.1
        have hc : c ≤ 24 := by omega
        have hdm : N * (c / N) + c % N = c := Nat.div_add_mod c N
        have hml : c % N < N := Nat.mod_lt c (by omega)
        have hq : c / N ≤ 24 := Nat.le_trans (Nat.div_le_self c N) hc
        have hn0 : ¬ (N : Int) = 0 := by omega
        have e1 : Aside0 (wrap64 ((c : Int) - ((c % N : Nat) : Int)) = ((N * (c / N) : Nat) : Int)) := ⟨by rw [w64 (by omega) (by omega)]; omega⟩
        obtain ⟨F, hF, hFG, f1, f2⟩ : ∃ F : List S142, F.length ≤ 1000 ∧ (∀ y ∈ F, GI y) ∧ Ev (fun k => impl_foldCode.f k (N : Int) b a0 a1 a2 a3 a4 (c : Int)) F ∧ Ev (fun k => spec_l09Fold.f k (N : Int) a0 a1 a2 a3 a4 (c : Int)) F := by
          unfold impl_foldCode.f spec_l09Fold.f
          by_cases h0 : c = 0
          · exact ⟨[], by simp, by simp, Ev.if_pos (by omega) (Ev.now _), Ev.bind' rfl (Ev.if_pos (by omega) (Ev.now _))⟩
          · obtain ⟨L, hL, hLG, g1, g2⟩ := fold_goG b a0 a1 a2 a3 a4 N c (N * (c / N)) (c % N) hN (by omega) hc hdm hml (by omega) (c / N) 0 [] (by omega) (by simp; omega) hq (by simp)
            refine ⟨L, hL, hLG, Ev.if_neg (by omega) (Ev.if_neg hn0 ?_), Ev.bind' rfl (Ev.if_neg (by omega) g2)⟩
            rw [tmod_nat, e1.out]
            exact g1
        have hcs : Ev (fun k => spec_l09Can.f k (N : Int) a0 a1 a2 a3 a4 (c : Int) x) true := Ev.at 1 fun k => by rw [can_spec k (N : Int) a0 a1 a2 a3 a4 (c : Int) x h2, h3]
        have hS : ∀ {L : List S142}, Ev (fun k => spec_l09Code.f k (N : Int) b a0 a1 a2 a3 a4 (c : Int) x) (L, decide ((L.length : Int) ≤ 60)) → Ev (fun k => (spec_l05Machine.f (N : Int) b).bind fun t250 => if t250 = true then (spec_l09Is.f k a0 a1 a2 a3 a4 (c : Int)).bind fun t251 => spec_StripCode.j0 k x (!t251) (N : Int) b a0 a1 a2 a3 a4 (c : Int) else spec_StripCode.j0 k x true (N : Int) b a0 a1 a2 a3 a4 (c : Int)) (if (L.length : Int) > 60 then ([], false) else (L, true)) := by
          intro L h
          refine Ev.bind' (machine_spec _ _) (Ev.if_pos h1 (Ev.bind (Ev.at 1 fun k => loop_spec k _ _ _ _ _ _) (Ev.step (fun k => spec_StripCode.j0.eq_2 _ _ _ _ _ _ _ _ _ _ _) (Ev.if_neg (by simp [h2]) (Ev.bind h ?_)))))
          by_cases h6 : (L.length : Int) > 60
          · rw [_root_.if_pos h6]
            exact Ev.if_neg (by simpa using h6) (Ev.now _)
          · rw [_root_.if_neg h6]
            exact Ev.if_pos (by simpa using h6) (Ev.now _)
        rcases hf.2.2.2.2.2.2.2 with ⟨rfl, _⟩ | ⟨rfl, _⟩
        · refine ⟨if (F.length : Int) > 60 then ([], false) else (F, true), ?_, ?_, ?_, hS ?_, Ev.bind hci (Ev.if_pos rfl (Ev.bind f1 (Ev.if_neg (by omega) ?_)))⟩
          · split
            · simp
            · exact hF
          · split
            · simp
            · exact hFG
          · split
            · simp
            · rename_i h6; exact fun _ => ⟨by show F.length ≤ 60; omega, h1⟩
          · unfold spec_l09Code.f
            exact Ev.bind hcs (Ev.if_pos rfl (Ev.if_pos rfl (Ev.bind f2 (Ev.now _))))
          · by_cases h6 : (F.length : Int) > 60
            · exact Ev.if_pos h6 (Ev.some' (by rw [_root_.if_pos h6]))
            · exact Ev.if_neg h6 (Ev.some' (by rw [_root_.if_neg h6]))
        · have hx2 : ¬ x = 0 → ¬ x = 1 → c % N ≠ 0 → N ≤ c := by
            intro q0 q1 _
            simp only [canB, inB] at h3
            simp at h3
            omega
          obtain ⟨L, hL, hLG, g1, g2⟩ := map_goG x b 0 a1 a2 a3 a4 N c (N * (c / N)) (c % N) hN hc hdm hml (by omega) hx2 (c / N) 0 [] (by omega) (by simp; omega) hq (by simp)
          refine ⟨if (L.length : Int) > 60 then ([], false) else (L, true), ?_, ?_, ?_, hS ?_, Ev.bind hci (Ev.if_pos rfl (Ev.bind f1 (Ev.if_pos rfl (Ev.bind (a := L) ?_ ?_))))⟩
          · split
            · simp
            · exact hL
          · split
            · simp
            · exact hLG
          · split
            · simp
            · rename_i h6; exact fun _ => ⟨by show L.length ≤ 60; omega, h1⟩
          · unfold spec_l09Code.f
            exact Ev.bind hcs (Ev.if_pos rfl (Ev.if_neg (by omega) g2))
          · unfold impl_mapCode.f
            refine Ev.if_neg hn0 ?_
            rw [tmod_nat, e1.out]
            exact g1
          · by_cases h6 : (L.length : Int) > 60
            · exact Ev.if_pos h6 (Ev.some' (by rw [_root_.if_pos h6]))
            · exact Ev.if_neg h6 (Ev.some' (by rw [_root_.if_neg h6]))
      · have h3 : canB n a0 a1 a2 a3 a4 a5 x = false := by simpa using h3
        rw [h1, h2, h3] at hci
        have hcs : Ev (fun k => spec_l09Can.f k n a0 a1 a2 a3 a4 a5 x) false := Ev.at 1 fun k => by rw [can_spec k n a0 a1 a2 a3 a4 a5 x h2, h3]
        refine ⟨([], false), by simp, by simp, by simp, ?_, Ev.bind hci (Ev.if_neg (by simp) (Ev.now _))⟩
        refine Ev.bind' (machine_spec _ _) (Ev.if_pos h1 (Ev.bind (Ev.at 1 fun k => loop_spec k _ _ _ _ _ _) (Ev.step (fun k => spec_StripCode.j0.eq_2 _ _ _ _ _ _ _ _ _ _ _) (Ev.if_neg (by simp [h2]) (Ev.bind (a := (([] : List S142), false)) ?_ (Ev.if_neg (by simp) (Ev.now _)))))))
        unfold spec_l09Code.f
        exact Ev.bind hcs (Ev.if_neg (by simp) (Ev.now _))
    · have h2 : loopB a0 a1 a2 a3 a4 a5 = false := by simpa using h2
      rw [h1, h2] at hci
      exact ⟨([], false), by simp, by simp, by simp, Ev.bind' (machine_spec _ _) (Ev.if_pos h1 (Ev.bind (Ev.at 1 fun k => loop_spec k _ _ _ _ _ _) (Ev.step (fun k => spec_StripCode.j0.eq_2 _ _ _ _ _ _ _ _ _ _ _) (Ev.if_pos (by simp [h2]) (Ev.now _))))), Ev.bind hci (Ev.if_neg (by simp) (Ev.now _))⟩
  · have h1 : (lanesB n && bitsB b) = false := by simpa using h1
    rw [h1] at hci
    exact ⟨([], false), by simp, by simp, by simp, Ev.bind' (machine_spec _ _) (Ev.if_neg (by rw [h1]; simp) (Ev.step (fun k => spec_StripCode.j0.eq_2 _ _ _ _ _ _ _ _ _ _ _) (Ev.if_pos rfl (Ev.now _)))), Ev.bind hci (Ev.if_neg (by simp) (Ev.now _))⟩

def costV (n : Int) (y : S142) : Int := if y.f0 = 10 then n else if y.f0 = 4 ∧ y.f5 = 2 then 3 else 1

theorem cost_spec' (n : Int) (y : S142) (h : GI y) : costO n y = some (costV n y) := by
  obtain ⟨f0, f1, f2, f3, f4, f5, f6⟩ := y
  simp only [GI] at h
  rcases h with ⟨_, ⟨rfl, h⟩ | ⟨rfl, h⟩ | ⟨rfl, h⟩ | ⟨rfl, h⟩ | ⟨rfl, h⟩ | ⟨rfl, h⟩ | ⟨rfl, h⟩⟩
  · obtain ⟨_, _, _, rfl, _⟩ := h
    simp [costO, costV]
  · obtain ⟨_, _, _, rfl, _⟩ := h
    simp [costO, costV]
  · by_cases h5 : f5 = 2 <;> simp [costO, costV, h5]
  · simp [costO, costV]
  · simp [costO, costV]
  · simp [costO, costV]
  · simp [costO, costV]

theorem cost_impl' (k : Nat) (n b : Int) (y : S142) (h : GI y) : impl_cost.f (k + 2) n b y.f0 y.f1 y.f2 y.f3 y.f4 y.f5 y.f6 = some (costV n y) := by
  obtain ⟨f0, f1, f2, f3, f4, f5, f6⟩ := y
  simp only [GI] at h
  rcases h with ⟨_, ⟨rfl, h⟩ | ⟨rfl, h⟩ | ⟨rfl, h⟩ | ⟨rfl, h⟩ | ⟨rfl, h⟩ | ⟨rfl, h⟩ | ⟨rfl, h⟩⟩
  · obtain ⟨_, _, _, rfl, _⟩ := h
    simp [impl_cost.f, impl_cost.j0, impl_pick.f, costV]
  · obtain ⟨_, _, _, rfl, _⟩ := h
    simp [impl_cost.f, impl_cost.j0, impl_pick.f, costV]
  · by_cases h5 : f5 = 2 <;> simp [impl_cost.f, impl_cost.j0, impl_cost.j1, impl_pick.f, costV, h5]
  · simp [impl_cost.f, impl_cost.j0, impl_cost.j1, impl_pick.f, costV]
  · simp [impl_cost.f, impl_cost.j0, impl_cost.j1, impl_pick.f, costV]
  · simp [impl_cost.f, impl_cost.j0, impl_cost.j1, impl_pick.f, costV]
  · simp [impl_cost.f, impl_cost.j0, impl_cost.j1, impl_pick.f, costV]

def shapesL : List S191 := (impl_shapes.f).getD []

theorem shapes_eq : impl_shapes.f = some shapesL := rfl

theorem shapes_len : shapesL.length = 15 := rfl

theorem in_true {n a b : Int} (h : a ≤ n ∧ n ≤ b) : impl_within.f n a b = some true := by
  show some (inB n a b) = some true
  congr 1; simpa [inB] using h

theorem field_v {n : Int} (h : 0 ≤ n ∧ n ≤ 7) : impl_isField.f 1 n = some true := by unfold impl_isField.f; rw [_root_.if_pos rfl, in_true h]; rfl

theorem field_m {n : Int} (h : 0 ≤ n ∧ n ≤ 3) : impl_isField.f 2 n = some true := by unfold impl_isField.f impl_isMaskNumber.f; rw [_root_.if_neg (by omega), _root_.if_pos rfl, in_true h]; rfl

theorem field_n (n : Int) : impl_isField.f 3 n = some true := rfl

theorem field_z : impl_isField.f 0 0 = some true := rfl

theorem valid_of (k : Nat) (n b f0 f1 f2 f3 f4 f5 : Int) (f6 : NRow) (s : S191) (hm : (lanesB n && bitsB b) = true) (h0 : 0 ≤ f0 ∧ f0 ≤ 14) (hs : rd_T191 shapesL f0 = s) (h4 : f4 = -1 ∨ f4 = 3) (ha : s.f5 = false) (hb : s.f4 = true)
    (hd : impl_isField.f s.f1 f1 = some true) (he : impl_isField.f s.f2 f2 = some true) (hf : impl_isField.f s.f3 f3 = some true) (hst : ∀ k, impl_isStride.f (k + 1) f0 f1 f2 f3 f4 f5 f6 = some true)
    (hi : ∀ k, impl_isI.f (k + 3) n b f0 f1 f2 f3 f4 f5 f6 = some true) (ht : s.f6 = false) : impl_ValidInstr.f (k + 6) n b f0 f1 f2 f3 f4 f5 f6 = some true := by
  have hj1 : impl_ValidInstr.j1 (k + 5) true n b f0 f1 f2 f3 f4 f5 f6 s.f0 s.f1 s.f2 s.f3 s.f4 s.f5 s.f6 = some true := by
    rw [impl_ValidInstr.j1]
    rw [_root_.if_pos rfl, hd]; simp only [Option.bind_some]
    rw [_root_.if_pos trivial, he]; simp only [Option.bind_some]
    rw [_root_.if_pos trivial, hf]; simp only [Option.bind_some]
    rw [_root_.if_pos trivial, show k + 4 = (k + 3) + 1 from rfl, hst]; simp only [Option.bind_some]
    rw [_root_.if_pos trivial, show k + 3 + 1 = (k + 1) + 3 from rfl, hi]; simp only [Option.bind_some]
    rw [_root_.if_pos trivial, ht]
    rfl
  unfold impl_ValidInstr.f
  rw [machine_impl, hm]
  simp only [Option.bind_some]
  rw [_root_.if_pos trivial, in_true h0]
  simp only [Option.bind_some]
  rw [impl_ValidInstr.j0, _root_.if_neg (by simp), shapes_eq]
  simp only [Option.bind_some]
  rw [_root_.if_pos h0.1, _root_.if_pos (by rw [shapes_len]; omega), hs]
  rcases h4 with rfl | rfl
  · rw [_root_.if_pos rfl, _root_.if_neg (by rw [ha]; simp)]
    exact hj1
  · rw [_root_.if_neg (by omega), _root_.if_pos hb, show impl_isMaskNumber.f 3 = some true from rfl]
    simp only [Option.bind_some]
    exact hj1

theorem word_15 {b v : Int} (h : bitsB b = true) (hv : 0 ≤ v ∧ v ≤ 15) : impl_IsWord.f b v = some true := by
  show some (wordB b v) = some true
  congr 1
  rcases bits_cases h with rfl | rfl | rfl <;> (simp [wordB, inB, bitsB]; omega)

theorem valid_impl' (k : Nat) (n b : Int) (y : S142) (hm : (lanesB n && bitsB b) = true) (h : GI y) : impl_ValidInstr.f (k + 6) n b y.f0 y.f1 y.f2 y.f3 y.f4 y.f5 y.f6 = some true := by
  have hbb : bitsB b = true := by revert hm; cases lanesB n <;> simp
  obtain ⟨f0, f1, f2, f3, f4, f5, f6⟩ := y
  show impl_ValidInstr.f (k + 6) n b f0 f1 f2 f3 f4 f5 f6 = some true
  simp only [GI] at h
  rcases h with ⟨h4, ⟨rfl, h⟩ | ⟨rfl, h⟩ | ⟨rfl, h⟩ | ⟨rfl, h⟩ | ⟨rfl, h⟩ | ⟨rfl, h⟩ | ⟨rfl, h⟩⟩
  · obtain ⟨h1, h2, rfl, rfl, h5⟩ := h
    exact valid_of k n b 0 _ _ _ _ _ _ _ hm (by omega) rfl h4 rfl rfl (field_v ⟨h1, h2⟩) field_z (field_n _) (fun k => rfl) (fun k => by simp only [impl_isI.f, impl_isI.j0]; rw [in_true h5]; rfl) rfl
  · obtain ⟨rfl, h1, h2, rfl, h5⟩ := h
    exact valid_of k n b 1 _ _ _ _ _ _ _ hm (by omega) rfl h4 rfl rfl field_z (field_v ⟨h1, h2⟩) (field_n _) (fun k => rfl) (fun k => by simp [impl_isI.f, impl_isI.j0]; rw [in_true h5]) rfl
  · obtain ⟨h1, h1', h2, h2', h3, h3', h5⟩ := h
    exact valid_of k n b 4 _ _ _ _ _ _ _ hm (by omega) rfl h4 rfl rfl (field_v ⟨h1, h1'⟩) (field_v ⟨h2, h2'⟩) (field_v ⟨h3, h3'⟩) (fun k => rfl) (fun k => by simp [impl_isI.f, impl_isI.j0, impl_isI.j1, impl_isOp.f]; rw [in_true h5]) rfl
  · obtain ⟨rfl, rfl, rfl, rfl⟩ := h
    exact valid_of k n b 5 _ _ _ _ _ _ _ hm (by omega) rfl h4 rfl rfl (field_m (by omega)) (field_v (by omega)) (field_v (by omega)) (fun k => rfl) (fun k => by simp [impl_isI.f, impl_isI.j0, impl_isI.j1, impl_isCmp.f]; rw [in_true (by omega)]) rfl
  · obtain ⟨rfl, rfl, rfl, h5⟩ := h
    exact valid_of k n b 8 _ _ _ _ _ _ _ hm (by omega) rfl h4 rfl rfl (field_v (by omega)) field_z field_z (fun k => rfl) (fun k => by simp [impl_isI.f, impl_isI.j0, impl_isI.j1, impl_isI.j2]; rw [word_15 hbb h5]) rfl
  · obtain ⟨rfl, rfl, rfl, rfl⟩ := h
    exact valid_of k n b 9 _ _ _ _ _ _ _ hm (by omega) rfl h4 rfl rfl (field_v (by omega)) field_z (field_n _) (fun k => rfl) (fun k => by simp [impl_isI.f, impl_isI.j0, impl_isI.j1, impl_isI.j2]; rw [word_15 hbb (by omega)]) rfl
  · obtain ⟨rfl, rfl, rfl, h5⟩ := h
    exact valid_of k n b 10 _ _ _ _ _ _ _ hm (by omega) rfl h4 rfl rfl (field_v (by omega)) (field_v (by omega)) field_z (fun k => rfl) (fun k => by simp [impl_isI.f, impl_isI.j0, impl_isI.j1, impl_isOp.f]; rw [in_true h5]) rfl

theorem sum_go (n b : Int) (l : List S142) (hG : ∀ y ∈ l, GI y) (hl : l.length ≤ 60) : ∀ (d j : Nat) (s : Int), j + d = l.length → ∃ t, costsO n (l.drop j) s = some t ∧ Ev (fun k => impl_CostOf.l0 k s l (l.length : Int) (j : Int) n b) (t, true) := by
  intro d
  induction d with
  | zero =>
    intro j s hj
    obtain rfl : j = l.length := by omega
    refine ⟨s, by rw [List.drop_length]; rfl, Ev.step (fun k => impl_CostOf.l0.eq_2 _ _ _ _ _ _ _) (Ev.if_neg (by omega) (Ev.now _))⟩
  | succ d ih =>
    intro j s hj
    have hj' : j < l.length := by omega
    have e : Aside0 (wrap64 ((j : Int) + 1) = ((j + 1 : Nat) : Int)) := ⟨by rw [w64 (by omega) (by omega)]; rfl⟩
    have hr : rd_T142 l (j : Int) = l[j] := by simp [rd_T142, List.getD_eq_getElem?_getD, hj']
    have hg := hG l[j] (List.getElem_mem hj')
    obtain ⟨t, h1, h2⟩ := ih (j + 1) (wrap64 (s + costV n l[j])) (by omega)
    refine ⟨t, by rw [costsO_drop n l j hj', cost_spec' n _ hg]; exact h1, Ev.step (fun k => impl_CostOf.l0.eq_2 _ _ _ _ _ _ _) (Ev.if_pos (by omega) (Ev.if_pos (by omega) (Ev.if_pos (by omega) ?_)))⟩
    rw [hr, e.out]
    exact Ev.bind (Ev.at 2 fun k => cost_impl' k n b _ hg) h2

theorem StripCost_ex (n b a0 a1 a2 a3 a4 a5 x : Int) : ∃ r : Int × Bool, Ev (fun k => spec_StripCost.f k n b a0 a1 a2 a3 a4 a5 x) r ∧ Ev (fun k => impl_StripCost.f k n b a0 a1 a2 a3 a4 a5 x) r := by
  unfold spec_StripCost.f impl_StripCost.f
  obtain ⟨r, hl, hG, h2, hs, hg⟩ := StripCode_exG n b a0 a1 a2 a3 a4 a5 x
  by_cases hr : r.2 = true
  · obtain ⟨h60, hm⟩ := h2 hr
    obtain ⟨t, h1, h3⟩ := sum_go n b r.1 hG h60 r.1.length 0 0 (by omega)
    refine ⟨(t, true), Ev.bind hs (Ev.if_pos hr (Ev.bind' (a := t) h1 (Ev.now _))), Ev.bind hg (Ev.if_pos hr (Ev.bind (a := (t, true)) ?_ (Ev.now _)))⟩
    unfold impl_CostOf.f
    refine Ev.bind (a := true) ?_ (Ev.if_pos rfl h3)
    unfold impl_ValidProgram.f
    refine Ev.bind' (machine_impl _ _) (Ev.if_pos hm (Ev.if_pos (by omega) (Ev.bind (a := true) (Ev.at 6 fun k => ?_) (Ev.now _))))
    unfold impl_Instr_at_impl_ValidProgram_1.f
    rw [allO_total (p := fun _ => true) r.1 (fun y hy => by unfold impl_ValidProgram_1.f; rw [valid_impl' k n b y hm (hG y hy)]; rfl)]
    simp
  · exact ⟨(0, false), Ev.bind hs (Ev.if_neg hr (Ev.now _)), Ev.bind hg (Ev.if_neg hr (Ev.now _))⟩

end Go.Proofs.Ytpfoeologjacfaa.V
