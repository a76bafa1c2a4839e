/- Plain lemmas that the proof of FnExactRunLoop leans on. -/
import Derived.KernelRfl
import Derived.Test.YtpfoeologjacfaaG0
import Derived.Test.YtpfoeologjacfaaG1
import Derived.Test.YtpfoeologjacfaaG2
import Derived.Test.YtpfoeologjacfaaG3
import Derived.Test.YtpfoeologjacfaaG4
import Derived.Test.YtpfoeologjacfaaG5
import Derived.Test.YtpfoeologjacfaaG6
import Derived.Test.YtpfoeologjacfaaG7
namespace Go.Proofs.Ytpfoeologjacfaa.G
open Go.RowKit Go.Proofs.YtpfoeologjacfaaW.PrintWords Go.Proofs.YtpfoeologjacfaaW.PrintLast Go.Proofs.YtpfoeologjacfaaW.PrintMore
set_option linter.unusedVariables false
set_option linter.unusedSimpArgs false

theorem w64 {x : Int} (h0 : -9223372036854775808 ≤ x) (h1 : x ≤ 9223372036854775807) : wrap64 x = x := by unfold wrap64; omega
theorem rd_at (l : List Int) (j : Nat) (h : j < l.length) : rd l (j : Int) = l[j] := by
  unfold rd
  rw [Int.toNat_natCast]; simp [List.getD_eq_getElem?_getD, h]

theorem Ev.if_pos {α : Type} {c : Prop} [Decidable c] {g f : Nat → Option α} {r : α} (h : c) (k : Ev g r) : Ev (fun n => if c then g n else f n) r := Ev.congr (fun n => _root_.if_pos h) k
theorem Ev.if_neg {α : Type} {c : Prop} [Decidable c] {g f : Nat → Option α} {r : α} (h : ¬ c) (k : Ev f r) : Ev (fun n => if c then g n else f n) r := Ev.congr (fun n => _root_.if_neg h) k
theorem Ev.bind' {α β : Type} {g : Option α} {f : Nat → α → Option β} {a : α} {r : β} (h : g = some a) (k : Ev (fun n => f n a) r) : Ev (fun n => g.bind (f n)) r := Ev.congr (fun n => by rw [h]; rfl) k
theorem Ev.some' {α : Type} {a r : α} (h : a = r) : Ev (fun _ => some a) r := h ▸ Ev.now a

theorem eqEv (l : List Int) (hl : l.length ≤ 4611686018427387904) : Ev (fun k => laws_eqInt64S.f k l l) true := by
  have key : ∀ d j, j + d = l.length → Ev (fun k => laws_eqInt64S.l0 k l l (j : Int)) true := by
    intro d
    induction d with
    | zero =>
      intro j hj
      exact Ev.step (f := fun _ => some true) (fun k => by simp only [laws_eqInt64S.l0]; rw [_root_.if_neg (by omega)]) (Ev.now _)
    | succ d ih =>
      intro j hj
      refine Ev.step (f := fun k => laws_eqInt64S.l0 k l l ((j + 1 : Nat) : Int)) (fun k => ?_) (ih (j + 1) (by omega))
      simp only [laws_eqInt64S.l0]
      rw [_root_.if_pos (by omega), _root_.if_pos (by omega), _root_.if_pos (by omega), w64 (by omega) (by omega)]
      rfl
  exact Ev.congr (fun k => by unfold laws_eqInt64S.f; rw [_root_.if_pos rfl]; rfl) (key l.length 0 (by omega))

/-- n, n + 1, .. -/
def marks (n : Int) (len : Nat) : List Int := (List.range len).map fun (i : Nat) => n + i
theorem marks_length (n : Int) (len : Nat) : (marks n len).length = len := by simp [marks]
theorem marks_get (n : Int) (len j : Nat) (h : j < (marks n len).length) : (marks n len)[j] = n + j := by simp [marks]
theorem marks_succ (n : Int) (j : Nat) : marks n (j + 1) = marks n j ++ [n + j] := by simp [marks, List.range_succ]

theorem markEv (l : List Int) (n : Int) (hl : l.length ≤ 4611686018427387904) (h0 : 0 ≤ n) (h1 : n ≤ 4611686018427387000) :
    Ev (fun k => laws_markInt64S.f k l n) (n + l.length, marks n l.length) := by
  have key : ∀ d j, j + d = l.length → Ev (fun k => laws_markInt64S.l0 k (marks n j ++ l.drop j) (n + j) (j : Int)) (n + l.length, marks n l.length) := by
    intro d
    induction d with
    | zero =>
      intro j hj
      obtain rfl : j = l.length := by omega
      refine Ev.step (f := fun _ => some (n + (l.length : Int), marks n l.length)) (fun k => ?_) (Ev.now _)
      simp only [laws_markInt64S.l0]
      rw [_root_.if_neg (by simp [marks_length])]
      simp
    | succ d ih =>
      intro j hj
      refine Ev.step (f := fun k => laws_markInt64S.l0 k (marks n (j + 1) ++ l.drop (j + 1)) (n + ((j + 1 : Nat) : Int)) ((j + 1 : Nat) : Int)) (fun k => ?_) (ih (j + 1) (by omega))
      simp only [laws_markInt64S.l0]
      rw [_root_.if_pos (by simp [marks_length]; omega), _root_.if_pos (by omega), w64 (by omega) (by omega), w64 (by omega) (by omega)]
      have e : (marks n j ++ l.drop j).set (j : Int).toNat (n + j) = marks n (j + 1) ++ l.drop (j + 1) := by
        rw [Int.toNat_natCast, List.set_append_right _ _ (by rw [marks_length]; exact Nat.le_refl _), marks_length, Nat.sub_self, List.drop_eq_getElem_cons (by omega : j < l.length), List.set_cons_zero, marks_succ, List.append_assoc]
        rfl
      rw [e, Int.add_assoc]; rfl
  exact Ev.congr (fun k => by unfold laws_markInt64S.f; simp [marks]) (key l.length 0 (by omega))

theorem heldEv (len : Nat) (n : Int) (hl : len ≤ 4611686018427387904) (h0 : 0 ≤ n) (h1 : n ≤ 4611686018427387000) :
    Ev (fun k => laws_heldInt64S.f k (marks n len) n) (n + len) := by
  have key : ∀ d j, j + d = len → Ev (fun k => laws_heldInt64S.l0 k (marks n len) (n + j) (j : Int)) (n + len) := by
    intro d
    induction d with
    | zero =>
      intro j hj
      obtain rfl : j = len := by omega
      refine Ev.step (f := fun _ => some (n + (j : Int))) (fun k => ?_) (Ev.now _)
      simp only [laws_heldInt64S.l0]
      rw [_root_.if_neg (by simp [marks_length])]
    | succ d ih =>
      intro j hj
      refine Ev.step (f := fun k => laws_heldInt64S.l0 k (marks n len) (n + ((j + 1 : Nat) : Int)) ((j + 1 : Nat) : Int)) (fun k => ?_) (ih (j + 1) (by omega))
      simp only [laws_heldInt64S.l0]
      rw [_root_.if_pos (by rw [marks_length]; omega), _root_.if_pos (by omega), rd_at _ _ (by rw [marks_length]; omega), marks_get, _root_.if_pos rfl, w64 (by omega) (by omega), w64 (by omega) (by omega), Int.add_assoc]
      rfl
  exact Ev.congr (fun k => by unfold laws_heldInt64S.f; simp) (key len 0 (by omega))

theorem toEv (l : List Int) (hl : l.length ≤ 1048576) : Ev (fun k => laws_toInt64S.f k l) l := by
  have key : ∀ d j, j + d = l.length → Ev (fun k => laws_toInt64S.l0 k l (l.take j ++ List.replicate d 0) (j : Int)) l := by
    intro d
    induction d with
    | zero =>
      intro j hj
      obtain rfl : j = l.length := by omega
      refine Ev.step (f := fun _ => some l) (fun k => ?_) (Ev.now _)
      simp only [laws_toInt64S.l0]
      rw [_root_.if_neg (by omega)]
      simp
    | succ d ih =>
      intro j hj
      refine Ev.step (f := fun k => laws_toInt64S.l0 k l (l.take (j + 1) ++ List.replicate d 0) ((j + 1 : Nat) : Int)) (fun k => ?_) (ih (j + 1) (by omega))
      simp only [laws_toInt64S.l0]
      rw [_root_.if_pos (by omega), _root_.if_pos (by omega), _root_.if_pos (by simp; omega), w64 (by omega) (by omega), rd_at _ _ (by omega)]
      have e : (l.take j ++ List.replicate (d + 1) 0).set (j : Int).toNat l[j] = l.take (j + 1) ++ List.replicate d 0 := by
        rw [Int.toNat_natCast, List.set_append_right _ _ (by simp; omega), List.length_take, Nat.min_eq_left (by omega), Nat.sub_self, List.replicate_succ, List.set_cons_zero, List.take_succ_eq_append_getElem (by omega), List.append_assoc]
        rfl
      rw [e]; rfl
  refine Ev.congr (fun k => ?_) (key l.length 0 (by omega))
  unfold laws_toInt64S.f
  simp
  omega

/-- A loop over a list that may end early. -/
def goLoop {σ β : Type} (f : σ → Int → Nat → β ⊕ σ) (fin : σ → β) : σ → List Int → Nat → β
  | s, [], _ => fin s
  | s, x :: xs, j => match f s x j with
    | .inl r => r
    | .inr s' => goLoop f fin s' xs (j + 1)
theorem loopEv {σ β : Type} (l : List Int) (g : Nat → σ → Int → Option β) (f : σ → Int → Nat → β ⊕ σ) (fin : σ → β) (Inv : σ → Nat → Prop)
    (h0 : ∀ k s, Inv s l.length → g (k + 1) s (l.length : Int) = some (fin s))
    (h1 : ∀ k s (j : Nat) (h : j < l.length), Inv s j → g (k + 1) s (j : Int) = match f s l[j] j with | .inl r => some r | .inr s' => g k s' ((j + 1 : Nat) : Int))
    (hI : ∀ s (j : Nat) (h : j < l.length) s', Inv s j → f s l[j] j = .inr s' → Inv s' (j + 1)) (s : σ) (hs : Inv s 0) :
    Ev (fun k => g k s 0) (goLoop f fin s l 0) := by
  have key : ∀ d j s, j + d = l.length → Inv s j → Ev (fun k => g k s (j : Int)) (goLoop f fin s (l.drop j) j) := by
    intro d
    induction d with
    | zero =>
      intro j s hj hs
      obtain rfl : j = l.length := by omega
      rw [List.drop_length]
      exact Ev.step (f := fun _ => some (fin s)) (fun k => h0 k s hs) (Ev.now _)
    | succ d ih =>
      intro j s hj hs
      have hlt : j < l.length := by omega
      rw [List.drop_eq_getElem_cons hlt]
      unfold goLoop
      cases hf : f s l[j] j with
      | inl r => exact Ev.step (f := fun _ => some r) (fun k => by rw [h1 k s j hlt hs, hf]) (Ev.now _)
      | inr s' => exact Ev.step (f := fun k => g k s' ((j + 1 : Nat) : Int)) (fun k => by rw [h1 k s j hlt hs, hf]) (ih (j + 1) s' (by omega) (hI s j hlt s' hs hf))
  simpa using key l.length 0 s (by omega) hs

theorem goLoop_all {β : Type} (p : Int → Bool) (bad : β) (fin : β) (l : List Int) : ∀ j,
    goLoop (σ := Unit) (fun _ x _ => if p x = true then .inr () else .inl bad) (fun _ => fin) () l j = if l.all p = true then fin else bad := by
  induction l with
  | nil => intro j; simp [goLoop]
  | cons x xs ih =>
    intro j
    unfold goLoop
    by_cases h : p x = true
    · simp [h, ih (j + 1)]
    · simp [h]

theorem in_eq (a b c : Int) : spec_l00In.f a b c = some (inB a b c) := by
  unfold spec_l00In.f inB
  by_cases h : b ≤ a
  · rw [_root_.if_pos h]; simp [h]
  · rw [_root_.if_neg (by omega)]; simp [h]

theorem bits_eq (a : Int) : spec_l01Bits.f a = some (bitsB a) := by
  unfold spec_l01Bits.f bitsB
  by_cases h4 : a = 4
  · subst h4; rfl
  by_cases h8 : a = 8
  · subst h8; rfl
  rw [_root_.if_neg h4, _root_.if_neg h8, beq_eq_false_iff_ne.2 h4, beq_eq_false_iff_ne.2 h8]
  rfl

theorem two_eq {b : Int} (h : bitsB b = true) : 0 ≤ IntKind.u64.wrap b ∧ wrap64 (shl .i64 1 (IntKind.u64.wrap b) - 1) = 2 ^ b.toNat - 1 ∧ wrap64 (shl .i64 1 b - 1) = 2 ^ b.toNat - 1 := by
  rcases bits_cases h with rfl | rfl | rfl <;> decide +kernel

theorem word_eq (b x : Int) : spec_l01Word.f b x = some (wordB b x) := by
  unfold spec_l01Word.f wordB
  rw [bits_eq]
  simp only [Option.bind_some]
  by_cases h : bitsB b = true
  · rw [_root_.if_pos h, _root_.if_pos (two_eq h).1, (two_eq h).2.1, in_eq, h]; rfl
  · rw [_root_.if_neg h]
    have : bitsB b = false := by simpa using h
    rw [this]; rfl

theorem words_eq (b : Int) (l : List Int) (hl : l.length ≤ 1048577) : Ev (fun k => spec_l01Words.f k b l) (bitsB b && l.all (wordB b)) := by
  have h := loopEv (σ := Unit) (β := Bool) l (fun k _ i => spec_l01Words.l0 k b l i) (fun _ x _ => if wordB b x = true then .inr () else .inl false) (fun _ => bitsB b) (fun _ _ => True)
    (fun k s _ => by simp only [spec_l01Words.l0]; rw [_root_.if_neg (by omega), bits_eq]; rfl)
    (fun k s j hj _ => by
      simp only [spec_l01Words.l0]
      rw [_root_.if_pos (by omega), _root_.if_pos (by omega), rd_at _ _ hj, word_eq]
      simp only [Option.bind_some]
      by_cases h : wordB b l[j] = true
      · rw [_root_.if_pos h, _root_.if_pos h, w64 (by omega) (by omega)]; rfl
      · rw [_root_.if_neg h, _root_.if_neg h])
    (fun _ _ _ _ _ _ => trivial) () trivial
  rw [goLoop_all] at h
  unfold spec_l01Words.f
  have e : (bitsB b && l.all (wordB b)) = (if l.all (wordB b) = true then bitsB b else false) := by
    by_cases h : l.all (wordB b) = true <;> simp [h]
  rw [e]; exact h

theorem u64w {x : Int} (h0 : 0 ≤ x) (h1 : x ≤ 4611686018427387904) : IntKind.u64.wrap x = x := by
  unfold IntKind.wrap
  simp [IntKind.signed, IntKind.bits]
  omega

def fitB (a n : Int) : Bool := inB a 0 63 && decide (a + n ≤ 64)
def loopB (a0 a1 a2 a3 a4 a5 : Int) : Bool :=
  inB a1 0 17 && (inB a5 0 24 && (fitB a3 a5 && (if a0 = 1 then (a4 == 0 && fitB a2 0) else if a0 = 0 then (fitB a4 a5 && fitB a2 a5) else false)))
theorem in_iff {n a b : Int} : inB n a b = true ↔ a ≤ n ∧ n ≤ b := by simp [inB]
theorem within_eq' (a b c : Int) : impl_within.f a b c = some (inB a b c) := rfl
theorem fit_spec (a n : Int) (h0 : 0 ≤ n) (h1 : n ≤ 24) : spec_l09Fits.f a n = some (fitB a n) := by
  unfold spec_l09Fits.f spec_l00Max.f
  split
  · simp only [Option.bind_some]
    rw [w64 (by omega) (by omega), in_eq]
    simp only [Option.bind_some, fitB, inB]
    congr 1
    rw [Bool.eq_iff_iff]; simp; omega
  · simp only [Option.bind_some]
    rw [w64 (by omega) (by omega), in_eq]
    simp only [Option.bind_some, fitB, inB]
    congr 1
    rw [Bool.eq_iff_iff]; simp; omega
theorem fit_one (a : Int) : spec_l09Fits.f a 1 = some (fitB a 0) := by
  rw [fit_spec a 1 (by omega) (by omega)]
  simp only [fitB, inB]
  congr 1
  rw [Bool.eq_iff_iff]; simp; omega
theorem fit_impl (a n : Int) (h0 : 0 ≤ n) (h1 : n ≤ 24) : impl_isSpan.f a n = some (fitB a n) := by
  unfold impl_isSpan.f
  rw [within_eq']
  simp only [Option.bind_some]
  by_cases h : inB a 0 63 = true
  · have := in_iff.1 h
    rw [_root_.if_pos h, w64 (by omega) (by omega)]
    simp [fitB, h]
  · rw [_root_.if_neg h]
    simp [fitB, h]
theorem opIs_eq (a : Int) : spec_l01OpIs.f a = some (inB a 0 17) := by
  unfold spec_l01OpIs.f
  rw [in_eq]; rfl
theorem isOp_eq (a : Int) : impl_isOp.f a = some (inB a 0 17) := rfl
theorem loop_spec (k : Nat) (a0 a1 a2 a3 a4 a5 : Int) : spec_l09Is.f (k + 1) a0 a1 a2 a3 a4 a5 = some (loopB a0 a1 a2 a3 a4 a5) := by
  unfold spec_l09Is.f loopB
  rw [opIs_eq, in_eq]
  simp only [Option.bind_some, spec_l09Is.j0, if_true]
  by_cases h1 : inB a1 0 17 = true
  · rw [_root_.if_pos h1, h1]
    by_cases h2 : inB a5 0 24 = true
    · have hb := in_iff.1 h2
      rw [_root_.if_pos h2, h2, fit_spec a3 a5 hb.1 hb.2, fit_spec a4 a5 hb.1 hb.2, fit_spec a2 a5 hb.1 hb.2, fit_one]
      simp only [Option.bind_some]
      cases fitB a3 a5 <;> cases fitB a4 a5 <;> cases fitB a2 a5 <;> simp <;> (repeat' split) <;> simp_all
    · rw [_root_.if_neg h2]
      simp [h2]
  · rw [_root_.if_neg h1]
    simp [h1]
theorem loop_impl (k : Nat) (a0 a1 a2 a3 a4 a5 : Int) : impl_ValidLoop.f (k + 1) a0 a1 a2 a3 a4 a5 = some (loopB a0 a1 a2 a3 a4 a5) := by
  unfold impl_ValidLoop.f loopB
  rw [isOp_eq, within_eq']
  simp only [Option.bind_some, impl_ValidLoop.j0, if_true]
  by_cases h1 : inB a1 0 17 = true
  · rw [_root_.if_pos h1, h1]
    by_cases h2 : inB a5 0 24 = true
    · have hb := in_iff.1 h2
      rw [_root_.if_pos h2, h2, fit_impl a3 a5 hb.1 hb.2, fit_impl a4 a5 hb.1 hb.2, fit_impl a2 a5 hb.1 hb.2, fit_impl a2 0 (by omega) (by omega)]
      simp only [Option.bind_some]
      cases fitB a3 a5 <;> cases fitB a4 a5 <;> cases fitB a2 a5 <;> cases fitB a2 0 <;> simp <;> (repeat' split) <;> simp_all
    · rw [_root_.if_neg h2]
      simp [h2]
  · rw [_root_.if_neg h1]
    simp [h1]

theorem loop_facts {a0 a1 a2 a3 a4 a5 : Int} (h : loopB a0 a1 a2 a3 a4 a5 = true) :
    0 ≤ a1 ∧ a1 ≤ 17 ∧ 0 ≤ a5 ∧ a5 ≤ 24 ∧ 0 ≤ a3 ∧ a3 + a5 ≤ 64 ∧ a3 ≤ 63 ∧ (a0 = 1 ∧ a4 = 0 ∧ 0 ≤ a2 ∧ a2 ≤ 63 ∨ a0 = 0 ∧ 0 ≤ a4 ∧ a4 ≤ 63 ∧ a4 + a5 ≤ 64 ∧ 0 ≤ a2 ∧ a2 ≤ 63 ∧ a2 + a5 ≤ 64) := by
  unfold loopB at h
  simp only [Bool.and_eq_true, fitB, inB, decide_eq_true_eq] at h
  obtain ⟨⟨p1, p2⟩, ⟨p3, p4⟩, ⟨⟨p5, p6⟩, p7⟩, h⟩ := h
  refine ⟨p1, p2, p3, p4, p5, p7, p6, ?_⟩
  by_cases e : a0 = 1
  · rw [_root_.if_pos e] at h
    simp at h
    left; omega
  · rw [_root_.if_neg e] at h
    by_cases e' : a0 = 0
    · rw [_root_.if_pos e'] at h
      simp at h
      right; omega
    · rw [_root_.if_neg e'] at h
      cases h

theorem machine_spec (a b : Int) : spec_l05Machine.f a b = some (lanesB a && bitsB b) := by
  unfold spec_l05Machine.f lanesB
  rw [bits_eq]
  simp only [Option.bind_some]
  by_cases h1 : a = 2
  · subst h1; simp
  · by_cases h2 : a = 4
    · subst h2; simp
    · by_cases h3 : a = 8
      · subst h3; simp
      · by_cases h4 : a = 16
        · subst h4; simp
        · simp [h1, h2, h3, h4]
theorem machine_impl (a b : Int) : impl_ValidMachine.f a b = some (lanesB a && bitsB b) := by
  unfold impl_ValidMachine.f
  rw [show impl_isLanes.f a = some (lanesB a) from rfl, show impl_isBits.f b = some (bitsB b) from rfl]
  simp only [Option.bind_some]
  cases lanesB a <;> simp

theorem l00Min_mn (a b : Int) : spec_l00Min.f a b = some (mn a b) := by
  unfold spec_l00Min.f mn; split <;> split <;> first | rfl | (congr 1; omega)
theorem l00Max_mx (a b : Int) : spec_l00Max.f a b = some (mx a b) := by
  unfold spec_l00Max.f mx; split <;> split <;> first | rfl | (congr 1; omega)

theorem own_eq (l : List Int) (hl : l.length ≤ 1048577) : spec_l00Own.f l = some l := by
  unfold spec_l00Own.f
  simp only [Option.bind_some]
  rw [_root_.if_pos (by simp; omega)]; simp

theorem i64_low4 (n : Int) : Go.bits .and .i64 n 15 = n % 16 := by
  have hc : (BitVec.ofInt 64 15).toNat = 2 ^ 4 - 1 := by decide
  have key : (BitVec.ofInt 64 n &&& BitVec.ofInt 64 15).toNat = (n % ((2 ^ 64 : Nat) : Int)).toNat % 2 ^ 4 := by
    rw [BitVec.toNat_and, BitVec.toNat_ofInt, hc, Nat.and_two_pow_sub_one_eq_mod]
  show IntKind.i64.wrap ((BitVec.ofInt 64 n &&& BitVec.ofInt 64 15).toNat : Nat) = n % 16
  rw [key, IntKind.wrap_i64]
  omega
theorem i64_low8 (n : Int) : Go.bits .and .i64 n 255 = n % 256 := by
  have hc : (BitVec.ofInt 64 255).toNat = 2 ^ 8 - 1 := by decide
  have key : (BitVec.ofInt 64 n &&& BitVec.ofInt 64 255).toNat = (n % ((2 ^ 64 : Nat) : Int)).toNat % 2 ^ 8 := by
    rw [BitVec.toNat_and, BitVec.toNat_ofInt, hc, Nat.and_two_pow_sub_one_eq_mod]
  show IntKind.i64.wrap ((BitVec.ofInt 64 n &&& BitVec.ofInt 64 255).toNat : Nat) = n % 256
  rw [key, IntKind.wrap_i64]
  omega
theorem i64_low16 (n : Int) : Go.bits .and .i64 n 65535 = n % 65536 := by
  have hc : (BitVec.ofInt 64 65535).toNat = 2 ^ 16 - 1 := by decide
  have key : (BitVec.ofInt 64 n &&& BitVec.ofInt 64 65535).toNat = (n % ((2 ^ 64 : Nat) : Int)).toNat % 2 ^ 16 := by
    rw [BitVec.toNat_and, BitVec.toNat_ofInt, hc, Nat.and_two_pow_sub_one_eq_mod]
  show IntKind.i64.wrap ((BitVec.ofInt 64 n &&& BitVec.ofInt 64 65535).toNat : Nat) = n % 65536
  rw [key, IntKind.wrap_i64]
  omega
theorem i64_bits (a b : Nat) (m : Nat) (hm : m ≤ 62) (ha : a < 2 ^ m) (hb : b < 2 ^ m) :
    (0 ≤ Go.bits .and .i64 (a : Int) (b : Int) ∧ Go.bits .and .i64 (a : Int) (b : Int) < 2 ^ m) ∧ (0 ≤ Go.bits .or .i64 (a : Int) (b : Int) ∧ Go.bits .or .i64 (a : Int) (b : Int) < 2 ^ m) ∧ (0 ≤ Go.bits .xor .i64 (a : Int) (b : Int) ∧ Go.bits .xor .i64 (a : Int) (b : Int) < 2 ^ m) := by
  have hp : 2 ^ m ≤ 2 ^ 62 := Nat.pow_le_pow_right (by omega) hm
  have h1 : (BitVec.ofInt 64 (a : Int)).toNat = a := by
    rw [BitVec.ofInt_natCast, BitVec.toNat_ofNat]; exact Nat.mod_eq_of_lt (by omega)
  have h2 : (BitVec.ofInt 64 (b : Int)).toNat = b := by
    rw [BitVec.ofInt_natCast, BitVec.toNat_ofNat]; exact Nat.mod_eq_of_lt (by omega)
  have x1 : a &&& b < 2 ^ m := Nat.and_lt_two_pow _ hb
  have x2 : a ||| b < 2 ^ m := Nat.or_lt_two_pow ha hb
  have x3 : a ^^^ b < 2 ^ m := Nat.xor_lt_two_pow ha hb
  have e1 : Go.bits .and .i64 (a : Int) (b : Int) = ((a &&& b : Nat) : Int) := by
    show IntKind.i64.wrap ((BitVec.ofInt 64 (a : Int) &&& BitVec.ofInt 64 (b : Int)).toNat : Int) = _
    rw [BitVec.toNat_and, h1, h2, IntKind.wrap_i64]; omega
  have e2 : Go.bits .or .i64 (a : Int) (b : Int) = ((a ||| b : Nat) : Int) := by
    show IntKind.i64.wrap ((BitVec.ofInt 64 (a : Int) ||| BitVec.ofInt 64 (b : Int)).toNat : Int) = _
    rw [BitVec.toNat_or, h1, h2, IntKind.wrap_i64]; omega
  have e3 : Go.bits .xor .i64 (a : Int) (b : Int) = ((a ^^^ b : Nat) : Int) := by
    show IntKind.i64.wrap ((BitVec.ofInt 64 (a : Int) ^^^ BitVec.ofInt 64 (b : Int)).toNat : Int) = _
    rw [BitVec.toNat_xor, h1, h2, IntKind.wrap_i64]; omega
  have hq : ((2 ^ m : Nat) : Int) = 2 ^ m := by simp
  rw [e1, e2, e3, ← hq]
  exact ⟨⟨by omega, by omega⟩, ⟨by omega, by omega⟩, ⟨by omega, by omega⟩⟩

/-- Word sizes, with their powers. -/
def Size (b p h : Int) : Prop := b = 4 ∧ p = 16 ∧ h = 8 ∨ b = 8 ∧ p = 256 ∧ h = 128 ∨ b = 16 ∧ p = 65536 ∧ h = 32768
theorem Size.all {b p h : Int} (s : Size b p h) : 4 ≤ b ∧ b ≤ 16 ∧ p = 2 * h ∧ 8 ≤ h ∧ h ≤ 32768 ∧ IntKind.u64.wrap b = b ∧ wrap64 (b - 1) = b - 1 ∧ IntKind.u64.wrap (b - 1) = b - 1 ∧ shl .i64 1 b = p ∧ shl .i64 1 (b - 1) = h ∧ bitsB b = true ∧ (2 : Int) ^ b.toNat = p := by
  rcases s with ⟨rfl, rfl, rfl⟩ | ⟨rfl, rfl, rfl⟩ | ⟨rfl, rfl, rfl⟩ <;> refine ⟨by omega, by omega, by omega, by omega, by omega, ?_, ?_, ?_, ?_, ?_, ?_, ?_⟩ <;> kernel_rfl
theorem Size.rng {b p h : Int} (s : Size b p h) : 4 ≤ b ∧ b ≤ 16 ∧ p = 2 * h ∧ 8 ≤ h ∧ h ≤ 32768 := by
  rcases s with ⟨rfl, rfl, rfl⟩ | ⟨rfl, rfl, rfl⟩ | ⟨rfl, rfl, rfl⟩ <;> omega
theorem size_of {b : Int} (h : bitsB b = true) : ∃ p q, Size b p q := by
  rcases bits_cases h with rfl | rfl | rfl
  · exact ⟨16, 8, Or.inl ⟨rfl, rfl, rfl⟩⟩
  · exact ⟨256, 128, Or.inr (Or.inl ⟨rfl, rfl, rfl⟩)⟩
  · exact ⟨65536, 32768, Or.inr (Or.inr ⟨rfl, rfl, rfl⟩)⟩
theorem Size.low {b p h : Int} (s : Size b p h) (n : Int) : Go.bits .and .i64 n (p - 1) = n % p ∧ 0 ≤ n % p ∧ n % p < p := by
  rcases s with ⟨rfl, rfl, rfl⟩ | ⟨rfl, rfl, rfl⟩ | ⟨rfl, rfl, rfl⟩
  · exact ⟨i64_low4 n, by omega, by omega⟩
  · exact ⟨i64_low8 n, by omega, by omega⟩
  · exact ⟨i64_low16 n, by omega, by omega⟩
def sg (h p x : Int) : Int := if x < h then x else x - p
theorem sg_cases (h p x : Int) : x < h ∧ sg h p x = x ∨ h ≤ x ∧ sg h p x = x - p := by
  unfold sg; split
  · exact Or.inl ⟨by assumption, rfl⟩
  · exact Or.inr ⟨by omega, rfl⟩
section
variable {b p h : Int} (s : Size b p h)
include s
theorem sg_mod {x : Int} (hx : 0 ≤ x ∧ x < p) : sg h p x % p = x := by
  rcases s with ⟨rfl, rfl, rfl⟩ | ⟨rfl, rfl, rfl⟩ | ⟨rfl, rfl, rfl⟩ <;> rcases sg_cases _ _ x with ⟨_, e⟩ | ⟨_, e⟩ <;> rw [e] <;> omega
theorem signed_impl {x : Int} (hx : 0 ≤ x ∧ x < p) : impl_signedOf.f b x = some (sg h p x) := by
  obtain ⟨h1, h2, h3, h4, h5, e1, e2, e3, e4, e5, _⟩ := s.all
  unfold impl_signedOf.f sg
  rw [e2, e4, e5, _root_.if_pos (by omega)]
  by_cases c : x < h
  · rw [_root_.if_pos c, _root_.if_pos c]
  · rw [_root_.if_neg c, _root_.if_neg c, _root_.if_pos (by omega), w64 (by omega) (by omega)]
theorem signed_spec {x : Int} (hx : 0 ≤ x ∧ x < p) : spec_l01Signed.f b x = some (sg h p x) := by
  obtain ⟨h1, h2, h3, h4, h5, e1, e2, e3, e4, e5, _⟩ := s.all
  have e6 : shr .i64 x (b - 1) = x / h := by
    rcases s with ⟨rfl, rfl, rfl⟩ | ⟨rfl, rfl, rfl⟩ | ⟨rfl, rfl, rfl⟩ <;> rfl
  unfold spec_l01Signed.f sg
  rw [e2, e3, e1, e4, e6, _root_.if_pos (by omega)]
  have e7 : x / h = 1 ↔ ¬ x < h := by
    rcases s with ⟨rfl, rfl, rfl⟩ | ⟨rfl, rfl, rfl⟩ | ⟨rfl, rfl, rfl⟩ <;> omega
  by_cases c : x < h
  · rw [_root_.if_neg (fun q => (e7.1 q) c), _root_.if_pos c]
  · rw [_root_.if_pos (e7.2 c), _root_.if_pos (by omega), _root_.if_neg c, w64 (by omega) (by omega)]
theorem wrap_impl (n : Int) : impl_wrapped.f b n = some (n % p) := by
  obtain ⟨h1, h2, h3, h4, h5, e1, e2, e3, e4, e5, _⟩ := s.all
  unfold impl_wrapped.f
  rw [e4, w64 (x := p - 1) (by omega) (by omega), _root_.if_pos (by omega), (s.low n).1]
theorem wrap_spec (n : Int) : spec_l01Wrap.f b n = some (n % p) := by
  obtain ⟨h1, h2, h3, h4, h5, e1, e2, e3, e4, e5, _⟩ := s.all
  unfold spec_l01Wrap.f
  rw [e1, e4, w64 (x := p - 1) (by omega) (by omega), _root_.if_pos (by omega), (s.low n).1]
theorem near_impl (v : Int) : impl_nearest.f b v = some (mx (-h) (mn v (h - 1)) % p) := by
  obtain ⟨h1, h2, h3, h4, h5, e1, e2, e3, e4, e5, _⟩ := s.all
  unfold impl_nearest.f impl_bounded.f
  rw [e2, e5, _root_.if_pos (by omega), w64 (x := -h) (by omega) (by omega), w64 (x := h - 1) (by omega) (by omega)]
  simp only [Option.bind_some]
  rw [wrap_impl s]; rfl
theorem between_spec (v : Int) : spec_l01Between.f v (-h) (h - 1) = some (mx (-h) (mn v (h - 1))) := by
  obtain ⟨h1, h2, h3, h4, h5, _⟩ := s.all
  unfold spec_l01Between.f
  rw [l00Max_mx]
  simp only [Option.bind_some]
  rw [l00Min_mn]
  simp only [Option.bind_some]
  unfold mn mx
  congr 1
  (repeat' split) <;> omega
theorem do_both (op x y : Int) (ho : 0 ≤ op ∧ op ≤ 17) (hx : 0 ≤ x ∧ x < p) (hy : 0 ≤ y ∧ y < p) : ∃ r, spec_l01Do.f op b x y = some r ∧ impl_result.f op b x y = some r ∧ 0 ≤ r ∧ r < p := by
  obtain ⟨h1, h2, h3, h4, h5, e1, e2, e3, e4, e5, _, e6⟩ := s.all
  have low := fun n => (s.low n).2
  have sx := sg_mod s hx
  have sy := sg_mod s hy
  have cx := sg_cases h p x
  have cy := sg_cases h p y
  have tm : 0 ≤ Int.tmod y b ∧ Int.tmod y b < b := ⟨Int.tmod_nonneg _ hy.1, Int.tmod_lt_of_pos _ (by omega)⟩
  have et : IntKind.u64.wrap (Int.tmod y b) = Int.tmod y b := u64w (by omega) (by omega)
  have eS : spec_l01Do.f op b x y = if op = 0 then some ((x + y) % p) else if op = 1 then some ((x - y) % p) else if op = 2 then some (wrap64 (x * y) % p) else if op = 3 then some (Go.bits .and .i64 x y) else if op = 4 then some (Go.bits .or .i64 x y) else if op = 5 then some (Go.bits .xor .i64 x y) else if op = 6 then some (mn x y) else if op = 7 then some (mx x y) else if op = 8 then some (mn (sg h p x) (sg h p y) % p) else if op = 9 then some (mx (sg h p x) (sg h p y) % p) else if op = 10 then some (mn (x + y) (p - 1)) else if op = 11 then some (mx (-h) (mn (sg h p x + sg h p y) (h - 1)) % p) else if op = 12 then some (mx (x - y) 0) else if op = 13 then some (mx (-h) (mn (sg h p x - sg h p y) (h - 1)) % p) else if op = 14 then some (Int.tdiv (x + y + 1) 2) else if op = 15 then some (shl .i64 x (Int.tmod y b) % p) else if op = 16 then some (shr .i64 x (Int.tmod y b)) else some (shr .i64 (sg h p x) (Int.tmod y b) % p) := by
    unfold spec_l01Do.f
    rw [e2, e1, e3, e4, e5, et, _root_.if_pos (by omega), _root_.if_pos (by omega), signed_spec s hx, signed_spec s hy]
    simp only [Option.bind_some]
    rw [_root_.if_neg (by omega), w64 (x := x + y) (by omega) (by omega), w64 (x := x - y) (by omega) (by omega), w64 (x := p - 1) (by omega) (by omega), w64 (x := -h) (by omega) (by omega), w64 (x := h - 1) (by omega) (by omega), w64 (x := sg h p x + sg h p y) (by omega) (by omega), w64 (x := sg h p x - sg h p y) (by omega) (by omega), w64 (x := x + y + 1) (by omega) (by omega)]
    simp only [wrap_spec s, between_spec s, l00Min_mn, l00Max_mx, Option.bind_some, tm.1, if_true]
    rw [show wrap64 (Int.tdiv (x + y + 1) 2) = Int.tdiv (x + y + 1) 2 from by rw [Int.tdiv_eq_ediv_of_nonneg (by omega)]; exact w64 (by omega) (by omega)]
  have eI : impl_result.f op b x y = if op = 0 then some ((x + y) % p) else if op = 1 then some ((x - y) % p) else if op = 2 then some (wrap64 (x * y) % p) else if op = 3 then some (Go.bits .and .i64 x y) else if op = 4 then some (Go.bits .or .i64 x y) else if op = 5 then some (Go.bits .xor .i64 x y) else if op = 6 then some (mn x y) else if op = 7 then some (mx x y) else if op = 8 then some (if sg h p x ≤ sg h p y then x else y) else if op = 9 then some (if sg h p x ≥ sg h p y then x else y) else if op = 10 then some (mx 0 (mn (x + y) (p - 1))) else if op = 11 then some (mx (-h) (mn (sg h p x + sg h p y) (h - 1)) % p) else if op = 12 then some (mx 0 (mn (x - y) (p - 1))) else if op = 13 then some (mx (-h) (mn (sg h p x - sg h p y) (h - 1)) % p) else if op = 14 then some (Int.tdiv (x + y + 1) 2) else if op = 15 then some (shl .i64 x (Int.tmod y b) % p) else if op = 16 then some (shr .i64 x (Int.tmod y b)) else some (shr .i64 (sg h p x) (Int.tmod y b) % p) := by
    unfold impl_result.f
    rw [_root_.if_pos (by omega), _root_.if_neg (by omega), signed_impl s hx, signed_impl s hy]
    simp only [Option.bind_some]
    rw [e4, w64 (x := x + y) (by omega) (by omega), w64 (x := x - y) (by omega) (by omega), w64 (x := p - 1) (by omega) (by omega), w64 (x := sg h p x + sg h p y) (by omega) (by omega), w64 (x := sg h p x - sg h p y) (by omega) (by omega), w64 (x := x + y + 1) (by omega) (by omega)]
    simp only [wrap_impl s, near_impl s, impl_bounded.f, impl_pick.f, decide_eq_true_eq, Option.bind_some, tm.1, if_true]
    rw [show wrap64 (Int.tdiv (x + y + 1) 2) = Int.tdiv (x + y + 1) 2 from by rw [Int.tdiv_eq_ediv_of_nonneg (by omega)]; exact w64 (by omega) (by omega)]
    have q1 : ((if sg h p x ≤ sg h p y then some x else some y).bind fun t => some t) = some (if sg h p x ≤ sg h p y then x else y) := by split <;> rfl
    have q2 : ((if sg h p x ≥ sg h p y then some x else some y).bind fun t => some t) = some (if sg h p x ≥ sg h p y then x else y) := by split <;> rfl
    rw [q1, q2]
  rw [eS, eI]
  have hq : ∃ m : Nat, m ≤ 62 ∧ p = 2 ^ m := ⟨b.toNat, by omega, e6.symm⟩
  obtain ⟨m, hm, hpm⟩ := hq
  obtain ⟨X, rfl⟩ := Int.eq_ofNat_of_zero_le hx.1
  obtain ⟨Y, rfl⟩ := Int.eq_ofNat_of_zero_le hy.1
  have hpn : p = ((2 ^ m : Nat) : Int) := by rw [hpm]; simp
  have hbits := i64_bits X Y m hm (by omega) (by omega)
  rw [← hpm] at hbits
  have hop : op = 0 ∨ op = 1 ∨ op = 2 ∨ op = 3 ∨ op = 4 ∨ op = 5 ∨ op = 6 ∨ op = 7 ∨ op = 8 ∨ op = 9 ∨ op = 10 ∨ op = 11 ∨ op = 12 ∨ op = 13 ∨ op = 14 ∨ op = 15 ∨ op = 16 ∨ op = 17 := by omega
  rcases hop with rfl | rfl | rfl | rfl | rfl | rfl | rfl | rfl | rfl | rfl | rfl | rfl | rfl | rfl | rfl | rfl | rfl | rfl
  · exact ⟨_, rfl, rfl, low _⟩
  · exact ⟨_, rfl, rfl, low _⟩
  · exact ⟨_, rfl, rfl, low _⟩
  · exact ⟨_, rfl, rfl, hbits.1⟩
  · exact ⟨_, rfl, rfl, hbits.2.1⟩
  · exact ⟨_, rfl, rfl, hbits.2.2⟩
  · exact ⟨_, rfl, rfl, by unfold mn; split <;> omega⟩
  · exact ⟨_, rfl, rfl, by unfold mx; split <;> omega⟩
  · refine ⟨_, rfl, ?_, low _⟩
    show some _ = some _
    congr 1
    unfold mn
    split
    · rw [_root_.if_neg (by omega)]; exact sx.symm
    · rw [_root_.if_pos (by omega)]; exact sy.symm
  · refine ⟨_, rfl, ?_, low _⟩
    show some _ = some _
    congr 1
    unfold mx
    split
    · rw [_root_.if_neg (by omega)]; exact sx.symm
    · rw [_root_.if_pos (by omega)]; exact sy.symm
  · refine ⟨_, rfl, ?_, by unfold mn; split <;> omega⟩
    show some _ = some _
    congr 1
    unfold mn mx
    (repeat' split) <;> omega
  · exact ⟨_, rfl, rfl, low _⟩
  · refine ⟨_, rfl, ?_, by unfold mx; split <;> omega⟩
    show some _ = some _
    congr 1
    unfold mn mx
    (repeat' split) <;> omega
  · exact ⟨_, rfl, rfl, low _⟩
  · exact ⟨_, rfl, rfl, by rw [Int.tdiv_eq_ediv_of_nonneg (by omega)]; omega⟩
  · exact ⟨_, rfl, rfl, low _⟩
  · refine ⟨_, rfl, rfl, ?_⟩
    have hpos : (0 : Int) < 2 ^ min (Int.tmod (Y : Int) b).toNat (IntKind.i64).bits := Int.pow_pos (by omega)
    exact ⟨Int.ediv_nonneg hx.1 (by omega), Int.lt_of_le_of_lt (Int.ediv_le_self _ hx.1) hx.2⟩
  · exact ⟨_, rfl, rfl, low _⟩
end

theorem Size.word {b p h : Int} (s : Size b p h) (x : Int) : wordB b x = true ↔ 0 ≤ x ∧ x < p := by
  obtain ⟨h1, h2, h3, h4, h5, e1, e2, e3, e4, e5, hb, e6⟩ := s.all
  simp only [wordB, hb, inB, e6, Bool.true_and, Bool.and_eq_true, decide_eq_true_eq]
  omega

theorem w64n (a i : Nat) (h : a + i ≤ 1000) : wrap64 ((a : Int) + (i : Int)) = ((a + i : Nat) : Int) := by
  rw [w64 (by omega) (by omega)]; omega
theorem w64s (i : Nat) (h : i ≤ 1000) : wrap64 ((i : Int) + 1) = ((i + 1 : Nat) : Int) := by
  rw [w64 (by omega) (by omega)]; omega

theorem set_words {mem : List Int} {p r : Int} {i : Nat} (hw : ∀ x ∈ mem, 0 ≤ x ∧ x < p) (hr : 0 ≤ r ∧ r < p) : ∀ x ∈ mem.set i r, 0 ≤ x ∧ x < p := by
  intro x hx
  rcases List.mem_or_eq_of_mem_set hx with h | rfl
  · exact hw x h
  · exact hr
theorem run_go {b p h : Int} (s : Size b p h) (m0 a0 a1 a2 a3 a4 : Int) (n : Nat) (hf : 0 ≤ a1 ∧ a1 ≤ 17 ∧ 0 ≤ (n : Int) ∧ (n : Int) ≤ 24 ∧ 0 ≤ a3 ∧ a3 + n ≤ 64 ∧ a3 ≤ 63 ∧ (a0 = 1 ∧ a4 = 0 ∧ 0 ≤ a2 ∧ a2 ≤ 63 ∨ a0 = 0 ∧ 0 ≤ a4 ∧ a4 ≤ 63 ∧ a4 + n ≤ 64 ∧ 0 ≤ a2 ∧ a2 ≤ 63 ∧ a2 + n ≤ 64)) :
    ∀ (d i : Nat) (mem : List Int), i + d = n → mem.length = 64 → (∀ x ∈ mem, 0 ≤ x ∧ x < p) →
      ∃ r : List Int, r.length = 64 ∧ Ev (fun k => spec_l09Run.l0 k b mem (i : Int) a0 a1 a2 a3 a4 (n : Int)) r ∧ Ev (fun k => impl_looped.l0 k mem (n : Int) (i : Int) m0 b a0 a1 a2 a3 a4 (n : Int)) r := by
  intro d
  induction d with
  | zero =>
    intro i mem hi hl hw
    exact ⟨mem, hl, Ev.step (fun k => spec_l09Run.l0.eq_2 _ _ _ _ _ _ _ _ _ _) (Ev.if_neg (by omega) (Ev.now _)), Ev.step (fun k => impl_looped.l0.eq_2 _ _ _ _ _ _ _ _ _ _ _ _) (Ev.if_neg (by omega) (Ev.now _))⟩
  | succ d ih =>
    intro i mem hi hl hw
    obtain ⟨A, rfl⟩ := Int.eq_ofNat_of_zero_le (show 0 ≤ a2 by omega)
    obtain ⟨B, rfl⟩ := Int.eq_ofNat_of_zero_le (show 0 ≤ a3 by omega)
    obtain ⟨C, rfl⟩ := Int.eq_ofNat_of_zero_le (show 0 ≤ a4 by omega)
    have hBi : B + i < mem.length := by omega
    by_cases c : a0 = 1
    · have hA : A < mem.length := by omega
      obtain ⟨r0, hs, hm, hr⟩ := do_both s a1 mem[A] mem[B + i] (by omega) (hw _ (List.getElem_mem hA)) (hw _ (List.getElem_mem hBi))
      obtain ⟨r, hrl, q1, q2⟩ := ih (i + 1) (mem.set A r0) (by omega) (by simpa using hl) (set_words hw hr)
      refine ⟨r, hrl, ?_, ?_⟩
      · refine Ev.step (fun k => spec_l09Run.l0.eq_2 _ _ _ _ _ _ _ _ _ _) (Ev.if_pos (by omega) (Ev.if_pos c ?_))
        rw [w64n B i (by omega), w64s i (by omega), rd_at mem A hA, rd_at mem (B + i) hBi]
        exact Ev.if_pos (by omega) (Ev.if_pos (by omega) (Ev.if_pos (by omega) (Ev.if_pos (by omega) (Ev.bind' hs q1))))
      · refine Ev.step (fun k => impl_looped.l0.eq_2 _ _ _ _ _ _ _ _ _ _ _ _) (Ev.if_pos (by omega) (Ev.if_neg (by omega) ?_))
        rw [w64n B i (by omega), w64s i (by omega), rd_at mem A hA, rd_at mem (B + i) hBi]
        exact Ev.if_pos (by omega) (Ev.if_pos (by omega) (Ev.if_pos (by omega) (Ev.if_pos (by omega) (Ev.bind' hm q2))))
    · have c0 : a0 = 0 := by omega
      have hCi : C + i < mem.length := by omega
      obtain ⟨r0, hs, hm, hr⟩ := do_both s a1 mem[B + i] mem[C + i] (by omega) (hw _ (List.getElem_mem hBi)) (hw _ (List.getElem_mem hCi))
      obtain ⟨r, hrl, q1, q2⟩ := ih (i + 1) (mem.set (A + i) r0) (by omega) (by simpa using hl) (set_words hw hr)
      refine ⟨r, hrl, ?_, ?_⟩
      · refine Ev.step (fun k => spec_l09Run.l0.eq_2 _ _ _ _ _ _ _ _ _ _) (Ev.if_pos (by omega) (Ev.if_neg c ?_))
        rw [w64n A i (by omega), w64n B i (by omega), w64n C i (by omega), w64s i (by omega), rd_at mem (B + i) hBi, rd_at mem (C + i) hCi]
        exact Ev.if_pos (by omega) (Ev.if_pos (by omega) (Ev.if_pos (by omega) (Ev.if_pos (by omega) (Ev.bind' hs (Ev.if_pos (by omega) (Ev.if_pos (by omega) q1))))))
      · refine Ev.step (fun k => impl_looped.l0.eq_2 _ _ _ _ _ _ _ _ _ _ _ _) (Ev.if_pos (by omega) (Ev.if_pos c0 ?_))
        rw [w64n A i (by omega), w64n B i (by omega), w64n C i (by omega), w64s i (by omega), rd_at mem (B + i) hBi, rd_at mem (C + i) hCi]
        exact Ev.if_pos (by omega) (Ev.if_pos (by omega) (Ev.if_pos (by omega) (Ev.if_pos (by omega) (Ev.bind' hm (Ev.if_pos (by omega) (Ev.if_pos (by omega) q2))))))
theorem memory_impl (m0 b : Int) (l : List Int) : impl_isMemory.f m0 b l = some (decide ((l.length : Int) = 64) && l.all (wordB b)) := by
  unfold impl_isMemory.f
  have e : impl_areAll_int64_at_impl_isMemory_1.f l m0 b = some (l.all (wordB b)) := by
    unfold impl_areAll_int64_at_impl_isMemory_1.f
    exact allO_total l (fun x _ => rfl)
  rw [e]
  by_cases h : (l.length : Int) = 64
  · rw [_root_.if_pos h]; simp [h]
  · rw [_root_.if_neg h]; simp [h]
theorem RunLoop_ex (m0 b a0 a1 a2 a3 a4 a5 : Int) (l : List Int) (hl : l.length ≤ 1048576) : ∃ r : List Int × Bool, r.1.length ≤ 4611686018427387904 ∧ Ev (fun k => spec_RunLoop.f k m0 b a0 a1 a2 a3 a4 a5 l) r ∧ Ev (fun k => impl_RunLoop.f k m0 b a0 a1 a2 a3 a4 a5 l) r := by
  have evS : Ev (fun k => spec_l09Is.f k a0 a1 a2 a3 a4 a5) (loopB a0 a1 a2 a3 a4 a5) := ⟨1, fun k hk => by
    obtain ⟨q, rfl⟩ : ∃ q, k = q + 1 := ⟨k - 1, by omega⟩
    exact loop_spec q a0 a1 a2 a3 a4 a5⟩
  have evI : Ev (fun k => impl_ValidLoop.f k a0 a1 a2 a3 a4 a5) (loopB a0 a1 a2 a3 a4 a5) := ⟨1, fun k hk => by
    obtain ⟨q, rfl⟩ : ∃ q, k = q + 1 := ⟨k - 1, by omega⟩
    exact loop_impl q a0 a1 a2 a3 a4 a5⟩
  unfold spec_RunLoop.f spec_l09Memory.f impl_RunLoop.f
  by_cases g1 : (lanesB m0 && bitsB b) = true
  · by_cases g2 : loopB a0 a1 a2 a3 a4 a5 = true
    · by_cases g3 : (l.length : Int) = 64
      · have hbb : bitsB b = true := by revert g1; cases lanesB m0 <;> simp
        by_cases g4 : l.all (wordB b) = true
        · obtain ⟨p, h, s⟩ := size_of hbb
          have hw : ∀ x ∈ l, 0 ≤ x ∧ x < p := fun x hx => by
            have := List.all_eq_true.1 g4 x hx
            exact (Size.word s x).1 this
          have hf := loop_facts g2
          obtain ⟨n, rfl⟩ := Int.eq_ofNat_of_zero_le (show 0 ≤ a5 by omega)
          obtain ⟨r, hr, q1, q2⟩ := run_go s m0 a0 a1 a2 a3 a4 n hf n 0 l (by omega) (by omega) hw
          refine ⟨(r, true), by show r.length ≤ _; omega, ?_, ?_⟩
          · refine Ev.bind (Ev.bind' (machine_spec m0 b) (Ev.if_pos g1 (Ev.bind evS (Ev.if_pos g2 (Ev.if_pos g3 (Ev.bind (words_eq b l (by omega)) (Ev.now _))))))) ?_
            refine Ev.if_pos (by rw [hbb, g4]; rfl) ?_
            unfold spec_l09Run.f
            exact Ev.bind (Ev.bind' (own_eq l (by omega)) q1) (Ev.now _)
          · refine Ev.bind' (machine_impl m0 b) (Ev.if_pos g1 (Ev.bind evI (Ev.if_pos g2 (Ev.bind' (memory_impl m0 b l) (Ev.if_pos (by simp [g3]; simpa using g4) ?_)))))
            unfold impl_looped.f
            exact Ev.bind (Ev.bind' (a := l) (by unfold slices_Clone_int64_int64.f; rw [_root_.if_pos (by omega)]) q2) (Ev.now _)
        · refine ⟨([], false), by simp, ?_, ?_⟩
          · refine Ev.bind (Ev.bind' (machine_spec m0 b) (Ev.if_pos g1 (Ev.bind evS (Ev.if_pos g2 (Ev.if_pos g3 (Ev.bind (words_eq b l (by omega)) (Ev.now _))))))) ?_
            exact Ev.if_neg (by rw [hbb]; simpa using g4) (Ev.now _)
          · exact Ev.bind' (machine_impl m0 b) (Ev.if_pos g1 (Ev.bind evI (Ev.if_pos g2 (Ev.bind' (memory_impl m0 b l) (Ev.if_neg (by simp only [Bool.and_eq_true, not_and]; exact fun _ => g4) (Ev.now _))))))
      · refine ⟨([], false), by simp, ?_, ?_⟩
        · exact Ev.bind (Ev.bind' (machine_spec m0 b) (Ev.if_pos g1 (Ev.bind evS (Ev.if_pos g2 (Ev.if_neg g3 (Ev.now _)))))) (Ev.if_neg (by simp) (Ev.now _))
        · exact Ev.bind' (machine_impl m0 b) (Ev.if_pos g1 (Ev.bind evI (Ev.if_pos g2 (Ev.bind' (memory_impl m0 b l) (Ev.if_neg (by simp only [Bool.and_eq_true, decide_eq_true_eq, not_and]; exact fun q => absurd q g3) (Ev.now _))))))
    · refine ⟨([], false), by simp, ?_, ?_⟩
      · exact Ev.bind (Ev.bind' (machine_spec m0 b) (Ev.if_pos g1 (Ev.bind evS (Ev.if_neg g2 (Ev.now _))))) (Ev.if_neg (by simp) (Ev.now _))
      · exact Ev.bind' (machine_impl m0 b) (Ev.if_pos g1 (Ev.bind evI (Ev.if_neg g2 (Ev.now _))))
  · refine ⟨([], false), by simp, ?_, ?_⟩
    · exact Ev.bind (Ev.bind' (machine_spec m0 b) (Ev.if_neg g1 (Ev.now _))) (Ev.if_neg (by simp) (Ev.now _))
    · exact Ev.bind' (machine_impl m0 b) (Ev.if_neg g1 (Ev.now _))

end Go.Proofs.Ytpfoeologjacfaa.G
