/- Plain lemmas that the proof of FnExactSortLanes leans on. -/
import Derived.KernelRfl
import Derived.Test.YtpfoeologjacfaaE0
import Derived.Test.YtpfoeologjacfaaE1
import Derived.Test.YtpfoeologjacfaaE2
import Derived.Test.YtpfoeologjacfaaE3
import Derived.Test.YtpfoeologjacfaaE4
import Derived.Test.YtpfoeologjacfaaE5
import Derived.Test.YtpfoeologjacfaaE7
import Derived.Test.YtpfoeologjacfaaE8
namespace Go.Proofs.Ytpfoeologjacfaa.E
open Go.RowKit Go.Proofs.YtpfoeologjacfaaW.PrintWords Go.Proofs.YtpfoeologjacfaaW.PrintLast Go.Proofs.YtpfoeologjacfaaW.PrintMore
set_option linter.unusedVariables false
set_option linter.unusedSimpArgs false

theorem w64 {x : Int} (h0 : -9223372036854775808 ≤ x) (h1 : x ≤ 9223372036854775807) : wrap64 x = x := by unfold wrap64; omega
theorem rd_at (l : List Int) (j : Nat) (h : j < l.length) : rd l (j : Int) = l[j] := by
  unfold rd
  rw [Int.toNat_natCast]; simp [List.getD_eq_getElem?_getD, h]

theorem Ev.if_pos {α : Type} {c : Prop} [Decidable c] {g f : Nat → Option α} {r : α} (h : c) (k : Ev g r) : Ev (fun n => if c then g n else f n) r := Ev.congr (fun n => _root_.if_pos h) k
theorem Ev.if_neg {α : Type} {c : Prop} [Decidable c] {g f : Nat → Option α} {r : α} (h : ¬ c) (k : Ev f r) : Ev (fun n => if c then g n else f n) r := Ev.congr (fun n => _root_.if_neg h) k
theorem Ev.bind' {α β : Type} {g : Option α} {f : Nat → α → Option β} {a : α} {r : β} (h : g = some a) (k : Ev (fun n => f n a) r) : Ev (fun n => g.bind (f n)) r := Ev.congr (fun n => by rw [h]; rfl) k
theorem Ev.some' {α : Type} {a r : α} (h : a = r) : Ev (fun _ => some a) r := h ▸ Ev.now a

theorem eqEv (l : List Int) (hl : l.length ≤ 4611686018427387904) : Ev (fun k => laws_eqInt64S.f k l l) true := by
  have key : ∀ d j, j + d = l.length → Ev (fun k => laws_eqInt64S.l0 k l l (j : Int)) true := by
    intro d
    induction d with
    | zero =>
      intro j hj
      exact Ev.step (f := fun _ => some true) (fun k => by simp only [laws_eqInt64S.l0]; rw [_root_.if_neg (by omega)]) (Ev.now _)
    | succ d ih =>
      intro j hj
      refine Ev.step (f := fun k => laws_eqInt64S.l0 k l l ((j + 1 : Nat) : Int)) (fun k => ?_) (ih (j + 1) (by omega))
      simp only [laws_eqInt64S.l0]
      rw [_root_.if_pos (by omega), _root_.if_pos (by omega), _root_.if_pos (by omega), w64 (by omega) (by omega)]
      rfl
  exact Ev.congr (fun k => by unfold laws_eqInt64S.f; rw [_root_.if_pos rfl]; rfl) (key l.length 0 (by omega))

/-- n, n + 1, .. -/
def marks (n : Int) (len : Nat) : List Int := (List.range len).map fun (i : Nat) => n + i
theorem marks_length (n : Int) (len : Nat) : (marks n len).length = len := by simp [marks]
theorem marks_get (n : Int) (len j : Nat) (h : j < (marks n len).length) : (marks n len)[j] = n + j := by simp [marks]
theorem marks_succ (n : Int) (j : Nat) : marks n (j + 1) = marks n j ++ [n + j] := by simp [marks, List.range_succ]

theorem markEv (l : List Int) (n : Int) (hl : l.length ≤ 4611686018427387904) (h0 : 0 ≤ n) (h1 : n ≤ 4611686018427387000) :
    Ev (fun k => laws_markInt64S.f k l n) (n + l.length, marks n l.length) := by
  have key : ∀ d j, j + d = l.length → Ev (fun k => laws_markInt64S.l0 k (marks n j ++ l.drop j) (n + j) (j : Int)) (n + l.length, marks n l.length) := by
    intro d
    induction d with
    | zero =>
      intro j hj
      obtain rfl : j = l.length := by omega
      refine Ev.step (f := fun _ => some (n + (l.length : Int), marks n l.length)) (fun k => ?_) (Ev.now _)
      simp only [laws_markInt64S.l0]
      rw [_root_.if_neg (by simp [marks_length])]
      simp
    | succ d ih =>
      intro j hj
      refine Ev.step (f := fun k => laws_markInt64S.l0 k (marks n (j + 1) ++ l.drop (j + 1)) (n + ((j + 1 : Nat) : Int)) ((j + 1 : Nat) : Int)) (fun k => ?_) (ih (j + 1) (by omega))
      simp only [laws_markInt64S.l0]
      rw [_root_.if_pos (by simp [marks_length]; omega), _root_.if_pos (by omega), w64 (by omega) (by omega), w64 (by omega) (by omega)]
      have e : (marks n j ++ l.drop j).set (j : Int).toNat (n + j) = marks n (j + 1) ++ l.drop (j + 1) := by
        rw [Int.toNat_natCast, List.set_append_right _ _ (by rw [marks_length]; exact Nat.le_refl _), marks_length, Nat.sub_self, List.drop_eq_getElem_cons (by omega : j < l.length), List.set_cons_zero, marks_succ, List.append_assoc]
        rfl
      rw [e, Int.add_assoc]; rfl
  exact Ev.congr (fun k => by unfold laws_markInt64S.f; simp [marks]) (key l.length 0 (by omega))

theorem heldEv (len : Nat) (n : Int) (hl : len ≤ 4611686018427387904) (h0 : 0 ≤ n) (h1 : n ≤ 4611686018427387000) :
    Ev (fun k => laws_heldInt64S.f k (marks n len) n) (n + len) := by
  have key : ∀ d j, j + d = len → Ev (fun k => laws_heldInt64S.l0 k (marks n len) (n + j) (j : Int)) (n + len) := by
    intro d
    induction d with
    | zero =>
      intro j hj
      obtain rfl : j = len := by omega
      refine Ev.step (f := fun _ => some (n + (j : Int))) (fun k => ?_) (Ev.now _)
      simp only [laws_heldInt64S.l0]
      rw [_root_.if_neg (by simp [marks_length])]
    | succ d ih =>
      intro j hj
      refine Ev.step (f := fun k => laws_heldInt64S.l0 k (marks n len) (n + ((j + 1 : Nat) : Int)) ((j + 1 : Nat) : Int)) (fun k => ?_) (ih (j + 1) (by omega))
      simp only [laws_heldInt64S.l0]
      rw [_root_.if_pos (by rw [marks_length]; omega), _root_.if_pos (by omega), rd_at _ _ (by rw [marks_length]; omega), marks_get, _root_.if_pos rfl, w64 (by omega) (by omega), w64 (by omega) (by omega), Int.add_assoc]
      rfl
  exact Ev.congr (fun k => by unfold laws_heldInt64S.f; simp) (key len 0 (by omega))

theorem toEv (l : List Int) (hl : l.length ≤ 1048576) : Ev (fun k => laws_toInt64S.f k l) l := by
  have key : ∀ d j, j + d = l.length → Ev (fun k => laws_toInt64S.l0 k l (l.take j ++ List.replicate d 0) (j : Int)) l := by
    intro d
    induction d with
    | zero =>
      intro j hj
      obtain rfl : j = l.length := by omega
      refine Ev.step (f := fun _ => some l) (fun k => ?_) (Ev.now _)
      simp only [laws_toInt64S.l0]
      rw [_root_.if_neg (by omega)]
      simp
    | succ d ih =>
      intro j hj
      refine Ev.step (f := fun k => laws_toInt64S.l0 k l (l.take (j + 1) ++ List.replicate d 0) ((j + 1 : Nat) : Int)) (fun k => ?_) (ih (j + 1) (by omega))
      simp only [laws_toInt64S.l0]
      rw [_root_.if_pos (by omega), _root_.if_pos (by omega), _root_.if_pos (by simp; omega), w64 (by omega) (by omega), rd_at _ _ (by omega)]
      have e : (l.take j ++ List.replicate (d + 1) 0).set (j : Int).toNat l[j] = l.take (j + 1) ++ List.replicate d 0 := by
        rw [Int.toNat_natCast, List.set_append_right _ _ (by simp; omega), List.length_take, Nat.min_eq_left (by omega), Nat.sub_self, List.replicate_succ, List.set_cons_zero, List.take_succ_eq_append_getElem (by omega), List.append_assoc]
        rfl
      rw [e]; rfl
  refine Ev.congr (fun k => ?_) (key l.length 0 (by omega))
  unfold laws_toInt64S.f
  simp
  omega

/-- A loop over a list that may end early. -/
def goLoop {σ β : Type} (f : σ → Int → Nat → β ⊕ σ) (fin : σ → β) : σ → List Int → Nat → β
  | s, [], _ => fin s
  | s, x :: xs, j => match f s x j with
    | .inl r => r
    | .inr s' => goLoop f fin s' xs (j + 1)
theorem loopEv {σ β : Type} (l : List Int) (g : Nat → σ → Int → Option β) (f : σ → Int → Nat → β ⊕ σ) (fin : σ → β) (Inv : σ → Nat → Prop)
    (h0 : ∀ k s, Inv s l.length → g (k + 1) s (l.length : Int) = some (fin s))
    (h1 : ∀ k s (j : Nat) (h : j < l.length), Inv s j → g (k + 1) s (j : Int) = match f s l[j] j with | .inl r => some r | .inr s' => g k s' ((j + 1 : Nat) : Int))
    (hI : ∀ s (j : Nat) (h : j < l.length) s', Inv s j → f s l[j] j = .inr s' → Inv s' (j + 1)) (s : σ) (hs : Inv s 0) :
    Ev (fun k => g k s 0) (goLoop f fin s l 0) := by
  have key : ∀ d j s, j + d = l.length → Inv s j → Ev (fun k => g k s (j : Int)) (goLoop f fin s (l.drop j) j) := by
    intro d
    induction d with
    | zero =>
      intro j s hj hs
      obtain rfl : j = l.length := by omega
      rw [List.drop_length]
      exact Ev.step (f := fun _ => some (fin s)) (fun k => h0 k s hs) (Ev.now _)
    | succ d ih =>
      intro j s hj hs
      have hlt : j < l.length := by omega
      rw [List.drop_eq_getElem_cons hlt]
      unfold goLoop
      cases hf : f s l[j] j with
      | inl r => exact Ev.step (f := fun _ => some r) (fun k => by rw [h1 k s j hlt hs, hf]) (Ev.now _)
      | inr s' => exact Ev.step (f := fun k => g k s' ((j + 1 : Nat) : Int)) (fun k => by rw [h1 k s j hlt hs, hf]) (ih (j + 1) s' (by omega) (hI s j hlt s' hs hf))
  simpa using key l.length 0 s (by omega) hs

/-- What holds of a loop's answer. -/
theorem goLoop_post {σ β : Type} {f : σ → Int → Nat → β ⊕ σ} {fin : σ → β} (l : List Int) (Inv : σ → Nat → Prop) (Post : β → Prop)
    (hfin : ∀ s, Inv s l.length → Post (fin s)) (hout : ∀ s (j : Nat) (h : j < l.length) r, Inv s j → f s l[j] j = .inl r → Post r)
    (hI : ∀ s (j : Nat) (h : j < l.length) s', Inv s j → f s l[j] j = .inr s' → Inv s' (j + 1)) (s : σ) (j0 : Nat) (hj0 : j0 ≤ l.length) (hs : Inv s j0) :
    Post (goLoop f fin s (l.drop j0) j0) := by
  have key : ∀ d j s, j + d = l.length → Inv s j → Post (goLoop f fin s (l.drop j) j) := by
    intro d
    induction d with
    | zero =>
      intro j s hj hs
      obtain rfl : j = l.length := by omega
      rw [List.drop_length]
      exact hfin s hs
    | succ d ih =>
      intro j s hj hs
      have hlt : j < l.length := by omega
      rw [List.drop_eq_getElem_cons hlt]
      unfold goLoop
      cases hf : f s l[j] j with
      | inl r => exact hout s j hlt r hs hf
      | inr s' => exact ih (j + 1) s' (by omega) (hI s j hlt s' hs hf)
  exact key (l.length - j0) j0 s (by omega) hs

theorem goLoop_all {β : Type} (p : Int → Bool) (bad : β) (fin : β) (l : List Int) : ∀ j,
    goLoop (σ := Unit) (fun _ x _ => if p x = true then .inr () else .inl bad) (fun _ => fin) () l j = if l.all p = true then fin else bad := by
  induction l with
  | nil => intro j; simp [goLoop]
  | cons x xs ih =>
    intro j
    unfold goLoop
    by_cases h : p x = true
    · simp [h, ih (j + 1)]
    · simp [h]

theorem in_eq (a b c : Int) : spec_l00In.f a b c = some (inB a b c) := by
  unfold spec_l00In.f inB
  by_cases h : b ≤ a
  · rw [_root_.if_pos h]; simp [h]
  · rw [_root_.if_neg (by omega)]; simp [h]

theorem lanes_eq (a : Int) : spec_l02Lanes.f a = some (lanesB a) := by
  unfold spec_l02Lanes.f lanesB
  by_cases h2 : a = 2
  · subst h2; rfl
  by_cases h4 : a = 4
  · subst h4; rfl
  by_cases h8 : a = 8
  · subst h8; rfl
  rw [_root_.if_neg h2, _root_.if_neg h4, _root_.if_neg h8, beq_eq_false_iff_ne.2 h2, beq_eq_false_iff_ne.2 h4, beq_eq_false_iff_ne.2 h8]
  rfl

theorem bits_eq (a : Int) : spec_l01Bits.f a = some (bitsB a) := by
  unfold spec_l01Bits.f bitsB
  by_cases h4 : a = 4
  · subst h4; rfl
  by_cases h8 : a = 8
  · subst h8; rfl
  rw [_root_.if_neg h4, _root_.if_neg h8, beq_eq_false_iff_ne.2 h4, beq_eq_false_iff_ne.2 h8]
  rfl

theorem two_eq {b : Int} (h : bitsB b = true) : 0 ≤ IntKind.u64.wrap b ∧ wrap64 (shl .i64 1 (IntKind.u64.wrap b) - 1) = 2 ^ b.toNat - 1 ∧ wrap64 (shl .i64 1 b - 1) = 2 ^ b.toNat - 1 := by
  rcases bits_cases h with rfl | rfl | rfl <;> decide +kernel

theorem word_eq (b x : Int) : spec_l01Word.f b x = some (wordB b x) := by
  unfold spec_l01Word.f wordB
  rw [bits_eq]
  simp only [Option.bind_some]
  by_cases h : bitsB b = true
  · rw [_root_.if_pos h, _root_.if_pos (two_eq h).1, (two_eq h).2.1, in_eq, h]; rfl
  · rw [_root_.if_neg h]
    have : bitsB b = false := by simpa using h
    rw [this]; rfl

theorem words_eq (b : Int) (l : List Int) (hl : l.length ≤ 1048577) : Ev (fun k => spec_l01Words.f k b l) (bitsB b && l.all (wordB b)) := by
  have h := loopEv (σ := Unit) (β := Bool) l (fun k _ i => spec_l01Words.l0 k b l i) (fun _ x _ => if wordB b x = true then .inr () else .inl false) (fun _ => bitsB b) (fun _ _ => True)
    (fun k s _ => by simp only [spec_l01Words.l0]; rw [_root_.if_neg (by omega), bits_eq]; rfl)
    (fun k s j hj _ => by
      simp only [spec_l01Words.l0]
      rw [_root_.if_pos (by omega), _root_.if_pos (by omega), rd_at _ _ hj, word_eq]
      simp only [Option.bind_some]
      by_cases h : wordB b l[j] = true
      · rw [_root_.if_pos h, _root_.if_pos h, w64 (by omega) (by omega)]; rfl
      · rw [_root_.if_neg h, _root_.if_neg h])
    (fun _ _ _ _ _ _ => trivial) () trivial
  rw [goLoop_all] at h
  unfold spec_l01Words.f
  have e : (bitsB b && l.all (wordB b)) = (if l.all (wordB b) = true then bitsB b else false) := by
    by_cases h : l.all (wordB b) = true <;> simp [h]
  rw [e]; exact h

theorem vec_eq (b : Int) (l : List Int) (hl : l.length ≤ 1048577) : Ev (fun k => spec_l02Is.f k b l) (vecB b l) := by
  unfold spec_l02Is.f vecB
  refine Ev.bind' (lanes_eq _) ?_
  by_cases h1 : lanesB l.length = true
  · refine Ev.if_pos h1 (Ev.bind (words_eq b l hl) ?_)
    exact Ev.some' (by simp [h1])
  · exact Ev.if_neg h1 (Ev.some' (by simp [h1]))

def exNew (far block : Int) (l s : List Int) (j : Nat) : List Int :=
  if Go.bits .and .i64 j block = 0 then (s.set j (mn (rd l j) (rd l (j + far)))).set ((j : Int) + far).toNat (mx (rd l j) (rd l (j + far)))
  else (s.set j (mx (rd l j) (rd l (j + far)))).set ((j : Int) + far).toNat (mn (rd l j) (rd l (j + far)))
def exStep (far block : Int) (l : List Int) (s : List Int) (_ : Int) (j : Nat) : List Int ⊕ List Int :=
  .inr (if Go.bits .and .i64 j far = 0 then exNew far block l s j else s)
def exEnd (s : List Int) : List Int := s
/-- One exchange of all lanes. -/
def exOf (far block : Int) (l : List Int) : List Int := goLoop (exStep far block l) exEnd l l 0
def exGood (n far block : Nat) : Bool := (List.range n).all fun j =>
  ((decide (Go.bits .and .i64 j far = 0) && decide (j + far < n)) || decide (Go.bits .and .i64 j far > 0)) && ((Go.bits .and .i64 (Go.bits .and .i64 j block) ((n : Int) - 1) == 0) == (Go.bits .and .i64 j block == 0))
theorem exNew_length (far block : Int) (l s : List Int) (j : Nat) : (exNew far block l s j).length = s.length := by
  unfold exNew; split <;> simp
theorem ex_good {n far block : Nat} (hn : n = 2 ∨ n = 4 ∨ n = 8 ∨ n = 16) (hf : far = 1 ∨ far = 2 ∨ far = 4 ∨ far = 8) (hb : block = 2 ∨ block = 4 ∨ block = 8 ∨ block = 16) (h1 : far < block) (h2 : block ≤ n) : exGood n far block = true := by
  rcases hn with rfl | rfl | rfl | rfl <;> rcases hb with rfl | rfl | rfl | rfl <;> first | (exfalso; omega) | (rcases hf with rfl | rfl | rfl | rfl <;> first | (exfalso; omega) | rfl)
theorem ex_use {n far block : Nat} (h : exGood n far block = true) (j : Nat) (hj : j < n) :
    (Go.bits .and .i64 j far = 0 ∧ j + far < n ∨ Go.bits .and .i64 j far ≠ 0 ∧ Go.bits .and .i64 j far > 0) ∧ (Go.bits .and .i64 (Go.bits .and .i64 j block) ((n : Int) - 1) = 0 ↔ Go.bits .and .i64 j block = 0) := by
  have := List.all_eq_true.1 h j (List.mem_range.2 hj)
  simp only [Bool.and_eq_true, Bool.or_eq_true, decide_eq_true_eq, beq_iff_eq] at this
  refine ⟨?_, ?_⟩
  · rcases this.1 with h | h
    · exact Or.inl h
    · exact Or.inr ⟨by omega, h⟩
  · have e := this.2
    rw [Bool.eq_iff_iff] at e
    simpa using e
theorem exOf_length (far block : Int) (l : List Int) : (exOf far block l).length = l.length := by
  unfold exOf
  exact goLoop_post (f := exStep far block l) (fin := exEnd) l (fun s _ => s.length = l.length) (fun r => r.length = l.length) (fun s hs => hs) (fun s j hj r _ hf => by cases hf)
    (fun s j hj s' hs hf => by
      cases hf
      split
      · rw [exNew_length]; exact hs
      · exact hs) l 0 (by omega) rfl
theorem l00Min_mn (a b : Int) : spec_l00Min.f a b = some (mn a b) := by
  unfold spec_l00Min.f mn; split <;> split <;> first | rfl | (congr 1; omega)
theorem l00Max_mx (a b : Int) : spec_l00Max.f a b = some (mx a b) := by
  unfold spec_l00Max.f mx; split <;> split <;> first | rfl | (congr 1; omega)
theorem own_eq (l : List Int) (hl : l.length ≤ 1048577) : spec_l00Own.f l = some l := by
  unfold spec_l00Own.f
  simp only [Option.bind_some]
  rw [_root_.if_pos (by simp; omega)]; simp
theorem exchange_spec (n far block : Nat) (l : List Int) (hn : l.length = n) (hl : n ≤ 16) (hb : block ≤ 16) (hf : far ≤ 16) (h : exGood n far block = true) : Ev (fun k => spec_l10Exchange.f k far block l) (exOf far block l) := by
  unfold spec_l10Exchange.f exOf
  refine Ev.bind' (own_eq l (by omega)) ?_
  subst hn
  exact loopEv (σ := List Int) (β := List Int) l (fun k s i => spec_l10Exchange.l0 k l s i far block) (exStep far block l) exEnd (fun s _ => s.length = l.length)
    (fun k s _ => by simp only [spec_l10Exchange.l0]; rw [_root_.if_neg (by omega)]; rfl)
    (fun k s j hj hs => by
      obtain ⟨hu, hv⟩ := ex_use h j hj
      simp only [spec_l10Exchange.l0, exStep]
      rw [_root_.if_pos (by omega), w64 (x := (j : Int) + 1) (by omega) (by omega), w64 (x := (j : Int) + (far : Int)) (by omega) (by omega)]
      rcases hu with ⟨h0, h1⟩ | ⟨h0, h1⟩
      · rw [_root_.if_neg (by omega), _root_.if_pos (by omega), _root_.if_pos (by omega), _root_.if_pos (by omega), l00Min_mn, l00Max_mx, _root_.if_pos h0]
        simp only [Option.bind_some, exNew]
        by_cases h2 : Go.bits .and .i64 j block = 0
        · rw [_root_.if_pos h2, _root_.if_pos h2, _root_.if_pos (by omega), _root_.if_pos (by omega)]; rfl
        · rw [_root_.if_neg h2, _root_.if_neg h2, _root_.if_pos (by omega), _root_.if_pos (by omega)]; rfl
      · rw [_root_.if_pos h1, _root_.if_neg h0]; rfl)
    (fun s j hj s' hs hf => by
      cases hf
      split
      · rw [exNew_length]; exact hs
      · exact hs) l rfl
theorem exchange_impl (n far block : Nat) (l : List Int) (hn : l.length = n) (hl : n ≤ 16) (h1 : 1 ≤ n) (hb : block ≤ 16) (hf : far ≤ 16) (h : exGood n far block = true) : Ev (fun k => impl_exchanged.f k far block l) (exOf far block l) := by
  unfold impl_exchanged.f exOf
  refine Ev.bind' (a := l) (by unfold slices_Clone_int64_int64.f; rw [_root_.if_pos (by omega)]) (Ev.bind' (a := (l.length : Int)) rfl ?_)
  subst hn
  exact loopEv (σ := List Int) (β := List Int) l (fun k s i => impl_exchanged.l0 k l s l.length i far block) (exStep far block l) exEnd (fun s _ => s.length = l.length)
    (fun k s _ => by simp only [impl_exchanged.l0]; rw [_root_.if_neg (by omega)]; rfl)
    (fun k s j hj hs => by
      obtain ⟨hu, hv⟩ := ex_use h j hj
      simp only [impl_exchanged.l0, exStep, impl_length_int64.f, Option.bind_some]
      rw [_root_.if_pos (by omega), w64 (x := (j : Int) + 1) (by omega) (by omega), w64 (x := (j : Int) + (far : Int)) (by omega) (by omega), w64 (x := (l.length : Int) - 1) (by omega) (by omega)]
      rcases hu with ⟨h0, h1⟩ | ⟨h0, h1⟩
      · rw [_root_.if_pos h0, _root_.if_pos (by omega), _root_.if_pos (by omega), _root_.if_pos (by omega), _root_.if_pos (by omega), _root_.if_pos h0]
        simp only [exNew]
        by_cases h2 : Go.bits .and .i64 j block = 0
        · rw [_root_.if_pos (hv.2 h2), _root_.if_pos h2, _root_.if_pos (by omega), _root_.if_pos (by omega)]; rfl
        · rw [_root_.if_neg (fun e => h2 (hv.1 e)), _root_.if_neg h2, _root_.if_pos (by omega), _root_.if_pos (by omega)]; rfl
      · rw [_root_.if_neg h0, _root_.if_neg h0]; rfl)
    (fun s j hj s' hs hf => by
      cases hf
      split
      · rw [exNew_length]; exact hs
      · exact hs) l rfl

def powB (x n : Int) : Bool := decide (x = 1 ∨ x = 2 ∨ x = 4 ∨ x = 8 ∨ x = 16) && decide (x ≤ n)
theorem powB_iff {x n : Int} : powB x n = true ↔ (x = 1 ∨ x = 2 ∨ x = 4 ∨ x = 8 ∨ x = 16) ∧ x ≤ n := by simp [powB]
theorem pow_go (x n c : Int) (b : Bool) (h0 : 1 ≤ c) (hc : c ≤ 32) (h1 : c ≤ n → x = c → b = true) (h2 : ¬ c ≤ n → b = false) (h3 : c ≤ n → x ≠ c → Ev (fun k => spec_l10Power.l0 k x n (c * 2)) b) : Ev (fun k => spec_l10Power.l0 k x n c) b := by
  refine Ev.step (fun k => spec_l10Power.l0.eq_2 _ _ _ _) ?_
  by_cases a : c ≤ n
  · refine Ev.if_pos a ?_
    by_cases e : x = c
    · exact Ev.if_pos e (Ev.some' (h1 a e).symm)
    · refine Ev.if_neg e ?_
      rw [w64 (x := c * 2) (by omega) (by omega)]
      exact h3 a e
  · exact Ev.if_neg a (Ev.some' (h2 a).symm)
theorem power_spec (x n : Int) (h0 : 0 ≤ n) (h1 : n ≤ 16) : Ev (fun k => spec_l10Power.f k x n) (powB x n) := by
  have hb : powB x n = true ↔ (x = 1 ∨ x = 2 ∨ x = 4 ∨ x = 8 ∨ x = 16) ∧ x ≤ n := powB_iff
  generalize powB x n = b at hb ⊢
  have no : ¬ ((x = 1 ∨ x = 2 ∨ x = 4 ∨ x = 8 ∨ x = 16) ∧ x ≤ n) → b = false := fun h => Bool.eq_false_iff.2 (fun e => h (hb.1 e))
  unfold spec_l10Power.f
  refine pow_go x n 1 b (by omega) (by omega) (fun a e => hb.2 (by omega)) (fun a => no (by omega)) (fun a1 e1 => ?_)
  refine pow_go x n 2 b (by omega) (by omega) (fun a e => hb.2 (by omega)) (fun a => no (by omega)) (fun a2 e2 => ?_)
  refine pow_go x n 4 b (by omega) (by omega) (fun a e => hb.2 (by omega)) (fun a => no (by omega)) (fun a3 e3 => ?_)
  refine pow_go x n 8 b (by omega) (by omega) (fun a e => hb.2 (by omega)) (fun a => no (by omega)) (fun a4 e4 => ?_)
  refine pow_go x n 16 b (by omega) (by omega) (fun a e => hb.2 (by omega)) (fun a => no (by omega)) (fun a5 e5 => ?_)
  exact pow_go x n 32 b (by omega) (by omega) (fun a e => absurd a (by omega)) (fun a => no (by omega)) (fun a e => absurd a (by omega))
def powAll : Bool := (List.range 17).all fun m => m == 0 || impl_isPower.f (m : Int) == some (powB (m : Int) 16)
theorem powAll_true : powAll = true := by kernel_rfl
theorem pow_impl {a : Int} (h0 : 0 < a) (h1 : a ≤ 16) : impl_isPower.f a = some (powB a 16) := by
  obtain ⟨n, rfl⟩ := Int.eq_ofNat_of_zero_le (Int.le_of_lt h0)
  have := List.all_eq_true.1 powAll_true n (List.mem_range.2 (by omega))
  simp only [Bool.or_eq_true, beq_iff_eq] at this
  rcases this with rfl | h
  · omega
  · exact h
theorem pow_some (a : Int) : ∃ b, impl_isPower.f a = some b ∧ (b = true → 0 < a) := by
  unfold impl_isPower.f
  split
  · exact ⟨_, rfl, fun _ => by omega⟩
  · exact ⟨_, rfl, fun h => by cases h⟩
def exGoes (b far block : Int) (l : List Int) : Prop := vecB b l = true ∧ powB far 16 = true ∧ powB block 16 = true ∧ far < block ∧ block ≤ l.length
theorem vec_lanes {b : Int} {l : List Int} (h : vecB b l = true) : l.length = 2 ∨ l.length = 4 ∨ l.length = 8 ∨ l.length = 16 := by
  unfold vecB at h
  simp only [Bool.and_eq_true] at h
  have := lanes_cases h.2.1
  omega
theorem ExchangeLanes_ex (b far block : Int) (l : List Int) (hl : l.length ≤ 1048576) : ∃ r : List Int × Bool, r.1.length ≤ 4611686018427387904 ∧ Ev (fun k => spec_ExchangeLanes.f k b far block l) r ∧ Ev (fun k => impl_ExchangeLanes.f k b far block l) r := by
  by_cases hv : vecB b l = true
  · have hn := vec_lanes hv
    by_cases hg : exGoes b far block l
    · obtain ⟨_, g1, g2, g3, g4⟩ := hg
      have p1 := powB_iff.1 g1
      have p2 := powB_iff.1 g2
      obtain ⟨F, rfl⟩ := Int.eq_ofNat_of_zero_le (show 0 ≤ far by omega)
      obtain ⟨B, rfl⟩ := Int.eq_ofNat_of_zero_le (show 0 ≤ block by omega)
      have hgood : exGood l.length F B = true := ex_good hn (by omega) (by omega) (by omega) (by omega)
      refine ⟨(exOf F B l, true), by rw [exOf_length]; omega, ?_, ?_⟩
      · unfold spec_ExchangeLanes.f
        refine Ev.bind (vec_eq b l (by omega)) (Ev.if_pos hv (Ev.bind (power_spec _ _ (by omega) (by omega)) (Ev.if_pos (powB_iff.2 ⟨p2.1, by omega⟩) (Ev.bind (power_spec _ _ (by omega) (by omega)) (Ev.if_pos (powB_iff.2 ⟨p1.1, by omega⟩) (Ev.if_neg (by omega) (Ev.bind (exchange_spec _ F B l rfl (by omega) (by omega) (by omega) hgood) (Ev.now _))))))))
      · unfold impl_ExchangeLanes.f
        refine Ev.bind' (a := true) (by show some (vecB b l) = _; rw [hv]) (Ev.if_pos rfl (Ev.bind' (pow_impl (by omega) (by omega)) (Ev.if_pos g1 (Ev.bind' (pow_impl (by omega) (by omega)) (Ev.if_pos g2 (Ev.if_neg (by omega) (Ev.bind' (a := (l.length : Int)) rfl (Ev.if_neg (by omega) (Ev.bind (exchange_impl _ F B l rfl (by omega) (by omega) (by omega) (by omega) hgood) (Ev.now _))))))))))
    · refine ⟨([], false), by simp, ?_, ?_⟩
      · unfold spec_ExchangeLanes.f
        refine Ev.bind (vec_eq b l (by omega)) (Ev.if_pos hv (Ev.bind (power_spec _ _ (by omega) (by omega)) ?_))
        by_cases c1 : powB block l.length = true
        · have p2 := powB_iff.1 c1
          refine Ev.if_pos c1 (Ev.bind (power_spec _ _ (by omega) (by omega)) ?_)
          by_cases c2 : powB far block = true
          · have p1 := powB_iff.1 c2
            refine Ev.if_pos c2 (Ev.if_pos ?_ (Ev.now _))
            by_cases e : far = block
            · exact e
            · exact absurd ⟨hv, powB_iff.2 ⟨p1.1, by omega⟩, powB_iff.2 ⟨p2.1, by omega⟩, by omega, p2.2⟩ hg
          · exact Ev.if_neg c2 (Ev.now _)
        · exact Ev.if_neg c1 (Ev.now _)
      · unfold impl_ExchangeLanes.f
        obtain ⟨b0, hb0, hb0'⟩ := pow_some far
        obtain ⟨b1, hb1, hb1'⟩ := pow_some block
        refine Ev.bind' (a := true) (by show some (vecB b l) = _; rw [hv]) (Ev.if_pos rfl (Ev.bind' hb0 ?_))
        by_cases c0 : b0 = true
        · refine Ev.if_pos c0 (Ev.bind' hb1 ?_)
          by_cases c1 : b1 = true
          · refine Ev.if_pos c1 ?_
            by_cases c2 : far ≥ block
            · exact Ev.if_pos c2 (Ev.now _)
            · refine Ev.if_neg c2 (Ev.bind' (a := (l.length : Int)) rfl (Ev.if_pos ?_ (Ev.now _)))
              by_cases c3 : block > l.length
              · exact c3
              · have q0 := pow_impl (hb0' c0) (a := far) (by omega)
                have q1 := pow_impl (hb1' c1) (a := block) (by omega)
                rw [hb0, c0] at q0
                rw [hb1, c1] at q1
                exact absurd ⟨hv, (Option.some.inj q0).symm, (Option.some.inj q1).symm, by omega, by omega⟩ hg
          · exact Ev.if_neg c1 (Ev.now _)
        · exact Ev.if_neg c0 (Ev.now _)
  · refine ⟨([], false), by simp, ?_, ?_⟩
    · unfold spec_ExchangeLanes.f
      exact Ev.bind (vec_eq b l (by omega)) (Ev.if_neg hv (Ev.now _))
    · unfold impl_ExchangeLanes.f
      exact Ev.bind' (a := vecB b l) rfl (Ev.if_neg hv (Ev.now _))

/-- Comparing two places of a list, over any two operations. -/
def cmpG {α : Type} (lo hi : α → α → α) (s : List α) (p : Nat × Nat × Bool) : List α :=
  match s[p.1]?, s[p.2.1]? with
  | some a, some b => (s.set p.1 (cond p.2.2 (lo a b) (hi a b))).set p.2.1 (cond p.2.2 (hi a b) (lo a b))
  | _, _ => s
def netG {α : Type} (lo hi : α → α → α) (ps : List (Nat × Nat × Bool)) (s : List α) : List α := ps.foldl (cmpG lo hi) s
def bubG {α : Type} (lo hi : α → α → α) : α → List α → List α
  | x, [] => [x]
  | x, y :: L => lo y x :: bubG lo hi (hi y x) L
def insG {α : Type} (lo hi : α → α → α) (l : List α) : List α := l.foldl (fun s x => bubG lo hi x s) []
section
variable {α β : Type} {lo hi : α → α → α} {lo' hi' : β → β → β} {g : α → β} (h1 : ∀ a b, g (lo a b) = lo' (g a) (g b)) (h2 : ∀ a b, g (hi a b) = hi' (g a) (g b))
include h1 h2
theorem cmpG_map (s : List α) (p : Nat × Nat × Bool) : (cmpG lo hi s p).map g = cmpG lo' hi' (s.map g) p := by
  unfold cmpG
  rw [List.getElem?_map, List.getElem?_map]
  cases s[p.1]? with
  | none => rfl
  | some a =>
    cases s[p.2.1]? with
    | none => rfl
    | some b => cases p.2.2 <;> simp [List.map_set, h1, h2]
theorem netG_map (ps : List (Nat × Nat × Bool)) : ∀ s : List α, (netG lo hi ps s).map g = netG lo' hi' ps (s.map g) := by
  induction ps with
  | nil => intro s; rfl
  | cons p ps ih =>
    intro s
    show (netG lo hi ps (cmpG lo hi s p)).map g = netG lo' hi' ps (cmpG lo' hi' (s.map g) p)
    rw [ih, cmpG_map h1 h2]
theorem bubG_map : ∀ (L : List α) (x : α), (bubG lo hi x L).map g = bubG lo' hi' (g x) (L.map g) := by
  intro L
  induction L with
  | nil => intro x; rfl
  | cons y L ih => intro x; simp [bubG, ih, h1, h2]
theorem insG_map (l : List α) : (insG lo hi l).map g = insG lo' hi' (l.map g) := by
  have : ∀ (l s : List α), (l.foldl (fun s x => bubG lo hi x s) s).map g = (l.map g).foldl (fun s x => bubG lo' hi' x s) (s.map g) := by
    intro l
    induction l with
    | nil => intro s; rfl
    | cons x l ih => intro s; rw [List.foldl_cons, ih, bubG_map h1 h2]; rfl
  exact this l []
end
theorem cmpG_length {α : Type} (lo hi : α → α → α) (s : List α) (p : Nat × Nat × Bool) : (cmpG lo hi s p).length = s.length := by
  unfold cmpG; split <;> simp
theorem netG_length {α : Type} (lo hi : α → α → α) (ps : List (Nat × Nat × Bool)) : ∀ s : List α, (netG lo hi ps s).length = s.length := by
  induction ps with
  | nil => intro s; rfl
  | cons p ps ih => intro s; show (netG lo hi ps (cmpG lo hi s p)).length = _; rw [ih, cmpG_length]
/-- All tables of m truth values. -/
def tabs : Nat → List Nat
  | 0 => []
  | m + 1 => (tabs m).map (fun t => 2 ^ 2 ^ m * t + t) ++ [2 ^ 2 ^ m * (2 ^ 2 ^ m - 1) + 0]
theorem tabs_lt : ∀ m, ∀ t ∈ tabs m, t < 2 ^ 2 ^ m := by
  intro m
  induction m with
  | zero => intro t h; cases h
  | succ m ih =>
    intro t h
    have hp : 0 < 2 ^ 2 ^ m := Nat.pos_of_ne_zero (by simp)
    have e : 2 ^ 2 ^ (m + 1) = 2 ^ 2 ^ m * 2 ^ 2 ^ m := by rw [Nat.pow_succ, Nat.mul_comm, Nat.two_mul, Nat.pow_add]
    rw [e]
    have hm : ∀ x, x < 2 ^ 2 ^ m → ∀ y, y < 2 ^ 2 ^ m → 2 ^ 2 ^ m * x + y < 2 ^ 2 ^ m * 2 ^ 2 ^ m := by
      intro x hx y hy
      have : 2 ^ 2 ^ m * (x + 1) ≤ 2 ^ 2 ^ m * 2 ^ 2 ^ m := Nat.mul_le_mul_left _ hx
      rw [Nat.mul_succ] at this
      omega
    simp only [tabs, List.mem_append, List.mem_map, List.mem_singleton] at h
    rcases h with ⟨u, hu, rfl⟩ | rfl
    · exact hm u (ih u hu) u (ih u hu)
    · exact hm _ (by omega) 0 hp
theorem tabs_all : ∀ m, ∀ bs : List Bool, bs.length = m → ∃ a, a < 2 ^ m ∧ (tabs m).map (fun t => t.testBit a) = bs := by
  intro m
  induction m with
  | zero => intro bs h; exact ⟨0, by simp, (List.eq_nil_of_length_eq_zero h).symm⟩
  | succ m ih =>
    intro bs h
    have hne : bs ≠ [] := by intro e; rw [e] at h; cases h
    have hbs : bs = bs.dropLast ++ [bs.getLast hne] := (List.dropLast_concat_getLast hne).symm
    generalize bs.dropLast = cs at hbs
    generalize bs.getLast hne = b at hbs
    subst hbs
    obtain ⟨a, ha, hm⟩ := ih cs (by simpa using h)
    refine ⟨(if b = true then 2 ^ m else 0) + a, by rw [Nat.pow_succ]; split <;> omega, ?_⟩
    simp only [tabs, List.map_append, List.map_map, List.map_cons, List.map_nil]
    congr 1
    · rw [← hm]
      refine List.map_congr_left (fun t ht => ?_)
      have htl := tabs_lt m t ht
      simp only [Function.comp]
      rw [Nat.testBit_two_pow_mul_add _ htl]
      split
      · split at *
        · omega
        · simp
      · split at *
        · simp
        · omega
    · congr 1
      rw [Nat.testBit_two_pow_mul_add _ (Nat.pos_of_ne_zero (by simp))]
      cases b
      · simp [ha]
      · simp [ha]
/-- Two networks that agree on the tables agree on all whole numbers. -/
theorem zero_one (ps : List (Nat × Nat × Bool)) (n : Nat) (hk : netG Nat.land Nat.lor ps (tabs n) = insG Nat.land Nat.lor (tabs n)) (l : List Int) (hl : l.length = n) : netG mn mx ps l = insG mn mx l := by
  have hb : ∀ bs : List Bool, bs.length = n → netG and or ps bs = insG and or bs := by
    intro bs h
    obtain ⟨a, ha, hm⟩ := tabs_all n bs h
    have k1 : ∀ x y : Nat, (Nat.land x y).testBit a = (x.testBit a && y.testBit a) := fun x y => Nat.testBit_and x y a
    have k2 : ∀ x y : Nat, (Nat.lor x y).testBit a = (x.testBit a || y.testBit a) := fun x y => Nat.testBit_or x y a
    rw [← hm, ← netG_map (g := fun t : Nat => t.testBit a) k1 k2, ← insG_map (g := fun t : Nat => t.testBit a) k1 k2, hk]
  have hc : ∀ c : Int, (netG mn mx ps l).map (fun x => decide (c ≤ x)) = (insG mn mx l).map (fun x => decide (c ≤ x)) := by
    intro c
    have k1 : ∀ x y : Int, decide (c ≤ mn x y) = (decide (c ≤ x) && decide (c ≤ y)) := fun x y => by
      unfold mn; rw [Bool.eq_iff_iff]; split <;> simp <;> omega
    have k2 : ∀ x y : Int, decide (c ≤ mx x y) = (decide (c ≤ x) || decide (c ≤ y)) := fun x y => by
      unfold mx; rw [Bool.eq_iff_iff]; split <;> simp <;> omega
    rw [netG_map (g := fun x => decide (c ≤ x)) k1 k2, insG_map (g := fun x => decide (c ≤ x)) k1 k2]
    exact hb _ (by simpa using hl)
  have hlen : (netG mn mx ps l).length = (insG mn mx l).length := by have := congrArg List.length (hc 0); simpa using this
  refine List.ext_getElem hlen (fun i h1 h2 => ?_)
  have hi : ∀ c : Int, c ≤ (netG mn mx ps l)[i] ↔ c ≤ (insG mn mx l)[i] := by
    intro c
    have := congrArg (fun q => q[i]?) (hc c)
    simp only [List.getElem?_map, List.getElem?_eq_getElem h1, List.getElem?_eq_getElem h2, Option.map_some, Option.some.injEq] at this
    rw [Bool.eq_iff_iff] at this
    simpa using this
  have a1 := (hi (netG mn mx ps l)[i]).1 (Int.le_refl _)
  have a2 := (hi (insG mn mx l)[i]).2 (Int.le_refl _)
  omega

def ins (x : Int) : List Int → List Int
  | [] => [x]
  | y :: L => if y ≤ x then y :: ins x L else x :: y :: L
theorem ins_length (x : Int) : ∀ L, (ins x L).length = L.length + 1
  | [] => rfl
  | y :: L => by unfold ins; split <;> simp [ins_length x L]
theorem ins_mem (x : Int) : ∀ L z, z ∈ ins x L → z = x ∨ z ∈ L
  | [], z, h => by simp [ins] at h; exact Or.inl h
  | y :: L, z, h => by
    unfold ins at h
    split at h
    · rcases List.mem_cons.1 h with rfl | h
      · exact Or.inr (by simp)
      · rcases ins_mem x L z h with e | e
        · exact Or.inl e
        · exact Or.inr (by simp [e])
    · rcases List.mem_cons.1 h with rfl | h
      · exact Or.inl rfl
      · exact Or.inr h
theorem ins_sorted (x : Int) : ∀ L : List Int, L.Pairwise (· ≤ ·) → (ins x L).Pairwise (· ≤ ·)
  | [], _ => by simp [ins]
  | y :: L, h => by
    obtain ⟨h1, h2⟩ := List.pairwise_cons.1 h
    unfold ins
    split
    · refine List.pairwise_cons.2 ⟨fun z hz => ?_, ins_sorted x L h2⟩
      rcases ins_mem x L z hz with rfl | e
      · assumption
      · exact h1 z e
    · refine List.pairwise_cons.2 ⟨fun z hz => ?_, h⟩
      rcases List.mem_cons.1 hz with rfl | e
      · omega
      · have := h1 z e; omega
theorem ins_le (y : Int) : ∀ L : List Int, (∀ z ∈ L, y ≤ z) → ins y L = y :: L
  | [], _ => rfl
  | z :: L, h => by
    unfold ins
    split
    · have := h z (by simp)
      obtain rfl : z = y := by omega
      rw [ins_le z L (fun u hu => h u (by simp [hu]))]
    · rfl
theorem ins_bub : ∀ (L : List Int) (x : Int), L.Pairwise (· ≤ ·) → ins x L = bubG mn mx x L
  | [], x, _ => rfl
  | y :: L, x, h => by
    obtain ⟨h1, h2⟩ := List.pairwise_cons.1 h
    unfold ins bubG
    by_cases c : y ≤ x
    · rw [_root_.if_pos c, show mn y x = y by unfold mn; rw [_root_.if_neg (by omega)], show mx y x = x by unfold mx; split <;> omega, ins_bub L x h2]
    · rw [_root_.if_neg c, show mn y x = x by unfold mn; rw [_root_.if_pos (by omega)], show mx y x = y by unfold mx; rw [_root_.if_neg (by omega)], ← ins_bub L y h2, ins_le y L h1]
def insAll (l : List Int) (s : List Int) : List Int := l.foldl (fun s x => ins x s) s
theorem insAll_eq : ∀ (l s : List Int), s.Pairwise (· ≤ ·) → insAll l s = l.foldl (fun s x => bubG mn mx x s) s
  | [], s, _ => rfl
  | x :: l, s, h => by
    show insAll l (ins x s) = l.foldl _ (bubG mn mx x s)
    rw [insAll_eq l _ (ins_sorted x s h), ins_bub s x h]
theorem ins_at (x : Int) : ∀ (L : List Int) (p : Nat), p ≤ L.length → (∀ i (h : i < L.length), i < p → L[i] ≤ x) → (∀ h : p < L.length, x < L[p]) → ins x L = L.take p ++ (x :: L.drop p)
  | [], p, h, _, _ => by simp [ins]
  | y :: L, 0, _, _, h3 => by
    have := h3 (by simp)
    simp only [List.getElem_cons_zero] at this
    unfold ins
    rw [_root_.if_neg (by omega)]; rfl
  | y :: L, p + 1, h1, h2, h3 => by
    have := h2 0 (by simp) (by omega)
    simp only [List.getElem_cons_zero] at this
    unfold ins
    rw [_root_.if_pos this, ins_at x L p (by simpa using h1) (fun i hi hp => h2 (i + 1) (by simpa using hi) (by omega)) (fun hp => h3 (by simpa using hp))]
    rfl
theorem sort_spec (l : List Int) (hl : l.length ≤ 64) : Ev (fun k => spec_l10Sort.f k l) (insAll l []) := by
  have main : ∀ (d j : Nat) (s : List Int), j + d = l.length → s.length = j → Ev (fun k => spec_l10Sort.l0 k l s (j : Int)) (insAll (l.drop j) s) := by
    intro d
    induction d with
    | zero =>
      intro j s hj hs
      rw [List.drop_of_length_le (by omega)]
      exact Ev.step (fun k => spec_l10Sort.l0.eq_2 _ _ _ _) (Ev.if_neg (by omega) (Ev.now _))
    | succ d ih =>
      intro j s hj hs
      have hj' : j < l.length := by omega
      have hnext := ih (j + 1) (ins l[j] s) (by omega) (by rw [ins_length, hs])
      have hd : insAll (l.drop j) s = insAll (l.drop (j + 1)) (ins l[j] s) := by rw [List.drop_eq_getElem_cons hj']; rfl
      rw [hd]
      refine Ev.step (fun k => spec_l10Sort.l0.eq_2 _ _ _ _) (Ev.if_pos (by omega) ?_)
      have fin : ∀ p : Nat, p ≤ s.length → (∀ i (h : i < s.length), i < p → s[i] ≤ l[j]) → (∀ h : p < s.length, l[j] < s[p]) →
          Ev (fun k => ((some (([rd l (j : Int)] : List Int) : List Int)).bind fun y235 => (if (p : Int) ≤ (s.length : Int) then ((some (s.drop ((p : Int) : Int).toNat : List Int)).bind fun y238 => (if y235.length + y238.length < 17592186044416 then ((some (y235 ++ y238 : List Int)).bind fun y242 => ((spec_l00Own.f (s.take ((p : Int) : Int).toNat)).bind fun t249 => (if t249.length + y242.length < 17592186044416 then (spec_l10Sort.l0 k l (t249 ++ y242) (wrap64 ((j : Int) + 1))) else (none)))) else (none))) else (none))) ) (insAll (l.drop (j + 1)) (ins l[j] s)) := by
        intro p hp h1 h2
        rw [rd_at l j hj', w64 (x := (j : Int) + 1) (by omega) (by omega)]
        refine Ev.bind' rfl (Ev.if_pos (by omega) (Ev.bind' rfl (Ev.if_pos (by simp; omega) (Ev.bind' rfl (Ev.bind' (own_eq _ (by simp; omega)) (Ev.if_pos (by simp; omega) ?_))))))
        have e := ins_at l[j] s p hp h1 h2
        simp only [Int.toNat_natCast, List.singleton_append]
        rw [← e]
        exact hnext
      have inner : ∀ (e p : Nat), p + e = s.length → (∀ i (h : i < s.length), i < p → s[i] ≤ l[j]) → Ev (fun k => spec_l10Sort.l1 k l s (j : Int) (p : Int)) (insAll (l.drop (j + 1)) (ins l[j] s)) := by
        intro e
        induction e with
        | zero =>
          intro p hp h1
          refine Ev.step (fun k => spec_l10Sort.l1.eq_2 _ _ _ _ _) (Ev.if_neg (by omega) (Ev.if_pos (by omega) (Ev.if_pos (by omega) ?_)))
          have := fin p (by omega) h1 (fun h => by omega)
          exact Ev.congr (fun k => by simp only [show (0 ≤ (p : Int)) = True from eq_true (by omega), if_true]) this
        | succ e ih2 =>
          intro p hp h1
          have hp' : p < s.length := by omega
          refine Ev.step (fun k => spec_l10Sort.l1.eq_2 _ _ _ _ _) (Ev.if_pos (by omega) (Ev.if_pos (by omega) (Ev.if_pos (by omega) (Ev.if_pos (by omega) ?_))))
          by_cases c : s[p] ≤ l[j]
          · refine Ev.if_pos (by rw [rd_at s p hp', rd_at l j hj']; exact c) ?_
            rw [w64 (x := (p : Int) + 1) (by omega) (by omega)]
            exact ih2 (p + 1) (by omega) (fun i hi hip => by
              by_cases q : i = p
              · subst q; exact c
              · exact h1 i hi (by omega))
          · exact Ev.if_neg (by rw [rd_at s p hp', rd_at l j hj']; exact c) (fin p (by omega) h1 (fun h => by omega))
      exact inner s.length 0 (by omega) (fun i h hi => by omega)
  exact main l.length 0 [] (by omega) rfl

theorem Ev.of_mono {α : Type} {g : Nat → Option α} {r : α} {K : Nat} (hm : ∀ k, LeO (g k) (g (k + 1))) (h : g K = some r) : Ev g r := by
  refine ⟨K, fun k hk => ?_⟩
  obtain ⟨d, rfl⟩ : ∃ d, k = K + d := ⟨k - K, by omega⟩
  induction d with
  | zero => exact h
  | succ d ih => exact hm _ r (ih (by omega))
def stepsOf (n : Nat) : List S54 := (impl_sortSteps.f 60 (n : Int)).getD []
theorem steps_eq (n : Nat) (hn : n = 2 ∨ n = 4 ∨ n = 8 ∨ n = 16) : Ev (fun k => impl_sortSteps.f k (n : Int)) (stepsOf n) := by
  refine Ev.of_mono (K := 60) (fun k => impl_sortSteps.mono _ k) ?_
  rcases hn with rfl | rfl | rfl | rfl <;> kernel_rfl
def pairsAt (n : Nat) (s : S54) : List (Nat × Nat × Bool) := (List.range n).filterMap fun (j : Nat) => if Go.bits .and .i64 (j : Int) s.f0 = 0 then some (if Go.bits .and .i64 (j : Int) s.f1 = 0 then (j, j + s.f0.toNat, true) else (j, j + s.f0.toNat, false)) else none
def pairsOf (n : Nat) : List (Nat × Nat × Bool) := (stepsOf n).flatMap (pairsAt n)
def stepGood (n : Nat) (s : S54) : Bool := exGood n s.f0.toNat s.f1.toNat && (decide (0 ≤ s.f0) && (decide (s.f0 ≤ 16) && (decide (0 ≤ s.f1) && decide (s.f1 ≤ 16))))
theorem steps_good (n : Nat) (hn : n = 2 ∨ n = 4 ∨ n = 8 ∨ n = 16) : (stepsOf n).all (stepGood n) = true := by
  rcases hn with rfl | rfl | rfl | rfl <;> kernel_rfl
def exNet (n : Nat) (l : List Int) (s : S54) : List Int := exOf s.f0 s.f1 l
theorem steps2 : stepsOf 2 = [⟨1, 2⟩] := by kernel_rfl
theorem steps4 : stepsOf 4 = [⟨1, 2⟩, ⟨2, 4⟩, ⟨1, 4⟩] := by kernel_rfl
theorem steps8 : stepsOf 8 = [⟨1, 2⟩, ⟨2, 4⟩, ⟨1, 4⟩, ⟨4, 8⟩, ⟨2, 8⟩, ⟨1, 8⟩] := by kernel_rfl
theorem steps16 : stepsOf 16 = [⟨1, 2⟩, ⟨2, 4⟩, ⟨1, 4⟩, ⟨4, 8⟩, ⟨2, 8⟩, ⟨1, 8⟩, ⟨8, 16⟩, ⟨4, 16⟩, ⟨2, 16⟩, ⟨1, 16⟩] := by kernel_rfl
theorem one_step (n : Nat) (hn : n = 2 ∨ n = 4 ∨ n = 8 ∨ n = 16) (s : S54) (hs : s ∈ stepsOf n) (l : List Int) (hl : l.length = n) : exOf s.f0 s.f1 l = netG mn mx (pairsAt n s) l := by
  rcases hn with rfl | rfl | rfl | rfl
  · rw [steps2] at hs
    match l, hl with
    | [a, b], _ =>
      simp only [List.mem_cons, List.not_mem_nil, or_false] at hs
      subst hs; show exOf _ _ _ = _; kernel_rfl
  · rw [steps4] at hs
    match l, hl with
    | [a, b, c, d], _ =>
      simp only [List.mem_cons, List.not_mem_nil, or_false] at hs
      rcases hs with rfl | rfl | rfl <;> (show exOf _ _ _ = _; kernel_rfl)
  · rw [steps8] at hs
    match l, hl with
    | [a, b, c, d, e, f, g, h], _ =>
      simp only [List.mem_cons, List.not_mem_nil, or_false] at hs
      rcases hs with rfl | rfl | rfl | rfl | rfl | rfl <;> (show exOf _ _ _ = _; kernel_rfl)
  · rw [steps16] at hs
    match l, hl with
    | [a, b, c, d, e, f, g, h, a', b', c', d', e', f', g', h'], _ =>
      simp only [List.mem_cons, List.not_mem_nil, or_false] at hs
      rcases hs with rfl | rfl | rfl | rfl | rfl | rfl | rfl | rfl | rfl | rfl <;> (show exOf _ _ _ = _; kernel_rfl)
theorem fold_steps (n : Nat) (hn : n = 2 ∨ n = 4 ∨ n = 8 ∨ n = 16) : ∀ (ss : List S54), (∀ s ∈ ss, s ∈ stepsOf n) → ∀ l : List Int, l.length = n → ss.foldl (fun l s => exOf s.f0 s.f1 l) l = netG mn mx (ss.flatMap (pairsAt n)) l := by
  intro ss
  induction ss with
  | nil => intro _ l _; rfl
  | cons s ss ih =>
    intro hs l hl
    rw [List.foldl_cons, List.flatMap_cons, ih (fun x hx => hs x (by simp [hx])) _ (by rw [exOf_length]; exact hl), one_step n hn s (hs s (by simp)) l hl]
    simp only [netG, List.foldl_append]
theorem tables2 : netG Nat.land Nat.lor (pairsOf 2) (tabs 2) = insG Nat.land Nat.lor (tabs 2) := of_decide_eq_true (by kernel_rfl)
theorem tables4 : netG Nat.land Nat.lor (pairsOf 4) (tabs 4) = insG Nat.land Nat.lor (tabs 4) := of_decide_eq_true (by kernel_rfl)
theorem tables8 : netG Nat.land Nat.lor (pairsOf 8) (tabs 8) = insG Nat.land Nat.lor (tabs 8) := of_decide_eq_true (by kernel_rfl)
theorem tables16 : netG Nat.land Nat.lor (pairsOf 16) (tabs 16) = insG Nat.land Nat.lor (tabs 16) := of_decide_eq_true (by kernel_rfl)
theorem sorted_same (n : Nat) (hn : n = 2 ∨ n = 4 ∨ n = 8 ∨ n = 16) (l : List Int) (hl : l.length = n) : (stepsOf n).foldl (fun l s => exOf s.f0 s.f1 l) l = insAll l [] := by
  rw [fold_steps n hn _ (fun s h => h) l hl, insAll_eq l [] List.Pairwise.nil]
  have := zero_one (pairsOf n) n (by
    rcases hn with rfl | rfl | rfl | rfl
    · exact tables2
    · exact tables4
    · exact tables8
    · exact tables16) l hl
  exact this
theorem sort_go (n : Nat) (hn : n = 2 ∨ n = 4 ∨ n = 8 ∨ n = 16) (ss : List S54) (hss : ss.length ≤ 64) (hg : ∀ s ∈ ss, stepGood n s = true) :
    ∀ (d j : Nat) (l : List Int), j + d = ss.length → l.length = n → Ev (fun k => impl_SortLanes.l0 k l ss (ss.length : Int) (j : Int)) ((ss.drop j).foldl (fun l s => exOf s.f0 s.f1 l) l, true) := by
  intro d
  induction d with
  | zero =>
    intro j l hj hl
    rw [List.drop_of_length_le (by omega)]
    exact Ev.step (fun k => impl_SortLanes.l0.eq_2 _ _ _ _ _) (Ev.if_neg (by omega) (Ev.now _))
  | succ d ih =>
    intro j l hj hl
    have hj' : j < ss.length := by omega
    rw [List.drop_eq_getElem_cons hj', List.foldl_cons]
    refine Ev.step (fun k => impl_SortLanes.l0.eq_2 _ _ _ _ _) (Ev.if_pos (by omega) (Ev.if_pos (by omega) (Ev.if_pos (by omega) ?_)))
    have hr : rd_T54 ss (j : Int) = ss[j] := by
      unfold rd_T54
      simp [List.getD_eq_getElem?_getD, List.getElem?_eq_getElem hj']
    have h := hg ss[j] (List.getElem_mem hj')
    simp only [stepGood, Bool.and_eq_true, decide_eq_true_eq] at h
    obtain ⟨g, a1, a2, b1, b2⟩ := h
    rw [hr, w64 (x := (j : Int) + 1) (by omega) (by omega)]
    have q := exchange_impl n ss[j].f0.toNat ss[j].f1.toNat l hl (by omega) (by omega) (by omega) (by omega) g
    rw [show ((ss[j].f0.toNat : Nat) : Int) = ss[j].f0 by omega, show ((ss[j].f1.toNat : Nat) : Int) = ss[j].f1 by omega] at q
    exact Ev.bind q (ih (j + 1) _ (by omega) (by rw [exOf_length]; exact hl))
theorem SortLanes_ex (b : Int) (l : List Int) (hl : l.length ≤ 1048576) : ∃ r : List Int × Bool, r.1.length ≤ 4611686018427387904 ∧ Ev (fun k => spec_SortLanes.f k b l) r ∧ Ev (fun k => impl_SortLanes.f k b l) r := by
  by_cases hv : vecB b l = true
  · have hn := vec_lanes hv
    have hs := sorted_same l.length hn l rfl
    have hlen : (insAll l []).length = l.length := by
      rw [← hs, fold_steps l.length hn _ (fun s h => h) l rfl, netG_length]
    refine ⟨(insAll l [], true), by show (insAll l []).length ≤ _; omega, ?_, ?_⟩
    · unfold spec_SortLanes.f
      exact Ev.bind (vec_eq b l (by omega)) (Ev.if_pos hv (Ev.bind (sort_spec l (by omega)) (Ev.now _)))
    · unfold impl_SortLanes.f
      have hss : (stepsOf l.length).length ≤ 64 := by rcases hn with h | h | h | h <;> rw [h] <;> exact of_decide_eq_true (by kernel_rfl)
      refine Ev.bind' (a := true) (by show some (vecB b l) = _; rw [hv]) (Ev.if_pos rfl (Ev.bind' (a := l) (by unfold slices_Clone_int64_int64.f; rw [_root_.if_pos (by omega)]) (Ev.bind' (a := (l.length : Int)) rfl (Ev.bind (steps_eq l.length hn) ?_))))
      have := sort_go l.length hn (stepsOf l.length) hss (fun s h => List.all_eq_true.1 (steps_good l.length hn) s h) (stepsOf l.length).length 0 l (by omega) rfl
      rw [List.drop_zero, hs] at this
      exact this
  · refine ⟨([], false), by simp, ?_, ?_⟩
    · unfold spec_SortLanes.f
      exact Ev.bind (vec_eq b l (by omega)) (Ev.if_neg hv (Ev.now _))
    · unfold impl_SortLanes.f
      exact Ev.bind' (a := vecB b l) rfl (Ev.if_neg hv (Ev.now _))

end Go.Proofs.Ytpfoeologjacfaa.E
