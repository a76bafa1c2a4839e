/- Plain lemmas that the proof of FnExactCountInBlock leans on. -/
import Derived.Test.YtocelalollkadaaQ0
import Derived.Test.YtocelalollkadaaQ1
import Derived.Test.YtocelalollkadaaQ2
import Derived.Test.YtocelalollkadaaQ4
import Derived.Test.YtocelalollkadaaQ6
import Derived.Test.YtocelalollkadaaQ7
namespace Go.Proofs.Ytocelalollkadaa.Q
open Go.RowKit Go.Proofs.YtocelalollkadaaW.PrintWords Go.Proofs.YtocelalollkadaaW.PrintLast Go.Proofs.YtocelalollkadaaW.PrintMore
set_option linter.unusedVariables false
set_option linter.unusedSimpArgs false

theorem w64 {x : Int} (h0 : -9223372036854775808 ≤ x) (h1 : x ≤ 9223372036854775807) : wrap64 x = x := by unfold wrap64; omega
theorem rd_at (l : List Int) (j : Nat) (h : j < l.length) : rd l (j : Int) = l[j] := by
  unfold rd
  rw [Int.toNat_natCast]; simp [List.getD_eq_getElem?_getD, h]

theorem Ev.if_pos {α : Type} {c : Prop} [Decidable c] {g f : Nat → Option α} {r : α} (h : c) (k : Ev g r) : Ev (fun n => if c then g n else f n) r := Ev.congr (fun n => _root_.if_pos h) k
theorem Ev.if_neg {α : Type} {c : Prop} [Decidable c] {g f : Nat → Option α} {r : α} (h : ¬ c) (k : Ev f r) : Ev (fun n => if c then g n else f n) r := Ev.congr (fun n => _root_.if_neg h) k
theorem Ev.bind' {α β : Type} {g : Option α} {f : Nat → α → Option β} {a : α} {r : β} (h : g = some a) (k : Ev (fun n => f n a) r) : Ev (fun n => g.bind (f n)) r := Ev.congr (fun n => by rw [h]; rfl) k
theorem Ev.some' {α : Type} {a r : α} (h : a = r) : Ev (fun _ => some a) r := h ▸ Ev.now a

theorem eqEv (l : List Int) (hl : l.length ≤ 4611686018427387904) : Ev (fun k => laws_eqInt64S.f k l l) true := by
  have key : ∀ d j, j + d = l.length → Ev (fun k => laws_eqInt64S.l0 k l l (j : Int)) true := by
    intro d
    induction d with
    | zero =>
      intro j hj
      exact Ev.step (f := fun _ => some true) (fun k => by simp only [laws_eqInt64S.l0]; rw [_root_.if_neg (by omega)]) (Ev.now _)
    | succ d ih =>
      intro j hj
      refine Ev.step (f := fun k => laws_eqInt64S.l0 k l l ((j + 1 : Nat) : Int)) (fun k => ?_) (ih (j + 1) (by omega))
      simp only [laws_eqInt64S.l0]
      rw [_root_.if_pos (by omega), _root_.if_pos (by omega), _root_.if_pos (by omega), w64 (by omega) (by omega)]
      rfl
  exact Ev.congr (fun k => by unfold laws_eqInt64S.f; rw [_root_.if_pos rfl]; rfl) (key l.length 0 (by omega))

theorem toEv (l : List Int) (hl : l.length ≤ 1048576) : Ev (fun k => laws_toInt64S.f k l) l := by
  have key : ∀ d j, j + d = l.length → Ev (fun k => laws_toInt64S.l0 k l (l.take j ++ List.replicate d 0) (j : Int)) l := by
    intro d
    induction d with
    | zero =>
      intro j hj
      obtain rfl : j = l.length := by omega
      refine Ev.step (f := fun _ => some l) (fun k => ?_) (Ev.now _)
      simp only [laws_toInt64S.l0]
      rw [_root_.if_neg (by omega)]
      simp
    | succ d ih =>
      intro j hj
      refine Ev.step (f := fun k => laws_toInt64S.l0 k l (l.take (j + 1) ++ List.replicate d 0) ((j + 1 : Nat) : Int)) (fun k => ?_) (ih (j + 1) (by omega))
      simp only [laws_toInt64S.l0]
      rw [_root_.if_pos (by omega), _root_.if_pos (by omega), _root_.if_pos (by simp; omega), w64 (by omega) (by omega), rd_at _ _ (by omega)]
      have e : (l.take j ++ List.replicate (d + 1) 0).set (j : Int).toNat l[j] = l.take (j + 1) ++ List.replicate d 0 := by
        rw [Int.toNat_natCast, List.set_append_right _ _ (by simp; omega), List.length_take, Nat.min_eq_left (by omega), Nat.sub_self, List.replicate_succ, List.set_cons_zero, List.take_succ_eq_append_getElem (by omega), List.append_assoc]
        rfl
      rw [e]; rfl
  refine Ev.congr (fun k => ?_) (key l.length 0 (by omega))
  unfold laws_toInt64S.f
  simp
  omega

/-- A loop over a list that may end early. -/
def goLoop {σ β : Type} (f : σ → Int → Nat → β ⊕ σ) (fin : σ → β) : σ → List Int → Nat → β
  | s, [], _ => fin s
  | s, x :: xs, j => match f s x j with
    | .inl r => r
    | .inr s' => goLoop f fin s' xs (j + 1)
theorem loopEv {σ β : Type} (l : List Int) (g : Nat → σ → Int → Option β) (f : σ → Int → Nat → β ⊕ σ) (fin : σ → β) (Inv : σ → Nat → Prop)
    (h0 : ∀ k s, Inv s l.length → g (k + 1) s (l.length : Int) = some (fin s))
    (h1 : ∀ k s (j : Nat) (h : j < l.length), Inv s j → g (k + 1) s (j : Int) = match f s l[j] j with | .inl r => some r | .inr s' => g k s' ((j + 1 : Nat) : Int))
    (hI : ∀ s (j : Nat) (h : j < l.length) s', Inv s j → f s l[j] j = .inr s' → Inv s' (j + 1)) (s : σ) (hs : Inv s 0) :
    Ev (fun k => g k s 0) (goLoop f fin s l 0) := by
  have key : ∀ d j s, j + d = l.length → Inv s j → Ev (fun k => g k s (j : Int)) (goLoop f fin s (l.drop j) j) := by
    intro d
    induction d with
    | zero =>
      intro j s hj hs
      obtain rfl : j = l.length := by omega
      rw [List.drop_length]
      exact Ev.step (f := fun _ => some (fin s)) (fun k => h0 k s hs) (Ev.now _)
    | succ d ih =>
      intro j s hj hs
      have hlt : j < l.length := by omega
      rw [List.drop_eq_getElem_cons hlt]
      unfold goLoop
      cases hf : f s l[j] j with
      | inl r => exact Ev.step (f := fun _ => some r) (fun k => by rw [h1 k s j hlt hs, hf]) (Ev.now _)
      | inr s' => exact Ev.step (f := fun k => g k s' ((j + 1 : Nat) : Int)) (fun k => by rw [h1 k s j hlt hs, hf]) (ih (j + 1) s' (by omega) (hI s j hlt s' hs hf))
  simpa using key l.length 0 s (by omega) hs

theorem goLoop_all {β : Type} (p : Int → Bool) (bad : β) (fin : β) (l : List Int) : ∀ j,
    goLoop (σ := Unit) (fun _ x _ => if p x = true then .inr () else .inl bad) (fun _ => fin) () l j = if l.all p = true then fin else bad := by
  induction l with
  | nil => intro j; simp [goLoop]
  | cons x xs ih =>
    intro j
    unfold goLoop
    by_cases h : p x = true
    · simp [h, ih (j + 1)]
    · simp [h]

theorem in_eq (a b c : Int) : spec_l00In.f a b c = some (inB a b c) := by
  unfold spec_l00In.f inB
  by_cases h : b ≤ a
  · rw [_root_.if_pos h]; simp [h]
  · rw [_root_.if_neg (by omega)]; simp [h]

theorem lanes_eq (a : Int) : spec_l02Lanes.f a = some (lanesB a) := by
  unfold spec_l02Lanes.f lanesB
  by_cases h2 : a = 2
  · subst h2; rfl
  by_cases h4 : a = 4
  · subst h4; rfl
  by_cases h8 : a = 8
  · subst h8; rfl
  rw [_root_.if_neg h2, _root_.if_neg h4, _root_.if_neg h8, beq_eq_false_iff_ne.2 h2, beq_eq_false_iff_ne.2 h4, beq_eq_false_iff_ne.2 h8]
  rfl

theorem bits_eq (a : Int) : spec_l01Bits.f a = some (bitsB a) := by
  unfold spec_l01Bits.f bitsB
  by_cases h4 : a = 4
  · subst h4; rfl
  by_cases h8 : a = 8
  · subst h8; rfl
  rw [_root_.if_neg h4, _root_.if_neg h8, beq_eq_false_iff_ne.2 h4, beq_eq_false_iff_ne.2 h8]
  rfl

theorem two_eq {b : Int} (h : bitsB b = true) : 0 ≤ IntKind.u64.wrap b ∧ wrap64 (shl .i64 1 (IntKind.u64.wrap b) - 1) = 2 ^ b.toNat - 1 ∧ wrap64 (shl .i64 1 b - 1) = 2 ^ b.toNat - 1 := by
  rcases bits_cases h with rfl | rfl | rfl <;> decide +kernel

theorem word_eq (b x : Int) : spec_l01Word.f b x = some (wordB b x) := by
  unfold spec_l01Word.f wordB
  rw [bits_eq]
  simp only [Option.bind_some]
  by_cases h : bitsB b = true
  · rw [_root_.if_pos h, _root_.if_pos (two_eq h).1, (two_eq h).2.1, in_eq, h]; rfl
  · rw [_root_.if_neg h]
    have : bitsB b = false := by simpa using h
    rw [this]; rfl

theorem words_eq (b : Int) (l : List Int) (hl : l.length ≤ 1048577) : Ev (fun k => spec_l01Words.f k b l) (bitsB b && l.all (wordB b)) := by
  have h := loopEv (σ := Unit) (β := Bool) l (fun k _ i => spec_l01Words.l0 k b l i) (fun _ x _ => if wordB b x = true then .inr () else .inl false) (fun _ => bitsB b) (fun _ _ => True)
    (fun k s _ => by simp only [spec_l01Words.l0]; rw [_root_.if_neg (by omega), bits_eq]; rfl)
    (fun k s j hj _ => by
      simp only [spec_l01Words.l0]
      rw [_root_.if_pos (by omega), _root_.if_pos (by omega), rd_at _ _ hj, word_eq]
      simp only [Option.bind_some]
      by_cases h : wordB b l[j] = true
      · rw [_root_.if_pos h, _root_.if_pos h, w64 (by omega) (by omega)]; rfl
      · rw [_root_.if_neg h, _root_.if_neg h])
    (fun _ _ _ _ _ _ => trivial) () trivial
  rw [goLoop_all] at h
  unfold spec_l01Words.f
  have e : (bitsB b && l.all (wordB b)) = (if l.all (wordB b) = true then bitsB b else false) := by
    by_cases h : l.all (wordB b) = true <;> simp [h]
  rw [e]; exact h

theorem block_eq (b n : Int) (l : List Int) (hl : l.length ≤ 1048577) : Ev (fun k => spec_l10Block.f k b n l) (blockB b n l) := by
  unfold spec_l10Block.f blockB
  refine Ev.bind' (lanes_eq n) ?_
  by_cases h1 : lanesB n = true
  · refine Ev.if_pos h1 ?_
    by_cases h2 : (l.length : Int) ≤ 64
    · refine Ev.if_pos h2 (Ev.bind' (bits_eq b) ?_)
      by_cases h3 : bitsB b = true
      · refine Ev.if_pos h3 (Ev.bind (words_eq b l hl) ?_)
        exact Ev.some' (by simp [h1, h2, h3])
      · exact Ev.if_neg h3 (Ev.some' (by simp [h3]))
    · exact Ev.if_neg h2 (Ev.some' (by simp [h2]))
  · exact Ev.if_neg h1 (Ev.some' (by simp [h1]))

/-- Both come to one answer. -/
def Both {α : Type} (g f : Nat → Option α) : Prop := ∃ r, Ev g r ∧ Ev f r

theorem CountInBlock_ex (b n : Int) (l : List Int) (x : Int) (hl : l.length ≤ 1048576) : Both (fun k => spec_CountInBlock.f k b n l x) (fun k => impl_CountInBlock.f k b n l x) := by
  unfold spec_CountInBlock.f impl_CountInBlock.f
  by_cases h : blockB b n l = true
  · by_cases h2 : wordB b x = true
    · refine ⟨goLoop (β := Int × Bool) (fun s y _ => .inr (if y = x then wrap64 (s + 1) else s)) (fun s => (s, true)) 0 l 0, Ev.bind (block_eq b n l (by omega)) (Ev.if_pos h (Ev.bind' (word_eq b x) ?_)), Ev.bind' (a := blockB b n l) rfl (Ev.if_pos h (Ev.bind' (a := wordB b x) rfl ?_))⟩
      · refine Ev.step (fun k => spec_CountInBlock.j0.eq_2 _ _ _ _) (Ev.if_neg (by simp [h2]) ?_)
        exact loopEv l (fun k s i => spec_CountInBlock.l0 k l x s i) _ _ (fun _ _ => True)
          (fun k s _ => by simp only [spec_CountInBlock.l0]; rw [_root_.if_neg (by omega)])
          (fun k s j hj _ => by
            simp only [spec_CountInBlock.l0]
            rw [_root_.if_pos (by omega), _root_.if_pos (by omega), rd_at _ _ hj, w64 (x := (j : Int) + 1) (by omega) (by omega)]
            split <;> rfl)
          (fun _ _ _ _ _ _ => trivial) 0 trivial
      · refine Ev.step (fun k => impl_CountInBlock.j0.eq_2 _ _ _ _) (Ev.if_neg (by simp [h2]) ?_)
        exact loopEv l (fun k s i => impl_CountInBlock.l0 k x s l (l.length : Int) i) _ _ (fun _ _ => True)
          (fun k s _ => by simp only [impl_CountInBlock.l0]; rw [_root_.if_neg (by omega)])
          (fun k s j hj _ => by
            simp only [impl_CountInBlock.l0]
            rw [_root_.if_pos (by omega), _root_.if_pos (by omega), _root_.if_pos (by omega), rd_at _ _ hj, w64 (x := (j : Int) + 1) (by omega) (by omega)]
            split <;> rfl)
          (fun _ _ _ _ _ _ => trivial) 0 trivial
    · refine ⟨(0, false), Ev.bind (block_eq b n l (by omega)) (Ev.if_pos h (Ev.bind' (word_eq b x) ?_)), Ev.bind' (a := blockB b n l) rfl (Ev.if_pos h (Ev.bind' (a := wordB b x) rfl ?_))⟩
      · exact Ev.step (fun k => spec_CountInBlock.j0.eq_2 _ _ _ _) (Ev.if_pos (by simp [h2]) (Ev.now _))
      · exact Ev.step (fun k => impl_CountInBlock.j0.eq_2 _ _ _ _) (Ev.if_pos (by simp [h2]) (Ev.now _))
  · refine ⟨(0, false), Ev.bind (block_eq b n l (by omega)) (Ev.if_neg h ?_), Ev.bind' (a := blockB b n l) rfl (Ev.if_neg h ?_)⟩
    · exact Ev.step (fun k => spec_CountInBlock.j0.eq_2 _ _ _ _) (Ev.if_pos rfl (Ev.now _))
    · exact Ev.step (fun k => impl_CountInBlock.j0.eq_2 _ _ _ _) (Ev.if_pos rfl (Ev.now _))

end Go.Proofs.Ytocelalollkadaa.Q
