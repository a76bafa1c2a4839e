/- Plain lemmas that the proof of FnExactLeastLane leans on. -/
import Derived.Test.YtocelalollkadaaQ0
import Derived.Test.YtocelalollkadaaQ1
import Derived.Test.YtocelalollkadaaQ10
import Derived.Test.YtocelalollkadaaQ2
import Derived.Test.YtocelalollkadaaQ4
import Derived.Test.YtocelalollkadaaQ6
import Derived.Test.YtocelalollkadaaQ7
namespace Go.Proofs.Ytocelalollkadaa.Q
open Go.RowKit Go.Proofs.YtocelalollkadaaW.PrintWords Go.Proofs.YtocelalollkadaaW.PrintLast Go.Proofs.YtocelalollkadaaW.PrintMore
set_option linter.unusedVariables false
set_option linter.unusedSimpArgs false

theorem w64 {x : Int} (h0 : -9223372036854775808 ≤ x) (h1 : x ≤ 9223372036854775807) : wrap64 x = x := by unfold wrap64; omega
theorem rd_at (l : List Int) (j : Nat) (h : j < l.length) : rd l (j : Int) = l[j] := by
  unfold rd
  rw [Int.toNat_natCast]; simp [List.getD_eq_getElem?_getD, h]

theorem Ev.if_pos {α : Type} {c : Prop} [Decidable c] {g f : Nat → Option α} {r : α} (h : c) (k : Ev g r) : Ev (fun n => if c then g n else f n) r := Ev.congr (fun n => _root_.if_pos h) k
theorem Ev.if_neg {α : Type} {c : Prop} [Decidable c] {g f : Nat → Option α} {r : α} (h : ¬ c) (k : Ev f r) : Ev (fun n => if c then g n else f n) r := Ev.congr (fun n => _root_.if_neg h) k
theorem Ev.bind' {α β : Type} {g : Option α} {f : Nat → α → Option β} {a : α} {r : β} (h : g = some a) (k : Ev (fun n => f n a) r) : Ev (fun n => g.bind (f n)) r := Ev.congr (fun n => by rw [h]; rfl) k
theorem Ev.some' {α : Type} {a r : α} (h : a = r) : Ev (fun _ => some a) r := h ▸ Ev.now a

theorem eqEv (l : List Int) (hl : l.length ≤ 4611686018427387904) : Ev (fun k => laws_eqInt64S.f k l l) true := by
  have key : ∀ d j, j + d = l.length → Ev (fun k => laws_eqInt64S.l0 k l l (j : Int)) true := by
    intro d
    induction d with
    | zero =>
      intro j hj
      exact Ev.step (f := fun _ => some true) (fun k => by simp only [laws_eqInt64S.l0]; rw [_root_.if_neg (by omega)]) (Ev.now _)
    | succ d ih =>
      intro j hj
      refine Ev.step (f := fun k => laws_eqInt64S.l0 k l l ((j + 1 : Nat) : Int)) (fun k => ?_) (ih (j + 1) (by omega))
      simp only [laws_eqInt64S.l0]
      rw [_root_.if_pos (by omega), _root_.if_pos (by omega), _root_.if_pos (by omega), w64 (by omega) (by omega)]
      rfl
  exact Ev.congr (fun k => by unfold laws_eqInt64S.f; rw [_root_.if_pos rfl]; rfl) (key l.length 0 (by omega))

theorem toEv (l : List Int) (hl : l.length ≤ 1048576) : Ev (fun k => laws_toInt64S.f k l) l := by
  have key : ∀ d j, j + d = l.length → Ev (fun k => laws_toInt64S.l0 k l (l.take j ++ List.replicate d 0) (j : Int)) l := by
    intro d
    induction d with
    | zero =>
      intro j hj
      obtain rfl : j = l.length := by omega
      refine Ev.step (f := fun _ => some l) (fun k => ?_) (Ev.now _)
      simp only [laws_toInt64S.l0]
      rw [_root_.if_neg (by omega)]
      simp
    | succ d ih =>
      intro j hj
      refine Ev.step (f := fun k => laws_toInt64S.l0 k l (l.take (j + 1) ++ List.replicate d 0) ((j + 1 : Nat) : Int)) (fun k => ?_) (ih (j + 1) (by omega))
      simp only [laws_toInt64S.l0]
      rw [_root_.if_pos (by omega), _root_.if_pos (by omega), _root_.if_pos (by simp; omega), w64 (by omega) (by omega), rd_at _ _ (by omega)]
      have e : (l.take j ++ List.replicate (d + 1) 0).set (j : Int).toNat l[j] = l.take (j + 1) ++ List.replicate d 0 := by
        rw [Int.toNat_natCast, List.set_append_right _ _ (by simp; omega), List.length_take, Nat.min_eq_left (by omega), Nat.sub_self, List.replicate_succ, List.set_cons_zero, List.take_succ_eq_append_getElem (by omega), List.append_assoc]
        rfl
      rw [e]; rfl
  refine Ev.congr (fun k => ?_) (key l.length 0 (by omega))
  unfold laws_toInt64S.f
  simp
  omega

/-- A loop over a list that may end early. -/
def goLoop {σ β : Type} (f : σ → Int → Nat → β ⊕ σ) (fin : σ → β) : σ → List Int → Nat → β
  | s, [], _ => fin s
  | s, x :: xs, j => match f s x j with
    | .inl r => r
    | .inr s' => goLoop f fin s' xs (j + 1)
theorem loopEv {σ β : Type} (l : List Int) (g : Nat → σ → Int → Option β) (f : σ → Int → Nat → β ⊕ σ) (fin : σ → β) (Inv : σ → Nat → Prop)
    (h0 : ∀ k s, Inv s l.length → g (k + 1) s (l.length : Int) = some (fin s))
    (h1 : ∀ k s (j : Nat) (h : j < l.length), Inv s j → g (k + 1) s (j : Int) = match f s l[j] j with | .inl r => some r | .inr s' => g k s' ((j + 1 : Nat) : Int))
    (hI : ∀ s (j : Nat) (h : j < l.length) s', Inv s j → f s l[j] j = .inr s' → Inv s' (j + 1)) (s : σ) (hs : Inv s 0) :
    Ev (fun k => g k s 0) (goLoop f fin s l 0) := by
  have key : ∀ d j s, j + d = l.length → Inv s j → Ev (fun k => g k s (j : Int)) (goLoop f fin s (l.drop j) j) := by
    intro d
    induction d with
    | zero =>
      intro j s hj hs
      obtain rfl : j = l.length := by omega
      rw [List.drop_length]
      exact Ev.step (f := fun _ => some (fin s)) (fun k => h0 k s hs) (Ev.now _)
    | succ d ih =>
      intro j s hj hs
      have hlt : j < l.length := by omega
      rw [List.drop_eq_getElem_cons hlt]
      unfold goLoop
      cases hf : f s l[j] j with
      | inl r => exact Ev.step (f := fun _ => some r) (fun k => by rw [h1 k s j hlt hs, hf]) (Ev.now _)
      | inr s' => exact Ev.step (f := fun k => g k s' ((j + 1 : Nat) : Int)) (fun k => by rw [h1 k s j hlt hs, hf]) (ih (j + 1) s' (by omega) (hI s j hlt s' hs hf))
  simpa using key l.length 0 s (by omega) hs

theorem loopEvAt {σ β : Type} (l : List Int) (g : Nat → σ → Int → Option β) (f : σ → Int → Nat → β ⊕ σ) (fin : σ → β) (Inv : σ → Nat → Prop)
    (h0 : ∀ k s, Inv s l.length → g (k + 1) s (l.length : Int) = some (fin s))
    (h1 : ∀ k s (j : Nat) (h : j < l.length), Inv s j → g (k + 1) s (j : Int) = match f s l[j] j with | .inl r => some r | .inr s' => g k s' ((j + 1 : Nat) : Int))
    (hI : ∀ s (j : Nat) (h : j < l.length) s', Inv s j → f s l[j] j = .inr s' → Inv s' (j + 1)) (s : σ) (j0 : Nat) (hj0 : j0 ≤ l.length) (hs : Inv s j0) :
    Ev (fun k => g k s (j0 : Int)) (goLoop f fin s (l.drop j0) j0) := by
  have key : ∀ d j s, j + d = l.length → Inv s j → Ev (fun k => g k s (j : Int)) (goLoop f fin s (l.drop j) j) := by
    intro d
    induction d with
    | zero =>
      intro j s hj hs
      obtain rfl : j = l.length := by omega
      rw [List.drop_length]
      exact Ev.step (f := fun _ => some (fin s)) (fun k => h0 k s hs) (Ev.now _)
    | succ d ih =>
      intro j s hj hs
      have hlt : j < l.length := by omega
      rw [List.drop_eq_getElem_cons hlt]
      unfold goLoop
      cases hf : f s l[j] j with
      | inl r => exact Ev.step (f := fun _ => some r) (fun k => by rw [h1 k s j hlt hs, hf]) (Ev.now _)
      | inr s' => exact Ev.step (f := fun k => g k s' ((j + 1 : Nat) : Int)) (fun k => by rw [h1 k s j hlt hs, hf]) (ih (j + 1) s' (by omega) (hI s j hlt s' hs hf))
  exact key (l.length - j0) j0 s (by omega) hs

/-- What holds of a loop's answer. -/
theorem goLoop_post {σ β : Type} {f : σ → Int → Nat → β ⊕ σ} {fin : σ → β} (l : List Int) (Inv : σ → Nat → Prop) (Post : β → Prop)
    (hfin : ∀ s, Inv s l.length → Post (fin s)) (hout : ∀ s (j : Nat) (h : j < l.length) r, Inv s j → f s l[j] j = .inl r → Post r)
    (hI : ∀ s (j : Nat) (h : j < l.length) s', Inv s j → f s l[j] j = .inr s' → Inv s' (j + 1)) (s : σ) (j0 : Nat) (hj0 : j0 ≤ l.length) (hs : Inv s j0) :
    Post (goLoop f fin s (l.drop j0) j0) := by
  have key : ∀ d j s, j + d = l.length → Inv s j → Post (goLoop f fin s (l.drop j) j) := by
    intro d
    induction d with
    | zero =>
      intro j s hj hs
      obtain rfl : j = l.length := by omega
      rw [List.drop_length]
      exact hfin s hs
    | succ d ih =>
      intro j s hj hs
      have hlt : j < l.length := by omega
      rw [List.drop_eq_getElem_cons hlt]
      unfold goLoop
      cases hf : f s l[j] j with
      | inl r => exact hout s j hlt r hs hf
      | inr s' => exact ih (j + 1) s' (by omega) (hI s j hlt s' hs hf)
  exact key (l.length - j0) j0 s (by omega) hs

theorem goLoop_all {β : Type} (p : Int → Bool) (bad : β) (fin : β) (l : List Int) : ∀ j,
    goLoop (σ := Unit) (fun _ x _ => if p x = true then .inr () else .inl bad) (fun _ => fin) () l j = if l.all p = true then fin else bad := by
  induction l with
  | nil => intro j; simp [goLoop]
  | cons x xs ih =>
    intro j
    unfold goLoop
    by_cases h : p x = true
    · simp [h, ih (j + 1)]
    · simp [h]

theorem in_eq (a b c : Int) : spec_l00In.f a b c = some (inB a b c) := by
  unfold spec_l00In.f inB
  by_cases h : b ≤ a
  · rw [_root_.if_pos h]; simp [h]
  · rw [_root_.if_neg (by omega)]; simp [h]

theorem lanes_eq (a : Int) : spec_l02Lanes.f a = some (lanesB a) := by
  unfold spec_l02Lanes.f lanesB
  by_cases h2 : a = 2
  · subst h2; rfl
  by_cases h4 : a = 4
  · subst h4; rfl
  by_cases h8 : a = 8
  · subst h8; rfl
  rw [_root_.if_neg h2, _root_.if_neg h4, _root_.if_neg h8, beq_eq_false_iff_ne.2 h2, beq_eq_false_iff_ne.2 h4, beq_eq_false_iff_ne.2 h8]
  rfl

theorem bits_eq (a : Int) : spec_l01Bits.f a = some (bitsB a) := by
  unfold spec_l01Bits.f bitsB
  by_cases h4 : a = 4
  · subst h4; rfl
  by_cases h8 : a = 8
  · subst h8; rfl
  rw [_root_.if_neg h4, _root_.if_neg h8, beq_eq_false_iff_ne.2 h4, beq_eq_false_iff_ne.2 h8]
  rfl

theorem two_eq {b : Int} (h : bitsB b = true) : 0 ≤ IntKind.u64.wrap b ∧ wrap64 (shl .i64 1 (IntKind.u64.wrap b) - 1) = 2 ^ b.toNat - 1 ∧ wrap64 (shl .i64 1 b - 1) = 2 ^ b.toNat - 1 := by
  rcases bits_cases h with rfl | rfl | rfl <;> decide +kernel

theorem word_eq (b x : Int) : spec_l01Word.f b x = some (wordB b x) := by
  unfold spec_l01Word.f wordB
  rw [bits_eq]
  simp only [Option.bind_some]
  by_cases h : bitsB b = true
  · rw [_root_.if_pos h, _root_.if_pos (two_eq h).1, (two_eq h).2.1, in_eq, h]; rfl
  · rw [_root_.if_neg h]
    have : bitsB b = false := by simpa using h
    rw [this]; rfl

theorem words_eq (b : Int) (l : List Int) (hl : l.length ≤ 1048577) : Ev (fun k => spec_l01Words.f k b l) (bitsB b && l.all (wordB b)) := by
  have h := loopEv (σ := Unit) (β := Bool) l (fun k _ i => spec_l01Words.l0 k b l i) (fun _ x _ => if wordB b x = true then .inr () else .inl false) (fun _ => bitsB b) (fun _ _ => True)
    (fun k s _ => by simp only [spec_l01Words.l0]; rw [_root_.if_neg (by omega), bits_eq]; rfl)
    (fun k s j hj _ => by
      simp only [spec_l01Words.l0]
      rw [_root_.if_pos (by omega), _root_.if_pos (by omega), rd_at _ _ hj, word_eq]
      simp only [Option.bind_some]
      by_cases h : wordB b l[j] = true
      · rw [_root_.if_pos h, _root_.if_pos h, w64 (by omega) (by omega)]; rfl
      · rw [_root_.if_neg h, _root_.if_neg h])
    (fun _ _ _ _ _ _ => trivial) () trivial
  rw [goLoop_all] at h
  unfold spec_l01Words.f
  have e : (bitsB b && l.all (wordB b)) = (if l.all (wordB b) = true then bitsB b else false) := by
    by_cases h : l.all (wordB b) = true <;> simp [h]
  rw [e]; exact h

theorem vec_eq (b : Int) (l : List Int) (hl : l.length ≤ 1048577) : Ev (fun k => spec_l02Is.f k b l) (vecB b l) := by
  unfold spec_l02Is.f vecB
  refine Ev.bind' (lanes_eq _) ?_
  by_cases h1 : lanesB l.length = true
  · refine Ev.if_pos h1 (Ev.bind (words_eq b l hl) ?_)
    exact Ev.some' (by simp [h1])
  · exact Ev.if_neg h1 (Ev.some' (by simp [h1]))

/-- Both come to one answer. -/
def Both {α : Type} (g f : Nat → Option α) : Prop := ∃ r, Ev g r ∧ Ev f r

/-- The first place of a number, or -1. -/
def placeOf (x : Int) (l : List Int) : Int := goLoop (σ := Unit) (fun _ y j => if x = y then .inl (j : Int) else .inr ()) (fun _ => -1) () l 0
theorem index_eq (l : List Int) (x : Int) (hl : l.length ≤ 1048577) : Ev (fun k => slices_Index_int64_int64.f k l x) (placeOf x l) := by
  unfold slices_Index_int64_int64.f placeOf
  exact loopEv l (fun k (_ : Unit) i => slices_Index_int64_int64.l0 k l x (l.length : Int) i) _ _ (fun _ _ => True)
    (fun k s _ => by simp only [slices_Index_int64_int64.l0]; rw [_root_.if_neg (by omega)])
    (fun k s j hj _ => by
      simp only [slices_Index_int64_int64.l0]
      rw [_root_.if_pos (by omega), _root_.if_pos (by omega), _root_.if_pos (by omega), rd_at _ _ hj, w64 (x := (j : Int) + 1) (by omega) (by omega)]
      split <;> rfl)
    (fun _ _ _ _ _ _ => trivial) () trivial

theorem place_at (x : Int) (l : List Int) (b : Nat) (hb : b < l.length) (h : l[b] = x) (hn : ∀ i (hi : i < b), l[i] ≠ x) : placeOf x l = b := by
  have key : ∀ d j, j + d = b → goLoop (σ := Unit) (fun _ y j => if x = y then .inl (j : Int) else .inr ()) (fun _ => -1) () (l.drop j) j = (b : Int) := by
    intro d
    induction d with
    | zero =>
      intro j hj
      obtain rfl : j = b := by omega
      rw [List.drop_eq_getElem_cons hb]
      unfold goLoop
      rw [_root_.if_pos h.symm]
    | succ d ih =>
      intro j hj
      rw [List.drop_eq_getElem_cons (by omega)]
      unfold goLoop
      rw [_root_.if_neg (fun e => hn j (by omega) e.symm)]
      exact ih (j + 1) (by omega)
  exact key b 0 (by omega)

/-- b is the first place of a least number among the first n. -/
def Least (l : List Int) (n : Nat) (b : Int) : Prop := ∃ c : Nat, b = c ∧ c < n ∧ ∃ hc : c < l.length, (∀ i (hi : i < l.length), i < n → l[c] ≤ l[i]) ∧ ∀ i (hi : i < c), l[c] < l[i]
theorem least_one {l : List Int} (h0 : 0 < l.length) : Least l 1 0 := by
  refine ⟨0, rfl, by omega, h0, fun i hi hij => ?_, fun i hi => by omega⟩
  obtain rfl : i = 0 := by omega
  exact Int.le_refl _
theorem LeastLane_ex (b : Int) (l : List Int) (hl : l.length ≤ 1048576) : Both (fun k => spec_LeastLane.f k b l) (fun k => impl_LeastLane.f k b l) := by
  unfold spec_LeastLane.f impl_LeastLane.f
  by_cases h : vecB b l = true
  · have hn : 2 ≤ l.length := by
      have : lanesB l.length = true := by revert h; unfold vecB; cases lanesB l.length <;> simp
      rcases lanes_cases this with h | h | h | h <;> omega
    have h0 : 0 < l.length := by omega
    have hloop := loopEvAt (σ := Int) (β := Int × Bool) l (fun k s i => spec_LeastLane.l0 k l s i) (fun s x j => .inr (if x < rd l s then (j : Int) else s)) (fun s => (s, true)) (fun s j => Least l j s)
      (fun k s _ => by simp only [spec_LeastLane.l0]; rw [_root_.if_neg (by omega)])
      (fun k s j hj hs => by
        obtain ⟨c, rfl, hc, hc2, _⟩ := hs
        simp only [spec_LeastLane.l0]
        rw [_root_.if_pos (by omega), _root_.if_pos (by omega), _root_.if_pos (by omega), _root_.if_pos (by omega), rd_at _ _ hj, w64 (x := (j : Int) + 1) (by omega) (by omega)]
        split <;> rfl)
      (fun s j hj s' hs hf => by
        obtain ⟨c, rfl, hc, hc2, h1, h2⟩ := hs
        cases hf
        rw [rd_at _ _ hc2]
        by_cases hlt : l[j] < l[c]
        · rw [_root_.if_pos hlt]
          refine ⟨j, rfl, by omega, hj, fun i hi hij => ?_, fun i hi => ?_⟩
          · by_cases e : i = j
            · subst e; exact Int.le_refl _
            · have := h1 i hi (by omega); omega
          · have := h1 i (by omega) hi; omega
        · rw [_root_.if_neg hlt]
          refine ⟨c, rfl, by omega, hc2, fun i hi hij => ?_, h2⟩
          by_cases e : i = j
          · subst e; omega
          · exact h1 i hi (by omega)) 0 1 (by omega) (least_one h0)
    have hpost := goLoop_post (σ := Int) (β := Int × Bool) (f := fun s x j => .inr (if x < rd l s then (j : Int) else s)) (fin := fun s => (s, true)) l (fun s j => Least l j s) (fun r => r.2 = true ∧ Least l l.length r.1)
      (fun s hs => ⟨rfl, hs⟩) (fun s j hj r _ hf => by cases hf)
      (fun s j hj s' hs hf => by
        obtain ⟨c, rfl, hc, hc2, h1, h2⟩ := hs
        cases hf
        rw [rd_at _ _ hc2]
        by_cases hlt : l[j] < l[c]
        · rw [_root_.if_pos hlt]
          refine ⟨j, rfl, by omega, hj, fun i hi hij => ?_, fun i hi => ?_⟩
          · by_cases e : i = j
            · subst e; exact Int.le_refl _
            · have := h1 i hi (by omega); omega
          · have := h1 i (by omega) hi; omega
        · rw [_root_.if_neg hlt]
          refine ⟨c, rfl, by omega, hc2, fun i hi hij => ?_, h2⟩
          by_cases e : i = j
          · subst e; omega
          · exact h1 i hi (by omega)) 0 1 (by omega) (least_one h0)
    generalize goLoop (σ := Int) (β := Int × Bool) (fun s x j => .inr (if x < rd l s then (j : Int) else s)) (fun s => (s, true)) 0 (l.drop 1) 1 = r at hloop hpost
    obtain ⟨r1, r2⟩ := r
    obtain ⟨hr2, c, hr1, _, hc, hmin, hfirst⟩ := hpost
    subst hr2
    dsimp only at hr1
    subst hr1
    have hM : Ev (fun k => slices_Min_int64_int64.f k l) l[c] := by
      unfold slices_Min_int64_int64.f
      refine Ev.if_neg (by omega) (Ev.if_pos (by omega) ?_)
      have hx := loopEvAt (σ := Int) (β := Int) l (fun k s i => slices_Min_int64_int64.l0 k l s i) (fun s x j => .inr (mn s x)) (fun s => s) (fun _ _ => True)
        (fun k s _ => by simp only [slices_Min_int64_int64.l0]; rw [_root_.if_neg (by omega)])
        (fun k s j hj hs => by
          simp only [slices_Min_int64_int64.l0]
          rw [_root_.if_pos (by omega), _root_.if_pos (by omega), rd_at _ _ hj, w64 (x := (j : Int) + 1) (by omega) (by omega)]; rfl)
        (fun _ _ _ _ _ _ => trivial) (rd l 0) 1 (by omega) trivial
      have hstart : (∀ i (hi : i < l.length), i < 1 → rd l 0 ≤ l[i]) ∧ ∃ i, ∃ hi : i < l.length, rd l 0 = l[i] := by
        refine ⟨fun i hi hij => ?_, 0, h0, rd_at l 0 h0⟩
        obtain rfl : i = 0 := by omega
        exact Int.le_of_eq (rd_at l 0 h0)
      have hp := goLoop_post (σ := Int) (β := Int) (f := fun s x j => .inr (mn s x)) (fin := fun s => s) l (fun s j => (∀ i (hi : i < l.length), i < j → s ≤ l[i]) ∧ ∃ i, ∃ hi : i < l.length, s = l[i]) (fun s => s = l[c])
        (fun s hs => by
          obtain ⟨h1, i, hi, rfl⟩ := hs
          have a := h1 c hc hc
          have b := hmin i hi hi
          omega) (fun s j hj r _ hf => by cases hf)
        (fun s j hj s' hs hf => by
          obtain ⟨h1, i, hi, rfl⟩ := hs
          cases hf
          unfold mn
          by_cases hlt : l[j] < l[i]
          · rw [_root_.if_pos hlt]
            refine ⟨fun i' hi' hij => ?_, j, hj, rfl⟩
            by_cases e : i' = j
            · subst e; exact Int.le_refl _
            · have := h1 i' hi' (by omega); omega
          · rw [_root_.if_neg hlt]
            refine ⟨fun i' hi' hij => ?_, i, hi, rfl⟩
            by_cases e : i' = j
            · subst e; omega
            · exact h1 i' hi' (by omega)) (rd l 0) 1 (by omega) hstart
      rw [hp] at hx
      exact hx
    refine ⟨((c : Int), true), Ev.bind (vec_eq b l (by omega)) (Ev.if_pos h hloop), Ev.bind' (a := vecB b l) rfl (Ev.if_pos h (Ev.bind hM (Ev.bind (index_eq l l[c] (by omega)) ?_)))⟩
    rw [place_at l[c] l c hc rfl (fun i hi e => by have := hfirst i hi; omega)]
    exact Ev.now _
  · exact ⟨(0, false), Ev.bind (vec_eq b l (by omega)) (Ev.if_neg h (Ev.now _)), Ev.bind' (a := vecB b l) rfl (Ev.if_neg h (Ev.now _))⟩

end Go.Proofs.Ytocelalollkadaa.Q
