/- Plain lemmas that the proof of FnExactCountLanesWith leans on. -/
import Derived.Test.YtocelalollkadaaC0
import Derived.Test.YtocelalollkadaaC1
import Derived.Test.YtocelalollkadaaC2
import Derived.Test.YtocelalollkadaaC3
namespace Go.Proofs.Ytocelalollkadaa.C
open Go.RowKit Go.Proofs.YtocelalollkadaaW.PrintWords Go.Proofs.YtocelalollkadaaW.PrintLast Go.Proofs.YtocelalollkadaaW.PrintMore
set_option linter.unusedVariables false
set_option linter.unusedSimpArgs false

theorem w64 {x : Int} (h0 : -9223372036854775808 ≤ x) (h1 : x ≤ 9223372036854775807) : wrap64 x = x := by unfold wrap64; omega
theorem rd_at (l : List Int) (j : Nat) (h : j < l.length) : rd l (j : Int) = l[j] := by
  unfold rd
  rw [Int.toNat_natCast]; simp [List.getD_eq_getElem?_getD, h]

theorem Ev.if_pos {α : Type} {c : Prop} [Decidable c] {g f : Nat → Option α} {r : α} (h : c) (k : Ev g r) : Ev (fun n => if c then g n else f n) r := Ev.congr (fun n => _root_.if_pos h) k
theorem Ev.if_neg {α : Type} {c : Prop} [Decidable c] {g f : Nat → Option α} {r : α} (h : ¬ c) (k : Ev f r) : Ev (fun n => if c then g n else f n) r := Ev.congr (fun n => _root_.if_neg h) k
theorem Ev.bind' {α β : Type} {g : Option α} {f : Nat → α → Option β} {a : α} {r : β} (h : g = some a) (k : Ev (fun n => f n a) r) : Ev (fun n => g.bind (f n)) r := Ev.congr (fun n => by rw [h]; rfl) k
theorem Ev.some' {α : Type} {a r : α} (h : a = r) : Ev (fun _ => some a) r := h ▸ Ev.now a

theorem eqEv (l : List Int) (hl : l.length ≤ 4611686018427387904) : Ev (fun k => laws_eqInt64S.f k l l) true := by
  have key : ∀ d j, j + d = l.length → Ev (fun k => laws_eqInt64S.l0 k l l (j : Int)) true := by
    intro d
    induction d with
    | zero =>
      intro j hj
      exact Ev.step (f := fun _ => some true) (fun k => by simp only [laws_eqInt64S.l0]; rw [_root_.if_neg (by omega)]) (Ev.now _)
    | succ d ih =>
      intro j hj
      refine Ev.step (f := fun k => laws_eqInt64S.l0 k l l ((j + 1 : Nat) : Int)) (fun k => ?_) (ih (j + 1) (by omega))
      simp only [laws_eqInt64S.l0]
      rw [_root_.if_pos (by omega), _root_.if_pos (by omega), _root_.if_pos (by omega), w64 (by omega) (by omega)]
      rfl
  exact Ev.congr (fun k => by unfold laws_eqInt64S.f; rw [_root_.if_pos rfl]; rfl) (key l.length 0 (by omega))

/-- n, n + 1, .. -/
def marks (n : Int) (len : Nat) : List Int := (List.range len).map fun (i : Nat) => n + i
theorem marks_length (n : Int) (len : Nat) : (marks n len).length = len := by simp [marks]
theorem marks_get (n : Int) (len j : Nat) (h : j < (marks n len).length) : (marks n len)[j] = n + j := by simp [marks]
theorem marks_succ (n : Int) (j : Nat) : marks n (j + 1) = marks n j ++ [n + j] := by simp [marks, List.range_succ]

theorem markEv (l : List Int) (n : Int) (hl : l.length ≤ 4611686018427387904) (h0 : 0 ≤ n) (h1 : n ≤ 4611686018427387000) :
    Ev (fun k => laws_markInt64S.f k l n) (n + l.length, marks n l.length) := by
  have key : ∀ d j, j + d = l.length → Ev (fun k => laws_markInt64S.l0 k (marks n j ++ l.drop j) (n + j) (j : Int)) (n + l.length, marks n l.length) := by
    intro d
    induction d with
    | zero =>
      intro j hj
      obtain rfl : j = l.length := by omega
      refine Ev.step (f := fun _ => some (n + (l.length : Int), marks n l.length)) (fun k => ?_) (Ev.now _)
      simp only [laws_markInt64S.l0]
      rw [_root_.if_neg (by simp [marks_length])]
      simp
    | succ d ih =>
      intro j hj
      refine Ev.step (f := fun k => laws_markInt64S.l0 k (marks n (j + 1) ++ l.drop (j + 1)) (n + ((j + 1 : Nat) : Int)) ((j + 1 : Nat) : Int)) (fun k => ?_) (ih (j + 1) (by omega))
      simp only [laws_markInt64S.l0]
      rw [_root_.if_pos (by simp [marks_length]; omega), _root_.if_pos (by omega), w64 (by omega) (by omega), w64 (by omega) (by omega)]
      have e : (marks n j ++ l.drop j).set (j : Int).toNat (n + j) = marks n (j + 1) ++ l.drop (j + 1) := by
        rw [Int.toNat_natCast, List.set_append_right _ _ (by rw [marks_length]; exact Nat.le_refl _), marks_length, Nat.sub_self, List.drop_eq_getElem_cons (by omega : j < l.length), List.set_cons_zero, marks_succ, List.append_assoc]
        rfl
      rw [e, Int.add_assoc]; rfl
  exact Ev.congr (fun k => by unfold laws_markInt64S.f; simp [marks]) (key l.length 0 (by omega))

theorem heldEv (len : Nat) (n : Int) (hl : len ≤ 4611686018427387904) (h0 : 0 ≤ n) (h1 : n ≤ 4611686018427387000) :
    Ev (fun k => laws_heldInt64S.f k (marks n len) n) (n + len) := by
  have key : ∀ d j, j + d = len → Ev (fun k => laws_heldInt64S.l0 k (marks n len) (n + j) (j : Int)) (n + len) := by
    intro d
    induction d with
    | zero =>
      intro j hj
      obtain rfl : j = len := by omega
      refine Ev.step (f := fun _ => some (n + (j : Int))) (fun k => ?_) (Ev.now _)
      simp only [laws_heldInt64S.l0]
      rw [_root_.if_neg (by simp [marks_length])]
    | succ d ih =>
      intro j hj
      refine Ev.step (f := fun k => laws_heldInt64S.l0 k (marks n len) (n + ((j + 1 : Nat) : Int)) ((j + 1 : Nat) : Int)) (fun k => ?_) (ih (j + 1) (by omega))
      simp only [laws_heldInt64S.l0]
      rw [_root_.if_pos (by rw [marks_length]; omega), _root_.if_pos (by omega), rd_at _ _ (by rw [marks_length]; omega), marks_get, _root_.if_pos rfl, w64 (by omega) (by omega), w64 (by omega) (by omega), Int.add_assoc]
      rfl
  exact Ev.congr (fun k => by unfold laws_heldInt64S.f; simp) (key len 0 (by omega))

theorem toEv (l : List Int) (hl : l.length ≤ 1048576) : Ev (fun k => laws_toInt64S.f k l) l := by
  have key : ∀ d j, j + d = l.length → Ev (fun k => laws_toInt64S.l0 k l (l.take j ++ List.replicate d 0) (j : Int)) l := by
    intro d
    induction d with
    | zero =>
      intro j hj
      obtain rfl : j = l.length := by omega
      refine Ev.step (f := fun _ => some l) (fun k => ?_) (Ev.now _)
      simp only [laws_toInt64S.l0]
      rw [_root_.if_neg (by omega)]
      simp
    | succ d ih =>
      intro j hj
      refine Ev.step (f := fun k => laws_toInt64S.l0 k l (l.take (j + 1) ++ List.replicate d 0) ((j + 1 : Nat) : Int)) (fun k => ?_) (ih (j + 1) (by omega))
      simp only [laws_toInt64S.l0]
      rw [_root_.if_pos (by omega), _root_.if_pos (by omega), _root_.if_pos (by simp; omega), w64 (by omega) (by omega), rd_at _ _ (by omega)]
      have e : (l.take j ++ List.replicate (d + 1) 0).set (j : Int).toNat l[j] = l.take (j + 1) ++ List.replicate d 0 := by
        rw [Int.toNat_natCast, List.set_append_right _ _ (by simp; omega), List.length_take, Nat.min_eq_left (by omega), Nat.sub_self, List.replicate_succ, List.set_cons_zero, List.take_succ_eq_append_getElem (by omega), List.append_assoc]
        rfl
      rw [e]; rfl
  refine Ev.congr (fun k => ?_) (key l.length 0 (by omega))
  unfold laws_toInt64S.f
  simp
  omega

/-- A loop over a list that may end early. -/
def goLoop {σ β : Type} (f : σ → Int → Nat → β ⊕ σ) (fin : σ → β) : σ → List Int → Nat → β
  | s, [], _ => fin s
  | s, x :: xs, j => match f s x j with
    | .inl r => r
    | .inr s' => goLoop f fin s' xs (j + 1)
theorem loopEv {σ β : Type} (l : List Int) (g : Nat → σ → Int → Option β) (f : σ → Int → Nat → β ⊕ σ) (fin : σ → β) (Inv : σ → Nat → Prop)
    (h0 : ∀ k s, Inv s l.length → g (k + 1) s (l.length : Int) = some (fin s))
    (h1 : ∀ k s (j : Nat) (h : j < l.length), Inv s j → g (k + 1) s (j : Int) = match f s l[j] j with | .inl r => some r | .inr s' => g k s' ((j + 1 : Nat) : Int))
    (hI : ∀ s (j : Nat) (h : j < l.length) s', Inv s j → f s l[j] j = .inr s' → Inv s' (j + 1)) (s : σ) (hs : Inv s 0) :
    Ev (fun k => g k s 0) (goLoop f fin s l 0) := by
  have key : ∀ d j s, j + d = l.length → Inv s j → Ev (fun k => g k s (j : Int)) (goLoop f fin s (l.drop j) j) := by
    intro d
    induction d with
    | zero =>
      intro j s hj hs
      obtain rfl : j = l.length := by omega
      rw [List.drop_length]
      exact Ev.step (f := fun _ => some (fin s)) (fun k => h0 k s hs) (Ev.now _)
    | succ d ih =>
      intro j s hj hs
      have hlt : j < l.length := by omega
      rw [List.drop_eq_getElem_cons hlt]
      unfold goLoop
      cases hf : f s l[j] j with
      | inl r => exact Ev.step (f := fun _ => some r) (fun k => by rw [h1 k s j hlt hs, hf]) (Ev.now _)
      | inr s' => exact Ev.step (f := fun k => g k s' ((j + 1 : Nat) : Int)) (fun k => by rw [h1 k s j hlt hs, hf]) (ih (j + 1) s' (by omega) (hI s j hlt s' hs hf))
  simpa using key l.length 0 s (by omega) hs

theorem loopEvAt {σ β : Type} (l : List Int) (g : Nat → σ → Int → Option β) (f : σ → Int → Nat → β ⊕ σ) (fin : σ → β) (Inv : σ → Nat → Prop)
    (h0 : ∀ k s, Inv s l.length → g (k + 1) s (l.length : Int) = some (fin s))
    (h1 : ∀ k s (j : Nat) (h : j < l.length), Inv s j → g (k + 1) s (j : Int) = match f s l[j] j with | .inl r => some r | .inr s' => g k s' ((j + 1 : Nat) : Int))
    (hI : ∀ s (j : Nat) (h : j < l.length) s', Inv s j → f s l[j] j = .inr s' → Inv s' (j + 1)) (s : σ) (j0 : Nat) (hj0 : j0 ≤ l.length) (hs : Inv s j0) :
    Ev (fun k => g k s (j0 : Int)) (goLoop f fin s (l.drop j0) j0) := by
  have key : ∀ d j s, j + d = l.length → Inv s j → Ev (fun k => g k s (j : Int)) (goLoop f fin s (l.drop j) j) := by
    intro d
    induction d with
    | zero =>
      intro j s hj hs
      obtain rfl : j = l.length := by omega
      rw [List.drop_length]
      exact Ev.step (f := fun _ => some (fin s)) (fun k => h0 k s hs) (Ev.now _)
    | succ d ih =>
      intro j s hj hs
      have hlt : j < l.length := by omega
      rw [List.drop_eq_getElem_cons hlt]
      unfold goLoop
      cases hf : f s l[j] j with
      | inl r => exact Ev.step (f := fun _ => some r) (fun k => by rw [h1 k s j hlt hs, hf]) (Ev.now _)
      | inr s' => exact Ev.step (f := fun k => g k s' ((j + 1 : Nat) : Int)) (fun k => by rw [h1 k s j hlt hs, hf]) (ih (j + 1) s' (by omega) (hI s j hlt s' hs hf))
  exact key (l.length - j0) j0 s (by omega) hs

/-- What holds of a loop's answer. -/
theorem goLoop_post {σ β : Type} {f : σ → Int → Nat → β ⊕ σ} {fin : σ → β} (l : List Int) (Inv : σ → Nat → Prop) (Post : β → Prop)
    (hfin : ∀ s, Inv s l.length → Post (fin s)) (hout : ∀ s (j : Nat) (h : j < l.length) r, Inv s j → f s l[j] j = .inl r → Post r)
    (hI : ∀ s (j : Nat) (h : j < l.length) s', Inv s j → f s l[j] j = .inr s' → Inv s' (j + 1)) (s : σ) (j0 : Nat) (hj0 : j0 ≤ l.length) (hs : Inv s j0) :
    Post (goLoop f fin s (l.drop j0) j0) := by
  have key : ∀ d j s, j + d = l.length → Inv s j → Post (goLoop f fin s (l.drop j) j) := by
    intro d
    induction d with
    | zero =>
      intro j s hj hs
      obtain rfl : j = l.length := by omega
      rw [List.drop_length]
      exact hfin s hs
    | succ d ih =>
      intro j s hj hs
      have hlt : j < l.length := by omega
      rw [List.drop_eq_getElem_cons hlt]
      unfold goLoop
      cases hf : f s l[j] j with
      | inl r => exact hout s j hlt r hs hf
      | inr s' => exact ih (j + 1) s' (by omega) (hI s j hlt s' hs hf)
  exact key (l.length - j0) j0 s (by omega) hs

theorem goLoop_all {β : Type} (p : Int → Bool) (bad : β) (fin : β) (l : List Int) : ∀ j,
    goLoop (σ := Unit) (fun _ x _ => if p x = true then .inr () else .inl bad) (fun _ => fin) () l j = if l.all p = true then fin else bad := by
  induction l with
  | nil => intro j; simp [goLoop]
  | cons x xs ih =>
    intro j
    unfold goLoop
    by_cases h : p x = true
    · simp [h, ih (j + 1)]
    · simp [h]

theorem in_eq (a b c : Int) : spec_l00In.f a b c = some (inB a b c) := by
  unfold spec_l00In.f inB
  by_cases h : b ≤ a
  · rw [_root_.if_pos h]; simp [h]
  · rw [_root_.if_neg (by omega)]; simp [h]

theorem lanes_eq (a : Int) : spec_l02Lanes.f a = some (lanesB a) := by
  unfold spec_l02Lanes.f lanesB
  by_cases h2 : a = 2
  · subst h2; rfl
  by_cases h4 : a = 4
  · subst h4; rfl
  by_cases h8 : a = 8
  · subst h8; rfl
  rw [_root_.if_neg h2, _root_.if_neg h4, _root_.if_neg h8, beq_eq_false_iff_ne.2 h2, beq_eq_false_iff_ne.2 h4, beq_eq_false_iff_ne.2 h8]
  rfl

theorem below_eq (l : List Int) (n : Int) (hl : l.length ≤ 1048577) : Ev (fun k => spec_l10Below.f k l n) (lanesB l.length && l.all fun x => inB x 0 (wrap64 (n - 1))) := by
  have h := loopEv (σ := Unit) (β := Bool) l (fun k _ i => spec_l10Below.l0 k l n i) (fun _ x _ => if inB x 0 (wrap64 (n - 1)) = true then .inr () else .inl false) (fun _ => lanesB l.length) (fun _ _ => True)
    (fun k s _ => by simp only [spec_l10Below.l0]; rw [_root_.if_neg (by omega), lanes_eq]; rfl)
    (fun k s j hj _ => by
      simp only [spec_l10Below.l0]
      rw [_root_.if_pos (by omega), _root_.if_pos (by omega), rd_at _ _ hj, in_eq]
      simp only [Option.bind_some]
      by_cases h : inB l[j] 0 (wrap64 (n - 1)) = true
      · rw [_root_.if_pos h, _root_.if_pos h, w64 (by omega) (by omega)]; rfl
      · rw [_root_.if_neg h, _root_.if_neg h])
    (fun _ _ _ _ _ _ => trivial) () trivial
  rw [goLoop_all (fun x => inB x 0 (wrap64 (n - 1)))] at h
  unfold spec_l10Below.f
  have e : (lanesB l.length && l.all fun x => inB x 0 (wrap64 (n - 1))) = (if (l.all fun x => inB x 0 (wrap64 (n - 1))) = true then lanesB l.length else false) := by
    by_cases h : (l.all fun x => inB x 0 (wrap64 (n - 1))) = true <;> simp [h]
  rw [e]; exact h

/-- A loop whose end goes on. -/
theorem loopEvE {σ β : Type} (l : List Int) (g : Nat → σ → Int → Option β) (f : σ → Int → Nat → β ⊕ σ) (fin : σ → β) (Inv : σ → Nat → Prop)
    (h0 : ∀ s, Inv s l.length → Ev (fun k => g k s (l.length : Int)) (fin s))
    (h1 : ∀ k s (j : Nat) (h : j < l.length), Inv s j → g (k + 1) s (j : Int) = match f s l[j] j with | .inl r => some r | .inr s' => g k s' ((j + 1 : Nat) : Int))
    (hI : ∀ s (j : Nat) (h : j < l.length) s', Inv s j → f s l[j] j = .inr s' → Inv s' (j + 1)) (s : σ) (j0 : Nat) (hj0 : j0 ≤ l.length) (hs : Inv s j0) :
    Ev (fun k => g k s (j0 : Int)) (goLoop f fin s (l.drop j0) j0) := by
  have key : ∀ d j s, j + d = l.length → Inv s j → Ev (fun k => g k s (j : Int)) (goLoop f fin s (l.drop j) j) := by
    intro d
    induction d with
    | zero =>
      intro j s hj hs
      obtain rfl : j = l.length := by omega
      rw [List.drop_length]
      exact h0 s hs
    | succ d ih =>
      intro j s hj hs
      have hlt : j < l.length := by omega
      rw [List.drop_eq_getElem_cons hlt]
      unfold goLoop
      cases hf : f s l[j] j with
      | inl r => exact Ev.step (f := fun _ => some r) (fun k => by rw [h1 k s j hlt hs, hf]) (Ev.now _)
      | inr s' => exact Ev.step (f := fun k => g k s' ((j + 1 : Nat) : Int)) (fun k => by rw [h1 k s j hlt hs, hf]) (ih (j + 1) s' (by omega) (hI s j hlt s' hs hf))
  exact key (l.length - j0) j0 s (by omega) hs

/-- m is the greatest number of a list. -/
def Top (l : List Int) (m : Int) : Prop := (∀ i (hi : i < l.length), l[i] ≤ m) ∧ ∃ i, ∃ hi : i < l.length, m = l[i]
theorem Top.unique {l : List Int} {m n : Int} (h : Top l m) (h' : Top l n) : m = n := by
  obtain ⟨h1, i, hi, rfl⟩ := h
  obtain ⟨h2, j, hj, rfl⟩ := h'
  have a := h1 j hj
  have b := h2 i hi
  omega
theorem max_ends (l : List Int) (h0 : 0 < l.length) (hl : l.length ≤ 1048577) : ∃ m, Ev (fun k => slices_Max_int64_int64.f k l) m ∧ Top l m := by
  have hstart : (∀ i (hi : i < l.length), i < 1 → l[i] ≤ rd l 0) ∧ ∃ i, ∃ hi : i < l.length, rd l 0 = l[i] := by
    refine ⟨fun i hi hij => ?_, 0, h0, rd_at l 0 h0⟩
    obtain rfl : i = 0 := by omega
    exact Int.le_of_eq (rd_at l 0 h0).symm
  refine ⟨goLoop (σ := Int) (β := Int) (fun s x j => .inr (mx s x)) (fun s => s) (rd l 0) (l.drop 1) 1, ?_, ?_⟩
  · unfold slices_Max_int64_int64.f
    refine Ev.if_neg (by omega) (Ev.if_pos (by omega) ?_)
    exact loopEvAt (σ := Int) (β := Int) l (fun k s i => slices_Max_int64_int64.l0 k l s i) (fun s x j => .inr (mx s x)) (fun s => s) (fun _ _ => True)
      (fun k s _ => by simp only [slices_Max_int64_int64.l0]; rw [_root_.if_neg (by omega)])
      (fun k s j hj hs => by
        simp only [slices_Max_int64_int64.l0]
        rw [_root_.if_pos (by omega), _root_.if_pos (by omega), rd_at _ _ hj, w64 (x := (j : Int) + 1) (by omega) (by omega)]; rfl)
      (fun _ _ _ _ _ _ => trivial) (rd l 0) 1 (by omega) trivial
  · exact goLoop_post (σ := Int) (β := Int) (f := fun s x j => .inr (mx s x)) (fin := fun s => s) l (fun s j => (∀ i (hi : i < l.length), i < j → l[i] ≤ s) ∧ ∃ i, ∃ hi : i < l.length, s = l[i]) (fun s => Top l s)
      (fun s hs => ⟨fun i hi => hs.1 i hi hi, hs.2⟩) (fun s j hj r _ hf => by cases hf)
      (fun s j hj s' hs hf => by
        obtain ⟨h1, i, hi, rfl⟩ := hs
        cases hf
        unfold mx
        by_cases hlt : l[i] < l[j]
        · rw [_root_.if_pos hlt]
          refine ⟨fun i' hi' hij => ?_, j, hj, rfl⟩
          by_cases e : i' = j
          · subst e; exact Int.le_refl _
          · have := h1 i' hi' (by omega); omega
        · rw [_root_.if_neg hlt]
          refine ⟨fun i' hi' hij => ?_, i, hi, rfl⟩
          by_cases e : i' = j
          · subst e; omega
          · exact h1 i' hi' (by omega)) (rd l 0) 1 (by omega) hstart

/-- One more of x. -/
def more (c : List Int) (x : Int) : List Int := c.set x.toNat (wrap64 (rd c x + 1))
theorem more_length (c : List Int) (x : Int) : (more c x).length = c.length := by simp [more]
theorem more_get (c : List Int) (x : Int) (h0 : 0 ≤ x) (hx : x < c.length) (j : Int) (hc : ∀ i (hi : i < c.length), 0 ≤ c[i] ∧ c[i] ≤ j) (hj : j ≤ 1048577) (i : Nat) (hi : i < (more c x).length) :
    (more c x)[i] = if i = x.toNat then c[x.toNat]'(by omega) + 1 else c[i]'(by rw [more_length] at hi; exact hi) := by
  obtain ⟨n, rfl⟩ := Int.eq_ofNat_of_zero_le h0
  have hn : n < c.length := by omega
  have hb := hc n hn
  simp only [more, Int.toNat_natCast, List.getElem_set]
  by_cases e : i = n
  · subst e
    simp only [if_true]
    rw [rd_at c i hn, w64 (by omega) (by omega)]
  · rw [_root_.if_neg (fun h => e h.symm), _root_.if_neg e]
def cntStep (s : List Int × Int) (x : Int) (_ : Nat) : (List Int × Int × Bool) ⊕ (List Int × Int) := .inr (more s.1 x, if s.2 > rd (more s.1 x) x then s.2 else rd (more s.1 x) x)
def cntEnd (s : List Int × Int) : List Int × Int × Bool := (s.1, s.2, true)
def CntInv (n : Nat) (s : List Int × Int) (j : Nat) : Prop := s.1.length = n ∧ (∀ i (hi : i < s.1.length), 0 ≤ s.1[i] ∧ s.1[i] ≤ j) ∧ Top s.1 s.2
theorem cnt_step {n : Nat} {s : List Int × Int} {j : Nat} {x : Int} (h : CntInv n s j) (h0 : 0 ≤ x) (hx : x < n) (hj : j ≤ 1048576) :
    CntInv n (more s.1 x, if s.2 > rd (more s.1 x) x then s.2 else rd (more s.1 x) x) (j + 1) := by
  obtain ⟨hl, hc, ht, i0, hi0, he⟩ := h
  have hxl : x < s.1.length := by omega
  have hg := more_get s.1 x h0 hxl j (fun i hi => hc i hi) (by omega)
  obtain ⟨q, rfl⟩ := Int.eq_ofNat_of_zero_le h0
  have hq : q < s.1.length := by omega
  have hr : rd (more s.1 (q : Int)) (q : Int) = s.1[q] + 1 := by
    rw [rd_at _ q (by rw [more_length]; exact hq), hg q (by rw [more_length]; exact hq)]
    simp
  rw [hr]
  simp only [Int.toNat_natCast] at hg
  refine ⟨by rw [more_length]; exact hl, fun i hi => ?_, fun i hi => ?_, ?_⟩
  · rw [hg i hi]
    split
    · have := hc q hq; omega
    · have := hc i (by rw [more_length] at hi; exact hi); omega
  · rw [hg i hi]
    dsimp only
    split
    · split <;> omega
    · have := ht i (by rw [more_length] at hi; exact hi)
      split <;> omega
  · dsimp only
    by_cases h2 : s.2 > s.1[q] + 1
    · rw [_root_.if_pos h2]
      have hne : i0 ≠ q := by rintro rfl; omega
      refine ⟨i0, by rw [more_length]; exact hi0, ?_⟩
      rw [hg i0 (by rw [more_length]; exact hi0), _root_.if_neg hne]
      exact he
    · rw [_root_.if_neg h2]
      refine ⟨q, by rw [more_length]; exact hq, ?_⟩
      rw [hg q (by rw [more_length]; exact hq), _root_.if_pos rfl]
theorem cnt_zero (n : Nat) (hn : 0 < n) : CntInv n (List.replicate n 0, 0) 0 := by
  refine ⟨by simp, fun i hi => by simp, fun i hi => by simp, 0, by simpa using hn, by simp⟩

theorem below_all (l : List Int) (a : Int) : impl_areAll_int64_at_impl_CountLanesWith_1.f l a = some (l.all fun x => inB x 0 (wrap64 (a - 1))) := by
  unfold impl_areAll_int64_at_impl_CountLanesWith_1.f
  exact allO_total l (fun x _ => rfl)
/-- What CountLanesWith answers. -/
def cntOf (l : List Int) (a : Int) : List Int × Int × Bool :=
  if inB a 1 64 = true ∧ (lanesB l.length && l.all fun x => inB x 0 (wrap64 (a - 1))) = true then goLoop cntStep cntEnd (List.replicate a.toNat 0, 0) l 0 else ([], 0, false)
theorem cnt_range {l : List Int} {a : Int} (h1 : inB a 1 64 = true) (h2 : (l.all fun x => inB x 0 (wrap64 (a - 1))) = true) : 1 ≤ a ∧ a ≤ 64 ∧ ∀ j (hj : j < l.length), 0 ≤ l[j] ∧ l[j] < a := by
  have ha : 1 ≤ a ∧ a ≤ 64 := by simpa [inB] using h1
  refine ⟨ha.1, ha.2, fun j hj => ?_⟩
  have := List.all_eq_true.1 h2 l[j] (List.getElem_mem hj)
  rw [w64 (by omega) (by omega)] at this
  simp [inB] at this
  omega
theorem cntOf_post (l : List Int) (a : Int) (hl : l.length ≤ 1048576) (h1 : inB a 1 64 = true) (h2 : (l.all fun x => inB x 0 (wrap64 (a - 1))) = true) :
    (fun r : List Int × Int × Bool => r.2.2 = true ∧ CntInv a.toNat (r.1, r.2.1) l.length) (goLoop cntStep cntEnd (List.replicate a.toNat 0, 0) l 0) := by
  obtain ⟨ha, ha2, hx⟩ := cnt_range h1 h2
  exact goLoop_post (f := cntStep) (fin := cntEnd) l (fun s j => CntInv a.toNat s j) (fun r => r.2.2 = true ∧ CntInv a.toNat (r.1, r.2.1) l.length)
    (fun s hs => ⟨rfl, hs⟩) (fun s j hj r _ hf => by cases hf)
    (fun s j hj s' hs hf => by
      cases hf
      have := hx j hj
      exact cnt_step hs this.1 (by omega) (by omega)) _ 0 (by omega) (cnt_zero _ (by omega))
theorem CountLanesWith_eq (l : List Int) (a : Int) (hl : l.length ≤ 1048576) : Ev (fun k => impl_CountLanesWith.f k l a) (cntOf l a) := by
  unfold impl_CountLanesWith.f cntOf
  refine Ev.bind' (a := (l.length : Int)) rfl (Ev.bind' (a := lanesB l.length) rfl ?_)
  by_cases h1 : lanesB l.length = true
  · refine Ev.if_pos h1 (Ev.bind' (a := inB a 1 64) rfl ?_)
    by_cases h2 : inB a 1 64 = true
    · refine Ev.if_pos h2 (Ev.bind' (below_all l a) (Ev.step (fun k => impl_CountLanesWith.j0.eq_2 _ _ _ _) ?_))
      by_cases h3 : (l.all fun x => inB x 0 (wrap64 (a - 1))) = true
      · obtain ⟨ha, ha2, hx⟩ := cnt_range h2 h3
        rw [_root_.if_pos ⟨h2, by rw [h1, h3]; rfl⟩]
        refine Ev.if_neg (by simp [h3]) (Ev.if_pos (by omega) (Ev.if_pos (by omega) ?_))
        have hp := loopEvE (σ := List Int × Int) (β := List Int × Int × Bool) l (fun k s i => impl_CountLanesWith.l0 k s.1 l (l.length : Int) i) cntStep cntEnd (fun s j => CntInv a.toNat s j)
          (fun s hs => by
            obtain ⟨m, hm, ht⟩ := max_ends s.1 (by rw [hs.1]; omega) (by rw [hs.1]; omega)
            have e := Top.unique ht hs.2.2
            refine Ev.step (fun k => impl_CountLanesWith.l0.eq_2 _ _ _ _ _) (Ev.if_neg (by omega) (Ev.bind hm (Ev.some' ?_)))
            rw [e]; rfl)
          (fun k s j hj hs => by
            have := hx j hj
            simp only [impl_CountLanesWith.l0]
            rw [_root_.if_pos (by omega), _root_.if_pos (by omega), _root_.if_pos (by omega), rd_at _ _ hj, _root_.if_pos (by omega), _root_.if_pos (by rw [hs.1]; omega), w64 (x := (j : Int) + 1) (by omega) (by omega)]
            rfl)
          (fun s j hj s' hs hf => by
            cases hf
            have := hx j hj
            exact cnt_step hs this.1 (by omega) (by omega)) (List.replicate a.toNat 0, 0) 0 (by omega) (cnt_zero _ (by omega))
        exact hp
      · rw [_root_.if_neg (by rw [h1]; simp [h3])]
        exact Ev.if_pos (by simp [h3]) (Ev.now _)
    · rw [_root_.if_neg (by simp [h2])]
      exact Ev.if_neg h2 (Ev.step (fun k => impl_CountLanesWith.j0.eq_2 _ _ _ _) (Ev.if_pos rfl (Ev.now _)))
  · rw [_root_.if_neg (by simp [h1])]
    exact Ev.if_neg h1 (Ev.step (fun k => impl_CountLanesWith.j0.eq_2 _ _ _ _) (Ev.if_pos rfl (Ev.now _)))

theorem l00Max_eq (a b : Int) : spec_l00Max.f a b = some (if a > b then a else b) := by
  unfold spec_l00Max.f; split <;> rfl
theorem CountLanesWith_ex (l : List Int) (a : Int) (hl : l.length ≤ 1048576) : ∃ r : List Int × Int × Bool, r.1.length ≤ 4611686018427387904 ∧ Ev (fun k => spec_CountLanesWith.f k l a) r ∧ Ev (fun k => impl_CountLanesWith.f k l a) r := by
  refine ⟨cntOf l a, ?_, ?_, CountLanesWith_eq l a hl⟩
  · unfold cntOf
    split
    · rename_i h
      obtain ⟨h1, h2⟩ := h
      have h3 : (l.all fun x => inB x 0 (wrap64 (a - 1))) = true := by revert h2; cases lanesB l.length <;> simp
      have hp := cntOf_post l a hl h1 h3
      have ha := cnt_range h1 h3
      have := hp.2.1
      dsimp only at this
      rw [this]; omega
    · simp
  · unfold spec_CountLanesWith.f cntOf
    refine Ev.bind' (in_eq a 1 64) ?_
    by_cases h2 : inB a 1 64 = true
    · refine Ev.if_pos h2 (Ev.bind (below_eq l a (by omega)) (Ev.step (fun k => spec_CountLanesWith.j0.eq_2 _ _ _ _) ?_))
      by_cases h3 : (lanesB l.length && l.all fun x => inB x 0 (wrap64 (a - 1))) = true
      · have h4 : (l.all fun x => inB x 0 (wrap64 (a - 1))) = true := by revert h3; cases lanesB l.length <;> simp
        obtain ⟨ha, ha2, hx⟩ := cnt_range h2 h4
        rw [_root_.if_pos ⟨h2, h3⟩]
        refine Ev.if_neg (by rw [h3]; decide) (Ev.if_pos (by omega) (Ev.if_pos (by omega) ?_))
        exact loopEv (σ := List Int × Int) (β := List Int × Int × Bool) l (fun k s i => spec_CountLanesWith.l0 k l s.1 s.2 i) cntStep cntEnd (fun s j => CntInv a.toNat s j)
          (fun k s _ => by simp only [spec_CountLanesWith.l0]; rw [_root_.if_neg (by omega)]; rfl)
          (fun k s j hj hs => by
            have := hx j hj
            simp only [spec_CountLanesWith.l0]
            rw [_root_.if_pos (by omega), _root_.if_pos (by omega), rd_at _ _ hj, _root_.if_pos (by omega), _root_.if_pos (by rw [hs.1]; omega), w64 (x := (j : Int) + 1) (by omega) (by omega)]
            simp only [Option.bind_some, l00Max_eq]
            rfl)
          (fun s j hj s' hs hf => by
            cases hf
            have := hx j hj
            exact cnt_step hs this.1 (by omega) (by omega)) _ (cnt_zero _ (by omega))
      · rw [_root_.if_neg (fun h => h3 h.2)]
        exact Ev.if_pos (by revert h3; cases (lanesB l.length && l.all fun x => inB x 0 (wrap64 (a - 1))) <;> simp) (Ev.now _)
    · rw [_root_.if_neg (fun h => h2 h.1)]
      exact Ev.if_neg h2 (Ev.step (fun k => spec_CountLanesWith.j0.eq_2 _ _ _ _) (Ev.if_pos rfl (Ev.now _)))

end Go.Proofs.Ytocelalollkadaa.C
