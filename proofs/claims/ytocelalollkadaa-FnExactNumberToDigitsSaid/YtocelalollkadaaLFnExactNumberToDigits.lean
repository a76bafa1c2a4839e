/- Plain lemmas that the proof of FnExactNumberToDigits leans on. -/
import Derived.Test.YtocelalollkadaaQ0
import Derived.Test.YtocelalollkadaaQ1
import Derived.Test.YtocelalollkadaaQ2
namespace Go.Proofs.Ytocelalollkadaa.Q
open Go.RowKit Go.Proofs.YtocelalollkadaaW.PrintWords Go.Proofs.YtocelalollkadaaW.PrintLast Go.Proofs.YtocelalollkadaaW.PrintMore
set_option linter.unusedVariables false
set_option linter.unusedSimpArgs false

theorem w64 {x : Int} (h0 : -9223372036854775808 ≤ x) (h1 : x ≤ 9223372036854775807) : wrap64 x = x := by unfold wrap64; omega
theorem rd_at (l : List Int) (j : Nat) (h : j < l.length) : rd l (j : Int) = l[j] := by
  unfold rd
  rw [Int.toNat_natCast]; simp [List.getD_eq_getElem?_getD, h]

theorem Ev.if_pos {α : Type} {c : Prop} [Decidable c] {g f : Nat → Option α} {r : α} (h : c) (k : Ev g r) : Ev (fun n => if c then g n else f n) r := Ev.congr (fun n => _root_.if_pos h) k
theorem Ev.if_neg {α : Type} {c : Prop} [Decidable c] {g f : Nat → Option α} {r : α} (h : ¬ c) (k : Ev f r) : Ev (fun n => if c then g n else f n) r := Ev.congr (fun n => _root_.if_neg h) k
theorem Ev.bind' {α β : Type} {g : Option α} {f : Nat → α → Option β} {a : α} {r : β} (h : g = some a) (k : Ev (fun n => f n a) r) : Ev (fun n => g.bind (f n)) r := Ev.congr (fun n => by rw [h]; rfl) k
theorem Ev.some' {α : Type} {a r : α} (h : a = r) : Ev (fun _ => some a) r := h ▸ Ev.now a

theorem eqEv (l : List Int) (hl : l.length ≤ 4611686018427387904) : Ev (fun k => laws_eqInt64S.f k l l) true := by
  have key : ∀ d j, j + d = l.length → Ev (fun k => laws_eqInt64S.l0 k l l (j : Int)) true := by
    intro d
    induction d with
    | zero =>
      intro j hj
      exact Ev.step (f := fun _ => some true) (fun k => by simp only [laws_eqInt64S.l0]; rw [_root_.if_neg (by omega)]) (Ev.now _)
    | succ d ih =>
      intro j hj
      refine Ev.step (f := fun k => laws_eqInt64S.l0 k l l ((j + 1 : Nat) : Int)) (fun k => ?_) (ih (j + 1) (by omega))
      simp only [laws_eqInt64S.l0]
      rw [_root_.if_pos (by omega), _root_.if_pos (by omega), _root_.if_pos (by omega), w64 (by omega) (by omega)]
      rfl
  exact Ev.congr (fun k => by unfold laws_eqInt64S.f; rw [_root_.if_pos rfl]; rfl) (key l.length 0 (by omega))

/-- n, n + 1, .. -/
def marks (n : Int) (len : Nat) : List Int := (List.range len).map fun (i : Nat) => n + i
theorem marks_length (n : Int) (len : Nat) : (marks n len).length = len := by simp [marks]
theorem marks_get (n : Int) (len j : Nat) (h : j < (marks n len).length) : (marks n len)[j] = n + j := by simp [marks]
theorem marks_succ (n : Int) (j : Nat) : marks n (j + 1) = marks n j ++ [n + j] := by simp [marks, List.range_succ]

theorem markEv (l : List Int) (n : Int) (hl : l.length ≤ 4611686018427387904) (h0 : 0 ≤ n) (h1 : n ≤ 4611686018427387000) :
    Ev (fun k => laws_markInt64S.f k l n) (n + l.length, marks n l.length) := by
  have key : ∀ d j, j + d = l.length → Ev (fun k => laws_markInt64S.l0 k (marks n j ++ l.drop j) (n + j) (j : Int)) (n + l.length, marks n l.length) := by
    intro d
    induction d with
    | zero =>
      intro j hj
      obtain rfl : j = l.length := by omega
      refine Ev.step (f := fun _ => some (n + (l.length : Int), marks n l.length)) (fun k => ?_) (Ev.now _)
      simp only [laws_markInt64S.l0]
      rw [_root_.if_neg (by simp [marks_length])]
      simp
    | succ d ih =>
      intro j hj
      refine Ev.step (f := fun k => laws_markInt64S.l0 k (marks n (j + 1) ++ l.drop (j + 1)) (n + ((j + 1 : Nat) : Int)) ((j + 1 : Nat) : Int)) (fun k => ?_) (ih (j + 1) (by omega))
      simp only [laws_markInt64S.l0]
      rw [_root_.if_pos (by simp [marks_length]; omega), _root_.if_pos (by omega), w64 (by omega) (by omega), w64 (by omega) (by omega)]
      have e : (marks n j ++ l.drop j).set (j : Int).toNat (n + j) = marks n (j + 1) ++ l.drop (j + 1) := by
        rw [Int.toNat_natCast, List.set_append_right _ _ (by rw [marks_length]; exact Nat.le_refl _), marks_length, Nat.sub_self, List.drop_eq_getElem_cons (by omega : j < l.length), List.set_cons_zero, marks_succ, List.append_assoc]
        rfl
      rw [e, Int.add_assoc]; rfl
  exact Ev.congr (fun k => by unfold laws_markInt64S.f; simp [marks]) (key l.length 0 (by omega))

theorem heldEv (len : Nat) (n : Int) (hl : len ≤ 4611686018427387904) (h0 : 0 ≤ n) (h1 : n ≤ 4611686018427387000) :
    Ev (fun k => laws_heldInt64S.f k (marks n len) n) (n + len) := by
  have key : ∀ d j, j + d = len → Ev (fun k => laws_heldInt64S.l0 k (marks n len) (n + j) (j : Int)) (n + len) := by
    intro d
    induction d with
    | zero =>
      intro j hj
      obtain rfl : j = len := by omega
      refine Ev.step (f := fun _ => some (n + (j : Int))) (fun k => ?_) (Ev.now _)
      simp only [laws_heldInt64S.l0]
      rw [_root_.if_neg (by simp [marks_length])]
    | succ d ih =>
      intro j hj
      refine Ev.step (f := fun k => laws_heldInt64S.l0 k (marks n len) (n + ((j + 1 : Nat) : Int)) ((j + 1 : Nat) : Int)) (fun k => ?_) (ih (j + 1) (by omega))
      simp only [laws_heldInt64S.l0]
      rw [_root_.if_pos (by rw [marks_length]; omega), _root_.if_pos (by omega), rd_at _ _ (by rw [marks_length]; omega), marks_get, _root_.if_pos rfl, w64 (by omega) (by omega), w64 (by omega) (by omega), Int.add_assoc]
      rfl
  exact Ev.congr (fun k => by unfold laws_heldInt64S.f; simp) (key len 0 (by omega))

theorem lanes_eq (a : Int) : spec_l02Lanes.f a = some (lanesB a) := by
  unfold spec_l02Lanes.f lanesB
  by_cases h2 : a = 2
  · subst h2; rfl
  by_cases h4 : a = 4
  · subst h4; rfl
  by_cases h8 : a = 8
  · subst h8; rfl
  rw [_root_.if_neg h2, _root_.if_neg h4, _root_.if_neg h8, beq_eq_false_iff_ne.2 h2, beq_eq_false_iff_ne.2 h4, beq_eq_false_iff_ne.2 h8]
  rfl

theorem num_ends : ∀ d (x0 : Int) (xs : List Int), d ≤ xs.length → xs.length ≤ 16 → ∃ r, r.1.length ≤ 16 ∧ Ev (fun k => impl_NumberToDigits.l0 k x0 xs ((d : Int) - 1)) r := by
  intro d
  induction d with
  | zero =>
    intro x0 xs h1 h2
    by_cases h : x0 > 0
    · exact ⟨([], false), by simp, Ev.step (fun k => impl_NumberToDigits.l0.eq_2 _ _ _ _) (Ev.if_neg (by omega) (Ev.if_pos h (Ev.now _)))⟩
    · exact ⟨(xs, true), h2, Ev.step (fun k => impl_NumberToDigits.l0.eq_2 _ _ _ _) (Ev.if_neg (by omega) (Ev.if_neg h (Ev.now _)))⟩
  | succ d ih =>
    intro x0 xs h1 h2
    obtain ⟨r, hr, he⟩ := ih (wrap64 (Int.tdiv x0 10)) (xs.set (((d + 1 : Nat) : Int) - 1).toNat (Int.tmod x0 10)) (by simp; omega) (by simpa using h2)
    refine ⟨r, hr, Ev.step (fun k => impl_NumberToDigits.l0.eq_2 _ _ _ _) (Ev.if_pos (by omega) (Ev.if_pos (by omega) (Ev.if_pos (by omega) ?_)))⟩
    have e : wrap64 (((d + 1 : Nat) : Int) - 1 - 1) = (d : Int) - 1 := by rw [w64 (by omega) (by omega)]; omega
    rw [e]; exact he

theorem NumberToDigits_ends (n m : Int) : ∃ r, r.1.length ≤ 16 ∧ Ev (fun k => impl_NumberToDigits.f k n m) r := by
  unfold impl_NumberToDigits.f
  by_cases h1 : lanesB m = true
  · have hm : 0 ≤ m ∧ m ≤ 16 := by rcases lanes_cases h1 with rfl | rfl | rfl | rfl <;> omega
    by_cases h2 : n < 0
    · exact ⟨([], false), by simp, Ev.bind' (a := lanesB m) rfl (Ev.if_pos h1 (Ev.step (fun k => impl_NumberToDigits.j0.eq_2 _ _ _ _) (Ev.if_pos (by simp [h2]) (Ev.now _))))⟩
    · obtain ⟨r, hr, he⟩ := num_ends m.toNat n (List.replicate m.toNat 0) (by simp) (by simp; omega)
      refine ⟨r, hr, Ev.bind' (a := lanesB m) rfl (Ev.if_pos h1 (Ev.step (fun k => impl_NumberToDigits.j0.eq_2 _ _ _ _) (Ev.if_neg (by simp [h2]) (Ev.if_pos (by omega) (Ev.if_pos (by omega) ?_)))))⟩
      have e : wrap64 (m - 1) = (m.toNat : Int) - 1 := by rw [w64 (by omega) (by omega)]; omega
      rw [e]; exact he
  · exact ⟨([], false), by simp, Ev.bind' (a := lanesB m) rfl (Ev.if_neg h1 (Ev.step (fun k => impl_NumberToDigits.j0.eq_2 _ _ _ _) (Ev.if_pos rfl (Ev.now _))))⟩

theorem num_same : ∀ k x0 xs i, spec_NumberToDigits.l0 k x0 xs i = impl_NumberToDigits.l0 k x0 xs i
  | 0, _, _, _ => by simp only [spec_NumberToDigits.l0, impl_NumberToDigits.l0]
  | k + 1, x0, xs, i => by simp only [spec_NumberToDigits.l0, impl_NumberToDigits.l0, num_same k]
theorem num_same_j : ∀ k x0 x1 b, spec_NumberToDigits.j0 k x0 x1 b = impl_NumberToDigits.j0 k x0 x1 b
  | 0, _, _, _ => by simp only [spec_NumberToDigits.j0, impl_NumberToDigits.j0]
  | k + 1, x0, x1, b => by simp only [spec_NumberToDigits.j0, impl_NumberToDigits.j0, num_same k]
theorem NumberToDigits_ex (n m : Int) : ∃ r : List Int × Bool, r.1.length ≤ 4611686018427387904 ∧ Ev (fun k => spec_NumberToDigits.f k n m) r ∧ Ev (fun k => impl_NumberToDigits.f k n m) r := by
  obtain ⟨r, hr, he⟩ := NumberToDigits_ends n m
  refine ⟨r, by omega, Ev.congr (fun k => ?_) he, he⟩
  unfold spec_NumberToDigits.f impl_NumberToDigits.f
  rw [lanes_eq]
  simp only [num_same_j]
  rfl

end Go.Proofs.Ytocelalollkadaa.Q
