/- Plain lemmas that the proof of FnExactPairedLines leans on. -/
import Derived.KernelRfl
import Derived.Test.YtheemkehedmlfaaY0
import Derived.Test.YtheemkehedmlfaaY10
import Derived.Test.YtheemkehedmlfaaY2
import Derived.Test.YtheemkehedmlfaaY3
import Derived.Test.YtheemkehedmlfaaY4
import Derived.Test.YtheemkehedmlfaaY5
import Derived.Test.YtheemkehedmlfaaY6
import Derived.Test.YtheemkehedmlfaaY7
import Derived.Test.YtheemkehedmlfaaY8
import Derived.Test.YtheemkehedmlfaaY9
namespace Go.Proofs.Ytheemkehedmlfaa.Y
open Go.RowKit Go.Proofs.YtheemkehedmlfaaW.PrintWords Go.Proofs.YtheemkehedmlfaaW.PrintLast Go.Proofs.YtheemkehedmlfaaW.PrintMore
set_option linter.unusedVariables false
set_option linter.unusedSimpArgs false

theorem w64 {x : Int} (h0 : -9223372036854775808 ≤ x) (h1 : x ≤ 9223372036854775807) : wrap64 x = x := by unfold wrap64; omega

theorem rd_at (l : List Int) (j : Nat) (h : j < l.length) : rd l (j : Int) = l[j] := by
  unfold rd
  rw [Int.toNat_natCast]; simp [List.getD_eq_getElem?_getD, h]

theorem Ev.if_pos {α : Type} {c : Prop} [Decidable c] {g f : Nat → Option α} {r : α} (h : c) (k : Ev g r) : Ev (fun n => if c then g n else f n) r := Ev.congr (fun n => _root_.if_pos h) k

theorem Ev.if_neg {α : Type} {c : Prop} [Decidable c] {g f : Nat → Option α} {r : α} (h : ¬ c) (k : Ev f r) : Ev (fun n => if c then g n else f n) r := Ev.congr (fun n => _root_.if_neg h) k

theorem Ev.bind' {α β : Type} {g : Option α} {f : Nat → α → Option β} {a : α} {r : β} (h : g = some a) (k : Ev (fun n => f n a) r) : Ev (fun n => g.bind (f n)) r := Ev.congr (fun n => by rw [h]; rfl) k

theorem Ev.some' {α : Type} {a r : α} (h : a = r) : Ev (fun _ => some a) r := h ▸ Ev.now a

theorem eqEv (l : List Int) (hl : l.length ≤ 4611686018427387904) : Ev (fun k => laws_eqInt64S.f k l l) true := by
  have key : ∀ d j, j + d = l.length → Ev (fun k => laws_eqInt64S.l0 k l l (j : Int)) true := by
    intro d
    induction d with
    | zero =>
      intro j hj
      exact Ev.step (f := fun _ => some true) (fun k => by simp only [laws_eqInt64S.l0]; rw [_root_.if_neg (by omega)]) (Ev.now _)
    | succ d ih =>
      intro j hj
      refine Ev.step (f := fun k => laws_eqInt64S.l0 k l l ((j + 1 : Nat) : Int)) (fun k => ?_) (ih (j + 1) (by omega))
      simp only [laws_eqInt64S.l0]
      rw [_root_.if_pos (by omega), _root_.if_pos (by omega), _root_.if_pos (by omega), w64 (by omega) (by omega)]
      rfl
  exact Ev.congr (fun k => by unfold laws_eqInt64S.f; rw [_root_.if_pos rfl]; rfl) (key l.length 0 (by omega))

/-- n, n + 1, .. -/
def marks (n : Int) (len : Nat) : List Int := (List.range len).map fun (i : Nat) => n + i

theorem marks_length (n : Int) (len : Nat) : (marks n len).length = len := by simp [marks]

theorem marks_get (n : Int) (len j : Nat) (h : j < (marks n len).length) : (marks n len)[j] = n + j := by simp [marks]

theorem marks_succ (n : Int) (j : Nat) : marks n (j + 1) = marks n j ++ [n + j] := by simp [marks, List.range_succ]

theorem markEv (l : List Int) (n : Int) (hl : l.length ≤ 4611686018427387904) (h0 : 0 ≤ n) (h1 : n ≤ 4611686018427387000) :
    Ev (fun k => laws_markInt64S.f k l n) (n + l.length, marks n l.length) := by
  have key : ∀ d j, j + d = l.length → Ev (fun k => laws_markInt64S.l0 k (marks n j ++ l.drop j) (n + j) (j : Int)) (n + l.length, marks n l.length) := by
    intro d
    induction d with
    | zero =>
      intro j hj
      obtain rfl : j = l.length := by omega
      refine Ev.step (f := fun _ => some (n + (l.length : Int), marks n l.length)) (fun k => ?_) (Ev.now _)
      simp only [laws_markInt64S.l0]
      rw [_root_.if_neg (by simp [marks_length])]
      simp
    | succ d ih =>
      intro j hj
      refine Ev.step (f := fun k => laws_markInt64S.l0 k (marks n (j + 1) ++ l.drop (j + 1)) (n + ((j + 1 : Nat) : Int)) ((j + 1 : Nat) : Int)) (fun k => ?_) (ih (j + 1) (by omega))
      simp only [laws_markInt64S.l0]
      rw [_root_.if_pos (by simp [marks_length]; omega), _root_.if_pos (by omega), w64 (by omega) (by omega), w64 (by omega) (by omega)]
      have e : (marks n j ++ l.drop j).set (j : Int).toNat (n + j) = marks n (j + 1) ++ l.drop (j + 1) := by
        rw [Int.toNat_natCast, List.set_append_right _ _ (by rw [marks_length]; exact Nat.le_refl _), marks_length, Nat.sub_self, List.drop_eq_getElem_cons (by omega : j < l.length), List.set_cons_zero, marks_succ, List.append_assoc]
        rfl
      rw [e, Int.add_assoc]; rfl
  exact Ev.congr (fun k => by unfold laws_markInt64S.f; simp [marks]) (key l.length 0 (by omega))

theorem heldEv (len : Nat) (n : Int) (hl : len ≤ 4611686018427387904) (h0 : 0 ≤ n) (h1 : n ≤ 4611686018427387000) :
    Ev (fun k => laws_heldInt64S.f k (marks n len) n) (n + len) := by
  have key : ∀ d j, j + d = len → Ev (fun k => laws_heldInt64S.l0 k (marks n len) (n + j) (j : Int)) (n + len) := by
    intro d
    induction d with
    | zero =>
      intro j hj
      obtain rfl : j = len := by omega
      refine Ev.step (f := fun _ => some (n + (j : Int))) (fun k => ?_) (Ev.now _)
      simp only [laws_heldInt64S.l0]
      rw [_root_.if_neg (by simp [marks_length])]
    | succ d ih =>
      intro j hj
      refine Ev.step (f := fun k => laws_heldInt64S.l0 k (marks n len) (n + ((j + 1 : Nat) : Int)) ((j + 1 : Nat) : Int)) (fun k => ?_) (ih (j + 1) (by omega))
      simp only [laws_heldInt64S.l0]
      rw [_root_.if_pos (by rw [marks_length]; omega), _root_.if_pos (by omega), rd_at _ _ (by rw [marks_length]; omega), marks_get, _root_.if_pos rfl, w64 (by omega) (by omega), w64 (by omega) (by omega), Int.add_assoc]
      rfl
  exact Ev.congr (fun k => by unfold laws_heldInt64S.f; simp) (key len 0 (by omega))

theorem in_eq (a b c : Int) : spec_l00In.f a b c = some (inB a b c) := by
  unfold spec_l00In.f inB
  by_cases h : b ≤ a
  · rw [_root_.if_pos h]; simp [h]
  · rw [_root_.if_neg (by omega)]; simp [h]

theorem bits_eq (a : Int) : spec_l01Bits.f a = some (bitsB a) := by
  unfold spec_l01Bits.f bitsB
  by_cases h4 : a = 4
  · subst h4; rfl
  by_cases h8 : a = 8
  · subst h8; rfl
  rw [_root_.if_neg h4, _root_.if_neg h8, beq_eq_false_iff_ne.2 h4, beq_eq_false_iff_ne.2 h8]
  rfl

theorem two_eq {b : Int} (h : bitsB b = true) : 0 ≤ IntKind.u64.wrap b ∧ wrap64 (shl .i64 1 (IntKind.u64.wrap b) - 1) = 2 ^ b.toNat - 1 ∧ wrap64 (shl .i64 1 b - 1) = 2 ^ b.toNat - 1 := by
  rcases bits_cases h with rfl | rfl | rfl <;> decide +kernel

theorem word_eq (b x : Int) : spec_l01Word.f b x = some (wordB b x) := by
  unfold spec_l01Word.f wordB
  rw [bits_eq]
  simp only [Option.bind_some]
  by_cases h : bitsB b = true
  · rw [_root_.if_pos h, _root_.if_pos (two_eq h).1, (two_eq h).2.1, in_eq, h]; rfl
  · rw [_root_.if_neg h]
    have : bitsB b = false := by simpa using h
    rw [this]; rfl

theorem within_eq' (a b c : Int) : impl_within.f a b c = some (inB a b c) := rfl

theorem opIs_eq (a : Int) : spec_l01OpIs.f a = some (inB a 0 17) := by
  unfold spec_l01OpIs.f
  rw [in_eq]; rfl

theorem isOp_eq (a : Int) : impl_isOp.f a = some (inB a 0 17) := rfl

theorem w64s (i : Nat) (h : i ≤ 1000) : wrap64 ((i : Int) + 1) = ((i + 1 : Nat) : Int) := by
  rw [w64 (by omega) (by omega)]; omega

theorem Ev.at {α : Type} {g : Nat → Option α} {r : α} (m : Nat) (h : ∀ k, g (k + m) = some r) : Ev g r :=
  ⟨m, fun k hk => by obtain ⟨j, rfl⟩ := Nat.exists_eq_add_of_le' hk; exact h j⟩

/-- A line of code that is valid for itself. -/
def lineB (b : Int) (x : S63) : Bool :=
  if x.f0 = 0 then inB x.f1 0 7 && (inB x.f2 0 17 && (inB x.f3 0 7 && inB x.f4 0 7))
  else if x.f0 = 1 then inB x.f1 0 7 && (decide (x.f2 = 0) && (decide (x.f3 = 0) && wordB b x.f4))
  else if x.f0 = 2 ∨ x.f0 = 6 then decide (x.f1 = 0) && (inB x.f2 0 5 && (inB x.f3 0 7 && inB x.f4 0 7))
  else if x.f0 = 3 ∨ x.f0 = 4 then decide (x.f1 = 0) && (decide (x.f2 = 0) && (decide (x.f3 = 0) && decide (x.f4 = 0)))
  else if x.f0 = 5 then decide (x.f1 = 0) && (decide (x.f2 = 0) && (decide (x.f3 = 0) && inB x.f4 1 8))
  else false

theorem beq_dec (a b : Int) : (a == b) = decide (a = b) := by by_cases h : a = b <;> simp [h]

theorem var_spec (x : Int) : spec_l08Var.f x = some (inB x 0 7) := by unfold spec_l08Var.f; rw [in_eq]; rfl

theorem cmp_spec (x : Int) : spec_l01CmpIs.f x = some (inB x 0 5) := by unfold spec_l01CmpIs.f; rw [in_eq]; rfl

theorem var_impl (x : Int) : impl_isVar.f x = some (inB x 0 7) := rfl

theorem cmp_impl (x : Int) : impl_isCmp.f x = some (inB x 0 5) := rfl

theorem if_b (a t : Bool) : (if a = true then some t else some false) = some (a && t) := by cases a <;> rfl

theorem if_p (p : Prop) [Decidable p] (t : Bool) : (if p then some t else some false) = some (decide p && t) := by by_cases h : p <;> simp [h]

theorem line_spec (b : Int) (x : S63) (k : Nat) : spec_l08Line.f (k + 2) b x.f0 x.f1 x.f2 x.f3 x.f4 = some (lineB b x) := by
  unfold spec_l08Line.f lineB
  simp only [var_spec, opIs_eq, cmp_spec, word_eq, Option.bind_some, if_b, if_p]
  by_cases h0 : x.f0 = 0
  · simp [h0]
  by_cases h1 : x.f0 = 1
  · simp [h1]
  by_cases h2 : x.f0 = 2
  · simp only [h2, spec_l08Line.j0, var_spec, cmp_spec, Option.bind_some, if_b, if_p]; simp
  by_cases h6 : x.f0 = 6
  · simp only [h6, spec_l08Line.j0, var_spec, cmp_spec, Option.bind_some, if_b, if_p]; simp
  by_cases h3 : x.f0 = 3
  · simp only [h3, spec_l08Line.j0, spec_l08Line.j1, var_spec, cmp_spec, Option.bind_some, if_b, if_p]; simp [beq_dec]
  by_cases h4 : x.f0 = 4
  · simp only [h4, spec_l08Line.j0, spec_l08Line.j1, var_spec, cmp_spec, Option.bind_some, if_b, if_p]; simp [beq_dec]
  by_cases h5 : x.f0 = 5
  · simp only [h5, spec_l08Line.j0, spec_l08Line.j1, in_eq, cmp_spec, Option.bind_some, if_b, if_p]; simp
  simp only [h0, h1, h2, h3, h4, h5, h6, spec_l08Line.j0, spec_l08Line.j1, or_self, if_false]
  simp [h3, h4, h5, h6]

theorem line_impl (b : Int) (x : S63) (k : Nat) : impl_isLine.f (k + 2) b x.f0 x.f1 x.f2 x.f3 x.f4 = some (lineB b x) := by
  unfold impl_isLine.f lineB
  simp only [var_impl, isOp_eq, cmp_impl, show ∀ y, impl_IsWord.f b y = some (wordB b y) from fun _ => rfl, Option.bind_some, if_b, if_p]
  by_cases h0 : x.f0 = 0
  · simp [h0]
  by_cases h1 : x.f0 = 1
  · simp [h1]
  by_cases h2 : x.f0 = 2
  · simp only [h2, impl_isLine.j0, var_impl, cmp_impl, Option.bind_some, if_b, if_p]; simp
  by_cases h6 : x.f0 = 6
  · simp only [h6, impl_isLine.j0, var_impl, cmp_impl, Option.bind_some, if_b, if_p]; simp
  by_cases h3 : x.f0 = 3
  · simp only [h3, impl_isLine.j0, impl_isLine.j1, var_impl, cmp_impl, Option.bind_some, if_b, if_p]; simp [beq_dec]
  by_cases h4 : x.f0 = 4
  · simp only [h4, impl_isLine.j0, impl_isLine.j1, var_impl, cmp_impl, Option.bind_some, if_b, if_p]; simp [beq_dec]
  by_cases h5 : x.f0 = 5
  · simp only [h5, impl_isLine.j0, impl_isLine.j1, within_eq', cmp_impl, Option.bind_some, if_b, if_p]; simp [beq_dec, Bool.and_assoc]
  simp only [h0, h1, h2, h3, h4, h5, h6, impl_isLine.j0, impl_isLine.j1, or_self, if_false]
  simp [h3, h4, h5, h6]

/-- A line that has no end yet: where it begins, which line of it waits, the stops of it. -/
structure Fr where
  b : Nat
  l : Nat
  s : List Int

def kd (L : List S63) (i : Nat) : Int := (rd_T63 L (i : Int)).f0

def ct (L : List S63) (i : Nat) : Int := (rd_T63 L (i : Int)).f4

def opn (F : List Fr) : List Int := F.map fun f => (f.b : Int)

def lst (F : List Fr) : List Int := F.map fun f => (f.l : Int)

def stp (F : List Fr) : List (List Int) := F.map fun f => f.s

def lps (L : List S63) (F : List Fr) : List Fr := F.filter fun f => kd L f.b == 5

def scanP (c : Int) : List Int → List Int
  | [] => [c]
  | x :: xs => c :: scanP (c * x) xs

def pr (c : Int) (xs : List Int) : Int := xs.foldl (· * ·) c

def cnts (L : List S63) (F : List Fr) : List Int := (lps L F).map fun f => ct L f.b

theorem scanP_len (xs : List Int) : ∀ c, (scanP c xs).length = xs.length + 1 := by
  induction xs with
  | nil => intro c; rfl
  | cons x xs ih => intro c; simp [scanP, ih]

theorem scanP_snoc (xs : List Int) (x : Int) : ∀ c, scanP c (xs ++ [x]) = scanP c xs ++ [pr c xs * x] := by
  induction xs with
  | nil => intro c; rfl
  | cons y ys ih => intro c; simp only [List.cons_append, scanP, ih, pr, List.foldl_cons]

theorem scanP_last (xs : List Int) : ∀ c, (scanP c xs).getD xs.length 0 = pr c xs := by
  induction xs with
  | nil => intro c; rfl
  | cons y ys ih => intro c; simp only [scanP, List.length_cons, List.getD_cons_succ, ih, pr, List.foldl_cons]

theorem lps_snoc (L : List S63) (F : List Fr) (f : Fr) : lps L (F ++ [f]) = if kd L f.b = 5 then lps L F ++ [f] else lps L F := by
  unfold lps
  by_cases h : kd L f.b = 5 <;> simp [List.filter_append, h]

theorem rdn (l : List Int) (i : Nat) : rd l (i : Int) = l.getD i 0 := by unfold rd; simp

theorem opn_len (F : List Fr) : (opn F).length = F.length := by simp [opn]

theorem lst_len (F : List Fr) : (lst F).length = F.length := by simp [lst]

theorem stp_len (F : List Fr) : (stp F).length = F.length := by simp [stp]

theorem opn_at (F : List Fr) (j : Nat) (h : j < F.length) : rd (opn F) (j : Int) = ((F[j]).b : Int) := by rw [rdn]; simp [opn, List.getD_eq_getElem?_getD, h]

theorem opn_snoc (G : List Fr) (f : Fr) : opn (G ++ [f]) = opn G ++ [(f.b : Int)] := by simp [opn]

theorem lst_snoc (G : List Fr) (f : Fr) : lst (G ++ [f]) = lst G ++ [(f.l : Int)] := by simp [lst]

theorem stp_snoc (G : List Fr) (f : Fr) : stp (G ++ [f]) = stp G ++ [f.s] := by simp [stp]

theorem top_b (G : List Fr) (f : Fr) : rd (opn (G ++ [f])) (G.length : Int) = (f.b : Int) := by rw [rdn, opn_snoc]; simp [List.getD_eq_getElem?_getD, opn_len, List.getElem?_append]

theorem top_l (G : List Fr) (f : Fr) : rd (lst (G ++ [f])) (G.length : Int) = (f.l : Int) := by rw [rdn, lst_snoc]; simp [List.getD_eq_getElem?_getD, lst_len, List.getElem?_append]

theorem top_s2 (G : List Fr) (f : Fr) : rd_L2 (stp (G ++ [f])) (G.length : Int) = f.s := by unfold rd_L2; rw [stp_snoc]; simp [List.getD_eq_getElem?_getD, stp_len, List.getElem?_append]

theorem top_s5 (G : List Fr) (f : Fr) : rd_L5 (stp (G ++ [f])) (G.length : Int) = f.s := by unfold rd_L5; rw [stp_snoc]; simp [List.getD_eq_getElem?_getD, stp_len, List.getElem?_append]

theorem cut_o (G : List Fr) (f : Fr) : (opn (G ++ [f])).take ((G.length : Int)).toNat = opn G := by rw [opn_snoc]; simp [List.take_append, opn_len]

theorem cut_l (G : List Fr) (f : Fr) : (lst (G ++ [f])).take ((G.length : Int)).toNat = lst G := by rw [lst_snoc]; simp [List.take_append, lst_len]

theorem cut_s (G : List Fr) (f : Fr) : (stp (G ++ [f])).take ((G.length : Int)).toNat = stp G := by rw [stp_snoc]; simp [List.take_append, stp_len]

theorem set_l (G : List Fr) (f : Fr) (i : Nat) : (lst (G ++ [f])).set ((G.length : Int)).toNat (i : Int) = lst (G ++ [⟨f.b, i, f.s⟩]) := by rw [lst_snoc, lst_snoc]; simp [List.set_append, lst_len]

theorem cnts_snoc (L : List S63) (F : List Fr) (f : Fr) : cnts L (F ++ [f]) = if kd L f.b = 5 then cnts L F ++ [ct L f.b] else cnts L F := by
  unfold cnts; rw [lps_snoc]; split <;> simp

theorem cnts_cons (L : List S63) (f : Fr) (F : List Fr) : cnts L (f :: F) = if kd L f.b = 5 then ct L f.b :: cnts L F else cnts L F := by
  unfold cnts lps; by_cases h : kd L f.b = 5 <;> simp [h]

theorem pr_snoc (c : Int) (xs : List Int) (x : Int) : pr c (xs ++ [x]) = pr c xs * x := by simp [pr]

theorem min_spec (a b : Int) : spec_l00Min.f a b = some (min a b) := by
  unfold spec_l00Min.f
  by_cases h : a < b
  · rw [_root_.if_pos h, Int.min_eq_left (by omega)]
  · rw [_root_.if_neg h, Int.min_eq_right (by omega)]

theorem cap_mul (P B : Int) (hP : 1 ≤ P) (hB : 1 ≤ B ∧ B ≤ 8) : min (wrap64 (min P 65 * B)) 65 = min (P * B) 65 := by
  have hc : B = 1 ∨ B = 2 ∨ B = 3 ∨ B = 4 ∨ B = 5 ∨ B = 6 ∨ B = 7 ∨ B = 8 := by omega
  have hm : 1 ≤ min P 65 ∧ min P 65 ≤ 65 := by omega
  rcases hc with rfl | rfl | rfl | rfl | rfl | rfl | rfl | rfl <;> (rw [w64 (by omega) (by omega)]; omega)

theorem pr_pos (xs : List Int) (h : ∀ x ∈ xs, 1 ≤ x) : ∀ c, 1 ≤ c → 1 ≤ pr c xs := by
  induction xs with
  | nil => intro c hc; exact hc
  | cons x xs ih =>
    intro c hc
    refine ih (fun y hy => h y (List.mem_cons_of_mem _ hy)) (c * x) ?_
    exact Int.mul_le_mul hc (h x (List.mem_cons_self ..)) (by omega) (by omega)

theorem rounds_go (L : List S63) (F : List Fr) (hF : F.length ≤ 1000) (hb : ∀ f ∈ F, f.b < L.length) (hc : ∀ f ∈ F, kd L f.b = 5 → 1 ≤ ct L f.b ∧ ct L f.b ≤ 8) : ∀ (d j : Nat) (P : Int), j + d = F.length → 1 ≤ P →
    Ev (fun k => spec_l08Rounds.l0 k L (opn F) (min P 65) (j : Int)) (min (pr P (cnts L (F.drop j))) 65) := by
  intro d
  induction d with
  | zero =>
    intro j P hj hP
    obtain rfl : j = F.length := by omega
    rw [List.drop_length]
    exact Ev.step (fun k => spec_l08Rounds.l0.eq_2 _ _ _ _ _) (Ev.if_neg (by rw [opn_len]; omega) (Ev.now _))
  | succ d ih =>
    intro j P hj hP
    have hj' : j < F.length := by omega
    have hm : F[j] ∈ F := List.getElem_mem hj'
    have hbj := hb _ hm
    have e : Aside0 (wrap64 ((j : Int) + 1) = ((j + 1 : Nat) : Int)) := ⟨w64s j (by omega)⟩
    rw [List.drop_eq_getElem_cons hj', cnts_cons]
    refine Ev.step (fun k => spec_l08Rounds.l0.eq_2 _ _ _ _ _) (Ev.if_pos (by rw [opn_len]; omega) (Ev.if_pos (by omega) ?_))
    rw [opn_at F j hj', e.out]
    refine Ev.if_pos (by omega) (Ev.if_pos (by omega) ?_)
    by_cases h5 : kd L (F[j]).b = 5
    · rw [_root_.if_pos h5]
      have hB := hc _ hm h5
      refine Ev.if_pos h5 (Ev.bind' (min_spec _ _) ?_)
      show Ev (fun k => spec_l08Rounds.l0 k L (opn F) (min (wrap64 (min P 65 * ct L (F[j]).b)) 65) _) _
      rw [cap_mul P _ hP hB]
      exact ih (j + 1) (P * ct L (F[j]).b) (by omega) (Int.mul_le_mul hP hB.1 (by omega) (by omega))
    · rw [_root_.if_neg h5]
      exact Ev.if_neg h5 (ih (j + 1) P (by omega) hP)

theorem rounds_eq (L : List S63) (F : List Fr) (hF : F.length ≤ 1000) (hb : ∀ f ∈ F, f.b < L.length) (hc : ∀ f ∈ F, kd L f.b = 5 → 1 ≤ ct L f.b ∧ ct L f.b ≤ 8) :
    Ev (fun k => spec_l08Rounds.f k L (opn F)) (min (pr 1 (cnts L F)) 65) := by
  unfold spec_l08Rounds.f
  exact rounds_go L F hF hb hc F.length 0 1 (by omega) (by omega)

/-- What holds ahead of line i: the frames F, the lists of both sides, the keys of the map. -/
structure Inv (L : List S63) (i : Nat) (F : List Fr) (oS oI : List Int) (m : List Int) : Prop where
  hi : i ≤ L.length
  hN : L.length ≤ 24
  ls : oS.length = L.length
  li : oI.length = L.length
  eq : ∀ j : Nat, j < i → oI.getD j 0 = oS.getD j 0
  ge : ∀ j : Nat, i ≤ j → j < L.length → oS.getD j 0 = (j : Int)
  nest : F.length ≤ 4
  prod : pr 1 (cnts L F) ≤ 64
  cnt : ∀ f ∈ F, kd L f.b = 5 → 1 ≤ ct L f.b ∧ ct L f.b ≤ 8
  kds : ∀ f ∈ F, kd L f.b = 2 ∨ kd L f.b = 5
  bl : ∀ f ∈ F, f.b ≤ f.l ∧ f.l < i
  lp : ∀ f ∈ F, kd L f.b = 5 → f.l = f.b
  el : ∀ f ∈ F, f.l ≠ f.b → kd L f.l = 3 ∧ oI.getD f.b 0 = (f.l : Int)
  mg : ∀ f ∈ F, mget m (f.b : Int) = decide (f.l ≠ f.b)
  mky : ∀ x ∈ m, x < (i : Int)
  srt : F.Pairwise (fun f g => f.b < g.b)
  st : ∀ f ∈ F, ∀ x ∈ f.s, ∃ j : Nat, x = (j : Int) ∧ j < i ∧ kd L j = 6
  st0 : ∀ f ∈ F, kd L f.b = 2 → f.s = []
  sl : ∀ f ∈ F, f.s.length ≤ i

def SP (L : List S63) (i : Nat) (oS : List Int) (F : List Fr) (r : List Int × Bool) : Prop := Ev (fun k => spec_l08Pairs.l1 k L oS (opn F) (lst F) (stp F) (i : Int)) r

def IM (b : Int) (L : List S63) (i : Nat) (oI : List Int) (F : List Fr) (m : List Int) (r : List Int × Bool) : Prop :=
  Ev (fun k => impl_paired.l0 k b L oI (opn F) (opn (lps L F)) (stp (lps L F)) (scanP 1 (cnts L F)) L (L.length : Int) (i : Int) m) r

theorem scan_last (L : List S63) (F : List Fr) : rd (scanP 1 (cnts L F)) ((lps L F).length : Int) = pr 1 (cnts L F) := by
  rw [rdn, show (lps L F).length = (cnts L F).length by simp [cnts], scanP_last]

theorem scan_len (L : List S63) (F : List Fr) : (scanP 1 (cnts L F)).length = (lps L F).length + 1 := by rw [scanP_len]; simp [cnts]

theorem lps_le (L : List S63) (F : List Fr) : (lps L F).length ≤ F.length := List.length_filter_le _ _

theorem w_pred (n : Nat) (h : n ≤ 1000) : wrap64 (((n + 1 : Nat) : Int) - 1) = (n : Int) := by rw [w64 (by omega) (by omega)]; omega

/-- The tests at the end of a round: they hold, and the next round begins. -/
theorem im_tail {α : Type} {L : List S63} {F : List Fr} {g : Nat → Option α} {r z : α} (hn : F.length ≤ 4) (hp : pr 1 (cnts L F) ≤ 64) (h : Ev g r) :
    Ev (fun k => if ((opn F).length : Int) > 4 then some z else if 0 ≤ wrap64 (((scanP 1 (cnts L F)).length : Int) - 1) then (if wrap64 (((scanP 1 (cnts L F)).length : Int) - 1) < ((scanP 1 (cnts L F)).length : Int) then (if rd (scanP 1 (cnts L F)) (wrap64 (((scanP 1 (cnts L F)).length : Int) - 1)) > 64 then some z else g k) else none) else none) r := by
  have hl := lps_le L F
  rw [scan_len, w_pred _ (by omega), scan_last, opn_len]
  exact Ev.if_neg (by omega) (Ev.if_pos (by omega) (Ev.if_pos (by omega) (Ev.if_neg (by omega) h)))

theorem im_head {b : Int} {L : List S63} {i : Nat} {oI : List Int} {F : List Fr} {m : List Int} {r : List Int × Bool} (hi : i < L.length) (hl : oI.length = L.length) (hv : lineB b (rd_T63 L (i : Int)) = true)
    (h : Ev (fun k => impl_paired.j1 k b L (oI.set i (i : Int)) (opn F) (opn (lps L F)) (stp (lps L F)) (scanP 1 (cnts L F)) (i : Int) (wrap64 (((opn F).length : Int) - 1)) L (L.length : Int) (i : Int) (kd L i) (decide (kd L i = 2 ∨ kd L i = 5)) m (kd L i) (rd_T63 L (i : Int)).f1 (rd_T63 L (i : Int)).f2 (rd_T63 L (i : Int)).f3 (ct L i)) r) : IM b L i oI F m r := by
  refine Ev.step (fun k => impl_paired.l0.eq_2 _ _ _ _ _ _ _ _ _ _ _ _) (Ev.if_pos (by omega) (Ev.if_pos (by omega) (Ev.if_pos (by omega) (Ev.if_pos (by omega) (Ev.bind' rfl (Ev.bind (Ev.at 2 fun k => line_impl b _ k) ?_))))))
  rw [hv]
  refine Ev.if_pos rfl ?_
  by_cases h2 : kd L i = 2
  · refine Ev.if_pos h2 ?_
    have e : decide (kd L i = 2 ∨ kd L i = 5) = (kd L i == 2) := by simp [h2]
    rw [e] at h
    exact h
  · refine Ev.if_neg h2 ?_
    have e : decide (kd L i = 2 ∨ kd L i = 5) = (kd L i == 5) := by simp [h2, beq_dec]
    rw [e] at h
    exact h

theorem im_bad {b : Int} {L : List S63} {i : Nat} {oI : List Int} {F : List Fr} {m : List Int} (hi : i < L.length) (hl : oI.length = L.length) (hv : lineB b (rd_T63 L (i : Int)) = false) : IM b L i oI F m ([], false) := by
  refine Ev.step (fun k => impl_paired.l0.eq_2 _ _ _ _ _ _ _ _ _ _ _ _) (Ev.if_pos (by omega) (Ev.if_pos (by omega) (Ev.if_pos (by omega) (Ev.if_pos (by omega) (Ev.bind' rfl (Ev.bind (Ev.at 2 fun k => line_impl b _ k) ?_))))))
  rw [hv]
  exact Ev.if_neg (by simp) (Ev.now _)

theorem sp_head {L : List S63} {i : Nat} {oS : List Int} {F : List Fr} {r : List Int × Bool} (hi : i < L.length) (hl : oS.length = L.length)
    (h : Ev (fun k => spec_l08Pairs.j3 k L oS (opn F) (lst F) (stp F) (i : Int) ((opn F).length : Int) (kd L i) (decide (kd L i = 2 ∨ kd L i = 5))) r) : SP L i oS F r := by
  refine Ev.step (fun k => spec_l08Pairs.l1.eq_2 _ _ _ _ _ _ _) (Ev.if_pos (by omega) (Ev.if_pos (by omega) (Ev.if_pos (by omega) ?_)))
  by_cases h2 : kd L i = 2
  · refine Ev.if_pos h2 ?_
    have e : decide (kd L i = 2 ∨ kd L i = 5) = (kd L i == 2) := by simp [h2]
    rw [e] at h
    exact h
  · refine Ev.if_neg h2 ?_
    have e : decide (kd L i = 2 ∨ kd L i = 5) = (kd L i == 5) := by simp [h2, beq_dec]
    rw [e] at h
    exact h

theorem getD_set (l : List Int) (i j : Nat) (v : Int) (h : i < l.length) : (l.set i v).getD j 0 = if j = i then v else l.getD j 0 := by
  simp only [List.getD_eq_getElem?_getD, List.getElem?_set]
  by_cases e : j = i
  · subst e; simp [h]
  · rw [_root_.if_neg (Ne.symm e), _root_.if_neg e]

theorem all_snoc {P : Fr → Prop} {F : List Fr} {f : Fr} (h : ∀ x ∈ F, P x) (hf : P f) : ∀ x ∈ F ++ [f], P x := by
  intro x hx
  rcases List.mem_append.1 hx with hx | hx
  · exact h x hx
  · rw [List.mem_singleton.1 hx]; exact hf

theorem line_ct {b : Int} {L : List S63} {i : Nat} (hv : lineB b (rd_T63 L (i : Int)) = true) (h5 : kd L i = 5) : 1 ≤ ct L i ∧ ct L i ≤ 8 := by
  unfold lineB at hv
  have e : (rd_T63 L (i : Int)).f0 = 5 := h5
  rw [e] at hv
  simp [inB] at hv
  exact hv.2.2.2

theorem line_kd {b : Int} {L : List S63} {i : Nat} (hv : lineB b (rd_T63 L (i : Int)) = true) : 0 ≤ kd L i ∧ kd L i ≤ 6 := by
  unfold lineB at hv
  show 0 ≤ (rd_T63 L (i : Int)).f0 ∧ (rd_T63 L (i : Int)).f0 ≤ 6
  generalize (rd_T63 L (i : Int)).f0 = x at hv
  by_cases h0 : x = 0
  · omega
  by_cases h1 : x = 1
  · omega
  by_cases h2 : x = 2 ∨ x = 6
  · omega
  by_cases h3 : x = 3 ∨ x = 4
  · omega
  by_cases h5 : x = 5
  · omega
  rw [_root_.if_neg h0, _root_.if_neg h1, _root_.if_neg h2, _root_.if_neg h3, _root_.if_neg h5] at hv
  cases hv

def Step (b : Int) (L : List S63) (i : Nat) (F : List Fr) (oS oI m : List Int) : Prop :=
  (∃ o, SP L i oS F (o, false) ∧ IM b L i oI F m ([], false)) ∨ ∃ oS' oI' F' m', Inv L (i + 1) F' oS' oI' m' ∧ (∀ r, SP L (i + 1) oS' F' r → SP L i oS F r) ∧ (∀ r, IM b L (i + 1) oI' F' m' r → IM b L i oI F m r)

theorem inv_next {L : List S63} {i : Nat} {F : List Fr} {oS oI m : List Int} (h : Inv L i F oS oI m) (hi : i < L.length) : Inv L (i + 1) F oS (oI.set i (i : Int)) m where
  hi := hi
  hN := h.hN
  ls := h.ls
  li := by rw [List.length_set]; exact h.li
  eq := by
    intro j hj
    rw [getD_set _ _ _ _ (by rw [h.li]; exact hi)]
    by_cases e : j = i
    · rw [_root_.if_pos e, e, h.ge i (Nat.le_refl _) hi]
    · rw [_root_.if_neg e]; exact h.eq j (by omega)
  ge := fun j hj hl => h.ge j (by omega) hl
  nest := h.nest
  prod := h.prod
  cnt := h.cnt
  kds := h.kds
  bl := fun f hf => ⟨(h.bl f hf).1, by have := (h.bl f hf).2; omega⟩
  lp := h.lp
  el := by
    intro f hf hne
    refine ⟨(h.el f hf hne).1, ?_⟩
    rw [getD_set _ _ _ _ (by rw [h.li]; exact hi), _root_.if_neg (by have := h.bl f hf; omega)]
    exact (h.el f hf hne).2
  mg := h.mg
  mky := fun x hx => by have := h.mky x hx; omega
  srt := h.srt
  st := by
    intro f hf x hx
    obtain ⟨j, e, hj, h6⟩ := h.st f hf x hx
    exact ⟨j, e, by omega, h6⟩
  st0 := h.st0
  sl := fun f hf => by have := h.sl f hf; omega

theorem mget_new {L : List S63} {i : Nat} {F : List Fr} {oS oI m : List Int} (h : Inv L i F oS oI m) : mget m (i : Int) = false := by
  unfold mget
  rw [Bool.eq_false_iff]
  intro hc
  have := h.mky _ (List.contains_iff_mem.1 hc)
  omega

theorem inv_push {L : List S63} {i : Nat} {F : List Fr} {oS oI m : List Int} (h : Inv L i F oS oI m) (hi : i < L.length) (hk : kd L i = 2 ∨ kd L i = 5) (hc : kd L i = 5 → 1 ≤ ct L i ∧ ct L i ≤ 8) (hn : F.length + 1 ≤ 4) (hp : pr 1 (cnts L (F ++ [⟨i, i, []⟩])) ≤ 64) :
    Inv L (i + 1) (F ++ [⟨i, i, []⟩]) oS (oI.set i (i : Int)) m := by
  have n := inv_next h hi
  exact { hi := n.hi, hN := n.hN, ls := n.ls, li := n.li, eq := n.eq, ge := n.ge, nest := by simp; omega, prod := hp
          cnt := all_snoc n.cnt hc
          kds := all_snoc n.kds hk
          bl := all_snoc n.bl ⟨Nat.le_refl _, by show i < i + 1; omega⟩
          lp := all_snoc n.lp (fun _ => rfl)
          el := all_snoc n.el (fun e => absurd rfl e)
          mg := all_snoc n.mg (by rw [mget_new h]; simp)
          mky := n.mky
          srt := by
            rw [List.pairwise_append]
            refine ⟨n.srt, List.pairwise_singleton _ _, fun f hf g hg => ?_⟩
            rw [List.mem_singleton.1 hg]
            have := h.bl f hf
            show f.b < i
            omega
          st := all_snoc n.st (fun x hx => by cases hx)
          st0 := all_snoc n.st0 (fun _ => rfl)
          sl := all_snoc n.sl (by show 0 ≤ i + 1; omega) }

theorem step_skip {b : Int} {L : List S63} {i : Nat} {F : List Fr} {oS oI m : List Int} (h : Inv L i F oS oI m) (hi : i < L.length) (hv : lineB b (rd_T63 L (i : Int)) = true) (hk : kd L i = 0 ∨ kd L i = 1) : Step b L i F oS oI m := by
  have hN := h.hN
  have e : Aside0 (wrap64 ((i : Int) + 1) = ((i + 1 : Nat) : Int)) := ⟨w64s i (by omega)⟩
  refine Or.inr ⟨oS, _, F, m, inv_next h hi, fun r hr => sp_head hi h.ls ?_, fun r hr => im_head hi h.li hv ?_⟩
  · refine Ev.step (fun k => spec_l08Pairs.j3.eq_2 _ _ _ _ _ _ _ _ _ _) (Ev.if_neg (by simp; omega) (Ev.if_neg (by omega) (Ev.if_neg (by omega) (Ev.if_neg (by omega) ?_))))
    rw [e.out]
    exact hr
  · refine Ev.step (fun k => impl_paired.j1.eq_2 _ _ _ _ _ _ _ _ _ _ _ _ _ _ _ _ _ _ _ _ _) (Ev.if_neg (by simp; omega) (Ev.if_neg (by omega) (Ev.if_neg (by omega) (Ev.if_neg (by omega) ?_))))
    rw [e.out]
    exact im_tail h.nest h.prod hr

theorem im_dead {α : Type} {L : List S63} {F : List Fr} {g : Nat → Option α} {z : α} (hn : F.length ≤ 1000) (h : F.length > 4 ∨ pr 1 (cnts L F) > 64) :
    Ev (fun k => if ((opn F).length : Int) > 4 then some z else if 0 ≤ wrap64 (((scanP 1 (cnts L F)).length : Int) - 1) then (if wrap64 (((scanP 1 (cnts L F)).length : Int) - 1) < ((scanP 1 (cnts L F)).length : Int) then (if rd (scanP 1 (cnts L F)) (wrap64 (((scanP 1 (cnts L F)).length : Int) - 1)) > 64 then some z else g k) else none) else none) z := by
  have hl := lps_le L F
  rw [scan_len, w_pred _ (by omega), scan_last, opn_len]
  by_cases h4 : F.length > 4
  · exact Ev.if_pos (by omega) (Ev.now _)
  · exact Ev.if_neg (by omega) (Ev.if_pos (by omega) (Ev.if_pos (by omega) (Ev.if_pos (by omega) (Ev.now _))))

theorem pr_le {L : List S63} {F : List Fr} (hc : ∀ f ∈ F, kd L f.b = 5 → 1 ≤ ct L f.b ∧ ct L f.b ≤ 8) : 1 ≤ pr 1 (cnts L F) := by
  refine pr_pos _ ?_ 1 (by omega)
  intro x hx
  obtain ⟨f, hf, rfl⟩ := List.mem_map.1 hx
  have h5 := (List.mem_filter.1 hf).2
  exact (hc f (List.mem_filter.1 hf).1 (by simpa using h5)).1

theorem mul_small {P B : Int} (hP : 1 ≤ P ∧ P ≤ 64) (hB : 1 ≤ B ∧ B ≤ 8) : 1 ≤ P * B ∧ P * B ≤ 512 := by
  have hc : B = 1 ∨ B = 2 ∨ B = 3 ∨ B = 4 ∨ B = 5 ∨ B = 6 ∨ B = 7 ∨ B = 8 := by omega
  rcases hc with rfl | rfl | rfl | rfl | rfl | rfl | rfl | rfl <;> omega

theorem step_push {b : Int} {L : List S63} {i : Nat} {F : List Fr} {oS oI m : List Int} (h : Inv L i F oS oI m) (hi : i < L.length) (hv : lineB b (rd_T63 L (i : Int)) = true) (hk : kd L i = 2 ∨ kd L i = 5) : Step b L i F oS oI m := by
  have hN := h.hN
  have hn := h.nest
  have hl := lps_le L F
  have e : Aside0 (wrap64 ((i : Int) + 1) = ((i + 1 : Nat) : Int)) := ⟨w64s i (by omega)⟩
  have e2 : Aside0 (wrap64 ((F.length : Int) + 1) = ((F.length + 1 : Nat) : Int)) := ⟨w64s F.length (by omega)⟩
  have hcb : ∀ f ∈ F ++ [(⟨i, i, []⟩ : Fr)], kd L f.b = 5 → 1 ≤ ct L f.b ∧ ct L f.b ≤ 8 := all_snoc h.cnt (line_ct hv)
  have hR := rounds_eq L (F ++ [⟨i, i, []⟩]) (by simp; omega) (all_snoc (fun f hf => by have := h.bl f hf; omega) hi) hcb
  have hP0 := pr_le h.cnt
  have hP1 := pr_le hcb
  have ho : opn F ++ [(i : Int)] = opn (F ++ [⟨i, i, []⟩]) := (opn_snoc F ⟨i, i, []⟩).symm
  have hlo : lst F ++ [(i : Int)] = lst (F ++ [⟨i, i, []⟩]) := (lst_snoc F ⟨i, i, []⟩).symm
  have hso : stp F ++ [([] : List Int)] = stp (F ++ [⟨i, i, []⟩]) := (stp_snoc F ⟨i, i, []⟩).symm
  -- the reference model's side
  have hS : ∀ r, Ev (fun k => if wrap64 (((opn F).length : Int) + 1) > 4 then some (oS, false) else (spec_l08Rounds.f k L (opn (F ++ [⟨i, i, []⟩]))).bind fun t => if t > 64 then some (oS, false) else spec_l08Pairs.l1 k L oS (opn (F ++ [⟨i, i, []⟩])) (lst (F ++ [⟨i, i, []⟩])) (stp (F ++ [⟨i, i, []⟩])) (wrap64 ((i : Int) + 1))) r → SP L i oS F r := by
    intro r hr
    refine sp_head hi h.ls (Ev.step (fun k => spec_l08Pairs.j3.eq_2 _ _ _ _ _ _ _ _ _ _) (Ev.if_pos (by simpa using hk) (Ev.if_pos (by rw [opn_len]; omega) (Ev.bind' rfl (Ev.if_pos (by rw [lst_len]; omega) (Ev.if_pos (by rw [stp_len]; omega) ?_))))))
    rw [ho, hlo, hso]
    exact hr
  -- ours
  have hI : ∀ r, Ev (fun k => if ((opn (F ++ [⟨i, i, []⟩])).length : Int) > 4 then some (([] : List Int), false) else if 0 ≤ wrap64 (((scanP 1 (cnts L (F ++ [⟨i, i, []⟩]))).length : Int) - 1) then (if wrap64 (((scanP 1 (cnts L (F ++ [⟨i, i, []⟩]))).length : Int) - 1) < ((scanP 1 (cnts L (F ++ [⟨i, i, []⟩]))).length : Int) then (if rd (scanP 1 (cnts L (F ++ [⟨i, i, []⟩]))) (wrap64 (((scanP 1 (cnts L (F ++ [⟨i, i, []⟩]))).length : Int) - 1)) > 64 then some (([] : List Int), false) else
      impl_paired.l0 k b L (oI.set i (i : Int)) (opn (F ++ [⟨i, i, []⟩])) (opn (lps L (F ++ [⟨i, i, []⟩]))) (stp (lps L (F ++ [⟨i, i, []⟩]))) (scanP 1 (cnts L (F ++ [⟨i, i, []⟩]))) L (L.length : Int) (wrap64 ((i : Int) + 1)) m) else none) else none) r → IM b L i oI F m r := by
    intro r hr
    refine im_head hi h.li hv (Ev.step (fun k => impl_paired.j1.eq_2 _ _ _ _ _ _ _ _ _ _ _ _ _ _ _ _ _ _ _ _ _) (Ev.if_pos (by simpa using hk) (Ev.if_pos (by rw [opn_len]; omega) (Ev.bind' rfl ?_))))
    rw [ho]
    by_cases h5 : kd L i = 5
    · have hp := mul_small ⟨hP0, h.prod⟩ (line_ct hv h5)
      refine Ev.if_pos h5 (Ev.if_pos (by rw [opn_len]; omega) (Ev.if_pos (by rw [stp_len]; omega) ?_))
      have hw : wrap64 (((scanP 1 (cnts L F)).length : Int) - 1) = ((lps L F).length : Int) := by rw [scan_len, w_pred _ (by omega)]
      refine Ev.if_pos (by rw [hw]; omega) (Ev.if_pos (by rw [hw, scan_len]; omega) (Ev.if_pos (by rw [scan_len]; omega) ?_))
      have hs : scanP 1 (cnts L F) ++ [wrap64 (rd (scanP 1 (cnts L F)) (wrap64 (((scanP 1 (cnts L F)).length : Int) - 1)) * ct L i)] = scanP 1 (cnts L (F ++ [⟨i, i, []⟩])) := by
        rw [hw, scan_last, w64 (by omega) (by omega), cnts_snoc, _root_.if_pos h5, scanP_snoc]
      refine Ev.bind' (congrArg some hs) ?_
      have h1 : opn (lps L F) ++ [(i : Int)] = opn (lps L (F ++ [⟨i, i, []⟩])) := by rw [lps_snoc, _root_.if_pos h5, opn_snoc]
      have h2 : stp (lps L F) ++ [([] : List Int)] = stp (lps L (F ++ [⟨i, i, []⟩])) := by rw [lps_snoc, _root_.if_pos h5, stp_snoc]
      rw [h1, h2]
      exact hr
    · refine Ev.if_neg h5 ?_
      have h1 : lps L (F ++ [⟨i, i, []⟩]) = lps L F := by rw [lps_snoc, _root_.if_neg h5]
      have h2 : cnts L (F ++ [⟨i, i, []⟩]) = cnts L F := by rw [cnts_snoc, _root_.if_neg h5]
      rw [h1, h2] at hr
      exact hr
  have hlen : (F ++ [(⟨i, i, []⟩ : Fr)]).length = F.length + 1 := by simp
  by_cases hd : F.length + 1 > 4 ∨ pr 1 (cnts L (F ++ [⟨i, i, []⟩])) > 64
  · refine Or.inl ⟨oS, hS _ ?_, hI _ (im_dead (by rw [hlen]; omega) (by rw [hlen]; exact hd))⟩
    by_cases h4 : F.length + 1 > 4
    · exact Ev.if_pos (by rw [opn_len, e2.out]; omega) (Ev.now _)
    · exact Ev.if_neg (by rw [opn_len, e2.out]; omega) (Ev.bind hR (Ev.if_pos (by omega) (Ev.now _)))
  · refine Or.inr ⟨oS, _, _, m, inv_push h hi hk (line_ct hv) (by omega) (by omega), fun r hr => hS r ?_, fun r hr => hI r (im_tail (by rw [hlen]; omega) (by omega) ?_)⟩
    · refine Ev.if_neg (by rw [opn_len, e2.out]; omega) (Ev.bind hR (Ev.if_neg (by omega) ?_))
      rw [e.out]
      exact hr
    · rw [e.out]
      exact hr

theorem mget_mset (m : List Int) (k j : Int) : mget (mset m k) j = (decide (j = k) || mget m j) := by
  unfold mget mset
  by_cases hk : m.contains k = true
  · rw [_root_.if_pos hk]
    by_cases e : j = k
    · subst e; simpa using hk
    · simp [e]
  · rw [_root_.if_neg hk]
    by_cases e : j = k
    · subst e; simp
    · simp [e]

theorem mem_mset {m : List Int} {k x : Int} (h : x ∈ mset m k) : x ∈ m ∨ x = k := by
  unfold mset at h
  split at h
  · exact Or.inl h
  · rcases List.mem_append.1 h with h | h
    · exact Or.inl h
    · exact Or.inr (List.mem_singleton.1 h)

theorem of_snoc {P : Fr → Prop} {G : List Fr} {f : Fr} (h : ∀ x ∈ G ++ [f], P x) : (∀ x ∈ G, P x) ∧ P f :=
  ⟨fun x hx => h x (List.mem_append_left _ hx), h f (List.mem_append_right _ (List.mem_singleton.2 rfl))⟩

theorem srt_lt {G : List Fr} {f : Fr} (h : (G ++ [f]).Pairwise (fun f g => f.b < g.b)) : (∀ x ∈ G, x.b < f.b) ∧ G.Pairwise (fun f g => f.b < g.b) := by
  rw [List.pairwise_append] at h
  exact ⟨fun x hx => h.2.2 x hx f (List.mem_singleton.2 rfl), h.1⟩

theorem inv_else {L : List S63} {i : Nat} {G : List Fr} {f : Fr} {oS oI m : List Int} (h : Inv L i (G ++ [f]) oS oI m) (hi : i < L.length) (h3 : kd L i = 3) (hf : f.l = f.b) (h2 : kd L f.b = 2) :
    Inv L (i + 1) (G ++ [⟨f.b, i, f.s⟩]) (oS.set f.b (i : Int)) ((oI.set i (i : Int)).set f.b (i : Int)) (mset m (f.b : Int)) := by
  have n := inv_next h hi
  have hb := (of_snoc h.bl).2
  have hs := srt_lt h.srt
  have hlS : f.b < oS.length := by rw [h.ls]; omega
  have hlI : f.b < (oI.set i (i : Int)).length := by rw [List.length_set, h.li]; omega
  exact { hi := n.hi, hN := n.hN, ls := by rw [List.length_set]; exact n.ls, li := by rw [List.length_set]; exact n.li
          eq := by
            intro j hj
            rw [getD_set _ _ _ _ hlS, getD_set _ _ _ _ hlI]
            split
            · rfl
            · exact n.eq j hj
          ge := by
            intro j hj hl
            rw [getD_set _ _ _ _ hlS, _root_.if_neg (by omega)]
            exact n.ge j hj hl
          nest := by have := n.nest; simp at this ⊢; omega
          prod := by have := n.prod; rw [cnts_snoc] at this ⊢; exact this
          cnt := all_snoc (of_snoc n.cnt).1 (of_snoc n.cnt).2
          kds := all_snoc (of_snoc n.kds).1 (of_snoc n.kds).2
          bl := all_snoc (of_snoc n.bl).1 ⟨by show f.b ≤ i; omega, by show i < i + 1; omega⟩
          lp := all_snoc (of_snoc n.lp).1 (fun h5 => by have h5 : kd L f.b = 5 := h5; omega)
          el := all_snoc (fun x hx hne => ⟨((of_snoc n.el).1 x hx hne).1, by rw [getD_set _ _ _ _ hlI, _root_.if_neg (by have := hs.1 x hx; omega)]; exact ((of_snoc n.el).1 x hx hne).2⟩)
            (fun _ => ⟨h3, by show ((oI.set i (i : Int)).set f.b (i : Int)).getD f.b 0 = _; rw [getD_set _ _ _ _ hlI, _root_.if_pos rfl]⟩)
          mg := all_snoc (fun x hx => by rw [mget_mset, (of_snoc n.mg).1 x hx]; have := hs.1 x hx; have e : ¬ ((x.b : Int) = (f.b : Int)) := (by omega); simp [e])
            (by show mget (mset m (f.b : Int)) (f.b : Int) = decide (i ≠ f.b); rw [mget_mset]; have e : i ≠ f.b := (by omega); simp [e])
          mky := fun x hx => by
            rcases mem_mset hx with hx | rfl
            · exact n.mky x hx
            · omega
          srt := by
            rw [List.pairwise_append]
            exact ⟨hs.2, List.pairwise_singleton _ _, fun x hx g hg => by rw [List.mem_singleton.1 hg]; exact hs.1 x hx⟩
          st := all_snoc (of_snoc n.st).1 (of_snoc n.st).2
          st0 := all_snoc (of_snoc n.st0).1 (of_snoc n.st0).2
          sl := all_snoc (of_snoc n.sl).1 (of_snoc n.sl).2 }

theorem step_else {b : Int} {L : List S63} {i : Nat} {F : List Fr} {oS oI m : List Int} (h : Inv L i F oS oI m) (hi : i < L.length) (hv : lineB b (rd_T63 L (i : Int)) = true) (hk : kd L i = 3) : Step b L i F oS oI m := by
  have hN := h.hN
  have e : Aside0 (wrap64 ((i : Int) + 1) = ((i + 1 : Nat) : Int)) := ⟨w64s i (by omega)⟩
  have hS : ∀ r, Ev (fun k => if ((opn F).length : Int) = 0 then some (oS, false) else if 0 ≤ wrap64 (((opn F).length : Int) - 1) then (if wrap64 (((opn F).length : Int) - 1) < ((lst F).length : Int) then (if 0 ≤ rd (lst F) (wrap64 (((opn F).length : Int) - 1)) then (if rd (lst F) (wrap64 (((opn F).length : Int) - 1)) < (L.length : Int) then (if (rd_T63 L (rd (lst F) (wrap64 (((opn F).length : Int) - 1)))).f0 = 2 then (if rd (lst F) (wrap64 (((opn F).length : Int) - 1)) < (oS.length : Int) then spec_l08Pairs.l1 k L (oS.set (rd (lst F) (wrap64 (((opn F).length : Int) - 1))).toNat (i : Int)) (opn F) ((lst F).set (wrap64 (((opn F).length : Int) - 1)).toNat (i : Int)) (stp F) (wrap64 ((i : Int) + 1)) else none) else some (oS, false)) else none) else none) else none) else none) r → SP L i oS F r := by
    intro r hr
    exact sp_head hi h.ls (Ev.step (fun k => spec_l08Pairs.j3.eq_2 _ _ _ _ _ _ _ _ _ _) (Ev.if_neg (by simp; omega) (Ev.if_pos hk hr)))
  rcases List.eq_nil_or_concat F with rfl | ⟨G, f, rfl⟩
  · refine Or.inl ⟨oS, hS _ (Ev.if_pos rfl (Ev.now _)), im_head hi h.li hv (Ev.step (fun k => impl_paired.j1.eq_2 _ _ _ _ _ _ _ _ _ _ _ _ _ _ _ _ _ _ _ _ _) (Ev.if_neg (by simp; omega) (Ev.if_pos hk (Ev.if_pos (by show wrap64 ((0 : Int) - 1) < 0; rw [w64 (by omega) (by omega)]; omega) (Ev.step (fun k => impl_paired.j2.eq_2 _ _ _ _ _ _ _ _ _ _ _ _ _ _ _) (Ev.if_pos rfl (Ev.now _)))))))⟩
  · rw [List.concat_eq_append] at h hS ⊢
    have hn := h.nest
    simp at hn
    have hb := (of_snoc h.bl).2
    have hw : wrap64 (((opn (G ++ [f])).length : Int) - 1) = (G.length : Int) := by rw [opn_len, List.length_append]; exact w_pred _ (by omega)
    have hkf := (of_snoc h.kds).2
    have hD : (kd L f.l = 2) ↔ (f.l = f.b ∧ kd L f.b = 2) := by
      constructor
      · intro h2
        by_cases hne : f.l = f.b
        · exact ⟨hne, hne ▸ h2⟩
        · have := ((of_snoc h.el).2 hne).1; omega
      · rintro ⟨e1, e2⟩
        rw [e1]; exact e2
    have hI : ∀ x r, x = (if kd L f.b = 2 then mget m (f.b : Int) else true) → Ev (fun k => impl_paired.j2 k b L (oI.set i (i : Int)) (opn (G ++ [f])) (opn (lps L (G ++ [f]))) (stp (lps L (G ++ [f]))) (scanP 1 (cnts L (G ++ [f]))) (i : Int) (G.length : Int) L (L.length : Int) (i : Int) x m) r → IM b L i oI (G ++ [f]) m r := by
      intro x r hx hr
      refine im_head hi h.li hv (Ev.step (fun k => impl_paired.j1.eq_2 _ _ _ _ _ _ _ _ _ _ _ _ _ _ _ _ _ _ _ _ _) (Ev.if_neg (by simp; omega) (Ev.if_pos hk ?_)))
      rw [hw]
      refine Ev.if_neg (by omega) (Ev.if_pos (by omega) (Ev.if_pos (by rw [opn_len, List.length_append]; simp; omega) ?_))
      rw [top_b]
      refine Ev.if_pos (by omega) (Ev.if_pos (by omega) ?_)
      by_cases h2 : kd L f.b = 2
      · rw [_root_.if_pos h2] at hx
        subst hx
        exact Ev.if_pos h2 hr
      · rw [_root_.if_neg h2] at hx
        subst hx
        exact Ev.if_neg h2 hr
    by_cases hc : f.l = f.b ∧ kd L f.b = 2
    · refine Or.inr ⟨_, _, _, _, inv_else h hi hk hc.1 hc.2, fun r hr => hS r ?_, fun r hr => hI false r (by rw [_root_.if_pos hc.2, (of_snoc h.mg).2]; simp [hc.1]) ?_⟩
      · refine Ev.if_neg (by rw [opn_len, List.length_append]; simp; omega) ?_
        rw [hw, top_l]
        refine Ev.if_pos (by omega) (Ev.if_pos (by rw [lst_len, List.length_append]; simp; omega) (Ev.if_pos (by omega) (Ev.if_pos (by omega) (Ev.if_pos (hD.2 hc) (Ev.if_pos (by rw [h.ls]; omega) ?_)))))
        rw [e.out, set_l, hc.1]
        have ho : opn (G ++ [f]) = opn (G ++ [⟨f.b, i, f.s⟩]) := by rw [opn_snoc, opn_snoc]
        have hs : stp (G ++ [f]) = stp (G ++ [⟨f.b, i, f.s⟩]) := by rw [stp_snoc, stp_snoc]
        rw [ho, hs]
        exact hr
      · refine Ev.step (fun k => impl_paired.j2.eq_2 _ _ _ _ _ _ _ _ _ _ _ _ _ _ _) (Ev.if_neg (by simp) (Ev.if_pos (by omega) (Ev.if_pos (by rw [opn_len, List.length_append]; simp; omega) ?_)))
        rw [top_b]
        refine Ev.if_pos (by omega) (Ev.if_pos (by rw [List.length_set, h.li]; omega) ?_)
        refine im_tail (by simp; omega) h.prod ?_
        rw [e.out]
        have ho : opn (G ++ [f]) = opn (G ++ [⟨f.b, i, f.s⟩]) := by rw [opn_snoc, opn_snoc]
        have hl : opn (lps L (G ++ [f])) = opn (lps L (G ++ [⟨f.b, i, f.s⟩])) := by rw [lps_snoc, lps_snoc]; show opn (if kd L f.b = 5 then _ else _) = opn (if kd L f.b = 5 then _ else _); split <;> simp [opn]
        have hs : stp (lps L (G ++ [f])) = stp (lps L (G ++ [⟨f.b, i, f.s⟩])) := by rw [lps_snoc, lps_snoc]; show stp (if kd L f.b = 5 then _ else _) = stp (if kd L f.b = 5 then _ else _); split <;> simp [stp]
        have hc' : cnts L (G ++ [f]) = cnts L (G ++ [⟨f.b, i, f.s⟩]) := by rw [cnts_snoc, cnts_snoc]
        rw [ho, hl, hs, hc']
        exact hr
    · refine Or.inl ⟨oS, hS _ ?_, hI true _ ?_ (Ev.step (fun k => impl_paired.j2.eq_2 _ _ _ _ _ _ _ _ _ _ _ _ _ _ _) (Ev.if_pos rfl (Ev.now _)))⟩
      · refine Ev.if_neg (by rw [opn_len, List.length_append]; simp; omega) ?_
        rw [hw, top_l]
        exact Ev.if_pos (by omega) (Ev.if_pos (by rw [lst_len, List.length_append]; simp; omega) (Ev.if_pos (by omega) (Ev.if_pos (by omega) (Ev.if_neg (fun h2 => hc (hD.1 h2)) (Ev.now _)))))
      · by_cases h2 : kd L f.b = 2
        · rw [_root_.if_pos h2, (of_snoc h.mg).2]
          have : f.l ≠ f.b := fun e1 => hc ⟨e1, h2⟩
          simp [this]
        · rw [_root_.if_neg h2]

theorem last_loop (L : List S63) (F : List Fr) : (∀ f ∈ F, kd L f.b ≠ 5) ∨ ∃ G f H, F = G ++ f :: H ∧ kd L f.b = 5 ∧ ∀ x ∈ H, kd L x.b ≠ 5 := by
  induction F with
  | nil => exact Or.inl (fun f hf => by cases hf)
  | cons x xs ih =>
    rcases ih with h | ⟨G, f, H, e, h5, hH⟩
    · by_cases h5 : kd L x.b = 5
      · exact Or.inr ⟨[], x, xs, rfl, h5, h⟩
      · exact Or.inl (fun f hf => (List.mem_cons.1 hf).elim (fun e => by rw [e]; exact h5) (h f))
    · exact Or.inr ⟨x :: G, f, H, by rw [e]; rfl, h5, hH⟩

theorem lps_none {L : List S63} {F : List Fr} (h : ∀ f ∈ F, kd L f.b ≠ 5) : lps L F = [] := by
  unfold lps
  rw [List.filter_eq_nil_iff]
  intro f hf hc
  exact h f hf (by simpa using hc)

theorem lps_split {L : List S63} {G H : List Fr} {f : Fr} (h5 : kd L f.b = 5) (hH : ∀ x ∈ H, kd L x.b ≠ 5) : lps L (G ++ f :: H) = lps L G ++ [f] := by
  have h1 := lps_none hH
  unfold lps at h1 ⊢
  rw [List.filter_append, List.filter_cons, h1]
  simp [h5]

/-- The way down from the innermost line that has no end yet: past those that are no loops. -/
theorem stop_down {L : List S63} {oS : List Int} {F : List Fr} {i : Nat} {r : List Int × Bool} (hF : F.length ≤ 24) (hb : ∀ f ∈ F, f.b < L.length) (g : Nat)
    (hno : ∀ q (hq : q < F.length), g ≤ q → kd L (F[q]).b ≠ 5) (hr : Ev (fun k => spec_l08Pairs.l3 k L oS (opn F) (lst F) (stp F) (i : Int) ((g : Int) - 1)) r) :
    ∀ d : Nat, g + d ≤ F.length → Ev (fun k => spec_l08Pairs.l3 k L oS (opn F) (lst F) (stp F) (i : Int) (((g + d : Nat) : Int) - 1)) r := by
  intro d
  induction d with
  | zero => intro _; exact hr
  | succ d ih =>
    intro hd
    have e : (((g + (d + 1) : Nat) : Int) - 1) = ((g + d : Nat) : Int) := by omega
    have hq : g + d < F.length := by omega
    have hbq := hb _ (List.getElem_mem hq)
    have e2 : wrap64 (((g + d : Nat) : Int) - 1) = ((g + d : Nat) : Int) - 1 := w64 (by omega) (by omega)
    rw [e]
    refine Ev.step (fun k => spec_l08Pairs.l3.eq_2 _ _ _ _ _ _ _ _) (Ev.if_pos (by omega) (Ev.if_pos (by omega) (Ev.if_pos (by rw [opn_len]; omega) ?_)))
    rw [opn_at F _ hq]
    refine Ev.if_pos (by omega) (Ev.if_pos (by omega) (Ev.if_neg (hno _ hq (by omega)) ?_))
    rw [e2]
    exact ih (by omega)

theorem all_mid {P : Fr → Prop} {G H : List Fr} {f f' : Fr} (h : ∀ x ∈ G ++ f :: H, P x) (hf : P f → P f') : ∀ x ∈ G ++ f' :: H, P x := by
  intro x hx
  rcases List.mem_append.1 hx with hx | hx
  · exact h x (List.mem_append_left _ hx)
  · rcases List.mem_cons.1 hx with rfl | hx
    · exact hf (h f (List.mem_append_right _ (List.mem_cons_self ..)))
    · exact h x (List.mem_append_right _ (List.mem_cons_of_mem _ hx))

theorem inv_stop {L : List S63} {i : Nat} {G H : List Fr} {f : Fr} {oS oI m : List Int} (h : Inv L i (G ++ f :: H) oS oI m) (hi : i < L.length) (h6 : kd L i = 6) (h5 : kd L f.b = 5) :
    Inv L (i + 1) (G ++ ⟨f.b, f.l, f.s ++ [(i : Int)]⟩ :: H) oS (oI.set i (i : Int)) m := by
  have n := inv_next h hi
  exact { hi := n.hi, hN := n.hN, ls := n.ls, li := n.li, eq := n.eq, ge := n.ge
          nest := by have := n.nest; simp at this ⊢; omega
          prod := by have := n.prod; unfold cnts lps at this ⊢; rw [List.filter_append, List.filter_cons] at this ⊢; simp [h5] at this ⊢; exact this
          cnt := all_mid n.cnt id
          kds := all_mid n.kds id
          bl := all_mid n.bl id
          lp := all_mid n.lp id
          el := all_mid n.el id
          mg := all_mid n.mg id
          mky := n.mky
          srt := by
            have := n.srt
            rw [List.pairwise_append, List.pairwise_cons] at this ⊢
            refine ⟨this.1, this.2.1, fun x hx y hy => ?_⟩
            rcases List.mem_cons.1 hy with rfl | hy
            · exact this.2.2 x hx f (List.mem_cons_self ..)
            · exact this.2.2 x hx y (List.mem_cons_of_mem _ hy)
          st := all_mid n.st (fun hs x hx => by
            rcases List.mem_append.1 hx with hx | hx
            · exact hs x hx
            · exact ⟨i, List.mem_singleton.1 hx, by omega, h6⟩)
          st0 := all_mid n.st0 (fun _ h2 => by have h2 : kd L f.b = 2 := h2; omega)
          sl := all_mid n.sl (fun _ => by have := h.sl f (List.mem_append_right _ (List.mem_cons_self ..)); show (f.s ++ [(i : Int)]).length ≤ i + 1; simp; omega) }

theorem step_stop {b : Int} {L : List S63} {i : Nat} {F : List Fr} {oS oI m : List Int} (h : Inv L i F oS oI m) (hi : i < L.length) (hv : lineB b (rd_T63 L (i : Int)) = true) (hk : kd L i = 6) : Step b L i F oS oI m := by
  have hN := h.hN
  have hn := h.nest
  have e : Aside0 (wrap64 ((i : Int) + 1) = ((i + 1 : Nat) : Int)) := ⟨w64s i (by omega)⟩
  have e1 : wrap64 ((F.length : Int) - 1) = (F.length : Int) - 1 := w64 (by omega) (by omega)
  have hbs : ∀ f ∈ F, f.b < L.length := fun f hf => by have := h.bl f hf; omega
  have hS : ∀ r, Ev (fun k => spec_l08Pairs.l3 k L oS (opn F) (lst F) (stp F) (i : Int) ((F.length : Int) - 1)) r → SP L i oS F r := by
    intro r hr
    refine sp_head hi h.ls (Ev.step (fun k => spec_l08Pairs.j3.eq_2 _ _ _ _ _ _ _ _ _ _) (Ev.if_neg (by simp; omega) (Ev.if_neg (by omega) (Ev.if_neg (by omega) (Ev.if_pos hk ?_)))))
    rw [opn_len, e1]
    exact hr
  rcases last_loop L F with hno | ⟨G, f, H, rfl, h5, hH⟩
  · refine Or.inl ⟨oS, hS _ ?_, im_head hi h.li hv (Ev.step (fun k => impl_paired.j1.eq_2 _ _ _ _ _ _ _ _ _ _ _ _ _ _ _ _ _ _ _ _ _) (Ev.if_neg (by simp; omega) (Ev.if_neg (by omega) (Ev.if_neg (by omega) (Ev.if_pos hk (Ev.if_pos (by rw [lps_none hno]; rfl) (Ev.now _))))))) ⟩
    have := stop_down (oS := oS) (i := i) (r := (oS, false)) (by omega) hbs 0 (fun q hq _ => hno _ (List.getElem_mem hq))
      (Ev.step (fun k => spec_l08Pairs.l3.eq_2 _ _ _ _ _ _ _ _) (Ev.if_neg (by omega) (Ev.if_pos (by omega) (Ev.now _)))) F.length (by omega)
    rw [Nat.zero_add] at this
    exact this
  · have hlen : (G ++ f :: H).length = G.length + 1 + H.length := by simp; omega
    have hlp := lps_split (G := G) h5 hH
    have hl := lps_le L (G ++ f :: H)
    rw [hlp] at hl
    simp at hl
    have hfm : f ∈ G ++ f :: H := List.mem_append_right _ (List.mem_cons_self ..)
    have hsl := h.sl f hfm
    have hbf := hbs f hfm
    have hat : (G ++ f :: H)[G.length]'(by rw [hlen]; omega) = f := by simp
    refine Or.inr ⟨oS, _, _, m, inv_stop h hi hk h5, fun r hr => hS r ?_, fun r hr => im_head hi h.li hv ?_⟩
    · have := stop_down (oS := oS) (i := i) (r := r) (by omega) hbs (G.length + 1) (fun q hq hle => by
        have hq' : q - (G.length + 1) < H.length := by omega
        have : (G ++ f :: H)[q] = H[q - (G.length + 1)] := by
          rw [List.getElem_append_right (by omega)]
          rw [List.getElem_cons, dif_neg (by omega)]
          congr 1
        rw [this]
        exact hH _ (List.getElem_mem hq')) ?_ H.length (by omega)
      · rw [hlen]
        exact this
      · have eG : (((G.length + 1 : Nat) : Int) - 1) = (G.length : Int) := by omega
        rw [eG]
        refine Ev.step (fun k => spec_l08Pairs.l3.eq_2 _ _ _ _ _ _ _ _) (Ev.if_pos (by omega) (Ev.if_pos (by omega) (Ev.if_pos (by rw [opn_len]; omega) ?_)))
        rw [opn_at _ _ (by omega), hat]
        refine Ev.if_pos (by omega) (Ev.if_pos (by omega) (Ev.if_pos h5 (Ev.if_neg (by omega) (Ev.if_pos (by rw [stp_len]; omega) ?_))))
        have e5 : rd_L2 (stp (G ++ f :: H)) (G.length : Int) = f.s := by unfold rd_L2 stp; simp [List.getD_eq_getElem?_getD, List.getElem?_append]
        rw [e5]
        refine Ev.if_pos (by omega) ?_
        have ho : opn (G ++ f :: H) = opn (G ++ ⟨f.b, f.l, f.s ++ [(i : Int)]⟩ :: H) := by simp [opn]
        have hlo : lst (G ++ f :: H) = lst (G ++ ⟨f.b, f.l, f.s ++ [(i : Int)]⟩ :: H) := by simp [lst]
        have hso : (stp (G ++ f :: H)).set ((G.length : Int)).toNat (f.s ++ [(i : Int)]) = stp (G ++ ⟨f.b, f.l, f.s ++ [(i : Int)]⟩ :: H) := by simp [stp, List.set_append]
        rw [e.out, ho, hlo, hso]
        exact hr
    · refine Ev.step (fun k => impl_paired.j1.eq_2 _ _ _ _ _ _ _ _ _ _ _ _ _ _ _ _ _ _ _ _ _) (Ev.if_neg (by simp; omega) (Ev.if_neg (by omega) (Ev.if_neg (by omega) (Ev.if_pos hk ?_))))
      have hw : wrap64 (((opn (lps L (G ++ f :: H))).length : Int) - 1) = ((lps L G).length : Int) := by rw [hlp, opn_len, List.length_append]; exact w_pred _ (by omega)
      rw [hw]
      refine Ev.if_neg (by rw [hlp, opn_len, List.length_append]; simp; omega) (Ev.if_pos (by omega) (Ev.if_pos (by rw [hlp, stp_len, List.length_append]; simp; omega) ?_))
      have e5 : rd_L5 (stp (lps L (G ++ f :: H))) ((lps L G).length : Int) = f.s := by rw [hlp]; exact top_s5 _ _
      rw [e5]
      refine Ev.if_pos (by omega) (im_tail h.nest h.prod ?_)
      have hlp' : lps L (G ++ ⟨f.b, f.l, f.s ++ [(i : Int)]⟩ :: H) = lps L G ++ [⟨f.b, f.l, f.s ++ [(i : Int)]⟩] := lps_split h5 hH
      have ho : opn (G ++ f :: H) = opn (G ++ ⟨f.b, f.l, f.s ++ [(i : Int)]⟩ :: H) := by simp [opn]
      have hol : opn (lps L (G ++ f :: H)) = opn (lps L (G ++ ⟨f.b, f.l, f.s ++ [(i : Int)]⟩ :: H)) := by rw [hlp, hlp', opn_snoc, opn_snoc]
      have hc : cnts L (G ++ f :: H) = cnts L (G ++ ⟨f.b, f.l, f.s ++ [(i : Int)]⟩ :: H) := by unfold cnts; rw [hlp, hlp']; simp
      have hso : (stp (lps L (G ++ f :: H))).set (((lps L G).length : Int)).toNat (f.s ++ [(i : Int)]) = stp (lps L (G ++ ⟨f.b, f.l, f.s ++ [(i : Int)]⟩ :: H)) := by rw [hlp, hlp', stp_snoc, stp_snoc]; simp [List.set_append, stp_len]
      rw [e.out, hso, hol, hc, ho]
      exact hr

/-- The stops of a loop are told where it ends. -/
def setAll (o : List Int) (s : List Int) (v : Int) : List Int := s.foldl (fun o x => o.set x.toNat v) o

theorem setAll_len (s : List Int) (v : Int) : ∀ o : List Int, (setAll o s v).length = o.length := by
  induction s with
  | nil => intro o; rfl
  | cons x xs ih => intro o; show (setAll (o.set x.toNat v) xs v).length = _; rw [ih, List.length_set]

theorem setAll_far (s : List Int) (v : Int) (j : Nat) (hs : ∀ x ∈ s, ∃ q : Nat, x = (q : Int) ∧ q ≠ j) : ∀ o : List Int, (setAll o s v).getD j 0 = o.getD j 0 := by
  induction s with
  | nil => intro o; rfl
  | cons x xs ih =>
    intro o
    show (setAll (o.set x.toNat v) xs v).getD j 0 = _
    rw [ih (fun y hy => hs y (List.mem_cons_of_mem _ hy))]
    obtain ⟨q, rfl, hq⟩ := hs x (List.mem_cons_self ..)
    simp only [List.getD_eq_getElem?_getD, List.getElem?_set, Int.toNat_natCast]
    rw [_root_.if_neg hq]

theorem setAll_eq (s : List Int) (v : Int) (n : Nat) (hs : ∀ x ∈ s, ∃ q : Nat, x = (q : Int) ∧ q < n) : ∀ A B : List Int, n ≤ A.length → n ≤ B.length → (∀ j : Nat, j < n → A.getD j 0 = B.getD j 0) → ∀ j : Nat, j < n → (setAll A s v).getD j 0 = (setAll B s v).getD j 0 := by
  induction s with
  | nil => intro A B _ _ h; exact h
  | cons x xs ih =>
    intro A B hA hB h
    obtain ⟨q, rfl, hq⟩ := hs x (List.mem_cons_self ..)
    refine ih (fun y hy => hs y (List.mem_cons_of_mem _ hy)) (A.set ((q : Int)).toNat v) (B.set ((q : Int)).toNat v) (by rw [List.length_set]; exact hA) (by rw [List.length_set]; exact hB) ?_
    intro j hj
    rw [Int.toNat_natCast, getD_set _ _ _ _ (by omega), getD_set _ _ _ _ (by omega), h j hj]

theorem setAll_drop (o s : List Int) (v : Int) (j : Nat) (hj : j < s.length) : setAll (o.set (s[j]).toNat v) (s.drop (j + 1)) v = setAll o (s.drop j) v := by
  rw [List.drop_eq_getElem_cons hj]; rfl

/-- The reference model's loop over the stops. -/
theorem stops_spec {L : List S63} {G : List Fr} {f : Fr} {i : Nat} {r : List Int × Bool} (hG : G.length ≤ 24) (hi : i < 1000) (hl : f.s.length ≤ 1000) : ∀ (d j : Nat) (o : List Int), j + d = f.s.length → (∀ x ∈ f.s, ∃ q : Nat, x = (q : Int) ∧ q < o.length) →
    SP L (i + 1) (setAll o (f.s.drop j) (i : Int)) G r → Ev (fun k => spec_l08Pairs.l2 k L o (opn (G ++ [f])) (lst (G ++ [f])) (stp (G ++ [f])) (i : Int) (((G ++ [f]).length : Nat) : Int) (j : Int)) r := by
  have hw : wrap64 ((((G ++ [f]).length : Nat) : Int) - 1) = (G.length : Int) := by rw [List.length_append]; exact w_pred _ (by omega)
  intro d
  induction d with
  | zero =>
    intro j o hj hs hr
    refine Ev.step (fun k => spec_l08Pairs.l2.eq_2 _ _ _ _ _ _ _ _ _) ?_
    rw [hw, top_s2]
    refine Ev.if_pos (by omega) (Ev.if_pos (by rw [stp_len, List.length_append]; simp; omega) (Ev.if_neg (by omega) (Ev.if_pos (by rw [opn_len, List.length_append]; simp; omega) (Ev.if_pos (by rw [lst_len, List.length_append]; simp; omega) (Ev.if_pos (by rw [stp_len, List.length_append]; simp; omega) ?_)))))
    rw [cut_o, cut_l, cut_s, w64s i (by omega)]
    have e : f.s.drop j = [] := List.drop_eq_nil_of_le (by omega)
    rw [e] at hr
    exact hr
  | succ d ih =>
    intro j o hj hs hr
    have hj' : j < f.s.length := by omega
    obtain ⟨q, hq, hlt⟩ := hs _ (List.getElem_mem hj')
    have hrd : rd f.s (j : Int) = (q : Int) := by rw [rdn]; simp [List.getD_eq_getElem?_getD, hj', hq]
    refine Ev.step (fun k => spec_l08Pairs.l2.eq_2 _ _ _ _ _ _ _ _ _) ?_
    rw [hw, top_s2, hrd]
    refine Ev.if_pos (by omega) (Ev.if_pos (by rw [stp_len, List.length_append]; simp; omega) (Ev.if_pos (by omega) (Ev.if_pos (by omega) (Ev.if_pos (by omega) (Ev.if_pos (by omega) ?_)))))
    rw [w64s j (by omega)]
    refine ih (j + 1) (o.set ((q : Int)).toNat (i : Int)) (by omega) (fun x hx => by rw [List.length_set]; exact hs x hx) ?_
    have e := setAll_drop o f.s (i : Int) j hj'
    rw [hq] at e
    rw [e]
    exact hr

theorem cut_scan {L : List S63} {G : List Fr} {f : Fr} (h5 : kd L f.b = 5) : (scanP 1 (cnts L (G ++ [f]))).take (((lps L G).length + 1 : Nat)) = scanP 1 (cnts L G) := by
  rw [cnts_snoc, _root_.if_pos h5, scanP_snoc, ← scan_len L G]
  simp

/-- Our loop over the stops, and what comes behind it. -/
theorem stops_impl {b : Int} {L : List S63} {G : List Fr} {f : Fr} {i : Nat} {m : List Int} {r : List Int × Bool} (hG : G.length ≤ 4) (hp : pr 1 (cnts L G) ≤ 64) (h5 : kd L f.b = 5) (hi : i < 1000) (hl : f.s.length ≤ 1000) : ∀ (d j : Nat) (o : List Int), j + d = f.s.length → (∀ x ∈ f.s, ∃ q : Nat, x = (q : Int) ∧ q < o.length) →
    IM b L (i + 1) (setAll o (f.s.drop j) (i : Int)) G m r → Ev (fun k => impl_paired.l1 k b L o (opn (G ++ [f])) (opn (lps L (G ++ [f]))) (stp (lps L (G ++ [f]))) (scanP 1 (cnts L (G ++ [f]))) (i : Int) (G.length : Int) ((lps L G).length : Int) L (L.length : Int) (i : Int) f.s (f.s.length : Int) (j : Int) m) r := by
  have hlg := lps_le L G
  have hlp : lps L (G ++ [f]) = lps L G ++ [f] := by rw [lps_snoc, _root_.if_pos h5]
  have hsl : (scanP 1 (cnts L (G ++ [f]))).length = (lps L G).length + 1 + 1 := by rw [scan_len, hlp]; simp
  have hw : wrap64 (((scanP 1 (cnts L (G ++ [f]))).length : Int) - 1) = (((lps L G).length + 1 : Nat) : Int) := by rw [hsl]; exact w_pred _ (by omega)
  intro d
  induction d with
  | zero =>
    intro j o hj hs hr
    refine Ev.step (fun k => impl_paired.l1.eq_2 _ _ _ _ _ _ _ _ _ _ _ _ _ _ _ _ _ _) ?_
    rw [hw]
    refine Ev.if_neg (by omega) (Ev.if_pos (by omega) (Ev.if_pos (by rw [hlp, opn_len, List.length_append]; simp; omega) (Ev.if_pos (by rw [hlp, stp_len, List.length_append]; simp; omega) (Ev.if_pos (by omega) (Ev.if_pos (by rw [hsl]; omega) ?_)))))
    rw [Int.toNat_natCast, cut_scan h5]
    refine Ev.bind' rfl (Ev.if_pos (by omega) (Ev.if_pos (by rw [opn_len, List.length_append]; simp; omega) ?_))
    rw [cut_o]
    refine Ev.bind' rfl (im_tail hG hp ?_)
    rw [hlp, cut_o, cut_s, w64s i (by omega)]
    have e : f.s.drop j = [] := List.drop_eq_nil_of_le (by omega)
    rw [e] at hr
    exact hr
  | succ d ih =>
    intro j o hj hs hr
    have hj' : j < f.s.length := by omega
    obtain ⟨q, hq, hlt⟩ := hs _ (List.getElem_mem hj')
    have hrd : rd f.s (j : Int) = (q : Int) := by rw [rdn]; simp [List.getD_eq_getElem?_getD, hj', hq]
    refine Ev.step (fun k => impl_paired.l1.eq_2 _ _ _ _ _ _ _ _ _ _ _ _ _ _ _ _ _ _) ?_
    rw [hrd]
    refine Ev.if_pos (by omega) (Ev.if_pos (by omega) (Ev.if_pos (by omega) (Ev.if_pos (by omega) (Ev.if_pos (by omega) ?_))))
    rw [w64s j (by omega)]
    refine ih (j + 1) (o.set ((q : Int)).toNat (i : Int)) (by omega) (fun x hx => by rw [List.length_set]; exact hs x hx) ?_
    have e := setAll_drop o f.s (i : Int) j hj'
    rw [hq] at e
    rw [e]
    exact hr

theorem inv_end {L : List S63} {i : Nat} {G : List Fr} {f : Fr} {oS oI m : List Int} (h : Inv L i (G ++ [f]) oS oI m) (hi : i < L.length) :
    Inv L (i + 1) G (setAll ((oS.set f.l (i : Int)).set i (f.b : Int)) f.s (i : Int)) (setAll (((oI.set i (i : Int)).set i (f.b : Int)).set f.l (i : Int)) f.s (i : Int)) m := by
  have n := inv_next h hi
  have hb := (of_snoc h.bl).2
  have hs := srt_lt h.srt
  have hst := (of_snoc h.st).2
  have lS : ∀ x : List Int, x.length = L.length → i < x.length ∧ f.l < x.length := fun x hx => by rw [hx]; omega
  have e1 : (oI.set i (i : Int)).length = L.length := by rw [List.length_set]; exact h.li
  have e2 : ((oI.set i (i : Int)).set i (f.b : Int)).length = L.length := by rw [List.length_set]; exact e1
  have e3 : (oS.set f.l (i : Int)).length = L.length := by rw [List.length_set]; exact h.ls
  have hle := lps_le L G
  exact { hi := n.hi, hN := n.hN, ls := by rw [setAll_len, List.length_set]; exact e3, li := by rw [setAll_len, List.length_set]; exact e2
          eq := by
            refine setAll_eq f.s (i : Int) (i + 1) (fun x hx => ?_) _ _ (by rw [List.length_set, e2]; omega) (by rw [List.length_set, e3]; omega) ?_
            · obtain ⟨q, e, hq, _⟩ := hst x hx
              exact ⟨q, e, by omega⟩
            · intro j hj
              rw [getD_set _ _ _ _ (lS _ e2).2, getD_set _ _ _ _ (lS _ e1).1, getD_set _ _ _ _ (lS _ e3).1, getD_set _ _ _ _ (lS _ h.ls).2]
              by_cases a1 : j = f.l
              · rw [_root_.if_pos a1, _root_.if_neg (by omega), _root_.if_pos a1]
              · rw [_root_.if_neg a1, _root_.if_neg a1, n.eq j hj]
          ge := by
            intro j hj hl
            rw [setAll_far f.s _ j (fun x hx => by obtain ⟨q, e, hq, _⟩ := hst x hx; exact ⟨q, e, by omega⟩), getD_set _ _ _ _ (lS _ e3).1, _root_.if_neg (by omega), getD_set _ _ _ _ (lS _ h.ls).2, _root_.if_neg (by omega)]
            exact n.ge j hj hl
          nest := by have := n.nest; simp at this; omega
          prod := by
            have hp := n.prod
            rw [cnts_snoc] at hp
            split at hp
            · rename_i h5
              rw [pr_snoc] at hp
              have hc := (of_snoc n.cnt).2 h5
              have hP := pr_le (of_snoc n.cnt).1
              have hm : pr 1 (cnts L G) * 1 ≤ pr 1 (cnts L G) * ct L f.b := Int.mul_le_mul_of_nonneg_left hc.1 (by omega)
              omega
            · exact hp
          cnt := (of_snoc n.cnt).1
          kds := (of_snoc n.kds).1
          bl := (of_snoc n.bl).1
          lp := (of_snoc n.lp).1
          el := by
            intro x hx hne
            obtain ⟨h3, hv⟩ := (of_snoc n.el).1 x hx hne
            refine ⟨h3, ?_⟩
            have hlt := hs.1 x hx
            have hkx := (of_snoc h.kds).1 x hx
            have hxb := (of_snoc h.bl).1 x hx
            have hxl : x.b ≠ f.l := by
              intro e
              by_cases a : f.l = f.b
              · omega
              · have := ((of_snoc h.el).2 a).1
                rw [← e] at this
                omega
            rw [setAll_far f.s _ x.b (fun y hy => by obtain ⟨q, e, hq, h6⟩ := hst y hy; exact ⟨q, e, fun e' => by rw [e'] at h6; omega⟩), getD_set _ _ _ _ (lS _ e2).2, _root_.if_neg hxl, getD_set _ _ _ _ (lS _ e1).1, _root_.if_neg (by omega)]
            exact hv
          mg := (of_snoc n.mg).1
          mky := n.mky
          srt := hs.2
          st := (of_snoc n.st).1
          st0 := (of_snoc n.st0).1
          sl := (of_snoc n.sl).1 }

theorem step_end {b : Int} {L : List S63} {i : Nat} {F : List Fr} {oS oI m : List Int} (h : Inv L i F oS oI m) (hi : i < L.length) (hv : lineB b (rd_T63 L (i : Int)) = true) (hk : kd L i = 4) : Step b L i F oS oI m := by
  have hN := h.hN
  rcases List.eq_nil_or_concat F with rfl | ⟨G, f, rfl⟩
  · refine Or.inl ⟨oS, sp_head hi h.ls (Ev.step (fun k => spec_l08Pairs.j3.eq_2 _ _ _ _ _ _ _ _ _ _) (Ev.if_neg (by simp; omega) (Ev.if_neg (by omega) (Ev.if_pos hk (Ev.if_pos rfl (Ev.now _)))))),
      im_head hi h.li hv (Ev.step (fun k => impl_paired.j1.eq_2 _ _ _ _ _ _ _ _ _ _ _ _ _ _ _ _ _ _ _ _ _) (Ev.if_neg (by simp; omega) (Ev.if_neg (by omega) (Ev.if_pos hk (Ev.if_pos (by show wrap64 ((0 : Int) - 1) < 0; rw [w64 (by omega) (by omega)]; omega) (Ev.now _))))))⟩
  · rw [List.concat_eq_append] at h ⊢
    have hI := inv_end h hi
    have hn := h.nest
    simp at hn
    have hb := (of_snoc h.bl).2
    have hsl := (of_snoc h.sl).2
    have hst := (of_snoc h.st).2
    have hkf := (of_snoc h.kds).2
    have e : Aside0 (wrap64 ((i : Int) + 1) = ((i + 1 : Nat) : Int)) := ⟨w64s i (by omega)⟩
    have hw : wrap64 (((opn (G ++ [f])).length : Int) - 1) = (G.length : Int) := by rw [opn_len, List.length_append]; exact w_pred _ (by omega)
    have e1 : (oI.set i (i : Int)).length = L.length := by rw [List.length_set]; exact h.li
    have e2 : ((oI.set i (i : Int)).set i (f.b : Int)).length = L.length := by rw [List.length_set]; exact e1
    refine Or.inr ⟨_, _, G, m, hI, fun r hr => sp_head hi h.ls ?_, fun r hr => im_head hi h.li hv ?_⟩
    · refine Ev.step (fun k => spec_l08Pairs.j3.eq_2 _ _ _ _ _ _ _ _ _ _) (Ev.if_neg (by simp; omega) (Ev.if_neg (by omega) (Ev.if_pos hk (Ev.if_neg (by rw [opn_len, List.length_append]; simp; omega) ?_))))
      rw [hw, top_l, top_b, opn_len]
      refine Ev.if_pos (by omega) (Ev.if_pos (by rw [lst_len, List.length_append]; simp; omega) (Ev.if_pos (by omega) (Ev.if_pos (by rw [h.ls]; omega) (Ev.if_pos (by rw [List.length_append]; simp; omega) (Ev.if_pos (by omega) (Ev.if_pos (by rw [h.ls]; omega) ?_))))))
      exact stops_spec (by omega) (by omega) (by omega) f.s.length 0 _ (by omega) (fun x hx => by obtain ⟨q, eq_, hq, _⟩ := hst x hx; exact ⟨q, eq_, by rw [List.length_set, List.length_set, h.ls]; omega⟩) hr
    · refine Ev.step (fun k => impl_paired.j1.eq_2 _ _ _ _ _ _ _ _ _ _ _ _ _ _ _ _ _ _ _ _ _) (Ev.if_neg (by simp; omega) (Ev.if_neg (by omega) (Ev.if_pos hk ?_)))
      rw [hw, top_b]
      refine Ev.if_neg (by omega) (Ev.if_pos (by omega) (Ev.if_pos (by rw [opn_len, List.length_append]; simp; omega) (Ev.if_pos (by omega) (Ev.if_pos (by rw [e1]; omega) (Ev.bind' rfl (Ev.if_pos (by omega) (Ev.if_pos (by omega) ?_)))))))
      by_cases h5 : kd L f.b = 5
      · have hfl := (of_snoc h.lp).2 h5
        have hlp : lps L (G ++ [f]) = lps L G ++ [f] := by rw [lps_snoc, _root_.if_pos h5]
        have hlg := lps_le L G
        have hw2 : wrap64 (((opn (lps L (G ++ [f]))).length : Int) - 1) = ((lps L G).length : Int) := by rw [hlp, opn_len, List.length_append]; exact w_pred _ (by omega)
        refine Ev.if_pos h5 (Ev.if_pos (by rw [e1]; omega) ?_)
        rw [hw2]
        refine Ev.if_pos (by omega) (Ev.if_pos (by rw [hlp, stp_len, List.length_append]; simp; omega) ?_)
        have e5 : rd_L5 (stp (lps L (G ++ [f]))) ((lps L G).length : Int) = f.s := by rw [hlp]; exact top_s5 _ _
        rw [e5]
        refine stops_impl (by omega) hI.prod h5 (by omega) (by omega) f.s.length 0 _ (by omega) (fun x hx => by obtain ⟨q, eq_, hq, _⟩ := hst x hx; exact ⟨q, eq_, by rw [List.length_set, Int.toNat_natCast, e2]; omega⟩) ?_
        rw [hfl] at hr
        exact hr
      · have h2 : kd L f.b = 2 := by omega
        have hfs := (of_snoc h.st0).2 h2
        have hlp : lps L (G ++ [f]) = lps L G := by rw [lps_snoc, _root_.if_neg h5]
        have hcn : cnts L (G ++ [f]) = cnts L G := by rw [cnts_snoc, _root_.if_neg h5]
        rw [hfs] at hr
        rw [hlp, hcn]
        refine Ev.if_neg h5 ?_
        by_cases hm : mget m (f.b : Int) = true
        · have hne : f.l ≠ f.b := by rw [(of_snoc h.mg).2] at hm; simpa using hm
          have hol := ((of_snoc h.el).2 hne).2
          have hrd : rd ((oI.set i (i : Int)).set ((i : Int)).toNat (f.b : Int)) (f.b : Int) = (f.l : Int) := by
            rw [rdn, Int.toNat_natCast, getD_set _ _ _ _ (by rw [e1]; omega), _root_.if_neg (by omega), getD_set _ _ _ _ (by rw [h.li]; omega), _root_.if_neg (by omega)]
            exact hol
          refine Ev.if_pos hm (Ev.if_pos (by rw [e1]; omega) ?_)
          rw [hrd]
          refine Ev.if_pos (by omega) (Ev.if_pos (by rw [e1]; omega) (Ev.if_pos (by rw [opn_len, List.length_append]; simp; omega) ?_))
          rw [cut_o]
          refine Ev.bind' rfl (im_tail (by omega) hI.prod ?_)
          rw [e.out]
          exact hr
        · have hfl : f.l = f.b := by rw [(of_snoc h.mg).2] at hm; simpa using hm
          refine Ev.if_neg hm (Ev.if_pos (by rw [e1]; omega) (Ev.if_pos (by rw [opn_len, List.length_append]; simp; omega) ?_))
          rw [cut_o]
          refine Ev.bind' rfl (im_tail (by omega) hI.prod ?_)
          rw [e.out]
          rw [hfl] at hr
          exact hr

theorem step_all {b : Int} {L : List S63} {i : Nat} {F : List Fr} {oS oI m : List Int} (h : Inv L i F oS oI m) (hi : i < L.length) (hv : lineB b (rd_T63 L (i : Int)) = true) : Step b L i F oS oI m := by
  have hk := line_kd hv
  by_cases h0 : kd L i = 0 ∨ kd L i = 1
  · exact step_skip h hi hv h0
  by_cases h2 : kd L i = 2 ∨ kd L i = 5
  · exact step_push h hi hv h2
  by_cases h3 : kd L i = 3
  · exact step_else h hi hv h3
  by_cases h4 : kd L i = 4
  · exact step_end h hi hv h4
  exact step_stop h hi hv (by omega)

theorem sim_ok (b : Int) (L : List S63) : ∀ (d i : Nat) (F : List Fr) (oS oI m : List Int), i + d = L.length → Inv L i F oS oI m → (∀ j : Nat, i ≤ j → j < L.length → lineB b (rd_T63 L (j : Int)) = true) →
    ∃ (ok : Bool) (o o' : List Int), SP L i oS F (o, ok) ∧ IM b L i oI F m (o', ok) ∧ (ok = true → o = o' ∧ o.length ≤ 24) := by
  intro d
  induction d with
  | zero =>
    intro i F oS oI m hd h _
    obtain rfl : i = L.length := by omega
    have hN := h.hN
    have heq : oS = oI := by
      apply List.ext_getElem (by rw [h.ls, h.li])
      intro j h1 h2
      have := h.eq j (by rw [h.ls] at h1; exact h1)
      simp only [List.getD_eq_getElem?_getD, List.getElem?_eq_getElem h1, List.getElem?_eq_getElem h2] at this
      exact this.symm
    refine ⟨decide (F.length = 0), oS, oI, ?_, ?_, fun _ => ⟨heq, by rw [h.ls]; exact hN⟩⟩
    · refine Ev.step (fun k => spec_l08Pairs.l1.eq_2 _ _ _ _ _ _ _) (Ev.if_neg (by rw [h.ls]; omega) ?_)
      rw [opn_len]
      by_cases h0 : F.length = 0
      · exact Ev.if_pos (by omega) (Ev.some' (by rw [decide_eq_true h0, decide_eq_true (by omega)]))
      · exact Ev.if_neg (by omega) (Ev.some' (by rw [decide_eq_false h0]))
    · refine Ev.step (fun k => impl_paired.l0.eq_2 _ _ _ _ _ _ _ _ _ _ _ _) (Ev.if_neg (by omega) (Ev.some' ?_))
      rw [opn_len]
      by_cases h0 : F.length = 0
      · rw [decide_eq_true h0, h0]; rfl
      · rw [decide_eq_false h0, beq_eq_false_iff_ne.mpr (by omega)]
  | succ d ih =>
    intro i F oS oI m hd h hv
    rcases step_all h (by omega) (hv i (Nat.le_refl _) (by omega)) with ⟨o, h1, h2⟩ | ⟨oS', oI', F', m', h', h1, h2⟩
    · exact ⟨false, o, [], h1, h2, fun e => by cases e⟩
    · obtain ⟨ok, o, o', a1, a2, a3⟩ := ih (i + 1) F' oS' oI' m' (by omega) h' (fun j hj hl => hv j (by omega) hl)
      exact ⟨ok, o, o', h1 _ a1, h2 _ a2, a3⟩

theorem sim_bad (b : Int) (L : List S63) : ∀ (d i : Nat) (F : List Fr) (oS oI m : List Int), i + d = L.length → Inv L i F oS oI m → (∃ j : Nat, i ≤ j ∧ j < L.length ∧ lineB b (rd_T63 L (j : Int)) = false) → IM b L i oI F m ([], false) := by
  intro d
  induction d with
  | zero =>
    intro i F oS oI m hd _ hx
    obtain ⟨j, h1, h2, _⟩ := hx
    omega
  | succ d ih =>
    intro i F oS oI m hd h hx
    by_cases hv : lineB b (rd_T63 L (i : Int)) = true
    · rcases step_all h (by omega) hv with ⟨o, h1, h2⟩ | ⟨oS', oI', F', m', h', h1, h2⟩
      · exact h2
      · refine h2 _ (ih (i + 1) F' oS' oI' m' (by omega) h' ?_)
        obtain ⟨j, h1, h2, h3⟩ := hx
        refine ⟨j, ?_, h2, h3⟩
        by_cases e : j = i
        · rw [e, hv] at h3; cases h3
        · omega
    · exact im_bad (by omega) h.li (by simpa using hv)

def idl (n : Nat) : List Int := (List.range n).map (fun k : Nat => (k : Int))

theorem idl_len (n : Nat) : (idl n).length = n := by simp [idl]

theorem idl_succ (n : Nat) : idl n ++ [(n : Int)] = idl (n + 1) := by simp [idl, List.range_succ]

theorem inv_start {L : List S63} (hN : L.length ≤ 24) : Inv L 0 [] (idl L.length) (List.replicate L.length 0) [] :=
  { hi := Nat.zero_le _, hN := hN, ls := idl_len _, li := by simp, eq := fun j hj => absurd hj (by omega)
    ge := fun j _ hj => by simp [idl, List.getD_eq_getElem?_getD, hj]
    nest := by simp, prod := by simp [cnts, lps, pr], cnt := by simp, kds := by simp, bl := by simp, lp := by simp, el := by simp, mg := by simp, mky := by simp, srt := List.Pairwise.nil, st := by simp, st0 := by simp, sl := by simp }

theorem spec_first {b : Int} {L : List S63} (hN : L.length ≤ 24) : ∀ (d j : Nat), j + d = L.length →
    ((∀ q : Nat, j ≤ q → q < L.length → lineB b (rd_T63 L (q : Int)) = true) → ∀ r, SP L 0 (idl L.length) [] r → Ev (fun k => spec_l08Pairs.l0 k b L (idl j) (j : Int)) r) ∧
    ((∃ q : Nat, j ≤ q ∧ q < L.length ∧ lineB b (rd_T63 L (q : Int)) = false) → ∃ o, Ev (fun k => spec_l08Pairs.l0 k b L (idl j) (j : Int)) (o, false)) := by
  intro d
  induction d with
  | zero =>
    intro j hj
    obtain rfl : j = L.length := by omega
    refine ⟨fun _ r hr => Ev.step (fun k => spec_l08Pairs.l0.eq_2 _ _ _ _ _) (Ev.if_neg (by omega) (Ev.step (fun k => spec_l08Pairs.j1.eq_2 _ _ _ _ _ _) (Ev.if_neg (by simp) hr))), ?_⟩
    rintro ⟨q, h1, h2, _⟩
    omega
  | succ d ih =>
    intro j hj
    have hd : (decide ((L.length : Int) ≤ 24)) = true := decide_eq_true (by omega)
    have go : ∀ {r : List Int × Bool}, lineB b (rd_T63 L (j : Int)) = true → Ev (fun k => spec_l08Pairs.l0 k b L (idl (j + 1)) ((j + 1 : Nat) : Int)) r → Ev (fun k => spec_l08Pairs.l0 k b L (idl j) (j : Int)) r := by
      intro r hv hr
      refine Ev.step (fun k => spec_l08Pairs.l0.eq_2 _ _ _ _ _) (Ev.if_pos (by omega) (Ev.step (fun k => spec_l08Pairs.j1.eq_2 _ _ _ _ _ _) (Ev.if_pos hd (Ev.if_pos (by omega) (Ev.if_pos (by omega) (Ev.bind (Ev.at 2 fun k => line_spec b _ k) ?_))))))
      rw [hv]
      refine Ev.if_pos rfl (Ev.if_pos (by rw [idl_len]; omega) ?_)
      rw [idl_succ, w64s j (by omega)]
      exact hr
    obtain ⟨i1, i2⟩ := ih (j + 1) (by omega)
    refine ⟨fun hv r hr => go (hv j (Nat.le_refl _) (by omega)) (i1 (fun q hq hl => hv q (by omega) hl) r hr), ?_⟩
    rintro ⟨q, h1, h2, h3⟩
    by_cases hv : lineB b (rd_T63 L (j : Int)) = true
    · obtain ⟨o, ho⟩ := i2 ⟨q, by by_cases e : q = j; · rw [e, hv] at h3; cases h3
                                  · omega, h2, h3⟩
      exact ⟨o, go hv ho⟩
    · have hv : lineB b (rd_T63 L (j : Int)) = false := by simpa using hv
      refine ⟨idl j, Ev.step (fun k => spec_l08Pairs.l0.eq_2 _ _ _ _ _) (Ev.if_pos (by omega) (Ev.step (fun k => spec_l08Pairs.j1.eq_2 _ _ _ _ _ _) (Ev.if_pos hd (Ev.if_pos (by omega) (Ev.if_pos (by omega) (Ev.bind (Ev.at 2 fun k => line_spec b _ k) ?_))))))⟩
      rw [hv]
      exact Ev.if_neg (by simp) (Ev.now _)

theorem paired_ex (b : Int) (L : List S63) (hN : L.length ≤ 24) : ∃ (ok : Bool) (o o' : List Int), Ev (fun k => spec_l08Pairs.f k b L) (o, ok) ∧ Ev (fun k => impl_paired.f k b L) (o', ok) ∧ (ok = true → o = o' ∧ o.length ≤ 24) := by
  have hI : ∀ r, IM b L 0 (List.replicate L.length 0) [] [] r → Ev (fun k => impl_paired.f k b L) r := by
    intro r hr
    unfold impl_paired.f
    exact Ev.if_pos (by omega) (Ev.if_pos (by omega) hr)
  obtain ⟨s1, s2⟩ := spec_first (b := b) hN L.length 0 (by omega)
  by_cases hv : ∀ j : Nat, 0 ≤ j → j < L.length → lineB b (rd_T63 L (j : Int)) = true
  · obtain ⟨ok, o, o', a1, a2, a3⟩ := sim_ok b L L.length 0 [] _ _ _ (by omega) (inv_start hN) hv
    exact ⟨ok, o, o', s1 hv _ a1, hI _ a2, a3⟩
  · have hx : ∃ q : Nat, 0 ≤ q ∧ q < L.length ∧ lineB b (rd_T63 L (q : Int)) = false := by
      apply Classical.byContradiction
      intro hc
      apply hv
      intro j h0 hj
      by_cases e : lineB b (rd_T63 L (j : Int)) = true
      · exact e
      · exact absurd ⟨j, h0, hj, by simpa using e⟩ hc
    obtain ⟨o, ho⟩ := s2 hx
    exact ⟨false, o, [], ho, hI _ (sim_bad b L L.length 0 [] _ _ _ (by omega) (inv_start hN) hx), fun e => by cases e⟩

theorem pairs_long {b : Int} {L : List S63} (hN : ¬ L.length ≤ 24) : Ev (fun k => spec_l08Pairs.f k b L) (([] : List Int), false) := by
  unfold spec_l08Pairs.f
  refine Ev.step (fun k => spec_l08Pairs.l0.eq_2 _ _ _ _ _) (Ev.if_pos (by omega) (Ev.step (fun k => spec_l08Pairs.j1.eq_2 _ _ _ _ _ _) (Ev.if_neg (by simp; omega) (Ev.step (fun k => spec_l08Pairs.l1.eq_2 _ _ _ _ _ _ _) (Ev.if_neg (by simp) (Ev.if_pos rfl (Ev.some' ?_)))))))
  rw [decide_eq_false (by omega)]

theorem Is_ex (b : Int) (L : List S63) : ∃ (ok : Bool) (o o' : List Int), Ev (fun k => spec_l08Is.f k b L) ok ∧ Ev (fun k => impl_ValidLines.f k b L) ok ∧ (ok = true → Ev (fun k => spec_l08Pairs.f k b L) (o, true) ∧ Ev (fun k => impl_paired.f k b L) (o', true) ∧ o = o' ∧ o.length ≤ 24) := by
  unfold spec_l08Is.f impl_ValidLines.f
  by_cases hb : bitsB b = true
  · by_cases hN : L.length ≤ 24
    · obtain ⟨ok, o, o', h1, h2, h3⟩ := paired_ex b L hN
      refine ⟨ok, o, o', Ev.bind h1 (Ev.bind' (bits_eq b) (Ev.if_pos hb (Ev.now _))), Ev.bind' rfl (Ev.if_pos hb (Ev.if_neg (by omega) (Ev.bind h2 (Ev.now _)))), fun e => ?_⟩
      rw [e] at h1 h2
      exact ⟨h1, h2, h3 e⟩
    · exact ⟨false, [], [], Ev.bind (pairs_long hN) (Ev.bind' (bits_eq b) (Ev.if_pos hb (Ev.now _))), Ev.bind' rfl (Ev.if_pos hb (Ev.if_pos (by omega) (Ev.now _))), fun e => by cases e⟩
  · have hS : ∃ p, Ev (fun k => spec_l08Pairs.f k b L) p := by
      by_cases hN : L.length ≤ 24
      · obtain ⟨ok, o, _, h1, _, _⟩ := paired_ex b L hN
        exact ⟨_, h1⟩
      · exact ⟨_, pairs_long hN⟩
    obtain ⟨p, hp⟩ := hS
    exact ⟨false, [], [], Ev.bind hp (Ev.bind' (bits_eq b) (Ev.if_neg hb (Ev.now _))), Ev.bind' rfl (Ev.if_neg hb (Ev.now _)), fun e => by cases e⟩

/-- The program's line out of the law's. -/
def lnOf (y : S65) : S63 := ⟨y.f0, y.f1, y.f2, y.f3, y.f4⟩

theorem rd65 (l : List S65) (j : Nat) (h : j < l.length) : rd_T65 l (j : Int) = l[j] := by unfold rd_T65; simp [List.getD_eq_getElem?_getD, h]

theorem toLineS_go (l : List S65) (hl : l.length ≤ 1048576) : ∀ (d j : Nat), j + d = l.length → Ev (fun k => laws_toLineS.l0 k l ((l.take j).map lnOf ++ List.replicate d z63) (j : Int)) (l.map lnOf) := by
  intro d
  induction d with
  | zero =>
    intro j hj
    obtain rfl : j = l.length := by omega
    refine Ev.step (fun k => laws_toLineS.l0.eq_2 _ _ _ _) (Ev.if_neg (by omega) (Ev.some' ?_))
    simp
  | succ d ih =>
    intro j hj
    have hj' : j < l.length := by omega
    have e : Aside0 (wrap64 ((j : Int) + 1) = ((j + 1 : Nat) : Int)) := ⟨by rw [w64 (by omega) (by omega)]; rfl⟩
    refine Ev.step (fun k => laws_toLineS.l0.eq_2 _ _ _ _) (Ev.if_pos (by omega) (Ev.if_pos (by omega) (Ev.bind' rfl (Ev.if_pos (by simp; omega) ?_))))
    rw [e.out, rd65 l j hj', Int.toNat_natCast]
    have h2 : ((l.take j).map lnOf ++ List.replicate (d + 1) z63).set j (lnOf l[j]) = (l.take (j + 1)).map lnOf ++ List.replicate d z63 := by
      have h0 : j - ((l.take j).map lnOf).length = 0 := by simp; omega
      rw [List.set_append_right _ _ (by simp; omega), h0, List.take_add_one, List.getElem?_eq_getElem hj', List.map_append, List.append_assoc, List.replicate_succ]
      rfl
    have h3 := ih (j + 1) (by omega)
    rw [← h2] at h3
    exact h3

theorem toLineS_ex (l : List S65) (hl : l.length ≤ 1048576) : Ev (fun k => laws_toLineS.f k l) (l.map lnOf) := by
  unfold laws_toLineS.f
  refine Ev.if_pos (by omega) (Ev.if_pos (by omega) ?_)
  have h := toLineS_go l hl l.length 0 (by omega)
  simpa using h

theorem eqLine_refl (a b c d e : Int) : laws_eqLine.f a b c d e a b c d e = some true := by simp [laws_eqLine.f]

theorem eqLineS_go (l : List S63) (hl : l.length ≤ 1048576) : ∀ (d j : Nat), j + d = l.length → Ev (fun k => laws_eqLineS.l0 k l l (j : Int)) true := by
  intro d
  induction d with
  | zero =>
    intro j hj
    exact Ev.step (fun k => laws_eqLineS.l0.eq_2 _ _ _ _) (Ev.if_neg (by omega) (Ev.now _))
  | succ d ih =>
    intro j hj
    have e : Aside0 (wrap64 ((j : Int) + 1) = ((j + 1 : Nat) : Int)) := ⟨by rw [w64 (by omega) (by omega)]; rfl⟩
    refine Ev.step (fun k => laws_eqLineS.l0.eq_2 _ _ _ _) (Ev.if_pos (by omega) (Ev.if_pos (by omega) (Ev.if_pos (by omega) (Ev.bind' (eqLine_refl _ _ _ _ _) (Ev.if_pos rfl ?_)))))
    rw [e.out]
    exact ih (j + 1) (by omega)

theorem eqLineS_refl (l : List S63) (hl : l.length ≤ 1048576) : Ev (fun k => laws_eqLineS.f k l l) true := by
  unfold laws_eqLineS.f
  exact Ev.if_pos rfl (eqLineS_go l hl l.length 0 (by omega))

/-- A line with marks m, m + 1, .. in place of its fields. -/
def mk1 (x0 : List S63) (x1 : Int) (x5 : Int) : List S63 :=
  let y326 : List S63 := x0.set (x5 : Int).toNat (⟨x1, (rd_T63 x0 x5).f1, (rd_T63 x0 x5).f2, (rd_T63 x0 x5).f3, (rd_T63 x0 x5).f4⟩ : S63)
  let y327 : List S63 := y326.set (x5 : Int).toNat (⟨(rd_T63 y326 x5).f0, wrap64 (x1 + 1), (rd_T63 y326 x5).f2, (rd_T63 y326 x5).f3, (rd_T63 y326 x5).f4⟩ : S63)
  let y328 : List S63 := y327.set (x5 : Int).toNat (⟨(rd_T63 y327 x5).f0, (rd_T63 y327 x5).f1, wrap64 ((wrap64 (x1 + 1)) + 1), (rd_T63 y327 x5).f3, (rd_T63 y327 x5).f4⟩ : S63)
  let y329 : List S63 := y328.set (x5 : Int).toNat (⟨(rd_T63 y328 x5).f0, (rd_T63 y328 x5).f1, (rd_T63 y328 x5).f2, wrap64 ((wrap64 ((wrap64 (x1 + 1)) + 1)) + 1), (rd_T63 y328 x5).f4⟩ : S63)
  y329.set (x5 : Int).toNat (⟨(rd_T63 y329 x5).f0, (rd_T63 y329 x5).f1, (rd_T63 y329 x5).f2, (rd_T63 y329 x5).f3, wrap64 ((wrap64 ((wrap64 ((wrap64 (x1 + 1)) + 1)) + 1)) + 1)⟩ : S63)

theorem mk1_len (x : List S63) (m i : Int) : (mk1 x m i).length = x.length := by simp [mk1]

theorem markL_ev (l : List S63) (hl : l.length ≤ 1048576) : ∃ r, Ev (fun k => laws_markLineS.f k l 1) r ∧ 0 ≤ r.1 := by
  have key : ∀ (d j : Nat) (x : List S63) (m : Int), j + d = x.length → x.length ≤ 1048576 → m = 1 + 5 * (j : Int) → ∃ r, Ev (fun k => laws_markLineS.l0 k x m (j : Int)) r ∧ 0 ≤ r.1 := by
    intro d
    induction d with
    | zero =>
      intro j x m hj hx hm
      exact ⟨(m, x), Ev.step (fun k => laws_markLineS.l0.eq_2 _ _ _ _) (Ev.if_neg (by omega) (Ev.now _)), by show 0 ≤ m; omega⟩
    | succ d ih =>
      intro j x m hj hx hm
      obtain ⟨r, h, h0⟩ := ih (j + 1) (mk1 x m (j : Int)) (m + 5) (by rw [mk1_len]; omega) (by rw [mk1_len]; exact hx) (by omega)
      have e1 : Aside0 (wrap64 ((j : Int) + 1) = ((j + 1 : Nat) : Int)) := ⟨by rw [w64 (by omega) (by omega)]; rfl⟩
      have e5 : Aside0 (wrap64 ((wrap64 ((wrap64 ((wrap64 ((wrap64 (m + 1)) + 1)) + 1)) + 1)) + 1) = m + 5) := ⟨by
        rw [w64 (x := m + 1) (by omega) (by omega), w64 (x := m + 1 + 1) (by omega) (by omega), w64 (x := m + 1 + 1 + 1) (by omega) (by omega), w64 (x := m + 1 + 1 + 1 + 1) (by omega) (by omega), w64 (by omega) (by omega)]; omega⟩
      refine ⟨r, Ev.step (fun k => laws_markLineS.l0.eq_2 _ _ _ _) (Ev.if_pos (by omega) (Ev.if_pos (by omega) (Ev.bind' rfl (Ev.bind' rfl (Ev.bind' rfl (Ev.bind' rfl ?_)))))), h0⟩
      rw [e5.out, e1.out]
      exact h
  exact key l.length 0 l 1 (by omega) hl (by omega)

end Go.Proofs.Ytheemkehedmlfaa.Y
