/- The law FnExactValidConsole answers true at every input, and leaves its argument as it was. -/
import Derived.Test.YtdpggojdmabnkaaG4
import Derived.Test.YtdpggojdmabnkaaV2
set_option linter.unusedVariables false
set_option linter.unusedSimpArgs false
namespace Go.Proofs.Ytdpggojdmabnkaa.E
open Go
theorem wr_id {x : Int} (h0 : -9223372036854775808 ≤ x) (h1 : x ≤ 9223372036854775807) : IntKind.wrap .i64 x = x := by
  rw [IntKind.wrap_i64]; omega
/-- A walk that ends at the first that fails. -/
theorem scan {E : Type} {step : (Int × Unit → Option (E ⊕ Unit)) → Int × Unit → Option (E ⊕ Unit)} {len : Nat} {p : Int → Bool} {bad : Int → E} (hlen : len ≤ 1048576)
    (h1 : ∀ rec (i : Int), 0 ≤ i → i < len → IntKind.wrap .i64 (i + 1) = i + 1 → step rec (i, ()) = if p i = true then rec (i + 1, ()) else some (.inl (bad i)))
    (h2 : ∀ rec (i : Int), ¬ i < (len : Int) → step rec (i, ()) = some (.inr ())) {N : Nat} (hN : 1048577 ≤ N) :
    (itN step N (0, ()) = some (.inr ()) ∧ ∀ j : Int, 0 ≤ j → j < len → p j = true) ∨ ∃ j : Int, 0 ≤ j ∧ j < len ∧ p j = false ∧ itN step N (0, ()) = some (.inl (bad j)) := by
  have key : ∀ (r : Nat) (i : Int) (M : Nat), 0 ≤ i → i + r = len → r < M →
      (itN step M (i, ()) = some (.inr ()) ∧ ∀ j : Int, i ≤ j → j < len → p j = true) ∨ ∃ j : Int, i ≤ j ∧ j < len ∧ p j = false ∧ itN step M (i, ()) = some (.inl (bad j)) := by
    intro r
    induction r with
    | zero =>
      intro i M h0 hi hM
      obtain ⟨M, rfl⟩ : ∃ M', M = M' + 1 := ⟨M - 1, by omega⟩
      exact .inl ⟨h2 _ i (by omega), fun j h3 h4 => by omega⟩
    | succ r ih =>
      intro i M h0 hi hM
      obtain ⟨M, rfl⟩ : ∃ M', M = M' + 1 := ⟨M - 1, by omega⟩
      have hs : itN step (M + 1) (i, ()) = if p i = true then itN step M (i + 1, ()) else some (.inl (bad i)) := h1 _ i h0 (by omega) (wr_id (by omega) (by omega))
      rw [hs]
      cases hp : p i with
      | false => exact .inr ⟨i, by omega, by omega, hp, rfl⟩
      | true =>
        simp only [if_true]
        rcases ih (i + 1) M (by omega) (by omega) (by omega) with ⟨g1, g2⟩ | ⟨j, g1, g2, g3, g4⟩
        · refine .inl ⟨g1, fun j h3 h4 => ?_⟩
          by_cases he : j = i
          · subst he; exact hp
          · exact g2 j (by omega) h4
        · exact .inr ⟨j, by omega, g2, g3, g4⟩
  rcases key len 0 N (Int.le_refl _) (by omega) (by omega) with h | h
  · exact .inl h
  · exact .inr h
theorem gt_mem {α : Type} [Inhabited α] {l : List α} {j : Int} (h0 : 0 ≤ j) (h1 : j < l.length) : gt l j ∈ l := by
  unfold gt
  have : j.toNat < l.length := by omega
  rw [List.getD_eq_getElem?_getD, List.getElem?_eq_getElem this]
  exact List.getElem_mem _
theorem mem_gt {α : Type} [Inhabited α] {l : List α} {x : α} (h : x ∈ l) : ∃ j : Int, 0 ≤ j ∧ j < l.length ∧ gt l j = x := by
  obtain ⟨i, hi, rfl⟩ := List.mem_iff_getElem.1 h
  refine ⟨i, by omega, by omega, ?_⟩
  unfold gt
  rw [List.getD_eq_getElem?_getD, Int.toNat_natCast, List.getElem?_eq_getElem hi]
  rfl
theorem all_gt {α : Type} [Inhabited α] {l : List α} {p : α → Prop} : (∀ x, x ∈ l → p x) ↔ ∀ j : Int, 0 ≤ j → j < l.length → p (gt l j) :=
  ⟨fun h j h0 h1 => h _ (gt_mem h0 h1), fun h x hx => by obtain ⟨j, h0, h1, rfl⟩ := mem_gt hx; exact h j h0 h1⟩
/-- A scan's answer. -/
theorem scan_ans {α : Type} [Inhabited α] {E : Type} {step : (Int × Unit → Option (E ⊕ Unit)) → Int × Unit → Option (E ⊕ Unit)} {l : List α} {p : α → Bool} {bad : Int → E} (hlen : l.length ≤ 1048576)
    (h1 : ∀ rec (i : Int), 0 ≤ i → i < l.length → IntKind.wrap .i64 (i + 1) = i + 1 → gt l i ∈ l → step rec (i, ()) = if p (gt l i) = true then rec (i + 1, ()) else some (.inl (bad i)))
    (h2 : ∀ rec (i : Int), ¬ i < (l.length : Int) → step rec (i, ()) = some (.inr ())) {N : Nat} (hN : 1048577 ≤ N) :
    (itN step N (0, ()) = some (.inr ()) ∧ ∀ x, x ∈ l → p x = true) ∨ ∃ j : Int, 0 ≤ j ∧ j < l.length ∧ (¬ ∀ x, x ∈ l → p x = true) ∧ itN step N (0, ()) = some (.inl (bad j)) := by
  rcases scan (p := fun j => p (gt l j)) hlen (fun rec i g0 g1 g2 => h1 rec i g0 g1 g2 (gt_mem g0 g1)) h2 hN with ⟨g1, g2⟩ | ⟨j, g1, g2, g3, g4⟩
  · exact .inl ⟨g1, (all_gt (p := fun x => p x = true)).2 g2⟩
  · refine .inr ⟨j, g1, g2, fun h => ?_, g4⟩
    have := h _ (gt_mem g1 g2)
    rw [g3] at this
    cases this
def bitsV (b : Int) : Bool := decide (b = 4) || decide (b = 8) || decide (b = 16)
def lanesV (b : Int) : Bool := decide (b = 2) || decide (b = 4) || decide (b = 8) || decide (b = 16)
def wordV (b x : Int) : Bool := bitsV b && decide (0 ≤ x) && decide (x ≤ (if b = 4 then 15 else if b = 8 then 255 else 65535))
theorem f26 (N : Nat) (b : Int) : F26 N (b, ()) = some (bitsV b, ()) := by
  unfold F26 bitsV
  by_cases h4 : b = 4 <;> by_cases h8 : b = 8 <;> simp [h4, h8]
theorem f51 (N : Nat) (b : Int) : F51 N (b, ()) = some (bitsV b, ()) := by
  unfold F51 bitsV
  by_cases h4 : b = 4 <;> by_cases h8 : b = 8 <;> simp [h4, h8]
theorem f50 (N : Nat) (b : Int) : F50 N (b, ()) = some (lanesV b, ()) := by
  unfold F50 lanesV
  by_cases h2 : b = 2 <;> by_cases h4 : b = 4 <;> by_cases h8 : b = 8 <;> simp [h2, h4, h8]
theorem bits_cases {b : Int} (h : bitsV b = true) : b = 4 ∨ b = 8 ∨ b = 16 := by
  unfold bitsV at h; simp at h; omega
theorem u4 : IntKind.u64.wrap 4 = 4 := by decide +kernel
theorem u8 : IntKind.u64.wrap 8 = 8 := by decide +kernel
theorem u16 : IntKind.u64.wrap 16 = 16 := by decide +kernel
theorem v4 : IntKind.i64.wrap (shlI .i64 1 4 - 1) = 15 := by decide +kernel
theorem v8 : IntKind.i64.wrap (shlI .i64 1 8 - 1) = 255 := by decide +kernel
theorem v16 : IntKind.i64.wrap (shlI .i64 1 16 - 1) = 65535 := by decide +kernel
theorem f64 (N : Nat) (b x : Int) : F64 N (b, (x, ())) = some (wordV b x, ()) := by
  simp only [F64, f26, Option.bind_some]
  cases hb : bitsV b with
  | false => simp [wordV, hb]
  | true =>
    rcases bits_cases hb with rfl | rfl | rfl
    all_goals
      simp only [cond_true, F56, wordV, hb, Bool.true_and, u4, u8, u16, v4, v8, v16]
      by_cases h0 : 0 ≤ x
      · simp [h0]
      · simp [h0]
theorem f54 (N : Nat) (b x : Int) : F54 N (b, (x, ())) = some (wordV b x, ()) := by
  simp only [F54, f51, Option.bind_some]
  cases hb : bitsV b with
  | false => simp [wordV, hb]
  | true =>
    rcases bits_cases hb with rfl | rfl | rfl
    all_goals
      simp only [cond_true, F63, wordV, hb, Bool.true_and, v4, v8, v16]
      by_cases h0 : 0 ≤ x
      · simp [h0]
      · simp [h0]
theorem f55 {N : Nat} (hN : 1048577 ≤ N) (b : Int) (l : List Int) (hl : l.length ≤ 1048576) : ∃ r, F55 N (b, (l, ())) = some (r, ()) ∧ (r = true ↔ bitsV b = true ∧ ∀ x, x ∈ l → wordV b x = true) := by
  rcases scan_ans (step := n55_0 N (b, (l, ()))) (l := l) (p := wordV b) (bad := fun _ => (false, ())) hl
    (fun rec i h0 h1 h2 _ => by cases hw : wordV b (gt l i) <;> simp [n55_0, h0, h1, h2, f64, hw]) (fun rec i h => by simp [n55_0, h]) hN with ⟨g1, g2⟩ | ⟨j, _, _, g3, g4⟩
  · exact ⟨bitsV b, by simp [F55, g1, f26], by simp [g2]; exact fun _ => g2⟩
  · exact ⟨false, by simp [F55, g4], by simp; exact fun _ => by simpa using g3⟩
theorem f29 {N : Nat} (hN : 1048577 ≤ N) (a b : Int) (l : List Int) (hl : l.length ≤ 1048576) : ∃ r, F29 N (a, (b, (l, ()))) = some (r, ()) ∧ (r = true ↔ l.length = 64 ∧ ∀ x, x ∈ l → wordV b x = true) := by
  by_cases hc : (l.length : Int) = 64
  · rcases scan_ans (step := n29_0 N (l, ((l.length : Int), (a, (b, ()))))) (l := l) (p := wordV b) (bad := fun j => (j, ())) hl
      (fun rec i h0 h1 h2 _ => by cases hw : wordV b (gt l i) <;> simp [n29_0, h0, h1, h2, f54, hw]) (fun rec i h => by simp [n29_0, h]) hN with ⟨g1, g2⟩ | ⟨j, j0, _, g3, g4⟩
    · exact ⟨true, by simp [F29, hc] at g1 ⊢; simp [g1], by simp [g2]; exact ⟨by omega, g2⟩⟩
    · exact ⟨false, by simp [F29, hc] at g4 ⊢; simp [g4, j0], by simp; exact fun _ => by simpa using g3⟩
  · exact ⟨false, by simp [F29, hc], by simp; intro h; omega⟩
theorem ofR {r X : Bool} {o : Option (Bool × Unit)} (h : o = some (r, ())) (k : r = true ↔ X = true) : o = some (X, ()) := by
  have : r = X := by cases r <;> cases X <;> simp_all
  rw [h, this]
def wordsB (b : Int) (l : List Int) : Bool := l.all (wordV b)
def maskB (l : List Int) : Bool := l.all fun x => decide (0 ≤ x) && decide (x ≤ 1)
def vecB (a b : Int) (l : List Int) : Bool := decide ((l.length : Int) = a) && wordsB b l
def mskB (a : Int) (l : List Int) : Bool := decide ((l.length : Int) = a) && maskB l
theorem g55 {N : Nat} (hN : 1048577 ≤ N) (b : Int) (l : List Int) (hl : l.length ≤ 1048576) : F55 N (b, (l, ())) = some (bitsV b && wordsB b l, ()) := by
  obtain ⟨r, h1, h2⟩ := f55 hN b l hl
  exact ofR h1 (by rw [h2]; simp [wordsB])
theorem g29 {N : Nat} (hN : 1048577 ≤ N) (a b : Int) (l : List Int) (hl : l.length ≤ 1048576) : F29 N (a, (b, (l, ()))) = some (decide (l.length = 64) && wordsB b l, ()) := by
  obtain ⟨r, h1, h2⟩ := f29 hN a b l hl
  exact ofR h1 (by rw [h2]; simp [wordsB])
theorem f46 (N : Nat) (l : List Int) : F46 N (l, ()) = some ((l.length : Int), ()) := rfl
theorem g45 {N : Nat} (hN : 1048577 ≤ N) (b : Int) (l : List Int) (hl : l.length ≤ 1048576) : F45 N (b, (l, ())) = some (bitsV b && (lanesV l.length && wordsB b l), ()) := by
  cases hb : bitsV b with
  | false => simp [F45, f51, hb]
  | true =>
    cases hn : lanesV l.length with
    | false => simp [F45, f51, hb, f46, f50, hn]
    | true =>
      rcases scan_ans (step := n45_0 N (l, ((l.length : Int), (b, ())))) (l := l) (p := wordV b) (bad := fun j => (j, ())) hl
        (fun rec i h0 h1 h2 _ => by cases hw : wordV b (gt l i) <;> simp [n45_0, h0, h1, h2, f54, hw]) (fun rec i h => by simp [n45_0, h]) hN with ⟨g1, g2⟩ | ⟨j, j0, _, g3, g4⟩
      · have : wordsB b l = true := by simpa [wordsB] using g2
        simp [F45, f51, hb, f46, f50, hn, g1, this]
      · have : wordsB b l = false := by
          cases hw : wordsB b l with
          | false => rfl
          | true => exact absurd (by simpa [wordsB] using hw) g3
        simp [F45, f51, hb, f46, f50, hn, g4, this, j0]
theorem g48 {N : Nat} (hN : 1048577 ≤ N) (l : List Int) (hl : l.length ≤ 1048576) : F48 N (l, ()) = some (lanesV l.length && maskB l, ()) := by
  cases hn : lanesV l.length with
  | false => simp [F48, f46, f50, hn]
  | true =>
    rcases scan_ans (step := n48_0 N (l, ((l.length : Int), ()))) (l := l) (p := fun x => decide (0 ≤ x) && decide (x ≤ 1)) (bad := fun j => (j, ())) hl
      (fun rec i h0 h1 h2 _ => by
        by_cases e0 : gt l i = 0
        · simp [n48_0, h0, h1, h2, e0]
        · by_cases e1 : gt l i = 1
          · simp [n48_0, h0, h1, h2, e1]
          · have : ¬ (0 ≤ gt l i ∧ gt l i ≤ 1) := by omega
            simp [n48_0, h0, h1, h2, e0, e1, this]) (fun rec i h => by simp [n48_0, h]) hN with ⟨g1, g2⟩ | ⟨j, j0, _, g3, g4⟩
    · have : maskB l = true := by simpa [maskB] using g2
      simp [F48, f46, f50, hn, g1, this]
    · have : maskB l = false := by
        cases hw : maskB l with
        | false => rfl
        | true => exact absurd (by simpa [maskB] using hw) g3
      simp [F48, f46, f50, hn, g4, this, j0]
theorem f28 (N : Nat) (a b : Int) : F28 N (a, (b, ())) = some (lanesV a && bitsV b, ()) := by
  cases h : lanesV a <;> simp [F28, f50, f51, h]
def okV (a b : Int) (vs ms : List (List Int)) (mem : List Int) : Bool :=
  lanesV a && bitsV b && decide (vs.length = 8) && decide (ms.length = 4) && decide (mem.length = 64) && wordsB b mem && vs.all (vecB a b) && ms.all (mskB a)
def Sm (vs : List (List Int)) : Prop := vs.length ≤ 1048576 ∧ ∀ v, v ∈ vs → v.length ≤ 1048576
theorem g25 {N : Nat} (hN : 1048577 ≤ N) (a b : Int) (vs ms : List (List Int)) (mem : List Int) (hv : Sm vs) (hm : Sm ms) (hl : mem.length ≤ 1048576) : F25 N (a, (b, (vs, (ms, (mem, ()))))) = some (okV a b vs ms mem, ()) := by
  unfold okV
  cases ha : lanesV a with
  | false => simp [F25, f28, ha]
  | true =>
  cases hb : bitsV b with
  | false => simp [F25, f28, ha, hb]
  | true =>
  by_cases h8 : vs.length = 8
  rotate_left
  · have : ¬ ((vs.length : Int) = 8) := by omega
    simp [F25, f28, ha, hb, this, h8]
  by_cases h4 : ms.length = 4
  rotate_left
  · have : ¬ ((ms.length : Int) = 4) := by omega
    simp [F25, f28, ha, hb, h8, this, h4]
  by_cases h64 : mem.length = 64
  rotate_left
  · simp [F25, f28, ha, hb, h8, h4, g29 hN a b mem hl, h64]
  cases hw : wordsB b mem with
  | false => simp [F25, f28, ha, hb, h8, h4, g29 hN a b mem hl, h64, hw]
  | true =>
  have s0 := scan_ans (step := n25_0 N (vs, ((vs.length : Int), (a, (b, ()))))) (l := vs) (p := vecB a b) (bad := fun j => (j, ())) hv.1
    (fun rec i h0 h1 h2 hmem => by
      have hg := g45 hN b (gt vs i) (hv.2 _ hmem)
      by_cases e : ((gt vs i).length : Int) = a
      · rw [e, ha] at hg
        cases hx : wordsB b (gt vs i) <;> simp [n25_0, h0, h1, h2, hg, hb, hx, f46, e, vecB]
      · cases hx : bitsV b && (lanesV (gt vs i).length && wordsB b (gt vs i)) <;> simp [hx] at hg <;> simp [n25_0, h0, h1, h2, hg, f46, e, vecB]) (fun rec i h => by simp [n25_0, h]) hN
  have s1 := scan_ans (step := n25_1 N (ms, ((ms.length : Int), (a, (b, ()))))) (l := ms) (p := mskB a) (bad := fun j => (j, ())) hm.1
    (fun rec i h0 h1 h2 hmem => by
      have hg := g48 hN (gt ms i) (hm.2 _ hmem)
      by_cases e : ((gt ms i).length : Int) = a
      · rw [e, ha] at hg
        cases hx : maskB (gt ms i) <;> simp [n25_1, h0, h1, h2, hg, hx, f46, e, mskB]
      · cases hx : lanesV (gt ms i).length && maskB (gt ms i) <;> simp [hx] at hg <;> simp [n25_1, h0, h1, h2, hg, f46, e, mskB]) (fun rec i h => by simp [n25_1, h]) hN
  have e12 : n25_2 = n25_1 := rfl
  have e8 : (vs.length : Int) = 8 := by omega
  have e4 : (ms.length : Int) = 4 := by omega
  rw [e8] at s0
  rw [e4] at s1
  rcases s0 with ⟨p1, p2⟩ | ⟨j, j0, _, p3, p4⟩
  · have hv1 : vs.all (vecB a b) = true := by simpa using p2
    rcases s1 with ⟨q1, q2⟩ | ⟨i, i0, _, q3, q4⟩
    · have hm1 : ms.all (mskB a) = true := by simpa using q2
      simp [F25, f28, ha, hb, h8, h4, g29 hN a b mem hl, h64, hw, e12, hv1, hm1, p1, q1]
    · have hm1 : ms.all (mskB a) = false := by
        cases hx : ms.all (mskB a) with
        | false => rfl
        | true => exact absurd (by simpa using hx) q3
      simp [F25, f28, ha, hb, h8, h4, g29 hN a b mem hl, h64, hw, e12, hv1, hm1, p1, q4, i0]
  · have hv1 : vs.all (vecB a b) = false := by
      cases hx : vs.all (vecB a b) with
      | false => rfl
      | true => exact absurd (by simpa using hx) p3
    simp [F25, f28, ha, hb, h8, h4, g29 hN a b mem hl, h64, hw, e12, hv1, p4, j0]
theorem g11 {N : Nat} (hN : 1048577 ≤ N) (a b : Int) (vs ms : List (List Int)) (mem : List Int) (hv : Sm vs) (hm : Sm ms) (hl : mem.length ≤ 1048576) : F11 N (a, (b, (vs, (ms, (mem, ()))))) = some (okV a b vs ms mem, ()) := by
  have r3 : n11_3 = n11_0 := rfl
  have r6 : n11_6 = n11_0 := rfl
  have r9 : n11_9 = n11_0 := rfl
  have r4 : n11_4 = n11_1 := rfl
  have r7 : n11_7 = n11_1 := rfl
  have r10 : n11_10 = n11_1 := rfl
  unfold okV
  cases hb : bitsV b with
  | false =>
    by_cases h2 : a = 2
    · simp [F11, h2, f26, hb]
    · by_cases h4 : a = 4
      · simp [F11, h4, f26, hb]
      · by_cases h8 : a = 8
        · simp [F11, h8, f26, hb]
        · by_cases h16 : a = 16
          · simp [F11, h16, f26, hb]
          · simp [F11, h2, h4, h8, h16]
  | true =>
  have s2 : ∀ i : Int, 0 ≤ i → i < ms.length → (itN (n11_2 N (i, (a, (b, (vs, (ms, (mem, ()))))))) N ((0 : Int), ()) = some (.inr ()) ∧ maskB (gt ms i) = true) ∨ (itN (n11_2 N (i, (a, (b, (vs, (ms, (mem, ()))))))) N ((0 : Int), ()) = some (.inl (false, ())) ∧ maskB (gt ms i) = false) := by
    intro i i0 i1
    rcases scan_ans (step := n11_2 N (i, (a, (b, (vs, (ms, (mem, ()))))))) (l := gt ms i) (p := fun x => decide (0 ≤ x) && decide (x ≤ 1)) (bad := fun _ => (false, ())) (hm.2 _ (gt_mem i0 i1))
      (fun rec k h0 h1 h2 _ => by
        by_cases e0 : 0 ≤ gt (gt ms i) k
        · by_cases e1 : gt (gt ms i) k ≤ 1
          · simp [n11_2, i0, i1, h0, h1, h2, F56, e0, e1]
          · simp [n11_2, i0, i1, h0, h1, h2, F56, e0, e1]
        · simp [n11_2, i0, i1, h0, h1, h2, F56, e0]) (fun rec k h => by simp [n11_2, i0, i1, h]) hN with ⟨g1, g2⟩ | ⟨j, _, _, g3, g4⟩
    · exact .inl ⟨g1, by simpa [maskB] using g2⟩
    · refine .inr ⟨g4, ?_⟩
      cases hw : maskB (gt ms i) with
      | false => rfl
      | true => exact absurd (by simpa [maskB] using hw) g3
  have s0 := scan_ans (step := n11_0 N (a, (b, (vs, (ms, (mem, ())))))) (l := vs) (p := vecB a b) (bad := fun _ => (false, ())) hv.1
    (fun rec i h0 h1 h2 hmem => by
      have hg := g55 hN b (gt vs i) (hv.2 _ hmem)
      by_cases e : ((gt vs i).length : Int) = a
      · cases hx : wordsB b (gt vs i) <;> simp [n11_0, h0, h1, h2, hg, hb, hx, e, vecB]
      · simp [n11_0, h0, h1, h2, e, vecB]) (fun rec i h => by simp [n11_0, h]) hN
  have s1 := scan_ans (step := n11_1 N (a, (b, (vs, (ms, (mem, ())))))) (l := ms) (p := mskB a) (bad := fun _ => (false, ())) hm.1
    (fun rec i h0 h1 h2 hmem => by
      by_cases e : ((gt ms i).length : Int) = a
      · rcases s2 i h0 h1 with ⟨k1, k2⟩ | ⟨k1, k2⟩ <;> simp [n11_1, h0, h1, h2, e, k1, k2, mskB]
      · simp [n11_1, h0, h1, h2, e, mskB]) (fun rec i h => by simp [n11_1, h]) hN
  have rest : (bif (!(decide ((vs.length : Int) = (8 : Int)))) then some (false, ()) else bif (!(decide ((ms.length : Int) = (4 : Int)))) then some (false, ())
        else bif (!(decide ((mem.length : Int) = (64 : Int)))) then some (false, ())
         else (F55 N (b, (mem, ()))).bind fun r176 =>
          bif (!r176.1) then some (false, ())
           else (itN (n11_0 N (a, (b, (vs, (ms, (mem, ())))))) N ((0 : Int), ())).bind fun r177 =>
            bif r177.isLeft then r177.getLeft?.bind fun r178 =>
              some (r178.1, ())
             else r177.getRight?.bind fun r179 =>
              (itN (n11_1 N (a, (b, (vs, (ms, (mem, ())))))) N ((0 : Int), ())).bind fun r180 =>
               bif r180.isLeft then r180.getLeft?.bind fun r181 =>
                 some (r181.1, ())
                else r180.getRight?.bind fun r182 =>
                 some (true, ())) = some (decide (vs.length = 8) && decide (ms.length = 4) && decide (mem.length = 64) && wordsB b mem && vs.all (vecB a b) && ms.all (mskB a), ()) := by
    by_cases h8 : vs.length = 8
    rotate_left
    · have : ¬ ((vs.length : Int) = 8) := by omega
      simp [this, h8]
    by_cases h4 : ms.length = 4
    rotate_left
    · have : ¬ ((ms.length : Int) = 4) := by omega
      simp [h8, this, h4]
    by_cases h64 : mem.length = 64
    rotate_left
    · have : ¬ ((mem.length : Int) = 64) := by omega
      simp [h8, h4, h64, this]
    have e8 : (vs.length : Int) = 8 := by omega
    have e4 : (ms.length : Int) = 4 := by omega
    have e64 : (mem.length : Int) = 64 := by omega
    cases hw : wordsB b mem with
    | false => simp [e8, e4, e64, h8, h4, h64, g55 hN b mem hl, hw]
    | true =>
    rcases s0 with ⟨p1, p2⟩ | ⟨j, j0, _, p3, p4⟩
    · have hv1 : vs.all (vecB a b) = true := by simpa using p2
      rcases s1 with ⟨q1, q2⟩ | ⟨i, i0, _, q3, q4⟩
      · have hm1 : ms.all (mskB a) = true := by simpa using q2
        simp [h8, h4, h64, g55 hN b mem hl, hb, hw, p1, q1, hv1, hm1]
      · have hm1 : ms.all (mskB a) = false := by
          cases hx : ms.all (mskB a) with
          | false => rfl
          | true => exact absurd (by simpa using hx) q3
        simp [h8, h4, h64, g55 hN b mem hl, hb, hw, p1, q4, hv1, hm1]
    · have hv1 : vs.all (vecB a b) = false := by
        cases hx : vs.all (vecB a b) with
        | false => rfl
        | true => exact absurd (by simpa using hx) p3
      simp [h8, h4, h64, g55 hN b mem hl, hb, hw, p4, hv1]
  unfold F11
  simp only [f26, hb, r3, r6, r9, r4, r7, r10, Option.bind_some, cond_true, rest]
  by_cases h2 : a = 2
  · simp [h2, lanesV]
  · by_cases h4 : a = 4
    · simp [h4, lanesV]
    · by_cases h8 : a = 8
      · simp [h8, lanesV]
      · by_cases h16 : a = 16
        · simp [h16, lanesV]
        · simp [h2, h4, h8, h16, lanesV]
/-- A copy, element by element. -/
theorem copyL {α : Type} [Inhabited α] {step : (Int × List α × Unit → Option (List α × Unit)) → Int × List α × Unit → Option (List α × Unit)} {l : List α} (hlen : l.length ≤ 1048576)
    (h1 : ∀ rec (i : Int) (o : List α), 0 ≤ i → i < l.length → i < o.length → IntKind.wrap .i64 (i + 1) = i + 1 → gt l i ∈ l → step rec (i, (o, ())) = rec (i + 1, (o.set i.toNat (gt l i), ())))
    (h2 : ∀ rec (i : Int) (o : List α), ¬ i < (l.length : Int) → step rec (i, (o, ())) = some (o, ())) {N : Nat} (hN : 1048577 ≤ N) (o : List α) (ho : o.length = l.length) : itN step N (0, (o, ())) = some (l, ()) := by
  have key : ∀ (r : Nat) (i M : Nat) (o : List α), i + r = l.length → r < M → o.length = l.length → (∀ k, k < i → o[k]? = l[k]?) → itN step M ((i : Int), (o, ())) = some (l, ()) := by
    intro r
    induction r with
    | zero =>
      intro i M o hi hM ho hk
      obtain ⟨M, rfl⟩ : ∃ M', M = M' + 1 := ⟨M - 1, by omega⟩
      have : o = l := by
        apply List.ext_getElem?
        intro k
        by_cases hkl : k < i
        · exact hk k hkl
        · rw [List.getElem?_eq_none (by omega), List.getElem?_eq_none (by omega)]
      subst this
      exact h2 _ _ _ (by omega)
    | succ r ih =>
      intro i M o hi hM ho hk
      obtain ⟨M, rfl⟩ : ∃ M', M = M' + 1 := ⟨M - 1, by omega⟩
      have hs : itN step (M + 1) ((i : Int), (o, ())) = itN step M ((i : Int) + 1, (o.set (i : Int).toNat (gt l i), ())) := h1 _ _ _ (by omega) (by omega) (by omega) (wr_id (by omega) (by omega)) (gt_mem (by omega) (by omega))
      rw [hs, show ((i : Int) + 1) = ((i + 1 : Nat) : Int) by omega]
      refine ih (i + 1) M _ (by omega) (by omega) (by simpa using ho) fun k hk1 => ?_
      rw [Int.toNat_natCast, List.getElem?_set]
      by_cases he : i = k
      · subst he
        have hil : i < l.length := by omega
        simp only [if_true, if_pos (show i < o.length by omega)]
        unfold gt
        rw [List.getD_eq_getElem?_getD, Int.toNat_natCast, List.getElem?_eq_getElem hil]
        rfl
      · rw [if_neg he]
        exact hk k (by omega)
  exact key l.length 0 N o (by omega) (by omega) ho (fun k hk => by omega)
theorem g42 {N : Nat} (hN : 1048577 ≤ N) (l : List Int) (hl : l.length ≤ 1048576) : F42 N (l, ()) = some (l, ()) := by
  have hc := copyL (step := n42_0 N (l, ())) (l := l) hl (fun rec i o h0 h1 h2 h3 _ => by simp [n42_0, h0, h1, h2, h3]) (fun rec i o h => by simp [n42_0, h]) hN (List.replicate (l.length : Int).toNat (0 : Int)) (by simp)
  have h8 : (l.length : Int) * 8 ≤ 140737488351232 := by omega
  have hr : (l.length : Int) ≤ l.length := Int.le_refl _
  simp only [F42, decide_eq_true hr, decide_eq_true h8, cond_true, hc]
  rfl
theorem g41 {N : Nat} (hN : 1048577 ≤ N) (l : List (List Int)) (hl : Sm l) : F41 N (l, ()) = some (l, ()) := by
  have hc := copyL (step := n41_0 N (l, ())) (l := l) hl.1 (fun rec i o h0 h1 h2 h3 hm => by simp [n41_0, h0, h1, h2, h3, g42 hN _ (hl.2 _ hm)]) (fun rec i o h => by simp [n41_0, h]) hN (List.replicate (l.length : Int).toNat []) (by simp)
  have h8 : (l.length : Int) * 24 ≤ 140737488351232 := by have := hl.1; omega
  have hr : (l.length : Int) ≤ l.length := Int.le_refl _
  simp only [F41, decide_eq_true hr, decide_eq_true h8, cond_true, hc]
  rfl
theorem g12 {N : Nat} (hN : 1048577 ≤ N) (a b : Int) (vs ms : List (List Int)) (mem : List Int) (hv : Sm vs) (hm : Sm ms) (hl : mem.length ≤ 1048576) : F12 N (a, (b, (vs, (ms, (mem, ()))))) = some (a, (b, (vs, (ms, (mem, ()))))) := by
  simp [F12, F23, F24, g41 hN vs hv, g41 hN ms hm, g42 hN mem hl]
theorem g33 {N : Nat} (hN : 1048577 ≤ N) (l : List Int) (hl : l.length ≤ 1048576) : F33 N (l, (l, ())) = some (true, ()) := by
  rcases scan_ans (step := n33_0 N (l, (l, ()))) (l := l) (p := fun _ => true) (bad := fun _ => (false, ())) hl (fun rec i h0 h1 h2 _ => by simp [n33_0, h0, h1, h2]) (fun rec i h => by simp [n33_0, h]) hN with ⟨g1, g2⟩ | ⟨j, _, _, g3, g4⟩
  · simp [F33, g1]
  · exact absurd (fun _ _ => rfl) g3
theorem g32 {N : Nat} (hN : 1048577 ≤ N) (l : List (List Int)) (hl : Sm l) : F32 N (l, (l, ())) = some (true, ()) := by
  rcases scan_ans (step := n32_0 N (l, (l, ()))) (l := l) (p := fun _ => true) (bad := fun _ => (false, ())) hl.1 (fun rec i h0 h1 h2 hm => by simp [n32_0, h0, h1, h2, g33 hN _ (hl.2 _ hm)]) (fun rec i h => by simp [n32_0, h]) hN with ⟨g1, g2⟩ | ⟨j, _, _, g3, g4⟩
  · simp [F32, g1]
  · exact absurd (fun _ _ => rfl) g3
theorem g7 {N : Nat} (hN : 1048577 ≤ N) (a b : Int) (vs ms : List (List Int)) (mem : List Int) (hv : Sm vs) (hm : Sm ms) (hl : mem.length ≤ 1048576) : F7 N (a, (b, (vs, (ms, (mem, (a, (b, (vs, (ms, (mem, ())))))))))) = some (true, ()) := by
  simp [F7, F17, F18, g32 hN vs hv, g32 hN ms hm, g33 hN mem hl]
theorem g39 (N : Nat) (l : List Int) (n : Int) (h0 : 0 ≤ n) (h1 : n ≤ 1048576) (hl : l.length ≤ 9223372036854775807) : F39 N (l, (n, ())) = some (-1, ()) ∨ (F39 N (l, (n, ())) = some (n - l.length, ()) ∧ 0 ≤ n - l.length) := by
  have hw : IntKind.wrap .i64 (n - l.length) = n - l.length := wr_id (by omega) (by omega)
  by_cases h : n - (l.length : Int) < 0
  · left; simp [F39, hw, h]
  · right; exact ⟨by simp [F39, hw, h], by omega⟩
theorem g38 {N : Nat} (hN : 1048577 ≤ N) (l : List (List Int)) (n : Int) (h0 : 0 ≤ n) (h1 : n ≤ 1048576) (hl : l.length ≤ 9223372036854775807) (hl2 : ∀ v, v ∈ l → v.length ≤ 9223372036854775807) :
    F38 N (l, (n, ())) = some (-1, ()) ∨ ∃ r, F38 N (l, (n, ())) = some (r, ()) ∧ 0 ≤ r ∧ r ≤ n ∧ Sm l := by
  have hw : IntKind.wrap .i64 (n - l.length) = n - l.length := wr_id (by omega) (by omega)
  by_cases h : n - (l.length : Int) < 0
  · left; simp [F38, hw, h]
  have key : ∀ (r : Nat) (i M : Nat) (m : Int), i + r = l.length → r < M → 0 ≤ m → m ≤ 1048576 →
      itN (n38_0 N (l, ())) M (m, ((i : Int), ())) = some (.inl (-1, ())) ∨ ∃ m', itN (n38_0 N (l, ())) M (m, ((i : Int), ())) = some (.inr (m', ())) ∧ 0 ≤ m' ∧ m' ≤ m ∧ ∀ j : Int, i ≤ j → j < l.length → (gt l j).length ≤ 1048576 := by
    intro r
    induction r with
    | zero =>
      intro i M m hi hM m0 m1
      obtain ⟨M, rfl⟩ : ∃ M', M = M' + 1 := ⟨M - 1, by omega⟩
      refine .inr ⟨m, ?_, m0, Int.le_refl _, fun j a b => by omega⟩
      have : ¬ ((i : Int) < l.length) := by omega
      show n38_0 N (l, ()) _ _ = _
      simp [n38_0, show ¬ (i < l.length) by omega]
    | succ r ih =>
      intro i M m hi hM m0 m1
      obtain ⟨M, rfl⟩ : ∃ M', M = M' + 1 := ⟨M - 1, by omega⟩
      have hil : (i : Int) < l.length := by omega
      have hi0 : (0 : Int) ≤ i := by omega
      have hw1 : IntKind.wrap .i64 ((i : Int) + 1) = ((i + 1 : Nat) : Int) := by rw [wr_id (by omega) (by omega)]; omega
      show n38_0 N (l, ()) (itN (n38_0 N (l, ())) M) _ = _ ∨ ∃ m', n38_0 N (l, ()) (itN (n38_0 N (l, ())) M) _ = _ ∧ _
      rcases g39 N (gt l i) m m0 m1 (hl2 _ (gt_mem hi0 hil)) with g | ⟨g, g'⟩
      · left
        simp only [n38_0, decide_eq_true hil, decide_eq_true hi0, cond_true, g]
        rfl
      · have hng : ¬ (m - ((gt l i).length : Int) < 0) := by omega
        have hst : n38_0 N (l, ()) (itN (n38_0 N (l, ())) M) (m, ((i : Int), ())) = itN (n38_0 N (l, ())) M (m - (gt l i).length, (((i + 1 : Nat) : Int), ())) := by
          simp only [n38_0, decide_eq_true hil, decide_eq_true hi0, cond_true, g, Option.bind_some, hw1, decide_eq_false hng, cond_false]
        rw [hst]
        rcases ih (i + 1) M (m - (gt l i).length) (by omega) (by omega) (by omega) (by omega) with k | ⟨m', k1, k2, k3, k4⟩
        · exact .inl k
        · refine .inr ⟨m', k1, k2, by omega, fun j a b => ?_⟩
          by_cases he : j = i
          · subst he; omega
          · exact k4 j (by omega) b
  rcases key l.length 0 N (n - l.length) (by omega) (by omega) (by omega) (by omega) with k | ⟨m', k1, k2, k3, k4⟩
  · left
    have k : itN (n38_0 N (l, ())) N (n - l.length, ((0 : Int), ())) = some (.inl (-1, ())) := k
    simp [F38, hw, h, k]
  · right
    have k1 : itN (n38_0 N (l, ())) N (n - l.length, ((0 : Int), ())) = some (.inr (m', ())) := k1
    refine ⟨m', by simp [F38, hw, h, k1], k2, by omega, by omega, ?_⟩
    exact (all_gt (p := fun v : List Int => v.length ≤ 1048576)).2 fun j a b => k4 j (by omega) b
theorem purely (a b : Int) (vs ms : List (List Int)) (mem : List Int) (h : okT (.int .i64 (.int .i64 (.sl 25 (.sl 2 (.int .i64 .nil) .nil) (.sl 25 (.sl 2 (.int .i64 .nil) .nil) (.sl 2 (.int .i64 .nil) .nil))))) (a, b, vs, ms, mem)) :
    F4 (2 ^ 64) (a, b, vs, ms, mem, ()) = some (true, ()) := by
  obtain ⟨_, _, ⟨v1, v2⟩, ⟨m1, m2⟩, ⟨e1, _⟩, _⟩ := h
  have v1 : vs.length ≤ 9223372036854775807 := v1
  have m1 : ms.length ≤ 9223372036854775807 := m1
  have e1 : mem.length ≤ 9223372036854775807 := e1
  have v2 : ∀ v, v ∈ vs → v.length ≤ 9223372036854775807 := fun v hv => (v2 v hv).1.1
  have m2 : ∀ v, v ∈ ms → v.length ≤ 9223372036854775807 := fun v hv => (m2 v hv).1.1
  have hN : 1048577 ≤ 2 ^ 64 := by decide
  generalize 2 ^ 64 = N at hN ⊢
  have f10 : F10 N (a, (b, (vs, (ms, (mem, ((1048576 : Int), ())))))) = some (-1, ()) ∨ ∃ r, F10 N (a, (b, (vs, (ms, (mem, ((1048576 : Int), ())))))) = some (r, ()) ∧ 0 ≤ r ∧ Sm vs ∧ Sm ms ∧ mem.length ≤ 1048576 := by
    rcases g38 hN vs 1048576 (by decide) (by decide) v1 v2 with g | ⟨r, g, r0, r1, sv⟩
    · left; simp [F10, F21, g]
    rcases g38 hN ms r r0 r1 m1 m2 with k | ⟨q, k, q0, q1, sm⟩
    · left; simp [F10, F21, g, k, show ¬ r < 0 by omega]
    rcases g39 N mem q q0 (by omega) e1 with j | ⟨j, j0⟩
    · left; simp [F10, F21, g, k, j, show ¬ r < 0 by omega, show ¬ q < 0 by omega]
    · right
      exact ⟨q - mem.length, by simp [F10, F21, g, k, j, show ¬ r < 0 by omega, show ¬ q < 0 by omega, show ¬ q - (mem.length : Int) < 0 by omega], j0, sv, sm, by omega⟩
  rcases f10 with g | ⟨r, g, r0, sv, sm, se⟩
  · simp [F4, g]
  · have e13 : F13 N (a, (b, (vs, (ms, (mem, ()))))) = some (okV a b vs ms mem, ()) := by simp [F13, g25 hN a b vs ms mem sv sm se]
    simp [F4, g, show ¬ r < 0 by omega, g12 hN a b vs ms mem sv sm se, g11 hN a b vs ms mem sv sm se, e13, g7 hN a b vs ms mem sv sm se]
end Go.Proofs.Ytdpggojdmabnkaa.E
