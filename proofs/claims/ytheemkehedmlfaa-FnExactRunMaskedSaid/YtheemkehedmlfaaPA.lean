import Derived.Test.YtheemkehedmlfaaT
import Derived.Test.YtheemkehedmlfaaG8
set_option autoImplicit false
set_option linter.unusedVariables false
set_option linter.unusedSimpArgs false
namespace Go.Proofs.Ytheemkehedmlfaa.P
structure Fr where
  b : Nat
  l : Nat
  s : List Int
def frs (k : Nat → Int) : Nat → List Nat
  | 0 => []
  | i + 1 => if k i = 2 ∨ k i = 5 then frs k i ++ [i] else if k i = 4 then (frs k i).dropLast else frs k i
def bs (F : List Fr) : List Nat := F.map Fr.b
structure PA (k : Nat → Int) (o : Nat → Int) (i j : Nat) : Prop where
  k2 : k j = 2 → ∃ t : Nat, o j = t ∧ j < t ∧ t < i ∧ (k t = 3 ∨ k t = 4) ∧ frs k t = frs k j ++ [j]
  k3 : k j = 3 → ∃ t b : Nat, o j = t ∧ j < t ∧ t < i ∧ k t = 4 ∧ k b = 2 ∧ frs k t = frs k b ++ [b] ∧ frs k j = frs k b ++ [b]
  k5 : k j = 5 → ∃ t : Nat, o j = t ∧ j < t ∧ t < i ∧ k t = 4 ∧ frs k t = frs k j ++ [j]
  k4 : k j = 4 → ∃ b : Nat, o j = b ∧ b < j ∧ (k b = 2 ∨ k b = 5) ∧ frs k j = frs k b ++ [b]
  k6 : k j = 6 → ∃ (t b : Nat) (ys : List Nat), o j = t ∧ j < t ∧ t < i ∧ k t = 4 ∧ k b = 5 ∧ b < j ∧ o t = b ∧ frs k t = frs k b ++ [b] ∧ frs k j = frs k b ++ [b] ++ ys ∧ ∀ y ∈ ys, k y = 2
structure FA (k : Nat → Int) (i : Nat) (G : List Fr) (f : Fr) : Prop where
  op : frs k f.b = bs G
  la : f.l = f.b ∨ k f.l = 3 ∧ k f.b = 2 ∧ frs k f.l = bs G ++ [f.b]
  st : ∀ x ∈ f.s, ∃ j : Nat, x = j ∧ j < i ∧ f.b < j ∧ k j = 6 ∧ k f.b = 5 ∧ ∃ ys, frs k j = bs G ++ [f.b] ++ ys ∧ ∀ y ∈ ys, k y = 2
def EU (k : Nat → Int) (i : Nat) : Prop := ∀ j b, j < i → k j = 3 → frs k j = frs k b ++ [b] → ∀ j', j' < i → k j' = 3 → frs k j' = frs k b ++ [b] → j' = j
structure Nst (k : Nat → Int) (i : Nat) (F : List Fr) (o : Nat → Int) : Prop where
  frs : frs k i = bs F
  at_ : ∀ G f H, F = G ++ f :: H → FA k i G f
  lt : ∀ f ∈ F, f.b ≤ f.l ∧ f.l < i ∧ (k f.b = 2 ∨ k f.b = 5)
  all : ∀ j, j < i → PA k o i j ∨ ∃ f ∈ F, j = f.l ∨ (j : Int) ∈ f.s
  eu : EU k i
  ef : ∀ f ∈ F, f.l = f.b → ∀ j, j < i → k j = 3 → P.frs k j ≠ P.frs k f.b ++ [f.b]
theorem EU.skip {k : Nat → Int} {i : Nat} (h : EU k i) (h3 : k i ≠ 3) : EU k (i + 1) := by
  intro j b hj hk hf j' hj' hk' hf'
  refine h j b ?_ hk hf j' ?_ hk' hf'
  · rcases Nat.lt_succ_iff_lt_or_eq.1 hj with h | rfl
    · exact h
    · exact absurd hk h3
  · rcases Nat.lt_succ_iff_lt_or_eq.1 hj' with h | rfl
    · exact h
    · exact absurd hk' h3
theorem ef_skip {k : Nat → Int} {i b : Nat} (h : ∀ j, j < i → k j = 3 → frs k j ≠ frs k b ++ [b]) (h3 : k i ≠ 3) : ∀ j, j < i + 1 → k j = 3 → frs k j ≠ frs k b ++ [b] := by
  intro j hj hk
  rcases Nat.lt_succ_iff_lt_or_eq.1 hj with g | rfl
  · exact h j g hk
  · exact absurd hk h3
theorem frs_lt0 (k : Nat → Int) : ∀ (i x : Nat), x ∈ frs k i → x < i
  | 0, x, h => by cases h
  | i + 1, x, h => by
    rw [frs] at h
    split at h
    · rcases List.mem_append.1 h with h | h
      · have := frs_lt0 k i x h; omega
      · rw [List.mem_singleton.1 h]; omega
    · split at h
      · have := frs_lt0 k i x (List.dropLast_subset _ h); omega
      · have := frs_lt0 k i x h; omega
theorem bs_snoc (F : List Fr) (f : Fr) : bs (F ++ [f]) = bs F ++ [f.b] := by simp [bs]
theorem PA.mono {k : Nat → Int} {o o' : Nat → Int} {i i' j : Nat} (h : PA k o i j) (hi : i ≤ i') (ho : o' j = o j) (ht : ∀ t, t < i → k t = 4 → o' t = o t) : PA k o' i' j where
  k2 h2 := by obtain ⟨t, a, b, c, d⟩ := h.k2 h2; exact ⟨t, ho.trans a, b, by omega, d⟩
  k3 h2 := by obtain ⟨t, b, a, e, c, d⟩ := h.k3 h2; exact ⟨t, b, ho.trans a, e, by omega, d⟩
  k5 h2 := by obtain ⟨t, a, b, c, d⟩ := h.k5 h2; exact ⟨t, ho.trans a, b, by omega, d⟩
  k4 h2 := by obtain ⟨b, a, d⟩ := h.k4 h2; exact ⟨b, ho.trans a, d⟩
  k6 h2 := by obtain ⟨t, b, ys, a, e, c, d, g, l, m, n⟩ := h.k6 h2; exact ⟨t, b, ys, ho.trans a, e, by omega, d, g, l, (ht t c d).trans m, n⟩
theorem FA.mono {k : Nat → Int} {i i' : Nat} {G : List Fr} {f : Fr} (h : FA k i G f) (hi : i ≤ i') : FA k i' G f where
  op := h.op
  la := h.la
  st x hx := by obtain ⟨j, a, b, c⟩ := h.st x hx; exact ⟨j, a, by omega, c⟩
theorem FA.same {k : Nat → Int} {i : Nat} {G G' : List Fr} {f : Fr} (h : FA k i G f) (hg : bs G = bs G') : FA k i G' f where
  op := h.op.trans hg
  la := by rw [← hg]; exact h.la
  st x hx := by rw [← hg]; exact h.st x hx
theorem nst_start (k : Nat → Int) (o : Nat → Int) : Nst k 0 [] o := ⟨rfl, fun G f H h => by simp at h, by simp, by omega, fun j b hj => by omega, by simp⟩
theorem nst_next {k : Nat → Int} {i : Nat} {F : List Fr} {o : Nat → Int} (h : Nst k i F o) (hk : k i = 0 ∨ k i = 1) : Nst k (i + 1) F o where
  frs := by
    rw [frs, if_neg (by omega), if_neg (by omega)]; exact h.frs
  at_ G f H e := (h.at_ G f H e).mono (by omega)
  lt f hf := by have := h.lt f hf; omega
  all j hj := by
    by_cases e : j = i
    · subst e
      exact .inl ⟨by omega, by omega, by omega, by omega, by omega⟩
    · rcases h.all j (by omega) with g | g
      · exact .inl (g.mono (by omega) rfl fun _ _ _ => rfl)
      · exact .inr g
  eu := h.eu.skip (by omega)
  ef f hf hl := ef_skip (h.ef f hf hl) (by omega)
theorem snoc_cases {α : Type} {F G H : List α} {x y : α} (h : F ++ [x] = G ++ y :: H) : (H = [] ∧ F = G ∧ x = y) ∨ ∃ H', H = H' ++ [x] ∧ F = G ++ y :: H' := by
  rcases List.eq_nil_or_concat H with rfl | ⟨H', z, rfl⟩
  · obtain ⟨a, b⟩ := List.append_inj' h rfl
    exact .inl ⟨rfl, a, by simpa using b⟩
  · rw [List.concat_eq_append, ← List.cons_append, ← List.append_assoc] at h
    obtain ⟨a, b⟩ := List.append_inj' h rfl
    refine .inr ⟨H', ?_, a⟩
    rw [List.concat_eq_append]
    simp at b
    rw [b]
theorem nst_push {k : Nat → Int} {i : Nat} {F : List Fr} {o : Nat → Int} (h : Nst k i F o) (hk : k i = 2 ∨ k i = 5) : Nst k (i + 1) (F ++ [⟨i, i, []⟩]) o where
  frs := by rw [frs, if_pos hk, bs_snoc, h.frs]
  at_ G f H e := by
    rcases snoc_cases e with ⟨rfl, rfl, rfl⟩ | ⟨H', rfl, e'⟩
    · exact ⟨h.frs, .inl rfl, fun x hx => by cases hx⟩
    · exact (h.at_ G f H' e').mono (by omega)
  lt f hf := by
    rcases List.mem_append.1 hf with hf | hf
    · have := h.lt f hf; omega
    · rw [List.mem_singleton.1 hf]
      exact ⟨Nat.le_refl _, Nat.lt_succ_self _, hk⟩
  all j hj := by
    by_cases e : j = i
    · exact .inr ⟨⟨i, i, []⟩, by simp, .inl e⟩
    · rcases h.all j (by omega) with g | ⟨f, hf, g⟩
      · exact .inl (g.mono (by omega) rfl fun _ _ _ => rfl)
      · exact .inr ⟨f, List.mem_append_left _ hf, g⟩
  eu := h.eu.skip (by omega)
  ef f hf hl := by
    rcases List.mem_append.1 hf with hf | hf
    · exact ef_skip (h.ef f hf hl) (by omega)
    · rw [List.mem_singleton.1 hf]
      refine ef_skip (fun j hj h3 e => ?_) (by omega)
      have := frs_lt0 k j i (by rw [e]; simp)
      omega
theorem nst_else {k : Nat → Int} {i : Nat} {G : List Fr} {f : Fr} {o o' : Nat → Int} (h : Nst k i (G ++ [f]) o) (h3 : k i = 3) (hf : f.l = f.b) (h2 : k f.b = 2) (ho : ∀ j, o' j = if j = f.b then (i : Int) else o j) :
    Nst k (i + 1) (G ++ [⟨f.b, i, f.s⟩]) o' := by
  have hA := h.at_ G f [] rfl
  have hl := h.lt f (by simp)
  have hfr := h.frs
  rw [bs_snoc] at hfr
  have hne := h.ef f (by simp) hf
  have hfi : frs k i = frs k f.b ++ [f.b] := by rw [hfr, hA.op]
  refine ⟨?_, ?_, ?_, ?_, ?_, ?_⟩
  · rw [frs, if_neg (by omega), if_neg (by omega), bs_snoc, hfr]
  · intro G' g H e
    rcases snoc_cases e with ⟨rfl, rfl, rfl⟩ | ⟨H', rfl, e'⟩
    · exact ⟨hA.op, .inr ⟨h3, h2, hfr⟩, (hA.mono (Nat.le_succ i)).st⟩
    · exact (h.at_ G' g (H' ++ [f]) (by rw [e']; simp)).mono (by omega)
  · intro g hg
    rcases List.mem_append.1 hg with hg | hg
    · have := h.lt g (List.mem_append_left _ hg); omega
    · rw [List.mem_singleton.1 hg]
      exact ⟨by show f.b ≤ i; omega, Nat.lt_succ_self _, .inl h2⟩
  · intro j hj
    have hmono : PA k o i j → j ≠ f.b → PA k o' (i + 1) j := fun g e => g.mono (by omega) (by rw [ho, if_neg e]) fun t ht h4 => by rw [ho, if_neg (by intro e; subst e; omega)]
    by_cases e : j = f.b
    · subst e
      refine .inl ⟨fun _ => ⟨i, by rw [ho, if_pos rfl], by omega, by omega, .inl h3, by rw [hfr, hA.op]⟩, by omega, by omega, by omega, by omega⟩
    by_cases e' : j = i
    · exact .inr ⟨_, List.mem_append_right _ (List.mem_singleton.2 rfl), .inl e'⟩
    rcases h.all j (by omega) with g | ⟨g, hg, h1⟩
    · exact .inl (hmono g e)
    · rcases List.mem_append.1 hg with hg | hg
      · exact .inr ⟨g, List.mem_append_left _ hg, h1⟩
      · rw [List.mem_singleton.1 hg] at h1
        rcases h1 with h1 | h1
        · omega
        · exact .inr ⟨_, List.mem_append_right _ (List.mem_singleton.2 rfl), .inr h1⟩
  · intro j b hj hk3 hjf j' hj' hk3' hjf'
    have hb : ∀ b, frs k i = frs k b ++ [b] → b = f.b := fun b e => by
      rw [hfi] at e
      have := (List.append_inj' e rfl).2
      simpa using this.symm
    rcases Nat.lt_succ_iff_lt_or_eq.1 hj with g | rfl
    · rcases Nat.lt_succ_iff_lt_or_eq.1 hj' with g' | rfl
      · exact h.eu j b g hk3 hjf j' g' hk3' hjf'
      · have := hb b hjf'
        subst this
        exact absurd hjf (hne j g hk3)
    · have := hb b hjf
      subst this
      rcases Nat.lt_succ_iff_lt_or_eq.1 hj' with g' | rfl
      · exact absurd hjf' (hne j' g' hk3')
      · rfl
  · intro g hg hgl j hj hk3
    rcases List.mem_append.1 hg with hg1 | hg1
    · rcases Nat.lt_succ_iff_lt_or_eq.1 hj with g' | rfl
      · exact h.ef g (List.mem_append_left _ hg1) hgl j g' hk3
      · intro e
        rw [hfi] at e
        have e1 : f.b = g.b := by
          have := (List.append_inj' e rfl).2
          simpa using this
        have hin : g.b ∈ frs k f.b := by rw [hA.op]; exact List.mem_map_of_mem hg1
        have := frs_lt0 k _ _ hin
        omega
    · rw [List.mem_singleton.1 hg1] at hgl
      simp only at hgl
      omega
theorem bs_mid (G H : List Fr) (f f' : Fr) (h : f.b = f'.b) : bs (G ++ f :: H) = bs (G ++ f' :: H) := by simp [bs, h]
theorem mid_cases {α : Type} {G H G' H' : List α} {x y : α} (h : G ++ x :: H = G' ++ y :: H') : (G = G' ∧ x = y ∧ H = H') ∨ (∃ M, G = G' ++ y :: M ∧ H' = M ++ x :: H) ∨ ∃ M, G' = G ++ x :: M ∧ H = M ++ y :: H' := by
  rcases List.append_eq_append_iff.1 h with ⟨M, e1, e2⟩ | ⟨M, e1, e2⟩
  · cases M with
    | nil => simp at e1 e2; exact .inl ⟨e1.symm, e2.1, e2.2⟩
    | cons z M => simp at e2; obtain ⟨rfl, e2⟩ := e2; exact .inr (.inr ⟨M, e1, e2⟩)
  · cases M with
    | nil => simp at e1 e2; exact .inl ⟨e1, e2.1.symm, e2.2.symm⟩
    | cons z M => simp at e2; obtain ⟨rfl, e2⟩ := e2; exact .inr (.inl ⟨M, e1, e2⟩)
theorem nst_stop {k : Nat → Int} {i : Nat} {G H : List Fr} {f : Fr} {o : Nat → Int} (h : Nst k i (G ++ f :: H) o) (h6 : k i = 6) (h5 : k f.b = 5) (hH : ∀ x ∈ H, k x.b ≠ 5) :
    Nst k (i + 1) (G ++ ⟨f.b, f.l, f.s ++ [(i : Int)]⟩ :: H) o := by
  have hA := h.at_ G f H rfl
  have hl := h.lt f (by simp)
  have hb : bs (G ++ ⟨f.b, f.l, f.s ++ [(i : Int)]⟩ :: H) = bs (G ++ f :: H) := bs_mid _ _ _ _ rfl
  refine ⟨?_, ?_, ?_, ?_, h.eu.skip (by omega), ?_⟩
  · rw [frs, if_neg (by omega), if_neg (by omega), hb]; exact h.frs
  · intro G' g H' e
    rcases mid_cases e with ⟨rfl, rfl, rfl⟩ | ⟨M, rfl, rfl⟩ | ⟨M, rfl, rfl⟩
    · refine ⟨hA.op, hA.la, fun x hx => ?_⟩
      rcases List.mem_append.1 hx with hx | hx
      · exact (hA.mono (Nat.le_succ i)).st x hx
      · rw [List.mem_singleton.1 hx]
        refine ⟨i, rfl, by omega, by show f.b < i; omega, h6, h5, bs H, ?_, ?_⟩
        · rw [h.frs]; simp [bs]
        · intro y hy
          obtain ⟨x, hx, rfl⟩ := List.mem_map.1 hy
          have := h.lt x (by simp [hx])
          have := hH x hx
          omega
    · exact (h.at_ G' g (M ++ f :: H) (by simp)).mono (by omega)
    · exact ((h.at_ (G ++ f :: M) g H' (by simp)).mono (Nat.le_succ i)).same (bs_mid _ _ _ _ rfl)
  · intro g hg
    have hh : ∀ g ∈ G ++ f :: H, g.b ≤ g.l ∧ g.l < i + 1 ∧ (k g.b = 2 ∨ k g.b = 5) := fun g hg => by have := h.lt g hg; omega
    rcases List.mem_append.1 hg with hg | hg
    · exact hh g (by simp [hg])
    · rcases List.mem_cons.1 hg with rfl | hg
      · exact hh f (by simp)
      · exact hh g (by simp [hg])
  · intro j hj
    by_cases e' : j = i
    · exact .inr ⟨⟨f.b, f.l, f.s ++ [(i : Int)]⟩, by simp, .inr (by simp [e'])⟩
    rcases h.all j (by omega) with g | ⟨g, hg, h1⟩
    · exact .inl (g.mono (by omega) rfl fun _ _ _ => rfl)
    · rcases List.mem_append.1 hg with hg | hg
      · exact .inr ⟨g, by simp [hg], h1⟩
      · rcases List.mem_cons.1 hg with rfl | hg
        · refine .inr ⟨⟨g.b, g.l, g.s ++ [(i : Int)]⟩, by simp, ?_⟩
          rcases h1 with h1 | h1
          · exact .inl h1
          · exact .inr (by simp [h1])
        · exact .inr ⟨g, by simp [hg], h1⟩
  · intro g hg hgl
    have : ∃ g' ∈ G ++ f :: H, g'.b = g.b ∧ g'.l = g.l := by
      rcases List.mem_append.1 hg with hg | hg
      · exact ⟨g, by simp [hg], rfl, rfl⟩
      · rcases List.mem_cons.1 hg with rfl | hg
        · exact ⟨f, by simp, rfl, rfl⟩
        · exact ⟨g, by simp [hg], rfl, rfl⟩
    obtain ⟨g', h1, h2, h3⟩ := this
    rw [← h2]
    exact ef_skip (h.ef g' h1 (by rw [h2, h3]; exact hgl)) (by omega)
theorem nst_end {k : Nat → Int} {i : Nat} {G : List Fr} {f : Fr} {o o' : Nat → Int} (h : Nst k i (G ++ [f]) o) (h4 : k i = 4) (ho : ∀ j, o' j = if (j : Int) ∈ f.s then (i : Int) else if j = i then (f.b : Int) else if j = f.l then (i : Int) else o j) :
    Nst k (i + 1) G o' := by
  have hA := h.at_ G f [] rfl
  have hl := h.lt f (by simp)
  have hfr := h.frs
  rw [bs_snoc] at hfr
  have hs : ∀ j : Nat, (j : Int) ∈ f.s → j < i ∧ f.b < j ∧ k j = 6 ∧ k f.b = 5 ∧ ∃ ys, frs k j = bs G ++ [f.b] ++ ys ∧ ∀ y ∈ ys, k y = 2 := by
    intro j hj
    obtain ⟨j', e, hh⟩ := hA.st _ hj
    obtain rfl : j = j' := by omega
    exact hh
  have hoi : o' i = (f.b : Int) := by rw [ho, if_neg (fun hh => by have := hs i hh; omega), if_pos rfl]
  refine ⟨?_, ?_, ?_, ?_, h.eu.skip (by omega), fun g hg hgl => ef_skip (h.ef g (List.mem_append_left _ hg) hgl) (by omega)⟩
  · rw [frs, if_neg (by omega), if_pos h4, hfr, List.dropLast_concat]
  · intro G' g H' e
    exact (h.at_ G' g (H' ++ [f]) (by rw [e]; simp)).mono (by omega)
  · intro g hg
    have := h.lt g (List.mem_append_left _ hg)
    omega
  · intro j hj
    by_cases e1 : (j : Int) ∈ f.s
    · obtain ⟨a, b, c, d, ys, e, g⟩ := hs j e1
      refine .inl ⟨by omega, by omega, by omega, by omega, fun _ => ⟨i, f.b, ys, by rw [ho, if_pos e1], a, by omega, h4, d, b, hoi, by rw [hfr, hA.op], by rw [e, hA.op], g⟩⟩
    by_cases e2 : j = i
    · subst e2
      exact .inl ⟨by omega, by omega, by omega, fun _ => ⟨f.b, hoi, by omega, hl.2.2, by rw [hfr, hA.op]⟩, by omega⟩
    by_cases e3 : j = f.l
    · subst e3
      have hoj : o' f.l = (i : Int) := by rw [ho, if_neg e1, if_neg e2, if_pos rfl]
      rcases hA.la with e4 | ⟨e4, e5, e6⟩
      · rw [e4] at hoj ⊢
        rcases hl.2.2 with e5 | e5
        · exact .inl ⟨fun _ => ⟨i, hoj, by omega, by omega, .inr h4, by rw [hfr, hA.op]⟩, by omega, by omega, by omega, by omega⟩
        · exact .inl ⟨by omega, by omega, fun _ => ⟨i, hoj, by omega, by omega, h4, by rw [hfr, hA.op]⟩, by omega, by omega⟩
      · exact .inl ⟨by omega, fun _ => ⟨i, f.b, hoj, by omega, by omega, h4, e5, by rw [hfr, hA.op], by rw [e6, hA.op]⟩, by omega, by omega, by omega⟩
    rcases h.all j (by omega) with g | ⟨g, hg, h1⟩
    · refine .inl (g.mono (by omega) (by rw [ho, if_neg e1, if_neg e2, if_neg e3]) fun t ht h4' => ?_)
      rw [ho, if_neg (fun hh => by have := hs t hh; omega), if_neg (by omega), if_neg]
      rintro rfl
      rcases hA.la with e4 | e4
      · rw [e4] at h4'; omega
      · omega
    · rcases List.mem_append.1 hg with hg | hg
      · exact .inr ⟨g, hg, h1⟩
      · rw [List.mem_singleton.1 hg] at h1
        rcases h1 with h1 | h1
        · exact absurd h1 e3
        · exact absurd h1 e1
theorem nst_whole {k : Nat → Int} {n : Nat} {o : Nat → Int} (h : Nst k n [] o) : frs k n = [] ∧ EU k n ∧ ∀ j, j < n → PA k o n j :=
  ⟨h.frs, h.eu, fun j hj => by
    rcases h.all j hj with g | ⟨f, hf, _⟩
    · exact g
    · cases hf⟩
def lo (k : Nat → Int) (i : Nat) : List Nat := (frs k i).filter fun j => k j == 5
theorem lo_of {k : Nat → Int} {i : Nat} {xs : List Nat} {b : Nat} (h : frs k i = xs ++ [b]) : lo k i = xs.filter (fun j => k j == 5) ++ if k b = 5 then [b] else [] := by
  unfold lo
  rw [h, List.filter_append]
  by_cases e : k b = 5 <;> simp [e]
theorem lo_skip {k : Nat → Int} {i : Nat} (h : k i = 0 ∨ k i = 1 ∨ k i = 2 ∨ k i = 3 ∨ k i = 6) : lo k (i + 1) = lo k i := by
  unfold lo
  rw [frs]
  by_cases h2 : k i = 2
  · rw [if_pos (.inl h2), List.filter_append]; simp [h2]
  · rw [if_neg (by omega), if_neg (by omega)]
theorem lo_loop {k : Nat → Int} {i : Nat} (h : k i = 5) : lo k (i + 1) = lo k i ++ [i] := by
  rw [lo_of (show frs k (i + 1) = frs k i ++ [i] by rw [frs, if_pos (.inr h)]), if_pos h]; rfl
theorem lo_end {k : Nat → Int} {t : Nat} {xs : List Nat} {b : Nat} (h : k t = 4) (hf : frs k t = xs ++ [b]) : lo k (t + 1) = xs.filter (fun j => k j == 5) := by
  unfold lo
  rw [frs, if_neg (by omega), if_pos h, hf, List.dropLast_concat]
theorem lo_if {k : Nat → Int} {t i : Nat} (h2 : k i = 2) (h : k t = 3 ∨ k t = 4) (hf : frs k t = frs k i ++ [i]) : lo k (t + 1) = lo k i := by
  rcases h with h | h
  · rw [lo_skip (by omega), lo_of hf, if_neg (by omega), List.append_nil]; rfl
  · rw [lo_end h hf]; rfl
theorem lo_else {k : Nat → Int} {t i b : Nat} (h2 : k b = 2) (h : k t = 4) (hf : frs k t = frs k b ++ [b]) (hi : frs k i = frs k b ++ [b]) : lo k (t + 1) = lo k i := by
  rw [lo_end h hf, lo_of hi, if_neg (by omega), List.append_nil]
theorem lo_stop {k : Nat → Int} {t i b : Nat} {ys : List Nat} (h5 : k b = 5) (h : k t = 4) (hf : frs k t = frs k b ++ [b]) (hi : frs k i = frs k b ++ [b] ++ ys) (hy : ∀ y ∈ ys, k y = 2) : lo k i = lo k (t + 1) ++ [b] := by
  rw [lo_end h hf]
  unfold lo
  rw [hi, List.filter_append, List.filter_append]
  have : ys.filter (fun j => k j == 5) = [] := by
    rw [List.filter_eq_nil_iff]
    intro y hh
    have := hy y hh
    simp; omega
  rw [this]
  simp [h5]
theorem lo_done {k : Nat → Int} {i b : Nat} (h : k i = 4) (hf : frs k i = frs k b ++ [b]) (h2 : k b = 2) : lo k (i + 1) = lo k i := by
  rw [lo_end h hf, lo_of hf, if_neg (by omega), List.append_nil]
theorem lo_back {k : Nat → Int} {i b : Nat} (h : k i = 4) (hf : frs k i = frs k b ++ [b]) (h5 : k b = 5) : lo k i = lo k (i + 1) ++ [b] ∧ lo k (b + 1) = lo k i := by
  rw [lo_end h hf, lo_of hf, if_pos h5, lo_loop h5]
  exact ⟨rfl, rfl⟩
theorem lo_len {k : Nat → Int} {i : Nat} (h : (frs k i).length ≤ 4) : (lo k i).length ≤ 4 := Nat.le_trans (List.length_filter_le _ _) h
end Go.Proofs.Ytheemkehedmlfaa.P
set_option linter.unusedVariables false
set_option linter.unusedSimpArgs false
namespace Go.Proofs.Ytheemkehedmlfaa.P
open Go Go.Proofs.Ytheemkehedmlfaa.E
abbrev LT := Int × Int × Int × Int × Int
theorem wr_id {x : Int} (h0 : -9223372036854775808 ≤ x) (h1 : x ≤ 9223372036854775807) : IntKind.wrap .i64 x = x := by
  rw [IntKind.wrap_i64]; omega
def inB (n a b : Int) : Bool := decide (a ≤ n) && decide (n ≤ b)
def bitsV (b : Int) : Bool := decide (b = 4) || decide (b = 8) || decide (b = 16)
def wordV (b x : Int) : Bool := bitsV b && decide (0 ≤ x) && decide (x ≤ (if b = 4 then 15 else if b = 8 then 255 else 65535))
def lineB (b : Int) (x : LT) : Bool :=
  if x.1 = 0 then inB x.2.1 0 7 && (inB x.2.2.1 0 17 && (inB x.2.2.2.1 0 7 && inB x.2.2.2.2 0 7))
  else if x.1 = 1 then inB x.2.1 0 7 && (decide (x.2.2.1 = 0) && (decide (x.2.2.2.1 = 0) && wordV b x.2.2.2.2))
  else if x.1 = 2 ∨ x.1 = 6 then decide (x.2.1 = 0) && (inB x.2.2.1 0 5 && (inB x.2.2.2.1 0 7 && inB x.2.2.2.2 0 7))
  else if x.1 = 3 ∨ x.1 = 4 then decide (x.2.1 = 0) && (decide (x.2.2.1 = 0) && (decide (x.2.2.2.1 = 0) && decide (x.2.2.2.2 = 0)))
  else if x.1 = 5 then decide (x.2.1 = 0) && (decide (x.2.2.1 = 0) && (decide (x.2.2.2.1 = 0) && inB x.2.2.2.2 1 8))
  else false
def kd (L : List LT) (i : Nat) : Int := (gt L (i : Int)).1
def ct (L : List LT) (i : Nat) : Int := (gt L (i : Int)).2.2.2.2
def opn (F : List Fr) : List Int := F.map fun f => (f.b : Int)
def lst (F : List Fr) : List Int := F.map fun f => (f.l : Int)
def stp (F : List Fr) : List (List Int) := F.map fun f => f.s
def lps (L : List LT) (F : List Fr) : List Fr := F.filter fun f => kd L f.b == 5
def scanP (c : Int) : List Int → List Int
  | [] => [c]
  | x :: xs => c :: scanP (c * x) xs
def pr (c : Int) (xs : List Int) : Int := xs.foldl (· * ·) c
def cnts (L : List LT) (F : List Fr) : List Int := (lps L F).map fun f => ct L f.b
theorem scanP_len (xs : List Int) : ∀ c, (scanP c xs).length = xs.length + 1 := by
  induction xs with
  | nil => intro c; rfl
  | cons x xs ih => intro c; simp [scanP, ih]
theorem scanP_snoc (xs : List Int) (x : Int) : ∀ c, scanP c (xs ++ [x]) = scanP c xs ++ [pr c xs * x] := by
  induction xs with
  | nil => intro c; rfl
  | cons y ys ih => intro c; simp only [List.cons_append, scanP, ih, pr, List.foldl_cons]
theorem scanP_last (xs : List Int) : ∀ c, (scanP c xs).getD xs.length 0 = pr c xs := by
  induction xs with
  | nil => intro c; rfl
  | cons y ys ih => intro c; simp only [scanP, List.length_cons, List.getD_cons_succ, ih, pr, List.foldl_cons]
theorem lps_snoc (L : List LT) (F : List Fr) (f : Fr) : lps L (F ++ [f]) = if kd L f.b = 5 then lps L F ++ [f] else lps L F := by
  unfold lps
  by_cases h : kd L f.b = 5 <;> simp [List.filter_append, h]
theorem gtn {α : Type} [Inhabited α] (l : List α) (i : Nat) : gt l (i : Int) = l.getD i default := by unfold gt; simp
theorem opn_len (F : List Fr) : (opn F).length = F.length := by simp [opn]
theorem lst_len (F : List Fr) : (lst F).length = F.length := by simp [lst]
theorem stp_len (F : List Fr) : (stp F).length = F.length := by simp [stp]
theorem opn_at (F : List Fr) (j : Nat) (h : j < F.length) : gt (opn F) (j : Int) = ((F[j]).b : Int) := by rw [gtn]; simp [opn, List.getD_eq_getElem?_getD, h]
theorem opn_snoc (G : List Fr) (f : Fr) : opn (G ++ [f]) = opn G ++ [(f.b : Int)] := by simp [opn]
theorem lst_snoc (G : List Fr) (f : Fr) : lst (G ++ [f]) = lst G ++ [(f.l : Int)] := by simp [lst]
theorem stp_snoc (G : List Fr) (f : Fr) : stp (G ++ [f]) = stp G ++ [f.s] := by simp [stp]
theorem top_b (G : List Fr) (f : Fr) : gt (opn (G ++ [f])) (G.length : Int) = (f.b : Int) := by rw [gtn, opn_snoc]; simp [List.getD_eq_getElem?_getD, opn_len, List.getElem?_append]
theorem top_l (G : List Fr) (f : Fr) : gt (lst (G ++ [f])) (G.length : Int) = (f.l : Int) := by rw [gtn, lst_snoc]; simp [List.getD_eq_getElem?_getD, lst_len, List.getElem?_append]
theorem top_s (G : List Fr) (f : Fr) : gt (stp (G ++ [f])) (G.length : Int) = f.s := by rw [gtn, stp_snoc]; simp [List.getD_eq_getElem?_getD, stp_len, List.getElem?_append]
theorem cut_o (G : List Fr) (f : Fr) : (opn (G ++ [f])).take ((G.length : Int)).toNat = opn G := by rw [opn_snoc]; simp [List.take_append, opn_len]
theorem cut_l (G : List Fr) (f : Fr) : (lst (G ++ [f])).take ((G.length : Int)).toNat = lst G := by rw [lst_snoc]; simp [List.take_append, lst_len]
theorem cut_s (G : List Fr) (f : Fr) : (stp (G ++ [f])).take ((G.length : Int)).toNat = stp G := by rw [stp_snoc]; simp [List.take_append, stp_len]
theorem set_l (G : List Fr) (f : Fr) (i : Nat) : (lst (G ++ [f])).set ((G.length : Int)).toNat (i : Int) = lst (G ++ [⟨f.b, i, f.s⟩]) := by rw [lst_snoc, lst_snoc]; simp [List.set_append, lst_len]
theorem cnts_snoc (L : List LT) (F : List Fr) (f : Fr) : cnts L (F ++ [f]) = if kd L f.b = 5 then cnts L F ++ [ct L f.b] else cnts L F := by
  unfold cnts; rw [lps_snoc]; split <;> simp
theorem cnts_cons (L : List LT) (f : Fr) (F : List Fr) : cnts L (f :: F) = if kd L f.b = 5 then ct L f.b :: cnts L F else cnts L F := by
  unfold cnts lps; by_cases h : kd L f.b = 5 <;> simp [h]
theorem pr_snoc (c : Int) (xs : List Int) (x : Int) : pr c (xs ++ [x]) = pr c xs * x := by simp [pr]
theorem cap_mul (P B : Int) (hP : 1 ≤ P) (hB : 1 ≤ B ∧ B ≤ 8) : min (IntKind.wrap .i64 (min P 65 * B)) 65 = min (P * B) 65 := by
  have hc : B = 1 ∨ B = 2 ∨ B = 3 ∨ B = 4 ∨ B = 5 ∨ B = 6 ∨ B = 7 ∨ B = 8 := by omega
  have hm : 1 ≤ min P 65 ∧ min P 65 ≤ 65 := by omega
  rcases hc with rfl | rfl | rfl | rfl | rfl | rfl | rfl | rfl <;> (rw [wr_id (by omega) (by omega)]; omega)
theorem pr_pos (xs : List Int) (h : ∀ x ∈ xs, 1 ≤ x) : ∀ c, 1 ≤ c → 1 ≤ pr c xs := by
  induction xs with
  | nil => intro c hc; exact hc
  | cons x xs ih =>
    intro c hc
    refine ih (fun y hy => h y (List.mem_cons_of_mem _ hy)) (c * x) ?_
    exact Int.mul_le_mul hc (h x (List.mem_cons_self ..)) (by omega) (by omega)
structure Inv (L : List LT) (i : Nat) (F : List Fr) (oS oI : List Int) (m : List (Int × Bool)) : Prop where
  hi : i ≤ L.length
  hN : L.length ≤ 24
  ls : oS.length = L.length
  li : oI.length = L.length
  eq : ∀ j : Nat, j < i → oI.getD j 0 = oS.getD j 0
  ge : ∀ j : Nat, i ≤ j → j < L.length → oS.getD j 0 = (j : Int)
  nest : F.length ≤ 4
  prod : pr 1 (cnts L F) ≤ 64
  cnt : ∀ f ∈ F, kd L f.b = 5 → 1 ≤ ct L f.b ∧ ct L f.b ≤ 8
  kds : ∀ f ∈ F, kd L f.b = 2 ∨ kd L f.b = 5
  bl : ∀ f ∈ F, f.b ≤ f.l ∧ f.l < i
  lp : ∀ f ∈ F, kd L f.b = 5 → f.l = f.b
  el : ∀ f ∈ F, f.l ≠ f.b → kd L f.l = 3 ∧ oI.getD f.b 0 = (f.l : Int)
  mg : ∀ f ∈ F, mget m (f.b : Int) = decide (f.l ≠ f.b)
  mky : ∀ x ∈ m, x.1 < (i : Int)
  srt : F.Pairwise (fun f g => f.b < g.b)
  st : ∀ f ∈ F, ∀ x ∈ f.s, ∃ j : Nat, x = (j : Int) ∧ j < i ∧ kd L j = 6
  st0 : ∀ f ∈ F, kd L f.b = 2 → f.s = []
  sl : ∀ f ∈ F, f.s.length ≤ i
theorem scan_last (L : List LT) (F : List Fr) : gt (scanP 1 (cnts L F)) ((lps L F).length : Int) = pr 1 (cnts L F) := by
  rw [gtn, show (lps L F).length = (cnts L F).length by simp [cnts]]; exact scanP_last _ _
theorem scan_len (L : List LT) (F : List Fr) : (scanP 1 (cnts L F)).length = (lps L F).length + 1 := by rw [scanP_len]; simp [cnts]
theorem lps_le (L : List LT) (F : List Fr) : (lps L F).length ≤ F.length := List.length_filter_le _ _
theorem w_pred (n : Nat) (h : n ≤ 1000) : IntKind.wrap .i64 (((n + 1 : Nat) : Int) - 1) = (n : Int) := by rw [wr_id (by omega) (by omega)]; omega
theorem getD_set (l : List Int) (i j : Nat) (v : Int) (h : i < l.length) : (l.set i v).getD j 0 = if j = i then v else l.getD j 0 := by
  simp only [List.getD_eq_getElem?_getD, List.getElem?_set]
  by_cases e : j = i
  · subst e; simp [h]
  · rw [if_neg (Ne.symm e), if_neg e]
theorem all_snoc {P : Fr → Prop} {F : List Fr} {f : Fr} (h : ∀ x ∈ F, P x) (hf : P f) : ∀ x ∈ F ++ [f], P x := by
  intro x hx
  rcases List.mem_append.1 hx with hx | hx
  · exact h x hx
  · rw [List.mem_singleton.1 hx]; exact hf
theorem line_ct {b : Int} {L : List LT} {i : Nat} (hv : lineB b (gt L (i : Int)) = true) (h5 : kd L i = 5) : 1 ≤ ct L i ∧ ct L i ≤ 8 := by
  unfold lineB at hv
  have e : (gt L (i : Int)).1 = 5 := h5
  rw [e] at hv
  simp [inB] at hv
  exact hv.2.2.2
theorem line_kd {b : Int} {L : List LT} {i : Nat} (hv : lineB b (gt L (i : Int)) = true) : 0 ≤ kd L i ∧ kd L i ≤ 6 := by
  unfold lineB at hv
  show 0 ≤ (gt L (i : Int)).1 ∧ (gt L (i : Int)).1 ≤ 6
  generalize (gt L (i : Int)).1 = x at hv
  by_cases h0 : x = 0
  · omega
  by_cases h1 : x = 1
  · omega
  by_cases h2 : x = 2 ∨ x = 6
  · omega
  by_cases h3 : x = 3 ∨ x = 4
  · omega
  by_cases h5 : x = 5
  · omega
  rw [if_neg h0, if_neg h1, if_neg h2, if_neg h3, if_neg h5] at hv
  cases hv
theorem inv_next {L : List LT} {i : Nat} {F : List Fr} {oS oI : List Int} {m : List (Int × Bool)} (h : Inv L i F oS oI m) (hi : i < L.length) : Inv L (i + 1) F oS (oI.set i (i : Int)) m where
  hi := hi
  hN := h.hN
  ls := h.ls
  li := by rw [List.length_set]; exact h.li
  eq := by
    intro j hj
    rw [getD_set _ _ _ _ (by rw [h.li]; exact hi)]
    by_cases e : j = i
    · rw [if_pos e, e, h.ge i (Nat.le_refl _) hi]
    · rw [if_neg e]; exact h.eq j (by omega)
  ge := fun j hj hl => h.ge j (by omega) hl
  nest := h.nest
  prod := h.prod
  cnt := h.cnt
  kds := h.kds
  bl := fun f hf => ⟨(h.bl f hf).1, by have := (h.bl f hf).2; omega⟩
  lp := h.lp
  el := by
    intro f hf hne
    refine ⟨(h.el f hf hne).1, ?_⟩
    rw [getD_set _ _ _ _ (by rw [h.li]; exact hi), if_neg (by have := h.bl f hf; omega)]
    exact (h.el f hf hne).2
  mg := h.mg
  mky := fun x hx => by have := h.mky x hx; omega
  srt := h.srt
  st := by
    intro f hf x hx
    obtain ⟨j, e, hj, h6⟩ := h.st f hf x hx
    exact ⟨j, e, by omega, h6⟩
  st0 := h.st0
  sl := fun f hf => by have := h.sl f hf; omega
theorem mget_no : ∀ {m : List (Int × Bool)} {k : Int}, (∀ x ∈ m, x.1 < k) → mget m k = false
  | [], _, _ => rfl
  | p :: r, k, h => by
    have h1 := h p List.mem_cons_self
    simp only [mget]
    rw [decide_eq_false (by omega)]
    exact mget_no fun x hx => h x (List.mem_cons_of_mem _ hx)
theorem mget_new {L : List LT} {i : Nat} {F : List Fr} {oS oI : List Int} {m : List (Int × Bool)} (h : Inv L i F oS oI m) : mget m (i : Int) = false := mget_no h.mky
theorem mget_mput : ∀ (m : List (Int × Bool)) (k j : Int), mget (mput m k true) j = (decide (j = k) || mget m j)
  | [], k, j => by
    simp only [mput, mget]
    by_cases h : j = k <;> simp [h]
  | p :: r, k, j => by
    simp only [mput]
    by_cases h : k = p.1
    · simp only [h, decide_true, cond_true, mget]
      by_cases h2 : j = p.1 <;> simp [h2]
    · simp only [h, decide_false, cond_false, mget]
      rw [mget_mput r k j]
      by_cases h2 : j = p.1
      · simp only [h2, decide_true, cond_true]
        rw [decide_eq_false (fun e => h e.symm)]; rfl
      · simp only [h2, decide_false, cond_false]
theorem mem_mput : ∀ {m : List (Int × Bool)} {k : Int} {x : Int × Bool}, x ∈ mput m k true → x ∈ m ∨ x.1 = k
  | [], k, x, h => by
    simp only [mput, List.mem_singleton] at h
    exact .inr (by rw [h])
  | p :: r, k, x, h => by
    simp only [mput] at h
    by_cases e : k = p.1
    · simp only [e, decide_true, cond_true, List.mem_cons] at h
      rcases h with rfl | h
      · exact .inr e.symm
      · exact .inl (List.mem_cons_of_mem _ h)
    · simp only [e, decide_false, cond_false, List.mem_cons] at h
      rcases h with rfl | h
      · exact .inl List.mem_cons_self
      · rcases mem_mput h with h | h
        · exact .inl (List.mem_cons_of_mem _ h)
        · exact .inr h
theorem inv_push {L : List LT} {i : Nat} {F : List Fr} {oS oI : List Int} {m : List (Int × Bool)} (h : Inv L i F oS oI m) (hi : i < L.length) (hk : kd L i = 2 ∨ kd L i = 5) (hc : kd L i = 5 → 1 ≤ ct L i ∧ ct L i ≤ 8) (hn : F.length + 1 ≤ 4) (hp : pr 1 (cnts L (F ++ [⟨i, i, []⟩])) ≤ 64) :
    Inv L (i + 1) (F ++ [⟨i, i, []⟩]) oS (oI.set i (i : Int)) m := by
  have n := inv_next h hi
  exact { hi := n.hi, hN := n.hN, ls := n.ls, li := n.li, eq := n.eq, ge := n.ge, nest := by simp; omega, prod := hp
          cnt := all_snoc n.cnt hc
          kds := all_snoc n.kds hk
          bl := all_snoc n.bl ⟨Nat.le_refl _, by show i < i + 1; omega⟩
          lp := all_snoc n.lp (fun _ => rfl)
          el := all_snoc n.el (fun e => absurd rfl e)
          mg := all_snoc n.mg (by rw [mget_new h]; simp)
          mky := n.mky
          srt := by
            rw [List.pairwise_append]
            refine ⟨n.srt, List.pairwise_singleton _ _, fun f hf g hg => ?_⟩
            rw [List.mem_singleton.1 hg]
            have := h.bl f hf
            show f.b < i
            omega
          st := all_snoc n.st (fun x hx => by cases hx)
          st0 := all_snoc n.st0 (fun _ => rfl)
          sl := all_snoc n.sl (by show 0 ≤ i + 1; omega) }
theorem pr_le {L : List LT} {F : List Fr} (hc : ∀ f ∈ F, kd L f.b = 5 → 1 ≤ ct L f.b ∧ ct L f.b ≤ 8) : 1 ≤ pr 1 (cnts L F) := by
  refine pr_pos _ ?_ 1 (by omega)
  intro x hx
  obtain ⟨f, hf, rfl⟩ := List.mem_map.1 hx
  have h5 := (List.mem_filter.1 hf).2
  exact (hc f (List.mem_filter.1 hf).1 (by simpa using h5)).1
theorem mul_small {P B : Int} (hP : 1 ≤ P ∧ P ≤ 64) (hB : 1 ≤ B ∧ B ≤ 8) : 1 ≤ P * B ∧ P * B ≤ 512 := by
  have hc : B = 1 ∨ B = 2 ∨ B = 3 ∨ B = 4 ∨ B = 5 ∨ B = 6 ∨ B = 7 ∨ B = 8 := by omega
  rcases hc with rfl | rfl | rfl | rfl | rfl | rfl | rfl | rfl <;> omega
theorem of_snoc {P : Fr → Prop} {G : List Fr} {f : Fr} (h : ∀ x ∈ G ++ [f], P x) : (∀ x ∈ G, P x) ∧ P f :=
  ⟨fun x hx => h x (List.mem_append_left _ hx), h f (List.mem_append_right _ (List.mem_singleton.2 rfl))⟩
theorem srt_lt {G : List Fr} {f : Fr} (h : (G ++ [f]).Pairwise (fun f g => f.b < g.b)) : (∀ x ∈ G, x.b < f.b) ∧ G.Pairwise (fun f g => f.b < g.b) := by
  rw [List.pairwise_append] at h
  exact ⟨fun x hx => h.2.2 x hx f (List.mem_singleton.2 rfl), h.1⟩
theorem inv_else {L : List LT} {i : Nat} {G : List Fr} {f : Fr} {oS oI : List Int} {m : List (Int × Bool)} (h : Inv L i (G ++ [f]) oS oI m) (hi : i < L.length) (h3 : kd L i = 3) (hf : f.l = f.b) (h2 : kd L f.b = 2) :
    Inv L (i + 1) (G ++ [⟨f.b, i, f.s⟩]) (oS.set f.b (i : Int)) ((oI.set i (i : Int)).set f.b (i : Int)) (mput m (f.b : Int) true) := by
  have n := inv_next h hi
  have hb := (of_snoc h.bl).2
  have hs := srt_lt h.srt
  have hlS : f.b < oS.length := by rw [h.ls]; omega
  have hlI : f.b < (oI.set i (i : Int)).length := by rw [List.length_set, h.li]; omega
  exact { hi := n.hi, hN := n.hN, ls := by rw [List.length_set]; exact n.ls, li := by rw [List.length_set]; exact n.li
          eq := by
            intro j hj
            rw [getD_set _ _ _ _ hlS, getD_set _ _ _ _ hlI]
            split
            · rfl
            · exact n.eq j hj
          ge := by
            intro j hj hl
            rw [getD_set _ _ _ _ hlS, if_neg (by omega)]
            exact n.ge j hj hl
          nest := by have := n.nest; simp at this ⊢; omega
          prod := by have := n.prod; rw [cnts_snoc] at this ⊢; exact this
          cnt := all_snoc (of_snoc n.cnt).1 (of_snoc n.cnt).2
          kds := all_snoc (of_snoc n.kds).1 (of_snoc n.kds).2
          bl := all_snoc (of_snoc n.bl).1 ⟨by show f.b ≤ i; omega, by show i < i + 1; omega⟩
          lp := all_snoc (of_snoc n.lp).1 (fun h5 => by have h5 : kd L f.b = 5 := h5; omega)
          el := all_snoc (fun x hx hne => ⟨((of_snoc n.el).1 x hx hne).1, by rw [getD_set _ _ _ _ hlI, if_neg (by have := hs.1 x hx; omega)]; exact ((of_snoc n.el).1 x hx hne).2⟩)
            (fun _ => ⟨h3, by show ((oI.set i (i : Int)).set f.b (i : Int)).getD f.b 0 = _; rw [getD_set _ _ _ _ hlI, if_pos rfl]⟩)
          mg := all_snoc (fun x hx => by rw [mget_mput, (of_snoc n.mg).1 x hx]; have := hs.1 x hx; have e : ¬ ((x.b : Int) = (f.b : Int)) := (by omega); simp [e])
            (by show mget (mput m (f.b : Int) true) (f.b : Int) = decide (i ≠ f.b); rw [mget_mput]; have e : i ≠ f.b := (by omega); simp [e])
          mky := fun x hx => by
            rcases mem_mput hx with hx | hx
            · exact n.mky x hx
            · omega
          srt := by
            rw [List.pairwise_append]
            exact ⟨hs.2, List.pairwise_singleton _ _, fun x hx g hg => by rw [List.mem_singleton.1 hg]; exact hs.1 x hx⟩
          st := all_snoc (of_snoc n.st).1 (of_snoc n.st).2
          st0 := all_snoc (of_snoc n.st0).1 (of_snoc n.st0).2
          sl := all_snoc (of_snoc n.sl).1 (of_snoc n.sl).2 }
theorem last_loop (L : List LT) (F : List Fr) : (∀ f ∈ F, kd L f.b ≠ 5) ∨ ∃ G f H, F = G ++ f :: H ∧ kd L f.b = 5 ∧ ∀ x ∈ H, kd L x.b ≠ 5 := by
  induction F with
  | nil => exact Or.inl (fun f hf => by cases hf)
  | cons x xs ih =>
    rcases ih with h | ⟨G, f, H, e, h5, hH⟩
    · by_cases h5 : kd L x.b = 5
      · exact Or.inr ⟨[], x, xs, rfl, h5, h⟩
      · exact Or.inl (fun f hf => (List.mem_cons.1 hf).elim (fun e => by rw [e]; exact h5) (h f))
    · exact Or.inr ⟨x :: G, f, H, by rw [e]; rfl, h5, hH⟩
theorem lps_none {L : List LT} {F : List Fr} (h : ∀ f ∈ F, kd L f.b ≠ 5) : lps L F = [] := by
  unfold lps
  rw [List.filter_eq_nil_iff]
  intro f hf hc
  exact h f hf (by simpa using hc)
theorem lps_split {L : List LT} {G H : List Fr} {f : Fr} (h5 : kd L f.b = 5) (hH : ∀ x ∈ H, kd L x.b ≠ 5) : lps L (G ++ f :: H) = lps L G ++ [f] := by
  have h1 := lps_none hH
  unfold lps at h1 ⊢
  rw [List.filter_append, List.filter_cons, h1]
  simp [h5]
theorem all_mid {P : Fr → Prop} {G H : List Fr} {f f' : Fr} (h : ∀ x ∈ G ++ f :: H, P x) (hf : P f → P f') : ∀ x ∈ G ++ f' :: H, P x := by
  intro x hx
  rcases List.mem_append.1 hx with hx | hx
  · exact h x (List.mem_append_left _ hx)
  · rcases List.mem_cons.1 hx with rfl | hx
    · exact hf (h f (List.mem_append_right _ (List.mem_cons_self ..)))
    · exact h x (List.mem_append_right _ (List.mem_cons_of_mem _ hx))
theorem inv_stop {L : List LT} {i : Nat} {G H : List Fr} {f : Fr} {oS oI : List Int} {m : List (Int × Bool)} (h : Inv L i (G ++ f :: H) oS oI m) (hi : i < L.length) (h6 : kd L i = 6) (h5 : kd L f.b = 5) :
    Inv L (i + 1) (G ++ ⟨f.b, f.l, f.s ++ [(i : Int)]⟩ :: H) oS (oI.set i (i : Int)) m := by
  have n := inv_next h hi
  exact { hi := n.hi, hN := n.hN, ls := n.ls, li := n.li, eq := n.eq, ge := n.ge
          nest := by have := n.nest; simp at this ⊢; omega
          prod := by have := n.prod; unfold cnts lps at this ⊢; rw [List.filter_append, List.filter_cons] at this ⊢; simp [h5] at this ⊢; exact this
          cnt := all_mid n.cnt id
          kds := all_mid n.kds id
          bl := all_mid n.bl id
          lp := all_mid n.lp id
          el := all_mid n.el id
          mg := all_mid n.mg id
          mky := n.mky
          srt := by
            have := n.srt
            rw [List.pairwise_append, List.pairwise_cons] at this ⊢
            refine ⟨this.1, this.2.1, fun x hx y hy => ?_⟩
            rcases List.mem_cons.1 hy with rfl | hy
            · exact this.2.2 x hx f (List.mem_cons_self ..)
            · exact this.2.2 x hx y (List.mem_cons_of_mem _ hy)
          st := all_mid n.st (fun hs x hx => by
            rcases List.mem_append.1 hx with hx | hx
            · exact hs x hx
            · exact ⟨i, List.mem_singleton.1 hx, by omega, h6⟩)
          st0 := all_mid n.st0 (fun _ h2 => by have h2 : kd L f.b = 2 := h2; omega)
          sl := all_mid n.sl (fun _ => by have := h.sl f (List.mem_append_right _ (List.mem_cons_self ..)); show (f.s ++ [(i : Int)]).length ≤ i + 1; simp; omega) }
def setAll (o : List Int) (s : List Int) (v : Int) : List Int := s.foldl (fun o x => o.set x.toNat v) o
theorem setAll_len (s : List Int) (v : Int) : ∀ o : List Int, (setAll o s v).length = o.length := by
  induction s with
  | nil => intro o; rfl
  | cons x xs ih => intro o; show (setAll (o.set x.toNat v) xs v).length = _; rw [ih, List.length_set]
theorem setAll_far (s : List Int) (v : Int) (j : Nat) (hs : ∀ x ∈ s, ∃ q : Nat, x = (q : Int) ∧ q ≠ j) : ∀ o : List Int, (setAll o s v).getD j 0 = o.getD j 0 := by
  induction s with
  | nil => intro o; rfl
  | cons x xs ih =>
    intro o
    show (setAll (o.set x.toNat v) xs v).getD j 0 = _
    rw [ih (fun y hy => hs y (List.mem_cons_of_mem _ hy))]
    obtain ⟨q, rfl, hq⟩ := hs x (List.mem_cons_self ..)
    simp only [List.getD_eq_getElem?_getD, List.getElem?_set, Int.toNat_natCast]
    rw [if_neg hq]
theorem setAll_eq (s : List Int) (v : Int) (n : Nat) (hs : ∀ x ∈ s, ∃ q : Nat, x = (q : Int) ∧ q < n) : ∀ A B : List Int, n ≤ A.length → n ≤ B.length → (∀ j : Nat, j < n → A.getD j 0 = B.getD j 0) → ∀ j : Nat, j < n → (setAll A s v).getD j 0 = (setAll B s v).getD j 0 := by
  induction s with
  | nil => intro A B _ _ h; exact h
  | cons x xs ih =>
    intro A B hA hB h
    obtain ⟨q, rfl, hq⟩ := hs x (List.mem_cons_self ..)
    refine ih (fun y hy => hs y (List.mem_cons_of_mem _ hy)) (A.set ((q : Int)).toNat v) (B.set ((q : Int)).toNat v) (by rw [List.length_set]; exact hA) (by rw [List.length_set]; exact hB) ?_
    intro j hj
    rw [Int.toNat_natCast, getD_set _ _ _ _ (by omega), getD_set _ _ _ _ (by omega), h j hj]
theorem setAll_drop (o s : List Int) (v : Int) (j : Nat) (hj : j < s.length) : setAll (o.set (s[j]).toNat v) (s.drop (j + 1)) v = setAll o (s.drop j) v := by
  rw [List.drop_eq_getElem_cons hj]; rfl
theorem cut_scan {L : List LT} {G : List Fr} {f : Fr} (h5 : kd L f.b = 5) : (scanP 1 (cnts L (G ++ [f]))).take (((lps L G).length + 1 : Nat)) = scanP 1 (cnts L G) := by
  rw [cnts_snoc, if_pos h5, scanP_snoc, ← scan_len L G]
  simp
theorem inv_end {L : List LT} {i : Nat} {G : List Fr} {f : Fr} {oS oI : List Int} {m : List (Int × Bool)} (h : Inv L i (G ++ [f]) oS oI m) (hi : i < L.length) :
    Inv L (i + 1) G (setAll ((oS.set f.l (i : Int)).set i (f.b : Int)) f.s (i : Int)) (setAll (((oI.set i (i : Int)).set i (f.b : Int)).set f.l (i : Int)) f.s (i : Int)) m := by
  have n := inv_next h hi
  have hb := (of_snoc h.bl).2
  have hs := srt_lt h.srt
  have hst := (of_snoc h.st).2
  have lS : ∀ x : List Int, x.length = L.length → i < x.length ∧ f.l < x.length := fun x hx => by rw [hx]; omega
  have e1 : (oI.set i (i : Int)).length = L.length := by rw [List.length_set]; exact h.li
  have e2 : ((oI.set i (i : Int)).set i (f.b : Int)).length = L.length := by rw [List.length_set]; exact e1
  have e3 : (oS.set f.l (i : Int)).length = L.length := by rw [List.length_set]; exact h.ls
  have hle := lps_le L G
  exact { hi := n.hi, hN := n.hN, ls := by rw [setAll_len, List.length_set]; exact e3, li := by rw [setAll_len, List.length_set]; exact e2
          eq := by
            refine setAll_eq f.s (i : Int) (i + 1) (fun x hx => ?_) _ _ (by rw [List.length_set, e2]; omega) (by rw [List.length_set, e3]; omega) ?_
            · obtain ⟨q, e, hq, _⟩ := hst x hx
              exact ⟨q, e, by omega⟩
            · intro j hj
              rw [getD_set _ _ _ _ (lS _ e2).2, getD_set _ _ _ _ (lS _ e1).1, getD_set _ _ _ _ (lS _ e3).1, getD_set _ _ _ _ (lS _ h.ls).2]
              by_cases a1 : j = f.l
              · rw [if_pos a1, if_neg (by omega), if_pos a1]
              · rw [if_neg a1, if_neg a1, n.eq j hj]
          ge := by
            intro j hj hl
            rw [setAll_far f.s _ j (fun x hx => by obtain ⟨q, e, hq, _⟩ := hst x hx; exact ⟨q, e, by omega⟩), getD_set _ _ _ _ (lS _ e3).1, if_neg (by omega), getD_set _ _ _ _ (lS _ h.ls).2, if_neg (by omega)]
            exact n.ge j hj hl
          nest := by have := n.nest; simp at this; omega
          prod := by
            have hp := n.prod
            rw [cnts_snoc] at hp
            split at hp
            · rename_i h5
              rw [pr_snoc] at hp
              have hc := (of_snoc n.cnt).2 h5
              have hP := pr_le (of_snoc n.cnt).1
              have hm : pr 1 (cnts L G) * 1 ≤ pr 1 (cnts L G) * ct L f.b := Int.mul_le_mul_of_nonneg_left hc.1 (by omega)
              omega
            · exact hp
          cnt := (of_snoc n.cnt).1
          kds := (of_snoc n.kds).1
          bl := (of_snoc n.bl).1
          lp := (of_snoc n.lp).1
          el := by
            intro x hx hne
            obtain ⟨h3, hv⟩ := (of_snoc n.el).1 x hx hne
            refine ⟨h3, ?_⟩
            have hlt := hs.1 x hx
            have hkx := (of_snoc h.kds).1 x hx
            have hxb := (of_snoc h.bl).1 x hx
            have hxl : x.b ≠ f.l := by
              intro e
              by_cases a : f.l = f.b
              · omega
              · have := ((of_snoc h.el).2 a).1
                rw [← e] at this
                omega
            rw [setAll_far f.s _ x.b (fun y hy => by obtain ⟨q, e, hq, h6⟩ := hst y hy; exact ⟨q, e, fun e' => by rw [e'] at h6; omega⟩), getD_set _ _ _ _ (lS _ e2).2, if_neg hxl, getD_set _ _ _ _ (lS _ e1).1, if_neg (by omega)]
            exact hv
          mg := (of_snoc n.mg).1
          mky := n.mky
          srt := hs.2
          st := (of_snoc n.st).1
          st0 := (of_snoc n.st0).1
          sl := (of_snoc n.sl).1 }
def idl (n : Nat) : List Int := (List.range n).map (fun k : Nat => (k : Int))
theorem idl_len (n : Nat) : (idl n).length = n := by simp [idl]
theorem idl_succ (n : Nat) : idl n ++ [(n : Int)] = idl (n + 1) := by simp [idl, List.range_succ]
theorem inv_start {L : List LT} (hN : L.length ≤ 24) : Inv L 0 [] (idl L.length) (List.replicate L.length 0) [] :=
  { hi := Nat.zero_le _, hN := hN, ls := idl_len _, li := by simp, eq := fun j hj => absurd hj (by omega)
    ge := fun j _ hj => by simp [idl, List.getD_eq_getElem?_getD, hj]
    nest := by simp, prod := by simp [cnts, lps, pr], cnt := by simp, kds := by simp, bl := by simp, lp := by simp, el := by simp, mg := by simp, mky := by simp, srt := List.Pairwise.nil, st := by simp, st0 := by simp, sl := by simp }
end Go.Proofs.Ytheemkehedmlfaa.P
set_option linter.unusedVariables false
set_option linter.unusedSimpArgs false
set_option maxRecDepth 4000
namespace Go.Proofs.Ytheemkehedmlfaa.P
open Go Go.Proofs.Ytheemkehedmlfaa.E
theorem bt {α : Type} {p : Prop} {dp : Decidable p} {a b r : α} (hp : p) (h : a = r) : (bif @decide p dp then a else b) = r := by
  rw [decide_eq_true hp]; exact h
theorem bf {α : Type} {p : Prop} {dp : Decidable p} {a b r : α} (hp : ¬ p) (h : b = r) : (bif @decide p dp then a else b) = r := by
  rw [decide_eq_false hp]; exact h
theorem nt {α : Type} {p : Prop} {dp : Decidable p} {a b r : α} (hp : p) (h : b = r) : (bif !(@decide p dp) then a else b) = r := by
  rw [decide_eq_true hp]; exact h
theorem nf {α : Type} {p : Prop} {dp : Decidable p} {a b r : α} (hp : ¬ p) (h : a = r) : (bif !(@decide p dp) then a else b) = r := by
  rw [decide_eq_false hp]; exact h
theorem xt {α : Type} {p : Prop} {dp : Decidable p} {a b r : α} (h : a = r) (hp : p := by omega) : (bif @decide p dp then a else b) = r := bt hp h
theorem xf {α : Type} {p : Prop} {dp : Decidable p} {a b r : α} (h : b = r) (hp : ¬ p := by omega) : (bif @decide p dp then a else b) = r := bf hp h
theorem yt {α : Type} {p : Prop} {dp : Decidable p} {a b r : α} (h : b = r) (hp : p := by omega) : (bif !(@decide p dp) then a else b) = r := nt hp h
theorem yf {α : Type} {p : Prop} {dp : Decidable p} {a b r : α} (h : a = r) (hp : ¬ p := by omega) : (bif !(@decide p dp) then a else b) = r := nf hp h
theorem bd {α β : Type} {x : Option α} {f : α → Option β} {v : α} {r : Option β} (hx : x = some v) (h : f v = r) : x.bind f = r := by
  rw [hx]; exact h
theorem bI {α : Type} {c c' : Bool} {a b r : α} (hc : c = c') (h : (bif c' then a else b) = r) : (bif c then a else b) = r := by
  rw [hc]; exact h
theorem in_spec (N : Nat) (n a b : Int) : F_spec_l00In N (n, (a, (b, ()))) = some (inB n a b, ()) := by
  unfold F_spec_l00In inB
  by_cases h : a ≤ n <;> simp [h]
theorem in_impl (N : Nat) (n a b : Int) : F_impl_within N (n, (a, (b, ()))) = some (inB n a b, ()) := by
  unfold F_impl_within inB
  by_cases h : a ≤ n <;> simp [h]
theorem bits_spec (N : Nat) (b : Int) : F_spec_l01Bits N (b, ()) = some (bitsV b, ()) := by
  unfold F_spec_l01Bits bitsV
  by_cases h4 : b = 4 <;> by_cases h8 : b = 8 <;> simp [h4, h8]
theorem bits_impl (N : Nat) (b : Int) : F_impl_isBits N (b, ()) = some (bitsV b, ()) := by
  unfold F_impl_isBits bitsV
  by_cases h4 : b = 4 <;> by_cases h8 : b = 8 <;> simp [h4, h8]
theorem bits_cases {b : Int} (h : bitsV b = true) : b = 4 ∨ b = 8 ∨ b = 16 := by
  unfold bitsV at h; simp at h; omega
theorem u4 : IntKind.u64.wrap 4 = 4 := by decide +kernel
theorem u8 : IntKind.u64.wrap 8 = 8 := by decide +kernel
theorem u16 : IntKind.u64.wrap 16 = 16 := by decide +kernel
theorem v4 : IntKind.i64.wrap (shlI .i64 1 4 - 1) = 15 := by decide +kernel
theorem v8 : IntKind.i64.wrap (shlI .i64 1 8 - 1) = 255 := by decide +kernel
theorem v16 : IntKind.i64.wrap (shlI .i64 1 16 - 1) = 65535 := by decide +kernel
theorem word_spec (N : Nat) (b x : Int) : F_spec_l01Word N (b, (x, ())) = some (wordV b x, ()) := by
  simp only [F_spec_l01Word, bits_spec, Option.bind_some]
  cases hb : bitsV b with
  | false => simp [wordV, hb]
  | true =>
    rcases bits_cases hb with rfl | rfl | rfl
    all_goals simp [in_spec, wordV, hb, inB, u4, u8, u16, v4, v8, v16]
theorem word_impl (N : Nat) (b x : Int) : F_impl_IsWord N (b, (x, ())) = some (wordV b x, ()) := by
  simp only [F_impl_IsWord, bits_impl, Option.bind_some]
  cases hb : bitsV b with
  | false => simp [wordV, hb]
  | true =>
    rcases bits_cases hb with rfl | rfl | rfl
    all_goals simp [in_impl, wordV, hb, inB, v4, v8, v16]
theorem bif_some (a t : Bool) : (bif a then some (t, ()) else some (false, ())) = some (a && t, ()) := by cases a <;> rfl
theorem bif_and (a c t : Bool) : (bif a then some (c && t, ()) else some (false, ())) = some (a && (c && t), ()) := by cases a <;> rfl
theorem line_spec (N : Nat) (b : Int) (x : LT) : F_spec_l08Line N (b, (x.1, (x.2.1, (x.2.2.1, (x.2.2.2.1, (x.2.2.2.2, ())))))) = some (lineB b x, ()) := by
  obtain ⟨k, d, o, a, c⟩ := x
  simp only [F_spec_l08Line, F_spec_l08Var, F_spec_l01OpIs, F_spec_l01CmpIs, in_spec, word_spec, Option.bind_some, bif_some, lineB]
  by_cases h0 : k = 0
  · simp [h0]
  by_cases h1 : k = 1
  · simp [h1]
  by_cases h2 : k = 2
  · simp [h2]
  by_cases h6 : k = 6
  · simp [h6]
  by_cases h3 : k = 3
  · simp [h3]
  by_cases h4 : k = 4
  · simp [h4]
  by_cases h5 : k = 5
  · simp [h5]
  simp [h0, h1, h2, h3, h4, h5, h6]
theorem line_impl (N : Nat) (b : Int) (x : LT) : F_impl_isLine N (b, (x.1, (x.2.1, (x.2.2.1, (x.2.2.2.1, (x.2.2.2.2, ())))))) = some (lineB b x, ()) := by
  obtain ⟨k, d, o, a, c⟩ := x
  simp only [F_impl_isLine, F_impl_isVar, F_impl_isOp, F_impl_isCmp, in_impl, word_impl, Option.bind_some, bif_some, lineB]
  by_cases h0 : k = 0
  · simp [h0]
  by_cases h1 : k = 1
  · simp [h1]
  by_cases h2 : k = 2
  · simp [h2]
  by_cases h6 : k = 6
  · simp [h6]
  by_cases h3 : k = 3
  · simp [h3]
  by_cases h4 : k = 4
  · simp [h4]
  by_cases h5 : k = 5
  · simp [h5, Bool.and_assoc]
  simp [h0, h1, h2, h3, h4, h5, h6]
theorem min_spec (N : Nat) (a b : Int) : F_spec_l00Min N (a, (b, ())) = some (min a b, ()) := by
  unfold F_spec_l00Min
  by_cases h : a < b
  · simp only [h, decide_true, cond_true]; rw [Int.min_eq_left (by omega)]
  · simp only [h, decide_false, cond_false]; rw [Int.min_eq_right (by omega)]
theorem w_suc (n : Nat) (h : n ≤ 1000) : IntKind.wrap .i64 ((n : Int) + 1) = ((n + 1 : Nat) : Int) := by rw [wr_id (by omega) (by omega)]; rfl
theorem rounds_go (N : Nat) (L : List LT) (F : List Fr) (hF : F.length ≤ 1000) (hb : ∀ f ∈ F, f.b < L.length) (hc : ∀ f ∈ F, kd L f.b = 5 → 1 ≤ ct L f.b ∧ ct L f.b ≤ 8) : ∀ (d j : Nat) (P : Int) (M : Nat), j + d = F.length → d < M → 1 ≤ P →
    itN (n_spec_l08Rounds_0 N (L, (opn F, ()))) M (min P 65, ((j : Int), ())) = some (min (pr P (cnts L (F.drop j))) 65, ()) := by
  intro d
  induction d with
  | zero =>
    intro j P M hj hM hP
    obtain ⟨M, rfl⟩ : ∃ M', M = M' + 1 := ⟨M - 1, by omega⟩
    obtain rfl : j = F.length := by omega
    rw [List.drop_length]
    show n_spec_l08Rounds_0 N (L, (opn F, ())) _ _ = _
    unfold n_spec_l08Rounds_0
    simp only [opn_len]
    (repeat (first | refine xt ?_ | refine xf ?_ | refine yt ?_ | refine yf ?_))
    rfl
  | succ d ih =>
    intro j P M hj hM hP
    obtain ⟨M, rfl⟩ : ∃ M', M = M' + 1 := ⟨M - 1, by omega⟩
    have hj' : j < F.length := by omega
    have hm : F[j] ∈ F := List.getElem_mem hj'
    have hbj := hb _ hm
    have e := w_suc j (by omega)
    have ho := opn_at F j hj'
    rw [List.drop_eq_getElem_cons hj', cnts_cons]
    show n_spec_l08Rounds_0 N (L, (opn F, ())) (itN (n_spec_l08Rounds_0 N (L, (opn F, ()))) M) _ = _
    have ih := fun P => ih (j + 1) P M (by omega) (by omega)
    generalize itN (n_spec_l08Rounds_0 N (L, (opn F, ()))) M = rec at ih ⊢
    unfold n_spec_l08Rounds_0
    simp only [opn_len, ho, e, min_spec, Option.bind_some]
    by_cases h5 : kd L (F[j]).b = 5
    · rw [if_pos h5]
      have hB := hc _ hm h5
      have h5' : (gt L ((F[j]).b : Int)).1 = 5 := h5
      have hcm : min (IntKind.wrap .i64 (min P 65 * (gt L ((F[j]).b : Int)).2.2.2.2)) 65 = min (P * ct L (F[j]).b) 65 := cap_mul P _ hP hB
      rw [hcm]
      (repeat (first | refine xt ?_ | refine xf ?_ | refine yt ?_ | refine yf ?_))
      exact ih (P * ct L (F[j]).b) (Int.mul_le_mul hP hB.1 (by omega) (by omega))
    · rw [if_neg h5]
      have h5' : ¬ (gt L ((F[j]).b : Int)).1 = 5 := h5
      (repeat (first | refine xt ?_ | refine xf ?_ | refine yt ?_ | refine yf ?_))
      exact ih P hP
theorem rounds_eq {N : Nat} (hN : 4096 ≤ N) (L : List LT) (F : List Fr) (hF : F.length ≤ 1000) (hb : ∀ f ∈ F, f.b < L.length) (hc : ∀ f ∈ F, kd L f.b = 5 → 1 ≤ ct L f.b ∧ ct L f.b ≤ 8) :
    F_spec_l08Rounds N (L, (opn F, ())) = some (min (pr 1 (cnts L F)) 65, ()) := by
  have h := rounds_go N L F hF hb hc F.length 0 1 N (by omega) (by omega) (by omega)
  unfold F_spec_l08Rounds
  rw [show min (1 : Int) 65 = 1 from by decide] at h
  simp only [Int.natCast_zero, List.drop_zero] at h
  simp only [h, Option.bind_some]
def sS (F : List Fr) (o : List Int) (i : Nat) : Int × List Int × List Int × List (List Int) × List Int × Unit := ((i : Int), (opn F, (lst F, (stp F, (o, ())))))
def sI (L : List LT) (F : List Fr) (o : List Int) (m : List (Int × Bool)) (i : Nat) : Int × List Int × List Int × List (List Int) × List Int × List Int × List (Int × Bool) × Unit := ((i : Int), (opn F, (opn (lps L F), (stp (lps L F), (scanP 1 (cnts L F), (o, (m, ())))))))
def Step (N : Nat) (b : Int) (L : List LT) (i : Nat) (F : List Fr) (oS oI : List Int) (m : List (Int × Bool)) : Prop :=
  (∃ o o' m', (∀ rec, n_sP_1 N (L, ()) rec (sS F oS i) = some (.inl (false, (o, ())))) ∧ ∀ rec, n_iP_0 N (b, (L, (L, ((L.length : Int), ())))) rec (sI L F oI m i) = some (.inl (false, ([], (o', (m', ())))))) ∨
  ∃ F' oS' oI' m', Inv L (i + 1) F' oS' oI' m' ∧ Nst (kd L) (i + 1) F' (fun j => oS'.getD j 0) ∧ (∀ rec, n_sP_1 N (L, ()) rec (sS F oS i) = rec (sS F' oS' (i + 1))) ∧
    ∀ rec, n_iP_0 N (b, (L, (L, ((L.length : Int), ())))) rec (sI L F oI m i) = rec (sI L F' oI' m' (i + 1))
theorem step_skip {N : Nat} {b : Int} {L : List LT} {i : Nat} {F : List Fr} {oS oI : List Int} {m : List (Int × Bool)} (h : Inv L i F oS oI m) (hn : Nst (kd L) i F (fun j => oS.getD j 0)) (hi : i < L.length) (hv : lineB b (gt L (i : Int)) = true) (hk : kd L i = 0 ∨ kd L i = 1) : Step N b L i F oS oI m := by
  have hN := h.hN
  have e := w_suc i (by omega)
  have hk' : (gt L (i : Int)).1 = 0 ∨ (gt L (i : Int)).1 = 1 := hk
  have h1 := h.ls
  have h2 := h.li
  have h3 := h.nest
  have h4 := h.prod
  have hl := lps_le L F
  have hsc := scan_len L F
  have hlast := scan_last L F
  have hw := w_pred (lps L F).length (by omega)
  refine Or.inr ⟨F, oS, _, m, inv_next h hi, nst_next hn hk, fun rec => ?_, fun rec => ?_⟩
  · unfold n_sP_1 sS
    simp only [e, h1]
    (repeat (first | refine xt ?_ | refine xf ?_ | refine yt ?_ | refine yf ?_))
    rfl
  · unfold n_iP_0 sI
    simp only [e, h2, opn_len, hsc, hw, hlast]
    (repeat (first | refine xt ?_ | refine xf ?_ | refine yt ?_ | refine yf ?_))
    refine bd (line_impl N b _) ?_
    rw [hv]
    simp only [Bool.not_true, cond_false]
    (repeat (first | refine xt ?_ | refine xf ?_ | refine yt ?_ | refine yf ?_))
    simp only [Int.toNat_natCast]
end Go.Proofs.Ytheemkehedmlfaa.P
set_option linter.unusedVariables false
set_option linter.unusedSimpArgs false
set_option maxRecDepth 4000
namespace Go.Proofs.Ytheemkehedmlfaa.P
open Go Go.Proofs.Ytheemkehedmlfaa.E
theorem step_push {N : Nat} (hNN : 4096 ≤ N) {b : Int} {L : List LT} {i : Nat} {F : List Fr} {oS oI : List Int} {m : List (Int × Bool)} (h : Inv L i F oS oI m) (hn : Nst (kd L) i F (fun j => oS.getD j 0)) (hi : i < L.length) (hv : lineB b (gt L (i : Int)) = true) (hk : kd L i = 2 ∨ kd L i = 5) : Step N b L i F oS oI m := by
  have hN := h.hN
  have e := w_suc i (by omega)
  have h1 := h.ls
  have h2 := h.li
  have h3 := h.nest
  have h4 := h.prod
  have hl := lps_le L F
  have hsc := scan_len L F
  have hlast := scan_last L F
  have hw := w_pred (lps L F).length (by omega)
  have e2 := w_suc F.length (by omega)
  have hcb : ∀ f ∈ F ++ [(⟨i, i, []⟩ : Fr)], kd L f.b = 5 → 1 ≤ ct L f.b ∧ ct L f.b ≤ 8 := all_snoc h.cnt (line_ct hv)
  have hR := rounds_eq hNN L (F ++ [⟨i, i, []⟩]) (by simp; omega) (all_snoc (fun f hf => by have := h.bl f hf; omega) hi) hcb
  have hP0 := pr_le h.cnt
  have hP1 := pr_le hcb
  have ho : opn F ++ ((i : Int) :: []) = opn (F ++ [⟨i, i, []⟩]) := (opn_snoc F ⟨i, i, []⟩).symm
  have hlo : lst F ++ ((i : Int) :: []) = lst (F ++ [⟨i, i, []⟩]) := (lst_snoc F ⟨i, i, []⟩).symm
  have hso : stp F ++ (([] : List Int) :: []) = stp (F ++ [⟨i, i, []⟩]) := (stp_snoc F ⟨i, i, []⟩).symm
  have hlen : (F ++ [(⟨i, i, []⟩ : Fr)]).length = F.length + 1 := by simp
  generalize hF' : F ++ [(⟨i, i, []⟩ : Fr)] = F' at *
  generalize hP' : pr 1 (cnts L F') = P' at *
  have hS : ∀ rec, n_sP_1 N (L, ()) rec (sS F oS i) = if F.length + 1 > 4 ∨ P' > 64 then some (.inl (false, (oS, ()))) else rec (sS F' oS (i + 1)) := by
    intro rec
    rcases hk with hk | hk
    all_goals
      have hk' : (gt L (i : Int)).1 = _ := hk
      unfold n_sP_1 sS
      simp only [e, h1, opn_len, lst_len, stp_len, e2, ho, hlo, hso]
      by_cases h5 : F.length + 1 > 4
      · rw [if_pos (.inl h5)]
        (repeat (first | refine xt ?_ | refine xf ?_ | refine yt ?_ | refine yf ?_))
        rfl
      · (repeat (first | refine xt ?_ | refine xf ?_ | refine yt ?_ | refine yf ?_))
        refine bd hR ?_
        simp only
        by_cases h6 : P' > 64
        · rw [if_pos (.inr h6)]
          (repeat (first | refine xt ?_ | refine xf ?_ | refine yt ?_ | refine yf ?_))
          rfl
        · rw [if_neg (by omega)]
          (repeat (first | refine xt ?_ | refine xf ?_ | refine yt ?_ | refine yf ?_))
          rfl
  have hI : ∀ rec, n_iP_0 N (b, (L, (L, ((L.length : Int), ())))) rec (sI L F oI m i) = if F.length + 1 > 4 ∨ P' > 64 then some (.inl (false, ([], (oI.set i (i : Int), (m, ()))))) else rec (sI L F' (oI.set i (i : Int)) m (i + 1)) := by
    intro rec
    rcases hk with hk | hk
    · have hk' : (gt L (i : Int)).1 = 2 := hk
      have g1 : lps L F' = lps L F := by rw [← hF', lps_snoc, if_neg (by show ¬ kd L i = 5; omega)]
      have g2 : cnts L F' = cnts L F := by rw [← hF', cnts_snoc, if_neg (by show ¬ kd L i = 5; omega)]
      have g3 : P' = pr 1 (cnts L F) := by rw [← hP', g2]
      unfold n_iP_0 sI
      simp only [e, h2, opn_len, stp_len, hsc, hw, hlast, ho, hlen, g1, g2]
      by_cases hd : F.length + 1 > 4 ∨ P' > 64
      · rw [if_pos hd]
        by_cases h5 : F.length + 1 > 4
        · (repeat (first | refine xt ?_ | refine xf ?_ | refine yt ?_ | refine yf ?_))
          refine bd (line_impl N b _) ?_
          rw [hv]
          simp only [Bool.not_true, cond_false]
          (repeat (first | refine xt ?_ | refine xf ?_ | refine yt ?_ | refine yf ?_))
          simp only [Int.toNat_natCast]
        · (repeat (first | refine xt ?_ | refine xf ?_ | refine yt ?_ | refine yf ?_))
          refine bd (line_impl N b _) ?_
          rw [hv]
          simp only [Bool.not_true, cond_false]
          (repeat (first | refine xt ?_ | refine xf ?_ | refine yt ?_ | refine yf ?_))
          simp only [Int.toNat_natCast]
      · rw [if_neg hd]
        (repeat (first | refine xt ?_ | refine xf ?_ | refine yt ?_ | refine yf ?_))
        refine bd (line_impl N b _) ?_
        rw [hv]
        simp only [Bool.not_true, cond_false]
        (repeat (first | refine xt ?_ | refine xf ?_ | refine yt ?_ | refine yf ?_))
        simp only [Int.toNat_natCast]
    · have hk' : (gt L (i : Int)).1 = 5 := hk
      have hp := mul_small ⟨hP0, h4⟩ (line_ct hv hk)
      have g1 : lps L F' = lps L F ++ [⟨i, i, []⟩] := by rw [← hF', lps_snoc, if_pos (by show kd L i = 5; exact hk)]
      have g2 : cnts L F' = cnts L F ++ [ct L i] := by rw [← hF', cnts_snoc, if_pos (by show kd L i = 5; exact hk)]
      have g3 : P' = pr 1 (cnts L F) * ct L i := by rw [← hP', g2, pr_snoc]
      have g4 : IntKind.wrap .i64 (pr 1 (cnts L F) * (gt L (i : Int)).2.2.2.2) = P' := by rw [g3]; exact wr_id (by show _ ≤ pr 1 (cnts L F) * ct L i; omega) (by show pr 1 (cnts L F) * ct L i ≤ _; omega)
      have g5 : scanP 1 (cnts L F) ++ (P' :: []) = scanP 1 (cnts L F') := by rw [g2, scanP_snoc, g3]
      have g6 : opn (lps L F) ++ ((i : Int) :: []) = opn (lps L F') := by rw [g1, opn_snoc]
      have g7 : stp (lps L F) ++ (([] : List Int) :: []) = stp (lps L F') := by rw [g1, stp_snoc]
      have g8 : (scanP 1 (cnts L F')).length = (lps L F).length + 1 + 1 := by rw [scan_len, g1]; simp
      have g9 := w_pred ((lps L F).length + 1) (by omega)
      have g10 : gt (scanP 1 (cnts L F')) (((lps L F).length + 1 : Nat) : Int) = P' := by
        have := scan_last L F'
        rw [g1] at this
        rw [hP'] at this
        simpa using this
      unfold n_iP_0 sI
      simp only [e, h2, opn_len, stp_len, hsc, hw, hlast, ho, hlen, g4, g5, g6, g7, g8, g9, g10]
      by_cases hd : F.length + 1 > 4 ∨ P' > 64
      · rw [if_pos hd]
        by_cases h5 : F.length + 1 > 4
        · (repeat (first | refine xt ?_ | refine xf ?_ | refine yt ?_ | refine yf ?_))
          refine bd (line_impl N b _) ?_
          rw [hv]
          simp only [Bool.not_true, cond_false]
          (repeat (first | refine xt ?_ | refine xf ?_ | refine yt ?_ | refine yf ?_))
          simp only [Int.toNat_natCast]
        · (repeat (first | refine xt ?_ | refine xf ?_ | refine yt ?_ | refine yf ?_))
          refine bd (line_impl N b _) ?_
          rw [hv]
          simp only [Bool.not_true, cond_false]
          (repeat (first | refine xt ?_ | refine xf ?_ | refine yt ?_ | refine yf ?_))
          simp only [Int.toNat_natCast]
      · rw [if_neg hd]
        (repeat (first | refine xt ?_ | refine xf ?_ | refine yt ?_ | refine yf ?_))
        refine bd (line_impl N b _) ?_
        rw [hv]
        simp only [Bool.not_true, cond_false]
        (repeat (first | refine xt ?_ | refine xf ?_ | refine yt ?_ | refine yf ?_))
        simp only [Int.toNat_natCast]
  by_cases hd : F.length + 1 > 4 ∨ P' > 64
  · exact Or.inl ⟨oS, _, m, fun rec => by rw [hS, if_pos hd], fun rec => by rw [hI, if_pos hd]⟩
  · refine Or.inr ⟨F', oS, _, m, ?_, ?_, fun rec => by rw [hS, if_neg hd], fun rec => by rw [hI, if_neg hd]⟩
    · rw [← hF']; exact inv_push h hi hk (line_ct hv) (by omega) (by rw [hF', hP']; omega)
    · rw [← hF']; exact nst_push hn hk
end Go.Proofs.Ytheemkehedmlfaa.P
set_option linter.unusedVariables false
set_option linter.unusedSimpArgs false
set_option maxRecDepth 4000
namespace Go.Proofs.Ytheemkehedmlfaa.P
open Go Go.Proofs.Ytheemkehedmlfaa.E
theorem w_neg : IntKind.wrap .i64 (((0 : Nat) : Int) - 1) = -1 := by decide +kernel
theorem step_else {N : Nat} {b : Int} {L : List LT} {i : Nat} {F : List Fr} {oS oI : List Int} {m : List (Int × Bool)} (h : Inv L i F oS oI m) (hn : Nst (kd L) i F (fun j => oS.getD j 0)) (hi : i < L.length) (hv : lineB b (gt L (i : Int)) = true) (hk : kd L i = 3) : Step N b L i F oS oI m := by
  have hN := h.hN
  have e := w_suc i (by omega)
  have h1 := h.ls
  have h2 := h.li
  have h3 := h.nest
  have h4 := h.prod
  have hl := lps_le L F
  have hsc := scan_len L F
  have hlast := scan_last L F
  have hw := w_pred (lps L F).length (by omega)
  have hk' : (gt L (i : Int)).1 = 3 := hk
  rcases List.eq_nil_or_concat F with rfl | ⟨G, f, rfl⟩
  · refine Or.inl ⟨oS, oI.set i (i : Int), m, fun rec => ?_, fun rec => ?_⟩
    · unfold n_sP_1 sS
      simp only [e, h1, opn_len, List.length_nil]
      (repeat (first | refine xt ?_ | refine xf ?_ | refine yt ?_ | refine yf ?_))
      rfl
    · unfold n_iP_0 sI
      simp only [e, h2, opn_len, hsc, List.length_nil, w_neg]
      (repeat (first | refine xt ?_ | refine xf ?_ | refine yt ?_ | refine yf ?_))
      refine bd (line_impl N b _) ?_
      rw [hv]
      simp only [Bool.not_true, cond_false]
      (repeat (first | refine xt ?_ | refine xf ?_ | refine yt ?_ | refine yf ?_))
      simp only [Int.toNat_natCast]
  · rw [List.concat_eq_append] at h hn hl hsc hlast hw h3 h4 ⊢
    simp only [List.length_append, List.length_cons, List.length_nil, Nat.zero_add] at h3
    have hb := (of_snoc h.bl).2
    have hkf := (of_snoc h.kds).2
    have hw1 := w_pred G.length (by omega)
    have tb := top_b G f
    have tl := top_l G f
    have hD : (gt L (f.l : Int)).1 = 2 ↔ (f.l = f.b ∧ kd L f.b = 2) := by
      show kd L f.l = 2 ↔ _
      constructor
      · intro h2
        by_cases hne : f.l = f.b
        · exact ⟨hne, hne ▸ h2⟩
        · have := ((of_snoc h.el).2 hne).1; omega
      · rintro ⟨e1, e2⟩
        rw [e1]; exact e2
    have hmg := (of_snoc h.mg).2
    have hlI : (oI.set i (i : Int)).length = L.length := by rw [List.length_set]; exact h2
    by_cases hc : f.l = f.b ∧ kd L f.b = 2
    · have hc2 : (gt L (f.b : Int)).1 = 2 := hc.2
      have hc3 := hD.2 hc
      have hm0 : mget m (f.b : Int) = false := by rw [hmg]; simp [hc.1]
      refine Or.inr ⟨_, _, _, _, inv_else h hi hk hc.1 hc.2, nst_else hn hk hc.1 hc.2 fun j => getD_set _ _ _ _ (by rw [h1]; omega), fun rec => ?_, fun rec => ?_⟩
      · unfold n_sP_1 sS
        simp only [e, h1, opn_len, lst_len, List.length_append, List.length_cons, List.length_nil, Nat.zero_add, hw1, tl]
        (repeat (first | refine xt ?_ | refine xf ?_ | refine yt ?_ | refine yf ?_))
        rw [set_l]
        simp only [opn_snoc, stp_snoc, hc.1, Int.toNat_natCast]
      · have o1 : opn (lps L (G ++ [⟨f.b, i, f.s⟩])) = opn (lps L (G ++ [f])) := by rw [lps_snoc, lps_snoc]; show opn (if kd L f.b = 5 then _ else _) = opn (if kd L f.b = 5 then _ else _); split <;> simp [opn]
        have o2 : stp (lps L (G ++ [⟨f.b, i, f.s⟩])) = stp (lps L (G ++ [f])) := by rw [lps_snoc, lps_snoc]; show stp (if kd L f.b = 5 then _ else _) = stp (if kd L f.b = 5 then _ else _); split <;> simp [stp]
        have o3 : cnts L (G ++ [⟨f.b, i, f.s⟩]) = cnts L (G ++ [f]) := by rw [cnts_snoc, cnts_snoc]
        have o4 : opn (G ++ [⟨f.b, i, f.s⟩]) = opn (G ++ [f]) := by rw [opn_snoc, opn_snoc]
        unfold n_iP_0 sI
        rw [o1, o2, o3, o4]
        simp only [e, h2, opn_len, stp_len, hsc, hw, hlast, List.length_append, List.length_cons, List.length_nil, Nat.zero_add, hw1, tb, hm0, List.length_set, Int.toNat_natCast]
        (repeat (first | refine xt ?_ | refine xf ?_ | refine yt ?_ | refine yf ?_))
        refine bd (line_impl N b _) ?_
        rw [hv]
        simp only [Bool.not_true, cond_false]
        (repeat (first | refine xt ?_ | refine xf ?_ | refine yt ?_ | refine yf ?_))
        simp only [cond_false]
        (repeat (first | refine xt ?_ | refine xf ?_ | refine yt ?_ | refine yf ?_))
        try rfl
    · have hc3 : ¬ (gt L (f.l : Int)).1 = 2 := fun h2 => hc (hD.1 h2)
      refine Or.inl ⟨oS, oI.set i (i : Int), m, fun rec => ?_, fun rec => ?_⟩
      · unfold n_sP_1 sS
        simp only [e, h1, opn_len, lst_len, List.length_append, List.length_cons, List.length_nil, Nat.zero_add, hw1, tl]
        (repeat (first | refine xt ?_ | refine xf ?_ | refine yt ?_ | refine yf ?_))
        rfl
      · unfold n_iP_0 sI
        simp only [e, h2, opn_len, stp_len, hsc, hw, hlast, List.length_append, List.length_cons, List.length_nil, Nat.zero_add, hw1, tb, List.length_set, Int.toNat_natCast]
        by_cases hq : kd L f.b = 2
        · have hq' : (gt L (f.b : Int)).1 = 2 := hq
          have hm1 : mget m (f.b : Int) = true := by rw [hmg]; simp; exact fun e1 => hc ⟨e1, hq⟩
          rw [hm1]
          (repeat (first | refine xt ?_ | refine xf ?_ | refine yt ?_ | refine yf ?_))
          refine bd (line_impl N b _) ?_
          rw [hv]
          simp only [Bool.not_true, cond_false]
          (repeat (first | refine xt ?_ | refine xf ?_ | refine yt ?_ | refine yf ?_))
          rfl
        · have hq' : ¬ (gt L (f.b : Int)).1 = 2 := hq
          (repeat (first | refine xt ?_ | refine xf ?_ | refine yt ?_ | refine yf ?_))
          refine bd (line_impl N b _) ?_
          rw [hv]
          simp only [Bool.not_true, cond_false]
          (repeat (first | refine xt ?_ | refine xf ?_ | refine yt ?_ | refine yf ?_))
          try rfl
theorem stop_down {N : Nat} {L : List LT} {F : List Fr} (hF : F.length ≤ 24) (hb : ∀ f ∈ F, f.b < L.length) (g : Nat) (hno : ∀ q (hq : q < F.length), g ≤ q → kd L (F[q]).b ≠ 5) :
    ∀ (d M : Nat), g + d ≤ F.length → itN (n_sP_5 N (L, (opn F, ()))) (M + d) (((g + d : Nat) : Int) - 1, ()) = itN (n_sP_5 N (L, (opn F, ()))) M ((g : Int) - 1, ()) := by
  intro d
  induction d with
  | zero => intro M _; rfl
  | succ d ih =>
    intro M hd
    have e : (((g + (d + 1) : Nat) : Int) - 1) = ((g + d : Nat) : Int) := by omega
    have hq : g + d < F.length := by omega
    have hbq := hb _ (List.getElem_mem hq)
    have e2 : IntKind.wrap .i64 (((g + d : Nat) : Int) - 1) = ((g + d : Nat) : Int) - 1 := wr_id (by omega) (by omega)
    have ih := ih M (by omega)
    rw [e, ← ih]
    show n_sP_5 N (L, (opn F, ())) (itN (n_sP_5 N (L, (opn F, ()))) (M + d)) _ = _
    generalize itN (n_sP_5 N (L, (opn F, ()))) (M + d) = rec
    have ho := opn_at F _ hq
    have h5 : ¬ (gt L ((F[g + d]).b : Int)).1 = 5 := hno _ hq (by omega)
    unfold n_sP_5
    simp only [opn_len, ho, e2]
    (repeat (first | refine xt ?_ | refine xf ?_ | refine yt ?_ | refine yf ?_))
    try rfl
theorem step_stop {N : Nat} (hNN : 4096 ≤ N) {b : Int} {L : List LT} {i : Nat} {F : List Fr} {oS oI : List Int} {m : List (Int × Bool)} (h : Inv L i F oS oI m) (hn : Nst (kd L) i F (fun j => oS.getD j 0)) (hi : i < L.length) (hv : lineB b (gt L (i : Int)) = true) (hk : kd L i = 6) : Step N b L i F oS oI m := by
  have hN := h.hN
  have e := w_suc i (by omega)
  have h1 := h.ls
  have h2 := h.li
  have h3 := h.nest
  have h4 := h.prod
  have hl := lps_le L F
  have hsc := scan_len L F
  have hlast := scan_last L F
  have hw := w_pred (lps L F).length (by omega)
  have hk' : (gt L (i : Int)).1 = 6 := hk
  have e1 : IntKind.wrap .i64 ((F.length : Int) - 1) = (F.length : Int) - 1 := wr_id (by omega) (by omega)
  have hbs : ∀ f ∈ F, f.b < L.length := fun f hf => by have := h.bl f hf; omega
  obtain ⟨M, rfl⟩ : ∃ M, N = (M + 1) + 5 := ⟨N - 6, by omega⟩
  rcases last_loop L F with hno | ⟨G, f, H, rfl, h5, hH⟩
  · have hdn := stop_down (N := M + 1 + 5) (L := L) (F := F) (by omega) hbs 0 (fun q hq _ => hno _ (List.getElem_mem hq)) F.length (M + 1 + (5 - F.length)) (by omega)
    rw [show M + 1 + (5 - F.length) + F.length = M + 1 + 5 by omega, show M + 1 + (5 - F.length) = (M + (5 - F.length)) + 1 by omega, Nat.zero_add] at hdn
    have hz : itN (n_sP_5 (M + 1 + 5) (L, (opn F, ()))) ((M + (5 - F.length)) + 1) (((0 : Nat) : Int) - 1, ()) = some (-1, ()) := by
      show n_sP_5 _ _ _ _ = _
      unfold n_sP_5
      simp only
      (repeat (first | refine xt ?_ | refine xf ?_ | refine yt ?_ | refine yf ?_))
      rfl
    rw [hz] at hdn
    have hlp := lps_none hno
    refine Or.inl ⟨oS, oI.set i (i : Int), m, fun rec => ?_, fun rec => ?_⟩
    · unfold n_sP_1 sS
      simp only [e, h1, opn_len, e1]
      (repeat (first | refine xt ?_ | refine xf ?_ | refine yt ?_ | refine yf ?_))
      refine bd hdn ?_
      simp only
      (repeat (first | refine xt ?_ | refine xf ?_ | refine yt ?_ | refine yf ?_))
      rfl
    · unfold n_iP_0 sI
      simp only [e, h2, opn_len, hlp, List.length_nil, Int.toNat_natCast]
      (repeat (first | refine xt ?_ | refine xf ?_ | refine yt ?_ | refine yf ?_))
      refine bd (line_impl _ b _) ?_
      rw [hv]
      simp only [Bool.not_true, cond_false]
      (repeat (first | refine xt ?_ | refine xf ?_ | refine yt ?_ | refine yf ?_))
      try rfl
  · have hlen : (G ++ f :: H).length = G.length + 1 + H.length := by simp; omega
    have hlp := lps_split (G := G) h5 hH
    rw [hlp] at hl hw
    simp at hl hw
    have hfm : f ∈ G ++ f :: H := List.mem_append_right _ (List.mem_cons_self ..)
    have hsl := h.sl f hfm
    have hbf := hbs f hfm
    have hat : (G ++ f :: H)[G.length]'(by rw [hlen]; omega) = f := by simp
    have hdn := stop_down (N := M + 1 + 5) (L := L) (F := G ++ f :: H) (by omega) hbs (G.length + 1) (fun q hq hle => by
      have hq' : q - (G.length + 1) < H.length := by omega
      have : (G ++ f :: H)[q] = H[q - (G.length + 1)] := by
        rw [List.getElem_append_right (by omega)]
        rw [List.getElem_cons, dif_neg (by omega)]
        congr 1
      rw [this]
      exact hH _ (List.getElem_mem hq')) H.length (M + 1 + (5 - H.length)) (by omega)
    rw [show M + 1 + (5 - H.length) + H.length = M + 1 + 5 by omega, show M + 1 + (5 - H.length) = (M + (5 - H.length)) + 1 by omega, ← hlen, show (((G.length + 1 : Nat) : Int) - 1) = (G.length : Int) by omega] at hdn
    have ho := opn_at (G ++ f :: H) G.length (by omega)
    rw [hat] at ho
    have h5' : (gt L (f.b : Int)).1 = 5 := h5
    have hz : itN (n_sP_5 (M + 1 + 5) (L, (opn (G ++ f :: H), ()))) ((M + (5 - H.length)) + 1) ((G.length : Int), ()) = some ((G.length : Int), ()) := by
      show n_sP_5 _ _ _ _ = _
      unfold n_sP_5
      simp only [opn_len, ho]
      (repeat (first | refine xt ?_ | refine xf ?_ | refine yt ?_ | refine yf ?_))
      rfl
    rw [hz] at hdn
    have e5 : gt (stp (G ++ f :: H)) (G.length : Int) = f.s := by rw [gtn]; unfold stp; simp [List.getD_eq_getElem?_getD, List.getElem?_append]
    have q1 : opn (G ++ ⟨f.b, f.l, f.s ++ [(i : Int)]⟩ :: H) = opn (G ++ f :: H) := by simp [opn]
    have q2 : lst (G ++ ⟨f.b, f.l, f.s ++ [(i : Int)]⟩ :: H) = lst (G ++ f :: H) := by simp [lst]
    have q3 : (stp (G ++ f :: H)).set G.length (f.s ++ ((i : Int) :: [])) = stp (G ++ ⟨f.b, f.l, f.s ++ [(i : Int)]⟩ :: H) := by simp [stp, List.set_append]
    refine Or.inr ⟨_, oS, _, m, inv_stop h hi hk h5, nst_stop hn hk h5 hH, fun rec => ?_, fun rec => ?_⟩
    · unfold n_sP_1 sS
      rw [q1, q2]
      simp only [e, h1, opn_len, lst_len, stp_len, e1]
      (repeat (first | refine xt ?_ | refine xf ?_ | refine yt ?_ | refine yf ?_))
      refine bd hdn ?_
      simp only [e5, Int.toNat_natCast, q3]
      (repeat (first | refine xt ?_ | refine xf ?_ | refine yt ?_ | refine yf ?_))
      refine bt trivial ?_
      (repeat (first | refine xt ?_ | refine xf ?_ | refine yt ?_ | refine yf ?_))
      try rfl
    · have hlp' : lps L (G ++ ⟨f.b, f.l, f.s ++ [(i : Int)]⟩ :: H) = lps L G ++ [⟨f.b, f.l, f.s ++ [(i : Int)]⟩] := lps_split h5 hH
      have hol : opn (lps L (G ++ ⟨f.b, f.l, f.s ++ [(i : Int)]⟩ :: H)) = opn (lps L (G ++ f :: H)) := by rw [hlp, hlp', opn_snoc, opn_snoc]
      have hc : cnts L (G ++ ⟨f.b, f.l, f.s ++ [(i : Int)]⟩ :: H) = cnts L (G ++ f :: H) := by unfold cnts; rw [hlp, hlp']; simp
      have hso : (stp (lps L (G ++ f :: H))).set (lps L G).length (f.s ++ ((i : Int) :: [])) = stp (lps L (G ++ ⟨f.b, f.l, f.s ++ [(i : Int)]⟩ :: H)) := by rw [hlp, hlp', stp_snoc, stp_snoc]; simp [List.set_append, stp_len]
      have hll : (lps L (G ++ f :: H)).length = (lps L G).length + 1 := by rw [hlp]; simp
      have hw2 := w_pred (lps L G).length (by omega)
      have hw3 := w_pred (lps L (G ++ f :: H)).length (by omega)
      have e6 : gt (stp (lps L (G ++ f :: H))) ((lps L G).length : Int) = f.s := by rw [hlp]; exact top_s _ _
      unfold n_iP_0 sI
      rw [hol, hc, q1]
      simp only [e, h2, opn_len, stp_len, hsc, hw3, hlast]
      rw [hll] at *
      simp only [hw2, e6, Int.toNat_natCast, hso]
      (repeat (first | refine xt ?_ | refine xf ?_ | refine yt ?_ | refine yf ?_))
      refine bd (line_impl _ b _) ?_
      rw [hv]
      simp only [Bool.not_true, cond_false]
      (repeat (first | refine xt ?_ | refine xf ?_ | refine yt ?_ | refine yf ?_))
      refine bt trivial ?_
      (repeat (first | refine xt ?_ | refine xf ?_ | refine yt ?_ | refine yf ?_))
      try rfl
end Go.Proofs.Ytheemkehedmlfaa.P
set_option linter.unusedVariables false
set_option linter.unusedSimpArgs false
set_option maxRecDepth 4000
namespace Go.Proofs.Ytheemkehedmlfaa.P
open Go Go.Proofs.Ytheemkehedmlfaa.E
theorem gts (s : List Int) (j : Nat) (hj : j < s.length) : gt s (j : Int) = s[j] := by rw [gtn]; simp [List.getD_eq_getElem?_getD, hj]
theorem stops_spec {N : Nat} {G : List Fr} {f : Fr} {i : Nat} (hG : G.length ≤ 24) (hl : f.s.length ≤ 1000) : ∀ (d j M : Nat) (o : List Int), j + d = f.s.length → d < M → (∀ x ∈ f.s, ∃ q : Nat, x = (q : Int) ∧ q < o.length) →
    itN (n_sP_4 N ((i : Int), (((G.length + 1 : Nat) : Int), (stp (G ++ [f]), ())))) M ((j : Int), (o, ())) = some (setAll o (f.s.drop j) (i : Int), ()) := by
  have hw := w_pred G.length (by omega)
  have hs := top_s G f
  intro d
  induction d with
  | zero =>
    intro j M o hj hM _
    obtain ⟨M, rfl⟩ : ∃ M', M = M' + 1 := ⟨M - 1, by omega⟩
    show n_sP_4 _ _ _ _ = _
    rw [List.drop_eq_nil_of_le (by omega : f.s.length ≤ j)]
    unfold n_sP_4
    simp only [hw, hs, stp_len, List.length_append, List.length_cons, List.length_nil, Nat.zero_add]
    (repeat (first | refine xt ?_ | refine xf ?_ | refine yt ?_ | refine yf ?_))
    rfl
  | succ d ih =>
    intro j M o hj hM hq
    obtain ⟨M, rfl⟩ : ∃ M', M = M' + 1 := ⟨M - 1, by omega⟩
    have hj' : j < f.s.length := by omega
    obtain ⟨q, hq1, hlt⟩ := hq _ (List.getElem_mem hj')
    have hg := gts f.s j hj'
    rw [hq1] at hg
    have e := w_suc j (by omega)
    have ed := setAll_drop o f.s (i : Int) j hj'
    rw [hq1] at ed
    have ih := ih (j + 1) M (o.set ((q : Int)).toNat (i : Int)) (by omega) (by omega) (fun x hx => by rw [List.length_set]; exact hq x hx)
    rw [ed] at ih
    rw [← ih]
    show n_sP_4 _ _ (itN (n_sP_4 N ((i : Int), (((G.length + 1 : Nat) : Int), (stp (G ++ [f]), ())))) M) _ = _
    generalize itN (n_sP_4 N ((i : Int), (((G.length + 1 : Nat) : Int), (stp (G ++ [f]), ())))) M = rec
    unfold n_sP_4
    simp only [hw, hs, stp_len, List.length_append, List.length_cons, List.length_nil, Nat.zero_add, hg, e]
    (repeat (first | refine xt ?_ | refine xf ?_ | refine yt ?_ | refine yf ?_))
    try rfl
theorem stops_impl {N : Nat} {b a : Int} {S : List (List Int)} {s : List Int} {i : Nat} (hs : gt S a = s) (hl : s.length ≤ 1000) : ∀ (d j M : Nat) (o : List Int), j + d = s.length → d < M → (∀ x ∈ s, ∃ q : Nat, x = (q : Int) ∧ q < o.length) →
    itN (n_iP_2 N ((i : Int), (a, ((s.length : Int), (S, ()))))) M ((j : Int), (o, ())) = some (setAll o (s.drop j) (i : Int), ()) := by
  intro d
  induction d with
  | zero =>
    intro j M o hj hM _
    obtain ⟨M, rfl⟩ : ∃ M', M = M' + 1 := ⟨M - 1, by omega⟩
    show n_iP_2 _ _ _ _ = _
    rw [List.drop_eq_nil_of_le (by omega : s.length ≤ j)]
    unfold n_iP_2
    simp only
    (repeat (first | refine xt ?_ | refine xf ?_ | refine yt ?_ | refine yf ?_))
    rfl
  | succ d ih =>
    intro j M o hj hM hq
    obtain ⟨M, rfl⟩ : ∃ M', M = M' + 1 := ⟨M - 1, by omega⟩
    have hj' : j < s.length := by omega
    obtain ⟨q, hq1, hlt⟩ := hq _ (List.getElem_mem hj')
    have hg := gts s j hj'
    rw [hq1] at hg
    have e := w_suc j (by omega)
    have ed := setAll_drop o s (i : Int) j hj'
    rw [hq1] at ed
    have ih := ih (j + 1) M (o.set ((q : Int)).toNat (i : Int)) (by omega) (by omega) (fun x hx => by rw [List.length_set]; exact hq x hx)
    rw [ed] at ih
    rw [← ih]
    show n_iP_2 _ _ (itN (n_iP_2 N ((i : Int), (a, ((s.length : Int), (S, ()))))) M) _ = _
    generalize itN (n_iP_2 N ((i : Int), (a, ((s.length : Int), (S, ()))))) M = rec
    unfold n_iP_2
    simp only [hs, hg, e]
    (repeat (first | refine xt ?_ | refine xf ?_ | refine yt ?_ | refine yf ?_))
    try rfl
theorem setAll_get (v : Int) (j : Nat) : ∀ (s o : List Int), j < o.length → (∀ x ∈ s, ∃ q : Nat, x = (q : Int)) → (setAll o s v).getD j 0 = if (j : Int) ∈ s then v else o.getD j 0
  | [], o, _, _ => by simp [setAll]
  | x :: xs, o, hj, hs => by
    obtain ⟨q, hq⟩ := hs x List.mem_cons_self
    show (setAll (o.set x.toNat v) xs v).getD j 0 = _
    rw [setAll_get v j xs _ (by rw [List.length_set]; exact hj) fun y hy => hs y (List.mem_cons_of_mem _ hy)]
    subst hq
    rw [Int.toNat_natCast]
    by_cases h1 : (j : Int) ∈ xs
    · rw [if_pos h1, if_pos (List.mem_cons_of_mem _ h1)]
    · rw [if_neg h1]
      by_cases h2 : j = q
      · subst h2
        rw [getD_set _ _ _ _ hj, if_pos rfl, if_pos List.mem_cons_self]
      · rw [if_neg (fun hm => by rcases List.mem_cons.1 hm with h | h; · omega
                                 · exact h1 h)]
        simp only [List.getD_eq_getElem?_getD, List.getElem?_set]
        rw [if_neg (Ne.symm h2)]
theorem step_end {N : Nat} (hNN : 4096 ≤ N) {b : Int} {L : List LT} {i : Nat} {F : List Fr} {oS oI : List Int} {m : List (Int × Bool)} (h : Inv L i F oS oI m) (hn : Nst (kd L) i F (fun j => oS.getD j 0)) (hi : i < L.length) (hv : lineB b (gt L (i : Int)) = true) (hk : kd L i = 4) : Step N b L i F oS oI m := by
  have hN := h.hN
  have e := w_suc i (by omega)
  have h1 := h.ls
  have h2 := h.li
  have h3 := h.nest
  have h4 := h.prod
  have hl := lps_le L F
  have hsc := scan_len L F
  have hlast := scan_last L F
  have hw := w_pred (lps L F).length (by omega)
  have hk' : (gt L (i : Int)).1 = 4 := hk
  rcases List.eq_nil_or_concat F with rfl | ⟨G, f, rfl⟩
  · refine Or.inl ⟨oS, oI.set i (i : Int), m, fun rec => ?_, fun rec => ?_⟩
    · unfold n_sP_1 sS
      simp only [e, h1, opn_len, List.length_nil]
      (repeat (first | refine xt ?_ | refine xf ?_ | refine yt ?_ | refine yf ?_))
      rfl
    · unfold n_iP_0 sI
      simp only [e, h2, opn_len, hsc, List.length_nil, w_neg]
      (repeat (first | refine xt ?_ | refine xf ?_ | refine yt ?_ | refine yf ?_))
      refine bd (line_impl N b _) ?_
      rw [hv]
      simp only [Bool.not_true, cond_false]
      (repeat (first | refine xt ?_ | refine xf ?_ | refine yt ?_ | refine yf ?_))
      simp only [Int.toNat_natCast]
  · rw [List.concat_eq_append] at h hn hl hsc hlast hw h3 h4 ⊢
    simp only [List.length_append, List.length_cons, List.length_nil, Nat.zero_add] at h3
    have hI := inv_end h hi
    have hb := (of_snoc h.bl).2
    have hkf := (of_snoc h.kds).2
    have hsl := (of_snoc h.sl).2
    have hst := (of_snoc h.st).2
    have hw1 := w_pred G.length (by omega)
    have tb := top_b G f
    have tl := top_l G f
    have hmg := (of_snoc h.mg).2
    have hlI : (oI.set i (i : Int)).length = L.length := by rw [List.length_set]; exact h2
    have hS := stops_spec (N := N) (G := G) (f := f) (i := i) (by omega) (by omega) f.s.length 0 N ((oS.set f.l (i : Int)).set i (f.b : Int)) (by omega) (by omega) (fun x hx => by obtain ⟨q, eq_, hq, _⟩ := hst x hx; exact ⟨q, eq_, by rw [List.length_set, List.length_set, h1]; omega⟩)
    rw [List.drop_zero] at hS
    have hnst : Nst (kd L) (i + 1) G (fun j => (setAll ((oS.set f.l (i : Int)).set i (f.b : Int)) f.s (i : Int)).getD j 0) := by
      refine nst_end hn hk fun j => ?_
      by_cases hj : j < L.length
      · show (setAll _ _ _).getD j 0 = _
        rw [setAll_get _ _ _ _ (by rw [List.length_set, List.length_set, h1]; exact hj) (fun x hx => by obtain ⟨q, eq_, _⟩ := hst x hx; exact ⟨q, eq_⟩), getD_set _ _ _ _ (by rw [List.length_set, h1]; exact hi), getD_set _ _ _ _ (by rw [h1]; omega)]
      · have z : ∀ x : List Int, x.length = L.length → x.getD j 0 = 0 := fun x hx => by rw [List.getD_eq_getElem?_getD, List.getElem?_eq_none (by omega)]; rfl
        show (setAll _ _ _).getD j 0 = _
        rw [z _ (by rw [setAll_len, List.length_set, List.length_set, h1]), if_neg, if_neg (by omega), if_neg (by omega), z _ h1]
        intro hm
        obtain ⟨q, eq_, hq, _⟩ := hst _ hm
        omega
    refine Or.inr ⟨G, _, _, m, hI, hnst, fun rec => ?_, fun rec => ?_⟩
    · unfold n_sP_1 sS
      simp only [e, h1, opn_len, lst_len, stp_len, List.length_append, List.length_cons, List.length_nil, Nat.zero_add, hw1, tl, tb, Int.toNat_natCast, List.length_set]
      (repeat (first | refine xt ?_ | refine xf ?_ | refine yt ?_ | refine yf ?_))
      refine bd hS ?_
      have c1 := cut_o G f
      have c2 := cut_l G f
      have c3 := cut_s G f
      rw [Int.toNat_natCast] at c1 c2 c3
      simp only [c1, c2, c3]
      (repeat (first | refine xt ?_ | refine xf ?_ | refine yt ?_ | refine yf ?_))
      try rfl
    · by_cases h5 : kd L f.b = 5
      · have h5' : (gt L (f.b : Int)).1 = 5 := h5
        have hfl := (of_snoc h.lp).2 h5
        have hlp : lps L (G ++ [f]) = lps L G ++ [f] := by rw [lps_snoc, if_pos h5]
        have hlg := lps_le L G
        have hll : (lps L (G ++ [f])).length = (lps L G).length + 1 := by rw [hlp]; simp
        have hw2 := w_pred (lps L G).length (by omega)
        have hw3 := w_pred ((lps L G).length + 1) (by omega)
        have e6 : gt (stp (lps L (G ++ [f]))) ((lps L G).length : Int) = f.s := by rw [hlp]; exact top_s _ _
        have hT := stops_impl (N := N) (b := b) (i := i) e6 (by omega) f.s.length 0 N (((oI.set i (i : Int)).set i (f.b : Int)).set f.b (i : Int)) (by omega) (by omega) (fun x hx => by obtain ⟨q, eq_, hq, _⟩ := hst x hx; exact ⟨q, eq_, by rw [List.length_set, List.length_set, hlI]; omega⟩)
        rw [List.drop_zero] at hT
        have c1 := cut_o G f
        have c4 := cut_scan (L := L) (G := G) h5
        have c5 : (opn (lps L (G ++ [f]))).take (lps L G).length = opn (lps L G) := by rw [hlp]; have := cut_o (lps L G) f; rwa [Int.toNat_natCast] at this
        have c6 : (stp (lps L (G ++ [f]))).take (lps L G).length = stp (lps L G) := by rw [hlp]; have := cut_s (lps L G) f; rwa [Int.toNat_natCast] at this
        have hpr := hI.prod
        have c7 : gt (scanP 1 (cnts L (G ++ [f]))) ((lps L G).length : Int) = pr 1 (cnts L G) := by
          rw [gtn, ← scan_last L G, gtn, ← c4]
          simp [List.getD_eq_getElem?_getD]
        rw [Int.toNat_natCast] at c1
        unfold n_iP_0 sI
        simp only [e, h2, opn_len, stp_len, hsc, hll, hw2, hw3, List.length_append, List.length_cons, List.length_nil, Nat.zero_add, hw1, tb, e6, Int.toNat_natCast, List.length_set]
        (repeat (first | refine xt ?_ | refine xf ?_ | refine yt ?_ | refine yf ?_))
        refine bd (line_impl N b _) ?_
        rw [hv]
        simp only [Bool.not_true, cond_false]
        (repeat (first | refine xt ?_ | refine xf ?_ | refine yt ?_ | refine yf ?_))
        refine bd hT ?_
        simp only [c1, c4, c5, c6, c7]
        (repeat (first | refine xt ?_ | refine xf ?_ | refine yt ?_ | refine yf ?_))
        rw [hfl]
      · have h2k : kd L f.b = 2 := by omega
        have h5' : ¬ (gt L (f.b : Int)).1 = 5 := h5
        have hfs := (of_snoc h.st0).2 h2k
        have hlp : lps L (G ++ [f]) = lps L G := by rw [lps_snoc, if_neg h5]
        have hcn : cnts L (G ++ [f]) = cnts L G := by rw [cnts_snoc, if_neg h5]
        have c1 := cut_o G f
        rw [Int.toNat_natCast] at c1
        rw [hlp] at hsc hlast hw hl
        rw [hcn] at hsc hlast h4
        have hlg := lps_le L G
        have hw2 := w_pred (lps L G).length (by omega)
        rw [hfs]
        have hsn : ∀ o v, setAll o [] v = o := fun _ _ => rfl
        rw [hsn]
        unfold n_iP_0 sI
        rw [hlp, hcn]
        by_cases hm : mget m (f.b : Int) = true
        · have hne : f.l ≠ f.b := by rw [hmg] at hm; simpa using hm
          have hol := ((of_snoc h.el).2 hne).2
          have hrd : gt ((oI.set i (i : Int)).set i (f.b : Int)) (f.b : Int) = (f.l : Int) := by
            rw [gtn]
            show ((oI.set i (i : Int)).set i (f.b : Int)).getD f.b 0 = _
            rw [getD_set _ _ _ _ (by rw [hlI]; omega), if_neg (by omega), getD_set _ _ _ _ (by rw [h2]; omega), if_neg (by omega)]
            exact hol
          simp only [e, h2, opn_len, stp_len, hsc, hw2, hlast, List.length_append, List.length_cons, List.length_nil, Nat.zero_add, hw1, tb, Int.toNat_natCast, List.length_set, hm, hrd, c1]
          (repeat (first | refine xt ?_ | refine xf ?_ | refine yt ?_ | refine yf ?_))
          refine bd (line_impl N b _) ?_
          rw [hv]
          simp only [Bool.not_true, cond_false]
          (repeat (first | refine xt ?_ | refine xf ?_ | refine yt ?_ | refine yf ?_))
          try simp only [cond_true]
          (repeat (first | refine xt ?_ | refine xf ?_ | refine yt ?_ | refine yf ?_))
          try rfl
        · have hm : mget m (f.b : Int) = false := by simpa using hm
          have hfl : f.l = f.b := by rw [hmg] at hm; simpa using hm
          simp only [e, h2, opn_len, stp_len, hsc, hw2, hlast, List.length_append, List.length_cons, List.length_nil, Nat.zero_add, hw1, tb, Int.toNat_natCast, List.length_set, hm, c1]
          (repeat (first | refine xt ?_ | refine xf ?_ | refine yt ?_ | refine yf ?_))
          refine bd (line_impl N b _) ?_
          rw [hv]
          simp only [Bool.not_true, cond_false]
          (repeat (first | refine xt ?_ | refine xf ?_ | refine yt ?_ | refine yf ?_))
          try simp only [cond_false]
          (repeat (first | refine xt ?_ | refine xf ?_ | refine yt ?_ | refine yf ?_))
          rw [hfl]
theorem step_all {N : Nat} (hNN : 4096 ≤ N) {b : Int} {L : List LT} {i : Nat} {F : List Fr} {oS oI : List Int} {m : List (Int × Bool)} (h : Inv L i F oS oI m) (hn : Nst (kd L) i F (fun j => oS.getD j 0)) (hi : i < L.length) (hv : lineB b (gt L (i : Int)) = true) : Step N b L i F oS oI m := by
  have hk := line_kd hv
  by_cases h0 : kd L i = 0 ∨ kd L i = 1
  · exact step_skip h hn hi hv h0
  by_cases h2 : kd L i = 2 ∨ kd L i = 5
  · exact step_push hNN h hn hi hv h2
  by_cases h3 : kd L i = 3
  · exact step_else h hn hi hv h3
  by_cases h4 : kd L i = 4
  · exact step_end hNN h hn hi hv h4
  exact step_stop hNN h hn hi hv (by omega)
end Go.Proofs.Ytheemkehedmlfaa.P
set_option linter.unusedVariables false
set_option linter.unusedSimpArgs false
set_option maxRecDepth 4000
namespace Go.Proofs.Ytheemkehedmlfaa.P
open Go Go.Proofs.Ytheemkehedmlfaa.E
structure PairsOk (b : Int) (L : List LT) (o : List Int) : Prop where
  len : o.length = L.length
  lt : L.length ≤ 24
  cl : frs (kd L) L.length = []
  pa : ∀ j, j < L.length → PA (kd L) (fun j => o.getD j 0) L.length j
  dp : ∀ j, j ≤ L.length → (frs (kd L) j).length ≤ 4
  li : ∀ j : Nat, j < L.length → lineB b (gt L (j : Int)) = true
  eu : EU (kd L) L.length
theorem bs_len (F : List Fr) : (bs F).length = F.length := by simp [bs]
theorem sim_ok {N : Nat} (hNN : 4096 ≤ N) (b : Int) (L : List LT) : ∀ (d i M : Nat) (F : List Fr) (oS oI : List Int) (m : List (Int × Bool)), i + d = L.length → d < M → Inv L i F oS oI m → Nst (kd L) i F (fun j => oS.getD j 0) → (∀ j, j ≤ i → (frs (kd L) j).length ≤ 4) → (∀ j : Nat, i ≤ j → j < L.length → lineB b (gt L (j : Int)) = true) →
    (∃ o o' m', itN (n_sP_1 N (L, ())) M (sS F oS i) = some (.inl (false, (o, ()))) ∧ itN (n_iP_0 N (b, (L, (L, ((L.length : Int), ()))))) M (sI L F oI m i) = some (.inl (false, ([], (o', (m', ())))))) ∨
    ∃ F' o m', itN (n_sP_1 N (L, ())) M (sS F oS i) = some (.inr (opn F', (o, ()))) ∧ itN (n_iP_0 N (b, (L, (L, ((L.length : Int), ()))))) M (sI L F oI m i) = some (.inr (opn F', (o, (m', ())))) ∧
      o.length = L.length ∧ Nst (kd L) L.length F' (fun j => o.getD j 0) ∧ ∀ j, j ≤ L.length → (frs (kd L) j).length ≤ 4 := by
  intro d
  induction d with
  | zero =>
    intro i M F oS oI m hd hM h hn hdp _
    obtain ⟨M, rfl⟩ : ∃ M', M = M' + 1 := ⟨M - 1, by omega⟩
    obtain rfl : i = L.length := by omega
    have heq : oS = oI := by
      apply List.ext_getElem (by rw [h.ls, h.li])
      intro j h1 h2
      have := h.eq j (by rw [h.ls] at h1; exact h1)
      simp only [List.getD_eq_getElem?_getD, List.getElem?_eq_getElem h1, List.getElem?_eq_getElem h2] at this
      exact this.symm
    subst heq
    have h1 := h.ls
    refine Or.inr ⟨F, oS, m, ?_, ?_, h1, hn, hdp⟩
    · show n_sP_1 _ _ _ _ = _
      unfold n_sP_1 sS
      simp only [h1]
      (repeat (first | refine xt ?_ | refine xf ?_ | refine yt ?_ | refine yf ?_))
      rfl
    · show n_iP_0 _ _ _ _ = _
      unfold n_iP_0 sI
      simp only
      (repeat (first | refine xt ?_ | refine xf ?_ | refine yt ?_ | refine yf ?_))
      rfl
  | succ d ih =>
    intro i M F oS oI m hd hM h hn hdp hv
    obtain ⟨M, rfl⟩ : ∃ M', M = M' + 1 := ⟨M - 1, by omega⟩
    rcases step_all hNN h hn (by omega) (hv i (Nat.le_refl _) (by omega)) with ⟨o, o', m', h1, h2⟩ | ⟨F', oS', oI', m', h', hn', h1, h2⟩
    · exact Or.inl ⟨o, o', m', h1 _, h2 _⟩
    · have hdp' : ∀ j, j ≤ i + 1 → (frs (kd L) j).length ≤ 4 := by
        intro j hj
        by_cases e : j = i + 1
        · rw [e, hn'.frs, bs_len]; exact h'.nest
        · exact hdp j (by omega)
      have := ih (i + 1) M F' oS' oI' m' (by omega) (by omega) h' hn' hdp' (fun j hj hl => hv j (by omega) hl)
      rw [← h1 (itN (n_sP_1 N (L, ())) M), ← h2 (itN (n_iP_0 N (b, (L, (L, ((L.length : Int), ()))))) M)] at this
      exact this
theorem sim_bad {N : Nat} (hNN : 4096 ≤ N) (b : Int) (L : List LT) : ∀ (d i M : Nat) (F : List Fr) (oS oI : List Int) (m : List (Int × Bool)), i + d = L.length → d < M → Inv L i F oS oI m → Nst (kd L) i F (fun j => oS.getD j 0) → (∃ j : Nat, i ≤ j ∧ j < L.length ∧ lineB b (gt L (j : Int)) = false) →
    ∃ o' m', itN (n_iP_0 N (b, (L, (L, ((L.length : Int), ()))))) M (sI L F oI m i) = some (.inl (false, ([], (o', (m', ()))))) := by
  intro d
  induction d with
  | zero =>
    intro i M F oS oI m hd hM _ _ hx
    obtain ⟨j, h1, h2, _⟩ := hx
    omega
  | succ d ih =>
    intro i M F oS oI m hd hM h hn hx
    obtain ⟨M, rfl⟩ : ∃ M', M = M' + 1 := ⟨M - 1, by omega⟩
    by_cases hv : lineB b (gt L (i : Int)) = true
    · rcases step_all hNN h hn (by omega) hv with ⟨o, o', m', h1, h2⟩ | ⟨F', oS', oI', m', h', hn', h1, h2⟩
      · exact ⟨o', m', h2 _⟩
      · have hx' : ∃ j : Nat, i + 1 ≤ j ∧ j < L.length ∧ lineB b (gt L (j : Int)) = false := by
          obtain ⟨j, h1, h2, h3⟩ := hx
          refine ⟨j, ?_, h2, h3⟩
          by_cases e : j = i
          · rw [e, hv] at h3; cases h3
          · omega
        obtain ⟨o', m'', hh⟩ := ih (i + 1) M F' oS' oI' m' (by omega) (by omega) h' hn' hx'
        exact ⟨o', m'', (h2 _).trans hh⟩
    · have hv : lineB b (gt L (i : Int)) = false := by simpa using hv
      have h2 := h.li
      refine ⟨oI.set i (i : Int), m, ?_⟩
      show n_iP_0 _ _ _ _ = _
      generalize itN (n_iP_0 N (b, (L, (L, ((L.length : Int), ()))))) M = rec
      unfold n_iP_0 sI
      simp only [h2]
      (repeat (first | refine xt ?_ | refine xf ?_ | refine yt ?_ | refine yf ?_))
      refine bd (line_impl N b _) ?_
      rw [hv]
      simp only [Bool.not_false, cond_true, Int.toNat_natCast]
theorem spec_first {N : Nat} {b : Int} {L : List LT} (hN : L.length ≤ 24) : ∀ (d j M : Nat), j + d = L.length → d < M →
    ((∀ q : Nat, j ≤ q → q < L.length → lineB b (gt L (q : Int)) = true) → itN (n_sP_0 N (b, (L, ()))) M ((j : Int), (idl j, ())) = some (.inr (idl L.length, ()))) ∧
    ((∃ q : Nat, j ≤ q ∧ q < L.length ∧ lineB b (gt L (q : Int)) = false) → ∃ o, itN (n_sP_0 N (b, (L, ()))) M ((j : Int), (idl j, ())) = some (.inl (false, (o, ())))) := by
  intro d
  induction d with
  | zero =>
    intro j M hj hM
    obtain ⟨M, rfl⟩ : ∃ M', M = M' + 1 := ⟨M - 1, by omega⟩
    obtain rfl : j = L.length := by omega
    refine ⟨fun _ => ?_, ?_⟩
    · show n_sP_0 _ _ _ _ = _
      unfold n_sP_0
      simp only
      (repeat (first | refine xt ?_ | refine xf ?_ | refine yt ?_ | refine yf ?_))
      rfl
    · rintro ⟨q, h1, h2, _⟩
      omega
  | succ d ih =>
    intro j M hj hM
    obtain ⟨M, rfl⟩ : ∃ M', M = M' + 1 := ⟨M - 1, by omega⟩
    have e := w_suc j (by omega)
    have hil := idl_len j
    have his : idl j ++ ((j : Int) :: []) = idl (j + 1) := idl_succ j
    have go : lineB b (gt L (j : Int)) = true → itN (n_sP_0 N (b, (L, ()))) (M + 1) ((j : Int), (idl j, ())) = itN (n_sP_0 N (b, (L, ()))) M (((j + 1 : Nat) : Int), (idl (j + 1), ())) := by
      intro hv
      show n_sP_0 _ _ (itN (n_sP_0 N (b, (L, ()))) M) _ = _
      generalize itN (n_sP_0 N (b, (L, ()))) M = rec
      unfold n_sP_0
      simp only [e, hil, his]
      (repeat (first | refine xt ?_ | refine xf ?_ | refine yt ?_ | refine yf ?_))
      refine bd (line_spec N b _) ?_
      rw [hv]
      simp only [Bool.not_true, cond_false]
      (repeat (first | refine xt ?_ | refine xf ?_ | refine yt ?_ | refine yf ?_))
      try rfl
    obtain ⟨i1, i2⟩ := ih (j + 1) M (by omega) (by omega)
    refine ⟨fun hv => ?_, ?_⟩
    · rw [go (hv j (Nat.le_refl _) (by omega))]
      exact i1 fun q hq hl => hv q (by omega) hl
    · rintro ⟨q, h1, h2, h3⟩
      by_cases hv : lineB b (gt L (j : Int)) = true
      · rw [go hv]
        refine i2 ⟨q, ?_, h2, h3⟩
        by_cases e : q = j
        · rw [e, hv] at h3; cases h3
        · omega
      · have hv : lineB b (gt L (j : Int)) = false := by simpa using hv
        refine ⟨idl j, ?_⟩
        show n_sP_0 _ _ (itN (n_sP_0 N (b, (L, ()))) M) _ = _
        generalize itN (n_sP_0 N (b, (L, ()))) M = rec
        unfold n_sP_0
        simp only
        (repeat (first | refine xt ?_ | refine xf ?_ | refine yt ?_ | refine yf ?_))
        refine bd (line_spec N b _) ?_
        rw [hv]
        rfl
theorem paired_ex {N : Nat} (hNN : 4096 ≤ N) (b : Int) (L : List LT) (hN : L.length ≤ 24) :
    (∃ o o', F_sP N (b, (L, ())) = some (o, (false, ())) ∧ F_iP N (b, (L, ())) = some (o', (false, ()))) ∨
    ∃ o, F_sP N (b, (L, ())) = some (o, (true, ())) ∧ F_iP N (b, (L, ())) = some (o, (true, ())) ∧ PairsOk b L o := by
  obtain ⟨s1, s2⟩ := spec_first (N := N) (b := b) hN L.length 0 N (by omega) (by omega)
  have hst := inv_start (L := L) hN
  have hns := nst_start (kd L) (fun j => (idl L.length).getD j 0)
  have e0 : ((0 : Int), ([], ())) = (((0 : Nat) : Int), (idl 0, ())) := rfl
  have eI : ((0 : Int), (([] : List Int), (([] : List Int), (([] : List (List Int)), (((1 : Int) :: []), ((List.replicate (L.length : Int).toNat (0 : Int)), (([] : List (Int × Bool)), ()))))))) = sI L [] (List.replicate L.length 0) [] 0 := by
    simp [sI, opn, stp, lps, cnts, scanP]
  by_cases hv : ∀ j : Nat, 0 ≤ j → j < L.length → lineB b (gt L (j : Int)) = true
  · have g1 := s1 hv
    have hz : ∀ j, j ≤ 0 → (frs (kd L) j).length ≤ 4 := fun j hj => by
      have e : j = 0 := Nat.le_zero.1 hj
      subst e
      exact Nat.zero_le _
    rcases sim_ok hNN b L L.length 0 N [] _ _ _ (by omega) (by omega) hst hns hz hv with ⟨o, o', m', h1, h2⟩ | ⟨F', o, m', h1, h2, h3, h4, h5⟩
    · refine Or.inl ⟨o, [], ?_, ?_⟩
      · unfold F_sP
        refine bd g1 ?_
        simp only [Sum.isLeft_inr, cond_false, Sum.getRight?_inr, Option.bind_some]
        exact bd h1 rfl
      · unfold F_iP
        simp only
        (repeat (first | refine xt ?_ | refine xf ?_ | refine yt ?_ | refine yf ?_))
        rw [eI]
        exact bd h2 rfl
    · by_cases hF : F' = []
      · subst hF
        obtain ⟨w1, w0, w2⟩ := nst_whole h4
        refine Or.inr ⟨o, ?_, ?_, ⟨h3, hN, w1, w2, h5, fun j hj => hv j (Nat.zero_le _) hj, w0⟩⟩
        · unfold F_sP
          refine bd g1 ?_
          simp only [Sum.isLeft_inr, cond_false, Sum.getRight?_inr, Option.bind_some]
          refine bd h1 ?_
          simp only [Sum.isLeft_inr, cond_false, Sum.getRight?_inr, Option.bind_some, opn_len, List.length_nil]
          (repeat (first | refine xt ?_ | refine xf ?_ | refine yt ?_ | refine yf ?_))
          rw [decide_eq_true (by omega : (L.length : Int) ≤ 24)]
        · unfold F_iP
          simp only
          (repeat (first | refine xt ?_ | refine xf ?_ | refine yt ?_ | refine yf ?_))
          rw [eI]
          refine bd h2 ?_
          simp only [Sum.isLeft_inr, cond_false, Sum.getRight?_inr, Option.bind_some, opn_len, List.length_nil]
          rfl
      · have hl : F'.length ≠ 0 := fun h => hF (List.length_eq_zero_iff.1 h)
        refine Or.inl ⟨o, o, ?_, ?_⟩
        · unfold F_sP
          refine bd g1 ?_
          simp only [Sum.isLeft_inr, cond_false, Sum.getRight?_inr, Option.bind_some]
          refine bd h1 ?_
          simp only [Sum.isLeft_inr, cond_false, Sum.getRight?_inr, Option.bind_some, opn_len]
          (repeat (first | refine xt ?_ | refine xf ?_ | refine yt ?_ | refine yf ?_))
          try rfl
        · unfold F_iP
          simp only
          (repeat (first | refine xt ?_ | refine xf ?_ | refine yt ?_ | refine yf ?_))
          rw [eI]
          refine bd h2 ?_
          simp only [Sum.isLeft_inr, cond_false, Sum.getRight?_inr, Option.bind_some, opn_len]
          rw [decide_eq_false (by omega)]
  · have hx : ∃ q : Nat, 0 ≤ q ∧ q < L.length ∧ lineB b (gt L (q : Int)) = false := by
      apply Classical.byContradiction
      intro hc
      apply hv
      intro j h0 hj
      by_cases e : lineB b (gt L (j : Int)) = true
      · exact e
      · exact absurd ⟨j, h0, hj, by simpa using e⟩ hc
    obtain ⟨o, g2⟩ := s2 hx
    obtain ⟨o', m', g3⟩ := sim_bad hNN b L L.length 0 N [] _ _ _ (by omega) (by omega) hst hns hx
    refine Or.inl ⟨o, [], ?_, ?_⟩
    · unfold F_sP
      exact bd g2 rfl
    · unfold F_iP
      simp only
      (repeat (first | refine xt ?_ | refine xf ?_ | refine yt ?_ | refine yf ?_))
      rw [eI]
      exact bd g3 rfl
theorem pairs_long {N : Nat} (hNN : 4096 ≤ N) {b : Int} {L : List LT} (hN : ¬ L.length ≤ 24) : F_sP N (b, (L, ())) = some ([], (false, ())) := by
  obtain ⟨M, rfl⟩ : ∃ M', N = M' + 1 := ⟨N - 1, by omega⟩
  unfold F_sP
  have g1 : itN (n_sP_0 (M + 1) (b, (L, ()))) (M + 1) ((0 : Int), ([], ())) = some (.inr ([], ())) := by
    show n_sP_0 _ _ _ _ = _
    unfold n_sP_0
    simp only
    (repeat (first | refine xt ?_ | refine xf ?_ | refine yt ?_ | refine yf ?_))
    rfl
  have g2 : itN (n_sP_1 (M + 1) (L, ())) (M + 1) ((0 : Int), ([], ([], ([], ([], ()))))) = some (.inr ([], ([], ()))) := by
    show n_sP_1 _ _ _ _ = _
    unfold n_sP_1
    simp only [List.length_nil]
    (repeat (first | refine xt ?_ | refine xf ?_ | refine yt ?_ | refine yf ?_))
    rfl
  refine bd g1 ?_
  simp only [Sum.isLeft_inr, cond_false, Sum.getRight?_inr, Option.bind_some]
  refine bd g2 ?_
  simp only [Sum.isLeft_inr, cond_false, Sum.getRight?_inr, Option.bind_some, List.length_nil]
  rw [decide_eq_false (by omega : ¬ (L.length : Int) ≤ 24)]
  rfl
theorem is_ex {N : Nat} (hNN : 4096 ≤ N) (b : Int) (L : List LT) :
    (F_spec_l08Is N (b, (L, ())) = some (false, ()) ∧ F_impl_ValidLines N (b, (L, ())) = some (false, ())) ∨
    (F_spec_l08Is N (b, (L, ())) = some (true, ()) ∧ F_impl_ValidLines N (b, (L, ())) = some (true, ()) ∧ bitsV b = true ∧ ∃ o, F_sP N (b, (L, ())) = some (o, (true, ())) ∧ F_iP N (b, (L, ())) = some (o, (true, ())) ∧ PairsOk b L o) := by
  unfold F_spec_l08Is F_impl_ValidLines
  simp only [bits_spec, bits_impl, Option.bind_some]
  by_cases hN : L.length ≤ 24
  · rcases paired_ex hNN b L hN with ⟨o, o', h1, h2⟩ | ⟨o, h1, h2, h3⟩
    · left
      rw [h1, h2]
      cases bitsV b with
      | false => exact ⟨rfl, rfl⟩
      | true =>
        refine ⟨rfl, ?_⟩
        simp only [Bool.not_true, cond_false, Option.bind_some]
        (repeat (first | refine xt ?_ | refine xf ?_ | refine yt ?_ | refine yf ?_))
        try rfl
    · rw [h1, h2]
      cases hb : bitsV b with
      | false => exact .inl ⟨rfl, rfl⟩
      | true =>
        refine .inr ⟨rfl, ?_, rfl, o, rfl, rfl, h3⟩
        simp only [Bool.not_true, cond_false, Option.bind_some]
        (repeat (first | refine xt ?_ | refine xf ?_ | refine yt ?_ | refine yf ?_))
        try rfl
  · left
    rw [pairs_long hNN hN]
    cases bitsV b with
    | false => exact ⟨rfl, rfl⟩
    | true =>
      refine ⟨rfl, ?_⟩
      simp only [Bool.not_true, cond_false, Option.bind_some]
      (repeat (first | refine xt ?_ | refine xf ?_ | refine yt ?_ | refine yf ?_))
      try rfl
end Go.Proofs.Ytheemkehedmlfaa.P
