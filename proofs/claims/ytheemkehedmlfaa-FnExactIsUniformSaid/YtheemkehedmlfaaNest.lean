/- The lines that belong to lines: what a machine that pairs them leaves, told by the lines alone. -/
set_option autoImplicit false
set_option linter.unusedVariables false
set_option linter.unusedSimpArgs false
namespace Go.Proofs.Ytheemkehedmlfaa.P
/-- A line that has no end yet: where it begins, which line of it waits, the stops of it. -/
structure Fr where
  b : Nat
  l : Nat
  s : List Int
/-- The lines that are open ahead of a place. -/
def frs (k : Nat → Int) : Nat → List Nat
  | 0 => []
  | i + 1 => if k i = 2 ∨ k i = 5 then frs k i ++ [i] else if k i = 4 then (frs k i).dropLast else frs k i
def bs (F : List Fr) : List Nat := F.map Fr.b
/-- What belongs to line j is known, and lies ahead of place i. -/
structure PA (k : Nat → Int) (o : Nat → Int) (i j : Nat) : Prop where
  k2 : k j = 2 → ∃ t : Nat, o j = t ∧ j < t ∧ t < i ∧ (k t = 3 ∨ k t = 4) ∧ frs k t = frs k j ++ [j]
  k3 : k j = 3 → ∃ t b : Nat, o j = t ∧ j < t ∧ t < i ∧ k t = 4 ∧ k b = 2 ∧ frs k t = frs k b ++ [b] ∧ frs k j = frs k b ++ [b]
  k5 : k j = 5 → ∃ t : Nat, o j = t ∧ j < t ∧ t < i ∧ k t = 4 ∧ frs k t = frs k j ++ [j]
  k4 : k j = 4 → ∃ b : Nat, o j = b ∧ b < j ∧ (k b = 2 ∨ k b = 5) ∧ frs k j = frs k b ++ [b]
  k6 : k j = 6 → ∃ (t b : Nat) (ys : List Nat), o j = t ∧ j < t ∧ t < i ∧ k t = 4 ∧ k b = 5 ∧ b < j ∧ o t = b ∧ frs k t = frs k b ++ [b] ∧ frs k j = frs k b ++ [b] ++ ys ∧ ∀ y ∈ ys, k y = 2
structure FA (k : Nat → Int) (i : Nat) (G : List Fr) (f : Fr) : Prop where
  op : frs k f.b = bs G
  la : f.l = f.b ∨ k f.l = 3 ∧ k f.b = 2 ∧ frs k f.l = bs G ++ [f.b]
  st : ∀ x ∈ f.s, ∃ j : Nat, x = j ∧ j < i ∧ f.b < j ∧ k j = 6 ∧ k f.b = 5 ∧ ∃ ys, frs k j = bs G ++ [f.b] ++ ys ∧ ∀ y ∈ ys, k y = 2
structure Nst (k : Nat → Int) (i : Nat) (F : List Fr) (o : Nat → Int) : Prop where
  frs : frs k i = bs F
  at_ : ∀ G f H, F = G ++ f :: H → FA k i G f
  lt : ∀ f ∈ F, f.b ≤ f.l ∧ f.l < i ∧ (k f.b = 2 ∨ k f.b = 5)
  all : ∀ j, j < i → PA k o i j ∨ ∃ f ∈ F, j = f.l ∨ (j : Int) ∈ f.s
theorem bs_snoc (F : List Fr) (f : Fr) : bs (F ++ [f]) = bs F ++ [f.b] := by simp [bs]
theorem PA.mono {k : Nat → Int} {o o' : Nat → Int} {i i' j : Nat} (h : PA k o i j) (hi : i ≤ i') (ho : o' j = o j) (ht : ∀ t, t < i → k t = 4 → o' t = o t) : PA k o' i' j where
  k2 h2 := by obtain ⟨t, a, b, c, d⟩ := h.k2 h2; exact ⟨t, ho.trans a, b, by omega, d⟩
  k3 h2 := by obtain ⟨t, b, a, e, c, d⟩ := h.k3 h2; exact ⟨t, b, ho.trans a, e, by omega, d⟩
  k5 h2 := by obtain ⟨t, a, b, c, d⟩ := h.k5 h2; exact ⟨t, ho.trans a, b, by omega, d⟩
  k4 h2 := by obtain ⟨b, a, d⟩ := h.k4 h2; exact ⟨b, ho.trans a, d⟩
  k6 h2 := by obtain ⟨t, b, ys, a, e, c, d, g, l, m, n⟩ := h.k6 h2; exact ⟨t, b, ys, ho.trans a, e, by omega, d, g, l, (ht t c d).trans m, n⟩
theorem FA.mono {k : Nat → Int} {i i' : Nat} {G : List Fr} {f : Fr} (h : FA k i G f) (hi : i ≤ i') : FA k i' G f where
  op := h.op
  la := h.la
  st x hx := by obtain ⟨j, a, b, c⟩ := h.st x hx; exact ⟨j, a, by omega, c⟩
theorem FA.same {k : Nat → Int} {i : Nat} {G G' : List Fr} {f : Fr} (h : FA k i G f) (hg : bs G = bs G') : FA k i G' f where
  op := h.op.trans hg
  la := by rw [← hg]; exact h.la
  st x hx := by rw [← hg]; exact h.st x hx
theorem nst_start (k : Nat → Int) (o : Nat → Int) : Nst k 0 [] o := ⟨rfl, fun G f H h => by simp at h, by simp, by omega⟩
/-- A line that neither opens nor ends. -/
theorem nst_next {k : Nat → Int} {i : Nat} {F : List Fr} {o : Nat → Int} (h : Nst k i F o) (hk : k i = 0 ∨ k i = 1) : Nst k (i + 1) F o where
  frs := by
    rw [frs, if_neg (by omega), if_neg (by omega)]; exact h.frs
  at_ G f H e := (h.at_ G f H e).mono (by omega)
  lt f hf := by have := h.lt f hf; omega
  all j hj := by
    by_cases e : j = i
    · subst e
      exact .inl ⟨by omega, by omega, by omega, by omega, by omega⟩
    · rcases h.all j (by omega) with g | g
      · exact .inl (g.mono (by omega) rfl fun _ _ _ => rfl)
      · exact .inr g
theorem snoc_cases {α : Type} {F G H : List α} {x y : α} (h : F ++ [x] = G ++ y :: H) : (H = [] ∧ F = G ∧ x = y) ∨ ∃ H', H = H' ++ [x] ∧ F = G ++ y :: H' := by
  rcases List.eq_nil_or_concat H with rfl | ⟨H', z, rfl⟩
  · obtain ⟨a, b⟩ := List.append_inj' h rfl
    exact .inl ⟨rfl, a, by simpa using b⟩
  · rw [List.concat_eq_append, ← List.cons_append, ← List.append_assoc] at h
    obtain ⟨a, b⟩ := List.append_inj' h rfl
    refine .inr ⟨H', ?_, a⟩
    rw [List.concat_eq_append]
    simp at b
    rw [b]
theorem nst_push {k : Nat → Int} {i : Nat} {F : List Fr} {o : Nat → Int} (h : Nst k i F o) (hk : k i = 2 ∨ k i = 5) : Nst k (i + 1) (F ++ [⟨i, i, []⟩]) o where
  frs := by rw [frs, if_pos hk, bs_snoc, h.frs]
  at_ G f H e := by
    rcases snoc_cases e with ⟨rfl, rfl, rfl⟩ | ⟨H', rfl, e'⟩
    · exact ⟨h.frs, .inl rfl, fun x hx => by cases hx⟩
    · exact (h.at_ G f H' e').mono (by omega)
  lt f hf := by
    rcases List.mem_append.1 hf with hf | hf
    · have := h.lt f hf; omega
    · rw [List.mem_singleton.1 hf]
      exact ⟨Nat.le_refl _, Nat.lt_succ_self _, hk⟩
  all j hj := by
    by_cases e : j = i
    · exact .inr ⟨⟨i, i, []⟩, by simp, .inl e⟩
    · rcases h.all j (by omega) with g | ⟨f, hf, g⟩
      · exact .inl (g.mono (by omega) rfl fun _ _ _ => rfl)
      · exact .inr ⟨f, List.mem_append_left _ hf, g⟩
theorem nst_else {k : Nat → Int} {i : Nat} {G : List Fr} {f : Fr} {o o' : Nat → Int} (h : Nst k i (G ++ [f]) o) (h3 : k i = 3) (hf : f.l = f.b) (h2 : k f.b = 2) (ho : ∀ j, o' j = if j = f.b then (i : Int) else o j) :
    Nst k (i + 1) (G ++ [⟨f.b, i, f.s⟩]) o' := by
  have hA := h.at_ G f [] rfl
  have hl := h.lt f (by simp)
  have hfr := h.frs
  rw [bs_snoc] at hfr
  refine ⟨?_, ?_, ?_, ?_⟩
  · rw [frs, if_neg (by omega), if_neg (by omega), bs_snoc, hfr]
  · intro G' g H e
    rcases snoc_cases e with ⟨rfl, rfl, rfl⟩ | ⟨H', rfl, e'⟩
    · exact ⟨hA.op, .inr ⟨h3, h2, hfr⟩, (hA.mono (Nat.le_succ i)).st⟩
    · exact (h.at_ G' g (H' ++ [f]) (by rw [e']; simp)).mono (by omega)
  · intro g hg
    rcases List.mem_append.1 hg with hg | hg
    · have := h.lt g (List.mem_append_left _ hg); omega
    · rw [List.mem_singleton.1 hg]
      exact ⟨by show f.b ≤ i; omega, Nat.lt_succ_self _, .inl h2⟩
  · intro j hj
    have hmono : PA k o i j → j ≠ f.b → PA k o' (i + 1) j := fun g e => g.mono (by omega) (by rw [ho, if_neg e]) fun t ht h4 => by rw [ho, if_neg (by intro e; subst e; omega)]
    by_cases e : j = f.b
    · subst e
      refine .inl ⟨fun _ => ⟨i, by rw [ho, if_pos rfl], by omega, by omega, .inl h3, by rw [hfr, hA.op]⟩, by omega, by omega, by omega, by omega⟩
    by_cases e' : j = i
    · exact .inr ⟨_, List.mem_append_right _ (List.mem_singleton.2 rfl), .inl e'⟩
    rcases h.all j (by omega) with g | ⟨g, hg, h1⟩
    · exact .inl (hmono g e)
    · rcases List.mem_append.1 hg with hg | hg
      · exact .inr ⟨g, List.mem_append_left _ hg, h1⟩
      · rw [List.mem_singleton.1 hg] at h1
        rcases h1 with h1 | h1
        · omega
        · exact .inr ⟨_, List.mem_append_right _ (List.mem_singleton.2 rfl), .inr h1⟩
theorem bs_mid (G H : List Fr) (f f' : Fr) (h : f.b = f'.b) : bs (G ++ f :: H) = bs (G ++ f' :: H) := by simp [bs, h]
theorem mid_cases {α : Type} {G H G' H' : List α} {x y : α} (h : G ++ x :: H = G' ++ y :: H') : (G = G' ∧ x = y ∧ H = H') ∨ (∃ M, G = G' ++ y :: M ∧ H' = M ++ x :: H) ∨ ∃ M, G' = G ++ x :: M ∧ H = M ++ y :: H' := by
  rcases List.append_eq_append_iff.1 h with ⟨M, e1, e2⟩ | ⟨M, e1, e2⟩
  · cases M with
    | nil => simp at e1 e2; exact .inl ⟨e1.symm, e2.1, e2.2⟩
    | cons z M => simp at e2; obtain ⟨rfl, e2⟩ := e2; exact .inr (.inr ⟨M, e1, e2⟩)
  · cases M with
    | nil => simp at e1 e2; exact .inl ⟨e1, e2.1.symm, e2.2.symm⟩
    | cons z M => simp at e2; obtain ⟨rfl, e2⟩ := e2; exact .inr (.inl ⟨M, e1, e2⟩)
theorem nst_stop {k : Nat → Int} {i : Nat} {G H : List Fr} {f : Fr} {o : Nat → Int} (h : Nst k i (G ++ f :: H) o) (h6 : k i = 6) (h5 : k f.b = 5) (hH : ∀ x ∈ H, k x.b ≠ 5) :
    Nst k (i + 1) (G ++ ⟨f.b, f.l, f.s ++ [(i : Int)]⟩ :: H) o := by
  have hA := h.at_ G f H rfl
  have hl := h.lt f (by simp)
  have hb : bs (G ++ ⟨f.b, f.l, f.s ++ [(i : Int)]⟩ :: H) = bs (G ++ f :: H) := bs_mid _ _ _ _ rfl
  refine ⟨?_, ?_, ?_, ?_⟩
  · rw [frs, if_neg (by omega), if_neg (by omega), hb]; exact h.frs
  · intro G' g H' e
    rcases mid_cases e with ⟨rfl, rfl, rfl⟩ | ⟨M, rfl, rfl⟩ | ⟨M, rfl, rfl⟩
    · refine ⟨hA.op, hA.la, fun x hx => ?_⟩
      rcases List.mem_append.1 hx with hx | hx
      · exact (hA.mono (Nat.le_succ i)).st x hx
      · rw [List.mem_singleton.1 hx]
        refine ⟨i, rfl, by omega, by show f.b < i; omega, h6, h5, bs H, ?_, ?_⟩
        · rw [h.frs]; simp [bs]
        · intro y hy
          obtain ⟨x, hx, rfl⟩ := List.mem_map.1 hy
          have := h.lt x (by simp [hx])
          have := hH x hx
          omega
    · exact (h.at_ G' g (M ++ f :: H) (by simp)).mono (by omega)
    · exact ((h.at_ (G ++ f :: M) g H' (by simp)).mono (Nat.le_succ i)).same (bs_mid _ _ _ _ rfl)
  · intro g hg
    have hh : ∀ g ∈ G ++ f :: H, g.b ≤ g.l ∧ g.l < i + 1 ∧ (k g.b = 2 ∨ k g.b = 5) := fun g hg => by have := h.lt g hg; omega
    rcases List.mem_append.1 hg with hg | hg
    · exact hh g (by simp [hg])
    · rcases List.mem_cons.1 hg with rfl | hg
      · exact hh f (by simp)
      · exact hh g (by simp [hg])
  · intro j hj
    by_cases e' : j = i
    · exact .inr ⟨⟨f.b, f.l, f.s ++ [(i : Int)]⟩, by simp, .inr (by simp [e'])⟩
    rcases h.all j (by omega) with g | ⟨g, hg, h1⟩
    · exact .inl (g.mono (by omega) rfl fun _ _ _ => rfl)
    · rcases List.mem_append.1 hg with hg | hg
      · exact .inr ⟨g, by simp [hg], h1⟩
      · rcases List.mem_cons.1 hg with rfl | hg
        · refine .inr ⟨⟨g.b, g.l, g.s ++ [(i : Int)]⟩, by simp, ?_⟩
          rcases h1 with h1 | h1
          · exact .inl h1
          · exact .inr (by simp [h1])
        · exact .inr ⟨g, by simp [hg], h1⟩
theorem nst_end {k : Nat → Int} {i : Nat} {G : List Fr} {f : Fr} {o o' : Nat → Int} (h : Nst k i (G ++ [f]) o) (h4 : k i = 4) (ho : ∀ j, o' j = if (j : Int) ∈ f.s then (i : Int) else if j = i then (f.b : Int) else if j = f.l then (i : Int) else o j) :
    Nst k (i + 1) G o' := by
  have hA := h.at_ G f [] rfl
  have hl := h.lt f (by simp)
  have hfr := h.frs
  rw [bs_snoc] at hfr
  have hs : ∀ j : Nat, (j : Int) ∈ f.s → j < i ∧ f.b < j ∧ k j = 6 ∧ k f.b = 5 ∧ ∃ ys, frs k j = bs G ++ [f.b] ++ ys ∧ ∀ y ∈ ys, k y = 2 := by
    intro j hj
    obtain ⟨j', e, hh⟩ := hA.st _ hj
    obtain rfl : j = j' := by omega
    exact hh
  have hoi : o' i = (f.b : Int) := by rw [ho, if_neg (fun hh => by have := hs i hh; omega), if_pos rfl]
  refine ⟨?_, ?_, ?_, ?_⟩
  · rw [frs, if_neg (by omega), if_pos h4, hfr, List.dropLast_concat]
  · intro G' g H' e
    exact (h.at_ G' g (H' ++ [f]) (by rw [e]; simp)).mono (by omega)
  · intro g hg
    have := h.lt g (List.mem_append_left _ hg)
    omega
  · intro j hj
    by_cases e1 : (j : Int) ∈ f.s
    · obtain ⟨a, b, c, d, ys, e, g⟩ := hs j e1
      refine .inl ⟨by omega, by omega, by omega, by omega, fun _ => ⟨i, f.b, ys, by rw [ho, if_pos e1], a, by omega, h4, d, b, hoi, by rw [hfr, hA.op], by rw [e, hA.op], g⟩⟩
    by_cases e2 : j = i
    · subst e2
      exact .inl ⟨by omega, by omega, by omega, fun _ => ⟨f.b, hoi, by omega, hl.2.2, by rw [hfr, hA.op]⟩, by omega⟩
    by_cases e3 : j = f.l
    · subst e3
      have hoj : o' f.l = (i : Int) := by rw [ho, if_neg e1, if_neg e2, if_pos rfl]
      rcases hA.la with e4 | ⟨e4, e5, e6⟩
      · rw [e4] at hoj ⊢
        rcases hl.2.2 with e5 | e5
        · exact .inl ⟨fun _ => ⟨i, hoj, by omega, by omega, .inr h4, by rw [hfr, hA.op]⟩, by omega, by omega, by omega, by omega⟩
        · exact .inl ⟨by omega, by omega, fun _ => ⟨i, hoj, by omega, by omega, h4, by rw [hfr, hA.op]⟩, by omega, by omega⟩
      · exact .inl ⟨by omega, fun _ => ⟨i, f.b, hoj, by omega, by omega, h4, e5, by rw [hfr, hA.op], by rw [e6, hA.op]⟩, by omega, by omega, by omega⟩
    rcases h.all j (by omega) with g | ⟨g, hg, h1⟩
    · refine .inl (g.mono (by omega) (by rw [ho, if_neg e1, if_neg e2, if_neg e3]) fun t ht h4' => ?_)
      rw [ho, if_neg (fun hh => by have := hs t hh; omega), if_neg (by omega), if_neg]
      rintro rfl
      rcases hA.la with e4 | e4
      · rw [e4] at h4'; omega
      · omega
    · rcases List.mem_append.1 hg with hg | hg
      · exact .inr ⟨g, hg, h1⟩
      · rw [List.mem_singleton.1 hg] at h1
        rcases h1 with h1 | h1
        · exact absurd h1 e3
        · exact absurd h1 e1
/-- Code that is whole: what belongs to each line is known. -/
theorem nst_whole {k : Nat → Int} {n : Nat} {o : Nat → Int} (h : Nst k n [] o) : frs k n = [] ∧ ∀ j, j < n → PA k o n j :=
  ⟨h.frs, fun j hj => by
    rcases h.all j hj with g | ⟨f, hf, _⟩
    · exact g
    · cases hf⟩
/-- The loops that are open ahead of a place. -/
def lo (k : Nat → Int) (i : Nat) : List Nat := (frs k i).filter fun j => k j == 5
theorem lo_of {k : Nat → Int} {i : Nat} {xs : List Nat} {b : Nat} (h : frs k i = xs ++ [b]) : lo k i = xs.filter (fun j => k j == 5) ++ if k b = 5 then [b] else [] := by
  unfold lo
  rw [h, List.filter_append]
  by_cases e : k b = 5 <;> simp [e]
theorem lo_skip {k : Nat → Int} {i : Nat} (h : k i = 0 ∨ k i = 1 ∨ k i = 2 ∨ k i = 3 ∨ k i = 6) : lo k (i + 1) = lo k i := by
  unfold lo
  rw [frs]
  by_cases h2 : k i = 2
  · rw [if_pos (.inl h2), List.filter_append]; simp [h2]
  · rw [if_neg (by omega), if_neg (by omega)]
theorem lo_loop {k : Nat → Int} {i : Nat} (h : k i = 5) : lo k (i + 1) = lo k i ++ [i] := by
  rw [lo_of (show frs k (i + 1) = frs k i ++ [i] by rw [frs, if_pos (.inr h)]), if_pos h]; rfl
theorem lo_end {k : Nat → Int} {t : Nat} {xs : List Nat} {b : Nat} (h : k t = 4) (hf : frs k t = xs ++ [b]) : lo k (t + 1) = xs.filter (fun j => k j == 5) := by
  unfold lo
  rw [frs, if_neg (by omega), if_pos h, hf, List.dropLast_concat]
theorem lo_if {k : Nat → Int} {t i : Nat} (h2 : k i = 2) (h : k t = 3 ∨ k t = 4) (hf : frs k t = frs k i ++ [i]) : lo k (t + 1) = lo k i := by
  rcases h with h | h
  · rw [lo_skip (by omega), lo_of hf, if_neg (by omega), List.append_nil]; rfl
  · rw [lo_end h hf]; rfl
theorem lo_else {k : Nat → Int} {t i b : Nat} (h2 : k b = 2) (h : k t = 4) (hf : frs k t = frs k b ++ [b]) (hi : frs k i = frs k b ++ [b]) : lo k (t + 1) = lo k i := by
  rw [lo_end h hf, lo_of hi, if_neg (by omega), List.append_nil]
theorem lo_stop {k : Nat → Int} {t i b : Nat} {ys : List Nat} (h5 : k b = 5) (h : k t = 4) (hf : frs k t = frs k b ++ [b]) (hi : frs k i = frs k b ++ [b] ++ ys) (hy : ∀ y ∈ ys, k y = 2) : lo k i = lo k (t + 1) ++ [b] := by
  rw [lo_end h hf]
  unfold lo
  rw [hi, List.filter_append, List.filter_append]
  have : ys.filter (fun j => k j == 5) = [] := by
    rw [List.filter_eq_nil_iff]
    intro y hh
    have := hy y hh
    simp; omega
  rw [this]
  simp [h5]
theorem lo_done {k : Nat → Int} {i b : Nat} (h : k i = 4) (hf : frs k i = frs k b ++ [b]) (h2 : k b = 2) : lo k (i + 1) = lo k i := by
  rw [lo_end h hf, lo_of hf, if_neg (by omega), List.append_nil]
theorem lo_back {k : Nat → Int} {i b : Nat} (h : k i = 4) (hf : frs k i = frs k b ++ [b]) (h5 : k b = 5) : lo k i = lo k (i + 1) ++ [b] ∧ lo k (b + 1) = lo k i := by
  rw [lo_end h hf, lo_of hf, if_pos h5, lo_loop h5]
  exact ⟨rfl, rfl⟩
theorem lo_len {k : Nat → Int} {i : Nat} (h : (frs k i).length ≤ 4) : (lo k i).length ≤ 4 := Nat.le_trans (List.length_filter_le _ _) h
end Go.Proofs.Ytheemkehedmlfaa.P
