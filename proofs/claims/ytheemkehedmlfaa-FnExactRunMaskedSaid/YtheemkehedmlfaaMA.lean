import Derived.Test.YtheemkehedmlfaaPA
import Derived.Test.YtheemkehedmlfaaPB
set_option autoImplicit false
set_option linter.unusedVariables false
set_option linter.unusedSimpArgs false
namespace Go.Proofs.Ytheemkehedmlfaa.P
def tab {α : Type} (n : Nat) (f : Nat → α) : List α := (List.range n).map f
def gb (l : List Bool) (x : Nat) : Bool := l.getD x false
def gi (l : List Int) (x : Nat) : Int := l.getD x 0
theorem tab_len {α : Type} (n : Nat) (f : Nat → α) : (tab n f).length = n := by simp [tab]
theorem tab_at {α : Type} {n : Nat} {f : Nat → α} {x : Nat} (d : α) (h : x < n) : (tab n f).getD x d = f x := by
  simp [tab, List.getD_eq_getElem?_getD, h]
theorem tab_out {α : Type} {n : Nat} {f : Nat → α} {x : Nat} (d : α) (h : n ≤ x) : (tab n f).getD x d = d := by
  simp [tab, List.getD_eq_getElem?_getD, h]
theorem gb_tab {n : Nat} {f : Nat → Bool} {x : Nat} : gb (tab n f) x = true ↔ x < n ∧ f x = true := by
  unfold gb
  by_cases h : x < n
  · rw [tab_at _ h]; simp [h]
  · rw [tab_out _ (by omega)]; simp [h]
theorem gb_tabf {n : Nat} {f : Nat → Bool} {x : Nat} : gb (tab n f) x = false ↔ (x < n → f x = false) := by
  have := gb_tab (n := n) (f := f) (x := x)
  cases h1 : gb (tab n f) x <;> cases h2 : f x <;> simp_all
theorem gi_tab {n : Nat} {f : Nat → Int} {x : Nat} (h : x < n) : gi (tab n f) x = f x := tab_at _ h
theorem gi_out {n : Nat} {f : Nat → Int} {x : Nat} (h : n ≤ x) : gi (tab n f) x = 0 := tab_out _ h
theorem tab_congr {α : Type} {n : Nat} {f g : Nat → α} (h : ∀ x, x < n → f x = g x) : tab n f = tab n g := by
  unfold tab
  exact List.map_congr_left fun x hx => h x (List.mem_range.1 hx)
theorem tab_self {α : Type} {n : Nat} {l : List α} (d : α) (h : l.length = n) : tab n (fun x => l.getD x d) = l := by
  apply List.ext_getElem?
  intro x
  by_cases hx : x < n
  · simp [tab, hx, List.getD_eq_getElem?_getD, List.getElem?_eq_getElem (show x < l.length by omega)]
  · rw [List.getElem?_eq_none (by rw [tab_len]; omega), List.getElem?_eq_none (by omega)]
theorem gb_lt {n : Nat} {l : List Bool} {x : Nat} (h : l.length = n) (hx : gb l x = true) : x < n := by
  rcases Nat.lt_or_ge x l.length with g | g
  · omega
  · unfold gb at hx
    rw [List.getD_eq_getElem?_getD, List.getElem?_eq_none g] at hx
    cases hx
theorem frs_keep (k : Nat → Int) {p : Nat} : ∀ (i j : Nat), p ∈ frs k i → p < j → j ≤ i → p ∈ frs k j
  | 0, j, h, h1, h2 => by cases h
  | i + 1, j, h, h1, h2 => by
    by_cases hj : j = i + 1
    · rw [hj]; exact h
    · refine frs_keep k i j ?_ h1 (by omega)
      rw [frs] at h
      split at h
      · rcases List.mem_append.1 h with h | h
        · exact h
        · rw [List.mem_singleton.1 h] at h1; omega
      · split at h
        · exact List.dropLast_subset _ h
        · exact h
theorem frs_asc (k : Nat → Int) : ∀ i : Nat, (frs k i).Pairwise (· < ·)
  | 0 => List.Pairwise.nil
  | i + 1 => by
    rw [frs]
    split
    · rw [List.pairwise_append]
      exact ⟨frs_asc k i, List.pairwise_singleton _ _, fun a ha b hb => by rw [List.mem_singleton.1 hb]; exact frs_lt0 k i a ha⟩
    · split
      · exact (frs_asc k i).sublist (List.dropLast_sublist _)
      · exact frs_asc k i
structure Fm where
  p : Nat
  bf : List Bool
  hd : List Bool
  st : List Bool
  r : Nat
def NE (k : Nat → Int) (p i : Nat) : Prop := ∀ j, p < j → j < i → k j = 3 → frs k j ≠ frs k p ++ [p]
def live (on : List Bool) : List Fm → Nat → Bool
  | [], x => gb on x
  | g :: _, x => gb g.bf x
structure MR (k ct : Nat → Int) (n i : Nat) (Fs : List Fm) (on : List Bool) (st : List Int) : Prop where
  fst : Fs.map Fm.p = frs k i
  lon : on.length = n
  lst : st.length = n
  lb : ∀ f ∈ Fs, f.bf.length = n
  ls : ∀ f ∈ Fs, k f.p = 5 → f.st.length = n ∧ 1 ≤ f.r ∧ (f.r : Int) ≤ ct f.p
  kp : ∀ f ∈ Fs, k f.p = 2 ∨ k f.p = 5
  on0 : ∀ x, gb on x = true → gi st x = 0
  onb : ∀ f ∈ Fs, ∀ x, gb on x = true → gb f.bf x = true
  ch : ∀ G f H, Fs = G ++ f :: H → ∀ g ∈ H, ∀ x, gb g.bf x = true → gb f.bf x = true
  s0 : ∀ x, gi st x ≠ 0 → ∃ f ∈ Fs, k f.p = 5 ∧ gi st x = f.p + 1 ∧ gb f.bf x = true
  sl : ∀ G f H, Fs = G ++ f :: H → ∀ x, gi st x = f.p + 1 → ∀ g ∈ H, k g.p = 5 → gb g.bf x = false
  sp : ∀ f ∈ Fs, k f.p = 5 → ∀ x, gb f.st x = true ↔ gi st x = f.p + 1
  hl : ∀ G f H, Fs = G ++ f :: H → k f.p = 2 → NE k f.p i → ∀ x, (gb f.bf x = true → gb f.hd x = false → gi st x = 0 ∧ live on H x = false) ∧ (gb f.hd x = true → gb f.bf x = true ∧ (live on H x = true ∨ gi st x ≠ 0))
theorem NE.mono {k : Nat → Int} {p i i' : Nat} (h : NE k p i') (hi : i ≤ i') : NE k p i := fun j h1 h2 => h j h1 (by omega)
section
variable {k ct : Nat → Int} {n i i' : Nat} {Fs : List Fm} {on : List Bool} {st : List Int}
theorem MR.asc (h : MR k ct n i Fs on st) : (Fs.map Fm.p).Pairwise (· < ·) := by rw [h.fst]; exact frs_asc k i
theorem MR.lt (h : MR k ct n i Fs on st) : ∀ f ∈ Fs, f.p < i := fun f hf => frs_lt0 k i f.p (by rw [← h.fst]; exact List.mem_map_of_mem hf)
theorem MR.before (h : MR k ct n i Fs on st) {G H : List Fm} {f : Fm} (e : Fs = G ++ f :: H) : (∀ g ∈ G, g.p < f.p) ∧ ∀ g ∈ H, f.p < g.p := by
  have := h.asc
  rw [e, List.map_append, List.map_cons, List.pairwise_append, List.pairwise_cons] at this
  exact ⟨fun g hg => this.2.2 _ (List.mem_map_of_mem hg) _ List.mem_cons_self, fun g hg => this.2.1.1 _ (List.mem_map_of_mem hg)⟩
theorem MR.same (h : MR k ct n i Fs on st) {f g : Fm} (hf : f ∈ Fs) (hg : g ∈ Fs) (e : f.p = g.p) : f = g := by
  obtain ⟨G, H, rfl⟩ := List.append_of_mem hf
  obtain ⟨h1, h2⟩ := h.before rfl
  rcases List.mem_append.1 hg with hg | hg
  · have := h1 g hg; omega
  · rcases List.mem_cons.1 hg with rfl | hg
    · rfl
    · have := h2 g hg; omega
theorem MR.go (h : MR k ct n i Fs on st) (hi : i ≤ i') (hf : frs k i' = frs k i) : MR k ct n i' Fs on st :=
  { h with fst := by rw [hf]; exact h.fst, hl := fun G f H e h2 hne => h.hl G f H e h2 (hne.mono hi) }
theorem mr_if (h : MR k ct n i Fs on st) (hk : k i = 2) (hi : i < i') (hf : frs k i' = frs k i ++ [i]) (T : Nat → Bool) :
    MR k ct n i' (Fs ++ [⟨i, on, tab n fun x => gb on x && T x, [], 0⟩]) (tab n fun x => gb on x && T x) st := by
  refine ⟨?_, tab_len _ _, h.lst, ?_, ?_, ?_, ?_, ?_, ?_, ?_, ?_, ?_, ?_⟩
  · rw [List.map_append, h.fst, hf]; rfl
  · intro f hm
    rcases List.mem_append.1 hm with hm | hm
    · exact h.lb f hm
    · rw [List.mem_singleton.1 hm]; exact h.lon
  · intro f hm h5
    rcases List.mem_append.1 hm with hm | hm
    · exact h.ls f hm h5
    · rw [List.mem_singleton.1 hm] at h5
      simp only at h5; omega
  · intro f hm
    rcases List.mem_append.1 hm with hm | hm
    · exact h.kp f hm
    · rw [List.mem_singleton.1 hm]; exact .inl hk
  · intro x hx
    rw [gb_tab, Bool.and_eq_true] at hx
    exact h.on0 x hx.2.1
  · intro f hm x hx
    rw [gb_tab, Bool.and_eq_true] at hx
    rcases List.mem_append.1 hm with hm | hm
    · exact h.onb f hm x hx.2.1
    · rw [List.mem_singleton.1 hm]; exact hx.2.1
  · intro G f H e g hg x hx
    rcases snoc_cases e with ⟨rfl, rfl, rfl⟩ | ⟨H', rfl, e'⟩
    · cases hg
    · rcases List.mem_append.1 hg with hg | hg
      · exact h.ch G f H' e' g hg x hx
      · rw [List.mem_singleton.1 hg] at hx
        exact h.onb f (by rw [e']; simp) x hx
  · intro x hx
    obtain ⟨f, h1, h2⟩ := h.s0 x hx
    exact ⟨f, List.mem_append_left _ h1, h2⟩
  · intro G f H e x hx g hg h5
    rcases snoc_cases e with ⟨rfl, rfl, rfl⟩ | ⟨H', rfl, e'⟩
    · cases hg
    · rcases List.mem_append.1 hg with hg | hg
      · exact h.sl G f H' e' x hx g hg h5
      · rw [List.mem_singleton.1 hg] at h5
        simp only at h5; omega
  · intro f hm h5 x
    rcases List.mem_append.1 hm with hm | hm
    · exact h.sp f hm h5 x
    · rw [List.mem_singleton.1 hm] at h5
      simp only at h5; omega
  · intro G f H e h2 hne x
    rcases snoc_cases e with ⟨rfl, rfl, rfl⟩ | ⟨H', rfl, e'⟩
    · simp only [live]
      refine ⟨fun hb hh => ⟨h.on0 x hb, hh⟩, fun hh => ?_⟩
      rw [gb_tab, Bool.and_eq_true] at hh
      exact ⟨hh.2.1, .inl (gb_tab.2 ⟨hh.1, by rw [hh.2.1, hh.2.2]; rfl⟩)⟩
    · have := h.hl G f H' e' h2 (hne.mono (by omega)) x
      cases H' with
      | nil => exact this
      | cons g H' => exact this
theorem mr_else {G : List Fm} {f : Fm} {m : Nat} (h : MR k ct n i (G ++ [f]) on st) (h3 : k i = 3) (h2 : k f.p = 2) (hu : EU k m) (him : i < m) (hfp : frs k i = frs k f.p ++ [f.p]) (hi : i < i') (hf : frs k i' = frs k i) :
    MR k ct n i' (G ++ [f]) (tab n fun x => gb f.bf x && !gb f.hd x) st ∧ tab n (fun x => gb f.bf x && decide (gi st x = 0) && !gb on x) = tab n fun x => gb f.bf x && !gb f.hd x := by
  have hfi : f.p < i := h.lt f (by simp)
  have hne : NE k f.p i := fun j h1 h4 h5 e => by
    have := hu i f.p him h3 hfp j (by omega) h5 e
    omega
  have hh := h.hl G f [] rfl h2 hne
  simp only [live] at hh
  have key : ∀ x, gb f.bf x = true → gb f.hd x = false → gi st x = 0 ∧ gb on x = false := fun x => (hh x).1
  have key2 : ∀ x, gb f.hd x = true → gb on x = true ∨ gi st x ≠ 0 := fun x hx => ((hh x).2 hx).2
  refine ⟨⟨?_, tab_len _ _, h.lst, h.lb, h.ls, h.kp, ?_, ?_, h.ch, h.s0, h.sl, h.sp, ?_⟩, ?_⟩
  · rw [hf]; exact h.fst
  · intro x hx
    rw [gb_tab, Bool.and_eq_true, Bool.not_eq_true'] at hx
    exact (key x hx.2.1 hx.2.2).1
  · intro g hg x hx
    rw [gb_tab, Bool.and_eq_true, Bool.not_eq_true'] at hx
    rcases List.mem_append.1 hg with hg | hg
    · obtain ⟨A, B, rfl⟩ := List.append_of_mem hg
      exact h.ch A g (B ++ [f]) (by simp) f (by simp) x hx.2.1
    · rw [List.mem_singleton.1 hg]; exact hx.2.1
  · intro G' g H e h2' hne' x
    rcases snoc_cases e with ⟨rfl, rfl, rfl⟩ | ⟨H', rfl, e'⟩
    · exact absurd hfp (hne' i hfi hi h3)
    · have := h.hl G' g (H' ++ [f]) (by rw [e']; simp) h2' (hne'.mono (by omega)) x
      cases H' with
      | nil => exact this
      | cons g H' => exact this
  · refine tab_congr fun x hx => ?_
    cases hb : gb f.bf x with
    | false => rfl
    | true =>
      cases hd : gb f.hd x with
      | false =>
        obtain ⟨h4, h5⟩ := key x hb hd
        simp [h4, h5]
      | true =>
        rcases key2 x hd with h4 | h4
        · simp [h4]
        · simp [h4]
theorem mr_loop (h : MR k ct n i Fs on st) (hk : k i = 5) (hc : 1 ≤ ct i) (hf : frs k (i + 1) = frs k i ++ [i]) : MR k ct n (i + 1) (Fs ++ [⟨i, on, [], List.replicate n false, 1⟩]) on st := by
  have hst : ∀ x, gi st x ≠ (i : Int) + 1 := by
    intro x e
    obtain ⟨f, h1, _, h2, _⟩ := h.s0 x (by omega)
    have := h.lt f h1
    omega
  refine ⟨?_, h.lon, h.lst, ?_, ?_, ?_, h.on0, ?_, ?_, ?_, ?_, ?_, ?_⟩
  · rw [List.map_append, h.fst, hf]; rfl
  · intro f hm
    rcases List.mem_append.1 hm with hm | hm
    · exact h.lb f hm
    · rw [List.mem_singleton.1 hm]; exact h.lon
  · intro f hm h5
    rcases List.mem_append.1 hm with hm | hm
    · exact h.ls f hm h5
    · rw [List.mem_singleton.1 hm]
      exact ⟨by simp, Nat.le_refl _, hc⟩
  · intro f hm
    rcases List.mem_append.1 hm with hm | hm
    · exact h.kp f hm
    · rw [List.mem_singleton.1 hm]; exact .inr hk
  · intro f hm x hx
    rcases List.mem_append.1 hm with hm | hm
    · exact h.onb f hm x hx
    · rw [List.mem_singleton.1 hm]; exact hx
  · intro G f H e g hg x hx
    rcases snoc_cases e with ⟨rfl, rfl, rfl⟩ | ⟨H', rfl, e'⟩
    · cases hg
    · rcases List.mem_append.1 hg with hg | hg
      · exact h.ch G f H' e' g hg x hx
      · rw [List.mem_singleton.1 hg] at hx
        exact h.onb f (by rw [e']; simp) x hx
  · intro x hx
    obtain ⟨f, h1, h2⟩ := h.s0 x hx
    exact ⟨f, List.mem_append_left _ h1, h2⟩
  · intro G f H e x hx g hg h5
    rcases snoc_cases e with ⟨rfl, rfl, rfl⟩ | ⟨H', rfl, e'⟩
    · cases hg
    · rcases List.mem_append.1 hg with hg | hg
      · exact h.sl G f H' e' x hx g hg h5
      · rw [List.mem_singleton.1 hg]
        cases hb : gb on x with
        | false => rfl
        | true =>
          have := h.on0 x hb
          omega
  · intro f hm h5 x
    rcases List.mem_append.1 hm with hm | hm
    · exact h.sp f hm h5 x
    · rw [List.mem_singleton.1 hm]
      have : gb (List.replicate n false) x = false := by
        unfold gb
        rw [List.getD_eq_getElem?_getD, List.getElem?_replicate]
        split <;> rfl
      simp only [this, Bool.false_eq_true, false_iff]
      exact hst x
  · intro G f H e h2 hne x
    rcases snoc_cases e with ⟨rfl, rfl, rfl⟩ | ⟨H', rfl, e'⟩
    · simp only at h2; omega
    · have := h.hl G f H' e' h2 (hne.mono (by omega)) x
      cases H' with
      | nil => exact this
      | cons g H' => exact this
theorem mr_stop {G H : List Fm} {f : Fm} (h : MR k ct n i (G ++ f :: H) on st) (h6 : k i = 6) (h5 : k f.p = 5) (hH : ∀ g ∈ H, k g.p ≠ 5) (T : Nat → Bool) :
    MR k ct n (i + 1) (G ++ ⟨f.p, f.bf, f.hd, tab n fun x => gb f.st x || (gb on x && T x), f.r⟩ :: H) (tab n fun x => gb on x && !(gb on x && T x)) (tab n fun x => if gb on x && T x then (f.p : Int) + 1 else gi st x) := by
  have hmem : f ∈ G ++ f :: H := by simp
  have hout : ∀ x, n ≤ x → gi st x = 0 := fun x hx => by
    unfold gi
    rw [List.getD_eq_getElem?_getD, List.getElem?_eq_none (by rw [h.lst]; exact hx)]; rfl
  have hgi : ∀ x, gi (tab n fun x => if gb on x && T x then (f.p : Int) + 1 else gi st x) x = if gb on x && T x then (f.p : Int) + 1 else gi st x := by
    intro x
    by_cases hx : x < n
    · rw [gi_tab hx]
    · rw [gi_out (by omega), if_neg, hout x (by omega)]
      intro hc
      rw [Bool.and_eq_true] at hc
      have := gb_lt h.lon hc.1
      omega
  have hon : ∀ x, gb (tab n fun x => gb on x && !(gb on x && T x)) x = true → gb on x = true ∧ (gb on x && T x) = false := fun x hx => by
    rw [gb_tab, Bool.and_eq_true, Bool.not_eq_true'] at hx
    exact hx.2
  let f' : Fm := ⟨f.p, f.bf, f.hd, tab n fun x => gb f.st x || (gb on x && T x), f.r⟩
  have hb : ∀ g, g ∈ G ++ f' :: H → ∃ g0, g0 ∈ G ++ f :: H ∧ g0.p = g.p ∧ g0.bf = g.bf ∧ g0.hd = g.hd ∧ g0.r = g.r ∧ (g.p ≠ f.p → g0.st = g.st) ∧ (g.p = f.p → g = f') := by
    intro g hg
    have hdis : ∀ g, g ∈ G ++ f :: H → g ≠ f → g.p ≠ f.p := fun g hg hne e => hne (h.same hg hmem e)
    rcases List.mem_append.1 hg with hg | hg
    · refine ⟨g, by simp [hg], rfl, rfl, rfl, rfl, fun _ => rfl, fun e => ?_⟩
      have := (h.before rfl).1 g hg; omega
    · rcases List.mem_cons.1 hg with rfl | hg
      · exact ⟨f, hmem, rfl, rfl, rfl, rfl, fun e => absurd rfl e, fun _ => rfl⟩
      · refine ⟨g, by simp [hg], rfl, rfl, rfl, rfl, fun _ => rfl, fun e => ?_⟩
        have := (h.before rfl).2 g hg; omega
  have hb' : ∀ g, g ∈ G ++ f :: H → ∃ g1, g1 ∈ G ++ f' :: H ∧ g1.p = g.p ∧ g1.bf = g.bf := by
    intro g hg
    rcases List.mem_append.1 hg with hg | hg
    · exact ⟨g, by simp [hg], rfl, rfl⟩
    · rcases List.mem_cons.1 hg with rfl | hg
      · exact ⟨f', by simp, rfl, rfl⟩
      · exact ⟨g, by simp [hg], rfl, rfl⟩
  have hc : ∀ A g B, G ++ f' :: H = A ++ g :: B → ∃ A0 g0 B0, G ++ f :: H = A0 ++ g0 :: B0 ∧ g0.p = g.p ∧ g0.bf = g.bf ∧ g0.hd = g.hd ∧ (∀ b ∈ B, ∃ b0 ∈ B0, b0.p = b.p ∧ b0.bf = b.bf) ∧ (∀ x, live on B0 x = live on B x) ∧ (B = [] ↔ B0 = []) ∧ ∀ b c, B = b :: c → ∃ b0 c0, B0 = b0 :: c0 ∧ b0.bf = b.bf := by
    intro A g B e
    rcases mid_cases e with ⟨rfl, rfl, rfl⟩ | ⟨M, rfl, rfl⟩ | ⟨M, rfl, rfl⟩
    · exact ⟨G, f, H, rfl, rfl, rfl, rfl, fun b hb => ⟨b, hb, rfl, rfl⟩, fun _ => rfl, Iff.rfl, fun b c e => ⟨b, c, e, rfl⟩⟩
    · refine ⟨A, g, M ++ f :: H, by simp, rfl, rfl, rfl, fun b hb => ?_, fun x => ?_, by simp, fun b c e => ?_⟩
      · rcases List.mem_append.1 hb with hb | hb
        · exact ⟨b, by simp [hb], rfl, rfl⟩
        · rcases List.mem_cons.1 hb with rfl | hb
          · exact ⟨f, by simp, rfl, rfl⟩
          · exact ⟨b, by simp [hb], rfl, rfl⟩
      · cases M <;> rfl
      · cases M with
        | nil => simp at e; exact ⟨f, H, rfl, by rw [← e.1]⟩
        | cons m M => simp at e; exact ⟨m, M ++ f :: H, rfl, by rw [← e.1]⟩
    · exact ⟨G ++ f :: M, g, B, by simp, rfl, rfl, rfl, fun b hb => ⟨b, hb, rfl, rfl⟩, fun _ => rfl, Iff.rfl, fun b c e => ⟨b, c, e, rfl⟩⟩
  refine ⟨?_, tab_len _ _, tab_len _ _, ?_, ?_, ?_, ?_, ?_, ?_, ?_, ?_, ?_, ?_⟩
  · rw [frs, if_neg (by omega), if_neg (by omega), ← h.fst]; simp
  · intro g hg; obtain ⟨g0, h1, _, h2, _⟩ := hb g hg; rw [← h2]; exact h.lb g0 h1
  · intro g hg h5'
    obtain ⟨g0, h1, h2, _, _, h3, h4, h7⟩ := hb g hg
    obtain ⟨q1, q2, q3⟩ := h.ls g0 h1 (by rw [h2]; exact h5')
    rw [h3, h2] at q3
    rw [h3] at q2
    refine ⟨?_, q2, q3⟩
    by_cases e : g.p = f.p
    · rw [h7 e]; exact tab_len _ _
    · rw [← h4 e]; exact q1
  · intro g hg; obtain ⟨g0, h1, h2, _⟩ := hb g hg; rw [← h2]; exact h.kp g0 h1
  · intro x hx
    obtain ⟨h1, h2⟩ := hon x hx
    rw [hgi, h2]
    simp only [Bool.false_eq_true, if_false]
    exact h.on0 x h1
  · intro g hg x hx
    obtain ⟨g0, h1, _, h2, _⟩ := hb g hg
    rw [← h2]
    exact h.onb g0 h1 x (hon x hx).1
  · intro A g B e b hb x hx
    obtain ⟨A0, g0, B0, q1, _, q3, _, q4, _⟩ := hc A g B e
    obtain ⟨b0, r1, _, r2⟩ := q4 b hb
    rw [← q3]
    exact h.ch A0 g0 B0 q1 b0 r1 x (by rw [r2]; exact hx)
  · intro x hx
    rw [hgi] at hx ⊢
    cases hT : gb on x && T x with
    | true =>
      rw [Bool.and_eq_true] at hT
      refine ⟨f', List.mem_append_right _ List.mem_cons_self, h5, by simp [f'], h.onb f hmem x hT.1⟩
    | false =>
      rw [hT] at hx
      simp only [Bool.false_eq_true, if_false] at hx ⊢
      obtain ⟨g, q1, q2, q3, q4⟩ := h.s0 x hx
      obtain ⟨g1, r1, r2, r3⟩ := hb' g q1
      exact ⟨g1, r1, by rw [r2]; exact q2, by rw [r2]; exact q3, by rw [r3]; exact q4⟩
  · intro A g B e x hx b hbm hb5
    obtain ⟨A0, g0, B0, q1, q2, q3, _, q4, _⟩ := hc A g B e
    obtain ⟨b0, r1, r2, r3⟩ := q4 b hbm
    rw [hgi] at hx
    cases hT : gb on x && T x with
    | true =>
      exfalso
      rw [hT] at hx
      simp only [if_true] at hx
      have e1 : f.p = g.p := by omega
      have e2 : g0 = f := h.same (by rw [q1]; simp) hmem (by omega)
      subst e2
      have hb1 := (h.before q1).2 b0 r1
      have hb2 : b0 ∈ G ++ g0 :: H := by rw [q1]; simp [r1]
      rcases List.mem_append.1 hb2 with hb2 | hb2
      · have := (h.before rfl).1 b0 hb2; omega
      · rcases List.mem_cons.1 hb2 with rfl | hb2
        · omega
        · exact hH b0 hb2 (by rw [r2]; exact hb5)
    | false =>
      rw [hT] at hx
      simp only [Bool.false_eq_true, if_false] at hx
      rw [← r3]
      exact h.sl A0 g0 B0 q1 x (by rw [q2]; exact hx) b0 r1 (by rw [r2]; exact hb5)
  · intro g hg h5' x
    obtain ⟨g0, h1, h2, _, _, _, h4, h7⟩ := hb g hg
    rw [hgi]
    by_cases e : g.p = f.p
    · rw [h7 e]
      have := h.sp f hmem h5 x
      show gb (tab n fun x => gb f.st x || (gb on x && T x)) x = true ↔ _ = (f.p : Int) + 1
      cases hT : gb on x && T x with
      | true =>
        have hxn : x < n := by rw [Bool.and_eq_true] at hT; exact gb_lt h.lon hT.1
        simp [gb_tab, hxn, hT]
      | false =>
        simp only [Bool.false_eq_true, if_false]
        rw [← this, gb_tab]
        simp only [hT, Bool.or_false]
        exact ⟨fun q => q.2, fun q => ⟨gb_lt (h.ls f hmem h5).1 q, q⟩⟩
    · rw [← h4 e]
      have := h.sp g0 h1 (by rw [h2]; exact h5') x
      rw [h2] at this
      rw [this]
      cases hT : gb on x && T x with
      | true =>
        rw [Bool.and_eq_true] at hT
        have h0 := h.on0 x hT.1
        simp only [if_true]
        omega
      | false => simp
  · intro A g B e h2 hne x
    obtain ⟨A0, g0, B0, q1, q2, q3, q4, _, q6, q7, q8⟩ := hc A g B e
    have := h.hl A0 g0 B0 q1 (by rw [q2]; exact h2) (by rw [q2]; exact hne.mono (Nat.le_succ i)) x
    rw [q3, q4, q6] at this
    rw [hgi]
    refine ⟨fun h1 h3 => ?_, fun h1 => ?_⟩
    · obtain ⟨r1, r2⟩ := this.1 h1 h3
      have hxf : gb on x = false := by
        cases hx : gb on x with
        | false => rfl
        | true =>
          cases B with
          | nil => simp only [live] at r2; rw [hx] at r2; cases r2
          | cons b c =>
            obtain ⟨b0, c0, e0, e1⟩ := q8 b c rfl
            have := h.onb b0 (by rw [q1, e0]; simp) x hx
            rw [e1] at this
            simp only [live] at r2
            rw [this] at r2; cases r2
      refine ⟨by rw [hxf]; simpa using r1, ?_⟩
      cases B with
      | nil => simp only [live]; rw [gb_tabf]; intro _; rw [hxf]; rfl
      | cons b c => exact r2
    · obtain ⟨r1, r2⟩ := this.2 h1
      refine ⟨r1, ?_⟩
      cases hT : gb on x && T x with
      | true => right; simp only [if_true]; omega
      | false =>
        simp only [Bool.false_eq_true, if_false]
        rcases r2 with r2 | r2
        · left
          cases B with
          | nil =>
            simp only [live] at r2 ⊢
            rw [gb_tab, r2]
            rw [r2] at hT
            exact ⟨gb_lt h.lon r2, by rw [hT]; rfl⟩
          | cons b c => exact r2
        · exact .inr r2
theorem mr_pop {G : List Fm} {f : Fm} {on' : List Bool} {st' : List Int} (h : MR k ct n i (G ++ [f]) on st) (hi : i < i') (hf : frs k i' = G.map Fm.p) (hst : ∀ x, gi st' x = if k f.p = 5 ∧ gi st x = f.p + 1 then 0 else gi st x) (hl : st'.length = n) (hon : ∀ x, gb on' x = true ↔ gb f.bf x = true ∧ gi st' x = 0) (hlo : on'.length = n) :
    MR k ct n i' G on' st' := by
  have hfm : f ∈ G ++ [f] := by simp
  have hG : ∀ g ∈ G, g ∈ G ++ [f] := fun g hg => by simp [hg]
  have hne : ∀ g ∈ G, g.p ≠ f.p := fun g hg => by have := (h.before (H := []) rfl).1 g hg; omega
  have hch : ∀ g ∈ G, ∀ x, gb f.bf x = true → gb g.bf x = true := fun g hg x hx => by
    obtain ⟨A, B, rfl⟩ := List.append_of_mem hg
    exact h.ch A g (B ++ [f]) (by simp) f (by simp) x hx
  have hsame : ∀ g ∈ G, ∀ x, gi st' x = (g.p : Int) + 1 ↔ gi st x = (g.p : Int) + 1 := by
    intro g hg x
    rw [hst]
    split
    · rename_i hc
      have := hne g hg
      omega
    · exact Iff.rfl
  refine ⟨hf.symm, hlo, hl, fun g hg => h.lb g (hG g hg), fun g hg => h.ls g (hG g hg), fun g hg => h.kp g (hG g hg), fun x hx => ((hon x).1 hx).2, fun g hg x hx => hch g hg x ((hon x).1 hx).1, ?_, ?_, ?_, fun g hg h5 x => (h.sp g (hG g hg) h5 x).trans (hsame g hg x).symm, ?_⟩
  · intro A g B e b hb x hx
    exact h.ch A g (B ++ [f]) (by rw [e]; simp) b (by simp [hb]) x hx
  · intro x hx
    rw [hst] at hx
    split at hx
    · exact absurd rfl hx
    rename_i hc
    obtain ⟨g, q1, q2, q3, q4⟩ := h.s0 x hx
    have hgf : g.p ≠ f.p := fun e => hc ⟨by rw [← e]; exact q2, by rw [← e]; exact q3⟩
    rcases List.mem_append.1 q1 with q1 | q1
    · exact ⟨g, q1, q2, (hsame g q1 x).2 q3, q4⟩
    · rw [List.mem_singleton.1 q1] at hgf; exact absurd rfl hgf
  · intro A g B e x hx b hb h5
    have hg : g ∈ G := by rw [e]; simp
    exact h.sl A g (B ++ [f]) (by rw [e]; simp) x ((hsame g hg x).1 hx) b (by simp [hb]) h5
  · intro A g B e h2 hne' x
    have hg : g ∈ G := by rw [e]; simp
    have := h.hl A g (B ++ [f]) (by rw [e]; simp) h2 (hne'.mono (by omega)) x
    have hz : gi st x = 0 → gi st' x = 0 := fun h0 => by rw [hst]; split <;> first | rfl | exact h0
    cases B with
    | nil =>
      simp only [live, List.nil_append] at this ⊢
      refine ⟨fun h1 h3 => ?_, fun h1 => ?_⟩
      · obtain ⟨r1, r2⟩ := this.1 h1 h3
        refine ⟨hz r1, ?_⟩
        cases hb : gb on' x with
        | false => rfl
        | true => rw [((hon x).1 hb).1] at r2; cases r2
      · obtain ⟨r1, r2⟩ := this.2 h1
        refine ⟨r1, ?_⟩
        by_cases h0 : gi st' x = 0
        · left
          rw [hon]
          refine ⟨?_, h0⟩
          rcases r2 with r2 | r2
          · exact r2
          · rw [hst] at h0
            split at h0
            · rename_i hc
              obtain ⟨g2, s1, s2, s3, s4⟩ := h.s0 x r2
              have : g2 = f := h.same s1 hfm (by omega)
              rw [← this]; exact s4
            · exact absurd h0 r2
        · exact .inr h0
    | cons b c =>
      simp only [live, List.cons_append] at this ⊢
      refine ⟨fun h1 h3 => ⟨hz (this.1 h1 h3).1, (this.1 h1 h3).2⟩, fun h1 => ⟨(this.2 h1).1, ?_⟩⟩
      rcases (this.2 h1).2 with r2 | r2
      · exact .inl r2
      · by_cases h0 : gi st' x = 0
        · left
          rw [hst] at h0
          split at h0
          · rename_i hc
            obtain ⟨g2, s1, s2, s3, s4⟩ := h.s0 x r2
            have e2 : g2 = f := h.same s1 hfm (by omega)
            exact hch b (by rw [e]; simp) x (by rw [← e2]; exact s4)
          · exact absurd h0 r2
        · exact .inr h0
theorem MR.own {G : List Fm} {f : Fm} (h : MR k ct n i (G ++ [f]) on st) (h5 : k f.p = 5) {x : Nat} (hx : gb f.bf x = true) : gi st x = 0 ∨ gi st x = f.p + 1 := by
  by_cases h0 : gi st x = 0
  · exact .inl h0
  · right
    obtain ⟨g, q1, q2, q3, q4⟩ := h.s0 x h0
    rcases List.mem_append.1 q1 with q1 | q1
    · obtain ⟨A, B, rfl⟩ := List.append_of_mem q1
      have := h.sl A g (B ++ [f]) (by simp) x q3 f (by simp) h5
      rw [hx] at this; cases this
    · rw [List.mem_singleton.1 q1] at q3; exact q3
theorem MR.outer {A B : List Fm} {e f : Fm} (h : MR k ct n i (A ++ e :: (B ++ [f])) on st) (h5 : k e.p = 5) (h2 : k f.p = 2) (hB : ∀ g ∈ B, k g.p ≠ 5) {x : Nat} (hx : gb f.bf x = true) : gi st x = 0 ↔ gb e.st x = false := by
  have hsp := h.sp e (by simp) h5 x
  have hex : gb e.bf x = true := h.ch A e (B ++ [f]) rfl f (by simp) x hx
  constructor
  · intro h0
    cases hb : gb e.st x with
    | false => rfl
    | true => have := hsp.1 hb; omega
  · intro hb
    rcases Classical.em (gi st x = 0) with h0 | h0
    · exact h0
    · exfalso
      obtain ⟨g, q1, q2, q3, q4⟩ := h.s0 x h0
      rcases List.mem_append.1 q1 with q1 | q1
      · obtain ⟨C, D, rfl⟩ := List.append_of_mem q1
        have := h.sl C g (D ++ e :: (B ++ [f])) (by simp) x q3 e (by simp) h5
        rw [hex] at this; cases this
      · rcases List.mem_cons.1 q1 with rfl | q1
        · rw [hsp.2 q3] at hb; cases hb
        · rcases List.mem_append.1 q1 with q1 | q1
          · exact hB g q1 q2
          · rw [List.mem_singleton.1 q1] at q2; omega
theorem MR.none (h : MR k ct n i Fs on st) (hF : ∀ f ∈ Fs, k f.p ≠ 5) (x : Nat) : gi st x = 0 := by
  rcases Classical.em (gi st x = 0) with h0 | h0
  · exact h0
  · obtain ⟨g, q1, q2, _⟩ := h.s0 x h0
    exact absurd q2 (hF g q1)
theorem mr_back {G : List Fm} {f : Fm} (h : MR k ct n i (G ++ [f]) on st) (h5 : k f.p = 5) (hfi : frs k i = frs k f.p ++ [f.p]) (hf : frs k (f.p + 1) = frs k f.p ++ [f.p]) (hr : ((f.r + 1 : Nat) : Int) ≤ ct f.p) :
    MR k ct n (f.p + 1) (G ++ [⟨f.p, f.bf, f.hd, f.st, f.r + 1⟩]) (tab n fun x => gb f.bf x && decide (gi st x = 0)) st ∧ tab n (fun x => gb f.bf x && !gb f.st x) = tab n fun x => gb f.bf x && decide (gi st x = 0) := by
  have hfm : f ∈ G ++ [f] := by simp
  let f' : Fm := ⟨f.p, f.bf, f.hd, f.st, f.r + 1⟩
  have hb : ∀ g, g ∈ G ++ [f'] → ∃ g0, g0 ∈ G ++ [f] ∧ g0.p = g.p ∧ g0.bf = g.bf ∧ g0.hd = g.hd ∧ g0.st = g.st ∧ (g = f' ∨ g0 = g) := by
    intro g hg
    rcases List.mem_append.1 hg with hg | hg
    · exact ⟨g, by simp [hg], rfl, rfl, rfl, rfl, .inr rfl⟩
    · rw [List.mem_singleton.1 hg]; exact ⟨f, hfm, rfl, rfl, rfl, rfl, .inl rfl⟩
  have hlt := h.lt f hfm
  refine ⟨⟨?_, tab_len _ _, h.lst, ?_, ?_, ?_, ?_, ?_, ?_, ?_, ?_, ?_, ?_⟩, ?_⟩
  · have := h.fst
    rw [hfi] at this
    rw [hf, ← this]; simp
  · intro g hg; obtain ⟨g0, h1, _, h2, _⟩ := hb g hg; rw [← h2]; exact h.lb g0 h1
  · intro g hg hg5
    obtain ⟨g0, h1, h2, _, _, h3, h4⟩ := hb g hg
    obtain ⟨q1, q2, q3⟩ := h.ls g0 h1 (by rw [h2]; exact hg5)
    rcases h4 with rfl | rfl
    · exact ⟨by rw [← h3]; exact q1, by show 1 ≤ f.r + 1; omega, hr⟩
    · exact ⟨q1, q2, q3⟩
  · intro g hg; obtain ⟨g0, h1, h2, _⟩ := hb g hg; rw [← h2]; exact h.kp g0 h1
  · intro x hx
    rw [gb_tab, Bool.and_eq_true, decide_eq_true_eq] at hx
    exact hx.2.2
  · intro g hg x hx
    rw [gb_tab, Bool.and_eq_true] at hx
    rcases List.mem_append.1 hg with hg | hg
    · obtain ⟨A, B, rfl⟩ := List.append_of_mem hg
      exact h.ch A g (B ++ [f]) (by simp) f (by simp) x hx.2.1
    · rw [List.mem_singleton.1 hg]; exact hx.2.1
  · intro A g B e b hbm x hx
    rcases snoc_cases e with ⟨rfl, rfl, rfl⟩ | ⟨B', rfl, e'⟩
    · cases hbm
    · rcases List.mem_append.1 hbm with hbm | hbm
      · exact h.ch A g (B' ++ [f]) (by rw [e']; simp) b (by simp [hbm]) x hx
      · rw [List.mem_singleton.1 hbm] at hx
        exact h.ch A g (B' ++ [f]) (by rw [e']; simp) f (by simp) x hx
  · intro x hx
    obtain ⟨g, q1, q2, q3, q4⟩ := h.s0 x hx
    rcases List.mem_append.1 q1 with q1 | q1
    · exact ⟨g, by simp [q1], q2, q3, q4⟩
    · rw [List.mem_singleton.1 q1] at q2 q3 q4
      exact ⟨f', by simp [f'], q2, q3, q4⟩
  · intro A g B e x hx b hbm hb5
    rcases snoc_cases e with ⟨rfl, rfl, rfl⟩ | ⟨B', rfl, e'⟩
    · cases hbm
    · rcases List.mem_append.1 hbm with hbm | hbm
      · exact h.sl A g (B' ++ [f]) (by rw [e']; simp) x hx b (by simp [hbm]) hb5
      · rw [List.mem_singleton.1 hbm]
        exact h.sl A g (B' ++ [f]) (by rw [e']; simp) x hx f (by simp) h5
  · intro g hg hg5 x
    obtain ⟨g0, h1, h2, _, _, h3, _⟩ := hb g hg
    rw [← h3, ← h2]
    exact h.sp g0 h1 (by rw [h2]; exact hg5) x
  · intro A g B e h2 hne x
    rcases snoc_cases e with ⟨rfl, rfl, rfl⟩ | ⟨B', rfl, e'⟩
    · have : k f.p = 2 := h2
      omega
    · have hgp : g.p < f.p := (h.before (H := []) rfl).1 g (by rw [e']; simp)
      have hne2 : NE k g.p i := by
        intro j h1 h3 h4 h6
        by_cases hj : j < f.p + 1
        · exact hne j h1 hj h4 h6
        · have := frs_keep k i j (p := f.p) (by rw [hfi]; simp) (by omega) (by omega)
          rw [h6] at this
          rcases List.mem_append.1 this with this | this
          · have := frs_lt0 k _ _ this; omega
          · rw [List.mem_singleton] at this; omega
      have := h.hl A g (B' ++ [f]) (by rw [e']; simp) h2 hne2 x
      cases B' with
      | nil => exact this
      | cons b c => exact this
  · refine tab_congr fun x hx => ?_
    cases hbx : gb f.bf x with
    | false => rfl
    | true =>
      have hsp := h.sp f hfm h5 x
      rcases h.own h5 hbx with h0 | h0
      · have : gb f.st x = false := by
          cases hb : gb f.st x with
          | false => rfl
          | true => have := hsp.1 hb; omega
        rw [this, decide_eq_true h0]; rfl
      · rw [hsp.2 h0, decide_eq_false (by omega)]; rfl
end
end Go.Proofs.Ytheemkehedmlfaa.P
set_option linter.unusedVariables false
set_option linter.unusedSimpArgs false
set_option maxRecDepth 4000
namespace Go.Proofs.Ytheemkehedmlfaa.P
open Go Go.Proofs.Ytheemkehedmlfaa.E
theorem loop_ok {σ β R : Type} {stp : (σ → Option R) → σ → Option R} {n : Nat} {Ok : Nat → β → Prop} {emb : Nat → β → σ} {fin : β → R}
    (h1 : ∀ k b, k < n → Ok k b → ∃ b', Ok (k + 1) b' ∧ ∀ rec, stp rec (emb k b) = rec (emb (k + 1) b')) (h2 : ∀ b rec, Ok n b → stp rec (emb n b) = some (fin b)) :
    ∀ d k b M, k + d = n → d < M → Ok k b → ∃ b', Ok n b' ∧ itN stp M (emb k b) = some (fin b') := by
  intro d
  induction d with
  | zero =>
    intro k b M hk hM hb
    obtain ⟨M, rfl⟩ : ∃ M', M = M' + 1 := ⟨M - 1, by omega⟩
    obtain rfl : k = n := by omega
    exact ⟨b, hb, h2 b _ hb⟩
  | succ d ih =>
    intro k b M hk hM hb
    obtain ⟨M, rfl⟩ : ∃ M', M = M' + 1 := ⟨M - 1, by omega⟩
    obtain ⟨b', g1, g2⟩ := h1 k b (by omega) hb
    obtain ⟨b'', g3, g4⟩ := ih (k + 1) b' M (by omega) (by omega) g1
    exact ⟨b'', g3, (g2 _).trans g4⟩
def Upto {α : Type} (d : α) (n : Nat) (l0 : List α) (g : Nat → α) (k : Nat) (l : List α) : Prop := l.length = n ∧ (∀ x, x < k → x < n → l.getD x d = g x) ∧ ∀ x, k ≤ x → l.getD x d = l0.getD x d
theorem Upto.start {α : Type} {d : α} {n : Nat} {l0 : List α} {g : Nat → α} (h : l0.length = n) : Upto d n l0 g 0 l0 := ⟨h, fun x hx => by omega, fun _ _ => rfl⟩
theorem getD_set' {α : Type} {d : α} {l : List α} {k x : Nat} {v : α} (h : k < l.length) : (l.set k v).getD x d = if x = k then v else l.getD x d := by
  rw [List.getD_eq_getElem?_getD, List.getElem?_set]
  by_cases e : k = x
  · subst e; simp [h]
  · rw [if_neg e, if_neg (fun h => e h.symm), List.getD_eq_getElem?_getD]
theorem Upto.set {α : Type} {d : α} {n : Nat} {l0 l : List α} {g : Nat → α} {k : Nat} (h : Upto d n l0 g k l) (hk : k < n) {v : α} (hv : v = g k) : Upto d n l0 g (k + 1) (l.set k v) := by
  refine ⟨by rw [List.length_set]; exact h.1, fun x hx hn => ?_, fun x hx => ?_⟩
  · rw [getD_set' (by rw [h.1]; exact hk)]
    split
    · rename_i e; rw [e]; exact hv
    · exact h.2.1 x (by omega) hn
  · rw [getD_set' (by rw [h.1]; exact hk), if_neg (by omega)]
    exact h.2.2 x (by omega)
theorem Upto.skip {α : Type} {d : α} {n : Nat} {l0 l : List α} {g : Nat → α} {k : Nat} (h : Upto d n l0 g k l) (hv : l0.getD k d = g k) : Upto d n l0 g (k + 1) l := by
  refine ⟨h.1, fun x hx hn => ?_, fun x hx => h.2.2 x (by omega)⟩
  by_cases e : x = k
  · rw [e, h.2.2 k (Nat.le_refl _)]; exact hv
  · exact h.2.1 x (by omega) hn
theorem Upto.done {α : Type} {d : α} {n : Nat} {l0 l : List α} {g : Nat → α} (h : Upto d n l0 g n l) : l = tab n g := by
  rw [← tab_self d h.1]
  exact tab_congr fun x hx => h.2.1 x hx hx
theorem Upto.own {α : Type} {d : α} {n : Nat} {l0 l : List α} {g : Nat → α} {k : Nat} (h : Upto d n l0 g k l) : l.getD k d = l0.getD k d := h.2.2 k (Nat.le_refl _)
theorem gtb (l : List Bool) (k : Nat) : gt l (k : Int) = gb l k := by unfold gt gb; rw [Int.toNat_natCast]; rfl
theorem gti (l : List Int) (k : Nat) : gt l (k : Int) = gi l k := by unfold gt gi; rw [Int.toNat_natCast]; rfl
theorem gtl (l : List (List Int)) (k : Nat) : gt l (k : Int) = l.getD k [] := by unfold gt; rw [Int.toNat_natCast]; rfl
end Go.Proofs.Ytheemkehedmlfaa.P
set_option linter.unusedVariables false
set_option linter.unusedSimpArgs false
set_option maxRecDepth 4000
namespace Go.Proofs.Ytheemkehedmlfaa.P
open Go Go.Proofs.Ytheemkehedmlfaa.E
def anyB (on : List Bool) : Bool := on.any id
theorem any_drop (on : List Bool) (k : Nat) (h : k < on.length) : (on.drop k).any id = (gb on k || (on.drop (k + 1)).any id) := by
  rw [List.drop_eq_getElem_cons h, List.any_cons]
  congr 1
  unfold gb
  rw [List.getD_eq_getElem?_getD, List.getElem?_eq_getElem h]; rfl
theorem any_go (N : Nat) (on : List Bool) (hl : on.length ≤ 1000) : ∀ (d k M : Nat), k + d = on.length → d < M → itN (n_spec_l08Any_0 N (on, ())) M ((k : Int), ()) = some (if (on.drop k).any id = true then .inl (true, ()) else .inr ()) := by
  intro d
  induction d with
  | zero =>
    intro k M hk hM
    obtain ⟨M, rfl⟩ : ∃ M', M = M' + 1 := ⟨M - 1, by omega⟩
    obtain rfl : k = on.length := by omega
    rw [List.drop_length]
    show n_spec_l08Any_0 _ _ _ _ = _
    unfold n_spec_l08Any_0
    simp only
    (repeat (first | refine xt ?_ | refine xf ?_ | refine yt ?_ | refine yf ?_))
    rfl
  | succ d ih =>
    intro k M hk hM
    obtain ⟨M, rfl⟩ : ∃ M', M = M' + 1 := ⟨M - 1, by omega⟩
    have e := w_suc k (by omega)
    rw [any_drop on k (by omega)]
    show n_spec_l08Any_0 _ _ _ _ = _
    unfold n_spec_l08Any_0
    simp only [e, gtb]
    (repeat (first | refine xt ?_ | refine xf ?_ | refine yt ?_ | refine yf ?_))
    cases hb : gb on k with
    | true => rfl
    | false =>
      simp only [cond_false, Bool.false_or]
      exact ih (k + 1) M (by omega) (by omega)
theorem any_spec {N : Nat} (on : List Bool) (hl : on.length ≤ 1000) (hN : 1000 < N) : F_spec_l08Any N (on, ()) = some (anyB on, ()) := by
  unfold F_spec_l08Any
  have h := any_go N on hl on.length 0 N (by omega) (by omega)
  rw [List.drop_zero] at h
  refine bd h ?_
  unfold anyB
  cases hb : on.any id <;> simp
theorem idx_go (N : Nat) (on : List Bool) (hl : on.length ≤ 1000) : ∀ (d k M : Nat), k + d = on.length → d < M → ∃ r, itN (n_slices_Index___bool_bool__0 N (on, (true, ((on.length : Int), ())))) M ((k : Int), ()) = some r ∧ ((on.drop k).any id = true → ∃ j : Int, 0 ≤ j ∧ r = .inl (j, ())) ∧ ((on.drop k).any id = false → r = .inr ()) := by
  intro d
  induction d with
  | zero =>
    intro k M hk hM
    obtain ⟨M, rfl⟩ : ∃ M', M = M' + 1 := ⟨M - 1, by omega⟩
    obtain rfl : k = on.length := by omega
    refine ⟨.inr (), ?_, by simp, fun _ => rfl⟩
    show n_slices_Index___bool_bool__0 _ _ _ _ = _
    unfold n_slices_Index___bool_bool__0
    simp only
    (repeat (first | refine xt ?_ | refine xf ?_ | refine yt ?_ | refine yf ?_))
    rfl
  | succ d ih =>
    intro k M hk hM
    obtain ⟨M, rfl⟩ : ∃ M', M = M' + 1 := ⟨M - 1, by omega⟩
    have e := w_suc k (by omega)
    rw [any_drop on k (by omega)]
    cases hb : gb on k with
    | true =>
      refine ⟨.inl ((k : Int), ()), ?_, fun _ => ⟨(k : Int), by omega, rfl⟩, by simp⟩
      show n_slices_Index___bool_bool__0 _ _ _ _ = _
      unfold n_slices_Index___bool_bool__0
      simp only [e, gtb, hb]
      (repeat (first | refine xt ?_ | refine xf ?_ | refine yt ?_ | refine yf ?_))
      rfl
    | false =>
      obtain ⟨r, h1, h2, h3⟩ := ih (k + 1) M (by omega) (by omega)
      refine ⟨r, ?_, by simpa using h2, by simpa using h3⟩
      show n_slices_Index___bool_bool__0 _ _ _ _ = _
      unfold n_slices_Index___bool_bool__0
      simp only [e, gtb, hb]
      (repeat (first | refine xt ?_ | refine xf ?_ | refine yt ?_ | refine yf ?_))
      exact h1
theorem any_impl {N : Nat} (on : List Bool) (hl : on.length ≤ 1000) (hN : 1000 < N) : F_slices_Contains___bool_bool_ N (on, (true, ())) = some (anyB on, ()) := by
  unfold F_slices_Contains___bool_bool_ F_slices_Index___bool_bool_
  obtain ⟨r, h1, h2, h3⟩ := idx_go N on hl on.length 0 N (by omega) (by omega)
  rw [List.drop_zero] at h2 h3
  simp only [Int.ofNat_zero, Int.natCast_zero] at h1
  unfold anyB
  cases hb : on.any id with
  | true =>
    obtain ⟨j, hj, rfl⟩ := h2 hb
    refine bd (v := (j, ())) (bd h1 ?_) ?_
    · rfl
    · simp only; rw [decide_eq_true (by omega)]
  | false =>
    have := h3 hb
    subst this
    refine bd (v := ((-1 : Int), ())) (bd h1 ?_) ?_
    · rfl
    · rfl
theorem but_impl {N : Nat} (a b : List Bool) {n : Nat} (ha : a.length = n) (hb : b.length = n) (hn : n ≤ 1000) (hN : 1000 < N) : F_impl_but N (a, (b, ())) = some (tab n (fun x => gb a x && !gb b x), ()) := by
  have h := loop_ok (stp := n_impl_but_0 N (b, (a, ((n : Int), ())))) (n := n) (Ok := Upto false n (List.replicate n false) fun x => gb a x && !gb b x) (emb := fun k l => ((k : Int), (l, ()))) (fin := fun l => (l, ())) (fun k l hk hl => by
      have e := w_suc k (by omega)
      have hll := hl.1
      refine ⟨l.set k (gb a k && !gb b k), hl.set hk rfl, fun rec => ?_⟩
      unfold n_impl_but_0
      simp only [e, gtb, ha, hb, hll, Int.toNat_natCast]
      (repeat (first | refine xt ?_ | refine xf ?_ | refine yt ?_ | refine yf ?_))
      cases gb a k with
      | true => simp only [cond_true]; (repeat (first | refine xt ?_ | refine xf ?_ | refine yt ?_ | refine yf ?_)); rfl
      | false => simp only [cond_false]; (repeat (first | refine xt ?_ | refine xf ?_ | refine yt ?_ | refine yf ?_)); rfl) (fun l rec hl => by
      unfold n_impl_but_0
      simp only
      (repeat (first | refine xt ?_ | refine xf ?_ | refine yt ?_ | refine yf ?_))
      rfl) n 0 (List.replicate n false) N (by omega) (by omega) (Upto.start (by simp))
  obtain ⟨l, h1, h2⟩ := h
  rw [h1.done] at h2
  unfold F_impl_but
  simp only [ha, Int.toNat_natCast]
  (repeat (first | refine xt ?_ | refine xf ?_ | refine yt ?_ | refine yf ?_))
  exact bd h2 rfl
theorem clone_b {N : Nat} (a : List Bool) {n : Nat} (ha : a.length = n) (h1 : 1 ≤ n) (hn : n ≤ 1000) : F_slices_Clone___bool_bool_ N (a, ()) = some (a, ()) := by
  unfold F_slices_Clone___bool_bool_
  simp only [ha]
  (repeat (first | refine xt ?_ | refine xf ?_ | refine yt ?_ | refine yf ?_))
  rfl
theorem clone_i {N : Nat} (a : List Int) {n : Nat} (ha : a.length = n) (h1 : 1 ≤ n) (hn : n ≤ 1000) : F_slices_Clone___int64_int64_ N (a, ()) = some (a, ()) := by
  unfold F_slices_Clone___int64_int64_
  simp only [ha]
  (repeat (first | refine xt ?_ | refine xf ?_ | refine yt ?_ | refine yf ?_))
  rfl
theorem clones_impl {N : Nat} (V : List (List Int)) (hV : ∀ v ∈ V, v.length = 8) (hn : V.length ≤ 1000) (hN : 1000 < N) : itN (n_impl_clones_0 N (V, ((V.length : Int), ()))) N ((0 : Int), ([], ())) = some (V, ()) := by
  have h := loop_ok (stp := n_impl_clones_0 N (V, ((V.length : Int), ()))) (n := V.length) (Ok := fun k l => l = V.take k) (emb := fun k l => ((k : Int), (l, ()))) (fin := fun l => (l, ())) (fun k l hk hl => by
      have e := w_suc k (by omega)
      subst hl
      refine ⟨V.take k ++ [V.getD k []], ?_, fun rec => ?_⟩
      · rw [List.getD_eq_getElem?_getD, List.getElem?_eq_getElem hk, Option.getD_some, List.take_append_getElem hk]
      · have hm : (V.getD k []).length = 8 := by
          rw [List.getD_eq_getElem?_getD, List.getElem?_eq_getElem hk]
          exact hV _ (List.getElem_mem hk)
        have hl : (V.take k).length = k := by rw [List.length_take]; omega
        unfold n_impl_clones_0
        simp only [e, gtl]
        (repeat (first | refine xt ?_ | refine xf ?_ | refine yt ?_ | refine yf ?_))
        refine bd (clone_i _ hm (by omega) (by omega)) ?_
        simp only [hl]
        (repeat (first | refine xt ?_ | refine xf ?_ | refine yt ?_ | refine yf ?_))
        rfl) (fun l rec hl => by
      subst hl
      unfold n_impl_clones_0
      simp only [List.take_length]
      (repeat (first | refine xt ?_ | refine xf ?_ | refine yt ?_ | refine yf ?_))
      rfl) V.length 0 [] N (by omega) (by omega) (by simp)
  obtain ⟨l, h1, h2⟩ := h
  rw [h1, List.take_length] at h2
  exact h2
end Go.Proofs.Ytheemkehedmlfaa.P
set_option linter.unusedVariables false
set_option linter.unusedSimpArgs false
set_option maxRecDepth 4000
namespace Go.Proofs.Ytheemkehedmlfaa.P
open Go Go.Proofs.Ytheemkehedmlfaa.E
def cntB (on : List Bool) : Nat → Nat
  | 0 => 0
  | k + 1 => cntB on k + if gb on k = true then 1 else 0
theorem cntB_le (on : List Bool) : ∀ k, cntB on k ≤ k
  | 0 => Nat.le_refl _
  | k + 1 => by have := cntB_le on k; simp only [cntB]; split <;> omega
structure LaneOk (n : Nat) (b : Int) (now : List (List Int)) : Prop where
  len : now.length = n
  eight : ∀ x, x < n → (now.getD x []).length = 8
  word : ∀ x, x < n → ∀ v ∈ now.getD x [], wordV b v = true
def setL (n : Nat) (on : List Bool) (now : List (List Int)) (d : Nat) (V : Nat → Int) : List (List Int) := tab n fun x => if gb on x = true then (now.getD x []).set d (V x) else now.getD x []
theorem LaneOk.set {n : Nat} {b : Int} {now : List (List Int)} (h : LaneOk n b now) (on : List Bool) {d : Nat} {V : Nat → Int} (hV : ∀ x, x < n → gb on x = true → wordV b (V x) = true) : LaneOk n b (setL n on now d V) := by
  have e : ∀ x, x < n → (setL n on now d V).getD x [] = if gb on x = true then (now.getD x []).set d (V x) else now.getD x [] := fun x hx => tab_at _ hx
  refine ⟨tab_len _ _, fun x hx => ?_, fun x hx v hv => ?_⟩
  · rw [e x hx]
    split
    · rw [List.length_set]; exact h.eight x hx
    · exact h.eight x hx
  · rw [e x hx] at hv
    split at hv
    · rename_i hon
      rcases List.mem_or_eq_of_mem_set hv with hv | rfl
      · exact h.word x hx v hv
      · exact hV x hx hon
    · exact h.word x hx v hv
section
variable {N n : Nat} {b : Int} {now : List (List Int)} {on : List Bool} (hL : LaneOk n b now) (hon : on.length = n) (hn : n ≤ 16) (hN : 1000 < N)
include hL hon hn hN
theorem spec_set_12 {kind d op a c : Int} (hk01 : kind = 0 ∨ kind = 1) (hd : 0 ≤ d ∧ d ≤ 7) {V : Nat → Int} (h0 : kind = 0 → (0 ≤ a ∧ a ≤ 7) ∧ (0 ≤ c ∧ c ≤ 7) ∧ ∀ x, x < n → F_spec_l01Do N (op, (b, (gt (now.getD x []) a, (gt (now.getD x []) c, ())))) = some (V x, ())) (h1 : kind = 1 → ∀ x, V x = c) {slots : Int} (hs0 : 0 ≤ slots) (hs1 : slots ≤ 1000000000000000000) :
    itN (n_sM12 N (b, ((n : Int), (kind, (d, (op, (a, (c, (on, ()))))))))) N (slots, ((0 : Int), (now, ()))) = some (slots + (cntB on n : Int), (setL n on now d.toNat V, ())) := by
  obtain ⟨l, h3, h4⟩ := loop_ok (stp := n_sM12 N (b, ((n : Int), (kind, (d, (op, (a, (c, (on, ()))))))))) (n := n) (Ok := fun k (l : Int × List (List Int)) => l.1 = slots + (cntB on k : Int) ∧ Upto [] n now (fun x => if gb on x = true then (now.getD x []).set d.toNat (V x) else now.getD x []) k l.2) (emb := fun k l => (l.1, ((k : Int), (l.2, ())))) (fin := fun l => (l.1, (l.2, ()))) (fun k l hk hl => by
      obtain ⟨s, l⟩ := l
      obtain ⟨q1, q2⟩ := hl
      simp only at q1 q2
      subst q1
      have hcl := cntB_le on k
      have e := w_suc k (by omega)
      have e2 : IntKind.wrap .i64 (slots + (cntB on k : Int) + 1) = slots + (cntB on k : Int) + 1 := wr_id (by omega) (by omega)
      have hll := q2.1
      have hown : l.getD k [] = now.getD k [] := q2.own
      have h8 := hL.eight k hk
      cases hb : gb on k with
      | true =>
        refine ⟨(slots + (cntB on k : Int) + 1, l.set k ((now.getD k []).set d.toNat (V k))), ⟨by simp only [cntB, hb, if_true]; omega, q2.set hk (by rw [if_pos hb])⟩, fun rec => ?_⟩
        rcases hk01 with rfl | rfl
        · obtain ⟨ha, hc, hD⟩ := h0 rfl
          unfold n_sM12
          simp only [e, e2, gtb, gtl, hown, hb, hll, hon, h8, Int.toNat_natCast, Bool.not_true, cond_false, decide_true, cond_true]
          (repeat (first | refine xt ?_ | refine xf ?_ | refine yt ?_ | refine yf ?_))
          refine bd (hD k hk) ?_
          simp only
          (repeat (first | refine xt ?_ | refine xf ?_ | refine yt ?_ | refine yf ?_))
          rfl
        · have hv := h1 rfl k
          unfold n_sM12
          simp only [e, e2, gtb, gtl, hown, hb, hll, hon, h8, hv, Int.toNat_natCast, Bool.not_true, cond_false, decide_true, cond_true]
          (repeat (first | refine xt ?_ | refine xf ?_ | refine yt ?_ | refine yf ?_))
          rfl
      | false =>
        refine ⟨(slots + (cntB on k : Int), l), ⟨by simp [cntB, hb], q2.skip (by simp [hb])⟩, fun rec => ?_⟩
        unfold n_sM12
        simp only [e, e2, gtb, gtl, hown, hb, hll, hon, h8, Int.toNat_natCast, Bool.not_false, cond_true]
        (repeat (first | refine xt ?_ | refine xf ?_ | refine yt ?_ | refine yf ?_))
        rfl) (fun l rec hl => by
      unfold n_sM12
      simp only
      (repeat (first | refine xt ?_ | refine xf ?_ | refine yt ?_ | refine yf ?_))
      rfl) n 0 (slots, now) N (by omega) (by omega) ⟨by simp [cntB], Upto.start hL.len⟩
  rw [h3.1, h3.2.done] at h4
  exact h4
theorem spec_set_18 {kind d op a c : Int} (hk01 : kind = 0 ∨ kind = 1) (hd : 0 ≤ d ∧ d ≤ 7) {V : Nat → Int} (h0 : kind = 0 → (0 ≤ a ∧ a ≤ 7) ∧ (0 ≤ c ∧ c ≤ 7) ∧ ∀ x, x < n → F_spec_l01Do N (op, (b, (gt (now.getD x []) a, (gt (now.getD x []) c, ())))) = some (V x, ())) (h1 : kind = 1 → ∀ x, V x = c) {slots : Int} (hs0 : 0 ≤ slots) (hs1 : slots ≤ 1000000000000000000) :
    itN (n_sM18 N (b, ((n : Int), (kind, (d, (op, (a, (c, (on, ()))))))))) N (slots, ((0 : Int), (now, ()))) = some (slots + (cntB on n : Int), (setL n on now d.toNat V, ())) := by
  obtain ⟨l, h3, h4⟩ := loop_ok (stp := n_sM18 N (b, ((n : Int), (kind, (d, (op, (a, (c, (on, ()))))))))) (n := n) (Ok := fun k (l : Int × List (List Int)) => l.1 = slots + (cntB on k : Int) ∧ Upto [] n now (fun x => if gb on x = true then (now.getD x []).set d.toNat (V x) else now.getD x []) k l.2) (emb := fun k l => (l.1, ((k : Int), (l.2, ())))) (fin := fun l => (l.1, (l.2, ()))) (fun k l hk hl => by
      obtain ⟨s, l⟩ := l
      obtain ⟨q1, q2⟩ := hl
      simp only at q1 q2
      subst q1
      have hcl := cntB_le on k
      have e := w_suc k (by omega)
      have e2 : IntKind.wrap .i64 (slots + (cntB on k : Int) + 1) = slots + (cntB on k : Int) + 1 := wr_id (by omega) (by omega)
      have hll := q2.1
      have hown : l.getD k [] = now.getD k [] := q2.own
      have h8 := hL.eight k hk
      cases hb : gb on k with
      | true =>
        refine ⟨(slots + (cntB on k : Int) + 1, l.set k ((now.getD k []).set d.toNat (V k))), ⟨by simp only [cntB, hb, if_true]; omega, q2.set hk (by rw [if_pos hb])⟩, fun rec => ?_⟩
        rcases hk01 with rfl | rfl
        · obtain ⟨ha, hc, hD⟩ := h0 rfl
          unfold n_sM18
          simp only [e, e2, gtb, gtl, hown, hb, hll, hon, h8, Int.toNat_natCast, Bool.not_true, cond_false, decide_true, cond_true]
          (repeat (first | refine xt ?_ | refine xf ?_ | refine yt ?_ | refine yf ?_))
          refine bd (hD k hk) ?_
          simp only
          (repeat (first | refine xt ?_ | refine xf ?_ | refine yt ?_ | refine yf ?_))
          rfl
        · have hv := h1 rfl k
          unfold n_sM18
          simp only [e, e2, gtb, gtl, hown, hb, hll, hon, h8, hv, Int.toNat_natCast, Bool.not_true, cond_false, decide_true, cond_true]
          (repeat (first | refine xt ?_ | refine xf ?_ | refine yt ?_ | refine yf ?_))
          rfl
      | false =>
        refine ⟨(slots + (cntB on k : Int), l), ⟨by simp [cntB, hb], q2.skip (by simp [hb])⟩, fun rec => ?_⟩
        unfold n_sM18
        simp only [e, e2, gtb, gtl, hown, hb, hll, hon, h8, Int.toNat_natCast, Bool.not_false, cond_true]
        (repeat (first | refine xt ?_ | refine xf ?_ | refine yt ?_ | refine yf ?_))
        rfl) (fun l rec hl => by
      unfold n_sM18
      simp only
      (repeat (first | refine xt ?_ | refine xf ?_ | refine yt ?_ | refine yf ?_))
      rfl) n 0 (slots, now) N (by omega) (by omega) ⟨by simp [cntB], Upto.start hL.len⟩
  rw [h3.1, h3.2.done] at h4
  exact h4
theorem spec_if {kind d op a c : Int} (ha : 0 ≤ a ∧ a ≤ 7) (hc : 0 ≤ c ∧ c ≤ 7) {T : Nat → Bool} (hT : ∀ x, x < n → F_spec_l01Test N (op, (b, (gt (now.getD x []) a, (gt (now.getD x []) c, ())))) = some (T x, ())) :
    itN (n_sM13 N (b, ((n : Int), (kind, (d, (op, (a, (c, (now, ()))))))))) N ((0 : Int), (on, ())) = some (tab n (fun x => gb on x && T x), ()) := by
  obtain ⟨l, h1, h2⟩ := loop_ok (stp := n_sM13 N (b, ((n : Int), (kind, (d, (op, (a, (c, (now, ()))))))))) (n := n) (Ok := Upto false n on fun x => gb on x && T x) (emb := fun k l => ((k : Int), (l, ()))) (fin := fun l => (l, ())) (fun k l hk hl => by
      have e := w_suc k (by omega)
      have hll := hl.1
      have hown : gb l k = gb on k := hl.own
      have h8 := hL.eight k hk
      have hnl := hL.len
      refine ⟨l.set k (gb on k && T k), hl.set hk rfl, fun rec => ?_⟩
      unfold n_sM13
      simp only [e, gtb, gtl, hown, hll, h8, hnl, Int.toNat_natCast]
      (repeat (first | refine xt ?_ | refine xf ?_ | refine yt ?_ | refine yf ?_))
      cases hb : gb on k with
      | true =>
        simp only [cond_true, Bool.true_and]
        (repeat (first | refine xt ?_ | refine xf ?_ | refine yt ?_ | refine yf ?_))
        refine bd (hT k hk) ?_
        simp only
        (repeat (first | refine xt ?_ | refine xf ?_ | refine yt ?_ | refine yf ?_))
        rfl
      | false =>
        simp only [cond_false, Bool.false_and]
        (repeat (first | refine xt ?_ | refine xf ?_ | refine yt ?_ | refine yf ?_))
        rfl) (fun l rec hl => by
      unfold n_sM13
      simp only
      (repeat (first | refine xt ?_ | refine xf ?_ | refine yt ?_ | refine yf ?_))
      rfl) n 0 on N (by omega) (by omega) (Upto.start hon)
  rw [h1.done] at h2
  exact h2
omit hL in
theorem spec_else {fr : List (Int × List Bool × Int)} {p q r : Int} {bl : List Bool} (hf : (gt fr q).2.1 = bl) (hbl : bl.length = n) {st : List Int} (hst : st.length = n) :
    itN (n_sM14 N ((n : Int), (fr, (p, (q, (r, (st, ()))))))) N ((0 : Int), (on, ())) = some (tab n (fun x => gb bl x && decide (gi st x = 0) && !gb on x), ()) := by
  obtain ⟨l, h1, h2⟩ := loop_ok (stp := n_sM14 N ((n : Int), (fr, (p, (q, (r, (st, ()))))))) (n := n) (Ok := Upto false n on fun x => gb bl x && decide (gi st x = 0) && !gb on x) (emb := fun k l => ((k : Int), (l, ()))) (fin := fun l => (l, ())) (fun k l hk hl => by
      have e := w_suc k (by omega)
      have hll := hl.1
      have hown : gb l k = gb on k := hl.own
      refine ⟨l.set k (gb bl k && decide (gi st k = 0) && !gb on k), hl.set hk rfl, fun rec => ?_⟩
      unfold n_sM14
      simp only [e, hf, gtb, gti, hown, hll, hbl, hst, Int.toNat_natCast]
      (repeat (first | refine xt ?_ | refine xf ?_ | refine yt ?_ | refine yf ?_))
      cases hb : gb bl k with
      | true =>
        simp only [cond_true, Bool.true_and]
        (repeat (first | refine xt ?_ | refine xf ?_ | refine yt ?_ | refine yf ?_))
        by_cases h0 : gi st k = 0
        · rw [decide_eq_true h0]
          simp only [cond_true, Bool.true_and]
          (repeat (first | refine xt ?_ | refine xf ?_ | refine yt ?_ | refine yf ?_))
          rfl
        · rw [decide_eq_false h0]
          simp only [cond_false, Bool.false_and]
          (repeat (first | refine xt ?_ | refine xf ?_ | refine yt ?_ | refine yf ?_))
          rfl
      | false =>
        simp only [cond_false, Bool.false_and]
        (repeat (first | refine xt ?_ | refine xf ?_ | refine yt ?_ | refine yf ?_))
        rfl) (fun l rec hl => by
      unfold n_sM14
      simp only
      (repeat (first | refine xt ?_ | refine xf ?_ | refine yt ?_ | refine yf ?_))
      rfl) n 0 on N (by omega) (by omega) (Upto.start hon)
  rw [h1.done] at h2
  exact h2
theorem spec_stop {i : Nat} {kind d op a c : Int} (ha : 0 ≤ a ∧ a ≤ 7) (hc : 0 ≤ c ∧ c ≤ 7) {T : Nat → Bool} (hT : ∀ x, x < n → F_spec_l01Test N (op, (b, (gt (now.getD x []) a, (gt (now.getD x []) c, ())))) = some (T x, ())) {o : List Int} {t p : Nat} (hi : i < o.length) (hl : o.length ≤ 24) (h1 : gt o (i : Int) = (t : Int)) (ht : t < o.length) (h2 : gt o (t : Int) = (p : Int)) (hp : p < o.length) {st : List Int} (hst : st.length = n) :
    itN (n_sM15 N (b, ((n : Int), ((i : Int), (kind, (d, (op, (a, (c, (now, (o, ()))))))))))) N ((0 : Int), (st, (on, ()))) = some (tab n (fun x => if gb on x && T x then (p : Int) + 1 else gi st x), (tab n (fun x => gb on x && !(gb on x && T x)), ())) := by
  have e2 := w_suc p (by omega)
  obtain ⟨l, h3, h4⟩ := loop_ok (stp := n_sM15 N (b, ((n : Int), ((i : Int), (kind, (d, (op, (a, (c, (now, (o, ()))))))))))) (n := n) (Ok := fun k (l : List Int × List Bool) => Upto 0 n st (fun x => if gb on x && T x then (p : Int) + 1 else gi st x) k l.1 ∧ Upto false n on (fun x => gb on x && !(gb on x && T x)) k l.2) (emb := fun k l => ((k : Int), (l.1, (l.2, ())))) (fin := fun l => (l.1, (l.2, ()))) (fun k l hk hl => by
      obtain ⟨l1, l2⟩ := l
      obtain ⟨q1, q2⟩ := hl
      simp only at q1 q2
      have e := w_suc k (by omega)
      have hll1 := q1.1
      have hll2 := q2.1
      have hown : gb l2 k = gb on k := q2.own
      have h8 := hL.eight k hk
      have hnl := hL.len
      cases hb : gb on k with
      | true =>
        cases hTk : T k with
        | true =>
          refine ⟨(l1.set k ((p : Int) + 1), l2.set k false), ⟨q1.set hk (by simp [hb, hTk]), q2.set hk (by simp [hb, hTk])⟩, fun rec => ?_⟩
          unfold n_sM15
          simp only [e, e2, h1, h2, gtb, gtl, hown, hb, hll1, hll2, h8, hnl, Int.toNat_natCast, cond_true]
          (repeat (first | refine xt ?_ | refine xf ?_ | refine yt ?_ | refine yf ?_))
          refine bd (hT k hk) ?_
          simp only [hTk, cond_true]
          (repeat (first | refine xt ?_ | refine xf ?_ | refine yt ?_ | refine yf ?_))
          rfl
        | false =>
          refine ⟨(l1, l2), ⟨q1.skip (by simp [hb, hTk, gi]), q2.skip (by simp [hb, hTk]; exact hb)⟩, fun rec => ?_⟩
          unfold n_sM15
          simp only [e, e2, h1, h2, gtb, gtl, hown, hb, hll1, hll2, h8, hnl, Int.toNat_natCast, cond_true]
          (repeat (first | refine xt ?_ | refine xf ?_ | refine yt ?_ | refine yf ?_))
          refine bd (hT k hk) ?_
          simp only [hTk, cond_false]
      | false =>
        refine ⟨(l1, l2), ⟨q1.skip (by simp [hb, gi]), q2.skip (by simp [hb]; exact hb)⟩, fun rec => ?_⟩
        unfold n_sM15
        simp only [e, e2, h1, h2, gtb, gtl, hown, hb, hll1, hll2, h8, hnl, Int.toNat_natCast, cond_false]
        (repeat (first | refine xt ?_ | refine xf ?_ | refine yt ?_ | refine yf ?_))
        rfl) (fun l rec hl => by
      unfold n_sM15
      simp only
      (repeat (first | refine xt ?_ | refine xf ?_ | refine yt ?_ | refine yf ?_))
      rfl) n 0 (st, on) N (by omega) (by omega) ⟨Upto.start hst, Upto.start hon⟩
  rw [h3.1.done, h3.2.done] at h4
  exact h4
omit hL hon in
theorem spec_again {fr : List (Int × List Bool × Int)} {p q r : Int} {bl : List Bool} (hf : (gt fr q).2.1 = bl) (hbl : bl.length = n) {st : List Int} (hst : st.length = n) :
    itN (n_sM16 N ((n : Int), (fr, (p, (q, (r, (st, ()))))))) N (false, ((0 : Int), ())) = some (anyB (tab n fun x => gb bl x && decide (gi st x = 0)), ()) := by
  obtain ⟨l, h1, h2⟩ := loop_ok (stp := n_sM16 N ((n : Int), (fr, (p, (q, (r, (st, ()))))))) (n := n) (Ok := fun k (l : Bool) => (l = true ↔ ∃ x, x < k ∧ gb bl x = true ∧ gi st x = 0)) (emb := fun k l => (l, ((k : Int), ()))) (fin := fun l => (l, ())) (fun k l hk hl => by
      have e := w_suc k (by omega)
      cases l with
      | true =>
        obtain ⟨x, q1, q2⟩ := hl.1 rfl
        refine ⟨true, ⟨fun _ => ⟨x, by omega, q2⟩, fun _ => rfl⟩, fun rec => ?_⟩
        unfold n_sM16
        simp only [e]
        (repeat (first | refine xt ?_ | refine xf ?_ | refine yt ?_ | refine yf ?_))
        rfl
      | false =>
        have hno : ¬ ∃ x, x < k ∧ gb bl x = true ∧ gi st x = 0 := fun h => by have := hl.2 h; cases this
        refine ⟨gb bl k && decide (gi st k = 0), ?_, fun rec => ?_⟩
        · rw [Bool.and_eq_true, decide_eq_true_eq]
          constructor
          · rintro ⟨h1, h2⟩; exact ⟨k, by omega, h1, h2⟩
          · rintro ⟨x, q1, q2, q3⟩
            rcases Nat.lt_succ_iff_lt_or_eq.1 q1 with h | rfl
            · exact absurd ⟨x, h, q2, q3⟩ hno
            · exact ⟨q2, q3⟩
        · unfold n_sM16
          simp only [e, hf, gtb, gti, hbl, hst]
          (repeat (first | refine xt ?_ | refine xf ?_ | refine yt ?_ | refine yf ?_))
          cases hb : gb bl k with
          | true => simp only [cond_false, cond_true, Bool.true_and]; (repeat (first | refine xt ?_ | refine xf ?_ | refine yt ?_ | refine yf ?_)); rfl
          | false => simp only [cond_false, Bool.false_and]) (fun l rec hl => by
      unfold n_sM16
      simp only
      (repeat (first | refine xt ?_ | refine xf ?_ | refine yt ?_ | refine yf ?_))
      rfl) n 0 false N (by omega) (by omega) (by simp)
  have : l = anyB (tab n fun x => gb bl x && decide (gi st x = 0)) := by
    rw [Bool.eq_iff_iff, h1]
    unfold anyB
    rw [List.any_eq_true]
    constructor
    · rintro ⟨x, q1, q2, q3⟩
      exact ⟨true, List.mem_map.2 ⟨x, List.mem_range.2 q1, by simp [q2, q3]⟩, rfl⟩
    · rintro ⟨y, hy, hy2⟩
      obtain ⟨x, q1, q2⟩ := List.mem_map.1 hy
      have hy2 : y = true := hy2
      subst hy2
      simp only [Bool.and_eq_true, decide_eq_true_eq] at q2
      exact ⟨x, List.mem_range.1 q1, q2.1, q2.2⟩
  rw [this] at h2
  exact h2
omit hL hon in
theorem spec_clear {fr : List (Int × List Bool × Int)} {p : Nat} (hp : p ≤ 1000) {q r : Int} {st : List Int} (hst : st.length = n) :
    itN (n_sM20 N ((n : Int), (fr, ((p : Int), (q, (r, ())))))) N ((0 : Int), (st, ())) = some (tab n (fun x => if gi st x = (p : Int) + 1 then 0 else gi st x), ()) := by
  have e2 := w_suc p (by omega)
  have e3 : ((p + 1 : Nat) : Int) = (p : Int) + 1 := rfl
  rw [e3] at e2
  obtain ⟨l, h1, h2⟩ := loop_ok (stp := n_sM20 N ((n : Int), (fr, ((p : Int), (q, (r, ())))))) (n := n) (Ok := Upto 0 n st fun x => if gi st x = (p : Int) + 1 then 0 else gi st x) (emb := fun k l => ((k : Int), (l, ()))) (fin := fun l => (l, ())) (fun k l hk hl => by
      have e := w_suc k (by omega)
      have hll := hl.1
      have hown : gi l k = gi st k := hl.own
      by_cases h0 : gi st k = (p : Int) + 1
      · refine ⟨l.set k 0, hl.set hk (by rw [if_pos h0]), fun rec => ?_⟩
        unfold n_sM20
        simp only [e, e2, gti, hown, hll, Int.toNat_natCast]
        (repeat (first | refine xt ?_ | refine xf ?_ | refine yt ?_ | refine yf ?_))
        rfl
      · refine ⟨l, hl.skip (by rw [if_neg h0]; rfl), fun rec => ?_⟩
        unfold n_sM20
        simp only [e, e2, gti, hown, hll, Int.toNat_natCast]
        (repeat (first | refine xt ?_ | refine xf ?_ | refine yt ?_ | refine yf ?_))
        rfl) (fun l rec hl => by
      unfold n_sM20
      simp only
      (repeat (first | refine xt ?_ | refine xf ?_ | refine yt ?_ | refine yf ?_))
      rfl) n 0 st N (by omega) (by omega) (Upto.start hst)
  rw [h1.done] at h2
  exact h2
omit hL in
theorem spec_back_19 {fr : List (Int × List Bool × Int)} {p q r : Int} {bl : List Bool} (hf : (gt fr q).2.1 = bl) (hbl : bl.length = n) {st : List Int} (hst : st.length = n) :
    itN (n_sM19 N ((n : Int), (fr, (p, (q, (r, (st, ()))))))) N ((0 : Int), (on, ())) = some (tab n (fun x => gb bl x && decide (gi st x = 0)), ()) := by
  obtain ⟨l, h1, h2⟩ := loop_ok (stp := n_sM19 N ((n : Int), (fr, (p, (q, (r, (st, ()))))))) (n := n) (Ok := Upto false n on fun x => gb bl x && decide (gi st x = 0)) (emb := fun k l => ((k : Int), (l, ()))) (fin := fun l => (l, ())) (fun k l hk hl => by
      have e := w_suc k (by omega)
      have hll := hl.1
      refine ⟨l.set k (gb bl k && decide (gi st k = 0)), hl.set hk rfl, fun rec => ?_⟩
      unfold n_sM19
      simp only [e, hf, gtb, gti, hll, hbl, hst, Int.toNat_natCast]
      (repeat (first | refine xt ?_ | refine xf ?_ | refine yt ?_ | refine yf ?_))
      cases hb : gb bl k with
      | true =>
        simp only [cond_true, Bool.true_and]
        (repeat (first | refine xt ?_ | refine xf ?_ | refine yt ?_ | refine yf ?_))
        rfl
      | false =>
        simp only [cond_false, Bool.false_and]
        (repeat (first | refine xt ?_ | refine xf ?_ | refine yt ?_ | refine yf ?_))
        rfl) (fun l rec hl => by
      unfold n_sM19
      simp only
      (repeat (first | refine xt ?_ | refine xf ?_ | refine yt ?_ | refine yf ?_))
      rfl) n 0 on N (by omega) (by omega) (Upto.start hon)
  rw [h1.done] at h2
  exact h2
omit hL in
theorem spec_back_17 {fr : List (Int × List Bool × Int)} {p q r : Int} {bl : List Bool} (hf : (gt fr q).2.1 = bl) (hbl : bl.length = n) {st : List Int} (hst : st.length = n) :
    itN (n_sM17 N ((n : Int), (fr, (p, (q, (r, (st, ()))))))) N ((0 : Int), (on, ())) = some (tab n (fun x => gb bl x && decide (gi st x = 0)), ()) := by
  obtain ⟨l, h1, h2⟩ := loop_ok (stp := n_sM17 N ((n : Int), (fr, (p, (q, (r, (st, ()))))))) (n := n) (Ok := Upto false n on fun x => gb bl x && decide (gi st x = 0)) (emb := fun k l => ((k : Int), (l, ()))) (fin := fun l => (l, ())) (fun k l hk hl => by
      have e := w_suc k (by omega)
      have hll := hl.1
      refine ⟨l.set k (gb bl k && decide (gi st k = 0)), hl.set hk rfl, fun rec => ?_⟩
      unfold n_sM17
      simp only [e, hf, gtb, gti, hll, hbl, hst, Int.toNat_natCast]
      (repeat (first | refine xt ?_ | refine xf ?_ | refine yt ?_ | refine yf ?_))
      cases hb : gb bl k with
      | true =>
        simp only [cond_true, Bool.true_and]
        (repeat (first | refine xt ?_ | refine xf ?_ | refine yt ?_ | refine yf ?_))
        rfl
      | false =>
        simp only [cond_false, Bool.false_and]
        (repeat (first | refine xt ?_ | refine xf ?_ | refine yt ?_ | refine yf ?_))
        rfl) (fun l rec hl => by
      unfold n_sM17
      simp only
      (repeat (first | refine xt ?_ | refine xf ?_ | refine yt ?_ | refine yf ?_))
      rfl) n 0 on N (by omega) (by omega) (Upto.start hon)
  rw [h1.done] at h2
  exact h2
omit hL in
theorem spec_back_21 {fr : List (Int × List Bool × Int)} {p q r : Int} {bl : List Bool} (hf : (gt fr q).2.1 = bl) (hbl : bl.length = n) {st : List Int} (hst : st.length = n) :
    itN (n_sM21 N ((n : Int), (fr, (p, (q, (r, (st, ()))))))) N ((0 : Int), (on, ())) = some (tab n (fun x => gb bl x && decide (gi st x = 0)), ()) := by
  obtain ⟨l, h1, h2⟩ := loop_ok (stp := n_sM21 N ((n : Int), (fr, (p, (q, (r, (st, ()))))))) (n := n) (Ok := Upto false n on fun x => gb bl x && decide (gi st x = 0)) (emb := fun k l => ((k : Int), (l, ()))) (fin := fun l => (l, ())) (fun k l hk hl => by
      have e := w_suc k (by omega)
      have hll := hl.1
      refine ⟨l.set k (gb bl k && decide (gi st k = 0)), hl.set hk rfl, fun rec => ?_⟩
      unfold n_sM21
      simp only [e, hf, gtb, gti, hll, hbl, hst, Int.toNat_natCast]
      (repeat (first | refine xt ?_ | refine xf ?_ | refine yt ?_ | refine yf ?_))
      cases hb : gb bl k with
      | true =>
        simp only [cond_true, Bool.true_and]
        (repeat (first | refine xt ?_ | refine xf ?_ | refine yt ?_ | refine yf ?_))
        rfl
      | false =>
        simp only [cond_false, Bool.false_and]
        (repeat (first | refine xt ?_ | refine xf ?_ | refine yt ?_ | refine yf ?_))
        rfl) (fun l rec hl => by
      unfold n_sM21
      simp only
      (repeat (first | refine xt ?_ | refine xf ?_ | refine yt ?_ | refine yf ?_))
      rfl) n 0 on N (by omega) (by omega) (Upto.start hon)
  rw [h1.done] at h2
  exact h2
end
end Go.Proofs.Ytheemkehedmlfaa.P
