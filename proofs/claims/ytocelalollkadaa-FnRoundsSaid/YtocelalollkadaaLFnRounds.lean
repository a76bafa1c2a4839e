/- Plain lemmas that the proof of FnRounds leans on. -/
import Derived.KernelRfl
import Derived.Laws.Bits64b
import Derived.Test.YtocelalollkadaaD0
import Derived.Test.YtocelalollkadaaD1
import Derived.Test.YtocelalollkadaaD2
namespace Go.Proofs.Ytocelalollkadaa.D
open Go.RowKit Go.Proofs.YtocelalollkadaaW.PrintWords Go.Proofs.YtocelalollkadaaW.PrintLast Go.Proofs.YtocelalollkadaaW.PrintMore
set_option linter.unusedVariables false
set_option linter.unusedSimpArgs false

theorem w64 {x : Int} (h0 : -9223372036854775808 ≤ x) (h1 : x ≤ 9223372036854775807) : wrap64 x = x := by unfold wrap64; omega

theorem rd_at (l : List Int) (j : Nat) (h : j < l.length) : rd l (j : Int) = l[j] := by
  unfold rd
  rw [Int.toNat_natCast]; simp [List.getD_eq_getElem?_getD, h]

theorem Ev.if_pos {α : Type} {c : Prop} [Decidable c] {g f : Nat → Option α} {r : α} (h : c) (k : Ev g r) : Ev (fun n => if c then g n else f n) r := Ev.congr (fun n => _root_.if_pos h) k

theorem Ev.if_neg {α : Type} {c : Prop} [Decidable c] {g f : Nat → Option α} {r : α} (h : ¬ c) (k : Ev f r) : Ev (fun n => if c then g n else f n) r := Ev.congr (fun n => _root_.if_neg h) k

theorem Ev.bind' {α β : Type} {g : Option α} {f : Nat → α → Option β} {a : α} {r : β} (h : g = some a) (k : Ev (fun n => f n a) r) : Ev (fun n => g.bind (f n)) r := Ev.congr (fun n => by rw [h]; rfl) k

theorem Ev.some' {α : Type} {a r : α} (h : a = r) : Ev (fun _ => some a) r := h ▸ Ev.now a

/-- A loop over a list that may end early. -/
def goLoop {σ β : Type} (f : σ → Int → Nat → β ⊕ σ) (fin : σ → β) : σ → List Int → Nat → β
  | s, [], _ => fin s
  | s, x :: xs, j => match f s x j with
    | .inl r => r
    | .inr s' => goLoop f fin s' xs (j + 1)

theorem loopEvAt {σ β : Type} (l : List Int) (g : Nat → σ → Int → Option β) (f : σ → Int → Nat → β ⊕ σ) (fin : σ → β) (Inv : σ → Nat → Prop)
    (h0 : ∀ k s, Inv s l.length → g (k + 1) s (l.length : Int) = some (fin s))
    (h1 : ∀ k s (j : Nat) (h : j < l.length), Inv s j → g (k + 1) s (j : Int) = match f s l[j] j with | .inl r => some r | .inr s' => g k s' ((j + 1 : Nat) : Int))
    (hI : ∀ s (j : Nat) (h : j < l.length) s', Inv s j → f s l[j] j = .inr s' → Inv s' (j + 1)) (s : σ) (j0 : Nat) (hj0 : j0 ≤ l.length) (hs : Inv s j0) :
    Ev (fun k => g k s (j0 : Int)) (goLoop f fin s (l.drop j0) j0) := by
  have key : ∀ d j s, j + d = l.length → Inv s j → Ev (fun k => g k s (j : Int)) (goLoop f fin s (l.drop j) j) := by
    intro d
    induction d with
    | zero =>
      intro j s hj hs
      obtain rfl : j = l.length := by omega
      rw [List.drop_length]
      exact Ev.step (f := fun _ => some (fin s)) (fun k => h0 k s hs) (Ev.now _)
    | succ d ih =>
      intro j s hj hs
      have hlt : j < l.length := by omega
      rw [List.drop_eq_getElem_cons hlt]
      unfold goLoop
      cases hf : f s l[j] j with
      | inl r => exact Ev.step (f := fun _ => some r) (fun k => by rw [h1 k s j hlt hs, hf]) (Ev.now _)
      | inr s' => exact Ev.step (f := fun k => g k s' ((j + 1 : Nat) : Int)) (fun k => by rw [h1 k s j hlt hs, hf]) (ih (j + 1) s' (by omega) (hI s j hlt s' hs hf))
  exact key (l.length - j0) j0 s (by omega) hs

/-- What holds of a loop's answer. -/
theorem goLoop_post {σ β : Type} {f : σ → Int → Nat → β ⊕ σ} {fin : σ → β} (l : List Int) (Inv : σ → Nat → Prop) (Post : β → Prop)
    (hfin : ∀ s, Inv s l.length → Post (fin s)) (hout : ∀ s (j : Nat) (h : j < l.length) r, Inv s j → f s l[j] j = .inl r → Post r)
    (hI : ∀ s (j : Nat) (h : j < l.length) s', Inv s j → f s l[j] j = .inr s' → Inv s' (j + 1)) (s : σ) (j0 : Nat) (hj0 : j0 ≤ l.length) (hs : Inv s j0) :
    Post (goLoop f fin s (l.drop j0) j0) := by
  have key : ∀ d j s, j + d = l.length → Inv s j → Post (goLoop f fin s (l.drop j) j) := by
    intro d
    induction d with
    | zero =>
      intro j s hj hs
      obtain rfl : j = l.length := by omega
      rw [List.drop_length]
      exact hfin s hs
    | succ d ih =>
      intro j s hj hs
      have hlt : j < l.length := by omega
      rw [List.drop_eq_getElem_cons hlt]
      unfold goLoop
      cases hf : f s l[j] j with
      | inl r => exact hout s j hlt r hs hf
      | inr s' => exact ih (j + 1) s' (by omega) (hI s j hlt s' hs hf)
  exact key (l.length - j0) j0 s (by omega) hs

theorem u64w {x : Int} (h0 : 0 ≤ x) (h1 : x ≤ 4611686018427387904) : IntKind.u64.wrap x = x := by
  unfold IntKind.wrap
  simp [IntKind.signed, IntKind.bits]
  omega

/-- A loop whose end goes on. -/
theorem loopEvE {σ β : Type} (l : List Int) (g : Nat → σ → Int → Option β) (f : σ → Int → Nat → β ⊕ σ) (fin : σ → β) (Inv : σ → Nat → Prop)
    (h0 : ∀ s, Inv s l.length → Ev (fun k => g k s (l.length : Int)) (fin s))
    (h1 : ∀ k s (j : Nat) (h : j < l.length), Inv s j → g (k + 1) s (j : Int) = match f s l[j] j with | .inl r => some r | .inr s' => g k s' ((j + 1 : Nat) : Int))
    (hI : ∀ s (j : Nat) (h : j < l.length) s', Inv s j → f s l[j] j = .inr s' → Inv s' (j + 1)) (s : σ) (j0 : Nat) (hj0 : j0 ≤ l.length) (hs : Inv s j0) :
    Ev (fun k => g k s (j0 : Int)) (goLoop f fin s (l.drop j0) j0) := by
  have key : ∀ d j s, j + d = l.length → Inv s j → Ev (fun k => g k s (j : Int)) (goLoop f fin s (l.drop j) j) := by
    intro d
    induction d with
    | zero =>
      intro j s hj hs
      obtain rfl : j = l.length := by omega
      rw [List.drop_length]
      exact h0 s hs
    | succ d ih =>
      intro j s hj hs
      have hlt : j < l.length := by omega
      rw [List.drop_eq_getElem_cons hlt]
      unfold goLoop
      cases hf : f s l[j] j with
      | inl r => exact Ev.step (f := fun _ => some r) (fun k => by rw [h1 k s j hlt hs, hf]) (Ev.now _)
      | inr s' => exact Ev.step (f := fun k => g k s' ((j + 1 : Nat) : Int)) (fun k => by rw [h1 k s j hlt hs, hf]) (ih (j + 1) s' (by omega) (hI s j hlt s' hs hf))
  exact key (l.length - j0) j0 s (by omega) hs

/-- m is the greatest number of a list. -/
def Top (l : List Int) (m : Int) : Prop := (∀ i (hi : i < l.length), l[i] ≤ m) ∧ ∃ i, ∃ hi : i < l.length, m = l[i]

theorem Top.unique {l : List Int} {m n : Int} (h : Top l m) (h' : Top l n) : m = n := by
  obtain ⟨h1, i, hi, rfl⟩ := h
  obtain ⟨h2, j, hj, rfl⟩ := h'
  have a := h1 j hj
  have b := h2 i hi
  omega

theorem max_ends (l : List Int) (h0 : 0 < l.length) (hl : l.length ≤ 1048577) : ∃ m, Ev (fun k => slices_Max_int64_int64.f k l) m ∧ Top l m := by
  have hstart : (∀ i (hi : i < l.length), i < 1 → l[i] ≤ rd l 0) ∧ ∃ i, ∃ hi : i < l.length, rd l 0 = l[i] := by
    refine ⟨fun i hi hij => ?_, 0, h0, rd_at l 0 h0⟩
    obtain rfl : i = 0 := by omega
    exact Int.le_of_eq (rd_at l 0 h0).symm
  refine ⟨goLoop (σ := Int) (β := Int) (fun s x j => .inr (mx s x)) (fun s => s) (rd l 0) (l.drop 1) 1, ?_, ?_⟩
  · unfold slices_Max_int64_int64.f
    refine Ev.if_neg (by omega) (Ev.if_pos (by omega) ?_)
    exact loopEvAt (σ := Int) (β := Int) l (fun k s i => slices_Max_int64_int64.l0 k l s i) (fun s x j => .inr (mx s x)) (fun s => s) (fun _ _ => True)
      (fun k s _ => by simp only [slices_Max_int64_int64.l0]; rw [_root_.if_neg (by omega)])
      (fun k s j hj hs => by
        simp only [slices_Max_int64_int64.l0]
        rw [_root_.if_pos (by omega), _root_.if_pos (by omega), rd_at _ _ hj, w64 (x := (j : Int) + 1) (by omega) (by omega)]; rfl)
      (fun _ _ _ _ _ _ => trivial) (rd l 0) 1 (by omega) trivial
  · exact goLoop_post (σ := Int) (β := Int) (f := fun s x j => .inr (mx s x)) (fin := fun s => s) l (fun s j => (∀ i (hi : i < l.length), i < j → l[i] ≤ s) ∧ ∃ i, ∃ hi : i < l.length, s = l[i]) (fun s => Top l s)
      (fun s hs => ⟨fun i hi => hs.1 i hi hi, hs.2⟩) (fun s j hj r _ hf => by cases hf)
      (fun s j hj s' hs hf => by
        obtain ⟨h1, i, hi, rfl⟩ := hs
        cases hf
        unfold mx
        by_cases hlt : l[i] < l[j]
        · rw [_root_.if_pos hlt]
          refine ⟨fun i' hi' hij => ?_, j, hj, rfl⟩
          by_cases e : i' = j
          · subst e; exact Int.le_refl _
          · have := h1 i' hi' (by omega); omega
        · rw [_root_.if_neg hlt]
          refine ⟨fun i' hi' hij => ?_, i, hi, rfl⟩
          by_cases e : i' = j
          · subst e; omega
          · exact h1 i' hi' (by omega)) (rd l 0) 1 (by omega) hstart

/-- One more of x. -/
def more (c : List Int) (x : Int) : List Int := c.set x.toNat (wrap64 (rd c x + 1))

theorem more_length (c : List Int) (x : Int) : (more c x).length = c.length := by simp [more]

theorem more_get (c : List Int) (x : Int) (h0 : 0 ≤ x) (hx : x < c.length) (j : Int) (hc : ∀ i (hi : i < c.length), 0 ≤ c[i] ∧ c[i] ≤ j) (hj : j ≤ 1048577) (i : Nat) (hi : i < (more c x).length) :
    (more c x)[i] = if i = x.toNat then c[x.toNat]'(by omega) + 1 else c[i]'(by rw [more_length] at hi; exact hi) := by
  obtain ⟨n, rfl⟩ := Int.eq_ofNat_of_zero_le h0
  have hn : n < c.length := by omega
  have hb := hc n hn
  simp only [more, Int.toNat_natCast, List.getElem_set]
  by_cases e : i = n
  · subst e
    simp only [if_true]
    rw [rd_at c i hn, w64 (by omega) (by omega)]
  · rw [_root_.if_neg (fun h => e h.symm), _root_.if_neg e]

def cntStep (s : List Int × Int) (x : Int) (_ : Nat) : (List Int × Int × Bool) ⊕ (List Int × Int) := .inr (more s.1 x, if s.2 > rd (more s.1 x) x then s.2 else rd (more s.1 x) x)

def cntEnd (s : List Int × Int) : List Int × Int × Bool := (s.1, s.2, true)

def CntInv (n : Nat) (s : List Int × Int) (j : Nat) : Prop := s.1.length = n ∧ (∀ i (hi : i < s.1.length), 0 ≤ s.1[i] ∧ s.1[i] ≤ j) ∧ Top s.1 s.2

theorem cnt_step {n : Nat} {s : List Int × Int} {j : Nat} {x : Int} (h : CntInv n s j) (h0 : 0 ≤ x) (hx : x < n) (hj : j ≤ 1048576) :
    CntInv n (more s.1 x, if s.2 > rd (more s.1 x) x then s.2 else rd (more s.1 x) x) (j + 1) := by
  obtain ⟨hl, hc, ht, i0, hi0, he⟩ := h
  have hxl : x < s.1.length := by omega
  have hg := more_get s.1 x h0 hxl j (fun i hi => hc i hi) (by omega)
  obtain ⟨q, rfl⟩ := Int.eq_ofNat_of_zero_le h0
  have hq : q < s.1.length := by omega
  have hr : rd (more s.1 (q : Int)) (q : Int) = s.1[q] + 1 := by
    rw [rd_at _ q (by rw [more_length]; exact hq), hg q (by rw [more_length]; exact hq)]
    simp
  rw [hr]
  simp only [Int.toNat_natCast] at hg
  refine ⟨by rw [more_length]; exact hl, fun i hi => ?_, fun i hi => ?_, ?_⟩
  · rw [hg i hi]
    split
    · have := hc q hq; omega
    · have := hc i (by rw [more_length] at hi; exact hi); omega
  · rw [hg i hi]
    dsimp only
    split
    · split <;> omega
    · have := ht i (by rw [more_length] at hi; exact hi)
      split <;> omega
  · dsimp only
    by_cases h2 : s.2 > s.1[q] + 1
    · rw [_root_.if_pos h2]
      have hne : i0 ≠ q := by rintro rfl; omega
      refine ⟨i0, by rw [more_length]; exact hi0, ?_⟩
      rw [hg i0 (by rw [more_length]; exact hi0), _root_.if_neg hne]
      exact he
    · rw [_root_.if_neg h2]
      refine ⟨q, by rw [more_length]; exact hq, ?_⟩
      rw [hg q (by rw [more_length]; exact hq), _root_.if_pos rfl]

theorem cnt_zero (n : Nat) (hn : 0 < n) : CntInv n (List.replicate n 0, 0) 0 := by
  refine ⟨by simp, fun i hi => by simp, fun i hi => by simp, 0, by simpa using hn, by simp⟩

theorem below_all (l : List Int) (a : Int) : impl_areAll_int64_at_impl_CountLanesWith_1.f l a = some (l.all fun x => inB x 0 (wrap64 (a - 1))) := by
  unfold impl_areAll_int64_at_impl_CountLanesWith_1.f
  exact allO_total l (fun x _ => rfl)

/-- What CountLanesWith answers. -/
def cntOf (l : List Int) (a : Int) : List Int × Int × Bool :=
  if inB a 1 64 = true ∧ (lanesB l.length && l.all fun x => inB x 0 (wrap64 (a - 1))) = true then goLoop cntStep cntEnd (List.replicate a.toNat 0, 0) l 0 else ([], 0, false)

theorem cnt_range {l : List Int} {a : Int} (h1 : inB a 1 64 = true) (h2 : (l.all fun x => inB x 0 (wrap64 (a - 1))) = true) : 1 ≤ a ∧ a ≤ 64 ∧ ∀ j (hj : j < l.length), 0 ≤ l[j] ∧ l[j] < a := by
  have ha : 1 ≤ a ∧ a ≤ 64 := by simpa [inB] using h1
  refine ⟨ha.1, ha.2, fun j hj => ?_⟩
  have := List.all_eq_true.1 h2 l[j] (List.getElem_mem hj)
  rw [w64 (by omega) (by omega)] at this
  simp [inB] at this
  omega

theorem CountLanesWith_eq (l : List Int) (a : Int) (hl : l.length ≤ 1048576) : Ev (fun k => impl_CountLanesWith.f k l a) (cntOf l a) := by
  unfold impl_CountLanesWith.f cntOf
  refine Ev.bind' (a := (l.length : Int)) rfl (Ev.bind' (a := lanesB l.length) rfl ?_)
  by_cases h1 : lanesB l.length = true
  · refine Ev.if_pos h1 (Ev.bind' (a := inB a 1 64) rfl ?_)
    by_cases h2 : inB a 1 64 = true
    · refine Ev.if_pos h2 (Ev.bind' (below_all l a) (Ev.step (fun k => impl_CountLanesWith.j0.eq_2 _ _ _ _) ?_))
      by_cases h3 : (l.all fun x => inB x 0 (wrap64 (a - 1))) = true
      · obtain ⟨ha, ha2, hx⟩ := cnt_range h2 h3
        rw [_root_.if_pos ⟨h2, by rw [h1, h3]; rfl⟩]
        refine Ev.if_neg (by simp [h3]) (Ev.if_pos (by omega) (Ev.if_pos (by omega) ?_))
        have hp := loopEvE (σ := List Int × Int) (β := List Int × Int × Bool) l (fun k s i => impl_CountLanesWith.l0 k s.1 l (l.length : Int) i) cntStep cntEnd (fun s j => CntInv a.toNat s j)
          (fun s hs => by
            obtain ⟨m, hm, ht⟩ := max_ends s.1 (by rw [hs.1]; omega) (by rw [hs.1]; omega)
            have e := Top.unique ht hs.2.2
            refine Ev.step (fun k => impl_CountLanesWith.l0.eq_2 _ _ _ _ _) (Ev.if_neg (by omega) (Ev.bind hm (Ev.some' ?_)))
            rw [e]; rfl)
          (fun k s j hj hs => by
            have := hx j hj
            simp only [impl_CountLanesWith.l0]
            rw [_root_.if_pos (by omega), _root_.if_pos (by omega), _root_.if_pos (by omega), rd_at _ _ hj, _root_.if_pos (by omega), _root_.if_pos (by rw [hs.1]; omega), w64 (x := (j : Int) + 1) (by omega) (by omega)]
            rfl)
          (fun s j hj s' hs hf => by
            cases hf
            have := hx j hj
            exact cnt_step hs this.1 (by omega) (by omega)) (List.replicate a.toNat 0, 0) 0 (by omega) (cnt_zero _ (by omega))
        exact hp
      · rw [_root_.if_neg (by rw [h1]; simp [h3])]
        exact Ev.if_pos (by simp [h3]) (Ev.now _)
    · rw [_root_.if_neg (by simp [h2])]
      exact Ev.if_neg h2 (Ev.step (fun k => impl_CountLanesWith.j0.eq_2 _ _ _ _) (Ev.if_pos rfl (Ev.now _)))
  · rw [_root_.if_neg (by simp [h1])]
    exact Ev.if_neg h1 (Ev.step (fun k => impl_CountLanesWith.j0.eq_2 _ _ _ _) (Ev.if_pos rfl (Ev.now _)))

theorem wf8 {x : Int} (h : (Lit.int .u8 x).wf = true) : 0 ≤ x ∧ x ≤ 255 := by
  have : IntKind.u8.min ≤ x ∧ x ≤ IntKind.u8.max := by simpa [Lit.wf] using h
  simp [IntKind.min, IntKind.max, IntKind.signed, IntKind.bits] at this
  omega

theorem u64_nat (x : Int) : ∃ n : Nat, IntKind.u64.wrap x = n ∧ n < 18446744073709551616 := by
  refine ⟨(IntKind.u64.wrap x).toNat, ?_⟩
  unfold IntKind.wrap
  simp [IntKind.signed, IntKind.bits]
  omega

theorem low_byte (x : Int) : ∃ n : Nat, Go.bits .and .u64 (IntKind.u64.wrap x / 1099511627776) 255 = n ∧ n ≤ 255 := by
  obtain ⟨n, h, hn⟩ := u64_nat x
  refine ⟨n / 1099511627776 &&& 255, ?_, Nat.and_le_right⟩
  rw [h]
  exact bits_and_u64_nat (n / 1099511627776) 255 (by omega) (by omega)

theorem next_eq (l : List Int) (p c : Int) (hb : ∀ x ∈ l, 0 ≤ x ∧ x ≤ 255) (h0 : 0 ≤ p) (h1 : p ≤ 4611686018427387904) :
    ∃ v c', spec_l00Src_next.f l p c = some (v, p + 1, c') ∧ 0 ≤ v ∧ v ≤ 255 := by
  have e : wrap64 (p + 1) = p + 1 := w64 (by omega) (by omega)
  unfold spec_l00Src_next.f
  rw [e]
  by_cases h : p < (l.length : Int)
  · obtain ⟨j, rfl⟩ := Int.eq_ofNat_of_zero_le h0
    have hj : j < l.length := by omega
    have := hb l[j] (List.getElem_mem hj)
    rw [_root_.if_pos h, _root_.if_pos h0, _root_.if_pos (by omega), rd_at l j hj, w64 (x := l[j]) (by omega) (by omega)]
    exact ⟨_, _, rfl, this.1, this.2⟩
  · rw [_root_.if_neg h, _root_.if_neg (by omega)]
    obtain ⟨n, hn, hn'⟩ := low_byte (IntKind.u64.wrap (IntKind.u64.wrap (c * 6364136223846793005)) + 1442695040888963407)
    rw [hn, w64 (x := (n : Int)) (by omega) (by omega)]
    exact ⟨_, _, rfl, by omega, by omega⟩

theorem pick_eq (l : List Int) (p c n : Int) (hb : ∀ x ∈ l, 0 ≤ x ∧ x ≤ 255) (h0 : 0 ≤ p) (h1 : p ≤ 4611686018427387000) (hn : 1 ≤ n) (hn' : n ≤ 65536) :
    ∃ v p' c', spec_l00Src_pick.f l p c n = some (v, p', c') ∧ 0 ≤ v ∧ v < n ∧ p ≤ p' ∧ p' ≤ p + 2 := by
  unfold spec_l00Src_pick.f
  by_cases h : n ≤ 1
  · rw [_root_.if_pos h]
    exact ⟨_, _, _, rfl, by omega, by omega, by omega, by omega⟩
  · rw [_root_.if_neg h]
    obtain ⟨v, c', e, hv, hv'⟩ := next_eq l p c hb h0 (by omega)
    rw [e]
    simp only [Option.bind_some]
    by_cases h2 : n > 200
    · rw [_root_.if_pos h2]
      obtain ⟨v2, c2, e2, hv2, hv2'⟩ := next_eq l (p + 1) c' hb (by omega) (by omega)
      rw [e2]
      simp only [Option.bind_some]
      rw [_root_.if_neg (by omega), w64 (x := v * 256) (by omega) (by omega), w64 (x := v * 256 + v2) (by omega) (by omega)]
      exact ⟨_, _, _, rfl, Int.tmod_nonneg _ (by omega), Int.tmod_lt_of_pos _ (by omega), by omega, by omega⟩
    · rw [_root_.if_neg h2, _root_.if_neg (by omega)]
      exact ⟨_, _, _, rfl, Int.tmod_nonneg _ hv, Int.tmod_lt_of_pos _ (by omega), by omega, by omega⟩

theorem among_eq (l q : List Int) (p c : Int) (hb : ∀ x ∈ l, 0 ≤ x ∧ x ≤ 255) (h0 : 0 ≤ p) (h1 : p ≤ 4611686018427387000) (hq : 1 ≤ q.length) (hq' : q.length ≤ 65536) :
    ∃ v p' c', spec_l00Src_among.f l p c q = some (v, p', c') ∧ v ∈ q ∧ p ≤ p' ∧ p' ≤ p + 2 := by
  unfold spec_l00Src_among.f
  obtain ⟨v, p', c', e, hv, hv', hp, hp'⟩ := pick_eq l p c q.length hb h0 h1 (by omega) (by omega)
  rw [e]
  simp only [Option.bind_some]
  rw [_root_.if_pos hv, _root_.if_pos hv']
  obtain ⟨j, rfl⟩ := Int.eq_ofNat_of_zero_le hv
  rw [rd_at q j (by omega)]
  exact ⟨_, _, _, rfl, List.getElem_mem _, hp, hp'⟩

theorem R8Lanes_eq (l : List Int) (hb : ∀ x ∈ l, 0 ≤ x ∧ x ≤ 255) : ∃ n, spec_R8Lanes.f l = some n ∧ (n = 2 ∨ n = 4 ∨ n = 8 ∨ n = 16) := by
  unfold spec_R8Lanes.f spec_l00From.f
  simp only [Option.bind_some]
  obtain ⟨v, p', c', e, hv, _⟩ := among_eq l [2, 4, 8, 16] 0 0 hb (by omega) (by omega) (by simp) (by simp)
  rw [e]
  exact ⟨v, rfl, by simpa using hv⟩

theorem at_eq (l : List Int) (j : Nat) (n : Int) (hb : ∀ x ∈ l, 0 ≤ x ∧ x ≤ 255) (hn : 1 ≤ n) : ∃ v : Nat, laws_r8At.f l (j : Int) n = some (v : Int) ∧ (v : Int) < n := by
  unfold laws_r8At.f
  by_cases h1 : n ≤ 1
  · rw [_root_.if_pos h1]; exact ⟨0, rfl, by omega⟩
  · rw [_root_.if_neg h1]
    by_cases h2 : (j : Int) ≥ (l.length : Int)
    · rw [_root_.if_pos h2]; exact ⟨0, rfl, by omega⟩
    · have hj : j < l.length := by omega
      have := hb l[j] (List.getElem_mem hj)
      rw [_root_.if_neg h2, _root_.if_pos (by omega), _root_.if_pos (by omega), _root_.if_neg (by omega), rd_at l j hj, w64 (x := l[j]) (by omega) (by omega)]
      have h3 := Int.tmod_nonneg n this.1
      have h4 := Int.tmod_lt_of_pos l[j] (b := n) (by omega)
      exact ⟨(Int.tmod l[j] n).toNat, by congr 1; omega, by omega⟩

/-- A mask's number. -/
def numOf : List Nat → Nat
  | [] => 0
  | m :: M => m + 2 * numOf M

theorem numOf_lt : ∀ M : List Nat, (∀ x ∈ M, x ≤ 1) → numOf M < 2 ^ M.length
  | [], _ => by simp [numOf]
  | m :: M, h => by
    have h1 := h m (by simp)
    have h2 := numOf_lt M (fun x hx => h x (by simp [hx]))
    simp only [numOf, List.length_cons, Nat.pow_succ]
    omega

theorem numOf_snoc : ∀ (M : List Nat) (m : Nat), numOf (M ++ [m]) = numOf M + m * 2 ^ M.length
  | [], m => by simp [numOf]
  | x :: M, m => by
    simp only [List.cons_append, numOf, numOf_snoc M m, List.length_cons, Nat.pow_succ]
    rw [← Nat.mul_assoc, Nat.mul_comm _ 2]
    omega

theorem numOf_bit : ∀ (M : List Nat) (j : Nat) (h : j < M.length), (∀ x ∈ M, x ≤ 1) → numOf M / 2 ^ j % 2 = M[j]
  | [], j, h, _ => by simp at h
  | m :: M, 0, h, hm => by
    have := hm m (by simp)
    simp only [numOf, Nat.pow_zero, Nat.div_one, List.getElem_cons_zero]
    omega
  | m :: M, j + 1, h, hm => by
    have h1 := hm m (by simp)
    have h2 := numOf_bit M j (by simpa using h) (fun x hx => hm x (by simp [hx]))
    simp only [numOf, List.getElem_cons_succ]
    rw [Nat.pow_succ, Nat.mul_comm (2 ^ j) 2, ← Nat.div_div_eq_div_mul, show (m + 2 * numOf M) / 2 = numOf M by omega]
    exact h2

theorem shl_nat (m j : Nat) (hm : m ≤ 1) (hj : j ≤ 60) : shl .i64 (m : Int) (j : Int) = ((m * 2 ^ j : Nat) : Int) := by
  unfold shl
  have e : min (j : Int).toNat (IntKind.i64).bits = j := by simp [IntKind.bits]; omega
  rw [e]
  have h2 : 2 ^ j ≤ 2 ^ 60 := Nat.pow_le_pow_right (by omega) hj
  have h3 : m * 2 ^ j ≤ 1 * 2 ^ j := Nat.mul_le_mul_right _ hm
  have e2 : (m : Int) * 2 ^ j = ((m * 2 ^ j : Nat) : Int) := by simp
  rw [e2, IntKind.wrap_i64]
  omega

theorem bits_one (n : Int) : Go.bits .and .i64 n 1 = n % 2 := by
  have h127 : (BitVec.ofInt 64 1).toNat = 2 ^ 1 - 1 := by decide
  have key : (BitVec.ofInt 64 n &&& BitVec.ofInt 64 1).toNat = (n % ((2 ^ 64 : Nat) : Int)).toNat % 2 ^ 1 := by
    rw [BitVec.toNat_and, BitVec.toNat_ofInt, h127, Nat.and_two_pow_sub_one_eq_mod]
  show IntKind.i64.wrap ((BitVec.ofInt 64 n &&& BitVec.ofInt 64 1).toNat : Nat) = n % 2
  rw [key, IntKind.wrap_i64]
  omega

theorem bit_at (M : List Nat) (j : Nat) (h : j < M.length) (hl : M.length ≤ 60) (hm : ∀ x ∈ M, x ≤ 1) : Go.bits .and .i64 (shr .i64 ((numOf M : Nat) : Int) (j : Int)) 1 = (M[j] : Int) := by
  rw [bits_one]
  unfold shr
  have e : min (j : Int).toNat (IntKind.i64).bits = j := by simp [IntKind.bits]; omega
  rw [e, ← numOf_bit M j h hm]
  simp

def cntN (x : Int) : List Int → Nat
  | [] => 0
  | y :: l => (if y = x then 1 else 0) + cntN x l

theorem cntN_le (x : Int) : ∀ l, cntN x l ≤ l.length
  | [] => by simp [cntN]
  | y :: l => by
    have := cntN_le x l
    unfold cntN
    split <;> simp <;> omega

theorem r8Count_go (x : Int) (l : List Int) (hl : l.length ≤ 1000) : ∀ (d j c : Nat), j + d = l.length → c ≤ j → Ev (fun k => laws_r8Count.l0 k l x (c : Int) (j : Int)) ((c + cntN x (l.drop j) : Nat) : Int) := by
  intro d
  induction d with
  | zero =>
    intro j c hj hc
    rw [List.drop_of_length_le (by omega)]
    exact Ev.step (fun k => laws_r8Count.l0.eq_2 _ _ _ _ _) (Ev.if_neg (by omega) (Ev.now _))
  | succ d ih =>
    intro j c hj hc
    have hj' : j < l.length := by omega
    rw [List.drop_eq_getElem_cons hj', cntN]
    refine Ev.step (fun k => laws_r8Count.l0.eq_2 _ _ _ _ _) (Ev.if_pos (by omega) (Ev.if_pos (by omega) ?_))
    rw [rd_at l j hj', w64 (x := (j : Int) + 1) (by omega) (by omega)]
    by_cases e : l[j] = x
    · refine Ev.if_pos e ?_
      rw [w64 (x := (c : Int) + 1) (by omega) (by omega), _root_.if_pos e, ← Nat.add_assoc]
      exact ih (j + 1) (c + 1) (by omega) (by omega)
    · refine Ev.if_neg e ?_
      rw [_root_.if_neg e, Nat.zero_add]
      exact ih (j + 1) c (by omega) (by omega)

theorem r8Count_eq (x : Int) (l : List Int) (hl : l.length ≤ 1000) : Ev (fun k => laws_r8Count.f k l x) ((cntN x l : Nat) : Int) := by
  have := r8Count_go x l hl l.length 0 0 (by omega) (by omega)
  simpa [laws_r8Count.f] using this

end Go.Proofs.Ytocelalollkadaa.D
