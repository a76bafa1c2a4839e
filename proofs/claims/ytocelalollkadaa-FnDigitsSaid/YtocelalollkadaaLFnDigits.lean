/- Plain lemmas that the proof of FnDigits leans on. -/
import Derived.KernelRfl
import Derived.Laws.Bits64b
import Derived.Test.YtocelalollkadaaQ0
import Derived.Test.YtocelalollkadaaQ1
import Derived.Test.YtocelalollkadaaQ3
import Derived.Test.YtocelalollkadaaQ9
namespace Go.Proofs.Ytocelalollkadaa.Q
open Go.RowKit Go.Proofs.YtocelalollkadaaW.PrintWords Go.Proofs.YtocelalollkadaaW.PrintLast Go.Proofs.YtocelalollkadaaW.PrintMore
set_option linter.unusedVariables false
set_option linter.unusedSimpArgs false

theorem w64 {x : Int} (h0 : -9223372036854775808 ≤ x) (h1 : x ≤ 9223372036854775807) : wrap64 x = x := by unfold wrap64; omega
theorem rd_at (l : List Int) (j : Nat) (h : j < l.length) : rd l (j : Int) = l[j] := by
  unfold rd
  rw [Int.toNat_natCast]; simp [List.getD_eq_getElem?_getD, h]

theorem Ev.if_pos {α : Type} {c : Prop} [Decidable c] {g f : Nat → Option α} {r : α} (h : c) (k : Ev g r) : Ev (fun n => if c then g n else f n) r := Ev.congr (fun n => _root_.if_pos h) k
theorem Ev.if_neg {α : Type} {c : Prop} [Decidable c] {g f : Nat → Option α} {r : α} (h : ¬ c) (k : Ev f r) : Ev (fun n => if c then g n else f n) r := Ev.congr (fun n => _root_.if_neg h) k
theorem Ev.bind' {α β : Type} {g : Option α} {f : Nat → α → Option β} {a : α} {r : β} (h : g = some a) (k : Ev (fun n => f n a) r) : Ev (fun n => g.bind (f n)) r := Ev.congr (fun n => by rw [h]; rfl) k
theorem Ev.some' {α : Type} {a r : α} (h : a = r) : Ev (fun _ => some a) r := h ▸ Ev.now a

/-- A loop over a list that may end early. -/
def goLoop {σ β : Type} (f : σ → Int → Nat → β ⊕ σ) (fin : σ → β) : σ → List Int → Nat → β
  | s, [], _ => fin s
  | s, x :: xs, j => match f s x j with
    | .inl r => r
    | .inr s' => goLoop f fin s' xs (j + 1)
theorem loopEv {σ β : Type} (l : List Int) (g : Nat → σ → Int → Option β) (f : σ → Int → Nat → β ⊕ σ) (fin : σ → β) (Inv : σ → Nat → Prop)
    (h0 : ∀ k s, Inv s l.length → g (k + 1) s (l.length : Int) = some (fin s))
    (h1 : ∀ k s (j : Nat) (h : j < l.length), Inv s j → g (k + 1) s (j : Int) = match f s l[j] j with | .inl r => some r | .inr s' => g k s' ((j + 1 : Nat) : Int))
    (hI : ∀ s (j : Nat) (h : j < l.length) s', Inv s j → f s l[j] j = .inr s' → Inv s' (j + 1)) (s : σ) (hs : Inv s 0) :
    Ev (fun k => g k s 0) (goLoop f fin s l 0) := by
  have key : ∀ d j s, j + d = l.length → Inv s j → Ev (fun k => g k s (j : Int)) (goLoop f fin s (l.drop j) j) := by
    intro d
    induction d with
    | zero =>
      intro j s hj hs
      obtain rfl : j = l.length := by omega
      rw [List.drop_length]
      exact Ev.step (f := fun _ => some (fin s)) (fun k => h0 k s hs) (Ev.now _)
    | succ d ih =>
      intro j s hj hs
      have hlt : j < l.length := by omega
      rw [List.drop_eq_getElem_cons hlt]
      unfold goLoop
      cases hf : f s l[j] j with
      | inl r => exact Ev.step (f := fun _ => some r) (fun k => by rw [h1 k s j hlt hs, hf]) (Ev.now _)
      | inr s' => exact Ev.step (f := fun k => g k s' ((j + 1 : Nat) : Int)) (fun k => by rw [h1 k s j hlt hs, hf]) (ih (j + 1) s' (by omega) (hI s j hlt s' hs hf))
  simpa using key l.length 0 s (by omega) hs

/-- What holds of a loop's answer. -/
theorem goLoop_post {σ β : Type} {f : σ → Int → Nat → β ⊕ σ} {fin : σ → β} (l : List Int) (Inv : σ → Nat → Prop) (Post : β → Prop)
    (hfin : ∀ s, Inv s l.length → Post (fin s)) (hout : ∀ s (j : Nat) (h : j < l.length) r, Inv s j → f s l[j] j = .inl r → Post r)
    (hI : ∀ s (j : Nat) (h : j < l.length) s', Inv s j → f s l[j] j = .inr s' → Inv s' (j + 1)) (s : σ) (j0 : Nat) (hj0 : j0 ≤ l.length) (hs : Inv s j0) :
    Post (goLoop f fin s (l.drop j0) j0) := by
  have key : ∀ d j s, j + d = l.length → Inv s j → Post (goLoop f fin s (l.drop j) j) := by
    intro d
    induction d with
    | zero =>
      intro j s hj hs
      obtain rfl : j = l.length := by omega
      rw [List.drop_length]
      exact hfin s hs
    | succ d ih =>
      intro j s hj hs
      have hlt : j < l.length := by omega
      rw [List.drop_eq_getElem_cons hlt]
      unfold goLoop
      cases hf : f s l[j] j with
      | inl r => exact hout s j hlt r hs hf
      | inr s' => exact ih (j + 1) s' (by omega) (hI s j hlt s' hs hf)
  exact key (l.length - j0) j0 s (by omega) hs

theorem digits_all (l : List Int) : impl_areAll_int64_at_impl_DigitsToNumber_1.f l = some (l.all fun d => inB d 0 9) := by
  unfold impl_areAll_int64_at_impl_DigitsToNumber_1.f
  exact allO_total l (fun x _ => rfl)
def numW (l : List Int) : Int := goLoop (β := Int) (fun s x _ => .inr (wrap64 (wrap64 (10 * s) + x))) (fun s => s) 0 l 0
theorem num_pair : ∀ (m : List Int) s j, goLoop (β := Int × Bool) (fun s x _ => .inr (wrap64 (wrap64 (10 * s) + x))) (fun s => (s, true)) s m j =
    (goLoop (β := Int) (fun s x _ => .inr (wrap64 (wrap64 (10 * s) + x))) (fun s => s) s m j, true)
  | [], _, _ => rfl
  | x :: xs, s, j => num_pair xs _ (j + 1)
theorem DigitsToNumber_eq (l : List Int) (hl : l.length ≤ 1048576) : Ev (fun k => impl_DigitsToNumber.f k l) (if (lanesB l.length && l.all fun d => inB d 0 9) = true then (numW l, true) else (0, false)) := by
  unfold impl_DigitsToNumber.f
  refine Ev.bind' (a := (l.length : Int)) rfl (Ev.bind' (a := lanesB l.length) rfl ?_)
  by_cases h1 : lanesB l.length = true
  · refine Ev.if_pos h1 (Ev.bind' (digits_all l) (Ev.step (fun k => impl_DigitsToNumber.j0.eq_2 _ _ _) ?_))
    by_cases h2 : (l.all fun d => inB d 0 9) = true
    · refine Ev.if_neg (by simp [h2]) ?_
      rw [h1, h2]
      show Ev _ (numW l, true)
      unfold numW
      rw [← num_pair]
      exact loopEv l (fun k s i => impl_DigitsToNumber.l0 k s l (l.length : Int) i) _ _ (fun _ _ => True)
        (fun k s _ => by simp only [impl_DigitsToNumber.l0]; rw [_root_.if_neg (by omega)])
        (fun k s j hj _ => by
          simp only [impl_DigitsToNumber.l0]
          rw [_root_.if_pos (by omega), _root_.if_pos (by omega), _root_.if_pos (by omega), rd_at _ _ hj, w64 (x := (j : Int) + 1) (by omega) (by omega)]; rfl)
        (fun _ _ _ _ _ _ => trivial) 0 trivial
    · exact Ev.if_pos (by simp [h2]) (Ev.some' (by simp [h2]))
  · exact Ev.if_neg h1 (Ev.step (fun k => impl_DigitsToNumber.j0.eq_2 _ _ _) (Ev.if_pos rfl (Ev.some' (by simp [h1]))))

theorem wf8 {x : Int} (h : (Lit.int .u8 x).wf = true) : 0 ≤ x ∧ x ≤ 255 := by
  have : IntKind.u8.min ≤ x ∧ x ≤ IntKind.u8.max := by simpa [Lit.wf] using h
  simp [IntKind.min, IntKind.max, IntKind.signed, IntKind.bits] at this
  omega

theorem u64_nat (x : Int) : ∃ n : Nat, IntKind.u64.wrap x = n ∧ n < 18446744073709551616 := by
  refine ⟨(IntKind.u64.wrap x).toNat, ?_⟩
  unfold IntKind.wrap
  simp [IntKind.signed, IntKind.bits]
  omega
theorem low_byte (x : Int) : ∃ n : Nat, Go.bits .and .u64 (IntKind.u64.wrap x / 1099511627776) 255 = n ∧ n ≤ 255 := by
  obtain ⟨n, h, hn⟩ := u64_nat x
  refine ⟨n / 1099511627776 &&& 255, ?_, Nat.and_le_right⟩
  rw [h]
  exact bits_and_u64_nat (n / 1099511627776) 255 (by omega) (by omega)
theorem next_eq (l : List Int) (p c : Int) (hb : ∀ x ∈ l, 0 ≤ x ∧ x ≤ 255) (h0 : 0 ≤ p) (h1 : p ≤ 4611686018427387904) :
    ∃ v c', spec_l00Src_next.f l p c = some (v, p + 1, c') ∧ 0 ≤ v ∧ v ≤ 255 := by
  have e : wrap64 (p + 1) = p + 1 := w64 (by omega) (by omega)
  unfold spec_l00Src_next.f
  rw [e]
  by_cases h : p < (l.length : Int)
  · obtain ⟨j, rfl⟩ := Int.eq_ofNat_of_zero_le h0
    have hj : j < l.length := by omega
    have := hb l[j] (List.getElem_mem hj)
    rw [_root_.if_pos h, _root_.if_pos h0, _root_.if_pos (by omega), rd_at l j hj, w64 (x := l[j]) (by omega) (by omega)]
    exact ⟨_, _, rfl, this.1, this.2⟩
  · rw [_root_.if_neg h, _root_.if_neg (by omega)]
    obtain ⟨n, hn, hn'⟩ := low_byte (IntKind.u64.wrap (IntKind.u64.wrap (c * 6364136223846793005)) + 1442695040888963407)
    rw [hn, w64 (x := (n : Int)) (by omega) (by omega)]
    exact ⟨_, _, rfl, by omega, by omega⟩
theorem pick_eq (l : List Int) (p c n : Int) (hb : ∀ x ∈ l, 0 ≤ x ∧ x ≤ 255) (h0 : 0 ≤ p) (h1 : p ≤ 4611686018427387000) (hn : 1 ≤ n) (hn' : n ≤ 65536) :
    ∃ v p' c', spec_l00Src_pick.f l p c n = some (v, p', c') ∧ 0 ≤ v ∧ v < n ∧ p ≤ p' ∧ p' ≤ p + 2 := by
  unfold spec_l00Src_pick.f
  by_cases h : n ≤ 1
  · rw [_root_.if_pos h]
    exact ⟨_, _, _, rfl, by omega, by omega, by omega, by omega⟩
  · rw [_root_.if_neg h]
    obtain ⟨v, c', e, hv, hv'⟩ := next_eq l p c hb h0 (by omega)
    rw [e]
    simp only [Option.bind_some]
    by_cases h2 : n > 200
    · rw [_root_.if_pos h2]
      obtain ⟨v2, c2, e2, hv2, hv2'⟩ := next_eq l (p + 1) c' hb (by omega) (by omega)
      rw [e2]
      simp only [Option.bind_some]
      rw [_root_.if_neg (by omega), w64 (x := v * 256) (by omega) (by omega), w64 (x := v * 256 + v2) (by omega) (by omega)]
      exact ⟨_, _, _, rfl, Int.tmod_nonneg _ (by omega), Int.tmod_lt_of_pos _ (by omega), by omega, by omega⟩
    · rw [_root_.if_neg h2, _root_.if_neg (by omega)]
      exact ⟨_, _, _, rfl, Int.tmod_nonneg _ hv, Int.tmod_lt_of_pos _ (by omega), by omega, by omega⟩
theorem among_eq (l q : List Int) (p c : Int) (hb : ∀ x ∈ l, 0 ≤ x ∧ x ≤ 255) (h0 : 0 ≤ p) (h1 : p ≤ 4611686018427387000) (hq : 1 ≤ q.length) (hq' : q.length ≤ 65536) :
    ∃ v p' c', spec_l00Src_among.f l p c q = some (v, p', c') ∧ v ∈ q ∧ p ≤ p' ∧ p' ≤ p + 2 := by
  unfold spec_l00Src_among.f
  obtain ⟨v, p', c', e, hv, hv', hp, hp'⟩ := pick_eq l p c q.length hb h0 h1 (by omega) (by omega)
  rw [e]
  simp only [Option.bind_some]
  rw [_root_.if_pos hv, _root_.if_pos hv']
  obtain ⟨j, rfl⟩ := Int.eq_ofNat_of_zero_le hv
  rw [rd_at q j (by omega)]
  exact ⟨_, _, _, rfl, List.getElem_mem _, hp, hp'⟩
theorem R8Lanes_eq (l : List Int) (hb : ∀ x ∈ l, 0 ≤ x ∧ x ≤ 255) : ∃ n, spec_R8Lanes.f l = some n ∧ (n = 2 ∨ n = 4 ∨ n = 8 ∨ n = 16) := by
  unfold spec_R8Lanes.f spec_l00From.f
  simp only [Option.bind_some]
  obtain ⟨v, p', c', e, hv, _⟩ := among_eq l [2, 4, 8, 16] 0 0 hb (by omega) (by omega) (by simp) (by simp)
  rw [e]
  exact ⟨v, rfl, by simpa using hv⟩

theorem same_ev (l : List Int) (hl : l.length ≤ 1048577) : Ev (fun k => laws_r8Same.f k l l) true := by
  unfold laws_r8Same.f
  refine Ev.if_pos rfl ?_
  have := loopEv (σ := Unit) (β := Bool) l (fun k _ i => laws_r8Same.l0 k l l i) (fun _ _ _ => .inr ()) (fun _ => true) (fun _ _ => True)
    (fun k s _ => by simp only [laws_r8Same.l0]; rw [_root_.if_neg (by omega)])
    (fun k s j hj hs => by
      simp only [laws_r8Same.l0]
      rw [_root_.if_pos (by omega), _root_.if_pos (by omega), _root_.if_pos (by omega), w64 (x := (j : Int) + 1) (by omega) (by omega), _root_.if_pos trivial]; rfl)
    (fun _ _ _ _ _ _ => trivial) () trivial
  have e : goLoop (σ := Unit) (β := Bool) (fun _ _ _ => .inr ()) (fun _ => true) () l 0 = true := goLoop_post (σ := Unit) (β := Bool) (f := fun _ _ _ => .inr ()) (fin := fun _ => true) l (fun _ _ => True) (fun r => r = true) (fun _ _ => rfl) (fun _ _ _ _ _ h => by cases h) (fun _ _ _ _ _ _ => trivial) () 0 (by omega) trivial
  rw [e] at this
  exact this

/-- m digits of V, the greatest first. -/
def digs : Nat → Nat → List Nat
  | _, 0 => []
  | V, m + 1 => digs (V / 10) m ++ [V % 10]
def cast (E : List Nat) : List Int := E.map fun (x : Nat) => (x : Int)
theorem cast_length (E : List Nat) : (cast E).length = E.length := by simp [cast]
theorem digs_length : ∀ m V, (digs V m).length = m := by
  intro m
  induction m with
  | zero => intro V; rfl
  | succ m ih => intro V; simp [digs, ih]
theorem todigs : ∀ (m V : Nat) (xs : List Int), m ≤ xs.length → xs.length ≤ 16 → V < 4611686018427387904 →
    Ev (fun k => impl_NumberToDigits.l0 k V xs ((m : Int) - 1)) (if V / 10 ^ m > 0 then ([], false) else (cast (digs V m) ++ xs.drop m, true)) := by
  intro m
  induction m with
  | zero =>
    intro V xs hm hl hV
    refine Ev.step (fun k => impl_NumberToDigits.l0.eq_2 _ _ _ _) (Ev.if_neg (by omega) ?_)
    have e0 : V / 10 ^ 0 = V := by simp
    rw [e0]
    by_cases h : V > 0
    · exact Ev.if_pos (by omega) (Ev.some' (by rw [_root_.if_pos h]))
    · exact Ev.if_neg (by omega) (Ev.some' (by rw [_root_.if_neg h]; simp [digs, cast]))
  | succ m ih =>
    intro V xs hm hl hV
    have e1 : wrap64 (Int.tdiv (V : Int) 10) = ((V / 10 : Nat) : Int) := by
      rw [show Int.tdiv (V : Int) 10 = ((V / 10 : Nat) : Int) from rfl, w64 (by omega) (by omega)]
    have e2 : Int.tmod (V : Int) 10 = ((V % 10 : Nat) : Int) := rfl
    have e3 : wrap64 (((m + 1 : Nat) : Int) - 1 - 1) = (m : Int) - 1 := by rw [w64 (by omega) (by omega)]; omega
    have e4 : (((m + 1 : Nat) : Int) - 1).toNat = m := by omega
    refine Ev.step (fun k => impl_NumberToDigits.l0.eq_2 _ _ _ _) (Ev.if_pos (by omega) (Ev.if_pos (by omega) (Ev.if_pos (by omega) ?_)))
    rw [e1, e2, e3, e4]
    have := ih (V / 10) (xs.set m ((V % 10 : Nat) : Int)) (by simp; omega) (by simpa using hl) (by omega)
    have hd : V / 10 / 10 ^ m = V / 10 ^ (m + 1) := by rw [Nat.div_div_eq_div_mul, Nat.pow_succ, Nat.mul_comm]
    have ht : (xs.set m ((V % 10 : Nat) : Int)).drop m = ((V % 10 : Nat) : Int) :: xs.drop (m + 1) := by
      rw [List.drop_eq_getElem_cons (by simp; omega)]
      simp [List.drop_set]
    rw [hd, ht] at this
    have hc : cast (digs V (m + 1)) ++ xs.drop (m + 1) = cast (digs (V / 10) m) ++ (((V % 10 : Nat) : Int) :: xs.drop (m + 1)) := by simp [digs, cast]
    rw [hc]
    exact this
theorem NumberToDigits_eq (V n : Nat) (hn : n = 2 ∨ n = 4 ∨ n = 8 ∨ n = 16) (hV : V < 4611686018427387904) :
    Ev (fun k => impl_NumberToDigits.f k (V : Int) (n : Int)) (if V / 10 ^ n > 0 then ([], false) else (cast (digs V n), true)) := by
  unfold impl_NumberToDigits.f
  have hl : impl_isLanes.f (n : Int) = some true := by rcases hn with rfl | rfl | rfl | rfl <;> rfl
  refine Ev.bind' hl (Ev.if_pos rfl (Ev.step (fun k => impl_NumberToDigits.j0.eq_2 _ _ _ _) (Ev.if_neg (by simp) (Ev.if_pos (by omega) (Ev.if_pos (by omega) ?_)))))
  rw [w64 (x := (n : Int) - 1) (by omega) (by omega)]
  have := todigs n V (List.replicate n 0) (by simp) (by simp; omega) hV
  simpa using this
def valN (s : Nat) (E : List Nat) : Nat := E.foldl (fun s d => 10 * s + d) s
theorem val_num : ∀ (E : List Nat) (s j : Nat), (∀ d ∈ E, d ≤ 9) → (s + 1) * 10 ^ E.length ≤ 10000000000000000 →
    goLoop (β := Int) (fun s x _ => .inr (wrap64 (wrap64 (10 * s) + x))) (fun s => s) (s : Int) (cast E) j = (valN s E : Nat) ∧ valN s E < (s + 1) * 10 ^ E.length := by
  intro E
  induction E with
  | nil => intro s j _ _; exact ⟨rfl, by simp [valN]⟩
  | cons d E ih =>
    intro s j hd hs
    have h9 := hd d (by simp)
    have hp : 1 ≤ 10 ^ E.length := Nat.one_le_pow _ _ (by omega)
    have hm : (s + 1) * 10 ^ (E.length + 1) = (10 * s + 10) * 10 ^ E.length := by rw [Nat.pow_succ]; rw [show (10 * s + 10) = (s + 1) * 10 by omega, Nat.mul_assoc, Nat.mul_comm 10]
    simp only [List.length_cons] at hs ⊢
    rw [hm] at hs ⊢
    have h1 : (10 * s + d + 1) * 10 ^ E.length ≤ (10 * s + 10) * 10 ^ E.length := Nat.mul_le_mul_right _ (by omega)
    have h2 : 10 * s + 10 ≤ (10 * s + 10) * 10 ^ E.length := Nat.le_mul_of_pos_right _ (by omega)
    obtain ⟨i1, i2⟩ := ih (10 * s + d) (j + 1) (fun x hx => hd x (by simp [hx])) (by omega)
    refine ⟨?_, ?_⟩
    · show goLoop (β := Int) (fun s x _ => .inr (wrap64 (wrap64 (10 * s) + x))) (fun s => s) (s : Int) ((d : Int) :: cast E) j = _
      unfold goLoop
      simp only
      rw [w64 (x := 10 * (s : Int)) (by omega) (by omega), w64 (x := 10 * (s : Int) + (d : Int)) (by omega) (by omega)]
      rw [show 10 * (s : Int) + (d : Int) = ((10 * s + d : Nat) : Int) by omega]
      exact i1
    · show valN (10 * s + d) E < _
      omega
theorem valN_snoc (F : List Nat) (d : Nat) : valN 0 (F ++ [d]) = 10 * valN 0 F + d := by simp [valN, List.foldl_append]
theorem digs_val : ∀ (m : Nat) (E : List Nat), E.length = m → (∀ d ∈ E, d ≤ 9) → digs (valN 0 E) m = E := by
  intro m
  induction m with
  | zero => intro E h _; rw [List.eq_nil_of_length_eq_zero h]; rfl
  | succ m ih =>
    intro E h hd
    obtain ⟨F, d, rfl⟩ : ∃ F d, E = F ++ [d] := ⟨E.dropLast, E.getLast (by intro e; rw [e] at h; cases h), (List.dropLast_concat_getLast _).symm⟩
    have h9 := hd d (by simp)
    rw [valN_snoc]
    unfold digs
    rw [show (10 * valN 0 F + d) / 10 = valN 0 F by omega, show (10 * valN 0 F + d) % 10 = d by omega, ih F (by simpa using h) (fun x hx => hd x (by simp [hx]))]
theorem at_eq (l : List Int) (j : Nat) (n : Int) (hb : ∀ x ∈ l, 0 ≤ x ∧ x ≤ 255) (hn : 1 ≤ n) : ∃ v : Nat, laws_r8At.f l (j : Int) n = some (v : Int) ∧ (v : Int) < n := by
  unfold laws_r8At.f
  by_cases h1 : n ≤ 1
  · rw [_root_.if_pos h1]; exact ⟨0, rfl, by omega⟩
  · rw [_root_.if_neg h1]
    by_cases h2 : (j : Int) ≥ (l.length : Int)
    · rw [_root_.if_pos h2]; exact ⟨0, rfl, by omega⟩
    · have hj : j < l.length := by omega
      have := hb l[j] (List.getElem_mem hj)
      rw [_root_.if_neg h2, _root_.if_pos (by omega), _root_.if_pos (by omega), _root_.if_neg (by omega), rd_at l j hj, w64 (x := l[j]) (by omega) (by omega)]
      have h3 := Int.tmod_nonneg n this.1
      have h4 := Int.tmod_lt_of_pos l[j] (b := n) (by omega)
      exact ⟨(Int.tmod l[j] n).toNat, by congr 1; omega, by omega⟩

end Go.Proofs.Ytocelalollkadaa.Q
