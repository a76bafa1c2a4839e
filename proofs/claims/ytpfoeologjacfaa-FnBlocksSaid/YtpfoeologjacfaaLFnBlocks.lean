/- Plain lemmas that the proof of FnBlocks leans on. -/
import Derived.KernelRfl
import Derived.Laws.Bits64b
import Derived.Test.YtpfoeologjacfaaH0
import Derived.Test.YtpfoeologjacfaaH1
import Derived.Test.YtpfoeologjacfaaH2
import Derived.Test.YtpfoeologjacfaaH3
namespace Go.Proofs.Ytpfoeologjacfaa.H
open Go.RowKit Go.Proofs.YtpfoeologjacfaaW.PrintWords Go.Proofs.YtpfoeologjacfaaW.PrintLast Go.Proofs.YtpfoeologjacfaaW.PrintMore
set_option linter.unusedVariables false
set_option linter.unusedSimpArgs false

theorem w64 {x : Int} (h0 : -9223372036854775808 ≤ x) (h1 : x ≤ 9223372036854775807) : wrap64 x = x := by unfold wrap64; omega

theorem rd_at (l : List Int) (j : Nat) (h : j < l.length) : rd l (j : Int) = l[j] := by
  unfold rd
  rw [Int.toNat_natCast]; simp [List.getD_eq_getElem?_getD, h]

theorem Ev.if_pos {α : Type} {c : Prop} [Decidable c] {g f : Nat → Option α} {r : α} (h : c) (k : Ev g r) : Ev (fun n => if c then g n else f n) r := Ev.congr (fun n => _root_.if_pos h) k

theorem Ev.if_neg {α : Type} {c : Prop} [Decidable c] {g f : Nat → Option α} {r : α} (h : ¬ c) (k : Ev f r) : Ev (fun n => if c then g n else f n) r := Ev.congr (fun n => _root_.if_neg h) k

theorem Ev.bind' {α β : Type} {g : Option α} {f : Nat → α → Option β} {a : α} {r : β} (h : g = some a) (k : Ev (fun n => f n a) r) : Ev (fun n => g.bind (f n)) r := Ev.congr (fun n => by rw [h]; rfl) k

theorem Ev.some' {α : Type} {a r : α} (h : a = r) : Ev (fun _ => some a) r := h ▸ Ev.now a

/-- A loop over a list that may end early. -/
def goLoop {σ β : Type} (f : σ → Int → Nat → β ⊕ σ) (fin : σ → β) : σ → List Int → Nat → β
  | s, [], _ => fin s
  | s, x :: xs, j => match f s x j with
    | .inl r => r
    | .inr s' => goLoop f fin s' xs (j + 1)

theorem loopEv {σ β : Type} (l : List Int) (g : Nat → σ → Int → Option β) (f : σ → Int → Nat → β ⊕ σ) (fin : σ → β) (Inv : σ → Nat → Prop)
    (h0 : ∀ k s, Inv s l.length → g (k + 1) s (l.length : Int) = some (fin s))
    (h1 : ∀ k s (j : Nat) (h : j < l.length), Inv s j → g (k + 1) s (j : Int) = match f s l[j] j with | .inl r => some r | .inr s' => g k s' ((j + 1 : Nat) : Int))
    (hI : ∀ s (j : Nat) (h : j < l.length) s', Inv s j → f s l[j] j = .inr s' → Inv s' (j + 1)) (s : σ) (hs : Inv s 0) :
    Ev (fun k => g k s 0) (goLoop f fin s l 0) := by
  have key : ∀ d j s, j + d = l.length → Inv s j → Ev (fun k => g k s (j : Int)) (goLoop f fin s (l.drop j) j) := by
    intro d
    induction d with
    | zero =>
      intro j s hj hs
      obtain rfl : j = l.length := by omega
      rw [List.drop_length]
      exact Ev.step (f := fun _ => some (fin s)) (fun k => h0 k s hs) (Ev.now _)
    | succ d ih =>
      intro j s hj hs
      have hlt : j < l.length := by omega
      rw [List.drop_eq_getElem_cons hlt]
      unfold goLoop
      cases hf : f s l[j] j with
      | inl r => exact Ev.step (f := fun _ => some r) (fun k => by rw [h1 k s j hlt hs, hf]) (Ev.now _)
      | inr s' => exact Ev.step (f := fun k => g k s' ((j + 1 : Nat) : Int)) (fun k => by rw [h1 k s j hlt hs, hf]) (ih (j + 1) s' (by omega) (hI s j hlt s' hs hf))
  simpa using key l.length 0 s (by omega) hs

theorem u64w {x : Int} (h0 : 0 ≤ x) (h1 : x ≤ 4611686018427387904) : IntKind.u64.wrap x = x := by
  unfold IntKind.wrap
  simp [IntKind.signed, IntKind.bits]
  omega

/-- The first place of a number, or -1. -/
def placeOf (x : Int) (l : List Int) : Int := goLoop (σ := Unit) (fun _ y j => if x = y then .inl (j : Int) else .inr ()) (fun _ => -1) () l 0

theorem index_eq (l : List Int) (x : Int) (hl : l.length ≤ 1048577) : Ev (fun k => slices_Index_int64_int64.f k l x) (placeOf x l) := by
  unfold slices_Index_int64_int64.f placeOf
  exact loopEv l (fun k (_ : Unit) i => slices_Index_int64_int64.l0 k l x (l.length : Int) i) _ _ (fun _ _ => True)
    (fun k s _ => by simp only [slices_Index_int64_int64.l0]; rw [_root_.if_neg (by omega)])
    (fun k s j hj _ => by
      simp only [slices_Index_int64_int64.l0]
      rw [_root_.if_pos (by omega), _root_.if_pos (by omega), _root_.if_pos (by omega), rd_at _ _ hj, w64 (x := (j : Int) + 1) (by omega) (by omega)]
      split <;> rfl)
    (fun _ _ _ _ _ _ => trivial) () trivial

theorem place_at (x : Int) (l : List Int) (b : Nat) (hb : b < l.length) (h : l[b] = x) (hn : ∀ i (hi : i < b), l[i] ≠ x) : placeOf x l = b := by
  have key : ∀ d j, j + d = b → goLoop (σ := Unit) (fun _ y j => if x = y then .inl (j : Int) else .inr ()) (fun _ => -1) () (l.drop j) j = (b : Int) := by
    intro d
    induction d with
    | zero =>
      intro j hj
      obtain rfl : j = b := by omega
      rw [List.drop_eq_getElem_cons hb]
      unfold goLoop
      rw [_root_.if_pos h.symm]
    | succ d ih =>
      intro j hj
      rw [List.drop_eq_getElem_cons (by omega)]
      unfold goLoop
      rw [_root_.if_neg (fun e => hn j (by omega) e.symm)]
      exact ih (j + 1) (by omega)
  exact key b 0 (by omega)

def sumW (l : List Int) : Int := goLoop (β := Int) (fun s x _ => .inr (wrap64 (s + x))) (fun s => s) 0 l 0

theorem sumOf_eq (l : List Int) (hl : l.length ≤ 1048577) : Ev (fun k => impl_sumOf.f k l) (sumW l) := by
  unfold impl_sumOf.f sumW
  exact loopEv l (fun k s i => impl_sumOf.l0 k s l (l.length : Int) i) _ _ (fun _ _ => True)
    (fun k s _ => by simp only [impl_sumOf.l0]; rw [_root_.if_neg (by omega)])
    (fun k s j hj _ => by
      simp only [impl_sumOf.l0]
      rw [_root_.if_pos (by omega), _root_.if_pos (by omega), _root_.if_pos (by omega), rd_at _ _ hj, w64 (x := (j : Int) + 1) (by omega) (by omega)]; rfl)
    (fun _ _ _ _ _ _ => trivial) 0 trivial

theorem wf8 {x : Int} (h : (Lit.int .u8 x).wf = true) : 0 ≤ x ∧ x ≤ 255 := by
  have : IntKind.u8.min ≤ x ∧ x ≤ IntKind.u8.max := by simpa [Lit.wf] using h
  simp [IntKind.min, IntKind.max, IntKind.signed, IntKind.bits] at this
  omega

theorem u64_nat (x : Int) : ∃ n : Nat, IntKind.u64.wrap x = n ∧ n < 18446744073709551616 := by
  refine ⟨(IntKind.u64.wrap x).toNat, ?_⟩
  unfold IntKind.wrap
  simp [IntKind.signed, IntKind.bits]
  omega

theorem low_byte (x : Int) : ∃ n : Nat, Go.bits .and .u64 (IntKind.u64.wrap x / 1099511627776) 255 = n ∧ n ≤ 255 := by
  obtain ⟨n, h, hn⟩ := u64_nat x
  refine ⟨n / 1099511627776 &&& 255, ?_, Nat.and_le_right⟩
  rw [h]
  exact bits_and_u64_nat (n / 1099511627776) 255 (by omega) (by omega)

theorem next_eq (l : List Int) (p c : Int) (hb : ∀ x ∈ l, 0 ≤ x ∧ x ≤ 255) (h0 : 0 ≤ p) (h1 : p ≤ 4611686018427387904) :
    ∃ v c', spec_l00Src_next.f l p c = some (v, p + 1, c') ∧ 0 ≤ v ∧ v ≤ 255 := by
  have e : wrap64 (p + 1) = p + 1 := w64 (by omega) (by omega)
  unfold spec_l00Src_next.f
  rw [e]
  by_cases h : p < (l.length : Int)
  · obtain ⟨j, rfl⟩ := Int.eq_ofNat_of_zero_le h0
    have hj : j < l.length := by omega
    have := hb l[j] (List.getElem_mem hj)
    rw [_root_.if_pos h, _root_.if_pos h0, _root_.if_pos (by omega), rd_at l j hj, w64 (x := l[j]) (by omega) (by omega)]
    exact ⟨_, _, rfl, this.1, this.2⟩
  · rw [_root_.if_neg h, _root_.if_neg (by omega)]
    obtain ⟨n, hn, hn'⟩ := low_byte (IntKind.u64.wrap (IntKind.u64.wrap (c * 6364136223846793005)) + 1442695040888963407)
    rw [hn, w64 (x := (n : Int)) (by omega) (by omega)]
    exact ⟨_, _, rfl, by omega, by omega⟩

theorem pick_eq (l : List Int) (p c n : Int) (hb : ∀ x ∈ l, 0 ≤ x ∧ x ≤ 255) (h0 : 0 ≤ p) (h1 : p ≤ 4611686018427387000) (hn : 1 ≤ n) (hn' : n ≤ 65536) :
    ∃ v p' c', spec_l00Src_pick.f l p c n = some (v, p', c') ∧ 0 ≤ v ∧ v < n ∧ p ≤ p' ∧ p' ≤ p + 2 := by
  unfold spec_l00Src_pick.f
  by_cases h : n ≤ 1
  · rw [_root_.if_pos h]
    exact ⟨_, _, _, rfl, by omega, by omega, by omega, by omega⟩
  · rw [_root_.if_neg h]
    obtain ⟨v, c', e, hv, hv'⟩ := next_eq l p c hb h0 (by omega)
    rw [e]
    simp only [Option.bind_some]
    by_cases h2 : n > 200
    · rw [_root_.if_pos h2]
      obtain ⟨v2, c2, e2, hv2, hv2'⟩ := next_eq l (p + 1) c' hb (by omega) (by omega)
      rw [e2]
      simp only [Option.bind_some]
      rw [_root_.if_neg (by omega), w64 (x := v * 256) (by omega) (by omega), w64 (x := v * 256 + v2) (by omega) (by omega)]
      exact ⟨_, _, _, rfl, Int.tmod_nonneg _ (by omega), Int.tmod_lt_of_pos _ (by omega), by omega, by omega⟩
    · rw [_root_.if_neg h2, _root_.if_neg (by omega)]
      exact ⟨_, _, _, rfl, Int.tmod_nonneg _ hv, Int.tmod_lt_of_pos _ (by omega), by omega, by omega⟩

theorem among_eq (l q : List Int) (p c : Int) (hb : ∀ x ∈ l, 0 ≤ x ∧ x ≤ 255) (h0 : 0 ≤ p) (h1 : p ≤ 4611686018427387000) (hq : 1 ≤ q.length) (hq' : q.length ≤ 65536) :
    ∃ v p' c', spec_l00Src_among.f l p c q = some (v, p', c') ∧ v ∈ q ∧ p ≤ p' ∧ p' ≤ p + 2 := by
  unfold spec_l00Src_among.f
  obtain ⟨v, p', c', e, hv, hv', hp, hp'⟩ := pick_eq l p c q.length hb h0 h1 (by omega) (by omega)
  rw [e]
  simp only [Option.bind_some]
  rw [_root_.if_pos hv, _root_.if_pos hv']
  obtain ⟨j, rfl⟩ := Int.eq_ofNat_of_zero_le hv
  rw [rd_at q j (by omega)]
  exact ⟨_, _, _, rfl, List.getElem_mem _, hp, hp'⟩

theorem R8Lanes_eq (l : List Int) (hb : ∀ x ∈ l, 0 ≤ x ∧ x ≤ 255) : ∃ n, spec_R8Lanes.f l = some n ∧ (n = 2 ∨ n = 4 ∨ n = 8 ∨ n = 16) := by
  unfold spec_R8Lanes.f spec_l00From.f
  simp only [Option.bind_some]
  obtain ⟨v, p', c', e, hv, _⟩ := among_eq l [2, 4, 8, 16] 0 0 hb (by omega) (by omega) (by simp) (by simp)
  rw [e]
  exact ⟨v, rfl, by simpa using hv⟩

theorem at_eq (l : List Int) (j : Nat) (n : Int) (hb : ∀ x ∈ l, 0 ≤ x ∧ x ≤ 255) (hn : 1 ≤ n) : ∃ v : Nat, laws_r8At.f l (j : Int) n = some (v : Int) ∧ (v : Int) < n := by
  unfold laws_r8At.f
  by_cases h1 : n ≤ 1
  · rw [_root_.if_pos h1]; exact ⟨0, rfl, by omega⟩
  · rw [_root_.if_neg h1]
    by_cases h2 : (j : Int) ≥ (l.length : Int)
    · rw [_root_.if_pos h2]; exact ⟨0, rfl, by omega⟩
    · have hj : j < l.length := by omega
      have := hb l[j] (List.getElem_mem hj)
      rw [_root_.if_neg h2, _root_.if_pos (by omega), _root_.if_pos (by omega), _root_.if_neg (by omega), rd_at l j hj, w64 (x := l[j]) (by omega) (by omega)]
      have h3 := Int.tmod_nonneg n this.1
      have h4 := Int.tmod_lt_of_pos l[j] (b := n) (by omega)
      exact ⟨(Int.tmod l[j] n).toNat, by congr 1; omega, by omega⟩

theorem R8Bits_eq (l : List Int) (hb : ∀ x ∈ l, 0 ≤ x ∧ x ≤ 255) : ∃ n, spec_R8Bits.f l = some n ∧ (n = 4 ∨ n = 8 ∨ n = 16) := by
  unfold spec_R8Bits.f spec_l00From.f
  simp only [Option.bind_some]
  obtain ⟨v, p', c', e, hv, _⟩ := among_eq l [4, 8, 16] 0 0 hb (by omega) (by omega) (by simp) (by simp)
  rw [e]
  exact ⟨v, rfl, by simpa using hv⟩

theorem one_eq (l : List Int) (p c n : Int) (hb : ∀ x ∈ l, 0 ≤ x ∧ x ≤ 255) (h0 : 0 ≤ p) (h1 : p ≤ 4611686018427387000) (hn : 1 ≤ n) (hn' : n ≤ 65536) :
    ∃ v p' c', spec_l00Src_one.f l p c n = some (v, p', c') ∧ p ≤ p' ∧ p' ≤ p + 2 := by
  unfold spec_l00Src_one.f
  obtain ⟨v, p', c', e, _, _, hp, hp'⟩ := pick_eq l p c n hb h0 h1 hn hn'
  rw [e]
  exact ⟨_, _, _, rfl, hp, hp'⟩

theorem good_eq (l : List Int) (p c b : Int) (hb : ∀ x ∈ l, 0 ≤ x ∧ x ≤ 255) (h0 : 0 ≤ p) (h1 : p ≤ 4611686018427380000) (hB : b = 4 ∨ b = 8 ∨ b = 16) :
    ∃ v p' c', spec_l01DrawGood.f l p c b = some (v, p', c') ∧ wordB b v = true ∧ p ≤ p' ∧ p' ≤ p + 4 := by
  unfold spec_l01DrawGood.f
  obtain ⟨v, p', c', e, hp, hp'⟩ := one_eq l p c 4 hb h0 (by omega) (by omega) (by omega)
  rw [e]
  simp only [Option.bind_some]
  have e1 : IntKind.u64.wrap b = b := u64w (by omega) (by omega)
  have e2 : IntKind.u64.wrap (b - 1) = b - 1 := u64w (by omega) (by omega)
  rw [e1, e2]
  by_cases h : v = true
  · rw [_root_.if_pos h, _root_.if_pos (show 0 ≤ b by omega), _root_.if_pos (show 0 ≤ b - 1 by omega)]
    obtain ⟨v2, p2, c2, e3, hv, hq, hq'⟩ := among_eq l [0, wrap64 (shl .i64 1 b - 1), shl .i64 1 (b - 1), wrap64 (shl .i64 1 (b - 1) - 1), 1] p' c' hb (by omega) (by omega) (by simp) (by simp)
    rw [e3]
    refine ⟨v2, p2, c2, rfl, ?_, by omega, by omega⟩
    simp only [List.mem_cons, List.not_mem_nil, or_false] at hv
    rcases hB with rfl | rfl | rfl <;> rcases hv with rfl | rfl | rfl | rfl | rfl <;> kernel_rfl
  · rw [_root_.if_neg h, _root_.if_pos (show 0 ≤ b by omega)]
    have e4 : shl .i64 1 b = 2 ^ b.toNat := by rcases hB with rfl | rfl | rfl <;> kernel_rfl
    have e5 : (2 : Int) ^ b.toNat ≤ 65536 ∧ 1 ≤ (2 : Int) ^ b.toNat := by rcases hB with rfl | rfl | rfl <;> decide
    rw [e4]
    obtain ⟨v2, p2, c2, e3, hv, hv', hq, hq'⟩ := pick_eq l p' c' (2 ^ b.toNat) hb (by omega) (by omega) e5.2 e5.1
    rw [e3]
    refine ⟨v2, p2, c2, rfl, ?_, by omega, by omega⟩
    have : bitsB b = true := by rcases hB with rfl | rfl | rfl <;> rfl
    simp [wordB, inB, this]
    omega

theorem drop_cons {C : List Int} {p : Nat} {v : Int} {R : List Int} (h : C.drop p = v :: R) : ∃ hp : p < C.length, C[p] = v ∧ C.drop (p + 1) = R := by
  have hp : p < C.length := by
    by_cases c : p < C.length
    · exact c
    · rw [List.drop_of_length_le (by omega)] at h; cases h
  rw [List.drop_eq_getElem_cons hp] at h
  injection h with h1 h2
  exact ⟨hp, h1, h2⟩

theorem i64_low4 (n : Int) : Go.bits .and .i64 n 15 = n % 16 := by
  have hc : (BitVec.ofInt 64 15).toNat = 2 ^ 4 - 1 := by decide
  have key : (BitVec.ofInt 64 n &&& BitVec.ofInt 64 15).toNat = (n % ((2 ^ 64 : Nat) : Int)).toNat % 2 ^ 4 := by
    rw [BitVec.toNat_and, BitVec.toNat_ofInt, hc, Nat.and_two_pow_sub_one_eq_mod]
  show IntKind.i64.wrap ((BitVec.ofInt 64 n &&& BitVec.ofInt 64 15).toNat : Nat) = n % 16
  rw [key, IntKind.wrap_i64]
  omega

theorem i64_low8 (n : Int) : Go.bits .and .i64 n 255 = n % 256 := by
  have hc : (BitVec.ofInt 64 255).toNat = 2 ^ 8 - 1 := by decide
  have key : (BitVec.ofInt 64 n &&& BitVec.ofInt 64 255).toNat = (n % ((2 ^ 64 : Nat) : Int)).toNat % 2 ^ 8 := by
    rw [BitVec.toNat_and, BitVec.toNat_ofInt, hc, Nat.and_two_pow_sub_one_eq_mod]
  show IntKind.i64.wrap ((BitVec.ofInt 64 n &&& BitVec.ofInt 64 255).toNat : Nat) = n % 256
  rw [key, IntKind.wrap_i64]
  omega

theorem i64_low16 (n : Int) : Go.bits .and .i64 n 65535 = n % 65536 := by
  have hc : (BitVec.ofInt 64 65535).toNat = 2 ^ 16 - 1 := by decide
  have key : (BitVec.ofInt 64 n &&& BitVec.ofInt 64 65535).toNat = (n % ((2 ^ 64 : Nat) : Int)).toNat % 2 ^ 16 := by
    rw [BitVec.toNat_and, BitVec.toNat_ofInt, hc, Nat.and_two_pow_sub_one_eq_mod]
  show IntKind.i64.wrap ((BitVec.ofInt 64 n &&& BitVec.ofInt 64 65535).toNat : Nat) = n % 65536
  rw [key, IntKind.wrap_i64]
  omega

/-- Word sizes, with their powers. -/
def Size (b p h : Int) : Prop := b = 4 ∧ p = 16 ∧ h = 8 ∨ b = 8 ∧ p = 256 ∧ h = 128 ∨ b = 16 ∧ p = 65536 ∧ h = 32768

theorem Size.all {b p h : Int} (s : Size b p h) : 4 ≤ b ∧ b ≤ 16 ∧ p = 2 * h ∧ 8 ≤ h ∧ h ≤ 32768 ∧ IntKind.u64.wrap b = b ∧ wrap64 (b - 1) = b - 1 ∧ IntKind.u64.wrap (b - 1) = b - 1 ∧ shl .i64 1 b = p ∧ shl .i64 1 (b - 1) = h ∧ bitsB b = true ∧ (2 : Int) ^ b.toNat = p := by
  rcases s with ⟨rfl, rfl, rfl⟩ | ⟨rfl, rfl, rfl⟩ | ⟨rfl, rfl, rfl⟩ <;> refine ⟨by omega, by omega, by omega, by omega, by omega, ?_, ?_, ?_, ?_, ?_, ?_, ?_⟩ <;> kernel_rfl

theorem Size.rng {b p h : Int} (s : Size b p h) : 4 ≤ b ∧ b ≤ 16 ∧ p = 2 * h ∧ 8 ≤ h ∧ h ≤ 32768 := by
  rcases s with ⟨rfl, rfl, rfl⟩ | ⟨rfl, rfl, rfl⟩ | ⟨rfl, rfl, rfl⟩ <;> omega

theorem size_of {b : Int} (h : bitsB b = true) : ∃ p q, Size b p q := by
  rcases bits_cases h with rfl | rfl | rfl
  · exact ⟨16, 8, Or.inl ⟨rfl, rfl, rfl⟩⟩
  · exact ⟨256, 128, Or.inr (Or.inl ⟨rfl, rfl, rfl⟩)⟩
  · exact ⟨65536, 32768, Or.inr (Or.inr ⟨rfl, rfl, rfl⟩)⟩

theorem Size.low {b p h : Int} (s : Size b p h) (n : Int) : Go.bits .and .i64 n (p - 1) = n % p ∧ 0 ≤ n % p ∧ n % p < p := by
  rcases s with ⟨rfl, rfl, rfl⟩ | ⟨rfl, rfl, rfl⟩ | ⟨rfl, rfl, rfl⟩
  · exact ⟨i64_low4 n, by omega, by omega⟩
  · exact ⟨i64_low8 n, by omega, by omega⟩
  · exact ⟨i64_low16 n, by omega, by omega⟩

def sg (h p x : Int) : Int := if x < h then x else x - p

section
variable {b p h : Int} (s : Size b p h)
include s
theorem signed_impl {x : Int} (hx : 0 ≤ x ∧ x < p) : impl_signedOf.f b x = some (sg h p x) := by
  obtain ⟨h1, h2, h3, h4, h5, e1, e2, e3, e4, e5, _⟩ := s.all
  unfold impl_signedOf.f sg
  rw [e2, e4, e5, _root_.if_pos (by omega)]
  by_cases c : x < h
  · rw [_root_.if_pos c, _root_.if_pos c]
  · rw [_root_.if_neg c, _root_.if_neg c, _root_.if_pos (by omega), w64 (by omega) (by omega)]
end

section
variable {b p h : Int} (s : Size b p h)
include s
theorem wrap_impl (n : Int) : impl_wrapped.f b n = some (n % p) := by
  obtain ⟨h1, h2, h3, h4, h5, e1, e2, e3, e4, e5, _⟩ := s.all
  unfold impl_wrapped.f
  rw [e4, w64 (x := p - 1) (by omega) (by omega), _root_.if_pos (by omega), (s.low n).1]
end

theorem Size.word {b p h : Int} (s : Size b p h) (x : Int) : wordB b x = true ↔ 0 ≤ x ∧ x < p := by
  obtain ⟨h1, h2, h3, h4, h5, e1, e2, e3, e4, e5, hb, e6⟩ := s.all
  simp only [wordB, hb, inB, e6, Bool.true_and, Bool.and_eq_true, decide_eq_true_eq]
  omega

theorem place_none (x : Int) (l : List Int) (hn : ∀ y ∈ l, y ≠ x) : placeOf x l = -1 := by
  have key : ∀ (m : List Int) (j : Nat), (∀ y ∈ m, y ≠ x) → goLoop (σ := Unit) (fun _ y j => if x = y then .inl (j : Int) else .inr ()) (fun _ => -1) () m j = -1 := by
    intro m
    induction m with
    | nil => intro j _; rfl
    | cons y m ih =>
      intro j h
      unfold goLoop
      rw [_root_.if_neg (fun e => h y (by simp) e.symm)]
      exact ih (j + 1) (fun z hz => h z (by simp [hz]))
  exact key l 0 hn

theorem first_or (x : Int) : ∀ l : List Int, (∀ y ∈ l, y ≠ x) ∨ ∃ b, ∃ hb : b < l.length, l[b] = x ∧ ∀ i (hi : i < b), l[i] ≠ x
  | [] => Or.inl (fun y h => by cases h)
  | y :: l => by
    by_cases e : y = x
    · exact Or.inr ⟨0, by simp, e, fun i hi => by omega⟩
    · rcases first_or x l with h | ⟨b, hb, h1, h2⟩
      · exact Or.inl (fun z hz => by
          rcases List.mem_cons.1 hz with rfl | q
          · exact e
          · exact h z q)
      · refine Or.inr ⟨b + 1, by simpa using hb, h1, fun i hi => ?_⟩
        cases i with
        | zero => exact e
        | succ i => exact h2 i (by omega)

theorem block_draw (l : List Int) (b : Int) (hb : ∀ x ∈ l, 0 ≤ x ∧ x ≤ 255) (hB : b = 4 ∨ b = 8 ∨ b = 16) :
    ∀ (m : Nat) (xs : List Int) (p c : Int), xs.length + m ≤ 64 → 0 ≤ p → p + 8 * m ≤ 1000 →
      ∃ (W : List Int), W.length = m ∧ (∀ x ∈ W, wordB b x = true) ∧ Ev (fun k => spec_R8Block.l0 k b xs (m : Int) l p c) (xs ++ W) := by
  intro m
  induction m with
  | zero =>
    intro xs p c _ _ _
    exact ⟨[], rfl, (fun x h => by cases h), Ev.step (fun k => spec_R8Block.l0.eq_2 _ _ _ _ _ _ _) (Ev.if_neg (by omega) (Ev.some' (by simp)))⟩
  | succ m ih =>
    intro xs p c hl h0 hp
    obtain ⟨v, p1, c1, e, hv, hv', hq, hq'⟩ := pick_eq l p c 6 hb h0 (by omega) (by omega) (by omega)
    obtain ⟨v2, p2, c2, e2, hr, hr'⟩ := one_eq l p1 c1 4 hb (by omega) (by omega) (by omega) (by omega)
    have em : wrap64 (((m + 1 : Nat) : Int) - 1) = (m : Int) := by rw [w64 (by omega) (by omega)]; omega
    by_cases h : v2 = true
    · obtain ⟨v3, p3, c3, e3, hw, hs, hs'⟩ := good_eq l p2 c2 b hb (by omega) (by omega) hB
      obtain ⟨W, hW, hw', hE⟩ := ih (xs ++ [v3]) p3 c3 (by simp; omega) (by omega) (by omega)
      refine ⟨v3 :: W, by simp [hW], fun x hx => ?_, ?_⟩
      · rcases List.mem_cons.1 hx with rfl | q
        · exact hw
        · exact hw' x q
      · refine Ev.step (fun k => spec_R8Block.l0.eq_2 _ _ _ _ _ _ _) (Ev.if_pos (by omega) (Ev.bind' e (Ev.bind' e2 (Ev.if_pos h (Ev.bind' e3 (Ev.if_pos (by omega) ?_))))))
        rw [em]
        simpa using hE
    · obtain ⟨W, hW, hw', hE⟩ := ih (xs ++ [v]) p2 c2 (by simp; omega) (by omega) (by omega)
      refine ⟨v :: W, by simp [hW], fun x hx => ?_, ?_⟩
      · rcases List.mem_cons.1 hx with rfl | q
        · rcases hB with rfl | rfl | rfl <;> simp [wordB, inB, bitsB] <;> omega
        · exact hw' x q
      · refine Ev.step (fun k => spec_R8Block.l0.eq_2 _ _ _ _ _ _ _) (Ev.if_pos (by omega) (Ev.bind' e (Ev.bind' e2 (Ev.if_neg h (Ev.if_pos (by omega) ?_)))))
        rw [em]
        simpa using hE

theorem R8Block_eq (l : List Int) (b : Int) (hb : ∀ x ∈ l, 0 ≤ x ∧ x ≤ 255) (hB : b = 4 ∨ b = 8 ∨ b = 16) :
    ∃ W : List Int, W.length ≤ 23 ∧ (∀ x ∈ W, wordB b x = true) ∧ Ev (fun k => spec_R8Block.f k l b) W := by
  obtain ⟨v, p1, c1, e, hv, hv', hq, hq'⟩ := pick_eq l 0 0 24 hb (by omega) (by omega) (by omega) (by omega)
  obtain ⟨m, rfl⟩ := Int.eq_ofNat_of_zero_le hv
  obtain ⟨W, h1, h2, h3⟩ := block_draw l b hb hB m [] p1 c1 (by simp; omega) (by omega) (by omega)
  refine ⟨W, by omega, h2, ?_⟩
  unfold spec_R8Block.f spec_l00From.f
  exact Ev.bind' rfl (Ev.bind' e (by simpa using h3))

def cntN (x : Int) : List Int → Nat
  | [] => 0
  | y :: l => (if y = x then 1 else 0) + cntN x l

theorem cntN_none (x : Int) : ∀ l : List Int, (∀ y ∈ l, y ≠ x) → cntN x l = 0
  | [], _ => rfl
  | y :: l, h => by
    unfold cntN
    rw [_root_.if_neg (h y (by simp)), cntN_none x l (fun z hz => h z (by simp [hz]))]

theorem cntN_some (x : Int) : ∀ l : List Int, x ∈ l → 0 < cntN x l
  | y :: l, h => by
    unfold cntN
    split
    · omega
    · rename_i e
      rcases List.mem_cons.1 h with rfl | q
      · exact absurd rfl e
      · have := cntN_some x l q; omega

theorem count_impl (x : Int) (l : List Int) (hl : l.length ≤ 1000) : ∀ (d j c : Nat), j + d = l.length → c ≤ j → Ev (fun k => impl_CountInBlock.l0 k x (c : Int) l (l.length : Int) (j : Int)) (((c + cntN x (l.drop j) : Nat) : Int), true) := by
  intro d
  induction d with
  | zero =>
    intro j c hj hc
    rw [List.drop_of_length_le (by omega)]
    exact Ev.step (fun k => impl_CountInBlock.l0.eq_2 _ _ _ _ _ _) (Ev.if_neg (by omega) (Ev.now _))
  | succ d ih =>
    intro j c hj hc
    have hj' : j < l.length := by omega
    rw [List.drop_eq_getElem_cons hj', cntN]
    refine Ev.step (fun k => impl_CountInBlock.l0.eq_2 _ _ _ _ _ _) (Ev.if_pos (by omega) (Ev.if_pos (by omega) (Ev.if_pos (by omega) ?_)))
    rw [rd_at l j hj', w64 (x := (j : Int) + 1) (by omega) (by omega)]
    by_cases e : l[j] = x
    · refine Ev.if_pos e ?_
      rw [w64 (x := (c : Int) + 1) (by omega) (by omega), _root_.if_pos e, ← Nat.add_assoc]
      exact ih (j + 1) (c + 1) (by omega) (by omega)
    · refine Ev.if_neg e ?_
      rw [_root_.if_neg e, Nat.zero_add]
      exact ih (j + 1) c (by omega) (by omega)

theorem r8Count_go (x : Int) (l : List Int) (hl : l.length ≤ 1000) : ∀ (d j c : Nat), j + d = l.length → c ≤ j → Ev (fun k => laws_r8Count.l0 k l x (c : Int) (j : Int)) ((c + cntN x (l.drop j) : Nat) : Int) := by
  intro d
  induction d with
  | zero =>
    intro j c hj hc
    rw [List.drop_of_length_le (by omega)]
    exact Ev.step (fun k => laws_r8Count.l0.eq_2 _ _ _ _ _) (Ev.if_neg (by omega) (Ev.now _))
  | succ d ih =>
    intro j c hj hc
    have hj' : j < l.length := by omega
    rw [List.drop_eq_getElem_cons hj', cntN]
    refine Ev.step (fun k => laws_r8Count.l0.eq_2 _ _ _ _ _) (Ev.if_pos (by omega) (Ev.if_pos (by omega) ?_))
    rw [rd_at l j hj', w64 (x := (j : Int) + 1) (by omega) (by omega)]
    by_cases e : l[j] = x
    · refine Ev.if_pos e ?_
      rw [w64 (x := (c : Int) + 1) (by omega) (by omega), _root_.if_pos e, ← Nat.add_assoc]
      exact ih (j + 1) (c + 1) (by omega) (by omega)
    · refine Ev.if_neg e ?_
      rw [_root_.if_neg e, Nat.zero_add]
      exact ih (j + 1) c (by omega) (by omega)

theorem r8Count_eq (x : Int) (l : List Int) (hl : l.length ≤ 1000) : Ev (fun k => laws_r8Count.f k l x) ((cntN x l : Nat) : Int) := by
  have := r8Count_go x l hl l.length 0 0 (by omega) (by omega)
  simpa [laws_r8Count.f] using this

/-- The sums of a list, each a word. -/
def runs (p : Int) : Int → List Int → List Int
  | _, [] => []
  | t, x :: l => (t + x) % p :: runs p ((t + x) % p) l

def lastRun (p : Int) : Int → List Int → Int
  | t, [] => t
  | t, x :: l => lastRun p ((t + x) % p) l

theorem runs_length (p : Int) : ∀ (l : List Int) t, (runs p t l).length = l.length
  | [], t => rfl
  | x :: l, t => by simp [runs, runs_length p l]

theorem sum_run {b p h : Int} (s : Size b p h) : ∀ (l : List Int) (t : Int) (j : Nat), goLoop (β := Int) (fun s x _ => .inr (wrap64 (s + x))) (fun s => s) t l j % p = lastRun p (t % p) l
  | [], t, j => rfl
  | x :: l, t, j => by
    have := sum_run s l (wrap64 (t + x)) (j + 1)
    show goLoop (β := Int) (fun s x _ => .inr (wrap64 (s + x))) (fun s => s) (wrap64 (t + x)) l (j + 1) % p = lastRun p ((t % p + x) % p) l
    rw [this]
    congr 1
    unfold wrap64
    rcases s with ⟨rfl, rfl, rfl⟩ | ⟨rfl, rfl, rfl⟩ | ⟨rfl, rfl, rfl⟩ <;> omega

theorem prefix_go {b p h : Int} (s : Size b p h) (l : List Int) (hl : l.length ≤ 1000) (hw : ∀ x ∈ l, 0 ≤ x ∧ x < p) : ∀ (d j : Nat) (t : Int) (out : List Int), j + d = l.length → out.length = j → 0 ≤ t ∧ t < p → Ev (fun k => impl_PrefixBlock.l0 k b out t l (l.length : Int) (j : Int)) (out ++ runs p t (l.drop j), true) := by
  have hs := s.rng
  intro d
  induction d with
  | zero =>
    intro j t out hj ho ht
    rw [List.drop_of_length_le (by omega)]
    exact Ev.step (fun k => impl_PrefixBlock.l0.eq_2 _ _ _ _ _ _ _) (Ev.if_neg (by omega) (Ev.some' (by simp [runs])))
  | succ d ih =>
    intro j t out hj ho ht
    have hj' : j < l.length := by omega
    have hx := hw _ (List.getElem_mem hj')
    rw [List.drop_eq_getElem_cons hj', runs]
    refine Ev.step (fun k => impl_PrefixBlock.l0.eq_2 _ _ _ _ _ _ _) (Ev.if_pos (by omega) (Ev.if_pos (by omega) (Ev.if_pos (by omega) ?_)))
    rw [rd_at l j hj', w64 (x := (j : Int) + 1) (by omega) (by omega), w64 (x := t + l[j]) (by omega) (by omega)]
    refine Ev.bind' (wrap_impl s _) (Ev.if_pos (by omega) ?_)
    have := ih (j + 1) ((t + l[j]) % p) (out ++ [(t + l[j]) % p]) (by omega) (by simp [ho]) (s.low _).2
    simpa using this

theorem add_impl {b p h : Int} (s : Size b p h) {x y : Int} (hx : 0 ≤ x ∧ x < p) (hy : 0 ≤ y ∧ y < p) : impl_DoOp.f 0 b x y = some ((x + y) % p, true) := by
  have hs := s.rng
  have e : impl_result.f 0 b x y = some ((x + y) % p) := by
    unfold impl_result.f
    rw [_root_.if_pos (by omega), _root_.if_neg (by omega), signed_impl s hx, signed_impl s hy]
    simp only [Option.bind_some]
    rw [_root_.if_pos trivial, wrap_impl s, w64 (by omega) (by omega)]; rfl
  unfold impl_DoOp.f
  rw [show impl_isOp.f 0 = some true from rfl, show impl_IsWord.f b x = some (wordB b x) from rfl, show impl_IsWord.f b y = some (wordB b y) from rfl, (Size.word s x).2 hx, (Size.word s y).2 hy, e]
  simp

theorem SumBlock_impl {b p h : Int} (s : Size b p h) (n : Int) (hn : n = 2 ∨ n = 4 ∨ n = 8 ∨ n = 16) (l : List Int) (hl : l.length ≤ 23) (hB : blockB b n l = true) :
    ∃ R : Int, Ev (fun k => impl_SumBlock.f k b n l) (lastRun p 0 l, R, true) ∧ R * n ≥ l.length ∧ (R ≤ 0 ∨ (R - 1) * n < l.length) ∧ 0 ≤ R ∧ R ≤ 12 := by
  have hs := s.rng
  refine ⟨((l.length : Int) + n - 1) / n, ?_, ?_⟩
  · unfold impl_SumBlock.f
    have e := sum_run s l 0 0
    rw [Int.zero_emod] at e
    refine Ev.bind' (a := true) (by show some (blockB b n l) = _; rw [hB]) (Ev.if_pos rfl (Ev.bind (sumOf_eq l (by omega)) (Ev.bind' (wrap_impl s _) (Ev.bind' (a := (l.length : Int)) rfl (Ev.if_neg (by omega) (Ev.some' ?_))))))
    rw [w64 (x := (l.length : Int) + n) (by omega) (by omega), w64 (x := (l.length : Int) + n - 1) (by omega) (by omega), Int.tdiv_eq_ediv_of_nonneg (by omega)]
    have e2 : wrap64 (((l.length : Int) + n - 1) / n) = ((l.length : Int) + n - 1) / n := by
      rcases hn with rfl | rfl | rfl | rfl <;> exact w64 (by omega) (by omega)
    rw [e2, ← e]; rfl
  · rcases hn with rfl | rfl | rfl | rfl <;> refine ⟨by omega, by omega, by omega, by omega⟩

end Go.Proofs.Ytpfoeologjacfaa.H
