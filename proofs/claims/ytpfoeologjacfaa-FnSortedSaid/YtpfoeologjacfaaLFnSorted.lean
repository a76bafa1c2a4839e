/- Plain lemmas that the proof of FnSorted leans on. -/
import Derived.KernelRfl
import Derived.Laws.Bits64b
import Derived.Test.YtpfoeologjacfaaM0
import Derived.Test.YtpfoeologjacfaaM1
import Derived.Test.YtpfoeologjacfaaM2
import Derived.Test.YtpfoeologjacfaaM3
import Derived.Test.YtpfoeologjacfaaM4
import Derived.Test.YtpfoeologjacfaaM5
namespace Go.Proofs.Ytpfoeologjacfaa.M
open Go.RowKit Go.Proofs.YtpfoeologjacfaaW.PrintWords Go.Proofs.YtpfoeologjacfaaW.PrintLast Go.Proofs.YtpfoeologjacfaaW.PrintMore
set_option linter.unusedVariables false
set_option linter.unusedSimpArgs false

theorem w64 {x : Int} (h0 : -9223372036854775808 ≤ x) (h1 : x ≤ 9223372036854775807) : wrap64 x = x := by unfold wrap64; omega

theorem rd_at (l : List Int) (j : Nat) (h : j < l.length) : rd l (j : Int) = l[j] := by
  unfold rd
  rw [Int.toNat_natCast]; simp [List.getD_eq_getElem?_getD, h]

theorem Ev.if_pos {α : Type} {c : Prop} [Decidable c] {g f : Nat → Option α} {r : α} (h : c) (k : Ev g r) : Ev (fun n => if c then g n else f n) r := Ev.congr (fun n => _root_.if_pos h) k

theorem Ev.if_neg {α : Type} {c : Prop} [Decidable c] {g f : Nat → Option α} {r : α} (h : ¬ c) (k : Ev f r) : Ev (fun n => if c then g n else f n) r := Ev.congr (fun n => _root_.if_neg h) k

theorem Ev.bind' {α β : Type} {g : Option α} {f : Nat → α → Option β} {a : α} {r : β} (h : g = some a) (k : Ev (fun n => f n a) r) : Ev (fun n => g.bind (f n)) r := Ev.congr (fun n => by rw [h]; rfl) k

theorem Ev.some' {α : Type} {a r : α} (h : a = r) : Ev (fun _ => some a) r := h ▸ Ev.now a

/-- A loop over a list that may end early. -/
def goLoop {σ β : Type} (f : σ → Int → Nat → β ⊕ σ) (fin : σ → β) : σ → List Int → Nat → β
  | s, [], _ => fin s
  | s, x :: xs, j => match f s x j with
    | .inl r => r
    | .inr s' => goLoop f fin s' xs (j + 1)

theorem loopEv {σ β : Type} (l : List Int) (g : Nat → σ → Int → Option β) (f : σ → Int → Nat → β ⊕ σ) (fin : σ → β) (Inv : σ → Nat → Prop)
    (h0 : ∀ k s, Inv s l.length → g (k + 1) s (l.length : Int) = some (fin s))
    (h1 : ∀ k s (j : Nat) (h : j < l.length), Inv s j → g (k + 1) s (j : Int) = match f s l[j] j with | .inl r => some r | .inr s' => g k s' ((j + 1 : Nat) : Int))
    (hI : ∀ s (j : Nat) (h : j < l.length) s', Inv s j → f s l[j] j = .inr s' → Inv s' (j + 1)) (s : σ) (hs : Inv s 0) :
    Ev (fun k => g k s 0) (goLoop f fin s l 0) := by
  have key : ∀ d j s, j + d = l.length → Inv s j → Ev (fun k => g k s (j : Int)) (goLoop f fin s (l.drop j) j) := by
    intro d
    induction d with
    | zero =>
      intro j s hj hs
      obtain rfl : j = l.length := by omega
      rw [List.drop_length]
      exact Ev.step (f := fun _ => some (fin s)) (fun k => h0 k s hs) (Ev.now _)
    | succ d ih =>
      intro j s hj hs
      have hlt : j < l.length := by omega
      rw [List.drop_eq_getElem_cons hlt]
      unfold goLoop
      cases hf : f s l[j] j with
      | inl r => exact Ev.step (f := fun _ => some r) (fun k => by rw [h1 k s j hlt hs, hf]) (Ev.now _)
      | inr s' => exact Ev.step (f := fun k => g k s' ((j + 1 : Nat) : Int)) (fun k => by rw [h1 k s j hlt hs, hf]) (ih (j + 1) s' (by omega) (hI s j hlt s' hs hf))
  simpa using key l.length 0 s (by omega) hs

/-- What holds of a loop's answer. -/
theorem goLoop_post {σ β : Type} {f : σ → Int → Nat → β ⊕ σ} {fin : σ → β} (l : List Int) (Inv : σ → Nat → Prop) (Post : β → Prop)
    (hfin : ∀ s, Inv s l.length → Post (fin s)) (hout : ∀ s (j : Nat) (h : j < l.length) r, Inv s j → f s l[j] j = .inl r → Post r)
    (hI : ∀ s (j : Nat) (h : j < l.length) s', Inv s j → f s l[j] j = .inr s' → Inv s' (j + 1)) (s : σ) (j0 : Nat) (hj0 : j0 ≤ l.length) (hs : Inv s j0) :
    Post (goLoop f fin s (l.drop j0) j0) := by
  have key : ∀ d j s, j + d = l.length → Inv s j → Post (goLoop f fin s (l.drop j) j) := by
    intro d
    induction d with
    | zero =>
      intro j s hj hs
      obtain rfl : j = l.length := by omega
      rw [List.drop_length]
      exact hfin s hs
    | succ d ih =>
      intro j s hj hs
      have hlt : j < l.length := by omega
      rw [List.drop_eq_getElem_cons hlt]
      unfold goLoop
      cases hf : f s l[j] j with
      | inl r => exact hout s j hlt r hs hf
      | inr s' => exact ih (j + 1) s' (by omega) (hI s j hlt s' hs hf)
  exact key (l.length - j0) j0 s (by omega) hs

theorem u64w {x : Int} (h0 : 0 ≤ x) (h1 : x ≤ 4611686018427387904) : IntKind.u64.wrap x = x := by
  unfold IntKind.wrap
  simp [IntKind.signed, IntKind.bits]
  omega

/-- The first place of a number, or -1. -/
def placeOf (x : Int) (l : List Int) : Int := goLoop (σ := Unit) (fun _ y j => if x = y then .inl (j : Int) else .inr ()) (fun _ => -1) () l 0

theorem index_eq (l : List Int) (x : Int) (hl : l.length ≤ 1048577) : Ev (fun k => slices_Index_int64_int64.f k l x) (placeOf x l) := by
  unfold slices_Index_int64_int64.f placeOf
  exact loopEv l (fun k (_ : Unit) i => slices_Index_int64_int64.l0 k l x (l.length : Int) i) _ _ (fun _ _ => True)
    (fun k s _ => by simp only [slices_Index_int64_int64.l0]; rw [_root_.if_neg (by omega)])
    (fun k s j hj _ => by
      simp only [slices_Index_int64_int64.l0]
      rw [_root_.if_pos (by omega), _root_.if_pos (by omega), _root_.if_pos (by omega), rd_at _ _ hj, w64 (x := (j : Int) + 1) (by omega) (by omega)]
      split <;> rfl)
    (fun _ _ _ _ _ _ => trivial) () trivial

theorem place_at (x : Int) (l : List Int) (b : Nat) (hb : b < l.length) (h : l[b] = x) (hn : ∀ i (hi : i < b), l[i] ≠ x) : placeOf x l = b := by
  have key : ∀ d j, j + d = b → goLoop (σ := Unit) (fun _ y j => if x = y then .inl (j : Int) else .inr ()) (fun _ => -1) () (l.drop j) j = (b : Int) := by
    intro d
    induction d with
    | zero =>
      intro j hj
      obtain rfl : j = b := by omega
      rw [List.drop_eq_getElem_cons hb]
      unfold goLoop
      rw [_root_.if_pos h.symm]
    | succ d ih =>
      intro j hj
      rw [List.drop_eq_getElem_cons (by omega)]
      unfold goLoop
      rw [_root_.if_neg (fun e => hn j (by omega) e.symm)]
      exact ih (j + 1) (by omega)
  exact key b 0 (by omega)

def exNew (far block : Int) (l s : List Int) (j : Nat) : List Int :=
  if Go.bits .and .i64 j block = 0 then (s.set j (mn (rd l j) (rd l (j + far)))).set ((j : Int) + far).toNat (mx (rd l j) (rd l (j + far)))
  else (s.set j (mx (rd l j) (rd l (j + far)))).set ((j : Int) + far).toNat (mn (rd l j) (rd l (j + far)))

def exStep (far block : Int) (l : List Int) (s : List Int) (_ : Int) (j : Nat) : List Int ⊕ List Int :=
  .inr (if Go.bits .and .i64 j far = 0 then exNew far block l s j else s)

def exEnd (s : List Int) : List Int := s

/-- One exchange of all lanes. -/
def exOf (far block : Int) (l : List Int) : List Int := goLoop (exStep far block l) exEnd l l 0

def exGood (n far block : Nat) : Bool := (List.range n).all fun j =>
  ((decide (Go.bits .and .i64 j far = 0) && decide (j + far < n)) || decide (Go.bits .and .i64 j far > 0)) && ((Go.bits .and .i64 (Go.bits .and .i64 j block) ((n : Int) - 1) == 0) == (Go.bits .and .i64 j block == 0))

theorem exNew_length (far block : Int) (l s : List Int) (j : Nat) : (exNew far block l s j).length = s.length := by
  unfold exNew; split <;> simp

theorem ex_use {n far block : Nat} (h : exGood n far block = true) (j : Nat) (hj : j < n) :
    (Go.bits .and .i64 j far = 0 ∧ j + far < n ∨ Go.bits .and .i64 j far ≠ 0 ∧ Go.bits .and .i64 j far > 0) ∧ (Go.bits .and .i64 (Go.bits .and .i64 j block) ((n : Int) - 1) = 0 ↔ Go.bits .and .i64 j block = 0) := by
  have := List.all_eq_true.1 h j (List.mem_range.2 hj)
  simp only [Bool.and_eq_true, Bool.or_eq_true, decide_eq_true_eq, beq_iff_eq] at this
  refine ⟨?_, ?_⟩
  · rcases this.1 with h | h
    · exact Or.inl h
    · exact Or.inr ⟨by omega, h⟩
  · have e := this.2
    rw [Bool.eq_iff_iff] at e
    simpa using e

theorem exOf_length (far block : Int) (l : List Int) : (exOf far block l).length = l.length := by
  unfold exOf
  exact goLoop_post (f := exStep far block l) (fin := exEnd) l (fun s _ => s.length = l.length) (fun r => r.length = l.length) (fun s hs => hs) (fun s j hj r _ hf => by cases hf)
    (fun s j hj s' hs hf => by
      cases hf
      split
      · rw [exNew_length]; exact hs
      · exact hs) l 0 (by omega) rfl

theorem exchange_impl (n far block : Nat) (l : List Int) (hn : l.length = n) (hl : n ≤ 16) (h1 : 1 ≤ n) (hb : block ≤ 16) (hf : far ≤ 16) (h : exGood n far block = true) : Ev (fun k => impl_exchanged.f k far block l) (exOf far block l) := by
  unfold impl_exchanged.f exOf
  refine Ev.bind' (a := l) (by unfold slices_Clone_int64_int64.f; rw [_root_.if_pos (by omega)]) (Ev.bind' (a := (l.length : Int)) rfl ?_)
  subst hn
  exact loopEv (σ := List Int) (β := List Int) l (fun k s i => impl_exchanged.l0 k l s l.length i far block) (exStep far block l) exEnd (fun s _ => s.length = l.length)
    (fun k s _ => by simp only [impl_exchanged.l0]; rw [_root_.if_neg (by omega)]; rfl)
    (fun k s j hj hs => by
      obtain ⟨hu, hv⟩ := ex_use h j hj
      simp only [impl_exchanged.l0, exStep, impl_length_int64.f, Option.bind_some]
      rw [_root_.if_pos (by omega), w64 (x := (j : Int) + 1) (by omega) (by omega), w64 (x := (j : Int) + (far : Int)) (by omega) (by omega), w64 (x := (l.length : Int) - 1) (by omega) (by omega)]
      rcases hu with ⟨h0, h1⟩ | ⟨h0, h1⟩
      · rw [_root_.if_pos h0, _root_.if_pos (by omega), _root_.if_pos (by omega), _root_.if_pos (by omega), _root_.if_pos (by omega), _root_.if_pos h0]
        simp only [exNew]
        by_cases h2 : Go.bits .and .i64 j block = 0
        · rw [_root_.if_pos (hv.2 h2), _root_.if_pos h2, _root_.if_pos (by omega), _root_.if_pos (by omega)]; rfl
        · rw [_root_.if_neg (fun e => h2 (hv.1 e)), _root_.if_neg h2, _root_.if_pos (by omega), _root_.if_pos (by omega)]; rfl
      · rw [_root_.if_neg h0, _root_.if_neg h0]; rfl)
    (fun s j hj s' hs hf => by
      cases hf
      split
      · rw [exNew_length]; exact hs
      · exact hs) l rfl

def powB (x n : Int) : Bool := decide (x = 1 ∨ x = 2 ∨ x = 4 ∨ x = 8 ∨ x = 16) && decide (x ≤ n)

theorem powB_iff {x n : Int} : powB x n = true ↔ (x = 1 ∨ x = 2 ∨ x = 4 ∨ x = 8 ∨ x = 16) ∧ x ≤ n := by simp [powB]

def powAll : Bool := (List.range 17).all fun m => m == 0 || impl_isPower.f (m : Int) == some (powB (m : Int) 16)

theorem powAll_true : powAll = true := by kernel_rfl

theorem pow_impl {a : Int} (h0 : 0 < a) (h1 : a ≤ 16) : impl_isPower.f a = some (powB a 16) := by
  obtain ⟨n, rfl⟩ := Int.eq_ofNat_of_zero_le (Int.le_of_lt h0)
  have := List.all_eq_true.1 powAll_true n (List.mem_range.2 (by omega))
  simp only [Bool.or_eq_true, beq_iff_eq] at this
  rcases this with rfl | h
  · omega
  · exact h

theorem vec_lanes {b : Int} {l : List Int} (h : vecB b l = true) : l.length = 2 ∨ l.length = 4 ∨ l.length = 8 ∨ l.length = 16 := by
  unfold vecB at h
  simp only [Bool.and_eq_true] at h
  have := lanes_cases h.2.1
  omega

theorem wf8 {x : Int} (h : (Lit.int .u8 x).wf = true) : 0 ≤ x ∧ x ≤ 255 := by
  have : IntKind.u8.min ≤ x ∧ x ≤ IntKind.u8.max := by simpa [Lit.wf] using h
  simp [IntKind.min, IntKind.max, IntKind.signed, IntKind.bits] at this
  omega

theorem u64_nat (x : Int) : ∃ n : Nat, IntKind.u64.wrap x = n ∧ n < 18446744073709551616 := by
  refine ⟨(IntKind.u64.wrap x).toNat, ?_⟩
  unfold IntKind.wrap
  simp [IntKind.signed, IntKind.bits]
  omega

theorem low_byte (x : Int) : ∃ n : Nat, Go.bits .and .u64 (IntKind.u64.wrap x / 1099511627776) 255 = n ∧ n ≤ 255 := by
  obtain ⟨n, h, hn⟩ := u64_nat x
  refine ⟨n / 1099511627776 &&& 255, ?_, Nat.and_le_right⟩
  rw [h]
  exact bits_and_u64_nat (n / 1099511627776) 255 (by omega) (by omega)

theorem next_eq (l : List Int) (p c : Int) (hb : ∀ x ∈ l, 0 ≤ x ∧ x ≤ 255) (h0 : 0 ≤ p) (h1 : p ≤ 4611686018427387904) :
    ∃ v c', spec_l00Src_next.f l p c = some (v, p + 1, c') ∧ 0 ≤ v ∧ v ≤ 255 := by
  have e : wrap64 (p + 1) = p + 1 := w64 (by omega) (by omega)
  unfold spec_l00Src_next.f
  rw [e]
  by_cases h : p < (l.length : Int)
  · obtain ⟨j, rfl⟩ := Int.eq_ofNat_of_zero_le h0
    have hj : j < l.length := by omega
    have := hb l[j] (List.getElem_mem hj)
    rw [_root_.if_pos h, _root_.if_pos h0, _root_.if_pos (by omega), rd_at l j hj, w64 (x := l[j]) (by omega) (by omega)]
    exact ⟨_, _, rfl, this.1, this.2⟩
  · rw [_root_.if_neg h, _root_.if_neg (by omega)]
    obtain ⟨n, hn, hn'⟩ := low_byte (IntKind.u64.wrap (IntKind.u64.wrap (c * 6364136223846793005)) + 1442695040888963407)
    rw [hn, w64 (x := (n : Int)) (by omega) (by omega)]
    exact ⟨_, _, rfl, by omega, by omega⟩

theorem pick_eq (l : List Int) (p c n : Int) (hb : ∀ x ∈ l, 0 ≤ x ∧ x ≤ 255) (h0 : 0 ≤ p) (h1 : p ≤ 4611686018427387000) (hn : 1 ≤ n) (hn' : n ≤ 65536) :
    ∃ v p' c', spec_l00Src_pick.f l p c n = some (v, p', c') ∧ 0 ≤ v ∧ v < n ∧ p ≤ p' ∧ p' ≤ p + 2 := by
  unfold spec_l00Src_pick.f
  by_cases h : n ≤ 1
  · rw [_root_.if_pos h]
    exact ⟨_, _, _, rfl, by omega, by omega, by omega, by omega⟩
  · rw [_root_.if_neg h]
    obtain ⟨v, c', e, hv, hv'⟩ := next_eq l p c hb h0 (by omega)
    rw [e]
    simp only [Option.bind_some]
    by_cases h2 : n > 200
    · rw [_root_.if_pos h2]
      obtain ⟨v2, c2, e2, hv2, hv2'⟩ := next_eq l (p + 1) c' hb (by omega) (by omega)
      rw [e2]
      simp only [Option.bind_some]
      rw [_root_.if_neg (by omega), w64 (x := v * 256) (by omega) (by omega), w64 (x := v * 256 + v2) (by omega) (by omega)]
      exact ⟨_, _, _, rfl, Int.tmod_nonneg _ (by omega), Int.tmod_lt_of_pos _ (by omega), by omega, by omega⟩
    · rw [_root_.if_neg h2, _root_.if_neg (by omega)]
      exact ⟨_, _, _, rfl, Int.tmod_nonneg _ hv, Int.tmod_lt_of_pos _ (by omega), by omega, by omega⟩

theorem among_eq (l q : List Int) (p c : Int) (hb : ∀ x ∈ l, 0 ≤ x ∧ x ≤ 255) (h0 : 0 ≤ p) (h1 : p ≤ 4611686018427387000) (hq : 1 ≤ q.length) (hq' : q.length ≤ 65536) :
    ∃ v p' c', spec_l00Src_among.f l p c q = some (v, p', c') ∧ v ∈ q ∧ p ≤ p' ∧ p' ≤ p + 2 := by
  unfold spec_l00Src_among.f
  obtain ⟨v, p', c', e, hv, hv', hp, hp'⟩ := pick_eq l p c q.length hb h0 h1 (by omega) (by omega)
  rw [e]
  simp only [Option.bind_some]
  rw [_root_.if_pos hv, _root_.if_pos hv']
  obtain ⟨j, rfl⟩ := Int.eq_ofNat_of_zero_le hv
  rw [rd_at q j (by omega)]
  exact ⟨_, _, _, rfl, List.getElem_mem _, hp, hp'⟩

theorem R8Lanes_eq (l : List Int) (hb : ∀ x ∈ l, 0 ≤ x ∧ x ≤ 255) : ∃ n, spec_R8Lanes.f l = some n ∧ (n = 2 ∨ n = 4 ∨ n = 8 ∨ n = 16) := by
  unfold spec_R8Lanes.f spec_l00From.f
  simp only [Option.bind_some]
  obtain ⟨v, p', c', e, hv, _⟩ := among_eq l [2, 4, 8, 16] 0 0 hb (by omega) (by omega) (by simp) (by simp)
  rw [e]
  exact ⟨v, rfl, by simpa using hv⟩

theorem same_ev (l : List Int) (hl : l.length ≤ 1048577) : Ev (fun k => laws_r8Same.f k l l) true := by
  unfold laws_r8Same.f
  refine Ev.if_pos rfl ?_
  have := loopEv (σ := Unit) (β := Bool) l (fun k _ i => laws_r8Same.l0 k l l i) (fun _ _ _ => .inr ()) (fun _ => true) (fun _ _ => True)
    (fun k s _ => by simp only [laws_r8Same.l0]; rw [_root_.if_neg (by omega)])
    (fun k s j hj hs => by
      simp only [laws_r8Same.l0]
      rw [_root_.if_pos (by omega), _root_.if_pos (by omega), _root_.if_pos (by omega), w64 (x := (j : Int) + 1) (by omega) (by omega), _root_.if_pos trivial]; rfl)
    (fun _ _ _ _ _ _ => trivial) () trivial
  have e : goLoop (σ := Unit) (β := Bool) (fun _ _ _ => .inr ()) (fun _ => true) () l 0 = true := goLoop_post (σ := Unit) (β := Bool) (f := fun _ _ _ => .inr ()) (fin := fun _ => true) l (fun _ _ => True) (fun r => r = true) (fun _ _ => rfl) (fun _ _ _ _ _ h => by cases h) (fun _ _ _ _ _ _ => trivial) () 0 (by omega) trivial
  rw [e] at this
  exact this

theorem R8Bits_eq (l : List Int) (hb : ∀ x ∈ l, 0 ≤ x ∧ x ≤ 255) : ∃ n, spec_R8Bits.f l = some n ∧ (n = 4 ∨ n = 8 ∨ n = 16) := by
  unfold spec_R8Bits.f spec_l00From.f
  simp only [Option.bind_some]
  obtain ⟨v, p', c', e, hv, _⟩ := among_eq l [4, 8, 16] 0 0 hb (by omega) (by omega) (by simp) (by simp)
  rw [e]
  exact ⟨v, rfl, by simpa using hv⟩

theorem one_eq (l : List Int) (p c n : Int) (hb : ∀ x ∈ l, 0 ≤ x ∧ x ≤ 255) (h0 : 0 ≤ p) (h1 : p ≤ 4611686018427387000) (hn : 1 ≤ n) (hn' : n ≤ 65536) :
    ∃ v p' c', spec_l00Src_one.f l p c n = some (v, p', c') ∧ p ≤ p' ∧ p' ≤ p + 2 := by
  unfold spec_l00Src_one.f
  obtain ⟨v, p', c', e, _, _, hp, hp'⟩ := pick_eq l p c n hb h0 h1 hn hn'
  rw [e]
  exact ⟨_, _, _, rfl, hp, hp'⟩

theorem good_eq (l : List Int) (p c b : Int) (hb : ∀ x ∈ l, 0 ≤ x ∧ x ≤ 255) (h0 : 0 ≤ p) (h1 : p ≤ 4611686018427380000) (hB : b = 4 ∨ b = 8 ∨ b = 16) :
    ∃ v p' c', spec_l01DrawGood.f l p c b = some (v, p', c') ∧ wordB b v = true ∧ p ≤ p' ∧ p' ≤ p + 4 := by
  unfold spec_l01DrawGood.f
  obtain ⟨v, p', c', e, hp, hp'⟩ := one_eq l p c 4 hb h0 (by omega) (by omega) (by omega)
  rw [e]
  simp only [Option.bind_some]
  have e1 : IntKind.u64.wrap b = b := u64w (by omega) (by omega)
  have e2 : IntKind.u64.wrap (b - 1) = b - 1 := u64w (by omega) (by omega)
  rw [e1, e2]
  by_cases h : v = true
  · rw [_root_.if_pos h, _root_.if_pos (show 0 ≤ b by omega), _root_.if_pos (show 0 ≤ b - 1 by omega)]
    obtain ⟨v2, p2, c2, e3, hv, hq, hq'⟩ := among_eq l [0, wrap64 (shl .i64 1 b - 1), shl .i64 1 (b - 1), wrap64 (shl .i64 1 (b - 1) - 1), 1] p' c' hb (by omega) (by omega) (by simp) (by simp)
    rw [e3]
    refine ⟨v2, p2, c2, rfl, ?_, by omega, by omega⟩
    simp only [List.mem_cons, List.not_mem_nil, or_false] at hv
    rcases hB with rfl | rfl | rfl <;> rcases hv with rfl | rfl | rfl | rfl | rfl <;> kernel_rfl
  · rw [_root_.if_neg h, _root_.if_pos (show 0 ≤ b by omega)]
    have e4 : shl .i64 1 b = 2 ^ b.toNat := by rcases hB with rfl | rfl | rfl <;> kernel_rfl
    have e5 : (2 : Int) ^ b.toNat ≤ 65536 ∧ 1 ≤ (2 : Int) ^ b.toNat := by rcases hB with rfl | rfl | rfl <;> decide
    rw [e4]
    obtain ⟨v2, p2, c2, e3, hv, hv', hq, hq'⟩ := pick_eq l p' c' (2 ^ b.toNat) hb (by omega) (by omega) e5.2 e5.1
    rw [e3]
    refine ⟨v2, p2, c2, rfl, ?_, by omega, by omega⟩
    have : bitsB b = true := by rcases hB with rfl | rfl | rfl <;> rfl
    simp [wordB, inB, this]
    omega

theorem words_draw (l : List Int) (b : Int) (hb : ∀ x ∈ l, 0 ≤ x ∧ x ≤ 255) (hB : b = 4 ∨ b = 8 ∨ b = 16) :
    ∀ (m : Nat) (xs : List Int) (p c : Int), xs.length + m ≤ 64 → 0 ≤ p → p + 4 * m ≤ 1000 →
      ∃ (W : List Int) (p' c' : Int), W.length = m ∧ (∀ x ∈ W, wordB b x = true) ∧ Ev (fun k => spec_l01DrawWords.l0 k b (m : Int) xs l p c) (xs ++ W, p', c') := by
  intro m
  induction m with
  | zero =>
    intro xs p c _ _ _
    exact ⟨[], p, c, rfl, (fun x h => by cases h), Ev.step (fun k => spec_l01DrawWords.l0.eq_2 _ _ _ _ _ _ _) (Ev.if_neg (by omega) (Ev.some' (by simp)))⟩
  | succ m ih =>
    intro xs p c hl h0 hp
    obtain ⟨v, p1, c1, e, hv, hq, hq'⟩ := good_eq l p c b hb h0 (by omega) hB
    obtain ⟨W, p2, c2, hW, hw, hE⟩ := ih (xs ++ [v]) p1 c1 (by simp; omega) (by omega) (by omega)
    refine ⟨v :: W, p2, c2, by simp [hW], fun x hx => ?_, ?_⟩
    · rcases List.mem_cons.1 hx with rfl | h
      · exact hv
      · exact hw x h
    · refine Ev.step (fun k => spec_l01DrawWords.l0.eq_2 _ _ _ _ _ _ _) (Ev.if_pos (by omega) (Ev.bind' e (Ev.if_pos (by omega) ?_)))
      rw [show wrap64 (((m + 1 : Nat) : Int) - 1) = (m : Int) by rw [w64 (by omega) (by omega)]; omega]
      simpa using hE

theorem R8Vector_eq (l : List Int) (b : Int) (n : Nat) (hb : ∀ x ∈ l, 0 ≤ x ∧ x ≤ 255) (hB : b = 4 ∨ b = 8 ∨ b = 16) (hn : n ≤ 16) :
    ∃ W : List Int, W.length = n ∧ (∀ x ∈ W, wordB b x = true) ∧ Ev (fun k => spec_R8Vector.f k l b n) W := by
  obtain ⟨W, p', c', h1, h2, h3⟩ := words_draw l b hb hB n [] 0 0 (by simp; omega) (by omega) (by omega)
  refine ⟨W, h1, h2, ?_⟩
  unfold spec_R8Vector.f spec_l01DrawWords.f spec_l00From.f
  exact Ev.bind' rfl (Ev.bind h3 (Ev.some' (by simp)))

/-- Comparing two places of a list, over any two operations. -/
def cmpG {α : Type} (lo hi : α → α → α) (s : List α) (p : Nat × Nat × Bool) : List α :=
  match s[p.1]?, s[p.2.1]? with
  | some a, some b => (s.set p.1 (cond p.2.2 (lo a b) (hi a b))).set p.2.1 (cond p.2.2 (hi a b) (lo a b))
  | _, _ => s

def netG {α : Type} (lo hi : α → α → α) (ps : List (Nat × Nat × Bool)) (s : List α) : List α := ps.foldl (cmpG lo hi) s

def bubG {α : Type} (lo hi : α → α → α) : α → List α → List α
  | x, [] => [x]
  | x, y :: L => lo y x :: bubG lo hi (hi y x) L

def insG {α : Type} (lo hi : α → α → α) (l : List α) : List α := l.foldl (fun s x => bubG lo hi x s) []

section
variable {α β : Type} {lo hi : α → α → α} {lo' hi' : β → β → β} {g : α → β} (h1 : ∀ a b, g (lo a b) = lo' (g a) (g b)) (h2 : ∀ a b, g (hi a b) = hi' (g a) (g b))
include h1 h2
theorem cmpG_map (s : List α) (p : Nat × Nat × Bool) : (cmpG lo hi s p).map g = cmpG lo' hi' (s.map g) p := by
  unfold cmpG
  rw [List.getElem?_map, List.getElem?_map]
  cases s[p.1]? with
  | none => rfl
  | some a =>
    cases s[p.2.1]? with
    | none => rfl
    | some b => cases p.2.2 <;> simp [List.map_set, h1, h2]
end

section
variable {α β : Type} {lo hi : α → α → α} {lo' hi' : β → β → β} {g : α → β} (h1 : ∀ a b, g (lo a b) = lo' (g a) (g b)) (h2 : ∀ a b, g (hi a b) = hi' (g a) (g b))
include h1 h2
theorem netG_map (ps : List (Nat × Nat × Bool)) : ∀ s : List α, (netG lo hi ps s).map g = netG lo' hi' ps (s.map g) := by
  induction ps with
  | nil => intro s; rfl
  | cons p ps ih =>
    intro s
    show (netG lo hi ps (cmpG lo hi s p)).map g = netG lo' hi' ps (cmpG lo' hi' (s.map g) p)
    rw [ih, cmpG_map h1 h2]
end

section
variable {α β : Type} {lo hi : α → α → α} {lo' hi' : β → β → β} {g : α → β} (h1 : ∀ a b, g (lo a b) = lo' (g a) (g b)) (h2 : ∀ a b, g (hi a b) = hi' (g a) (g b))
include h1 h2
theorem bubG_map : ∀ (L : List α) (x : α), (bubG lo hi x L).map g = bubG lo' hi' (g x) (L.map g) := by
  intro L
  induction L with
  | nil => intro x; rfl
  | cons y L ih => intro x; simp [bubG, ih, h1, h2]
end

section
variable {α β : Type} {lo hi : α → α → α} {lo' hi' : β → β → β} {g : α → β} (h1 : ∀ a b, g (lo a b) = lo' (g a) (g b)) (h2 : ∀ a b, g (hi a b) = hi' (g a) (g b))
include h1 h2
theorem insG_map (l : List α) : (insG lo hi l).map g = insG lo' hi' (l.map g) := by
  have : ∀ (l s : List α), (l.foldl (fun s x => bubG lo hi x s) s).map g = (l.map g).foldl (fun s x => bubG lo' hi' x s) (s.map g) := by
    intro l
    induction l with
    | nil => intro s; rfl
    | cons x l ih => intro s; rw [List.foldl_cons, ih, bubG_map h1 h2]; rfl
  exact this l []
end

/-- All tables of m truth values. -/
def tabs : Nat → List Nat
  | 0 => []
  | m + 1 => (tabs m).map (fun t => 2 ^ 2 ^ m * t + t) ++ [2 ^ 2 ^ m * (2 ^ 2 ^ m - 1) + 0]

theorem tabs_lt : ∀ m, ∀ t ∈ tabs m, t < 2 ^ 2 ^ m := by
  intro m
  induction m with
  | zero => intro t h; cases h
  | succ m ih =>
    intro t h
    have hp : 0 < 2 ^ 2 ^ m := Nat.pos_of_ne_zero (by simp)
    have e : 2 ^ 2 ^ (m + 1) = 2 ^ 2 ^ m * 2 ^ 2 ^ m := by rw [Nat.pow_succ, Nat.mul_comm, Nat.two_mul, Nat.pow_add]
    rw [e]
    have hm : ∀ x, x < 2 ^ 2 ^ m → ∀ y, y < 2 ^ 2 ^ m → 2 ^ 2 ^ m * x + y < 2 ^ 2 ^ m * 2 ^ 2 ^ m := by
      intro x hx y hy
      have : 2 ^ 2 ^ m * (x + 1) ≤ 2 ^ 2 ^ m * 2 ^ 2 ^ m := Nat.mul_le_mul_left _ hx
      rw [Nat.mul_succ] at this
      omega
    simp only [tabs, List.mem_append, List.mem_map, List.mem_singleton] at h
    rcases h with ⟨u, hu, rfl⟩ | rfl
    · exact hm u (ih u hu) u (ih u hu)
    · exact hm _ (by omega) 0 hp

theorem tabs_all : ∀ m, ∀ bs : List Bool, bs.length = m → ∃ a, a < 2 ^ m ∧ (tabs m).map (fun t => t.testBit a) = bs := by
  intro m
  induction m with
  | zero => intro bs h; exact ⟨0, by simp, (List.eq_nil_of_length_eq_zero h).symm⟩
  | succ m ih =>
    intro bs h
    have hne : bs ≠ [] := by intro e; rw [e] at h; cases h
    have hbs : bs = bs.dropLast ++ [bs.getLast hne] := (List.dropLast_concat_getLast hne).symm
    generalize bs.dropLast = cs at hbs
    generalize bs.getLast hne = b at hbs
    subst hbs
    obtain ⟨a, ha, hm⟩ := ih cs (by simpa using h)
    refine ⟨(if b = true then 2 ^ m else 0) + a, by rw [Nat.pow_succ]; split <;> omega, ?_⟩
    simp only [tabs, List.map_append, List.map_map, List.map_cons, List.map_nil]
    congr 1
    · rw [← hm]
      refine List.map_congr_left (fun t ht => ?_)
      have htl := tabs_lt m t ht
      simp only [Function.comp]
      rw [Nat.testBit_two_pow_mul_add _ htl]
      split
      · split at *
        · omega
        · simp
      · split at *
        · simp
        · omega
    · congr 1
      rw [Nat.testBit_two_pow_mul_add _ (Nat.pos_of_ne_zero (by simp))]
      cases b
      · simp [ha]
      · simp [ha]

/-- Two networks that agree on the tables agree on all whole numbers. -/
theorem zero_one (ps : List (Nat × Nat × Bool)) (n : Nat) (hk : netG Nat.land Nat.lor ps (tabs n) = insG Nat.land Nat.lor (tabs n)) (l : List Int) (hl : l.length = n) : netG mn mx ps l = insG mn mx l := by
  have hb : ∀ bs : List Bool, bs.length = n → netG and or ps bs = insG and or bs := by
    intro bs h
    obtain ⟨a, ha, hm⟩ := tabs_all n bs h
    have k1 : ∀ x y : Nat, (Nat.land x y).testBit a = (x.testBit a && y.testBit a) := fun x y => Nat.testBit_and x y a
    have k2 : ∀ x y : Nat, (Nat.lor x y).testBit a = (x.testBit a || y.testBit a) := fun x y => Nat.testBit_or x y a
    rw [← hm, ← netG_map (g := fun t : Nat => t.testBit a) k1 k2, ← insG_map (g := fun t : Nat => t.testBit a) k1 k2, hk]
  have hc : ∀ c : Int, (netG mn mx ps l).map (fun x => decide (c ≤ x)) = (insG mn mx l).map (fun x => decide (c ≤ x)) := by
    intro c
    have k1 : ∀ x y : Int, decide (c ≤ mn x y) = (decide (c ≤ x) && decide (c ≤ y)) := fun x y => by
      unfold mn; rw [Bool.eq_iff_iff]; split <;> simp <;> omega
    have k2 : ∀ x y : Int, decide (c ≤ mx x y) = (decide (c ≤ x) || decide (c ≤ y)) := fun x y => by
      unfold mx; rw [Bool.eq_iff_iff]; split <;> simp <;> omega
    rw [netG_map (g := fun x => decide (c ≤ x)) k1 k2, insG_map (g := fun x => decide (c ≤ x)) k1 k2]
    exact hb _ (by simpa using hl)
  have hlen : (netG mn mx ps l).length = (insG mn mx l).length := by have := congrArg List.length (hc 0); simpa using this
  refine List.ext_getElem hlen (fun i h1 h2 => ?_)
  have hi : ∀ c : Int, c ≤ (netG mn mx ps l)[i] ↔ c ≤ (insG mn mx l)[i] := by
    intro c
    have := congrArg (fun q => q[i]?) (hc c)
    simp only [List.getElem?_map, List.getElem?_eq_getElem h1, List.getElem?_eq_getElem h2, Option.map_some, Option.some.injEq] at this
    rw [Bool.eq_iff_iff] at this
    simpa using this
  have a1 := (hi (netG mn mx ps l)[i]).1 (Int.le_refl _)
  have a2 := (hi (insG mn mx l)[i]).2 (Int.le_refl _)
  omega

def ins (x : Int) : List Int → List Int
  | [] => [x]
  | y :: L => if y ≤ x then y :: ins x L else x :: y :: L

theorem ins_length (x : Int) : ∀ L, (ins x L).length = L.length + 1
  | [] => rfl
  | y :: L => by unfold ins; split <;> simp [ins_length x L]

theorem ins_mem (x : Int) : ∀ L z, z ∈ ins x L → z = x ∨ z ∈ L
  | [], z, h => by simp [ins] at h; exact Or.inl h
  | y :: L, z, h => by
    unfold ins at h
    split at h
    · rcases List.mem_cons.1 h with rfl | h
      · exact Or.inr (by simp)
      · rcases ins_mem x L z h with e | e
        · exact Or.inl e
        · exact Or.inr (by simp [e])
    · rcases List.mem_cons.1 h with rfl | h
      · exact Or.inl rfl
      · exact Or.inr h

theorem ins_sorted (x : Int) : ∀ L : List Int, L.Pairwise (· ≤ ·) → (ins x L).Pairwise (· ≤ ·)
  | [], _ => by simp [ins]
  | y :: L, h => by
    obtain ⟨h1, h2⟩ := List.pairwise_cons.1 h
    unfold ins
    split
    · refine List.pairwise_cons.2 ⟨fun z hz => ?_, ins_sorted x L h2⟩
      rcases ins_mem x L z hz with rfl | e
      · assumption
      · exact h1 z e
    · refine List.pairwise_cons.2 ⟨fun z hz => ?_, h⟩
      rcases List.mem_cons.1 hz with rfl | e
      · omega
      · have := h1 z e; omega

theorem ins_le (y : Int) : ∀ L : List Int, (∀ z ∈ L, y ≤ z) → ins y L = y :: L
  | [], _ => rfl
  | z :: L, h => by
    unfold ins
    split
    · have := h z (by simp)
      obtain rfl : z = y := by omega
      rw [ins_le z L (fun u hu => h u (by simp [hu]))]
    · rfl

theorem ins_bub : ∀ (L : List Int) (x : Int), L.Pairwise (· ≤ ·) → ins x L = bubG mn mx x L
  | [], x, _ => rfl
  | y :: L, x, h => by
    obtain ⟨h1, h2⟩ := List.pairwise_cons.1 h
    unfold ins bubG
    by_cases c : y ≤ x
    · rw [_root_.if_pos c, show mn y x = y by unfold mn; rw [_root_.if_neg (by omega)], show mx y x = x by unfold mx; split <;> omega, ins_bub L x h2]
    · rw [_root_.if_neg c, show mn y x = x by unfold mn; rw [_root_.if_pos (by omega)], show mx y x = y by unfold mx; rw [_root_.if_neg (by omega)], ← ins_bub L y h2, ins_le y L h1]

def insAll (l : List Int) (s : List Int) : List Int := l.foldl (fun s x => ins x s) s

theorem insAll_eq : ∀ (l s : List Int), s.Pairwise (· ≤ ·) → insAll l s = l.foldl (fun s x => bubG mn mx x s) s
  | [], s, _ => rfl
  | x :: l, s, h => by
    show insAll l (ins x s) = l.foldl _ (bubG mn mx x s)
    rw [insAll_eq l _ (ins_sorted x s h), ins_bub s x h]

theorem Ev.of_mono {α : Type} {g : Nat → Option α} {r : α} {K : Nat} (hm : ∀ k, LeO (g k) (g (k + 1))) (h : g K = some r) : Ev g r := by
  refine ⟨K, fun k hk => ?_⟩
  obtain ⟨d, rfl⟩ : ∃ d, k = K + d := ⟨k - K, by omega⟩
  induction d with
  | zero => exact h
  | succ d ih => exact hm _ r (ih (by omega))

def stepsOf (n : Nat) : List S54 := (impl_sortSteps.f 60 (n : Int)).getD []

theorem steps_eq (n : Nat) (hn : n = 2 ∨ n = 4 ∨ n = 8 ∨ n = 16) : Ev (fun k => impl_sortSteps.f k (n : Int)) (stepsOf n) := by
  refine Ev.of_mono (K := 60) (fun k => impl_sortSteps.mono _ k) ?_
  rcases hn with rfl | rfl | rfl | rfl <;> kernel_rfl

def pairsAt (n : Nat) (s : S54) : List (Nat × Nat × Bool) := (List.range n).filterMap fun (j : Nat) => if Go.bits .and .i64 (j : Int) s.f0 = 0 then some (if Go.bits .and .i64 (j : Int) s.f1 = 0 then (j, j + s.f0.toNat, true) else (j, j + s.f0.toNat, false)) else none

def pairsOf (n : Nat) : List (Nat × Nat × Bool) := (stepsOf n).flatMap (pairsAt n)

def stepGood (n : Nat) (s : S54) : Bool := exGood n s.f0.toNat s.f1.toNat && (decide (0 ≤ s.f0) && (decide (s.f0 ≤ 16) && (decide (0 ≤ s.f1) && decide (s.f1 ≤ 16))))

theorem steps_good (n : Nat) (hn : n = 2 ∨ n = 4 ∨ n = 8 ∨ n = 16) : (stepsOf n).all (stepGood n) = true := by
  rcases hn with rfl | rfl | rfl | rfl <;> kernel_rfl

theorem steps2 : stepsOf 2 = [⟨1, 2⟩] := by kernel_rfl

theorem steps4 : stepsOf 4 = [⟨1, 2⟩, ⟨2, 4⟩, ⟨1, 4⟩] := by kernel_rfl

theorem steps8 : stepsOf 8 = [⟨1, 2⟩, ⟨2, 4⟩, ⟨1, 4⟩, ⟨4, 8⟩, ⟨2, 8⟩, ⟨1, 8⟩] := by kernel_rfl

theorem steps16 : stepsOf 16 = [⟨1, 2⟩, ⟨2, 4⟩, ⟨1, 4⟩, ⟨4, 8⟩, ⟨2, 8⟩, ⟨1, 8⟩, ⟨8, 16⟩, ⟨4, 16⟩, ⟨2, 16⟩, ⟨1, 16⟩] := by kernel_rfl

theorem one_step (n : Nat) (hn : n = 2 ∨ n = 4 ∨ n = 8 ∨ n = 16) (s : S54) (hs : s ∈ stepsOf n) (l : List Int) (hl : l.length = n) : exOf s.f0 s.f1 l = netG mn mx (pairsAt n s) l := by
  rcases hn with rfl | rfl | rfl | rfl
  · rw [steps2] at hs
    match l, hl with
    | [a, b], _ =>
      simp only [List.mem_cons, List.not_mem_nil, or_false] at hs
      subst hs; show exOf _ _ _ = _; kernel_rfl
  · rw [steps4] at hs
    match l, hl with
    | [a, b, c, d], _ =>
      simp only [List.mem_cons, List.not_mem_nil, or_false] at hs
      rcases hs with rfl | rfl | rfl <;> (show exOf _ _ _ = _; kernel_rfl)
  · rw [steps8] at hs
    match l, hl with
    | [a, b, c, d, e, f, g, h], _ =>
      simp only [List.mem_cons, List.not_mem_nil, or_false] at hs
      rcases hs with rfl | rfl | rfl | rfl | rfl | rfl <;> (show exOf _ _ _ = _; kernel_rfl)
  · rw [steps16] at hs
    match l, hl with
    | [a, b, c, d, e, f, g, h, a', b', c', d', e', f', g', h'], _ =>
      simp only [List.mem_cons, List.not_mem_nil, or_false] at hs
      rcases hs with rfl | rfl | rfl | rfl | rfl | rfl | rfl | rfl | rfl | rfl <;> (show exOf _ _ _ = _; kernel_rfl)

theorem fold_steps (n : Nat) (hn : n = 2 ∨ n = 4 ∨ n = 8 ∨ n = 16) : ∀ (ss : List S54), (∀ s ∈ ss, s ∈ stepsOf n) → ∀ l : List Int, l.length = n → ss.foldl (fun l s => exOf s.f0 s.f1 l) l = netG mn mx (ss.flatMap (pairsAt n)) l := by
  intro ss
  induction ss with
  | nil => intro _ l _; rfl
  | cons s ss ih =>
    intro hs l hl
    rw [List.foldl_cons, List.flatMap_cons, ih (fun x hx => hs x (by simp [hx])) _ (by rw [exOf_length]; exact hl), one_step n hn s (hs s (by simp)) l hl]
    simp only [netG, List.foldl_append]

theorem tables2 : netG Nat.land Nat.lor (pairsOf 2) (tabs 2) = insG Nat.land Nat.lor (tabs 2) := of_decide_eq_true (by kernel_rfl)

theorem tables4 : netG Nat.land Nat.lor (pairsOf 4) (tabs 4) = insG Nat.land Nat.lor (tabs 4) := of_decide_eq_true (by kernel_rfl)

theorem tables8 : netG Nat.land Nat.lor (pairsOf 8) (tabs 8) = insG Nat.land Nat.lor (tabs 8) := of_decide_eq_true (by kernel_rfl)

theorem tables16 : netG Nat.land Nat.lor (pairsOf 16) (tabs 16) = insG Nat.land Nat.lor (tabs 16) := of_decide_eq_true (by kernel_rfl)

theorem sorted_same (n : Nat) (hn : n = 2 ∨ n = 4 ∨ n = 8 ∨ n = 16) (l : List Int) (hl : l.length = n) : (stepsOf n).foldl (fun l s => exOf s.f0 s.f1 l) l = insAll l [] := by
  rw [fold_steps n hn _ (fun s h => h) l hl, insAll_eq l [] List.Pairwise.nil]
  have := zero_one (pairsOf n) n (by
    rcases hn with rfl | rfl | rfl | rfl
    · exact tables2
    · exact tables4
    · exact tables8
    · exact tables16) l hl
  exact this

theorem sort_go (n : Nat) (hn : n = 2 ∨ n = 4 ∨ n = 8 ∨ n = 16) (ss : List S54) (hss : ss.length ≤ 64) (hg : ∀ s ∈ ss, stepGood n s = true) :
    ∀ (d j : Nat) (l : List Int), j + d = ss.length → l.length = n → Ev (fun k => impl_SortLanes.l0 k l ss (ss.length : Int) (j : Int)) ((ss.drop j).foldl (fun l s => exOf s.f0 s.f1 l) l, true) := by
  intro d
  induction d with
  | zero =>
    intro j l hj hl
    rw [List.drop_of_length_le (by omega)]
    exact Ev.step (fun k => impl_SortLanes.l0.eq_2 _ _ _ _ _) (Ev.if_neg (by omega) (Ev.now _))
  | succ d ih =>
    intro j l hj hl
    have hj' : j < ss.length := by omega
    rw [List.drop_eq_getElem_cons hj', List.foldl_cons]
    refine Ev.step (fun k => impl_SortLanes.l0.eq_2 _ _ _ _ _) (Ev.if_pos (by omega) (Ev.if_pos (by omega) (Ev.if_pos (by omega) ?_)))
    have hr : rd_T54 ss (j : Int) = ss[j] := by
      unfold rd_T54
      simp [List.getD_eq_getElem?_getD, List.getElem?_eq_getElem hj']
    have h := hg ss[j] (List.getElem_mem hj')
    simp only [stepGood, Bool.and_eq_true, decide_eq_true_eq] at h
    obtain ⟨g, a1, a2, b1, b2⟩ := h
    rw [hr, w64 (x := (j : Int) + 1) (by omega) (by omega)]
    have q := exchange_impl n ss[j].f0.toNat ss[j].f1.toNat l hl (by omega) (by omega) (by omega) (by omega) g
    rw [show ((ss[j].f0.toNat : Nat) : Int) = ss[j].f0 by omega, show ((ss[j].f1.toNat : Nat) : Int) = ss[j].f1 by omega] at q
    exact Ev.bind q (ih (j + 1) _ (by omega) (by rw [exOf_length]; exact hl))

theorem first_or (x : Int) : ∀ l : List Int, (∀ y ∈ l, y ≠ x) ∨ ∃ b, ∃ hb : b < l.length, l[b] = x ∧ ∀ i (hi : i < b), l[i] ≠ x
  | [] => Or.inl (fun y h => by cases h)
  | y :: l => by
    by_cases e : y = x
    · exact Or.inr ⟨0, by simp, e, fun i hi => by omega⟩
    · rcases first_or x l with h | ⟨b, hb, h1, h2⟩
      · exact Or.inl (fun z hz => by
          rcases List.mem_cons.1 hz with rfl | q
          · exact e
          · exact h z q)
      · refine Or.inr ⟨b + 1, by simpa using hb, h1, fun i hi => ?_⟩
        cases i with
        | zero => exact e
        | succ i => exact h2 i (by omega)

def cntN (x : Int) : List Int → Nat
  | [] => 0
  | y :: l => (if y = x then 1 else 0) + cntN x l

theorem cntN_some (x : Int) : ∀ l : List Int, x ∈ l → 0 < cntN x l
  | y :: l, h => by
    unfold cntN
    split
    · omega
    · rename_i e
      rcases List.mem_cons.1 h with rfl | q
      · exact absurd rfl e
      · have := cntN_some x l q; omega

theorem r8Count_go (x : Int) (l : List Int) (hl : l.length ≤ 1000) : ∀ (d j c : Nat), j + d = l.length → c ≤ j → Ev (fun k => laws_r8Count.l0 k l x (c : Int) (j : Int)) ((c + cntN x (l.drop j) : Nat) : Int) := by
  intro d
  induction d with
  | zero =>
    intro j c hj hc
    rw [List.drop_of_length_le (by omega)]
    exact Ev.step (fun k => laws_r8Count.l0.eq_2 _ _ _ _ _) (Ev.if_neg (by omega) (Ev.now _))
  | succ d ih =>
    intro j c hj hc
    have hj' : j < l.length := by omega
    rw [List.drop_eq_getElem_cons hj', cntN]
    refine Ev.step (fun k => laws_r8Count.l0.eq_2 _ _ _ _ _) (Ev.if_pos (by omega) (Ev.if_pos (by omega) ?_))
    rw [rd_at l j hj', w64 (x := (j : Int) + 1) (by omega) (by omega)]
    by_cases e : l[j] = x
    · refine Ev.if_pos e ?_
      rw [w64 (x := (c : Int) + 1) (by omega) (by omega), _root_.if_pos e, ← Nat.add_assoc]
      exact ih (j + 1) (c + 1) (by omega) (by omega)
    · refine Ev.if_neg e ?_
      rw [_root_.if_neg e, Nat.zero_add]
      exact ih (j + 1) c (by omega) (by omega)

theorem r8Count_eq (x : Int) (l : List Int) (hl : l.length ≤ 1000) : Ev (fun k => laws_r8Count.f k l x) ((cntN x l : Nat) : Int) := by
  have := r8Count_go x l hl l.length 0 0 (by omega) (by omega)
  simpa [laws_r8Count.f] using this

theorem cntN_ins (x y : Int) : ∀ L : List Int, cntN x (ins y L) = (if y = x then 1 else 0) + cntN x L
  | [] => by simp [ins, cntN]
  | z :: L => by
    unfold ins
    split
    · simp only [cntN, cntN_ins x y L]; omega
    · simp only [cntN]

theorem cntN_insAll (x : Int) : ∀ (l s : List Int), cntN x (insAll l s) = cntN x l + cntN x s
  | [], s => by simp [insAll, cntN]
  | y :: l, s => by
    show cntN x (insAll l (ins y s)) = _
    rw [cntN_insAll x l, cntN_ins]
    simp only [cntN]; omega

theorem insAll_sorted : ∀ (l s : List Int), s.Pairwise (· ≤ ·) → (insAll l s).Pairwise (· ≤ ·)
  | [], s, h => h
  | y :: l, s, h => insAll_sorted l (ins y s) (ins_sorted y s h)

theorem insAll_length : ∀ (l s : List Int), (insAll l s).length = l.length + s.length
  | [], s => by simp [insAll]
  | y :: l, s => by
    show (insAll l (ins y s)).length = _
    rw [insAll_length l, ins_length]; simp; omega

theorem cntN_pos {x : Int} : ∀ {l : List Int}, 0 < cntN x l → x ∈ l
  | [], h => by simp [cntN] at h
  | y :: l, h => by
    by_cases e : y = x
    · simp [e]
    · simp only [cntN, e, if_false, Nat.zero_add] at h
      exact List.mem_cons_of_mem _ (cntN_pos h)

theorem sorted_le {L : List Int} (h : L.Pairwise (· ≤ ·)) (i j : Nat) (hj : j < L.length) (hij : i < j) : L[i] ≤ L[j] := (List.pairwise_iff_getElem.1 h) i j (by omega) hj hij

theorem sort_impl_eq (b : Int) (l : List Int) (hv : vecB b l = true) (hl : l.length ≤ 16) : Ev (fun k => impl_SortLanes.f k b l) (insAll l [], true) := by
  have hn := vec_lanes hv
  have hs := sorted_same l.length hn l rfl
  unfold impl_SortLanes.f
  have hss : (stepsOf l.length).length ≤ 64 := by rcases hn with h | h | h | h <;> rw [h] <;> exact of_decide_eq_true (by kernel_rfl)
  refine Ev.bind' (a := true) (by show some (vecB b l) = _; rw [hv]) (Ev.if_pos rfl (Ev.bind' (a := l) (by unfold slices_Clone_int64_int64.f; rw [_root_.if_pos (by omega)]) (Ev.bind' (a := (l.length : Int)) rfl (Ev.bind (steps_eq l.length hn) ?_))))
  have := sort_go l.length hn (stepsOf l.length) hss (fun s h => List.all_eq_true.1 (steps_good l.length hn) s h) (stepsOf l.length).length 0 l (by omega) rfl
  rw [List.drop_zero, hs] at this
  exact this

/-- A step of the sort, as ExchangeLanes does it. -/
theorem exchange_step (b : Int) (l : List Int) (n : Nat) (hn : n = 2 ∨ n = 4 ∨ n = 8 ∨ n = 16) (hl : l.length = n) (hv : vecB b l = true) (s : S54) (hs : s ∈ stepsOf n) : Ev (fun k => impl_ExchangeLanes.f k b s.f0 s.f1 l) (exOf s.f0 s.f1 l, true) := by
  have hg := List.all_eq_true.1 (steps_good n hn) s hs
  have hp : (stepsOf n).all (fun s => powB s.f0 16 && (powB s.f1 16 && (decide (s.f0 < s.f1) && decide (s.f1 ≤ n)))) = true := by
    rcases hn with rfl | rfl | rfl | rfl <;> kernel_rfl
  have hp := List.all_eq_true.1 hp s hs
  simp only [Bool.and_eq_true, decide_eq_true_eq] at hp
  simp only [stepGood, Bool.and_eq_true, decide_eq_true_eq] at hg
  obtain ⟨g, a1, a2, b1, b2⟩ := hg
  obtain ⟨p1, p2, p3, p4⟩ := hp
  have q1 := powB_iff.1 p1
  have q2 := powB_iff.1 p2
  have q := exchange_impl n s.f0.toNat s.f1.toNat l hl (by omega) (by omega) (by omega) (by omega) g
  rw [show ((s.f0.toNat : Nat) : Int) = s.f0 by omega, show ((s.f1.toNat : Nat) : Int) = s.f1 by omega] at q
  unfold impl_ExchangeLanes.f
  exact Ev.bind' (a := true) (by show some (vecB b l) = _; rw [hv]) (Ev.if_pos rfl (Ev.bind' (pow_impl (by omega) (by omega)) (Ev.if_pos p1 (Ev.bind' (pow_impl (by omega) (by omega)) (Ev.if_pos p2 (Ev.if_neg (by omega) (Ev.bind' (a := (l.length : Int)) rfl (Ev.if_neg (by omega) (Ev.bind q (Ev.now _))))))))))

/-- The exchanges keep words and length. -/
theorem exOf_vec (b : Int) (l : List Int) (n : Nat) (hn : n = 2 ∨ n = 4 ∨ n = 8 ∨ n = 16) (hl : l.length = n) (hv : vecB b l = true) (s : S54) (hs : s ∈ stepsOf n) : vecB b (exOf s.f0 s.f1 l) = true := by
  have hw : ∀ x ∈ l, wordB b x = true := by
    unfold vecB at hv
    simp only [Bool.and_eq_true, List.all_eq_true] at hv
    exact hv.2.2
  have hL : bitsB b = true ∧ lanesB (l.length : Int) = true := by
    unfold vecB at hv
    simp only [Bool.and_eq_true] at hv
    exact ⟨hv.1, hv.2.1⟩
  have hset : ∀ (s : List Int) (p : Nat × Nat × Bool), (∀ x ∈ s, wordB b x = true) → ∀ x ∈ cmpG mn mx s p, wordB b x = true := by
    intro s p h x hx
    unfold cmpG at hx
    split at hx
    · rename_i a c ha hc
      have ha' : wordB b a = true := h a (List.mem_of_getElem? ha)
      have hc' : wordB b c = true := h c (List.mem_of_getElem? hc)
      have hmn : wordB b (mn a c) = true := by unfold mn; split <;> assumption
      have hmx : wordB b (mx a c) = true := by unfold mx; split <;> assumption
      rcases List.mem_or_eq_of_mem_set hx with h1 | rfl
      · rcases List.mem_or_eq_of_mem_set h1 with h2 | rfl
        · exact h x h2
        · cases p.2.2 <;> assumption
      · cases p.2.2 <;> assumption
    · exact h x hx
  have hnet : ∀ (ps : List (Nat × Nat × Bool)) (s : List Int), (∀ x ∈ s, wordB b x = true) → ∀ x ∈ netG mn mx ps s, wordB b x = true := by
    intro ps
    induction ps with
    | nil => intro s h; exact h
    | cons p ps ih => intro s h; exact ih (cmpG mn mx s p) (hset s p h)
  unfold vecB
  rw [exOf_length, hL.1, hL.2]
  simp only [Bool.true_and, List.all_eq_true]
  rw [one_step n hn s hs l hl]
  exact hnet _ l hw

theorem min_ends (l : List Int) (h0 : 0 < l.length) (hl : l.length ≤ 1000) : ∃ m, Ev (fun k => slices_Min_int64_int64.f k l) m ∧ m ∈ l ∧ ∀ y ∈ l, m ≤ y := by
  have main : ∀ (d j : Nat) (m : Int), j + d = l.length → m ∈ l → (∀ i (hi : i < l.length), i < j → m ≤ l[i]) → ∃ r, Ev (fun k => slices_Min_int64_int64.l0 k l m (j : Int)) r ∧ r ∈ l ∧ ∀ y ∈ l, r ≤ y := by
    intro d
    induction d with
    | zero =>
      intro j m hj hm h
      refine ⟨m, Ev.step (fun k => slices_Min_int64_int64.l0.eq_2 _ _ _ _) (Ev.if_neg (by omega) (Ev.now _)), hm, fun y hy => ?_⟩
      obtain ⟨i, hi, rfl⟩ := List.mem_iff_getElem.1 hy
      exact h i hi (by omega)
    | succ d ih =>
      intro j m hj hm h
      have hj' : j < l.length := by omega
      have hmn : mn m l[j] ∈ l ∧ mn m l[j] ≤ m ∧ mn m l[j] ≤ l[j] := by
        unfold mn; split
        · exact ⟨List.getElem_mem hj', by omega, by omega⟩
        · exact ⟨hm, by omega, by omega⟩
      obtain ⟨r, hr, h1, h2⟩ := ih (j + 1) (mn m l[j]) (by omega) hmn.1 (fun i hi hij => by
        by_cases e : i = j
        · subst e; exact hmn.2.2
        · have := h i hi (by omega); omega)
      refine ⟨r, Ev.step (fun k => slices_Min_int64_int64.l0.eq_2 _ _ _ _) (Ev.if_pos (by omega) (Ev.if_pos (by omega) ?_)), h1, h2⟩
      rw [rd_at l j hj', w64 (x := (j : Int) + 1) (by omega) (by omega)]
      exact hr
  obtain ⟨r, hr, h1, h2⟩ := main (l.length - 1) 1 l[0] (by omega) (List.getElem_mem h0) (fun i hi hi1 => by
    obtain rfl : i = 0 := by omega
    exact Int.le_refl _)
  refine ⟨r, ?_, h1, h2⟩
  unfold slices_Min_int64_int64.f
  have e : rd l 0 = l[0] := rd_at l 0 h0
  refine Ev.if_neg (by omega) (Ev.if_pos (by omega) ?_)
  rw [e]
  exact hr

theorem Least_impl (b : Int) (l : List Int) (hv : vecB b l = true) (h0 : 0 < l.length) (hl : l.length ≤ 1000) : ∃ c : Nat, ∃ hc : c < l.length, Ev (fun k => impl_LeastLane.f k b l) ((c : Int), true) ∧ (∀ y ∈ l, l[c] ≤ y) ∧ ∀ i (hi : i < c), l[i] ≠ l[c] := by
  obtain ⟨m, hm, h1, h2⟩ := min_ends l h0 hl
  rcases first_or m l with hno | ⟨c, hc, e, hf⟩
  · exact absurd rfl (hno m h1)
  · refine ⟨c, hc, ?_, fun y hy => by rw [e]; exact h2 y hy, fun i hi => by rw [e]; exact hf i hi⟩
    unfold impl_LeastLane.f
    have hi := index_eq l m (by omega)
    rw [place_at m l c hc e hf] at hi
    exact Ev.bind' (a := true) (by show some (vecB b l) = _; rw [hv]) (Ev.if_pos rfl (Ev.bind hm (Ev.bind hi (Ev.now _))))

end Go.Proofs.Ytpfoeologjacfaa.M
