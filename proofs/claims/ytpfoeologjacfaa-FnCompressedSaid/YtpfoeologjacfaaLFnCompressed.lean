/- Plain lemmas that the proof of FnCompressed leans on. -/
import Derived.KernelRfl
import Derived.Laws.Bits64b
import Derived.Test.YtpfoeologjacfaaF0
import Derived.Test.YtpfoeologjacfaaF1
import Derived.Test.YtpfoeologjacfaaF2
import Derived.Test.YtpfoeologjacfaaF3
namespace Go.Proofs.Ytpfoeologjacfaa.F
open Go.RowKit Go.Proofs.YtpfoeologjacfaaW.PrintWords Go.Proofs.YtpfoeologjacfaaW.PrintLast Go.Proofs.YtpfoeologjacfaaW.PrintMore
set_option linter.unusedVariables false
set_option linter.unusedSimpArgs false

theorem w64 {x : Int} (h0 : -9223372036854775808 ≤ x) (h1 : x ≤ 9223372036854775807) : wrap64 x = x := by unfold wrap64; omega
theorem rd_at (l : List Int) (j : Nat) (h : j < l.length) : rd l (j : Int) = l[j] := by
  unfold rd
  rw [Int.toNat_natCast]; simp [List.getD_eq_getElem?_getD, h]

theorem Ev.if_pos {α : Type} {c : Prop} [Decidable c] {g f : Nat → Option α} {r : α} (h : c) (k : Ev g r) : Ev (fun n => if c then g n else f n) r := Ev.congr (fun n => _root_.if_pos h) k
theorem Ev.if_neg {α : Type} {c : Prop} [Decidable c] {g f : Nat → Option α} {r : α} (h : ¬ c) (k : Ev f r) : Ev (fun n => if c then g n else f n) r := Ev.congr (fun n => _root_.if_neg h) k
theorem Ev.bind' {α β : Type} {g : Option α} {f : Nat → α → Option β} {a : α} {r : β} (h : g = some a) (k : Ev (fun n => f n a) r) : Ev (fun n => g.bind (f n)) r := Ev.congr (fun n => by rw [h]; rfl) k
theorem Ev.some' {α : Type} {a r : α} (h : a = r) : Ev (fun _ => some a) r := h ▸ Ev.now a

theorem u64w {x : Int} (h0 : 0 ≤ x) (h1 : x ≤ 4611686018427387904) : IntKind.u64.wrap x = x := by
  unfold IntKind.wrap
  simp [IntKind.signed, IntKind.bits]
  omega

theorem wf8 {x : Int} (h : (Lit.int .u8 x).wf = true) : 0 ≤ x ∧ x ≤ 255 := by
  have : IntKind.u8.min ≤ x ∧ x ≤ IntKind.u8.max := by simpa [Lit.wf] using h
  simp [IntKind.min, IntKind.max, IntKind.signed, IntKind.bits] at this
  omega

theorem u64_nat (x : Int) : ∃ n : Nat, IntKind.u64.wrap x = n ∧ n < 18446744073709551616 := by
  refine ⟨(IntKind.u64.wrap x).toNat, ?_⟩
  unfold IntKind.wrap
  simp [IntKind.signed, IntKind.bits]
  omega
theorem low_byte (x : Int) : ∃ n : Nat, Go.bits .and .u64 (IntKind.u64.wrap x / 1099511627776) 255 = n ∧ n ≤ 255 := by
  obtain ⟨n, h, hn⟩ := u64_nat x
  refine ⟨n / 1099511627776 &&& 255, ?_, Nat.and_le_right⟩
  rw [h]
  exact bits_and_u64_nat (n / 1099511627776) 255 (by omega) (by omega)
theorem next_eq (l : List Int) (p c : Int) (hb : ∀ x ∈ l, 0 ≤ x ∧ x ≤ 255) (h0 : 0 ≤ p) (h1 : p ≤ 4611686018427387904) :
    ∃ v c', spec_l00Src_next.f l p c = some (v, p + 1, c') ∧ 0 ≤ v ∧ v ≤ 255 := by
  have e : wrap64 (p + 1) = p + 1 := w64 (by omega) (by omega)
  unfold spec_l00Src_next.f
  rw [e]
  by_cases h : p < (l.length : Int)
  · obtain ⟨j, rfl⟩ := Int.eq_ofNat_of_zero_le h0
    have hj : j < l.length := by omega
    have := hb l[j] (List.getElem_mem hj)
    rw [_root_.if_pos h, _root_.if_pos h0, _root_.if_pos (by omega), rd_at l j hj, w64 (x := l[j]) (by omega) (by omega)]
    exact ⟨_, _, rfl, this.1, this.2⟩
  · rw [_root_.if_neg h, _root_.if_neg (by omega)]
    obtain ⟨n, hn, hn'⟩ := low_byte (IntKind.u64.wrap (IntKind.u64.wrap (c * 6364136223846793005)) + 1442695040888963407)
    rw [hn, w64 (x := (n : Int)) (by omega) (by omega)]
    exact ⟨_, _, rfl, by omega, by omega⟩
theorem pick_eq (l : List Int) (p c n : Int) (hb : ∀ x ∈ l, 0 ≤ x ∧ x ≤ 255) (h0 : 0 ≤ p) (h1 : p ≤ 4611686018427387000) (hn : 1 ≤ n) (hn' : n ≤ 65536) :
    ∃ v p' c', spec_l00Src_pick.f l p c n = some (v, p', c') ∧ 0 ≤ v ∧ v < n ∧ p ≤ p' ∧ p' ≤ p + 2 := by
  unfold spec_l00Src_pick.f
  by_cases h : n ≤ 1
  · rw [_root_.if_pos h]
    exact ⟨_, _, _, rfl, by omega, by omega, by omega, by omega⟩
  · rw [_root_.if_neg h]
    obtain ⟨v, c', e, hv, hv'⟩ := next_eq l p c hb h0 (by omega)
    rw [e]
    simp only [Option.bind_some]
    by_cases h2 : n > 200
    · rw [_root_.if_pos h2]
      obtain ⟨v2, c2, e2, hv2, hv2'⟩ := next_eq l (p + 1) c' hb (by omega) (by omega)
      rw [e2]
      simp only [Option.bind_some]
      rw [_root_.if_neg (by omega), w64 (x := v * 256) (by omega) (by omega), w64 (x := v * 256 + v2) (by omega) (by omega)]
      exact ⟨_, _, _, rfl, Int.tmod_nonneg _ (by omega), Int.tmod_lt_of_pos _ (by omega), by omega, by omega⟩
    · rw [_root_.if_neg h2, _root_.if_neg (by omega)]
      exact ⟨_, _, _, rfl, Int.tmod_nonneg _ hv, Int.tmod_lt_of_pos _ (by omega), by omega, by omega⟩
theorem among_eq (l q : List Int) (p c : Int) (hb : ∀ x ∈ l, 0 ≤ x ∧ x ≤ 255) (h0 : 0 ≤ p) (h1 : p ≤ 4611686018427387000) (hq : 1 ≤ q.length) (hq' : q.length ≤ 65536) :
    ∃ v p' c', spec_l00Src_among.f l p c q = some (v, p', c') ∧ v ∈ q ∧ p ≤ p' ∧ p' ≤ p + 2 := by
  unfold spec_l00Src_among.f
  obtain ⟨v, p', c', e, hv, hv', hp, hp'⟩ := pick_eq l p c q.length hb h0 h1 (by omega) (by omega)
  rw [e]
  simp only [Option.bind_some]
  rw [_root_.if_pos hv, _root_.if_pos hv']
  obtain ⟨j, rfl⟩ := Int.eq_ofNat_of_zero_le hv
  rw [rd_at q j (by omega)]
  exact ⟨_, _, _, rfl, List.getElem_mem _, hp, hp'⟩
theorem R8Lanes_eq (l : List Int) (hb : ∀ x ∈ l, 0 ≤ x ∧ x ≤ 255) : ∃ n, spec_R8Lanes.f l = some n ∧ (n = 2 ∨ n = 4 ∨ n = 8 ∨ n = 16) := by
  unfold spec_R8Lanes.f spec_l00From.f
  simp only [Option.bind_some]
  obtain ⟨v, p', c', e, hv, _⟩ := among_eq l [2, 4, 8, 16] 0 0 hb (by omega) (by omega) (by simp) (by simp)
  rw [e]
  exact ⟨v, rfl, by simpa using hv⟩

def cast (E : List Nat) : List Int := E.map fun (x : Nat) => (x : Int)
theorem cast_length (E : List Nat) : (cast E).length = E.length := by simp [cast]

theorem R8Bits_eq (l : List Int) (hb : ∀ x ∈ l, 0 ≤ x ∧ x ≤ 255) : ∃ n, spec_R8Bits.f l = some n ∧ (n = 4 ∨ n = 8 ∨ n = 16) := by
  unfold spec_R8Bits.f spec_l00From.f
  simp only [Option.bind_some]
  obtain ⟨v, p', c', e, hv, _⟩ := among_eq l [4, 8, 16] 0 0 hb (by omega) (by omega) (by simp) (by simp)
  rw [e]
  exact ⟨v, rfl, by simpa using hv⟩
theorem one_eq (l : List Int) (p c n : Int) (hb : ∀ x ∈ l, 0 ≤ x ∧ x ≤ 255) (h0 : 0 ≤ p) (h1 : p ≤ 4611686018427387000) (hn : 1 ≤ n) (hn' : n ≤ 65536) :
    ∃ v p' c', spec_l00Src_one.f l p c n = some (v, p', c') ∧ p ≤ p' ∧ p' ≤ p + 2 := by
  unfold spec_l00Src_one.f
  obtain ⟨v, p', c', e, _, _, hp, hp'⟩ := pick_eq l p c n hb h0 h1 hn hn'
  rw [e]
  exact ⟨_, _, _, rfl, hp, hp'⟩
theorem good_eq (l : List Int) (p c b : Int) (hb : ∀ x ∈ l, 0 ≤ x ∧ x ≤ 255) (h0 : 0 ≤ p) (h1 : p ≤ 4611686018427380000) (hB : b = 4 ∨ b = 8 ∨ b = 16) :
    ∃ v p' c', spec_l01DrawGood.f l p c b = some (v, p', c') ∧ wordB b v = true ∧ p ≤ p' ∧ p' ≤ p + 4 := by
  unfold spec_l01DrawGood.f
  obtain ⟨v, p', c', e, hp, hp'⟩ := one_eq l p c 4 hb h0 (by omega) (by omega) (by omega)
  rw [e]
  simp only [Option.bind_some]
  have e1 : IntKind.u64.wrap b = b := u64w (by omega) (by omega)
  have e2 : IntKind.u64.wrap (b - 1) = b - 1 := u64w (by omega) (by omega)
  rw [e1, e2]
  by_cases h : v = true
  · rw [_root_.if_pos h, _root_.if_pos (show 0 ≤ b by omega), _root_.if_pos (show 0 ≤ b - 1 by omega)]
    obtain ⟨v2, p2, c2, e3, hv, hq, hq'⟩ := among_eq l [0, wrap64 (shl .i64 1 b - 1), shl .i64 1 (b - 1), wrap64 (shl .i64 1 (b - 1) - 1), 1] p' c' hb (by omega) (by omega) (by simp) (by simp)
    rw [e3]
    refine ⟨v2, p2, c2, rfl, ?_, by omega, by omega⟩
    simp only [List.mem_cons, List.not_mem_nil, or_false] at hv
    rcases hB with rfl | rfl | rfl <;> rcases hv with rfl | rfl | rfl | rfl | rfl <;> kernel_rfl
  · rw [_root_.if_neg h, _root_.if_pos (show 0 ≤ b by omega)]
    have e4 : shl .i64 1 b = 2 ^ b.toNat := by rcases hB with rfl | rfl | rfl <;> kernel_rfl
    have e5 : (2 : Int) ^ b.toNat ≤ 65536 ∧ 1 ≤ (2 : Int) ^ b.toNat := by rcases hB with rfl | rfl | rfl <;> decide
    rw [e4]
    obtain ⟨v2, p2, c2, e3, hv, hv', hq, hq'⟩ := pick_eq l p' c' (2 ^ b.toNat) hb (by omega) (by omega) e5.2 e5.1
    rw [e3]
    refine ⟨v2, p2, c2, rfl, ?_, by omega, by omega⟩
    have : bitsB b = true := by rcases hB with rfl | rfl | rfl <;> rfl
    simp [wordB, inB, this]
    omega
theorem words_draw (l : List Int) (b : Int) (hb : ∀ x ∈ l, 0 ≤ x ∧ x ≤ 255) (hB : b = 4 ∨ b = 8 ∨ b = 16) :
    ∀ (m : Nat) (xs : List Int) (p c : Int), xs.length + m ≤ 64 → 0 ≤ p → p + 4 * m ≤ 1000 →
      ∃ (W : List Int) (p' c' : Int), W.length = m ∧ (∀ x ∈ W, wordB b x = true) ∧ Ev (fun k => spec_l01DrawWords.l0 k b (m : Int) xs l p c) (xs ++ W, p', c') := by
  intro m
  induction m with
  | zero =>
    intro xs p c _ _ _
    exact ⟨[], p, c, rfl, (fun x h => by cases h), Ev.step (fun k => spec_l01DrawWords.l0.eq_2 _ _ _ _ _ _ _) (Ev.if_neg (by omega) (Ev.some' (by simp)))⟩
  | succ m ih =>
    intro xs p c hl h0 hp
    obtain ⟨v, p1, c1, e, hv, hq, hq'⟩ := good_eq l p c b hb h0 (by omega) hB
    obtain ⟨W, p2, c2, hW, hw, hE⟩ := ih (xs ++ [v]) p1 c1 (by simp; omega) (by omega) (by omega)
    refine ⟨v :: W, p2, c2, by simp [hW], fun x hx => ?_, ?_⟩
    · rcases List.mem_cons.1 hx with rfl | h
      · exact hv
      · exact hw x h
    · refine Ev.step (fun k => spec_l01DrawWords.l0.eq_2 _ _ _ _ _ _ _) (Ev.if_pos (by omega) (Ev.bind' e (Ev.if_pos (by omega) ?_)))
      rw [show wrap64 (((m + 1 : Nat) : Int) - 1) = (m : Int) by rw [w64 (by omega) (by omega)]; omega]
      simpa using hE
theorem R8Vector_eq (l : List Int) (b : Int) (n : Nat) (hb : ∀ x ∈ l, 0 ≤ x ∧ x ≤ 255) (hB : b = 4 ∨ b = 8 ∨ b = 16) (hn : n ≤ 16) :
    ∃ W : List Int, W.length = n ∧ (∀ x ∈ W, wordB b x = true) ∧ Ev (fun k => spec_R8Vector.f k l b n) W := by
  obtain ⟨W, p', c', h1, h2, h3⟩ := words_draw l b hb hB n [] 0 0 (by simp; omega) (by omega) (by omega)
  refine ⟨W, h1, h2, ?_⟩
  unfold spec_R8Vector.f spec_l01DrawWords.f spec_l00From.f
  exact Ev.bind' rfl (Ev.bind h3 (Ev.some' (by simp)))
theorem mask_draw (l : List Int) (n : Nat) (hb : ∀ x ∈ l, 0 ≤ x ∧ x ≤ 255) (hn : n ≤ 64) :
    ∀ (d j : Nat) (M : List Nat) (p c : Int), j + d = n → M.length = j → (∀ x ∈ M, x ≤ 1) → 0 ≤ p → p + 2 * d ≤ 1000 →
      ∃ W : List Nat, W.length = n ∧ (∀ x ∈ W, x ≤ 1) ∧ Ev (fun k => spec_R8Mask.l0 k (n : Int) (cast M) (j : Int) l p c) (cast W) := by
  intro d
  induction d with
  | zero =>
    intro j M p c hj hM hm _ _
    exact ⟨M, by omega, hm, Ev.step (fun k => spec_R8Mask.l0.eq_2 _ _ _ _ _ _ _) (Ev.if_neg (by omega) (Ev.now _))⟩
  | succ d ih =>
    intro j M p c hj hM hm h0 hp
    obtain ⟨v, p1, c1, e, hv, hv', hq, hq'⟩ := pick_eq l p c 2 hb h0 (by omega) (by omega) (by omega)
    obtain ⟨q, rfl⟩ := Int.eq_ofNat_of_zero_le hv
    obtain ⟨W, hW, hw, hE⟩ := ih (j + 1) (M ++ [q]) p1 c1 (by omega) (by simp [hM]) (fun x hx => by
      rcases List.mem_append.1 hx with h | h
      · exact hm x h
      · obtain rfl : x = q := by simpa using h
        omega) (by omega) (by omega)
    refine ⟨W, hW, hw, ?_⟩
    refine Ev.step (fun k => spec_R8Mask.l0.eq_2 _ _ _ _ _ _ _) (Ev.if_pos (by omega) (Ev.bind' e (Ev.if_pos (by rw [cast_length]; omega) ?_)))
    rw [w64 (x := (j : Int) + 1) (by omega) (by omega), show cast M ++ [(q : Int)] = cast (M ++ [q]) by simp [cast]]
    exact hE
theorem R8Mask_eq (l : List Int) (n : Nat) (hb : ∀ x ∈ l, 0 ≤ x ∧ x ≤ 255) (hn : n ≤ 16) :
    ∃ W : List Nat, W.length = n ∧ (∀ x ∈ W, x ≤ 1) ∧ Ev (fun k => spec_R8Mask.f k l (n : Int)) (cast W) := by
  obtain ⟨W, h1, h2, h3⟩ := mask_draw l n hb (by omega) n 0 [] 0 0 (by omega) rfl (fun x h => by cases h) (by omega) (by omega)
  refine ⟨W, h1, h2, ?_⟩
  unfold spec_R8Mask.f spec_l00From.f
  exact Ev.bind' rfl h3

/-- The lanes that a mask lets through. -/
def sel : List Nat → List Int → List Int
  | m :: M, v :: V => if m = 1 then v :: sel M V else sel M V
  | _, _ => []
theorem sel_length : ∀ (M : List Nat) (V : List Int), (sel M V).length ≤ V.length
  | [], V => by simp [sel]
  | _ :: _, [] => by simp [sel]
  | m :: M, v :: V => by
    unfold sel
    have := sel_length M V
    split <;> simp <;> omega
theorem drop_cons {C : List Int} {p : Nat} {v : Int} {R : List Int} (h : C.drop p = v :: R) : ∃ hp : p < C.length, C[p] = v ∧ C.drop (p + 1) = R := by
  have hp : p < C.length := by
    by_cases c : p < C.length
    · exact c
    · rw [List.drop_of_length_le (by omega)] at h; cases h
  rw [List.drop_eq_getElem_cons hp] at h
  injection h with h1 h2
  exact ⟨hp, h1, h2⟩
theorem cast_at (M : List Nat) (j : Nat) (h : j < M.length) : rd (cast M) (j : Int) = (M[j] : Int) := by
  rw [rd_at _ j (by rw [cast_length]; exact h)]; simp [cast]
theorem sel_step (M : List Nat) (V : List Int) (j : Nat) (h : j < M.length) (h' : j < V.length) : sel (M.drop j) (V.drop j) = if M[j] = 1 then V[j] :: sel (M.drop (j + 1)) (V.drop (j + 1)) else sel (M.drop (j + 1)) (V.drop (j + 1)) := by
  rw [List.drop_eq_getElem_cons h, List.drop_eq_getElem_cons h', sel]
theorem compress_go (M : List Nat) (V : List Int) (hV : V.length = M.length) (hl : M.length ≤ 64) :
    ∀ (d j : Nat) (out : List Int), j + d = M.length → out.length ≤ j →
      Ev (fun k => impl_compressed.l0 k (cast M) V out V (V.length : Int) (j : Int)) (out ++ sel (M.drop j) (V.drop j) ++ List.replicate (V.length - out.length - (sel (M.drop j) (V.drop j)).length) 0) := by
  intro d
  induction d with
  | zero =>
    intro j out hj ho
    have e : sel (M.drop j) (V.drop j) = [] := by rw [List.drop_of_length_le (by omega)]; rfl
    rw [e]
    refine Ev.step (fun k => impl_compressed.l0.eq_2 _ _ _ _ _ _ _) (Ev.if_neg (by omega) ?_)
    rw [w64 (x := (V.length : Int) - (out.length : Int)) (by omega) (by omega)]
    refine Ev.if_pos (by omega) (Ev.if_pos (by omega) (Ev.some' ?_))
    rw [show ((V.length : Int) - (out.length : Int)).toNat = V.length - out.length by omega]
    simp
  | succ d ih =>
    intro j out hj ho
    refine Ev.step (fun k => impl_compressed.l0.eq_2 _ _ _ _ _ _ _) (Ev.if_pos (by omega) (Ev.if_pos (by omega) (Ev.if_pos (by omega) (Ev.if_pos (by rw [cast_length]; omega) ?_))))
    rw [cast_at M j (by omega), rd_at V j (by omega), w64 (x := (j : Int) + 1) (by omega) (by omega), sel_step M V j (by omega) (by omega)]
    by_cases h : M[j] = 1
    · rw [_root_.if_pos h]
      refine Ev.if_pos (by omega) (Ev.if_pos (by omega) ?_)
      have := ih (j + 1) (out ++ [V[j]]) (by omega) (by simp; omega)
      simp only [List.append_assoc, List.length_append, List.length_cons, List.length_nil, List.singleton_append] at this ⊢
      simp only [List.cons_append]
      rw [show V.length - out.length - ((sel (M.drop (j + 1)) (V.drop (j + 1))).length + 1) = V.length - (out.length + (0 + 1)) - (sel (M.drop (j + 1)) (V.drop (j + 1))).length by omega]
      exact this
    · rw [_root_.if_neg h]
      exact Ev.if_neg (by omega) (ih (j + 1) out (by omega) (by omega))
def packed (M : List Nat) (V : List Int) : List Int := sel M V ++ List.replicate (V.length - (sel M V).length) 0
theorem packed_length (M : List Nat) (V : List Int) : (packed M V).length = V.length := by
  have := sel_length M V
  simp [packed]; omega
def lit (M : List Nat) (V : List Int) : List Int := List.zipWith (fun m v => if m = 1 then v else 0) M V
theorem lit_length (M : List Nat) (V : List Int) (hV : V.length = M.length) : (lit M V).length = M.length := by simp [lit]; omega
theorem lit_at (M : List Nat) (V : List Int) (j : Nat) (h : j < (lit M V).length) (h1 : j < M.length) (h2 : j < V.length) : (lit M V)[j] = if M[j] = 1 then V[j] else 0 := by simp [lit]
theorem expand_go (M : List Nat) (V C : List Int) (hV : V.length = M.length) (hl : M.length ≤ 64) :
    ∀ (d j p : Nat) (out : List Int) (z : Nat), j + d = M.length → p ≤ j → ∀ ho : out.length = M.length, C.drop p = sel (M.drop j) (V.drop j) ++ List.replicate z 0 →
      (∀ i (h : i < out.length), out[i] = if i < j then (lit M V)[i]'(by rw [lit_length M V hV]; omega) else 0) →
      Ev (fun k => impl_ExpandLanes.l0 k C out (p : Int) (cast M) (M.length : Int) (j : Int)) (lit M V, true) := by
  intro d
  induction d with
  | zero =>
    intro j p out z hj hp ho hC hI
    refine Ev.step (fun k => impl_ExpandLanes.l0.eq_2 _ _ _ _ _ _ _) (Ev.if_neg (by omega) (Ev.some' ?_))
    congr 1
    refine List.ext_getElem (by rw [ho, lit_length M V hV]) (fun i h1 h2 => ?_)
    rw [hI i h1, _root_.if_pos (by omega)]
  | succ d ih =>
    intro j p out z hj hp ho hC hI
    refine Ev.step (fun k => impl_ExpandLanes.l0.eq_2 _ _ _ _ _ _ _) (Ev.if_pos (by omega) (Ev.if_pos (by omega) (Ev.if_pos (by rw [cast_length]; omega) ?_)))
    rw [cast_at M j (by omega), w64 (x := (j : Int) + 1) (by omega) (by omega)]
    rw [sel_step M V j (by omega) (by omega)] at hC
    by_cases h : M[j] = 1
    · rw [_root_.if_pos h] at hC
      obtain ⟨hp1, hp2, hp3⟩ := drop_cons hC
      refine Ev.if_pos (by omega) (Ev.if_pos (by omega) (Ev.if_pos (by omega) (Ev.if_pos (by omega) ?_)))
      rw [rd_at C p hp1, hp2, w64 (x := (p : Int) + 1) (by omega) (by omega)]
      refine ih (j + 1) (p + 1) _ z (by omega) (by omega) (by simp [ho]) hp3 (fun i hi => ?_)
      have hi' : i < out.length := by simpa using hi
      simp only [Int.toNat_natCast, List.getElem_set]
      by_cases e : j = i
      · subst e
        rw [_root_.if_pos rfl, _root_.if_pos (by omega), lit_at M V j _ (by omega) (by omega), _root_.if_pos h]
      · rw [_root_.if_neg e, hI i hi']
        by_cases c : i < j
        · rw [_root_.if_pos c, _root_.if_pos (by omega)]
        · rw [_root_.if_neg c, _root_.if_neg (by omega)]
    · rw [_root_.if_neg h] at hC
      refine Ev.if_neg (by omega) (ih (j + 1) p out z (by omega) (by omega) ho hC (fun i hi => ?_))
      rw [hI i hi]
      by_cases e : i = j
      · subst e
        rw [_root_.if_neg (by omega), _root_.if_pos (by omega), lit_at M V i _ (by omega) (by omega), _root_.if_neg h]
      · by_cases c : i < j
        · rw [_root_.if_pos c, _root_.if_pos (by omega)]
        · rw [_root_.if_neg c, _root_.if_neg (by omega)]

/-- A mask's number. -/
def numOf : List Nat → Nat
  | [] => 0
  | m :: M => m + 2 * numOf M
theorem numOf_lt : ∀ M : List Nat, (∀ x ∈ M, x ≤ 1) → numOf M < 2 ^ M.length
  | [], _ => by simp [numOf]
  | m :: M, h => by
    have h1 := h m (by simp)
    have h2 := numOf_lt M (fun x hx => h x (by simp [hx]))
    simp only [numOf, List.length_cons, Nat.pow_succ]
    omega
theorem numOf_snoc : ∀ (M : List Nat) (m : Nat), numOf (M ++ [m]) = numOf M + m * 2 ^ M.length
  | [], m => by simp [numOf]
  | x :: M, m => by
    simp only [List.cons_append, numOf, numOf_snoc M m, List.length_cons, Nat.pow_succ]
    rw [← Nat.mul_assoc, Nat.mul_comm _ 2]
    omega
theorem numOf_bit : ∀ (M : List Nat) (j : Nat) (h : j < M.length), (∀ x ∈ M, x ≤ 1) → numOf M / 2 ^ j % 2 = M[j]
  | [], j, h, _ => by simp at h
  | m :: M, 0, h, hm => by
    have := hm m (by simp)
    simp only [numOf, Nat.pow_zero, Nat.div_one, List.getElem_cons_zero]
    omega
  | m :: M, j + 1, h, hm => by
    have h1 := hm m (by simp)
    have h2 := numOf_bit M j (by simpa using h) (fun x hx => hm x (by simp [hx]))
    simp only [numOf, List.getElem_cons_succ]
    rw [Nat.pow_succ, Nat.mul_comm (2 ^ j) 2, ← Nat.div_div_eq_div_mul, show (m + 2 * numOf M) / 2 = numOf M by omega]
    exact h2
theorem shl_nat (m j : Nat) (hm : m ≤ 1) (hj : j ≤ 60) : shl .i64 (m : Int) (j : Int) = ((m * 2 ^ j : Nat) : Int) := by
  unfold shl
  have e : min (j : Int).toNat (IntKind.i64).bits = j := by simp [IntKind.bits]; omega
  rw [e]
  have h2 : 2 ^ j ≤ 2 ^ 60 := Nat.pow_le_pow_right (by omega) hj
  have h3 : m * 2 ^ j ≤ 1 * 2 ^ j := Nat.mul_le_mul_right _ hm
  have e2 : (m : Int) * 2 ^ j = ((m * 2 ^ j : Nat) : Int) := by simp
  rw [e2, IntKind.wrap_i64]
  omega
theorem bits_one (n : Int) : Go.bits .and .i64 n 1 = n % 2 := by
  have h127 : (BitVec.ofInt 64 1).toNat = 2 ^ 1 - 1 := by decide
  have key : (BitVec.ofInt 64 n &&& BitVec.ofInt 64 1).toNat = (n % ((2 ^ 64 : Nat) : Int)).toNat % 2 ^ 1 := by
    rw [BitVec.toNat_and, BitVec.toNat_ofInt, h127, Nat.and_two_pow_sub_one_eq_mod]
  show IntKind.i64.wrap ((BitVec.ofInt 64 n &&& BitVec.ofInt 64 1).toNat : Nat) = n % 2
  rw [key, IntKind.wrap_i64]
  omega
theorem bit_at (M : List Nat) (j : Nat) (h : j < M.length) (hl : M.length ≤ 60) (hm : ∀ x ∈ M, x ≤ 1) : Go.bits .and .i64 (shr .i64 ((numOf M : Nat) : Int) (j : Int)) 1 = (M[j] : Int) := by
  rw [bits_one]
  unfold shr
  have e : min (j : Int).toNat (IntKind.i64).bits = j := by simp [IntKind.bits]; omega
  rw [e, ← numOf_bit M j h hm]
  simp
theorem bits_go (M : List Nat) (hl : M.length ≤ 60) (hm : ∀ x ∈ M, x ≤ 1) :
    ∀ (d j : Nat), j + d = M.length → Ev (fun k => impl_BitsOfLanes.l0 k ((numOf (M.take j) : Nat) : Int) (cast M) (M.length : Int) (j : Int)) ((numOf M : Nat), true) := by
  intro d
  induction d with
  | zero =>
    intro j hj
    rw [List.take_of_length_le (by omega)]
    exact Ev.step (fun k => impl_BitsOfLanes.l0.eq_2 _ _ _ _ _) (Ev.if_neg (by omega) (Ev.now _))
  | succ d ih =>
    intro j hj
    refine Ev.step (fun k => impl_BitsOfLanes.l0.eq_2 _ _ _ _ _) (Ev.if_pos (by omega) (Ev.if_pos (by omega) (Ev.if_pos (by rw [cast_length]; omega) ?_)))
    have hj' : j < M.length := by omega
    have h1 := hm M[j] (List.getElem_mem hj')
    have ht : M.take (j + 1) = M.take j ++ [M[j]] := by rw [List.take_succ_eq_append_getElem hj']
    have h2 := numOf_lt (M.take (j + 1)) (fun x hx => hm x (List.mem_of_mem_take hx))
    have h3 : 2 ^ (M.take (j + 1)).length ≤ 2 ^ 60 := Nat.pow_le_pow_right (by omega) (by simp; omega)
    have h4 : numOf (M.take (j + 1)) = numOf (M.take j) + M[j] * 2 ^ j := by rw [ht, numOf_snoc, List.length_take, Nat.min_eq_left (by omega)]
    rw [cast_at M j hj', shl_nat _ _ h1 (by omega), w64 (x := (j : Int) + 1) (by omega) (by omega), w64 (x := ((numOf (M.take j) : Nat) : Int) + ((M[j] * 2 ^ j : Nat) : Int)) (by omega) (by omega)]
    rw [show ((numOf (M.take j) : Nat) : Int) + ((M[j] * 2 ^ j : Nat) : Int) = ((numOf (M.take (j + 1)) : Nat) : Int) by omega]
    exact ih (j + 1) (by omega)

end Go.Proofs.Ytpfoeologjacfaa.F
