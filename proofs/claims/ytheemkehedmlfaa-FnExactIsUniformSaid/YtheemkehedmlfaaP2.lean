/- The walks through spec.l08Pairs and impl.paired: each round as the state tells it. -/
import Derived.Test.YtheemkehedmlfaaG8
import Derived.Test.YtheemkehedmlfaaP1
set_option linter.unusedVariables false
set_option linter.unusedSimpArgs false
set_option maxRecDepth 4000
namespace Go.Proofs.Ytheemkehedmlfaa.P
open Go Go.Proofs.Ytheemkehedmlfaa.E
/-! ### a test that is known -/
theorem bt {α : Type} {p : Prop} {dp : Decidable p} {a b r : α} (hp : p) (h : a = r) : (bif @decide p dp then a else b) = r := by
  rw [decide_eq_true hp]; exact h
theorem bf {α : Type} {p : Prop} {dp : Decidable p} {a b r : α} (hp : ¬ p) (h : b = r) : (bif @decide p dp then a else b) = r := by
  rw [decide_eq_false hp]; exact h
theorem nt {α : Type} {p : Prop} {dp : Decidable p} {a b r : α} (hp : p) (h : b = r) : (bif !(@decide p dp) then a else b) = r := by
  rw [decide_eq_true hp]; exact h
theorem nf {α : Type} {p : Prop} {dp : Decidable p} {a b r : α} (hp : ¬ p) (h : a = r) : (bif !(@decide p dp) then a else b) = r := by
  rw [decide_eq_false hp]; exact h
theorem bd {α β : Type} {x : Option α} {f : α → Option β} {v : α} {r : Option β} (hx : x = some v) (h : f v = r) : x.bind f = r := by
  rw [hx]; exact h
theorem bI {α : Type} {c c' : Bool} {a b r : α} (hc : c = c') (h : (bif c' then a else b) = r) : (bif c then a else b) = r := by
  rw [hc]; exact h
/-! ### lines -/
theorem in_spec (N : Nat) (n a b : Int) : F_spec_l00In N (n, (a, (b, ()))) = some (inB n a b, ()) := by
  unfold F_spec_l00In inB
  by_cases h : a ≤ n <;> simp [h]
theorem in_impl (N : Nat) (n a b : Int) : F_impl_within N (n, (a, (b, ()))) = some (inB n a b, ()) := by
  unfold F_impl_within inB
  by_cases h : a ≤ n <;> simp [h]
theorem bits_spec (N : Nat) (b : Int) : F_spec_l01Bits N (b, ()) = some (bitsV b, ()) := by
  unfold F_spec_l01Bits bitsV
  by_cases h4 : b = 4 <;> by_cases h8 : b = 8 <;> simp [h4, h8]
theorem bits_impl (N : Nat) (b : Int) : F_impl_isBits N (b, ()) = some (bitsV b, ()) := by
  unfold F_impl_isBits bitsV
  by_cases h4 : b = 4 <;> by_cases h8 : b = 8 <;> simp [h4, h8]
theorem bits_cases {b : Int} (h : bitsV b = true) : b = 4 ∨ b = 8 ∨ b = 16 := by
  unfold bitsV at h; simp at h; omega
theorem u4 : IntKind.u64.wrap 4 = 4 := by decide +kernel
theorem u8 : IntKind.u64.wrap 8 = 8 := by decide +kernel
theorem u16 : IntKind.u64.wrap 16 = 16 := by decide +kernel
theorem v4 : IntKind.i64.wrap (shlI .i64 1 4 - 1) = 15 := by decide +kernel
theorem v8 : IntKind.i64.wrap (shlI .i64 1 8 - 1) = 255 := by decide +kernel
theorem v16 : IntKind.i64.wrap (shlI .i64 1 16 - 1) = 65535 := by decide +kernel
theorem word_spec (N : Nat) (b x : Int) : F_spec_l01Word N (b, (x, ())) = some (wordV b x, ()) := by
  simp only [F_spec_l01Word, bits_spec, Option.bind_some]
  cases hb : bitsV b with
  | false => simp [wordV, hb]
  | true =>
    rcases bits_cases hb with rfl | rfl | rfl
    all_goals simp [in_spec, wordV, hb, inB, u4, u8, u16, v4, v8, v16]
theorem word_impl (N : Nat) (b x : Int) : F_impl_IsWord N (b, (x, ())) = some (wordV b x, ()) := by
  simp only [F_impl_IsWord, bits_impl, Option.bind_some]
  cases hb : bitsV b with
  | false => simp [wordV, hb]
  | true =>
    rcases bits_cases hb with rfl | rfl | rfl
    all_goals simp [in_impl, wordV, hb, inB, v4, v8, v16]
theorem bif_some (a t : Bool) : (bif a then some (t, ()) else some (false, ())) = some (a && t, ()) := by cases a <;> rfl
theorem bif_and (a c t : Bool) : (bif a then some (c && t, ()) else some (false, ())) = some (a && (c && t), ()) := by cases a <;> rfl
theorem line_spec (N : Nat) (b : Int) (x : LT) : F_spec_l08Line N (b, (x.1, (x.2.1, (x.2.2.1, (x.2.2.2.1, (x.2.2.2.2, ())))))) = some (lineB b x, ()) := by
  obtain ⟨k, d, o, a, c⟩ := x
  simp only [F_spec_l08Line, F_spec_l08Var, F_spec_l01OpIs, F_spec_l01CmpIs, in_spec, word_spec, Option.bind_some, bif_some, lineB]
  by_cases h0 : k = 0
  · simp [h0]
  by_cases h1 : k = 1
  · simp [h1]
  by_cases h2 : k = 2
  · simp [h2]
  by_cases h6 : k = 6
  · simp [h6]
  by_cases h3 : k = 3
  · simp [h3]
  by_cases h4 : k = 4
  · simp [h4]
  by_cases h5 : k = 5
  · simp [h5]
  simp [h0, h1, h2, h3, h4, h5, h6]
theorem line_impl (N : Nat) (b : Int) (x : LT) : F_impl_isLine N (b, (x.1, (x.2.1, (x.2.2.1, (x.2.2.2.1, (x.2.2.2.2, ())))))) = some (lineB b x, ()) := by
  obtain ⟨k, d, o, a, c⟩ := x
  simp only [F_impl_isLine, F_impl_isVar, F_impl_isOp, F_impl_isCmp, in_impl, word_impl, Option.bind_some, bif_some, lineB]
  by_cases h0 : k = 0
  · simp [h0]
  by_cases h1 : k = 1
  · simp [h1]
  by_cases h2 : k = 2
  · simp [h2]
  by_cases h6 : k = 6
  · simp [h6]
  by_cases h3 : k = 3
  · simp [h3]
  by_cases h4 : k = 4
  · simp [h4]
  by_cases h5 : k = 5
  · simp [h5, Bool.and_assoc]
  simp [h0, h1, h2, h3, h4, h5, h6]
/-! ### rounds of loops -/
theorem min_spec (N : Nat) (a b : Int) : F_spec_l00Min N (a, (b, ())) = some (min a b, ()) := by
  unfold F_spec_l00Min
  by_cases h : a < b
  · simp only [h, decide_true, cond_true]; rw [Int.min_eq_left (by omega)]
  · simp only [h, decide_false, cond_false]; rw [Int.min_eq_right (by omega)]
theorem w_suc (n : Nat) (h : n ≤ 1000) : IntKind.wrap .i64 ((n : Int) + 1) = ((n + 1 : Nat) : Int) := by rw [wr_id (by omega) (by omega)]; rfl
theorem rounds_go (N : Nat) (L : List LT) (F : List Fr) (hF : F.length ≤ 1000) (hb : ∀ f ∈ F, f.b < L.length) (hc : ∀ f ∈ F, kd L f.b = 5 → 1 ≤ ct L f.b ∧ ct L f.b ≤ 8) : ∀ (d j : Nat) (P : Int) (M : Nat), j + d = F.length → d < M → 1 ≤ P →
    itN (n_spec_l08Rounds_0 N (L, (opn F, ()))) M (min P 65, ((j : Int), ())) = some (min (pr P (cnts L (F.drop j))) 65, ()) := by
  intro d
  induction d with
  | zero =>
    intro j P M hj hM hP
    obtain ⟨M, rfl⟩ : ∃ M', M = M' + 1 := ⟨M - 1, by omega⟩
    obtain rfl : j = F.length := by omega
    rw [List.drop_length]
    show n_spec_l08Rounds_0 N (L, (opn F, ())) _ _ = _
    unfold n_spec_l08Rounds_0
    simp only [opn_len]
    (repeat (first | refine bt (by omega) ?_ | refine bf (by omega) ?_ | refine nt (by omega) ?_ | refine nf (by omega) ?_))
    rfl
  | succ d ih =>
    intro j P M hj hM hP
    obtain ⟨M, rfl⟩ : ∃ M', M = M' + 1 := ⟨M - 1, by omega⟩
    have hj' : j < F.length := by omega
    have hm : F[j] ∈ F := List.getElem_mem hj'
    have hbj := hb _ hm
    have e := w_suc j (by omega)
    have ho := opn_at F j hj'
    rw [List.drop_eq_getElem_cons hj', cnts_cons]
    show n_spec_l08Rounds_0 N (L, (opn F, ())) (itN (n_spec_l08Rounds_0 N (L, (opn F, ()))) M) _ = _
    have ih := fun P => ih (j + 1) P M (by omega) (by omega)
    generalize itN (n_spec_l08Rounds_0 N (L, (opn F, ()))) M = rec at ih ⊢
    unfold n_spec_l08Rounds_0
    simp only [opn_len, ho, e, min_spec, Option.bind_some]
    by_cases h5 : kd L (F[j]).b = 5
    · rw [if_pos h5]
      have hB := hc _ hm h5
      have h5' : (gt L ((F[j]).b : Int)).1 = 5 := h5
      have hcm : min (IntKind.wrap .i64 (min P 65 * (gt L ((F[j]).b : Int)).2.2.2.2)) 65 = min (P * ct L (F[j]).b) 65 := cap_mul P _ hP hB
      rw [hcm]
      (repeat (first | refine bt (by omega) ?_ | refine bf (by omega) ?_ | refine nt (by omega) ?_ | refine nf (by omega) ?_))
      exact ih (P * ct L (F[j]).b) (Int.mul_le_mul hP hB.1 (by omega) (by omega))
    · rw [if_neg h5]
      have h5' : ¬ (gt L ((F[j]).b : Int)).1 = 5 := h5
      (repeat (first | refine bt (by omega) ?_ | refine bf (by omega) ?_ | refine nt (by omega) ?_ | refine nf (by omega) ?_))
      exact ih P hP
theorem rounds_eq {N : Nat} (hN : 4096 ≤ N) (L : List LT) (F : List Fr) (hF : F.length ≤ 1000) (hb : ∀ f ∈ F, f.b < L.length) (hc : ∀ f ∈ F, kd L f.b = 5 → 1 ≤ ct L f.b ∧ ct L f.b ≤ 8) :
    F_spec_l08Rounds N (L, (opn F, ())) = some (min (pr 1 (cnts L F)) 65, ()) := by
  have h := rounds_go N L F hF hb hc F.length 0 1 N (by omega) (by omega) (by omega)
  unfold F_spec_l08Rounds
  rw [show min (1 : Int) 65 = 1 from by decide] at h
  simp only [Int.natCast_zero, List.drop_zero] at h
  simp only [h, Option.bind_some]
/-! ### one round -/
def sS (F : List Fr) (o : List Int) (i : Nat) : Int × List Int × List Int × List (List Int) × List Int × Unit := ((i : Int), (opn F, (lst F, (stp F, (o, ())))))
def sI (L : List LT) (F : List Fr) (o : List Int) (m : List (Int × Bool)) (i : Nat) : Int × List Int × List Int × List (List Int) × List Int × List Int × List (Int × Bool) × Unit := ((i : Int), (opn F, (opn (lps L F), (stp (lps L F), (scanP 1 (cnts L F), (o, (m, ())))))))
/-- Both go on, or both refuse. -/
def Step (N : Nat) (b : Int) (L : List LT) (i : Nat) (F : List Fr) (oS oI : List Int) (m : List (Int × Bool)) : Prop :=
  (∃ o o' m', (∀ rec, n_spec_l08Pairs_1 N (L, ()) rec (sS F oS i) = some (.inl (false, (o, ())))) ∧ ∀ rec, n_impl_paired_0 N (b, (L, (L, ((L.length : Int), ())))) rec (sI L F oI m i) = some (.inl (false, ([], (o', (m', ())))))) ∨
  ∃ F' oS' oI' m', Inv L (i + 1) F' oS' oI' m' ∧ Nst (kd L) (i + 1) F' (fun j => oS'.getD j 0) ∧ (∀ rec, n_spec_l08Pairs_1 N (L, ()) rec (sS F oS i) = rec (sS F' oS' (i + 1))) ∧
    ∀ rec, n_impl_paired_0 N (b, (L, (L, ((L.length : Int), ())))) rec (sI L F oI m i) = rec (sI L F' oI' m' (i + 1))
theorem step_skip {N : Nat} {b : Int} {L : List LT} {i : Nat} {F : List Fr} {oS oI : List Int} {m : List (Int × Bool)} (h : Inv L i F oS oI m) (hn : Nst (kd L) i F (fun j => oS.getD j 0)) (hi : i < L.length) (hv : lineB b (gt L (i : Int)) = true) (hk : kd L i = 0 ∨ kd L i = 1) : Step N b L i F oS oI m := by
  have hN := h.hN
  have e := w_suc i (by omega)
  have hk' : (gt L (i : Int)).1 = 0 ∨ (gt L (i : Int)).1 = 1 := hk
  have h1 := h.ls
  have h2 := h.li
  have h3 := h.nest
  have h4 := h.prod
  have hl := lps_le L F
  have hsc := scan_len L F
  have hlast := scan_last L F
  have hw := w_pred (lps L F).length (by omega)
  refine Or.inr ⟨F, oS, _, m, inv_next h hi, nst_next hn hk, fun rec => ?_, fun rec => ?_⟩
  · unfold n_spec_l08Pairs_1 sS
    simp only [e, h1]
    (repeat (first | refine bt (by omega) ?_ | refine bf (by omega) ?_ | refine nt (by omega) ?_ | refine nf (by omega) ?_))
    rfl
  · unfold n_impl_paired_0 sI
    simp only [e, h2, opn_len, hsc, hw, hlast]
    (repeat (first | refine bt (by omega) ?_ | refine bf (by omega) ?_ | refine nt (by omega) ?_ | refine nf (by omega) ?_))
    refine bd (line_impl N b _) ?_
    rw [hv]
    simp only [Bool.not_true, cond_false]
    (repeat (first | refine bt (by omega) ?_ | refine bf (by omega) ?_ | refine nt (by omega) ?_ | refine nf (by omega) ?_))
    simp only [Int.toNat_natCast]
end Go.Proofs.Ytheemkehedmlfaa.P
