/- The law FnDigits answers true at every input, and leaves its arguments as they were. -/
import Derived.Test.YtocelalollkadaaLFnDigits
import Derived.Test.YtocelalollkadaaQ10
import Derived.KernelRfl
namespace Go.Proofs.Ytocelalollkadaa.Pure
open Go.RowKit Go.Proofs.Ytocelalollkadaa.Q Go.Proofs.YtocelalollkadaaW.PrintWords Go.Proofs.YtocelalollkadaaW.PrintLast Go.Proofs.YtocelalollkadaaW.PrintMore
set_option linter.unusedVariables false
set_option linter.unusedSimpArgs false

theorem drawn (L : List Int) (n : Nat) (hb : ∀ x ∈ L, 0 ≤ x ∧ x ≤ 255) (hn : n ≤ 16) (r : Bool)
    (H : ∀ E : List Nat, E.length = n → (∀ d ∈ E, d ≤ 9) → Ev (fun k => laws_FnDigits.l0 k L (n : Int) (cast E) (n : Int)) r) :
    ∀ (d j : Nat) (E : List Nat), j + d = n → E.length = j → (∀ d ∈ E, d ≤ 9) → Ev (fun k => laws_FnDigits.l0 k L (n : Int) (cast E) (j : Int)) r := by
  intro d
  induction d with
  | zero =>
    intro j E hj he hE
    have e : j = n := by omega
    subst e; exact H E he hE
  | succ d ih =>
    intro j E hj he hE
    obtain ⟨v, hv, hv'⟩ := at_eq L j 10 hb (by omega)
    refine Ev.step (fun k => laws_FnDigits.l0.eq_2 _ _ _ _ _) (Ev.if_pos (by omega) (Ev.bind' hv (Ev.if_pos (by rw [cast_length]; omega) ?_)))
    rw [w64 (x := (j : Int) + 1) (by omega) (by omega), show cast E ++ [(v : Int)] = cast (E ++ [v]) by simp [Q.cast]]
    exact ih (j + 1) (E ++ [v]) (by omega) (by simp [he]) (fun x hx => by
      rcases List.mem_append.1 hx with h | h
      · exact hE x h
      · obtain rfl : x = v := by simpa using h
        omega)
theorem powers (n : Nat) (x6 x10 : List Int) (x8 : Int) (x9 x11 r : Bool) (hn : n ≤ 16) (H : Ev (fun k => laws_FnDigits.l1 k (n : Int) x6 x8 x9 x10 x11 ((10 ^ n : Nat) : Int) (n : Int)) r) :
    ∀ (d j : Nat), j + d = n → Ev (fun k => laws_FnDigits.l1 k (n : Int) x6 x8 x9 x10 x11 ((10 ^ j : Nat) : Int) (j : Int)) r := by
  intro d
  induction d with
  | zero =>
    intro j hj
    have e : j = n := by omega
    subst e; exact H
  | succ d ih =>
    intro j hj
    refine Ev.step (fun k => laws_FnDigits.l1.eq_2 _ _ _ _ _ _ _ _ _) (Ev.if_pos (by omega) ?_)
    have hp : 10 ^ j ≤ 10 ^ 15 := Nat.pow_le_pow_right (by omega) (by omega)
    have hi := ih (j + 1) (by omega)
    rw [show 10 ^ (j + 1) = 10 ^ j * 10 from Nat.pow_succ ..] at hi
    clear ih
    generalize 10 ^ j = q at hi hp ⊢
    rw [w64 (x := (j : Int) + 1) (by omega) (by omega), w64 (x := (q : Int) * 10) (by omega) (by omega)]
    rw [show (q : Int) * 10 = ((q * 10 : Nat) : Int) by omega]
    exact hi
theorem nines (n : Nat) (hn : n = 2 ∨ n = 4 ∨ n = 8 ∨ n = 16) : rd (cast (digs (10 ^ n - 1) n)) 0 = 9 := by
  rcases hn with rfl | rfl | rfl | rfl <;> kernel_rfl
theorem FnDigits : laws_FnDigits.Pure := by
  intro l0 l1 _ _ hw0 _ _ hw1
  refine Ev.rounds ?_
  have hb0 : ∀ x ∈ l0, 0 ≤ x ∧ x ≤ 255 := fun x hx => wf8 (hw0 x hx)
  have hb1 : ∀ x ∈ l1, 0 ≤ x ∧ x ≤ 255 := fun x hx => wf8 (hw1 x hx)
  obtain ⟨n', hn', hn⟩ := R8Lanes_eq l1 hb1
  obtain ⟨n, rfl⟩ := Int.eq_ofNat_of_zero_le (show 0 ≤ n' by omega)
  have hnn : n = 2 ∨ n = 4 ∨ n = 8 ∨ n = 16 := by omega
  obtain ⟨t, ht⟩ : ∃ t, laws_r8Long.f l0 l1 = some t := by unfold laws_r8Long.f; split <;> exact ⟨_, rfl⟩
  unfold laws_FnDigits.f
  refine Ev.bind' ht ?_
  by_cases h : t = true
  · exact Ev.if_pos h (Ev.now _)
  refine Ev.if_neg h (Ev.bind' hn' ?_)
  refine drawn l0 n hb0 (by omega) true ?_ n 0 [] (by omega) rfl (fun _ h => by cases h)
  intro E hE hd
  have hp : 10 ^ n ≤ 10 ^ 16 := Nat.pow_le_pow_right (by omega) (by omega)
  have hpp : 1 ≤ 10 ^ n := Nat.one_le_pow _ _ (by omega)
  obtain ⟨v1, v2⟩ := val_num E 0 0 hd (by rw [hE]; omega)
  rw [hE] at v2
  have hval : numW (cast E) = (valN 0 E : Nat) := v1
  refine Ev.step (fun k => laws_FnDigits.l0.eq_2 _ _ _ _ _) (Ev.if_neg (by omega) ?_)
  have hD := DigitsToNumber_eq (cast E) (by rw [cast_length]; omega)
  rw [_root_.if_pos (by
    rw [cast_length, hE]
    simp only [Bool.and_eq_true, List.all_eq_true]
    refine ⟨by rcases hnn with rfl | rfl | rfl | rfl <;> rfl, fun x hx => ?_⟩
    simp only [Q.cast, List.mem_map] at hx
    obtain ⟨y, hy, rfl⟩ := hx
    have := hd y hy
    simp [inB]; omega), hval] at hD
  refine Ev.bind hD ?_
  have h1 := NumberToDigits_eq (valN 0 E) n hnn (by omega)
  rw [_root_.if_neg (by rw [Nat.div_eq_of_lt (by omega)]; omega), digs_val n E hE hd] at h1
  refine Ev.bind h1 ?_
  refine powers n _ _ _ _ _ true (by omega) ?_ n 0 (by omega)
  refine Ev.step (fun k => laws_FnDigits.l1.eq_2 _ _ _ _ _ _ _ _ _) (Ev.if_neg (by omega) ?_)
  have h2 := NumberToDigits_eq (10 ^ n) n hnn (by omega)
  rw [_root_.if_pos (by rw [Nat.div_self (by omega)]; omega)] at h2
  refine Ev.bind h2 ?_
  rw [w64 (x := ((10 ^ n : Nat) : Int) - 1) (by omega) (by omega), show ((10 ^ n : Nat) : Int) - 1 = ((10 ^ n - 1 : Nat) : Int) by omega]
  have h3 := NumberToDigits_eq (10 ^ n - 1) n hnn (by omega)
  rw [_root_.if_neg (by rw [Nat.div_eq_of_lt (by omega)]; omega)] at h3
  refine Ev.bind h3 (Ev.if_pos rfl (Ev.if_pos rfl (Ev.if_neg (by simp) (Ev.if_pos rfl (Ev.bind (same_ev (cast E) (by rw [cast_length]; omega)) (Ev.if_pos rfl ?_))))))
  have hlen : (cast (digs (10 ^ n - 1) n)).length = n := by rw [cast_length, digs_length]
  refine Ev.if_pos (by rw [hlen]) (Ev.if_pos (by rw [hlen]; omega) (Ev.if_pos (nines n hnn) ?_))
  rw [w64 (x := (n : Int) - 1) (by omega) (by omega)]
  refine Ev.if_pos (by omega) (Ev.if_pos (by rw [cast_length]; omega) (Ev.some' ?_))
  obtain ⟨F, d, rfl⟩ : ∃ F d, E = F ++ [d] := ⟨E.dropLast, E.getLast (by intro e; rw [e] at hE; simp at hE; omega), (List.dropLast_concat_getLast _).symm⟩
  have h9 := hd d (by simp)
  rw [valN_snoc]
  have e1 : Int.tmod ((10 * valN 0 F + d : Nat) : Int) 10 = ((10 * valN 0 F + d) % 10 : Nat) := rfl
  have e2 : (10 * valN 0 F + d) % 10 = d := by omega
  have hFl : F.length + 1 = n := by simpa using hE
  have e3 : rd (cast (F ++ [d])) ((n : Int) - 1) = (d : Int) := by
    rw [show (n : Int) - 1 = ((F.length : Nat) : Int) by omega, rd_at _ F.length (by rw [cast_length]; simp)]
    simp [Q.cast]
  rw [e1, e2, e3]
  simp

end Go.Proofs.Ytocelalollkadaa.Pure
