/- The law FnBlocks answers true at every input, and leaves its arguments as they were. -/
import Derived.Test.YtpfoeologjacfaaLFnBlocks
import Derived.Test.YtpfoeologjacfaaH4
import Derived.KernelRfl
namespace Go.Proofs.Ytpfoeologjacfaa.Pure
open Go.RowKit Go.Proofs.Ytpfoeologjacfaa.H Go.Proofs.YtpfoeologjacfaaW.PrintWords Go.Proofs.YtpfoeologjacfaaW.PrintLast Go.Proofs.YtpfoeologjacfaaW.PrintMore
set_option linter.unusedVariables false
set_option linter.unusedSimpArgs false

theorem last_go {b p h : Int} (s : Size b p h) (x : Int) (B C : List Int) (hl : B.length ≤ 23) (hw : ∀ y ∈ B, 0 ≤ y ∧ y < p) (hC : C.length = B.length) (at_ : Int) (found : Bool)
    (hat : found = true → ∃ q : Nat, at_ = q ∧ ∃ hq : q < B.length, B[q] = x ∧ ∀ i (hi : i < q), B[i] ≠ x) :
    ∀ (d j : Nat) (t : Int), j + d = B.length → 0 ≤ t ∧ t < p → C.drop j = runs p t (B.drop j) →
      Ev (fun k => laws_FnBlocks.l0 k b B x (lastRun p t (B.drop j)) C at_ found t (j : Int)) true := by
  have hs := s.rng
  intro d
  induction d with
  | zero =>
    intro j t hj ht hr
    rw [List.drop_of_length_le (by omega)]
    refine Ev.step (fun k => laws_FnBlocks.l0.eq_2 _ _ _ _ _ _ _ _ _ _) (Ev.if_neg (by omega) (Ev.if_pos rfl ?_))
    by_cases f : found = true
    · obtain ⟨q, rfl, hq, h1, _⟩ := hat f
      refine Ev.if_pos f (Ev.if_pos (by omega) (Ev.if_pos (by omega) (Ev.if_pos (by omega) (Ev.some' ?_))))
      rw [rd_at B q hq, h1]; simp
    · exact Ev.if_neg f (Ev.now _)
  | succ d ih =>
    intro j t hj ht hr
    have hj' : j < B.length := by omega
    have hx := hw _ (List.getElem_mem hj')
    rw [List.drop_eq_getElem_cons hj'] at hr ⊢
    rw [runs] at hr
    rw [lastRun]
    obtain ⟨c1, c2, c3⟩ := drop_cons hr
    refine Ev.step (fun k => laws_FnBlocks.l0.eq_2 _ _ _ _ _ _ _ _ _ _) (Ev.if_pos (by omega) (Ev.if_pos (by omega) ?_))
    rw [rd_at B j hj', rd_at C j c1, w64 (x := (j : Int) + 1) (by omega) (by omega)]
    refine Ev.bind' (add_impl s ht hx) (Ev.if_pos rfl (Ev.if_pos (by omega) (Ev.if_pos c2 ?_)))
    have next := ih (j + 1) ((t + B[j]) % p) (by omega) (s.low _).2 c3
    by_cases f : found = true
    · refine Ev.if_pos f ?_
      obtain ⟨q, rfl, hq, h1, h2⟩ := hat f
      by_cases c : (j : Int) < q
      · exact Ev.if_pos c (Ev.if_neg (h2 j (by omega)) next)
      · exact Ev.if_neg c next
    · exact Ev.if_neg f next
theorem FnBlocks : laws_FnBlocks.Pure := by
  intro l0 l1 _ _ hw0 _ _ hw1
  refine Ev.rounds ?_
  have hb0 : ∀ x ∈ l0, 0 ≤ x ∧ x ≤ 255 := fun x hx => wf8 (hw0 x hx)
  have hb1 : ∀ x ∈ l1, 0 ≤ x ∧ x ≤ 255 := fun x hx => wf8 (hw1 x hx)
  obtain ⟨b, hb, hB⟩ := R8Bits_eq l1 hb1
  have hBB : bitsB b = true := by rcases hB with rfl | rfl | rfl <;> rfl
  obtain ⟨p, h, s⟩ := size_of hBB
  have hs := s.rng
  obtain ⟨n, hn', hn⟩ := R8Lanes_eq l1 hb1
  obtain ⟨W, hW, hWw, hWe⟩ := R8Block_eq l0 b hb0 hB
  obtain ⟨v, hv, hv'⟩ := at_eq l1 20 7 hb1 (by omega)
  have hw : ∀ y ∈ W, 0 ≤ y ∧ y < p := fun y hy => (Size.word s y).1 (hWw y hy)
  have hblk : ∀ m : Int, lanesB m = true → blockB b m W = true := fun m hm => by
    unfold blockB
    rw [hBB, hm]
    simp only [Bool.true_and, Bool.and_eq_true, decide_eq_true_eq]
    exact ⟨by omega, by simpa using hWw⟩
  have hL : lanesB n = true := by rcases hn with rfl | rfl | rfl | rfl <;> rfl
  obtain ⟨R, hR, r1, r2, r3, r4⟩ := SumBlock_impl s n hn W hW (hblk n hL)
  obtain ⟨R2, hR2, _⟩ := SumBlock_impl s 2 (Or.inl rfl) W hW (hblk 2 rfl)
  have hP : Ev (fun k => impl_PrefixBlock.f k b n W) (runs p 0 W, true) := by
    unfold impl_PrefixBlock.f
    refine Ev.bind' (a := true) (by show some (blockB b n W) = _; rw [hblk n hL]) (Ev.if_pos rfl ?_)
    have := prefix_go s W (by omega) hw W.length 0 0 [] (by omega) rfl (by omega)
    simpa using this
  have hwv : wordB b (v : Int) = true := (Size.word s _).2 ⟨by omega, by omega⟩
  have hF : Ev (fun k => impl_FindInBlock.f k b n W v) (if placeOf v W < 0 then (0, false) else (placeOf v W, true)) := by
    unfold impl_FindInBlock.f
    refine Ev.bind (index_eq W v (by omega)) (Ev.bind' (a := true) (by show some (blockB b n W) = _; rw [hblk n hL]) (Ev.if_pos rfl (Ev.bind' (a := true) (by show some (wordB b v) = _; rw [hwv]) (Ev.if_pos rfl ?_))))
    by_cases c : placeOf v W < 0
    · exact Ev.if_pos c (Ev.some' (by rw [_root_.if_pos c]))
    · exact Ev.if_neg c (Ev.some' (by rw [_root_.if_neg c]))
  have hC : Ev (fun k => impl_CountInBlock.f k b n W v) (((cntN v W : Nat) : Int), true) := by
    unfold impl_CountInBlock.f
    refine Ev.bind' (a := true) (by show some (blockB b n W) = _; rw [hblk n hL]) (Ev.if_pos rfl (Ev.bind' (a := true) (by show some (wordB b v) = _; rw [hwv]) (Ev.step (fun k => impl_CountInBlock.j0.eq_2 _ _ _ _) (Ev.if_neg (by simp) ?_))))
    have := count_impl v W (by omega) W.length 0 0 (by omega) (by omega)
    simpa using this
  obtain ⟨t, ht⟩ : ∃ t, laws_r8Long.f l0 l1 = some t := by unfold laws_r8Long.f; split <;> exact ⟨_, rfl⟩
  unfold laws_FnBlocks.f
  refine Ev.bind' ht ?_
  by_cases g : t = true
  · exact Ev.if_pos g (Ev.now _)
  refine Ev.if_neg g (Ev.bind' hb (Ev.bind hWe (Ev.bind' hn' (Ev.bind' hv (Ev.bind hR (Ev.bind hP (Ev.bind hF (Ev.bind hC (Ev.bind hR2 ?_)))))))))
  refine Ev.if_pos rfl (Ev.if_pos rfl (Ev.if_pos rfl (Ev.if_pos rfl (Ev.if_pos (by show ((runs p 0 W).length : Int) = _; rw [runs_length]) (Ev.if_pos rfl (Ev.bind (r8Count_eq v W (by omega)) (Ev.if_pos rfl ?_)))))))
  have rest : ∀ (a : Int) (f : Bool), (f = true → ∃ q : Nat, a = q ∧ ∃ hq : q < W.length, W[q] = (v : Int) ∧ ∀ i (hi : i < q), W[i] ≠ v) → Ev (fun k => laws_FnBlocks.j0 k b W n v (lastRun p 0 W) R (runs p 0 W) a f false) true := by
    intro a f hf
    have hj1 : Ev (fun k => laws_FnBlocks.j1 k b W v (lastRun p 0 W) (runs p 0 W) a f (decide ((wrap64 (R * n)) < (W.length : Int)))) true := by
      have e : wrap64 (R * n) = R * n := by rcases hn with rfl | rfl | rfl | rfl <;> exact w64 (by omega) (by omega)
      rw [e]
      refine Ev.step (fun k => laws_FnBlocks.j1.eq_2 _ _ _ _ _ _ _ _ _) (Ev.if_neg (by simp; omega) ?_)
      exact last_go s v W (runs p 0 W) hW hw (runs_length p W 0) a f hf W.length 0 0 (by omega) (by omega) rfl
    refine Ev.step (fun k => laws_FnBlocks.j0.eq_2 _ _ _ _ _ _ _ _ _ _ _) (Ev.if_neg (by simp) ?_)
    have e : wrap64 ((wrap64 (R - 1)) * n) = (R - 1) * n := by
      rw [w64 (x := R - 1) (by omega) (by omega)]
      rcases hn with rfl | rfl | rfl | rfl <;> exact w64 (by omega) (by omega)
    rw [e]
    by_cases c : (R - 1) * n ≥ (W.length : Int)
    · exact Ev.if_pos c (Ev.if_neg (by omega) hj1)
    · exact Ev.if_neg c hj1
  rcases first_or (v : Int) W with hno | ⟨q, hq, h1, h2⟩
  · rw [place_none _ _ hno, cntN_none _ _ hno]
    exact rest 0 false (fun e => by cases e)
  · rw [place_at _ _ q hq h1 h2]
    have hc := cntN_some (v : Int) W (by rw [← h1]; exact List.getElem_mem hq)
    rw [_root_.if_neg (show ¬ ((q : Int) < 0) by omega)]
    have := rest q true (fun _ => ⟨q, rfl, hq, h1, h2⟩)
    have e : ((true : Bool) != decide (((cntN (v : Int) W : Nat) : Int) > 0)) = false := by simp; omega
    show Ev (fun k => laws_FnBlocks.j0 k b W n v (lastRun p 0 W) R (runs p 0 W) q true (true != decide (((cntN (v : Int) W : Nat) : Int) > 0))) true
    rw [e]
    exact this

end Go.Proofs.Ytpfoeologjacfaa.Pure
