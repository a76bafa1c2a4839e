/- The law FnSorted answers true at every input, and leaves its arguments as they were. -/
import Derived.Test.YtpfoeologjacfaaLFnSorted
import Derived.Test.YtpfoeologjacfaaM6
import Derived.KernelRfl
namespace Go.Proofs.Ytpfoeologjacfaa.Pure
open Go.RowKit Go.Proofs.Ytpfoeologjacfaa.M Go.Proofs.YtpfoeologjacfaaW.PrintWords Go.Proofs.YtpfoeologjacfaaW.PrintLast Go.Proofs.YtpfoeologjacfaaW.PrintMore
set_option linter.unusedVariables false
set_option linter.unusedSimpArgs false

theorem tail_go (V L : List Int) (N : List Int) (c : Nat) (hc : c < V.length) (hl : V.length ≤ 16) (hL : L.length = V.length) (hN : N = L) (hs : L.Pairwise (· ≤ ·)) (hn : ∀ x, cntN x L = cntN x V) (hf : ∀ i (hi : i < c), V[i] ≠ V[c]) :
    ∀ (d j : Nat), j + d = V.length → Ev (fun k => laws_FnSorted.l1 k V L (c : Int) N (j : Int)) true := by
  subst hN
  intro d
  induction d with
  | zero =>
    intro j hj
    exact Ev.step (fun k => laws_FnSorted.l1.eq_2 _ _ _ _ _ _) (Ev.if_neg (by omega) (Ev.bind (same_ev N (by omega)) (Ev.now _)))
  | succ d ih =>
    intro j hj
    have hj' : j < V.length := by omega
    have next := ih (j + 1) (by omega)
    have rest : Ev (fun k => (laws_r8Count.f k N (rd V (j : Int))).bind fun t250 => ((laws_r8Count.f k V (rd V (j : Int))).bind fun t252 => (if t250 = t252 then (if (j : Int) < (c : Int) then (if 0 ≤ (c : Int) then (if (c : Int) < (V.length : Int) then (if (rd V (j : Int)) = (rd V (c : Int)) then (some false) else (laws_FnSorted.l1 k V N (c : Int) N (wrap64 ((j : Int) + 1)))) else (none)) else (none)) else (laws_FnSorted.l1 k V N (c : Int) N (wrap64 ((j : Int) + 1)))) else (some false)))) true := by
      rw [rd_at V j hj', rd_at V c hc, w64 (x := (j : Int) + 1) (by omega) (by omega)]
      refine Ev.bind (r8Count_eq V[j] N (by omega)) (Ev.bind (r8Count_eq V[j] V (by omega)) (Ev.if_pos (by rw [hn]) ?_))
      by_cases g : j < c
      · exact Ev.if_pos (by omega) (Ev.if_pos (by omega) (Ev.if_pos (by omega) (Ev.if_neg (hf j g) next)))
      · exact Ev.if_neg (by omega) next
    refine Ev.step (fun k => laws_FnSorted.l1.eq_2 _ _ _ _ _ _) (Ev.if_pos (by omega) ?_)
    by_cases g : (j : Int) > 0
    · refine Ev.if_pos g (Ev.if_pos (by omega) (Ev.if_pos (by omega) ?_))
      have e : wrap64 ((j : Int) - 1) = ((j - 1 : Nat) : Int) := by rw [w64 (by omega) (by omega)]; omega
      rw [e]
      have hle := sorted_le hs (j - 1) j (by omega) (by omega)
      refine Ev.if_pos (by omega) (Ev.if_pos (by omega) (Ev.if_neg ?_ rest))
      rw [rd_at N j (by omega), rd_at N (j - 1) (by omega)]
      omega
    · exact Ev.if_neg g (Ev.if_pos (by omega) rest)
theorem steps_go (b : Int) (V L : List Int) (n : Nat) (hn : n = 2 ∨ n = 4 ∨ n = 8 ∨ n = 16) (c : Int) (ss : List S54) (hss : ss.length ≤ 64) (hs : ∀ s ∈ ss, s ∈ stepsOf n) (res : Bool) :
    ∀ (d j : Nat) (l : List Int), j + d = ss.length → l.length = n → vecB b l = true → Ev (fun k => laws_FnSorted.l1 k V L c ((ss.drop j).foldl (fun l s => exOf s.f0 s.f1 l) l) 0) res → Ev (fun k => laws_FnSorted.l0 k b V L ss c l (j : Int)) res := by
  intro d
  induction d with
  | zero =>
    intro j l hj hl hv H
    rw [List.drop_of_length_le (by omega)] at H
    exact Ev.step (fun k => laws_FnSorted.l0.eq_2 _ _ _ _ _ _ _ _) (Ev.if_neg (by omega) H)
  | succ d ih =>
    intro j l hj hl hv H
    have hj' : j < ss.length := by omega
    rw [List.drop_eq_getElem_cons hj', List.foldl_cons] at H
    have hr : rd_T54 ss (j : Int) = ss[j] := by
      unfold rd_T54
      simp [List.getD_eq_getElem?_getD, List.getElem?_eq_getElem hj']
    have hm := hs ss[j] (List.getElem_mem hj')
    refine Ev.step (fun k => laws_FnSorted.l0.eq_2 _ _ _ _ _ _ _ _) (Ev.if_pos (by omega) (Ev.if_pos (by omega) ?_))
    rw [hr, w64 (x := (j : Int) + 1) (by omega) (by omega)]
    exact Ev.bind (exchange_step b l n hn hl hv ss[j] hm) (Ev.if_pos rfl (ih (j + 1) _ (by omega) (by rw [exOf_length]; exact hl) (exOf_vec b l n hn hl hv ss[j] hm) H))
theorem FnSorted : laws_FnSorted.Pure := by
  intro l0 l1 _ _ hw0 _ _ hw1
  refine Ev.rounds ?_
  have hb0 : ∀ x ∈ l0, 0 ≤ x ∧ x ≤ 255 := fun x hx => wf8 (hw0 x hx)
  have hb1 : ∀ x ∈ l1, 0 ≤ x ∧ x ≤ 255 := fun x hx => wf8 (hw1 x hx)
  obtain ⟨b, hb, hB⟩ := R8Bits_eq l0 hb0
  have hBB : bitsB b = true := by rcases hB with rfl | rfl | rfl <;> rfl
  obtain ⟨n', hn', hn⟩ := R8Lanes_eq l1 hb1
  obtain ⟨n, rfl⟩ := Int.eq_ofNat_of_zero_le (show 0 ≤ n' by omega)
  obtain ⟨V, hV, hVw, hVe⟩ := R8Vector_eq l0 b n hb0 hB (by omega)
  subst hV
  have hn2 : V.length = 2 ∨ V.length = 4 ∨ V.length = 8 ∨ V.length = 16 := by omega
  have hL : lanesB (V.length : Int) = true := by rcases hn with h | h | h | h <;> rw [h] <;> rfl
  have hv : vecB b V = true := by
    unfold vecB
    rw [hBB, hL]
    simpa using hVw
  obtain ⟨c, hc, hcE, hmin, hfirst⟩ := Least_impl b V hv (by omega) (by omega)
  have hS := sort_impl_eq b V hv (by omega)
  have hsl : (insAll V []).length = V.length := by rw [insAll_length]; simp
  have hsort := insAll_sorted V [] List.Pairwise.nil
  have hcnt : ∀ x, cntN x (insAll V []) = cntN x V := fun x => by rw [cntN_insAll]; simp [cntN]
  have hSteps : Ev (fun k => impl_SortSteps.f k (V.length : Int)) (stepsOf V.length, true) := by
    unfold impl_SortSteps.f
    exact Ev.bind' (a := true) (by show some (lanesB V.length) = _; rw [hL]) (Ev.if_pos rfl (Ev.bind (steps_eq V.length hn2) (Ev.now _)))
  obtain ⟨t, ht⟩ : ∃ t, laws_r8Long.f l0 l1 = some t := by unfold laws_r8Long.f; split <;> exact ⟨_, rfl⟩
  unfold laws_FnSorted.f
  refine Ev.bind' ht ?_
  by_cases g : t = true
  · exact Ev.if_pos g (Ev.now _)
  refine Ev.if_neg g (Ev.bind' hb (Ev.bind' hn' (Ev.bind hVe (Ev.bind hS (Ev.bind hSteps (Ev.bind hcE ?_))))))
  have hmin0 : (insAll V [])[0]'(by omega) = V[c] := by
    have hpos : ∀ x, x ∈ V → x ∈ insAll V [] := fun x hx => cntN_pos (by rw [hcnt]; exact cntN_some x V hx)
    have hback : ∀ x, x ∈ insAll V [] → x ∈ V := fun x hx => cntN_pos (by rw [← hcnt]; exact cntN_some x _ hx)
    have a := hmin _ (hback _ (List.getElem_mem (by omega : 0 < (insAll V []).length)))
    obtain ⟨i, hi, e⟩ := List.mem_iff_getElem.1 (hpos _ (List.getElem_mem hc))
    by_cases z : i = 0
    · subst z; exact e
    · have := sorted_le hsort 0 i hi (by omega)
      omega
  have hss : (stepsOf V.length).length ≤ 64 := by rcases hn2 with h | h | h | h <;> rw [h] <;> exact of_decide_eq_true (by kernel_rfl)
  have hrd : ((rd V (c : Int)) != (rd (insAll V []) 0)) = false := by
    have e0 : rd (insAll V []) 0 = (insAll V [])[0]'(by omega) := rd_at (insAll V []) 0 (by omega)
    rw [rd_at V c hc, e0, hmin0]; simp
  refine Ev.if_pos rfl (Ev.if_pos rfl (Ev.if_pos rfl (Ev.if_pos (by show ((insAll V []).length : Int) = _; rw [hsl]) (Ev.if_neg (by show ¬ ((c : Int) < 0); omega) (Ev.if_neg (by show ¬ ((c : Int) ≥ (V.length : Int)); omega) (Ev.if_pos (by show 0 ≤ (c : Int); omega) (Ev.if_pos (by show (c : Int) < (V.length : Int); omega) (Ev.if_pos (by show 0 < ((insAll V []).length : Int); omega) ?_))))))))
  show Ev (fun k => laws_FnSorted.j0 k b V (insAll V []) (stepsOf V.length) (c : Int) ((rd V (c : Int)) != (rd (insAll V []) 0))) true
  rw [hrd]
  refine Ev.step (fun k => laws_FnSorted.j0.eq_2 _ _ _ _ _ _ _) (Ev.if_neg (by simp) ?_)
  refine steps_go b V (insAll V []) V.length hn2 (c : Int) (stepsOf V.length) hss (fun s h => h) true (stepsOf V.length).length 0 V (by omega) rfl hv ?_
  rw [List.drop_zero, sorted_same V.length hn2 V rfl]
  exact tail_go V (insAll V []) (insAll V []) c hc (by omega) hsl rfl hsort hcnt hfirst V.length 0 (by omega)

end Go.Proofs.Ytpfoeologjacfaa.Pure
