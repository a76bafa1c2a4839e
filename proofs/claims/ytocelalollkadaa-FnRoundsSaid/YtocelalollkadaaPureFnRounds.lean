/- The law FnRounds answers true at every input, and leaves its arguments as they were. -/
import Derived.Test.YtocelalollkadaaLFnRounds
import Derived.Test.YtocelalollkadaaD3
import Derived.KernelRfl
namespace Go.Proofs.Ytocelalollkadaa.Pure
open Go.RowKit Go.Proofs.Ytocelalollkadaa.D Go.Proofs.YtocelalollkadaaW.PrintWords Go.Proofs.YtocelalollkadaaW.PrintLast Go.Proofs.YtocelalollkadaaW.PrintMore
set_option linter.unusedVariables false
set_option linter.unusedSimpArgs false

theorem cntN_snoc (x y : Int) : ∀ l : List Int, cntN x (l ++ [y]) = cntN x l + (if y = x then 1 else 0)
  | [] => by simp [cntN]
  | z :: l => by simp only [List.cons_append, cntN, cntN_snoc x y l]; omega
theorem cntN_append (x : Int) : ∀ l m : List Int, cntN x (l ++ m) = cntN x l + cntN x m
  | [], m => by simp [cntN]
  | z :: l, m => by simp only [List.cons_append, cntN, cntN_append x l m]; omega
theorem cntN_take (x : Int) (l : List Int) (j : Nat) : cntN x (l.take j) ≤ cntN x l := by
  have := cntN_append x (l.take j) (l.drop j)
  rw [List.take_append_drop] at this
  omega
theorem cntN_step (x : Int) (l : List Int) (j : Nat) (hj : j < l.length) : cntN x (l.take (j + 1)) = cntN x (l.take j) + (if l[j] = x then 1 else 0) := by
  rw [List.take_succ_eq_append_getElem hj, cntN_snoc]
/-- The last place of a number tells how often it is there. -/
theorem cntN_last (x : Int) (l : List Int) (h : 0 < cntN x l) : ∃ i, ∃ hi : i < l.length, l[i] = x ∧ cntN x (l.take (i + 1)) = cntN x l := by
  have key : ∀ j, j ≤ l.length → 0 < cntN x (l.take j) → ∃ i, ∃ hi : i < l.length, l[i] = x ∧ cntN x (l.take (i + 1)) = cntN x (l.take j) := by
    intro j
    induction j with
    | zero => intro _ h; simp [cntN] at h
    | succ j ih =>
      intro hj h
      have hj' : j < l.length := by omega
      by_cases e : l[j] = x
      · exact ⟨j, hj', e, rfl⟩
      · rw [cntN_step x l j hj', _root_.if_neg e, Nat.add_zero] at h ⊢
        exact ih (by omega) h
  have := key l.length (by omega) (by rwa [List.take_of_length_le (by omega)])
  rwa [List.take_of_length_le (show l.length ≤ l.length by omega)] at this
def sumC (l : List Int) : Nat → Nat
  | 0 => 0
  | x + 1 => sumC l x + cntN x l
theorem sumC_all (l : List Int) : ∀ m : Nat, (∀ y ∈ l, 0 ≤ y ∧ y < m) → sumC l m = l.length := by
  induction l with
  | nil =>
    intro m _
    have : ∀ m, sumC [] m = 0 := fun m => by
      induction m with
      | zero => rfl
      | succ m ih => simp [sumC, ih, cntN]
    simp [this]
  | cons y l ih =>
    intro m h
    have hy := h y (by simp)
    have key : ∀ q : Nat, sumC (y :: l) q = sumC l q + (if y < q then 1 else 0) := by
      intro q
      induction q with
      | zero => simp [sumC]; omega
      | succ q ihq =>
        simp only [sumC, ihq, cntN]
        by_cases a : y < (q : Int)
        · rw [_root_.if_pos a, _root_.if_neg (by omega), _root_.if_pos (by omega)]; omega
        · by_cases b : y = (q : Int)
          · rw [_root_.if_neg a, _root_.if_pos b, _root_.if_pos (by omega)]; omega
          · rw [_root_.if_neg a, _root_.if_neg b, _root_.if_neg (by omega)]; omega
    rw [key m, _root_.if_pos hy.2, ih m (fun z hz => h z (by simp [hz]))]
    simp
/-- The counts of CountLanesWith. -/
theorem counts_post (l : List Int) (m : Nat) (hl : l.length ≤ 16) (hm1 : 1 ≤ m) (hm : m ≤ 9) (hx : ∀ y ∈ l, 0 ≤ y ∧ y < m) :
    ∃ c r, goLoop cntStep cntEnd (List.replicate m 0, 0) l 0 = (c, r, true) ∧ c.length = m ∧ (∀ i (hi : i < c.length), c[i] = (cntN (i : Int) l : Nat)) ∧ Top c r := by
  have hp := goLoop_post (f := cntStep) (fin := cntEnd) l (fun s j => CntInv m s j ∧ ∀ i (hi : i < s.1.length), s.1[i] = (cntN (i : Int) (l.take j) : Nat)) (fun r : List Int × Int × Bool => r.2.2 = true ∧ CntInv m (r.1, r.2.1) l.length ∧ ∀ i (hi : i < r.1.length), r.1[i] = (cntN (i : Int) l : Nat))
    (fun s hs => ⟨rfl, hs.1, fun i hi => by have := hs.2 i hi; rwa [List.take_of_length_le (by omega)] at this⟩) (fun s j hj r _ hf => by cases hf)
    (fun s j hj s' hs hf => by
      cases hf
      have h1 := hx l[j] (List.getElem_mem hj)
      refine ⟨cnt_step hs.1 h1.1 h1.2 (by omega), fun i hi => ?_⟩
      have hi' : i < s.1.length := by simpa [more] using hi
      have hb := hs.1.2.1
      have hl' : l[j] < s.1.length := by rw [hs.1.1]; exact h1.2
      have := more_get s.1 l[j] h1.1 hl' j (fun i hi => hb i hi) (by omega) i hi
      rw [this, cntN_step _ l j hj]
      by_cases e : i = l[j].toNat
      · rw [_root_.if_pos e, _root_.if_pos (by omega)]
        have q := hs.2 l[j].toNat (by omega)
        subst e
        rw [q]; omega
      · rw [_root_.if_neg e, _root_.if_neg (by omega), hs.2 i hi']; omega) (List.replicate m 0, 0) 0 (by omega) ⟨cnt_zero m (by omega), fun i hi => by simp [cntN]⟩
  rw [List.drop_zero] at hp
  obtain ⟨h1, h2, h3⟩ := hp
  refine ⟨_, _, ?_, h2.1, h3, h2.2.2⟩
  generalize goLoop cntStep cntEnd (List.replicate m 0, 0) l 0 = g at *
  obtain ⟨a, b, c⟩ := g
  have h1' : c = true := h1
  rw [h1']
/-- The lanes before lane i that are like it. -/
def like (l : List Int) (i : Nat) : List Nat := (List.range l.length).map fun (k : Nat) => if k < i ∧ rd l (k : Int) = rd l (i : Int) then 1 else 0
theorem like_length (l : List Int) (i : Nat) : (like l i).length = l.length := by simp [like]
theorem like_at (l : List Int) (i k : Nat) (hi : i < l.length) (hk : k < l.length) : (like l i)[k]'(by rw [like_length]; exact hk) = if k < i ∧ l[k] = l[i] then 1 else 0 := by
  simp [like, rd_at l k hk, rd_at l i hi]
theorem like_one (l : List Int) (i : Nat) : ∀ x ∈ like l i, x ≤ 1 := by
  intro x hx
  simp only [like, List.mem_map] at hx
  obtain ⟨k, _, rfl⟩ := hx
  split <;> omega
theorem numOf_zeros : ∀ (z : List Nat) (M : List Nat), (∀ x ∈ z, x = 0) → numOf (M ++ z) = numOf M := by
  intro z
  induction z with
  | nil => intro M _; simp
  | cons a z ih =>
    intro M h
    rw [show M ++ a :: z = (M ++ [a]) ++ z by simp, ih _ (fun x hx => h x (by simp [hx])), numOf_snoc, h a (by simp)]
    omega
theorem conf_go (l : List Int) (i : Nat) (hi : i < l.length) (hl : l.length ≤ 16) : ∀ (d k : Nat), k + d = i → Ev (fun q => impl_ConflictsOf_1.l0 q (i : Int) ((numOf ((like l i).take k) : Nat) : Int) (i : Int) (k : Int) l) ((numOf (like l i) : Nat) : Int) := by
  intro d
  induction d with
  | zero =>
    intro k hk
    obtain rfl : k = i := by omega
    refine Ev.step (fun q => impl_ConflictsOf_1.l0.eq_2 _ _ _ _ _ _) (Ev.if_neg (by omega) (Ev.some' ?_))
    have := numOf_zeros ((like l k).drop k) ((like l k).take k) (fun x hx => by
      obtain ⟨j, hj, rfl⟩ := List.mem_iff_getElem.1 hx
      simp only [List.length_drop, like_length] at hj
      rw [List.getElem_drop, like_at l k (k + j) hi (by omega), _root_.if_neg (by omega)])
    rw [List.take_append_drop] at this
    rw [this]
  | succ d ih =>
    intro k hk
    have hk' : k < l.length := by omega
    refine Ev.step (fun q => impl_ConflictsOf_1.l0.eq_2 _ _ _ _ _ _) (Ev.if_pos (by omega) (Ev.if_pos (by omega) (Ev.if_pos (by omega) (Ev.if_pos (by omega) (Ev.if_pos (by omega) ?_)))))
    have hkl : k < (like l i).length := by rw [like_length]; exact hk'
    have ht : (like l i).take (k + 1) = (like l i).take k ++ [(like l i)[k]] := by rw [List.take_succ_eq_append_getElem hkl]
    have h4 : numOf ((like l i).take (k + 1)) = numOf ((like l i).take k) + (like l i)[k] * 2 ^ k := by rw [ht, numOf_snoc, List.length_take, Nat.min_eq_left (by omega)]
    have h2 := numOf_lt ((like l i).take (k + 1)) (fun x hx => like_one l i x (List.mem_of_mem_take hx))
    have h3 : 2 ^ ((like l i).take (k + 1)).length ≤ 2 ^ 60 := Nat.pow_le_pow_right (by omega) (by rw [List.length_take]; omega)
    rw [like_at l i k hi hk'] at h4
    rw [rd_at l k hk', rd_at l i hi, w64 (x := (k : Int) + 1) (by omega) (by omega)]
    by_cases e : l[k] = l[i]
    · rw [_root_.if_pos ⟨by omega, e⟩] at h4
      refine Ev.if_pos e ?_
      rw [show (1 : Int) = ((1 : Nat) : Int) from rfl, shl_nat 1 k (by omega) (by omega), w64 (x := ((numOf ((like l i).take k) : Nat) : Int) + ((1 * 2 ^ k : Nat) : Int)) (by omega) (by omega)]
      rw [show ((numOf ((like l i).take k) : Nat) : Int) + ((1 * 2 ^ k : Nat) : Int) = ((numOf ((like l i).take (k + 1)) : Nat) : Int) by omega]
      exact ih (k + 1) (by omega)
    · rw [_root_.if_neg (fun q => e q.2), Nat.zero_mul, Nat.add_zero] at h4
      refine Ev.if_neg e ?_
      have q := ih (k + 1) (by omega)
      rw [h4, Nat.add_zero] at q
      exact q
theorem lanes_ev (F : Nat → Int → Option Int) (G : Nat → Int) : ∀ (n i : Nat), (∀ j, i ≤ j → j < i + n → Ev (fun k => F k (j : Int)) (G j)) → Ev (fun k => lanesO (F k) i n) ((List.range n).map fun j => G (i + j)) := by
  intro n
  induction n with
  | zero => intro i _; exact Ev.now _
  | succ n ih =>
    intro i h
    have h1 := h i (by omega) (by omega)
    have h2 := ih (i + 1) (fun j a b => h j (by omega) (by omega))
    have e : (List.range (n + 1)).map (fun j => G (i + j)) = G i :: (List.range n).map (fun j => G (i + 1 + j)) := by
      rw [List.range_succ_eq_map]
      simp [Function.comp, Nat.add_assoc, Nat.add_comm 1]
    rw [e]
    exact Ev.bind h1 (Ev.bind h2 (Ev.now _))
theorem bit_like (l : List Int) (i k : Nat) (hi : i < l.length) (hk : k < l.length) (hl : l.length ≤ 16) : Go.bits .and .i64 (shr .i64 ((numOf (like l i) : Nat) : Int) (k : Int)) 1 = if k < i ∧ l[k] = l[i] then 1 else 0 := by
  have := bit_at (like l i) k (by rw [like_length]; exact hk) (by rw [like_length]; omega) (like_one l i)
  rw [this, like_at l i k hi hk]
  split <;> rfl
theorem Conflicts_eq (l : List Int) (hl : l.length = 2 ∨ l.length = 4 ∨ l.length = 8 ∨ l.length = 16) (hw : vecB 16 l = true) : Ev (fun k => impl_ConflictsOf.f k l) ((List.range l.length).map (fun i => ((numOf (like l i) : Nat) : Int)), true) := by
  unfold impl_ConflictsOf.f impl_lanesOf_at_impl_ConflictsOf_1.f
  refine Ev.bind' (a := true) (by show some (vecB 16 l) = _; rw [hw]) (Ev.if_pos rfl (Ev.bind (a := (List.range l.length).map (fun i => ((numOf (like l i) : Nat) : Int))) ?_ (Ev.now _)))
  refine Ev.if_pos ⟨by omega, by omega⟩ ?_
  have := lanes_ev (fun k i => impl_ConflictsOf_1.f k i l) (fun i => ((numOf (like l i) : Nat) : Int)) l.length 0 (fun j _ hj => by
    have := conf_go l j (by omega) (by omega) j 0 (by omega)
    simpa [impl_ConflictsOf_1.f, numOf] using this)
  simpa using this
section
variable (l : List Int) (m : Nat) (c : List Int) (r : Int)
theorem row_go (cf : List Int) (hl : l.length ≤ 16) (hcf : cf = (List.range l.length).map (fun i => ((numOf (like l i) : Nat) : Int))) (i : Nat) (hi : i < l.length) (most : Int) (res : Bool)
    (H : Ev (fun k => if (wrap64 ((cntN l[i] (l.take i) : Nat) + 1 : Int)) > most then (laws_FnRounds.l1 k (l.length : Int) m l c r cf (wrap64 ((cntN l[i] (l.take i) : Nat) + 1)) 0 (wrap64 ((i : Int) + 1))) else (laws_FnRounds.l1 k (l.length : Int) m l c r cf most 0 (wrap64 ((i : Int) + 1)))) res) :
    ∀ (d k : Nat), k + d = l.length → Ev (fun q => laws_FnRounds.l2 q (l.length : Int) m l c r cf most 0 (i : Int) ((cntN l[i] (l.take (min k i)) : Nat) : Int) (k : Int)) res := by
  intro d
  induction d with
  | zero =>
    intro k hk
    rw [Nat.min_eq_right (by omega)]
    exact Ev.step (fun q => laws_FnRounds.l2.eq_2 _ _ _ _ _ _ _ _ _ _ _ _) (Ev.if_neg (by omega) H)
  | succ d ih =>
    intro k hk
    have hk' : k < l.length := by omega
    have hci : rd cf (i : Int) = ((numOf (like l i) : Nat) : Int) := by
      subst hcf
      rw [rd_at _ i (by simpa using hi)]
      simp
    have hcl : cf.length = l.length := by subst hcf; simp
    have next := ih (k + 1) (by omega)
    have hle := cntN_take l[i] l (min k i)
    have hle2 := cntN_le l[i] l
    refine Ev.step (fun q => laws_FnRounds.l2.eq_2 _ _ _ _ _ _ _ _ _ _ _ _) (Ev.if_pos (by omega) (Ev.if_pos (by omega) (Ev.if_pos (by omega) ?_)))
    rw [hci, u64w (x := (k : Int)) (by omega) (by omega), bit_like l i k hi hk' hl, w64 (x := (k : Int) + 1) (by omega) (by omega), rd_at l k hk', rd_at l i hi]
    refine Ev.if_pos (by omega) ?_
    by_cases a : k < i
    · have hmin : min (k + 1) i = k + 1 := Nat.min_eq_left (by omega)
      rw [Nat.min_eq_left (show k ≤ i by omega)] at hle ⊢
      rw [hmin, cntN_step _ l k hk'] at next
      refine Ev.if_pos (by omega) (Ev.if_pos (by omega) (Ev.if_pos (by omega) (Ev.if_pos (by omega) ?_)))
      by_cases e : l[k] = l[i]
      · rw [_root_.if_pos ⟨a, e⟩]
        rw [_root_.if_pos e] at next
        refine Ev.if_neg (by simp [e]) ?_
        rw [w64 (by omega) (by omega)]
        exact next
      · rw [_root_.if_neg (fun q => e q.2)]
        rw [_root_.if_neg e] at next
        refine Ev.if_neg (by simp [e]) ?_
        rw [w64 (by omega) (by omega), Int.add_zero]
        exact next
    · rw [Nat.min_eq_right (show i ≤ k by omega)] at hle ⊢
      rw [Nat.min_eq_right (show i ≤ k + 1 by omega)] at next
      rw [_root_.if_neg (fun q => a q.1)]
      refine Ev.if_neg (by omega) (Ev.if_neg (by simp) ?_)
      rw [w64 (by omega) (by omega), Int.add_zero]
      exact next
theorem tail3_go (hl : l.length ≤ 16) (hm : m ≤ 9) (hc : c.length = m) (hcn : ∀ i (hi : i < c.length), c[i] = (cntN (i : Int) l : Nat)) (hx : ∀ y ∈ l, 0 ≤ y ∧ y < m) :
    ∀ (d x : Nat), x + d = m → Ev (fun k => laws_FnRounds.l3 k (l.length : Int) m l c r r ((sumC l x : Nat) : Int) (x : Int)) true := by
  have hall := sumC_all l m hx
  have hmono : ∀ q, sumC l q ≤ q * 16 := fun q => by
    induction q with
    | zero => simp [sumC]
    | succ q ih => have := cntN_le (q : Int) l; simp only [sumC]; omega
  intro d
  induction d with
  | zero =>
    intro x hd
    obtain rfl : x = m := by omega
    rw [hall]
    exact Ev.step (fun k => laws_FnRounds.l3.eq_2 _ _ _ _ _ _ _ _ _) (Ev.if_neg (by omega) (Ev.if_pos rfl (Ev.some' (by simp))))
  | succ d ih =>
    intro x hd
    have hxc : x < c.length := by omega
    have h1 := cntN_le (x : Int) l
    have h2 := hmono x
    refine Ev.step (fun k => laws_FnRounds.l3.eq_2 _ _ _ _ _ _ _ _ _) (Ev.if_pos (by omega) (Ev.if_pos (by omega) (Ev.if_pos (by omega) (Ev.bind (r8Count_eq (x : Int) l (by omega)) ?_))))
    rw [rd_at c x hxc, hcn x hxc]
    refine Ev.if_pos rfl ?_
    rw [w64 (x := (x : Int) + 1) (by omega) (by omega), w64 (x := ((sumC l x : Nat) : Int) + ((cntN (x : Int) l : Nat) : Int)) (by omega) (by omega), show ((sumC l x : Nat) : Int) + ((cntN (x : Int) l : Nat) : Int) = ((sumC l (x + 1) : Nat) : Int) by simp [sumC]]
    exact ih (x + 1) (by omega)
theorem main_go (cf : List Int) (hl : l.length ≤ 16) (hl1 : 1 ≤ l.length) (hm : m ≤ 9) (hcf : cf = (List.range l.length).map (fun i => ((numOf (like l i) : Nat) : Int))) (hc : c.length = m) (hcn : ∀ i (hi : i < c.length), c[i] = (cntN (i : Int) l : Nat)) (hx : ∀ y ∈ l, 0 ≤ y ∧ y < m) (ht : Top c r) :
    ∀ (d i : Nat) (most : Nat), i + d = l.length → (∀ j (hj : j < l.length), j < i → cntN l[j] (l.take (j + 1)) ≤ most) → (most = 0 ∨ ∃ j, ∃ hj : j < l.length, most = cntN l[j] (l.take (j + 1))) →
      Ev (fun k => laws_FnRounds.l1 k (l.length : Int) m l c r cf (most : Int) 0 (i : Int)) true := by
  intro d
  induction d with
  | zero =>
    intro i most hi h1 h2
    have hmr : (most : Int) = r := by
      obtain ⟨t1, q, hq, t2⟩ := ht
      have hle : (most : Int) ≤ r := by
        rcases h2 with rfl | ⟨j, hj, e⟩
        · rw [t2, hcn q hq]; omega
        · have hy := hx l[j] (List.getElem_mem hj)
          have b := t1 l[j].toNat (by omega)
          rw [hcn _ (by omega)] at b
          have b2 := cntN_take l[j] l (j + 1)
          rw [show ((l[j].toNat : Nat) : Int) = l[j] by omega] at b
          omega
      have hge : r ≤ most := by
        rw [t2, hcn q hq]
        by_cases z : 0 < cntN (q : Int) l
        · obtain ⟨j, hj, e, e2⟩ := cntN_last _ l z
          have := h1 j hj (by omega)
          rw [e, e2] at this
          omega
        · omega
      omega
    rw [hmr]
    exact Ev.step (fun k => laws_FnRounds.l1.eq_2 _ _ _ _ _ _ _ _ _ _) (Ev.if_neg (by omega) (tail3_go l m c r hl hm hc hcn hx m 0 (by omega)))
  | succ d ih =>
    intro i most hi h1 h2
    have hi' : i < l.length := by omega
    have hle := cntN_take l[i] l i
    have hle2 := cntN_le l[i] l
    have hst := cntN_step l[i] l i hi'
    rw [_root_.if_pos rfl] at hst
    refine Ev.step (fun k => laws_FnRounds.l1.eq_2 _ _ _ _ _ _ _ _ _ _) (Ev.if_pos (by omega) ?_)
    have := row_go l m c r cf hl hcf i hi' (most : Int) true ?_ l.length 0 (by omega)
    · simpa [cntN] using this
    · rw [w64 (x := (i : Int) + 1) (by omega) (by omega), w64 (x := ((cntN l[i] (l.take i) : Nat) : Int) + 1) (by omega) (by omega)]
      by_cases g : ((cntN l[i] (l.take i) : Nat) : Int) + 1 > (most : Int)
      · refine Ev.if_pos g ?_
        rw [show ((cntN l[i] (l.take i) : Nat) : Int) + 1 = ((cntN l[i] (l.take (i + 1)) : Nat) : Int) by omega]
        refine ih (i + 1) _ (by omega) (fun j hj hji => ?_) (Or.inr ⟨i, hi', rfl⟩)
        by_cases e : j = i
        · subst e; exact Nat.le_refl _
        · have := h1 j hj (by omega); omega
      · refine Ev.if_neg g (ih (i + 1) most (by omega) (fun j hj hji => ?_) h2)
        by_cases e : j = i
        · subst e; omega
        · exact h1 j hj (by omega)
end
theorem build_go (L : List Int) (n m : Nat) (hb : ∀ x ∈ L, 0 ≤ x ∧ x ≤ 255) (hn : n ≤ 16) (hm : 1 ≤ m) (res : Bool)
    (H : ∀ l : List Int, l.length = n → (∀ y ∈ l, 0 ≤ y ∧ y < m) → Ev (fun k => laws_FnRounds.l0 k L (n : Int) (m : Int) l (n : Int)) res) :
    ∀ (d j : Nat) (l : List Int), j + d = n → l.length = j → (∀ y ∈ l, 0 ≤ y ∧ y < m) → Ev (fun k => laws_FnRounds.l0 k L (n : Int) (m : Int) l (j : Int)) res := by
  intro d
  induction d with
  | zero =>
    intro j l hj hl hy
    have e : j = n := by omega
    subst e
    exact H l hl hy
  | succ d ih =>
    intro j l hj hl hy
    obtain ⟨v, hv, hv'⟩ := at_eq L j (m : Int) hb (by omega)
    refine Ev.step (fun k => laws_FnRounds.l0.eq_2 _ _ _ _ _ _) (Ev.if_pos (by omega) (Ev.bind' hv (Ev.if_pos (by omega) ?_)))
    rw [w64 (x := (j : Int) + 1) (by omega) (by omega)]
    exact ih (j + 1) (l ++ [(v : Int)]) (by omega) (by simp [hl]) (fun y h => by
      rcases List.mem_append.1 h with q | q
      · exact hy y q
      · obtain rfl : y = v := by simpa using q
        omega)
theorem FnRounds : laws_FnRounds.Pure := by
  intro l0 l1 _ _ hw0 _ _ hw1
  refine Ev.rounds ?_
  have hb0 : ∀ x ∈ l0, 0 ≤ x ∧ x ≤ 255 := fun x hx => wf8 (hw0 x hx)
  have hb1 : ∀ x ∈ l1, 0 ≤ x ∧ x ≤ 255 := fun x hx => wf8 (hw1 x hx)
  obtain ⟨n', hn', hn⟩ := R8Lanes_eq l1 hb1
  obtain ⟨n, rfl⟩ := Int.eq_ofNat_of_zero_le (show 0 ≤ n' by omega)
  obtain ⟨v, hv, hv'⟩ := at_eq l1 1 9 hb1 (by omega)
  obtain ⟨t, ht⟩ : ∃ t, laws_r8Long.f l0 l1 = some t := by unfold laws_r8Long.f; split <;> exact ⟨_, rfl⟩
  unfold laws_FnRounds.f
  refine Ev.bind' ht ?_
  by_cases g : t = true
  · exact Ev.if_pos g (Ev.now _)
  refine Ev.if_neg g (Ev.bind' hn' (Ev.bind' hv ?_))
  rw [w64 (x := 1 + (v : Int)) (by omega) (by omega), show 1 + (v : Int) = ((v + 1 : Nat) : Int) by omega]
  refine build_go l0 n (v + 1) hb0 (by omega) (by omega) true ?_ n 0 [] (by omega) rfl (fun y h => by cases h)
  intro l hl hy
  subst hl
  obtain ⟨c, r, hg, hc, hcn, hT⟩ := counts_post l (v + 1) (by omega) (by omega) (by omega) hy
  have hL : lanesB (l.length : Int) = true := by rcases hn with h | h | h | h <;> rw [h] <;> rfl
  have hcnt := CountLanesWith_eq l ((v + 1 : Nat) : Int) (by omega)
  have h1 : inB ((v + 1 : Nat) : Int) 1 64 = true := by simp [inB]; omega
  have h2 : (l.all fun x => inB x 0 (wrap64 (((v + 1 : Nat) : Int) - 1))) = true := by
    rw [w64 (by omega) (by omega)]
    simp only [List.all_eq_true, inB, Bool.and_eq_true, decide_eq_true_eq]
    intro x hx
    have := hy x hx
    omega
  unfold cntOf at hcnt
  rw [_root_.if_pos ⟨h1, by rw [hL, h2]; rfl⟩, Int.toNat_natCast, hg] at hcnt
  have hvec : vecB 16 l = true := by
    unfold vecB
    rw [hL]
    simp only [Bool.true_and, Bool.and_eq_true, List.all_eq_true]
    refine ⟨rfl, fun x hx => ?_⟩
    have := hy x hx
    simp [wordB, inB, bitsB]
    omega
  have hcf := Conflicts_eq l (by omega) hvec
  refine Ev.step (fun k => laws_FnRounds.l0.eq_2 _ _ _ _ _ _) (Ev.if_neg (by omega) (Ev.bind hcnt (Ev.bind hcf (Ev.if_pos rfl (Ev.if_pos rfl (Ev.if_pos (by show (c.length : Int) = _; rw [hc]) ?_))))))
  refine Ev.step (fun k => laws_FnRounds.j1.eq_2 _ _ _ _ _ _ _ _) (Ev.if_neg (by simp) ?_)
  exact main_go l (v + 1) c r _ (by omega) (by omega) (by omega) rfl hc hcn hy hT l.length 0 0 (by omega) (fun j hj h => by omega) (Or.inl rfl)

end Go.Proofs.Ytocelalollkadaa.Pure
