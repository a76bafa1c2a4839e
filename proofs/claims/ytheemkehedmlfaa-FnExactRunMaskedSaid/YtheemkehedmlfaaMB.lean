import Derived.Test.YtheemkehedmlfaaMA
import Derived.Test.YtheemkehedmlfaaPB
set_option linter.unusedVariables false
set_option linter.unusedSimpArgs false
set_option linter.unusedSectionVars false
set_option maxRecDepth 4000
namespace Go.Proofs.Ytheemkehedmlfaa.P
open Go Go.Proofs.Ytheemkehedmlfaa.E
def sF (Fs : List Fm) : List (Int × List Bool × Int) := Fs.map fun f => ((f.p : Int), (f.bf, (f.r : Int)))
def iF (k : Nat → Int) (Fs : List Fm) : List (Bool × List Bool × List Bool × List Bool × Int) := Fs.map fun f => (decide (k f.p = 5), (f.bf, (f.hd, (f.st, (f.r : Int)))))
theorem sF_len (Fs : List Fm) : (sF Fs).length = Fs.length := by simp [sF]
theorem iF_len (k : Nat → Int) (Fs : List Fm) : (iF k Fs).length = Fs.length := by simp [iF]
theorem sF_top (G : List Fm) (f : Fm) : gt (sF (G ++ [f])) (G.length : Int) = ((f.p : Int), (f.bf, (f.r : Int))) := by
  rw [gtn]; simp [sF, List.getD_eq_getElem?_getD, List.getElem?_append]
theorem iF_get {k : Nat → Int} {Fs : List Fm} {x : Nat} {g : Fm} (h : Fs[x]? = some g) : gt (iF k Fs) (x : Int) = (decide (k g.p = 5), (g.bf, (g.hd, (g.st, (g.r : Int))))) := by
  rw [gtn]; simp [iF, List.getD_eq_getElem?_getD, List.getElem?_map, h]
theorem mid_at (G H : List Fm) (f : Fm) : (G ++ f :: H)[G.length]? = some f := by simp
theorem mid_right (G H : List Fm) (f : Fm) {x : Nat} (h1 : G.length < x) (h2 : x < (G ++ f :: H).length) : ∃ g ∈ H, (G ++ f :: H)[x]? = some g := by
  obtain ⟨y, rfl⟩ : ∃ y, x = G.length + (y + 1) := ⟨x - G.length - 1, by omega⟩
  have hy : y < H.length := by simp at h2; omega
  refine ⟨H[y], List.getElem_mem _, ?_⟩
  rw [List.getElem?_append_right (by omega), Nat.add_sub_cancel_left, List.getElem?_cons_succ, List.getElem?_eq_getElem hy]
theorem iF_top (k : Nat → Int) (G : List Fm) (f : Fm) : gt (iF k (G ++ [f])) (G.length : Int) = (decide (k f.p = 5), (f.bf, (f.hd, (f.st, (f.r : Int))))) := iF_get (mid_at G [] f)
theorem inner_loop (k : Nat → Int) : ∀ G : List Fm, (∃ A e B, G = A ++ e :: B ∧ k e.p = 5 ∧ ∀ g ∈ B, k g.p ≠ 5) ∨ ∀ g ∈ G, k g.p ≠ 5
  | [] => .inr (by simp)
  | g :: G => by
    rcases inner_loop k G with ⟨A, e, B, rfl, h1, h2⟩ | h
    · exact .inl ⟨g :: A, e, B, rfl, h1, h2⟩
    · by_cases h5 : k g.p = 5
      · exact .inl ⟨[], g, G, rfl, h5, h⟩
      · right
        intro x hx
        rcases List.mem_cons.1 hx with rfl | hx
        · exact h5
        · exact h x hx
theorem down_found {stp : (Int × Unit → Option ((Int × Unit) ⊕ Unit)) → Int × Unit → Option ((Int × Unit) ⊕ Unit)} {a m : Nat} (h1 : ∀ rec, stp rec ((a : Int), ()) = some (.inl ((a : Int), ()))) (h2 : ∀ j, a < j → j < m → ∀ rec, stp rec ((j : Int), ()) = rec ((j : Int) - 1, ())) :
    ∀ (j M : Nat), a < j → j ≤ m → j < M → itN stp M ((j : Int) - 1, ()) = some (.inl ((a : Int), ())) := by
  intro j
  induction j with
  | zero => intro M h; omega
  | succ j ih =>
    intro M ha hm hM
    obtain ⟨M, rfl⟩ : ∃ M', M = M' + 1 := ⟨M - 1, by omega⟩
    have e : ((j + 1 : Nat) : Int) - 1 = (j : Int) := by omega
    rw [e]
    show stp _ _ = _
    by_cases hj : j = a
    · subst hj; exact h1 _
    · rw [h2 j (by omega) (by omega)]
      exact ih M (by omega) (by omega) (by omega)
theorem down_none {stp : (Int × Unit → Option ((Int × Unit) ⊕ Unit)) → Int × Unit → Option ((Int × Unit) ⊕ Unit)} {m : Nat} (h2 : ∀ j : Nat, j < m → ∀ rec, stp rec ((j : Int), ()) = rec ((j : Int) - 1, ())) (h3 : ∀ rec, stp rec ((-1 : Int), ()) = some (.inr ())) :
    ∀ (j M : Nat), j ≤ m → j < M → itN stp M ((j : Int) - 1, ()) = some (.inr ()) := by
  intro j
  induction j with
  | zero =>
    intro M _ hM
    obtain ⟨M, rfl⟩ : ∃ M', M = M' + 1 := ⟨M - 1, by omega⟩
    exact h3 _
  | succ j ih =>
    intro M hm hM
    obtain ⟨M, rfl⟩ : ∃ M', M = M' + 1 := ⟨M - 1, by omega⟩
    have e : ((j + 1 : Nat) : Int) - 1 = (j : Int) := by omega
    rw [e]
    show stp _ _ = _
    rw [h2 j (by omega)]
    exact ih M (by omega) (by omega)
section
variable {N n : Nat} {b : Int} {now : List (List Int)} {on : List Bool} {L : List LT} {o : List Int} {fr : List (Bool × List Bool × List Bool × List Bool × Int)} {cnt sum : Int} (hL : LaneOk n b now) (hon : on.length = n) (hn : n ≤ 16) (hN : 1000 < N)
include hL hon hn hN
theorem impl_set_7 {kind d op a c : Int} (hk01 : kind = 0 ∨ kind = 1) (hd : 0 ≤ d ∧ d ≤ 7) {V : Nat → Int} (h0 : kind = 0 → (0 ≤ a ∧ a ≤ 7) ∧ (0 ≤ c ∧ c ≤ 7) ∧ ∀ x, x < n → F_impl_result N (op, (b, (gt (now.getD x []) a, (gt (now.getD x []) c, ())))) = some (V x, ())) (h1 : kind = 1 → ∀ x, V x = c) (hs0 : 0 ≤ sum) (hs1 : sum ≤ 1000000000000000000) :
    itN (n_iR7 N ((n : Int), (fr, (o, (on, (kind, (d, (op, (a, (c, ())))))))))) N ((0 : Int), (b, (L, (cnt, (sum, (now, ())))))) = some (b, (L, (cnt, (sum + (cntB on n : Int), (setL n on now d.toNat V, ()))))) := by
  obtain ⟨l, h3, h4⟩ := loop_ok (stp := n_iR7 N ((n : Int), (fr, (o, (on, (kind, (d, (op, (a, (c, ())))))))))) (n := n) (Ok := fun k (l : Int × List (List Int)) => l.1 = sum + (cntB on k : Int) ∧ Upto [] n now (fun x => if gb on x = true then (now.getD x []).set d.toNat (V x) else now.getD x []) k l.2) (emb := fun k l => ((k : Int), (b, (L, (cnt, (l.1, (l.2, ()))))))) (fin := fun l => (b, (L, (cnt, (l.1, (l.2, ())))))) (fun k l hk hl => by
      obtain ⟨s, l⟩ := l
      obtain ⟨q1, q2⟩ := hl
      simp only at q1 q2
      subst q1
      have hcl := cntB_le on k
      have e := w_suc k (by omega)
      have e2 : IntKind.wrap .i64 (sum + (cntB on k : Int) + 1) = sum + (cntB on k : Int) + 1 := wr_id (by omega) (by omega)
      have hll := q2.1
      have hown : l.getD k [] = now.getD k [] := q2.own
      have h8 := hL.eight k hk
      cases hb : gb on k with
      | true =>
        refine ⟨(sum + (cntB on k : Int) + 1, l.set k ((now.getD k []).set d.toNat (V k))), ⟨by simp only [cntB, hb, if_true]; omega, q2.set hk (by rw [if_pos hb])⟩, fun rec => ?_⟩
        rcases hk01 with rfl | rfl
        · obtain ⟨ha, hc, hD⟩ := h0 rfl
          unfold n_iR7
          simp only [e, e2, gtb, gtl, hown, hb, hll, hon, h8, Int.toNat_natCast, Bool.not_true, cond_false, cond_true]
          (repeat (first | refine xt ?_ | refine xf ?_ | refine yt ?_ | refine yf ?_))
          refine bd (hD k hk) ?_
          simp only
          (repeat (first | refine xt ?_ | refine xf ?_ | refine yt ?_ | refine yf ?_))
          try rfl
        · have hv := h1 rfl k
          unfold n_iR7
          simp only [e, e2, gtb, gtl, hown, hb, hll, hon, h8, hv, Int.toNat_natCast, Bool.not_true, cond_false, decide_true, cond_true]
          (repeat (first | refine xt ?_ | refine xf ?_ | refine yt ?_ | refine yf ?_))
          try rfl
      | false =>
        refine ⟨(sum + (cntB on k : Int), l), ⟨by simp [cntB, hb], q2.skip (by simp [hb])⟩, fun rec => ?_⟩
        unfold n_iR7
        simp only [e, e2, gtb, gtl, hown, hb, hll, hon, h8, Int.toNat_natCast, Bool.not_false, cond_true, cond_false]
        (repeat (first | refine xt ?_ | refine xf ?_ | refine yt ?_ | refine yf ?_))
        try rfl) (fun l rec hl => by
      unfold n_iR7
      simp only
      (repeat (first | refine xt ?_ | refine xf ?_ | refine yt ?_ | refine yf ?_))
      rfl) n 0 (sum, now) N (by omega) (by omega) ⟨by simp [cntB], Upto.start hL.len⟩
  rw [h3.1, h3.2.done] at h4
  exact h4
theorem impl_set_10 {kind d op a c : Int} (hk01 : kind = 0 ∨ kind = 1) (hd : 0 ≤ d ∧ d ≤ 7) {V : Nat → Int} (h0 : kind = 0 → (0 ≤ a ∧ a ≤ 7) ∧ (0 ≤ c ∧ c ≤ 7) ∧ ∀ x, x < n → F_impl_result N (op, (b, (gt (now.getD x []) a, (gt (now.getD x []) c, ())))) = some (V x, ())) (h1 : kind = 1 → ∀ x, V x = c) (hs0 : 0 ≤ sum) (hs1 : sum ≤ 1000000000000000000) :
    itN (n_iR10 N ((n : Int), (fr, (o, (on, (kind, (d, (op, (a, (c, ())))))))))) N ((0 : Int), (b, (L, (cnt, (sum, (now, ())))))) = some (b, (L, (cnt, (sum + (cntB on n : Int), (setL n on now d.toNat V, ()))))) := by
  obtain ⟨l, h3, h4⟩ := loop_ok (stp := n_iR10 N ((n : Int), (fr, (o, (on, (kind, (d, (op, (a, (c, ())))))))))) (n := n) (Ok := fun k (l : Int × List (List Int)) => l.1 = sum + (cntB on k : Int) ∧ Upto [] n now (fun x => if gb on x = true then (now.getD x []).set d.toNat (V x) else now.getD x []) k l.2) (emb := fun k l => ((k : Int), (b, (L, (cnt, (l.1, (l.2, ()))))))) (fin := fun l => (b, (L, (cnt, (l.1, (l.2, ())))))) (fun k l hk hl => by
      obtain ⟨s, l⟩ := l
      obtain ⟨q1, q2⟩ := hl
      simp only at q1 q2
      subst q1
      have hcl := cntB_le on k
      have e := w_suc k (by omega)
      have e2 : IntKind.wrap .i64 (sum + (cntB on k : Int) + 1) = sum + (cntB on k : Int) + 1 := wr_id (by omega) (by omega)
      have hll := q2.1
      have hown : l.getD k [] = now.getD k [] := q2.own
      have h8 := hL.eight k hk
      cases hb : gb on k with
      | true =>
        refine ⟨(sum + (cntB on k : Int) + 1, l.set k ((now.getD k []).set d.toNat (V k))), ⟨by simp only [cntB, hb, if_true]; omega, q2.set hk (by rw [if_pos hb])⟩, fun rec => ?_⟩
        rcases hk01 with rfl | rfl
        · obtain ⟨ha, hc, hD⟩ := h0 rfl
          unfold n_iR10
          simp only [e, e2, gtb, gtl, hown, hb, hll, hon, h8, Int.toNat_natCast, Bool.not_true, cond_false, cond_true]
          (repeat (first | refine xt ?_ | refine xf ?_ | refine yt ?_ | refine yf ?_))
          refine bd (hD k hk) ?_
          simp only
          (repeat (first | refine xt ?_ | refine xf ?_ | refine yt ?_ | refine yf ?_))
          try rfl
        · have hv := h1 rfl k
          unfold n_iR10
          simp only [e, e2, gtb, gtl, hown, hb, hll, hon, h8, hv, Int.toNat_natCast, Bool.not_true, cond_false, decide_true, cond_true]
          (repeat (first | refine xt ?_ | refine xf ?_ | refine yt ?_ | refine yf ?_))
          try rfl
      | false =>
        refine ⟨(sum + (cntB on k : Int), l), ⟨by simp [cntB, hb], q2.skip (by simp [hb])⟩, fun rec => ?_⟩
        unfold n_iR10
        simp only [e, e2, gtb, gtl, hown, hb, hll, hon, h8, Int.toNat_natCast, Bool.not_false, cond_true, cond_false]
        (repeat (first | refine xt ?_ | refine xf ?_ | refine yt ?_ | refine yf ?_))
        try rfl) (fun l rec hl => by
      unfold n_iR10
      simp only
      (repeat (first | refine xt ?_ | refine xf ?_ | refine yt ?_ | refine yf ?_))
      rfl) n 0 (sum, now) N (by omega) (by omega) ⟨by simp [cntB], Upto.start hL.len⟩
  rw [h3.1, h3.2.done] at h4
  exact h4
theorem impl_held_8 {kind d op a c : Int} (ha : 0 ≤ a ∧ a ≤ 7) (hc : 0 ≤ c ∧ c ≤ 7) {T : Nat → Bool} (hT : ∀ x, x < n → F_impl_holds N (op, (b, (gt (now.getD x []) a, (gt (now.getD x []) c, ())))) = some (T x, ())) :
    itN (n_iR8 N ((n : Int), (fr, (now, (o, (on, (kind, (d, (op, (a, (c, (b, (L, (cnt, (sum, ()))))))))))))))) N ((0 : Int), (List.replicate n false, ())) = some (tab n (fun x => gb on x && T x), ()) := by
  obtain ⟨l, h1, h2⟩ := loop_ok (stp := n_iR8 N ((n : Int), (fr, (now, (o, (on, (kind, (d, (op, (a, (c, (b, (L, (cnt, (sum, ()))))))))))))))) (n := n) (Ok := Upto false n (List.replicate n false) fun x => gb on x && T x) (emb := fun k l => ((k : Int), (l, ()))) (fin := fun l => (l, ())) (fun k l hk hl => by
      have e := w_suc k (by omega)
      have hll := hl.1
      have h8 := hL.eight k hk
      have hnl := hL.len
      refine ⟨l.set k (gb on k && T k), hl.set hk rfl, fun rec => ?_⟩
      unfold n_iR8
      simp only [e, gtb, gtl, hon, hll, h8, hnl, Int.toNat_natCast]
      (repeat (first | refine xt ?_ | refine xf ?_ | refine yt ?_ | refine yf ?_))
      cases hb : gb on k with
      | true =>
        simp only [cond_true, Bool.true_and]
        (repeat (first | refine xt ?_ | refine xf ?_ | refine yt ?_ | refine yf ?_))
        refine bd (hT k hk) ?_
        simp only
        (repeat (first | refine xt ?_ | refine xf ?_ | refine yt ?_ | refine yf ?_))
        try rfl
      | false =>
        simp only [cond_false, Bool.false_and]
        (repeat (first | refine xt ?_ | refine xf ?_ | refine yt ?_ | refine yf ?_))
        try rfl) (fun l rec hl => by
      unfold n_iR8
      simp only
      (repeat (first | refine xt ?_ | refine xf ?_ | refine yt ?_ | refine yf ?_))
      rfl) n 0 (List.replicate n false) N (by omega) (by omega) (Upto.start (by simp))
  rw [h1.done] at h2
  exact h2
theorem impl_held_11 {kind d op a c : Int} (ha : 0 ≤ a ∧ a ≤ 7) (hc : 0 ≤ c ∧ c ≤ 7) {T : Nat → Bool} (hT : ∀ x, x < n → F_impl_holds N (op, (b, (gt (now.getD x []) a, (gt (now.getD x []) c, ())))) = some (T x, ())) :
    itN (n_iR11 N ((n : Int), (fr, (now, (o, (on, (kind, (d, (op, (a, (c, (b, (L, (cnt, (sum, ()))))))))))))))) N ((0 : Int), (List.replicate n false, ())) = some (tab n (fun x => gb on x && T x), ()) := by
  obtain ⟨l, h1, h2⟩ := loop_ok (stp := n_iR11 N ((n : Int), (fr, (now, (o, (on, (kind, (d, (op, (a, (c, (b, (L, (cnt, (sum, ()))))))))))))))) (n := n) (Ok := Upto false n (List.replicate n false) fun x => gb on x && T x) (emb := fun k l => ((k : Int), (l, ()))) (fin := fun l => (l, ())) (fun k l hk hl => by
      have e := w_suc k (by omega)
      have hll := hl.1
      have h8 := hL.eight k hk
      have hnl := hL.len
      refine ⟨l.set k (gb on k && T k), hl.set hk rfl, fun rec => ?_⟩
      unfold n_iR11
      simp only [e, gtb, gtl, hon, hll, h8, hnl, Int.toNat_natCast]
      (repeat (first | refine xt ?_ | refine xf ?_ | refine yt ?_ | refine yf ?_))
      cases hb : gb on k with
      | true =>
        simp only [cond_true, Bool.true_and]
        (repeat (first | refine xt ?_ | refine xf ?_ | refine yt ?_ | refine yf ?_))
        refine bd (hT k hk) ?_
        simp only
        (repeat (first | refine xt ?_ | refine xf ?_ | refine yt ?_ | refine yf ?_))
        try rfl
      | false =>
        simp only [cond_false, Bool.false_and]
        (repeat (first | refine xt ?_ | refine xf ?_ | refine yt ?_ | refine yf ?_))
        try rfl) (fun l rec hl => by
      unfold n_iR11
      simp only
      (repeat (first | refine xt ?_ | refine xf ?_ | refine yt ?_ | refine yf ?_))
      rfl) n 0 (List.replicate n false) N (by omega) (by omega) (Upto.start (by simp))
  rw [h1.done] at h2
  exact h2
end
theorem impl_find_9 {N : Nat} {b : Int} {now : List (List Int)} {on : List Bool} {L : List LT} {o : List Int} {cnt sum : Int} (hN : 1000 < N) {G H : List Fm} {f : Fm} (h5 : kd L f.p = 5) (hH : ∀ g ∈ H, kd L g.p ≠ 5) (hl : G.length + (H.length + 1) ≤ 900) :
    itN (n_iR9 N (iF (kd L) (G ++ f :: H), (on, (now, (o, (b, (L, (cnt, (sum, ()))))))))) N (((G.length + H.length : Nat) : Int), ()) = some (.inl ((G.length : Int), ())) := by
  have hlen : (iF (kd L) (G ++ f :: H)).length = G.length + H.length + 1 := by rw [iF_len]; simp; omega
  have e : ((G.length + H.length + 1 : Nat) : Int) - 1 = ((G.length + H.length : Nat) : Int) := by omega
  rw [← e]
  refine down_found (m := G.length + H.length + 1) (fun rec => ?_) (fun j h1 h2 rec => ?_) _ _ (by omega) (by omega) (by omega)
  · have hx := iF_get (k := kd L) (mid_at G H f)
    unfold n_iR9
    simp only [hx, hlen, decide_eq_true h5, cond_true]
    (repeat (first | refine xt ?_ | refine xf ?_ | refine yt ?_ | refine yf ?_))
    try rfl
  · obtain ⟨g, hg, hx⟩ := mid_right G H f h1 (by simp; omega)
    have hx := iF_get (k := kd L) hx
    have ew : IntKind.wrap .i64 ((j : Int) - 1) = (j : Int) - 1 := wr_id (by omega) (by omega)
    unfold n_iR9
    simp only [hx, hlen, decide_eq_false (hH g hg), cond_false, ew]
    (repeat (first | refine xt ?_ | refine xf ?_ | refine yt ?_ | refine yf ?_))
    try rfl
theorem impl_below_12_found {N : Nat} {b : Int} {now : List (List Int)} {bl : List Bool} {L : List LT} {o : List Int} {cnt sum : Int} (hN : 1000 < N) {A B : List Fm} {e f : Fm} (h5 : kd L e.p = 5) (hB : ∀ g ∈ B, kd L g.p ≠ 5) (hl : (A ++ e :: B).length ≤ 900) :
    itN (n_iR12 N (iF (kd L) ((A ++ e :: B) ++ [f]), (bl, (now, (o, (b, (L, (((A ++ e :: B).length : Int), (cnt, (sum, ())))))))))) N (((A ++ e :: B).length : Int) - 1, ()) = some (.inl ((A.length : Int), ())) := by
  have hlen : (iF (kd L) ((A ++ e :: B) ++ [f])).length = (A ++ e :: B).length + 1 := by rw [iF_len, List.length_append]; rfl
  have hA : A.length < (A ++ e :: B).length := by simp
  refine down_found (m := (A ++ e :: B).length) (fun rec => ?_) (fun j h1 h2 rec => ?_) _ _ hA (Nat.le_refl _) (by omega)
  · have hx := iF_get (k := kd L) (Fs := (A ++ e :: B) ++ [f]) (x := A.length) (g := e) (by simp)
    unfold n_iR12
    simp only [hx, hlen, decide_eq_true h5, cond_true]
    (repeat (first | refine xt ?_ | refine xf ?_ | refine yt ?_ | refine yf ?_))
    try rfl
  · obtain ⟨g, hg, hx⟩ := mid_right A B e h1 h2
    have hx := iF_get (k := kd L) (Fs := (A ++ e :: B) ++ [f]) (x := j) (g := g) (by rw [List.getElem?_append_left h2]; exact hx)
    have ew : IntKind.wrap .i64 ((j : Int) - 1) = (j : Int) - 1 := wr_id (by omega) (by omega)
    unfold n_iR12
    simp only [hx, hlen, decide_eq_false (hB g hg), cond_false, ew]
    (repeat (first | refine xt ?_ | refine xf ?_ | refine yt ?_ | refine yf ?_))
    try rfl
theorem impl_below_12_none {N : Nat} {b : Int} {now : List (List Int)} {bl : List Bool} {L : List LT} {o : List Int} {cnt sum : Int} (hN : 1000 < N) {G : List Fm} {f : Fm} (hG : ∀ g ∈ G, kd L g.p ≠ 5) (hl : G.length ≤ 900) :
    itN (n_iR12 N (iF (kd L) (G ++ [f]), (bl, (now, (o, (b, (L, ((G.length : Int), (cnt, (sum, ())))))))))) N ((G.length : Int) - 1, ()) = some (.inr ()) := by
  have hlen : (iF (kd L) (G ++ [f])).length = G.length + 1 := by rw [iF_len]; simp
  refine down_none (m := G.length) (fun j h2 rec => ?_) (fun rec => ?_) _ _ (Nat.le_refl _) (by omega)
  · have hx := iF_get (k := kd L) (Fs := G ++ [f]) (x := j) (g := G[j]) (by rw [List.getElem?_append_left h2, List.getElem?_eq_getElem h2])
    have ew : IntKind.wrap .i64 ((j : Int) - 1) = (j : Int) - 1 := wr_id (by omega) (by omega)
    unfold n_iR12
    simp only [hx, hlen, decide_eq_false (hG _ (List.getElem_mem h2)), cond_false, ew]
    (repeat (first | refine xt ?_ | refine xf ?_ | refine yt ?_ | refine yf ?_))
    try rfl
  · unfold n_iR12
    simp only
    (repeat (first | refine xt ?_ | refine xf ?_ | refine yt ?_ | refine yf ?_))
    try rfl
section
variable {N n : Nat} (hn : n ≤ 16) (hN : 1000 < N)
include hn hN
theorem impl_mark {k : Nat → Int} {G H : List Fm} {f : Fm} (h5 : k f.p = 5) (hst : f.st.length = n) {held : List Bool} (hh : held.length = n) :
    itN (n_iR13 N ((G.length : Int), ((n : Int), (held, ())))) N ((0 : Int), (iF k (G ++ f :: H), ())) = some (iF k (G ++ ⟨f.p, f.bf, f.hd, tab n fun x => gb f.st x || gb held x, f.r⟩ :: H), ()) := by
  obtain ⟨l, h1, h2⟩ := loop_ok (stp := n_iR13 N ((G.length : Int), ((n : Int), (held, ())))) (n := n) (Ok := Upto false n f.st fun x => gb f.st x || gb held x) (emb := fun j l => ((j : Int), (iF k (G ++ ⟨f.p, f.bf, f.hd, l, f.r⟩ :: H), ()))) (fin := fun l => (iF k (G ++ ⟨f.p, f.bf, f.hd, l, f.r⟩ :: H), ())) (fun j l hj hl => by
      have e := w_suc j (by omega)
      have hll := hl.1
      have hown : gb l j = gb f.st j := hl.own
      have hget := iF_get (k := k) (mid_at G H ⟨f.p, f.bf, f.hd, l, f.r⟩)
      have hlen : (iF k (G ++ ⟨f.p, f.bf, f.hd, l, f.r⟩ :: H)).length = G.length + H.length + 1 := by rw [iF_len]; simp; omega
      have hset : ∀ v, (iF k (G ++ ⟨f.p, f.bf, f.hd, l, f.r⟩ :: H)).set G.length (decide (k f.p = 5), (f.bf, (f.hd, (v, (f.r : Int))))) = iF k (G ++ ⟨f.p, f.bf, f.hd, v, f.r⟩ :: H) := by
        intro v
        unfold iF
        rw [List.map_append, List.map_append, List.set_append_right _ _ (by simp)]
        simp
      refine ⟨l.set j (gb f.st j || gb held j), hl.set hj rfl, fun rec => ?_⟩
      unfold n_iR13
      simp only [e, hget, hlen, gtb, hown, hll, hh, Int.toNat_natCast]
      (repeat (first | refine xt ?_ | refine xf ?_ | refine yt ?_ | refine yf ?_))
      cases hb : gb f.st j with
      | true =>
        simp only [cond_true, Bool.true_or]
        (repeat (first | refine xt ?_ | refine xf ?_ | refine yt ?_ | refine yf ?_))
        rw [hset]
      | false =>
        simp only [cond_false, Bool.false_or]
        (repeat (first | refine xt ?_ | refine xf ?_ | refine yt ?_ | refine yf ?_))
        rw [hset]) (fun l rec hl => by
      unfold n_iR13
      simp only
      (repeat (first | refine xt ?_ | refine xf ?_ | refine yt ?_ | refine yf ?_))
      rfl) n 0 f.st N (by omega) (by omega) (Upto.start hst)
  rw [h1.done] at h2
  exact h2
end
end Go.Proofs.Ytheemkehedmlfaa.P
set_option linter.unusedVariables false
set_option linter.unusedSimpArgs false
set_option linter.unusedSectionVars false
set_option maxRecDepth 4000
namespace Go.Proofs.Ytheemkehedmlfaa.P
open Go Go.Proofs.Ytheemkehedmlfaa.E
def mS (k ct : Nat → Int) (Fs : List Fm) : List (Nat × Nat) := (Fs.filter fun f => decide (k f.p = 5)).map fun f => (f.p, (ct f.p - f.r + 1).toNat)
theorem mS_len (k ct : Nat → Int) (Fs : List Fm) : (mS k ct Fs).length ≤ Fs.length := by
  unfold mS; rw [List.length_map]; exact List.length_filter_le _ _
theorem mS_app (k ct : Nat → Int) (G H : List Fm) : mS k ct (G ++ H) = mS k ct G ++ mS k ct H := by unfold mS; rw [List.filter_append, List.map_append]
theorem mS_loop {k ct : Nat → Int} {f : Fm} (h : k f.p = 5) (H : List Fm) : mS k ct (f :: H) = (f.p, (ct f.p - f.r + 1).toNat) :: mS k ct H := by
  unfold mS; rw [List.filter_cons_of_pos (by simpa using h)]; rfl
theorem mS_if {k ct : Nat → Int} {f : Fm} (h : k f.p ≠ 5) (H : List Fm) : mS k ct (f :: H) = mS k ct H := by
  unfold mS; rw [List.filter_cons_of_neg (by simpa using h)]
theorem mS_nil (k ct : Nat → Int) : mS k ct [] = [] := rfl
structure MRel (b : Int) (L : List LT) (n i : Nat) (Fs : List Fm) (on : List Bool) (st : List Int) (now : List (List Int)) : Prop where
  hi : i ≤ L.length
  mr : MR (kd L) (ct L) n i Fs on st
  ln : LaneOk n b now
  hd : ∀ f ∈ Fs, kd L f.p = 2 → f.hd.length = n
def MStep (N : Nat) (b : Int) (L : List LT) (o : List Int) (n i : Nat) (Fs : List Fm) (on : List Bool) (st : List Int) (now : List (List Int)) (c s : Int) : Prop :=
  ∃ i' Fs' on' st' now' c' s', MRel b L n i' Fs' on' st' now' ∧ mes L.length (mS (kd L) (ct L) Fs') i' 4 < mes L.length (mS (kd L) (ct L) Fs) i 4 ∧ (0 ≤ c' ∧ c' ≤ c + 1) ∧ (0 ≤ s' ∧ s' ≤ s + 16) ∧
    (∀ rec, n_sM1 N (b, (L, ((n : Int), (o, ())))) rec (c, (s, ((i : Int), (sF Fs, (now, (on, (st, ()))))))) = rec (c', (s', ((i' : Int), (sF Fs', (now', (on', (st', ())))))))) ∧
    ∀ rec, n_iR0 N (L, (o, ())) rec ((i : Int), (on, (iF (kd L) Fs, (b, (L, (c, (s, (now, ())))))))) = rec ((i' : Int), (on', (iF (kd L) Fs', (b, (L, (c', (s', (now', ()))))))))
theorem setL_off {n : Nat} {on : List Bool} {now : List (List Int)} {b : Int} (hL : LaneOk n b now) (hon : on.length = n) (h : anyB on = false) (d : Nat) (V : Nat → Int) : setL n on now d V = now := by
  have hg : ∀ x, gb on x = false := by
    intro x
    cases hb : gb on x with
    | false => rfl
    | true =>
      have hx := gb_lt rfl hb
      unfold anyB at h
      rw [List.any_eq_false] at h
      refine absurd ?_ (h (on[x]'hx) (List.getElem_mem _))
      unfold gb at hb
      rw [List.getD_eq_getElem?_getD, List.getElem?_eq_getElem hx] at hb
      exact hb
  unfold setL
  rw [← tab_self [] hL.len]
  refine tab_congr fun x hx => ?_
  rw [hg x, tab_at _ hx]; rfl
theorem cnt_off {on : List Bool} (h : ∀ x, gb on x = false) : ∀ n, cntB on n = 0
  | 0 => rfl
  | n + 1 => by rw [cntB, cnt_off h n, h n]; rfl
theorem any_off {on : List Bool} (h : anyB on = false) (x : Nat) : gb on x = false := by
  cases hb : gb on x with
  | false => rfl
  | true =>
    have hx := gb_lt rfl hb
    unfold anyB at h
    rw [List.any_eq_false] at h
    refine absurd ?_ (h (on[x]'hx) (List.getElem_mem _))
    unfold gb at hb
    rw [List.getD_eq_getElem?_getD, List.getElem?_eq_getElem hx] at hb
    exact hb
section
variable {N : Nat} {b : Int} {L : List LT} {o : List Int} {n i : Nat} {Fs : List Fm} {on : List Bool} {st : List Int} {now : List (List Int)} {c s : Int} (hp : PairsOk b L o) (hb : bitsV b = true) (h : MRel b L n i Fs on st now) (hi : i < L.length) (hn : n ≤ 16) (hn1 : 1 ≤ n) (hN : 1000 < N) (hc : 0 ≤ c ∧ c ≤ 100000000000000000) (hs : 0 ≤ s ∧ s ≤ 100000000000000000)
include hp h in
theorem fs_len : Fs.length ≤ 4 := by
  have h1 := congrArg List.length h.mr.fst
  rw [List.length_map] at h1
  rw [h1]
  exact hp.dp i h.hi
include hp hb h hi
theorem lane_test (hk : kd L i = 2 ∨ kd L i = 6) : ∃ T : Nat → Bool, (0 ≤ (gt L (i : Int)).2.2.2.1 ∧ (gt L (i : Int)).2.2.2.1 ≤ 7) ∧ (0 ≤ (gt L (i : Int)).2.2.2.2 ∧ (gt L (i : Int)).2.2.2.2 ≤ 7) ∧
    ∀ x, x < n → F_spec_l01Test N ((gt L (i : Int)).2.2.1, (b, (gt (now.getD x []) (gt L (i : Int)).2.2.2.1, (gt (now.getD x []) (gt L (i : Int)).2.2.2.2, ())))) = some (T x, ()) ∧ F_impl_holds N ((gt L (i : Int)).2.2.1, (b, (gt (now.getD x []) (gt L (i : Int)).2.2.2.1, (gt (now.getD x []) (gt L (i : Int)).2.2.2.2, ())))) = some (T x, ()) := by
  have hk' : (gt L (i : Int)).1 = 2 ∨ (gt L (i : Int)).1 = 6 := hk
  have hl := hp.li i hi
  unfold lineB at hl
  rw [if_neg (by omega), if_neg (by omega), if_pos hk'] at hl
  simp only [Bool.and_eq_true, inB_iff] at hl
  obtain ⟨h1, h2, h3, h4⟩ := hl
  have key : ∀ x, ∃ t : Bool, x < n → F_spec_l01Test N ((gt L (i : Int)).2.2.1, (b, (gt (now.getD x []) (gt L (i : Int)).2.2.2.1, (gt (now.getD x []) (gt L (i : Int)).2.2.2.2, ())))) = some (t, ()) ∧ F_impl_holds N ((gt L (i : Int)).2.2.1, (b, (gt (now.getD x []) (gt L (i : Int)).2.2.2.1, (gt (now.getD x []) (gt L (i : Int)).2.2.2.2, ())))) = some (t, ()) := by
    intro x
    by_cases hx : x < n
    · have h8 := h.ln.eight x hx
      obtain ⟨t, g1, g2⟩ := test_ok N (c := (gt L (i : Int)).2.2.1) hb (h.ln.word x hx _ (gt_mem (j := (gt L (i : Int)).2.2.2.1) h3.1 (by omega))) (h.ln.word x hx _ (gt_mem (j := (gt L (i : Int)).2.2.2.2) h4.1 (by omega)))
      exact ⟨t, fun _ => ⟨g1, g2⟩⟩
    · exact ⟨false, fun h => absurd h hx⟩
  exact ⟨fun x => (key x).choose, h3, h4, fun x hx => (key x).choose_spec hx⟩
theorem lane_do (hk : kd L i = 0 ∨ kd L i = 1) : ∃ V : Nat → Int, (0 ≤ (gt L (i : Int)).2.1 ∧ (gt L (i : Int)).2.1 ≤ 7) ∧ (∀ x, x < n → wordV b (V x) = true) ∧ (kd L i = 1 → ∀ x, V x = (gt L (i : Int)).2.2.2.2) ∧ (kd L i = 0 → (0 ≤ (gt L (i : Int)).2.2.2.1 ∧ (gt L (i : Int)).2.2.2.1 ≤ 7) ∧ (0 ≤ (gt L (i : Int)).2.2.2.2 ∧ (gt L (i : Int)).2.2.2.2 ≤ 7) ∧
    ∀ x, x < n → F_spec_l01Do N ((gt L (i : Int)).2.2.1, (b, (gt (now.getD x []) (gt L (i : Int)).2.2.2.1, (gt (now.getD x []) (gt L (i : Int)).2.2.2.2, ())))) = some (V x, ()) ∧ F_impl_result N ((gt L (i : Int)).2.2.1, (b, (gt (now.getD x []) (gt L (i : Int)).2.2.2.1, (gt (now.getD x []) (gt L (i : Int)).2.2.2.2, ())))) = some (V x, ())) := by
  have hl := hp.li i hi
  rcases hk with hk | hk
  · have hk' : (gt L (i : Int)).1 = 0 := hk
    unfold lineB at hl
    rw [if_pos hk'] at hl
    simp only [Bool.and_eq_true, inB_iff] at hl
    obtain ⟨h1, h2, h3, h4⟩ := hl
    have key : ∀ x, ∃ t : Int, x < n → F_spec_l01Do N ((gt L (i : Int)).2.2.1, (b, (gt (now.getD x []) (gt L (i : Int)).2.2.2.1, (gt (now.getD x []) (gt L (i : Int)).2.2.2.2, ())))) = some (t, ()) ∧ F_impl_result N ((gt L (i : Int)).2.2.1, (b, (gt (now.getD x []) (gt L (i : Int)).2.2.2.1, (gt (now.getD x []) (gt L (i : Int)).2.2.2.2, ())))) = some (t, ()) ∧ wordV b t = true := by
      intro x
      by_cases hx : x < n
      · have h8 := h.ln.eight x hx
        obtain ⟨t, g1, g2, g3⟩ := do_ok N hb (h.ln.word x hx _ (gt_mem (j := (gt L (i : Int)).2.2.2.1) h3.1 (by omega))) (h.ln.word x hx _ (gt_mem (j := (gt L (i : Int)).2.2.2.2) h4.1 (by omega))) h2
        exact ⟨t, fun _ => ⟨g1, g2, g3⟩⟩
      · exact ⟨0, fun h => absurd h hx⟩
    exact ⟨fun x => (key x).choose, h1, fun x hx => ((key x).choose_spec hx).2.2, fun h => by omega, fun _ => ⟨h3, h4, fun x hx => ⟨((key x).choose_spec hx).1, ((key x).choose_spec hx).2.1⟩⟩⟩
  · have hk' : (gt L (i : Int)).1 = 1 := hk
    unfold lineB at hl
    rw [if_neg (by omega), if_pos hk'] at hl
    simp only [Bool.and_eq_true, inB_iff] at hl
    obtain ⟨h1, _, _, h4⟩ := hl
    exact ⟨fun x => (gt L (i : Int)).2.2.2.2, h1, fun x hx => h4, fun _ x => rfl, fun h => by omega⟩
include hn hn1 hN hc hs
theorem ms_set (hk : kd L i = 0 ∨ kd L i = 1) : MStep N b L o n i Fs on st now c s := by
  have hLl := hp.lt
  have e := w_suc i (by omega)
  have ec : IntKind.wrap .i64 (c + 1) = c + 1 := wr_id (by omega) (by omega)
  have hk' : (gt L (i : Int)).1 = 0 ∨ (gt L (i : Int)).1 = 1 := hk
  have hon := h.mr.lon
  obtain ⟨V, hd, hw, hV1, hV0⟩ := lane_do (N := N) hp hb h hi hk
  have hfr : frs (kd L) (i + 1) = frs (kd L) i := by rw [frs, if_neg (by omega), if_neg (by omega)]
  have hmr := h.mr.go (Nat.le_succ i) hfr
  have hcl := cntB_le on n
  have S12 := fun k (hk0 : (gt L (i : Int)).1 = k) => spec_set_12 (N := N) (kind := (gt L (i : Int)).1) (op := (gt L (i : Int)).2.2.1) (a := (gt L (i : Int)).2.2.2.1) (c := (gt L (i : Int)).2.2.2.2) h.ln hon hn hN hk' hd (V := V) (fun q => ⟨(hV0 q).1, (hV0 q).2.1, fun x hx => ((hV0 q).2.2 x hx).1⟩) (fun q => hV1 q) (slots := s) hs.1 (by omega)
  have S18 := spec_set_18 (N := N) (kind := (gt L (i : Int)).1) (op := (gt L (i : Int)).2.2.1) (a := (gt L (i : Int)).2.2.2.1) (c := (gt L (i : Int)).2.2.2.2) h.ln hon hn hN hk' hd (V := V) (fun q => ⟨(hV0 q).1, (hV0 q).2.1, fun x hx => ((hV0 q).2.2 x hx).1⟩) (fun q => hV1 q) (slots := s) hs.1 (by omega)
  have I0 := impl_set_7 (N := N) (L := L) (o := o) (fr := iF (kd L) Fs) (cnt := c + 1) (sum := s) (kind := (gt L (i : Int)).1) (op := (gt L (i : Int)).2.2.1) (a := (gt L (i : Int)).2.2.2.1) (c := (gt L (i : Int)).2.2.2.2) h.ln hon hn hN hk' hd (V := V) (fun q => ⟨(hV0 q).1, (hV0 q).2.1, fun x hx => ((hV0 q).2.2 x hx).2⟩) (fun q => hV1 q) hs.1 (by omega)
  have I1 := impl_set_10 (N := N) (L := L) (o := o) (fr := iF (kd L) Fs) (cnt := c + 1) (sum := s) (kind := (gt L (i : Int)).1) (op := (gt L (i : Int)).2.2.1) (a := (gt L (i : Int)).2.2.2.1) (c := (gt L (i : Int)).2.2.2.2) h.ln hon hn hN hk' hd (V := V) (fun q => ⟨(hV0 q).1, (hV0 q).2.1, fun x hx => ((hV0 q).2.2 x hx).2⟩) (fun q => hV1 q) hs.1 (by omega)
  cases ha : anyB on with
  | true =>
    refine ⟨i + 1, Fs, on, st, setL n on now (gt L (i : Int)).2.1.toNat V, c + 1, s + (cntB on n : Int), ⟨hi, hmr, h.ln.set on fun x hx _ => hw x hx, h.hd⟩, mes_go _ _ _ _ (by omega) hi, by omega, by omega, fun rec => ?_, fun rec => ?_⟩
    · unfold n_sM1
      simp only [e, ec]
      rcases hk' with hk' | hk'
      · (repeat (first | refine xt ?_ | refine xf ?_ | refine yt ?_ | refine yf ?_))
        refine bd (any_spec on (by omega) hN) ?_
        simp only [ha, cond_true]
        exact bd (S12 _ rfl) rfl
      · (repeat (first | refine xt ?_ | refine xf ?_ | refine yt ?_ | refine yf ?_))
        refine bd (any_spec on (by omega) hN) ?_
        simp only [ha, cond_true]
        exact bd S18 rfl
    · unfold n_iR0
      simp only [e, hon]
      rcases hk' with hk' | hk'
      · (repeat (first | refine xt ?_ | refine xf ?_ | refine yt ?_ | refine yf ?_))
        refine bd (any_impl on (by omega) hN) ?_
        simp only [ha, Bool.not_true, cond_false, ec]
        exact bd I0 rfl
      · (repeat (first | refine xt ?_ | refine xf ?_ | refine yt ?_ | refine yf ?_))
        refine bd (any_impl on (by omega) hN) ?_
        simp only [ha, Bool.not_true, cond_false, ec]
        exact bd I1 rfl
  | false =>
    have hz := cnt_off (any_off ha) n
    have hset := setL_off h.ln hon ha (gt L (i : Int)).2.1.toNat V
    refine ⟨i + 1, Fs, on, st, now, c, s, ⟨hi, hmr, h.ln, h.hd⟩, mes_go _ _ _ _ (by omega) hi, by omega, by omega, fun rec => ?_, fun rec => ?_⟩
    · unfold n_sM1
      simp only [e, ec]
      have hS := S12 _ rfl
      rw [hset, hz] at hS
      have e0 : s + ((0 : Nat) : Int) = s := by omega
      rw [e0] at hS
      rcases hk' with hk' | hk'
      · (repeat (first | refine xt ?_ | refine xf ?_ | refine yt ?_ | refine yf ?_))
        refine bd (any_spec on (by omega) hN) ?_
        simp only [ha, cond_false]
        exact bd hS rfl
      · (repeat (first | refine xt ?_ | refine xf ?_ | refine yt ?_ | refine yf ?_))
        refine bd (any_spec on (by omega) hN) ?_
        simp only [ha, cond_false]
        exact bd hS rfl
    · unfold n_iR0
      simp only [e, hon]
      rcases hk' with hk' | hk'
      · (repeat (first | refine xt ?_ | refine xf ?_ | refine yt ?_ | refine yf ?_))
        refine bd (any_impl on (by omega) hN) ?_
        simp only [ha, Bool.not_false, cond_true]
      · (repeat (first | refine xt ?_ | refine xf ?_ | refine yt ?_ | refine yf ?_))
        refine bd (any_impl on (by omega) hN) ?_
        simp only [ha, Bool.not_false, cond_true]
theorem ms_if (hk : kd L i = 2) : MStep N b L o n i Fs on st now c s := by
  have hLl := hp.lt
  have e := w_suc i (by omega)
  have hk' : (gt L (i : Int)).1 = 2 := hk
  have hon := h.mr.lon
  have hol := hp.len
  have hfl := fs_len hp h
  have hsl := sF_len Fs
  have hil := iF_len (kd L) Fs
  obtain ⟨T, ha7, hc7, hT⟩ := lane_test (N := N) hp hb h hi (.inl hk)
  obtain ⟨j, j1, j2, j3, j4, j5⟩ := (hp.pa i hi).k2 hk
  have j1 : gt o (i : Int) = (j : Int) := by rw [gtn]; exact j1
  have ej : IntKind.wrap .i64 ((j : Int) - 1) = ((j - 1 : Nat) : Int) := by rw [wr_id (by omega) (by omega)]; omega
  have ej2 : IntKind.wrap .i64 (((j - 1 : Nat) : Int) + 1) = (j : Int) := by rw [wr_id (by omega) (by omega)]; omega
  have hS := spec_if (N := N) (kind := (gt L (i : Int)).1) (d := (gt L (i : Int)).2.1) h.ln hon hn hN ha7 hc7 (fun x hx => (hT x hx).1)
  have hf1 : frs (kd L) (i + 1) = frs (kd L) i ++ [i] := by rw [frs, if_pos (.inl hk)]
  have hsf : sF Fs ++ (((i : Int), (on, (0 : Int))) :: []) = sF (Fs ++ [⟨i, on, tab n fun x => gb on x && T x, [], 0⟩]) := by unfold sF; rw [List.map_append]; rfl
  have hif : iF (kd L) Fs ++ ((false, (on, (tab n (fun x => gb on x && T x), (([] : List Bool), (0 : Int))))) :: []) = iF (kd L) (Fs ++ [⟨i, on, tab n fun x => gb on x && T x, [], 0⟩]) := by
    unfold iF
    rw [List.map_append]
    have : decide (kd L i = 5) = false := decide_eq_false (by omega)
    simp only [List.map_cons, List.map_nil, this]; rfl
  have hms : mS (kd L) (ct L) (Fs ++ [⟨i, on, tab n fun x => gb on x && T x, [], 0⟩]) = mS (kd L) (ct L) Fs := by
    rw [mS_app, mS_if (by show kd L i ≠ 5; omega), mS_nil, List.append_nil]
  have htl := tab_len n fun x => gb on x && T x
  have hhd : ∀ f ∈ Fs ++ [⟨i, on, tab n fun x => gb on x && T x, [], 0⟩], kd L f.p = 2 → f.hd.length = n := by
    intro f hm h2
    rcases List.mem_append.1 hm with hm | hm
    · exact h.hd f hm h2
    · rw [List.mem_singleton.1 hm]; exact htl
  have hI := impl_held_8 (N := N) (L := L) (o := o) (fr := iF (kd L) Fs) (cnt := c) (sum := s) (kind := (gt L (i : Int)).1) (d := (gt L (i : Int)).2.1) h.ln hon hn hN ha7 hc7 (fun x hx => (hT x hx).2)
  cases ha : anyB (tab n fun x => gb on x && T x) with
  | true =>
    refine ⟨i + 1, _, _, st, now, c, s, ⟨hi, mr_if h.mr hk (Nat.lt_succ_self i) hf1 T, h.ln, hhd⟩, by rw [hms]; exact mes_go _ _ _ _ (by omega) hi, by omega, by omega, fun rec => ?_, fun rec => ?_⟩
    · unfold n_sM1
      simp only [e, hon, hsl, hsf, j1, ej, ej2]
      (repeat (first | refine xt ?_ | refine xf ?_ | refine yt ?_ | refine yf ?_))
      refine bd hS ?_
      simp only
      refine bd (any_spec _ (by omega) hN) ?_
      simp only [ha, Bool.not_true, cond_false, hsf]
    · unfold n_iR0
      simp only [e, hon, hil, j1, ej, ej2, Int.toNat_natCast]
      (repeat (first | refine xt ?_ | refine xf ?_ | refine yt ?_ | refine yf ?_))
      refine bd hI ?_
      simp only
      (repeat (first | refine xt ?_ | refine xf ?_ | refine yt ?_ | refine yf ?_))
      refine bd (clone_b _ htl hn1 (by omega)) ?_
      simp only
      refine bd (any_impl _ (by omega) hN) ?_
      simp only [ha, Bool.not_true, cond_false, hif]
  | false =>
    refine ⟨j, _, _, st, now, c, s, ⟨by omega, mr_if h.mr hk j2 j5 T, h.ln, hhd⟩, by rw [hms]; exact mes_go _ _ _ _ (by omega) hi, by omega, by omega, fun rec => ?_, fun rec => ?_⟩
    · unfold n_sM1
      simp only [e, hon, hsl, hsf, j1, ej, ej2]
      (repeat (first | refine xt ?_ | refine xf ?_ | refine yt ?_ | refine yf ?_))
      refine bd hS ?_
      simp only
      refine bd (any_spec _ (by omega) hN) ?_
      simp only [ha, Bool.not_false, cond_true, hsf]
      (repeat (first | refine xt ?_ | refine xf ?_ | refine yt ?_ | refine yf ?_))
      rfl
    · unfold n_iR0
      simp only [e, hon, hil, j1, ej, ej2, Int.toNat_natCast]
      (repeat (first | refine xt ?_ | refine xf ?_ | refine yt ?_ | refine yf ?_))
      refine bd hI ?_
      simp only
      (repeat (first | refine xt ?_ | refine xf ?_ | refine yt ?_ | refine yf ?_))
      refine bd (clone_b _ htl hn1 (by omega)) ?_
      simp only
      refine bd (any_impl _ (by omega) hN) ?_
      simp only [ha, Bool.not_false, cond_true, hif]
      (repeat (first | refine xt ?_ | refine xf ?_ | refine yt ?_ | refine yf ?_))
      rfl
theorem ms_else (hk : kd L i = 3) : MStep N b L o n i Fs on st now c s := by
  have hLl := hp.lt
  have e := w_suc i (by omega)
  have hk' : (gt L (i : Int)).1 = 3 := hk
  have hon := h.mr.lon
  have hol := hp.len
  have hfl := fs_len hp h
  obtain ⟨j, a, j1, j2, j3, j4, j5, j6, j7⟩ := (hp.pa i hi).k3 hk
  have j1 : gt o (i : Int) = (j : Int) := by rw [gtn]; exact j1
  have ej : IntKind.wrap .i64 ((j : Int) - 1) = ((j - 1 : Nat) : Int) := by rw [wr_id (by omega) (by omega)]; omega
  have ej2 : IntKind.wrap .i64 (((j - 1 : Nat) : Int) + 1) = (j : Int) := by rw [wr_id (by omega) (by omega)]; omega
  have hf1 : frs (kd L) (i + 1) = frs (kd L) i := by rw [frs, if_neg (by omega), if_neg (by omega)]
  have hfj : frs (kd L) j = frs (kd L) i := by rw [j6, j7]
  rcases List.eq_nil_or_concat Fs with rfl | ⟨G, f, rfl⟩
  · have := h.mr.fst
    rw [j7] at this
    simp at this
  rw [List.concat_eq_append] at h hfl ⊢
  have hf := h.mr.fst
  rw [j7, List.map_append] at hf
  obtain ⟨f1, f2⟩ := List.append_inj' hf rfl
  have f2 : f.p = a := by simpa using f2
  subst f2
  rw [List.length_append] at hfl
  simp only [List.length_cons, List.length_nil] at hfl
  have hsl : (sF (G ++ [f])).length = G.length + 1 := by rw [sF_len]; simp
  have hil : (iF (kd L) (G ++ [f])).length = G.length + 1 := by rw [iF_len]; simp
  have hw := w_pred G.length (by omega)
  have hst := sF_top G f
  have hit := iF_top (kd L) G f
  have hbl := h.mr.lb f (by simp)
  have hhl := h.hd f (by simp) j5
  obtain ⟨m1, m2⟩ := mr_else (i' := i + 1) h.mr hk j5 hp.eu hi j7 (Nat.lt_succ_self i) hf1
  obtain ⟨m3, _⟩ := mr_else (i' := j) h.mr hk j5 hp.eu hi j7 j2 hfj
  have hS := spec_else (N := N) (p := (gt (sF (G ++ [f])) (G.length : Int)).1) (r := (gt (sF (G ++ [f])) (G.length : Int)).2.2) hon hn hN (by rw [hst] : (gt (sF (G ++ [f])) (G.length : Int)).2.1 = f.bf) hbl h.mr.lst
  rw [m2] at hS
  have htl := tab_len n fun x => gb f.bf x && !gb f.hd x
  cases ha : anyB (tab n fun x => gb f.bf x && !gb f.hd x) with
  | true =>
    refine ⟨i + 1, _, _, st, now, c, s, ⟨hi, m1, h.ln, h.hd⟩, mes_go _ _ _ _ (by omega) hi, by omega, by omega, fun rec => ?_, fun rec => ?_⟩
    · unfold n_sM1
      simp only [e, hon, hsl, hw, j1, ej, ej2]
      (repeat (first | refine xt ?_ | refine xf ?_ | refine yt ?_ | refine yf ?_))
      refine bd hS ?_
      simp only
      refine bd (any_spec _ (by omega) hN) ?_
      simp only [ha, Bool.not_true, cond_false]
    · unfold n_iR0
      simp only [e, hon, hil, hw, hit, j1, ej, ej2]
      (repeat (first | refine xt ?_ | refine xf ?_ | refine yt ?_ | refine yf ?_))
      refine bd (but_impl _ _ hbl hhl (by omega) hN) ?_
      simp only
      refine bd (any_impl _ (by omega) hN) ?_
      simp only [ha, Bool.not_true, cond_false]
  | false =>
    refine ⟨j, _, _, st, now, c, s, ⟨by omega, m3, h.ln, h.hd⟩, mes_go _ _ _ _ (by omega) hi, by omega, by omega, fun rec => ?_, fun rec => ?_⟩
    · unfold n_sM1
      simp only [e, hon, hsl, hw, j1, ej, ej2]
      (repeat (first | refine xt ?_ | refine xf ?_ | refine yt ?_ | refine yf ?_))
      refine bd hS ?_
      simp only
      refine bd (any_spec _ (by omega) hN) ?_
      simp only [ha, Bool.not_false, cond_true]
      (repeat (first | refine xt ?_ | refine xf ?_ | refine yt ?_ | refine yf ?_))
      rfl
    · unfold n_iR0
      simp only [e, hon, hil, hw, hit, j1, ej, ej2]
      (repeat (first | refine xt ?_ | refine xf ?_ | refine yt ?_ | refine yf ?_))
      refine bd (but_impl _ _ hbl hhl (by omega) hN) ?_
      simp only
      refine bd (any_impl _ (by omega) hN) ?_
      simp only [ha, Bool.not_false, cond_true]
      (repeat (first | refine xt ?_ | refine xf ?_ | refine yt ?_ | refine yf ?_))
      rfl
theorem ms_loop (hk : kd L i = 5) : MStep N b L o n i Fs on st now c s := by
  have hLl := hp.lt
  have e := w_suc i (by omega)
  have hk' : (gt L (i : Int)).1 = 5 := hk
  have hon := h.mr.lon
  have hfl := fs_len hp h
  have hsl := sF_len Fs
  have hil := iF_len (kd L) Fs
  have hct := line_ct (hp.li i hi) hk
  have hf1 : frs (kd L) (i + 1) = frs (kd L) i ++ [i] := by rw [frs, if_pos (.inr hk)]
  have hM := mr_loop h.mr hk hct.1 hf1
  have hlen : Fs.length + 1 ≤ 4 := by
    have h1 := congrArg List.length hM.fst
    have h2 := hp.dp (i + 1) hi
    rw [← h1] at h2
    simpa using h2
  have hsf : sF Fs ++ (((i : Int), (on, (1 : Int))) :: []) = sF (Fs ++ [⟨i, on, [], List.replicate n false, 1⟩]) := by unfold sF; rw [List.map_append]; rfl
  have hif : iF (kd L) Fs ++ ((true, (on, (([] : List Bool), (List.replicate n false, (1 : Int))))) :: []) = iF (kd L) (Fs ++ [⟨i, on, [], List.replicate n false, 1⟩]) := by
    unfold iF
    rw [List.map_append]
    have : decide (kd L i = 5) = true := decide_eq_true hk
    simp only [List.map_cons, List.map_nil, this]; rfl
  have hms : mS (kd L) (ct L) (Fs ++ [⟨i, on, [], List.replicate n false, 1⟩]) = mS (kd L) (ct L) Fs ++ [(i, (ct L i).toNat)] := by
    rw [mS_app, mS_loop (f := ⟨i, on, [], List.replicate n false, 1⟩) hk, mS_nil]
    have : ct L i - ((1 : Nat) : Int) + 1 = ct L i := by omega
    simp only [this]
  have hml := mS_len (kd L) (ct L) Fs
  have hhd : ∀ f ∈ Fs ++ [⟨i, on, [], List.replicate n false, 1⟩], kd L f.p = 2 → f.hd.length = n := by
    intro f hm h2
    rcases List.mem_append.1 hm with hm | hm
    · exact h.hd f hm h2
    · rw [List.mem_singleton.1 hm] at h2; simp only at h2; omega
  refine ⟨i + 1, _, on, st, now, c, s, ⟨hi, hM, h.ln, hhd⟩, by rw [hms]; exact mes_push hLl _ _ _ _ (by omega) (by omega), by omega, by omega, fun rec => ?_, fun rec => ?_⟩
  · unfold n_sM1
    simp only [e, hon, hsl, hsf]
    (repeat (first | refine xt ?_ | refine xf ?_ | refine yt ?_ | refine yf ?_))
    rfl
  · unfold n_iR0
    simp only [e, hon, hil, Int.toNat_natCast]
    (repeat (first | refine xt ?_ | refine xf ?_ | refine yt ?_ | refine yf ?_))
    refine bd (clone_b on hon hn1 (by omega)) ?_
    simp only
    (repeat (first | refine xt ?_ | refine xf ?_ | refine yt ?_ | refine yf ?_))
    rw [hif]
theorem ms_stop (hk : kd L i = 6) : MStep N b L o n i Fs on st now c s := by
  have hLl := hp.lt
  have e := w_suc i (by omega)
  have hk' : (gt L (i : Int)).1 = 6 := hk
  have hon := h.mr.lon
  have hol := hp.len
  have hfl := fs_len hp h
  obtain ⟨T, ha7, hc7, hT⟩ := lane_test (N := N) hp hb h hi (.inr hk)
  obtain ⟨j, a, ys, j1, j2, j3, j4, j5, j6, j7, j8, j9, j10⟩ := (hp.pa i hi).k6 hk
  have j1 : gt o (i : Int) = (j : Int) := by rw [gtn]; exact j1
  have j7 : gt o (j : Int) = (a : Int) := by rw [gtn]; exact j7
  have hfr := h.mr.fst
  rw [j9, List.append_assoc] at hfr
  obtain ⟨G, H', rfl, g1, g2⟩ := List.map_eq_append_iff.1 hfr
  obtain ⟨f, H, rfl, f2, g3⟩ := List.map_eq_cons_iff.1 (show H'.map Fm.p = a :: ys from g2)
  subst f2
  have hH : ∀ g ∈ H, kd L g.p ≠ 5 := by
    intro g hg
    have := j10 g.p (by rw [← g3]; exact List.mem_map_of_mem hg)
    omega
  have hM := mr_stop h.mr hk j5 hH T
  have hmsE : mS (kd L) (ct L) (G ++ ⟨f.p, f.bf, f.hd, tab n fun x => gb f.st x || (gb on x && T x), f.r⟩ :: H) = mS (kd L) (ct L) (G ++ f :: H) := by
    rw [mS_app, mS_app, mS_loop j5, mS_loop (f := ⟨f.p, f.bf, f.hd, tab n fun x => gb f.st x || (gb on x && T x), f.r⟩) j5]
  have hsf : sF (G ++ ⟨f.p, f.bf, f.hd, tab n fun x => gb f.st x || (gb on x && T x), f.r⟩ :: H) = sF (G ++ f :: H) := by unfold sF; simp
  have hhd : ∀ g ∈ G ++ ⟨f.p, f.bf, f.hd, tab n fun x => gb f.st x || (gb on x && T x), f.r⟩ :: H, kd L g.p = 2 → g.hd.length = n := by
    intro g hm h2
    rcases List.mem_append.1 hm with hm | hm
    · exact h.hd g (by simp [hm]) h2
    · rcases List.mem_cons.1 hm with rfl | hm
      · simp only at h2; omega
      · exact h.hd g (by simp [hm]) h2
  have hS := spec_stop (N := N) (kind := (gt L (i : Int)).1) (d := (gt L (i : Int)).2.1) (i := i) h.ln hon hn hN ha7 hc7 (fun x hx => (hT x hx).1) (o := o) (t := j) (p := f.p) (by omega) (by omega) j1 (by omega) j7 (by omega) h.mr.lst
  refine ⟨i + 1, _, _, _, now, c, s, ⟨hi, hM, h.ln, hhd⟩, by rw [hmsE]; exact mes_go _ _ _ _ (by omega) hi, by omega, by omega, fun rec => ?_, fun rec => ?_⟩
  · unfold n_sM1
    simp only [e]
    (repeat (first | refine xt ?_ | refine xf ?_ | refine yt ?_ | refine yf ?_))
    refine bd hS ?_
    rw [hsf]
  · have hfl2 : (iF (kd L) (G ++ f :: H)).length = G.length + H.length + 1 := by rw [iF_len]; simp; omega
    have hwl := w_pred (G.length + H.length) (by rw [List.length_append, List.length_cons] at hfl; omega)
    have hLk := impl_find_9 (N := N) (on := on) (now := now) (o := o) (b := b) (L := L) (cnt := c) (sum := s) (G := G) (H := H) (f := f) hN j5 hH (by rw [List.length_append, List.length_cons] at hfl; omega)
    have hI := impl_held_11 (N := N) (L := L) (o := o) (fr := iF (kd L) (G ++ f :: H)) (cnt := c) (sum := s) (kind := (gt L (i : Int)).1) (d := (gt L (i : Int)).2.1) h.ln hon hn hN ha7 hc7 (fun x hx => (hT x hx).2)
    have htl := tab_len n fun x => gb on x && T x
    have hmk := impl_mark (N := N) (G := G) (H := H) hn hN j5 (h.mr.ls f (by simp) j5).1 htl
    have e1 : (tab n fun x => gb f.st x || gb (tab n fun x => gb on x && T x) x) = tab n fun x => gb f.st x || (gb on x && T x) := tab_congr fun x hx => by
      have : gb (tab n fun x => gb on x && T x) x = (gb on x && T x) := tab_at _ hx
      rw [this]
    have e2 : (tab n fun x => gb on x && !gb (tab n fun x => gb on x && T x) x) = tab n fun x => gb on x && !(gb on x && T x) := tab_congr fun x hx => by
      have : gb (tab n fun x => gb on x && T x) x = (gb on x && T x) := tab_at _ hx
      rw [this]
    rw [e1] at hmk
    unfold n_iR0
    simp only [e, hon, hfl2, hwl, Int.toNat_natCast]
    (repeat (first | refine xt ?_ | refine xf ?_ | refine yt ?_ | refine yf ?_))
    refine bd hLk ?_
    simp only [Sum.isLeft, Sum.getLeft?, cond_true, Option.bind_some]
    (repeat (first | refine xt ?_ | refine xf ?_ | refine yt ?_ | refine yf ?_))
    refine bd hI ?_
    simp only [htl]
    refine bd hmk ?_
    simp only
    refine bd (but_impl _ _ hon htl (by omega) hN) ?_
    rw [e2]
theorem ms_end (hk : kd L i = 4) : MStep N b L o n i Fs on st now c s := by
  have hLl := hp.lt
  have e := w_suc i (by omega)
  have hk' : (gt L (i : Int)).1 = 4 := hk
  have hon := h.mr.lon
  have hol := hp.len
  have hfl := fs_len hp h
  obtain ⟨a, j1, j2, j3, j4⟩ := (hp.pa i hi).k4 hk
  have j1 : gt o (i : Int) = (a : Int) := by rw [gtn]; exact j1
  rcases List.eq_nil_or_concat Fs with rfl | ⟨G, f, rfl⟩
  · have := h.mr.fst
    rw [j4] at this
    simp at this
  rw [List.concat_eq_append] at h hfl ⊢
  have hf := h.mr.fst
  rw [j4, List.map_append] at hf
  obtain ⟨f1, f2⟩ := List.append_inj' hf rfl
  have f2 : f.p = a := by simpa using f2
  subst f2
  rw [List.length_append] at hfl
  simp only [List.length_cons, List.length_nil] at hfl
  have hsl : (sF (G ++ [f])).length = G.length + 1 := by rw [sF_len]; simp
  have hil : (iF (kd L) (G ++ [f])).length = G.length + 1 := by rw [iF_len]; simp
  have hw := w_pred G.length (by omega)
  have hst := sF_top G f
  have hit := iF_top (kd L) G f
  have hbl := h.mr.lb f (by simp)
  have hlst := h.mr.lst
  have hf1 : frs (kd L) (i + 1) = G.map Fm.p := by rw [frs, if_neg (by omega), if_pos hk, j4, List.dropLast_concat, f1]
  have htk : (sF (G ++ [f])).take G.length = sF G := by unfold sF; rw [List.map_append, List.take_left' (by simp)]
  have hitk : (iF (kd L) (G ++ [f])).take G.length = iF (kd L) G := by unfold iF; rw [List.map_append, List.take_left' (by simp)]
  have hx0 : (gt (sF (G ++ [f])) (G.length : Int)).2.1 = f.bf := by rw [hst]
  have hml := mS_len (kd L) (ct L) G
  have hhdG : ∀ g ∈ G, kd L g.p = 2 → g.hd.length = n := fun g hg => h.hd g (by simp [hg])
  have hb1 : gb f.bf = gb f.bf := rfl
  have hout : ∀ (g : Nat → Bool) x, gb (tab n fun x => gb f.bf x && g x) x = true ↔ gb f.bf x = true ∧ g x = true := by
    intro g x
    rw [gb_tab, Bool.and_eq_true]
    exact ⟨fun q => q.2, fun q => ⟨gb_lt hbl q.1, q⟩⟩
  rcases j3 with j3 | j3
  ·
    have h5 : ¬ kd L f.p = 5 := by omega
    have hk2 : (gt L (f.p : Int)).1 = 2 := j3
    have hS := spec_back_17 (N := N) (p := (gt (sF (G ++ [f])) (G.length : Int)).1) (r := (gt (sF (G ++ [f])) (G.length : Int)).2.2) hon hn hN hx0 hbl hlst
    have hM : MR (kd L) (ct L) n (i + 1) G (tab n fun x => gb f.bf x && decide (gi st x = 0)) st := mr_pop h.mr (Nat.lt_succ_self i) hf1 (fun x => by rw [if_neg (fun q => h5 q.1)]) hlst (fun x => by rw [hout, decide_eq_true_eq]) (tab_len _ _)
    have hms : mS (kd L) (ct L) (G ++ [f]) = mS (kd L) (ct L) G := by rw [mS_app, mS_if h5, mS_nil, List.append_nil]
    refine ⟨i + 1, G, _, st, now, c, s, ⟨hi, hM, h.ln, hhdG⟩, by rw [hms]; exact mes_go _ _ _ _ (by omega) hi, by omega, by omega, fun rec => ?_, fun rec => ?_⟩
    · unfold n_sM1
      simp only [e, hsl, hw]
      (repeat (first | refine xt ?_ | refine xf ?_ | refine yt ?_ | refine yf ?_))
      simp only [hst]
      (repeat (first | refine xt ?_ | refine xf ?_ | refine yt ?_ | refine yf ?_))
      rw [hst] at hS
      refine bd hS ?_
      simp only [Int.toNat_natCast, htk]
      (repeat (first | refine xt ?_ | refine xf ?_ | refine yt ?_ | refine yf ?_))
      rfl
    · have hgl : (G.length : Int) - 1 = (G.length : Int) - 1 := rfl
      have hw2 : IntKind.wrap .i64 ((G.length : Int) - 1) = (G.length : Int) - 1 := wr_id (by omega) (by omega)
      unfold n_iR0
      simp only [e, hil, hw, hit, decide_eq_false h5, Bool.not_false, cond_true]
      (repeat (first | refine xt ?_ | refine xf ?_ | refine yt ?_ | refine yf ?_))
      refine bd (clone_b _ hbl hn1 (by omega)) ?_
      simp only [hw2]
      (repeat (first | refine xt ?_ | refine xf ?_ | refine yt ?_ | refine yf ?_))
      rcases inner_loop (kd L) G with ⟨A, e', B', rfl, q5, qB⟩ | qn
      · have hLk := impl_below_12_found (N := N) (f := f) (bl := f.bf) (now := now) (o := o) (b := b) (L := L) (cnt := c) (sum := s) (A := A) (B := B') (e := e') hN q5 qB (by omega)
        refine bd hLk ?_
        have hx := iF_get (k := kd L) (Fs := (A ++ e' :: B') ++ [f]) (x := A.length) (g := e') (by simp)
        have hse := (h.mr.ls e' (by simp) q5).1
        simp only [Sum.isLeft, Sum.getLeft?, cond_true, Option.bind_some, hx]
        refine bd (but_impl _ _ hbl hse (by omega) hN) ?_
        have : (tab n fun x => gb f.bf x && !gb e'.st x) = tab n fun x => gb f.bf x && decide (gi st x = 0) := by
          refine tab_congr fun x hx => ?_
          cases hbx : gb f.bf x with
          | false => rfl
          | true =>
            have hm := h.mr
            rw [List.append_assoc, List.cons_append] at hm
            have := hm.outer q5 j3 qB hbx
            cases hs' : gb e'.st x with
            | false => rw [decide_eq_true (this.2 hs')]; rfl
            | true => rw [decide_eq_false (fun q => by rw [this.1 q] at hs'; cases hs')]; rfl
        simp only [this, Int.toNat_natCast, hitk]
      · have hLk := impl_below_12_none (N := N) (f := f) (bl := f.bf) (now := now) (o := o) (b := b) (L := L) (cnt := c) (sum := s) (G := G) hN qn (by omega)
        refine bd hLk ?_
        simp only [Sum.isLeft, Sum.getRight?, cond_false, Option.bind_some, Int.toNat_natCast, hitk]
        have : (tab n fun x => gb f.bf x && decide (gi st x = 0)) = f.bf := by
          refine Eq.trans (tab_congr (g := fun x => f.bf.getD x false) fun x hx => ?_) (tab_self false hbl)
          show (gb f.bf x && _) = gb f.bf x
          rw [h.mr.none (fun g hg => by
            rcases List.mem_append.1 hg with hg | hg
            · exact qn g hg
            · rw [List.mem_singleton.1 hg]; omega) x]
          simp
        rw [this]
  · have hk5 : (gt L (f.p : Int)).1 = 5 := j3
    obtain ⟨l1, l2, l3⟩ := h.mr.ls f (by simp) j3
    have hct := line_ct (hp.li f.p (by omega)) j3
    have hct' : (gt L (f.p : Int)).2.2.2.2 = ct L f.p := rfl
    have e3 := w_suc f.p (by omega)
    have e4 : IntKind.wrap .i64 ((f.r : Int) + 1) = ((f.r + 1 : Nat) : Int) := w_suc f.r (by omega)
    have hS := spec_again (N := N) (p := (f.p : Int)) (r := (f.r : Int)) hn hN hx0 hbl hlst
    have hmf : mS (kd L) (ct L) (G ++ [f]) = mS (kd L) (ct L) G ++ [(f.p, (ct L f.p - f.r + 1).toNat)] := by rw [mS_app, mS_loop j3, mS_nil]
    have hcl := spec_clear (N := N) (fr := sF (G ++ [f])) (p := f.p) (q := (G.length : Int)) (r := (f.r : Int)) hn hN (by omega) hlst
    have hgi : ∀ x, gi (tab n fun x => if gi st x = (f.p : Int) + 1 then 0 else gi st x) x = if gi st x = (f.p : Int) + 1 then 0 else gi st x := by
      intro x
      by_cases hx : x < n
      · rw [gi_tab hx]
      · rw [gi_out (by omega)]
        have : gi st x = 0 := by
          unfold gi; rw [List.getD_eq_getElem?_getD, List.getElem?_eq_none (by omega)]; rfl
        rw [this, if_neg (by omega)]
    have hbk := spec_back_21 (N := N) (fr := sF (G ++ [f])) (p := (f.p : Int)) (q := (G.length : Int)) (r := (f.r : Int)) hon hn hN hx0 hbl (tab_len n fun x => if gi st x = (f.p : Int) + 1 then 0 else gi st x)
    have hbe : (tab n fun x => gb f.bf x && decide (gi (tab n fun x => if gi st x = (f.p : Int) + 1 then 0 else gi st x) x = 0)) = f.bf := by
      refine Eq.trans (tab_congr (g := fun x => f.bf.getD x false) fun x hx => ?_) (tab_self false hbl)
      show (gb f.bf x && _) = gb f.bf x
      cases hbx : gb f.bf x with
      | false => rfl
      | true =>
        rw [hgi]
        rcases h.mr.own j3 hbx with q | q
        · rw [q, if_neg (by omega)]; rfl
        · rw [q, if_pos rfl]; rfl
    rw [hbe] at hbk
    have hM : MR (kd L) (ct L) n (i + 1) G f.bf (tab n fun x => if gi st x = (f.p : Int) + 1 then 0 else gi st x) := mr_pop h.mr (Nat.lt_succ_self i) hf1 (fun x => by
        rw [hgi]
        by_cases q : gi st x = (f.p : Int) + 1
        · rw [if_pos q, if_pos ⟨j3, q⟩]
        · rw [if_neg q, if_neg (fun t => q t.2)]) (tab_len _ _) (fun x => by
        refine ⟨fun q => ⟨q, ?_⟩, fun q => q.1⟩
        rw [hgi]
        rcases h.mr.own j3 q with t | t
        · rw [t, if_neg (by omega)]
        · rw [t, if_pos rfl]) hbl
    have hpop : mes L.length (mS (kd L) (ct L) G) (i + 1) 4 < mes L.length (mS (kd L) (ct L) (G ++ [f])) i 4 := by
      rw [hmf]; exact mes_pop _ _ _ _ _ _ (by omega) (by omega) (by omega)
    have mr2 : tab n (fun x => gb f.bf x && !gb f.st x) = tab n fun x => gb f.bf x && decide (gi st x = 0) := by
      refine tab_congr fun x hx => ?_
      cases hbx : gb f.bf x with
      | false => rfl
      | true =>
        have hsp := h.mr.sp f (by simp) j3 x
        cases hsx : gb f.st x with
        | true => rw [hsp.1 hsx, decide_eq_false (by omega : ¬ ((f.p : Int) + 1 = 0))]; rfl
        | false =>
          rcases h.mr.own j3 hbx with t | t
          · rw [t]; rfl
          · rw [hsp.2 t] at hsx; cases hsx
    have htl := tab_len n fun x => gb f.bf x && decide (gi st x = 0)
    have hpopS : ∀ rec : Int × Int × Int × (List (Int × List (Bool) × Int)) × List (List (Int)) × List (Bool) × List (Int) × Unit → Option ((Int × Int × List (List (Int)) × List (Bool) × List (Int) × Unit)), ((itN (n_sM20 N ((n : Int), (sF (G ++ [f]), ((f.p : Int), ((G.length : Int), ((f.r : Int), ())))))) N ((0 : Int), (st, ()))).bind fun r182 =>
        (itN (n_sM21 N ((n : Int), (sF (G ++ [f]), ((f.p : Int), ((G.length : Int), ((f.r : Int), (r182.1, ()))))))) N ((0 : Int), (on, ()))).bind fun r183 =>
          bif (decide ((0 : Int) ≤ (G.length : Int))) then bif (decide ((G.length : Int) ≤ ((G.length + 1 : Nat) : Int))) then rec (c, (s, (((i + 1 : Nat) : Int), (((sF (G ++ [f])).take (G.length : Int).toNat), (now, (r183.1, (r182.1, ()))))))) else none else none) = rec (c, (s, (((i + 1 : Nat) : Int), (sF G, (now, (f.bf, (tab n (fun x => if gi st x = (f.p : Int) + 1 then 0 else gi st x), ()))))))) := by
      intro rec
      refine bd hcl ?_
      simp only
      refine bd hbk ?_
      simp only [Int.toNat_natCast, htk]
      (repeat (first | refine xt ?_ | refine xf ?_ | refine yt ?_ | refine yf ?_))
      rfl
    cases ha : anyB (tab n fun x => gb f.bf x && decide (gi st x = 0)) with
    | false =>
      refine ⟨i + 1, G, f.bf, _, now, c, s, ⟨hi, hM, h.ln, hhdG⟩, hpop, by omega, by omega, fun rec => ?_, fun rec => ?_⟩
      · unfold n_sM1
        simp only [e, hsl, hw, hst]
        (repeat (first | refine xt ?_ | refine xf ?_ | refine yt ?_ | refine yf ?_))
        rw [ha] at hS
        refine bd hS ?_
        simp only [cond_false]
        exact hpopS rec
      · unfold n_iR0
        simp only [e, hil, hw, hit, decide_eq_true j3, Bool.not_true, cond_false, j1]
        (repeat (first | refine xt ?_ | refine xf ?_ | refine yt ?_ | refine yf ?_))
        refine bd (but_impl _ _ hbl l1 (by omega) hN) ?_
        rw [mr2]
        simp only [hct']
        by_cases hr : (f.r : Int) < ct L f.p
        · (repeat (first | refine xt ?_ | refine xf ?_ | refine yt ?_ | refine yf ?_))
          refine bd (any_impl _ (by omega) hN) ?_
          simp only [ha, cond_false]
          refine bd (clone_b _ hbl hn1 (by omega)) ?_
          simp only [Int.toNat_natCast, hitk]
          (repeat (first | refine xt ?_ | refine xf ?_ | refine yt ?_ | refine yf ?_))
          rfl
        · (repeat (first | refine xt ?_ | refine xf ?_ | refine yt ?_ | refine yf ?_))
          refine bd (clone_b _ hbl hn1 (by omega)) ?_
          simp only [Int.toNat_natCast, hitk]
          (repeat (first | refine xt ?_ | refine xf ?_ | refine yt ?_ | refine yf ?_))
          rfl
    | true =>
      rw [ha] at hS
      by_cases hr : (f.r : Int) < ct L f.p
      · obtain ⟨m1, _⟩ := mr_back h.mr j3 j4 (by rw [frs, if_pos (.inr j3)]) (by omega)
        have hset : (sF (G ++ [f])).set G.length ((f.p : Int), (f.bf, ((f.r + 1 : Nat) : Int))) = sF (G ++ [⟨f.p, f.bf, f.hd, f.st, f.r + 1⟩]) := by unfold sF; rw [List.map_append, List.map_append, List.set_append_right _ _ (by simp)]; simp
        have hst2 := sF_top G ⟨f.p, f.bf, f.hd, f.st, f.r + 1⟩
        have hB := spec_back_19 (N := N) (fr := sF (G ++ [⟨f.p, f.bf, f.hd, f.st, f.r + 1⟩])) (p := (f.p : Int)) (q := (G.length : Int)) (r := (f.r : Int)) hon hn hN (by rw [hst2]) hbl hlst
        have hmb : mS (kd L) (ct L) (G ++ [⟨f.p, f.bf, f.hd, f.st, f.r + 1⟩]) = mS (kd L) (ct L) G ++ [(f.p, (ct L f.p - f.r).toNat)] := by
          rw [mS_app, mS_loop (f := ⟨f.p, f.bf, f.hd, f.st, f.r + 1⟩) j3, mS_nil]
          have : ct L f.p - ((f.r + 1 : Nat) : Int) + 1 = ct L f.p - f.r := by omega
          simp only [this]
        have hmes : mes L.length (mS (kd L) (ct L) (G ++ [⟨f.p, f.bf, f.hd, f.st, f.r + 1⟩])) (f.p + 1) 4 < mes L.length (mS (kd L) (ct L) (G ++ [f])) i 4 := by
          rw [hmb, hmf]
          have : (ct L f.p - f.r + 1).toNat = (ct L f.p - f.r).toNat + 1 := by omega
          rw [this]
          exact mes_back hLl _ _ _ _ _ _ (by omega)
        have hhdB : ∀ g ∈ G ++ [⟨f.p, f.bf, f.hd, f.st, f.r + 1⟩], kd L g.p = 2 → g.hd.length = n := by
          intro g hm h2
          rcases List.mem_append.1 hm with hm | hm
          · exact hhdG g hm h2
          · rw [List.mem_singleton.1 hm] at h2; simp only at h2; omega
        refine ⟨f.p + 1, _, _, st, now, c, s, ⟨by omega, m1, h.ln, hhdB⟩, hmes, by omega, by omega, fun rec => ?_, fun rec => ?_⟩
        · unfold n_sM1
          simp only [e, hsl, hw, hst]
          (repeat (first | refine xt ?_ | refine xf ?_ | refine yt ?_ | refine yf ?_))
          refine bd hS ?_
          simp only [cond_true, hct', e3, e4, Int.toNat_natCast, hset]
          (repeat (first | refine xt ?_ | refine xf ?_ | refine yt ?_ | refine yf ?_))
          refine bd hB ?_
          rfl
        · have hseti : (iF (kd L) (G ++ [f])).set G.length (decide (kd L f.p = 5), (f.bf, (f.hd, (f.st, ((f.r + 1 : Nat) : Int))))) = iF (kd L) (G ++ [⟨f.p, f.bf, f.hd, f.st, f.r + 1⟩]) := by unfold iF; rw [List.map_append, List.map_append, List.set_append_right _ _ (by simp)]; simp
          rw [decide_eq_true j3] at hseti
          unfold n_iR0
          simp only [e, hil, hw, hit, decide_eq_true j3, Bool.not_true, cond_false, j1]
          (repeat (first | refine xt ?_ | refine xf ?_ | refine yt ?_ | refine yf ?_))
          refine bd (but_impl _ _ hbl l1 (by omega) hN) ?_
          rw [mr2]
          simp only [hct']
          (repeat (first | refine xt ?_ | refine xf ?_ | refine yt ?_ | refine yf ?_))
          refine bd (any_impl _ (by omega) hN) ?_
          simp only [ha, cond_true, e3, e4, Int.toNat_natCast, hseti]
          (repeat (first | refine xt ?_ | refine xf ?_ | refine yt ?_ | refine yf ?_))
          try rfl
      · refine ⟨i + 1, G, f.bf, _, now, c, s, ⟨hi, hM, h.ln, hhdG⟩, hpop, by omega, by omega, fun rec => ?_, fun rec => ?_⟩
        · unfold n_sM1
          simp only [e, hsl, hw, hst]
          (repeat (first | refine xt ?_ | refine xf ?_ | refine yt ?_ | refine yf ?_))
          refine bd hS ?_
          simp only [cond_true, hct']
          (repeat (first | refine xt ?_ | refine xf ?_ | refine yt ?_ | refine yf ?_))
          exact hpopS rec
        · unfold n_iR0
          simp only [e, hil, hw, hit, decide_eq_true j3, Bool.not_true, cond_false, j1]
          (repeat (first | refine xt ?_ | refine xf ?_ | refine yt ?_ | refine yf ?_))
          refine bd (but_impl _ _ hbl l1 (by omega) hN) ?_
          rw [mr2]
          simp only [hct']
          (repeat (first | refine xt ?_ | refine xf ?_ | refine yt ?_ | refine yf ?_))
          refine bd (clone_b _ hbl hn1 (by omega)) ?_
          simp only [Int.toNat_natCast, hitk]
          (repeat (first | refine xt ?_ | refine xf ?_ | refine yt ?_ | refine yf ?_))
          rfl
theorem ms_all : MStep N b L o n i Fs on st now c s := by
  have hk := line_kd (hp.li i hi)
  by_cases h0 : kd L i = 0 ∨ kd L i = 1
  · exact ms_set hp hb h hi hn hn1 hN hc hs h0
  by_cases h2 : kd L i = 2
  · exact ms_if hp hb h hi hn hn1 hN hc hs h2
  by_cases h3 : kd L i = 3
  · exact ms_else hp hb h hi hn hn1 hN hc hs h3
  by_cases h4 : kd L i = 4
  · exact ms_end hp hb h hi hn hn1 hN hc hs h4
  by_cases h5 : kd L i = 5
  · exact ms_loop hp hb h hi hn hn1 hN hc hs h5
  exact ms_stop hp hb h hi hn hn1 hN hc hs (by omega)
end
end Go.Proofs.Ytheemkehedmlfaa.P
set_option linter.unusedVariables false
set_option linter.unusedSimpArgs false
set_option linter.unusedSectionVars false
set_option maxRecDepth 4000
namespace Go.Proofs.Ytheemkehedmlfaa.P
open Go Go.Proofs.Ytheemkehedmlfaa.E
theorem masked_end {N : Nat} {b : Int} {L : List LT} {o : List Int} {n i : Nat} (hi : ¬ i < L.length) (Fs : List Fm) (on : List Bool) (st : List Int) (now : List (List Int)) (c s : Int) :
    (∀ rec, n_sM1 N (b, (L, ((n : Int), (o, ())))) rec (c, (s, ((i : Int), (sF Fs, (now, (on, (st, ()))))))) = some (c, (s, (now, (on, (st, ())))))) ∧
    ∀ rec, n_iR0 N (L, (o, ())) rec ((i : Int), (on, (iF (kd L) Fs, (b, (L, (c, (s, (now, ())))))))) = some (on, (iF (kd L) Fs, (b, (L, (c, (s, (now, ()))))))) := by
  refine ⟨fun rec => ?_, fun rec => ?_⟩
  · unfold n_sM1
    simp only
    (repeat (first | refine xt ?_ | refine xf ?_ | refine yt ?_ | refine yf ?_))
    rfl
  · unfold n_iR0
    simp only
    (repeat (first | refine xt ?_ | refine xf ?_ | refine yt ?_ | refine yf ?_))
    rfl
theorem masked_go {N : Nat} {b : Int} {L : List LT} {o : List Int} {n : Nat} (hp : PairsOk b L o) (hb : bitsV b = true) (hn : n ≤ 16) (hn1 : 1 ≤ n) (hN : 1000 < N) : ∀ (m M i : Nat) (Fs : List Fm) (on : List Bool) (st : List Int) (now : List (List Int)) (c s : Int), MRel b L n i Fs on st now → mes L.length (mS (kd L) (ct L) Fs) i 4 ≤ m → m < M → 0 ≤ c → c + m ≤ 100000000000000000 → 0 ≤ s → s + 16 * m ≤ 100000000000000000 →
    ∃ Fs' on' st' now' c' s', itN (n_sM1 N (b, (L, ((n : Int), (o, ()))))) M (c, (s, ((i : Int), (sF Fs, (now, (on, (st, ()))))))) = some (c', (s', (now', (on', (st', ()))))) ∧
      itN (n_iR0 N (L, (o, ()))) M ((i : Int), (on, (iF (kd L) Fs, (b, (L, (c, (s, (now, ())))))))) = some (on', (iF (kd L) Fs', (b, (L, (c', (s', (now', ()))))))) ∧ LaneOk n b now' ∧ 0 ≤ c' ∧ 0 ≤ s' ∧ c' ≤ 100000000000000000 ∧ s' ≤ 100000000000000000 := by
  intro m
  induction m with
  | zero =>
    intro M i Fs on st now c s h hm hM hc hc1 hs hs1
    obtain ⟨M, rfl⟩ : ∃ M', M = M' + 1 := ⟨M - 1, by omega⟩
    have hlt : ¬ i < L.length := by
      intro hi
      obtain ⟨i', Fs', on', st', now', c', s', g1, g2, _⟩ := ms_all (N := N) (c := c) (s := s) hp hb h hi hn hn1 hN (by omega) (by omega)
      omega
    obtain ⟨q1, q2⟩ := masked_end (N := N) (b := b) (o := o) (n := n) hlt Fs on st now c s
    exact ⟨Fs, on, st, now, c, s, q1 _, q2 _, h.ln, by omega, by omega, by omega, by omega⟩
  | succ m ih =>
    intro M i Fs on st now c s h hm hM hc hc1 hs hs1
    obtain ⟨M, rfl⟩ : ∃ M', M = M' + 1 := ⟨M - 1, by omega⟩
    by_cases hi : i < L.length
    · obtain ⟨i', Fs', on', st', now', c', s', g1, g2, g3, g4, g5, g6⟩ := ms_all (N := N) (c := c) (s := s) hp hb h hi hn hn1 hN (by omega) (by omega)
      have := ih M i' Fs' on' st' now' c' s' g1 (by omega) (by omega) (by omega) (by omega) (by omega) (by omega)
      rw [← g5 (itN (n_sM1 N (b, (L, ((n : Int), (o, ()))))) M), ← g6 (itN (n_iR0 N (L, (o, ()))) M)] at this
      exact this
    · obtain ⟨q1, q2⟩ := masked_end (N := N) (b := b) (o := o) (n := n) hi Fs on st now c s
      exact ⟨Fs, on, st, now, c, s, q1 _, q2 _, h.ln, by omega, by omega, by omega, by omega⟩
theorem mr_start (k ct : Nat → Int) (n : Nat) : MR k ct n 0 [] (List.replicate n true) (List.replicate n 0) := by
  have h0 : ∀ x, gi (List.replicate n 0) x = 0 := by
    intro x
    unfold gi
    rw [List.getD_eq_getElem?_getD, List.getElem?_replicate]
    split <;> rfl
  refine ⟨rfl, by simp, by simp, by simp, by simp, by simp, fun x _ => h0 x, by simp, ?_, fun x hx => absurd (h0 x) hx, ?_, by simp, ?_⟩
  · intro G f H e; simp at e
  · intro G f H e; simp at e
  · intro G f H e; simp at e
theorem masked_all {N : Nat} {b : Int} {L : List LT} {o : List Int} {n : Nat} (hp : PairsOk b L o) (hb : bitsV b = true) (hn : n ≤ 16) (hn1 : 1 ≤ n) (hN : 1142440000001 ≤ N) {now : List (List Int)} (hl : LaneOk n b now) :
    ∃ Fs' on' st' now' c' s', itN (n_sM1 N (b, (L, ((n : Int), (o, ()))))) N ((0 : Int), ((0 : Int), ((0 : Int), ([], (now, (List.replicate n true, (List.replicate n (0 : Int), ()))))))) = some (c', (s', (now', (on', (st', ()))))) ∧
      itN (n_iR0 N (L, (o, ()))) N ((0 : Int), (List.replicate n true, ([], (b, (L, ((0 : Int), ((0 : Int), (now, ())))))))) = some (on', (iF (kd L) Fs', (b, (L, (c', (s', (now', ()))))))) ∧ LaneOk n b now' ∧ 0 ≤ c' ∧ 0 ≤ s' ∧ c' ≤ 100000000000000000 ∧ s' ≤ 100000000000000000 := by
  have hm := mes_le (n := L.length) hp.lt [] 0 4 (by simp) (by simp)
  exact masked_go hp hb hn hn1 (by omega) _ N 0 [] (List.replicate n true) (List.replicate n 0) now 0 0 ⟨by omega, mr_start _ _ n, hl, by simp⟩ (Nat.le_refl _) (by
    have : 250 * 260 ^ 4 < 1142440000001 := by decide
    show mes L.length [] 0 4 < N
    omega) (by omega) (by
    have : 250 * 260 ^ 4 < 1142440000001 := by decide
    show (0 : Int) + (mes L.length [] 0 4 : Nat) ≤ _
    omega) (by omega) (by
    have : 250 * 260 ^ 4 < 1142440000001 := by decide
    show (0 : Int) + 16 * (mes L.length [] 0 4 : Nat) ≤ _
    omega)
end Go.Proofs.Ytheemkehedmlfaa.P
set_option linter.unusedVariables false
set_option linter.unusedSimpArgs false
set_option linter.unusedSectionVars false
set_option maxRecDepth 4000
namespace Go.Proofs.Ytheemkehedmlfaa.P
open Go Go.Proofs.Ytheemkehedmlfaa.E
theorem repeat_true {N : Nat} (hN : 8 ≤ N) {n : Nat} (h1 : 1 ≤ n) (hn : n ≤ 16) : F_slices_Repeat___bool_bool_ N ([true], ((n : Int), ())) = some (List.replicate n true, ()) := by
  obtain ⟨M, rfl⟩ : ∃ M, N = M + 8 := ⟨N - 8, by omega⟩
  have : n = 1 ∨ n = 2 ∨ n = 3 ∨ n = 4 ∨ n = 5 ∨ n = 6 ∨ n = 7 ∨ n = 8 ∨ n = 9 ∨ n = 10 ∨ n = 11 ∨ n = 12 ∨ n = 13 ∨ n = 14 ∨ n = 15 ∨ n = 16 := by omega
  rcases this with rfl | rfl | rfl | rfl | rfl | rfl | rfl | rfl | rfl | rfl | rfl | rfl | rfl | rfl | rfl | rfl <;> (show _ = _; kernel_rfl)
theorem tab_true (n : Nat) : tab n (fun _ => true) = List.replicate n true := by
  unfold tab
  rw [List.map_const', List.length_range]
theorem spec_start {N : Nat} (Vs : List (List Int)) (hV : ∀ V ∈ Vs, V.length = 8) (hn : Vs.length ≤ 16) (hN : 1000 < N) :
    itN (n_sM0 N (Vs, ((Vs.length : Int), ()))) N ((0 : Int), ([], (List.replicate Vs.length false, ()))) = some (Vs, (List.replicate Vs.length true, ())) := by
  obtain ⟨l, h1, h2⟩ := loop_ok (stp := n_sM0 N (Vs, ((Vs.length : Int), ()))) (n := Vs.length) (Ok := fun k (l : List (List Int) × List Bool) => l.1 = Vs.take k ∧ Upto false Vs.length (List.replicate Vs.length false) (fun _ => true) k l.2) (emb := fun k l => ((k : Int), (l.1, (l.2, ())))) (fin := fun l => (l.1, (l.2, ()))) (fun k l hk hl => by
      obtain ⟨a, d⟩ := l
      obtain ⟨q1, q2⟩ := hl
      simp only at q1 q2
      subst q1
      have e := w_suc k (by omega)
      have hll := q2.1
      have hlt : (Vs.take k).length = k := by rw [List.length_take]; omega
      have hm : (Vs.getD k []).length = 8 := by
        rw [List.getD_eq_getElem?_getD, List.getElem?_eq_getElem hk]
        exact hV _ (List.getElem_mem hk)
      refine ⟨(Vs.take k ++ [Vs.getD k []], d.set k true), ⟨?_, q2.set hk rfl⟩, fun rec => ?_⟩
      · simp only
        rw [List.getD_eq_getElem?_getD, List.getElem?_eq_getElem hk, Option.getD_some, List.take_append_getElem hk]
      · have ho : F_spec_l00Own N (Vs.getD k [], ()) = some (Vs.getD k [], ()) := by unfold F_spec_l00Own; simp only; (repeat (first | refine xt ?_ | refine xf ?_ | refine yt ?_ | refine yf ?_)); rfl
        unfold n_sM0
        simp only [e, gtl, hll, hlt, Int.toNat_natCast]
        (repeat (first | refine xt ?_ | refine xf ?_ | refine yt ?_ | refine yf ?_))
        refine bd ho ?_
        simp only
        (repeat (first | refine xt ?_ | refine xf ?_ | refine yt ?_ | refine yf ?_))
        rfl) (fun l rec hl => by
      unfold n_sM0
      simp only
      (repeat (first | refine xt ?_ | refine xf ?_ | refine yt ?_ | refine yf ?_))
      rfl) Vs.length 0 ([], List.replicate Vs.length false) N (by omega) (by omega) ⟨by simp, Upto.start (by simp)⟩
  rw [h1.1, h1.2.done, List.take_length, tab_true] at h2
  exact h2
theorem spec_masked {N : Nat} (hN : 1142440000001 ≤ N) {b : Int} {L : List LT} {o : List Int} {Vs : List (List Int)} (hV : ∀ V ∈ Vs, V.length = 8) (hn : Vs.length ≤ 16) (h1 : F_sP N (b, (L, ())) = some (o, (true, ()))) {c s : Int} {now : List (List Int)} {on : List Bool} {st : List Int}
    (h : itN (n_sM1 N (b, (L, ((Vs.length : Int), (o, ()))))) N ((0 : Int), ((0 : Int), ((0 : Int), ([], (Vs, (List.replicate Vs.length true, (List.replicate Vs.length (0 : Int), ()))))))) = some (c, (s, (now, (on, (st, ())))))) :
    F_spec_l08Masked N (b, (L, (Vs, ()))) = some (now, (c, (s, ()))) := by
  unfold F_spec_l08Masked
  simp only
  refine bd h1 ?_
  simp only [Int.toNat_natCast]
  (repeat (first | refine xt ?_ | refine xf ?_ | refine yt ?_ | refine yf ?_))
  refine bd (spec_start Vs hV hn (by omega)) ?_
  simp only
  (repeat (first | refine xt ?_ | refine xf ?_ | refine yt ?_ | refine yf ?_))
  exact bd h rfl
theorem lanes_start {b : Int} {Vs : List (List Int)} (h : ∀ V ∈ Vs, varsB b V = true) : LaneOk Vs.length b Vs := by
  have hm : ∀ x, x < Vs.length → Vs.getD x [] ∈ Vs := fun x hx => by
    rw [List.getD_eq_getElem?_getD, List.getElem?_eq_getElem hx]
    exact List.getElem_mem hx
  exact ⟨rfl, fun x hx => (varsB_ok (h _ (hm x hx))).1, fun x hx => (varsB_ok (h _ (hm x hx))).2⟩
end Go.Proofs.Ytheemkehedmlfaa.P
set_option linter.unusedVariables false
set_option linter.unusedSimpArgs false
set_option maxRecDepth 4000
namespace Go.Proofs.Ytheemkehedmlfaa.P
open Go Go.Proofs.Ytheemkehedmlfaa.E
theorem w1 (k : Int) (h0 : -1000000000000000000 ≤ k) (h1 : k ≤ 1000000000000000000) : IntKind.wrap .i64 (k + 1) = k + 1 := wr_id (by omega) (by omega)
theorem mark_line (N : Nat) (o : List LT) (i : Nat) (k : Int) (hi : i < o.length) (hl : o.length ≤ 1048576) (h0 : 0 ≤ k) (h1 : k ≤ 100000000000) : ∃ o' : List LT, o'.length = o.length ∧ ∀ rec, n_lR0 N () rec (k, ((i : Int), (o, ()))) = rec (k + 5, (((i + 1 : Nat) : Int), (o', ()))) := by
  have e : IntKind.wrap .i64 ((i : Int) + 1) = ((i + 1 : Nat) : Int) := by rw [w1 _ (by omega) (by omega)]; rfl
  have e1 := w1 k (by omega) (by omega)
  have e2 := w1 (k + 1) (by omega) (by omega)
  have e3 := w1 (k + 1 + 1) (by omega) (by omega)
  have e4 := w1 (k + 1 + 1 + 1) (by omega) (by omega)
  have e5 := w1 (k + 1 + 1 + 1 + 1) (by omega) (by omega)
  have e6 : k + 1 + 1 + 1 + 1 + 1 = k + 5 := by omega
  refine ⟨?_, ?_, fun rec => ?_⟩
  case refine_3 =>
    unfold n_lR0
    simp only [e, e1, e2, e3, e4, e5, List.length_set]
    (repeat (first | refine xt ?_ | refine xf ?_ | refine yt ?_ | refine yf ?_))
    rw [e6]
  case refine_2 => simp
theorem mark_lines (N : Nat) : ∀ (d i M : Nat) (o : List LT) (k : Int), i + d = o.length → d < M → o.length ≤ 1048576 → 0 ≤ k → k + 5 * (d : Int) ≤ 100000000000 → ∃ o', itN (n_lR0 N ()) M (k, ((i : Int), (o, ()))) = some (k + 5 * (d : Int), (o', ())) := by
  intro d
  induction d with
  | zero =>
    intro i M o k hi hM hl h0 h1
    obtain ⟨M, rfl⟩ : ∃ M', M = M' + 1 := ⟨M - 1, by omega⟩
    refine ⟨o, ?_⟩
    show n_lR0 _ _ _ _ = _
    unfold n_lR0
    simp only
    (repeat (first | refine xt ?_ | refine xf ?_ | refine yt ?_ | refine yf ?_))
    simp
  | succ d ih =>
    intro i M o k hi hM hl h0 h1
    obtain ⟨M, rfl⟩ : ∃ M', M = M' + 1 := ⟨M - 1, by omega⟩
    obtain ⟨o1, g1, g2⟩ := mark_line N o i k (by omega) hl h0 (by omega)
    obtain ⟨o', g3⟩ := ih (i + 1) M o1 (k + 5) (by omega) (by omega) (by omega) (by omega) (by omega)
    refine ⟨o', ?_⟩
    show n_lR0 _ _ (itN _ M) _ = _
    rw [g2, g3, show k + 5 + 5 * (d : Int) = k + 5 * ((d + 1 : Nat) : Int) by omega]
theorem held_ints (N : Nat) (k0 : Int) (a : List Int) (h0 : 0 ≤ k0) (h1 : k0 + (a.length : Int) ≤ 1000000000000000) (ha : ∀ j, j < a.length → a.getD j 0 = k0 + (j : Int)) : ∀ (d i M : Nat), i + d = a.length → d < M →
    itN (n_laws_heldInt64S_0 N (a, ())) M (k0 + (i : Int), ((i : Int), ())) = some (.inr (k0 + (a.length : Int), ())) := by
  intro d
  induction d with
  | zero =>
    intro i M hi hM
    obtain ⟨M, rfl⟩ : ∃ M', M = M' + 1 := ⟨M - 1, by omega⟩
    obtain rfl : i = a.length := by omega
    show n_laws_heldInt64S_0 _ _ _ _ = _
    unfold n_laws_heldInt64S_0
    simp only
    (repeat (first | refine xt ?_ | refine xf ?_ | refine yt ?_ | refine yf ?_))
    rfl
  | succ d ih =>
    intro i M hi hM
    obtain ⟨M, rfl⟩ : ∃ M', M = M' + 1 := ⟨M - 1, by omega⟩
    have e : IntKind.wrap .i64 ((i : Int) + 1) = ((i + 1 : Nat) : Int) := by rw [w1 _ (by omega) (by omega)]; rfl
    have e1 : IntKind.wrap .i64 (k0 + (i : Int) + 1) = k0 + ((i + 1 : Nat) : Int) := by rw [w1 _ (by omega) (by omega)]; omega
    have g : gt a (i : Int) = k0 + (i : Int) := by rw [gtn]; exact ha i (by omega)
    rw [← ih (i + 1) M (by omega) (by omega)]
    show n_laws_heldInt64S_0 _ _ (itN (n_laws_heldInt64S_0 N (a, ())) M) _ = _
    generalize itN (n_laws_heldInt64S_0 N (a, ())) M = rec
    unfold n_laws_heldInt64S_0
    simp only [e, e1, g]
    (repeat (first | refine xt ?_ | refine xf ?_ | refine yt ?_ | refine yf ?_))
    try rfl
def off (o : List (List Int)) : Nat → Nat
  | 0 => 0
  | x + 1 => off o x + (o.getD x []).length
theorem row_le {o : List (List Int)} (sm : Sm o) {i : Nat} (hi : i < o.length) : (o.getD i []).length ≤ 1048576 := by
  rw [List.getD_eq_getElem?_getD, List.getElem?_eq_getElem hi]
  exact sm.2 _ (List.getElem_mem hi)
theorem off_le {o : List (List Int)} (sm : Sm o) : ∀ i, i ≤ o.length → off o i ≤ i * 1048576
  | 0, _ => Nat.zero_le _
  | i + 1, h => by
    have h1 := off_le sm i (by omega)
    have h2 := row_le sm (i := i) (by omega)
    rw [off]; omega
theorem mark_row3 (N : Nat) (o : List (List Int)) (i : Nat) (k0 : Int) (hi : i < o.length) (hl : (o.getD i []).length ≤ 1048576) (hN : 9007199254740992 ≤ N) (h0 : 0 ≤ k0) (h1 : k0 ≤ 100000000000000) :
    ∃ r : List Int, itN (n_lR3 N ((i : Int), ())) N (k0, ((0 : Int), (o, ()))) = some (k0 + ((o.getD i []).length : Int), (o.set i r, ())) ∧ r.length = (o.getD i []).length ∧ ∀ j, j < (o.getD i []).length → r.getD j 0 = k0 + (j : Int) := by
  obtain ⟨r, h2, h3⟩ := loop_ok (stp := n_lR3 N ((i : Int), ())) (n := (o.getD i []).length) (Ok := fun j (r : List Int) => r.length = (o.getD i []).length ∧ ∀ x, x < j → r.getD x 0 = k0 + (x : Int)) (emb := fun j r => (k0 + (j : Int), ((j : Int), (o.set i r, ())))) (fin := fun r => (k0 + ((o.getD i []).length : Int), (o.set i r, ()))) (fun j r hj hr => by
      have e : IntKind.wrap .i64 ((j : Int) + 1) = ((j + 1 : Nat) : Int) := by rw [w1 _ (by omega) (by omega)]; rfl
      have e1 : IntKind.wrap .i64 (k0 + (j : Int) + 1) = k0 + ((j + 1 : Nat) : Int) := by rw [w1 _ (by omega) (by omega)]; omega
      have hg : gt (o.set i r) (i : Int) = r := by rw [gtl, getD_set' hi, if_pos rfl]
      have hrl := hr.1
      refine ⟨r.set j (k0 + (j : Int)), ⟨by rw [List.length_set]; exact hr.1, fun x hx => ?_⟩, fun rec => ?_⟩
      · rw [getD_set' (by omega)]
        split
        · rename_i q; rw [q]
        · exact hr.2 x (by omega)
      · unfold n_lR3
        simp only [e, e1, hg, hrl, Int.toNat_natCast, List.set_set]
        (repeat (first | refine xt ?_ | refine xf ?_ | refine yt ?_ | refine yf ?_))
        try rfl) (fun r rec hr => by
      have hg : gt (o.set i r) (i : Int) = r := by rw [gtl, getD_set' hi, if_pos rfl]
      have hrl := hr.1
      unfold n_lR3
      simp only [hg, hrl]
      (repeat (first | refine xt ?_ | refine xf ?_ | refine yt ?_ | refine yf ?_))
      rfl) (o.getD i []).length 0 (o.getD i []) N (by omega) (by omega) ⟨rfl, fun x hx => by omega⟩
  have hs : o.set i (o.getD i []) = o := by
    rw [List.getD_eq_getElem?_getD, List.getElem?_eq_getElem hi]
    exact List.set_getElem_self hi
  simp only [hs, Int.natCast_zero, Int.add_zero] at h3
  exact ⟨r, h3, h2⟩
theorem mark_rows1 (N : Nat) (o : List (List Int)) (k0 : Int) (sm : Sm o) (hN : 9007199254740992 ≤ N) (h0 : 0 ≤ k0) (h1 : k0 ≤ 100000000000) :
    ∃ o' : List (List Int), itN (n_lR1 N ()) N (k0, ((0 : Int), (o, ()))) = some (k0 + (off o o.length : Int), (o', ())) ∧ o'.length = o.length ∧ (∀ x, x < o.length → (o'.getD x []).length = (o.getD x []).length) ∧ ∀ x, x < o.length → ∀ j, j < (o.getD x []).length → (o'.getD x []).getD j 0 = k0 + (off o x : Int) + (j : Int) := by
  have ho := off_le sm
  have hsm1 := sm.1
  obtain ⟨o', h2, h3⟩ := loop_ok (stp := n_lR1 N ()) (n := o.length) (Ok := fun i (o' : List (List Int)) => o'.length = o.length ∧ (∀ x, x < o.length → (o'.getD x []).length = (o.getD x []).length) ∧ ∀ x, x < i → ∀ j, j < (o.getD x []).length → (o'.getD x []).getD j 0 = k0 + (off o x : Int) + (j : Int)) (emb := fun i o' => (k0 + (off o i : Int), ((i : Int), (o', ())))) (fin := fun o' => (k0 + (off o o.length : Int), (o', ()))) (fun i o' hi hr => by
      obtain ⟨q1, q2, q3⟩ := hr
      have e : IntKind.wrap .i64 ((i : Int) + 1) = ((i + 1 : Nat) : Int) := by rw [w1 _ (by omega) (by omega)]; rfl
      have hoi := ho i (by omega)
      have hil := row_le sm hi
      obtain ⟨r, g1, g2, g3⟩ := mark_row3 N o' i (k0 + (off o i : Int)) (by omega) (by rw [q2 i hi]; exact hil) hN (by omega) (by omega)
      rw [q2 i hi] at g1 g2 g3
      have e1 : k0 + (off o i : Int) + ((o.getD i []).length : Int) = k0 + (off o (i + 1) : Int) := by rw [off]; omega
      refine ⟨o'.set i r, ⟨by rw [List.length_set]; exact q1, fun x hx => ?_, fun x hx j hj => ?_⟩, fun rec => ?_⟩
      · rw [getD_set' (by omega)]
        split
        · rename_i q; rw [q]; exact g2
        · exact q2 x hx
      · rw [getD_set' (by omega)]
        split
        · rename_i q; subst q; exact g3 j hj
        · exact q3 x (by omega) j hj
      · unfold n_lR1
        simp only [e, q1]
        (repeat (first | refine xt ?_ | refine xf ?_ | refine yt ?_ | refine yf ?_))
        refine bd g1 ?_
        rw [e1]) (fun o' rec hr => by
      have q1 := hr.1
      unfold n_lR1
      simp only [q1]
      (repeat (first | refine xt ?_ | refine xf ?_ | refine yt ?_ | refine yf ?_))
      rfl) o.length 0 o N (by omega) (by omega) ⟨rfl, fun x hx => rfl, fun x hx => by omega⟩
  have e0 : k0 + (off o 0 : Int) = k0 := by rw [off]; omega
  rw [e0] at h3
  exact ⟨o', h3, h2⟩
theorem mark_row6 (N : Nat) (o : List (List Int)) (i : Nat) (k0 : Int) (hi : i < o.length) (hl : (o.getD i []).length ≤ 1048576) (hN : 9007199254740992 ≤ N) (h0 : 0 ≤ k0) (h1 : k0 ≤ 100000000000000) :
    ∃ r : List Int, itN (n_lR6 N ((i : Int), ())) N (k0, ((0 : Int), (o, ()))) = some (k0 + ((o.getD i []).length : Int), (o.set i r, ())) ∧ r.length = (o.getD i []).length ∧ ∀ j, j < (o.getD i []).length → r.getD j 0 = k0 + (j : Int) := by
  obtain ⟨r, h2, h3⟩ := loop_ok (stp := n_lR6 N ((i : Int), ())) (n := (o.getD i []).length) (Ok := fun j (r : List Int) => r.length = (o.getD i []).length ∧ ∀ x, x < j → r.getD x 0 = k0 + (x : Int)) (emb := fun j r => (k0 + (j : Int), ((j : Int), (o.set i r, ())))) (fin := fun r => (k0 + ((o.getD i []).length : Int), (o.set i r, ()))) (fun j r hj hr => by
      have e : IntKind.wrap .i64 ((j : Int) + 1) = ((j + 1 : Nat) : Int) := by rw [w1 _ (by omega) (by omega)]; rfl
      have e1 : IntKind.wrap .i64 (k0 + (j : Int) + 1) = k0 + ((j + 1 : Nat) : Int) := by rw [w1 _ (by omega) (by omega)]; omega
      have hg : gt (o.set i r) (i : Int) = r := by rw [gtl, getD_set' hi, if_pos rfl]
      have hrl := hr.1
      refine ⟨r.set j (k0 + (j : Int)), ⟨by rw [List.length_set]; exact hr.1, fun x hx => ?_⟩, fun rec => ?_⟩
      · rw [getD_set' (by omega)]
        split
        · rename_i q; rw [q]
        · exact hr.2 x (by omega)
      · unfold n_lR6
        simp only [e, e1, hg, hrl, Int.toNat_natCast, List.set_set]
        (repeat (first | refine xt ?_ | refine xf ?_ | refine yt ?_ | refine yf ?_))
        try rfl) (fun r rec hr => by
      have hg : gt (o.set i r) (i : Int) = r := by rw [gtl, getD_set' hi, if_pos rfl]
      have hrl := hr.1
      unfold n_lR6
      simp only [hg, hrl]
      (repeat (first | refine xt ?_ | refine xf ?_ | refine yt ?_ | refine yf ?_))
      rfl) (o.getD i []).length 0 (o.getD i []) N (by omega) (by omega) ⟨rfl, fun x hx => by omega⟩
  have hs : o.set i (o.getD i []) = o := by
    rw [List.getD_eq_getElem?_getD, List.getElem?_eq_getElem hi]
    exact List.set_getElem_self hi
  simp only [hs, Int.natCast_zero, Int.add_zero] at h3
  exact ⟨r, h3, h2⟩
theorem mark_rows4 (N : Nat) (o : List (List Int)) (k0 : Int) (sm : Sm o) (hN : 9007199254740992 ≤ N) (h0 : 0 ≤ k0) (h1 : k0 ≤ 100000000000) :
    ∃ o' : List (List Int), itN (n_lR4 N ()) N (k0, ((0 : Int), (o, ()))) = some (k0 + (off o o.length : Int), (o', ())) ∧ o'.length = o.length ∧ (∀ x, x < o.length → (o'.getD x []).length = (o.getD x []).length) ∧ ∀ x, x < o.length → ∀ j, j < (o.getD x []).length → (o'.getD x []).getD j 0 = k0 + (off o x : Int) + (j : Int) := by
  have ho := off_le sm
  have hsm1 := sm.1
  obtain ⟨o', h2, h3⟩ := loop_ok (stp := n_lR4 N ()) (n := o.length) (Ok := fun i (o' : List (List Int)) => o'.length = o.length ∧ (∀ x, x < o.length → (o'.getD x []).length = (o.getD x []).length) ∧ ∀ x, x < i → ∀ j, j < (o.getD x []).length → (o'.getD x []).getD j 0 = k0 + (off o x : Int) + (j : Int)) (emb := fun i o' => (k0 + (off o i : Int), ((i : Int), (o', ())))) (fin := fun o' => (k0 + (off o o.length : Int), (o', ()))) (fun i o' hi hr => by
      obtain ⟨q1, q2, q3⟩ := hr
      have e : IntKind.wrap .i64 ((i : Int) + 1) = ((i + 1 : Nat) : Int) := by rw [w1 _ (by omega) (by omega)]; rfl
      have hoi := ho i (by omega)
      have hil := row_le sm hi
      obtain ⟨r, g1, g2, g3⟩ := mark_row6 N o' i (k0 + (off o i : Int)) (by omega) (by rw [q2 i hi]; exact hil) hN (by omega) (by omega)
      rw [q2 i hi] at g1 g2 g3
      have e1 : k0 + (off o i : Int) + ((o.getD i []).length : Int) = k0 + (off o (i + 1) : Int) := by rw [off]; omega
      refine ⟨o'.set i r, ⟨by rw [List.length_set]; exact q1, fun x hx => ?_, fun x hx j hj => ?_⟩, fun rec => ?_⟩
      · rw [getD_set' (by omega)]
        split
        · rename_i q; rw [q]; exact g2
        · exact q2 x hx
      · rw [getD_set' (by omega)]
        split
        · rename_i q; subst q; exact g3 j hj
        · exact q3 x (by omega) j hj
      · unfold n_lR4
        simp only [e, q1]
        (repeat (first | refine xt ?_ | refine xf ?_ | refine yt ?_ | refine yf ?_))
        refine bd g1 ?_
        rw [e1]) (fun o' rec hr => by
      have q1 := hr.1
      unfold n_lR4
      simp only [q1]
      (repeat (first | refine xt ?_ | refine xf ?_ | refine yt ?_ | refine yf ?_))
      rfl) o.length 0 o N (by omega) (by omega) ⟨rfl, fun x hx => rfl, fun x hx => by omega⟩
  have e0 : k0 + (off o 0 : Int) = k0 := by rw [off]; omega
  rw [e0] at h3
  exact ⟨o', h3, h2⟩
theorem held_one {N : Nat} (a : List Int) (k0 : Int) (hN : a.length < N) (h0 : 0 ≤ k0) (h1 : k0 + (a.length : Int) ≤ 1000000000000000) (ha : ∀ j, j < a.length → a.getD j 0 = k0 + (j : Int)) : F_laws_heldInt64S N (a, (k0, ())) = some (k0 + (a.length : Int), ()) := by
  have h := held_ints N k0 a h0 h1 ha a.length 0 N (by omega) hN
  simp only [Int.natCast_zero, Int.add_zero] at h
  unfold F_laws_heldInt64S
  exact bd h rfl
theorem off_same {o o' : List (List Int)} (hl : ∀ x, x < o.length → (o'.getD x []).length = (o.getD x []).length) : ∀ i, i ≤ o.length → off o' i = off o i
  | 0, _ => rfl
  | i + 1, h => by rw [off, off, off_same hl i (by omega), hl i (by omega)]
theorem held_rows {N : Nat} (o : List (List Int)) (k0 : Int) (sm : Sm o) (hN : 9007199254740992 ≤ N) (h0 : 0 ≤ k0) (h1 : k0 ≤ 100000000000) (ha : ∀ x, x < o.length → ∀ j, j < (o.getD x []).length → (o.getD x []).getD j 0 = k0 + (off o x : Int) + (j : Int)) :
    F_laws_heldInt64SS N (o, (k0, ())) = some (k0 + (off o o.length : Int), ()) := by
  have ho := off_le sm
  have hsm1 := sm.1
  obtain ⟨u, h2, h3⟩ := loop_ok (stp := n_laws_heldInt64SS_0 N (o, ())) (n := o.length) (Ok := fun i (u : Unit) => True) (emb := fun i u => (k0 + (off o i : Int), ((i : Int), ()))) (fin := fun u => .inr (k0 + (off o o.length : Int), ())) (fun i u hi hr => by
      have e : IntKind.wrap .i64 ((i : Int) + 1) = ((i + 1 : Nat) : Int) := by rw [w1 _ (by omega) (by omega)]; rfl
      have hoi := ho i (by omega)
      have hil := row_le sm hi
      have g := held_one (N := N) (o.getD i []) (k0 + (off o i : Int)) (by omega) (by omega) (by omega) (ha i hi)
      have e1 : k0 + (off o i : Int) + ((o.getD i []).length : Int) = k0 + (off o (i + 1) : Int) := by rw [off]; omega
      rw [e1] at g
      refine ⟨(), trivial, fun rec => ?_⟩
      unfold n_laws_heldInt64SS_0
      simp only [e, gtl]
      (repeat (first | refine xt ?_ | refine xf ?_ | refine yt ?_ | refine yf ?_))
      refine bd g ?_
      simp only
      (repeat (first | refine xt ?_ | refine xf ?_ | refine yt ?_ | refine yf ?_))
      try rfl) (fun u rec hr => by
      unfold n_laws_heldInt64SS_0
      simp only
      (repeat (first | refine xt ?_ | refine xf ?_ | refine yt ?_ | refine yf ?_))
      rfl) o.length 0 () N (by omega) (by omega) trivial
  have e0 : k0 + (off o 0 : Int) = k0 := by rw [off]; omega
  rw [e0] at h3
  unfold F_laws_heldInt64SS
  exact bd h3 rfl
theorem masked_run {N : Nat} (hN : 9007199254740992 ≤ N) (b : Int) (L : List LT) (Vs : List (List Int)) : ∃ r ok, F_spec_RunMasked N (b, (L, (Vs, ()))) = some (r, (ok, ())) ∧ F_impl_RunMasked N (b, (L, (Vs, ()))) = some (r, (ok, ())) ∧ Sm r ∧ r.length ≤ 16 := by
  unfold F_spec_RunMasked F_impl_RunMasked
  rcases many_eq hN b L Vs with ⟨h1, h2⟩ | ⟨h1, h2, h3, h4, h5, hb, o, h6, h7, h8⟩
  · exact ⟨[], false, bd h1 rfl, bd h2 rfl, ⟨by simp, by simp⟩, by simp⟩
  · have hl := lanes_start h5
    have h8' : ∀ V ∈ Vs, V.length = 8 := fun V hV => (varsB_ok (h5 V hV)).1
    obtain ⟨Fs, on, st, now, c, s, g1, g2, g3, _⟩ := masked_all (N := N) h8 hb h4 h3 (by omega) hl
    have gs := spec_masked (N := N) (by omega) h8' h4 h6 g1
    have gc : F_impl_clones N (Vs, ()) = some (Vs, ()) := by
      unfold F_impl_clones
      exact bd (clones_impl Vs h8' (by omega) (by omega)) rfl
    refine ⟨now, true, bd h1 ?_, bd h2 ?_, ⟨by rw [g3.len]; omega, fun v hv => ?_⟩, by rw [g3.len]; exact h4⟩
    · simp only [Bool.not_true, cond_false]
      exact bd gs rfl
    · simp only [Bool.not_true, cond_false]
      refine bd h7 (bd gc (bd (repeat_true (by omega) h3 h4) ?_))
      exact bd g2 rfl
    · obtain ⟨x, hx, rfl⟩ := List.getElem_of_mem hv
      have := g3.eight x (by rw [← g3.len]; exact hx)
      rw [List.getD_eq_getElem?_getD, List.getElem?_eq_getElem hx] at this
      simp only [Option.getD_some] at this
      omega
theorem run_masked_law {N : Nat} (hN : 9007199254740992 ≤ N) (b : Int) (L : List LT) (Vs : List (List Int)) (hL : L.length ≤ 9223372036854775807) (hV : Vs.length ≤ 9223372036854775807) (hV2 : ∀ v, v ∈ Vs → v.length ≤ 9223372036854775807) : F_laws_FnExactRunMasked N (b, (L, (Vs, ()))) = some (true, ()) := by
  unfold F_laws_FnExactRunMasked
  simp only
  rcases szL N L hL with g | ⟨g, hl⟩
  · exact bd g rfl
  · refine bd g ?_
    simp only
    (repeat (first | refine xt ?_ | refine xf ?_ | refine yt ?_ | refine yf ?_))
    rcases szII hN Vs (1048576 - (L.length : Int)) (by omega) (by omega) hV hV2 with k | ⟨r, k, r0, r1, sm⟩
    · exact bd k rfl
    · obtain ⟨res, ok, c1, c2, smr, hr16⟩ := masked_run (N := N) hN b L Vs
      have t1 := toL (N := N) L hl (by omega)
      have q1 := eqL (N := N) L hl (by omega)
      have t2 := toII (N := N) Vs sm hN
      have q2 := eqII (N := N) Vs sm hN
      have q3 := eqII (N := N) res smr hN
      obtain ⟨L', m1⟩ := mark_lines N L.length 0 N L 1 (by omega) (by omega) hl (by omega) (by omega)
      simp only [Int.natCast_zero] at m1
      have hov := off_le sm Vs.length (Nat.le_refl _)
      have hor := off_le smr res.length (Nat.le_refl _)
      obtain ⟨V', m2, _⟩ := mark_rows1 N Vs (1 + 5 * (L.length : Int)) sm hN (by omega) (by omega)
      obtain ⟨R', m3, p1, p2, p3⟩ := mark_rows4 N res 1 smr hN (by omega) (by omega)
      have smR : Sm R' := by
        refine ⟨by rw [p1]; exact smr.1, fun v hv => ?_⟩
        obtain ⟨x, hx, rfl⟩ := List.getElem_of_mem hv
        have h2 := p2 x (by omega)
        rw [List.getD_eq_getElem?_getD, List.getElem?_eq_getElem hx] at h2
        simp only [Option.getD_some] at h2
        rw [h2]
        exact row_le smr (by omega)
      have hsame := off_same p2
      have hh := held_rows (N := N) R' 1 smR hN (by omega) (by omega) (fun x hx j hj => by
        rw [p1] at hx
        rw [p2 x hx] at hj
        rw [hsame x (by omega)]
        exact p3 x hx j hj)
      rw [p1, hsame _ (Nat.le_refl _)] at hh
      refine bd k ?_
      simp only
      (repeat (first | refine xt ?_ | refine xf ?_ | refine yt ?_ | refine yf ?_))
      refine bd t1 (bd t2 (bd c1 (bd t1 (bd t2 (bd c2 (bd q3 ?_))))))
      simp only [Bool.not_true, cond_false, beq_self_eq_true]
      refine bd t1 (bd q1 ?_)
      simp only [Bool.not_true, cond_false]
      refine bd t2 (bd q2 ?_)
      simp only [Bool.not_true, cond_false]
      refine bd m1 (bd m2 ?_)
      simp only
      (repeat (first | refine xt ?_ | refine xf ?_ | refine yt ?_ | refine yf ?_))
      refine bd q3 ?_
      simp only [Bool.not_true, cond_false]
      refine bd m3 (bd hh ?_)
      simp only
      (repeat (first | refine xt ?_ | refine xf ?_ | refine yt ?_ | refine yf ?_))
      refine bd t1 (bd t2 (bd c2 (bd q3 ?_)))
      simp only [Bool.not_true, cond_false, beq_self_eq_true]
      refine bd hh ?_
      simp only
      (repeat (first | refine xt ?_ | refine xf ?_ | refine yt ?_ | refine yf ?_))
      rfl
end Go.Proofs.Ytheemkehedmlfaa.P
