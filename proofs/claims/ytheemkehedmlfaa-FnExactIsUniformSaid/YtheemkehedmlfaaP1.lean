/- What pairing leaves: the state, what holds of it, and how it goes on. -/
import Derived.Test.YtheemkehedmlfaaT
import Derived.Test.YtheemkehedmlfaaNest
set_option linter.unusedVariables false
set_option linter.unusedSimpArgs false
namespace Go.Proofs.Ytheemkehedmlfaa.P
open Go Go.Proofs.Ytheemkehedmlfaa.E
abbrev LT := Int × Int × Int × Int × Int
theorem wr_id {x : Int} (h0 : -9223372036854775808 ≤ x) (h1 : x ≤ 9223372036854775807) : IntKind.wrap .i64 x = x := by
  rw [IntKind.wrap_i64]; omega
def inB (n a b : Int) : Bool := decide (a ≤ n) && decide (n ≤ b)
def bitsV (b : Int) : Bool := decide (b = 4) || decide (b = 8) || decide (b = 16)
def wordV (b x : Int) : Bool := bitsV b && decide (0 ≤ x) && decide (x ≤ (if b = 4 then 15 else if b = 8 then 255 else 65535))
/-- A line of code that is valid for itself. -/
def lineB (b : Int) (x : LT) : Bool :=
  if x.1 = 0 then inB x.2.1 0 7 && (inB x.2.2.1 0 17 && (inB x.2.2.2.1 0 7 && inB x.2.2.2.2 0 7))
  else if x.1 = 1 then inB x.2.1 0 7 && (decide (x.2.2.1 = 0) && (decide (x.2.2.2.1 = 0) && wordV b x.2.2.2.2))
  else if x.1 = 2 ∨ x.1 = 6 then decide (x.2.1 = 0) && (inB x.2.2.1 0 5 && (inB x.2.2.2.1 0 7 && inB x.2.2.2.2 0 7))
  else if x.1 = 3 ∨ x.1 = 4 then decide (x.2.1 = 0) && (decide (x.2.2.1 = 0) && (decide (x.2.2.2.1 = 0) && decide (x.2.2.2.2 = 0)))
  else if x.1 = 5 then decide (x.2.1 = 0) && (decide (x.2.2.1 = 0) && (decide (x.2.2.2.1 = 0) && inB x.2.2.2.2 1 8))
  else false
def kd (L : List LT) (i : Nat) : Int := (gt L (i : Int)).1
def ct (L : List LT) (i : Nat) : Int := (gt L (i : Int)).2.2.2.2
def opn (F : List Fr) : List Int := F.map fun f => (f.b : Int)
def lst (F : List Fr) : List Int := F.map fun f => (f.l : Int)
def stp (F : List Fr) : List (List Int) := F.map fun f => f.s
def lps (L : List LT) (F : List Fr) : List Fr := F.filter fun f => kd L f.b == 5
def scanP (c : Int) : List Int → List Int
  | [] => [c]
  | x :: xs => c :: scanP (c * x) xs
def pr (c : Int) (xs : List Int) : Int := xs.foldl (· * ·) c
def cnts (L : List LT) (F : List Fr) : List Int := (lps L F).map fun f => ct L f.b
theorem scanP_len (xs : List Int) : ∀ c, (scanP c xs).length = xs.length + 1 := by
  induction xs with
  | nil => intro c; rfl
  | cons x xs ih => intro c; simp [scanP, ih]
theorem scanP_snoc (xs : List Int) (x : Int) : ∀ c, scanP c (xs ++ [x]) = scanP c xs ++ [pr c xs * x] := by
  induction xs with
  | nil => intro c; rfl
  | cons y ys ih => intro c; simp only [List.cons_append, scanP, ih, pr, List.foldl_cons]
theorem scanP_last (xs : List Int) : ∀ c, (scanP c xs).getD xs.length 0 = pr c xs := by
  induction xs with
  | nil => intro c; rfl
  | cons y ys ih => intro c; simp only [scanP, List.length_cons, List.getD_cons_succ, ih, pr, List.foldl_cons]
theorem lps_snoc (L : List LT) (F : List Fr) (f : Fr) : lps L (F ++ [f]) = if kd L f.b = 5 then lps L F ++ [f] else lps L F := by
  unfold lps
  by_cases h : kd L f.b = 5 <;> simp [List.filter_append, h]
theorem gtn {α : Type} [Inhabited α] (l : List α) (i : Nat) : gt l (i : Int) = l.getD i default := by unfold gt; simp
theorem opn_len (F : List Fr) : (opn F).length = F.length := by simp [opn]
theorem lst_len (F : List Fr) : (lst F).length = F.length := by simp [lst]
theorem stp_len (F : List Fr) : (stp F).length = F.length := by simp [stp]
theorem opn_at (F : List Fr) (j : Nat) (h : j < F.length) : gt (opn F) (j : Int) = ((F[j]).b : Int) := by rw [gtn]; simp [opn, List.getD_eq_getElem?_getD, h]
theorem opn_snoc (G : List Fr) (f : Fr) : opn (G ++ [f]) = opn G ++ [(f.b : Int)] := by simp [opn]
theorem lst_snoc (G : List Fr) (f : Fr) : lst (G ++ [f]) = lst G ++ [(f.l : Int)] := by simp [lst]
theorem stp_snoc (G : List Fr) (f : Fr) : stp (G ++ [f]) = stp G ++ [f.s] := by simp [stp]
theorem top_b (G : List Fr) (f : Fr) : gt (opn (G ++ [f])) (G.length : Int) = (f.b : Int) := by rw [gtn, opn_snoc]; simp [List.getD_eq_getElem?_getD, opn_len, List.getElem?_append]
theorem top_l (G : List Fr) (f : Fr) : gt (lst (G ++ [f])) (G.length : Int) = (f.l : Int) := by rw [gtn, lst_snoc]; simp [List.getD_eq_getElem?_getD, lst_len, List.getElem?_append]
theorem top_s (G : List Fr) (f : Fr) : gt (stp (G ++ [f])) (G.length : Int) = f.s := by rw [gtn, stp_snoc]; simp [List.getD_eq_getElem?_getD, stp_len, List.getElem?_append]
theorem cut_o (G : List Fr) (f : Fr) : (opn (G ++ [f])).take ((G.length : Int)).toNat = opn G := by rw [opn_snoc]; simp [List.take_append, opn_len]
theorem cut_l (G : List Fr) (f : Fr) : (lst (G ++ [f])).take ((G.length : Int)).toNat = lst G := by rw [lst_snoc]; simp [List.take_append, lst_len]
theorem cut_s (G : List Fr) (f : Fr) : (stp (G ++ [f])).take ((G.length : Int)).toNat = stp G := by rw [stp_snoc]; simp [List.take_append, stp_len]
theorem set_l (G : List Fr) (f : Fr) (i : Nat) : (lst (G ++ [f])).set ((G.length : Int)).toNat (i : Int) = lst (G ++ [⟨f.b, i, f.s⟩]) := by rw [lst_snoc, lst_snoc]; simp [List.set_append, lst_len]
theorem cnts_snoc (L : List LT) (F : List Fr) (f : Fr) : cnts L (F ++ [f]) = if kd L f.b = 5 then cnts L F ++ [ct L f.b] else cnts L F := by
  unfold cnts; rw [lps_snoc]; split <;> simp
theorem cnts_cons (L : List LT) (f : Fr) (F : List Fr) : cnts L (f :: F) = if kd L f.b = 5 then ct L f.b :: cnts L F else cnts L F := by
  unfold cnts lps; by_cases h : kd L f.b = 5 <;> simp [h]
theorem pr_snoc (c : Int) (xs : List Int) (x : Int) : pr c (xs ++ [x]) = pr c xs * x := by simp [pr]
theorem cap_mul (P B : Int) (hP : 1 ≤ P) (hB : 1 ≤ B ∧ B ≤ 8) : min (IntKind.wrap .i64 (min P 65 * B)) 65 = min (P * B) 65 := by
  have hc : B = 1 ∨ B = 2 ∨ B = 3 ∨ B = 4 ∨ B = 5 ∨ B = 6 ∨ B = 7 ∨ B = 8 := by omega
  have hm : 1 ≤ min P 65 ∧ min P 65 ≤ 65 := by omega
  rcases hc with rfl | rfl | rfl | rfl | rfl | rfl | rfl | rfl <;> (rw [wr_id (by omega) (by omega)]; omega)
theorem pr_pos (xs : List Int) (h : ∀ x ∈ xs, 1 ≤ x) : ∀ c, 1 ≤ c → 1 ≤ pr c xs := by
  induction xs with
  | nil => intro c hc; exact hc
  | cons x xs ih =>
    intro c hc
    refine ih (fun y hy => h y (List.mem_cons_of_mem _ hy)) (c * x) ?_
    exact Int.mul_le_mul hc (h x (List.mem_cons_self ..)) (by omega) (by omega)
/-- What holds ahead of line i: the frames F, the lists of both sides, the keys of the map. -/
structure Inv (L : List LT) (i : Nat) (F : List Fr) (oS oI : List Int) (m : List (Int × Bool)) : Prop where
  hi : i ≤ L.length
  hN : L.length ≤ 24
  ls : oS.length = L.length
  li : oI.length = L.length
  eq : ∀ j : Nat, j < i → oI.getD j 0 = oS.getD j 0
  ge : ∀ j : Nat, i ≤ j → j < L.length → oS.getD j 0 = (j : Int)
  nest : F.length ≤ 4
  prod : pr 1 (cnts L F) ≤ 64
  cnt : ∀ f ∈ F, kd L f.b = 5 → 1 ≤ ct L f.b ∧ ct L f.b ≤ 8
  kds : ∀ f ∈ F, kd L f.b = 2 ∨ kd L f.b = 5
  bl : ∀ f ∈ F, f.b ≤ f.l ∧ f.l < i
  lp : ∀ f ∈ F, kd L f.b = 5 → f.l = f.b
  el : ∀ f ∈ F, f.l ≠ f.b → kd L f.l = 3 ∧ oI.getD f.b 0 = (f.l : Int)
  mg : ∀ f ∈ F, mget m (f.b : Int) = decide (f.l ≠ f.b)
  mky : ∀ x ∈ m, x.1 < (i : Int)
  srt : F.Pairwise (fun f g => f.b < g.b)
  st : ∀ f ∈ F, ∀ x ∈ f.s, ∃ j : Nat, x = (j : Int) ∧ j < i ∧ kd L j = 6
  st0 : ∀ f ∈ F, kd L f.b = 2 → f.s = []
  sl : ∀ f ∈ F, f.s.length ≤ i
theorem scan_last (L : List LT) (F : List Fr) : gt (scanP 1 (cnts L F)) ((lps L F).length : Int) = pr 1 (cnts L F) := by
  rw [gtn, show (lps L F).length = (cnts L F).length by simp [cnts]]; exact scanP_last _ _
theorem scan_len (L : List LT) (F : List Fr) : (scanP 1 (cnts L F)).length = (lps L F).length + 1 := by rw [scanP_len]; simp [cnts]
theorem lps_le (L : List LT) (F : List Fr) : (lps L F).length ≤ F.length := List.length_filter_le _ _
theorem w_pred (n : Nat) (h : n ≤ 1000) : IntKind.wrap .i64 (((n + 1 : Nat) : Int) - 1) = (n : Int) := by rw [wr_id (by omega) (by omega)]; omega
theorem getD_set (l : List Int) (i j : Nat) (v : Int) (h : i < l.length) : (l.set i v).getD j 0 = if j = i then v else l.getD j 0 := by
  simp only [List.getD_eq_getElem?_getD, List.getElem?_set]
  by_cases e : j = i
  · subst e; simp [h]
  · rw [if_neg (Ne.symm e), if_neg e]
theorem all_snoc {P : Fr → Prop} {F : List Fr} {f : Fr} (h : ∀ x ∈ F, P x) (hf : P f) : ∀ x ∈ F ++ [f], P x := by
  intro x hx
  rcases List.mem_append.1 hx with hx | hx
  · exact h x hx
  · rw [List.mem_singleton.1 hx]; exact hf
theorem line_ct {b : Int} {L : List LT} {i : Nat} (hv : lineB b (gt L (i : Int)) = true) (h5 : kd L i = 5) : 1 ≤ ct L i ∧ ct L i ≤ 8 := by
  unfold lineB at hv
  have e : (gt L (i : Int)).1 = 5 := h5
  rw [e] at hv
  simp [inB] at hv
  exact hv.2.2.2
theorem line_kd {b : Int} {L : List LT} {i : Nat} (hv : lineB b (gt L (i : Int)) = true) : 0 ≤ kd L i ∧ kd L i ≤ 6 := by
  unfold lineB at hv
  show 0 ≤ (gt L (i : Int)).1 ∧ (gt L (i : Int)).1 ≤ 6
  generalize (gt L (i : Int)).1 = x at hv
  by_cases h0 : x = 0
  · omega
  by_cases h1 : x = 1
  · omega
  by_cases h2 : x = 2 ∨ x = 6
  · omega
  by_cases h3 : x = 3 ∨ x = 4
  · omega
  by_cases h5 : x = 5
  · omega
  rw [if_neg h0, if_neg h1, if_neg h2, if_neg h3, if_neg h5] at hv
  cases hv
theorem inv_next {L : List LT} {i : Nat} {F : List Fr} {oS oI : List Int} {m : List (Int × Bool)} (h : Inv L i F oS oI m) (hi : i < L.length) : Inv L (i + 1) F oS (oI.set i (i : Int)) m where
  hi := hi
  hN := h.hN
  ls := h.ls
  li := by rw [List.length_set]; exact h.li
  eq := by
    intro j hj
    rw [getD_set _ _ _ _ (by rw [h.li]; exact hi)]
    by_cases e : j = i
    · rw [if_pos e, e, h.ge i (Nat.le_refl _) hi]
    · rw [if_neg e]; exact h.eq j (by omega)
  ge := fun j hj hl => h.ge j (by omega) hl
  nest := h.nest
  prod := h.prod
  cnt := h.cnt
  kds := h.kds
  bl := fun f hf => ⟨(h.bl f hf).1, by have := (h.bl f hf).2; omega⟩
  lp := h.lp
  el := by
    intro f hf hne
    refine ⟨(h.el f hf hne).1, ?_⟩
    rw [getD_set _ _ _ _ (by rw [h.li]; exact hi), if_neg (by have := h.bl f hf; omega)]
    exact (h.el f hf hne).2
  mg := h.mg
  mky := fun x hx => by have := h.mky x hx; omega
  srt := h.srt
  st := by
    intro f hf x hx
    obtain ⟨j, e, hj, h6⟩ := h.st f hf x hx
    exact ⟨j, e, by omega, h6⟩
  st0 := h.st0
  sl := fun f hf => by have := h.sl f hf; omega
theorem mget_no : ∀ {m : List (Int × Bool)} {k : Int}, (∀ x ∈ m, x.1 < k) → mget m k = false
  | [], _, _ => rfl
  | p :: r, k, h => by
    have h1 := h p List.mem_cons_self
    simp only [mget]
    rw [decide_eq_false (by omega)]
    exact mget_no fun x hx => h x (List.mem_cons_of_mem _ hx)
theorem mget_new {L : List LT} {i : Nat} {F : List Fr} {oS oI : List Int} {m : List (Int × Bool)} (h : Inv L i F oS oI m) : mget m (i : Int) = false := mget_no h.mky
theorem mget_mput : ∀ (m : List (Int × Bool)) (k j : Int), mget (mput m k true) j = (decide (j = k) || mget m j)
  | [], k, j => by
    simp only [mput, mget]
    by_cases h : j = k <;> simp [h]
  | p :: r, k, j => by
    simp only [mput]
    by_cases h : k = p.1
    · simp only [h, decide_true, cond_true, mget]
      by_cases h2 : j = p.1 <;> simp [h2]
    · simp only [h, decide_false, cond_false, mget]
      rw [mget_mput r k j]
      by_cases h2 : j = p.1
      · simp only [h2, decide_true, cond_true]
        rw [decide_eq_false (fun e => h e.symm)]; rfl
      · simp only [h2, decide_false, cond_false]
theorem mem_mput : ∀ {m : List (Int × Bool)} {k : Int} {x : Int × Bool}, x ∈ mput m k true → x ∈ m ∨ x.1 = k
  | [], k, x, h => by
    simp only [mput, List.mem_singleton] at h
    exact .inr (by rw [h])
  | p :: r, k, x, h => by
    simp only [mput] at h
    by_cases e : k = p.1
    · simp only [e, decide_true, cond_true, List.mem_cons] at h
      rcases h with rfl | h
      · exact .inr e.symm
      · exact .inl (List.mem_cons_of_mem _ h)
    · simp only [e, decide_false, cond_false, List.mem_cons] at h
      rcases h with rfl | h
      · exact .inl List.mem_cons_self
      · rcases mem_mput h with h | h
        · exact .inl (List.mem_cons_of_mem _ h)
        · exact .inr h
theorem inv_push {L : List LT} {i : Nat} {F : List Fr} {oS oI : List Int} {m : List (Int × Bool)} (h : Inv L i F oS oI m) (hi : i < L.length) (hk : kd L i = 2 ∨ kd L i = 5) (hc : kd L i = 5 → 1 ≤ ct L i ∧ ct L i ≤ 8) (hn : F.length + 1 ≤ 4) (hp : pr 1 (cnts L (F ++ [⟨i, i, []⟩])) ≤ 64) :
    Inv L (i + 1) (F ++ [⟨i, i, []⟩]) oS (oI.set i (i : Int)) m := by
  have n := inv_next h hi
  exact { hi := n.hi, hN := n.hN, ls := n.ls, li := n.li, eq := n.eq, ge := n.ge, nest := by simp; omega, prod := hp
          cnt := all_snoc n.cnt hc
          kds := all_snoc n.kds hk
          bl := all_snoc n.bl ⟨Nat.le_refl _, by show i < i + 1; omega⟩
          lp := all_snoc n.lp (fun _ => rfl)
          el := all_snoc n.el (fun e => absurd rfl e)
          mg := all_snoc n.mg (by rw [mget_new h]; simp)
          mky := n.mky
          srt := by
            rw [List.pairwise_append]
            refine ⟨n.srt, List.pairwise_singleton _ _, fun f hf g hg => ?_⟩
            rw [List.mem_singleton.1 hg]
            have := h.bl f hf
            show f.b < i
            omega
          st := all_snoc n.st (fun x hx => by cases hx)
          st0 := all_snoc n.st0 (fun _ => rfl)
          sl := all_snoc n.sl (by show 0 ≤ i + 1; omega) }
theorem pr_le {L : List LT} {F : List Fr} (hc : ∀ f ∈ F, kd L f.b = 5 → 1 ≤ ct L f.b ∧ ct L f.b ≤ 8) : 1 ≤ pr 1 (cnts L F) := by
  refine pr_pos _ ?_ 1 (by omega)
  intro x hx
  obtain ⟨f, hf, rfl⟩ := List.mem_map.1 hx
  have h5 := (List.mem_filter.1 hf).2
  exact (hc f (List.mem_filter.1 hf).1 (by simpa using h5)).1
theorem mul_small {P B : Int} (hP : 1 ≤ P ∧ P ≤ 64) (hB : 1 ≤ B ∧ B ≤ 8) : 1 ≤ P * B ∧ P * B ≤ 512 := by
  have hc : B = 1 ∨ B = 2 ∨ B = 3 ∨ B = 4 ∨ B = 5 ∨ B = 6 ∨ B = 7 ∨ B = 8 := by omega
  rcases hc with rfl | rfl | rfl | rfl | rfl | rfl | rfl | rfl <;> omega
theorem of_snoc {P : Fr → Prop} {G : List Fr} {f : Fr} (h : ∀ x ∈ G ++ [f], P x) : (∀ x ∈ G, P x) ∧ P f :=
  ⟨fun x hx => h x (List.mem_append_left _ hx), h f (List.mem_append_right _ (List.mem_singleton.2 rfl))⟩
theorem srt_lt {G : List Fr} {f : Fr} (h : (G ++ [f]).Pairwise (fun f g => f.b < g.b)) : (∀ x ∈ G, x.b < f.b) ∧ G.Pairwise (fun f g => f.b < g.b) := by
  rw [List.pairwise_append] at h
  exact ⟨fun x hx => h.2.2 x hx f (List.mem_singleton.2 rfl), h.1⟩
theorem inv_else {L : List LT} {i : Nat} {G : List Fr} {f : Fr} {oS oI : List Int} {m : List (Int × Bool)} (h : Inv L i (G ++ [f]) oS oI m) (hi : i < L.length) (h3 : kd L i = 3) (hf : f.l = f.b) (h2 : kd L f.b = 2) :
    Inv L (i + 1) (G ++ [⟨f.b, i, f.s⟩]) (oS.set f.b (i : Int)) ((oI.set i (i : Int)).set f.b (i : Int)) (mput m (f.b : Int) true) := by
  have n := inv_next h hi
  have hb := (of_snoc h.bl).2
  have hs := srt_lt h.srt
  have hlS : f.b < oS.length := by rw [h.ls]; omega
  have hlI : f.b < (oI.set i (i : Int)).length := by rw [List.length_set, h.li]; omega
  exact { hi := n.hi, hN := n.hN, ls := by rw [List.length_set]; exact n.ls, li := by rw [List.length_set]; exact n.li
          eq := by
            intro j hj
            rw [getD_set _ _ _ _ hlS, getD_set _ _ _ _ hlI]
            split
            · rfl
            · exact n.eq j hj
          ge := by
            intro j hj hl
            rw [getD_set _ _ _ _ hlS, if_neg (by omega)]
            exact n.ge j hj hl
          nest := by have := n.nest; simp at this ⊢; omega
          prod := by have := n.prod; rw [cnts_snoc] at this ⊢; exact this
          cnt := all_snoc (of_snoc n.cnt).1 (of_snoc n.cnt).2
          kds := all_snoc (of_snoc n.kds).1 (of_snoc n.kds).2
          bl := all_snoc (of_snoc n.bl).1 ⟨by show f.b ≤ i; omega, by show i < i + 1; omega⟩
          lp := all_snoc (of_snoc n.lp).1 (fun h5 => by have h5 : kd L f.b = 5 := h5; omega)
          el := all_snoc (fun x hx hne => ⟨((of_snoc n.el).1 x hx hne).1, by rw [getD_set _ _ _ _ hlI, if_neg (by have := hs.1 x hx; omega)]; exact ((of_snoc n.el).1 x hx hne).2⟩)
            (fun _ => ⟨h3, by show ((oI.set i (i : Int)).set f.b (i : Int)).getD f.b 0 = _; rw [getD_set _ _ _ _ hlI, if_pos rfl]⟩)
          mg := all_snoc (fun x hx => by rw [mget_mput, (of_snoc n.mg).1 x hx]; have := hs.1 x hx; have e : ¬ ((x.b : Int) = (f.b : Int)) := (by omega); simp [e])
            (by show mget (mput m (f.b : Int) true) (f.b : Int) = decide (i ≠ f.b); rw [mget_mput]; have e : i ≠ f.b := (by omega); simp [e])
          mky := fun x hx => by
            rcases mem_mput hx with hx | hx
            · exact n.mky x hx
            · omega
          srt := by
            rw [List.pairwise_append]
            exact ⟨hs.2, List.pairwise_singleton _ _, fun x hx g hg => by rw [List.mem_singleton.1 hg]; exact hs.1 x hx⟩
          st := all_snoc (of_snoc n.st).1 (of_snoc n.st).2
          st0 := all_snoc (of_snoc n.st0).1 (of_snoc n.st0).2
          sl := all_snoc (of_snoc n.sl).1 (of_snoc n.sl).2 }
theorem last_loop (L : List LT) (F : List Fr) : (∀ f ∈ F, kd L f.b ≠ 5) ∨ ∃ G f H, F = G ++ f :: H ∧ kd L f.b = 5 ∧ ∀ x ∈ H, kd L x.b ≠ 5 := by
  induction F with
  | nil => exact Or.inl (fun f hf => by cases hf)
  | cons x xs ih =>
    rcases ih with h | ⟨G, f, H, e, h5, hH⟩
    · by_cases h5 : kd L x.b = 5
      · exact Or.inr ⟨[], x, xs, rfl, h5, h⟩
      · exact Or.inl (fun f hf => (List.mem_cons.1 hf).elim (fun e => by rw [e]; exact h5) (h f))
    · exact Or.inr ⟨x :: G, f, H, by rw [e]; rfl, h5, hH⟩
theorem lps_none {L : List LT} {F : List Fr} (h : ∀ f ∈ F, kd L f.b ≠ 5) : lps L F = [] := by
  unfold lps
  rw [List.filter_eq_nil_iff]
  intro f hf hc
  exact h f hf (by simpa using hc)
theorem lps_split {L : List LT} {G H : List Fr} {f : Fr} (h5 : kd L f.b = 5) (hH : ∀ x ∈ H, kd L x.b ≠ 5) : lps L (G ++ f :: H) = lps L G ++ [f] := by
  have h1 := lps_none hH
  unfold lps at h1 ⊢
  rw [List.filter_append, List.filter_cons, h1]
  simp [h5]
theorem all_mid {P : Fr → Prop} {G H : List Fr} {f f' : Fr} (h : ∀ x ∈ G ++ f :: H, P x) (hf : P f → P f') : ∀ x ∈ G ++ f' :: H, P x := by
  intro x hx
  rcases List.mem_append.1 hx with hx | hx
  · exact h x (List.mem_append_left _ hx)
  · rcases List.mem_cons.1 hx with rfl | hx
    · exact hf (h f (List.mem_append_right _ (List.mem_cons_self ..)))
    · exact h x (List.mem_append_right _ (List.mem_cons_of_mem _ hx))
theorem inv_stop {L : List LT} {i : Nat} {G H : List Fr} {f : Fr} {oS oI : List Int} {m : List (Int × Bool)} (h : Inv L i (G ++ f :: H) oS oI m) (hi : i < L.length) (h6 : kd L i = 6) (h5 : kd L f.b = 5) :
    Inv L (i + 1) (G ++ ⟨f.b, f.l, f.s ++ [(i : Int)]⟩ :: H) oS (oI.set i (i : Int)) m := by
  have n := inv_next h hi
  exact { hi := n.hi, hN := n.hN, ls := n.ls, li := n.li, eq := n.eq, ge := n.ge
          nest := by have := n.nest; simp at this ⊢; omega
          prod := by have := n.prod; unfold cnts lps at this ⊢; rw [List.filter_append, List.filter_cons] at this ⊢; simp [h5] at this ⊢; exact this
          cnt := all_mid n.cnt id
          kds := all_mid n.kds id
          bl := all_mid n.bl id
          lp := all_mid n.lp id
          el := all_mid n.el id
          mg := all_mid n.mg id
          mky := n.mky
          srt := by
            have := n.srt
            rw [List.pairwise_append, List.pairwise_cons] at this ⊢
            refine ⟨this.1, this.2.1, fun x hx y hy => ?_⟩
            rcases List.mem_cons.1 hy with rfl | hy
            · exact this.2.2 x hx f (List.mem_cons_self ..)
            · exact this.2.2 x hx y (List.mem_cons_of_mem _ hy)
          st := all_mid n.st (fun hs x hx => by
            rcases List.mem_append.1 hx with hx | hx
            · exact hs x hx
            · exact ⟨i, List.mem_singleton.1 hx, by omega, h6⟩)
          st0 := all_mid n.st0 (fun _ h2 => by have h2 : kd L f.b = 2 := h2; omega)
          sl := all_mid n.sl (fun _ => by have := h.sl f (List.mem_append_right _ (List.mem_cons_self ..)); show (f.s ++ [(i : Int)]).length ≤ i + 1; simp; omega) }
/-- The stops of a loop are told where it ends. -/
def setAll (o : List Int) (s : List Int) (v : Int) : List Int := s.foldl (fun o x => o.set x.toNat v) o
theorem setAll_len (s : List Int) (v : Int) : ∀ o : List Int, (setAll o s v).length = o.length := by
  induction s with
  | nil => intro o; rfl
  | cons x xs ih => intro o; show (setAll (o.set x.toNat v) xs v).length = _; rw [ih, List.length_set]
theorem setAll_far (s : List Int) (v : Int) (j : Nat) (hs : ∀ x ∈ s, ∃ q : Nat, x = (q : Int) ∧ q ≠ j) : ∀ o : List Int, (setAll o s v).getD j 0 = o.getD j 0 := by
  induction s with
  | nil => intro o; rfl
  | cons x xs ih =>
    intro o
    show (setAll (o.set x.toNat v) xs v).getD j 0 = _
    rw [ih (fun y hy => hs y (List.mem_cons_of_mem _ hy))]
    obtain ⟨q, rfl, hq⟩ := hs x (List.mem_cons_self ..)
    simp only [List.getD_eq_getElem?_getD, List.getElem?_set, Int.toNat_natCast]
    rw [if_neg hq]
theorem setAll_eq (s : List Int) (v : Int) (n : Nat) (hs : ∀ x ∈ s, ∃ q : Nat, x = (q : Int) ∧ q < n) : ∀ A B : List Int, n ≤ A.length → n ≤ B.length → (∀ j : Nat, j < n → A.getD j 0 = B.getD j 0) → ∀ j : Nat, j < n → (setAll A s v).getD j 0 = (setAll B s v).getD j 0 := by
  induction s with
  | nil => intro A B _ _ h; exact h
  | cons x xs ih =>
    intro A B hA hB h
    obtain ⟨q, rfl, hq⟩ := hs x (List.mem_cons_self ..)
    refine ih (fun y hy => hs y (List.mem_cons_of_mem _ hy)) (A.set ((q : Int)).toNat v) (B.set ((q : Int)).toNat v) (by rw [List.length_set]; exact hA) (by rw [List.length_set]; exact hB) ?_
    intro j hj
    rw [Int.toNat_natCast, getD_set _ _ _ _ (by omega), getD_set _ _ _ _ (by omega), h j hj]
theorem setAll_drop (o s : List Int) (v : Int) (j : Nat) (hj : j < s.length) : setAll (o.set (s[j]).toNat v) (s.drop (j + 1)) v = setAll o (s.drop j) v := by
  rw [List.drop_eq_getElem_cons hj]; rfl
/-- The reference model's loop over the stops. -/
theorem cut_scan {L : List LT} {G : List Fr} {f : Fr} (h5 : kd L f.b = 5) : (scanP 1 (cnts L (G ++ [f]))).take (((lps L G).length + 1 : Nat)) = scanP 1 (cnts L G) := by
  rw [cnts_snoc, if_pos h5, scanP_snoc, ← scan_len L G]
  simp
theorem inv_end {L : List LT} {i : Nat} {G : List Fr} {f : Fr} {oS oI : List Int} {m : List (Int × Bool)} (h : Inv L i (G ++ [f]) oS oI m) (hi : i < L.length) :
    Inv L (i + 1) G (setAll ((oS.set f.l (i : Int)).set i (f.b : Int)) f.s (i : Int)) (setAll (((oI.set i (i : Int)).set i (f.b : Int)).set f.l (i : Int)) f.s (i : Int)) m := by
  have n := inv_next h hi
  have hb := (of_snoc h.bl).2
  have hs := srt_lt h.srt
  have hst := (of_snoc h.st).2
  have lS : ∀ x : List Int, x.length = L.length → i < x.length ∧ f.l < x.length := fun x hx => by rw [hx]; omega
  have e1 : (oI.set i (i : Int)).length = L.length := by rw [List.length_set]; exact h.li
  have e2 : ((oI.set i (i : Int)).set i (f.b : Int)).length = L.length := by rw [List.length_set]; exact e1
  have e3 : (oS.set f.l (i : Int)).length = L.length := by rw [List.length_set]; exact h.ls
  have hle := lps_le L G
  exact { hi := n.hi, hN := n.hN, ls := by rw [setAll_len, List.length_set]; exact e3, li := by rw [setAll_len, List.length_set]; exact e2
          eq := by
            refine setAll_eq f.s (i : Int) (i + 1) (fun x hx => ?_) _ _ (by rw [List.length_set, e2]; omega) (by rw [List.length_set, e3]; omega) ?_
            · obtain ⟨q, e, hq, _⟩ := hst x hx
              exact ⟨q, e, by omega⟩
            · intro j hj
              rw [getD_set _ _ _ _ (lS _ e2).2, getD_set _ _ _ _ (lS _ e1).1, getD_set _ _ _ _ (lS _ e3).1, getD_set _ _ _ _ (lS _ h.ls).2]
              by_cases a1 : j = f.l
              · rw [if_pos a1, if_neg (by omega), if_pos a1]
              · rw [if_neg a1, if_neg a1, n.eq j hj]
          ge := by
            intro j hj hl
            rw [setAll_far f.s _ j (fun x hx => by obtain ⟨q, e, hq, _⟩ := hst x hx; exact ⟨q, e, by omega⟩), getD_set _ _ _ _ (lS _ e3).1, if_neg (by omega), getD_set _ _ _ _ (lS _ h.ls).2, if_neg (by omega)]
            exact n.ge j hj hl
          nest := by have := n.nest; simp at this; omega
          prod := by
            have hp := n.prod
            rw [cnts_snoc] at hp
            split at hp
            · rename_i h5
              rw [pr_snoc] at hp
              have hc := (of_snoc n.cnt).2 h5
              have hP := pr_le (of_snoc n.cnt).1
              have hm : pr 1 (cnts L G) * 1 ≤ pr 1 (cnts L G) * ct L f.b := Int.mul_le_mul_of_nonneg_left hc.1 (by omega)
              omega
            · exact hp
          cnt := (of_snoc n.cnt).1
          kds := (of_snoc n.kds).1
          bl := (of_snoc n.bl).1
          lp := (of_snoc n.lp).1
          el := by
            intro x hx hne
            obtain ⟨h3, hv⟩ := (of_snoc n.el).1 x hx hne
            refine ⟨h3, ?_⟩
            have hlt := hs.1 x hx
            have hkx := (of_snoc h.kds).1 x hx
            have hxb := (of_snoc h.bl).1 x hx
            have hxl : x.b ≠ f.l := by
              intro e
              by_cases a : f.l = f.b
              · omega
              · have := ((of_snoc h.el).2 a).1
                rw [← e] at this
                omega
            rw [setAll_far f.s _ x.b (fun y hy => by obtain ⟨q, e, hq, h6⟩ := hst y hy; exact ⟨q, e, fun e' => by rw [e'] at h6; omega⟩), getD_set _ _ _ _ (lS _ e2).2, if_neg hxl, getD_set _ _ _ _ (lS _ e1).1, if_neg (by omega)]
            exact hv
          mg := (of_snoc n.mg).1
          mky := n.mky
          srt := hs.2
          st := (of_snoc n.st).1
          st0 := (of_snoc n.st0).1
          sl := (of_snoc n.sl).1 }
def idl (n : Nat) : List Int := (List.range n).map (fun k : Nat => (k : Int))
theorem idl_len (n : Nat) : (idl n).length = n := by simp [idl]
theorem idl_succ (n : Nat) : idl n ++ [(n : Int)] = idl (n + 1) := by simp [idl, List.range_succ]
theorem inv_start {L : List LT} (hN : L.length ≤ 24) : Inv L 0 [] (idl L.length) (List.replicate L.length 0) [] :=
  { hi := Nat.zero_le _, hN := hN, ls := idl_len _, li := by simp, eq := fun j hj => absurd hj (by omega)
    ge := fun j _ hj => by simp [idl, List.getD_eq_getElem?_getD, hj]
    nest := by simp, prod := by simp [cnts, lps, pr], cnt := by simp, kds := by simp, bl := by simp, lp := by simp, el := by simp, mg := by simp, mky := by simp, srt := List.Pairwise.nil, st := by simp, st0 := by simp, sl := by simp }
end Go.Proofs.Ytheemkehedmlfaa.P
