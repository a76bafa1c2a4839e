import Derived.Test.YtheemkehedmlfaaD2
import Derived.Maps.AppendAt
set_option linter.unusedVariables false
set_option linter.unusedSimpArgs false
namespace Go.Proofs.Ytheemkehedmlfaa.E
open Go
theorem madeCells_take (z : Array Value) (sz : Nat) (hz : z.size = sz) (h0 : 0 < sz) : ∀ n m, n ≤ m → (madeCells z (m * sz)).toList.take (n * sz) = (List.replicate n z.toList).flatten := by
  have key : ∀ n, (List.range (n * sz)).map (fun i => z[i % z.size]!) = (List.replicate n z.toList).flatten := by
    intro n
    induction n with
    | zero => simp
    | succ n ih =>
      rw [Nat.add_mul, Nat.one_mul, List.range_add, List.map_append, ih, List.replicate_succ', List.flatten_append, List.flatten_singleton]
      congr 1
      apply List.ext_getElem?
      intro i
      rcases Nat.lt_or_ge i sz with hi | hi
      · rw [List.map_map, List.getElem?_map, List.getElem?_range hi]
        simp only [Option.map_some, Function.comp]
        have h1 : (n * sz + i) % z.size = i := by
          rw [hz, Nat.mul_comm, Nat.mul_add_mod]
          exact Nat.mod_eq_of_lt hi
        rw [h1]
        have h2 : i < z.size := by omega
        simp [h2]
      · rw [List.getElem?_eq_none (by simp; omega), List.getElem?_eq_none (by simp; omega)]
  intro n m hnm
  rw [← key n]
  unfold madeCells
  rw [Array.toList_map, Array.toList_range, ← List.map_take, List.take_range, Nat.min_eq_left (Nat.mul_le_mul_right _ hnm)]
section
variable {S : Sig} {Q : Kind S}
theorem Fd_lt {e : Env S.T} (I : Inv Q e) {d : Dp} (hv : valid e.ob d = true) : ∀ k, e.Fd d k → k < e.w.heap.size := by
  rintro k ⟨p, hp, hk⟩
  rw [valid_iff] at hv
  obtain ⟨so, h⟩ := hv p hp
  exact I.lt _ _ _ h k hk
theorem newRow_ok (L : Laws S Q) {e : Env S.T} (I : Inv Q e) {fr : Nat} (hfr : ¬ e.U fr) {t : TypeId} {d : Dp} {l : List (S.T t)} {cs : List Value} {cur : Array Value} {cap : Nat}
    (hd : dlt e.U d) (hv : valid e.ob d = true) (hr : reps (Q.rep t (e.Fd d) e.w) (S.sz t) l cs) (hcur : cur.size = cap * S.sz t) (htake : cur.toList.take (l.length * S.sz t) = cs) (hcap : l.length ≤ cap) (hm : cap ≤ maxLen) :
    Eff Q e fr (.slice (some ⟨e.w.heap.size, 0, none⟩) l.length cap) (e.w.alloc (.cells cur t)) ⟨.v (.c (.row fr)), [(fr, some (fr, .row t d l))]⟩ := by
  let v : Value := .slice (some ⟨e.w.heap.size, 0, none⟩) l.length cap
  let e' : Env S.T := { w := e.w.alloc (.cells cur t), β := fun a => if a = fr then v else e.β a, ok := fun a => if a = fr then (fun k => k = e.w.heap.size) else e.ok a, ob := putB fr (fr, .row t d l) e.ob, U := fun a => e.U a ∨ a = fr }
  have hsz : (e.w.alloc (.cells cur t)).heap.size = e.w.heap.size + 1 := by show (e.w.heap.push _).size = _; simp
  have hold : ∀ k, k < e.w.heap.size → (e.w.alloc (.cells cur t)).heap[k]? = e.w.heap[k]? := fun k hk => heap_alloc_old e.w _ hk
  obtain ⟨h1, h2⟩ := event L I (e.w.alloc (.cells cur t)) v (fun k => k = e.w.heap.size) (putB fr (fr, .row t d l) e.ob) (.row t d l) none fr fr hfr (.inl rfl)
    (fun a ha => by cases ha) (fun a x hx => (lookB_put hx).imp id fun ⟨p, q⟩ => ⟨p, by simp, q⟩) (by simp) (fun k hk => ⟨by omega, .inr (by omega)⟩) rfl rfl rfl (by omega)
    (fun k hk _ => hold k hk) rfl e' rfl
    (fun hH => by
      have hβ : e'.β fr = v := by simp [e']
      have hok : e'.ok fr = fun k => k = e.w.heap.size := by simp [e']
      have hF : ∀ k, e.Fd d k → e'.Fd d k := by
        rintro k ⟨p, hp, hk⟩
        refine ⟨p, hp, ?_⟩
        show (if p.1 = fr then _ else e.ok p.1) k
        rw [if_neg (show ¬ p.1 = fr from fun e1 => hfr (e1 ▸ (hd p hp).1))]
        exact hk
      refine ⟨hd.mono (fun a ha => .inl ha), fun k hk => ?_, cs, ?_, fun _ => ?_⟩
      · rw [hβ] at hk
        rw [hok]
        have : e.w.heap.size = k := by simpa [v, Value.ownBlock] using hk
        exact this.symm
      · rw [hβ]
        exact ⟨reps_len hr, .inr ⟨e.w.heap.size, cap, cur, rfl, Nat.zero_le _, heap_alloc_new e.w _, hcap, hm, hcur, htake⟩⟩
      · refine reps_imp (fun x c hx => ?_) hr
        exact L.mono _ _ _ _ _ _ (fun k hk => .inr (hF k hk)) (L.move _ _ _ _ _ _ (fun k hk => hold k (Fd_lt I hv k hk)) hx))
  exact ⟨e', rfl, h1, h2, by simp [Upd.obOf, put1, e'], hU8 e fr, by simp [e'], by simp [e', v]⟩
theorem innAll_ok (L : Laws S Q) {e : Env S.T} (I : Inv Q e) {t : TypeId} : ∀ {css : List (List (SC S.T))} {vss : List (List Value)} {l : List (S.T t)} {d : Dp}, innAll S t e.ob css = some (l, d) → All2 (All2 (hold Q e)) vss css →
    dlt e.U d ∧ valid e.ob d = true ∧ reps (Q.rep t (e.Fd d) e.w) (S.sz t) l vss.flatten ∧ l.length = css.length ∧ ∀ u, u ∈ vss.flatten → u.oneCell' = true
  | [], _, l, d, h, .nil => by
    simp only [innAll, Option.some.injEq, Prod.mk.injEq] at h
    obtain ⟨rfl, rfl⟩ := h
    exact ⟨fun p hp => by (cases hp), rfl, rfl, rfl, fun u hu => by simp at hu⟩
  | c :: css, _, l, d, h, .cons (a := vs) (l := vss) h1 h2 => by
    simp only [innAll] at h
    split at h
    · rename_i x d1 l' d2 hx hl
      simp only [Option.some.injEq, Prod.mk.injEq] at h
      obtain ⟨rfl, rfl⟩ := h
      obtain ⟨i1, i2, i3⟩ := L.inn t e c vs x d1 I hx h1
      obtain ⟨j1, j2, j3, j4, j5⟩ := innAll_ok L I hl h2
      have m1 : ∀ k, e.Fd d1 k → e.Fd (d1 ++ d2) k := fun k ⟨p, hp, hk⟩ => ⟨p, List.mem_append_left _ hp, hk⟩
      have m2 : ∀ k, e.Fd d2 k → e.Fd (d1 ++ d2) k := fun k ⟨p, hp, hk⟩ => ⟨p, List.mem_append_right _ hp, hk⟩
      refine ⟨fun p hp => (List.mem_append.1 hp).elim (i1 p) (j1 p), ?_, ⟨vs, vss.flatten, rfl, L.len _ _ _ _ _ i3, L.mono _ _ _ _ _ _ m1 i3, reps_imp (fun _ _ => L.mono _ _ _ _ _ _ m2) j3⟩, by simp [j4], ?_⟩
      · rw [valid_iff] at i2 j2 ⊢
        exact fun p hp => (List.mem_append.1 hp).elim (i2 p) (j2 p)
      · intro u hu
        rw [List.flatten_cons] at hu
        rcases List.mem_append.1 hu with hu | hu
        · exact L.one _ _ _ _ _ i3 u hu
        · exact j5 u hu
    · cases h
theorem asList_ok' (LP : Pre S Q) {e : Env S.T} (I : Inv Q e) {t : TypeId} {c : SC S.T} {v : Value} (hv : hold Q e v c) {l : List (S.T t)} {d : Dp} (h : asList S.ax e.ob t c = some (l, d)) :
    dlt e.U d ∧ valid e.ob d = true ∧ Rd Q t (e.Fd d) e.w v l := by
  cases c with
  | nil =>
    simp only [asList, Option.some.injEq, Prod.mk.injEq] at h
    obtain ⟨rfl, rfl⟩ := h
    exact ⟨fun p hp => by (cases hp), rfl, none, 0, hv, Nat.le_refl _, fun h => absurd rfl h⟩
  | rd t' d' l' =>
    simp only [asList] at h
    split at h
    · rename_i ht
      subst ht
      cases hval : valid e.ob d' with
      | false => rw [hval] at h; cases h
      | true =>
        rw [hval] at h
        simp only [cond_true, Option.some.injEq, Prod.mk.injEq] at h
        obtain ⟨rfl, rfl⟩ := h
        exact ⟨hv.1, hval, hv.2.2 hval⟩
    · cases h
  | row i =>
    simp only [asList] at h
    split at h
    · rename_i s t' d' l' ho
      split at h
      · rename_i ht
        subst ht
        cases hval : valid e.ob d' with
        | false => rw [hval] at h; cases h
        | true =>
          rw [hval] at h
          simp only [cond_true, Option.some.injEq, Prod.mk.injEq] at h
          obtain ⟨rfl, rfl⟩ := h
          obtain ⟨⟨so, hso, _⟩, hi, hs, hd, hown, cs, hr, hreps⟩ := lookR_ok LP I ho
          refine ⟨?_, ?_, ?_⟩
          · intro x hx
            rcases List.mem_cons.1 hx with rfl | hx
            · exact ⟨hi, hs⟩
            · exact hd x hx
          · rw [valid_iff] at hval ⊢
            intro x hx
            rcases List.mem_cons.1 hx with rfl | hx
            · exact ⟨_, hso⟩
            · exact hval x hx
          · have hrep := hreps hval
            rw [hv.2]
            rcases hr.2 with ⟨h2, h3⟩ | ⟨g, cap, cur, h2, _, hh, hnc, _, _, htk⟩
            · have : l' = [] := List.eq_nil_of_length_eq_zero h3
              subst this
              exact ⟨none, 0, h2, Nat.le_refl _, fun h => absurd rfl h⟩
            · refine ⟨_, cap, h2, hnc, fun _ => ⟨g, 0, cs, rfl, ⟨(i, s), List.mem_cons_self, hown g (by rw [h2]; rfl)⟩, (own_cells hr h2).2, reps_imp (fun x c hx => LP.mono _ _ _ _ _ _ ?_ hx) hrep⟩⟩
              rintro k (⟨hk, _⟩ | ⟨x, hx, hk⟩)
              · exact ⟨(i, s), List.mem_cons_self, hk⟩
              · exact ⟨x, List.mem_cons_of_mem _ hx, hk⟩
      · cases h
    · cases h
  | cut i n =>
    simp only [asList] at h
    split at h
    · rename_i s t' d' l' ho
      split at h
      · rename_i ht
        subst ht
        cases hval : valid e.ob d' with
        | false => rw [hval] at h; cases h
        | true =>
          rw [hval] at h
          simp only [cond_true, Option.some.injEq, Prod.mk.injEq] at h
          obtain ⟨rfl, rfl⟩ := h
          obtain ⟨⟨so, hso, _⟩, hi, hs, hd, hown, cs, hr, hreps⟩ := lookR_ok LP I ho
          obtain ⟨_, h0, A, m, c, hβ, hnm, rfl⟩ := hv
          refine ⟨?_, ?_, ?_⟩
          · intro x hx
            rcases List.mem_cons.1 hx with rfl | hx
            · exact ⟨hi, hs⟩
            · exact hd x hx
          · rw [valid_iff] at hval ⊢
            intro x hx
            rcases List.mem_cons.1 hx with rfl | hx
            · exact ⟨_, hso⟩
            · exact hval x hx
          · have hrep := hreps hval
            rcases hr.2 with ⟨h2, h3⟩ | ⟨g, cap, cur, h2, _, hh, hnc, _, _, htk⟩
            · have : l' = [] := List.eq_nil_of_length_eq_zero h3
              subst this
              rw [h2] at hβ
              cases hβ
              have : n.toNat = 0 := by omega
              rw [this]
              exact ⟨none, 0, rfl, Nat.le_refl _, fun h => absurd (by simp) h⟩
            · rw [h2] at hβ
              cases hβ
              have hlen : (l'.take n.toNat).length = n.toNat := by rw [List.length_take]; omega
              refine ⟨_, c, by rw [hlen], by omega, fun _ => ⟨g, 0, cs.take (n.toNat * S.sz t'), rfl, ⟨(i, s), List.mem_cons_self, hown g (by rw [h2]; rfl)⟩, ?_, reps_imp (fun x c hx => LP.mono _ _ _ _ _ _ ?_ hx) (reps_take _ hrep)⟩⟩
              · have := (own_cells hr h2).2.sub 0 (n.toNat * S.sz t')
                simpa using this
              · rintro k (⟨hk, _⟩ | ⟨x, hx, hk⟩)
                · exact ⟨(i, s), List.mem_cons_self, hk⟩
                · exact ⟨x, List.mem_cons_of_mem _ hx, hk⟩
      · cases h
    · cases h
  | sub i sv j =>
    simp only [asList] at h
    split at h
    · rename_i s t0 c te d' sv' l' hh ho
      split at h
      · rename_i ht
        subst ht
        simp only [Option.some.injEq, Prod.mk.injEq] at h
        obtain ⟨rfl, rfl⟩ := h
        obtain ⟨ho, hval, _, _⟩ := lookS_ok ho
        simp only at ho hval
        obtain ⟨hi, hs, hobj⟩ := I.obj i s _ ho
        obtain ⟨g, m, cp, cs, cj, B, R, A⟩ := sub_at LP hobj hval (hv.2.2.2.2 _ _ _ _ _ _ _ ho)
        refine ⟨fun x hx => ?_, valid_iff.2 fun x hx => ?_, Rd.own LP A.irow (fun k hk => ⟨(i, s), List.mem_singleton.2 rfl, (A.hB _ _ (A.iblk k hk)).1⟩) (reps_imp (fun x c hx => LP.mono _ _ _ _ _ _ (fun _ h => h.elim) hx) A.ireps)⟩
        · rw [List.mem_singleton] at hx; subst hx; exact ⟨hi, hs⟩
        · rw [List.mem_singleton] at hx; subst hx; exact ⟨_, ho⟩
      · cases h
    · cases h
  | tail i t0 n =>
    simp only [asList] at h
    split at h
    · rename_i s t' d' l' ho
      split at h
      · rename_i ht
        subst ht
        obtain ⟨hbb, h⟩ := bif_some' h
        simp only [Bool.and_eq_true] at hbb
        obtain ⟨hval, ht0⟩ := hbb
        have ht0 := beq_eq' ht0
        subst ht0
        simp only [Option.some.injEq, Prod.mk.injEq] at h
        obtain ⟨rfl, rfl⟩ := h
        obtain ⟨⟨so, hso, _⟩, hi, hs, hd, hown, cs, hr, hreps⟩ := lookR_ok LP I ho
        obtain ⟨_, h0, A, m, c, hβ, hnm, A', c', rfl, hc', hA⟩ := hv
        refine ⟨?_, ?_, ?_⟩
        · intro x hx
          rcases List.mem_cons.1 hx with rfl | hx
          · exact ⟨hi, hs⟩
          · exact hd x hx
        · rw [valid_iff] at hval ⊢
          intro x hx
          rcases List.mem_cons.1 hx with rfl | hx
          · exact ⟨_, hso⟩
          · exact hval x hx
        · have hrep := hreps hval
          rcases hr.2 with ⟨h2, h3⟩ | ⟨g, cap, cur, h2, _, hh, hnc, _, _, htk⟩
          · have : l' = [] := List.eq_nil_of_length_eq_zero h3
            subst this
            rw [h2] at hβ
            cases hβ
            refine ⟨A', c', by simp, by simp, fun h => absurd (by simp) h⟩
          · rw [h2] at hβ
            cases hβ
            have hlen : (l'.drop n.toNat).length = l'.length - n.toNat := List.length_drop
            refine ⟨A', c', by rw [hlen], by omega, fun hne => ?_⟩
            have hlt : n.toNat < l'.length := by
              rcases Nat.lt_or_ge n.toNat l'.length with h | h
              · exact h
              · exact absurd (List.drop_eq_nil_of_le h) hne
            obtain ⟨g', hg', rfl⟩ := hA hlt
            cases hg'
            refine ⟨g, n.toNat * S.sz t0, (cs.drop (n.toNat * S.sz t0)).take (cs.length), rfl, ⟨(i, s), List.mem_cons_self, hown g (by rw [h2]; rfl)⟩, ?_, ?_⟩
            · have := (own_cells hr h2).2.sub (n.toNat * S.sz t0) cs.length
              simpa using this
            · rw [List.take_of_length_le (by rw [List.length_drop]; omega)]
              refine reps_imp (fun x c hx => LP.mono _ _ _ _ _ _ ?_ hx) (reps_drop _ hrep)
              rintro k (⟨hk, _⟩ | ⟨x, hx, hk⟩)
              · exact ⟨(i, s), List.mem_cons_self, hk⟩
              · exact ⟨x, List.mem_cons_of_mem _ hx, hk⟩
      · cases h
    · cases h
  | _ => simp [asList] at h
theorem asList_ok (L : Laws S Q) {e : Env S.T} (I : Inv Q e) {t : TypeId} {c : SC S.T} {v : Value} (hv : hold Q e v c) {l : List (S.T t)} {d : Dp} (h : asList S.ax e.ob t c = some (l, d)) :
    dlt e.U d ∧ valid e.ob d = true ∧ Rd Q t (e.Fd d) e.w v l := asList_ok' L.toPre I hv h
theorem reps_one (L : Laws S Q) {t : TypeId} {F : Nat → Prop} {w : World} : ∀ {l : List (S.T t)} {cs : List Value}, reps (Q.rep t F w) (S.sz t) l cs → ∀ u, u ∈ cs → u.oneCell' = true
  | [], cs, h, u, hu => by simp [reps] at h; rw [h] at hu; cases hu
  | x :: l, _, ⟨c0, c1, e, hl, hx, hr⟩, u, hu => by
    rw [e] at hu
    rcases List.mem_append.1 hu with hu | hu
    · exact L.one _ _ _ _ _ hx u hu
    · exact reps_one L hr u hu
theorem info_parts' (L : Laws S Q) {t : TypeId} {d : TD} (h : S.td t = some d) : ∃ i z, S.P.info? t = some i ∧ i.zero = some z ∧ i.size = S.sz t ∧ i.bytes = bytesOf S t ∧ z.cells = (d.zero.map ZC.val).toArray ∧ z.cells.size = S.sz t := by
  obtain ⟨i, h1, h2, h3, z, h4, h5⟩ := (L.td t d h).info
  have hs : S.sz t = d.size := by unfold Sig.sz; rw [h]
  have hb : bytesOf S t = d.bytes := by unfold bytesOf; rw [h]
  exact ⟨i, z, h1, h4, by rw [hs]; exact h2, by rw [hb]; exact h3, h5, by rw [h5, hs]; simpa using (L.td t d h).zlen⟩
structure Base (Q : Kind S) (e : Env S.T) (t : TypeId) (v : Value) (id : Option Nat) (d : Dp) (l : List (S.T t)) (cs : List Value) : Prop where
  own : e.w.ownsRow 0 t (S.sz t) v l.length cs
  dl : dlt e.U d
  ids : ∀ i, id = some i → ∃ s so, lookB i e.ob = some (s, so) ∧ so ≠ .ext
  blk : ∀ k, v.ownBlock = some k → ∃ i, id = some i ∧ e.ok i k
  rep : reps (Q.rep t (fun k => ((∃ i, id = some i ∧ e.ok i k) ∧ some k ≠ v.ownBlock) ∨ e.Fd d k) e.w) (S.sz t) l cs
theorem append_cells (L : Laws S Q) {w : World} {t sl ty : TypeId} {v : Value} {n : Nat} {cs : List Value} (own : w.ownsRow 0 t (S.sz t) v n cs) {A : Option Addr} {len c : Nat} {news : List Value} (hnl : news.length = len * S.sz t) (hsrc : len ≠ 0 → ∃ g o, A = some ⟨g, o, none⟩ ∧ cellsAt w g o news) (hone : ∀ u, u ∈ news → u.oneCell' = true)
    (hsl : S.P.underlying sl = some (.slice t)) (hk : S.known t = true) (hs1 : 1 ≤ S.sz t) (hb1 : 1 ≤ bytesOf S t) (hroom : (n + len) * bytesOf S t ≤ 140737488351232) :
    ∃ v' w1, (Builtin.append_ #[sl, sl] ty #[v, .slice A len c]).run S.P w = .ok v' w1 ∧ w1.ownsRow 0 t (S.sz t) v' (n + len) (cs ++ news) ∧ w.grownBy w1 v.ownBlock ∧ (v'.ownBlock = v.ownBlock ∨ v'.ownBlock = some w.heap.size) ∧ v'.oneCell' = true := by
  obtain ⟨td, htd⟩ : ∃ td, S.td t = some td := by
    unfold Sig.known at hk
    cases h : S.td t with
    | none => rw [h] at hk; cases hk
    | some d => exact ⟨d, rfl⟩
  obtain ⟨i, z, hi, hz, hsz, hby, _, hzs⟩ := info_parts' L htd
  have hle : n + len ≤ 140737488351232 := Nat.le_trans (Nat.le_mul_of_pos_right _ (by omega)) hroom
  by_cases hm : len = 0
  · subst hm
    have hnil : news = [] := List.eq_nil_of_length_eq_zero (by simpa using hnl)
    subst hnil
    cases A with
    | none =>
      refine ⟨v, w, ?_, by simpa using own, ⟨rfl, rfl, rfl, Nat.le_refl _, fun _ _ _ => rfl⟩, .inl rfl, own_one own⟩
      rcases own.2 with ⟨rfl, h0⟩ | ⟨g, cap, cur, rfl, _, _, hnc, _⟩
      · simp [Builtin.append_, run_underlying hsl, sizeOf, typeInfo, hi, Builtin.lenOf, Builtin.firstCells]
      · simp [Builtin.append_, run_underlying hsl, sizeOf, typeInfo, hi, Builtin.lenOf, Builtin.firstCells, hnc, storeCells]
    | some ad =>
      obtain ⟨v', w1, h1, h2, h3, _, h5⟩ := run_append_own_at (P := S.P) w 0 sl ty t i z (S.sz t) (bytesOf S t) hsl hi hz hsz hby hzs hs1 v n cs own ad 0 c [] (by simp) (by simp) (by simp) (by simp only [maxLen]; simp at hle; omega) (by simp at hroom ⊢; omega) (Nat.zero_le _)
      exact ⟨v', w1, h1, h2, h3, h5, own_one h2⟩
  · obtain ⟨g, o, rfl, hcs⟩ := hsrc hm
    obtain ⟨v', w1, h1, h2, h3, _, h5⟩ := run_append_own_at (P := S.P) w 0 sl ty t i z (S.sz t) (bytesOf S t) hsl hi hz hsz hby hzs hs1 v n cs own ⟨g, o, none⟩ len c news hnl
      (fun j u hu => by rw [add_off]; exact hcs.cell j u hu) hone (by simp only [maxLen]; omega) (by omega) (Nat.zero_le _)
    exact ⟨v', w1, h1, h2, h3, h5, own_one h2⟩
theorem append_base (L : Laws S Q) {e : Env S.T} (I : Inv Q e) {fr : Nat} (hfr : ¬ e.U fr) {t sl ty : TypeId} {v : Value} {id : Option Nat} {d : Dp} {l : List (S.T t)} {cs : List Value} (hb : Base Q e t v id d l cs) (hvd : valid e.ob d = true)
    {q : Dp} {m : List (S.T t)} {x : Value} (hqd : dlt e.U q) (hqv : valid e.ob q = true) (hx : Rd Q t (e.Fd q) e.w x m)
    (hni : ∀ i, id = some i → noId i q = true ∧ noId i d = true) (hsl : S.P.underlying sl = some (.slice t)) (hk : S.known t = true) (hs1 : 1 ≤ S.sz t) (hb1 : 1 ≤ bytesOf S t) (hroom : (l.length + m.length) * bytesOf S t ≤ 140737488351232) :
    ∃ v' w1, (Builtin.append_ #[sl, sl] ty #[v, x]).run S.P e.w = .ok v' w1 ∧
      Eff Q e fr v' w1 ⟨.v (.c (.row fr)), (id.toList.map fun i => (i, none)) ++ [(fr, some (fr, .row t (bif S.flat t then [] else d ++ q) (l ++ m)))]⟩ := by
  obtain ⟨A, c, rfl, hc, hsrc⟩ := hx
  have hrun : ∃ v' w1 news, (Builtin.append_ #[sl, sl] ty #[v, .slice A m.length c]).run S.P e.w = .ok v' w1 ∧ w1.ownsRow 0 t (S.sz t) v' (l.length + m.length) (cs ++ news) ∧ e.w.grownBy w1 v.ownBlock ∧ (v'.ownBlock = v.ownBlock ∨ v'.ownBlock = some e.w.heap.size) ∧ reps (Q.rep t (e.Fd q) e.w) (S.sz t) m news ∧ v'.oneCell' = true := by
    rcases Classical.em (m = []) with rfl | hm
    · obtain ⟨v', w1, h1, h2, h3, h4, h5⟩ := append_cells L (ty := ty) hb.own (A := A) (len := 0) (c := c) (news := []) (by simp) (fun h => absurd rfl h) (fun u hu => by cases hu) hsl hk hs1 hb1 (by simpa using hroom)
      exact ⟨v', w1, [], h1, h2, h3, h4, rfl, h5⟩
    · obtain ⟨g, o, news, rfl, hg, hcs, hr⟩ := hsrc hm
      obtain ⟨v', w1, h1, h2, h3, h4, h5⟩ := append_cells L (ty := ty) hb.own (A := some ⟨g, o, none⟩) (len := m.length) (c := c) (news := news) (reps_len hr) (fun _ => ⟨g, o, rfl, hcs⟩) (reps_one L hr) hsl hk hs1 hb1 hroom
      exact ⟨v', w1, news, h1, h2, h3, h4, hr, h5⟩
  obtain ⟨v', w1, news, h1, h2, h3, h4, h5, h6⟩ := hrun
  refine ⟨v', w1, h1, ?_⟩
  let so' : SO S.T := .row t (bif S.flat t then [] else d ++ q) (l ++ m)
  let F : Nat → Prop := fun k => (∃ i, id = some i ∧ e.ok i k) ∨ (e.w.heap.size ≤ k ∧ k < w1.heap.size)
  let ob' : Ob S.T := putB fr (fr, so') (id.toList.foldl (fun ob i => delB i ob) e.ob)
  let e' : Env S.T := { w := w1, β := fun a => if a = fr then v' else e.β a, ok := fun a => if a = fr then F else e.ok a, ob := ob', U := fun a => e.U a ∨ a = fr }
  have hob' : ∀ a x, lookB a ob' = some x → (a = fr ∧ x = (fr, so')) ∨ (a ≠ fr ∧ id ≠ some a ∧ lookB a e.ob = some x) := by
    intro a x hx
    rcases lookB_put hx with h | ⟨hne, h⟩
    · exact .inl h
    · refine .inr ⟨hne, ?_⟩
      cases id with
      | none => exact ⟨by simp, h⟩
      | some i =>
        obtain ⟨h8, h9⟩ := lookB_del h
        exact ⟨by simpa using fun e1 => h8 e1.symm, h9⟩
  have hheap : ∀ k, k < e.w.heap.size → (∀ a, id = some a → ¬ e.ok a k) → w1.heap[k]? = e.w.heap[k]? := by
    intro k hk hn
    refine h3.block k hk fun e1 => ?_
    obtain ⟨i, hi, hki⟩ := hb.blk k e1.symm
    exact hn i hi hki
  have hfd : ∀ d : Dp, (∀ i, id = some i → noId i d = true) → valid e.ob d = true → ∀ k, e.Fd d k → some k ≠ v.ownBlock ∧ w1.heap[k]? = e.w.heap[k]? := by
    intro d hnd hv k hk
    have hkl := Fd_lt I hv k hk
    have hno : ∀ a, id = some a → ¬ e.ok a k := by
      intro a ha hak
      obtain ⟨x, hx, hxk⟩ := hk
      rw [valid_iff] at hv
      obtain ⟨so2, h8⟩ := hv x hx
      obtain ⟨s3, so3, h9, _⟩ := hb.ids a ha
      have hne : x.1 ≠ a := by
        have := List.all_eq_true.1 (hnd a ha) x hx
        intro e1
        rw [e1, Nat.beq_refl] at this
        cases this
      exact I.dis _ _ _ _ _ _ h8 h9 hne k hxk hak
    refine ⟨fun e1 => ?_, hheap k hkl hno⟩
    obtain ⟨i, hi, hki⟩ := hb.blk k e1.symm
    exact hno i hi hki
  obtain ⟨g1, g2⟩ := event L I w1 v' F ob' so' id fr fr hfr (.inl rfl) hb.ids hob' (by simp [so'])
    (fun k hk => by
      rcases hk with ⟨i, hi, hk⟩ | hk
      · obtain ⟨s3, so3, h9, _⟩ := hb.ids i hi
        exact ⟨Nat.lt_of_lt_of_le (I.lt _ _ _ h9 k hk) h3.size, .inl ⟨i, hi, hk⟩⟩
      · exact ⟨hk.2, .inr hk.1⟩)
    h3.os h3.tape h3.output h3.size hheap h6 e' rfl
    (fun hH => by
      have hβ : e'.β fr = v' := by simp [e']
      have hok : e'.ok fr = F := by simp [e']
      have hFd : ∀ d' : Dp, dlt e.U d' → (∀ x, x ∈ d' → x ∈ d ++ q) → ∀ k, e.Fd d' k → e'.Fd (d ++ q) k := by
        rintro d' hd' hsub k ⟨x, hx, hk⟩
        refine ⟨x, hsub x hx, ?_⟩
        show (if x.1 = fr then F else e.ok x.1) k
        rw [if_neg (show ¬ x.1 = fr from fun e1 => hfr (e1 ▸ (hd' x hx).1))]
        exact hk
      refine ⟨fun x hx => ?_, fun k hk => ?_, cs ++ news, ?_, fun _ => ?_⟩
      · have hx : x ∈ d ++ q := by
          cases hfl : S.flat t with
          | true => rw [hfl] at hx; cases hx
          | false => rw [hfl] at hx; exact hx
        have : e.U x.1 ∧ e.U x.2 := (List.mem_append.1 hx).elim (hb.dl x) (hqd x)
        exact ⟨.inl this.1, .inl this.2⟩
      · rw [hβ] at hk
        rw [hok]
        rcases h4 with h4 | h4
        · exact .inl (hb.blk k (h4 ▸ hk))
        · rw [h4] at hk
          cases hk
          refine .inr ⟨Nat.le_refl _, ?_⟩
          rcases h2.2 with ⟨rfl, _⟩ | ⟨g, _, _, rfl, _, hh, _⟩
          · cases h4
          · have : g = e.w.heap.size := by simpa [Value.ownBlock] using h4
            rw [← this]
            exact (Array.getElem?_eq_some_iff.1 hh).1
      · rw [hβ, List.length_append]
        exact h2
      · rw [hok, hβ]
        have hne : ∀ k, k < e.w.heap.size → some k ≠ v.ownBlock → some k ≠ v'.ownBlock := by
          intro k hk hn
          rcases h4 with h4 | h4
          · rw [h4]; exact hn
          · rw [h4]; intro e1; cases e1; omega
        cases hfl : S.flat t with
        | true => exact reps_app (reps_imp (fun x c hx => L.flat _ _ _ _ _ _ _ hfl hx) hb.rep) (reps_imp (fun x c hx => L.flat _ _ _ _ _ _ _ hfl hx) h5)
        | false =>
        refine reps_app (reps_imp (fun x c hx => ?_) hb.rep) (reps_imp (fun x c hx => ?_) h5)
        · have hin : ∀ k, (((∃ i, id = some i ∧ e.ok i k) ∧ some k ≠ v.ownBlock) ∨ e.Fd d k) → some k ≠ v.ownBlock ∧ k < e.w.heap.size := by
            rintro k (⟨⟨i, hi, hk⟩, hn⟩ | hk)
            · obtain ⟨s3, so3, h9, _⟩ := hb.ids i hi
              exact ⟨hn, I.lt _ _ _ h9 k hk⟩
            · exact ⟨(hfd d (fun i hi => (hni i hi).2) hvd k hk).1, Fd_lt I hvd k hk⟩
          refine L.mono _ _ _ _ _ _ ?_ (L.move _ _ _ w1 _ _ (fun k hk => h3.block k (hin k hk).2 (hin k hk).1) hx)
          rintro k (⟨hk, hn⟩ | hk)
          · refine .inl ⟨.inl hk, hne k (hin k (.inl ⟨hk, hn⟩)).2 hn⟩
          · exact .inr (hFd d hb.dl (fun x hx => List.mem_append_left _ hx) k hk)
        · refine L.mono _ _ _ _ _ _ ?_ (L.move _ _ _ w1 _ _ (fun k hk => (hfd q (fun i hi => (hni i hi).1) hqv k hk).2) hx)
          exact fun k hk => .inr (hFd q hqd (fun x hx => List.mem_append_right _ hx) k hk))
  refine ⟨e', rfl, g1, g2, ?_, hU8 e fr, by simp [e'], by simp [e']⟩
  show ob' = _
  cases id <;> simp [Upd.obOf, put1, ob', so']
end
end Go.Proofs.Ytheemkehedmlfaa.E
