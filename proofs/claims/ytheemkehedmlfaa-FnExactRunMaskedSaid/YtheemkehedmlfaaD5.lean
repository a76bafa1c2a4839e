import Derived.Test.YtheemkehedmlfaaD4
import Derived.Laws.IdiomCopy
set_option linter.unusedVariables false
set_option linter.unusedSimpArgs false
namespace Go.Proofs.Ytheemkehedmlfaa.E
open Go
section
variable {S : Sig} {Q : Kind S}
theorem cpL_len {β : Type} {n : Nat} {q l : List β} (h : n ≤ l.length) : (cpL n q l).length = l.length := by
  unfold cpL
  simp only [List.length_append, List.length_take, List.length_drop]
  omega
theorem reps_cpL {α : Type} {R : α → List Value → Prop} {n : Nat} {q l : List α} {cs vs : List Value} (hl : reps R 1 l cs) (hv : reps R 1 (q.take (l.length - n)) vs) : reps R 1 (cpL n q l) (splice n vs cs) := by
  have h1 := reps_len hl
  have h2 := reps_len hv
  rw [List.length_take] at h2
  unfold cpL splice
  rw [List.append_assoc]
  refine reps_app ?_ (reps_app hv ?_)
  · have := reps_take n hl
    rwa [Nat.mul_one] at this
  · rcases Nat.le_total q.length (l.length - n) with h | h
    · have := reps_drop (n + q.length) hl
      rw [Nat.mul_one] at this
      rwa [show vs.length = q.length by omega]
    · rw [List.drop_eq_nil_of_le (by omega), List.drop_eq_nil_of_le (by omega)]
      rfl
theorem copy_row_run (L : Laws S Q) {t T1 T2 ty : TypeId} (hsz : S.sz t = 1) (hk : S.known t = true) (hu : S.P.underlying T1 = some (.slice t)) {w : World} {vr : Value} {n : Nat} {cs : List Value} (hr : w.ownsRow 0 t (S.sz t) vr n cs)
    {o : Nat} (ho : o ≤ n) {A' : Option Addr} {c' : Nat} (hA : o < n → ∃ g m cp, vr = .slice (some ⟨g, 0, none⟩) m cp ∧ A' = some ⟨g, o, none⟩) {B : Option Addr} {c2 : Nat} {q : List (S.T t)} {F : Nat → Prop} (hq : Rd Q t F w (.slice B q.length c2) q) :
    ∃ w1 vs, vs.length = min q.length (n - o) ∧ reps (Q.rep t F w) 1 (q.take (n - o)) vs ∧ (Builtin.copy_ #[T1, T2] ty #[.slice A' (n - o) c', .slice B q.length c2]).run S.P w = .ok (goInt vs.length) w1 ∧
      (∀ k, some k ≠ vr.ownBlock → w1.heap[k]? = w.heap[k]?) ∧ w1.heap.size = w.heap.size ∧ w1.os = w.os ∧ w1.tape = w.tape ∧ w1.output = w.output ∧ w1.ownsRow 0 t (S.sz t) vr n (splice o vs cs) := by
  obtain ⟨i, hi, hi2⟩ := td_size L hk
  have hs : (S.P.info? t).map (·.size) = some 1 := by rw [hi, Option.map_some, hi2, hsz]
  rcases Nat.eq_zero_or_pos (min q.length (n - o)) with hz | hp
  · refine ⟨w, [], by rw [hz]; rfl, ?_, run_copy_none w T1 T2 ty t A' B (n - o) c' q.length c2 hu hs hz, fun _ _ => rfl, rfl, rfl, rfl, rfl, ?_⟩
    · have : q.take (n - o) = [] := by
        apply List.eq_nil_of_length_eq_zero
        rw [List.length_take]; omega
      rw [this]; rfl
    · unfold splice
      simpa using hr
  · have hlt : o < n := by omega
    obtain ⟨g, m, cp, hvr, rfl⟩ := hA hlt
    have hqn : q ≠ [] := by rintro rfl; simp at hp
    obtain ⟨B', c3, hB, hc3, hq⟩ := hq
    cases hB
    obtain ⟨g2, o2, cq, rfl, hF, hcq, hrq⟩ := hq hqn
    rw [hsz] at hrq hr ⊢
    have hlq := reps_len hrq
    rw [Nat.mul_one] at hlq
    obtain ⟨hlen, hr2⟩ := hr
    rw [hvr] at hr2
    rcases hr2 with ⟨h2, _⟩ | ⟨g', cap, cur, h2, hb0, hh, hnc, hcm, hcs, htk⟩
    · cases h2
    cases h2
    have hct : cur.toList.length = cur.size := Array.length_toList
    rw [Nat.mul_one] at hlen hcs htk
    have hvl : (cq.take (n - o)).length = min q.length (n - o) := by rw [List.length_take, hlq]; omega
    have hone : ∀ v, v ∈ cq.take (n - o) → v.oneCell' = true := fun v hv => reps_one L (by rw [hsz]; exact hrq) v (List.mem_of_mem_take hv)
    have hrun := run_copy_row S.P w T1 T2 ty t g o (n - o) c' ⟨g2, o2, none⟩ q.length c2 cur t (cq.take (n - o)) hu hs hh hvl (fun j v hv => by
      have hv' : cq[j]? = some v := by
        rw [List.getElem?_take] at hv
        split at hv
        · exact hv
        · cases hv
      rw [add_off]
      exact hcq.cell j v hv') (by omega) hone
    refine ⟨_, cq.take (n - o), hvl, ?_, hrun, fun k hk => setRow_other w g k _ fun e1 => hk (by rw [hvr, e1]; rfl), by simp, rfl, rfl, rfl, ?_⟩
    · have := reps_take (n - o) hrq
      rwa [Nat.mul_one] at this
    · generalize cq.take (n - o) = vs at hvl
      refine ⟨by rw [splice_len (by omega)]; omega, .inr ⟨g, cp, _, hvr, Nat.zero_le _, setRow_heap w g _ _ t (0, 0) hh, hnc, hcm, ?_, ?_⟩⟩
      · have : (splice o vs cur.toList).length = cur.size := by rw [splice_len (by omega), hct]
        unfold splice at this
        rw [List.size_toArray, this, Nat.mul_one]
        exact hcs
      · rw [← htk, Nat.mul_one]
        have hcur : cur.toList = cur.toList.take n ++ cur.toList.drop n := (List.take_append_drop _ _).symm
        have hlen1 : (cur.toList.take n).length = n := by rw [List.length_take, hct]; omega
        generalize cur.toList.take n = A at hcur hlen1 ⊢
        generalize cur.toList.drop n = B at hcur
        show List.take _ (splice _ _ cur.toList) = _
        rw [hcur]
        have := splice_at (off := o) (n := vs) (p := []) (c := A) (q := B) (by omega)
        simp only [List.length_nil, Nat.zero_add, List.nil_append] at this
        have h9 : (splice o vs A).length = n := by rw [splice_len (by omega)]; exact hlen1
        rw [this, List.take_append_of_le_length (by omega), List.take_of_length_le (by omega)]
theorem copyR_ok (L : Laws S Q) {e : Env S.T} (I : Inv Q e) {fr : Nat} (hfr : ¬ e.U fr) {t T1 T2 ty : TypeId} (hsz : S.sz t = 1) (hk : S.known t = true) (hfl : S.flat t = true) (hu : S.P.underlying T1 = some (.slice t)) {i : Nat} {o : Nat} {q : List (S.T t)} {F : Nat → Prop} {B : Option Addr} {c2 : Nat}
    (hq : Rd Q t F e.w (.slice B q.length c2) q) {va : Value} (hva : ∃ A m c, e.β i = .slice A m c ∧ o ≤ m ∧ ∃ A' c', va = .slice A' (m - o) c' ∧ (o < m → ∃ g, A = some ⟨g, 0, none⟩ ∧ A' = some ⟨g, o, none⟩)) {u : Upd S.T} (h : (copyR e.ob fr i t o q).Can u) :
    ∃ v' w1, (Builtin.copy_ #[T1, T2] ty #[va, .slice B q.length c2]).run S.P e.w = .ok v' w1 ∧ Eff Q e fr v' w1 u := by
  unfold copyR at h
  split at h
  rotate_left
  · exact h.elim
  rename_i s t' d l ho
  split at h
  rotate_left
  · exact h.elim
  rename_i ht
  subst ht
  obtain ⟨hvd, h⟩ := can_guard h
  have h := can_ret h
  subst h
  obtain ⟨hi, hs, hdl, hown, cs, hr, hreps⟩ := I.obj i s _ ho
  have hreps := hreps hvd
  obtain ⟨A, m, c, hβ, hom, A', c', rfl, hA⟩ := hva
  have hm : m = l.length := by
    rcases hr.2 with ⟨h2, h3⟩ | ⟨g, cap, cur, h2, _⟩
    · rw [hβ] at h2; cases h2; exact h3.symm
    · rw [hβ] at h2; cases h2; rfl
  subst hm
  obtain ⟨w1, vs, hvl, hvr, hrun, hw1o, hw1s, hos, htp, hou, hr1⟩ := copy_row_run L (T2 := T2) (ty := ty) (c' := c') hsz hk hu hr hom (A' := A') (fun hlt => by
    obtain ⟨g, rfl, rfl⟩ := hA hlt
    exact ⟨g, _, _, hβ, rfl⟩) hq
  refine ⟨_, w1, hrun, ?_⟩
  have hlt := I.lt i s _ ho
  let so' : SO S.T := .row t' d (cpL o q l)
  let e' : Env S.T := { w := w1, β := fun a => if a = i then e.β i else e.β a, ok := fun a => if a = i then e.ok i else e.ok a, ob := putB i (fr, so') e.ob, U := fun a => e.U a ∨ a = fr }
  obtain ⟨h1, h2⟩ := event L I w1 (e.β i) (e.ok i) (putB i (fr, so') e.ob) so' (some i) i fr hfr (.inr ⟨rfl, rfl⟩)
    (fun a ha => by cases ha; exact ⟨s, _, ho, by simp⟩) (fun a x hx => (lookB_put hx).imp id fun ⟨p, q⟩ => ⟨p, by simpa using fun e1 => p e1.symm, q⟩) (by simp [so']) (fun k hk => ⟨by rw [hw1s]; exact hlt k hk, .inl ⟨i, rfl, hk⟩⟩) hos htp hou (by omega)
    (fun k hk hn => hw1o k fun e1 => hn i rfl (hown k e1.symm)) (I.one i) e' rfl
    (fun hH => by
      have hβ' : e'.β i = e.β i := by simp [e']
      have hok' : e'.ok i = e.ok i := by simp [e']
      refine ⟨hdl.mono fun a h => .inl h, by rw [hβ', hok']; exact hown, splice o vs cs, ?_, fun _ => ?_⟩
      · rw [hβ', cpL_len hom]
        exact hr1
      · have k1 : reps (Q.rep t' (fun _ => False) e.w) 1 l cs := by
          rw [hsz] at hreps
          exact reps_imp (fun x c hx => L.flat _ _ _ _ _ _ _ hfl hx) hreps
        have k2 : reps (Q.rep t' (fun _ => False) e.w) 1 (q.take (l.length - o)) vs := reps_imp (fun x c hx => L.flat _ _ _ _ _ _ _ hfl hx) hvr
        rw [hsz]
        exact reps_imp (fun x c hx => L.flat _ _ _ _ _ _ _ hfl hx) (reps_cpL k1 k2))
  refine ⟨e', rfl, h1, h2, by simp [Upd.obOf, put1, e', so'], hU8 e fr, ?_⟩
  show goInt vs.length = .int .i64 (cpN o q l)
  unfold goInt cpN
  rw [hvl]
theorem copyS_ok (L : Laws S Q) {e : Env S.T} (I : Inv Q e) {fr : Nat} (hfr : ¬ e.U fr) {t T1 T2 ty : TypeId} (hsz : S.sz t = 1) (hk : S.known t = true) (hu : S.P.underlying T1 = some (.slice t)) {i sv : Nat} {j : Int} {q : List (S.T t)} {F : Nat → Prop} {B : Option Addr} {c2 : Nat}
    (hq : Rd Q t F e.w (.slice B q.length c2) q) {va : Value} (hva : hold Q e va (.sub i sv j)) {u : Upd S.T} (h : (copyS e.ob fr i sv j t q).Can u) :
    ∃ v' w1, (Builtin.copy_ #[T1, T2] ty #[va, .slice B q.length c2]).run S.P e.w = .ok v' w1 ∧ Eff Q e fr v' w1 u := by
  unfold copyS at h
  split at h
  rotate_left
  · exact h.elim
  rename_i s t0 c te d sv' l hh hlk
  split at h
  rotate_left
  · exact h.elim
  rename_i ht
  subst ht
  obtain ⟨hni, h⟩ := can_guard h
  have h := can_ret h
  subst h
  obtain ⟨ho, hval, h1, h2⟩ := lookS_ok hlk
  simp only at ho hval h1 h2
  clear hlk
  subst h1 h2
  obtain ⟨hi, hs, ho1⟩ := I.obj i s _ ho
  obtain ⟨_, hsv, h0, _, hsel⟩ := hva
  obtain ⟨g, m, cp, cs, cj, B', R, A⟩ := sub_at L.toPre ho1 hval (hsel _ _ _ _ _ _ _ ho)
  have hva : ∃ A' c', va = .slice A' (S.ax.gsl t0 c te (get t0 l j)).length c' ∧ (0 < (S.ax.gsl t0 c te (get t0 l j)).length → ∃ g m cp, va = .slice (some ⟨g, 0, none⟩) m cp ∧ A' = some ⟨g, 0, none⟩) := by
    rcases A.irow.2 with ⟨h2, h3⟩ | ⟨g, cap, cur, h2, _⟩
    · have h3 : (S.ax.gsl t0 c te (get t0 l j)).length = 0 := h3
      refine ⟨none, 0, by rw [h2, h3], fun h => ?_⟩
      rw [h3] at h; cases h
    · exact ⟨_, _, h2, fun _ => ⟨g, _, _, h2, rfl⟩⟩
  obtain ⟨A', c', hva', hA'⟩ := hva
  obtain ⟨w1, vs, hvl, hvr, hrun, hw1o, hw1s, hos, htp, hou, hr1⟩ := copy_row_run L (T2 := T2) (ty := ty) (c' := c') (o := 0) hsz hk hu A.irow (Nat.zero_le _) (A' := A') hA' hq
  refine ⟨_, w1, by rw [hva']; exact hrun, ?_⟩
  have hlt := I.lt i s _ ho
  have hobk : (e.β i).ownBlock = some g := by rw [A.β]; rfl
  have hin : ∀ k, some k = va.ownBlock → e.ok i k ∧ k ≠ g ∧ B' j.toNat k := fun k hk => ⟨(A.hB _ _ (A.iblk k hk.symm)).1, (A.hB _ _ (A.iblk k hk.symm)).2, A.iblk k hk.symm⟩
  have hinew : reps (Q.rep te (fun _ => False) w1) (S.sz te) (cpL 0 q (S.ax.gsl t0 c te (get t0 l j))) (splice 0 vs cj) := by
    have k1 : reps (Q.rep te (fun _ => False) w1) 1 (S.ax.gsl t0 c te (get t0 l j)) cj := by
      have := A.ireps
      rw [hsz] at this
      exact reps_imp (fun x c hx => L.flat _ _ _ _ _ _ _ A.flat hx) this
    have k2 : reps (Q.rep te (fun _ => False) w1) 1 (q.take ((S.ax.gsl t0 c te (get t0 l j)).length - 0)) vs := reps_imp (fun x c hx => L.flat _ _ _ _ _ _ _ A.flat hx) hvr
    rw [hsz]
    exact reps_cpL k1 k2
  let so' : SO S.T := .deep t0 c te d sv' (l.set j.toNat (S.ax.ssl t0 c te (get t0 l j) (cpL 0 q (S.ax.gsl t0 c te (get t0 l j))))) none
  let e' : Env S.T := { w := w1, β := fun a => if a = i then e.β i else e.β a, ok := fun a => if a = i then e.ok i else e.ok a, ob := putB i (fr, so') e.ob, U := fun a => e.U a ∨ a = fr }
  have hee : ∀ d k, e.Fd d k → e'.Fd d k := by
    rintro d k ⟨x, hx, hk⟩
    refine ⟨x, hx, ?_⟩
    show (if x.1 = i then e.ok i else e.ok x.1) k
    split
    · rename_i hq; rw [← hq]; exact hk
    · exact hk
  have hF : ∀ b, (R b ∨ e.Fd d b) → (R b ∨ e'.Fd d b) ∧ w1.heap[b]? = e.w.heap[b]? := by
    rintro b (hk | hk)
    · exact ⟨.inl hk, hw1o b fun e1 => (A.hR b hk).2.2 _ (hin b e1).2.2⟩
    · exact ⟨.inr (hee _ b hk), hw1o b fun e1 => Fd_off I ho hni hval b hk (hin b e1).1⟩
  obtain ⟨h1, h2⟩ := event L I w1 (e.β i) (e.ok i) (putB i (fr, so') e.ob) so' (some i) i fr hfr (.inr ⟨rfl, rfl⟩)
    (fun a ha => by cases ha; exact ⟨s, _, ho, by simp⟩) (fun a x hx => (lookB_put hx).imp id fun ⟨p, q⟩ => ⟨p, by simpa using fun e1 => p e1.symm, q⟩) (by simp [so']) (fun k hk => ⟨by rw [hw1s]; exact hlt k hk, .inl ⟨i, rfl, hk⟩⟩) hos htp hou (by omega)
    (fun b hk hn => hw1o b fun e1 => hn i rfl (hin b e1).1) (I.one i) e' rfl
    (fun hH => by
      have hβ' : e'.β i = e.β i := by simp [e']
      have hok' : e'.ok i = e.ok i := by simp [e']
      refine ⟨A.xc, A.flat, A.dl.mono fun a h => .inl h, .inl hsv, by rw [hβ', hok', hobk]; rintro b hb; cases hb; exact A.own, cs, ?_, B', R, ?_, A.hBd, ?_, fun _ j' x hj' => ?_⟩
      · rw [hβ', List.length_set]
        exact ownsRow_move A.row fun b hb => by rw [hobk] at hb; cases hb; exact hw1o _ fun e1 => (hin _ e1).2.1 rfl
      · rw [hβ', hok', hobk]
        exact fun j b hb => ⟨(A.hB j b hb).1, fun e1 => (A.hB j b hb).2 (Option.some.inj e1)⟩
      · rw [hβ', hok', hobk]
        exact fun b hb => ⟨(A.hR b hb).1, fun e1 => (A.hR b hb).2.1 (Option.some.inj e1), (A.hR b hb).2.2⟩
      · show RE Q t0 c te w1 _ _ _ ∧ (_ → OE Q t0 c te w1 _ _ _)
        by_cases hjj : j' = j.toNat
        · subst hjj
          rw [List.getElem?_set_self A.lt] at hj'
          cases hj'
          refine ⟨?_, fun _ => ⟨_, splice 0 vs cj, A.hv, ?_, ?_, fun b hb => ?_⟩⟩
          · have := A.rest.move L hF
            unfold RE at this ⊢
            rw [L.ss]
            exact this
          · rw [L.gs _ _ _ _ _ A.xc, cpL_len (Nat.zero_le _)]
            exact hr1
          · rw [L.gs _ _ _ _ _ A.xc]
            exact hinew
          · exact A.iblk b hb
        · rw [List.getElem?_set_ne (fun e1 => hjj e1.symm)] at hj'
          obtain ⟨q1, q2⟩ := A.all j' x hj'
          exact ⟨q1.move L hF, fun _ => q2.move L fun b hb => ⟨hb, hw1o b fun e1 => hjj (A.hBd _ _ _ hb (hin b e1).2.2)⟩⟩)
    (by
      intro _ _ _ _ _ _ _ h
      have h : (SO.deep t0 c te d sv' (l.set j.toNat (S.ax.ssl t0 c te (get t0 l j) (cpL 0 q (S.ax.gsl t0 c te (get t0 l j))))) none : SO S.T) = _ := h
      cases h
      refine .inr ⟨⟨_, _, _, _, ho⟩, keepH_of fun b hb => ?_⟩
      rw [hobk] at hb
      cases hb
      exact hw1o _ fun e1 => (hin _ e1).2.1 rfl)
  refine ⟨e', rfl, h1, h2, by simp [Upd.obOf, put1, e', so'], hU8 e fr, ?_⟩
  show goInt vs.length = .int .i64 (cpN 0 q _)
  unfold goInt cpN
  rw [hvl]
  rfl
theorem copyX_ok (L : Laws S Q) {e : Env S.T} (I : Inv Q e) {fr : Nat} (hfr : ¬ e.U fr) {t t2 ty : TypeId} {a x : SX S.T} {v v2 : Value} (hv : holdX Q e v a) (hv2 : holdX Q e v2 x) {u : Upd S.T} (h : (copyX e.ob fr t t2 a x).Can u) :
    ∃ v' w1, (Builtin.copy_ #[t, t2] ty #[v, v2]).run S.P e.w = .ok v' w1 ∧ Eff Q e fr v' w1 u := by
  unfold copyX at h
  obtain ⟨te, hte, h⟩ := can_or h
  obtain ⟨hg, h⟩ := can_guard h
  simp only [Bool.and_eq_true] at hg
  obtain ⟨⟨hk, hfl⟩, hs1⟩ := hg
  have hs1 := beq_eq' hs1
  have hu := td_elem L hte
  split at h
  rotate_left
  · exact h.elim
  rename_i a x
  replace h := can_or h; obtain ⟨q, hq, h⟩ := h
  obtain ⟨_, _, q3⟩ := asList_ok L I hv2 hq
  have q3' := q3
  obtain ⟨B, c2, rfl, _, _⟩ := q3
  split at h
  · rename_i i
    have hh := h
    unfold copyR at hh
    split at hh
    rotate_left
    · exact hh.elim
    rename_i s t' d l ho
    obtain ⟨hi, rfl⟩ := hv
    obtain ⟨_, _, _, _, cs, hr, _⟩ := I.obj i s _ ho
    refine copyR_ok L I hfr hs1 hk hfl hu q3' ?_ h
    rcases hr.2 with ⟨h2, h3⟩ | ⟨g, cap, cur, h2, _⟩
    · exact ⟨none, 0, 0, h2, Nat.le_refl _, none, 0, h2, fun h => absurd h (Nat.lt_irrefl _)⟩
    · exact ⟨_, _, _, h2, Nat.zero_le _, _, _, h2, fun _ => ⟨g, rfl, rfl⟩⟩
  · rename_i i t0 n
    replace h := can_guard h; obtain ⟨ht, h⟩ := h
    have ht := beq_eq' ht
    subst ht
    obtain ⟨_, h0, A, m, c, hβ, hnm, A', c', rfl, hc', hA⟩ := hv
    refine copyR_ok L I hfr hs1 hk hfl hu q3' ⟨A, m, c, hβ, hnm, A', c', rfl, fun hlt => ?_⟩ h
    obtain ⟨g, e1, e2⟩ := hA hlt
    exact ⟨g, e1, by rw [e2, hs1, Nat.mul_one]⟩
  · exact copyS_ok L I hfr hs1 hk hu q3' hv h
  · exact h.elim
end
end Go.Proofs.Ytheemkehedmlfaa.E
