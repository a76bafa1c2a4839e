import Derived.Test.YtheemkehedmlfaaE5
set_option linter.unusedVariables false
set_option linter.unusedSimpArgs false
namespace Go.Proofs.Ytheemkehedmlfaa.E
open Go
theorem splice_get {β : Type} {off : Nat} {n o : List β} (h : off + n.length ≤ o.length) (i : Nat) : (splice off n o)[i]? = if i < off then o[i]? else if i < off + n.length then n[i - off]? else o[i]? := by
  unfold splice
  split
  · rename_i h1
    rw [List.append_assoc, List.getElem?_append_left (by rw [List.length_take]; omega), List.getElem?_take, if_pos h1]
  · rename_i h1
    rw [List.append_assoc, List.getElem?_append_right (by rw [List.length_take]; omega), List.length_take, Nat.min_eq_left (by omega)]
    split
    · rename_i h2
      rw [List.getElem?_append_left (by omega)]
    · rename_i h2
      rw [List.getElem?_append_right (by omega), List.getElem?_drop]
      congr 1
      omega
theorem seg_get {β : Type} (cs : List β) (j sz i : Nat) : ((cs.drop (j * sz)).take sz)[i]? = if i < sz then cs[j * sz + i]? else none := by
  rw [List.getElem?_take]
  split
  · rw [List.getElem?_drop]
  · rfl
theorem mul_lt_of {j n sz : Nat} (h : j < n) : j * sz + sz ≤ n * sz := by
  have := Nat.mul_le_mul_right sz (show j + 1 ≤ n from h)
  rw [Nat.add_mul] at this
  omega
theorem splice_other {β : Type} {j j' sz off n : Nat} {new cs : List β} (hne : j' ≠ j) (hj : j < n) (hl : cs.length = n * sz) (h : off + new.length ≤ sz) : ((splice (j * sz + off) new cs).drop (j' * sz)).take sz = (cs.drop (j' * sz)).take sz := by
  have := mul_lt_of (sz := sz) hj
  apply List.ext_getElem?
  intro i
  rw [seg_get, seg_get]
  split
  · rename_i hi
    rw [splice_get (by omega)]
    rcases Nat.lt_or_gt_of_ne hne with h1 | h1
    · have := mul_lt_of (sz := sz) h1
      rw [if_pos (by omega)]
    · have := mul_lt_of (sz := sz) h1
      rw [if_neg (by omega), if_neg (by omega)]
  · rfl
theorem splice_same {β : Type} {j sz off n : Nat} {new cs : List β} (hj : j < n) (hl : cs.length = n * sz) (h : off + new.length ≤ sz) : ((splice (j * sz + off) new cs).drop (j * sz)).take sz = splice off new ((cs.drop (j * sz)).take sz) := by
  have := mul_lt_of (sz := sz) hj
  have hlen : ((cs.drop (j * sz)).take sz).length = sz := by rw [List.length_take, List.length_drop]; omega
  apply List.ext_getElem?
  intro i
  rw [seg_get, splice_get (by omega), splice_get (by omega), seg_get]
  split
  · rename_i hi
    by_cases h1 : i < off
    · rw [if_pos (by omega), if_pos h1]
    · rw [if_neg (by omega), if_neg h1]
      by_cases h2 : i < off + new.length
      · rw [if_pos (by omega), if_pos h2]
        congr 1
        omega
      · rw [if_neg (by omega), if_neg h2]
  · rename_i hi
    rw [if_neg (by omega), if_neg (by omega)]
theorem splice_set {β : Type} {off c : Nat} {new cs : List β} {x : β} (h : off + new.length ≤ cs.length) (hc : c < off ∨ off + new.length ≤ c) : splice off new (cs.set c x) = (splice off new cs).set c x := by
  have hlen : off + new.length ≤ (cs.set c x).length := by rw [List.length_set]; exact h
  apply List.ext_getElem?
  intro i
  rw [splice_get hlen, List.getElem?_set, List.getElem?_set, splice_get h, splice_len h]
  by_cases hci : c = i
  · subst hci
    rw [if_pos rfl, if_pos rfl]
    rcases hc with hc | hc
    · rw [if_pos hc]
    · rw [if_neg (by omega), if_neg (by omega)]
  · rw [if_neg hci, if_neg hci]
theorem splice_set_in {β : Type} {off c : Nat} {new cs : List β} {x y : β} (h : off + new.length ≤ cs.length) (h1 : off ≤ c) (h2 : c < off + new.length) : (splice off new (cs.set c y)).set c x = (splice off new cs).set c x := by
  have hlen : off + new.length ≤ (cs.set c y).length := by rw [List.length_set]; exact h
  apply List.ext_getElem?
  intro i
  rw [List.getElem?_set, List.getElem?_set, splice_get hlen, splice_len hlen, splice_get h, splice_len h, List.length_set]
  by_cases hci : c = i
  · rw [if_pos hci, if_pos hci]
  · rw [if_neg hci, if_neg hci, List.getElem?_set, if_neg hci]
theorem All2.get {α β : Type} {R : α → β → Prop} : ∀ {l : List α} {m : List β} {i : Nat} {a : α} {b : β}, All2 R l m → m[i]? = some b → l[i]? = some a → R a b
  | _, _, i, a, b, .nil, h, _ => by simp at h
  | _, _, 0, a, b, .cons x _, h, h' => by simp at h h'; subst h; subst h'; exact x
  | _, _, i + 1, a, b, .cons _ r, h, h' => r.get (by simpa using h) (by simpa using h')
theorem All2.set {α β : Type} {R : α → β → Prop} {a : α} {b : β} (h : R a b) : ∀ {l : List α} {m : List β} (c : Nat), All2 R l m → All2 R (l.set c a) (m.set c b)
  | _, _, c, .nil => by simp; exact .nil
  | _, _, 0, .cons x r => by simp; exact .cons h r
  | _, _, c + 1, .cons x r => by simp; exact .cons x (r.set h c)
theorem bif_some' {α : Type} {c : Bool} {o : Option α} {v : α} (h : (bif c then o else none) = some v) : c = true ∧ o = some v := by
  cases c
  · cases h
  · exact ⟨rfl, h⟩
section
variable {S : Sig} {Q : Kind S}
theorem rowFlat (L : Pre S Q) {e : Env S.T} (I : Inv Q e) {k s : Nat} {t : TypeId} {d : Dp} {l : List (S.T t)} (h : lookB k e.ob = some (s, .row t d l)) (hf : S.flat t = true) (hv : valid e.ob d = true) :
    ∃ cj, e.w.ownsRow 0 t (S.sz t) (e.β k) l.length cj ∧ reps (Q.rep t (fun _ => False) e.w) (S.sz t) l cj := by
  obtain ⟨_, _, _, _, cj, h1, h2⟩ := I.obj k s _ h
  exact ⟨cj, h1, reps_imp (fun x c hx => L.flat _ _ _ _ _ _ _ hf hx) (h2 hv)⟩
theorem own_write (L : Laws S Q) {t t' : TypeId} (ht : S.known t' = true) {w : World} {vr : Value} {n g m cp : Nat} {cs : List Value} (hr : w.ownsRow 0 t (S.sz t) vr n cs) (hvr : vr = .slice (some ⟨g, 0, none⟩) m cp)
    {v : Value} (h1 : ∀ u, u ∈ v.cells.toList → u.oneCell' = true) (hl : v.cells.toList.length = S.sz t') {j off : Nat} (hj : j < n) (hoff : off + S.sz t' ≤ S.sz t) :
    ∃ w1, (Instr.storeAt t' (.pointer (some ⟨g, j * S.sz t + off, none⟩)) v).run S.P w = .ok () w1 ∧ (∀ k, k ≠ g → w1.heap[k]? = w.heap[k]?) ∧ w1.heap.size = w.heap.size ∧ w1.os = w.os ∧ w1.tape = w.tape ∧ w1.output = w.output ∧
      w1.ownsRow 0 t (S.sz t) vr n (splice (j * S.sz t + off) v.cells.toList cs) := by
  obtain ⟨hlen, hr2⟩ := hr
  rw [hvr] at hr2
  rcases hr2 with ⟨h2, _⟩ | ⟨g', cap, cur, h2, hb0, hh, hnc, hcm, hcs, htk⟩
  · cases h2
  cases h2
  have hct : cur.toList.length = cur.size := Array.length_toList
  have hjs := mul_lt_of (sz := S.sz t) hj
  have hcurl : n * S.sz t ≤ cur.size := by rw [hcs]; exact Nat.mul_le_mul_right _ hnc
  have hst := store_ok L ht (o := j * S.sz t + off) hh h1 (by rw [← hl, Array.length_toList]) (by omega)
  refine ⟨_, hst, fun k hk => setRow_other w g k _ hk, by simp, rfl, rfl, rfl, ?_⟩
  refine ⟨by rw [splice_len (by omega)]; exact hlen, .inr ⟨g, cp, _, hvr, Nat.zero_le _, setRow_heap w g _ _ t (0, 0) hh, hnc, hcm, ?_, ?_⟩⟩
  · rw [List.size_toArray, splice_len (by omega), hct]
    exact hcs
  · rw [← htk]
    have hcur : cur.toList = cur.toList.take (n * S.sz t) ++ cur.toList.drop (n * S.sz t) := (List.take_append_drop _ _).symm
    have hlen1 : (cur.toList.take (n * S.sz t)).length = n * S.sz t := by rw [List.length_take, hct]; omega
    generalize cur.toList.take (n * S.sz t) = A at hcur hlen1 ⊢
    generalize cur.toList.drop (n * S.sz t) = B at hcur
    show List.take _ (splice _ _ cur.toList) = _
    rw [hcur]
    have := splice_at (off := j * S.sz t + off) (n := v.cells.toList) (p := []) (c := A) (q := B) (by omega)
    simp only [List.length_nil, Nat.zero_add, List.nil_append] at this
    have h9 : (splice (j * S.sz t + off) v.cells.toList A).length = n * S.sz t := by rw [splice_len (by omega)]; exact hlen1
    rw [this, List.take_append_of_le_length (by omega), List.take_of_length_le (by omega)]
theorem noId_ne {i : Nat} {d : Dp} (h : noId i d = true) : ∀ p, p ∈ d → p.1 ≠ i := by
  intro p hp e1
  have := List.all_eq_true.1 h p hp
  rw [e1, Nat.beq_refl] at this
  cases this
theorem Fd_off {e : Env S.T} (I : Inv Q e) {i s : Nat} {so : SO S.T} (ho : lookB i e.ob = some (s, so)) {d : Dp} (hd : noId i d = true) (hv : valid e.ob d = true) : ∀ k, e.Fd d k → ¬ e.ok i k := by
  rintro k ⟨x, hx, hk⟩ hk'
  obtain ⟨so2, h5⟩ := valid_iff.1 hv x hx
  exact I.dis _ _ _ _ _ _ h5 ho (noId_ne hd x hx) k hk hk'
theorem storeRow_ok (L : Laws S Q) {e : Env S.T} (I : Inv Q e) {fr : Nat} (hfr : ¬ e.U fr) {i s : Nat} {t2 t : TypeId} {d : Dp} {l : List (S.T t2)} (ho : lookB i e.ob = some (s, .row t2 d l)) (hvd : valid e.ob d = true) (hni : noId i d = true)
    (hk : S.known t = true) {v : Value} (hc2 : ∀ u, u ∈ v.cells.toList → u.oneCell' = true) (hvl : v.cells.toList.length = S.sz t) {off : Nat} (hle : off + S.sz t ≤ S.sz t2) {g m c : Nat} (hβ : e.β i = .slice (some ⟨g, 0, none⟩) m c) {j : Int} (hm : j.toNat < m)
    {y : S.T t2} {d2 : Dp} (hyd : dlt e.U d2) (hyv : valid e.ob d2 = true) (hny : noId i d2 = true)
    (hy : ∀ cs, cs.length = S.sz t2 → Q.rep t2 (fun k => (e.ok i k ∧ k ≠ g) ∨ e.Fd d k) e.w (get t2 l (j.toNat : Int)) cs → Q.rep t2 (fun k => (e.ok i k ∧ k ≠ g) ∨ e.Fd (d ++ d2) k) e.w y (splice off v.cells.toList cs)) :
    ∃ w1, (Instr.storeAt t (.pointer (some ⟨g, j.toNat * S.sz t2 + off, none⟩)) v).run S.P e.w = .ok () w1 ∧ Eff Q e fr undef w1 ⟨.v (.c .un), [(i, some (fr, .row t2 (d ++ d2) (l.set j.toNat y)))]⟩ := by
  obtain ⟨hi, hs, hdl', hown, all, hr, hreps⟩ := I.obj i s _ ho
  have hreps := hreps hvd
  obtain ⟨hm', hcA⟩ := own_cells hr hβ
  subst hm'
  have hobk : (e.β i).ownBlock = some g := by rw [hβ]; rfl
  have hg : e.ok i g := hown g hobk
  obtain ⟨w1, hst, hw1o, hw1s, hos, htp, hou, hr1⟩ := own_write L hk hr hβ hc2 hvl hm hle
  refine ⟨w1, hst, ?_⟩
  have hlt := I.lt i s _ ho
  have hnid : ∀ d : Dp, noId i d = true → valid e.ob d = true → ∀ k, e.Fd d k → k ≠ g := fun d hd hv' k hk e1 => Fd_off I ho hd hv' k hk (e1 ▸ hg)
  have hvd2 : valid e.ob (d ++ d2) = true := valid_iff.2 fun p hp => (List.mem_append.1 hp).elim (valid_iff.1 hvd p) (valid_iff.1 hyv p)
  have hni2 : noId i (d ++ d2) = true := by
    unfold noId at hni hny ⊢
    rw [List.all_append, hni, hny]
    rfl
  let so' : SO S.T := .row t2 (d ++ d2) (l.set j.toNat y)
  let e' : Env S.T := { w := w1, β := fun a => if a = i then e.β i else e.β a, ok := fun a => if a = i then e.ok i else e.ok a, ob := putB i (fr, so') e.ob, U := fun a => e.U a ∨ a = fr }
  have hee : ∀ d k, e.Fd d k → e'.Fd d k := by
    rintro d k ⟨x, hx, hk⟩
    refine ⟨x, hx, ?_⟩
    show (if x.1 = i then e.ok i else e.ok x.1) k
    split
    · rename_i hq; rw [← hq]; exact hk
    · exact hk
  obtain ⟨h1, h2⟩ := event L I w1 (e.β i) (e.ok i) (putB i (fr, so') e.ob) so' (some i) i fr hfr (.inr ⟨rfl, rfl⟩)
    (fun a ha => by cases ha; exact ⟨s, _, ho, by simp⟩) (fun a x hx => (lookB_put hx).imp id fun ⟨p, q⟩ => ⟨p, by simpa using fun e1 => p e1.symm, q⟩) (by simp [so']) (fun k hk => ⟨by rw [hw1s]; exact hlt k hk, .inl ⟨i, rfl, hk⟩⟩) hos htp hou (by omega)
    (fun k hk hn => hw1o k fun e1 => hn i rfl (e1 ▸ hg)) (I.one i) e' rfl
    (fun hH => by
      have hβ' : e'.β i = e.β i := by simp [e']
      have hok' : e'.ok i = e.ok i := by simp [e']
      refine ⟨fun x hx => ?_, fun k hk => ?_, splice (j.toNat * S.sz t2 + off) v.cells.toList all, ?_, fun _ => ?_⟩
      · have : e.U x.1 ∧ e.U x.2 := (List.mem_append.1 hx).elim (hdl' x) (hyd x)
        exact ⟨.inl this.1, .inl this.2⟩
      · rw [hβ'] at hk
        rw [hok']
        exact hown k hk
      · rw [hβ', List.length_set]
        exact hr1
      · rw [hβ', hok', hobk]
        rw [hobk] at hreps
        have hlen : all.length = l.length * S.sz t2 := hr.1
        refine reps_of_at (by rw [List.length_set]; exact hr1.1) fun j' x hj' => ?_
        have mv : ∀ {x : S.T t2} {cs : List Value}, Q.rep t2 (fun k => (e.ok i k ∧ k ≠ g) ∨ e.Fd (d ++ d2) k) e.w x cs → Q.rep t2 (fun k => (e.ok i k ∧ some k ≠ some g) ∨ e'.Fd (d ++ d2) k) w1 x cs := by
          intro x cs hx
          refine L.mono _ _ _ _ _ _ ?_ (L.move _ _ _ w1 _ _ ?_ hx)
          · rintro k (hk | hk)
            · exact .inl ⟨hk.1, fun e1 => hk.2 (Option.some.inj e1)⟩
            · exact .inr (hee _ k hk)
          · rintro k (hk | hk)
            · exact hw1o k hk.2
            · exact hw1o k (hnid _ hni2 hvd2 k hk)
        have old : ∀ j0 x0, l[j0]? = some x0 → Q.rep t2 (fun k => (e.ok i k ∧ k ≠ g) ∨ e.Fd d k) e.w x0 ((all.drop (j0 * S.sz t2)).take (S.sz t2)) := fun j0 x0 h0 => L.mono _ _ _ _ _ _ (fun k hk => hk.imp (fun hk => ⟨hk.1, fun e1 => hk.2 (by rw [e1])⟩) id) (at_of_reps hreps j0 x0 h0)
        by_cases hjj : j' = j.toNat
        · subst hjj
          rw [splice_same hm hlen (by omega)]
          rw [List.getElem?_set_self hm] at hj'
          cases hj'
          refine mv (hy _ ?_ (old _ _ ?_))
          · rw [List.length_take, List.length_drop, hlen]
            have := mul_lt_of (sz := S.sz t2) hm
            omega
          · have := getA_at (S := S) (l := l) (j := (j.toNat : Int)) (by rw [Int.toNat_natCast]; exact hm)
            rw [Int.toNat_natCast] at this
            exact this
        · rw [splice_other hjj hm hlen (by omega)]
          rw [List.getElem?_set_ne (fun e1 => hjj e1.symm)] at hj'
          refine mv (L.mono _ _ _ _ _ _ ?_ (old _ _ hj'))
          rintro k (hk | ⟨x, hx, hk⟩)
          · exact .inl hk
          · exact .inr ⟨x, List.mem_append_left _ hx, hk⟩)
  exact ⟨e', rfl, h1, h2, by simp [Upd.obOf, put1, e', so'], hU8 e fr, trivial⟩
theorem storeRest_ok (L : Laws S Q) {e : Env S.T} (I : Inv Q e) {fr : Nat} (hfr : ¬ e.U fr) {i s : Nat} {t2 t : TypeId} {c : Nat} {te : TypeId} {d : Dp} {sv : Nat} {l : List (S.T t2)} {hl : Option Int} (ho : lookB i e.ob = some (s, .deep t2 c te d sv l hl)) (hvd : valid e.ob d = true) (hni : noId i d = true)
    (hk : S.known t = true) {v : Value} {ps : List (SC S.T)} (hc1 : All2 (hold Q e) v.cells.toList ps) (hc2 : ∀ u, u ∈ v.cells.toList → u.oneCell' = true) (hvl : v.cells.toList.length = S.sz t) {off : Nat} (hle : off + S.sz t ≤ S.sz t2) (hout : off + S.sz t ≤ c ∨ c < off) {j : Int} {p : Value} (hp : hold Q e p (.elt i t2 j off))
    {u : Upd S.T} (h : (storeRest fr i t2 c te d sv l hl j off ps).Can u) : ∃ w1, (Instr.storeAt t p v).run S.P e.w = .ok () w1 ∧ Eff Q e fr undef w1 u := by
  unfold storeRest at h
  split at h
  · exact h.elim
  obtain ⟨x', hx', h⟩ := can_or h
  simp only [Tr.Can] at h
  subst h
  obtain ⟨hi, hs, ho1⟩ := I.obj i s _ ho
  obtain ⟨hxc, hfl, hdl, hsv, hown, all, hr, B, R, hB, hBd, hR, hall⟩ := ho1
  have hall := hall hvd
  obtain ⟨_, h0, g, m, cp, hβ, hm, rfl⟩ := hp
  obtain ⟨hm', hcA⟩ := own_cells hr hβ
  subst hm'
  have hobk : (e.β i).ownBlock = some g := by rw [hβ]; rfl
  have hg : e.ok i g := hown g hobk
  obtain ⟨w1, hst, hw1o, hw1s, hos, htp, hou, hr1⟩ := own_write L hk hr hβ hc2 hvl hm hle
  refine ⟨w1, hst, ?_⟩
  have hlt := I.lt i s _ ho
  let so' : SO S.T := .deep t2 c te d sv (l.set j.toNat x') none
  let e' : Env S.T := { w := w1, β := fun a => if a = i then e.β i else e.β a, ok := fun a => if a = i then e.ok i else e.ok a, ob := putB i (fr, so') e.ob, U := fun a => e.U a ∨ a = fr }
  have hee : ∀ d k, e.Fd d k → e'.Fd d k := by
    rintro d k ⟨x, hx, hk⟩
    refine ⟨x, hx, ?_⟩
    show (if x.1 = i then e.ok i else e.ok x.1) k
    split
    · rename_i hq; rw [← hq]; exact hk
    · exact hk
  have hF : ∀ k, (R k ∨ e.Fd d k) → (R k ∨ e'.Fd d k) ∧ w1.heap[k]? = e.w.heap[k]? := by
    rintro k (hk | hk)
    · exact ⟨.inl hk, hw1o k fun e1 => (hR k hk).2.1 (by rw [hobk, e1])⟩
    · exact ⟨.inr (hee _ k hk), hw1o k fun e1 => Fd_off I ho hni hvd k hk (e1 ▸ hg)⟩
  have hBm : ∀ j k, B j k → B j k ∧ w1.heap[k]? = e.w.heap[k]? := fun j k hk => ⟨hk, hw1o k fun e1 => (hB j k hk).2 (by rw [hobk, e1])⟩
  have hlen : all.length = l.length * S.sz t2 := hr.1
  have hcc := L.xsz _ _ _ hxc
  obtain ⟨h1, h2⟩ := event L I w1 (e.β i) (e.ok i) (putB i (fr, so') e.ob) so' (some i) i fr hfr (.inr ⟨rfl, rfl⟩)
    (fun a ha => by cases ha; exact ⟨s, _, ho, by simp⟩) (fun a x hx => (lookB_put hx).imp id fun ⟨p, q⟩ => ⟨p, by simpa using fun e1 => p e1.symm, q⟩) (by simp [so']) (fun k hk => ⟨by rw [hw1s]; exact hlt k hk, .inl ⟨i, rfl, hk⟩⟩) hos htp hou (by omega)
    (fun k hk hn => hw1o k fun e1 => hn i rfl (e1 ▸ hg)) (I.one i) e' rfl
    (fun hH => by
      have hβ' : e'.β i = e.β i := by simp [e']
      have hok' : e'.ok i = e.ok i := by simp [e']
      refine ⟨hxc, hfl, hdl.mono fun a h => .inl h, .inl hsv, by rw [hβ', hok']; exact hown, splice (j.toNat * S.sz t2 + off) v.cells.toList all, by rw [hβ', List.length_set]; exact hr1, B, R, by rw [hβ', hok']; exact hB, hBd, by rw [hβ', hok']; exact hR, fun _ j' x hj' => ?_⟩
      show RE Q t2 c te w1 _ _ _ ∧ (_ → OE Q t2 c te w1 _ _ _)
      by_cases hjj : j' = j.toNat
      · subst hjj
        rw [splice_same hm hlen (by omega)]
        rw [List.getElem?_set_self hm] at hj'
        cases hj'
        have hg0 : l[j.toNat]? = some (get t2 l j) := getA_at (S := S) hm
        obtain ⟨q1, q2⟩ := hall j.toNat _ hg0
        obtain ⟨v0, cj, g1, g2, g3, g4⟩ := q2 (by simp)
        have hseg : ((all.drop (j.toNat * S.sz t2)).take (S.sz t2)).length = S.sz t2 := by
          rw [List.length_take, List.length_drop, hlen]
          have := mul_lt_of (sz := S.sz t2) hm
          omega
        refine ⟨?_, fun _ => ?_⟩
        · have q3 := q1.move L hF
          have h3 := (L.stps _ c te _ _ _ _ [] hx').1
          have h4 := L.stp _ _ _ _ _ _ _ _ _ _ q3 h3 hc1
          rw [splice_set (by omega) (by omega)] at h4
          exact h4
        · have h5 := (L.stps _ c te _ _ _ _ [] hx').2
          refine OE.move L ⟨v0, cj, ?_, ?_, ?_, g4⟩ (hBm _)
          · rw [splice_get (by omega)]
            split
            · exact g1
            · rw [if_neg (by omega)]; exact g1
          · rw [h5]; exact g2
          · rw [h5]; exact g3
      · rw [splice_other hjj hm hlen (by omega)]
        rw [List.getElem?_set_ne (fun e1 => hjj e1.symm)] at hj'
        obtain ⟨q1, q2⟩ := hall j' x hj'
        exact ⟨q1.move L hF, fun _ => (q2 (by simp)).move L (hBm _)⟩)
    (by
      intro _ _ _ _ _ _ _ h
      have h : (SO.deep t2 c te d sv (l.set j.toNat x') none : SO S.T) = _ := h
      cases h
      refine .inr ⟨⟨_, _, _, _, ho⟩, ?_⟩
      rintro j1 v1 ⟨g1, m1, cp1, e1, e2, e3⟩
      rw [hβ] at e1
      cases e1
      refine ⟨g, _, _, hβ, e2, ?_⟩
      have hcz := L.xsz _ _ _ hxc
      have hb1 := mul_lt_of (sz := S.sz t2) e2
      have hlen : all.length = l.length * S.sz t2 := hr.1
      have hj2 := mul_lt_of (sz := S.sz t2) hm
      have hA : all[j1.toNat * S.sz t2 + c]? = some v1 := by
        have hlt2 : j1.toNat * S.sz t2 + c < all.length := by omega
        have := hcA.cell (j1.toNat * S.sz t2 + c) _ (List.getElem?_eq_getElem hlt2)
        rw [Nat.zero_add] at this
        rw [this] at e3
        rw [List.getElem?_eq_getElem hlt2]
        exact e3
      have hcB := (own_cells hr1 hβ).2
      have := hcB.cell (j1.toNat * S.sz t2 + c) v1 (by
        rw [splice_get (by omega)]
        by_cases h1 : j1.toNat * S.sz t2 + c < j.toNat * S.sz t2 + off
        · rw [if_pos h1]; exact hA
        · rw [if_neg h1, if_neg]
          · exact hA
          · intro h2
            rcases Nat.lt_trichotomy j1.toNat j.toNat with h3 | h3 | h3
            · have := mul_lt_of (sz := S.sz t2) h3; omega
            · rw [h3] at h1 h2; omega
            · have := mul_lt_of (sz := S.sz t2) h3; omega)
      rw [Nat.zero_add] at this
      exact this)
  exact ⟨e', rfl, h1, h2, by simp [Upd.obOf, put1, e', so'], hU8 e fr, trivial⟩
theorem storeSl_ok (L : Laws S Q) {e : Env S.T} (I : Inv Q e) {fr : Nat} (hfr : ¬ e.U fr) {i s : Nat} {t2 t : TypeId} {c : Nat} {te : TypeId} {d : Dp} {sv : Nat} {l : List (S.T t2)} {hl : Option Int} (ho : lookB i e.ob = some (s, .deep t2 c te d sv l hl)) (hvd : valid e.ob d = true) (hni : noId i d = true)
    (hk : S.known t = true) {v : Value} {ps : List (SC S.T)} (hc1 : All2 (hold Q e) v.cells.toList ps) (hc2 : ∀ u, u ∈ v.cells.toList → u.oneCell' = true) (hvl : v.cells.toList.length = S.sz t) {off : Nat} (hle : off + S.sz t ≤ S.sz t2) (hq1 : c < off + S.sz t) (hq2 : off ≤ c) {kk : Option Nat} {mm : List (S.T te)}
    (hkk : ∀ k, kk = some k → k ≠ i ∧ (∃ s so, lookB k e.ob = some (s, so) ∧ so ≠ .ext) ∧ noId k d = true)
    (hown2 : ∀ u, v.cells.toList[c - off]? = some u → ∃ cj, e.w.ownsRow 0 te (S.sz te) u mm.length cj ∧ reps (Q.rep te (fun _ => False) e.w) (S.sz te) mm cj ∧ ∀ b, u.ownBlock = some b → ∃ k, kk = some k ∧ e.ok k b)
    {j : Int} {p : Value} (hp : hold Q e p (.elt i t2 j off)) {u : Upd S.T} (h : (storeSl e.ob fr i s t2 c te d l hl j off ps mm kk).Can u) : ∃ w1, (Instr.storeAt t p v).run S.P e.w = .ok () w1 ∧ Eff Q e fr undef w1 u := by
  unfold storeSl at h
  obtain ⟨y, hy, h⟩ := can_or h
  obtain ⟨hny, h⟩ := can_guard h
  simp only [Bool.and_eq_true] at hny
  have h : (∀ j0, hl = some j0 → j = j0) ∧ u = ⟨.v (.c .un), (match kk with | some k => [(k, none)] | none => []) ++ [(i, some (fr, .deep t2 c te (d ++ y.2) fr (l.set j.toNat (S.ax.ssl t2 c te y.1 mm)) none))]⟩ := by
    cases hl with
    | none => exact ⟨fun j0 h => (by cases h), (can_ret h).symm⟩
    | some j0 =>
      obtain ⟨h1, h⟩ := can_br h
      exact ⟨fun j1 h2 => by cases h2; simpa using h1, (can_ret h).symm⟩
  obtain ⟨hhole, rfl⟩ := h
  obtain ⟨hi, hs, ho1⟩ := I.obj i s _ ho
  obtain ⟨hxc, hfl, hdl, hsv, hown, all, hr, B, R, hB, hBd, hR, hall⟩ := ho1
  have hall := hall hvd
  obtain ⟨_, h0, g, m, cp, hβ, hm, rfl⟩ := hp
  obtain ⟨hm', hcA⟩ := own_cells hr hβ
  subst hm'
  have hobk : (e.β i).ownBlock = some g := by rw [hβ]; rfl
  have hg : e.ok i g := hown g hobk
  obtain ⟨w1, hst, hw1o, hw1s, hos, htp, hou, hr1⟩ := own_write L hk hr hβ hc2 hvl hm hle
  refine ⟨w1, hst, ?_⟩
  have hlt := I.lt i s _ ho
  have hlen : all.length = l.length * S.sz t2 := hr.1
  have hcc := L.xsz _ _ _ hxc
  have hseg : ((all.drop (j.toNat * S.sz t2)).take (S.sz t2)).length = S.sz t2 := by
    rw [List.length_take, List.length_drop, hlen]
    have := mul_lt_of (sz := S.sz t2) hm
    omega
  have hg0 : l[j.toNat]? = some (get t2 l j) := getA_at (S := S) hm
  obtain ⟨q1, _⟩ := hall j.toNat _ hg0
  have hdli : dlt e.U ((i, s) :: d) := by
    intro x hx
    rcases List.mem_cons.1 hx with rfl | hx
    · exact ⟨hi, hs⟩
    · exact hdl x hx
  have hvali : valid e.ob ((i, s) :: d) = true := by
    rw [valid_iff] at hvd ⊢
    intro x hx
    rcases List.mem_cons.1 hx with rfl | hx
    · exact ⟨_, ho⟩
    · exact hvd x hx
  have hrest : All2 (hold Q e) (((all.drop (j.toNat * S.sz t2)).take (S.sz t2)).set c (.slice none 0 0)) (S.out t2 ((i, s) :: d) (S.ax.ssl t2 c te (get t2 l j) [])) := by
    refine L.out _ e _ _ _ hdli hvali (L.mono _ _ _ _ _ _ ?_ q1)
    rintro k (hk | ⟨x, hx, hk⟩)
    · exact ⟨(i, s), List.mem_cons_self, (hR k hk).1⟩
    · exact ⟨x, List.mem_cons_of_mem _ hx, hk⟩
  have hnil : hold Q e (.slice none 0 0) .nil := rfl
  obtain ⟨hyd, hyv, hyR⟩ := L.inn _ e _ _ _ _ I hy ((hc1.splice hrest).set hnil c)
  have hyR2 : RE Q t2 c te e.w (e.Fd y.2) (S.ax.ssl t2 c te y.1 mm) (splice off v.cells.toList ((all.drop (j.toNat * S.sz t2)).take (S.sz t2))) := by
    obtain ⟨_, _, _, h3, _⟩ := L.split _ c te _ _ _ _ hxc hyR
    rw [List.set_set, splice_set_in (by omega) hq2 (by omega)] at h3
    unfold RE
    rw [L.ss]
    exact h3
  have hvc : ∃ u, v.cells.toList[c - off]? = some u := ⟨_, List.getElem?_eq_getElem (by omega)⟩
  obtain ⟨u0, hu0⟩ := hvc
  obtain ⟨cj, k1, k2, k3⟩ := hown2 u0 hu0
  let K : Nat → Prop := fun b => ∃ k, kk = some k ∧ e.ok k b
  have hKi : ∀ b, K b → ¬ e.ok i b := by
    rintro b ⟨k, hk, hb⟩ hb'
    obtain ⟨hne, ⟨s', so', h1, _⟩, _⟩ := hkk k hk
    exact I.dis _ _ _ _ _ _ h1 ho hne b hb hb'
  let so' : SO S.T := .deep t2 c te (d ++ y.2) fr (l.set j.toNat (S.ax.ssl t2 c te y.1 mm)) none
  let F : Nat → Prop := fun b => e.ok i b ∨ K b
  let ob' : Ob S.T := putB i (fr, so') (match kk with | some k => delB k e.ob | none => e.ob)
  let e' : Env S.T := { w := w1, β := e.β, ok := fun a => if a = i then F else e.ok a, ob := ob', U := fun a => e.U a ∨ a = fr }
  have hob' : ∀ a x, lookB a ob' = some x → (a = i ∧ x = (fr, so')) ∨ (a ≠ i ∧ ¬ (a = i ∨ kk = some a) ∧ lookB a e.ob = some x) := by
    intro a x hx
    rcases lookB_put hx with h | ⟨hne, h⟩
    · exact .inl h
    · refine .inr ⟨hne, ?_⟩
      cases kk with
      | none => exact ⟨by simpa using hne, h⟩
      | some k =>
        obtain ⟨h8, h9⟩ := lookB_del h
        exact ⟨by rintro (h | h); exact hne h; cases h; exact h8 rfl, h9⟩
  have hok' : e'.ok i = F := if_pos rfl
  have hmono : ∀ a k, e.ok a k → e'.ok a k := by
    intro a k hk
    show (if a = i then F else e.ok a) k
    split
    · rename_i h; subst h; exact .inl hk
    · exact hk
  have hee : ∀ d k, e.Fd d k → e'.Fd d k := fun d k ⟨x, hx, hk⟩ => ⟨x, hx, hmono _ _ hk⟩
  have hnid : ∀ d : Dp, noId i d = true → valid e.ob d = true → ∀ k, e.Fd d k → k ≠ g := fun d hd hv' k hk e1 => Fd_off I ho hd hv' k hk (e1 ▸ hg)
  have hBm : ∀ j k, B j k → w1.heap[k]? = e.w.heap[k]? := fun j k hk => hw1o k fun e1 => (hB j k hk).2 (by rw [hobk, e1])
  have hRm : ∀ k, R k → w1.heap[k]? = e.w.heap[k]? := fun k hk => hw1o k fun e1 => (hR k hk).2.1 (by rw [hobk, e1])
  let B' : Nat → Nat → Prop := fun j' k => if j' = j.toNat then K k else B j' k
  obtain ⟨h1, h2⟩ := events L I w1 (fun a => a = i ∨ kk = some a) (fun a => a = i) (fun _ => fr) e.β (fun _ => F) (fun _ => so') e' (fun _ _ => hfr) (fun a ha => .inr ⟨.inl ha, rfl⟩)
    (by
      rintro a (rfl | ha)
      · exact ⟨s, _, ho, by simp⟩
      · exact (hkk a ha).2.1)
    hob' (fun _ _ => by simp [so'])
    (by
      rintro a rfl k (hk | ⟨k', hk', hk⟩)
      · exact ⟨by rw [hw1s]; exact hlt k hk, .inl ⟨_, .inl rfl, hk⟩⟩
      · obtain ⟨_, ⟨s', so2, h1, _⟩, _⟩ := hkk k' hk'
        exact ⟨by rw [hw1s]; exact I.lt _ _ _ h1 k hk, .inl ⟨k', .inr hk', hk⟩⟩)
    (fun a b ha hb hne => absurd (ha.trans hb.symm) hne) hos htp hou (by omega)
    (fun k hk hn => hw1o k fun e1 => hn i (.inl rfl) (e1 ▸ hg)) (fun a _ => I.one a) rfl (fun _ _ => rfl) (fun _ _ => rfl) (fun a ha => by subst ha; exact hok') (fun a ha => if_neg ha)
    (fun a => ⟨fun h => h.imp id fun h => ⟨i, rfl, h⟩, fun h => h.imp id fun ⟨_, _, h⟩ => h⟩)
    (fun hH a ha => by
      subst ha
      refine ⟨hxc, hfl, fun p hp => ?_, .inr rfl, by rw [hok']; exact fun k hk => .inl (hown k hk), splice (j.toNat * S.sz t2 + off) v.cells.toList all, by rw [List.length_set]; exact hr1, B', R, ?_, ?_, ?_, fun _ j' x hj' => ?_⟩
      · have : e.U p.1 ∧ e.U p.2 := (List.mem_append.1 hp).elim (hdl p) (hyd p)
        exact ⟨.inl this.1, .inl this.2⟩
      · intro j' k hk
        rw [hok']
        show F k ∧ some k ≠ (e.β a).ownBlock
        simp only [B'] at hk
        split at hk
        · exact ⟨.inr hk, fun e1 => by rw [hobk] at e1; cases e1; exact hKi _ hk hg⟩
        · exact ⟨.inl (hB j' k hk).1, (hB j' k hk).2⟩
      · intro j1 j2 k hk1 hk2
        simp only [B'] at hk1 hk2
        split at hk1 <;> split at hk2
        · rename_i e1 e2; rw [e1, e2]
        · exact absurd (hB _ _ hk2).1 (hKi _ hk1)
        · exact absurd (hB _ _ hk1).1 (hKi _ hk2)
        · exact hBd _ _ _ hk1 hk2
      · intro k hk
        rw [hok']
        refine ⟨.inl (hR k hk).1, (hR k hk).2.1, fun j' hb => ?_⟩
        simp only [B'] at hb
        split at hb
        · exact hKi _ hb (hR k hk).1
        · exact (hR k hk).2.2 _ hb
      · show RE Q t2 c te w1 _ _ _ ∧ (_ → OE Q t2 c te w1 _ _ _)
        by_cases hjj : j' = j.toNat
        · subst hjj
          rw [splice_same hm hlen (by omega)]
          rw [List.getElem?_set_self hm] at hj'
          cases hj'
          refine ⟨hyR2.move L fun k hk => ⟨.inr (hee _ _ (by obtain ⟨x, hx, hk⟩ := hk; exact ⟨x, List.mem_append_right _ hx, hk⟩)), hw1o k (hnid _ hny.1 hyv k hk)⟩, fun _ => ⟨u0, cj, ?_, ?_, ?_, fun b hb => ?_⟩⟩
          · rw [splice_get (by omega), if_neg (by omega), if_pos (by omega)]
            exact hu0
          · rw [L.gs _ _ _ _ _ hxc]
            exact ownsRow_move k1 fun b hb => hw1o b fun e1 => hKi b (k3 b hb) (e1 ▸ hg)
          · rw [L.gs _ _ _ _ _ hxc]
            exact reps_imp (fun x c hx => L.move _ _ _ _ _ _ (fun k hk => hk.elim) hx) k2
          · show B' j.toNat b
            simp only [B', if_true]
            exact k3 b hb
        · rw [splice_other hjj hm hlen (by omega)]
          rw [List.getElem?_set_ne (fun e1 => hjj e1.symm)] at hj'
          obtain ⟨p1, p2⟩ := hall j' x hj'
          refine ⟨p1.move L ?_, fun _ => (p2 ?_).move L fun k hk => ⟨?_, hBm _ k hk⟩⟩
          · rintro k (hk | ⟨x, hx, hk⟩)
            · exact ⟨.inl hk, hRm k hk⟩
            · exact ⟨.inr (hee _ _ ⟨x, List.mem_append_left _ hx, hk⟩), hw1o k (hnid _ hni hvd k ⟨x, hx, hk⟩)⟩
          · intro e1
            have := hhole _ e1
            rw [this] at hjj
            simp at hjj
          · show B' j' k
            simp only [B', if_neg hjj]
            exact hk)
    (by
      intro a ha _ _ _ _ _ _ _ h
      have h : (SO.deep t2 c te (d ++ y.2) fr (l.set j.toNat (S.ax.ssl t2 c te y.1 mm)) none : SO S.T) = _ := h
      cases h
      exact .inl ⟨i, rfl, rfl⟩)
  refine ⟨e', rfl, h1, h2, ?_, hU8 e fr, trivial⟩
  show ob' = _
  cases kk <;> rfl
theorem storeSel_ok (L : Laws S Q) {e : Env S.T} (I : Inv Q e) {fr : Nat} (hfr : ¬ e.U fr) {i s sv : Nat} {t0 t : TypeId} {c : Nat} {te : TypeId} {d : Dp} {sv' : Nat} {l : List (S.T t0)} {hh : Option Int} (hlk : lookS i sv e.ob = some ⟨s, t0, c, te, d, sv', l, hh⟩) (hni : noId i d = true)
    (hk : S.known t = true) {v : Value} {ps : List (SC S.T)} (hc1 : All2 (hold Q e) v.cells.toList ps) (hc2 : ∀ u, u ∈ v.cells.toList → u.oneCell' = true) (hvl : v.cells.toList.length = S.sz t) {off : Nat} (hle : off + S.sz t ≤ S.sz te) {j k : Int} {p : Value} (hp : hold Q e p (.sel i sv j k off)) {y : S.T te × Dp}
    (hy : S.inn te e.ob (splice off ps (S.out te [] (get te (S.ax.gsl t0 c te (get t0 l j)) k))) = some y) :
    ∃ w1, (Instr.storeAt t p v).run S.P e.w = .ok () w1 ∧ Eff Q e fr undef w1 ⟨.v (.c .un), [(i, some (fr, .deep t0 c te d sv (l.set j.toNat (S.ax.ssl t0 c te (get t0 l j) ((S.ax.gsl t0 c te (get t0 l j)).set k.toNat y.1))) none))]⟩ := by
  obtain ⟨ho, hval, h1, h2⟩ := lookS_ok hlk
  simp only at ho hval h1 h2
  clear hlk
  subst h1 h2
  obtain ⟨hi, hs, ho1⟩ := I.obj i s _ ho
  obtain ⟨_, hsv, h0, hk0, _, hsel⟩ := hp
  obtain ⟨g', m', c', hhd, hkm, rfl⟩ := hsel _ _ _ _ _ _ _ ho
  obtain ⟨g, m, cp, cs, cj, B, R, A⟩ := sub_at L.toPre ho1 hval hhd
  obtain ⟨hm', hcell⟩ := own_cells A.irow rfl
  subst hm'
  have hx1 : (S.ax.gsl t0 c te (get t0 l j))[k.toNat]? = some (get te (S.ax.gsl t0 c te (get t0 l j)) k) := getA_at (S := S) hkm
  have hkm' : k.toNat < (S.ax.gsl t0 c te (get t0 l j)).length := hkm
  have hB' : B j.toNat g' := A.iblk g' rfl
  obtain ⟨w1, hst, hw1o, hw1s, hos, htp, hou, hr1⟩ := own_write L hk A.irow rfl hc2 hvl hkm hle
  refine ⟨w1, hst, ?_⟩
  have hlt := I.lt i s _ ho
  have hok2 : e.ok i g' := (A.hB _ _ hB').1
  have hgg : g' ≠ g := (A.hB _ _ hB').2
  have hobk : (e.β i).ownBlock = some g := by rw [A.β]; rfl
  have hin0 := at_of_reps A.ireps k.toNat _ hx1
  have hR0 : Q.rep te (e.Fd []) e.w (get te (S.ax.gsl t0 c te (get t0 l j)) k) ((cj.drop (k.toNat * S.sz te)).take (S.sz te)) := L.mono _ _ _ _ _ _ (fun _ h => h.elim) hin0
  obtain ⟨_, _, hyR⟩ := L.inn _ e _ _ _ _ I hy (hc1.splice (L.out te e [] _ _ (fun p hp => (by cases hp)) rfl hR0))
  have hilen : cj.length = (S.ax.gsl t0 c te (get t0 l j)).length * S.sz te := A.irow.1
  have hinew : reps (Q.rep te (fun _ => False) w1) (S.sz te) ((S.ax.gsl t0 c te (get t0 l j)).set k.toNat y.1) (splice (k.toNat * S.sz te + off) v.cells.toList cj) := by
    refine reps_of_at (by rw [List.length_set]; exact hr1.1) fun j' x hj' => ?_
    by_cases hjj : j' = k.toNat
    · subst hjj
      rw [splice_same hkm hilen (by omega)]
      rw [List.getElem?_set_self hkm'] at hj'
      cases hj'
      exact L.flat _ _ _ _ _ _ _ A.flat hyR
    · rw [splice_other hjj hkm hilen (by omega)]
      rw [List.getElem?_set_ne (fun e1 => hjj e1.symm)] at hj'
      exact L.flat _ _ _ _ _ _ _ A.flat (at_of_reps A.ireps _ _ hj')
  let so' : SO S.T := .deep t0 c te d sv' (l.set j.toNat (S.ax.ssl t0 c te (get t0 l j) ((S.ax.gsl t0 c te (get t0 l j)).set k.toNat y.1))) none
  let e' : Env S.T := { w := w1, β := fun a => if a = i then e.β i else e.β a, ok := fun a => if a = i then e.ok i else e.ok a, ob := putB i (fr, so') e.ob, U := fun a => e.U a ∨ a = fr }
  have hee : ∀ d k, e.Fd d k → e'.Fd d k := by
    rintro d k ⟨x, hx, hk⟩
    refine ⟨x, hx, ?_⟩
    show (if x.1 = i then e.ok i else e.ok x.1) k
    split
    · rename_i hq; rw [← hq]; exact hk
    · exact hk
  have hF : ∀ b, (R b ∨ e.Fd d b) → (R b ∨ e'.Fd d b) ∧ w1.heap[b]? = e.w.heap[b]? := by
    rintro b (hk | hk)
    · exact ⟨.inl hk, hw1o b fun e1 => (A.hR b hk).2.2 _ (e1 ▸ hB')⟩
    · exact ⟨.inr (hee _ b hk), hw1o b fun e1 => Fd_off I ho hni hval b hk (e1 ▸ hok2)⟩
  obtain ⟨h1, h2⟩ := event L I w1 (e.β i) (e.ok i) (putB i (fr, so') e.ob) so' (some i) i fr hfr (.inr ⟨rfl, rfl⟩)
    (fun a ha => by cases ha; exact ⟨s, _, ho, by simp⟩) (fun a x hx => (lookB_put hx).imp id fun ⟨p, q⟩ => ⟨p, by simpa using fun e1 => p e1.symm, q⟩) (by simp [so']) (fun k hk => ⟨by rw [hw1s]; exact hlt k hk, .inl ⟨i, rfl, hk⟩⟩) hos htp hou (by omega)
    (fun b hk hn => hw1o b fun e1 => hn i rfl (e1 ▸ hok2)) (I.one i) e' rfl
    (fun hH => by
      have hβ' : e'.β i = e.β i := by simp [e']
      have hok' : e'.ok i = e.ok i := by simp [e']
      refine ⟨A.xc, A.flat, A.dl.mono fun a h => .inl h, .inl hsv, by rw [hβ', hok', hobk]; rintro b hb; cases hb; exact A.own, cs, ?_, B, R, ?_, A.hBd, ?_, fun _ j' x hj' => ?_⟩
      · rw [hβ', List.length_set]
        exact ownsRow_move A.row fun b hb => by rw [hobk] at hb; cases hb; exact hw1o _ fun e1 => hgg e1.symm
      · rw [hβ', hok', hobk]
        exact fun j b hb => ⟨(A.hB j b hb).1, fun e1 => (A.hB j b hb).2 (Option.some.inj e1)⟩
      · rw [hβ', hok', hobk]
        exact fun b hb => ⟨(A.hR b hb).1, fun e1 => (A.hR b hb).2.1 (Option.some.inj e1), (A.hR b hb).2.2⟩
      · show RE Q t0 c te w1 _ _ _ ∧ (_ → OE Q t0 c te w1 _ _ _)
        by_cases hjj : j' = j.toNat
        · subst hjj
          rw [List.getElem?_set_self A.lt] at hj'
          cases hj'
          refine ⟨?_, fun _ => ⟨_, splice (k.toNat * S.sz te + off) v.cells.toList cj, A.hv, ?_, ?_, fun b hb => ?_⟩⟩
          · have := A.rest.move L hF
            unfold RE at this ⊢
            rw [L.ss]
            exact this
          · rw [L.gs _ _ _ _ _ A.xc, List.length_set]
            exact hr1
          · rw [L.gs _ _ _ _ _ A.xc]
            exact hinew
          · exact A.iblk b hb
        · rw [List.getElem?_set_ne (fun e1 => hjj e1.symm)] at hj'
          obtain ⟨q1, q2⟩ := A.all j' x hj'
          exact ⟨q1.move L hF, fun _ => q2.move L fun b hb => ⟨hb, hw1o b fun e1 => hjj (A.hBd _ _ _ hb (e1 ▸ hB'))⟩⟩)
    (by
      intro _ _ _ _ _ _ _ h
      have h : (SO.deep t0 c te d sv' (l.set j.toNat (S.ax.ssl t0 c te (get t0 l j) ((S.ax.gsl t0 c te (get t0 l j)).set k.toNat y.1))) none : SO S.T) = _ := h
      cases h
      refine .inr ⟨⟨_, _, _, _, ho⟩, keepH_of fun b hb => ?_⟩
      rw [hobk] at hb
      cases hb
      exact hw1o _ fun e1 => hgg e1.symm)
  exact ⟨e', rfl, h1, h2, by simp [Upd.obOf, put1, e', so'], hU8 e fr, trivial⟩
theorem storeX_ok (L : Laws S Q) {e : Env S.T} (I : Inv Q e) {fr : Nat} (hfr : ¬ e.U fr) {t : TypeId} {a x : SX S.T} {p v : Value} (hp : holdX Q e p a) (hv : holdX Q e v x) {u : Upd S.T} (h : (storeX e.ob fr t a x).Can u) :
    ∃ w1, (Instr.storeAt t p v).run S.P e.w = .ok () w1 ∧ Eff Q e fr undef w1 u := by
  unfold storeX at h
  split at h
  ·
    rename_i i off x
    split at h
    · rename_i s t' cs ho
      obtain ⟨hb, h⟩ := can_guard h
      simp only [Tr.Can] at h
      subst h
      simp only [Bool.and_eq_true] at hb
      obtain ⟨⟨⟨hk, hl⟩, hn⟩, hle⟩ := hb
      obtain ⟨hc1, hc2, hc3⟩ := holdV_cells I hv hn
      obtain ⟨hi, g, hβ, rfl⟩ := hp
      obtain ⟨_, _, g', vs, hβ', hok, hh, hc⟩ := I.obj i s _ ho
      rw [hβ] at hβ'
      cases hβ'
      have hlen := hc.len
      have hl' := beq_eq' hl
      have hst := store_ok L hk (o := off) hh hc2 (by rw [hc3, hl']) (by have := ble_le hle; simp only [List.size_toArray]; omega)
      refine ⟨_, hst, ?_⟩
      generalize hw1 : e.w.setRow g _ = w1
      have hw1g : w1.heap[g]? = some (.cells (splice off v.cells.toList vs).toArray t' (0, 0)) := by rw [← hw1]; simpa using setRow_heap e.w g _ _ t' (0, 0) hh
      have hw1o : ∀ k, k ≠ g → w1.heap[k]? = e.w.heap[k]? := fun k hk => by rw [← hw1]; exact setRow_other e.w g k _ hk
      have hw1s : w1.heap.size = e.w.heap.size := by rw [← hw1]; simp
      have hlt := I.lt i s _ ho
      let e' : Env S.T := { w := w1, β := fun a => if a = i then e.β i else e.β a, ok := fun a => if a = i then e.ok i else e.ok a, ob := putB i (fr, .var t' (splice off x.cells cs)) e.ob, U := fun a => e.U a ∨ a = fr }
      obtain ⟨h1, h2⟩ := event L I w1 (e.β i) (e.ok i) (putB i (fr, .var t' (splice off x.cells cs)) e.ob) (.var t' (splice off x.cells cs)) (some i) i fr hfr (.inr ⟨rfl, rfl⟩)
        (fun a ha => by cases ha; exact ⟨s, _, ho, by simp⟩) (fun a x hx => (lookB_put hx).imp id fun ⟨p, q⟩ => ⟨p, by simpa using fun e1 => p e1.symm, q⟩) (by simp) (fun k hk => ⟨by rw [hw1s]; exact hlt k hk, .inl ⟨i, rfl, hk⟩⟩) (by rw [← hw1]; rfl) (by rw [← hw1]; rfl) (by rw [← hw1]; rfl) (by omega)
        (fun k hk hn => hw1o k fun e1 => hn i rfl (e1 ▸ hok)) (I.one i) e' rfl
        (fun hH => ⟨g, splice off v.cells.toList vs, by simp [e', hβ], by simpa [e'] using hok, hw1g, (hc1.imp hH).splice (hc.imp hH)⟩)
      exact ⟨e', rfl, h1, h2, by simp [Upd.obOf, put1, e'], hU8 e fr, trivial⟩
    · exact h.elim
  ·
    rename_i i t' j off x
    split at h
    · rename_i s t2 d l ho
      split at h
      · rename_i ht
        subst ht
        obtain ⟨hb, h⟩ := can_guard h
        simp only [Bool.and_eq_true] at hb
        obtain ⟨⟨⟨⟨⟨⟨hvd, hk⟩, hk'⟩, hl⟩, hn⟩, hle⟩, hni⟩ := hb
        obtain ⟨hc1, hc2, hc3⟩ := holdV_cells I hv hn
        obtain ⟨hi, h0, g, m, c, hβ, hm, rfl⟩ := hp
        have hl' := beq_eq' hl
        have hvl : v.cells.toList.length = S.sz t := by rw [Array.length_toList, hc3, hl']
        have key := fun (y : S.T t2) (d2 : Dp) => storeRow_ok L I hfr (y := y) (d2 := d2) ho hvd hni hk hc2 hvl (ble_le hle) hβ hm
        split at h
        · rename_i y hy
          simp only [Tr.Can] at h
          subst h
          have := key y [] (fun p hp => (by cases hp)) rfl rfl fun cs hcl hR => L.mono _ _ _ _ _ _ (fun k hk => by simpa using hk) (L.stp _ _ _ _ _ _ _ _ _ _ hR (by rw [Int.toNat_of_nonneg h0]; exact hy) hc1)
          simpa using this
        · obtain ⟨y, hy, h⟩ := can_or h
          obtain ⟨hny, h⟩ := can_guard h
          simp only [Tr.Can] at h
          subst h
          obtain ⟨_, hs, hdl', _⟩ := I.obj i s _ ho
          have hdl : dlt e.U ((i, s) :: d) := by
            intro x hx
            rcases List.mem_cons.1 hx with rfl | hx
            · exact ⟨hi, hs⟩
            · exact hdl' x hx
          have hval : valid e.ob ((i, s) :: d) = true := by
            rw [valid_iff] at hvd ⊢
            intro x hx
            rcases List.mem_cons.1 hx with rfl | hx
            · exact ⟨_, ho⟩
            · exact hvd x hx
          have hg : e.ok i g := (I.obj i s _ ho).2.2.2.1 g (by rw [hβ]; rfl)
          have hinn : ∀ cs, Q.rep t2 (fun k => (e.ok i k ∧ k ≠ g) ∨ e.Fd d k) e.w (get t2 l (j.toNat : Int)) cs → dlt e.U y.2 ∧ valid e.ob y.2 = true ∧ Q.rep t2 (e.Fd y.2) e.w y.1 (splice off v.cells.toList cs) := by
            intro cs hR
            have hR2 : Q.rep t2 (e.Fd ((i, s) :: d)) e.w (get t2 l j) cs := by
              rw [Int.toNat_of_nonneg h0] at hR
              refine L.mono _ _ _ _ _ _ ?_ hR
              rintro k (⟨hk, _⟩ | ⟨x, hx, hk⟩)
              · exact ⟨(i, s), List.mem_cons_self, hk⟩
              · exact ⟨x, List.mem_cons_of_mem _ hx, hk⟩
            exact L.inn _ e _ _ _ _ I hy (hc1.splice (L.out _ e _ _ _ hdl hval hR2))
          obtain ⟨p0, cs0, q0, _, _, _, _, _, _, hR0, _, _⟩ := row_elem L ⟨_, ho⟩ hi hs (I.obj i s _ ho).2.2 hvd hβ hm
          obtain ⟨hyd, hyv, _⟩ := hinn cs0 hR0
          exact key y.1 y.2 hyd hyv hny fun cs hcl hR => L.mono _ _ _ _ _ _ (fun k ⟨x, hx, hk⟩ => .inr ⟨x, List.mem_append_right _ hx, hk⟩) (hinn cs hR).2.2
      · exact h.elim
    · rename_i s t2 c te d sv l hl ho
      split at h
      · rename_i ht
        subst ht
        obtain ⟨hb, h⟩ := can_guard h
        simp only [Bool.and_eq_true] at hb
        obtain ⟨⟨⟨⟨⟨⟨hvd, hk⟩, hk'⟩, hln⟩, hn⟩, hle⟩, hni⟩ := hb
        obtain ⟨hc1, hc2, hc3⟩ := holdV_cells I hv hn
        have hl' := beq_eq' hln
        have hvl : v.cells.toList.length = S.sz t := by rw [Array.length_toList, hc3, hl']
        have hpe : hold Q e p (.elt i t2 j off) := hp
        cases hq : Nat.ble (off + S.sz t) c || Nat.blt c off with
        | true =>
          rw [hq] at h
          exact storeRest_ok L I hfr ho hvd hni hk hc1 hc2 hvl (ble_le hle) (by simpa [Nat.blt_eq] using hq) hpe h
        | false =>
          rw [hq] at h
          simp only [Bool.or_eq_false_iff] at hq
          have hq1 : c < off + S.sz t := by
            rcases Nat.lt_or_ge c (off + S.sz t) with h | h
            · exact h
            · rw [Nat.ble_eq_true_of_le h] at hq; cases hq.1
          have hq2 : off ≤ c := by
            rcases Nat.lt_or_ge c off with h | h
            · have : Nat.blt c off = true := Nat.ble_eq_true_of_le h
              rw [this] at hq; cases hq.2
            · exact h
          simp only [cond_false] at h
          split at h
          · rename_i hcc
            exact storeSl_ok L I hfr ho hvd hni hk hc1 hc2 hvl (ble_le hle) hq1 hq2 (fun k hk => by cases hk) (fun u hu => by
              have h9 := hc1.get hcc hu
              have h9 : u = .slice none 0 0 := h9
              subst h9
              exact ⟨[], ⟨by simp, .inl ⟨rfl, rfl⟩⟩, rfl, fun k hk => by cases hk⟩) hpe h
          · rename_i k hcc
            split at h
            · rename_i s3 t3 d3 lk hok
              split at h
              · rename_i h3
                subst h3
                obtain ⟨hg, h⟩ := can_guard h
                simp only [Bool.and_eq_true, Bool.not_eq_true'] at hg
                obtain ⟨⟨⟨hg1, hg2⟩, hg3⟩, hg4⟩ := hg
                have hki : k ≠ i := fun e1 => by rw [e1, Nat.beq_refl] at hg1; exact absurd hg1 (by decide)
                obtain ⟨k1, k2, k3, k4, _⟩ := I.obj k s3 _ hok
                exact storeSl_ok L I hfr ho hvd hni hk hc1 hc2 hvl (ble_le hle) hq1 hq2 (fun k' hk => by cases hk; exact ⟨hki, ⟨_, _, hok, by simp⟩, hg3⟩) (fun u hu => by
                  have h9 := hc1.get hcc hu
                  have h9 : _ ∧ u = e.β k := h9
                  obtain ⟨cj, hj1, hj2⟩ := rowFlat L.toPre I hok hg2 hg4
                  rw [h9.2]
                  exact ⟨cj, hj1, hj2, fun b hb => ⟨k, rfl, k4 b hb⟩⟩) hpe h
              · exact h.elim
            · exact h.elim
          · exact h.elim
      · exact h.elim
    · exact h.elim
  ·
    rename_i i sv j k off x
    split at h
    · rename_i s t0 c te d sv' l hh ho
      obtain ⟨hb, h⟩ := can_guard h
      obtain ⟨y, hy, h⟩ := can_or h
      simp only [Tr.Can] at h
      subst h
      simp only [Bool.and_eq_true] at hb
      obtain ⟨⟨⟨⟨⟨⟨hk, hk'⟩, hfl⟩, hl⟩, hn⟩, hle⟩, hni⟩ := hb
      obtain ⟨hc1, hc2, hc3⟩ := holdV_cells I hv hn
      have hl' := beq_eq' hl
      have hvl : v.cells.toList.length = S.sz t := by rw [Array.length_toList, hc3, hl']
      exact storeSel_ok L I hfr ho hni hk hc1 hc2 hvl (ble_le hle) hp hy
    · exact h.elim
  · exact h.elim
end
end Go.Proofs.Ytheemkehedmlfaa.E
