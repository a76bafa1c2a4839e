import Derived.Test.YtheemkehedmlfaaE6
set_option linter.unusedVariables false
set_option linter.unusedSimpArgs false
namespace Go.Proofs.Ytheemkehedmlfaa.E
open Go
section
variable {S : Sig} {Q : Kind S}
theorem can_rv {c : SC S.T} {u : Upd S.T} (h : (rv c).Can u) : u = ⟨.v (.c c), []⟩ := (show _ = u from h).symm
theorem can_fldK (L : Laws S Q) {t : TypeId} {f : Nat} {k : Nat → Ret S} {u : Upd S.T} (h : (fldK S t f k).Can u) : ∃ o, (k o).Can u ∧ ∀ (w : World) (g o' : Nat), (Instr.fieldAt t (.pointer (some ⟨g, o', none⟩)) f).run S.P w = .ok (.pointer (some ⟨g, o' + o, none⟩)) w := by
  unfold fldK at h
  obtain ⟨p, hp, h⟩ := can_or h
  obtain ⟨hsz, h⟩ := can_guard h
  obtain ⟨fs, h1, fd, h2, h3, h4, i, h5, h6⟩ := td_field L hp
  refine ⟨p.1, h, fun w g o => ?_⟩
  have h0 : i.size ≠ 0 := by have := ble_le hsz; omega
  simp [Instr.fieldAt, run_underlying h1, h2, Instr.sureAddr, fieldPlace, sizeOf, typeInfo, h4, h5, h0, h3, add_off]
theorem fieldAddrX_ok (L : Laws S Q) {e : Env S.T} {t : TypeId} {a : SX S.T} {f : Nat} {v : Value} (hv : holdX Q e v a) {u : Upd S.T} (h : (fieldAddrX e.ob t a f).Can u) :
    ∃ v', (Instr.fieldAt t v f).run S.P e.w = .ok v' e.w ∧ holdX Q e v' u.res ∧ u.set = [] := by
  unfold fieldAddrX at h
  split at h
  · rename_i i off
    obtain ⟨hi, g, hβ, rfl⟩ := hv
    obtain ⟨o, h, key⟩ := can_fldK L h
    rw [can_rv h]
    exact ⟨_, key _ g off, ⟨hi, g, hβ, rfl⟩, rfl⟩
  · rename_i i t' j off
    obtain ⟨hi, h0, g, m, c, hβ, hm, rfl⟩ := hv
    obtain ⟨o, h, key⟩ := can_fldK L h
    rw [can_rv h]
    exact ⟨_, key _ g _, ⟨hi, h0, g, m, c, hβ, hm, by rw [Nat.add_assoc]⟩, rfl⟩
  · rename_i t' d x off
    obtain ⟨hval, h⟩ := can_guard h
    obtain ⟨hd, h1', hr⟩ := hv
    obtain ⟨g, o', cs, rfl, hg, hc, hl, hx⟩ := hr hval
    obtain ⟨o, h, key⟩ := can_fldK L h
    rw [can_rv h]
    exact ⟨_, key _ g _, ⟨hd, rfl, fun _ => ⟨g, o', cs, by rw [Nat.add_assoc], hg, hc, hl, hx⟩⟩, rfl⟩
  · rename_i i sv j k off
    obtain ⟨hs, h⟩ := can_guard h
    obtain ⟨⟨s0, t0, c0, te0, d0, sv0, l0, h0'⟩, hv0⟩ := Option.isSome_iff_exists.1 hs
    obtain ⟨ho, _, _, _⟩ := lookS_ok hv0
    simp only at ho
    obtain ⟨hi, hsv, h0, hk0, _, hsel⟩ := hv
    obtain ⟨g, m, cp, hh, hkm, rfl⟩ := hsel _ _ _ _ _ _ _ ho
    obtain ⟨o, h, key⟩ := can_fldK L h
    rw [can_rv h]
    refine ⟨_, key _ g _, ⟨hi, hsv, h0, hk0, rfl, fun s t c te d l hh' ho' => ?_⟩, rfl⟩
    rw [ho] at ho'
    cases ho'
    exact ⟨g, m, cp, hh, hkm, by rw [Nat.add_assoc]⟩
  · exact h.elim
theorem fieldX_ok (L : Laws S Q) {e : Env S.T} {t : TypeId} {a : SX S.T} {f : Nat} {v : Value} (hv : holdX Q e v a) {u : Upd S.T} (h : (fieldX t a f).Can u) :
    ∃ v', (Instr.field t v f).run S.P e.w = .ok v' e.w ∧ holdX Q e v' u.res ∧ u.set = [] := by
  unfold fieldX at h
  split at h
  · rename_i cs
    obtain ⟨p, hp, h⟩ := can_or h
    obtain ⟨hg, h⟩ := can_guard h
    obtain ⟨x, hx, h⟩ := can_or h
    have h := can_ret h
    subst h
    simp only [Bool.and_eq_true] at hg
    obtain ⟨fs, h1, fd, h2, h3, h4, i, h5, h6⟩ := td_field L hp
    obtain ⟨vs, rfl, hvs⟩ := hv
    have hle := ble_le hg.1
    have hag := run_isAgg' L hg.2 e.w
    have hsz := run_sizeOf' L hg.2 e.w
    have hsub := (hvs.drop p.1).take (S.sz p.2.1)
    have hlen := hvs.len
    unfold mkV at hx
    cases ha : S.isAgg p.2.1 with
    | true =>
      rw [ha] at hx hag
      simp only [cond_true, Option.some.injEq] at hx
      subst hx
      refine ⟨.agg ((vs.drop p.1).take (S.sz p.2.1)).toArray, ?_, ⟨_, rfl, hsub⟩, rfl⟩
      have he : vs.toArray.extract p.1 (p.1 + S.sz p.2.1) = ((vs.drop p.1).take (S.sz p.2.1)).toArray := by
        apply Array.ext'
        simp
      simp [Instr.field, run_underlying h1, h2, asAgg, part, h4, hag, hsz, h3, he]
    | false =>
      rw [ha] at hx hag
      simp only [cond_false] at hx
      split at hx
      · rename_i c hc
        simp only [Option.some.injEq] at hx
        subst hx
        rw [hc] at hsub
        cases hsub' : (vs.drop p.1).take (S.sz p.2.1) with
        | nil => rw [hsub'] at hsub; cases hsub
        | cons y ys =>
          rw [hsub'] at hsub
          cases hsub with
          | cons g1 g2 =>
            refine ⟨y, ?_, g1, rfl⟩
            have hy : vs[p.1]? = some y := by
              have := congrArg (fun l : List Value => l[0]?) hsub'
              simp only [List.getElem?_take, List.getElem?_drop, List.getElem?_cons_zero, Nat.add_zero] at this
              split at this
              · exact this
              · cases this
            simp [Instr.field, run_underlying h1, h2, asAgg, part, h4, hag, h3, hy]
      · cases hx
  · exact h.elim
theorem can_elK (L : Laws S Q) {t : TypeId} {k : TypeId → Ret S} {u : Upd S.T} (h : (elK S t k).Can u) : ∃ e, S.elem t = some e ∧ S.known e = true ∧ S.P.underlying t = some (.slice e) ∧ (k e).Can u := by
  unfold elK at h
  obtain ⟨e, he, h⟩ := can_or h
  obtain ⟨hk, h⟩ := can_guard h
  exact ⟨e, he, hk, td_elem L he, h⟩
theorem run_indexAt (L : Laws S Q) {t e : TypeId} (ht : S.P.underlying t = some (.slice e)) (he : S.known e = true) (w : World) (g o n c : Nat) (k : IntKind) (j : Int) (h0 : 0 ≤ j) (h1 : j < (n : Int)) :
    (Instr.indexAt t (.slice (some ⟨g, o, none⟩) n c) (.int k j)).run S.P w = .ok (.pointer (some ⟨g, o + j.toNat * S.sz e, none⟩)) w := by
  have hsz := run_sizeOf' L he w
  simp [Instr.indexAt, asIntOf, run_underlying ht, h0, h1, hsz, add_off]
theorem indexAddrX_ok (L : Laws S Q) {e : Env S.T} (I : Inv Q e) {t : TypeId} {a ix : SX S.T} {v iv : Value} (hv : holdX Q e v a) (hiv : holdX Q e iv ix) {u : Upd S.T} (h : (indexAddrX e.ob t a ix).Can u) :
    ∃ v', (Instr.indexAt t v iv).run S.P e.w = .ok v' e.w ∧ holdX Q e v' u.res ∧ u.set = [] := by
  unfold indexAddrX at h
  split at h
  · rename_i i k j
    split at h
    · rename_i s t' d l ho
      obtain ⟨te, h1, h2, h3, h⟩ := can_elK L h
      obtain ⟨hb, h⟩ := can_guard h
      have hb := beq_eq' hb
      subst hb
      obtain ⟨hj0, h⟩ := can_br h
      obtain ⟨hj1, h⟩ := can_br h
      simp only [decide_eq_true_eq] at hj0 hj1
      rw [can_rv h]
      have hiv : iv = .int k j := hiv
      subst hiv
      obtain ⟨hi, rfl⟩ := hv
      obtain ⟨_, _, _, _, cs, hr, _⟩ := I.obj i s _ ho
      rcases hr.2 with ⟨_, h0⟩ | ⟨g, cap, cur, hβ, _⟩
      · omega
      · rw [hβ]
        refine ⟨_, run_indexAt L h3 h2 _ g 0 _ cap k j hj0 hj1, ⟨hi, hj0, g, _, cap, hβ, by omega, by simp⟩, rfl⟩
    · rename_i s t' c' te' d sv l hl ho
      obtain ⟨te, h1, h2, h3, h⟩ := can_elK L h
      obtain ⟨hb, h⟩ := can_guard h
      have hb := beq_eq' hb
      subst hb
      obtain ⟨hj0, h⟩ := can_br h
      obtain ⟨hj1, h⟩ := can_br h
      simp only [decide_eq_true_eq] at hj0 hj1
      rw [can_rv h]
      have hiv : iv = .int k j := hiv
      subst hiv
      obtain ⟨hi, rfl⟩ := hv
      obtain ⟨_, _, _, _, _, _, _, cs, hr, _⟩ := I.obj i s _ ho
      rcases hr.2 with ⟨_, h0⟩ | ⟨g, cap, cur, hβ, _⟩
      · omega
      · rw [hβ]
        refine ⟨_, run_indexAt L h3 h2 _ g 0 _ cap k j hj0 hj1, ⟨hi, hj0, g, _, cap, hβ, by omega, by simp⟩, rfl⟩
    · exact h.elim
  · rename_i i n k j
    split at h
    · rename_i s t' d l ho
      obtain ⟨te, h1, h2, h3, h⟩ := can_elK L h
      obtain ⟨hb, h⟩ := can_guard h
      have hb := beq_eq' hb
      subst hb
      obtain ⟨hj0, h⟩ := can_br h
      obtain ⟨hj1, h⟩ := can_br h
      simp only [decide_eq_true_eq] at hj0 hj1
      rw [can_rv h]
      have hiv : iv = .int k j := hiv
      subst hiv
      obtain ⟨hi, hn0, A, m, c, hβ, hnm, rfl⟩ := hv
      obtain ⟨_, _, _, _, _, cs, hr, _⟩ := lookR_ok L.toPre I ho
      rcases hr.2 with ⟨h5, h0⟩ | ⟨g, cap, cur, hβ', _⟩
      · rw [h5] at hβ
        cases hβ
        omega
      · rw [hβ'] at hβ
        cases hβ
        refine ⟨_, run_indexAt L h3 h2 _ g 0 _ _ k j hj0 (by omega), ⟨hi, hj0, g, _, _, hβ', by omega, by simp⟩, rfl⟩
    · exact h.elim
  · rename_i t' d l k j
    obtain ⟨te, h1, h2, h3, h⟩ := can_elK L h
    split at h
    · rename_i ht
      subst ht
      obtain ⟨hval, h⟩ := can_guard h
      obtain ⟨hj0, h⟩ := can_br h
      obtain ⟨hj1, h⟩ := can_br h
      simp only [decide_eq_true_eq] at hj0 hj1
      rw [can_rv h]
      have hiv : iv = .int k j := hiv
      subst hiv
      obtain ⟨hd, _, hr⟩ := hv
      obtain ⟨A, c, rfl, hc, hl⟩ := hr hval
      have hjl : j.toNat < l.length := by omega
      obtain ⟨g, o, cs, rfl, hg, hcs, hrep⟩ := hl (by rintro rfl; simp at hjl)
      have hx : l[j.toNat]? = some (get t' l j) := by
        unfold get
        rw [List.getD_eq_getElem?_getD, List.getElem?_eq_getElem hjl]
        rfl
      obtain ⟨p, c0, q, rfl, hp, hcl, hR⟩ := reps_at j.toNat hrep hx
      refine ⟨_, run_indexAt L h3 h2 _ g o _ c k j hj0 hj1, ⟨hd, rfl, fun _ => ⟨g, o + j.toNat * S.sz t', c0, by simp, hg, by rw [← hp]; exact hcs.mid, hcl, hR⟩⟩, rfl⟩
    · exact h.elim
  · rename_i i sv j ik k
    split at h
    · rename_i s t0 c te0 d sv' l hh hlk
      obtain ⟨te, h1, h2, h3, h4⟩ := can_elK L h
      obtain ⟨hb, h5⟩ := can_guard h4
      have hb := beq_eq' hb
      subst hb
      obtain ⟨hj0, h6⟩ := can_br h5
      obtain ⟨hj1, h7⟩ := can_br h6
      simp only [decide_eq_true_eq] at hj0 hj1
      rw [can_rv h7]
      have hiv : iv = .int ik k := hiv
      subst hiv
      obtain ⟨ho, hval, e1, e2⟩ := lookS_ok hlk
      simp only at ho hval e1 e2
      clear hlk
      subst e1 e2
      obtain ⟨hi, hs, ho1⟩ := I.obj i s _ ho
      have hhd := hv.2.2.2.2 _ _ _ _ _ _ _ ho
      obtain ⟨g, m, cp, cs, cj, B, R, A⟩ := sub_at L.toPre ho1 hval hhd
      have hir := A.irow
      rcases hir.2 with ⟨_, h0⟩ | ⟨g', cap, cur, hβ, _⟩
      · have : (S.ax.gsl t0 c te0 (get t0 l j)).length = 0 := h0
        omega
      · rw [hβ] at hhd ⊢
        refine ⟨_, run_indexAt L h3 h2 _ g' 0 _ cap ik k hj0 hj1, ⟨hi, hv.2.1, hv.2.2.1, hj0, rfl, fun s2 t2 c2 te2 d2 l2 h2 ho2 => ?_⟩, rfl⟩
        rw [ho] at ho2
        cases ho2
        exact ⟨g', _, cap, hhd, by show k.toNat < (S.ax.gsl t0 c te0 (get t0 l j)).length; omega, by simp⟩
    · exact h.elim
  · exact h.elim
end
end Go.Proofs.Ytheemkehedmlfaa.E
