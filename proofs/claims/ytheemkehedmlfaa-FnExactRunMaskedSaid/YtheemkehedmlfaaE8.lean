import Derived.Test.YtheemkehedmlfaaE7
set_option linter.unusedVariables false
set_option linter.unusedSimpArgs false
namespace Go.Proofs.Ytheemkehedmlfaa.E
open Go
section
variable {S : Sig} {Q : Kind S}
theorem lenX_ok (L : Laws S Q) {e : Env S.T} (I : Inv Q e) {t ty : TypeId} {a : SX S.T} {v : Value} (hv : holdX Q e v a) {u : Upd S.T} (h : (lenX e.ob t a).Can u) :
    ∃ v', (Builtin.len_ #[t] ty #[v]).run S.P e.w = .ok v' e.w ∧ holdX Q e v' u.res ∧ u.set = [] := by
  unfold lenX at h
  split at h
  · rename_i s
    obtain ⟨hs, h⟩ := can_guard h
    rw [can_rv h]
    have hv : v = .string s := hv
    subst hv
    exact ⟨_, by simp [Builtin.len_, run_underlying (td_str L hs), goInt], rfl, rfl⟩
  · rename_i x hnx
    clear hnx
    have hg := can_guard h
    clear h
    obtain ⟨hs, h⟩ := hg
    obtain ⟨te, hte⟩ : ∃ te, S.elem t = some te := by
      cases hq : S.elem t with
      | none => rw [hq] at hs; cases hs
      | some te => exact ⟨te, rfl⟩
    have hu := td_elem L hte
    have key : ∀ A n c, (Builtin.len_ #[t] ty #[.slice A n c]).run S.P e.w = .ok (.int .i64 (n : Int)) e.w := fun A n c => by simp [Builtin.len_, run_underlying hu, goInt]
    split at h
    · rw [can_rv h]
      have hv : v = .slice none 0 0 := hv
      subst hv
      exact ⟨_, key _ _ _, rfl, rfl⟩
    · rename_i t' d l
      obtain ⟨hval, h⟩ := can_guard h
      rw [can_rv h]
      obtain ⟨A, c, rfl, _⟩ := hv.2.2 hval
      exact ⟨_, key _ _ _, rfl, rfl⟩
    · rename_i i n
      rw [can_rv h]
      obtain ⟨_, h0, A, m, c, _, _, rfl⟩ := hv
      exact ⟨_, key _ _ _, by show Value.int _ _ = _; rw [Int.toNat_of_nonneg h0], rfl⟩
    · rename_i i
      split at h
      · rename_i s t' d l ho
        rw [can_rv h]
        obtain ⟨_, rfl⟩ := hv
        obtain ⟨_, _, _, _, cs, hr, _⟩ := I.obj i s _ ho
        rcases hr.2 with ⟨h5, h0⟩ | ⟨g, cap, cur, hβ, _⟩
        · rw [h5]
          exact ⟨_, key _ _ _, by show Value.int _ _ = Value.int _ _; rw [h0], rfl⟩
        · rw [hβ]
          exact ⟨_, key _ _ _, rfl, rfl⟩
      · rename_i s t' c' te' d sv l hl ho
        rw [can_rv h]
        obtain ⟨_, rfl⟩ := hv
        obtain ⟨_, _, _, _, _, _, _, cs, hr, _⟩ := I.obj i s _ ho
        rcases hr.2 with ⟨h5, h0⟩ | ⟨g, cap, cur, hβ, _⟩
        · rw [h5]
          exact ⟨_, key _ _ _, by show Value.int _ _ = Value.int _ _; rw [h0], rfl⟩
        · rw [hβ]
          exact ⟨_, key _ _ _, rfl, rfl⟩
      · exact h.elim
    · rename_i i sv j
      split at h
      · rename_i s t0 c te0 d sv' l hh hlk
        rw [can_rv h]
        obtain ⟨ho, hval, e1, e2⟩ := lookS_ok hlk
        simp only at ho hval e1 e2
        clear hlk
        subst e1 e2
        obtain ⟨hi, hs', ho1⟩ := I.obj i s _ ho
        obtain ⟨g, m, cp, cs, cj, B, R, A⟩ := sub_at L.toPre ho1 hval (hv.2.2.2.2 _ _ _ _ _ _ _ ho)
        rcases A.irow.2 with ⟨h5, h0⟩ | ⟨g', cap, cur, hβ, _⟩
        · rw [h5]
          exact ⟨_, key _ _ _, by show Value.int _ _ = Value.int _ _; rw [show (S.ax.gsl t0 c te0 (get t0 l j)).length = 0 from h0], rfl⟩
        · rw [hβ]
          exact ⟨_, key _ _ _, rfl, rfl⟩
      · exact h.elim
    · rename_i i t0 n
      split at h
      · rename_i p hp
        rw [can_rv h]
        obtain ⟨_, _, A, c, rfl, _⟩ := asList_ok L I (c := .tail i t0 n) (v := v) hv hp
        exact ⟨_, key _ _ _, rfl, rfl⟩
      · exact h.elim
    · exact h.elim
  · exact h.elim
theorem indexX_ok (L : Laws S Q) {e : Env S.T} {t : TypeId} {a ix : SX S.T} {v iv : Value} (hv : holdX Q e v a) (hiv : holdX Q e iv ix) {u : Upd S.T} (h : (indexX t a ix).Can u) :
    ∃ v', (Instr.index t v iv).run S.P e.w = .ok v' e.w ∧ holdX Q e v' u.res ∧ u.set = [] := by
  unfold indexX at h
  split at h
  · rename_i s k i
    obtain ⟨hs, h⟩ := can_guard h
    obtain ⟨h0, h⟩ := can_br h
    obtain ⟨h1, h⟩ := can_br h
    simp only [decide_eq_true_eq] at h0 h1
    rw [can_rv h]
    have hv : v = .string s := hv
    have hiv : iv = .int k i := hiv
    subst hv hiv
    have hlt : i.toNat < s.size := by omega
    refine ⟨_, ?_, rfl, rfl⟩
    simp [Instr.index, asIntOf, run_underlying (td_str L hs), h0, hlt, bt]
  · exact h.elim
theorem run_bounds {P : Program} {w : World} (isS : Bool) (len cap : Nat) (lo hi : Option Value) (l h : Int) (hl : lo = none ∧ l = 0 ∨ ∃ k, lo = some (.int k l)) (hh : hi = none ∧ h = len ∨ ∃ k, hi = some (.int k h)) (h0 : 0 ≤ l) (h1 : l ≤ h) (h2 : h ≤ (len : Int)) (h3 : len ≤ cap) :
    (Instr.sliceBounds isS len cap lo hi none).run P w = .ok (l.toNat, h.toNat, cap) w := by
  have a1 : h ≤ (cap : Int) := by omega
  have a2 : 0 ≤ h := by omega
  have a3 : l ≤ ((h.toNat : Nat) : Int) := by omega
  rcases hl with ⟨rfl, rfl⟩ | ⟨k, rfl⟩ <;> rcases hh with ⟨rfl, rfl⟩ | ⟨k', rfl⟩ <;>
    simp [Instr.sliceBounds, Instr.sliceBound, asIntOf, h0, a1, a2, a3]
  all_goals (first | omega | (simp [h1]; done) | skip)
def Bd (Q : Kind S) (e : Env S.T) (x : Option (SX S.T)) (v : Option Value) : Prop := match x with
  | none => v = none
  | some x => ∃ u, v = some u ∧ holdX Q e u x
theorem Bd.of {e : Env S.T} {x : Option (SX S.T)} {v : Option Value} (h : Bd Q e x v) {d i : Int} (hb : boundI d x = some i) : (v = none ∧ i = d) ∨ ∃ k, v = some (.int k i) := by
  unfold boundI at hb
  split at hb
  · cases hb; exact .inl ⟨h, rfl⟩
  · rename_i k j
    cases hb
    obtain ⟨u, rfl, hu⟩ := h
    exact .inr ⟨k, congrArg some hu⟩
  · cases hb
theorem sliceX_ok (L : Laws S Q) {e : Env S.T} (I : Inv Q e) {t : TypeId} {a : SX S.T} {lo hi mx : Option (SX S.T)} {v : Value} {lv hv' mv : Option Value} (hv : holdX Q e v a)
    (hlo : Bd Q e lo lv) (hhi : Bd Q e hi hv') (hmx : Bd Q e mx mv) {u : Upd S.T} (h : (sliceX e.ob t a lo hi mx).Can u) :
    ∃ v', (Instr.sliceAt t v lv hv' mv).run S.P e.w = .ok v' e.w ∧ holdX Q e v' u.res ∧ u.set = [] := by
  unfold sliceX at h
  split at h
  ·
    rename_i lo hi s
    have hg := can_guard h
    clear h
    obtain ⟨hs, h⟩ := hg
    have hv : v = .string s := hv
    subst hv
    rw [show mv = none from hmx]
    split at h
    · rename_i l hh hl hhh
      obtain ⟨h0, h⟩ := can_br h
      obtain ⟨h1, h⟩ := can_br h
      obtain ⟨h2, h⟩ := can_br h
      simp only [decide_eq_true_eq] at h0 h1 h2
      rw [can_rv h]
      have hb := run_bounds (P := S.P) (w := e.w) false s.size s.size lv hv' l hh (hlo.of hl) (hhi.of hhh) h0 h1 h2 (Nat.le_refl _)
      exact ⟨_, by simp [Instr.sliceAt, Instr.slice, run_underlying (td_str L hs), hb], rfl, rfl⟩
    · exact h.elim
  ·
    rename_i i k n
    have hg := can_guard h
    clear h
    obtain ⟨hs, h⟩ := hg
    obtain ⟨te, hte, hke⟩ : ∃ te, S.elem t = some te ∧ S.known te = true := by
      cases hq : S.elem t with
      | none => rw [hq] at hs; cases hs
      | some te => rw [hq] at hs; exact ⟨te, rfl, hs⟩
    have hu := td_elem L hte
    split at h
    · rename_i s t' d l ho
      obtain ⟨h0, h⟩ := can_br h
      obtain ⟨h1, h⟩ := can_br h
      simp only [decide_eq_true_eq] at h0 h1
      rw [can_rv h, show mv = none from hmx]
      obtain ⟨hi, rfl⟩ := hv
      obtain ⟨_, _, _, _, _, cs, hr, _⟩ := lookR_ok L.toPre I ho
      have hsz := run_sizeOf' L hke e.w
      rcases hr.2 with ⟨h5, hl0⟩ | ⟨g, cap, cur, hβ, _, _, hnc, _⟩
      · have hn : n = 0 := by omega
        subst hn
        have hb := run_bounds (P := S.P) (w := e.w) true 0 0 lv hv' 0 0 (.inl ⟨hlo, rfl⟩) (hhi.of (d := 0) rfl) (by omega) (by omega) (by omega) (Nat.le_refl _)
        rw [h5]
        refine ⟨.slice none 0 0, ?_, ⟨hi, Int.le_refl _, none, 0, 0, h5, Nat.le_refl _, rfl⟩, rfl⟩
        simp only [Int.toNat_zero] at hb
        simp [Instr.sliceAt, Instr.slice, run_underlying hu, hb, hsz]
      · have hb := run_bounds (P := S.P) (w := e.w) true l.length cap lv hv' 0 n (.inl ⟨hlo, rfl⟩) (hhi.of (d := (l.length : Int)) rfl) (by omega) (by omega) h1 hnc
        rw [hβ]
        refine ⟨.slice (some ⟨g, 0, none⟩) n.toNat cap, ?_, ⟨hi, h0, _, _, _, hβ, by omega, rfl⟩, rfl⟩
        simp only [Int.toNat_zero] at hb
        simp only [Instr.sliceAt, Instr.slice, Sem.run_bind, run_underlying hu, hb, hsz, Result.andThen_ok, Sem.run_pure, Option.map_some, Nat.zero_mul, Nat.sub_zero, add_off, Nat.add_zero, ite_self]
    · exact h.elim
  ·
    rename_i i k n
    unfold tailX at h
    obtain ⟨te, hte, h⟩ := can_or h
    obtain ⟨hke, h⟩ := can_guard h
    obtain ⟨p, hp, h⟩ := can_or h
    obtain ⟨h0, h⟩ := can_br h
    obtain ⟨h1, h⟩ := can_br h
    simp only [decide_eq_true_eq] at h0 h1
    have hvv := hv
    obtain ⟨hi, rfl⟩ := hv
    obtain ⟨hd, hval, A, c, hβ, hc, hr⟩ := asList_ok L I (c := .row i) (v := e.β i) hvv hp
    have hu := td_elem L hte
    have hsz := run_sizeOf' L hke e.w
    rw [show mv = none from hmx]
    have hb := run_bounds (P := S.P) (w := e.w) true p.1.length c lv hv' n p.1.length (hlo.of rfl) (hhi.of rfl) h0 h1 (Int.le_refl _) hc
    rw [hβ]
    cases hff : S.flat te && Nat.beq (S.sz te) 1 with
    | true =>
      rw [hff] at h
      rw [can_rv h]
      refine ⟨_, by simp only [Instr.sliceAt, Instr.slice, Sem.run_bind, run_underlying hu, hb, hsz, Result.andThen_ok, Sem.run_pure, Int.toNat_natCast]; rfl, ⟨hi, h0, A, _, c, hβ, by omega, _, _, rfl, by omega, fun hlt => ?_⟩, rfl⟩
      have hpne : p.1 ≠ [] := by rintro h9; rw [h9] at hlt; simp at hlt
      obtain ⟨g, o, cs, rfl, hg, hcs, hrep⟩ := hr hpne
      have ho : o = 0 := by
        simp only [asList] at hp
        split at hp
        · rename_i s t' d' l' ho
          obtain ⟨_, _, _, _, _, cs', hr', _⟩ := lookR_ok L.toPre I ho
          rcases hr'.2 with ⟨h5, _⟩ | ⟨g', cap, cur, h5, _⟩
          · rw [hβ] at h5; cases h5
          · rw [hβ] at h5
            injection h5 with e1
            injection e1 with e1
            injection e1 with _ e2
        · cases hp
      subst ho
      refine ⟨g, rfl, ?_⟩
      rw [if_neg (by omega), Option.map_some, add_off, Nat.zero_add]
    | false =>
      rw [hff] at h
      rw [can_rv h]
      have hlen : (p.1.drop n.toNat).length = p.1.length - n.toNat := List.length_drop
      refine ⟨_, by simp only [Instr.sliceAt, Instr.slice, Sem.run_bind, run_underlying hu, hb, hsz, Result.andThen_ok, Sem.run_pure, Int.toNat_natCast]; rfl, ⟨hd, rfl, fun _ => ⟨_, _, by rw [hlen], by omega, fun hne => ?_⟩⟩, rfl⟩
      have hpne : p.1 ≠ [] := by rintro h9; rw [h9] at hne; simp at hne
      have hlt : n.toNat < p.1.length := by
        rcases Nat.lt_or_ge n.toNat p.1.length with h | h
        · exact h
        · exact absurd (List.drop_eq_nil_of_le h) hne
      obtain ⟨g, o, cs, rfl, hg, hcs, hrep⟩ := hr hpne
      refine ⟨g, o + n.toNat * S.sz te, (cs.drop (n.toNat * S.sz te)).take cs.length, ?_, hg, hcs.sub _ _, ?_⟩
      · rw [if_neg (by omega), Option.map_some, add_off]
      · rw [List.take_of_length_le (by rw [List.length_drop]; omega)]
        exact reps_drop _ hrep
  ·
    rename_i lo hi x hn1 hn2 hn3
    have hg := can_or h
    clear h
    obtain ⟨te, hte, h⟩ := hg
    obtain ⟨hke, h⟩ := can_guard h
    obtain ⟨p, hp, h⟩ := can_or h
    obtain ⟨hd, hval, A, c, rfl, hc, hr⟩ := asList_ok L I hv hp
    have hu := td_elem L hte
    have hsz := run_sizeOf' L hke e.w
    rw [show mv = none from hmx]
    split at h
    · rename_i l hh hl hhh
      obtain ⟨h0, h⟩ := can_br h
      obtain ⟨h1, h⟩ := can_br h
      obtain ⟨h2, h⟩ := can_br h
      simp only [decide_eq_true_eq] at h0 h1 h2
      rw [can_rv h]
      have hb := run_bounds (P := S.P) (w := e.w) true p.1.length c lv hv' l hh (hlo.of hl) (hhi.of hhh) h0 h1 h2 hc
      have hlen : ((p.1.drop l.toNat).take (hh.toNat - l.toNat)).length = hh.toNat - l.toNat := by rw [List.length_take, List.length_drop]; omega
      by_cases hcl : c = l.toNat
      · refine ⟨_, by simp only [Instr.sliceAt, Instr.slice, Sem.run_bind, run_underlying hu, hb, hsz, Result.andThen_ok, Sem.run_pure]; rfl, ⟨hd, rfl, fun _ => ⟨_, _, by rw [hlen], by omega, fun hne => ?_⟩⟩, rfl⟩
        exfalso
        apply hne
        apply List.eq_nil_of_length_eq_zero
        omega
      · refine ⟨_, by simp only [Instr.sliceAt, Instr.slice, Sem.run_bind, run_underlying hu, hb, hsz, Result.andThen_ok, Sem.run_pure]; rfl, ⟨hd, rfl, fun _ => ⟨_, _, by rw [hlen], by omega, fun hne => ?_⟩⟩, rfl⟩
        have hpne : p.1 ≠ [] := by rintro h9; rw [h9] at hne; simp at hne
        obtain ⟨g, o, cs, rfl, hg, hcs, hrep⟩ := hr hpne
        refine ⟨g, o + l.toNat * S.sz te, (cs.drop (l.toNat * S.sz te)).take ((hh.toNat - l.toNat) * S.sz te), ?_, hg, hcs.sub _ _, reps_take _ (reps_drop _ hrep)⟩
        rw [if_neg hcl, Option.map_some, add_off]
    · exact h.elim
  · exact h.elim
end
end Go.Proofs.Ytheemkehedmlfaa.E
