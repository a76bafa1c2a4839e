import Derived.Test.YtheemkehedmlfaaU0
import Derived.Test.YtheemkehedmlfaaE6
set_option linter.unusedVariables false
set_option linter.unusedSimpArgs false
namespace Go.Proofs.Ytheemkehedmlfaa.E
open Go
section
variable {B : Tbl} {P : Program}
theorem cn_eta {A : Type} (r : Ty) (x : glue A r r.den) : cn r (hd r x) (tl r x) = x := by cases r <;> rfl
theorem beq_symm {a b : Ty} (h : Ty.beq a b = true) : Ty.beq b a = true := by
  have := Ty.beq_eq h
  subst this
  exact h
theorem castL_cast {a b : Ty} (h : Ty.beq a b = true) (h' : Ty.beq b a = true) (l : List a.den) : castL h' (castL h l) = l := by
  have := Ty.beq_eq h
  subst this
  rfl
theorem ssl0 {te t : TypeId} {e r : Ty} {x : (Ty.sl t e r).den} {m : List (tyOf B te).den} (h : Ty.beq (tyOf B te) e = true) : sslC B te (.sl t e r) 0 x m = (cn (A := List e.den) r (castL h m) (tl (A := List e.den) r x) : glue (List e.den) r r.den) := dif_pos h
theorem ssl0n {te t : TypeId} {e r : Ty} {x : (Ty.sl t e r).den} {m : List (tyOf B te).den} (h : ¬ Ty.beq (tyOf B te) e = true) : sslC B te (.sl t e r) 0 x m = x := dif_neg h
theorem gsl0 {te t : TypeId} {e r : Ty} {x : (Ty.sl t e r).den} (h : Ty.beq e (tyOf B te) = true) : gslC B te (.sl t e r) 0 x = castL h (hd (A := List e.den) r x) := dif_pos h
theorem gsl0n {te t : TypeId} {e r : Ty} {x : (Ty.sl t e r).den} (h : ¬ Ty.beq e (tyOf B te) = true) : gslC B te (.sl t e r) 0 x = [] := dif_neg h
theorem ssl0_hd {te t : TypeId} {e r : Ty} {x : (Ty.sl t e r).den} {m : List (tyOf B te).den} (h : Ty.beq (tyOf B te) e = true) : hd (A := List e.den) r (sslC B te (.sl t e r) 0 x m) = castL h m := (congrArg (hd (A := List e.den) r) (ssl0 h)).trans (hd_cn r _ _)
theorem ssl0_tl {te t : TypeId} {e r : Ty} {x : (Ty.sl t e r).den} {m : List (tyOf B te).den} (h : Ty.beq (tyOf B te) e = true) : tl (A := List e.den) r (sslC B te (.sl t e r) 0 x m) = tl (A := List e.den) r x := (congrArg (tl (A := List e.den) r) (ssl0 h)).trans (tl_cn r _ _)
theorem ss_C (te : TypeId) : ∀ (y : Ty) (c : Nat) (x : y.den) (m m' : List (tyOf B te).den), sslC B te y c (sslC B te y c x m) m' = sslC B te y c x m'
  | .nil, _, _, _, _ => rfl
  | .int k r, 0, _, _, _ => rfl
  | .bool r, 0, _, _, _ => rfl
  | .str r, 0, _, _, _ => rfl
  | .ref r, 0, _, _, _ => rfl
  | .int k r, c + 1, x, m, m' => by simp only [sslC, hd_cn, tl_cn, ss_C te r c]; rfl
  | .bool r, c + 1, x, m, m' => by simp only [sslC, hd_cn, tl_cn, ss_C te r c]; rfl
  | .str r, c + 1, x, m, m' => by simp only [sslC, hd_cn, tl_cn, ss_C te r c]; rfl
  | .ref r, c + 1, x, m, m' => by simp only [sslC, hd_cn, tl_cn, ss_C te r c]; rfl
  | .sl t e r, c + 1, x, m, m' => by simp only [sslC, hd_cn, tl_cn, ss_C te r c]; rfl
  | .sl t e r, 0, x, m, m' => by
    by_cases h : Ty.beq (tyOf B te) e = true
    · exact (ssl0 h).trans ((congrArg (fun z => (cn (A := List e.den) r (castL h m') z : glue (List e.den) r r.den)) (ssl0_tl h)).trans (ssl0 h).symm)
    · exact (ssl0n h).trans ((ssl0n h).trans (ssl0n h).symm)
theorem sg_C (te : TypeId) : ∀ (y : Ty) (c : Nat) (x : y.den), sslC B te y c x (gslC B te y c x) = x
  | .nil, _, _ => rfl
  | .int k r, 0, _ => rfl
  | .bool r, 0, _ => rfl
  | .str r, 0, _ => rfl
  | .ref r, 0, _ => rfl
  | .int k r, c + 1, x => by simp only [sslC, gslC, sg_C te r c]; exact cn_eta r x
  | .bool r, c + 1, x => by simp only [sslC, gslC, sg_C te r c]; exact cn_eta r x
  | .str r, c + 1, x => by simp only [sslC, gslC, sg_C te r c]; exact cn_eta r x
  | .ref r, c + 1, x => by simp only [sslC, gslC, sg_C te r c]; exact cn_eta r x
  | .sl t e r, c + 1, x => by simp only [sslC, gslC, sg_C te r c]; exact cn_eta r x
  | .sl t e r, 0, x => by
    by_cases h : Ty.beq e (tyOf B te) = true
    · refine (ssl0 (beq_symm h)).trans ?_
      rw [gsl0 h, castL_cast h (beq_symm h)]
      exact cn_eta r x
    · exact ssl0n fun h' => h (beq_symm h')
def okC (B : Tbl) (te : TypeId) : Ty → Nat → Bool
  | .sl _ e r, c => match c with | 0 => Ty.beq e (tyOf B te) | c + 1 => okC B te r c
  | .int _ r, c => match c with | 0 => false | c + 1 => okC B te r c
  | .bool r, c => match c with | 0 => false | c + 1 => okC B te r c
  | .str r, c => match c with | 0 => false | c + 1 => okC B te r c
  | .ref r, c => match c with | 0 => false | c + 1 => okC B te r c
  | .nil, _ => false
theorem xcT_ok {te c : Nat} : ∀ {y : Ty} {n : Nat}, xcT B y n = some (c, te) → ∃ c', c = n + c' ∧ okC B te y c' = true
  | .nil, n, h => by cases h
  | .int k r, n, h => by obtain ⟨c', h1, h2⟩ := xcT_ok (y := r) h; exact ⟨c' + 1, by omega, h2⟩
  | .bool r, n, h => by obtain ⟨c', h1, h2⟩ := xcT_ok (y := r) h; exact ⟨c' + 1, by omega, h2⟩
  | .str r, n, h => by obtain ⟨c', h1, h2⟩ := xcT_ok (y := r) h; exact ⟨c' + 1, by omega, h2⟩
  | .ref r, n, h => by obtain ⟨c', h1, h2⟩ := xcT_ok (y := r) h; exact ⟨c' + 1, by omega, h2⟩
  | .sl t e r, n, h => by
    simp only [xcT] at h
    split at h
    · rename_i p hp
      cases h
      obtain ⟨c', h1, h2⟩ := xcT_ok (y := r) hp
      exact ⟨c' + 1, by omega, h2⟩
    · cases hb : Ty.beq e (tyOf B t) && e.flat with
      | false => rw [hb] at h; cases h
      | true =>
        rw [hb] at h
        cases h
        simp only [Bool.and_eq_true] at hb
        exact ⟨0, rfl, hb.1⟩
theorem gs_C {te : TypeId} : ∀ {y : Ty} {c : Nat} {x : y.den} {m : List (tyOf B te).den}, okC B te y c = true → gslC B te y c (sslC B te y c x m) = m
  | .nil, _, _, _, h => by cases h
  | .int k r, 0, _, _, h => by cases h
  | .bool r, 0, _, _, h => by cases h
  | .str r, 0, _, _, h => by cases h
  | .ref r, 0, _, _, h => by cases h
  | .int k r, c + 1, x, m, h => by simp only [sslC, gslC, tl_cn]; exact gs_C (y := r) h
  | .bool r, c + 1, x, m, h => by simp only [sslC, gslC, tl_cn]; exact gs_C (y := r) h
  | .str r, c + 1, x, m, h => by simp only [sslC, gslC, tl_cn]; exact gs_C (y := r) h
  | .ref r, c + 1, x, m, h => by simp only [sslC, gslC, tl_cn]; exact gs_C (y := r) h
  | .sl t e r, c + 1, x, m, h => by simp only [sslC, gslC, tl_cn]; exact gs_C (y := r) h
  | .sl t e r, 0, x, m, h => by
    have h : Ty.beq e (tyOf B te) = true := h
    exact (gsl0 h).trans ((congrArg (castL h) (ssl0_hd (beq_symm h))).trans (castL_cast (beq_symm h) h m))
theorem okC_lt {te : TypeId} : ∀ {y : Ty} {c : Nat}, okC B te y c = true → c < y.size
  | .nil, _, h => by cases h
  | .int k r, 0, h => by cases h
  | .bool r, 0, h => by cases h
  | .str r, 0, h => by cases h
  | .ref r, 0, h => by cases h
  | .sl t e r, 0, h => Nat.succ_pos _
  | .int k r, c + 1, h => Nat.succ_lt_succ (okC_lt (y := r) h)
  | .bool r, c + 1, h => Nat.succ_lt_succ (okC_lt (y := r) h)
  | .str r, c + 1, h => Nat.succ_lt_succ (okC_lt (y := r) h)
  | .ref r, c + 1, h => Nat.succ_lt_succ (okC_lt (y := r) h)
  | .sl t e r, c + 1, h => Nat.succ_lt_succ (okC_lt (y := r) h)
def RdT (F : Nat → Prop) (w : World) (y : Ty) (v : Value) (l : List y.den) : Prop := ∃ A n, v = .slice A l.length n ∧ l.length ≤ n ∧ (l ≠ [] → ∃ g o cs, A = some ⟨g, o, none⟩ ∧ F g ∧ cellsAt w g o cs ∧ reps (repT F w y) y.size l cs)
theorem RdT.cast {a b : Ty} (h : Ty.beq a b = true) {F : Nat → Prop} {w : World} {v : Value} {l : List a.den} (hl : RdT F w a v l) : RdT F w b v (castL h l) := by
  have := Ty.beq_eq h
  subst this
  exact hl
theorem split_C {te : TypeId} {F : Nat → Prop} {w : World} : ∀ {y : Ty} {c : Nat} {x : y.den} {cs : List Value}, okC B te y c = true → repT F w y x cs →
    ∃ v, cs[c]? = some v ∧ v.oneCell' = true ∧ repT F w y (sslC B te y c x []) (cs.set c (.slice none 0 0)) ∧ RdT F w (tyOf B te) v (gslC B te y c x)
  | .nil, _, _, _, h, _ => by cases h
  | .int k r, 0, _, _, h, _ => by cases h
  | .bool r, 0, _, _, h, _ => by cases h
  | .str r, 0, _, _, h, _ => by cases h
  | .ref r, 0, _, _, h, _ => by cases h
  | .int k r, c + 1, x, cs, h, ⟨c0, e, hr⟩ => by
    obtain ⟨v, h1, h2, h3, h4⟩ := split_C (y := r) h hr
    subst e
    exact ⟨v, by simpa using h1, h2, ⟨c0.set c (.slice none 0 0), by simp [sslC, hd_cn], by simp only [sslC, tl_cn]; exact h3⟩, h4⟩
  | .bool r, c + 1, x, cs, h, ⟨c0, e, hr⟩ => by
    obtain ⟨v, h1, h2, h3, h4⟩ := split_C (y := r) h hr
    subst e
    exact ⟨v, by simpa using h1, h2, ⟨c0.set c (.slice none 0 0), by simp [sslC, hd_cn], by simp only [sslC, tl_cn]; exact h3⟩, h4⟩
  | .str r, c + 1, x, cs, h, ⟨c0, e, hr⟩ => by
    obtain ⟨v, h1, h2, h3, h4⟩ := split_C (y := r) h hr
    subst e
    exact ⟨v, by simpa using h1, h2, ⟨c0.set c (.slice none 0 0), by simp [sslC, hd_cn], by simp only [sslC, tl_cn]; exact h3⟩, h4⟩
  | .ref r, c + 1, x, cs, h, ⟨v0, c0, e, ho, hr⟩ => by
    obtain ⟨v, h1, h2, h3, h4⟩ := split_C (y := r) h hr
    subst e
    exact ⟨v, by simpa using h1, h2, ⟨v0, c0.set c (.slice none 0 0), by simp, ho, by simp only [sslC, tl_cn]; exact h3⟩, h4⟩
  | .sl t y r, c + 1, x, cs, h, ⟨v0, c0, e, ho, hs, hr⟩ => by
    obtain ⟨v, h1, h2, h3, h4⟩ := split_C (y := r) h hr
    subst e
    exact ⟨v, by simpa using h1, h2, ⟨v0, c0.set c (.slice none 0 0), by simp, ho, by simp only [sslC, hd_cn]; exact hs, by simp only [sslC, tl_cn]; exact h3⟩, h4⟩
  | .sl t y r, 0, x, cs, h, ⟨v0, c0, e, ho, hs, hr⟩ => by
    have h : Ty.beq y (tyOf B te) = true := h
    subst e
    refine ⟨v0, rfl, ho, ⟨.slice none 0 0, c0, rfl, rfl, ?_, ?_⟩, ?_⟩
    · have : hd (A := List y.den) r (sslC B te (.sl t y r) 0 x []) = [] := (ssl0_hd (beq_symm h)).trans ((castL_nil _ _).2 rfl)
      rw [this]
      exact ⟨none, 0, rfl, Nat.le_refl _, fun h => absurd rfl h⟩
    · have : tl (A := List y.den) r (sslC B te (.sl t y r) 0 x []) = tl (A := List y.den) r x := ssl0_tl (beq_symm h)
      rw [this]
      exact hr
    · rw [gsl0 h]
      exact RdT.cast h hs
theorem join_C {te : TypeId} {F : Nat → Prop} {w : World} {v : Value} {m : List (tyOf B te).den} : ∀ {y : Ty} {c : Nat} {x : y.den} {cs : List Value}, okC B te y c = true → cs[c]? = some v → v.oneCell' = true → repT F w y (sslC B te y c x []) (cs.set c (.slice none 0 0)) → RdT F w (tyOf B te) v m → repT F w y (sslC B te y c x m) cs
  | .nil, _, _, _, h, _, _, _, _ => by cases h
  | .int k r, 0, _, _, h, _, _, _, _ => by cases h
  | .bool r, 0, _, _, h, _, _, _, _ => by cases h
  | .str r, 0, _, _, h, _, _, _, _ => by cases h
  | .ref r, 0, _, _, h, _, _, _, _ => by cases h
  | _, _, _, [], _, hv, _, _, _ => by simp at hv
  | .int k r, c + 1, x, a :: cs, h, hv, ho, hr, hm => by
    obtain ⟨c0, e, hr⟩ := hr
    simp only [sslC, tl_cn, hd_cn, List.set_cons_succ, List.cons.injEq] at e hr ⊢
    obtain ⟨rfl, rfl⟩ := e
    exact ⟨cs, by rw [hd_cn], by rw [tl_cn]; exact join_C (y := r) h (by simpa using hv) ho hr hm⟩
  | .bool r, c + 1, x, a :: cs, h, hv, ho, hr, hm => by
    obtain ⟨c0, e, hr⟩ := hr
    simp only [sslC, tl_cn, hd_cn, List.set_cons_succ, List.cons.injEq] at e hr ⊢
    obtain ⟨rfl, rfl⟩ := e
    exact ⟨cs, by rw [hd_cn], by rw [tl_cn]; exact join_C (y := r) h (by simpa using hv) ho hr hm⟩
  | .str r, c + 1, x, a :: cs, h, hv, ho, hr, hm => by
    obtain ⟨c0, e, hr⟩ := hr
    simp only [sslC, tl_cn, hd_cn, List.set_cons_succ, List.cons.injEq] at e hr ⊢
    obtain ⟨rfl, rfl⟩ := e
    exact ⟨cs, by rw [hd_cn], by rw [tl_cn]; exact join_C (y := r) h (by simpa using hv) ho hr hm⟩
  | .ref r, c + 1, x, a :: cs, h, hv, ho, hr, hm => by
    obtain ⟨v0, c0, e, h0, hr⟩ := hr
    simp only [sslC, tl_cn, List.set_cons_succ, List.cons.injEq] at e hr ⊢
    obtain ⟨rfl, rfl⟩ := e
    exact ⟨_, cs, rfl, h0, by rw [tl_cn]; exact join_C (y := r) h (by simpa using hv) ho hr hm⟩
  | .sl t y r, c + 1, x, a :: cs, h, hv, ho, hr, hm => by
    obtain ⟨v0, c0, e, h0, hs, hr⟩ := hr
    simp only [sslC, tl_cn, hd_cn, List.set_cons_succ, List.cons.injEq] at e hr hs ⊢
    obtain ⟨rfl, rfl⟩ := e
    exact ⟨_, cs, rfl, h0, by rw [hd_cn]; exact hs, by rw [tl_cn]; exact join_C (y := r) h (by simpa using hv) ho hr hm⟩
  | .sl t y r, 0, x, a :: cs, h, hv, ho, hr, hm => by
    have h : Ty.beq y (tyOf B te) = true := h
    simp at hv
    subst hv
    obtain ⟨v0, c0, e, h0, hs, hr⟩ := hr
    simp only [List.set_cons_zero, List.cons.injEq] at e
    obtain ⟨rfl, rfl⟩ := e
    have e1 : tl (A := List y.den) r (sslC B te (.sl t y r) 0 x []) = tl (A := List y.den) r x := ssl0_tl (beq_symm h)
    have e2 : tl (A := List y.den) r (sslC B te (.sl t y r) 0 x m) = tl (A := List y.den) r x := ssl0_tl (beq_symm h)
    have e3 : hd (A := List y.den) r (sslC B te (.sl t y r) 0 x m) = castL (beq_symm h) m := ssl0_hd (beq_symm h)
    rw [e1] at hr
    exact ⟨_, cs, rfl, ho, by rw [e3]; exact RdT.cast (beq_symm h) hm, by rw [e2]; exact hr⟩
theorem sp_nil {off : Nat} {cs : List Value} : splice off [] cs = cs := by simp [splice]
theorem sp_zero {v c : Value} {vs cs : List Value} : splice 0 (v :: vs) (c :: cs) = v :: splice 0 vs cs := by simp [splice]
theorem sp_succ {o : Nat} {c : Value} {vs cs : List Value} : splice (o + 1) vs (c :: cs) = c :: splice o vs cs := by
  simp only [splice, List.take_succ_cons, List.cons_append]
  congr 2
  rw [show o + 1 + vs.length = (o + vs.length) + 1 by omega, List.drop_succ_cons]
theorem stp_C {F : Nat → Prop} {w : World} {e : Env (TT B)} {P : Program} : ∀ {y : Ty} {x x' : y.den} {off : Nat} {ps : List (SC (TT B))} {vs cs : List Value}, repT F w y x cs → stpT B y x off ps = some x' → All2 (hold (Kn B P) e) vs ps → repT F w y x' (splice off vs cs)
  | y, x, x', off, [], vs, cs, hr, h, hv => by
    cases hv
    rw [sp_nil]
    have : x' = x := by cases y <;> (simp only [stpT] at h; cases off <;> (cases h; rfl))
    rw [this]
    exact hr
  | .nil, x, x', off, p :: ps, vs, cs, hr, h, hv => by cases h
  | .int k r, x, x', 0, p :: ps, vs, cs, ⟨c0, e, hr⟩, h, hv => by
    cases hv
    rename_i v vs h1 h2
    cases p with
    | int k' n =>
      simp only [stpT] at h
      cases hk : kbeq k k' with
      | false => rw [hk] at h; cases h
      | true =>
        rw [hk] at h
        obtain ⟨z, hz, rfl⟩ := Option.map_eq_some_iff.1 h
        subst e
        rw [sp_zero]
        exact ⟨_, by rw [hd_cn, kbeq_eq hk, show v = _ from h1], by rw [tl_cn]; exact stp_C hr hz h2⟩
    | _ => cases h
  | .bool r, x, x', 0, p :: ps, vs, cs, ⟨c0, e, hr⟩, h, hv => by
    cases hv
    rename_i v vs h1 h2
    cases p with
    | bool b =>
      simp only [stpT] at h
      obtain ⟨z, hz, rfl⟩ := Option.map_eq_some_iff.1 h
      subst e
      rw [sp_zero]
      exact ⟨_, by rw [hd_cn, show v = _ from h1], by rw [tl_cn]; exact stp_C hr hz h2⟩
    | _ => cases h
  | .str r, x, x', 0, p :: ps, vs, cs, ⟨c0, e, hr⟩, h, hv => by
    cases hv
    rename_i v vs h1 h2
    cases p with
    | str b =>
      simp only [stpT] at h
      obtain ⟨z, hz, rfl⟩ := Option.map_eq_some_iff.1 h
      subst e
      rw [sp_zero]
      exact ⟨_, by rw [hd_cn, show v = _ from h1], by rw [tl_cn]; exact stp_C hr hz h2⟩
    | _ => cases h
  | .ref r, x, x', 0, p :: ps, vs, cs, hr, h, hv => by cases h
  | .sl t y r, x, x', 0, p :: ps, vs, cs, hr, h, hv => by cases h
  | .int k r, x, x', o + 1, p :: ps, vs, cs, ⟨c0, e, hr⟩, h, hv => by
    simp only [stpT] at h
    obtain ⟨z, hz, rfl⟩ := Option.map_eq_some_iff.1 h
    subst e
    rw [sp_succ]
    exact ⟨_, by rw [hd_cn], by rw [tl_cn]; exact stp_C hr hz hv⟩
  | .bool r, x, x', o + 1, p :: ps, vs, cs, ⟨c0, e, hr⟩, h, hv => by
    simp only [stpT] at h
    obtain ⟨z, hz, rfl⟩ := Option.map_eq_some_iff.1 h
    subst e
    rw [sp_succ]
    exact ⟨_, by rw [hd_cn], by rw [tl_cn]; exact stp_C hr hz hv⟩
  | .str r, x, x', o + 1, p :: ps, vs, cs, ⟨c0, e, hr⟩, h, hv => by
    simp only [stpT] at h
    obtain ⟨z, hz, rfl⟩ := Option.map_eq_some_iff.1 h
    subst e
    rw [sp_succ]
    exact ⟨_, by rw [hd_cn], by rw [tl_cn]; exact stp_C hr hz hv⟩
  | .ref r, x, x', o + 1, p :: ps, vs, cs, ⟨v0, c0, e, h0, hr⟩, h, hv => by
    obtain ⟨z, hz, rfl⟩ := Option.map_eq_some_iff.1 (show (stpT B r (tl (A := Unit) r x) o (p :: ps)).map (fun z => (cn (A := Unit) r (hd (A := Unit) r x) z : glue (Unit) r r.den)) = some x' from h)
    subst e
    rw [sp_succ]
    exact ⟨_, _, rfl, h0, by rw [tl_cn]; exact stp_C hr hz hv⟩
  | .sl t y r, x, x', o + 1, p :: ps, vs, cs, ⟨v0, c0, e, h0, hs, hr⟩, h, hv => by
    obtain ⟨z, hz, rfl⟩ := Option.map_eq_some_iff.1 (show (stpT B r (tl (A := List y.den) r x) o (p :: ps)).map (fun z => (cn (A := List y.den) r (hd (A := List y.den) r x) z : glue (List y.den) r r.den)) = some x' from h)
    subst e
    rw [sp_succ]
    exact ⟨_, _, rfl, h0, by rw [hd_cn]; exact hs, by rw [tl_cn]; exact stp_C hr hz hv⟩
theorem stps_C (te : TypeId) : ∀ {y : Ty} {c : Nat} {x x' : y.den} {off : Nat} {ps : List (SC (TT B))} (m : List (tyOf B te).den), stpT B y x off ps = some x' → stpT B y (sslC B te y c x m) off ps = some (sslC B te y c x' m) ∧ gslC B te y c x' = gslC B te y c x
  | y, c, x, x', off, [], m, h => by
    have : x' = x := by cases y <;> (simp only [stpT] at h; cases off <;> (cases h; rfl))
    rw [this]
    exact ⟨by cases y <;> (simp only [stpT]), rfl⟩
  | .nil, c, x, x', off, p :: ps, m, h => by cases h
  | .ref r, c, x, x', 0, p :: ps, m, h => by cases h
  | .sl t y r, c, x, x', 0, p :: ps, m, h => by cases h
  | .int k r, 0, x, x', off, p :: ps, m, h => ⟨h, rfl⟩
  | .bool r, 0, x, x', off, p :: ps, m, h => ⟨h, rfl⟩
  | .str r, 0, x, x', off, p :: ps, m, h => ⟨h, rfl⟩
  | .ref r, 0, x, x', off + 1, p :: ps, m, h => ⟨h, rfl⟩
  | .int k r, c + 1, x, x', 0, p :: ps, m, h => by
    cases p with
    | int k' n =>
      simp only [stpT, sslC, gslC, tl_cn, hd_cn] at h ⊢
      cases hk : kbeq k k' with
      | false => rw [hk] at h; cases h
      | true =>
        rw [hk] at h
        obtain ⟨z, hz, rfl⟩ := Option.map_eq_some_iff.1 h
        obtain ⟨h1, h2⟩ := stps_C te (c := c) m hz
        simp only [cond_true, h1, Option.map_some, tl_cn, hd_cn]
        exact ⟨rfl, h2⟩
    | _ => cases h
  | .bool r, c + 1, x, x', 0, p :: ps, m, h => by
    cases p with
    | bool b =>
      simp only [stpT, sslC, gslC, tl_cn, hd_cn] at h ⊢
      obtain ⟨z, hz, rfl⟩ := Option.map_eq_some_iff.1 h
      obtain ⟨h1, h2⟩ := stps_C te (c := c) m hz
      simp only [h1, Option.map_some, tl_cn, hd_cn]
      exact ⟨rfl, h2⟩
    | _ => cases h
  | .str r, c + 1, x, x', 0, p :: ps, m, h => by
    cases p with
    | str b =>
      simp only [stpT, sslC, gslC, tl_cn, hd_cn] at h ⊢
      obtain ⟨z, hz, rfl⟩ := Option.map_eq_some_iff.1 h
      obtain ⟨h1, h2⟩ := stps_C te (c := c) m hz
      simp only [h1, Option.map_some, tl_cn, hd_cn]
      exact ⟨rfl, h2⟩
    | _ => cases h
  | .int k r, c + 1, x, x', o + 1, p :: ps, m, h => by
    simp only [stpT, sslC, gslC, tl_cn, hd_cn] at h ⊢
    obtain ⟨z, hz, rfl⟩ := Option.map_eq_some_iff.1 h
    obtain ⟨h1, h2⟩ := stps_C te (c := c) m hz
    simp only [h1, Option.map_some, tl_cn, hd_cn]
    exact ⟨rfl, h2⟩
  | .bool r, c + 1, x, x', o + 1, p :: ps, m, h => by
    simp only [stpT, sslC, gslC, tl_cn, hd_cn] at h ⊢
    obtain ⟨z, hz, rfl⟩ := Option.map_eq_some_iff.1 h
    obtain ⟨h1, h2⟩ := stps_C te (c := c) m hz
    simp only [h1, Option.map_some, tl_cn, hd_cn]
    exact ⟨rfl, h2⟩
  | .str r, c + 1, x, x', o + 1, p :: ps, m, h => by
    simp only [stpT, sslC, gslC, tl_cn, hd_cn] at h ⊢
    obtain ⟨z, hz, rfl⟩ := Option.map_eq_some_iff.1 h
    obtain ⟨h1, h2⟩ := stps_C te (c := c) m hz
    simp only [h1, Option.map_some, tl_cn, hd_cn]
    exact ⟨rfl, h2⟩
  | .ref r, c + 1, x, x', o + 1, p :: ps, m, h => by
    simp only [stpT, sslC, gslC, tl_cn, hd_cn] at h ⊢
    obtain ⟨z, hz, rfl⟩ := Option.map_eq_some_iff.1 h
    obtain ⟨h1, h2⟩ := stps_C te (c := c) m hz
    simp only [h1, Option.map_some, tl_cn, hd_cn]
    exact ⟨rfl, h2⟩
  | .sl t y r, c + 1, x, x', o + 1, p :: ps, m, h => by
    simp only [stpT, sslC, gslC, tl_cn, hd_cn] at h ⊢
    obtain ⟨z, hz, rfl⟩ := Option.map_eq_some_iff.1 h
    obtain ⟨h1, h2⟩ := stps_C te (c := c) m hz
    simp only [h1, Option.map_some, tl_cn, hd_cn]
    exact ⟨rfl, h2⟩
  | .sl t y r, 0, x, x', o + 1, p :: ps, m, h => by
    obtain ⟨z, hz, rfl⟩ := Option.map_eq_some_iff.1 (show (stpT B r (tl (A := List y.den) r x) o (p :: ps)).map (fun z => (cn (A := List y.den) r (hd (A := List y.den) r x) z : glue (List y.den) r r.den)) = some x' from h)
    constructor
    · show (stpT B r (tl (A := List y.den) r (sslC B te (.sl t y r) 0 x m)) o (p :: ps)).map (fun z => (cn (A := List y.den) r (hd (A := List y.den) r (sslC B te (.sl t y r) 0 x m)) z : glue (List y.den) r r.den)) = _
      by_cases hq : Ty.beq (tyOf B te) y = true
      · have e1 : tl (A := List y.den) r (sslC B te (.sl t y r) 0 x m) = tl (A := List y.den) r x := ssl0_tl hq
        have e3 : hd (A := List y.den) r (sslC B te (.sl t y r) 0 x m) = castL hq m := ssl0_hd hq
        rw [e1, e3, hz]
        refine congrArg some ?_
        refine Eq.trans ?_ (ssl0 hq).symm
        exact congrArg (fun z => (cn (A := List y.den) r (castL hq m) z : glue (List y.den) r r.den)) (tl_cn r _ _).symm
      · have e1 : sslC B te (.sl t y r) 0 x m = x := ssl0n hq
        rw [e1, hz]
        exact congrArg some (ssl0n hq).symm
    · by_cases hq : Ty.beq y (tyOf B te) = true
      · exact (gsl0 hq).trans ((congrArg (castL hq) (hd_cn r _ _)).trans (gsl0 hq).symm)
      · exact (gsl0n hq).trans (gsl0n hq).symm
theorem kn_mono : ∀ t F F' w x cs, (∀ k, F k → F' k) → (Kn B P).rep t F w x cs → (Kn B P).rep t F' w x cs := fun t F F' w x cs hF h => repT_mono (tyOf B t) hF (fun _ _ => rfl) h
theorem kn_split (hB : tblOk P B = true) : ∀ t c te F w x cs, (Sg B P).xc t = some (c, te) → (Kn B P).rep t F w x cs → ∃ v, cs[c]? = some v ∧ v.oneCell' = true ∧ (Kn B P).rep t F w ((Sg B P).ax.ssl t c te x []) (cs.set c (.slice none 0 0)) ∧ Rd (Kn B P) te F w v ((Sg B P).ax.gsl t c te x) := by
  intro t c te F w x cs hx hr
  obtain ⟨c', h1, h2⟩ := xcT_ok (B := B) (y := tyOf B t) hx
  rw [Nat.zero_add] at h1
  subst h1
  obtain ⟨v, g1, g2, g3, A, n, g4, g5, g6⟩ := split_C h2 hr
  exact ⟨v, g1, g2, g3, A, n, g4, g5, fun h => by
    obtain ⟨g, o, cs', q1, q2, q3, q4⟩ := g6 h
    exact ⟨g, o, cs', q1, q2, q3, by rw [sz_of hB]; exact q4⟩⟩
theorem kn_join (hB : tblOk P B = true) : ∀ t c te F w x cs v m, (Sg B P).xc t = some (c, te) → cs[c]? = some v → v.oneCell' = true → (Kn B P).rep t F w ((Sg B P).ax.ssl t c te x []) (cs.set c (.slice none 0 0)) → Rd (Kn B P) te F w v m → (Kn B P).rep t F w ((Sg B P).ax.ssl t c te x m) cs := by
  intro t c te F w x cs v m hx hv ho hr ⟨A, n, g4, g5, g6⟩
  obtain ⟨c', h1, h2⟩ := xcT_ok (B := B) (y := tyOf B t) hx
  rw [Nat.zero_add] at h1
  subst h1
  exact join_C h2 hv ho hr ⟨A, n, g4, g5, fun h => by
    obtain ⟨g, o, cs', q1, q2, q3, q4⟩ := g6 h
    exact ⟨g, o, cs', q1, q2, q3, by rw [sz_of hB] at q4; exact q4⟩⟩
theorem kn_pre (hB : tblOk P B = true) : Pre (Sg B P) (Kn B P) where
  mono := kn_mono
  move := fun t F w w1 x cs hw h => repT_mono (tyOf B t) (fun _ hk => hk) hw h
  flat := fun t F F' w w1 x cs hf h => repT_flat (tyOf B t) hf h
  len := fun t F w x cs h => by rw [sz_of hB]; exact repT_len _ h
  one := fun t F w x cs h u hu => repT_one _ h u hu
  split := kn_split hB
  join := kn_join hB
  gs := fun t c te x m h => by
    obtain ⟨c', h1, h2⟩ := xcT_ok (B := B) (y := tyOf B t) h
    rw [Nat.zero_add] at h1
    subst h1
    exact gs_C h2
  ss := fun t c te x m m' => ss_C te (tyOf B t) c x m m'
  sg := fun t c te x => sg_C te (tyOf B t) c x
  xsz := fun t c te h => by
    obtain ⟨c', h1, h2⟩ := xcT_ok (B := B) (y := tyOf B t) h
    rw [Nat.zero_add] at h1
    subst h1
    rw [sz_of hB]
    exact okC_lt h2
theorem innT_ok (hB : tblOk P B = true) : ∀ (y : Ty) (e : Env (TT B)) (cs : List (SC (TT B))) (vs : List Value) (x : y.den) (d : Dp), Inv (Kn B P) e → innT B P e.ob y cs = some (x, d) → All2 (hold (Kn B P) e) vs cs →
    dlt e.U d ∧ valid e.ob d = true ∧ repT (e.Fd d) e.w y x vs
  | .nil, e, [], vs, x, d, I, h, hv => by
    cases hv
    cases h
    exact ⟨fun p hp => (by cases hp), rfl, rfl⟩
  | .nil, e, _ :: _, vs, x, d, I, h, hv => by cases h
  | .int k r, e, c :: cs, vs, x, d, I, h, hv => by
    cases hv
    rename_i v vs h1 h2
    cases c with
    | int k' n =>
      simp only [innT] at h
      cases hk : kbeq k k' with
      | false => rw [hk] at h; cases h
      | true =>
        rw [hk] at h
        obtain ⟨p, hp, h⟩ := Option.map_eq_some_iff.1 h
        cases h
        obtain ⟨g1, g2, g3⟩ := innT_ok hB r e cs vs p.1 p.2 I hp h2
        refine ⟨g1, g2, vs, ?_, by rw [tl_cn]; exact g3⟩
        rw [hd_cn, kbeq_eq hk, show v = _ from h1]
    | _ => cases h
  | .bool r, e, c :: cs, vs, x, d, I, h, hv => by
    cases hv
    rename_i v vs h1 h2
    cases c with
    | bool b =>
      simp only [innT] at h
      obtain ⟨p, hp, h⟩ := Option.map_eq_some_iff.1 h
      cases h
      obtain ⟨g1, g2, g3⟩ := innT_ok hB r e cs vs p.1 p.2 I hp h2
      refine ⟨g1, g2, vs, ?_, by rw [tl_cn]; exact g3⟩
      rw [hd_cn, show v = _ from h1]
    | _ => cases h
  | .str r, e, c :: cs, vs, x, d, I, h, hv => by
    cases hv
    rename_i v vs h1 h2
    cases c with
    | str b =>
      simp only [innT] at h
      obtain ⟨p, hp, h⟩ := Option.map_eq_some_iff.1 h
      cases h
      obtain ⟨g1, g2, g3⟩ := innT_ok hB r e cs vs p.1 p.2 I hp h2
      refine ⟨g1, g2, vs, ?_, by rw [tl_cn]; exact g3⟩
      rw [hd_cn, show v = _ from h1]
    | _ => cases h
  | .sl t y r, e, c :: cs, vs, x, d, I, h, hv => by
    cases hv
    rename_i v vs h1 h2
    simp only [innT] at h
    obtain ⟨q, hq, h⟩ := Option.bind_eq_some_iff.1 h
    split at h
    · rename_i hb
      obtain ⟨p, hp, h⟩ := Option.map_eq_some_iff.1 h
      cases h
      obtain ⟨g1, g2, g3⟩ := innT_ok hB r e cs vs p.1 p.2 I hp h2
      obtain ⟨f1, f2, f3⟩ := asList_ok' (Q := Kn B P) (kn_pre hB) I h1 hq
      have f4 : v.oneCell' = true := by obtain ⟨A, n, rfl, _⟩ := f3; rfl
      refine ⟨fun z hz => (List.mem_append.1 hz).elim (f1 z) (g1 z), valid_iff.2 fun z hz => (List.mem_append.1 hz).elim (valid_iff.1 f2 z) (valid_iff.1 g2 z), v, vs, rfl, f4, ?_, ?_⟩
      · rw [hd_cn]
        obtain ⟨A, n, a1, a2, a3⟩ := f3
        have hlen := castL_len hb q.1
        refine ⟨A, n, a1.trans (congrArg (fun m => Value.slice A m n) hlen.symm), Nat.le_trans (Nat.le_of_eq hlen) a2, fun hne => ?_⟩
        obtain ⟨g, o, cs', hA, hg, hcell, hr⟩ := a3 (fun e1 => hne ((castL_nil hb _).2 e1))
        refine ⟨g, o, cs', hA, ?_, hcell, ?_⟩
        · obtain ⟨z, hz, hk⟩ := hg
          exact ⟨z, List.mem_append_left _ hz, hk⟩
        · rw [sz_of hB] at hr
          have := (castL_reps hb).2 hr
          exact reps_imp (fun x c hx => repT_mono y (fun k ⟨z, hz, hk⟩ => ⟨z, List.mem_append_left _ hz, hk⟩) (fun _ _ => rfl) hx) this
      · rw [tl_cn]
        exact repT_mono r (fun k ⟨z, hz, hk⟩ => ⟨z, List.mem_append_right _ hz, hk⟩) (fun _ _ => rfl) g3
    · cases h
  | .ref r, e, cs, vs, x, d, I, h, hv => by cases cs <;> cases h
  | .int k r, e, [], vs, x, d, I, h, hv => by cases h
  | .bool r, e, [], vs, x, d, I, h, hv => by cases h
  | .str r, e, [], vs, x, d, I, h, hv => by cases h
  | .sl t y r, e, [], vs, x, d, I, h, hv => by cases h
theorem laws (hB : tblOk P B = true) : Laws (Sg B P) (Kn B P) where
  toPre := kn_pre hB
  td := fun t d h => (tdCheck_ok (tblOk_look hB h).1).1
  eqs := fun t d h hd => eqCheck_ok (tblOk_look hB h).2 hd
  mpk := fun t kk h => by
    have h : mpkP P t = some kk := h
    unfold mpkP at h
    split at h
    · rename_i k e hu
      split at h
      · rename_i kk' i hk hi
        split at h
        · rename_i hz
          cases h
          exact ⟨k, e, hu, hk, i, hi, hz⟩
        · cases h
      · cases h
    · cases h
  stps := fun t c te x off ps x' m h => stps_C te (y := tyOf B t) (c := c) m h
  stp := fun t F w x cs off ps e vs x' hr h hv => stp_C (P := P) (e := e) (y := tyOf B t) hr h hv
  out := fun t e d x cs hd hv h => outT_ok hB _ e d x cs hd hv h
  inn := fun t e cs vs x d I h hv => innT_ok hB _ e cs vs x d I h hv
end
end Go.Proofs.Ytheemkehedmlfaa.E
