import Derived.Test.YtdpggojdmabnkaaU0
import Derived.Test.YtdpggojdmabnkaaE6
/-! The engine: the kinds of elements by their cells obey the laws. -/
set_option linter.unusedVariables false
set_option linter.unusedSimpArgs false
namespace Go.Proofs.Ytdpggojdmabnkaa.E
open Go
section
variable {B : Tbl} {P : Program}
theorem kn_mono : ∀ t F F' w x cs, (∀ k, F k → F' k) → (Kn B P).rep t F w x cs → (Kn B P).rep t F' w x cs := fun t F F' w x cs hF h => repT_mono (tyOf B t) hF (fun _ _ => rfl) h
theorem innT_ok (hB : tblOk P B = true) : ∀ (y : Ty) (e : Env (TT B)) (cs : List (SC (TT B))) (vs : List Value) (x : y.den) (d : Dp), Inv (Kn B P) e → innT B P e.ob y cs = some (x, d) → All2 (hold (Kn B P) e) vs cs →
    dlt e.U d ∧ valid e.ob d = true ∧ repT (e.Fd d) e.w y x vs
  | .nil, e, [], vs, x, d, I, h, hv => by
    cases hv
    cases h
    exact ⟨fun p hp => (by cases hp), rfl, rfl⟩
  | .nil, e, _ :: _, vs, x, d, I, h, hv => by cases h
  | .int k r, e, c :: cs, vs, x, d, I, h, hv => by
    cases hv
    rename_i v vs h1 h2
    cases c with
    | int k' n =>
      simp only [innT] at h
      cases hk : kbeq k k' with
      | false => rw [hk] at h; cases h
      | true =>
        rw [hk] at h
        obtain ⟨p, hp, h⟩ := Option.map_eq_some_iff.1 h
        cases h
        obtain ⟨g1, g2, g3⟩ := innT_ok hB r e cs vs p.1 p.2 I hp h2
        refine ⟨g1, g2, vs, ?_, by rw [tl_cn]; exact g3⟩
        rw [hd_cn, kbeq_eq hk, show v = _ from h1]
    | _ => cases h
  | .bool r, e, c :: cs, vs, x, d, I, h, hv => by
    cases hv
    rename_i v vs h1 h2
    cases c with
    | bool b =>
      simp only [innT] at h
      obtain ⟨p, hp, h⟩ := Option.map_eq_some_iff.1 h
      cases h
      obtain ⟨g1, g2, g3⟩ := innT_ok hB r e cs vs p.1 p.2 I hp h2
      refine ⟨g1, g2, vs, ?_, by rw [tl_cn]; exact g3⟩
      rw [hd_cn, show v = _ from h1]
    | _ => cases h
  | .str r, e, c :: cs, vs, x, d, I, h, hv => by
    cases hv
    rename_i v vs h1 h2
    cases c with
    | str b =>
      simp only [innT] at h
      obtain ⟨p, hp, h⟩ := Option.map_eq_some_iff.1 h
      cases h
      obtain ⟨g1, g2, g3⟩ := innT_ok hB r e cs vs p.1 p.2 I hp h2
      refine ⟨g1, g2, vs, ?_, by rw [tl_cn]; exact g3⟩
      rw [hd_cn, show v = _ from h1]
    | _ => cases h
  | .sl t y r, e, c :: cs, vs, x, d, I, h, hv => by
    cases hv
    rename_i v vs h1 h2
    simp only [innT] at h
    obtain ⟨q, hq, h⟩ := Option.bind_eq_some_iff.1 h
    split at h
    · rename_i hb
      obtain ⟨p, hp, h⟩ := Option.map_eq_some_iff.1 h
      cases h
      obtain ⟨g1, g2, g3⟩ := innT_ok hB r e cs vs p.1 p.2 I hp h2
      obtain ⟨f1, f2, f3⟩ := asList_ok' (Q := Kn B P) kn_mono I h1 hq
      have f4 : v.oneCell' = true := by obtain ⟨A, n, rfl, _⟩ := f3; rfl
      refine ⟨fun z hz => (List.mem_append.1 hz).elim (f1 z) (g1 z), valid_iff.2 fun z hz => (List.mem_append.1 hz).elim (valid_iff.1 f2 z) (valid_iff.1 g2 z), v, vs, rfl, f4, ?_, ?_⟩
      · rw [hd_cn]
        obtain ⟨A, n, a1, a2, a3⟩ := f3
        have hlen := castL_len hb q.1
        refine ⟨A, n, a1.trans (congrArg (fun m => Value.slice A m n) hlen.symm), Nat.le_trans (Nat.le_of_eq hlen) a2, fun hne => ?_⟩
        obtain ⟨g, o, cs', hA, hg, hcell, hr⟩ := a3 (fun e1 => hne ((castL_nil hb _).2 e1))
        refine ⟨g, o, cs', hA, ?_, hcell, ?_⟩
        · obtain ⟨z, hz, hk⟩ := hg
          exact ⟨z, List.mem_append_left _ hz, hk⟩
        · rw [sz_of hB] at hr
          have := (castL_reps hb).2 hr
          exact reps_imp (fun x c hx => repT_mono y (fun k ⟨z, hz, hk⟩ => ⟨z, List.mem_append_left _ hz, hk⟩) (fun _ _ => rfl) hx) this
      · rw [tl_cn]
        exact repT_mono r (fun k ⟨z, hz, hk⟩ => ⟨z, List.mem_append_right _ hz, hk⟩) (fun _ _ => rfl) g3
    · cases h
  | .ref r, e, cs, vs, x, d, I, h, hv => by cases cs <;> cases h
  | .int k r, e, [], vs, x, d, I, h, hv => by cases h
  | .bool r, e, [], vs, x, d, I, h, hv => by cases h
  | .str r, e, [], vs, x, d, I, h, hv => by cases h
  | .sl t y r, e, [], vs, x, d, I, h, hv => by cases h
/-- The laws hold, of a table that is right. -/
theorem laws (hB : tblOk P B = true) : Laws (Sg B P) (Kn B P) where
  td := fun t d h => (tdCheck_ok (tblOk_look hB h)).1
  mono := kn_mono
  move := fun t F w w1 x cs hw h => repT_mono (tyOf B t) (fun _ hk => hk) hw h
  flat := fun t F F' w w1 x cs hf h => repT_flat (tyOf B t) hf h
  len := fun t F w x cs h => by rw [sz_of hB]; exact repT_len _ h
  one := fun t F w x cs h u hu => repT_one _ h u hu
  out := fun t e d x cs hd hv h => outT_ok hB _ e d x cs hd hv h
  inn := fun t e cs vs x d I h hv => innT_ok hB _ e cs vs x d I h hv
end
end Go.Proofs.Ytdpggojdmabnkaa.E
