import Derived.Test.YtheemkehedmlfaaE3
set_option linter.unusedVariables false
set_option linter.unusedSimpArgs false
namespace Go.Proofs.Ytheemkehedmlfaa.E
open Go
abbrev Tbl := List (Nat × TD)
def look {β : Type} (i : Nat) : List (Nat × β) → Option β
  | [] => none
  | (j, x) :: r => bif Nat.beq i j then some x else look i r
def tyOf (B : Tbl) (t : TypeId) : Ty := match look t B with | some d => d.ty | none => .nil
abbrev TT (B : Tbl) : Tys := fun t => (tyOf B t).den
def castL {a b : Ty} (h : Ty.beq a b = true) (l : List a.den) : List b.den := Ty.beq_eq h ▸ l
section
variable (B : Tbl)
def outT (d : Dp) : (y : Ty) → y.den → List (SC (TT B))
  | .nil, _ => []
  | .int k r, x => .int k (hd r x) :: outT d r (tl r x)
  | .bool r, x => .bool (hd r x) :: outT d r (tl r x)
  | .str r, x => .str (hd r x) :: outT d r (tl r x)
  | .ref r, x => .un :: outT d r (tl r x)
  | .sl t e r, x => (if h : Ty.beq e (tyOf B t) = true then .rd t d (castL h (hd r x)) else .un) :: outT d r (tl r x)
def gslC (te : TypeId) : (y : Ty) → Nat → y.den → List (tyOf B te).den
  | .sl t e r, c, x => match c with
    | 0 => if h : Ty.beq e (tyOf B te) = true then castL h (hd r x) else []
    | c + 1 => gslC te r c (tl r x)
  | .int _ r, c, x => match c with | 0 => [] | c + 1 => gslC te r c (tl r x)
  | .bool r, c, x => match c with | 0 => [] | c + 1 => gslC te r c (tl r x)
  | .str r, c, x => match c with | 0 => [] | c + 1 => gslC te r c (tl r x)
  | .ref r, c, x => match c with | 0 => [] | c + 1 => gslC te r c (tl r x)
  | .nil, _, _ => []
def sslC (te : TypeId) : (y : Ty) → Nat → y.den → List (tyOf B te).den → y.den
  | .sl t e r, c, x, m => match c with
    | 0 => if h : Ty.beq (tyOf B te) e = true then cn r (castL h m) (tl r x) else x
    | c + 1 => cn r (hd r x) (sslC te r c (tl r x) m)
  | .int _ r, c, x, m => match c with | 0 => x | c + 1 => cn r (hd r x) (sslC te r c (tl r x) m)
  | .bool r, c, x, m => match c with | 0 => x | c + 1 => cn r (hd r x) (sslC te r c (tl r x) m)
  | .str r, c, x, m => match c with | 0 => x | c + 1 => cn r (hd r x) (sslC te r c (tl r x) m)
  | .ref r, c, x, m => match c with | 0 => x | c + 1 => cn r (hd r x) (sslC te r c (tl r x) m)
  | .nil, _, x, _ => x
def xcT : Ty → Nat → Option (Nat × TypeId)
  | .nil, _ => none
  | .int _ r, n => xcT r (n + 1)
  | .bool r, n => xcT r (n + 1)
  | .str r, n => xcT r (n + 1)
  | .ref r, n => xcT r (n + 1)
  | .sl te e r, n => match xcT r (n + 1) with | some p => some p | none => bif Ty.beq e (tyOf B te) && e.flat then some (n, te) else none
def accB : Acc (TT B) := { dflt := fun t => (tyOf B t).dflt, gsl := fun t c te x => gslC B te (tyOf B t) c x, ssl := fun t c te x m => sslC B te (tyOf B t) c x m }
def stpT : (y : Ty) → y.den → Nat → List (SC (TT B)) → Option y.den
  | .nil, x, _, cs => match cs with | [] => some x | _ :: _ => none
  | .int k r, x, o, cs => match o, cs with
    | _, [] => some x
    | 0, .int k' n :: cs => bif kbeq k k' then (stpT r (tl r x) 0 cs).map fun z => cn r n z else none
    | 0, _ :: _ => none
    | o + 1, c :: cs => (stpT r (tl r x) o (c :: cs)).map fun z => cn r (hd r x) z
  | .bool r, x, o, cs => match o, cs with
    | _, [] => some x
    | 0, .bool b :: cs => (stpT r (tl r x) 0 cs).map fun z => cn r b z
    | 0, _ :: _ => none
    | o + 1, c :: cs => (stpT r (tl r x) o (c :: cs)).map fun z => cn r (hd r x) z
  | .str r, x, o, cs => match o, cs with
    | _, [] => some x
    | 0, .str b :: cs => (stpT r (tl r x) 0 cs).map fun z => cn r b z
    | 0, _ :: _ => none
    | o + 1, c :: cs => (stpT r (tl r x) o (c :: cs)).map fun z => cn r (hd r x) z
  | .ref r, x, o, cs => match o, cs with
    | _, [] => some x
    | 0, _ :: _ => none
    | o + 1, c :: cs => (stpT r (tl r x) o (c :: cs)).map fun z => cn r (hd r x) z
  | .sl _ _ r, x, o, cs => match o, cs with
    | _, [] => some x
    | 0, _ :: _ => none
    | o + 1, c :: cs => (stpT r (tl r x) o (c :: cs)).map fun z => cn r (hd r x) z
def innT (P : Program) (ob : Ob (TT B)) : (y : Ty) → List (SC (TT B)) → Option (y.den × Dp)
  | .nil, [] => some ((), [])
  | .int k r, .int k' n :: cs => bif kbeq k k' then (innT P ob r cs).map fun p => (cn r n p.1, p.2) else none
  | .bool r, .bool b :: cs => (innT P ob r cs).map fun p => (cn r b p.1, p.2)
  | .str r, .str b :: cs => (innT P ob r cs).map fun p => (cn r b p.1, p.2)
  | .sl t e r, c :: cs => (asList (accB B) ob t c).bind fun q => if h : Ty.beq (tyOf B t) e = true then (innT P ob r cs).map fun p => (cn r (castL h q.1) p.1, q.2 ++ p.2) else none
  | _, _ => none
def mpkP (P : Program) (t : TypeId) : Option IntKind := match P.underlying t with
  | some (.map k e) => (match P.underlying k, P.info? e with
    | some (.int kk), some i => (match i.zero with | some (.bool false) => some kk | _ => none)
    | _, _ => none)
  | _ => none
def Sg (P : Program) : Sig := { P := P, T := TT B, td := fun t => look t B, ax := accB B, xc := fun t => xcT B (tyOf B t) 0, stp := fun t x o cs => stpT B (tyOf B t) x o cs, mpk := mpkP P, out := fun t d x => outT B d (tyOf B t) x, inn := fun t ob cs => innT B P ob (tyOf B t) cs, flat := fun t => (tyOf B t).flat }
def repT (F : Nat → Prop) (w : World) : (y : Ty) → y.den → List Value → Prop
  | .nil, _, cs => cs = []
  | .int k r, x, cs => ∃ c, cs = .int k (hd r x) :: c ∧ repT F w r (tl r x) c
  | .bool r, x, cs => ∃ c, cs = .bool (hd r x) :: c ∧ repT F w r (tl r x) c
  | .str r, x, cs => ∃ c, cs = .string (hd r x) :: c ∧ repT F w r (tl r x) c
  | .ref r, x, cs => ∃ v c, cs = v :: c ∧ v.oneCell' = true ∧ repT F w r (tl r x) c
  | .sl t e r, x, cs => ∃ v c, cs = v :: c ∧ v.oneCell' = true ∧
      (∃ A n, v = .slice A (hd r x).length n ∧ (hd r x).length ≤ n ∧ (hd r x ≠ [] → ∃ g o cs, A = some ⟨g, o, none⟩ ∧ F g ∧ cellsAt w g o cs ∧ reps (repT F w e) e.size (hd r x) cs)) ∧ repT F w r (tl r x) c
def Kn (P : Program) : Kind (Sg B P) := { rep := fun t F w x cs => repT F w (tyOf B t) x cs }
end
theorem reps_congr {α : Type} {R R' : α → List Value → Prop} {sz : Nat} (h : ∀ x c, R x c → R' x c) {l : List α} {cs : List Value} (hr : reps R sz l cs) : reps R' sz l cs := reps_imp h hr
section
theorem repT_mono : ∀ (y : Ty) {F F' : Nat → Prop} {w w1 : World} {x : y.den} {cs : List Value}, (∀ k, F k → F' k) → (∀ k, F k → w1.heap[k]? = w.heap[k]?) → repT F w y x cs → repT F' w1 y x cs
  | .nil, _, _, _, _, _, _, _, _, h => h
  | .int k r, _, _, _, _, x, _, hF, hw, ⟨c, e, h⟩ => ⟨c, e, repT_mono r hF hw h⟩
  | .bool r, _, _, _, _, x, _, hF, hw, ⟨c, e, h⟩ => ⟨c, e, repT_mono r hF hw h⟩
  | .str r, _, _, _, _, x, _, hF, hw, ⟨c, e, h⟩ => ⟨c, e, repT_mono r hF hw h⟩
  | .ref r, _, _, _, _, x, _, hF, hw, ⟨v, c, e, ho, h⟩ => ⟨v, c, e, ho, repT_mono r hF hw h⟩
  | .sl t y r, _, _, _, _, x, _, hF, hw, ⟨v, c, e, ho, ⟨A, n, hv, hn, hl⟩, h⟩ => ⟨v, c, e, ho, ⟨A, n, hv, hn, fun hne => by
      obtain ⟨g, o, cs, hA, hg, hc, hr⟩ := hl hne
      exact ⟨g, o, cs, hA, hF g hg, hc.move (hw g hg), reps_imp (fun x c hx => repT_mono y hF hw hx) hr⟩⟩, repT_mono r hF hw h⟩
theorem repT_flat : ∀ (y : Ty) {F F' : Nat → Prop} {w w1 : World} {x : y.den} {cs : List Value}, y.flat = true → repT F w y x cs → repT F' w1 y x cs
  | .nil, _, _, _, _, _, _, _, h => h
  | .int k r, _, _, _, _, x, _, hf, ⟨c, e, h⟩ => ⟨c, e, repT_flat r hf h⟩
  | .bool r, _, _, _, _, x, _, hf, ⟨c, e, h⟩ => ⟨c, e, repT_flat r hf h⟩
  | .str r, _, _, _, _, x, _, hf, ⟨c, e, h⟩ => ⟨c, e, repT_flat r hf h⟩
  | .ref r, _, _, _, _, x, _, hf, ⟨v, c, e, ho, h⟩ => ⟨v, c, e, ho, repT_flat r hf h⟩
  | .sl t y r, _, _, _, _, x, _, hf, _ => by cases hf
theorem repT_len : ∀ (y : Ty) {F : Nat → Prop} {w : World} {x : y.den} {cs : List Value}, repT F w y x cs → cs.length = y.size
  | .nil, _, _, _, _, h => by rw [show _ = _ from h]; rfl
  | .int k r, _, _, _, _, ⟨c, e, h⟩ => by rw [e]; simp [Ty.size, repT_len r h]
  | .bool r, _, _, _, _, ⟨c, e, h⟩ => by rw [e]; simp [Ty.size, repT_len r h]
  | .str r, _, _, _, _, ⟨c, e, h⟩ => by rw [e]; simp [Ty.size, repT_len r h]
  | .ref r, _, _, _, _, ⟨v, c, e, _, h⟩ => by rw [e]; simp [Ty.size, repT_len r h]
  | .sl t y r, _, _, _, _, ⟨v, c, e, _, _, h⟩ => by rw [e]; simp [Ty.size, repT_len r h]
theorem repT_one : ∀ (y : Ty) {F : Nat → Prop} {w : World} {x : y.den} {cs : List Value}, repT F w y x cs → ∀ u, u ∈ cs → u.oneCell' = true
  | .nil, _, _, _, _, h, u, hu => by rw [show _ = _ from h] at hu; cases hu
  | .int k r, _, _, _, _, ⟨c, e, h⟩, u, hu => by
    rw [e] at hu
    rcases List.mem_cons.1 hu with rfl | hu
    · rfl
    · exact repT_one r h u hu
  | .bool r, _, _, _, _, ⟨c, e, h⟩, u, hu => by
    rw [e] at hu
    rcases List.mem_cons.1 hu with rfl | hu
    · rfl
    · exact repT_one r h u hu
  | .str r, _, _, _, _, ⟨c, e, h⟩, u, hu => by
    rw [e] at hu
    rcases List.mem_cons.1 hu with rfl | hu
    · rfl
    · exact repT_one r h u hu
  | .ref r, _, _, _, _, ⟨v, c, e, ho, h⟩, u, hu => by
    rw [e] at hu
    rcases List.mem_cons.1 hu with rfl | hu
    · exact ho
    · exact repT_one r h u hu
  | .sl t y r, _, _, _, _, ⟨v, c, e, ho, _, h⟩, u, hu => by
    rw [e] at hu
    rcases List.mem_cons.1 hu with rfl | hu
    · exact ho
    · exact repT_one r h u hu
end
def zcEq : ZC → Value → Bool
  | .int k, .int k' n => kbeq k k' && decide (n = 0)
  | .bool, .bool b => !b
  | .str, .string s => match s with | ⟨⟨[]⟩⟩ => true | _ => false
  | .nil, .slice none 0 0 => true
  | .np, .pointer none => true
  | .nofn, .nilFunc => true
  | _, _ => false
theorem zcEq_eq : ∀ {z : ZC} {v : Value}, zcEq z v = true → v = z.val := by
  intro z v h
  unfold zcEq at h
  split at h
  · simp only [Bool.and_eq_true, decide_eq_true_eq] at h
    rw [kbeq_eq h.1, h.2]; rfl
  · simp at h; rw [h]; rfl
  · split at h
    · rfl
    · cases h
  · rfl
  · rfl
  · rfl
  · cases h
def zcsEq : List ZC → List Value → Bool
  | [], [] => true
  | z :: zs, v :: vs => zcEq z v && zcsEq zs vs
  | _, _ => false
theorem zcsEq_eq : ∀ {zs : List ZC} {vs : List Value}, zcsEq zs vs = true → vs = zs.map ZC.val
  | [], [], _ => rfl
  | z :: zs, v :: vs, h => by
    simp only [zcsEq, Bool.and_eq_true] at h
    rw [zcEq_eq h.1, zcsEq_eq h.2]; rfl
  | [], _ :: _, h => by cases h
  | _ :: _, [], h => by cases h
def beqB (a b : Bool) : Bool := match a, b with | true, true => true | false, false => true | _, _ => false
theorem beqB_eq {a b : Bool} (h : beqB a b = true) : a = b := by cases a <;> cases b <;> first | rfl | cases h
def isAggD (u : TypeDesc) : Bool := match u with | .struct _ => true | .array _ _ => true | _ => false
def fldsEq (P : Program) : List (Nat × TypeId × Nat) → List Field → Bool
  | [], [] => true
  | p :: ps, f :: fs => Nat.beq f.offset p.1 && Nat.beq f.type p.2.1 && (match P.info? f.type with | some i => Nat.beq i.size p.2.2 | none => false) && fldsEq P ps fs
  | _, _ => false
theorem fldsEq_eq {P : Program} : ∀ {ps : List (Nat × TypeId × Nat)} {fs : List Field}, fldsEq P ps fs = true →
    fs.mapM (fun f => (P.info? f.type).map fun i => (f.offset, i.size)) = some (ps.map fun p => (p.1, p.2.2)) ∧ fs.map (fun f => (f.offset, f.type)) = ps.map fun p => (p.1, p.2.1)
  | [], [], _ => ⟨rfl, rfl⟩
  | p :: ps, f :: fs, h => by
    simp only [fldsEq, Bool.and_eq_true] at h
    obtain ⟨⟨⟨h1, h2⟩, h3⟩, h4⟩ := h
    obtain ⟨h5, h6⟩ := fldsEq_eq h4
    have h1 := Nat.eq_of_beq_eq_true h1
    have h2 := Nat.eq_of_beq_eq_true h2
    split at h3
    · rename_i i hi
      have h3 := Nat.eq_of_beq_eq_true h3
      refine ⟨?_, by simp only [List.map_cons, h6, h1, h2]⟩
      rw [List.mapM_cons, hi, h5]
      simp [h1, h3]
    · cases h3
  | [], _ :: _, h => by cases h
  | _ :: _, [], h => by cases h
def optB {β : Type} (o : Option β) (f : β → Bool) : Bool := match o with | some x => f x | none => true
def tdCheck (P : Program) (t : TypeId) (d : TD) : Bool :=
  (match P.info? t with
    | some i => Nat.beq i.size d.size && Nat.beq i.bytes d.bytes && (match i.zero with | some z => zcsEq d.zero z.cells.toList | none => false)
    | none => false) && Nat.beq d.zero.length d.size && Nat.beq d.ty.size d.size &&
  (match P.underlying t with
    | some u => beqB (isAggD u) d.agg && (match d.fields with | [] => true | fs => match u with | .struct a => fldsEq P fs a.toList | _ => false) &&
      (!d.st || match u with | .string => true | _ => false) && (!d.bo || match u with | .bool => true | _ => false) &&
      (optB d.elem fun e => match u with | .slice e' => Nat.beq e' e | _ => false) && (optB d.ik fun k => match u with | .int k' => kbeq k' k | _ => false)
    | none => false)
theorem tdCheck_ok {P : Program} {t : TypeId} {d : TD} (h : tdCheck P t d = true) : TDok P t d ∧ d.ty.size = d.size := by
  unfold tdCheck at h
  simp only [Bool.and_eq_true] at h
  obtain ⟨⟨⟨h1, h2⟩, h3⟩, h4⟩ := h
  refine ⟨⟨?_, Nat.eq_of_beq_eq_true h2, ?_, ?_, ?_, ?_, ?_, ?_⟩, Nat.eq_of_beq_eq_true h3⟩
  · split at h1
    · rename_i i hi
      simp only [Bool.and_eq_true] at h1
      obtain ⟨⟨h5, h6⟩, h7⟩ := h1
      split at h7
      · rename_i z hz
        refine ⟨i, hi, Nat.eq_of_beq_eq_true h5, Nat.eq_of_beq_eq_true h6, z, hz, ?_⟩
        have := zcsEq_eq h7
        rw [← this]
      · cases h7
    · cases h1
  · split at h4
    · rename_i u hu
      simp only [Bool.and_eq_true] at h4
      exact ⟨u, hu, beqB_eq h4.1.1.1.1.1⟩
    · cases h4
  · intro hne
    split at h4
    · rename_i u hu
      simp only [Bool.and_eq_true] at h4
      have h5 := h4.1.1.1.1.2
      cases hfs : d.fields with
      | nil => exact absurd hfs hne
      | cons p0 ps0 =>
        rw [hfs] at h5
        split at h5
        · rename_i a
          obtain ⟨h6, h7⟩ := fldsEq_eq h5
          exact ⟨a, hu, h6, h7⟩
        · cases h5
    · cases h4
  · intro hst
    split at h4
    · rename_i u hu
      simp only [Bool.and_eq_true, hst, Bool.not_true, Bool.false_or] at h4
      have h5 := h4.1.1.1.2
      split at h5
      · exact hu
      · cases h5
    · cases h4
  · intro hst
    split at h4
    · rename_i u hu
      simp only [Bool.and_eq_true, hst, Bool.not_true, Bool.false_or] at h4
      have h5 := h4.1.1.2
      split at h5
      · exact hu
      · cases h5
    · cases h4
  · intro e he
    split at h4
    · rename_i u hu
      simp only [Bool.and_eq_true, he, optB] at h4
      have h5 := h4.1.2
      split at h5
      · rw [hu, Nat.eq_of_beq_eq_true h5]
      · cases h5
    · cases h4
  · intro k hk
    split at h4
    · rename_i u hu
      simp only [Bool.and_eq_true, hk, optB] at h4
      have h5 := h4.2
      split at h5
      · rw [hu, kbeq_eq h5]
      · cases h5
    · cases h4
def ftEq : List Field → List (Nat × TypeId × Nat) → Bool
  | [], [] => true
  | f :: fs, p :: ps => Nat.beq f.offset p.1 && Nat.beq f.type p.2.1 && (f.name != "_") && ftEq fs ps
  | _, _ => false
theorem ftEq_ok : ∀ {fs : List Field} {ps : List (Nat × TypeId × Nat)}, ftEq fs ps = true → (∀ f, f ∈ fs → f.name ≠ "_") ∧ fs.map (fun f => (f.offset, f.type)) = ps.map fun p => (p.1, p.2.1)
  | [], [], _ => ⟨fun f h => (by cases h), rfl⟩
  | f :: fs, p :: ps, h => by
    simp only [ftEq, Bool.and_eq_true] at h
    obtain ⟨⟨⟨h1, h2⟩, h3⟩, h4⟩ := h
    obtain ⟨h5, h6⟩ := ftEq_ok h4
    refine ⟨fun g hg => ?_, by simp only [List.map_cons, h6, Nat.eq_of_beq_eq_true h1, Nat.eq_of_beq_eq_true h2]⟩
    rcases List.mem_cons.1 hg with rfl | hg
    · simpa using h3
    · exact h5 g hg
  | [], _ :: _, h => by cases h
  | _ :: _, [], h => by cases h
def eqCheck (P : Program) (t : TypeId) (d : TD) : Bool :=
  bif d.eq then !(P.stoodInHeld t) && !(P.eqGuardType P.depth t) && (match P.underlying t with | some (.struct fs) => ftEq fs.toList d.fields | _ => false) else true
theorem eqCheck_ok {P : Program} {t : TypeId} {d : TD} (h : eqCheck P t d = true) (hd : d.eq = true) : EqOk P t d := by
  unfold eqCheck at h
  rw [hd] at h
  simp only [cond_true, Bool.and_eq_true, Bool.not_eq_true'] at h
  obtain ⟨⟨h1, h2⟩, h3⟩ := h
  split at h3
  · rename_i fs hu
    have hf : P.fieldsOf t = fs := by unfold Program.fieldsOf; rw [hu]
    obtain ⟨h4, h5⟩ := ftEq_ok h3
    exact ⟨h1, h2, by rw [hf]; exact hu, by rw [hf]; exact h4, by rw [hf]; exact h5⟩
  · cases h3
def tblOk (P : Program) : Tbl → Bool
  | [] => true
  | p :: r => tdCheck P p.1 p.2 && eqCheck P p.1 p.2 && tblOk P r
theorem tblOk_look {P : Program} : ∀ {B : Tbl} {t : TypeId} {d : TD}, tblOk P B = true → look t B = some d → tdCheck P t d = true ∧ eqCheck P t d = true
  | [], t, d, _, h => by cases h
  | (j, x) :: r, t, d, hB, h => by
    simp only [tblOk, Bool.and_eq_true] at hB
    simp only [look] at h
    cases hb : Nat.beq t j with
    | true =>
      rw [hb] at h
      cases h
      rw [Nat.eq_of_beq_eq_true hb]
      exact hB.1
    | false => rw [hb] at h; exact tblOk_look hB.2 h
section
variable {B : Tbl} {P : Program}
theorem sz_of (hB : tblOk P B = true) (t : TypeId) : (Sg B P).sz t = (tyOf B t).size := by
  show (match look t B with | some d => d.size | none => 0) = _
  unfold tyOf
  cases h : look t B with
  | none => rfl
  | some d => exact ((tdCheck_ok (tblOk_look hB h).1).2).symm
theorem castL_len {a b : Ty} (h : Ty.beq a b = true) (l : List a.den) : (castL h l).length = l.length := by
  have := Ty.beq_eq h
  subst this
  rfl
theorem castL_nil {a b : Ty} (h : Ty.beq a b = true) (l : List a.den) : castL h l = [] ↔ l = [] := by
  have := Ty.beq_eq h
  subst this
  exact Iff.rfl
theorem castL_reps {a b : Ty} (h : Ty.beq a b = true) {F : Nat → Prop} {w : World} {l : List a.den} {cs : List Value} : reps (repT F w b) b.size (castL h l) cs ↔ reps (repT F w a) a.size l cs := by
  have := Ty.beq_eq h
  subst this
  exact Iff.rfl
theorem outT_ok (hB : tblOk P B = true) : ∀ (y : Ty) (e : Env (TT B)) (d : Dp) (x : y.den) (cs : List Value), dlt e.U d → valid e.ob d = true → repT (e.Fd d) e.w y x cs → All2 (hold (Kn B P) e) cs (outT B d y x)
  | .nil, e, d, x, cs, _, _, h => by rw [show _ = _ from h]; exact .nil
  | .int k r, e, d, x, cs, hd', hv, ⟨c, hc, h⟩ => by rw [hc]; exact .cons rfl (outT_ok hB r e d _ c hd' hv h)
  | .bool r, e, d, x, cs, hd', hv, ⟨c, hc, h⟩ => by rw [hc]; exact .cons rfl (outT_ok hB r e d _ c hd' hv h)
  | .str r, e, d, x, cs, hd', hv, ⟨c, hc, h⟩ => by rw [hc]; exact .cons rfl (outT_ok hB r e d _ c hd' hv h)
  | .ref r, e, d, x, cs, hd', hv, ⟨v, c, hc, _, h⟩ => by rw [hc]; exact .cons trivial (outT_ok hB r e d _ c hd' hv h)
  | .sl t y r, e, d, x, cs, hd', hv, ⟨v, c, hc, ho, hs, h⟩ => by
    rw [hc]
    refine .cons ?_ (outT_ok hB r e d _ c hd' hv h)
    split
    · rename_i hb
      obtain ⟨A, n, h1, h2, h3⟩ := hs
      have hlen := castL_len hb (hd r x)
      refine ⟨hd', ho, fun _ => ⟨A, n, h1.trans (congrArg (fun m => Value.slice A m n) hlen.symm), Nat.le_trans (Nat.le_of_eq hlen) h2, fun hne => ?_⟩⟩
      obtain ⟨g, o, cs', hA, hg, hcell, hr⟩ := h3 (fun e1 => hne ((castL_nil hb _).2 e1))
      exact ⟨g, o, cs', hA, hg, hcell, by rw [sz_of hB]; exact (castL_reps hb).2 hr⟩
    · trivial
end
end Go.Proofs.Ytheemkehedmlfaa.E
