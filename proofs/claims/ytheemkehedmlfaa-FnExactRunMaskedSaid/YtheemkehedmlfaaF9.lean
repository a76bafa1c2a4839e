import Derived.Test.YtheemkehedmlfaaF7
set_option linter.unusedVariables false
set_option linter.unusedSimpArgs false
namespace Go.Proofs.Ytheemkehedmlfaa.E
open Go
section
variable {S : Sig} {Q : Kind S}
structure IsF (P : Program) (f : FuncId) (fn : Func) (c : Code) : Prop where
  hf : P.funcs[f]? = some fn
  hn : (fn.name == "runtime.NumGoroutine") = false
  hb : fn.body = some c
  hd : noDup ((blks c).map (·.1)) = true
def JGood (Q : Kind S) (J : Orc S) (c : Code) : Prop := ∀ p, p ∈ blks c → ∀ g, J p.1 = some g → Snd Q g (.block p.1 p.2)
theorem JGood.okJ {J : Orc S} : ∀ {c : Code}, JGood Q J c → okJ Q J c := by
  intro c
  induction c with
  | seq a b iha ihb => exact fun h => ⟨iha fun p hp => h p (List.mem_append_left _ hp), ihb fun p hp => h p (List.mem_append_right _ hp)⟩
  | cond c x y ihx ihy => exact fun h => ⟨ihx fun p hp => h p (List.mem_append_left _ hp), ihy fun p hp => h p (List.mem_append_right _ hp)⟩
  | block id c ih =>
    intro h
    unfold E.okJ
    cases hj : J id with
    | some g => exact h (id, c) List.mem_cons_self g hj
    | none => exact ih fun p hp => h p (List.mem_cons_of_mem _ hp)
  | _ => exact fun _ => trivial
theorem blks_sub : ∀ {c : Code} {q : Nat × Code}, q ∈ blks c → ∀ p, p ∈ blks q.2 → p ∈ blks c := by
  intro c
  induction c with
  | seq a b iha ihb =>
    intro q hq p hp
    rcases List.mem_append.1 hq with h | h
    · exact List.mem_append_left _ (iha h p hp)
    · exact List.mem_append_right _ (ihb h p hp)
  | cond c x y ihx ihy =>
    intro q hq p hp
    rcases List.mem_append.1 hq with h | h
    · exact List.mem_append_left _ (ihx h p hp)
    · exact List.mem_append_right _ (ihy h p hp)
  | block id c ih =>
    intro q hq p hp
    rcases List.mem_cons.1 hq with rfl | h
    · exact List.mem_cons_of_mem _ hp
    · exact List.mem_cons_of_mem _ (ih h p hp)
  | loop c ih => exact fun hq p hp => ih hq p hp
  | _ => intro q hq; cases hq
theorem blkOf_mem {id : Nat} : ∀ {l : List (Nat × Code)}, blkOf id l = .skip ∨ (id, blkOf id l) ∈ l
  | [] => .inl rfl
  | p :: r => by
    unfold blkOf
    cases hb : Nat.beq id p.1 with
    | true => exact .inr (by rw [beq_eq' hb]; exact List.mem_cons_self)
    | false => exact blkOf_mem.imp (fun h => h) (List.mem_cons_of_mem _)
theorem blks_unLoop (c : Code) : blks (unLoop c) = blks c := by cases c <;> rfl
theorem JGood.body {J : Orc S} {c : Code} (h : JGood Q J c) (id : Nat) : JGood Q J (unLoop (blkOf id (blks c))) := by
  intro p hp g hg
  rw [blks_unLoop] at hp
  rcases blkOf_mem (id := id) (l := blks c) with h1 | h1
  · rw [h1] at hp; cases hp
  · exact h p (blks_sub h1 p hp) g hg
theorem blkOf_eq {id : Nat} {x : Code} : ∀ {l : List (Nat × Code)}, noDup (l.map (·.1)) = true → (id, x) ∈ l → blkOf id l = x
  | [], _, h => by cases h
  | p :: r, hd, h => by
    simp only [List.map_cons, noDup, Bool.and_eq_true, Bool.not_eq_true'] at hd
    unfold blkOf
    rcases List.mem_cons.1 h with rfl | h
    · rw [Nat.beq_refl]; rfl
    · cases hb : Nat.beq id p.1 with
      | true =>
        have := hasN_iff.2 (List.mem_map.2 ⟨_, h, rfl⟩ : id ∈ r.map (·.1))
        rw [beq_eq' hb, hd.1] at this
        cases this
      | false => exact blkOf_eq hd.2 h
theorem JGood.nil (c : Code) : JGood Q (Jof ([] : JL S)) c := fun p hp g hg => by cases hg
theorem JGood.cons {c : Code} (hd : noDup ((blks c).map (·.1)) = true) {id : Nat} {g : St S.T → Tr (Ex × St S.T)} (h : Snd Q g (.block id (blkOf id (blks c)))) {l : JL S} (hl : JGood Q (Jof l) c) : JGood Q (Jof ((id, g) :: l)) c := by
  intro p hp g' hg
  have hg : (bif Nat.beq p.1 id then some g else lookL p.1 l) = some g' := hg
  cases hb : Nat.beq p.1 id with
  | true =>
    rw [hb] at hg
    cases hg
    have := beq_eq' hb
    subst this
    rw [blkOf_eq hd (show (p.1, p.2) ∈ blks c from hp)] at h
    exact h
  | false => rw [hb] at hg; exact hl p hp g' hg
def fits (d : LoopD) (σ : St S.T) : Bool := Nat.ble σ.nx d.b && (matPS σ d.pm.sl ()).isSome && (matP d.pm σ).isSome && (canonM d.b d.pins d.pr [] d.tm { σ with nx := d.b, lg := [] }).isSome
def altO (d : LoopD) (f g : St S.T → Tr (Ex × St S.T)) (σ : St S.T) : Tr (Ex × St S.T) := bif fits d σ then f σ else g σ
theorem alt_ok {d : LoopD} {f g : St S.T → Tr (Ex × St S.T)} {c : Code} (hf : Snd Q f c) (hg : Snd Q g c) : Snd Q (altO d f g) c := by
  intro e σ a p h hp
  unfold altO at hp
  cases hb : fits d σ with
  | true => rw [hb] at hp; exact hf e σ a p h hp
  | false => rw [hb] at hp; exact hg e σ a p h hp
abbrev FL := List (Nat × Func)
abbrev JJ (S : Sig) := List (Nat × JL S)
def jAt (J : JJ S) (f : FuncId) : JL S := match lookL f J with | some l => l | none => []
def mkB (C : CL S) (F : FL) (J : JJ S) (M R : List (Nat × List (Nat × JoinD))) : Tb S :=
  { C := Cof C, F := fun f => lookL f F, J := fun f => Jof (jAt J f), M := fun f t => match lookL f M with | some l => lookL t l | none => none, R := fun f t => match lookL f R with | some l => lookL t l | none => none }
def FGood (Q : Kind S) (J : JJ S) (F : FL) : Prop := ∀ p, p ∈ F → ∃ c, IsF S.P p.1 p.2 c ∧ JGood Q (Jof (jAt J p.1)) c
theorem FGood.nil (J : JJ S) : FGood Q J [] := fun p hp => by cases hp
theorem FGood.cons {J : JJ S} {F : FL} {f : FuncId} {fn : Func} {c : Code} (h : IsF S.P f fn c) (hJ : JGood Q (Jof (jAt J f)) c) (hF : FGood Q J F) : FGood Q J ((f, fn) :: F) := by
  intro p hp
  rcases List.mem_cons.1 hp with rfl | hp
  · exact ⟨c, h, hJ⟩
  · exact hF p hp
theorem lookL_mem {β : Type} {i : Nat} {x : β} : ∀ {l : List (Nat × β)}, lookL i l = some x → (i, x) ∈ l
  | [], h => by cases h
  | p :: r, h => by
    have h : (bif Nat.beq i p.1 then some p.2 else lookL i r) = some x := h
    cases hb : Nat.beq i p.1 with
    | true => rw [hb] at h; cases h; rw [beq_eq' hb]; exact List.mem_cons_self
    | false => rw [hb] at h; exact List.mem_cons_of_mem _ (lookL_mem h)
theorem FGood.ok {C : CL S} {F : FL} {J : JJ S} {M R : List (Nat × List (Nat × JoinD))} (h : FGood Q J F) : FOk Q (mkB C F J M R) := by
  intro f fn hf
  obtain ⟨c, h1, h2⟩ := h _ (lookL_mem (show lookL f F = some fn from hf))
  refine ⟨h1.hf, h1.hn, fun c' hc' => ?_⟩
  rw [h1.hb] at hc'
  cases hc'
  exact h2.okJ
abbrev Dr (S : Sig) := Tb S → Inl S → Array Oper → St S.T → Tr (St S.T)
def rn (D : Dr S) (B : Tb S) (n : Nat) (f : FuncId) (c : Code) : St S.T → Tr (Ex × St S.T) := runC B (D B (inlN B (D B) n)) (inlN B (D B) n) f c
def fr (D : Dr S) (B : Tb S) (n : Nat) (f : FuncId) (fn : Func) : Con S := fnT B (D B (inlN B (D B) n)) (inlN B (D B) n) f fn
def DrOk (Q : Kind S) (D : Dr S) : Prop := ∀ B : Tb S, (∀ f g, B.C f = some g → ConOk Q f g) → ∀ I, InlOk Q I → DOk Q (D B I)
theorem loopP (L : Laws S Q) {D : Dr S} (hD : DrOk Q D) {C : CL S} (hC : COk Q C) {F : FL} {J : JJ S} (hF : FGood Q J F) {M R : List (Nat × List (Nat × JoinD))} {f : FuncId} {fn : Func} {c : Code} (h : IsF S.P f fn c) (hJ : JGood Q (Jof (jAt J f)) c) {id : Nat} {b : Code} (hb : blkOf id (blks c) = .loop b) {d : LoopD} {n : Nat}
    {step : d.pm.env S.T → (d.tm.env S.T → Option (outE S.T d.outs)) → d.tm.env S.T → Option (outE S.T d.outs)} (hs : ∀ σ p rec v, stepL (rn D (mkB C F J M R) n f b) id (wr b) d (instP σ d.pm p) rec v = step p rec v) (N : Nat) :
    Snd Q (orcL (wr b) d fun p => itN (step p) N) (.block id (blkOf id (blks c))) := by
  have hC' : ∀ f g, (mkB C F J M R).C f = some g → ConOk Q f g := hC
  have hI : InlOk Q (inlN (mkB C F J M R) (D (mkB C F J M R)) n) := inlN_ok L hC' (fun I hI => hD (mkB C F J M R) hC' I hI) hF.ok n
  have hJb := (hJ.body id).okJ
  rw [hb] at hJb ⊢
  exact loop_ok L (B := mkB C F J M R) hC' (hD _ hC' _ hI) hI hJb hs N
theorem conP (L : Laws S Q) {D : Dr S} (hD : DrOk Q D) {C : CL S} (hC : COk Q C) {F : FL} {J : JJ S} (hF : FGood Q J F) {M R : List (Nat × List (Nat × JoinD))} {f : FuncId} {fn : Func} {c : Code} (h : IsF S.P f fn c) (hJ : JGood Q (Jof (jAt J f)) c) {n : Nat}
    {ps rs : List PV} {G : envP S.T ps → Option (envP S.T rs)} (hs : ∀ v, (fr D (mkB C F J M R) n f fn (instA ps v)).k (matR rs) = G v) : ConOk Q f (conG ps rs G) := by
  have hC' : ∀ f g, (mkB C F J M R).C f = some g → ConOk Q f g := hC
  have hI : InlOk Q (inlN (mkB C F J M R) (D (mkB C F J M R)) n) := inlN_ok L hC' (fun I hI => hD (mkB C F J M R) hC' I hI) hF.ok n
  exact conG_ok (con_of_run L (B := mkB C F J M R) hC' (hD _ hC' _ hI) hI h.hf h.hn h.hb hJ.okJ) hs
def D0 : Dr S := fun _ _ _ _ => .none
theorem D0_ok : DrOk Q (D0 (S := S)) := fun B _ I _ id ops e σ σ' a R _ h _ => h.elim
end
end Go.Proofs.Ytheemkehedmlfaa.E
