import Derived.Test.YtheemkehedmlfaaE3
import Derived.Deep.MidRow
import Derived.Laws.Rows
import Derived.Laws.Tables
import Derived.Laws.MakeOwn
import Derived.WalkKit
set_option linter.unusedVariables false
set_option linter.unusedSimpArgs false
namespace Go.Proofs.Ytheemkehedmlfaa.E
open Go
section
variable {S : Sig} (Q : Kind S)
def Out (a : Act) (o : Oper) (e : Env S.T) (fr : Nat) (u : Upd S.T) : Prop :=
  ∃ v e', ((execOp a.eval o).run S.P e.w = .ok (.value v) e'.w ∨ ((execOp a.eval o).run S.P e.w = .ok .skip e'.w ∧ v = undef)) ∧
    Inv Q e' ∧ Le Q e e' ∧ e'.ob = u.obOf e.ob ∧ (∀ a, e'.U a → e.U a ∨ (fr ≤ a ∧ a < fr + 8)) ∧ holdX Q e' v u.res
variable {Q}
theorem Out.quiet (L : Laws S Q) {a : Act} {o : Oper} {e : Env S.T} (I : Inv Q e) {fr : Nat} (hfr : ¬ e.U fr) {u : Upd S.T} (hu : u.set = []) (v : Value)
    (hr : (execOp a.eval o).run S.P e.w = .ok (.value v) e.w) (hv : holdX Q e v u.res) : Out Q a o e fr u :=
  ⟨v, e, .inl hr, I, Le.refl Q e, by simp [Upd.obOf, put1, hu], fun _ h => .inl h, hv⟩
theorem binII_ok {op : BinOp} {k k' : IntKind} {x y : Int} {u : Upd S.T} {w : World} {t : TypeId} {p q : Operand} (h : (binII (S := S) op k x k' y).Can u) :
    ∃ v c, u = ⟨.v (.c c), []⟩ ∧ (∀ e : Env S.T, hold Q e v c) ∧ ((do eqGuard op t p q (.int k x) (.int k' y); Go.binOp op t (.int k x) (.int k' y) : Sem Value)).run S.P w = .ok v w := by
  unfold binII at h
  have hg : (eqGuard op t p q (.int k x) (.int k' y)).run S.P w = .ok () w := by
    unfold eqGuard; cases op <;> simp
  simp only [Sem.run_bind, hg, Result.andThen_ok]
  clear hg
  by_cases hop : op = .shl ∨ op = .shr
  · rcases hop with rfl | rfl
    · rcases h with ⟨hb, h⟩ | ⟨_, h⟩
      · simp only [Tr.Can, rv] at h
        have h0 : ¬ y < 0 := by simpa using hb
        refine ⟨_, _, h.symm, fun e => rfl, ?_⟩
        simp [Go.binOp, Op.shift, h0, shlI]
      · exact h.elim
    · rcases h with ⟨hb, h⟩ | ⟨_, h⟩
      · simp only [Tr.Can, rv] at h
        have h0 : ¬ y < 0 := by simpa using hb
        refine ⟨_, _, h.symm, fun e => rfl, ?_⟩
        simp [Go.binOp, Op.shift, h0, shrI]
      · exact h.elim
  · by_cases hk : k = k'
    · subst hk
      cases op <;> simp only [decide_true, cond_true, reduceCtorEq, or_self, or_false, false_or, not_true_eq_false, not_false_eq_true] at h hop <;>
        first
          | exact h.elim
          | (simp only [Tr.Can, rv] at h
             refine ⟨_, _, h.symm, fun e => rfl, ?_⟩
             simp [Go.binOp, Op.intArith, Op.intBits, Op.intCmp, andI, orI, xorI, nandI]; done)
          | (rcases h with ⟨_, h⟩ | ⟨hb, h⟩
             · exact h.elim
             · simp only [Tr.Can, rv] at h
               have h0 : y ≠ 0 := by simpa using hb
               refine ⟨_, _, h.symm, fun e => rfl, ?_⟩
               simp [Go.binOp, Op.intDiv, h0])
          | (simp only [Tr.Can, rv] at h
             refine ⟨_, _, h.symm, fun e => rfl, ?_⟩
             by_cases hxy : x = y <;> simp [Go.binOp, Op.intCmp, hxy])
    · have hk' : decide (k = k') = false := by simpa using hk
      cases op <;> simp [hk', Tr.Can] at h hop
theorem hold_one {e : Env S.T} (I : Inv Q e) {v : Value} {c : SC S.T} (h : hold Q e v c) (hc : noUn c = true) : v.oneCell' = true := by
  cases c with
  | rd t d l => exact h.2.1
  | row i => rw [h.2]; exact I.one i
  | cut i n => obtain ⟨_, _, _, _, _, _, _, rfl⟩ := h; rfl
  | ptr i off => obtain ⟨_, _, _, rfl⟩ := h; rfl
  | elt i t j off => obtain ⟨_, _, _, _, _, _, _, rfl⟩ := h; rfl
  | elr t d x off => exact h.2.1
  | fn f caps => rw [h.2]; rfl
  | un => cases hc
  | z0 => obtain ⟨_, rfl⟩ := h; rfl
  | sub i sv j => exact h.2.2.2.1
  | sel i sv j k off => exact h.2.2.2.2.1
  | mp i => rw [h.2]; exact I.one i
  | tail i t n => obtain ⟨_, _, _, _, _, _, _, _, _, rfl, _⟩ := h; rfl
  | _ => rw [show v = _ from h]; rfl
theorem holds_one {e : Env S.T} (I : Inv Q e) : ∀ {vs : List Value} {cs : List (SC S.T)}, All2 (hold Q e) vs cs → cs.all noUn = true → ∀ u, u ∈ vs → u.oneCell' = true
  | _, _, .nil, _, u, hu => by cases hu
  | _, _, .cons a b, hn, u, hu => by
    simp only [List.all_cons, Bool.and_eq_true] at hn
    rcases List.mem_cons.1 hu with rfl | hu
    · exact hold_one I a hn.1
    · exact holds_one I b hn.2 u hu
theorem cells_one {v : Value} (h : v.oneCell' = true) : v.cells = #[v] := by cases v <;> first | rfl | cases h
theorem holdV_cells {e : Env S.T} {v : Value} {x : SV S.T} (I : Inv Q e) (h : holdV Q e v x) (hn : x.cells.all noUn = true) : All2 (hold Q e) v.cells.toList x.cells ∧ (∀ u, u ∈ v.cells.toList → u.oneCell' = true) ∧ v.cells.size = x.cells.length := by
  cases x with
  | c x =>
    have h1 := hold_one I h (by simpa [SV.cells] using hn)
    rw [cells_one h1]
    exact ⟨.cons h .nil, fun u hu => by simp at hu; rw [hu]; exact h1, rfl⟩
  | agg xs =>
    obtain ⟨vs, rfl, hv⟩ := h
    exact ⟨by simpa [Value.cells, SV.cells] using hv, by simpa [Value.cells] using holds_one I hv hn, by simpa [Value.cells, SV.cells] using hv.len⟩
theorem td_size {S : Sig} {Q : Kind S} (L : Laws S Q) {t : TypeId} (h : S.known t = true) : ∃ i, S.P.info? t = some i ∧ i.size = S.sz t := by
  unfold Sig.known at h
  unfold Sig.sz
  cases hd : S.td t with
  | none => rw [hd] at h; cases h
  | some d =>
    obtain ⟨i, h1, h2, _⟩ := (L.td t d hd).info
    exact ⟨i, h1, h2⟩
theorem td_agg {S : Sig} {Q : Kind S} (L : Laws S Q) {t : TypeId} (h : S.known t = true) : ∃ u, S.P.underlying t = some u ∧ (match u with | .struct _ => true | .array _ _ => true | _ => false) = S.isAgg t := by
  unfold Sig.known at h
  unfold Sig.isAgg
  cases hd : S.td t with
  | none => rw [hd] at h; cases h
  | some d => exact (L.td t d hd).agg
theorem td_elem {S : Sig} {Q : Kind S} (L : Laws S Q) {t e : TypeId} (h : S.elem t = some e) : S.P.underlying t = some (.slice e) := by
  unfold Sig.elem at h
  cases hd : S.td t with
  | none => rw [hd] at h; cases h
  | some d => rw [hd] at h; exact (L.td t d hd).elem e h
theorem mapM_at {α β : Type} {f : α → Option β} : ∀ {l : List α} {r : List β}, l.mapM f = some r → ∀ (i : Nat) {x : α}, l[i]? = some x → ∃ y, r[i]? = some y ∧ f x = some y
  | [], r, h, i, x, hx => by simp at hx
  | a :: l, r, h, i, x, hx => by
    simp only [List.mapM_cons, Option.bind_eq_bind, Option.pure_def] at h
    obtain ⟨b, hb, h⟩ := Option.bind_eq_some_iff.1 h
    obtain ⟨r', hr, h⟩ := Option.bind_eq_some_iff.1 h
    cases h
    cases i with
    | zero => simp at hx; subst hx; exact ⟨b, rfl, hb⟩
    | succ i => exact mapM_at hr i (by simpa using hx)
theorem td_field {S : Sig} {Q : Kind S} (L : Laws S Q) {t : TypeId} {f : Nat} {p : Nat × TypeId × Nat} (h : fieldOf S t f = some p) : ∃ fs : Array Field, S.P.underlying t = some (.struct fs) ∧ ∃ fd : Field, fs[f]? = some fd ∧ fd.offset = p.1 ∧ fd.type = p.2.1 ∧ ∃ i, S.P.info? p.2.1 = some i ∧ i.size = p.2.2 := by
  unfold fieldOf at h
  cases hd : S.td t with
  | none => rw [hd] at h; cases h
  | some d =>
    rw [hd] at h
    simp only [Option.bind_some] at h
    have hne : d.fields ≠ [] := by rintro e; rw [e] at h; simp at h
    obtain ⟨fs, h1, h2, h3⟩ := (L.td t d hd).fields hne
    have hm : (fs.toList.map fun f => (f.offset, f.type))[f]? = some (p.1, p.2.1) := by rw [h3, List.getElem?_map, h]; rfl
    rw [List.getElem?_map] at hm
    obtain ⟨fd, hf, he⟩ := Option.map_eq_some_iff.1 hm
    simp only [Prod.mk.injEq] at he
    obtain ⟨y, hy, hz⟩ := mapM_at h2 f hf
    rw [List.getElem?_map, h] at hy
    simp only [Option.map_some, Option.some.injEq] at hy
    obtain ⟨i, hi, hi2⟩ := Option.map_eq_some_iff.1 hz
    rw [← hy] at hi2
    simp only [Prod.mk.injEq] at hi2
    exact ⟨fs, h1, fd, by simpa using hf, he.1, he.2, i, by rw [← he.2]; exact hi, hi2.2⟩
theorem td_str {S : Sig} {Q : Kind S} (L : Laws S Q) {t : TypeId} (h : isStr S t = true) : S.P.underlying t = some .string := by
  unfold isStr at h
  cases hd : S.td t with
  | none => rw [hd] at h; cases h
  | some d => rw [hd] at h; exact (L.td t d hd).st h
theorem td_bool {S : Sig} {Q : Kind S} (L : Laws S Q) {t : TypeId} (h : isBo S t = true) : S.P.underlying t = some .bool := by
  unfold isBo at h
  cases hd : S.td t with
  | none => rw [hd] at h; cases h
  | some d => rw [hd] at h; exact (L.td t d hd).bo h
theorem run_isAgg' {S : Sig} {Q : Kind S} (L : Laws S Q) {t : TypeId} (h : S.known t = true) (w : World) : (Go.isAgg t).run S.P w = .ok (S.isAgg t) w := by
  obtain ⟨u, h1, h2⟩ := td_agg L h
  unfold Go.isAgg
  rw [Sem.run_bind, run_underlying h1 w, ← h2]
  cases u <;> simp
theorem run_sizeOf' {S : Sig} {Q : Kind S} (L : Laws S Q) {t : TypeId} (h : S.known t = true) (w : World) : (sizeOf t).run S.P w = .ok (S.sz t) w := by
  obtain ⟨i, h1, h2⟩ := td_size L h
  simp [sizeOf, typeInfo, h1, h2]
theorem load_ok (L : Laws S Q) {e : Env S.T} {t : TypeId} (ht : S.known t = true) {w : World} {g o : Nat} {cs : List Value} (hc : cellsAt w g o cs) {scs : List (SC S.T)} (hs : All2 (hold Q e) cs scs)
    (hl : scs.length = S.sz t) {x : SV S.T} (hm : mkV S t scs = some x) : ∃ v, (Instr.loadAt t (.pointer (some ⟨g, o, none⟩))).run S.P w = .ok v w ∧ holdV Q e v x := by
  have hlen : cs.length = S.sz t := hs.len.trans hl
  unfold mkV at hm
  cases ha : S.isAgg t with
  | true =>
    rw [ha] at hm
    simp only [cond_true, Option.some.injEq] at hm
    subst hm
    obtain ⟨u, h1, h2⟩ := td_agg L ht
    obtain ⟨i, h3, h4⟩ := td_size L ht
    refine ⟨_, run_loadAt_mid w g o t cs u (fun j v hv => hc.cell j v hv) h1 ?_ (by rw [h3, Option.map_some, h4, hlen]), cs, rfl, hs⟩
    rw [ha] at h2
    exact h2
  | false =>
    rw [ha] at hm
    simp only [cond_false] at hm
    cases hs with
    | nil => simp at hm
    | cons h1 h2 =>
      cases h2 with
      | cons _ _ => simp at hm
      | nil =>
        simp only [Option.some.injEq] at hm
        subst hm
        rename_i a b
        refine ⟨a, ?_, h1⟩
        have hcell := hc.cell 0 a rfl
        simp only [Nat.add_zero] at hcell
        have hg := run_isAgg' L ht w
        rw [ha] at hg
        simp [Instr.loadAt, Instr.sureAddr, loadVar, hg, Go.load, Sem.run, hcell]
end
end Go.Proofs.Ytheemkehedmlfaa.E
