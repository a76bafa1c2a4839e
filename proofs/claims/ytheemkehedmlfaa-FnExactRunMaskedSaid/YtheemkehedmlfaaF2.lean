import Derived.Test.YtheemkehedmlfaaF1
set_option linter.unusedVariables false
set_option linter.unusedSimpArgs false
namespace Go.Proofs.Ytheemkehedmlfaa.E
open Go
theorem bitN_test (m s : Nat) : bitN m s = m.testBit s := by
  show Nat.beq (m >>> s &&& 1) 1 = _
  rw [Nat.testBit, Nat.and_comm 1, Nat.and_one_is_mod]
  rcases Nat.mod_two_eq_zero_or_one (m >>> s) with h | h <;> rw [h] <;> rfl
theorem bitN_lor (m n s : Nat) : bitN (Nat.lor m n) s = (bitN m s || bitN n s) := by
  rw [bitN_test, bitN_test, bitN_test]
  exact Nat.testBit_or m n s
theorem bitN_one (d s : Nat) : bitN (Nat.shiftLeft 1 d) s = decide (d = s) := by
  rw [bitN_test]
  show Nat.testBit (1 <<< d) s = _
  rw [Nat.one_shiftLeft, Nat.testBit_two_pow]
theorem hasN_iff {i : Nat} : ∀ {l : List Nat}, hasN i l = true ↔ i ∈ l
  | [] => by simp [hasN]
  | j :: r => by
    simp only [hasN, List.mem_cons]
    cases hb : Nat.beq i j with
    | true => simp [beq_eq' hb]
    | false =>
      have : i ≠ j := fun e1 => by rw [e1, Nat.beq_refl] at hb; cases hb
      simp [this, hasN_iff]
section
variable {S : Sig} (Q : Kind S)
def ltD (b : Nat) (d : Dp) : Prop := ∀ p, p ∈ d → p.1 < b ∧ p.2 < b
def ltC (b : Nat) : SC S.T → Prop
  | .rd _ d _ => ltD b d
  | .row i => i < b
  | .cut i _ => i < b
  | .ptr i _ => i < b
  | .elt i _ _ _ => i < b
  | .elr _ d _ _ => ltD b d
  | .fn _ l => ∀ i, i ∈ l → i < b
  | .sub i sv _ => i < b ∧ sv < b
  | .sel i sv _ _ _ => i < b ∧ sv < b
  | .mp i => i < b
  | .tail i _ _ => i < b
  | _ => True
def ltV (b : Nat) : SV S.T → Prop
  | .c x => ltC b x
  | .agg xs => ∀ x, x ∈ xs → ltC b x
def ltX (b : Nat) : SX S.T → Prop
  | .v x => ltV b x
  | .tup xs => ∀ x, x ∈ xs → ltV b x
structure Lb (b : Nat) (e e' : Env S.T) : Prop where
  hold : ∀ v c, ltC b c → hold Q e v c → hold Q e' v c
  U : ∀ a, a < b → e.U a → e'.U a
  os : e'.w.os = e.w.os
  tape : e'.w.tape = e.w.tape
  output : e'.w.output = e.w.output
  size : e.w.heap.size ≤ e'.w.heap.size
  chg : ∀ k, k < e.w.heap.size → ¬ e.own k → e'.w.heap[k]? = e.w.heap[k]?
  own : ∀ k, e'.own k → e.own k ∨ e.w.heap.size ≤ k
  ext : ∀ k, e'.ok 0 k → e.ok 0 k
  ub : ∀ a, a < b → e'.U a → e.U a
variable {Q}
theorem Le.lb {e e' : Env S.T} (h : Le Q e e') (b : Nat) (hu : ∀ a, a < b → e'.U a → e.U a) : Lb Q b e e' := ⟨fun v c _ => h.hold v c, fun a _ => h.U a, h.os, h.tape, h.output, h.size, h.chg, h.own, h.ext, hu⟩
theorem Lb.refl (b : Nat) (e : Env S.T) : Lb Q b e e := (Le.refl Q e).lb b fun _ _ h => h
theorem ltC.mono {b b' : Nat} (h : b ≤ b') {c : SC S.T} : ltC b c → ltC b' c := by
  intro hc
  cases c with
  | rd t d l => exact fun p hp => ⟨Nat.lt_of_lt_of_le (hc p hp).1 h, Nat.lt_of_lt_of_le (hc p hp).2 h⟩
  | elr t d x o => exact fun p hp => ⟨Nat.lt_of_lt_of_le (hc p hp).1 h, Nat.lt_of_lt_of_le (hc p hp).2 h⟩
  | fn f l => exact fun i hi => Nat.lt_of_lt_of_le (hc i hi) h
  | row i => exact Nat.lt_of_lt_of_le hc h
  | cut i n => exact Nat.lt_of_lt_of_le hc h
  | ptr i n => exact Nat.lt_of_lt_of_le hc h
  | elt i t n o => exact Nat.lt_of_lt_of_le hc h
  | sub i sv j => exact ⟨Nat.lt_of_lt_of_le hc.1 h, Nat.lt_of_lt_of_le hc.2 h⟩
  | sel i sv j k o => exact ⟨Nat.lt_of_lt_of_le hc.1 h, Nat.lt_of_lt_of_le hc.2 h⟩
  | mp i => exact Nat.lt_of_lt_of_le hc h
  | tail i t n => exact Nat.lt_of_lt_of_le hc h
  | _ => trivial
theorem Lb.mono {b b' : Nat} (h : b ≤ b') {e e' : Env S.T} (k : Lb Q b' e e') : Lb Q b e e' := ⟨fun v c hc => k.hold v c (hc.mono h), fun a ha => k.U a (Nat.lt_of_lt_of_le ha h), k.os, k.tape, k.output, k.size, k.chg, k.own, k.ext, fun a ha hu => k.ub a (Nat.lt_of_lt_of_le ha h) hu⟩
theorem Lb.trans {b : Nat} {e e1 e2 : Env S.T} (h : Lb Q b e e1) (k : Lb Q b e1 e2) : Lb Q b e e2 where
  hold := fun v c hc hv => k.hold v c hc (h.hold v c hc hv)
  U := fun a ha hu => k.U a ha (h.U a ha hu)
  os := k.os.trans h.os
  tape := k.tape.trans h.tape
  output := k.output.trans h.output
  size := Nat.le_trans h.size k.size
  chg := fun j hj hn => (k.chg j (Nat.lt_of_lt_of_le hj h.size) (fun ho => (h.own j ho).elim hn (fun hl => by omega))).trans (h.chg j hj hn)
  own := fun j ho => (k.own j ho).elim (h.own j) (fun hl => .inr (Nat.le_trans h.size hl))
  ext := fun j hj => h.ext j (k.ext j hj)
  ub := fun a ha hu => h.ub a ha (k.ub a ha hu)
theorem Lb.holdV {b : Nat} {e e' : Env S.T} (h : Lb Q b e e') {v : Value} : ∀ {x : SV S.T}, ltV b x → holdV Q e v x → holdV Q e' v x
  | .c _, hl, hv => h.hold _ _ hl hv
  | .agg xs, hl, ⟨vs, e1, hv⟩ => by
    refine ⟨vs, e1, ?_⟩
    clear e1
    induction hv with
    | nil => exact .nil
    | cons a _ ih => exact .cons (h.hold _ _ (hl _ List.mem_cons_self) a) (ih fun x hx => hl x (List.mem_cons_of_mem _ hx))
theorem Lb.holdX {b : Nat} {e e' : Env S.T} (h : Lb Q b e e') {v : Value} : ∀ {x : SX S.T}, ltX b x → holdX Q e v x → holdX Q e' v x
  | .v _, hl, hv => h.holdV hl hv
  | .tup xs, hl, ⟨vs, e1, hv⟩ => by
    refine ⟨vs, e1, ?_⟩
    clear e1
    induction hv with
    | nil => exact .nil
    | cons a _ ih => exact .cons (h.holdV (hl _ List.mem_cons_self) a) (ih fun x hx => hl x (List.mem_cons_of_mem _ hx))
theorem lt_hold {e : Env S.T} {b : Nat} (hb : ∀ i, e.U i → i < b) {v : Value} {c : SC S.T} (h : hold Q e v c) : ltC b c := by
  cases c with
  | rd t d l => exact fun p hp => ⟨hb _ (h.1 p hp).1, hb _ (h.1 p hp).2⟩
  | elr t d x o => exact fun p hp => ⟨hb _ (h.1 p hp).1, hb _ (h.1 p hp).2⟩
  | fn f l => exact fun i hi => hb _ (h.1 i hi)
  | row i => exact hb _ h.1
  | cut i n => exact hb _ h.1
  | ptr i n => exact hb _ h.1
  | elt i t n o => exact hb _ h.1
  | sub i sv j => exact ⟨hb _ h.1, hb _ h.2.1⟩
  | sel i sv j k o => exact ⟨hb _ h.1, hb _ h.2.1⟩
  | mp i => exact hb _ h.1
  | tail i t n => exact hb _ h.1
  | _ => trivial
theorem lt_holds {e : Env S.T} {b : Nat} (hb : ∀ i, e.U i → i < b) {vs : List Value} {cs : List (SC S.T)} (h : All2 (hold Q e) vs cs) : ∀ x, x ∈ cs → ltC b x := by
  induction h with
  | nil => exact fun x hx => by cases hx
  | cons a _ ih =>
    intro x hx
    rcases List.mem_cons.1 hx with rfl | hx
    · exact lt_hold hb a
    · exact ih x hx
theorem lt_holdV {e : Env S.T} {b : Nat} (hb : ∀ i, e.U i → i < b) {v : Value} : ∀ {x : SV S.T}, holdV Q e v x → ltV b x
  | .c x, h => lt_hold hb h
  | .agg xs, ⟨vs, _, hv⟩ => lt_holds hb hv
theorem lt_holdX {e : Env S.T} {b : Nat} (hb : ∀ i, e.U i → i < b) {v : Value} : ∀ {x : SX S.T}, holdX Q e v x → ltX b x
  | .v x, h => lt_holdV hb h
  | .tup xs, ⟨vs, e1, hv⟩ => by
    clear e1
    intro x hx
    induction hv with
    | nil => cases hx
    | cons a _ ih =>
      rcases List.mem_cons.1 hx with rfl | hx
      · exact lt_holdV hb a
      · exact ih hx
variable (Q)
structure Holds (e : Env S.T) (σ : St S.T) (a : Act) : Prop where
  inv : Inv Q e
  ob : e.ob = σ.ob
  nx : ∀ i, e.U i → i < σ.nx
  n : a.tmps.size = σ.n
  df : a.defers = []
  sl : ∀ s, holdX Q e (a.tmps.getD s undef) (σ.get s)
def Same (W : Nat) (a a' : Act) : Prop := ∀ s, bitN W s = false → a'.tmps.getD s undef = a.tmps.getD s undef
structure Stp (e : Env S.T) (σ : St S.T) (W : Nat) (a : Act) (e' : Env S.T) (σ' : St S.T) (a' : Act) : Prop where
  lb : Lb Q σ.nx e e'
  holds : Holds Q e' σ' a'
  same : Same W a a'
  nx : σ.nx ≤ σ'.nx
  n : σ'.n = σ.n
  lg : ∃ l, σ'.lg = l ++ σ.lg ∧ ∀ i, i ∉ l → σ'.ob i = σ.ob i
variable {Q}
theorem Same.refl (W : Nat) (a : Act) : Same W a a := fun _ _ => rfl
theorem Same.trans {W W' : Nat} {a a1 a2 : Act} (h : Same W a a1) (k : Same W' a1 a2) : Same (Nat.lor W W') a a2 := by
  intro s hs
  rw [bitN_lor, Bool.or_eq_false_iff] at hs
  exact (k s hs.2).trans (h s hs.1)
theorem Same.l {W W' : Nat} {a a1 : Act} (h : Same W a a1) : Same (Nat.lor W W') a a1 := h.trans (Same.refl W' a1)
theorem Same.r {W W' : Nat} {a a1 : Act} (h : Same W' a a1) : Same (Nat.lor W W') a a1 := (Same.refl W a).trans h
theorem Stp.refl {e : Env S.T} {σ : St S.T} {a : Act} (h : Holds Q e σ a) (W : Nat) : Stp Q e σ W a e σ a := ⟨Lb.refl _ e, h, Same.refl _ a, Nat.le_refl _, rfl, [], rfl, fun _ _ => rfl⟩
theorem Stp.trans {e e1 e2 : Env S.T} {σ σ1 σ2 : St S.T} {a a1 a2 : Act} {W W' : Nat} (h : Stp Q e σ W a e1 σ1 a1) (k : Stp Q e1 σ1 W' a1 e2 σ2 a2) : Stp Q e σ (Nat.lor W W') a e2 σ2 a2 where
  lb := h.lb.trans (k.lb.mono h.nx)
  holds := k.holds
  same := h.same.trans k.same
  nx := Nat.le_trans h.nx k.nx
  n := k.n.trans h.n
  lg := by
    obtain ⟨l, h1, h2⟩ := h.lg
    obtain ⟨l', h3, h4⟩ := k.lg
    refine ⟨l' ++ l, by rw [h3, h1, List.append_assoc], fun i hi => ?_⟩
    rw [List.mem_append, not_or] at hi
    exact (h4 i hi.1).trans (h2 i hi.2)
theorem Stp.wide {e e1 : Env S.T} {σ σ1 : St S.T} {a a1 : Act} {W W' : Nat} (h : Stp Q e σ W a e1 σ1 a1) (hw : ∀ s, bitN W' s = false → bitN W s = false) : Stp Q e σ W' a e1 σ1 a1 := { h with same := fun s hs => h.same s (hw s hs) }
theorem Stp.l {e e1 : Env S.T} {σ σ1 : St S.T} {a a1 : Act} {W W' : Nat} (h : Stp Q e σ W a e1 σ1 a1) : Stp Q e σ (Nat.lor W W') a e1 σ1 a1 := { h with same := h.same.l }
theorem Stp.r {e e1 : Env S.T} {σ σ1 : St S.T} {a a1 : Act} {W W' : Nat} (h : Stp Q e σ W' a e1 σ1 a1) : Stp Q e σ (Nat.lor W W') a e1 σ1 a1 := { h with same := h.same.r }
theorem opd_ok {e : Env S.T} {σ : St S.T} {a : Act} (h : ∀ s, holdX Q e (a.tmps.getD s undef) (σ.get s)) (p : Operand) : holdX Q e (a.eval p) (σ.opd p) := by
  cases p with
  | tmp t => exact h t
  | const v =>
    show holdX Q e v (constX v)
    have hc : ∀ v : Value, hold Q e v (constC v) := by
      intro v
      unfold constC
      split <;> first | rfl | trivial
    unfold constX
    split
    · rename_i cs
      refine ⟨cs.toList, by simp, ?_⟩
      generalize cs.toList = l
      induction l with
      | nil => exact .nil
      | cons v l ih => exact .cons (hc v) ih
    · exact hc v
  | global g => trivial
  | func f => exact ⟨fun i hi => (by cases hi), rfl⟩
theorem opds_ok {e : Env S.T} {σ : St S.T} {a : Act} (h : ∀ s, holdX Q e (a.tmps.getD s undef) (σ.get s)) (l : List Operand) : Opds Q e a.eval l (l.map σ.opd) := by
  induction l with
  | nil => exact .nil
  | cons p l ih => exact .cons (opd_ok h p) ih
theorem put_get {a : Act} {dst : Option Tmp} {v : Value} {s : Nat} (hd : ∀ d, dst = some d → d < a.tmps.size) : (a.put dst v).tmps.getD s undef = match dst with | some d => if s = d then v else a.tmps.getD s undef | none => a.tmps.getD s undef := by
  cases dst with
  | none => rfl
  | some d =>
    have hd := hd d rfl
    simp only [Act.put]
    split
    · rename_i h
      subst h
      simp [hd]
    · rename_i h
      have : d ≠ s := fun e => h e.symm
      simp [Array.getElem?_setIfInBounds_ne this]
theorem put_size {a : Act} {dst : Option Tmp} {v : Value} : (a.put dst v).tmps.size = a.tmps.size := by cases dst <;> simp [Act.put]
theorem put_defers {a : Act} {dst : Option Tmp} {v : Value} : (a.put dst v).defers = a.defers := by cases dst <;> rfl
theorem putO_get {σ : St S.T} {dst : Option Nat} {x : SX S.T} {s : Nat} : (σ.putO dst x).get s = match dst with | some d => if s = d then x else σ.get s | none => σ.get s := by
  cases dst with
  | none => rfl
  | some d =>
    show (bif Nat.beq s d then x else σ.sl s) = _
    simp only
    split
    · rename_i h; subst h; simp [Nat.beq_refl]
    · rename_i h
      have : Nat.beq s d = false := by
        cases hq : Nat.beq s d with
        | true => exact absurd (beq_eq' hq) h
        | false => rfl
      rw [this]
      rfl
theorem putO_ob {σ : St S.T} {dst : Option Nat} {x : SX S.T} : (σ.putO dst x).ob = σ.ob := by cases dst <;> rfl
theorem putO_n {σ : St S.T} {dst : Option Nat} {x : SX S.T} : (σ.putO dst x).n = σ.n := by cases dst <;> rfl
theorem putO_nx {σ : St S.T} {dst : Option Nat} {x : SX S.T} : (σ.putO dst x).nx = σ.nx := by cases dst <;> rfl
theorem putO_lg {σ : St S.T} {dst : Option Nat} {x : SX S.T} : (σ.putO dst x).lg = σ.lg := by cases dst <;> rfl
def dstW (dst : Option Tmp) : Nat := match dst with | some d => Nat.shiftLeft 1 d | none => 0
theorem put_same (a : Act) (dst : Option Tmp) (v : Value) : Same (dstW dst) a (a.put dst v) := by
  intro s hs
  cases dst with
  | none => rfl
  | some d =>
    have : d ≠ s := by
      rw [show dstW (some d) = Nat.shiftLeft 1 d from rfl, bitN_one] at hs
      simpa using hs
    simp [Act.put, Array.getElem?_setIfInBounds_ne this]
theorem Holds.put {e e' : Env S.T} {σ : St S.T} {a : Act} (h : Holds Q e σ a) (L : Lb Q σ.nx e e') (I : Inv Q e') {dst : Option Tmp} (hd : ∀ d, dst = some d → d < σ.n) {v : Value} {x : SX S.T} (hv : holdX Q e' v x) {ob : Ob S.T} (hob : e'.ob = ob) {nx : Nat} (hnx : ∀ i, e'.U i → i < nx) (lg : List Nat) :
    Holds Q e' { σ.putO dst x with ob := ob, nx := nx, lg := lg } (a.put dst v) := by
  refine ⟨I, hob, hnx, ?_, by rw [put_defers]; exact h.df, fun s => ?_⟩
  · rw [put_size]
    show _ = (σ.putO dst x).n
    rw [h.n, putO_n]
  · rw [put_get (fun d hd' => by rw [h.n]; exact hd d hd')]
    show holdX Q e' _ ((σ.putO dst x).get s)
    rw [putO_get]
    cases dst with
    | none => exact L.holdX (lt_holdX h.nx (h.sl s)) (h.sl s)
    | some d =>
      simp only
      split
      · exact hv
      · exact L.holdX (lt_holdX h.nx (h.sl s)) (h.sl s)
theorem Holds.lit {e : Env S.T} {σ : St S.T} {a : Act} (h : Holds Q e σ a) {d : Nat} {b : Bool} (hb : σ.get d = .v (.c (.bool b))) : Holds Q e (σ.put d (litB b)) a := by
  refine ⟨h.inv, h.ob, h.nx, h.n, h.df, fun s => ?_⟩
  have := putO_get (σ := σ) (dst := some d) (x := litB b) (s := s)
  show holdX Q e _ ((σ.putO (some d) (litB b)).get s)
  rw [this]
  simp only
  split
  · rename_i hs
    subst hs
    have := h.sl s
    rw [hb] at this
    exact this
  · exact h.sl s
theorem blt_lt {a b : Nat} (h : Nat.blt a b = true) : a < b := by
  have := Nat.le_of_ble_eq_true h
  omega
theorem fits_lt {n : Nat} {o : Oper} (h : dstFits n o = true) : ∀ d, o.dst = some d → d < n := by
  intro d hd
  unfold dstFits at h
  rw [hd] at h
  exact blt_lt h
variable (Q)
def Ended (e : Env S.T) (nx : Nat) (ob : Ob S.T) (r : SX S.T × St S.T) (en : Ending) (w1 : World) : Prop :=
  ∃ v e', en = .returned v ∧ e'.w = w1 ∧ Lb Q nx e e' ∧ Inv Q e' ∧ e'.ob = r.2.ob ∧ (∀ i, e'.U i → i < r.2.nx) ∧ nx ≤ r.2.nx ∧ (∀ i, i ∉ r.2.lg → r.2.ob i = ob i) ∧ holdX Q e' v r.1
def isFn (P : Program) (f : FuncId) : Prop := ∃ fn, P.funcs[f]? = some fn ∧ (fn.name == "runtime.NumGoroutine") = false ∧ fn.body.isSome = true
def InlOk (I : Inl S) : Prop := ∀ f xs ob nx r, (I f xs ob nx).Can r → isFn S.P f ∧ ∀ (e : Env S.T) (vs : List Value), Inv Q e → e.ob = ob → (∀ i, e.U i → i < nx) → All2 (holdX Q e) vs xs →
  Calls S.P f vs.toArray e.w fun en w1 => Ended Q e nx ob r en w1
variable {Q}
theorem obOf_out (ob : Ob S.T) : ∀ (l : List (Nat × Option (Nat × SO S.T))) (i : Nat), i ∉ l.map (·.1) → (l.foldl put1 ob) i = ob i := by
  intro l
  induction l generalizing ob with
  | nil => intro i _; rfl
  | cons p l ih =>
    intro i hi
    simp only [List.map_cons, List.mem_cons, not_or] at hi
    rw [List.foldl_cons, ih _ i hi.2]
    have : Nat.beq i p.1 = false := by
      cases hb : Nat.beq i p.1 with
      | true => exact absurd (beq_eq' hb) hi.1
      | false => rfl
    unfold put1
    cases p.2 with
    | some x => show (bif Nat.beq i p.1 then _ else _) = _; rw [this]; rfl
    | none => show (bif Nat.beq i p.1 then _ else _) = _; rw [this]; rfl
theorem run_enter {P : Program} {a : Act} {o : Oper} {callee : Operand} {args : Array Operand} {ts : Array TypeId} {f : FuncId} {caps : Array Value} {w : World} (hop : o.op = .call { callee := .value callee, args := args, argTypes := ts })
    (hc : a.eval callee = .func (.func f) #[] caps) (hf : isFn P f) : (execOp a.eval o).run P w = .ok (.enter f ((args.toList.map a.eval).toArray ++ caps)) w := by
  obtain ⟨fn, hf, hname, hb⟩ := hf
  have hm : args.map a.eval = (args.toList.map a.eval).toArray := by
    apply Array.ext'
    simp
  simp only [execOp, hop, resolve, Deferred.ofValue, invoke, hc, Sem.run_bind, Sem.run_pure, Result.andThen_ok, callFunc]
  have hn2 : ¬ fn.name = "runtime.NumGoroutine" := by simpa using hname
  have hb2 : ¬ fn.body = none := fun hq => by rw [hq] at hb; cases hb
  simp [hf, hn2, hb2, hm]
theorem caps_hold {e : Env S.T} (I : Inv Q e) : ∀ {l : List Nat}, (∀ i, i ∈ l → e.U i) → l.all (oneCap e.ob) = true → All2 (holdX Q e) (l.map e.β) (l.map capX)
  | [], _, _ => .nil
  | i :: l, hU, h => by
    simp only [List.all_cons, Bool.and_eq_true] at h
    refine .cons ?_ (caps_hold I (fun j hj => hU j (List.mem_cons_of_mem _ hj)) h.2)
    have h1 := h.1
    unfold oneCap at h1
    split at h1
    · rename_i s t cs ho
      obtain ⟨_, _, g, vs, hb, _⟩ := I.obj i s _ ho
      exact ⟨hU i List.mem_cons_self, g, hb, hb⟩
    · cases h1
theorem Opds.args {e : Env S.T} {ρ : Operand → Value} {l : List Operand} {xs : List (SX S.T)} (h : Opds Q e ρ l xs) : All2 (holdX Q e) (l.map ρ) xs := by
  induction h with
  | nil => exact .nil
  | cons a _ ih => exact .cons a ih
theorem doOp_ok (L : Laws S Q) {C : Cons S} (hC : ∀ f g, C f = some g → ConOk Q f g) {I : Inl S} (hI : InlOk Q I) {o : Oper} {e : Env S.T} {σ σ' : St S.T} {a : Act} (h : Holds Q e σ a) (hd : ∀ d, o.dst = some d → d < σ.n)
    (hc : (doOp C I o σ).Can σ') {K : Act → World → Prop} {R : Exit → Act → World → Prop} (hK : ∀ e' a', Stp Q e σ (dstW o.dst) a e' σ' a' → K a' e'.w) : o.wp S.P a e.w K R := by
  have hfresh : ∀ i, σ.nx ≤ i → i < σ.nx + 8 → ¬ e.U i := fun i h1 _ hu => by have := h.nx i hu; omega
  have hxs : Opds Q e a.eval o.op.operands.toList (σ.opds o) := opds_ok h.sl _
  have fin : ∀ {u : Upd S.T} {v : Value} {e' : Env S.T}, σ' = σ.upd o.dst u → Inv Q e' → Le Q e e' → e'.ob = u.obOf e.ob → (∀ a, e'.U a → e.U a ∨ (σ.nx ≤ a ∧ a < σ.nx + 8)) → holdX Q e' v u.res → K (a.put o.dst v) e'.w := by
    rintro u v e' rfl h1 h2 h3 h4 h5
    have hlb : Lb Q σ.nx e e' := h2.lb _ fun a ha hu => (h4 a hu).elim id fun h => by omega
    refine hK e' _ ⟨hlb, ?_, put_same _ _ _, by show σ.nx ≤ σ.nx + 8; omega, putO_n, u.set.map (·.1), rfl, fun i hi => ?_⟩
    · rw [h.ob] at h3
      exact h.put hlb h1 hd h5 h3 (fun i hi => by
        rcases h4 i hi with h6 | h6
        · have := h.nx i h6; omega
        · omega) _
    · exact obOf_out σ.ob u.set i hi
  have hsem : ((sem o (σ.opds o) σ.ob σ.nx).then fun u => Tr.ret (σ.upd o.dst u)).Can σ' → o.wp S.P a e.w K R := by
    intro hc
    obtain ⟨u, hu, hc⟩ := Tr.can_then hc
    have hc := can_ret hc
    rw [← h.ob] at hu
    obtain ⟨v, e', hr, h1, h2, h3, h4, h5⟩ := sem_sound L h.inv (hfresh σ.nx (Nat.le_refl _) (by omega)) hxs hu
    have hk := fin hc.symm h1 h2 h3 h4 h5
    unfold Oper.wp
    rcases hr with hr | ⟨hr, rfl⟩
    · rw [hr]; exact hk
    · rw [hr]; exact hk
  unfold doOp at hc
  split at hc
  · rename_i callee args ts f caps xs hop hops
    rw [hops, hop] at hxs
    simp only [Op.operands, Call.operands] at hxs
    have hxs : Opds Q e a.eval (callee :: args.toList) (.v (.c (.fn f caps)) :: xs) := by simpa using hxs
    cases hxs with
    | cons h1 h2 =>
      have hcal : a.eval callee = .func (.func f) #[] (caps.map e.β).toArray := h1.2
      have hargs : All2 (holdX Q e) (args.toList.map a.eval) xs := Opds.args h2
      split at hc
      · rename_i g hg
        obtain ⟨u, hu, hc⟩ := Tr.can_then hc
        have hc := can_ret hc
        have hok := hC f g hg
        rw [← h.ob] at hu
        have hcalls := useCon_ok L h.inv hfresh hok hargs hu
        unfold Oper.wp
        rw [run_enter hop hcal hok.fn, Oper.upon_enter]
        simp only [List.map_nil, Array.append_empty]
        refine hcalls.mono ?_
        rintro en w1 ⟨v, rfl, e', rfl, g1, g2, g3, g4, g5⟩
        exact fin hc.symm g1 g2 g3 g4 g5
      · rename_i caps _ _ _
        replace hc := can_guard hc
        obtain ⟨hcap, hc⟩ := hc
        obtain ⟨r, hr, hc⟩ := Tr.can_then hc
        have hc := can_ret hc
        obtain ⟨hfn, hcalls⟩ := hI _ _ _ _ _ hr
        rw [← h.ob] at hcap
        have hcalls := hcalls e (args.toList.map a.eval ++ caps.map e.β) h.inv h.ob h.nx (hargs.app (caps_hold h.inv h1.1 hcap))
        unfold Oper.wp
        rw [run_enter hop hcal hfn, Oper.upon_enter]
        have : (args.toList.map a.eval ++ caps.map e.β).toArray = (args.toList.map a.eval).toArray ++ (caps.map e.β).toArray := by simp
        rw [this] at hcalls
        refine hcalls.mono ?_
        rintro en w1 ⟨v, e', rfl, rfl, g1, g2, g3, g4, g5, g6, g7⟩
        show K (a.put o.dst v) e'.w
        subst hc
        refine hK e' _ ⟨g1, h.put g1 g2 hd g7 g3 g4 _, put_same _ _ _, g5, putO_n, r.2.lg, rfl, fun i hi => g6 i hi⟩
  · exact hsem hc
theorem stepO_ok (L : Laws S Q) {C : Cons S} (hC : ∀ f g, C f = some g → ConOk Q f g) {I : Inl S} (hI : InlOk Q I) {ops : Array Oper} {o : Oper} {e : Env S.T} {σ σ' : St S.T} {a : Act} (h : Holds Q e σ a) (hd : ∀ d, o.dst = some d → d < σ.n)
    (hc : (stepO C I ops o σ).Can σ') {K : Act → World → Prop} {R : Exit → Act → World → Prop} (hK : ∀ e' a', Stp Q e σ (dstW o.dst) a e' σ' a' → K a' e'.w) :
    if Region.wanted o (yielded ops a.tmps) = true then o.wp S.P a e.w K R else K (a.put o.dst undef) e.w := by
  have hdo : ∀ {σ0 : St S.T}, Holds Q e σ0 a → σ0.n = σ.n → σ0.ob = σ.ob → σ0.nx = σ.nx → σ0.lg = σ.lg → (doOp C I o σ0).Can σ' → o.wp S.P a e.w K R := by
    intro σ0 h0 hn0 hob0 hnx0 hlg0 hc
    refine doOp_ok L hC hI h0 (fun d hd' => by rw [hn0]; exact hd d hd') hc fun e' a' hs => hK e' a' ?_
    exact ⟨by rw [← hnx0]; exact hs.lb, hs.holds, hs.same, by rw [← hnx0]; exact hs.nx, hs.n.trans hn0, by rw [← hob0, ← hlg0]; exact hs.lg⟩
  have hskip : ∀ {σ0 : St S.T}, Holds Q e σ0 a → σ0.n = σ.n → σ0.ob = σ.ob → σ0.nx = σ.nx → σ0.lg = σ.lg → σ' = σ0.putO o.dst (.tup []) → K (a.put o.dst undef) e.w := by
    rintro σ0 h0 hn0 hob0 hnx0 hlg0 rfl
    refine hK e _ ⟨Lb.refl _ e, ?_, put_same _ _ _, by rw [putO_nx, hnx0]; exact Nat.le_refl _, by rw [putO_n, hn0], [], by rw [putO_lg, hlg0]; rfl, fun i _ => by rw [putO_ob, hob0]⟩
    have := h0.put (dst := o.dst) (Lb.refl _ e) h.inv (by rw [hn0]; exact hd) (v := undef) (x := .tup []) ⟨[], rfl, .nil⟩ (ob := σ0.ob) h0.ob (nx := σ0.nx) h0.nx σ0.lg
    have heq : σ0.putO o.dst (.tup []) = { σ0.putO o.dst (.tup []) with ob := σ0.ob, nx := σ0.nx, lg := σ0.lg } := by cases o.dst <;> rfl
    rw [heq]
    exact this
  unfold stepO at hc
  split at hc
  · rename_i hg
    rw [if_pos (by simp [Region.wanted, hg])]
    exact hdo h rfl rfl rfl rfl hc
  · rename_i j want hg
    replace hc := can_or hc; obtain ⟨d, hdst, hc⟩ := hc
    have hsd := h.sl d
    split at hc
    · rename_i b hb
      rw [hb] at hsd
      have hsd : a.tmps.getD d undef = .bool b := hsd
      have hval : a.tmps[d]? = some (.bool b) := by
        cases hq : a.tmps[d]? with
        | none =>
          have : a.tmps.getD d undef = undef := by simp [Array.getD_eq_getD_getElem?, hq]
          rw [this] at hsd
          cases hsd
        | some v =>
          have : a.tmps.getD d undef = v := by simp [Array.getD_eq_getD_getElem?, hq]
          rw [← this, hsd]
      have hy : yielded ops a.tmps j = some b := by
        unfold yielded
        have : (ops[j]?).bind (·.dst) = some d := hdst
        rw [this]
        simp [hval]
      have hw : Region.wanted o (yielded ops a.tmps) = (b == want) := by
        unfold Region.wanted
        rw [hg]
        simp only [hy]
        cases b <;> cases want <;> rfl
      have hl := h.lit hb
      rw [hw]
      rcases hc with ⟨rfl, hc⟩ | ⟨rfl, hc⟩
      · cases want with
        | true => rw [if_pos (show (true == true) = true from rfl)]; exact hdo hl rfl rfl rfl rfl hc
        | false => rw [if_neg (show ¬ (true == false) = true by decide)]; exact hskip hl rfl rfl rfl rfl (can_ret hc).symm
      · cases want with
        | true => rw [if_neg (show ¬ (false == true) = true by decide)]; exact hskip hl rfl rfl rfl rfl (can_ret hc).symm
        | false => rw [if_pos (show (false == false) = true from rfl)]; exact hdo hl rfl rfl rfl rfl hc
    · rename_i hb
      rw [hb] at hsd
      obtain ⟨vs, hu, hvs⟩ := hsd
      cases hvs
      have hy : yielded ops a.tmps j = none := by
        unfold yielded
        have : (ops[j]?).bind (·.dst) = some d := hdst
        rw [this]
        simp only [Option.bind_some]
        cases hq : a.tmps[d]? with
        | none => rfl
        | some v =>
          have : a.tmps.getD d undef = v := by simp [Array.getD_eq_getD_getElem?, hq]
          rw [this] at hu
          rw [hu]
      have hw : Region.wanted o (yielded ops a.tmps) = false := by
        unfold Region.wanted
        rw [hg]
        simp only [hy]
        cases want <;> rfl
      rw [hw, if_neg (by decide)]
      exact hskip h rfl rfl rfl rfl (can_ret hc).symm
    · exact hc.elim
theorem wrOps_cons (o : Oper) (r : List Oper) : wrOps (o :: r) = Nat.lor (dstW o.dst) (wrOps r) := by
  simp only [wrOps, dstW]
  cases o.dst with
  | none => simp
  | some d => rfl
theorem runOps_ok (L : Laws S Q) {C : Cons S} (hC : ∀ f g, C f = some g → ConOk Q f g) {I : Inl S} (hI : InlOk Q I) {ops : Array Oper} {R : Exit → Act → World → Prop} : ∀ (l : List Oper) {e : Env S.T} {σ σ' : St S.T} {a : Act}, Holds Q e σ a → (runOps C I ops l σ).Can σ' →
    (∀ e' a', Stp Q e σ (wrOps l) a e' σ' a' → R .normal a' e'.w) → wpList S.P ops R l a e.w
  | [], e, σ, σ', a, h, hc, hR => by
    have hc := can_ret hc
    subst hc
    exact hR e a (Stp.refl h _)
  | o :: l, e, σ, σ', a, h, hc, hR => by
    unfold runOps at hc
    replace hc := can_guard hc; obtain ⟨hd, hc⟩ := hc
    obtain ⟨σ1, h1, hc⟩ := Tr.can_then hc
    refine wpList_step fun K hK => ?_
    refine stepO_ok L hC hI h (fits_lt hd) h1 ?_
    intro e' a' hs
    refine hK _ _ (runOps_ok L hC hI l hs.holds hc fun e2 a2 hs2 => hR e2 a2 ?_)
    rw [wrOps_cons]
    exact hs.trans hs2
end
end Go.Proofs.Ytheemkehedmlfaa.E
