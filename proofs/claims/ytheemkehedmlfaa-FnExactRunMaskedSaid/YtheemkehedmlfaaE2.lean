import Derived.Test.YtheemkehedmlfaaE1
import Derived.Laws.StructEq
set_option linter.unusedVariables false
set_option linter.unusedSimpArgs false
namespace Go.Proofs.Ytheemkehedmlfaa.E
open Go
inductive All2 {α β : Type} (R : α → β → Prop) : List α → List β → Prop where
  | nil : All2 R [] []
  | cons {a b l m} : R a b → All2 R l m → All2 R (a :: l) (b :: m)
namespace All2
variable {α β : Type} {R R' : α → β → Prop}
theorem imp (h : ∀ a b, R a b → R' a b) : ∀ {l : List α} {m : List β}, All2 R l m → All2 R' l m
  | _, _, .nil => .nil
  | _, _, .cons a b => .cons (h _ _ a) (imp h b)
theorem len : ∀ {l : List α} {m : List β}, All2 R l m → l.length = m.length
  | _, _, .nil => rfl
  | _, _, .cons _ b => by simp [len b]
theorem drop : ∀ (n : Nat) {l : List α} {m : List β}, All2 R l m → All2 R (l.drop n) (m.drop n)
  | 0, _, _, h => h
  | n + 1, _, _, .nil => .nil
  | n + 1, _, _, .cons _ b => drop n b
theorem take : ∀ (n : Nat) {l : List α} {m : List β}, All2 R l m → All2 R (l.take n) (m.take n)
  | 0, _, _, h => .nil
  | n + 1, _, _, .nil => .nil
  | n + 1, _, _, .cons a b => .cons a (take n b)
theorem app : ∀ {l : List α} {m : List β} {l' : List α} {m' : List β}, All2 R l m → All2 R l' m' → All2 R (l ++ l') (m ++ m')
  | _, _, _, _, .nil, h => h
  | _, _, _, _, .cons a b, h => .cons a (app b h)
theorem splice {off : Nat} {n o : List α} {n' o' : List β} (h : All2 R n n') (h' : All2 R o o') : All2 R (E.splice off n o) (E.splice off n' o') := by
  unfold E.splice
  rw [h.len]
  exact ((h'.take _).app h).app (h'.drop _)
theorem at_ : ∀ {l : List α} {m : List β} (i : Nat) {b : β}, All2 R l m → m[i]? = some b → ∃ a, l[i]? = some a ∧ R a b
  | _, _, i, b, .nil, h => by simp at h
  | _, _, 0, b, .cons a _, h => by simp at h; subst h; exact ⟨_, rfl, a⟩
  | _, _, i + 1, b, .cons _ r, h => at_ i r h
end All2
def reps {α : Type} (R : α → List Value → Prop) (sz : Nat) : List α → List Value → Prop
  | [], cs => cs = []
  | x :: l, cs => ∃ c0 c1, cs = c0 ++ c1 ∧ c0.length = sz ∧ R x c0 ∧ reps R sz l c1
section
variable {α : Type} {R R' : α → List Value → Prop} {sz : Nat}
theorem reps_imp (h : ∀ x c, R x c → R' x c) : ∀ {l : List α} {cs : List Value}, reps R sz l cs → reps R' sz l cs
  | [], _, h' => h'
  | x :: l, _, ⟨c0, c1, e, hl, hx, hr⟩ => ⟨c0, c1, e, hl, h _ _ hx, reps_imp h hr⟩
theorem reps_len : ∀ {l : List α} {cs : List Value}, reps R sz l cs → cs.length = l.length * sz
  | [], _, h => by simp [reps] at h; simp [h]
  | x :: l, _, ⟨c0, c1, e, hl, hx, hr⟩ => by rw [e, List.length_append, hl, reps_len hr, List.length_cons, Nat.add_mul]; omega
theorem reps_app : ∀ {l m : List α} {cs ds : List Value}, reps R sz l cs → reps R sz m ds → reps R sz (l ++ m) (cs ++ ds)
  | [], m, _, ds, h, h' => by simp [reps] at h; simpa [h] using h'
  | x :: l, m, _, ds, ⟨c0, c1, e, hl, hx, hr⟩, h' => ⟨c0, c1 ++ ds, by rw [e, List.append_assoc], hl, hx, reps_app hr h'⟩
theorem reps_at : ∀ {l : List α} {cs : List Value} (j : Nat) {x : α}, reps R sz l cs → l[j]? = some x → ∃ p c q, cs = p ++ c ++ q ∧ p.length = j * sz ∧ c.length = sz ∧ R x c
  | [], _, j, x, _, h => by simp at h
  | y :: l, _, 0, x, ⟨c0, c1, e, hl, hx, hr⟩, h => by
    simp at h; subst h
    exact ⟨[], c0, c1, by simp [e], by simp, hl, hx⟩
  | y :: l, _, j + 1, x, ⟨c0, c1, e, hl, hx, hr⟩, h => by
    obtain ⟨p, c, q, e', hp, hc, hR⟩ := reps_at j hr (by simpa using h)
    exact ⟨c0 ++ p, c, q, by rw [e, e']; simp [List.append_assoc], by rw [List.length_append, hl, hp, Nat.add_mul]; omega, hc, hR⟩
theorem reps_set : ∀ {l : List α} {cs : List Value} (j : Nat) {x : α} {c : List Value}, reps R sz l cs → j < l.length → c.length = sz → R x c → reps R sz (l.set j x) (splice (j * sz) c cs)
  | [], _, j, x, c, _, h, _, _ => by simp at h
  | y :: l, _, 0, x, c, ⟨c0, c1, e, hl, hx, hr⟩, h, hc, hR => by
    refine ⟨c, c1, ?_, hc, hR, hr⟩
    unfold splice
    rw [e, Nat.zero_mul, Nat.zero_add, List.take_zero, List.nil_append, hc, ← hl, List.drop_left]
  | y :: l, _, j + 1, x, c, ⟨c0, c1, e, hl, hx, hr⟩, h, hc, hR => by
    refine ⟨c0, splice (j * sz) c c1, ?_, hl, hx, reps_set j hr (by simpa using h) hc hR⟩
    unfold splice
    rw [e, show (j + 1) * sz = c0.length + j * sz by rw [hl, Nat.add_mul]; omega, List.take_length_add_append, Nat.add_assoc, List.drop_length_add_append, List.append_assoc, List.append_assoc, List.append_assoc]
theorem reps_take : ∀ {l : List α} {cs : List Value} (n : Nat), reps R sz l cs → reps R sz (l.take n) (cs.take (n * sz))
  | [], _, n, h => by simp [reps] at h; simp [h, reps]
  | x :: l, _, 0, _ => by simp [reps]
  | x :: l, _, n + 1, ⟨c0, c1, e, hl, hx, hr⟩ => ⟨c0, c1.take (n * sz), by rw [e, show (n + 1) * sz = c0.length + n * sz by rw [hl, Nat.add_mul]; omega, List.take_length_add_append], hl, hx, reps_take n hr⟩
theorem reps_drop : ∀ {l : List α} {cs : List Value} (n : Nat), reps R sz l cs → reps R sz (l.drop n) (cs.drop (n * sz))
  | [], _, n, h => by simp [reps] at h; simp [h, reps]
  | x :: l, _, 0, h => by simpa using h
  | x :: l, _, n + 1, ⟨c0, c1, e, hl, hx, hr⟩ => by
    rw [e, show (n + 1) * sz = c0.length + n * sz by rw [hl, Nat.add_mul]; omega, List.drop_length_add_append, List.drop_succ_cons]
    exact reps_drop n hr
theorem reps_rep (x : α) (c : List Value) (hc : c.length = sz) (hR : R x c) : ∀ n, reps R sz (List.replicate n x) (List.replicate n c).flatten
  | 0 => rfl
  | n + 1 => ⟨c, (List.replicate n c).flatten, by rw [List.replicate_succ, List.flatten_cons], hc, hR, reps_rep x c hc hR n⟩
end
def cellsAt (w : World) (g o : Nat) (cs : List Value) : Prop := ∃ cur t fr, w.heap[g]? = some (.cells cur t fr) ∧ ∀ (j : Nat) (u : Value), cs[j]? = some u → cur[o + j]? = some u
theorem cellsAt.move {w w1 : World} {g o : Nat} {cs : List Value} (h : cellsAt w g o cs) (he : w1.heap[g]? = w.heap[g]?) : cellsAt w1 g o cs := by
  obtain ⟨cur, t, fr, h1, h2⟩ := h
  exact ⟨cur, t, fr, he.trans h1, h2⟩
theorem cellsAt.mid {w : World} {g o : Nat} {p c q : List Value} (h : cellsAt w g o (p ++ c ++ q)) : cellsAt w g (o + p.length) c := by
  obtain ⟨cur, t, fr, h1, h2⟩ := h
  refine ⟨cur, t, fr, h1, fun j u hu => ?_⟩
  have hj : j < c.length := (List.getElem?_eq_some_iff.1 hu).1
  rw [Nat.add_assoc]
  refine h2 _ _ ?_
  rw [List.append_assoc, List.getElem?_append_right (by omega), List.getElem?_append_left (by omega)]
  rw [show p.length + j - p.length = j by omega]
  exact hu
theorem cellsAt.cell {w : World} {g o : Nat} {cs : List Value} (h : cellsAt w g o cs) (j : Nat) (u : Value) (hu : cs[j]? = some u) : w.cell? ⟨g, o + j, none⟩ = some u := by
  obtain ⟨cur, t, fr, h1, h2⟩ := h
  simp [World.cell?, h1, h2 j u hu]
theorem cellsAt.sub {w : World} {g o : Nat} {cs : List Value} (h : cellsAt w g o cs) (n m : Nat) : cellsAt w g (o + n) ((cs.drop n).take m) := by
  obtain ⟨cur, t, fr, h1, h2⟩ := h
  refine ⟨cur, t, fr, h1, fun j u hu => ?_⟩
  rw [Nat.add_assoc]
  refine h2 _ _ ?_
  rw [List.getElem?_take] at hu
  split at hu
  · rwa [List.getElem?_drop] at hu
  · cases hu
structure Env (T : Tys) where
  w : World
  β : Nat → Value
  ok : Nat → Nat → Prop
  ob : Ob T
  U : Nat → Prop
def Env.Fd {T : Tys} (e : Env T) (d : Dp) (k : Nat) : Prop := ∃ p, p ∈ d ∧ e.ok p.1 k
def dlt (U : Nat → Prop) (d : Dp) : Prop := ∀ p, p ∈ d → U p.1 ∧ U p.2
structure Kind (S : Sig) where
  rep : (t : TypeId) → (Nat → Prop) → World → S.T t → List Value → Prop
section
variable {S : Sig} (Q : Kind S)
def Rd (t : TypeId) (F : Nat → Prop) (w : World) (v : Value) (l : List (S.T t)) : Prop :=
  ∃ A c, v = .slice A l.length c ∧ l.length ≤ c ∧ (l ≠ [] → ∃ g o cs, A = some ⟨g, o, none⟩ ∧ F g ∧ cellsAt w g o cs ∧ reps (Q.rep t F w) (S.sz t) l cs)
def hdrAt (e : Env S.T) (i sz c : Nat) (j : Int) (v : Value) : Prop := ∃ g m cp, e.β i = .slice (some ⟨g, 0, none⟩) m cp ∧ j.toNat < m ∧ e.w.cell? ⟨g, j.toNat * sz + c, none⟩ = some v
def RE (t : TypeId) (c : Nat) (te : TypeId) (w : World) (F : Nat → Prop) (x : S.T t) (cs : List Value) : Prop := Q.rep t F w (S.ax.ssl t c te x []) (cs.set c (.slice none 0 0))
def OE (t : TypeId) (c : Nat) (te : TypeId) (w : World) (B : Nat → Prop) (x : S.T t) (cs : List Value) : Prop :=
  ∃ v cj, cs[c]? = some v ∧ w.ownsRow 0 te (S.sz te) v (S.ax.gsl t c te x).length cj ∧ reps (Q.rep te (fun _ => False) w) (S.sz te) (S.ax.gsl t c te x) cj ∧ ∀ k, v.ownBlock = some k → B k
def hold (e : Env S.T) (v : Value) : SC S.T → Prop
  | .int k n => v = .int k n
  | .bool b => v = .bool b
  | .str s => v = .string s
  | .nil => v = .slice none 0 0
  | .rd t d l => dlt e.U d ∧ v.oneCell' = true ∧ (valid e.ob d = true → Rd Q t (e.Fd d) e.w v l)
  | .row i => e.U i ∧ v = e.β i
  | .cut i n => e.U i ∧ 0 ≤ n ∧ ∃ A m c, e.β i = .slice A m c ∧ n.toNat ≤ m ∧ v = .slice A n.toNat c
  | .ptr i off => e.U i ∧ ∃ g, e.β i = .pointer (some ⟨g, 0, none⟩) ∧ v = .pointer (some ⟨g, off, none⟩)
  | .elt i t j off => e.U i ∧ 0 ≤ j ∧ ∃ g m c, e.β i = .slice (some ⟨g, 0, none⟩) m c ∧ j.toNat < m ∧ v = .pointer (some ⟨g, j.toNat * S.sz t + off, none⟩)
  | .elr t d x off => dlt e.U d ∧ v.oneCell' = true ∧ (valid e.ob d = true → ∃ g o cs, v = .pointer (some ⟨g, o + off, none⟩) ∧ e.Fd d g ∧ cellsAt e.w g o cs ∧ cs.length = S.sz t ∧ Q.rep t (e.Fd d) e.w x cs)
  | .fn f caps => (∀ i, i ∈ caps → e.U i) ∧ v = .func (.func f) #[] (caps.map e.β).toArray
  | .np => v = .pointer none
  | .z0 => ∃ A, v = .slice A 0 0
  | .sub i sv j => e.U i ∧ e.U sv ∧ 0 ≤ j ∧ v.oneCell' = true ∧ ∀ s t c te d l h, lookB i e.ob = some (s, .deep t c te d sv l h) → hdrAt e i (S.sz t) c j v
  | .sel i sv j k off => e.U i ∧ e.U sv ∧ 0 ≤ j ∧ 0 ≤ k ∧ v.oneCell' = true ∧ ∀ s t c te d l h, lookB i e.ob = some (s, .deep t c te d sv l h) →
      ∃ g m cp, hdrAt e i (S.sz t) c j (.slice (some ⟨g, 0, none⟩) m cp) ∧ k.toNat < m ∧ v = .pointer (some ⟨g, k.toNat * S.sz te + off, none⟩)
  | .mp i => e.U i ∧ v = e.β i
  | .tail i t n => e.U i ∧ 0 ≤ n ∧ ∃ A m c, e.β i = .slice A m c ∧ n.toNat ≤ m ∧ ∃ A' c', v = .slice A' (m - n.toNat) c' ∧ m - n.toNat ≤ c' ∧ (n.toNat < m → ∃ g, A = some ⟨g, 0, none⟩ ∧ A' = some ⟨g, n.toNat * S.sz t, none⟩)
  | .un => True
def holdV (e : Env S.T) (v : Value) : SV S.T → Prop
  | .c x => hold Q e v x
  | .agg xs => ∃ vs : List Value, v = .agg vs.toArray ∧ All2 (hold Q e) vs xs
def holdX (e : Env S.T) (v : Value) : SX S.T → Prop
  | .v x => holdV Q e v x
  | .tup xs => ∃ vs : List Value, v = .tuple vs.toArray ∧ All2 (holdV Q e) vs xs
def objHold (e : Env S.T) (i : Nat) : SO S.T → Prop
  | .ext => True
  | .var t cs => ∃ g vs, e.β i = .pointer (some ⟨g, 0, none⟩) ∧ e.ok i g ∧ e.w.heap[g]? = some (.cells (List.toArray vs) t (0, 0)) ∧ All2 (hold Q e) vs cs
  | .row t d l => dlt e.U d ∧ (∀ k, (e.β i).ownBlock = some k → e.ok i k) ∧ ∃ cs, e.w.ownsRow 0 t (S.sz t) (e.β i) l.length cs ∧
      (valid e.ob d = true → reps (Q.rep t (fun k => (e.ok i k ∧ some k ≠ (e.β i).ownBlock) ∨ e.Fd d k) e.w) (S.sz t) l cs)
  | .deep t c te d sv l h => S.xc t = some (c, te) ∧ S.flat te = true ∧ dlt e.U d ∧ e.U sv ∧ (∀ k, (e.β i).ownBlock = some k → e.ok i k) ∧ ∃ cs, e.w.ownsRow 0 t (S.sz t) (e.β i) l.length cs ∧
      ∃ (B : Nat → Nat → Prop) (R : Nat → Prop), (∀ j k, B j k → e.ok i k ∧ some k ≠ (e.β i).ownBlock) ∧ (∀ j j' k, B j k → B j' k → j = j') ∧ (∀ k, R k → e.ok i k ∧ some k ≠ (e.β i).ownBlock ∧ ∀ j, ¬ B j k) ∧
        (valid e.ob d = true → ∀ j x, l[j]? = some x → RE Q t c te e.w (fun k => R k ∨ e.Fd d k) x ((cs.drop (j * S.sz t)).take (S.sz t)) ∧ (h ≠ some (j : Int) → OE Q t c te e.w (B j) x ((cs.drop (j * S.sz t)).take (S.sz t))))
  | .mp kk l => ∃ g es clock, e.β i = .map (some g) ∧ e.ok i g ∧ e.w.heap[g]? = some (.map es clock) ∧ All2 (fun (en : MapEntry) (p : Int × Bool) => en.key = .int kk p.1 ∧ en.val = .bool p.2) es.toList l
def Env.own (e : Env S.T) (k : Nat) : Prop := ∃ i s so, lookB i e.ob = some (s, so) ∧ so ≠ .ext ∧ e.ok i k
structure Inv (e : Env S.T) : Prop where
  obj : ∀ i s so, lookB i e.ob = some (s, so) → e.U i ∧ e.U s ∧ objHold Q e i so
  one : ∀ i, (e.β i).oneCell' = true
  zero : e.U 0
  z0 : ∀ s so, lookB 0 e.ob = some (s, so) → so = .ext
  lt : ∀ i s so, lookB i e.ob = some (s, so) → ∀ k, e.ok i k → k < e.w.heap.size
  dis : ∀ i j s s' so so', lookB i e.ob = some (s, so) → lookB j e.ob = some (s', so') → i ≠ j → ∀ k, e.ok i k → e.ok j k → False
structure Le (e e' : Env S.T) : Prop where
  hold : ∀ v c, hold Q e v c → hold Q e' v c
  U : ∀ a, e.U a → e'.U a
  os : e'.w.os = e.w.os
  tape : e'.w.tape = e.w.tape
  output : e'.w.output = e.w.output
  size : e.w.heap.size ≤ e'.w.heap.size
  chg : ∀ k, k < e.w.heap.size → ¬ e.own k → e'.w.heap[k]? = e.w.heap[k]?
  own : ∀ k, e'.own k → e.own k ∨ e.w.heap.size ≤ k
  ext : ∀ k, e'.ok 0 k → e.ok 0 k
theorem Le.refl (e : Env S.T) : Le Q e e := ⟨fun _ _ h => h, fun _ h => h, rfl, rfl, rfl, Nat.le_refl _, fun _ _ _ => rfl, fun _ h => .inl h, fun _ h => h⟩
theorem Le.trans {e e1 e2 : Env S.T} (h : Le Q e e1) (k : Le Q e1 e2) : Le Q e e2 where
  hold := fun v c hv => k.hold v c (h.hold v c hv)
  U := fun a ha => k.U a (h.U a ha)
  os := k.os.trans h.os
  tape := k.tape.trans h.tape
  output := k.output.trans h.output
  size := Nat.le_trans h.size k.size
  chg := fun j hj hn => (k.chg j (Nat.lt_of_lt_of_le hj h.size) (fun ho => (h.own j ho).elim hn (fun hl => by omega))).trans (h.chg j hj hn)
  own := fun j ho => (k.own j ho).elim (h.own j) (fun hl => .inr (Nat.le_trans h.size hl))
  ext := fun j hj => h.ext j (k.ext j hj)
theorem Le.holdV {e e' : Env S.T} (h : Le Q e e') {v : Value} : ∀ {x : SV S.T}, holdV Q e v x → holdV Q e' v x
  | .c _, hv => h.hold _ _ hv
  | .agg _, ⟨vs, e1, hv⟩ => ⟨vs, e1, hv.imp h.hold⟩
theorem Le.holdX {e e' : Env S.T} (h : Le Q e e') {v : Value} : ∀ {x : SX S.T}, holdX Q e v x → holdX Q e' v x
  | .v _, hv => h.holdV _ hv
  | .tup _, ⟨vs, e1, hv⟩ => ⟨vs, e1, hv.imp fun _ _ => h.holdV _⟩
end
structure TDok (P : Program) (t : TypeId) (d : TD) : Prop where
  info : ∃ i, P.info? t = some i ∧ i.size = d.size ∧ i.bytes = d.bytes ∧ ∃ z, i.zero = some z ∧ z.cells = (d.zero.map ZC.val).toArray
  zlen : d.zero.length = d.size
  agg : ∃ u, P.underlying t = some u ∧ (match u with | .struct _ => true | .array _ _ => true | _ => false) = d.agg
  fields : d.fields ≠ [] → ∃ fs : Array Field, P.underlying t = some (.struct fs) ∧ fs.toList.mapM (fun f => (P.info? f.type).map fun i => (f.offset, i.size)) = some (d.fields.map fun p => (p.1, p.2.2)) ∧
    fs.toList.map (fun f => (f.offset, f.type)) = d.fields.map fun p => (p.1, p.2.1)
  st : d.st = true → P.underlying t = some .string
  bo : d.bo = true → P.underlying t = some .bool
  elem : ∀ e, d.elem = some e → P.underlying t = some (.slice e)
  ik : ∀ k, d.ik = some k → P.underlying t = some (.int k)
structure EqOk (P : Program) (t : TypeId) (d : TD) : Prop where
  held : P.stoodInHeld t = false
  guard : P.eqGuardType P.depth t = false
  st : P.underlying t = some (.struct (P.fieldsOf t))
  nm : ∀ f, f ∈ (P.fieldsOf t).toList → f.name ≠ "_"
  fs : (P.fieldsOf t).toList.map (fun f => (f.offset, f.type)) = d.fields.map fun p => (p.1, p.2.1)
structure Pre (S : Sig) (Q : Kind S) : Prop where
  mono : ∀ t F F' w x cs, (∀ k, F k → F' k) → Q.rep t F w x cs → Q.rep t F' w x cs
  move : ∀ t F w w1 x cs, (∀ k, F k → w1.heap[k]? = w.heap[k]?) → Q.rep t F w x cs → Q.rep t F w1 x cs
  len : ∀ t F w x cs, Q.rep t F w x cs → cs.length = S.sz t
  one : ∀ t F w x cs, Q.rep t F w x cs → ∀ u, u ∈ cs → u.oneCell' = true
  flat : ∀ t F F' w w1 x cs, S.flat t = true → Q.rep t F w x cs → Q.rep t F' w1 x cs
  split : ∀ t c te F w x cs, S.xc t = some (c, te) → Q.rep t F w x cs → ∃ v, cs[c]? = some v ∧ v.oneCell' = true ∧ Q.rep t F w (S.ax.ssl t c te x []) (cs.set c (.slice none 0 0)) ∧ Rd Q te F w v (S.ax.gsl t c te x)
  join : ∀ t c te F w x cs v m, S.xc t = some (c, te) → cs[c]? = some v → v.oneCell' = true → Q.rep t F w (S.ax.ssl t c te x []) (cs.set c (.slice none 0 0)) → Rd Q te F w v m → Q.rep t F w (S.ax.ssl t c te x m) cs
  gs : ∀ t c te x m, S.xc t = some (c, te) → S.ax.gsl t c te (S.ax.ssl t c te x m) = m
  ss : ∀ t c te x m m', S.ax.ssl t c te (S.ax.ssl t c te x m) m' = S.ax.ssl t c te x m'
  sg : ∀ t c te x, S.ax.ssl t c te x (S.ax.gsl t c te x) = x
  xsz : ∀ t c te, S.xc t = some (c, te) → c < S.sz t
structure Laws (S : Sig) (Q : Kind S) : Prop extends Pre S Q where
  td : ∀ t d, S.td t = some d → TDok S.P t d
  eqs : ∀ t d, S.td t = some d → d.eq = true → EqOk S.P t d
  out : ∀ t (e : Env S.T) d x cs, dlt e.U d → valid e.ob d = true → Q.rep t (e.Fd d) e.w x cs → All2 (hold Q e) cs (S.out t d x)
  mpk : ∀ t kk, S.mpk t = some kk → ∃ k e, S.P.underlying t = some (.map k e) ∧ S.P.underlying k = some (.int kk) ∧ ∃ i, S.P.info? e = some i ∧ i.zero = some (.bool false)
  stps : ∀ t c te x off ps x' m, S.stp t x off ps = some x' → S.stp t (S.ax.ssl t c te x m) off ps = some (S.ax.ssl t c te x' m) ∧ S.ax.gsl t c te x' = S.ax.gsl t c te x
  stp : ∀ t F w x cs off ps (e : Env S.T) vs x', Q.rep t F w x cs → S.stp t x off ps = some x' → All2 (hold Q e) vs ps → Q.rep t F w x' (splice off vs cs)
  inn : ∀ t (e : Env S.T) cs vs x d, Inv Q e → S.inn t e.ob cs = some (x, d) → All2 (hold Q e) vs cs → dlt e.U d ∧ valid e.ob d = true ∧ Q.rep t (e.Fd d) e.w x vs
end Go.Proofs.Ytheemkehedmlfaa.E
