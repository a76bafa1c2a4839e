import Derived.Test.YtheemkehedmlfaaF13
set_option linter.unusedVariables false
set_option linter.unusedSimpArgs false
namespace Go.Proofs.Ytheemkehedmlfaa.E
open Go
section
variable {S : Sig}
def isTmp (d : Nat) : Operand → Bool | .tmp t => Nat.beq t d | _ => false
def dstIs (d : Nat) (o : Oper) : Bool := match o.dst with | some d' => Nat.beq d' d | none => false
def mvOp (o : Oper) : Option (Nat × Operand) := match o.op, o.guard, o.dst with
  | .move x, none, some d => bif o.after.toList.all (fun e => !(Region.binds .any e)) then some (d, x) else none
  | _, _, _ => none
def apartL (L : List Oper) (i d : Nat) (x : Operand) (j : Nat) (o : Oper) : Bool :=
  Nat.beq j i || (!(match o.guard with | some (g, _) => Nat.beq g i || !(Nat.blt g j) | none => false) &&
    ((o.after.toList.any fun e => Region.binds .any e && Nat.beq e.on i) ||
      (!(o.op.operands.toList.any (isTmp d)) && !(dstIs d o) && !(match o.dst with | some d' => isTmp d' x | none => false) &&
        !(match o.guard with | some (g, _) => (match L[g]? with | some og => dstIs d og | none => false) | none => false))))
def apartAll (L : List Oper) (i d : Nat) (x : Operand) : Nat → List Oper → Bool
  | _, [] => true
  | j, o :: r => apartL L i d x j o && apartAll L i d x (j + 1) r
def floats (L : List Oper) : Nat → List Oper → List (Nat × Nat × Operand)
  | _, [] => []
  | i, o :: r => match mvOp o with
    | some (d, x) => bif apartAll L i d x 0 L then (i, d, x) :: floats L (i + 1) r else floats L (i + 1) r
    | none => floats L (i + 1) r
def cntF (fl : List Nat) : Nat → Nat → Nat
  | _, 0 => 0
  | i, k + 1 => (bif hasN i fl then 0 else 1) + cntF fl (i + 1) k
def newIx (fl : List Nat) (j : Nat) : Nat := cntF fl 0 j
def remap (fl : List Nat) (o : Oper) : Oper := { o with
  after := ((o.after.toList.filter fun e => !(hasN e.on fl)).map fun e => { e with on := newIx fl e.on }).toArray,
  guard := o.guard.map fun g => (newIx fl g.1, g.2) }
def remapL (fl : List Nat) : Nat → List Oper → List Oper
  | _, [] => []
  | i, o :: r => bif hasN i fl then remapL fl (i + 1) r else remap fl o :: remapL fl (i + 1) r
def putF (σ : St S.T) : List (Nat × Nat × Operand) → St S.T
  | [] => σ
  | p :: r => putF (σ.put p.2.1 (σ.opd p.2.2)) r
def backOk : Nat → List Oper → Bool
  | _, [] => true
  | i, o :: r => edgesOk i o.after.toList && backOk (i + 1) r
def drawQ (B : Tb S) (I : Inl S) (ops : Array Oper) (σ : St S.T) : Tr (St S.T) :=
  match floats ops.toList 0 ops.toList with
  | [] => drawR B I ops σ
  | F => guardT (edgesAll 0 ops.toList && noDup (F.map (·.1)) && F.all fun p => Nat.blt p.2.1 σ.n) <|
    (fun ops2 : List Oper => guardT (edgesAll 0 ops2) <| forceL (befL [] ops2) fun bef => forceN ops2.length fun n => drawS B I ops2.toArray bef n n 0 ops2 (putF σ F)) (remapL (F.map (·.1)) 0 ops.toList)
end
theorem cntF_app (fl : List Nat) : ∀ (a i b : Nat), cntF fl i (a + b) = cntF fl i a + cntF fl (i + a) b
  | 0, i, b => by simp [cntF]
  | a + 1, i, b => by
    rw [show a + 1 + b = (a + b) + 1 by omega]
    simp only [cntF]
    rw [cntF_app fl a (i + 1) b, show i + 1 + a = i + (a + 1) by omega, Nat.add_assoc]
theorem cntF_lt {fl : List Nat} {j k : Nat} (h : j < k) (hj : hasN j fl = false) : newIx fl j < newIx fl k := by
  unfold newIx
  obtain ⟨b, rfl⟩ : ∃ b, k = j + (b + 1) := ⟨k - j - 1, by omega⟩
  rw [cntF_app, Nat.zero_add]
  simp only [cntF, hj, cond_false]
  omega
theorem newIx_inj {fl : List Nat} {j k : Nat} (hj : hasN j fl = false) (hk : hasN k fl = false) (h : newIx fl j = newIx fl k) : j = k := by
  rcases Nat.lt_trichotomy j k with h1 | h1 | h1
  · have := cntF_lt h1 hj; omega
  · exact h1
  · have := cntF_lt h1 hk; omega
theorem cntF_cons {i : Nat} {r : List Nat} (h : hasN i r = false) : ∀ (k a : Nat), cntF (i :: r) a k + (if a ≤ i ∧ i < a + k then 1 else 0) = cntF r a k
  | 0, a => by rw [if_neg (by omega)]; rfl
  | k + 1, a => by
    have ih := cntF_cons h k (a + 1)
    simp only [cntF, hasN]
    cases hb : Nat.beq a i with
    | true =>
      have := beq_eq' hb
      subst this
      rw [if_neg (by omega)] at ih
      rw [if_pos (by omega), h]
      simp only [cond_true, cond_false]
      omega
    | false =>
      have : a ≠ i := fun e => by rw [e, Nat.beq_refl] at hb; cases hb
      simp only [cond_false]
      by_cases hc : a + 1 ≤ i ∧ i < a + 1 + k
      · rw [if_pos hc] at ih
        rw [if_pos (by omega)]
        omega
      · rw [if_neg hc] at ih
        rw [if_neg (by omega)]
        omega
theorem cnt_dup : ∀ (n : Nat) (fl : List Nat), noDup fl = true → (∀ k, k ∈ fl → k < n) → newIx fl n + fl.length = n
  | n, [], _, _ => by
    have : ∀ k a, cntF [] a k = k := by
      intro k
      induction k with
      | zero => exact fun _ => rfl
      | succ k ih => intro a; simp only [cntF, hasN, cond_false, ih]; omega
    simp [newIx, this]
  | n, i :: r, hd, h => by
    simp only [noDup, Bool.and_eq_true, Bool.not_eq_true'] at hd
    have ih := cnt_dup n r hd.2 fun k hk => h k (List.mem_cons_of_mem _ hk)
    have h1 := cntF_cons hd.1 n 0
    rw [if_pos ⟨Nat.zero_le _, by have := h i List.mem_cons_self; omega⟩] at h1
    unfold newIx at ih ⊢
    rw [List.length_cons]
    omega
theorem remapL_at {fl : List Nat} : ∀ {r : List Oper} {i k : Nat} {o : Oper}, r[k]? = some o → hasN (i + k) fl = false → (remapL fl i r)[cntF fl i k]? = some (remap fl o)
  | [], i, k, o, h, _ => by simp at h
  | o' :: r, i, 0, o, h, hn => by
    simp at h
    subst h
    simp only [remapL, Nat.add_zero] at hn ⊢
    simp [hn, cntF]
  | o' :: r, i, k + 1, o, h, hn => by
    have ih := remapL_at (fl := fl) (r := r) (i := i + 1) (k := k) (o := o) (by simpa using h) (by rw [show i + 1 + k = i + (k + 1) by omega]; exact hn)
    simp only [remapL, cntF]
    cases hasN i fl with
    | true => simpa using ih
    | false => simp only [cond_false]; rw [Nat.add_comm 1]; simpa using ih
theorem remapL_of {fl : List Nat} : ∀ {r : List Oper} {i m : Nat} {o2 : Oper}, (remapL fl i r)[m]? = some o2 → ∃ k o, r[k]? = some o ∧ hasN (i + k) fl = false ∧ cntF fl i k = m ∧ o2 = remap fl o
  | [], i, m, o2, h => by simp [remapL] at h
  | o' :: r, i, m, o2, h => by
    simp only [remapL] at h
    cases hb : hasN i fl with
    | true =>
      rw [hb] at h
      obtain ⟨k, o, h1, h2, h3, h4⟩ := remapL_of (show (remapL fl (i + 1) r)[m]? = some o2 from h)
      exact ⟨k + 1, o, by simpa using h1, by rw [show i + (k + 1) = i + 1 + k by omega]; exact h2, by simp [cntF, hb, h3], h4⟩
    | false =>
      rw [hb] at h
      simp only [cond_false] at h
      cases m with
      | zero =>
        simp at h
        exact ⟨0, o', rfl, hb, rfl, h.symm⟩
      | succ m =>
        obtain ⟨k, o, h1, h2, h3, h4⟩ := remapL_of (show (remapL fl (i + 1) r)[m]? = some o2 by simpa using h)
        exact ⟨k + 1, o, by simpa using h1, by rw [show i + (k + 1) = i + 1 + k by omega]; exact h2, by simp [cntF, hb, h3, Nat.add_comm], h4⟩
theorem remapL_len {fl : List Nat} : ∀ {r : List Oper} {i : Nat}, (remapL fl i r).length = cntF fl i r.length
  | [], i => rfl
  | o :: r, i => by
    simp only [remapL, List.length_cons, cntF]
    cases hasN i fl with
    | true => simp [remapL_len (r := r)]
    | false => simp [remapL_len (r := r), Nat.add_comm]
structure Rl (ops : Array Oper) (fl : List Nat) (listed listed2 : Array Bool) : Prop where
  sz : listed.size = ops.toList.length
  sz2 : listed2.size = newIx fl ops.toList.length
  lst : ∀ k, hasN k fl = true → k < ops.toList.length → listed.getD k false = true
  at_ : ∀ k, hasN k fl = false → k < ops.toList.length → listed.getD k false = listed2.getD (newIx fl k) false
theorem getD_any {l : Array Bool} {k : Nat} (h : k < l.size) (a b : Bool) : l.getD k a = l.getD k b := by simp [h]
theorem binds_on (md : Region.Mode) (e : Edge) (n : Nat) : Region.binds md { e with on := n } = Region.binds md e := rfl
theorem ready_iff {ops : Array Oper} {fl : List Nat} (hea : edgesAll 0 ops.toList = true) {listed listed2 : Array Bool} (R : Rl ops fl listed listed2) {j : Nat} {o : Oper} (ho : ops.toList[j]? = some o) (hj : hasN j fl = false) :
    j ∈ Region.ready .any ops listed ↔ newIx fl j ∈ Region.ready .any (remapL fl 0 ops.toList).toArray listed2 := by
  have hlt : j < ops.toList.length := (List.getElem?_eq_some_iff.1 ho).1
  have hlt2 : newIx fl j < listed2.size := by rw [R.sz2]; exact cntF_lt hlt hj
  have hat := remapL_at (fl := fl) (i := 0) ho (by rwa [Nat.zero_add])
  have hedg : edgesOk j o.after.toList = true := by have := edgesAll_at hea ho; rwa [Nat.zero_add] at this
  rw [mem_ready, mem_ready]
  have e1 : listed.getD j true = listed2.getD (newIx fl j) true := by
    rw [getD_any (by rw [R.sz]; exact hlt) true false, getD_any hlt2 true false]
    exact R.at_ j hj hlt
  constructor
  · rintro ⟨h1, o', h2, h3⟩
    have h2 : ops.toList[j]? = some o' := by simpa using h2
    rw [ho] at h2
    cases h2
    refine ⟨by rw [← e1]; exact h1, remap fl o, by simpa [newIx] using hat, fun e he hb => ?_⟩
    simp only [remap, List.mem_toArray, List.mem_map, List.mem_filter, Bool.not_eq_true'] at he
    obtain ⟨e0, ⟨he0, hn⟩, rfl⟩ := he
    have hel := edges_lt hedg e0 he0 hb
    rw [← R.at_ e0.on hn (by omega)]
    exact h3 e0 (by simpa using he0) hb
  · rintro ⟨h1, o', h2, h3⟩
    have h2 : (remapL fl 0 ops.toList)[newIx fl j]? = some o' := by simpa using h2
    rw [show newIx fl j = cntF fl 0 j from rfl, hat] at h2
    cases h2
    refine ⟨by rw [e1]; exact h1, o, by simpa using ho, fun e he hb => ?_⟩
    have hel := edges_lt hedg e (by simpa using he) hb
    cases hn : hasN e.on fl with
    | true => exact R.lst e.on hn (by omega)
    | false =>
      rw [R.at_ e.on hn (by omega)]
      refine h3 { e with on := newIx fl e.on } ?_ hb
      simp only [remap, List.mem_toArray, List.mem_map, List.mem_filter, Bool.not_eq_true']
      exact ⟨e, ⟨by simpa using he, hn⟩, rfl⟩
def gdF (fl : List Nat) (L : List Oper) : Prop := ∀ (j : Nat) (o : Oper) (g : Nat) (w : Bool), L[j]? = some o → o.guard = some (g, w) → hasN g fl = false ∧ g < L.length
theorem wpOp_remap {P : Program} {ops : Array Oper} {fl : List Nat} {R : Exit → Act → World → Prop} (hg : gdF fl ops.toList) {j : Nat} {o : Oper} (ho : ops.toList[j]? = some o) (hj : hasN j fl = false) {K : Act → World → Prop} {a : Act} {w : World}
    (h : wpOp P (remapL fl 0 ops.toList).toArray R (newIx fl j) K a w) : wpOp P ops R j K a w := by
  have hat := remapL_at (fl := fl) (i := 0) ho (by rwa [Nat.zero_add])
  unfold wpOp at h ⊢
  rw [show ops[j]? = some o by simpa using ho]
  rw [show (remapL fl 0 ops.toList).toArray[newIx fl j]? = some (remap fl o) by simpa [newIx] using hat] at h
  simp only at h ⊢
  have hw : Region.wanted (remap fl o) (yielded (remapL fl 0 ops.toList).toArray a.tmps) = Region.wanted o (yielded ops a.tmps) := by
    unfold Region.wanted
    show (match o.guard.map fun g => (newIx fl g.1, g.2) with | none => true | some (j, want) => yielded _ a.tmps j == some want) = _
    cases hgd : o.guard with
    | none => rfl
    | some gw =>
      obtain ⟨g, want⟩ := gw
      obtain ⟨g1, g2⟩ := hg j o g want ho hgd
      obtain ⟨og, hog⟩ : ∃ og, ops.toList[g]? = some og := ⟨_, List.getElem?_eq_getElem g2⟩
      have hag := remapL_at (fl := fl) (i := 0) hog (by rwa [Nat.zero_add])
      show (yielded _ a.tmps (newIx fl g) == some want) = (yielded ops a.tmps g == some want)
      unfold yielded
      rw [show (remapL fl 0 ops.toList).toArray[newIx fl g]? = some (remap fl og) by simpa [newIx] using hag, show ops[g]? = some og by simpa using hog]
      rfl
  rw [hw] at h
  exact h
theorem any_remap {P : Program} {ops : Array Oper} {fl : List Nat} {R : Exit → Act → World → Prop} (hea : edgesAll 0 ops.toList = true) (hg : gdF fl ops.toList) : ∀ (fuel : Nat) (listed listed2 : Array Bool) (a : Act) (w : World), Rl ops fl listed listed2 →
    wpAny P .any (remapL fl 0 ops.toList).toArray R fuel listed2 a w → wpAny P .any ops R fuel listed a w := by
  have hno : ∀ {listed listed2 : Array Bool}, Rl ops fl listed listed2 → Region.ready .any ops listed = [] → Region.ready .any (remapL fl 0 ops.toList).toArray listed2 = [] := by
    intro listed listed2 hR h
    rw [List.eq_nil_iff_forall_not_mem]
    intro m hm
    obtain ⟨_, o2, h2, _⟩ := mem_ready.1 hm
    obtain ⟨k, o, h3, h4, h5, _⟩ := remapL_of (show (remapL fl 0 ops.toList)[m]? = some o2 by simpa using h2)
    rw [Nat.zero_add] at h4
    have := (ready_iff hea hR h3 h4).2 (by rw [show newIx fl k = m from h5]; exact hm)
    rw [h] at this
    cases this
  have hyes : ∀ {listed listed2 : Array Bool} {j : Nat}, Rl ops fl listed listed2 → j ∈ Region.ready .any ops listed → ∃ o, ops.toList[j]? = some o ∧ hasN j fl = false ∧ newIx fl j ∈ Region.ready .any (remapL fl 0 ops.toList).toArray listed2 := by
    intro listed listed2 j hR hj
    obtain ⟨h1, o, h2, _⟩ := mem_ready.1 hj
    have ho : ops.toList[j]? = some o := by simpa using h2
    have hlt : j < ops.toList.length := (List.getElem?_eq_some_iff.1 ho).1
    have hn : hasN j fl = false := by
      cases hb : hasN j fl with
      | false => rfl
      | true =>
        have := hR.lst j hb hlt
        rw [getD_any (by rw [hR.sz]; exact hlt) false true, h1] at this
        cases this
    exact ⟨o, ho, hn, (ready_iff hea hR ho hn).1 hj⟩
  intro fuel
  induction fuel with
  | zero =>
    intro listed listed2 a w hR h
    refine ⟨?_, h.2⟩
    rw [List.eq_nil_iff_forall_not_mem]
    intro j hj
    obtain ⟨o, _, _, h3⟩ := hyes hR hj
    rw [h.1] at h3
    cases h3
  | succ fuel ih =>
    intro listed listed2 a w hR h
    refine ⟨fun hr => h.1 (hno hR hr), fun j hj => ?_⟩
    obtain ⟨o, ho, hn, h3⟩ := hyes hR hj
    have hlt : j < ops.toList.length := (List.getElem?_eq_some_iff.1 ho).1
    refine wpOp_remap hg ho hn (wpOp_mono (fun a' w' h' => ih _ _ a' w' ?_ h') (h.2 _ h3))
    refine ⟨by simpa using hR.sz, by simpa using hR.sz2, fun k hk hkl => ?_, fun k hk hkl => ?_⟩
    · have : j ≠ k := by rintro rfl; rw [hn] at hk; cases hk
      rw [getD_set_ne _ this]
      exact hR.lst k hk hkl
    · by_cases he : j = k
      · subst he
        have h4 : j < listed.size := by rw [hR.sz]; exact hlt
        have h5 : newIx fl j < listed2.size := by rw [hR.sz2]; exact cntF_lt hlt hn
        simp [h4, h5]
      · rw [getD_set_ne _ he, getD_set_ne _ fun e => he (newIx_inj hn hk e)]
        exact hR.at_ k hk hkl
theorem mvOp_ok {o : Oper} {d : Nat} {x : Operand} (h : mvOp o = some (d, x)) : o.op = .move x ∧ o.guard = none ∧ o.dst = some d ∧ ∀ e, e ∈ o.after.toList → Region.binds .any e = false := by
  unfold mvOp at h
  split at h
  · rename_i x' d' h1 h2 h3
    obtain ⟨h4, h5⟩ := bif_some h
    simp only [Option.some.injEq, Prod.mk.injEq] at h5
    obtain ⟨rfl, rfl⟩ := h5
    refine ⟨h1, h2, h3, fun e he => ?_⟩
    have := List.all_eq_true.1 h4 e he
    simpa using this
  · cases h
theorem isTmp_eq {d : Nat} {x : Operand} : isTmp d x = true ↔ x = .tmp d := by
  cases x with
  | tmp t => simp only [isTmp, Operand.tmp.injEq]; exact ⟨fun h => beq_eq' h, fun h => by rw [h]; exact Nat.beq_refl d⟩
  | _ => simp [isTmp]
theorem dstIs_eq {d : Nat} {o : Oper} : dstIs d o = true ↔ o.dst = some d := by
  unfold dstIs
  cases o.dst with
  | none => simp
  | some d' => simp only [Option.some.injEq]; exact ⟨fun h => beq_eq' h, fun h => by rw [h]; exact Nat.beq_refl d⟩
theorem apartAll_at {L : List Oper} {i d : Nat} {x : Operand} : ∀ {r : List Oper} {j k : Nat} {o : Oper}, apartAll L i d x j r = true → r[k]? = some o → apartL L i d x (j + k) o = true
  | [], j, k, o, _, h => by simp at h
  | o' :: r, j, 0, o, hk, h => by
    simp at h
    subst h
    simp only [apartAll, Bool.and_eq_true] at hk
    exact hk.1
  | o' :: r, j, k + 1, o, hk, h => by
    simp only [apartAll, Bool.and_eq_true] at hk
    have := apartAll_at hk.2 (show r[k]? = some o by simpa using h)
    rwa [show j + 1 + k = j + (k + 1) by omega] at this
theorem floats_at {L : List Oper} : ∀ {r : List Oper} {i : Nat} {p : Nat × Nat × Operand}, p ∈ floats L i r → ∃ k o, p.1 = i + k ∧ r[k]? = some o ∧ mvOp o = some p.2 ∧ apartAll L p.1 p.2.1 p.2.2 0 L = true
  | [], i, p, h => by cases h
  | o :: r, i, p, h => by
    have rest : p ∈ floats L (i + 1) r → ∃ k o', p.1 = i + k ∧ (o :: r)[k]? = some o' ∧ mvOp o' = some p.2 ∧ apartAll L p.1 p.2.1 p.2.2 0 L = true := fun h => by
      obtain ⟨k, o', h1, h2, h3, h4⟩ := floats_at h
      exact ⟨k + 1, o', by omega, by simpa using h2, h3, h4⟩
    simp only [floats] at h
    split at h
    · rename_i d x hm
      cases hb : apartAll L i d x 0 L with
      | true =>
        rw [hb] at h
        simp only [cond_true] at h
        rcases List.mem_cons.1 h with rfl | h
        · exact ⟨0, o, rfl, rfl, hm, hb⟩
        · exact rest h
      | false => rw [hb] at h; exact rest h
    · exact rest h
theorem apart_ok {ops : Array Oper} {i j d : Nat} {x : Operand} {oi oj : Oper} (hm : mvOp oi = some (d, x)) (h : apartL ops.toList i d x j oj = true) (hne : j ≠ i) (hno : ∀ e ∈ oj.after, Region.binds .any e = true → e.on ≠ i) : oi.apart ops oj = true := by
  obtain ⟨m1, m2, m3, m4⟩ := mvOp_ok hm
  unfold apartL at h
  have hb : Nat.beq j i = false := by
    cases hb : Nat.beq j i with
    | true => exact absurd (beq_eq' hb) hne
    | false => rfl
  rw [hb, Bool.false_or, Bool.and_eq_true, Bool.or_eq_true] at h
  obtain ⟨h0, h⟩ := h
  rcases h with h | h
  · exfalso
    obtain ⟨e, he, hx⟩ := List.any_eq_true.1 h
    rw [Bool.and_eq_true] at hx
    exact hno e (by simpa using he) hx.1 (beq_eq' hx.2)
  · simp only [Bool.and_eq_true, Bool.not_eq_true'] at h
    obtain ⟨⟨⟨h1, h2⟩, h3⟩, h4⟩ := h
    have n1 : d ∉ oj.looksAt ops := by
      unfold Oper.looksAt
      intro hd
      rcases List.mem_append.1 hd with hd | hd
      · obtain ⟨y, hy, hyd⟩ := List.mem_filterMap.1 hd
        have : y = .tmp d := by cases y <;> simp_all
        subst this
        have := List.any_eq_false.1 h1 _ hy
        exact this (isTmp_eq.2 rfl)
      · cases hg : oj.guard with
        | none => rw [hg] at hd; cases hd
        | some gw =>
          obtain ⟨g, w⟩ := gw
          rw [hg] at hd h4
          simp only at hd h4
          cases hog : ops[g]? with
          | none => rw [hog] at hd; simp at hd
          | some og =>
            rw [hog] at hd
            have h5 : ops.toList[g]? = some og := by simpa using hog
            rw [h5] at h4
            simp only at h4
            have hdd : og.dst = some d := by simpa using hd
            rw [dstIs_eq.2 hdd] at h4
            cases h4
    have n2 : oj.dst ≠ some d := fun e => by rw [dstIs_eq.2 e] at h2; cases h2
    have n3 : ∀ d', oj.dst = some d' → d' ∉ oi.looksAt ops := by
      intro d' hd' hin
      unfold Oper.looksAt at hin
      rw [m2, m1] at hin
      simp only [List.append_nil] at hin
      obtain ⟨y, hy, hyd⟩ := List.mem_filterMap.1 hin
      have hy' : y = x := by simpa [Op.operands] using hy
      subst hy'
      have : y = .tmp d' := by cases y <;> simp_all
      rw [hd'] at h3
      simp only at h3
      rw [isTmp_eq.2 this] at h3
      cases h3
    unfold Oper.apart
    rw [m3]
    simp only [Bool.and_eq_true, Bool.not_eq_true', bne_iff_ne]
    refine ⟨⟨?_, n2⟩, ?_⟩
    · simpa using n1
    · cases hd' : oj.dst with
      | none => rfl
      | some d' => simpa using n3 d' hd'
def putA (a : Act) : List (Nat × Nat × Operand) → Act
  | [] => a
  | p :: r => putA (a.put (some p.2.1) (a.eval p.2.2)) r
def setF (listed : Array Bool) : List (Nat × Nat × Operand) → Array Bool
  | [] => listed
  | p :: r => setF (listed.setIfInBounds p.1 true) r
theorem take_all {P : Program} {ops : Array Oper} {R : Exit → Act → World → Prop} (hR : ∀ c a w, ¬ R (.panic c) a w) (hea : edgesAll 0 ops.toList = true) : ∀ (F : List (Nat × Nat × Operand)), (∀ p, p ∈ F → ∃ o, ops.toList[p.1]? = some o ∧ mvOp o = some p.2 ∧ apartAll ops.toList p.1 p.2.1 p.2.2 0 ops.toList = true) → noDup (F.map (·.1)) = true →
    ∀ (fuel : Nat) (listed : Array Bool) (a : Act) (w : World), listed.size = ops.toList.length → (∀ p, p ∈ F → listed.getD p.1 true = false) → wpAny P .any ops R fuel (setF listed F) (putA a F) w → wpAny P .any ops R (fuel + F.length) listed a w
  | [], _, _, fuel, listed, a, w, _, _, h => h
  | p :: r, hF, hnd, fuel, listed, a, w, hsz, hl, h => by
    simp only [List.map_cons, noDup, Bool.and_eq_true, Bool.not_eq_true'] at hnd
    obtain ⟨o, ho, hm, hap⟩ := hF p List.mem_cons_self
    obtain ⟨m1, m2, m3, m4⟩ := mvOp_ok (d := p.2.1) (x := p.2.2) hm
    have ih := take_all hR hea r (fun q hq => hF q (List.mem_cons_of_mem _ hq)) hnd.2 fuel (listed.setIfInBounds p.1 true) (a.put (some p.2.1) (a.eval p.2.2)) w (by simpa using hsz) (fun q hq => by
      have : p.1 ≠ q.1 := by
        intro e
        have := hasN_iff.2 (List.mem_map.2 ⟨_, hq, rfl⟩ : q.1 ∈ r.map (·.1))
        rw [← e, hnd.1] at this
        cases this
      rw [getD_set_ne _ this]
      exact hl q (List.mem_cons_of_mem _ hq)) h
    rw [List.length_cons, show fuel + (r.length + 1) = fuel + r.length + 1 by omega]
    refine wpAny_first (i := p.1) (oi := o) (v := a.eval p.2.2) (by simpa using ho) (fun j oj cs b hj => ?_) (fun c a' w' hq => absurd hq (hR _ _ _)) _ listed a w (fun j oj hj hne _ hno => ?_) ?_ (.inl ⟨by unfold Region.wanted; rw [m2], fun w' => ?_⟩) (by rw [m3]; exact ih)
    · have := edgesAll_sel hea (show ops.toList[j]? = some oj by simpa using hj)
      exact this cs b
    · have := apartAll_at hap (show ops.toList[j]? = some oj by simpa using hj)
      rw [Nat.zero_add] at this
      exact apart_ok (d := p.2.1) (x := p.2.2) hm this hne hno
    · refine mem_ready.2 ⟨hl p List.mem_cons_self, o, by simpa using ho, fun e he hb => ?_⟩
      rw [m4 e (by simpa using he)] at hb
      cases hb
    · simp [execOp, m1]
where
  edgesAll_sel : ∀ {l : List Oper} {i k : Nat} {o : Oper}, edgesAll i l = true → l[k]? = some o → ∀ cs b, o.op ≠ .select cs b
    | [], _, k, _, _, h => by simp at h
    | o' :: r, i, 0, o, hk, h => by
      simp at h
      subst h
      intro cs b he
      simp only [edgesAll, Bool.and_eq_true] at hk
      have := hk.1.2
      rw [he] at this
      cases this
    | o' :: r, i, k + 1, o, hk, h => by
      simp only [edgesAll, Bool.and_eq_true] at hk
      exact edgesAll_sel hk.2 (show r[k]? = some o by simpa using h)
theorem setF_at : ∀ (F : List (Nat × Nat × Operand)) (listed : Array Bool) (k : Nat), (setF listed F).size = listed.size ∧ (k < listed.size → (setF listed F).getD k false = (listed.getD k false || hasN k (F.map (·.1))))
  | [], listed, k => ⟨rfl, fun _ => by simp [setF, hasN]⟩
  | p :: r, listed, k => by
    obtain ⟨h1, h2⟩ := setF_at r (listed.setIfInBounds p.1 true) k
    refine ⟨by simpa [setF] using h1, fun hk => ?_⟩
    have h2 := h2 (by simpa using hk)
    show (setF (listed.setIfInBounds p.1 true) r).getD k false = _
    rw [h2]
    simp only [List.map_cons, hasN]
    cases hb : Nat.beq k p.1 with
    | true =>
      have := beq_eq' hb
      subst this
      simp [hk]
    | false =>
      have : p.1 ≠ k := fun e => by rw [e, Nat.beq_refl] at hb; cases hb
      rw [getD_set_ne _ this]
      rfl
section
variable {S : Sig} {Q : Kind S}
theorem putF_ok {e : Env S.T} : ∀ {F : List (Nat × Nat × Operand)} {σ : St S.T} {a : Act} {W : Nat}, Holds Q e σ a → (∀ p, p ∈ F → p.2.1 < σ.n) → (∀ p, p ∈ F → bitN W p.2.1 = true) → Stp Q e σ W a e (putF σ F) (putA a F)
  | [], σ, a, W, h, _, _ => Stp.refl h W
  | p :: r, σ, a, W, h, hn, hW => by
    have h1 : Stp Q e σ W a e (σ.put p.2.1 (σ.opd p.2.2)) (a.put (some p.2.1) (a.eval p.2.2)) := by
      have h2 := h.put (e' := e) (dst := some p.2.1) (Lb.refl _ e) h.inv (fun d hd => by cases hd; exact hn p List.mem_cons_self) (opd_ok h.sl p.2.2) h.ob h.nx σ.lg
      refine ⟨Lb.refl _ e, h2, ?_, Nat.le_refl _, rfl, [], rfl, fun _ _ => rfl⟩
      intro s hs
      refine put_same a (some p.2.1) _ s ?_
      show bitN (Nat.shiftLeft 1 p.2.1) s = false
      rw [bitN_one]
      simp only [decide_eq_false_iff_not]
      rintro rfl
      rw [hW p List.mem_cons_self] at hs
      cases hs
    have h3 := putF_ok (F := r) (W := W) h1.holds (fun q hq => hn q (List.mem_cons_of_mem _ hq)) (fun q hq => hW q (List.mem_cons_of_mem _ hq))
    have := h1.trans h3
    refine this.wide fun s hs => ?_
    rw [bitN_lor, hs]; rfl
theorem wrOps_remap {fl : List Nat} : ∀ {r : List Oper} {i s : Nat}, bitN (wrOps r) s = false → bitN (wrOps (remapL fl i r)) s = false
  | [], i, s, h => h
  | o :: r, i, s, h => by
    rw [wrOps_cons, bitN_lor, Bool.or_eq_false_iff] at h
    simp only [remapL]
    cases hasN i fl with
    | true => exact wrOps_remap h.2
    | false =>
      simp only [cond_false]
      rw [wrOps_cons, bitN_lor, Bool.or_eq_false_iff]
      exact ⟨h.1, wrOps_remap h.2⟩
theorem wrOps_dst {o : Oper} {d : Nat} (hd : o.dst = some d) : ∀ {r : List Oper}, o ∈ r → bitN (wrOps r) d = true
  | o' :: r, h => by
    rw [wrOps_cons, bitN_lor, Bool.or_eq_true]
    rcases List.mem_cons.1 h with rfl | h
    · left
      rw [hd]
      show bitN (Nat.shiftLeft 1 d) d = true
      rw [bitN_one]; simp
    · exact .inr (wrOps_dst hd h)
theorem any_wpl {P : Program} {ops : Array Oper} {R R' : Exit → Act → World → Prop} (hR : ∀ ex a w, R ex a w → R' ex a w) (hL : LetsOut R → LetsOut R') : ∀ (fuel : Nat) (listed : Array Bool) (a : Act) (w : World), wpAny P .any ops R fuel listed a w → wpAny P .any ops R' fuel listed a w := by
  have hop : ∀ {o : Oper} {a : Act} {w : World} {K : Act → World → Prop}, o.wp P a w K R → o.wp P a w K R' := by
    intro o a w K hh
    unfold Oper.wp at *
    generalize (execOp a.eval o).run P w = r at *
    cases r with
    | ok n w' =>
      cases n <;> simp only [Oper.upon] at hh ⊢
      case enter f args =>
        refine Calls.mono hh fun e w'' he => ?_
        cases e with
        | returned v => exact he
        | panicked c => exact hR _ _ _ he
        | outgrown => exact hL he
      all_goals exact hh
    | halt x w' =>
      cases x <;> simp only [Oper.upon] at hh ⊢
      case panic u => exact hR _ _ _ hh
  intro fuel
  induction fuel with
  | zero => exact fun listed a w h => ⟨h.1, hR _ _ _ h.2⟩
  | succ fuel ih =>
    intro listed a w h
    refine ⟨fun hr => hR _ _ _ (h.1 hr), fun i hi => ?_⟩
    have h1 := wpOp_mono (fun a' w' h' => ih _ a' w' h') (h.2 i hi)
    unfold wpOp at h1 ⊢
    split
    · rename_i hn; rw [hn] at h1; exact h1
    · rename_i o ho
      rw [ho] at h1
      simp only at h1
      split
      · rename_i hw
        rw [if_pos hw] at h1
        exact h1.imp hop fun h => ⟨h.1, hL h.2⟩
      · rename_i hw
        rw [if_neg hw] at h1
        exact h1
theorem drawQ_ok (L : Laws S Q) (hm : S.P.follows .mixedOrders = true) (hi : InnMono S) : DrOk Q (drawQ (S := S)) := by
  intro B hC I hI id ops e σ σ' a R h hc hR
  unfold drawQ at hc
  split at hc
  · exact drawR_ok L hm hi B hC I hI id ops e σ σ' a R h hc hR
  · rename_i F0 hne
    generalize hF : floats ops.toList 0 ops.toList = F at hc
    obtain ⟨hg, hc⟩ := can_guard hc
    simp only [Bool.and_eq_true] at hg
    obtain ⟨⟨hea, hnd⟩, hfit⟩ := hg
    replace hc : (guardT (edgesAll 0 (remapL (F.map (·.1)) 0 ops.toList)) <| forceL (befL [] (remapL (F.map (·.1)) 0 ops.toList)) fun bef => forceN (remapL (F.map (·.1)) 0 ops.toList).length fun n => drawS B I (remapL (F.map (·.1)) 0 ops.toList).toArray bef n n 0 (remapL (F.map (·.1)) 0 ops.toList) (putF σ F)).Can σ' := hc
    obtain ⟨hea2, hc⟩ := can_guard hc
    rw [forceL_eq, forceN_eq] at hc
    have hFa : ∀ p, p ∈ F → ∃ o, ops.toList[p.1]? = some o ∧ mvOp o = some p.2 ∧ apartAll ops.toList p.1 p.2.1 p.2.2 0 ops.toList = true := by
      intro p hp
      rw [← hF] at hp
      obtain ⟨k, o, h1, h2, h3, h4⟩ := floats_at hp
      rw [Nat.zero_add] at h1
      exact ⟨o, by rw [h1]; exact h2, h3, h4⟩
    have hgF : gdF (F.map (·.1)) ops.toList := by
      intro j o g w ho hgd
      cases hb : hasN g (F.map (·.1)) with
      | true =>
        exfalso
        obtain ⟨p, hp, rfl⟩ := List.mem_map.1 (hasN_iff.1 hb)
        obtain ⟨oi, _, hmi, hap⟩ := hFa p hp
        have := apartAll_at hap ho
        rw [Nat.zero_add] at this
        unfold apartL at this
        rw [Bool.or_eq_true, Bool.and_eq_true] at this
        rcases this with h1 | ⟨h1, _⟩
        · have h1 := beq_eq' h1
          subst h1
          rename_i hoi
          rw [ho] at hoi
          cases hoi
          have := (mvOp_ok (d := p.2.1) (x := p.2.2) hmi).2.1
          rw [hgd] at this
          cases this
        · rw [hgd] at h1
          simp [Nat.beq_refl] at h1
      | false =>
        refine ⟨rfl, ?_⟩
        cases hF2 : F with
        | nil => rw [← hF] at hF2; exact absurd hF2 hne
        | cons p r =>
          obtain ⟨oi, _, hmi, hap⟩ := hFa p (by rw [hF2]; exact List.mem_cons_self)
          have := apartAll_at hap ho
          rw [Nat.zero_add] at this
          unfold apartL at this
          rw [Bool.or_eq_true, Bool.and_eq_true] at this
          have hjl := (List.getElem?_eq_some_iff.1 ho).1
          rcases this with h1 | ⟨h1, _⟩
          · have h1 := beq_eq' h1
            subst h1
            rename_i hoi
            rw [ho] at hoi
            cases hoi
            have := (mvOp_ok (d := p.2.1) (x := p.2.2) hmi).2.1
            rw [hgd] at this
            cases this
          · rw [hgd] at h1
            simp only [Bool.not_eq_true', Bool.or_eq_false_iff, Bool.not_eq_false'] at h1
            have := blt_lt h1.2
            omega
    refine wp_region_any hm ?_
    obtain ⟨e1, d1, d2, d3, d4, d5⟩ := drew_env L h.inv
    rw [← d1]
    have st : Stp Q e σ 0 a e1 σ a := ⟨d3.lb _ (fun a _ hu => d5 a hu), ⟨d2, d4.trans h.ob, fun i hi => h.nx i (d5 i hi), h.n, h.df, fun s => d3.holdX _ (h.sl s)⟩, Same.refl _ _, Nat.le_refl _, rfl, [], rfl, fun _ _ => rfl⟩
    have st2 : Stp Q e1 σ (wrOps ops.toList) a e1 (putF σ F) (putA a F) := putF_ok st.holds (fun p hp => blt_lt (List.all_eq_true.1 hfit p hp)) fun p hp => by
      obtain ⟨o, ho, hmi, _⟩ := hFa p hp
      exact wrOps_dst (mvOp_ok (d := p.2.1) (x := p.2.2) hmi).2.2.1 (List.mem_of_getElem? ho)
    have hlen2 : (remapL (F.map (·.1)) 0 ops.toList).length = newIx (F.map (·.1)) ops.toList.length := remapL_len
    have hcnt := cnt_dup
    let R0 : Exit → Act → World → Prop := fun ex a w => ex = .normal ∧ R .normal a w
    refine any_wpl (R := R0) (fun ex a w ⟨h1, h2⟩ => by rw [h1]; exact h2) (fun h => ?_) _ _ _ _ ?_
    · obtain ⟨a', w', h, _⟩ := h
      cases h
    have hsz : ops.size = newIx (F.map (·.1)) ops.toList.length + F.length := by
      have := hcnt ops.toList.length (F.map (·.1)) hnd fun k hk => by
        obtain ⟨p, hp, rfl⟩ := List.mem_map.1 hk
        obtain ⟨o, ho, _⟩ := hFa p hp
        exact (List.getElem?_eq_some_iff.1 ho).1
      rw [List.length_map] at this
      rw [this]
      exact (Array.length_toList).symm
    generalize hrep : Array.replicate ops.size false = lst0
    have hlsz : lst0.size = ops.toList.length := by rw [← hrep]; simp
    have hlat : ∀ k b, k < ops.toList.length → lst0.getD k b = false := fun k b hk => by
      have : k < ops.size := by simpa using hk
      rw [← hrep]; simp [this]
    rw [hsz]
    refine take_all (fun c a w h => by cases h.1) hea F hFa hnd _ _ a e1.w hlsz (fun p hp => ?_) ?_
    · obtain ⟨o, ho, _⟩ := hFa p hp
      exact hlat _ _ (List.getElem?_eq_some_iff.1 ho).1
    refine any_remap hea hgF _ _ (Array.replicate (newIx (F.map (·.1)) ops.toList.length) false) _ _ ⟨?_, by simp, fun k hk hkl => ?_, fun k hk hkl => ?_⟩ ?_
    · rw [(setF_at F _ 0).1]; exact hlsz
    · rw [(setF_at F _ k).2 (by rw [hlsz]; exact hkl), hk, Bool.or_true]
    · rw [(setF_at F _ k).2 (by rw [hlsz]; exact hkl), hk, hlat k false hkl]
      have := cntF_lt hkl hk
      simp only [Array.length_toList] at this
      simp [this]
    rw [← hlen2]
    have := seg_ok L hi hC hI (R := R0) (ops := (remapL (F.map (·.1)) 0 ops.toList).toArray) hea2 (remapL (F.map (·.1)) 0 ops.toList).length 0 (remapL (F.map (·.1)) 0 ops.toList) (Array.replicate (remapL (F.map (·.1)) 0 ops.toList).length false) (by simp) (Nat.zero_le _) (fun m _ _ j hj => by omega) (by simp) (fun k hk => by
      have hks : k < (remapL (F.map (·.1)) 0 ops.toList).length := hk
      simp [hks]) st2.holds hc fun e' a' st' => ⟨rfl, hR e' a' ?_⟩
    · exact this
    · have h5 := (st.trans st2).trans st'
      refine ⟨h5.lb, h5.holds, fun s hs => h5.same s ?_, h5.nx, h5.n, h5.lg⟩
      rw [bitN_lor, bitN_lor, bitN_zero, Bool.false_or, hs, Bool.false_or]
      exact wrOps_remap hs
end
end Go.Proofs.Ytheemkehedmlfaa.E
