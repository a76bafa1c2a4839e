import Derived.Test.YtheemkehedmlfaaD3
set_option linter.unusedVariables false
set_option linter.unusedSimpArgs false
namespace Go.Proofs.Ytheemkehedmlfaa.E
open Go
theorem fold_splice : ∀ (vs : List Value) (n off : Nat) (cells : Array Value), off + n + vs.length ≤ cells.size →
    ((vs.zipIdx n).foldl (fun cs p => cs.setIfInBounds (off + p.2) p.1) cells) = (splice (off + n) vs cells.toList).toArray
  | [], n, off, cells, _ => by
    simp [splice]
  | v :: vs, n, off, cells, h => by
    simp only [List.length_cons] at h
    rw [List.zipIdx_cons, List.foldl_cons, fold_splice vs (n + 1) off _ (by rw [Array.size_setIfInBounds]; omega)]
    apply congrArg
    simp only [Array.toList_setIfInBounds]
    unfold splice
    have hl : off + n < cells.toList.length := by rw [Array.length_toList]; omega
    generalize cells.toList = l at hl
    have h1 : (l.set (off + n) v).take (off + (n + 1)) = l.take (off + n) ++ [v] := by
      rw [show off + (n + 1) = off + n + 1 by omega, List.take_succ_eq_append_getElem (by simpa using hl), List.take_set_of_le (Nat.le_refl _)]
      simp
    have h2 : (l.set (off + n) v).drop (off + (n + 1) + vs.length) = l.drop (off + n + (v :: vs).length) := by
      rw [List.drop_set_of_lt (by omega), List.length_cons]
      congr 1
      omega
    rw [h1, h2]
    simp
theorem fill_one (place : Nat → Option (Nat × Nat)) (i : Nat) (v : Value) (rest : List (Nat × Value)) (cells : List Value) (off size : Nat) (hp : place i = some (off, size)) (hs : v.cells.size = size) (hf : off + size ≤ cells.length) :
    Instr.fill place cells.toArray ((i, v) :: rest) = Instr.fill place (splice off v.cells.toList cells).toArray rest := by
  have h1 : ¬ (v.cells.size ≠ size ∨ cells.toArray.size < off + v.cells.size) := by
    simp only [List.size_toArray]
    omega
  have h2 := fold_splice v.cells.toList 0 off cells.toArray (by simp; omega)
  simp only [Nat.add_zero] at h2
  have h3 : (v.cells.zipIdx.foldl (fun cs p => cs.setIfInBounds (off + p.2) p.1) cells.toArray) = (splice off v.cells.toList cells).toArray := by
    rw [← h2, ← Array.foldl_toList, Array.toList_zipIdx]
  simp only [Instr.fill, hp, hs, ne_eq, not_true_eq_false, decide_false, List.size_toArray, Bool.false_or]
  rw [if_neg (by simp; omega)]
  rw [← h3]
section
variable {S : Sig} {Q : Kind S}
abbrev Opds (Q : Kind S) (e : Env S.T) (ρ : Operand → Value) (ps : List Operand) (xs : List (SX S.T)) : Prop := All2 (fun p x => holdX Q e (ρ p) x) ps xs
theorem fillX_ok {e : Env S.T} (I : Inv Q e) {ρ : Operand → Value} (fs : List (Nat × TypeId × Nat)) : ∀ (ps : List (Nat × Operand)) (xs : List (SX S.T)) (cs : List (SC S.T)) (vs : List Value) (cs' : List (SC S.T)),
    fillX S fs (ps.map (·.1)) xs cs = some cs' → Opds Q e ρ (ps.map (·.2)) xs → All2 (hold Q e) vs cs →
    ∃ vs', Instr.fill ((fs.map fun p => (p.1, p.2.2)).toArray[·]?) vs.toArray (ps.map fun p => (p.1, ρ p.2)) = some vs'.toArray ∧ All2 (hold Q e) vs' cs'
  | [], xs, cs, vs, cs', h, hx, hv => by
    cases hx
    simp only [List.map_nil, fillX, Option.some.injEq] at h
    subst h
    exact ⟨vs, rfl, hv⟩
  | p :: ps, _, cs, vs, cs', h, hx, hv => by
    rw [List.map_cons] at hx
    cases hx
    rename_i x xs hp hps
    simp only [List.map_cons, fillX] at h
    split at h
    · rename_i q v hq
      cases hb : Nat.beq v.cells.length q.2.2 && Nat.ble (q.1 + q.2.2) cs.length && v.cells.all noUn with
      | false => rw [hb] at h; cases h
      | true =>
        rw [hb] at h
        simp only [cond_true] at h
        simp only [Bool.and_eq_true] at hb
        obtain ⟨h1, h2, h3⟩ := holdV_cells I hp hb.2
        have hl := beq_eq' hb.1.1
        have hle := ble_le hb.1.2
        have hlen := hv.len
        obtain ⟨vs', g1, g2⟩ := fillX_ok I fs ps xs _ _ cs' h hps (h1.splice hv)
        refine ⟨vs', ?_, g2⟩
        rw [List.map_cons, fill_one _ p.1 (ρ p.2) _ vs q.1 q.2.2 (by simp [hq]) (by omega) (by omega)]
        exact g1
    · cases h
theorem zeros_ok {e : Env S.T} (zs : List ZC) : All2 (hold Q e) (zs.map ZC.val) (zs.map (ZC.sc (T := S.T))) := by
  induction zs with
  | nil => exact .nil
  | cons z zs ih => exact .cons (by cases z <;> first | rfl | trivial) ih
theorem buildX_ok (L : Laws S Q) {e : Env S.T} (I : Inv Q e) {ρ : Operand → Value} {t : TypeId} {ps : Array (Nat × Operand)} {xs : List (SX S.T)} (hx : Opds Q e ρ (ps.toList.map (·.2)) xs) {u : Upd S.T} (h : (buildX t (ps.toList.map (·.1)) xs).Can u) :
    ∃ v', (Instr.build t (ps.map fun (i, x) => (i, ρ x))).run S.P e.w = .ok v' e.w ∧ holdX Q e v' u.res ∧ u.set = [] := by
  unfold buildX at h
  replace h := can_or h; obtain ⟨d, hd, h⟩ := h
  replace h := can_guard h; obtain ⟨hne, h⟩ := h
  replace h := can_or h; obtain ⟨cs, hcs, h⟩ := h
  have h := can_ret h
  subst h
  have hne' : d.fields ≠ [] := by rintro h9; rw [h9] at hne; cases hne
  have T := L.td t d hd
  obtain ⟨i, hi, _, _, z, hz, hzc⟩ := T.info
  obtain ⟨fs, h1, h2, h3⟩ := T.fields hne'
  obtain ⟨vs', g1, g2⟩ := fillX_ok I d.fields ps.toList xs _ _ cs hcs hx (zeros_ok d.zero)
  refine ⟨.agg vs'.toArray, run_build e.w t _ _ ?_, ⟨vs', rfl, g2⟩, rfl⟩
  simp only [Program.built, hi, h1, hz, h2, hzc]
  rw [Array.toList_map]
  exact g1
theorem newVar_alloc (L : Laws S Q) {e : Env S.T} (I : Inv Q e) {fr : Nat} (hfr : ¬ e.U fr) {t : TypeId} {cs : List (SC S.T)} (hz : zeros S t = some cs) {u : Upd S.T} (h : (newVar fr t cs).Can u) :
    ∃ v w1, (Instr.alloc t true (.tuple #[])).run S.P e.w = .ok v w1 ∧ Eff Q e fr v w1 u := by
  unfold zeros at hz
  obtain ⟨d, hd, rfl⟩ := Option.map_eq_some_iff.1 hz
  obtain ⟨i, hi, _, _, z, hzz, hzc⟩ := (L.td t d hd).info
  refine ⟨_, _, ?_, newVar_ok L I hfr (zeros_ok d.zero) h⟩
  simp [Instr.alloc, zeroValue, typeInfo, hi, hzz, Go.newVar, newRow, hzc]
theorem newVar_box (L : Laws S Q) {e : Env S.T} (I : Inv Q e) {fr : Nat} (hfr : ¬ e.U fr) {t : TypeId} {x : SV S.T} {v : Value} (hv : holdV Q e v x) (hn : x.cells.all noUn = true) {u : Upd S.T} (h : (newVar fr t x.cells).Can u) :
    ∃ v' w1, (Instr.box t v).run S.P e.w = .ok v' w1 ∧ Eff Q e fr v' w1 u := by
  obtain ⟨h1, h2, h3⟩ := holdV_cells I hv hn
  refine ⟨_, _, ?_, newVar_ok L I hfr h1 h⟩
  simp [Instr.box, Go.newVar, newRow]
theorem capsOf_ok {e : Env S.T} {ρ : Operand → Value} : ∀ {ps : List Operand} {xs : List (SX S.T)} {l : List Nat}, capsOf xs = some l → Opds Q e ρ ps xs → (∀ i, i ∈ l → e.U i) ∧ ps.map ρ = l.map e.β
  | [], _, l, h, hx => by
    cases hx
    simp only [capsOf, Option.some.injEq] at h
    subst h
    exact ⟨fun i hi => (by cases hi), rfl⟩
  | p :: ps, _, l, h, hx => by
    cases hx
    rename_i x xs hp hps
    unfold capsOf at h
    split at h
    · rename_i heq; cases heq
    · rename_i i r heq
      cases heq
      obtain ⟨l', hl', rfl⟩ := Option.map_eq_some_iff.1 h
      obtain ⟨h1, h2⟩ := capsOf_ok hl' hps
      obtain ⟨hi, g, hβ, he⟩ := hp
      refine ⟨fun j hj => ?_, ?_⟩
      · rcases List.mem_cons.1 hj with rfl | hj
        · exact hi
        · exact h1 j hj
      · simp only [List.map_cons, h2]
        rw [he, hβ]
    · cases h
theorem inOrder_fill (sz : Nat) (ρ : Operand → Value) : ∀ (n : Nat) (ps : List (Nat × Operand)) (done rest : List Value), inOrder n (ps.map (·.1)) = true → (∀ p, p ∈ ps → (ρ p.2).cells.size = sz) → done.length = n * sz → rest.length = ps.length * sz →
    Instr.fill (fun i => some (i * sz, sz)) (done ++ rest).toArray (ps.map fun p => (p.1, ρ p.2)) = some (done ++ (ps.map fun p => (ρ p.2).cells.toList).flatten).toArray
  | n, [], done, rest, _, _, _, hr => by
    have : rest = [] := List.eq_nil_of_length_eq_zero (by simpa using hr)
    subst this
    simp [Instr.fill]
  | n, p :: ps, done, rest, ho, hs, hd, hr => by
    simp only [List.map_cons, inOrder, Bool.and_eq_true] at ho
    have hn := beq_eq' ho.1
    have hp := hs p List.mem_cons_self
    rw [List.length_cons, Nat.add_mul, Nat.one_mul] at hr
    rw [List.map_cons, fill_one _ p.1 (ρ p.2) _ (done ++ rest) (p.1 * sz) sz rfl hp (by rw [List.length_append, hd, hr, hn]; omega)]
    have hsp : splice (p.1 * sz) (ρ p.2).cells.toList (done ++ rest) = (done ++ (ρ p.2).cells.toList) ++ rest.drop sz := by
      unfold splice
      have hq : (ρ p.2).cells.toList.length = sz := by rw [Array.length_toList]; exact hp
      rw [← hn, ← hd, List.take_left, hq, List.drop_append]
      simp [List.drop_eq_nil_of_le]
    rw [hsp, inOrder_fill sz ρ (n + 1) ps _ _ ho.2 (fun q hq => hs q (List.mem_cons_of_mem _ hq)) (by rw [List.length_append, hd, Array.length_toList, hp, Nat.add_mul]; omega) (by rw [List.length_drop, hr]; omega)]
    simp [List.append_assoc]
theorem opds_cells {e : Env S.T} (I : Inv Q e) {ρ : Operand → Value} {sz : Nat} : ∀ {ps : List Operand} {xs : List (SX S.T)}, Opds Q e ρ ps xs → (xs.all fun x => Nat.beq (cellsOf x).length sz && (cellsOf x).all noUn) = true → 0 < sz →
    All2 (All2 (hold Q e)) (ps.map fun p => (ρ p).cells.toList) (xs.map cellsOf) ∧ ∀ p, p ∈ ps → (ρ p).cells.size = sz
  | [], xs, h, _, _ => by
    cases h
    exact ⟨.nil, fun p hp => (by cases hp)⟩
  | p :: ps, xs, h, ha, h0 => by
    cases h
    rename_i x xs hp hps
    simp only [List.all_cons, Bool.and_eq_true] at ha
    obtain ⟨h1, h2⟩ := opds_cells I hps ha.2 h0
    have hl := beq_eq' ha.1.1
    cases x with
    | tup _ => simp [cellsOf] at hl; omega
    | v x =>
      obtain ⟨g1, g2, g3⟩ := holdV_cells I hp ha.1.2
      refine ⟨.cons g1 h1, fun q hq => ?_⟩
      rcases List.mem_cons.1 hq with rfl | hq
      · rw [g3]; exact hl
      · exact h2 q hq
theorem buildSliceX_ok (L : Laws S Q) {e : Env S.T} (I : Inv Q e) {fr : Nat} (hfr : ¬ e.U fr) {ρ : Operand → Value} {t : TypeId} {len : Nat} {ps : Array (Nat × Operand)} {xs : List (SX S.T)} (hx : Opds Q e ρ (ps.toList.map (·.2)) xs)
    {u : Upd S.T} (h : (buildSliceX e.ob fr t len (ps.toList.map (·.1)) xs).Can u) :
    ∃ v' w1, (Instr.buildSlice t len (ps.map fun (i, x) => (i, ρ x))).run S.P e.w = .ok v' w1 ∧ Eff Q e fr v' w1 u := by
  unfold buildSliceX at h
  replace h := can_or h; obtain ⟨te, hte, h⟩ := h
  replace h := can_guard h; obtain ⟨hg, h⟩ := h
  simp only [Bool.and_eq_true] at hg
  obtain ⟨⟨⟨⟨⟨⟨hk, hio⟩, hil⟩, hs1⟩, hsm⟩, hxl⟩, hxa⟩ := hg
  have hil := beq_eq' hil
  have hs1 := ble_le hs1
  have hsm := ble_le hsm
  have hu := td_elem L hte
  have hsz := run_sizeOf' L hk e.w
  obtain ⟨td, htd⟩ : ∃ td, S.td te = some td := by
    unfold Sig.known at hk
    cases h : S.td te with
    | none => rw [h] at hk; cases hk
    | some d => exact ⟨d, rfl⟩
  obtain ⟨i, z, hi, hz, hsi, _, _, hzs⟩ := info_parts' L htd
  obtain ⟨g1, g2⟩ := opds_cells I hx hxa hs1
  have hpl : ps.toList.length = len := by simpa using hil
  have hcs : (ps.toList.map (·.2)).map (fun p => (ρ p).cells.toList) = ps.toList.map fun p => (ρ p.2).cells.toList := by rw [List.map_map]; rfl
  have hfill := inOrder_fill (S.sz te) ρ 0 ps.toList [] ((Array.range (len * S.sz te)).map (z.cells[· % z.cells.size]!)).toList hio (fun q hq => g2 q.2 (List.mem_map.2 ⟨q, hq, rfl⟩)) (by simp) (by simp [hpl])
  simp only [List.nil_append, Array.toArray_toList] at hfill
  have hm : ps.map (fun (i, x) => (i, ρ x)) = (ps.toList.map fun p => (p.1, ρ p.2)).toArray := by
    apply Array.ext'
    simp
  have hrun : (Instr.buildSlice t len (ps.map fun (i, x) => (i, ρ x))).run S.P e.w = .ok (.slice (some ⟨e.w.heap.size, 0, none⟩) len len) (e.w.alloc (.cells (ps.toList.map fun p => (ρ p.2).cells.toList).flatten.toArray te)) := by
    have n1 : ¬ (len * S.sz te > 2 ^ 24) := by omega
    by_cases h0 : len * S.sz te = 0
    · have hz' : ∀ f : Nat → Value, (Array.range (len * S.sz te)).map f = #[] := by rw [h0]; intro f; simp
      rw [hz'] at hfill
      simp only [Instr.buildSlice, Sem.run_bind, run_underlying hu, hsz, Result.andThen_ok, if_neg n1, if_pos h0, Sem.run_pure, hm, hz']
      simp [hfill, newRow]
    · simp only [Instr.buildSlice, Sem.run_bind, run_underlying hu, hsz, Result.andThen_ok, if_neg n1, if_neg h0, Sem.run_pure, hm, zeroValue, typeInfo, hi, hz]
      simp [hi, hz, hfill, newRow]
  have hlm : len ≤ maxLen := by
    simp only [maxLen]
    have := Nat.le_mul_of_pos_right len hs1
    omega
  refine ⟨_, _, hrun, ?_⟩
  cases hlt : litTest e.ob te (xs.map cellsOf) with
  | true =>
    rw [hlt] at h
    simp only [cond_true] at h
    unfold litX at h
    obtain ⟨ct, hct, h⟩ := can_or h
    obtain ⟨p, hp, h⟩ := can_or h
    obtain ⟨hfk, h⟩ := can_guard h
    simp only [Bool.and_eq_true] at hfk
    have h := can_ret h
    subst h
    obtain ⟨⟨i1, i2⟩, i3, i4, i5, i6, B, i7, i8, i9⟩ := litD_ok L I hct hfk.1 (l := p.1) (d := p.2.1) (ks := p.2.2) hp g1
    rw [hcs] at i5 i6 i9
    have hlen : p.1.length = len := by rw [i4, List.length_map]; exact beq_eq' hxl
    have := newDeep_ok L I hfr (cap := len) (cur := (ps.toList.map fun p => (ρ p.2).cells.toList).flatten.toArray) hct hfk.1 i1 i2 i3 (fun k hk => List.all_eq_true.1 hfk.2 k hk) i7 i8 i6 i9 (by rw [List.size_toArray, i6, hlen]) (List.take_of_length_le (by rw [i6]; exact Nat.le_refl _)) (by omega) hlm
    rw [hlen] at this
    exact this
  | false =>
  rw [hlt] at h
  simp only [cond_false] at h
  replace h := can_or h; obtain ⟨p, hp, h⟩ := h
  have h := can_ret h
  subst h
  obtain ⟨i1, i2, i3, i4, i5⟩ := innAll_ok L I hp g1
  rw [hcs] at i3 i5
  have hlen : p.1.length = len := by rw [i4, List.length_map]; exact beq_eq' hxl
  have htot : (ps.toList.map fun p => (ρ p.2).cells.toList).flatten.length = len * S.sz te := by rw [reps_len i3, hlen]
  have := newRow_ok L I hfr (cap := len) (cur := (ps.toList.map fun p => (ρ p.2).cells.toList).flatten.toArray) i1 i2 i3 (by rw [List.size_toArray, htot]) (by rw [hlen]; exact List.take_of_length_le (by rw [htot]; exact Nat.le_refl _)) (by omega) hlm
  rw [hlen] at this
  exact this
theorem makeSliceX_ok (L : Laws S Q) {e : Env S.T} (I : Inv Q e) {fr : Nat} (hfr : ¬ e.U fr) {t : TypeId} {a b : SX S.T} {v v2 : Value} (hv : holdX Q e v a) (hv2 : holdX Q e v2 b) {u : Upd S.T} (h : (makeSliceX e.ob fr t a b).Can u) :
    ∃ v' w1, (Instr.makeSlice t v v2).run S.P e.w = .ok v' w1 ∧ Eff Q e fr v' w1 u := by
  unfold makeSliceX at h
  replace h := can_or h; obtain ⟨te, hte, h⟩ := h
  replace h := can_or h; obtain ⟨d, hd, h⟩ := h
  replace h := can_guard h; obtain ⟨hg, h⟩ := h
  simp only [Bool.and_eq_true] at hg
  split at h
  · rename_i n c
    replace h := can_or h; obtain ⟨p, hp, h⟩ := h
    replace h := can_guard h; obtain ⟨hpd, h⟩ := h
    replace h := can_br h; obtain ⟨h0, h⟩ := h
    replace h := can_br h; obtain ⟨h1, h⟩ := h
    replace h := can_br h; obtain ⟨h2, h⟩ := h
    have h := can_ret h
    subst h
    simp only [decide_eq_true_eq] at h0 h1 h2
    have hv : v = .int .i64 n := hv
    have hv2 : v2 = .int .i64 c := hv2
    subst hv hv2
    have hu := td_elem L hte
    obtain ⟨i, z, hi, hz, hsi, hby, hzc, hzs⟩ := info_parts' L hd
    have hsd : S.sz te = d.size := by unfold Sig.sz; rw [hd]
    have hbd : bytesOf S te = d.bytes := by unfold bytesOf; rw [hd]
    have hs1 := ble_le hg.1
    have hb1 := ble_le hg.2
    have hc : c ≤ 140737488351232 := by
      have : c * 1 ≤ c * (d.bytes : Int) := Int.mul_le_mul_of_nonneg_left (by omega) (by omega)
      omega
    have hrun := run_make (P := S.P) e.w t te i z hu hi hz .i64 .i64 n c h0 h1 (by rw [hby, hbd, Int.mul_comm]; omega) (by omega)
    refine ⟨_, _, hrun, ?_⟩
    have hpd' : p.2 = [] := by
      cases hq : p.2 with
      | nil => rfl
      | cons _ _ => rw [hq] at hpd; cases hpd
    obtain ⟨k1, k2, k3⟩ := L.inn te e _ (d.zero.map ZC.val) p.1 p.2 I hp (zeros_ok d.zero)
    rw [hpd'] at k1 k2 k3
    have hzl : (d.zero.map ZC.val).length = S.sz te := L.len _ _ _ _ _ k3
    have hr := reps_rep (R := Q.rep te (e.Fd []) e.w) p.1 (d.zero.map ZC.val) hzl k3 n.toNat
    have hnn : (List.replicate n.toNat p.1).length = n.toNat := by simp
    have hcu1 : (madeCells z.cells (c.toNat * i.size)).size = c.toNat * S.sz te := by rw [hsi]; exact size_madeCells _ _
    have hcu2 : (madeCells z.cells (c.toNat * i.size)).toList.take ((List.replicate n.toNat p.1).length * S.sz te) = (List.replicate n.toNat (d.zero.map ZC.val)).flatten := by
      rw [hnn, hsi, madeCells_take z.cells (S.sz te) hzs (by omega) _ _ (by omega), hzc]
    have hcu3 : (List.replicate n.toNat p.1).length ≤ c.toNat := by rw [hnn]; omega
    have hcu4 : c.toNat ≤ maxLen := by simp only [maxLen]; omega
    have hrow := newRow_ok L I hfr (cap := c.toNat) (cur := madeCells z.cells (c.toNat * i.size)) k1 k2 hr hcu1 hcu2 hcu3 hcu4
    rw [hnn] at hrow
    unfold madeO
    split
    · rename_i c0 t0 hxc
      split
      · rename_i hz0
        cases hfl : S.flat t0 with
        | false => exact hrow
        | true =>
          show Eff Q e fr _ _ ⟨_, [(fr, some (fr, .deep te c0 t0 [] fr (List.replicate n.toNat p.1) none))]⟩
          have hnl : hold Q e (.slice none 0 0) (.nil : SC S.T) := rfl
          have hzv : (d.zero.map ZC.val)[c0]? = some (.slice none 0 0) := by rw [List.getElem?_map, hz0]; rfl
          obtain ⟨v0, hv0, _, hv2, hv3⟩ := L.split _ c0 t0 _ _ _ _ hxc k3
          rw [hzv] at hv0
          cases hv0
          have hgn := Rd.nil_of hv3
          have hseg := at_of_reps hr
          have hcl : (List.replicate n.toNat (d.zero.map ZC.val)).flatten.length = (List.replicate n.toNat p.1).length * S.sz te := reps_len hr
          have hrr := reps_rep (R := fun (x : S.T te) cs => x = p.1 ∧ cs = d.zero.map ZC.val) p.1 (d.zero.map ZC.val) hzl ⟨rfl, rfl⟩ n.toNat
          have := newDeep_ok L I hfr (cap := c.toNat) (cur := madeCells z.cells (c.toNat * i.size)) (l := List.replicate n.toNat p.1) hxc hfl k1 k2 (ks := []) (fun k hk => by cases hk) (fun k hk => by cases hk) (B := fun _ _ => False) (fun _ _ h => h.elim) (fun _ _ _ h => h.elim) hcl
            (fun j x hj => by
              obtain ⟨rfl, h9⟩ := at_of_reps hrr j x hj
              rw [h9]
              exact ⟨hv2, _, [], hzv, by rw [hgn]; exact World.ownsRow_nil _ _ _ _, by rw [hgn]; rfl, fun k hk => by simp [Value.ownBlock] at hk⟩)
            hcu1 hcu2 hcu3 hcu4
          rw [hnn] at this
          exact this
      · exact hrow
    · exact hrow
  · exact h.elim
theorem base_ok (L : Laws S Q) {e : Env S.T} (I : Inv Q e) {te : TypeId} {s : SC S.T} (hz : s ≠ .z0) {v : Value} (hv : hold Q e v s) {p : List (S.T te) × Dp} (hp : baseX e.ob te s = some p) (hvd : valid e.ob p.2 = true) :
    ∃ id cs, Base Q e te v id p.2 p.1 cs ∧ id.toList = idOf s := by
  unfold baseX at hp
  cases s with
  | z0 => exact absurd rfl hz
  | nil =>
    simp only [Option.some.injEq] at hp
    subst hp
    have hv : v = .slice none 0 0 := hv
    subst hv
    exact ⟨none, [], ⟨World.ownsRow_nil _ _ _ _, fun p hp => (by cases hp), fun i hi => (by cases hi), fun k hk => by simp [Value.ownBlock] at hk, rfl⟩, rfl⟩
  | row i =>
    simp only at hp
    split at hp
    · rename_i s' t' d l ho
      split at hp
      · rename_i ht
        subst ht
        simp only [Option.some.injEq] at hp
        subst hp
        obtain ⟨hi, rfl⟩ := hv
        obtain ⟨⟨so, hso, hne⟩, _, _, hd, hown, cs, hr, hreps⟩ := lookR_ok L.toPre I ho
        refine ⟨some i, cs, ⟨hr, hd, fun j hj => (by cases hj; exact ⟨s', _, hso, hne⟩), fun k hk => ⟨i, rfl, hown k hk⟩, reps_imp (fun x c hx => L.mono _ _ _ _ _ _ ?_ hx) (hreps hvd)⟩, rfl⟩
        rintro k (⟨hk, hn⟩ | hk)
        · exact .inl ⟨⟨i, rfl, hk⟩, hn⟩
        · exact .inr hk
      · cases hp
    · cases hp
  | cut i n =>
    simp only at hp
    split at hp
    · rename_i s' t' d l ho
      split at hp
      · rename_i ht
        subst ht
        simp only [Option.some.injEq] at hp
        subst hp
        obtain ⟨hi, h0, A, m, c, hβ, hnm, rfl⟩ := hv
        obtain ⟨⟨so, hso, hne⟩, _, _, hd, hown, cs, hr, hreps⟩ := lookR_ok L.toPre I ho
        have hreps := hreps hvd
        rcases hr.2 with ⟨h5, hl0⟩ | ⟨g, cap, cur, hβ', _, hh, hnc, hcm, hcs, htk⟩
        · rw [h5] at hβ
          cases hβ
          have hn0 : n.toNat = 0 := by omega
          simp only [hn0, List.take_zero]
          exact ⟨some i, [], ⟨World.ownsRow_nil _ _ _ _, hd, fun j hj => (by cases hj; exact ⟨s', _, hso, hne⟩), fun k hk => by simp [Value.ownBlock] at hk, rfl⟩, rfl⟩
        · rw [hβ'] at hβ
          cases hβ
          have hlen : (l.take n.toNat).length = n.toNat := by rw [List.length_take]; omega
          have hob : (e.β i).ownBlock = some g := by rw [hβ']; rfl
          have hall := reps_len hreps
          refine ⟨some i, cs.take (n.toNat * S.sz t'), ⟨?_, hd, fun j hj => (by cases hj; exact ⟨s', _, hso, hne⟩), fun k hk => ⟨i, rfl, hown k (by rw [hob]; simpa [Value.ownBlock] using hk)⟩, reps_imp (fun x c hx => L.mono _ _ _ _ _ _ ?_ hx) (reps_take _ hreps)⟩, rfl⟩
          · rw [hlen]
            have hmul := Nat.mul_le_mul_right (S.sz t') hnm
            refine ⟨by rw [List.length_take]; omega, .inr ⟨g, c, cur, rfl, Nat.zero_le _, hh, by omega, hcm, hcs, ?_⟩⟩
            rw [← htk, List.take_take, Nat.min_eq_left hmul]
          · rintro k (⟨hk, hn⟩ | hk)
            · refine .inl ⟨⟨i, rfl, hk⟩, ?_⟩
              rw [hob] at hn
              simpa [Value.ownBlock] using hn
            · exact .inr hk
      · cases hp
    · cases hp
  | _ => cases hp
theorem append_zero (L : Laws S Q) {w : World} {t te ty : TypeId} (hu : S.P.underlying t = some (.slice te)) (hk : S.known te = true) (hb1 : 1 ≤ bytesOf S te) {A B : Option Addr} {n c : Nat} (hn : n ≠ 0) (hrm : n * bytesOf S te ≤ 140737488351232) :
    (Builtin.append_ #[t, t] ty #[.slice A 0 0, .slice B n c]).run S.P w = (Builtin.append_ #[t, t] ty #[.slice none 0 0, .slice B n c]).run S.P w := by
  have hpos : ¬ n ≤ 0 := by omega
  cases A with
  | none => rfl
  | some ad =>
    obtain ⟨td, htd⟩ : ∃ td, S.td te = some td := by
      unfold Sig.known at hk
      cases h : S.td te with
      | none => rw [h] at hk; cases hk
      | some d => exact ⟨d, rfl⟩
    obtain ⟨i, z, hi, hz, hsz', hby, _, hzs⟩ := info_parts' L htd
    have hcap : ¬ Builtin.nextslicecap n 0 * i.bytes > 2 ^ 48 := by
      have : Builtin.nextslicecap n 0 = n := by
        unfold Builtin.nextslicecap
        rw [if_pos (by omega)]
      rw [this, hby]
      omega
    have hbz : ¬ i.bytes = 0 := by omega
    have hcap2 : Builtin.nextslicecap n 0 * i.bytes ≤ 281474976710656 := by simpa using hcap
    have hcap3 : ¬ 281474976710656 < Builtin.nextslicecap n 0 * i.bytes := by omega
    simp [Builtin.append_, run_underlying hu, sizeOf, typeInfo, hi, Builtin.lenOf, Builtin.firstCells, hpos, hn, hbz, hcap2, hcap3, loadCells, loadCellsFrom]
theorem appendD_ok (L : Laws S Q) {e : Env S.T} (I : Inv Q e) {fr : Nat} (hfr : ¬ e.U fr) {t te ty : TypeId} {s x : SC S.T} {v v2 : Value} (hv : hold Q e v s) (hv2 : hold Q e v2 x) (hu : S.P.underlying t = some (.slice te)) (hk : S.known te = true) (hs1 : 1 ≤ S.sz te) (hb1 : 1 ≤ bytesOf S te) {u : Upd S.T} (h : (appendD e.ob fr te s x).Can u) :
    ∃ v' w1, (Builtin.append_ #[t, t] ty #[v, v2]).run S.P e.w = .ok v' w1 ∧ Eff Q e fr v' w1 u := by
  unfold appendD at h
  replace h := can_or h; obtain ⟨ct, hct, h⟩ := h
  replace h := can_or h; obtain ⟨p, hp, h⟩ := h
  split at h
  rotate_left
  · exact h.elim
  rename_i k
  replace h := can_or h; obtain ⟨q, hq, h⟩ := h
  replace h := can_guard h; obtain ⟨hg, h⟩ := h
  replace h := can_guard h; obtain ⟨hg2, h⟩ := h
  simp only [Bool.and_eq_true] at hg hg2
  obtain ⟨⟨⟨hids, hkd⟩, hkq⟩, hfl⟩ := hg
  obtain ⟨hvp, hvq⟩ := hg2
  have hv2 : _ ∧ v2 = e.β k := hv2
  obtain ⟨_, rfl⟩ := hv2
  obtain ⟨_, _, news, B2, R2, hK⟩ := baseD_row L I hq hvq
  have hik : ∀ i, i ∈ idOf s → i ≠ k ∧ noId i q.2 = true ∧ noId i p.2 = true := by
    intro i hi
    have := List.all_eq_true.1 hids i hi
    simp only [Bool.and_eq_true, Bool.not_eq_true'] at this
    exact ⟨fun e1 => by rw [e1, Nat.beq_refl] at this; exact absurd this.1.1 (by decide), this.1.2, this.2⟩
  have hbase : s ≠ .z0 → ∃ id cs B R, BaseD Q e te ct.1 ct.2 v id p.2 p.1 cs B R ∧ id.toList = idOf s := by
    intro hz
    cases s with
    | nil =>
      simp only [baseD, Option.some.injEq] at hp
      subst hp
      have hv : v = .slice none 0 0 := hv
      subst hv
      exact ⟨none, _, _, _, BaseD.nil, rfl⟩
    | z0 => exact absurd rfl hz
    | row i =>
      have hv : _ ∧ v = e.β i := hv
      obtain ⟨_, rfl⟩ := hv
      obtain ⟨_, _, cs, B, R, hb⟩ := baseD_row L I hp hvp
      exact ⟨some i, cs, B, R, hb, rfl⟩
    | cut i n =>
      obtain ⟨_, _, cs, B, R, hb⟩ := baseD_cut L I hv hp hvp
      exact ⟨some i, cs, B, R, hb, rfl⟩
    | _ => cases hp
  by_cases hz : s = .z0
  · subst hz
    obtain ⟨A, rfl⟩ := hv
    obtain ⟨hn, h⟩ : decide (q.1.length = 0) = false ∧ _ := by
      rcases h with ⟨_, h⟩ | h
      · exact h.elim
      · exact h
    replace h := can_br h; obtain ⟨hrm, h⟩ := h
    have h := can_ret h
    subst h
    simp only [decide_eq_true_eq] at hrm
    simp only [decide_eq_false_iff_not] at hn
    have hp' : p = ([], []) := by simpa [baseD] using hp.symm
    subst hp'
    obtain ⟨v', w1, r1, r2⟩ := append_deep L I hfr (ty := ty) hct hfl (BaseD.nil (Q := Q) (e := e)) rfl hK hvq (fun i hi => by cases hi) rfl hkq hu hk hs1 hb1 hrm
    refine ⟨v', w1, ?_, r2⟩
    rw [← r1]
    rcases hK.own.2 with ⟨_, h2⟩ | ⟨g, cap, cur, h1, _⟩
    · exact absurd h2 hn
    · rw [h1]
      exact append_zero L hu hk hb1 hn (by simpa using hrm)
  · have hnz : ∀ (n : Nat) (t : Ret S), noZ s n t = t := by
      intro n t
      unfold noZ
      cases s <;> first | rfl | exact absurd rfl hz
    rw [hnz] at h
    replace h := can_br h; obtain ⟨hrm, h⟩ := h
    have h := can_ret h
    subst h
    simp only [decide_eq_true_eq] at hrm
    obtain ⟨id, cs, B, R, hb, hid⟩ := hbase hz
    obtain ⟨v', w1, r1, r2⟩ := append_deep L I hfr (ty := ty) hct hfl hb hvp hK hvq (fun i hi => hik i (by rw [← hid, hi]; simp)) hkd hkq hu hk hs1 hb1 hrm
    rw [hid] at r2
    exact ⟨v', w1, r1, r2⟩
theorem appendX_ok (L : Laws S Q) {e : Env S.T} (I : Inv Q e) {fr : Nat} (hfr : ¬ e.U fr) {t t2 ty : TypeId} {a b : SX S.T} {v v2 : Value} (hv : holdX Q e v a) (hv2 : holdX Q e v2 b) {u : Upd S.T} (h : (appendX e.ob fr t t2 a b).Can u) :
    ∃ v' w1, (Builtin.append_ #[t, t2] ty #[v, v2]).run S.P e.w = .ok v' w1 ∧ Eff Q e fr v' w1 u := by
  unfold appendX at h
  replace h := can_or h; obtain ⟨te, hte, h⟩ := h
  replace h := can_guard h; obtain ⟨hg, h⟩ := h
  simp only [Bool.and_eq_true] at hg
  obtain ⟨⟨⟨htt, hk⟩, hs1⟩, hb1⟩ := hg
  have htt := beq_eq' htt
  subst htt
  split at h
  · rename_i i sv j x
    exact appendS_ok L I hfr hv hv2 (td_elem L hte) hk (ble_le hs1) (ble_le hb1) h
  · rename_i s x _
    cases hta : testA e.ob s x with
    | true =>
      rw [hta] at h
      exact appendD_ok L I hfr hv hv2 (td_elem L hte) hk (ble_le hs1) (ble_le hb1) h
    | false =>
    rw [hta] at h
    simp only [cond_false] at h
    replace h := can_or h; obtain ⟨p, hp, h⟩ := h
    replace h := can_or h; obtain ⟨q, hq, h⟩ := h
    replace h := can_guard h; obtain ⟨hni, h⟩ := h
    replace h := can_guard h; obtain ⟨hvd, h⟩ := h
    obtain ⟨q1, q2, q3⟩ := asList_ok L I hv2 hq
    have hu := td_elem L hte
    by_cases hz : s = .z0
    · subst hz
      obtain ⟨A, rfl⟩ := hv
      obtain ⟨hn, h⟩ : decide (q.1.length = 0) = false ∧ _ := by
        rcases h with ⟨_, h⟩ | h
        · exact h.elim
        · exact h
      replace h := can_br h; obtain ⟨hrm, h⟩ := h
      have h := can_ret h
      subst h
      simp only [decide_eq_true_eq] at hrm
      simp only [decide_eq_false_iff_not] at hn
      have hp' : p = ([], []) := by simpa [baseX] using hp.symm
      subst hp'
      obtain ⟨v', w1, r1, r2⟩ := append_base L I hfr (ty := ty) (v := .slice none 0 0) (id := none) (d := []) (l := []) (cs := []) ⟨World.ownsRow_nil _ _ _ _, fun p hp => (by cases hp), fun i hi => (by cases hi), fun k hk => by simp [Value.ownBlock] at hk, rfl⟩ rfl q1 q2 q3 (fun i hi => by cases hi) hu hk (ble_le hs1) (ble_le hb1) hrm
      refine ⟨v', w1, ?_, r2⟩
      rw [← r1]
      obtain ⟨B, c, rfl, hc, hsrc⟩ := q3
      exact append_zero L hu hk (ble_le hb1) hn (by simpa using hrm)
    have hnz : ∀ (n : Nat) (t : Ret S), noZ s n t = t := by
      intro n t
      unfold noZ
      cases s <;> first | rfl | exact absurd rfl hz
    rw [hnz] at h
    replace h := can_br h; obtain ⟨hrm, h⟩ := h
    have h := can_ret h
    subst h
    simp only [decide_eq_true_eq] at hrm
    obtain ⟨id, cs, hb, hid⟩ := base_ok L I hz hv hp hvd
    obtain ⟨v', w1, r1, r2⟩ := append_base L I hfr (ty := ty) hb hvd q1 q2 q3 (fun i hi => by
      have hm : i ∈ idOf s := by rw [← hid, hi]; simp
      have := List.all_eq_true.1 hni i hm
      simpa using this) hu hk (ble_le hs1) (ble_le hb1) hrm
    rw [hid] at r2
    exact ⟨v', w1, r1, r2⟩
  · exact h.elim
end
end Go.Proofs.Ytheemkehedmlfaa.E
