/- The law FnCompressed answers true at every input, and leaves its arguments as they were. -/
import Derived.Test.YtpfoeologjacfaaLFnCompressed
import Derived.Test.YtpfoeologjacfaaF4
import Derived.KernelRfl
namespace Go.Proofs.Ytpfoeologjacfaa.Pure
open Go.RowKit Go.Proofs.Ytpfoeologjacfaa.F Go.Proofs.YtpfoeologjacfaaW.PrintWords Go.Proofs.YtpfoeologjacfaaW.PrintLast Go.Proofs.YtpfoeologjacfaaW.PrintMore
set_option linter.unusedVariables false
set_option linter.unusedSimpArgs false

theorem tail_go (n : Nat) (B : Nat) (hn : n ≤ 60) (hB : B < 2 ^ n) : ∀ (z p : Nat) (C : List Int), C.length ≤ 64 → p ≤ C.length → C.drop p = List.replicate z 0 →
    Ev (fun k => laws_FnCompressed.l1 k (n : Int) C (B : Int) (p : Int)) true := by
  intro z
  induction z with
  | zero =>
    intro p C hl hp hC
    have : C.length ≤ p := List.drop_eq_nil_iff.1 hC
    refine Ev.step (fun k => laws_FnCompressed.l1.eq_2 _ _ _ _ _) (Ev.if_neg (by omega) ?_)
    rw [u64w (x := (n : Int)) (by omega) (by omega)]
    refine Ev.if_pos (by omega) (Ev.some' ?_)
    have := shl_nat 1 n (by omega) hn
    rw [show (1 : Int) = ((1 : Nat) : Int) from rfl, this]
    simp only [decide_eq_true_eq]
    omega
  | succ z ih =>
    intro p C hl hp hC
    rw [List.replicate_succ] at hC
    obtain ⟨h1, h2, h3⟩ := drop_cons hC
    refine Ev.step (fun k => laws_FnCompressed.l1.eq_2 _ _ _ _ _) (Ev.if_pos (by omega) (Ev.if_pos (by omega) (Ev.if_pos (by rw [rd_at C p h1]; exact h2) ?_)))
    rw [w64 (x := (p : Int) + 1) (by omega) (by omega)]
    exact ih (p + 1) C hl (by omega) h3
theorem law_go (M : List Nat) (V C : List Int) (hV : V.length = M.length) (hl : M.length ≤ 60) (hm : ∀ x ∈ M, x ≤ 1) (hC0 : C.length = M.length) :
    ∀ (d j p z : Nat), j + d = M.length → p ≤ j → C.drop p = sel (M.drop j) (V.drop j) ++ List.replicate z 0 →
      Ev (fun k => laws_FnCompressed.l0 k (M.length : Int) V (cast M) C (lit M V) ((numOf M : Nat) : Int) (p : Int) (j : Int)) true := by
  intro d
  induction d with
  | zero =>
    intro j p z hj hp hC
    have e : sel (M.drop j) (V.drop j) = [] := by rw [List.drop_of_length_le (by omega)]; rfl
    rw [e] at hC
    refine Ev.step (fun k => laws_FnCompressed.l0.eq_2 _ _ _ _ _ _ _ _ _) (Ev.if_neg (by omega) ?_)
    exact tail_go M.length (numOf M) hl (numOf_lt M hm) z p C (by omega) (by omega) hC
  | succ d ih =>
    intro j p z hj hp hC
    have hj' : j < M.length := by omega
    have hL := lit_length M V hV
    refine Ev.step (fun k => laws_FnCompressed.l0.eq_2 _ _ _ _ _ _ _ _ _) (Ev.if_pos (by omega) ?_)
    rw [u64w (x := (j : Int)) (by omega) (by omega)]
    refine Ev.if_pos (by omega) (Ev.if_pos (by omega) (Ev.if_pos (by rw [cast_length]; omega) ?_))
    rw [bit_at M j hj' hl hm, cast_at M j hj', rd_at V j (by omega), rd_at (lit M V) j (by omega), lit_at M V j (by omega) hj' (by omega), w64 (x := (j : Int) + 1) (by omega) (by omega)]
    rw [sel_step M V j (by omega) (by omega)] at hC
    refine Ev.if_pos rfl ?_
    by_cases h : M[j] = 1
    · rw [_root_.if_pos h] at hC
      obtain ⟨hp1, hp2, hp3⟩ := drop_cons hC
      rw [rd_at C p hp1, hp2, _root_.if_pos h, w64 (x := (p : Int) + 1) (by omega) (by omega)]
      exact Ev.if_pos (by omega) (Ev.if_pos (by omega) (Ev.if_pos (by omega) (Ev.if_pos rfl (Ev.if_pos (by omega) (Ev.if_pos rfl (ih (j + 1) (p + 1) z (by omega) (by omega) hp3))))))
    · rw [_root_.if_neg h] at hC
      rw [_root_.if_neg h]
      exact Ev.if_neg (by omega) (Ev.if_pos (by omega) (Ev.if_pos rfl (ih (j + 1) p z (by omega) (by omega) hC)))
theorem masked (b : Int) (M : List Nat) (V : List Int) (hB : bitsB b = true) (hn : lanesB M.length = true) (hm : ∀ x ∈ M, x ≤ 1) (hV : V.length = M.length) (hw : ∀ x ∈ V, wordB b x = true) : impl_areMasked.f b (cast M) [V] = some true := by
  have h1 : maskB (cast M) = true := by
    unfold maskB
    rw [cast_length, hn]
    simp only [Bool.true_and, List.all_eq_true]
    intro x hx
    simp only [F.cast, List.mem_map] at hx
    obtain ⟨y, hy, rfl⟩ := hx
    have := hm y hy
    simp [bitB]; omega
  have h2 : vecB b V = true := by
    unfold vecB
    rw [hB, hV, hn]
    simpa using hw
  have h3 : impl_areVectors_1.f V b [V] = some true := by
    unfold impl_areVectors_1.f
    rw [show impl_IsVector.f b V = some (vecB b V) from rfl, h2]
    simp [rd_L2]
  have h4 : impl_areAll_int64_at_impl_areVectors_1.f [V] b [V] = some true := by
    unfold impl_areAll_int64_at_impl_areVectors_1.f
    rw [allO_total (p := fun _ => true) [V] (fun x hx => by
      obtain rfl : x = V := by simpa using hx
      exact h3)]
    simp
  unfold impl_areMasked.f impl_areVectors.f
  rw [h4, show impl_IsMask.f (cast M) = some (maskB (cast M)) from rfl, h1]
  simp only [Option.bind_some, if_true]
  rw [_root_.if_pos (by simp), show rd_L2 [V] 0 = V from rfl, cast_length, hV]
  simp
theorem FnCompressed : laws_FnCompressed.Pure := by
  intro l0 l1 _ _ hw0 _ _ hw1
  refine Ev.rounds ?_
  have hb0 : ∀ x ∈ l0, 0 ≤ x ∧ x ≤ 255 := fun x hx => wf8 (hw0 x hx)
  have hb1 : ∀ x ∈ l1, 0 ≤ x ∧ x ≤ 255 := fun x hx => wf8 (hw1 x hx)
  obtain ⟨b, hb, hB⟩ := R8Bits_eq l0 hb0
  have hBB : bitsB b = true := by rcases hB with rfl | rfl | rfl <;> rfl
  obtain ⟨n', hn', hn⟩ := R8Lanes_eq l1 hb1
  obtain ⟨n, rfl⟩ := Int.eq_ofNat_of_zero_le (show 0 ≤ n' by omega)
  obtain ⟨V, hV, hVw, hVe⟩ := R8Vector_eq l0 b n hb0 hB (by omega)
  obtain ⟨M, hM, hm, hMe⟩ := R8Mask_eq l1 n hb1 (by omega)
  subst hM
  have hL : lanesB (M.length : Int) = true := by rcases hn with h | h | h | h <;> rw [h] <;> rfl
  have hk := masked b M V hBB hL hm hV hVw
  have hc := compress_go M V hV (by omega) M.length 0 [] (by omega) (by simp)
  simp only [List.drop_zero, List.nil_append, List.length_nil, Nat.sub_zero] at hc
  change Ev _ (packed M V) at hc
  have hpl := packed_length M V
  have hpd : (packed M V).drop 0 = sel (M.drop 0) (V.drop 0) ++ List.replicate (V.length - (sel M V).length) 0 := rfl
  have hpw : ∀ x ∈ packed M V, wordB b x = true := by
    have hz : wordB b 0 = true := by rcases hB with rfl | rfl | rfl <;> kernel_rfl
    have hs : ∀ (M : List Nat) (V : List Int), (∀ x ∈ V, wordB b x = true) → ∀ x ∈ sel M V, wordB b x = true := by
      intro M
      induction M with
      | nil => intro V _ x hx; simp [sel] at hx
      | cons m M ih =>
        intro V hV x hx
        cases V with
        | nil => simp [sel] at hx
        | cons v V =>
          unfold sel at hx
          split at hx
          · rcases List.mem_cons.1 hx with rfl | h
            · exact hV _ (by simp)
            · exact ih V (fun y hy => hV y (by simp [hy])) x h
          · exact ih V (fun y hy => hV y (by simp [hy])) x hx
    intro x hx
    rcases List.mem_append.1 hx with h | h
    · exact hs M V hVw x h
    · rw [List.eq_of_mem_replicate h]; exact hz
  obtain ⟨t, ht⟩ : ∃ t, laws_r8Long.f l0 l1 = some t := by unfold laws_r8Long.f; split <;> exact ⟨_, rfl⟩
  unfold laws_FnCompressed.f
  refine Ev.bind' ht ?_
  by_cases h : t = true
  · exact Ev.if_pos h (Ev.now _)
  refine Ev.if_neg h (Ev.bind' hb (Ev.bind' hn' (Ev.bind hVe (Ev.bind hMe ?_))))
  have hC : Ev (fun k => impl_CompressLanes.f k b (cast M) V) (packed M V, true) := by
    unfold impl_CompressLanes.f impl_compressed.f
    exact Ev.bind' hk (Ev.if_pos rfl (Ev.bind hc (Ev.now _)))
  have hE : Ev (fun k => impl_ExpandLanes.f k b (cast M) (packed M V)) (lit M V, true) := by
    unfold impl_ExpandLanes.f
    refine Ev.bind' (masked b M (packed M V) hBB hL hm (by omega) hpw) (Ev.if_pos rfl (Ev.if_pos (by omega) (Ev.if_pos (by omega) ?_)))
    rw [cast_length]
    exact expand_go M V (packed M V) hV (by omega) M.length 0 0 _ _ (by omega) (by omega) (by simp; omega) hpd (fun i hi => by simp)
  have hN : Ev (fun k => impl_BitsOfLanes.f k (cast M)) ((numOf M : Nat), true) := by
    unfold impl_BitsOfLanes.f
    have h1 : maskB (cast M) = true := by
      unfold maskB
      rw [cast_length, hL]
      simp only [Bool.true_and, List.all_eq_true]
      intro x hx
      simp only [F.cast, List.mem_map] at hx
      obtain ⟨y, hy, rfl⟩ := hx
      have := hm y hy
      simp [bitB]; omega
    refine Ev.bind' (a := true) (by show some (maskB (cast M)) = _; rw [h1]) (Ev.if_pos rfl ?_)
    rw [cast_length]
    exact bits_go M (by omega) hm M.length 0 (by omega)
  have hlit := lit_length M V hV
  refine Ev.bind hC (Ev.bind hE (Ev.bind hN (Ev.if_pos rfl (Ev.if_pos rfl (Ev.if_pos rfl (Ev.if_pos (by show ((packed M V).length : Int) = (V.length : Int); omega) ?_))))))
  refine Ev.step (fun k => laws_FnCompressed.j0.eq_2 _ _ _ _ _ _ _ _) (Ev.if_neg (by simp; omega) ?_)
  exact law_go M V (packed M V) hV (by omega) hm (by omega) M.length 0 0 _ (by omega) (by omega) hpd

end Go.Proofs.Ytpfoeologjacfaa.Pure
