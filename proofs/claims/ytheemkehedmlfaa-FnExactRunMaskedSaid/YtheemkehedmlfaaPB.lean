import Derived.Test.YtheemkehedmlfaaPA
set_option linter.unusedVariables false
set_option linter.unusedSimpArgs false
set_option maxRecDepth 4000
namespace Go.Proofs.Ytheemkehedmlfaa.P
open Go Go.Proofs.Ytheemkehedmlfaa.E
theorem wrap_nat (n : Nat) (h : n < 9223372036854775808) : IntKind.wrap .i64 (n : Int) = (n : Int) := wr_id (by omega) (by omega)
theorem and_nat {x y : Int} : andI .i64 x y = IntKind.wrap .i64 (((x % 18446744073709551616).toNat &&& (y % 18446744073709551616).toNat : Nat) : Int) := by
  unfold andI
  rw [BitVec.toNat_and, BitVec.toNat_ofInt, BitVec.toNat_ofInt]
  rfl
theorem or_nat {x y : Int} : orI .i64 x y = IntKind.wrap .i64 (((x % 18446744073709551616).toNat ||| (y % 18446744073709551616).toNat : Nat) : Int) := by
  unfold orI
  rw [BitVec.toNat_or, BitVec.toNat_ofInt, BitVec.toNat_ofInt]
  rfl
theorem xor_nat {x y : Int} : xorI .i64 x y = IntKind.wrap .i64 (((x % 18446744073709551616).toNat ^^^ (y % 18446744073709551616).toNat : Nat) : Int) := by
  unfold xorI
  rw [BitVec.toNat_xor, BitVec.toNat_ofInt, BitVec.toNat_ofInt]
  rfl
theorem mask4 (n : Int) : andI .i64 n 15 = n % 16 := by
  rw [and_nat, show ((15 : Int) % 18446744073709551616).toNat = 2 ^ 4 - 1 from by decide, Nat.and_two_pow_sub_one_eq_mod, wrap_nat _ (by omega)]
  omega
theorem mask8 (n : Int) : andI .i64 n 255 = n % 256 := by
  rw [and_nat, show ((255 : Int) % 18446744073709551616).toNat = 2 ^ 8 - 1 from by decide, Nat.and_two_pow_sub_one_eq_mod, wrap_nat _ (by omega)]
  omega
theorem mask16 (n : Int) : andI .i64 n 65535 = n % 65536 := by
  rw [and_nat, show ((65535 : Int) % 18446744073709551616).toNat = 2 ^ 16 - 1 from by decide, Nat.and_two_pow_sub_one_eq_mod, wrap_nat _ (by omega)]
  omega
theorem bits_small {k : Nat} (hk : k ≤ 16) {a b : Int} (ha : 0 ≤ a ∧ a < ((2 ^ k : Nat) : Int)) (hb : 0 ≤ b ∧ b < ((2 ^ k : Nat) : Int)) :
    (0 ≤ andI .i64 a b ∧ andI .i64 a b < ((2 ^ k : Nat) : Int)) ∧ (0 ≤ orI .i64 a b ∧ orI .i64 a b < ((2 ^ k : Nat) : Int)) ∧ (0 ≤ xorI .i64 a b ∧ xorI .i64 a b < ((2 ^ k : Nat) : Int)) := by
  have hp : 2 ^ k ≤ 2 ^ 16 := Nat.pow_le_pow_right (by decide) hk
  have h1 : (a % 18446744073709551616).toNat < 2 ^ k := by omega
  have h2 : (b % 18446744073709551616).toNat < 2 ^ k := by omega
  have g1 := Nat.and_lt_two_pow (a % 18446744073709551616).toNat h2
  have g2 := Nat.or_lt_two_pow h1 h2
  have g3 := Nat.xor_lt_two_pow h1 h2
  rw [and_nat, or_nat, xor_nat, wrap_nat _ (by omega), wrap_nat _ (by omega), wrap_nat _ (by omega)]
  omega
def sg (b a : Int) : Int := if b = 4 then (if a < 8 then a else a - 16) else if b = 8 then (if a < 128 then a else a - 256) else (if a < 32768 then a else a - 65536)
theorem wordV_iff {b x : Int} (hb : bitsV b = true) : wordV b x = true ↔ 0 ≤ x ∧ x ≤ (if b = 4 then 15 else if b = 8 then 255 else 65535) := by
  simp [wordV, hb]
theorem wrp4 : IntKind.wrap .u64 (IntKind.wrap .i64 (4 - 1)) = 3 := by decide +kernel
theorem wrp8 : IntKind.wrap .u64 (IntKind.wrap .i64 (8 - 1)) = 7 := by decide +kernel
theorem wrp16 : IntKind.wrap .u64 (IntKind.wrap .i64 (16 - 1)) = 15 := by decide +kernel
theorem u3 : IntKind.wrap .u64 3 = 3 := by decide +kernel
theorem u7 : IntKind.wrap .u64 7 = 7 := by decide +kernel
theorem u15 : IntKind.wrap .u64 15 = 15 := by decide +kernel
theorem wri4 : IntKind.wrap .i64 (4 - 1) = 3 := by decide +kernel
theorem wri8 : IntKind.wrap .i64 (8 - 1) = 7 := by decide +kernel
theorem wri16 : IntKind.wrap .i64 (16 - 1) = 15 := by decide +kernel
theorem shl3 : shlI .i64 1 3 = 8 := by decide +kernel
theorem shl4 : shlI .i64 1 4 = 16 := by decide +kernel
theorem shl7 : shlI .i64 1 7 = 128 := by decide +kernel
theorem shl8 : shlI .i64 1 8 = 256 := by decide +kernel
theorem shl15 : shlI .i64 1 15 = 32768 := by decide +kernel
theorem shl16 : shlI .i64 1 16 = 65536 := by decide +kernel
theorem shr3 (a : Int) : shrI .i64 a 3 = a / 8 := Int.fdiv_eq_ediv_of_nonneg a (by decide)
theorem shr7 (a : Int) : shrI .i64 a 7 = a / 128 := Int.fdiv_eq_ediv_of_nonneg a (by decide)
theorem shr15 (a : Int) : shrI .i64 a 15 = a / 32768 := Int.fdiv_eq_ediv_of_nonneg a (by decide)
theorem sg_spec (N : Nat) {b a : Int} (hb : bitsV b = true) (ha : wordV b a = true) : F_spec_l01Signed N (b, (a, ())) = some (sg b a, ()) := by
  rw [wordV_iff hb] at ha
  unfold F_spec_l01Signed
  rcases bits_cases hb with rfl | rfl | rfl
  all_goals
    simp at ha
    simp only [wrp4, wrp8, wrp16, u4, u8, u16, shl4, shl8, shl16, shr3, shr7, shr15, sg]
    simp only [show ¬ ((8 : Int) = 4) by decide, show ¬ ((16 : Int) = 4) by decide, show ¬ ((16 : Int) = 8) by decide, if_true, if_false]
    split
    · (repeat (first | refine xt ?_ | refine xf ?_ | refine yt ?_ | refine yf ?_))
      rfl
    · (repeat (first | refine xt ?_ | refine xf ?_ | refine yt ?_ | refine yf ?_))
      rw [wr_id (by omega) (by omega)]
theorem sg_impl (N : Nat) {b a : Int} (hb : bitsV b = true) (ha : wordV b a = true) : F_impl_signedOf N (b, (a, ())) = some (sg b a, ()) := by
  rw [wordV_iff hb] at ha
  unfold F_impl_signedOf
  rcases bits_cases hb with rfl | rfl | rfl
  all_goals
    simp at ha
    simp only [wri4, wri8, wri16, shl3, shl7, shl15, shl4, shl8, shl16, sg]
    simp only [show ¬ ((8 : Int) = 4) by decide, show ¬ ((16 : Int) = 4) by decide, show ¬ ((16 : Int) = 8) by decide, if_true, if_false]
    split
    · (repeat (first | refine xt ?_ | refine xf ?_ | refine yt ?_ | refine yf ?_))
      try rfl
    · (repeat (first | refine xt ?_ | refine xf ?_ | refine yt ?_ | refine yf ?_))
      rw [wr_id (by omega) (by omega)]
theorem test_ok (N : Nat) {c b x y : Int} (hb : bitsV b = true) (hx : wordV b x = true) (hy : wordV b y = true) : ∃ t, F_spec_l01Test N (c, (b, (x, (y, ())))) = some (t, ()) ∧ F_impl_holds N (c, (b, (x, (y, ())))) = some (t, ()) := by
  unfold F_spec_l01Test F_impl_holds
  simp only [sg_spec N hb hx, sg_spec N hb hy, sg_impl N hb hx, sg_impl N hb hy, Option.bind_some]
  by_cases h0 : c = 0
  · subst h0; exact ⟨_, rfl, rfl⟩
  by_cases h1 : c = 1
  · subst h1; exact ⟨_, rfl, rfl⟩
  by_cases h2 : c = 2
  · subst h2; exact ⟨_, rfl, rfl⟩
  by_cases h3 : c = 3
  · subst h3; exact ⟨_, rfl, rfl⟩
  by_cases h4 : c = 4
  · subst h4; exact ⟨_, rfl, rfl⟩
  simp only [h0, h1, h2, h3, h4, decide_false, cond_false]
  exact ⟨_, rfl, rfl⟩
theorem wrap_spec (N : Nat) {b n : Int} (hb : bitsV b = true) : F_spec_l01Wrap N (b, (n, ())) = some (n % (if b = 4 then 16 else if b = 8 then 256 else 65536), ()) := by
  unfold F_spec_l01Wrap
  rcases bits_cases hb with rfl | rfl | rfl
  · simp only [u4, v4, mask4]; (repeat (first | refine xt ?_ | refine xf ?_ | refine yt ?_ | refine yf ?_)); rfl
  · simp only [u8, v8, mask8]; (repeat (first | refine xt ?_ | refine xf ?_ | refine yt ?_ | refine yf ?_)); rfl
  · simp only [u16, v16, mask16]; (repeat (first | refine xt ?_ | refine xf ?_ | refine yt ?_ | refine yf ?_)); rfl
theorem wrap_impl (N : Nat) {b n : Int} (hb : bitsV b = true) : F_impl_wrapped N (b, (n, ())) = some (n % (if b = 4 then 16 else if b = 8 then 256 else 65536), ()) := by
  unfold F_impl_wrapped
  rcases bits_cases hb with rfl | rfl | rfl
  · simp only [v4, mask4]; (repeat (first | refine xt ?_ | refine xf ?_ | refine yt ?_ | refine yf ?_)); rfl
  · simp only [v8, mask8]; (repeat (first | refine xt ?_ | refine xf ?_ | refine yt ?_ | refine yf ?_)); rfl
  · simp only [v16, mask16]; (repeat (first | refine xt ?_ | refine xf ?_ | refine yt ?_ | refine yf ?_)); rfl
theorem max_spec (N : Nat) (a b : Int) : F_spec_l00Max N (a, (b, ())) = some (max a b, ()) := by
  unfold F_spec_l00Max
  by_cases h : a > b
  · simp only [h, decide_true, cond_true]; rw [Int.max_eq_left (by omega)]
  · simp only [h, decide_false, cond_false]; rw [Int.max_eq_right (by omega)]
theorem wu (b x : Int) (hb : bitsV b = true) (hx : wordV b x = true) : 0 ≤ Int.tmod x b ∧ IntKind.wrap .u64 (Int.tmod x b) = Int.tmod x b ∧ Int.tmod x b ≤ 15 := by
  rw [wordV_iff hb] at hx
  have h0 : 0 ≤ Int.tmod x b ∧ Int.tmod x b ≤ 15 := by
    rw [Int.tmod_eq_emod_of_nonneg hx.1]
    rcases bits_cases hb with rfl | rfl | rfl <;> omega
  refine ⟨h0.1, ?_, h0.2⟩
  have : ∀ z : Int, 0 ≤ z → z ≤ 15 → IntKind.wrap .u64 z = z := by
    intro z h1 h2
    obtain ⟨n, rfl⟩ : ∃ n : Nat, z = n := ⟨z.toNat, by omega⟩
    have : n < 16 := by omega
    have hall : ∀ n, n < 16 → IntKind.wrap .u64 ((n : Nat) : Int) = (n : Int) := by decide +kernel
    exact hall n this
  exact this _ h0.1 h0.2
theorem shr_small (x k : Int) (h0 : 0 ≤ k) (hx : 0 ≤ x) : 0 ≤ shrI .i64 x k ∧ shrI .i64 x k ≤ x := by
  unfold shrI
  have hp : (0 : Int) < 2 ^ min k.toNat IntKind.i64.bits := Int.pow_pos (by decide)
  rw [Int.fdiv_eq_ediv_of_nonneg _ (by omega)]
  exact ⟨Int.ediv_nonneg hx (by omega), Int.ediv_le_self _ hx⟩
theorem mx_eq (a b : Int) : mxI a b = max a b := by unfold mxI; by_cases h : b > a <;> simp only [h, if_true, if_false] <;> omega
theorem mn_eq (a b : Int) : mnI a b = min a b := by unfold mnI; by_cases h : b < a <;> simp only [h, if_true, if_false] <;> omega
set_option maxHeartbeats 4000000 in
theorem do_ok (N : Nat) {op b x y : Int} (hb : bitsV b = true) (hx : wordV b x = true) (hy : wordV b y = true) (h0 : 0 ≤ op ∧ op ≤ 17) :
    ∃ v, F_spec_l01Do N (op, (b, (x, (y, ())))) = some (v, ()) ∧ F_impl_result N (op, (b, (x, (y, ())))) = some (v, ()) ∧ wordV b v = true := by
  have hs := bits_small (k := b.toNat) (a := x) (b := y) (by rcases bits_cases hb with rfl | rfl | rfl <;> decide)
    (by rw [wordV_iff hb] at hx; rcases bits_cases hb with rfl | rfl | rfl <;> simp at hx ⊢ <;> omega)
    (by rw [wordV_iff hb] at hy; rcases bits_cases hb with rfl | rfl | rfl <;> simp at hy ⊢ <;> omega)
  obtain ⟨k1, k2, k3⟩ := wu b y hb hy
  have gx := sg_spec N hb hx
  have gy := sg_spec N hb hy
  have ix := sg_impl N hb hx
  have iy := sg_impl N hb hy
  have hsh := shr_small x (Int.tmod y b) k1 ((wordV_iff hb).1 hx).1
  rw [wordV_iff hb] at hx hy
  have hm : 0 ≤ x * y ∧ x * y ≤ 65535 * 65535 := by
    refine ⟨Int.mul_nonneg hx.1 hy.1, Int.mul_le_mul ?_ ?_ hy.1 (by decide)⟩ <;> (rcases bits_cases hb with rfl | rfl | rfl <;> simp at hx hy <;> omega)
  have hsg : ∀ z, (0 ≤ z ∧ z ≤ (if b = 4 then 15 else if b = 8 then 255 else 65535)) → sg b z % (if b = 4 then 16 else if b = 8 then 256 else 65536) = z ∧ -(if b = 4 then 8 else if b = 8 then 128 else 32768) ≤ sg b z ∧ sg b z < (if b = 4 then 8 else if b = 8 then 128 else 32768) := by
    intro z hz
    unfold sg
    rcases bits_cases hb with rfl | rfl | rfl <;> simp at hz ⊢ <;> split <;> omega
  have hsx := hsg x hx
  have hsy := hsg y hy
  clear hsg
  unfold F_spec_l01Do F_impl_result
  have hc : op = 0 ∨ op = 1 ∨ op = 2 ∨ op = 3 ∨ op = 4 ∨ op = 5 ∨ op = 6 ∨ op = 7 ∨ op = 8 ∨ op = 9 ∨ op = 10 ∨ op = 11 ∨ op = 12 ∨ op = 13 ∨ op = 14 ∨ op = 15 ∨ op = 16 ∨ op = 17 := by omega
  simp only [gx, gy, ix, iy, k2, wrap_spec N hb, wrap_impl N hb, min_spec, max_spec, F_spec_l01Between, F_impl_pick, F_impl_bounded, F_impl_nearest, mx_eq, mn_eq, Option.bind_some]
  clear gx gy ix iy
  generalize sg b x = sx at *
  generalize sg b y = sy at *
  generalize shrI .i64 x (Int.tmod y b) = q1 at *
  generalize shrI .i64 sx (Int.tmod y b) = q2 at *
  generalize shlI .i64 x (Int.tmod y b) = q3 at *
  generalize Int.tmod y b = k at *
  generalize andI .i64 x y = z1 at *
  generalize orI .i64 x y = z2 at *
  generalize xorI .i64 x y = z3 at *
  generalize x * y = z4 at *
  have hw : wordV b = fun v => bitsV b && decide (0 ≤ v) && decide (v ≤ (if b = 4 then 15 else if b = 8 then 255 else 65535)) := rfl
  rw [hw, hb]
  rcases bits_cases hb with rfl | rfl | rfl
  · simp only [u4, v4, wri4, wrp4, u3, u7, u15, shl3, shl7, shl15, shl4, shl8, shl16, show ¬ ((8 : Int) = 4) by decide, show ¬ ((16 : Int) = 4) by decide, show ¬ ((16 : Int) = 8) by decide, if_true, if_false] at *
    have bitn : ((4 : Int)).toNat = 4 := rfl
    rw [bitn] at hs
    simp only [Nat.reducePow] at hs
    have e1 : IntKind.wrap .i64 (x + y) = x + y := wr_id (by omega) (by omega)
    have e2 : IntKind.wrap .i64 (x - y) = x - y := wr_id (by omega) (by omega)
    have e3 : IntKind.wrap .i64 z4 = z4 := wr_id (by omega) (by omega)
    have e4 : IntKind.wrap .i64 (sx + sy) = sx + sy := wr_id (by omega) (by omega)
    have e5 : IntKind.wrap .i64 (sx - sy) = sx - sy := wr_id (by omega) (by omega)
    have e6 : IntKind.wrap .i64 (x + y + 1) = x + y + 1 := wr_id (by omega) (by omega)
    have e7 : Int.tdiv (x + y + 1) 2 = (x + y + 1) / 2 := Int.tdiv_eq_ediv_of_nonneg (by omega)
    have e8 : IntKind.wrap .i64 ((x + y + 1) / 2) = (x + y + 1) / 2 := wr_id (by omega) (by omega)
    have e9 : IntKind.wrap .i64 (0 - 8) = -8 := by decide +kernel
    have e10 : IntKind.wrap .i64 (8 - 1) = 7 := by decide +kernel
    have e11 : IntKind.wrap .i64 (16 - 1) = 15 := by decide +kernel
    simp only [e1, e2, e3, e4, e5, e6, e7, e8, e9, e10, e11]
    clear e1 e2 e3 e4 e5 e6 e7 e8 e9 e10 e11 hw hb bitn
    rcases hc with rfl | rfl | rfl | rfl | rfl | rfl | rfl | rfl | rfl | rfl | rfl | rfl | rfl | rfl | rfl | rfl | rfl | rfl
    · exact ⟨(x + y) % 16, by (repeat (first | refine xt ?_ | refine xf ?_ | refine yt ?_ | refine yf ?_)); rfl, by (repeat (first | refine xt ?_ | refine xf ?_ | refine yt ?_ | refine yf ?_)); rfl, by simp; omega⟩
    · exact ⟨(x - y) % 16, by (repeat (first | refine xt ?_ | refine xf ?_ | refine yt ?_ | refine yf ?_)); rfl, by (repeat (first | refine xt ?_ | refine xf ?_ | refine yt ?_ | refine yf ?_)); rfl, by simp; omega⟩
    · exact ⟨z4 % 16, by (repeat (first | refine xt ?_ | refine xf ?_ | refine yt ?_ | refine yf ?_)); rfl, by (repeat (first | refine xt ?_ | refine xf ?_ | refine yt ?_ | refine yf ?_)); rfl, by simp; omega⟩
    · exact ⟨z1, by (repeat (first | refine xt ?_ | refine xf ?_ | refine yt ?_ | refine yf ?_)); rfl, by (repeat (first | refine xt ?_ | refine xf ?_ | refine yt ?_ | refine yf ?_)); rfl, by simp; omega⟩
    · exact ⟨z2, by (repeat (first | refine xt ?_ | refine xf ?_ | refine yt ?_ | refine yf ?_)); rfl, by (repeat (first | refine xt ?_ | refine xf ?_ | refine yt ?_ | refine yf ?_)); rfl, by simp; omega⟩
    · exact ⟨z3, by (repeat (first | refine xt ?_ | refine xf ?_ | refine yt ?_ | refine yf ?_)); rfl, by (repeat (first | refine xt ?_ | refine xf ?_ | refine yt ?_ | refine yf ?_)); rfl, by simp; omega⟩
    · refine ⟨min x y, by (repeat (first | refine xt ?_ | refine xf ?_ | refine yt ?_ | refine yf ?_)); rfl, ?_, by simp; omega⟩
      (repeat (first | refine xt ?_ | refine xf ?_ | refine yt ?_ | refine yf ?_))
      refine congrArg (fun v : Int => some (v, ())) ?_
      omega
    · refine ⟨max x y, by (repeat (first | refine xt ?_ | refine xf ?_ | refine yt ?_ | refine yf ?_)); rfl, ?_, by simp; omega⟩
      (repeat (first | refine xt ?_ | refine xf ?_ | refine yt ?_ | refine yf ?_))
      refine congrArg (fun v : Int => some (v, ())) ?_
      omega
    · refine ⟨(min sx sy) % 16, by (repeat (first | refine xt ?_ | refine xf ?_ | refine yt ?_ | refine yf ?_)); rfl, ?_, by simp; omega⟩
      (repeat (first | refine xt ?_ | refine xf ?_ | refine yt ?_ | refine yf ?_))
      by_cases hq : sx ≤ sy
      · simp only [hq, decide_true, cond_true, Option.bind_some]; congr 2; omega
      · simp only [hq, decide_false, cond_false, Option.bind_some]; congr 2; omega
    · refine ⟨(max sx sy) % 16, by (repeat (first | refine xt ?_ | refine xf ?_ | refine yt ?_ | refine yf ?_)); rfl, ?_, by simp; omega⟩
      (repeat (first | refine xt ?_ | refine xf ?_ | refine yt ?_ | refine yf ?_))
      by_cases hq : sx ≥ sy
      · simp only [hq, decide_true, cond_true, Option.bind_some]; congr 2; omega
      · simp only [hq, decide_false, cond_false, Option.bind_some]; congr 2; omega
    · refine ⟨min (x + y) 15, by (repeat (first | refine xt ?_ | refine xf ?_ | refine yt ?_ | refine yf ?_)); rfl, ?_, by simp; omega⟩
      (repeat (first | refine xt ?_ | refine xf ?_ | refine yt ?_ | refine yf ?_))
      refine congrArg (fun v : Int => some (v, ())) ?_
      omega
    · refine ⟨(min 7 (max (-8) (sx + sy))) % 16, by (repeat (first | refine xt ?_ | refine xf ?_ | refine yt ?_ | refine yf ?_)); rfl, ?_, by simp; omega⟩
      (repeat (first | refine xt ?_ | refine xf ?_ | refine yt ?_ | refine yf ?_))
      refine congrArg (fun v : Int => some (v, ())) ?_
      omega
    · refine ⟨max (x - y) 0, by (repeat (first | refine xt ?_ | refine xf ?_ | refine yt ?_ | refine yf ?_)); rfl, ?_, by simp; omega⟩
      (repeat (first | refine xt ?_ | refine xf ?_ | refine yt ?_ | refine yf ?_))
      refine congrArg (fun v : Int => some (v, ())) ?_
      omega
    · refine ⟨(min 7 (max (-8) (sx - sy))) % 16, by (repeat (first | refine xt ?_ | refine xf ?_ | refine yt ?_ | refine yf ?_)); rfl, ?_, by simp; omega⟩
      (repeat (first | refine xt ?_ | refine xf ?_ | refine yt ?_ | refine yf ?_))
      refine congrArg (fun v : Int => some (v, ())) ?_
      omega
    · exact ⟨(x + y + 1) / 2, by (repeat (first | refine xt ?_ | refine xf ?_ | refine yt ?_ | refine yf ?_)); rfl, by (repeat (first | refine xt ?_ | refine xf ?_ | refine yt ?_ | refine yf ?_)); rfl, by simp; omega⟩
    · exact ⟨q3 % 16, by (repeat (first | refine xt ?_ | refine xf ?_ | refine yt ?_ | refine yf ?_)); rfl, by (repeat (first | refine xt ?_ | refine xf ?_ | refine yt ?_ | refine yf ?_)); rfl, by simp; omega⟩
    · exact ⟨q1, by (repeat (first | refine xt ?_ | refine xf ?_ | refine yt ?_ | refine yf ?_)); rfl, by (repeat (first | refine xt ?_ | refine xf ?_ | refine yt ?_ | refine yf ?_)); rfl, by simp; omega⟩
    · exact ⟨q2 % 16, by (repeat (first | refine xt ?_ | refine xf ?_ | refine yt ?_ | refine yf ?_)); rfl, by (repeat (first | refine xt ?_ | refine xf ?_ | refine yt ?_ | refine yf ?_)); rfl, by simp; omega⟩
  · simp only [u8, v8, wri8, wrp8, u3, u7, u15, shl3, shl7, shl15, shl4, shl8, shl16, show ¬ ((8 : Int) = 4) by decide, show ¬ ((16 : Int) = 4) by decide, show ¬ ((16 : Int) = 8) by decide, if_true, if_false] at *
    have bitn : ((8 : Int)).toNat = 8 := rfl
    rw [bitn] at hs
    simp only [Nat.reducePow] at hs
    have e1 : IntKind.wrap .i64 (x + y) = x + y := wr_id (by omega) (by omega)
    have e2 : IntKind.wrap .i64 (x - y) = x - y := wr_id (by omega) (by omega)
    have e3 : IntKind.wrap .i64 z4 = z4 := wr_id (by omega) (by omega)
    have e4 : IntKind.wrap .i64 (sx + sy) = sx + sy := wr_id (by omega) (by omega)
    have e5 : IntKind.wrap .i64 (sx - sy) = sx - sy := wr_id (by omega) (by omega)
    have e6 : IntKind.wrap .i64 (x + y + 1) = x + y + 1 := wr_id (by omega) (by omega)
    have e7 : Int.tdiv (x + y + 1) 2 = (x + y + 1) / 2 := Int.tdiv_eq_ediv_of_nonneg (by omega)
    have e8 : IntKind.wrap .i64 ((x + y + 1) / 2) = (x + y + 1) / 2 := wr_id (by omega) (by omega)
    have e9 : IntKind.wrap .i64 (0 - 128) = -128 := by decide +kernel
    have e10 : IntKind.wrap .i64 (128 - 1) = 127 := by decide +kernel
    have e11 : IntKind.wrap .i64 (256 - 1) = 255 := by decide +kernel
    simp only [e1, e2, e3, e4, e5, e6, e7, e8, e9, e10, e11]
    clear e1 e2 e3 e4 e5 e6 e7 e8 e9 e10 e11 hw hb bitn
    rcases hc with rfl | rfl | rfl | rfl | rfl | rfl | rfl | rfl | rfl | rfl | rfl | rfl | rfl | rfl | rfl | rfl | rfl | rfl
    · exact ⟨(x + y) % 256, by (repeat (first | refine xt ?_ | refine xf ?_ | refine yt ?_ | refine yf ?_)); rfl, by (repeat (first | refine xt ?_ | refine xf ?_ | refine yt ?_ | refine yf ?_)); rfl, by simp; omega⟩
    · exact ⟨(x - y) % 256, by (repeat (first | refine xt ?_ | refine xf ?_ | refine yt ?_ | refine yf ?_)); rfl, by (repeat (first | refine xt ?_ | refine xf ?_ | refine yt ?_ | refine yf ?_)); rfl, by simp; omega⟩
    · exact ⟨z4 % 256, by (repeat (first | refine xt ?_ | refine xf ?_ | refine yt ?_ | refine yf ?_)); rfl, by (repeat (first | refine xt ?_ | refine xf ?_ | refine yt ?_ | refine yf ?_)); rfl, by simp; omega⟩
    · exact ⟨z1, by (repeat (first | refine xt ?_ | refine xf ?_ | refine yt ?_ | refine yf ?_)); rfl, by (repeat (first | refine xt ?_ | refine xf ?_ | refine yt ?_ | refine yf ?_)); rfl, by simp; omega⟩
    · exact ⟨z2, by (repeat (first | refine xt ?_ | refine xf ?_ | refine yt ?_ | refine yf ?_)); rfl, by (repeat (first | refine xt ?_ | refine xf ?_ | refine yt ?_ | refine yf ?_)); rfl, by simp; omega⟩
    · exact ⟨z3, by (repeat (first | refine xt ?_ | refine xf ?_ | refine yt ?_ | refine yf ?_)); rfl, by (repeat (first | refine xt ?_ | refine xf ?_ | refine yt ?_ | refine yf ?_)); rfl, by simp; omega⟩
    · refine ⟨min x y, by (repeat (first | refine xt ?_ | refine xf ?_ | refine yt ?_ | refine yf ?_)); rfl, ?_, by simp; omega⟩
      (repeat (first | refine xt ?_ | refine xf ?_ | refine yt ?_ | refine yf ?_))
      refine congrArg (fun v : Int => some (v, ())) ?_
      omega
    · refine ⟨max x y, by (repeat (first | refine xt ?_ | refine xf ?_ | refine yt ?_ | refine yf ?_)); rfl, ?_, by simp; omega⟩
      (repeat (first | refine xt ?_ | refine xf ?_ | refine yt ?_ | refine yf ?_))
      refine congrArg (fun v : Int => some (v, ())) ?_
      omega
    · refine ⟨(min sx sy) % 256, by (repeat (first | refine xt ?_ | refine xf ?_ | refine yt ?_ | refine yf ?_)); rfl, ?_, by simp; omega⟩
      (repeat (first | refine xt ?_ | refine xf ?_ | refine yt ?_ | refine yf ?_))
      by_cases hq : sx ≤ sy
      · simp only [hq, decide_true, cond_true, Option.bind_some]; congr 2; omega
      · simp only [hq, decide_false, cond_false, Option.bind_some]; congr 2; omega
    · refine ⟨(max sx sy) % 256, by (repeat (first | refine xt ?_ | refine xf ?_ | refine yt ?_ | refine yf ?_)); rfl, ?_, by simp; omega⟩
      (repeat (first | refine xt ?_ | refine xf ?_ | refine yt ?_ | refine yf ?_))
      by_cases hq : sx ≥ sy
      · simp only [hq, decide_true, cond_true, Option.bind_some]; congr 2; omega
      · simp only [hq, decide_false, cond_false, Option.bind_some]; congr 2; omega
    · refine ⟨min (x + y) 255, by (repeat (first | refine xt ?_ | refine xf ?_ | refine yt ?_ | refine yf ?_)); rfl, ?_, by simp; omega⟩
      (repeat (first | refine xt ?_ | refine xf ?_ | refine yt ?_ | refine yf ?_))
      refine congrArg (fun v : Int => some (v, ())) ?_
      omega
    · refine ⟨(min 127 (max (-128) (sx + sy))) % 256, by (repeat (first | refine xt ?_ | refine xf ?_ | refine yt ?_ | refine yf ?_)); rfl, ?_, by simp; omega⟩
      (repeat (first | refine xt ?_ | refine xf ?_ | refine yt ?_ | refine yf ?_))
      refine congrArg (fun v : Int => some (v, ())) ?_
      omega
    · refine ⟨max (x - y) 0, by (repeat (first | refine xt ?_ | refine xf ?_ | refine yt ?_ | refine yf ?_)); rfl, ?_, by simp; omega⟩
      (repeat (first | refine xt ?_ | refine xf ?_ | refine yt ?_ | refine yf ?_))
      refine congrArg (fun v : Int => some (v, ())) ?_
      omega
    · refine ⟨(min 127 (max (-128) (sx - sy))) % 256, by (repeat (first | refine xt ?_ | refine xf ?_ | refine yt ?_ | refine yf ?_)); rfl, ?_, by simp; omega⟩
      (repeat (first | refine xt ?_ | refine xf ?_ | refine yt ?_ | refine yf ?_))
      refine congrArg (fun v : Int => some (v, ())) ?_
      omega
    · exact ⟨(x + y + 1) / 2, by (repeat (first | refine xt ?_ | refine xf ?_ | refine yt ?_ | refine yf ?_)); rfl, by (repeat (first | refine xt ?_ | refine xf ?_ | refine yt ?_ | refine yf ?_)); rfl, by simp; omega⟩
    · exact ⟨q3 % 256, by (repeat (first | refine xt ?_ | refine xf ?_ | refine yt ?_ | refine yf ?_)); rfl, by (repeat (first | refine xt ?_ | refine xf ?_ | refine yt ?_ | refine yf ?_)); rfl, by simp; omega⟩
    · exact ⟨q1, by (repeat (first | refine xt ?_ | refine xf ?_ | refine yt ?_ | refine yf ?_)); rfl, by (repeat (first | refine xt ?_ | refine xf ?_ | refine yt ?_ | refine yf ?_)); rfl, by simp; omega⟩
    · exact ⟨q2 % 256, by (repeat (first | refine xt ?_ | refine xf ?_ | refine yt ?_ | refine yf ?_)); rfl, by (repeat (first | refine xt ?_ | refine xf ?_ | refine yt ?_ | refine yf ?_)); rfl, by simp; omega⟩
  · simp only [u16, v16, wri16, wrp16, u3, u7, u15, shl3, shl7, shl15, shl4, shl8, shl16, show ¬ ((8 : Int) = 4) by decide, show ¬ ((16 : Int) = 4) by decide, show ¬ ((16 : Int) = 8) by decide, if_true, if_false] at *
    have bitn : ((16 : Int)).toNat = 16 := rfl
    rw [bitn] at hs
    simp only [Nat.reducePow] at hs
    have e1 : IntKind.wrap .i64 (x + y) = x + y := wr_id (by omega) (by omega)
    have e2 : IntKind.wrap .i64 (x - y) = x - y := wr_id (by omega) (by omega)
    have e3 : IntKind.wrap .i64 z4 = z4 := wr_id (by omega) (by omega)
    have e4 : IntKind.wrap .i64 (sx + sy) = sx + sy := wr_id (by omega) (by omega)
    have e5 : IntKind.wrap .i64 (sx - sy) = sx - sy := wr_id (by omega) (by omega)
    have e6 : IntKind.wrap .i64 (x + y + 1) = x + y + 1 := wr_id (by omega) (by omega)
    have e7 : Int.tdiv (x + y + 1) 2 = (x + y + 1) / 2 := Int.tdiv_eq_ediv_of_nonneg (by omega)
    have e8 : IntKind.wrap .i64 ((x + y + 1) / 2) = (x + y + 1) / 2 := wr_id (by omega) (by omega)
    have e9 : IntKind.wrap .i64 (0 - 32768) = -32768 := by decide +kernel
    have e10 : IntKind.wrap .i64 (32768 - 1) = 32767 := by decide +kernel
    have e11 : IntKind.wrap .i64 (65536 - 1) = 65535 := by decide +kernel
    simp only [e1, e2, e3, e4, e5, e6, e7, e8, e9, e10, e11]
    clear e1 e2 e3 e4 e5 e6 e7 e8 e9 e10 e11 hw hb bitn
    rcases hc with rfl | rfl | rfl | rfl | rfl | rfl | rfl | rfl | rfl | rfl | rfl | rfl | rfl | rfl | rfl | rfl | rfl | rfl
    · exact ⟨(x + y) % 65536, by (repeat (first | refine xt ?_ | refine xf ?_ | refine yt ?_ | refine yf ?_)); rfl, by (repeat (first | refine xt ?_ | refine xf ?_ | refine yt ?_ | refine yf ?_)); rfl, by simp; omega⟩
    · exact ⟨(x - y) % 65536, by (repeat (first | refine xt ?_ | refine xf ?_ | refine yt ?_ | refine yf ?_)); rfl, by (repeat (first | refine xt ?_ | refine xf ?_ | refine yt ?_ | refine yf ?_)); rfl, by simp; omega⟩
    · exact ⟨z4 % 65536, by (repeat (first | refine xt ?_ | refine xf ?_ | refine yt ?_ | refine yf ?_)); rfl, by (repeat (first | refine xt ?_ | refine xf ?_ | refine yt ?_ | refine yf ?_)); rfl, by simp; omega⟩
    · exact ⟨z1, by (repeat (first | refine xt ?_ | refine xf ?_ | refine yt ?_ | refine yf ?_)); rfl, by (repeat (first | refine xt ?_ | refine xf ?_ | refine yt ?_ | refine yf ?_)); rfl, by simp; omega⟩
    · exact ⟨z2, by (repeat (first | refine xt ?_ | refine xf ?_ | refine yt ?_ | refine yf ?_)); rfl, by (repeat (first | refine xt ?_ | refine xf ?_ | refine yt ?_ | refine yf ?_)); rfl, by simp; omega⟩
    · exact ⟨z3, by (repeat (first | refine xt ?_ | refine xf ?_ | refine yt ?_ | refine yf ?_)); rfl, by (repeat (first | refine xt ?_ | refine xf ?_ | refine yt ?_ | refine yf ?_)); rfl, by simp; omega⟩
    · refine ⟨min x y, by (repeat (first | refine xt ?_ | refine xf ?_ | refine yt ?_ | refine yf ?_)); rfl, ?_, by simp; omega⟩
      (repeat (first | refine xt ?_ | refine xf ?_ | refine yt ?_ | refine yf ?_))
      refine congrArg (fun v : Int => some (v, ())) ?_
      omega
    · refine ⟨max x y, by (repeat (first | refine xt ?_ | refine xf ?_ | refine yt ?_ | refine yf ?_)); rfl, ?_, by simp; omega⟩
      (repeat (first | refine xt ?_ | refine xf ?_ | refine yt ?_ | refine yf ?_))
      refine congrArg (fun v : Int => some (v, ())) ?_
      omega
    · refine ⟨(min sx sy) % 65536, by (repeat (first | refine xt ?_ | refine xf ?_ | refine yt ?_ | refine yf ?_)); rfl, ?_, by simp; omega⟩
      (repeat (first | refine xt ?_ | refine xf ?_ | refine yt ?_ | refine yf ?_))
      by_cases hq : sx ≤ sy
      · simp only [hq, decide_true, cond_true, Option.bind_some]; congr 2; omega
      · simp only [hq, decide_false, cond_false, Option.bind_some]; congr 2; omega
    · refine ⟨(max sx sy) % 65536, by (repeat (first | refine xt ?_ | refine xf ?_ | refine yt ?_ | refine yf ?_)); rfl, ?_, by simp; omega⟩
      (repeat (first | refine xt ?_ | refine xf ?_ | refine yt ?_ | refine yf ?_))
      by_cases hq : sx ≥ sy
      · simp only [hq, decide_true, cond_true, Option.bind_some]; congr 2; omega
      · simp only [hq, decide_false, cond_false, Option.bind_some]; congr 2; omega
    · refine ⟨min (x + y) 65535, by (repeat (first | refine xt ?_ | refine xf ?_ | refine yt ?_ | refine yf ?_)); rfl, ?_, by simp; omega⟩
      (repeat (first | refine xt ?_ | refine xf ?_ | refine yt ?_ | refine yf ?_))
      refine congrArg (fun v : Int => some (v, ())) ?_
      omega
    · refine ⟨(min 32767 (max (-32768) (sx + sy))) % 65536, by (repeat (first | refine xt ?_ | refine xf ?_ | refine yt ?_ | refine yf ?_)); rfl, ?_, by simp; omega⟩
      (repeat (first | refine xt ?_ | refine xf ?_ | refine yt ?_ | refine yf ?_))
      refine congrArg (fun v : Int => some (v, ())) ?_
      omega
    · refine ⟨max (x - y) 0, by (repeat (first | refine xt ?_ | refine xf ?_ | refine yt ?_ | refine yf ?_)); rfl, ?_, by simp; omega⟩
      (repeat (first | refine xt ?_ | refine xf ?_ | refine yt ?_ | refine yf ?_))
      refine congrArg (fun v : Int => some (v, ())) ?_
      omega
    · refine ⟨(min 32767 (max (-32768) (sx - sy))) % 65536, by (repeat (first | refine xt ?_ | refine xf ?_ | refine yt ?_ | refine yf ?_)); rfl, ?_, by simp; omega⟩
      (repeat (first | refine xt ?_ | refine xf ?_ | refine yt ?_ | refine yf ?_))
      refine congrArg (fun v : Int => some (v, ())) ?_
      omega
    · exact ⟨(x + y + 1) / 2, by (repeat (first | refine xt ?_ | refine xf ?_ | refine yt ?_ | refine yf ?_)); rfl, by (repeat (first | refine xt ?_ | refine xf ?_ | refine yt ?_ | refine yf ?_)); rfl, by simp; omega⟩
    · exact ⟨q3 % 65536, by (repeat (first | refine xt ?_ | refine xf ?_ | refine yt ?_ | refine yf ?_)); rfl, by (repeat (first | refine xt ?_ | refine xf ?_ | refine yt ?_ | refine yf ?_)); rfl, by simp; omega⟩
    · exact ⟨q1, by (repeat (first | refine xt ?_ | refine xf ?_ | refine yt ?_ | refine yf ?_)); rfl, by (repeat (first | refine xt ?_ | refine xf ?_ | refine yt ?_ | refine yf ?_)); rfl, by simp; omega⟩
    · exact ⟨q2 % 65536, by (repeat (first | refine xt ?_ | refine xf ?_ | refine yt ?_ | refine yf ?_)); rfl, by (repeat (first | refine xt ?_ | refine xf ?_ | refine yt ?_ | refine yf ?_)); rfl, by simp; omega⟩
end Go.Proofs.Ytheemkehedmlfaa.P
set_option linter.unusedVariables false
set_option linter.unusedSimpArgs false
set_option maxRecDepth 4000
set_option linter.unusedSectionVars false
namespace Go.Proofs.Ytheemkehedmlfaa.P
open Go Go.Proofs.Ytheemkehedmlfaa.E
def mes (n : Nat) : List (Nat × Nat) → Nat → Nat → Nat
  | [], at_, w => ((n - at_) * 10 + 9) * 260 ^ w
  | (b, r) :: t, at_, w => ((n - b) * 10 + r) * 260 ^ w + mes n t at_ (w - 1)
theorem mes_le {n : Nat} (hn : n ≤ 24) : ∀ (S : List (Nat × Nat)) (at_ w : Nat), S.length ≤ w → (∀ p ∈ S, p.2 ≤ 9) → mes n S at_ w ≤ 250 * 260 ^ w
  | [], at_, w, _, _ => by
    simp only [mes]
    exact Nat.mul_le_mul_right _ (by omega)
  | (b, r) :: t, at_, w, hw, hr => by
    obtain ⟨v, rfl⟩ : ∃ v, w = v + 1 := ⟨w - 1, by simp at hw; omega⟩
    have ih := mes_le hn t at_ v (by simpa using hw) (fun p hp => hr p (by simp [hp]))
    have h2 : ((n - b) * 10 + r) * 260 ^ (v + 1) ≤ 249 * 260 ^ (v + 1) := Nat.mul_le_mul_right _ (by have := hr (b, r) (by simp); simp only at this; omega)
    simp only [mes, Nat.add_sub_cancel]
    rw [Nat.pow_succ] at h2 ⊢
    omega
theorem mes_go {n : Nat} : ∀ (S : List (Nat × Nat)) (i j w : Nat), i < j → i < n → mes n S j w < mes n S i w
  | [], i, j, w, h, hi => by
    simp only [mes]
    exact Nat.mul_lt_mul_of_pos_right (by omega) (Nat.pow_pos (by decide))
  | (b, r) :: t, i, j, w, h, hi => by
    have := mes_go t i j (w - 1) h hi
    simp only [mes]; omega
theorem mes_push {n : Nat} (hn : n ≤ 24) : ∀ (S : List (Nat × Nat)) (i r w : Nat), S.length + 1 ≤ w → r ≤ 8 → mes n (S ++ [(i, r)]) (i + 1) w < mes n S i w
  | [], i, r, w, hw, hr => by
    obtain ⟨v, rfl⟩ : ∃ v, w = v + 1 := ⟨w - 1, by simp at hw; omega⟩
    have h := mes_le hn [] (i + 1) v (Nat.zero_le _) (by simp)
    have h2 : ((n - i) * 10 + r + 1) * 260 ^ (v + 1) ≤ ((n - i) * 10 + 9) * 260 ^ (v + 1) := Nat.mul_le_mul_right _ (by omega)
    have := Nat.pow_pos (n := v) (show 0 < 260 by decide)
    simp only [mes, List.nil_append, Nat.add_sub_cancel] at h ⊢
    rw [Nat.add_mul _ 1, Nat.one_mul] at h2
    have e : 260 ^ (v + 1) = 260 ^ v * 260 := Nat.pow_succ ..
    omega
  | (b, q) :: t, i, r, w, hw, hr => by
    have := mes_push hn t i r (w - 1) (by simp at hw; omega) hr
    simp only [mes, List.cons_append]; omega
theorem mes_back {n : Nat} (hn : n ≤ 24) : ∀ (S : List (Nat × Nat)) (b r i j w : Nat), S.length + 1 ≤ w → mes n (S ++ [(b, r)]) j w < mes n (S ++ [(b, r + 1)]) i w
  | [], b, r, i, j, w, hw => by
    obtain ⟨v, rfl⟩ : ∃ v, w = v + 1 := ⟨w - 1, by simp at hw; omega⟩
    have h := mes_le hn [] j v (Nat.zero_le _) (by simp)
    have := Nat.pow_pos (n := v) (show 0 < 260 by decide)
    simp only [mes, List.nil_append, Nat.add_sub_cancel] at h ⊢
    have e2 : ∀ X, ((n - b) * 10 + (r + 1)) * X = ((n - b) * 10 + r) * X + X := fun X => by rw [← Nat.add_assoc, Nat.add_mul _ 1, Nat.one_mul]
    rw [e2]
    have e : 260 ^ (v + 1) = 260 ^ v * 260 := Nat.pow_succ ..
    omega
  | (c, q) :: t, b, r, i, j, w, hw => by
    have := mes_back hn t b r i j (w - 1) (by simp at hw; omega)
    simp only [mes, List.cons_append]; omega
theorem mes_pop {n : Nat} : ∀ (S : List (Nat × Nat)) (b r i j w : Nat), S.length + 1 ≤ w → b < j → b < n → mes n S j w < mes n (S ++ [(b, r)]) i w
  | [], b, r, i, j, w, hw, hj, hb => by
    have h2 : ((n - j) * 10 + 9 + 1) * 260 ^ w ≤ ((n - b) * 10 + r) * 260 ^ w := Nat.mul_le_mul_right _ (by omega)
    have := Nat.pow_pos (n := w) (show 0 < 260 by decide)
    simp only [mes, List.nil_append]
    rw [Nat.add_mul _ 1, Nat.one_mul] at h2
    omega
  | (c, q) :: t, b, r, i, j, w, hw, hj, hb => by
    have := mes_pop t b r i j (w - 1) (by simp at hw; omega) hj hb
    simp only [mes, List.cons_append]; omega
theorem frs_lt (k : Nat → Int) : ∀ (i x : Nat), x ∈ frs k i → x < i
  | 0, x, h => by cases h
  | i + 1, x, h => by
    rw [frs] at h
    split at h
    · rcases List.mem_append.1 h with h | h
      · have := frs_lt k i x h; omega
      · rw [List.mem_singleton.1 h]; omega
    · split at h
      · have := frs_lt k i x (List.dropLast_subset _ h); omega
      · have := frs_lt k i x h; omega
theorem lo_lt {k : Nat → Int} {i x : Nat} (h : x ∈ lo k i) : x < i := frs_lt k i x (List.mem_filter.1 h).1
theorem gt_mem {α : Type} [Inhabited α] {l : List α} {j : Int} (h0 : 0 ≤ j) (h1 : j < l.length) : gt l j ∈ l := by
  unfold gt
  have : j.toNat < l.length := by omega
  rw [List.getD_eq_getElem?_getD, List.getElem?_eq_getElem this]
  exact List.getElem_mem _
theorem set_word {b : Int} {now : List Int} (h : ∀ x ∈ now, wordV b x = true) {d : Nat} {v : Int} (hv : wordV b v = true) : ∀ x ∈ now.set d v, wordV b x = true := by
  intro x hx
  rcases List.mem_or_eq_of_mem_set hx with hx | rfl
  · exact h x hx
  · exact hv
theorem inB_iff {n a b : Int} : inB n a b = true ↔ a ≤ n ∧ n ≤ b := by simp [inB]
end Go.Proofs.Ytheemkehedmlfaa.P
set_option linter.unusedVariables false
set_option linter.unusedSimpArgs false
set_option maxRecDepth 4000
namespace Go.Proofs.Ytheemkehedmlfaa.P
open Go Go.Proofs.Ytheemkehedmlfaa.E
theorem mem_gt {α : Type} [Inhabited α] {l : List α} {x : α} (h : x ∈ l) : ∃ j : Int, 0 ≤ j ∧ j < l.length ∧ gt l j = x := by
  obtain ⟨i, hi, rfl⟩ := List.mem_iff_getElem.1 h
  refine ⟨i, by omega, by omega, ?_⟩
  unfold gt
  rw [List.getD_eq_getElem?_getD, Int.toNat_natCast, List.getElem?_eq_getElem hi]
  rfl
theorem all_gt {α : Type} [Inhabited α] {l : List α} {p : α → Prop} : (∀ x, x ∈ l → p x) ↔ ∀ j : Int, 0 ≤ j → j < l.length → p (gt l j) :=
  ⟨fun h j h0 h1 => h _ (gt_mem h0 h1), fun h x hx => by obtain ⟨j, h0, h1, rfl⟩ := mem_gt hx; exact h j h0 h1⟩
theorem scan {E R : Type} {step : (Int × Unit → Option (E ⊕ R)) → Int × Unit → Option (E ⊕ R)} {len : Nat} {p : Int → Bool} {bad : Int → E} {fin : R} (hlen : len ≤ 9007199254740992)
    (h1 : ∀ rec (i : Int), 0 ≤ i → i < len → IntKind.wrap .i64 (i + 1) = i + 1 → step rec (i, ()) = if p i = true then rec (i + 1, ()) else some (.inl (bad i)))
    (h2 : ∀ rec (i : Int), ¬ i < (len : Int) → step rec (i, ()) = some (.inr fin)) {N : Nat} (hN : len < N) :
    (itN step N (0, ()) = some (.inr fin) ∧ ∀ j : Int, 0 ≤ j → j < len → p j = true) ∨ ∃ j : Int, 0 ≤ j ∧ j < len ∧ p j = false ∧ itN step N (0, ()) = some (.inl (bad j)) := by
  have key : ∀ (r : Nat) (i : Int) (M : Nat), 0 ≤ i → i + r = len → r < M →
      (itN step M (i, ()) = some (.inr fin) ∧ ∀ j : Int, i ≤ j → j < len → p j = true) ∨ ∃ j : Int, i ≤ j ∧ j < len ∧ p j = false ∧ itN step M (i, ()) = some (.inl (bad j)) := by
    intro r
    induction r with
    | zero =>
      intro i M h0 hi hM
      obtain ⟨M, rfl⟩ : ∃ M', M = M' + 1 := ⟨M - 1, by omega⟩
      exact .inl ⟨h2 _ i (by omega), fun j h3 h4 => by omega⟩
    | succ r ih =>
      intro i M h0 hi hM
      obtain ⟨M, rfl⟩ : ∃ M', M = M' + 1 := ⟨M - 1, by omega⟩
      have hs : itN step (M + 1) (i, ()) = if p i = true then itN step M (i + 1, ()) else some (.inl (bad i)) := h1 _ i h0 (by omega) (wr_id (by omega) (by omega))
      rw [hs]
      cases hp : p i with
      | false => exact .inr ⟨i, by omega, by omega, hp, rfl⟩
      | true =>
        simp only [if_true]
        rcases ih (i + 1) M (by omega) (by omega) (by omega) with ⟨g1, g2⟩ | ⟨j, g1, g2, g3, g4⟩
        · refine .inl ⟨g1, fun j h3 h4 => ?_⟩
          by_cases he : j = i
          · subst he; exact hp
          · exact g2 j (by omega) h4
        · exact .inr ⟨j, by omega, g2, g3, g4⟩
  rcases key len 0 N (Int.le_refl _) (by omega) (by omega) with h | h
  · exact .inl h
  · exact .inr h
theorem scan_ans {α : Type} [Inhabited α] {E R : Type} {step : (Int × Unit → Option (E ⊕ R)) → Int × Unit → Option (E ⊕ R)} {l : List α} {p : α → Bool} {bad : Int → E} {fin : R} (hlen : l.length ≤ 9007199254740992)
    (h1 : ∀ rec (i : Int), 0 ≤ i → i < l.length → IntKind.wrap .i64 (i + 1) = i + 1 → gt l i ∈ l → step rec (i, ()) = if p (gt l i) = true then rec (i + 1, ()) else some (.inl (bad i)))
    (h2 : ∀ rec (i : Int), ¬ i < (l.length : Int) → step rec (i, ()) = some (.inr fin)) {N : Nat} (hN : l.length < N) :
    (itN step N (0, ()) = some (.inr fin) ∧ l.all p = true) ∨ ∃ j : Int, 0 ≤ j ∧ j < l.length ∧ l.all p = false ∧ itN step N (0, ()) = some (.inl (bad j)) := by
  rcases scan (p := fun j => p (gt l j)) hlen (fun rec i g0 g1 g2 => h1 rec i g0 g1 g2 (gt_mem g0 g1)) h2 hN with ⟨g1, g2⟩ | ⟨j, g1, g2, g3, g4⟩
  · exact .inl ⟨g1, by rw [List.all_eq_true]; exact (all_gt (p := fun x => p x = true)).2 g2⟩
  · refine .inr ⟨j, g1, g2, ?_, g4⟩
    cases hx : l.all p with
    | false => rfl
    | true =>
      have := List.all_eq_true.1 hx _ (gt_mem g1 g2)
      rw [g3] at this
      cases this
theorem copyL {α : Type} [Inhabited α] {step : (Int × List α × Unit → Option (List α × Unit)) → Int × List α × Unit → Option (List α × Unit)} {l : List α} (hlen : l.length ≤ 9007199254740992)
    (h1 : ∀ rec (i : Int) (o : List α), 0 ≤ i → i < l.length → i < o.length → IntKind.wrap .i64 (i + 1) = i + 1 → gt l i ∈ l → step rec (i, (o, ())) = rec (i + 1, (o.set i.toNat (gt l i), ())))
    (h2 : ∀ rec (i : Int) (o : List α), ¬ i < (l.length : Int) → step rec (i, (o, ())) = some (o, ())) {N : Nat} (hN : l.length < N) (o : List α) (ho : o.length = l.length) : itN step N (0, (o, ())) = some (l, ()) := by
  have key : ∀ (r : Nat) (i M : Nat) (o : List α), i + r = l.length → r < M → o.length = l.length → (∀ k, k < i → o[k]? = l[k]?) → itN step M ((i : Int), (o, ())) = some (l, ()) := by
    intro r
    induction r with
    | zero =>
      intro i M o hi hM ho hk
      obtain ⟨M, rfl⟩ : ∃ M', M = M' + 1 := ⟨M - 1, by omega⟩
      have : o = l := by
        apply List.ext_getElem?
        intro k
        by_cases hkl : k < i
        · exact hk k hkl
        · rw [List.getElem?_eq_none (by omega), List.getElem?_eq_none (by omega)]
      subst this
      exact h2 _ _ _ (by omega)
    | succ r ih =>
      intro i M o hi hM ho hk
      obtain ⟨M, rfl⟩ : ∃ M', M = M' + 1 := ⟨M - 1, by omega⟩
      have hs : itN step (M + 1) ((i : Int), (o, ())) = itN step M ((i : Int) + 1, (o.set (i : Int).toNat (gt l i), ())) := h1 _ _ _ (by omega) (by omega) (by omega) (wr_id (by omega) (by omega)) (gt_mem (by omega) (by omega))
      rw [hs, show ((i : Int) + 1) = ((i + 1 : Nat) : Int) by omega]
      refine ih (i + 1) M _ (by omega) (by omega) (by simpa using ho) fun k hk1 => ?_
      rw [Int.toNat_natCast, List.getElem?_set]
      by_cases he : i = k
      · subst he
        have hil : i < l.length := by omega
        simp only [if_true, if_pos (show i < o.length by omega)]
        unfold gt
        rw [List.getD_eq_getElem?_getD, Int.toNat_natCast, List.getElem?_eq_getElem hil]
        rfl
      · rw [if_neg he]
        exact hk k (by omega)
  exact key l.length 0 N o (by omega) (by omega) ho (fun k hk => by omega)
def varsB (b : Int) (V : List Int) : Bool := decide (V.length = 8) && V.all (wordV b)
theorem vars_spec {N : Nat} (hN : 4096 ≤ N) (b : Int) (V : List Int) : F_spec_l08Vars N (b, (V, ())) = some (varsB b V, ()) := by
  unfold F_spec_l08Vars varsB
  by_cases hl : V.length = 8
  · rcases scan_ans (step := n_spec_l01Words_0 N (b, (V, ()))) (l := V) (p := wordV b) (bad := fun _ => (false, ())) (fin := ()) (by omega)
      (fun rec i h0 h1 h2 _ => by cases hw : wordV b (gt V i) <;> simp [n_spec_l01Words_0, h0, h1, h2, word_spec, hw]) (fun rec i h => by simp [n_spec_l01Words_0, h]) (N := N) (by omega) with ⟨g1, g2⟩ | ⟨j, _, _, g3, g4⟩
    · have hb : bitsV b = true := by
        have := List.all_eq_true.1 g2 _ (gt_mem (j := 0) (Int.le_refl _) (by omega))
        unfold wordV at this
        simp only [Bool.and_eq_true] at this
        exact this.1.1
      simp [F_spec_l01Words, hl, g1, g2, bits_spec, hb]
    · simp [F_spec_l01Words, hl, g3, g4]
  · have : ¬ ((V.length : Int) = 8) := by omega
    simp [this, hl]
theorem vars_impl {N : Nat} (hN : 4096 ≤ N) (b : Int) (V : List Int) : F_impl_areVars N (b, (V, ())) = some (varsB b V, ()) := by
  unfold F_impl_areVars varsB
  by_cases hl : V.length = 8
  · rcases scan_ans (step := n_impl_areVars_0 N (V, ((V.length : Int), (b, ())))) (l := V) (p := wordV b) (bad := fun j => (j, ())) (fin := ()) (by omega)
      (fun rec i h0 h1 h2 _ => by cases hw : wordV b (gt V i) <;> simp [n_impl_areVars_0, h0, h1, h2, word_impl, hw]) (fun rec i h => by simp [n_impl_areVars_0, h]) (N := N) (by omega) with ⟨g1, g2⟩ | ⟨j, j0, _, g3, g4⟩
    · simp [hl] at g1 ⊢; simp [g1]; simpa using g2
    · rw [g3]; simp [hl] at g4 ⊢; simp [g4, j0]
  · have : ¬ ((V.length : Int) = 8) := by omega
    simp [this, hl]
theorem varsB_ok {b : Int} {V : List Int} (h : varsB b V = true) : V.length = 8 ∧ ∀ x ∈ V, wordV b x = true := by
  unfold varsB at h
  simp only [Bool.and_eq_true, decide_eq_true_eq] at h
  exact ⟨h.1, List.all_eq_true.1 h.2⟩
theorem toL {N : Nat} (l : List LT) (hl : l.length ≤ 1048576) (hN : 1142440000001 ≤ N) : F_laws_toLineS N (l, ()) = some (l, ()) := by
  have hc := copyL (step := n_laws_toLineS_0 N (l, ())) (l := l) (by omega) (fun rec i o h0 h1 h2 h3 _ => by simp [n_laws_toLineS_0, F_laws_toLine, h0, h1, h2, h3]) (fun rec i o h => by simp [n_laws_toLineS_0, h]) (N := N) (by omega) (List.replicate (l.length : Int).toNat ((0 : Int), ((0 : Int), ((0 : Int), ((0 : Int), (0 : Int)))))) (by simp)
  unfold F_laws_toLineS
  simp only
  (repeat (first | refine xt ?_ | refine xf ?_ | refine yt ?_ | refine yf ?_))
  exact bd hc rfl
theorem toI {N : Nat} (l : List Int) (hl : l.length ≤ 1048576) (hN : 1142440000001 ≤ N) : F_laws_toInt64S N (l, ()) = some (l, ()) := by
  have hc := copyL (step := n_laws_toInt64S_0 N (l, ())) (l := l) (by omega) (fun rec i o h0 h1 h2 h3 _ => by simp [n_laws_toInt64S_0, h0, h1, h2, h3]) (fun rec i o h => by simp [n_laws_toInt64S_0, h]) (N := N) (by omega) (List.replicate (l.length : Int).toNat (0 : Int)) (by simp)
  unfold F_laws_toInt64S
  simp only
  (repeat (first | refine xt ?_ | refine xf ?_ | refine yt ?_ | refine yf ?_))
  exact bd hc rfl
theorem eqI {N : Nat} (l : List Int) (hl : l.length ≤ 9007199254740992) (hN : l.length < N) : F_laws_eqInt64S N (l, (l, ())) = some (true, ()) := by
  rcases scan_ans (step := n_laws_eqInt64S_0 N (l, (l, ()))) (l := l) (p := fun _ => true) (bad := fun _ => (false, ())) (fin := ()) hl (fun rec i h0 h1 h2 _ => by simp [n_laws_eqInt64S_0, h0, h1, h2]) (fun rec i h => by simp [n_laws_eqInt64S_0, h]) hN with ⟨g1, g2⟩ | ⟨j, _, _, g3, g4⟩
  · simp [F_laws_eqInt64S, g1]
  · simp at g3
theorem eqL {N : Nat} (l : List LT) (hl : l.length ≤ 1048576) (hN : 1142440000001 ≤ N) : F_laws_eqLineS N (l, (l, ())) = some (true, ()) := by
  rcases scan_ans (step := n_laws_eqLineS_0 N (l, (l, ()))) (l := l) (p := fun _ => true) (bad := fun _ => (false, ())) (fin := ()) (by omega) (fun rec i h0 h1 h2 _ => by simp [n_laws_eqLineS_0, F_laws_eqLine, h0, h1, h2]) (fun rec i h => by simp [n_laws_eqLineS_0, h]) (N := N) (by omega) with ⟨g1, g2⟩ | ⟨j, _, _, g3, g4⟩
  · simp [F_laws_eqLineS, g1]
  · simp at g3
theorem szL (N : Nat) (l : List LT) (hl : l.length ≤ 9223372036854775807) : F_laws_szLineS N (l, ((1048576 : Int), ())) = some (-1, ()) ∨ (F_laws_szLineS N (l, ((1048576 : Int), ())) = some (1048576 - (l.length : Int), ()) ∧ l.length ≤ 1048576) := by
  have hw : IntKind.wrap .i64 (1048576 - (l.length : Int)) = 1048576 - l.length := wr_id (by omega) (by omega)
  by_cases h : (1048576 : Int) - (l.length : Int) < 0
  · left; simp [F_laws_szLineS, hw, h]
  · right; exact ⟨by simp [F_laws_szLineS, hw, h], by omega⟩
end Go.Proofs.Ytheemkehedmlfaa.P
set_option linter.unusedVariables false
set_option linter.unusedSimpArgs false
set_option maxRecDepth 4000
namespace Go.Proofs.Ytheemkehedmlfaa.P
open Go Go.Proofs.Ytheemkehedmlfaa.E
theorem many_eq {N : Nat} (hN : 9007199254740992 ≤ N) (b : Int) (L : List LT) (Vs : List (List Int)) :
    (F_spec_l08Many N (b, (L, (Vs, ()))) = some (false, ()) ∧ F_impl_areAllVars N (b, (L, (Vs, ()))) = some (false, ())) ∨
    (F_spec_l08Many N (b, (L, (Vs, ()))) = some (true, ()) ∧ F_impl_areAllVars N (b, (L, (Vs, ()))) = some (true, ()) ∧ 1 ≤ Vs.length ∧ Vs.length ≤ 16 ∧ (∀ V ∈ Vs, varsB b V = true) ∧ bitsV b = true ∧
      ∃ o, F_sP N (b, (L, ())) = some (o, (true, ())) ∧ F_iP N (b, (L, ())) = some (o, (true, ())) ∧ PairsOk b L o) := by
  have is := is_ex (N := N) (by omega) b L
  have hlen : F_impl_length___int64_ N (Vs, ()) = some ((Vs.length : Int), ()) := rfl
  unfold F_spec_l08Many F_impl_areAllVars
  simp only
  by_cases h16 : Vs.length ≤ 16
  · have h16' : (Vs.length : Int) ≤ 16 := by omega
    have s0 := scan_ans (step := n_spec_l08Many_0 N (b, (Vs, ()))) (l := Vs) (p := varsB b) (bad := fun _ => (false, ())) (fin := ()) (by omega)
      (fun rec i h0 h1 h2 _ => by have hv := vars_spec (N := N) (by omega) b (gt Vs i); cases hw : varsB b (gt Vs i) <;> rw [hw] at hv <;> simp [n_spec_l08Many_0, h0, h1, h2, h16', hv]) (fun rec i h => by simp [n_spec_l08Many_0, h]) (N := N) (by omega)
    have s1 := scan_ans (step := n_impl_areAllVars_0 N (Vs, ((Vs.length : Int), (b, ())))) (l := Vs) (p := varsB b) (bad := fun j => (j, ())) (fin := ()) (by omega)
      (fun rec i h0 h1 h2 _ => by have hv := vars_impl (N := N) (by omega) b (gt Vs i); cases hw : varsB b (gt Vs i) <;> rw [hw] at hv <;> simp [n_impl_areAllVars_0, h0, h1, h2, hv]) (fun rec i h => by simp [n_impl_areAllVars_0, h]) (N := N) (by omega)
    rcases s0 with ⟨g1, g2⟩ | ⟨j, _, _, g2, g1⟩
    · rcases s1 with ⟨k1, _⟩ | ⟨j, _, _, k2, _⟩
      · rcases is with ⟨i1, i2⟩ | ⟨i1, i2, i3, i4⟩
        · exact .inl ⟨bd g1 (bd i1 rfl), bd i2 rfl⟩
        · by_cases h1 : 1 ≤ Vs.length
          · have hin : inB (Vs.length : Int) 1 16 = true := by simp [inB]; omega
            refine .inr ⟨bd g1 (bd i1 ?_), bd i2 ?_, h1, h16, List.all_eq_true.1 g2, i3, i4⟩
            · refine bd (in_spec N _ _ _) ?_
              rw [hin]
            · refine bd (in_impl N _ _ _) ?_
              rw [hin]
              exact bd k1 rfl
          · have hin : inB (Vs.length : Int) 1 16 = false := by simp [inB]; omega
            refine .inl ⟨bd g1 (bd i1 ?_), bd i2 ?_⟩
            · refine bd (in_spec N _ _ _) ?_
              rw [hin]
            · refine bd (in_impl N _ _ _) ?_
              rw [hin]
              rfl
      · rw [g2] at k2; cases k2
    · rcases s1 with ⟨_, k2⟩ | ⟨j', j0, _, _, k1⟩
      · rw [g2] at k2; cases k2
      · rcases is with ⟨i1, i2⟩ | ⟨i1, i2, i3, i4⟩
        · exact .inl ⟨bd g1 rfl, bd i2 rfl⟩
        · refine .inl ⟨bd g1 rfl, bd i2 ?_⟩
          refine bd (in_impl N _ _ _) ?_
          cases inB (Vs.length : Int) 1 16 with
          | false => rfl
          | true =>
            refine bd k1 ?_
            simp [j0]
  · have g1 : itN (n_spec_l08Many_0 N (b, (Vs, ()))) N ((0 : Int), ()) = some (.inr ()) := by
      obtain ⟨M, rfl⟩ : ∃ M', N = M' + 1 := ⟨N - 1, by omega⟩
      show n_spec_l08Many_0 _ _ _ _ = _
      unfold n_spec_l08Many_0
      simp only
      (repeat (first | refine xt ?_ | refine xf ?_ | refine yt ?_ | refine yf ?_))
      rfl
    have hin : inB (Vs.length : Int) 1 16 = false := by simp [inB]; omega
    rcases is with ⟨i1, i2⟩ | ⟨i1, i2, i3, i4⟩
    · exact .inl ⟨bd g1 (bd i1 rfl), bd i2 rfl⟩
    · refine .inl ⟨bd g1 (bd i1 ?_), bd i2 ?_⟩
      · refine bd (in_spec N _ _ _) ?_
        rw [hin]
      · refine bd (in_impl N _ _ _) ?_
        rw [hin]
        rfl
def Sm (vs : List (List Int)) : Prop := vs.length ≤ 1048576 ∧ ∀ v, v ∈ vs → v.length ≤ 1048576
theorem szI (N : Nat) (l : List Int) (n : Int) (h0 : 0 ≤ n) (h1 : n ≤ 1048576) (hl : l.length ≤ 9223372036854775807) : F_laws_szInt64S N (l, (n, ())) = some (-1, ()) ∨ (F_laws_szInt64S N (l, (n, ())) = some (n - (l.length : Int), ()) ∧ 0 ≤ n - (l.length : Int)) := by
  have hw : IntKind.wrap .i64 (n - (l.length : Int)) = n - l.length := wr_id (by omega) (by omega)
  by_cases h : n - (l.length : Int) < 0
  · left; simp [F_laws_szInt64S, hw, h]
  · right; exact ⟨by simp [F_laws_szInt64S, hw, h], by omega⟩
theorem szII {N : Nat} (hN : 9007199254740992 ≤ N) (l : List (List Int)) (n : Int) (h0 : 0 ≤ n) (h1 : n ≤ 1048576) (hl : l.length ≤ 9223372036854775807) (hl2 : ∀ v, v ∈ l → v.length ≤ 9223372036854775807) :
    F_laws_szInt64SS N (l, (n, ())) = some (-1, ()) ∨ ∃ r, F_laws_szInt64SS N (l, (n, ())) = some (r, ()) ∧ 0 ≤ r ∧ r ≤ n ∧ Sm l := by
  have hw : IntKind.wrap .i64 (n - (l.length : Int)) = n - l.length := wr_id (by omega) (by omega)
  by_cases h : n - (l.length : Int) < 0
  · left; simp [F_laws_szInt64SS, hw, h]
  have key : ∀ (r : Nat) (i M : Nat) (m : Int), i + r = l.length → r < M → 0 ≤ m → m ≤ 1048576 →
      itN (n_laws_szInt64SS_0 N (l, ())) M (m, ((i : Int), ())) = some (.inl (-1, ())) ∨ ∃ m', itN (n_laws_szInt64SS_0 N (l, ())) M (m, ((i : Int), ())) = some (.inr (m', ())) ∧ 0 ≤ m' ∧ m' ≤ m ∧ ∀ j : Int, i ≤ j → j < l.length → (gt l j).length ≤ 1048576 := by
    intro r
    induction r with
    | zero =>
      intro i M m hi hM m0 m1
      obtain ⟨M, rfl⟩ : ∃ M', M = M' + 1 := ⟨M - 1, by omega⟩
      refine .inr ⟨m, ?_, m0, Int.le_refl _, fun j a b => by omega⟩
      show n_laws_szInt64SS_0 N (l, ()) _ _ = _
      simp [n_laws_szInt64SS_0, show ¬ (i < l.length) by omega]
    | succ r ih =>
      intro i M m hi hM m0 m1
      obtain ⟨M, rfl⟩ : ∃ M', M = M' + 1 := ⟨M - 1, by omega⟩
      have hil : (i : Int) < l.length := by omega
      have hi0 : (0 : Int) ≤ i := by omega
      have hw1 : IntKind.wrap .i64 ((i : Int) + 1) = ((i + 1 : Nat) : Int) := by rw [wr_id (by omega) (by omega)]; omega
      show n_laws_szInt64SS_0 N (l, ()) (itN (n_laws_szInt64SS_0 N (l, ())) M) _ = _ ∨ ∃ m', n_laws_szInt64SS_0 N (l, ()) (itN (n_laws_szInt64SS_0 N (l, ())) M) _ = _ ∧ _
      rcases szI N (gt l i) m m0 m1 (hl2 _ (gt_mem hi0 hil)) with g | ⟨g, g'⟩
      · left
        simp only [n_laws_szInt64SS_0, decide_eq_true hil, decide_eq_true hi0, cond_true, g]
        rfl
      · have hng : ¬ (m - ((gt l i).length : Int) < 0) := by omega
        have hst : n_laws_szInt64SS_0 N (l, ()) (itN (n_laws_szInt64SS_0 N (l, ())) M) (m, ((i : Int), ())) = itN (n_laws_szInt64SS_0 N (l, ())) M (m - (gt l i).length, (((i + 1 : Nat) : Int), ())) := by
          simp only [n_laws_szInt64SS_0, decide_eq_true hil, decide_eq_true hi0, cond_true, g, Option.bind_some, hw1, decide_eq_false hng, cond_false]
        rw [hst]
        rcases ih (i + 1) M (m - (gt l i).length) (by omega) (by omega) (by omega) (by omega) with k | ⟨m', k1, k2, k3, k4⟩
        · exact .inl k
        · refine .inr ⟨m', k1, k2, by omega, fun j a b => ?_⟩
          by_cases he : j = i
          · subst he; omega
          · exact k4 j (by omega) b
  rcases key l.length 0 N (n - l.length) (by omega) (by omega) (by omega) (by omega) with k | ⟨m', k1, k2, k3, k4⟩
  · left
    have k : itN (n_laws_szInt64SS_0 N (l, ())) N (n - l.length, ((0 : Int), ())) = some (.inl (-1, ())) := k
    simp [F_laws_szInt64SS, hw, h, k]
  · right
    have k1 : itN (n_laws_szInt64SS_0 N (l, ())) N (n - l.length, ((0 : Int), ())) = some (.inr (m', ())) := k1
    refine ⟨m', by simp [F_laws_szInt64SS, hw, h, k1], k2, by omega, by omega, ?_⟩
    exact (all_gt (p := fun v : List Int => v.length ≤ 1048576)).2 fun j a b => k4 j (by omega) b
theorem toII {N : Nat} (l : List (List Int)) (hl : Sm l) (hN : 9007199254740992 ≤ N) : F_laws_toInt64SS N (l, ()) = some (l, ()) := by
  have hl1 := hl.1
  have hc := copyL (step := n_laws_toInt64SS_0 N (l, ())) (l := l) (by omega) (fun rec i o h0 h1 h2 h3 hm => by have ht := toI (N := N) _ (hl.2 _ hm) (by omega); simp [n_laws_toInt64SS_0, h0, h1, h2, h3, ht]) (fun rec i o h => by simp [n_laws_toInt64SS_0, h]) (N := N) (by omega) (List.replicate (l.length : Int).toNat []) (by simp)
  unfold F_laws_toInt64SS
  simp only
  (repeat (first | refine xt ?_ | refine xf ?_ | refine yt ?_ | refine yf ?_))
  exact bd hc rfl
theorem eqII {N : Nat} (l : List (List Int)) (hl : Sm l) (hN : 9007199254740992 ≤ N) : F_laws_eqInt64SS N (l, (l, ())) = some (true, ()) := by
  have hl1 := hl.1
  rcases scan_ans (step := n_laws_eqInt64SS_0 N (l, (l, ()))) (l := l) (p := fun _ => true) (bad := fun _ => (false, ())) (fin := ()) (by omega) (fun rec i h0 h1 h2 hm => by
    have hv := hl.2 _ hm
    have ht := eqI (N := N) (gt l i) (by omega) (by omega); simp [n_laws_eqInt64SS_0, h0, h1, h2, ht]) (fun rec i h => by simp [n_laws_eqInt64SS_0, h]) (N := N) (by omega) with ⟨g1, g2⟩ | ⟨j, _, _, g3, g4⟩
  · simp [F_laws_eqInt64SS, g1]
  · simp at g3
end Go.Proofs.Ytheemkehedmlfaa.P
