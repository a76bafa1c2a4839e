/- Operations and comparisons of words: both do the same. -/
import Derived.Test.YtheemkehedmlfaaP6
set_option linter.unusedVariables false
set_option linter.unusedSimpArgs false
set_option maxRecDepth 4000
namespace Go.Proofs.Ytheemkehedmlfaa.P
open Go Go.Proofs.Ytheemkehedmlfaa.E
theorem wrap_nat (n : Nat) (h : n < 9223372036854775808) : IntKind.wrap .i64 (n : Int) = (n : Int) := wr_id (by omega) (by omega)
theorem and_nat {x y : Int} : andI .i64 x y = IntKind.wrap .i64 (((x % 18446744073709551616).toNat &&& (y % 18446744073709551616).toNat : Nat) : Int) := by
  unfold andI
  rw [BitVec.toNat_and, BitVec.toNat_ofInt, BitVec.toNat_ofInt]
  rfl
theorem or_nat {x y : Int} : orI .i64 x y = IntKind.wrap .i64 (((x % 18446744073709551616).toNat ||| (y % 18446744073709551616).toNat : Nat) : Int) := by
  unfold orI
  rw [BitVec.toNat_or, BitVec.toNat_ofInt, BitVec.toNat_ofInt]
  rfl
theorem xor_nat {x y : Int} : xorI .i64 x y = IntKind.wrap .i64 (((x % 18446744073709551616).toNat ^^^ (y % 18446744073709551616).toNat : Nat) : Int) := by
  unfold xorI
  rw [BitVec.toNat_xor, BitVec.toNat_ofInt, BitVec.toNat_ofInt]
  rfl
theorem mask4 (n : Int) : andI .i64 n 15 = n % 16 := by
  rw [and_nat, show ((15 : Int) % 18446744073709551616).toNat = 2 ^ 4 - 1 from by decide, Nat.and_two_pow_sub_one_eq_mod, wrap_nat _ (by omega)]
  omega
theorem mask8 (n : Int) : andI .i64 n 255 = n % 256 := by
  rw [and_nat, show ((255 : Int) % 18446744073709551616).toNat = 2 ^ 8 - 1 from by decide, Nat.and_two_pow_sub_one_eq_mod, wrap_nat _ (by omega)]
  omega
theorem mask16 (n : Int) : andI .i64 n 65535 = n % 65536 := by
  rw [and_nat, show ((65535 : Int) % 18446744073709551616).toNat = 2 ^ 16 - 1 from by decide, Nat.and_two_pow_sub_one_eq_mod, wrap_nat _ (by omega)]
  omega
/-- Words of both together stay words. -/
theorem bits_small {k : Nat} (hk : k ≤ 16) {a b : Int} (ha : 0 ≤ a ∧ a < ((2 ^ k : Nat) : Int)) (hb : 0 ≤ b ∧ b < ((2 ^ k : Nat) : Int)) :
    (0 ≤ andI .i64 a b ∧ andI .i64 a b < ((2 ^ k : Nat) : Int)) ∧ (0 ≤ orI .i64 a b ∧ orI .i64 a b < ((2 ^ k : Nat) : Int)) ∧ (0 ≤ xorI .i64 a b ∧ xorI .i64 a b < ((2 ^ k : Nat) : Int)) := by
  have hp : 2 ^ k ≤ 2 ^ 16 := Nat.pow_le_pow_right (by decide) hk
  have h1 : (a % 18446744073709551616).toNat < 2 ^ k := by omega
  have h2 : (b % 18446744073709551616).toNat < 2 ^ k := by omega
  have g1 := Nat.and_lt_two_pow (a % 18446744073709551616).toNat h2
  have g2 := Nat.or_lt_two_pow h1 h2
  have g3 := Nat.xor_lt_two_pow h1 h2
  rw [and_nat, or_nat, xor_nat, wrap_nat _ (by omega), wrap_nat _ (by omega), wrap_nat _ (by omega)]
  omega
def sg (b a : Int) : Int := if b = 4 then (if a < 8 then a else a - 16) else if b = 8 then (if a < 128 then a else a - 256) else (if a < 32768 then a else a - 65536)
theorem wordV_iff {b x : Int} (hb : bitsV b = true) : wordV b x = true ↔ 0 ≤ x ∧ x ≤ (if b = 4 then 15 else if b = 8 then 255 else 65535) := by
  simp [wordV, hb]
theorem wrp4 : IntKind.wrap .u64 (IntKind.wrap .i64 (4 - 1)) = 3 := by decide +kernel
theorem wrp8 : IntKind.wrap .u64 (IntKind.wrap .i64 (8 - 1)) = 7 := by decide +kernel
theorem wrp16 : IntKind.wrap .u64 (IntKind.wrap .i64 (16 - 1)) = 15 := by decide +kernel
theorem u3 : IntKind.wrap .u64 3 = 3 := by decide +kernel
theorem u7 : IntKind.wrap .u64 7 = 7 := by decide +kernel
theorem u15 : IntKind.wrap .u64 15 = 15 := by decide +kernel
theorem wri4 : IntKind.wrap .i64 (4 - 1) = 3 := by decide +kernel
theorem wri8 : IntKind.wrap .i64 (8 - 1) = 7 := by decide +kernel
theorem wri16 : IntKind.wrap .i64 (16 - 1) = 15 := by decide +kernel
theorem shl3 : shlI .i64 1 3 = 8 := by decide +kernel
theorem shl4 : shlI .i64 1 4 = 16 := by decide +kernel
theorem shl7 : shlI .i64 1 7 = 128 := by decide +kernel
theorem shl8 : shlI .i64 1 8 = 256 := by decide +kernel
theorem shl15 : shlI .i64 1 15 = 32768 := by decide +kernel
theorem shl16 : shlI .i64 1 16 = 65536 := by decide +kernel
theorem shr3 (a : Int) : shrI .i64 a 3 = a / 8 := Int.fdiv_eq_ediv_of_nonneg a (by decide)
theorem shr7 (a : Int) : shrI .i64 a 7 = a / 128 := Int.fdiv_eq_ediv_of_nonneg a (by decide)
theorem shr15 (a : Int) : shrI .i64 a 15 = a / 32768 := Int.fdiv_eq_ediv_of_nonneg a (by decide)
theorem sg_spec (N : Nat) {b a : Int} (hb : bitsV b = true) (ha : wordV b a = true) : F_spec_l01Signed N (b, (a, ())) = some (sg b a, ()) := by
  rw [wordV_iff hb] at ha
  unfold F_spec_l01Signed
  rcases bits_cases hb with rfl | rfl | rfl
  all_goals
    simp at ha
    simp only [wrp4, wrp8, wrp16, u4, u8, u16, shl4, shl8, shl16, shr3, shr7, shr15, sg]
    simp only [show ¬ ((8 : Int) = 4) by decide, show ¬ ((16 : Int) = 4) by decide, show ¬ ((16 : Int) = 8) by decide, if_true, if_false]
    split
    · (repeat (first | refine bt (by omega) ?_ | refine bf (by omega) ?_ | refine nt (by omega) ?_ | refine nf (by omega) ?_))
      rfl
    · (repeat (first | refine bt (by omega) ?_ | refine bf (by omega) ?_ | refine nt (by omega) ?_ | refine nf (by omega) ?_))
      rw [wr_id (by omega) (by omega)]
theorem sg_impl (N : Nat) {b a : Int} (hb : bitsV b = true) (ha : wordV b a = true) : F_impl_signedOf N (b, (a, ())) = some (sg b a, ()) := by
  rw [wordV_iff hb] at ha
  unfold F_impl_signedOf
  rcases bits_cases hb with rfl | rfl | rfl
  all_goals
    simp at ha
    simp only [wri4, wri8, wri16, shl3, shl7, shl15, shl4, shl8, shl16, sg]
    simp only [show ¬ ((8 : Int) = 4) by decide, show ¬ ((16 : Int) = 4) by decide, show ¬ ((16 : Int) = 8) by decide, if_true, if_false]
    split
    · (repeat (first | refine bt (by omega) ?_ | refine bf (by omega) ?_ | refine nt (by omega) ?_ | refine nf (by omega) ?_))
      try rfl
    · (repeat (first | refine bt (by omega) ?_ | refine bf (by omega) ?_ | refine nt (by omega) ?_ | refine nf (by omega) ?_))
      rw [wr_id (by omega) (by omega)]
/-- A comparison. -/
theorem test_ok (N : Nat) {c b x y : Int} (hb : bitsV b = true) (hx : wordV b x = true) (hy : wordV b y = true) : ∃ t, F_spec_l01Test N (c, (b, (x, (y, ())))) = some (t, ()) ∧ F_impl_holds N (c, (b, (x, (y, ())))) = some (t, ()) := by
  unfold F_spec_l01Test F_impl_holds
  simp only [sg_spec N hb hx, sg_spec N hb hy, sg_impl N hb hx, sg_impl N hb hy, Option.bind_some]
  by_cases h0 : c = 0
  · subst h0; exact ⟨_, rfl, rfl⟩
  by_cases h1 : c = 1
  · subst h1; exact ⟨_, rfl, rfl⟩
  by_cases h2 : c = 2
  · subst h2; exact ⟨_, rfl, rfl⟩
  by_cases h3 : c = 3
  · subst h3; exact ⟨_, rfl, rfl⟩
  by_cases h4 : c = 4
  · subst h4; exact ⟨_, rfl, rfl⟩
  simp only [h0, h1, h2, h3, h4, decide_false, cond_false]
  exact ⟨_, rfl, rfl⟩
theorem wrap_spec (N : Nat) {b n : Int} (hb : bitsV b = true) : F_spec_l01Wrap N (b, (n, ())) = some (n % (if b = 4 then 16 else if b = 8 then 256 else 65536), ()) := by
  unfold F_spec_l01Wrap
  rcases bits_cases hb with rfl | rfl | rfl
  · simp only [u4, v4, mask4]; (repeat (first | refine bt (by omega) ?_ | refine bf (by omega) ?_ | refine nt (by omega) ?_ | refine nf (by omega) ?_)); rfl
  · simp only [u8, v8, mask8]; (repeat (first | refine bt (by omega) ?_ | refine bf (by omega) ?_ | refine nt (by omega) ?_ | refine nf (by omega) ?_)); rfl
  · simp only [u16, v16, mask16]; (repeat (first | refine bt (by omega) ?_ | refine bf (by omega) ?_ | refine nt (by omega) ?_ | refine nf (by omega) ?_)); rfl
theorem wrap_impl (N : Nat) {b n : Int} (hb : bitsV b = true) : F_impl_wrapped N (b, (n, ())) = some (n % (if b = 4 then 16 else if b = 8 then 256 else 65536), ()) := by
  unfold F_impl_wrapped
  rcases bits_cases hb with rfl | rfl | rfl
  · simp only [v4, mask4]; (repeat (first | refine bt (by omega) ?_ | refine bf (by omega) ?_ | refine nt (by omega) ?_ | refine nf (by omega) ?_)); rfl
  · simp only [v8, mask8]; (repeat (first | refine bt (by omega) ?_ | refine bf (by omega) ?_ | refine nt (by omega) ?_ | refine nf (by omega) ?_)); rfl
  · simp only [v16, mask16]; (repeat (first | refine bt (by omega) ?_ | refine bf (by omega) ?_ | refine nt (by omega) ?_ | refine nf (by omega) ?_)); rfl
theorem max_spec (N : Nat) (a b : Int) : F_spec_l00Max N (a, (b, ())) = some (max a b, ()) := by
  unfold F_spec_l00Max
  by_cases h : a > b
  · simp only [h, decide_true, cond_true]; rw [Int.max_eq_left (by omega)]
  · simp only [h, decide_false, cond_false]; rw [Int.max_eq_right (by omega)]
theorem wu (b x : Int) (hb : bitsV b = true) (hx : wordV b x = true) : 0 ≤ Int.tmod x b ∧ IntKind.wrap .u64 (Int.tmod x b) = Int.tmod x b ∧ Int.tmod x b ≤ 15 := by
  rw [wordV_iff hb] at hx
  have h0 : 0 ≤ Int.tmod x b ∧ Int.tmod x b ≤ 15 := by
    rw [Int.tmod_eq_emod_of_nonneg hx.1]
    rcases bits_cases hb with rfl | rfl | rfl <;> omega
  refine ⟨h0.1, ?_, h0.2⟩
  have : ∀ z : Int, 0 ≤ z → z ≤ 15 → IntKind.wrap .u64 z = z := by
    intro z h1 h2
    obtain ⟨n, rfl⟩ : ∃ n : Nat, z = n := ⟨z.toNat, by omega⟩
    have : n < 16 := by omega
    have hall : ∀ n, n < 16 → IntKind.wrap .u64 ((n : Nat) : Int) = (n : Int) := by decide +kernel
    exact hall n this
  exact this _ h0.1 h0.2
theorem shr_small (x k : Int) (h0 : 0 ≤ k) (hx : 0 ≤ x) : 0 ≤ shrI .i64 x k ∧ shrI .i64 x k ≤ x := by
  unfold shrI
  have hp : (0 : Int) < 2 ^ min k.toNat IntKind.i64.bits := Int.pow_pos (by decide)
  rw [Int.fdiv_eq_ediv_of_nonneg _ (by omega)]
  exact ⟨Int.ediv_nonneg hx (by omega), Int.ediv_le_self _ hx⟩
theorem mx_eq (a b : Int) : mxI a b = max a b := by unfold mxI; by_cases h : b > a <;> simp only [h, if_true, if_false] <;> omega
theorem mn_eq (a b : Int) : mnI a b = min a b := by unfold mnI; by_cases h : b < a <;> simp only [h, if_true, if_false] <;> omega
set_option maxHeartbeats 4000000 in
/-- An operation. -/
theorem do_ok (N : Nat) {op b x y : Int} (hb : bitsV b = true) (hx : wordV b x = true) (hy : wordV b y = true) (h0 : 0 ≤ op ∧ op ≤ 17) :
    ∃ v, F_spec_l01Do N (op, (b, (x, (y, ())))) = some (v, ()) ∧ F_impl_result N (op, (b, (x, (y, ())))) = some (v, ()) ∧ wordV b v = true := by
  have hs := bits_small (k := b.toNat) (a := x) (b := y) (by rcases bits_cases hb with rfl | rfl | rfl <;> decide)
    (by rw [wordV_iff hb] at hx; rcases bits_cases hb with rfl | rfl | rfl <;> simp at hx ⊢ <;> omega)
    (by rw [wordV_iff hb] at hy; rcases bits_cases hb with rfl | rfl | rfl <;> simp at hy ⊢ <;> omega)
  obtain ⟨k1, k2, k3⟩ := wu b y hb hy
  have gx := sg_spec N hb hx
  have gy := sg_spec N hb hy
  have ix := sg_impl N hb hx
  have iy := sg_impl N hb hy
  have hsh := shr_small x (Int.tmod y b) k1 ((wordV_iff hb).1 hx).1
  rw [wordV_iff hb] at hx hy
  have hm : 0 ≤ x * y ∧ x * y ≤ 65535 * 65535 := by
    refine ⟨Int.mul_nonneg hx.1 hy.1, Int.mul_le_mul ?_ ?_ hy.1 (by decide)⟩ <;> (rcases bits_cases hb with rfl | rfl | rfl <;> simp at hx hy <;> omega)
  have hsg : ∀ z, (0 ≤ z ∧ z ≤ (if b = 4 then 15 else if b = 8 then 255 else 65535)) → sg b z % (if b = 4 then 16 else if b = 8 then 256 else 65536) = z ∧ -(if b = 4 then 8 else if b = 8 then 128 else 32768) ≤ sg b z ∧ sg b z < (if b = 4 then 8 else if b = 8 then 128 else 32768) := by
    intro z hz
    unfold sg
    rcases bits_cases hb with rfl | rfl | rfl <;> simp at hz ⊢ <;> split <;> omega
  have hsx := hsg x hx
  have hsy := hsg y hy
  clear hsg
  unfold F_spec_l01Do F_impl_result
  have hc : op = 0 ∨ op = 1 ∨ op = 2 ∨ op = 3 ∨ op = 4 ∨ op = 5 ∨ op = 6 ∨ op = 7 ∨ op = 8 ∨ op = 9 ∨ op = 10 ∨ op = 11 ∨ op = 12 ∨ op = 13 ∨ op = 14 ∨ op = 15 ∨ op = 16 ∨ op = 17 := by omega
  simp only [gx, gy, ix, iy, k2, wrap_spec N hb, wrap_impl N hb, min_spec, max_spec, F_spec_l01Between, F_impl_pick, F_impl_bounded, F_impl_nearest, mx_eq, mn_eq, Option.bind_some]
  clear gx gy ix iy
  generalize sg b x = sx at *
  generalize sg b y = sy at *
  generalize shrI .i64 x (Int.tmod y b) = q1 at *
  generalize shrI .i64 sx (Int.tmod y b) = q2 at *
  generalize shlI .i64 x (Int.tmod y b) = q3 at *
  generalize Int.tmod y b = k at *
  generalize andI .i64 x y = z1 at *
  generalize orI .i64 x y = z2 at *
  generalize xorI .i64 x y = z3 at *
  generalize x * y = z4 at *
  have hw : wordV b = fun v => bitsV b && decide (0 ≤ v) && decide (v ≤ (if b = 4 then 15 else if b = 8 then 255 else 65535)) := rfl
  rw [hw, hb]
  rcases bits_cases hb with rfl | rfl | rfl
  · simp only [u4, v4, wri4, wrp4, u3, u7, u15, shl3, shl7, shl15, shl4, shl8, shl16, show ¬ ((8 : Int) = 4) by decide, show ¬ ((16 : Int) = 4) by decide, show ¬ ((16 : Int) = 8) by decide, if_true, if_false] at *
    have bitn : ((4 : Int)).toNat = 4 := rfl
    rw [bitn] at hs
    simp only [Nat.reducePow] at hs
    have e1 : IntKind.wrap .i64 (x + y) = x + y := wr_id (by omega) (by omega)
    have e2 : IntKind.wrap .i64 (x - y) = x - y := wr_id (by omega) (by omega)
    have e3 : IntKind.wrap .i64 z4 = z4 := wr_id (by omega) (by omega)
    have e4 : IntKind.wrap .i64 (sx + sy) = sx + sy := wr_id (by omega) (by omega)
    have e5 : IntKind.wrap .i64 (sx - sy) = sx - sy := wr_id (by omega) (by omega)
    have e6 : IntKind.wrap .i64 (x + y + 1) = x + y + 1 := wr_id (by omega) (by omega)
    have e7 : Int.tdiv (x + y + 1) 2 = (x + y + 1) / 2 := Int.tdiv_eq_ediv_of_nonneg (by omega)
    have e8 : IntKind.wrap .i64 ((x + y + 1) / 2) = (x + y + 1) / 2 := wr_id (by omega) (by omega)
    have e9 : IntKind.wrap .i64 (0 - 8) = -8 := by decide +kernel
    have e10 : IntKind.wrap .i64 (8 - 1) = 7 := by decide +kernel
    have e11 : IntKind.wrap .i64 (16 - 1) = 15 := by decide +kernel
    simp only [e1, e2, e3, e4, e5, e6, e7, e8, e9, e10, e11]
    clear e1 e2 e3 e4 e5 e6 e7 e8 e9 e10 e11 hw hb bitn
    rcases hc with rfl | rfl | rfl | rfl | rfl | rfl | rfl | rfl | rfl | rfl | rfl | rfl | rfl | rfl | rfl | rfl | rfl | rfl
    · exact ⟨(x + y) % 16, by (repeat (first | refine bt (by omega) ?_ | refine bf (by omega) ?_ | refine nt (by omega) ?_ | refine nf (by omega) ?_)); rfl, by (repeat (first | refine bt (by omega) ?_ | refine bf (by omega) ?_ | refine nt (by omega) ?_ | refine nf (by omega) ?_)); rfl, by simp; omega⟩
    · exact ⟨(x - y) % 16, by (repeat (first | refine bt (by omega) ?_ | refine bf (by omega) ?_ | refine nt (by omega) ?_ | refine nf (by omega) ?_)); rfl, by (repeat (first | refine bt (by omega) ?_ | refine bf (by omega) ?_ | refine nt (by omega) ?_ | refine nf (by omega) ?_)); rfl, by simp; omega⟩
    · exact ⟨z4 % 16, by (repeat (first | refine bt (by omega) ?_ | refine bf (by omega) ?_ | refine nt (by omega) ?_ | refine nf (by omega) ?_)); rfl, by (repeat (first | refine bt (by omega) ?_ | refine bf (by omega) ?_ | refine nt (by omega) ?_ | refine nf (by omega) ?_)); rfl, by simp; omega⟩
    · exact ⟨z1, by (repeat (first | refine bt (by omega) ?_ | refine bf (by omega) ?_ | refine nt (by omega) ?_ | refine nf (by omega) ?_)); rfl, by (repeat (first | refine bt (by omega) ?_ | refine bf (by omega) ?_ | refine nt (by omega) ?_ | refine nf (by omega) ?_)); rfl, by simp; omega⟩
    · exact ⟨z2, by (repeat (first | refine bt (by omega) ?_ | refine bf (by omega) ?_ | refine nt (by omega) ?_ | refine nf (by omega) ?_)); rfl, by (repeat (first | refine bt (by omega) ?_ | refine bf (by omega) ?_ | refine nt (by omega) ?_ | refine nf (by omega) ?_)); rfl, by simp; omega⟩
    · exact ⟨z3, by (repeat (first | refine bt (by omega) ?_ | refine bf (by omega) ?_ | refine nt (by omega) ?_ | refine nf (by omega) ?_)); rfl, by (repeat (first | refine bt (by omega) ?_ | refine bf (by omega) ?_ | refine nt (by omega) ?_ | refine nf (by omega) ?_)); rfl, by simp; omega⟩
    · refine ⟨min x y, by (repeat (first | refine bt (by omega) ?_ | refine bf (by omega) ?_ | refine nt (by omega) ?_ | refine nf (by omega) ?_)); rfl, ?_, by simp; omega⟩
      (repeat (first | refine bt (by omega) ?_ | refine bf (by omega) ?_ | refine nt (by omega) ?_ | refine nf (by omega) ?_))
      refine congrArg (fun v : Int => some (v, ())) ?_
      omega
    · refine ⟨max x y, by (repeat (first | refine bt (by omega) ?_ | refine bf (by omega) ?_ | refine nt (by omega) ?_ | refine nf (by omega) ?_)); rfl, ?_, by simp; omega⟩
      (repeat (first | refine bt (by omega) ?_ | refine bf (by omega) ?_ | refine nt (by omega) ?_ | refine nf (by omega) ?_))
      refine congrArg (fun v : Int => some (v, ())) ?_
      omega
    · refine ⟨(min sx sy) % 16, by (repeat (first | refine bt (by omega) ?_ | refine bf (by omega) ?_ | refine nt (by omega) ?_ | refine nf (by omega) ?_)); rfl, ?_, by simp; omega⟩
      (repeat (first | refine bt (by omega) ?_ | refine bf (by omega) ?_ | refine nt (by omega) ?_ | refine nf (by omega) ?_))
      by_cases hq : sx ≤ sy
      · simp only [hq, decide_true, cond_true, Option.bind_some]; congr 2; omega
      · simp only [hq, decide_false, cond_false, Option.bind_some]; congr 2; omega
    · refine ⟨(max sx sy) % 16, by (repeat (first | refine bt (by omega) ?_ | refine bf (by omega) ?_ | refine nt (by omega) ?_ | refine nf (by omega) ?_)); rfl, ?_, by simp; omega⟩
      (repeat (first | refine bt (by omega) ?_ | refine bf (by omega) ?_ | refine nt (by omega) ?_ | refine nf (by omega) ?_))
      by_cases hq : sx ≥ sy
      · simp only [hq, decide_true, cond_true, Option.bind_some]; congr 2; omega
      · simp only [hq, decide_false, cond_false, Option.bind_some]; congr 2; omega
    · refine ⟨min (x + y) 15, by (repeat (first | refine bt (by omega) ?_ | refine bf (by omega) ?_ | refine nt (by omega) ?_ | refine nf (by omega) ?_)); rfl, ?_, by simp; omega⟩
      (repeat (first | refine bt (by omega) ?_ | refine bf (by omega) ?_ | refine nt (by omega) ?_ | refine nf (by omega) ?_))
      refine congrArg (fun v : Int => some (v, ())) ?_
      omega
    · refine ⟨(min 7 (max (-8) (sx + sy))) % 16, by (repeat (first | refine bt (by omega) ?_ | refine bf (by omega) ?_ | refine nt (by omega) ?_ | refine nf (by omega) ?_)); rfl, ?_, by simp; omega⟩
      (repeat (first | refine bt (by omega) ?_ | refine bf (by omega) ?_ | refine nt (by omega) ?_ | refine nf (by omega) ?_))
      refine congrArg (fun v : Int => some (v, ())) ?_
      omega
    · refine ⟨max (x - y) 0, by (repeat (first | refine bt (by omega) ?_ | refine bf (by omega) ?_ | refine nt (by omega) ?_ | refine nf (by omega) ?_)); rfl, ?_, by simp; omega⟩
      (repeat (first | refine bt (by omega) ?_ | refine bf (by omega) ?_ | refine nt (by omega) ?_ | refine nf (by omega) ?_))
      refine congrArg (fun v : Int => some (v, ())) ?_
      omega
    · refine ⟨(min 7 (max (-8) (sx - sy))) % 16, by (repeat (first | refine bt (by omega) ?_ | refine bf (by omega) ?_ | refine nt (by omega) ?_ | refine nf (by omega) ?_)); rfl, ?_, by simp; omega⟩
      (repeat (first | refine bt (by omega) ?_ | refine bf (by omega) ?_ | refine nt (by omega) ?_ | refine nf (by omega) ?_))
      refine congrArg (fun v : Int => some (v, ())) ?_
      omega
    · exact ⟨(x + y + 1) / 2, by (repeat (first | refine bt (by omega) ?_ | refine bf (by omega) ?_ | refine nt (by omega) ?_ | refine nf (by omega) ?_)); rfl, by (repeat (first | refine bt (by omega) ?_ | refine bf (by omega) ?_ | refine nt (by omega) ?_ | refine nf (by omega) ?_)); rfl, by simp; omega⟩
    · exact ⟨q3 % 16, by (repeat (first | refine bt (by omega) ?_ | refine bf (by omega) ?_ | refine nt (by omega) ?_ | refine nf (by omega) ?_)); rfl, by (repeat (first | refine bt (by omega) ?_ | refine bf (by omega) ?_ | refine nt (by omega) ?_ | refine nf (by omega) ?_)); rfl, by simp; omega⟩
    · exact ⟨q1, by (repeat (first | refine bt (by omega) ?_ | refine bf (by omega) ?_ | refine nt (by omega) ?_ | refine nf (by omega) ?_)); rfl, by (repeat (first | refine bt (by omega) ?_ | refine bf (by omega) ?_ | refine nt (by omega) ?_ | refine nf (by omega) ?_)); rfl, by simp; omega⟩
    · exact ⟨q2 % 16, by (repeat (first | refine bt (by omega) ?_ | refine bf (by omega) ?_ | refine nt (by omega) ?_ | refine nf (by omega) ?_)); rfl, by (repeat (first | refine bt (by omega) ?_ | refine bf (by omega) ?_ | refine nt (by omega) ?_ | refine nf (by omega) ?_)); rfl, by simp; omega⟩
  · simp only [u8, v8, wri8, wrp8, u3, u7, u15, shl3, shl7, shl15, shl4, shl8, shl16, show ¬ ((8 : Int) = 4) by decide, show ¬ ((16 : Int) = 4) by decide, show ¬ ((16 : Int) = 8) by decide, if_true, if_false] at *
    have bitn : ((8 : Int)).toNat = 8 := rfl
    rw [bitn] at hs
    simp only [Nat.reducePow] at hs
    have e1 : IntKind.wrap .i64 (x + y) = x + y := wr_id (by omega) (by omega)
    have e2 : IntKind.wrap .i64 (x - y) = x - y := wr_id (by omega) (by omega)
    have e3 : IntKind.wrap .i64 z4 = z4 := wr_id (by omega) (by omega)
    have e4 : IntKind.wrap .i64 (sx + sy) = sx + sy := wr_id (by omega) (by omega)
    have e5 : IntKind.wrap .i64 (sx - sy) = sx - sy := wr_id (by omega) (by omega)
    have e6 : IntKind.wrap .i64 (x + y + 1) = x + y + 1 := wr_id (by omega) (by omega)
    have e7 : Int.tdiv (x + y + 1) 2 = (x + y + 1) / 2 := Int.tdiv_eq_ediv_of_nonneg (by omega)
    have e8 : IntKind.wrap .i64 ((x + y + 1) / 2) = (x + y + 1) / 2 := wr_id (by omega) (by omega)
    have e9 : IntKind.wrap .i64 (0 - 128) = -128 := by decide +kernel
    have e10 : IntKind.wrap .i64 (128 - 1) = 127 := by decide +kernel
    have e11 : IntKind.wrap .i64 (256 - 1) = 255 := by decide +kernel
    simp only [e1, e2, e3, e4, e5, e6, e7, e8, e9, e10, e11]
    clear e1 e2 e3 e4 e5 e6 e7 e8 e9 e10 e11 hw hb bitn
    rcases hc with rfl | rfl | rfl | rfl | rfl | rfl | rfl | rfl | rfl | rfl | rfl | rfl | rfl | rfl | rfl | rfl | rfl | rfl
    · exact ⟨(x + y) % 256, by (repeat (first | refine bt (by omega) ?_ | refine bf (by omega) ?_ | refine nt (by omega) ?_ | refine nf (by omega) ?_)); rfl, by (repeat (first | refine bt (by omega) ?_ | refine bf (by omega) ?_ | refine nt (by omega) ?_ | refine nf (by omega) ?_)); rfl, by simp; omega⟩
    · exact ⟨(x - y) % 256, by (repeat (first | refine bt (by omega) ?_ | refine bf (by omega) ?_ | refine nt (by omega) ?_ | refine nf (by omega) ?_)); rfl, by (repeat (first | refine bt (by omega) ?_ | refine bf (by omega) ?_ | refine nt (by omega) ?_ | refine nf (by omega) ?_)); rfl, by simp; omega⟩
    · exact ⟨z4 % 256, by (repeat (first | refine bt (by omega) ?_ | refine bf (by omega) ?_ | refine nt (by omega) ?_ | refine nf (by omega) ?_)); rfl, by (repeat (first | refine bt (by omega) ?_ | refine bf (by omega) ?_ | refine nt (by omega) ?_ | refine nf (by omega) ?_)); rfl, by simp; omega⟩
    · exact ⟨z1, by (repeat (first | refine bt (by omega) ?_ | refine bf (by omega) ?_ | refine nt (by omega) ?_ | refine nf (by omega) ?_)); rfl, by (repeat (first | refine bt (by omega) ?_ | refine bf (by omega) ?_ | refine nt (by omega) ?_ | refine nf (by omega) ?_)); rfl, by simp; omega⟩
    · exact ⟨z2, by (repeat (first | refine bt (by omega) ?_ | refine bf (by omega) ?_ | refine nt (by omega) ?_ | refine nf (by omega) ?_)); rfl, by (repeat (first | refine bt (by omega) ?_ | refine bf (by omega) ?_ | refine nt (by omega) ?_ | refine nf (by omega) ?_)); rfl, by simp; omega⟩
    · exact ⟨z3, by (repeat (first | refine bt (by omega) ?_ | refine bf (by omega) ?_ | refine nt (by omega) ?_ | refine nf (by omega) ?_)); rfl, by (repeat (first | refine bt (by omega) ?_ | refine bf (by omega) ?_ | refine nt (by omega) ?_ | refine nf (by omega) ?_)); rfl, by simp; omega⟩
    · refine ⟨min x y, by (repeat (first | refine bt (by omega) ?_ | refine bf (by omega) ?_ | refine nt (by omega) ?_ | refine nf (by omega) ?_)); rfl, ?_, by simp; omega⟩
      (repeat (first | refine bt (by omega) ?_ | refine bf (by omega) ?_ | refine nt (by omega) ?_ | refine nf (by omega) ?_))
      refine congrArg (fun v : Int => some (v, ())) ?_
      omega
    · refine ⟨max x y, by (repeat (first | refine bt (by omega) ?_ | refine bf (by omega) ?_ | refine nt (by omega) ?_ | refine nf (by omega) ?_)); rfl, ?_, by simp; omega⟩
      (repeat (first | refine bt (by omega) ?_ | refine bf (by omega) ?_ | refine nt (by omega) ?_ | refine nf (by omega) ?_))
      refine congrArg (fun v : Int => some (v, ())) ?_
      omega
    · refine ⟨(min sx sy) % 256, by (repeat (first | refine bt (by omega) ?_ | refine bf (by omega) ?_ | refine nt (by omega) ?_ | refine nf (by omega) ?_)); rfl, ?_, by simp; omega⟩
      (repeat (first | refine bt (by omega) ?_ | refine bf (by omega) ?_ | refine nt (by omega) ?_ | refine nf (by omega) ?_))
      by_cases hq : sx ≤ sy
      · simp only [hq, decide_true, cond_true, Option.bind_some]; congr 2; omega
      · simp only [hq, decide_false, cond_false, Option.bind_some]; congr 2; omega
    · refine ⟨(max sx sy) % 256, by (repeat (first | refine bt (by omega) ?_ | refine bf (by omega) ?_ | refine nt (by omega) ?_ | refine nf (by omega) ?_)); rfl, ?_, by simp; omega⟩
      (repeat (first | refine bt (by omega) ?_ | refine bf (by omega) ?_ | refine nt (by omega) ?_ | refine nf (by omega) ?_))
      by_cases hq : sx ≥ sy
      · simp only [hq, decide_true, cond_true, Option.bind_some]; congr 2; omega
      · simp only [hq, decide_false, cond_false, Option.bind_some]; congr 2; omega
    · refine ⟨min (x + y) 255, by (repeat (first | refine bt (by omega) ?_ | refine bf (by omega) ?_ | refine nt (by omega) ?_ | refine nf (by omega) ?_)); rfl, ?_, by simp; omega⟩
      (repeat (first | refine bt (by omega) ?_ | refine bf (by omega) ?_ | refine nt (by omega) ?_ | refine nf (by omega) ?_))
      refine congrArg (fun v : Int => some (v, ())) ?_
      omega
    · refine ⟨(min 127 (max (-128) (sx + sy))) % 256, by (repeat (first | refine bt (by omega) ?_ | refine bf (by omega) ?_ | refine nt (by omega) ?_ | refine nf (by omega) ?_)); rfl, ?_, by simp; omega⟩
      (repeat (first | refine bt (by omega) ?_ | refine bf (by omega) ?_ | refine nt (by omega) ?_ | refine nf (by omega) ?_))
      refine congrArg (fun v : Int => some (v, ())) ?_
      omega
    · refine ⟨max (x - y) 0, by (repeat (first | refine bt (by omega) ?_ | refine bf (by omega) ?_ | refine nt (by omega) ?_ | refine nf (by omega) ?_)); rfl, ?_, by simp; omega⟩
      (repeat (first | refine bt (by omega) ?_ | refine bf (by omega) ?_ | refine nt (by omega) ?_ | refine nf (by omega) ?_))
      refine congrArg (fun v : Int => some (v, ())) ?_
      omega
    · refine ⟨(min 127 (max (-128) (sx - sy))) % 256, by (repeat (first | refine bt (by omega) ?_ | refine bf (by omega) ?_ | refine nt (by omega) ?_ | refine nf (by omega) ?_)); rfl, ?_, by simp; omega⟩
      (repeat (first | refine bt (by omega) ?_ | refine bf (by omega) ?_ | refine nt (by omega) ?_ | refine nf (by omega) ?_))
      refine congrArg (fun v : Int => some (v, ())) ?_
      omega
    · exact ⟨(x + y + 1) / 2, by (repeat (first | refine bt (by omega) ?_ | refine bf (by omega) ?_ | refine nt (by omega) ?_ | refine nf (by omega) ?_)); rfl, by (repeat (first | refine bt (by omega) ?_ | refine bf (by omega) ?_ | refine nt (by omega) ?_ | refine nf (by omega) ?_)); rfl, by simp; omega⟩
    · exact ⟨q3 % 256, by (repeat (first | refine bt (by omega) ?_ | refine bf (by omega) ?_ | refine nt (by omega) ?_ | refine nf (by omega) ?_)); rfl, by (repeat (first | refine bt (by omega) ?_ | refine bf (by omega) ?_ | refine nt (by omega) ?_ | refine nf (by omega) ?_)); rfl, by simp; omega⟩
    · exact ⟨q1, by (repeat (first | refine bt (by omega) ?_ | refine bf (by omega) ?_ | refine nt (by omega) ?_ | refine nf (by omega) ?_)); rfl, by (repeat (first | refine bt (by omega) ?_ | refine bf (by omega) ?_ | refine nt (by omega) ?_ | refine nf (by omega) ?_)); rfl, by simp; omega⟩
    · exact ⟨q2 % 256, by (repeat (first | refine bt (by omega) ?_ | refine bf (by omega) ?_ | refine nt (by omega) ?_ | refine nf (by omega) ?_)); rfl, by (repeat (first | refine bt (by omega) ?_ | refine bf (by omega) ?_ | refine nt (by omega) ?_ | refine nf (by omega) ?_)); rfl, by simp; omega⟩
  · simp only [u16, v16, wri16, wrp16, u3, u7, u15, shl3, shl7, shl15, shl4, shl8, shl16, show ¬ ((8 : Int) = 4) by decide, show ¬ ((16 : Int) = 4) by decide, show ¬ ((16 : Int) = 8) by decide, if_true, if_false] at *
    have bitn : ((16 : Int)).toNat = 16 := rfl
    rw [bitn] at hs
    simp only [Nat.reducePow] at hs
    have e1 : IntKind.wrap .i64 (x + y) = x + y := wr_id (by omega) (by omega)
    have e2 : IntKind.wrap .i64 (x - y) = x - y := wr_id (by omega) (by omega)
    have e3 : IntKind.wrap .i64 z4 = z4 := wr_id (by omega) (by omega)
    have e4 : IntKind.wrap .i64 (sx + sy) = sx + sy := wr_id (by omega) (by omega)
    have e5 : IntKind.wrap .i64 (sx - sy) = sx - sy := wr_id (by omega) (by omega)
    have e6 : IntKind.wrap .i64 (x + y + 1) = x + y + 1 := wr_id (by omega) (by omega)
    have e7 : Int.tdiv (x + y + 1) 2 = (x + y + 1) / 2 := Int.tdiv_eq_ediv_of_nonneg (by omega)
    have e8 : IntKind.wrap .i64 ((x + y + 1) / 2) = (x + y + 1) / 2 := wr_id (by omega) (by omega)
    have e9 : IntKind.wrap .i64 (0 - 32768) = -32768 := by decide +kernel
    have e10 : IntKind.wrap .i64 (32768 - 1) = 32767 := by decide +kernel
    have e11 : IntKind.wrap .i64 (65536 - 1) = 65535 := by decide +kernel
    simp only [e1, e2, e3, e4, e5, e6, e7, e8, e9, e10, e11]
    clear e1 e2 e3 e4 e5 e6 e7 e8 e9 e10 e11 hw hb bitn
    rcases hc with rfl | rfl | rfl | rfl | rfl | rfl | rfl | rfl | rfl | rfl | rfl | rfl | rfl | rfl | rfl | rfl | rfl | rfl
    · exact ⟨(x + y) % 65536, by (repeat (first | refine bt (by omega) ?_ | refine bf (by omega) ?_ | refine nt (by omega) ?_ | refine nf (by omega) ?_)); rfl, by (repeat (first | refine bt (by omega) ?_ | refine bf (by omega) ?_ | refine nt (by omega) ?_ | refine nf (by omega) ?_)); rfl, by simp; omega⟩
    · exact ⟨(x - y) % 65536, by (repeat (first | refine bt (by omega) ?_ | refine bf (by omega) ?_ | refine nt (by omega) ?_ | refine nf (by omega) ?_)); rfl, by (repeat (first | refine bt (by omega) ?_ | refine bf (by omega) ?_ | refine nt (by omega) ?_ | refine nf (by omega) ?_)); rfl, by simp; omega⟩
    · exact ⟨z4 % 65536, by (repeat (first | refine bt (by omega) ?_ | refine bf (by omega) ?_ | refine nt (by omega) ?_ | refine nf (by omega) ?_)); rfl, by (repeat (first | refine bt (by omega) ?_ | refine bf (by omega) ?_ | refine nt (by omega) ?_ | refine nf (by omega) ?_)); rfl, by simp; omega⟩
    · exact ⟨z1, by (repeat (first | refine bt (by omega) ?_ | refine bf (by omega) ?_ | refine nt (by omega) ?_ | refine nf (by omega) ?_)); rfl, by (repeat (first | refine bt (by omega) ?_ | refine bf (by omega) ?_ | refine nt (by omega) ?_ | refine nf (by omega) ?_)); rfl, by simp; omega⟩
    · exact ⟨z2, by (repeat (first | refine bt (by omega) ?_ | refine bf (by omega) ?_ | refine nt (by omega) ?_ | refine nf (by omega) ?_)); rfl, by (repeat (first | refine bt (by omega) ?_ | refine bf (by omega) ?_ | refine nt (by omega) ?_ | refine nf (by omega) ?_)); rfl, by simp; omega⟩
    · exact ⟨z3, by (repeat (first | refine bt (by omega) ?_ | refine bf (by omega) ?_ | refine nt (by omega) ?_ | refine nf (by omega) ?_)); rfl, by (repeat (first | refine bt (by omega) ?_ | refine bf (by omega) ?_ | refine nt (by omega) ?_ | refine nf (by omega) ?_)); rfl, by simp; omega⟩
    · refine ⟨min x y, by (repeat (first | refine bt (by omega) ?_ | refine bf (by omega) ?_ | refine nt (by omega) ?_ | refine nf (by omega) ?_)); rfl, ?_, by simp; omega⟩
      (repeat (first | refine bt (by omega) ?_ | refine bf (by omega) ?_ | refine nt (by omega) ?_ | refine nf (by omega) ?_))
      refine congrArg (fun v : Int => some (v, ())) ?_
      omega
    · refine ⟨max x y, by (repeat (first | refine bt (by omega) ?_ | refine bf (by omega) ?_ | refine nt (by omega) ?_ | refine nf (by omega) ?_)); rfl, ?_, by simp; omega⟩
      (repeat (first | refine bt (by omega) ?_ | refine bf (by omega) ?_ | refine nt (by omega) ?_ | refine nf (by omega) ?_))
      refine congrArg (fun v : Int => some (v, ())) ?_
      omega
    · refine ⟨(min sx sy) % 65536, by (repeat (first | refine bt (by omega) ?_ | refine bf (by omega) ?_ | refine nt (by omega) ?_ | refine nf (by omega) ?_)); rfl, ?_, by simp; omega⟩
      (repeat (first | refine bt (by omega) ?_ | refine bf (by omega) ?_ | refine nt (by omega) ?_ | refine nf (by omega) ?_))
      by_cases hq : sx ≤ sy
      · simp only [hq, decide_true, cond_true, Option.bind_some]; congr 2; omega
      · simp only [hq, decide_false, cond_false, Option.bind_some]; congr 2; omega
    · refine ⟨(max sx sy) % 65536, by (repeat (first | refine bt (by omega) ?_ | refine bf (by omega) ?_ | refine nt (by omega) ?_ | refine nf (by omega) ?_)); rfl, ?_, by simp; omega⟩
      (repeat (first | refine bt (by omega) ?_ | refine bf (by omega) ?_ | refine nt (by omega) ?_ | refine nf (by omega) ?_))
      by_cases hq : sx ≥ sy
      · simp only [hq, decide_true, cond_true, Option.bind_some]; congr 2; omega
      · simp only [hq, decide_false, cond_false, Option.bind_some]; congr 2; omega
    · refine ⟨min (x + y) 65535, by (repeat (first | refine bt (by omega) ?_ | refine bf (by omega) ?_ | refine nt (by omega) ?_ | refine nf (by omega) ?_)); rfl, ?_, by simp; omega⟩
      (repeat (first | refine bt (by omega) ?_ | refine bf (by omega) ?_ | refine nt (by omega) ?_ | refine nf (by omega) ?_))
      refine congrArg (fun v : Int => some (v, ())) ?_
      omega
    · refine ⟨(min 32767 (max (-32768) (sx + sy))) % 65536, by (repeat (first | refine bt (by omega) ?_ | refine bf (by omega) ?_ | refine nt (by omega) ?_ | refine nf (by omega) ?_)); rfl, ?_, by simp; omega⟩
      (repeat (first | refine bt (by omega) ?_ | refine bf (by omega) ?_ | refine nt (by omega) ?_ | refine nf (by omega) ?_))
      refine congrArg (fun v : Int => some (v, ())) ?_
      omega
    · refine ⟨max (x - y) 0, by (repeat (first | refine bt (by omega) ?_ | refine bf (by omega) ?_ | refine nt (by omega) ?_ | refine nf (by omega) ?_)); rfl, ?_, by simp; omega⟩
      (repeat (first | refine bt (by omega) ?_ | refine bf (by omega) ?_ | refine nt (by omega) ?_ | refine nf (by omega) ?_))
      refine congrArg (fun v : Int => some (v, ())) ?_
      omega
    · refine ⟨(min 32767 (max (-32768) (sx - sy))) % 65536, by (repeat (first | refine bt (by omega) ?_ | refine bf (by omega) ?_ | refine nt (by omega) ?_ | refine nf (by omega) ?_)); rfl, ?_, by simp; omega⟩
      (repeat (first | refine bt (by omega) ?_ | refine bf (by omega) ?_ | refine nt (by omega) ?_ | refine nf (by omega) ?_))
      refine congrArg (fun v : Int => some (v, ())) ?_
      omega
    · exact ⟨(x + y + 1) / 2, by (repeat (first | refine bt (by omega) ?_ | refine bf (by omega) ?_ | refine nt (by omega) ?_ | refine nf (by omega) ?_)); rfl, by (repeat (first | refine bt (by omega) ?_ | refine bf (by omega) ?_ | refine nt (by omega) ?_ | refine nf (by omega) ?_)); rfl, by simp; omega⟩
    · exact ⟨q3 % 65536, by (repeat (first | refine bt (by omega) ?_ | refine bf (by omega) ?_ | refine nt (by omega) ?_ | refine nf (by omega) ?_)); rfl, by (repeat (first | refine bt (by omega) ?_ | refine bf (by omega) ?_ | refine nt (by omega) ?_ | refine nf (by omega) ?_)); rfl, by simp; omega⟩
    · exact ⟨q1, by (repeat (first | refine bt (by omega) ?_ | refine bf (by omega) ?_ | refine nt (by omega) ?_ | refine nf (by omega) ?_)); rfl, by (repeat (first | refine bt (by omega) ?_ | refine bf (by omega) ?_ | refine nt (by omega) ?_ | refine nf (by omega) ?_)); rfl, by simp; omega⟩
    · exact ⟨q2 % 65536, by (repeat (first | refine bt (by omega) ?_ | refine bf (by omega) ?_ | refine nt (by omega) ?_ | refine nf (by omega) ?_)); rfl, by (repeat (first | refine bt (by omega) ?_ | refine bf (by omega) ?_ | refine nt (by omega) ?_ | refine nf (by omega) ?_)); rfl, by simp; omega⟩
end Go.Proofs.Ytheemkehedmlfaa.P
