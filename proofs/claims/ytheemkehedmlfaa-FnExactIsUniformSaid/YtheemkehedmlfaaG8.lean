/- The engine's print: the pure forms of the functions that the laws on code run alone reach, and the proofs that the functions' code meets them. -/
import Derived.Test.YtheemkehedmlfaaT
set_option linter.unusedVariables false
namespace Go.Proofs.Ytheemkehedmlfaa.E
open Go
noncomputable def C0 (N : Nat) : CL SS := []
theorem KC0 (N : Nat) : COk QQ (C0 N) := COk.nil
noncomputable def c13 : Code := Try.f13.body.getD .skip
theorem i13 : IsF Try.prog 13 Try.f13 c13 := ⟨Try.func13, by kernel_rfl, by kernel_rfl, by kernel_rfl⟩
/-- loop.example/g01139/laws.szLineS -/
def F_laws_szLineS (N : Nat) : (List (Int × Int × Int × Int × Int)) × Int × Unit → Option (Int × Unit)
  | (a0, left1, _) =>
    bif (decide ((IntKind.wrap .i64 (left1 - (a0.length : Int))) < (0 : Int))) then some ((-(1 : Int)), ())
    else some ((IntKind.wrap .i64 (left1 - (a0.length : Int))), ())
theorem t13 (N : Nat) : ∀ v, (fr drawR (mkB (C0 N) [] [] [] []) 8 13 Try.f13 (instA [.c (.ls 65), .c (.int .i64)] v)).k (matR [.c (.int .i64)]) = F_laws_szLineS N v := by
  rintro ⟨a0, left1, _⟩; kernel_rfl
noncomputable def C13 (N : Nat) : CL SS := (13, conG [.c (.ls 65), .c (.int .i64)] [.c (.int .i64)] (F_laws_szLineS N)) :: C0 N
theorem KC13 (N : Nat) : COk QQ (C13 N) := COk.cons (conP LL DR_ok (KC0 N) (F := []) (J := []) (FGood.nil _) (M := []) (R := []) i13 (JGood.nil c13) (t13 N)) (KC0 N)
noncomputable def c54 : Code := Try.f54.body.getD .skip
theorem i54 : IsF Try.prog 54 Try.f54 c54 := ⟨Try.func54, by kernel_rfl, by kernel_rfl, by kernel_rfl⟩
/-- loop.example/g01139/laws.toLine -/
def F_laws_toLine (N : Nat) : Int × Int × Int × Int × Int × Unit → Option (Int × Int × Int × Int × Int × Unit)
  | (a0c0, a0c1, a0c2, a0c3, a0c4, _) =>
    some (a0c0, (a0c1, (a0c2, (a0c3, (a0c4, ())))))
theorem t54 (N : Nat) : ∀ v, (fr drawR (mkB (C13 N) [] [] [] []) 8 54 Try.f54 (instA [.agg [.int .i64, .int .i64, .int .i64, .int .i64, .int .i64]] v)).k (matR [.agg [.int .i64, .int .i64, .int .i64, .int .i64, .int .i64]]) = F_laws_toLine N v := by
  rintro ⟨a0c0, a0c1, a0c2, a0c3, a0c4, _⟩; kernel_rfl
noncomputable def C54 (N : Nat) : CL SS := (54, conG [.agg [.int .i64, .int .i64, .int .i64, .int .i64, .int .i64]] [.agg [.int .i64, .int .i64, .int .i64, .int .i64, .int .i64]] (F_laws_toLine N)) :: C13 N
theorem KC54 (N : Nat) : COk QQ (C54 N) := COk.cons (conP LL DR_ok (KC13 N) (F := []) (J := []) (FGood.nil _) (M := []) (R := []) i54 (JGood.nil c54) (t54 N)) (KC13 N)
noncomputable def c15 : Code := Try.f15.body.getD .skip
theorem i15 : IsF Try.prog 15 Try.f15 c15 := ⟨Try.func15, by kernel_rfl, by kernel_rfl, by kernel_rfl⟩
noncomputable def b15_0 : Code := unLoop (blkOf 0 (blks c15))
theorem e15_0 : blkOf 0 (blks c15) = .loop b15_0 := by kernel_rfl
-- loop.example/g01139/laws.toLineS: loop 0
def d_laws_toLineS_0 : LoopD := ⟨56, ⟨[(0, .c (.rd 65 [(0, 0)])), (3, .c (.row 25))], [(0, 0, .ext)], 23⟩, ⟨[(4, .c (.int .i64))], [(25, .row 63 [])], 64⟩, [], [0, 25], [⟨.norm, ⟨[], [(25, .row 63 [])], 64⟩, [], [0, 25]⟩]⟩
def n_laws_toLineS_0 (N : Nat) : (List (Int × Int × Int × Int × Int)) × Unit → (Int × (List (Int × Int × Int × Int × Int)) × Unit → Option (((List (Int × Int × Int × Int × Int)) × Unit))) → Int × (List (Int × Int × Int × Int × Int)) × Unit → Option (((List (Int × Int × Int × Int × Int)) × Unit))
  | (a0, _), rec, (i4, o25, _) =>
    bif (decide (i4 < (a0.length : Int))) then bif (decide ((0 : Int) ≤ i4)) then bif (decide (i4 < (a0.length : Int))) then (F_laws_toLine N ((gt a0 i4).1, ((gt a0 i4).2.1, ((gt a0 i4).2.2.1, ((gt a0 i4).2.2.2.1, ((gt a0 i4).2.2.2.2, ())))))).bind fun r1 =>
       bif (decide ((0 : Int) ≤ i4)) then bif (decide (i4 < (o25.length : Int))) then rec ((IntKind.wrap .i64 (i4 + (1 : Int))), ((o25.set i4.toNat (r1.1, (r1.2.1, (r1.2.2.1, (r1.2.2.2.1, r1.2.2.2.2.1))))), ()))
         else none
        else none
      else none
     else none
    else some (o25, ())
theorem s_laws_toLineS_0 (N : Nat) : ∀ σ p rec v, stepL (rn drawR (mkB (C54 N) [] [] [] []) 8 15 b15_0) 0 (wr b15_0) d_laws_toLineS_0 (instP σ d_laws_toLineS_0.pm p) rec v = n_laws_toLineS_0 N p rec v := by
  rintro σ ⟨a0, _⟩ rec ⟨i4, o25, _⟩; kernel_rfl
noncomputable def g_laws_toLineS_0 (N : Nat) : St (Sig.T SS) → Tr (Ex × St (Sig.T SS)) := orcL (wr b15_0) d_laws_toLineS_0 fun p => itN (n_laws_toLineS_0 N p) N
theorem o_laws_toLineS_0 (N : Nat) : Snd QQ (g_laws_toLineS_0 N) (.block 0 (blkOf 0 (blks c15))) := loopP LL DR_ok (KC54 N) (F := []) (J := []) (FGood.nil _) (M := []) (R := []) i15 (JGood.nil c15) e15_0 (s_laws_toLineS_0 N) N
/-- loop.example/g01139/laws.toLineS -/
def F_laws_toLineS (N : Nat) : (List (Int × Int × Int × Int × Int)) × Unit → Option ((List (Int × Int × Int × Int × Int)) × Unit)
  | (a0, _) =>
    bif (decide ((a0.length : Int) ≤ (a0.length : Int))) then bif (decide (((a0.length : Int) * (40 : Int)) ≤ (140737488351232 : Int))) then (itN (n_laws_toLineS_0 N (a0, ())) N ((0 : Int), ((List.replicate (a0.length : Int).toNat ((0 : Int), ((0 : Int), ((0 : Int), ((0 : Int), (0 : Int)))))), ()))).bind fun r2 =>
      some (r2.1, ())
     else none
    else none
theorem t15 (N : Nat) : ∀ v, (fr drawR (mkB (C54 N) [] [(15, [(0, g_laws_toLineS_0 N)])] [] []) 8 15 Try.f15 (instA [.c (.ls 65)] v)).k (matR [.c (.ls 63)]) = F_laws_toLineS N v := by
  rintro ⟨a0, _⟩; kernel_rfl
noncomputable def C15 (N : Nat) : CL SS := (15, conG [.c (.ls 65)] [.c (.ls 63)] (F_laws_toLineS N)) :: C54 N
theorem KC15 (N : Nat) : COk QQ (C15 N) := COk.cons (conP LL DR_ok (KC54 N) (F := []) (J := [(15, [(0, g_laws_toLineS_0 N)])]) (FGood.nil _) (M := []) (R := []) i15 (JGood.cons i15.hd (o_laws_toLineS_0 N) (JGood.nil c15)) (t15 N)) (KC54 N)
noncomputable def c25 : Code := Try.f25.body.getD .skip
theorem i25 : IsF Try.prog 25 Try.f25 c25 := ⟨Try.func25, by kernel_rfl, by kernel_rfl, by kernel_rfl⟩
noncomputable def b25_0 : Code := unLoop (blkOf 0 (blks c25))
theorem e25_0 : blkOf 0 (blks c25) = .loop b25_0 := by kernel_rfl
-- loop.example/g01139/laws.toInt64S: loop 0
def d_laws_toInt64S_0 : LoopD := ⟨56, ⟨[(0, .c (.rd 2 [(0, 0)])), (3, .c (.row 25))], [(0, 0, .ext)], 22⟩, ⟨[(4, .c (.int .i64))], [(25, .row 2 [])], 64⟩, [], [0, 25], [⟨.norm, ⟨[], [(25, .row 2 [])], 64⟩, [], [0, 25]⟩]⟩
def n_laws_toInt64S_0 (N : Nat) : List (Int) × Unit → (Int × List (Int) × Unit → Option ((List (Int) × Unit))) → Int × List (Int) × Unit → Option ((List (Int) × Unit))
  | (a0, _), rec, (i4, o25, _) =>
    bif (decide (i4 < (a0.length : Int))) then bif (decide ((0 : Int) ≤ i4)) then bif (decide (i4 < (a0.length : Int))) then bif (decide ((0 : Int) ≤ i4)) then bif (decide (i4 < (o25.length : Int))) then rec ((IntKind.wrap .i64 (i4 + (1 : Int))), ((o25.set i4.toNat (gt a0 i4)), ()))
        else none
       else none
      else none
     else none
    else some (o25, ())
theorem s_laws_toInt64S_0 (N : Nat) : ∀ σ p rec v, stepL (rn drawR (mkB (C15 N) [] [] [] []) 8 25 b25_0) 0 (wr b25_0) d_laws_toInt64S_0 (instP σ d_laws_toInt64S_0.pm p) rec v = n_laws_toInt64S_0 N p rec v := by
  rintro σ ⟨a0, _⟩ rec ⟨i4, o25, _⟩; kernel_rfl
noncomputable def g_laws_toInt64S_0 (N : Nat) : St (Sig.T SS) → Tr (Ex × St (Sig.T SS)) := orcL (wr b25_0) d_laws_toInt64S_0 fun p => itN (n_laws_toInt64S_0 N p) N
theorem o_laws_toInt64S_0 (N : Nat) : Snd QQ (g_laws_toInt64S_0 N) (.block 0 (blkOf 0 (blks c25))) := loopP LL DR_ok (KC15 N) (F := []) (J := []) (FGood.nil _) (M := []) (R := []) i25 (JGood.nil c25) e25_0 (s_laws_toInt64S_0 N) N
/-- loop.example/g01139/laws.toInt64S -/
def F_laws_toInt64S (N : Nat) : List (Int) × Unit → Option (List (Int) × Unit)
  | (a0, _) =>
    bif (decide ((a0.length : Int) ≤ (a0.length : Int))) then bif (decide (((a0.length : Int) * (8 : Int)) ≤ (140737488351232 : Int))) then (itN (n_laws_toInt64S_0 N (a0, ())) N ((0 : Int), ((List.replicate (a0.length : Int).toNat (0 : Int)), ()))).bind fun r3 =>
      some (r3.1, ())
     else none
    else none
theorem t25 (N : Nat) : ∀ v, (fr drawR (mkB (C15 N) [] [(25, [(0, g_laws_toInt64S_0 N)])] [] []) 8 25 Try.f25 (instA [.c (.ls 2)] v)).k (matR [.c (.ls 2)]) = F_laws_toInt64S N v := by
  rintro ⟨a0, _⟩; kernel_rfl
noncomputable def C25 (N : Nat) : CL SS := (25, conG [.c (.ls 2)] [.c (.ls 2)] (F_laws_toInt64S N)) :: C15 N
theorem KC25 (N : Nat) : COk QQ (C25 N) := COk.cons (conP LL DR_ok (KC15 N) (F := []) (J := [(25, [(0, g_laws_toInt64S_0 N)])]) (FGood.nil _) (M := []) (R := []) i25 (JGood.cons i25.hd (o_laws_toInt64S_0 N) (JGood.nil c25)) (t25 N)) (KC15 N)
noncomputable def c123 : Code := Try.f123.body.getD .skip
theorem i123 : IsF Try.prog 123 Try.f123 c123 := ⟨Try.func123, by kernel_rfl, by kernel_rfl, by kernel_rfl⟩
/-- loop.example/g01139/spec.l00In -/
def F_spec_l00In (N : Nat) : Int × Int × Int × Unit → Option (Bool × Unit)
  | (n0, low1, high2, _) =>
    bif (decide (n0 ≥ low1)) then some ((decide (n0 ≤ high2)), ())
    else some (false, ())
theorem t123 (N : Nat) : ∀ v, (fr drawR (mkB (C25 N) [] [] [] []) 8 123 Try.f123 (instA [.c (.int .i64), .c (.int .i64), .c (.int .i64)] v)).k (matR [.c (.bool)]) = F_spec_l00In N v := by
  rintro ⟨n0, low1, high2, _⟩; kernel_rfl
noncomputable def C123 (N : Nat) : CL SS := (123, conG [.c (.int .i64), .c (.int .i64), .c (.int .i64)] [.c (.bool)] (F_spec_l00In N)) :: C25 N
theorem KC123 (N : Nat) : COk QQ (C123 N) := COk.cons (conP LL DR_ok (KC25 N) (F := []) (J := []) (FGood.nil _) (M := []) (R := []) i123 (JGood.nil c123) (t123 N)) (KC25 N)
noncomputable def c128 : Code := Try.f128.body.getD .skip
theorem i128 : IsF Try.prog 128 Try.f128 c128 := ⟨Try.func128, by kernel_rfl, by kernel_rfl, by kernel_rfl⟩
/-- loop.example/g01139/spec.l08Var -/
def F_spec_l08Var (N : Nat) : Int × Unit → Option (Bool × Unit)
  | (n0, _) =>
    (F_spec_l00In N (n0, ((0 : Int), ((7 : Int), ())))).bind fun r4 =>
    some (r4.1, ())
theorem t128 (N : Nat) : ∀ v, (fr drawR (mkB (C123 N) [] [] [] []) 8 128 Try.f128 (instA [.c (.int .i64)] v)).k (matR [.c (.bool)]) = F_spec_l08Var N v := by
  rintro ⟨n0, _⟩; kernel_rfl
noncomputable def C128 (N : Nat) : CL SS := (128, conG [.c (.int .i64)] [.c (.bool)] (F_spec_l08Var N)) :: C123 N
theorem KC128 (N : Nat) : COk QQ (C128 N) := COk.cons (conP LL DR_ok (KC123 N) (F := []) (J := []) (FGood.nil _) (M := []) (R := []) i128 (JGood.nil c128) (t128 N)) (KC123 N)
noncomputable def c129 : Code := Try.f129.body.getD .skip
theorem i129 : IsF Try.prog 129 Try.f129 c129 := ⟨Try.func129, by kernel_rfl, by kernel_rfl, by kernel_rfl⟩
/-- loop.example/g01139/spec.l01OpIs -/
def F_spec_l01OpIs (N : Nat) : Int × Unit → Option (Bool × Unit)
  | (op0, _) =>
    (F_spec_l00In N (op0, ((0 : Int), ((17 : Int), ())))).bind fun r5 =>
    some (r5.1, ())
theorem t129 (N : Nat) : ∀ v, (fr drawR (mkB (C128 N) [] [] [] []) 8 129 Try.f129 (instA [.c (.int .i64)] v)).k (matR [.c (.bool)]) = F_spec_l01OpIs N v := by
  rintro ⟨op0, _⟩; kernel_rfl
noncomputable def C129 (N : Nat) : CL SS := (129, conG [.c (.int .i64)] [.c (.bool)] (F_spec_l01OpIs N)) :: C128 N
theorem KC129 (N : Nat) : COk QQ (C129 N) := COk.cons (conP LL DR_ok (KC128 N) (F := []) (J := []) (FGood.nil _) (M := []) (R := []) i129 (JGood.nil c129) (t129 N)) (KC128 N)
noncomputable def c91 : Code := Try.f91.body.getD .skip
theorem i91 : IsF Try.prog 91 Try.f91 c91 := ⟨Try.func91, by kernel_rfl, by kernel_rfl, by kernel_rfl⟩
/-- loop.example/g01139/spec.l01Bits -/
def F_spec_l01Bits (N : Nat) : Int × Unit → Option (Bool × Unit)
  | (bits0, _) =>
    bif (decide (bits0 = (4 : Int))) then some (true, ())
    else bif (decide (bits0 = (8 : Int))) then some (true, ())
     else some ((decide (bits0 = (16 : Int))), ())
theorem t91 (N : Nat) : ∀ v, (fr drawR (mkB (C129 N) [] [] [] []) 8 91 Try.f91 (instA [.c (.int .i64)] v)).k (matR [.c (.bool)]) = F_spec_l01Bits N v := by
  rintro ⟨bits0, _⟩; kernel_rfl
noncomputable def C91 (N : Nat) : CL SS := (91, conG [.c (.int .i64)] [.c (.bool)] (F_spec_l01Bits N)) :: C129 N
theorem KC91 (N : Nat) : COk QQ (C91 N) := COk.cons (conP LL DR_ok (KC129 N) (F := []) (J := []) (FGood.nil _) (M := []) (R := []) i91 (JGood.nil c91) (t91 N)) (KC129 N)
noncomputable def c130 : Code := Try.f130.body.getD .skip
theorem i130 : IsF Try.prog 130 Try.f130 c130 := ⟨Try.func130, by kernel_rfl, by kernel_rfl, by kernel_rfl⟩
/-- loop.example/g01139/spec.l01Word -/
def F_spec_l01Word (N : Nat) : Int × Int × Unit → Option (Bool × Unit)
  | (bits0, x1, _) =>
    (F_spec_l01Bits N (bits0, ())).bind fun r6 =>
    bif r6.1 then bif (decide ((0 : Int) ≤ (IntKind.wrap .u64 bits0))) then (F_spec_l00In N (x1, ((0 : Int), ((IntKind.wrap .i64 ((shlI .i64 (1 : Int) (IntKind.wrap .u64 bits0)) - (1 : Int))), ())))).bind fun r7 =>
       some (r7.1, ())
      else none
     else some (false, ())
theorem t130 (N : Nat) : ∀ v, (fr drawR (mkB (C91 N) [] [] [] []) 8 130 Try.f130 (instA [.c (.int .i64), .c (.int .i64)] v)).k (matR [.c (.bool)]) = F_spec_l01Word N v := by
  rintro ⟨bits0, x1, _⟩; kernel_rfl
noncomputable def C130 (N : Nat) : CL SS := (130, conG [.c (.int .i64), .c (.int .i64)] [.c (.bool)] (F_spec_l01Word N)) :: C91 N
theorem KC130 (N : Nat) : COk QQ (C130 N) := COk.cons (conP LL DR_ok (KC91 N) (F := []) (J := []) (FGood.nil _) (M := []) (R := []) i130 (JGood.nil c130) (t130 N)) (KC91 N)
noncomputable def c131 : Code := Try.f131.body.getD .skip
theorem i131 : IsF Try.prog 131 Try.f131 c131 := ⟨Try.func131, by kernel_rfl, by kernel_rfl, by kernel_rfl⟩
/-- loop.example/g01139/spec.l01CmpIs -/
def F_spec_l01CmpIs (N : Nat) : Int × Unit → Option (Bool × Unit)
  | (cmp0, _) =>
    (F_spec_l00In N (cmp0, ((0 : Int), ((5 : Int), ())))).bind fun r8 =>
    some (r8.1, ())
theorem t131 (N : Nat) : ∀ v, (fr drawR (mkB (C130 N) [] [] [] []) 8 131 Try.f131 (instA [.c (.int .i64)] v)).k (matR [.c (.bool)]) = F_spec_l01CmpIs N v := by
  rintro ⟨cmp0, _⟩; kernel_rfl
noncomputable def C131 (N : Nat) : CL SS := (131, conG [.c (.int .i64)] [.c (.bool)] (F_spec_l01CmpIs N)) :: C130 N
theorem KC131 (N : Nat) : COk QQ (C131 N) := COk.cons (conP LL DR_ok (KC130 N) (F := []) (J := []) (FGood.nil _) (M := []) (R := []) i131 (JGood.nil c131) (t131 N)) (KC130 N)
noncomputable def c93 : Code := Try.f93.body.getD .skip
theorem i93 : IsF Try.prog 93 Try.f93 c93 := ⟨Try.func93, by kernel_rfl, by kernel_rfl, by kernel_rfl⟩
/-- loop.example/g01139/spec.l08Line -/
def F_spec_l08Line (N : Nat) : Int × Int × Int × Int × Int × Int × Unit → Option (Bool × Unit)
  | (bits0, x1c0, x1c1, x1c2, x1c3, x1c4, _) =>
    bif (decide (x1c0 = (0 : Int))) then (F_spec_l08Var N (x1c1, ())).bind fun r9 =>
     bif r9.1 then (F_spec_l01OpIs N (x1c2, ())).bind fun r10 =>
       bif r10.1 then (F_spec_l08Var N (x1c3, ())).bind fun r11 =>
         bif r11.1 then (F_spec_l08Var N (x1c4, ())).bind fun r12 =>
           some (r12.1, ())
          else some (false, ())
        else some (false, ())
      else some (false, ())
    else bif (decide (x1c0 = (1 : Int))) then (F_spec_l08Var N (x1c1, ())).bind fun r13 =>
      bif r13.1 then bif (decide (x1c2 = (0 : Int))) then bif (decide (x1c3 = (0 : Int))) then (F_spec_l01Word N (bits0, (x1c4, ()))).bind fun r14 =>
          some (r14.1, ())
         else some (false, ())
        else some (false, ())
       else some (false, ())
     else bif (decide (x1c0 = (2 : Int))) then bif (decide (x1c1 = (0 : Int))) then (F_spec_l01CmpIs N (x1c2, ())).bind fun r15 =>
        bif r15.1 then (F_spec_l08Var N (x1c3, ())).bind fun r16 =>
          bif r16.1 then (F_spec_l08Var N (x1c4, ())).bind fun r17 =>
            some (r17.1, ())
           else some (false, ())
         else some (false, ())
       else some (false, ())
      else bif (decide (x1c0 = (6 : Int))) then bif (decide (x1c1 = (0 : Int))) then (F_spec_l01CmpIs N (x1c2, ())).bind fun r18 =>
         bif r18.1 then (F_spec_l08Var N (x1c3, ())).bind fun r19 =>
           bif r19.1 then (F_spec_l08Var N (x1c4, ())).bind fun r20 =>
             some (r20.1, ())
            else some (false, ())
          else some (false, ())
        else some (false, ())
       else bif (decide (x1c0 = (3 : Int))) then bif (decide (x1c1 = (0 : Int))) then bif (decide (x1c2 = (0 : Int))) then bif (decide (x1c3 = (0 : Int))) then some ((decide (x1c4 = (0 : Int))), ())
           else some (false, ())
          else some (false, ())
         else some (false, ())
        else bif (decide (x1c0 = (4 : Int))) then bif (decide (x1c1 = (0 : Int))) then bif (decide (x1c2 = (0 : Int))) then bif (decide (x1c3 = (0 : Int))) then some ((decide (x1c4 = (0 : Int))), ())
            else some (false, ())
           else some (false, ())
          else some (false, ())
         else bif (decide (x1c0 = (5 : Int))) then bif (decide (x1c1 = (0 : Int))) then bif (decide (x1c2 = (0 : Int))) then bif (decide (x1c3 = (0 : Int))) then (F_spec_l00In N (x1c4, ((1 : Int), ((8 : Int), ())))).bind fun r21 =>
              some (r21.1, ())
             else some (false, ())
            else some (false, ())
           else some (false, ())
          else some (false, ())
theorem t93 (N : Nat) : ∀ v, (fr drawR (mkB (C131 N) [] [] [] []) 8 93 Try.f93 (instA [.c (.int .i64), .agg [.int .i64, .int .i64, .int .i64, .int .i64, .int .i64]] v)).k (matR [.c (.bool)]) = F_spec_l08Line N v := by
  rintro ⟨bits0, x1c0, x1c1, x1c2, x1c3, x1c4, _⟩; kernel_rfl
noncomputable def C93 (N : Nat) : CL SS := (93, conG [.c (.int .i64), .agg [.int .i64, .int .i64, .int .i64, .int .i64, .int .i64]] [.c (.bool)] (F_spec_l08Line N)) :: C131 N
theorem KC93 (N : Nat) : COk QQ (C93 N) := COk.cons (conP LL DR_ok (KC131 N) (F := []) (J := []) (FGood.nil _) (M := []) (R := []) i93 (JGood.nil c93) (t93 N)) (KC131 N)
noncomputable def c132 : Code := Try.f132.body.getD .skip
theorem i132 : IsF Try.prog 132 Try.f132 c132 := ⟨Try.func132, by kernel_rfl, by kernel_rfl, by kernel_rfl⟩
/-- loop.example/g01139/spec.l00Min -/
def F_spec_l00Min (N : Nat) : Int × Int × Unit → Option (Int × Unit)
  | (a0, b1, _) =>
    bif (decide (a0 < b1)) then some (a0, ())
    else some (b1, ())
theorem t132 (N : Nat) : ∀ v, (fr drawR (mkB (C93 N) [] [] [] []) 8 132 Try.f132 (instA [.c (.int .i64), .c (.int .i64)] v)).k (matR [.c (.int .i64)]) = F_spec_l00Min N v := by
  rintro ⟨a0, b1, _⟩; kernel_rfl
noncomputable def C132 (N : Nat) : CL SS := (132, conG [.c (.int .i64), .c (.int .i64)] [.c (.int .i64)] (F_spec_l00Min N)) :: C93 N
theorem KC132 (N : Nat) : COk QQ (C132 N) := COk.cons (conP LL DR_ok (KC93 N) (F := []) (J := []) (FGood.nil _) (M := []) (R := []) i132 (JGood.nil c132) (t132 N)) (KC93 N)
noncomputable def c94 : Code := Try.f94.body.getD .skip
theorem i94 : IsF Try.prog 94 Try.f94 c94 := ⟨Try.func94, by kernel_rfl, by kernel_rfl, by kernel_rfl⟩
noncomputable def b94_0 : Code := unLoop (blkOf 0 (blks c94))
theorem e94_0 : blkOf 0 (blks c94) = .loop b94_0 := by kernel_rfl
-- loop.example/g01139/spec.l08Rounds: loop 0
def d_spec_l08Rounds_0 : LoopD := ⟨32, ⟨[(0, .c (.rd 63 [(0, 0)])), (1, .c (.rd 2 [(0, 0)]))], [(0, 0, .ext)], 34⟩, ⟨[(5, .c (.int .i64)), (6, .c (.int .i64))], [], 40⟩, [], [0], [⟨.norm, ⟨[(5, .c (.int .i64))], [], 40⟩, [], [0]⟩]⟩
def n_spec_l08Rounds_0 (N : Nat) : (List (Int × Int × Int × Int × Int)) × List (Int) × Unit → (Int × Int × Unit → Option ((Int × Unit))) → Int × Int × Unit → Option ((Int × Unit))
  | (lines0, open1, _), rec, (product5, k6, _) =>
    bif (decide (k6 < (open1.length : Int))) then bif (decide ((0 : Int) ≤ k6)) then bif (decide (k6 < (open1.length : Int))) then bif (decide ((0 : Int) ≤ (gt open1 k6))) then bif (decide ((gt open1 k6) < (lines0.length : Int))) then bif (decide ((gt lines0 (gt open1 k6)).1 = (5 : Int))) then bif (decide ((0 : Int) ≤ k6)) then bif (decide (k6 < (open1.length : Int))) then bif (decide ((0 : Int) ≤ (gt open1 k6))) then bif (decide ((gt open1 k6) < (lines0.length : Int))) then (F_spec_l00Min N ((IntKind.wrap .i64 (product5 * (gt lines0 (gt open1 k6)).2.2.2.2)), ((65 : Int), ()))).bind fun r22 =>
              rec (r22.1, ((IntKind.wrap .i64 (k6 + (1 : Int))), ()))
             else none
            else none
           else none
          else none
         else rec (product5, ((IntKind.wrap .i64 (k6 + (1 : Int))), ()))
        else none
       else none
      else none
     else none
    else some (product5, ())
theorem s_spec_l08Rounds_0 (N : Nat) : ∀ σ p rec v, stepL (rn drawR (mkB (C132 N) [] [] [] []) 8 94 b94_0) 0 (wr b94_0) d_spec_l08Rounds_0 (instP σ d_spec_l08Rounds_0.pm p) rec v = n_spec_l08Rounds_0 N p rec v := by
  rintro σ ⟨lines0, open1, _⟩ rec ⟨product5, k6, _⟩; kernel_rfl
noncomputable def g_spec_l08Rounds_0 (N : Nat) : St (Sig.T SS) → Tr (Ex × St (Sig.T SS)) := orcL (wr b94_0) d_spec_l08Rounds_0 fun p => itN (n_spec_l08Rounds_0 N p) N
theorem o_spec_l08Rounds_0 (N : Nat) : Snd QQ (g_spec_l08Rounds_0 N) (.block 0 (blkOf 0 (blks c94))) := loopP LL DR_ok (KC132 N) (F := []) (J := []) (FGood.nil _) (M := []) (R := []) i94 (JGood.nil c94) e94_0 (s_spec_l08Rounds_0 N) N
/-- loop.example/g01139/spec.l08Rounds -/
def F_spec_l08Rounds (N : Nat) : (List (Int × Int × Int × Int × Int)) × List (Int) × Unit → Option (Int × Unit)
  | (lines0, open1, _) =>
    (itN (n_spec_l08Rounds_0 N (lines0, (open1, ()))) N ((1 : Int), ((0 : Int), ()))).bind fun r23 =>
    some (r23.1, ())
theorem t94 (N : Nat) : ∀ v, (fr drawR (mkB (C132 N) [] [(94, [(0, g_spec_l08Rounds_0 N)])] [] []) 8 94 Try.f94 (instA [.c (.ls 63), .c (.ls 2)] v)).k (matR [.c (.int .i64)]) = F_spec_l08Rounds N v := by
  rintro ⟨lines0, open1, _⟩; kernel_rfl
noncomputable def C94 (N : Nat) : CL SS := (94, conG [.c (.ls 63), .c (.ls 2)] [.c (.int .i64)] (F_spec_l08Rounds N)) :: C132 N
theorem KC94 (N : Nat) : COk QQ (C94 N) := COk.cons (conP LL DR_ok (KC132 N) (F := []) (J := [(94, [(0, g_spec_l08Rounds_0 N)])]) (FGood.nil _) (M := []) (R := []) i94 (JGood.cons i94.hd (o_spec_l08Rounds_0 N) (JGood.nil c94)) (t94 N)) (KC132 N)
noncomputable def c58 : Code := Try.f58.body.getD .skip
theorem i58 : IsF Try.prog 58 Try.f58 c58 := ⟨Try.func58, by kernel_rfl, by kernel_rfl, by kernel_rfl⟩
noncomputable def b58_0 : Code := unLoop (blkOf 0 (blks c58))
theorem e58_0 : blkOf 0 (blks c58) = .loop b58_0 := by kernel_rfl
-- loop.example/g01139/spec.l08Pairs: loop 0
def d_spec_l08Pairs_0 : LoopD := ⟨48, ⟨[(0, .c (.int .i64)), (1, .c (.rd 63 [(0, 0)]))], [(0, 0, .ext)], 207⟩, ⟨[(6, .c (.row 48)), (7, .c (.int .i64))], [(48, .row 2 []), (17, .dead)], 57⟩, [(6, some 2)], [0], [⟨.ret, ⟨[(4, .c (.row 48)), (5, .c (.bool))], [(48, .row 2 []), (17, .dead)], 57⟩, [(4, some 2)], [0]⟩, ⟨.norm, ⟨[(6, .c (.row 48))], [(48, .row 2 []), (17, .dead)], 57⟩, [(6, some 2)], [0]⟩]⟩
def n_spec_l08Pairs_0 (N : Nat) : Int × (List (Int × Int × Int × Int × Int)) × Unit → (Int × List (Int) × Unit → Option ((Bool × List (Int) × Unit) ⊕ (List (Int) × Unit))) → Int × List (Int) × Unit → Option ((Bool × List (Int) × Unit) ⊕ (List (Int) × Unit))
  | (bits0, lines1, _), rec, (i7, o48, _) =>
    bif (decide (i7 < (lines1.length : Int))) then bif (decide ((lines1.length : Int) ≤ (24 : Int))) then bif (decide ((0 : Int) ≤ i7)) then bif (decide (i7 < (lines1.length : Int))) then (F_spec_l08Line N (bits0, ((gt lines1 i7).1, ((gt lines1 i7).2.1, ((gt lines1 i7).2.2.1, ((gt lines1 i7).2.2.2.1, ((gt lines1 i7).2.2.2.2, ()))))))).bind fun r24 =>
        bif (!r24.1) then some (.inl (false, (o48, ())))
         else bif (decide (((o48.length + 1) * 8) ≤ 140737488351232)) then rec ((IntKind.wrap .i64 (i7 + (1 : Int))), ((o48 ++ (i7 :: [])), ()))
          else none
       else none
      else none
     else some (.inr (o48, ()))
    else some (.inr (o48, ()))
theorem s_spec_l08Pairs_0 (N : Nat) : ∀ σ p rec v, stepL (rn drawR (mkB (C94 N) [] [] [] []) 8 58 b58_0) 0 (wr b58_0) d_spec_l08Pairs_0 (instP σ d_spec_l08Pairs_0.pm p) rec v = n_spec_l08Pairs_0 N p rec v := by
  rintro σ ⟨bits0, lines1, _⟩ rec ⟨i7, o48, _⟩; kernel_rfl
noncomputable def g_spec_l08Pairs_0 (N : Nat) : St (Sig.T SS) → Tr (Ex × St (Sig.T SS)) := orcL (wr b58_0) d_spec_l08Pairs_0 fun p => itN (n_spec_l08Pairs_0 N p) N
theorem o_spec_l08Pairs_0 (N : Nat) : Snd QQ (g_spec_l08Pairs_0 N) (.block 0 (blkOf 0 (blks c58))) := loopP LL DR_ok (KC94 N) (F := []) (J := []) (FGood.nil _) (M := []) (R := []) i58 (JGood.nil c58) e58_0 (s_spec_l08Pairs_0 N) N
noncomputable def b58_2 : Code := unLoop (blkOf 2 (blks c58))
theorem e58_2 : blkOf 2 (blks c58) = .loop b58_2 := by kernel_rfl
noncomputable def b58_5 : Code := unLoop (blkOf 5 (blks c58))
theorem e58_5 : blkOf 5 (blks c58) = .loop b58_5 := by kernel_rfl
-- loop.example/g01139/spec.l08Pairs: loop 5
def d_spec_l08Pairs_4 : LoopD := ⟨480, ⟨[(6, .c (.row 48)), (10, .c (.row 122)), (11, .c (.int .i64)), (13, .c (.int .i64))], [(122, 120, .deep 29 0 2 [] 120)], 207⟩, ⟨[(14, .c (.int .i64))], [(48, .row 2 [])], 488⟩, [], [48, 122], [⟨.norm, ⟨[], [(48, .row 2 [])], 488⟩, [], [48, 122]⟩]⟩
def n_spec_l08Pairs_4 (N : Nat) : Int × Int × List (List (Int)) × Unit → (Int × List (Int) × Unit → Option ((List (Int) × Unit))) → Int × List (Int) × Unit → Option ((List (Int) × Unit))
  | (i11, n13, p122, _), rec, (k14, o48, _) =>
    bif (decide ((0 : Int) ≤ (IntKind.wrap .i64 (n13 - (1 : Int))))) then bif (decide ((IntKind.wrap .i64 (n13 - (1 : Int))) < (p122.length : Int))) then bif (decide (k14 < ((gt p122 (IntKind.wrap .i64 (n13 - (1 : Int)))).length : Int))) then bif (decide ((0 : Int) ≤ (IntKind.wrap .i64 (n13 - (1 : Int))))) then bif (decide ((IntKind.wrap .i64 (n13 - (1 : Int))) < (p122.length : Int))) then bif (decide ((0 : Int) ≤ k14)) then bif (decide (k14 < ((gt p122 (IntKind.wrap .i64 (n13 - (1 : Int)))).length : Int))) then bif (decide ((0 : Int) ≤ (gt (gt p122 (IntKind.wrap .i64 (n13 - (1 : Int)))) k14))) then bif (decide ((gt (gt p122 (IntKind.wrap .i64 (n13 - (1 : Int)))) k14) < (o48.length : Int))) then rec ((IntKind.wrap .i64 (k14 + (1 : Int))), ((o48.set (gt (gt p122 (IntKind.wrap .i64 (n13 - (1 : Int)))) k14).toNat i11), ()))
            else none
           else none
          else none
         else none
        else none
       else none
      else some (o48, ())
     else none
    else none
theorem s_spec_l08Pairs_4 (N : Nat) : ∀ σ p rec v, stepL (rn drawR (mkB (C94 N) [] [(58, [(0, g_spec_l08Pairs_0 N)])] [] []) 8 58 b58_5) 5 (wr b58_5) d_spec_l08Pairs_4 (instP σ d_spec_l08Pairs_4.pm p) rec v = n_spec_l08Pairs_4 N p rec v := by
  rintro σ ⟨i11, n13, p122, _⟩ rec ⟨k14, o48, _⟩; kernel_rfl
noncomputable def g_spec_l08Pairs_4 (N : Nat) : St (Sig.T SS) → Tr (Ex × St (Sig.T SS)) := orcL (wr b58_5) d_spec_l08Pairs_4 fun p => itN (n_spec_l08Pairs_4 N p) N
theorem o_spec_l08Pairs_4 (N : Nat) : Snd QQ (g_spec_l08Pairs_4 N) (.block 5 (blkOf 5 (blks c58))) := loopP LL DR_ok (KC94 N) (F := []) (J := [(58, [(0, g_spec_l08Pairs_0 N)])]) (FGood.nil _) (M := []) (R := []) i58 (JGood.cons i58.hd (o_spec_l08Pairs_0 N) (JGood.nil c58)) e58_5 (s_spec_l08Pairs_4 N) N
noncomputable def b58_7 : Code := unLoop (blkOf 7 (blks c58))
theorem e58_7 : blkOf 7 (blks c58) = .loop b58_7 := by kernel_rfl
-- loop.example/g01139/spec.l08Pairs: loop 7
def d_spec_l08Pairs_5 : LoopD := ⟨352, ⟨[(1, .c (.rd 63 [(0, 0)])), (8, .c (.row 120))], [(0, 0, .ext), (120, 120, .row 2 [])], 207⟩, ⟨[(15, .c (.int .i64))], [], 360⟩, [], [0, 120], [⟨.norm, ⟨[(15, .c (.int .i64))], [], 360⟩, [], [0, 120]⟩]⟩
def n_spec_l08Pairs_5 (N : Nat) : (List (Int × Int × Int × Int × Int)) × List (Int) × Unit → (Int × Unit → Option ((Int × Unit))) → Int × Unit → Option ((Int × Unit))
  | (lines1, p120, _), rec, (at15, _) =>
    bif (decide (at15 ≥ (0 : Int))) then bif (decide ((0 : Int) ≤ at15)) then bif (decide (at15 < (p120.length : Int))) then bif (decide ((0 : Int) ≤ (gt p120 at15))) then bif (decide ((gt p120 at15) < (lines1.length : Int))) then bif (!(decide ((gt lines1 (gt p120 at15)).1 = (5 : Int)))) then rec ((IntKind.wrap .i64 (at15 - (1 : Int))), ())
         else some (at15, ())
        else none
       else none
      else none
     else none
    else some (at15, ())
theorem s_spec_l08Pairs_5 (N : Nat) : ∀ σ p rec v, stepL (rn drawR (mkB (C94 N) [] [(58, [(0, g_spec_l08Pairs_0 N), (5, g_spec_l08Pairs_4 N)])] [] []) 8 58 b58_7) 7 (wr b58_7) d_spec_l08Pairs_5 (instP σ d_spec_l08Pairs_5.pm p) rec v = n_spec_l08Pairs_5 N p rec v := by
  rintro σ ⟨lines1, p120, _⟩ rec ⟨at15, _⟩; kernel_rfl
noncomputable def g_spec_l08Pairs_5 (N : Nat) : St (Sig.T SS) → Tr (Ex × St (Sig.T SS)) := orcL (wr b58_7) d_spec_l08Pairs_5 fun p => itN (n_spec_l08Pairs_5 N p) N
theorem o_spec_l08Pairs_5 (N : Nat) : Snd QQ (g_spec_l08Pairs_5 N) (.block 7 (blkOf 7 (blks c58))) := loopP LL DR_ok (KC94 N) (F := []) (J := [(58, [(0, g_spec_l08Pairs_0 N), (5, g_spec_l08Pairs_4 N)])]) (FGood.nil _) (M := []) (R := []) i58 (JGood.cons i58.hd (o_spec_l08Pairs_0 N) (JGood.cons i58.hd (o_spec_l08Pairs_4 N) (JGood.nil c58))) e58_7 (s_spec_l08Pairs_5 N) N
-- loop.example/g01139/spec.l08Pairs: loop 2
def d_spec_l08Pairs_1 : LoopD := ⟨120, ⟨[(1, .c (.rd 63 [(0, 0)])), (6, .c (.row 48))], [(0, 0, .ext)], 207⟩, ⟨[(8, .c (.row 120)), (9, .c (.row 121)), (10, .c (.row 122)), (11, .c (.int .i64))], [(120, .row 2 []), (121, .row 2 []), (122, .deep 29 0 2 [] 120), (48, .row 2 []), (57, .dead), (73, .dead), (89, .dead)], 131⟩, [(8, some 2), (9, some 2), (10, some 29)], [0, 48], [⟨.ret, ⟨[(4, .c (.row 48)), (5, .c (.bool))], [(48, .row 2 []), (57, .dead), (73, .dead), (89, .dead)], 128⟩, [(4, some 2)], [0, 48]⟩, ⟨.norm, ⟨[(8, .c (.row 120))], [(120, .row 2 []), (48, .row 2 []), (57, .dead), (73, .dead), (89, .dead)], 129⟩, [(8, some 2)], [0, 48]⟩]⟩
def n_spec_l08Pairs_1 (N : Nat) : (List (Int × Int × Int × Int × Int)) × Unit → (Int × List (Int) × List (Int) × List (List (Int)) × List (Int) × Unit → Option ((Bool × List (Int) × Unit) ⊕ (List (Int) × List (Int) × Unit))) → Int × List (Int) × List (Int) × List (List (Int)) × List (Int) × Unit → Option ((Bool × List (Int) × Unit) ⊕ (List (Int) × List (Int) × Unit))
  | (lines1, _), rec, (i11, o120, o121, o122, o48, _) =>
    bif (decide (i11 < (o48.length : Int))) then bif (decide ((0 : Int) ≤ i11)) then bif (decide (i11 < (lines1.length : Int))) then bif (decide ((gt lines1 i11).1 = (2 : Int))) then bif (decide (((o120.length + 1) * 8) ≤ 140737488351232)) then bif (decide (((o121.length + 1) * 8) ≤ 140737488351232)) then bif (decide (((o122.length + 1) * 24) ≤ 140737488351232)) then bif (decide ((IntKind.wrap .i64 ((o120.length : Int) + (1 : Int))) > (4 : Int))) then some (.inl (false, (o48, ())))
           else (F_spec_l08Rounds N (lines1, ((o120 ++ (i11 :: [])), ()))).bind fun r42 =>
            bif (decide (r42.1 > (64 : Int))) then some (.inl (false, (o48, ())))
             else rec ((IntKind.wrap .i64 (i11 + (1 : Int))), ((o120 ++ (i11 :: [])), ((o121 ++ (i11 :: [])), ((o122 ++ ([] :: [])), (o48, ())))))
          else none
         else none
        else none
       else bif (decide ((gt lines1 i11).1 = (5 : Int))) then bif (decide (((o120.length + 1) * 8) ≤ 140737488351232)) then bif (decide (((o121.length + 1) * 8) ≤ 140737488351232)) then bif (decide (((o122.length + 1) * 24) ≤ 140737488351232)) then bif (decide ((IntKind.wrap .i64 ((o120.length : Int) + (1 : Int))) > (4 : Int))) then some (.inl (false, (o48, ())))
            else (F_spec_l08Rounds N (lines1, ((o120 ++ (i11 :: [])), ()))).bind fun r43 =>
             bif (decide (r43.1 > (64 : Int))) then some (.inl (false, (o48, ())))
              else rec ((IntKind.wrap .i64 (i11 + (1 : Int))), ((o120 ++ (i11 :: [])), ((o121 ++ (i11 :: [])), ((o122 ++ ([] :: [])), (o48, ())))))
           else none
          else none
         else none
        else bif (decide ((gt lines1 i11).1 = (3 : Int))) then bif (decide ((o120.length : Int) = (0 : Int))) then some (.inl (false, (o48, ())))
          else bif (decide ((0 : Int) ≤ (IntKind.wrap .i64 ((o120.length : Int) - (1 : Int))))) then bif (decide ((IntKind.wrap .i64 ((o120.length : Int) - (1 : Int))) < (o121.length : Int))) then bif (decide ((0 : Int) ≤ (gt o121 (IntKind.wrap .i64 ((o120.length : Int) - (1 : Int)))))) then bif (decide ((gt o121 (IntKind.wrap .i64 ((o120.length : Int) - (1 : Int)))) < (lines1.length : Int))) then bif (!(decide ((gt lines1 (gt o121 (IntKind.wrap .i64 ((o120.length : Int) - (1 : Int))))).1 = (2 : Int)))) then some (.inl (false, (o48, ())))
               else bif (decide ((0 : Int) ≤ (IntKind.wrap .i64 ((o120.length : Int) - (1 : Int))))) then bif (decide ((IntKind.wrap .i64 ((o120.length : Int) - (1 : Int))) < (o121.length : Int))) then bif (decide ((0 : Int) ≤ (gt o121 (IntKind.wrap .i64 ((o120.length : Int) - (1 : Int)))))) then bif (decide ((gt o121 (IntKind.wrap .i64 ((o120.length : Int) - (1 : Int)))) < (o48.length : Int))) then bif (decide ((0 : Int) ≤ (IntKind.wrap .i64 ((o120.length : Int) - (1 : Int))))) then bif (decide ((IntKind.wrap .i64 ((o120.length : Int) - (1 : Int))) < (o121.length : Int))) then rec ((IntKind.wrap .i64 (i11 + (1 : Int))), (o120, ((o121.set (IntKind.wrap .i64 ((o120.length : Int) - (1 : Int))).toNat i11), (o122, ((o48.set (gt o121 (IntKind.wrap .i64 ((o120.length : Int) - (1 : Int)))).toNat i11), ())))))
                     else none
                    else none
                   else none
                  else none
                 else none
                else none
              else none
             else none
            else none
           else none
         else bif (decide ((gt lines1 i11).1 = (4 : Int))) then bif (decide ((o120.length : Int) = (0 : Int))) then some (.inl (false, (o48, ())))
           else bif (decide ((0 : Int) ≤ (IntKind.wrap .i64 ((o120.length : Int) - (1 : Int))))) then bif (decide ((IntKind.wrap .i64 ((o120.length : Int) - (1 : Int))) < (o121.length : Int))) then bif (decide ((0 : Int) ≤ (gt o121 (IntKind.wrap .i64 ((o120.length : Int) - (1 : Int)))))) then bif (decide ((gt o121 (IntKind.wrap .i64 ((o120.length : Int) - (1 : Int)))) < (o48.length : Int))) then bif (decide ((0 : Int) ≤ (IntKind.wrap .i64 ((o120.length : Int) - (1 : Int))))) then bif (decide ((IntKind.wrap .i64 ((o120.length : Int) - (1 : Int))) < (o120.length : Int))) then bif (decide ((0 : Int) ≤ i11)) then bif (decide (i11 < ((o48.set (gt o121 (IntKind.wrap .i64 ((o120.length : Int) - (1 : Int)))).toNat i11).length : Int))) then (itN (n_spec_l08Pairs_4 N (i11, ((o120.length : Int), (o122, ())))) N ((0 : Int), (((o48.set (gt o121 (IntKind.wrap .i64 ((o120.length : Int) - (1 : Int)))).toNat i11).set i11.toNat (gt o120 (IntKind.wrap .i64 ((o120.length : Int) - (1 : Int))))), ()))).bind fun r44 =>
                    bif (decide ((0 : Int) ≤ (IntKind.wrap .i64 ((o120.length : Int) - (1 : Int))))) then bif (decide ((IntKind.wrap .i64 ((o120.length : Int) - (1 : Int))) ≤ (o120.length : Int))) then bif (decide ((0 : Int) ≤ (IntKind.wrap .i64 ((o120.length : Int) - (1 : Int))))) then bif (decide ((IntKind.wrap .i64 ((o120.length : Int) - (1 : Int))) ≤ (o121.length : Int))) then bif (decide ((0 : Int) ≤ (IntKind.wrap .i64 ((o120.length : Int) - (1 : Int))))) then bif (decide ((IntKind.wrap .i64 ((o120.length : Int) - (1 : Int))) ≤ (o122.length : Int))) then rec ((IntKind.wrap .i64 (i11 + (1 : Int))), ((o120.take (IntKind.wrap .i64 ((o120.length : Int) - (1 : Int))).toNat), ((o121.take (IntKind.wrap .i64 ((o120.length : Int) - (1 : Int))).toNat), ((o122.take (IntKind.wrap .i64 ((o120.length : Int) - (1 : Int))).toNat), (r44.1, ())))))
                          else none
                         else none
                        else none
                       else none
                      else none
                     else none
                   else none
                  else none
                 else none
                else none
               else none
              else none
             else none
            else none
          else bif (decide ((gt lines1 i11).1 = (6 : Int))) then (itN (n_spec_l08Pairs_5 N (lines1, (o120, ()))) N ((IntKind.wrap .i64 ((o120.length : Int) - (1 : Int))), ())).bind fun r45 =>
            bif (decide (r45.1 < (0 : Int))) then some (.inl (false, (o48, ())))
             else bif (decide ((0 : Int) ≤ r45.1)) then bif (decide (r45.1 < (o122.length : Int))) then bif (decide ((((gt o122 r45.1).length + 1) * 8) ≤ 140737488351232)) then bif (decide ((0 : Int) ≤ r45.1)) then bif (decide (r45.1 < (o122.length : Int))) then bif (decide (r45.1 = r45.1)) then rec ((IntKind.wrap .i64 (i11 + (1 : Int))), (o120, (o121, ((o122.set r45.1.toNat ((gt o122 r45.1) ++ (i11 :: []))), (o48, ())))))
                   else none
                  else none
                 else none
                else none
               else none
              else none
           else rec ((IntKind.wrap .i64 (i11 + (1 : Int))), (o120, (o121, (o122, (o48, ())))))
      else none
     else none
    else some (.inr (o120, (o48, ())))
theorem s_spec_l08Pairs_1 (N : Nat) : ∀ σ p rec v, stepL (rn drawR (mkB (C94 N) [] [(58, [(0, g_spec_l08Pairs_0 N), (5, g_spec_l08Pairs_4 N), (7, g_spec_l08Pairs_5 N)])] [] []) 8 58 b58_2) 2 (wr b58_2) d_spec_l08Pairs_1 (instP σ d_spec_l08Pairs_1.pm p) rec v = n_spec_l08Pairs_1 N p rec v := by
  rintro σ ⟨lines1, _⟩ rec ⟨i11, o120, o121, o122, o48, _⟩; kernel_rfl
noncomputable def g_spec_l08Pairs_1 (N : Nat) : St (Sig.T SS) → Tr (Ex × St (Sig.T SS)) := orcL (wr b58_2) d_spec_l08Pairs_1 fun p => itN (n_spec_l08Pairs_1 N p) N
theorem o_spec_l08Pairs_1 (N : Nat) : Snd QQ (g_spec_l08Pairs_1 N) (.block 2 (blkOf 2 (blks c58))) := loopP LL DR_ok (KC94 N) (F := []) (J := [(58, [(0, g_spec_l08Pairs_0 N), (5, g_spec_l08Pairs_4 N), (7, g_spec_l08Pairs_5 N)])]) (FGood.nil _) (M := []) (R := []) i58 (JGood.cons i58.hd (o_spec_l08Pairs_0 N) (JGood.cons i58.hd (o_spec_l08Pairs_4 N) (JGood.cons i58.hd (o_spec_l08Pairs_5 N) (JGood.nil c58)))) e58_2 (s_spec_l08Pairs_1 N) N
/-- loop.example/g01139/spec.l08Pairs -/
def F_spec_l08Pairs (N : Nat) : Int × (List (Int × Int × Int × Int × Int)) × Unit → Option (List (Int) × Bool × Unit)
  | (bits0, lines1, _) =>
    (itN (n_spec_l08Pairs_0 N (bits0, (lines1, ()))) N ((0 : Int), ([], ()))).bind fun r46 =>
    bif r46.isLeft then r46.getLeft?.bind fun r47 =>
      some (r47.2.1, (r47.1, ()))
     else r46.getRight?.bind fun r48 =>
      (itN (n_spec_l08Pairs_1 N (lines1, ())) N ((0 : Int), ([], ([], ([], (r48.1, ())))))).bind fun r49 =>
       bif r49.isLeft then r49.getLeft?.bind fun r50 =>
         some (r50.2.1, (r50.1, ()))
        else r49.getRight?.bind fun r51 =>
         bif (decide ((r51.1.length : Int) = (0 : Int))) then some (r51.2.1, ((decide ((lines1.length : Int) ≤ (24 : Int))), ()))
          else some (r51.2.1, (false, ()))
theorem t58 (N : Nat) : ∀ v, (fr drawR (mkB (C94 N) [] [(58, [(0, g_spec_l08Pairs_0 N), (5, g_spec_l08Pairs_4 N), (7, g_spec_l08Pairs_5 N), (2, g_spec_l08Pairs_1 N)])] [] []) 8 58 Try.f58 (instA [.c (.int .i64), .c (.ls 63)] v)).k (matR [.c (.ls 2), .c (.bool)]) = F_spec_l08Pairs N v := by
  rintro ⟨bits0, lines1, _⟩; kernel_rfl
noncomputable def C58 (N : Nat) : CL SS := (58, conG [.c (.int .i64), .c (.ls 63)] [.c (.ls 2), .c (.bool)] (F_spec_l08Pairs N)) :: C94 N
theorem KC58 (N : Nat) : COk QQ (C58 N) := COk.cons (conP LL DR_ok (KC94 N) (F := []) (J := [(58, [(0, g_spec_l08Pairs_0 N), (5, g_spec_l08Pairs_4 N), (7, g_spec_l08Pairs_5 N), (2, g_spec_l08Pairs_1 N)])]) (FGood.nil _) (M := []) (R := []) i58 (JGood.cons i58.hd (o_spec_l08Pairs_0 N) (JGood.cons i58.hd (o_spec_l08Pairs_4 N) (JGood.cons i58.hd (o_spec_l08Pairs_5 N) (JGood.cons i58.hd (o_spec_l08Pairs_1 N) (JGood.nil c58))))) (t58 N)) (KC94 N)
noncomputable def c53 : Code := Try.f53.body.getD .skip
theorem i53 : IsF Try.prog 53 Try.f53 c53 := ⟨Try.func53, by kernel_rfl, by kernel_rfl, by kernel_rfl⟩
/-- loop.example/g01139/spec.l08Is -/
def F_spec_l08Is (N : Nat) : Int × (List (Int × Int × Int × Int × Int)) × Unit → Option (Bool × Unit)
  | (bits0, lines1, _) =>
    (F_spec_l08Pairs N (bits0, (lines1, ()))).bind fun r52 =>
    (F_spec_l01Bits N (bits0, ())).bind fun r53 =>
     bif r53.1 then some (r52.2.1, ())
      else some (false, ())
theorem t53 (N : Nat) : ∀ v, (fr drawR (mkB (C58 N) [] [] [] []) 8 53 Try.f53 (instA [.c (.int .i64), .c (.ls 63)] v)).k (matR [.c (.bool)]) = F_spec_l08Is N v := by
  rintro ⟨bits0, lines1, _⟩; kernel_rfl
noncomputable def C53 (N : Nat) : CL SS := (53, conG [.c (.int .i64), .c (.ls 63)] [.c (.bool)] (F_spec_l08Is N)) :: C58 N
theorem KC53 (N : Nat) : COk QQ (C53 N) := COk.cons (conP LL DR_ok (KC58 N) (F := []) (J := []) (FGood.nil _) (M := []) (R := []) i53 (JGood.nil c53) (t53 N)) (KC58 N)
noncomputable def c133 : Code := Try.f133.body.getD .skip
theorem i133 : IsF Try.prog 133 Try.f133 c133 := ⟨Try.func133, by kernel_rfl, by kernel_rfl, by kernel_rfl⟩
noncomputable def b133_0 : Code := unLoop (blkOf 0 (blks c133))
theorem e133_0 : blkOf 0 (blks c133) = .loop b133_0 := by kernel_rfl
-- loop.example/g01139/spec.l01Words: loop 0
def d_spec_l01Words_0 : LoopD := ⟨24, ⟨[(0, .c (.int .i64)), (1, .c (.rd 2 [(0, 0)]))], [(0, 0, .ext)], 21⟩, ⟨[(5, .c (.int .i64))], [], 32⟩, [], [0], [⟨.ret, ⟨[(4, .c (.bool))], [], 32⟩, [], [0]⟩, ⟨.norm, ⟨[], [], 32⟩, [], [0]⟩]⟩
def n_spec_l01Words_0 (N : Nat) : Int × List (Int) × Unit → (Int × Unit → Option ((Bool × Unit) ⊕ (Unit))) → Int × Unit → Option ((Bool × Unit) ⊕ (Unit))
  | (bits0, list1, _), rec, (i5, _) =>
    bif (decide (i5 < (list1.length : Int))) then bif (decide ((0 : Int) ≤ i5)) then bif (decide (i5 < (list1.length : Int))) then (F_spec_l01Word N (bits0, ((gt list1 i5), ()))).bind fun r54 =>
       bif (!r54.1) then some (.inl (false, ()))
        else rec ((IntKind.wrap .i64 (i5 + (1 : Int))), ())
      else none
     else none
    else some (.inr ())
theorem s_spec_l01Words_0 (N : Nat) : ∀ σ p rec v, stepL (rn drawR (mkB (C53 N) [] [] [] []) 8 133 b133_0) 0 (wr b133_0) d_spec_l01Words_0 (instP σ d_spec_l01Words_0.pm p) rec v = n_spec_l01Words_0 N p rec v := by
  rintro σ ⟨bits0, list1, _⟩ rec ⟨i5, _⟩; kernel_rfl
noncomputable def g_spec_l01Words_0 (N : Nat) : St (Sig.T SS) → Tr (Ex × St (Sig.T SS)) := orcL (wr b133_0) d_spec_l01Words_0 fun p => itN (n_spec_l01Words_0 N p) N
theorem o_spec_l01Words_0 (N : Nat) : Snd QQ (g_spec_l01Words_0 N) (.block 0 (blkOf 0 (blks c133))) := loopP LL DR_ok (KC53 N) (F := []) (J := []) (FGood.nil _) (M := []) (R := []) i133 (JGood.nil c133) e133_0 (s_spec_l01Words_0 N) N
/-- loop.example/g01139/spec.l01Words -/
def F_spec_l01Words (N : Nat) : Int × List (Int) × Unit → Option (Bool × Unit)
  | (bits0, list1, _) =>
    (itN (n_spec_l01Words_0 N (bits0, (list1, ()))) N ((0 : Int), ())).bind fun r55 =>
    bif r55.isLeft then r55.getLeft?.bind fun r56 =>
      some (r56.1, ())
     else r55.getRight?.bind fun r57 =>
      (F_spec_l01Bits N (bits0, ())).bind fun r58 =>
       some (r58.1, ())
theorem t133 (N : Nat) : ∀ v, (fr drawR (mkB (C53 N) [] [(133, [(0, g_spec_l01Words_0 N)])] [] []) 8 133 Try.f133 (instA [.c (.int .i64), .c (.ls 2)] v)).k (matR [.c (.bool)]) = F_spec_l01Words N v := by
  rintro ⟨bits0, list1, _⟩; kernel_rfl
noncomputable def C133 (N : Nat) : CL SS := (133, conG [.c (.int .i64), .c (.ls 2)] [.c (.bool)] (F_spec_l01Words N)) :: C53 N
theorem KC133 (N : Nat) : COk QQ (C133 N) := COk.cons (conP LL DR_ok (KC53 N) (F := []) (J := [(133, [(0, g_spec_l01Words_0 N)])]) (FGood.nil _) (M := []) (R := []) i133 (JGood.cons i133.hd (o_spec_l01Words_0 N) (JGood.nil c133)) (t133 N)) (KC53 N)
noncomputable def c95 : Code := Try.f95.body.getD .skip
theorem i95 : IsF Try.prog 95 Try.f95 c95 := ⟨Try.func95, by kernel_rfl, by kernel_rfl, by kernel_rfl⟩
/-- loop.example/g01139/spec.l08Vars -/
def F_spec_l08Vars (N : Nat) : Int × List (Int) × Unit → Option (Bool × Unit)
  | (bits0, vars1, _) =>
    bif (decide ((vars1.length : Int) = (8 : Int))) then (F_spec_l01Words N (bits0, (vars1, ()))).bind fun r59 =>
     some (r59.1, ())
    else some (false, ())
theorem t95 (N : Nat) : ∀ v, (fr drawR (mkB (C133 N) [] [] [] []) 8 95 Try.f95 (instA [.c (.int .i64), .c (.ls 2)] v)).k (matR [.c (.bool)]) = F_spec_l08Vars N v := by
  rintro ⟨bits0, vars1, _⟩; kernel_rfl
noncomputable def C95 (N : Nat) : CL SS := (95, conG [.c (.int .i64), .c (.ls 2)] [.c (.bool)] (F_spec_l08Vars N)) :: C133 N
theorem KC95 (N : Nat) : COk QQ (C95 N) := COk.cons (conP LL DR_ok (KC133 N) (F := []) (J := []) (FGood.nil _) (M := []) (R := []) i95 (JGood.nil c95) (t95 N)) (KC133 N)
noncomputable def c59 : Code := Try.f59.body.getD .skip
theorem i59 : IsF Try.prog 59 Try.f59 c59 := ⟨Try.func59, by kernel_rfl, by kernel_rfl, by kernel_rfl⟩
/-- loop.example/g01139/spec.l08Ask -/
def F_spec_l08Ask (N : Nat) : Int × (List (Int × Int × Int × Int × Int)) × List (Int) × Unit → Option (Bool × Unit)
  | (bits0, lines1, vars2, _) =>
    (F_spec_l08Is N (bits0, (lines1, ()))).bind fun r60 =>
    bif r60.1 then (F_spec_l08Vars N (bits0, (vars2, ()))).bind fun r61 =>
      some (r61.1, ())
     else some (false, ())
theorem t59 (N : Nat) : ∀ v, (fr drawR (mkB (C95 N) [] [] [] []) 8 59 Try.f59 (instA [.c (.int .i64), .c (.ls 63), .c (.ls 2)] v)).k (matR [.c (.bool)]) = F_spec_l08Ask N v := by
  rintro ⟨bits0, lines1, vars2, _⟩; kernel_rfl
noncomputable def C59 (N : Nat) : CL SS := (59, conG [.c (.int .i64), .c (.ls 63), .c (.ls 2)] [.c (.bool)] (F_spec_l08Ask N)) :: C95 N
theorem KC59 (N : Nat) : COk QQ (C59 N) := COk.cons (conP LL DR_ok (KC95 N) (F := []) (J := []) (FGood.nil _) (M := []) (R := []) i59 (JGood.nil c59) (t59 N)) (KC95 N)
noncomputable def c96 : Code := Try.f96.body.getD .skip
theorem i96 : IsF Try.prog 96 Try.f96 c96 := ⟨Try.func96, by kernel_rfl, by kernel_rfl, by kernel_rfl⟩
/-- loop.example/g01139/spec.l00Own -/
def F_spec_l00Own (N : Nat) : List (Int) × Unit → Option (List (Int) × Unit)
  | (list0, _) =>
    bif (decide (((0 + list0.length) * 8) ≤ 140737488351232)) then some (list0, ())
    else none
theorem t96 (N : Nat) : ∀ v, (fr drawR (mkB (C59 N) [] [] [] []) 8 96 Try.f96 (instA [.c (.ls 2)] v)).k (matR [.c (.ls 2)]) = F_spec_l00Own N v := by
  rintro ⟨list0, _⟩; kernel_rfl
noncomputable def C96 (N : Nat) : CL SS := (96, conG [.c (.ls 2)] [.c (.ls 2)] (F_spec_l00Own N)) :: C59 N
theorem KC96 (N : Nat) : COk QQ (C96 N) := COk.cons (conP LL DR_ok (KC59 N) (F := []) (J := []) (FGood.nil _) (M := []) (R := []) i96 (JGood.nil c96) (t96 N)) (KC59 N)
noncomputable def c134 : Code := Try.f134.body.getD .skip
theorem i134 : IsF Try.prog 134 Try.f134 c134 := ⟨Try.func134, by kernel_rfl, by kernel_rfl, by kernel_rfl⟩
/-- loop.example/g01139/spec.l01Signed -/
def F_spec_l01Signed (N : Nat) : Int × Int × Unit → Option (Int × Unit)
  | (bits0, x1, _) =>
    bif (decide ((0 : Int) ≤ (IntKind.wrap .u64 (IntKind.wrap .i64 (bits0 - (1 : Int)))))) then bif (decide ((shrI .i64 x1 (IntKind.wrap .u64 (IntKind.wrap .i64 (bits0 - (1 : Int))))) = (1 : Int))) then bif (decide ((0 : Int) ≤ (IntKind.wrap .u64 bits0))) then some ((IntKind.wrap .i64 (x1 - (shlI .i64 (1 : Int) (IntKind.wrap .u64 bits0)))), ())
      else none
     else some (x1, ())
    else none
theorem t134 (N : Nat) : ∀ v, (fr drawR (mkB (C96 N) [] [] [] []) 8 134 Try.f134 (instA [.c (.int .i64), .c (.int .i64)] v)).k (matR [.c (.int .i64)]) = F_spec_l01Signed N v := by
  rintro ⟨bits0, x1, _⟩; kernel_rfl
noncomputable def C134 (N : Nat) : CL SS := (134, conG [.c (.int .i64), .c (.int .i64)] [.c (.int .i64)] (F_spec_l01Signed N)) :: C96 N
theorem KC134 (N : Nat) : COk QQ (C134 N) := COk.cons (conP LL DR_ok (KC96 N) (F := []) (J := []) (FGood.nil _) (M := []) (R := []) i134 (JGood.nil c134) (t134 N)) (KC96 N)
noncomputable def c135 : Code := Try.f135.body.getD .skip
theorem i135 : IsF Try.prog 135 Try.f135 c135 := ⟨Try.func135, by kernel_rfl, by kernel_rfl, by kernel_rfl⟩
/-- loop.example/g01139/spec.l01Wrap -/
def F_spec_l01Wrap (N : Nat) : Int × Int × Unit → Option (Int × Unit)
  | (bits0, n1, _) =>
    bif (decide ((0 : Int) ≤ (IntKind.wrap .u64 bits0))) then some ((andI .i64 n1 (IntKind.wrap .i64 ((shlI .i64 (1 : Int) (IntKind.wrap .u64 bits0)) - (1 : Int)))), ())
    else none
theorem t135 (N : Nat) : ∀ v, (fr drawR (mkB (C134 N) [] [] [] []) 8 135 Try.f135 (instA [.c (.int .i64), .c (.int .i64)] v)).k (matR [.c (.int .i64)]) = F_spec_l01Wrap N v := by
  rintro ⟨bits0, n1, _⟩; kernel_rfl
noncomputable def C135 (N : Nat) : CL SS := (135, conG [.c (.int .i64), .c (.int .i64)] [.c (.int .i64)] (F_spec_l01Wrap N)) :: C134 N
theorem KC135 (N : Nat) : COk QQ (C135 N) := COk.cons (conP LL DR_ok (KC134 N) (F := []) (J := []) (FGood.nil _) (M := []) (R := []) i135 (JGood.nil c135) (t135 N)) (KC134 N)
noncomputable def c136 : Code := Try.f136.body.getD .skip
theorem i136 : IsF Try.prog 136 Try.f136 c136 := ⟨Try.func136, by kernel_rfl, by kernel_rfl, by kernel_rfl⟩
/-- loop.example/g01139/spec.l00Max -/
def F_spec_l00Max (N : Nat) : Int × Int × Unit → Option (Int × Unit)
  | (a0, b1, _) =>
    bif (decide (a0 > b1)) then some (a0, ())
    else some (b1, ())
theorem t136 (N : Nat) : ∀ v, (fr drawR (mkB (C135 N) [] [] [] []) 8 136 Try.f136 (instA [.c (.int .i64), .c (.int .i64)] v)).k (matR [.c (.int .i64)]) = F_spec_l00Max N v := by
  rintro ⟨a0, b1, _⟩; kernel_rfl
noncomputable def C136 (N : Nat) : CL SS := (136, conG [.c (.int .i64), .c (.int .i64)] [.c (.int .i64)] (F_spec_l00Max N)) :: C135 N
theorem KC136 (N : Nat) : COk QQ (C136 N) := COk.cons (conP LL DR_ok (KC135 N) (F := []) (J := []) (FGood.nil _) (M := []) (R := []) i136 (JGood.nil c136) (t136 N)) (KC135 N)
noncomputable def c137 : Code := Try.f137.body.getD .skip
theorem i137 : IsF Try.prog 137 Try.f137 c137 := ⟨Try.func137, by kernel_rfl, by kernel_rfl, by kernel_rfl⟩
/-- loop.example/g01139/spec.l01Between -/
def F_spec_l01Between (N : Nat) : Int × Int × Int × Unit → Option (Int × Unit)
  | (n0, low1, high2, _) =>
    (F_spec_l00Max N (low1, (n0, ()))).bind fun r62 =>
    (F_spec_l00Min N (high2, (r62.1, ()))).bind fun r63 =>
     some (r63.1, ())
theorem t137 (N : Nat) : ∀ v, (fr drawR (mkB (C136 N) [] [] [] []) 8 137 Try.f137 (instA [.c (.int .i64), .c (.int .i64), .c (.int .i64)] v)).k (matR [.c (.int .i64)]) = F_spec_l01Between N v := by
  rintro ⟨n0, low1, high2, _⟩; kernel_rfl
noncomputable def C137 (N : Nat) : CL SS := (137, conG [.c (.int .i64), .c (.int .i64), .c (.int .i64)] [.c (.int .i64)] (F_spec_l01Between N)) :: C136 N
theorem KC137 (N : Nat) : COk QQ (C137 N) := COk.cons (conP LL DR_ok (KC136 N) (F := []) (J := []) (FGood.nil _) (M := []) (R := []) i137 (JGood.nil c137) (t137 N)) (KC136 N)
noncomputable def c97 : Code := Try.f97.body.getD .skip
theorem i97 : IsF Try.prog 97 Try.f97 c97 := ⟨Try.func97, by kernel_rfl, by kernel_rfl, by kernel_rfl⟩
/-- loop.example/g01139/spec.l01Do -/
def F_spec_l01Do (N : Nat) : Int × Int × Int × Int × Unit → Option (Int × Unit)
  | (op0, bits1, a2, b3, _) =>
    bif (decide ((0 : Int) ≤ (IntKind.wrap .u64 bits1))) then bif (decide ((0 : Int) ≤ (IntKind.wrap .u64 (IntKind.wrap .i64 (bits1 - (1 : Int)))))) then (F_spec_l01Signed N (bits1, (a2, ()))).bind fun r64 =>
      (F_spec_l01Signed N (bits1, (b3, ()))).bind fun r65 =>
       bif (decide (bits1 = (0 : Int))) then none
        else bif (decide (op0 = (0 : Int))) then (F_spec_l01Wrap N (bits1, ((IntKind.wrap .i64 (a2 + b3)), ()))).bind fun r66 =>
          some (r66.1, ())
         else bif (decide (op0 = (1 : Int))) then (F_spec_l01Wrap N (bits1, ((IntKind.wrap .i64 (a2 - b3)), ()))).bind fun r67 =>
           some (r67.1, ())
          else bif (decide (op0 = (2 : Int))) then (F_spec_l01Wrap N (bits1, ((IntKind.wrap .i64 (a2 * b3)), ()))).bind fun r68 =>
            some (r68.1, ())
           else bif (decide (op0 = (3 : Int))) then some ((andI .i64 a2 b3), ())
            else bif (decide (op0 = (4 : Int))) then some ((orI .i64 a2 b3), ())
             else bif (decide (op0 = (5 : Int))) then some ((xorI .i64 a2 b3), ())
              else bif (decide (op0 = (6 : Int))) then (F_spec_l00Min N (a2, (b3, ()))).bind fun r69 =>
                some (r69.1, ())
               else bif (decide (op0 = (7 : Int))) then (F_spec_l00Max N (a2, (b3, ()))).bind fun r70 =>
                 some (r70.1, ())
                else bif (decide (op0 = (8 : Int))) then (F_spec_l00Min N (r64.1, (r65.1, ()))).bind fun r71 =>
                  (F_spec_l01Wrap N (bits1, (r71.1, ()))).bind fun r72 =>
                   some (r72.1, ())
                 else bif (decide (op0 = (9 : Int))) then (F_spec_l00Max N (r64.1, (r65.1, ()))).bind fun r73 =>
                   (F_spec_l01Wrap N (bits1, (r73.1, ()))).bind fun r74 =>
                    some (r74.1, ())
                  else bif (decide (op0 = (10 : Int))) then (F_spec_l00Min N ((IntKind.wrap .i64 (a2 + b3)), ((IntKind.wrap .i64 ((shlI .i64 (1 : Int) (IntKind.wrap .u64 bits1)) - (1 : Int))), ()))).bind fun r75 =>
                    some (r75.1, ())
                   else bif (decide (op0 = (11 : Int))) then (F_spec_l01Between N ((IntKind.wrap .i64 (r64.1 + r65.1)), ((IntKind.wrap .i64 ((0 : Int) - (shlI .i64 (1 : Int) (IntKind.wrap .u64 (IntKind.wrap .i64 (bits1 - (1 : Int))))))), ((IntKind.wrap .i64 ((shlI .i64 (1 : Int) (IntKind.wrap .u64 (IntKind.wrap .i64 (bits1 - (1 : Int))))) - (1 : Int))), ())))).bind fun r76 =>
                     (F_spec_l01Wrap N (bits1, (r76.1, ()))).bind fun r77 =>
                      some (r77.1, ())
                    else bif (decide (op0 = (12 : Int))) then (F_spec_l00Max N ((IntKind.wrap .i64 (a2 - b3)), ((0 : Int), ()))).bind fun r78 =>
                      some (r78.1, ())
                     else bif (decide (op0 = (13 : Int))) then (F_spec_l01Between N ((IntKind.wrap .i64 (r64.1 - r65.1)), ((IntKind.wrap .i64 ((0 : Int) - (shlI .i64 (1 : Int) (IntKind.wrap .u64 (IntKind.wrap .i64 (bits1 - (1 : Int))))))), ((IntKind.wrap .i64 ((shlI .i64 (1 : Int) (IntKind.wrap .u64 (IntKind.wrap .i64 (bits1 - (1 : Int))))) - (1 : Int))), ())))).bind fun r79 =>
                       (F_spec_l01Wrap N (bits1, (r79.1, ()))).bind fun r80 =>
                        some (r80.1, ())
                      else bif (decide (op0 = (14 : Int))) then some ((IntKind.wrap .i64 (Int.tdiv (IntKind.wrap .i64 ((IntKind.wrap .i64 (a2 + b3)) + (1 : Int))) (2 : Int))), ())
                       else bif (decide (op0 = (15 : Int))) then bif (decide ((0 : Int) ≤ (IntKind.wrap .u64 (Int.tmod b3 bits1)))) then (F_spec_l01Wrap N (bits1, ((shlI .i64 a2 (IntKind.wrap .u64 (Int.tmod b3 bits1))), ()))).bind fun r81 =>
                          some (r81.1, ())
                         else none
                        else bif (decide (op0 = (16 : Int))) then bif (decide ((0 : Int) ≤ (IntKind.wrap .u64 (Int.tmod b3 bits1)))) then some ((shrI .i64 a2 (IntKind.wrap .u64 (Int.tmod b3 bits1))), ())
                          else none
                         else bif (decide ((0 : Int) ≤ (IntKind.wrap .u64 (Int.tmod b3 bits1)))) then (F_spec_l01Wrap N (bits1, ((shrI .i64 r64.1 (IntKind.wrap .u64 (Int.tmod b3 bits1))), ()))).bind fun r82 =>
                           some (r82.1, ())
                          else none
     else none
    else none
theorem t97 (N : Nat) : ∀ v, (fr drawR (mkB (C137 N) [] [] [] []) 8 97 Try.f97 (instA [.c (.int .i64), .c (.int .i64), .c (.int .i64), .c (.int .i64)] v)).k (matR [.c (.int .i64)]) = F_spec_l01Do N v := by
  rintro ⟨op0, bits1, a2, b3, _⟩; kernel_rfl
noncomputable def C97 (N : Nat) : CL SS := (97, conG [.c (.int .i64), .c (.int .i64), .c (.int .i64), .c (.int .i64)] [.c (.int .i64)] (F_spec_l01Do N)) :: C137 N
theorem KC97 (N : Nat) : COk QQ (C97 N) := COk.cons (conP LL DR_ok (KC137 N) (F := []) (J := []) (FGood.nil _) (M := []) (R := []) i97 (JGood.nil c97) (t97 N)) (KC137 N)
noncomputable def c98 : Code := Try.f98.body.getD .skip
theorem i98 : IsF Try.prog 98 Try.f98 c98 := ⟨Try.func98, by kernel_rfl, by kernel_rfl, by kernel_rfl⟩
/-- loop.example/g01139/spec.l01Test -/
def F_spec_l01Test (N : Nat) : Int × Int × Int × Int × Unit → Option (Bool × Unit)
  | (cmp0, bits1, a2, b3, _) =>
    (F_spec_l01Signed N (bits1, (a2, ()))).bind fun r83 =>
    (F_spec_l01Signed N (bits1, (b3, ()))).bind fun r84 =>
     bif (decide (cmp0 = (0 : Int))) then some ((decide (a2 = b3)), ())
      else bif (decide (cmp0 = (1 : Int))) then some ((!(decide (a2 = b3))), ())
       else bif (decide (cmp0 = (2 : Int))) then some ((decide (a2 < b3)), ())
        else bif (decide (cmp0 = (3 : Int))) then some ((decide (a2 ≤ b3)), ())
         else bif (decide (cmp0 = (4 : Int))) then some ((decide (r83.1 < r84.1)), ())
          else some ((decide (r83.1 ≤ r84.1)), ())
theorem t98 (N : Nat) : ∀ v, (fr drawR (mkB (C97 N) [] [] [] []) 8 98 Try.f98 (instA [.c (.int .i64), .c (.int .i64), .c (.int .i64), .c (.int .i64)] v)).k (matR [.c (.bool)]) = F_spec_l01Test N v := by
  rintro ⟨cmp0, bits1, a2, b3, _⟩; kernel_rfl
noncomputable def C98 (N : Nat) : CL SS := (98, conG [.c (.int .i64), .c (.int .i64), .c (.int .i64), .c (.int .i64)] [.c (.bool)] (F_spec_l01Test N)) :: C97 N
theorem KC98 (N : Nat) : COk QQ (C98 N) := COk.cons (conP LL DR_ok (KC97 N) (F := []) (J := []) (FGood.nil _) (M := []) (R := []) i98 (JGood.nil c98) (t98 N)) (KC97 N)
noncomputable def c60 : Code := Try.f60.body.getD .skip
theorem i60 : IsF Try.prog 60 Try.f60 c60 := ⟨Try.func60, by kernel_rfl, by kernel_rfl, by kernel_rfl⟩
noncomputable def b60_0 : Code := unLoop (blkOf 0 (blks c60))
theorem e60_0 : blkOf 0 (blks c60) = .loop b60_0 := by kernel_rfl
-- loop.example/g01139/spec.l08Alone: loop 0
def d_spec_l08Alone_0 : LoopD := ⟨168, ⟨[(0, .c (.int .i64)), (1, .c (.rd 63 [(0, 0)])), (8, .c (.row 33)), (10, .c (.row 89)), (12, .c (.row 137))], [(0, 0, .ext), (33, 33, .row 2 [])], 161⟩, ⟨[(11, .c (.row 168)), (13, .c (.int .i64))], [(168, .row 2 []), (89, .row 2 []), (137, .row 2 []), (105, .dead)], 177⟩, [(11, some 2)], [0, 33, 89, 137], [⟨.norm, ⟨[(11, .c (.row 168))], [(168, .row 2 []), (89, .row 2 []), (137, .row 2 []), (105, .dead)], 177⟩, [(11, some 2)], [0, 33, 89, 137]⟩]⟩
def n_spec_l08Alone_0 (N : Nat) : Int × (List (Int × Int × Int × Int × Int)) × List (Int) × Unit → (Int × List (Int) × List (Int) × List (Int) × Unit → Option ((List (Int) × List (Int) × List (Int) × Unit))) → Int × List (Int) × List (Int) × List (Int) × Unit → Option ((List (Int) × List (Int) × List (Int) × Unit))
  | (bits0, lines1, p33, _), rec, (i13, o168, o89, o137, _) =>
    bif (decide (i13 < (lines1.length : Int))) then bif (decide ((0 : Int) ≤ i13)) then bif (decide (i13 < (lines1.length : Int))) then bif (decide ((gt lines1 i13).1 = (0 : Int))) then bif (decide ((0 : Int) ≤ (gt lines1 i13).2.2.2.1)) then bif (decide ((gt lines1 i13).2.2.2.1 < (o89.length : Int))) then bif (decide ((0 : Int) ≤ (gt lines1 i13).2.2.2.2)) then bif (decide ((gt lines1 i13).2.2.2.2 < (o89.length : Int))) then (F_spec_l01Do N ((gt lines1 i13).2.2.1, (bits0, ((gt o89 (gt lines1 i13).2.2.2.1), ((gt o89 (gt lines1 i13).2.2.2.2), ()))))).bind fun r90 =>
            bif (decide ((0 : Int) ≤ (gt lines1 i13).2.1)) then bif (decide ((gt lines1 i13).2.1 < (o89.length : Int))) then bif (decide (((o168.length + 1) * 8) ≤ 140737488351232)) then rec ((IntKind.wrap .i64 (i13 + (1 : Int))), ((o168 ++ (i13 :: [])), ((o89.set (gt lines1 i13).2.1.toNat r90.1), (o137, ()))))
               else none
              else none
             else none
           else none
          else none
         else none
        else none
       else bif (decide ((gt lines1 i13).1 = (1 : Int))) then bif (decide ((0 : Int) ≤ (gt lines1 i13).2.1)) then bif (decide ((gt lines1 i13).2.1 < (o89.length : Int))) then bif (decide (((o168.length + 1) * 8) ≤ 140737488351232)) then rec ((IntKind.wrap .i64 (i13 + (1 : Int))), ((o168 ++ (i13 :: [])), ((o89.set (gt lines1 i13).2.1.toNat (gt lines1 i13).2.2.2.2), (o137, ()))))
           else none
          else none
         else none
        else bif (decide ((gt lines1 i13).1 = (2 : Int))) then bif (decide ((0 : Int) ≤ (gt lines1 i13).2.2.2.1)) then bif (decide ((gt lines1 i13).2.2.2.1 < (o89.length : Int))) then bif (decide ((0 : Int) ≤ (gt lines1 i13).2.2.2.2)) then bif (decide ((gt lines1 i13).2.2.2.2 < (o89.length : Int))) then (F_spec_l01Test N ((gt lines1 i13).2.2.1, (bits0, ((gt o89 (gt lines1 i13).2.2.2.1), ((gt o89 (gt lines1 i13).2.2.2.2), ()))))).bind fun r91 =>
              bif (!r91.1) then bif (decide ((0 : Int) ≤ i13)) then bif (decide (i13 < (p33.length : Int))) then rec ((IntKind.wrap .i64 ((gt p33 i13) + (1 : Int))), (o168, (o89, (o137, ()))))
                 else none
                else none
               else rec ((IntKind.wrap .i64 (i13 + (1 : Int))), (o168, (o89, (o137, ()))))
             else none
            else none
           else none
          else none
         else bif (decide ((gt lines1 i13).1 = (3 : Int))) then bif (decide ((0 : Int) ≤ i13)) then bif (decide (i13 < (p33.length : Int))) then rec ((IntKind.wrap .i64 ((gt p33 i13) + (1 : Int))), (o168, (o89, (o137, ()))))
            else none
           else none
          else bif (decide ((gt lines1 i13).1 = (5 : Int))) then bif (decide ((0 : Int) ≤ i13)) then bif (decide (i13 < (o137.length : Int))) then rec ((IntKind.wrap .i64 (i13 + (1 : Int))), (o168, (o89, ((o137.set i13.toNat (1 : Int)), ()))))
             else none
            else none
           else bif (decide ((gt lines1 i13).1 = (4 : Int))) then bif (decide ((0 : Int) ≤ i13)) then bif (decide (i13 < (p33.length : Int))) then bif (decide ((0 : Int) ≤ (gt p33 i13))) then bif (decide ((gt p33 i13) < (lines1.length : Int))) then bif (decide ((gt lines1 (gt p33 i13)).1 = (5 : Int))) then bif (decide ((0 : Int) ≤ (gt p33 i13))) then bif (decide ((gt p33 i13) < (o137.length : Int))) then bif (decide ((0 : Int) ≤ (gt p33 i13))) then bif (decide ((gt p33 i13) < (lines1.length : Int))) then bif (decide ((gt o137 (gt p33 i13)) < (gt lines1 (gt p33 i13)).2.2.2.2)) then bif (decide ((0 : Int) ≤ (gt p33 i13))) then bif (decide ((gt p33 i13) < (o137.length : Int))) then bif (decide ((0 : Int) ≤ (gt p33 i13))) then bif (decide ((gt p33 i13) < (o137.length : Int))) then rec ((IntKind.wrap .i64 ((gt p33 i13) + (1 : Int))), (o168, (o89, ((o137.set (gt p33 i13).toNat (IntKind.wrap .i64 ((gt o137 (gt p33 i13)) + (1 : Int)))), ()))))
                          else none
                         else none
                        else none
                       else none
                      else rec ((IntKind.wrap .i64 (i13 + (1 : Int))), (o168, (o89, (o137, ()))))
                     else none
                    else none
                   else none
                  else none
                 else rec ((IntKind.wrap .i64 (i13 + (1 : Int))), (o168, (o89, (o137, ()))))
                else none
               else none
              else none
             else none
            else bif (decide ((gt lines1 i13).1 = (6 : Int))) then bif (decide ((0 : Int) ≤ (gt lines1 i13).2.2.2.1)) then bif (decide ((gt lines1 i13).2.2.2.1 < (o89.length : Int))) then bif (decide ((0 : Int) ≤ (gt lines1 i13).2.2.2.2)) then bif (decide ((gt lines1 i13).2.2.2.2 < (o89.length : Int))) then (F_spec_l01Test N ((gt lines1 i13).2.2.1, (bits0, ((gt o89 (gt lines1 i13).2.2.2.1), ((gt o89 (gt lines1 i13).2.2.2.2), ()))))).bind fun r92 =>
                  bif r92.1 then bif (decide ((0 : Int) ≤ i13)) then bif (decide (i13 < (p33.length : Int))) then rec ((IntKind.wrap .i64 ((gt p33 i13) + (1 : Int))), (o168, (o89, (o137, ()))))
                     else none
                    else none
                   else rec ((IntKind.wrap .i64 (i13 + (1 : Int))), (o168, (o89, (o137, ()))))
                 else none
                else none
               else none
              else none
             else rec ((IntKind.wrap .i64 (i13 + (1 : Int))), (o168, (o89, (o137, ()))))
      else none
     else none
    else some (o168, (o89, (o137, ())))
theorem s_spec_l08Alone_0 (N : Nat) : ∀ σ p rec v, stepL (rn drawR (mkB (C98 N) [] [] [] []) 8 60 b60_0) 0 (wr b60_0) d_spec_l08Alone_0 (instP σ d_spec_l08Alone_0.pm p) rec v = n_spec_l08Alone_0 N p rec v := by
  rintro σ ⟨bits0, lines1, p33, _⟩ rec ⟨i13, o168, o89, o137, _⟩; kernel_rfl
noncomputable def g_spec_l08Alone_0 (N : Nat) : St (Sig.T SS) → Tr (Ex × St (Sig.T SS)) := orcL (wr b60_0) d_spec_l08Alone_0 fun p => itN (n_spec_l08Alone_0 N p) N
theorem o_spec_l08Alone_0 (N : Nat) : Snd QQ (g_spec_l08Alone_0 N) (.block 0 (blkOf 0 (blks c60))) := loopP LL DR_ok (KC98 N) (F := []) (J := []) (FGood.nil _) (M := []) (R := []) i60 (JGood.nil c60) e60_0 (s_spec_l08Alone_0 N) N
/-- loop.example/g01139/spec.l08Alone -/
def F_spec_l08Alone (N : Nat) : Int × (List (Int × Int × Int × Int × Int)) × List (Int) × Unit → Option (List (Int) × List (Int) × Unit)
  | (bits0, lines1, vars2, _) =>
    (F_spec_l08Pairs N (bits0, (lines1, ()))).bind fun r93 =>
    (F_spec_l00Own N (vars2, ())).bind fun r94 =>
     bif (decide ((lines1.length : Int) ≤ (lines1.length : Int))) then bif (decide (((lines1.length : Int) * (8 : Int)) ≤ (140737488351232 : Int))) then (itN (n_spec_l08Alone_0 N (bits0, (lines1, (r93.1, ())))) N ((0 : Int), ([], (r94.1, ((List.replicate (lines1.length : Int).toNat (0 : Int)), ()))))).bind fun r95 =>
        some (r95.2.1, (r95.1, ()))
       else none
      else none
theorem t60 (N : Nat) : ∀ v, (fr drawR (mkB (C98 N) [] [(60, [(0, g_spec_l08Alone_0 N)])] [] []) 8 60 Try.f60 (instA [.c (.int .i64), .c (.ls 63), .c (.ls 2)] v)).k (matR [.c (.ls 2), .c (.ls 2)]) = F_spec_l08Alone N v := by
  rintro ⟨bits0, lines1, vars2, _⟩; kernel_rfl
noncomputable def C60 (N : Nat) : CL SS := (60, conG [.c (.int .i64), .c (.ls 63), .c (.ls 2)] [.c (.ls 2), .c (.ls 2)] (F_spec_l08Alone N)) :: C98 N
theorem KC60 (N : Nat) : COk QQ (C60 N) := COk.cons (conP LL DR_ok (KC98 N) (F := []) (J := [(60, [(0, g_spec_l08Alone_0 N)])]) (FGood.nil _) (M := []) (R := []) i60 (JGood.cons i60.hd (o_spec_l08Alone_0 N) (JGood.nil c60)) (t60 N)) (KC98 N)
noncomputable def c24 : Code := Try.f24.body.getD .skip
theorem i24 : IsF Try.prog 24 Try.f24 c24 := ⟨Try.func24, by kernel_rfl, by kernel_rfl, by kernel_rfl⟩
/-- loop.example/g01139/spec.CountAlone -/
def F_spec_CountAlone (N : Nat) : Int × (List (Int × Int × Int × Int × Int)) × List (Int) × Unit → Option (Int × Bool × Unit)
  | (bits0, lines1, vars2, _) =>
    (F_spec_l08Ask N (bits0, (lines1, (vars2, ())))).bind fun r96 =>
    bif (!r96.1) then some ((0 : Int), (false, ()))
     else (F_spec_l08Alone N (bits0, (lines1, (vars2, ())))).bind fun r97 =>
      some ((r97.2.1.length : Int), (true, ()))
theorem t24 (N : Nat) : ∀ v, (fr drawR (mkB (C60 N) [] [] [] []) 8 24 Try.f24 (instA [.c (.int .i64), .c (.ls 63), .c (.ls 2)] v)).k (matR [.c (.int .i64), .c (.bool)]) = F_spec_CountAlone N v := by
  rintro ⟨bits0, lines1, vars2, _⟩; kernel_rfl
noncomputable def C24 (N : Nat) : CL SS := (24, conG [.c (.int .i64), .c (.ls 63), .c (.ls 2)] [.c (.int .i64), .c (.bool)] (F_spec_CountAlone N)) :: C60 N
theorem KC24 (N : Nat) : COk QQ (C24 N) := COk.cons (conP LL DR_ok (KC60 N) (F := []) (J := []) (FGood.nil _) (M := []) (R := []) i24 (JGood.nil c24) (t24 N)) (KC60 N)
noncomputable def c55 : Code := Try.f55.body.getD .skip
theorem i55 : IsF Try.prog 55 Try.f55 c55 := ⟨Try.func55, by kernel_rfl, by kernel_rfl, by kernel_rfl⟩
/-- loop.example/g01139/impl.isBits -/
def F_impl_isBits (N : Nat) : Int × Unit → Option (Bool × Unit)
  | (bits0, _) =>
    bif (decide (bits0 = (4 : Int))) then some (true, ())
    else bif (decide (bits0 = (8 : Int))) then some (true, ())
     else some ((decide (bits0 = (16 : Int))), ())
theorem t55 (N : Nat) : ∀ v, (fr drawR (mkB (C24 N) [] [] [] []) 8 55 Try.f55 (instA [.c (.int .i64)] v)).k (matR [.c (.bool)]) = F_impl_isBits N v := by
  rintro ⟨bits0, _⟩; kernel_rfl
noncomputable def C55 (N : Nat) : CL SS := (55, conG [.c (.int .i64)] [.c (.bool)] (F_impl_isBits N)) :: C24 N
theorem KC55 (N : Nat) : COk QQ (C55 N) := COk.cons (conP LL DR_ok (KC24 N) (F := []) (J := []) (FGood.nil _) (M := []) (R := []) i55 (JGood.nil c55) (t55 N)) (KC24 N)
noncomputable def c115 : Code := Try.f115.body.getD .skip
theorem i115 : IsF Try.prog 115 Try.f115 c115 := ⟨Try.func115, by kernel_rfl, by kernel_rfl, by kernel_rfl⟩
/-- loop.example/g01139/impl.within -/
def F_impl_within (N : Nat) : Int × Int × Int × Unit → Option (Bool × Unit)
  | (n0, low1, high2, _) =>
    bif (decide (low1 ≤ n0)) then some ((decide (n0 ≤ high2)), ())
    else some (false, ())
theorem t115 (N : Nat) : ∀ v, (fr drawR (mkB (C55 N) [] [] [] []) 8 115 Try.f115 (instA [.c (.int .i64), .c (.int .i64), .c (.int .i64)] v)).k (matR [.c (.bool)]) = F_impl_within N v := by
  rintro ⟨n0, low1, high2, _⟩; kernel_rfl
noncomputable def C115 (N : Nat) : CL SS := (115, conG [.c (.int .i64), .c (.int .i64), .c (.int .i64)] [.c (.bool)] (F_impl_within N)) :: C55 N
theorem KC115 (N : Nat) : COk QQ (C115 N) := COk.cons (conP LL DR_ok (KC55 N) (F := []) (J := []) (FGood.nil _) (M := []) (R := []) i115 (JGood.nil c115) (t115 N)) (KC55 N)
noncomputable def c125 : Code := Try.f125.body.getD .skip
theorem i125 : IsF Try.prog 125 Try.f125 c125 := ⟨Try.func125, by kernel_rfl, by kernel_rfl, by kernel_rfl⟩
/-- loop.example/g01139/impl.isVar -/
def F_impl_isVar (N : Nat) : Int × Unit → Option (Bool × Unit)
  | (n0, _) =>
    (F_impl_within N (n0, ((0 : Int), ((7 : Int), ())))).bind fun r98 =>
    some (r98.1, ())
theorem t125 (N : Nat) : ∀ v, (fr drawR (mkB (C115 N) [] [] [] []) 8 125 Try.f125 (instA [.c (.int .i64)] v)).k (matR [.c (.bool)]) = F_impl_isVar N v := by
  rintro ⟨n0, _⟩; kernel_rfl
noncomputable def C125 (N : Nat) : CL SS := (125, conG [.c (.int .i64)] [.c (.bool)] (F_impl_isVar N)) :: C115 N
theorem KC125 (N : Nat) : COk QQ (C125 N) := COk.cons (conP LL DR_ok (KC115 N) (F := []) (J := []) (FGood.nil _) (M := []) (R := []) i125 (JGood.nil c125) (t125 N)) (KC115 N)
noncomputable def c126 : Code := Try.f126.body.getD .skip
theorem i126 : IsF Try.prog 126 Try.f126 c126 := ⟨Try.func126, by kernel_rfl, by kernel_rfl, by kernel_rfl⟩
/-- loop.example/g01139/impl.isOp -/
def F_impl_isOp (N : Nat) : Int × Unit → Option (Bool × Unit)
  | (op0, _) =>
    (F_impl_within N (op0, ((0 : Int), ((17 : Int), ())))).bind fun r99 =>
    some (r99.1, ())
theorem t126 (N : Nat) : ∀ v, (fr drawR (mkB (C125 N) [] [] [] []) 8 126 Try.f126 (instA [.c (.int .i64)] v)).k (matR [.c (.bool)]) = F_impl_isOp N v := by
  rintro ⟨op0, _⟩; kernel_rfl
noncomputable def C126 (N : Nat) : CL SS := (126, conG [.c (.int .i64)] [.c (.bool)] (F_impl_isOp N)) :: C125 N
theorem KC126 (N : Nat) : COk QQ (C126 N) := COk.cons (conP LL DR_ok (KC125 N) (F := []) (J := []) (FGood.nil _) (M := []) (R := []) i126 (JGood.nil c126) (t126 N)) (KC125 N)
noncomputable def c102 : Code := Try.f102.body.getD .skip
theorem i102 : IsF Try.prog 102 Try.f102 c102 := ⟨Try.func102, by kernel_rfl, by kernel_rfl, by kernel_rfl⟩
/-- loop.example/g01139/impl.IsWord -/
def F_impl_IsWord (N : Nat) : Int × Int × Unit → Option (Bool × Unit)
  | (bits0, x1, _) =>
    (F_impl_isBits N (bits0, ())).bind fun r100 =>
    bif r100.1 then bif (decide ((0 : Int) ≤ bits0)) then (F_impl_within N (x1, ((0 : Int), ((IntKind.wrap .i64 ((shlI .i64 (1 : Int) bits0) - (1 : Int))), ())))).bind fun r101 =>
       some (r101.1, ())
      else none
     else some (false, ())
theorem t102 (N : Nat) : ∀ v, (fr drawR (mkB (C126 N) [] [] [] []) 8 102 Try.f102 (instA [.c (.int .i64), .c (.int .i64)] v)).k (matR [.c (.bool)]) = F_impl_IsWord N v := by
  rintro ⟨bits0, x1, _⟩; kernel_rfl
noncomputable def C102 (N : Nat) : CL SS := (102, conG [.c (.int .i64), .c (.int .i64)] [.c (.bool)] (F_impl_IsWord N)) :: C126 N
theorem KC102 (N : Nat) : COk QQ (C102 N) := COk.cons (conP LL DR_ok (KC126 N) (F := []) (J := []) (FGood.nil _) (M := []) (R := []) i102 (JGood.nil c102) (t102 N)) (KC126 N)
noncomputable def c127 : Code := Try.f127.body.getD .skip
theorem i127 : IsF Try.prog 127 Try.f127 c127 := ⟨Try.func127, by kernel_rfl, by kernel_rfl, by kernel_rfl⟩
/-- loop.example/g01139/impl.isCmp -/
def F_impl_isCmp (N : Nat) : Int × Unit → Option (Bool × Unit)
  | (cmp0, _) =>
    (F_impl_within N (cmp0, ((0 : Int), ((5 : Int), ())))).bind fun r102 =>
    some (r102.1, ())
theorem t127 (N : Nat) : ∀ v, (fr drawR (mkB (C102 N) [] [] [] []) 8 127 Try.f127 (instA [.c (.int .i64)] v)).k (matR [.c (.bool)]) = F_impl_isCmp N v := by
  rintro ⟨cmp0, _⟩; kernel_rfl
noncomputable def C127 (N : Nat) : CL SS := (127, conG [.c (.int .i64)] [.c (.bool)] (F_impl_isCmp N)) :: C102 N
theorem KC127 (N : Nat) : COk QQ (C127 N) := COk.cons (conP LL DR_ok (KC102 N) (F := []) (J := []) (FGood.nil _) (M := []) (R := []) i127 (JGood.nil c127) (t127 N)) (KC102 N)
noncomputable def c92 : Code := Try.f92.body.getD .skip
theorem i92 : IsF Try.prog 92 Try.f92 c92 := ⟨Try.func92, by kernel_rfl, by kernel_rfl, by kernel_rfl⟩
/-- loop.example/g01139/impl.isLine -/
def F_impl_isLine (N : Nat) : Int × Int × Int × Int × Int × Int × Unit → Option (Bool × Unit)
  | (bits0, l1c0, l1c1, l1c2, l1c3, l1c4, _) =>
    bif (decide (l1c0 = (0 : Int))) then (F_impl_isVar N (l1c1, ())).bind fun r103 =>
     bif r103.1 then (F_impl_isOp N (l1c2, ())).bind fun r104 =>
       bif r104.1 then (F_impl_isVar N (l1c3, ())).bind fun r105 =>
         bif r105.1 then (F_impl_isVar N (l1c4, ())).bind fun r106 =>
           some (r106.1, ())
          else some (false, ())
        else some (false, ())
      else some (false, ())
    else bif (decide (l1c0 = (1 : Int))) then (F_impl_isVar N (l1c1, ())).bind fun r107 =>
      bif r107.1 then bif (decide (l1c2 = (0 : Int))) then bif (decide (l1c3 = (0 : Int))) then (F_impl_IsWord N (bits0, (l1c4, ()))).bind fun r108 =>
          some (r108.1, ())
         else some (false, ())
        else some (false, ())
       else some (false, ())
     else bif (decide (l1c0 = (2 : Int))) then bif (decide (l1c1 = (0 : Int))) then (F_impl_isCmp N (l1c2, ())).bind fun r109 =>
        bif r109.1 then (F_impl_isVar N (l1c3, ())).bind fun r110 =>
          bif r110.1 then (F_impl_isVar N (l1c4, ())).bind fun r111 =>
            some (r111.1, ())
           else some (false, ())
         else some (false, ())
       else some (false, ())
      else bif (decide (l1c0 = (6 : Int))) then bif (decide (l1c1 = (0 : Int))) then (F_impl_isCmp N (l1c2, ())).bind fun r112 =>
         bif r112.1 then (F_impl_isVar N (l1c3, ())).bind fun r113 =>
           bif r113.1 then (F_impl_isVar N (l1c4, ())).bind fun r114 =>
             some (r114.1, ())
            else some (false, ())
          else some (false, ())
        else some (false, ())
       else bif (decide (l1c0 = (3 : Int))) then some (((decide (l1c0 = l1c0)) && ((decide (l1c1 = (0 : Int))) && ((decide (l1c2 = (0 : Int))) && ((decide (l1c3 = (0 : Int))) && ((decide (l1c4 = (0 : Int))) && true))))), ())
        else bif (decide (l1c0 = (4 : Int))) then some (((decide (l1c0 = l1c0)) && ((decide (l1c1 = (0 : Int))) && ((decide (l1c2 = (0 : Int))) && ((decide (l1c3 = (0 : Int))) && ((decide (l1c4 = (0 : Int))) && true))))), ())
         else bif (decide (l1c0 = (5 : Int))) then bif ((decide (l1c0 = (5 : Int))) && ((decide (l1c1 = (0 : Int))) && ((decide (l1c2 = (0 : Int))) && ((decide (l1c3 = (0 : Int))) && ((decide (l1c4 = l1c4)) && true))))) then (F_impl_within N (l1c4, ((1 : Int), ((8 : Int), ())))).bind fun r115 =>
            some (r115.1, ())
           else some (false, ())
          else some (false, ())
theorem t92 (N : Nat) : ∀ v, (fr drawR (mkB (C127 N) [] [] [] []) 8 92 Try.f92 (instA [.c (.int .i64), .agg [.int .i64, .int .i64, .int .i64, .int .i64, .int .i64]] v)).k (matR [.c (.bool)]) = F_impl_isLine N v := by
  rintro ⟨bits0, l1c0, l1c1, l1c2, l1c3, l1c4, _⟩; kernel_rfl
noncomputable def C92 (N : Nat) : CL SS := (92, conG [.c (.int .i64), .agg [.int .i64, .int .i64, .int .i64, .int .i64, .int .i64]] [.c (.bool)] (F_impl_isLine N)) :: C127 N
theorem KC92 (N : Nat) : COk QQ (C92 N) := COk.cons (conP LL DR_ok (KC127 N) (F := []) (J := []) (FGood.nil _) (M := []) (R := []) i92 (JGood.nil c92) (t92 N)) (KC127 N)
noncomputable def c56 : Code := Try.f56.body.getD .skip
theorem i56 : IsF Try.prog 56 Try.f56 c56 := ⟨Try.func56, by kernel_rfl, by kernel_rfl, by kernel_rfl⟩
noncomputable def b56_0 : Code := unLoop (blkOf 0 (blks c56))
theorem e56_0 : blkOf 0 (blks c56) = .loop b56_0 := by kernel_rfl
noncomputable def b56_4 : Code := unLoop (blkOf 4 (blks c56))
theorem e56_4 : blkOf 4 (blks c56) = .loop b56_4 := by kernel_rfl
-- loop.example/g01139/impl.paired: loop 4
def d_impl_paired_2 : LoopD := ⟨664, ⟨[(6, .c (.row 33)), (12, .c (.int .i64)), (141, .c (.sub 138 136)), (142, .c (.int .i64))], [(138, 136, .deep 101 0 3 [] 136)], 213⟩, ⟨[(143, .c (.int .i64))], [(33, .row 2 [])], 672⟩, [], [33, 138], [⟨.norm, ⟨[], [(33, .row 2 [])], 672⟩, [], [33, 138]⟩]⟩
def n_impl_paired_2 (N : Nat) : Int × Int × Int × List (List (Int)) × Unit → (Int × List (Int) × Unit → Option ((List (Int) × Unit))) → Int × List (Int) × Unit → Option ((List (Int) × Unit))
  | (i12, t141, t142, p138, _), rec, (t143, o33, _) =>
    bif (decide (t143 < t142)) then bif (decide ((0 : Int) ≤ t143)) then bif (decide (t143 < ((gt p138 t141).length : Int))) then bif (decide ((0 : Int) ≤ (gt (gt p138 t141) t143))) then bif (decide ((gt (gt p138 t141) t143) < (o33.length : Int))) then rec ((IntKind.wrap .i64 (t143 + (1 : Int))), ((o33.set (gt (gt p138 t141) t143).toNat i12), ()))
        else none
       else none
      else none
     else none
    else some (o33, ())
theorem s_impl_paired_2 (N : Nat) : ∀ σ p rec v, stepL (rn drawR (mkB (C92 N) [] [] [] []) 8 56 b56_4) 4 (wr b56_4) d_impl_paired_2 (instP σ d_impl_paired_2.pm p) rec v = n_impl_paired_2 N p rec v := by
  rintro σ ⟨i12, t141, t142, p138, _⟩ rec ⟨t143, o33, _⟩; kernel_rfl
noncomputable def g_impl_paired_2 (N : Nat) : St (Sig.T SS) → Tr (Ex × St (Sig.T SS)) := orcL (wr b56_4) d_impl_paired_2 fun p => itN (n_impl_paired_2 N p) N
theorem o_impl_paired_2 (N : Nat) : Snd QQ (g_impl_paired_2 N) (.block 4 (blkOf 4 (blks c56))) := loopP LL DR_ok (KC92 N) (F := []) (J := []) (FGood.nil _) (M := []) (R := []) i56 (JGood.nil c56) e56_4 (s_impl_paired_2 N) N
-- loop.example/g01139/impl.paired: loop 0
def d_impl_paired_0 : LoopD := ⟨136, ⟨[(0, .c (.int .i64)), (1, .c (.rd 63 [(0, 0)])), (6, .c (.row 33)), (11, .c (.mp 89)), (24, .c (.rd 63 [(0, 0)])), (25, .c (.int .i64))], [(0, 0, .ext)], 213⟩, ⟨[(7, .c (.row 136)), (8, .c (.row 137)), (9, .c (.row 138)), (10, .c (.row 139)), (26, .c (.int .i64))], [(136, .row 3 []), (137, .row 3 []), (138, .deep 101 0 3 [] 136), (139, .row 2 []), (33, .row 2 []), (89, .mp .i64), (73, .dead)], 148⟩, [(7, some 3), (8, some 3), (9, some 101), (10, some 2)], [0, 33, 89], [⟨.ret, ⟨[(4, .c (.row 136)), (5, .c (.bool))], [(136, .row 2 []), (33, .row 2 []), (89, .mp .i64), (73, .dead)], 145⟩, [(4, some 2)], [0, 33, 89]⟩, ⟨.norm, ⟨[(7, .c (.row 136))], [(136, .row 3 []), (33, .row 2 []), (89, .mp .i64), (73, .dead)], 145⟩, [(7, some 3)], [0, 33, 89]⟩]⟩
def n_impl_paired_0 (N : Nat) : Int × (List (Int × Int × Int × Int × Int)) × (List (Int × Int × Int × Int × Int)) × Int × Unit → (Int × List (Int) × List (Int) × List (List (Int)) × List (Int) × List (Int) × (List (Int × Bool)) × Unit → Option ((Bool × List (Int) × List (Int) × (List (Int × Bool)) × Unit) ⊕ (List (Int) × List (Int) × (List (Int × Bool)) × Unit))) → Int × List (Int) × List (Int) × List (List (Int)) × List (Int) × List (Int) × (List (Int × Bool)) × Unit → Option ((Bool × List (Int) × List (Int) × (List (Int × Bool)) × Unit) ⊕ (List (Int) × List (Int) × (List (Int × Bool)) × Unit))
  | (bits0, lines1, t24, t25, _), rec, (t26, o136, o137, o138, o139, o33, o89, _) =>
    bif (decide (t26 < t25)) then bif (decide ((0 : Int) ≤ t26)) then bif (decide (t26 < (t24.length : Int))) then bif (decide ((0 : Int) ≤ t26)) then bif (decide (t26 < (o33.length : Int))) then (F_impl_isLine N (bits0, ((gt t24 t26).1, ((gt t24 t26).2.1, ((gt t24 t26).2.2.1, ((gt t24 t26).2.2.2.1, ((gt t24 t26).2.2.2.2, ()))))))).bind fun r120 =>
         bif (!r120.1) then some (.inl (false, ([], ((o33.set t26.toNat t26), (o89, ())))))
          else bif (decide ((gt t24 t26).1 = (2 : Int))) then bif (decide (((o136.length + 1) * 8) ≤ 140737488351232)) then bif (decide ((gt t24 t26).1 = (5 : Int))) then bif (decide (((o137.length + 1) * 8) ≤ 140737488351232)) then bif (decide (((o138.length + 1) * 24) ≤ 140737488351232)) then bif (decide ((0 : Int) ≤ (IntKind.wrap .i64 ((o139.length : Int) - (1 : Int))))) then bif (decide ((IntKind.wrap .i64 ((o139.length : Int) - (1 : Int))) < (o139.length : Int))) then bif (decide (((o139.length + 1) * 8) ≤ 140737488351232)) then bif (decide (((o136 ++ (t26 :: [])).length : Int) > (4 : Int))) then some (.inl (false, ([], ((o33.set t26.toNat t26), (o89, ())))))
                   else bif (decide ((0 : Int) ≤ (IntKind.wrap .i64 (((o139 ++ ((IntKind.wrap .i64 ((gt o139 (IntKind.wrap .i64 ((o139.length : Int) - (1 : Int)))) * (gt t24 t26).2.2.2.2)) :: [])).length : Int) - (1 : Int))))) then bif (decide ((IntKind.wrap .i64 (((o139 ++ ((IntKind.wrap .i64 ((gt o139 (IntKind.wrap .i64 ((o139.length : Int) - (1 : Int)))) * (gt t24 t26).2.2.2.2)) :: [])).length : Int) - (1 : Int))) < ((o139 ++ ((IntKind.wrap .i64 ((gt o139 (IntKind.wrap .i64 ((o139.length : Int) - (1 : Int)))) * (gt t24 t26).2.2.2.2)) :: [])).length : Int))) then bif (decide ((gt (o139 ++ ((IntKind.wrap .i64 ((gt o139 (IntKind.wrap .i64 ((o139.length : Int) - (1 : Int)))) * (gt t24 t26).2.2.2.2)) :: [])) (IntKind.wrap .i64 (((o139 ++ ((IntKind.wrap .i64 ((gt o139 (IntKind.wrap .i64 ((o139.length : Int) - (1 : Int)))) * (gt t24 t26).2.2.2.2)) :: [])).length : Int) - (1 : Int)))) > (64 : Int))) then some (.inl (false, ([], ((o33.set t26.toNat t26), (o89, ())))))
                      else rec ((IntKind.wrap .i64 (t26 + (1 : Int))), ((o136 ++ (t26 :: [])), ((o137 ++ (t26 :: [])), ((o138 ++ ([] :: [])), ((o139 ++ ((IntKind.wrap .i64 ((gt o139 (IntKind.wrap .i64 ((o139.length : Int) - (1 : Int)))) * (gt t24 t26).2.2.2.2)) :: [])), ((o33.set t26.toNat t26), (o89, ())))))))
                     else none
                    else none
                  else none
                 else none
                else none
               else none
              else none
             else bif (decide (((o136 ++ (t26 :: [])).length : Int) > (4 : Int))) then some (.inl (false, ([], ((o33.set t26.toNat t26), (o89, ())))))
              else bif (decide ((0 : Int) ≤ (IntKind.wrap .i64 ((o139.length : Int) - (1 : Int))))) then bif (decide ((IntKind.wrap .i64 ((o139.length : Int) - (1 : Int))) < (o139.length : Int))) then bif (decide ((gt o139 (IntKind.wrap .i64 ((o139.length : Int) - (1 : Int)))) > (64 : Int))) then some (.inl (false, ([], ((o33.set t26.toNat t26), (o89, ())))))
                 else rec ((IntKind.wrap .i64 (t26 + (1 : Int))), ((o136 ++ (t26 :: [])), (o137, (o138, (o139, ((o33.set t26.toNat t26), (o89, ())))))))
                else none
               else none
            else none
           else bif (decide ((gt t24 t26).1 = (5 : Int))) then bif (decide (((o136.length + 1) * 8) ≤ 140737488351232)) then bif (decide ((gt t24 t26).1 = (5 : Int))) then bif (decide (((o137.length + 1) * 8) ≤ 140737488351232)) then bif (decide (((o138.length + 1) * 24) ≤ 140737488351232)) then bif (decide ((0 : Int) ≤ (IntKind.wrap .i64 ((o139.length : Int) - (1 : Int))))) then bif (decide ((IntKind.wrap .i64 ((o139.length : Int) - (1 : Int))) < (o139.length : Int))) then bif (decide (((o139.length + 1) * 8) ≤ 140737488351232)) then bif (decide (((o136 ++ (t26 :: [])).length : Int) > (4 : Int))) then some (.inl (false, ([], ((o33.set t26.toNat t26), (o89, ())))))
                    else bif (decide ((0 : Int) ≤ (IntKind.wrap .i64 (((o139 ++ ((IntKind.wrap .i64 ((gt o139 (IntKind.wrap .i64 ((o139.length : Int) - (1 : Int)))) * (gt t24 t26).2.2.2.2)) :: [])).length : Int) - (1 : Int))))) then bif (decide ((IntKind.wrap .i64 (((o139 ++ ((IntKind.wrap .i64 ((gt o139 (IntKind.wrap .i64 ((o139.length : Int) - (1 : Int)))) * (gt t24 t26).2.2.2.2)) :: [])).length : Int) - (1 : Int))) < ((o139 ++ ((IntKind.wrap .i64 ((gt o139 (IntKind.wrap .i64 ((o139.length : Int) - (1 : Int)))) * (gt t24 t26).2.2.2.2)) :: [])).length : Int))) then bif (decide ((gt (o139 ++ ((IntKind.wrap .i64 ((gt o139 (IntKind.wrap .i64 ((o139.length : Int) - (1 : Int)))) * (gt t24 t26).2.2.2.2)) :: [])) (IntKind.wrap .i64 (((o139 ++ ((IntKind.wrap .i64 ((gt o139 (IntKind.wrap .i64 ((o139.length : Int) - (1 : Int)))) * (gt t24 t26).2.2.2.2)) :: [])).length : Int) - (1 : Int)))) > (64 : Int))) then some (.inl (false, ([], ((o33.set t26.toNat t26), (o89, ())))))
                       else rec ((IntKind.wrap .i64 (t26 + (1 : Int))), ((o136 ++ (t26 :: [])), ((o137 ++ (t26 :: [])), ((o138 ++ ([] :: [])), ((o139 ++ ((IntKind.wrap .i64 ((gt o139 (IntKind.wrap .i64 ((o139.length : Int) - (1 : Int)))) * (gt t24 t26).2.2.2.2)) :: [])), ((o33.set t26.toNat t26), (o89, ())))))))
                      else none
                     else none
                   else none
                  else none
                 else none
                else none
               else none
              else bif (decide (((o136 ++ (t26 :: [])).length : Int) > (4 : Int))) then some (.inl (false, ([], ((o33.set t26.toNat t26), (o89, ())))))
               else bif (decide ((0 : Int) ≤ (IntKind.wrap .i64 ((o139.length : Int) - (1 : Int))))) then bif (decide ((IntKind.wrap .i64 ((o139.length : Int) - (1 : Int))) < (o139.length : Int))) then bif (decide ((gt o139 (IntKind.wrap .i64 ((o139.length : Int) - (1 : Int)))) > (64 : Int))) then some (.inl (false, ([], ((o33.set t26.toNat t26), (o89, ())))))
                  else rec ((IntKind.wrap .i64 (t26 + (1 : Int))), ((o136 ++ (t26 :: [])), (o137, (o138, (o139, ((o33.set t26.toNat t26), (o89, ())))))))
                 else none
                else none
             else none
            else bif (decide ((gt t24 t26).1 = (3 : Int))) then bif (decide ((IntKind.wrap .i64 ((o136.length : Int) - (1 : Int))) < (0 : Int))) then some (.inl (false, ([], ((o33.set t26.toNat t26), (o89, ())))))
              else bif (decide ((0 : Int) ≤ (IntKind.wrap .i64 ((o136.length : Int) - (1 : Int))))) then bif (decide ((IntKind.wrap .i64 ((o136.length : Int) - (1 : Int))) < (o136.length : Int))) then bif (decide ((0 : Int) ≤ (gt o136 (IntKind.wrap .i64 ((o136.length : Int) - (1 : Int)))))) then bif (decide ((gt o136 (IntKind.wrap .i64 ((o136.length : Int) - (1 : Int)))) < (lines1.length : Int))) then bif (!(decide ((gt lines1 (gt o136 (IntKind.wrap .i64 ((o136.length : Int) - (1 : Int))))).1 = (2 : Int)))) then some (.inl (false, ([], ((o33.set t26.toNat t26), (o89, ())))))
                   else bif (decide ((0 : Int) ≤ (IntKind.wrap .i64 ((o136.length : Int) - (1 : Int))))) then bif (decide ((IntKind.wrap .i64 ((o136.length : Int) - (1 : Int))) < (o136.length : Int))) then bif (mget o89 (gt o136 (IntKind.wrap .i64 ((o136.length : Int) - (1 : Int))))) then some (.inl (false, ([], ((o33.set t26.toNat t26), (o89, ())))))
                      else bif (decide ((0 : Int) ≤ (IntKind.wrap .i64 ((o136.length : Int) - (1 : Int))))) then bif (decide ((IntKind.wrap .i64 ((o136.length : Int) - (1 : Int))) < (o136.length : Int))) then bif (decide ((0 : Int) ≤ (IntKind.wrap .i64 ((o136.length : Int) - (1 : Int))))) then bif (decide ((IntKind.wrap .i64 ((o136.length : Int) - (1 : Int))) < (o136.length : Int))) then bif (decide ((0 : Int) ≤ (gt o136 (IntKind.wrap .i64 ((o136.length : Int) - (1 : Int)))))) then bif (decide ((gt o136 (IntKind.wrap .i64 ((o136.length : Int) - (1 : Int)))) < ((o33.set t26.toNat t26).length : Int))) then bif (decide ((o136.length : Int) > (4 : Int))) then some (.inl (false, ([], (((o33.set t26.toNat t26).set (gt o136 (IntKind.wrap .i64 ((o136.length : Int) - (1 : Int)))).toNat t26), ((mput o89 (gt o136 (IntKind.wrap .i64 ((o136.length : Int) - (1 : Int)))) true), ())))))
                             else bif (decide ((0 : Int) ≤ (IntKind.wrap .i64 ((o139.length : Int) - (1 : Int))))) then bif (decide ((IntKind.wrap .i64 ((o139.length : Int) - (1 : Int))) < (o139.length : Int))) then bif (decide ((gt o139 (IntKind.wrap .i64 ((o139.length : Int) - (1 : Int)))) > (64 : Int))) then some (.inl (false, ([], (((o33.set t26.toNat t26).set (gt o136 (IntKind.wrap .i64 ((o136.length : Int) - (1 : Int)))).toNat t26), ((mput o89 (gt o136 (IntKind.wrap .i64 ((o136.length : Int) - (1 : Int)))) true), ())))))
                                else rec ((IntKind.wrap .i64 (t26 + (1 : Int))), (o136, (o137, (o138, (o139, (((o33.set t26.toNat t26).set (gt o136 (IntKind.wrap .i64 ((o136.length : Int) - (1 : Int)))).toNat t26), ((mput o89 (gt o136 (IntKind.wrap .i64 ((o136.length : Int) - (1 : Int)))) true), ())))))))
                               else none
                              else none
                            else none
                           else none
                          else none
                         else none
                        else none
                       else none
                     else none
                    else none
                  else none
                 else none
                else none
               else none
             else bif (decide ((gt t24 t26).1 = (4 : Int))) then bif (decide ((IntKind.wrap .i64 ((o136.length : Int) - (1 : Int))) < (0 : Int))) then some (.inl (false, ([], ((o33.set t26.toNat t26), (o89, ())))))
               else bif (decide ((0 : Int) ≤ (IntKind.wrap .i64 ((o136.length : Int) - (1 : Int))))) then bif (decide ((IntKind.wrap .i64 ((o136.length : Int) - (1 : Int))) < (o136.length : Int))) then bif (decide ((0 : Int) ≤ t26)) then bif (decide (t26 < ((o33.set t26.toNat t26).length : Int))) then bif (decide ((0 : Int) ≤ (gt o136 (IntKind.wrap .i64 ((o136.length : Int) - (1 : Int)))))) then bif (decide ((gt o136 (IntKind.wrap .i64 ((o136.length : Int) - (1 : Int)))) < (lines1.length : Int))) then bif (decide ((gt lines1 (gt o136 (IntKind.wrap .i64 ((o136.length : Int) - (1 : Int))))).1 = (5 : Int))) then bif (decide ((0 : Int) ≤ (gt o136 (IntKind.wrap .i64 ((o136.length : Int) - (1 : Int)))))) then bif (decide ((gt o136 (IntKind.wrap .i64 ((o136.length : Int) - (1 : Int)))) < (((o33.set t26.toNat t26).set t26.toNat (gt o136 (IntKind.wrap .i64 ((o136.length : Int) - (1 : Int))))).length : Int))) then bif (decide ((0 : Int) ≤ (IntKind.wrap .i64 ((o137.length : Int) - (1 : Int))))) then bif (decide ((IntKind.wrap .i64 ((o137.length : Int) - (1 : Int))) < (o138.length : Int))) then (itN (n_impl_paired_2 N (t26, ((IntKind.wrap .i64 ((o137.length : Int) - (1 : Int))), (((gt o138 (IntKind.wrap .i64 ((o137.length : Int) - (1 : Int)))).length : Int), (o138, ()))))) N ((0 : Int), ((((o33.set t26.toNat t26).set t26.toNat (gt o136 (IntKind.wrap .i64 ((o136.length : Int) - (1 : Int))))).set (gt o136 (IntKind.wrap .i64 ((o136.length : Int) - (1 : Int)))).toNat t26), ()))).bind fun r121 =>
                           bif (decide ((0 : Int) ≤ (IntKind.wrap .i64 ((o137.length : Int) - (1 : Int))))) then bif (decide ((IntKind.wrap .i64 ((o137.length : Int) - (1 : Int))) ≤ (o137.length : Int))) then bif (decide ((0 : Int) ≤ (IntKind.wrap .i64 ((o137.length : Int) - (1 : Int))))) then bif (decide ((IntKind.wrap .i64 ((o137.length : Int) - (1 : Int))) ≤ (o138.length : Int))) then bif (decide ((0 : Int) ≤ (IntKind.wrap .i64 ((o139.length : Int) - (1 : Int))))) then bif (decide ((IntKind.wrap .i64 ((o139.length : Int) - (1 : Int))) ≤ (o139.length : Int))) then bif (decide ((0 : Int) ≤ (IntKind.wrap .i64 ((o136.length : Int) - (1 : Int))))) then bif (decide ((IntKind.wrap .i64 ((o136.length : Int) - (1 : Int))) ≤ (o136.length : Int))) then bif (decide ((IntKind.wrap .i64 ((o136.length : Int) - (1 : Int))) > (4 : Int))) then some (.inl (false, ([], (r121.1, (o89, ())))))
                                    else bif (decide ((0 : Int) ≤ (IntKind.wrap .i64 ((IntKind.wrap .i64 ((o139.length : Int) - (1 : Int))) - (1 : Int))))) then bif (decide ((IntKind.wrap .i64 ((IntKind.wrap .i64 ((o139.length : Int) - (1 : Int))) - (1 : Int))) < (IntKind.wrap .i64 ((o139.length : Int) - (1 : Int))))) then bif (decide ((gt o139 (IntKind.wrap .i64 ((IntKind.wrap .i64 ((o139.length : Int) - (1 : Int))) - (1 : Int)))) > (64 : Int))) then some (.inl (false, ([], (r121.1, (o89, ())))))
                                       else rec ((IntKind.wrap .i64 (t26 + (1 : Int))), ((o136.take (IntKind.wrap .i64 ((o136.length : Int) - (1 : Int))).toNat), ((o137.take (IntKind.wrap .i64 ((o137.length : Int) - (1 : Int))).toNat), ((o138.take (IntKind.wrap .i64 ((o137.length : Int) - (1 : Int))).toNat), ((o139.take (IntKind.wrap .i64 ((o139.length : Int) - (1 : Int))).toNat), (r121.1, (o89, ())))))))
                                      else none
                                     else none
                                   else none
                                  else none
                                 else none
                                else none
                               else none
                              else none
                             else none
                            else none
                          else none
                         else none
                        else none
                       else none
                      else bif (mget o89 (gt o136 (IntKind.wrap .i64 ((o136.length : Int) - (1 : Int))))) then bif (decide ((0 : Int) ≤ (gt o136 (IntKind.wrap .i64 ((o136.length : Int) - (1 : Int)))))) then bif (decide ((gt o136 (IntKind.wrap .i64 ((o136.length : Int) - (1 : Int)))) < (((o33.set t26.toNat t26).set t26.toNat (gt o136 (IntKind.wrap .i64 ((o136.length : Int) - (1 : Int))))).length : Int))) then bif (decide ((0 : Int) ≤ (gt ((o33.set t26.toNat t26).set t26.toNat (gt o136 (IntKind.wrap .i64 ((o136.length : Int) - (1 : Int))))) (gt o136 (IntKind.wrap .i64 ((o136.length : Int) - (1 : Int))))))) then bif (decide ((gt ((o33.set t26.toNat t26).set t26.toNat (gt o136 (IntKind.wrap .i64 ((o136.length : Int) - (1 : Int))))) (gt o136 (IntKind.wrap .i64 ((o136.length : Int) - (1 : Int))))) < (((o33.set t26.toNat t26).set t26.toNat (gt o136 (IntKind.wrap .i64 ((o136.length : Int) - (1 : Int))))).length : Int))) then bif (decide ((0 : Int) ≤ (IntKind.wrap .i64 ((o136.length : Int) - (1 : Int))))) then bif (decide ((IntKind.wrap .i64 ((o136.length : Int) - (1 : Int))) ≤ (o136.length : Int))) then bif (decide ((IntKind.wrap .i64 ((o136.length : Int) - (1 : Int))) > (4 : Int))) then some (.inl (false, ([], ((((o33.set t26.toNat t26).set t26.toNat (gt o136 (IntKind.wrap .i64 ((o136.length : Int) - (1 : Int))))).set (gt ((o33.set t26.toNat t26).set t26.toNat (gt o136 (IntKind.wrap .i64 ((o136.length : Int) - (1 : Int))))) (gt o136 (IntKind.wrap .i64 ((o136.length : Int) - (1 : Int))))).toNat t26), (o89, ())))))
                              else bif (decide ((0 : Int) ≤ (IntKind.wrap .i64 ((o139.length : Int) - (1 : Int))))) then bif (decide ((IntKind.wrap .i64 ((o139.length : Int) - (1 : Int))) < (o139.length : Int))) then bif (decide ((gt o139 (IntKind.wrap .i64 ((o139.length : Int) - (1 : Int)))) > (64 : Int))) then some (.inl (false, ([], ((((o33.set t26.toNat t26).set t26.toNat (gt o136 (IntKind.wrap .i64 ((o136.length : Int) - (1 : Int))))).set (gt ((o33.set t26.toNat t26).set t26.toNat (gt o136 (IntKind.wrap .i64 ((o136.length : Int) - (1 : Int))))) (gt o136 (IntKind.wrap .i64 ((o136.length : Int) - (1 : Int))))).toNat t26), (o89, ())))))
                                 else rec ((IntKind.wrap .i64 (t26 + (1 : Int))), ((o136.take (IntKind.wrap .i64 ((o136.length : Int) - (1 : Int))).toNat), (o137, (o138, (o139, ((((o33.set t26.toNat t26).set t26.toNat (gt o136 (IntKind.wrap .i64 ((o136.length : Int) - (1 : Int))))).set (gt ((o33.set t26.toNat t26).set t26.toNat (gt o136 (IntKind.wrap .i64 ((o136.length : Int) - (1 : Int))))) (gt o136 (IntKind.wrap .i64 ((o136.length : Int) - (1 : Int))))).toNat t26), (o89, ())))))))
                                else none
                               else none
                             else none
                            else none
                           else none
                          else none
                         else none
                        else none
                       else bif (decide ((0 : Int) ≤ (gt o136 (IntKind.wrap .i64 ((o136.length : Int) - (1 : Int)))))) then bif (decide ((gt o136 (IntKind.wrap .i64 ((o136.length : Int) - (1 : Int)))) < (((o33.set t26.toNat t26).set t26.toNat (gt o136 (IntKind.wrap .i64 ((o136.length : Int) - (1 : Int))))).length : Int))) then bif (decide ((0 : Int) ≤ (IntKind.wrap .i64 ((o136.length : Int) - (1 : Int))))) then bif (decide ((IntKind.wrap .i64 ((o136.length : Int) - (1 : Int))) ≤ (o136.length : Int))) then bif (decide ((IntKind.wrap .i64 ((o136.length : Int) - (1 : Int))) > (4 : Int))) then some (.inl (false, ([], ((((o33.set t26.toNat t26).set t26.toNat (gt o136 (IntKind.wrap .i64 ((o136.length : Int) - (1 : Int))))).set (gt o136 (IntKind.wrap .i64 ((o136.length : Int) - (1 : Int)))).toNat t26), (o89, ())))))
                            else bif (decide ((0 : Int) ≤ (IntKind.wrap .i64 ((o139.length : Int) - (1 : Int))))) then bif (decide ((IntKind.wrap .i64 ((o139.length : Int) - (1 : Int))) < (o139.length : Int))) then bif (decide ((gt o139 (IntKind.wrap .i64 ((o139.length : Int) - (1 : Int)))) > (64 : Int))) then some (.inl (false, ([], ((((o33.set t26.toNat t26).set t26.toNat (gt o136 (IntKind.wrap .i64 ((o136.length : Int) - (1 : Int))))).set (gt o136 (IntKind.wrap .i64 ((o136.length : Int) - (1 : Int)))).toNat t26), (o89, ())))))
                               else rec ((IntKind.wrap .i64 (t26 + (1 : Int))), ((o136.take (IntKind.wrap .i64 ((o136.length : Int) - (1 : Int))).toNat), (o137, (o138, (o139, ((((o33.set t26.toNat t26).set t26.toNat (gt o136 (IntKind.wrap .i64 ((o136.length : Int) - (1 : Int))))).set (gt o136 (IntKind.wrap .i64 ((o136.length : Int) - (1 : Int)))).toNat t26), (o89, ())))))))
                              else none
                             else none
                           else none
                          else none
                         else none
                        else none
                     else none
                    else none
                   else none
                  else none
                 else none
                else none
              else bif (decide ((gt t24 t26).1 = (6 : Int))) then bif (decide ((o137.length : Int) = (0 : Int))) then some (.inl (false, ([], ((o33.set t26.toNat t26), (o89, ())))))
                else bif (decide ((0 : Int) ≤ (IntKind.wrap .i64 ((o137.length : Int) - (1 : Int))))) then bif (decide ((IntKind.wrap .i64 ((o137.length : Int) - (1 : Int))) < (o138.length : Int))) then bif (decide ((((gt o138 (IntKind.wrap .i64 ((o137.length : Int) - (1 : Int)))).length + 1) * 8) ≤ 140737488351232)) then bif (decide ((0 : Int) ≤ (IntKind.wrap .i64 ((o137.length : Int) - (1 : Int))))) then bif (decide ((IntKind.wrap .i64 ((o137.length : Int) - (1 : Int))) < (o138.length : Int))) then bif (decide ((IntKind.wrap .i64 ((o137.length : Int) - (1 : Int))) = (IntKind.wrap .i64 ((o137.length : Int) - (1 : Int))))) then bif (decide ((o136.length : Int) > (4 : Int))) then some (.inl (false, ([], ((o33.set t26.toNat t26), (o89, ())))))
                       else bif (decide ((0 : Int) ≤ (IntKind.wrap .i64 ((o139.length : Int) - (1 : Int))))) then bif (decide ((IntKind.wrap .i64 ((o139.length : Int) - (1 : Int))) < (o139.length : Int))) then bif (decide ((gt o139 (IntKind.wrap .i64 ((o139.length : Int) - (1 : Int)))) > (64 : Int))) then some (.inl (false, ([], ((o33.set t26.toNat t26), (o89, ())))))
                          else rec ((IntKind.wrap .i64 (t26 + (1 : Int))), (o136, (o137, ((o138.set (IntKind.wrap .i64 ((o137.length : Int) - (1 : Int))).toNat ((gt o138 (IntKind.wrap .i64 ((o137.length : Int) - (1 : Int)))) ++ (t26 :: []))), (o139, ((o33.set t26.toNat t26), (o89, ())))))))
                         else none
                        else none
                      else none
                     else none
                    else none
                   else none
                  else none
                 else none
               else bif (decide ((o136.length : Int) > (4 : Int))) then some (.inl (false, ([], ((o33.set t26.toNat t26), (o89, ())))))
                else bif (decide ((0 : Int) ≤ (IntKind.wrap .i64 ((o139.length : Int) - (1 : Int))))) then bif (decide ((IntKind.wrap .i64 ((o139.length : Int) - (1 : Int))) < (o139.length : Int))) then bif (decide ((gt o139 (IntKind.wrap .i64 ((o139.length : Int) - (1 : Int)))) > (64 : Int))) then some (.inl (false, ([], ((o33.set t26.toNat t26), (o89, ())))))
                   else rec ((IntKind.wrap .i64 (t26 + (1 : Int))), (o136, (o137, (o138, (o139, ((o33.set t26.toNat t26), (o89, ())))))))
                  else none
                 else none
        else none
       else none
      else none
     else none
    else some (.inr (o136, (o33, (o89, ()))))
theorem s_impl_paired_0 (N : Nat) : ∀ σ p rec v, stepL (rn drawR (mkB (C92 N) [] [(56, [(4, g_impl_paired_2 N)])] [] []) 8 56 b56_0) 0 (wr b56_0) d_impl_paired_0 (instP σ d_impl_paired_0.pm p) rec v = n_impl_paired_0 N p rec v := by
  rintro σ ⟨bits0, lines1, t24, t25, _⟩ rec ⟨t26, o136, o137, o138, o139, o33, o89, _⟩; kernel_rfl
noncomputable def g_impl_paired_0 (N : Nat) : St (Sig.T SS) → Tr (Ex × St (Sig.T SS)) := orcL (wr b56_0) d_impl_paired_0 fun p => itN (n_impl_paired_0 N p) N
theorem o_impl_paired_0 (N : Nat) : Snd QQ (g_impl_paired_0 N) (.block 0 (blkOf 0 (blks c56))) := loopP LL DR_ok (KC92 N) (F := []) (J := [(56, [(4, g_impl_paired_2 N)])]) (FGood.nil _) (M := []) (R := []) i56 (JGood.cons i56.hd (o_impl_paired_2 N) (JGood.nil c56)) e56_0 (s_impl_paired_0 N) N
/-- loop.example/g01139/impl.paired -/
def F_impl_paired (N : Nat) : Int × (List (Int × Int × Int × Int × Int)) × Unit → Option (List (Int) × Bool × Unit)
  | (bits0, lines1, _) =>
    bif (decide ((lines1.length : Int) ≤ (lines1.length : Int))) then bif (decide (((lines1.length : Int) * (8 : Int)) ≤ (140737488351232 : Int))) then (itN (n_impl_paired_0 N (bits0, (lines1, (lines1, ((lines1.length : Int), ()))))) N ((0 : Int), ([], ([], ([], (((1 : Int) :: []), ((List.replicate (lines1.length : Int).toNat (0 : Int)), ([], ())))))))).bind fun r122 =>
      bif r122.isLeft then r122.getLeft?.bind fun r123 =>
        some (r123.2.1, (r123.1, ()))
       else r122.getRight?.bind fun r124 =>
        some (r124.2.1, ((decide ((r124.1.length : Int) = (0 : Int))), ()))
     else none
    else none
theorem t56 (N : Nat) : ∀ v, (fr drawR (mkB (C92 N) [] [(56, [(4, g_impl_paired_2 N), (0, g_impl_paired_0 N)])] [] []) 8 56 Try.f56 (instA [.c (.int .i64), .c (.ls 63)] v)).k (matR [.c (.ls 2), .c (.bool)]) = F_impl_paired N v := by
  rintro ⟨bits0, lines1, _⟩; kernel_rfl
noncomputable def C56 (N : Nat) : CL SS := (56, conG [.c (.int .i64), .c (.ls 63)] [.c (.ls 2), .c (.bool)] (F_impl_paired N)) :: C92 N
theorem KC56 (N : Nat) : COk QQ (C56 N) := COk.cons (conP LL DR_ok (KC92 N) (F := []) (J := [(56, [(4, g_impl_paired_2 N), (0, g_impl_paired_0 N)])]) (FGood.nil _) (M := []) (R := []) i56 (JGood.cons i56.hd (o_impl_paired_2 N) (JGood.cons i56.hd (o_impl_paired_0 N) (JGood.nil c56))) (t56 N)) (KC92 N)
noncomputable def c16 : Code := Try.f16.body.getD .skip
theorem i16 : IsF Try.prog 16 Try.f16 c16 := ⟨Try.func16, by kernel_rfl, by kernel_rfl, by kernel_rfl⟩
/-- loop.example/g01139/impl.ValidLines -/
def F_impl_ValidLines (N : Nat) : Int × (List (Int × Int × Int × Int × Int)) × Unit → Option (Bool × Unit)
  | (bits0, lines1, _) =>
    (F_impl_isBits N (bits0, ())).bind fun r125 =>
    bif (!r125.1) then some (false, ())
     else bif (decide ((lines1.length : Int) > (24 : Int))) then some (false, ())
      else (F_impl_paired N (bits0, (lines1, ()))).bind fun r126 =>
       some (r126.2.1, ())
theorem t16 (N : Nat) : ∀ v, (fr drawR (mkB (C56 N) [] [] [] []) 8 16 Try.f16 (instA [.c (.int .i64), .c (.ls 63)] v)).k (matR [.c (.bool)]) = F_impl_ValidLines N v := by
  rintro ⟨bits0, lines1, _⟩; kernel_rfl
noncomputable def C16 (N : Nat) : CL SS := (16, conG [.c (.int .i64), .c (.ls 63)] [.c (.bool)] (F_impl_ValidLines N)) :: C56 N
theorem KC16 (N : Nat) : COk QQ (C16 N) := COk.cons (conP LL DR_ok (KC56 N) (F := []) (J := []) (FGood.nil _) (M := []) (R := []) i16 (JGood.nil c16) (t16 N)) (KC56 N)
noncomputable def c76 : Code := Try.f76.body.getD .skip
theorem i76 : IsF Try.prog 76 Try.f76 c76 := ⟨Try.func76, by kernel_rfl, by kernel_rfl, by kernel_rfl⟩
noncomputable def c109 : Code := Try.f109.body.getD .skip
theorem i109 : IsF Try.prog 109 Try.f109 c109 := ⟨Try.func109, by kernel_rfl, by kernel_rfl, by kernel_rfl⟩
noncomputable def c100 : Code := Try.f100.body.getD .skip
theorem i100 : IsF Try.prog 100 Try.f100 c100 := ⟨Try.func100, by kernel_rfl, by kernel_rfl, by kernel_rfl⟩
noncomputable def c139 : Code := Try.f139.body.getD .skip
theorem i139 : IsF Try.prog 139 Try.f139 c139 := ⟨Try.func139, by kernel_rfl, by kernel_rfl, by kernel_rfl⟩
noncomputable def c138 : Code := Try.f138.body.getD .skip
theorem i138 : IsF Try.prog 138 Try.f138 c138 := ⟨Try.func138, by kernel_rfl, by kernel_rfl, by kernel_rfl⟩
noncomputable def c155 : Code := Try.f155.body.getD .skip
theorem i155 : IsF Try.prog 155 Try.f155 c155 := ⟨Try.func155, by kernel_rfl, by kernel_rfl, by kernel_rfl⟩
noncomputable def b155_0 : Code := unLoop (blkOf 0 (blks c155))
theorem e155_0 : blkOf 0 (blks c155) = .loop b155_0 := by kernel_rfl
-- slices.IndexFunc[[]int64,int64]: loop 0
def d_impl_areVars_0 : LoopD := ⟨160, ⟨[(0, .c (.rd 2 [(0, 0)])), (1, .c (.fn 139 [65])), (7, .c (.int .i64))], [(0, 0, .ext), (65, 65, .var 66 [.fn 109 [1]]), (1, 1, .var 2 [.int .i64])], 19⟩, ⟨[(8, .c (.int .i64))], [], 168⟩, [], [0, 65, 1], [⟨.ret, ⟨[(4, .c (.int .i64))], [], 168⟩, [], [0, 65, 1]⟩, ⟨.norm, ⟨[], [], 168⟩, [], [0, 65, 1]⟩]⟩
def n_impl_areVars_0 (N : Nat) : List (Int) × Int × Int × Unit → (Int × Unit → Option ((Int × Unit) ⊕ (Unit))) → Int × Unit → Option ((Int × Unit) ⊕ (Unit))
  | (s0, t7, p1, _), rec, (t8, _) =>
    bif (decide (t8 < t7)) then bif (decide ((0 : Int) ≤ t8)) then bif (decide (t8 < (s0.length : Int))) then (F_impl_IsWord N (p1, ((gt s0 t8), ()))).bind fun r127 =>
       bif (!r127.1) then some (.inl (t8, ()))
        else rec ((IntKind.wrap .i64 (t8 + (1 : Int))), ())
      else none
     else none
    else some (.inr ())
theorem s_impl_areVars_0 (N : Nat) : ∀ σ p rec v, stepL (rn drawR (mkB (C16 N) [(109, Try.f109), (100, Try.f100), (139, Try.f139), (138, Try.f138), (155, Try.f155)] [] [] []) 8 155 b155_0) 0 (wr b155_0) d_impl_areVars_0 (instP σ d_impl_areVars_0.pm p) rec v = n_impl_areVars_0 N p rec v := by
  rintro σ ⟨s0, t7, p1, _⟩ rec ⟨t8, _⟩; kernel_rfl
noncomputable def g_impl_areVars_0 (N : Nat) : St (Sig.T SS) → Tr (Ex × St (Sig.T SS)) := orcL (wr b155_0) d_impl_areVars_0 fun p => itN (n_impl_areVars_0 N p) N
theorem o_impl_areVars_0 (N : Nat) : Snd QQ (g_impl_areVars_0 N) (.block 0 (blkOf 0 (blks c155))) := loopP LL DR_ok (KC16 N) (F := [(109, Try.f109), (100, Try.f100), (139, Try.f139), (138, Try.f138), (155, Try.f155)]) (J := []) (FGood.cons i109 (JGood.nil c109) (FGood.cons i100 (JGood.nil c100) (FGood.cons i139 (JGood.nil c139) (FGood.cons i138 (JGood.nil c138) (FGood.cons i155 (JGood.nil c155) (FGood.nil _)))))) (M := []) (R := []) i155 (JGood.nil c155) e155_0 (s_impl_areVars_0 N) N
/-- loop.example/g01139/impl.areVars -/
def F_impl_areVars (N : Nat) : Int × List (Int) × Unit → Option (Bool × Unit)
  | (bits0, vars1, _) =>
    bif (decide ((vars1.length : Int) = (8 : Int))) then (itN (n_impl_areVars_0 N (vars1, ((vars1.length : Int), (bits0, ())))) N ((0 : Int), ())).bind fun r128 =>
     bif r128.isLeft then r128.getLeft?.bind fun r129 =>
       some ((!(decide (r129.1 ≥ (0 : Int)))), ())
      else r128.getRight?.bind fun r130 =>
       some ((!(decide ((-(1 : Int)) ≥ (0 : Int)))), ())
    else some (false, ())
theorem t76 (N : Nat) : ∀ v, (fr drawR (mkB (C16 N) [(109, Try.f109), (100, Try.f100), (139, Try.f139), (138, Try.f138), (155, Try.f155)] [(155, [(0, g_impl_areVars_0 N)])] [] []) 8 76 Try.f76 (instA [.c (.int .i64), .c (.ls 2)] v)).k (matR [.c (.bool)]) = F_impl_areVars N v := by
  rintro ⟨bits0, vars1, _⟩; kernel_rfl
noncomputable def C76 (N : Nat) : CL SS := (76, conG [.c (.int .i64), .c (.ls 2)] [.c (.bool)] (F_impl_areVars N)) :: C16 N
theorem KC76 (N : Nat) : COk QQ (C76 N) := COk.cons (conP LL DR_ok (KC16 N) (F := [(109, Try.f109), (100, Try.f100), (139, Try.f139), (138, Try.f138), (155, Try.f155)]) (J := [(155, [(0, g_impl_areVars_0 N)])]) (FGood.cons i109 (JGood.nil c109) (FGood.cons i100 (JGood.nil c100) (FGood.cons i139 (JGood.nil c139) (FGood.cons i138 (JGood.nil c138) (FGood.cons i155 (JGood.cons i155.hd (o_impl_areVars_0 N) (JGood.nil c155)) (FGood.nil _)))))) (M := []) (R := []) i76 (JGood.nil c76) (t76 N)) (KC16 N)
noncomputable def c65 : Code := Try.f65.body.getD .skip
theorem i65 : IsF Try.prog 65 Try.f65 c65 := ⟨Try.func65, by kernel_rfl, by kernel_rfl, by kernel_rfl⟩
/-- slices.Clone[[]int64,int64] -/
def F_slices_Clone___int64_int64_ (N : Nat) : List (Int) × Unit → Option (List (Int) × Unit)
  | (s0, _) =>
    bif (decide (s0.length = 0)) then none
    else bif (decide (((0 + s0.length) * 8) ≤ 140737488351232)) then some (s0, ())
     else none
theorem t65 (N : Nat) : ∀ v, (fr drawR (mkB (C76 N) [] [] [] []) 8 65 Try.f65 (instA [.c (.ls 2)] v)).k (matR [.c (.ls 2)]) = F_slices_Clone___int64_int64_ N v := by
  rintro ⟨s0, _⟩; kernel_rfl
noncomputable def C65 (N : Nat) : CL SS := (65, conG [.c (.ls 2)] [.c (.ls 2)] (F_slices_Clone___int64_int64_ N)) :: C76 N
theorem KC65 (N : Nat) : COk QQ (C65 N) := COk.cons (conP LL DR_ok (KC76 N) (F := []) (J := []) (FGood.nil _) (M := []) (R := []) i65 (JGood.nil c65) (t65 N)) (KC76 N)
noncomputable def c145 : Code := Try.f145.body.getD .skip
theorem i145 : IsF Try.prog 145 Try.f145 c145 := ⟨Try.func145, by kernel_rfl, by kernel_rfl, by kernel_rfl⟩
/-- loop.example/g01139/impl.signedOf -/
def F_impl_signedOf (N : Nat) : Int × Int × Unit → Option (Int × Unit)
  | (bits0, x1, _) =>
    bif (decide ((0 : Int) ≤ (IntKind.wrap .i64 (bits0 - (1 : Int))))) then bif (decide (x1 < (shlI .i64 (1 : Int) (IntKind.wrap .i64 (bits0 - (1 : Int)))))) then some (x1, ())
     else bif (decide ((0 : Int) ≤ bits0)) then some ((IntKind.wrap .i64 (x1 - (shlI .i64 (1 : Int) bits0))), ())
      else none
    else none
theorem t145 (N : Nat) : ∀ v, (fr drawR (mkB (C65 N) [] [] [] []) 8 145 Try.f145 (instA [.c (.int .i64), .c (.int .i64)] v)).k (matR [.c (.int .i64)]) = F_impl_signedOf N v := by
  rintro ⟨bits0, x1, _⟩; kernel_rfl
noncomputable def C145 (N : Nat) : CL SS := (145, conG [.c (.int .i64), .c (.int .i64)] [.c (.int .i64)] (F_impl_signedOf N)) :: C65 N
theorem KC145 (N : Nat) : COk QQ (C145 N) := COk.cons (conP LL DR_ok (KC65 N) (F := []) (J := []) (FGood.nil _) (M := []) (R := []) i145 (JGood.nil c145) (t145 N)) (KC65 N)
noncomputable def c166 : Code := Try.f166.body.getD .skip
theorem i166 : IsF Try.prog 166 Try.f166 c166 := ⟨Try.func166, by kernel_rfl, by kernel_rfl, by kernel_rfl⟩
/-- loop.example/g01139/impl.wrapped -/
def F_impl_wrapped (N : Nat) : Int × Int × Unit → Option (Int × Unit)
  | (bits0, n1, _) =>
    bif (decide ((0 : Int) ≤ bits0)) then some ((andI .i64 n1 (IntKind.wrap .i64 ((shlI .i64 (1 : Int) bits0) - (1 : Int)))), ())
    else none
theorem t166 (N : Nat) : ∀ v, (fr drawR (mkB (C145 N) [] [] [] []) 8 166 Try.f166 (instA [.c (.int .i64), .c (.int .i64)] v)).k (matR [.c (.int .i64)]) = F_impl_wrapped N v := by
  rintro ⟨bits0, n1, _⟩; kernel_rfl
noncomputable def C166 (N : Nat) : CL SS := (166, conG [.c (.int .i64), .c (.int .i64)] [.c (.int .i64)] (F_impl_wrapped N)) :: C145 N
theorem KC166 (N : Nat) : COk QQ (C166 N) := COk.cons (conP LL DR_ok (KC145 N) (F := []) (J := []) (FGood.nil _) (M := []) (R := []) i166 (JGood.nil c166) (t166 N)) (KC145 N)
noncomputable def c167 : Code := Try.f167.body.getD .skip
theorem i167 : IsF Try.prog 167 Try.f167 c167 := ⟨Try.func167, by kernel_rfl, by kernel_rfl, by kernel_rfl⟩
/-- loop.example/g01139/impl.pick -/
def F_impl_pick (N : Nat) : Bool × Int × Int × Unit → Option (Int × Unit)
  | (is0, a1, b2, _) =>
    bif is0 then some (a1, ())
    else some (b2, ())
theorem t167 (N : Nat) : ∀ v, (fr drawR (mkB (C166 N) [] [] [] []) 8 167 Try.f167 (instA [.c (.bool), .c (.int .i64), .c (.int .i64)] v)).k (matR [.c (.int .i64)]) = F_impl_pick N v := by
  rintro ⟨is0, a1, b2, _⟩; kernel_rfl
noncomputable def C167 (N : Nat) : CL SS := (167, conG [.c (.bool), .c (.int .i64), .c (.int .i64)] [.c (.int .i64)] (F_impl_pick N)) :: C166 N
theorem KC167 (N : Nat) : COk QQ (C167 N) := COk.cons (conP LL DR_ok (KC166 N) (F := []) (J := []) (FGood.nil _) (M := []) (R := []) i167 (JGood.nil c167) (t167 N)) (KC166 N)
noncomputable def c168 : Code := Try.f168.body.getD .skip
theorem i168 : IsF Try.prog 168 Try.f168 c168 := ⟨Try.func168, by kernel_rfl, by kernel_rfl, by kernel_rfl⟩
/-- loop.example/g01139/impl.bounded -/
def F_impl_bounded (N : Nat) : Int × Int × Int × Unit → Option (Int × Unit)
  | (n0, low1, high2, _) =>
    some ((mxI low1 (mnI n0 high2)), ())
theorem t168 (N : Nat) : ∀ v, (fr drawR (mkB (C167 N) [] [] [] []) 8 168 Try.f168 (instA [.c (.int .i64), .c (.int .i64), .c (.int .i64)] v)).k (matR [.c (.int .i64)]) = F_impl_bounded N v := by
  rintro ⟨n0, low1, high2, _⟩; kernel_rfl
noncomputable def C168 (N : Nat) : CL SS := (168, conG [.c (.int .i64), .c (.int .i64), .c (.int .i64)] [.c (.int .i64)] (F_impl_bounded N)) :: C167 N
theorem KC168 (N : Nat) : COk QQ (C168 N) := COk.cons (conP LL DR_ok (KC167 N) (F := []) (J := []) (FGood.nil _) (M := []) (R := []) i168 (JGood.nil c168) (t168 N)) (KC167 N)
noncomputable def c169 : Code := Try.f169.body.getD .skip
theorem i169 : IsF Try.prog 169 Try.f169 c169 := ⟨Try.func169, by kernel_rfl, by kernel_rfl, by kernel_rfl⟩
/-- loop.example/g01139/impl.nearest -/
def F_impl_nearest (N : Nat) : Int × Int × Unit → Option (Int × Unit)
  | (bits0, n1, _) =>
    bif (decide ((0 : Int) ≤ (IntKind.wrap .i64 (bits0 - (1 : Int))))) then (F_impl_bounded N (n1, ((IntKind.wrap .i64 ((0 : Int) - (shlI .i64 (1 : Int) (IntKind.wrap .i64 (bits0 - (1 : Int)))))), ((IntKind.wrap .i64 ((shlI .i64 (1 : Int) (IntKind.wrap .i64 (bits0 - (1 : Int)))) - (1 : Int))), ())))).bind fun r131 =>
     (F_impl_wrapped N (bits0, (r131.1, ()))).bind fun r132 =>
      some (r132.1, ())
    else none
theorem t169 (N : Nat) : ∀ v, (fr drawR (mkB (C168 N) [] [] [] []) 8 169 Try.f169 (instA [.c (.int .i64), .c (.int .i64)] v)).k (matR [.c (.int .i64)]) = F_impl_nearest N v := by
  rintro ⟨bits0, n1, _⟩; kernel_rfl
noncomputable def C169 (N : Nat) : CL SS := (169, conG [.c (.int .i64), .c (.int .i64)] [.c (.int .i64)] (F_impl_nearest N)) :: C168 N
theorem KC169 (N : Nat) : COk QQ (C169 N) := COk.cons (conP LL DR_ok (KC168 N) (F := []) (J := []) (FGood.nil _) (M := []) (R := []) i169 (JGood.nil c169) (t169 N)) (KC168 N)
noncomputable def c144 : Code := Try.f144.body.getD .skip
theorem i144 : IsF Try.prog 144 Try.f144 c144 := ⟨Try.func144, by kernel_rfl, by kernel_rfl, by kernel_rfl⟩
/-- loop.example/g01139/impl.result -/
def F_impl_result (N : Nat) : Int × Int × Int × Int × Unit → Option (Int × Unit)
  | (op0, bits1, a2, b3, _) =>
    bif (decide ((0 : Int) ≤ bits1)) then bif (decide (bits1 = (0 : Int))) then none
     else (F_impl_signedOf N (bits1, (a2, ()))).bind fun r133 =>
      (F_impl_signedOf N (bits1, (b3, ()))).bind fun r134 =>
       bif (decide (op0 = (0 : Int))) then (F_impl_wrapped N (bits1, ((IntKind.wrap .i64 (a2 + b3)), ()))).bind fun r135 =>
         some (r135.1, ())
        else bif (decide (op0 = (1 : Int))) then (F_impl_wrapped N (bits1, ((IntKind.wrap .i64 (a2 - b3)), ()))).bind fun r136 =>
          some (r136.1, ())
         else bif (decide (op0 = (2 : Int))) then (F_impl_wrapped N (bits1, ((IntKind.wrap .i64 (a2 * b3)), ()))).bind fun r137 =>
           some (r137.1, ())
          else bif (decide (op0 = (3 : Int))) then some ((andI .i64 a2 b3), ())
           else bif (decide (op0 = (4 : Int))) then some ((orI .i64 a2 b3), ())
            else bif (decide (op0 = (5 : Int))) then some ((xorI .i64 a2 b3), ())
             else bif (decide (op0 = (6 : Int))) then some ((mnI a2 b3), ())
              else bif (decide (op0 = (7 : Int))) then some ((mxI a2 b3), ())
               else bif (decide (op0 = (8 : Int))) then (F_impl_pick N ((decide (r133.1 ≤ r134.1)), (a2, (b3, ())))).bind fun r138 =>
                 some (r138.1, ())
                else bif (decide (op0 = (9 : Int))) then (F_impl_pick N ((decide (r133.1 ≥ r134.1)), (a2, (b3, ())))).bind fun r139 =>
                  some (r139.1, ())
                 else bif (decide (op0 = (10 : Int))) then (F_impl_bounded N ((IntKind.wrap .i64 (a2 + b3)), ((0 : Int), ((IntKind.wrap .i64 ((shlI .i64 (1 : Int) bits1) - (1 : Int))), ())))).bind fun r140 =>
                   some (r140.1, ())
                  else bif (decide (op0 = (11 : Int))) then (F_impl_nearest N (bits1, ((IntKind.wrap .i64 (r133.1 + r134.1)), ()))).bind fun r141 =>
                    some (r141.1, ())
                   else bif (decide (op0 = (12 : Int))) then (F_impl_bounded N ((IntKind.wrap .i64 (a2 - b3)), ((0 : Int), ((IntKind.wrap .i64 ((shlI .i64 (1 : Int) bits1) - (1 : Int))), ())))).bind fun r142 =>
                     some (r142.1, ())
                    else bif (decide (op0 = (13 : Int))) then (F_impl_nearest N (bits1, ((IntKind.wrap .i64 (r133.1 - r134.1)), ()))).bind fun r143 =>
                      some (r143.1, ())
                     else bif (decide (op0 = (14 : Int))) then some ((IntKind.wrap .i64 (Int.tdiv (IntKind.wrap .i64 ((IntKind.wrap .i64 (a2 + b3)) + (1 : Int))) (2 : Int))), ())
                      else bif (decide (op0 = (15 : Int))) then bif (decide ((0 : Int) ≤ (Int.tmod b3 bits1))) then (F_impl_wrapped N (bits1, ((shlI .i64 a2 (Int.tmod b3 bits1)), ()))).bind fun r144 =>
                         some (r144.1, ())
                        else none
                       else bif (decide (op0 = (16 : Int))) then bif (decide ((0 : Int) ≤ (Int.tmod b3 bits1))) then some ((shrI .i64 a2 (Int.tmod b3 bits1)), ())
                         else none
                        else bif (decide ((0 : Int) ≤ (Int.tmod b3 bits1))) then (F_impl_wrapped N (bits1, ((shrI .i64 r133.1 (Int.tmod b3 bits1)), ()))).bind fun r145 =>
                          some (r145.1, ())
                         else none
    else none
theorem t144 (N : Nat) : ∀ v, (fr drawR (mkB (C169 N) [] [] [] []) 8 144 Try.f144 (instA [.c (.int .i64), .c (.int .i64), .c (.int .i64), .c (.int .i64)] v)).k (matR [.c (.int .i64)]) = F_impl_result N v := by
  rintro ⟨op0, bits1, a2, b3, _⟩; kernel_rfl
noncomputable def C144 (N : Nat) : CL SS := (144, conG [.c (.int .i64), .c (.int .i64), .c (.int .i64), .c (.int .i64)] [.c (.int .i64)] (F_impl_result N)) :: C169 N
theorem KC144 (N : Nat) : COk QQ (C144 N) := COk.cons (conP LL DR_ok (KC169 N) (F := []) (J := []) (FGood.nil _) (M := []) (R := []) i144 (JGood.nil c144) (t144 N)) (KC169 N)
noncomputable def c111 : Code := Try.f111.body.getD .skip
theorem i111 : IsF Try.prog 111 Try.f111 c111 := ⟨Try.func111, by kernel_rfl, by kernel_rfl, by kernel_rfl⟩
/-- loop.example/g01139/impl.holds -/
def F_impl_holds (N : Nat) : Int × Int × Int × Int × Unit → Option (Bool × Unit)
  | (cmp0, bits1, a2, b3, _) =>
    (F_impl_signedOf N (bits1, (a2, ()))).bind fun r152 =>
    (F_impl_signedOf N (bits1, (b3, ()))).bind fun r153 =>
     bif (decide (cmp0 = (0 : Int))) then some ((decide (a2 = b3)), ())
      else bif (decide (cmp0 = (1 : Int))) then some ((!(decide (a2 = b3))), ())
       else bif (decide (cmp0 = (2 : Int))) then some ((decide (a2 < b3)), ())
        else bif (decide (cmp0 = (3 : Int))) then some ((decide (a2 ≤ b3)), ())
         else bif (decide (cmp0 = (4 : Int))) then some ((decide (r152.1 < r153.1)), ())
          else some ((decide (r152.1 ≤ r153.1)), ())
theorem t111 (N : Nat) : ∀ v, (fr drawR (mkB (C144 N) [] [] [] []) 8 111 Try.f111 (instA [.c (.int .i64), .c (.int .i64), .c (.int .i64), .c (.int .i64)] v)).k (matR [.c (.bool)]) = F_impl_holds N v := by
  rintro ⟨cmp0, bits1, a2, b3, _⟩; kernel_rfl
noncomputable def C111 (N : Nat) : CL SS := (111, conG [.c (.int .i64), .c (.int .i64), .c (.int .i64), .c (.int .i64)] [.c (.bool)] (F_impl_holds N)) :: C144 N
theorem KC111 (N : Nat) : COk QQ (C111 N) := COk.cons (conP LL DR_ok (KC144 N) (F := []) (J := []) (FGood.nil _) (M := []) (R := []) i111 (JGood.nil c111) (t111 N)) (KC144 N)
noncomputable def c77 : Code := Try.f77.body.getD .skip
theorem i77 : IsF Try.prog 77 Try.f77 c77 := ⟨Try.func77, by kernel_rfl, by kernel_rfl, by kernel_rfl⟩
noncomputable def c110 : Code := Try.f110.body.getD .skip
theorem i110 : IsF Try.prog 110 Try.f110 c110 := ⟨Try.func110, by kernel_rfl, by kernel_rfl, by kernel_rfl⟩
noncomputable def b77_0 : Code := unLoop (blkOf 0 (blks c77))
theorem e77_0 : blkOf 0 (blks c77) = .loop b77_0 := by kernel_rfl
-- loop.example/g01139/impl.alone: loop 0
def d_impl_alone_0 : LoopD := ⟨136, ⟨[(0, .c (.int .i64)), (1, .c (.rd 63 [(0, 0)])), (8, .c (.row 25)), (9, .c (.row 57))], [(0, 0, .ext), (57, 57, .row 2 [])], 140⟩, ⟨[(11, .c (.row 136)), (12, .c (.row 137)), (13, .c (.int .i64))], [(136, .row 2 []), (137, .row 2 []), (25, .row 2 [])], 146⟩, [(11, some 2), (12, some 2)], [0, 25, 57], [⟨.norm, ⟨[(11, .c (.row 136))], [(136, .row 2 []), (25, .row 2 [])], 145⟩, [(11, some 2)], [0, 25, 57]⟩]⟩
def n_impl_alone_0 (N : Nat) : Int × (List (Int × Int × Int × Int × Int)) × List (Int) × Unit → (Int × List (Int) × List (Int) × List (Int) × Unit → Option ((List (Int) × List (Int) × Unit))) → Int × List (Int) × List (Int) × List (Int) × Unit → Option ((List (Int) × List (Int) × Unit))
  | (bits0, lines1, p57, _), rec, (at13, o136, o137, o25, _) =>
    bif (decide (at13 < (lines1.length : Int))) then bif (decide ((0 : Int) ≤ at13)) then bif (decide (at13 < (lines1.length : Int))) then bif (decide ((gt lines1 at13).1 = (0 : Int))) then bif (decide ((gt lines1 at13).1 = (1 : Int))) then bif (decide ((0 : Int) ≤ (gt lines1 at13).2.1)) then bif (decide ((gt lines1 at13).2.1 < (o25.length : Int))) then bif (decide (((o136.length + 1) * 8) ≤ 140737488351232)) then rec ((IntKind.wrap .i64 (at13 + (1 : Int))), ((o136 ++ (at13 :: [])), (o137, ((o25.set (gt lines1 at13).2.1.toNat (gt lines1 at13).2.2.2.2), ()))))
           else none
          else none
         else none
        else bif (decide ((0 : Int) ≤ (gt lines1 at13).2.2.2.1)) then bif (decide ((gt lines1 at13).2.2.2.1 < (o25.length : Int))) then bif (decide ((0 : Int) ≤ (gt lines1 at13).2.2.2.2)) then bif (decide ((gt lines1 at13).2.2.2.2 < (o25.length : Int))) then (F_impl_result N ((gt lines1 at13).2.2.1, (bits0, ((gt o25 (gt lines1 at13).2.2.2.1), ((gt o25 (gt lines1 at13).2.2.2.2), ()))))).bind fun r160 =>
             bif (decide ((0 : Int) ≤ (gt lines1 at13).2.1)) then bif (decide ((gt lines1 at13).2.1 < (o25.length : Int))) then bif (decide (((o136.length + 1) * 8) ≤ 140737488351232)) then rec ((IntKind.wrap .i64 (at13 + (1 : Int))), ((o136 ++ (at13 :: [])), (o137, ((o25.set (gt lines1 at13).2.1.toNat r160.1), ()))))
                else none
               else none
              else none
            else none
           else none
          else none
         else none
       else bif (decide ((gt lines1 at13).1 = (1 : Int))) then bif (decide ((gt lines1 at13).1 = (1 : Int))) then bif (decide ((0 : Int) ≤ (gt lines1 at13).2.1)) then bif (decide ((gt lines1 at13).2.1 < (o25.length : Int))) then bif (decide (((o136.length + 1) * 8) ≤ 140737488351232)) then rec ((IntKind.wrap .i64 (at13 + (1 : Int))), ((o136 ++ (at13 :: [])), (o137, ((o25.set (gt lines1 at13).2.1.toNat (gt lines1 at13).2.2.2.2), ()))))
            else none
           else none
          else none
         else bif (decide ((0 : Int) ≤ (gt lines1 at13).2.2.2.1)) then bif (decide ((gt lines1 at13).2.2.2.1 < (o25.length : Int))) then bif (decide ((0 : Int) ≤ (gt lines1 at13).2.2.2.2)) then bif (decide ((gt lines1 at13).2.2.2.2 < (o25.length : Int))) then (F_impl_result N ((gt lines1 at13).2.2.1, (bits0, ((gt o25 (gt lines1 at13).2.2.2.1), ((gt o25 (gt lines1 at13).2.2.2.2), ()))))).bind fun r161 =>
              bif (decide ((0 : Int) ≤ (gt lines1 at13).2.1)) then bif (decide ((gt lines1 at13).2.1 < (o25.length : Int))) then bif (decide (((o136.length + 1) * 8) ≤ 140737488351232)) then rec ((IntKind.wrap .i64 (at13 + (1 : Int))), ((o136 ++ (at13 :: [])), (o137, ((o25.set (gt lines1 at13).2.1.toNat r161.1), ()))))
                 else none
                else none
               else none
             else none
            else none
           else none
          else none
        else bif (decide ((gt lines1 at13).1 = (2 : Int))) then bif (decide ((0 : Int) ≤ (gt lines1 at13).2.2.2.1)) then bif (decide ((gt lines1 at13).2.2.2.1 < (o25.length : Int))) then bif (decide ((0 : Int) ≤ (gt lines1 at13).2.2.2.2)) then bif (decide ((gt lines1 at13).2.2.2.2 < (o25.length : Int))) then (F_impl_holds N ((gt lines1 at13).2.2.1, (bits0, ((gt o25 (gt lines1 at13).2.2.2.1), ((gt o25 (gt lines1 at13).2.2.2.2), ()))))).bind fun r162 =>
              bif (!r162.1) then bif (decide ((0 : Int) ≤ at13)) then bif (decide (at13 < (p57.length : Int))) then rec ((IntKind.wrap .i64 ((gt p57 at13) + (1 : Int))), (o136, (o137, (o25, ()))))
                 else none
                else none
               else rec ((IntKind.wrap .i64 (at13 + (1 : Int))), (o136, (o137, (o25, ()))))
             else none
            else none
           else none
          else none
         else bif (decide ((gt lines1 at13).1 = (3 : Int))) then bif (decide ((0 : Int) ≤ at13)) then bif (decide (at13 < (p57.length : Int))) then rec ((IntKind.wrap .i64 ((gt p57 at13) + (1 : Int))), (o136, (o137, (o25, ()))))
            else none
           else none
          else bif (decide ((gt lines1 at13).1 = (5 : Int))) then bif (decide (((o137.length + 1) * 8) ≤ 140737488351232)) then rec ((IntKind.wrap .i64 (at13 + (1 : Int))), (o136, ((o137 ++ ((gt lines1 at13).2.2.2.2 :: [])), (o25, ()))))
            else none
           else bif (decide ((gt lines1 at13).1 = (6 : Int))) then bif (decide ((0 : Int) ≤ (gt lines1 at13).2.2.2.1)) then bif (decide ((gt lines1 at13).2.2.2.1 < (o25.length : Int))) then bif (decide ((0 : Int) ≤ (gt lines1 at13).2.2.2.2)) then bif (decide ((gt lines1 at13).2.2.2.2 < (o25.length : Int))) then (F_impl_holds N ((gt lines1 at13).2.2.1, (bits0, ((gt o25 (gt lines1 at13).2.2.2.1), ((gt o25 (gt lines1 at13).2.2.2.2), ()))))).bind fun r163 =>
                 bif r163.1 then bif (decide ((0 : Int) ≤ at13)) then bif (decide (at13 < (p57.length : Int))) then bif (decide ((0 : Int) ≤ (IntKind.wrap .i64 ((o137.length : Int) - (1 : Int))))) then bif (decide ((IntKind.wrap .i64 ((o137.length : Int) - (1 : Int))) ≤ (o137.length : Int))) then rec ((IntKind.wrap .i64 ((gt p57 at13) + (1 : Int))), (o136, ((o137.take (IntKind.wrap .i64 ((o137.length : Int) - (1 : Int))).toNat), (o25, ()))))
                      else none
                     else none
                    else none
                   else none
                  else rec ((IntKind.wrap .i64 (at13 + (1 : Int))), (o136, (o137, (o25, ()))))
                else none
               else none
              else none
             else none
            else bif (decide ((gt lines1 at13).1 = (4 : Int))) then bif (decide ((0 : Int) ≤ at13)) then bif (decide (at13 < (p57.length : Int))) then bif (decide ((0 : Int) ≤ (gt p57 at13))) then bif (decide ((gt p57 at13) < (lines1.length : Int))) then bif (!(decide ((gt lines1 (gt p57 at13)).1 = (5 : Int)))) then rec ((IntKind.wrap .i64 (at13 + (1 : Int))), (o136, (o137, (o25, ()))))
                  else bif (decide ((0 : Int) ≤ (IntKind.wrap .i64 ((o137.length : Int) - (1 : Int))))) then bif (decide ((IntKind.wrap .i64 ((o137.length : Int) - (1 : Int))) < (o137.length : Int))) then bif (decide ((0 : Int) ≤ (IntKind.wrap .i64 ((o137.length : Int) - (1 : Int))))) then bif (decide ((IntKind.wrap .i64 ((o137.length : Int) - (1 : Int))) < (o137.length : Int))) then bif (decide ((0 : Int) ≤ (IntKind.wrap .i64 ((o137.length : Int) - (1 : Int))))) then bif (decide ((IntKind.wrap .i64 ((o137.length : Int) - (1 : Int))) < ((o137.set (IntKind.wrap .i64 ((o137.length : Int) - (1 : Int))).toNat (IntKind.wrap .i64 ((gt o137 (IntKind.wrap .i64 ((o137.length : Int) - (1 : Int)))) - (1 : Int)))).length : Int))) then bif (decide ((gt (o137.set (IntKind.wrap .i64 ((o137.length : Int) - (1 : Int))).toNat (IntKind.wrap .i64 ((gt o137 (IntKind.wrap .i64 ((o137.length : Int) - (1 : Int)))) - (1 : Int)))) (IntKind.wrap .i64 ((o137.length : Int) - (1 : Int)))) > (0 : Int))) then bif (decide ((0 : Int) ≤ at13)) then bif (decide (at13 < (p57.length : Int))) then rec ((IntKind.wrap .i64 ((gt p57 at13) + (1 : Int))), (o136, ((o137.set (IntKind.wrap .i64 ((o137.length : Int) - (1 : Int))).toNat (IntKind.wrap .i64 ((gt o137 (IntKind.wrap .i64 ((o137.length : Int) - (1 : Int)))) - (1 : Int)))), (o25, ()))))
                           else none
                          else none
                         else bif (decide ((0 : Int) ≤ (IntKind.wrap .i64 ((o137.length : Int) - (1 : Int))))) then bif (decide ((IntKind.wrap .i64 ((o137.length : Int) - (1 : Int))) ≤ ((o137.set (IntKind.wrap .i64 ((o137.length : Int) - (1 : Int))).toNat (IntKind.wrap .i64 ((gt o137 (IntKind.wrap .i64 ((o137.length : Int) - (1 : Int)))) - (1 : Int)))).length : Int))) then rec ((IntKind.wrap .i64 (at13 + (1 : Int))), (o136, (((o137.set (IntKind.wrap .i64 ((o137.length : Int) - (1 : Int))).toNat (IntKind.wrap .i64 ((gt o137 (IntKind.wrap .i64 ((o137.length : Int) - (1 : Int)))) - (1 : Int)))).take (IntKind.wrap .i64 ((o137.length : Int) - (1 : Int))).toNat), (o25, ()))))
                           else none
                          else none
                        else none
                       else none
                      else none
                     else none
                    else none
                   else none
                 else none
                else none
               else none
              else none
             else rec ((IntKind.wrap .i64 (at13 + (1 : Int))), (o136, (o137, (o25, ()))))
      else none
     else none
    else some (o136, (o25, ()))
theorem s_impl_alone_0 (N : Nat) : ∀ σ p rec v, stepL (rn drawR (mkB (C111 N) [(110, Try.f110)] [] [] []) 8 77 b77_0) 0 (wr b77_0) d_impl_alone_0 (instP σ d_impl_alone_0.pm p) rec v = n_impl_alone_0 N p rec v := by
  rintro σ ⟨bits0, lines1, p57, _⟩ rec ⟨at13, o136, o137, o25, _⟩; kernel_rfl
noncomputable def g_impl_alone_0 (N : Nat) : St (Sig.T SS) → Tr (Ex × St (Sig.T SS)) := orcL (wr b77_0) d_impl_alone_0 fun p => itN (n_impl_alone_0 N p) N
theorem o_impl_alone_0 (N : Nat) : Snd QQ (g_impl_alone_0 N) (.block 0 (blkOf 0 (blks c77))) := loopP LL DR_ok (KC111 N) (F := [(110, Try.f110)]) (J := []) (FGood.cons i110 (JGood.nil c110) (FGood.nil _)) (M := []) (R := []) i77 (JGood.nil c77) e77_0 (s_impl_alone_0 N) N
/-- loop.example/g01139/impl.alone -/
def F_impl_alone (N : Nat) : Int × (List (Int × Int × Int × Int × Int)) × List (Int) × Unit → Option (List (Int) × List (Int) × Unit)
  | (bits0, lines1, vars2, _) =>
    (F_slices_Clone___int64_int64_ N (vars2, ())).bind fun r164 =>
    (F_impl_paired N (bits0, (lines1, ()))).bind fun r165 =>
     (itN (n_impl_alone_0 N (bits0, (lines1, (r165.1, ())))) N ((0 : Int), ([], ([], (r164.1, ()))))).bind fun r166 =>
      some (r166.2.1, (r166.1, ()))
theorem t77 (N : Nat) : ∀ v, (fr drawR (mkB (C111 N) [(110, Try.f110)] [(77, [(0, g_impl_alone_0 N)])] [] []) 8 77 Try.f77 (instA [.c (.int .i64), .c (.ls 63), .c (.ls 2)] v)).k (matR [.c (.ls 2), .c (.ls 2)]) = F_impl_alone N v := by
  rintro ⟨bits0, lines1, vars2, _⟩; kernel_rfl
noncomputable def C77 (N : Nat) : CL SS := (77, conG [.c (.int .i64), .c (.ls 63), .c (.ls 2)] [.c (.ls 2), .c (.ls 2)] (F_impl_alone N)) :: C111 N
theorem KC77 (N : Nat) : COk QQ (C77 N) := COk.cons (conP LL DR_ok (KC111 N) (F := [(110, Try.f110)]) (J := [(77, [(0, g_impl_alone_0 N)])]) (FGood.cons i110 (JGood.nil c110) (FGood.nil _)) (M := []) (R := []) i77 (JGood.cons i77.hd (o_impl_alone_0 N) (JGood.nil c77)) (t77 N)) (KC111 N)
noncomputable def c36 : Code := Try.f36.body.getD .skip
theorem i36 : IsF Try.prog 36 Try.f36 c36 := ⟨Try.func36, by kernel_rfl, by kernel_rfl, by kernel_rfl⟩
/-- loop.example/g01139/impl.PathOf -/
def F_impl_PathOf (N : Nat) : Int × (List (Int × Int × Int × Int × Int)) × List (Int) × Unit → Option (List (Int) × Bool × Unit)
  | (bits0, lines1, vars2, _) =>
    (F_impl_ValidLines N (bits0, (lines1, ()))).bind fun r167 =>
    bif (!r167.1) then some ([], (false, ()))
     else (F_impl_areVars N (bits0, (vars2, ()))).bind fun r168 =>
      bif (!r168.1) then some ([], (false, ()))
       else (F_impl_alone N (bits0, (lines1, (vars2, ())))).bind fun r169 =>
        some (r169.2.1, (true, ()))
theorem t36 (N : Nat) : ∀ v, (fr drawR (mkB (C77 N) [] [] [] []) 8 36 Try.f36 (instA [.c (.int .i64), .c (.ls 63), .c (.ls 2)] v)).k (matR [.c (.ls 2), .c (.bool)]) = F_impl_PathOf N v := by
  rintro ⟨bits0, lines1, vars2, _⟩; kernel_rfl
noncomputable def C36 (N : Nat) : CL SS := (36, conG [.c (.int .i64), .c (.ls 63), .c (.ls 2)] [.c (.ls 2), .c (.bool)] (F_impl_PathOf N)) :: C77 N
theorem KC36 (N : Nat) : COk QQ (C36 N) := COk.cons (conP LL DR_ok (KC77 N) (F := []) (J := []) (FGood.nil _) (M := []) (R := []) i36 (JGood.nil c36) (t36 N)) (KC77 N)
noncomputable def c61 : Code := Try.f61.body.getD .skip
theorem i61 : IsF Try.prog 61 Try.f61 c61 := ⟨Try.func61, by kernel_rfl, by kernel_rfl, by kernel_rfl⟩
/-- loop.example/g01139/impl.length[int64] -/
def F_impl_length_int64_ (N : Nat) : List (Int) × Unit → Option (Int × Unit)
  | (list0, _) =>
    some ((list0.length : Int), ())
theorem t61 (N : Nat) : ∀ v, (fr drawR (mkB (C36 N) [] [] [] []) 8 61 Try.f61 (instA [.c (.ls 2)] v)).k (matR [.c (.int .i64)]) = F_impl_length_int64_ N v := by
  rintro ⟨list0, _⟩; kernel_rfl
noncomputable def C61 (N : Nat) : CL SS := (61, conG [.c (.ls 2)] [.c (.int .i64)] (F_impl_length_int64_ N)) :: C36 N
theorem KC61 (N : Nat) : COk QQ (C61 N) := COk.cons (conP LL DR_ok (KC36 N) (F := []) (J := []) (FGood.nil _) (M := []) (R := []) i61 (JGood.nil c61) (t61 N)) (KC36 N)
noncomputable def c26 : Code := Try.f26.body.getD .skip
theorem i26 : IsF Try.prog 26 Try.f26 c26 := ⟨Try.func26, by kernel_rfl, by kernel_rfl, by kernel_rfl⟩
/-- loop.example/g01139/impl.CountAlone -/
def F_impl_CountAlone (N : Nat) : Int × (List (Int × Int × Int × Int × Int)) × List (Int) × Unit → Option (Int × Bool × Unit)
  | (bits0, lines1, vars2, _) =>
    (F_impl_PathOf N (bits0, (lines1, (vars2, ())))).bind fun r170 =>
    (F_impl_length_int64_ N (r170.1, ())).bind fun r171 =>
     some (r171.1, (r170.2.1, ()))
theorem t26 (N : Nat) : ∀ v, (fr drawR (mkB (C61 N) [] [] [] []) 8 26 Try.f26 (instA [.c (.int .i64), .c (.ls 63), .c (.ls 2)] v)).k (matR [.c (.int .i64), .c (.bool)]) = F_impl_CountAlone N v := by
  rintro ⟨bits0, lines1, vars2, _⟩; kernel_rfl
noncomputable def C26 (N : Nat) : CL SS := (26, conG [.c (.int .i64), .c (.ls 63), .c (.ls 2)] [.c (.int .i64), .c (.bool)] (F_impl_CountAlone N)) :: C61 N
theorem KC26 (N : Nat) : COk QQ (C26 N) := COk.cons (conP LL DR_ok (KC61 N) (F := []) (J := []) (FGood.nil _) (M := []) (R := []) i26 (JGood.nil c26) (t26 N)) (KC61 N)
noncomputable def c57 : Code := Try.f57.body.getD .skip
theorem i57 : IsF Try.prog 57 Try.f57 c57 := ⟨Try.func57, by kernel_rfl, by kernel_rfl, by kernel_rfl⟩
/-- loop.example/g01139/laws.eqLine -/
def F_laws_eqLine (N : Nat) : Int × Int × Int × Int × Int × Int × Int × Int × Int × Int × Unit → Option (Bool × Unit)
  | (a0c0, a0c1, a0c2, a0c3, a0c4, b1c0, b1c1, b1c2, b1c3, b1c4, _) =>
    bif (!(decide (a0c0 = b1c0))) then some (false, ())
    else bif (!(decide (a0c1 = b1c1))) then some (false, ())
     else bif (!(decide (a0c2 = b1c2))) then some (false, ())
      else bif (!(decide (a0c3 = b1c3))) then some (false, ())
       else bif (!(decide (a0c4 = b1c4))) then some (false, ())
        else some (true, ())
theorem t57 (N : Nat) : ∀ v, (fr drawR (mkB (C26 N) [] [] [] []) 8 57 Try.f57 (instA [.agg [.int .i64, .int .i64, .int .i64, .int .i64, .int .i64], .agg [.int .i64, .int .i64, .int .i64, .int .i64, .int .i64]] v)).k (matR [.c (.bool)]) = F_laws_eqLine N v := by
  rintro ⟨a0c0, a0c1, a0c2, a0c3, a0c4, b1c0, b1c1, b1c2, b1c3, b1c4, _⟩; kernel_rfl
noncomputable def C57 (N : Nat) : CL SS := (57, conG [.agg [.int .i64, .int .i64, .int .i64, .int .i64, .int .i64], .agg [.int .i64, .int .i64, .int .i64, .int .i64, .int .i64]] [.c (.bool)] (F_laws_eqLine N)) :: C26 N
theorem KC57 (N : Nat) : COk QQ (C57 N) := COk.cons (conP LL DR_ok (KC26 N) (F := []) (J := []) (FGood.nil _) (M := []) (R := []) i57 (JGood.nil c57) (t57 N)) (KC26 N)
noncomputable def c17 : Code := Try.f17.body.getD .skip
theorem i17 : IsF Try.prog 17 Try.f17 c17 := ⟨Try.func17, by kernel_rfl, by kernel_rfl, by kernel_rfl⟩
noncomputable def b17_0 : Code := unLoop (blkOf 0 (blks c17))
theorem e17_0 : blkOf 0 (blks c17) = .loop b17_0 := by kernel_rfl
-- loop.example/g01139/laws.eqLineS: loop 0
def d_laws_eqLineS_0 : LoopD := ⟨64, ⟨[(0, .c (.rd 63 [(0, 0)])), (1, .c (.rd 63 [(0, 0)]))], [(0, 0, .ext)], 27⟩, ⟨[(5, .c (.int .i64))], [], 72⟩, [], [0], [⟨.ret, ⟨[(4, .c (.bool))], [], 72⟩, [], [0]⟩, ⟨.norm, ⟨[], [], 72⟩, [], [0]⟩]⟩
def n_laws_eqLineS_0 (N : Nat) : (List (Int × Int × Int × Int × Int)) × (List (Int × Int × Int × Int × Int)) × Unit → (Int × Unit → Option ((Bool × Unit) ⊕ (Unit))) → Int × Unit → Option ((Bool × Unit) ⊕ (Unit))
  | (a0, b1, _), rec, (i5, _) =>
    bif (decide (i5 < (a0.length : Int))) then bif (decide ((0 : Int) ≤ i5)) then bif (decide (i5 < (a0.length : Int))) then bif (decide ((0 : Int) ≤ i5)) then bif (decide (i5 < (b1.length : Int))) then (F_laws_eqLine N ((gt a0 i5).1, ((gt a0 i5).2.1, ((gt a0 i5).2.2.1, ((gt a0 i5).2.2.2.1, ((gt a0 i5).2.2.2.2, ((gt b1 i5).1, ((gt b1 i5).2.1, ((gt b1 i5).2.2.1, ((gt b1 i5).2.2.2.1, ((gt b1 i5).2.2.2.2, ()))))))))))).bind fun r172 =>
         bif (!r172.1) then some (.inl (false, ()))
          else rec ((IntKind.wrap .i64 (i5 + (1 : Int))), ())
        else none
       else none
      else none
     else none
    else some (.inr ())
theorem s_laws_eqLineS_0 (N : Nat) : ∀ σ p rec v, stepL (rn drawR (mkB (C57 N) [] [] [] []) 8 17 b17_0) 0 (wr b17_0) d_laws_eqLineS_0 (instP σ d_laws_eqLineS_0.pm p) rec v = n_laws_eqLineS_0 N p rec v := by
  rintro σ ⟨a0, b1, _⟩ rec ⟨i5, _⟩; kernel_rfl
noncomputable def g_laws_eqLineS_0 (N : Nat) : St (Sig.T SS) → Tr (Ex × St (Sig.T SS)) := orcL (wr b17_0) d_laws_eqLineS_0 fun p => itN (n_laws_eqLineS_0 N p) N
theorem o_laws_eqLineS_0 (N : Nat) : Snd QQ (g_laws_eqLineS_0 N) (.block 0 (blkOf 0 (blks c17))) := loopP LL DR_ok (KC57 N) (F := []) (J := []) (FGood.nil _) (M := []) (R := []) i17 (JGood.nil c17) e17_0 (s_laws_eqLineS_0 N) N
/-- loop.example/g01139/laws.eqLineS -/
def F_laws_eqLineS (N : Nat) : (List (Int × Int × Int × Int × Int)) × (List (Int × Int × Int × Int × Int)) × Unit → Option (Bool × Unit)
  | (a0, b1, _) =>
    bif (!(decide ((a0.length : Int) = (b1.length : Int)))) then some (false, ())
    else (itN (n_laws_eqLineS_0 N (a0, (b1, ()))) N ((0 : Int), ())).bind fun r173 =>
     bif r173.isLeft then r173.getLeft?.bind fun r174 =>
       some (r174.1, ())
      else r173.getRight?.bind fun r175 =>
       some (true, ())
theorem t17 (N : Nat) : ∀ v, (fr drawR (mkB (C57 N) [] [(17, [(0, g_laws_eqLineS_0 N)])] [] []) 8 17 Try.f17 (instA [.c (.ls 63), .c (.ls 63)] v)).k (matR [.c (.bool)]) = F_laws_eqLineS N v := by
  rintro ⟨a0, b1, _⟩; kernel_rfl
noncomputable def C17 (N : Nat) : CL SS := (17, conG [.c (.ls 63), .c (.ls 63)] [.c (.bool)] (F_laws_eqLineS N)) :: C57 N
theorem KC17 (N : Nat) : COk QQ (C17 N) := COk.cons (conP LL DR_ok (KC57 N) (F := []) (J := [(17, [(0, g_laws_eqLineS_0 N)])]) (FGood.nil _) (M := []) (R := []) i17 (JGood.cons i17.hd (o_laws_eqLineS_0 N) (JGood.nil c17)) (t17 N)) (KC57 N)
noncomputable def c20 : Code := Try.f20.body.getD .skip
theorem i20 : IsF Try.prog 20 Try.f20 c20 := ⟨Try.func20, by kernel_rfl, by kernel_rfl, by kernel_rfl⟩
noncomputable def b20_0 : Code := unLoop (blkOf 0 (blks c20))
theorem e20_0 : blkOf 0 (blks c20) = .loop b20_0 := by kernel_rfl
-- loop.example/g01139/laws.eqInt64S: loop 0
def d_laws_eqInt64S_0 : LoopD := ⟨64, ⟨[(0, .c (.rd 2 [(0, 0)])), (1, .c (.rd 2 [(0, 0)]))], [(0, 0, .ext)], 26⟩, ⟨[(5, .c (.int .i64))], [], 72⟩, [], [0], [⟨.ret, ⟨[(4, .c (.bool))], [], 72⟩, [], [0]⟩, ⟨.norm, ⟨[], [], 72⟩, [], [0]⟩]⟩
def n_laws_eqInt64S_0 (N : Nat) : List (Int) × List (Int) × Unit → (Int × Unit → Option ((Bool × Unit) ⊕ (Unit))) → Int × Unit → Option ((Bool × Unit) ⊕ (Unit))
  | (a0, b1, _), rec, (i5, _) =>
    bif (decide (i5 < (a0.length : Int))) then bif (decide ((0 : Int) ≤ i5)) then bif (decide (i5 < (a0.length : Int))) then bif (decide ((0 : Int) ≤ i5)) then bif (decide (i5 < (b1.length : Int))) then bif (!(decide ((gt a0 i5) = (gt b1 i5)))) then some (.inl (false, ()))
         else rec ((IntKind.wrap .i64 (i5 + (1 : Int))), ())
        else none
       else none
      else none
     else none
    else some (.inr ())
theorem s_laws_eqInt64S_0 (N : Nat) : ∀ σ p rec v, stepL (rn drawR (mkB (C17 N) [] [] [] []) 8 20 b20_0) 0 (wr b20_0) d_laws_eqInt64S_0 (instP σ d_laws_eqInt64S_0.pm p) rec v = n_laws_eqInt64S_0 N p rec v := by
  rintro σ ⟨a0, b1, _⟩ rec ⟨i5, _⟩; kernel_rfl
noncomputable def g_laws_eqInt64S_0 (N : Nat) : St (Sig.T SS) → Tr (Ex × St (Sig.T SS)) := orcL (wr b20_0) d_laws_eqInt64S_0 fun p => itN (n_laws_eqInt64S_0 N p) N
theorem o_laws_eqInt64S_0 (N : Nat) : Snd QQ (g_laws_eqInt64S_0 N) (.block 0 (blkOf 0 (blks c20))) := loopP LL DR_ok (KC17 N) (F := []) (J := []) (FGood.nil _) (M := []) (R := []) i20 (JGood.nil c20) e20_0 (s_laws_eqInt64S_0 N) N
/-- loop.example/g01139/laws.eqInt64S -/
def F_laws_eqInt64S (N : Nat) : List (Int) × List (Int) × Unit → Option (Bool × Unit)
  | (a0, b1, _) =>
    bif (!(decide ((a0.length : Int) = (b1.length : Int)))) then some (false, ())
    else (itN (n_laws_eqInt64S_0 N (a0, (b1, ()))) N ((0 : Int), ())).bind fun r176 =>
     bif r176.isLeft then r176.getLeft?.bind fun r177 =>
       some (r177.1, ())
      else r176.getRight?.bind fun r178 =>
       some (true, ())
theorem t20 (N : Nat) : ∀ v, (fr drawR (mkB (C17 N) [] [(20, [(0, g_laws_eqInt64S_0 N)])] [] []) 8 20 Try.f20 (instA [.c (.ls 2), .c (.ls 2)] v)).k (matR [.c (.bool)]) = F_laws_eqInt64S N v := by
  rintro ⟨a0, b1, _⟩; kernel_rfl
noncomputable def C20 (N : Nat) : CL SS := (20, conG [.c (.ls 2), .c (.ls 2)] [.c (.bool)] (F_laws_eqInt64S N)) :: C17 N
theorem KC20 (N : Nat) : COk QQ (C20 N) := COk.cons (conP LL DR_ok (KC17 N) (F := []) (J := [(20, [(0, g_laws_eqInt64S_0 N)])]) (FGood.nil _) (M := []) (R := []) i20 (JGood.cons i20.hd (o_laws_eqInt64S_0 N) (JGood.nil c20)) (t20 N)) (KC17 N)
noncomputable def c5 : Code := Try.f5.body.getD .skip
theorem i5 : IsF Try.prog 5 Try.f5 c5 := ⟨Try.func5, by kernel_rfl, by kernel_rfl, by kernel_rfl⟩
/-- loop.example/g01139/laws.FnExactCountAlone -/
def F_laws_FnExactCountAlone (N : Nat) : Int × (List (Int × Int × Int × Int × Int)) × List (Int) × Unit → Option (Bool × Unit)
  | (aBits0, aLines1, aVars2, _) =>
    bif (decide ((aVars2.length : Int) > (1048576 : Int))) then some (true, ())
    else (F_laws_szLineS N (aLines1, ((1048576 : Int), ()))).bind fun r179 =>
     bif (decide (r179.1 < (0 : Int))) then some (true, ())
      else (F_laws_toLineS N (aLines1, ())).bind fun r180 =>
       (F_laws_toInt64S N (aVars2, ())).bind fun r181 =>
        (F_spec_CountAlone N (aBits0, (r180.1, (r181.1, ())))).bind fun r182 =>
         (F_laws_toLineS N (aLines1, ())).bind fun r183 =>
          (F_laws_toInt64S N (aVars2, ())).bind fun r184 =>
           (F_impl_CountAlone N (aBits0, (r183.1, (r184.1, ())))).bind fun r185 =>
            bif (!(decide (r185.1 = r182.1))) then some (false, ())
             else bif (!(r185.2.1 == r182.2.1)) then some (false, ())
              else (F_laws_toLineS N (aLines1, ())).bind fun r186 =>
               (F_laws_eqLineS N (r183.1, (r186.1, ()))).bind fun r187 =>
                bif (!r187.1) then some (false, ())
                 else (F_laws_toInt64S N (aVars2, ())).bind fun r188 =>
                  (F_laws_eqInt64S N (r184.1, (r188.1, ()))).bind fun r189 =>
                   bif (!r189.1) then some (false, ())
                    else some (true, ())
theorem t5 (N : Nat) : ∀ v, (fr drawR (mkB (C20 N) [] [] [] []) 8 5 Try.f5 (instA [.c (.int .i64), .c (.ls 65), .c (.ls 2)] v)).k (matR [.c (.bool)]) = F_laws_FnExactCountAlone N v := by
  rintro ⟨aBits0, aLines1, aVars2, _⟩; kernel_rfl
noncomputable def C5 (N : Nat) : CL SS := (5, conG [.c (.int .i64), .c (.ls 65), .c (.ls 2)] [.c (.bool)] (F_laws_FnExactCountAlone N)) :: C20 N
theorem KC5 (N : Nat) : COk QQ (C5 N) := COk.cons (conP LL DR_ok (KC20 N) (F := []) (J := []) (FGood.nil _) (M := []) (R := []) i5 (JGood.nil c5) (t5 N)) (KC20 N)
noncomputable def c35 : Code := Try.f35.body.getD .skip
theorem i35 : IsF Try.prog 35 Try.f35 c35 := ⟨Try.func35, by kernel_rfl, by kernel_rfl, by kernel_rfl⟩
/-- loop.example/g01139/spec.PathOf -/
def F_spec_PathOf (N : Nat) : Int × (List (Int × Int × Int × Int × Int)) × List (Int) × Unit → Option (List (Int) × Bool × Unit)
  | (bits0, lines1, vars2, _) =>
    (F_spec_l08Ask N (bits0, (lines1, (vars2, ())))).bind fun r190 =>
    bif (!r190.1) then some ([], (false, ()))
     else (F_spec_l08Alone N (bits0, (lines1, (vars2, ())))).bind fun r191 =>
      some (r191.2.1, (true, ()))
theorem t35 (N : Nat) : ∀ v, (fr drawR (mkB (C5 N) [] [] [] []) 8 35 Try.f35 (instA [.c (.int .i64), .c (.ls 63), .c (.ls 2)] v)).k (matR [.c (.ls 2), .c (.bool)]) = F_spec_PathOf N v := by
  rintro ⟨bits0, lines1, vars2, _⟩; kernel_rfl
noncomputable def C35 (N : Nat) : CL SS := (35, conG [.c (.int .i64), .c (.ls 63), .c (.ls 2)] [.c (.ls 2), .c (.bool)] (F_spec_PathOf N)) :: C5 N
theorem KC35 (N : Nat) : COk QQ (C35 N) := COk.cons (conP LL DR_ok (KC5 N) (F := []) (J := []) (FGood.nil _) (M := []) (R := []) i35 (JGood.nil c35) (t35 N)) (KC5 N)
noncomputable def c23 : Code := Try.f23.body.getD .skip
theorem i23 : IsF Try.prog 23 Try.f23 c23 := ⟨Try.func23, by kernel_rfl, by kernel_rfl, by kernel_rfl⟩
noncomputable def b23_0 : Code := unLoop (blkOf 0 (blks c23))
theorem e23_0 : blkOf 0 (blks c23) = .loop b23_0 := by kernel_rfl
-- loop.example/g01139/laws.heldInt64S: loop 0
def d_laws_heldInt64S_0 : LoopD := ⟨24, ⟨[(0, .c (.rd 2 [(0, 0)]))], [(0, 0, .ext)], 21⟩, ⟨[(1, .c (.int .i64)), (5, .c (.int .i64))], [], 32⟩, [], [0], [⟨.ret, ⟨[(4, .c (.int .i64))], [], 32⟩, [], [0]⟩, ⟨.norm, ⟨[(1, .c (.int .i64))], [], 32⟩, [], [0]⟩]⟩
def n_laws_heldInt64S_0 (N : Nat) : List (Int) × Unit → (Int × Int × Unit → Option ((Int × Unit) ⊕ (Int × Unit))) → Int × Int × Unit → Option ((Int × Unit) ⊕ (Int × Unit))
  | (a0, _), rec, (k1, i5, _) =>
    bif (decide (i5 < (a0.length : Int))) then bif (decide ((0 : Int) ≤ i5)) then bif (decide (i5 < (a0.length : Int))) then bif (!(decide ((gt a0 i5) = k1))) then some (.inl ((-(1 : Int)), ()))
       else rec ((IntKind.wrap .i64 (k1 + (1 : Int))), ((IntKind.wrap .i64 (i5 + (1 : Int))), ()))
      else none
     else none
    else some (.inr (k1, ()))
theorem s_laws_heldInt64S_0 (N : Nat) : ∀ σ p rec v, stepL (rn drawR (mkB (C35 N) [] [] [] []) 8 23 b23_0) 0 (wr b23_0) d_laws_heldInt64S_0 (instP σ d_laws_heldInt64S_0.pm p) rec v = n_laws_heldInt64S_0 N p rec v := by
  rintro σ ⟨a0, _⟩ rec ⟨k1, i5, _⟩; kernel_rfl
noncomputable def g_laws_heldInt64S_0 (N : Nat) : St (Sig.T SS) → Tr (Ex × St (Sig.T SS)) := orcL (wr b23_0) d_laws_heldInt64S_0 fun p => itN (n_laws_heldInt64S_0 N p) N
theorem o_laws_heldInt64S_0 (N : Nat) : Snd QQ (g_laws_heldInt64S_0 N) (.block 0 (blkOf 0 (blks c23))) := loopP LL DR_ok (KC35 N) (F := []) (J := []) (FGood.nil _) (M := []) (R := []) i23 (JGood.nil c23) e23_0 (s_laws_heldInt64S_0 N) N
/-- loop.example/g01139/laws.heldInt64S -/
def F_laws_heldInt64S (N : Nat) : List (Int) × Int × Unit → Option (Int × Unit)
  | (a0, k1, _) =>
    (itN (n_laws_heldInt64S_0 N (a0, ())) N (k1, ((0 : Int), ()))).bind fun r192 =>
    bif r192.isLeft then r192.getLeft?.bind fun r193 =>
      some (r193.1, ())
     else r192.getRight?.bind fun r194 =>
      some (r194.1, ())
theorem t23 (N : Nat) : ∀ v, (fr drawR (mkB (C35 N) [] [(23, [(0, g_laws_heldInt64S_0 N)])] [] []) 8 23 Try.f23 (instA [.c (.ls 2), .c (.int .i64)] v)).k (matR [.c (.int .i64)]) = F_laws_heldInt64S N v := by
  rintro ⟨a0, k1, _⟩; kernel_rfl
noncomputable def C23 (N : Nat) : CL SS := (23, conG [.c (.ls 2), .c (.int .i64)] [.c (.int .i64)] (F_laws_heldInt64S N)) :: C35 N
theorem KC23 (N : Nat) : COk QQ (C23 N) := COk.cons (conP LL DR_ok (KC35 N) (F := []) (J := [(23, [(0, g_laws_heldInt64S_0 N)])]) (FGood.nil _) (M := []) (R := []) i23 (JGood.cons i23.hd (o_laws_heldInt64S_0 N) (JGood.nil c23)) (t23 N)) (KC35 N)
noncomputable def c7 : Code := Try.f7.body.getD .skip
theorem i7 : IsF Try.prog 7 Try.f7 c7 := ⟨Try.func7, by kernel_rfl, by kernel_rfl, by kernel_rfl⟩
noncomputable def c21 : Code := Try.f21.body.getD .skip
theorem i21 : IsF Try.prog 21 Try.f21 c21 := ⟨Try.func21, by kernel_rfl, by kernel_rfl, by kernel_rfl⟩
noncomputable def c22 : Code := Try.f22.body.getD .skip
theorem i22 : IsF Try.prog 22 Try.f22 c22 := ⟨Try.func22, by kernel_rfl, by kernel_rfl, by kernel_rfl⟩
noncomputable def b21_0 : Code := unLoop (blkOf 0 (blks c21))
theorem e21_0 : blkOf 0 (blks c21) = .loop b21_0 := by kernel_rfl
-- loop.example/g01139/laws.markLineS: loop 0
def d_laws_FnExactPathOf_0 : LoopD := ⟨496, ⟨[(0, .c (.row 185))], [], 48⟩, ⟨[(1, .c (.int .i64)), (5, .c (.int .i64))], [(185, .row 63 [])], 504⟩, [], [185], [⟨.norm, ⟨[(1, .c (.int .i64))], [(185, .row 63 [])], 504⟩, [], [185]⟩]⟩
def n_laws_FnExactPathOf_0 (N : Nat) : Unit → (Int × Int × (List (Int × Int × Int × Int × Int)) × Unit → Option ((Int × (List (Int × Int × Int × Int × Int)) × Unit))) → Int × Int × (List (Int × Int × Int × Int × Int)) × Unit → Option ((Int × (List (Int × Int × Int × Int × Int)) × Unit))
  | _, rec, (k1, i5, o185, _) =>
    bif (decide (i5 < (o185.length : Int))) then bif (decide ((0 : Int) ≤ i5)) then bif (decide (i5 < (o185.length : Int))) then bif (decide ((0 : Int) ≤ i5)) then bif (decide (i5 < ((o185.set i5.toNat (k1, (gt o185 i5).2)).length : Int))) then bif (decide ((0 : Int) ≤ i5)) then bif (decide (i5 < (((o185.set i5.toNat (k1, (gt o185 i5).2)).set i5.toNat ((gt (o185.set i5.toNat (k1, (gt o185 i5).2)) i5).1, ((IntKind.wrap .i64 (k1 + (1 : Int))), (gt (o185.set i5.toNat (k1, (gt o185 i5).2)) i5).2.2))).length : Int))) then bif (decide ((0 : Int) ≤ i5)) then bif (decide (i5 < ((((o185.set i5.toNat (k1, (gt o185 i5).2)).set i5.toNat ((gt (o185.set i5.toNat (k1, (gt o185 i5).2)) i5).1, ((IntKind.wrap .i64 (k1 + (1 : Int))), (gt (o185.set i5.toNat (k1, (gt o185 i5).2)) i5).2.2))).set i5.toNat ((gt ((o185.set i5.toNat (k1, (gt o185 i5).2)).set i5.toNat ((gt (o185.set i5.toNat (k1, (gt o185 i5).2)) i5).1, ((IntKind.wrap .i64 (k1 + (1 : Int))), (gt (o185.set i5.toNat (k1, (gt o185 i5).2)) i5).2.2))) i5).1, ((gt ((o185.set i5.toNat (k1, (gt o185 i5).2)).set i5.toNat ((gt (o185.set i5.toNat (k1, (gt o185 i5).2)) i5).1, ((IntKind.wrap .i64 (k1 + (1 : Int))), (gt (o185.set i5.toNat (k1, (gt o185 i5).2)) i5).2.2))) i5).2.1, ((IntKind.wrap .i64 ((IntKind.wrap .i64 (k1 + (1 : Int))) + (1 : Int))), (gt ((o185.set i5.toNat (k1, (gt o185 i5).2)).set i5.toNat ((gt (o185.set i5.toNat (k1, (gt o185 i5).2)) i5).1, ((IntKind.wrap .i64 (k1 + (1 : Int))), (gt (o185.set i5.toNat (k1, (gt o185 i5).2)) i5).2.2))) i5).2.2.2)))).length : Int))) then bif (decide ((0 : Int) ≤ i5)) then bif (decide (i5 < (((((o185.set i5.toNat (k1, (gt o185 i5).2)).set i5.toNat ((gt (o185.set i5.toNat (k1, (gt o185 i5).2)) i5).1, ((IntKind.wrap .i64 (k1 + (1 : Int))), (gt (o185.set i5.toNat (k1, (gt o185 i5).2)) i5).2.2))).set i5.toNat ((gt ((o185.set i5.toNat (k1, (gt o185 i5).2)).set i5.toNat ((gt (o185.set i5.toNat (k1, (gt o185 i5).2)) i5).1, ((IntKind.wrap .i64 (k1 + (1 : Int))), (gt (o185.set i5.toNat (k1, (gt o185 i5).2)) i5).2.2))) i5).1, ((gt ((o185.set i5.toNat (k1, (gt o185 i5).2)).set i5.toNat ((gt (o185.set i5.toNat (k1, (gt o185 i5).2)) i5).1, ((IntKind.wrap .i64 (k1 + (1 : Int))), (gt (o185.set i5.toNat (k1, (gt o185 i5).2)) i5).2.2))) i5).2.1, ((IntKind.wrap .i64 ((IntKind.wrap .i64 (k1 + (1 : Int))) + (1 : Int))), (gt ((o185.set i5.toNat (k1, (gt o185 i5).2)).set i5.toNat ((gt (o185.set i5.toNat (k1, (gt o185 i5).2)) i5).1, ((IntKind.wrap .i64 (k1 + (1 : Int))), (gt (o185.set i5.toNat (k1, (gt o185 i5).2)) i5).2.2))) i5).2.2.2)))).set i5.toNat ((gt (((o185.set i5.toNat (k1, (gt o185 i5).2)).set i5.toNat ((gt (o185.set i5.toNat (k1, (gt o185 i5).2)) i5).1, ((IntKind.wrap .i64 (k1 + (1 : Int))), (gt (o185.set i5.toNat (k1, (gt o185 i5).2)) i5).2.2))).set i5.toNat ((gt ((o185.set i5.toNat (k1, (gt o185 i5).2)).set i5.toNat ((gt (o185.set i5.toNat (k1, (gt o185 i5).2)) i5).1, ((IntKind.wrap .i64 (k1 + (1 : Int))), (gt (o185.set i5.toNat (k1, (gt o185 i5).2)) i5).2.2))) i5).1, ((gt ((o185.set i5.toNat (k1, (gt o185 i5).2)).set i5.toNat ((gt (o185.set i5.toNat (k1, (gt o185 i5).2)) i5).1, ((IntKind.wrap .i64 (k1 + (1 : Int))), (gt (o185.set i5.toNat (k1, (gt o185 i5).2)) i5).2.2))) i5).2.1, ((IntKind.wrap .i64 ((IntKind.wrap .i64 (k1 + (1 : Int))) + (1 : Int))), (gt ((o185.set i5.toNat (k1, (gt o185 i5).2)).set i5.toNat ((gt (o185.set i5.toNat (k1, (gt o185 i5).2)) i5).1, ((IntKind.wrap .i64 (k1 + (1 : Int))), (gt (o185.set i5.toNat (k1, (gt o185 i5).2)) i5).2.2))) i5).2.2.2)))) i5).1, ((gt (((o185.set i5.toNat (k1, (gt o185 i5).2)).set i5.toNat ((gt (o185.set i5.toNat (k1, (gt o185 i5).2)) i5).1, ((IntKind.wrap .i64 (k1 + (1 : Int))), (gt (o185.set i5.toNat (k1, (gt o185 i5).2)) i5).2.2))).set i5.toNat ((gt ((o185.set i5.toNat (k1, (gt o185 i5).2)).set i5.toNat ((gt (o185.set i5.toNat (k1, (gt o185 i5).2)) i5).1, ((IntKind.wrap .i64 (k1 + (1 : Int))), (gt (o185.set i5.toNat (k1, (gt o185 i5).2)) i5).2.2))) i5).1, ((gt ((o185.set i5.toNat (k1, (gt o185 i5).2)).set i5.toNat ((gt (o185.set i5.toNat (k1, (gt o185 i5).2)) i5).1, ((IntKind.wrap .i64 (k1 + (1 : Int))), (gt (o185.set i5.toNat (k1, (gt o185 i5).2)) i5).2.2))) i5).2.1, ((IntKind.wrap .i64 ((IntKind.wrap .i64 (k1 + (1 : Int))) + (1 : Int))), (gt ((o185.set i5.toNat (k1, (gt o185 i5).2)).set i5.toNat ((gt (o185.set i5.toNat (k1, (gt o185 i5).2)) i5).1, ((IntKind.wrap .i64 (k1 + (1 : Int))), (gt (o185.set i5.toNat (k1, (gt o185 i5).2)) i5).2.2))) i5).2.2.2)))) i5).2.1, ((gt (((o185.set i5.toNat (k1, (gt o185 i5).2)).set i5.toNat ((gt (o185.set i5.toNat (k1, (gt o185 i5).2)) i5).1, ((IntKind.wrap .i64 (k1 + (1 : Int))), (gt (o185.set i5.toNat (k1, (gt o185 i5).2)) i5).2.2))).set i5.toNat ((gt ((o185.set i5.toNat (k1, (gt o185 i5).2)).set i5.toNat ((gt (o185.set i5.toNat (k1, (gt o185 i5).2)) i5).1, ((IntKind.wrap .i64 (k1 + (1 : Int))), (gt (o185.set i5.toNat (k1, (gt o185 i5).2)) i5).2.2))) i5).1, ((gt ((o185.set i5.toNat (k1, (gt o185 i5).2)).set i5.toNat ((gt (o185.set i5.toNat (k1, (gt o185 i5).2)) i5).1, ((IntKind.wrap .i64 (k1 + (1 : Int))), (gt (o185.set i5.toNat (k1, (gt o185 i5).2)) i5).2.2))) i5).2.1, ((IntKind.wrap .i64 ((IntKind.wrap .i64 (k1 + (1 : Int))) + (1 : Int))), (gt ((o185.set i5.toNat (k1, (gt o185 i5).2)).set i5.toNat ((gt (o185.set i5.toNat (k1, (gt o185 i5).2)) i5).1, ((IntKind.wrap .i64 (k1 + (1 : Int))), (gt (o185.set i5.toNat (k1, (gt o185 i5).2)) i5).2.2))) i5).2.2.2)))) i5).2.2.1, ((IntKind.wrap .i64 ((IntKind.wrap .i64 ((IntKind.wrap .i64 (k1 + (1 : Int))) + (1 : Int))) + (1 : Int))), (gt (((o185.set i5.toNat (k1, (gt o185 i5).2)).set i5.toNat ((gt (o185.set i5.toNat (k1, (gt o185 i5).2)) i5).1, ((IntKind.wrap .i64 (k1 + (1 : Int))), (gt (o185.set i5.toNat (k1, (gt o185 i5).2)) i5).2.2))).set i5.toNat ((gt ((o185.set i5.toNat (k1, (gt o185 i5).2)).set i5.toNat ((gt (o185.set i5.toNat (k1, (gt o185 i5).2)) i5).1, ((IntKind.wrap .i64 (k1 + (1 : Int))), (gt (o185.set i5.toNat (k1, (gt o185 i5).2)) i5).2.2))) i5).1, ((gt ((o185.set i5.toNat (k1, (gt o185 i5).2)).set i5.toNat ((gt (o185.set i5.toNat (k1, (gt o185 i5).2)) i5).1, ((IntKind.wrap .i64 (k1 + (1 : Int))), (gt (o185.set i5.toNat (k1, (gt o185 i5).2)) i5).2.2))) i5).2.1, ((IntKind.wrap .i64 ((IntKind.wrap .i64 (k1 + (1 : Int))) + (1 : Int))), (gt ((o185.set i5.toNat (k1, (gt o185 i5).2)).set i5.toNat ((gt (o185.set i5.toNat (k1, (gt o185 i5).2)) i5).1, ((IntKind.wrap .i64 (k1 + (1 : Int))), (gt (o185.set i5.toNat (k1, (gt o185 i5).2)) i5).2.2))) i5).2.2.2)))) i5).2.2.2.2))))).length : Int))) then rec ((IntKind.wrap .i64 ((IntKind.wrap .i64 ((IntKind.wrap .i64 ((IntKind.wrap .i64 ((IntKind.wrap .i64 (k1 + (1 : Int))) + (1 : Int))) + (1 : Int))) + (1 : Int))) + (1 : Int))), ((IntKind.wrap .i64 (i5 + (1 : Int))), ((((((o185.set i5.toNat (k1, (gt o185 i5).2)).set i5.toNat ((gt (o185.set i5.toNat (k1, (gt o185 i5).2)) i5).1, ((IntKind.wrap .i64 (k1 + (1 : Int))), (gt (o185.set i5.toNat (k1, (gt o185 i5).2)) i5).2.2))).set i5.toNat ((gt ((o185.set i5.toNat (k1, (gt o185 i5).2)).set i5.toNat ((gt (o185.set i5.toNat (k1, (gt o185 i5).2)) i5).1, ((IntKind.wrap .i64 (k1 + (1 : Int))), (gt (o185.set i5.toNat (k1, (gt o185 i5).2)) i5).2.2))) i5).1, ((gt ((o185.set i5.toNat (k1, (gt o185 i5).2)).set i5.toNat ((gt (o185.set i5.toNat (k1, (gt o185 i5).2)) i5).1, ((IntKind.wrap .i64 (k1 + (1 : Int))), (gt (o185.set i5.toNat (k1, (gt o185 i5).2)) i5).2.2))) i5).2.1, ((IntKind.wrap .i64 ((IntKind.wrap .i64 (k1 + (1 : Int))) + (1 : Int))), (gt ((o185.set i5.toNat (k1, (gt o185 i5).2)).set i5.toNat ((gt (o185.set i5.toNat (k1, (gt o185 i5).2)) i5).1, ((IntKind.wrap .i64 (k1 + (1 : Int))), (gt (o185.set i5.toNat (k1, (gt o185 i5).2)) i5).2.2))) i5).2.2.2)))).set i5.toNat ((gt (((o185.set i5.toNat (k1, (gt o185 i5).2)).set i5.toNat ((gt (o185.set i5.toNat (k1, (gt o185 i5).2)) i5).1, ((IntKind.wrap .i64 (k1 + (1 : Int))), (gt (o185.set i5.toNat (k1, (gt o185 i5).2)) i5).2.2))).set i5.toNat ((gt ((o185.set i5.toNat (k1, (gt o185 i5).2)).set i5.toNat ((gt (o185.set i5.toNat (k1, (gt o185 i5).2)) i5).1, ((IntKind.wrap .i64 (k1 + (1 : Int))), (gt (o185.set i5.toNat (k1, (gt o185 i5).2)) i5).2.2))) i5).1, ((gt ((o185.set i5.toNat (k1, (gt o185 i5).2)).set i5.toNat ((gt (o185.set i5.toNat (k1, (gt o185 i5).2)) i5).1, ((IntKind.wrap .i64 (k1 + (1 : Int))), (gt (o185.set i5.toNat (k1, (gt o185 i5).2)) i5).2.2))) i5).2.1, ((IntKind.wrap .i64 ((IntKind.wrap .i64 (k1 + (1 : Int))) + (1 : Int))), (gt ((o185.set i5.toNat (k1, (gt o185 i5).2)).set i5.toNat ((gt (o185.set i5.toNat (k1, (gt o185 i5).2)) i5).1, ((IntKind.wrap .i64 (k1 + (1 : Int))), (gt (o185.set i5.toNat (k1, (gt o185 i5).2)) i5).2.2))) i5).2.2.2)))) i5).1, ((gt (((o185.set i5.toNat (k1, (gt o185 i5).2)).set i5.toNat ((gt (o185.set i5.toNat (k1, (gt o185 i5).2)) i5).1, ((IntKind.wrap .i64 (k1 + (1 : Int))), (gt (o185.set i5.toNat (k1, (gt o185 i5).2)) i5).2.2))).set i5.toNat ((gt ((o185.set i5.toNat (k1, (gt o185 i5).2)).set i5.toNat ((gt (o185.set i5.toNat (k1, (gt o185 i5).2)) i5).1, ((IntKind.wrap .i64 (k1 + (1 : Int))), (gt (o185.set i5.toNat (k1, (gt o185 i5).2)) i5).2.2))) i5).1, ((gt ((o185.set i5.toNat (k1, (gt o185 i5).2)).set i5.toNat ((gt (o185.set i5.toNat (k1, (gt o185 i5).2)) i5).1, ((IntKind.wrap .i64 (k1 + (1 : Int))), (gt (o185.set i5.toNat (k1, (gt o185 i5).2)) i5).2.2))) i5).2.1, ((IntKind.wrap .i64 ((IntKind.wrap .i64 (k1 + (1 : Int))) + (1 : Int))), (gt ((o185.set i5.toNat (k1, (gt o185 i5).2)).set i5.toNat ((gt (o185.set i5.toNat (k1, (gt o185 i5).2)) i5).1, ((IntKind.wrap .i64 (k1 + (1 : Int))), (gt (o185.set i5.toNat (k1, (gt o185 i5).2)) i5).2.2))) i5).2.2.2)))) i5).2.1, ((gt (((o185.set i5.toNat (k1, (gt o185 i5).2)).set i5.toNat ((gt (o185.set i5.toNat (k1, (gt o185 i5).2)) i5).1, ((IntKind.wrap .i64 (k1 + (1 : Int))), (gt (o185.set i5.toNat (k1, (gt o185 i5).2)) i5).2.2))).set i5.toNat ((gt ((o185.set i5.toNat (k1, (gt o185 i5).2)).set i5.toNat ((gt (o185.set i5.toNat (k1, (gt o185 i5).2)) i5).1, ((IntKind.wrap .i64 (k1 + (1 : Int))), (gt (o185.set i5.toNat (k1, (gt o185 i5).2)) i5).2.2))) i5).1, ((gt ((o185.set i5.toNat (k1, (gt o185 i5).2)).set i5.toNat ((gt (o185.set i5.toNat (k1, (gt o185 i5).2)) i5).1, ((IntKind.wrap .i64 (k1 + (1 : Int))), (gt (o185.set i5.toNat (k1, (gt o185 i5).2)) i5).2.2))) i5).2.1, ((IntKind.wrap .i64 ((IntKind.wrap .i64 (k1 + (1 : Int))) + (1 : Int))), (gt ((o185.set i5.toNat (k1, (gt o185 i5).2)).set i5.toNat ((gt (o185.set i5.toNat (k1, (gt o185 i5).2)) i5).1, ((IntKind.wrap .i64 (k1 + (1 : Int))), (gt (o185.set i5.toNat (k1, (gt o185 i5).2)) i5).2.2))) i5).2.2.2)))) i5).2.2.1, ((IntKind.wrap .i64 ((IntKind.wrap .i64 ((IntKind.wrap .i64 (k1 + (1 : Int))) + (1 : Int))) + (1 : Int))), (gt (((o185.set i5.toNat (k1, (gt o185 i5).2)).set i5.toNat ((gt (o185.set i5.toNat (k1, (gt o185 i5).2)) i5).1, ((IntKind.wrap .i64 (k1 + (1 : Int))), (gt (o185.set i5.toNat (k1, (gt o185 i5).2)) i5).2.2))).set i5.toNat ((gt ((o185.set i5.toNat (k1, (gt o185 i5).2)).set i5.toNat ((gt (o185.set i5.toNat (k1, (gt o185 i5).2)) i5).1, ((IntKind.wrap .i64 (k1 + (1 : Int))), (gt (o185.set i5.toNat (k1, (gt o185 i5).2)) i5).2.2))) i5).1, ((gt ((o185.set i5.toNat (k1, (gt o185 i5).2)).set i5.toNat ((gt (o185.set i5.toNat (k1, (gt o185 i5).2)) i5).1, ((IntKind.wrap .i64 (k1 + (1 : Int))), (gt (o185.set i5.toNat (k1, (gt o185 i5).2)) i5).2.2))) i5).2.1, ((IntKind.wrap .i64 ((IntKind.wrap .i64 (k1 + (1 : Int))) + (1 : Int))), (gt ((o185.set i5.toNat (k1, (gt o185 i5).2)).set i5.toNat ((gt (o185.set i5.toNat (k1, (gt o185 i5).2)) i5).1, ((IntKind.wrap .i64 (k1 + (1 : Int))), (gt (o185.set i5.toNat (k1, (gt o185 i5).2)) i5).2.2))) i5).2.2.2)))) i5).2.2.2.2))))).set i5.toNat ((gt ((((o185.set i5.toNat (k1, (gt o185 i5).2)).set i5.toNat ((gt (o185.set i5.toNat (k1, (gt o185 i5).2)) i5).1, ((IntKind.wrap .i64 (k1 + (1 : Int))), (gt (o185.set i5.toNat (k1, (gt o185 i5).2)) i5).2.2))).set i5.toNat ((gt ((o185.set i5.toNat (k1, (gt o185 i5).2)).set i5.toNat ((gt (o185.set i5.toNat (k1, (gt o185 i5).2)) i5).1, ((IntKind.wrap .i64 (k1 + (1 : Int))), (gt (o185.set i5.toNat (k1, (gt o185 i5).2)) i5).2.2))) i5).1, ((gt ((o185.set i5.toNat (k1, (gt o185 i5).2)).set i5.toNat ((gt (o185.set i5.toNat (k1, (gt o185 i5).2)) i5).1, ((IntKind.wrap .i64 (k1 + (1 : Int))), (gt (o185.set i5.toNat (k1, (gt o185 i5).2)) i5).2.2))) i5).2.1, ((IntKind.wrap .i64 ((IntKind.wrap .i64 (k1 + (1 : Int))) + (1 : Int))), (gt ((o185.set i5.toNat (k1, (gt o185 i5).2)).set i5.toNat ((gt (o185.set i5.toNat (k1, (gt o185 i5).2)) i5).1, ((IntKind.wrap .i64 (k1 + (1 : Int))), (gt (o185.set i5.toNat (k1, (gt o185 i5).2)) i5).2.2))) i5).2.2.2)))).set i5.toNat ((gt (((o185.set i5.toNat (k1, (gt o185 i5).2)).set i5.toNat ((gt (o185.set i5.toNat (k1, (gt o185 i5).2)) i5).1, ((IntKind.wrap .i64 (k1 + (1 : Int))), (gt (o185.set i5.toNat (k1, (gt o185 i5).2)) i5).2.2))).set i5.toNat ((gt ((o185.set i5.toNat (k1, (gt o185 i5).2)).set i5.toNat ((gt (o185.set i5.toNat (k1, (gt o185 i5).2)) i5).1, ((IntKind.wrap .i64 (k1 + (1 : Int))), (gt (o185.set i5.toNat (k1, (gt o185 i5).2)) i5).2.2))) i5).1, ((gt ((o185.set i5.toNat (k1, (gt o185 i5).2)).set i5.toNat ((gt (o185.set i5.toNat (k1, (gt o185 i5).2)) i5).1, ((IntKind.wrap .i64 (k1 + (1 : Int))), (gt (o185.set i5.toNat (k1, (gt o185 i5).2)) i5).2.2))) i5).2.1, ((IntKind.wrap .i64 ((IntKind.wrap .i64 (k1 + (1 : Int))) + (1 : Int))), (gt ((o185.set i5.toNat (k1, (gt o185 i5).2)).set i5.toNat ((gt (o185.set i5.toNat (k1, (gt o185 i5).2)) i5).1, ((IntKind.wrap .i64 (k1 + (1 : Int))), (gt (o185.set i5.toNat (k1, (gt o185 i5).2)) i5).2.2))) i5).2.2.2)))) i5).1, ((gt (((o185.set i5.toNat (k1, (gt o185 i5).2)).set i5.toNat ((gt (o185.set i5.toNat (k1, (gt o185 i5).2)) i5).1, ((IntKind.wrap .i64 (k1 + (1 : Int))), (gt (o185.set i5.toNat (k1, (gt o185 i5).2)) i5).2.2))).set i5.toNat ((gt ((o185.set i5.toNat (k1, (gt o185 i5).2)).set i5.toNat ((gt (o185.set i5.toNat (k1, (gt o185 i5).2)) i5).1, ((IntKind.wrap .i64 (k1 + (1 : Int))), (gt (o185.set i5.toNat (k1, (gt o185 i5).2)) i5).2.2))) i5).1, ((gt ((o185.set i5.toNat (k1, (gt o185 i5).2)).set i5.toNat ((gt (o185.set i5.toNat (k1, (gt o185 i5).2)) i5).1, ((IntKind.wrap .i64 (k1 + (1 : Int))), (gt (o185.set i5.toNat (k1, (gt o185 i5).2)) i5).2.2))) i5).2.1, ((IntKind.wrap .i64 ((IntKind.wrap .i64 (k1 + (1 : Int))) + (1 : Int))), (gt ((o185.set i5.toNat (k1, (gt o185 i5).2)).set i5.toNat ((gt (o185.set i5.toNat (k1, (gt o185 i5).2)) i5).1, ((IntKind.wrap .i64 (k1 + (1 : Int))), (gt (o185.set i5.toNat (k1, (gt o185 i5).2)) i5).2.2))) i5).2.2.2)))) i5).2.1, ((gt (((o185.set i5.toNat (k1, (gt o185 i5).2)).set i5.toNat ((gt (o185.set i5.toNat (k1, (gt o185 i5).2)) i5).1, ((IntKind.wrap .i64 (k1 + (1 : Int))), (gt (o185.set i5.toNat (k1, (gt o185 i5).2)) i5).2.2))).set i5.toNat ((gt ((o185.set i5.toNat (k1, (gt o185 i5).2)).set i5.toNat ((gt (o185.set i5.toNat (k1, (gt o185 i5).2)) i5).1, ((IntKind.wrap .i64 (k1 + (1 : Int))), (gt (o185.set i5.toNat (k1, (gt o185 i5).2)) i5).2.2))) i5).1, ((gt ((o185.set i5.toNat (k1, (gt o185 i5).2)).set i5.toNat ((gt (o185.set i5.toNat (k1, (gt o185 i5).2)) i5).1, ((IntKind.wrap .i64 (k1 + (1 : Int))), (gt (o185.set i5.toNat (k1, (gt o185 i5).2)) i5).2.2))) i5).2.1, ((IntKind.wrap .i64 ((IntKind.wrap .i64 (k1 + (1 : Int))) + (1 : Int))), (gt ((o185.set i5.toNat (k1, (gt o185 i5).2)).set i5.toNat ((gt (o185.set i5.toNat (k1, (gt o185 i5).2)) i5).1, ((IntKind.wrap .i64 (k1 + (1 : Int))), (gt (o185.set i5.toNat (k1, (gt o185 i5).2)) i5).2.2))) i5).2.2.2)))) i5).2.2.1, ((IntKind.wrap .i64 ((IntKind.wrap .i64 ((IntKind.wrap .i64 (k1 + (1 : Int))) + (1 : Int))) + (1 : Int))), (gt (((o185.set i5.toNat (k1, (gt o185 i5).2)).set i5.toNat ((gt (o185.set i5.toNat (k1, (gt o185 i5).2)) i5).1, ((IntKind.wrap .i64 (k1 + (1 : Int))), (gt (o185.set i5.toNat (k1, (gt o185 i5).2)) i5).2.2))).set i5.toNat ((gt ((o185.set i5.toNat (k1, (gt o185 i5).2)).set i5.toNat ((gt (o185.set i5.toNat (k1, (gt o185 i5).2)) i5).1, ((IntKind.wrap .i64 (k1 + (1 : Int))), (gt (o185.set i5.toNat (k1, (gt o185 i5).2)) i5).2.2))) i5).1, ((gt ((o185.set i5.toNat (k1, (gt o185 i5).2)).set i5.toNat ((gt (o185.set i5.toNat (k1, (gt o185 i5).2)) i5).1, ((IntKind.wrap .i64 (k1 + (1 : Int))), (gt (o185.set i5.toNat (k1, (gt o185 i5).2)) i5).2.2))) i5).2.1, ((IntKind.wrap .i64 ((IntKind.wrap .i64 (k1 + (1 : Int))) + (1 : Int))), (gt ((o185.set i5.toNat (k1, (gt o185 i5).2)).set i5.toNat ((gt (o185.set i5.toNat (k1, (gt o185 i5).2)) i5).1, ((IntKind.wrap .i64 (k1 + (1 : Int))), (gt (o185.set i5.toNat (k1, (gt o185 i5).2)) i5).2.2))) i5).2.2.2)))) i5).2.2.2.2))))) i5).1, ((gt ((((o185.set i5.toNat (k1, (gt o185 i5).2)).set i5.toNat ((gt (o185.set i5.toNat (k1, (gt o185 i5).2)) i5).1, ((IntKind.wrap .i64 (k1 + (1 : Int))), (gt (o185.set i5.toNat (k1, (gt o185 i5).2)) i5).2.2))).set i5.toNat ((gt ((o185.set i5.toNat (k1, (gt o185 i5).2)).set i5.toNat ((gt (o185.set i5.toNat (k1, (gt o185 i5).2)) i5).1, ((IntKind.wrap .i64 (k1 + (1 : Int))), (gt (o185.set i5.toNat (k1, (gt o185 i5).2)) i5).2.2))) i5).1, ((gt ((o185.set i5.toNat (k1, (gt o185 i5).2)).set i5.toNat ((gt (o185.set i5.toNat (k1, (gt o185 i5).2)) i5).1, ((IntKind.wrap .i64 (k1 + (1 : Int))), (gt (o185.set i5.toNat (k1, (gt o185 i5).2)) i5).2.2))) i5).2.1, ((IntKind.wrap .i64 ((IntKind.wrap .i64 (k1 + (1 : Int))) + (1 : Int))), (gt ((o185.set i5.toNat (k1, (gt o185 i5).2)).set i5.toNat ((gt (o185.set i5.toNat (k1, (gt o185 i5).2)) i5).1, ((IntKind.wrap .i64 (k1 + (1 : Int))), (gt (o185.set i5.toNat (k1, (gt o185 i5).2)) i5).2.2))) i5).2.2.2)))).set i5.toNat ((gt (((o185.set i5.toNat (k1, (gt o185 i5).2)).set i5.toNat ((gt (o185.set i5.toNat (k1, (gt o185 i5).2)) i5).1, ((IntKind.wrap .i64 (k1 + (1 : Int))), (gt (o185.set i5.toNat (k1, (gt o185 i5).2)) i5).2.2))).set i5.toNat ((gt ((o185.set i5.toNat (k1, (gt o185 i5).2)).set i5.toNat ((gt (o185.set i5.toNat (k1, (gt o185 i5).2)) i5).1, ((IntKind.wrap .i64 (k1 + (1 : Int))), (gt (o185.set i5.toNat (k1, (gt o185 i5).2)) i5).2.2))) i5).1, ((gt ((o185.set i5.toNat (k1, (gt o185 i5).2)).set i5.toNat ((gt (o185.set i5.toNat (k1, (gt o185 i5).2)) i5).1, ((IntKind.wrap .i64 (k1 + (1 : Int))), (gt (o185.set i5.toNat (k1, (gt o185 i5).2)) i5).2.2))) i5).2.1, ((IntKind.wrap .i64 ((IntKind.wrap .i64 (k1 + (1 : Int))) + (1 : Int))), (gt ((o185.set i5.toNat (k1, (gt o185 i5).2)).set i5.toNat ((gt (o185.set i5.toNat (k1, (gt o185 i5).2)) i5).1, ((IntKind.wrap .i64 (k1 + (1 : Int))), (gt (o185.set i5.toNat (k1, (gt o185 i5).2)) i5).2.2))) i5).2.2.2)))) i5).1, ((gt (((o185.set i5.toNat (k1, (gt o185 i5).2)).set i5.toNat ((gt (o185.set i5.toNat (k1, (gt o185 i5).2)) i5).1, ((IntKind.wrap .i64 (k1 + (1 : Int))), (gt (o185.set i5.toNat (k1, (gt o185 i5).2)) i5).2.2))).set i5.toNat ((gt ((o185.set i5.toNat (k1, (gt o185 i5).2)).set i5.toNat ((gt (o185.set i5.toNat (k1, (gt o185 i5).2)) i5).1, ((IntKind.wrap .i64 (k1 + (1 : Int))), (gt (o185.set i5.toNat (k1, (gt o185 i5).2)) i5).2.2))) i5).1, ((gt ((o185.set i5.toNat (k1, (gt o185 i5).2)).set i5.toNat ((gt (o185.set i5.toNat (k1, (gt o185 i5).2)) i5).1, ((IntKind.wrap .i64 (k1 + (1 : Int))), (gt (o185.set i5.toNat (k1, (gt o185 i5).2)) i5).2.2))) i5).2.1, ((IntKind.wrap .i64 ((IntKind.wrap .i64 (k1 + (1 : Int))) + (1 : Int))), (gt ((o185.set i5.toNat (k1, (gt o185 i5).2)).set i5.toNat ((gt (o185.set i5.toNat (k1, (gt o185 i5).2)) i5).1, ((IntKind.wrap .i64 (k1 + (1 : Int))), (gt (o185.set i5.toNat (k1, (gt o185 i5).2)) i5).2.2))) i5).2.2.2)))) i5).2.1, ((gt (((o185.set i5.toNat (k1, (gt o185 i5).2)).set i5.toNat ((gt (o185.set i5.toNat (k1, (gt o185 i5).2)) i5).1, ((IntKind.wrap .i64 (k1 + (1 : Int))), (gt (o185.set i5.toNat (k1, (gt o185 i5).2)) i5).2.2))).set i5.toNat ((gt ((o185.set i5.toNat (k1, (gt o185 i5).2)).set i5.toNat ((gt (o185.set i5.toNat (k1, (gt o185 i5).2)) i5).1, ((IntKind.wrap .i64 (k1 + (1 : Int))), (gt (o185.set i5.toNat (k1, (gt o185 i5).2)) i5).2.2))) i5).1, ((gt ((o185.set i5.toNat (k1, (gt o185 i5).2)).set i5.toNat ((gt (o185.set i5.toNat (k1, (gt o185 i5).2)) i5).1, ((IntKind.wrap .i64 (k1 + (1 : Int))), (gt (o185.set i5.toNat (k1, (gt o185 i5).2)) i5).2.2))) i5).2.1, ((IntKind.wrap .i64 ((IntKind.wrap .i64 (k1 + (1 : Int))) + (1 : Int))), (gt ((o185.set i5.toNat (k1, (gt o185 i5).2)).set i5.toNat ((gt (o185.set i5.toNat (k1, (gt o185 i5).2)) i5).1, ((IntKind.wrap .i64 (k1 + (1 : Int))), (gt (o185.set i5.toNat (k1, (gt o185 i5).2)) i5).2.2))) i5).2.2.2)))) i5).2.2.1, ((IntKind.wrap .i64 ((IntKind.wrap .i64 ((IntKind.wrap .i64 (k1 + (1 : Int))) + (1 : Int))) + (1 : Int))), (gt (((o185.set i5.toNat (k1, (gt o185 i5).2)).set i5.toNat ((gt (o185.set i5.toNat (k1, (gt o185 i5).2)) i5).1, ((IntKind.wrap .i64 (k1 + (1 : Int))), (gt (o185.set i5.toNat (k1, (gt o185 i5).2)) i5).2.2))).set i5.toNat ((gt ((o185.set i5.toNat (k1, (gt o185 i5).2)).set i5.toNat ((gt (o185.set i5.toNat (k1, (gt o185 i5).2)) i5).1, ((IntKind.wrap .i64 (k1 + (1 : Int))), (gt (o185.set i5.toNat (k1, (gt o185 i5).2)) i5).2.2))) i5).1, ((gt ((o185.set i5.toNat (k1, (gt o185 i5).2)).set i5.toNat ((gt (o185.set i5.toNat (k1, (gt o185 i5).2)) i5).1, ((IntKind.wrap .i64 (k1 + (1 : Int))), (gt (o185.set i5.toNat (k1, (gt o185 i5).2)) i5).2.2))) i5).2.1, ((IntKind.wrap .i64 ((IntKind.wrap .i64 (k1 + (1 : Int))) + (1 : Int))), (gt ((o185.set i5.toNat (k1, (gt o185 i5).2)).set i5.toNat ((gt (o185.set i5.toNat (k1, (gt o185 i5).2)) i5).1, ((IntKind.wrap .i64 (k1 + (1 : Int))), (gt (o185.set i5.toNat (k1, (gt o185 i5).2)) i5).2.2))) i5).2.2.2)))) i5).2.2.2.2))))) i5).2.1, ((gt ((((o185.set i5.toNat (k1, (gt o185 i5).2)).set i5.toNat ((gt (o185.set i5.toNat (k1, (gt o185 i5).2)) i5).1, ((IntKind.wrap .i64 (k1 + (1 : Int))), (gt (o185.set i5.toNat (k1, (gt o185 i5).2)) i5).2.2))).set i5.toNat ((gt ((o185.set i5.toNat (k1, (gt o185 i5).2)).set i5.toNat ((gt (o185.set i5.toNat (k1, (gt o185 i5).2)) i5).1, ((IntKind.wrap .i64 (k1 + (1 : Int))), (gt (o185.set i5.toNat (k1, (gt o185 i5).2)) i5).2.2))) i5).1, ((gt ((o185.set i5.toNat (k1, (gt o185 i5).2)).set i5.toNat ((gt (o185.set i5.toNat (k1, (gt o185 i5).2)) i5).1, ((IntKind.wrap .i64 (k1 + (1 : Int))), (gt (o185.set i5.toNat (k1, (gt o185 i5).2)) i5).2.2))) i5).2.1, ((IntKind.wrap .i64 ((IntKind.wrap .i64 (k1 + (1 : Int))) + (1 : Int))), (gt ((o185.set i5.toNat (k1, (gt o185 i5).2)).set i5.toNat ((gt (o185.set i5.toNat (k1, (gt o185 i5).2)) i5).1, ((IntKind.wrap .i64 (k1 + (1 : Int))), (gt (o185.set i5.toNat (k1, (gt o185 i5).2)) i5).2.2))) i5).2.2.2)))).set i5.toNat ((gt (((o185.set i5.toNat (k1, (gt o185 i5).2)).set i5.toNat ((gt (o185.set i5.toNat (k1, (gt o185 i5).2)) i5).1, ((IntKind.wrap .i64 (k1 + (1 : Int))), (gt (o185.set i5.toNat (k1, (gt o185 i5).2)) i5).2.2))).set i5.toNat ((gt ((o185.set i5.toNat (k1, (gt o185 i5).2)).set i5.toNat ((gt (o185.set i5.toNat (k1, (gt o185 i5).2)) i5).1, ((IntKind.wrap .i64 (k1 + (1 : Int))), (gt (o185.set i5.toNat (k1, (gt o185 i5).2)) i5).2.2))) i5).1, ((gt ((o185.set i5.toNat (k1, (gt o185 i5).2)).set i5.toNat ((gt (o185.set i5.toNat (k1, (gt o185 i5).2)) i5).1, ((IntKind.wrap .i64 (k1 + (1 : Int))), (gt (o185.set i5.toNat (k1, (gt o185 i5).2)) i5).2.2))) i5).2.1, ((IntKind.wrap .i64 ((IntKind.wrap .i64 (k1 + (1 : Int))) + (1 : Int))), (gt ((o185.set i5.toNat (k1, (gt o185 i5).2)).set i5.toNat ((gt (o185.set i5.toNat (k1, (gt o185 i5).2)) i5).1, ((IntKind.wrap .i64 (k1 + (1 : Int))), (gt (o185.set i5.toNat (k1, (gt o185 i5).2)) i5).2.2))) i5).2.2.2)))) i5).1, ((gt (((o185.set i5.toNat (k1, (gt o185 i5).2)).set i5.toNat ((gt (o185.set i5.toNat (k1, (gt o185 i5).2)) i5).1, ((IntKind.wrap .i64 (k1 + (1 : Int))), (gt (o185.set i5.toNat (k1, (gt o185 i5).2)) i5).2.2))).set i5.toNat ((gt ((o185.set i5.toNat (k1, (gt o185 i5).2)).set i5.toNat ((gt (o185.set i5.toNat (k1, (gt o185 i5).2)) i5).1, ((IntKind.wrap .i64 (k1 + (1 : Int))), (gt (o185.set i5.toNat (k1, (gt o185 i5).2)) i5).2.2))) i5).1, ((gt ((o185.set i5.toNat (k1, (gt o185 i5).2)).set i5.toNat ((gt (o185.set i5.toNat (k1, (gt o185 i5).2)) i5).1, ((IntKind.wrap .i64 (k1 + (1 : Int))), (gt (o185.set i5.toNat (k1, (gt o185 i5).2)) i5).2.2))) i5).2.1, ((IntKind.wrap .i64 ((IntKind.wrap .i64 (k1 + (1 : Int))) + (1 : Int))), (gt ((o185.set i5.toNat (k1, (gt o185 i5).2)).set i5.toNat ((gt (o185.set i5.toNat (k1, (gt o185 i5).2)) i5).1, ((IntKind.wrap .i64 (k1 + (1 : Int))), (gt (o185.set i5.toNat (k1, (gt o185 i5).2)) i5).2.2))) i5).2.2.2)))) i5).2.1, ((gt (((o185.set i5.toNat (k1, (gt o185 i5).2)).set i5.toNat ((gt (o185.set i5.toNat (k1, (gt o185 i5).2)) i5).1, ((IntKind.wrap .i64 (k1 + (1 : Int))), (gt (o185.set i5.toNat (k1, (gt o185 i5).2)) i5).2.2))).set i5.toNat ((gt ((o185.set i5.toNat (k1, (gt o185 i5).2)).set i5.toNat ((gt (o185.set i5.toNat (k1, (gt o185 i5).2)) i5).1, ((IntKind.wrap .i64 (k1 + (1 : Int))), (gt (o185.set i5.toNat (k1, (gt o185 i5).2)) i5).2.2))) i5).1, ((gt ((o185.set i5.toNat (k1, (gt o185 i5).2)).set i5.toNat ((gt (o185.set i5.toNat (k1, (gt o185 i5).2)) i5).1, ((IntKind.wrap .i64 (k1 + (1 : Int))), (gt (o185.set i5.toNat (k1, (gt o185 i5).2)) i5).2.2))) i5).2.1, ((IntKind.wrap .i64 ((IntKind.wrap .i64 (k1 + (1 : Int))) + (1 : Int))), (gt ((o185.set i5.toNat (k1, (gt o185 i5).2)).set i5.toNat ((gt (o185.set i5.toNat (k1, (gt o185 i5).2)) i5).1, ((IntKind.wrap .i64 (k1 + (1 : Int))), (gt (o185.set i5.toNat (k1, (gt o185 i5).2)) i5).2.2))) i5).2.2.2)))) i5).2.2.1, ((IntKind.wrap .i64 ((IntKind.wrap .i64 ((IntKind.wrap .i64 (k1 + (1 : Int))) + (1 : Int))) + (1 : Int))), (gt (((o185.set i5.toNat (k1, (gt o185 i5).2)).set i5.toNat ((gt (o185.set i5.toNat (k1, (gt o185 i5).2)) i5).1, ((IntKind.wrap .i64 (k1 + (1 : Int))), (gt (o185.set i5.toNat (k1, (gt o185 i5).2)) i5).2.2))).set i5.toNat ((gt ((o185.set i5.toNat (k1, (gt o185 i5).2)).set i5.toNat ((gt (o185.set i5.toNat (k1, (gt o185 i5).2)) i5).1, ((IntKind.wrap .i64 (k1 + (1 : Int))), (gt (o185.set i5.toNat (k1, (gt o185 i5).2)) i5).2.2))) i5).1, ((gt ((o185.set i5.toNat (k1, (gt o185 i5).2)).set i5.toNat ((gt (o185.set i5.toNat (k1, (gt o185 i5).2)) i5).1, ((IntKind.wrap .i64 (k1 + (1 : Int))), (gt (o185.set i5.toNat (k1, (gt o185 i5).2)) i5).2.2))) i5).2.1, ((IntKind.wrap .i64 ((IntKind.wrap .i64 (k1 + (1 : Int))) + (1 : Int))), (gt ((o185.set i5.toNat (k1, (gt o185 i5).2)).set i5.toNat ((gt (o185.set i5.toNat (k1, (gt o185 i5).2)) i5).1, ((IntKind.wrap .i64 (k1 + (1 : Int))), (gt (o185.set i5.toNat (k1, (gt o185 i5).2)) i5).2.2))) i5).2.2.2)))) i5).2.2.2.2))))) i5).2.2.1, ((gt ((((o185.set i5.toNat (k1, (gt o185 i5).2)).set i5.toNat ((gt (o185.set i5.toNat (k1, (gt o185 i5).2)) i5).1, ((IntKind.wrap .i64 (k1 + (1 : Int))), (gt (o185.set i5.toNat (k1, (gt o185 i5).2)) i5).2.2))).set i5.toNat ((gt ((o185.set i5.toNat (k1, (gt o185 i5).2)).set i5.toNat ((gt (o185.set i5.toNat (k1, (gt o185 i5).2)) i5).1, ((IntKind.wrap .i64 (k1 + (1 : Int))), (gt (o185.set i5.toNat (k1, (gt o185 i5).2)) i5).2.2))) i5).1, ((gt ((o185.set i5.toNat (k1, (gt o185 i5).2)).set i5.toNat ((gt (o185.set i5.toNat (k1, (gt o185 i5).2)) i5).1, ((IntKind.wrap .i64 (k1 + (1 : Int))), (gt (o185.set i5.toNat (k1, (gt o185 i5).2)) i5).2.2))) i5).2.1, ((IntKind.wrap .i64 ((IntKind.wrap .i64 (k1 + (1 : Int))) + (1 : Int))), (gt ((o185.set i5.toNat (k1, (gt o185 i5).2)).set i5.toNat ((gt (o185.set i5.toNat (k1, (gt o185 i5).2)) i5).1, ((IntKind.wrap .i64 (k1 + (1 : Int))), (gt (o185.set i5.toNat (k1, (gt o185 i5).2)) i5).2.2))) i5).2.2.2)))).set i5.toNat ((gt (((o185.set i5.toNat (k1, (gt o185 i5).2)).set i5.toNat ((gt (o185.set i5.toNat (k1, (gt o185 i5).2)) i5).1, ((IntKind.wrap .i64 (k1 + (1 : Int))), (gt (o185.set i5.toNat (k1, (gt o185 i5).2)) i5).2.2))).set i5.toNat ((gt ((o185.set i5.toNat (k1, (gt o185 i5).2)).set i5.toNat ((gt (o185.set i5.toNat (k1, (gt o185 i5).2)) i5).1, ((IntKind.wrap .i64 (k1 + (1 : Int))), (gt (o185.set i5.toNat (k1, (gt o185 i5).2)) i5).2.2))) i5).1, ((gt ((o185.set i5.toNat (k1, (gt o185 i5).2)).set i5.toNat ((gt (o185.set i5.toNat (k1, (gt o185 i5).2)) i5).1, ((IntKind.wrap .i64 (k1 + (1 : Int))), (gt (o185.set i5.toNat (k1, (gt o185 i5).2)) i5).2.2))) i5).2.1, ((IntKind.wrap .i64 ((IntKind.wrap .i64 (k1 + (1 : Int))) + (1 : Int))), (gt ((o185.set i5.toNat (k1, (gt o185 i5).2)).set i5.toNat ((gt (o185.set i5.toNat (k1, (gt o185 i5).2)) i5).1, ((IntKind.wrap .i64 (k1 + (1 : Int))), (gt (o185.set i5.toNat (k1, (gt o185 i5).2)) i5).2.2))) i5).2.2.2)))) i5).1, ((gt (((o185.set i5.toNat (k1, (gt o185 i5).2)).set i5.toNat ((gt (o185.set i5.toNat (k1, (gt o185 i5).2)) i5).1, ((IntKind.wrap .i64 (k1 + (1 : Int))), (gt (o185.set i5.toNat (k1, (gt o185 i5).2)) i5).2.2))).set i5.toNat ((gt ((o185.set i5.toNat (k1, (gt o185 i5).2)).set i5.toNat ((gt (o185.set i5.toNat (k1, (gt o185 i5).2)) i5).1, ((IntKind.wrap .i64 (k1 + (1 : Int))), (gt (o185.set i5.toNat (k1, (gt o185 i5).2)) i5).2.2))) i5).1, ((gt ((o185.set i5.toNat (k1, (gt o185 i5).2)).set i5.toNat ((gt (o185.set i5.toNat (k1, (gt o185 i5).2)) i5).1, ((IntKind.wrap .i64 (k1 + (1 : Int))), (gt (o185.set i5.toNat (k1, (gt o185 i5).2)) i5).2.2))) i5).2.1, ((IntKind.wrap .i64 ((IntKind.wrap .i64 (k1 + (1 : Int))) + (1 : Int))), (gt ((o185.set i5.toNat (k1, (gt o185 i5).2)).set i5.toNat ((gt (o185.set i5.toNat (k1, (gt o185 i5).2)) i5).1, ((IntKind.wrap .i64 (k1 + (1 : Int))), (gt (o185.set i5.toNat (k1, (gt o185 i5).2)) i5).2.2))) i5).2.2.2)))) i5).2.1, ((gt (((o185.set i5.toNat (k1, (gt o185 i5).2)).set i5.toNat ((gt (o185.set i5.toNat (k1, (gt o185 i5).2)) i5).1, ((IntKind.wrap .i64 (k1 + (1 : Int))), (gt (o185.set i5.toNat (k1, (gt o185 i5).2)) i5).2.2))).set i5.toNat ((gt ((o185.set i5.toNat (k1, (gt o185 i5).2)).set i5.toNat ((gt (o185.set i5.toNat (k1, (gt o185 i5).2)) i5).1, ((IntKind.wrap .i64 (k1 + (1 : Int))), (gt (o185.set i5.toNat (k1, (gt o185 i5).2)) i5).2.2))) i5).1, ((gt ((o185.set i5.toNat (k1, (gt o185 i5).2)).set i5.toNat ((gt (o185.set i5.toNat (k1, (gt o185 i5).2)) i5).1, ((IntKind.wrap .i64 (k1 + (1 : Int))), (gt (o185.set i5.toNat (k1, (gt o185 i5).2)) i5).2.2))) i5).2.1, ((IntKind.wrap .i64 ((IntKind.wrap .i64 (k1 + (1 : Int))) + (1 : Int))), (gt ((o185.set i5.toNat (k1, (gt o185 i5).2)).set i5.toNat ((gt (o185.set i5.toNat (k1, (gt o185 i5).2)) i5).1, ((IntKind.wrap .i64 (k1 + (1 : Int))), (gt (o185.set i5.toNat (k1, (gt o185 i5).2)) i5).2.2))) i5).2.2.2)))) i5).2.2.1, ((IntKind.wrap .i64 ((IntKind.wrap .i64 ((IntKind.wrap .i64 (k1 + (1 : Int))) + (1 : Int))) + (1 : Int))), (gt (((o185.set i5.toNat (k1, (gt o185 i5).2)).set i5.toNat ((gt (o185.set i5.toNat (k1, (gt o185 i5).2)) i5).1, ((IntKind.wrap .i64 (k1 + (1 : Int))), (gt (o185.set i5.toNat (k1, (gt o185 i5).2)) i5).2.2))).set i5.toNat ((gt ((o185.set i5.toNat (k1, (gt o185 i5).2)).set i5.toNat ((gt (o185.set i5.toNat (k1, (gt o185 i5).2)) i5).1, ((IntKind.wrap .i64 (k1 + (1 : Int))), (gt (o185.set i5.toNat (k1, (gt o185 i5).2)) i5).2.2))) i5).1, ((gt ((o185.set i5.toNat (k1, (gt o185 i5).2)).set i5.toNat ((gt (o185.set i5.toNat (k1, (gt o185 i5).2)) i5).1, ((IntKind.wrap .i64 (k1 + (1 : Int))), (gt (o185.set i5.toNat (k1, (gt o185 i5).2)) i5).2.2))) i5).2.1, ((IntKind.wrap .i64 ((IntKind.wrap .i64 (k1 + (1 : Int))) + (1 : Int))), (gt ((o185.set i5.toNat (k1, (gt o185 i5).2)).set i5.toNat ((gt (o185.set i5.toNat (k1, (gt o185 i5).2)) i5).1, ((IntKind.wrap .i64 (k1 + (1 : Int))), (gt (o185.set i5.toNat (k1, (gt o185 i5).2)) i5).2.2))) i5).2.2.2)))) i5).2.2.2.2))))) i5).2.2.2.1, (IntKind.wrap .i64 ((IntKind.wrap .i64 ((IntKind.wrap .i64 ((IntKind.wrap .i64 (k1 + (1 : Int))) + (1 : Int))) + (1 : Int))) + (1 : Int)))))))), ())))
              else none
             else none
            else none
           else none
          else none
         else none
        else none
       else none
      else none
     else none
    else some (k1, (o185, ()))
theorem s_laws_FnExactPathOf_0 (N : Nat) : ∀ σ p rec v, stepL (rn drawR (mkB (C23 N) [(21, Try.f21), (22, Try.f22)] [] [] []) 8 21 b21_0) 0 (wr b21_0) d_laws_FnExactPathOf_0 (instP σ d_laws_FnExactPathOf_0.pm p) rec v = n_laws_FnExactPathOf_0 N p rec v := by
  rintro σ p rec ⟨k1, i5, o185, _⟩; kernel_rfl
noncomputable def g_laws_FnExactPathOf_0 (N : Nat) : St (Sig.T SS) → Tr (Ex × St (Sig.T SS)) := orcL (wr b21_0) d_laws_FnExactPathOf_0 fun p => itN (n_laws_FnExactPathOf_0 N p) N
theorem o_laws_FnExactPathOf_0 (N : Nat) : Snd QQ (g_laws_FnExactPathOf_0 N) (.block 0 (blkOf 0 (blks c21))) := loopP LL DR_ok (KC23 N) (F := [(21, Try.f21), (22, Try.f22)]) (J := []) (FGood.cons i21 (JGood.nil c21) (FGood.cons i22 (JGood.nil c22) (FGood.nil _))) (M := []) (R := []) i21 (JGood.nil c21) e21_0 (s_laws_FnExactPathOf_0 N) N
noncomputable def b22_0 : Code := unLoop (blkOf 0 (blks c22))
theorem e22_0 : blkOf 0 (blks c22) = .loop b22_0 := by kernel_rfl
-- loop.example/g01139/laws.markInt64S: loop 0
def d_laws_FnExactPathOf_1 : LoopD := ⟨568, ⟨[(0, .c (.row 209))], [], 19⟩, ⟨[(1, .c (.int .i64)), (5, .c (.int .i64))], [(209, .row 2 [])], 576⟩, [], [209], [⟨.norm, ⟨[(1, .c (.int .i64))], [(209, .row 2 [])], 576⟩, [], [209]⟩]⟩
def n_laws_FnExactPathOf_1 (N : Nat) : Unit → (Int × Int × List (Int) × Unit → Option ((Int × List (Int) × Unit))) → Int × Int × List (Int) × Unit → Option ((Int × List (Int) × Unit))
  | _, rec, (k1, i5, o209, _) =>
    bif (decide (i5 < (o209.length : Int))) then bif (decide ((0 : Int) ≤ i5)) then bif (decide (i5 < (o209.length : Int))) then rec ((IntKind.wrap .i64 (k1 + (1 : Int))), ((IntKind.wrap .i64 (i5 + (1 : Int))), ((o209.set i5.toNat k1), ())))
      else none
     else none
    else some (k1, (o209, ()))
theorem s_laws_FnExactPathOf_1 (N : Nat) : ∀ σ p rec v, stepL (rn drawR (mkB (C23 N) [(21, Try.f21), (22, Try.f22)] [(21, [(0, g_laws_FnExactPathOf_0 N)])] [] []) 8 22 b22_0) 0 (wr b22_0) d_laws_FnExactPathOf_1 (instP σ d_laws_FnExactPathOf_1.pm p) rec v = n_laws_FnExactPathOf_1 N p rec v := by
  rintro σ p rec ⟨k1, i5, o209, _⟩; kernel_rfl
noncomputable def g_laws_FnExactPathOf_1 (N : Nat) : St (Sig.T SS) → Tr (Ex × St (Sig.T SS)) := orcL (wr b22_0) d_laws_FnExactPathOf_1 fun p => itN (n_laws_FnExactPathOf_1 N p) N
theorem o_laws_FnExactPathOf_1 (N : Nat) : Snd QQ (g_laws_FnExactPathOf_1 N) (.block 0 (blkOf 0 (blks c22))) := loopP LL DR_ok (KC23 N) (F := [(21, Try.f21), (22, Try.f22)]) (J := [(21, [(0, g_laws_FnExactPathOf_0 N)])]) (FGood.cons i21 (JGood.cons i21.hd (o_laws_FnExactPathOf_0 N) (JGood.nil c21)) (FGood.cons i22 (JGood.nil c22) (FGood.nil _))) (M := []) (R := []) i22 (JGood.nil c22) e22_0 (s_laws_FnExactPathOf_1 N) N
-- loop.example/g01139/laws.markInt64S: loop 0
def d_laws_FnExactPathOf_2 : LoopD := ⟨752, ⟨[(0, .c (.row 249))], [], 19⟩, ⟨[(1, .c (.int .i64)), (5, .c (.int .i64))], [(249, .row 2 [])], 760⟩, [], [249], [⟨.norm, ⟨[(1, .c (.int .i64))], [(249, .row 2 [])], 760⟩, [], [249]⟩]⟩
def n_laws_FnExactPathOf_2 (N : Nat) : Unit → (Int × Int × List (Int) × Unit → Option ((Int × List (Int) × Unit))) → Int × Int × List (Int) × Unit → Option ((Int × List (Int) × Unit))
  | _, rec, (k1, i5, o249, _) =>
    bif (decide (i5 < (o249.length : Int))) then bif (decide ((0 : Int) ≤ i5)) then bif (decide (i5 < (o249.length : Int))) then rec ((IntKind.wrap .i64 (k1 + (1 : Int))), ((IntKind.wrap .i64 (i5 + (1 : Int))), ((o249.set i5.toNat k1), ())))
      else none
     else none
    else some (k1, (o249, ()))
theorem s_laws_FnExactPathOf_2 (N : Nat) : ∀ σ p rec v, stepL (rn drawR (mkB (C23 N) [(21, Try.f21), (22, Try.f22)] [(21, [(0, g_laws_FnExactPathOf_0 N)]), (22, [(0, g_laws_FnExactPathOf_1 N)])] [] []) 8 22 b22_0) 0 (wr b22_0) d_laws_FnExactPathOf_2 (instP σ d_laws_FnExactPathOf_2.pm p) rec v = n_laws_FnExactPathOf_2 N p rec v := by
  rintro σ p rec ⟨k1, i5, o249, _⟩; kernel_rfl
noncomputable def g_laws_FnExactPathOf_2 (N : Nat) : St (Sig.T SS) → Tr (Ex × St (Sig.T SS)) := orcL (wr b22_0) d_laws_FnExactPathOf_2 fun p => itN (n_laws_FnExactPathOf_2 N p) N
theorem o_laws_FnExactPathOf_2 (N : Nat) : Snd QQ (g_laws_FnExactPathOf_2 N) (.block 0 (blkOf 0 (blks c22))) := loopP LL DR_ok (KC23 N) (F := [(21, Try.f21), (22, Try.f22)]) (J := [(21, [(0, g_laws_FnExactPathOf_0 N)]), (22, [(0, g_laws_FnExactPathOf_1 N)])]) (FGood.cons i21 (JGood.cons i21.hd (o_laws_FnExactPathOf_0 N) (JGood.nil c21)) (FGood.cons i22 (JGood.cons i22.hd (o_laws_FnExactPathOf_1 N) (JGood.nil c22)) (FGood.nil _))) (M := []) (R := []) i22 (JGood.cons i22.hd (o_laws_FnExactPathOf_1 N) (JGood.nil c22)) e22_0 (s_laws_FnExactPathOf_2 N) N
/-- loop.example/g01139/laws.FnExactPathOf -/
def F_laws_FnExactPathOf (N : Nat) : Int × (List (Int × Int × Int × Int × Int)) × List (Int) × Unit → Option (Bool × Unit)
  | (aBits0, aLines1, aVars2, _) =>
    bif (decide ((aVars2.length : Int) > (1048576 : Int))) then some (true, ())
    else (F_laws_szLineS N (aLines1, ((1048576 : Int), ()))).bind fun r235 =>
     bif (decide (r235.1 < (0 : Int))) then some (true, ())
      else (F_laws_toLineS N (aLines1, ())).bind fun r236 =>
       (F_laws_toInt64S N (aVars2, ())).bind fun r237 =>
        (F_spec_PathOf N (aBits0, (r236.1, (r237.1, ())))).bind fun r238 =>
         (F_laws_toLineS N (aLines1, ())).bind fun r239 =>
          (F_laws_toInt64S N (aVars2, ())).bind fun r240 =>
           (F_impl_PathOf N (aBits0, (r239.1, (r240.1, ())))).bind fun r241 =>
            (F_laws_eqInt64S N (r241.1, (r238.1, ()))).bind fun r242 =>
             bif (!r242.1) then some (false, ())
              else bif (!(r241.2.1 == r238.2.1)) then some (false, ())
               else (F_laws_toLineS N (aLines1, ())).bind fun r243 =>
                (F_laws_eqLineS N (r239.1, (r243.1, ()))).bind fun r244 =>
                 bif (!r244.1) then some (false, ())
                  else (F_laws_toInt64S N (aVars2, ())).bind fun r245 =>
                   (F_laws_eqInt64S N (r240.1, (r245.1, ()))).bind fun r246 =>
                    bif (!r246.1) then some (false, ())
                     else (itN (n_laws_FnExactPathOf_0 N ()) N ((1 : Int), ((0 : Int), (r239.1, ())))).bind fun r247 =>
                      (itN (n_laws_FnExactPathOf_1 N ()) N (r247.1, ((0 : Int), (r240.1, ())))).bind fun r248 =>
                       bif (decide (r248.1 < (0 : Int))) then some (false, ())
                        else (F_laws_eqInt64S N (r241.1, (r238.1, ()))).bind fun r249 =>
                         bif (!r249.1) then some (false, ())
                          else bif (!(r241.2.1 == r238.2.1)) then some (false, ())
                           else (itN (n_laws_FnExactPathOf_2 N ()) N ((1 : Int), ((0 : Int), (r241.1, ())))).bind fun r250 =>
                            (F_laws_heldInt64S N (r250.2.1, ((1 : Int), ()))).bind fun r251 =>
                             bif (decide (r251.1 < (0 : Int))) then some (false, ())
                              else bif (!(decide (r251.1 = r250.1))) then some (false, ())
                               else (F_laws_toLineS N (aLines1, ())).bind fun r252 =>
                                (F_laws_toInt64S N (aVars2, ())).bind fun r253 =>
                                 (F_impl_PathOf N (aBits0, (r252.1, (r253.1, ())))).bind fun r254 =>
                                  (F_laws_eqInt64S N (r254.1, (r238.1, ()))).bind fun r255 =>
                                   bif (!r255.1) then some (false, ())
                                    else bif (!(r254.2.1 == r238.2.1)) then some (false, ())
                                     else (F_laws_heldInt64S N (r250.2.1, ((1 : Int), ()))).bind fun r256 =>
                                      bif (decide (r256.1 < (0 : Int))) then some (false, ())
                                       else bif (!(decide (r256.1 = r250.1))) then some (false, ())
                                        else some (true, ())
theorem t7 (N : Nat) : ∀ v, (fr drawR (mkB (C23 N) [(21, Try.f21), (22, Try.f22)] [(21, [(0, g_laws_FnExactPathOf_0 N)]), (22, [(0, altO d_laws_FnExactPathOf_1 (g_laws_FnExactPathOf_1 N) (g_laws_FnExactPathOf_2 N))])] [] []) 8 7 Try.f7 (instA [.c (.int .i64), .c (.ls 65), .c (.ls 2)] v)).k (matR [.c (.bool)]) = F_laws_FnExactPathOf N v := by
  rintro ⟨aBits0, aLines1, aVars2, _⟩; kernel_rfl
noncomputable def C7 (N : Nat) : CL SS := (7, conG [.c (.int .i64), .c (.ls 65), .c (.ls 2)] [.c (.bool)] (F_laws_FnExactPathOf N)) :: C23 N
theorem KC7 (N : Nat) : COk QQ (C7 N) := COk.cons (conP LL DR_ok (KC23 N) (F := [(21, Try.f21), (22, Try.f22)]) (J := [(21, [(0, g_laws_FnExactPathOf_0 N)]), (22, [(0, altO d_laws_FnExactPathOf_1 (g_laws_FnExactPathOf_1 N) (g_laws_FnExactPathOf_2 N))])]) (FGood.cons i21 (JGood.cons i21.hd (o_laws_FnExactPathOf_0 N) (JGood.nil c21)) (FGood.cons i22 (JGood.cons i22.hd (alt_ok (o_laws_FnExactPathOf_1 N) (o_laws_FnExactPathOf_2 N)) (JGood.nil c22)) (FGood.nil _))) (M := []) (R := []) i7 (JGood.nil c7) (t7 N)) (KC23 N)
noncomputable def c37 : Code := Try.f37.body.getD .skip
theorem i37 : IsF Try.prog 37 Try.f37 c37 := ⟨Try.func37, by kernel_rfl, by kernel_rfl, by kernel_rfl⟩
/-- loop.example/g01139/spec.RunAlone -/
def F_spec_RunAlone (N : Nat) : Int × (List (Int × Int × Int × Int × Int)) × List (Int) × Unit → Option (List (Int) × Bool × Unit)
  | (bits0, lines1, vars2, _) =>
    (F_spec_l08Ask N (bits0, (lines1, (vars2, ())))).bind fun r257 =>
    bif (!r257.1) then some ([], (false, ()))
     else (F_spec_l08Alone N (bits0, (lines1, (vars2, ())))).bind fun r258 =>
      some (r258.1, (true, ()))
theorem t37 (N : Nat) : ∀ v, (fr drawR (mkB (C7 N) [] [] [] []) 8 37 Try.f37 (instA [.c (.int .i64), .c (.ls 63), .c (.ls 2)] v)).k (matR [.c (.ls 2), .c (.bool)]) = F_spec_RunAlone N v := by
  rintro ⟨bits0, lines1, vars2, _⟩; kernel_rfl
noncomputable def C37 (N : Nat) : CL SS := (37, conG [.c (.int .i64), .c (.ls 63), .c (.ls 2)] [.c (.ls 2), .c (.bool)] (F_spec_RunAlone N)) :: C7 N
theorem KC37 (N : Nat) : COk QQ (C37 N) := COk.cons (conP LL DR_ok (KC7 N) (F := []) (J := []) (FGood.nil _) (M := []) (R := []) i37 (JGood.nil c37) (t37 N)) (KC7 N)
noncomputable def c38 : Code := Try.f38.body.getD .skip
theorem i38 : IsF Try.prog 38 Try.f38 c38 := ⟨Try.func38, by kernel_rfl, by kernel_rfl, by kernel_rfl⟩
/-- loop.example/g01139/impl.RunAlone -/
def F_impl_RunAlone (N : Nat) : Int × (List (Int × Int × Int × Int × Int)) × List (Int) × Unit → Option (List (Int) × Bool × Unit)
  | (bits0, lines1, vars2, _) =>
    (F_impl_ValidLines N (bits0, (lines1, ()))).bind fun r259 =>
    bif (!r259.1) then some ([], (false, ()))
     else (F_impl_areVars N (bits0, (vars2, ()))).bind fun r260 =>
      bif (!r260.1) then some ([], (false, ()))
       else (F_impl_alone N (bits0, (lines1, (vars2, ())))).bind fun r261 =>
        some (r261.1, (true, ()))
theorem t38 (N : Nat) : ∀ v, (fr drawR (mkB (C37 N) [] [] [] []) 8 38 Try.f38 (instA [.c (.int .i64), .c (.ls 63), .c (.ls 2)] v)).k (matR [.c (.ls 2), .c (.bool)]) = F_impl_RunAlone N v := by
  rintro ⟨bits0, lines1, vars2, _⟩; kernel_rfl
noncomputable def C38 (N : Nat) : CL SS := (38, conG [.c (.int .i64), .c (.ls 63), .c (.ls 2)] [.c (.ls 2), .c (.bool)] (F_impl_RunAlone N)) :: C37 N
theorem KC38 (N : Nat) : COk QQ (C38 N) := COk.cons (conP LL DR_ok (KC37 N) (F := []) (J := []) (FGood.nil _) (M := []) (R := []) i38 (JGood.nil c38) (t38 N)) (KC37 N)
noncomputable def c8 : Code := Try.f8.body.getD .skip
theorem i8 : IsF Try.prog 8 Try.f8 c8 := ⟨Try.func8, by kernel_rfl, by kernel_rfl, by kernel_rfl⟩
-- loop.example/g01139/laws.markLineS: loop 0
def d_laws_FnExactRunAlone_0 : LoopD := ⟨496, ⟨[(0, .c (.row 185))], [], 48⟩, ⟨[(1, .c (.int .i64)), (5, .c (.int .i64))], [(185, .row 63 [])], 504⟩, [], [185], [⟨.norm, ⟨[(1, .c (.int .i64))], [(185, .row 63 [])], 504⟩, [], [185]⟩]⟩
def n_laws_FnExactRunAlone_0 (N : Nat) : Unit → (Int × Int × (List (Int × Int × Int × Int × Int)) × Unit → Option ((Int × (List (Int × Int × Int × Int × Int)) × Unit))) → Int × Int × (List (Int × Int × Int × Int × Int)) × Unit → Option ((Int × (List (Int × Int × Int × Int × Int)) × Unit))
  | _, rec, (k1, i5, o185, _) =>
    bif (decide (i5 < (o185.length : Int))) then bif (decide ((0 : Int) ≤ i5)) then bif (decide (i5 < (o185.length : Int))) then bif (decide ((0 : Int) ≤ i5)) then bif (decide (i5 < ((o185.set i5.toNat (k1, (gt o185 i5).2)).length : Int))) then bif (decide ((0 : Int) ≤ i5)) then bif (decide (i5 < (((o185.set i5.toNat (k1, (gt o185 i5).2)).set i5.toNat ((gt (o185.set i5.toNat (k1, (gt o185 i5).2)) i5).1, ((IntKind.wrap .i64 (k1 + (1 : Int))), (gt (o185.set i5.toNat (k1, (gt o185 i5).2)) i5).2.2))).length : Int))) then bif (decide ((0 : Int) ≤ i5)) then bif (decide (i5 < ((((o185.set i5.toNat (k1, (gt o185 i5).2)).set i5.toNat ((gt (o185.set i5.toNat (k1, (gt o185 i5).2)) i5).1, ((IntKind.wrap .i64 (k1 + (1 : Int))), (gt (o185.set i5.toNat (k1, (gt o185 i5).2)) i5).2.2))).set i5.toNat ((gt ((o185.set i5.toNat (k1, (gt o185 i5).2)).set i5.toNat ((gt (o185.set i5.toNat (k1, (gt o185 i5).2)) i5).1, ((IntKind.wrap .i64 (k1 + (1 : Int))), (gt (o185.set i5.toNat (k1, (gt o185 i5).2)) i5).2.2))) i5).1, ((gt ((o185.set i5.toNat (k1, (gt o185 i5).2)).set i5.toNat ((gt (o185.set i5.toNat (k1, (gt o185 i5).2)) i5).1, ((IntKind.wrap .i64 (k1 + (1 : Int))), (gt (o185.set i5.toNat (k1, (gt o185 i5).2)) i5).2.2))) i5).2.1, ((IntKind.wrap .i64 ((IntKind.wrap .i64 (k1 + (1 : Int))) + (1 : Int))), (gt ((o185.set i5.toNat (k1, (gt o185 i5).2)).set i5.toNat ((gt (o185.set i5.toNat (k1, (gt o185 i5).2)) i5).1, ((IntKind.wrap .i64 (k1 + (1 : Int))), (gt (o185.set i5.toNat (k1, (gt o185 i5).2)) i5).2.2))) i5).2.2.2)))).length : Int))) then bif (decide ((0 : Int) ≤ i5)) then bif (decide (i5 < (((((o185.set i5.toNat (k1, (gt o185 i5).2)).set i5.toNat ((gt (o185.set i5.toNat (k1, (gt o185 i5).2)) i5).1, ((IntKind.wrap .i64 (k1 + (1 : Int))), (gt (o185.set i5.toNat (k1, (gt o185 i5).2)) i5).2.2))).set i5.toNat ((gt ((o185.set i5.toNat (k1, (gt o185 i5).2)).set i5.toNat ((gt (o185.set i5.toNat (k1, (gt o185 i5).2)) i5).1, ((IntKind.wrap .i64 (k1 + (1 : Int))), (gt (o185.set i5.toNat (k1, (gt o185 i5).2)) i5).2.2))) i5).1, ((gt ((o185.set i5.toNat (k1, (gt o185 i5).2)).set i5.toNat ((gt (o185.set i5.toNat (k1, (gt o185 i5).2)) i5).1, ((IntKind.wrap .i64 (k1 + (1 : Int))), (gt (o185.set i5.toNat (k1, (gt o185 i5).2)) i5).2.2))) i5).2.1, ((IntKind.wrap .i64 ((IntKind.wrap .i64 (k1 + (1 : Int))) + (1 : Int))), (gt ((o185.set i5.toNat (k1, (gt o185 i5).2)).set i5.toNat ((gt (o185.set i5.toNat (k1, (gt o185 i5).2)) i5).1, ((IntKind.wrap .i64 (k1 + (1 : Int))), (gt (o185.set i5.toNat (k1, (gt o185 i5).2)) i5).2.2))) i5).2.2.2)))).set i5.toNat ((gt (((o185.set i5.toNat (k1, (gt o185 i5).2)).set i5.toNat ((gt (o185.set i5.toNat (k1, (gt o185 i5).2)) i5).1, ((IntKind.wrap .i64 (k1 + (1 : Int))), (gt (o185.set i5.toNat (k1, (gt o185 i5).2)) i5).2.2))).set i5.toNat ((gt ((o185.set i5.toNat (k1, (gt o185 i5).2)).set i5.toNat ((gt (o185.set i5.toNat (k1, (gt o185 i5).2)) i5).1, ((IntKind.wrap .i64 (k1 + (1 : Int))), (gt (o185.set i5.toNat (k1, (gt o185 i5).2)) i5).2.2))) i5).1, ((gt ((o185.set i5.toNat (k1, (gt o185 i5).2)).set i5.toNat ((gt (o185.set i5.toNat (k1, (gt o185 i5).2)) i5).1, ((IntKind.wrap .i64 (k1 + (1 : Int))), (gt (o185.set i5.toNat (k1, (gt o185 i5).2)) i5).2.2))) i5).2.1, ((IntKind.wrap .i64 ((IntKind.wrap .i64 (k1 + (1 : Int))) + (1 : Int))), (gt ((o185.set i5.toNat (k1, (gt o185 i5).2)).set i5.toNat ((gt (o185.set i5.toNat (k1, (gt o185 i5).2)) i5).1, ((IntKind.wrap .i64 (k1 + (1 : Int))), (gt (o185.set i5.toNat (k1, (gt o185 i5).2)) i5).2.2))) i5).2.2.2)))) i5).1, ((gt (((o185.set i5.toNat (k1, (gt o185 i5).2)).set i5.toNat ((gt (o185.set i5.toNat (k1, (gt o185 i5).2)) i5).1, ((IntKind.wrap .i64 (k1 + (1 : Int))), (gt (o185.set i5.toNat (k1, (gt o185 i5).2)) i5).2.2))).set i5.toNat ((gt ((o185.set i5.toNat (k1, (gt o185 i5).2)).set i5.toNat ((gt (o185.set i5.toNat (k1, (gt o185 i5).2)) i5).1, ((IntKind.wrap .i64 (k1 + (1 : Int))), (gt (o185.set i5.toNat (k1, (gt o185 i5).2)) i5).2.2))) i5).1, ((gt ((o185.set i5.toNat (k1, (gt o185 i5).2)).set i5.toNat ((gt (o185.set i5.toNat (k1, (gt o185 i5).2)) i5).1, ((IntKind.wrap .i64 (k1 + (1 : Int))), (gt (o185.set i5.toNat (k1, (gt o185 i5).2)) i5).2.2))) i5).2.1, ((IntKind.wrap .i64 ((IntKind.wrap .i64 (k1 + (1 : Int))) + (1 : Int))), (gt ((o185.set i5.toNat (k1, (gt o185 i5).2)).set i5.toNat ((gt (o185.set i5.toNat (k1, (gt o185 i5).2)) i5).1, ((IntKind.wrap .i64 (k1 + (1 : Int))), (gt (o185.set i5.toNat (k1, (gt o185 i5).2)) i5).2.2))) i5).2.2.2)))) i5).2.1, ((gt (((o185.set i5.toNat (k1, (gt o185 i5).2)).set i5.toNat ((gt (o185.set i5.toNat (k1, (gt o185 i5).2)) i5).1, ((IntKind.wrap .i64 (k1 + (1 : Int))), (gt (o185.set i5.toNat (k1, (gt o185 i5).2)) i5).2.2))).set i5.toNat ((gt ((o185.set i5.toNat (k1, (gt o185 i5).2)).set i5.toNat ((gt (o185.set i5.toNat (k1, (gt o185 i5).2)) i5).1, ((IntKind.wrap .i64 (k1 + (1 : Int))), (gt (o185.set i5.toNat (k1, (gt o185 i5).2)) i5).2.2))) i5).1, ((gt ((o185.set i5.toNat (k1, (gt o185 i5).2)).set i5.toNat ((gt (o185.set i5.toNat (k1, (gt o185 i5).2)) i5).1, ((IntKind.wrap .i64 (k1 + (1 : Int))), (gt (o185.set i5.toNat (k1, (gt o185 i5).2)) i5).2.2))) i5).2.1, ((IntKind.wrap .i64 ((IntKind.wrap .i64 (k1 + (1 : Int))) + (1 : Int))), (gt ((o185.set i5.toNat (k1, (gt o185 i5).2)).set i5.toNat ((gt (o185.set i5.toNat (k1, (gt o185 i5).2)) i5).1, ((IntKind.wrap .i64 (k1 + (1 : Int))), (gt (o185.set i5.toNat (k1, (gt o185 i5).2)) i5).2.2))) i5).2.2.2)))) i5).2.2.1, ((IntKind.wrap .i64 ((IntKind.wrap .i64 ((IntKind.wrap .i64 (k1 + (1 : Int))) + (1 : Int))) + (1 : Int))), (gt (((o185.set i5.toNat (k1, (gt o185 i5).2)).set i5.toNat ((gt (o185.set i5.toNat (k1, (gt o185 i5).2)) i5).1, ((IntKind.wrap .i64 (k1 + (1 : Int))), (gt (o185.set i5.toNat (k1, (gt o185 i5).2)) i5).2.2))).set i5.toNat ((gt ((o185.set i5.toNat (k1, (gt o185 i5).2)).set i5.toNat ((gt (o185.set i5.toNat (k1, (gt o185 i5).2)) i5).1, ((IntKind.wrap .i64 (k1 + (1 : Int))), (gt (o185.set i5.toNat (k1, (gt o185 i5).2)) i5).2.2))) i5).1, ((gt ((o185.set i5.toNat (k1, (gt o185 i5).2)).set i5.toNat ((gt (o185.set i5.toNat (k1, (gt o185 i5).2)) i5).1, ((IntKind.wrap .i64 (k1 + (1 : Int))), (gt (o185.set i5.toNat (k1, (gt o185 i5).2)) i5).2.2))) i5).2.1, ((IntKind.wrap .i64 ((IntKind.wrap .i64 (k1 + (1 : Int))) + (1 : Int))), (gt ((o185.set i5.toNat (k1, (gt o185 i5).2)).set i5.toNat ((gt (o185.set i5.toNat (k1, (gt o185 i5).2)) i5).1, ((IntKind.wrap .i64 (k1 + (1 : Int))), (gt (o185.set i5.toNat (k1, (gt o185 i5).2)) i5).2.2))) i5).2.2.2)))) i5).2.2.2.2))))).length : Int))) then rec ((IntKind.wrap .i64 ((IntKind.wrap .i64 ((IntKind.wrap .i64 ((IntKind.wrap .i64 ((IntKind.wrap .i64 (k1 + (1 : Int))) + (1 : Int))) + (1 : Int))) + (1 : Int))) + (1 : Int))), ((IntKind.wrap .i64 (i5 + (1 : Int))), ((((((o185.set i5.toNat (k1, (gt o185 i5).2)).set i5.toNat ((gt (o185.set i5.toNat (k1, (gt o185 i5).2)) i5).1, ((IntKind.wrap .i64 (k1 + (1 : Int))), (gt (o185.set i5.toNat (k1, (gt o185 i5).2)) i5).2.2))).set i5.toNat ((gt ((o185.set i5.toNat (k1, (gt o185 i5).2)).set i5.toNat ((gt (o185.set i5.toNat (k1, (gt o185 i5).2)) i5).1, ((IntKind.wrap .i64 (k1 + (1 : Int))), (gt (o185.set i5.toNat (k1, (gt o185 i5).2)) i5).2.2))) i5).1, ((gt ((o185.set i5.toNat (k1, (gt o185 i5).2)).set i5.toNat ((gt (o185.set i5.toNat (k1, (gt o185 i5).2)) i5).1, ((IntKind.wrap .i64 (k1 + (1 : Int))), (gt (o185.set i5.toNat (k1, (gt o185 i5).2)) i5).2.2))) i5).2.1, ((IntKind.wrap .i64 ((IntKind.wrap .i64 (k1 + (1 : Int))) + (1 : Int))), (gt ((o185.set i5.toNat (k1, (gt o185 i5).2)).set i5.toNat ((gt (o185.set i5.toNat (k1, (gt o185 i5).2)) i5).1, ((IntKind.wrap .i64 (k1 + (1 : Int))), (gt (o185.set i5.toNat (k1, (gt o185 i5).2)) i5).2.2))) i5).2.2.2)))).set i5.toNat ((gt (((o185.set i5.toNat (k1, (gt o185 i5).2)).set i5.toNat ((gt (o185.set i5.toNat (k1, (gt o185 i5).2)) i5).1, ((IntKind.wrap .i64 (k1 + (1 : Int))), (gt (o185.set i5.toNat (k1, (gt o185 i5).2)) i5).2.2))).set i5.toNat ((gt ((o185.set i5.toNat (k1, (gt o185 i5).2)).set i5.toNat ((gt (o185.set i5.toNat (k1, (gt o185 i5).2)) i5).1, ((IntKind.wrap .i64 (k1 + (1 : Int))), (gt (o185.set i5.toNat (k1, (gt o185 i5).2)) i5).2.2))) i5).1, ((gt ((o185.set i5.toNat (k1, (gt o185 i5).2)).set i5.toNat ((gt (o185.set i5.toNat (k1, (gt o185 i5).2)) i5).1, ((IntKind.wrap .i64 (k1 + (1 : Int))), (gt (o185.set i5.toNat (k1, (gt o185 i5).2)) i5).2.2))) i5).2.1, ((IntKind.wrap .i64 ((IntKind.wrap .i64 (k1 + (1 : Int))) + (1 : Int))), (gt ((o185.set i5.toNat (k1, (gt o185 i5).2)).set i5.toNat ((gt (o185.set i5.toNat (k1, (gt o185 i5).2)) i5).1, ((IntKind.wrap .i64 (k1 + (1 : Int))), (gt (o185.set i5.toNat (k1, (gt o185 i5).2)) i5).2.2))) i5).2.2.2)))) i5).1, ((gt (((o185.set i5.toNat (k1, (gt o185 i5).2)).set i5.toNat ((gt (o185.set i5.toNat (k1, (gt o185 i5).2)) i5).1, ((IntKind.wrap .i64 (k1 + (1 : Int))), (gt (o185.set i5.toNat (k1, (gt o185 i5).2)) i5).2.2))).set i5.toNat ((gt ((o185.set i5.toNat (k1, (gt o185 i5).2)).set i5.toNat ((gt (o185.set i5.toNat (k1, (gt o185 i5).2)) i5).1, ((IntKind.wrap .i64 (k1 + (1 : Int))), (gt (o185.set i5.toNat (k1, (gt o185 i5).2)) i5).2.2))) i5).1, ((gt ((o185.set i5.toNat (k1, (gt o185 i5).2)).set i5.toNat ((gt (o185.set i5.toNat (k1, (gt o185 i5).2)) i5).1, ((IntKind.wrap .i64 (k1 + (1 : Int))), (gt (o185.set i5.toNat (k1, (gt o185 i5).2)) i5).2.2))) i5).2.1, ((IntKind.wrap .i64 ((IntKind.wrap .i64 (k1 + (1 : Int))) + (1 : Int))), (gt ((o185.set i5.toNat (k1, (gt o185 i5).2)).set i5.toNat ((gt (o185.set i5.toNat (k1, (gt o185 i5).2)) i5).1, ((IntKind.wrap .i64 (k1 + (1 : Int))), (gt (o185.set i5.toNat (k1, (gt o185 i5).2)) i5).2.2))) i5).2.2.2)))) i5).2.1, ((gt (((o185.set i5.toNat (k1, (gt o185 i5).2)).set i5.toNat ((gt (o185.set i5.toNat (k1, (gt o185 i5).2)) i5).1, ((IntKind.wrap .i64 (k1 + (1 : Int))), (gt (o185.set i5.toNat (k1, (gt o185 i5).2)) i5).2.2))).set i5.toNat ((gt ((o185.set i5.toNat (k1, (gt o185 i5).2)).set i5.toNat ((gt (o185.set i5.toNat (k1, (gt o185 i5).2)) i5).1, ((IntKind.wrap .i64 (k1 + (1 : Int))), (gt (o185.set i5.toNat (k1, (gt o185 i5).2)) i5).2.2))) i5).1, ((gt ((o185.set i5.toNat (k1, (gt o185 i5).2)).set i5.toNat ((gt (o185.set i5.toNat (k1, (gt o185 i5).2)) i5).1, ((IntKind.wrap .i64 (k1 + (1 : Int))), (gt (o185.set i5.toNat (k1, (gt o185 i5).2)) i5).2.2))) i5).2.1, ((IntKind.wrap .i64 ((IntKind.wrap .i64 (k1 + (1 : Int))) + (1 : Int))), (gt ((o185.set i5.toNat (k1, (gt o185 i5).2)).set i5.toNat ((gt (o185.set i5.toNat (k1, (gt o185 i5).2)) i5).1, ((IntKind.wrap .i64 (k1 + (1 : Int))), (gt (o185.set i5.toNat (k1, (gt o185 i5).2)) i5).2.2))) i5).2.2.2)))) i5).2.2.1, ((IntKind.wrap .i64 ((IntKind.wrap .i64 ((IntKind.wrap .i64 (k1 + (1 : Int))) + (1 : Int))) + (1 : Int))), (gt (((o185.set i5.toNat (k1, (gt o185 i5).2)).set i5.toNat ((gt (o185.set i5.toNat (k1, (gt o185 i5).2)) i5).1, ((IntKind.wrap .i64 (k1 + (1 : Int))), (gt (o185.set i5.toNat (k1, (gt o185 i5).2)) i5).2.2))).set i5.toNat ((gt ((o185.set i5.toNat (k1, (gt o185 i5).2)).set i5.toNat ((gt (o185.set i5.toNat (k1, (gt o185 i5).2)) i5).1, ((IntKind.wrap .i64 (k1 + (1 : Int))), (gt (o185.set i5.toNat (k1, (gt o185 i5).2)) i5).2.2))) i5).1, ((gt ((o185.set i5.toNat (k1, (gt o185 i5).2)).set i5.toNat ((gt (o185.set i5.toNat (k1, (gt o185 i5).2)) i5).1, ((IntKind.wrap .i64 (k1 + (1 : Int))), (gt (o185.set i5.toNat (k1, (gt o185 i5).2)) i5).2.2))) i5).2.1, ((IntKind.wrap .i64 ((IntKind.wrap .i64 (k1 + (1 : Int))) + (1 : Int))), (gt ((o185.set i5.toNat (k1, (gt o185 i5).2)).set i5.toNat ((gt (o185.set i5.toNat (k1, (gt o185 i5).2)) i5).1, ((IntKind.wrap .i64 (k1 + (1 : Int))), (gt (o185.set i5.toNat (k1, (gt o185 i5).2)) i5).2.2))) i5).2.2.2)))) i5).2.2.2.2))))).set i5.toNat ((gt ((((o185.set i5.toNat (k1, (gt o185 i5).2)).set i5.toNat ((gt (o185.set i5.toNat (k1, (gt o185 i5).2)) i5).1, ((IntKind.wrap .i64 (k1 + (1 : Int))), (gt (o185.set i5.toNat (k1, (gt o185 i5).2)) i5).2.2))).set i5.toNat ((gt ((o185.set i5.toNat (k1, (gt o185 i5).2)).set i5.toNat ((gt (o185.set i5.toNat (k1, (gt o185 i5).2)) i5).1, ((IntKind.wrap .i64 (k1 + (1 : Int))), (gt (o185.set i5.toNat (k1, (gt o185 i5).2)) i5).2.2))) i5).1, ((gt ((o185.set i5.toNat (k1, (gt o185 i5).2)).set i5.toNat ((gt (o185.set i5.toNat (k1, (gt o185 i5).2)) i5).1, ((IntKind.wrap .i64 (k1 + (1 : Int))), (gt (o185.set i5.toNat (k1, (gt o185 i5).2)) i5).2.2))) i5).2.1, ((IntKind.wrap .i64 ((IntKind.wrap .i64 (k1 + (1 : Int))) + (1 : Int))), (gt ((o185.set i5.toNat (k1, (gt o185 i5).2)).set i5.toNat ((gt (o185.set i5.toNat (k1, (gt o185 i5).2)) i5).1, ((IntKind.wrap .i64 (k1 + (1 : Int))), (gt (o185.set i5.toNat (k1, (gt o185 i5).2)) i5).2.2))) i5).2.2.2)))).set i5.toNat ((gt (((o185.set i5.toNat (k1, (gt o185 i5).2)).set i5.toNat ((gt (o185.set i5.toNat (k1, (gt o185 i5).2)) i5).1, ((IntKind.wrap .i64 (k1 + (1 : Int))), (gt (o185.set i5.toNat (k1, (gt o185 i5).2)) i5).2.2))).set i5.toNat ((gt ((o185.set i5.toNat (k1, (gt o185 i5).2)).set i5.toNat ((gt (o185.set i5.toNat (k1, (gt o185 i5).2)) i5).1, ((IntKind.wrap .i64 (k1 + (1 : Int))), (gt (o185.set i5.toNat (k1, (gt o185 i5).2)) i5).2.2))) i5).1, ((gt ((o185.set i5.toNat (k1, (gt o185 i5).2)).set i5.toNat ((gt (o185.set i5.toNat (k1, (gt o185 i5).2)) i5).1, ((IntKind.wrap .i64 (k1 + (1 : Int))), (gt (o185.set i5.toNat (k1, (gt o185 i5).2)) i5).2.2))) i5).2.1, ((IntKind.wrap .i64 ((IntKind.wrap .i64 (k1 + (1 : Int))) + (1 : Int))), (gt ((o185.set i5.toNat (k1, (gt o185 i5).2)).set i5.toNat ((gt (o185.set i5.toNat (k1, (gt o185 i5).2)) i5).1, ((IntKind.wrap .i64 (k1 + (1 : Int))), (gt (o185.set i5.toNat (k1, (gt o185 i5).2)) i5).2.2))) i5).2.2.2)))) i5).1, ((gt (((o185.set i5.toNat (k1, (gt o185 i5).2)).set i5.toNat ((gt (o185.set i5.toNat (k1, (gt o185 i5).2)) i5).1, ((IntKind.wrap .i64 (k1 + (1 : Int))), (gt (o185.set i5.toNat (k1, (gt o185 i5).2)) i5).2.2))).set i5.toNat ((gt ((o185.set i5.toNat (k1, (gt o185 i5).2)).set i5.toNat ((gt (o185.set i5.toNat (k1, (gt o185 i5).2)) i5).1, ((IntKind.wrap .i64 (k1 + (1 : Int))), (gt (o185.set i5.toNat (k1, (gt o185 i5).2)) i5).2.2))) i5).1, ((gt ((o185.set i5.toNat (k1, (gt o185 i5).2)).set i5.toNat ((gt (o185.set i5.toNat (k1, (gt o185 i5).2)) i5).1, ((IntKind.wrap .i64 (k1 + (1 : Int))), (gt (o185.set i5.toNat (k1, (gt o185 i5).2)) i5).2.2))) i5).2.1, ((IntKind.wrap .i64 ((IntKind.wrap .i64 (k1 + (1 : Int))) + (1 : Int))), (gt ((o185.set i5.toNat (k1, (gt o185 i5).2)).set i5.toNat ((gt (o185.set i5.toNat (k1, (gt o185 i5).2)) i5).1, ((IntKind.wrap .i64 (k1 + (1 : Int))), (gt (o185.set i5.toNat (k1, (gt o185 i5).2)) i5).2.2))) i5).2.2.2)))) i5).2.1, ((gt (((o185.set i5.toNat (k1, (gt o185 i5).2)).set i5.toNat ((gt (o185.set i5.toNat (k1, (gt o185 i5).2)) i5).1, ((IntKind.wrap .i64 (k1 + (1 : Int))), (gt (o185.set i5.toNat (k1, (gt o185 i5).2)) i5).2.2))).set i5.toNat ((gt ((o185.set i5.toNat (k1, (gt o185 i5).2)).set i5.toNat ((gt (o185.set i5.toNat (k1, (gt o185 i5).2)) i5).1, ((IntKind.wrap .i64 (k1 + (1 : Int))), (gt (o185.set i5.toNat (k1, (gt o185 i5).2)) i5).2.2))) i5).1, ((gt ((o185.set i5.toNat (k1, (gt o185 i5).2)).set i5.toNat ((gt (o185.set i5.toNat (k1, (gt o185 i5).2)) i5).1, ((IntKind.wrap .i64 (k1 + (1 : Int))), (gt (o185.set i5.toNat (k1, (gt o185 i5).2)) i5).2.2))) i5).2.1, ((IntKind.wrap .i64 ((IntKind.wrap .i64 (k1 + (1 : Int))) + (1 : Int))), (gt ((o185.set i5.toNat (k1, (gt o185 i5).2)).set i5.toNat ((gt (o185.set i5.toNat (k1, (gt o185 i5).2)) i5).1, ((IntKind.wrap .i64 (k1 + (1 : Int))), (gt (o185.set i5.toNat (k1, (gt o185 i5).2)) i5).2.2))) i5).2.2.2)))) i5).2.2.1, ((IntKind.wrap .i64 ((IntKind.wrap .i64 ((IntKind.wrap .i64 (k1 + (1 : Int))) + (1 : Int))) + (1 : Int))), (gt (((o185.set i5.toNat (k1, (gt o185 i5).2)).set i5.toNat ((gt (o185.set i5.toNat (k1, (gt o185 i5).2)) i5).1, ((IntKind.wrap .i64 (k1 + (1 : Int))), (gt (o185.set i5.toNat (k1, (gt o185 i5).2)) i5).2.2))).set i5.toNat ((gt ((o185.set i5.toNat (k1, (gt o185 i5).2)).set i5.toNat ((gt (o185.set i5.toNat (k1, (gt o185 i5).2)) i5).1, ((IntKind.wrap .i64 (k1 + (1 : Int))), (gt (o185.set i5.toNat (k1, (gt o185 i5).2)) i5).2.2))) i5).1, ((gt ((o185.set i5.toNat (k1, (gt o185 i5).2)).set i5.toNat ((gt (o185.set i5.toNat (k1, (gt o185 i5).2)) i5).1, ((IntKind.wrap .i64 (k1 + (1 : Int))), (gt (o185.set i5.toNat (k1, (gt o185 i5).2)) i5).2.2))) i5).2.1, ((IntKind.wrap .i64 ((IntKind.wrap .i64 (k1 + (1 : Int))) + (1 : Int))), (gt ((o185.set i5.toNat (k1, (gt o185 i5).2)).set i5.toNat ((gt (o185.set i5.toNat (k1, (gt o185 i5).2)) i5).1, ((IntKind.wrap .i64 (k1 + (1 : Int))), (gt (o185.set i5.toNat (k1, (gt o185 i5).2)) i5).2.2))) i5).2.2.2)))) i5).2.2.2.2))))) i5).1, ((gt ((((o185.set i5.toNat (k1, (gt o185 i5).2)).set i5.toNat ((gt (o185.set i5.toNat (k1, (gt o185 i5).2)) i5).1, ((IntKind.wrap .i64 (k1 + (1 : Int))), (gt (o185.set i5.toNat (k1, (gt o185 i5).2)) i5).2.2))).set i5.toNat ((gt ((o185.set i5.toNat (k1, (gt o185 i5).2)).set i5.toNat ((gt (o185.set i5.toNat (k1, (gt o185 i5).2)) i5).1, ((IntKind.wrap .i64 (k1 + (1 : Int))), (gt (o185.set i5.toNat (k1, (gt o185 i5).2)) i5).2.2))) i5).1, ((gt ((o185.set i5.toNat (k1, (gt o185 i5).2)).set i5.toNat ((gt (o185.set i5.toNat (k1, (gt o185 i5).2)) i5).1, ((IntKind.wrap .i64 (k1 + (1 : Int))), (gt (o185.set i5.toNat (k1, (gt o185 i5).2)) i5).2.2))) i5).2.1, ((IntKind.wrap .i64 ((IntKind.wrap .i64 (k1 + (1 : Int))) + (1 : Int))), (gt ((o185.set i5.toNat (k1, (gt o185 i5).2)).set i5.toNat ((gt (o185.set i5.toNat (k1, (gt o185 i5).2)) i5).1, ((IntKind.wrap .i64 (k1 + (1 : Int))), (gt (o185.set i5.toNat (k1, (gt o185 i5).2)) i5).2.2))) i5).2.2.2)))).set i5.toNat ((gt (((o185.set i5.toNat (k1, (gt o185 i5).2)).set i5.toNat ((gt (o185.set i5.toNat (k1, (gt o185 i5).2)) i5).1, ((IntKind.wrap .i64 (k1 + (1 : Int))), (gt (o185.set i5.toNat (k1, (gt o185 i5).2)) i5).2.2))).set i5.toNat ((gt ((o185.set i5.toNat (k1, (gt o185 i5).2)).set i5.toNat ((gt (o185.set i5.toNat (k1, (gt o185 i5).2)) i5).1, ((IntKind.wrap .i64 (k1 + (1 : Int))), (gt (o185.set i5.toNat (k1, (gt o185 i5).2)) i5).2.2))) i5).1, ((gt ((o185.set i5.toNat (k1, (gt o185 i5).2)).set i5.toNat ((gt (o185.set i5.toNat (k1, (gt o185 i5).2)) i5).1, ((IntKind.wrap .i64 (k1 + (1 : Int))), (gt (o185.set i5.toNat (k1, (gt o185 i5).2)) i5).2.2))) i5).2.1, ((IntKind.wrap .i64 ((IntKind.wrap .i64 (k1 + (1 : Int))) + (1 : Int))), (gt ((o185.set i5.toNat (k1, (gt o185 i5).2)).set i5.toNat ((gt (o185.set i5.toNat (k1, (gt o185 i5).2)) i5).1, ((IntKind.wrap .i64 (k1 + (1 : Int))), (gt (o185.set i5.toNat (k1, (gt o185 i5).2)) i5).2.2))) i5).2.2.2)))) i5).1, ((gt (((o185.set i5.toNat (k1, (gt o185 i5).2)).set i5.toNat ((gt (o185.set i5.toNat (k1, (gt o185 i5).2)) i5).1, ((IntKind.wrap .i64 (k1 + (1 : Int))), (gt (o185.set i5.toNat (k1, (gt o185 i5).2)) i5).2.2))).set i5.toNat ((gt ((o185.set i5.toNat (k1, (gt o185 i5).2)).set i5.toNat ((gt (o185.set i5.toNat (k1, (gt o185 i5).2)) i5).1, ((IntKind.wrap .i64 (k1 + (1 : Int))), (gt (o185.set i5.toNat (k1, (gt o185 i5).2)) i5).2.2))) i5).1, ((gt ((o185.set i5.toNat (k1, (gt o185 i5).2)).set i5.toNat ((gt (o185.set i5.toNat (k1, (gt o185 i5).2)) i5).1, ((IntKind.wrap .i64 (k1 + (1 : Int))), (gt (o185.set i5.toNat (k1, (gt o185 i5).2)) i5).2.2))) i5).2.1, ((IntKind.wrap .i64 ((IntKind.wrap .i64 (k1 + (1 : Int))) + (1 : Int))), (gt ((o185.set i5.toNat (k1, (gt o185 i5).2)).set i5.toNat ((gt (o185.set i5.toNat (k1, (gt o185 i5).2)) i5).1, ((IntKind.wrap .i64 (k1 + (1 : Int))), (gt (o185.set i5.toNat (k1, (gt o185 i5).2)) i5).2.2))) i5).2.2.2)))) i5).2.1, ((gt (((o185.set i5.toNat (k1, (gt o185 i5).2)).set i5.toNat ((gt (o185.set i5.toNat (k1, (gt o185 i5).2)) i5).1, ((IntKind.wrap .i64 (k1 + (1 : Int))), (gt (o185.set i5.toNat (k1, (gt o185 i5).2)) i5).2.2))).set i5.toNat ((gt ((o185.set i5.toNat (k1, (gt o185 i5).2)).set i5.toNat ((gt (o185.set i5.toNat (k1, (gt o185 i5).2)) i5).1, ((IntKind.wrap .i64 (k1 + (1 : Int))), (gt (o185.set i5.toNat (k1, (gt o185 i5).2)) i5).2.2))) i5).1, ((gt ((o185.set i5.toNat (k1, (gt o185 i5).2)).set i5.toNat ((gt (o185.set i5.toNat (k1, (gt o185 i5).2)) i5).1, ((IntKind.wrap .i64 (k1 + (1 : Int))), (gt (o185.set i5.toNat (k1, (gt o185 i5).2)) i5).2.2))) i5).2.1, ((IntKind.wrap .i64 ((IntKind.wrap .i64 (k1 + (1 : Int))) + (1 : Int))), (gt ((o185.set i5.toNat (k1, (gt o185 i5).2)).set i5.toNat ((gt (o185.set i5.toNat (k1, (gt o185 i5).2)) i5).1, ((IntKind.wrap .i64 (k1 + (1 : Int))), (gt (o185.set i5.toNat (k1, (gt o185 i5).2)) i5).2.2))) i5).2.2.2)))) i5).2.2.1, ((IntKind.wrap .i64 ((IntKind.wrap .i64 ((IntKind.wrap .i64 (k1 + (1 : Int))) + (1 : Int))) + (1 : Int))), (gt (((o185.set i5.toNat (k1, (gt o185 i5).2)).set i5.toNat ((gt (o185.set i5.toNat (k1, (gt o185 i5).2)) i5).1, ((IntKind.wrap .i64 (k1 + (1 : Int))), (gt (o185.set i5.toNat (k1, (gt o185 i5).2)) i5).2.2))).set i5.toNat ((gt ((o185.set i5.toNat (k1, (gt o185 i5).2)).set i5.toNat ((gt (o185.set i5.toNat (k1, (gt o185 i5).2)) i5).1, ((IntKind.wrap .i64 (k1 + (1 : Int))), (gt (o185.set i5.toNat (k1, (gt o185 i5).2)) i5).2.2))) i5).1, ((gt ((o185.set i5.toNat (k1, (gt o185 i5).2)).set i5.toNat ((gt (o185.set i5.toNat (k1, (gt o185 i5).2)) i5).1, ((IntKind.wrap .i64 (k1 + (1 : Int))), (gt (o185.set i5.toNat (k1, (gt o185 i5).2)) i5).2.2))) i5).2.1, ((IntKind.wrap .i64 ((IntKind.wrap .i64 (k1 + (1 : Int))) + (1 : Int))), (gt ((o185.set i5.toNat (k1, (gt o185 i5).2)).set i5.toNat ((gt (o185.set i5.toNat (k1, (gt o185 i5).2)) i5).1, ((IntKind.wrap .i64 (k1 + (1 : Int))), (gt (o185.set i5.toNat (k1, (gt o185 i5).2)) i5).2.2))) i5).2.2.2)))) i5).2.2.2.2))))) i5).2.1, ((gt ((((o185.set i5.toNat (k1, (gt o185 i5).2)).set i5.toNat ((gt (o185.set i5.toNat (k1, (gt o185 i5).2)) i5).1, ((IntKind.wrap .i64 (k1 + (1 : Int))), (gt (o185.set i5.toNat (k1, (gt o185 i5).2)) i5).2.2))).set i5.toNat ((gt ((o185.set i5.toNat (k1, (gt o185 i5).2)).set i5.toNat ((gt (o185.set i5.toNat (k1, (gt o185 i5).2)) i5).1, ((IntKind.wrap .i64 (k1 + (1 : Int))), (gt (o185.set i5.toNat (k1, (gt o185 i5).2)) i5).2.2))) i5).1, ((gt ((o185.set i5.toNat (k1, (gt o185 i5).2)).set i5.toNat ((gt (o185.set i5.toNat (k1, (gt o185 i5).2)) i5).1, ((IntKind.wrap .i64 (k1 + (1 : Int))), (gt (o185.set i5.toNat (k1, (gt o185 i5).2)) i5).2.2))) i5).2.1, ((IntKind.wrap .i64 ((IntKind.wrap .i64 (k1 + (1 : Int))) + (1 : Int))), (gt ((o185.set i5.toNat (k1, (gt o185 i5).2)).set i5.toNat ((gt (o185.set i5.toNat (k1, (gt o185 i5).2)) i5).1, ((IntKind.wrap .i64 (k1 + (1 : Int))), (gt (o185.set i5.toNat (k1, (gt o185 i5).2)) i5).2.2))) i5).2.2.2)))).set i5.toNat ((gt (((o185.set i5.toNat (k1, (gt o185 i5).2)).set i5.toNat ((gt (o185.set i5.toNat (k1, (gt o185 i5).2)) i5).1, ((IntKind.wrap .i64 (k1 + (1 : Int))), (gt (o185.set i5.toNat (k1, (gt o185 i5).2)) i5).2.2))).set i5.toNat ((gt ((o185.set i5.toNat (k1, (gt o185 i5).2)).set i5.toNat ((gt (o185.set i5.toNat (k1, (gt o185 i5).2)) i5).1, ((IntKind.wrap .i64 (k1 + (1 : Int))), (gt (o185.set i5.toNat (k1, (gt o185 i5).2)) i5).2.2))) i5).1, ((gt ((o185.set i5.toNat (k1, (gt o185 i5).2)).set i5.toNat ((gt (o185.set i5.toNat (k1, (gt o185 i5).2)) i5).1, ((IntKind.wrap .i64 (k1 + (1 : Int))), (gt (o185.set i5.toNat (k1, (gt o185 i5).2)) i5).2.2))) i5).2.1, ((IntKind.wrap .i64 ((IntKind.wrap .i64 (k1 + (1 : Int))) + (1 : Int))), (gt ((o185.set i5.toNat (k1, (gt o185 i5).2)).set i5.toNat ((gt (o185.set i5.toNat (k1, (gt o185 i5).2)) i5).1, ((IntKind.wrap .i64 (k1 + (1 : Int))), (gt (o185.set i5.toNat (k1, (gt o185 i5).2)) i5).2.2))) i5).2.2.2)))) i5).1, ((gt (((o185.set i5.toNat (k1, (gt o185 i5).2)).set i5.toNat ((gt (o185.set i5.toNat (k1, (gt o185 i5).2)) i5).1, ((IntKind.wrap .i64 (k1 + (1 : Int))), (gt (o185.set i5.toNat (k1, (gt o185 i5).2)) i5).2.2))).set i5.toNat ((gt ((o185.set i5.toNat (k1, (gt o185 i5).2)).set i5.toNat ((gt (o185.set i5.toNat (k1, (gt o185 i5).2)) i5).1, ((IntKind.wrap .i64 (k1 + (1 : Int))), (gt (o185.set i5.toNat (k1, (gt o185 i5).2)) i5).2.2))) i5).1, ((gt ((o185.set i5.toNat (k1, (gt o185 i5).2)).set i5.toNat ((gt (o185.set i5.toNat (k1, (gt o185 i5).2)) i5).1, ((IntKind.wrap .i64 (k1 + (1 : Int))), (gt (o185.set i5.toNat (k1, (gt o185 i5).2)) i5).2.2))) i5).2.1, ((IntKind.wrap .i64 ((IntKind.wrap .i64 (k1 + (1 : Int))) + (1 : Int))), (gt ((o185.set i5.toNat (k1, (gt o185 i5).2)).set i5.toNat ((gt (o185.set i5.toNat (k1, (gt o185 i5).2)) i5).1, ((IntKind.wrap .i64 (k1 + (1 : Int))), (gt (o185.set i5.toNat (k1, (gt o185 i5).2)) i5).2.2))) i5).2.2.2)))) i5).2.1, ((gt (((o185.set i5.toNat (k1, (gt o185 i5).2)).set i5.toNat ((gt (o185.set i5.toNat (k1, (gt o185 i5).2)) i5).1, ((IntKind.wrap .i64 (k1 + (1 : Int))), (gt (o185.set i5.toNat (k1, (gt o185 i5).2)) i5).2.2))).set i5.toNat ((gt ((o185.set i5.toNat (k1, (gt o185 i5).2)).set i5.toNat ((gt (o185.set i5.toNat (k1, (gt o185 i5).2)) i5).1, ((IntKind.wrap .i64 (k1 + (1 : Int))), (gt (o185.set i5.toNat (k1, (gt o185 i5).2)) i5).2.2))) i5).1, ((gt ((o185.set i5.toNat (k1, (gt o185 i5).2)).set i5.toNat ((gt (o185.set i5.toNat (k1, (gt o185 i5).2)) i5).1, ((IntKind.wrap .i64 (k1 + (1 : Int))), (gt (o185.set i5.toNat (k1, (gt o185 i5).2)) i5).2.2))) i5).2.1, ((IntKind.wrap .i64 ((IntKind.wrap .i64 (k1 + (1 : Int))) + (1 : Int))), (gt ((o185.set i5.toNat (k1, (gt o185 i5).2)).set i5.toNat ((gt (o185.set i5.toNat (k1, (gt o185 i5).2)) i5).1, ((IntKind.wrap .i64 (k1 + (1 : Int))), (gt (o185.set i5.toNat (k1, (gt o185 i5).2)) i5).2.2))) i5).2.2.2)))) i5).2.2.1, ((IntKind.wrap .i64 ((IntKind.wrap .i64 ((IntKind.wrap .i64 (k1 + (1 : Int))) + (1 : Int))) + (1 : Int))), (gt (((o185.set i5.toNat (k1, (gt o185 i5).2)).set i5.toNat ((gt (o185.set i5.toNat (k1, (gt o185 i5).2)) i5).1, ((IntKind.wrap .i64 (k1 + (1 : Int))), (gt (o185.set i5.toNat (k1, (gt o185 i5).2)) i5).2.2))).set i5.toNat ((gt ((o185.set i5.toNat (k1, (gt o185 i5).2)).set i5.toNat ((gt (o185.set i5.toNat (k1, (gt o185 i5).2)) i5).1, ((IntKind.wrap .i64 (k1 + (1 : Int))), (gt (o185.set i5.toNat (k1, (gt o185 i5).2)) i5).2.2))) i5).1, ((gt ((o185.set i5.toNat (k1, (gt o185 i5).2)).set i5.toNat ((gt (o185.set i5.toNat (k1, (gt o185 i5).2)) i5).1, ((IntKind.wrap .i64 (k1 + (1 : Int))), (gt (o185.set i5.toNat (k1, (gt o185 i5).2)) i5).2.2))) i5).2.1, ((IntKind.wrap .i64 ((IntKind.wrap .i64 (k1 + (1 : Int))) + (1 : Int))), (gt ((o185.set i5.toNat (k1, (gt o185 i5).2)).set i5.toNat ((gt (o185.set i5.toNat (k1, (gt o185 i5).2)) i5).1, ((IntKind.wrap .i64 (k1 + (1 : Int))), (gt (o185.set i5.toNat (k1, (gt o185 i5).2)) i5).2.2))) i5).2.2.2)))) i5).2.2.2.2))))) i5).2.2.1, ((gt ((((o185.set i5.toNat (k1, (gt o185 i5).2)).set i5.toNat ((gt (o185.set i5.toNat (k1, (gt o185 i5).2)) i5).1, ((IntKind.wrap .i64 (k1 + (1 : Int))), (gt (o185.set i5.toNat (k1, (gt o185 i5).2)) i5).2.2))).set i5.toNat ((gt ((o185.set i5.toNat (k1, (gt o185 i5).2)).set i5.toNat ((gt (o185.set i5.toNat (k1, (gt o185 i5).2)) i5).1, ((IntKind.wrap .i64 (k1 + (1 : Int))), (gt (o185.set i5.toNat (k1, (gt o185 i5).2)) i5).2.2))) i5).1, ((gt ((o185.set i5.toNat (k1, (gt o185 i5).2)).set i5.toNat ((gt (o185.set i5.toNat (k1, (gt o185 i5).2)) i5).1, ((IntKind.wrap .i64 (k1 + (1 : Int))), (gt (o185.set i5.toNat (k1, (gt o185 i5).2)) i5).2.2))) i5).2.1, ((IntKind.wrap .i64 ((IntKind.wrap .i64 (k1 + (1 : Int))) + (1 : Int))), (gt ((o185.set i5.toNat (k1, (gt o185 i5).2)).set i5.toNat ((gt (o185.set i5.toNat (k1, (gt o185 i5).2)) i5).1, ((IntKind.wrap .i64 (k1 + (1 : Int))), (gt (o185.set i5.toNat (k1, (gt o185 i5).2)) i5).2.2))) i5).2.2.2)))).set i5.toNat ((gt (((o185.set i5.toNat (k1, (gt o185 i5).2)).set i5.toNat ((gt (o185.set i5.toNat (k1, (gt o185 i5).2)) i5).1, ((IntKind.wrap .i64 (k1 + (1 : Int))), (gt (o185.set i5.toNat (k1, (gt o185 i5).2)) i5).2.2))).set i5.toNat ((gt ((o185.set i5.toNat (k1, (gt o185 i5).2)).set i5.toNat ((gt (o185.set i5.toNat (k1, (gt o185 i5).2)) i5).1, ((IntKind.wrap .i64 (k1 + (1 : Int))), (gt (o185.set i5.toNat (k1, (gt o185 i5).2)) i5).2.2))) i5).1, ((gt ((o185.set i5.toNat (k1, (gt o185 i5).2)).set i5.toNat ((gt (o185.set i5.toNat (k1, (gt o185 i5).2)) i5).1, ((IntKind.wrap .i64 (k1 + (1 : Int))), (gt (o185.set i5.toNat (k1, (gt o185 i5).2)) i5).2.2))) i5).2.1, ((IntKind.wrap .i64 ((IntKind.wrap .i64 (k1 + (1 : Int))) + (1 : Int))), (gt ((o185.set i5.toNat (k1, (gt o185 i5).2)).set i5.toNat ((gt (o185.set i5.toNat (k1, (gt o185 i5).2)) i5).1, ((IntKind.wrap .i64 (k1 + (1 : Int))), (gt (o185.set i5.toNat (k1, (gt o185 i5).2)) i5).2.2))) i5).2.2.2)))) i5).1, ((gt (((o185.set i5.toNat (k1, (gt o185 i5).2)).set i5.toNat ((gt (o185.set i5.toNat (k1, (gt o185 i5).2)) i5).1, ((IntKind.wrap .i64 (k1 + (1 : Int))), (gt (o185.set i5.toNat (k1, (gt o185 i5).2)) i5).2.2))).set i5.toNat ((gt ((o185.set i5.toNat (k1, (gt o185 i5).2)).set i5.toNat ((gt (o185.set i5.toNat (k1, (gt o185 i5).2)) i5).1, ((IntKind.wrap .i64 (k1 + (1 : Int))), (gt (o185.set i5.toNat (k1, (gt o185 i5).2)) i5).2.2))) i5).1, ((gt ((o185.set i5.toNat (k1, (gt o185 i5).2)).set i5.toNat ((gt (o185.set i5.toNat (k1, (gt o185 i5).2)) i5).1, ((IntKind.wrap .i64 (k1 + (1 : Int))), (gt (o185.set i5.toNat (k1, (gt o185 i5).2)) i5).2.2))) i5).2.1, ((IntKind.wrap .i64 ((IntKind.wrap .i64 (k1 + (1 : Int))) + (1 : Int))), (gt ((o185.set i5.toNat (k1, (gt o185 i5).2)).set i5.toNat ((gt (o185.set i5.toNat (k1, (gt o185 i5).2)) i5).1, ((IntKind.wrap .i64 (k1 + (1 : Int))), (gt (o185.set i5.toNat (k1, (gt o185 i5).2)) i5).2.2))) i5).2.2.2)))) i5).2.1, ((gt (((o185.set i5.toNat (k1, (gt o185 i5).2)).set i5.toNat ((gt (o185.set i5.toNat (k1, (gt o185 i5).2)) i5).1, ((IntKind.wrap .i64 (k1 + (1 : Int))), (gt (o185.set i5.toNat (k1, (gt o185 i5).2)) i5).2.2))).set i5.toNat ((gt ((o185.set i5.toNat (k1, (gt o185 i5).2)).set i5.toNat ((gt (o185.set i5.toNat (k1, (gt o185 i5).2)) i5).1, ((IntKind.wrap .i64 (k1 + (1 : Int))), (gt (o185.set i5.toNat (k1, (gt o185 i5).2)) i5).2.2))) i5).1, ((gt ((o185.set i5.toNat (k1, (gt o185 i5).2)).set i5.toNat ((gt (o185.set i5.toNat (k1, (gt o185 i5).2)) i5).1, ((IntKind.wrap .i64 (k1 + (1 : Int))), (gt (o185.set i5.toNat (k1, (gt o185 i5).2)) i5).2.2))) i5).2.1, ((IntKind.wrap .i64 ((IntKind.wrap .i64 (k1 + (1 : Int))) + (1 : Int))), (gt ((o185.set i5.toNat (k1, (gt o185 i5).2)).set i5.toNat ((gt (o185.set i5.toNat (k1, (gt o185 i5).2)) i5).1, ((IntKind.wrap .i64 (k1 + (1 : Int))), (gt (o185.set i5.toNat (k1, (gt o185 i5).2)) i5).2.2))) i5).2.2.2)))) i5).2.2.1, ((IntKind.wrap .i64 ((IntKind.wrap .i64 ((IntKind.wrap .i64 (k1 + (1 : Int))) + (1 : Int))) + (1 : Int))), (gt (((o185.set i5.toNat (k1, (gt o185 i5).2)).set i5.toNat ((gt (o185.set i5.toNat (k1, (gt o185 i5).2)) i5).1, ((IntKind.wrap .i64 (k1 + (1 : Int))), (gt (o185.set i5.toNat (k1, (gt o185 i5).2)) i5).2.2))).set i5.toNat ((gt ((o185.set i5.toNat (k1, (gt o185 i5).2)).set i5.toNat ((gt (o185.set i5.toNat (k1, (gt o185 i5).2)) i5).1, ((IntKind.wrap .i64 (k1 + (1 : Int))), (gt (o185.set i5.toNat (k1, (gt o185 i5).2)) i5).2.2))) i5).1, ((gt ((o185.set i5.toNat (k1, (gt o185 i5).2)).set i5.toNat ((gt (o185.set i5.toNat (k1, (gt o185 i5).2)) i5).1, ((IntKind.wrap .i64 (k1 + (1 : Int))), (gt (o185.set i5.toNat (k1, (gt o185 i5).2)) i5).2.2))) i5).2.1, ((IntKind.wrap .i64 ((IntKind.wrap .i64 (k1 + (1 : Int))) + (1 : Int))), (gt ((o185.set i5.toNat (k1, (gt o185 i5).2)).set i5.toNat ((gt (o185.set i5.toNat (k1, (gt o185 i5).2)) i5).1, ((IntKind.wrap .i64 (k1 + (1 : Int))), (gt (o185.set i5.toNat (k1, (gt o185 i5).2)) i5).2.2))) i5).2.2.2)))) i5).2.2.2.2))))) i5).2.2.2.1, (IntKind.wrap .i64 ((IntKind.wrap .i64 ((IntKind.wrap .i64 ((IntKind.wrap .i64 (k1 + (1 : Int))) + (1 : Int))) + (1 : Int))) + (1 : Int)))))))), ())))
              else none
             else none
            else none
           else none
          else none
         else none
        else none
       else none
      else none
     else none
    else some (k1, (o185, ()))
theorem s_laws_FnExactRunAlone_0 (N : Nat) : ∀ σ p rec v, stepL (rn drawR (mkB (C38 N) [(21, Try.f21), (22, Try.f22)] [] [] []) 8 21 b21_0) 0 (wr b21_0) d_laws_FnExactRunAlone_0 (instP σ d_laws_FnExactRunAlone_0.pm p) rec v = n_laws_FnExactRunAlone_0 N p rec v := by
  rintro σ p rec ⟨k1, i5, o185, _⟩; kernel_rfl
noncomputable def g_laws_FnExactRunAlone_0 (N : Nat) : St (Sig.T SS) → Tr (Ex × St (Sig.T SS)) := orcL (wr b21_0) d_laws_FnExactRunAlone_0 fun p => itN (n_laws_FnExactRunAlone_0 N p) N
theorem o_laws_FnExactRunAlone_0 (N : Nat) : Snd QQ (g_laws_FnExactRunAlone_0 N) (.block 0 (blkOf 0 (blks c21))) := loopP LL DR_ok (KC38 N) (F := [(21, Try.f21), (22, Try.f22)]) (J := []) (FGood.cons i21 (JGood.nil c21) (FGood.cons i22 (JGood.nil c22) (FGood.nil _))) (M := []) (R := []) i21 (JGood.nil c21) e21_0 (s_laws_FnExactRunAlone_0 N) N
-- loop.example/g01139/laws.markInt64S: loop 0
def d_laws_FnExactRunAlone_1 : LoopD := ⟨568, ⟨[(0, .c (.row 209))], [], 19⟩, ⟨[(1, .c (.int .i64)), (5, .c (.int .i64))], [(209, .row 2 [])], 576⟩, [], [209], [⟨.norm, ⟨[(1, .c (.int .i64))], [(209, .row 2 [])], 576⟩, [], [209]⟩]⟩
def n_laws_FnExactRunAlone_1 (N : Nat) : Unit → (Int × Int × List (Int) × Unit → Option ((Int × List (Int) × Unit))) → Int × Int × List (Int) × Unit → Option ((Int × List (Int) × Unit))
  | _, rec, (k1, i5, o209, _) =>
    bif (decide (i5 < (o209.length : Int))) then bif (decide ((0 : Int) ≤ i5)) then bif (decide (i5 < (o209.length : Int))) then rec ((IntKind.wrap .i64 (k1 + (1 : Int))), ((IntKind.wrap .i64 (i5 + (1 : Int))), ((o209.set i5.toNat k1), ())))
      else none
     else none
    else some (k1, (o209, ()))
theorem s_laws_FnExactRunAlone_1 (N : Nat) : ∀ σ p rec v, stepL (rn drawR (mkB (C38 N) [(21, Try.f21), (22, Try.f22)] [(21, [(0, g_laws_FnExactRunAlone_0 N)])] [] []) 8 22 b22_0) 0 (wr b22_0) d_laws_FnExactRunAlone_1 (instP σ d_laws_FnExactRunAlone_1.pm p) rec v = n_laws_FnExactRunAlone_1 N p rec v := by
  rintro σ p rec ⟨k1, i5, o209, _⟩; kernel_rfl
noncomputable def g_laws_FnExactRunAlone_1 (N : Nat) : St (Sig.T SS) → Tr (Ex × St (Sig.T SS)) := orcL (wr b22_0) d_laws_FnExactRunAlone_1 fun p => itN (n_laws_FnExactRunAlone_1 N p) N
theorem o_laws_FnExactRunAlone_1 (N : Nat) : Snd QQ (g_laws_FnExactRunAlone_1 N) (.block 0 (blkOf 0 (blks c22))) := loopP LL DR_ok (KC38 N) (F := [(21, Try.f21), (22, Try.f22)]) (J := [(21, [(0, g_laws_FnExactRunAlone_0 N)])]) (FGood.cons i21 (JGood.cons i21.hd (o_laws_FnExactRunAlone_0 N) (JGood.nil c21)) (FGood.cons i22 (JGood.nil c22) (FGood.nil _))) (M := []) (R := []) i22 (JGood.nil c22) e22_0 (s_laws_FnExactRunAlone_1 N) N
-- loop.example/g01139/laws.markInt64S: loop 0
def d_laws_FnExactRunAlone_2 : LoopD := ⟨752, ⟨[(0, .c (.row 249))], [], 19⟩, ⟨[(1, .c (.int .i64)), (5, .c (.int .i64))], [(249, .row 2 [])], 760⟩, [], [249], [⟨.norm, ⟨[(1, .c (.int .i64))], [(249, .row 2 [])], 760⟩, [], [249]⟩]⟩
def n_laws_FnExactRunAlone_2 (N : Nat) : Unit → (Int × Int × List (Int) × Unit → Option ((Int × List (Int) × Unit))) → Int × Int × List (Int) × Unit → Option ((Int × List (Int) × Unit))
  | _, rec, (k1, i5, o249, _) =>
    bif (decide (i5 < (o249.length : Int))) then bif (decide ((0 : Int) ≤ i5)) then bif (decide (i5 < (o249.length : Int))) then rec ((IntKind.wrap .i64 (k1 + (1 : Int))), ((IntKind.wrap .i64 (i5 + (1 : Int))), ((o249.set i5.toNat k1), ())))
      else none
     else none
    else some (k1, (o249, ()))
theorem s_laws_FnExactRunAlone_2 (N : Nat) : ∀ σ p rec v, stepL (rn drawR (mkB (C38 N) [(21, Try.f21), (22, Try.f22)] [(21, [(0, g_laws_FnExactRunAlone_0 N)]), (22, [(0, g_laws_FnExactRunAlone_1 N)])] [] []) 8 22 b22_0) 0 (wr b22_0) d_laws_FnExactRunAlone_2 (instP σ d_laws_FnExactRunAlone_2.pm p) rec v = n_laws_FnExactRunAlone_2 N p rec v := by
  rintro σ p rec ⟨k1, i5, o249, _⟩; kernel_rfl
noncomputable def g_laws_FnExactRunAlone_2 (N : Nat) : St (Sig.T SS) → Tr (Ex × St (Sig.T SS)) := orcL (wr b22_0) d_laws_FnExactRunAlone_2 fun p => itN (n_laws_FnExactRunAlone_2 N p) N
theorem o_laws_FnExactRunAlone_2 (N : Nat) : Snd QQ (g_laws_FnExactRunAlone_2 N) (.block 0 (blkOf 0 (blks c22))) := loopP LL DR_ok (KC38 N) (F := [(21, Try.f21), (22, Try.f22)]) (J := [(21, [(0, g_laws_FnExactRunAlone_0 N)]), (22, [(0, g_laws_FnExactRunAlone_1 N)])]) (FGood.cons i21 (JGood.cons i21.hd (o_laws_FnExactRunAlone_0 N) (JGood.nil c21)) (FGood.cons i22 (JGood.cons i22.hd (o_laws_FnExactRunAlone_1 N) (JGood.nil c22)) (FGood.nil _))) (M := []) (R := []) i22 (JGood.cons i22.hd (o_laws_FnExactRunAlone_1 N) (JGood.nil c22)) e22_0 (s_laws_FnExactRunAlone_2 N) N
/-- loop.example/g01139/laws.FnExactRunAlone -/
def F_laws_FnExactRunAlone (N : Nat) : Int × (List (Int × Int × Int × Int × Int)) × List (Int) × Unit → Option (Bool × Unit)
  | (aBits0, aLines1, aVars2, _) =>
    bif (decide ((aVars2.length : Int) > (1048576 : Int))) then some (true, ())
    else (F_laws_szLineS N (aLines1, ((1048576 : Int), ()))).bind fun r302 =>
     bif (decide (r302.1 < (0 : Int))) then some (true, ())
      else (F_laws_toLineS N (aLines1, ())).bind fun r303 =>
       (F_laws_toInt64S N (aVars2, ())).bind fun r304 =>
        (F_spec_RunAlone N (aBits0, (r303.1, (r304.1, ())))).bind fun r305 =>
         (F_laws_toLineS N (aLines1, ())).bind fun r306 =>
          (F_laws_toInt64S N (aVars2, ())).bind fun r307 =>
           (F_impl_RunAlone N (aBits0, (r306.1, (r307.1, ())))).bind fun r308 =>
            (F_laws_eqInt64S N (r308.1, (r305.1, ()))).bind fun r309 =>
             bif (!r309.1) then some (false, ())
              else bif (!(r308.2.1 == r305.2.1)) then some (false, ())
               else (F_laws_toLineS N (aLines1, ())).bind fun r310 =>
                (F_laws_eqLineS N (r306.1, (r310.1, ()))).bind fun r311 =>
                 bif (!r311.1) then some (false, ())
                  else (F_laws_toInt64S N (aVars2, ())).bind fun r312 =>
                   (F_laws_eqInt64S N (r307.1, (r312.1, ()))).bind fun r313 =>
                    bif (!r313.1) then some (false, ())
                     else (itN (n_laws_FnExactRunAlone_0 N ()) N ((1 : Int), ((0 : Int), (r306.1, ())))).bind fun r314 =>
                      (itN (n_laws_FnExactRunAlone_1 N ()) N (r314.1, ((0 : Int), (r307.1, ())))).bind fun r315 =>
                       bif (decide (r315.1 < (0 : Int))) then some (false, ())
                        else (F_laws_eqInt64S N (r308.1, (r305.1, ()))).bind fun r316 =>
                         bif (!r316.1) then some (false, ())
                          else bif (!(r308.2.1 == r305.2.1)) then some (false, ())
                           else (itN (n_laws_FnExactRunAlone_2 N ()) N ((1 : Int), ((0 : Int), (r308.1, ())))).bind fun r317 =>
                            (F_laws_heldInt64S N (r317.2.1, ((1 : Int), ()))).bind fun r318 =>
                             bif (decide (r318.1 < (0 : Int))) then some (false, ())
                              else bif (!(decide (r318.1 = r317.1))) then some (false, ())
                               else (F_laws_toLineS N (aLines1, ())).bind fun r319 =>
                                (F_laws_toInt64S N (aVars2, ())).bind fun r320 =>
                                 (F_impl_RunAlone N (aBits0, (r319.1, (r320.1, ())))).bind fun r321 =>
                                  (F_laws_eqInt64S N (r321.1, (r305.1, ()))).bind fun r322 =>
                                   bif (!r322.1) then some (false, ())
                                    else bif (!(r321.2.1 == r305.2.1)) then some (false, ())
                                     else (F_laws_heldInt64S N (r317.2.1, ((1 : Int), ()))).bind fun r323 =>
                                      bif (decide (r323.1 < (0 : Int))) then some (false, ())
                                       else bif (!(decide (r323.1 = r317.1))) then some (false, ())
                                        else some (true, ())
theorem t8 (N : Nat) : ∀ v, (fr drawR (mkB (C38 N) [(21, Try.f21), (22, Try.f22)] [(21, [(0, g_laws_FnExactRunAlone_0 N)]), (22, [(0, altO d_laws_FnExactRunAlone_1 (g_laws_FnExactRunAlone_1 N) (g_laws_FnExactRunAlone_2 N))])] [] []) 8 8 Try.f8 (instA [.c (.int .i64), .c (.ls 65), .c (.ls 2)] v)).k (matR [.c (.bool)]) = F_laws_FnExactRunAlone N v := by
  rintro ⟨aBits0, aLines1, aVars2, _⟩; kernel_rfl
noncomputable def C8 (N : Nat) : CL SS := (8, conG [.c (.int .i64), .c (.ls 65), .c (.ls 2)] [.c (.bool)] (F_laws_FnExactRunAlone N)) :: C38 N
theorem KC8 (N : Nat) : COk QQ (C8 N) := COk.cons (conP LL DR_ok (KC38 N) (F := [(21, Try.f21), (22, Try.f22)]) (J := [(21, [(0, g_laws_FnExactRunAlone_0 N)]), (22, [(0, altO d_laws_FnExactRunAlone_1 (g_laws_FnExactRunAlone_1 N) (g_laws_FnExactRunAlone_2 N))])]) (FGood.cons i21 (JGood.cons i21.hd (o_laws_FnExactRunAlone_0 N) (JGood.nil c21)) (FGood.cons i22 (JGood.cons i22.hd (alt_ok (o_laws_FnExactRunAlone_1 N) (o_laws_FnExactRunAlone_2 N)) (JGood.nil c22)) (FGood.nil _))) (M := []) (R := []) i8 (JGood.nil c8) (t8 N)) (KC38 N)
noncomputable def c87 : Code := Try.f87.body.getD .skip
theorem i87 : IsF Try.prog 87 Try.f87 c87 := ⟨Try.func87, by kernel_rfl, by kernel_rfl, by kernel_rfl⟩
/-- loop.example/g01139/laws.szInt64S -/
def F_laws_szInt64S (N : Nat) : List (Int) × Int × Unit → Option (Int × Unit)
  | (a0, left1, _) =>
    bif (decide ((IntKind.wrap .i64 (left1 - (a0.length : Int))) < (0 : Int))) then some ((-(1 : Int)), ())
    else some ((IntKind.wrap .i64 (left1 - (a0.length : Int))), ())
theorem t87 (N : Nat) : ∀ v, (fr drawR (mkB (C8 N) [] [] [] []) 8 87 Try.f87 (instA [.c (.ls 2), .c (.int .i64)] v)).k (matR [.c (.int .i64)]) = F_laws_szInt64S N v := by
  rintro ⟨a0, left1, _⟩; kernel_rfl
noncomputable def C87 (N : Nat) : CL SS := (87, conG [.c (.ls 2), .c (.int .i64)] [.c (.int .i64)] (F_laws_szInt64S N)) :: C8 N
theorem KC87 (N : Nat) : COk QQ (C87 N) := COk.cons (conP LL DR_ok (KC8 N) (F := []) (J := []) (FGood.nil _) (M := []) (R := []) i87 (JGood.nil c87) (t87 N)) (KC8 N)
noncomputable def c45 : Code := Try.f45.body.getD .skip
theorem i45 : IsF Try.prog 45 Try.f45 c45 := ⟨Try.func45, by kernel_rfl, by kernel_rfl, by kernel_rfl⟩
noncomputable def b45_0 : Code := unLoop (blkOf 0 (blks c45))
theorem e45_0 : blkOf 0 (blks c45) = .loop b45_0 := by kernel_rfl
-- loop.example/g01139/laws.szInt64SS: loop 0
def d_laws_szInt64SS_0 : LoopD := ⟨80, ⟨[(0, .c (.rd 29 [(0, 0)]))], [(0, 0, .ext)], 27⟩, ⟨[(1, .c (.int .i64)), (5, .c (.int .i64))], [], 88⟩, [], [0], [⟨.ret, ⟨[(4, .c (.int .i64))], [], 88⟩, [], [0]⟩, ⟨.norm, ⟨[(1, .c (.int .i64))], [], 88⟩, [], [0]⟩]⟩
def n_laws_szInt64SS_0 (N : Nat) : List (List (Int)) × Unit → (Int × Int × Unit → Option ((Int × Unit) ⊕ (Int × Unit))) → Int × Int × Unit → Option ((Int × Unit) ⊕ (Int × Unit))
  | (a0, _), rec, (left1, i5, _) =>
    bif (decide (i5 < (a0.length : Int))) then bif (decide ((0 : Int) ≤ i5)) then bif (decide (i5 < (a0.length : Int))) then (F_laws_szInt64S N ((gt a0 i5), (left1, ()))).bind fun r324 =>
       bif (decide (r324.1 < (0 : Int))) then some (.inl ((-(1 : Int)), ()))
        else rec (r324.1, ((IntKind.wrap .i64 (i5 + (1 : Int))), ()))
      else none
     else none
    else some (.inr (left1, ()))
theorem s_laws_szInt64SS_0 (N : Nat) : ∀ σ p rec v, stepL (rn drawR (mkB (C87 N) [] [] [] []) 8 45 b45_0) 0 (wr b45_0) d_laws_szInt64SS_0 (instP σ d_laws_szInt64SS_0.pm p) rec v = n_laws_szInt64SS_0 N p rec v := by
  rintro σ ⟨a0, _⟩ rec ⟨left1, i5, _⟩; kernel_rfl
noncomputable def g_laws_szInt64SS_0 (N : Nat) : St (Sig.T SS) → Tr (Ex × St (Sig.T SS)) := orcL (wr b45_0) d_laws_szInt64SS_0 fun p => itN (n_laws_szInt64SS_0 N p) N
theorem o_laws_szInt64SS_0 (N : Nat) : Snd QQ (g_laws_szInt64SS_0 N) (.block 0 (blkOf 0 (blks c45))) := loopP LL DR_ok (KC87 N) (F := []) (J := []) (FGood.nil _) (M := []) (R := []) i45 (JGood.nil c45) e45_0 (s_laws_szInt64SS_0 N) N
/-- loop.example/g01139/laws.szInt64SS -/
def F_laws_szInt64SS (N : Nat) : List (List (Int)) × Int × Unit → Option (Int × Unit)
  | (a0, left1, _) =>
    bif (decide ((IntKind.wrap .i64 (left1 - (a0.length : Int))) < (0 : Int))) then some ((-(1 : Int)), ())
    else (itN (n_laws_szInt64SS_0 N (a0, ())) N ((IntKind.wrap .i64 (left1 - (a0.length : Int))), ((0 : Int), ()))).bind fun r325 =>
     bif r325.isLeft then r325.getLeft?.bind fun r326 =>
       some (r326.1, ())
      else r325.getRight?.bind fun r327 =>
       some (r327.1, ())
theorem t45 (N : Nat) : ∀ v, (fr drawR (mkB (C87 N) [] [(45, [(0, g_laws_szInt64SS_0 N)])] [] []) 8 45 Try.f45 (instA [.c (.ls 29), .c (.int .i64)] v)).k (matR [.c (.int .i64)]) = F_laws_szInt64SS N v := by
  rintro ⟨a0, left1, _⟩; kernel_rfl
noncomputable def C45 (N : Nat) : CL SS := (45, conG [.c (.ls 29), .c (.int .i64)] [.c (.int .i64)] (F_laws_szInt64SS N)) :: C87 N
theorem KC45 (N : Nat) : COk QQ (C45 N) := COk.cons (conP LL DR_ok (KC87 N) (F := []) (J := [(45, [(0, g_laws_szInt64SS_0 N)])]) (FGood.nil _) (M := []) (R := []) i45 (JGood.cons i45.hd (o_laws_szInt64SS_0 N) (JGood.nil c45)) (t45 N)) (KC87 N)
noncomputable def c47 : Code := Try.f47.body.getD .skip
theorem i47 : IsF Try.prog 47 Try.f47 c47 := ⟨Try.func47, by kernel_rfl, by kernel_rfl, by kernel_rfl⟩
noncomputable def b47_0 : Code := unLoop (blkOf 0 (blks c47))
theorem e47_0 : blkOf 0 (blks c47) = .loop b47_0 := by kernel_rfl
-- loop.example/g01139/laws.toInt64SS: loop 0
def d_laws_toInt64SS_0 : LoopD := ⟨56, ⟨[(0, .c (.rd 29 [(0, 0)])), (3, .c (.row 25))], [(0, 0, .ext)], 23⟩, ⟨[(4, .c (.int .i64))], [(25, .deep 29 0 2 [] 56)], 64⟩, [], [0, 25], [⟨.norm, ⟨[], [(25, .deep 29 0 2 [] 56)], 64⟩, [], [0, 25]⟩]⟩
def n_laws_toInt64SS_0 (N : Nat) : List (List (Int)) × Unit → (Int × List (List (Int)) × Unit → Option ((List (List (Int)) × Unit))) → Int × List (List (Int)) × Unit → Option ((List (List (Int)) × Unit))
  | (a0, _), rec, (i4, o25, _) =>
    bif (decide (i4 < (a0.length : Int))) then bif (decide ((0 : Int) ≤ i4)) then bif (decide (i4 < (a0.length : Int))) then (F_laws_toInt64S N ((gt a0 i4), ())).bind fun r330 =>
       bif (decide ((0 : Int) ≤ i4)) then bif (decide (i4 < (o25.length : Int))) then rec ((IntKind.wrap .i64 (i4 + (1 : Int))), ((o25.set i4.toNat r330.1), ()))
         else none
        else none
      else none
     else none
    else some (o25, ())
theorem s_laws_toInt64SS_0 (N : Nat) : ∀ σ p rec v, stepL (rn drawR (mkB (C45 N) [] [] [] []) 8 47 b47_0) 0 (wr b47_0) d_laws_toInt64SS_0 (instP σ d_laws_toInt64SS_0.pm p) rec v = n_laws_toInt64SS_0 N p rec v := by
  rintro σ ⟨a0, _⟩ rec ⟨i4, o25, _⟩; kernel_rfl
noncomputable def g_laws_toInt64SS_0 (N : Nat) : St (Sig.T SS) → Tr (Ex × St (Sig.T SS)) := orcL (wr b47_0) d_laws_toInt64SS_0 fun p => itN (n_laws_toInt64SS_0 N p) N
theorem o_laws_toInt64SS_0 (N : Nat) : Snd QQ (g_laws_toInt64SS_0 N) (.block 0 (blkOf 0 (blks c47))) := loopP LL DR_ok (KC45 N) (F := []) (J := []) (FGood.nil _) (M := []) (R := []) i47 (JGood.nil c47) e47_0 (s_laws_toInt64SS_0 N) N
/-- loop.example/g01139/laws.toInt64SS -/
def F_laws_toInt64SS (N : Nat) : List (List (Int)) × Unit → Option (List (List (Int)) × Unit)
  | (a0, _) =>
    bif (decide ((a0.length : Int) ≤ (a0.length : Int))) then bif (decide (((a0.length : Int) * (24 : Int)) ≤ (140737488351232 : Int))) then (itN (n_laws_toInt64SS_0 N (a0, ())) N ((0 : Int), ((List.replicate (a0.length : Int).toNat []), ()))).bind fun r331 =>
      some (r331.1, ())
     else none
    else none
theorem t47 (N : Nat) : ∀ v, (fr drawR (mkB (C45 N) [] [(47, [(0, g_laws_toInt64SS_0 N)])] [] []) 8 47 Try.f47 (instA [.c (.ls 29)] v)).k (matR [.c (.dp 29 0 2)]) = F_laws_toInt64SS N v := by
  rintro ⟨a0, _⟩; kernel_rfl
noncomputable def C47 (N : Nat) : CL SS := (47, conG [.c (.ls 29)] [.c (.dp 29 0 2)] (F_laws_toInt64SS N)) :: C45 N
theorem KC47 (N : Nat) : COk QQ (C47 N) := COk.cons (conP LL DR_ok (KC45 N) (F := []) (J := [(47, [(0, g_laws_toInt64SS_0 N)])]) (FGood.nil _) (M := []) (R := []) i47 (JGood.cons i47.hd (o_laws_toInt64SS_0 N) (JGood.nil c47)) (t47 N)) (KC45 N)
noncomputable def c88 : Code := Try.f88.body.getD .skip
theorem i88 : IsF Try.prog 88 Try.f88 c88 := ⟨Try.func88, by kernel_rfl, by kernel_rfl, by kernel_rfl⟩
noncomputable def b88_0 : Code := unLoop (blkOf 0 (blks c88))
theorem e88_0 : blkOf 0 (blks c88) = .loop b88_0 := by kernel_rfl
-- loop.example/g01139/spec.l08Many: loop 0
def d_spec_l08Many_0 : LoopD := ⟨24, ⟨[(0, .c (.int .i64)), (2, .c (.rd 29 [(0, 0)]))], [(0, 0, .ext)], 34⟩, ⟨[(7, .c (.int .i64))], [], 32⟩, [], [0], [⟨.ret, ⟨[(6, .c (.bool))], [], 32⟩, [], [0]⟩, ⟨.norm, ⟨[], [], 32⟩, [], [0]⟩]⟩
def n_spec_l08Many_0 (N : Nat) : Int × List (List (Int)) × Unit → (Int × Unit → Option ((Bool × Unit) ⊕ (Unit))) → Int × Unit → Option ((Bool × Unit) ⊕ (Unit))
  | (bits0, vars2, _), rec, (i7, _) =>
    bif (decide (i7 < (vars2.length : Int))) then bif (decide ((vars2.length : Int) ≤ (16 : Int))) then bif (decide ((0 : Int) ≤ i7)) then bif (decide (i7 < (vars2.length : Int))) then (F_spec_l08Vars N (bits0, ((gt vars2 i7), ()))).bind fun r332 =>
        bif (!r332.1) then some (.inl (false, ()))
         else rec ((IntKind.wrap .i64 (i7 + (1 : Int))), ())
       else none
      else none
     else some (.inr ())
    else some (.inr ())
theorem s_spec_l08Many_0 (N : Nat) : ∀ σ p rec v, stepL (rn drawR (mkB (C47 N) [] [] [] []) 8 88 b88_0) 0 (wr b88_0) d_spec_l08Many_0 (instP σ d_spec_l08Many_0.pm p) rec v = n_spec_l08Many_0 N p rec v := by
  rintro σ ⟨bits0, vars2, _⟩ rec ⟨i7, _⟩; kernel_rfl
noncomputable def g_spec_l08Many_0 (N : Nat) : St (Sig.T SS) → Tr (Ex × St (Sig.T SS)) := orcL (wr b88_0) d_spec_l08Many_0 fun p => itN (n_spec_l08Many_0 N p) N
theorem o_spec_l08Many_0 (N : Nat) : Snd QQ (g_spec_l08Many_0 N) (.block 0 (blkOf 0 (blks c88))) := loopP LL DR_ok (KC47 N) (F := []) (J := []) (FGood.nil _) (M := []) (R := []) i88 (JGood.nil c88) e88_0 (s_spec_l08Many_0 N) N
/-- loop.example/g01139/spec.l08Many -/
def F_spec_l08Many (N : Nat) : Int × (List (Int × Int × Int × Int × Int)) × List (List (Int)) × Unit → Option (Bool × Unit)
  | (bits0, lines1, vars2, _) =>
    (itN (n_spec_l08Many_0 N (bits0, (vars2, ()))) N ((0 : Int), ())).bind fun r333 =>
    bif r333.isLeft then r333.getLeft?.bind fun r334 =>
      some (r334.1, ())
     else r333.getRight?.bind fun r335 =>
      (F_spec_l08Is N (bits0, (lines1, ()))).bind fun r336 =>
       bif r336.1 then (F_spec_l00In N ((vars2.length : Int), ((1 : Int), ((16 : Int), ())))).bind fun r337 =>
         some (r337.1, ())
        else some (false, ())
theorem t88 (N : Nat) : ∀ v, (fr drawR (mkB (C47 N) [] [(88, [(0, g_spec_l08Many_0 N)])] [] []) 8 88 Try.f88 (instA [.c (.int .i64), .c (.ls 63), .c (.ls 29)] v)).k (matR [.c (.bool)]) = F_spec_l08Many N v := by
  rintro ⟨bits0, lines1, vars2, _⟩; kernel_rfl
noncomputable def C88 (N : Nat) : CL SS := (88, conG [.c (.int .i64), .c (.ls 63), .c (.ls 29)] [.c (.bool)] (F_spec_l08Many N)) :: C47 N
theorem KC88 (N : Nat) : COk QQ (C88 N) := COk.cons (conP LL DR_ok (KC47 N) (F := []) (J := [(88, [(0, g_spec_l08Many_0 N)])]) (FGood.nil _) (M := []) (R := []) i88 (JGood.cons i88.hd (o_spec_l08Many_0 N) (JGood.nil c88)) (t88 N)) (KC47 N)
noncomputable def c89 : Code := Try.f89.body.getD .skip
theorem i89 : IsF Try.prog 89 Try.f89 c89 := ⟨Try.func89, by kernel_rfl, by kernel_rfl, by kernel_rfl⟩
noncomputable def b89_0 : Code := unLoop (blkOf 0 (blks c89))
theorem e89_0 : blkOf 0 (blks c89) = .loop b89_0 := by kernel_rfl
-- loop.example/g01139/spec.l00Same: loop 0
def d_spec_l00Same_0 : LoopD := ⟨64, ⟨[(0, .c (.rd 2 [(0, 0)])), (1, .c (.rd 2 [(0, 0)]))], [(0, 0, .ext)], 26⟩, ⟨[(5, .c (.int .i64))], [], 72⟩, [], [0], [⟨.ret, ⟨[(4, .c (.bool))], [], 72⟩, [], [0]⟩, ⟨.norm, ⟨[], [], 72⟩, [], [0]⟩]⟩
def n_spec_l00Same_0 (N : Nat) : List (Int) × List (Int) × Unit → (Int × Unit → Option ((Bool × Unit) ⊕ (Unit))) → Int × Unit → Option ((Bool × Unit) ⊕ (Unit))
  | (a0, b1, _), rec, (i5, _) =>
    bif (decide (i5 < (a0.length : Int))) then bif (decide ((0 : Int) ≤ i5)) then bif (decide (i5 < (a0.length : Int))) then bif (decide ((0 : Int) ≤ i5)) then bif (decide (i5 < (b1.length : Int))) then bif (!(decide ((gt a0 i5) = (gt b1 i5)))) then some (.inl (false, ()))
         else rec ((IntKind.wrap .i64 (i5 + (1 : Int))), ())
        else none
       else none
      else none
     else none
    else some (.inr ())
theorem s_spec_l00Same_0 (N : Nat) : ∀ σ p rec v, stepL (rn drawR (mkB (C88 N) [] [] [] []) 8 89 b89_0) 0 (wr b89_0) d_spec_l00Same_0 (instP σ d_spec_l00Same_0.pm p) rec v = n_spec_l00Same_0 N p rec v := by
  rintro σ ⟨a0, b1, _⟩ rec ⟨i5, _⟩; kernel_rfl
noncomputable def g_spec_l00Same_0 (N : Nat) : St (Sig.T SS) → Tr (Ex × St (Sig.T SS)) := orcL (wr b89_0) d_spec_l00Same_0 fun p => itN (n_spec_l00Same_0 N p) N
theorem o_spec_l00Same_0 (N : Nat) : Snd QQ (g_spec_l00Same_0 N) (.block 0 (blkOf 0 (blks c89))) := loopP LL DR_ok (KC88 N) (F := []) (J := []) (FGood.nil _) (M := []) (R := []) i89 (JGood.nil c89) e89_0 (s_spec_l00Same_0 N) N
/-- loop.example/g01139/spec.l00Same -/
def F_spec_l00Same (N : Nat) : List (Int) × List (Int) × Unit → Option (Bool × Unit)
  | (a0, b1, _) =>
    bif (!(decide ((a0.length : Int) = (b1.length : Int)))) then some (false, ())
    else (itN (n_spec_l00Same_0 N (a0, (b1, ()))) N ((0 : Int), ())).bind fun r338 =>
     bif r338.isLeft then r338.getLeft?.bind fun r339 =>
       some (r339.1, ())
      else r338.getRight?.bind fun r340 =>
       some (true, ())
theorem t89 (N : Nat) : ∀ v, (fr drawR (mkB (C88 N) [] [(89, [(0, g_spec_l00Same_0 N)])] [] []) 8 89 Try.f89 (instA [.c (.ls 2), .c (.ls 2)] v)).k (matR [.c (.bool)]) = F_spec_l00Same N v := by
  rintro ⟨a0, b1, _⟩; kernel_rfl
noncomputable def C89 (N : Nat) : CL SS := (89, conG [.c (.ls 2), .c (.ls 2)] [.c (.bool)] (F_spec_l00Same N)) :: C88 N
theorem KC89 (N : Nat) : COk QQ (C89 N) := COk.cons (conP LL DR_ok (KC88 N) (F := []) (J := [(89, [(0, g_spec_l00Same_0 N)])]) (FGood.nil _) (M := []) (R := []) i89 (JGood.cons i89.hd (o_spec_l00Same_0 N) (JGood.nil c89)) (t89 N)) (KC88 N)
noncomputable def c46 : Code := Try.f46.body.getD .skip
theorem i46 : IsF Try.prog 46 Try.f46 c46 := ⟨Try.func46, by kernel_rfl, by kernel_rfl, by kernel_rfl⟩
noncomputable def b46_0 : Code := unLoop (blkOf 0 (blks c46))
theorem e46_0 : blkOf 0 (blks c46) = .loop b46_0 := by kernel_rfl
-- loop.example/g01139/spec.IsUniform: loop 0
def d_spec_IsUniform_0 : LoopD := ⟨152, ⟨[(0, .c (.int .i64)), (1, .c (.rd 63 [(0, 0)])), (2, .c (.rd 29 [(0, 0)])), (8, .c (.row 90))], [(0, 0, .ext), (90, 90, .row 2 [])], 46⟩, ⟨[(9, .c (.int .i64))], [], 160⟩, [], [0, 90], [⟨.ret, ⟨[(6, .c (.bool))], [], 160⟩, [], [0, 90]⟩, ⟨.norm, ⟨[], [], 160⟩, [], [0, 90]⟩]⟩
def n_spec_IsUniform_0 (N : Nat) : Int × (List (Int × Int × Int × Int × Int)) × List (List (Int)) × List (Int) × Unit → (Int × Unit → Option ((Bool × Unit) ⊕ (Unit))) → Int × Unit → Option ((Bool × Unit) ⊕ (Unit))
  | (bits0, lines1, vars2, p90, _), rec, (k9, _) =>
    bif (decide (k9 < (vars2.length : Int))) then bif (decide ((0 : Int) ≤ k9)) then bif (decide (k9 < (vars2.length : Int))) then (F_spec_l08Alone N (bits0, (lines1, ((gt vars2 k9), ())))).bind fun r343 =>
       (F_spec_l00Same N (r343.2.1, (p90, ()))).bind fun r344 =>
        bif (!r344.1) then some (.inl (false, ()))
         else rec ((IntKind.wrap .i64 (k9 + (1 : Int))), ())
      else none
     else none
    else some (.inr ())
theorem s_spec_IsUniform_0 (N : Nat) : ∀ σ p rec v, stepL (rn drawR (mkB (C89 N) [] [] [] []) 8 46 b46_0) 0 (wr b46_0) d_spec_IsUniform_0 (instP σ d_spec_IsUniform_0.pm p) rec v = n_spec_IsUniform_0 N p rec v := by
  rintro σ ⟨bits0, lines1, vars2, p90, _⟩ rec ⟨k9, _⟩; kernel_rfl
noncomputable def g_spec_IsUniform_0 (N : Nat) : St (Sig.T SS) → Tr (Ex × St (Sig.T SS)) := orcL (wr b46_0) d_spec_IsUniform_0 fun p => itN (n_spec_IsUniform_0 N p) N
theorem o_spec_IsUniform_0 (N : Nat) : Snd QQ (g_spec_IsUniform_0 N) (.block 0 (blkOf 0 (blks c46))) := loopP LL DR_ok (KC89 N) (F := []) (J := []) (FGood.nil _) (M := []) (R := []) i46 (JGood.nil c46) e46_0 (s_spec_IsUniform_0 N) N
/-- loop.example/g01139/spec.IsUniform -/
def F_spec_IsUniform (N : Nat) : Int × (List (Int × Int × Int × Int × Int)) × List (List (Int)) × Unit → Option (Bool × Unit)
  | (bits0, lines1, vars2, _) =>
    (F_spec_l08Many N (bits0, (lines1, (vars2, ())))).bind fun r345 =>
    bif (!r345.1) then some (false, ())
     else bif (decide ((0 : Int) < (vars2.length : Int))) then (F_spec_l08Alone N (bits0, (lines1, ((gt vars2 (0 : Int)), ())))).bind fun r346 =>
       (itN (n_spec_IsUniform_0 N (bits0, (lines1, (vars2, (r346.2.1, ()))))) N ((1 : Int), ())).bind fun r347 =>
        bif r347.isLeft then r347.getLeft?.bind fun r348 =>
          some (r348.1, ())
         else r347.getRight?.bind fun r349 =>
          some (true, ())
      else none
theorem t46 (N : Nat) : ∀ v, (fr drawR (mkB (C89 N) [] [(46, [(0, g_spec_IsUniform_0 N)])] [] []) 8 46 Try.f46 (instA [.c (.int .i64), .c (.ls 63), .c (.ls 29)] v)).k (matR [.c (.bool)]) = F_spec_IsUniform N v := by
  rintro ⟨bits0, lines1, vars2, _⟩; kernel_rfl
noncomputable def C46 (N : Nat) : CL SS := (46, conG [.c (.int .i64), .c (.ls 63), .c (.ls 29)] [.c (.bool)] (F_spec_IsUniform N)) :: C89 N
theorem KC46 (N : Nat) : COk QQ (C46 N) := COk.cons (conP LL DR_ok (KC89 N) (F := []) (J := [(46, [(0, g_spec_IsUniform_0 N)])]) (FGood.nil _) (M := []) (R := []) i46 (JGood.cons i46.hd (o_spec_IsUniform_0 N) (JGood.nil c46)) (t46 N)) (KC89 N)
noncomputable def c116 : Code := Try.f116.body.getD .skip
theorem i116 : IsF Try.prog 116 Try.f116 c116 := ⟨Try.func116, by kernel_rfl, by kernel_rfl, by kernel_rfl⟩
/-- loop.example/g01139/impl.length[[]int64] -/
def F_impl_length___int64_ (N : Nat) : List (List (Int)) × Unit → Option (Int × Unit)
  | (list0, _) =>
    some ((list0.length : Int), ())
theorem t116 (N : Nat) : ∀ v, (fr drawR (mkB (C46 N) [] [] [] []) 8 116 Try.f116 (instA [.c (.ls 29)] v)).k (matR [.c (.int .i64)]) = F_impl_length___int64_ N v := by
  rintro ⟨list0, _⟩; kernel_rfl
noncomputable def C116 (N : Nat) : CL SS := (116, conG [.c (.ls 29)] [.c (.int .i64)] (F_impl_length___int64_ N)) :: C46 N
theorem KC116 (N : Nat) : COk QQ (C116 N) := COk.cons (conP LL DR_ok (KC46 N) (F := []) (J := []) (FGood.nil _) (M := []) (R := []) i116 (JGood.nil c116) (t116 N)) (KC46 N)
noncomputable def c82 : Code := Try.f82.body.getD .skip
theorem i82 : IsF Try.prog 82 Try.f82 c82 := ⟨Try.func82, by kernel_rfl, by kernel_rfl, by kernel_rfl⟩
noncomputable def c117 : Code := Try.f117.body.getD .skip
theorem i117 : IsF Try.prog 117 Try.f117 c117 := ⟨Try.func117, by kernel_rfl, by kernel_rfl, by kernel_rfl⟩
noncomputable def c84 : Code := Try.f84.body.getD .skip
theorem i84 : IsF Try.prog 84 Try.f84 c84 := ⟨Try.func84, by kernel_rfl, by kernel_rfl, by kernel_rfl⟩
noncomputable def c122 : Code := Try.f122.body.getD .skip
theorem i122 : IsF Try.prog 122 Try.f122 c122 := ⟨Try.func122, by kernel_rfl, by kernel_rfl, by kernel_rfl⟩
noncomputable def c121 : Code := Try.f121.body.getD .skip
theorem i121 : IsF Try.prog 121 Try.f121 c121 := ⟨Try.func121, by kernel_rfl, by kernel_rfl, by kernel_rfl⟩
noncomputable def c154 : Code := Try.f154.body.getD .skip
theorem i154 : IsF Try.prog 154 Try.f154 c154 := ⟨Try.func154, by kernel_rfl, by kernel_rfl, by kernel_rfl⟩
noncomputable def b154_0 : Code := unLoop (blkOf 0 (blks c154))
theorem e154_0 : blkOf 0 (blks c154) = .loop b154_0 := by kernel_rfl
-- slices.IndexFunc[[][]int64,[]int64]: loop 0
def d_impl_areAllVars_0 : LoopD := ⟨200, ⟨[(0, .c (.rd 29 [(0, 0)])), (1, .c (.fn 122 [105])), (7, .c (.int .i64))], [(0, 0, .ext), (105, 105, .var 82 [.fn 117 [1]]), (1, 1, .var 2 [.int .i64])], 19⟩, ⟨[(8, .c (.int .i64))], [], 208⟩, [], [0, 105, 1], [⟨.ret, ⟨[(4, .c (.int .i64))], [], 208⟩, [], [0, 105, 1]⟩, ⟨.norm, ⟨[], [], 208⟩, [], [0, 105, 1]⟩]⟩
def n_impl_areAllVars_0 (N : Nat) : List (List (Int)) × Int × Int × Unit → (Int × Unit → Option ((Int × Unit) ⊕ (Unit))) → Int × Unit → Option ((Int × Unit) ⊕ (Unit))
  | (s0, t7, p1, _), rec, (t8, _) =>
    bif (decide (t8 < t7)) then bif (decide ((0 : Int) ≤ t8)) then bif (decide (t8 < (s0.length : Int))) then (F_impl_areVars N (p1, ((gt s0 t8), ()))).bind fun r353 =>
       bif (!r353.1) then some (.inl (t8, ()))
        else rec ((IntKind.wrap .i64 (t8 + (1 : Int))), ())
      else none
     else none
    else some (.inr ())
theorem s_impl_areAllVars_0 (N : Nat) : ∀ σ p rec v, stepL (rn drawR (mkB (C116 N) [(117, Try.f117), (84, Try.f84), (122, Try.f122), (121, Try.f121), (154, Try.f154)] [] [] []) 8 154 b154_0) 0 (wr b154_0) d_impl_areAllVars_0 (instP σ d_impl_areAllVars_0.pm p) rec v = n_impl_areAllVars_0 N p rec v := by
  rintro σ ⟨s0, t7, p1, _⟩ rec ⟨t8, _⟩; kernel_rfl
noncomputable def g_impl_areAllVars_0 (N : Nat) : St (Sig.T SS) → Tr (Ex × St (Sig.T SS)) := orcL (wr b154_0) d_impl_areAllVars_0 fun p => itN (n_impl_areAllVars_0 N p) N
theorem o_impl_areAllVars_0 (N : Nat) : Snd QQ (g_impl_areAllVars_0 N) (.block 0 (blkOf 0 (blks c154))) := loopP LL DR_ok (KC116 N) (F := [(117, Try.f117), (84, Try.f84), (122, Try.f122), (121, Try.f121), (154, Try.f154)]) (J := []) (FGood.cons i117 (JGood.nil c117) (FGood.cons i84 (JGood.nil c84) (FGood.cons i122 (JGood.nil c122) (FGood.cons i121 (JGood.nil c121) (FGood.cons i154 (JGood.nil c154) (FGood.nil _)))))) (M := []) (R := []) i154 (JGood.nil c154) e154_0 (s_impl_areAllVars_0 N) N
/-- loop.example/g01139/impl.areAllVars -/
def F_impl_areAllVars (N : Nat) : Int × (List (Int × Int × Int × Int × Int)) × List (List (Int)) × Unit → Option (Bool × Unit)
  | (bits0, lines1, vars2, _) =>
    (F_impl_ValidLines N (bits0, (lines1, ()))).bind fun r354 =>
    bif r354.1 then (F_impl_length___int64_ N (vars2, ())).bind fun r355 =>
      (F_impl_within N (r355.1, ((1 : Int), ((16 : Int), ())))).bind fun r356 =>
       bif r356.1 then (itN (n_impl_areAllVars_0 N (vars2, ((vars2.length : Int), (bits0, ())))) N ((0 : Int), ())).bind fun r357 =>
         bif r357.isLeft then r357.getLeft?.bind fun r358 =>
           some ((!(decide (r358.1 ≥ (0 : Int)))), ())
          else r357.getRight?.bind fun r359 =>
           some ((!(decide ((-(1 : Int)) ≥ (0 : Int)))), ())
        else some (false, ())
     else some (false, ())
theorem t82 (N : Nat) : ∀ v, (fr drawR (mkB (C116 N) [(117, Try.f117), (84, Try.f84), (122, Try.f122), (121, Try.f121), (154, Try.f154)] [(154, [(0, g_impl_areAllVars_0 N)])] [] []) 8 82 Try.f82 (instA [.c (.int .i64), .c (.ls 63), .c (.ls 29)] v)).k (matR [.c (.bool)]) = F_impl_areAllVars N v := by
  rintro ⟨bits0, lines1, vars2, _⟩; kernel_rfl
noncomputable def C82 (N : Nat) : CL SS := (82, conG [.c (.int .i64), .c (.ls 63), .c (.ls 29)] [.c (.bool)] (F_impl_areAllVars N)) :: C116 N
theorem KC82 (N : Nat) : COk QQ (C82 N) := COk.cons (conP LL DR_ok (KC116 N) (F := [(117, Try.f117), (84, Try.f84), (122, Try.f122), (121, Try.f121), (154, Try.f154)]) (J := [(154, [(0, g_impl_areAllVars_0 N)])]) (FGood.cons i117 (JGood.nil c117) (FGood.cons i84 (JGood.nil c84) (FGood.cons i122 (JGood.nil c122) (FGood.cons i121 (JGood.nil c121) (FGood.cons i154 (JGood.cons i154.hd (o_impl_areAllVars_0 N) (JGood.nil c154)) (FGood.nil _)))))) (M := []) (R := []) i82 (JGood.nil c82) (t82 N)) (KC116 N)
noncomputable def c86 : Code := Try.f86.body.getD .skip
theorem i86 : IsF Try.prog 86 Try.f86 c86 := ⟨Try.func86, by kernel_rfl, by kernel_rfl, by kernel_rfl⟩
noncomputable def b86_0 : Code := unLoop (blkOf 0 (blks c86))
theorem e86_0 : blkOf 0 (blks c86) = .loop b86_0 := by kernel_rfl
-- slices.Equal[[]int64,int64]: loop 0
def d_slices_Equal___int64_int64__0 : LoopD := ⟨80, ⟨[(0, .c (.rd 2 [(0, 0)])), (1, .c (.rd 2 [(0, 0)])), (12, .c (.int .i64))], [(0, 0, .ext)], 26⟩, ⟨[(13, .c (.int .i64))], [], 88⟩, [], [0], [⟨.ret, ⟨[(4, .c (.bool))], [], 88⟩, [], [0]⟩, ⟨.norm, ⟨[], [], 88⟩, [], [0]⟩]⟩
def n_slices_Equal___int64_int64__0 (N : Nat) : List (Int) × List (Int) × Int × Unit → (Int × Unit → Option ((Bool × Unit) ⊕ (Unit))) → Int × Unit → Option ((Bool × Unit) ⊕ (Unit))
  | (s10, s21, t12, _), rec, (t13, _) =>
    bif (decide (t13 < t12)) then bif (decide ((0 : Int) ≤ t13)) then bif (decide (t13 < (s10.length : Int))) then bif (decide ((0 : Int) ≤ t13)) then bif (decide (t13 < (s21.length : Int))) then bif (!(decide ((gt s10 t13) = (gt s21 t13)))) then some (.inl (false, ()))
         else rec ((IntKind.wrap .i64 (t13 + (1 : Int))), ())
        else none
       else none
      else none
     else none
    else some (.inr ())
theorem s_slices_Equal___int64_int64__0 (N : Nat) : ∀ σ p rec v, stepL (rn drawR (mkB (C82 N) [] [] [] []) 8 86 b86_0) 0 (wr b86_0) d_slices_Equal___int64_int64__0 (instP σ d_slices_Equal___int64_int64__0.pm p) rec v = n_slices_Equal___int64_int64__0 N p rec v := by
  rintro σ ⟨s10, s21, t12, _⟩ rec ⟨t13, _⟩; kernel_rfl
noncomputable def g_slices_Equal___int64_int64__0 (N : Nat) : St (Sig.T SS) → Tr (Ex × St (Sig.T SS)) := orcL (wr b86_0) d_slices_Equal___int64_int64__0 fun p => itN (n_slices_Equal___int64_int64__0 N p) N
theorem o_slices_Equal___int64_int64__0 (N : Nat) : Snd QQ (g_slices_Equal___int64_int64__0 N) (.block 0 (blkOf 0 (blks c86))) := loopP LL DR_ok (KC82 N) (F := []) (J := []) (FGood.nil _) (M := []) (R := []) i86 (JGood.nil c86) e86_0 (s_slices_Equal___int64_int64__0 N) N
/-- slices.Equal[[]int64,int64] -/
def F_slices_Equal___int64_int64_ (N : Nat) : List (Int) × List (Int) × Unit → Option (Bool × Unit)
  | (s10, s21, _) =>
    bif (!(decide ((s10.length : Int) = (s21.length : Int)))) then some (false, ())
    else (itN (n_slices_Equal___int64_int64__0 N (s10, (s21, ((s10.length : Int), ())))) N ((0 : Int), ())).bind fun r360 =>
     bif r360.isLeft then r360.getLeft?.bind fun r361 =>
       some (r361.1, ())
      else r360.getRight?.bind fun r362 =>
       some (true, ())
theorem t86 (N : Nat) : ∀ v, (fr drawR (mkB (C82 N) [] [(86, [(0, g_slices_Equal___int64_int64__0 N)])] [] []) 8 86 Try.f86 (instA [.c (.ls 2), .c (.ls 2)] v)).k (matR [.c (.bool)]) = F_slices_Equal___int64_int64_ N v := by
  rintro ⟨s10, s21, _⟩; kernel_rfl
noncomputable def C86 (N : Nat) : CL SS := (86, conG [.c (.ls 2), .c (.ls 2)] [.c (.bool)] (F_slices_Equal___int64_int64_ N)) :: C82 N
theorem KC86 (N : Nat) : COk QQ (C86 N) := COk.cons (conP LL DR_ok (KC82 N) (F := []) (J := [(86, [(0, g_slices_Equal___int64_int64__0 N)])]) (FGood.nil _) (M := []) (R := []) i86 (JGood.cons i86.hd (o_slices_Equal___int64_int64__0 N) (JGood.nil c86)) (t86 N)) (KC82 N)
noncomputable def c44 : Code := Try.f44.body.getD .skip
theorem i44 : IsF Try.prog 44 Try.f44 c44 := ⟨Try.func44, by kernel_rfl, by kernel_rfl, by kernel_rfl⟩
noncomputable def c85 : Code := Try.f85.body.getD .skip
theorem i85 : IsF Try.prog 85 Try.f85 c85 := ⟨Try.func85, by kernel_rfl, by kernel_rfl, by kernel_rfl⟩
-- slices.IndexFunc[[][]int64,[]int64]: loop 0
def d_impl_IsUniform_0 : LoopD := ⟨272, ⟨[(0, .c (.rd 29 [(0, 0)])), (1, .c (.fn 122 [177])), (7, .c (.int .i64))], [(0, 0, .ext), (177, 177, .var 82 [.fn 85 [1, 9, 137]]), (1, 1, .var 2 [.int .i64]), (9, 9, .var 25 [.rd 63 [(0, 0)]]), (137, 153, .var 29 [.row 106]), (106, 106, .row 2 [])], 19⟩, ⟨[(8, .c (.int .i64))], [], 280⟩, [], [0, 177, 1, 9, 137, 106], [⟨.ret, ⟨[(4, .c (.int .i64))], [], 280⟩, [], [0, 177, 1, 9, 137, 106]⟩, ⟨.norm, ⟨[], [], 280⟩, [], [0, 177, 1, 9, 137, 106]⟩]⟩
def n_impl_IsUniform_0 (N : Nat) : List (List (Int)) × Int × Int × (List (Int × Int × Int × Int × Int)) × List (Int) × Unit → (Int × Unit → Option ((Int × Unit) ⊕ (Unit))) → Int × Unit → Option ((Int × Unit) ⊕ (Unit))
  | (s0, t7, p1, p9, p106, _), rec, (t8, _) =>
    bif (decide (t8 < t7)) then bif (decide ((0 : Int) ≤ t8)) then bif (decide (t8 < (s0.length : Int))) then (F_impl_alone N (p1, (p9, ((gt s0 t8), ())))).bind fun r365 =>
       (F_slices_Equal___int64_int64_ N (r365.2.1, (p106, ()))).bind fun r366 =>
        bif (!r366.1) then some (.inl (t8, ()))
         else rec ((IntKind.wrap .i64 (t8 + (1 : Int))), ())
      else none
     else none
    else some (.inr ())
theorem s_impl_IsUniform_0 (N : Nat) : ∀ σ p rec v, stepL (rn drawR (mkB (C86 N) [(85, Try.f85), (84, Try.f84), (122, Try.f122), (121, Try.f121), (154, Try.f154)] [] [] []) 8 154 b154_0) 0 (wr b154_0) d_impl_IsUniform_0 (instP σ d_impl_IsUniform_0.pm p) rec v = n_impl_IsUniform_0 N p rec v := by
  rintro σ ⟨s0, t7, p1, p9, p106, _⟩ rec ⟨t8, _⟩; kernel_rfl
noncomputable def g_impl_IsUniform_0 (N : Nat) : St (Sig.T SS) → Tr (Ex × St (Sig.T SS)) := orcL (wr b154_0) d_impl_IsUniform_0 fun p => itN (n_impl_IsUniform_0 N p) N
theorem o_impl_IsUniform_0 (N : Nat) : Snd QQ (g_impl_IsUniform_0 N) (.block 0 (blkOf 0 (blks c154))) := loopP LL DR_ok (KC86 N) (F := [(85, Try.f85), (84, Try.f84), (122, Try.f122), (121, Try.f121), (154, Try.f154)]) (J := []) (FGood.cons i85 (JGood.nil c85) (FGood.cons i84 (JGood.nil c84) (FGood.cons i122 (JGood.nil c122) (FGood.cons i121 (JGood.nil c121) (FGood.cons i154 (JGood.nil c154) (FGood.nil _)))))) (M := []) (R := []) i154 (JGood.nil c154) e154_0 (s_impl_IsUniform_0 N) N
/-- loop.example/g01139/impl.IsUniform -/
def F_impl_IsUniform (N : Nat) : Int × (List (Int × Int × Int × Int × Int)) × List (List (Int)) × Unit → Option (Bool × Unit)
  | (bits0, lines1, vars2, _) =>
    (F_impl_areAllVars N (bits0, (lines1, (vars2, ())))).bind fun r367 =>
    bif (!r367.1) then some (false, ())
     else bif (decide ((0 : Int) < (vars2.length : Int))) then (F_impl_alone N (bits0, (lines1, ((gt vars2 (0 : Int)), ())))).bind fun r368 =>
       (itN (n_impl_IsUniform_0 N (vars2, ((vars2.length : Int), (bits0, (lines1, (r368.2.1, ())))))) N ((0 : Int), ())).bind fun r369 =>
        bif r369.isLeft then r369.getLeft?.bind fun r370 =>
          some ((!(decide (r370.1 ≥ (0 : Int)))), ())
         else r369.getRight?.bind fun r371 =>
          some ((!(decide ((-(1 : Int)) ≥ (0 : Int)))), ())
      else none
theorem t44 (N : Nat) : ∀ v, (fr drawR (mkB (C86 N) [(85, Try.f85), (84, Try.f84), (122, Try.f122), (121, Try.f121), (154, Try.f154)] [(154, [(0, g_impl_IsUniform_0 N)])] [] []) 8 44 Try.f44 (instA [.c (.int .i64), .c (.ls 63), .c (.ls 29)] v)).k (matR [.c (.bool)]) = F_impl_IsUniform N v := by
  rintro ⟨bits0, lines1, vars2, _⟩; kernel_rfl
noncomputable def C44 (N : Nat) : CL SS := (44, conG [.c (.int .i64), .c (.ls 63), .c (.ls 29)] [.c (.bool)] (F_impl_IsUniform N)) :: C86 N
theorem KC44 (N : Nat) : COk QQ (C44 N) := COk.cons (conP LL DR_ok (KC86 N) (F := [(85, Try.f85), (84, Try.f84), (122, Try.f122), (121, Try.f121), (154, Try.f154)]) (J := [(154, [(0, g_impl_IsUniform_0 N)])]) (FGood.cons i85 (JGood.nil c85) (FGood.cons i84 (JGood.nil c84) (FGood.cons i122 (JGood.nil c122) (FGood.cons i121 (JGood.nil c121) (FGood.cons i154 (JGood.cons i154.hd (o_impl_IsUniform_0 N) (JGood.nil c154)) (FGood.nil _)))))) (M := []) (R := []) i44 (JGood.nil c44) (t44 N)) (KC86 N)
noncomputable def c48 : Code := Try.f48.body.getD .skip
theorem i48 : IsF Try.prog 48 Try.f48 c48 := ⟨Try.func48, by kernel_rfl, by kernel_rfl, by kernel_rfl⟩
noncomputable def b48_0 : Code := unLoop (blkOf 0 (blks c48))
theorem e48_0 : blkOf 0 (blks c48) = .loop b48_0 := by kernel_rfl
-- loop.example/g01139/laws.eqInt64SS: loop 0
def d_laws_eqInt64SS_0 : LoopD := ⟨64, ⟨[(0, .c (.rd 29 [(0, 0)])), (1, .c (.rd 29 [(0, 0)]))], [(0, 0, .ext)], 27⟩, ⟨[(5, .c (.int .i64))], [], 72⟩, [], [0], [⟨.ret, ⟨[(4, .c (.bool))], [], 72⟩, [], [0]⟩, ⟨.norm, ⟨[], [], 72⟩, [], [0]⟩]⟩
def n_laws_eqInt64SS_0 (N : Nat) : List (List (Int)) × List (List (Int)) × Unit → (Int × Unit → Option ((Bool × Unit) ⊕ (Unit))) → Int × Unit → Option ((Bool × Unit) ⊕ (Unit))
  | (a0, b1, _), rec, (i5, _) =>
    bif (decide (i5 < (a0.length : Int))) then bif (decide ((0 : Int) ≤ i5)) then bif (decide (i5 < (a0.length : Int))) then bif (decide ((0 : Int) ≤ i5)) then bif (decide (i5 < (b1.length : Int))) then (F_laws_eqInt64S N ((gt a0 i5), ((gt b1 i5), ()))).bind fun r372 =>
         bif (!r372.1) then some (.inl (false, ()))
          else rec ((IntKind.wrap .i64 (i5 + (1 : Int))), ())
        else none
       else none
      else none
     else none
    else some (.inr ())
theorem s_laws_eqInt64SS_0 (N : Nat) : ∀ σ p rec v, stepL (rn drawR (mkB (C44 N) [] [] [] []) 8 48 b48_0) 0 (wr b48_0) d_laws_eqInt64SS_0 (instP σ d_laws_eqInt64SS_0.pm p) rec v = n_laws_eqInt64SS_0 N p rec v := by
  rintro σ ⟨a0, b1, _⟩ rec ⟨i5, _⟩; kernel_rfl
noncomputable def g_laws_eqInt64SS_0 (N : Nat) : St (Sig.T SS) → Tr (Ex × St (Sig.T SS)) := orcL (wr b48_0) d_laws_eqInt64SS_0 fun p => itN (n_laws_eqInt64SS_0 N p) N
theorem o_laws_eqInt64SS_0 (N : Nat) : Snd QQ (g_laws_eqInt64SS_0 N) (.block 0 (blkOf 0 (blks c48))) := loopP LL DR_ok (KC44 N) (F := []) (J := []) (FGood.nil _) (M := []) (R := []) i48 (JGood.nil c48) e48_0 (s_laws_eqInt64SS_0 N) N
/-- loop.example/g01139/laws.eqInt64SS -/
def F_laws_eqInt64SS (N : Nat) : List (List (Int)) × List (List (Int)) × Unit → Option (Bool × Unit)
  | (a0, b1, _) =>
    bif (!(decide ((a0.length : Int) = (b1.length : Int)))) then some (false, ())
    else (itN (n_laws_eqInt64SS_0 N (a0, (b1, ()))) N ((0 : Int), ())).bind fun r373 =>
     bif r373.isLeft then r373.getLeft?.bind fun r374 =>
       some (r374.1, ())
      else r373.getRight?.bind fun r375 =>
       some (true, ())
theorem t48 (N : Nat) : ∀ v, (fr drawR (mkB (C44 N) [] [(48, [(0, g_laws_eqInt64SS_0 N)])] [] []) 8 48 Try.f48 (instA [.c (.ls 29), .c (.ls 29)] v)).k (matR [.c (.bool)]) = F_laws_eqInt64SS N v := by
  rintro ⟨a0, b1, _⟩; kernel_rfl
noncomputable def C48 (N : Nat) : CL SS := (48, conG [.c (.ls 29), .c (.ls 29)] [.c (.bool)] (F_laws_eqInt64SS N)) :: C44 N
theorem KC48 (N : Nat) : COk QQ (C48 N) := COk.cons (conP LL DR_ok (KC44 N) (F := []) (J := [(48, [(0, g_laws_eqInt64SS_0 N)])]) (FGood.nil _) (M := []) (R := []) i48 (JGood.cons i48.hd (o_laws_eqInt64SS_0 N) (JGood.nil c48)) (t48 N)) (KC44 N)
noncomputable def c10 : Code := Try.f10.body.getD .skip
theorem i10 : IsF Try.prog 10 Try.f10 c10 := ⟨Try.func10, by kernel_rfl, by kernel_rfl, by kernel_rfl⟩
/-- loop.example/g01139/laws.FnExactIsUniform -/
def F_laws_FnExactIsUniform (N : Nat) : Int × (List (Int × Int × Int × Int × Int)) × List (List (Int)) × Unit → Option (Bool × Unit)
  | (aBits0, aLines1, aVars2, _) =>
    (F_laws_szLineS N (aLines1, ((1048576 : Int), ()))).bind fun r376 =>
    bif (decide (r376.1 < (0 : Int))) then some (true, ())
     else (F_laws_szInt64SS N (aVars2, (r376.1, ()))).bind fun r377 =>
      bif (decide (r377.1 < (0 : Int))) then some (true, ())
       else (F_laws_toLineS N (aLines1, ())).bind fun r378 =>
        (F_laws_toInt64SS N (aVars2, ())).bind fun r379 =>
         (F_spec_IsUniform N (aBits0, (r378.1, (r379.1, ())))).bind fun r380 =>
          (F_laws_toLineS N (aLines1, ())).bind fun r381 =>
           (F_laws_toInt64SS N (aVars2, ())).bind fun r382 =>
            (F_impl_IsUniform N (aBits0, (r381.1, (r382.1, ())))).bind fun r383 =>
             bif (!(r383.1 == r380.1)) then some (false, ())
              else (F_laws_toLineS N (aLines1, ())).bind fun r384 =>
               (F_laws_eqLineS N (r381.1, (r384.1, ()))).bind fun r385 =>
                bif (!r385.1) then some (false, ())
                 else (F_laws_toInt64SS N (aVars2, ())).bind fun r386 =>
                  (F_laws_eqInt64SS N (r382.1, (r386.1, ()))).bind fun r387 =>
                   bif (!r387.1) then some (false, ())
                    else some (true, ())
theorem t10 (N : Nat) : ∀ v, (fr drawR (mkB (C48 N) [] [] [] []) 8 10 Try.f10 (instA [.c (.int .i64), .c (.ls 65), .c (.ls 29)] v)).k (matR [.c (.bool)]) = F_laws_FnExactIsUniform N v := by
  rintro ⟨aBits0, aLines1, aVars2, _⟩; kernel_rfl
noncomputable def C10 (N : Nat) : CL SS := (10, conG [.c (.int .i64), .c (.ls 65), .c (.ls 29)] [.c (.bool)] (F_laws_FnExactIsUniform N)) :: C48 N
theorem KC10 (N : Nat) : COk QQ (C10 N) := COk.cons (conP LL DR_ok (KC48 N) (F := []) (J := []) (FGood.nil _) (M := []) (R := []) i10 (JGood.nil c10) (t10 N)) (KC48 N)
end Go.Proofs.Ytheemkehedmlfaa.E
