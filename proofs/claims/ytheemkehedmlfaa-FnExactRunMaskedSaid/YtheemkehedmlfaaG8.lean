import Derived.Test.YtheemkehedmlfaaT
set_option linter.unusedVariables false
namespace Go.Proofs.Ytheemkehedmlfaa.E
open Go
noncomputable def C0 (N : Nat) : CL SS := []
theorem KC0 (N : Nat) : COk QQ (C0 N) := COk.nil
noncomputable def c170 : Code := Try.f170.body.getD .skip
theorem i170 : IsF Try.prog 170 Try.f170 c170 := ⟨Try.func170, by kernel_rfl, by kernel_rfl, by kernel_rfl⟩
def F_bits_Mul32 (N : Nat) : Int × Int × Unit → Option (Int × Int × Unit)
 | (x0, y1, _) =>
 some ((IntKind.wrap .u32 (shrI .u64 (IntKind.wrap .u64 ((IntKind.wrap .u64 x0) * (IntKind.wrap .u64 y1))) (32 : Int))), ((IntKind.wrap .u32 (IntKind.wrap .u64 ((IntKind.wrap .u64 x0) * (IntKind.wrap .u64 y1)))), ()))
theorem t170 (N : Nat) : ∀ v, (fr drawQ (mkB (C0 N) [] [] [] []) 8 170 Try.f170 (instA [.c (.int .u32), .c (.int .u32)] v)).k (matR [.c (.int .u32), .c (.int .u32)]) = F_bits_Mul32 N v := by
 rintro ⟨x0, y1, _⟩; kernel_rfl
noncomputable def C170 (N : Nat) : CL SS := (170, conG [.c (.int .u32), .c (.int .u32)] [.c (.int .u32), .c (.int .u32)] (F_bits_Mul32 N)) :: C0 N
theorem KC170 (N : Nat) : COk QQ (C170 N) := COk.cons (conP LL DR_ok (KC0 N) (F := []) (J := []) (FGood.nil _) (M := []) (R := []) i170 (JGood.nil c170) (t170 N)) (KC0 N)
noncomputable def c171 : Code := Try.f171.body.getD .skip
theorem i171 : IsF Try.prog 171 Try.f171 c171 := ⟨Try.func171, by kernel_rfl, by kernel_rfl, by kernel_rfl⟩
def F_bits_Mul64 (N : Nat) : Int × Int × Unit → Option (Int × Int × Unit)
 | (x0, y1, _) =>
 some ((IntKind.wrap .u64 ((IntKind.wrap .u64 ((IntKind.wrap .u64 ((shrI .u64 x0 (32 : Int)) * (shrI .u64 y1 (32 : Int)))) + (shrI .u64 (IntKind.wrap .u64 ((IntKind.wrap .u64 ((shrI .u64 x0 (32 : Int)) * (andI .u64 y1 (4294967295 : Int)))) + (shrI .u64 (IntKind.wrap .u64 ((andI .u64 x0 (4294967295 : Int)) * (andI .u64 y1 (4294967295 : Int)))) (32 : Int)))) (32 : Int)))) + (shrI .u64 (IntKind.wrap .u64 ((andI .u64 (IntKind.wrap .u64 ((IntKind.wrap .u64 ((shrI .u64 x0 (32 : Int)) * (andI .u64 y1 (4294967295 : Int)))) + (shrI .u64 (IntKind.wrap .u64 ((andI .u64 x0 (4294967295 : Int)) * (andI .u64 y1 (4294967295 : Int)))) (32 : Int)))) (4294967295 : Int)) + (IntKind.wrap .u64 ((andI .u64 x0 (4294967295 : Int)) * (shrI .u64 y1 (32 : Int)))))) (32 : Int)))), ((IntKind.wrap .u64 (x0 * y1)), ()))
theorem t171 (N : Nat) : ∀ v, (fr drawQ (mkB (C170 N) [] [] [] []) 8 171 Try.f171 (instA [.c (.int .u64), .c (.int .u64)] v)).k (matR [.c (.int .u64), .c (.int .u64)]) = F_bits_Mul64 N v := by
 rintro ⟨x0, y1, _⟩; kernel_rfl
noncomputable def C171 (N : Nat) : CL SS := (171, conG [.c (.int .u64), .c (.int .u64)] [.c (.int .u64), .c (.int .u64)] (F_bits_Mul64 N)) :: C170 N
theorem KC171 (N : Nat) : COk QQ (C171 N) := COk.cons (conP LL DR_ok (KC170 N) (F := []) (J := []) (FGood.nil _) (M := []) (R := []) i171 (JGood.nil c171) (t171 N)) (KC170 N)
noncomputable def c146 : Code := Try.f146.body.getD .skip
theorem i146 : IsF Try.prog 146 Try.f146 c146 := ⟨Try.func146, by kernel_rfl, by kernel_rfl, by kernel_rfl⟩
def F_bits_Mul (N : Nat) : Int × Int × Unit → Option (Int × Int × Unit)
 | (x0, y1, _) =>
 (F_bits_Mul64 N (x0, (y1, ()))).bind fun r0 =>
 some (r0.1, (r0.2.1, ()))
theorem t146 (N : Nat) : ∀ v, (fr drawQ (mkB (C171 N) [] [] [] []) 8 146 Try.f146 (instA [.c (.int .u64), .c (.int .u64)] v)).k (matR [.c (.int .u64), .c (.int .u64)]) = F_bits_Mul N v := by
 rintro ⟨x0, y1, _⟩; kernel_rfl
noncomputable def C146 (N : Nat) : CL SS := (146, conG [.c (.int .u64), .c (.int .u64)] [.c (.int .u64), .c (.int .u64)] (F_bits_Mul N)) :: C171 N
theorem KC146 (N : Nat) : COk QQ (C146 N) := COk.cons (conP LL DR_ok (KC171 N) (F := []) (J := []) (FGood.nil _) (M := []) (R := []) i146 (JGood.nil c146) (t146 N)) (KC171 N)
noncomputable def c115 : Code := Try.f115.body.getD .skip
theorem i115 : IsF Try.prog 115 Try.f115 c115 := ⟨Try.func115, by kernel_rfl, by kernel_rfl, by kernel_rfl⟩
def F_impl_within (N : Nat) : Int × Int × Int × Unit → Option (Bool × Unit)
 | (n0, low1, high2, _) =>
 bif (decide (low1 ≤ n0)) then some ((decide (n0 ≤ high2)), ())
 else some (false, ())
theorem t115 (N : Nat) : ∀ v, (fr drawQ (mkB (C146 N) [] [] [] []) 8 115 Try.f115 (instA [.c (.int .i64), .c (.int .i64), .c (.int .i64)] v)).k (matR [.c (.bool)]) = F_impl_within N v := by
 rintro ⟨n0, low1, high2, _⟩; kernel_rfl
noncomputable def C115 (N : Nat) : CL SS := (115, conG [.c (.int .i64), .c (.int .i64), .c (.int .i64)] [.c (.bool)] (F_impl_within N)) :: C146 N
theorem KC115 (N : Nat) : COk QQ (C115 N) := COk.cons (conP LL DR_ok (KC146 N) (F := []) (J := []) (FGood.nil _) (M := []) (R := []) i115 (JGood.nil c115) (t115 N)) (KC146 N)
noncomputable def c125 : Code := Try.f125.body.getD .skip
theorem i125 : IsF Try.prog 125 Try.f125 c125 := ⟨Try.func125, by kernel_rfl, by kernel_rfl, by kernel_rfl⟩
def F_impl_isVar (N : Nat) : Int × Unit → Option (Bool × Unit)
 | (n0, _) =>
 (F_impl_within N (n0, ((0 : Int), ((7 : Int), ())))).bind fun r1 =>
 some (r1.1, ())
theorem t125 (N : Nat) : ∀ v, (fr drawQ (mkB (C115 N) [] [] [] []) 8 125 Try.f125 (instA [.c (.int .i64)] v)).k (matR [.c (.bool)]) = F_impl_isVar N v := by
 rintro ⟨n0, _⟩; kernel_rfl
noncomputable def C125 (N : Nat) : CL SS := (125, conG [.c (.int .i64)] [.c (.bool)] (F_impl_isVar N)) :: C115 N
theorem KC125 (N : Nat) : COk QQ (C125 N) := COk.cons (conP LL DR_ok (KC115 N) (F := []) (J := []) (FGood.nil _) (M := []) (R := []) i125 (JGood.nil c125) (t125 N)) (KC115 N)
noncomputable def c126 : Code := Try.f126.body.getD .skip
theorem i126 : IsF Try.prog 126 Try.f126 c126 := ⟨Try.func126, by kernel_rfl, by kernel_rfl, by kernel_rfl⟩
def F_impl_isOp (N : Nat) : Int × Unit → Option (Bool × Unit)
 | (op0, _) =>
 (F_impl_within N (op0, ((0 : Int), ((17 : Int), ())))).bind fun r2 =>
 some (r2.1, ())
theorem t126 (N : Nat) : ∀ v, (fr drawQ (mkB (C125 N) [] [] [] []) 8 126 Try.f126 (instA [.c (.int .i64)] v)).k (matR [.c (.bool)]) = F_impl_isOp N v := by
 rintro ⟨op0, _⟩; kernel_rfl
noncomputable def C126 (N : Nat) : CL SS := (126, conG [.c (.int .i64)] [.c (.bool)] (F_impl_isOp N)) :: C125 N
theorem KC126 (N : Nat) : COk QQ (C126 N) := COk.cons (conP LL DR_ok (KC125 N) (F := []) (J := []) (FGood.nil _) (M := []) (R := []) i126 (JGood.nil c126) (t126 N)) (KC125 N)
noncomputable def c55 : Code := Try.f55.body.getD .skip
theorem i55 : IsF Try.prog 55 Try.f55 c55 := ⟨Try.func55, by kernel_rfl, by kernel_rfl, by kernel_rfl⟩
def F_impl_isBits (N : Nat) : Int × Unit → Option (Bool × Unit)
 | (bits0, _) =>
 bif (decide (bits0 = (4 : Int))) then some (true, ())
 else bif (decide (bits0 = (8 : Int))) then some (true, ())
 else some ((decide (bits0 = (16 : Int))), ())
theorem t55 (N : Nat) : ∀ v, (fr drawQ (mkB (C126 N) [] [] [] []) 8 55 Try.f55 (instA [.c (.int .i64)] v)).k (matR [.c (.bool)]) = F_impl_isBits N v := by
 rintro ⟨bits0, _⟩; kernel_rfl
noncomputable def C55 (N : Nat) : CL SS := (55, conG [.c (.int .i64)] [.c (.bool)] (F_impl_isBits N)) :: C126 N
theorem KC55 (N : Nat) : COk QQ (C55 N) := COk.cons (conP LL DR_ok (KC126 N) (F := []) (J := []) (FGood.nil _) (M := []) (R := []) i55 (JGood.nil c55) (t55 N)) (KC126 N)
noncomputable def c102 : Code := Try.f102.body.getD .skip
theorem i102 : IsF Try.prog 102 Try.f102 c102 := ⟨Try.func102, by kernel_rfl, by kernel_rfl, by kernel_rfl⟩
def F_impl_IsWord (N : Nat) : Int × Int × Unit → Option (Bool × Unit)
 | (bits0, x1, _) =>
 (F_impl_isBits N (bits0, ())).bind fun r3 =>
 bif r3.1 then bif (decide ((0 : Int) ≤ bits0)) then (F_impl_within N (x1, ((0 : Int), ((IntKind.wrap .i64 ((shlI .i64 (1 : Int) bits0) - (1 : Int))), ())))).bind fun r4 =>
 some (r4.1, ())
 else none
 else some (false, ())
theorem t102 (N : Nat) : ∀ v, (fr drawQ (mkB (C55 N) [] [] [] []) 8 102 Try.f102 (instA [.c (.int .i64), .c (.int .i64)] v)).k (matR [.c (.bool)]) = F_impl_IsWord N v := by
 rintro ⟨bits0, x1, _⟩; kernel_rfl
noncomputable def C102 (N : Nat) : CL SS := (102, conG [.c (.int .i64), .c (.int .i64)] [.c (.bool)] (F_impl_IsWord N)) :: C55 N
theorem KC102 (N : Nat) : COk QQ (C102 N) := COk.cons (conP LL DR_ok (KC55 N) (F := []) (J := []) (FGood.nil _) (M := []) (R := []) i102 (JGood.nil c102) (t102 N)) (KC55 N)
noncomputable def c127 : Code := Try.f127.body.getD .skip
theorem i127 : IsF Try.prog 127 Try.f127 c127 := ⟨Try.func127, by kernel_rfl, by kernel_rfl, by kernel_rfl⟩
def F_impl_isCmp (N : Nat) : Int × Unit → Option (Bool × Unit)
 | (cmp0, _) =>
 (F_impl_within N (cmp0, ((0 : Int), ((5 : Int), ())))).bind fun r5 =>
 some (r5.1, ())
theorem t127 (N : Nat) : ∀ v, (fr drawQ (mkB (C102 N) [] [] [] []) 8 127 Try.f127 (instA [.c (.int .i64)] v)).k (matR [.c (.bool)]) = F_impl_isCmp N v := by
 rintro ⟨cmp0, _⟩; kernel_rfl
noncomputable def C127 (N : Nat) : CL SS := (127, conG [.c (.int .i64)] [.c (.bool)] (F_impl_isCmp N)) :: C102 N
theorem KC127 (N : Nat) : COk QQ (C127 N) := COk.cons (conP LL DR_ok (KC102 N) (F := []) (J := []) (FGood.nil _) (M := []) (R := []) i127 (JGood.nil c127) (t127 N)) (KC102 N)
noncomputable def c92 : Code := Try.f92.body.getD .skip
theorem i92 : IsF Try.prog 92 Try.f92 c92 := ⟨Try.func92, by kernel_rfl, by kernel_rfl, by kernel_rfl⟩
def F_impl_isLine (N : Nat) : Int × Int × Int × Int × Int × Int × Unit → Option (Bool × Unit)
 | (bits0, l1c0, l1c1, l1c2, l1c3, l1c4, _) =>
 bif (decide (l1c0 = (0 : Int))) then (F_impl_isVar N (l1c1, ())).bind fun r6 =>
 bif r6.1 then (F_impl_isOp N (l1c2, ())).bind fun r7 =>
 bif r7.1 then (F_impl_isVar N (l1c3, ())).bind fun r8 =>
 bif r8.1 then (F_impl_isVar N (l1c4, ())).bind fun r9 =>
 some (r9.1, ())
 else some (false, ())
 else some (false, ())
 else some (false, ())
 else bif (decide (l1c0 = (1 : Int))) then (F_impl_isVar N (l1c1, ())).bind fun r10 =>
 bif r10.1 then bif (decide (l1c2 = (0 : Int))) then bif (decide (l1c3 = (0 : Int))) then (F_impl_IsWord N (bits0, (l1c4, ()))).bind fun r11 =>
 some (r11.1, ())
 else some (false, ())
 else some (false, ())
 else some (false, ())
 else bif (decide (l1c0 = (2 : Int))) then bif (decide (l1c1 = (0 : Int))) then (F_impl_isCmp N (l1c2, ())).bind fun r12 =>
 bif r12.1 then (F_impl_isVar N (l1c3, ())).bind fun r13 =>
 bif r13.1 then (F_impl_isVar N (l1c4, ())).bind fun r14 =>
 some (r14.1, ())
 else some (false, ())
 else some (false, ())
 else some (false, ())
 else bif (decide (l1c0 = (6 : Int))) then bif (decide (l1c1 = (0 : Int))) then (F_impl_isCmp N (l1c2, ())).bind fun r15 =>
 bif r15.1 then (F_impl_isVar N (l1c3, ())).bind fun r16 =>
 bif r16.1 then (F_impl_isVar N (l1c4, ())).bind fun r17 =>
 some (r17.1, ())
 else some (false, ())
 else some (false, ())
 else some (false, ())
 else bif (decide (l1c0 = (3 : Int))) then some (((decide (l1c0 = l1c0)) && ((decide (l1c1 = (0 : Int))) && ((decide (l1c2 = (0 : Int))) && ((decide (l1c3 = (0 : Int))) && ((decide (l1c4 = (0 : Int))) && true))))), ())
 else bif (decide (l1c0 = (4 : Int))) then some (((decide (l1c0 = l1c0)) && ((decide (l1c1 = (0 : Int))) && ((decide (l1c2 = (0 : Int))) && ((decide (l1c3 = (0 : Int))) && ((decide (l1c4 = (0 : Int))) && true))))), ())
 else bif (decide (l1c0 = (5 : Int))) then bif ((decide (l1c0 = (5 : Int))) && ((decide (l1c1 = (0 : Int))) && ((decide (l1c2 = (0 : Int))) && ((decide (l1c3 = (0 : Int))) && ((decide (l1c4 = l1c4)) && true))))) then (F_impl_within N (l1c4, ((1 : Int), ((8 : Int), ())))).bind fun r18 =>
 some (r18.1, ())
 else some (false, ())
 else some (false, ())
theorem t92 (N : Nat) : ∀ v, (fr drawQ (mkB (C127 N) [] [] [] []) 8 92 Try.f92 (instA [.c (.int .i64), .agg [.int .i64, .int .i64, .int .i64, .int .i64, .int .i64]] v)).k (matR [.c (.bool)]) = F_impl_isLine N v := by
 rintro ⟨bits0, l1c0, l1c1, l1c2, l1c3, l1c4, _⟩; kernel_rfl
noncomputable def C92 (N : Nat) : CL SS := (92, conG [.c (.int .i64), .agg [.int .i64, .int .i64, .int .i64, .int .i64, .int .i64]] [.c (.bool)] (F_impl_isLine N)) :: C127 N
theorem KC92 (N : Nat) : COk QQ (C92 N) := COk.cons (conP LL DR_ok (KC127 N) (F := []) (J := []) (FGood.nil _) (M := []) (R := []) i92 (JGood.nil c92) (t92 N)) (KC127 N)
noncomputable def c56 : Code := Try.f56.body.getD .skip
theorem i56 : IsF Try.prog 56 Try.f56 c56 := ⟨Try.func56, by kernel_rfl, by kernel_rfl, by kernel_rfl⟩
noncomputable def b56_0 : Code := unLoop (blkOf 0 (blks c56))
theorem e56_0 : blkOf 0 (blks c56) = .loop b56_0 := by kernel_rfl
noncomputable def b56_4 : Code := unLoop (blkOf 4 (blks c56))
theorem e56_4 : blkOf 4 (blks c56) = .loop b56_4 := by kernel_rfl
def d_iP_2 : LoopD := ⟨664, ⟨[(6, .c (.row 33)), (12, .c (.int .i64)), (141, .c (.sub 138 136)), (142, .c (.int .i64))], [(138, 136, .deep 101 0 3 [] 136)], 213⟩, ⟨[(143, .c (.int .i64))], [(33, .row 2 [])], 672⟩, [], [33, 138], [⟨.norm, ⟨[], [(33, .row 2 [])], 672⟩, [], [33, 138]⟩]⟩
def n_iP_2 (N : Nat) : Int × Int × Int × List (List (Int)) × Unit → (Int × List (Int) × Unit → Option ((List (Int) × Unit))) → Int × List (Int) × Unit → Option ((List (Int) × Unit))
 | (i12, t141, t142, p138, _), rec, (t143, o33, _) =>
 bif (decide (t143 < t142)) then bif (decide ((0 : Int) ≤ t143)) then bif (decide (t143 < ((gt p138 t141).length : Int))) then bif (decide ((0 : Int) ≤ (gt (gt p138 t141) t143))) then bif (decide ((gt (gt p138 t141) t143) < (o33.length : Int))) then rec ((IntKind.wrap .i64 (t143 + (1 : Int))), ((o33.set (gt (gt p138 t141) t143).toNat i12), ()))
 else none
 else none
 else none
 else none
 else some (o33, ())
theorem s_iP_2 (N : Nat) : ∀ σ p rec v, stepL (rn drawQ (mkB (C92 N) [] [] [] []) 8 56 b56_4) 4 (wr b56_4) d_iP_2 (instP σ d_iP_2.pm p) rec v = n_iP_2 N p rec v := by
 rintro σ ⟨i12, t141, t142, p138, _⟩ rec ⟨t143, o33, _⟩; kernel_rfl
noncomputable def g_iP_2 (N : Nat) : St (Sig.T SS) → Tr (Ex × St (Sig.T SS)) := orcL (wr b56_4) d_iP_2 fun p => itN (n_iP_2 N p) N
theorem o_iP_2 (N : Nat) : Snd QQ (g_iP_2 N) (.block 4 (blkOf 4 (blks c56))) := loopP LL DR_ok (KC92 N) (F := []) (J := []) (FGood.nil _) (M := []) (R := []) i56 (JGood.nil c56) e56_4 (s_iP_2 N) N
def d_iP_0 : LoopD := ⟨136, ⟨[(0, .c (.int .i64)), (1, .c (.rd 63 [(0, 0)])), (6, .c (.row 33)), (11, .c (.mp 89)), (24, .c (.rd 63 [(0, 0)])), (25, .c (.int .i64))], [(0, 0, .ext)], 213⟩, ⟨[(7, .c (.row 136)), (8, .c (.row 137)), (9, .c (.row 138)), (10, .c (.row 139)), (26, .c (.int .i64))], [(136, .row 3 []), (137, .row 3 []), (138, .deep 101 0 3 [] 136), (139, .row 2 []), (33, .row 2 []), (89, .mp .i64), (73, .dead)], 148⟩, [(7, some 3), (8, some 3), (9, some 101), (10, some 2)], [0, 33, 89], [⟨.ret, ⟨[(4, .c (.row 136)), (5, .c (.bool))], [(136, .row 2 []), (33, .row 2 []), (89, .mp .i64), (73, .dead)], 145⟩, [(4, some 2)], [0, 33, 89]⟩, ⟨.norm, ⟨[(7, .c (.row 136))], [(136, .row 3 []), (33, .row 2 []), (89, .mp .i64), (73, .dead)], 145⟩, [(7, some 3)], [0, 33, 89]⟩]⟩
def n_iP_0 (N : Nat) : Int × (List (Int × Int × Int × Int × Int)) × (List (Int × Int × Int × Int × Int)) × Int × Unit → (Int × List (Int) × List (Int) × List (List (Int)) × List (Int) × List (Int) × (List (Int × Bool)) × Unit → Option ((Bool × List (Int) × List (Int) × (List (Int × Bool)) × Unit) ⊕ (List (Int) × List (Int) × (List (Int × Bool)) × Unit))) → Int × List (Int) × List (Int) × List (List (Int)) × List (Int) × List (Int) × (List (Int × Bool)) × Unit → Option ((Bool × List (Int) × List (Int) × (List (Int × Bool)) × Unit) ⊕ (List (Int) × List (Int) × (List (Int × Bool)) × Unit))
 | (bits0, lines1, t24, t25, _), rec, (t26, o136, o137, o138, o139, o33, o89, _) =>
 bif (decide (t26 < t25)) then bif (decide ((0 : Int) ≤ t26)) then bif (decide (t26 < (t24.length : Int))) then bif (decide ((0 : Int) ≤ t26)) then bif (decide (t26 < (o33.length : Int))) then (F_impl_isLine N (bits0, ((gt t24 t26).1, ((gt t24 t26).2.1, ((gt t24 t26).2.2.1, ((gt t24 t26).2.2.2.1, ((gt t24 t26).2.2.2.2, ()))))))).bind fun r23 =>
 bif (!r23.1) then some (.inl (false, ([], ((o33.set t26.toNat t26), (o89, ())))))
 else bif (decide ((gt t24 t26).1 = (2 : Int))) then bif (decide (((o136.length + 1) * 8) ≤ 140737488351232)) then bif (decide ((gt t24 t26).1 = (5 : Int))) then bif (decide (((o137.length + 1) * 8) ≤ 140737488351232)) then bif (decide (((o138.length + 1) * 24) ≤ 140737488351232)) then bif (decide ((0 : Int) ≤ (IntKind.wrap .i64 ((o139.length : Int) - (1 : Int))))) then bif (decide ((IntKind.wrap .i64 ((o139.length : Int) - (1 : Int))) < (o139.length : Int))) then bif (decide (((o139.length + 1) * 8) ≤ 140737488351232)) then bif (decide (((o136 ++ (t26 :: [])).length : Int) > (4 : Int))) then some (.inl (false, ([], ((o33.set t26.toNat t26), (o89, ())))))
 else bif (decide ((0 : Int) ≤ (IntKind.wrap .i64 (((o139 ++ ((IntKind.wrap .i64 ((gt o139 (IntKind.wrap .i64 ((o139.length : Int) - (1 : Int)))) * (gt t24 t26).2.2.2.2)) :: [])).length : Int) - (1 : Int))))) then bif (decide ((IntKind.wrap .i64 (((o139 ++ ((IntKind.wrap .i64 ((gt o139 (IntKind.wrap .i64 ((o139.length : Int) - (1 : Int)))) * (gt t24 t26).2.2.2.2)) :: [])).length : Int) - (1 : Int))) < ((o139 ++ ((IntKind.wrap .i64 ((gt o139 (IntKind.wrap .i64 ((o139.length : Int) - (1 : Int)))) * (gt t24 t26).2.2.2.2)) :: [])).length : Int))) then bif (decide ((gt (o139 ++ ((IntKind.wrap .i64 ((gt o139 (IntKind.wrap .i64 ((o139.length : Int) - (1 : Int)))) * (gt t24 t26).2.2.2.2)) :: [])) (IntKind.wrap .i64 (((o139 ++ ((IntKind.wrap .i64 ((gt o139 (IntKind.wrap .i64 ((o139.length : Int) - (1 : Int)))) * (gt t24 t26).2.2.2.2)) :: [])).length : Int) - (1 : Int)))) > (64 : Int))) then some (.inl (false, ([], ((o33.set t26.toNat t26), (o89, ())))))
 else rec ((IntKind.wrap .i64 (t26 + (1 : Int))), ((o136 ++ (t26 :: [])), ((o137 ++ (t26 :: [])), ((o138 ++ ([] :: [])), ((o139 ++ ((IntKind.wrap .i64 ((gt o139 (IntKind.wrap .i64 ((o139.length : Int) - (1 : Int)))) * (gt t24 t26).2.2.2.2)) :: [])), ((o33.set t26.toNat t26), (o89, ())))))))
 else none
 else none
 else none
 else none
 else none
 else none
 else none
 else bif (decide (((o136 ++ (t26 :: [])).length : Int) > (4 : Int))) then some (.inl (false, ([], ((o33.set t26.toNat t26), (o89, ())))))
 else bif (decide ((0 : Int) ≤ (IntKind.wrap .i64 ((o139.length : Int) - (1 : Int))))) then bif (decide ((IntKind.wrap .i64 ((o139.length : Int) - (1 : Int))) < (o139.length : Int))) then bif (decide ((gt o139 (IntKind.wrap .i64 ((o139.length : Int) - (1 : Int)))) > (64 : Int))) then some (.inl (false, ([], ((o33.set t26.toNat t26), (o89, ())))))
 else rec ((IntKind.wrap .i64 (t26 + (1 : Int))), ((o136 ++ (t26 :: [])), (o137, (o138, (o139, ((o33.set t26.toNat t26), (o89, ())))))))
 else none
 else none
 else none
 else bif (decide ((gt t24 t26).1 = (5 : Int))) then bif (decide (((o136.length + 1) * 8) ≤ 140737488351232)) then bif (decide ((gt t24 t26).1 = (5 : Int))) then bif (decide (((o137.length + 1) * 8) ≤ 140737488351232)) then bif (decide (((o138.length + 1) * 24) ≤ 140737488351232)) then bif (decide ((0 : Int) ≤ (IntKind.wrap .i64 ((o139.length : Int) - (1 : Int))))) then bif (decide ((IntKind.wrap .i64 ((o139.length : Int) - (1 : Int))) < (o139.length : Int))) then bif (decide (((o139.length + 1) * 8) ≤ 140737488351232)) then bif (decide (((o136 ++ (t26 :: [])).length : Int) > (4 : Int))) then some (.inl (false, ([], ((o33.set t26.toNat t26), (o89, ())))))
 else bif (decide ((0 : Int) ≤ (IntKind.wrap .i64 (((o139 ++ ((IntKind.wrap .i64 ((gt o139 (IntKind.wrap .i64 ((o139.length : Int) - (1 : Int)))) * (gt t24 t26).2.2.2.2)) :: [])).length : Int) - (1 : Int))))) then bif (decide ((IntKind.wrap .i64 (((o139 ++ ((IntKind.wrap .i64 ((gt o139 (IntKind.wrap .i64 ((o139.length : Int) - (1 : Int)))) * (gt t24 t26).2.2.2.2)) :: [])).length : Int) - (1 : Int))) < ((o139 ++ ((IntKind.wrap .i64 ((gt o139 (IntKind.wrap .i64 ((o139.length : Int) - (1 : Int)))) * (gt t24 t26).2.2.2.2)) :: [])).length : Int))) then bif (decide ((gt (o139 ++ ((IntKind.wrap .i64 ((gt o139 (IntKind.wrap .i64 ((o139.length : Int) - (1 : Int)))) * (gt t24 t26).2.2.2.2)) :: [])) (IntKind.wrap .i64 (((o139 ++ ((IntKind.wrap .i64 ((gt o139 (IntKind.wrap .i64 ((o139.length : Int) - (1 : Int)))) * (gt t24 t26).2.2.2.2)) :: [])).length : Int) - (1 : Int)))) > (64 : Int))) then some (.inl (false, ([], ((o33.set t26.toNat t26), (o89, ())))))
 else rec ((IntKind.wrap .i64 (t26 + (1 : Int))), ((o136 ++ (t26 :: [])), ((o137 ++ (t26 :: [])), ((o138 ++ ([] :: [])), ((o139 ++ ((IntKind.wrap .i64 ((gt o139 (IntKind.wrap .i64 ((o139.length : Int) - (1 : Int)))) * (gt t24 t26).2.2.2.2)) :: [])), ((o33.set t26.toNat t26), (o89, ())))))))
 else none
 else none
 else none
 else none
 else none
 else none
 else none
 else bif (decide (((o136 ++ (t26 :: [])).length : Int) > (4 : Int))) then some (.inl (false, ([], ((o33.set t26.toNat t26), (o89, ())))))
 else bif (decide ((0 : Int) ≤ (IntKind.wrap .i64 ((o139.length : Int) - (1 : Int))))) then bif (decide ((IntKind.wrap .i64 ((o139.length : Int) - (1 : Int))) < (o139.length : Int))) then bif (decide ((gt o139 (IntKind.wrap .i64 ((o139.length : Int) - (1 : Int)))) > (64 : Int))) then some (.inl (false, ([], ((o33.set t26.toNat t26), (o89, ())))))
 else rec ((IntKind.wrap .i64 (t26 + (1 : Int))), ((o136 ++ (t26 :: [])), (o137, (o138, (o139, ((o33.set t26.toNat t26), (o89, ())))))))
 else none
 else none
 else none
 else bif (decide ((gt t24 t26).1 = (3 : Int))) then bif (decide ((IntKind.wrap .i64 ((o136.length : Int) - (1 : Int))) < (0 : Int))) then some (.inl (false, ([], ((o33.set t26.toNat t26), (o89, ())))))
 else bif (decide ((0 : Int) ≤ (IntKind.wrap .i64 ((o136.length : Int) - (1 : Int))))) then bif (decide ((IntKind.wrap .i64 ((o136.length : Int) - (1 : Int))) < (o136.length : Int))) then bif (decide ((0 : Int) ≤ (gt o136 (IntKind.wrap .i64 ((o136.length : Int) - (1 : Int)))))) then bif (decide ((gt o136 (IntKind.wrap .i64 ((o136.length : Int) - (1 : Int)))) < (lines1.length : Int))) then bif (!(decide ((gt lines1 (gt o136 (IntKind.wrap .i64 ((o136.length : Int) - (1 : Int))))).1 = (2 : Int)))) then some (.inl (false, ([], ((o33.set t26.toNat t26), (o89, ())))))
 else bif (decide ((0 : Int) ≤ (IntKind.wrap .i64 ((o136.length : Int) - (1 : Int))))) then bif (decide ((IntKind.wrap .i64 ((o136.length : Int) - (1 : Int))) < (o136.length : Int))) then bif (mget o89 (gt o136 (IntKind.wrap .i64 ((o136.length : Int) - (1 : Int))))) then some (.inl (false, ([], ((o33.set t26.toNat t26), (o89, ())))))
 else bif (decide ((0 : Int) ≤ (IntKind.wrap .i64 ((o136.length : Int) - (1 : Int))))) then bif (decide ((IntKind.wrap .i64 ((o136.length : Int) - (1 : Int))) < (o136.length : Int))) then bif (decide ((0 : Int) ≤ (IntKind.wrap .i64 ((o136.length : Int) - (1 : Int))))) then bif (decide ((IntKind.wrap .i64 ((o136.length : Int) - (1 : Int))) < (o136.length : Int))) then bif (decide ((0 : Int) ≤ (gt o136 (IntKind.wrap .i64 ((o136.length : Int) - (1 : Int)))))) then bif (decide ((gt o136 (IntKind.wrap .i64 ((o136.length : Int) - (1 : Int)))) < ((o33.set t26.toNat t26).length : Int))) then bif (decide ((o136.length : Int) > (4 : Int))) then some (.inl (false, ([], (((o33.set t26.toNat t26).set (gt o136 (IntKind.wrap .i64 ((o136.length : Int) - (1 : Int)))).toNat t26), ((mput o89 (gt o136 (IntKind.wrap .i64 ((o136.length : Int) - (1 : Int)))) true), ())))))
 else bif (decide ((0 : Int) ≤ (IntKind.wrap .i64 ((o139.length : Int) - (1 : Int))))) then bif (decide ((IntKind.wrap .i64 ((o139.length : Int) - (1 : Int))) < (o139.length : Int))) then bif (decide ((gt o139 (IntKind.wrap .i64 ((o139.length : Int) - (1 : Int)))) > (64 : Int))) then some (.inl (false, ([], (((o33.set t26.toNat t26).set (gt o136 (IntKind.wrap .i64 ((o136.length : Int) - (1 : Int)))).toNat t26), ((mput o89 (gt o136 (IntKind.wrap .i64 ((o136.length : Int) - (1 : Int)))) true), ())))))
 else rec ((IntKind.wrap .i64 (t26 + (1 : Int))), (o136, (o137, (o138, (o139, (((o33.set t26.toNat t26).set (gt o136 (IntKind.wrap .i64 ((o136.length : Int) - (1 : Int)))).toNat t26), ((mput o89 (gt o136 (IntKind.wrap .i64 ((o136.length : Int) - (1 : Int)))) true), ())))))))
 else none
 else none
 else none
 else none
 else none
 else none
 else none
 else none
 else none
 else none
 else none
 else none
 else none
 else none
 else bif (decide ((gt t24 t26).1 = (4 : Int))) then bif (decide ((IntKind.wrap .i64 ((o136.length : Int) - (1 : Int))) < (0 : Int))) then some (.inl (false, ([], ((o33.set t26.toNat t26), (o89, ())))))
 else bif (decide ((0 : Int) ≤ (IntKind.wrap .i64 ((o136.length : Int) - (1 : Int))))) then bif (decide ((IntKind.wrap .i64 ((o136.length : Int) - (1 : Int))) < (o136.length : Int))) then bif (decide ((0 : Int) ≤ t26)) then bif (decide (t26 < ((o33.set t26.toNat t26).length : Int))) then bif (decide ((0 : Int) ≤ (gt o136 (IntKind.wrap .i64 ((o136.length : Int) - (1 : Int)))))) then bif (decide ((gt o136 (IntKind.wrap .i64 ((o136.length : Int) - (1 : Int)))) < (lines1.length : Int))) then bif (decide ((gt lines1 (gt o136 (IntKind.wrap .i64 ((o136.length : Int) - (1 : Int))))).1 = (5 : Int))) then bif (decide ((0 : Int) ≤ (gt o136 (IntKind.wrap .i64 ((o136.length : Int) - (1 : Int)))))) then bif (decide ((gt o136 (IntKind.wrap .i64 ((o136.length : Int) - (1 : Int)))) < (((o33.set t26.toNat t26).set t26.toNat (gt o136 (IntKind.wrap .i64 ((o136.length : Int) - (1 : Int))))).length : Int))) then bif (decide ((0 : Int) ≤ (IntKind.wrap .i64 ((o137.length : Int) - (1 : Int))))) then bif (decide ((IntKind.wrap .i64 ((o137.length : Int) - (1 : Int))) < (o138.length : Int))) then (itN (n_iP_2 N (t26, ((IntKind.wrap .i64 ((o137.length : Int) - (1 : Int))), (((gt o138 (IntKind.wrap .i64 ((o137.length : Int) - (1 : Int)))).length : Int), (o138, ()))))) N ((0 : Int), ((((o33.set t26.toNat t26).set t26.toNat (gt o136 (IntKind.wrap .i64 ((o136.length : Int) - (1 : Int))))).set (gt o136 (IntKind.wrap .i64 ((o136.length : Int) - (1 : Int)))).toNat t26), ()))).bind fun r24 =>
 bif (decide ((0 : Int) ≤ (IntKind.wrap .i64 ((o137.length : Int) - (1 : Int))))) then bif (decide ((IntKind.wrap .i64 ((o137.length : Int) - (1 : Int))) ≤ (o137.length : Int))) then bif (decide ((0 : Int) ≤ (IntKind.wrap .i64 ((o137.length : Int) - (1 : Int))))) then bif (decide ((IntKind.wrap .i64 ((o137.length : Int) - (1 : Int))) ≤ (o138.length : Int))) then bif (decide ((0 : Int) ≤ (IntKind.wrap .i64 ((o139.length : Int) - (1 : Int))))) then bif (decide ((IntKind.wrap .i64 ((o139.length : Int) - (1 : Int))) ≤ (o139.length : Int))) then bif (decide ((0 : Int) ≤ (IntKind.wrap .i64 ((o136.length : Int) - (1 : Int))))) then bif (decide ((IntKind.wrap .i64 ((o136.length : Int) - (1 : Int))) ≤ (o136.length : Int))) then bif (decide ((IntKind.wrap .i64 ((o136.length : Int) - (1 : Int))) > (4 : Int))) then some (.inl (false, ([], (r24.1, (o89, ())))))
 else bif (decide ((0 : Int) ≤ (IntKind.wrap .i64 ((IntKind.wrap .i64 ((o139.length : Int) - (1 : Int))) - (1 : Int))))) then bif (decide ((IntKind.wrap .i64 ((IntKind.wrap .i64 ((o139.length : Int) - (1 : Int))) - (1 : Int))) < (IntKind.wrap .i64 ((o139.length : Int) - (1 : Int))))) then bif (decide ((gt o139 (IntKind.wrap .i64 ((IntKind.wrap .i64 ((o139.length : Int) - (1 : Int))) - (1 : Int)))) > (64 : Int))) then some (.inl (false, ([], (r24.1, (o89, ())))))
 else rec ((IntKind.wrap .i64 (t26 + (1 : Int))), ((o136.take (IntKind.wrap .i64 ((o136.length : Int) - (1 : Int))).toNat), ((o137.take (IntKind.wrap .i64 ((o137.length : Int) - (1 : Int))).toNat), ((o138.take (IntKind.wrap .i64 ((o137.length : Int) - (1 : Int))).toNat), ((o139.take (IntKind.wrap .i64 ((o139.length : Int) - (1 : Int))).toNat), (r24.1, (o89, ())))))))
 else none
 else none
 else none
 else none
 else none
 else none
 else none
 else none
 else none
 else none
 else none
 else none
 else none
 else none
 else bif (mget o89 (gt o136 (IntKind.wrap .i64 ((o136.length : Int) - (1 : Int))))) then bif (decide ((0 : Int) ≤ (gt o136 (IntKind.wrap .i64 ((o136.length : Int) - (1 : Int)))))) then bif (decide ((gt o136 (IntKind.wrap .i64 ((o136.length : Int) - (1 : Int)))) < (((o33.set t26.toNat t26).set t26.toNat (gt o136 (IntKind.wrap .i64 ((o136.length : Int) - (1 : Int))))).length : Int))) then bif (decide ((0 : Int) ≤ (gt ((o33.set t26.toNat t26).set t26.toNat (gt o136 (IntKind.wrap .i64 ((o136.length : Int) - (1 : Int))))) (gt o136 (IntKind.wrap .i64 ((o136.length : Int) - (1 : Int))))))) then bif (decide ((gt ((o33.set t26.toNat t26).set t26.toNat (gt o136 (IntKind.wrap .i64 ((o136.length : Int) - (1 : Int))))) (gt o136 (IntKind.wrap .i64 ((o136.length : Int) - (1 : Int))))) < (((o33.set t26.toNat t26).set t26.toNat (gt o136 (IntKind.wrap .i64 ((o136.length : Int) - (1 : Int))))).length : Int))) then bif (decide ((0 : Int) ≤ (IntKind.wrap .i64 ((o136.length : Int) - (1 : Int))))) then bif (decide ((IntKind.wrap .i64 ((o136.length : Int) - (1 : Int))) ≤ (o136.length : Int))) then bif (decide ((IntKind.wrap .i64 ((o136.length : Int) - (1 : Int))) > (4 : Int))) then some (.inl (false, ([], ((((o33.set t26.toNat t26).set t26.toNat (gt o136 (IntKind.wrap .i64 ((o136.length : Int) - (1 : Int))))).set (gt ((o33.set t26.toNat t26).set t26.toNat (gt o136 (IntKind.wrap .i64 ((o136.length : Int) - (1 : Int))))) (gt o136 (IntKind.wrap .i64 ((o136.length : Int) - (1 : Int))))).toNat t26), (o89, ())))))
 else bif (decide ((0 : Int) ≤ (IntKind.wrap .i64 ((o139.length : Int) - (1 : Int))))) then bif (decide ((IntKind.wrap .i64 ((o139.length : Int) - (1 : Int))) < (o139.length : Int))) then bif (decide ((gt o139 (IntKind.wrap .i64 ((o139.length : Int) - (1 : Int)))) > (64 : Int))) then some (.inl (false, ([], ((((o33.set t26.toNat t26).set t26.toNat (gt o136 (IntKind.wrap .i64 ((o136.length : Int) - (1 : Int))))).set (gt ((o33.set t26.toNat t26).set t26.toNat (gt o136 (IntKind.wrap .i64 ((o136.length : Int) - (1 : Int))))) (gt o136 (IntKind.wrap .i64 ((o136.length : Int) - (1 : Int))))).toNat t26), (o89, ())))))
 else rec ((IntKind.wrap .i64 (t26 + (1 : Int))), ((o136.take (IntKind.wrap .i64 ((o136.length : Int) - (1 : Int))).toNat), (o137, (o138, (o139, ((((o33.set t26.toNat t26).set t26.toNat (gt o136 (IntKind.wrap .i64 ((o136.length : Int) - (1 : Int))))).set (gt ((o33.set t26.toNat t26).set t26.toNat (gt o136 (IntKind.wrap .i64 ((o136.length : Int) - (1 : Int))))) (gt o136 (IntKind.wrap .i64 ((o136.length : Int) - (1 : Int))))).toNat t26), (o89, ())))))))
 else none
 else none
 else none
 else none
 else none
 else none
 else none
 else none
 else bif (decide ((0 : Int) ≤ (gt o136 (IntKind.wrap .i64 ((o136.length : Int) - (1 : Int)))))) then bif (decide ((gt o136 (IntKind.wrap .i64 ((o136.length : Int) - (1 : Int)))) < (((o33.set t26.toNat t26).set t26.toNat (gt o136 (IntKind.wrap .i64 ((o136.length : Int) - (1 : Int))))).length : Int))) then bif (decide ((0 : Int) ≤ (IntKind.wrap .i64 ((o136.length : Int) - (1 : Int))))) then bif (decide ((IntKind.wrap .i64 ((o136.length : Int) - (1 : Int))) ≤ (o136.length : Int))) then bif (decide ((IntKind.wrap .i64 ((o136.length : Int) - (1 : Int))) > (4 : Int))) then some (.inl (false, ([], ((((o33.set t26.toNat t26).set t26.toNat (gt o136 (IntKind.wrap .i64 ((o136.length : Int) - (1 : Int))))).set (gt o136 (IntKind.wrap .i64 ((o136.length : Int) - (1 : Int)))).toNat t26), (o89, ())))))
 else bif (decide ((0 : Int) ≤ (IntKind.wrap .i64 ((o139.length : Int) - (1 : Int))))) then bif (decide ((IntKind.wrap .i64 ((o139.length : Int) - (1 : Int))) < (o139.length : Int))) then bif (decide ((gt o139 (IntKind.wrap .i64 ((o139.length : Int) - (1 : Int)))) > (64 : Int))) then some (.inl (false, ([], ((((o33.set t26.toNat t26).set t26.toNat (gt o136 (IntKind.wrap .i64 ((o136.length : Int) - (1 : Int))))).set (gt o136 (IntKind.wrap .i64 ((o136.length : Int) - (1 : Int)))).toNat t26), (o89, ())))))
 else rec ((IntKind.wrap .i64 (t26 + (1 : Int))), ((o136.take (IntKind.wrap .i64 ((o136.length : Int) - (1 : Int))).toNat), (o137, (o138, (o139, ((((o33.set t26.toNat t26).set t26.toNat (gt o136 (IntKind.wrap .i64 ((o136.length : Int) - (1 : Int))))).set (gt o136 (IntKind.wrap .i64 ((o136.length : Int) - (1 : Int)))).toNat t26), (o89, ())))))))
 else none
 else none
 else none
 else none
 else none
 else none
 else none
 else none
 else none
 else none
 else none
 else none
 else bif (decide ((gt t24 t26).1 = (6 : Int))) then bif (decide ((o137.length : Int) = (0 : Int))) then some (.inl (false, ([], ((o33.set t26.toNat t26), (o89, ())))))
 else bif (decide ((0 : Int) ≤ (IntKind.wrap .i64 ((o137.length : Int) - (1 : Int))))) then bif (decide ((IntKind.wrap .i64 ((o137.length : Int) - (1 : Int))) < (o138.length : Int))) then bif (decide ((((gt o138 (IntKind.wrap .i64 ((o137.length : Int) - (1 : Int)))).length + 1) * 8) ≤ 140737488351232)) then bif (decide ((0 : Int) ≤ (IntKind.wrap .i64 ((o137.length : Int) - (1 : Int))))) then bif (decide ((IntKind.wrap .i64 ((o137.length : Int) - (1 : Int))) < (o138.length : Int))) then bif (decide ((IntKind.wrap .i64 ((o137.length : Int) - (1 : Int))) = (IntKind.wrap .i64 ((o137.length : Int) - (1 : Int))))) then bif (decide ((o136.length : Int) > (4 : Int))) then some (.inl (false, ([], ((o33.set t26.toNat t26), (o89, ())))))
 else bif (decide ((0 : Int) ≤ (IntKind.wrap .i64 ((o139.length : Int) - (1 : Int))))) then bif (decide ((IntKind.wrap .i64 ((o139.length : Int) - (1 : Int))) < (o139.length : Int))) then bif (decide ((gt o139 (IntKind.wrap .i64 ((o139.length : Int) - (1 : Int)))) > (64 : Int))) then some (.inl (false, ([], ((o33.set t26.toNat t26), (o89, ())))))
 else rec ((IntKind.wrap .i64 (t26 + (1 : Int))), (o136, (o137, ((o138.set (IntKind.wrap .i64 ((o137.length : Int) - (1 : Int))).toNat ((gt o138 (IntKind.wrap .i64 ((o137.length : Int) - (1 : Int)))) ++ (t26 :: []))), (o139, ((o33.set t26.toNat t26), (o89, ())))))))
 else none
 else none
 else none
 else none
 else none
 else none
 else none
 else none
 else bif (decide ((o136.length : Int) > (4 : Int))) then some (.inl (false, ([], ((o33.set t26.toNat t26), (o89, ())))))
 else bif (decide ((0 : Int) ≤ (IntKind.wrap .i64 ((o139.length : Int) - (1 : Int))))) then bif (decide ((IntKind.wrap .i64 ((o139.length : Int) - (1 : Int))) < (o139.length : Int))) then bif (decide ((gt o139 (IntKind.wrap .i64 ((o139.length : Int) - (1 : Int)))) > (64 : Int))) then some (.inl (false, ([], ((o33.set t26.toNat t26), (o89, ())))))
 else rec ((IntKind.wrap .i64 (t26 + (1 : Int))), (o136, (o137, (o138, (o139, ((o33.set t26.toNat t26), (o89, ())))))))
 else none
 else none
 else none
 else none
 else none
 else none
 else some (.inr (o136, (o33, (o89, ()))))
theorem s_iP_0 (N : Nat) : ∀ σ p rec v, stepL (rn drawQ (mkB (C92 N) [] [(56, [(4, g_iP_2 N)])] [] []) 8 56 b56_0) 0 (wr b56_0) d_iP_0 (instP σ d_iP_0.pm p) rec v = n_iP_0 N p rec v := by
 rintro σ ⟨bits0, lines1, t24, t25, _⟩ rec ⟨t26, o136, o137, o138, o139, o33, o89, _⟩; kernel_rfl
noncomputable def g_iP_0 (N : Nat) : St (Sig.T SS) → Tr (Ex × St (Sig.T SS)) := orcL (wr b56_0) d_iP_0 fun p => itN (n_iP_0 N p) N
theorem o_iP_0 (N : Nat) : Snd QQ (g_iP_0 N) (.block 0 (blkOf 0 (blks c56))) := loopP LL DR_ok (KC92 N) (F := []) (J := [(56, [(4, g_iP_2 N)])]) (FGood.nil _) (M := []) (R := []) i56 (JGood.cons i56.hd (o_iP_2 N) (JGood.nil c56)) e56_0 (s_iP_0 N) N
def F_iP (N : Nat) : Int × (List (Int × Int × Int × Int × Int)) × Unit → Option (List (Int) × Bool × Unit)
 | (bits0, lines1, _) =>
 bif (decide ((lines1.length : Int) ≤ (lines1.length : Int))) then bif (decide (((lines1.length : Int) * (8 : Int)) ≤ (140737488351232 : Int))) then (itN (n_iP_0 N (bits0, (lines1, (lines1, ((lines1.length : Int), ()))))) N ((0 : Int), ([], ([], ([], (((1 : Int) :: []), ((List.replicate (lines1.length : Int).toNat (0 : Int)), ([], ())))))))).bind fun r25 =>
 bif r25.isLeft then r25.getLeft?.bind fun r26 =>
 some (r26.2.1, (r26.1, ()))
 else r25.getRight?.bind fun r27 =>
 some (r27.2.1, ((decide ((r27.1.length : Int) = (0 : Int))), ()))
 else none
 else none
theorem t56 (N : Nat) : ∀ v, (fr drawQ (mkB (C92 N) [] [(56, [(4, g_iP_2 N), (0, g_iP_0 N)])] [] []) 8 56 Try.f56 (instA [.c (.int .i64), .c (.ls 63)] v)).k (matR [.c (.ls 2), .c (.bool)]) = F_iP N v := by
 rintro ⟨bits0, lines1, _⟩; kernel_rfl
noncomputable def C56 (N : Nat) : CL SS := (56, conG [.c (.int .i64), .c (.ls 63)] [.c (.ls 2), .c (.bool)] (F_iP N)) :: C92 N
theorem KC56 (N : Nat) : COk QQ (C56 N) := COk.cons (conP LL DR_ok (KC92 N) (F := []) (J := [(56, [(4, g_iP_2 N), (0, g_iP_0 N)])]) (FGood.nil _) (M := []) (R := []) i56 (JGood.cons i56.hd (o_iP_2 N) (JGood.cons i56.hd (o_iP_0 N) (JGood.nil c56))) (t56 N)) (KC92 N)
noncomputable def c65 : Code := Try.f65.body.getD .skip
theorem i65 : IsF Try.prog 65 Try.f65 c65 := ⟨Try.func65, by kernel_rfl, by kernel_rfl, by kernel_rfl⟩
def F_slices_Clone___int64_int64_ (N : Nat) : List (Int) × Unit → Option (List (Int) × Unit)
 | (s0, _) =>
 bif (decide (s0.length = 0)) then none
 else bif (decide (((0 + s0.length) * 8) ≤ 140737488351232)) then some (s0, ())
 else none
theorem t65 (N : Nat) : ∀ v, (fr drawQ (mkB (C56 N) [] [] [] []) 8 65 Try.f65 (instA [.c (.ls 2)] v)).k (matR [.c (.ls 2)]) = F_slices_Clone___int64_int64_ N v := by
 rintro ⟨s0, _⟩; kernel_rfl
noncomputable def C65 (N : Nat) : CL SS := (65, conG [.c (.ls 2)] [.c (.ls 2)] (F_slices_Clone___int64_int64_ N)) :: C56 N
theorem KC65 (N : Nat) : COk QQ (C65 N) := COk.cons (conP LL DR_ok (KC56 N) (F := []) (J := []) (FGood.nil _) (M := []) (R := []) i65 (JGood.nil c65) (t65 N)) (KC56 N)
noncomputable def c118 : Code := Try.f118.body.getD .skip
theorem i118 : IsF Try.prog 118 Try.f118 c118 := ⟨Try.func118, by kernel_rfl, by kernel_rfl, by kernel_rfl⟩
noncomputable def b118_0 : Code := unLoop (blkOf 0 (blks c118))
theorem e118_0 : blkOf 0 (blks c118) = .loop b118_0 := by kernel_rfl
def d_impl_clones_0 : LoopD := ⟨48, ⟨[(6, .c (.rd 29 [(0, 0)])), (7, .c (.int .i64))], [(0, 0, .ext)], 19⟩, ⟨[(3, .c (.row 48)), (8, .c (.int .i64))], [(48, .deep 29 0 2 [] 48)], 57⟩, [(3, some 29)], [0], [⟨.norm, ⟨[(3, .c (.row 48))], [(48, .deep 29 0 2 [] 48)], 57⟩, [(3, some 29)], [0]⟩]⟩
def n_impl_clones_0 (N : Nat) : List (List (Int)) × Int × Unit → (Int × List (List (Int)) × Unit → Option ((List (List (Int)) × Unit))) → Int × List (List (Int)) × Unit → Option ((List (List (Int)) × Unit))
 | (t6, t7, _), rec, (t8, o48, _) =>
 bif (decide (t8 < t7)) then bif (decide ((0 : Int) ≤ t8)) then bif (decide (t8 < (t6.length : Int))) then (F_slices_Clone___int64_int64_ N ((gt t6 t8), ())).bind fun r28 =>
 bif (decide (((o48.length + 1) * 24) ≤ 140737488351232)) then rec ((IntKind.wrap .i64 (t8 + (1 : Int))), ((o48 ++ (r28.1 :: [])), ()))
 else none
 else none
 else none
 else some (o48, ())
theorem s_impl_clones_0 (N : Nat) : ∀ σ p rec v, stepL (rn drawQ (mkB (C65 N) [] [] [] []) 8 118 b118_0) 0 (wr b118_0) d_impl_clones_0 (instP σ d_impl_clones_0.pm p) rec v = n_impl_clones_0 N p rec v := by
 rintro σ ⟨t6, t7, _⟩ rec ⟨t8, o48, _⟩; kernel_rfl
noncomputable def g_impl_clones_0 (N : Nat) : St (Sig.T SS) → Tr (Ex × St (Sig.T SS)) := orcL (wr b118_0) d_impl_clones_0 fun p => itN (n_impl_clones_0 N p) N
theorem o_impl_clones_0 (N : Nat) : Snd QQ (g_impl_clones_0 N) (.block 0 (blkOf 0 (blks c118))) := loopP LL DR_ok (KC65 N) (F := []) (J := []) (FGood.nil _) (M := []) (R := []) i118 (JGood.nil c118) e118_0 (s_impl_clones_0 N) N
def F_impl_clones (N : Nat) : List (List (Int)) × Unit → Option (List (List (Int)) × Unit)
 | (lists0, _) =>
 (itN (n_impl_clones_0 N (lists0, ((lists0.length : Int), ()))) N ((0 : Int), ([], ()))).bind fun r29 =>
 some (r29.1, ())
theorem t118 (N : Nat) : ∀ v, (fr drawQ (mkB (C65 N) [] [(118, [(0, g_impl_clones_0 N)])] [] []) 8 118 Try.f118 (instA [.c (.ls 29)] v)).k (matR [.c (.dp 29 0 2)]) = F_impl_clones N v := by
 rintro ⟨lists0, _⟩; kernel_rfl
noncomputable def C118 (N : Nat) : CL SS := (118, conG [.c (.ls 29)] [.c (.dp 29 0 2)] (F_impl_clones N)) :: C65 N
theorem KC118 (N : Nat) : COk QQ (C118 N) := COk.cons (conP LL DR_ok (KC65 N) (F := []) (J := [(118, [(0, g_impl_clones_0 N)])]) (FGood.nil _) (M := []) (R := []) i118 (JGood.cons i118.hd (o_impl_clones_0 N) (JGood.nil c118)) (t118 N)) (KC65 N)
noncomputable def c119 : Code := Try.f119.body.getD .skip
theorem i119 : IsF Try.prog 119 Try.f119 c119 := ⟨Try.func119, by kernel_rfl, by kernel_rfl, by kernel_rfl⟩
noncomputable def b119_0 : Code := unLoop (blkOf 0 (blks c119))
theorem e119_0 : blkOf 0 (blks c119) = .loop b119_0 := by kernel_rfl
def d_slices_Repeat___bool_bool__0 : LoopD := ⟨232, ⟨[(7, .c (.row 177))], [], 48⟩, ⟨[(8, .c (.int .i64))], [(177, .row 4 [])], 240⟩, [], [177], [⟨.norm, ⟨[], [(177, .row 4 [])], 240⟩, [], [177]⟩]⟩
def n_slices_Repeat___bool_bool__0 (N : Nat) : Unit → (Int × List (Bool) × Unit → Option ((List (Bool) × Unit))) → Int × List (Bool) × Unit → Option ((List (Bool) × Unit))
 | _, rec, (n8, o177, _) =>
 bif (decide (n8 < (o177.length : Int))) then bif (decide ((0 : Int) ≤ n8)) then bif (decide (n8 ≤ (o177.length : Int))) then bif (decide ((0 : Int) ≤ n8)) then bif (decide (n8 ≤ (o177.length : Int))) then rec ((IntKind.wrap .i64 (n8 + (cpN n8.toNat (o177.take n8.toNat) o177))), ((cpL n8.toNat (o177.take n8.toNat) o177), ()))
 else none
 else none
 else none
 else none
 else some (o177, ())
theorem s_slices_Repeat___bool_bool__0 (N : Nat) : ∀ σ p rec v, stepL (rn drawQ (mkB (C118 N) [] [] [] []) 8 119 b119_0) 0 (wr b119_0) d_slices_Repeat___bool_bool__0 (instP σ d_slices_Repeat___bool_bool__0.pm p) rec v = n_slices_Repeat___bool_bool__0 N p rec v := by
 rintro σ p rec ⟨n8, o177, _⟩; kernel_rfl
noncomputable def g_slices_Repeat___bool_bool__0 (N : Nat) : St (Sig.T SS) → Tr (Ex × St (Sig.T SS)) := orcL (wr b119_0) d_slices_Repeat___bool_bool__0 fun p => itN (n_slices_Repeat___bool_bool__0 N p) N
theorem o_slices_Repeat___bool_bool__0 (N : Nat) : Snd QQ (g_slices_Repeat___bool_bool__0 N) (.block 0 (blkOf 0 (blks c119))) := loopP LL DR_ok (KC118 N) (F := []) (J := []) (FGood.nil _) (M := []) (R := []) i119 (JGood.nil c119) e119_0 (s_slices_Repeat___bool_bool__0 N) N
def F_slices_Repeat___bool_bool_ (N : Nat) : List (Bool) × Int × Unit → Option (List (Bool) × Unit)
 | (x0, count1, _) =>
 bif (decide (count1 < (0 : Int))) then none
 else (F_bits_Mul N ((IntKind.wrap .u64 (x0.length : Int)), ((IntKind.wrap .u64 count1), ()))).bind fun r31 =>
 bif (decide (r31.1 > (0 : Int))) then none
 else bif (decide (r31.2.1 > (9223372036854775807 : Int))) then none
 else bif (decide ((0 : Int) ≤ (IntKind.wrap .i64 r31.2.1))) then bif (decide ((IntKind.wrap .i64 r31.2.1) ≤ (IntKind.wrap .i64 r31.2.1))) then bif (decide (((IntKind.wrap .i64 r31.2.1) * (1 : Int)) ≤ (140737488351232 : Int))) then (itN (n_slices_Repeat___bool_bool__0 N ()) N ((cpN 0 x0 (List.replicate (IntKind.wrap .i64 r31.2.1).toNat false)), ((cpL 0 x0 (List.replicate (IntKind.wrap .i64 r31.2.1).toNat false)), ()))).bind fun r32 =>
 some (r32.1, ())
 else none
 else none
 else none
theorem t119 (N : Nat) : ∀ v, (fr drawQ (mkB (C118 N) [] [(119, [(0, g_slices_Repeat___bool_bool__0 N)])] [] []) 8 119 Try.f119 (instA [.c (.ls 4), .c (.int .i64)] v)).k (matR [.c (.ls 4)]) = F_slices_Repeat___bool_bool_ N v := by
 rintro ⟨x0, count1, _⟩; kernel_rfl
noncomputable def C119 (N : Nat) : CL SS := (119, conG [.c (.ls 4), .c (.int .i64)] [.c (.ls 4)] (F_slices_Repeat___bool_bool_ N)) :: C118 N
theorem KC119 (N : Nat) : COk QQ (C119 N) := COk.cons (conP LL DR_ok (KC118 N) (F := []) (J := [(119, [(0, g_slices_Repeat___bool_bool__0 N)])]) (FGood.nil _) (M := []) (R := []) i119 (JGood.cons i119.hd (o_slices_Repeat___bool_bool__0 N) (JGood.nil c119)) (t119 N)) (KC118 N)
noncomputable def c178 : Code := Try.f178.body.getD .skip
theorem i178 : IsF Try.prog 178 Try.f178 c178 := ⟨Try.func178, by kernel_rfl, by kernel_rfl, by kernel_rfl⟩
noncomputable def b178_0 : Code := unLoop (blkOf 0 (blks c178))
theorem e178_0 : blkOf 0 (blks c178) = .loop b178_0 := by kernel_rfl
def d_slices_Index___bool_bool__0 : LoopD := ⟨40, ⟨[(0, .c (.rd 4 [(0, 0)])), (1, .c (.bool)), (7, .c (.int .i64))], [(0, 0, .ext)], 19⟩, ⟨[(8, .c (.int .i64))], [], 48⟩, [], [0], [⟨.ret, ⟨[(4, .c (.int .i64))], [], 48⟩, [], [0]⟩, ⟨.norm, ⟨[], [], 48⟩, [], [0]⟩]⟩
def n_slices_Index___bool_bool__0 (N : Nat) : List (Bool) × Bool × Int × Unit → (Int × Unit → Option ((Int × Unit) ⊕ (Unit))) → Int × Unit → Option ((Int × Unit) ⊕ (Unit))
 | (s0, v1, t7, _), rec, (t8, _) =>
 bif (decide (t8 < t7)) then bif (decide ((0 : Int) ≤ t8)) then bif (decide (t8 < (s0.length : Int))) then bif (v1 == (gt s0 t8)) then some (.inl (t8, ()))
 else rec ((IntKind.wrap .i64 (t8 + (1 : Int))), ())
 else none
 else none
 else some (.inr ())
theorem s_slices_Index___bool_bool__0 (N : Nat) : ∀ σ p rec v, stepL (rn drawQ (mkB (C119 N) [] [] [] []) 8 178 b178_0) 0 (wr b178_0) d_slices_Index___bool_bool__0 (instP σ d_slices_Index___bool_bool__0.pm p) rec v = n_slices_Index___bool_bool__0 N p rec v := by
 rintro σ ⟨s0, v1, t7, _⟩ rec ⟨t8, _⟩; kernel_rfl
noncomputable def g_slices_Index___bool_bool__0 (N : Nat) : St (Sig.T SS) → Tr (Ex × St (Sig.T SS)) := orcL (wr b178_0) d_slices_Index___bool_bool__0 fun p => itN (n_slices_Index___bool_bool__0 N p) N
theorem o_slices_Index___bool_bool__0 (N : Nat) : Snd QQ (g_slices_Index___bool_bool__0 N) (.block 0 (blkOf 0 (blks c178))) := loopP LL DR_ok (KC119 N) (F := []) (J := []) (FGood.nil _) (M := []) (R := []) i178 (JGood.nil c178) e178_0 (s_slices_Index___bool_bool__0 N) N
def F_slices_Index___bool_bool_ (N : Nat) : List (Bool) × Bool × Unit → Option (Int × Unit)
 | (s0, v1, _) =>
 (itN (n_slices_Index___bool_bool__0 N (s0, (v1, ((s0.length : Int), ())))) N ((0 : Int), ())).bind fun r33 =>
 bif r33.isLeft then r33.getLeft?.bind fun r34 =>
 some (r34.1, ())
 else r33.getRight?.bind fun r35 =>
 some ((-(1 : Int)), ())
theorem t178 (N : Nat) : ∀ v, (fr drawQ (mkB (C119 N) [] [(178, [(0, g_slices_Index___bool_bool__0 N)])] [] []) 8 178 Try.f178 (instA [.c (.ls 4), .c (.bool)] v)).k (matR [.c (.int .i64)]) = F_slices_Index___bool_bool_ N v := by
 rintro ⟨s0, v1, _⟩; kernel_rfl
noncomputable def C178 (N : Nat) : CL SS := (178, conG [.c (.ls 4), .c (.bool)] [.c (.int .i64)] (F_slices_Index___bool_bool_ N)) :: C119 N
theorem KC178 (N : Nat) : COk QQ (C178 N) := COk.cons (conP LL DR_ok (KC119 N) (F := []) (J := [(178, [(0, g_slices_Index___bool_bool__0 N)])]) (FGood.nil _) (M := []) (R := []) i178 (JGood.cons i178.hd (o_slices_Index___bool_bool__0 N) (JGood.nil c178)) (t178 N)) (KC119 N)
noncomputable def c172 : Code := Try.f172.body.getD .skip
theorem i172 : IsF Try.prog 172 Try.f172 c172 := ⟨Try.func172, by kernel_rfl, by kernel_rfl, by kernel_rfl⟩
def F_slices_Contains___bool_bool_ (N : Nat) : List (Bool) × Bool × Unit → Option (Bool × Unit)
 | (s0, v1, _) =>
 (F_slices_Index___bool_bool_ N (s0, (v1, ()))).bind fun r36 =>
 some ((decide (r36.1 ≥ (0 : Int))), ())
theorem t172 (N : Nat) : ∀ v, (fr drawQ (mkB (C178 N) [] [] [] []) 8 172 Try.f172 (instA [.c (.ls 4), .c (.bool)] v)).k (matR [.c (.bool)]) = F_slices_Contains___bool_bool_ N v := by
 rintro ⟨s0, v1, _⟩; kernel_rfl
noncomputable def C172 (N : Nat) : CL SS := (172, conG [.c (.ls 4), .c (.bool)] [.c (.bool)] (F_slices_Contains___bool_bool_ N)) :: C178 N
theorem KC172 (N : Nat) : COk QQ (C172 N) := COk.cons (conP LL DR_ok (KC178 N) (F := []) (J := []) (FGood.nil _) (M := []) (R := []) i172 (JGood.nil c172) (t172 N)) (KC178 N)
noncomputable def c145 : Code := Try.f145.body.getD .skip
theorem i145 : IsF Try.prog 145 Try.f145 c145 := ⟨Try.func145, by kernel_rfl, by kernel_rfl, by kernel_rfl⟩
def F_impl_signedOf (N : Nat) : Int × Int × Unit → Option (Int × Unit)
 | (bits0, x1, _) =>
 bif (decide ((0 : Int) ≤ (IntKind.wrap .i64 (bits0 - (1 : Int))))) then bif (decide (x1 < (shlI .i64 (1 : Int) (IntKind.wrap .i64 (bits0 - (1 : Int)))))) then some (x1, ())
 else bif (decide ((0 : Int) ≤ bits0)) then some ((IntKind.wrap .i64 (x1 - (shlI .i64 (1 : Int) bits0))), ())
 else none
 else none
theorem t145 (N : Nat) : ∀ v, (fr drawQ (mkB (C172 N) [] [] [] []) 8 145 Try.f145 (instA [.c (.int .i64), .c (.int .i64)] v)).k (matR [.c (.int .i64)]) = F_impl_signedOf N v := by
 rintro ⟨bits0, x1, _⟩; kernel_rfl
noncomputable def C145 (N : Nat) : CL SS := (145, conG [.c (.int .i64), .c (.int .i64)] [.c (.int .i64)] (F_impl_signedOf N)) :: C172 N
theorem KC145 (N : Nat) : COk QQ (C145 N) := COk.cons (conP LL DR_ok (KC172 N) (F := []) (J := []) (FGood.nil _) (M := []) (R := []) i145 (JGood.nil c145) (t145 N)) (KC172 N)
noncomputable def c166 : Code := Try.f166.body.getD .skip
theorem i166 : IsF Try.prog 166 Try.f166 c166 := ⟨Try.func166, by kernel_rfl, by kernel_rfl, by kernel_rfl⟩
def F_impl_wrapped (N : Nat) : Int × Int × Unit → Option (Int × Unit)
 | (bits0, n1, _) =>
 bif (decide ((0 : Int) ≤ bits0)) then some ((andI .i64 n1 (IntKind.wrap .i64 ((shlI .i64 (1 : Int) bits0) - (1 : Int)))), ())
 else none
theorem t166 (N : Nat) : ∀ v, (fr drawQ (mkB (C145 N) [] [] [] []) 8 166 Try.f166 (instA [.c (.int .i64), .c (.int .i64)] v)).k (matR [.c (.int .i64)]) = F_impl_wrapped N v := by
 rintro ⟨bits0, n1, _⟩; kernel_rfl
noncomputable def C166 (N : Nat) : CL SS := (166, conG [.c (.int .i64), .c (.int .i64)] [.c (.int .i64)] (F_impl_wrapped N)) :: C145 N
theorem KC166 (N : Nat) : COk QQ (C166 N) := COk.cons (conP LL DR_ok (KC145 N) (F := []) (J := []) (FGood.nil _) (M := []) (R := []) i166 (JGood.nil c166) (t166 N)) (KC145 N)
noncomputable def c167 : Code := Try.f167.body.getD .skip
theorem i167 : IsF Try.prog 167 Try.f167 c167 := ⟨Try.func167, by kernel_rfl, by kernel_rfl, by kernel_rfl⟩
def F_impl_pick (N : Nat) : Bool × Int × Int × Unit → Option (Int × Unit)
 | (is0, a1, b2, _) =>
 bif is0 then some (a1, ())
 else some (b2, ())
theorem t167 (N : Nat) : ∀ v, (fr drawQ (mkB (C166 N) [] [] [] []) 8 167 Try.f167 (instA [.c (.bool), .c (.int .i64), .c (.int .i64)] v)).k (matR [.c (.int .i64)]) = F_impl_pick N v := by
 rintro ⟨is0, a1, b2, _⟩; kernel_rfl
noncomputable def C167 (N : Nat) : CL SS := (167, conG [.c (.bool), .c (.int .i64), .c (.int .i64)] [.c (.int .i64)] (F_impl_pick N)) :: C166 N
theorem KC167 (N : Nat) : COk QQ (C167 N) := COk.cons (conP LL DR_ok (KC166 N) (F := []) (J := []) (FGood.nil _) (M := []) (R := []) i167 (JGood.nil c167) (t167 N)) (KC166 N)
noncomputable def c168 : Code := Try.f168.body.getD .skip
theorem i168 : IsF Try.prog 168 Try.f168 c168 := ⟨Try.func168, by kernel_rfl, by kernel_rfl, by kernel_rfl⟩
def F_impl_bounded (N : Nat) : Int × Int × Int × Unit → Option (Int × Unit)
 | (n0, low1, high2, _) =>
 some ((mxI low1 (mnI n0 high2)), ())
theorem t168 (N : Nat) : ∀ v, (fr drawQ (mkB (C167 N) [] [] [] []) 8 168 Try.f168 (instA [.c (.int .i64), .c (.int .i64), .c (.int .i64)] v)).k (matR [.c (.int .i64)]) = F_impl_bounded N v := by
 rintro ⟨n0, low1, high2, _⟩; kernel_rfl
noncomputable def C168 (N : Nat) : CL SS := (168, conG [.c (.int .i64), .c (.int .i64), .c (.int .i64)] [.c (.int .i64)] (F_impl_bounded N)) :: C167 N
theorem KC168 (N : Nat) : COk QQ (C168 N) := COk.cons (conP LL DR_ok (KC167 N) (F := []) (J := []) (FGood.nil _) (M := []) (R := []) i168 (JGood.nil c168) (t168 N)) (KC167 N)
noncomputable def c169 : Code := Try.f169.body.getD .skip
theorem i169 : IsF Try.prog 169 Try.f169 c169 := ⟨Try.func169, by kernel_rfl, by kernel_rfl, by kernel_rfl⟩
def F_impl_nearest (N : Nat) : Int × Int × Unit → Option (Int × Unit)
 | (bits0, n1, _) =>
 bif (decide ((0 : Int) ≤ (IntKind.wrap .i64 (bits0 - (1 : Int))))) then (F_impl_bounded N (n1, ((IntKind.wrap .i64 ((0 : Int) - (shlI .i64 (1 : Int) (IntKind.wrap .i64 (bits0 - (1 : Int)))))), ((IntKind.wrap .i64 ((shlI .i64 (1 : Int) (IntKind.wrap .i64 (bits0 - (1 : Int)))) - (1 : Int))), ())))).bind fun r37 =>
 (F_impl_wrapped N (bits0, (r37.1, ()))).bind fun r38 =>
 some (r38.1, ())
 else none
theorem t169 (N : Nat) : ∀ v, (fr drawQ (mkB (C168 N) [] [] [] []) 8 169 Try.f169 (instA [.c (.int .i64), .c (.int .i64)] v)).k (matR [.c (.int .i64)]) = F_impl_nearest N v := by
 rintro ⟨bits0, n1, _⟩; kernel_rfl
noncomputable def C169 (N : Nat) : CL SS := (169, conG [.c (.int .i64), .c (.int .i64)] [.c (.int .i64)] (F_impl_nearest N)) :: C168 N
theorem KC169 (N : Nat) : COk QQ (C169 N) := COk.cons (conP LL DR_ok (KC168 N) (F := []) (J := []) (FGood.nil _) (M := []) (R := []) i169 (JGood.nil c169) (t169 N)) (KC168 N)
noncomputable def c144 : Code := Try.f144.body.getD .skip
theorem i144 : IsF Try.prog 144 Try.f144 c144 := ⟨Try.func144, by kernel_rfl, by kernel_rfl, by kernel_rfl⟩
def F_impl_result (N : Nat) : Int × Int × Int × Int × Unit → Option (Int × Unit)
 | (op0, bits1, a2, b3, _) =>
 bif (decide ((0 : Int) ≤ bits1)) then bif (decide (bits1 = (0 : Int))) then none
 else (F_impl_signedOf N (bits1, (a2, ()))).bind fun r39 =>
 (F_impl_signedOf N (bits1, (b3, ()))).bind fun r40 =>
 bif (decide (op0 = (0 : Int))) then (F_impl_wrapped N (bits1, ((IntKind.wrap .i64 (a2 + b3)), ()))).bind fun r41 =>
 some (r41.1, ())
 else bif (decide (op0 = (1 : Int))) then (F_impl_wrapped N (bits1, ((IntKind.wrap .i64 (a2 - b3)), ()))).bind fun r42 =>
 some (r42.1, ())
 else bif (decide (op0 = (2 : Int))) then (F_impl_wrapped N (bits1, ((IntKind.wrap .i64 (a2 * b3)), ()))).bind fun r43 =>
 some (r43.1, ())
 else bif (decide (op0 = (3 : Int))) then some ((andI .i64 a2 b3), ())
 else bif (decide (op0 = (4 : Int))) then some ((orI .i64 a2 b3), ())
 else bif (decide (op0 = (5 : Int))) then some ((xorI .i64 a2 b3), ())
 else bif (decide (op0 = (6 : Int))) then some ((mnI a2 b3), ())
 else bif (decide (op0 = (7 : Int))) then some ((mxI a2 b3), ())
 else bif (decide (op0 = (8 : Int))) then (F_impl_pick N ((decide (r39.1 ≤ r40.1)), (a2, (b3, ())))).bind fun r44 =>
 some (r44.1, ())
 else bif (decide (op0 = (9 : Int))) then (F_impl_pick N ((decide (r39.1 ≥ r40.1)), (a2, (b3, ())))).bind fun r45 =>
 some (r45.1, ())
 else bif (decide (op0 = (10 : Int))) then (F_impl_bounded N ((IntKind.wrap .i64 (a2 + b3)), ((0 : Int), ((IntKind.wrap .i64 ((shlI .i64 (1 : Int) bits1) - (1 : Int))), ())))).bind fun r46 =>
 some (r46.1, ())
 else bif (decide (op0 = (11 : Int))) then (F_impl_nearest N (bits1, ((IntKind.wrap .i64 (r39.1 + r40.1)), ()))).bind fun r47 =>
 some (r47.1, ())
 else bif (decide (op0 = (12 : Int))) then (F_impl_bounded N ((IntKind.wrap .i64 (a2 - b3)), ((0 : Int), ((IntKind.wrap .i64 ((shlI .i64 (1 : Int) bits1) - (1 : Int))), ())))).bind fun r48 =>
 some (r48.1, ())
 else bif (decide (op0 = (13 : Int))) then (F_impl_nearest N (bits1, ((IntKind.wrap .i64 (r39.1 - r40.1)), ()))).bind fun r49 =>
 some (r49.1, ())
 else bif (decide (op0 = (14 : Int))) then some ((IntKind.wrap .i64 (Int.tdiv (IntKind.wrap .i64 ((IntKind.wrap .i64 (a2 + b3)) + (1 : Int))) (2 : Int))), ())
 else bif (decide (op0 = (15 : Int))) then bif (decide ((0 : Int) ≤ (Int.tmod b3 bits1))) then (F_impl_wrapped N (bits1, ((shlI .i64 a2 (Int.tmod b3 bits1)), ()))).bind fun r50 =>
 some (r50.1, ())
 else none
 else bif (decide (op0 = (16 : Int))) then bif (decide ((0 : Int) ≤ (Int.tmod b3 bits1))) then some ((shrI .i64 a2 (Int.tmod b3 bits1)), ())
 else none
 else bif (decide ((0 : Int) ≤ (Int.tmod b3 bits1))) then (F_impl_wrapped N (bits1, ((shrI .i64 r39.1 (Int.tmod b3 bits1)), ()))).bind fun r51 =>
 some (r51.1, ())
 else none
 else none
theorem t144 (N : Nat) : ∀ v, (fr drawQ (mkB (C169 N) [] [] [] []) 8 144 Try.f144 (instA [.c (.int .i64), .c (.int .i64), .c (.int .i64), .c (.int .i64)] v)).k (matR [.c (.int .i64)]) = F_impl_result N v := by
 rintro ⟨op0, bits1, a2, b3, _⟩; kernel_rfl
noncomputable def C144 (N : Nat) : CL SS := (144, conG [.c (.int .i64), .c (.int .i64), .c (.int .i64), .c (.int .i64)] [.c (.int .i64)] (F_impl_result N)) :: C169 N
theorem KC144 (N : Nat) : COk QQ (C144 N) := COk.cons (conP LL DR_ok (KC169 N) (F := []) (J := []) (FGood.nil _) (M := []) (R := []) i144 (JGood.nil c144) (t144 N)) (KC169 N)
noncomputable def c111 : Code := Try.f111.body.getD .skip
theorem i111 : IsF Try.prog 111 Try.f111 c111 := ⟨Try.func111, by kernel_rfl, by kernel_rfl, by kernel_rfl⟩
def F_impl_holds (N : Nat) : Int × Int × Int × Int × Unit → Option (Bool × Unit)
 | (cmp0, bits1, a2, b3, _) =>
 (F_impl_signedOf N (bits1, (a2, ()))).bind fun r58 =>
 (F_impl_signedOf N (bits1, (b3, ()))).bind fun r59 =>
 bif (decide (cmp0 = (0 : Int))) then some ((decide (a2 = b3)), ())
 else bif (decide (cmp0 = (1 : Int))) then some ((!(decide (a2 = b3))), ())
 else bif (decide (cmp0 = (2 : Int))) then some ((decide (a2 < b3)), ())
 else bif (decide (cmp0 = (3 : Int))) then some ((decide (a2 ≤ b3)), ())
 else bif (decide (cmp0 = (4 : Int))) then some ((decide (r58.1 < r59.1)), ())
 else some ((decide (r58.1 ≤ r59.1)), ())
theorem t111 (N : Nat) : ∀ v, (fr drawQ (mkB (C144 N) [] [] [] []) 8 111 Try.f111 (instA [.c (.int .i64), .c (.int .i64), .c (.int .i64), .c (.int .i64)] v)).k (matR [.c (.bool)]) = F_impl_holds N v := by
 rintro ⟨cmp0, bits1, a2, b3, _⟩; kernel_rfl
noncomputable def C111 (N : Nat) : CL SS := (111, conG [.c (.int .i64), .c (.int .i64), .c (.int .i64), .c (.int .i64)] [.c (.bool)] (F_impl_holds N)) :: C144 N
theorem KC111 (N : Nat) : COk QQ (C111 N) := COk.cons (conP LL DR_ok (KC144 N) (F := []) (J := []) (FGood.nil _) (M := []) (R := []) i111 (JGood.nil c111) (t111 N)) (KC144 N)
noncomputable def c149 : Code := Try.f149.body.getD .skip
theorem i149 : IsF Try.prog 149 Try.f149 c149 := ⟨Try.func149, by kernel_rfl, by kernel_rfl, by kernel_rfl⟩
def F_slices_Clone___bool_bool_ (N : Nat) : List (Bool) × Unit → Option (List (Bool) × Unit)
 | (s0, _) =>
 bif (decide (s0.length = 0)) then none
 else bif (decide (((0 + s0.length) * 1) ≤ 140737488351232)) then some (s0, ())
 else none
theorem t149 (N : Nat) : ∀ v, (fr drawQ (mkB (C111 N) [] [] [] []) 8 149 Try.f149 (instA [.c (.ls 4)] v)).k (matR [.c (.ls 4)]) = F_slices_Clone___bool_bool_ N v := by
 rintro ⟨s0, _⟩; kernel_rfl
noncomputable def C149 (N : Nat) : CL SS := (149, conG [.c (.ls 4)] [.c (.ls 4)] (F_slices_Clone___bool_bool_ N)) :: C111 N
theorem KC149 (N : Nat) : COk QQ (C149 N) := COk.cons (conP LL DR_ok (KC111 N) (F := []) (J := []) (FGood.nil _) (M := []) (R := []) i149 (JGood.nil c149) (t149 N)) (KC111 N)
noncomputable def c151 : Code := Try.f151.body.getD .skip
theorem i151 : IsF Try.prog 151 Try.f151 c151 := ⟨Try.func151, by kernel_rfl, by kernel_rfl, by kernel_rfl⟩
noncomputable def b151_0 : Code := unLoop (blkOf 0 (blks c151))
theorem e151_0 : blkOf 0 (blks c151) = .loop b151_0 := by kernel_rfl
def d_impl_but_0 : LoopD := ⟨72, ⟨[(1, .c (.rd 4 [(0, 0)])), (5, .c (.row 25)), (11, .c (.rd 4 [(0, 0)])), (12, .c (.int .i64))], [(0, 0, .ext)], 31⟩, ⟨[(13, .c (.int .i64))], [(25, .row 4 [])], 80⟩, [], [0, 25], [⟨.norm, ⟨[], [(25, .row 4 [])], 80⟩, [], [0, 25]⟩]⟩
def n_impl_but_0 (N : Nat) : List (Bool) × List (Bool) × Int × Unit → (Int × List (Bool) × Unit → Option ((List (Bool) × Unit))) → Int × List (Bool) × Unit → Option ((List (Bool) × Unit))
 | (b1, t11, t12, _), rec, (t13, o25, _) =>
 bif (decide (t13 < t12)) then bif (decide ((0 : Int) ≤ t13)) then bif (decide (t13 < (t11.length : Int))) then bif (gt t11 t13) then bif (decide ((0 : Int) ≤ t13)) then bif (decide (t13 < (b1.length : Int))) then bif (decide ((0 : Int) ≤ t13)) then bif (decide (t13 < (o25.length : Int))) then rec ((IntKind.wrap .i64 (t13 + (1 : Int))), ((o25.set t13.toNat (!(gt b1 t13))), ()))
 else none
 else none
 else none
 else none
 else bif (decide ((0 : Int) ≤ t13)) then bif (decide (t13 < (o25.length : Int))) then rec ((IntKind.wrap .i64 (t13 + (1 : Int))), ((o25.set t13.toNat false), ()))
 else none
 else none
 else none
 else none
 else some (o25, ())
theorem s_impl_but_0 (N : Nat) : ∀ σ p rec v, stepL (rn drawQ (mkB (C149 N) [] [] [] []) 8 151 b151_0) 0 (wr b151_0) d_impl_but_0 (instP σ d_impl_but_0.pm p) rec v = n_impl_but_0 N p rec v := by
 rintro σ ⟨b1, t11, t12, _⟩ rec ⟨t13, o25, _⟩; kernel_rfl
noncomputable def g_impl_but_0 (N : Nat) : St (Sig.T SS) → Tr (Ex × St (Sig.T SS)) := orcL (wr b151_0) d_impl_but_0 fun p => itN (n_impl_but_0 N p) N
theorem o_impl_but_0 (N : Nat) : Snd QQ (g_impl_but_0 N) (.block 0 (blkOf 0 (blks c151))) := loopP LL DR_ok (KC149 N) (F := []) (J := []) (FGood.nil _) (M := []) (R := []) i151 (JGood.nil c151) e151_0 (s_impl_but_0 N) N
def F_impl_but (N : Nat) : List (Bool) × List (Bool) × Unit → Option (List (Bool) × Unit)
 | (a0, b1, _) =>
 bif (decide ((a0.length : Int) ≤ (a0.length : Int))) then bif (decide (((a0.length : Int) * (1 : Int)) ≤ (140737488351232 : Int))) then (itN (n_impl_but_0 N (b1, (a0, ((a0.length : Int), ())))) N ((0 : Int), ((List.replicate (a0.length : Int).toNat false), ()))).bind fun r60 =>
 some (r60.1, ())
 else none
 else none
theorem t151 (N : Nat) : ∀ v, (fr drawQ (mkB (C149 N) [] [(151, [(0, g_impl_but_0 N)])] [] []) 8 151 Try.f151 (instA [.c (.ls 4), .c (.ls 4)] v)).k (matR [.c (.ls 4)]) = F_impl_but N v := by
 rintro ⟨a0, b1, _⟩; kernel_rfl
noncomputable def C151 (N : Nat) : CL SS := (151, conG [.c (.ls 4), .c (.ls 4)] [.c (.ls 4)] (F_impl_but N)) :: C149 N
theorem KC151 (N : Nat) : COk QQ (C151 N) := COk.cons (conP LL DR_ok (KC149 N) (F := []) (J := [(151, [(0, g_impl_but_0 N)])]) (FGood.nil _) (M := []) (R := []) i151 (JGood.cons i151.hd (o_impl_but_0 N) (JGood.nil c151)) (t151 N)) (KC149 N)
noncomputable def c13 : Code := Try.f13.body.getD .skip
theorem i13 : IsF Try.prog 13 Try.f13 c13 := ⟨Try.func13, by kernel_rfl, by kernel_rfl, by kernel_rfl⟩
def F_laws_szLineS (N : Nat) : (List (Int × Int × Int × Int × Int)) × Int × Unit → Option (Int × Unit)
 | (a0, left1, _) =>
 bif (decide ((IntKind.wrap .i64 (left1 - (a0.length : Int))) < (0 : Int))) then some ((-(1 : Int)), ())
 else some ((IntKind.wrap .i64 (left1 - (a0.length : Int))), ())
theorem t13 (N : Nat) : ∀ v, (fr drawQ (mkB (C151 N) [] [] [] []) 8 13 Try.f13 (instA [.c (.ls 65), .c (.int .i64)] v)).k (matR [.c (.int .i64)]) = F_laws_szLineS N v := by
 rintro ⟨a0, left1, _⟩; kernel_rfl
noncomputable def C13 (N : Nat) : CL SS := (13, conG [.c (.ls 65), .c (.int .i64)] [.c (.int .i64)] (F_laws_szLineS N)) :: C151 N
theorem KC13 (N : Nat) : COk QQ (C13 N) := COk.cons (conP LL DR_ok (KC151 N) (F := []) (J := []) (FGood.nil _) (M := []) (R := []) i13 (JGood.nil c13) (t13 N)) (KC151 N)
noncomputable def c87 : Code := Try.f87.body.getD .skip
theorem i87 : IsF Try.prog 87 Try.f87 c87 := ⟨Try.func87, by kernel_rfl, by kernel_rfl, by kernel_rfl⟩
def F_laws_szInt64S (N : Nat) : List (Int) × Int × Unit → Option (Int × Unit)
 | (a0, left1, _) =>
 bif (decide ((IntKind.wrap .i64 (left1 - (a0.length : Int))) < (0 : Int))) then some ((-(1 : Int)), ())
 else some ((IntKind.wrap .i64 (left1 - (a0.length : Int))), ())
theorem t87 (N : Nat) : ∀ v, (fr drawQ (mkB (C13 N) [] [] [] []) 8 87 Try.f87 (instA [.c (.ls 2), .c (.int .i64)] v)).k (matR [.c (.int .i64)]) = F_laws_szInt64S N v := by
 rintro ⟨a0, left1, _⟩; kernel_rfl
noncomputable def C87 (N : Nat) : CL SS := (87, conG [.c (.ls 2), .c (.int .i64)] [.c (.int .i64)] (F_laws_szInt64S N)) :: C13 N
theorem KC87 (N : Nat) : COk QQ (C87 N) := COk.cons (conP LL DR_ok (KC13 N) (F := []) (J := []) (FGood.nil _) (M := []) (R := []) i87 (JGood.nil c87) (t87 N)) (KC13 N)
noncomputable def c45 : Code := Try.f45.body.getD .skip
theorem i45 : IsF Try.prog 45 Try.f45 c45 := ⟨Try.func45, by kernel_rfl, by kernel_rfl, by kernel_rfl⟩
noncomputable def b45_0 : Code := unLoop (blkOf 0 (blks c45))
theorem e45_0 : blkOf 0 (blks c45) = .loop b45_0 := by kernel_rfl
def d_laws_szInt64SS_0 : LoopD := ⟨80, ⟨[(0, .c (.rd 29 [(0, 0)]))], [(0, 0, .ext)], 27⟩, ⟨[(1, .c (.int .i64)), (5, .c (.int .i64))], [], 88⟩, [], [0], [⟨.ret, ⟨[(4, .c (.int .i64))], [], 88⟩, [], [0]⟩, ⟨.norm, ⟨[(1, .c (.int .i64))], [], 88⟩, [], [0]⟩]⟩
def n_laws_szInt64SS_0 (N : Nat) : List (List (Int)) × Unit → (Int × Int × Unit → Option ((Int × Unit) ⊕ (Int × Unit))) → Int × Int × Unit → Option ((Int × Unit) ⊕ (Int × Unit))
 | (a0, _), rec, (left1, i5, _) =>
 bif (decide (i5 < (a0.length : Int))) then bif (decide ((0 : Int) ≤ i5)) then bif (decide (i5 < (a0.length : Int))) then (F_laws_szInt64S N ((gt a0 i5), (left1, ()))).bind fun r61 =>
 bif (decide (r61.1 < (0 : Int))) then some (.inl ((-(1 : Int)), ()))
 else rec (r61.1, ((IntKind.wrap .i64 (i5 + (1 : Int))), ()))
 else none
 else none
 else some (.inr (left1, ()))
theorem s_laws_szInt64SS_0 (N : Nat) : ∀ σ p rec v, stepL (rn drawQ (mkB (C87 N) [] [] [] []) 8 45 b45_0) 0 (wr b45_0) d_laws_szInt64SS_0 (instP σ d_laws_szInt64SS_0.pm p) rec v = n_laws_szInt64SS_0 N p rec v := by
 rintro σ ⟨a0, _⟩ rec ⟨left1, i5, _⟩; kernel_rfl
noncomputable def g_laws_szInt64SS_0 (N : Nat) : St (Sig.T SS) → Tr (Ex × St (Sig.T SS)) := orcL (wr b45_0) d_laws_szInt64SS_0 fun p => itN (n_laws_szInt64SS_0 N p) N
theorem o_laws_szInt64SS_0 (N : Nat) : Snd QQ (g_laws_szInt64SS_0 N) (.block 0 (blkOf 0 (blks c45))) := loopP LL DR_ok (KC87 N) (F := []) (J := []) (FGood.nil _) (M := []) (R := []) i45 (JGood.nil c45) e45_0 (s_laws_szInt64SS_0 N) N
def F_laws_szInt64SS (N : Nat) : List (List (Int)) × Int × Unit → Option (Int × Unit)
 | (a0, left1, _) =>
 bif (decide ((IntKind.wrap .i64 (left1 - (a0.length : Int))) < (0 : Int))) then some ((-(1 : Int)), ())
 else (itN (n_laws_szInt64SS_0 N (a0, ())) N ((IntKind.wrap .i64 (left1 - (a0.length : Int))), ((0 : Int), ()))).bind fun r62 =>
 bif r62.isLeft then r62.getLeft?.bind fun r63 =>
 some (r63.1, ())
 else r62.getRight?.bind fun r64 =>
 some (r64.1, ())
theorem t45 (N : Nat) : ∀ v, (fr drawQ (mkB (C87 N) [] [(45, [(0, g_laws_szInt64SS_0 N)])] [] []) 8 45 Try.f45 (instA [.c (.ls 29), .c (.int .i64)] v)).k (matR [.c (.int .i64)]) = F_laws_szInt64SS N v := by
 rintro ⟨a0, left1, _⟩; kernel_rfl
noncomputable def C45 (N : Nat) : CL SS := (45, conG [.c (.ls 29), .c (.int .i64)] [.c (.int .i64)] (F_laws_szInt64SS N)) :: C87 N
theorem KC45 (N : Nat) : COk QQ (C45 N) := COk.cons (conP LL DR_ok (KC87 N) (F := []) (J := [(45, [(0, g_laws_szInt64SS_0 N)])]) (FGood.nil _) (M := []) (R := []) i45 (JGood.cons i45.hd (o_laws_szInt64SS_0 N) (JGood.nil c45)) (t45 N)) (KC87 N)
noncomputable def c54 : Code := Try.f54.body.getD .skip
theorem i54 : IsF Try.prog 54 Try.f54 c54 := ⟨Try.func54, by kernel_rfl, by kernel_rfl, by kernel_rfl⟩
def F_laws_toLine (N : Nat) : Int × Int × Int × Int × Int × Unit → Option (Int × Int × Int × Int × Int × Unit)
 | (a0c0, a0c1, a0c2, a0c3, a0c4, _) =>
 some (a0c0, (a0c1, (a0c2, (a0c3, (a0c4, ())))))
theorem t54 (N : Nat) : ∀ v, (fr drawQ (mkB (C45 N) [] [] [] []) 8 54 Try.f54 (instA [.agg [.int .i64, .int .i64, .int .i64, .int .i64, .int .i64]] v)).k (matR [.agg [.int .i64, .int .i64, .int .i64, .int .i64, .int .i64]]) = F_laws_toLine N v := by
 rintro ⟨a0c0, a0c1, a0c2, a0c3, a0c4, _⟩; kernel_rfl
noncomputable def C54 (N : Nat) : CL SS := (54, conG [.agg [.int .i64, .int .i64, .int .i64, .int .i64, .int .i64]] [.agg [.int .i64, .int .i64, .int .i64, .int .i64, .int .i64]] (F_laws_toLine N)) :: C45 N
theorem KC54 (N : Nat) : COk QQ (C54 N) := COk.cons (conP LL DR_ok (KC45 N) (F := []) (J := []) (FGood.nil _) (M := []) (R := []) i54 (JGood.nil c54) (t54 N)) (KC45 N)
noncomputable def c15 : Code := Try.f15.body.getD .skip
theorem i15 : IsF Try.prog 15 Try.f15 c15 := ⟨Try.func15, by kernel_rfl, by kernel_rfl, by kernel_rfl⟩
noncomputable def b15_0 : Code := unLoop (blkOf 0 (blks c15))
theorem e15_0 : blkOf 0 (blks c15) = .loop b15_0 := by kernel_rfl
def d_laws_toLineS_0 : LoopD := ⟨56, ⟨[(0, .c (.rd 65 [(0, 0)])), (3, .c (.row 25))], [(0, 0, .ext)], 23⟩, ⟨[(4, .c (.int .i64))], [(25, .row 63 [])], 64⟩, [], [0, 25], [⟨.norm, ⟨[], [(25, .row 63 [])], 64⟩, [], [0, 25]⟩]⟩
def n_laws_toLineS_0 (N : Nat) : (List (Int × Int × Int × Int × Int)) × Unit → (Int × (List (Int × Int × Int × Int × Int)) × Unit → Option (((List (Int × Int × Int × Int × Int)) × Unit))) → Int × (List (Int × Int × Int × Int × Int)) × Unit → Option (((List (Int × Int × Int × Int × Int)) × Unit))
 | (a0, _), rec, (i4, o25, _) =>
 bif (decide (i4 < (a0.length : Int))) then bif (decide ((0 : Int) ≤ i4)) then bif (decide (i4 < (a0.length : Int))) then (F_laws_toLine N ((gt a0 i4).1, ((gt a0 i4).2.1, ((gt a0 i4).2.2.1, ((gt a0 i4).2.2.2.1, ((gt a0 i4).2.2.2.2, ())))))).bind fun r66 =>
 bif (decide ((0 : Int) ≤ i4)) then bif (decide (i4 < (o25.length : Int))) then rec ((IntKind.wrap .i64 (i4 + (1 : Int))), ((o25.set i4.toNat (r66.1, (r66.2.1, (r66.2.2.1, (r66.2.2.2.1, r66.2.2.2.2.1))))), ()))
 else none
 else none
 else none
 else none
 else some (o25, ())
theorem s_laws_toLineS_0 (N : Nat) : ∀ σ p rec v, stepL (rn drawQ (mkB (C54 N) [] [] [] []) 8 15 b15_0) 0 (wr b15_0) d_laws_toLineS_0 (instP σ d_laws_toLineS_0.pm p) rec v = n_laws_toLineS_0 N p rec v := by
 rintro σ ⟨a0, _⟩ rec ⟨i4, o25, _⟩; kernel_rfl
noncomputable def g_laws_toLineS_0 (N : Nat) : St (Sig.T SS) → Tr (Ex × St (Sig.T SS)) := orcL (wr b15_0) d_laws_toLineS_0 fun p => itN (n_laws_toLineS_0 N p) N
theorem o_laws_toLineS_0 (N : Nat) : Snd QQ (g_laws_toLineS_0 N) (.block 0 (blkOf 0 (blks c15))) := loopP LL DR_ok (KC54 N) (F := []) (J := []) (FGood.nil _) (M := []) (R := []) i15 (JGood.nil c15) e15_0 (s_laws_toLineS_0 N) N
def F_laws_toLineS (N : Nat) : (List (Int × Int × Int × Int × Int)) × Unit → Option ((List (Int × Int × Int × Int × Int)) × Unit)
 | (a0, _) =>
 bif (decide ((a0.length : Int) ≤ (a0.length : Int))) then bif (decide (((a0.length : Int) * (40 : Int)) ≤ (140737488351232 : Int))) then (itN (n_laws_toLineS_0 N (a0, ())) N ((0 : Int), ((List.replicate (a0.length : Int).toNat ((0 : Int), ((0 : Int), ((0 : Int), ((0 : Int), (0 : Int)))))), ()))).bind fun r67 =>
 some (r67.1, ())
 else none
 else none
theorem t15 (N : Nat) : ∀ v, (fr drawQ (mkB (C54 N) [] [(15, [(0, g_laws_toLineS_0 N)])] [] []) 8 15 Try.f15 (instA [.c (.ls 65)] v)).k (matR [.c (.ls 63)]) = F_laws_toLineS N v := by
 rintro ⟨a0, _⟩; kernel_rfl
noncomputable def C15 (N : Nat) : CL SS := (15, conG [.c (.ls 65)] [.c (.ls 63)] (F_laws_toLineS N)) :: C54 N
theorem KC15 (N : Nat) : COk QQ (C15 N) := COk.cons (conP LL DR_ok (KC54 N) (F := []) (J := [(15, [(0, g_laws_toLineS_0 N)])]) (FGood.nil _) (M := []) (R := []) i15 (JGood.cons i15.hd (o_laws_toLineS_0 N) (JGood.nil c15)) (t15 N)) (KC54 N)
noncomputable def c25 : Code := Try.f25.body.getD .skip
theorem i25 : IsF Try.prog 25 Try.f25 c25 := ⟨Try.func25, by kernel_rfl, by kernel_rfl, by kernel_rfl⟩
noncomputable def b25_0 : Code := unLoop (blkOf 0 (blks c25))
theorem e25_0 : blkOf 0 (blks c25) = .loop b25_0 := by kernel_rfl
def d_laws_toInt64S_0 : LoopD := ⟨56, ⟨[(0, .c (.rd 2 [(0, 0)])), (3, .c (.row 25))], [(0, 0, .ext)], 22⟩, ⟨[(4, .c (.int .i64))], [(25, .row 2 [])], 64⟩, [], [0, 25], [⟨.norm, ⟨[], [(25, .row 2 [])], 64⟩, [], [0, 25]⟩]⟩
def n_laws_toInt64S_0 (N : Nat) : List (Int) × Unit → (Int × List (Int) × Unit → Option ((List (Int) × Unit))) → Int × List (Int) × Unit → Option ((List (Int) × Unit))
 | (a0, _), rec, (i4, o25, _) =>
 bif (decide (i4 < (a0.length : Int))) then bif (decide ((0 : Int) ≤ i4)) then bif (decide (i4 < (a0.length : Int))) then bif (decide ((0 : Int) ≤ i4)) then bif (decide (i4 < (o25.length : Int))) then rec ((IntKind.wrap .i64 (i4 + (1 : Int))), ((o25.set i4.toNat (gt a0 i4)), ()))
 else none
 else none
 else none
 else none
 else some (o25, ())
theorem s_laws_toInt64S_0 (N : Nat) : ∀ σ p rec v, stepL (rn drawQ (mkB (C15 N) [] [] [] []) 8 25 b25_0) 0 (wr b25_0) d_laws_toInt64S_0 (instP σ d_laws_toInt64S_0.pm p) rec v = n_laws_toInt64S_0 N p rec v := by
 rintro σ ⟨a0, _⟩ rec ⟨i4, o25, _⟩; kernel_rfl
noncomputable def g_laws_toInt64S_0 (N : Nat) : St (Sig.T SS) → Tr (Ex × St (Sig.T SS)) := orcL (wr b25_0) d_laws_toInt64S_0 fun p => itN (n_laws_toInt64S_0 N p) N
theorem o_laws_toInt64S_0 (N : Nat) : Snd QQ (g_laws_toInt64S_0 N) (.block 0 (blkOf 0 (blks c25))) := loopP LL DR_ok (KC15 N) (F := []) (J := []) (FGood.nil _) (M := []) (R := []) i25 (JGood.nil c25) e25_0 (s_laws_toInt64S_0 N) N
def F_laws_toInt64S (N : Nat) : List (Int) × Unit → Option (List (Int) × Unit)
 | (a0, _) =>
 bif (decide ((a0.length : Int) ≤ (a0.length : Int))) then bif (decide (((a0.length : Int) * (8 : Int)) ≤ (140737488351232 : Int))) then (itN (n_laws_toInt64S_0 N (a0, ())) N ((0 : Int), ((List.replicate (a0.length : Int).toNat (0 : Int)), ()))).bind fun r68 =>
 some (r68.1, ())
 else none
 else none
theorem t25 (N : Nat) : ∀ v, (fr drawQ (mkB (C15 N) [] [(25, [(0, g_laws_toInt64S_0 N)])] [] []) 8 25 Try.f25 (instA [.c (.ls 2)] v)).k (matR [.c (.ls 2)]) = F_laws_toInt64S N v := by
 rintro ⟨a0, _⟩; kernel_rfl
noncomputable def C25 (N : Nat) : CL SS := (25, conG [.c (.ls 2)] [.c (.ls 2)] (F_laws_toInt64S N)) :: C15 N
theorem KC25 (N : Nat) : COk QQ (C25 N) := COk.cons (conP LL DR_ok (KC15 N) (F := []) (J := [(25, [(0, g_laws_toInt64S_0 N)])]) (FGood.nil _) (M := []) (R := []) i25 (JGood.cons i25.hd (o_laws_toInt64S_0 N) (JGood.nil c25)) (t25 N)) (KC15 N)
noncomputable def c47 : Code := Try.f47.body.getD .skip
theorem i47 : IsF Try.prog 47 Try.f47 c47 := ⟨Try.func47, by kernel_rfl, by kernel_rfl, by kernel_rfl⟩
noncomputable def b47_0 : Code := unLoop (blkOf 0 (blks c47))
theorem e47_0 : blkOf 0 (blks c47) = .loop b47_0 := by kernel_rfl
def d_laws_toInt64SS_0 : LoopD := ⟨56, ⟨[(0, .c (.rd 29 [(0, 0)])), (3, .c (.row 25))], [(0, 0, .ext)], 23⟩, ⟨[(4, .c (.int .i64))], [(25, .deep 29 0 2 [] 56)], 64⟩, [], [0, 25], [⟨.norm, ⟨[], [(25, .deep 29 0 2 [] 56)], 64⟩, [], [0, 25]⟩]⟩
def n_laws_toInt64SS_0 (N : Nat) : List (List (Int)) × Unit → (Int × List (List (Int)) × Unit → Option ((List (List (Int)) × Unit))) → Int × List (List (Int)) × Unit → Option ((List (List (Int)) × Unit))
 | (a0, _), rec, (i4, o25, _) =>
 bif (decide (i4 < (a0.length : Int))) then bif (decide ((0 : Int) ≤ i4)) then bif (decide (i4 < (a0.length : Int))) then (F_laws_toInt64S N ((gt a0 i4), ())).bind fun r71 =>
 bif (decide ((0 : Int) ≤ i4)) then bif (decide (i4 < (o25.length : Int))) then rec ((IntKind.wrap .i64 (i4 + (1 : Int))), ((o25.set i4.toNat r71.1), ()))
 else none
 else none
 else none
 else none
 else some (o25, ())
theorem s_laws_toInt64SS_0 (N : Nat) : ∀ σ p rec v, stepL (rn drawQ (mkB (C25 N) [] [] [] []) 8 47 b47_0) 0 (wr b47_0) d_laws_toInt64SS_0 (instP σ d_laws_toInt64SS_0.pm p) rec v = n_laws_toInt64SS_0 N p rec v := by
 rintro σ ⟨a0, _⟩ rec ⟨i4, o25, _⟩; kernel_rfl
noncomputable def g_laws_toInt64SS_0 (N : Nat) : St (Sig.T SS) → Tr (Ex × St (Sig.T SS)) := orcL (wr b47_0) d_laws_toInt64SS_0 fun p => itN (n_laws_toInt64SS_0 N p) N
theorem o_laws_toInt64SS_0 (N : Nat) : Snd QQ (g_laws_toInt64SS_0 N) (.block 0 (blkOf 0 (blks c47))) := loopP LL DR_ok (KC25 N) (F := []) (J := []) (FGood.nil _) (M := []) (R := []) i47 (JGood.nil c47) e47_0 (s_laws_toInt64SS_0 N) N
def F_laws_toInt64SS (N : Nat) : List (List (Int)) × Unit → Option (List (List (Int)) × Unit)
 | (a0, _) =>
 bif (decide ((a0.length : Int) ≤ (a0.length : Int))) then bif (decide (((a0.length : Int) * (24 : Int)) ≤ (140737488351232 : Int))) then (itN (n_laws_toInt64SS_0 N (a0, ())) N ((0 : Int), ((List.replicate (a0.length : Int).toNat []), ()))).bind fun r72 =>
 some (r72.1, ())
 else none
 else none
theorem t47 (N : Nat) : ∀ v, (fr drawQ (mkB (C25 N) [] [(47, [(0, g_laws_toInt64SS_0 N)])] [] []) 8 47 Try.f47 (instA [.c (.ls 29)] v)).k (matR [.c (.dp 29 0 2)]) = F_laws_toInt64SS N v := by
 rintro ⟨a0, _⟩; kernel_rfl
noncomputable def C47 (N : Nat) : CL SS := (47, conG [.c (.ls 29)] [.c (.dp 29 0 2)] (F_laws_toInt64SS N)) :: C25 N
theorem KC47 (N : Nat) : COk QQ (C47 N) := COk.cons (conP LL DR_ok (KC25 N) (F := []) (J := [(47, [(0, g_laws_toInt64SS_0 N)])]) (FGood.nil _) (M := []) (R := []) i47 (JGood.cons i47.hd (o_laws_toInt64SS_0 N) (JGood.nil c47)) (t47 N)) (KC25 N)
noncomputable def c91 : Code := Try.f91.body.getD .skip
theorem i91 : IsF Try.prog 91 Try.f91 c91 := ⟨Try.func91, by kernel_rfl, by kernel_rfl, by kernel_rfl⟩
def F_spec_l01Bits (N : Nat) : Int × Unit → Option (Bool × Unit)
 | (bits0, _) =>
 bif (decide (bits0 = (4 : Int))) then some (true, ())
 else bif (decide (bits0 = (8 : Int))) then some (true, ())
 else some ((decide (bits0 = (16 : Int))), ())
theorem t91 (N : Nat) : ∀ v, (fr drawQ (mkB (C47 N) [] [] [] []) 8 91 Try.f91 (instA [.c (.int .i64)] v)).k (matR [.c (.bool)]) = F_spec_l01Bits N v := by
 rintro ⟨bits0, _⟩; kernel_rfl
noncomputable def C91 (N : Nat) : CL SS := (91, conG [.c (.int .i64)] [.c (.bool)] (F_spec_l01Bits N)) :: C47 N
theorem KC91 (N : Nat) : COk QQ (C91 N) := COk.cons (conP LL DR_ok (KC47 N) (F := []) (J := []) (FGood.nil _) (M := []) (R := []) i91 (JGood.nil c91) (t91 N)) (KC47 N)
noncomputable def c123 : Code := Try.f123.body.getD .skip
theorem i123 : IsF Try.prog 123 Try.f123 c123 := ⟨Try.func123, by kernel_rfl, by kernel_rfl, by kernel_rfl⟩
def F_spec_l00In (N : Nat) : Int × Int × Int × Unit → Option (Bool × Unit)
 | (n0, low1, high2, _) =>
 bif (decide (n0 ≥ low1)) then some ((decide (n0 ≤ high2)), ())
 else some (false, ())
theorem t123 (N : Nat) : ∀ v, (fr drawQ (mkB (C91 N) [] [] [] []) 8 123 Try.f123 (instA [.c (.int .i64), .c (.int .i64), .c (.int .i64)] v)).k (matR [.c (.bool)]) = F_spec_l00In N v := by
 rintro ⟨n0, low1, high2, _⟩; kernel_rfl
noncomputable def C123 (N : Nat) : CL SS := (123, conG [.c (.int .i64), .c (.int .i64), .c (.int .i64)] [.c (.bool)] (F_spec_l00In N)) :: C91 N
theorem KC123 (N : Nat) : COk QQ (C123 N) := COk.cons (conP LL DR_ok (KC91 N) (F := []) (J := []) (FGood.nil _) (M := []) (R := []) i123 (JGood.nil c123) (t123 N)) (KC91 N)
noncomputable def c130 : Code := Try.f130.body.getD .skip
theorem i130 : IsF Try.prog 130 Try.f130 c130 := ⟨Try.func130, by kernel_rfl, by kernel_rfl, by kernel_rfl⟩
def F_spec_l01Word (N : Nat) : Int × Int × Unit → Option (Bool × Unit)
 | (bits0, x1, _) =>
 (F_spec_l01Bits N (bits0, ())).bind fun r73 =>
 bif r73.1 then bif (decide ((0 : Int) ≤ (IntKind.wrap .u64 bits0))) then (F_spec_l00In N (x1, ((0 : Int), ((IntKind.wrap .i64 ((shlI .i64 (1 : Int) (IntKind.wrap .u64 bits0)) - (1 : Int))), ())))).bind fun r74 =>
 some (r74.1, ())
 else none
 else some (false, ())
theorem t130 (N : Nat) : ∀ v, (fr drawQ (mkB (C123 N) [] [] [] []) 8 130 Try.f130 (instA [.c (.int .i64), .c (.int .i64)] v)).k (matR [.c (.bool)]) = F_spec_l01Word N v := by
 rintro ⟨bits0, x1, _⟩; kernel_rfl
noncomputable def C130 (N : Nat) : CL SS := (130, conG [.c (.int .i64), .c (.int .i64)] [.c (.bool)] (F_spec_l01Word N)) :: C123 N
theorem KC130 (N : Nat) : COk QQ (C130 N) := COk.cons (conP LL DR_ok (KC123 N) (F := []) (J := []) (FGood.nil _) (M := []) (R := []) i130 (JGood.nil c130) (t130 N)) (KC123 N)
noncomputable def c133 : Code := Try.f133.body.getD .skip
theorem i133 : IsF Try.prog 133 Try.f133 c133 := ⟨Try.func133, by kernel_rfl, by kernel_rfl, by kernel_rfl⟩
noncomputable def b133_0 : Code := unLoop (blkOf 0 (blks c133))
theorem e133_0 : blkOf 0 (blks c133) = .loop b133_0 := by kernel_rfl
def d_spec_l01Words_0 : LoopD := ⟨24, ⟨[(0, .c (.int .i64)), (1, .c (.rd 2 [(0, 0)]))], [(0, 0, .ext)], 21⟩, ⟨[(5, .c (.int .i64))], [], 32⟩, [], [0], [⟨.ret, ⟨[(4, .c (.bool))], [], 32⟩, [], [0]⟩, ⟨.norm, ⟨[], [], 32⟩, [], [0]⟩]⟩
def n_spec_l01Words_0 (N : Nat) : Int × List (Int) × Unit → (Int × Unit → Option ((Bool × Unit) ⊕ (Unit))) → Int × Unit → Option ((Bool × Unit) ⊕ (Unit))
 | (bits0, list1, _), rec, (i5, _) =>
 bif (decide (i5 < (list1.length : Int))) then bif (decide ((0 : Int) ≤ i5)) then bif (decide (i5 < (list1.length : Int))) then (F_spec_l01Word N (bits0, ((gt list1 i5), ()))).bind fun r75 =>
 bif (!r75.1) then some (.inl (false, ()))
 else rec ((IntKind.wrap .i64 (i5 + (1 : Int))), ())
 else none
 else none
 else some (.inr ())
theorem s_spec_l01Words_0 (N : Nat) : ∀ σ p rec v, stepL (rn drawQ (mkB (C130 N) [] [] [] []) 8 133 b133_0) 0 (wr b133_0) d_spec_l01Words_0 (instP σ d_spec_l01Words_0.pm p) rec v = n_spec_l01Words_0 N p rec v := by
 rintro σ ⟨bits0, list1, _⟩ rec ⟨i5, _⟩; kernel_rfl
noncomputable def g_spec_l01Words_0 (N : Nat) : St (Sig.T SS) → Tr (Ex × St (Sig.T SS)) := orcL (wr b133_0) d_spec_l01Words_0 fun p => itN (n_spec_l01Words_0 N p) N
theorem o_spec_l01Words_0 (N : Nat) : Snd QQ (g_spec_l01Words_0 N) (.block 0 (blkOf 0 (blks c133))) := loopP LL DR_ok (KC130 N) (F := []) (J := []) (FGood.nil _) (M := []) (R := []) i133 (JGood.nil c133) e133_0 (s_spec_l01Words_0 N) N
def F_spec_l01Words (N : Nat) : Int × List (Int) × Unit → Option (Bool × Unit)
 | (bits0, list1, _) =>
 (itN (n_spec_l01Words_0 N (bits0, (list1, ()))) N ((0 : Int), ())).bind fun r76 =>
 bif r76.isLeft then r76.getLeft?.bind fun r77 =>
 some (r77.1, ())
 else r76.getRight?.bind fun r78 =>
 (F_spec_l01Bits N (bits0, ())).bind fun r79 =>
 some (r79.1, ())
theorem t133 (N : Nat) : ∀ v, (fr drawQ (mkB (C130 N) [] [(133, [(0, g_spec_l01Words_0 N)])] [] []) 8 133 Try.f133 (instA [.c (.int .i64), .c (.ls 2)] v)).k (matR [.c (.bool)]) = F_spec_l01Words N v := by
 rintro ⟨bits0, list1, _⟩; kernel_rfl
noncomputable def C133 (N : Nat) : CL SS := (133, conG [.c (.int .i64), .c (.ls 2)] [.c (.bool)] (F_spec_l01Words N)) :: C130 N
theorem KC133 (N : Nat) : COk QQ (C133 N) := COk.cons (conP LL DR_ok (KC130 N) (F := []) (J := [(133, [(0, g_spec_l01Words_0 N)])]) (FGood.nil _) (M := []) (R := []) i133 (JGood.cons i133.hd (o_spec_l01Words_0 N) (JGood.nil c133)) (t133 N)) (KC130 N)
noncomputable def c95 : Code := Try.f95.body.getD .skip
theorem i95 : IsF Try.prog 95 Try.f95 c95 := ⟨Try.func95, by kernel_rfl, by kernel_rfl, by kernel_rfl⟩
def F_spec_l08Vars (N : Nat) : Int × List (Int) × Unit → Option (Bool × Unit)
 | (bits0, vars1, _) =>
 bif (decide ((vars1.length : Int) = (8 : Int))) then (F_spec_l01Words N (bits0, (vars1, ()))).bind fun r80 =>
 some (r80.1, ())
 else some (false, ())
theorem t95 (N : Nat) : ∀ v, (fr drawQ (mkB (C133 N) [] [] [] []) 8 95 Try.f95 (instA [.c (.int .i64), .c (.ls 2)] v)).k (matR [.c (.bool)]) = F_spec_l08Vars N v := by
 rintro ⟨bits0, vars1, _⟩; kernel_rfl
noncomputable def C95 (N : Nat) : CL SS := (95, conG [.c (.int .i64), .c (.ls 2)] [.c (.bool)] (F_spec_l08Vars N)) :: C133 N
theorem KC95 (N : Nat) : COk QQ (C95 N) := COk.cons (conP LL DR_ok (KC133 N) (F := []) (J := []) (FGood.nil _) (M := []) (R := []) i95 (JGood.nil c95) (t95 N)) (KC133 N)
noncomputable def c128 : Code := Try.f128.body.getD .skip
theorem i128 : IsF Try.prog 128 Try.f128 c128 := ⟨Try.func128, by kernel_rfl, by kernel_rfl, by kernel_rfl⟩
def F_spec_l08Var (N : Nat) : Int × Unit → Option (Bool × Unit)
 | (n0, _) =>
 (F_spec_l00In N (n0, ((0 : Int), ((7 : Int), ())))).bind fun r81 =>
 some (r81.1, ())
theorem t128 (N : Nat) : ∀ v, (fr drawQ (mkB (C95 N) [] [] [] []) 8 128 Try.f128 (instA [.c (.int .i64)] v)).k (matR [.c (.bool)]) = F_spec_l08Var N v := by
 rintro ⟨n0, _⟩; kernel_rfl
noncomputable def C128 (N : Nat) : CL SS := (128, conG [.c (.int .i64)] [.c (.bool)] (F_spec_l08Var N)) :: C95 N
theorem KC128 (N : Nat) : COk QQ (C128 N) := COk.cons (conP LL DR_ok (KC95 N) (F := []) (J := []) (FGood.nil _) (M := []) (R := []) i128 (JGood.nil c128) (t128 N)) (KC95 N)
noncomputable def c129 : Code := Try.f129.body.getD .skip
theorem i129 : IsF Try.prog 129 Try.f129 c129 := ⟨Try.func129, by kernel_rfl, by kernel_rfl, by kernel_rfl⟩
def F_spec_l01OpIs (N : Nat) : Int × Unit → Option (Bool × Unit)
 | (op0, _) =>
 (F_spec_l00In N (op0, ((0 : Int), ((17 : Int), ())))).bind fun r82 =>
 some (r82.1, ())
theorem t129 (N : Nat) : ∀ v, (fr drawQ (mkB (C128 N) [] [] [] []) 8 129 Try.f129 (instA [.c (.int .i64)] v)).k (matR [.c (.bool)]) = F_spec_l01OpIs N v := by
 rintro ⟨op0, _⟩; kernel_rfl
noncomputable def C129 (N : Nat) : CL SS := (129, conG [.c (.int .i64)] [.c (.bool)] (F_spec_l01OpIs N)) :: C128 N
theorem KC129 (N : Nat) : COk QQ (C129 N) := COk.cons (conP LL DR_ok (KC128 N) (F := []) (J := []) (FGood.nil _) (M := []) (R := []) i129 (JGood.nil c129) (t129 N)) (KC128 N)
noncomputable def c131 : Code := Try.f131.body.getD .skip
theorem i131 : IsF Try.prog 131 Try.f131 c131 := ⟨Try.func131, by kernel_rfl, by kernel_rfl, by kernel_rfl⟩
def F_spec_l01CmpIs (N : Nat) : Int × Unit → Option (Bool × Unit)
 | (cmp0, _) =>
 (F_spec_l00In N (cmp0, ((0 : Int), ((5 : Int), ())))).bind fun r83 =>
 some (r83.1, ())
theorem t131 (N : Nat) : ∀ v, (fr drawQ (mkB (C129 N) [] [] [] []) 8 131 Try.f131 (instA [.c (.int .i64)] v)).k (matR [.c (.bool)]) = F_spec_l01CmpIs N v := by
 rintro ⟨cmp0, _⟩; kernel_rfl
noncomputable def C131 (N : Nat) : CL SS := (131, conG [.c (.int .i64)] [.c (.bool)] (F_spec_l01CmpIs N)) :: C129 N
theorem KC131 (N : Nat) : COk QQ (C131 N) := COk.cons (conP LL DR_ok (KC129 N) (F := []) (J := []) (FGood.nil _) (M := []) (R := []) i131 (JGood.nil c131) (t131 N)) (KC129 N)
noncomputable def c93 : Code := Try.f93.body.getD .skip
theorem i93 : IsF Try.prog 93 Try.f93 c93 := ⟨Try.func93, by kernel_rfl, by kernel_rfl, by kernel_rfl⟩
def F_spec_l08Line (N : Nat) : Int × Int × Int × Int × Int × Int × Unit → Option (Bool × Unit)
 | (bits0, x1c0, x1c1, x1c2, x1c3, x1c4, _) =>
 bif (decide (x1c0 = (0 : Int))) then (F_spec_l08Var N (x1c1, ())).bind fun r84 =>
 bif r84.1 then (F_spec_l01OpIs N (x1c2, ())).bind fun r85 =>
 bif r85.1 then (F_spec_l08Var N (x1c3, ())).bind fun r86 =>
 bif r86.1 then (F_spec_l08Var N (x1c4, ())).bind fun r87 =>
 some (r87.1, ())
 else some (false, ())
 else some (false, ())
 else some (false, ())
 else bif (decide (x1c0 = (1 : Int))) then (F_spec_l08Var N (x1c1, ())).bind fun r88 =>
 bif r88.1 then bif (decide (x1c2 = (0 : Int))) then bif (decide (x1c3 = (0 : Int))) then (F_spec_l01Word N (bits0, (x1c4, ()))).bind fun r89 =>
 some (r89.1, ())
 else some (false, ())
 else some (false, ())
 else some (false, ())
 else bif (decide (x1c0 = (2 : Int))) then bif (decide (x1c1 = (0 : Int))) then (F_spec_l01CmpIs N (x1c2, ())).bind fun r90 =>
 bif r90.1 then (F_spec_l08Var N (x1c3, ())).bind fun r91 =>
 bif r91.1 then (F_spec_l08Var N (x1c4, ())).bind fun r92 =>
 some (r92.1, ())
 else some (false, ())
 else some (false, ())
 else some (false, ())
 else bif (decide (x1c0 = (6 : Int))) then bif (decide (x1c1 = (0 : Int))) then (F_spec_l01CmpIs N (x1c2, ())).bind fun r93 =>
 bif r93.1 then (F_spec_l08Var N (x1c3, ())).bind fun r94 =>
 bif r94.1 then (F_spec_l08Var N (x1c4, ())).bind fun r95 =>
 some (r95.1, ())
 else some (false, ())
 else some (false, ())
 else some (false, ())
 else bif (decide (x1c0 = (3 : Int))) then bif (decide (x1c1 = (0 : Int))) then bif (decide (x1c2 = (0 : Int))) then bif (decide (x1c3 = (0 : Int))) then some ((decide (x1c4 = (0 : Int))), ())
 else some (false, ())
 else some (false, ())
 else some (false, ())
 else bif (decide (x1c0 = (4 : Int))) then bif (decide (x1c1 = (0 : Int))) then bif (decide (x1c2 = (0 : Int))) then bif (decide (x1c3 = (0 : Int))) then some ((decide (x1c4 = (0 : Int))), ())
 else some (false, ())
 else some (false, ())
 else some (false, ())
 else bif (decide (x1c0 = (5 : Int))) then bif (decide (x1c1 = (0 : Int))) then bif (decide (x1c2 = (0 : Int))) then bif (decide (x1c3 = (0 : Int))) then (F_spec_l00In N (x1c4, ((1 : Int), ((8 : Int), ())))).bind fun r96 =>
 some (r96.1, ())
 else some (false, ())
 else some (false, ())
 else some (false, ())
 else some (false, ())
theorem t93 (N : Nat) : ∀ v, (fr drawQ (mkB (C131 N) [] [] [] []) 8 93 Try.f93 (instA [.c (.int .i64), .agg [.int .i64, .int .i64, .int .i64, .int .i64, .int .i64]] v)).k (matR [.c (.bool)]) = F_spec_l08Line N v := by
 rintro ⟨bits0, x1c0, x1c1, x1c2, x1c3, x1c4, _⟩; kernel_rfl
noncomputable def C93 (N : Nat) : CL SS := (93, conG [.c (.int .i64), .agg [.int .i64, .int .i64, .int .i64, .int .i64, .int .i64]] [.c (.bool)] (F_spec_l08Line N)) :: C131 N
theorem KC93 (N : Nat) : COk QQ (C93 N) := COk.cons (conP LL DR_ok (KC131 N) (F := []) (J := []) (FGood.nil _) (M := []) (R := []) i93 (JGood.nil c93) (t93 N)) (KC131 N)
noncomputable def c132 : Code := Try.f132.body.getD .skip
theorem i132 : IsF Try.prog 132 Try.f132 c132 := ⟨Try.func132, by kernel_rfl, by kernel_rfl, by kernel_rfl⟩
def F_spec_l00Min (N : Nat) : Int × Int × Unit → Option (Int × Unit)
 | (a0, b1, _) =>
 bif (decide (a0 < b1)) then some (a0, ())
 else some (b1, ())
theorem t132 (N : Nat) : ∀ v, (fr drawQ (mkB (C93 N) [] [] [] []) 8 132 Try.f132 (instA [.c (.int .i64), .c (.int .i64)] v)).k (matR [.c (.int .i64)]) = F_spec_l00Min N v := by
 rintro ⟨a0, b1, _⟩; kernel_rfl
noncomputable def C132 (N : Nat) : CL SS := (132, conG [.c (.int .i64), .c (.int .i64)] [.c (.int .i64)] (F_spec_l00Min N)) :: C93 N
theorem KC132 (N : Nat) : COk QQ (C132 N) := COk.cons (conP LL DR_ok (KC93 N) (F := []) (J := []) (FGood.nil _) (M := []) (R := []) i132 (JGood.nil c132) (t132 N)) (KC93 N)
noncomputable def c94 : Code := Try.f94.body.getD .skip
theorem i94 : IsF Try.prog 94 Try.f94 c94 := ⟨Try.func94, by kernel_rfl, by kernel_rfl, by kernel_rfl⟩
noncomputable def b94_0 : Code := unLoop (blkOf 0 (blks c94))
theorem e94_0 : blkOf 0 (blks c94) = .loop b94_0 := by kernel_rfl
def d_spec_l08Rounds_0 : LoopD := ⟨32, ⟨[(0, .c (.rd 63 [(0, 0)])), (1, .c (.rd 2 [(0, 0)]))], [(0, 0, .ext)], 34⟩, ⟨[(5, .c (.int .i64)), (6, .c (.int .i64))], [], 40⟩, [], [0], [⟨.norm, ⟨[(5, .c (.int .i64))], [], 40⟩, [], [0]⟩]⟩
def n_spec_l08Rounds_0 (N : Nat) : (List (Int × Int × Int × Int × Int)) × List (Int) × Unit → (Int × Int × Unit → Option ((Int × Unit))) → Int × Int × Unit → Option ((Int × Unit))
 | (lines0, open1, _), rec, (product5, k6, _) =>
 bif (decide (k6 < (open1.length : Int))) then bif (decide ((0 : Int) ≤ k6)) then bif (decide (k6 < (open1.length : Int))) then bif (decide ((0 : Int) ≤ (gt open1 k6))) then bif (decide ((gt open1 k6) < (lines0.length : Int))) then bif (decide ((gt lines0 (gt open1 k6)).1 = (5 : Int))) then bif (decide ((0 : Int) ≤ k6)) then bif (decide (k6 < (open1.length : Int))) then bif (decide ((0 : Int) ≤ (gt open1 k6))) then bif (decide ((gt open1 k6) < (lines0.length : Int))) then (F_spec_l00Min N ((IntKind.wrap .i64 (product5 * (gt lines0 (gt open1 k6)).2.2.2.2)), ((65 : Int), ()))).bind fun r97 =>
 rec (r97.1, ((IntKind.wrap .i64 (k6 + (1 : Int))), ()))
 else none
 else none
 else none
 else none
 else rec (product5, ((IntKind.wrap .i64 (k6 + (1 : Int))), ()))
 else none
 else none
 else none
 else none
 else some (product5, ())
theorem s_spec_l08Rounds_0 (N : Nat) : ∀ σ p rec v, stepL (rn drawQ (mkB (C132 N) [] [] [] []) 8 94 b94_0) 0 (wr b94_0) d_spec_l08Rounds_0 (instP σ d_spec_l08Rounds_0.pm p) rec v = n_spec_l08Rounds_0 N p rec v := by
 rintro σ ⟨lines0, open1, _⟩ rec ⟨product5, k6, _⟩; kernel_rfl
noncomputable def g_spec_l08Rounds_0 (N : Nat) : St (Sig.T SS) → Tr (Ex × St (Sig.T SS)) := orcL (wr b94_0) d_spec_l08Rounds_0 fun p => itN (n_spec_l08Rounds_0 N p) N
theorem o_spec_l08Rounds_0 (N : Nat) : Snd QQ (g_spec_l08Rounds_0 N) (.block 0 (blkOf 0 (blks c94))) := loopP LL DR_ok (KC132 N) (F := []) (J := []) (FGood.nil _) (M := []) (R := []) i94 (JGood.nil c94) e94_0 (s_spec_l08Rounds_0 N) N
def F_spec_l08Rounds (N : Nat) : (List (Int × Int × Int × Int × Int)) × List (Int) × Unit → Option (Int × Unit)
 | (lines0, open1, _) =>
 (itN (n_spec_l08Rounds_0 N (lines0, (open1, ()))) N ((1 : Int), ((0 : Int), ()))).bind fun r98 =>
 some (r98.1, ())
theorem t94 (N : Nat) : ∀ v, (fr drawQ (mkB (C132 N) [] [(94, [(0, g_spec_l08Rounds_0 N)])] [] []) 8 94 Try.f94 (instA [.c (.ls 63), .c (.ls 2)] v)).k (matR [.c (.int .i64)]) = F_spec_l08Rounds N v := by
 rintro ⟨lines0, open1, _⟩; kernel_rfl
noncomputable def C94 (N : Nat) : CL SS := (94, conG [.c (.ls 63), .c (.ls 2)] [.c (.int .i64)] (F_spec_l08Rounds N)) :: C132 N
theorem KC94 (N : Nat) : COk QQ (C94 N) := COk.cons (conP LL DR_ok (KC132 N) (F := []) (J := [(94, [(0, g_spec_l08Rounds_0 N)])]) (FGood.nil _) (M := []) (R := []) i94 (JGood.cons i94.hd (o_spec_l08Rounds_0 N) (JGood.nil c94)) (t94 N)) (KC132 N)
noncomputable def c58 : Code := Try.f58.body.getD .skip
theorem i58 : IsF Try.prog 58 Try.f58 c58 := ⟨Try.func58, by kernel_rfl, by kernel_rfl, by kernel_rfl⟩
noncomputable def b58_0 : Code := unLoop (blkOf 0 (blks c58))
theorem e58_0 : blkOf 0 (blks c58) = .loop b58_0 := by kernel_rfl
def d_sP_0 : LoopD := ⟨48, ⟨[(0, .c (.int .i64)), (1, .c (.rd 63 [(0, 0)]))], [(0, 0, .ext)], 207⟩, ⟨[(6, .c (.row 48)), (7, .c (.int .i64))], [(48, .row 2 []), (17, .dead)], 57⟩, [(6, some 2)], [0], [⟨.ret, ⟨[(4, .c (.row 48)), (5, .c (.bool))], [(48, .row 2 []), (17, .dead)], 57⟩, [(4, some 2)], [0]⟩, ⟨.norm, ⟨[(6, .c (.row 48))], [(48, .row 2 []), (17, .dead)], 57⟩, [(6, some 2)], [0]⟩]⟩
def n_sP_0 (N : Nat) : Int × (List (Int × Int × Int × Int × Int)) × Unit → (Int × List (Int) × Unit → Option ((Bool × List (Int) × Unit) ⊕ (List (Int) × Unit))) → Int × List (Int) × Unit → Option ((Bool × List (Int) × Unit) ⊕ (List (Int) × Unit))
 | (bits0, lines1, _), rec, (i7, o48, _) =>
 bif (decide (i7 < (lines1.length : Int))) then bif (decide ((lines1.length : Int) ≤ (24 : Int))) then bif (decide ((0 : Int) ≤ i7)) then bif (decide (i7 < (lines1.length : Int))) then (F_spec_l08Line N (bits0, ((gt lines1 i7).1, ((gt lines1 i7).2.1, ((gt lines1 i7).2.2.1, ((gt lines1 i7).2.2.2.1, ((gt lines1 i7).2.2.2.2, ()))))))).bind fun r99 =>
 bif (!r99.1) then some (.inl (false, (o48, ())))
 else bif (decide (((o48.length + 1) * 8) ≤ 140737488351232)) then rec ((IntKind.wrap .i64 (i7 + (1 : Int))), ((o48 ++ (i7 :: [])), ()))
 else none
 else none
 else none
 else some (.inr (o48, ()))
 else some (.inr (o48, ()))
theorem s_sP_0 (N : Nat) : ∀ σ p rec v, stepL (rn drawQ (mkB (C94 N) [] [] [] []) 8 58 b58_0) 0 (wr b58_0) d_sP_0 (instP σ d_sP_0.pm p) rec v = n_sP_0 N p rec v := by
 rintro σ ⟨bits0, lines1, _⟩ rec ⟨i7, o48, _⟩; kernel_rfl
noncomputable def g_sP_0 (N : Nat) : St (Sig.T SS) → Tr (Ex × St (Sig.T SS)) := orcL (wr b58_0) d_sP_0 fun p => itN (n_sP_0 N p) N
theorem o_sP_0 (N : Nat) : Snd QQ (g_sP_0 N) (.block 0 (blkOf 0 (blks c58))) := loopP LL DR_ok (KC94 N) (F := []) (J := []) (FGood.nil _) (M := []) (R := []) i58 (JGood.nil c58) e58_0 (s_sP_0 N) N
noncomputable def b58_2 : Code := unLoop (blkOf 2 (blks c58))
theorem e58_2 : blkOf 2 (blks c58) = .loop b58_2 := by kernel_rfl
noncomputable def b58_5 : Code := unLoop (blkOf 5 (blks c58))
theorem e58_5 : blkOf 5 (blks c58) = .loop b58_5 := by kernel_rfl
def d_sP_4 : LoopD := ⟨480, ⟨[(6, .c (.row 48)), (10, .c (.row 122)), (11, .c (.int .i64)), (13, .c (.int .i64))], [(122, 120, .deep 29 0 2 [] 120)], 207⟩, ⟨[(14, .c (.int .i64))], [(48, .row 2 [])], 488⟩, [], [48, 122], [⟨.norm, ⟨[], [(48, .row 2 [])], 488⟩, [], [48, 122]⟩]⟩
def n_sP_4 (N : Nat) : Int × Int × List (List (Int)) × Unit → (Int × List (Int) × Unit → Option ((List (Int) × Unit))) → Int × List (Int) × Unit → Option ((List (Int) × Unit))
 | (i11, n13, p122, _), rec, (k14, o48, _) =>
 bif (decide ((0 : Int) ≤ (IntKind.wrap .i64 (n13 - (1 : Int))))) then bif (decide ((IntKind.wrap .i64 (n13 - (1 : Int))) < (p122.length : Int))) then bif (decide (k14 < ((gt p122 (IntKind.wrap .i64 (n13 - (1 : Int)))).length : Int))) then bif (decide ((0 : Int) ≤ (IntKind.wrap .i64 (n13 - (1 : Int))))) then bif (decide ((IntKind.wrap .i64 (n13 - (1 : Int))) < (p122.length : Int))) then bif (decide ((0 : Int) ≤ k14)) then bif (decide (k14 < ((gt p122 (IntKind.wrap .i64 (n13 - (1 : Int)))).length : Int))) then bif (decide ((0 : Int) ≤ (gt (gt p122 (IntKind.wrap .i64 (n13 - (1 : Int)))) k14))) then bif (decide ((gt (gt p122 (IntKind.wrap .i64 (n13 - (1 : Int)))) k14) < (o48.length : Int))) then rec ((IntKind.wrap .i64 (k14 + (1 : Int))), ((o48.set (gt (gt p122 (IntKind.wrap .i64 (n13 - (1 : Int)))) k14).toNat i11), ()))
 else none
 else none
 else none
 else none
 else none
 else none
 else some (o48, ())
 else none
 else none
theorem s_sP_4 (N : Nat) : ∀ σ p rec v, stepL (rn drawQ (mkB (C94 N) [] [(58, [(0, g_sP_0 N)])] [] []) 8 58 b58_5) 5 (wr b58_5) d_sP_4 (instP σ d_sP_4.pm p) rec v = n_sP_4 N p rec v := by
 rintro σ ⟨i11, n13, p122, _⟩ rec ⟨k14, o48, _⟩; kernel_rfl
noncomputable def g_sP_4 (N : Nat) : St (Sig.T SS) → Tr (Ex × St (Sig.T SS)) := orcL (wr b58_5) d_sP_4 fun p => itN (n_sP_4 N p) N
theorem o_sP_4 (N : Nat) : Snd QQ (g_sP_4 N) (.block 5 (blkOf 5 (blks c58))) := loopP LL DR_ok (KC94 N) (F := []) (J := [(58, [(0, g_sP_0 N)])]) (FGood.nil _) (M := []) (R := []) i58 (JGood.cons i58.hd (o_sP_0 N) (JGood.nil c58)) e58_5 (s_sP_4 N) N
noncomputable def b58_7 : Code := unLoop (blkOf 7 (blks c58))
theorem e58_7 : blkOf 7 (blks c58) = .loop b58_7 := by kernel_rfl
def d_sP_5 : LoopD := ⟨352, ⟨[(1, .c (.rd 63 [(0, 0)])), (8, .c (.row 120))], [(120, 120, .row 2 []), (0, 0, .ext)], 207⟩, ⟨[(15, .c (.int .i64))], [], 360⟩, [], [0, 120], [⟨.norm, ⟨[(15, .c (.int .i64))], [], 360⟩, [], [0, 120]⟩]⟩
def n_sP_5 (N : Nat) : (List (Int × Int × Int × Int × Int)) × List (Int) × Unit → (Int × Unit → Option ((Int × Unit))) → Int × Unit → Option ((Int × Unit))
 | (lines1, p120, _), rec, (at15, _) =>
 bif (decide (at15 ≥ (0 : Int))) then bif (decide ((0 : Int) ≤ at15)) then bif (decide (at15 < (p120.length : Int))) then bif (decide ((0 : Int) ≤ (gt p120 at15))) then bif (decide ((gt p120 at15) < (lines1.length : Int))) then bif (!(decide ((gt lines1 (gt p120 at15)).1 = (5 : Int)))) then rec ((IntKind.wrap .i64 (at15 - (1 : Int))), ())
 else some (at15, ())
 else none
 else none
 else none
 else none
 else some (at15, ())
theorem s_sP_5 (N : Nat) : ∀ σ p rec v, stepL (rn drawQ (mkB (C94 N) [] [(58, [(0, g_sP_0 N), (5, g_sP_4 N)])] [] []) 8 58 b58_7) 7 (wr b58_7) d_sP_5 (instP σ d_sP_5.pm p) rec v = n_sP_5 N p rec v := by
 rintro σ ⟨lines1, p120, _⟩ rec ⟨at15, _⟩; kernel_rfl
noncomputable def g_sP_5 (N : Nat) : St (Sig.T SS) → Tr (Ex × St (Sig.T SS)) := orcL (wr b58_7) d_sP_5 fun p => itN (n_sP_5 N p) N
theorem o_sP_5 (N : Nat) : Snd QQ (g_sP_5 N) (.block 7 (blkOf 7 (blks c58))) := loopP LL DR_ok (KC94 N) (F := []) (J := [(58, [(0, g_sP_0 N), (5, g_sP_4 N)])]) (FGood.nil _) (M := []) (R := []) i58 (JGood.cons i58.hd (o_sP_0 N) (JGood.cons i58.hd (o_sP_4 N) (JGood.nil c58))) e58_7 (s_sP_5 N) N
def d_sP_1 : LoopD := ⟨120, ⟨[(1, .c (.rd 63 [(0, 0)])), (6, .c (.row 48))], [(0, 0, .ext)], 207⟩, ⟨[(8, .c (.row 120)), (9, .c (.row 121)), (10, .c (.row 122)), (11, .c (.int .i64))], [(120, .row 2 []), (121, .row 2 []), (122, .deep 29 0 2 [] 120), (48, .row 2 []), (57, .dead), (73, .dead), (89, .dead)], 131⟩, [(8, some 2), (9, some 2), (10, some 29)], [0, 48], [⟨.ret, ⟨[(4, .c (.row 48)), (5, .c (.bool))], [(48, .row 2 []), (57, .dead), (73, .dead), (89, .dead)], 128⟩, [(4, some 2)], [0, 48]⟩, ⟨.norm, ⟨[(8, .c (.row 120))], [(120, .row 2 []), (48, .row 2 []), (57, .dead), (73, .dead), (89, .dead)], 129⟩, [(8, some 2)], [0, 48]⟩]⟩
def n_sP_1 (N : Nat) : (List (Int × Int × Int × Int × Int)) × Unit → (Int × List (Int) × List (Int) × List (List (Int)) × List (Int) × Unit → Option ((Bool × List (Int) × Unit) ⊕ (List (Int) × List (Int) × Unit))) → Int × List (Int) × List (Int) × List (List (Int)) × List (Int) × Unit → Option ((Bool × List (Int) × Unit) ⊕ (List (Int) × List (Int) × Unit))
 | (lines1, _), rec, (i11, o120, o121, o122, o48, _) =>
 bif (decide (i11 < (o48.length : Int))) then bif (decide ((0 : Int) ≤ i11)) then bif (decide (i11 < (lines1.length : Int))) then bif (decide ((gt lines1 i11).1 = (2 : Int))) then bif (decide (((o120.length + 1) * 8) ≤ 140737488351232)) then bif (decide (((o121.length + 1) * 8) ≤ 140737488351232)) then bif (decide (((o122.length + 1) * 24) ≤ 140737488351232)) then bif (decide ((IntKind.wrap .i64 ((o120.length : Int) + (1 : Int))) > (4 : Int))) then some (.inl (false, (o48, ())))
 else (F_spec_l08Rounds N (lines1, ((o120 ++ (i11 :: [])), ()))).bind fun r111 =>
 bif (decide (r111.1 > (64 : Int))) then some (.inl (false, (o48, ())))
 else rec ((IntKind.wrap .i64 (i11 + (1 : Int))), ((o120 ++ (i11 :: [])), ((o121 ++ (i11 :: [])), ((o122 ++ ([] :: [])), (o48, ())))))
 else none
 else none
 else none
 else bif (decide ((gt lines1 i11).1 = (5 : Int))) then bif (decide (((o120.length + 1) * 8) ≤ 140737488351232)) then bif (decide (((o121.length + 1) * 8) ≤ 140737488351232)) then bif (decide (((o122.length + 1) * 24) ≤ 140737488351232)) then bif (decide ((IntKind.wrap .i64 ((o120.length : Int) + (1 : Int))) > (4 : Int))) then some (.inl (false, (o48, ())))
 else (F_spec_l08Rounds N (lines1, ((o120 ++ (i11 :: [])), ()))).bind fun r112 =>
 bif (decide (r112.1 > (64 : Int))) then some (.inl (false, (o48, ())))
 else rec ((IntKind.wrap .i64 (i11 + (1 : Int))), ((o120 ++ (i11 :: [])), ((o121 ++ (i11 :: [])), ((o122 ++ ([] :: [])), (o48, ())))))
 else none
 else none
 else none
 else bif (decide ((gt lines1 i11).1 = (3 : Int))) then bif (decide ((o120.length : Int) = (0 : Int))) then some (.inl (false, (o48, ())))
 else bif (decide ((0 : Int) ≤ (IntKind.wrap .i64 ((o120.length : Int) - (1 : Int))))) then bif (decide ((IntKind.wrap .i64 ((o120.length : Int) - (1 : Int))) < (o121.length : Int))) then bif (decide ((0 : Int) ≤ (gt o121 (IntKind.wrap .i64 ((o120.length : Int) - (1 : Int)))))) then bif (decide ((gt o121 (IntKind.wrap .i64 ((o120.length : Int) - (1 : Int)))) < (lines1.length : Int))) then bif (!(decide ((gt lines1 (gt o121 (IntKind.wrap .i64 ((o120.length : Int) - (1 : Int))))).1 = (2 : Int)))) then some (.inl (false, (o48, ())))
 else bif (decide ((0 : Int) ≤ (IntKind.wrap .i64 ((o120.length : Int) - (1 : Int))))) then bif (decide ((IntKind.wrap .i64 ((o120.length : Int) - (1 : Int))) < (o121.length : Int))) then bif (decide ((0 : Int) ≤ (gt o121 (IntKind.wrap .i64 ((o120.length : Int) - (1 : Int)))))) then bif (decide ((gt o121 (IntKind.wrap .i64 ((o120.length : Int) - (1 : Int)))) < (o48.length : Int))) then bif (decide ((0 : Int) ≤ (IntKind.wrap .i64 ((o120.length : Int) - (1 : Int))))) then bif (decide ((IntKind.wrap .i64 ((o120.length : Int) - (1 : Int))) < (o121.length : Int))) then rec ((IntKind.wrap .i64 (i11 + (1 : Int))), (o120, ((o121.set (IntKind.wrap .i64 ((o120.length : Int) - (1 : Int))).toNat i11), (o122, ((o48.set (gt o121 (IntKind.wrap .i64 ((o120.length : Int) - (1 : Int)))).toNat i11), ())))))
 else none
 else none
 else none
 else none
 else none
 else none
 else none
 else none
 else none
 else none
 else bif (decide ((gt lines1 i11).1 = (4 : Int))) then bif (decide ((o120.length : Int) = (0 : Int))) then some (.inl (false, (o48, ())))
 else bif (decide ((0 : Int) ≤ (IntKind.wrap .i64 ((o120.length : Int) - (1 : Int))))) then bif (decide ((IntKind.wrap .i64 ((o120.length : Int) - (1 : Int))) < (o121.length : Int))) then bif (decide ((0 : Int) ≤ (gt o121 (IntKind.wrap .i64 ((o120.length : Int) - (1 : Int)))))) then bif (decide ((gt o121 (IntKind.wrap .i64 ((o120.length : Int) - (1 : Int)))) < (o48.length : Int))) then bif (decide ((0 : Int) ≤ (IntKind.wrap .i64 ((o120.length : Int) - (1 : Int))))) then bif (decide ((IntKind.wrap .i64 ((o120.length : Int) - (1 : Int))) < (o120.length : Int))) then bif (decide ((0 : Int) ≤ i11)) then bif (decide (i11 < ((o48.set (gt o121 (IntKind.wrap .i64 ((o120.length : Int) - (1 : Int)))).toNat i11).length : Int))) then (itN (n_sP_4 N (i11, ((o120.length : Int), (o122, ())))) N ((0 : Int), (((o48.set (gt o121 (IntKind.wrap .i64 ((o120.length : Int) - (1 : Int)))).toNat i11).set i11.toNat (gt o120 (IntKind.wrap .i64 ((o120.length : Int) - (1 : Int))))), ()))).bind fun r113 =>
 bif (decide ((0 : Int) ≤ (IntKind.wrap .i64 ((o120.length : Int) - (1 : Int))))) then bif (decide ((IntKind.wrap .i64 ((o120.length : Int) - (1 : Int))) ≤ (o120.length : Int))) then bif (decide ((0 : Int) ≤ (IntKind.wrap .i64 ((o120.length : Int) - (1 : Int))))) then bif (decide ((IntKind.wrap .i64 ((o120.length : Int) - (1 : Int))) ≤ (o121.length : Int))) then bif (decide ((0 : Int) ≤ (IntKind.wrap .i64 ((o120.length : Int) - (1 : Int))))) then bif (decide ((IntKind.wrap .i64 ((o120.length : Int) - (1 : Int))) ≤ (o122.length : Int))) then rec ((IntKind.wrap .i64 (i11 + (1 : Int))), ((o120.take (IntKind.wrap .i64 ((o120.length : Int) - (1 : Int))).toNat), ((o121.take (IntKind.wrap .i64 ((o120.length : Int) - (1 : Int))).toNat), ((o122.take (IntKind.wrap .i64 ((o120.length : Int) - (1 : Int))).toNat), (r113.1, ())))))
 else none
 else none
 else none
 else none
 else none
 else none
 else none
 else none
 else none
 else none
 else none
 else none
 else none
 else none
 else bif (decide ((gt lines1 i11).1 = (6 : Int))) then (itN (n_sP_5 N (lines1, (o120, ()))) N ((IntKind.wrap .i64 ((o120.length : Int) - (1 : Int))), ())).bind fun r114 =>
 bif (decide (r114.1 < (0 : Int))) then some (.inl (false, (o48, ())))
 else bif (decide ((0 : Int) ≤ r114.1)) then bif (decide (r114.1 < (o122.length : Int))) then bif (decide ((((gt o122 r114.1).length + 1) * 8) ≤ 140737488351232)) then bif (decide ((0 : Int) ≤ r114.1)) then bif (decide (r114.1 < (o122.length : Int))) then bif (decide (r114.1 = r114.1)) then rec ((IntKind.wrap .i64 (i11 + (1 : Int))), (o120, (o121, ((o122.set r114.1.toNat ((gt o122 r114.1) ++ (i11 :: []))), (o48, ())))))
 else none
 else none
 else none
 else none
 else none
 else none
 else rec ((IntKind.wrap .i64 (i11 + (1 : Int))), (o120, (o121, (o122, (o48, ())))))
 else none
 else none
 else some (.inr (o120, (o48, ())))
theorem s_sP_1 (N : Nat) : ∀ σ p rec v, stepL (rn drawQ (mkB (C94 N) [] [(58, [(0, g_sP_0 N), (5, g_sP_4 N), (7, g_sP_5 N)])] [] []) 8 58 b58_2) 2 (wr b58_2) d_sP_1 (instP σ d_sP_1.pm p) rec v = n_sP_1 N p rec v := by
 rintro σ ⟨lines1, _⟩ rec ⟨i11, o120, o121, o122, o48, _⟩; kernel_rfl
noncomputable def g_sP_1 (N : Nat) : St (Sig.T SS) → Tr (Ex × St (Sig.T SS)) := orcL (wr b58_2) d_sP_1 fun p => itN (n_sP_1 N p) N
theorem o_sP_1 (N : Nat) : Snd QQ (g_sP_1 N) (.block 2 (blkOf 2 (blks c58))) := loopP LL DR_ok (KC94 N) (F := []) (J := [(58, [(0, g_sP_0 N), (5, g_sP_4 N), (7, g_sP_5 N)])]) (FGood.nil _) (M := []) (R := []) i58 (JGood.cons i58.hd (o_sP_0 N) (JGood.cons i58.hd (o_sP_4 N) (JGood.cons i58.hd (o_sP_5 N) (JGood.nil c58)))) e58_2 (s_sP_1 N) N
def F_sP (N : Nat) : Int × (List (Int × Int × Int × Int × Int)) × Unit → Option (List (Int) × Bool × Unit)
 | (bits0, lines1, _) =>
 (itN (n_sP_0 N (bits0, (lines1, ()))) N ((0 : Int), ([], ()))).bind fun r115 =>
 bif r115.isLeft then r115.getLeft?.bind fun r116 =>
 some (r116.2.1, (r116.1, ()))
 else r115.getRight?.bind fun r117 =>
 (itN (n_sP_1 N (lines1, ())) N ((0 : Int), ([], ([], ([], (r117.1, ())))))).bind fun r118 =>
 bif r118.isLeft then r118.getLeft?.bind fun r119 =>
 some (r119.2.1, (r119.1, ()))
 else r118.getRight?.bind fun r120 =>
 bif (decide ((r120.1.length : Int) = (0 : Int))) then some (r120.2.1, ((decide ((lines1.length : Int) ≤ (24 : Int))), ()))
 else some (r120.2.1, (false, ()))
theorem t58 (N : Nat) : ∀ v, (fr drawQ (mkB (C94 N) [] [(58, [(0, g_sP_0 N), (5, g_sP_4 N), (7, g_sP_5 N), (2, g_sP_1 N)])] [] []) 8 58 Try.f58 (instA [.c (.int .i64), .c (.ls 63)] v)).k (matR [.c (.ls 2), .c (.bool)]) = F_sP N v := by
 rintro ⟨bits0, lines1, _⟩; kernel_rfl
noncomputable def C58 (N : Nat) : CL SS := (58, conG [.c (.int .i64), .c (.ls 63)] [.c (.ls 2), .c (.bool)] (F_sP N)) :: C94 N
theorem KC58 (N : Nat) : COk QQ (C58 N) := COk.cons (conP LL DR_ok (KC94 N) (F := []) (J := [(58, [(0, g_sP_0 N), (5, g_sP_4 N), (7, g_sP_5 N), (2, g_sP_1 N)])]) (FGood.nil _) (M := []) (R := []) i58 (JGood.cons i58.hd (o_sP_0 N) (JGood.cons i58.hd (o_sP_4 N) (JGood.cons i58.hd (o_sP_5 N) (JGood.cons i58.hd (o_sP_1 N) (JGood.nil c58))))) (t58 N)) (KC94 N)
noncomputable def c53 : Code := Try.f53.body.getD .skip
theorem i53 : IsF Try.prog 53 Try.f53 c53 := ⟨Try.func53, by kernel_rfl, by kernel_rfl, by kernel_rfl⟩
def F_spec_l08Is (N : Nat) : Int × (List (Int × Int × Int × Int × Int)) × Unit → Option (Bool × Unit)
 | (bits0, lines1, _) =>
 (F_sP N (bits0, (lines1, ()))).bind fun r121 =>
 (F_spec_l01Bits N (bits0, ())).bind fun r122 =>
 bif r122.1 then some (r121.2.1, ())
 else some (false, ())
theorem t53 (N : Nat) : ∀ v, (fr drawQ (mkB (C58 N) [] [] [] []) 8 53 Try.f53 (instA [.c (.int .i64), .c (.ls 63)] v)).k (matR [.c (.bool)]) = F_spec_l08Is N v := by
 rintro ⟨bits0, lines1, _⟩; kernel_rfl
noncomputable def C53 (N : Nat) : CL SS := (53, conG [.c (.int .i64), .c (.ls 63)] [.c (.bool)] (F_spec_l08Is N)) :: C58 N
theorem KC53 (N : Nat) : COk QQ (C53 N) := COk.cons (conP LL DR_ok (KC58 N) (F := []) (J := []) (FGood.nil _) (M := []) (R := []) i53 (JGood.nil c53) (t53 N)) (KC58 N)
noncomputable def c88 : Code := Try.f88.body.getD .skip
theorem i88 : IsF Try.prog 88 Try.f88 c88 := ⟨Try.func88, by kernel_rfl, by kernel_rfl, by kernel_rfl⟩
noncomputable def b88_0 : Code := unLoop (blkOf 0 (blks c88))
theorem e88_0 : blkOf 0 (blks c88) = .loop b88_0 := by kernel_rfl
def d_spec_l08Many_0 : LoopD := ⟨24, ⟨[(0, .c (.int .i64)), (2, .c (.rd 29 [(0, 0)]))], [(0, 0, .ext)], 34⟩, ⟨[(7, .c (.int .i64))], [], 32⟩, [], [0], [⟨.ret, ⟨[(6, .c (.bool))], [], 32⟩, [], [0]⟩, ⟨.norm, ⟨[], [], 32⟩, [], [0]⟩]⟩
def n_spec_l08Many_0 (N : Nat) : Int × List (List (Int)) × Unit → (Int × Unit → Option ((Bool × Unit) ⊕ (Unit))) → Int × Unit → Option ((Bool × Unit) ⊕ (Unit))
 | (bits0, vars2, _), rec, (i7, _) =>
 bif (decide (i7 < (vars2.length : Int))) then bif (decide ((vars2.length : Int) ≤ (16 : Int))) then bif (decide ((0 : Int) ≤ i7)) then bif (decide (i7 < (vars2.length : Int))) then (F_spec_l08Vars N (bits0, ((gt vars2 i7), ()))).bind fun r123 =>
 bif (!r123.1) then some (.inl (false, ()))
 else rec ((IntKind.wrap .i64 (i7 + (1 : Int))), ())
 else none
 else none
 else some (.inr ())
 else some (.inr ())
theorem s_spec_l08Many_0 (N : Nat) : ∀ σ p rec v, stepL (rn drawQ (mkB (C53 N) [] [] [] []) 8 88 b88_0) 0 (wr b88_0) d_spec_l08Many_0 (instP σ d_spec_l08Many_0.pm p) rec v = n_spec_l08Many_0 N p rec v := by
 rintro σ ⟨bits0, vars2, _⟩ rec ⟨i7, _⟩; kernel_rfl
noncomputable def g_spec_l08Many_0 (N : Nat) : St (Sig.T SS) → Tr (Ex × St (Sig.T SS)) := orcL (wr b88_0) d_spec_l08Many_0 fun p => itN (n_spec_l08Many_0 N p) N
theorem o_spec_l08Many_0 (N : Nat) : Snd QQ (g_spec_l08Many_0 N) (.block 0 (blkOf 0 (blks c88))) := loopP LL DR_ok (KC53 N) (F := []) (J := []) (FGood.nil _) (M := []) (R := []) i88 (JGood.nil c88) e88_0 (s_spec_l08Many_0 N) N
def F_spec_l08Many (N : Nat) : Int × (List (Int × Int × Int × Int × Int)) × List (List (Int)) × Unit → Option (Bool × Unit)
 | (bits0, lines1, vars2, _) =>
 (itN (n_spec_l08Many_0 N (bits0, (vars2, ()))) N ((0 : Int), ())).bind fun r124 =>
 bif r124.isLeft then r124.getLeft?.bind fun r125 =>
 some (r125.1, ())
 else r124.getRight?.bind fun r126 =>
 (F_spec_l08Is N (bits0, (lines1, ()))).bind fun r127 =>
 bif r127.1 then (F_spec_l00In N ((vars2.length : Int), ((1 : Int), ((16 : Int), ())))).bind fun r128 =>
 some (r128.1, ())
 else some (false, ())
theorem t88 (N : Nat) : ∀ v, (fr drawQ (mkB (C53 N) [] [(88, [(0, g_spec_l08Many_0 N)])] [] []) 8 88 Try.f88 (instA [.c (.int .i64), .c (.ls 63), .c (.ls 29)] v)).k (matR [.c (.bool)]) = F_spec_l08Many N v := by
 rintro ⟨bits0, lines1, vars2, _⟩; kernel_rfl
noncomputable def C88 (N : Nat) : CL SS := (88, conG [.c (.int .i64), .c (.ls 63), .c (.ls 29)] [.c (.bool)] (F_spec_l08Many N)) :: C53 N
theorem KC88 (N : Nat) : COk QQ (C88 N) := COk.cons (conP LL DR_ok (KC53 N) (F := []) (J := [(88, [(0, g_spec_l08Many_0 N)])]) (FGood.nil _) (M := []) (R := []) i88 (JGood.cons i88.hd (o_spec_l08Many_0 N) (JGood.nil c88)) (t88 N)) (KC53 N)
noncomputable def c96 : Code := Try.f96.body.getD .skip
theorem i96 : IsF Try.prog 96 Try.f96 c96 := ⟨Try.func96, by kernel_rfl, by kernel_rfl, by kernel_rfl⟩
def F_spec_l00Own (N : Nat) : List (Int) × Unit → Option (List (Int) × Unit)
 | (list0, _) =>
 bif (decide (((0 + list0.length) * 8) ≤ 140737488351232)) then some (list0, ())
 else none
theorem t96 (N : Nat) : ∀ v, (fr drawQ (mkB (C88 N) [] [] [] []) 8 96 Try.f96 (instA [.c (.ls 2)] v)).k (matR [.c (.ls 2)]) = F_spec_l00Own N v := by
 rintro ⟨list0, _⟩; kernel_rfl
noncomputable def C96 (N : Nat) : CL SS := (96, conG [.c (.ls 2)] [.c (.ls 2)] (F_spec_l00Own N)) :: C88 N
theorem KC96 (N : Nat) : COk QQ (C96 N) := COk.cons (conP LL DR_ok (KC88 N) (F := []) (J := []) (FGood.nil _) (M := []) (R := []) i96 (JGood.nil c96) (t96 N)) (KC88 N)
noncomputable def c124 : Code := Try.f124.body.getD .skip
theorem i124 : IsF Try.prog 124 Try.f124 c124 := ⟨Try.func124, by kernel_rfl, by kernel_rfl, by kernel_rfl⟩
noncomputable def b124_0 : Code := unLoop (blkOf 0 (blks c124))
theorem e124_0 : blkOf 0 (blks c124) = .loop b124_0 := by kernel_rfl
def d_spec_l08Any_0 : LoopD := ⟨24, ⟨[(0, .c (.rd 4 [(0, 0)]))], [(0, 0, .ext)], 14⟩, ⟨[(3, .c (.int .i64))], [], 32⟩, [], [0], [⟨.ret, ⟨[(2, .c (.bool))], [], 32⟩, [], [0]⟩, ⟨.norm, ⟨[], [], 32⟩, [], [0]⟩]⟩
def n_spec_l08Any_0 (N : Nat) : List (Bool) × Unit → (Int × Unit → Option ((Bool × Unit) ⊕ (Unit))) → Int × Unit → Option ((Bool × Unit) ⊕ (Unit))
 | (on0, _), rec, (i3, _) =>
 bif (decide (i3 < (on0.length : Int))) then bif (decide ((0 : Int) ≤ i3)) then bif (decide (i3 < (on0.length : Int))) then bif (gt on0 i3) then some (.inl (true, ()))
 else rec ((IntKind.wrap .i64 (i3 + (1 : Int))), ())
 else none
 else none
 else some (.inr ())
theorem s_spec_l08Any_0 (N : Nat) : ∀ σ p rec v, stepL (rn drawQ (mkB (C96 N) [] [] [] []) 8 124 b124_0) 0 (wr b124_0) d_spec_l08Any_0 (instP σ d_spec_l08Any_0.pm p) rec v = n_spec_l08Any_0 N p rec v := by
 rintro σ ⟨on0, _⟩ rec ⟨i3, _⟩; kernel_rfl
noncomputable def g_spec_l08Any_0 (N : Nat) : St (Sig.T SS) → Tr (Ex × St (Sig.T SS)) := orcL (wr b124_0) d_spec_l08Any_0 fun p => itN (n_spec_l08Any_0 N p) N
theorem o_spec_l08Any_0 (N : Nat) : Snd QQ (g_spec_l08Any_0 N) (.block 0 (blkOf 0 (blks c124))) := loopP LL DR_ok (KC96 N) (F := []) (J := []) (FGood.nil _) (M := []) (R := []) i124 (JGood.nil c124) e124_0 (s_spec_l08Any_0 N) N
def F_spec_l08Any (N : Nat) : List (Bool) × Unit → Option (Bool × Unit)
 | (on0, _) =>
 (itN (n_spec_l08Any_0 N (on0, ())) N ((0 : Int), ())).bind fun r129 =>
 bif r129.isLeft then r129.getLeft?.bind fun r130 =>
 some (r130.1, ())
 else r129.getRight?.bind fun r131 =>
 some (false, ())
theorem t124 (N : Nat) : ∀ v, (fr drawQ (mkB (C96 N) [] [(124, [(0, g_spec_l08Any_0 N)])] [] []) 8 124 Try.f124 (instA [.c (.ls 4)] v)).k (matR [.c (.bool)]) = F_spec_l08Any N v := by
 rintro ⟨on0, _⟩; kernel_rfl
noncomputable def C124 (N : Nat) : CL SS := (124, conG [.c (.ls 4)] [.c (.bool)] (F_spec_l08Any N)) :: C96 N
theorem KC124 (N : Nat) : COk QQ (C124 N) := COk.cons (conP LL DR_ok (KC96 N) (F := []) (J := [(124, [(0, g_spec_l08Any_0 N)])]) (FGood.nil _) (M := []) (R := []) i124 (JGood.cons i124.hd (o_spec_l08Any_0 N) (JGood.nil c124)) (t124 N)) (KC96 N)
noncomputable def c134 : Code := Try.f134.body.getD .skip
theorem i134 : IsF Try.prog 134 Try.f134 c134 := ⟨Try.func134, by kernel_rfl, by kernel_rfl, by kernel_rfl⟩
def F_spec_l01Signed (N : Nat) : Int × Int × Unit → Option (Int × Unit)
 | (bits0, x1, _) =>
 bif (decide ((0 : Int) ≤ (IntKind.wrap .u64 (IntKind.wrap .i64 (bits0 - (1 : Int)))))) then bif (decide ((shrI .i64 x1 (IntKind.wrap .u64 (IntKind.wrap .i64 (bits0 - (1 : Int))))) = (1 : Int))) then bif (decide ((0 : Int) ≤ (IntKind.wrap .u64 bits0))) then some ((IntKind.wrap .i64 (x1 - (shlI .i64 (1 : Int) (IntKind.wrap .u64 bits0)))), ())
 else none
 else some (x1, ())
 else none
theorem t134 (N : Nat) : ∀ v, (fr drawQ (mkB (C124 N) [] [] [] []) 8 134 Try.f134 (instA [.c (.int .i64), .c (.int .i64)] v)).k (matR [.c (.int .i64)]) = F_spec_l01Signed N v := by
 rintro ⟨bits0, x1, _⟩; kernel_rfl
noncomputable def C134 (N : Nat) : CL SS := (134, conG [.c (.int .i64), .c (.int .i64)] [.c (.int .i64)] (F_spec_l01Signed N)) :: C124 N
theorem KC134 (N : Nat) : COk QQ (C134 N) := COk.cons (conP LL DR_ok (KC124 N) (F := []) (J := []) (FGood.nil _) (M := []) (R := []) i134 (JGood.nil c134) (t134 N)) (KC124 N)
noncomputable def c135 : Code := Try.f135.body.getD .skip
theorem i135 : IsF Try.prog 135 Try.f135 c135 := ⟨Try.func135, by kernel_rfl, by kernel_rfl, by kernel_rfl⟩
def F_spec_l01Wrap (N : Nat) : Int × Int × Unit → Option (Int × Unit)
 | (bits0, n1, _) =>
 bif (decide ((0 : Int) ≤ (IntKind.wrap .u64 bits0))) then some ((andI .i64 n1 (IntKind.wrap .i64 ((shlI .i64 (1 : Int) (IntKind.wrap .u64 bits0)) - (1 : Int)))), ())
 else none
theorem t135 (N : Nat) : ∀ v, (fr drawQ (mkB (C134 N) [] [] [] []) 8 135 Try.f135 (instA [.c (.int .i64), .c (.int .i64)] v)).k (matR [.c (.int .i64)]) = F_spec_l01Wrap N v := by
 rintro ⟨bits0, n1, _⟩; kernel_rfl
noncomputable def C135 (N : Nat) : CL SS := (135, conG [.c (.int .i64), .c (.int .i64)] [.c (.int .i64)] (F_spec_l01Wrap N)) :: C134 N
theorem KC135 (N : Nat) : COk QQ (C135 N) := COk.cons (conP LL DR_ok (KC134 N) (F := []) (J := []) (FGood.nil _) (M := []) (R := []) i135 (JGood.nil c135) (t135 N)) (KC134 N)
noncomputable def c136 : Code := Try.f136.body.getD .skip
theorem i136 : IsF Try.prog 136 Try.f136 c136 := ⟨Try.func136, by kernel_rfl, by kernel_rfl, by kernel_rfl⟩
def F_spec_l00Max (N : Nat) : Int × Int × Unit → Option (Int × Unit)
 | (a0, b1, _) =>
 bif (decide (a0 > b1)) then some (a0, ())
 else some (b1, ())
theorem t136 (N : Nat) : ∀ v, (fr drawQ (mkB (C135 N) [] [] [] []) 8 136 Try.f136 (instA [.c (.int .i64), .c (.int .i64)] v)).k (matR [.c (.int .i64)]) = F_spec_l00Max N v := by
 rintro ⟨a0, b1, _⟩; kernel_rfl
noncomputable def C136 (N : Nat) : CL SS := (136, conG [.c (.int .i64), .c (.int .i64)] [.c (.int .i64)] (F_spec_l00Max N)) :: C135 N
theorem KC136 (N : Nat) : COk QQ (C136 N) := COk.cons (conP LL DR_ok (KC135 N) (F := []) (J := []) (FGood.nil _) (M := []) (R := []) i136 (JGood.nil c136) (t136 N)) (KC135 N)
noncomputable def c137 : Code := Try.f137.body.getD .skip
theorem i137 : IsF Try.prog 137 Try.f137 c137 := ⟨Try.func137, by kernel_rfl, by kernel_rfl, by kernel_rfl⟩
def F_spec_l01Between (N : Nat) : Int × Int × Int × Unit → Option (Int × Unit)
 | (n0, low1, high2, _) =>
 (F_spec_l00Max N (low1, (n0, ()))).bind fun r132 =>
 (F_spec_l00Min N (high2, (r132.1, ()))).bind fun r133 =>
 some (r133.1, ())
theorem t137 (N : Nat) : ∀ v, (fr drawQ (mkB (C136 N) [] [] [] []) 8 137 Try.f137 (instA [.c (.int .i64), .c (.int .i64), .c (.int .i64)] v)).k (matR [.c (.int .i64)]) = F_spec_l01Between N v := by
 rintro ⟨n0, low1, high2, _⟩; kernel_rfl
noncomputable def C137 (N : Nat) : CL SS := (137, conG [.c (.int .i64), .c (.int .i64), .c (.int .i64)] [.c (.int .i64)] (F_spec_l01Between N)) :: C136 N
theorem KC137 (N : Nat) : COk QQ (C137 N) := COk.cons (conP LL DR_ok (KC136 N) (F := []) (J := []) (FGood.nil _) (M := []) (R := []) i137 (JGood.nil c137) (t137 N)) (KC136 N)
noncomputable def c97 : Code := Try.f97.body.getD .skip
theorem i97 : IsF Try.prog 97 Try.f97 c97 := ⟨Try.func97, by kernel_rfl, by kernel_rfl, by kernel_rfl⟩
def F_spec_l01Do (N : Nat) : Int × Int × Int × Int × Unit → Option (Int × Unit)
 | (op0, bits1, a2, b3, _) =>
 bif (decide ((0 : Int) ≤ (IntKind.wrap .u64 bits1))) then bif (decide ((0 : Int) ≤ (IntKind.wrap .u64 (IntKind.wrap .i64 (bits1 - (1 : Int)))))) then (F_spec_l01Signed N (bits1, (a2, ()))).bind fun r134 =>
 (F_spec_l01Signed N (bits1, (b3, ()))).bind fun r135 =>
 bif (decide (bits1 = (0 : Int))) then none
 else bif (decide (op0 = (0 : Int))) then (F_spec_l01Wrap N (bits1, ((IntKind.wrap .i64 (a2 + b3)), ()))).bind fun r136 =>
 some (r136.1, ())
 else bif (decide (op0 = (1 : Int))) then (F_spec_l01Wrap N (bits1, ((IntKind.wrap .i64 (a2 - b3)), ()))).bind fun r137 =>
 some (r137.1, ())
 else bif (decide (op0 = (2 : Int))) then (F_spec_l01Wrap N (bits1, ((IntKind.wrap .i64 (a2 * b3)), ()))).bind fun r138 =>
 some (r138.1, ())
 else bif (decide (op0 = (3 : Int))) then some ((andI .i64 a2 b3), ())
 else bif (decide (op0 = (4 : Int))) then some ((orI .i64 a2 b3), ())
 else bif (decide (op0 = (5 : Int))) then some ((xorI .i64 a2 b3), ())
 else bif (decide (op0 = (6 : Int))) then (F_spec_l00Min N (a2, (b3, ()))).bind fun r139 =>
 some (r139.1, ())
 else bif (decide (op0 = (7 : Int))) then (F_spec_l00Max N (a2, (b3, ()))).bind fun r140 =>
 some (r140.1, ())
 else bif (decide (op0 = (8 : Int))) then (F_spec_l00Min N (r134.1, (r135.1, ()))).bind fun r141 =>
 (F_spec_l01Wrap N (bits1, (r141.1, ()))).bind fun r142 =>
 some (r142.1, ())
 else bif (decide (op0 = (9 : Int))) then (F_spec_l00Max N (r134.1, (r135.1, ()))).bind fun r143 =>
 (F_spec_l01Wrap N (bits1, (r143.1, ()))).bind fun r144 =>
 some (r144.1, ())
 else bif (decide (op0 = (10 : Int))) then (F_spec_l00Min N ((IntKind.wrap .i64 (a2 + b3)), ((IntKind.wrap .i64 ((shlI .i64 (1 : Int) (IntKind.wrap .u64 bits1)) - (1 : Int))), ()))).bind fun r145 =>
 some (r145.1, ())
 else bif (decide (op0 = (11 : Int))) then (F_spec_l01Between N ((IntKind.wrap .i64 (r134.1 + r135.1)), ((IntKind.wrap .i64 ((0 : Int) - (shlI .i64 (1 : Int) (IntKind.wrap .u64 (IntKind.wrap .i64 (bits1 - (1 : Int))))))), ((IntKind.wrap .i64 ((shlI .i64 (1 : Int) (IntKind.wrap .u64 (IntKind.wrap .i64 (bits1 - (1 : Int))))) - (1 : Int))), ())))).bind fun r146 =>
 (F_spec_l01Wrap N (bits1, (r146.1, ()))).bind fun r147 =>
 some (r147.1, ())
 else bif (decide (op0 = (12 : Int))) then (F_spec_l00Max N ((IntKind.wrap .i64 (a2 - b3)), ((0 : Int), ()))).bind fun r148 =>
 some (r148.1, ())
 else bif (decide (op0 = (13 : Int))) then (F_spec_l01Between N ((IntKind.wrap .i64 (r134.1 - r135.1)), ((IntKind.wrap .i64 ((0 : Int) - (shlI .i64 (1 : Int) (IntKind.wrap .u64 (IntKind.wrap .i64 (bits1 - (1 : Int))))))), ((IntKind.wrap .i64 ((shlI .i64 (1 : Int) (IntKind.wrap .u64 (IntKind.wrap .i64 (bits1 - (1 : Int))))) - (1 : Int))), ())))).bind fun r149 =>
 (F_spec_l01Wrap N (bits1, (r149.1, ()))).bind fun r150 =>
 some (r150.1, ())
 else bif (decide (op0 = (14 : Int))) then some ((IntKind.wrap .i64 (Int.tdiv (IntKind.wrap .i64 ((IntKind.wrap .i64 (a2 + b3)) + (1 : Int))) (2 : Int))), ())
 else bif (decide (op0 = (15 : Int))) then bif (decide ((0 : Int) ≤ (IntKind.wrap .u64 (Int.tmod b3 bits1)))) then (F_spec_l01Wrap N (bits1, ((shlI .i64 a2 (IntKind.wrap .u64 (Int.tmod b3 bits1))), ()))).bind fun r151 =>
 some (r151.1, ())
 else none
 else bif (decide (op0 = (16 : Int))) then bif (decide ((0 : Int) ≤ (IntKind.wrap .u64 (Int.tmod b3 bits1)))) then some ((shrI .i64 a2 (IntKind.wrap .u64 (Int.tmod b3 bits1))), ())
 else none
 else bif (decide ((0 : Int) ≤ (IntKind.wrap .u64 (Int.tmod b3 bits1)))) then (F_spec_l01Wrap N (bits1, ((shrI .i64 r134.1 (IntKind.wrap .u64 (Int.tmod b3 bits1))), ()))).bind fun r152 =>
 some (r152.1, ())
 else none
 else none
 else none
theorem t97 (N : Nat) : ∀ v, (fr drawQ (mkB (C137 N) [] [] [] []) 8 97 Try.f97 (instA [.c (.int .i64), .c (.int .i64), .c (.int .i64), .c (.int .i64)] v)).k (matR [.c (.int .i64)]) = F_spec_l01Do N v := by
 rintro ⟨op0, bits1, a2, b3, _⟩; kernel_rfl
noncomputable def C97 (N : Nat) : CL SS := (97, conG [.c (.int .i64), .c (.int .i64), .c (.int .i64), .c (.int .i64)] [.c (.int .i64)] (F_spec_l01Do N)) :: C137 N
theorem KC97 (N : Nat) : COk QQ (C97 N) := COk.cons (conP LL DR_ok (KC137 N) (F := []) (J := []) (FGood.nil _) (M := []) (R := []) i97 (JGood.nil c97) (t97 N)) (KC137 N)
noncomputable def c98 : Code := Try.f98.body.getD .skip
theorem i98 : IsF Try.prog 98 Try.f98 c98 := ⟨Try.func98, by kernel_rfl, by kernel_rfl, by kernel_rfl⟩
def F_spec_l01Test (N : Nat) : Int × Int × Int × Int × Unit → Option (Bool × Unit)
 | (cmp0, bits1, a2, b3, _) =>
 (F_spec_l01Signed N (bits1, (a2, ()))).bind fun r153 =>
 (F_spec_l01Signed N (bits1, (b3, ()))).bind fun r154 =>
 bif (decide (cmp0 = (0 : Int))) then some ((decide (a2 = b3)), ())
 else bif (decide (cmp0 = (1 : Int))) then some ((!(decide (a2 = b3))), ())
 else bif (decide (cmp0 = (2 : Int))) then some ((decide (a2 < b3)), ())
 else bif (decide (cmp0 = (3 : Int))) then some ((decide (a2 ≤ b3)), ())
 else bif (decide (cmp0 = (4 : Int))) then some ((decide (r153.1 < r154.1)), ())
 else some ((decide (r153.1 ≤ r154.1)), ())
theorem t98 (N : Nat) : ∀ v, (fr drawQ (mkB (C97 N) [] [] [] []) 8 98 Try.f98 (instA [.c (.int .i64), .c (.int .i64), .c (.int .i64), .c (.int .i64)] v)).k (matR [.c (.bool)]) = F_spec_l01Test N v := by
 rintro ⟨cmp0, bits1, a2, b3, _⟩; kernel_rfl
noncomputable def C98 (N : Nat) : CL SS := (98, conG [.c (.int .i64), .c (.int .i64), .c (.int .i64), .c (.int .i64)] [.c (.bool)] (F_spec_l01Test N)) :: C97 N
theorem KC98 (N : Nat) : COk QQ (C98 N) := COk.cons (conP LL DR_ok (KC97 N) (F := []) (J := []) (FGood.nil _) (M := []) (R := []) i98 (JGood.nil c98) (t98 N)) (KC97 N)
noncomputable def c90 : Code := Try.f90.body.getD .skip
theorem i90 : IsF Try.prog 90 Try.f90 c90 := ⟨Try.func90, by kernel_rfl, by kernel_rfl, by kernel_rfl⟩
noncomputable def b90_0 : Code := unLoop (blkOf 0 (blks c90))
theorem e90_0 : blkOf 0 (blks c90) = .loop b90_0 := by kernel_rfl
def d_sM0 : LoopD := ⟨168, ⟨[(2, .c (.rd 29 [(0, 0)])), (11, .c (.int .i64)), (13, .c (.row 137))], [(0, 0, .ext)], 407⟩, ⟨[(12, .c (.row 168)), (14, .c (.int .i64))], [(168, .deep 29 0 2 [] 168), (137, .row 4 []), (113, .dead)], 177⟩, [(12, some 29)], [0, 137], [⟨.norm, ⟨[(12, .c (.row 168))], [(168, .deep 29 0 2 [] 168), (137, .row 4 []), (113, .dead)], 177⟩, [(12, some 29)], [0, 137]⟩]⟩
def n_sM0 (N : Nat) : List (List (Int)) × Int × Unit → (Int × List (List (Int)) × List (Bool) × Unit → Option ((List (List (Int)) × List (Bool) × Unit))) → Int × List (List (Int)) × List (Bool) × Unit → Option ((List (List (Int)) × List (Bool) × Unit))
 | (vars2, n11, _), rec, (k14, o168, o137, _) =>
 bif (decide (k14 < n11)) then bif (decide ((0 : Int) ≤ k14)) then bif (decide (k14 < (vars2.length : Int))) then (F_spec_l00Own N ((gt vars2 k14), ())).bind fun r157 =>
 bif (decide (((o168.length + 1) * 24) ≤ 140737488351232)) then bif (decide ((0 : Int) ≤ k14)) then bif (decide (k14 < (o137.length : Int))) then rec ((IntKind.wrap .i64 (k14 + (1 : Int))), ((o168 ++ (r157.1 :: [])), ((o137.set k14.toNat true), ())))
 else none
 else none
 else none
 else none
 else none
 else some (o168, (o137, ()))
theorem s_sM0 (N : Nat) : ∀ σ p rec v, stepL (rn drawQ (mkB (C98 N) [] [] [] []) 8 90 b90_0) 0 (wr b90_0) d_sM0 (instP σ d_sM0.pm p) rec v = n_sM0 N p rec v := by
 rintro σ ⟨vars2, n11, _⟩ rec ⟨k14, o168, o137, _⟩; kernel_rfl
noncomputable def g_sM0 (N : Nat) : St (Sig.T SS) → Tr (Ex × St (Sig.T SS)) := orcL (wr b90_0) d_sM0 fun p => itN (n_sM0 N p) N
theorem o_sM0 (N : Nat) : Snd QQ (g_sM0 N) (.block 0 (blkOf 0 (blks c90))) := loopP LL DR_ok (KC98 N) (F := []) (J := []) (FGood.nil _) (M := []) (R := []) i90 (JGood.nil c90) e90_0 (s_sM0 N) N
noncomputable def b90_2 : Code := unLoop (blkOf 2 (blks c90))
theorem e90_2 : blkOf 2 (blks c90) = .loop b90_2 := by kernel_rfl
noncomputable def b90_5 : Code := unLoop (blkOf 5 (blks c90))
theorem e90_5 : blkOf 5 (blks c90) = .loop b90_5 := by kernel_rfl
def d_sM12 : LoopD := ⟨424, ⟨[(0, .c (.int .i64)), (11, .c (.int .i64)), (12, .c (.row 168)), (13, .c (.row 137)), (20, .c (.ptr 321 0))], [(321, 329, .var 63 [.int .i64, .int .i64, .int .i64, .int .i64, .int .i64]), (137, 248, .row 4 [])], 407⟩, ⟨[(18, .c (.int .i64)), (21, .c (.int .i64))], [(168, .deep 29 0 2 [] 168)], 432⟩, [], [168, 137, 321], [⟨.norm, ⟨[(18, .c (.int .i64))], [(168, .deep 29 0 2 [] 168)], 432⟩, [], [168, 137, 321]⟩]⟩
def n_sM12 (N : Nat) : Int × Int × Int × Int × Int × Int × Int × List (Bool) × Unit → (Int × Int × List (List (Int)) × Unit → Option ((Int × List (List (Int)) × Unit))) → Int × Int × List (List (Int)) × Unit → Option ((Int × List (List (Int)) × Unit))
 | (bits0, n11, p321, p321c1, p321c2, p321c3, p321c4, p137, _), rec, (slots18, k21, o168, _) =>
 bif (decide (k21 < n11)) then bif (decide ((0 : Int) ≤ k21)) then bif (decide (k21 < (p137.length : Int))) then bif (!(gt p137 k21)) then rec (slots18, ((IntKind.wrap .i64 (k21 + (1 : Int))), (o168, ())))
 else bif (decide (p321 = (1 : Int))) then bif (decide ((0 : Int) ≤ k21)) then bif (decide (k21 < (o168.length : Int))) then bif (decide ((0 : Int) ≤ p321c1)) then bif (decide (p321c1 < ((gt o168 k21).length : Int))) then rec ((IntKind.wrap .i64 (slots18 + (1 : Int))), ((IntKind.wrap .i64 (k21 + (1 : Int))), ((o168.set k21.toNat ((gt o168 k21).set p321c1.toNat p321c4)), ())))
 else none
 else none
 else none
 else none
 else bif (decide ((0 : Int) ≤ k21)) then bif (decide (k21 < (o168.length : Int))) then bif (decide ((0 : Int) ≤ k21)) then bif (decide (k21 < (o168.length : Int))) then bif (decide ((0 : Int) ≤ p321c3)) then bif (decide (p321c3 < ((gt o168 k21).length : Int))) then bif (decide ((0 : Int) ≤ k21)) then bif (decide (k21 < (o168.length : Int))) then bif (decide ((0 : Int) ≤ p321c4)) then bif (decide (p321c4 < ((gt o168 k21).length : Int))) then (F_spec_l01Do N (p321c2, (bits0, ((gt (gt o168 k21) p321c3), ((gt (gt o168 k21) p321c4), ()))))).bind fun r219 =>
 bif (decide ((0 : Int) ≤ p321c1)) then bif (decide (p321c1 < ((gt o168 k21).length : Int))) then rec ((IntKind.wrap .i64 (slots18 + (1 : Int))), ((IntKind.wrap .i64 (k21 + (1 : Int))), ((o168.set k21.toNat ((gt o168 k21).set p321c1.toNat r219.1)), ())))
 else none
 else none
 else none
 else none
 else none
 else none
 else none
 else none
 else none
 else none
 else none
 else none
 else none
 else none
 else some (slots18, (o168, ()))
theorem s_sM12 (N : Nat) : ∀ σ p rec v, stepL (rn drawQ (mkB (C98 N) [] [(90, [(0, g_sM0 N)])] [] []) 8 90 b90_5) 5 (wr b90_5) d_sM12 (instP σ d_sM12.pm p) rec v = n_sM12 N p rec v := by
 rintro σ ⟨bits0, n11, p321, p321c1, p321c2, p321c3, p321c4, p137, _⟩ rec ⟨slots18, k21, o168, _⟩; kernel_rfl
noncomputable def g_sM12 (N : Nat) : St (Sig.T SS) → Tr (Ex × St (Sig.T SS)) := orcL (wr b90_5) d_sM12 fun p => itN (n_sM12 N p) N
theorem o_sM12 (N : Nat) : Snd QQ (g_sM12 N) (.block 5 (blkOf 5 (blks c90))) := loopP LL DR_ok (KC98 N) (F := []) (J := [(90, [(0, g_sM0 N)])]) (FGood.nil _) (M := []) (R := []) i90 (JGood.cons i90.hd (o_sM0 N) (JGood.nil c90)) e90_5 (s_sM12 N) N
noncomputable def b90_7 : Code := unLoop (blkOf 7 (blks c90))
theorem e90_7 : blkOf 7 (blks c90) = .loop b90_7 := by kernel_rfl
def d_sM13 : LoopD := ⟨488, ⟨[(0, .c (.int .i64)), (11, .c (.int .i64)), (12, .c (.row 168)), (13, .c (.row 137)), (20, .c (.ptr 321 0))], [(321, 329, .var 63 [.int .i64, .int .i64, .int .i64, .int .i64, .int .i64]), (168, 248, .deep 29 0 2 [] 168)], 407⟩, ⟨[(22, .c (.int .i64))], [(137, .row 4 [])], 496⟩, [], [168, 137, 321], [⟨.norm, ⟨[], [(137, .row 4 [])], 496⟩, [], [168, 137, 321]⟩]⟩
def n_sM13 (N : Nat) : Int × Int × Int × Int × Int × Int × Int × List (List (Int)) × Unit → (Int × List (Bool) × Unit → Option ((List (Bool) × Unit))) → Int × List (Bool) × Unit → Option ((List (Bool) × Unit))
 | (bits0, n11, p321, p321c1, p321c2, p321c3, p321c4, p168, _), rec, (k22, o137, _) =>
 bif (decide (k22 < n11)) then bif (decide ((0 : Int) ≤ k22)) then bif (decide (k22 < (o137.length : Int))) then bif (gt o137 k22) then bif (decide ((0 : Int) ≤ k22)) then bif (decide (k22 < (p168.length : Int))) then bif (decide ((0 : Int) ≤ p321c3)) then bif (decide (p321c3 < ((gt p168 k22).length : Int))) then bif (decide ((0 : Int) ≤ k22)) then bif (decide (k22 < (p168.length : Int))) then bif (decide ((0 : Int) ≤ p321c4)) then bif (decide (p321c4 < ((gt p168 k22).length : Int))) then (F_spec_l01Test N (p321c2, (bits0, ((gt (gt p168 k22) p321c3), ((gt (gt p168 k22) p321c4), ()))))).bind fun r221 =>
 bif (decide ((0 : Int) ≤ k22)) then bif (decide (k22 < (o137.length : Int))) then rec ((IntKind.wrap .i64 (k22 + (1 : Int))), ((o137.set k22.toNat r221.1), ()))
 else none
 else none
 else none
 else none
 else none
 else none
 else none
 else none
 else none
 else none
 else bif (decide ((0 : Int) ≤ k22)) then bif (decide (k22 < (o137.length : Int))) then rec ((IntKind.wrap .i64 (k22 + (1 : Int))), ((o137.set k22.toNat false), ()))
 else none
 else none
 else none
 else none
 else some (o137, ())
theorem s_sM13 (N : Nat) : ∀ σ p rec v, stepL (rn drawQ (mkB (C98 N) [] [(90, [(0, g_sM0 N), (5, g_sM12 N)])] [] []) 8 90 b90_7) 7 (wr b90_7) d_sM13 (instP σ d_sM13.pm p) rec v = n_sM13 N p rec v := by
 rintro σ ⟨bits0, n11, p321, p321c1, p321c2, p321c3, p321c4, p168, _⟩ rec ⟨k22, o137, _⟩; kernel_rfl
noncomputable def g_sM13 (N : Nat) : St (Sig.T SS) → Tr (Ex × St (Sig.T SS)) := orcL (wr b90_7) d_sM13 fun p => itN (n_sM13 N p) N
theorem o_sM13 (N : Nat) : Snd QQ (g_sM13 N) (.block 7 (blkOf 7 (blks c90))) := loopP LL DR_ok (KC98 N) (F := []) (J := [(90, [(0, g_sM0 N), (5, g_sM12 N)])]) (FGood.nil _) (M := []) (R := []) i90 (JGood.cons i90.hd (o_sM0 N) (JGood.cons i90.hd (o_sM12 N) (JGood.nil c90))) e90_7 (s_sM13 N) N
noncomputable def b90_9 : Code := unLoop (blkOf 9 (blks c90))
theorem e90_9 : blkOf 9 (blks c90) = .loop b90_9 := by kernel_rfl
def d_sM14 : LoopD := ⟨496, ⟨[(11, .c (.int .i64)), (13, .c (.row 137)), (15, .c (.row 185)), (23, .c (.ptr 465 0))], [(248, 248, .deep 126 1 4 [] 248), (465, 473, .var 126 [.int .i64, .sub 248 248, .int .i64]), (185, 248, .row 3 [])], 407⟩, ⟨[(24, .c (.int .i64))], [(137, .row 4 [])], 504⟩, [], [137, 185, 465, 248], [⟨.norm, ⟨[], [(137, .row 4 [])], 504⟩, [], [137, 185, 465, 248]⟩]⟩
def n_sM14 (N : Nat) : Int × (List (Int × List (Bool) × Int)) × Int × Int × Int × List (Int) × Unit → (Int × List (Bool) × Unit → Option ((List (Bool) × Unit))) → Int × List (Bool) × Unit → Option ((List (Bool) × Unit))
 | (n11, p248, p465, p465c1, p465c2, p185, _), rec, (k24, o137, _) =>
 bif (decide (k24 < n11)) then bif (decide ((0 : Int) ≤ k24)) then bif (decide (k24 < ((gt p248 p465c1).2.1.length : Int))) then bif (gt (gt p248 p465c1).2.1 k24) then bif (decide ((0 : Int) ≤ k24)) then bif (decide (k24 < (p185.length : Int))) then bif (decide ((gt p185 k24) = (0 : Int))) then bif (decide ((0 : Int) ≤ k24)) then bif (decide (k24 < (o137.length : Int))) then bif (decide ((0 : Int) ≤ k24)) then bif (decide (k24 < (o137.length : Int))) then rec ((IntKind.wrap .i64 (k24 + (1 : Int))), ((o137.set k24.toNat (!(gt o137 k24))), ()))
 else none
 else none
 else none
 else none
 else bif (decide ((0 : Int) ≤ k24)) then bif (decide (k24 < (o137.length : Int))) then rec ((IntKind.wrap .i64 (k24 + (1 : Int))), ((o137.set k24.toNat false), ()))
 else none
 else none
 else none
 else none
 else bif (decide ((0 : Int) ≤ k24)) then bif (decide (k24 < (o137.length : Int))) then rec ((IntKind.wrap .i64 (k24 + (1 : Int))), ((o137.set k24.toNat false), ()))
 else none
 else none
 else none
 else none
 else some (o137, ())
theorem s_sM14 (N : Nat) : ∀ σ p rec v, stepL (rn drawQ (mkB (C98 N) [] [(90, [(0, g_sM0 N), (5, g_sM12 N), (7, g_sM13 N)])] [] []) 8 90 b90_9) 9 (wr b90_9) d_sM14 (instP σ d_sM14.pm p) rec v = n_sM14 N p rec v := by
 rintro σ ⟨n11, p248, p465, p465c1, p465c2, p185, _⟩ rec ⟨k24, o137, _⟩; kernel_rfl
noncomputable def g_sM14 (N : Nat) : St (Sig.T SS) → Tr (Ex × St (Sig.T SS)) := orcL (wr b90_9) d_sM14 fun p => itN (n_sM14 N p) N
theorem o_sM14 (N : Nat) : Snd QQ (g_sM14 N) (.block 9 (blkOf 9 (blks c90))) := loopP LL DR_ok (KC98 N) (F := []) (J := [(90, [(0, g_sM0 N), (5, g_sM12 N), (7, g_sM13 N)])]) (FGood.nil _) (M := []) (R := []) i90 (JGood.cons i90.hd (o_sM0 N) (JGood.cons i90.hd (o_sM12 N) (JGood.cons i90.hd (o_sM13 N) (JGood.nil c90)))) e90_9 (s_sM14 N) N
noncomputable def b90_11 : Code := unLoop (blkOf 11 (blks c90))
theorem e90_11 : blkOf 11 (blks c90) = .loop b90_11 := by kernel_rfl
def d_sM15 : LoopD := ⟨464, ⟨[(0, .c (.int .i64)), (9, .c (.row 41)), (11, .c (.int .i64)), (12, .c (.row 168)), (13, .c (.row 137)), (15, .c (.row 185)), (19, .c (.int .i64)), (20, .c (.ptr 321 0))], [(321, 329, .var 63 [.int .i64, .int .i64, .int .i64, .int .i64, .int .i64]), (168, 248, .deep 29 0 2 [] 168), (41, 41, .row 2 [])], 407⟩, ⟨[(25, .c (.int .i64))], [(185, .row 3 []), (137, .row 4 [])], 472⟩, [], [41, 168, 137, 185, 321], [⟨.norm, ⟨[], [(185, .row 3 []), (137, .row 4 [])], 472⟩, [], [41, 168, 137, 185, 321]⟩]⟩
def n_sM15 (N : Nat) : Int × Int × Int × Int × Int × Int × Int × Int × List (List (Int)) × List (Int) × Unit → (Int × List (Int) × List (Bool) × Unit → Option ((List (Int) × List (Bool) × Unit))) → Int × List (Int) × List (Bool) × Unit → Option ((List (Int) × List (Bool) × Unit))
 | (bits0, n11, i19, p321, p321c1, p321c2, p321c3, p321c4, p168, p41, _), rec, (k25, o185, o137, _) =>
 bif (decide (k25 < n11)) then bif (decide ((0 : Int) ≤ k25)) then bif (decide (k25 < (o137.length : Int))) then bif (gt o137 k25) then bif (decide ((0 : Int) ≤ k25)) then bif (decide (k25 < (p168.length : Int))) then bif (decide ((0 : Int) ≤ p321c3)) then bif (decide (p321c3 < ((gt p168 k25).length : Int))) then bif (decide ((0 : Int) ≤ k25)) then bif (decide (k25 < (p168.length : Int))) then bif (decide ((0 : Int) ≤ p321c4)) then bif (decide (p321c4 < ((gt p168 k25).length : Int))) then (F_spec_l01Test N (p321c2, (bits0, ((gt (gt p168 k25) p321c3), ((gt (gt p168 k25) p321c4), ()))))).bind fun r223 =>
 bif r223.1 then bif (decide ((0 : Int) ≤ k25)) then bif (decide (k25 < (o137.length : Int))) then bif (decide ((0 : Int) ≤ i19)) then bif (decide (i19 < (p41.length : Int))) then bif (decide ((0 : Int) ≤ (gt p41 i19))) then bif (decide ((gt p41 i19) < (p41.length : Int))) then bif (decide ((0 : Int) ≤ k25)) then bif (decide (k25 < (o185.length : Int))) then rec ((IntKind.wrap .i64 (k25 + (1 : Int))), ((o185.set k25.toNat (IntKind.wrap .i64 ((gt p41 (gt p41 i19)) + (1 : Int)))), ((o137.set k25.toNat false), ())))
 else none
 else none
 else none
 else none
 else none
 else none
 else none
 else none
 else rec ((IntKind.wrap .i64 (k25 + (1 : Int))), (o185, (o137, ())))
 else none
 else none
 else none
 else none
 else none
 else none
 else none
 else none
 else rec ((IntKind.wrap .i64 (k25 + (1 : Int))), (o185, (o137, ())))
 else none
 else none
 else some (o185, (o137, ()))
theorem s_sM15 (N : Nat) : ∀ σ p rec v, stepL (rn drawQ (mkB (C98 N) [] [(90, [(0, g_sM0 N), (5, g_sM12 N), (7, g_sM13 N), (9, g_sM14 N)])] [] []) 8 90 b90_11) 11 (wr b90_11) d_sM15 (instP σ d_sM15.pm p) rec v = n_sM15 N p rec v := by
 rintro σ ⟨bits0, n11, i19, p321, p321c1, p321c2, p321c3, p321c4, p168, p41, _⟩ rec ⟨k25, o185, o137, _⟩; kernel_rfl
noncomputable def g_sM15 (N : Nat) : St (Sig.T SS) → Tr (Ex × St (Sig.T SS)) := orcL (wr b90_11) d_sM15 fun p => itN (n_sM15 N p) N
theorem o_sM15 (N : Nat) : Snd QQ (g_sM15 N) (.block 11 (blkOf 11 (blks c90))) := loopP LL DR_ok (KC98 N) (F := []) (J := [(90, [(0, g_sM0 N), (5, g_sM12 N), (7, g_sM13 N), (9, g_sM14 N)])]) (FGood.nil _) (M := []) (R := []) i90 (JGood.cons i90.hd (o_sM0 N) (JGood.cons i90.hd (o_sM12 N) (JGood.cons i90.hd (o_sM13 N) (JGood.cons i90.hd (o_sM14 N) (JGood.nil c90))))) e90_11 (s_sM15 N) N
noncomputable def b90_13 : Code := unLoop (blkOf 13 (blks c90))
theorem e90_13 : blkOf 13 (blks c90) = .loop b90_13 := by kernel_rfl
def d_sM16 : LoopD := ⟨608, ⟨[(11, .c (.int .i64)), (15, .c (.row 185)), (26, .c (.ptr 513 0))], [(248, 248, .deep 126 1 4 [] 248), (513, 521, .var 126 [.int .i64, .sub 248 248, .int .i64]), (185, 248, .row 3 [])], 407⟩, ⟨[(27, .c (.bool)), (28, .c (.int .i64))], [], 616⟩, [], [185, 513, 248], [⟨.norm, ⟨[(27, .c (.bool))], [], 616⟩, [], [185, 513, 248]⟩]⟩
def n_sM16 (N : Nat) : Int × (List (Int × List (Bool) × Int)) × Int × Int × Int × List (Int) × Unit → (Bool × Int × Unit → Option ((Bool × Unit))) → Bool × Int × Unit → Option ((Bool × Unit))
 | (n11, p248, p513, p513c1, p513c2, p185, _), rec, (again27, k28, _) =>
 bif (decide (k28 < n11)) then bif again27 then rec (true, ((IntKind.wrap .i64 (k28 + (1 : Int))), ()))
 else bif (decide ((0 : Int) ≤ k28)) then bif (decide (k28 < ((gt p248 p513c1).2.1.length : Int))) then bif (gt (gt p248 p513c1).2.1 k28) then bif (decide ((0 : Int) ≤ k28)) then bif (decide (k28 < (p185.length : Int))) then rec ((decide ((gt p185 k28) = (0 : Int))), ((IntKind.wrap .i64 (k28 + (1 : Int))), ()))
 else none
 else none
 else rec (false, ((IntKind.wrap .i64 (k28 + (1 : Int))), ()))
 else none
 else none
 else some (again27, ())
theorem s_sM16 (N : Nat) : ∀ σ p rec v, stepL (rn drawQ (mkB (C98 N) [] [(90, [(0, g_sM0 N), (5, g_sM12 N), (7, g_sM13 N), (9, g_sM14 N), (11, g_sM15 N)])] [] []) 8 90 b90_13) 13 (wr b90_13) d_sM16 (instP σ d_sM16.pm p) rec v = n_sM16 N p rec v := by
 rintro σ ⟨n11, p248, p513, p513c1, p513c2, p185, _⟩ rec ⟨again27, k28, _⟩; kernel_rfl
noncomputable def g_sM16 (N : Nat) : St (Sig.T SS) → Tr (Ex × St (Sig.T SS)) := orcL (wr b90_13) d_sM16 fun p => itN (n_sM16 N p) N
theorem o_sM16 (N : Nat) : Snd QQ (g_sM16 N) (.block 13 (blkOf 13 (blks c90))) := loopP LL DR_ok (KC98 N) (F := []) (J := [(90, [(0, g_sM0 N), (5, g_sM12 N), (7, g_sM13 N), (9, g_sM14 N), (11, g_sM15 N)])]) (FGood.nil _) (M := []) (R := []) i90 (JGood.cons i90.hd (o_sM0 N) (JGood.cons i90.hd (o_sM12 N) (JGood.cons i90.hd (o_sM13 N) (JGood.cons i90.hd (o_sM14 N) (JGood.cons i90.hd (o_sM15 N) (JGood.nil c90)))))) e90_13 (s_sM16 N) N
noncomputable def b90_19 : Code := unLoop (blkOf 19 (blks c90))
theorem e90_19 : blkOf 19 (blks c90) = .loop b90_19 := by kernel_rfl
def d_sM17 : LoopD := ⟨600, ⟨[(11, .c (.int .i64)), (13, .c (.row 137)), (15, .c (.row 185)), (26, .c (.ptr 513 0))], [(248, 248, .deep 126 1 4 [] 248), (513, 521, .var 126 [.int .i64, .sub 248 248, .int .i64]), (185, 248, .row 3 [])], 407⟩, ⟨[(31, .c (.int .i64))], [(137, .row 4 [])], 608⟩, [], [137, 185, 513, 248], [⟨.norm, ⟨[], [(137, .row 4 [])], 608⟩, [], [137, 185, 513, 248]⟩]⟩
def n_sM17 (N : Nat) : Int × (List (Int × List (Bool) × Int)) × Int × Int × Int × List (Int) × Unit → (Int × List (Bool) × Unit → Option ((List (Bool) × Unit))) → Int × List (Bool) × Unit → Option ((List (Bool) × Unit))
 | (n11, p248, p513, p513c1, p513c2, p185, _), rec, (k31, o137, _) =>
 bif (decide (k31 < n11)) then bif (decide ((0 : Int) ≤ k31)) then bif (decide (k31 < ((gt p248 p513c1).2.1.length : Int))) then bif (gt (gt p248 p513c1).2.1 k31) then bif (decide ((0 : Int) ≤ k31)) then bif (decide (k31 < (p185.length : Int))) then bif (decide ((0 : Int) ≤ k31)) then bif (decide (k31 < (o137.length : Int))) then rec ((IntKind.wrap .i64 (k31 + (1 : Int))), ((o137.set k31.toNat (decide ((gt p185 k31) = (0 : Int)))), ()))
 else none
 else none
 else none
 else none
 else bif (decide ((0 : Int) ≤ k31)) then bif (decide (k31 < (o137.length : Int))) then rec ((IntKind.wrap .i64 (k31 + (1 : Int))), ((o137.set k31.toNat false), ()))
 else none
 else none
 else none
 else none
 else some (o137, ())
theorem s_sM17 (N : Nat) : ∀ σ p rec v, stepL (rn drawQ (mkB (C98 N) [] [(90, [(0, g_sM0 N), (5, g_sM12 N), (7, g_sM13 N), (9, g_sM14 N), (11, g_sM15 N), (13, g_sM16 N)])] [] []) 8 90 b90_19) 19 (wr b90_19) d_sM17 (instP σ d_sM17.pm p) rec v = n_sM17 N p rec v := by
 rintro σ ⟨n11, p248, p513, p513c1, p513c2, p185, _⟩ rec ⟨k31, o137, _⟩; kernel_rfl
noncomputable def g_sM17 (N : Nat) : St (Sig.T SS) → Tr (Ex × St (Sig.T SS)) := orcL (wr b90_19) d_sM17 fun p => itN (n_sM17 N p) N
theorem o_sM17 (N : Nat) : Snd QQ (g_sM17 N) (.block 19 (blkOf 19 (blks c90))) := loopP LL DR_ok (KC98 N) (F := []) (J := [(90, [(0, g_sM0 N), (5, g_sM12 N), (7, g_sM13 N), (9, g_sM14 N), (11, g_sM15 N), (13, g_sM16 N)])]) (FGood.nil _) (M := []) (R := []) i90 (JGood.cons i90.hd (o_sM0 N) (JGood.cons i90.hd (o_sM12 N) (JGood.cons i90.hd (o_sM13 N) (JGood.cons i90.hd (o_sM14 N) (JGood.cons i90.hd (o_sM15 N) (JGood.cons i90.hd (o_sM16 N) (JGood.nil c90))))))) e90_19 (s_sM17 N) N
def d_sM18 : LoopD := ⟨440, ⟨[(0, .c (.int .i64)), (11, .c (.int .i64)), (12, .c (.row 168)), (13, .c (.row 137)), (20, .c (.ptr 321 0))], [(321, 329, .var 63 [.int .i64, .int .i64, .int .i64, .int .i64, .int .i64]), (137, 248, .row 4 [])], 407⟩, ⟨[(18, .c (.int .i64)), (21, .c (.int .i64))], [(168, .deep 29 0 2 [] 168)], 448⟩, [], [168, 137, 321], [⟨.norm, ⟨[(18, .c (.int .i64))], [(168, .deep 29 0 2 [] 168)], 448⟩, [], [168, 137, 321]⟩]⟩
def n_sM18 (N : Nat) : Int × Int × Int × Int × Int × Int × Int × List (Bool) × Unit → (Int × Int × List (List (Int)) × Unit → Option ((Int × List (List (Int)) × Unit))) → Int × Int × List (List (Int)) × Unit → Option ((Int × List (List (Int)) × Unit))
 | (bits0, n11, p321, p321c1, p321c2, p321c3, p321c4, p137, _), rec, (slots18, k21, o168, _) =>
 bif (decide (k21 < n11)) then bif (decide ((0 : Int) ≤ k21)) then bif (decide (k21 < (p137.length : Int))) then bif (!(gt p137 k21)) then rec (slots18, ((IntKind.wrap .i64 (k21 + (1 : Int))), (o168, ())))
 else bif (decide (p321 = (1 : Int))) then bif (decide ((0 : Int) ≤ k21)) then bif (decide (k21 < (o168.length : Int))) then bif (decide ((0 : Int) ≤ p321c1)) then bif (decide (p321c1 < ((gt o168 k21).length : Int))) then rec ((IntKind.wrap .i64 (slots18 + (1 : Int))), ((IntKind.wrap .i64 (k21 + (1 : Int))), ((o168.set k21.toNat ((gt o168 k21).set p321c1.toNat p321c4)), ())))
 else none
 else none
 else none
 else none
 else bif (decide ((0 : Int) ≤ k21)) then bif (decide (k21 < (o168.length : Int))) then bif (decide ((0 : Int) ≤ k21)) then bif (decide (k21 < (o168.length : Int))) then bif (decide ((0 : Int) ≤ p321c3)) then bif (decide (p321c3 < ((gt o168 k21).length : Int))) then bif (decide ((0 : Int) ≤ k21)) then bif (decide (k21 < (o168.length : Int))) then bif (decide ((0 : Int) ≤ p321c4)) then bif (decide (p321c4 < ((gt o168 k21).length : Int))) then (F_spec_l01Do N (p321c2, (bits0, ((gt (gt o168 k21) p321c3), ((gt (gt o168 k21) p321c4), ()))))).bind fun r237 =>
 bif (decide ((0 : Int) ≤ p321c1)) then bif (decide (p321c1 < ((gt o168 k21).length : Int))) then rec ((IntKind.wrap .i64 (slots18 + (1 : Int))), ((IntKind.wrap .i64 (k21 + (1 : Int))), ((o168.set k21.toNat ((gt o168 k21).set p321c1.toNat r237.1)), ())))
 else none
 else none
 else none
 else none
 else none
 else none
 else none
 else none
 else none
 else none
 else none
 else none
 else none
 else none
 else some (slots18, (o168, ()))
theorem s_sM18 (N : Nat) : ∀ σ p rec v, stepL (rn drawQ (mkB (C98 N) [] [(90, [(0, g_sM0 N), (5, g_sM12 N), (7, g_sM13 N), (9, g_sM14 N), (11, g_sM15 N), (13, g_sM16 N), (19, g_sM17 N)])] [] []) 8 90 b90_5) 5 (wr b90_5) d_sM18 (instP σ d_sM18.pm p) rec v = n_sM18 N p rec v := by
 rintro σ ⟨bits0, n11, p321, p321c1, p321c2, p321c3, p321c4, p137, _⟩ rec ⟨slots18, k21, o168, _⟩; kernel_rfl
noncomputable def g_sM18 (N : Nat) : St (Sig.T SS) → Tr (Ex × St (Sig.T SS)) := orcL (wr b90_5) d_sM18 fun p => itN (n_sM18 N p) N
theorem o_sM18 (N : Nat) : Snd QQ (g_sM18 N) (.block 5 (blkOf 5 (blks c90))) := loopP LL DR_ok (KC98 N) (F := []) (J := [(90, [(0, g_sM0 N), (5, g_sM12 N), (7, g_sM13 N), (9, g_sM14 N), (11, g_sM15 N), (13, g_sM16 N), (19, g_sM17 N)])]) (FGood.nil _) (M := []) (R := []) i90 (JGood.cons i90.hd (o_sM0 N) (JGood.cons i90.hd (o_sM12 N) (JGood.cons i90.hd (o_sM13 N) (JGood.cons i90.hd (o_sM14 N) (JGood.cons i90.hd (o_sM15 N) (JGood.cons i90.hd (o_sM16 N) (JGood.cons i90.hd (o_sM17 N) (JGood.nil c90)))))))) e90_5 (s_sM18 N) N
noncomputable def b90_15 : Code := unLoop (blkOf 15 (blks c90))
theorem e90_15 : blkOf 15 (blks c90) = .loop b90_15 := by kernel_rfl
def d_sM19 : LoopD := ⟨816, ⟨[(11, .c (.int .i64)), (13, .c (.row 137)), (15, .c (.row 185)), (26, .c (.ptr 513 0))], [(248, 792, .deep 126 1 4 [] 248), (513, 521, .var 126 [.int .i64, .sub 248 248, .int .i64]), (185, 248, .row 3 [])], 407⟩, ⟨[(29, .c (.int .i64))], [(137, .row 4 [])], 824⟩, [], [137, 185, 513, 248], [⟨.norm, ⟨[], [(137, .row 4 [])], 824⟩, [], [137, 185, 513, 248]⟩]⟩
def n_sM19 (N : Nat) : Int × (List (Int × List (Bool) × Int)) × Int × Int × Int × List (Int) × Unit → (Int × List (Bool) × Unit → Option ((List (Bool) × Unit))) → Int × List (Bool) × Unit → Option ((List (Bool) × Unit))
 | (n11, p248, p513, p513c1, p513c2, p185, _), rec, (k29, o137, _) =>
 bif (decide (k29 < n11)) then bif (decide ((0 : Int) ≤ k29)) then bif (decide (k29 < ((gt p248 p513c1).2.1.length : Int))) then bif (gt (gt p248 p513c1).2.1 k29) then bif (decide ((0 : Int) ≤ k29)) then bif (decide (k29 < (p185.length : Int))) then bif (decide ((0 : Int) ≤ k29)) then bif (decide (k29 < (o137.length : Int))) then rec ((IntKind.wrap .i64 (k29 + (1 : Int))), ((o137.set k29.toNat (decide ((gt p185 k29) = (0 : Int)))), ()))
 else none
 else none
 else none
 else none
 else bif (decide ((0 : Int) ≤ k29)) then bif (decide (k29 < (o137.length : Int))) then rec ((IntKind.wrap .i64 (k29 + (1 : Int))), ((o137.set k29.toNat false), ()))
 else none
 else none
 else none
 else none
 else some (o137, ())
theorem s_sM19 (N : Nat) : ∀ σ p rec v, stepL (rn drawQ (mkB (C98 N) [] [(90, [(0, g_sM0 N), (5, altO d_sM12 (g_sM12 N) (g_sM18 N)), (7, g_sM13 N), (9, g_sM14 N), (11, g_sM15 N), (13, g_sM16 N), (19, g_sM17 N)])] [] []) 8 90 b90_15) 15 (wr b90_15) d_sM19 (instP σ d_sM19.pm p) rec v = n_sM19 N p rec v := by
 rintro σ ⟨n11, p248, p513, p513c1, p513c2, p185, _⟩ rec ⟨k29, o137, _⟩; kernel_rfl
noncomputable def g_sM19 (N : Nat) : St (Sig.T SS) → Tr (Ex × St (Sig.T SS)) := orcL (wr b90_15) d_sM19 fun p => itN (n_sM19 N p) N
theorem o_sM19 (N : Nat) : Snd QQ (g_sM19 N) (.block 15 (blkOf 15 (blks c90))) := loopP LL DR_ok (KC98 N) (F := []) (J := [(90, [(0, g_sM0 N), (5, altO d_sM12 (g_sM12 N) (g_sM18 N)), (7, g_sM13 N), (9, g_sM14 N), (11, g_sM15 N), (13, g_sM16 N), (19, g_sM17 N)])]) (FGood.nil _) (M := []) (R := []) i90 (JGood.cons i90.hd (o_sM0 N) (JGood.cons i90.hd (alt_ok (o_sM12 N) (o_sM18 N)) (JGood.cons i90.hd (o_sM13 N) (JGood.cons i90.hd (o_sM14 N) (JGood.cons i90.hd (o_sM15 N) (JGood.cons i90.hd (o_sM16 N) (JGood.cons i90.hd (o_sM17 N) (JGood.nil c90)))))))) e90_15 (s_sM19 N) N
noncomputable def b90_17 : Code := unLoop (blkOf 17 (blks c90))
theorem e90_17 : blkOf 17 (blks c90) = .loop b90_17 := by kernel_rfl
def d_sM20 : LoopD := ⟨728, ⟨[(11, .c (.int .i64)), (15, .c (.row 185)), (26, .c (.ptr 513 0))], [(248, 248, .deep 126 1 4 [] 248), (513, 521, .var 126 [.int .i64, .sub 248 248, .int .i64])], 407⟩, ⟨[(30, .c (.int .i64))], [(185, .row 3 [])], 736⟩, [], [185, 513, 248], [⟨.norm, ⟨[], [(185, .row 3 [])], 736⟩, [], [185, 513, 248]⟩]⟩
def n_sM20 (N : Nat) : Int × (List (Int × List (Bool) × Int)) × Int × Int × Int × Unit → (Int × List (Int) × Unit → Option ((List (Int) × Unit))) → Int × List (Int) × Unit → Option ((List (Int) × Unit))
 | (n11, p248, p513, p513c1, p513c2, _), rec, (k30, o185, _) =>
 bif (decide (k30 < n11)) then bif (decide ((0 : Int) ≤ k30)) then bif (decide (k30 < (o185.length : Int))) then bif (decide ((gt o185 k30) = (IntKind.wrap .i64 (p513 + (1 : Int))))) then bif (decide ((0 : Int) ≤ k30)) then bif (decide (k30 < (o185.length : Int))) then rec ((IntKind.wrap .i64 (k30 + (1 : Int))), ((o185.set k30.toNat (0 : Int)), ()))
 else none
 else none
 else rec ((IntKind.wrap .i64 (k30 + (1 : Int))), (o185, ()))
 else none
 else none
 else some (o185, ())
theorem s_sM20 (N : Nat) : ∀ σ p rec v, stepL (rn drawQ (mkB (C98 N) [] [(90, [(0, g_sM0 N), (5, altO d_sM12 (g_sM12 N) (g_sM18 N)), (7, g_sM13 N), (9, g_sM14 N), (11, g_sM15 N), (13, g_sM16 N), (19, g_sM17 N), (15, g_sM19 N)])] [] []) 8 90 b90_17) 17 (wr b90_17) d_sM20 (instP σ d_sM20.pm p) rec v = n_sM20 N p rec v := by
 rintro σ ⟨n11, p248, p513, p513c1, p513c2, _⟩ rec ⟨k30, o185, _⟩; kernel_rfl
noncomputable def g_sM20 (N : Nat) : St (Sig.T SS) → Tr (Ex × St (Sig.T SS)) := orcL (wr b90_17) d_sM20 fun p => itN (n_sM20 N p) N
theorem o_sM20 (N : Nat) : Snd QQ (g_sM20 N) (.block 17 (blkOf 17 (blks c90))) := loopP LL DR_ok (KC98 N) (F := []) (J := [(90, [(0, g_sM0 N), (5, altO d_sM12 (g_sM12 N) (g_sM18 N)), (7, g_sM13 N), (9, g_sM14 N), (11, g_sM15 N), (13, g_sM16 N), (19, g_sM17 N), (15, g_sM19 N)])]) (FGood.nil _) (M := []) (R := []) i90 (JGood.cons i90.hd (o_sM0 N) (JGood.cons i90.hd (alt_ok (o_sM12 N) (o_sM18 N)) (JGood.cons i90.hd (o_sM13 N) (JGood.cons i90.hd (o_sM14 N) (JGood.cons i90.hd (o_sM15 N) (JGood.cons i90.hd (o_sM16 N) (JGood.cons i90.hd (o_sM17 N) (JGood.cons i90.hd (o_sM19 N) (JGood.nil c90))))))))) e90_17 (s_sM20 N) N
def d_sM21 : LoopD := ⟨752, ⟨[(11, .c (.int .i64)), (13, .c (.row 137)), (15, .c (.row 185)), (26, .c (.ptr 513 0))], [(248, 248, .deep 126 1 4 [] 248), (513, 521, .var 126 [.int .i64, .sub 248 248, .int .i64]), (185, 728, .row 3 [])], 407⟩, ⟨[(31, .c (.int .i64))], [(137, .row 4 [])], 760⟩, [], [137, 185, 513, 248], [⟨.norm, ⟨[], [(137, .row 4 [])], 760⟩, [], [137, 185, 513, 248]⟩]⟩
def n_sM21 (N : Nat) : Int × (List (Int × List (Bool) × Int)) × Int × Int × Int × List (Int) × Unit → (Int × List (Bool) × Unit → Option ((List (Bool) × Unit))) → Int × List (Bool) × Unit → Option ((List (Bool) × Unit))
 | (n11, p248, p513, p513c1, p513c2, p185, _), rec, (k31, o137, _) =>
 bif (decide (k31 < n11)) then bif (decide ((0 : Int) ≤ k31)) then bif (decide (k31 < ((gt p248 p513c1).2.1.length : Int))) then bif (gt (gt p248 p513c1).2.1 k31) then bif (decide ((0 : Int) ≤ k31)) then bif (decide (k31 < (p185.length : Int))) then bif (decide ((0 : Int) ≤ k31)) then bif (decide (k31 < (o137.length : Int))) then rec ((IntKind.wrap .i64 (k31 + (1 : Int))), ((o137.set k31.toNat (decide ((gt p185 k31) = (0 : Int)))), ()))
 else none
 else none
 else none
 else none
 else bif (decide ((0 : Int) ≤ k31)) then bif (decide (k31 < (o137.length : Int))) then rec ((IntKind.wrap .i64 (k31 + (1 : Int))), ((o137.set k31.toNat false), ()))
 else none
 else none
 else none
 else none
 else some (o137, ())
theorem s_sM21 (N : Nat) : ∀ σ p rec v, stepL (rn drawQ (mkB (C98 N) [] [(90, [(0, g_sM0 N), (5, altO d_sM12 (g_sM12 N) (g_sM18 N)), (7, g_sM13 N), (9, g_sM14 N), (11, g_sM15 N), (13, g_sM16 N), (19, g_sM17 N), (15, g_sM19 N), (17, g_sM20 N)])] [] []) 8 90 b90_19) 19 (wr b90_19) d_sM21 (instP σ d_sM21.pm p) rec v = n_sM21 N p rec v := by
 rintro σ ⟨n11, p248, p513, p513c1, p513c2, p185, _⟩ rec ⟨k31, o137, _⟩; kernel_rfl
noncomputable def g_sM21 (N : Nat) : St (Sig.T SS) → Tr (Ex × St (Sig.T SS)) := orcL (wr b90_19) d_sM21 fun p => itN (n_sM21 N p) N
theorem o_sM21 (N : Nat) : Snd QQ (g_sM21 N) (.block 19 (blkOf 19 (blks c90))) := loopP LL DR_ok (KC98 N) (F := []) (J := [(90, [(0, g_sM0 N), (5, altO d_sM12 (g_sM12 N) (g_sM18 N)), (7, g_sM13 N), (9, g_sM14 N), (11, g_sM15 N), (13, g_sM16 N), (19, g_sM17 N), (15, g_sM19 N), (17, g_sM20 N)])]) (FGood.nil _) (M := []) (R := []) i90 (JGood.cons i90.hd (o_sM0 N) (JGood.cons i90.hd (alt_ok (o_sM12 N) (o_sM18 N)) (JGood.cons i90.hd (o_sM13 N) (JGood.cons i90.hd (o_sM14 N) (JGood.cons i90.hd (o_sM15 N) (JGood.cons i90.hd (o_sM16 N) (JGood.cons i90.hd (o_sM17 N) (JGood.cons i90.hd (o_sM19 N) (JGood.cons i90.hd (o_sM20 N) (JGood.nil c90)))))))))) e90_19 (s_sM21 N) N
def d_sM1 : LoopD := ⟨248, ⟨[(0, .c (.int .i64)), (1, .c (.rd 63 [(0, 0)])), (9, .c (.row 41)), (11, .c (.int .i64)), (12, .c (.row 168)), (13, .c (.row 137)), (15, .c (.row 185))], [(41, 41, .row 2 []), (0, 0, .ext)], 407⟩, ⟨[(16, .c (.row 248)), (17, .c (.int .i64)), (18, .c (.int .i64)), (19, .c (.int .i64))], [(248, .deep 126 1 4 [] 248), (168, .deep 29 0 2 [] 168), (137, .row 4 []), (185, .row 3 []), (201, .dead)], 257⟩, [(16, some 126)], [0, 41, 168, 137, 185], [⟨.norm, ⟨[(17, .c (.int .i64)), (18, .c (.int .i64))], [(168, .deep 29 0 2 [] 168), (137, .row 4 []), (185, .row 3 []), (201, .dead)], 256⟩, [], [0, 41, 168, 137, 185]⟩]⟩
def n_sM1 (N : Nat) : Int × (List (Int × Int × Int × Int × Int)) × Int × List (Int) × Unit → (Int × Int × Int × (List (Int × List (Bool) × Int)) × List (List (Int)) × List (Bool) × List (Int) × Unit → Option ((Int × Int × List (List (Int)) × List (Bool) × List (Int) × Unit))) → Int × Int × Int × (List (Int × List (Bool) × Int)) × List (List (Int)) × List (Bool) × List (Int) × Unit → Option ((Int × Int × List (List (Int)) × List (Bool) × List (Int) × Unit))
 | (bits0, lines1, n11, p41, _), rec, (steps17, slots18, i19, o248, o168, o137, o185, _) =>
 bif (decide (i19 < (lines1.length : Int))) then bif (decide ((0 : Int) ≤ i19)) then bif (decide (i19 < (lines1.length : Int))) then bif (decide ((gt lines1 i19).1 = (0 : Int))) then (F_spec_l08Any N (o137, ())).bind fun r254 =>
 bif r254.1 then (itN (n_sM12 N (bits0, (n11, ((gt lines1 i19).1, ((gt lines1 i19).2.1, ((gt lines1 i19).2.2.1, ((gt lines1 i19).2.2.2.1, ((gt lines1 i19).2.2.2.2, (o137, ()))))))))) N (slots18, ((0 : Int), (o168, ())))).bind fun r255 =>
 rec ((IntKind.wrap .i64 (steps17 + (1 : Int))), (r255.1, ((IntKind.wrap .i64 (i19 + (1 : Int))), (o248, (r255.2.1, (o137, (o185, ())))))))
 else (itN (n_sM12 N (bits0, (n11, ((gt lines1 i19).1, ((gt lines1 i19).2.1, ((gt lines1 i19).2.2.1, ((gt lines1 i19).2.2.2.1, ((gt lines1 i19).2.2.2.2, (o137, ()))))))))) N (slots18, ((0 : Int), (o168, ())))).bind fun r256 =>
 rec (steps17, (r256.1, ((IntKind.wrap .i64 (i19 + (1 : Int))), (o248, (r256.2.1, (o137, (o185, ())))))))
 else bif (decide ((gt lines1 i19).1 = (1 : Int))) then (F_spec_l08Any N (o137, ())).bind fun r257 =>
 bif r257.1 then (itN (n_sM18 N (bits0, (n11, ((gt lines1 i19).1, ((gt lines1 i19).2.1, ((gt lines1 i19).2.2.1, ((gt lines1 i19).2.2.2.1, ((gt lines1 i19).2.2.2.2, (o137, ()))))))))) N (slots18, ((0 : Int), (o168, ())))).bind fun r258 =>
 rec ((IntKind.wrap .i64 (steps17 + (1 : Int))), (r258.1, ((IntKind.wrap .i64 (i19 + (1 : Int))), (o248, (r258.2.1, (o137, (o185, ())))))))
 else (itN (n_sM12 N (bits0, (n11, ((gt lines1 i19).1, ((gt lines1 i19).2.1, ((gt lines1 i19).2.2.1, ((gt lines1 i19).2.2.2.1, ((gt lines1 i19).2.2.2.2, (o137, ()))))))))) N (slots18, ((0 : Int), (o168, ())))).bind fun r259 =>
 rec (steps17, (r259.1, ((IntKind.wrap .i64 (i19 + (1 : Int))), (o248, (r259.2.1, (o137, (o185, ())))))))
 else bif (decide ((gt lines1 i19).1 = (2 : Int))) then bif (decide (((0 + o137.length) * 1) ≤ 140737488351232)) then bif (decide (((o248.length + 1) * 40) ≤ 140737488351232)) then (itN (n_sM13 N (bits0, (n11, ((gt lines1 i19).1, ((gt lines1 i19).2.1, ((gt lines1 i19).2.2.1, ((gt lines1 i19).2.2.2.1, ((gt lines1 i19).2.2.2.2, (o168, ()))))))))) N ((0 : Int), (o137, ()))).bind fun r260 =>
 (F_spec_l08Any N (r260.1, ())).bind fun r261 =>
 bif (!r261.1) then bif (decide ((0 : Int) ≤ i19)) then bif (decide (i19 < (p41.length : Int))) then rec (steps17, (slots18, ((IntKind.wrap .i64 ((IntKind.wrap .i64 ((gt p41 i19) - (1 : Int))) + (1 : Int))), ((o248 ++ ((i19, (o137, (0 : Int))) :: [])), (o168, (r260.1, (o185, ())))))))
 else none
 else none
 else rec (steps17, (slots18, ((IntKind.wrap .i64 (i19 + (1 : Int))), ((o248 ++ ((i19, (o137, (0 : Int))) :: [])), (o168, (r260.1, (o185, ())))))))
 else none
 else none
 else bif (decide ((gt lines1 i19).1 = (3 : Int))) then bif (decide ((0 : Int) ≤ (IntKind.wrap .i64 ((o248.length : Int) - (1 : Int))))) then bif (decide ((IntKind.wrap .i64 ((o248.length : Int) - (1 : Int))) < (o248.length : Int))) then (itN (n_sM14 N (n11, (o248, ((gt o248 (IntKind.wrap .i64 ((o248.length : Int) - (1 : Int)))).1, ((IntKind.wrap .i64 ((o248.length : Int) - (1 : Int))), ((gt o248 (IntKind.wrap .i64 ((o248.length : Int) - (1 : Int)))).2.2, (o185, ()))))))) N ((0 : Int), (o137, ()))).bind fun r262 =>
 (F_spec_l08Any N (r262.1, ())).bind fun r263 =>
 bif (!r263.1) then bif (decide ((0 : Int) ≤ i19)) then bif (decide (i19 < (p41.length : Int))) then rec (steps17, (slots18, ((IntKind.wrap .i64 ((IntKind.wrap .i64 ((gt p41 i19) - (1 : Int))) + (1 : Int))), (o248, (o168, (r262.1, (o185, ())))))))
 else none
 else none
 else rec (steps17, (slots18, ((IntKind.wrap .i64 (i19 + (1 : Int))), (o248, (o168, (r262.1, (o185, ())))))))
 else none
 else none
 else bif (decide ((gt lines1 i19).1 = (5 : Int))) then bif (decide (((0 + o137.length) * 1) ≤ 140737488351232)) then bif (decide (((o248.length + 1) * 40) ≤ 140737488351232)) then rec (steps17, (slots18, ((IntKind.wrap .i64 (i19 + (1 : Int))), ((o248 ++ ((i19, (o137, (1 : Int))) :: [])), (o168, (o137, (o185, ())))))))
 else none
 else none
 else bif (decide ((gt lines1 i19).1 = (6 : Int))) then (itN (n_sM15 N (bits0, (n11, (i19, ((gt lines1 i19).1, ((gt lines1 i19).2.1, ((gt lines1 i19).2.2.1, ((gt lines1 i19).2.2.2.1, ((gt lines1 i19).2.2.2.2, (o168, (p41, ()))))))))))) N ((0 : Int), (o185, (o137, ())))).bind fun r264 =>
 rec (steps17, (slots18, ((IntKind.wrap .i64 (i19 + (1 : Int))), (o248, (o168, (r264.2.1, (r264.1, ())))))))
 else bif (decide ((gt lines1 i19).1 = (4 : Int))) then bif (decide ((0 : Int) ≤ (IntKind.wrap .i64 ((o248.length : Int) - (1 : Int))))) then bif (decide ((IntKind.wrap .i64 ((o248.length : Int) - (1 : Int))) < (o248.length : Int))) then bif (decide ((0 : Int) ≤ (gt o248 (IntKind.wrap .i64 ((o248.length : Int) - (1 : Int)))).1)) then bif (decide ((gt o248 (IntKind.wrap .i64 ((o248.length : Int) - (1 : Int)))).1 < (lines1.length : Int))) then bif (decide ((gt lines1 (gt o248 (IntKind.wrap .i64 ((o248.length : Int) - (1 : Int)))).1).1 = (5 : Int))) then (itN (n_sM16 N (n11, (o248, ((gt o248 (IntKind.wrap .i64 ((o248.length : Int) - (1 : Int)))).1, ((IntKind.wrap .i64 ((o248.length : Int) - (1 : Int))), ((gt o248 (IntKind.wrap .i64 ((o248.length : Int) - (1 : Int)))).2.2, (o185, ()))))))) N (false, ((0 : Int), ()))).bind fun r265 =>
 bif r265.1 then bif (decide ((0 : Int) ≤ (gt o248 (IntKind.wrap .i64 ((o248.length : Int) - (1 : Int)))).1)) then bif (decide ((gt o248 (IntKind.wrap .i64 ((o248.length : Int) - (1 : Int)))).1 < (lines1.length : Int))) then bif (decide ((gt o248 (IntKind.wrap .i64 ((o248.length : Int) - (1 : Int)))).2.2 < (gt lines1 (gt o248 (IntKind.wrap .i64 ((o248.length : Int) - (1 : Int)))).1).2.2.2.2)) then bif (decide ((0 : Int) ≤ (IntKind.wrap .i64 ((o248.length : Int) - (1 : Int))))) then bif (decide ((IntKind.wrap .i64 ((o248.length : Int) - (1 : Int))) < (o248.length : Int))) then bif (decide ((0 : Int) ≤ (IntKind.wrap .i64 ((o248.length : Int) - (1 : Int))))) then bif (decide ((IntKind.wrap .i64 ((o248.length : Int) - (1 : Int))) < (o248.length : Int))) then (itN (n_sM19 N (n11, ((o248.set (IntKind.wrap .i64 ((o248.length : Int) - (1 : Int))).toNat ((gt o248 (IntKind.wrap .i64 ((o248.length : Int) - (1 : Int)))).1, ((gt o248 (IntKind.wrap .i64 ((o248.length : Int) - (1 : Int)))).2.1, (IntKind.wrap .i64 ((gt o248 (IntKind.wrap .i64 ((o248.length : Int) - (1 : Int)))).2.2 + (1 : Int)))))), ((gt o248 (IntKind.wrap .i64 ((o248.length : Int) - (1 : Int)))).1, ((IntKind.wrap .i64 ((o248.length : Int) - (1 : Int))), ((gt o248 (IntKind.wrap .i64 ((o248.length : Int) - (1 : Int)))).2.2, (o185, ()))))))) N ((0 : Int), (o137, ()))).bind fun r266 =>
 rec (steps17, (slots18, ((IntKind.wrap .i64 ((gt o248 (IntKind.wrap .i64 ((o248.length : Int) - (1 : Int)))).1 + (1 : Int))), ((o248.set (IntKind.wrap .i64 ((o248.length : Int) - (1 : Int))).toNat ((gt o248 (IntKind.wrap .i64 ((o248.length : Int) - (1 : Int)))).1, ((gt o248 (IntKind.wrap .i64 ((o248.length : Int) - (1 : Int)))).2.1, (IntKind.wrap .i64 ((gt o248 (IntKind.wrap .i64 ((o248.length : Int) - (1 : Int)))).2.2 + (1 : Int)))))), (o168, (r266.1, (o185, ())))))))
 else none
 else none
 else none
 else none
 else (itN (n_sM20 N (n11, (o248, ((gt o248 (IntKind.wrap .i64 ((o248.length : Int) - (1 : Int)))).1, ((IntKind.wrap .i64 ((o248.length : Int) - (1 : Int))), ((gt o248 (IntKind.wrap .i64 ((o248.length : Int) - (1 : Int)))).2.2, ())))))) N ((0 : Int), (o185, ()))).bind fun r267 =>
 (itN (n_sM21 N (n11, (o248, ((gt o248 (IntKind.wrap .i64 ((o248.length : Int) - (1 : Int)))).1, ((IntKind.wrap .i64 ((o248.length : Int) - (1 : Int))), ((gt o248 (IntKind.wrap .i64 ((o248.length : Int) - (1 : Int)))).2.2, (r267.1, ()))))))) N ((0 : Int), (o137, ()))).bind fun r268 =>
 bif (decide ((0 : Int) ≤ (IntKind.wrap .i64 ((o248.length : Int) - (1 : Int))))) then bif (decide ((IntKind.wrap .i64 ((o248.length : Int) - (1 : Int))) ≤ (o248.length : Int))) then rec (steps17, (slots18, ((IntKind.wrap .i64 (i19 + (1 : Int))), ((o248.take (IntKind.wrap .i64 ((o248.length : Int) - (1 : Int))).toNat), (o168, (r268.1, (r267.1, ())))))))
 else none
 else none
 else none
 else none
 else (itN (n_sM20 N (n11, (o248, ((gt o248 (IntKind.wrap .i64 ((o248.length : Int) - (1 : Int)))).1, ((IntKind.wrap .i64 ((o248.length : Int) - (1 : Int))), ((gt o248 (IntKind.wrap .i64 ((o248.length : Int) - (1 : Int)))).2.2, ())))))) N ((0 : Int), (o185, ()))).bind fun r269 =>
 (itN (n_sM21 N (n11, (o248, ((gt o248 (IntKind.wrap .i64 ((o248.length : Int) - (1 : Int)))).1, ((IntKind.wrap .i64 ((o248.length : Int) - (1 : Int))), ((gt o248 (IntKind.wrap .i64 ((o248.length : Int) - (1 : Int)))).2.2, (r269.1, ()))))))) N ((0 : Int), (o137, ()))).bind fun r270 =>
 bif (decide ((0 : Int) ≤ (IntKind.wrap .i64 ((o248.length : Int) - (1 : Int))))) then bif (decide ((IntKind.wrap .i64 ((o248.length : Int) - (1 : Int))) ≤ (o248.length : Int))) then rec (steps17, (slots18, ((IntKind.wrap .i64 (i19 + (1 : Int))), ((o248.take (IntKind.wrap .i64 ((o248.length : Int) - (1 : Int))).toNat), (o168, (r270.1, (r269.1, ())))))))
 else none
 else none
 else (itN (n_sM17 N (n11, (o248, ((gt o248 (IntKind.wrap .i64 ((o248.length : Int) - (1 : Int)))).1, ((IntKind.wrap .i64 ((o248.length : Int) - (1 : Int))), ((gt o248 (IntKind.wrap .i64 ((o248.length : Int) - (1 : Int)))).2.2, (o185, ()))))))) N ((0 : Int), (o137, ()))).bind fun r271 =>
 bif (decide ((0 : Int) ≤ (IntKind.wrap .i64 ((o248.length : Int) - (1 : Int))))) then bif (decide ((IntKind.wrap .i64 ((o248.length : Int) - (1 : Int))) ≤ (o248.length : Int))) then rec (steps17, (slots18, ((IntKind.wrap .i64 (i19 + (1 : Int))), ((o248.take (IntKind.wrap .i64 ((o248.length : Int) - (1 : Int))).toNat), (o168, (r271.1, (o185, ())))))))
 else none
 else none
 else none
 else none
 else none
 else none
 else rec (steps17, (slots18, ((IntKind.wrap .i64 (i19 + (1 : Int))), (o248, (o168, (o137, (o185, ())))))))
 else none
 else none
 else some (steps17, (slots18, (o168, (o137, (o185, ())))))
theorem s_sM1 (N : Nat) : ∀ σ p rec v, stepL (rn drawQ (mkB (C98 N) [] [(90, [(0, g_sM0 N), (5, altO d_sM12 (g_sM12 N) (g_sM18 N)), (7, g_sM13 N), (9, g_sM14 N), (11, g_sM15 N), (13, g_sM16 N), (19, altO d_sM17 (g_sM17 N) (g_sM21 N)), (15, g_sM19 N), (17, g_sM20 N)])] [] []) 8 90 b90_2) 2 (wr b90_2) d_sM1 (instP σ d_sM1.pm p) rec v = n_sM1 N p rec v := by
 rintro σ ⟨bits0, lines1, n11, p41, _⟩ rec ⟨steps17, slots18, i19, o248, o168, o137, o185, _⟩; kernel_rfl
noncomputable def g_sM1 (N : Nat) : St (Sig.T SS) → Tr (Ex × St (Sig.T SS)) := orcL (wr b90_2) d_sM1 fun p => itN (n_sM1 N p) N
theorem o_sM1 (N : Nat) : Snd QQ (g_sM1 N) (.block 2 (blkOf 2 (blks c90))) := loopP LL DR_ok (KC98 N) (F := []) (J := [(90, [(0, g_sM0 N), (5, altO d_sM12 (g_sM12 N) (g_sM18 N)), (7, g_sM13 N), (9, g_sM14 N), (11, g_sM15 N), (13, g_sM16 N), (19, altO d_sM17 (g_sM17 N) (g_sM21 N)), (15, g_sM19 N), (17, g_sM20 N)])]) (FGood.nil _) (M := []) (R := []) i90 (JGood.cons i90.hd (o_sM0 N) (JGood.cons i90.hd (alt_ok (o_sM12 N) (o_sM18 N)) (JGood.cons i90.hd (o_sM13 N) (JGood.cons i90.hd (o_sM14 N) (JGood.cons i90.hd (o_sM15 N) (JGood.cons i90.hd (o_sM16 N) (JGood.cons i90.hd (alt_ok (o_sM17 N) (o_sM21 N)) (JGood.cons i90.hd (o_sM19 N) (JGood.cons i90.hd (o_sM20 N) (JGood.nil c90)))))))))) e90_2 (s_sM1 N) N
def F_spec_l08Masked (N : Nat) : Int × (List (Int × Int × Int × Int × Int)) × List (List (Int)) × Unit → Option (List (List (Int)) × Int × Int × Unit)
 | (bits0, lines1, vars2, _) =>
 (F_sP N (bits0, (lines1, ()))).bind fun r272 =>
 bif (decide ((vars2.length : Int) ≤ (vars2.length : Int))) then bif (decide (((vars2.length : Int) * (1 : Int)) ≤ (140737488351232 : Int))) then (itN (n_sM0 N (vars2, ((vars2.length : Int), ()))) N ((0 : Int), ([], ((List.replicate (vars2.length : Int).toNat false), ())))).bind fun r273 =>
 bif (decide ((vars2.length : Int) ≤ (vars2.length : Int))) then bif (decide (((vars2.length : Int) * (8 : Int)) ≤ (140737488351232 : Int))) then (itN (n_sM1 N (bits0, (lines1, ((vars2.length : Int), (r272.1, ()))))) N ((0 : Int), ((0 : Int), ((0 : Int), ([], (r273.1, (r273.2.1, ((List.replicate (vars2.length : Int).toNat (0 : Int)), ())))))))).bind fun r274 =>
 some (r274.2.2.1, (r274.1, (r274.2.1, ())))
 else none
 else none
 else none
 else none
theorem t90 (N : Nat) : ∀ v, (fr drawQ (mkB (C98 N) [] [(90, [(0, g_sM0 N), (5, altO d_sM12 (g_sM12 N) (g_sM18 N)), (7, g_sM13 N), (9, g_sM14 N), (11, g_sM15 N), (13, g_sM16 N), (19, altO d_sM17 (g_sM17 N) (g_sM21 N)), (15, g_sM19 N), (17, g_sM20 N), (2, g_sM1 N)])] [] []) 8 90 Try.f90 (instA [.c (.int .i64), .c (.ls 63), .c (.ls 29)] v)).k (matR [.c (.dp 29 0 2), .c (.int .i64), .c (.int .i64)]) = F_spec_l08Masked N v := by
 rintro ⟨bits0, lines1, vars2, _⟩; kernel_rfl
noncomputable def C90 (N : Nat) : CL SS := (90, conG [.c (.int .i64), .c (.ls 63), .c (.ls 29)] [.c (.dp 29 0 2), .c (.int .i64), .c (.int .i64)] (F_spec_l08Masked N)) :: C98 N
theorem KC90 (N : Nat) : COk QQ (C90 N) := COk.cons (conP LL DR_ok (KC98 N) (F := []) (J := [(90, [(0, g_sM0 N), (5, altO d_sM12 (g_sM12 N) (g_sM18 N)), (7, g_sM13 N), (9, g_sM14 N), (11, g_sM15 N), (13, g_sM16 N), (19, altO d_sM17 (g_sM17 N) (g_sM21 N)), (15, g_sM19 N), (17, g_sM20 N), (2, g_sM1 N)])]) (FGood.nil _) (M := []) (R := []) i90 (JGood.cons i90.hd (o_sM0 N) (JGood.cons i90.hd (alt_ok (o_sM12 N) (o_sM18 N)) (JGood.cons i90.hd (o_sM13 N) (JGood.cons i90.hd (o_sM14 N) (JGood.cons i90.hd (o_sM15 N) (JGood.cons i90.hd (o_sM16 N) (JGood.cons i90.hd (alt_ok (o_sM17 N) (o_sM21 N)) (JGood.cons i90.hd (o_sM19 N) (JGood.cons i90.hd (o_sM20 N) (JGood.cons i90.hd (o_sM1 N) (JGood.nil c90))))))))))) (t90 N)) (KC98 N)
noncomputable def c50 : Code := Try.f50.body.getD .skip
theorem i50 : IsF Try.prog 50 Try.f50 c50 := ⟨Try.func50, by kernel_rfl, by kernel_rfl, by kernel_rfl⟩
def F_spec_RunMasked (N : Nat) : Int × (List (Int × Int × Int × Int × Int)) × List (List (Int)) × Unit → Option (List (List (Int)) × Bool × Unit)
 | (bits0, lines1, vars2, _) =>
 (F_spec_l08Many N (bits0, (lines1, (vars2, ())))).bind fun r275 =>
 bif (!r275.1) then some ([], (false, ()))
 else (F_spec_l08Masked N (bits0, (lines1, (vars2, ())))).bind fun r276 =>
 some (r276.1, (true, ()))
theorem t50 (N : Nat) : ∀ v, (fr drawQ (mkB (C90 N) [] [] [] []) 8 50 Try.f50 (instA [.c (.int .i64), .c (.ls 63), .c (.ls 29)] v)).k (matR [.c (.dp 29 0 2), .c (.bool)]) = F_spec_RunMasked N v := by
 rintro ⟨bits0, lines1, vars2, _⟩; kernel_rfl
noncomputable def C50 (N : Nat) : CL SS := (50, conG [.c (.int .i64), .c (.ls 63), .c (.ls 29)] [.c (.dp 29 0 2), .c (.bool)] (F_spec_RunMasked N)) :: C90 N
theorem KC50 (N : Nat) : COk QQ (C50 N) := COk.cons (conP LL DR_ok (KC90 N) (F := []) (J := []) (FGood.nil _) (M := []) (R := []) i50 (JGood.nil c50) (t50 N)) (KC90 N)
noncomputable def c16 : Code := Try.f16.body.getD .skip
theorem i16 : IsF Try.prog 16 Try.f16 c16 := ⟨Try.func16, by kernel_rfl, by kernel_rfl, by kernel_rfl⟩
def F_impl_ValidLines (N : Nat) : Int × (List (Int × Int × Int × Int × Int)) × Unit → Option (Bool × Unit)
 | (bits0, lines1, _) =>
 (F_impl_isBits N (bits0, ())).bind fun r277 =>
 bif (!r277.1) then some (false, ())
 else bif (decide ((lines1.length : Int) > (24 : Int))) then some (false, ())
 else (F_iP N (bits0, (lines1, ()))).bind fun r278 =>
 some (r278.2.1, ())
theorem t16 (N : Nat) : ∀ v, (fr drawQ (mkB (C50 N) [] [] [] []) 8 16 Try.f16 (instA [.c (.int .i64), .c (.ls 63)] v)).k (matR [.c (.bool)]) = F_impl_ValidLines N v := by
 rintro ⟨bits0, lines1, _⟩; kernel_rfl
noncomputable def C16 (N : Nat) : CL SS := (16, conG [.c (.int .i64), .c (.ls 63)] [.c (.bool)] (F_impl_ValidLines N)) :: C50 N
theorem KC16 (N : Nat) : COk QQ (C16 N) := COk.cons (conP LL DR_ok (KC50 N) (F := []) (J := []) (FGood.nil _) (M := []) (R := []) i16 (JGood.nil c16) (t16 N)) (KC50 N)
noncomputable def c116 : Code := Try.f116.body.getD .skip
theorem i116 : IsF Try.prog 116 Try.f116 c116 := ⟨Try.func116, by kernel_rfl, by kernel_rfl, by kernel_rfl⟩
def F_impl_length___int64_ (N : Nat) : List (List (Int)) × Unit → Option (Int × Unit)
 | (list0, _) =>
 some ((list0.length : Int), ())
theorem t116 (N : Nat) : ∀ v, (fr drawQ (mkB (C16 N) [] [] [] []) 8 116 Try.f116 (instA [.c (.ls 29)] v)).k (matR [.c (.int .i64)]) = F_impl_length___int64_ N v := by
 rintro ⟨list0, _⟩; kernel_rfl
noncomputable def C116 (N : Nat) : CL SS := (116, conG [.c (.ls 29)] [.c (.int .i64)] (F_impl_length___int64_ N)) :: C16 N
theorem KC116 (N : Nat) : COk QQ (C116 N) := COk.cons (conP LL DR_ok (KC16 N) (F := []) (J := []) (FGood.nil _) (M := []) (R := []) i116 (JGood.nil c116) (t116 N)) (KC16 N)
noncomputable def c76 : Code := Try.f76.body.getD .skip
theorem i76 : IsF Try.prog 76 Try.f76 c76 := ⟨Try.func76, by kernel_rfl, by kernel_rfl, by kernel_rfl⟩
noncomputable def c109 : Code := Try.f109.body.getD .skip
theorem i109 : IsF Try.prog 109 Try.f109 c109 := ⟨Try.func109, by kernel_rfl, by kernel_rfl, by kernel_rfl⟩
noncomputable def c100 : Code := Try.f100.body.getD .skip
theorem i100 : IsF Try.prog 100 Try.f100 c100 := ⟨Try.func100, by kernel_rfl, by kernel_rfl, by kernel_rfl⟩
noncomputable def c139 : Code := Try.f139.body.getD .skip
theorem i139 : IsF Try.prog 139 Try.f139 c139 := ⟨Try.func139, by kernel_rfl, by kernel_rfl, by kernel_rfl⟩
noncomputable def c138 : Code := Try.f138.body.getD .skip
theorem i138 : IsF Try.prog 138 Try.f138 c138 := ⟨Try.func138, by kernel_rfl, by kernel_rfl, by kernel_rfl⟩
noncomputable def c155 : Code := Try.f155.body.getD .skip
theorem i155 : IsF Try.prog 155 Try.f155 c155 := ⟨Try.func155, by kernel_rfl, by kernel_rfl, by kernel_rfl⟩
noncomputable def b155_0 : Code := unLoop (blkOf 0 (blks c155))
theorem e155_0 : blkOf 0 (blks c155) = .loop b155_0 := by kernel_rfl
def d_impl_areVars_0 : LoopD := ⟨160, ⟨[(0, .c (.rd 2 [(0, 0)])), (1, .c (.fn 139 [65])), (7, .c (.int .i64))], [(1, 1, .var 2 [.int .i64]), (65, 65, .var 66 [.fn 109 [1]]), (0, 0, .ext)], 19⟩, ⟨[(8, .c (.int .i64))], [], 168⟩, [], [0, 65, 1], [⟨.ret, ⟨[(4, .c (.int .i64))], [], 168⟩, [], [0, 65, 1]⟩, ⟨.norm, ⟨[], [], 168⟩, [], [0, 65, 1]⟩]⟩
def n_impl_areVars_0 (N : Nat) : List (Int) × Int × Int × Unit → (Int × Unit → Option ((Int × Unit) ⊕ (Unit))) → Int × Unit → Option ((Int × Unit) ⊕ (Unit))
 | (s0, t7, p1, _), rec, (t8, _) =>
 bif (decide (t8 < t7)) then bif (decide ((0 : Int) ≤ t8)) then bif (decide (t8 < (s0.length : Int))) then (F_impl_IsWord N (p1, ((gt s0 t8), ()))).bind fun r279 =>
 bif (!r279.1) then some (.inl (t8, ()))
 else rec ((IntKind.wrap .i64 (t8 + (1 : Int))), ())
 else none
 else none
 else some (.inr ())
theorem s_impl_areVars_0 (N : Nat) : ∀ σ p rec v, stepL (rn drawQ (mkB (C116 N) [(109, Try.f109), (100, Try.f100), (139, Try.f139), (138, Try.f138), (155, Try.f155)] [] [] []) 8 155 b155_0) 0 (wr b155_0) d_impl_areVars_0 (instP σ d_impl_areVars_0.pm p) rec v = n_impl_areVars_0 N p rec v := by
 rintro σ ⟨s0, t7, p1, _⟩ rec ⟨t8, _⟩; kernel_rfl
noncomputable def g_impl_areVars_0 (N : Nat) : St (Sig.T SS) → Tr (Ex × St (Sig.T SS)) := orcL (wr b155_0) d_impl_areVars_0 fun p => itN (n_impl_areVars_0 N p) N
theorem o_impl_areVars_0 (N : Nat) : Snd QQ (g_impl_areVars_0 N) (.block 0 (blkOf 0 (blks c155))) := loopP LL DR_ok (KC116 N) (F := [(109, Try.f109), (100, Try.f100), (139, Try.f139), (138, Try.f138), (155, Try.f155)]) (J := []) (FGood.cons i109 (JGood.nil c109) (FGood.cons i100 (JGood.nil c100) (FGood.cons i139 (JGood.nil c139) (FGood.cons i138 (JGood.nil c138) (FGood.cons i155 (JGood.nil c155) (FGood.nil _)))))) (M := []) (R := []) i155 (JGood.nil c155) e155_0 (s_impl_areVars_0 N) N
def F_impl_areVars (N : Nat) : Int × List (Int) × Unit → Option (Bool × Unit)
 | (bits0, vars1, _) =>
 bif (decide ((vars1.length : Int) = (8 : Int))) then (itN (n_impl_areVars_0 N (vars1, ((vars1.length : Int), (bits0, ())))) N ((0 : Int), ())).bind fun r280 =>
 bif r280.isLeft then r280.getLeft?.bind fun r281 =>
 some ((!(decide (r281.1 ≥ (0 : Int)))), ())
 else r280.getRight?.bind fun r282 =>
 some ((!(decide ((-(1 : Int)) ≥ (0 : Int)))), ())
 else some (false, ())
theorem t76 (N : Nat) : ∀ v, (fr drawQ (mkB (C116 N) [(109, Try.f109), (100, Try.f100), (139, Try.f139), (138, Try.f138), (155, Try.f155)] [(155, [(0, g_impl_areVars_0 N)])] [] []) 8 76 Try.f76 (instA [.c (.int .i64), .c (.ls 2)] v)).k (matR [.c (.bool)]) = F_impl_areVars N v := by
 rintro ⟨bits0, vars1, _⟩; kernel_rfl
noncomputable def C76 (N : Nat) : CL SS := (76, conG [.c (.int .i64), .c (.ls 2)] [.c (.bool)] (F_impl_areVars N)) :: C116 N
theorem KC76 (N : Nat) : COk QQ (C76 N) := COk.cons (conP LL DR_ok (KC116 N) (F := [(109, Try.f109), (100, Try.f100), (139, Try.f139), (138, Try.f138), (155, Try.f155)]) (J := [(155, [(0, g_impl_areVars_0 N)])]) (FGood.cons i109 (JGood.nil c109) (FGood.cons i100 (JGood.nil c100) (FGood.cons i139 (JGood.nil c139) (FGood.cons i138 (JGood.nil c138) (FGood.cons i155 (JGood.cons i155.hd (o_impl_areVars_0 N) (JGood.nil c155)) (FGood.nil _)))))) (M := []) (R := []) i76 (JGood.nil c76) (t76 N)) (KC116 N)
noncomputable def c82 : Code := Try.f82.body.getD .skip
theorem i82 : IsF Try.prog 82 Try.f82 c82 := ⟨Try.func82, by kernel_rfl, by kernel_rfl, by kernel_rfl⟩
noncomputable def c117 : Code := Try.f117.body.getD .skip
theorem i117 : IsF Try.prog 117 Try.f117 c117 := ⟨Try.func117, by kernel_rfl, by kernel_rfl, by kernel_rfl⟩
noncomputable def c84 : Code := Try.f84.body.getD .skip
theorem i84 : IsF Try.prog 84 Try.f84 c84 := ⟨Try.func84, by kernel_rfl, by kernel_rfl, by kernel_rfl⟩
noncomputable def c122 : Code := Try.f122.body.getD .skip
theorem i122 : IsF Try.prog 122 Try.f122 c122 := ⟨Try.func122, by kernel_rfl, by kernel_rfl, by kernel_rfl⟩
noncomputable def c121 : Code := Try.f121.body.getD .skip
theorem i121 : IsF Try.prog 121 Try.f121 c121 := ⟨Try.func121, by kernel_rfl, by kernel_rfl, by kernel_rfl⟩
noncomputable def c154 : Code := Try.f154.body.getD .skip
theorem i154 : IsF Try.prog 154 Try.f154 c154 := ⟨Try.func154, by kernel_rfl, by kernel_rfl, by kernel_rfl⟩
noncomputable def b154_0 : Code := unLoop (blkOf 0 (blks c154))
theorem e154_0 : blkOf 0 (blks c154) = .loop b154_0 := by kernel_rfl
def d_impl_areAllVars_0 : LoopD := ⟨200, ⟨[(0, .c (.rd 29 [(0, 0)])), (1, .c (.fn 122 [105])), (7, .c (.int .i64))], [(1, 1, .var 2 [.int .i64]), (105, 105, .var 82 [.fn 117 [1]]), (0, 0, .ext)], 19⟩, ⟨[(8, .c (.int .i64))], [], 208⟩, [], [0, 105, 1], [⟨.ret, ⟨[(4, .c (.int .i64))], [], 208⟩, [], [0, 105, 1]⟩, ⟨.norm, ⟨[], [], 208⟩, [], [0, 105, 1]⟩]⟩
def n_impl_areAllVars_0 (N : Nat) : List (List (Int)) × Int × Int × Unit → (Int × Unit → Option ((Int × Unit) ⊕ (Unit))) → Int × Unit → Option ((Int × Unit) ⊕ (Unit))
 | (s0, t7, p1, _), rec, (t8, _) =>
 bif (decide (t8 < t7)) then bif (decide ((0 : Int) ≤ t8)) then bif (decide (t8 < (s0.length : Int))) then (F_impl_areVars N (p1, ((gt s0 t8), ()))).bind fun r286 =>
 bif (!r286.1) then some (.inl (t8, ()))
 else rec ((IntKind.wrap .i64 (t8 + (1 : Int))), ())
 else none
 else none
 else some (.inr ())
theorem s_impl_areAllVars_0 (N : Nat) : ∀ σ p rec v, stepL (rn drawQ (mkB (C76 N) [(117, Try.f117), (84, Try.f84), (122, Try.f122), (121, Try.f121), (154, Try.f154)] [] [] []) 8 154 b154_0) 0 (wr b154_0) d_impl_areAllVars_0 (instP σ d_impl_areAllVars_0.pm p) rec v = n_impl_areAllVars_0 N p rec v := by
 rintro σ ⟨s0, t7, p1, _⟩ rec ⟨t8, _⟩; kernel_rfl
noncomputable def g_impl_areAllVars_0 (N : Nat) : St (Sig.T SS) → Tr (Ex × St (Sig.T SS)) := orcL (wr b154_0) d_impl_areAllVars_0 fun p => itN (n_impl_areAllVars_0 N p) N
theorem o_impl_areAllVars_0 (N : Nat) : Snd QQ (g_impl_areAllVars_0 N) (.block 0 (blkOf 0 (blks c154))) := loopP LL DR_ok (KC76 N) (F := [(117, Try.f117), (84, Try.f84), (122, Try.f122), (121, Try.f121), (154, Try.f154)]) (J := []) (FGood.cons i117 (JGood.nil c117) (FGood.cons i84 (JGood.nil c84) (FGood.cons i122 (JGood.nil c122) (FGood.cons i121 (JGood.nil c121) (FGood.cons i154 (JGood.nil c154) (FGood.nil _)))))) (M := []) (R := []) i154 (JGood.nil c154) e154_0 (s_impl_areAllVars_0 N) N
def F_impl_areAllVars (N : Nat) : Int × (List (Int × Int × Int × Int × Int)) × List (List (Int)) × Unit → Option (Bool × Unit)
 | (bits0, lines1, vars2, _) =>
 (F_impl_ValidLines N (bits0, (lines1, ()))).bind fun r287 =>
 bif r287.1 then (F_impl_length___int64_ N (vars2, ())).bind fun r288 =>
 (F_impl_within N (r288.1, ((1 : Int), ((16 : Int), ())))).bind fun r289 =>
 bif r289.1 then (itN (n_impl_areAllVars_0 N (vars2, ((vars2.length : Int), (bits0, ())))) N ((0 : Int), ())).bind fun r290 =>
 bif r290.isLeft then r290.getLeft?.bind fun r291 =>
 some ((!(decide (r291.1 ≥ (0 : Int)))), ())
 else r290.getRight?.bind fun r292 =>
 some ((!(decide ((-(1 : Int)) ≥ (0 : Int)))), ())
 else some (false, ())
 else some (false, ())
theorem t82 (N : Nat) : ∀ v, (fr drawQ (mkB (C76 N) [(117, Try.f117), (84, Try.f84), (122, Try.f122), (121, Try.f121), (154, Try.f154)] [(154, [(0, g_impl_areAllVars_0 N)])] [] []) 8 82 Try.f82 (instA [.c (.int .i64), .c (.ls 63), .c (.ls 29)] v)).k (matR [.c (.bool)]) = F_impl_areAllVars N v := by
 rintro ⟨bits0, lines1, vars2, _⟩; kernel_rfl
noncomputable def C82 (N : Nat) : CL SS := (82, conG [.c (.int .i64), .c (.ls 63), .c (.ls 29)] [.c (.bool)] (F_impl_areAllVars N)) :: C76 N
theorem KC82 (N : Nat) : COk QQ (C82 N) := COk.cons (conP LL DR_ok (KC76 N) (F := [(117, Try.f117), (84, Try.f84), (122, Try.f122), (121, Try.f121), (154, Try.f154)]) (J := [(154, [(0, g_impl_areAllVars_0 N)])]) (FGood.cons i117 (JGood.nil c117) (FGood.cons i84 (JGood.nil c84) (FGood.cons i122 (JGood.nil c122) (FGood.cons i121 (JGood.nil c121) (FGood.cons i154 (JGood.cons i154.hd (o_impl_areAllVars_0 N) (JGood.nil c154)) (FGood.nil _)))))) (M := []) (R := []) i82 (JGood.nil c82) (t82 N)) (KC76 N)
noncomputable def c41 : Code := Try.f41.body.getD .skip
theorem i41 : IsF Try.prog 41 Try.f41 c41 := ⟨Try.func41, by kernel_rfl, by kernel_rfl, by kernel_rfl⟩
noncomputable def c83 : Code := Try.f83.body.getD .skip
theorem i83 : IsF Try.prog 83 Try.f83 c83 := ⟨Try.func83, by kernel_rfl, by kernel_rfl, by kernel_rfl⟩
noncomputable def c120 : Code := Try.f120.body.getD .skip
theorem i120 : IsF Try.prog 120 Try.f120 c120 := ⟨Try.func120, by kernel_rfl, by kernel_rfl, by kernel_rfl⟩
noncomputable def c147 : Code := Try.f147.body.getD .skip
theorem i147 : IsF Try.prog 147 Try.f147 c147 := ⟨Try.func147, by kernel_rfl, by kernel_rfl, by kernel_rfl⟩
noncomputable def c150 : Code := Try.f150.body.getD .skip
theorem i150 : IsF Try.prog 150 Try.f150 c150 := ⟨Try.func150, by kernel_rfl, by kernel_rfl, by kernel_rfl⟩
noncomputable def c110 : Code := Try.f110.body.getD .skip
theorem i110 : IsF Try.prog 110 Try.f110 c110 := ⟨Try.func110, by kernel_rfl, by kernel_rfl, by kernel_rfl⟩
noncomputable def c148 : Code := Try.f148.body.getD .skip
theorem i148 : IsF Try.prog 148 Try.f148 c148 := ⟨Try.func148, by kernel_rfl, by kernel_rfl, by kernel_rfl⟩
noncomputable def c152 : Code := Try.f152.body.getD .skip
theorem i152 : IsF Try.prog 152 Try.f152 c152 := ⟨Try.func152, by kernel_rfl, by kernel_rfl, by kernel_rfl⟩
noncomputable def c153 : Code := Try.f153.body.getD .skip
theorem i153 : IsF Try.prog 153 Try.f153 c153 := ⟨Try.func153, by kernel_rfl, by kernel_rfl, by kernel_rfl⟩
noncomputable def b83_0 : Code := unLoop (blkOf 0 (blks c83))
theorem e83_0 : blkOf 0 (blks c83) = .loop b83_0 := by kernel_rfl
noncomputable def b147_0 : Code := unLoop (blkOf 0 (blks c147))
theorem e147_0 : blkOf 0 (blks c147) = .loop b147_0 := by kernel_rfl
def d_iR7 : LoopD := ⟨648, ⟨[(0, .c (.ptr 233 0)), (3, .c (.ptr 450 0)), (19, .c (.row 264)), (20, .c (.int .i64))], [(265, 264, .deep 137 3 4 [] 264), (105, 105, .row 2 []), (0, 0, .ext), (264, 264, .row 4 []), (450, 450, .var 63 [.int .i64, .int .i64, .int .i64, .int .i64, .int .i64])], 48⟩, ⟨[(21, .c (.int .i64))], [(233, .var 95 [.int .i64, .rd 63 [(0, 0)], .row 105, .row 185, .row 264, .row 265, .int .i64, .int .i64]), (185, .deep 29 0 2 [] 185)], 656⟩, [], [233, 450, 264, 0, 105, 185, 265], [⟨.norm, ⟨[], [(233, .var 95 [.int .i64, .rd 63 [(0, 0)], .row 105, .row 185, .row 264, .row 265, .int .i64, .int .i64]), (185, .deep 29 0 2 [] 185)], 656⟩, [], [233, 450, 264, 0, 105, 185, 265]⟩]⟩
def n_iR7 (N : Nat) : Int × (List (Bool × List (Bool) × List (Bool) × List (Bool) × Int)) × List (Int) × List (Bool) × Int × Int × Int × Int × Int × Unit → (Int × Int × (List (Int × Int × Int × Int × Int)) × Int × Int × List (List (Int)) × Unit → Option ((Int × (List (Int × Int × Int × Int × Int)) × Int × Int × List (List (Int)) × Unit))) → Int × Int × (List (Int × Int × Int × Int × Int)) × Int × Int × List (List (Int)) × Unit → Option ((Int × (List (Int × Int × Int × Int × Int)) × Int × Int × List (List (Int)) × Unit))
 | (t20, p265, p105, p264, p450, p450c1, p450c2, p450c3, p450c4, _), rec, (t21, o233, o233c1, o233c2, o233c3, o185, _) =>
 bif (decide (t21 < t20)) then bif (decide ((0 : Int) ≤ t21)) then bif (decide (t21 < (p264.length : Int))) then bif (gt p264 t21) then bif (decide ((0 : Int) ≤ t21)) then bif (decide (t21 < (o185.length : Int))) then bif (decide (p450 = (1 : Int))) then bif (decide ((0 : Int) ≤ p450c1)) then bif (decide (p450c1 < ((gt o185 t21).length : Int))) then rec ((IntKind.wrap .i64 (t21 + (1 : Int))), (o233, (o233c1, (o233c2, ((IntKind.wrap .i64 (o233c3 + (1 : Int))), ((o185.set t21.toNat ((gt o185 t21).set p450c1.toNat p450c4)), ()))))))
 else none
 else none
 else bif (decide ((0 : Int) ≤ p450c3)) then bif (decide (p450c3 < ((gt o185 t21).length : Int))) then bif (decide ((0 : Int) ≤ p450c4)) then bif (decide (p450c4 < ((gt o185 t21).length : Int))) then (F_impl_result N (p450c2, (o233, ((gt (gt o185 t21) p450c3), ((gt (gt o185 t21) p450c4), ()))))).bind fun r349 =>
 bif (decide ((0 : Int) ≤ p450c1)) then bif (decide (p450c1 < ((gt o185 t21).length : Int))) then rec ((IntKind.wrap .i64 (t21 + (1 : Int))), (o233, (o233c1, (o233c2, ((IntKind.wrap .i64 (o233c3 + (1 : Int))), ((o185.set t21.toNat ((gt o185 t21).set p450c1.toNat r349.1)), ()))))))
 else none
 else none
 else none
 else none
 else none
 else none
 else none
 else none
 else rec ((IntKind.wrap .i64 (t21 + (1 : Int))), (o233, (o233c1, (o233c2, (o233c3, (o185, ()))))))
 else none
 else none
 else some (o233, (o233c1, (o233c2, (o233c3, (o185, ())))))
theorem s_iR7 (N : Nat) : ∀ σ p rec v, stepL (rn drawQ (mkB (C82 N) [(83, Try.f83), (120, Try.f120), (147, Try.f147), (150, Try.f150), (110, Try.f110), (148, Try.f148), (152, Try.f152), (153, Try.f153)] [] [] []) 8 147 b147_0) 0 (wr b147_0) d_iR7 (instP σ d_iR7.pm p) rec v = n_iR7 N p rec v := by
 rintro σ ⟨t20, p265, p105, p264, p450, p450c1, p450c2, p450c3, p450c4, _⟩ rec ⟨t21, o233, o233c1, o233c2, o233c3, o185, _⟩; kernel_rfl
noncomputable def g_iR7 (N : Nat) : St (Sig.T SS) → Tr (Ex × St (Sig.T SS)) := orcL (wr b147_0) d_iR7 fun p => itN (n_iR7 N p) N
theorem o_iR7 (N : Nat) : Snd QQ (g_iR7 N) (.block 0 (blkOf 0 (blks c147))) := loopP LL DR_ok (KC82 N) (F := [(83, Try.f83), (120, Try.f120), (147, Try.f147), (150, Try.f150), (110, Try.f110), (148, Try.f148), (152, Try.f152), (153, Try.f153)]) (J := []) (FGood.cons i83 (JGood.nil c83) (FGood.cons i120 (JGood.nil c120) (FGood.cons i147 (JGood.nil c147) (FGood.cons i150 (JGood.nil c150) (FGood.cons i110 (JGood.nil c110) (FGood.cons i148 (JGood.nil c148) (FGood.cons i152 (JGood.nil c152) (FGood.cons i153 (JGood.nil c153) (FGood.nil _))))))))) (M := []) (R := []) i147 (JGood.nil c147) e147_0 (s_iR7 N) N
noncomputable def b148_0 : Code := unLoop (blkOf 0 (blks c148))
theorem e148_0 : blkOf 0 (blks c148) = .loop b148_0 := by kernel_rfl
def d_iR8 : LoopD := ⟨608, ⟨[(0, .c (.ptr 233 0)), (3, .c (.ptr 482 0)), (5, .c (.row 538)), (17, .c (.row 264)), (18, .c (.int .i64))], [(265, 264, .deep 137 3 4 [] 264), (185, 264, .deep 29 0 2 [] 185), (105, 105, .row 2 []), (0, 0, .ext), (264, 264, .row 4 []), (482, 482, .var 63 [.int .i64, .int .i64, .int .i64, .int .i64, .int .i64]), (233, 264, .var 95 [.int .i64, .rd 63 [(0, 0)], .row 105, .row 185, .row 264, .row 265, .int .i64, .int .i64])], 61⟩, ⟨[(19, .c (.int .i64))], [(538, .row 4 [])], 616⟩, [], [233, 482, 538, 264, 0, 105, 185, 265], [⟨.norm, ⟨[], [(538, .row 4 [])], 616⟩, [], [233, 482, 538, 264, 0, 105, 185, 265]⟩]⟩
def n_iR8 (N : Nat) : Int × (List (Bool × List (Bool) × List (Bool) × List (Bool) × Int)) × List (List (Int)) × List (Int) × List (Bool) × Int × Int × Int × Int × Int × Int × (List (Int × Int × Int × Int × Int)) × Int × Int × Unit → (Int × List (Bool) × Unit → Option ((List (Bool) × Unit))) → Int × List (Bool) × Unit → Option ((List (Bool) × Unit))
 | (t18, p265, p185, p105, p264, p482, p482c1, p482c2, p482c3, p482c4, p233, p233c1, p233c2, p233c3, _), rec, (t19, o538, _) =>
 bif (decide (t19 < t18)) then bif (decide ((0 : Int) ≤ t19)) then bif (decide (t19 < (p264.length : Int))) then bif (gt p264 t19) then bif (decide ((0 : Int) ≤ t19)) then bif (decide (t19 < (p185.length : Int))) then bif (decide ((0 : Int) ≤ p482c3)) then bif (decide (p482c3 < ((gt p185 t19).length : Int))) then bif (decide ((0 : Int) ≤ t19)) then bif (decide (t19 < (p185.length : Int))) then bif (decide ((0 : Int) ≤ p482c4)) then bif (decide (p482c4 < ((gt p185 t19).length : Int))) then (F_impl_holds N (p482c2, (p233, ((gt (gt p185 t19) p482c3), ((gt (gt p185 t19) p482c4), ()))))).bind fun r351 =>
 bif (decide ((0 : Int) ≤ t19)) then bif (decide (t19 < (o538.length : Int))) then rec ((IntKind.wrap .i64 (t19 + (1 : Int))), ((o538.set t19.toNat r351.1), ()))
 else none
 else none
 else none
 else none
 else none
 else none
 else none
 else none
 else none
 else none
 else bif (decide ((0 : Int) ≤ t19)) then bif (decide (t19 < (o538.length : Int))) then rec ((IntKind.wrap .i64 (t19 + (1 : Int))), ((o538.set t19.toNat false), ()))
 else none
 else none
 else none
 else none
 else some (o538, ())
theorem s_iR8 (N : Nat) : ∀ σ p rec v, stepL (rn drawQ (mkB (C82 N) [(83, Try.f83), (120, Try.f120), (147, Try.f147), (150, Try.f150), (110, Try.f110), (148, Try.f148), (152, Try.f152), (153, Try.f153)] [(147, [(0, g_iR7 N)])] [] []) 8 148 b148_0) 0 (wr b148_0) d_iR8 (instP σ d_iR8.pm p) rec v = n_iR8 N p rec v := by
 rintro σ ⟨t18, p265, p185, p105, p264, p482, p482c1, p482c2, p482c3, p482c4, p233, p233c1, p233c2, p233c3, _⟩ rec ⟨t19, o538, _⟩; kernel_rfl
noncomputable def g_iR8 (N : Nat) : St (Sig.T SS) → Tr (Ex × St (Sig.T SS)) := orcL (wr b148_0) d_iR8 fun p => itN (n_iR8 N p) N
theorem o_iR8 (N : Nat) : Snd QQ (g_iR8 N) (.block 0 (blkOf 0 (blks c148))) := loopP LL DR_ok (KC82 N) (F := [(83, Try.f83), (120, Try.f120), (147, Try.f147), (150, Try.f150), (110, Try.f110), (148, Try.f148), (152, Try.f152), (153, Try.f153)]) (J := [(147, [(0, g_iR7 N)])]) (FGood.cons i83 (JGood.nil c83) (FGood.cons i120 (JGood.nil c120) (FGood.cons i147 (JGood.cons i147.hd (o_iR7 N) (JGood.nil c147)) (FGood.cons i150 (JGood.nil c150) (FGood.cons i110 (JGood.nil c110) (FGood.cons i148 (JGood.nil c148) (FGood.cons i152 (JGood.nil c152) (FGood.cons i153 (JGood.nil c153) (FGood.nil _))))))))) (M := []) (R := []) i148 (JGood.nil c148) e148_0 (s_iR8 N) N
noncomputable def b152_0 : Code := unLoop (blkOf 0 (blks c152))
theorem e152_0 : blkOf 0 (blks c152) = .loop b152_0 := by kernel_rfl
def d_iR9 : LoopD := ⟨624, ⟨[(0, .c (.ptr 233 0))], [(265, 264, .deep 137 3 4 [] 264), (264, 264, .row 4 []), (185, 264, .deep 29 0 2 [] 185), (105, 105, .row 2 []), (0, 0, .ext), (233, 264, .var 95 [.int .i64, .rd 63 [(0, 0)], .row 105, .row 185, .row 264, .row 265, .int .i64, .int .i64])], 28⟩, ⟨[(3, .c (.int .i64))], [], 632⟩, [], [233, 0, 105, 185, 264, 265], [⟨.ret, ⟨[(2, .c (.elt 265 137 0))], [], 632⟩, [], [233, 0, 105, 185, 264, 265]⟩, ⟨.norm, ⟨[], [], 632⟩, [], [233, 0, 105, 185, 264, 265]⟩]⟩
def n_iR9 (N : Nat) : (List (Bool × List (Bool) × List (Bool) × List (Bool) × Int)) × List (Bool) × List (List (Int)) × List (Int) × Int × (List (Int × Int × Int × Int × Int)) × Int × Int × Unit → (Int × Unit → Option ((Int × Unit) ⊕ (Unit))) → Int × Unit → Option ((Int × Unit) ⊕ (Unit))
 | (p265, p264, p185, p105, p233, p233c1, p233c2, p233c3, _), rec, (i3, _) =>
 bif (decide (i3 ≥ (0 : Int))) then bif (decide ((0 : Int) ≤ i3)) then bif (decide (i3 < (p265.length : Int))) then bif (gt p265 i3).1 then bif (decide ((0 : Int) ≤ i3)) then bif (decide (i3 < (p265.length : Int))) then some (.inl (i3, ()))
 else none
 else none
 else rec ((IntKind.wrap .i64 (i3 - (1 : Int))), ())
 else none
 else none
 else some (.inr ())
theorem s_iR9 (N : Nat) : ∀ σ p rec v, stepL (rn drawQ (mkB (C82 N) [(83, Try.f83), (120, Try.f120), (147, Try.f147), (150, Try.f150), (110, Try.f110), (148, Try.f148), (152, Try.f152), (153, Try.f153)] [(147, [(0, g_iR7 N)]), (148, [(0, g_iR8 N)])] [] []) 8 152 b152_0) 0 (wr b152_0) d_iR9 (instP σ d_iR9.pm p) rec v = n_iR9 N p rec v := by
 rintro σ ⟨p265, p264, p185, p105, p233, p233c1, p233c2, p233c3, _⟩ rec ⟨i3, _⟩; kernel_rfl
noncomputable def g_iR9 (N : Nat) : St (Sig.T SS) → Tr (Ex × St (Sig.T SS)) := orcL (wr b152_0) d_iR9 fun p => itN (n_iR9 N p) N
theorem o_iR9 (N : Nat) : Snd QQ (g_iR9 N) (.block 0 (blkOf 0 (blks c152))) := loopP LL DR_ok (KC82 N) (F := [(83, Try.f83), (120, Try.f120), (147, Try.f147), (150, Try.f150), (110, Try.f110), (148, Try.f148), (152, Try.f152), (153, Try.f153)]) (J := [(147, [(0, g_iR7 N)]), (148, [(0, g_iR8 N)])]) (FGood.cons i83 (JGood.nil c83) (FGood.cons i120 (JGood.nil c120) (FGood.cons i147 (JGood.cons i147.hd (o_iR7 N) (JGood.nil c147)) (FGood.cons i150 (JGood.nil c150) (FGood.cons i110 (JGood.nil c110) (FGood.cons i148 (JGood.cons i148.hd (o_iR8 N) (JGood.nil c148)) (FGood.cons i152 (JGood.nil c152) (FGood.cons i153 (JGood.nil c153) (FGood.nil _))))))))) (M := []) (R := []) i152 (JGood.nil c152) e152_0 (s_iR9 N) N
def d_iR10 : LoopD := ⟨664, ⟨[(0, .c (.ptr 233 0)), (3, .c (.ptr 466 0)), (19, .c (.row 264)), (20, .c (.int .i64))], [(265, 264, .deep 137 3 4 [] 264), (105, 105, .row 2 []), (0, 0, .ext), (264, 264, .row 4 []), (466, 466, .var 63 [.int .i64, .int .i64, .int .i64, .int .i64, .int .i64])], 48⟩, ⟨[(21, .c (.int .i64))], [(233, .var 95 [.int .i64, .rd 63 [(0, 0)], .row 105, .row 185, .row 264, .row 265, .int .i64, .int .i64]), (185, .deep 29 0 2 [] 185)], 672⟩, [], [233, 466, 264, 0, 105, 185, 265], [⟨.norm, ⟨[], [(233, .var 95 [.int .i64, .rd 63 [(0, 0)], .row 105, .row 185, .row 264, .row 265, .int .i64, .int .i64]), (185, .deep 29 0 2 [] 185)], 672⟩, [], [233, 466, 264, 0, 105, 185, 265]⟩]⟩
def n_iR10 (N : Nat) : Int × (List (Bool × List (Bool) × List (Bool) × List (Bool) × Int)) × List (Int) × List (Bool) × Int × Int × Int × Int × Int × Unit → (Int × Int × (List (Int × Int × Int × Int × Int)) × Int × Int × List (List (Int)) × Unit → Option ((Int × (List (Int × Int × Int × Int × Int)) × Int × Int × List (List (Int)) × Unit))) → Int × Int × (List (Int × Int × Int × Int × Int)) × Int × Int × List (List (Int)) × Unit → Option ((Int × (List (Int × Int × Int × Int × Int)) × Int × Int × List (List (Int)) × Unit))
 | (t20, p265, p105, p264, p466, p466c1, p466c2, p466c3, p466c4, _), rec, (t21, o233, o233c1, o233c2, o233c3, o185, _) =>
 bif (decide (t21 < t20)) then bif (decide ((0 : Int) ≤ t21)) then bif (decide (t21 < (p264.length : Int))) then bif (gt p264 t21) then bif (decide ((0 : Int) ≤ t21)) then bif (decide (t21 < (o185.length : Int))) then bif (decide (p466 = (1 : Int))) then bif (decide ((0 : Int) ≤ p466c1)) then bif (decide (p466c1 < ((gt o185 t21).length : Int))) then rec ((IntKind.wrap .i64 (t21 + (1 : Int))), (o233, (o233c1, (o233c2, ((IntKind.wrap .i64 (o233c3 + (1 : Int))), ((o185.set t21.toNat ((gt o185 t21).set p466c1.toNat p466c4)), ()))))))
 else none
 else none
 else bif (decide ((0 : Int) ≤ p466c3)) then bif (decide (p466c3 < ((gt o185 t21).length : Int))) then bif (decide ((0 : Int) ≤ p466c4)) then bif (decide (p466c4 < ((gt o185 t21).length : Int))) then (F_impl_result N (p466c2, (o233, ((gt (gt o185 t21) p466c3), ((gt (gt o185 t21) p466c4), ()))))).bind fun r370 =>
 bif (decide ((0 : Int) ≤ p466c1)) then bif (decide (p466c1 < ((gt o185 t21).length : Int))) then rec ((IntKind.wrap .i64 (t21 + (1 : Int))), (o233, (o233c1, (o233c2, ((IntKind.wrap .i64 (o233c3 + (1 : Int))), ((o185.set t21.toNat ((gt o185 t21).set p466c1.toNat r370.1)), ()))))))
 else none
 else none
 else none
 else none
 else none
 else none
 else none
 else none
 else rec ((IntKind.wrap .i64 (t21 + (1 : Int))), (o233, (o233c1, (o233c2, (o233c3, (o185, ()))))))
 else none
 else none
 else some (o233, (o233c1, (o233c2, (o233c3, (o185, ())))))
theorem s_iR10 (N : Nat) : ∀ σ p rec v, stepL (rn drawQ (mkB (C82 N) [(83, Try.f83), (120, Try.f120), (147, Try.f147), (150, Try.f150), (110, Try.f110), (148, Try.f148), (152, Try.f152), (153, Try.f153)] [(147, [(0, g_iR7 N)]), (148, [(0, g_iR8 N)]), (152, [(0, g_iR9 N)])] [] []) 8 147 b147_0) 0 (wr b147_0) d_iR10 (instP σ d_iR10.pm p) rec v = n_iR10 N p rec v := by
 rintro σ ⟨t20, p265, p105, p264, p466, p466c1, p466c2, p466c3, p466c4, _⟩ rec ⟨t21, o233, o233c1, o233c2, o233c3, o185, _⟩; kernel_rfl
noncomputable def g_iR10 (N : Nat) : St (Sig.T SS) → Tr (Ex × St (Sig.T SS)) := orcL (wr b147_0) d_iR10 fun p => itN (n_iR10 N p) N
theorem o_iR10 (N : Nat) : Snd QQ (g_iR10 N) (.block 0 (blkOf 0 (blks c147))) := loopP LL DR_ok (KC82 N) (F := [(83, Try.f83), (120, Try.f120), (147, Try.f147), (150, Try.f150), (110, Try.f110), (148, Try.f148), (152, Try.f152), (153, Try.f153)]) (J := [(147, [(0, g_iR7 N)]), (148, [(0, g_iR8 N)]), (152, [(0, g_iR9 N)])]) (FGood.cons i83 (JGood.nil c83) (FGood.cons i120 (JGood.nil c120) (FGood.cons i147 (JGood.cons i147.hd (o_iR7 N) (JGood.nil c147)) (FGood.cons i150 (JGood.nil c150) (FGood.cons i110 (JGood.nil c110) (FGood.cons i148 (JGood.cons i148.hd (o_iR8 N) (JGood.nil c148)) (FGood.cons i152 (JGood.cons i152.hd (o_iR9 N) (JGood.nil c152)) (FGood.cons i153 (JGood.nil c153) (FGood.nil _))))))))) (M := []) (R := []) i147 (JGood.cons i147.hd (o_iR7 N) (JGood.nil c147)) e147_0 (s_iR10 N) N
def d_iR11 : LoopD := ⟨760, ⟨[(0, .c (.ptr 233 0)), (3, .c (.ptr 632 0)), (5, .c (.row 688)), (17, .c (.row 264)), (18, .c (.int .i64))], [(265, 264, .deep 137 3 4 [] 264), (185, 264, .deep 29 0 2 [] 185), (105, 105, .row 2 []), (0, 0, .ext), (264, 264, .row 4 []), (632, 632, .var 63 [.int .i64, .int .i64, .int .i64, .int .i64, .int .i64]), (233, 264, .var 95 [.int .i64, .rd 63 [(0, 0)], .row 105, .row 185, .row 264, .row 265, .int .i64, .int .i64])], 61⟩, ⟨[(19, .c (.int .i64))], [(688, .row 4 [])], 768⟩, [], [233, 632, 688, 264, 0, 105, 185, 265], [⟨.norm, ⟨[], [(688, .row 4 [])], 768⟩, [], [233, 632, 688, 264, 0, 105, 185, 265]⟩]⟩
def n_iR11 (N : Nat) : Int × (List (Bool × List (Bool) × List (Bool) × List (Bool) × Int)) × List (List (Int)) × List (Int) × List (Bool) × Int × Int × Int × Int × Int × Int × (List (Int × Int × Int × Int × Int)) × Int × Int × Unit → (Int × List (Bool) × Unit → Option ((List (Bool) × Unit))) → Int × List (Bool) × Unit → Option ((List (Bool) × Unit))
 | (t18, p265, p185, p105, p264, p632, p632c1, p632c2, p632c3, p632c4, p233, p233c1, p233c2, p233c3, _), rec, (t19, o688, _) =>
 bif (decide (t19 < t18)) then bif (decide ((0 : Int) ≤ t19)) then bif (decide (t19 < (p264.length : Int))) then bif (gt p264 t19) then bif (decide ((0 : Int) ≤ t19)) then bif (decide (t19 < (p185.length : Int))) then bif (decide ((0 : Int) ≤ p632c3)) then bif (decide (p632c3 < ((gt p185 t19).length : Int))) then bif (decide ((0 : Int) ≤ t19)) then bif (decide (t19 < (p185.length : Int))) then bif (decide ((0 : Int) ≤ p632c4)) then bif (decide (p632c4 < ((gt p185 t19).length : Int))) then (F_impl_holds N (p632c2, (p233, ((gt (gt p185 t19) p632c3), ((gt (gt p185 t19) p632c4), ()))))).bind fun r372 =>
 bif (decide ((0 : Int) ≤ t19)) then bif (decide (t19 < (o688.length : Int))) then rec ((IntKind.wrap .i64 (t19 + (1 : Int))), ((o688.set t19.toNat r372.1), ()))
 else none
 else none
 else none
 else none
 else none
 else none
 else none
 else none
 else none
 else none
 else bif (decide ((0 : Int) ≤ t19)) then bif (decide (t19 < (o688.length : Int))) then rec ((IntKind.wrap .i64 (t19 + (1 : Int))), ((o688.set t19.toNat false), ()))
 else none
 else none
 else none
 else none
 else some (o688, ())
theorem s_iR11 (N : Nat) : ∀ σ p rec v, stepL (rn drawQ (mkB (C82 N) [(83, Try.f83), (120, Try.f120), (147, Try.f147), (150, Try.f150), (110, Try.f110), (148, Try.f148), (152, Try.f152), (153, Try.f153)] [(147, [(0, altO d_iR7 (g_iR7 N) (g_iR10 N))]), (148, [(0, g_iR8 N)]), (152, [(0, g_iR9 N)])] [] []) 8 148 b148_0) 0 (wr b148_0) d_iR11 (instP σ d_iR11.pm p) rec v = n_iR11 N p rec v := by
 rintro σ ⟨t18, p265, p185, p105, p264, p632, p632c1, p632c2, p632c3, p632c4, p233, p233c1, p233c2, p233c3, _⟩ rec ⟨t19, o688, _⟩; kernel_rfl
noncomputable def g_iR11 (N : Nat) : St (Sig.T SS) → Tr (Ex × St (Sig.T SS)) := orcL (wr b148_0) d_iR11 fun p => itN (n_iR11 N p) N
theorem o_iR11 (N : Nat) : Snd QQ (g_iR11 N) (.block 0 (blkOf 0 (blks c148))) := loopP LL DR_ok (KC82 N) (F := [(83, Try.f83), (120, Try.f120), (147, Try.f147), (150, Try.f150), (110, Try.f110), (148, Try.f148), (152, Try.f152), (153, Try.f153)]) (J := [(147, [(0, altO d_iR7 (g_iR7 N) (g_iR10 N))]), (148, [(0, g_iR8 N)]), (152, [(0, g_iR9 N)])]) (FGood.cons i83 (JGood.nil c83) (FGood.cons i120 (JGood.nil c120) (FGood.cons i147 (JGood.cons i147.hd (alt_ok (o_iR7 N) (o_iR10 N)) (JGood.nil c147)) (FGood.cons i150 (JGood.nil c150) (FGood.cons i110 (JGood.nil c110) (FGood.cons i148 (JGood.cons i148.hd (o_iR8 N) (JGood.nil c148)) (FGood.cons i152 (JGood.cons i152.hd (o_iR9 N) (JGood.nil c152)) (FGood.cons i153 (JGood.nil c153) (FGood.nil _))))))))) (M := []) (R := []) i148 (JGood.cons i148.hd (o_iR8 N) (JGood.nil c148)) e148_0 (s_iR11 N) N
def d_iR12 : LoopD := ⟨936, ⟨[(0, .c (.ptr 233 0))], [(265, 264, .deep 137 3 4 [] 264), (746, 746, .row 4 []), (185, 264, .deep 29 0 2 [] 185), (105, 105, .row 2 []), (0, 0, .ext), (233, 850, .var 95 [.int .i64, .rd 63 [(0, 0)], .row 105, .row 185, .row 746, .cut 265, .int .i64, .int .i64])], 28⟩, ⟨[(3, .c (.int .i64))], [], 944⟩, [], [233, 0, 105, 185, 746, 265], [⟨.ret, ⟨[(2, .c (.elt 265 137 0))], [], 944⟩, [], [233, 0, 105, 185, 746, 265]⟩, ⟨.norm, ⟨[], [], 944⟩, [], [233, 0, 105, 185, 746, 265]⟩]⟩
def n_iR12 (N : Nat) : (List (Bool × List (Bool) × List (Bool) × List (Bool) × Int)) × List (Bool) × List (List (Int)) × List (Int) × Int × (List (Int × Int × Int × Int × Int)) × Int × Int × Int × Unit → (Int × Unit → Option ((Int × Unit) ⊕ (Unit))) → Int × Unit → Option ((Int × Unit) ⊕ (Unit))
 | (p265, p746, p185, p105, p233, p233c1, p233c2, p233c3, p233c4, _), rec, (i3, _) =>
 bif (decide (i3 ≥ (0 : Int))) then bif (decide ((0 : Int) ≤ i3)) then bif (decide (i3 < p233c2)) then bif (gt p265 i3).1 then bif (decide ((0 : Int) ≤ i3)) then bif (decide (i3 < p233c2)) then some (.inl (i3, ()))
 else none
 else none
 else rec ((IntKind.wrap .i64 (i3 - (1 : Int))), ())
 else none
 else none
 else some (.inr ())
theorem s_iR12 (N : Nat) : ∀ σ p rec v, stepL (rn drawQ (mkB (C82 N) [(83, Try.f83), (120, Try.f120), (147, Try.f147), (150, Try.f150), (110, Try.f110), (148, Try.f148), (152, Try.f152), (153, Try.f153)] [(147, [(0, altO d_iR7 (g_iR7 N) (g_iR10 N))]), (148, [(0, altO d_iR8 (g_iR8 N) (g_iR11 N))]), (152, [(0, g_iR9 N)])] [] []) 8 152 b152_0) 0 (wr b152_0) d_iR12 (instP σ d_iR12.pm p) rec v = n_iR12 N p rec v := by
 rintro σ ⟨p265, p746, p185, p105, p233, p233c1, p233c2, p233c3, p233c4, _⟩ rec ⟨i3, _⟩; kernel_rfl
noncomputable def g_iR12 (N : Nat) : St (Sig.T SS) → Tr (Ex × St (Sig.T SS)) := orcL (wr b152_0) d_iR12 fun p => itN (n_iR12 N p) N
theorem o_iR12 (N : Nat) : Snd QQ (g_iR12 N) (.block 0 (blkOf 0 (blks c152))) := loopP LL DR_ok (KC82 N) (F := [(83, Try.f83), (120, Try.f120), (147, Try.f147), (150, Try.f150), (110, Try.f110), (148, Try.f148), (152, Try.f152), (153, Try.f153)]) (J := [(147, [(0, altO d_iR7 (g_iR7 N) (g_iR10 N))]), (148, [(0, altO d_iR8 (g_iR8 N) (g_iR11 N))]), (152, [(0, g_iR9 N)])]) (FGood.cons i83 (JGood.nil c83) (FGood.cons i120 (JGood.nil c120) (FGood.cons i147 (JGood.cons i147.hd (alt_ok (o_iR7 N) (o_iR10 N)) (JGood.nil c147)) (FGood.cons i150 (JGood.nil c150) (FGood.cons i110 (JGood.nil c110) (FGood.cons i148 (JGood.cons i148.hd (alt_ok (o_iR8 N) (o_iR11 N)) (JGood.nil c148)) (FGood.cons i152 (JGood.cons i152.hd (o_iR9 N) (JGood.nil c152)) (FGood.cons i153 (JGood.nil c153) (FGood.nil _))))))))) (M := []) (R := []) i152 (JGood.cons i152.hd (o_iR9 N) (JGood.nil c152)) e152_0 (s_iR12 N) N
noncomputable def b120_1 : Code := unLoop (blkOf 1 (blks c120))
theorem e120_1 : blkOf 1 (blks c120) = .loop b120_1 := by kernel_rfl
def d_iR13 : LoopD := ⟨832, ⟨[(8, .c (.elt 265 137 0)), (126, .c (.row 688)), (127, .c (.int .i64))], [(688, 760, .row 4 [])], 165⟩, ⟨[(128, .c (.int .i64))], [(265, .deep 137 3 4 [] 264)], 840⟩, [], [265, 688], [⟨.norm, ⟨[], [(265, .deep 137 3 4 [] 264)], 840⟩, [], [265, 688]⟩]⟩
def n_iR13 (N : Nat) : Int × Int × List (Bool) × Unit → (Int × (List (Bool × List (Bool) × List (Bool) × List (Bool) × Int)) × Unit → Option (((List (Bool × List (Bool) × List (Bool) × List (Bool) × Int)) × Unit))) → Int × (List (Bool × List (Bool) × List (Bool) × List (Bool) × Int)) × Unit → Option (((List (Bool × List (Bool) × List (Bool) × List (Bool) × Int)) × Unit))
 | (f8, t127, p688, _), rec, (t128, o265, _) =>
 bif (decide (t128 < t127)) then bif (decide ((0 : Int) ≤ t128)) then bif (decide (t128 < (p688.length : Int))) then bif (decide ((0 : Int) ≤ t128)) then bif (decide (t128 < ((gt o265 f8).2.2.2.1.length : Int))) then bif (gt (gt o265 f8).2.2.2.1 t128) then bif (decide ((0 : Int) ≤ t128)) then bif (decide (t128 < ((gt o265 f8).2.2.2.1.length : Int))) then rec ((IntKind.wrap .i64 (t128 + (1 : Int))), ((o265.set f8.toNat ((gt o265 f8).1, ((gt o265 f8).2.1, ((gt o265 f8).2.2.1, (((gt o265 f8).2.2.2.1.set t128.toNat true), (gt o265 f8).2.2.2.2))))), ()))
 else none
 else none
 else bif (decide ((0 : Int) ≤ t128)) then bif (decide (t128 < ((gt o265 f8).2.2.2.1.length : Int))) then rec ((IntKind.wrap .i64 (t128 + (1 : Int))), ((o265.set f8.toNat ((gt o265 f8).1, ((gt o265 f8).2.1, ((gt o265 f8).2.2.1, (((gt o265 f8).2.2.2.1.set t128.toNat (gt p688 t128)), (gt o265 f8).2.2.2.2))))), ()))
 else none
 else none
 else none
 else none
 else none
 else none
 else some (o265, ())
theorem s_iR13 (N : Nat) : ∀ σ p rec v, stepL (rn drawQ (mkB (C82 N) [(83, Try.f83), (120, Try.f120), (147, Try.f147), (150, Try.f150), (110, Try.f110), (148, Try.f148), (152, Try.f152), (153, Try.f153)] [(147, [(0, altO d_iR7 (g_iR7 N) (g_iR10 N))]), (148, [(0, altO d_iR8 (g_iR8 N) (g_iR11 N))]), (152, [(0, altO d_iR9 (g_iR9 N) (g_iR12 N))])] [] []) 8 120 b120_1) 1 (wr b120_1) d_iR13 (instP σ d_iR13.pm p) rec v = n_iR13 N p rec v := by
 rintro σ ⟨f8, t127, p688, _⟩ rec ⟨t128, o265, _⟩; kernel_rfl
noncomputable def g_iR13 (N : Nat) : St (Sig.T SS) → Tr (Ex × St (Sig.T SS)) := orcL (wr b120_1) d_iR13 fun p => itN (n_iR13 N p) N
theorem o_iR13 (N : Nat) : Snd QQ (g_iR13 N) (.block 1 (blkOf 1 (blks c120))) := loopP LL DR_ok (KC82 N) (F := [(83, Try.f83), (120, Try.f120), (147, Try.f147), (150, Try.f150), (110, Try.f110), (148, Try.f148), (152, Try.f152), (153, Try.f153)]) (J := [(147, [(0, altO d_iR7 (g_iR7 N) (g_iR10 N))]), (148, [(0, altO d_iR8 (g_iR8 N) (g_iR11 N))]), (152, [(0, altO d_iR9 (g_iR9 N) (g_iR12 N))])]) (FGood.cons i83 (JGood.nil c83) (FGood.cons i120 (JGood.nil c120) (FGood.cons i147 (JGood.cons i147.hd (alt_ok (o_iR7 N) (o_iR10 N)) (JGood.nil c147)) (FGood.cons i150 (JGood.nil c150) (FGood.cons i110 (JGood.nil c110) (FGood.cons i148 (JGood.cons i148.hd (alt_ok (o_iR8 N) (o_iR11 N)) (JGood.nil c148)) (FGood.cons i152 (JGood.cons i152.hd (alt_ok (o_iR9 N) (o_iR12 N)) (JGood.nil c152)) (FGood.cons i153 (JGood.nil c153) (FGood.nil _))))))))) (M := []) (R := []) i120 (JGood.nil c120) e120_1 (s_iR13 N) N
def d_iR14 : LoopD := ⟨768, ⟨[(0, .c (.ptr 233 0)), (3, .c (.ptr 640 0)), (5, .c (.row 696)), (17, .c (.row 264)), (18, .c (.int .i64))], [(265, 264, .deep 137 3 4 [] 264), (185, 264, .deep 29 0 2 [] 185), (105, 105, .row 2 []), (0, 0, .ext), (264, 264, .row 4 []), (640, 640, .var 63 [.int .i64, .int .i64, .int .i64, .int .i64, .int .i64]), (233, 264, .var 95 [.int .i64, .rd 63 [(0, 0)], .row 105, .row 185, .row 264, .row 265, .int .i64, .int .i64])], 61⟩, ⟨[(19, .c (.int .i64))], [(696, .row 4 [])], 776⟩, [], [233, 640, 696, 264, 0, 105, 185, 265], [⟨.norm, ⟨[], [(696, .row 4 [])], 776⟩, [], [233, 640, 696, 264, 0, 105, 185, 265]⟩]⟩
def n_iR14 (N : Nat) : Int × (List (Bool × List (Bool) × List (Bool) × List (Bool) × Int)) × List (List (Int)) × List (Int) × List (Bool) × Int × Int × Int × Int × Int × Int × (List (Int × Int × Int × Int × Int)) × Int × Int × Unit → (Int × List (Bool) × Unit → Option ((List (Bool) × Unit))) → Int × List (Bool) × Unit → Option ((List (Bool) × Unit))
 | (t18, p265, p185, p105, p264, p640, p640c1, p640c2, p640c3, p640c4, p233, p233c1, p233c2, p233c3, _), rec, (t19, o696, _) =>
 bif (decide (t19 < t18)) then bif (decide ((0 : Int) ≤ t19)) then bif (decide (t19 < (p264.length : Int))) then bif (gt p264 t19) then bif (decide ((0 : Int) ≤ t19)) then bif (decide (t19 < (p185.length : Int))) then bif (decide ((0 : Int) ≤ p640c3)) then bif (decide (p640c3 < ((gt p185 t19).length : Int))) then bif (decide ((0 : Int) ≤ t19)) then bif (decide (t19 < (p185.length : Int))) then bif (decide ((0 : Int) ≤ p640c4)) then bif (decide (p640c4 < ((gt p185 t19).length : Int))) then (F_impl_holds N (p640c2, (p233, ((gt (gt p185 t19) p640c3), ((gt (gt p185 t19) p640c4), ()))))).bind fun r397 =>
 bif (decide ((0 : Int) ≤ t19)) then bif (decide (t19 < (o696.length : Int))) then rec ((IntKind.wrap .i64 (t19 + (1 : Int))), ((o696.set t19.toNat r397.1), ()))
 else none
 else none
 else none
 else none
 else none
 else none
 else none
 else none
 else none
 else none
 else bif (decide ((0 : Int) ≤ t19)) then bif (decide (t19 < (o696.length : Int))) then rec ((IntKind.wrap .i64 (t19 + (1 : Int))), ((o696.set t19.toNat false), ()))
 else none
 else none
 else none
 else none
 else some (o696, ())
theorem s_iR14 (N : Nat) : ∀ σ p rec v, stepL (rn drawQ (mkB (C82 N) [(83, Try.f83), (120, Try.f120), (147, Try.f147), (150, Try.f150), (110, Try.f110), (148, Try.f148), (152, Try.f152), (153, Try.f153)] [(120, [(1, g_iR13 N)]), (147, [(0, altO d_iR7 (g_iR7 N) (g_iR10 N))]), (148, [(0, altO d_iR8 (g_iR8 N) (g_iR11 N))]), (152, [(0, altO d_iR9 (g_iR9 N) (g_iR12 N))])] [] []) 8 148 b148_0) 0 (wr b148_0) d_iR14 (instP σ d_iR14.pm p) rec v = n_iR14 N p rec v := by
 rintro σ ⟨t18, p265, p185, p105, p264, p640, p640c1, p640c2, p640c3, p640c4, p233, p233c1, p233c2, p233c3, _⟩ rec ⟨t19, o696, _⟩; kernel_rfl
noncomputable def g_iR14 (N : Nat) : St (Sig.T SS) → Tr (Ex × St (Sig.T SS)) := orcL (wr b148_0) d_iR14 fun p => itN (n_iR14 N p) N
theorem o_iR14 (N : Nat) : Snd QQ (g_iR14 N) (.block 0 (blkOf 0 (blks c148))) := loopP LL DR_ok (KC82 N) (F := [(83, Try.f83), (120, Try.f120), (147, Try.f147), (150, Try.f150), (110, Try.f110), (148, Try.f148), (152, Try.f152), (153, Try.f153)]) (J := [(120, [(1, g_iR13 N)]), (147, [(0, altO d_iR7 (g_iR7 N) (g_iR10 N))]), (148, [(0, altO d_iR8 (g_iR8 N) (g_iR11 N))]), (152, [(0, altO d_iR9 (g_iR9 N) (g_iR12 N))])]) (FGood.cons i83 (JGood.nil c83) (FGood.cons i120 (JGood.cons i120.hd (o_iR13 N) (JGood.nil c120)) (FGood.cons i147 (JGood.cons i147.hd (alt_ok (o_iR7 N) (o_iR10 N)) (JGood.nil c147)) (FGood.cons i150 (JGood.nil c150) (FGood.cons i110 (JGood.nil c110) (FGood.cons i148 (JGood.cons i148.hd (alt_ok (o_iR8 N) (o_iR11 N)) (JGood.nil c148)) (FGood.cons i152 (JGood.cons i152.hd (alt_ok (o_iR9 N) (o_iR12 N)) (JGood.nil c152)) (FGood.cons i153 (JGood.nil c153) (FGood.nil _))))))))) (M := []) (R := []) i148 (JGood.cons i148.hd (alt_ok (o_iR8 N) (o_iR11 N)) (JGood.nil c148)) e148_0 (s_iR14 N) N
def d_iR15 : LoopD := ⟨840, ⟨[(8, .c (.np)), (126, .c (.row 696)), (127, .c (.int .i64))], [(696, 768, .row 4 [])], 165⟩, ⟨[(128, .c (.int .i64))], [], 848⟩, [], [696], [⟨.norm, ⟨[], [], 848⟩, [], [696]⟩]⟩
def n_iR15 (N : Nat) : Int × List (Bool) × Unit → (Int × Unit → Option ((Unit))) → Int × Unit → Option ((Unit))
 | (t127, p696, _), rec, (t128, _) =>
 bif (decide (t128 < t127)) then bif (decide ((0 : Int) ≤ t128)) then bif (decide (t128 < (p696.length : Int))) then none
 else none
 else none
 else some ()
theorem s_iR15 (N : Nat) : ∀ σ p rec v, stepL (rn drawQ (mkB (C82 N) [(83, Try.f83), (120, Try.f120), (147, Try.f147), (150, Try.f150), (110, Try.f110), (148, Try.f148), (152, Try.f152), (153, Try.f153)] [(120, [(1, g_iR13 N)]), (147, [(0, altO d_iR7 (g_iR7 N) (g_iR10 N))]), (148, [(0, altO d_iR8 (g_iR8 N) (altO d_iR11 (g_iR11 N) (g_iR14 N)))]), (152, [(0, altO d_iR9 (g_iR9 N) (g_iR12 N))])] [] []) 8 120 b120_1) 1 (wr b120_1) d_iR15 (instP σ d_iR15.pm p) rec v = n_iR15 N p rec v := by
 rintro σ ⟨t127, p696, _⟩ rec ⟨t128, _⟩; kernel_rfl
noncomputable def g_iR15 (N : Nat) : St (Sig.T SS) → Tr (Ex × St (Sig.T SS)) := orcL (wr b120_1) d_iR15 fun p => itN (n_iR15 N p) N
theorem o_iR15 (N : Nat) : Snd QQ (g_iR15 N) (.block 1 (blkOf 1 (blks c120))) := loopP LL DR_ok (KC82 N) (F := [(83, Try.f83), (120, Try.f120), (147, Try.f147), (150, Try.f150), (110, Try.f110), (148, Try.f148), (152, Try.f152), (153, Try.f153)]) (J := [(120, [(1, g_iR13 N)]), (147, [(0, altO d_iR7 (g_iR7 N) (g_iR10 N))]), (148, [(0, altO d_iR8 (g_iR8 N) (altO d_iR11 (g_iR11 N) (g_iR14 N)))]), (152, [(0, altO d_iR9 (g_iR9 N) (g_iR12 N))])]) (FGood.cons i83 (JGood.nil c83) (FGood.cons i120 (JGood.cons i120.hd (o_iR13 N) (JGood.nil c120)) (FGood.cons i147 (JGood.cons i147.hd (alt_ok (o_iR7 N) (o_iR10 N)) (JGood.nil c147)) (FGood.cons i150 (JGood.nil c150) (FGood.cons i110 (JGood.nil c110) (FGood.cons i148 (JGood.cons i148.hd (alt_ok (o_iR8 N) (alt_ok (o_iR11 N) (o_iR14 N))) (JGood.nil c148)) (FGood.cons i152 (JGood.cons i152.hd (alt_ok (o_iR9 N) (o_iR12 N)) (JGood.nil c152)) (FGood.cons i153 (JGood.nil c153) (FGood.nil _))))))))) (M := []) (R := []) i120 (JGood.cons i120.hd (o_iR13 N) (JGood.nil c120)) e120_1 (s_iR15 N) N
def d_iR0 : LoopD := ⟨264, ⟨[(1, .c (.rd 63 [(0, 0)])), (9, .c (.ptr 233 0))], [(105, 105, .row 2 []), (0, 0, .ext)], 38⟩, ⟨[(10, .c (.int .i64))], [(264, .row 4 []), (265, .deep 137 3 4 [] 264), (233, .var 95 [.int .i64, .rd 63 [(0, 0)], .row 105, .row 185, .row 264, .row 265, .int .i64, .int .i64]), (185, .deep 29 0 2 [] 185), (217, .dead)], 274⟩, [(1063493, some 137)], [0, 233, 105, 185], [⟨.norm, ⟨[], [(264, .row 4 []), (265, .deep 137 3 4 [] 264), (233, .var 95 [.int .i64, .rd 63 [(0, 0)], .row 105, .row 185, .row 264, .row 265, .int .i64, .int .i64]), (185, .deep 29 0 2 [] 185), (217, .dead)], 274⟩, [(1063493, some 137)], [0, 233, 105, 185]⟩]⟩
def n_iR0 (N : Nat) : (List (Int × Int × Int × Int × Int)) × List (Int) × Unit → (Int × List (Bool) × (List (Bool × List (Bool) × List (Bool) × List (Bool) × Int)) × Int × (List (Int × Int × Int × Int × Int)) × Int × Int × List (List (Int)) × Unit → Option ((List (Bool) × (List (Bool × List (Bool) × List (Bool) × List (Bool) × Int)) × Int × (List (Int × Int × Int × Int × Int)) × Int × Int × List (List (Int)) × Unit))) → Int × List (Bool) × (List (Bool × List (Bool) × List (Bool) × List (Bool) × Int)) × Int × (List (Int × Int × Int × Int × Int)) × Int × Int × List (List (Int)) × Unit → Option ((List (Bool) × (List (Bool × List (Bool) × List (Bool) × List (Bool) × Int)) × Int × (List (Int × Int × Int × Int × Int)) × Int × Int × List (List (Int)) × Unit))
 | (lines1, p105, _), rec, (at10, o264, o265, o233, o233c1, o233c2, o233c3, o185, _) =>
 bif (decide (at10 < (lines1.length : Int))) then bif (decide ((0 : Int) ≤ at10)) then bif (decide (at10 < (o233c1.length : Int))) then bif (decide ((gt o233c1 at10).1 = (0 : Int))) then (F_slices_Contains___bool_bool_ N (o264, (true, ()))).bind fun r424 =>
 bif (!r424.1) then rec ((IntKind.wrap .i64 (at10 + (1 : Int))), (o264, (o265, (o233, (o233c1, (o233c2, (o233c3, (o185, ()))))))))
 else (itN (n_iR7 N ((o264.length : Int), (o265, (p105, (o264, ((gt o233c1 at10).1, ((gt o233c1 at10).2.1, ((gt o233c1 at10).2.2.1, ((gt o233c1 at10).2.2.2.1, ((gt o233c1 at10).2.2.2.2, ())))))))))) N ((0 : Int), (o233, (o233c1, ((IntKind.wrap .i64 (o233c2 + (1 : Int))), (o233c3, (o185, ()))))))).bind fun r425 =>
 rec ((IntKind.wrap .i64 (at10 + (1 : Int))), (o264, (o265, (r425.1, (r425.2.1, (r425.2.2.1, (r425.2.2.2.1, (r425.2.2.2.2.1, ()))))))))
 else bif (decide ((gt o233c1 at10).1 = (1 : Int))) then (F_slices_Contains___bool_bool_ N (o264, (true, ()))).bind fun r426 =>
 bif (!r426.1) then rec ((IntKind.wrap .i64 (at10 + (1 : Int))), (o264, (o265, (o233, (o233c1, (o233c2, (o233c3, (o185, ()))))))))
 else (itN (n_iR10 N ((o264.length : Int), (o265, (p105, (o264, ((gt o233c1 at10).1, ((gt o233c1 at10).2.1, ((gt o233c1 at10).2.2.1, ((gt o233c1 at10).2.2.2.1, ((gt o233c1 at10).2.2.2.2, ())))))))))) N ((0 : Int), (o233, (o233c1, ((IntKind.wrap .i64 (o233c2 + (1 : Int))), (o233c3, (o185, ()))))))).bind fun r427 =>
 rec ((IntKind.wrap .i64 (at10 + (1 : Int))), (o264, (o265, (r427.1, (r427.2.1, (r427.2.2.1, (r427.2.2.2.1, (r427.2.2.2.2.1, ()))))))))
 else bif (decide ((gt o233c1 at10).1 = (2 : Int))) then bif (decide ((o264.length : Int) ≤ (o264.length : Int))) then bif (decide (((o264.length : Int) * (1 : Int)) ≤ (140737488351232 : Int))) then (itN (n_iR8 N ((o264.length : Int), (o265, (o185, (p105, (o264, ((gt o233c1 at10).1, ((gt o233c1 at10).2.1, ((gt o233c1 at10).2.2.1, ((gt o233c1 at10).2.2.2.1, ((gt o233c1 at10).2.2.2.2, (o233, (o233c1, (o233c2, (o233c3, ()))))))))))))))) N ((0 : Int), ((List.replicate (o264.length : Int).toNat false), ()))).bind fun r428 =>
 bif (decide (((o265.length + 1) * 88) ≤ 140737488351232)) then (F_slices_Clone___bool_bool_ N (r428.1, ())).bind fun r429 =>
 (F_slices_Contains___bool_bool_ N (r429.1, (true, ()))).bind fun r430 =>
 bif (!r430.1) then bif (decide ((0 : Int) ≤ at10)) then bif (decide (at10 < (p105.length : Int))) then rec ((IntKind.wrap .i64 ((IntKind.wrap .i64 ((gt p105 at10) - (1 : Int))) + (1 : Int))), (r429.1, ((o265 ++ ((false, (o264, (r428.1, ([], (0 : Int))))) :: [])), (o233, (o233c1, (o233c2, (o233c3, (o185, ()))))))))
 else none
 else none
 else rec ((IntKind.wrap .i64 (at10 + (1 : Int))), (r429.1, ((o265 ++ ((false, (o264, (r428.1, ([], (0 : Int))))) :: [])), (o233, (o233c1, (o233c2, (o233c3, (o185, ()))))))))
 else none
 else none
 else none
 else bif (decide ((gt o233c1 at10).1 = (3 : Int))) then bif (decide ((0 : Int) ≤ (IntKind.wrap .i64 ((o265.length : Int) - (1 : Int))))) then bif (decide ((IntKind.wrap .i64 ((o265.length : Int) - (1 : Int))) < (o265.length : Int))) then (F_impl_but N ((gt o265 (IntKind.wrap .i64 ((o265.length : Int) - (1 : Int)))).2.1, ((gt o265 (IntKind.wrap .i64 ((o265.length : Int) - (1 : Int)))).2.2.1, ()))).bind fun r431 =>
 (F_slices_Contains___bool_bool_ N (r431.1, (true, ()))).bind fun r432 =>
 bif (!r432.1) then bif (decide ((0 : Int) ≤ at10)) then bif (decide (at10 < (p105.length : Int))) then rec ((IntKind.wrap .i64 ((IntKind.wrap .i64 ((gt p105 at10) - (1 : Int))) + (1 : Int))), (r431.1, (o265, (o233, (o233c1, (o233c2, (o233c3, (o185, ()))))))))
 else none
 else none
 else rec ((IntKind.wrap .i64 (at10 + (1 : Int))), (r431.1, (o265, (o233, (o233c1, (o233c2, (o233c3, (o185, ()))))))))
 else none
 else none
 else bif (decide ((gt o233c1 at10).1 = (5 : Int))) then (F_slices_Clone___bool_bool_ N (o264, ())).bind fun r433 =>
 bif (decide ((o264.length : Int) ≤ (o264.length : Int))) then bif (decide (((o264.length : Int) * (1 : Int)) ≤ (140737488351232 : Int))) then bif (decide (((o265.length + 1) * 88) ≤ 140737488351232)) then rec ((IntKind.wrap .i64 (at10 + (1 : Int))), (o264, ((o265 ++ ((true, (r433.1, ([], ((List.replicate (o264.length : Int).toNat false), (1 : Int))))) :: [])), (o233, (o233c1, (o233c2, (o233c3, (o185, ()))))))))
 else none
 else none
 else none
 else bif (decide ((gt o233c1 at10).1 = (6 : Int))) then (itN (n_iR9 N (o265, (o264, (o185, (p105, (o233, (o233c1, (o233c2, (o233c3, ()))))))))) N ((IntKind.wrap .i64 ((o265.length : Int) - (1 : Int))), ())).bind fun r434 =>
 bif r434.isLeft then r434.getLeft?.bind fun r435 =>
 bif (decide ((o264.length : Int) ≤ (o264.length : Int))) then bif (decide (((o264.length : Int) * (1 : Int)) ≤ (140737488351232 : Int))) then (itN (n_iR11 N ((o264.length : Int), (o265, (o185, (p105, (o264, ((gt o233c1 at10).1, ((gt o233c1 at10).2.1, ((gt o233c1 at10).2.2.1, ((gt o233c1 at10).2.2.2.1, ((gt o233c1 at10).2.2.2.2, (o233, (o233c1, (o233c2, (o233c3, ()))))))))))))))) N ((0 : Int), ((List.replicate (o264.length : Int).toNat false), ()))).bind fun r436 =>
 (itN (n_iR13 N (r435.1, ((r436.1.length : Int), (r436.1, ())))) N ((0 : Int), (o265, ()))).bind fun r437 =>
 (F_impl_but N (o264, (r436.1, ()))).bind fun r438 =>
 rec ((IntKind.wrap .i64 (at10 + (1 : Int))), (r438.1, (r437.1, (o233, (o233c1, (o233c2, (o233c3, (o185, ()))))))))
 else none
 else none
 else r434.getRight?.bind fun r439 =>
 bif (decide ((o264.length : Int) ≤ (o264.length : Int))) then bif (decide (((o264.length : Int) * (1 : Int)) ≤ (140737488351232 : Int))) then (itN (n_iR14 N ((o264.length : Int), (o265, (o185, (p105, (o264, ((gt o233c1 at10).1, ((gt o233c1 at10).2.1, ((gt o233c1 at10).2.2.1, ((gt o233c1 at10).2.2.2.1, ((gt o233c1 at10).2.2.2.2, (o233, (o233c1, (o233c2, (o233c3, ()))))))))))))))) N ((0 : Int), ((List.replicate (o264.length : Int).toNat false), ()))).bind fun r440 =>
 (itN (n_iR15 N ((r440.1.length : Int), (r440.1, ()))) N ((0 : Int), ())).bind fun r441 =>
 (F_impl_but N (o264, (r440.1, ()))).bind fun r442 =>
 rec ((IntKind.wrap .i64 (at10 + (1 : Int))), (r442.1, (o265, (o233, (o233c1, (o233c2, (o233c3, (o185, ()))))))))
 else none
 else none
 else bif (decide ((gt o233c1 at10).1 = (4 : Int))) then bif (decide ((0 : Int) ≤ (IntKind.wrap .i64 ((o265.length : Int) - (1 : Int))))) then bif (decide ((IntKind.wrap .i64 ((o265.length : Int) - (1 : Int))) < (o265.length : Int))) then bif (!(gt o265 (IntKind.wrap .i64 ((o265.length : Int) - (1 : Int)))).1) then (F_slices_Clone___bool_bool_ N ((gt o265 (IntKind.wrap .i64 ((o265.length : Int) - (1 : Int)))).2.1, ())).bind fun r443 =>
 bif (decide ((0 : Int) ≤ (IntKind.wrap .i64 ((o265.length : Int) - (1 : Int))))) then bif (decide ((IntKind.wrap .i64 ((o265.length : Int) - (1 : Int))) ≤ (o265.length : Int))) then (itN (n_iR12 N (o265, (r443.1, (o185, (p105, (o233, (o233c1, ((IntKind.wrap .i64 ((o265.length : Int) - (1 : Int))), (o233c2, (o233c3, ())))))))))) N ((IntKind.wrap .i64 ((IntKind.wrap .i64 ((o265.length : Int) - (1 : Int))) - (1 : Int))), ())).bind fun r444 =>
 bif r444.isLeft then r444.getLeft?.bind fun r445 =>
 (F_impl_but N (r443.1, ((gt o265 r445.1).2.2.2.1, ()))).bind fun r446 =>
 rec ((IntKind.wrap .i64 (at10 + (1 : Int))), (r446.1, ((o265.take (IntKind.wrap .i64 ((o265.length : Int) - (1 : Int))).toNat), (o233, (o233c1, (o233c2, (o233c3, (o185, ()))))))))
 else r444.getRight?.bind fun r447 =>
 rec ((IntKind.wrap .i64 (at10 + (1 : Int))), (r443.1, ((o265.take (IntKind.wrap .i64 ((o265.length : Int) - (1 : Int))).toNat), (o233, (o233c1, (o233c2, (o233c3, (o185, ()))))))))
 else none
 else none
 else bif (decide ((0 : Int) ≤ at10)) then bif (decide (at10 < (p105.length : Int))) then (F_impl_but N ((gt o265 (IntKind.wrap .i64 ((o265.length : Int) - (1 : Int)))).2.1, ((gt o265 (IntKind.wrap .i64 ((o265.length : Int) - (1 : Int)))).2.2.2.1, ()))).bind fun r448 =>
 bif (decide ((0 : Int) ≤ (gt p105 at10))) then bif (decide ((gt p105 at10) < (o233c1.length : Int))) then bif (decide ((gt o265 (IntKind.wrap .i64 ((o265.length : Int) - (1 : Int)))).2.2.2.2 < (gt o233c1 (gt p105 at10)).2.2.2.2)) then (F_slices_Contains___bool_bool_ N (r448.1, (true, ()))).bind fun r449 =>
 bif r449.1 then rec ((IntKind.wrap .i64 ((gt p105 at10) + (1 : Int))), (r448.1, ((o265.set (IntKind.wrap .i64 ((o265.length : Int) - (1 : Int))).toNat ((gt o265 (IntKind.wrap .i64 ((o265.length : Int) - (1 : Int)))).1, ((gt o265 (IntKind.wrap .i64 ((o265.length : Int) - (1 : Int)))).2.1, ((gt o265 (IntKind.wrap .i64 ((o265.length : Int) - (1 : Int)))).2.2.1, ((gt o265 (IntKind.wrap .i64 ((o265.length : Int) - (1 : Int)))).2.2.2.1, (IntKind.wrap .i64 ((gt o265 (IntKind.wrap .i64 ((o265.length : Int) - (1 : Int)))).2.2.2.2 + (1 : Int)))))))), (o233, (o233c1, (o233c2, (o233c3, (o185, ()))))))))
 else (F_slices_Clone___bool_bool_ N ((gt o265 (IntKind.wrap .i64 ((o265.length : Int) - (1 : Int)))).2.1, ())).bind fun r450 =>
 bif (decide ((0 : Int) ≤ (IntKind.wrap .i64 ((o265.length : Int) - (1 : Int))))) then bif (decide ((IntKind.wrap .i64 ((o265.length : Int) - (1 : Int))) ≤ (o265.length : Int))) then rec ((IntKind.wrap .i64 (at10 + (1 : Int))), (r450.1, ((o265.take (IntKind.wrap .i64 ((o265.length : Int) - (1 : Int))).toNat), (o233, (o233c1, (o233c2, (o233c3, (o185, ()))))))))
 else none
 else none
 else (F_slices_Clone___bool_bool_ N ((gt o265 (IntKind.wrap .i64 ((o265.length : Int) - (1 : Int)))).2.1, ())).bind fun r451 =>
 bif (decide ((0 : Int) ≤ (IntKind.wrap .i64 ((o265.length : Int) - (1 : Int))))) then bif (decide ((IntKind.wrap .i64 ((o265.length : Int) - (1 : Int))) ≤ (o265.length : Int))) then rec ((IntKind.wrap .i64 (at10 + (1 : Int))), (r451.1, ((o265.take (IntKind.wrap .i64 ((o265.length : Int) - (1 : Int))).toNat), (o233, (o233c1, (o233c2, (o233c3, (o185, ()))))))))
 else none
 else none
 else none
 else none
 else none
 else none
 else none
 else none
 else rec ((IntKind.wrap .i64 (at10 + (1 : Int))), (o264, (o265, (o233, (o233c1, (o233c2, (o233c3, (o185, ()))))))))
 else none
 else none
 else some (o264, (o265, (o233, (o233c1, (o233c2, (o233c3, (o185, ())))))))
theorem s_iR0 (N : Nat) : ∀ σ p rec v, stepL (rn drawQ (mkB (C82 N) [(83, Try.f83), (120, Try.f120), (147, Try.f147), (150, Try.f150), (110, Try.f110), (148, Try.f148), (152, Try.f152), (153, Try.f153)] [(120, [(1, altO d_iR13 (g_iR13 N) (g_iR15 N))]), (147, [(0, altO d_iR7 (g_iR7 N) (g_iR10 N))]), (148, [(0, altO d_iR8 (g_iR8 N) (altO d_iR11 (g_iR11 N) (g_iR14 N)))]), (152, [(0, altO d_iR9 (g_iR9 N) (g_iR12 N))])] [] []) 8 83 b83_0) 0 (wr b83_0) d_iR0 (instP σ d_iR0.pm p) rec v = n_iR0 N p rec v := by
 rintro σ ⟨lines1, p105, _⟩ rec ⟨at10, o264, o265, o233, o233c1, o233c2, o233c3, o185, _⟩; kernel_rfl
noncomputable def g_iR0 (N : Nat) : St (Sig.T SS) → Tr (Ex × St (Sig.T SS)) := orcL (wr b83_0) d_iR0 fun p => itN (n_iR0 N p) N
theorem o_iR0 (N : Nat) : Snd QQ (g_iR0 N) (.block 0 (blkOf 0 (blks c83))) := loopP LL DR_ok (KC82 N) (F := [(83, Try.f83), (120, Try.f120), (147, Try.f147), (150, Try.f150), (110, Try.f110), (148, Try.f148), (152, Try.f152), (153, Try.f153)]) (J := [(120, [(1, altO d_iR13 (g_iR13 N) (g_iR15 N))]), (147, [(0, altO d_iR7 (g_iR7 N) (g_iR10 N))]), (148, [(0, altO d_iR8 (g_iR8 N) (altO d_iR11 (g_iR11 N) (g_iR14 N)))]), (152, [(0, altO d_iR9 (g_iR9 N) (g_iR12 N))])]) (FGood.cons i83 (JGood.nil c83) (FGood.cons i120 (JGood.cons i120.hd (alt_ok (o_iR13 N) (o_iR15 N)) (JGood.nil c120)) (FGood.cons i147 (JGood.cons i147.hd (alt_ok (o_iR7 N) (o_iR10 N)) (JGood.nil c147)) (FGood.cons i150 (JGood.nil c150) (FGood.cons i110 (JGood.nil c110) (FGood.cons i148 (JGood.cons i148.hd (alt_ok (o_iR8 N) (alt_ok (o_iR11 N) (o_iR14 N))) (JGood.nil c148)) (FGood.cons i152 (JGood.cons i152.hd (alt_ok (o_iR9 N) (o_iR12 N)) (JGood.nil c152)) (FGood.cons i153 (JGood.nil c153) (FGood.nil _))))))))) (M := []) (R := []) i83 (JGood.nil c83) e83_0 (s_iR0 N) N
def F_impl_RunMasked (N : Nat) : Int × (List (Int × Int × Int × Int × Int)) × List (List (Int)) × Unit → Option (List (List (Int)) × Bool × Unit)
 | (bits0, lines1, vars2, _) =>
 (F_impl_areAllVars N (bits0, (lines1, (vars2, ())))).bind fun r452 =>
 bif (!r452.1) then some ([], (false, ()))
 else (F_iP N (bits0, (lines1, ()))).bind fun r453 =>
 (F_impl_clones N (vars2, ())).bind fun r454 =>
 (F_slices_Repeat___bool_bool_ N ((true :: []), ((vars2.length : Int), ()))).bind fun r455 =>
 (itN (n_iR0 N (lines1, (r453.1, ()))) N ((0 : Int), (r455.1, ([], (bits0, (lines1, ((0 : Int), ((0 : Int), (r454.1, ()))))))))).bind fun r456 =>
 some (r456.2.2.2.2.2.2.1, (true, ()))
theorem t41 (N : Nat) : ∀ v, (fr drawQ (mkB (C82 N) [(83, Try.f83), (120, Try.f120), (147, Try.f147), (150, Try.f150), (110, Try.f110), (148, Try.f148), (152, Try.f152), (153, Try.f153)] [(83, [(0, g_iR0 N)]), (120, [(1, altO d_iR13 (g_iR13 N) (g_iR15 N))]), (147, [(0, altO d_iR7 (g_iR7 N) (g_iR10 N))]), (148, [(0, altO d_iR8 (g_iR8 N) (altO d_iR11 (g_iR11 N) (g_iR14 N)))]), (152, [(0, altO d_iR9 (g_iR9 N) (g_iR12 N))])] [] []) 8 41 Try.f41 (instA [.c (.int .i64), .c (.ls 63), .c (.ls 29)] v)).k (matR [.c (.dp 29 0 2), .c (.bool)]) = F_impl_RunMasked N v := by
 rintro ⟨bits0, lines1, vars2, _⟩; kernel_rfl
noncomputable def C41 (N : Nat) : CL SS := (41, conG [.c (.int .i64), .c (.ls 63), .c (.ls 29)] [.c (.dp 29 0 2), .c (.bool)] (F_impl_RunMasked N)) :: C82 N
theorem KC41 (N : Nat) : COk QQ (C41 N) := COk.cons (conP LL DR_ok (KC82 N) (F := [(83, Try.f83), (120, Try.f120), (147, Try.f147), (150, Try.f150), (110, Try.f110), (148, Try.f148), (152, Try.f152), (153, Try.f153)]) (J := [(83, [(0, g_iR0 N)]), (120, [(1, altO d_iR13 (g_iR13 N) (g_iR15 N))]), (147, [(0, altO d_iR7 (g_iR7 N) (g_iR10 N))]), (148, [(0, altO d_iR8 (g_iR8 N) (altO d_iR11 (g_iR11 N) (g_iR14 N)))]), (152, [(0, altO d_iR9 (g_iR9 N) (g_iR12 N))])]) (FGood.cons i83 (JGood.cons i83.hd (o_iR0 N) (JGood.nil c83)) (FGood.cons i120 (JGood.cons i120.hd (alt_ok (o_iR13 N) (o_iR15 N)) (JGood.nil c120)) (FGood.cons i147 (JGood.cons i147.hd (alt_ok (o_iR7 N) (o_iR10 N)) (JGood.nil c147)) (FGood.cons i150 (JGood.nil c150) (FGood.cons i110 (JGood.nil c110) (FGood.cons i148 (JGood.cons i148.hd (alt_ok (o_iR8 N) (alt_ok (o_iR11 N) (o_iR14 N))) (JGood.nil c148)) (FGood.cons i152 (JGood.cons i152.hd (alt_ok (o_iR9 N) (o_iR12 N)) (JGood.nil c152)) (FGood.cons i153 (JGood.nil c153) (FGood.nil _))))))))) (M := []) (R := []) i41 (JGood.nil c41) (t41 N)) (KC82 N)
noncomputable def c20 : Code := Try.f20.body.getD .skip
theorem i20 : IsF Try.prog 20 Try.f20 c20 := ⟨Try.func20, by kernel_rfl, by kernel_rfl, by kernel_rfl⟩
noncomputable def b20_0 : Code := unLoop (blkOf 0 (blks c20))
theorem e20_0 : blkOf 0 (blks c20) = .loop b20_0 := by kernel_rfl
def d_laws_eqInt64S_0 : LoopD := ⟨64, ⟨[(0, .c (.rd 2 [(0, 0)])), (1, .c (.rd 2 [(0, 0)]))], [(0, 0, .ext)], 26⟩, ⟨[(5, .c (.int .i64))], [], 72⟩, [], [0], [⟨.ret, ⟨[(4, .c (.bool))], [], 72⟩, [], [0]⟩, ⟨.norm, ⟨[], [], 72⟩, [], [0]⟩]⟩
def n_laws_eqInt64S_0 (N : Nat) : List (Int) × List (Int) × Unit → (Int × Unit → Option ((Bool × Unit) ⊕ (Unit))) → Int × Unit → Option ((Bool × Unit) ⊕ (Unit))
 | (a0, b1, _), rec, (i5, _) =>
 bif (decide (i5 < (a0.length : Int))) then bif (decide ((0 : Int) ≤ i5)) then bif (decide (i5 < (a0.length : Int))) then bif (decide ((0 : Int) ≤ i5)) then bif (decide (i5 < (b1.length : Int))) then bif (!(decide ((gt a0 i5) = (gt b1 i5)))) then some (.inl (false, ()))
 else rec ((IntKind.wrap .i64 (i5 + (1 : Int))), ())
 else none
 else none
 else none
 else none
 else some (.inr ())
theorem s_laws_eqInt64S_0 (N : Nat) : ∀ σ p rec v, stepL (rn drawQ (mkB (C41 N) [] [] [] []) 8 20 b20_0) 0 (wr b20_0) d_laws_eqInt64S_0 (instP σ d_laws_eqInt64S_0.pm p) rec v = n_laws_eqInt64S_0 N p rec v := by
 rintro σ ⟨a0, b1, _⟩ rec ⟨i5, _⟩; kernel_rfl
noncomputable def g_laws_eqInt64S_0 (N : Nat) : St (Sig.T SS) → Tr (Ex × St (Sig.T SS)) := orcL (wr b20_0) d_laws_eqInt64S_0 fun p => itN (n_laws_eqInt64S_0 N p) N
theorem o_laws_eqInt64S_0 (N : Nat) : Snd QQ (g_laws_eqInt64S_0 N) (.block 0 (blkOf 0 (blks c20))) := loopP LL DR_ok (KC41 N) (F := []) (J := []) (FGood.nil _) (M := []) (R := []) i20 (JGood.nil c20) e20_0 (s_laws_eqInt64S_0 N) N
def F_laws_eqInt64S (N : Nat) : List (Int) × List (Int) × Unit → Option (Bool × Unit)
 | (a0, b1, _) =>
 bif (!(decide ((a0.length : Int) = (b1.length : Int)))) then some (false, ())
 else (itN (n_laws_eqInt64S_0 N (a0, (b1, ()))) N ((0 : Int), ())).bind fun r457 =>
 bif r457.isLeft then r457.getLeft?.bind fun r458 =>
 some (r458.1, ())
 else r457.getRight?.bind fun r459 =>
 some (true, ())
theorem t20 (N : Nat) : ∀ v, (fr drawQ (mkB (C41 N) [] [(20, [(0, g_laws_eqInt64S_0 N)])] [] []) 8 20 Try.f20 (instA [.c (.ls 2), .c (.ls 2)] v)).k (matR [.c (.bool)]) = F_laws_eqInt64S N v := by
 rintro ⟨a0, b1, _⟩; kernel_rfl
noncomputable def C20 (N : Nat) : CL SS := (20, conG [.c (.ls 2), .c (.ls 2)] [.c (.bool)] (F_laws_eqInt64S N)) :: C41 N
theorem KC20 (N : Nat) : COk QQ (C20 N) := COk.cons (conP LL DR_ok (KC41 N) (F := []) (J := [(20, [(0, g_laws_eqInt64S_0 N)])]) (FGood.nil _) (M := []) (R := []) i20 (JGood.cons i20.hd (o_laws_eqInt64S_0 N) (JGood.nil c20)) (t20 N)) (KC41 N)
noncomputable def c48 : Code := Try.f48.body.getD .skip
theorem i48 : IsF Try.prog 48 Try.f48 c48 := ⟨Try.func48, by kernel_rfl, by kernel_rfl, by kernel_rfl⟩
noncomputable def b48_0 : Code := unLoop (blkOf 0 (blks c48))
theorem e48_0 : blkOf 0 (blks c48) = .loop b48_0 := by kernel_rfl
def d_laws_eqInt64SS_0 : LoopD := ⟨64, ⟨[(0, .c (.rd 29 [(0, 0)])), (1, .c (.rd 29 [(0, 0)]))], [(0, 0, .ext)], 27⟩, ⟨[(5, .c (.int .i64))], [], 72⟩, [], [0], [⟨.ret, ⟨[(4, .c (.bool))], [], 72⟩, [], [0]⟩, ⟨.norm, ⟨[], [], 72⟩, [], [0]⟩]⟩
def n_laws_eqInt64SS_0 (N : Nat) : List (List (Int)) × List (List (Int)) × Unit → (Int × Unit → Option ((Bool × Unit) ⊕ (Unit))) → Int × Unit → Option ((Bool × Unit) ⊕ (Unit))
 | (a0, b1, _), rec, (i5, _) =>
 bif (decide (i5 < (a0.length : Int))) then bif (decide ((0 : Int) ≤ i5)) then bif (decide (i5 < (a0.length : Int))) then bif (decide ((0 : Int) ≤ i5)) then bif (decide (i5 < (b1.length : Int))) then (F_laws_eqInt64S N ((gt a0 i5), ((gt b1 i5), ()))).bind fun r460 =>
 bif (!r460.1) then some (.inl (false, ()))
 else rec ((IntKind.wrap .i64 (i5 + (1 : Int))), ())
 else none
 else none
 else none
 else none
 else some (.inr ())
theorem s_laws_eqInt64SS_0 (N : Nat) : ∀ σ p rec v, stepL (rn drawQ (mkB (C20 N) [] [] [] []) 8 48 b48_0) 0 (wr b48_0) d_laws_eqInt64SS_0 (instP σ d_laws_eqInt64SS_0.pm p) rec v = n_laws_eqInt64SS_0 N p rec v := by
 rintro σ ⟨a0, b1, _⟩ rec ⟨i5, _⟩; kernel_rfl
noncomputable def g_laws_eqInt64SS_0 (N : Nat) : St (Sig.T SS) → Tr (Ex × St (Sig.T SS)) := orcL (wr b48_0) d_laws_eqInt64SS_0 fun p => itN (n_laws_eqInt64SS_0 N p) N
theorem o_laws_eqInt64SS_0 (N : Nat) : Snd QQ (g_laws_eqInt64SS_0 N) (.block 0 (blkOf 0 (blks c48))) := loopP LL DR_ok (KC20 N) (F := []) (J := []) (FGood.nil _) (M := []) (R := []) i48 (JGood.nil c48) e48_0 (s_laws_eqInt64SS_0 N) N
def F_laws_eqInt64SS (N : Nat) : List (List (Int)) × List (List (Int)) × Unit → Option (Bool × Unit)
 | (a0, b1, _) =>
 bif (!(decide ((a0.length : Int) = (b1.length : Int)))) then some (false, ())
 else (itN (n_laws_eqInt64SS_0 N (a0, (b1, ()))) N ((0 : Int), ())).bind fun r461 =>
 bif r461.isLeft then r461.getLeft?.bind fun r462 =>
 some (r462.1, ())
 else r461.getRight?.bind fun r463 =>
 some (true, ())
theorem t48 (N : Nat) : ∀ v, (fr drawQ (mkB (C20 N) [] [(48, [(0, g_laws_eqInt64SS_0 N)])] [] []) 8 48 Try.f48 (instA [.c (.ls 29), .c (.ls 29)] v)).k (matR [.c (.bool)]) = F_laws_eqInt64SS N v := by
 rintro ⟨a0, b1, _⟩; kernel_rfl
noncomputable def C48 (N : Nat) : CL SS := (48, conG [.c (.ls 29), .c (.ls 29)] [.c (.bool)] (F_laws_eqInt64SS N)) :: C20 N
theorem KC48 (N : Nat) : COk QQ (C48 N) := COk.cons (conP LL DR_ok (KC20 N) (F := []) (J := [(48, [(0, g_laws_eqInt64SS_0 N)])]) (FGood.nil _) (M := []) (R := []) i48 (JGood.cons i48.hd (o_laws_eqInt64SS_0 N) (JGood.nil c48)) (t48 N)) (KC20 N)
noncomputable def c57 : Code := Try.f57.body.getD .skip
theorem i57 : IsF Try.prog 57 Try.f57 c57 := ⟨Try.func57, by kernel_rfl, by kernel_rfl, by kernel_rfl⟩
def F_laws_eqLine (N : Nat) : Int × Int × Int × Int × Int × Int × Int × Int × Int × Int × Unit → Option (Bool × Unit)
 | (a0c0, a0c1, a0c2, a0c3, a0c4, b1c0, b1c1, b1c2, b1c3, b1c4, _) =>
 bif (!(decide (a0c0 = b1c0))) then some (false, ())
 else bif (!(decide (a0c1 = b1c1))) then some (false, ())
 else bif (!(decide (a0c2 = b1c2))) then some (false, ())
 else bif (!(decide (a0c3 = b1c3))) then some (false, ())
 else bif (!(decide (a0c4 = b1c4))) then some (false, ())
 else some (true, ())
theorem t57 (N : Nat) : ∀ v, (fr drawQ (mkB (C48 N) [] [] [] []) 8 57 Try.f57 (instA [.agg [.int .i64, .int .i64, .int .i64, .int .i64, .int .i64], .agg [.int .i64, .int .i64, .int .i64, .int .i64, .int .i64]] v)).k (matR [.c (.bool)]) = F_laws_eqLine N v := by
 rintro ⟨a0c0, a0c1, a0c2, a0c3, a0c4, b1c0, b1c1, b1c2, b1c3, b1c4, _⟩; kernel_rfl
noncomputable def C57 (N : Nat) : CL SS := (57, conG [.agg [.int .i64, .int .i64, .int .i64, .int .i64, .int .i64], .agg [.int .i64, .int .i64, .int .i64, .int .i64, .int .i64]] [.c (.bool)] (F_laws_eqLine N)) :: C48 N
theorem KC57 (N : Nat) : COk QQ (C57 N) := COk.cons (conP LL DR_ok (KC48 N) (F := []) (J := []) (FGood.nil _) (M := []) (R := []) i57 (JGood.nil c57) (t57 N)) (KC48 N)
noncomputable def c17 : Code := Try.f17.body.getD .skip
theorem i17 : IsF Try.prog 17 Try.f17 c17 := ⟨Try.func17, by kernel_rfl, by kernel_rfl, by kernel_rfl⟩
noncomputable def b17_0 : Code := unLoop (blkOf 0 (blks c17))
theorem e17_0 : blkOf 0 (blks c17) = .loop b17_0 := by kernel_rfl
def d_laws_eqLineS_0 : LoopD := ⟨64, ⟨[(0, .c (.rd 63 [(0, 0)])), (1, .c (.rd 63 [(0, 0)]))], [(0, 0, .ext)], 27⟩, ⟨[(5, .c (.int .i64))], [], 72⟩, [], [0], [⟨.ret, ⟨[(4, .c (.bool))], [], 72⟩, [], [0]⟩, ⟨.norm, ⟨[], [], 72⟩, [], [0]⟩]⟩
def n_laws_eqLineS_0 (N : Nat) : (List (Int × Int × Int × Int × Int)) × (List (Int × Int × Int × Int × Int)) × Unit → (Int × Unit → Option ((Bool × Unit) ⊕ (Unit))) → Int × Unit → Option ((Bool × Unit) ⊕ (Unit))
 | (a0, b1, _), rec, (i5, _) =>
 bif (decide (i5 < (a0.length : Int))) then bif (decide ((0 : Int) ≤ i5)) then bif (decide (i5 < (a0.length : Int))) then bif (decide ((0 : Int) ≤ i5)) then bif (decide (i5 < (b1.length : Int))) then (F_laws_eqLine N ((gt a0 i5).1, ((gt a0 i5).2.1, ((gt a0 i5).2.2.1, ((gt a0 i5).2.2.2.1, ((gt a0 i5).2.2.2.2, ((gt b1 i5).1, ((gt b1 i5).2.1, ((gt b1 i5).2.2.1, ((gt b1 i5).2.2.2.1, ((gt b1 i5).2.2.2.2, ()))))))))))).bind fun r464 =>
 bif (!r464.1) then some (.inl (false, ()))
 else rec ((IntKind.wrap .i64 (i5 + (1 : Int))), ())
 else none
 else none
 else none
 else none
 else some (.inr ())
theorem s_laws_eqLineS_0 (N : Nat) : ∀ σ p rec v, stepL (rn drawQ (mkB (C57 N) [] [] [] []) 8 17 b17_0) 0 (wr b17_0) d_laws_eqLineS_0 (instP σ d_laws_eqLineS_0.pm p) rec v = n_laws_eqLineS_0 N p rec v := by
 rintro σ ⟨a0, b1, _⟩ rec ⟨i5, _⟩; kernel_rfl
noncomputable def g_laws_eqLineS_0 (N : Nat) : St (Sig.T SS) → Tr (Ex × St (Sig.T SS)) := orcL (wr b17_0) d_laws_eqLineS_0 fun p => itN (n_laws_eqLineS_0 N p) N
theorem o_laws_eqLineS_0 (N : Nat) : Snd QQ (g_laws_eqLineS_0 N) (.block 0 (blkOf 0 (blks c17))) := loopP LL DR_ok (KC57 N) (F := []) (J := []) (FGood.nil _) (M := []) (R := []) i17 (JGood.nil c17) e17_0 (s_laws_eqLineS_0 N) N
def F_laws_eqLineS (N : Nat) : (List (Int × Int × Int × Int × Int)) × (List (Int × Int × Int × Int × Int)) × Unit → Option (Bool × Unit)
 | (a0, b1, _) =>
 bif (!(decide ((a0.length : Int) = (b1.length : Int)))) then some (false, ())
 else (itN (n_laws_eqLineS_0 N (a0, (b1, ()))) N ((0 : Int), ())).bind fun r465 =>
 bif r465.isLeft then r465.getLeft?.bind fun r466 =>
 some (r466.1, ())
 else r465.getRight?.bind fun r467 =>
 some (true, ())
theorem t17 (N : Nat) : ∀ v, (fr drawQ (mkB (C57 N) [] [(17, [(0, g_laws_eqLineS_0 N)])] [] []) 8 17 Try.f17 (instA [.c (.ls 63), .c (.ls 63)] v)).k (matR [.c (.bool)]) = F_laws_eqLineS N v := by
 rintro ⟨a0, b1, _⟩; kernel_rfl
noncomputable def C17 (N : Nat) : CL SS := (17, conG [.c (.ls 63), .c (.ls 63)] [.c (.bool)] (F_laws_eqLineS N)) :: C57 N
theorem KC17 (N : Nat) : COk QQ (C17 N) := COk.cons (conP LL DR_ok (KC57 N) (F := []) (J := [(17, [(0, g_laws_eqLineS_0 N)])]) (FGood.nil _) (M := []) (R := []) i17 (JGood.cons i17.hd (o_laws_eqLineS_0 N) (JGood.nil c17)) (t17 N)) (KC57 N)
noncomputable def c23 : Code := Try.f23.body.getD .skip
theorem i23 : IsF Try.prog 23 Try.f23 c23 := ⟨Try.func23, by kernel_rfl, by kernel_rfl, by kernel_rfl⟩
noncomputable def b23_0 : Code := unLoop (blkOf 0 (blks c23))
theorem e23_0 : blkOf 0 (blks c23) = .loop b23_0 := by kernel_rfl
def d_laws_heldInt64S_0 : LoopD := ⟨24, ⟨[(0, .c (.rd 2 [(0, 0)]))], [(0, 0, .ext)], 21⟩, ⟨[(1, .c (.int .i64)), (5, .c (.int .i64))], [], 32⟩, [], [0], [⟨.ret, ⟨[(4, .c (.int .i64))], [], 32⟩, [], [0]⟩, ⟨.norm, ⟨[(1, .c (.int .i64))], [], 32⟩, [], [0]⟩]⟩
def n_laws_heldInt64S_0 (N : Nat) : List (Int) × Unit → (Int × Int × Unit → Option ((Int × Unit) ⊕ (Int × Unit))) → Int × Int × Unit → Option ((Int × Unit) ⊕ (Int × Unit))
 | (a0, _), rec, (k1, i5, _) =>
 bif (decide (i5 < (a0.length : Int))) then bif (decide ((0 : Int) ≤ i5)) then bif (decide (i5 < (a0.length : Int))) then bif (!(decide ((gt a0 i5) = k1))) then some (.inl ((-(1 : Int)), ()))
 else rec ((IntKind.wrap .i64 (k1 + (1 : Int))), ((IntKind.wrap .i64 (i5 + (1 : Int))), ()))
 else none
 else none
 else some (.inr (k1, ()))
theorem s_laws_heldInt64S_0 (N : Nat) : ∀ σ p rec v, stepL (rn drawQ (mkB (C17 N) [] [] [] []) 8 23 b23_0) 0 (wr b23_0) d_laws_heldInt64S_0 (instP σ d_laws_heldInt64S_0.pm p) rec v = n_laws_heldInt64S_0 N p rec v := by
 rintro σ ⟨a0, _⟩ rec ⟨k1, i5, _⟩; kernel_rfl
noncomputable def g_laws_heldInt64S_0 (N : Nat) : St (Sig.T SS) → Tr (Ex × St (Sig.T SS)) := orcL (wr b23_0) d_laws_heldInt64S_0 fun p => itN (n_laws_heldInt64S_0 N p) N
theorem o_laws_heldInt64S_0 (N : Nat) : Snd QQ (g_laws_heldInt64S_0 N) (.block 0 (blkOf 0 (blks c23))) := loopP LL DR_ok (KC17 N) (F := []) (J := []) (FGood.nil _) (M := []) (R := []) i23 (JGood.nil c23) e23_0 (s_laws_heldInt64S_0 N) N
def F_laws_heldInt64S (N : Nat) : List (Int) × Int × Unit → Option (Int × Unit)
 | (a0, k1, _) =>
 (itN (n_laws_heldInt64S_0 N (a0, ())) N (k1, ((0 : Int), ()))).bind fun r468 =>
 bif r468.isLeft then r468.getLeft?.bind fun r469 =>
 some (r469.1, ())
 else r468.getRight?.bind fun r470 =>
 some (r470.1, ())
theorem t23 (N : Nat) : ∀ v, (fr drawQ (mkB (C17 N) [] [(23, [(0, g_laws_heldInt64S_0 N)])] [] []) 8 23 Try.f23 (instA [.c (.ls 2), .c (.int .i64)] v)).k (matR [.c (.int .i64)]) = F_laws_heldInt64S N v := by
 rintro ⟨a0, k1, _⟩; kernel_rfl
noncomputable def C23 (N : Nat) : CL SS := (23, conG [.c (.ls 2), .c (.int .i64)] [.c (.int .i64)] (F_laws_heldInt64S N)) :: C17 N
theorem KC23 (N : Nat) : COk QQ (C23 N) := COk.cons (conP LL DR_ok (KC17 N) (F := []) (J := [(23, [(0, g_laws_heldInt64S_0 N)])]) (FGood.nil _) (M := []) (R := []) i23 (JGood.cons i23.hd (o_laws_heldInt64S_0 N) (JGood.nil c23)) (t23 N)) (KC17 N)
noncomputable def c52 : Code := Try.f52.body.getD .skip
theorem i52 : IsF Try.prog 52 Try.f52 c52 := ⟨Try.func52, by kernel_rfl, by kernel_rfl, by kernel_rfl⟩
noncomputable def b52_0 : Code := unLoop (blkOf 0 (blks c52))
theorem e52_0 : blkOf 0 (blks c52) = .loop b52_0 := by kernel_rfl
def d_laws_heldInt64SS_0 : LoopD := ⟨24, ⟨[(0, .c (.rd 29 [(0, 0)]))], [(0, 0, .ext)], 21⟩, ⟨[(1, .c (.int .i64)), (5, .c (.int .i64))], [], 32⟩, [], [0], [⟨.ret, ⟨[(4, .c (.int .i64))], [], 32⟩, [], [0]⟩, ⟨.norm, ⟨[(1, .c (.int .i64))], [], 32⟩, [], [0]⟩]⟩
def n_laws_heldInt64SS_0 (N : Nat) : List (List (Int)) × Unit → (Int × Int × Unit → Option ((Int × Unit) ⊕ (Int × Unit))) → Int × Int × Unit → Option ((Int × Unit) ⊕ (Int × Unit))
 | (a0, _), rec, (k1, i5, _) =>
 bif (decide (i5 < (a0.length : Int))) then bif (decide ((0 : Int) ≤ i5)) then bif (decide (i5 < (a0.length : Int))) then (F_laws_heldInt64S N ((gt a0 i5), (k1, ()))).bind fun r471 =>
 bif (decide (r471.1 < (0 : Int))) then some (.inl ((-(1 : Int)), ()))
 else rec (r471.1, ((IntKind.wrap .i64 (i5 + (1 : Int))), ()))
 else none
 else none
 else some (.inr (k1, ()))
theorem s_laws_heldInt64SS_0 (N : Nat) : ∀ σ p rec v, stepL (rn drawQ (mkB (C23 N) [] [] [] []) 8 52 b52_0) 0 (wr b52_0) d_laws_heldInt64SS_0 (instP σ d_laws_heldInt64SS_0.pm p) rec v = n_laws_heldInt64SS_0 N p rec v := by
 rintro σ ⟨a0, _⟩ rec ⟨k1, i5, _⟩; kernel_rfl
noncomputable def g_laws_heldInt64SS_0 (N : Nat) : St (Sig.T SS) → Tr (Ex × St (Sig.T SS)) := orcL (wr b52_0) d_laws_heldInt64SS_0 fun p => itN (n_laws_heldInt64SS_0 N p) N
theorem o_laws_heldInt64SS_0 (N : Nat) : Snd QQ (g_laws_heldInt64SS_0 N) (.block 0 (blkOf 0 (blks c52))) := loopP LL DR_ok (KC23 N) (F := []) (J := []) (FGood.nil _) (M := []) (R := []) i52 (JGood.nil c52) e52_0 (s_laws_heldInt64SS_0 N) N
def F_laws_heldInt64SS (N : Nat) : List (List (Int)) × Int × Unit → Option (Int × Unit)
 | (a0, k1, _) =>
 (itN (n_laws_heldInt64SS_0 N (a0, ())) N (k1, ((0 : Int), ()))).bind fun r472 =>
 bif r472.isLeft then r472.getLeft?.bind fun r473 =>
 some (r473.1, ())
 else r472.getRight?.bind fun r474 =>
 some (r474.1, ())
theorem t52 (N : Nat) : ∀ v, (fr drawQ (mkB (C23 N) [] [(52, [(0, g_laws_heldInt64SS_0 N)])] [] []) 8 52 Try.f52 (instA [.c (.ls 29), .c (.int .i64)] v)).k (matR [.c (.int .i64)]) = F_laws_heldInt64SS N v := by
 rintro ⟨a0, k1, _⟩; kernel_rfl
noncomputable def C52 (N : Nat) : CL SS := (52, conG [.c (.ls 29), .c (.int .i64)] [.c (.int .i64)] (F_laws_heldInt64SS N)) :: C23 N
theorem KC52 (N : Nat) : COk QQ (C52 N) := COk.cons (conP LL DR_ok (KC23 N) (F := []) (J := [(52, [(0, g_laws_heldInt64SS_0 N)])]) (FGood.nil _) (M := []) (R := []) i52 (JGood.cons i52.hd (o_laws_heldInt64SS_0 N) (JGood.nil c52)) (t52 N)) (KC23 N)
noncomputable def c12 : Code := Try.f12.body.getD .skip
theorem i12 : IsF Try.prog 12 Try.f12 c12 := ⟨Try.func12, by kernel_rfl, by kernel_rfl, by kernel_rfl⟩
noncomputable def c21 : Code := Try.f21.body.getD .skip
theorem i21 : IsF Try.prog 21 Try.f21 c21 := ⟨Try.func21, by kernel_rfl, by kernel_rfl, by kernel_rfl⟩
noncomputable def c51 : Code := Try.f51.body.getD .skip
theorem i51 : IsF Try.prog 51 Try.f51 c51 := ⟨Try.func51, by kernel_rfl, by kernel_rfl, by kernel_rfl⟩
noncomputable def c22 : Code := Try.f22.body.getD .skip
theorem i22 : IsF Try.prog 22 Try.f22 c22 := ⟨Try.func22, by kernel_rfl, by kernel_rfl, by kernel_rfl⟩
noncomputable def b21_0 : Code := unLoop (blkOf 0 (blks c21))
theorem e21_0 : blkOf 0 (blks c21) = .loop b21_0 := by kernel_rfl
def d_lR0 : LoopD := ⟨520, ⟨[(0, .c (.row 209))], [], 48⟩, ⟨[(1, .c (.int .i64)), (5, .c (.int .i64))], [(209, .row 63 [])], 528⟩, [], [209], [⟨.norm, ⟨[(1, .c (.int .i64))], [(209, .row 63 [])], 528⟩, [], [209]⟩]⟩
def n_lR0 (N : Nat) : Unit → (Int × Int × (List (Int × Int × Int × Int × Int)) × Unit → Option ((Int × (List (Int × Int × Int × Int × Int)) × Unit))) → Int × Int × (List (Int × Int × Int × Int × Int)) × Unit → Option ((Int × (List (Int × Int × Int × Int × Int)) × Unit))
 | _, rec, (k1, i5, o209, _) =>
 bif (decide (i5 < (o209.length : Int))) then bif (decide ((0 : Int) ≤ i5)) then bif (decide (i5 < (o209.length : Int))) then bif (decide ((0 : Int) ≤ i5)) then bif (decide (i5 < ((o209.set i5.toNat (k1, (gt o209 i5).2)).length : Int))) then bif (decide ((0 : Int) ≤ i5)) then bif (decide (i5 < (((o209.set i5.toNat (k1, (gt o209 i5).2)).set i5.toNat ((gt (o209.set i5.toNat (k1, (gt o209 i5).2)) i5).1, ((IntKind.wrap .i64 (k1 + (1 : Int))), (gt (o209.set i5.toNat (k1, (gt o209 i5).2)) i5).2.2))).length : Int))) then bif (decide ((0 : Int) ≤ i5)) then bif (decide (i5 < ((((o209.set i5.toNat (k1, (gt o209 i5).2)).set i5.toNat ((gt (o209.set i5.toNat (k1, (gt o209 i5).2)) i5).1, ((IntKind.wrap .i64 (k1 + (1 : Int))), (gt (o209.set i5.toNat (k1, (gt o209 i5).2)) i5).2.2))).set i5.toNat ((gt ((o209.set i5.toNat (k1, (gt o209 i5).2)).set i5.toNat ((gt (o209.set i5.toNat (k1, (gt o209 i5).2)) i5).1, ((IntKind.wrap .i64 (k1 + (1 : Int))), (gt (o209.set i5.toNat (k1, (gt o209 i5).2)) i5).2.2))) i5).1, ((gt ((o209.set i5.toNat (k1, (gt o209 i5).2)).set i5.toNat ((gt (o209.set i5.toNat (k1, (gt o209 i5).2)) i5).1, ((IntKind.wrap .i64 (k1 + (1 : Int))), (gt (o209.set i5.toNat (k1, (gt o209 i5).2)) i5).2.2))) i5).2.1, ((IntKind.wrap .i64 ((IntKind.wrap .i64 (k1 + (1 : Int))) + (1 : Int))), (gt ((o209.set i5.toNat (k1, (gt o209 i5).2)).set i5.toNat ((gt (o209.set i5.toNat (k1, (gt o209 i5).2)) i5).1, ((IntKind.wrap .i64 (k1 + (1 : Int))), (gt (o209.set i5.toNat (k1, (gt o209 i5).2)) i5).2.2))) i5).2.2.2)))).length : Int))) then bif (decide ((0 : Int) ≤ i5)) then bif (decide (i5 < (((((o209.set i5.toNat (k1, (gt o209 i5).2)).set i5.toNat ((gt (o209.set i5.toNat (k1, (gt o209 i5).2)) i5).1, ((IntKind.wrap .i64 (k1 + (1 : Int))), (gt (o209.set i5.toNat (k1, (gt o209 i5).2)) i5).2.2))).set i5.toNat ((gt ((o209.set i5.toNat (k1, (gt o209 i5).2)).set i5.toNat ((gt (o209.set i5.toNat (k1, (gt o209 i5).2)) i5).1, ((IntKind.wrap .i64 (k1 + (1 : Int))), (gt (o209.set i5.toNat (k1, (gt o209 i5).2)) i5).2.2))) i5).1, ((gt ((o209.set i5.toNat (k1, (gt o209 i5).2)).set i5.toNat ((gt (o209.set i5.toNat (k1, (gt o209 i5).2)) i5).1, ((IntKind.wrap .i64 (k1 + (1 : Int))), (gt (o209.set i5.toNat (k1, (gt o209 i5).2)) i5).2.2))) i5).2.1, ((IntKind.wrap .i64 ((IntKind.wrap .i64 (k1 + (1 : Int))) + (1 : Int))), (gt ((o209.set i5.toNat (k1, (gt o209 i5).2)).set i5.toNat ((gt (o209.set i5.toNat (k1, (gt o209 i5).2)) i5).1, ((IntKind.wrap .i64 (k1 + (1 : Int))), (gt (o209.set i5.toNat (k1, (gt o209 i5).2)) i5).2.2))) i5).2.2.2)))).set i5.toNat ((gt (((o209.set i5.toNat (k1, (gt o209 i5).2)).set i5.toNat ((gt (o209.set i5.toNat (k1, (gt o209 i5).2)) i5).1, ((IntKind.wrap .i64 (k1 + (1 : Int))), (gt (o209.set i5.toNat (k1, (gt o209 i5).2)) i5).2.2))).set i5.toNat ((gt ((o209.set i5.toNat (k1, (gt o209 i5).2)).set i5.toNat ((gt (o209.set i5.toNat (k1, (gt o209 i5).2)) i5).1, ((IntKind.wrap .i64 (k1 + (1 : Int))), (gt (o209.set i5.toNat (k1, (gt o209 i5).2)) i5).2.2))) i5).1, ((gt ((o209.set i5.toNat (k1, (gt o209 i5).2)).set i5.toNat ((gt (o209.set i5.toNat (k1, (gt o209 i5).2)) i5).1, ((IntKind.wrap .i64 (k1 + (1 : Int))), (gt (o209.set i5.toNat (k1, (gt o209 i5).2)) i5).2.2))) i5).2.1, ((IntKind.wrap .i64 ((IntKind.wrap .i64 (k1 + (1 : Int))) + (1 : Int))), (gt ((o209.set i5.toNat (k1, (gt o209 i5).2)).set i5.toNat ((gt (o209.set i5.toNat (k1, (gt o209 i5).2)) i5).1, ((IntKind.wrap .i64 (k1 + (1 : Int))), (gt (o209.set i5.toNat (k1, (gt o209 i5).2)) i5).2.2))) i5).2.2.2)))) i5).1, ((gt (((o209.set i5.toNat (k1, (gt o209 i5).2)).set i5.toNat ((gt (o209.set i5.toNat (k1, (gt o209 i5).2)) i5).1, ((IntKind.wrap .i64 (k1 + (1 : Int))), (gt (o209.set i5.toNat (k1, (gt o209 i5).2)) i5).2.2))).set i5.toNat ((gt ((o209.set i5.toNat (k1, (gt o209 i5).2)).set i5.toNat ((gt (o209.set i5.toNat (k1, (gt o209 i5).2)) i5).1, ((IntKind.wrap .i64 (k1 + (1 : Int))), (gt (o209.set i5.toNat (k1, (gt o209 i5).2)) i5).2.2))) i5).1, ((gt ((o209.set i5.toNat (k1, (gt o209 i5).2)).set i5.toNat ((gt (o209.set i5.toNat (k1, (gt o209 i5).2)) i5).1, ((IntKind.wrap .i64 (k1 + (1 : Int))), (gt (o209.set i5.toNat (k1, (gt o209 i5).2)) i5).2.2))) i5).2.1, ((IntKind.wrap .i64 ((IntKind.wrap .i64 (k1 + (1 : Int))) + (1 : Int))), (gt ((o209.set i5.toNat (k1, (gt o209 i5).2)).set i5.toNat ((gt (o209.set i5.toNat (k1, (gt o209 i5).2)) i5).1, ((IntKind.wrap .i64 (k1 + (1 : Int))), (gt (o209.set i5.toNat (k1, (gt o209 i5).2)) i5).2.2))) i5).2.2.2)))) i5).2.1, ((gt (((o209.set i5.toNat (k1, (gt o209 i5).2)).set i5.toNat ((gt (o209.set i5.toNat (k1, (gt o209 i5).2)) i5).1, ((IntKind.wrap .i64 (k1 + (1 : Int))), (gt (o209.set i5.toNat (k1, (gt o209 i5).2)) i5).2.2))).set i5.toNat ((gt ((o209.set i5.toNat (k1, (gt o209 i5).2)).set i5.toNat ((gt (o209.set i5.toNat (k1, (gt o209 i5).2)) i5).1, ((IntKind.wrap .i64 (k1 + (1 : Int))), (gt (o209.set i5.toNat (k1, (gt o209 i5).2)) i5).2.2))) i5).1, ((gt ((o209.set i5.toNat (k1, (gt o209 i5).2)).set i5.toNat ((gt (o209.set i5.toNat (k1, (gt o209 i5).2)) i5).1, ((IntKind.wrap .i64 (k1 + (1 : Int))), (gt (o209.set i5.toNat (k1, (gt o209 i5).2)) i5).2.2))) i5).2.1, ((IntKind.wrap .i64 ((IntKind.wrap .i64 (k1 + (1 : Int))) + (1 : Int))), (gt ((o209.set i5.toNat (k1, (gt o209 i5).2)).set i5.toNat ((gt (o209.set i5.toNat (k1, (gt o209 i5).2)) i5).1, ((IntKind.wrap .i64 (k1 + (1 : Int))), (gt (o209.set i5.toNat (k1, (gt o209 i5).2)) i5).2.2))) i5).2.2.2)))) i5).2.2.1, ((IntKind.wrap .i64 ((IntKind.wrap .i64 ((IntKind.wrap .i64 (k1 + (1 : Int))) + (1 : Int))) + (1 : Int))), (gt (((o209.set i5.toNat (k1, (gt o209 i5).2)).set i5.toNat ((gt (o209.set i5.toNat (k1, (gt o209 i5).2)) i5).1, ((IntKind.wrap .i64 (k1 + (1 : Int))), (gt (o209.set i5.toNat (k1, (gt o209 i5).2)) i5).2.2))).set i5.toNat ((gt ((o209.set i5.toNat (k1, (gt o209 i5).2)).set i5.toNat ((gt (o209.set i5.toNat (k1, (gt o209 i5).2)) i5).1, ((IntKind.wrap .i64 (k1 + (1 : Int))), (gt (o209.set i5.toNat (k1, (gt o209 i5).2)) i5).2.2))) i5).1, ((gt ((o209.set i5.toNat (k1, (gt o209 i5).2)).set i5.toNat ((gt (o209.set i5.toNat (k1, (gt o209 i5).2)) i5).1, ((IntKind.wrap .i64 (k1 + (1 : Int))), (gt (o209.set i5.toNat (k1, (gt o209 i5).2)) i5).2.2))) i5).2.1, ((IntKind.wrap .i64 ((IntKind.wrap .i64 (k1 + (1 : Int))) + (1 : Int))), (gt ((o209.set i5.toNat (k1, (gt o209 i5).2)).set i5.toNat ((gt (o209.set i5.toNat (k1, (gt o209 i5).2)) i5).1, ((IntKind.wrap .i64 (k1 + (1 : Int))), (gt (o209.set i5.toNat (k1, (gt o209 i5).2)) i5).2.2))) i5).2.2.2)))) i5).2.2.2.2))))).length : Int))) then rec ((IntKind.wrap .i64 ((IntKind.wrap .i64 ((IntKind.wrap .i64 ((IntKind.wrap .i64 ((IntKind.wrap .i64 (k1 + (1 : Int))) + (1 : Int))) + (1 : Int))) + (1 : Int))) + (1 : Int))), ((IntKind.wrap .i64 (i5 + (1 : Int))), ((((((o209.set i5.toNat (k1, (gt o209 i5).2)).set i5.toNat ((gt (o209.set i5.toNat (k1, (gt o209 i5).2)) i5).1, ((IntKind.wrap .i64 (k1 + (1 : Int))), (gt (o209.set i5.toNat (k1, (gt o209 i5).2)) i5).2.2))).set i5.toNat ((gt ((o209.set i5.toNat (k1, (gt o209 i5).2)).set i5.toNat ((gt (o209.set i5.toNat (k1, (gt o209 i5).2)) i5).1, ((IntKind.wrap .i64 (k1 + (1 : Int))), (gt (o209.set i5.toNat (k1, (gt o209 i5).2)) i5).2.2))) i5).1, ((gt ((o209.set i5.toNat (k1, (gt o209 i5).2)).set i5.toNat ((gt (o209.set i5.toNat (k1, (gt o209 i5).2)) i5).1, ((IntKind.wrap .i64 (k1 + (1 : Int))), (gt (o209.set i5.toNat (k1, (gt o209 i5).2)) i5).2.2))) i5).2.1, ((IntKind.wrap .i64 ((IntKind.wrap .i64 (k1 + (1 : Int))) + (1 : Int))), (gt ((o209.set i5.toNat (k1, (gt o209 i5).2)).set i5.toNat ((gt (o209.set i5.toNat (k1, (gt o209 i5).2)) i5).1, ((IntKind.wrap .i64 (k1 + (1 : Int))), (gt (o209.set i5.toNat (k1, (gt o209 i5).2)) i5).2.2))) i5).2.2.2)))).set i5.toNat ((gt (((o209.set i5.toNat (k1, (gt o209 i5).2)).set i5.toNat ((gt (o209.set i5.toNat (k1, (gt o209 i5).2)) i5).1, ((IntKind.wrap .i64 (k1 + (1 : Int))), (gt (o209.set i5.toNat (k1, (gt o209 i5).2)) i5).2.2))).set i5.toNat ((gt ((o209.set i5.toNat (k1, (gt o209 i5).2)).set i5.toNat ((gt (o209.set i5.toNat (k1, (gt o209 i5).2)) i5).1, ((IntKind.wrap .i64 (k1 + (1 : Int))), (gt (o209.set i5.toNat (k1, (gt o209 i5).2)) i5).2.2))) i5).1, ((gt ((o209.set i5.toNat (k1, (gt o209 i5).2)).set i5.toNat ((gt (o209.set i5.toNat (k1, (gt o209 i5).2)) i5).1, ((IntKind.wrap .i64 (k1 + (1 : Int))), (gt (o209.set i5.toNat (k1, (gt o209 i5).2)) i5).2.2))) i5).2.1, ((IntKind.wrap .i64 ((IntKind.wrap .i64 (k1 + (1 : Int))) + (1 : Int))), (gt ((o209.set i5.toNat (k1, (gt o209 i5).2)).set i5.toNat ((gt (o209.set i5.toNat (k1, (gt o209 i5).2)) i5).1, ((IntKind.wrap .i64 (k1 + (1 : Int))), (gt (o209.set i5.toNat (k1, (gt o209 i5).2)) i5).2.2))) i5).2.2.2)))) i5).1, ((gt (((o209.set i5.toNat (k1, (gt o209 i5).2)).set i5.toNat ((gt (o209.set i5.toNat (k1, (gt o209 i5).2)) i5).1, ((IntKind.wrap .i64 (k1 + (1 : Int))), (gt (o209.set i5.toNat (k1, (gt o209 i5).2)) i5).2.2))).set i5.toNat ((gt ((o209.set i5.toNat (k1, (gt o209 i5).2)).set i5.toNat ((gt (o209.set i5.toNat (k1, (gt o209 i5).2)) i5).1, ((IntKind.wrap .i64 (k1 + (1 : Int))), (gt (o209.set i5.toNat (k1, (gt o209 i5).2)) i5).2.2))) i5).1, ((gt ((o209.set i5.toNat (k1, (gt o209 i5).2)).set i5.toNat ((gt (o209.set i5.toNat (k1, (gt o209 i5).2)) i5).1, ((IntKind.wrap .i64 (k1 + (1 : Int))), (gt (o209.set i5.toNat (k1, (gt o209 i5).2)) i5).2.2))) i5).2.1, ((IntKind.wrap .i64 ((IntKind.wrap .i64 (k1 + (1 : Int))) + (1 : Int))), (gt ((o209.set i5.toNat (k1, (gt o209 i5).2)).set i5.toNat ((gt (o209.set i5.toNat (k1, (gt o209 i5).2)) i5).1, ((IntKind.wrap .i64 (k1 + (1 : Int))), (gt (o209.set i5.toNat (k1, (gt o209 i5).2)) i5).2.2))) i5).2.2.2)))) i5).2.1, ((gt (((o209.set i5.toNat (k1, (gt o209 i5).2)).set i5.toNat ((gt (o209.set i5.toNat (k1, (gt o209 i5).2)) i5).1, ((IntKind.wrap .i64 (k1 + (1 : Int))), (gt (o209.set i5.toNat (k1, (gt o209 i5).2)) i5).2.2))).set i5.toNat ((gt ((o209.set i5.toNat (k1, (gt o209 i5).2)).set i5.toNat ((gt (o209.set i5.toNat (k1, (gt o209 i5).2)) i5).1, ((IntKind.wrap .i64 (k1 + (1 : Int))), (gt (o209.set i5.toNat (k1, (gt o209 i5).2)) i5).2.2))) i5).1, ((gt ((o209.set i5.toNat (k1, (gt o209 i5).2)).set i5.toNat ((gt (o209.set i5.toNat (k1, (gt o209 i5).2)) i5).1, ((IntKind.wrap .i64 (k1 + (1 : Int))), (gt (o209.set i5.toNat (k1, (gt o209 i5).2)) i5).2.2))) i5).2.1, ((IntKind.wrap .i64 ((IntKind.wrap .i64 (k1 + (1 : Int))) + (1 : Int))), (gt ((o209.set i5.toNat (k1, (gt o209 i5).2)).set i5.toNat ((gt (o209.set i5.toNat (k1, (gt o209 i5).2)) i5).1, ((IntKind.wrap .i64 (k1 + (1 : Int))), (gt (o209.set i5.toNat (k1, (gt o209 i5).2)) i5).2.2))) i5).2.2.2)))) i5).2.2.1, ((IntKind.wrap .i64 ((IntKind.wrap .i64 ((IntKind.wrap .i64 (k1 + (1 : Int))) + (1 : Int))) + (1 : Int))), (gt (((o209.set i5.toNat (k1, (gt o209 i5).2)).set i5.toNat ((gt (o209.set i5.toNat (k1, (gt o209 i5).2)) i5).1, ((IntKind.wrap .i64 (k1 + (1 : Int))), (gt (o209.set i5.toNat (k1, (gt o209 i5).2)) i5).2.2))).set i5.toNat ((gt ((o209.set i5.toNat (k1, (gt o209 i5).2)).set i5.toNat ((gt (o209.set i5.toNat (k1, (gt o209 i5).2)) i5).1, ((IntKind.wrap .i64 (k1 + (1 : Int))), (gt (o209.set i5.toNat (k1, (gt o209 i5).2)) i5).2.2))) i5).1, ((gt ((o209.set i5.toNat (k1, (gt o209 i5).2)).set i5.toNat ((gt (o209.set i5.toNat (k1, (gt o209 i5).2)) i5).1, ((IntKind.wrap .i64 (k1 + (1 : Int))), (gt (o209.set i5.toNat (k1, (gt o209 i5).2)) i5).2.2))) i5).2.1, ((IntKind.wrap .i64 ((IntKind.wrap .i64 (k1 + (1 : Int))) + (1 : Int))), (gt ((o209.set i5.toNat (k1, (gt o209 i5).2)).set i5.toNat ((gt (o209.set i5.toNat (k1, (gt o209 i5).2)) i5).1, ((IntKind.wrap .i64 (k1 + (1 : Int))), (gt (o209.set i5.toNat (k1, (gt o209 i5).2)) i5).2.2))) i5).2.2.2)))) i5).2.2.2.2))))).set i5.toNat ((gt ((((o209.set i5.toNat (k1, (gt o209 i5).2)).set i5.toNat ((gt (o209.set i5.toNat (k1, (gt o209 i5).2)) i5).1, ((IntKind.wrap .i64 (k1 + (1 : Int))), (gt (o209.set i5.toNat (k1, (gt o209 i5).2)) i5).2.2))).set i5.toNat ((gt ((o209.set i5.toNat (k1, (gt o209 i5).2)).set i5.toNat ((gt (o209.set i5.toNat (k1, (gt o209 i5).2)) i5).1, ((IntKind.wrap .i64 (k1 + (1 : Int))), (gt (o209.set i5.toNat (k1, (gt o209 i5).2)) i5).2.2))) i5).1, ((gt ((o209.set i5.toNat (k1, (gt o209 i5).2)).set i5.toNat ((gt (o209.set i5.toNat (k1, (gt o209 i5).2)) i5).1, ((IntKind.wrap .i64 (k1 + (1 : Int))), (gt (o209.set i5.toNat (k1, (gt o209 i5).2)) i5).2.2))) i5).2.1, ((IntKind.wrap .i64 ((IntKind.wrap .i64 (k1 + (1 : Int))) + (1 : Int))), (gt ((o209.set i5.toNat (k1, (gt o209 i5).2)).set i5.toNat ((gt (o209.set i5.toNat (k1, (gt o209 i5).2)) i5).1, ((IntKind.wrap .i64 (k1 + (1 : Int))), (gt (o209.set i5.toNat (k1, (gt o209 i5).2)) i5).2.2))) i5).2.2.2)))).set i5.toNat ((gt (((o209.set i5.toNat (k1, (gt o209 i5).2)).set i5.toNat ((gt (o209.set i5.toNat (k1, (gt o209 i5).2)) i5).1, ((IntKind.wrap .i64 (k1 + (1 : Int))), (gt (o209.set i5.toNat (k1, (gt o209 i5).2)) i5).2.2))).set i5.toNat ((gt ((o209.set i5.toNat (k1, (gt o209 i5).2)).set i5.toNat ((gt (o209.set i5.toNat (k1, (gt o209 i5).2)) i5).1, ((IntKind.wrap .i64 (k1 + (1 : Int))), (gt (o209.set i5.toNat (k1, (gt o209 i5).2)) i5).2.2))) i5).1, ((gt ((o209.set i5.toNat (k1, (gt o209 i5).2)).set i5.toNat ((gt (o209.set i5.toNat (k1, (gt o209 i5).2)) i5).1, ((IntKind.wrap .i64 (k1 + (1 : Int))), (gt (o209.set i5.toNat (k1, (gt o209 i5).2)) i5).2.2))) i5).2.1, ((IntKind.wrap .i64 ((IntKind.wrap .i64 (k1 + (1 : Int))) + (1 : Int))), (gt ((o209.set i5.toNat (k1, (gt o209 i5).2)).set i5.toNat ((gt (o209.set i5.toNat (k1, (gt o209 i5).2)) i5).1, ((IntKind.wrap .i64 (k1 + (1 : Int))), (gt (o209.set i5.toNat (k1, (gt o209 i5).2)) i5).2.2))) i5).2.2.2)))) i5).1, ((gt (((o209.set i5.toNat (k1, (gt o209 i5).2)).set i5.toNat ((gt (o209.set i5.toNat (k1, (gt o209 i5).2)) i5).1, ((IntKind.wrap .i64 (k1 + (1 : Int))), (gt (o209.set i5.toNat (k1, (gt o209 i5).2)) i5).2.2))).set i5.toNat ((gt ((o209.set i5.toNat (k1, (gt o209 i5).2)).set i5.toNat ((gt (o209.set i5.toNat (k1, (gt o209 i5).2)) i5).1, ((IntKind.wrap .i64 (k1 + (1 : Int))), (gt (o209.set i5.toNat (k1, (gt o209 i5).2)) i5).2.2))) i5).1, ((gt ((o209.set i5.toNat (k1, (gt o209 i5).2)).set i5.toNat ((gt (o209.set i5.toNat (k1, (gt o209 i5).2)) i5).1, ((IntKind.wrap .i64 (k1 + (1 : Int))), (gt (o209.set i5.toNat (k1, (gt o209 i5).2)) i5).2.2))) i5).2.1, ((IntKind.wrap .i64 ((IntKind.wrap .i64 (k1 + (1 : Int))) + (1 : Int))), (gt ((o209.set i5.toNat (k1, (gt o209 i5).2)).set i5.toNat ((gt (o209.set i5.toNat (k1, (gt o209 i5).2)) i5).1, ((IntKind.wrap .i64 (k1 + (1 : Int))), (gt (o209.set i5.toNat (k1, (gt o209 i5).2)) i5).2.2))) i5).2.2.2)))) i5).2.1, ((gt (((o209.set i5.toNat (k1, (gt o209 i5).2)).set i5.toNat ((gt (o209.set i5.toNat (k1, (gt o209 i5).2)) i5).1, ((IntKind.wrap .i64 (k1 + (1 : Int))), (gt (o209.set i5.toNat (k1, (gt o209 i5).2)) i5).2.2))).set i5.toNat ((gt ((o209.set i5.toNat (k1, (gt o209 i5).2)).set i5.toNat ((gt (o209.set i5.toNat (k1, (gt o209 i5).2)) i5).1, ((IntKind.wrap .i64 (k1 + (1 : Int))), (gt (o209.set i5.toNat (k1, (gt o209 i5).2)) i5).2.2))) i5).1, ((gt ((o209.set i5.toNat (k1, (gt o209 i5).2)).set i5.toNat ((gt (o209.set i5.toNat (k1, (gt o209 i5).2)) i5).1, ((IntKind.wrap .i64 (k1 + (1 : Int))), (gt (o209.set i5.toNat (k1, (gt o209 i5).2)) i5).2.2))) i5).2.1, ((IntKind.wrap .i64 ((IntKind.wrap .i64 (k1 + (1 : Int))) + (1 : Int))), (gt ((o209.set i5.toNat (k1, (gt o209 i5).2)).set i5.toNat ((gt (o209.set i5.toNat (k1, (gt o209 i5).2)) i5).1, ((IntKind.wrap .i64 (k1 + (1 : Int))), (gt (o209.set i5.toNat (k1, (gt o209 i5).2)) i5).2.2))) i5).2.2.2)))) i5).2.2.1, ((IntKind.wrap .i64 ((IntKind.wrap .i64 ((IntKind.wrap .i64 (k1 + (1 : Int))) + (1 : Int))) + (1 : Int))), (gt (((o209.set i5.toNat (k1, (gt o209 i5).2)).set i5.toNat ((gt (o209.set i5.toNat (k1, (gt o209 i5).2)) i5).1, ((IntKind.wrap .i64 (k1 + (1 : Int))), (gt (o209.set i5.toNat (k1, (gt o209 i5).2)) i5).2.2))).set i5.toNat ((gt ((o209.set i5.toNat (k1, (gt o209 i5).2)).set i5.toNat ((gt (o209.set i5.toNat (k1, (gt o209 i5).2)) i5).1, ((IntKind.wrap .i64 (k1 + (1 : Int))), (gt (o209.set i5.toNat (k1, (gt o209 i5).2)) i5).2.2))) i5).1, ((gt ((o209.set i5.toNat (k1, (gt o209 i5).2)).set i5.toNat ((gt (o209.set i5.toNat (k1, (gt o209 i5).2)) i5).1, ((IntKind.wrap .i64 (k1 + (1 : Int))), (gt (o209.set i5.toNat (k1, (gt o209 i5).2)) i5).2.2))) i5).2.1, ((IntKind.wrap .i64 ((IntKind.wrap .i64 (k1 + (1 : Int))) + (1 : Int))), (gt ((o209.set i5.toNat (k1, (gt o209 i5).2)).set i5.toNat ((gt (o209.set i5.toNat (k1, (gt o209 i5).2)) i5).1, ((IntKind.wrap .i64 (k1 + (1 : Int))), (gt (o209.set i5.toNat (k1, (gt o209 i5).2)) i5).2.2))) i5).2.2.2)))) i5).2.2.2.2))))) i5).1, ((gt ((((o209.set i5.toNat (k1, (gt o209 i5).2)).set i5.toNat ((gt (o209.set i5.toNat (k1, (gt o209 i5).2)) i5).1, ((IntKind.wrap .i64 (k1 + (1 : Int))), (gt (o209.set i5.toNat (k1, (gt o209 i5).2)) i5).2.2))).set i5.toNat ((gt ((o209.set i5.toNat (k1, (gt o209 i5).2)).set i5.toNat ((gt (o209.set i5.toNat (k1, (gt o209 i5).2)) i5).1, ((IntKind.wrap .i64 (k1 + (1 : Int))), (gt (o209.set i5.toNat (k1, (gt o209 i5).2)) i5).2.2))) i5).1, ((gt ((o209.set i5.toNat (k1, (gt o209 i5).2)).set i5.toNat ((gt (o209.set i5.toNat (k1, (gt o209 i5).2)) i5).1, ((IntKind.wrap .i64 (k1 + (1 : Int))), (gt (o209.set i5.toNat (k1, (gt o209 i5).2)) i5).2.2))) i5).2.1, ((IntKind.wrap .i64 ((IntKind.wrap .i64 (k1 + (1 : Int))) + (1 : Int))), (gt ((o209.set i5.toNat (k1, (gt o209 i5).2)).set i5.toNat ((gt (o209.set i5.toNat (k1, (gt o209 i5).2)) i5).1, ((IntKind.wrap .i64 (k1 + (1 : Int))), (gt (o209.set i5.toNat (k1, (gt o209 i5).2)) i5).2.2))) i5).2.2.2)))).set i5.toNat ((gt (((o209.set i5.toNat (k1, (gt o209 i5).2)).set i5.toNat ((gt (o209.set i5.toNat (k1, (gt o209 i5).2)) i5).1, ((IntKind.wrap .i64 (k1 + (1 : Int))), (gt (o209.set i5.toNat (k1, (gt o209 i5).2)) i5).2.2))).set i5.toNat ((gt ((o209.set i5.toNat (k1, (gt o209 i5).2)).set i5.toNat ((gt (o209.set i5.toNat (k1, (gt o209 i5).2)) i5).1, ((IntKind.wrap .i64 (k1 + (1 : Int))), (gt (o209.set i5.toNat (k1, (gt o209 i5).2)) i5).2.2))) i5).1, ((gt ((o209.set i5.toNat (k1, (gt o209 i5).2)).set i5.toNat ((gt (o209.set i5.toNat (k1, (gt o209 i5).2)) i5).1, ((IntKind.wrap .i64 (k1 + (1 : Int))), (gt (o209.set i5.toNat (k1, (gt o209 i5).2)) i5).2.2))) i5).2.1, ((IntKind.wrap .i64 ((IntKind.wrap .i64 (k1 + (1 : Int))) + (1 : Int))), (gt ((o209.set i5.toNat (k1, (gt o209 i5).2)).set i5.toNat ((gt (o209.set i5.toNat (k1, (gt o209 i5).2)) i5).1, ((IntKind.wrap .i64 (k1 + (1 : Int))), (gt (o209.set i5.toNat (k1, (gt o209 i5).2)) i5).2.2))) i5).2.2.2)))) i5).1, ((gt (((o209.set i5.toNat (k1, (gt o209 i5).2)).set i5.toNat ((gt (o209.set i5.toNat (k1, (gt o209 i5).2)) i5).1, ((IntKind.wrap .i64 (k1 + (1 : Int))), (gt (o209.set i5.toNat (k1, (gt o209 i5).2)) i5).2.2))).set i5.toNat ((gt ((o209.set i5.toNat (k1, (gt o209 i5).2)).set i5.toNat ((gt (o209.set i5.toNat (k1, (gt o209 i5).2)) i5).1, ((IntKind.wrap .i64 (k1 + (1 : Int))), (gt (o209.set i5.toNat (k1, (gt o209 i5).2)) i5).2.2))) i5).1, ((gt ((o209.set i5.toNat (k1, (gt o209 i5).2)).set i5.toNat ((gt (o209.set i5.toNat (k1, (gt o209 i5).2)) i5).1, ((IntKind.wrap .i64 (k1 + (1 : Int))), (gt (o209.set i5.toNat (k1, (gt o209 i5).2)) i5).2.2))) i5).2.1, ((IntKind.wrap .i64 ((IntKind.wrap .i64 (k1 + (1 : Int))) + (1 : Int))), (gt ((o209.set i5.toNat (k1, (gt o209 i5).2)).set i5.toNat ((gt (o209.set i5.toNat (k1, (gt o209 i5).2)) i5).1, ((IntKind.wrap .i64 (k1 + (1 : Int))), (gt (o209.set i5.toNat (k1, (gt o209 i5).2)) i5).2.2))) i5).2.2.2)))) i5).2.1, ((gt (((o209.set i5.toNat (k1, (gt o209 i5).2)).set i5.toNat ((gt (o209.set i5.toNat (k1, (gt o209 i5).2)) i5).1, ((IntKind.wrap .i64 (k1 + (1 : Int))), (gt (o209.set i5.toNat (k1, (gt o209 i5).2)) i5).2.2))).set i5.toNat ((gt ((o209.set i5.toNat (k1, (gt o209 i5).2)).set i5.toNat ((gt (o209.set i5.toNat (k1, (gt o209 i5).2)) i5).1, ((IntKind.wrap .i64 (k1 + (1 : Int))), (gt (o209.set i5.toNat (k1, (gt o209 i5).2)) i5).2.2))) i5).1, ((gt ((o209.set i5.toNat (k1, (gt o209 i5).2)).set i5.toNat ((gt (o209.set i5.toNat (k1, (gt o209 i5).2)) i5).1, ((IntKind.wrap .i64 (k1 + (1 : Int))), (gt (o209.set i5.toNat (k1, (gt o209 i5).2)) i5).2.2))) i5).2.1, ((IntKind.wrap .i64 ((IntKind.wrap .i64 (k1 + (1 : Int))) + (1 : Int))), (gt ((o209.set i5.toNat (k1, (gt o209 i5).2)).set i5.toNat ((gt (o209.set i5.toNat (k1, (gt o209 i5).2)) i5).1, ((IntKind.wrap .i64 (k1 + (1 : Int))), (gt (o209.set i5.toNat (k1, (gt o209 i5).2)) i5).2.2))) i5).2.2.2)))) i5).2.2.1, ((IntKind.wrap .i64 ((IntKind.wrap .i64 ((IntKind.wrap .i64 (k1 + (1 : Int))) + (1 : Int))) + (1 : Int))), (gt (((o209.set i5.toNat (k1, (gt o209 i5).2)).set i5.toNat ((gt (o209.set i5.toNat (k1, (gt o209 i5).2)) i5).1, ((IntKind.wrap .i64 (k1 + (1 : Int))), (gt (o209.set i5.toNat (k1, (gt o209 i5).2)) i5).2.2))).set i5.toNat ((gt ((o209.set i5.toNat (k1, (gt o209 i5).2)).set i5.toNat ((gt (o209.set i5.toNat (k1, (gt o209 i5).2)) i5).1, ((IntKind.wrap .i64 (k1 + (1 : Int))), (gt (o209.set i5.toNat (k1, (gt o209 i5).2)) i5).2.2))) i5).1, ((gt ((o209.set i5.toNat (k1, (gt o209 i5).2)).set i5.toNat ((gt (o209.set i5.toNat (k1, (gt o209 i5).2)) i5).1, ((IntKind.wrap .i64 (k1 + (1 : Int))), (gt (o209.set i5.toNat (k1, (gt o209 i5).2)) i5).2.2))) i5).2.1, ((IntKind.wrap .i64 ((IntKind.wrap .i64 (k1 + (1 : Int))) + (1 : Int))), (gt ((o209.set i5.toNat (k1, (gt o209 i5).2)).set i5.toNat ((gt (o209.set i5.toNat (k1, (gt o209 i5).2)) i5).1, ((IntKind.wrap .i64 (k1 + (1 : Int))), (gt (o209.set i5.toNat (k1, (gt o209 i5).2)) i5).2.2))) i5).2.2.2)))) i5).2.2.2.2))))) i5).2.1, ((gt ((((o209.set i5.toNat (k1, (gt o209 i5).2)).set i5.toNat ((gt (o209.set i5.toNat (k1, (gt o209 i5).2)) i5).1, ((IntKind.wrap .i64 (k1 + (1 : Int))), (gt (o209.set i5.toNat (k1, (gt o209 i5).2)) i5).2.2))).set i5.toNat ((gt ((o209.set i5.toNat (k1, (gt o209 i5).2)).set i5.toNat ((gt (o209.set i5.toNat (k1, (gt o209 i5).2)) i5).1, ((IntKind.wrap .i64 (k1 + (1 : Int))), (gt (o209.set i5.toNat (k1, (gt o209 i5).2)) i5).2.2))) i5).1, ((gt ((o209.set i5.toNat (k1, (gt o209 i5).2)).set i5.toNat ((gt (o209.set i5.toNat (k1, (gt o209 i5).2)) i5).1, ((IntKind.wrap .i64 (k1 + (1 : Int))), (gt (o209.set i5.toNat (k1, (gt o209 i5).2)) i5).2.2))) i5).2.1, ((IntKind.wrap .i64 ((IntKind.wrap .i64 (k1 + (1 : Int))) + (1 : Int))), (gt ((o209.set i5.toNat (k1, (gt o209 i5).2)).set i5.toNat ((gt (o209.set i5.toNat (k1, (gt o209 i5).2)) i5).1, ((IntKind.wrap .i64 (k1 + (1 : Int))), (gt (o209.set i5.toNat (k1, (gt o209 i5).2)) i5).2.2))) i5).2.2.2)))).set i5.toNat ((gt (((o209.set i5.toNat (k1, (gt o209 i5).2)).set i5.toNat ((gt (o209.set i5.toNat (k1, (gt o209 i5).2)) i5).1, ((IntKind.wrap .i64 (k1 + (1 : Int))), (gt (o209.set i5.toNat (k1, (gt o209 i5).2)) i5).2.2))).set i5.toNat ((gt ((o209.set i5.toNat (k1, (gt o209 i5).2)).set i5.toNat ((gt (o209.set i5.toNat (k1, (gt o209 i5).2)) i5).1, ((IntKind.wrap .i64 (k1 + (1 : Int))), (gt (o209.set i5.toNat (k1, (gt o209 i5).2)) i5).2.2))) i5).1, ((gt ((o209.set i5.toNat (k1, (gt o209 i5).2)).set i5.toNat ((gt (o209.set i5.toNat (k1, (gt o209 i5).2)) i5).1, ((IntKind.wrap .i64 (k1 + (1 : Int))), (gt (o209.set i5.toNat (k1, (gt o209 i5).2)) i5).2.2))) i5).2.1, ((IntKind.wrap .i64 ((IntKind.wrap .i64 (k1 + (1 : Int))) + (1 : Int))), (gt ((o209.set i5.toNat (k1, (gt o209 i5).2)).set i5.toNat ((gt (o209.set i5.toNat (k1, (gt o209 i5).2)) i5).1, ((IntKind.wrap .i64 (k1 + (1 : Int))), (gt (o209.set i5.toNat (k1, (gt o209 i5).2)) i5).2.2))) i5).2.2.2)))) i5).1, ((gt (((o209.set i5.toNat (k1, (gt o209 i5).2)).set i5.toNat ((gt (o209.set i5.toNat (k1, (gt o209 i5).2)) i5).1, ((IntKind.wrap .i64 (k1 + (1 : Int))), (gt (o209.set i5.toNat (k1, (gt o209 i5).2)) i5).2.2))).set i5.toNat ((gt ((o209.set i5.toNat (k1, (gt o209 i5).2)).set i5.toNat ((gt (o209.set i5.toNat (k1, (gt o209 i5).2)) i5).1, ((IntKind.wrap .i64 (k1 + (1 : Int))), (gt (o209.set i5.toNat (k1, (gt o209 i5).2)) i5).2.2))) i5).1, ((gt ((o209.set i5.toNat (k1, (gt o209 i5).2)).set i5.toNat ((gt (o209.set i5.toNat (k1, (gt o209 i5).2)) i5).1, ((IntKind.wrap .i64 (k1 + (1 : Int))), (gt (o209.set i5.toNat (k1, (gt o209 i5).2)) i5).2.2))) i5).2.1, ((IntKind.wrap .i64 ((IntKind.wrap .i64 (k1 + (1 : Int))) + (1 : Int))), (gt ((o209.set i5.toNat (k1, (gt o209 i5).2)).set i5.toNat ((gt (o209.set i5.toNat (k1, (gt o209 i5).2)) i5).1, ((IntKind.wrap .i64 (k1 + (1 : Int))), (gt (o209.set i5.toNat (k1, (gt o209 i5).2)) i5).2.2))) i5).2.2.2)))) i5).2.1, ((gt (((o209.set i5.toNat (k1, (gt o209 i5).2)).set i5.toNat ((gt (o209.set i5.toNat (k1, (gt o209 i5).2)) i5).1, ((IntKind.wrap .i64 (k1 + (1 : Int))), (gt (o209.set i5.toNat (k1, (gt o209 i5).2)) i5).2.2))).set i5.toNat ((gt ((o209.set i5.toNat (k1, (gt o209 i5).2)).set i5.toNat ((gt (o209.set i5.toNat (k1, (gt o209 i5).2)) i5).1, ((IntKind.wrap .i64 (k1 + (1 : Int))), (gt (o209.set i5.toNat (k1, (gt o209 i5).2)) i5).2.2))) i5).1, ((gt ((o209.set i5.toNat (k1, (gt o209 i5).2)).set i5.toNat ((gt (o209.set i5.toNat (k1, (gt o209 i5).2)) i5).1, ((IntKind.wrap .i64 (k1 + (1 : Int))), (gt (o209.set i5.toNat (k1, (gt o209 i5).2)) i5).2.2))) i5).2.1, ((IntKind.wrap .i64 ((IntKind.wrap .i64 (k1 + (1 : Int))) + (1 : Int))), (gt ((o209.set i5.toNat (k1, (gt o209 i5).2)).set i5.toNat ((gt (o209.set i5.toNat (k1, (gt o209 i5).2)) i5).1, ((IntKind.wrap .i64 (k1 + (1 : Int))), (gt (o209.set i5.toNat (k1, (gt o209 i5).2)) i5).2.2))) i5).2.2.2)))) i5).2.2.1, ((IntKind.wrap .i64 ((IntKind.wrap .i64 ((IntKind.wrap .i64 (k1 + (1 : Int))) + (1 : Int))) + (1 : Int))), (gt (((o209.set i5.toNat (k1, (gt o209 i5).2)).set i5.toNat ((gt (o209.set i5.toNat (k1, (gt o209 i5).2)) i5).1, ((IntKind.wrap .i64 (k1 + (1 : Int))), (gt (o209.set i5.toNat (k1, (gt o209 i5).2)) i5).2.2))).set i5.toNat ((gt ((o209.set i5.toNat (k1, (gt o209 i5).2)).set i5.toNat ((gt (o209.set i5.toNat (k1, (gt o209 i5).2)) i5).1, ((IntKind.wrap .i64 (k1 + (1 : Int))), (gt (o209.set i5.toNat (k1, (gt o209 i5).2)) i5).2.2))) i5).1, ((gt ((o209.set i5.toNat (k1, (gt o209 i5).2)).set i5.toNat ((gt (o209.set i5.toNat (k1, (gt o209 i5).2)) i5).1, ((IntKind.wrap .i64 (k1 + (1 : Int))), (gt (o209.set i5.toNat (k1, (gt o209 i5).2)) i5).2.2))) i5).2.1, ((IntKind.wrap .i64 ((IntKind.wrap .i64 (k1 + (1 : Int))) + (1 : Int))), (gt ((o209.set i5.toNat (k1, (gt o209 i5).2)).set i5.toNat ((gt (o209.set i5.toNat (k1, (gt o209 i5).2)) i5).1, ((IntKind.wrap .i64 (k1 + (1 : Int))), (gt (o209.set i5.toNat (k1, (gt o209 i5).2)) i5).2.2))) i5).2.2.2)))) i5).2.2.2.2))))) i5).2.2.1, ((gt ((((o209.set i5.toNat (k1, (gt o209 i5).2)).set i5.toNat ((gt (o209.set i5.toNat (k1, (gt o209 i5).2)) i5).1, ((IntKind.wrap .i64 (k1 + (1 : Int))), (gt (o209.set i5.toNat (k1, (gt o209 i5).2)) i5).2.2))).set i5.toNat ((gt ((o209.set i5.toNat (k1, (gt o209 i5).2)).set i5.toNat ((gt (o209.set i5.toNat (k1, (gt o209 i5).2)) i5).1, ((IntKind.wrap .i64 (k1 + (1 : Int))), (gt (o209.set i5.toNat (k1, (gt o209 i5).2)) i5).2.2))) i5).1, ((gt ((o209.set i5.toNat (k1, (gt o209 i5).2)).set i5.toNat ((gt (o209.set i5.toNat (k1, (gt o209 i5).2)) i5).1, ((IntKind.wrap .i64 (k1 + (1 : Int))), (gt (o209.set i5.toNat (k1, (gt o209 i5).2)) i5).2.2))) i5).2.1, ((IntKind.wrap .i64 ((IntKind.wrap .i64 (k1 + (1 : Int))) + (1 : Int))), (gt ((o209.set i5.toNat (k1, (gt o209 i5).2)).set i5.toNat ((gt (o209.set i5.toNat (k1, (gt o209 i5).2)) i5).1, ((IntKind.wrap .i64 (k1 + (1 : Int))), (gt (o209.set i5.toNat (k1, (gt o209 i5).2)) i5).2.2))) i5).2.2.2)))).set i5.toNat ((gt (((o209.set i5.toNat (k1, (gt o209 i5).2)).set i5.toNat ((gt (o209.set i5.toNat (k1, (gt o209 i5).2)) i5).1, ((IntKind.wrap .i64 (k1 + (1 : Int))), (gt (o209.set i5.toNat (k1, (gt o209 i5).2)) i5).2.2))).set i5.toNat ((gt ((o209.set i5.toNat (k1, (gt o209 i5).2)).set i5.toNat ((gt (o209.set i5.toNat (k1, (gt o209 i5).2)) i5).1, ((IntKind.wrap .i64 (k1 + (1 : Int))), (gt (o209.set i5.toNat (k1, (gt o209 i5).2)) i5).2.2))) i5).1, ((gt ((o209.set i5.toNat (k1, (gt o209 i5).2)).set i5.toNat ((gt (o209.set i5.toNat (k1, (gt o209 i5).2)) i5).1, ((IntKind.wrap .i64 (k1 + (1 : Int))), (gt (o209.set i5.toNat (k1, (gt o209 i5).2)) i5).2.2))) i5).2.1, ((IntKind.wrap .i64 ((IntKind.wrap .i64 (k1 + (1 : Int))) + (1 : Int))), (gt ((o209.set i5.toNat (k1, (gt o209 i5).2)).set i5.toNat ((gt (o209.set i5.toNat (k1, (gt o209 i5).2)) i5).1, ((IntKind.wrap .i64 (k1 + (1 : Int))), (gt (o209.set i5.toNat (k1, (gt o209 i5).2)) i5).2.2))) i5).2.2.2)))) i5).1, ((gt (((o209.set i5.toNat (k1, (gt o209 i5).2)).set i5.toNat ((gt (o209.set i5.toNat (k1, (gt o209 i5).2)) i5).1, ((IntKind.wrap .i64 (k1 + (1 : Int))), (gt (o209.set i5.toNat (k1, (gt o209 i5).2)) i5).2.2))).set i5.toNat ((gt ((o209.set i5.toNat (k1, (gt o209 i5).2)).set i5.toNat ((gt (o209.set i5.toNat (k1, (gt o209 i5).2)) i5).1, ((IntKind.wrap .i64 (k1 + (1 : Int))), (gt (o209.set i5.toNat (k1, (gt o209 i5).2)) i5).2.2))) i5).1, ((gt ((o209.set i5.toNat (k1, (gt o209 i5).2)).set i5.toNat ((gt (o209.set i5.toNat (k1, (gt o209 i5).2)) i5).1, ((IntKind.wrap .i64 (k1 + (1 : Int))), (gt (o209.set i5.toNat (k1, (gt o209 i5).2)) i5).2.2))) i5).2.1, ((IntKind.wrap .i64 ((IntKind.wrap .i64 (k1 + (1 : Int))) + (1 : Int))), (gt ((o209.set i5.toNat (k1, (gt o209 i5).2)).set i5.toNat ((gt (o209.set i5.toNat (k1, (gt o209 i5).2)) i5).1, ((IntKind.wrap .i64 (k1 + (1 : Int))), (gt (o209.set i5.toNat (k1, (gt o209 i5).2)) i5).2.2))) i5).2.2.2)))) i5).2.1, ((gt (((o209.set i5.toNat (k1, (gt o209 i5).2)).set i5.toNat ((gt (o209.set i5.toNat (k1, (gt o209 i5).2)) i5).1, ((IntKind.wrap .i64 (k1 + (1 : Int))), (gt (o209.set i5.toNat (k1, (gt o209 i5).2)) i5).2.2))).set i5.toNat ((gt ((o209.set i5.toNat (k1, (gt o209 i5).2)).set i5.toNat ((gt (o209.set i5.toNat (k1, (gt o209 i5).2)) i5).1, ((IntKind.wrap .i64 (k1 + (1 : Int))), (gt (o209.set i5.toNat (k1, (gt o209 i5).2)) i5).2.2))) i5).1, ((gt ((o209.set i5.toNat (k1, (gt o209 i5).2)).set i5.toNat ((gt (o209.set i5.toNat (k1, (gt o209 i5).2)) i5).1, ((IntKind.wrap .i64 (k1 + (1 : Int))), (gt (o209.set i5.toNat (k1, (gt o209 i5).2)) i5).2.2))) i5).2.1, ((IntKind.wrap .i64 ((IntKind.wrap .i64 (k1 + (1 : Int))) + (1 : Int))), (gt ((o209.set i5.toNat (k1, (gt o209 i5).2)).set i5.toNat ((gt (o209.set i5.toNat (k1, (gt o209 i5).2)) i5).1, ((IntKind.wrap .i64 (k1 + (1 : Int))), (gt (o209.set i5.toNat (k1, (gt o209 i5).2)) i5).2.2))) i5).2.2.2)))) i5).2.2.1, ((IntKind.wrap .i64 ((IntKind.wrap .i64 ((IntKind.wrap .i64 (k1 + (1 : Int))) + (1 : Int))) + (1 : Int))), (gt (((o209.set i5.toNat (k1, (gt o209 i5).2)).set i5.toNat ((gt (o209.set i5.toNat (k1, (gt o209 i5).2)) i5).1, ((IntKind.wrap .i64 (k1 + (1 : Int))), (gt (o209.set i5.toNat (k1, (gt o209 i5).2)) i5).2.2))).set i5.toNat ((gt ((o209.set i5.toNat (k1, (gt o209 i5).2)).set i5.toNat ((gt (o209.set i5.toNat (k1, (gt o209 i5).2)) i5).1, ((IntKind.wrap .i64 (k1 + (1 : Int))), (gt (o209.set i5.toNat (k1, (gt o209 i5).2)) i5).2.2))) i5).1, ((gt ((o209.set i5.toNat (k1, (gt o209 i5).2)).set i5.toNat ((gt (o209.set i5.toNat (k1, (gt o209 i5).2)) i5).1, ((IntKind.wrap .i64 (k1 + (1 : Int))), (gt (o209.set i5.toNat (k1, (gt o209 i5).2)) i5).2.2))) i5).2.1, ((IntKind.wrap .i64 ((IntKind.wrap .i64 (k1 + (1 : Int))) + (1 : Int))), (gt ((o209.set i5.toNat (k1, (gt o209 i5).2)).set i5.toNat ((gt (o209.set i5.toNat (k1, (gt o209 i5).2)) i5).1, ((IntKind.wrap .i64 (k1 + (1 : Int))), (gt (o209.set i5.toNat (k1, (gt o209 i5).2)) i5).2.2))) i5).2.2.2)))) i5).2.2.2.2))))) i5).2.2.2.1, (IntKind.wrap .i64 ((IntKind.wrap .i64 ((IntKind.wrap .i64 ((IntKind.wrap .i64 (k1 + (1 : Int))) + (1 : Int))) + (1 : Int))) + (1 : Int)))))))), ())))
 else none
 else none
 else none
 else none
 else none
 else none
 else none
 else none
 else none
 else none
 else some (k1, (o209, ()))
theorem s_lR0 (N : Nat) : ∀ σ p rec v, stepL (rn drawQ (mkB (C52 N) [(21, Try.f21), (51, Try.f51), (22, Try.f22)] [] [] []) 8 21 b21_0) 0 (wr b21_0) d_lR0 (instP σ d_lR0.pm p) rec v = n_lR0 N p rec v := by
 rintro σ p rec ⟨k1, i5, o209, _⟩; kernel_rfl
noncomputable def g_lR0 (N : Nat) : St (Sig.T SS) → Tr (Ex × St (Sig.T SS)) := orcL (wr b21_0) d_lR0 fun p => itN (n_lR0 N p) N
theorem o_lR0 (N : Nat) : Snd QQ (g_lR0 N) (.block 0 (blkOf 0 (blks c21))) := loopP LL DR_ok (KC52 N) (F := [(21, Try.f21), (51, Try.f51), (22, Try.f22)]) (J := []) (FGood.cons i21 (JGood.nil c21) (FGood.cons i51 (JGood.nil c51) (FGood.cons i22 (JGood.nil c22) (FGood.nil _)))) (M := []) (R := []) i21 (JGood.nil c21) e21_0 (s_lR0 N) N
noncomputable def b51_0 : Code := unLoop (blkOf 0 (blks c51))
theorem e51_0 : blkOf 0 (blks c51) = .loop b51_0 := by kernel_rfl
noncomputable def b22_0 : Code := unLoop (blkOf 0 (blks c22))
theorem e22_0 : blkOf 0 (blks c22) = .loop b22_0 := by kernel_rfl
def d_lR3 : LoopD := ⟨696, ⟨[(0, .c (.sub 233 233))], [], 19⟩, ⟨[(1, .c (.int .i64)), (5, .c (.int .i64))], [(233, .deep 29 0 2 [] 233)], 704⟩, [], [233], [⟨.norm, ⟨[(1, .c (.int .i64))], [(233, .deep 29 0 2 [] 233)], 704⟩, [], [233]⟩]⟩
def n_lR3 (N : Nat) : Int × Unit → (Int × Int × List (List (Int)) × Unit → Option ((Int × List (List (Int)) × Unit))) → Int × Int × List (List (Int)) × Unit → Option ((Int × List (List (Int)) × Unit))
 | (a0, _), rec, (k1, i5, o233, _) =>
 bif (decide (i5 < ((gt o233 a0).length : Int))) then bif (decide ((0 : Int) ≤ i5)) then bif (decide (i5 < ((gt o233 a0).length : Int))) then rec ((IntKind.wrap .i64 (k1 + (1 : Int))), ((IntKind.wrap .i64 (i5 + (1 : Int))), ((o233.set a0.toNat ((gt o233 a0).set i5.toNat k1)), ())))
 else none
 else none
 else some (k1, (o233, ()))
theorem s_lR3 (N : Nat) : ∀ σ p rec v, stepL (rn drawQ (mkB (C52 N) [(21, Try.f21), (51, Try.f51), (22, Try.f22)] [(21, [(0, g_lR0 N)])] [] []) 8 22 b22_0) 0 (wr b22_0) d_lR3 (instP σ d_lR3.pm p) rec v = n_lR3 N p rec v := by
 rintro σ ⟨a0, _⟩ rec ⟨k1, i5, o233, _⟩; kernel_rfl
noncomputable def g_lR3 (N : Nat) : St (Sig.T SS) → Tr (Ex × St (Sig.T SS)) := orcL (wr b22_0) d_lR3 fun p => itN (n_lR3 N p) N
theorem o_lR3 (N : Nat) : Snd QQ (g_lR3 N) (.block 0 (blkOf 0 (blks c22))) := loopP LL DR_ok (KC52 N) (F := [(21, Try.f21), (51, Try.f51), (22, Try.f22)]) (J := [(21, [(0, g_lR0 N)])]) (FGood.cons i21 (JGood.cons i21.hd (o_lR0 N) (JGood.nil c21)) (FGood.cons i51 (JGood.nil c51) (FGood.cons i22 (JGood.nil c22) (FGood.nil _)))) (M := []) (R := []) i22 (JGood.nil c22) e22_0 (s_lR3 N) N
def d_lR1 : LoopD := ⟨592, ⟨[(0, .c (.row 233))], [], 19⟩, ⟨[(1, .c (.int .i64)), (5, .c (.int .i64))], [(233, .deep 29 0 2 [] 233)], 600⟩, [], [233], [⟨.norm, ⟨[(1, .c (.int .i64))], [(233, .deep 29 0 2 [] 233)], 600⟩, [], [233]⟩]⟩
def n_lR1 (N : Nat) : Unit → (Int × Int × List (List (Int)) × Unit → Option ((Int × List (List (Int)) × Unit))) → Int × Int × List (List (Int)) × Unit → Option ((Int × List (List (Int)) × Unit))
 | _, rec, (k1, i5, o233, _) =>
 bif (decide (i5 < (o233.length : Int))) then bif (decide ((0 : Int) ≤ i5)) then bif (decide (i5 < (o233.length : Int))) then (itN (n_lR3 N (i5, ())) N (k1, ((0 : Int), (o233, ())))).bind fun r503 =>
 rec (r503.1, ((IntKind.wrap .i64 (i5 + (1 : Int))), (r503.2.1, ())))
 else none
 else none
 else some (k1, (o233, ()))
theorem s_lR1 (N : Nat) : ∀ σ p rec v, stepL (rn drawQ (mkB (C52 N) [(21, Try.f21), (51, Try.f51), (22, Try.f22)] [(21, [(0, g_lR0 N)]), (22, [(0, g_lR3 N)])] [] []) 8 51 b51_0) 0 (wr b51_0) d_lR1 (instP σ d_lR1.pm p) rec v = n_lR1 N p rec v := by
 rintro σ p rec ⟨k1, i5, o233, _⟩; kernel_rfl
noncomputable def g_lR1 (N : Nat) : St (Sig.T SS) → Tr (Ex × St (Sig.T SS)) := orcL (wr b51_0) d_lR1 fun p => itN (n_lR1 N p) N
theorem o_lR1 (N : Nat) : Snd QQ (g_lR1 N) (.block 0 (blkOf 0 (blks c51))) := loopP LL DR_ok (KC52 N) (F := [(21, Try.f21), (51, Try.f51), (22, Try.f22)]) (J := [(21, [(0, g_lR0 N)]), (22, [(0, g_lR3 N)])]) (FGood.cons i21 (JGood.cons i21.hd (o_lR0 N) (JGood.nil c21)) (FGood.cons i51 (JGood.nil c51) (FGood.cons i22 (JGood.cons i22.hd (o_lR3 N) (JGood.nil c22)) (FGood.nil _)))) (M := []) (R := []) i51 (JGood.nil c51) e51_0 (s_lR1 N) N
def d_lR6 : LoopD := ⟨880, ⟨[(0, .c (.sub 273 273))], [], 19⟩, ⟨[(1, .c (.int .i64)), (5, .c (.int .i64))], [(273, .deep 29 0 2 [] 273)], 888⟩, [], [273], [⟨.norm, ⟨[(1, .c (.int .i64))], [(273, .deep 29 0 2 [] 273)], 888⟩, [], [273]⟩]⟩
def n_lR6 (N : Nat) : Int × Unit → (Int × Int × List (List (Int)) × Unit → Option ((Int × List (List (Int)) × Unit))) → Int × Int × List (List (Int)) × Unit → Option ((Int × List (List (Int)) × Unit))
 | (a0, _), rec, (k1, i5, o273, _) =>
 bif (decide (i5 < ((gt o273 a0).length : Int))) then bif (decide ((0 : Int) ≤ i5)) then bif (decide (i5 < ((gt o273 a0).length : Int))) then rec ((IntKind.wrap .i64 (k1 + (1 : Int))), ((IntKind.wrap .i64 (i5 + (1 : Int))), ((o273.set a0.toNat ((gt o273 a0).set i5.toNat k1)), ())))
 else none
 else none
 else some (k1, (o273, ()))
theorem s_lR6 (N : Nat) : ∀ σ p rec v, stepL (rn drawQ (mkB (C52 N) [(21, Try.f21), (51, Try.f51), (22, Try.f22)] [(21, [(0, g_lR0 N)]), (51, [(0, g_lR1 N)]), (22, [(0, g_lR3 N)])] [] []) 8 22 b22_0) 0 (wr b22_0) d_lR6 (instP σ d_lR6.pm p) rec v = n_lR6 N p rec v := by
 rintro σ ⟨a0, _⟩ rec ⟨k1, i5, o273, _⟩; kernel_rfl
noncomputable def g_lR6 (N : Nat) : St (Sig.T SS) → Tr (Ex × St (Sig.T SS)) := orcL (wr b22_0) d_lR6 fun p => itN (n_lR6 N p) N
theorem o_lR6 (N : Nat) : Snd QQ (g_lR6 N) (.block 0 (blkOf 0 (blks c22))) := loopP LL DR_ok (KC52 N) (F := [(21, Try.f21), (51, Try.f51), (22, Try.f22)]) (J := [(21, [(0, g_lR0 N)]), (51, [(0, g_lR1 N)]), (22, [(0, g_lR3 N)])]) (FGood.cons i21 (JGood.cons i21.hd (o_lR0 N) (JGood.nil c21)) (FGood.cons i51 (JGood.cons i51.hd (o_lR1 N) (JGood.nil c51)) (FGood.cons i22 (JGood.cons i22.hd (o_lR3 N) (JGood.nil c22)) (FGood.nil _)))) (M := []) (R := []) i22 (JGood.cons i22.hd (o_lR3 N) (JGood.nil c22)) e22_0 (s_lR6 N) N
def d_lR4 : LoopD := ⟨776, ⟨[(0, .c (.row 273))], [], 19⟩, ⟨[(1, .c (.int .i64)), (5, .c (.int .i64))], [(273, .deep 29 0 2 [] 273)], 784⟩, [], [273], [⟨.norm, ⟨[(1, .c (.int .i64))], [(273, .deep 29 0 2 [] 273)], 784⟩, [], [273]⟩]⟩
def n_lR4 (N : Nat) : Unit → (Int × Int × List (List (Int)) × Unit → Option ((Int × List (List (Int)) × Unit))) → Int × Int × List (List (Int)) × Unit → Option ((Int × List (List (Int)) × Unit))
 | _, rec, (k1, i5, o273, _) =>
 bif (decide (i5 < (o273.length : Int))) then bif (decide ((0 : Int) ≤ i5)) then bif (decide (i5 < (o273.length : Int))) then (itN (n_lR6 N (i5, ())) N (k1, ((0 : Int), (o273, ())))).bind fun r521 =>
 rec (r521.1, ((IntKind.wrap .i64 (i5 + (1 : Int))), (r521.2.1, ())))
 else none
 else none
 else some (k1, (o273, ()))
theorem s_lR4 (N : Nat) : ∀ σ p rec v, stepL (rn drawQ (mkB (C52 N) [(21, Try.f21), (51, Try.f51), (22, Try.f22)] [(21, [(0, g_lR0 N)]), (51, [(0, g_lR1 N)]), (22, [(0, altO d_lR3 (g_lR3 N) (g_lR6 N))])] [] []) 8 51 b51_0) 0 (wr b51_0) d_lR4 (instP σ d_lR4.pm p) rec v = n_lR4 N p rec v := by
 rintro σ p rec ⟨k1, i5, o273, _⟩; kernel_rfl
noncomputable def g_lR4 (N : Nat) : St (Sig.T SS) → Tr (Ex × St (Sig.T SS)) := orcL (wr b51_0) d_lR4 fun p => itN (n_lR4 N p) N
theorem o_lR4 (N : Nat) : Snd QQ (g_lR4 N) (.block 0 (blkOf 0 (blks c51))) := loopP LL DR_ok (KC52 N) (F := [(21, Try.f21), (51, Try.f51), (22, Try.f22)]) (J := [(21, [(0, g_lR0 N)]), (51, [(0, g_lR1 N)]), (22, [(0, altO d_lR3 (g_lR3 N) (g_lR6 N))])]) (FGood.cons i21 (JGood.cons i21.hd (o_lR0 N) (JGood.nil c21)) (FGood.cons i51 (JGood.cons i51.hd (o_lR1 N) (JGood.nil c51)) (FGood.cons i22 (JGood.cons i22.hd (alt_ok (o_lR3 N) (o_lR6 N)) (JGood.nil c22)) (FGood.nil _)))) (M := []) (R := []) i51 (JGood.cons i51.hd (o_lR1 N) (JGood.nil c51)) e51_0 (s_lR4 N) N
def F_laws_FnExactRunMasked (N : Nat) : Int × (List (Int × Int × Int × Int × Int)) × List (List (Int)) × Unit → Option (Bool × Unit)
 | (aBits0, aLines1, aVars2, _) =>
 (F_laws_szLineS N (aLines1, ((1048576 : Int), ()))).bind fun r522 =>
 bif (decide (r522.1 < (0 : Int))) then some (true, ())
 else (F_laws_szInt64SS N (aVars2, (r522.1, ()))).bind fun r523 =>
 bif (decide (r523.1 < (0 : Int))) then some (true, ())
 else (F_laws_toLineS N (aLines1, ())).bind fun r524 =>
 (F_laws_toInt64SS N (aVars2, ())).bind fun r525 =>
 (F_spec_RunMasked N (aBits0, (r524.1, (r525.1, ())))).bind fun r526 =>
 (F_laws_toLineS N (aLines1, ())).bind fun r527 =>
 (F_laws_toInt64SS N (aVars2, ())).bind fun r528 =>
 (F_impl_RunMasked N (aBits0, (r527.1, (r528.1, ())))).bind fun r529 =>
 (F_laws_eqInt64SS N (r529.1, (r526.1, ()))).bind fun r530 =>
 bif (!r530.1) then some (false, ())
 else bif (!(r529.2.1 == r526.2.1)) then some (false, ())
 else (F_laws_toLineS N (aLines1, ())).bind fun r531 =>
 (F_laws_eqLineS N (r527.1, (r531.1, ()))).bind fun r532 =>
 bif (!r532.1) then some (false, ())
 else (F_laws_toInt64SS N (aVars2, ())).bind fun r533 =>
 (F_laws_eqInt64SS N (r528.1, (r533.1, ()))).bind fun r534 =>
 bif (!r534.1) then some (false, ())
 else (itN (n_lR0 N ()) N ((1 : Int), ((0 : Int), (r527.1, ())))).bind fun r535 =>
 (itN (n_lR1 N ()) N (r535.1, ((0 : Int), (r528.1, ())))).bind fun r536 =>
 bif (decide (r536.1 < (0 : Int))) then some (false, ())
 else (F_laws_eqInt64SS N (r529.1, (r526.1, ()))).bind fun r537 =>
 bif (!r537.1) then some (false, ())
 else bif (!(r529.2.1 == r526.2.1)) then some (false, ())
 else (itN (n_lR4 N ()) N ((1 : Int), ((0 : Int), (r529.1, ())))).bind fun r538 =>
 (F_laws_heldInt64SS N (r538.2.1, ((1 : Int), ()))).bind fun r539 =>
 bif (decide (r539.1 < (0 : Int))) then some (false, ())
 else bif (!(decide (r539.1 = r538.1))) then some (false, ())
 else (F_laws_toLineS N (aLines1, ())).bind fun r540 =>
 (F_laws_toInt64SS N (aVars2, ())).bind fun r541 =>
 (F_impl_RunMasked N (aBits0, (r540.1, (r541.1, ())))).bind fun r542 =>
 (F_laws_eqInt64SS N (r542.1, (r526.1, ()))).bind fun r543 =>
 bif (!r543.1) then some (false, ())
 else bif (!(r542.2.1 == r526.2.1)) then some (false, ())
 else (F_laws_heldInt64SS N (r538.2.1, ((1 : Int), ()))).bind fun r544 =>
 bif (decide (r544.1 < (0 : Int))) then some (false, ())
 else bif (!(decide (r544.1 = r538.1))) then some (false, ())
 else some (true, ())
theorem t12 (N : Nat) : ∀ v, (fr drawQ (mkB (C52 N) [(21, Try.f21), (51, Try.f51), (22, Try.f22)] [(21, [(0, g_lR0 N)]), (51, [(0, altO d_lR1 (g_lR1 N) (g_lR4 N))]), (22, [(0, altO d_lR3 (g_lR3 N) (g_lR6 N))])] [] []) 8 12 Try.f12 (instA [.c (.int .i64), .c (.ls 65), .c (.ls 29)] v)).k (matR [.c (.bool)]) = F_laws_FnExactRunMasked N v := by
 rintro ⟨aBits0, aLines1, aVars2, _⟩; kernel_rfl
noncomputable def C12 (N : Nat) : CL SS := (12, conG [.c (.int .i64), .c (.ls 65), .c (.ls 29)] [.c (.bool)] (F_laws_FnExactRunMasked N)) :: C52 N
theorem KC12 (N : Nat) : COk QQ (C12 N) := COk.cons (conP LL DR_ok (KC52 N) (F := [(21, Try.f21), (51, Try.f51), (22, Try.f22)]) (J := [(21, [(0, g_lR0 N)]), (51, [(0, altO d_lR1 (g_lR1 N) (g_lR4 N))]), (22, [(0, altO d_lR3 (g_lR3 N) (g_lR6 N))])]) (FGood.cons i21 (JGood.cons i21.hd (o_lR0 N) (JGood.nil c21)) (FGood.cons i51 (JGood.cons i51.hd (alt_ok (o_lR1 N) (o_lR4 N)) (JGood.nil c51)) (FGood.cons i22 (JGood.cons i22.hd (alt_ok (o_lR3 N) (o_lR6 N)) (JGood.nil c22)) (FGood.nil _)))) (M := []) (R := []) i12 (JGood.nil c12) (t12 N)) (KC52 N)
end Go.Proofs.Ytheemkehedmlfaa.E
