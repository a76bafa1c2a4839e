import Derived.Test.YtdpggojdmabnkaaT
/-! Printed by a program of mine (wip/eng/gen): the law's functions as pure forms. -/
set_option linter.unusedVariables false
namespace Go.Proofs.Ytdpggojdmabnkaa.E
open Go
noncomputable def C0 (N : Nat) : CL SS := []
theorem KC0 (N : Nat) : COk QQ (C0 N) := COk.nil
noncomputable def c39 : Code := Try.f39.body.getD .skip
theorem i39 : IsF Try.prog 39 Try.f39 c39 := ⟨Try.func39, by kernel_rfl, by kernel_rfl, by kernel_rfl⟩
/-- loop.example/g01139/laws.szInt64S -/
def F39 (N : Nat) : List (Int) × Int × Unit → Option (Int × Unit)
  | (a0, left1, _) =>
    bif (decide ((IntKind.wrap .i64 (left1 - (a0.length : Int))) < (0 : Int))) then some ((-(1 : Int)), ())
    else some ((IntKind.wrap .i64 (left1 - (a0.length : Int))), ())
theorem t39 (N : Nat) : ∀ v, (fr drawR (mkB (C0 N) [] [] [] []) 8 39 Try.f39 (instA [.c (.ls 2), .c (.int .i64)] v)).k (matR [.c (.int .i64)]) = F39 N v := by
  rintro ⟨a0, left1, _⟩; kernel_rfl
noncomputable def C39 (N : Nat) : CL SS := (39, conG [.c (.ls 2), .c (.int .i64)] [.c (.int .i64)] (F39 N)) :: C0 N
theorem KC39 (N : Nat) : COk QQ (C39 N) := COk.cons (conP LL DR_ok (KC0 N) (F := []) (J := []) (FGood.nil _) (M := []) (R := []) i39 (JGood.nil c39) (t39 N)) (KC0 N)
noncomputable def c38 : Code := Try.f38.body.getD .skip
theorem i38 : IsF Try.prog 38 Try.f38 c38 := ⟨Try.func38, by kernel_rfl, by kernel_rfl, by kernel_rfl⟩
noncomputable def b38_0 : Code := unLoop (blkOf 0 (blks c38))
theorem e38_0 : blkOf 0 (blks c38) = .loop b38_0 := by kernel_rfl
-- loop.example/g01139/laws.szInt64SS: loop 0
def d38_0 : LoopD := ⟨80, ⟨[(0, .c (.rd 25 [(0, 0)]))], [(0, 0, .ext)], 27⟩, ⟨[(1, .c (.int .i64)), (5, .c (.int .i64))], [], 88⟩, [], [0], [⟨.ret, ⟨[(4, .c (.int .i64))], [], 88⟩, [], [0]⟩, ⟨.norm, ⟨[(1, .c (.int .i64))], [], 88⟩, [], [0]⟩]⟩
def n38_0 (N : Nat) : List (List (Int)) × Unit → (Int × Int × Unit → Option ((Int × Unit) ⊕ (Int × Unit))) → Int × Int × Unit → Option ((Int × Unit) ⊕ (Int × Unit))
  | (a0, _), rec, (left1, i5, _) =>
    bif (decide (i5 < (a0.length : Int))) then bif (decide ((0 : Int) ≤ i5)) then bif (decide (i5 < (a0.length : Int))) then (F39 N ((gt a0 i5), (left1, ()))).bind fun r0 =>
       bif (decide (r0.1 < (0 : Int))) then some (.inl ((-(1 : Int)), ()))
        else rec (r0.1, ((IntKind.wrap .i64 (i5 + (1 : Int))), ()))
      else none
     else none
    else some (.inr (left1, ()))
theorem s38_0 (N : Nat) : ∀ σ p rec v, stepL (rn drawR (mkB (C39 N) [] [] [] []) 8 38 b38_0) 0 (wr b38_0) d38_0 (instP σ d38_0.pm p) rec v = n38_0 N p rec v := by
  rintro σ ⟨a0, _⟩ rec ⟨left1, i5, _⟩; kernel_rfl
noncomputable def g38_0 (N : Nat) : St (Sig.T SS) → Tr (Ex × St (Sig.T SS)) := orcL (wr b38_0) d38_0 fun p => itN (n38_0 N p) N
theorem o38_0 (N : Nat) : Snd QQ (g38_0 N) (.block 0 (blkOf 0 (blks c38))) := loopP LL DR_ok (KC39 N) (F := []) (J := []) (FGood.nil _) (M := []) (R := []) i38 (JGood.nil c38) e38_0 (s38_0 N) N
/-- loop.example/g01139/laws.szInt64SS -/
def F38 (N : Nat) : List (List (Int)) × Int × Unit → Option (Int × Unit)
  | (a0, left1, _) =>
    bif (decide ((IntKind.wrap .i64 (left1 - (a0.length : Int))) < (0 : Int))) then some ((-(1 : Int)), ())
    else (itN (n38_0 N (a0, ())) N ((IntKind.wrap .i64 (left1 - (a0.length : Int))), ((0 : Int), ()))).bind fun r1 =>
     bif r1.isLeft then r1.getLeft?.bind fun r2 =>
       some (r2.1, ())
      else r1.getRight?.bind fun r3 =>
       some (r3.1, ())
theorem t38 (N : Nat) : ∀ v, (fr drawR (mkB (C39 N) [] [(38, [(0, g38_0 N)])] [] []) 8 38 Try.f38 (instA [.c (.ls 25), .c (.int .i64)] v)).k (matR [.c (.int .i64)]) = F38 N v := by
  rintro ⟨a0, left1, _⟩; kernel_rfl
noncomputable def C38 (N : Nat) : CL SS := (38, conG [.c (.ls 25), .c (.int .i64)] [.c (.int .i64)] (F38 N)) :: C39 N
theorem KC38 (N : Nat) : COk QQ (C38 N) := COk.cons (conP LL DR_ok (KC39 N) (F := []) (J := [(38, [(0, g38_0 N)])]) (FGood.nil _) (M := []) (R := []) i38 (JGood.cons i38.hd (o38_0 N) (JGood.nil c38)) (t38 N)) (KC39 N)
noncomputable def c21 : Code := Try.f21.body.getD .skip
theorem i21 : IsF Try.prog 21 Try.f21 c21 := ⟨Try.func21, by kernel_rfl, by kernel_rfl, by kernel_rfl⟩
/-- loop.example/g01139/laws.szState -/
def F21 (N : Nat) : List (List (Int)) × List (List (Int)) × List (Int) × Int × Unit → Option (Int × Unit)
  | (a0c0, a0c1, a0c2, left1, _) =>
    (F38 N (a0c0, (left1, ()))).bind fun r4 =>
    bif (decide (r4.1 < (0 : Int))) then some ((-(1 : Int)), ())
     else (F38 N (a0c1, (r4.1, ()))).bind fun r5 =>
      bif (decide (r5.1 < (0 : Int))) then some ((-(1 : Int)), ())
       else (F39 N (a0c2, (r5.1, ()))).bind fun r6 =>
        bif (decide (r6.1 < (0 : Int))) then some ((-(1 : Int)), ())
         else some (r6.1, ())
theorem t21 (N : Nat) : ∀ v, (fr drawR (mkB (C38 N) [] [] [] []) 8 21 Try.f21 (instA [.agg [.ls 25, .ls 25, .ls 2], .c (.int .i64)] v)).k (matR [.c (.int .i64)]) = F21 N v := by
  rintro ⟨a0c0, a0c1, a0c2, left1, _⟩; kernel_rfl
noncomputable def C21 (N : Nat) : CL SS := (21, conG [.agg [.ls 25, .ls 25, .ls 2], .c (.int .i64)] [.c (.int .i64)] (F21 N)) :: C38 N
theorem KC21 (N : Nat) : COk QQ (C21 N) := COk.cons (conP LL DR_ok (KC38 N) (F := []) (J := []) (FGood.nil _) (M := []) (R := []) i21 (JGood.nil c21) (t21 N)) (KC38 N)
noncomputable def c10 : Code := Try.f10.body.getD .skip
theorem i10 : IsF Try.prog 10 Try.f10 c10 := ⟨Try.func10, by kernel_rfl, by kernel_rfl, by kernel_rfl⟩
/-- loop.example/g01139/laws.szConsole -/
def F10 (N : Nat) : Int × Int × List (List (Int)) × List (List (Int)) × List (Int) × Int × Unit → Option (Int × Unit)
  | (a0c0, a0c1, a0c2, a0c3, a0c4, left1, _) =>
    (F21 N (a0c2, (a0c3, (a0c4, (left1, ()))))).bind fun r7 =>
    bif (decide (r7.1 < (0 : Int))) then some ((-(1 : Int)), ())
     else some (r7.1, ())
theorem t10 (N : Nat) : ∀ v, (fr drawR (mkB (C21 N) [] [] [] []) 8 10 Try.f10 (instA [.agg [.int .i64, .int .i64, .ls 25, .ls 25, .ls 2], .c (.int .i64)] v)).k (matR [.c (.int .i64)]) = F10 N v := by
  rintro ⟨a0c0, a0c1, a0c2, a0c3, a0c4, left1, _⟩; kernel_rfl
noncomputable def C10 (N : Nat) : CL SS := (10, conG [.agg [.int .i64, .int .i64, .ls 25, .ls 25, .ls 2], .c (.int .i64)] [.c (.int .i64)] (F10 N)) :: C21 N
theorem KC10 (N : Nat) : COk QQ (C10 N) := COk.cons (conP LL DR_ok (KC21 N) (F := []) (J := []) (FGood.nil _) (M := []) (R := []) i10 (JGood.nil c10) (t10 N)) (KC21 N)
noncomputable def c23 : Code := Try.f23.body.getD .skip
theorem i23 : IsF Try.prog 23 Try.f23 c23 := ⟨Try.func23, by kernel_rfl, by kernel_rfl, by kernel_rfl⟩
/-- loop.example/g01139/laws.toMachine -/
def F23 (N : Nat) : Int × Int × Unit → Option (Int × Int × Unit)
  | (a0c0, a0c1, _) =>
    some (a0c0, (a0c1, ()))
theorem t23 (N : Nat) : ∀ v, (fr drawR (mkB (C10 N) [] [] [] []) 8 23 Try.f23 (instA [.agg [.int .i64, .int .i64]] v)).k (matR [.agg [.int .i64, .int .i64]]) = F23 N v := by
  rintro ⟨a0c0, a0c1, _⟩; kernel_rfl
noncomputable def C23 (N : Nat) : CL SS := (23, conG [.agg [.int .i64, .int .i64]] [.agg [.int .i64, .int .i64]] (F23 N)) :: C10 N
theorem KC23 (N : Nat) : COk QQ (C23 N) := COk.cons (conP LL DR_ok (KC10 N) (F := []) (J := []) (FGood.nil _) (M := []) (R := []) i23 (JGood.nil c23) (t23 N)) (KC10 N)
noncomputable def c42 : Code := Try.f42.body.getD .skip
theorem i42 : IsF Try.prog 42 Try.f42 c42 := ⟨Try.func42, by kernel_rfl, by kernel_rfl, by kernel_rfl⟩
noncomputable def b42_0 : Code := unLoop (blkOf 0 (blks c42))
theorem e42_0 : blkOf 0 (blks c42) = .loop b42_0 := by kernel_rfl
-- loop.example/g01139/laws.toInt64S: loop 0
def d42_0 : LoopD := ⟨56, ⟨[(0, .c (.rd 2 [(0, 0)])), (3, .c (.row 25))], [(0, 0, .ext)], 22⟩, ⟨[(4, .c (.int .i64))], [(25, .row 2 [])], 64⟩, [], [0, 25], [⟨.norm, ⟨[], [(25, .row 2 [])], 64⟩, [], [0, 25]⟩]⟩
def n42_0 (N : Nat) : List (Int) × Unit → (Int × List (Int) × Unit → Option ((List (Int) × Unit))) → Int × List (Int) × Unit → Option ((List (Int) × Unit))
  | (a0, _), rec, (i4, o25, _) =>
    bif (decide (i4 < (a0.length : Int))) then bif (decide ((0 : Int) ≤ i4)) then bif (decide (i4 < (a0.length : Int))) then bif (decide ((0 : Int) ≤ i4)) then bif (decide (i4 < (o25.length : Int))) then rec ((IntKind.wrap .i64 (i4 + (1 : Int))), ((o25.set i4.toNat (gt a0 i4)), ()))
        else none
       else none
      else none
     else none
    else some (o25, ())
theorem s42_0 (N : Nat) : ∀ σ p rec v, stepL (rn drawR (mkB (C23 N) [] [] [] []) 8 42 b42_0) 0 (wr b42_0) d42_0 (instP σ d42_0.pm p) rec v = n42_0 N p rec v := by
  rintro σ ⟨a0, _⟩ rec ⟨i4, o25, _⟩; kernel_rfl
noncomputable def g42_0 (N : Nat) : St (Sig.T SS) → Tr (Ex × St (Sig.T SS)) := orcL (wr b42_0) d42_0 fun p => itN (n42_0 N p) N
theorem o42_0 (N : Nat) : Snd QQ (g42_0 N) (.block 0 (blkOf 0 (blks c42))) := loopP LL DR_ok (KC23 N) (F := []) (J := []) (FGood.nil _) (M := []) (R := []) i42 (JGood.nil c42) e42_0 (s42_0 N) N
/-- loop.example/g01139/laws.toInt64S -/
def F42 (N : Nat) : List (Int) × Unit → Option (List (Int) × Unit)
  | (a0, _) =>
    bif (decide ((a0.length : Int) ≤ (a0.length : Int))) then bif (decide (((a0.length : Int) * (8 : Int)) ≤ (140737488351232 : Int))) then (itN (n42_0 N (a0, ())) N ((0 : Int), ((List.replicate (a0.length : Int).toNat (0 : Int)), ()))).bind fun r8 =>
      some (r8.1, ())
     else none
    else none
theorem t42 (N : Nat) : ∀ v, (fr drawR (mkB (C23 N) [] [(42, [(0, g42_0 N)])] [] []) 8 42 Try.f42 (instA [.c (.ls 2)] v)).k (matR [.c (.ls 2)]) = F42 N v := by
  rintro ⟨a0, _⟩; kernel_rfl
noncomputable def C42 (N : Nat) : CL SS := (42, conG [.c (.ls 2)] [.c (.ls 2)] (F42 N)) :: C23 N
theorem KC42 (N : Nat) : COk QQ (C42 N) := COk.cons (conP LL DR_ok (KC23 N) (F := []) (J := [(42, [(0, g42_0 N)])]) (FGood.nil _) (M := []) (R := []) i42 (JGood.cons i42.hd (o42_0 N) (JGood.nil c42)) (t42 N)) (KC23 N)
noncomputable def c41 : Code := Try.f41.body.getD .skip
theorem i41 : IsF Try.prog 41 Try.f41 c41 := ⟨Try.func41, by kernel_rfl, by kernel_rfl, by kernel_rfl⟩
noncomputable def b41_0 : Code := unLoop (blkOf 0 (blks c41))
theorem e41_0 : blkOf 0 (blks c41) = .loop b41_0 := by kernel_rfl
-- loop.example/g01139/laws.toInt64SS: loop 0
def d41_0 : LoopD := ⟨56, ⟨[(0, .c (.rd 25 [(0, 0)])), (3, .c (.row 25))], [(0, 0, .ext)], 23⟩, ⟨[(4, .c (.int .i64))], [(25, .row 25 [])], 64⟩, [], [0, 25], [⟨.norm, ⟨[], [(25, .row 25 [])], 64⟩, [], [0, 25]⟩]⟩
def n41_0 (N : Nat) : List (List (Int)) × Unit → (Int × List (List (Int)) × Unit → Option ((List (List (Int)) × Unit))) → Int × List (List (Int)) × Unit → Option ((List (List (Int)) × Unit))
  | (a0, _), rec, (i4, o25, _) =>
    bif (decide (i4 < (a0.length : Int))) then bif (decide ((0 : Int) ≤ i4)) then bif (decide (i4 < (a0.length : Int))) then (F42 N ((gt a0 i4), ())).bind fun r10 =>
       bif (decide ((0 : Int) ≤ i4)) then bif (decide (i4 < (o25.length : Int))) then rec ((IntKind.wrap .i64 (i4 + (1 : Int))), ((o25.set i4.toNat r10.1), ()))
         else none
        else none
      else none
     else none
    else some (o25, ())
theorem s41_0 (N : Nat) : ∀ σ p rec v, stepL (rn drawR (mkB (C42 N) [] [] [] []) 8 41 b41_0) 0 (wr b41_0) d41_0 (instP σ d41_0.pm p) rec v = n41_0 N p rec v := by
  rintro σ ⟨a0, _⟩ rec ⟨i4, o25, _⟩; kernel_rfl
noncomputable def g41_0 (N : Nat) : St (Sig.T SS) → Tr (Ex × St (Sig.T SS)) := orcL (wr b41_0) d41_0 fun p => itN (n41_0 N p) N
theorem o41_0 (N : Nat) : Snd QQ (g41_0 N) (.block 0 (blkOf 0 (blks c41))) := loopP LL DR_ok (KC42 N) (F := []) (J := []) (FGood.nil _) (M := []) (R := []) i41 (JGood.nil c41) e41_0 (s41_0 N) N
/-- loop.example/g01139/laws.toInt64SS -/
def F41 (N : Nat) : List (List (Int)) × Unit → Option (List (List (Int)) × Unit)
  | (a0, _) =>
    bif (decide ((a0.length : Int) ≤ (a0.length : Int))) then bif (decide (((a0.length : Int) * (24 : Int)) ≤ (140737488351232 : Int))) then (itN (n41_0 N (a0, ())) N ((0 : Int), ((List.replicate (a0.length : Int).toNat []), ()))).bind fun r11 =>
      some (r11.1, ())
     else none
    else none
theorem t41 (N : Nat) : ∀ v, (fr drawR (mkB (C42 N) [] [(41, [(0, g41_0 N)])] [] []) 8 41 Try.f41 (instA [.c (.ls 25)] v)).k (matR [.c (.ls 25)]) = F41 N v := by
  rintro ⟨a0, _⟩; kernel_rfl
noncomputable def C41 (N : Nat) : CL SS := (41, conG [.c (.ls 25)] [.c (.ls 25)] (F41 N)) :: C42 N
theorem KC41 (N : Nat) : COk QQ (C41 N) := COk.cons (conP LL DR_ok (KC42 N) (F := []) (J := [(41, [(0, g41_0 N)])]) (FGood.nil _) (M := []) (R := []) i41 (JGood.cons i41.hd (o41_0 N) (JGood.nil c41)) (t41 N)) (KC42 N)
noncomputable def c24 : Code := Try.f24.body.getD .skip
theorem i24 : IsF Try.prog 24 Try.f24 c24 := ⟨Try.func24, by kernel_rfl, by kernel_rfl, by kernel_rfl⟩
/-- loop.example/g01139/laws.toState -/
def F24 (N : Nat) : List (List (Int)) × List (List (Int)) × List (Int) × Unit → Option (List (List (Int)) × List (List (Int)) × List (Int) × Unit)
  | (a0c0, a0c1, a0c2, _) =>
    (F41 N (a0c0, ())).bind fun r12 =>
    (F41 N (a0c1, ())).bind fun r13 =>
     (F42 N (a0c2, ())).bind fun r14 =>
      some (r12.1, (r13.1, (r14.1, ())))
theorem t24 (N : Nat) : ∀ v, (fr drawR (mkB (C41 N) [] [] [] []) 8 24 Try.f24 (instA [.agg [.ls 25, .ls 25, .ls 2]] v)).k (matR [.agg [.ls 25, .ls 25, .ls 2]]) = F24 N v := by
  rintro ⟨a0c0, a0c1, a0c2, _⟩; kernel_rfl
noncomputable def C24 (N : Nat) : CL SS := (24, conG [.agg [.ls 25, .ls 25, .ls 2]] [.agg [.ls 25, .ls 25, .ls 2]] (F24 N)) :: C41 N
theorem KC24 (N : Nat) : COk QQ (C24 N) := COk.cons (conP LL DR_ok (KC41 N) (F := []) (J := []) (FGood.nil _) (M := []) (R := []) i24 (JGood.nil c24) (t24 N)) (KC41 N)
noncomputable def c12 : Code := Try.f12.body.getD .skip
theorem i12 : IsF Try.prog 12 Try.f12 c12 := ⟨Try.func12, by kernel_rfl, by kernel_rfl, by kernel_rfl⟩
/-- loop.example/g01139/laws.toConsole -/
def F12 (N : Nat) : Int × Int × List (List (Int)) × List (List (Int)) × List (Int) × Unit → Option (Int × Int × List (List (Int)) × List (List (Int)) × List (Int) × Unit)
  | (a0c0, a0c1, a0c2, a0c3, a0c4, _) =>
    (F23 N (a0c0, (a0c1, ()))).bind fun r15 =>
    (F24 N (a0c2, (a0c3, (a0c4, ())))).bind fun r16 =>
     some (r15.1, (r15.2.1, (r16.1, (r16.2.1, (r16.2.2.1, ())))))
theorem t12 (N : Nat) : ∀ v, (fr drawR (mkB (C24 N) [] [] [] []) 8 12 Try.f12 (instA [.agg [.int .i64, .int .i64, .ls 25, .ls 25, .ls 2]] v)).k (matR [.agg [.int .i64, .int .i64, .ls 25, .ls 25, .ls 2]]) = F12 N v := by
  rintro ⟨a0c0, a0c1, a0c2, a0c3, a0c4, _⟩; kernel_rfl
noncomputable def C12 (N : Nat) : CL SS := (12, conG [.agg [.int .i64, .int .i64, .ls 25, .ls 25, .ls 2]] [.agg [.int .i64, .int .i64, .ls 25, .ls 25, .ls 2]] (F12 N)) :: C24 N
theorem KC12 (N : Nat) : COk QQ (C12 N) := COk.cons (conP LL DR_ok (KC24 N) (F := []) (J := []) (FGood.nil _) (M := []) (R := []) i12 (JGood.nil c12) (t12 N)) (KC24 N)
noncomputable def c26 : Code := Try.f26.body.getD .skip
theorem i26 : IsF Try.prog 26 Try.f26 c26 := ⟨Try.func26, by kernel_rfl, by kernel_rfl, by kernel_rfl⟩
/-- loop.example/g01139/spec.l01Bits -/
def F26 (N : Nat) : Int × Unit → Option (Bool × Unit)
  | (bits0, _) =>
    bif (decide (bits0 = (4 : Int))) then some (true, ())
    else bif (decide (bits0 = (8 : Int))) then some (true, ())
     else some ((decide (bits0 = (16 : Int))), ())
theorem t26 (N : Nat) : ∀ v, (fr drawR (mkB (C12 N) [] [] [] []) 8 26 Try.f26 (instA [.c (.int .i64)] v)).k (matR [.c (.bool)]) = F26 N v := by
  rintro ⟨bits0, _⟩; kernel_rfl
noncomputable def C26 (N : Nat) : CL SS := (26, conG [.c (.int .i64)] [.c (.bool)] (F26 N)) :: C12 N
theorem KC26 (N : Nat) : COk QQ (C26 N) := COk.cons (conP LL DR_ok (KC12 N) (F := []) (J := []) (FGood.nil _) (M := []) (R := []) i26 (JGood.nil c26) (t26 N)) (KC12 N)
noncomputable def c56 : Code := Try.f56.body.getD .skip
theorem i56 : IsF Try.prog 56 Try.f56 c56 := ⟨Try.func56, by kernel_rfl, by kernel_rfl, by kernel_rfl⟩
/-- loop.example/g01139/spec.l00In -/
def F56 (N : Nat) : Int × Int × Int × Unit → Option (Bool × Unit)
  | (n0, low1, high2, _) =>
    bif (decide (n0 ≥ low1)) then some ((decide (n0 ≤ high2)), ())
    else some (false, ())
theorem t56 (N : Nat) : ∀ v, (fr drawR (mkB (C26 N) [] [] [] []) 8 56 Try.f56 (instA [.c (.int .i64), .c (.int .i64), .c (.int .i64)] v)).k (matR [.c (.bool)]) = F56 N v := by
  rintro ⟨n0, low1, high2, _⟩; kernel_rfl
noncomputable def C56 (N : Nat) : CL SS := (56, conG [.c (.int .i64), .c (.int .i64), .c (.int .i64)] [.c (.bool)] (F56 N)) :: C26 N
theorem KC56 (N : Nat) : COk QQ (C56 N) := COk.cons (conP LL DR_ok (KC26 N) (F := []) (J := []) (FGood.nil _) (M := []) (R := []) i56 (JGood.nil c56) (t56 N)) (KC26 N)
noncomputable def c64 : Code := Try.f64.body.getD .skip
theorem i64 : IsF Try.prog 64 Try.f64 c64 := ⟨Try.func64, by kernel_rfl, by kernel_rfl, by kernel_rfl⟩
/-- loop.example/g01139/spec.l01Word -/
def F64 (N : Nat) : Int × Int × Unit → Option (Bool × Unit)
  | (bits0, x1, _) =>
    (F26 N (bits0, ())).bind fun r17 =>
    bif r17.1 then bif (decide ((0 : Int) ≤ (IntKind.wrap .u64 bits0))) then (F56 N (x1, ((0 : Int), ((IntKind.wrap .i64 ((shlI .i64 (1 : Int) (IntKind.wrap .u64 bits0)) - (1 : Int))), ())))).bind fun r18 =>
       some (r18.1, ())
      else none
     else some (false, ())
theorem t64 (N : Nat) : ∀ v, (fr drawR (mkB (C56 N) [] [] [] []) 8 64 Try.f64 (instA [.c (.int .i64), .c (.int .i64)] v)).k (matR [.c (.bool)]) = F64 N v := by
  rintro ⟨bits0, x1, _⟩; kernel_rfl
noncomputable def C64 (N : Nat) : CL SS := (64, conG [.c (.int .i64), .c (.int .i64)] [.c (.bool)] (F64 N)) :: C56 N
theorem KC64 (N : Nat) : COk QQ (C64 N) := COk.cons (conP LL DR_ok (KC56 N) (F := []) (J := []) (FGood.nil _) (M := []) (R := []) i64 (JGood.nil c64) (t64 N)) (KC56 N)
noncomputable def c55 : Code := Try.f55.body.getD .skip
theorem i55 : IsF Try.prog 55 Try.f55 c55 := ⟨Try.func55, by kernel_rfl, by kernel_rfl, by kernel_rfl⟩
noncomputable def b55_0 : Code := unLoop (blkOf 0 (blks c55))
theorem e55_0 : blkOf 0 (blks c55) = .loop b55_0 := by kernel_rfl
-- loop.example/g01139/spec.l01Words: loop 0
def d55_0 : LoopD := ⟨24, ⟨[(0, .c (.int .i64)), (1, .c (.rd 2 [(0, 0)]))], [(0, 0, .ext)], 21⟩, ⟨[(5, .c (.int .i64))], [], 32⟩, [], [0], [⟨.ret, ⟨[(4, .c (.bool))], [], 32⟩, [], [0]⟩, ⟨.norm, ⟨[], [], 32⟩, [], [0]⟩]⟩
def n55_0 (N : Nat) : Int × List (Int) × Unit → (Int × Unit → Option ((Bool × Unit) ⊕ (Unit))) → Int × Unit → Option ((Bool × Unit) ⊕ (Unit))
  | (bits0, list1, _), rec, (i5, _) =>
    bif (decide (i5 < (list1.length : Int))) then bif (decide ((0 : Int) ≤ i5)) then bif (decide (i5 < (list1.length : Int))) then (F64 N (bits0, ((gt list1 i5), ()))).bind fun r19 =>
       bif (!r19.1) then some (.inl (false, ()))
        else rec ((IntKind.wrap .i64 (i5 + (1 : Int))), ())
      else none
     else none
    else some (.inr ())
theorem s55_0 (N : Nat) : ∀ σ p rec v, stepL (rn drawR (mkB (C64 N) [] [] [] []) 8 55 b55_0) 0 (wr b55_0) d55_0 (instP σ d55_0.pm p) rec v = n55_0 N p rec v := by
  rintro σ ⟨bits0, list1, _⟩ rec ⟨i5, _⟩; kernel_rfl
noncomputable def g55_0 (N : Nat) : St (Sig.T SS) → Tr (Ex × St (Sig.T SS)) := orcL (wr b55_0) d55_0 fun p => itN (n55_0 N p) N
theorem o55_0 (N : Nat) : Snd QQ (g55_0 N) (.block 0 (blkOf 0 (blks c55))) := loopP LL DR_ok (KC64 N) (F := []) (J := []) (FGood.nil _) (M := []) (R := []) i55 (JGood.nil c55) e55_0 (s55_0 N) N
/-- loop.example/g01139/spec.l01Words -/
def F55 (N : Nat) : Int × List (Int) × Unit → Option (Bool × Unit)
  | (bits0, list1, _) =>
    (itN (n55_0 N (bits0, (list1, ()))) N ((0 : Int), ())).bind fun r20 =>
    bif r20.isLeft then r20.getLeft?.bind fun r21 =>
      some (r21.1, ())
     else r20.getRight?.bind fun r22 =>
      (F26 N (bits0, ())).bind fun r23 =>
       some (r23.1, ())
theorem t55 (N : Nat) : ∀ v, (fr drawR (mkB (C64 N) [] [(55, [(0, g55_0 N)])] [] []) 8 55 Try.f55 (instA [.c (.int .i64), .c (.ls 2)] v)).k (matR [.c (.bool)]) = F55 N v := by
  rintro ⟨bits0, list1, _⟩; kernel_rfl
noncomputable def C55 (N : Nat) : CL SS := (55, conG [.c (.int .i64), .c (.ls 2)] [.c (.bool)] (F55 N)) :: C64 N
theorem KC55 (N : Nat) : COk QQ (C55 N) := COk.cons (conP LL DR_ok (KC64 N) (F := []) (J := [(55, [(0, g55_0 N)])]) (FGood.nil _) (M := []) (R := []) i55 (JGood.cons i55.hd (o55_0 N) (JGood.nil c55)) (t55 N)) (KC64 N)
noncomputable def c11 : Code := Try.f11.body.getD .skip
theorem i11 : IsF Try.prog 11 Try.f11 c11 := ⟨Try.func11, by kernel_rfl, by kernel_rfl, by kernel_rfl⟩
noncomputable def c22 : Code := Try.f22.body.getD .skip
theorem i22 : IsF Try.prog 22 Try.f22 c22 := ⟨Try.func22, by kernel_rfl, by kernel_rfl, by kernel_rfl⟩
noncomputable def c14 : Code := Try.f14.body.getD .skip
theorem i14 : IsF Try.prog 14 Try.f14 c14 := ⟨Try.func14, by kernel_rfl, by kernel_rfl, by kernel_rfl⟩
noncomputable def c40 : Code := Try.f40.body.getD .skip
theorem i40 : IsF Try.prog 40 Try.f40 c40 := ⟨Try.func40, by kernel_rfl, by kernel_rfl, by kernel_rfl⟩
noncomputable def b40_0 : Code := unLoop (blkOf 0 (blks c40))
theorem e40_0 : blkOf 0 (blks c40) = .loop b40_0 := by kernel_rfl
-- loop.example/g01139/spec.l05State: loop 0
def d11_0 : LoopD := ⟨784, ⟨[(0, .c (.ptr 1 0)), (1, .c (.ptr 1 2))], [(1, 1, .var 29 [.int .i64, .int .i64, .rd 25 [(0, 0)], .rd 25 [(0, 0)], .rd 2 [(0, 0)]]), (0, 0, .ext)], 125⟩, ⟨[(5, .c (.int .i64))], [], 792⟩, [], [1, 0], [⟨.ret, ⟨[(4, .c (.bool))], [], 792⟩, [], [1, 0]⟩, ⟨.norm, ⟨[], [], 792⟩, [], [1, 0]⟩]⟩
def n11_0 (N : Nat) : Int × Int × List (List (Int)) × List (List (Int)) × List (Int) × Unit → (Int × Unit → Option ((Bool × Unit) ⊕ (Unit))) → Int × Unit → Option ((Bool × Unit) ⊕ (Unit))
  | (p1, p1c1, p1c2, p1c3, p1c4, _), rec, (i5, _) =>
    bif (decide (i5 < (p1c2.length : Int))) then bif (decide ((0 : Int) ≤ i5)) then bif (decide (i5 < (p1c2.length : Int))) then bif (!(decide (((gt p1c2 i5).length : Int) = p1))) then some (.inl (false, ()))
       else bif (decide ((0 : Int) ≤ i5)) then bif (decide (i5 < (p1c2.length : Int))) then (F55 N (p1c1, ((gt p1c2 i5), ()))).bind fun r32 =>
          bif (!r32.1) then some (.inl (false, ()))
           else rec ((IntKind.wrap .i64 (i5 + (1 : Int))), ())
         else none
        else none
      else none
     else none
    else some (.inr ())
theorem s11_0 (N : Nat) : ∀ σ p rec v, stepL (rn drawR (mkB (C55 N) [(22, Try.f22), (14, Try.f14), (40, Try.f40)] [] [] []) 8 40 b40_0) 0 (wr b40_0) d11_0 (instP σ d11_0.pm p) rec v = n11_0 N p rec v := by
  rintro σ ⟨p1, p1c1, p1c2, p1c3, p1c4, _⟩ rec ⟨i5, _⟩; kernel_rfl
noncomputable def g11_0 (N : Nat) : St (Sig.T SS) → Tr (Ex × St (Sig.T SS)) := orcL (wr b40_0) d11_0 fun p => itN (n11_0 N p) N
theorem o11_0 (N : Nat) : Snd QQ (g11_0 N) (.block 0 (blkOf 0 (blks c40))) := loopP LL DR_ok (KC55 N) (F := [(22, Try.f22), (14, Try.f14), (40, Try.f40)]) (J := []) (FGood.cons i22 (JGood.nil c22) (FGood.cons i14 (JGood.nil c14) (FGood.cons i40 (JGood.nil c40) (FGood.nil _)))) (M := []) (R := []) i40 (JGood.nil c40) e40_0 (s11_0 N) N
noncomputable def b40_2 : Code := unLoop (blkOf 2 (blks c40))
theorem e40_2 : blkOf 2 (blks c40) = .loop b40_2 := by kernel_rfl
noncomputable def b40_4 : Code := unLoop (blkOf 4 (blks c40))
theorem e40_4 : blkOf 4 (blks c40) = .loop b40_4 := by kernel_rfl
-- loop.example/g01139/spec.l05State: loop 4
def d11_2 : LoopD := ⟨992, ⟨[(1, .c (.ptr 1 2)), (6, .c (.int .i64))], [(1, 1, .var 29 [.int .i64, .int .i64, .rd 25 [(0, 0)], .rd 25 [(0, 0)], .rd 2 [(0, 0)]]), (0, 0, .ext)], 125⟩, ⟨[(7, .c (.int .i64))], [], 1000⟩, [], [1, 0], [⟨.ret, ⟨[(4, .c (.bool))], [], 1000⟩, [], [1, 0]⟩, ⟨.norm, ⟨[], [], 1000⟩, [], [1, 0]⟩]⟩
def n11_2 (N : Nat) : Int × Int × Int × List (List (Int)) × List (List (Int)) × List (Int) × Unit → (Int × Unit → Option ((Bool × Unit) ⊕ (Unit))) → Int × Unit → Option ((Bool × Unit) ⊕ (Unit))
  | (i6, p1, p1c1, p1c2, p1c3, p1c4, _), rec, (k7, _) =>
    bif (decide ((0 : Int) ≤ i6)) then bif (decide (i6 < (p1c3.length : Int))) then bif (decide (k7 < ((gt p1c3 i6).length : Int))) then bif (decide ((0 : Int) ≤ i6)) then bif (decide (i6 < (p1c3.length : Int))) then bif (decide ((0 : Int) ≤ k7)) then bif (decide (k7 < ((gt p1c3 i6).length : Int))) then (F56 N ((gt (gt p1c3 i6) k7), ((0 : Int), ((1 : Int), ())))).bind fun r44 =>
           bif (!r44.1) then some (.inl (false, ()))
            else rec ((IntKind.wrap .i64 (k7 + (1 : Int))), ())
          else none
         else none
        else none
       else none
      else some (.inr ())
     else none
    else none
theorem s11_2 (N : Nat) : ∀ σ p rec v, stepL (rn drawR (mkB (C55 N) [(22, Try.f22), (14, Try.f14), (40, Try.f40)] [(40, [(0, g11_0 N)])] [] []) 8 40 b40_4) 4 (wr b40_4) d11_2 (instP σ d11_2.pm p) rec v = n11_2 N p rec v := by
  rintro σ ⟨i6, p1, p1c1, p1c2, p1c3, p1c4, _⟩ rec ⟨k7, _⟩; kernel_rfl
noncomputable def g11_2 (N : Nat) : St (Sig.T SS) → Tr (Ex × St (Sig.T SS)) := orcL (wr b40_4) d11_2 fun p => itN (n11_2 N p) N
theorem o11_2 (N : Nat) : Snd QQ (g11_2 N) (.block 4 (blkOf 4 (blks c40))) := loopP LL DR_ok (KC55 N) (F := [(22, Try.f22), (14, Try.f14), (40, Try.f40)]) (J := [(40, [(0, g11_0 N)])]) (FGood.cons i22 (JGood.nil c22) (FGood.cons i14 (JGood.nil c14) (FGood.cons i40 (JGood.cons i40.hd (o11_0 N) (JGood.nil c40)) (FGood.nil _)))) (M := []) (R := []) i40 (JGood.cons i40.hd (o11_0 N) (JGood.nil c40)) e40_4 (s11_2 N) N
-- loop.example/g01139/spec.l05State: loop 2
def d11_1 : LoopD := ⟨808, ⟨[(0, .c (.ptr 1 0)), (1, .c (.ptr 1 2))], [(1, 1, .var 29 [.int .i64, .int .i64, .rd 25 [(0, 0)], .rd 25 [(0, 0)], .rd 2 [(0, 0)]]), (0, 0, .ext)], 125⟩, ⟨[(6, .c (.int .i64))], [], 816⟩, [], [1, 0], [⟨.ret, ⟨[(4, .c (.bool))], [], 816⟩, [], [1, 0]⟩, ⟨.norm, ⟨[], [], 816⟩, [], [1, 0]⟩]⟩
def n11_1 (N : Nat) : Int × Int × List (List (Int)) × List (List (Int)) × List (Int) × Unit → (Int × Unit → Option ((Bool × Unit) ⊕ (Unit))) → Int × Unit → Option ((Bool × Unit) ⊕ (Unit))
  | (p1, p1c1, p1c2, p1c3, p1c4, _), rec, (i6, _) =>
    bif (decide (i6 < (p1c3.length : Int))) then bif (decide ((0 : Int) ≤ i6)) then bif (decide (i6 < (p1c3.length : Int))) then bif (!(decide (((gt p1c3 i6).length : Int) = p1))) then some (.inl (false, ()))
       else (itN (n11_2 N (i6, (p1, (p1c1, (p1c2, (p1c3, (p1c4, ()))))))) N ((0 : Int), ())).bind fun r45 =>
        bif r45.isLeft then r45.getLeft?.bind fun r46 =>
          some (.inl (r46.1, ()))
         else r45.getRight?.bind fun r47 =>
          rec ((IntKind.wrap .i64 (i6 + (1 : Int))), ())
      else none
     else none
    else some (.inr ())
theorem s11_1 (N : Nat) : ∀ σ p rec v, stepL (rn drawR (mkB (C55 N) [(22, Try.f22), (14, Try.f14), (40, Try.f40)] [(40, [(0, g11_0 N), (4, g11_2 N)])] [] []) 8 40 b40_2) 2 (wr b40_2) d11_1 (instP σ d11_1.pm p) rec v = n11_1 N p rec v := by
  rintro σ ⟨p1, p1c1, p1c2, p1c3, p1c4, _⟩ rec ⟨i6, _⟩; kernel_rfl
noncomputable def g11_1 (N : Nat) : St (Sig.T SS) → Tr (Ex × St (Sig.T SS)) := orcL (wr b40_2) d11_1 fun p => itN (n11_1 N p) N
theorem o11_1 (N : Nat) : Snd QQ (g11_1 N) (.block 2 (blkOf 2 (blks c40))) := loopP LL DR_ok (KC55 N) (F := [(22, Try.f22), (14, Try.f14), (40, Try.f40)]) (J := [(40, [(0, g11_0 N), (4, g11_2 N)])]) (FGood.cons i22 (JGood.nil c22) (FGood.cons i14 (JGood.nil c14) (FGood.cons i40 (JGood.cons i40.hd (o11_0 N) (JGood.cons i40.hd (o11_2 N) (JGood.nil c40))) (FGood.nil _)))) (M := []) (R := []) i40 (JGood.cons i40.hd (o11_0 N) (JGood.cons i40.hd (o11_2 N) (JGood.nil c40))) e40_2 (s11_1 N) N
-- loop.example/g01139/spec.l05State: loop 0
def d11_3 : LoopD := ⟨824, ⟨[(0, .c (.ptr 1 0)), (1, .c (.ptr 1 2))], [(1, 1, .var 29 [.int .i64, .int .i64, .rd 25 [(0, 0)], .rd 25 [(0, 0)], .rd 2 [(0, 0)]]), (0, 0, .ext)], 125⟩, ⟨[(5, .c (.int .i64))], [], 832⟩, [], [1, 0], [⟨.ret, ⟨[(4, .c (.bool))], [], 832⟩, [], [1, 0]⟩, ⟨.norm, ⟨[], [], 832⟩, [], [1, 0]⟩]⟩
def n11_3 (N : Nat) : Int × Int × List (List (Int)) × List (List (Int)) × List (Int) × Unit → (Int × Unit → Option ((Bool × Unit) ⊕ (Unit))) → Int × Unit → Option ((Bool × Unit) ⊕ (Unit))
  | (p1, p1c1, p1c2, p1c3, p1c4, _), rec, (i5, _) =>
    bif (decide (i5 < (p1c2.length : Int))) then bif (decide ((0 : Int) ≤ i5)) then bif (decide (i5 < (p1c2.length : Int))) then bif (!(decide (((gt p1c2 i5).length : Int) = p1))) then some (.inl (false, ()))
       else bif (decide ((0 : Int) ≤ i5)) then bif (decide (i5 < (p1c2.length : Int))) then (F55 N (p1c1, ((gt p1c2 i5), ()))).bind fun r62 =>
          bif (!r62.1) then some (.inl (false, ()))
           else rec ((IntKind.wrap .i64 (i5 + (1 : Int))), ())
         else none
        else none
      else none
     else none
    else some (.inr ())
theorem s11_3 (N : Nat) : ∀ σ p rec v, stepL (rn drawR (mkB (C55 N) [(22, Try.f22), (14, Try.f14), (40, Try.f40)] [(40, [(0, g11_0 N), (4, g11_2 N), (2, g11_1 N)])] [] []) 8 40 b40_0) 0 (wr b40_0) d11_3 (instP σ d11_3.pm p) rec v = n11_3 N p rec v := by
  rintro σ ⟨p1, p1c1, p1c2, p1c3, p1c4, _⟩ rec ⟨i5, _⟩; kernel_rfl
noncomputable def g11_3 (N : Nat) : St (Sig.T SS) → Tr (Ex × St (Sig.T SS)) := orcL (wr b40_0) d11_3 fun p => itN (n11_3 N p) N
theorem o11_3 (N : Nat) : Snd QQ (g11_3 N) (.block 0 (blkOf 0 (blks c40))) := loopP LL DR_ok (KC55 N) (F := [(22, Try.f22), (14, Try.f14), (40, Try.f40)]) (J := [(40, [(0, g11_0 N), (4, g11_2 N), (2, g11_1 N)])]) (FGood.cons i22 (JGood.nil c22) (FGood.cons i14 (JGood.nil c14) (FGood.cons i40 (JGood.cons i40.hd (o11_0 N) (JGood.cons i40.hd (o11_2 N) (JGood.cons i40.hd (o11_1 N) (JGood.nil c40)))) (FGood.nil _)))) (M := []) (R := []) i40 (JGood.cons i40.hd (o11_0 N) (JGood.cons i40.hd (o11_2 N) (JGood.cons i40.hd (o11_1 N) (JGood.nil c40)))) e40_0 (s11_3 N) N
-- loop.example/g01139/spec.l05State: loop 4
def d11_5 : LoopD := ⟨1032, ⟨[(1, .c (.ptr 1 2)), (6, .c (.int .i64))], [(1, 1, .var 29 [.int .i64, .int .i64, .rd 25 [(0, 0)], .rd 25 [(0, 0)], .rd 2 [(0, 0)]]), (0, 0, .ext)], 125⟩, ⟨[(7, .c (.int .i64))], [], 1040⟩, [], [1, 0], [⟨.ret, ⟨[(4, .c (.bool))], [], 1040⟩, [], [1, 0]⟩, ⟨.norm, ⟨[], [], 1040⟩, [], [1, 0]⟩]⟩
def n11_5 (N : Nat) : Int × Int × Int × List (List (Int)) × List (List (Int)) × List (Int) × Unit → (Int × Unit → Option ((Bool × Unit) ⊕ (Unit))) → Int × Unit → Option ((Bool × Unit) ⊕ (Unit))
  | (i6, p1, p1c1, p1c2, p1c3, p1c4, _), rec, (k7, _) =>
    bif (decide ((0 : Int) ≤ i6)) then bif (decide (i6 < (p1c3.length : Int))) then bif (decide (k7 < ((gt p1c3 i6).length : Int))) then bif (decide ((0 : Int) ≤ i6)) then bif (decide (i6 < (p1c3.length : Int))) then bif (decide ((0 : Int) ≤ k7)) then bif (decide (k7 < ((gt p1c3 i6).length : Int))) then (F56 N ((gt (gt p1c3 i6) k7), ((0 : Int), ((1 : Int), ())))).bind fun r80 =>
           bif (!r80.1) then some (.inl (false, ()))
            else rec ((IntKind.wrap .i64 (k7 + (1 : Int))), ())
          else none
         else none
        else none
       else none
      else some (.inr ())
     else none
    else none
theorem s11_5 (N : Nat) : ∀ σ p rec v, stepL (rn drawR (mkB (C55 N) [(22, Try.f22), (14, Try.f14), (40, Try.f40)] [(40, [(0, altO d11_0 (g11_0 N) (g11_3 N)), (4, g11_2 N), (2, g11_1 N)])] [] []) 8 40 b40_4) 4 (wr b40_4) d11_5 (instP σ d11_5.pm p) rec v = n11_5 N p rec v := by
  rintro σ ⟨i6, p1, p1c1, p1c2, p1c3, p1c4, _⟩ rec ⟨k7, _⟩; kernel_rfl
noncomputable def g11_5 (N : Nat) : St (Sig.T SS) → Tr (Ex × St (Sig.T SS)) := orcL (wr b40_4) d11_5 fun p => itN (n11_5 N p) N
theorem o11_5 (N : Nat) : Snd QQ (g11_5 N) (.block 4 (blkOf 4 (blks c40))) := loopP LL DR_ok (KC55 N) (F := [(22, Try.f22), (14, Try.f14), (40, Try.f40)]) (J := [(40, [(0, altO d11_0 (g11_0 N) (g11_3 N)), (4, g11_2 N), (2, g11_1 N)])]) (FGood.cons i22 (JGood.nil c22) (FGood.cons i14 (JGood.nil c14) (FGood.cons i40 (JGood.cons i40.hd (alt_ok (o11_0 N) (o11_3 N)) (JGood.cons i40.hd (o11_2 N) (JGood.cons i40.hd (o11_1 N) (JGood.nil c40)))) (FGood.nil _)))) (M := []) (R := []) i40 (JGood.cons i40.hd (alt_ok (o11_0 N) (o11_3 N)) (JGood.cons i40.hd (o11_2 N) (JGood.cons i40.hd (o11_1 N) (JGood.nil c40)))) e40_4 (s11_5 N) N
-- loop.example/g01139/spec.l05State: loop 2
def d11_4 : LoopD := ⟨848, ⟨[(0, .c (.ptr 1 0)), (1, .c (.ptr 1 2))], [(1, 1, .var 29 [.int .i64, .int .i64, .rd 25 [(0, 0)], .rd 25 [(0, 0)], .rd 2 [(0, 0)]]), (0, 0, .ext)], 125⟩, ⟨[(6, .c (.int .i64))], [], 856⟩, [], [1, 0], [⟨.ret, ⟨[(4, .c (.bool))], [], 856⟩, [], [1, 0]⟩, ⟨.norm, ⟨[], [], 856⟩, [], [1, 0]⟩]⟩
def n11_4 (N : Nat) : Int × Int × List (List (Int)) × List (List (Int)) × List (Int) × Unit → (Int × Unit → Option ((Bool × Unit) ⊕ (Unit))) → Int × Unit → Option ((Bool × Unit) ⊕ (Unit))
  | (p1, p1c1, p1c2, p1c3, p1c4, _), rec, (i6, _) =>
    bif (decide (i6 < (p1c3.length : Int))) then bif (decide ((0 : Int) ≤ i6)) then bif (decide (i6 < (p1c3.length : Int))) then bif (!(decide (((gt p1c3 i6).length : Int) = p1))) then some (.inl (false, ()))
       else (itN (n11_5 N (i6, (p1, (p1c1, (p1c2, (p1c3, (p1c4, ()))))))) N ((0 : Int), ())).bind fun r81 =>
        bif r81.isLeft then r81.getLeft?.bind fun r82 =>
          some (.inl (r82.1, ()))
         else r81.getRight?.bind fun r83 =>
          rec ((IntKind.wrap .i64 (i6 + (1 : Int))), ())
      else none
     else none
    else some (.inr ())
theorem s11_4 (N : Nat) : ∀ σ p rec v, stepL (rn drawR (mkB (C55 N) [(22, Try.f22), (14, Try.f14), (40, Try.f40)] [(40, [(0, altO d11_0 (g11_0 N) (g11_3 N)), (4, altO d11_2 (g11_2 N) (g11_5 N)), (2, g11_1 N)])] [] []) 8 40 b40_2) 2 (wr b40_2) d11_4 (instP σ d11_4.pm p) rec v = n11_4 N p rec v := by
  rintro σ ⟨p1, p1c1, p1c2, p1c3, p1c4, _⟩ rec ⟨i6, _⟩; kernel_rfl
noncomputable def g11_4 (N : Nat) : St (Sig.T SS) → Tr (Ex × St (Sig.T SS)) := orcL (wr b40_2) d11_4 fun p => itN (n11_4 N p) N
theorem o11_4 (N : Nat) : Snd QQ (g11_4 N) (.block 2 (blkOf 2 (blks c40))) := loopP LL DR_ok (KC55 N) (F := [(22, Try.f22), (14, Try.f14), (40, Try.f40)]) (J := [(40, [(0, altO d11_0 (g11_0 N) (g11_3 N)), (4, altO d11_2 (g11_2 N) (g11_5 N)), (2, g11_1 N)])]) (FGood.cons i22 (JGood.nil c22) (FGood.cons i14 (JGood.nil c14) (FGood.cons i40 (JGood.cons i40.hd (alt_ok (o11_0 N) (o11_3 N)) (JGood.cons i40.hd (alt_ok (o11_2 N) (o11_5 N)) (JGood.cons i40.hd (o11_1 N) (JGood.nil c40)))) (FGood.nil _)))) (M := []) (R := []) i40 (JGood.cons i40.hd (alt_ok (o11_0 N) (o11_3 N)) (JGood.cons i40.hd (alt_ok (o11_2 N) (o11_5 N)) (JGood.cons i40.hd (o11_1 N) (JGood.nil c40)))) e40_2 (s11_4 N) N
-- loop.example/g01139/spec.l05State: loop 0
def d11_6 : LoopD := ⟨864, ⟨[(0, .c (.ptr 1 0)), (1, .c (.ptr 1 2))], [(1, 1, .var 29 [.int .i64, .int .i64, .rd 25 [(0, 0)], .rd 25 [(0, 0)], .rd 2 [(0, 0)]]), (0, 0, .ext)], 125⟩, ⟨[(5, .c (.int .i64))], [], 872⟩, [], [1, 0], [⟨.ret, ⟨[(4, .c (.bool))], [], 872⟩, [], [1, 0]⟩, ⟨.norm, ⟨[], [], 872⟩, [], [1, 0]⟩]⟩
def n11_6 (N : Nat) : Int × Int × List (List (Int)) × List (List (Int)) × List (Int) × Unit → (Int × Unit → Option ((Bool × Unit) ⊕ (Unit))) → Int × Unit → Option ((Bool × Unit) ⊕ (Unit))
  | (p1, p1c1, p1c2, p1c3, p1c4, _), rec, (i5, _) =>
    bif (decide (i5 < (p1c2.length : Int))) then bif (decide ((0 : Int) ≤ i5)) then bif (decide (i5 < (p1c2.length : Int))) then bif (!(decide (((gt p1c2 i5).length : Int) = p1))) then some (.inl (false, ()))
       else bif (decide ((0 : Int) ≤ i5)) then bif (decide (i5 < (p1c2.length : Int))) then (F55 N (p1c1, ((gt p1c2 i5), ()))).bind fun r104 =>
          bif (!r104.1) then some (.inl (false, ()))
           else rec ((IntKind.wrap .i64 (i5 + (1 : Int))), ())
         else none
        else none
      else none
     else none
    else some (.inr ())
theorem s11_6 (N : Nat) : ∀ σ p rec v, stepL (rn drawR (mkB (C55 N) [(22, Try.f22), (14, Try.f14), (40, Try.f40)] [(40, [(0, altO d11_0 (g11_0 N) (g11_3 N)), (4, altO d11_2 (g11_2 N) (g11_5 N)), (2, altO d11_1 (g11_1 N) (g11_4 N))])] [] []) 8 40 b40_0) 0 (wr b40_0) d11_6 (instP σ d11_6.pm p) rec v = n11_6 N p rec v := by
  rintro σ ⟨p1, p1c1, p1c2, p1c3, p1c4, _⟩ rec ⟨i5, _⟩; kernel_rfl
noncomputable def g11_6 (N : Nat) : St (Sig.T SS) → Tr (Ex × St (Sig.T SS)) := orcL (wr b40_0) d11_6 fun p => itN (n11_6 N p) N
theorem o11_6 (N : Nat) : Snd QQ (g11_6 N) (.block 0 (blkOf 0 (blks c40))) := loopP LL DR_ok (KC55 N) (F := [(22, Try.f22), (14, Try.f14), (40, Try.f40)]) (J := [(40, [(0, altO d11_0 (g11_0 N) (g11_3 N)), (4, altO d11_2 (g11_2 N) (g11_5 N)), (2, altO d11_1 (g11_1 N) (g11_4 N))])]) (FGood.cons i22 (JGood.nil c22) (FGood.cons i14 (JGood.nil c14) (FGood.cons i40 (JGood.cons i40.hd (alt_ok (o11_0 N) (o11_3 N)) (JGood.cons i40.hd (alt_ok (o11_2 N) (o11_5 N)) (JGood.cons i40.hd (alt_ok (o11_1 N) (o11_4 N)) (JGood.nil c40)))) (FGood.nil _)))) (M := []) (R := []) i40 (JGood.cons i40.hd (alt_ok (o11_0 N) (o11_3 N)) (JGood.cons i40.hd (alt_ok (o11_2 N) (o11_5 N)) (JGood.cons i40.hd (alt_ok (o11_1 N) (o11_4 N)) (JGood.nil c40)))) e40_0 (s11_6 N) N
-- loop.example/g01139/spec.l05State: loop 4
def d11_8 : LoopD := ⟨1072, ⟨[(1, .c (.ptr 1 2)), (6, .c (.int .i64))], [(1, 1, .var 29 [.int .i64, .int .i64, .rd 25 [(0, 0)], .rd 25 [(0, 0)], .rd 2 [(0, 0)]]), (0, 0, .ext)], 125⟩, ⟨[(7, .c (.int .i64))], [], 1080⟩, [], [1, 0], [⟨.ret, ⟨[(4, .c (.bool))], [], 1080⟩, [], [1, 0]⟩, ⟨.norm, ⟨[], [], 1080⟩, [], [1, 0]⟩]⟩
def n11_8 (N : Nat) : Int × Int × Int × List (List (Int)) × List (List (Int)) × List (Int) × Unit → (Int × Unit → Option ((Bool × Unit) ⊕ (Unit))) → Int × Unit → Option ((Bool × Unit) ⊕ (Unit))
  | (i6, p1, p1c1, p1c2, p1c3, p1c4, _), rec, (k7, _) =>
    bif (decide ((0 : Int) ≤ i6)) then bif (decide (i6 < (p1c3.length : Int))) then bif (decide (k7 < ((gt p1c3 i6).length : Int))) then bif (decide ((0 : Int) ≤ i6)) then bif (decide (i6 < (p1c3.length : Int))) then bif (decide ((0 : Int) ≤ k7)) then bif (decide (k7 < ((gt p1c3 i6).length : Int))) then (F56 N ((gt (gt p1c3 i6) k7), ((0 : Int), ((1 : Int), ())))).bind fun r128 =>
           bif (!r128.1) then some (.inl (false, ()))
            else rec ((IntKind.wrap .i64 (k7 + (1 : Int))), ())
          else none
         else none
        else none
       else none
      else some (.inr ())
     else none
    else none
theorem s11_8 (N : Nat) : ∀ σ p rec v, stepL (rn drawR (mkB (C55 N) [(22, Try.f22), (14, Try.f14), (40, Try.f40)] [(40, [(0, altO d11_0 (g11_0 N) (altO d11_3 (g11_3 N) (g11_6 N))), (4, altO d11_2 (g11_2 N) (g11_5 N)), (2, altO d11_1 (g11_1 N) (g11_4 N))])] [] []) 8 40 b40_4) 4 (wr b40_4) d11_8 (instP σ d11_8.pm p) rec v = n11_8 N p rec v := by
  rintro σ ⟨i6, p1, p1c1, p1c2, p1c3, p1c4, _⟩ rec ⟨k7, _⟩; kernel_rfl
noncomputable def g11_8 (N : Nat) : St (Sig.T SS) → Tr (Ex × St (Sig.T SS)) := orcL (wr b40_4) d11_8 fun p => itN (n11_8 N p) N
theorem o11_8 (N : Nat) : Snd QQ (g11_8 N) (.block 4 (blkOf 4 (blks c40))) := loopP LL DR_ok (KC55 N) (F := [(22, Try.f22), (14, Try.f14), (40, Try.f40)]) (J := [(40, [(0, altO d11_0 (g11_0 N) (altO d11_3 (g11_3 N) (g11_6 N))), (4, altO d11_2 (g11_2 N) (g11_5 N)), (2, altO d11_1 (g11_1 N) (g11_4 N))])]) (FGood.cons i22 (JGood.nil c22) (FGood.cons i14 (JGood.nil c14) (FGood.cons i40 (JGood.cons i40.hd (alt_ok (o11_0 N) (alt_ok (o11_3 N) (o11_6 N))) (JGood.cons i40.hd (alt_ok (o11_2 N) (o11_5 N)) (JGood.cons i40.hd (alt_ok (o11_1 N) (o11_4 N)) (JGood.nil c40)))) (FGood.nil _)))) (M := []) (R := []) i40 (JGood.cons i40.hd (alt_ok (o11_0 N) (alt_ok (o11_3 N) (o11_6 N))) (JGood.cons i40.hd (alt_ok (o11_2 N) (o11_5 N)) (JGood.cons i40.hd (alt_ok (o11_1 N) (o11_4 N)) (JGood.nil c40)))) e40_4 (s11_8 N) N
-- loop.example/g01139/spec.l05State: loop 2
def d11_7 : LoopD := ⟨888, ⟨[(0, .c (.ptr 1 0)), (1, .c (.ptr 1 2))], [(1, 1, .var 29 [.int .i64, .int .i64, .rd 25 [(0, 0)], .rd 25 [(0, 0)], .rd 2 [(0, 0)]]), (0, 0, .ext)], 125⟩, ⟨[(6, .c (.int .i64))], [], 896⟩, [], [1, 0], [⟨.ret, ⟨[(4, .c (.bool))], [], 896⟩, [], [1, 0]⟩, ⟨.norm, ⟨[], [], 896⟩, [], [1, 0]⟩]⟩
def n11_7 (N : Nat) : Int × Int × List (List (Int)) × List (List (Int)) × List (Int) × Unit → (Int × Unit → Option ((Bool × Unit) ⊕ (Unit))) → Int × Unit → Option ((Bool × Unit) ⊕ (Unit))
  | (p1, p1c1, p1c2, p1c3, p1c4, _), rec, (i6, _) =>
    bif (decide (i6 < (p1c3.length : Int))) then bif (decide ((0 : Int) ≤ i6)) then bif (decide (i6 < (p1c3.length : Int))) then bif (!(decide (((gt p1c3 i6).length : Int) = p1))) then some (.inl (false, ()))
       else (itN (n11_8 N (i6, (p1, (p1c1, (p1c2, (p1c3, (p1c4, ()))))))) N ((0 : Int), ())).bind fun r129 =>
        bif r129.isLeft then r129.getLeft?.bind fun r130 =>
          some (.inl (r130.1, ()))
         else r129.getRight?.bind fun r131 =>
          rec ((IntKind.wrap .i64 (i6 + (1 : Int))), ())
      else none
     else none
    else some (.inr ())
theorem s11_7 (N : Nat) : ∀ σ p rec v, stepL (rn drawR (mkB (C55 N) [(22, Try.f22), (14, Try.f14), (40, Try.f40)] [(40, [(0, altO d11_0 (g11_0 N) (altO d11_3 (g11_3 N) (g11_6 N))), (4, altO d11_2 (g11_2 N) (altO d11_5 (g11_5 N) (g11_8 N))), (2, altO d11_1 (g11_1 N) (g11_4 N))])] [] []) 8 40 b40_2) 2 (wr b40_2) d11_7 (instP σ d11_7.pm p) rec v = n11_7 N p rec v := by
  rintro σ ⟨p1, p1c1, p1c2, p1c3, p1c4, _⟩ rec ⟨i6, _⟩; kernel_rfl
noncomputable def g11_7 (N : Nat) : St (Sig.T SS) → Tr (Ex × St (Sig.T SS)) := orcL (wr b40_2) d11_7 fun p => itN (n11_7 N p) N
theorem o11_7 (N : Nat) : Snd QQ (g11_7 N) (.block 2 (blkOf 2 (blks c40))) := loopP LL DR_ok (KC55 N) (F := [(22, Try.f22), (14, Try.f14), (40, Try.f40)]) (J := [(40, [(0, altO d11_0 (g11_0 N) (altO d11_3 (g11_3 N) (g11_6 N))), (4, altO d11_2 (g11_2 N) (altO d11_5 (g11_5 N) (g11_8 N))), (2, altO d11_1 (g11_1 N) (g11_4 N))])]) (FGood.cons i22 (JGood.nil c22) (FGood.cons i14 (JGood.nil c14) (FGood.cons i40 (JGood.cons i40.hd (alt_ok (o11_0 N) (alt_ok (o11_3 N) (o11_6 N))) (JGood.cons i40.hd (alt_ok (o11_2 N) (alt_ok (o11_5 N) (o11_8 N))) (JGood.cons i40.hd (alt_ok (o11_1 N) (o11_4 N)) (JGood.nil c40)))) (FGood.nil _)))) (M := []) (R := []) i40 (JGood.cons i40.hd (alt_ok (o11_0 N) (alt_ok (o11_3 N) (o11_6 N))) (JGood.cons i40.hd (alt_ok (o11_2 N) (alt_ok (o11_5 N) (o11_8 N))) (JGood.cons i40.hd (alt_ok (o11_1 N) (o11_4 N)) (JGood.nil c40)))) e40_2 (s11_7 N) N
-- loop.example/g01139/spec.l05State: loop 0
def d11_9 : LoopD := ⟨904, ⟨[(0, .c (.ptr 1 0)), (1, .c (.ptr 1 2))], [(1, 1, .var 29 [.int .i64, .int .i64, .rd 25 [(0, 0)], .rd 25 [(0, 0)], .rd 2 [(0, 0)]]), (0, 0, .ext)], 125⟩, ⟨[(5, .c (.int .i64))], [], 912⟩, [], [1, 0], [⟨.ret, ⟨[(4, .c (.bool))], [], 912⟩, [], [1, 0]⟩, ⟨.norm, ⟨[], [], 912⟩, [], [1, 0]⟩]⟩
def n11_9 (N : Nat) : Int × Int × List (List (Int)) × List (List (Int)) × List (Int) × Unit → (Int × Unit → Option ((Bool × Unit) ⊕ (Unit))) → Int × Unit → Option ((Bool × Unit) ⊕ (Unit))
  | (p1, p1c1, p1c2, p1c3, p1c4, _), rec, (i5, _) =>
    bif (decide (i5 < (p1c2.length : Int))) then bif (decide ((0 : Int) ≤ i5)) then bif (decide (i5 < (p1c2.length : Int))) then bif (!(decide (((gt p1c2 i5).length : Int) = p1))) then some (.inl (false, ()))
       else bif (decide ((0 : Int) ≤ i5)) then bif (decide (i5 < (p1c2.length : Int))) then (F55 N (p1c1, ((gt p1c2 i5), ()))).bind fun r158 =>
          bif (!r158.1) then some (.inl (false, ()))
           else rec ((IntKind.wrap .i64 (i5 + (1 : Int))), ())
         else none
        else none
      else none
     else none
    else some (.inr ())
theorem s11_9 (N : Nat) : ∀ σ p rec v, stepL (rn drawR (mkB (C55 N) [(22, Try.f22), (14, Try.f14), (40, Try.f40)] [(40, [(0, altO d11_0 (g11_0 N) (altO d11_3 (g11_3 N) (g11_6 N))), (4, altO d11_2 (g11_2 N) (altO d11_5 (g11_5 N) (g11_8 N))), (2, altO d11_1 (g11_1 N) (altO d11_4 (g11_4 N) (g11_7 N)))])] [] []) 8 40 b40_0) 0 (wr b40_0) d11_9 (instP σ d11_9.pm p) rec v = n11_9 N p rec v := by
  rintro σ ⟨p1, p1c1, p1c2, p1c3, p1c4, _⟩ rec ⟨i5, _⟩; kernel_rfl
noncomputable def g11_9 (N : Nat) : St (Sig.T SS) → Tr (Ex × St (Sig.T SS)) := orcL (wr b40_0) d11_9 fun p => itN (n11_9 N p) N
theorem o11_9 (N : Nat) : Snd QQ (g11_9 N) (.block 0 (blkOf 0 (blks c40))) := loopP LL DR_ok (KC55 N) (F := [(22, Try.f22), (14, Try.f14), (40, Try.f40)]) (J := [(40, [(0, altO d11_0 (g11_0 N) (altO d11_3 (g11_3 N) (g11_6 N))), (4, altO d11_2 (g11_2 N) (altO d11_5 (g11_5 N) (g11_8 N))), (2, altO d11_1 (g11_1 N) (altO d11_4 (g11_4 N) (g11_7 N)))])]) (FGood.cons i22 (JGood.nil c22) (FGood.cons i14 (JGood.nil c14) (FGood.cons i40 (JGood.cons i40.hd (alt_ok (o11_0 N) (alt_ok (o11_3 N) (o11_6 N))) (JGood.cons i40.hd (alt_ok (o11_2 N) (alt_ok (o11_5 N) (o11_8 N))) (JGood.cons i40.hd (alt_ok (o11_1 N) (alt_ok (o11_4 N) (o11_7 N))) (JGood.nil c40)))) (FGood.nil _)))) (M := []) (R := []) i40 (JGood.cons i40.hd (alt_ok (o11_0 N) (alt_ok (o11_3 N) (o11_6 N))) (JGood.cons i40.hd (alt_ok (o11_2 N) (alt_ok (o11_5 N) (o11_8 N))) (JGood.cons i40.hd (alt_ok (o11_1 N) (alt_ok (o11_4 N) (o11_7 N))) (JGood.nil c40)))) e40_0 (s11_9 N) N
-- loop.example/g01139/spec.l05State: loop 4
def d11_11 : LoopD := ⟨1112, ⟨[(1, .c (.ptr 1 2)), (6, .c (.int .i64))], [(1, 1, .var 29 [.int .i64, .int .i64, .rd 25 [(0, 0)], .rd 25 [(0, 0)], .rd 2 [(0, 0)]]), (0, 0, .ext)], 125⟩, ⟨[(7, .c (.int .i64))], [], 1120⟩, [], [1, 0], [⟨.ret, ⟨[(4, .c (.bool))], [], 1120⟩, [], [1, 0]⟩, ⟨.norm, ⟨[], [], 1120⟩, [], [1, 0]⟩]⟩
def n11_11 (N : Nat) : Int × Int × Int × List (List (Int)) × List (List (Int)) × List (Int) × Unit → (Int × Unit → Option ((Bool × Unit) ⊕ (Unit))) → Int × Unit → Option ((Bool × Unit) ⊕ (Unit))
  | (i6, p1, p1c1, p1c2, p1c3, p1c4, _), rec, (k7, _) =>
    bif (decide ((0 : Int) ≤ i6)) then bif (decide (i6 < (p1c3.length : Int))) then bif (decide (k7 < ((gt p1c3 i6).length : Int))) then bif (decide ((0 : Int) ≤ i6)) then bif (decide (i6 < (p1c3.length : Int))) then bif (decide ((0 : Int) ≤ k7)) then bif (decide (k7 < ((gt p1c3 i6).length : Int))) then (F56 N ((gt (gt p1c3 i6) k7), ((0 : Int), ((1 : Int), ())))).bind fun r188 =>
           bif (!r188.1) then some (.inl (false, ()))
            else rec ((IntKind.wrap .i64 (k7 + (1 : Int))), ())
          else none
         else none
        else none
       else none
      else some (.inr ())
     else none
    else none
theorem s11_11 (N : Nat) : ∀ σ p rec v, stepL (rn drawR (mkB (C55 N) [(22, Try.f22), (14, Try.f14), (40, Try.f40)] [(40, [(0, altO d11_0 (g11_0 N) (altO d11_3 (g11_3 N) (altO d11_6 (g11_6 N) (g11_9 N)))), (4, altO d11_2 (g11_2 N) (altO d11_5 (g11_5 N) (g11_8 N))), (2, altO d11_1 (g11_1 N) (altO d11_4 (g11_4 N) (g11_7 N)))])] [] []) 8 40 b40_4) 4 (wr b40_4) d11_11 (instP σ d11_11.pm p) rec v = n11_11 N p rec v := by
  rintro σ ⟨i6, p1, p1c1, p1c2, p1c3, p1c4, _⟩ rec ⟨k7, _⟩; kernel_rfl
noncomputable def g11_11 (N : Nat) : St (Sig.T SS) → Tr (Ex × St (Sig.T SS)) := orcL (wr b40_4) d11_11 fun p => itN (n11_11 N p) N
theorem o11_11 (N : Nat) : Snd QQ (g11_11 N) (.block 4 (blkOf 4 (blks c40))) := loopP LL DR_ok (KC55 N) (F := [(22, Try.f22), (14, Try.f14), (40, Try.f40)]) (J := [(40, [(0, altO d11_0 (g11_0 N) (altO d11_3 (g11_3 N) (altO d11_6 (g11_6 N) (g11_9 N)))), (4, altO d11_2 (g11_2 N) (altO d11_5 (g11_5 N) (g11_8 N))), (2, altO d11_1 (g11_1 N) (altO d11_4 (g11_4 N) (g11_7 N)))])]) (FGood.cons i22 (JGood.nil c22) (FGood.cons i14 (JGood.nil c14) (FGood.cons i40 (JGood.cons i40.hd (alt_ok (o11_0 N) (alt_ok (o11_3 N) (alt_ok (o11_6 N) (o11_9 N)))) (JGood.cons i40.hd (alt_ok (o11_2 N) (alt_ok (o11_5 N) (o11_8 N))) (JGood.cons i40.hd (alt_ok (o11_1 N) (alt_ok (o11_4 N) (o11_7 N))) (JGood.nil c40)))) (FGood.nil _)))) (M := []) (R := []) i40 (JGood.cons i40.hd (alt_ok (o11_0 N) (alt_ok (o11_3 N) (alt_ok (o11_6 N) (o11_9 N)))) (JGood.cons i40.hd (alt_ok (o11_2 N) (alt_ok (o11_5 N) (o11_8 N))) (JGood.cons i40.hd (alt_ok (o11_1 N) (alt_ok (o11_4 N) (o11_7 N))) (JGood.nil c40)))) e40_4 (s11_11 N) N
-- loop.example/g01139/spec.l05State: loop 2
def d11_10 : LoopD := ⟨928, ⟨[(0, .c (.ptr 1 0)), (1, .c (.ptr 1 2))], [(1, 1, .var 29 [.int .i64, .int .i64, .rd 25 [(0, 0)], .rd 25 [(0, 0)], .rd 2 [(0, 0)]]), (0, 0, .ext)], 125⟩, ⟨[(6, .c (.int .i64))], [], 936⟩, [], [1, 0], [⟨.ret, ⟨[(4, .c (.bool))], [], 936⟩, [], [1, 0]⟩, ⟨.norm, ⟨[], [], 936⟩, [], [1, 0]⟩]⟩
def n11_10 (N : Nat) : Int × Int × List (List (Int)) × List (List (Int)) × List (Int) × Unit → (Int × Unit → Option ((Bool × Unit) ⊕ (Unit))) → Int × Unit → Option ((Bool × Unit) ⊕ (Unit))
  | (p1, p1c1, p1c2, p1c3, p1c4, _), rec, (i6, _) =>
    bif (decide (i6 < (p1c3.length : Int))) then bif (decide ((0 : Int) ≤ i6)) then bif (decide (i6 < (p1c3.length : Int))) then bif (!(decide (((gt p1c3 i6).length : Int) = p1))) then some (.inl (false, ()))
       else (itN (n11_11 N (i6, (p1, (p1c1, (p1c2, (p1c3, (p1c4, ()))))))) N ((0 : Int), ())).bind fun r189 =>
        bif r189.isLeft then r189.getLeft?.bind fun r190 =>
          some (.inl (r190.1, ()))
         else r189.getRight?.bind fun r191 =>
          rec ((IntKind.wrap .i64 (i6 + (1 : Int))), ())
      else none
     else none
    else some (.inr ())
theorem s11_10 (N : Nat) : ∀ σ p rec v, stepL (rn drawR (mkB (C55 N) [(22, Try.f22), (14, Try.f14), (40, Try.f40)] [(40, [(0, altO d11_0 (g11_0 N) (altO d11_3 (g11_3 N) (altO d11_6 (g11_6 N) (g11_9 N)))), (4, altO d11_2 (g11_2 N) (altO d11_5 (g11_5 N) (altO d11_8 (g11_8 N) (g11_11 N)))), (2, altO d11_1 (g11_1 N) (altO d11_4 (g11_4 N) (g11_7 N)))])] [] []) 8 40 b40_2) 2 (wr b40_2) d11_10 (instP σ d11_10.pm p) rec v = n11_10 N p rec v := by
  rintro σ ⟨p1, p1c1, p1c2, p1c3, p1c4, _⟩ rec ⟨i6, _⟩; kernel_rfl
noncomputable def g11_10 (N : Nat) : St (Sig.T SS) → Tr (Ex × St (Sig.T SS)) := orcL (wr b40_2) d11_10 fun p => itN (n11_10 N p) N
theorem o11_10 (N : Nat) : Snd QQ (g11_10 N) (.block 2 (blkOf 2 (blks c40))) := loopP LL DR_ok (KC55 N) (F := [(22, Try.f22), (14, Try.f14), (40, Try.f40)]) (J := [(40, [(0, altO d11_0 (g11_0 N) (altO d11_3 (g11_3 N) (altO d11_6 (g11_6 N) (g11_9 N)))), (4, altO d11_2 (g11_2 N) (altO d11_5 (g11_5 N) (altO d11_8 (g11_8 N) (g11_11 N)))), (2, altO d11_1 (g11_1 N) (altO d11_4 (g11_4 N) (g11_7 N)))])]) (FGood.cons i22 (JGood.nil c22) (FGood.cons i14 (JGood.nil c14) (FGood.cons i40 (JGood.cons i40.hd (alt_ok (o11_0 N) (alt_ok (o11_3 N) (alt_ok (o11_6 N) (o11_9 N)))) (JGood.cons i40.hd (alt_ok (o11_2 N) (alt_ok (o11_5 N) (alt_ok (o11_8 N) (o11_11 N)))) (JGood.cons i40.hd (alt_ok (o11_1 N) (alt_ok (o11_4 N) (o11_7 N))) (JGood.nil c40)))) (FGood.nil _)))) (M := []) (R := []) i40 (JGood.cons i40.hd (alt_ok (o11_0 N) (alt_ok (o11_3 N) (alt_ok (o11_6 N) (o11_9 N)))) (JGood.cons i40.hd (alt_ok (o11_2 N) (alt_ok (o11_5 N) (alt_ok (o11_8 N) (o11_11 N)))) (JGood.cons i40.hd (alt_ok (o11_1 N) (alt_ok (o11_4 N) (o11_7 N))) (JGood.nil c40)))) e40_2 (s11_10 N) N
/-- loop.example/g01139/spec.ValidConsole -/
def F11 (N : Nat) : Int × Int × List (List (Int)) × List (List (Int)) × List (Int) × Unit → Option (Bool × Unit)
  | (c0c0, c0c1, c0c2, c0c3, c0c4, _) =>
    bif (decide (c0c0 = (2 : Int))) then (F26 N (c0c1, ())).bind fun r192 =>
     bif r192.1 then bif (!(decide ((c0c2.length : Int) = (8 : Int)))) then some (false, ())
       else bif (!(decide ((c0c3.length : Int) = (4 : Int)))) then some (false, ())
        else bif (!(decide ((c0c4.length : Int) = (64 : Int)))) then some (false, ())
         else (F55 N (c0c1, (c0c4, ()))).bind fun r193 =>
          bif (!r193.1) then some (false, ())
           else (itN (n11_0 N (c0c0, (c0c1, (c0c2, (c0c3, (c0c4, ())))))) N ((0 : Int), ())).bind fun r194 =>
            bif r194.isLeft then r194.getLeft?.bind fun r195 =>
              some (r195.1, ())
             else r194.getRight?.bind fun r196 =>
              (itN (n11_1 N (c0c0, (c0c1, (c0c2, (c0c3, (c0c4, ())))))) N ((0 : Int), ())).bind fun r197 =>
               bif r197.isLeft then r197.getLeft?.bind fun r198 =>
                 some (r198.1, ())
                else r197.getRight?.bind fun r199 =>
                 some (true, ())
      else some (false, ())
    else bif (decide (c0c0 = (4 : Int))) then (F26 N (c0c1, ())).bind fun r200 =>
      bif r200.1 then bif (!(decide ((c0c2.length : Int) = (8 : Int)))) then some (false, ())
        else bif (!(decide ((c0c3.length : Int) = (4 : Int)))) then some (false, ())
         else bif (!(decide ((c0c4.length : Int) = (64 : Int)))) then some (false, ())
          else (F55 N (c0c1, (c0c4, ()))).bind fun r201 =>
           bif (!r201.1) then some (false, ())
            else (itN (n11_3 N (c0c0, (c0c1, (c0c2, (c0c3, (c0c4, ())))))) N ((0 : Int), ())).bind fun r202 =>
             bif r202.isLeft then r202.getLeft?.bind fun r203 =>
               some (r203.1, ())
              else r202.getRight?.bind fun r204 =>
               (itN (n11_4 N (c0c0, (c0c1, (c0c2, (c0c3, (c0c4, ())))))) N ((0 : Int), ())).bind fun r205 =>
                bif r205.isLeft then r205.getLeft?.bind fun r206 =>
                  some (r206.1, ())
                 else r205.getRight?.bind fun r207 =>
                  some (true, ())
       else some (false, ())
     else bif (decide (c0c0 = (8 : Int))) then (F26 N (c0c1, ())).bind fun r208 =>
       bif r208.1 then bif (!(decide ((c0c2.length : Int) = (8 : Int)))) then some (false, ())
         else bif (!(decide ((c0c3.length : Int) = (4 : Int)))) then some (false, ())
          else bif (!(decide ((c0c4.length : Int) = (64 : Int)))) then some (false, ())
           else (F55 N (c0c1, (c0c4, ()))).bind fun r209 =>
            bif (!r209.1) then some (false, ())
             else (itN (n11_6 N (c0c0, (c0c1, (c0c2, (c0c3, (c0c4, ())))))) N ((0 : Int), ())).bind fun r210 =>
              bif r210.isLeft then r210.getLeft?.bind fun r211 =>
                some (r211.1, ())
               else r210.getRight?.bind fun r212 =>
                (itN (n11_7 N (c0c0, (c0c1, (c0c2, (c0c3, (c0c4, ())))))) N ((0 : Int), ())).bind fun r213 =>
                 bif r213.isLeft then r213.getLeft?.bind fun r214 =>
                   some (r214.1, ())
                  else r213.getRight?.bind fun r215 =>
                   some (true, ())
        else some (false, ())
      else bif (decide (c0c0 = (16 : Int))) then (F26 N (c0c1, ())).bind fun r216 =>
        bif r216.1 then bif (!(decide ((c0c2.length : Int) = (8 : Int)))) then some (false, ())
          else bif (!(decide ((c0c3.length : Int) = (4 : Int)))) then some (false, ())
           else bif (!(decide ((c0c4.length : Int) = (64 : Int)))) then some (false, ())
            else (F55 N (c0c1, (c0c4, ()))).bind fun r217 =>
             bif (!r217.1) then some (false, ())
              else (itN (n11_9 N (c0c0, (c0c1, (c0c2, (c0c3, (c0c4, ())))))) N ((0 : Int), ())).bind fun r218 =>
               bif r218.isLeft then r218.getLeft?.bind fun r219 =>
                 some (r219.1, ())
                else r218.getRight?.bind fun r220 =>
                 (itN (n11_10 N (c0c0, (c0c1, (c0c2, (c0c3, (c0c4, ())))))) N ((0 : Int), ())).bind fun r221 =>
                  bif r221.isLeft then r221.getLeft?.bind fun r222 =>
                    some (r222.1, ())
                   else r221.getRight?.bind fun r223 =>
                    some (true, ())
         else some (false, ())
       else some (false, ())
theorem t11 (N : Nat) : ∀ v, (fr drawR (mkB (C55 N) [(22, Try.f22), (14, Try.f14), (40, Try.f40)] [(40, [(0, altO d11_0 (g11_0 N) (altO d11_3 (g11_3 N) (altO d11_6 (g11_6 N) (g11_9 N)))), (4, altO d11_2 (g11_2 N) (altO d11_5 (g11_5 N) (altO d11_8 (g11_8 N) (g11_11 N)))), (2, altO d11_1 (g11_1 N) (altO d11_4 (g11_4 N) (altO d11_7 (g11_7 N) (g11_10 N))))])] [] []) 8 11 Try.f11 (instA [.agg [.int .i64, .int .i64, .ls 25, .ls 25, .ls 2]] v)).k (matR [.c (.bool)]) = F11 N v := by
  rintro ⟨c0c0, c0c1, c0c2, c0c3, c0c4, _⟩; kernel_rfl
noncomputable def C11 (N : Nat) : CL SS := (11, conG [.agg [.int .i64, .int .i64, .ls 25, .ls 25, .ls 2]] [.c (.bool)] (F11 N)) :: C55 N
theorem KC11 (N : Nat) : COk QQ (C11 N) := COk.cons (conP LL DR_ok (KC55 N) (F := [(22, Try.f22), (14, Try.f14), (40, Try.f40)]) (J := [(40, [(0, altO d11_0 (g11_0 N) (altO d11_3 (g11_3 N) (altO d11_6 (g11_6 N) (g11_9 N)))), (4, altO d11_2 (g11_2 N) (altO d11_5 (g11_5 N) (altO d11_8 (g11_8 N) (g11_11 N)))), (2, altO d11_1 (g11_1 N) (altO d11_4 (g11_4 N) (altO d11_7 (g11_7 N) (g11_10 N))))])]) (FGood.cons i22 (JGood.nil c22) (FGood.cons i14 (JGood.nil c14) (FGood.cons i40 (JGood.cons i40.hd (alt_ok (o11_0 N) (alt_ok (o11_3 N) (alt_ok (o11_6 N) (o11_9 N)))) (JGood.cons i40.hd (alt_ok (o11_2 N) (alt_ok (o11_5 N) (alt_ok (o11_8 N) (o11_11 N)))) (JGood.cons i40.hd (alt_ok (o11_1 N) (alt_ok (o11_4 N) (alt_ok (o11_7 N) (o11_10 N)))) (JGood.nil c40)))) (FGood.nil _)))) (M := []) (R := []) i11 (JGood.nil c11) (t11 N)) (KC55 N)
noncomputable def c50 : Code := Try.f50.body.getD .skip
theorem i50 : IsF Try.prog 50 Try.f50 c50 := ⟨Try.func50, by kernel_rfl, by kernel_rfl, by kernel_rfl⟩
/-- loop.example/g01139/impl.isLanes -/
def F50 (N : Nat) : Int × Unit → Option (Bool × Unit)
  | (n0, _) =>
    bif (decide (n0 = (2 : Int))) then some (true, ())
    else bif (decide (n0 = (4 : Int))) then some (true, ())
     else bif (decide (n0 = (8 : Int))) then some (true, ())
      else some ((decide (n0 = (16 : Int))), ())
theorem t50 (N : Nat) : ∀ v, (fr drawR (mkB (C11 N) [] [] [] []) 8 50 Try.f50 (instA [.c (.int .i64)] v)).k (matR [.c (.bool)]) = F50 N v := by
  rintro ⟨n0, _⟩; kernel_rfl
noncomputable def C50 (N : Nat) : CL SS := (50, conG [.c (.int .i64)] [.c (.bool)] (F50 N)) :: C11 N
theorem KC50 (N : Nat) : COk QQ (C50 N) := COk.cons (conP LL DR_ok (KC11 N) (F := []) (J := []) (FGood.nil _) (M := []) (R := []) i50 (JGood.nil c50) (t50 N)) (KC11 N)
noncomputable def c51 : Code := Try.f51.body.getD .skip
theorem i51 : IsF Try.prog 51 Try.f51 c51 := ⟨Try.func51, by kernel_rfl, by kernel_rfl, by kernel_rfl⟩
/-- loop.example/g01139/impl.isBits -/
def F51 (N : Nat) : Int × Unit → Option (Bool × Unit)
  | (bits0, _) =>
    bif (decide (bits0 = (4 : Int))) then some (true, ())
    else bif (decide (bits0 = (8 : Int))) then some (true, ())
     else some ((decide (bits0 = (16 : Int))), ())
theorem t51 (N : Nat) : ∀ v, (fr drawR (mkB (C50 N) [] [] [] []) 8 51 Try.f51 (instA [.c (.int .i64)] v)).k (matR [.c (.bool)]) = F51 N v := by
  rintro ⟨bits0, _⟩; kernel_rfl
noncomputable def C51 (N : Nat) : CL SS := (51, conG [.c (.int .i64)] [.c (.bool)] (F51 N)) :: C50 N
theorem KC51 (N : Nat) : COk QQ (C51 N) := COk.cons (conP LL DR_ok (KC50 N) (F := []) (J := []) (FGood.nil _) (M := []) (R := []) i51 (JGood.nil c51) (t51 N)) (KC50 N)
noncomputable def c28 : Code := Try.f28.body.getD .skip
theorem i28 : IsF Try.prog 28 Try.f28 c28 := ⟨Try.func28, by kernel_rfl, by kernel_rfl, by kernel_rfl⟩
/-- loop.example/g01139/impl.ValidMachine -/
def F28 (N : Nat) : Int × Int × Unit → Option (Bool × Unit)
  | (m0c0, m0c1, _) =>
    (F50 N (m0c0, ())).bind fun r224 =>
    bif r224.1 then (F51 N (m0c1, ())).bind fun r225 =>
      some (r225.1, ())
     else some (false, ())
theorem t28 (N : Nat) : ∀ v, (fr drawR (mkB (C51 N) [] [] [] []) 8 28 Try.f28 (instA [.agg [.int .i64, .int .i64]] v)).k (matR [.c (.bool)]) = F28 N v := by
  rintro ⟨m0c0, m0c1, _⟩; kernel_rfl
noncomputable def C28 (N : Nat) : CL SS := (28, conG [.agg [.int .i64, .int .i64]] [.c (.bool)] (F28 N)) :: C51 N
theorem KC28 (N : Nat) : COk QQ (C28 N) := COk.cons (conP LL DR_ok (KC51 N) (F := []) (J := []) (FGood.nil _) (M := []) (R := []) i28 (JGood.nil c28) (t28 N)) (KC51 N)
noncomputable def c63 : Code := Try.f63.body.getD .skip
theorem i63 : IsF Try.prog 63 Try.f63 c63 := ⟨Try.func63, by kernel_rfl, by kernel_rfl, by kernel_rfl⟩
/-- loop.example/g01139/impl.within -/
def F63 (N : Nat) : Int × Int × Int × Unit → Option (Bool × Unit)
  | (n0, low1, high2, _) =>
    bif (decide (low1 ≤ n0)) then some ((decide (n0 ≤ high2)), ())
    else some (false, ())
theorem t63 (N : Nat) : ∀ v, (fr drawR (mkB (C28 N) [] [] [] []) 8 63 Try.f63 (instA [.c (.int .i64), .c (.int .i64), .c (.int .i64)] v)).k (matR [.c (.bool)]) = F63 N v := by
  rintro ⟨n0, low1, high2, _⟩; kernel_rfl
noncomputable def C63 (N : Nat) : CL SS := (63, conG [.c (.int .i64), .c (.int .i64), .c (.int .i64)] [.c (.bool)] (F63 N)) :: C28 N
theorem KC63 (N : Nat) : COk QQ (C63 N) := COk.cons (conP LL DR_ok (KC28 N) (F := []) (J := []) (FGood.nil _) (M := []) (R := []) i63 (JGood.nil c63) (t63 N)) (KC28 N)
noncomputable def c54 : Code := Try.f54.body.getD .skip
theorem i54 : IsF Try.prog 54 Try.f54 c54 := ⟨Try.func54, by kernel_rfl, by kernel_rfl, by kernel_rfl⟩
/-- loop.example/g01139/impl.IsWord -/
def F54 (N : Nat) : Int × Int × Unit → Option (Bool × Unit)
  | (bits0, x1, _) =>
    (F51 N (bits0, ())).bind fun r226 =>
    bif r226.1 then bif (decide ((0 : Int) ≤ bits0)) then (F63 N (x1, ((0 : Int), ((IntKind.wrap .i64 ((shlI .i64 (1 : Int) bits0) - (1 : Int))), ())))).bind fun r227 =>
       some (r227.1, ())
      else none
     else some (false, ())
theorem t54 (N : Nat) : ∀ v, (fr drawR (mkB (C63 N) [] [] [] []) 8 54 Try.f54 (instA [.c (.int .i64), .c (.int .i64)] v)).k (matR [.c (.bool)]) = F54 N v := by
  rintro ⟨bits0, x1, _⟩; kernel_rfl
noncomputable def C54 (N : Nat) : CL SS := (54, conG [.c (.int .i64), .c (.int .i64)] [.c (.bool)] (F54 N)) :: C63 N
theorem KC54 (N : Nat) : COk QQ (C54 N) := COk.cons (conP LL DR_ok (KC63 N) (F := []) (J := []) (FGood.nil _) (M := []) (R := []) i54 (JGood.nil c54) (t54 N)) (KC63 N)
noncomputable def c29 : Code := Try.f29.body.getD .skip
theorem i29 : IsF Try.prog 29 Try.f29 c29 := ⟨Try.func29, by kernel_rfl, by kernel_rfl, by kernel_rfl⟩
noncomputable def c53 : Code := Try.f53.body.getD .skip
theorem i53 : IsF Try.prog 53 Try.f53 c53 := ⟨Try.func53, by kernel_rfl, by kernel_rfl, by kernel_rfl⟩
noncomputable def c52 : Code := Try.f52.body.getD .skip
theorem i52 : IsF Try.prog 52 Try.f52 c52 := ⟨Try.func52, by kernel_rfl, by kernel_rfl, by kernel_rfl⟩
noncomputable def c62 : Code := Try.f62.body.getD .skip
theorem i62 : IsF Try.prog 62 Try.f62 c62 := ⟨Try.func62, by kernel_rfl, by kernel_rfl, by kernel_rfl⟩
noncomputable def c61 : Code := Try.f61.body.getD .skip
theorem i61 : IsF Try.prog 61 Try.f61 c61 := ⟨Try.func61, by kernel_rfl, by kernel_rfl, by kernel_rfl⟩
noncomputable def c66 : Code := Try.f66.body.getD .skip
theorem i66 : IsF Try.prog 66 Try.f66 c66 := ⟨Try.func66, by kernel_rfl, by kernel_rfl, by kernel_rfl⟩
noncomputable def b66_0 : Code := unLoop (blkOf 0 (blks c66))
theorem e66_0 : blkOf 0 (blks c66) = .loop b66_0 := by kernel_rfl
-- slices.IndexFunc[[]int64,int64]: loop 0
def d29_0 : LoopD := ⟨160, ⟨[(0, .c (.rd 2 [(0, 0)])), (1, .c (.fn 62 [65])), (7, .c (.int .i64))], [(0, 0, .ext), (65, 65, .var 57 [.fn 53 [1]]), (1, 1, .var 23 [.int .i64, .int .i64])], 19⟩, ⟨[(8, .c (.int .i64))], [], 168⟩, [], [0, 65, 1], [⟨.ret, ⟨[(4, .c (.int .i64))], [], 168⟩, [], [0, 65, 1]⟩, ⟨.norm, ⟨[], [], 168⟩, [], [0, 65, 1]⟩]⟩
def n29_0 (N : Nat) : List (Int) × Int × Int × Int × Unit → (Int × Unit → Option ((Int × Unit) ⊕ (Unit))) → Int × Unit → Option ((Int × Unit) ⊕ (Unit))
  | (s0, t7, p1, p1c1, _), rec, (t8, _) =>
    bif (decide (t8 < t7)) then bif (decide ((0 : Int) ≤ t8)) then bif (decide (t8 < (s0.length : Int))) then (F54 N (p1c1, ((gt s0 t8), ()))).bind fun r228 =>
       bif (!r228.1) then some (.inl (t8, ()))
        else rec ((IntKind.wrap .i64 (t8 + (1 : Int))), ())
      else none
     else none
    else some (.inr ())
theorem s29_0 (N : Nat) : ∀ σ p rec v, stepL (rn drawR (mkB (C54 N) [(53, Try.f53), (52, Try.f52), (62, Try.f62), (61, Try.f61), (66, Try.f66)] [] [] []) 8 66 b66_0) 0 (wr b66_0) d29_0 (instP σ d29_0.pm p) rec v = n29_0 N p rec v := by
  rintro σ ⟨s0, t7, p1, p1c1, _⟩ rec ⟨t8, _⟩; kernel_rfl
noncomputable def g29_0 (N : Nat) : St (Sig.T SS) → Tr (Ex × St (Sig.T SS)) := orcL (wr b66_0) d29_0 fun p => itN (n29_0 N p) N
theorem o29_0 (N : Nat) : Snd QQ (g29_0 N) (.block 0 (blkOf 0 (blks c66))) := loopP LL DR_ok (KC54 N) (F := [(53, Try.f53), (52, Try.f52), (62, Try.f62), (61, Try.f61), (66, Try.f66)]) (J := []) (FGood.cons i53 (JGood.nil c53) (FGood.cons i52 (JGood.nil c52) (FGood.cons i62 (JGood.nil c62) (FGood.cons i61 (JGood.nil c61) (FGood.cons i66 (JGood.nil c66) (FGood.nil _)))))) (M := []) (R := []) i66 (JGood.nil c66) e66_0 (s29_0 N) N
/-- loop.example/g01139/impl.isMemory -/
def F29 (N : Nat) : Int × Int × List (Int) × Unit → Option (Bool × Unit)
  | (m0c0, m0c1, memory1, _) =>
    bif (decide ((memory1.length : Int) = (64 : Int))) then (itN (n29_0 N (memory1, ((memory1.length : Int), (m0c0, (m0c1, ()))))) N ((0 : Int), ())).bind fun r229 =>
     bif r229.isLeft then r229.getLeft?.bind fun r230 =>
       some ((!(decide (r230.1 ≥ (0 : Int)))), ())
      else r229.getRight?.bind fun r231 =>
       some ((!(decide ((-(1 : Int)) ≥ (0 : Int)))), ())
    else some (false, ())
theorem t29 (N : Nat) : ∀ v, (fr drawR (mkB (C54 N) [(53, Try.f53), (52, Try.f52), (62, Try.f62), (61, Try.f61), (66, Try.f66)] [(66, [(0, g29_0 N)])] [] []) 8 29 Try.f29 (instA [.agg [.int .i64, .int .i64], .c (.ls 2)] v)).k (matR [.c (.bool)]) = F29 N v := by
  rintro ⟨m0c0, m0c1, memory1, _⟩; kernel_rfl
noncomputable def C29 (N : Nat) : CL SS := (29, conG [.agg [.int .i64, .int .i64], .c (.ls 2)] [.c (.bool)] (F29 N)) :: C54 N
theorem KC29 (N : Nat) : COk QQ (C29 N) := COk.cons (conP LL DR_ok (KC54 N) (F := [(53, Try.f53), (52, Try.f52), (62, Try.f62), (61, Try.f61), (66, Try.f66)]) (J := [(66, [(0, g29_0 N)])]) (FGood.cons i53 (JGood.nil c53) (FGood.cons i52 (JGood.nil c52) (FGood.cons i62 (JGood.nil c62) (FGood.cons i61 (JGood.nil c61) (FGood.cons i66 (JGood.cons i66.hd (o29_0 N) (JGood.nil c66)) (FGood.nil _)))))) (M := []) (R := []) i29 (JGood.nil c29) (t29 N)) (KC54 N)
noncomputable def c46 : Code := Try.f46.body.getD .skip
theorem i46 : IsF Try.prog 46 Try.f46 c46 := ⟨Try.func46, by kernel_rfl, by kernel_rfl, by kernel_rfl⟩
/-- loop.example/g01139/impl.length[int64] -/
def F46 (N : Nat) : List (Int) × Unit → Option (Int × Unit)
  | (list0, _) =>
    some ((list0.length : Int), ())
theorem t46 (N : Nat) : ∀ v, (fr drawR (mkB (C29 N) [] [] [] []) 8 46 Try.f46 (instA [.c (.ls 2)] v)).k (matR [.c (.int .i64)]) = F46 N v := by
  rintro ⟨list0, _⟩; kernel_rfl
noncomputable def C46 (N : Nat) : CL SS := (46, conG [.c (.ls 2)] [.c (.int .i64)] (F46 N)) :: C29 N
theorem KC46 (N : Nat) : COk QQ (C46 N) := COk.cons (conP LL DR_ok (KC29 N) (F := []) (J := []) (FGood.nil _) (M := []) (R := []) i46 (JGood.nil c46) (t46 N)) (KC29 N)
noncomputable def c45 : Code := Try.f45.body.getD .skip
theorem i45 : IsF Try.prog 45 Try.f45 c45 := ⟨Try.func45, by kernel_rfl, by kernel_rfl, by kernel_rfl⟩
noncomputable def c59 : Code := Try.f59.body.getD .skip
theorem i59 : IsF Try.prog 59 Try.f59 c59 := ⟨Try.func59, by kernel_rfl, by kernel_rfl, by kernel_rfl⟩
-- slices.IndexFunc[[]int64,int64]: loop 0
def d45_0 : LoopD := ⟨192, ⟨[(0, .c (.rd 2 [(0, 0)])), (1, .c (.fn 62 [97])), (7, .c (.int .i64))], [(0, 0, .ext), (97, 97, .var 57 [.fn 59 [1]]), (1, 1, .var 2 [.int .i64])], 19⟩, ⟨[(8, .c (.int .i64))], [], 200⟩, [], [0, 97, 1], [⟨.ret, ⟨[(4, .c (.int .i64))], [], 200⟩, [], [0, 97, 1]⟩, ⟨.norm, ⟨[], [], 200⟩, [], [0, 97, 1]⟩]⟩
def n45_0 (N : Nat) : List (Int) × Int × Int × Unit → (Int × Unit → Option ((Int × Unit) ⊕ (Unit))) → Int × Unit → Option ((Int × Unit) ⊕ (Unit))
  | (s0, t7, p1, _), rec, (t8, _) =>
    bif (decide (t8 < t7)) then bif (decide ((0 : Int) ≤ t8)) then bif (decide (t8 < (s0.length : Int))) then (F54 N (p1, ((gt s0 t8), ()))).bind fun r235 =>
       bif (!r235.1) then some (.inl (t8, ()))
        else rec ((IntKind.wrap .i64 (t8 + (1 : Int))), ())
      else none
     else none
    else some (.inr ())
theorem s45_0 (N : Nat) : ∀ σ p rec v, stepL (rn drawR (mkB (C46 N) [(59, Try.f59), (52, Try.f52), (62, Try.f62), (61, Try.f61), (66, Try.f66)] [] [] []) 8 66 b66_0) 0 (wr b66_0) d45_0 (instP σ d45_0.pm p) rec v = n45_0 N p rec v := by
  rintro σ ⟨s0, t7, p1, _⟩ rec ⟨t8, _⟩; kernel_rfl
noncomputable def g45_0 (N : Nat) : St (Sig.T SS) → Tr (Ex × St (Sig.T SS)) := orcL (wr b66_0) d45_0 fun p => itN (n45_0 N p) N
theorem o45_0 (N : Nat) : Snd QQ (g45_0 N) (.block 0 (blkOf 0 (blks c66))) := loopP LL DR_ok (KC46 N) (F := [(59, Try.f59), (52, Try.f52), (62, Try.f62), (61, Try.f61), (66, Try.f66)]) (J := []) (FGood.cons i59 (JGood.nil c59) (FGood.cons i52 (JGood.nil c52) (FGood.cons i62 (JGood.nil c62) (FGood.cons i61 (JGood.nil c61) (FGood.cons i66 (JGood.nil c66) (FGood.nil _)))))) (M := []) (R := []) i66 (JGood.nil c66) e66_0 (s45_0 N) N
/-- loop.example/g01139/impl.IsVector -/
def F45 (N : Nat) : Int × List (Int) × Unit → Option (Bool × Unit)
  | (bits0, a1, _) =>
    (F51 N (bits0, ())).bind fun r236 =>
    bif r236.1 then (F46 N (a1, ())).bind fun r237 =>
      (F50 N (r237.1, ())).bind fun r238 =>
       bif r238.1 then (itN (n45_0 N (a1, ((a1.length : Int), (bits0, ())))) N ((0 : Int), ())).bind fun r239 =>
         bif r239.isLeft then r239.getLeft?.bind fun r240 =>
           some ((!(decide (r240.1 ≥ (0 : Int)))), ())
          else r239.getRight?.bind fun r241 =>
           some ((!(decide ((-(1 : Int)) ≥ (0 : Int)))), ())
        else some (false, ())
     else some (false, ())
theorem t45 (N : Nat) : ∀ v, (fr drawR (mkB (C46 N) [(59, Try.f59), (52, Try.f52), (62, Try.f62), (61, Try.f61), (66, Try.f66)] [(66, [(0, g45_0 N)])] [] []) 8 45 Try.f45 (instA [.c (.int .i64), .c (.ls 2)] v)).k (matR [.c (.bool)]) = F45 N v := by
  rintro ⟨bits0, a1, _⟩; kernel_rfl
noncomputable def C45 (N : Nat) : CL SS := (45, conG [.c (.int .i64), .c (.ls 2)] [.c (.bool)] (F45 N)) :: C46 N
theorem KC45 (N : Nat) : COk QQ (C45 N) := COk.cons (conP LL DR_ok (KC46 N) (F := [(59, Try.f59), (52, Try.f52), (62, Try.f62), (61, Try.f61), (66, Try.f66)]) (J := [(66, [(0, g45_0 N)])]) (FGood.cons i59 (JGood.nil c59) (FGood.cons i52 (JGood.nil c52) (FGood.cons i62 (JGood.nil c62) (FGood.cons i61 (JGood.nil c61) (FGood.cons i66 (JGood.cons i66.hd (o45_0 N) (JGood.nil c66)) (FGood.nil _)))))) (M := []) (R := []) i45 (JGood.nil c45) (t45 N)) (KC46 N)
noncomputable def c48 : Code := Try.f48.body.getD .skip
theorem i48 : IsF Try.prog 48 Try.f48 c48 := ⟨Try.func48, by kernel_rfl, by kernel_rfl, by kernel_rfl⟩
noncomputable def c60 : Code := Try.f60.body.getD .skip
theorem i60 : IsF Try.prog 60 Try.f60 c60 := ⟨Try.func60, by kernel_rfl, by kernel_rfl, by kernel_rfl⟩
-- slices.IndexFunc[[]int64,int64]: loop 0
def d48_0 : LoopD := ⟨144, ⟨[(0, .c (.rd 2 [(0, 0)])), (1, .c (.fn 62 [49])), (7, .c (.int .i64))], [(0, 0, .ext), (49, 49, .var 57 [.fn 60 []])], 19⟩, ⟨[(8, .c (.int .i64))], [], 152⟩, [], [0, 49], [⟨.ret, ⟨[(4, .c (.int .i64))], [], 152⟩, [], [0, 49]⟩, ⟨.norm, ⟨[], [], 152⟩, [], [0, 49]⟩]⟩
def n48_0 (N : Nat) : List (Int) × Int × Unit → (Int × Unit → Option ((Int × Unit) ⊕ (Unit))) → Int × Unit → Option ((Int × Unit) ⊕ (Unit))
  | (s0, t7, _), rec, (t8, _) =>
    bif (decide (t8 < t7)) then bif (decide ((0 : Int) ≤ t8)) then bif (decide (t8 < (s0.length : Int))) then bif (decide ((gt s0 t8) = (0 : Int))) then rec ((IntKind.wrap .i64 (t8 + (1 : Int))), ())
       else bif (!(decide ((gt s0 t8) = (1 : Int)))) then some (.inl (t8, ()))
        else rec ((IntKind.wrap .i64 (t8 + (1 : Int))), ())
      else none
     else none
    else some (.inr ())
theorem s48_0 (N : Nat) : ∀ σ p rec v, stepL (rn drawR (mkB (C45 N) [(52, Try.f52), (62, Try.f62), (61, Try.f61), (66, Try.f66), (60, Try.f60)] [] [] []) 8 66 b66_0) 0 (wr b66_0) d48_0 (instP σ d48_0.pm p) rec v = n48_0 N p rec v := by
  rintro σ ⟨s0, t7, _⟩ rec ⟨t8, _⟩; kernel_rfl
noncomputable def g48_0 (N : Nat) : St (Sig.T SS) → Tr (Ex × St (Sig.T SS)) := orcL (wr b66_0) d48_0 fun p => itN (n48_0 N p) N
theorem o48_0 (N : Nat) : Snd QQ (g48_0 N) (.block 0 (blkOf 0 (blks c66))) := loopP LL DR_ok (KC45 N) (F := [(52, Try.f52), (62, Try.f62), (61, Try.f61), (66, Try.f66), (60, Try.f60)]) (J := []) (FGood.cons i52 (JGood.nil c52) (FGood.cons i62 (JGood.nil c62) (FGood.cons i61 (JGood.nil c61) (FGood.cons i66 (JGood.nil c66) (FGood.cons i60 (JGood.nil c60) (FGood.nil _)))))) (M := []) (R := []) i66 (JGood.nil c66) e66_0 (s48_0 N) N
/-- loop.example/g01139/impl.IsMask -/
def F48 (N : Nat) : List (Int) × Unit → Option (Bool × Unit)
  | (mask0, _) =>
    (F46 N (mask0, ())).bind fun r244 =>
    (F50 N (r244.1, ())).bind fun r245 =>
     bif r245.1 then (itN (n48_0 N (mask0, ((mask0.length : Int), ()))) N ((0 : Int), ())).bind fun r246 =>
       bif r246.isLeft then r246.getLeft?.bind fun r247 =>
         some ((!(decide (r247.1 ≥ (0 : Int)))), ())
        else r246.getRight?.bind fun r248 =>
         some ((!(decide ((-(1 : Int)) ≥ (0 : Int)))), ())
      else some (false, ())
theorem t48 (N : Nat) : ∀ v, (fr drawR (mkB (C45 N) [(52, Try.f52), (62, Try.f62), (61, Try.f61), (66, Try.f66), (60, Try.f60)] [(66, [(0, g48_0 N)])] [] []) 8 48 Try.f48 (instA [.c (.ls 2)] v)).k (matR [.c (.bool)]) = F48 N v := by
  rintro ⟨mask0, _⟩; kernel_rfl
noncomputable def C48 (N : Nat) : CL SS := (48, conG [.c (.ls 2)] [.c (.bool)] (F48 N)) :: C45 N
theorem KC48 (N : Nat) : COk QQ (C48 N) := COk.cons (conP LL DR_ok (KC45 N) (F := [(52, Try.f52), (62, Try.f62), (61, Try.f61), (66, Try.f66), (60, Try.f60)]) (J := [(66, [(0, g48_0 N)])]) (FGood.cons i52 (JGood.nil c52) (FGood.cons i62 (JGood.nil c62) (FGood.cons i61 (JGood.nil c61) (FGood.cons i66 (JGood.cons i66.hd (o48_0 N) (JGood.nil c66)) (FGood.cons i60 (JGood.nil c60) (FGood.nil _)))))) (M := []) (R := []) i48 (JGood.nil c48) (t48 N)) (KC45 N)
noncomputable def c25 : Code := Try.f25.body.getD .skip
theorem i25 : IsF Try.prog 25 Try.f25 c25 := ⟨Try.func25, by kernel_rfl, by kernel_rfl, by kernel_rfl⟩
noncomputable def c44 : Code := Try.f44.body.getD .skip
theorem i44 : IsF Try.prog 44 Try.f44 c44 := ⟨Try.func44, by kernel_rfl, by kernel_rfl, by kernel_rfl⟩
noncomputable def c43 : Code := Try.f43.body.getD .skip
theorem i43 : IsF Try.prog 43 Try.f43 c43 := ⟨Try.func43, by kernel_rfl, by kernel_rfl, by kernel_rfl⟩
noncomputable def c58 : Code := Try.f58.body.getD .skip
theorem i58 : IsF Try.prog 58 Try.f58 c58 := ⟨Try.func58, by kernel_rfl, by kernel_rfl, by kernel_rfl⟩
noncomputable def c57 : Code := Try.f57.body.getD .skip
theorem i57 : IsF Try.prog 57 Try.f57 c57 := ⟨Try.func57, by kernel_rfl, by kernel_rfl, by kernel_rfl⟩
noncomputable def c65 : Code := Try.f65.body.getD .skip
theorem i65 : IsF Try.prog 65 Try.f65 c65 := ⟨Try.func65, by kernel_rfl, by kernel_rfl, by kernel_rfl⟩
noncomputable def c47 : Code := Try.f47.body.getD .skip
theorem i47 : IsF Try.prog 47 Try.f47 c47 := ⟨Try.func47, by kernel_rfl, by kernel_rfl, by kernel_rfl⟩
noncomputable def b65_0 : Code := unLoop (blkOf 0 (blks c65))
theorem e65_0 : blkOf 0 (blks c65) = .loop b65_0 := by kernel_rfl
-- slices.IndexFunc[[][]int64,[]int64]: loop 0
def d25_0 : LoopD := ⟨312, ⟨[(0, .c (.rd 25 [(0, 0)])), (1, .c (.fn 58 [217])), (7, .c (.int .i64))], [(0, 0, .ext), (217, 217, .var 73 [.fn 44 [1]]), (1, 1, .var 23 [.int .i64, .int .i64])], 19⟩, ⟨[(8, .c (.int .i64))], [], 320⟩, [], [0, 217, 1], [⟨.ret, ⟨[(4, .c (.int .i64))], [], 320⟩, [], [0, 217, 1]⟩, ⟨.norm, ⟨[], [], 320⟩, [], [0, 217, 1]⟩]⟩
def n25_0 (N : Nat) : List (List (Int)) × Int × Int × Int × Unit → (Int × Unit → Option ((Int × Unit) ⊕ (Unit))) → Int × Unit → Option ((Int × Unit) ⊕ (Unit))
  | (s0, t7, p1, p1c1, _), rec, (t8, _) =>
    bif (decide (t8 < t7)) then bif (decide ((0 : Int) ≤ t8)) then bif (decide (t8 < (s0.length : Int))) then (F45 N (p1c1, ((gt s0 t8), ()))).bind fun r251 =>
       bif r251.1 then (F46 N ((gt s0 t8), ())).bind fun r252 =>
         bif (!(decide (r252.1 = p1))) then some (.inl (t8, ()))
          else rec ((IntKind.wrap .i64 (t8 + (1 : Int))), ())
        else some (.inl (t8, ()))
      else none
     else none
    else some (.inr ())
theorem s25_0 (N : Nat) : ∀ σ p rec v, stepL (rn drawR (mkB (C48 N) [(44, Try.f44), (43, Try.f43), (58, Try.f58), (57, Try.f57), (65, Try.f65), (47, Try.f47)] [] [] []) 8 65 b65_0) 0 (wr b65_0) d25_0 (instP σ d25_0.pm p) rec v = n25_0 N p rec v := by
  rintro σ ⟨s0, t7, p1, p1c1, _⟩ rec ⟨t8, _⟩; kernel_rfl
noncomputable def g25_0 (N : Nat) : St (Sig.T SS) → Tr (Ex × St (Sig.T SS)) := orcL (wr b65_0) d25_0 fun p => itN (n25_0 N p) N
theorem o25_0 (N : Nat) : Snd QQ (g25_0 N) (.block 0 (blkOf 0 (blks c65))) := loopP LL DR_ok (KC48 N) (F := [(44, Try.f44), (43, Try.f43), (58, Try.f58), (57, Try.f57), (65, Try.f65), (47, Try.f47)]) (J := []) (FGood.cons i44 (JGood.nil c44) (FGood.cons i43 (JGood.nil c43) (FGood.cons i58 (JGood.nil c58) (FGood.cons i57 (JGood.nil c57) (FGood.cons i65 (JGood.nil c65) (FGood.cons i47 (JGood.nil c47) (FGood.nil _))))))) (M := []) (R := []) i65 (JGood.nil c65) e65_0 (s25_0 N) N
-- slices.IndexFunc[[][]int64,[]int64]: loop 0
def d25_1 : LoopD := ⟨488, ⟨[(0, .c (.rd 25 [(0, 0)])), (1, .c (.fn 58 [392])), (7, .c (.int .i64))], [(0, 0, .ext), (392, 392, .var 73 [.fn 47 [1]]), (1, 1, .var 23 [.int .i64, .int .i64])], 19⟩, ⟨[(8, .c (.int .i64))], [], 496⟩, [], [0, 392, 1], [⟨.ret, ⟨[(4, .c (.int .i64))], [], 496⟩, [], [0, 392, 1]⟩, ⟨.norm, ⟨[], [], 496⟩, [], [0, 392, 1]⟩]⟩
def n25_1 (N : Nat) : List (List (Int)) × Int × Int × Int × Unit → (Int × Unit → Option ((Int × Unit) ⊕ (Unit))) → Int × Unit → Option ((Int × Unit) ⊕ (Unit))
  | (s0, t7, p1, p1c1, _), rec, (t8, _) =>
    bif (decide (t8 < t7)) then bif (decide ((0 : Int) ≤ t8)) then bif (decide (t8 < (s0.length : Int))) then (F48 N ((gt s0 t8), ())).bind fun r258 =>
       bif r258.1 then (F46 N ((gt s0 t8), ())).bind fun r259 =>
         bif (!(decide (r259.1 = p1))) then some (.inl (t8, ()))
          else rec ((IntKind.wrap .i64 (t8 + (1 : Int))), ())
        else some (.inl (t8, ()))
      else none
     else none
    else some (.inr ())
theorem s25_1 (N : Nat) : ∀ σ p rec v, stepL (rn drawR (mkB (C48 N) [(44, Try.f44), (43, Try.f43), (58, Try.f58), (57, Try.f57), (65, Try.f65), (47, Try.f47)] [(65, [(0, g25_0 N)])] [] []) 8 65 b65_0) 0 (wr b65_0) d25_1 (instP σ d25_1.pm p) rec v = n25_1 N p rec v := by
  rintro σ ⟨s0, t7, p1, p1c1, _⟩ rec ⟨t8, _⟩; kernel_rfl
noncomputable def g25_1 (N : Nat) : St (Sig.T SS) → Tr (Ex × St (Sig.T SS)) := orcL (wr b65_0) d25_1 fun p => itN (n25_1 N p) N
theorem o25_1 (N : Nat) : Snd QQ (g25_1 N) (.block 0 (blkOf 0 (blks c65))) := loopP LL DR_ok (KC48 N) (F := [(44, Try.f44), (43, Try.f43), (58, Try.f58), (57, Try.f57), (65, Try.f65), (47, Try.f47)]) (J := [(65, [(0, g25_0 N)])]) (FGood.cons i44 (JGood.nil c44) (FGood.cons i43 (JGood.nil c43) (FGood.cons i58 (JGood.nil c58) (FGood.cons i57 (JGood.nil c57) (FGood.cons i65 (JGood.cons i65.hd (o25_0 N) (JGood.nil c65)) (FGood.cons i47 (JGood.nil c47) (FGood.nil _))))))) (M := []) (R := []) i65 (JGood.cons i65.hd (o25_0 N) (JGood.nil c65)) e65_0 (s25_1 N) N
-- slices.IndexFunc[[][]int64,[]int64]: loop 0
def d25_2 : LoopD := ⟨496, ⟨[(0, .c (.rd 25 [(0, 0)])), (1, .c (.fn 58 [400])), (7, .c (.int .i64))], [(0, 0, .ext), (400, 400, .var 73 [.fn 47 [1]]), (1, 1, .var 23 [.int .i64, .int .i64])], 19⟩, ⟨[(8, .c (.int .i64))], [], 504⟩, [], [0, 400, 1], [⟨.ret, ⟨[(4, .c (.int .i64))], [], 504⟩, [], [0, 400, 1]⟩, ⟨.norm, ⟨[], [], 504⟩, [], [0, 400, 1]⟩]⟩
def n25_2 (N : Nat) : List (List (Int)) × Int × Int × Int × Unit → (Int × Unit → Option ((Int × Unit) ⊕ (Unit))) → Int × Unit → Option ((Int × Unit) ⊕ (Unit))
  | (s0, t7, p1, p1c1, _), rec, (t8, _) =>
    bif (decide (t8 < t7)) then bif (decide ((0 : Int) ≤ t8)) then bif (decide (t8 < (s0.length : Int))) then (F48 N ((gt s0 t8), ())).bind fun r268 =>
       bif r268.1 then (F46 N ((gt s0 t8), ())).bind fun r269 =>
         bif (!(decide (r269.1 = p1))) then some (.inl (t8, ()))
          else rec ((IntKind.wrap .i64 (t8 + (1 : Int))), ())
        else some (.inl (t8, ()))
      else none
     else none
    else some (.inr ())
theorem s25_2 (N : Nat) : ∀ σ p rec v, stepL (rn drawR (mkB (C48 N) [(44, Try.f44), (43, Try.f43), (58, Try.f58), (57, Try.f57), (65, Try.f65), (47, Try.f47)] [(65, [(0, altO d25_0 (g25_0 N) (g25_1 N))])] [] []) 8 65 b65_0) 0 (wr b65_0) d25_2 (instP σ d25_2.pm p) rec v = n25_2 N p rec v := by
  rintro σ ⟨s0, t7, p1, p1c1, _⟩ rec ⟨t8, _⟩; kernel_rfl
noncomputable def g25_2 (N : Nat) : St (Sig.T SS) → Tr (Ex × St (Sig.T SS)) := orcL (wr b65_0) d25_2 fun p => itN (n25_2 N p) N
theorem o25_2 (N : Nat) : Snd QQ (g25_2 N) (.block 0 (blkOf 0 (blks c65))) := loopP LL DR_ok (KC48 N) (F := [(44, Try.f44), (43, Try.f43), (58, Try.f58), (57, Try.f57), (65, Try.f65), (47, Try.f47)]) (J := [(65, [(0, altO d25_0 (g25_0 N) (g25_1 N))])]) (FGood.cons i44 (JGood.nil c44) (FGood.cons i43 (JGood.nil c43) (FGood.cons i58 (JGood.nil c58) (FGood.cons i57 (JGood.nil c57) (FGood.cons i65 (JGood.cons i65.hd (alt_ok (o25_0 N) (o25_1 N)) (JGood.nil c65)) (FGood.cons i47 (JGood.nil c47) (FGood.nil _))))))) (M := []) (R := []) i65 (JGood.cons i65.hd (alt_ok (o25_0 N) (o25_1 N)) (JGood.nil c65)) e65_0 (s25_2 N) N
/-- loop.example/g01139/impl.ValidState -/
def F25 (N : Nat) : Int × Int × List (List (Int)) × List (List (Int)) × List (Int) × Unit → Option (Bool × Unit)
  | (m0c0, m0c1, s1c0, s1c1, s1c2, _) =>
    (F28 N (m0c0, (m0c1, ()))).bind fun r270 =>
    bif r270.1 then bif (decide ((s1c0.length : Int) = (8 : Int))) then bif (decide ((s1c1.length : Int) = (4 : Int))) then (F29 N (m0c0, (m0c1, (s1c2, ())))).bind fun r271 =>
        bif r271.1 then (itN (n25_0 N (s1c0, ((s1c0.length : Int), (m0c0, (m0c1, ()))))) N ((0 : Int), ())).bind fun r272 =>
          bif r272.isLeft then r272.getLeft?.bind fun r273 =>
            bif (!(decide (r273.1 ≥ (0 : Int)))) then (itN (n25_1 N (s1c1, ((s1c1.length : Int), (m0c0, (m0c1, ()))))) N ((0 : Int), ())).bind fun r274 =>
              bif r274.isLeft then r274.getLeft?.bind fun r275 =>
                some ((!(decide (r275.1 ≥ (0 : Int)))), ())
               else r274.getRight?.bind fun r276 =>
                some ((!(decide ((-(1 : Int)) ≥ (0 : Int)))), ())
             else some (false, ())
           else r272.getRight?.bind fun r277 =>
            (itN (n25_2 N (s1c1, ((s1c1.length : Int), (m0c0, (m0c1, ()))))) N ((0 : Int), ())).bind fun r278 =>
             bif r278.isLeft then r278.getLeft?.bind fun r279 =>
               some ((!(decide (r279.1 ≥ (0 : Int)))), ())
              else r278.getRight?.bind fun r280 =>
               some ((!(decide ((-(1 : Int)) ≥ (0 : Int)))), ())
         else some (false, ())
       else some (false, ())
      else some (false, ())
     else some (false, ())
theorem t25 (N : Nat) : ∀ v, (fr drawR (mkB (C48 N) [(44, Try.f44), (43, Try.f43), (58, Try.f58), (57, Try.f57), (65, Try.f65), (47, Try.f47)] [(65, [(0, altO d25_0 (g25_0 N) (altO d25_1 (g25_1 N) (g25_2 N)))])] [] []) 8 25 Try.f25 (instA [.agg [.int .i64, .int .i64], .agg [.ls 25, .ls 25, .ls 2]] v)).k (matR [.c (.bool)]) = F25 N v := by
  rintro ⟨m0c0, m0c1, s1c0, s1c1, s1c2, _⟩; kernel_rfl
noncomputable def C25 (N : Nat) : CL SS := (25, conG [.agg [.int .i64, .int .i64], .agg [.ls 25, .ls 25, .ls 2]] [.c (.bool)] (F25 N)) :: C48 N
theorem KC25 (N : Nat) : COk QQ (C25 N) := COk.cons (conP LL DR_ok (KC48 N) (F := [(44, Try.f44), (43, Try.f43), (58, Try.f58), (57, Try.f57), (65, Try.f65), (47, Try.f47)]) (J := [(65, [(0, altO d25_0 (g25_0 N) (altO d25_1 (g25_1 N) (g25_2 N)))])]) (FGood.cons i44 (JGood.nil c44) (FGood.cons i43 (JGood.nil c43) (FGood.cons i58 (JGood.nil c58) (FGood.cons i57 (JGood.nil c57) (FGood.cons i65 (JGood.cons i65.hd (alt_ok (o25_0 N) (alt_ok (o25_1 N) (o25_2 N))) (JGood.nil c65)) (FGood.cons i47 (JGood.nil c47) (FGood.nil _))))))) (M := []) (R := []) i25 (JGood.nil c25) (t25 N)) (KC48 N)
noncomputable def c13 : Code := Try.f13.body.getD .skip
theorem i13 : IsF Try.prog 13 Try.f13 c13 := ⟨Try.func13, by kernel_rfl, by kernel_rfl, by kernel_rfl⟩
/-- loop.example/g01139/impl.ValidConsole -/
def F13 (N : Nat) : Int × Int × List (List (Int)) × List (List (Int)) × List (Int) × Unit → Option (Bool × Unit)
  | (c0c0, c0c1, c0c2, c0c3, c0c4, _) =>
    (F25 N (c0c0, (c0c1, (c0c2, (c0c3, (c0c4, ())))))).bind fun r281 =>
    some (r281.1, ())
theorem t13 (N : Nat) : ∀ v, (fr drawR (mkB (C25 N) [] [] [] []) 8 13 Try.f13 (instA [.agg [.int .i64, .int .i64, .ls 25, .ls 25, .ls 2]] v)).k (matR [.c (.bool)]) = F13 N v := by
  rintro ⟨c0c0, c0c1, c0c2, c0c3, c0c4, _⟩; kernel_rfl
noncomputable def C13 (N : Nat) : CL SS := (13, conG [.agg [.int .i64, .int .i64, .ls 25, .ls 25, .ls 2]] [.c (.bool)] (F13 N)) :: C25 N
theorem KC13 (N : Nat) : COk QQ (C13 N) := COk.cons (conP LL DR_ok (KC25 N) (F := []) (J := []) (FGood.nil _) (M := []) (R := []) i13 (JGood.nil c13) (t13 N)) (KC25 N)
noncomputable def c17 : Code := Try.f17.body.getD .skip
theorem i17 : IsF Try.prog 17 Try.f17 c17 := ⟨Try.func17, by kernel_rfl, by kernel_rfl, by kernel_rfl⟩
/-- loop.example/g01139/laws.eqMachine -/
def F17 (N : Nat) : Int × Int × Int × Int × Unit → Option (Bool × Unit)
  | (a0c0, a0c1, b1c0, b1c1, _) =>
    bif (!(decide (a0c0 = b1c0))) then some (false, ())
    else bif (!(decide (a0c1 = b1c1))) then some (false, ())
     else some (true, ())
theorem t17 (N : Nat) : ∀ v, (fr drawR (mkB (C13 N) [] [] [] []) 8 17 Try.f17 (instA [.agg [.int .i64, .int .i64], .agg [.int .i64, .int .i64]] v)).k (matR [.c (.bool)]) = F17 N v := by
  rintro ⟨a0c0, a0c1, b1c0, b1c1, _⟩; kernel_rfl
noncomputable def C17 (N : Nat) : CL SS := (17, conG [.agg [.int .i64, .int .i64], .agg [.int .i64, .int .i64]] [.c (.bool)] (F17 N)) :: C13 N
theorem KC17 (N : Nat) : COk QQ (C17 N) := COk.cons (conP LL DR_ok (KC13 N) (F := []) (J := []) (FGood.nil _) (M := []) (R := []) i17 (JGood.nil c17) (t17 N)) (KC13 N)
noncomputable def c33 : Code := Try.f33.body.getD .skip
theorem i33 : IsF Try.prog 33 Try.f33 c33 := ⟨Try.func33, by kernel_rfl, by kernel_rfl, by kernel_rfl⟩
noncomputable def b33_0 : Code := unLoop (blkOf 0 (blks c33))
theorem e33_0 : blkOf 0 (blks c33) = .loop b33_0 := by kernel_rfl
-- loop.example/g01139/laws.eqInt64S: loop 0
def d33_0 : LoopD := ⟨64, ⟨[(0, .c (.rd 2 [(0, 0)])), (1, .c (.rd 2 [(0, 0)]))], [(0, 0, .ext)], 26⟩, ⟨[(5, .c (.int .i64))], [], 72⟩, [], [0], [⟨.ret, ⟨[(4, .c (.bool))], [], 72⟩, [], [0]⟩, ⟨.norm, ⟨[], [], 72⟩, [], [0]⟩]⟩
def n33_0 (N : Nat) : List (Int) × List (Int) × Unit → (Int × Unit → Option ((Bool × Unit) ⊕ (Unit))) → Int × Unit → Option ((Bool × Unit) ⊕ (Unit))
  | (a0, b1, _), rec, (i5, _) =>
    bif (decide (i5 < (a0.length : Int))) then bif (decide ((0 : Int) ≤ i5)) then bif (decide (i5 < (a0.length : Int))) then bif (decide ((0 : Int) ≤ i5)) then bif (decide (i5 < (b1.length : Int))) then bif (!(decide ((gt a0 i5) = (gt b1 i5)))) then some (.inl (false, ()))
         else rec ((IntKind.wrap .i64 (i5 + (1 : Int))), ())
        else none
       else none
      else none
     else none
    else some (.inr ())
theorem s33_0 (N : Nat) : ∀ σ p rec v, stepL (rn drawR (mkB (C17 N) [] [] [] []) 8 33 b33_0) 0 (wr b33_0) d33_0 (instP σ d33_0.pm p) rec v = n33_0 N p rec v := by
  rintro σ ⟨a0, b1, _⟩ rec ⟨i5, _⟩; kernel_rfl
noncomputable def g33_0 (N : Nat) : St (Sig.T SS) → Tr (Ex × St (Sig.T SS)) := orcL (wr b33_0) d33_0 fun p => itN (n33_0 N p) N
theorem o33_0 (N : Nat) : Snd QQ (g33_0 N) (.block 0 (blkOf 0 (blks c33))) := loopP LL DR_ok (KC17 N) (F := []) (J := []) (FGood.nil _) (M := []) (R := []) i33 (JGood.nil c33) e33_0 (s33_0 N) N
/-- loop.example/g01139/laws.eqInt64S -/
def F33 (N : Nat) : List (Int) × List (Int) × Unit → Option (Bool × Unit)
  | (a0, b1, _) =>
    bif (!(decide ((a0.length : Int) = (b1.length : Int)))) then some (false, ())
    else (itN (n33_0 N (a0, (b1, ()))) N ((0 : Int), ())).bind fun r282 =>
     bif r282.isLeft then r282.getLeft?.bind fun r283 =>
       some (r283.1, ())
      else r282.getRight?.bind fun r284 =>
       some (true, ())
theorem t33 (N : Nat) : ∀ v, (fr drawR (mkB (C17 N) [] [(33, [(0, g33_0 N)])] [] []) 8 33 Try.f33 (instA [.c (.ls 2), .c (.ls 2)] v)).k (matR [.c (.bool)]) = F33 N v := by
  rintro ⟨a0, b1, _⟩; kernel_rfl
noncomputable def C33 (N : Nat) : CL SS := (33, conG [.c (.ls 2), .c (.ls 2)] [.c (.bool)] (F33 N)) :: C17 N
theorem KC33 (N : Nat) : COk QQ (C33 N) := COk.cons (conP LL DR_ok (KC17 N) (F := []) (J := [(33, [(0, g33_0 N)])]) (FGood.nil _) (M := []) (R := []) i33 (JGood.cons i33.hd (o33_0 N) (JGood.nil c33)) (t33 N)) (KC17 N)
noncomputable def c32 : Code := Try.f32.body.getD .skip
theorem i32 : IsF Try.prog 32 Try.f32 c32 := ⟨Try.func32, by kernel_rfl, by kernel_rfl, by kernel_rfl⟩
noncomputable def b32_0 : Code := unLoop (blkOf 0 (blks c32))
theorem e32_0 : blkOf 0 (blks c32) = .loop b32_0 := by kernel_rfl
-- loop.example/g01139/laws.eqInt64SS: loop 0
def d32_0 : LoopD := ⟨64, ⟨[(0, .c (.rd 25 [(0, 0)])), (1, .c (.rd 25 [(0, 0)]))], [(0, 0, .ext)], 27⟩, ⟨[(5, .c (.int .i64))], [], 72⟩, [], [0], [⟨.ret, ⟨[(4, .c (.bool))], [], 72⟩, [], [0]⟩, ⟨.norm, ⟨[], [], 72⟩, [], [0]⟩]⟩
def n32_0 (N : Nat) : List (List (Int)) × List (List (Int)) × Unit → (Int × Unit → Option ((Bool × Unit) ⊕ (Unit))) → Int × Unit → Option ((Bool × Unit) ⊕ (Unit))
  | (a0, b1, _), rec, (i5, _) =>
    bif (decide (i5 < (a0.length : Int))) then bif (decide ((0 : Int) ≤ i5)) then bif (decide (i5 < (a0.length : Int))) then bif (decide ((0 : Int) ≤ i5)) then bif (decide (i5 < (b1.length : Int))) then (F33 N ((gt a0 i5), ((gt b1 i5), ()))).bind fun r285 =>
         bif (!r285.1) then some (.inl (false, ()))
          else rec ((IntKind.wrap .i64 (i5 + (1 : Int))), ())
        else none
       else none
      else none
     else none
    else some (.inr ())
theorem s32_0 (N : Nat) : ∀ σ p rec v, stepL (rn drawR (mkB (C33 N) [] [] [] []) 8 32 b32_0) 0 (wr b32_0) d32_0 (instP σ d32_0.pm p) rec v = n32_0 N p rec v := by
  rintro σ ⟨a0, b1, _⟩ rec ⟨i5, _⟩; kernel_rfl
noncomputable def g32_0 (N : Nat) : St (Sig.T SS) → Tr (Ex × St (Sig.T SS)) := orcL (wr b32_0) d32_0 fun p => itN (n32_0 N p) N
theorem o32_0 (N : Nat) : Snd QQ (g32_0 N) (.block 0 (blkOf 0 (blks c32))) := loopP LL DR_ok (KC33 N) (F := []) (J := []) (FGood.nil _) (M := []) (R := []) i32 (JGood.nil c32) e32_0 (s32_0 N) N
/-- loop.example/g01139/laws.eqInt64SS -/
def F32 (N : Nat) : List (List (Int)) × List (List (Int)) × Unit → Option (Bool × Unit)
  | (a0, b1, _) =>
    bif (!(decide ((a0.length : Int) = (b1.length : Int)))) then some (false, ())
    else (itN (n32_0 N (a0, (b1, ()))) N ((0 : Int), ())).bind fun r286 =>
     bif r286.isLeft then r286.getLeft?.bind fun r287 =>
       some (r287.1, ())
      else r286.getRight?.bind fun r288 =>
       some (true, ())
theorem t32 (N : Nat) : ∀ v, (fr drawR (mkB (C33 N) [] [(32, [(0, g32_0 N)])] [] []) 8 32 Try.f32 (instA [.c (.ls 25), .c (.ls 25)] v)).k (matR [.c (.bool)]) = F32 N v := by
  rintro ⟨a0, b1, _⟩; kernel_rfl
noncomputable def C32 (N : Nat) : CL SS := (32, conG [.c (.ls 25), .c (.ls 25)] [.c (.bool)] (F32 N)) :: C33 N
theorem KC32 (N : Nat) : COk QQ (C32 N) := COk.cons (conP LL DR_ok (KC33 N) (F := []) (J := [(32, [(0, g32_0 N)])]) (FGood.nil _) (M := []) (R := []) i32 (JGood.cons i32.hd (o32_0 N) (JGood.nil c32)) (t32 N)) (KC33 N)
noncomputable def c18 : Code := Try.f18.body.getD .skip
theorem i18 : IsF Try.prog 18 Try.f18 c18 := ⟨Try.func18, by kernel_rfl, by kernel_rfl, by kernel_rfl⟩
/-- loop.example/g01139/laws.eqState -/
def F18 (N : Nat) : List (List (Int)) × List (List (Int)) × List (Int) × List (List (Int)) × List (List (Int)) × List (Int) × Unit → Option (Bool × Unit)
  | (a0c0, a0c1, a0c2, b1c0, b1c1, b1c2, _) =>
    (F32 N (a0c0, (b1c0, ()))).bind fun r289 =>
    bif (!r289.1) then some (false, ())
     else (F32 N (a0c1, (b1c1, ()))).bind fun r290 =>
      bif (!r290.1) then some (false, ())
       else (F33 N (a0c2, (b1c2, ()))).bind fun r291 =>
        bif (!r291.1) then some (false, ())
         else some (true, ())
theorem t18 (N : Nat) : ∀ v, (fr drawR (mkB (C32 N) [] [] [] []) 8 18 Try.f18 (instA [.agg [.ls 25, .ls 25, .ls 2], .agg [.ls 25, .ls 25, .ls 2]] v)).k (matR [.c (.bool)]) = F18 N v := by
  rintro ⟨a0c0, a0c1, a0c2, b1c0, b1c1, b1c2, _⟩; kernel_rfl
noncomputable def C18 (N : Nat) : CL SS := (18, conG [.agg [.ls 25, .ls 25, .ls 2], .agg [.ls 25, .ls 25, .ls 2]] [.c (.bool)] (F18 N)) :: C32 N
theorem KC18 (N : Nat) : COk QQ (C18 N) := COk.cons (conP LL DR_ok (KC32 N) (F := []) (J := []) (FGood.nil _) (M := []) (R := []) i18 (JGood.nil c18) (t18 N)) (KC32 N)
noncomputable def c7 : Code := Try.f7.body.getD .skip
theorem i7 : IsF Try.prog 7 Try.f7 c7 := ⟨Try.func7, by kernel_rfl, by kernel_rfl, by kernel_rfl⟩
/-- loop.example/g01139/laws.eqConsole -/
def F7 (N : Nat) : Int × Int × List (List (Int)) × List (List (Int)) × List (Int) × Int × Int × List (List (Int)) × List (List (Int)) × List (Int) × Unit → Option (Bool × Unit)
  | (a0c0, a0c1, a0c2, a0c3, a0c4, b1c0, b1c1, b1c2, b1c3, b1c4, _) =>
    (F17 N (a0c0, (a0c1, (b1c0, (b1c1, ()))))).bind fun r292 =>
    bif (!r292.1) then some (false, ())
     else (F18 N (a0c2, (a0c3, (a0c4, (b1c2, (b1c3, (b1c4, ()))))))).bind fun r293 =>
      bif (!r293.1) then some (false, ())
       else some (true, ())
theorem t7 (N : Nat) : ∀ v, (fr drawR (mkB (C18 N) [] [] [] []) 8 7 Try.f7 (instA [.agg [.int .i64, .int .i64, .ls 25, .ls 25, .ls 2], .agg [.int .i64, .int .i64, .ls 25, .ls 25, .ls 2]] v)).k (matR [.c (.bool)]) = F7 N v := by
  rintro ⟨a0c0, a0c1, a0c2, a0c3, a0c4, b1c0, b1c1, b1c2, b1c3, b1c4, _⟩; kernel_rfl
noncomputable def C7 (N : Nat) : CL SS := (7, conG [.agg [.int .i64, .int .i64, .ls 25, .ls 25, .ls 2], .agg [.int .i64, .int .i64, .ls 25, .ls 25, .ls 2]] [.c (.bool)] (F7 N)) :: C18 N
theorem KC7 (N : Nat) : COk QQ (C7 N) := COk.cons (conP LL DR_ok (KC18 N) (F := []) (J := []) (FGood.nil _) (M := []) (R := []) i7 (JGood.nil c7) (t7 N)) (KC18 N)
noncomputable def c4 : Code := Try.f4.body.getD .skip
theorem i4 : IsF Try.prog 4 Try.f4 c4 := ⟨Try.func4, by kernel_rfl, by kernel_rfl, by kernel_rfl⟩
/-- loop.example/g01139/laws.FnExactValidConsole -/
def F4 (N : Nat) : Int × Int × List (List (Int)) × List (List (Int)) × List (Int) × Unit → Option (Bool × Unit)
  | (aC0c0, aC0c1, aC0c2, aC0c3, aC0c4, _) =>
    (F10 N (aC0c0, (aC0c1, (aC0c2, (aC0c3, (aC0c4, ((1048576 : Int), ()))))))).bind fun r294 =>
    bif (decide (r294.1 < (0 : Int))) then some (true, ())
     else (F12 N (aC0c0, (aC0c1, (aC0c2, (aC0c3, (aC0c4, ())))))).bind fun r295 =>
      (F11 N (r295.1, (r295.2.1, (r295.2.2.1, (r295.2.2.2.1, (r295.2.2.2.2.1, ())))))).bind fun r296 =>
       (F12 N (aC0c0, (aC0c1, (aC0c2, (aC0c3, (aC0c4, ())))))).bind fun r297 =>
        (F13 N (r297.1, (r297.2.1, (r297.2.2.1, (r297.2.2.2.1, (r297.2.2.2.2.1, ())))))).bind fun r298 =>
         bif (!(r298.1 == r296.1)) then some (false, ())
          else (F12 N (aC0c0, (aC0c1, (aC0c2, (aC0c3, (aC0c4, ())))))).bind fun r299 =>
           (F7 N (r297.1, (r297.2.1, (r297.2.2.1, (r297.2.2.2.1, (r297.2.2.2.2.1, (r299.1, (r299.2.1, (r299.2.2.1, (r299.2.2.2.1, (r299.2.2.2.2.1, ()))))))))))).bind fun r300 =>
            bif (!r300.1) then some (false, ())
             else some (true, ())
theorem t4 (N : Nat) : ∀ v, (fr drawR (mkB (C7 N) [] [] [] []) 8 4 Try.f4 (instA [.agg [.int .i64, .int .i64, .ls 25, .ls 25, .ls 2]] v)).k (matR [.c (.bool)]) = F4 N v := by
  rintro ⟨aC0c0, aC0c1, aC0c2, aC0c3, aC0c4, _⟩; kernel_rfl
noncomputable def C4 (N : Nat) : CL SS := (4, conG [.agg [.int .i64, .int .i64, .ls 25, .ls 25, .ls 2]] [.c (.bool)] (F4 N)) :: C7 N
theorem KC4 (N : Nat) : COk QQ (C4 N) := COk.cons (conP LL DR_ok (KC7 N) (F := []) (J := []) (FGood.nil _) (M := []) (R := []) i4 (JGood.nil c4) (t4 N)) (KC7 N)
end Go.Proofs.Ytdpggojdmabnkaa.E
