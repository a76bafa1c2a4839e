import Derived.Test.YtheemkehedmlfaaE13
set_option linter.unusedVariables false
set_option linter.unusedSimpArgs false
namespace Go.Proofs.Ytheemkehedmlfaa.E
open Go
def hasN (i : Nat) : List Nat → Bool
  | [] => false
  | j :: r => bif Nat.beq i j then true else hasN i r
def addN (l : List Nat) : List Nat → List Nat
  | [] => l
  | i :: r => bif hasN i l then addN l r else addN (l ++ [i]) r
def noDup : List Nat → Bool
  | [] => true
  | i :: r => !(hasN i r) && noDup r
def idx (i : Nat) : List Nat → Option Nat
  | [] => none
  | j :: r => bif Nat.beq i j then some 0 else (idx i r).map (· + 1)
def lookL.{u} {β : Type u} (i : Nat) : List (Nat × β) → Option β
  | [] => none
  | (j, x) :: r => bif Nat.beq i j then some x else lookL i r
def bitN (m s : Nat) : Bool := Nat.beq (Nat.land (Nat.shiftRight m s) 1) 1
def maskN : List Nat → Nat
  | [] => 0
  | i :: r => Nat.lor (Nat.shiftLeft 1 i) (maskN r)
inductive Ex where
  | norm | exit (id : Nat) | ret
def Ex.out : Ex → Exit
  | .norm => .normal | .exit id => .exit id | .ret => .ret
def Ex.eq : Ex → Ex → Bool
  | .norm, .norm => true
  | .exit i, .exit j => Nat.beq i j
  | .ret, .ret => true
  | _, _ => false
inductive TC where
  | int (k : IntKind) | bool | str | nil
  | rd (t : TypeId) (d : Dp) | row (i : Nat) | cut (i : Nat) | ptr (i off : Nat)
  | elt (i : Nat) (t : TypeId) (off : Nat) | elr (t : TypeId) (d : Dp) (off : Nat)
  | fn (f : FuncId) (caps : List Nat) | np | un | sub (i sv : Nat) | mp (i : Nat) | tail (i : Nat) (t : TypeId)
inductive TX where
  | c (x : TC) | agg (xs : List TC)
inductive TO where
  | dead | ext | var (t : TypeId) (cs : List TC) | row (t : TypeId) (d : Dp) | deep (t : TypeId) (c : Nat) (te : TypeId) (d : Dp) (sv : Nat) | mp (k : IntKind)
structure Tm where
  sl : List (Nat × TX)
  ob : List (Nat × TO)
  nx : Nat
section
variable (T : Tys)
def TC.env (c : TC) (R : Type) : Type := match c with
  | .int _ => Int × R | .bool => Bool × R | .str => ByteArray × R | .rd t _ => List (T t) × R | .cut _ => Int × R
  | .elt _ _ _ => Int × R | .elr t _ _ => T t × R | .sub _ _ => Int × R | .tail _ _ => Int × R | _ => R
def envC : List TC → Type → Type
  | [], R => R
  | c :: r, R => c.env T (envC r R)
def TX.env (c : TX) (R : Type) : Type := match c with
  | .c x => x.env T R | .agg xs => envC T xs R
def envS : List (Nat × TX) → Type → Type
  | [], R => R
  | p :: r, R => p.2.env T (envS r R)
def TO.env (c : TO) (R : Type) : Type := match c with
  | .var _ cs => envC T cs R | .row t _ => List (T t) × R | .deep t _ _ _ _ => List (T t) × R | .mp _ => List (Int × Bool) × R | _ => R
def envO : List (Nat × TO) → Type → Type
  | [], R => R
  | p :: r, R => p.2.env T (envO r R)
def Tm.env (tm : Tm) : Type := envS T tm.sl (envO T tm.ob Unit)
end
section
variable {T : Tys}
def instC {R : Type} : (c : TC) → c.env T R → SC T × R
  | .int k, v => (.int k v.1, v.2)
  | .bool, v => (.bool v.1, v.2)
  | .str, v => (.str v.1, v.2)
  | .nil, v => (.nil, v)
  | .rd t d, v => (.rd t d v.1, v.2)
  | .row i, v => (.row i, v)
  | .cut i, v => (.cut i v.1, v.2)
  | .ptr i o, v => (.ptr i o, v)
  | .elt i t o, v => (.elt i t v.1 o, v.2)
  | .elr t d o, v => (.elr t d v.1 o, v.2)
  | .fn f l, v => (.fn f l, v)
  | .np, v => (.np, v)
  | .un, v => (.un, v)
  | .sub i sv, v => (.sub i sv v.1, v.2)
  | .mp i, v => (.mp i, v)
  | .tail i t, v => (.tail i t v.1, v.2)
def instCs {R : Type} : (l : List TC) → envC T l R → List (SC T) × R
  | [], v => ([], v)
  | c :: r, v => match instC c v with | (x, v) => match instCs r v with | (xs, v) => (x :: xs, v)
def instX {R : Type} : (c : TX) → c.env T R → SX T × R
  | .c x, v => match instC x v with | (y, v) => (.v (.c y), v)
  | .agg xs, v => match instCs xs v with | (ys, v) => (.v (.agg ys), v)
def instS {R : Type} : (l : List (Nat × TX)) → envS T l R → List (Nat × SX T) × R
  | [], v => ([], v)
  | p :: r, v => match instX p.2 v with | (x, v) => match instS r v with | (xs, v) => ((p.1, x) :: xs, v)
def instO {R : Type} : (c : TO) → c.env T R → Option (SO T) × R
  | .dead, v => (none, v)
  | .ext, v => (some .ext, v)
  | .var t cs, v => match instCs cs v with | (xs, v) => (some (.var t xs), v)
  | .row t d, v => (some (.row t d v.1), v.2)
  | .deep t c te d sv, v => (some (.deep t c te d sv v.1 none), v.2)
  | .mp k, v => (some (.mp k v.1), v.2)
def instOs {R : Type} : (l : List (Nat × TO)) → envO T l R → List (Nat × Option (SO T)) × R
  | [], v => ([], v)
  | p :: r, v => match instO p.2 v with | (x, v) => match instOs r v with | (xs, v) => ((p.1, x) :: xs, v)
def keysM (l : List (Nat × TO)) : List Nat := l.map (·.1)
def inst (b W : Nat) (σ : St T) (tm : Tm) (v : tm.env T) : St T :=
  { sl := fun s => match lookL s (instS tm.sl v).1 with | some x => x | none => bif bitN W s then .v (.c .un) else σ.sl s,
    ob := fun a => match lookL a (instOs tm.ob (instS tm.sl v).2).1 with | some (some so) => some (b, so) | some none => none | none => σ.ob a, nx := tm.nx, n := σ.n, lg := [] }
def dpEq : Dp → Dp → Bool
  | [], [] => true
  | p :: d, q :: e => Nat.beq p.1 q.1 && Nat.beq p.2 q.2 && dpEq d e
  | _, _ => false
def nsEq : List Nat → List Nat → Bool
  | [], [] => true
  | p :: d, q :: e => Nat.beq p q && nsEq d e
  | _, _ => false
def matC {R : Type} : (c : TC) → SC T → R → Option (c.env T R)
  | .int k, .int k' n, r => bif kbeq k k' then some (n, r) else none
  | .bool, .bool b, r => some (b, r)
  | .str, .str s, r => some (s, r)
  | .nil, .nil, r => some r
  | .rd t d, .rd t' d' l, r => if h : t' = t then (bif dpEq d d' then some (h ▸ l, r) else none) else none
  | .row i, .row j, r => bif Nat.beq i j then some r else none
  | .cut i, .cut j n, r => bif Nat.beq i j then some (n, r) else none
  | .ptr i o, .ptr j o', r => bif Nat.beq i j && Nat.beq o o' then some r else none
  | .elt i t o, .elt j t' n o', r => bif Nat.beq i j && Nat.beq t t' && Nat.beq o o' then some (n, r) else none
  | .elr t d o, .elr t' d' x o', r => if h : t' = t then (bif dpEq d d' && Nat.beq o o' then some (h ▸ x, r) else none) else none
  | .fn f l, .fn f' l', r => bif Nat.beq f f' && nsEq l l' then some r else none
  | .np, .np, r => some r
  | .un, _, r => some r
  | .sub i sv, .sub j sv' n, r => bif Nat.beq i j && Nat.beq sv sv' then some (n, r) else none
  | .mp i, .mp j, r => bif Nat.beq i j then some r else none
  | .tail i t, .tail j t' n, r => bif Nat.beq i j && Nat.beq t t' then some (n, r) else none
  | _, _, _ => none
def matCs {R : Type} : (l : List TC) → List (SC T) → R → Option (envC T l R)
  | [], [], r => some r
  | c :: cs, x :: xs, r => (matCs cs xs r).bind fun r => matC c x r
  | _, _, _ => none
def matX {R : Type} : (c : TX) → SX T → R → Option (c.env T R)
  | .c x, .v (.c y), r => matC x y r
  | .agg xs, .v (.agg ys), r => matCs xs ys r
  | _, _, _ => none
def matO {R : Type} : (c : TO) → SO T → R → Option (c.env T R)
  | .ext, .ext, r => some r
  | .var t cs, .var t' xs, r => bif Nat.beq t t' then matCs cs xs r else none
  | .row t d, .row t' d' l, r => if h : t' = t then (bif dpEq d d' then some (h ▸ l, r) else none) else none
  | .deep t c te d sv, .deep t' c' te' d' sv' l none, r => if h : t' = t then (bif Nat.beq c c' && Nat.beq te te' && dpEq d d' && Nat.beq sv sv' then some (h ▸ l, r) else none) else none
  | .mp k, .mp k' l, r => bif kbeq k k' then some (l, r) else none
  | _, _, _ => none
end
structure TmP where
  sl : List (Nat × TX)
  ob : List (Nat × Nat × TO)
  n : Nat
def envQ (T : Tys) : List (Nat × Nat × TO) → Type → Type
  | [], R => R
  | p :: r, R => p.2.2.env T (envQ T r R)
def TmP.env (T : Tys) (tm : TmP) : Type := envS T tm.sl (envQ T tm.ob Unit)
def instQs {T : Tys} {R : Type} : (l : List (Nat × Nat × TO)) → envQ T l R → List (Nat × Option (Nat × SO T)) × R
  | [], v => ([], v)
  | p :: r, v => match instO p.2.2 v with | (x, v) => match instQs r v with | (xs, v) => ((p.1, x.map fun so => (p.2.1, so)) :: xs, v)
def instP {T : Tys} (σ : St T) (tm : TmP) (v : tm.env T) : St T :=
  { sl := fun s => match lookL s (instS tm.sl v).1 with | some x => x | none => σ.sl s,
    ob := fun a => match lookL a (instQs tm.ob (instS tm.sl v).2).1 with | some (some e) => some e | some none => none | none => σ.ob a, nx := σ.nx, n := tm.n, lg := σ.lg }
def noUnC : TC → Bool | .un => false | _ => true
def noUnX : TX → Bool | .c c => noUnC c | .agg cs => cs.all noUnC
def noUnO : TO → Bool | .var _ cs => cs.all noUnC | .dead => false | _ => true
def matPS {T : Tys} {R : Type} (σ : St T) : (l : List (Nat × TX)) → R → Option (envS T l R)
  | [], r => some r
  | (s, c) :: l, r => (matPS σ l r).bind fun r => bif noUnX c then matX c (σ.sl s) r else none
def matPO {T : Tys} {R : Type} (σ : St T) : (l : List (Nat × Nat × TO)) → R → Option (envQ T l R)
  | [], r => some r
  | (i, v, c) :: l, r => (matPO σ l r).bind fun r => match σ.ob i with | some (s, so) => bif Nat.beq s v && noUnO c then matO c so r else none | none => none
def matP {T : Tys} (tm : TmP) (σ : St T) : Option (tm.env T) := bif Nat.beq σ.n tm.n then (matPO σ tm.ob ()).bind fun r => matPS σ tm.sl r else none
section
variable {S : Sig}
def nilO (S : Sig) (t : TypeId) (fr : Nat) : SO S.T := match S.xc t with
  | some (c, te) => bif S.flat te then .deep t c te [] fr [] none else .row t [] []
  | none => .row t [] []
def cutD (i : Nat) (n : Int) (t : TypeId) (σ : St S.T) : Option (List (S.T t) × Dp × Nat × TypeId) :=
  match lookD i σ.ob with
  | some ⟨_, t', c, te, d, _, l, none⟩ => if h : t' = t then some ((h ▸ l).take n.toNat, d, c, te) else none
  | _ => none
def promX (t : TypeId) (x : SC S.T) (σ : St S.T) : Option (SO S.T × List Nat) :=
  match x with
  | .nil => some (nilO S t σ.nx, [])
  | .cut i n => match cutD i n t σ with
    | some (l, d, c, te) => bif valid σ.ob d && noId i d then some (.deep t c te d σ.nx l none, [i]) else none
    | none => (baseX σ.ob t (.cut i n)).bind fun p => bif valid σ.ob p.2 && noId i p.2 then some (.row t p.2 p.1, [i]) else none
  | _ => none
def isProm (x : SC S.T) : Bool := match x with | .nil => true | .cut _ _ => true | _ => false
def delsB {T : Tys} (l : List Nat) (ob : Ob T) : Ob T := match l with | [] => ob | i :: _ => delB i ob
def cellK (n : Nat) : Option (Nat × Nat) := bif Nat.ble 1048576 n then some ((n - 1048576) / 64, (n - 1048576) % 64) else none
def promote (k : Nat × Option TypeId) (σ : St S.T) : Option (St S.T) :=
  match k.2 with
  | none => some σ
  | some t => match cellK k.1 with
    | none => match σ.get k.1 with
      | .v (.c x) => bif isProm x then (promX t x σ).map fun p => { σ.put k.1 (.v (.c (.row σ.nx))) with ob := putB σ.nx (σ.nx, p.1) (delsB p.2 σ.ob), nx := σ.nx + 1, lg := p.2 ++ σ.lg } else some σ
      | _ => some σ
    | some (i, c) => match lookB i σ.ob with
      | some (s, .var tv cs) => match cs[c]? with
        | some x => bif isProm x && !(Nat.beq i σ.nx) then (promX t x σ).bind fun p => bif hasN i p.2 then none else some { σ with ob := putB i (s, .var tv (cs.set c (.row σ.nx))) (putB σ.nx (σ.nx, p.1) (delsB p.2 σ.ob)), nx := σ.nx + 1, lg := i :: (p.2 ++ σ.lg) } else some σ
        | none => some σ
      | _ => some σ
def promotes : List (Nat × Option TypeId) → St S.T → Option (St S.T)
  | [], σ => some σ
  | k :: r, σ => (promote k σ).bind (promotes r)
def idsC : SC S.T → List Nat
  | .rd _ d _ => d.map (·.1)
  | .row i => [i]
  | .cut i _ => [i]
  | .ptr i _ => [i]
  | .elt i _ _ _ => [i]
  | .elr _ d _ _ => d.map (·.1)
  | .fn _ l => l
  | .sub i _ _ => [i]
  | .sel i _ _ _ _ => [i]
  | .mp i => [i]
  | .tail i _ _ => [i]
  | _ => []
def idsV : SV S.T → List Nat
  | .c x => idsC x
  | .agg xs => xs.flatMap idsC
def idsX : SX S.T → List Nat
  | .v x => idsV x
  | .tup xs => xs.flatMap idsV
def idsO (ob : Ob S.T) (i : Nat) : List Nat := match ob i with
  | some (_, .var _ cs) => cs.flatMap idsC
  | some (_, .row _ d _) => d.map (·.1)
  | some (_, .deep _ _ _ d _ _ _) => d.map (·.1)
  | _ => []
def pinned (b : Nat) (pins : List Nat) (ob : Ob S.T) (i : Nat) : Bool := Nat.blt i b && (hasN i pins || match ob i with | some (_, .ext) => true | _ => false)
def dropP (b : Nat) (pins : List Nat) (ob : Ob S.T) : List Nat → List Nat
  | [] => []
  | i :: r => bif pinned b pins ob i then dropP b pins ob r else i :: dropP b pins ob r
def closeN (b : Nat) (pins : List Nat) (ob : Ob S.T) : Nat → List Nat → List Nat
  | 0, l => l
  | n + 1, l => closeN b pins ob n (addN l (dropP b pins ob (l.flatMap (idsO ob))))
def renI (b : Nat) (ids : List Nat) (i : Nat) : Option Nat := match idx i ids with
  | some j => some (b + j)
  | none => bif Nat.blt i b then some i else none
def renP (b : Nat) (ids : List Nat) (p : Nat × Nat) : Option (Nat × Nat) := match idx p.1 ids with
  | some j => some (b + j, b)
  | none => bif Nat.blt p.1 b && Nat.blt p.2 b then some p else none
def renD (b : Nat) (ids : List Nat) : Dp → Option Dp
  | [] => some []
  | p :: d => (renP b ids p).bind fun j => (renD b ids d).map fun d' => j :: d'
def renL (b : Nat) (ids : List Nat) : List Nat → Option (List Nat)
  | [] => some []
  | i :: d => (renI b ids i).bind fun j => (renL b ids d).map fun d' => j :: d'
def renV (b sv : Nat) : Nat := bif Nat.blt sv b then sv else b
def renC (b : Nat) (ids : List Nat) (ob : Ob S.T) : SC S.T → Option (SC S.T)
  | .rd t d l => bif valid ob d then (renD b ids d).map fun d' => .rd t d' l else none
  | .row i => (renI b ids i).map .row
  | .cut i n => (renI b ids i).map fun j => .cut j n
  | .ptr i o => (renI b ids i).map fun j => .ptr j o
  | .elt i t n o => (renI b ids i).map fun j => .elt j t n o
  | .elr t d x o => bif valid ob d then (renD b ids d).map fun d' => .elr t d' x o else none
  | .fn f l => (renL b ids l).map (.fn f)
  | .sub i sv j => match lookD i ob with
    | some v => bif Nat.beq v.sv sv then (renI b ids i).map fun i' => .sub i' (renV b sv) j else none
    | none => none
  | .sel i sv j k o => none
  | .mp i => (renI b ids i).map .mp
  | .tail i t n => (renI b ids i).map fun j => .tail j t n
  | x => some x
def renCs (b : Nat) (ids : List Nat) (ob : Ob S.T) : List (SC S.T) → Option (List (SC S.T))
  | [] => some []
  | c :: r => (renC b ids ob c).bind fun c' => (renCs b ids ob r).map fun r' => c' :: r'
def renX (b : Nat) (ids : List Nat) (ob : Ob S.T) : SX S.T → Option (SX S.T)
  | .v (.c x) => (renC b ids ob x).map fun y => .v (.c y)
  | .v (.agg xs) => (renCs b ids ob xs).map fun y => .v (.agg y)
  | .tup xs => none
def renO (b : Nat) (ids : List Nat) (ob : Ob S.T) (tsv : Nat) : SO S.T → Option (SO S.T)
  | .ext => some .ext
  | .var t cs => (renCs b ids ob cs).map (.var t)
  | .row t d l => bif valid ob d then (renD b ids d).map fun d' => .row t d' l else none
  | .deep t c te d sv l h => bif valid ob d then (renD b ids d).map fun d' => .deep t c te d' (bif Nat.beq tsv b then b else renV b sv) l h else none
  | .mp k l => some (.mp k l)
def weak (w : Bool) : SO S.T → SO S.T
  | .deep t c te d sv l h => bif w then (match h with | none => .row t d l | some _ => .deep t c te d sv l h) else .deep t c te d sv l h
  | so => so
def matS {R : Type} (b : Nat) (ids : List Nat) (σ : St S.T) : (l : List (Nat × TX)) → R → Option (envS S.T l R)
  | [], r => some r
  | (s, .c .un) :: l, r => (matS b ids σ l r)
  | (s, .c c) :: l, r => (matS b ids σ l r).bind fun r => (renX b ids σ.ob (σ.get s)).bind fun x => matX (.c c) x r
  | (s, .agg c) :: l, r => (matS b ids σ l r).bind fun r => (renX b ids σ.ob (σ.get s)).bind fun x => matX (.agg c) x r
def srcOf (b : Nat) (ids : List Nat) (j : Nat) : Nat := bif Nat.blt j b then j else ids.getD (j - b) 0
def matOs {R : Type} (b : Nat) (ids : List Nat) (ob : Ob S.T) : (l : List (Nat × TO)) → R → Option (envO S.T l R)
  | [], r => some r
  | (j, .dead) :: l, r => matOs b ids ob l r
  | (j, .ext) :: l, r => (matOs b ids ob l r).bind fun r => match ob (srcOf b ids j) with | some (_, so) => (renO b ids ob 0 so).bind fun x => matO .ext x r | none => none
  | (j, .var t c) :: l, r => (matOs b ids ob l r).bind fun r => match ob (srcOf b ids j) with | some (_, so) => (renO b ids ob 0 so).bind fun x => matO (.var t c) x r | none => none
  | (j, .row t d) :: l, r => (matOs b ids ob l r).bind fun r => match ob (srcOf b ids j) with | some (_, so) => (renO b ids ob 0 (weak true so)).bind fun x => matO (.row t d) x r | none => none
  | (j, .deep t c te d sv) :: l, r => (matOs b ids ob l r).bind fun r => match ob (srcOf b ids j) with | some (_, so) => (renO b ids ob sv so).bind fun x => matO (.deep t c te d sv) x r | none => none
  | (j, .mp k) :: l, r => (matOs b ids ob l r).bind fun r => match ob (srcOf b ids j) with | some (_, so) => (renO b ids ob 0 so).bind fun x => matO (.mp k) x r | none => none
def isDead : TO → Bool | .dead => true | _ => false
def okOs (b : Nat) (ids : List Nat) (l : List (Nat × TO)) : Bool :=
  l.all fun p => bif Nat.blt p.1 b then isDead p.2 || !(hasN p.1 ids) else Nat.blt (p.1 - b) ids.length
def okIds (b : Nat) (ids : List Nat) (l : List (Nat × TO)) : Bool := ids.all fun i => !(Nat.beq i 0) && (bif Nat.blt i b then hasN i (keysM l) else true)
def okLog (b : Nat) (lg : List Nat) (l : List (Nat × TO)) : Bool := lg.all fun i => bif Nat.blt i b then hasN i (keysM l) else true
def unX : TX → Bool | .c .un => true | _ => false
def carried (σ : St S.T) : List (Nat × TX) → List Nat
  | [] => []
  | p :: r => bif unX p.2 then carried σ r else idsX (σ.get p.1) ++ carried σ r
def rootsO (b : Nat) (ob : Ob S.T) : List (Nat × TO) → List Nat
  | [] => []
  | p :: r => bif Nat.blt p.1 b && !(isDead p.2) then idsO ob p.1 ++ rootsO b ob r else rootsO b ob r
def delD (j : Nat) (d : Dp) : Dp := d.filter fun p => !(Nat.beq p.1 j)
def isRow (ob : Ob S.T) (j : Nat) : Bool := match ob j with | some (_, .row _ _ _) => true | some (_, .deep _ _ _ _ _ _ _) => true | _ => false
def absorb1 (i j : Nat) (σ : St S.T) : St S.T :=
  bif isRow σ.ob j && !(Nat.beq i j) then
    match σ.ob i with
    | some (_, .row t d l) => bif valid σ.ob d then { σ with ob := putB i (σ.nx, .row t (delD j d) l) (delB j σ.ob), nx := σ.nx + 1, lg := i :: j :: σ.lg } else σ
    | some (_, .deep t c te d sv l h) => bif valid σ.ob d then { σ with ob := putB i (σ.nx, .deep t c te (delD j d) sv l h) (delB j σ.ob), nx := σ.nx + 1, lg := i :: j :: σ.lg } else σ
    | _ => σ
  else σ
def depsO (ob : Ob S.T) (i : Nat) : List Nat := match ob i with | some (_, .row _ d _) => d.map (·.1) | some (_, .deep _ _ _ d _ _ _) => d.map (·.1) | _ => []
def cellsO (ob : Ob S.T) (i : Nat) : List Nat := match ob i with | some (_, .var _ cs) => cs.flatMap idsC | _ => []
def absorbI (keep : List Nat) (i : Nat) : List Nat → St S.T → St S.T
  | [], σ => σ
  | j :: js, σ => bif hasN j keep then absorbI keep i js σ else absorbI keep i js (absorb1 i j σ)
def absorbs (keep : List Nat) : List Nat → St S.T → St S.T
  | [], σ => σ
  | i :: is, σ => absorbs keep is (absorbI keep i (depsO σ.ob i) σ)
def belowN (b : Nat) (l : List Nat) : List Nat := l.filter fun i => Nat.blt i b
def absorbA (b : Nat) (pins roots mods : List Nat) (σ : St S.T) : St S.T :=
  let r := roots ++ belowN b mods
  let rs := r ++ r.flatMap (cellsO σ.ob)
  absorbs (rs ++ pins) rs σ
def canonM (b : Nat) (pins : List Nat) (pr : List (Nat × Option TypeId)) (lg : List Nat) (tm : Tm) (σ0 : St S.T) : Option (tm.env S.T) :=
  bif Nat.blt b tm.nx && Nat.blt 0 b then ((promotes pr σ0).map fun σ => absorbA b pins (carried σ tm.sl) (keysM tm.ob) σ).bind fun σ =>
    let ids := closeN b pins σ.ob 2 (addN [] (dropP b pins σ.ob (carried σ tm.sl ++ rootsO b σ.ob tm.ob)))
    bif noDup ids && Nat.ble (b + ids.length) tm.nx && noDup (keysM tm.ob) && okOs b ids tm.ob && okIds b ids tm.ob && okLog b (lg ++ σ.lg) tm.ob then
      (matOs b ids σ.ob tm.ob ()).bind fun r => matS b ids σ tm.sl r
    else none
  else none
structure OutD where
  ex : Ex
  tm : Tm
  pr : List (Nat × Option TypeId)
  pins : List Nat
def outE (T : Tys) : List OutD → Type
  | [] => Empty
  | [o] => o.tm.env T
  | o :: r => o.tm.env T ⊕ outE T r
def cutK (b : Nat) (lg : List Nat) : (outs : List OutD) → Ex × St S.T → Option (outE S.T outs)
  | [], _ => none
  | [o], p => bif Ex.eq o.ex p.1 then canonM b o.pins o.pr lg o.tm p.2 else none
  | o :: o' :: r, p => bif Ex.eq o.ex p.1 then (canonM b o.pins o.pr lg o.tm p.2).map .inl else (cutK b lg (o' :: r) p).map .inr
def cutS (b W : Nat) (σ : St S.T) : (outs : List OutD) → outE S.T outs → Ex × St S.T
  | [], v => nomatch v
  | [o], v => (o.ex, { inst b W σ o.tm v with lg := keysM o.tm.ob ++ σ.lg })
  | o :: o' :: r, .inl v => (o.ex, { inst b W σ o.tm v with lg := keysM o.tm.ob ++ σ.lg })
  | o :: o' :: r, .inr v => cutS b W σ (o' :: r) v
def cutT (b W : Nat) (σ : St S.T) : (outs : List OutD) → outE S.T outs → Tr (Ex × St S.T)
  | [], v => nomatch v
  | [o], v => .ret (o.ex, { inst b W σ o.tm v with lg := keysM o.tm.ob ++ σ.lg })
  | o :: o' :: r, v => .br (Sum.isLeft v) (.bind (Sum.getLeft? v) fun v => .ret (o.ex, { inst b W σ o.tm v with lg := keysM o.tm.ob ++ σ.lg })) (.bind (Sum.getRight? v) fun v => cutT b W σ (o' :: r) v)
structure JoinD where
  b : Nat
  outs : List OutD
def wrOps : List Oper → Nat
  | [] => 0
  | o :: r => match o.dst with | some d => Nat.lor (Nat.shiftLeft 1 d) (wrOps r) | none => wrOps r
def wr : Code → Nat
  | .region _ ops _ => wrOps ops.toList
  | .seq a b => Nat.lor (wr a) (wr b)
  | .cond _ x y => Nat.lor (wr x) (wr y)
  | .block _ c => wr c
  | .loop c => wr c
  | _ => 0
abbrev Cons (S : Sig) := FuncId → Option (Con S)
abbrev Inl (S : Sig) := FuncId → List (SX S.T) → Ob S.T → Nat → Tr (SX S.T × St S.T)
abbrev Orc (S : Sig) := Nat → Option (St S.T → Tr (Ex × St S.T))
structure Tb (S : Sig) where
  C : Cons S
  F : FuncId → Option Func
  J : FuncId → Orc S
  M : FuncId → Nat → Option JoinD
  R : FuncId → Nat → Option JoinD
def oneCap (ob : Ob S.T) (i : Nat) : Bool := match ob i with | some (_, .var _ _) => true | _ => false
def capX (i : Nat) : SX S.T := .v (.c (.ptr i 0))
def St.opds (σ : St S.T) (o : Oper) : List (SX S.T) := o.op.operands.toList.map σ.opd
def St.upd (σ : St S.T) (dst : Option Tmp) (u : Upd S.T) : St S.T := { σ.putO dst u.res with ob := u.obOf σ.ob, nx := σ.nx + 8, lg := u.set.map (·.1) ++ σ.lg }
def doOp (C : Cons S) (I : Inl S) (o : Oper) (σ : St S.T) : Tr (St S.T) :=
  match o.op, σ.opds o with
  | .call { callee := .value _, .. }, .v (.c (.fn f caps)) :: xs =>
    match C f, caps with
    | some g, [] => (useCon g xs σ.ob σ.nx).then fun u => .ret (σ.upd o.dst u)
    | _, _ => guardT (caps.all (oneCap σ.ob)) <| (I f (xs ++ caps.map capX) σ.ob σ.nx).then fun r => .ret { σ.putO o.dst r.1 with ob := r.2.ob, nx := r.2.nx, lg := r.2.lg ++ σ.lg }
  | _, _ => (sem o (σ.opds o) σ.ob σ.nx).then fun u => .ret (σ.upd o.dst u)
def litB (b : Bool) : SX S.T := .v (.c (.bool b))
def dstOf (ops : Array Oper) (j : Nat) : Option Tmp := (ops[j]?).bind (·.dst)
def stepO (C : Cons S) (I : Inl S) (ops : Array Oper) (o : Oper) (σ : St S.T) : Tr (St S.T) :=
  match o.guard with
  | none => doOp C I o σ
  | some (j, want) => orNone (dstOf ops j) fun d => match σ.get d with
    | .v (.c (.bool b)) => .br b
        (bif want then doOp C I o (σ.put d (litB true)) else .ret ((σ.put d (litB true)).putO o.dst (.tup [])))
        (bif want then .ret ((σ.put d (litB false)).putO o.dst (.tup [])) else doOp C I o (σ.put d (litB false)))
    | .tup [] => .ret (σ.putO o.dst (.tup []))
    | _ => .none
def dstFits (n : Nat) (o : Oper) : Bool := match o.dst with | some d => Nat.blt d n | none => true
def runOps (C : Cons S) (I : Inl S) (ops : Array Oper) : List Oper → St S.T → Tr (St S.T)
  | [], σ => .ret σ
  | o :: r, σ => guardT (dstFits σ.n o) <| (stepO C I ops o σ).then fun σ' => runOps C I ops r σ'
def refine (σ : St S.T) (c : Operand) (b : Bool) : St S.T := match c with | .tmp t => σ.put t (litB b) | _ => σ
def joinIf (d : Option JoinD) (W : Nat) (f : St S.T → Tr (Ex × St S.T)) (σ : St S.T) : Tr (Ex × St S.T) :=
  match d with
  | none => f σ
  | some d => guardT (Nat.ble σ.nx d.b) <| .bind ((f { σ with nx := d.b, lg := [] }).k fun p => cutK d.b p.2.lg d.outs p) fun v => cutT d.b W σ d.outs v
def tmpOf : Operand → Nat | .tmp t => t | _ => 0
def maskOf : Operand → Nat | .tmp t => Nat.shiftLeft 1 t | _ => 0
def runC (B : Tb S) (D : Array Oper → St S.T → Tr (St S.T)) (I : Inl S) (f : FuncId) : Code → St S.T → Tr (Ex × St S.T)
  | .skip, σ => .ret (.norm, σ)
  | .label _, σ => .ret (.norm, σ)
  | .region id ops draw, σ => joinIf (B.R f id) (wrOps ops.toList) (fun σ => (bif draw then D ops σ else runOps B.C I ops ops.toList σ).then fun σ' => .ret (.norm, σ')) σ
  | .seq a b, σ => (runC B D I f a σ).then fun p => match p.1 with
    | .norm => runC B D I f b p.2
    | e => .ret (e, p.2)
  | .cond c x y, σ => joinIf (B.M f (tmpOf c)) (Nat.lor (wr x) (wr y)) (fun σ => match σ.opd c with
    | .v (.c (.bool b)) => .br b (runC B D I f x (refine σ c true)) (runC B D I f y (refine σ c false))
    | _ => .none) σ
  | .block id body, σ => match B.J f id with
    | some g => g σ
    | none => (runC B D I f body σ).then fun p => match p.1 with
      | .exit j => bif Nat.beq j id then .ret (.norm, p.2) else .ret p
      | _ => .ret p
  | .exit id, σ => .ret (.exit id, σ)
  | .ret, σ => .ret (.ret, σ)
  | _, _ => .none
def resVar (σ : St S.T) : ResultVar → Tr (SX S.T)
  | .tmp t => .ret (σ.get t)
  | .cell a t => (loadX σ.ob t (σ.get a)).then fun u => .ret u.res
def resSVs (σ : St S.T) : List ResultVar → Tr (List (SV S.T))
  | [] => .ret []
  | r :: rs => (resVar σ r).then fun x => match x with
    | .v v => (resSVs σ rs).then fun vs => .ret (v :: vs)
    | .tup _ => .none
def lookN {β : Type} : Nat → List β → Option β
  | _, [] => none
  | 0, x :: _ => some x
  | n + 1, _ :: r => lookN n r
def runF (B : Tb S) (D : Array Oper → St S.T → Tr (St S.T)) (I : Inl S) (f : FuncId) (xs : List (SX S.T)) (ob : Ob S.T) (nx : Nat) : Tr (SX S.T × St S.T) :=
  orNone (B.F f) fun fn => orNone fn.body fun c => guardT (Nat.ble xs.length fn.ntmps) <|
    (runC B D I f c { sl := fun s => match lookN s xs with | some x => x | none => .v (.c .un), ob := ob, nx := nx, n := fn.ntmps, lg := [] }).then fun p => match p.1 with
      | .exit _ => .none
      | _ => (resSVs p.2 fn.results.toList).then fun vs => .ret (oneOf vs, p.2)
def inlN (B : Tb S) (D : Inl S → Array Oper → St S.T → Tr (St S.T)) : Nat → Inl S
  | 0 => fun _ _ _ _ => .none
  | n + 1 => fun f xs ob nx => runF B (D (inlN B D n)) (inlN B D n) f xs ob nx
structure LoopD where
  b : Nat
  pm : TmP
  tm : Tm
  pr : List (Nat × Option TypeId)
  pins : List Nat
  outs : List OutD
def stepL (run : St S.T → Tr (Ex × St S.T)) (id W : Nat) (d : LoopD) (σ : St S.T) (rec : d.tm.env S.T → Option (outE S.T d.outs)) (v : d.tm.env S.T) : Option (outE S.T d.outs) :=
  (run (inst d.b W σ d.tm v)).k fun p => match p.1 with
    | .norm => (canonM d.b d.pins d.pr p.2.lg d.tm p.2).bind rec
    | .exit j => cutK d.b (keysM d.tm.ob ++ p.2.lg) d.outs (bif Nat.beq j id then .norm else .exit j, p.2)
    | .ret => cutK d.b (keysM d.tm.ob ++ p.2.lg) d.outs (.ret, p.2)
def iterL (run : St S.T → Tr (Ex × St S.T)) (id W : Nat) (d : LoopD) (σ : St S.T) : Nat → d.tm.env S.T → Option (outE S.T d.outs)
  | 0, _ => none
  | n + 1, v => stepL run id W d σ (iterL run id W d σ n) v
def orcL (W : Nat) (d : LoopD) (lf : d.pm.env S.T → d.tm.env S.T → Option (outE S.T d.outs)) (σ : St S.T) : Tr (Ex × St S.T) :=
  guardT (Nat.ble σ.nx d.b) <| orNone (matP d.pm σ) fun p => orNone (canonM d.b d.pins d.pr [] d.tm { σ with nx := d.b, lg := [] }) fun v => .bind (lf p v) fun r => cutT d.b W σ d.outs r
end
end Go.Proofs.Ytheemkehedmlfaa.E
