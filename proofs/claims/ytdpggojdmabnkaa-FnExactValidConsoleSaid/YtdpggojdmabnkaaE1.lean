import Derived.Test.YtdpggojdmabnkaaE0
/-! The engine, second text: what an operation does to symbolic values; code; loops. -/
set_option linter.unusedVariables false
namespace Go.Proofs.Ytdpggojdmabnkaa.E
open Go

/-- What an operation leaves: its value, and objects that are new, changed (some) or dead (none). -/
structure Upd (T : Tys) : Type where
  res : SX T
  set : List (Nat × Option (Nat × SO T))
/-- A slice as the list that it reads as. -/
def asList {T : Tys} (ob : Ob T) (t : TypeId) : SC T → Option (List (T t) × Dp)
  | .nil => some ([], [])
  | .rd t' d l => if h : t' = t then (bif valid ob d then some (h ▸ l, d) else none) else none
  | .row i => match lookB i ob with
    | some (s, .row t' d l) => if h : t' = t then (bif valid ob d then some (h ▸ l, (i, s) :: d) else none) else none
    | _ => none
  | .cut i n => match lookB i ob with
    | some (s, .row t' d l) => if h : t' = t then (bif valid ob d then some ((h ▸ l).take n.toNat, (i, s) :: d) else none) else none
    | _ => none
  | _ => none
structure Sig where
  P : Program
  T : Tys
  td : TypeId → Option TD
  dflt : ∀ t, T t
  out : ∀ t, Dp → T t → List (SC T)
  inn : ∀ t, Ob T → List (SC T) → Option (T t × Dp)
  flat : TypeId → Bool
section
variable (S : Sig)
def Sig.sz (t : TypeId) : Nat := match S.td t with | some d => d.size | none => 0
def Sig.isAgg (t : TypeId) : Bool := match S.td t with | some d => d.agg | none => false
def Sig.elem (t : TypeId) : Option TypeId := match S.td t with | some d => d.elem | none => none
def Sig.known (t : TypeId) : Bool := match S.td t with | some _ => true | none => false
variable {S}
abbrev Ret (S : Sig) := Tr (Upd S.T)
def rv (x : SC S.T) : Ret S := .ret ⟨.v (.c x), []⟩
def constC : Value → SC S.T
  | .int k n => .int k n
  | .bool b => .bool b
  | .string s => .str s
  | .slice none 0 0 => .nil
  | .pointer none => .np
  | _ => .un
def constX : Value → SX S.T
  | .agg cs => .v (.agg (cs.toList.map constC))
  | v => .v (.c (constC v))
def St.opd (σ : St S.T) : Operand → SX S.T
  | .tmp t => σ.get t
  | .const v => constX v
  | .global _ => .v (.c .un)
  | .func f => .v (.c (.fn f []))
def get (t : TypeId) (l : List (S.T t)) (j : Int) : S.T t := l.getD j.toNat (S.dflt t)
def mkV (S : Sig) (t : TypeId) (cs : List (SC S.T)) : Option (SV S.T) :=
  bif S.isAgg t then some (.agg cs) else match cs with | [c] => some (.c c) | _ => none
def splice {β : Type} (off : Nat) (new old : List β) : List β := old.take off ++ new ++ old.drop (off + new.length)
def orNone.{u} {U : Type u} {V : Type} (o : Option U) (f : U → Tr V) : Tr V := match o with | some u => f u | none => .none
def guardT {U : Type} (b : Bool) (t : Tr U) : Tr U := bif b then t else .none
/-! #### whole numbers -/
def andI (k : IntKind) (x y : Int) : Int := k.wrap (BitVec.ofInt k.bits x &&& BitVec.ofInt k.bits y).toNat
def orI (k : IntKind) (x y : Int) : Int := k.wrap (BitVec.ofInt k.bits x ||| BitVec.ofInt k.bits y).toNat
def xorI (k : IntKind) (x y : Int) : Int := k.wrap (BitVec.ofInt k.bits x ^^^ BitVec.ofInt k.bits y).toNat
def nandI (k : IntKind) (x y : Int) : Int := k.wrap (BitVec.ofInt k.bits x &&& ~~~BitVec.ofInt k.bits y).toNat
def shlI (k : IntKind) (x y : Int) : Int := k.wrap (x * 2 ^ min y.toNat k.bits)
def shrI (k : IntKind) (x y : Int) : Int := x.fdiv (2 ^ min y.toNat k.bits)
def binII (op : BinOp) (k : IntKind) (a : Int) (k' : IntKind) (b : Int) : Ret S :=
  match op with
  | .shl => .br (decide (0 ≤ b)) (rv (.int k (shlI k a b))) .none
  | .shr => .br (decide (0 ≤ b)) (rv (.int k (shrI k a b))) .none
  | _ => bif decide (k = k') then
    match op with
    | .add => rv (.int k (k.wrap (a + b)))
    | .sub => rv (.int k (k.wrap (a - b)))
    | .mul => rv (.int k (k.wrap (a * b)))
    | .quo => .br (decide (b = 0)) .none (rv (.int k (k.wrap (a.tdiv b))))
    | .rem => .br (decide (b = 0)) .none (rv (.int k (a.tmod b)))
    | .and => rv (.int k (andI k a b))
    | .or => rv (.int k (orI k a b))
    | .xor => rv (.int k (xorI k a b))
    | .andNot => rv (.int k (nandI k a b))
    | .eql => rv (.bool (decide (a = b)))
    | .neq => rv (.bool (!decide (a = b)))
    | .lss => rv (.bool (decide (a < b)))
    | .leq => rv (.bool (decide (a ≤ b)))
    | .gtr => rv (.bool (decide (a > b)))
    | .geq => rv (.bool (decide (a ≥ b)))
    | _ => .none
  else .none
def strEq (a b : ByteArray) : Bool := a.toList == b.toList
def isBo (S : Sig) (t : TypeId) : Bool := match S.td t with | some d => d.bo | none => false
def binop (op : BinOp) (t : TypeId) (x y : SX S.T) : Ret S :=
  match x, y with
  | .v (.c (.int k a)), .v (.c (.int k' b)) => binII op k a k' b
  | .v (.c (.str a)), .v (.c (.str b)) => match op with
    | .add => .br (decide (a.size + b.size ≤ 140737488351232)) (rv (.str (a ++ b))) .none
    | .eql => rv (.bool (strEq a b))
    | .neq => rv (.bool (!strEq a b))
    | _ => .none
  | .v (.c (.bool a)), .v (.c (.bool b)) => guardT (isBo S t) <| match op with
    | .eql => rv (.bool (a == b))
    | .neq => rv (.bool (!(a == b)))
    | _ => .none
  | _, _ => .none
def unop (op : UnOp) (x : SX S.T) : Ret S :=
  match op, x with
  | .not, .v (.c (.bool b)) => rv (.bool (!b))
  | .neg, .v (.c (.int k n)) => rv (.int k (k.wrap (0 - n)))
  | .xor, .v (.c (.int k n)) => rv (.int k (xorI k (if k.signed then -1 else k.max) n))
  | _, _ => .none
/-! #### memory -/
def loadX (ob : Ob S.T) (t : TypeId) (a : SX S.T) : Ret S :=
  match a with
  | .v (.c (.ptr i off)) => match lookB i ob with
    | some (_, .var _ cs) => guardT (S.known t && Nat.ble (off + S.sz t) cs.length) (orNone (mkV S t ((cs.drop off).take (S.sz t))) fun v => .ret ⟨.v v, []⟩)
    | _ => .none
  | .v (.c (.elt i t' j off)) => match lookB i ob with
    | some (s, .row t2 d l) =>
      if h : t2 = t' then
        guardT (valid ob d && S.known t && S.known t' && Nat.ble (off + S.sz t) (S.sz t')) (orNone (mkV S t (((S.out t' ((i, s) :: d) (get t' (h ▸ l) j)).drop off).take (S.sz t))) fun v => .ret ⟨.v v, []⟩)
      else .none
    | _ => .none
  | .v (.c (.elr t' d x off)) =>
    guardT (valid ob d && S.known t && S.known t' && Nat.ble (off + S.sz t) (S.sz t')) (orNone (mkV S t (((S.out t' d x).drop off).take (S.sz t))) fun v => .ret ⟨.v v, []⟩)
  | _ => .none
def noUn : SC S.T → Bool | .un => false | _ => true
def noId (i : Nat) (d : Dp) : Bool := d.all fun q => !(Nat.beq q.1 i)
def storeX (ob : Ob S.T) (fr : Nat) (t : TypeId) (a : SX S.T) (x : SX S.T) : Ret S :=
  match a, x with
  | .v (.c (.ptr i off)), .v v => match lookB i ob with
    | some (_, .var t' cs) => guardT (S.known t && Nat.beq v.cells.length (S.sz t) && v.cells.all noUn && Nat.ble (off + S.sz t) cs.length) (.ret ⟨.v (.c .un), [(i, some (fr, .var t' (splice off v.cells cs)))]⟩)
    | _ => .none
  | .v (.c (.elt i t' j off)), .v v => match lookB i ob with
    | some (s, .row t2 d l) =>
      if h : t2 = t' then
        guardT (valid ob d && S.known t && S.known t' && Nat.beq v.cells.length (S.sz t) && v.cells.all noUn && Nat.ble (off + S.sz t) (S.sz t') && noId i d)
          (orNone (S.inn t' ob (splice off v.cells (S.out t' ((i, s) :: d) (get t' (h ▸ l) j)))) fun p => guardT (noId i p.2) <|
            .ret ⟨.v (.c .un), [(i, some (fr, .row t' (d ++ p.2) ((h ▸ l).set j.toNat p.1)))]⟩)
      else .none
    | _ => .none
  | _, _ => .none
def zeros (S : Sig) (t : TypeId) : Option (List (SC S.T)) := (S.td t).map fun d => d.zero.map ZC.sc
def newVar (fr : Nat) (t : TypeId) (cs : List (SC S.T)) : Ret S := .ret ⟨.v (.c (.ptr fr 0)), [(fr, some (fr, .var t cs))]⟩
def fieldOf (S : Sig) (t : TypeId) (f : Nat) : Option (Nat × TypeId × Nat) := (S.td t).bind fun d => d.fields[f]?
def fldK (S : Sig) (t : TypeId) (f : Nat) (k : Nat → Ret S) : Ret S := orNone (fieldOf S t f) fun p => guardT (Nat.ble 1 p.2.2) (k p.1)
def fieldAddrX (ob : Ob S.T) (t : TypeId) (a : SX S.T) (f : Nat) : Ret S :=
  match a with
  | .v (.c (.ptr i off)) => fldK S t f fun o => rv (.ptr i (off + o))
  | .v (.c (.elt i t' j off)) => fldK S t f fun o => rv (.elt i t' j (off + o))
  | .v (.c (.elr t' d x off)) => guardT (valid ob d) <| fldK S t f fun o => rv (.elr t' d x (off + o))
  | _ => .none
def fieldX (t : TypeId) (a : SX S.T) (f : Nat) : Ret S :=
  match a with
  | .v (.agg cs) => orNone (fieldOf S t f) fun p => guardT (Nat.ble (p.1 + S.sz p.2.1) cs.length && S.known p.2.1) (orNone (mkV S p.2.1 ((cs.drop p.1).take (S.sz p.2.1))) fun v => .ret ⟨.v v, []⟩)
  | _ => .none
def isStr (S : Sig) (t : TypeId) : Bool := match S.td t with | some d => d.st | none => false
def inB (i : Int) (n : Nat) (t : Ret S) : Ret S := .br (decide (0 ≤ i)) (.br (decide (i < (n : Int))) t .none) .none
def elK (S : Sig) (t : TypeId) (k : TypeId → Ret S) : Ret S := orNone (S.elem t) fun e => guardT (S.known e) (k e)
def indexAddrX (ob : Ob S.T) (t : TypeId) (a : SX S.T) (ix : SX S.T) : Ret S :=
  match a, ix with
  | .v (.c (.row i)), .v (.c (.int _ j)) => match lookB i ob with
    | some (_, .row t' _ l) => elK S t fun e => guardT (Nat.beq t' e) (inB j l.length (rv (.elt i e j 0)))
    | _ => .none
  | .v (.c (.cut i n)), .v (.c (.int _ j)) => match lookB i ob with
    | some (_, .row t' _ l) => elK S t fun e => guardT (Nat.beq t' e) (.br (decide (0 ≤ j)) (.br (decide (j < n)) (rv (.elt i e j 0)) .none) .none)
    | _ => .none
  | .v (.c (.rd t' d l)), .v (.c (.int _ j)) => elK S t fun e => if h : t' = e then guardT (valid ob d) (inB j l.length (rv (.elr e d (get e (h ▸ l) j) 0))) else .none
  | _, _ => .none
def boundI (d : Int) : Option (SX S.T) → Option Int
  | none => some d
  | some (.v (.c (.int _ i))) => some i
  | _ => none
/-- A part of a slice. -/
def sliceX (ob : Ob S.T) (t : TypeId) (a : SX S.T) (lo hi mx : Option (SX S.T)) : Ret S :=
  match a, lo, hi, mx with
  | .v (.c (.str s)), lo, hi, none => guardT (isStr S t) <|
    match boundI 0 lo, boundI (s.size : Int) hi with
    | some l, some h => .br (decide (0 ≤ l)) (.br (decide (l ≤ h)) (.br (decide (h ≤ (s.size : Int))) (rv (.str (s.extract l.toNat h.toNat))) .none) .none) .none
    | _, _ => .none
  | .v (.c (.row i)), none, some (.v (.c (.int _ n))), none => guardT (match S.elem t with | some e => S.known e | none => false) <| match lookB i ob with
    | some (_, .row _ _ l) => .br (decide (0 ≤ n)) (.br (decide (n ≤ (l.length : Int))) (rv (.cut i n)) .none) .none
    | _ => .none
  | .v (.c x), lo, hi, none => orNone (S.elem t) fun e => guardT (S.known e) <| orNone (asList ob e x) fun p =>
    match boundI 0 lo, boundI (p.1.length : Int) hi with
    | some l, some h => .br (decide (0 ≤ l)) (.br (decide (l ≤ h)) (.br (decide (h ≤ (p.1.length : Int))) (rv (.rd e p.2 ((p.1.drop l.toNat).take (h.toNat - l.toNat)))) .none) .none) .none
    | _, _ => .none
  | _, _, _, _ => .none
def lenX (ob : Ob S.T) (t : TypeId) (a : SX S.T) : Ret S :=
  match a with
  | .v (.c (.str s)) => guardT (isStr S t) (rv (.int .i64 (s.size : Int)))
  | .v (.c x) => guardT (match S.elem t with | some _ => true | none => false) <| match x with
    | .nil => rv (.int .i64 0)
    | .rd _ d l => guardT (valid ob d) (rv (.int .i64 (l.length : Int)))
    | .cut _ n => rv (.int .i64 n)
    | .row i => match lookB i ob with
      | some (_, .row _ _ l) => rv (.int .i64 (l.length : Int))
      | _ => .none
    | _ => .none
  | _ => .none
def idOf : SC S.T → List Nat
  | .row i => [i]
  | .cut i _ => [i]
  | _ => []
def room (n bytes : Nat) (t : Ret S) : Ret S := .br (decide (n * bytes ≤ 140737488351232)) t .none
def bytesOf (S : Sig) (t : TypeId) : Nat := match S.td t with | some d => d.bytes | none => 0
/-- What an append starts from. -/
def baseX (ob : Ob S.T) (e : TypeId) : SC S.T → Option (List (S.T e) × Dp)
  | .nil => some ([], [])
  | .z0 => some ([], [])
  | .row i => (match lookB i ob with | some (_, .row t' d l) => if h : t' = e then some (h ▸ l, d) else none | _ => none)
  | .cut i n => (match lookB i ob with | some (_, .row t' d l) => if h : t' = e then some ((h ▸ l).take n.toNat, d) else none | _ => none)
  | _ => none
/-- A slice that has no room, told by nothing but this, is not appended nothing to. -/
def noZ (s : SC S.T) (n : Nat) (t : Ret S) : Ret S := match s with | .z0 => .br (decide (n = 0)) .none t | _ => t
/-- append(s, x...): s is nil or a row of the call's own; x is read. -/
def appendX (ob : Ob S.T) (fr : Nat) (t t2 : TypeId) (s x : SX S.T) : Ret S :=
  orNone (S.elem t) fun e => guardT (Nat.beq t t2 && S.known e && Nat.ble 1 (S.sz e) && Nat.ble 1 (bytesOf S e)) <| match s, x with
    | .v (.c s), .v (.c x) =>
      orNone (baseX ob e s) fun p =>
      orNone (asList ob e x) fun q =>
      guardT ((idOf s).all fun i => noId i q.2 && noId i p.2) <| guardT (valid ob p.2) <|
      noZ s q.1.length <| room (p.1.length + q.1.length) (bytesOf S e) <|
        .ret ⟨.v (.c (.row fr)), ((idOf s).map fun i => (i, none)) ++ [(fr, some (fr, .row e (bif S.flat e then [] else p.2 ++ q.2) (p.1 ++ q.1)))]⟩
    | _, _ => .none
def innAll (S : Sig) (t : TypeId) (ob : Ob S.T) : List (List (SC S.T)) → Option (List (S.T t) × Dp)
  | [] => some ([], [])
  | c :: r => match S.inn t ob c, innAll S t ob r with
    | some (x, d), some (l, d') => some (x :: l, d ++ d')
    | _, _ => none
def cellsOf : SX S.T → List (SC S.T)
  | .v v => v.cells
  | .tup _ => []
/-- The parts of a literal, in order and all of them. -/
def inOrder : Nat → List Nat → Bool
  | _, [] => true
  | n, i :: r => Nat.beq n i && inOrder (n + 1) r
def buildSliceX (ob : Ob S.T) (fr : Nat) (t : TypeId) (len : Nat) (is : List Nat) (xs : List (SX S.T)) : Ret S :=
  orNone (S.elem t) fun e => guardT (S.known e && inOrder 0 is && Nat.beq is.length len && Nat.ble 1 (S.sz e) && Nat.ble (len * S.sz e) 1000 && Nat.beq xs.length len && (xs.all fun x => Nat.beq (cellsOf x).length (S.sz e) && (cellsOf x).all noUn)) <|
    orNone (innAll S e ob (xs.map cellsOf)) fun p => .ret ⟨.v (.c (.row fr)), [(fr, some (fr, .row e p.2 p.1))]⟩
def fillX (S : Sig) (fs : List (Nat × TypeId × Nat)) : List Nat → List (SX S.T) → List (SC S.T) → Option (List (SC S.T))
  | [], [], cs => some cs
  | i :: is, x :: xs, cs => match fs[i]?, x with
    | some p, .v v => bif Nat.beq v.cells.length p.2.2 && Nat.ble (p.1 + p.2.2) cs.length && v.cells.all noUn then fillX S fs is xs (splice p.1 v.cells cs) else none
    | _, _ => none
  | _, _, _ => none
def buildX (t : TypeId) (is : List Nat) (xs : List (SX S.T)) : Ret S :=
  orNone (S.td t) fun d => guardT (match d.fields with | [] => false | _ => true) <|
    orNone (fillX S d.fields is xs (d.zero.map ZC.sc)) fun cs => .ret ⟨.v (.agg cs), []⟩
def makeSliceX (ob : Ob S.T) (fr : Nat) (t : TypeId) (len cap : SX S.T) : Ret S :=
  orNone (S.elem t) fun e => orNone (S.td e) fun d => guardT (Nat.ble 1 d.size && Nat.ble 1 d.bytes) <| match len, cap with
    | .v (.c (.int .i64 n)), .v (.c (.int .i64 c)) => orNone (S.inn e ob (d.zero.map ZC.sc)) fun p => guardT (match p.2 with | [] => true | _ => false) <|
      .br (decide (0 ≤ n)) (.br (decide (n ≤ c)) (.br (decide (c * d.bytes ≤ 140737488351232)) (.ret ⟨.v (.c (.row fr)), [(fr, some (fr, .row e [] (List.replicate n.toNat p.1)))]⟩) .none) .none) .none
    | _, _ => .none
def pickX (c a b : SX S.T) : Ret S :=
  match c with
  | .v (.c (.bool c)) => .br c (.ret ⟨a, []⟩) (.ret ⟨b, []⟩)
  | _ => .none
def capsOf : List (SX S.T) → Option (List Nat)
  | [] => some []
  | .v (.c (.ptr i 0)) :: r => (capsOf r).map fun l => i :: l
  | _ => none
def nilCheckX (ob : Ob S.T) (x : SX S.T) : Ret S :=
  match x with
  | .v (.c (.ptr i o)) => rv (.ptr i o)
  | .v (.c (.elt i t j o)) => rv (.elt i t j o)
  | .v (.c (.elr t d y o)) => guardT (valid ob d) (rv (.elr t d y o))
  | .v (.c (.fn f c)) => rv (.fn f c)
  | _ => .none
def bt (s : ByteArray) (i : Int) : Int := if h : i.toNat < s.size then ((s[i.toNat]'h).toNat : Int) else 0
def indexX (t : TypeId) (x ix : SX S.T) : Ret S :=
  match x, ix with
  | .v (.c (.str s)), .v (.c (.int _ i)) => guardT (isStr S t) <| inB i s.size (rv (.int .u8 (bt s i)))
  | _, _ => .none
def convertX (s d : TypeId) (x : SX S.T) : Ret S :=
  match x with
  | .v (.c (.int _ n)) => guardT (S.known s) <| orNone ((S.td d).bind (·.ik)) fun k => rv (.int k (k.wrap n))
  | _ => .none
def makeFuncX (f : Fn) (first : Array Operand) (xs : List (SX S.T)) : Ret S :=
  match f, first.toList with
  | .func f, [] => orNone (capsOf xs) fun l => rv (.fn f l)
  | _, _ => .none
def extractX (x : SX S.T) (i : Nat) : Ret S :=
  match x with
  | .tup vs => orNone vs[i]? fun v => .ret ⟨.v v, []⟩
  | _ => .none
/-- s[:0:0]. -/
def zeroX (ob : Ob S.T) (t : TypeId) (a : SX S.T) (h m : Int) : Ret S :=
  guardT (decide (h = 0) && decide (m = 0)) <| match a with
  | .v (.c .nil) => orNone (S.elem t) fun e => guardT (S.known e) (rv .nil)
  | .v (.c x) => orNone (S.elem t) fun e => guardT (S.known e) <| orNone (asList ob e x) fun p => rv .z0
  | _ => .none
def zero3 (ob : Ob S.T) (t : TypeId) (a h m : SX S.T) : Ret S :=
  match h, m with
  | .v (.c (.int _ h)), .v (.c (.int _ m)) => zeroX ob t a h m
  | _, _ => .none
def sliceOpX (ob : Ob S.T) (t : TypeId) (lo hi mx : Option Operand) (xs : List (SX S.T)) : Ret S :=
  match lo, hi, mx, xs with
  | none, none, none, [a] => sliceX ob t a none none none
  | some _, none, none, [a, l] => sliceX ob t a (some l) none none
  | none, some _, none, [a, h] => sliceX ob t a none (some h) none
  | some _, some _, none, [a, l, h] => sliceX ob t a (some l) (some h) none
  | none, some _, some _, [a, h, m] => zero3 ob t a h m
  | _, _, _, _ => .none
def mxI (a b : Int) : Int := if b > a then b else a
def mnI (a b : Int) : Int := if b < a then b else a
/-- A slice against nil. -/
def nilEqX (ob : Ob S.T) (t : TypeId) (x : SX S.T) (neg : Bool) : Ret S :=
  orNone (S.elem t) fun e => match x with
  | .v (.c .nil) => rv (.bool (!neg))
  | .v (.c x) => orNone (asList ob e x) fun p => .br (decide (p.1.length = 0)) .none (rv (.bool neg))
  | _ => .none
def binopO (ob : Ob S.T) (op : BinOp) (t : TypeId) (x y : SX S.T) : Ret S :=
  match op, y with
  | .eql, .v (.c .nil) => nilEqX ob t x false
  | .neq, .v (.c .nil) => nilEqX ob t x true
  | op, y => binop op t x y
/-- Go's own functions, at their operands' values. -/
def builtinX (b : Builtin) (ts : Array TypeId) (xs : List (SX S.T)) (ob : Ob S.T) (fr : Nat) : Ret S :=
  match b, ts.toList, xs with
  | .len, [t], [x] => lenX ob t x
  | .append, [t, t2], [s, x] => appendX ob fr t t2 s x
  | .max, _, [.v (.c (.int k a)), .v (.c (.int _ b))] => rv (.int k (mxI a b))
  | .min, _, [.v (.c (.int k a)), .v (.c (.int _ b))] => rv (.int k (mnI a b))
  | _, _, _ => .none
def callX (c : Call) (xs : List (SX S.T)) (ob : Ob S.T) (fr : Nat) : Ret S :=
  match c.callee with
  | .builtin b => builtinX b c.argTypes xs ob fr
  | _ => .none
/-- An operation other than a call of a function, at its operands' values. -/
def sem (o : Oper) (xs : List (SX S.T)) (ob : Ob S.T) (fr : Nat) : Ret S :=
  match o.op, xs with
  | .move _, [x] => .ret ⟨x, []⟩
  | .assign _, [x] => .ret ⟨x, []⟩
  | .pick _ _ _, [c, a, b] => pickX c a b
  | .alloc t, [] => orNone (zeros S t) fun cs => newVar fr t cs
  | .box t _, [.v v] => guardT (v.cells.all noUn) (newVar fr t v.cells)
  | .build t ps, xs => buildX t (ps.toList.map (·.1)) xs
  | .buildSlice t n ps, xs => buildSliceX ob fr t n (ps.toList.map (·.1)) xs
  | .load t _, [a] => loadX ob t a
  | .store t _ _, [a, x] => storeX ob fr t a x
  | .nilCheck _, [x] => nilCheckX ob x
  | .binOp op t _ _ _, [x, y] => binopO ob op t x y
  | .unOp op _ _, [x] => unop op x
  | .convert s d _, [x] => convertX s d x
  | .makeFunc f first _, xs => makeFuncX f first xs
  | .makeSlice t _ _, [l, c] => makeSliceX ob fr t l c
  | .fieldAddr t _ f, [a] => fieldAddrX ob t a f
  | .field t _ f, [a] => fieldX t a f
  | .indexAddr t _ _, [a, i] => indexAddrX ob t a i
  | .index t _ _, [a, i] => indexX t a i
  | .slice t _ lo hi mx, xs => sliceOpX ob t lo hi mx xs
  | .extract _ i, [x] => extractX x i
  | .call c, xs => callX c xs ob fr
  | _, _ => .none
def put1 {T : Tys} (ob : Ob T) (p : Nat × Option (Nat × SO T)) : Ob T := match p.2 with | some e => putB p.1 e ob | none => delB p.1 ob
def Upd.obOf {T : Tys} (u : Upd T) (ob : Ob T) : Ob T := u.set.foldl put1 ob
def St.put (σ : St S.T) (d : Nat) (x : SX S.T) : St S.T := { σ with sl := fun s => bif Nat.beq s d then x else σ.sl s }
def St.putO (σ : St S.T) (d : Option Nat) (x : SX S.T) : St S.T := match d with | some d => σ.put d x | none => σ
def St.app (σ : St S.T) (dst : Option Tmp) (u : Upd S.T) : St S.T := { σ.putO dst u.res with ob := u.obOf σ.ob }
end
end Go.Proofs.Ytdpggojdmabnkaa.E
