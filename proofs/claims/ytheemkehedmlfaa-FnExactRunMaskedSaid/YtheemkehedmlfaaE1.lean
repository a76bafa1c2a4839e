import Derived.Test.YtheemkehedmlfaaE0
set_option linter.unusedVariables false
namespace Go.Proofs.Ytheemkehedmlfaa.E
open Go
structure Upd (T : Tys) : Type where
  res : SX T
  set : List (Nat × Option (Nat × SO T))
structure Acc (T : Tys) where
  dflt : ∀ t, T t
  gsl : ∀ (t : TypeId) (c : Nat) (te : TypeId), T t → List (T te)
  ssl : ∀ (t : TypeId) (c : Nat) (te : TypeId), T t → List (T te) → T t
def getA {T : Tys} (A : Acc T) (t : TypeId) (l : List (T t)) (j : Int) : T t := l.getD j.toNat (A.dflt t)
structure RowV (T : Tys) : Type where
  s : Nat
  t : TypeId
  d : Dp
  l : List (T t)
structure DeepV (T : Tys) : Type where
  s : Nat
  t : TypeId
  c : Nat
  te : TypeId
  d : Dp
  sv : Nat
  l : List (T t)
  h : Option Int
def lookR {T : Tys} (i : Nat) (ob : Ob T) : Option (RowV T) := match lookB i ob with
  | some (s, .row t d l) => some ⟨s, t, d, l⟩
  | some (s, .deep t _ _ d _ l none) => some ⟨s, t, d, l⟩
  | _ => none
def lookD {T : Tys} (i : Nat) (ob : Ob T) : Option (DeepV T) := match lookB i ob with
  | some (s, .deep t c te d sv l h) => some ⟨s, t, c, te, d, sv, l, h⟩
  | _ => none
def lookS {T : Tys} (i sv : Nat) (ob : Ob T) : Option (DeepV T) := match lookD i ob with
  | some v => bif Nat.beq v.sv sv && v.h.isNone && valid ob v.d then some v else none
  | none => none
def asList {T : Tys} (A : Acc T) (ob : Ob T) (t : TypeId) : SC T → Option (List (T t) × Dp)
  | .nil => some ([], [])
  | .rd t' d l => if h : t' = t then (bif valid ob d then some (h ▸ l, d) else none) else none
  | .row i => match lookR i ob with
    | some ⟨s, t', d, l⟩ => if h : t' = t then (bif valid ob d then some (h ▸ l, (i, s) :: d) else none) else none
    | none => none
  | .cut i n => match lookR i ob with
    | some ⟨s, t', d, l⟩ => if h : t' = t then (bif valid ob d then some ((h ▸ l).take n.toNat, (i, s) :: d) else none) else none
    | none => none
  | .sub i sv j => match lookS i sv ob with
    | some ⟨s, t0, c, te, _, _, l, _⟩ => if h : te = t then some (h ▸ A.gsl t0 c te (getA A t0 l j), [(i, s)]) else none
    | none => none
  | .tail i t0 n => match lookR i ob with
    | some ⟨s, t', d, l⟩ => if h : t' = t then (bif valid ob d && Nat.beq t0 t' then some ((h ▸ l).drop n.toNat, (i, s) :: d) else none) else none
    | none => none
  | _ => none
structure Sig where
  P : Program
  T : Tys
  td : TypeId → Option TD
  ax : Acc T
  xc : TypeId → Option (Nat × TypeId)
  out : ∀ t, Dp → T t → List (SC T)
  inn : ∀ t, Ob T → List (SC T) → Option (T t × Dp)
  stp : ∀ t, T t → Nat → List (SC T) → Option (T t)
  mpk : TypeId → Option IntKind
  flat : TypeId → Bool
section
variable (S : Sig)
abbrev Sig.dflt (t : TypeId) : S.T t := S.ax.dflt t
def Sig.sz (t : TypeId) : Nat := match S.td t with | some d => d.size | none => 0
def Sig.isAgg (t : TypeId) : Bool := match S.td t with | some d => d.agg | none => false
def Sig.elem (t : TypeId) : Option TypeId := match S.td t with | some d => d.elem | none => none
def Sig.known (t : TypeId) : Bool := match S.td t with | some _ => true | none => false
variable {S}
abbrev Ret (S : Sig) := Tr (Upd S.T)
def rv (x : SC S.T) : Ret S := .ret ⟨.v (.c x), []⟩
def constC : Value → SC S.T
  | .int k n => .int k n
  | .bool b => .bool b
  | .string s => .str s
  | .slice none 0 0 => .nil
  | .pointer none => .np
  | _ => .un
def constX : Value → SX S.T
  | .agg cs => .v (.agg (cs.toList.map constC))
  | v => .v (.c (constC v))
def St.opd (σ : St S.T) : Operand → SX S.T
  | .tmp t => σ.get t
  | .const v => constX v
  | .global _ => .v (.c .un)
  | .func f => .v (.c (.fn f []))
def get (t : TypeId) (l : List (S.T t)) (j : Int) : S.T t := l.getD j.toNat (S.dflt t)
def mkV (S : Sig) (t : TypeId) (cs : List (SC S.T)) : Option (SV S.T) :=
  bif S.isAgg t then some (.agg cs) else match cs with | [c] => some (.c c) | _ => none
def splice {β : Type} (off : Nat) (new old : List β) : List β := old.take off ++ new ++ old.drop (off + new.length)
def orNone.{u} {U : Type u} {V : Type} (o : Option U) (f : U → Tr V) : Tr V := match o with | some u => f u | none => .none
def guardT {U : Type} (b : Bool) (t : Tr U) : Tr U := bif b then t else .none
def andI (k : IntKind) (x y : Int) : Int := k.wrap (BitVec.ofInt k.bits x &&& BitVec.ofInt k.bits y).toNat
def orI (k : IntKind) (x y : Int) : Int := k.wrap (BitVec.ofInt k.bits x ||| BitVec.ofInt k.bits y).toNat
def xorI (k : IntKind) (x y : Int) : Int := k.wrap (BitVec.ofInt k.bits x ^^^ BitVec.ofInt k.bits y).toNat
def nandI (k : IntKind) (x y : Int) : Int := k.wrap (BitVec.ofInt k.bits x &&& ~~~BitVec.ofInt k.bits y).toNat
def shlI (k : IntKind) (x y : Int) : Int := k.wrap (x * 2 ^ min y.toNat k.bits)
def shrI (k : IntKind) (x y : Int) : Int := x.fdiv (2 ^ min y.toNat k.bits)
def binII (op : BinOp) (k : IntKind) (a : Int) (k' : IntKind) (b : Int) : Ret S :=
  match op with
  | .shl => .br (decide (0 ≤ b)) (rv (.int k (shlI k a b))) .none
  | .shr => .br (decide (0 ≤ b)) (rv (.int k (shrI k a b))) .none
  | _ => bif decide (k = k') then
    match op with
    | .add => rv (.int k (k.wrap (a + b)))
    | .sub => rv (.int k (k.wrap (a - b)))
    | .mul => rv (.int k (k.wrap (a * b)))
    | .quo => .br (decide (b = 0)) .none (rv (.int k (k.wrap (a.tdiv b))))
    | .rem => .br (decide (b = 0)) .none (rv (.int k (a.tmod b)))
    | .and => rv (.int k (andI k a b))
    | .or => rv (.int k (orI k a b))
    | .xor => rv (.int k (xorI k a b))
    | .andNot => rv (.int k (nandI k a b))
    | .eql => rv (.bool (decide (a = b)))
    | .neq => rv (.bool (!decide (a = b)))
    | .lss => rv (.bool (decide (a < b)))
    | .leq => rv (.bool (decide (a ≤ b)))
    | .gtr => rv (.bool (decide (a > b)))
    | .geq => rv (.bool (decide (a ≥ b)))
    | _ => .none
  else .none
def strEq (a b : ByteArray) : Bool := a.toList == b.toList
def isBo (S : Sig) (t : TypeId) : Bool := match S.td t with | some d => d.bo | none => false
def eqCells (S : Sig) (xs ys : List (SC S.T)) : List (Nat × TypeId × Nat) → Option Bool
  | [] => some true
  | (o, ft, _) :: r => match S.td ft, xs[o]?, ys[o]?, eqCells S xs ys r with
    | some fd, some (.int k a), some (.int k' b), some z => match fd.ik with | some _ => bif kbeq k k' then some (decide (a = b) && z) else none | none => none
    | some fd, some (.bool a), some (.bool b), some z => bif fd.bo then some ((a == b) && z) else none
    | _, _, _, _ => none
def eqAgg (op : BinOp) (t : TypeId) (xs ys : List (SC S.T)) : Ret S :=
  orNone (S.td t) fun d => guardT d.eq <| match op with
    | .eql => orNone (eqCells S xs ys d.fields) fun b => rv (.bool b)
    | .neq => orNone (eqCells S xs ys d.fields) fun b => rv (.bool (!b))
    | _ => .none
def binop (op : BinOp) (t : TypeId) (x y : SX S.T) : Ret S :=
  match x, y with
  | .v (.c (.int k a)), .v (.c (.int k' b)) => binII op k a k' b
  | .v (.c (.str a)), .v (.c (.str b)) => match op with
    | .add => .br (decide (a.size + b.size ≤ 140737488351232)) (rv (.str (a ++ b))) .none
    | .eql => rv (.bool (strEq a b))
    | .neq => rv (.bool (!strEq a b))
    | _ => .none
  | .v (.c (.bool a)), .v (.c (.bool b)) => guardT (isBo S t) <| match op with
    | .eql => rv (.bool (a == b))
    | .neq => rv (.bool (!(a == b)))
    | _ => .none
  | .v (.agg xs), .v (.agg ys) => eqAgg op t xs ys
  | _, _ => .none
def unop (op : UnOp) (x : SX S.T) : Ret S :=
  match op, x with
  | .not, .v (.c (.bool b)) => rv (.bool (!b))
  | .neg, .v (.c (.int k n)) => rv (.int k (k.wrap (0 - n)))
  | .xor, .v (.c (.int k n)) => rv (.int k (xorI k (if k.signed then -1 else k.max) n))
  | _, _ => .none
def loadX (ob : Ob S.T) (t : TypeId) (a : SX S.T) : Ret S :=
  match a with
  | .v (.c (.ptr i off)) => match lookB i ob with
    | some (_, .var _ cs) => guardT (S.known t && Nat.ble (off + S.sz t) cs.length) (orNone (mkV S t ((cs.drop off).take (S.sz t))) fun v => .ret ⟨.v v, []⟩)
    | _ => .none
  | .v (.c (.elt i t' j off)) => match lookB i ob with
    | some (s, .row t2 d l) =>
      if h : t2 = t' then
        guardT (valid ob d && S.known t && S.known t' && Nat.ble (off + S.sz t) (S.sz t')) (orNone (mkV S t (((S.out t' ((i, s) :: d) (get t' (h ▸ l) j)).drop off).take (S.sz t))) fun v => .ret ⟨.v v, []⟩)
      else .none
    | some (s, .deep t2 c te d sv l none) =>
      if h : t2 = t' then
        guardT (valid ob d && S.known t && S.known t' && Nat.ble (off + S.sz t) (S.sz t')) (orNone (mkV S t ((((S.out t' ((i, s) :: d) (get t' (h ▸ l) j)).set c (.sub i sv j)).drop off).take (S.sz t))) fun v => .ret ⟨.v v, []⟩)
      else .none
    | _ => .none
  | .v (.c (.sel i sv j k off)) => match lookS i sv ob with
    | some ⟨s, t0, c, te, d, _, l, _⟩ =>
      guardT (S.known t && S.known te && Nat.ble (off + S.sz t) (S.sz te)) (orNone (mkV S t (((S.out te [(i, s)] (get te (S.ax.gsl t0 c te (get t0 l j)) k)).drop off).take (S.sz t))) fun v => .ret ⟨.v v, []⟩)
    | none => .none
  | .v (.c (.elr t' d x off)) =>
    guardT (valid ob d && S.known t && S.known t' && Nat.ble (off + S.sz t) (S.sz t')) (orNone (mkV S t (((S.out t' d x).drop off).take (S.sz t))) fun v => .ret ⟨.v v, []⟩)
  | _ => .none
def noUn : SC S.T → Bool | .un => false | _ => true
def noId (i : Nat) (d : Dp) : Bool := d.all fun q => !(Nat.beq q.1 i)
def storeRest (fr i : Nat) (t : TypeId) (c : Nat) (te : TypeId) (d : Dp) (sv : Nat) (l : List (S.T t)) (hl : Option Int) (j : Int) (off : Nat) (cs : List (SC S.T)) : Ret S :=
  match hl with
  | some _ => .none
  | none => orNone (S.stp t (get t l j) off cs) fun x => .ret ⟨.v (.c .un), [(i, some (fr, .deep t c te d sv (l.set j.toNat x) none))]⟩
def storeSl (ob : Ob S.T) (fr i s : Nat) (t : TypeId) (c : Nat) (te : TypeId) (d : Dp) (l : List (S.T t)) (hl : Option Int) (j : Int) (off : Nat) (cs : List (SC S.T)) (m : List (S.T te)) (k : Option Nat) : Ret S :=
  orNone (S.inn t ob ((splice off cs (S.out t ((i, s) :: d) (S.ax.ssl t c te (get t l j) []))).set c .nil)) fun p => guardT (noId i p.2 && (match k with | some k => noId k p.2 | none => true)) <|
    let r : Ret S := .ret ⟨.v (.c .un), (match k with | some k => [(k, none)] | none => []) ++ [(i, some (fr, .deep t c te (d ++ p.2) fr (l.set j.toNat (S.ax.ssl t c te p.1 m)) none))]⟩
    match hl with
    | none => r
    | some j0 => .br (decide (j = j0)) r .none
def storeX (ob : Ob S.T) (fr : Nat) (t : TypeId) (a : SX S.T) (x : SX S.T) : Ret S :=
  match a, x with
  | .v (.c (.ptr i off)), .v v => match lookB i ob with
    | some (_, .var t' cs) => guardT (S.known t && Nat.beq v.cells.length (S.sz t) && v.cells.all noUn && Nat.ble (off + S.sz t) cs.length) (.ret ⟨.v (.c .un), [(i, some (fr, .var t' (splice off v.cells cs)))]⟩)
    | _ => .none
  | .v (.c (.elt i t' j off)), .v v => match lookB i ob with
    | some (s, .row t2 d l) =>
      if h : t2 = t' then
        guardT (valid ob d && S.known t && S.known t' && Nat.beq v.cells.length (S.sz t) && v.cells.all noUn && Nat.ble (off + S.sz t) (S.sz t') && noId i d)
          (match S.stp t' (get t' (h ▸ l) j) off v.cells with
          | some x => .ret ⟨.v (.c .un), [(i, some (fr, .row t' d ((h ▸ l).set j.toNat x)))]⟩
          | none => orNone (S.inn t' ob (splice off v.cells (S.out t' ((i, s) :: d) (get t' (h ▸ l) j)))) fun p => guardT (noId i p.2) <|
            .ret ⟨.v (.c .un), [(i, some (fr, .row t' (d ++ p.2) ((h ▸ l).set j.toNat p.1)))]⟩)
      else .none
    | some (s, .deep t2 c te d sv l hl) =>
      if h : t2 = t' then
        guardT (valid ob d && S.known t && S.known t' && Nat.beq v.cells.length (S.sz t) && v.cells.all noUn && Nat.ble (off + S.sz t) (S.sz t') && noId i d) <|
          bif Nat.ble (off + S.sz t) c || Nat.blt c off then storeRest fr i t' c te d sv (h ▸ l) hl j off v.cells
          else match v.cells[c - off]? with
            | some .nil => storeSl ob fr i s t' c te d (h ▸ l) hl j off v.cells [] none
            | some (.row k) => match lookB k ob with
              | some (_, .row t3 d3 lk) => if h3 : t3 = te then guardT (!(Nat.beq k i) && S.flat te && noId k d && valid ob d3) (storeSl ob fr i s t' c te d (h ▸ l) hl j off v.cells (h3 ▸ lk) (some k)) else .none
              | _ => .none
            | _ => .none
      else .none
    | _ => .none
  | .v (.c (.sel i sv j k off)), .v v => match lookS i sv ob with
    | some ⟨_, t0, c, te, d, _, l, _⟩ =>
      guardT (S.known t && S.known te && S.flat te && Nat.beq v.cells.length (S.sz t) && v.cells.all noUn && Nat.ble (off + S.sz t) (S.sz te) && noId i d) <|
        orNone (S.inn te ob (splice off v.cells (S.out te [] (get te (S.ax.gsl t0 c te (get t0 l j)) k)))) fun p =>
          .ret ⟨.v (.c .un), [(i, some (fr, .deep t0 c te d sv (l.set j.toNat (S.ax.ssl t0 c te (get t0 l j) ((S.ax.gsl t0 c te (get t0 l j)).set k.toNat p.1))) none))]⟩
    | none => .none
  | _, _ => .none
def zeros (S : Sig) (t : TypeId) : Option (List (SC S.T)) := (S.td t).map fun d => d.zero.map ZC.sc
def newVar (fr : Nat) (t : TypeId) (cs : List (SC S.T)) : Ret S := .ret ⟨.v (.c (.ptr fr 0)), [(fr, some (fr, .var t cs))]⟩
def fieldOf (S : Sig) (t : TypeId) (f : Nat) : Option (Nat × TypeId × Nat) := (S.td t).bind fun d => d.fields[f]?
def fldK (S : Sig) (t : TypeId) (f : Nat) (k : Nat → Ret S) : Ret S := orNone (fieldOf S t f) fun p => guardT (Nat.ble 1 p.2.2) (k p.1)
def fieldAddrX (ob : Ob S.T) (t : TypeId) (a : SX S.T) (f : Nat) : Ret S :=
  match a with
  | .v (.c (.ptr i off)) => fldK S t f fun o => rv (.ptr i (off + o))
  | .v (.c (.elt i t' j off)) => fldK S t f fun o => rv (.elt i t' j (off + o))
  | .v (.c (.elr t' d x off)) => guardT (valid ob d) <| fldK S t f fun o => rv (.elr t' d x (off + o))
  | .v (.c (.sel i sv j k off)) => guardT (lookS i sv ob).isSome <| fldK S t f fun o => rv (.sel i sv j k (off + o))
  | _ => .none
def fieldX (t : TypeId) (a : SX S.T) (f : Nat) : Ret S :=
  match a with
  | .v (.agg cs) => orNone (fieldOf S t f) fun p => guardT (Nat.ble (p.1 + S.sz p.2.1) cs.length && S.known p.2.1) (orNone (mkV S p.2.1 ((cs.drop p.1).take (S.sz p.2.1))) fun v => .ret ⟨.v v, []⟩)
  | _ => .none
def isStr (S : Sig) (t : TypeId) : Bool := match S.td t with | some d => d.st | none => false
def inB (i : Int) (n : Nat) (t : Ret S) : Ret S := .br (decide (0 ≤ i)) (.br (decide (i < (n : Int))) t .none) .none
def elK (S : Sig) (t : TypeId) (k : TypeId → Ret S) : Ret S := orNone (S.elem t) fun e => guardT (S.known e) (k e)
def indexAddrX (ob : Ob S.T) (t : TypeId) (a : SX S.T) (ix : SX S.T) : Ret S :=
  match a, ix with
  | .v (.c (.row i)), .v (.c (.int _ j)) => match lookB i ob with
    | some (_, .row t' _ l) => elK S t fun e => guardT (Nat.beq t' e) (inB j l.length (rv (.elt i e j 0)))
    | some (_, .deep t' _ _ _ _ l _) => elK S t fun e => guardT (Nat.beq t' e) (inB j l.length (rv (.elt i e j 0)))
    | _ => .none
  | .v (.c (.cut i n)), .v (.c (.int _ j)) => match lookR i ob with
    | some ⟨_, t', _, _⟩ => elK S t fun e => guardT (Nat.beq t' e) (.br (decide (0 ≤ j)) (.br (decide (j < n)) (rv (.elt i e j 0)) .none) .none)
    | _ => .none
  | .v (.c (.rd t' d l)), .v (.c (.int _ j)) => elK S t fun e => if h : t' = e then guardT (valid ob d) (inB j l.length (rv (.elr e d (get e (h ▸ l) j) 0))) else .none
  | .v (.c (.sub i sv j)), .v (.c (.int _ k)) => match lookS i sv ob with
    | some ⟨_, t0, c, te, _, _, l, _⟩ => elK S t fun e => guardT (Nat.beq te e) (inB k (S.ax.gsl t0 c te (get t0 l j)).length (rv (.sel i sv j k 0)))
    | none => .none
  | _, _ => .none
def boundI (d : Int) : Option (SX S.T) → Option Int
  | none => some d
  | some (.v (.c (.int _ i))) => some i
  | _ => none
def tailX (ob : Ob S.T) (t : TypeId) (i : Nat) (n : Int) : Ret S :=
  orNone (S.elem t) fun e => guardT (S.known e) <| orNone (asList S.ax ob e (.row i)) fun p =>
    .br (decide (0 ≤ n)) (.br (decide (n ≤ (p.1.length : Int))) (bif S.flat e && Nat.beq (S.sz e) 1 then rv (.tail i e n) else rv (.rd e p.2 (p.1.drop n.toNat))) .none) .none
def sliceX (ob : Ob S.T) (t : TypeId) (a : SX S.T) (lo hi mx : Option (SX S.T)) : Ret S :=
  match a, lo, hi, mx with
  | .v (.c (.str s)), lo, hi, none => guardT (isStr S t) <|
    match boundI 0 lo, boundI (s.size : Int) hi with
    | some l, some h => .br (decide (0 ≤ l)) (.br (decide (l ≤ h)) (.br (decide (h ≤ (s.size : Int))) (rv (.str (s.extract l.toNat h.toNat))) .none) .none) .none
    | _, _ => .none
  | .v (.c (.row i)), none, some (.v (.c (.int _ n))), none => guardT (match S.elem t with | some e => S.known e | none => false) <| match lookR i ob with
    | some ⟨_, _, _, l⟩ => .br (decide (0 ≤ n)) (.br (decide (n ≤ (l.length : Int))) (rv (.cut i n)) .none) .none
    | none => .none
  | .v (.c (.row i)), some (.v (.c (.int _ n))), none, none => tailX ob t i n
  | .v (.c x), lo, hi, none => orNone (S.elem t) fun e => guardT (S.known e) <| orNone (asList S.ax ob e x) fun p =>
    match boundI 0 lo, boundI (p.1.length : Int) hi with
    | some l, some h => .br (decide (0 ≤ l)) (.br (decide (l ≤ h)) (.br (decide (h ≤ (p.1.length : Int))) (rv (.rd e p.2 ((p.1.drop l.toNat).take (h.toNat - l.toNat)))) .none) .none) .none
    | _, _ => .none
  | _, _, _, _ => .none
def lenX (ob : Ob S.T) (t : TypeId) (a : SX S.T) : Ret S :=
  match a with
  | .v (.c (.str s)) => guardT (isStr S t) (rv (.int .i64 (s.size : Int)))
  | .v (.c x) => guardT (match S.elem t with | some _ => true | none => false) <| match x with
    | .nil => rv (.int .i64 0)
    | .rd _ d l => guardT (valid ob d) (rv (.int .i64 (l.length : Int)))
    | .cut _ n => rv (.int .i64 n)
    | .row i => match lookB i ob with
      | some (_, .row _ _ l) => rv (.int .i64 (l.length : Int))
      | some (_, .deep _ _ _ _ _ l _) => rv (.int .i64 (l.length : Int))
      | _ => .none
    | .sub i sv j => match lookS i sv ob with
      | some ⟨_, t0, c, te, _, _, l, _⟩ => rv (.int .i64 ((S.ax.gsl t0 c te (get t0 l j)).length : Int))
      | none => .none
    | .tail i t0 n => match asList S.ax ob t0 (.tail i t0 n) with
      | some p => rv (.int .i64 (p.1.length : Int))
      | none => .none
    | _ => .none
  | _ => .none
def cpL {β : Type} (n : Nat) (q l : List β) : List β := l.take n ++ (q.take (l.length - n) ++ l.drop (n + q.length))
def cpN {β : Type} (n : Nat) (q l : List β) : Int := ((min q.length (l.length - n) : Nat) : Int)
def copyR (ob : Ob S.T) (fr i : Nat) (e : TypeId) (n : Nat) (q : List (S.T e)) : Ret S :=
  match lookB i ob with
  | some (_, .row t d l) => if h : t = e then guardT (valid ob d) (.ret ⟨.v (.c (.int .i64 (cpN n q (h ▸ l)))), [(i, some (fr, .row e d (cpL n q (h ▸ l))))]⟩) else .none
  | _ => .none
def copyS (ob : Ob S.T) (fr i sv : Nat) (j : Int) (e : TypeId) (q : List (S.T e)) : Ret S :=
  match lookS i sv ob with
  | some ⟨_, t0, c, te, d, _, l, _⟩ => if h : te = e then guardT (noId i d) (.ret ⟨.v (.c (.int .i64 (cpN 0 q (h ▸ S.ax.gsl t0 c te (get t0 l j))))), [(i, some (fr, .deep t0 c te d sv (l.set j.toNat (S.ax.ssl t0 c te (get t0 l j) (cpL 0 (h.symm ▸ q) (S.ax.gsl t0 c te (get t0 l j))))) none))]⟩) else .none
  | none => .none
def copyX (ob : Ob S.T) (fr : Nat) (t t2 : TypeId) (a x : SX S.T) : Ret S :=
  orNone (S.elem t) fun e => guardT (S.known e && S.flat e && Nat.beq (S.sz e) 1) <| match a, x with
    | .v (.c a), .v (.c x) => orNone (asList S.ax ob e x) fun q => match a with
      | .row i => copyR ob fr i e 0 q.1
      | .tail i t0 n => guardT (Nat.beq t0 e) (copyR ob fr i e n.toNat q.1)
      | .sub i sv j => copyS ob fr i sv j e q.1
      | _ => .none
    | _, _ => .none
def idOf : SC S.T → List Nat
  | .row i => [i]
  | .cut i _ => [i]
  | _ => []
def room (n bytes : Nat) (t : Ret S) : Ret S := .br (decide (n * bytes ≤ 140737488351232)) t .none
def bytesOf (S : Sig) (t : TypeId) : Nat := match S.td t with | some d => d.bytes | none => 0
def baseX (ob : Ob S.T) (e : TypeId) : SC S.T → Option (List (S.T e) × Dp)
  | .nil => some ([], [])
  | .z0 => some ([], [])
  | .row i => (match lookR i ob with | some ⟨_, t', d, l⟩ => if h : t' = e then some (h ▸ l, d) else none | none => none)
  | .cut i n => (match lookR i ob with | some ⟨_, t', d, l⟩ => if h : t' = e then some ((h ▸ l).take n.toNat, d) else none | none => none)
  | _ => none
def baseD (ob : Ob S.T) (e : TypeId) (c : Nat) (te : TypeId) : SC S.T → Option (List (S.T e) × Dp)
  | .nil => some ([], [])
  | .z0 => some ([], [])
  | .row i => (match lookD i ob with | some ⟨_, t', c', te', d, _, l, none⟩ => if h : t' = e then (bif Nat.beq c' c && Nat.beq te' te then some (h ▸ l, d) else none) else none | _ => none)
  | .cut i n => (match lookD i ob with | some ⟨_, t', c', te', d, _, l, none⟩ => if h : t' = e then (bif Nat.beq c' c && Nat.beq te' te then some ((h ▸ l).take n.toNat, d) else none) else none | _ => none)
  | _ => none
def noZ (s : SC S.T) (n : Nat) (t : Ret S) : Ret S := match s with | .z0 => .br (decide (n = 0)) .none t | _ => t
def isDeep (ob : Ob S.T) (i : Nat) : Bool := match lookB i ob with | some (_, .deep _ _ _ _ _ _ none) => true | _ => false
def testA (ob : Ob S.T) (s x : SC S.T) : Bool :=
  (match x with | .row k => isDeep ob k | _ => false) && (match s with | .nil => true | .z0 => true | .row i => isDeep ob i | .cut i _ => isDeep ob i | _ => false)
def appendD (ob : Ob S.T) (fr : Nat) (e : TypeId) (s x : SC S.T) : Ret S :=
  orNone (S.xc e) fun ct => orNone (baseD ob e ct.1 ct.2 s) fun p => match x with
    | .row k => orNone (baseD ob e ct.1 ct.2 (.row k)) fun q =>
      guardT ((idOf s).all (fun i => !(Nat.beq i k) && noId i q.2 && noId i p.2) && noId k p.2 && noId k q.2 && S.flat ct.2) <| guardT (valid ob p.2 && valid ob q.2) <|
        noZ s q.1.length <| room (p.1.length + q.1.length) (bytesOf S e) <|
          .ret ⟨.v (.c (.row fr)), ((idOf s).map fun i => (i, none)) ++ [(k, none), (fr, some (fr, .deep e ct.1 ct.2 (p.2 ++ q.2) fr (p.1 ++ q.1) none))]⟩
    | _ => .none
def appendS (ob : Ob S.T) (fr i sv : Nat) (j : Int) (e : TypeId) (x : SC S.T) : Ret S :=
  match lookS i sv ob with
  | some ⟨_, t0, c, te, d, _, l, _⟩ => if h : te = e then
      orNone (asList S.ax ob e x) fun q => guardT (S.flat e && (noId i q.2 && noId i d)) <|
        room ((S.ax.gsl t0 c te (get t0 l j)).length + q.1.length) (bytesOf S e) <|
          .ret ⟨.v (.c (.row fr)), [(i, some (fr, .deep t0 c te d fr l (some j))), (fr, some (fr, .row e [] ((h ▸ S.ax.gsl t0 c te (get t0 l j)) ++ q.1)))]⟩
      else .none
  | none => .none
def appendX (ob : Ob S.T) (fr : Nat) (t t2 : TypeId) (s x : SX S.T) : Ret S :=
  orNone (S.elem t) fun e => guardT (Nat.beq t t2 && S.known e && Nat.ble 1 (S.sz e) && Nat.ble 1 (bytesOf S e)) <| match s, x with
    | .v (.c (.sub i sv j)), .v (.c x) => appendS ob fr i sv j e x
    | .v (.c s), .v (.c x) => bif testA ob s x then appendD ob fr e s x else
        orNone (baseX ob e s) fun p =>
        orNone (asList S.ax ob e x) fun q =>
        guardT ((idOf s).all fun i => noId i q.2 && noId i p.2) <| guardT (valid ob p.2) <|
        noZ s q.1.length <| room (p.1.length + q.1.length) (bytesOf S e) <|
          .ret ⟨.v (.c (.row fr)), ((idOf s).map fun i => (i, none)) ++ [(fr, some (fr, .row e (bif S.flat e then [] else p.2 ++ q.2) (p.1 ++ q.1)))]⟩
    | _, _ => .none
def innAll (S : Sig) (t : TypeId) (ob : Ob S.T) : List (List (SC S.T)) → Option (List (S.T t) × Dp)
  | [] => some ([], [])
  | c :: r => match S.inn t ob c, innAll S t ob r with
    | some (x, d), some (l, d') => some (x :: l, d ++ d')
    | _, _ => none
def cellsOf : SX S.T → List (SC S.T)
  | .v v => v.cells
  | .tup _ => []
def inOrder : Nat → List Nat → Bool
  | _, [] => true
  | n, i :: r => Nat.beq n i && inOrder (n + 1) r
def litD (ob : Ob S.T) (t : TypeId) (c : Nat) (te : TypeId) : List (List (SC S.T)) → Option (List (S.T t) × Dp × List Nat)
  | [] => some ([], [], [])
  | cs :: r => (S.inn t ob (cs.set c .nil)).bind fun p => (litD ob t c te r).bind fun q => match cs[c]? with
    | some .nil => some (p.1 :: q.1, p.2 ++ q.2.1, q.2.2)
    | some (.row k) => match lookB k ob with
      | some (_, .row t3 d3 lk) => if h : t3 = te then (bif q.2.2.all (fun k' => !(Nat.beq k k')) && valid ob d3 then some (S.ax.ssl t c te p.1 (h ▸ lk) :: q.1, p.2 ++ q.2.1, k :: q.2.2) else none) else none
      | _ => none
    | _ => none
def litTest (ob : Ob S.T) (e : TypeId) (css : List (List (SC S.T))) : Bool := match S.xc e with
  | none => false
  | some ct => S.flat ct.2 && css.all fun cs => match cs[ct.1]? with
    | some .nil => true
    | some (.row k) => (match lookB k ob with | some (_, .row t3 _ _) => Nat.beq t3 ct.2 | _ => false)
    | _ => false
def litX (ob : Ob S.T) (fr : Nat) (e : TypeId) (css : List (List (SC S.T))) : Ret S :=
  orNone (S.xc e) fun ct => orNone (litD ob e ct.1 ct.2 css) fun p => guardT (S.flat ct.2 && p.2.2.all (fun k => noId k p.2.1)) <|
    .ret ⟨.v (.c (.row fr)), (p.2.2.map fun k => (k, none)) ++ [(fr, some (fr, .deep e ct.1 ct.2 p.2.1 fr p.1 none))]⟩
def buildSliceX (ob : Ob S.T) (fr : Nat) (t : TypeId) (len : Nat) (is : List Nat) (xs : List (SX S.T)) : Ret S :=
  orNone (S.elem t) fun e => guardT (S.known e && inOrder 0 is && Nat.beq is.length len && Nat.ble 1 (S.sz e) && Nat.ble (len * S.sz e) 1000 && Nat.beq xs.length len && (xs.all fun x => Nat.beq (cellsOf x).length (S.sz e) && (cellsOf x).all noUn)) <|
    bif litTest ob e (xs.map cellsOf) then litX ob fr e (xs.map cellsOf) else orNone (innAll S e ob (xs.map cellsOf)) fun p => .ret ⟨.v (.c (.row fr)), [(fr, some (fr, .row e p.2 p.1))]⟩
def fillX (S : Sig) (fs : List (Nat × TypeId × Nat)) : List Nat → List (SX S.T) → List (SC S.T) → Option (List (SC S.T))
  | [], [], cs => some cs
  | i :: is, x :: xs, cs => match fs[i]?, x with
    | some p, .v v => bif Nat.beq v.cells.length p.2.2 && Nat.ble (p.1 + p.2.2) cs.length && v.cells.all noUn then fillX S fs is xs (splice p.1 v.cells cs) else none
    | _, _ => none
  | _, _, _ => none
def buildX (t : TypeId) (is : List Nat) (xs : List (SX S.T)) : Ret S :=
  orNone (S.td t) fun d => guardT (match d.fields with | [] => false | _ => true) <|
    orNone (fillX S d.fields is xs (d.zero.map ZC.sc)) fun cs => .ret ⟨.v (.agg cs), []⟩
def madeO (e : TypeId) (l : List (S.T e)) (zs : List ZC) (fr : Nat) : SO S.T :=
  match S.xc e with
  | some (c, te) => (match zs[c]? with | some .nil => bif S.flat te then .deep e c te [] fr l none else .row e [] l | _ => .row e [] l)
  | none => .row e [] l
def makeSliceX (ob : Ob S.T) (fr : Nat) (t : TypeId) (len cap : SX S.T) : Ret S :=
  orNone (S.elem t) fun e => orNone (S.td e) fun d => guardT (Nat.ble 1 d.size && Nat.ble 1 d.bytes) <| match len, cap with
    | .v (.c (.int .i64 n)), .v (.c (.int .i64 c)) => orNone (S.inn e ob (d.zero.map ZC.sc)) fun p => guardT (match p.2 with | [] => true | _ => false) <|
      .br (decide (0 ≤ n)) (.br (decide (n ≤ c)) (.br (decide (c * d.bytes ≤ 140737488351232)) (.ret ⟨.v (.c (.row fr)), [(fr, some (fr, madeO e (List.replicate n.toNat p.1) d.zero fr))]⟩) .none) .none) .none
    | _, _ => .none
def pickX (c a b : SX S.T) : Ret S :=
  match c with
  | .v (.c (.bool c)) => .br c (.ret ⟨a, []⟩) (.ret ⟨b, []⟩)
  | _ => .none
def capsOf : List (SX S.T) → Option (List Nat)
  | [] => some []
  | .v (.c (.ptr i 0)) :: r => (capsOf r).map fun l => i :: l
  | _ => none
def nilCheckX (ob : Ob S.T) (x : SX S.T) : Ret S :=
  match x with
  | .v (.c (.ptr i o)) => rv (.ptr i o)
  | .v (.c (.elt i t j o)) => rv (.elt i t j o)
  | .v (.c (.elr t d y o)) => guardT (valid ob d) (rv (.elr t d y o))
  | .v (.c (.sel i sv j k o)) => guardT (lookS i sv ob).isSome (rv (.sel i sv j k o))
  | .v (.c (.fn f c)) => rv (.fn f c)
  | _ => .none
def bt (s : ByteArray) (i : Int) : Int := if h : i.toNat < s.size then ((s[i.toNat]'h).toNat : Int) else 0
def indexX (t : TypeId) (x ix : SX S.T) : Ret S :=
  match x, ix with
  | .v (.c (.str s)), .v (.c (.int _ i)) => guardT (isStr S t) <| inB i s.size (rv (.int .u8 (bt s i)))
  | _, _ => .none
def convertX (s d : TypeId) (x : SX S.T) : Ret S :=
  match x with
  | .v (.c (.int _ n)) => guardT (S.known s) <| orNone ((S.td d).bind (·.ik)) fun k => rv (.int k (k.wrap n))
  | _ => .none
def makeFuncX (f : Fn) (first : Array Operand) (xs : List (SX S.T)) : Ret S :=
  match f, first.toList with
  | .func f, [] => orNone (capsOf xs) fun l => rv (.fn f l)
  | _, _ => .none
def extractX (x : SX S.T) (i : Nat) : Ret S :=
  match x with
  | .tup vs => orNone vs[i]? fun v => .ret ⟨.v v, []⟩
  | _ => .none
def zeroX (ob : Ob S.T) (t : TypeId) (a : SX S.T) (h m : Int) : Ret S :=
  guardT (decide (h = 0) && decide (m = 0)) <| match a with
  | .v (.c .nil) => orNone (S.elem t) fun e => guardT (S.known e) (rv .nil)
  | .v (.c x) => orNone (S.elem t) fun e => guardT (S.known e) <| orNone (asList S.ax ob e x) fun p => rv .z0
  | _ => .none
def zero3 (ob : Ob S.T) (t : TypeId) (a h m : SX S.T) : Ret S :=
  match h, m with
  | .v (.c (.int _ h)), .v (.c (.int _ m)) => zeroX ob t a h m
  | _, _ => .none
def sliceOpX (ob : Ob S.T) (t : TypeId) (lo hi mx : Option Operand) (xs : List (SX S.T)) : Ret S :=
  match lo, hi, mx, xs with
  | none, none, none, [a] => sliceX ob t a none none none
  | some _, none, none, [a, l] => sliceX ob t a (some l) none none
  | none, some _, none, [a, h] => sliceX ob t a none (some h) none
  | some _, some _, none, [a, l, h] => sliceX ob t a (some l) (some h) none
  | none, some _, some _, [a, h, m] => zero3 ob t a h m
  | _, _, _, _ => .none
def mget : List (Int × Bool) → Int → Bool
  | [], _ => false
  | p :: r, n => bif decide (n = p.1) then p.2 else mget r n
def mput : List (Int × Bool) → Int → Bool → List (Int × Bool)
  | [], n, b => [(n, b)]
  | p :: r, n, b => bif decide (n = p.1) then (n, b) :: r else p :: mput r n b
def makeMapX (fr : Nat) (t : TypeId) : Ret S := orNone (S.mpk t) fun kk => .ret ⟨.v (.c (.mp fr)), [(fr, some (fr, .mp kk []))]⟩
def lookupX (ob : Ob S.T) (t : TypeId) (m x : SX S.T) : Ret S :=
  match m, x with
  | .v (.c (.mp i)), .v (.c (.int k n)) => match lookB i ob with
    | some (_, .mp kk l) => orNone (S.mpk t) fun k2 => guardT (kbeq k kk && kbeq k2 kk) (rv (.bool (mget l n)))
    | _ => .none
  | _, _ => .none
def mapUpdX (ob : Ob S.T) (fr : Nat) (t : TypeId) (m x v : SX S.T) : Ret S :=
  match m, x, v with
  | .v (.c (.mp i)), .v (.c (.int k n)), .v (.c (.bool b)) => match lookB i ob with
    | some (_, .mp kk l) => orNone (S.mpk t) fun k2 => guardT (kbeq k kk && kbeq k2 kk) (.ret ⟨.v (.c .un), [(i, some (fr, .mp kk (mput l n b)))]⟩)
    | _ => .none
  | _, _, _ => .none
def mxI (a b : Int) : Int := if b > a then b else a
def mnI (a b : Int) : Int := if b < a then b else a
def nilEqX (ob : Ob S.T) (t : TypeId) (x : SX S.T) (neg : Bool) : Ret S :=
  orNone (S.elem t) fun e => match x with
  | .v (.c .nil) => rv (.bool (!neg))
  | .v (.c x) => orNone (asList S.ax ob e x) fun p => .br (decide (p.1.length = 0)) .none (rv (.bool neg))
  | _ => .none
def isPtrT (S : Sig) (t : TypeId) : Bool := match S.P.underlying t with | some (.pointer _) => true | _ => false
def nilPtrX (ob : Ob S.T) (t : TypeId) (x : SX S.T) (neg : Bool) : Ret S :=
  guardT (isPtrT S t) <| match x with
    | .v (.c .np) => rv (.bool (!neg))
    | .v (.c (.ptr _ _)) => rv (.bool neg)
    | .v (.c (.elt _ _ _ _)) => rv (.bool neg)
    | .v (.c (.elr t d y o)) => guardT (valid ob d) (rv (.bool neg))
    | _ => .none
def binopO (ob : Ob S.T) (op : BinOp) (t : TypeId) (x y : SX S.T) : Ret S :=
  match op, y with
  | .eql, .v (.c .nil) => nilEqX ob t x false
  | .neq, .v (.c .nil) => nilEqX ob t x true
  | .eql, .v (.c .np) => nilPtrX ob t x false
  | .neq, .v (.c .np) => nilPtrX ob t x true
  | op, y => binop op t x y
def builtinX (b : Builtin) (ts : Array TypeId) (xs : List (SX S.T)) (ob : Ob S.T) (fr : Nat) : Ret S :=
  match b, ts.toList, xs with
  | .len, [t], [x] => lenX ob t x
  | .append, [t, t2], [s, x] => appendX ob fr t t2 s x
  | .copy, [t, t2], [s, x] => copyX ob fr t t2 s x
  | .max, _, [.v (.c (.int k a)), .v (.c (.int _ b))] => rv (.int k (mxI a b))
  | .min, _, [.v (.c (.int k a)), .v (.c (.int _ b))] => rv (.int k (mnI a b))
  | _, _, _ => .none
def callX (c : Call) (xs : List (SX S.T)) (ob : Ob S.T) (fr : Nat) : Ret S :=
  match c.callee with
  | .builtin b => builtinX b c.argTypes xs ob fr
  | _ => .none
def sem (o : Oper) (xs : List (SX S.T)) (ob : Ob S.T) (fr : Nat) : Ret S :=
  match o.op, xs with
  | .move _, [x] => .ret ⟨x, []⟩
  | .assign _, [x] => .ret ⟨x, []⟩
  | .pick _ _ _, [c, a, b] => pickX c a b
  | .alloc t, [] => orNone (zeros S t) fun cs => newVar fr t cs
  | .box t _, [.v v] => guardT (v.cells.all noUn) (newVar fr t v.cells)
  | .build t ps, xs => buildX t (ps.toList.map (·.1)) xs
  | .buildSlice t n ps, xs => buildSliceX ob fr t n (ps.toList.map (·.1)) xs
  | .load t _, [a] => loadX ob t a
  | .store t _ _, [a, x] => storeX ob fr t a x
  | .nilCheck _, [x] => nilCheckX ob x
  | .binOp op t _ _ _, [x, y] => binopO ob op t x y
  | .unOp op _ _, [x] => unop op x
  | .convert s d _, [x] => convertX s d x
  | .makeFunc f first _, xs => makeFuncX f first xs
  | .makeSlice t _ _, [l, c] => makeSliceX ob fr t l c
  | .fieldAddr t _ f, [a] => fieldAddrX ob t a f
  | .field t _ f, [a] => fieldX t a f
  | .indexAddr t _ _, [a, i] => indexAddrX ob t a i
  | .index t _ _, [a, i] => indexX t a i
  | .slice t _ lo hi mx, xs => sliceOpX ob t lo hi mx xs
  | .extract _ i, [x] => extractX x i
  | .call c, xs => callX c xs ob fr
  | .makeMap t none, [] => makeMapX fr t
  | .lookup t _ _ false, [m, i] => lookupX ob t m i
  | .mapUpdate t _ _ _, [m, i, v] => mapUpdX ob fr t m i v
  | _, _ => .none
def put1 {T : Tys} (ob : Ob T) (p : Nat × Option (Nat × SO T)) : Ob T := match p.2 with | some e => putB p.1 e ob | none => delB p.1 ob
def Upd.obOf {T : Tys} (u : Upd T) (ob : Ob T) : Ob T := u.set.foldl put1 ob
def St.put (σ : St S.T) (d : Nat) (x : SX S.T) : St S.T := { σ with sl := fun s => bif Nat.beq s d then x else σ.sl s }
def St.putO (σ : St S.T) (d : Option Nat) (x : SX S.T) : St S.T := match d with | some d => σ.put d x | none => σ
def St.app (σ : St S.T) (dst : Option Tmp) (u : Upd S.T) : St S.T := { σ.putO dst u.res with ob := u.obOf σ.ob }
end
end Go.Proofs.Ytheemkehedmlfaa.E
