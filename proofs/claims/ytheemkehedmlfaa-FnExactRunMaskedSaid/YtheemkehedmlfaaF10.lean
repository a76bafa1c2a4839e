import Derived.Test.YtheemkehedmlfaaF8
set_option linter.unusedVariables false
set_option linter.unusedSimpArgs false
namespace Go.Proofs.Ytheemkehedmlfaa.E
open Go
section
variable {S : Sig}
def getN : List Nat → Nat → Nat
  | [], _ => 0
  | x :: _, 0 => x
  | _ :: r, n + 1 => getN r n
def depM (acc : List Nat) : List Edge → Nat
  | [] => 0
  | e :: r => bif Region.binds .any e then Nat.lor (Nat.lor (Nat.shiftLeft 1 e.on) (getN acc e.on)) (depM acc r) else depM acc r
def befL (acc : List Nat) : List Oper → List Nat
  | [] => acc
  | o :: r => befL (acc ++ [depM acc o.after.toList]) r
def dstL (i : Nat) : List Oper → List (Nat × Nat)
  | [] => []
  | o :: r => match o.dst with | some d => (d, i) :: dstL (i + 1) r | none => dstL (i + 1) r
def seenOk (dl : List (Nat × Nat)) (bef : List Nat) (i : Nat) : Operand → Bool
  | .tmp t => match lookL t dl with | some j => (Nat.blt j i && bitN (getN bef i) j) || (Nat.blt i j && bitN (getN bef j) i) | none => true
  | _ => true
def edgesOk (i : Nat) : List Edge → Bool
  | [] => true
  | e :: r => (!(Region.binds .any e) || Nat.blt e.on i) && edgesOk i r
def opsOk (n : Nat) (dl : List (Nat × Nat)) (bef : List Nat) : Nat → List Oper → Bool
  | _, [] => true
  | i, o :: r => dstFits n o && edgesOk i o.after.toList && (o.op.operands.toList.all (seenOk dl bef i)) && (match o.guard with | some (j, _) => bitN (getN bef i) j | none => true) &&
      (match o.op with | .select _ _ => false | _ => true) && opsOk n dl bef (i + 1) r
abbrev Os (T : Tys) := List (Nat × List (Nat × Option (Nat × SO T)))
def findO {T : Tys} (m a : Nat) : Os T → Option (Option (Nat × SO T))
  | [] => none
  | p :: r => match findO m a r with
    | some x => some x
    | none => bif bitN m p.1 then lookL a p.2 else none
def obsOf {T : Tys} (ob : Ob T) (m : Nat) (os : Os T) : Ob T := fun a => match findO m a os with | some x => x | none => ob a
def freshOk {T : Tys} (fr : Nat) : List (Nat × Option (Nat × SO T)) → Bool
  | [] => true
  | p :: r => Nat.blt p.1 (fr + 8) && !(hasN p.1 (r.map (·.1))) && freshOk fr r
def freshSet {T : Tys} (fr : Nat) (s : List (Nat × Option (Nat × SO T))) : Option (List (Nat × Option (Nat × SO T))) := bif freshOk fr s then some s else none
def light (o : Oper) : Bool := match o.op with | .move _ => true | .assign _ => true | .extract _ _ => true | .convert _ _ _ => true | .unOp _ _ _ => true | _ => false
def keyIn {T : Tys} (a : Nat) (l : List (Nat × Option (Nat × SO T))) : Bool := hasN a (l.map (·.1))
def visL {T : Tys} (b : Nat) (bef : List Nat) (os : Os T) (w a : Nat) : Nat → List Oper → Bool
  | _, [] => true
  | i, o :: r => (Nat.beq i w || light o || bitN (getN bef i) w || bitN (getN bef w) i || (Nat.ble b a && os.all fun q => !(keyIn a q.2) || (!(Nat.beq q.1 i) && !(bitN (getN bef i) q.1)))) && visL b bef os w a (i + 1) r
def visOk {T : Tys} (b : Nat) (bef : List Nat) (os : Os T) (i0 : Nat) (l : List Oper) : Bool := os.all fun p => p.2.all fun q => Nat.ble (b + 8 * p.1) q.1 || visL b bef os p.1 q.1 i0 l
def opD (C : Cons S) (o : Oper) (xs : List (SX S.T)) (ob : Ob S.T) (fr : Nat) : Ret S :=
  match o.op, xs with
  | .call { callee := .value _, .. }, .v (.c (.fn f [])) :: xs => orNone (C f) fun g => useCon g xs ob fr
  | .call { callee := .value _, .. }, _ => .none
  | _, _ => sem o xs ob fr
def actD (C : Cons S) (ob : Ob S.T) (fr m i : Nat) (o : Oper) (σ : St S.T) (os : Os S.T) : Tr (St S.T × Os S.T) :=
  (opD C o (σ.opds o) (obsOf ob m os) fr).then fun u => orNone (freshSet fr u.set) fun l => .ret (σ.putO o.dst u.res, os ++ [(i, l)])
def skipD (i : Nat) (o : Oper) (σ : St S.T) (os : Os S.T) : Tr (St S.T × Os S.T) := .ret (σ.putO o.dst (.tup []), os ++ [(i, [])])
def stepD (C : Cons S) (ops : Array Oper) (ob : Ob S.T) (fr m i : Nat) (o : Oper) (σ : St S.T) (os : Os S.T) : Tr (St S.T × Os S.T) :=
  match o.guard with
  | none => actD C ob fr m i o σ os
  | some (j, want) => orNone (dstOf ops j) fun d => match σ.get d with
    | .v (.c (.bool b)) => .br b (bif want then actD C ob fr m i o (σ.put d (litB true)) os else skipD i o (σ.put d (litB true)) os) (bif want then skipD i o (σ.put d (litB false)) os else actD C ob fr m i o (σ.put d (litB false)) os)
    | .tup [] => skipD i o σ os
    | _ => .none
def inlD (I : Inl S) (xs : List (SX S.T)) (ob : Ob S.T) (fr : Nat) : Tr (SX S.T × St S.T) := match xs with
  | .v (.c (.fn f caps)) :: xs => guardT (caps.all (oneCap ob)) (I f (xs ++ caps.map capX) ob fr)
  | _ => .none
def entsI (r : SX S.T × St S.T) : List (Nat × Option (Nat × SO S.T)) := (addN [] r.2.lg).map fun a => (a, r.2.ob a)
def freshI (b fr k : Nat) (r : SX S.T × St S.T) : Option (List (Nat × Option (Nat × SO S.T))) :=
  bif (addN [] r.2.lg).all (fun a => Nat.blt a (b + 8 * k) || Nat.ble fr a) && Nat.ble fr r.2.nx then some (entsI r) else none
def isCallV (o : Oper) : Bool := match o.op with | .call { callee := .value _, .. } => true | _ => false
def stepI (I : Inl S) (ob : Ob S.T) (b fr m i : Nat) (o : Oper) (σ : St S.T) (os : Os S.T) : Tr (St S.T × Os S.T) :=
  guardT (isCallV o) <| (inlD I (σ.opds o) (obsOf ob m os) fr).then fun r => orNone (freshI b fr i r) fun l => .ret ({ σ.putO o.dst r.1 with nx := r.2.nx }, os ++ [(i, l)])
def isInl (C : Cons S) (o : Oper) : Bool := match o.op, o.guard with
  | .call { callee := .value (.func f), .. }, none => (match C f with | some _ => false | none => true)
  | .call { callee := .value _, .. }, none => true
  | _, _ => false
def kIOf (C : Cons S) (n : Nat) : Nat → List Oper → Nat
  | _, [] => n
  | i, o :: r => bif isInl C o then i else kIOf C n (i + 1) r
def soloOk {T : Tys} (bef : List Nat) (os : Os T) (kI : Nat) : Nat → List Oper → Bool
  | _, [] => true
  | i, o :: r => (Nat.beq i kI || bitN (getN bef i) kI || bitN (getN bef kI) i || light o || os.all fun q => !(Nat.beq q.1 i) || (match q.2 with | [] => true | _ => false)) && soloOk bef os kI (i + 1) r
def runD (C : Cons S) (I : Inl S) (ops : Array Oper) (ob : Ob S.T) (b kI frI : Nat) (bef : List Nat) : Nat → List Oper → St S.T → Os S.T → Tr (St S.T × Os S.T)
  | _, [], σ, os => .ret (σ, os)
  | i, o :: r, σ, os => (bif Nat.beq i kI && o.guard.isNone then stepI I ob b frI (getN bef i) i o σ os else stepD C ops ob (b + 8 * i) (getN bef i) i o σ os).then fun p => runD C I ops ob b kI frI bef (i + 1) r p.1 p.2
def nxE (m x : Nat) : Nat := bif Nat.ble m x then x else m
def allM (n : Nat) : Nat := Nat.shiftLeft 1 n - 1
def cutB (bef : List Nat) (n c : Nat) : Nat → Bool
  | 0 => true
  | k + 1 => Nat.beq (Nat.land (getN bef (n - (k + 1))) (allM c)) (allM c) && cutB bef n c k
def segL (bef : List Nat) (n i : Nat) : Nat → Nat → Nat
  | 0, m => m
  | k + 1, m => bif cutB bef n (i + m) (n - (i + m)) then m else segL bef n i k (m + 1)
def gdOk (ops : Array Oper) (dl : List (Nat × Nat)) (b0 : Nat) : List Oper → Bool
  | [] => true
  | o :: r => (match o.guard with
    | some (j, _) => (match dstOf ops j with
      | some d => (match lookL d dl with | some _ => Nat.ble b0 j | none => true)
      | none => true)
    | none => true) && gdOk ops dl b0 r
def edgesAll : Nat → List Oper → Bool
  | _, [] => true
  | i, o :: r => edgesOk i o.after.toList && (match o.op with | .select _ _ => false | _ => true) && edgesAll (i + 1) r
def preG (ops : Array Oper) (i : Nat) : List Oper → St S.T → Tr (St S.T)
  | [], σ => .ret σ
  | o :: r, σ =>
    let t : Tr (St S.T) := match o.guard with
      | some (j, _) => (bif Nat.blt j i then (match dstOf ops j with
        | some d => (match σ.get d with
          | .v (.c (.bool b)) => .br b (.ret (σ.put d (litB true))) (.ret (σ.put d (litB false)))
          | _ => .ret σ)
        | none => .ret σ) else .ret σ)
      | none => .ret σ
    t.then fun σ => preG ops i r σ
def forceN {α : Type _} (m : Nat) (f : Nat → α) : α := match m with | 0 => f 0 | k + 1 => f (k + 1)
def forceL {α : Type _} : List Nat → (List Nat → α) → α
  | [], f => f []
  | x :: r, f => forceN x fun x => forceL r fun r => f (x :: r)
def drawS (B : Tb S) (I : Inl S) (ops : Array Oper) (bef : List Nat) (n : Nat) : Nat → Nat → List Oper → St S.T → Tr (St S.T)
  | _, _, [], σ => .ret σ
  | 0, _, _ :: _, _ => .none
  | fuel + 1, i, o :: r, σ =>
    forceN (segL bef n i (n - i) 1) fun m => forceN (i + m) fun c =>
    guardT (Nat.ble c n && cutB bef n c (n - c)) <|
      bif Nat.beq m 1 then (guardT (dstFits σ.n o) (stepO B.C I ops o σ)).then fun σ1 => drawS B I ops bef n fuel c r σ1
      else
        let l := (o :: r).take m
        let dl := dstL i l
        (preG ops i l σ).then fun σ => guardT (noDup (dl.map (·.1)) && opsOk σ.n dl bef i l && gdOk ops dl i l) <| forceN (kIOf B.C c i l) fun kI => (runD B.C I ops σ.ob σ.nx kI (σ.nx + 8 * n) bef i l σ []).then fun p => guardT (visOk σ.nx bef p.2 i l && (Nat.beq kI c || soloOk bef p.2 kI i l)) <|
          drawS B I ops bef n fuel c ((o :: r).drop m) { p.1 with ob := obsOf σ.ob (allM c) p.2, nx := nxE (σ.nx + 8 * c) p.1.nx, lg := (p.2.flatMap fun q => q.2.map (·.1)) ++ σ.lg }
def drawR (B : Tb S) (I : Inl S) (ops : Array Oper) (σ : St S.T) : Tr (St S.T) :=
  guardT (edgesAll 0 ops.toList) <| forceL (befL [] ops.toList) fun bef => forceN ops.toList.length fun n => drawS B I ops bef n n 0 ops.toList σ
end
end Go.Proofs.Ytheemkehedmlfaa.E
