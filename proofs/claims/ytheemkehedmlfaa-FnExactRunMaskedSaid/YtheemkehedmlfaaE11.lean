import Derived.Test.YtheemkehedmlfaaE10
set_option linter.unusedVariables false
set_option linter.unusedSimpArgs false
namespace Go.Proofs.Ytheemkehedmlfaa.E
open Go
inductive AC (T : Tys) : Type where
  | sc (x : SC T)
  | ls (t : TypeId) (l : List (T t))
inductive AV (T : Tys) : Type where
  | c (x : AC T)
  | agg (xs : List (AC T))
inductive RC (T : Tys) : Type where
  | sc (x : SC T)
  | new (t : TypeId) (l : List (T t))
  | al (t : TypeId) (l : List (T t))
  | dp (t : TypeId) (c : Nat) (te : TypeId) (l : List (T t))
inductive RV (T : Tys) : Type where
  | c (x : RC T)
  | agg (xs : List (RC T))
abbrev Con (S : Sig) := List (AV S.T) → Tr (List (RV S.T))
section
variable {S : Sig}
def plain : SC S.T → Bool
  | .int _ _ => true | .bool _ => true | .str _ => true | .np => true | .nil => true | _ => false
def toAC (ob : Ob S.T) : SC S.T → Option (AC S.T × Dp)
  | .rd t d l => (asList S.ax ob t (.rd t d l)).map fun p => (.ls t p.1, p.2)
  | .row i => match lookR i ob with
    | some ⟨_, t, _, _⟩ => (asList S.ax ob t (.row i)).map fun p => (.ls t p.1, p.2)
    | none => none
  | .cut i n => match lookR i ob with
    | some ⟨_, t, _, _⟩ => (asList S.ax ob t (.cut i n)).map fun p => (.ls t p.1, p.2)
    | none => none
  | .sub i sv j => match lookS i sv ob with
    | some ⟨_, _, _, te, _, _, _, _⟩ => (asList S.ax ob te (.sub i sv j)).map fun p => (.ls te p.1, p.2)
    | none => none
  | .tail i t n => (asList S.ax ob t (.tail i t n)).map fun p => (.ls t p.1, p.2)
  | x => bif plain x then some (.sc x, []) else none
def toACs (ob : Ob S.T) : List (SC S.T) → Option (List (AC S.T) × Dp)
  | [] => some ([], [])
  | c :: r => match toAC ob c, toACs ob r with
    | some (x, d), some (l, d') => some (x :: l, d ++ d')
    | _, _ => none
def toAV (ob : Ob S.T) : SX S.T → Option (AV S.T × Dp)
  | .v (.c x) => (toAC ob x).map fun p => (.c p.1, p.2)
  | .v (.agg xs) => (toACs ob xs).map fun p => (.agg p.1, p.2)
  | .tup _ => none
def toAVs (ob : Ob S.T) : List (SX S.T) → Option (List (AV S.T) × Dp)
  | [] => some ([], [])
  | c :: r => match toAV ob c, toAVs ob r with
    | some (x, d), some (l, d') => some (x :: l, d ++ d')
    | _, _ => none
def ofRC (D : Dp) (fr : Nat) : RC S.T → SC S.T × List (Nat × Option (Nat × SO S.T)) × Nat
  | .sc x => (x, [], fr)
  | .new t l => (.row fr, [(fr, some (fr, .row t [] l))], fr + 1)
  | .al t l => (.rd t ((fr, fr) :: D) l, [(fr, some (fr, .ext))], fr + 1)
  | .dp t c te l => (.row fr, [(fr, some (fr, .deep t c te [] fr l none))], fr + 1)
def ofRCs (D : Dp) : Nat → List (RC S.T) → List (SC S.T) × List (Nat × Option (Nat × SO S.T)) × Nat
  | fr, [] => ([], [], fr)
  | fr, c :: r => match ofRC D fr c with
    | (x, s, fr1) => match ofRCs D fr1 r with
      | (xs, s', fr2) => (x :: xs, s ++ s', fr2)
def ofRV (D : Dp) (fr : Nat) : RV S.T → SV S.T × List (Nat × Option (Nat × SO S.T)) × Nat
  | .c x => match ofRC D fr x with | (y, s, fr1) => (.c y, s, fr1)
  | .agg xs => match ofRCs D fr xs with | (ys, s, fr1) => (.agg ys, s, fr1)
def ofRVs (D : Dp) : Nat → List (RV S.T) → List (SV S.T) × List (Nat × Option (Nat × SO S.T)) × Nat
  | fr, [] => ([], [], fr)
  | fr, c :: r => match ofRV D fr c with
    | (x, s, fr1) => match ofRVs D fr1 r with
      | (xs, s', fr2) => (x :: xs, s ++ s', fr2)
def oneOf (xs : List (SV S.T)) : SX S.T := match xs with | [x] => .v x | xs => .tup xs
def useCon (g : Con S) (xs : List (SX S.T)) (ob : Ob S.T) (fr : Nat) : Ret S :=
  orNone (toAVs ob xs) fun p => (g p.1).then fun rs => match ofRVs p.2 fr rs with
    | (ys, s, fr1) => guardT (Nat.ble fr1 (fr + 8)) (.ret ⟨oneOf ys, s⟩)
end
end Go.Proofs.Ytheemkehedmlfaa.E
