import Derived.Orders
import Derived.Below
import Derived.Laws.AppendOwn
import Derived.KernelRfl
set_option linter.unusedVariables false
namespace Go.Proofs.Ytheemkehedmlfaa.E
open Go
inductive Tr (U : Type) : Type 1 where
  | none
  | ret (u : U)
  | br (b : Bool) (x y : Tr U)
  | bind {α : Type} (o : Option α) (f : α → Tr U)
def Tr.k {U R : Type} (K : U → Option R) : Tr U → Option R
  | .none => Option.none
  | .ret u => K u
  | .br b x y => cond b (x.k K) (y.k K)
  | .bind o f => o.bind fun a => (f a).k K
def Tr.then {U V : Type} (g : U → Tr V) : Tr U → Tr V
  | .none => .none
  | .ret u => g u
  | .br b x y => .br b (x.then g) (y.then g)
  | .bind o f => .bind o fun a => (f a).then g
def Tr.Can {U : Type} (u : U) : Tr U → Prop
  | .none => False
  | .ret v => v = u
  | .br b x y => (b = true ∧ x.Can u) ∨ (b = false ∧ y.Can u)
  | .bind o f => ∃ a, o = some a ∧ (f a).Can u
theorem Tr.can_of_k {U R : Type} {K : U → Option R} {r : R} : ∀ {t : Tr U}, t.k K = some r → ∃ u, t.Can u ∧ K u = some r
  | .none, h => by simp [Tr.k] at h
  | .ret u, h => ⟨u, rfl, h⟩
  | .br b x y, h => by
    cases b
    · obtain ⟨u, h1, h2⟩ := Tr.can_of_k (t := y) h
      exact ⟨u, .inr ⟨rfl, h1⟩, h2⟩
    · obtain ⟨u, h1, h2⟩ := Tr.can_of_k (t := x) h
      exact ⟨u, .inl ⟨rfl, h1⟩, h2⟩
  | .bind o f, h => by
    cases o with
    | none => simp [Tr.k] at h
    | some a =>
      obtain ⟨u, h1, h2⟩ := Tr.can_of_k (t := f a) h
      exact ⟨u, ⟨a, rfl, h1⟩, h2⟩
theorem Tr.k_then {U V R : Type} (g : U → Tr V) (K : V → Option R) : ∀ t : Tr U, (t.then g).k K = t.k fun u => (g u).k K
  | .none => rfl
  | .ret _ => rfl
  | .br b x y => by simp only [Tr.then, Tr.k, Tr.k_then g K x, Tr.k_then g K y]
  | .bind o f => by simp only [Tr.then, Tr.k, Tr.k_then g K (f _)]
theorem Tr.can_then {U V : Type} {g : U → Tr V} {v : V} : ∀ {t : Tr U}, (t.then g).Can v → ∃ u, t.Can u ∧ (g u).Can v
  | .none, h => h.elim
  | .ret u, h => ⟨u, rfl, h⟩
  | .br b x y, h => by
    rcases h with ⟨hb, h⟩ | ⟨hb, h⟩
    · obtain ⟨u, h1, h2⟩ := Tr.can_then h
      exact ⟨u, .inl ⟨hb, h1⟩, h2⟩
    · obtain ⟨u, h1, h2⟩ := Tr.can_then h
      exact ⟨u, .inr ⟨hb, h1⟩, h2⟩
  | .bind o f, h => by
    obtain ⟨a, ha, h⟩ := h
    obtain ⟨u, h1, h2⟩ := Tr.can_then h
    exact ⟨u, ⟨a, ha, h1⟩, h2⟩
abbrev Tys := TypeId → Type
abbrev Dp := List (Nat × Nat)
inductive SC (T : Tys) : Type where
  | int (k : IntKind) (n : Int)
  | bool (b : Bool)
  | str (s : ByteArray)
  | nil
  | rd (t : TypeId) (d : Dp) (l : List (T t))
  | row (i : Nat)
  | cut (i : Nat) (n : Int)
  | ptr (i : Nat) (off : Nat)
  | elt (i : Nat) (t : TypeId) (j : Int) (off : Nat)
  | elr (t : TypeId) (d : Dp) (x : T t) (off : Nat)
  | fn (f : FuncId) (caps : List Nat)
  | np
  | z0
  | sub (i sv : Nat) (j : Int)
  | sel (i sv : Nat) (j k : Int) (off : Nat)
  | mp (i : Nat)
  | tail (i : Nat) (t : TypeId) (n : Int)
  | un
inductive SV (T : Tys) : Type where
  | c (x : SC T)
  | agg (xs : List (SC T))
inductive SX (T : Tys) : Type where
  | v (x : SV T)
  | tup (xs : List (SV T))
inductive SO (T : Tys) : Type where
  | ext
  | var (t : TypeId) (cs : List (SC T))
  | row (t : TypeId) (d : Dp) (l : List (T t))
  | deep (t : TypeId) (c : Nat) (te : TypeId) (d : Dp) (sv : Nat) (l : List (T t)) (h : Option Int)
  | mp (k : IntKind) (l : List (Int × Bool))
abbrev Ob (T : Tys) := Nat → Option (Nat × SO T)
structure St (T : Tys) : Type where
  sl : Nat → SX T
  ob : Ob T
  nx : Nat
  n : Nat
  lg : List Nat
section
variable {T : Tys}
def SV.cells : SV T → List (SC T)
  | .c x => [x]
  | .agg xs => xs
abbrev lookB {β : Type} (i : Nat) (f : Nat → Option β) : Option β := f i
def putB {β : Type} (i : Nat) (x : β) (f : Nat → Option β) : Nat → Option β := fun a => bif Nat.beq a i then some x else f a
def delB {β : Type} (i : Nat) (f : Nat → Option β) : Nat → Option β := fun a => bif Nat.beq a i then none else f a
def St.get (σ : St T) (s : Nat) : SX T := σ.sl s
def valid (ob : Ob T) : Dp → Bool
  | [] => true
  | p :: d => (match lookB p.1 ob with | some (v, _) => Nat.beq v p.2 | none => false) && valid ob d
end
inductive Ty where
  | nil
  | int (k : IntKind) (r : Ty)
  | bool (r : Ty)
  | str (r : Ty)
  | ref (r : Ty)
  | sl (t : TypeId) (e : Ty) (r : Ty)
def kbeq : IntKind → IntKind → Bool
  | .i8, .i8 => true | .i16, .i16 => true | .i32, .i32 => true | .i64, .i64 => true
  | .u8, .u8 => true | .u16, .u16 => true | .u32, .u32 => true | .u64, .u64 => true
  | _, _ => false
theorem kbeq_eq : ∀ {a b : IntKind}, kbeq a b = true → a = b := by intro a b h; cases a <;> cases b <;> first | rfl | cases h
def Ty.beq : Ty → Ty → Bool
  | .nil, .nil => true
  | .int k r, .int k' r' => kbeq k k' && Ty.beq r r'
  | .bool r, .bool r' => Ty.beq r r'
  | .str r, .str r' => Ty.beq r r'
  | .ref r, .ref r' => Ty.beq r r'
  | .sl t e r, .sl t' e' r' => Nat.beq t t' && Ty.beq e e' && Ty.beq r r'
  | _, _ => false
theorem Ty.beq_eq : ∀ {a b : Ty}, Ty.beq a b = true → a = b
  | .nil, .nil, _ => rfl
  | .int k r, .int k' r', h => by
    simp only [Ty.beq, Bool.and_eq_true] at h
    rw [kbeq_eq h.1, Ty.beq_eq h.2]
  | .bool r, .bool r', h => by rw [Ty.beq_eq (a := r) (b := r') h]
  | .str r, .str r', h => by rw [Ty.beq_eq (a := r) (b := r') h]
  | .ref r, .ref r', h => by rw [Ty.beq_eq (a := r) (b := r') h]
  | .sl t e r, .sl t' e' r', h => by
    simp only [Ty.beq, Bool.and_eq_true] at h
    rw [Nat.eq_of_beq_eq_true h.1.1, Ty.beq_eq h.1.2, Ty.beq_eq h.2]
  | .nil, .int .., h => by cases h
  | .nil, .bool .., h => by cases h
  | .nil, .str .., h => by cases h
  | .nil, .sl .., h => by cases h
  | .nil, .ref .., h => by cases h
  | .int .., .ref .., h => by cases h
  | .bool .., .ref .., h => by cases h
  | .str .., .ref .., h => by cases h
  | .sl .., .ref .., h => by cases h
  | .ref .., .nil, h => by cases h
  | .ref .., .int .., h => by cases h
  | .ref .., .bool .., h => by cases h
  | .ref .., .str .., h => by cases h
  | .ref .., .sl .., h => by cases h
  | .int .., .nil, h => by cases h
  | .int .., .bool .., h => by cases h
  | .int .., .str .., h => by cases h
  | .int .., .sl .., h => by cases h
  | .bool .., .nil, h => by cases h
  | .bool .., .int .., h => by cases h
  | .bool .., .str .., h => by cases h
  | .bool .., .sl .., h => by cases h
  | .str .., .nil, h => by cases h
  | .str .., .int .., h => by cases h
  | .str .., .bool .., h => by cases h
  | .str .., .sl .., h => by cases h
  | .sl .., .nil, h => by cases h
  | .sl .., .int .., h => by cases h
  | .sl .., .bool .., h => by cases h
  | .sl .., .str .., h => by cases h
def glue (A : Type) (r : Ty) (B : Type) : Type := match r with | .nil => A | _ => A × B
def Ty.den : Ty → Type
  | .nil => Unit
  | .int _ r => glue Int r r.den
  | .bool r => glue Bool r r.den
  | .str r => glue ByteArray r r.den
  | .ref r => glue Unit r r.den
  | .sl _ e r => glue (List e.den) r r.den
def Ty.size : Ty → Nat
  | .nil => 0
  | .int _ r => r.size + 1
  | .bool r => r.size + 1
  | .str r => r.size + 1
  | .ref r => r.size + 1
  | .sl _ _ r => r.size + 1
def hd {A B : Type} : (r : Ty) → glue A r B → A
  | .nil, x => x
  | .int .., x => x.1
  | .bool .., x => x.1
  | .str .., x => x.1
  | .ref .., x => x.1
  | .sl .., x => x.1
def tl {A : Type} : (r : Ty) → glue A r r.den → r.den
  | .nil, _ => ()
  | .int .., x => x.2
  | .bool .., x => x.2
  | .str .., x => x.2
  | .ref .., x => x.2
  | .sl .., x => x.2
def cn {A : Type} : (r : Ty) → A → r.den → glue A r r.den
  | .nil, x, _ => x
  | .int .., x, y => (x, y)
  | .bool .., x, y => (x, y)
  | .str .., x, y => (x, y)
  | .ref .., x, y => (x, y)
  | .sl .., x, y => (x, y)
theorem hd_cn {A : Type} (r : Ty) (x : A) (y : r.den) : hd r (cn r x y) = x := by cases r <;> rfl
theorem tl_cn {A : Type} (r : Ty) (x : A) (y : r.den) : tl r (cn r x y) = y := by cases r <;> rfl
def Ty.flat : Ty → Bool
  | .nil => true
  | .int _ r => r.flat
  | .bool r => r.flat
  | .str r => r.flat
  | .ref r => r.flat
  | .sl _ _ _ => false
def Ty.dflt : (y : Ty) → y.den
  | .nil => ()
  | .int _ r => cn r (0 : Int) r.dflt
  | .bool r => cn r false r.dflt
  | .str r => cn r (⟨#[]⟩ : ByteArray) r.dflt
  | .ref r => cn r () r.dflt
  | .sl _ _ r => cn r [] r.dflt
inductive ZC where
  | int (k : IntKind) | bool | str | nil | np | nofn
def ZC.val : ZC → Value
  | .int k => .int k 0 | .bool => .bool false | .str => .string ⟨#[]⟩ | .nil => .slice none 0 0 | .np => .pointer none | .nofn => .nilFunc
def ZC.sc {T : Tys} : ZC → SC T
  | .int k => .int k 0 | .bool => .bool false | .str => .str ⟨#[]⟩ | .nil => .nil | .np => .np | .nofn => .un
structure TD where
  ty : Ty
  size : Nat
  bytes : Nat
  agg : Bool
  fields : List (Nat × TypeId × Nat)
  st : Bool
  bo : Bool
  elem : Option TypeId
  ik : Option IntKind
  zero : List ZC
  slt : List (Option TypeId)
  eq : Bool
end Go.Proofs.Ytheemkehedmlfaa.E
