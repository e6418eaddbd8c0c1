import Derived.WalkKit
/-
  AB: an abstract run of the program's own Code over typed values. This text: the types of pure data, abstract values, abstract heap objects.
-/
namespace Go.Ab
inductive Ty where
  | int (k : IntKind)
  | bool
  | str
  | sl (t : Ty)
  | unit
  | pair (a b : Ty)
  | arr (n : Nat) (t : Ty)

def kEq : IntKind → IntKind → Bool
  | .i8, .i8 => true | .i16, .i16 => true | .i32, .i32 => true | .i64, .i64 => true
  | .u8, .u8 => true | .u16, .u16 => true | .u32, .u32 => true | .u64, .u64 => true
  | _, _ => false
theorem kEq_eq {j k : IntKind} (h : kEq j k = true) : j = k := by cases j <;> cases k <;> first | rfl | cases h

def Ty.eqb : Ty → Ty → Bool
  | .int j, .int k => kEq j k
  | .bool, .bool => true
  | .str, .str => true
  | .sl a, .sl b => a.eqb b
  | .unit, .unit => true
  | .pair a b, .pair c d => a.eqb c && b.eqb d
  | .arr n a, .arr m b => Nat.beq n m && a.eqb b
  | _, _ => false
theorem Ty.eqb_eq : ∀ {a b : Ty}, a.eqb b = true → a = b
  | .int j, b, h => by cases b <;> first | (rw [kEq_eq h]) | cases h
  | .bool, b, h => by cases b <;> first | rfl | cases h
  | .str, b, h => by cases b <;> first | rfl | cases h
  | .sl a, b, h => by cases b <;> first | (rw [Ty.eqb_eq (a := a) h]) | cases h
  | .unit, b, h => by cases b <;> first | rfl | cases h
  | .pair a c, b, h => by
    cases b <;> first
      | (simp only [Ty.eqb, Bool.and_eq_true] at h; rw [Ty.eqb_eq (a := a) h.1, Ty.eqb_eq (a := c) h.2])
      | cases h
  | .arr n a, b, h => by
    cases b <;> first
      | (simp only [Ty.eqb, Bool.and_eq_true] at h; rw [Nat.eq_of_beq_eq_true h.1, Ty.eqb_eq (a := a) h.2])
      | cases h

@[reducible] def El : Ty → Type
  | .int _ => Int
  | .bool => Bool
  | .str => List Int
  | .sl t => Option (List (El t))
  | .unit => Unit
  | .pair a b => El a × El b
  | .arr _ t => List (El t)

/-! lists of data, by names of their own -/
@[reducible] def dget {α : Type} (l : List α) (i : Nat) (d : α) : α := l.getD i d
@[reducible] def dset {α : Type} (l : List α) (i : Nat) (x : α) : List α := l.set i x
@[reducible] def dlen {α : Type} (l : List α) : Nat := l.length
@[reducible] def dapp {α : Type} (a b : List α) : List α := a ++ b
@[reducible] def dsub {α : Type} (l : List α) (i j : Nat) : List α := (l.take j).drop i
@[reducible] def drep {α : Type} (n : Nat) (x : α) : List α := List.replicate n x
/-- ys laid over xs, from lo on, up to hi -/
@[reducible] def dcpy {α : Type} (xs : List α) (lo hi : Nat) (ys : List α) : List α := xs.take lo ++ (ys.take (hi - lo) ++ xs.drop (lo + (ys.take (hi - lo)).length))
@[reducible] def dor {α : Type} (o : Option (List α)) : List α := o.getD []
def zero : (u : Ty) → El u
  | .int _ => (0 : Int)
  | .bool => false
  | .str => ([] : List Int)
  | .sl _ => none
  | .unit => ()
  | .pair a b => (zero a, zero b)
  | .arr n t => List.replicate n (zero t)

inductive AV where
  | v (u : Ty) (x : El u)
  | nsl
  | nptr
  | ptr (id ver : Nat) (path : List Nat)
  | pv (u : Ty) (x : El u)
  | hs (id ver : Nat)
  | sv (id ver : Nat) (path : List Nat) (lo hi : Nat)
  | fn (f : FuncId) (caps : AV)
  | nfn
  | nil
  | cons (a b : AV)
  | tup (a : AV)
  | undef
instance : Inhabited AV := ⟨.undef⟩

def castEl {u u' : Ty} (h : u'.eqb u = true) (x : El u') : El u := (Ty.eqb_eq h) ▸ x

def decV (u : Ty) (u' : Ty) (x : El u') : Option (El u) :=
  if h : u'.eqb u = true then some (castEl h x) else none

/-- an abstract value as typed data -/
def dec : (u : Ty) → AV → Option (El u)
  | .pair a b, av => match av with
    | .v u' x => decV (.pair a b) u' x
    | .cons p q => match dec a p, dec b q with
      | some x, some y => some (x, y)
      | _, _ => none
    | _ => none
  | .unit, av => match av with
    | .v u' x => decV .unit u' x
    | .nil => some ()
    | _ => none
  | .sl t, av => match av with
    | .v u' x => decV (.sl t) u' x
    | .nsl => some none
    | _ => none
  | u, av => match av with
    | .v u' x => decV u u' x
    | _ => none

/-- the skeleton of a value: where its parts lie -/
inductive Sk where
  | leaf
  | nil
  | cons (a b : Sk)
  | arr (n : Nat) (a : Sk)
  | bad
def Sk.eqb : Sk → Sk → Bool
  | .leaf, .leaf => true
  | .nil, .nil => true
  | .cons a b, .cons c d => a.eqb c && b.eqb d
  | .arr n a, .arr m b => Nat.beq n m && a.eqb b
  | _, _ => false
theorem Sk.eqb_eq : ∀ {a b : Sk}, a.eqb b = true → a = b
  | .leaf, b, h => by cases b <;> first | rfl | cases h
  | .nil, b, h => by cases b <;> first | rfl | cases h
  | .bad, b, h => by cases b <;> cases h
  | .cons a c, b, h => by
    cases b <;> first
      | (simp only [Sk.eqb, Bool.and_eq_true] at h; rw [Sk.eqb_eq (a := a) h.1, Sk.eqb_eq (a := c) h.2])
      | cases h
  | .arr n a, b, h => by
    cases b <;> first
      | (simp only [Sk.eqb, Bool.and_eq_true] at h; rw [Nat.eq_of_beq_eq_true h.1, Sk.eqb_eq (a := a) h.2])
      | cases h
def Sk.csz : Sk → Nat
  | .leaf => 1
  | .nil => 0
  | .cons a b => a.csz + b.csz
  | .arr n a => n * a.csz
  | .bad => 0
def Sk.isAgg : Sk → Bool
  | .nil | .cons _ _ | .arr _ _ => true
  | _ => false
def Sk.isBad : Sk → Bool
  | .bad => true
  | _ => false
def Sk.noBad : Sk → Bool
  | .bad => false
  | .cons a b => a.noBad && b.noBad
  | .arr _ a => a.noBad
  | _ => true
def Sk.fldC : Nat → Sk → Sk
  | 0, .cons a _ => a
  | j + 1, .cons _ b => b.fldC j
  | _, _ => .bad
def Sk.fld (j : Nat) : Sk → Sk
  | .arr _ a => a
  | a => a.fldC j
def Sk.foffC : Nat → Sk → Nat
  | j + 1, .cons a b => a.csz + b.foffC j
  | _, _ => 0
def Sk.foff (j : Nat) : Sk → Nat
  | .arr _ a => j * a.csz
  | a => a.foffC j
def Sk.okF (j : Nat) : Sk → Prop
  | .arr n _ => j < n
  | _ => True
def Sk.offP : List Nat → Sk → Nat
  | [], _ => 0
  | j :: p, a => a.foff j + (a.fld j).offP p
def Sk.okP : List Nat → Sk → Prop
  | [], _ => True
  | j :: p, a => a.okF j ∧ (a.fld j).okP p
def Sk.fldP : List Nat → Sk → Sk
  | [], a => a
  | j :: p, a => (a.fld j).fldP p
def Ty.sk : Ty → Sk
  | .unit => .nil
  | .pair a b => .cons a.sk b.sk
  | .arr n t => .arr n t.sk
  | _ => .leaf
def Ty.csz (u : Ty) : Nat := u.sk.csz
def Ty.isAgg (u : Ty) : Bool := u.sk.isAgg
def AV.sk : AV → Sk
  | .v u _ => u.sk
  | .cons a b => .cons a.sk b.sk
  | .nil => .nil
  | .tup _ => .bad
  | .undef => .bad
  | _ => .leaf
def AV.csz (a : AV) : Nat := a.sk.csz
def AV.isAgg (a : AV) : Bool := a.sk.isAgg
/-- component j of a struct -/
def AV.fldC : Nat → AV → AV
  | 0, .cons a _ => a
  | 0, .v (.pair a _) x => .v a x.1
  | j + 1, .cons _ b => b.fldC j
  | j + 1, .v (.pair _ b) x => (AV.v b x.2).fldC j
  | _, _ => .undef
def AV.fld (j : Nat) (a : AV) : AV :=
  match a with
  | .v (.arr _ t) xs => .v t (dget xs j (zero t))
  | a => a.fldC j
def AV.setC : Nat → AV → AV → AV
  | 0, .cons _ b, y => .cons y b
  | 0, .v (.pair _ b) x, y => .cons y (.v b x.2)
  | j + 1, .cons a b, y => .cons a (b.setC j y)
  | j + 1, .v (.pair a b) x, y => .cons (.v a x.1) ((AV.v b x.2).setC j y)
  | _, _, _ => .undef
def AV.setF (j : Nat) (a y : AV) : AV :=
  match a with
  | .v (.arr n t) xs => match dec t y with
    | some z => .v (.arr n t) (dset xs j z)
    | none => .undef
  | a => a.setC j y
def AV.getP : List Nat → AV → AV
  | [], a => a
  | j :: p, a => (a.fld j).getP p
def AV.setP : List Nat → AV → AV → AV
  | [], _, y => y
  | j :: p, a, y => a.setF j ((a.fld j).setP p y)

inductive HO where
  | hole
  | box (a : AV)
  | row (e : TypeId) (ver : Nat) (u : Ty) (fn : Bool) (xs : List (El u))
  | frz (ver : Nat) (u : Ty) (c : Option (List (El u)))
  | dead (ver : Nat)
instance : Inhabited HO := ⟨.hole⟩

/-- what a row holds, as a slice: nil or not -/
def rowC {α : Type} (fn : Bool) (xs : List α) : Option (List α) :=
  match fn with
  | false => some xs
  | true => match xs with
    | [] => none
    | x :: r => some (x :: r)
def olen {α : Type} (o : Option (List α)) : Int := match o with
  | none => 0
  | some l => (dlen l : Int)
def oget {α : Type} (o : Option (List α)) (i : Nat) (d : α) : α := match o with
  | none => d
  | some l => dget l i d
def HO.getP : List Nat → HO → AV
  | p, .box a => a.getP p
  | i :: p, .row _ _ u _ xs => (AV.v u (dget xs i (zero u))).getP p
  | _, _ => .undef
def HO.sk : HO → Sk
  | .box a => a.sk
  | .row _ _ u _ xs => .arr xs.length u.sk
  | _ => .bad
def HO.setP : List Nat → HO → AV → HO
  | p, .box a, y => .box (a.setP p y)
  | i :: p, .row e ver u fn xs, y => match dec u ((AV.v u (dget xs i (zero u))).setP p y) with
    | some z => .row e ver u fn (dset xs i z)
    | none => .hole
  | _, _, _ => .hole
def HO.ver : HO → Nat
  | .row _ v _ _ _ => v
  | .frz v _ _ => v
  | .dead v => v
  | _ => 0

/-- programs over the abstract heap -/
inductive HM (α : Type) : Type 1 where
  | ret (a : α)
  | get (id : Nat) (k : HO → HM α)
  | set (id : Nat) (o : HO) (k : HM α)
  | ite (c : Bool) (a b : HM α)
  | opt {X : Type} (o : Option X) (k : X → HM α)
  | fail
namespace HM
def bind {α β : Type} : HM α → (α → HM β) → HM β
  | .ret a, f => f a
  | .get id k, f => .get id fun o => (k o).bind f
  | .set id o k, f => .set id o (k.bind f)
  | .ite c a b, f => .ite c (a.bind f) (b.bind f)
  | .opt o k, f => .opt o fun x => (k x).bind f
  | .fail, _ => .fail
/-- with what comes behind -/
def run {α R : Type} : HM α → List HO → (α → List HO → Option R) → Option R
  | .ret a, h, k => k a h
  | .get id f, h, k => match h[id]? with
    | some .hole => none
    | some o => (f o).run h k
    | none => none
  | .set id o m, h, k => match h[id]? with
    | some _ => m.run (h.set id o) k
    | none => none
  | .ite c a b, h, k => bif c then a.run h k else b.run h k
  | .opt o f, h, k => o.bind fun x => (f x).run h k
  | .fail, _, _ => none
end HM
end Go.Ab
