import Derived.Test.YtjmikonopapihaaAbTy
/-
  AB: the abstract run itself: operations, regions, code, calls by specifications.
-/
namespace Go.Ab
open HM

/-! ### types -/
def fieldsTy (f : TypeId → Option Ty) : List Field → Option Ty
  | [] => some .unit
  | fd :: r => match f fd.type, fieldsTy f r with
    | some a, some b => some (.pair a b)
    | _, _ => none
def tyOf (P : Program) : Nat → TypeId → Option Ty
  | 0, _ => none
  | n + 1, t => match P.underlying t with
    | some (.int k) => some (.int k)
    | some .bool => some .bool
    | some .string => some .str
    | some (.slice e) => (tyOf P n e).map .sl
    | some (.array m e) => (tyOf P n e).map (.arr m)
    | some (.struct fs) => fieldsTy (tyOf P n) fs.toList
    | _ => none
def ty (P : Program) (t : TypeId) : Option Ty := tyOf P 12 t
def elemOf (P : Program) (t : TypeId) : Option TypeId := match P.underlying t with
  | some (.slice e) => some e
  | _ => none
/-- types with pointers among them -/
inductive MT where
  | pure (u : Ty)
  | ptr
  | fn
  | sl
  | nil
  | cons (a b : MT)
def MT.zero : MT → AV
  | .pure u => .v u (Ab.zero u)
  | .ptr => .nptr
  | .fn => .nfn
  | .sl => .nsl
  | .nil => .nil
  | .cons a b => .cons a.zero b.zero
def mchain (f : TypeId → Option MT) : List Field → Option MT
  | [] => some .nil
  | fd :: r => match f fd.type, mchain f r with
    | some a, some b => some (.cons a b)
    | _, _ => none
def mtOf (P : Program) : Nat → TypeId → Option MT
  | 0, _ => none
  | n + 1, t => match ty P t with
    | some u => some (.pure u)
    | none => match P.underlying t with
      | some (.pointer _) => some .ptr
      | some (.slice _) => some .sl
      | some (.func _ _ _) => some .fn
      | some (.struct fs) => mchain (mtOf P n) fs.toList
      | _ => none
def repTake (f : List Value → Option (List Value)) : Nat → List Value → Option (List Value)
  | 0, cs => some cs
  | n + 1, cs => match f cs with
    | some r => repTake f n r
    | none => none
/-- the cells begin with those of the zero value; what is left -/
def zTake : Ty → List Value → Option (List Value)
  | .int k, cs => match cs with
    | .int k' 0 :: r => bif kEq k k' then some r else none
    | _ => none
  | .bool, cs => match cs with
    | .bool false :: r => some r
    | _ => none
  | .str, cs => match cs with
    | .string s :: r => bif Nat.beq s.data.toList.length 0 then some r else none
    | _ => none
  | .sl _, cs => match cs with
    | .slice none 0 0 :: r => some r
    | _ => none
  | .unit, cs => some cs
  | .pair a b, cs => match zTake a cs with
    | some r => zTake b r
    | none => none
  | .arr n t, cs => repTake (zTake t) n cs
def MT.zTake : MT → List Value → Option (List Value)
  | .pure u, cs => Ab.zTake u cs
  | .ptr, cs => match cs with
    | .pointer none :: r => some r
    | _ => none
  | .fn, cs => match cs with
    | .nilFunc :: r => some r
    | _ => none
  | .sl, cs => match cs with
    | .slice none 0 0 :: r => some r
    | _ => none
  | .nil, cs => some cs
  | .cons a b, cs => match a.zTake cs with
    | some r => b.zTake r
    | none => none
def isAggV : Value → Bool
  | .agg _ => true
  | _ => false
def bEq : Bool → Bool → Bool
  | true, true => true
  | false, false => true
  | _, _ => false
def noneLeft : Option (List Value) → Bool
  | some [] => true
  | _ => false
def zeroAV (P : Program) (t : TypeId) : Option AV :=
  match mtOf P 6 t, P.info? t with
  | some m, some i => match i.zero with
    | some z => bif noneLeft (m.zTake z.cells.toList) && bEq (isAggV z) m.zero.isAgg then some m.zero else none
    | none => none
  | _, _ => none
/-- an element's type: its size and its zero value are those of u -/
def elOk (P : Program) (e : TypeId) (u : Ty) : Bool :=
  match P.info? e with
  | some i => Nat.beq i.size u.csz && Nat.blt 0 u.csz && (match i.zero with
    | some z => noneLeft (zTake u z.cells.toList)
    | none => false)
  | none => false
def aggOf (P : Program) (t : TypeId) : Option Bool := match P.underlying t with
  | some (.struct _) | some (.array _ _) => some true
  | some _ => some false
  | none => none
def szOk (P : Program) (t : TypeId) (a : AV) : Bool :=
  match P.info? t, aggOf P t with
  | some i, some g => Nat.beq i.size a.csz && bEq g a.isAgg && !a.sk.isBad
  | _, _ => false
def fieldOk (P : Program) (t : TypeId) (j : Nat) (off : Nat) (a : AV) : Bool :=
  match P.underlying t with
  | some (.struct fs) => match fs[j]? with
    | some f => Nat.beq f.offset off && szOk P f.type a && !(Nat.beq a.csz 0)
    | none => false
  | _ => false
/-- the elements of a slice or an array have the size -/
def slOk (P : Program) (t : TypeId) (n : Nat) : Bool := match P.underlying t with
  | some (.slice e) => (match P.info? e with
    | some i => Nat.beq i.size n
    | none => false)
  | _ => false
def arOk (P : Program) (t : TypeId) (m n : Nat) : Bool := match P.underlying t with
  | some (.array l e) => Nat.beq l m && Nat.ble m 16777216 && (match P.info? e with
    | some i => Nat.beq i.size n
    | none => false)
  | _ => false
def stOk (P : Program) (t : TypeId) : Bool := match P.underlying t with
  | some .string => true
  | _ => false

/-! ### constants -/
def cval : Value → AV
  | .int k n => bif decide (k.wrap n = n) then .v (.int k) n else .undef
  | .bool b => .v .bool b
  | .string s => bif Nat.ble s.size 140737488355328 then .v .str (s.data.toList.map fun b => (b.toNat : Int)) else .undef
  | .slice none 0 0 => .nsl
  | .pointer none => .nptr
  | .nilFunc => .nfn
  | _ => .undef
def evalO (t : List AV) : Operand → AV
  | .tmp i => t.getD i .undef
  | .const c => cval c
  | .func f => .fn f .nil
  | .global _ => .undef

/-! ### reading slices -/
def unhs : AV → HM AV
  | .hs id ver => .get id fun
    | .row _ ver' u fn xs => if Nat.beq ver ver' then .set id (.frz ver u (rowC fn xs)) (.ret (.v (.sl u) (rowC fn xs))) else .fail
    | .frz ver' u c => if Nat.beq ver ver' then .ret (.v (.sl u) c) else .fail
    | _ => .fail
  | .cons a b => (unhs a).bind fun x => (unhs b).bind fun y => .ret (.cons x y)
  | a => .ret a
def peekHs : AV → HM AV
  | .hs id ver => .get id fun
    | .row _ ver' u fn xs => if Nat.beq ver ver' then .ret (.v (.sl u) (rowC fn xs)) else .fail
    | .frz ver' u c => if Nat.beq ver ver' then .ret (.v (.sl u) c) else .fail
    | _ => .fail
  | .sv id ver path lo hi => .get id fun
    | .box a => bif Nat.beq ver 0 then (match a.getP path with
      | .v (.arr _ u) xs => .ret (.v (.sl u) (some (dsub xs lo hi)))
      | _ => .fail) else .fail
    | _ => .fail
  | a => .ret a
def need {α : Type} (c : Bool) (m : HM α) : HM α := .ite c m .fail

/-! ### arithmetic -/
def bitsF (op : BinOp) (k : IntKind) (x y : Int) : Int :=
  let a := BitVec.ofInt k.bits x
  let b := BitVec.ofInt k.bits y
  match op with
  | .and => k.wrap (a &&& b).toNat
  | .or => k.wrap (a ||| b).toNat
  | .xor => k.wrap (a ^^^ b).toNat
  | _ => k.wrap (a &&& ~~~b).toNat
def eqbL : List Int → List Int → Bool := fun a b => decide (a = b)
def cmpOk : Ty → Bool
  | .sl _ => false
  | .pair a b => cmpOk a && cmpOk b
  | .arr _ t => cmpOk t
  | _ => true
def eqLs {α : Type} (f : α → α → Bool) : List α → List α → Bool
  | [], [] => true
  | a :: x, b :: y => f a b && eqLs f x y
  | _, _ => false
def eqT : (u : Ty) → El u → El u → Bool
  | .int _, a, b => decide ((a : Int) = b)
  | .bool, a, b => a == b
  | .str, a, b => eqbL a b
  | .sl _, _, _ => false
  | .unit, _, _ => true
  | .pair u v, a, b => eqT u a.1 b.1 && eqT v a.2 b.2
  | .arr _ u, a, b => eqLs (eqT u) a b
/-- values of a type may be compared: all fields count, no address of a package that is stood in for; where the parts lie -/
def eqFlds (P : Program) : TypeId ⊕ (List Field × Nat) → Option (List Field × Nat)
  | .inl t => match P.underlying t with
    | some (.struct fs) => bif P.stoodInHeld t then none else some (fs.toList, 0)
    | _ => none
  | .inr x => some x
def eqG (P : Program) : Ty → TypeId ⊕ (List Field × Nat) → Bool
  | .int k, m => match m with
    | .inl t => (match P.underlying t with
      | some (.int k') => kEq k k'
      | _ => false)
    | _ => false
  | .bool, m => match m with
    | .inl t => (match P.underlying t with
      | some .bool => true
      | _ => false)
    | _ => false
  | .str, m => match m with
    | .inl t => (match P.underlying t with
      | some .string => true
      | _ => false)
    | _ => false
  | .arr n u, m => match m with
    | .inl t => (match P.underlying t with
      | some (.array n' e) => Nat.beq n n' && szOk P e (.v u (zero u)) && eqG P u (.inl e)
      | _ => false)
    | _ => false
  | .unit, m => match eqFlds P m with
    | some ([], _) => true
    | _ => false
  | .pair a b, m => match eqFlds P m with
    | some (f :: r, off) => !(f.name == "_") && Nat.beq f.offset off && szOk P f.type (.v a (zero a)) && eqG P a (.inl f.type) && eqG P b (.inr (r, off + a.csz))
    | _ => false
  | .sl _, _ => false
def Ty.depth : Ty → Nat
  | .pair a b => a.depth + b.depth + 1
  | .arr _ u => u.depth + 1
  | _ => 1
inductive NK where
  | ptr
  | sl
  | fn
def NK.eqb : NK → NK → Bool
  | .ptr, .ptr => true
  | .sl, .sl => true
  | .fn, .fn => true
  | _, _ => false
def nkOf (P : Program) (t : TypeId) : Option NK := match P.underlying t with
  | some (.pointer _) => some .ptr
  | some (.slice _) => some .sl
  | some (.func _ _ _) => some .fn
  | _ => none
/-- is it nil? and of which kind is it -/
def isNilA : AV → Option (NK × Bool)
  | .nptr => some (.ptr, true)
  | .nsl => some (.sl, true)
  | .nfn => some (.fn, true)
  | .ptr _ _ _ => some (.ptr, false)
  | .pv _ _ => some (.ptr, false)
  | .fn _ _ => some (.fn, false)
  | .v (.sl _) o => some (.sl, o.isNone)
  | _ => none
def nilKind : AV → Option NK
  | .nptr => some .ptr
  | .nsl => some .sl
  | .nfn => some .fn
  | _ => none
def intOp (op : BinOp) (k : IntKind) (a b : Int) : HM AV :=
  match op with
  | .add => .ret (.v (.int k) (k.wrap (a + b)))
  | .sub => .ret (.v (.int k) (k.wrap (a - b)))
  | .mul => .ret (.v (.int k) (k.wrap (a * b)))
  | .quo => need (!decide (b = 0)) (.ret (.v (.int k) (k.wrap (a.tdiv b))))
  | .rem => need (!decide (b = 0)) (.ret (.v (.int k) (a.tmod b)))
  | .eql => .ret (.v .bool (decide (a = b)))
  | .neq => .ret (.v .bool (!decide (a = b)))
  | .lss => .ret (.v .bool (decide (a < b)))
  | .leq => .ret (.v .bool (decide (a ≤ b)))
  | .gtr => .ret (.v .bool (decide (b < a)))
  | .geq => .ret (.v .bool (decide (b ≤ a)))
  | .shl | .shr => .fail
  | op => .ret (.v (.int k) (bitsF op k a b))
def shiftF (op : BinOp) (k : IntKind) (a b : Int) : HM AV :=
  match op with
  | .shl => need (decide (0 ≤ b)) (.ret (.v (.int k) (k.wrap (a * 2 ^ min b.toNat k.bits))))
  | .shr => need (decide (0 ≤ b)) (.ret (.v (.int k) (a.fdiv (2 ^ min b.toNat k.bits))))
  | _ => .fail
def isShift : BinOp → Bool
  | .shl | .shr => true
  | _ => false
def strOp (op : BinOp) (a b : List Int) : HM AV :=
  match op with
  | .add => need (Nat.ble (dlen a + dlen b) 140737488355328) (.ret (.v .str (dapp a b)))
  | .eql => .ret (.v .bool (eqbL a b))
  | .neq => .ret (.v .bool (!eqbL a b))
  | _ => .fail
def eqA (P : Program) (t : TypeId) (x y : AV) : HM Bool :=
  match nilKind y with
  | some k => match isNilA x, nkOf P t with
    | some (k', b), some k'' => bif k.eqb k' && k.eqb k'' then .ret b else .fail
    | _, _ => .fail
  | none => match ty P t with
    | some u => bif eqG P u (.inl t) && Nat.ble u.depth 9000 && !(P.eqGuardType P.depth t) then (match dec u x, dec u y with
      | some a, some b => .ret (eqT u a b)
      | _, _ => .fail) else .fail
    | none => .fail
def binA (P : Program) (op : BinOp) (t : TypeId) (x y : AV) : HM AV :=
  match x, y with
  | .v (.int k) a, .v (.int k') b => bif isShift op then shiftF op k a b else bif kEq k k' then intOp op k a b else .fail
  | .v .str a, .v .str b => strOp op a b
  | x, y => match op with
    | .eql => (eqA P t x y).bind fun b => .ret (.v .bool b)
    | .neq => (eqA P t x y).bind fun b => .ret (.v .bool (!b))
    | _ => .fail
def unA (op : UnOp) (x : AV) : HM AV :=
  match op, x with
  | .not, .v .bool b => .ret (.v .bool (!b))
  | .neg, .v (.int k) n => .ret (.v (.int k) (k.wrap (0 - n)))
  | .xor, .v (.int k) n => .ret (.v (.int k) (bitsF .xor k (if k.signed then -1 else k.max) n))
  | _, _ => .fail
def isByteE (P : Program) (t : TypeId) : Bool := match P.underlying t with
  | some (.slice e) => match P.underlying e with
    | some (.int .u8) => true
    | _ => false
  | _ => false
def convA (P : Program) (src dst : TypeId) (x : AV) : HM AV :=
  match x with
  | .v (.int _) n => match P.underlying dst, P.underlying src with
    | some (.int k), some _ => .ret (.v (.int k) (k.wrap n))
    | _, _ => .fail
  | .v .str s => match P.underlying dst, P.underlying src with
    | some .string, some .string => .ret (.v .str s)
    | _, some .string => bif isByteE P dst then .ret (.v (.sl (.int .u8)) (some s)) else .fail
    | _, _ => .fail
  | x => match P.underlying dst with
    | some .string => bif isByteE P src then (peekHs x).bind fun
      | .v (.sl (.int .u8)) o => .ret (.v .str (dor o))
      | .nsl => .ret (.v .str [])
      | _ => .fail
      else .fail
    | _ => .fail

/-! ### memory -/
def loadA (P : Program) (t : TypeId) (p : AV) : HM AV :=
  match p with
  | .ptr id ver path => .get id fun o => bif Nat.beq ver o.ver && szOk P t (o.getP path) then .ret (o.getP path) else .fail
  | .pv u x => bif szOk P t (.v u x) then .ret (.v u x) else .fail
  | _ => .fail
def storeA (P : Program) (t : TypeId) (p x : AV) : HM Unit :=
  match p with
  | .ptr id ver path => .get id fun
    | .box a => bif Nat.beq ver 0 && szOk P t (a.getP path) && szOk P t x && Sk.eqb (a.setP path x).sk a.sk && a.sk.noBad then .set id (.box (a.setP path x)) (.ret ()) else .fail
    | .row e ver' u fn xs => match path with
      | i :: p => bif Nat.beq ver ver' && szOk P t ((AV.v u (dget xs i (zero u))).getP p) && szOk P t x then (match dec u ((AV.v u (dget xs i (zero u))).setP p x) with
        | some z => .set id (.row e ver' u fn (dset xs i z)) (.ret ())
        | none => .fail) else .fail
      | [] => .fail
    | _ => .fail
  | _ => .fail
def faddrA (P : Program) (t : TypeId) (p : AV) (j : Nat) : HM AV :=
  match p with
  | .ptr id ver path => .get id fun o => bif Nat.beq ver o.ver && fieldOk P t j ((o.getP path).sk.foffC j) ((o.getP path).fldC j) then .ret (.ptr id ver (path ++ [j])) else .fail
  | .pv u x => match (AV.v u x).fldC j with
    | .v u' x' => bif fieldOk P t j (u.sk.foffC j) (.v u' x') then .ret (.pv u' x') else .fail
    | _ => .fail
  | _ => .fail
def idxOk (n : Int) (len : Int) : Bool := decide (0 ≤ n) && decide (n < len)
def iaddrA (P : Program) (t : TypeId) (x i : AV) : HM AV :=
  match i with
  | .v (.int _) n => match x with
    | .v (.sl u) o => bif slOk P t u.csz then need (idxOk n (olen o)) (.ret (.pv u (oget o n.toNat (zero u)))) else .fail
    | .hs id ver => .get id fun
      | .row _ ver' u _ xs => bif Nat.beq ver ver' && slOk P t u.csz then need (idxOk n (dlen xs)) (.ret (.ptr id ver [n.toNat])) else .fail
      | .frz ver' u c => bif Nat.beq ver ver' && slOk P t u.csz then need (idxOk n (olen c)) (.ret (.pv u (oget c n.toNat (zero u)))) else .fail
      | _ => .fail
    | .ptr id ver path => .get id fun o => bif Nat.beq ver o.ver then (match o.getP path with
      | .v (.arr m u) _ => bif arOk P t m u.csz then need (idxOk n m) (.ret (.ptr id ver (path ++ [n.toNat]))) else .fail
      | _ => .fail) else .fail
    | .pv (.arr m u) xs => bif arOk P t m u.csz then need (idxOk n m) (.ret (.pv u (dget xs n.toNat (zero u)))) else .fail
    | _ => .fail
  | _ => .fail
def indexA (P : Program) (t : TypeId) (x i : AV) : HM AV :=
  match i with
  | .v (.int _) n => match x with
    | .v .str s => bif stOk P t then need (idxOk n (dlen s)) (.ret (.v (.int .u8) (dget s n.toNat 0))) else .fail
    | .v (.arr m u) xs => match P.underlying t with
      | some (.array m' e) => bif Nat.beq m m' && szOk P e (.v u (zero u)) then need (idxOk n m) (.ret (.v u (dget xs n.toNat (zero u)))) else .fail
      | _ => .fail
    | _ => .fail
  | _ => .fail
def lenA (P : Program) (t : TypeId) (x : AV) : HM AV :=
  match x with
  | .v .str s => bif stOk P t then .ret (.v (.int .i64) (dlen s)) else .fail
  | .v (.sl _) o => bif (elemOf P t).isSome then .ret (.v (.int .i64) (olen o)) else .fail
  | .nsl => bif (elemOf P t).isSome then .ret (.v (.int .i64) 0) else .fail
  | .hs id ver => bif (elemOf P t).isSome then .get id fun
    | .row _ ver' _ _ xs => bif Nat.beq ver ver' then .ret (.v (.int .i64) (dlen xs)) else .fail
    | .frz ver' _ c => bif Nat.beq ver ver' then .ret (.v (.int .i64) (olen c)) else .fail
    | _ => .fail
    else .fail
  | _ => .fail
def osub {α : Type} (o : Option (List α)) (l h : Nat) : Option (List α) := match o with
  | none => none
  | some xs => some (dsub xs l h)
def bndA (x : Option AV) (d : Int) : Option Int := match x with
  | none => some d
  | some (.v (.int _) n) => some n
  | _ => none
def subOk (l h n : Int) : Bool := decide (0 ≤ l) && (decide (l ≤ h) && decide (h ≤ n))
def sliceA (P : Program) (t : TypeId) (x : AV) (lo hi : Option AV) : HM AV :=
  (unhs x).bind fun
  | .v .str s => match bndA lo 0, bndA hi (dlen s) with
    | some l, some h => bif stOk P t then need (subOk l h (dlen s)) (.ret (.v .str (dsub s l.toNat h.toNat))) else .fail
    | _, _ => .fail
  | .v (.sl u) o => match bndA lo 0, bndA hi (olen o) with
    | some l, some h => bif slOk P t u.csz then need (subOk l h (olen o)) (.ret (.v (.sl u) (osub o l.toNat h.toNat))) else .fail
    | _, _ => .fail
  | .pv (.arr n u) xs => match bndA lo 0, bndA hi n with
    | some l, some h => bif arOk P t n u.csz then need (subOk l h n) (.ret (.v (.sl u) (osub (some xs) l.toNat h.toNat))) else .fail
    | _, _ => .fail
  | .ptr id ver path => .get id fun
    | .box a => bif Nat.beq ver 0 then (match a.getP path with
      | .v (.arr n u) _ => match bndA lo 0, bndA hi n with
        | some l, some h => bif arOk P t n u.csz then need (subOk l h n) (.ret (.sv id ver path l.toNat h.toNat)) else .fail
        | _, _ => .fail
      | _ => .fail) else .fail
    | _ => .fail
  | _ => .fail
def decSet (u : Ty) : List (El u) → List (Nat × AV) → Option (List (El u))
  | xs, [] => some xs
  | xs, (i, a) :: r => match dec u a with
    | some x => decSet u (xs.set i x) r
    | none => none
def unhsL : List (Nat × AV) → HM (List (Nat × AV))
  | [] => .ret []
  | (i, a) :: r => (unhs a).bind fun x => (unhsL r).bind fun y => .ret ((i, x) :: y)
def bslA (P : Program) (t : TypeId) (n : Nat) (parts : List (Nat × AV)) (nid : Nat) : HM AV :=
  match elemOf P t with
  | some e => match ty P e with
    | some u => bif elOk P e u && Nat.ble (n * u.csz) 16777216 && parts.all (fun q => Nat.blt q.1 n) then (unhsL parts).bind fun ps => match decSet u (List.replicate n (zero u)) ps with
      | some xs => .set nid (.row e 0 u false xs) (.ret (.hs nid 0))
      | none => .fail
      else .fail
    | none => .fail
  | none => .fail
def setParts (P : Program) (t : TypeId) : AV → List (Nat × AV) → Option AV
  | a, [] => bif a.isAgg then some a else none
  | a, (j, y) :: r => bif fieldOk P t j (a.sk.foffC j) y && Nat.beq (a.fldC j).csz y.csz && !(a.fldC j).sk.isBad then setParts P t (a.setC j y) r else none
def setArr (u : Ty) (csz : Nat) : List (El u) → List (Nat × AV) → Option (List (El u))
  | xs, [] => some xs
  | xs, (j, y) :: r => bif Nat.blt j xs.length && Nat.beq y.csz csz then (match dec u y with
    | some z => setArr u csz (xs.set j z) r
    | none => none) else none
def isUndef : AV → Bool
  | .undef => true
  | _ => false
def buildA (P : Program) (t : TypeId) (parts : List (Nat × AV)) : HM AV :=
  match zeroAV P t with
  | some z => match P.underlying t with
    | some (.struct _) => match setParts P t z parts with
      | some a => .ret a
      | none => .fail
    | some (.array n e) => match z with
      | .v (.arr m u) xs => bif Nat.beq n m && elOk P e u then (unhsL parts).bind fun ps => match setArr u u.csz xs ps with
        | some ys => .ret (.v (.arr m u) ys)
        | none => .fail
        else .fail
      | _ => .fail
    | _ => .fail
  | none => .fail
def mkA (P : Program) (t : TypeId) (l c : AV) (nid : Nat) : HM AV :=
  match l, c with
  | .v (.int _) n, .v (.int _) m => match elemOf P t with
    | some e => match ty P e, P.info? e with
      | some u, some i => bif elOk P e u && Nat.blt 0 i.bytes then need (decide (0 ≤ n) && (decide (n ≤ m) && decide (m * i.bytes ≤ 140737488355328)))
        (.set nid (.row e 0 u false (drep n.toNat (zero u))) (.ret (.hs nid 0))) else .fail
      | _, _ => .fail
    | none => .fail
  | _, _ => .fail
def appA (P : Program) (t : TypeId) (s x : AV) (nid : Nat) : HM AV :=
  match elemOf P t with
  | some e => match ty P e, P.info? e with
    | some u, some i => bif !(elOk P e u && Nat.blt 0 i.bytes) then .fail else
      (peekHs x).bind fun y => match dec (.sl u) y with
      | none => .fail
      | some o =>
        let ys := dor o
        match s with
        | .nsl => need (Nat.ble (dlen ys * i.bytes) 140737488355328) (.set nid (.row e 0 u true ys) (.ret (.hs nid 0)))
        | .v (.sl _) none => need (Nat.ble (dlen ys * i.bytes) 140737488355328) (.set nid (.row e 0 u true ys) (.ret (.hs nid 0)))
        | .hs id ver => .get id fun
          | .row e' ver' u' fn xs => bif Nat.beq ver ver' && Nat.beq e e' then (match decV (.sl u') (.sl u) (some ys) with
            | some (some zs) => need (Nat.ble ((dlen xs + dlen zs) * i.bytes) 140737488355328)
                (.set id (.row e' (ver + 1) u' fn (dapp xs zs)) (.ret (.hs id (ver + 1))))
            | _ => .fail) else .fail
          | _ => .fail
        | _ => .fail
    | _, _ => .fail
  | none => .fail
/-- copy into a part of an array -/
def cpyA (P : Program) (t : TypeId) (d x : AV) : HM AV :=
  match elemOf P t with
  | some e => match ty P e, P.info? e with
    | some u, some i => bif !(Nat.beq i.size 1 && Nat.beq u.csz 1) then .fail else
      (peekHs x).bind fun y => match dec (.sl u) y with
      | none => .fail
      | some o =>
        match d with
        | .sv id ver path lo hi => .get id fun
          | .box a => bif Nat.beq ver 0 then (match a.getP path with
            | .v (.arr n u') xs => match decV (.arr n u) (.arr n u') xs with
              | some zs => bif Sk.eqb (a.setP path (.v (.arr n u) (dcpy zs lo hi (dor o)))).sk a.sk && a.sk.noBad then
                  .set id (.box (a.setP path (.v (.arr n u) (dcpy zs lo hi (dor o))))) (.ret (.v (.int .i64) (min (dlen (dor o)) (hi - lo) : Nat))) else .fail
              | none => .fail
            | _ => .fail) else .fail
          | _ => .fail
        | _ => .fail
    | _, _ => .fail
  | none => .fail
def minA (isMax : Bool) : List AV → HM AV
  | [] => .fail
  | x :: r => go x r
where go (x : AV) : List AV → HM AV
  | [] => .ret x
  | y :: r => match x, y with
    | .v (.int k) a, .v (.int k') b => bif !(kEq k k') then .fail else go (.v (.int k) (bif isMax then (if a < b then b else a) else (if b < a then b else a))) r
    | _, _ => .fail

/-! ### patterns: what is handed over, what stands at a loop's head -/
inductive AP where
  | val (u : Ty)
  | ptr (id : Nat)
  | nptr
  | hs (id : Nat)
  | fn (f : FuncId) (c : AP)
  | nil
  | cons (a b : AP)
@[reducible] def ElA : AP → Type
  | .val u => El u
  | .fn _ c => ElA c
  | .cons a b => ElA a × ElA b
  | _ => Unit
inductive HP where
  | nil
  | box (a : AP) (r : HP)
  | row (e : TypeId) (u : Ty) (fn : Bool) (r : HP)
  | skip (r : HP)
@[reducible] def ElH : HP → Type
  | .nil => Unit
  | .box a r => ElA a × ElH r
  | .row _ u _ r => List (El u) × ElH r
  | .skip r => ElH r
def HP.isBox : HP → Nat → Bool
  | .box _ _, 0 => true
  | .box _ r, n + 1 => r.isBox n
  | .row _ _ _ r, n + 1 => r.isBox n
  | .skip r, n + 1 => r.isBox n
  | _, _ => false
def HP.isRow : HP → Nat → Bool
  | .row _ _ _ _, 0 => true
  | .box _ r, n + 1 => r.isRow n
  | .row _ _ _ r, n + 1 => r.isRow n
  | .skip r, n + 1 => r.isRow n
  | _, _ => false
/-- a slice that nobody writes any more, for its name -/
def res (h : List HO) : AV → AV
  | .hs id ver => match h.getD id .hole with
    | .frz v u c => bif Nat.beq ver v then .v (.sl u) c else .hs id ver
    | _ => .hs id ver
  | .cons a b => .cons (res h a) (res h b)
  | a => a
def decA (hp : HP) (h : List HO) : (p : AP) → AV → Option (ElA p)
  | .val u, av => dec u (res h av)
  | .ptr id, av => match av with
    | .ptr id' ver [] => bif Nat.beq id id' && Nat.beq ver 0 && hp.isBox id then some () else none
    | _ => none
  | .nptr, av => match av with
    | .nptr => some ()
    | _ => none
  | .hs id, av => match av with
    | .hs id' ver => bif Nat.beq id id' && Nat.beq ver (h.getD id .hole).ver && hp.isRow id then some () else none
    | _ => none
  | .fn f c, av => match av with
    | .fn g x => bif Nat.beq f g then decA hp h c x else none
    | _ => none
  | .nil, av => match av with
    | .nil => some ()
    | _ => none
  | .cons a b, av => match av with
    | .cons x y => match decA hp h a x, decA hp h b y with
      | some p, some q => some (p, q)
      | _, _ => none
    | _ => none
def encA : (p : AP) → ElA p → AV
  | .val u, x => .v u x
  | .ptr id, _ => .ptr id 0 []
  | .nptr, _ => .nptr
  | .hs id, _ => .hs id 0
  | .fn f c, x => .fn f (encA c x)
  | .nil, _ => .nil
  | .cons a b, x => .cons (encA a x.1) (encA b x.2)
def encH : (p : HP) → ElH p → List HO
  | .nil, _ => []
  | .box a r, x => .box (encA a x.1) :: encH r x.2
  | .row e u fn r, x => .row e 0 u fn x.1 :: encH r x.2
  | .skip r, x => .dead 0 :: encH r x
def decRow (u : Ty) (u' : Ty) (xs : List (El u')) : Option (List (El u)) :=
  match decV (.sl u) (.sl u') (some xs) with
  | some (some ys) => some ys
  | _ => none
def decH (hp : HP) (h0 : List HO) : (p : HP) → List HO → Option (ElH p)
  | .nil, h => match h with
    | [] => some ()
    | _ => none
  | .box a r, h => match h with
    | .box x :: t => match decA hp h0 a x, decH hp h0 r t with
      | some p, some q => some (p, q)
      | _, _ => none
    | _ => none
  | .row e u fn r, h => match h with
    | .row e' _ u' fn' xs :: t => bif Nat.beq e e' && bEq fn fn' then (match decRow u u' xs, decH hp h0 r t with
      | some p, some q => some (p, q)
      | _, _ => none) else none
    | _ => none
  | .skip r, h => match h with
    | _ :: t => decH hp h0 r t
    | [] => none
def hlen : HP → Nat
  | .nil => 0
  | .box _ r => hlen r + 1
  | .row _ _ _ r => hlen r + 1
  | .skip r => hlen r + 1
/-- what is to be data is frozen -/
def frzP : AP → AV → HM AV
  | .val _, a => unhs a
  | .cons p q, a => match a with
    | .cons x y => (frzP p x).bind fun x' => (frzP q y).bind fun y' => .ret (.cons x' y')
    | a => .ret a
  | .fn _ p, a => match a with
    | .fn f x => (frzP p x).bind fun x' => .ret (.fn f x')
    | a => .ret a
  | _, a => .ret a
def frzH : HP → List Nat → HM Unit
  | .box a r, i :: ids => .get i fun
    | .box x => (frzP a x).bind fun y => .set i (.box y) (frzH r ids)
    | _ => .fail
  | .row _ _ _ r, _ :: ids => frzH r ids
  | .skip r, _ :: ids => frzH r ids
  | .nil, _ => .ret ()
  | _, [] => .fail
/-- slots and what stands there -/
inductive TP where
  | nil
  | cons (i : Tmp) (a : AP) (r : TP)
@[reducible] def ElT : TP → Type
  | .nil => Unit
  | .cons _ a r => ElA a × ElT r
def frzT : TP → List AV → HM (List AV)
  | .nil, t => .ret t
  | .cons i a r, t => (frzP a (t.getD i .undef)).bind fun x => frzT r (t.set i x)
def decT (hp : HP) (h : List HO) : (p : TP) → List AV → Option (ElT p)
  | .nil, _ => some ()
  | .cons i a r, t => match decA hp h a (t.getD i .undef), decT hp h r t with
    | some p, some q => some (p, q)
    | _, _ => none
def encT : (p : TP) → ElT p → List AV → List AV
  | .nil, _, t => t
  | .cons i a r, x, t => encT r x.2 (t.set i (encA a x.1))
def blank (n : Nat) : List AV := List.replicate n .undef
/-- slots and objects as a pattern has them; the objects behind the pattern's are let go -/
def normA {R : Type} (tp : TP) (hp : HP) (t : List AV) (h : List HO) (k : Option (ElT tp × ElH hp) → Option R) : Option R :=
  (frzT tp t).run h fun t1 h1 => (frzH hp (List.range (hlen hp))).run h1 fun _ h2 =>
    match decT hp h2 tp t1, decH hp h2 hp (h2.take (hlen hp)) with
    | some x, some y => k (some (x, y))
    | _, _ => k none

/-! ### calls -/
structure Spec where
  ia : AP
  ih : HP
  oa : AP
  oh : HP
  F : ElA ia × ElH ih → Option (ElA oa × ElH oh)
abbrev Specs := FuncId → List Spec

def AV.ids : AV → List Nat
  | .ptr id _ _ => [id]
  | .hs id _ => [id]
  | .sv id _ _ _ _ => [id]
  | .fn _ c => c.ids
  | .cons a b => a.ids ++ b.ids
  | .tup a => a.ids
  | _ => []
def HO.ids : HO → List Nat
  | .box a => a.ids
  | _ => []
def memN (n : Nat) : List Nat → Bool
  | [] => false
  | m :: r => Nat.beq n m || memN n r
/-- frozen slices for their names, in an object -/
def resM : AV → HM AV
  | .hs id ver => .get id fun
    | .frz v u c => bif Nat.beq ver v then .ret (.v (.sl u) c) else .ret (.hs id ver)
    | _ => .ret (.hs id ver)
  | .cons a b => (resM a).bind fun x => (resM b).bind fun y => .ret (.cons x y)
  | a => .ret a
def resO : HO → HM HO
  | .box a => (resM a).bind fun x => .ret (.box x)
  | o => .ret o
/-- what can be reached, in the order in which it is met -/
def reach : Nat → List Nat → List Nat → HM (List Nat)
  | 0, _, _ => .fail
  | _ + 1, [], acc => .ret acc
  | n + 1, i :: r, acc => bif memN i acc then reach n r acc else .get i fun o => (resO o).bind fun o' => reach n (r ++ o'.ids) (acc ++ [i])
/-- the objects there -/
def objsM : List Nat → HM (List HO)
  | [] => .ret []
  | i :: r => .get i fun o => (resO o).bind fun o' => (objsM r).bind fun os => .ret (o' :: os)
def posN (n : Nat) : List Nat → Nat
  | [] => 0
  | m :: r => bif Nat.beq n m then 0 else posN n r + 1
/-- names anew, and versions -/
def AV.ren (f g : Nat → Nat) : AV → AV
  | .ptr id ver p => .ptr (f id) ver p
  | .hs id ver => .hs (f id) (g id + ver)
  | .sv id ver p lo hi => .sv (f id) ver p lo hi
  | .fn k c => .fn k (c.ren f g)
  | .cons a b => .cons (a.ren f g) (b.ren f g)
  | .tup a => .tup (a.ren f g)
  | a => a
def HO.ren (f g : Nat → Nat) : HO → HO
  | .box a => .box (a.ren f g)
  | o => o
def zeroN (_ : Nat) : Nat := 0
def chain : List AV → AV
  | [] => .nil
  | a :: r => .cons a (chain r)
def setAll : List Nat → List HO → HM Unit
  | i :: r, o :: os => .set i o (setAll r os)
  | [], [] => .ret ()
  | _, _ => .fail
def back (ids : List Nat) (nid : Nat) (n : Nat) : Nat := bif Nat.blt n ids.length then ids.getD n 0 else nid + (n - ids.length)
def vers (ns : List HO) (n : Nat) : Nat := (ns.getD n .hole).ver
def newIds (nid : Nat) : Nat → List Nat
  | 0 => []
  | n + 1 => nid :: newIds (nid + 1) n
/-- an object that was handed over, and what came back -/
def upO : HO → HO → Option HO
  | .box a, .box b => bif Sk.eqb a.sk b.sk then some (.box b) else none
  | .row _ v _ _ _, .row e _ u fn xs => some (.row e (v + 1) u fn xs)
  | o, .dead _ => some (.dead (o.ver + 1))
  | _, _ => none
def upAll : List HO → List HO → Option (List HO)
  | [], ns => some ns
  | o :: os, ns => match ns with
    | n :: ns => match upO o n, upAll os ns with
      | some x, some r => some (x :: r)
      | _, _ => none
    | [] => none
def single : AV → AV
  | .cons a .nil => a
  | a => .tup a
def AP.isCh : AP → Bool
  | .nil => true
  | .cons _ b => b.isCh
  | _ => false
def unchain : AV → List AV
  | .cons a b => a :: unchain b
  | _ => []
def callS (s : Spec) (as : AV) (ids : List Nat) (os : List HO) (nid : Nat) : Option (HM AV) :=
  let os' := os.map (HO.ren (posN · ids) zeroN)
  match decA s.ih os' s.ia (as.ren (posN · ids) zeroN), decH s.ih os' s.ih os' with
  | some x, some y => bif s.ia.isCh && s.oa.isCh && Nat.ble (hlen s.oh) (os.length + 4) then some (.opt (s.F (x, y)) fun r =>
      (match upAll os (encH s.oh r.2) with
      | some ns => (setAll (ids ++ newIds nid (hlen s.oh - ids.length)) (ns.map (HO.ren (back ids nid) (vers ns)))).bind fun _ =>
        .ret (single ((encA s.oa r.1).ren (back ids nid) (vers ns)))
      | none => .fail)) else none
  | _, _ => none
def firstS (as : AV) (ids : List Nat) (os : List HO) (nid : Nat) : List Spec → HM AV
  | [] => .fail
  | s :: r => match callS s as ids os nid with
    | some m => m
    | none => firstS as ids os nid r
/-- may these be handed over so? -/
def fitsA : AP → AV → Bool
  | .val _, _ => true
  | .ptr _, .ptr _ _ _ => true
  | .nptr, .nptr => true
  | .hs _, .hs _ _ => true
  | .fn f p, .fn g x => Nat.beq f g && fitsA p x
  | .nil, .nil => true
  | .cons p q, .cons x y => fitsA p x && fitsA q y
  | _, _ => false
def capsOk (l : List AV) : Bool := l.all fun a => !a.isAgg && !a.sk.isBad
def chOk : AV → Bool
  | .nil => true
  | .cons a b => !a.isAgg && !a.sk.isBad && chOk b
  | _ => false
def callA (K : Specs) (f : AV) (args : List AV) (nid : Nat) : HM AV :=
  match f with
  | .fn g caps => bif chOk caps then (match (K g).filter fun s => s.ia.isCh && fitsA s.ia (chain (args ++ unchain caps)) with
    | s :: r => (frzP s.ia (chain (args ++ unchain caps))).bind fun as => (reach 40 as.ids []).bind fun ids => (frzH s.ih ids).bind fun _ => (objsM ids).bind fun os => firstS as ids os nid (s :: r)
    | [] => .fail) else .fail
  | _ => .fail

/-! ### operations -/
def slots : Op → Nat
  | .alloc _ | .box _ _ | .buildSlice _ _ _ | .makeSlice _ _ _ => 1
  | .call { callee := .builtin .append, .. } => 1
  | .call { callee := .builtin _, .. } => 0
  | .call _ => 4
  | _ => 0
def ofOpt {α : Type} : Option α → HM α
  | some a => .ret a
  | none => .fail
def pickA (x y z : AV) : HM AV := match x with
  | .v .bool t => .ite t (.ret y) (.ret z)
  | _ => .fail
def nilcA (x : AV) : HM AV := match x with
  | .ptr a b c => .ret (.ptr a b c)
  | .pv u x => .ret (.pv u x)
  | .fn f c => .ret (.fn f c)
  | _ => .fail
def mkfA (f : FuncId) (first : List Operand) (caps : List AV) : HM AV := match first with
  | [] => bif capsOk caps then .ret (.fn f (chain caps)) else .fail
  | _ => .fail
def fieldA (P : Program) (t : TypeId) (x : AV) (j : Nat) : HM AV := match x with
  | .v u y => bif fieldOk P t j (u.sk.foffC j) ((AV.v u y).fldC j) then .ret ((AV.v u y).fldC j) else .fail
  | .cons a b => bif fieldOk P t j ((AV.cons a b).sk.foffC j) ((AV.cons a b).fldC j) then .ret ((AV.cons a b).fldC j) else .fail
  | _ => .fail
def extrA (x : AV) (i : Nat) : HM AV := match x with
  | .tup a => bif isUndef (a.fldC i) then .fail else .ret (a.fldC i)
  | _ => .fail
def opA (P : Program) (K : Specs) (ρ : Operand → AV) (op : Op) (nid : Nat) : HM AV :=
  match op with
  | .move x | .assign x => .ret (ρ x)
  | .pick c a b => pickA (ρ c) (ρ a) (ρ b)
  | .alloc e => (ofOpt (zeroAV P e)).bind fun z => .set nid (.box z) (.ret (.ptr nid 0 []))
  | .box e x => bif szOk P e (ρ x) && (ρ x).sk.noBad then .set nid (.box (ρ x)) (.ret (.ptr nid 0 [])) else .fail
  | .build t parts => buildA P t (parts.toList.map fun q => (q.1, ρ q.2))
  | .buildSlice t n parts => bslA P t n (parts.toList.map fun q => (q.1, ρ q.2)) nid
  | .load t a => loadA P t (ρ a)
  | .store t a x => (storeA P t (ρ a) (ρ x)).bind fun _ => .ret .undef
  | .nilCheck x => nilcA (ρ x)
  | .binOp o t x y _ => binA P o t (ρ x) (ρ y)
  | .unOp o _ x => unA o (ρ x)
  | .convert s d x => convA P s d (ρ x)
  | .makeFunc (.func f) first caps => mkfA f first.toList (caps.toList.map ρ)
  | .makeSlice t l c => mkA P t (ρ l) (ρ c) nid
  | .slice t x lo hi none => sliceA P t (ρ x) (lo.map ρ) (hi.map ρ)
  | .fieldAddr t x j => faddrA P t (ρ x) j
  | .field t x j => fieldA P t (ρ x) j
  | .indexAddr t x i => iaddrA P t (ρ x) (ρ i)
  | .index t x i => indexA P t (ρ x) (ρ i)
  | .extract x i => extrA (ρ x) i
  | .call { callee := .value f, args, .. } => callA K (ρ f) (args.toList.map ρ) nid
  | .call { callee := .builtin .len, args, argTypes } => match args.toList, argTypes.toList with
    | [x], [t] => lenA P t (ρ x)
    | _, _ => .fail
  | .call { callee := .builtin .append, args, argTypes } => match args.toList, argTypes.toList with
    | [s, x], [t, t'] => bif Nat.beq t t' then appA P t (ρ s) (ρ x) nid else .fail
    | _, _ => .fail
  | .call { callee := .builtin .copy, args, argTypes } => match args.toList, argTypes.toList with
    | [s, x], [t, _] => cpyA P t (ρ s) (ρ x)
    | _, _ => .fail
  | .call { callee := .builtin .min, args, .. } => minA false (args.toList.map ρ)
  | .call { callee := .builtin .max, args, .. } => minA true (args.toList.map ρ)
  | _ => .fail

/-! ### regions -/
def putA (t : List AV) (d : Option Tmp) (a : AV) : List AV := match d with
  | some i => t.set i a
  | none => t
/-- the answer of a guard's operation: the slot of that operation -/
def gval (ops : List Oper) (t : List AV) (j : Nat) : AV := match ops[j]? with
  | some o => match o.dst with
    | some d => t.getD d .undef
    | none => .undef
  | none => .undef
def holesA (n : Nat) (h : List HO) : List HO := match n with
  | 0 => h
  | n + 1 => h ++ List.replicate (n + 1) .hole
def opsA {R : Type} (P : Program) (K : Specs) (all : List Oper) : List Oper → List AV → List HO → (List AV → List HO → Option R) → Option R
  | [], t, h, k => k t h
  | o :: r, t, h, k =>
    match o.guard with
    | none => (opA P K (evalO t) o.op h.length).run (holesA (slots o.op) h) fun a h' => opsA P K all r (putA t o.dst a) h' k
    | some (j, want) => match gval all t j with
      | .v .bool b => bif (bif want then b else !b) then
          (opA P K (evalO t) o.op h.length).run (holesA (slots o.op) h) fun a h' => opsA P K all r (putA t o.dst a) h' k
        else opsA P K all r (putA t o.dst .undef) h k
      | _ => none
def slotsL : List Oper → Nat
  | [] => 0
  | o :: r => slots o.op + slotsL r
/-- a run with what it reads and writes -/
def HM.runF {α R : Type} : HM α → List HO → List Nat → List Nat → (α → List HO → List Nat → List Nat → Option R) → Option R
  | .ret a, h, rd, wr, k => k a h rd wr
  | .get id f, h, rd, wr, k => match h[id]? with
    | some .hole => none
    | some o => (f o).runF h (id :: rd) wr k
    | none => none
  | .set id o m, h, rd, wr, k => match h[id]? with
    | some _ => m.runF (h.set id o) rd (id :: wr) k
    | none => none
  | .ite c a b, h, rd, wr, k => bif c then a.runF h rd wr k else b.runF h rd wr k
  | .opt o f, h, rd, wr, k => o.bind fun x => (f x).runF h rd wr k
  | .fail, _, _, _, _ => none
def bindsB (e : Edge) : Bool := match e.ground with
  | .textOnly _ => false
  | .gcOnly _ => false
  | _ => true
/-- what must come before, as bits -/
def maskL (ms : List Nat) : List Edge → Nat
  | [] => 0
  | e :: r => bif bindsB e then Nat.lor (Nat.lor (Nat.shiftLeft 1 e.on) (ms.getD e.on 0)) (maskL ms r) else maskL ms r
def backB (i : Nat) : List Edge → Bool
  | [] => true
  | e :: r => (!(bindsB e) || Nat.blt e.on i) && backB i r
def tmpsOf : List Operand → List Nat
  | [] => []
  | .tmp i :: r => i :: tmpsOf r
  | _ :: r => tmpsOf r
/-- the slots that an operation looks at -/
def looks (all : List Oper) (o : Oper) : List Nat :=
  match o.guard with
  | none => tmpsOf o.op.operands.toList
  | some (j, _) => match all[j]? with
    | some g => match g.dst with
      | some d => d :: tmpsOf o.op.operands.toList
      | none => tmpsOf o.op.operands.toList
    | none => tmpsOf o.op.operands.toList
def dstIn (d : Option Tmp) (l : List Nat) : Bool := match d with
  | none => false
  | some i => memN i l
def dstEq (d e : Option Tmp) : Bool := match d, e with
  | some i, some j => Nat.beq i j
  | _, _ => false
def apB (all : List Oper) (x y : Oper) : Bool := !(dstIn x.dst (looks all y)) && !(dstIn y.dst (looks all x)) && !(dstEq x.dst y.dst)
def disj : List Nat → List Nat → Bool
  | [], _ => true
  | i :: r, l => !(memN i l) && disj r l
structure Rec where
  i : Nat
  o : Oper
  rd : List Nat
  wr : List Nat
def indB (all : List Oper) (x y : Rec) : Bool := apB all x.o y.o && (disj x.wr y.rd && (disj x.wr y.wr && disj x.rd y.wr))
def okRec (all : List Oper) (m : Nat) (x : Rec) : List Rec → Bool
  | [] => true
  | y :: r => (Nat.testBit m y.i || indB all y x) && okRec all m x r
def isSel : Op → Bool
  | .select _ _ => true
  | _ => false
/-- any order that the region may have goes as the listed one -/
def ownQ (m w : Nat) : List Oper → Nat → Nat → Bool
  | [], _, _ => false
  | o :: r, q, nid => (Nat.testBit m q && (Nat.ble nid w && Nat.blt w (nid + slots o.op))) || ownQ m w r (q + 1) (nid + slots o.op)
def ownW (all : List Oper) (m base nid n : Nat) : List Nat → Bool
  | [] => true
  | i :: r => (Nat.blt i base || ((Nat.ble nid i && Nat.blt i (nid + n)) || ownQ m i all 0 base)) && ownW all m base nid n r
def opsD {R : Type} (P : Program) (K : Specs) (all : List Oper) (base : Nat) (ms : List Nat) (done : List Rec) : List Oper → Nat → Nat → List AV → List HO → (List AV → List HO → Option R) → Option R
  | [], _, _, t, h, k => k t h
  | o :: r, i, nid, t, h, k =>
    bif backB i o.after.toList && !(isSel o.op) then
    match o.guard with
    | none => (opA P K (evalO t) o.op nid).runF h [] [] fun a h' rd wr =>
        bif okRec all (maskL ms o.after.toList) ⟨i, o, rd, wr⟩ done && ownW all (maskL ms o.after.toList) base nid (slots o.op) wr then opsD P K all base (ms ++ [maskL ms o.after.toList]) (⟨i, o, rd, wr⟩ :: done) r (i + 1) (nid + slots o.op) (putA t o.dst a) h' k else none
    | some (j, want) => match gval all t j with
      | .v .bool b => bif (bif want then b else !b) then
          (opA P K (evalO t) o.op nid).runF h [] [] fun a h' rd wr =>
            bif okRec all (maskL ms o.after.toList) ⟨i, o, rd, wr⟩ done && ownW all (maskL ms o.after.toList) base nid (slots o.op) wr then opsD P K all base (ms ++ [maskL ms o.after.toList]) (⟨i, o, rd, wr⟩ :: done) r (i + 1) (nid + slots o.op) (putA t o.dst a) h' k else none
        else bif okRec all (maskL ms o.after.toList) ⟨i, o, [], []⟩ done then opsD P K all base (ms ++ [maskL ms o.after.toList]) (⟨i, o, [], []⟩ :: done) r (i + 1) (nid + slots o.op) (putA t o.dst .undef) h k else none
      | _ => none
    else none

/-! ### the same, where a branch knows its condition -/
def knowA (c : Operand) (b : Bool) (t : List AV) : List AV := match c with
  | .tmp i => t.set i (.v .bool b)
  | _ => t
def gslot (ops : List Oper) (j : Nat) : Operand := match ops[j]? with
  | some o => match o.dst with
    | some d => .tmp d
    | none => .const (.bool true)
  | none => .const (.bool true)
def opsB {R : Type} (P : Program) (K : Specs) (all : List Oper) : List Oper → List AV → List HO → (List AV → List HO → Option R) → Option R
  | [], t, h, k => k t h
  | o :: r, t, h, k =>
    match o.guard with
    | none => match o.op with
      | .pick c x y => match evalO t c with
        | .v .bool b => bif b then opsB P K all r (putA (knowA c true t) o.dst (evalO t x)) h k else opsB P K all r (putA (knowA c false t) o.dst (evalO t y)) h k
        | _ => none
      | _ => (opA P K (evalO t) o.op h.length).run (holesA (slots o.op) h) fun a h' => opsB P K all r (putA t o.dst a) h' k
    | some (j, want) => match gval all t j with
      | .v .bool b => bif (bif want then b else !b) then
          (opA P K (evalO t) o.op h.length).run (holesA (slots o.op) h) fun a h' => opsB P K all r (putA (knowA (gslot all j) want t) o.dst a) h' k
        else opsB P K all r (putA (knowA (gslot all j) (!want) t) o.dst .undef) h k
      | _ => none
def opsE {R : Type} (P : Program) (K : Specs) (all : List Oper) (base : Nat) (ms : List Nat) (done : List Rec) : List Oper → Nat → Nat → List AV → List HO → (List AV → List HO → Option R) → Option R
  | [], _, _, t, h, k => k t h
  | o :: r, i, nid, t, h, k =>
    bif backB i o.after.toList && !(isSel o.op) then
    match o.guard with
    | none => match o.op with
      | .pick c x y => match evalO t c with
        | .v .bool b => bif okRec all (maskL ms o.after.toList) ⟨i, o, [], []⟩ done then (bif b
          then opsE P K all base (ms ++ [maskL ms o.after.toList]) (⟨i, o, [], []⟩ :: done) r (i + 1) nid (putA (knowA c true t) o.dst (evalO t x)) h k
          else opsE P K all base (ms ++ [maskL ms o.after.toList]) (⟨i, o, [], []⟩ :: done) r (i + 1) nid (putA (knowA c false t) o.dst (evalO t y)) h k) else none
        | _ => none
      | _ => (opA P K (evalO t) o.op nid).runF h [] [] fun a h' rd wr =>
        bif okRec all (maskL ms o.after.toList) ⟨i, o, rd, wr⟩ done && ownW all (maskL ms o.after.toList) base nid (slots o.op) wr then opsE P K all base (ms ++ [maskL ms o.after.toList]) (⟨i, o, rd, wr⟩ :: done) r (i + 1) (nid + slots o.op) (putA t o.dst a) h' k else none
    | some (j, want) => match gval all t j with
      | .v .bool b => bif (bif want then b else !b) then
          (opA P K (evalO t) o.op nid).runF h [] [] fun a h' rd wr =>
            bif okRec all (maskL ms o.after.toList) ⟨i, o, rd, wr⟩ done && ownW all (maskL ms o.after.toList) base nid (slots o.op) wr then opsE P K all base (ms ++ [maskL ms o.after.toList]) (⟨i, o, rd, wr⟩ :: done) r (i + 1) (nid + slots o.op) (putA (knowA (gslot all j) want t) o.dst a) h' k else none
        else bif okRec all (maskL ms o.after.toList) ⟨i, o, [], []⟩ done then opsE P K all base (ms ++ [maskL ms o.after.toList]) (⟨i, o, [], []⟩ :: done) r (i + 1) (nid + slots o.op) (putA (knowA (gslot all j) (!want) t) o.dst .undef) h k else none
      | _ => none
    else none

/-! ### code -/
inductive Ex where
  | normal
  | exit (id : Nat)
  | ret
def Ex.eqb : Ex → Ex → Bool
  | .normal, .normal => true
  | .ret, .ret => true
  | .exit a, .exit b => Nat.beq a b
  | _, _ => false
abbrev Kont (R : Type) := Ex → List AV → List HO → Option R
/-- the ways out of a piece -/
inductive XP where
  | nil
  | cons (e : Ex) (tp : TP) (hp : HP) (r : XP)
@[reducible] def ElX : XP → Type
  | .nil => Empty
  | .cons _ tp hp r => (ElT tp × ElH hp) ⊕ ElX r
/-- a piece of a body (a loop) that goes by a function of its own -/
structure Frag where
  pad : Nat
  rows : List (Tmp × TypeId)
  tp : TP
  hp : HP
  xp : XP
  n : Nat
  G : ElT tp × ElH hp → Option (ElX xp)
def putX {R : Type} (n : Nat) : (xp : XP) → ElX xp → Kont R → Option R
  | .nil, x, _ => nomatch x
  | .cons e tp hp r, x, k => match x with
    | .inl y => k e (encT tp y.1 (blank n)) (encH hp y.2)
    | .inr y => putX n r y k
def entryRows (P : Program) : List (Tmp × TypeId) → List AV → List HO → Option (List AV × List HO)
  | [], t, h => some (t, h)
  | (i, ty') :: r, t, h => match t.getD i .undef with
    | .nsl => match elemOf P ty' with
      | some e => match ty P e with
        | some u => bif Nat.blt 0 u.csz then entryRows P r (t.set i (.hs h.length 0)) (h ++ [.row e 0 u true []]) else none
        | none => none
      | none => none
    | .v (.sl _) none => match elemOf P ty' with
      | some e => match ty P e with
        | some u => bif Nat.blt 0 u.csz then entryRows P r (t.set i (.hs h.length 0)) (h ++ [.row e 0 u true []]) else none
        | none => none
      | none => none
    | _ => entryRows P r t h
def Frag.run {R : Type} (P : Program) (f : Frag) (t : List AV) (h : List HO) (k : Kont R) : Option R :=
  match entryRows P f.rows t (h ++ List.replicate (f.pad - h.length) .hole) with
  | some (t1, h1) => bif Nat.beq (hlen f.hp) h1.length && Nat.ble f.n t1.length then normA f.tp f.hp t1 h1 fun
    | some x => (f.G x).bind fun o => putX f.n f.xp o k
    | none => none
    else none
  | none => none
def firstId : Code → Nat
  | .region id _ _ => id
  | .seq a _ => firstId a
  | .cond _ a _ => firstId a
  | .block _ a => firstId a
  | .loop a => firstId a
  | .scope a => firstId a
  | _ => 0
abbrev Frags := Nat → Option Frag
/-- how many objects a piece may make -/
def slotsC : Code → Nat
  | .region _ ops _ => slotsL ops.toList
  | .seq a b => slotsC a + slotsC b
  | .cond _ a b => slotsC a + slotsC b
  | .block _ a => slotsC a
  | .loop a => slotsC a
  | _ => 0
/-- behind a branch: the same number of objects, whichever was gone -/
def padK {R : Type} (n : Nat) (k : Kont R) : Kont R := fun e t h => match e with
  | .normal => k .normal t (h ++ List.replicate (n - h.length) .hole)
  | e => k e t h
def codeA {R : Type} (P : Program) (K : Specs) (L : Frags) : Code → List AV → List HO → Kont R → Option R
  | .skip, t, h, k => k .normal t h
  | .region _ ops draw, t, h, k => bif draw
    then opsE P K ops.toList h.length [] [] ops.toList 0 h.length t (h ++ List.replicate (slotsL ops.toList) .hole) fun t' h' => k .normal t' h'
    else opsB P K ops.toList ops.toList t h fun t' h' => k .normal t' h'
  | .seq a b, t, h, k => codeA P K L a t h fun e t' h' => match e with
    | .normal => codeA P K L b t' h' k
    | e => k e t' h'
  | .cond c a b, t, h, k => match evalO t c with
    | .v .bool x => bif x then codeA P K L a (knowA c true t) h (padK (h.length + (slotsC a + slotsC b)) k) else codeA P K L b (knowA c false t) h (padK (h.length + (slotsC a + slotsC b)) k)
    | _ => none
  | .block id a, t, h, k => codeA P K L a t h fun e t' h' => match e with
    | .exit id' => bif Nat.beq id' id then k .normal t' h' else k (.exit id') t' h'
    | e => k e t' h'
  | .loop a, t, h, k => match L (firstId a) with
    | some f => f.run P t h k
    | none => none
  | .exit id, t, h, k => k (.exit id) t h
  | .ret, t, h, k => k .ret t h
  | _, _, _, _ => none

def wfX (m : Nat) : XP → Bool
  | .nil => true
  | .cons _ _ hp r => Nat.ble m (hlen hp) && wfX m r
/-- one round of a loop: what stands at the head again, or a way out -/
def decX {R : Type} (e : Ex) (t : List AV) (h : List HO) : (xp : XP) → (ElX xp → Option R) → Option R
  | .nil, _ => none
  | .cons e' tp hp r, k => bif e.eqb e' then normA tp hp t h fun
    | some x => k (.inl x)
    | none => none
    else decX e t h r fun y => k (.inr y)
def roundA (P : Program) (K : Specs) (L : Frags) (body : Code) (tp : TP) (hp : HP) (xp : XP) (n : Nat) (x : ElT tp × ElH hp) : Option ((ElT tp × ElH hp) ⊕ ElX xp) :=
  codeA P K L body (encT tp x.1 (blank n)) (encH hp x.2) fun e t h => match e with
    | .normal => normA tp hp t h fun
      | some x => some (.inl x)
      | none => none
    | e => decX e t h xp fun y => some (.inr y)
/-- round after round -/
def iterR {A B : Type} (f : A → Option (A ⊕ B)) : Nat → A → Option B
  | 0, _ => none
  | n + 1, a => (f a).bind fun
    | .inl a' => iterR f n a'
    | .inr b => some b

/-! ### functions -/
/-- a variable's value at the end -/
def cellA (P : Program) (t : TypeId) (p : AV) (h : List HO) : Option AV := match p with
  | .ptr id ver path => match h[id]? with
    | some .hole => none
    | some o => bif Nat.beq ver o.ver && szOk P t (o.getP path) then some (o.getP path) else none
    | none => none
  | _ => none
def resA (P : Program) : List ResultVar → List AV → List HO → Option (List AV)
  | [], _, _ => some []
  | .tmp i :: r, t, h => match resA P r t h with
    | some l => some (t.getD i .undef :: l)
    | none => none
  | .cell i ty' :: r, t, h => match cellA P ty' (t.getD i .undef) h, resA P r t h with
    | some a, some l => some (a :: l)
    | _, _ => none
/-- what is handed back, as the specification says it -/
def finA (oa : AP) (oh : HP) (n : Nat) (rs : List AV) (h : List HO) : Option (ElA oa × ElH oh) :=
  (frzP oa (chain rs)).run h fun as h1 => (reach 40 (List.range n ++ as.ids) []).run h1 fun ids h2 => (frzH oh ids).run h2 fun _ h3 => (objsM ids).run h3 fun os _ =>
    let os' := os.map (HO.ren (posN · ids) zeroN)
    match decA oh os' oa (as.ren (posN · ids) zeroN), decH oh os' oh os' with
    | some x, some y => some (x, y)
    | _, _ => none
structure Sig where
  ia : AP
  ih : HP
  oa : AP
  oh : HP
def Sig.spec (g : Sig) (F : ElA g.ia × ElH g.ih → Option (ElA g.oa × ElH g.oh)) : Spec := ⟨g.ia, g.ih, g.oa, g.oh, F⟩
def funcA (P : Program) (K : Specs) (L : Frags) (fn : Func) (g : Sig) (x : ElA g.ia × ElH g.ih) : Option (ElA g.oa × ElH g.oh) :=
  match fn.body with
  | some c => codeA P K L c (unchain (encA g.ia x.1) ++ List.replicate (fn.ntmps - (unchain (encA g.ia x.1)).length) .undef) (encH g.ih x.2) fun e t h =>
    match e with
    | .exit _ => none
    | _ => match resA P fn.results.toList t h with
      | some rs => finA g.oa g.oh (hlen g.ih) rs h
      | none => none
  | none => none
end Go.Ab
