/- The value-level evaluator of single operations: definitions. -/
import Derived.Test.YtddfcajdelfikaaDoorVm1
set_option linter.unusedVariables false
set_option linter.unusedSimpArgs false
namespace Go.Proofs.YtddfcajdelfikaaDoor.Vm
open Go
open PV (frzL)

/-! ### a table of types -/

inductive TK where
  | int (k : IntKind)
  | bool
  | str
  | slice (elem : Nat)
  | struct (fields : List (Nat × Nat))

structure TE where
  size : Nat
  bytes : Nat
  kind : TK
  zero : List PV
  /-- rows of plain cells: '==' goes cell by cell -/
  eq : Bool := false

def TE.agg (e : TE) : Bool :=
  match e.kind with
  | .struct _ => true
  | _ => false

abbrev Tab := List (Nat × TE)

def Tab.get : Tab → Nat → Option TE
  | [], _ => none
  | (k, e) :: T, t => if k = t then some e else Tab.get T t

/-- The element type of a slice type, with its own row. -/
def Tab.el (T : Tab) (t : Nat) : Option TE :=
  match T.get t with
  | some ⟨_, _, .slice el, _, _⟩ => T.get el
  | _ => none

/-- Place, type's row of a field. -/
def Tab.fld (T : Tab) (t f : Nat) : Option (Nat × TE) :=
  match T.get t with
  | some ⟨_, _, .struct fs, _, _⟩ => match fs[f]? with
    | some (off, ft) => match T.get ft with
      | some e => some (off, e)
      | none => none
    | none => none
  | _ => none

/-! ### states -/

def lk : List (Key × TV) → Nat → Nat → Option TV
  | [], _, _ => none
  | ((t', c'), tv) :: r, t, c => if t' = t then (if c' = c then some tv else lk r t c) else lk r t c

def del : List (Key × TV) → Nat → List (Key × TV)
  | [], _ => []
  | ((t', c'), tv) :: r, t => if t' = t then del r t else ((t', c'), tv) :: del r t

def rlk : List Root → Key → Option Root
  | [], _ => none
  | R :: r, k => if R.key.1 = k.1 then (if R.key.2 = k.2 then some R else rlk r k) else rlk r k

def keyEq (a b : Key) : Bool := a.1 == b.1 && a.2 == b.2

def Cap.root : Cap → Option Key
  | .adr r _ => some r
  | .fadr _ => none

def TV.on (k : Key) : TV → Bool
  | .adr r _ => keyEq r k
  | .view _ r _ _ => keyEq r k
  | .win r _ _ _ => keyEq r k
  | .sh r _ _ => keyEq r k
  | .clo _ caps => caps.any fun c => match c with | .adr r _ => keyEq r k | .fadr _ => false
  | .grd _ tv => tv.on k
  | _ => false

/-- The first step of a path, and how many cells of the root's row it may touch. -/
def stepLen : List Nat → Nat → Nat
  | [], n => n
  | _ :: _, _ => 1

def apart1 (q p : List Nat) (n m : Nat) : Bool :=
  match q, p with
  | q0 :: q', p0 :: p' => Nat.ble (q0 + stepLen q' n) p0 || Nat.ble (p0 + stepLen p' m) q0
  | _, _ => false

def safeAdr (k : Key) (q : List Nat) (n : Nat) (r : Key) (p : List Nat) : Bool :=
  !keyEq r k || Nat.ble p.length q.length || apart1 q p n 1

/-- A term that stays when n cells at the path q of the root k are set. -/
def TV.safe (k : Key) (q : List Nat) (n : Nat) : TV → Bool
  | .adr r p => safeAdr k q n r p
  | .view _ r p m => !keyEq r k || Nat.blt p.length q.length || apart1 q p n m
  | .win r p _ _ => !keyEq r k || Nat.blt p.length q.length || apart1 q p n 1
  | .sh r p m => !keyEq r k || Nat.blt 1 q.length || apart1 q [p] n m
  | .clo _ caps => caps.all fun c => match c with | .adr r p => safeAdr k q n r p | .fadr _ => true
  | .grd _ tv => tv.safe k q n
  | _ => true

def keepE (f : TV → Bool) : List (Key × TV) → List (Key × TV)
  | [] => []
  | e :: r => bif f e.2 then e :: keepE f r else keepE f r

def delR : List Root → Key → List Root
  | [], _ => []
  | R :: r, k => bif keyEq R.key k then delR r k else R :: delR r k

/-- Forget a root, and all that leads to it. -/
def St.drop (st : St) (k : Key) : St :=
  { st with env := keepE (fun tv => !tv.on k) st.env, roots := delR st.roots k }

def setR : List Root → Key → List PV → List Root
  | [], _, _ => []
  | R :: r, k, row => bif keyEq R.key k then { R with row := row } :: setR r k row else R :: setR r k row

/-- n cells at a path are set. -/
def St.setAt (st : St) (k : Key) (q : List Nat) (new : List PV) : Option St :=
  match rlk st.roots k with
  | some R => match setP q R.row new with
    | some row => some { st with env := keepE (TV.safe k q new.length) st.env, roots := setR st.roots k row }
    | none => none
  | none => none

def St.put (st : St) (d : Nat) (tv : TV) : Option St :=
  if d < st.nt then some { st with env := ((d, 0), tv) :: del st.env d } else none

/-- A new root; one of the same key goes first. -/
def hasKey : List Key → Key → Bool
  | [], _ => false
  | k' :: r, k => keyEq k' k || hasKey r k

def St.add (st : St) (k : Key) (virt : Bool) (row : List PV) : Option St :=
  bif hasKey st.pk k then none else
  some { st with env := keepE (fun tv => !tv.on k) st.env, roots := ⟨k, virt, row⟩ :: delR st.roots k }

/-! ### operands -/

def constTV : Value → Option TV
  | .int k n => some (.val false [.int k n])
  | .bool b => some (.val false [.bool b])
  | .string s => some (.val false [.str s.data.toList])
  | .slice none 0 0 => some .nil
  | _ => none

def St.opv (st : St) : Operand → Option TV
  | .tmp t => lk st.env t 0
  | .const v => constTV v
  | .func f => some (.clo f [])
  | .global _ => none

/-- An operand under the operation's own condition. -/
def St.opg (st : St) (G : Bool) (x : Operand) : Option TV :=
  match st.opv x with
  | some (.grd g tv) => bif (!G || g) then some tv else none
  | r => r

def St.sc (st : St) (G : Bool) (x : Operand) : Option PV :=
  match st.opg G x with
  | some (.val false [p]) => some p
  | _ => none

def chk {α : Type} (G c : Bool) (x : Option α) : Option α := bif (!G || c) then x else none

def PV.isOwn : PV → Bool
  | .sl true _ _ _ => true
  | _ => false

def hasOwn : List PV → Bool
  | [] => false
  | p :: ps => p.isOwn || hasOwn ps

def bump : List Nat → Nat → List Nat
  | [], _ => []
  | [o], d => [o + d]
  | o :: o' :: p, d => o :: bump (o' :: p) d

def sub (row : List PV) (o n : Nat) : List PV := (row.drop o).take n

/-! ### arithmetic and comparisons -/

def evInt (op : BinOp) (k : IntKind) (x y : Int) : Option PV :=
  match op with
  | .add => some (.int k (k.wrap (x + y)))
  | .sub => some (.int k (k.wrap (x - y)))
  | .mul => some (.int k (k.wrap (x * y)))
  | .quo => if y = 0 then none else some (.int k (k.wrap (x.tdiv y)))
  | .rem => if y = 0 then none else some (.int k (x.tmod y))
  | .and => some (.int k (k.wrap (BitVec.ofInt k.bits x &&& BitVec.ofInt k.bits y).toNat))
  | .or => some (.int k (k.wrap (BitVec.ofInt k.bits x ||| BitVec.ofInt k.bits y).toNat))
  | .xor => some (.int k (k.wrap (BitVec.ofInt k.bits x ^^^ BitVec.ofInt k.bits y).toNat))
  | .eql => some (.bool (x == y))
  | .neq => some (.bool (x != y))
  | .lss => some (.bool (decide (x < y)))
  | .leq => some (.bool (decide (x ≤ y)))
  | .gtr => some (.bool (decide (y < x)))
  | .geq => some (.bool (decide (y ≤ x)))
  | _ => none

def evShift (op : BinOp) (k : IntKind) (x y : Int) : Option PV :=
  if y < 0 then none else match op with
  | .shl => some (.int k (k.wrap (x * 2 ^ (min y.toNat k.bits))))
  | .shr => some (.int k (x.fdiv (2 ^ (min y.toNat k.bits))))
  | _ => none

def evStr (op : BinOp) (x y : List UInt8) : Option PV :=
  match op with
  | .add => if x.length + y.length ≤ 9223372036854775807 then some (.str (x ++ y)) else none
  | .eql => some (.bool (x == y))
  | .neq => some (.bool (!(x == y)))
  | .lss => some (.bool (Op.bytesLess x y))
  | .leq => some (.bool (Op.bytesLess x y || x == y))
  | .gtr => some (.bool (!(Op.bytesLess x y || x == y)))
  | .geq => some (.bool (!(Op.bytesLess x y)))
  | _ => none

def evBool (op : BinOp) (x y : Bool) : Option PV :=
  match op with
  | .eql => some (.bool (x == y))
  | .neq => some (.bool (!(x == y)))
  | _ => none

/-- Shifts part from the others: there the kinds may differ. -/
def isShift : BinOp → Bool
  | .shl => true
  | .shr => true
  | _ => false

def evBin (T : Tab) (op : BinOp) (xt : Nat) (x y : PV) : Option PV :=
  match x, y with
  | .int k a, .int k' b => bif isShift op then evShift op k a b else (if k = k' then evInt op k a b else none)
  | .str a, .str b => bif isShift op then none else evStr op a b
  | .bool a, .bool b => match T.get xt with
    | some ⟨_, _, .bool, _, _⟩ => evBool op a b
    | _ => none
  | _, _ => none

/-- Rows of plain cells, cell by cell. -/
def eqRow : List PV → List PV → Option Bool
  | [], [] => some true
  | .int k a :: x, .int k' b :: y => if k = k' then (eqRow x y).map (a == b && ·) else none
  | .str a :: x, .str b :: y => (eqRow x y).map (a == b && ·)
  | .bool a :: x, .bool b :: y => (eqRow x y).map (a == b && ·)
  | _, _ => none

/-- Two rows of the same kinds of plain cells. -/
def sameKinds : List PV → List PV → Bool
  | [], [] => true
  | .int _ _ :: x, .int _ _ :: y => sameKinds x y
  | .str _ :: x, .str _ :: y => sameKinds x y
  | .bool _ :: x, .bool _ :: y => sameKinds x y
  | _, _ => false

def bytesPV (s : List UInt8) : List PV := s.map fun b => .int .u8 b.toNat

def toBytes : List PV → Option (List UInt8)
  | [] => some []
  | .int .u8 n :: r => if 0 ≤ n ∧ n < 256 then (toBytes r).map (UInt8.ofNat n.toNat :: ·) else none
  | _ => none

end Go.Proofs.YtddfcajdelfikaaDoor.Vm
