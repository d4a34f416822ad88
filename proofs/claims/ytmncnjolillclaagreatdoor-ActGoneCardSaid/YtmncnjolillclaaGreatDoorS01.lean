/-
  SK, PART A. The definitions of an abstract machine for the walked programs: values with symbolic integers, a heap of families with epochs,
  structured code with types resolved, and its run with fuel. Nothing is proved here.
-/
import Derived.Orders
import Derived.KernelRfl
noncomputable section
namespace Go.Sk

/-- A tree of cells by number. -/
inductive Tr (α : Type) where
  | nil
  | node (l : Tr α) (v : Option α) (r : Tr α)

namespace Tr
variable {α : Type}
def get (t : Tr α) : Nat → Option α :=
  Tr.rec (motive := fun _ => Nat → Option α) (fun _ => none)
    (fun _ v _ l r n => Bool.rec (Bool.rec (r (Nat.sub (Nat.div n 2) 1)) (l (Nat.div n 2)) (Nat.beq (Nat.mod n 2) 1)) v (Nat.beq n 0)) t
def mk (x : Option α) (k : Nat) : Nat → Tr α :=
  Nat.rec (motive := fun _ => Nat → Tr α) (fun _ => .nil)
    (fun _ f n => Bool.rec (Bool.rec (.node .nil none (f (Nat.sub (Nat.div n 2) 1))) (.node (f (Nat.div n 2)) none .nil) (Nat.beq (Nat.mod n 2) 1)) (.node .nil x .nil) (Nat.beq n 0)) k
def put (t : Tr α) (n : Nat) (x : Option α) : Tr α :=
  Tr.rec (motive := fun _ => Nat → Tr α) (fun n => mk x (Nat.succ n) n)
    (fun l v r f g n => Bool.rec (Bool.rec (.node l v (g (Nat.sub (Nat.div n 2) 1))) (.node (f (Nat.div n 2)) v r) (Nat.beq (Nat.mod n 2) 1)) (.node l x r) (Nat.beq n 0)) t n
end Tr

/-- Integers: literals, variables, what operators make of them. -/
inductive IE where
  | lit (n : Int)
  | var (i : Nat)
  | op (o : BinOp) (k : IntKind) (a b : IE)
  deriving DecidableEq

/-- A place: its family, the epoch at which it was reached, and the cell. -/
structure DA where
  fam : Nat
  ep : Nat
  off : Nat
  deriving DecidableEq

inductive V where
  | bool (b : Bool)
  | int (k : IntKind) (e : IE)
  | str (s : List Nat)
  | ptr (a : Option DA)
  | gptr (g off : Nat)
  | slice (a : Option DA) (len sz : Nat)
  | map (r : Option Nat)
  | iter (r : Nat)
  | func (fn : Fn) (first captured : List V)
  | nilFunc
  | iface (t : Nat) (v : V)
  | nilIface
  | agg (cs : List V)
  | tuple (vs : List V)
  | abool
  deriving Inhabited

structure Fam where
  ep : Nat
  size : Nat
  cells : Tr (V × Nat)

inductive Obj where
  | cells (f : Fam)
  | map (es : List (V × V × Nat)) (clock : Nat)
  | miter (m : Option Nat) (since : Nat) (seen : List Nat) (stepped : Nat)
  | siter (s : List Nat) (pos : Nat)

structure Heap where
  next : Nat
  objs : Tr Obj

inductive Opd where
  | tmp (t : Nat)
  | const (v : V)
  | glob (g : Nat)
  | func (f : Nat)

/-- What '==' asks of a type. -/
inductive EqK where
  | prim | bool | ptr | iface | slice | map | func

abbrev Env := Tr V
/-- What an operation does, by what it touches: a value of the temporaries alone; of the heap, too; one new object; whatever it may be; of an object that its own region made; a call. -/
inductive SK where
  | pure (r : Env → Option V)
  | read (r : Env → Heap → Option V)
  | alloc (r : Env → Nat → Option (V × Obj))
  | eff (r : Env → Heap → Option (V × Heap))
  | fresh (x : Opd) (r : Env → Heap → Option V)
  | call (r : Env → Option (Nat × List V))
/-- An operation: its number in its region; where its value goes, its guard, what it does; the temporaries that it reads, and a mask of all operations of its region that come ahead of it in every order. -/
structure SOper where
  no : Nat
  dst : Option Nat
  guard : Option (Nat × Bool)
  op : SK
  rd : List Nat
  deps : Nat

/-- A read of a drawn region that may come at more than one time: its place in the list, the first and the last time (how many operations with effects come ahead of it). -/
structure Chk where
  at_ : Nat
  lo : Nat
  hi : Nat

inductive DC where
  | skip
  | region (ops : List SOper)
  | draw (ops : List SOper) (checks : List Chk)
  | seq (a b : DC)
  | cond (c : Opd) (a b : DC)
  | block (id : Nat) (c : DC)
  | loop (c : DC)
  | exit (id : Nat)
  | ret

inductive DRes where
  | tmp (t : Nat)
  | cell (t : Nat) (agg : Bool) (n : Nat)

structure DFn where
  ntmps : Nat
  body : DC
  res : List DRes

/-- Functions without a body that the model computes itself. -/
inductive ExtK where
  | count | indexByte

/-- What a run leans on: facts on the variables, the global cells, the functions, the methods. -/
structure Cx where
  asm : List (BinOp × IE × IE × Bool)
  glob : Nat → Nat → Option V
  meth : Nat → String → Option Nat
  ext : Nat → Option ExtK

/-! ### Integers -/
def ile : Int → Int → Bool
  | .ofNat m, .ofNat n => Nat.ble m n
  | .negSucc _, .ofNat _ => true
  | .ofNat _, .negSucc _ => false
  | .negSucc m, .negSucc n => Nat.ble n m
def ieq : Int → Int → Bool
  | .ofNat m, .ofNat n => Nat.beq m n
  | .negSucc m, .negSucc n => Nat.beq m n
  | _, _ => false
/-- IntKind.wrap, in fewer steps. -/
def fwrap (k : IntKind) (n : Int) : Int :=
  match k with
  | .i64 => bif ile (.negSucc 9223372036854775807) n && ile n (.ofNat 9223372036854775807) then n else IntKind.wrap .i64 n
  | .u64 => bif ile (.ofNat 0) n && ile n (.ofNat 18446744073709551615) then n else IntKind.wrap .u64 n
  | .u8 => bif ile (.ofNat 0) n && ile n (.ofNat 255) then n else IntKind.wrap .u8 n
  | k => IntKind.wrap k n

/-- What an operator makes of two literals of one kind, where it makes an integer. -/
def litArith (o : BinOp) (k : IntKind) (x y : Int) : Option Int :=
  match o with
  | .add => some (fwrap k (Int.add x y))
  | .sub => some (fwrap k (Int.sub x y))
  | .mul => some (fwrap k (Int.mul x y))
  | .quo => bif ieq y (.ofNat 0) then none else some (fwrap k (Int.tdiv x y))
  | .rem => bif ieq y (.ofNat 0) then none else some (Int.tmod x y)
  | .and => some (fwrap k (BitVec.ofInt k.bits x &&& BitVec.ofInt k.bits y).toNat)
  | .or => some (fwrap k (BitVec.ofInt k.bits x ||| BitVec.ofInt k.bits y).toNat)
  | .xor => some (fwrap k (BitVec.ofInt k.bits x ^^^ BitVec.ofInt k.bits y).toNat)
  | .andNot => some (fwrap k (BitVec.ofInt k.bits x &&& ~~~ BitVec.ofInt k.bits y).toNat)
  | _ => none
def litShift (o : BinOp) (k : IntKind) (x y : Int) : Option Int :=
  match y with
  | .negSucc _ => none
  | .ofNat n =>
    match o with
    | .shl => bif Nat.ble n k.bits then some (fwrap k (x * (.ofNat (2 ^ n)))) else none
    | .shr => bif Nat.ble n k.bits then some (Int.fdiv x (.ofNat (2 ^ n))) else none
    | _ => none
def litCmp (o : BinOp) (x y : Int) : Option Bool :=
  match o with
  | .eql => some (ieq x y)
  | .neq => some (!ieq x y)
  | .lss => some (!ile y x)
  | .leq => some (ile x y)
  | .gtr => some (!ile x y)
  | .geq => some (ile y x)
  | _ => none
def asmFind (o : BinOp) (a b : IE) : List (BinOp × IE × IE × Bool) → Option Bool
  | [] => none
  | (o', a', b', r) :: l => if o = o' ∧ a = a' ∧ b = b' then some r else asmFind o a b l
def ieCmp (cx : Cx) (o : BinOp) (a b : IE) : Option Bool :=
  match a, b with
  | .lit x, .lit y => litCmp o x y
  | a, b =>
    match o with
    | .eql => if a = b then some true else asmFind o a b cx.asm
    | .neq => if a = b then some false else asmFind o a b cx.asm
    | o => asmFind o a b cx.asm
def ieArith (cx : Cx) (o : BinOp) (k : IntKind) (a b : IE) : Option IE :=
  match a, b with
  | .lit x, .lit y => (litArith o k x y).map .lit
  | a, b =>
    match o with
    | .add | .sub | .mul => some (.op o k a b)
    | .quo | .rem => bif (ieCmp cx .eql b (.lit 0) == some false) then some (.op o k a b) else none
    | _ => none
def binInt (cx : Cx) (o : BinOp) (k k' : IntKind) (a b : IE) : Option V :=
  match o with
  | .shl | .shr =>
    match a, b with
    | .lit x, .lit y => (litShift o k x y).map fun n => .int k (.lit n)
    | _, _ => none
  | .eql | .neq | .lss | .leq | .gtr | .geq => if k = k' then (match ieCmp cx o a b with
    | some r => some (.bool r)
    | none => some .abool) else none
  | o => if k = k' then (ieArith cx o k a b).map (.int k) else none

/-! ### Texts, places, equality -/
def strEq : List Nat → List Nat → Bool
  | [], [] => true
  | a :: x, b :: y => Nat.beq a b && strEq x y
  | _, _ => false
def strLt : List Nat → List Nat → Bool
  | _, [] => false
  | [], _ :: _ => true
  | a :: x, b :: y => Nat.blt a b || (Nat.beq a b && strLt x y)
def lenOf {α : Type} : List α → Nat → Nat
  | [], n => n
  | _ :: l, n => lenOf l (n + 1)
def binStr (o : BinOp) (x y : List Nat) : Option V :=
  match o with
  | .add => bif Nat.ble (x.length + y.length) 1099511627776 then some (.str (x ++ y)) else none
  | .eql => some (.bool (strEq x y))
  | .neq => some (.bool (!strEq x y))
  | .lss => some (.bool (strLt x y))
  | .leq => some (.bool (strLt x y || strEq x y))
  | .gtr => some (.bool (!(strLt x y || strEq x y)))
  | .geq => some (.bool (!strLt x y))
  | _ => none
/-- Are two places one? Undecided if they lie in one family at two epochs. -/
def sameDA (a b : DA) : Option Bool :=
  bif Nat.beq a.fam b.fam then (bif Nat.beq a.ep b.ep then some (Nat.beq a.off b.off) else none) else some false
def eqV (ek : EqK) (cflag : Bool) : V → V → Option Bool
  | .bool a, .bool b => match ek with | .bool => some (a == b) | _ => none
  | .ptr none, .ptr b => match ek with | .ptr => some b.isNone | _ => none
  | .ptr (some _), .ptr none => match ek with | .ptr => some false | _ => none
  | .ptr (some a), .ptr (some b) => match ek with | .ptr => sameDA a b | _ => none
  | .nilIface, .nilIface => match ek with | .iface => bif cflag then some true else none | _ => none
  | .nilIface, .iface _ _ => match ek with | .iface => some false | _ => none
  | .iface _ _, .nilIface => match ek with | .iface => some false | _ => none
  | .slice none _ _, .slice b _ _ => match ek with | .slice => some b.isNone | _ => none
  | .slice (some _) _ _, .slice none _ _ => match ek with | .slice => some false | _ => none
  | .map none, .map b => match ek with | .map => some b.isNone | _ => none
  | .map (some _), .map none => match ek with | .map => some false | _ => none
  | .nilFunc, .nilFunc => match ek with | .func => some true | _ => none
  | .nilFunc, .func _ _ _ => match ek with | .func => some false | _ => none
  | .func _ _ _, .nilFunc => match ek with | .func => some false | _ => none
  | _, _ => none
def binRest (o : BinOp) (ek : EqK) (cflag : Bool) (x y : V) : Option V :=
  match o with
  | .eql => (eqV ek cflag x y).map .bool
  | .neq => (eqV ek cflag x y).map fun b => .bool (!b)
  | _ => none
def binV (cx : Cx) (o : BinOp) (ek : EqK) (cflag : Bool) (x y : V) : Option V :=
  match x, y with
  | .int k a, .int k' b => binInt cx o k k' a b
  | .str a, .str b => binStr o a b
  | x, y => binRest o ek cflag x y

/-! ### The heap -/
def Heap.fam (h : Heap) (f : Nat) : Option Fam :=
  match h.objs.get f with
  | some (.cells m) => some m
  | _ => none
/-- One cell, as it is read at an epoch. -/
def Fam.cell (m : Fam) (ep i : Nat) : Option V :=
  bif Nat.blt i m.size then
    match m.cells.get i with
    | some (v, lo) => bif Nat.ble lo ep then some v else none
    | none => none
  else none
def Fam.cellsAt (m : Fam) (ep i : Nat) : Nat → Option (List V)
  | 0 => some []
  | n + 1 =>
    match m.cell ep i with
    | none => none
    | some v =>
      match m.cellsAt ep (i + 1) n with
      | none => none
      | some l => some (v :: l)
def Fam.put (m : Fam) (i : Nat) (v : V) : Fam := { m with cells := m.cells.put i (some (v, m.ep)) }
def Fam.puts (m : Fam) (i : Nat) : List V → Fam
  | [] => m
  | v :: l => (m.put i v).puts (i + 1) l
def Heap.cellsAt (h : Heap) (a : DA) (n : Nat) : Option (List V) :=
  match h.fam a.fam with
  | some m => bif Nat.ble a.ep m.ep then m.cellsAt a.ep a.off n else none
  | none => none
def Heap.setObj (h : Heap) (f : Nat) (o : Obj) : Heap := { h with objs := h.objs.put f (some o) }
/-- Writes cells: at the latest epoch alone. -/
def Heap.write (h : Heap) (a : DA) (l : List V) : Option Heap :=
  match h.fam a.fam with
  | some m => bif Nat.beq a.ep m.ep && Nat.ble (a.off + l.length) m.size && Nat.blt 0 l.length then some (h.setObj a.fam (.cells (m.puts a.off l))) else none
  | none => none
def Heap.new (h : Heap) (o : Obj) : Heap := { next := h.next + 1, objs := h.objs.put h.next (some o) }
def famOf (l : List V) : Fam := Fam.puts { ep := 0, size := l.length, cells := .nil } 0 l
def Heap.newCells (h : Heap) (l : List V) : DA × Heap := (⟨h.next, 0, 0⟩, h.new (.cells (famOf l)))

def V.cells : V → List V
  | .agg cs => cs
  | v => [v]
/-- Is a value that of one cell? -/
def V.flat : V → Bool
  | .agg _ => false
  | .tuple _ => false
  | _ => true
def allFlat : List V → Bool
  | [] => true
  | v :: l => v.flat && allFlat l

/-! ### The operations -/
def eval (env : Env) : Opd → Option V
  | .tmp t => env.get t
  | .const v => some v
  | .glob g => some (.gptr g 0)
  | .func f => some (.func (.func f) [] [])
def evals (env : Env) : List Opd → Option (List V)
  | [] => some []
  | x :: l =>
    match eval env x with
    | none => none
    | some v => match evals env l with
      | none => none
      | some vs => some (v :: vs)
def litNat : V → Option Nat
  | .int _ (.lit (.ofNat n)) => some n
  | _ => none
def listSet (cs : List V) : Nat → List V → List V
  | _, [] => cs
  | i, v :: l => listSet (cs.set i v) (i + 1) l
def fillParts (env : Env) (cells : List V) : List (Nat × Nat × Opd) → Option (List V)
  | [] => some cells
  | (off, sz, x) :: l =>
    match eval env x with
    | none => none
    | some v =>
      bif Nat.beq v.cells.length sz && Nat.ble (off + sz) cells.length && allFlat v.cells then fillParts env (listSet cells off v.cells) l else none
def optNat (env : Env) : Option Opd → Option (Option Nat)
  | none => some none
  | some x => match eval env x with
    | none => none
    | some v => match litNat v with
      | none => none
      | some n => some (some n)
def globCells (cx : Cx) (g off : Nat) : Nat → Option (List V)
  | 0 => some []
  | n + 1 => match cx.glob g off with
    | none => none
    | some v => match globCells cx g (off + 1) n with
      | none => none
      | some l => some (v :: l)
def loadV (cx : Cx) (h : Heap) (agg : Bool) (n : Nat) : V → Option V
  | .ptr (some a) => match h.cellsAt a n with
    | none => none
    | some l => bif agg then some (.agg l) else match l with | [v] => some v | _ => none
  | .gptr g off => match globCells cx g off n with
    | none => none
    | some l => bif agg then some (.agg l) else match l with | [v] => some v | _ => none
  | _ => none
/-- The kinds of keys that are followed. -/
inductive KK where
  | int | str | ptr | pair | no
/-- Is a value no key of its kind? -/
def KK.isNo (kk : KK) (u : V) : Bool :=
  match kk with
  | .no => true
  | .pair => match u with
    | .agg cs => match cs with
      | [.int _ _, .int _ _] => false
      | _ => true
    | _ => true
  | _ => false
def pairEq (cx : Cx) (l m : List V) : Option Bool :=
  match l with
  | [.int k x, .int k1 y] => match m with
    | [.int k' x', .int k1' y'] => if k = k' ∧ k1 = k1' then (match ieCmp cx .eql x x' with
      | some true => ieCmp cx .eql y y'
      | some false => some false
      | none => none) else none
    | _ => none
  | _ => none
def keyEq (cx : Cx) (kk : KK) (a b : V) : Option Bool :=
  match kk with
  | .int => match a with
    | .int k x => match b with
      | .int k' y => if k = k' then ieCmp cx .eql x y else none
      | _ => none
    | _ => none
  | .str => match a with
    | .str x => match b with
      | .str y => some (strEq x y)
      | _ => none
    | _ => none
  | .ptr => match a with
    | .ptr x => match b with
      | .ptr y => eqV .ptr false (.ptr x) (.ptr y)
      | _ => none
    | _ => none
  | .pair => match a with
    | .agg l => match b with
      | .agg m => pairEq cx l m
      | _ => none
    | _ => none
  | .no => none
def findKey (cx : Cx) (kk : KK) (k : V) : List (V × V × Nat) → Nat → Option (Option (Nat × V))
  | [], _ => some none
  | (k', v, _) :: l, i =>
    match keyEq cx kk k k' with
    | none => none
    | some true => some (some (i, v))
    | some false => findKey cx kk k l (i + 1)
def mapOf (h : Heap) : V → Option (List (V × V × Nat))
  | .map none => some []
  | .map (some r) => match h.objs.get r with
    | some (.map es _) => some es
    | _ => none
  | _ => none
/-! Operations that neither read the heap nor write it. -/
def oMove (x : Opd) (env : Env) : Option V := eval env x
def oPick (c a b : Opd) (env : Env) : Option V :=
  match eval env c with
  | some (.bool true) => eval env a
  | some (.bool false) => eval env b
  | _ => none
def oBuild (zero : List V) (parts : List (Nat × Nat × Opd)) (env : Env) : Option V :=
  match fillParts env zero parts with
  | some l => some (.agg l)
  | none => none
def nilCheckV (cx : Cx) : V → Option V
  | .ptr (some a) => some (.ptr (some a))
  | .gptr g o => some (.gptr g o)
  | .func (.func f) a b => some (.func (.func f) a b)
  | .func (.method m) [.iface t v] b => match cx.meth t m with
    | some _ => some (.func (.method m) [.iface t v] b)
    | none => none
  | _ => none
def oNilCheck (cx : Cx) (x : Opd) (env : Env) : Option V :=
  match eval env x with
  | some v => nilCheckV cx v
  | none => none
def oBin (cx : Cx) (o : BinOp) (ek : EqK) (cf : Bool) (x y : Opd) (env : Env) : Option V :=
  match eval env x with
  | none => none
  | some a => match eval env y with
    | none => none
    | some b => binV cx o ek cf a b
def unV (o : UnOp) : V → Option V
  | .bool b => match o with | .not => some (.bool (!b)) | _ => none
  | .int k (.lit n) => match o with | .neg => some (.int k (.lit (fwrap k (Int.sub 0 n)))) | _ => none
  | _ => none
def oUn (o : UnOp) (x : Opd) (env : Env) : Option V :=
  match eval env x with
  | some v => unV o v
  | none => none
def oCvt (k : IntKind) (x : Opd) (env : Env) : Option V :=
  match eval env x with
  | some (.int _ (.lit n)) => some (.int k (.lit (fwrap k n)))
  | _ => none
def oMkIface (t : Nat) (x : Opd) (env : Env) : Option V :=
  match eval env x with
  | some v => some (.iface t v)
  | none => none
def oMkFunc (fn : Fn) (a b : List Opd) (env : Env) : Option V :=
  match evals env a with
  | none => none
  | some a => match evals env b with
    | none => none
    | some b => some (.func fn a b)
def sliceSV (sz : Nat) (lo hi : Option Nat) : V → Option V
  | .slice a len sz' =>
    bif Nat.ble (hi.getD len) len && Nat.ble (lo.getD 0) (hi.getD len) then
      (match a with
        | none => some (.slice none 0 0)
        | some a => bif Nat.beq sz sz' then some (.slice (some { a with off := a.off + lo.getD 0 * sz }) (hi.getD len - lo.getD 0) sz) else none)
    else none
  | _ => none
def oSliceS (sz : Nat) (x : Opd) (lo hi : Option Opd) (env : Env) : Option V :=
  match eval env x with
  | none => none
  | some v => match optNat env lo with
    | none => none
    | some lo => match optNat env hi with
      | none => none
      | some hi => sliceSV sz lo hi v
def sliceTV (lo hi : Option Nat) : V → Option V
  | .str s => bif Nat.ble (hi.getD s.length) s.length && Nat.ble (lo.getD 0) (hi.getD s.length) then some (.str ((s.take (hi.getD s.length)).drop (lo.getD 0))) else none
  | _ => none
def oSliceT (x : Opd) (lo hi : Option Opd) (env : Env) : Option V :=
  match eval env x with
  | none => none
  | some v => match optNat env lo with
    | none => none
    | some lo => match optNat env hi with
      | none => none
      | some hi => sliceTV lo hi v
def oFieldAddr (off : Nat) (x : Opd) (env : Env) : Option V :=
  match eval env x with
  | some (.ptr (some a)) => some (.ptr (some { a with off := a.off + off }))
  | some (.gptr g o) => some (.gptr g (o + off))
  | _ => none
def oField (agg : Bool) (off n : Nat) (x : Opd) (env : Env) : Option V :=
  match eval env x with
  | some (.agg cs) => bif agg then some (.agg ((cs.drop off).take n)) else cs[off]?
  | _ => none
def indexAddrV (arr : Option Nat) (sz i : Nat) : V → Option V
  | .slice (some a) len sz' => match arr with
    | none => bif Nat.blt i len && Nat.beq sz sz' then some (.ptr (some { a with off := a.off + i * sz })) else none
    | some _ => none
  | .ptr (some a) => match arr with
    | some n => bif Nat.blt i n then some (.ptr (some { a with off := a.off + i * sz })) else none
    | none => none
  | .gptr g o => match arr with
    | some n => bif Nat.blt i n then some (.gptr g (o + i * sz)) else none
    | none => none
  | _ => none
def natOf (env : Env) (i : Opd) : Option Nat :=
  match eval env i with
  | some v => litNat v
  | none => none
def oIndexAddr (arr : Option Nat) (sz : Nat) (x i : Opd) (env : Env) : Option V :=
  match natOf env i with
  | none => none
  | some i => match eval env x with
    | none => none
    | some v => indexAddrV arr sz i v
def indexTV (i : Nat) : V → Option V
  | .str s => match s[i]? with
    | some b => some (.int .u8 (.lit (.ofNat b)))
    | none => none
  | _ => none
def oIndexT (x i : Opd) (env : Env) : Option V :=
  match natOf env i with
  | none => none
  | some i => match eval env x with
    | none => none
    | some v => indexTV i v
def oExtract (x : Opd) (i : Nat) (env : Env) : Option V :=
  match eval env x with
  | some (.tuple vs) => vs[i]?
  | _ => none
def maxE (isMax : Bool) : V → List V → Option V
  | x, [] => some x
  | .int k (.lit a), .int _ (.lit b) :: l => maxE isMax (.int k (.lit (bif isMax then (bif ile b a then a else b) else (bif ile a b then a else b)))) l
  | _, _ => none
def oMinMax (m : Bool) (x : Opd) (rest : List Opd) (env : Env) : Option V :=
  match eval env x with
  | none => none
  | some v => match evals env rest with
    | none => none
    | some vs => maxE m v vs
def countNat (c : Nat) : List Nat → Nat → Nat
  | [], n => n
  | b :: l, n => countNat c l (bif Nat.beq b c then n + 1 else n)
def findNat (c : Nat) : List Nat → Nat → Option Nat
  | [], _ => none
  | b :: l, i => bif Nat.beq b c then some i else findNat c l (i + 1)
def extV (k : ExtK) (args : List V) : Option V :=
  match args with
  | [.str s, .int .u8 (.lit (.ofNat c))] => bif Nat.ble c 255 then
    (match k with
      | .count => some (.int .i64 (.lit (.ofNat (countNat c s 0))))
      | .indexByte => match findNat c s 0 with
        | some i => some (.int .i64 (.lit (.ofNat i)))
        | none => some (.int .i64 (.lit (.negSucc 0)))) else none
  | _ => none
def oExt (k : ExtK) (args : List Opd) (env : Env) : Option V :=
  match evals env args with
  | some vs => extV k vs
  | none => none

/-! Operations that read the heap. -/
def oLoad (cx : Cx) (agg : Bool) (n : Nat) (a : Opd) (env : Env) (h : Heap) : Option V :=
  match eval env a with
  | some v => loadV cx h agg n v
  | none => none
def lookupV (cx : Cx) (kk : KK) (zero k : V) (ok : Bool) (es : List (V × V × Nat)) : Option V :=
  match findKey cx kk k es 0 with
  | none => none
  | some (some (_, v)) => some (bif ok then .tuple [v, .bool true] else v)
  | some none => some (bif ok then .tuple [zero, .bool false] else zero)
def oLookup (cx : Cx) (kk : KK) (zero : V) (x i : Opd) (ok : Bool) (env : Env) (h : Heap) : Option V :=
  match eval env x with
  | none => none
  | some m => match eval env i with
    | none => none
    | some k => match mapOf h m with
      | none => none
      | some es => bif kk.isNo k then none else lookupV cx kk zero k ok es
def oLenS (x : Opd) (env : Env) : Option V :=
  match eval env x with
  | some (.slice _ n _) => some (.int .i64 (.lit (.ofNat n)))
  | _ => none
def oLenT (x : Opd) (env : Env) : Option V :=
  match eval env x with
  | some (.str s) => some (.int .i64 (.lit (.ofNat s.length)))
  | _ => none
def oLenM (x : Opd) (env : Env) (h : Heap) : Option V :=
  match eval env x with
  | some v => match mapOf h v with
    | some es => some (.int .i64 (.lit (.ofNat es.length)))
    | none => none
  | none => none
def bytesOf : List V → Option (List Nat)
  | [] => some []
  | .int .u8 (.lit (.ofNat b)) :: l => match bytesOf l with
    | some r => bif Nat.ble b 255 then some (b :: r) else none
    | none => none
  | _ => none
def b2sV (h : Heap) : V → Option V
  | .slice none _ _ => some (.str [])
  | .slice (some a) len sz => bif Nat.beq sz 1 then
      (match h.cellsAt a len with
        | some l => match bytesOf l with
          | some s => some (.str s)
          | none => none
        | none => none) else none
  | _ => none
def oB2s (x : Opd) (env : Env) (h : Heap) : Option V :=
  match eval env x with
  | some v => b2sV h v
  | none => none

/-! Operations that make one object, and change nothing else. -/
def oAlloc (cs : List V) (_ : Env) (n : Nat) : Option (V × Obj) := some (.ptr (some ⟨n, 0, 0⟩), .cells (famOf cs))
def oBox (k : Nat) (x : Opd) (env : Env) (n : Nat) : Option (V × Obj) :=
  match eval env x with
  | some v => bif Nat.beq v.cells.length k && allFlat v.cells then some (.ptr (some ⟨n, 0, 0⟩), .cells (famOf v.cells)) else none
  | none => none
def oBuildSlice (sz len : Nat) (zero : List V) (parts : List (Nat × Nat × Opd)) (env : Env) (n : Nat) : Option (V × Obj) :=
  match fillParts env zero parts with
  | some cs => some (.slice (some ⟨n, 0, 0⟩) len sz, .cells (famOf cs))
  | none => none
def oMkMap (_ : Env) (n : Nat) : Option (V × Obj) := some (.map (some n), .map [] 0)
def oMkSlice (sz bytes : Nat) (zero : List V) (len cap : Opd) (env : Env) (n : Nat) : Option (V × Obj) :=
  match natOf env len with
  | none => none
  | some l => match natOf env cap with
    | none => none
    | some c => bif Nat.ble l c && Nat.ble (c * bytes) 1099511627776 && Nat.ble c 1099511627776 then
        some (.slice (some ⟨n, 0, 0⟩) l sz, .cells (famOf ((List.replicate l zero).flatten))) else none

/-! Operations with effects. -/
def srcCells (h : Heap) (sz : Nat) : V → Option (Nat × List V)
  | .slice none _ _ => some (0, [])
  | .slice (some a) len sz' => bif Nat.beq len 0 then some (0, []) else bif Nat.beq sz sz' then
      (match h.cellsAt a (len * sz) with | some l => some (len, l) | none => none) else none
  | .str s => bif Nat.beq sz 1 then some (s.length, s.map fun b => .int .u8 (.lit (.ofNat b))) else none
  | _ => none
def growV (h : Heap) (sz : Nat) (a : DA) (len n : Nat) (l : List V) : Option (V × Heap) :=
  match h.fam a.fam with
  | some m =>
    bif Nat.beq a.ep m.ep && Nat.ble (a.off + len * sz) m.size then
      some (.slice (some { a with ep := m.ep + 1 }) (len + n) sz,
        h.setObj a.fam (.cells (Fam.puts { ep := m.ep + 1, size := a.off + (len + n) * sz, cells := m.cells } (a.off + len * sz) l)))
    else none
  | none => none
def appendV (h : Heap) (sz bytes n : Nat) (l : List V) : V → Option (V × Heap)
  | .slice none _ _ =>
    bif Nat.beq n 0 then some (.slice none 0 0, h)
    else bif Nat.ble (n * bytes) 70368744177664 then some (.slice (some ⟨h.next, 0, 0⟩) n sz, h.new (.cells (famOf l))) else none
  | .slice (some a) len sz' =>
    bif Nat.beq n 0 then some (.slice (some a) len sz', h)
    else bif Nat.beq sz sz' && Nat.ble ((len + n) * bytes) 70368744177664 then growV h sz a len n l else none
  | _ => none
def oAppend (sz bytes : Nat) (s x : Opd) (env : Env) (h : Heap) : Option (V × Heap) :=
  match eval env s with
  | none => none
  | some s => match eval env x with
    | none => none
    | some x => match srcCells h sz x with
      | none => none
      | some (n, l) => appendV h sz bytes n l s
def done (h : Option Heap) : Option (V × Heap) :=
  match h with
  | some h => some (.tuple [], h)
  | none => none
def oStore (n : Nat) (a x : Opd) (env : Env) (h : Heap) : Option (V × Heap) :=
  match eval env a with
  | some (.ptr (some a)) => match eval env x with
    | none => none
    | some v => bif Nat.beq v.cells.length n && allFlat v.cells then done (h.write a v.cells) else none
  | _ => none
def copyV (h : Heap) (sz : Nat) (d s : V) : Option (V × Heap) :=
  match d with
  | .slice da dl _ => match s with
    | .slice sa sl _ =>
      bif Nat.beq (Nat.min sl dl) 0 then some (.int .i64 (.lit 0), h) else
      match da with
      | none => none
      | some a => match sa with
        | none => none
        | some b => match h.cellsAt b (Nat.min sl dl * sz) with
          | none => none
          | some l => match h.write a l with
            | none => none
            | some h' => some (.int .i64 (.lit (.ofNat (Nat.min sl dl))), h')
    | _ => none
  | _ => none
def oCopy (sz : Nat) (d s : Opd) (env : Env) (h : Heap) : Option (V × Heap) :=
  match eval env d with
  | none => none
  | some d => match eval env s with
    | none => none
    | some s => copyV h sz d s
def oClear (zero : List V) (x : Opd) (env : Env) (h : Heap) : Option (V × Heap) :=
  match eval env x with
  | some (.slice none _ _) => some (.tuple [], h)
  | some (.slice (some a) len _) => bif Nat.beq len 0 then some (.tuple [], h) else done (h.write a ((List.replicate len zero).flatten))
  | _ => none
def setAt {α : Type} : List α → Nat → (α → α) → List α
  | [], _, _ => []
  | a :: l, 0, f => f a :: l
  | a :: l, n + 1, f => a :: setAt l n f
def updateV (cx : Cx) (kk : KK) (h : Heap) (k x : V) : V → Option Heap
  | .map (some r) => match h.objs.get r with
    | some (.map es clock) => match findKey cx kk k es 0 with
      | none => none
      | some (some (i, _)) => some (h.setObj r (.map (setAt es i fun e => (k, x, e.2.2)) clock))
      | some none => some (h.setObj r (.map (es ++ [(k, x, clock)]) (clock + 1)))
    | _ => none
  | _ => none
def oMapUpdate (cx : Cx) (kk : KK) (m k x : Opd) (env : Env) (h : Heap) : Option (V × Heap) :=
  match eval env m with
  | none => none
  | some m => match eval env k with
    | none => none
    | some k => match eval env x with
      | none => none
      | some x => bif kk.isNo k then none else done (updateV cx kk h k x m)
def oRange (x : Opd) (env : Env) (h : Heap) : Option (V × Heap) :=
  match eval env x with
  | some (.map none) => some (.iter h.next, h.new (.miter none 0 [] 0))
  | some (.map (some m)) => match h.objs.get m with
    | some (.map _ clock) => some (.iter h.next, h.new (.miter (some m) clock [] clock))
    | _ => none
  | _ => none
/-- Stepping an iterator over a map of which at most one entry is left. -/
def nextV (h : Heap) : V → Option (V × Heap)
  | .iter r => match h.objs.get r with
    | some (.miter none _ _ _) => some (.tuple [.bool false], h)
    | some (.miter (some m) since seen last) => match h.objs.get m with
      | some (.map es clock) =>
        bif Nat.beq last clock && !(!seen.isEmpty && !es.isEmpty && es.all fun e => Nat.ble last e.2.2) then
          match es.filter fun e => !seen.contains e.2.2 with
          | [] => some (.tuple [.bool false], h)
          | [e] => bif Nat.blt e.2.2 since then some (.tuple [.bool true, e.1, e.2.1], h.setObj r (.miter (some m) since (seen ++ [e.2.2]) clock)) else none
          | _ => none
        else none
      | _ => none
    | _ => none
  | _ => none
def oNext (x : Opd) (env : Env) (h : Heap) : Option (V × Heap) :=
  match eval env x with
  | some v => nextV h v
  | none => none
def entryV (h : Heap) : V → Option V
  | .iter r => match h.objs.get r with
    | some (.miter (some m) _ seen stepped) => match h.objs.get m with
      | some (.map es clock) => bif Nat.beq clock stepped then
          (match seen.getLast? with
            | none => none
            | some b => match es.find? fun e => Nat.beq e.2.2 b with
              | some e => some (.tuple [e.1, e.2.1])
              | none => none) else none
      | _ => none
    | _ => none
  | _ => none
def oEntry (x : Opd) (env : Env) (h : Heap) : Option (V × Heap) :=
  match eval env x with
  | some v => match entryV h v with
    | some r => some (r, h)
    | none => none
  | none => none

/-! Calls: the function and its arguments. -/
def oCall (f : Nat) (args : List Opd) (env : Env) : Option (Nat × List V) :=
  match evals env args with
  | some vs => some (f, vs)
  | none => none
def calleeV (cx : Cx) (vs : List V) : V → Option (Nat × List V)
  | .func (.func f) a b => some (f, a ++ vs ++ b)
  | .func (.method m) [.iface t v] [] => match cx.meth t m with
    | some f => some (f, v :: vs)
    | none => none
  | _ => none
def oCallv (cx : Cx) (x : Opd) (args : List Opd) (env : Env) : Option (Nat × List V) :=
  match eval env x with
  | none => none
  | some v => match evals env args with
    | none => none
    | some vs => calleeV cx vs v
def invokeV (cx : Cx) (m : String) (vs : List V) : V → Option (Nat × List V)
  | .iface t v => match cx.meth t m with
    | some f => some (f, v :: vs)
    | none => none
  | _ => none
def oInvoke (cx : Cx) (x : Opd) (m : String) (args : List Opd) (env : Env) : Option (Nat × List V) :=
  match eval env x with
  | none => none
  | some v => match evals env args with
    | none => none
    | some vs => invokeV cx m vs v

/-! ### Running -/
inductive Ex where
  | normal | exit (id : Nat) | ret
inductive Out where
  | fail
  | ok (x : Ex) (env : Env) (h : Heap)
abbrev Rec := Nat → List V → Heap → Option (V × Heap)

def wanted (env : Env) : Option (Nat × Bool) → Option Bool
  | none => some true
  | some (t, b) => match env.get t with
    | some (.bool c) => some (c == b)
    | some (.tuple _) => some false
    | _ => none
/-- One operation that is wanted. 'hr': the heap that reads see. -/
def runOp (rec : Rec) (env : Env) (h hr : Heap) : SK → Option (V × Heap)
  | .pure r => match r env with
    | some v => some (v, h)
    | none => none
  | .read r => match r env hr with
    | some v => some (v, h)
    | none => none
  | .alloc r => match r env h.next with
    | some (v, ob) => some (v, h.new ob)
    | none => none
  | .eff r => r env h
  | .fresh _ r => match r env h with
    | some v => some (v, h)
    | none => none
  | .call r => match r env with
    | some (f, args) => rec f args h
    | none => none
def putDst (env : Env) (d : Option Nat) (v : V) : Env :=
  match d with
  | none => env
  | some d => env.put d (some v)
def runOps (rec : Rec) : List SOper → Env → Heap → Option (Env × Heap)
  | [], env, h => some (env, h)
  | o :: l, env, h =>
    match wanted env o.guard with
    | none => none
    | some false => runOps rec l (putDst env o.dst (.tuple [])) h
    | some true => match runOp rec env h h o.op with
      | none => none
      | some (v, h') => runOps rec l (putDst env o.dst v) h'
def SK.isEff : SK → Bool
  | .eff _ => true
  | .call _ => true
  | _ => false
/-- What is read lies in an object that came since the last operation with effects. -/
def freshOk (env : Env) (h hr : Heap) : SK → Bool
  | .fresh x _ => match x with
    | .tmp t => (match env.get t with
      | some (.ptr (some a)) => Nat.ble hr.next a.fam && Nat.blt a.fam h.next
      | _ => false)
    | _ => false
  | _ => true
/-- As runOps; the heaps behind each operation with effects are kept, the last one first. Reads see the last one. -/
def runDraw (rec : Rec) : List SOper → Env → Heap → Heap → List Heap → Option (Env × Heap × List Heap)
  | [], env, h, hr, hs => some (env, h, hr :: hs)
  | o :: l, env, h, hr, hs =>
    match wanted env o.guard with
    | none => none
    | some false => bif o.op.isEff then runDraw rec l (putDst env o.dst (.tuple [])) h h (hr :: hs) else runDraw rec l (putDst env o.dst (.tuple [])) h hr hs
    | some true => match (bif freshOk env h hr o.op then runOp rec env h hr o.op else none) with
      | none => none
      | some (v, h') => bif o.op.isEff then runDraw rec l (putDst env o.dst v) h' h' (hr :: hs) else runDraw rec l (putDst env o.dst v) h' hr hs
mutual
def veq : V → V → Bool
  | .bool a, .bool b => a == b
  | .int k a, .int k' b => decide (k = k') && decide (a = b)
  | .str a, .str b => strEq a b
  | .ptr a, .ptr b => decide (a = b)
  | .gptr g o, .gptr g' o' => Nat.beq g g' && Nat.beq o o'
  | .slice a n z, .slice b m y => decide (a = b) && Nat.beq n m && Nat.beq z y
  | .map a, .map b => decide (a = b)
  | .iter a, .iter b => Nat.beq a b
  | .func f a b, .func g c d => decide (f = g) && veqs a c && veqs b d
  | .nilFunc, .nilFunc => true
  | .iface t a, .iface u b => Nat.beq t u && veq a b
  | .nilIface, .nilIface => true
  | .agg a, .agg b => veqs a b
  | .tuple a, .tuple b => veqs a b
  | _, _ => false
def veqs : List V → List V → Bool
  | [], [] => true
  | a :: x, b :: y => veq a b && veqs x y
  | _, _ => false
end
/-- Does a read give a value at each of some heaps? -/
def readsSame (r : Env → Heap → Option V) (env : Env) (v : V) : List Heap → Bool
  | [] => true
  | h :: l => match r env h with
    | some u => veq u v && readsSame r env v l
    | none => false
/-- 'hs': the heaps in order, the first one first. -/
def chkOk (ops : List SOper) (env : Env) (hs : List Heap) (c : Chk) : Bool :=
  match ops[c.at_]? with
  | none => false
  | some o => match wanted env o.guard with
    | none => false
    | some false => true
    | some true => match o.op, o.dst with
      | .read r, some d => match env.get d with
        | some v => readsSame r env v ((hs.drop c.lo).take (c.hi + 1 - c.lo))
        | none => false
      | _, _ => false
def chksOk (ops : List SOper) (env : Env) (hs : List Heap) : List Chk → Bool
  | [] => true
  | c :: l => chkOk ops env hs c && chksOk ops env hs l
def results (cx : Cx) (h : Heap) (env : Env) : List DRes → Option (List V)
  | [] => some []
  | r :: l =>
    match (match r with
      | .tmp t => env.get t
      | .cell t agg n => match env.get t with
        | some v => loadV cx h agg n v
        | none => none) with
    | none => none
    | some v => match results cx h env l with
      | none => none
      | some vs => some (v :: vs)
def oneOrTuple : List V → V
  | [v] => v
  | vs => .tuple vs
def envOf : List V → Nat → Env → Env
  | [], _, e => e
  | v :: l, i, e => envOf l (i + 1) (e.put i (some v))
def loopN (body : Env → Heap → Out) : Nat → Env → Heap → Out
  | 0, _, _ => .fail
  | n + 1, env, h => match body env h with
    | .ok .normal env' h' => loopN body n env' h'
    | r => r
def thenO (r : Out) (k : Env → Heap → Out) : Out :=
  match r with
  | .ok .normal env h => k env h
  | r => r
def blockO (id : Nat) (r : Out) : Out :=
  match r with
  | .ok (.exit i) env h => bif Nat.beq i id then .ok .normal env h else .ok (.exit i) env h
  | r => r
def regionO (r : Option (Env × Heap)) : Out :=
  match r with
  | some (env, h) => .ok .normal env h
  | none => .fail
def drawO (ops : List SOper) (cs : List Chk) (r : Option (Env × Heap × List Heap)) : Out :=
  match r with
  | some (env, h, hs) => bif chksOk ops env hs.reverse cs then .ok .normal env h else .fail
  | none => .fail
def boolOf : Option V → Option Bool
  | some (.bool b) => some b
  | _ => none
def exec (rec : Rec) (n : Nat) : DC → Env → Heap → Out
  | .skip, env, h => .ok .normal env h
  | .region ops, env, h => regionO (runOps rec ops env h)
  | .draw ops cs, env, h => drawO ops cs (runDraw rec ops env h h [])
  | .seq a b, env, h => thenO (exec rec n a env h) (exec rec n b)
  | .cond c a b, env, h => match boolOf (eval env c) with
    | some true => exec rec n a env h
    | some false => exec rec n b env h
    | none => .fail
  | .block id c, env, h => blockO id (exec rec n c env h)
  | .loop c, env, h => loopN (exec rec n c) n env h
  | .exit id, env, h => .ok (.exit id) env h
  | .ret, env, h => .ok .ret env h
def finish (cx : Cx) (d : DFn) (r : Out) : Option (V × Heap) :=
  match r with
  | .fail => none
  | .ok (.exit _) _ _ => none
  | .ok _ env h => match results cx h env d.res with
    | some vs => some (oneOrTuple vs, h)
    | none => none
/-- What stands for some functions, if it gives an answer. -/
abbrev Hook := Rec → List V → Heap → Option (V × Heap)
abbrev Orc := Nat → Option Hook
def noOrc : Orc := fun _ => none
def plainFn (cx : Cx) (fns : Nat → Option DFn) (n : Nat) (rec : Rec) (f : Nat) (args : List V) (h : Heap) : Option (V × Heap) :=
  match fns f with
  | none => none
  | some d => finish cx d (exec rec n d.body (envOf args 0 .nil) h)
def callN (cx : Cx) (orc : Orc) (fns : Nat → Option DFn) : Nat → Rec
  | 0, _, _, _ => none
  | n + 1, f, args, h => match orc f with
    | none => plainFn cx fns n (callN cx orc fns n) f args h
    | some k => match k (callN cx orc fns n) args h with
      | some r => some r
      | none => plainFn cx fns n (callN cx orc fns n) f args h
/-- A value without places. -/
def V.bare : V → Bool
  | .bool _ => true
  | .int _ _ => true
  | .str _ => true
  | _ => false

end Go.Sk

/-
  SK, PART B. From the model's code to the abstract machine's: types are resolved by a table.
-/
noncomputable section
namespace Go.Sk

def zeroV : Nat → Value → Option V
  | 0, _ => none
  | _ + 1, .bool b => some (.bool b)
  | _ + 1, .int k n => some (.int k (.lit n))
  | _ + 1, .string s => some (.str (s.data.toList.map UInt8.toNat))
  | _ + 1, .pointer none => some (.ptr none)
  | _ + 1, .slice none 0 0 => some (.slice none 0 0)
  | _ + 1, .map none => some (.map none)
  | _ + 1, .nilFunc => some .nilFunc
  | _ + 1, .nilIface => some .nilIface
  | n + 1, .agg cs => (go n cs.toList).map .agg
  | _ + 1, _ => none
where
  go (n : Nat) : List Value → Option (List V)
    | [] => some []
    | v :: l => match zeroV n v with
      | none => none
      | some x => match go n l with
        | none => none
        | some xs => some (x :: xs)
def constV (v : Value) : Option V := zeroV 4 v

abbrev TT := Nat → Option TypeInfo
def TT.und (T : TT) (t : Nat) : Option TypeDesc :=
  match T t with
  | some i => match i.desc with
    | .named _ u => match T u with
      | some j => some j.desc
      | none => none
    | d => some d
  | none => none
def TT.agg (T : TT) (t : Nat) : Option Bool :=
  match T.und t with
  | some (.struct _) => some true
  | some (.array _ _) => some true
  | some _ => some false
  | none => none
def TT.size (T : TT) (t : Nat) : Option Nat := match T t with | some i => some i.size | none => none
def TT.zero (T : TT) (t : Nat) : Option V := match T t with | some i => (match i.zero with | some z => constV z | none => none) | none => none

def opd : Operand → Option Opd
  | .tmp t => some (.tmp t)
  | .const v => (constV v).map .const
  | .global g => some (.glob g)
  | .func f => some (.func f)
def opds : List Operand → Option (List Opd)
  | [] => some []
  | x :: l => match opd x, opds l with
    | some x, some l => some (x :: l)
    | _, _ => none
def opdOpt : Option Operand → Option (Option Opd)
  | none => some none
  | some x => (opd x).map some
def isConstOp : Operand → Bool
  | .const _ => true
  | _ => false
def partsOf (place : Nat → Option (Nat × Nat)) : List (Nat × Operand) → Option (List (Nat × Nat × Opd))
  | [] => some []
  | (i, x) :: l => match place i, opd x, partsOf place l with
    | some (off, sz), some x, some l => some ((off, sz, x) :: l)
    | _, _, _ => none
def eqK (T : TT) (t : Nat) : Option EqK :=
  match T.und t with
  | some .bool => some .bool
  | some (.int _) | some .string => some .prim
  | some (.pointer e) => match T.size e with
    | some n => bif Nat.beq n 0 then none else some .ptr
    | none => none
  | some (.interface _) => some .iface
  | some (.slice _) => some .slice
  | some (.map _ _) => some .map
  | some (.func _ _ _) => some .func
  | _ => none
def keyKind (T : TT) (t : Nat) : KK :=
  match T.und t with
  | some (.int _) => .int
  | some .string => .str
  | some (.pointer e) => match T.size e with
    | some n => bif Nat.beq n 0 then .no else .ptr
    | none => .no
  | some (.array len e) => match T.und e with
    | some (.int _) => match T.size e with
      | some n => bif Nat.beq len 2 && Nat.beq n 1 then .pair else .no
      | none => .no
    | _ => .no
  | _ => .no
def fieldsPlaces (T : TT) : List Field → Option (List (Nat × Nat))
  | [] => some []
  | f :: l => match T.size f.type, fieldsPlaces T l with
    | some n, some l => some ((f.offset, n) :: l)
    | _, _ => none

def call1 (T : TT) (cx : Cx) (c : Call) : Option SK :=
  match c.callee with
  | .value (.func f) => match opds c.args.toList with
    | none => none
    | some l => match cx.ext f with
      | some k => some (.pure (oExt k l))
      | none => some (.call (oCall f l))
  | .value x => match opd x, opds c.args.toList with
    | some x, some l => some (.call (oCallv cx x l))
    | _, _ => none
  | .invoke x m => match opd x, opds c.args.toList with
    | some x, some l => some (.call (oInvoke cx x m l))
    | _, _ => none
  | .builtin b =>
    match b, c.args.toList, c.argTypes.toList with
    | .len, [x], [t] => match T.und t with
      | some .string => (opd x).map fun x => .pure (oLenT x)
      | some (.slice _) => (opd x).map fun x => .pure (oLenS x)
      | some (.map _ _) => (opd x).map fun x => .read (oLenM x)
      | _ => none
    | .max, x :: l, _ => match opd x, opds l with
      | some x, some l => some (.pure (oMinMax true x l))
      | _, _ => none
    | .min, x :: l, _ => match opd x, opds l with
      | some x, some l => some (.pure (oMinMax false x l))
      | _, _ => none
    | .append, [s, x], [st, xt] => match T.und st, T.und xt with
      | some (.slice e), some xd => match xd with
        | .int _ => none
        | _ => match T e, T.zero e, opd s, opd x with
          | some i, some z, some s, some x => bif Nat.blt 0 i.bytes && Nat.blt 0 i.size && Nat.beq z.cells.length i.size then some (.eff (oAppend i.size i.bytes s x)) else none
          | _, _, _, _ => none
      | _, _ => none
    | .copy, [d, s], [dt, _] => match T.und dt with
      | some (.slice e) => match T.size e, opd d, opd s with
        | some n, some d, some s => bif Nat.blt 0 n then some (.eff (oCopy n d s)) else none
        | _, _, _ => none
      | _ => none
    | .clear, [x], [t] => match T.und t with
      | some (.slice e) => match T.size e, T.zero e, opd x with
        | some n, some z, some x => bif Nat.blt 0 n && Nat.blt 0 z.cells.length && allFlat z.cells then some (.eff (oClear z.cells x)) else none
        | _, _, _ => none
      | _ => none
    | _, _, _ => none

def compOp (T : TT) (cx : Cx) (o : Op) : Option SK :=
  match o with
  | .move x | .assign x => (opd x).map fun x => .pure (oMove x)
  | .pick c a b => match opd c, opd a, opd b with
    | some c, some a, some b => some (.pure (oPick c a b))
    | _, _, _ => none
  | .alloc e => match T.zero e, T.size e with
    | some z, some n => bif Nat.blt 0 n && Nat.beq z.cells.length n && allFlat z.cells then some (.alloc (oAlloc z.cells)) else none
    | _, _ => none
  | .box e x => match T.size e, opd x with
    | some n, some x => bif Nat.blt 0 n then some (.alloc (oBox n x)) else none
    | _, _ => none
  | .build t ps => match T.und t, T.zero t with
    | some (.struct fs), some z => match fieldsPlaces T fs.toList with
      | some pl => match partsOf (fun i => pl[i]?) ps.toList with
        | some ps => some (.pure (oBuild z.cells ps))
        | none => none
      | none => none
    | some (.array _ e), some z => match T.size e with
      | some n => match partsOf (fun i => some (i * n, n)) ps.toList with
        | some ps => some (.pure (oBuild z.cells ps))
        | none => none
      | none => none
    | _, _ => none
  | .buildSlice t len ps => match T.und t with
    | some (.slice e) => match T.size e, T.zero e with
      | some n, some z => bif Nat.blt 0 n && Nat.ble (len * n) 10000 && Nat.beq z.cells.length n && allFlat z.cells then
          (match partsOf (fun i => some (i * n, n)) ps.toList with
            | some ps => some (.alloc (oBuildSlice n len (List.replicate len z.cells).flatten ps))
            | none => none) else none
      | _, _ => none
    | _ => none
  | .load t a => match T.agg t, T.size t, opd a with
    | some b, some n, some a => bif b || Nat.beq n 1 then some (.read (oLoad cx b n a)) else none
    | _, _, _ => none
  | .store t a x => match T.size t, opd a, opd x with
    | some n, some a, some x => some (.eff (oStore n a x))
    | _, _, _ => none
  | .nilCheck x => (opd x).map fun x => .pure (oNilCheck cx x)
  | .binOp o t x y _ => match eqK T t, opd x, opd y with
    | some k, some a, some b => some (.pure (oBin cx o k (isConstOp x || isConstOp y) a b))
    | _, _, _ => none
  | .unOp o _ x => (opd x).map fun x => .pure (oUn o x)
  | .convert s d x => match T.und s, T.und d with
    | some (.int _), some (.int k) => (opd x).map fun x => .pure (oCvt k x)
    | some (.slice e), some .string => match T.und e with
      | some (.int .u8) => (opd x).map fun x => .read (oB2s x)
      | _ => none
    | _, _ => none
  | .makeInterface t x => match T.und t with
    | some (.interface _) => none
    | some _ => (opd x).map fun x => .pure (oMkIface t x)
    | none => none
  | .makeFunc fn a b => match opds a.toList, opds b.toList with
    | some a, some b => some (.pure (oMkFunc fn a b))
    | _, _ => none
  | .makeMap _ none => some (.alloc oMkMap)
  | .makeSlice t l c => match T.und t with
    | some (.slice e) => match T e, T.zero e, opd l, opd c with
      | some i, some z, some l, some c => bif Nat.blt 0 i.size && Nat.ble i.bytes 1000000 && Nat.beq z.cells.length i.size && allFlat z.cells then some (.alloc (oMkSlice i.size i.bytes z.cells l c)) else none
      | _, _, _, _ => none
    | _ => none
  | .slice t x lo hi none => match T.und t with
    | some (.slice e) => match T.size e, opd x, opdOpt lo, opdOpt hi with
      | some n, some x, some lo, some hi => bif Nat.blt 0 n then some (.pure (oSliceS n x lo hi)) else none
      | _, _, _, _ => none
    | some .string => match opd x, opdOpt lo, opdOpt hi with
      | some x, some lo, some hi => some (.pure (oSliceT x lo hi))
      | _, _, _ => none
    | _ => none
  | .fieldAddr s x f => match T.und s with
    | some (.struct fs) => match fs[f]? with
      | some f => match T.size f.type, opd x with
        | some n, some x => bif Nat.blt 0 n then some (.pure (oFieldAddr f.offset x)) else none
        | _, _ => none
      | none => none
    | _ => none
  | .field s x f => match T.und s with
    | some (.struct fs) => match fs[f]? with
      | some f => match T.agg f.type, T.size f.type, opd x with
        | some b, some n, some x => some (.pure (oField b f.offset n x))
        | _, _, _ => none
      | none => none
    | _ => none
  | .indexAddr t x i => match T.und t with
    | some (.slice e) => match T.size e, opd x, opd i with
      | some n, some x, some i => bif Nat.blt 0 n then some (.pure (oIndexAddr none n x i)) else none
      | _, _, _ => none
    | some (.array len e) => match T.size e, opd x, opd i with
      | some n, some x, some i => bif Nat.blt 0 n then some (.pure (oIndexAddr (some len) n x i)) else none
      | _, _, _ => none
    | _ => none
  | .index t x i => match T.und t with
    | some .string => match opd x, opd i with
      | some x, some i => some (.pure (oIndexT x i))
      | _, _ => none
    | _ => none
  | .lookup t x i ok => match T.und t with
    | some (.map k e) => match T.zero e, opd x, opd i with
      | some z, some x, some i => some (.read (oLookup cx (keyKind T k) z x i ok))
      | _, _, _ => none
    | _ => none
  | .mapUpdate t m k x => match T.und t with
    | some (.map kt _) => match opd m, opd k, opd x with
      | some m, some k, some x => some (.eff (oMapUpdate cx (keyKind T kt) m k x))
      | _, _, _ => none
    | _ => none
  | .extract x i => (opd x).map fun x => .pure (oExtract x i)
  | .range t x => match T.und t with
    | some (.map _ _) => (opd x).map fun x => .eff (oRange x)
    | _ => none
  | .next x false => (opd x).map fun x => .eff (oNext x)
  | .entry x => (opd x).map fun x => .eff (oEntry x)
  | .call c => call1 T cx c
  | _ => none

/-- The temporaries that an operation of a region reads, its guard's among them. -/
def opTmps (o : Op) : List Nat := o.operands.toList.filterMap fun | .tmp t => some t | _ => none
/-- The operations of a region that come ahead of one in every order, as a mask; 'ms': those of the operations ahead. -/
def depMask (ms : List Nat) : List Edge → Nat
  | [] => 0
  | e :: l => match Region.binds .any e with
    | true => (2 ^ e.on ||| ms.getD e.on 0) ||| depMask ms l
    | false => depMask ms l
/-- All edges lead back. -/
def edgesBack (n : Nat) : List Edge → Bool
  | [] => true
  | e :: l => (match Region.binds .any e with | true => Nat.blt e.on n | false => true) && edgesBack n l
/-- Operations that make an object. -/
def isMake : Op → Bool
  | .alloc _ => true
  | .box _ _ => true
  | .buildSlice _ _ _ => true
  | .makeMap _ _ => true
  | .makeSlice _ _ _ => true
  | _ => false
def anyMake (m : Nat) : Nat → List Oper → Bool
  | _, [] => false
  | i, o :: l => (Nat.testBit m i && isMake o.op) || anyMake m (i + 1) l
/-- A load behind an operation of its region that makes an object. -/
def freshen (o : Op) (hit : Bool) (d : SK) : SK :=
  match o with
  | .load _ a => (match hit with
    | false => d
    | true => match opd a with
      | some x => match d with
        | .read r => .fresh x r
        | d => d
      | none => d)
  | _ => d
def compOper (T : TT) (cx : Cx) (ops : Array Oper) (ms : List Nat) (o : Oper) : Option SOper :=
  match compOp T cx o.op with
  | none => none
  | some d =>
    match o.guard with
    | none => some ⟨ms.length, o.dst, none, freshen o.op (anyMake (depMask ms o.after.toList) 0 ops.toList) d, opTmps o.op, depMask ms o.after.toList⟩
    | some (j, b) => match ops[j]? with
      | some g => match g.dst with
        | some t => some ⟨ms.length, o.dst, some (t, b), freshen o.op (anyMake (depMask ms o.after.toList) 0 ops.toList) d, t :: opTmps o.op, depMask ms o.after.toList⟩
        | none => none
      | none => none
/-- 'ms': the masks of the operations ahead, in order. -/
def compOpers (T : TT) (cx : Cx) (ops : Array Oper) (ms : List Nat) : List Oper → Option (List SOper)
  | [] => some []
  | o :: l => match compOper T cx ops ms o with
    | none => none
    | some d => match compOpers T cx ops (ms ++ [d.deps]) l with
      | none => none
      | some ds => some (d :: ds)

/-! Drawn regions: which orders are covered. -/
def SK.isRead : SK → Bool
  | .read _ => true
  | _ => false
def SK.isAlloc : SK → Bool
  | .alloc _ => true
  | _ => false
def SK.isFresh : SK → Bool
  | .fresh _ _ => true
  | _ => false
def inL (d : Option Nat) (l : List Nat) : Bool :=
  match d with
  | none => false
  | some d => l.any (Nat.beq d)
def clash (a b : SOper) : Bool :=
  inL a.dst b.rd || inL b.dst a.rd || (match a.dst with | none => false | some d => match b.dst with | none => false | some e => Nat.beq d e)
/-- Two operations of a region, 'a' ahead of 'b' in our order. -/
def pairOk (a b : SOper) : Bool :=
  !Nat.testBit a.deps b.no && !Nat.beq a.no b.no &&
  (Nat.testBit b.deps a.no || (!clash a b && !(a.op.isEff && b.op.isEff) && !(a.op.isAlloc && b.op.isEff) && !(a.op.isFresh && b.op.isEff))) && !(Nat.testBit b.deps a.no && a.op.isAlloc && b.op.isRead)
def pairsOk (a : SOper) : List SOper → Bool
  | [] => true
  | b :: l => pairOk a b && pairsOk a l
def planOk : List SOper → Bool
  | [] => true
  | a :: l => pairsOk a l && planOk l
/-- How many operations with effects a mask names. -/
def effsIn (m : Nat) : List SOper → Nat
  | [] => 0
  | o :: l => (bif o.op.isEff && Nat.testBit m o.no then 1 else 0) + effsIn m l
/-- How many operations with effects come ahead of the first one that hangs on 'j'. -/
def effsTill (j : Nat) : List SOper → Nat
  | [] => 0
  | o :: l => bif o.op.isEff then (bif Nat.testBit o.deps j then 0 else 1 + effsTill j l) else effsTill j l
/-- The temporaries of a read are not written behind it. -/
def stable (a : SOper) : List SOper → Bool
  | [] => true
  | b :: l => !inL b.dst a.rd && !(match a.dst with | none => true | some d => match b.dst with | none => false | some e => Nat.beq d e) && stable a l
def checksOf (all : List SOper) (i : Nat) : List SOper → Option (List Chk)
  | [] => some []
  | o :: l => match checksOf all (i + 1) l with
    | none => none
    | some cs => bif o.op.isRead && !Nat.beq (effsIn o.deps all) (effsTill o.no all) then
        (bif stable o l && !inL o.dst o.rd then some (⟨i, effsIn o.deps all, effsTill o.no all⟩ :: cs) else none)
      else some cs
/-- Those of a list that a mask names, and the others. -/
def parted (m : Nat) : List SOper → List SOper × List SOper
  | [] => ([], [])
  | o :: l => match parted m l with
    | (a, b) => bif Nat.testBit m o.no then (o :: a, b) else (a, o :: b)
/-- Our order: ahead of each operation with effects just those that it hangs on; the others at the end. -/
def orderOf : List SOper → List SOper → List SOper
  | [], rest => rest
  | e :: l, rest => bif e.op.isEff then (match parted (e.deps ||| 2 ^ e.no) rest with
      | (a, b) => a ++ orderOf l b) else orderOf l rest
def edgesAllBack (i : Nat) : List Oper → Bool
  | [] => true
  | o :: l => edgesBack i o.after.toList && edgesAllBack (i + 1) l
def maskOf : List SOper → Nat
  | [] => 0
  | o :: l => 2 ^ o.no ||| maskOf l
def drawn (ops : Array Oper) (l : List SOper) : Option DC :=
  match orderOf l l with
  | l' => bif planOk l' && Nat.beq (maskOf l') (2 ^ ops.size - 1) && edgesAllBack 0 ops.toList then
    (match checksOf l' 0 l' with
      | some cs => some (.draw l' cs)
      | none => none) else none
def compRegion (draw : Bool) (ops : Array Oper) (l : List SOper) : Option DC :=
  match draw with
  | true => drawn ops l
  | false => some (.region l)
def compCode (T : TT) (cx : Cx) : Code → Option DC
  | .skip => some .skip
  | .region _ ops draw => match compOpers T cx ops [] ops.toList with
    | some l => compRegion draw ops l
    | none => none
  | .seq a b => match compCode T cx a with
    | none => none
    | some x => match compCode T cx b with
      | none => none
      | some y => some (.seq x y)
  | .cond c a b => match opd c with
    | none => none
    | some c => match compCode T cx a with
      | none => none
      | some x => match compCode T cx b with
        | none => none
        | some y => some (.cond c x y)
  | .block id c => match compCode T cx c with
    | none => none
    | some x => some (.block id x)
  | .loop c => match compCode T cx c with
    | none => none
    | some x => some (.loop x)
  | .exit id => some (.exit id)
  | .ret => some .ret
  | _ => none
def compRes (T : TT) : List ResultVar → Option (List DRes)
  | [] => some []
  | .tmp t :: l => match compRes T l with
    | some l => some (.tmp t :: l)
    | none => none
  | .cell a t :: l => match T.agg t, T.size t, compRes T l with
    | some b, some n, some l => bif b || Nat.beq n 1 then some (.cell a b n :: l) else none
    | _, _, _ => none
/-- All temporaries that are written lie below a bound. -/
def dstsIn (n : Nat) : List SOper → Bool
  | [] => true
  | o :: l => (match o.dst with | none => true | some d => Nat.blt d n) && dstsIn n l
def dstsOk (n : Nat) : DC → Bool
  | .region ops => dstsIn n ops
  | .draw ops _ => dstsIn n ops
  | .seq a b => dstsOk n a && dstsOk n b
  | .cond _ a b => dstsOk n a && dstsOk n b
  | .block _ c => dstsOk n c
  | .loop c => dstsOk n c
  | _ => true
def compFn (T : TT) (cx : Cx) (f : Func) : Option DFn :=
  match f.body with
  | none => none
  | some c => match compCode T cx c, compRes T f.results.toList with
    | some b, some r => bif dstsOk f.ntmps b then some ⟨f.ntmps, b, r⟩ else none
    | _, _ => none

end Go.Sk
