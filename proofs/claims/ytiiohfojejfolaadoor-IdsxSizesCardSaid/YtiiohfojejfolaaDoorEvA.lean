/-
  The evaluator, part A. An evaluator of the program's operations on plain values ('V'), without memory addresses.   This text holds definitions alone. How a plain value stands in memory, and what the objects of a store are there. What holds of a store in memory, and what a stretch of a run leaves alone. The program's own operations, their types looked up: from 'Code' to 'ACode'. Definitions alone.
-/
import Derived.Orders
import Derived.Laws.Sem
set_option linter.unusedVariables false
set_option linter.unusedSimpArgs false
namespace Go.Ev
open Go

/-- The name of an object that may be written: one that came in, or one that this call made. -/
inductive Key where
  | arg (i : Nat)
  | loc (s j : Nat)
  deriving DecidableEq

/-- What is known of the spare places behind a slice. -/
inductive Own where
  | none
  /-- not nil -/
  | nn
  | tight
  | tok (k : Key) (start : Nat)
  deriving DecidableEq

inductive V where
  | undef
  | bool (b : Bool)
  | int (k : IntKind) (n : Int)
  | str (s : ByteArray)
  | nil
  | ptr (k : Key) (off : Nat)
  | elem (cs : List V)
  | slc (esz : Nat) (xs : List V) (own : Own)
  | nilslc
  | view (k : Key) (esz off len cap : Nat)
  /-- a slice into a row that may be written, and be appended to -/
  | rowv (k : Key) (esz off len : Nat)
  /-- a place in such a row -/
  | rptr (k : Key) (off : Nat)
  | map (k : Key)
  | nilmap
  | func (fn : Fn) (first captured : List V)
  | nilfunc
  | iface (t : TypeId) (v : V)
  | nilIface
  | agg (cs : List V)
  | tuple (vs : List V)
  deriving Inhabited

/-- An object that may be written. 'tok n': the spare places behind a slice of n elements. -/
inductive Obj where
  | cells (cs : List V)
  | map (es : List (V × V))
  | tok (n : Nat)
  /-- a row's cells, as far as they are known -/
  | row (cs : List V)
  /-- a row that is written no more -/
  | froz (cs : List V)
  /-- a name that is used no more -/
  | dead
  deriving Inhabited

abbrev Store := List (Key × Obj)

def Store.get : Store → Key → Option Obj
  | [], _ => none
  | (k', o) :: r, k => if k' = k then some o else Store.get r k

def Store.put : Store → Key → Obj → Store
  | [], k, o => [(k, o)]
  | (k', o') :: r, k, o => if k' = k then (k, o) :: r else (k', o') :: Store.put r k o

def Store.puts (s : Store) : List (Key × Obj) → Store
  | [] => s
  | (k, o) :: r => Store.puts (s.put k o) r

/-- What the temporaries hold: the latest first. -/
abbrev Tm := List (Nat × V)

def Tm.at : Tm → Nat → V
  | [], _ => .undef
  | (j, v) :: r, i => match Nat.beq j i with
    | true => v
    | false => Tm.at r i

theorem Tm.at_cons (j : Nat) (v : V) (r : Tm) (i : Nat) : Tm.at ((j, v) :: r) i = if j = i then v else Tm.at r i := by
  simp only [Tm.at]
  cases h : Nat.beq j i with
  | true => simp [Nat.eq_of_beq_eq_true h]
  | false => simp [Nat.ne_of_beq_eq_false h]

structure St where
  tm : Tm
  st : Store

/-- Reading the store. -/
inductive Act (α : Type) where
  | ret (a : α)
  | fail
  | get (k : Key) (f : Obj → Act α)
  | new (k : Key) (f : Act α)

def Act.bind {α β : Type} : Act α → (α → Act β) → Act β
  | .ret a, f => f a
  | .fail, _ => .fail
  | .get k g, f => .get k fun o => (g o).bind f
  | .new k g, f => .new k (g.bind f)

instance : Monad Act where
  pure := Act.ret
  bind := Act.bind

/-- What is read is told: the keys. -/
def Act.run {α : Type} (s : Store) : Act α → List Key → Option (α × List Key)
  | .ret a, l => some (a, l)
  | .fail, _ => none
  | .get k f, l => match s.get k with
    | some o => (f o).run s (k :: l)
    | none => none
  | .new k f, l => match s.get k with
    | some _ => none
    | none => f.run s (k :: l)

/-- An operation's answer: the value, and what it puts into the store. -/
structure Ans where
  v : V
  up : List (Key × Obj)

def Act.just (v : V) : Act Ans := .ret ⟨v, []⟩

def V.cellsOf : V → List V
  | .agg cs => cs
  | v => [v]

def V.mk (agg : Bool) (cs : List V) : V := if agg then .agg cs else cs.headD .undef

/-- Without its spare places. -/
def V.thin : V → V
  | .slc e xs _ => .slc e xs .none
  | v => v

mutual
/-- No key in it, but inside slices, which have none. -/
def V.frozen : V → Bool
  | .undef | .ptr .. | .view .. | .map .. | .rowv .. | .rptr .. => false
  | .bool _ | .int .. | .str _ | .nil | .elem _ | .nilslc | .nilmap | .nilfunc | .nilIface => true
  | .slc _ _ own => match own with | .none => true | _ => false
  | .func _ first captured => V.frozens first && V.frozens captured
  | .iface _ v => v.frozen
  | .agg cs => V.frozens cs
  | .tuple vs => V.frozens vs
def V.frozens : List V → Bool
  | [] => true
  | v :: r => v.frozen && V.frozens r
end

/-- The value of one cell. -/
def V.isCell : V → Bool
  | .undef | .agg _ | .tuple _ => false
  | _ => true

/-- As an element of memory that stays: thin, frozen, so many cells. -/
def V.settle (esz : Nat) (agg : Bool) (v : V) : Option V :=
  match v, agg with
  | .agg cs, true =>
    let cs := cs.map V.thin
    if cs.length = esz ∧ cs.all (fun c => c.frozen && c.isCell) = true then some (.agg cs) else none
  | v, false =>
    let v := v.thin
    if esz = 1 ∧ (v.frozen && v.isCell) = true then some v else none
  | _, true => none

def settles (esz : Nat) (agg : Bool) : List V → Option (List V)
  | [] => some []
  | v :: r => match v.settle esz agg, settles esz agg r with
    | some v, some r => some (v :: r)
    | _, _ => none

/-- What a type's values are held against each other by. -/
inductive TK where
  | num | bool | ptr | slc | map | func
  deriving DecidableEq

inductive AOpd where
  | t (i : Nat)
  | c (v : V)
  deriving Inhabited

inductive AOp where
  | mv (x : AOpd)
  /-- an empty slice that will be appended to -/
  | nilrow (esz : Nat)
  | pick (c a b : AOpd)
  | alloc (zero : List V)
  | box (size : Nat) (x : AOpd)
  | build (zero : List V) (parts : List (Nat × Nat × AOpd))
  | buildSlice (esz : Nat) (agg : Bool) (parts : List AOpd)
  | load (agg : Bool) (size : Nat) (a : AOpd)
  | store (size : Nat) (a x : AOpd)
  | nilCheck (x : AOpd)
  | bin (tk : TK) (op : BinOp) (x y : AOpd)
  | eqAgg (n : Nat) (neg : Bool) (x y : AOpd)
  | un (op : UnOp) (x : AOpd)
  | convInt (k : IntKind) (x : AOpd)
  | convSame (x : AOpd)
  | bytesOf (x : AOpd)
  | stringOf (x : AOpd)
  | arrOf (n : Nat) (x : AOpd)
  | func (fn : Fn) (first captured : List AOpd)
  | makeMap
  | makeSlice (esz bytes : Nat) (agg : Bool) (zero : V) (len cap : AOpd)
  /-- so many cells that may be written, as a slice -/
  | makeRow (zero : V) (len cap : AOpd)
  | sliceS (esz : Nat) (x : AOpd) (lo hi mx : Option AOpd)
  | sliceA (n esz : Nat) (x : AOpd) (lo hi mx : Option AOpd)
  | sliceT (x : AOpd) (lo hi : Option AOpd)
  | fieldAddr (off : Nat) (x : AOpd)
  | field (agg : Bool) (off size : Nat) (x : AOpd)
  | indexS (esz : Nat) (x i : AOpd)
  | indexA (n esz : Nat) (x i : AOpd)
  | indexT (x i : AOpd)
  | lookup (kf : Option Nat) (zero : V) (m k : AOpd) (ok : Bool)
  | mapSet (kf : Option Nat) (m k v : AOpd)
  | delete (kf : Option Nat) (m k : AOpd)
  | lenS (x : AOpd)
  | lenT (x : AOpd)
  | lenM (x : AOpd)
  | lenA (n : Nat)
  | cap (x : AOpd)
  | append (esz bytes : Nat) (s x : AOpd)
  /-- appended, to a row that may be written -/
  | appendR (esz bytes : Nat) (s x : AOpd)
  /-- a slice's literal, whose rows are written no more -/
  | buildSliceF (esz : Nat) (agg : Bool) (parts : List AOpd)
  /-- a slice's literal, as a row that may be written -/
  | buildRow (esz : Nat) (parts : List AOpd)
  | clearRow (zero : List V) (esz : Nat) (x : AOpd)
  /-- so many bytes of zero appended -/
  | appendZ (s n : AOpd)
  | copy (esz : Nat) (d x : AOpd)
  | min (x : AOpd) (r : List AOpd)
  | max (x : AOpd) (r : List AOpd)
  | clearMap (x : AOpd)
  | call (f : FuncId) (args : List AOpd)
  /-- a call to which rows are lent -/
  | callR (f : FuncId) (args : List AOpd)
  | callv (f : AOpd) (args : List AOpd)
  | extract (x : AOpd) (i : Nat)
  deriving Inhabited

structure AOper where
  dst : Option Nat
  op : AOp
  guard : Option (Nat × Bool)
  deriving Inhabited

inductive ACode where
  | skip
  | region (ops : List AOper)
  /-- a region whose order is drawn: for each operation, as bits, the earlier ones that it is in no order with -/
  | drawn (ops : List AOper) (free : List Nat)
  | seq (a b : ACode)
  | cond (c : AOpd) (thn els : ACode)
  | block (id : Nat) (body : ACode)
  /-- a loop: what is kept at its head: slots, and objects -/
  | loop (slots : List Nat) (keys : List Nat) (body : ACode)
  /-- the same; objects' names are turned at the head -/
  | loopR (slots : List Nat) (keys : List Nat) (rens : List (Nat × Nat)) (body : ACode)
  | exit (id : Nat)
  | ret

/-- A function's contract: arguments and what they reach, to the answer, what they reach behind it, and what is new. -/
abbrev Contract := List V → List Obj → Option (V × List Obj × List Obj)

/-! ### what values do -/

def intOp (op : BinOp) (k : IntKind) (a b : Int) : Option V :=
  match op with
  | .add => some (.int k (k.wrap (a + b)))
  | .sub => some (.int k (k.wrap (a - b)))
  | .mul => some (.int k (k.wrap (a * b)))
  | .quo => if b = 0 then none else some (.int k (k.wrap (a.tdiv b)))
  | .rem => if b = 0 then none else some (.int k (a.tmod b))
  | .and => some (.int k (k.wrap (BitVec.ofInt k.bits a &&& BitVec.ofInt k.bits b).toNat))
  | .or => some (.int k (k.wrap (BitVec.ofInt k.bits a ||| BitVec.ofInt k.bits b).toNat))
  | .xor => some (.int k (k.wrap (BitVec.ofInt k.bits a ^^^ BitVec.ofInt k.bits b).toNat))
  | .andNot => some (.int k (k.wrap (BitVec.ofInt k.bits a &&& ~~~ BitVec.ofInt k.bits b).toNat))
  | .eql => some (.bool (a == b))
  | .neq => some (.bool (a != b))
  | .lss => some (.bool (a < b))
  | .leq => some (.bool (a ≤ b))
  | .gtr => some (.bool (a > b))
  | .geq => some (.bool (a ≥ b))
  | _ => none

def strOp (op : BinOp) (a b : ByteArray) : Option V :=
  match op with
  | .add => if a.size + b.size ≤ 1099511627776 then some (.str (a ++ b)) else none
  | .eql => some (.bool (a.toList == b.toList))
  | .neq => some (.bool !(a.toList == b.toList))
  | .lss => some (.bool (Op.bytesLess a.toList b.toList))
  | .leq => some (.bool (Op.bytesLess a.toList b.toList || a.toList == b.toList))
  | .gtr => some (.bool !(Op.bytesLess a.toList b.toList || a.toList == b.toList))
  | .geq => some (.bool !(Op.bytesLess a.toList b.toList))
  | _ => none

/-- Whether one of the two is nothing, and the other one is known. -/
def isNil : TK → V → V → Option Bool
  | .ptr, .nil, .nil => some true
  | .ptr, .nil, .ptr .. => some false
  | .ptr, .ptr .., .nil => some false
  | .ptr, .nil, .elem _ => some false
  | .ptr, .elem _, .nil => some false
  | .slc, .nilslc, .nilslc => some true
  | .slc, .nilslc, .slc _ xs own => if xs.isEmpty && own != .nn then none else some false
  | .slc, .slc _ xs own, .nilslc => if xs.isEmpty && own != .nn then none else some false
  | .map, .nilmap, .nilmap => some true
  | .map, .nilmap, .map _ => some false
  | .map, .map _, .nilmap => some false
  | .func, .nilfunc, .nilfunc => some true
  | .func, .nilfunc, .func .. => some false
  | .func, .func .., .nilfunc => some false
  | _, _, _ => none

def boolOp (op : BinOp) (a b : Bool) : Option V :=
  match op with
  | .eql => some (.bool (a == b))
  | .neq => some (.bool !(a == b))
  | _ => none

def shiftOp (op : BinOp) (k : IntKind) (a b : Int) : Option V :=
  match op with
  | .shl => if b < 0 then none else some (.int k (k.wrap (a * 2 ^ (Nat.min b.toNat k.bits))))
  | .shr => if b < 0 then none else some (.int k (a.fdiv (2 ^ (Nat.min b.toNat k.bits))))
  | _ => none

def isShift : BinOp → Bool
  | .shl | .shr => true
  | _ => false

def binV (tk : TK) (op : BinOp) (x y : V) : Option V :=
  match tk, x, y with
  | .num, .int k a, .int k' b => if isShift op then shiftOp op k a b else if k = k' then intOp op k a b else none
  | .num, .str a, .str b => strOp op a b
  | .num, _, _ => none
  | .bool, .bool a, .bool b => boolOp op a b
  | .bool, _, _ => none
  | tk, x, y => match op, isNil tk x y with
    | .eql, some b => some (.bool b)
    | .neq, some b => some (.bool !b)
    | _, _ => none

/-- Two cells that hold whole numbers. -/
def eqCell : V → V → Option Bool
  | .int k a, .int k' b => if k = k' then some (a == b) else none
  | _, _ => none

def eqCells : List V → List V → Option Bool
  | [], [] => some true
  | x :: xs, y :: ys => match eqCell x y with
    | some true => eqCells xs ys
    | some false => some false
    | none => none
  | _, _ => none

def unV (op : UnOp) (x : V) : Option V :=
  match op, x with
  | .neg, .int k n => some (.int k (k.wrap (0 - n)))
  | .xor, .int k n => some (.int k (k.wrap (BitVec.ofInt k.bits (if k.signed then -1 else k.max) ^^^ BitVec.ofInt k.bits n).toNat))
  | .not, .bool b => some (.bool !b)
  | _, _ => none

/-- A key of a map: equal to another one, or not. Whole numbers, or so many of them. -/
def eqKey (kf : Option Nat) (x y : V) : Option Bool :=
  match kf, x, y with
  | none, .int k a, .int k' b => eqCell (.int k a) (.int k' b)
  | some n, .agg xs, .agg ys => if xs.length = n ∧ ys.length = n then eqCells xs ys else none
  | _, _, _ => none

def findK (kf : Option Nat) (k : V) : List (V × V) → Option (Option V)
  | [] => some none
  | (k', v) :: r => match eqKey kf k k' with
    | some true => some (some v)
    | some false => findK kf k r
    | none => none

def setK (kf : Option Nat) (k v : V) : List (V × V) → Option (List (V × V))
  | [] => some [(k, v)]
  | (k', v') :: r => match eqKey kf k k' with
    | some true => some ((k, v) :: r)
    | some false => match setK kf k v r with
      | some r => some ((k', v') :: r)
      | none => none
    | none => none

def delK (kf : Option Nat) (k : V) : List (V × V) → Option (List (V × V))
  | [] => some []
  | (k', v') :: r => match eqKey kf k k' with
    | some true => some r
    | some false => match delK kf k r with
      | some r => some ((k', v') :: r)
      | none => none
    | none => none

def bytesV (s : ByteArray) : List V := s.toList.map fun b => .int .u8 b.toNat

/-- Bytes as a text. -/
def bytesIn : List V → Option ByteArray
  | xs => (go xs).map fun l => ⟨l.toArray⟩
where
  go : List V → Option (List UInt8)
    | [] => some []
    | .int .u8 n :: r => (go r).map (UInt8.ofNat n.toNat :: ·)
    | _ => none

def V.isInt : V → Bool
  | .int .. => true
  | _ => false

/-- A key that fits: a whole number, or so many. -/
def keyOk (kf : Option Nat) (k : V) : Bool :=
  match kf, k with
  | none, .int .. => true
  | some n, .agg cs => decide (cs.length = n) && cs.all V.isInt
  | _, _ => false

/-- What a map may hold. -/
def valOk : V → Bool
  | .undef | .tuple _ => false
  | _ => true


def ofOpt {α : Type} : Option α → Act α
  | some a => .ret a
  | none => .fail

def splice (cs : List V) (off : Nat) (vs : List V) : List V := cs.take off ++ vs ++ cs.drop (off + vs.length)

/-- The list, laid out, handed on. -/
def forceL {α : Type} : List V → (List V → α) → α
  | [], k => k []
  | x :: r, k => forceL r fun r' => k (x :: r')

theorem forceL_eq {α : Type} : ∀ (l : List V) (k : List V → α), forceL l k = k l
  | [], _ => rfl
  | _ :: r, k => by rw [forceL, forceL_eq r]

def fillV (cs : List V) : List (Nat × Nat × V) → Option (List V)
  | [] => some cs
  | (off, size, v) :: r =>
    if v.cellsOf.length = size ∧ off + size ≤ cs.length ∧ v.cellsOf.all V.isCell = true then fillV (splice cs off v.cellsOf) r else none

def intArg : Option V → Option (Option Int)
  | none => some none
  | some (.int _ n) => some (some n)
  | some _ => none

def cutAt (len : Nat) (lo hi mx : Option Int) : Option (Nat × Nat × Option Nat) :=
  if 0 ≤ lo.getD 0 ∧ lo.getD 0 ≤ hi.getD len ∧ hi.getD len ≤ len then
    match mx with
    | none => some ((lo.getD 0).toNat, (hi.getD len).toNat, none)
    | some m => if hi.isSome = true ∧ hi.getD len ≤ m ∧ m ≤ len then some ((lo.getD 0).toNat, (hi.getD len).toNat, some m.toNat) else none
  else none

/-- The bounds of a cut: low, high, and the capacity's end. -/
def cut (len : Nat) (lo hi mx : Option V) : Option (Nat × Nat × Option Nat) :=
  match intArg lo, intArg hi, intArg mx with
  | some lo, some hi, some mx => cutAt len lo hi mx
  | _, _, _ => none

/-- So many elements out of cells. -/
def chunks (e : Nat) : Nat → List V → List V
  | 0, _ => []
  | n + 1, cs => .agg (cs.take e) :: chunks e n (cs.drop e)

/-- The elements that cells are: thin, and with no keys. -/
def elemsOf (e n : Nat) (cs : List V) : Option (List V) :=
  let xs := cs.map V.thin
  if xs.length = n * e ∧ e ≠ 0 ∧ xs.all (fun c => c.frozen && c.isCell) = true then some (if e = 1 then xs else chunks e n xs) else none

/-- The elements of a slice, or a text's bytes. -/
def source (esz : Nat) (x : V) : Act (List V) :=
  match x with
  | .slc e xs _ => if e = esz then .ret xs else .fail
  | .nilslc => .ret []
  | .str s => if esz = 1 then .ret (bytesV s) else .fail
  | .view k e off len _ => if e = 1 ∧ esz = 1 then .get k fun
    | .cells cs =>
      let xs := ((cs.drop off).take len).map V.thin
      if xs.length = len ∧ xs.all (fun c => c.frozen && c.isCell) = true then .ret xs else .fail
    | _ => .fail
    else .fail
  | .rowv k e off len => if e = esz then .get k fun
    | .row cs => ofOpt (elemsOf e len ((cs.drop off).take (len * e)))
    | .froz cs => ofOpt (elemsOf e len ((cs.drop off).take (len * e)))
    | _ => .fail
    else .fail
  | _ => .fail

def appendTo (esz bytes : Nat) (dst : Nat) (s : V) (ys : List V) : Act Ans :=
  match s with
  | .slc e xs own =>
    if e = esz ∧ (xs.length + ys.length) * bytes ≤ 1099511627776 ∧ xs.length + ys.length ≤ 1099511627776 then
      if ys.isEmpty then Act.just (.slc e xs own) else
      match own with
      | .none => .fail
      | .nn => .fail
      | .tight => .new (.loc dst 0) (.ret ⟨.slc e (xs ++ ys) (.tok (.loc dst 0) 0), [(.loc dst 0, .tok (xs.length + ys.length))]⟩)
      | .tok k start => .get k fun
        | .tok n => if n = start + xs.length then .ret ⟨.slc e (xs ++ ys) (.tok k start), [(k, .tok (n + ys.length))]⟩ else .fail
        | _ => .fail
    else .fail
  | .view k e off len cap =>
    if e = 1 ∧ esz = 1 ∧ len + ys.length ≤ cap then .get k fun
      | .cells cs => if off + len + ys.length ≤ cs.length then .ret ⟨.view k 1 off (len + ys.length) cap, [(k, .cells (splice cs (off + len) (ys.flatMap V.cellsOf)))]⟩ else .fail
      | _ => .fail
    else .fail
  | .nilslc =>
    if ys.length * bytes ≤ 1099511627776 ∧ ys.length ≤ 1099511627776 then
      if ys.isEmpty then Act.just .nilslc else
      .new (.loc dst 0) (.ret ⟨.slc esz ys (.tok (.loc dst 0) 0), [(.loc dst 0, .tok ys.length)]⟩)
    else .fail
  | _ => .fail

/-! ### rows that may be written -/
def Obj.rowCells : Obj → Option (List V)
  | .row cs => some cs
  | .froz cs => some cs
  | _ => none

def loadRow (agg : Bool) (size off : Nat) : Option (List V) → Act Ans
  | some cs =>
    let xs := (cs.drop off).take size
    if xs.length = size then Act.just (V.mk agg xs) else .fail
  | none => .fail

def storeRow (size : Nat) (k : Key) (off : Nat) (cs vs : List V) : Act Ans :=
  if vs.length = size ∧ off + size ≤ cs.length ∧ vs.all V.isCell = true then forceL (splice cs off vs) fun cs' => .ret ⟨.tuple [], [(k, .row cs')]⟩ else .fail

/-- A cut of a row: up to what is known of it. -/
def sliceRow (k : Key) (e off len : Nat) (lo hi mx : Option V) : Option (List V) → Act Ans
  | none => .fail
  | some cs => match intArg lo, intArg hi, intArg mx with
    | some lo, some hi, some none =>
      if 0 ≤ lo.getD 0 ∧ lo.getD 0 ≤ hi.getD len ∧ off + (hi.getD len).toNat * e ≤ cs.length then Act.just (.rowv k e (off + (lo.getD 0).toNat * e) ((hi.getD len) - lo.getD 0).toNat) else .fail
    | some lo, some hi, some (some m) =>
      if hi.isSome = true ∧ 0 ≤ lo.getD 0 ∧ lo.getD 0 = m ∧ hi.getD len = m ∧ off + m.toNat * e ≤ cs.length then Act.just (.slc e [] .tight) else .fail
    | _, _, _ => .fail

/-- The cells of what is appended, and how many elements they are. -/
def cellsR (esz : Nat) (x : V) : Act (List V × Nat) :=
  match x with
  | .rowv k e off len => if e = esz then .get k fun o => match o.rowCells with
    | some cs =>
      let xs := (cs.drop off).take (len * e)
      if xs.length = len * e ∧ xs.all V.isCell = true then .ret (xs, len) else .fail
    | none => .fail
    else .fail
  | x => (source esz x).bind fun ys => .ret (if esz = 1 ∧ ys.all V.isCell = true then ys else ys.flatMap V.cellsOf, ys.length)

def appendRow (esz bytes dst : Nat) (s : V) (ys : List V) (n : Nat) : Act Ans :=
  match s with
  | .rowv k e off len =>
    if e = esz ∧ e ≠ 0 ∧ (len + n) * bytes ≤ 1099511627776 ∧ len + n ≤ 1099511627776 then .get k fun
      | .row cs =>
        if off + len * e ≤ cs.length then
          if n = 0 then Act.just (.rowv k e off len)
          else if off + (len + n) * e ≤ cs.length then .ret ⟨.rowv k e off (len + n), [(k, .row (splice cs (off + len * e) ys))]⟩
          else if off = 0 then .new (.loc dst 0) (.ret ⟨.rowv (.loc dst 0) e 0 (len + n), [(k, .dead), (.loc dst 0, .row (cs.take (len * e) ++ ys))]⟩)
          else .fail
        else .fail
      | _ => .fail
    else .fail
  | .slc e xs .tight =>
    if e = esz ∧ e ≠ 0 ∧ (xs.length + n) * bytes ≤ 1099511627776 ∧ xs.length + n ≤ 1099511627776 then
      if n = 0 then Act.just (.slc e xs .tight)
      else .new (.loc dst 0) (.ret ⟨.rowv (.loc dst 0) e 0 (xs.length + n), [(.loc dst 0, .row ((if e = 1 ∧ xs.all V.isCell = true then xs else xs.flatMap V.cellsOf) ++ ys))]⟩)
    else .fail
  | .nilslc =>
    if esz ≠ 0 ∧ n * bytes ≤ 1099511627776 ∧ n ≤ 1099511627776 then
      if n = 0 then Act.just .nilslc
      else .new (.loc dst 0) (.ret ⟨.rowv (.loc dst 0) esz 0 n, [(.loc dst 0, .row ys)]⟩)
    else .fail
  | _ => .fail

/-- The cells of a row's literal. -/
def rowOfs (esz : Nat) : List V → Option (List V)
  | [] => some []
  | v :: r => match rowOfs esz r with
    | some cs => if v.cellsOf.length = esz ∧ v.cellsOf.all V.isCell = true then some (v.cellsOf ++ cs) else none
    | none => none

/-- A row that is written no more; others as they are. -/
def frzCell (v : V) : Act (V × List (Key × Obj)) :=
  match v with
  | .rowv k e off len => .get k fun
    | .row cs => match elemsOf e len ((cs.drop off).take (len * e)) with
      | some xs => if (cs.map V.thin).all (fun c => c.frozen && c.isCell) = true then .ret (.slc e xs .none, [(k, .froz (cs.map V.thin))]) else .ret (.rowv k e off len, [])
      | none => .ret (.rowv k e off len, [])
    | .froz cs => match elemsOf e len ((cs.drop off).take (len * e)) with
      | some xs => .ret (.slc e xs .none, [])
      | none => .ret (.rowv k e off len, [])
    | _ => .fail
  | v => .ret (v, [])

def frzCells : List V → Act (List V × List (Key × Obj))
  | [] => .ret ([], [])
  | v :: r => (frzCell v).bind fun p => (frzCells r).bind fun q => .ret (p.1 :: q.1, p.2 ++ q.2)

def frzVal (v : V) : Act (V × List (Key × Obj)) :=
  match v with
  | .agg cs => (frzCells cs).bind fun p => .ret (.agg p.1, p.2)
  | v => frzCell v

def frzVals : List V → Act (List V × List (Key × Obj))
  | [] => .ret ([], [])
  | v :: r => (frzVal v).bind fun p => (frzVals r).bind fun q => .ret (p.1 :: q.1, p.2 ++ q.2)

/-! ### calls: what the arguments reach -/
mutual
def V.keys : V → List Key
  | .ptr k _ => [k]
  | .view k .. => [k]
  | .rowv k .. => [k]
  | .rptr k _ => [k]
  | .map k => [k]
  | .slc _ _ own => match own with | .tok k _ => [k] | _ => []
  | .func _ first captured => V.keyss first ++ V.keyss captured
  | .iface _ v => v.keys
  | .agg cs => V.keyss cs
  | .tuple vs => V.keyss vs
  | _ => []
def V.keyss : List V → List Key
  | [] => []
  | v :: r => v.keys ++ V.keyss r
end

def Obj.keys : Obj → List Key
  | .cells cs => V.keyss cs
  | .map es => es.flatMap fun (k, v) => k.keys ++ v.keys
  | .tok _ => []
  | .row cs => V.keyss cs
  | .froz _ => []
  | .dead => []

/-- The objects that are reached, in the order in which they are met. -/
def reach : Nat → List Key → List (Key × Obj) → Act (List (Key × Obj))
  | _, [], acc => .ret acc
  | 0, _ :: _, _ => .fail
  | n + 1, k :: todo, acc =>
    if acc.any (fun p => p.1 = k) then reach n todo acc
    else .get k fun o => reach n (todo ++ o.keys) (acc ++ [(k, o)])

mutual
/-- Keys turned. -/
def V.ren (f : Key → Key) : V → V
  | .ptr k o => .ptr (f k) o
  | .view k e o l c => .view (f k) e o l c
  | .rowv k e o l => .rowv (f k) e o l
  | .rptr k o => .rptr (f k) o
  | .map k => .map (f k)
  | .slc e xs own => match own with | .tok k s => .slc e xs (.tok (f k) s) | o => .slc e xs o
  | .func fn first captured => .func fn (V.rens f first) (V.rens f captured)
  | .iface t v => .iface t (v.ren f)
  | .agg cs => .agg (V.rens f cs)
  | .tuple vs => .tuple (V.rens f vs)
  | v => v
def V.rens (f : Key → Key) : List V → List V
  | [] => []
  | v :: r => v.ren f :: V.rens f r
end

def Obj.ren (f : Key → Key) : Obj → Obj
  | .cells cs => .cells (V.rens f cs)
  | .map es => .map (es.map fun (k, v) => (k.ren f, v.ren f))
  | .tok n => .tok n
  | .row cs => .row (V.rens f cs)
  | .froz cs => .froz cs
  | .dead => .dead

/-- Whether no key is in it. -/
def V.plain (v : V) : Bool := v.keys.isEmpty

def findIdxKey (k : Key) : List Key → Nat → Option Nat
  | [], _ => none
  | k' :: r, i => if k' = k then some i else findIdxKey k r (i + 1)

/-- The caller's key to the callee's. -/
def inKey (ks : List Key) (k : Key) : Key := match findIdxKey k ks 0 with | some i => .arg i | none => .loc 0 0
/-- The callee's key to the caller's: what was handed in, and what is new. -/
def outKey (ks : List Key) (dst : Nat) : Key → Key
  | .arg i => match ks[i]? with | some k => k | none => .loc dst (i - ks.length)
  | k => k

/-- An argument as the callee has it: cuts of objects as plain rows (lent). -/
def lend (x : V) : Act V :=
  match x with
  | .view k e off len c => if e = 1 ∧ len ≤ c then (source 1 (.view k e off len c)).bind fun xs => .ret (.slc 1 xs .none) else .fail
  | .slc e xs _ => .ret (.slc e xs .none)
  | v => .ret v

def lends : List V → Act (List V)
  | [] => .ret []
  | v :: r => (lend v).bind fun v => (lends r).bind fun r => .ret (v :: r)

def isView : V → Bool
  | .view .. => true
  | _ => false

/-- No slice, no pointer: numbers, truths, texts. -/
def V.flatCell : V → Bool
  | .bool _ | .int .. | .str _ => true
  | _ => false
def V.flat : V → Bool
  | .agg cs => cs.all V.flatCell
  | .tuple vs => vs.all fun v => match v with | .agg cs => cs.all V.flatCell | v => v.flatCell
  | v => v.flatCell

def newObjs (dst : Nat) (j : Nat) : List Obj → List (Key × Obj)
  | [] => []
  | o :: r => (.loc dst j, o) :: newObjs dst (j + 1) r

def news (dst : Nat) (j : Nat) : List Obj → Act Ans → Act Ans
  | [], a => a
  | _ :: r, a => .new (.loc dst j) (news dst (j + 1) r a)

def callBy (C : FuncId → Option Contract) (dst : Nat) (f : FuncId) (args : List V) : Act Ans :=
  match C f with
  | none => .fail
  | some c =>
    (lends args).bind fun args' =>
      if args.any isView then
        if V.keyss args' = [] then
          match c args' [] with
          | some (r, [], []) => if r.flat then Act.just r else .fail
          | _ => .fail
        else .fail
      else
        (reach 64 (V.keyss args') []).bind fun objs =>
          let ks := objs.map (·.1)
          if (V.keyss args').all ks.contains && objs.all (fun p => p.2.keys.all ks.contains) && decide ks.Nodup then
          match c (V.rens (inKey ks) args') (objs.map fun p => p.2.ren (inKey ks)) with
          | some (r, os, ns) =>
            if os.length = ks.length then
              let g := outKey ks dst
              news dst 0 ns (.ret ⟨r.ren g, (ks.zip (os.map (Obj.ren g))) ++ newObjs dst 0 (ns.map (Obj.ren g))⟩)
            else .fail
          | none => .fail
          else .fail

/-- A call to which rows are lent; an answer that is more than numbers, truths and texts leaves them written no more. -/
def callRows (C : FuncId → Option Contract) (dst : Nat) (f : FuncId) (args : List V) : Act Ans :=
  match C f with
  | none => .fail
  | some c =>
    (frzVals args).bind fun p => (lends p.1).bind fun args' =>
      if V.keyss args' = [] ∧ p.1.any isView = false then
        match c args' [] with
        | some (r, [], ns) =>
          if r.flat && ns.isEmpty then Act.just r
          else
            let g := outKey [] dst
            news dst 0 ns (.ret ⟨r.ren g, p.2 ++ newObjs dst 0 (ns.map (Obj.ren g))⟩)
        | _ => .fail
      else .fail

/-! ### one operation -/

def AOpd.ev (tm : Tm) : AOpd → V
  | .t i => tm.at i
  | .c v => v

def fillArgs (ρ : AOpd → V) : List (Nat × Nat × AOpd) → List (Nat × Nat × V)
  | [] => []
  | (o, n, x) :: r => (o, n, ρ x) :: fillArgs ρ r

def minV : V → List V → Option V
  | x, [] => some x
  | .int k a, .int k' b :: r => if k = k' then minV (.int k (if b < a then b else a)) r else none
  | _, _ => none

def maxV : V → List V → Option V
  | x, [] => some x
  | .int k a, .int k' b :: r => if k = k' then maxV (.int k (if b > a then b else a)) r else none
  | _, _ => none

def act (C : FuncId → Option Contract) (dst : Nat) (ρ : AOpd → V) : AOp → Act Ans
  | .mv x => Act.just (ρ x)
  | .nilrow e => .new (.loc dst 0) (.ret ⟨.slc e [] (.tok (.loc dst 0) 0), [(.loc dst 0, .tok 0)]⟩)
  | .pick c a b => match ρ c with
    | .bool true => Act.just (ρ a)
    | .bool false => Act.just (ρ b)
    | _ => .fail
  | .alloc zero => .new (.loc dst 0) (.ret ⟨.ptr (.loc dst 0) 0, [(.loc dst 0, .cells zero)]⟩)
  | .box size x =>
    let cs := (ρ x).cellsOf
    if cs.length = size ∧ cs.all V.isCell = true then .new (.loc dst 0) (.ret ⟨.ptr (.loc dst 0) 0, [(.loc dst 0, .cells cs)]⟩) else .fail
  | .build zero parts => match fillV zero (fillArgs ρ parts) with
    | some cs => Act.just (.agg cs)
    | none => .fail
  | .buildSlice esz agg parts => match settles esz agg (parts.map ρ) with
    | some xs => Act.just (.slc esz xs .tight)
    | none => .fail
  | .load agg size a => match ρ a with
    | .ptr k off => .get k fun
      | .cells cs =>
        let xs := (cs.drop off).take size
        if xs.length = size then Act.just (V.mk agg xs) else .fail
      | _ => .fail
    | .elem cs =>
      let xs := cs.take size
      if xs.length = size then Act.just (V.mk agg xs) else .fail
    | .rptr k off => .get k fun o => loadRow agg size off o.rowCells
    | _ => .fail
  | .store size a x => match ρ a with
    | .ptr k off => .get k fun
      | .cells cs =>
        let vs := (ρ x).cellsOf
        if vs.length = size ∧ off + size ≤ cs.length ∧ vs.all V.isCell = true then forceL (splice cs off vs) fun cs' => .ret ⟨.tuple [], [(k, .cells cs')]⟩ else .fail
      | _ => .fail
    | .rptr k off => .get k fun
      | .row cs => storeRow size k off cs (ρ x).cellsOf
      | _ => .fail
    | _ => .fail
  | .nilCheck x => match ρ x with
    | .ptr k off => Act.just (.ptr k off)
    | .elem cs => Act.just (.elem cs)
    | .func fn first captured => match fn with
      | .func _ => Act.just (.func fn first captured)
      | _ => .fail
    | .rptr k off => .get k fun o => if o.rowCells.isSome = true then Act.just (.rptr k off) else .fail
    | _ => .fail
  | .bin tk op x y => (ofOpt (binV tk op (ρ x) (ρ y))).bind Act.just
  | .eqAgg n neg x y => match ρ x, ρ y with
    | .agg xs, .agg ys => if xs.length = n ∧ ys.length = n then (match eqCells xs ys with
      | some b => Act.just (.bool (if neg then !b else b))
      | none => .fail) else .fail
    | _, _ => .fail
  | .un op x => (ofOpt (unV op (ρ x))).bind Act.just
  | .convInt k x => match ρ x with
    | .int _ n => Act.just (.int k (k.wrap n))
    | _ => .fail
  | .convSame x => match ρ x with
    | .str s => Act.just (.str s)
    | _ => .fail
  | .bytesOf x => match ρ x with
    | .str s => if s.size ≤ 1099511627776 then Act.just (.slc 1 (bytesV s) .none) else .fail
    | _ => .fail
  | .stringOf x => match ρ x with
    | .str _ => .fail
    | v => (source 1 v).bind fun xs => match bytesIn xs with
      | some s => Act.just (.str s)
      | none => .fail
  | .arrOf n x => match ρ x with
    | .slc _ xs _ => if 0 < n ∧ n ≤ xs.length then Act.just (.elem (xs.flatMap V.cellsOf)) else .fail
    | _ => .fail
  | .func fn first captured => Act.just (.func fn (first.map ρ) (captured.map ρ))
  | .makeMap => .new (.loc dst 0) (.ret ⟨.map (.loc dst 0), [(.loc dst 0, .map [])]⟩)
  | .makeSlice esz bytes agg zero len cap => match ρ len, ρ cap with
    | .int _ l, .int _ c =>
      if l = c ∧ 0 ≤ l ∧ l * bytes ≤ 1099511627776 ∧ l ≤ 1099511627776 then
        match zero.settle esz agg with
        | some z => Act.just (.slc esz (List.replicate l.toNat z) .tight)
        | none => .fail
      else .fail
    | _, _ => .fail
  | .makeRow zero len cap => match ρ len, ρ cap with
    | .int _ l, .int _ c =>
      if 0 ≤ l ∧ l ≤ c ∧ c ≤ 1099511627776 then .new (.loc dst 0) (.ret ⟨.view (.loc dst 0) 1 0 l.toNat c.toNat, [(.loc dst 0, .cells (List.replicate c.toNat zero))]⟩) else .fail
    | _, _ => .fail
  | .sliceS esz x lo hi mx => match ρ x with
    | .slc e xs own => if e ≠ esz then .fail else match cut xs.length (lo.map ρ) (hi.map ρ) (mx.map ρ) with
      | some (l, h, none) =>
        let ys := (xs.drop l).take (h - l)
        Act.just (.slc e ys (if h = xs.length then (match own with | .tok k s => .tok k (s + l) | .nn => .none | o => o) else .none))
      | some (l, h, some m) =>
        let ys := (xs.drop l).take (h - l)
        Act.just (.slc e ys (if m = h then .tight else .none))
      | none => .fail
    | .view k e off _ cap => if e ≠ esz then .fail else match lo.map ρ, hi.map ρ, mx.map ρ with
      | none, some (.int _ h), none => if 0 ≤ h ∧ h ≤ cap then Act.just (.view k e off h.toNat cap) else .fail
      | _, _, _ => .fail
    | .rowv k e off len => if e ≠ esz then .fail else .get k fun o => sliceRow k e off len (lo.map ρ) (hi.map ρ) (mx.map ρ) o.rowCells
    | _ => .fail
  | .sliceA n esz x lo hi mx => match ρ x with
    | .ptr k off => match cut n (lo.map ρ) (hi.map ρ) (mx.map ρ) with
      | some (l, h, none) => Act.just (.view k esz (if l = n then off else off + l * esz) (h - l) (n - l))
      | _ => .fail
    | _ => .fail
  | .sliceT x lo hi => match ρ x with
    | .str s => match cut s.size (lo.map ρ) (hi.map ρ) none with
      | some (l, h, _) => Act.just (.str (s.extract l h))
      | none => .fail
    | _ => .fail
  | .fieldAddr off x => match ρ x with
    | .ptr k o => Act.just (.ptr k (o + off))
    | .elem cs => Act.just (.elem (cs.drop off))
    | .rptr k o => .get k fun ob => if ob.rowCells.isSome = true then Act.just (.rptr k (o + off)) else .fail
    | _ => .fail
  | .field agg off size x => match ρ x with
    | .agg cs =>
      let xs := (cs.drop off).take size
      if xs.length = size then Act.just (V.mk agg xs) else .fail
    | _ => .fail
  | .indexS esz x i => match ρ x, ρ i with
    | .slc e xs _, .int _ n => if e = esz ∧ 0 ≤ n then (match xs[n.toNat]? with
        | some v => Act.just (.elem v.cellsOf)
        | none => .fail) else .fail
    | .view k e off len _, .int _ n => if e = esz ∧ 0 ≤ n ∧ n < len then Act.just (.ptr k (off + n.toNat * e)) else .fail
    | .rowv k e off len, .int _ n => if e = esz ∧ 0 ≤ n ∧ n < len then .get k fun ob => (if ob.rowCells.isSome = true then Act.just (.rptr k (off + n.toNat * e)) else .fail) else .fail
    | _, _ => .fail
  | .indexA n esz x i => match ρ x, ρ i with
    | .ptr k off, .int _ m => if 0 ≤ m ∧ m < n then Act.just (.ptr k (off + m.toNat * esz)) else .fail
    | .elem cs, .int _ m => if 0 ≤ m ∧ m < n then Act.just (.elem (cs.drop (m.toNat * esz))) else .fail
    | .rptr k off, .int _ m => if 0 ≤ m ∧ m < n then .get k fun ob => (if ob.rowCells.isSome = true then Act.just (.rptr k (off + m.toNat * esz)) else .fail) else .fail
    | _, _ => .fail
  | .indexT x i => match ρ x, ρ i with
    | .str s, .int _ n => if 0 ≤ n then (match s[n.toNat]? with
        | some b => Act.just (.int .u8 b.toNat)
        | none => .fail) else .fail
    | _, _ => .fail
  | .lookup kf zero m k ok =>
    if keyOk kf (ρ k) = true then
    let tell (v : V) (b : Bool) : Act Ans := Act.just (if ok then .tuple [v, .bool b] else v)
    match ρ m with
    | .nilmap => tell zero false
    | .map key => .get key fun
      | .map es => match findK kf (ρ k) es with
        | some (some v) => tell v true
        | some none => tell zero false
        | none => .fail
      | _ => .fail
    | _ => .fail
    else .fail
  | .mapSet kf m k v => match ρ m with
    | .map key => .get key fun
      | .map es => if (keyOk kf (ρ k) && valOk (ρ v)) = true then (match setK kf (ρ k) (ρ v) es with
        | some es => .ret ⟨.tuple [], [(key, .map es)]⟩
        | none => .fail) else .fail
      | _ => .fail
    | _ => .fail
  | .delete kf m k => if keyOk kf (ρ k) = true then (match ρ m with
    | .nilmap => Act.just (.tuple [])
    | .map key => .get key fun
      | .map es => match delK kf (ρ k) es with
        | some es => .ret ⟨.tuple [], [(key, .map es)]⟩
        | none => .fail
      | _ => .fail
    | _ => .fail) else .fail
  | .lenS x => match ρ x with
    | .slc _ xs _ => Act.just (.int .i64 xs.length)
    | .nilslc => Act.just (.int .i64 0)
    | .view _ _ _ len _ => Act.just (.int .i64 len)
    | .rowv k _ _ len => .get k fun ob => if ob.rowCells.isSome = true then Act.just (.int .i64 len) else .fail
    | _ => .fail
  | .lenT x => match ρ x with
    | .str s => Act.just (.int .i64 s.size)
    | _ => .fail
  | .lenM x => match ρ x with
    | .nilmap => Act.just (.int .i64 0)
    | .map key => .get key fun
      | .map es => Act.just (.int .i64 es.length)
      | _ => .fail
    | _ => .fail
  | .lenA n => Act.just (.int .i64 n)
  | .cap x => match ρ x with
    | .slc _ xs .tight => Act.just (.int .i64 xs.length)
    | .nilslc => Act.just (.int .i64 0)
    | .view _ _ _ _ cap => Act.just (.int .i64 cap)
    | _ => .fail
  | .append esz bytes s x => (source esz (ρ x)).bind fun ys => appendTo esz bytes dst (ρ s) ys
  | .appendR esz bytes s x => (cellsR esz (ρ x)).bind fun p => appendRow esz bytes dst (ρ s) p.1 p.2
  | .buildSliceF esz agg parts => (frzVals (parts.map ρ)).bind fun p => match settles esz agg p.1 with
    | some xs => .ret ⟨.slc esz xs .tight, p.2⟩
    | none => .fail
  | .buildRow esz parts => match rowOfs esz (parts.map ρ) with
    | some cs => .new (.loc dst 0) (.ret ⟨.rowv (.loc dst 0) esz 0 parts.length, [(.loc dst 0, .row cs)]⟩)
    | none => .fail
  | .clearRow zero esz x => match ρ x with
    | .slc e [] _ => Act.just (.tuple [])
    | .nilslc => Act.just (.tuple [])
    | .rowv k e off len => .get k fun
      | .row cs => if e = esz ∧ zero.length = esz ∧ off + len * esz ≤ cs.length then .ret ⟨.tuple [], [(k, .row (splice cs off (List.replicate len zero).flatten))]⟩ else .fail
      | _ => .fail
    | _ => .fail
  | .appendZ s n => match ρ n with
    | .int .i64 l => if 0 ≤ l ∧ l ≤ 1099511627776 then appendTo 1 1 dst (ρ s) (List.replicate l.toNat (.int .u8 0)) else .fail
    | _ => .fail
  | .copy esz d x => match ρ d with
    | .view k e off len _ => if e = esz ∧ esz = 1 then (source esz (ρ x)).bind fun ys =>
        .get k fun
          | .cells cs =>
            let n := Nat.min ys.length len
            if off + n ≤ cs.length then .ret ⟨.int .i64 n, [(k, .cells (splice cs off ((ys.take n).flatMap V.cellsOf)))]⟩ else .fail
          | _ => .fail
      else .fail
    | _ => .fail
  | .min x r => (ofOpt (minV (ρ x) (r.map ρ))).bind Act.just
  | .max x r => (ofOpt (maxV (ρ x) (r.map ρ))).bind Act.just
  | .clearMap x => match ρ x with
    | .nilmap => Act.just (.tuple [])
    | .map key => .get key fun
      | .map _ => .ret ⟨.tuple [], [(key, .map [])]⟩
      | _ => .fail
    | _ => .fail
  | .call f args => callBy C dst f (args.map ρ)
  | .callR f args => callRows C dst f (args.map ρ)
  | .callv f args => match ρ f with
    | .func (.func g) first captured => callBy C dst g (first ++ args.map ρ ++ captured)
    | _ => .fail
  | .extract x i => match ρ x with
    | .tuple vs => match vs[i]? with
      | some v => Act.just v
      | none => .fail
    | _ => .fail


/-! ### the same, in small parts -/
def loadA (agg : Bool) (size : Nat) : V → Act Ans
  | .ptr k off => .get k fun
    | .cells cs =>
      let xs := (cs.drop off).take size
      if xs.length = size then Act.just (V.mk agg xs) else .fail
    | _ => .fail
  | .elem cs =>
    let xs := cs.take size
    if xs.length = size then Act.just (V.mk agg xs) else .fail
  | .rptr k off => .get k fun o => loadRow agg size off o.rowCells
  | _ => .fail

def storeA (size : Nat) (a x : V) : Act Ans :=
  match a with
  | .ptr k off => .get k fun
    | .cells cs =>
      let vs := x.cellsOf
      if vs.length = size ∧ off + size ≤ cs.length ∧ vs.all V.isCell = true then forceL (splice cs off vs) fun cs' => .ret ⟨.tuple [], [(k, .cells cs')]⟩ else .fail
    | _ => .fail
  | .rptr k off => .get k fun
    | .row cs => storeRow size k off cs x.cellsOf
    | _ => .fail
  | _ => .fail

def binA (tk : TK) (op : BinOp) (x y : V) : Act Ans := (ofOpt (binV tk op x y)).bind Act.just

def indexSA (esz : Nat) (x i : V) : Act Ans :=
  match x, i with
  | .slc e xs _, .int _ n => if e = esz ∧ 0 ≤ n then (match xs[n.toNat]? with
      | some v => Act.just (.elem v.cellsOf)
      | none => .fail) else .fail
  | .view k e off len _, .int _ n => if e = esz ∧ 0 ≤ n ∧ n < len then Act.just (.ptr k (off + n.toNat * e)) else .fail
  | .rowv k e off len, .int _ n => if e = esz ∧ 0 ≤ n ∧ n < len then .get k fun ob => (if ob.rowCells.isSome = true then Act.just (.rptr k (off + n.toNat * e)) else .fail) else .fail
  | _, _ => .fail

def indexAA (n esz : Nat) (x i : V) : Act Ans :=
  match x, i with
  | .ptr k off, .int _ m => if 0 ≤ m ∧ m < n then Act.just (.ptr k (off + m.toNat * esz)) else .fail
  | .elem cs, .int _ m => if 0 ≤ m ∧ m < n then Act.just (.elem (cs.drop (m.toNat * esz))) else .fail
  | .rptr k off, .int _ m => if 0 ≤ m ∧ m < n then .get k fun ob => (if ob.rowCells.isSome = true then Act.just (.rptr k (off + m.toNat * esz)) else .fail) else .fail
  | _, _ => .fail

def convA (k : IntKind) : V → Act Ans
  | .int _ n => Act.just (.int k (k.wrap n))
  | _ => .fail

def callA (C : FuncId → Option Contract) (dst : Nat) (ρ : AOpd → V) (f : FuncId) (args : List AOpd) : Act Ans := callBy C dst f (args.map ρ)

/-- One operation, in small parts: less to lay out for each. -/
def actF (C : FuncId → Option Contract) (dst : Nat) (ρ : AOpd → V) (o : AOp) : Act Ans :=
  match o with
  | .mv x => Act.just (ρ x)
  | .load agg size a => loadA agg size (ρ a)
  | .store size a x => storeA size (ρ a) (ρ x)
  | .bin tk op x y => binA tk op (ρ x) (ρ y)
  | .indexS esz x i => indexSA esz (ρ x) (ρ i)
  | .indexA n esz x i => indexAA n esz (ρ x) (ρ i)
  | .convInt k x => convA k (ρ x)
  | .call f args => callA C dst ρ f args
  | o => act C dst ρ o

theorem actF_eq (C : FuncId → Option Contract) (dst : Nat) (ρ : AOpd → V) (o : AOp) : actF C dst ρ o = act C dst ρ o := by
  cases o <;> rfl

/-! ### regions, code, functions -/

def noSlot : Nat := 1000000

def AOper.put (o : AOper) (tm : Tm) (v : V) : Tm :=
  match o.dst with
  | some d => (d, v) :: tm
  | none => tm

/-- One operation: the state behind it, what it read, and what it wrote. -/
def step (C : FuncId → Option Contract) (s : St) (o : AOper) : Option (St × List Key × List Key) :=
  let go : Option (St × List Key × List Key) :=
    match (actF C (o.dst.getD noSlot) (AOpd.ev s.tm) o.op).run s.st [] with
    | some (a, rd) => some (⟨o.put s.tm a.v, s.st.puts a.up⟩, rd, a.up.map (·.1))
    | none => none
  match o.guard with
  | none => go
  | some (g, want) => match s.tm.at g with
    | .bool b => if b = want then go else some (⟨o.put s.tm (.tuple []), s.st⟩, [], [])
    | .tuple [] => some (⟨o.put s.tm (.tuple []), s.st⟩, [], [])
    | _ => none

/-- The same by 'act'. -/
def stepA (C : FuncId → Option Contract) (s : St) (o : AOper) : Option (St × List Key × List Key) :=
  let go : Option (St × List Key × List Key) :=
    match (act C (o.dst.getD noSlot) (AOpd.ev s.tm) o.op).run s.st [] with
    | some (a, rd) => some (⟨o.put s.tm a.v, s.st.puts a.up⟩, rd, a.up.map (·.1))
    | none => none
  match o.guard with
  | none => go
  | some (g, want) => match s.tm.at g with
    | .bool b => if b = want then go else some (⟨o.put s.tm (.tuple []), s.st⟩, [], [])
    | .tuple [] => some (⟨o.put s.tm (.tuple []), s.st⟩, [], [])
    | _ => none

theorem step_eq (C : FuncId → Option Contract) (s : St) (o : AOper) : step C s o = stepA C s o := by
  unfold step stepA
  rw [actF_eq]

def runOps (C : FuncId → Option Contract) : St → List AOper → Option St
  | s, [] => some s
  | s, o :: r => match step C s o with
    | some (s, _, _) => runOps C s r
    | none => none

def runLog (C : FuncId → Option Contract) : St → List AOper → List (List Key × List Key) → Option (St × List (List Key × List Key))
  | s, [], l => some (s, l.reverse)
  | s, o :: r, l => match step C s o with
    | some (s, rd, wr) => runLog C s r ((rd, wr) :: l)
    | none => none

def apartKeys (a b : List Key) : Bool := a.all fun k => !b.contains k

def compat (x y : List Key × List Key) : Bool := apartKeys x.2 y.1 && apartKeys x.2 y.2 && apartKeys y.2 x.1

/-- The operations that read or write, with their numbers. -/
def touch : List (List Key × List Key) → Nat → List (Nat × List Key × List Key)
  | [], _ => []
  | (rd, wr) :: r, i => if rd.isEmpty && wr.isEmpty then touch r (i + 1) else (i, rd, wr) :: touch r (i + 1)

def okPairs (logs : List (List Key × List Key)) (free : List Nat) : Bool :=
  let t := touch logs 0
  t.all fun y => t.all fun x => !(free.getD y.1 0).testBit x.1 || compat x.2 y.2

inductive Ex where
  | normal
  | exit (id : Nat)
  | ret
  deriving DecidableEq

mutual
/-- Keys that are not kept are forgotten. -/
def V.only (p : Key → Bool) : V → V
  | .ptr k o => if p k then .ptr k o else .undef
  | .view k e o l c => if p k then .view k e o l c else .undef
  | .rowv k e o l => if p k then .rowv k e o l else .undef
  | .rptr k o => if p k then .rptr k o else .undef
  | .map k => if p k then .map k else .undef
  | .slc e xs own => match own with | .tok k s => .slc e xs (if p k then .tok k s else .none) | o => .slc e xs o
  | .func fn first captured => .func fn (V.onlys p first) (V.onlys p captured)
  | .iface t v => .iface t (v.only p)
  | .agg cs => .agg (V.onlys p cs)
  | .tuple vs => .tuple (V.onlys p vs)
  | v => v
def V.onlys (p : Key → Bool) : List V → List V
  | [] => []
  | v :: r => v.only p :: V.onlys p r
end

def Obj.only (p : Key → Bool) : Obj → Obj
  | .cells cs => .cells (V.onlys p cs)
  | .map es => .map (es.map fun (k, v) => (k, v.only p))
  | .tok n => .tok n
  | .row cs => .row (V.onlys p cs)
  | .froz cs => .froz cs
  | .dead => .dead

def keepKey (keys : List Nat) : Key → Bool
  | .arg _ => true
  | .loc s _ => keys.contains s

def cleanTm (p : Key → Bool) (tm : Tm) : List Nat → Tm
  | [] => []
  | i :: r => (i, (tm.at i).only p) :: cleanTm p tm r

def cleanSt (p : Key → Bool) : Store → Store
  | [] => []
  | (k, o) :: r => if p k then (k, o.only p) :: cleanSt p r else cleanSt p r

def clean (slots keys : List Nat) (s : St) : St := ⟨cleanTm (keepKey keys) s.tm slots, cleanSt (keepKey keys) s.st⟩

/-- What is kept, but what is used no more. -/
def keepLive (keys : List Nat) (σ : Store) : Key → Bool
  | .arg _ => true
  | .loc s j => keys.contains s && (match σ.get (.loc s j) with | some .dead => false | _ => true)

def reKey (rens : List (Nat × Nat)) : Key → Key
  | .arg i => .arg i
  | .loc s j => match rens.find? (fun p => Nat.beq p.1 s) with
    | some p => .loc p.2 j
    | none => .loc s j

def renTm (f : Key → Key) : Tm → Tm
  | [] => []
  | (i, v) :: r => (i, v.ren f) :: renTm f r
def renSt (f : Key → Key) : Store → Store
  | [] => []
  | (k, o) :: r => (f k, o.ren f) :: renSt f r

def cleanR (slots keys : List Nat) (rens : List (Nat × Nat)) (s : St) : St :=
  let p := keepLive keys s.st
  let s' : St := ⟨cleanTm p s.tm slots, cleanSt p s.st⟩
  let f := reKey rens
  if (s'.st.map fun q => f q.1).Nodup then ⟨renTm f s'.tm, renSt f s'.st⟩ else s'

def iter (f : St → Option (Ex × St)) : Nat → St → Option (Ex × St)
  | 0, _ => none
  | n + 1, s => match f s with
    | some (.normal, s) => iter f n s
    | r => r

def evalCode (C : FuncId → Option Contract) (fuel : Nat) : ACode → St → Option (Ex × St)
  | .skip, s => some (.normal, s)
  | .region ops, s => match runOps C s ops with
    | some s => some (.normal, s)
    | none => none
  | .drawn ops free, s => match runLog C s ops [] with
    | some (s, logs) => if okPairs logs free then some (.normal, s) else none
    | none => none
  | .seq a b, s => match evalCode C fuel a s with
    | some (.normal, s) => evalCode C fuel b s
    | r => r
  | .cond c a b, s => match c.ev s.tm with
    | .bool true => evalCode C fuel a s
    | .bool false => evalCode C fuel b s
    | _ => none
  | .block id b, s => match evalCode C fuel b s with
    | some (.exit j, s) => if j = id then some (.normal, s) else some (.exit j, s)
    | r => r
  | .loop slots keys b, s => iter (fun s => evalCode C fuel b (clean slots keys s)) fuel s
  | .loopR slots keys rens b, s => iter (fun s => evalCode C fuel b (cleanR slots keys rens s)) fuel s
  | .exit id, s => some (.exit id, s)
  | .ret, s => some (.ret, s)

inductive ARes where
  | tmp (t : Nat)
  | cell (a : Nat) (agg : Bool) (size : Nat)

structure AFn where
  ntmps : Nat
  nparams : Nat
  results : List ARes
  code : ACode
  /-- the answer's slices may be appended to -/
  keep : Bool

def ARes.read (s : St) : ARes → Option V
  | .tmp t => some (s.tm.at t)
  | .cell a agg size => match s.tm.at a with
    | .ptr k off => match s.st.get k with
      | some (.cells cs) =>
        let xs := (cs.drop off).take size
        if xs.length = size then some (V.mk agg xs) else none
      | _ => none
    | _ => none

def readAll (s : St) : List ARes → Option (List V)
  | [] => some []
  | r :: rest => match r.read s, readAll s rest with
    | some v, some vs => some (v :: vs)
    | _, _ => none

def single : List V → V
  | [v] => v
  | vs => .tuple vs

def V.thinAll : V → V
  | .agg cs => .agg (cs.map V.thin)
  | .tuple vs => .tuple (vs.map fun v => match v with | .agg cs => .agg (cs.map V.thin) | v => v.thin)
  | v => v.thin

def argObjs (i : Nat) : List Obj → Store
  | [] => []
  | o :: r => (.arg i, o) :: argObjs (i + 1) r

def backObjs (s : Store) : Nat → Nat → Option (List Obj)
  | _, 0 => some []
  | i, n + 1 => match s.get (.arg i), backObjs s (i + 1) n with
    | some o, some r => some (o :: r)
    | _, _ => none

def isLoc : Key → Bool
  | .loc .. => true
  | .arg _ => false

def Key.below (n : Nat) : Key → Bool
  | .arg i => decide (i < n)
  | .loc .. => true

def freshKey (n : Nat) (ks : List Key) (k : Key) : Key :=
  match k with
  | .arg i => .arg i
  | .loc s j => match findIdxKey (.loc s j) ks 0 with | some i => .arg (n + i) | none => .loc s j

def objsKeys : List Obj → List Key
  | [] => []
  | o :: r => o.keys ++ objsKeys r

def AFn.finish (fn : AFn) (n : Nat) (s : St) : Option (V × List Obj × List Obj) :=
  match readAll s fn.results, backObjs s.st 0 n with
  | some vs, some os =>
    let r := if fn.keep then single vs else (single vs).thinAll
    match (reach 64 (r.keys ++ objsKeys os) []).run s.st [] with
    | some (l, _) =>
      let ks := l.map (·.1)
      if (r.keys ++ objsKeys os).all ks.contains && l.all (fun p => p.2.keys.all ks.contains && p.1.below n) && decide ks.Nodup then
        let fresh := l.filter fun p => isLoc p.1
        let g := freshKey n (fresh.map (·.1))
        some (r.ren g, os.map (Obj.ren g), fresh.map fun p => p.2.ren g)
      else none
    | none => none
  | _, _ => none

def argTm (i : Nat) : List V → Tm
  | [] => []
  | v :: r => (i, v) :: argTm (i + 1) r

def AFn.run (fuel : Nat) (C : FuncId → Option Contract) (fn : AFn) : Contract := fun args objs =>
  if args.length = fn.nparams then
    match evalCode C fuel fn.code ⟨argTm 0 args, argObjs 0 objs⟩ with
    | some (.normal, s) => fn.finish objs.length s
    | some (.ret, s) => fn.finish objs.length s
    | _ => none
  else none

end Go.Ev

namespace Go.Ev
open Go

/-- Where an object lies: a block; or the spare places of a block: from 'pos' on, r elements of e cells; n elements lie ahead. -/
inductive Hd where
  /-- a block; a row's: with its size -/
  | blk (b : Nat) (t : Option Nat)
  | spare (b pos r e n : Nat)
  /-- a row that is written no more, with its block and size, or a name that is used no more -/
  | idle (o : Option (Nat × Nat))

/-- The row that a name stands for: 'none': none; 'some none': one that is used no more. -/
def Hd.rowOf : Hd → Option (Option (Nat × Nat))
  | .blk b (some s) => some (some (b, s))
  | .idle o => some o
  | _ => none

/-- Where a slice into a row lies. -/
def rowAt (b size e off len : Nat) (v : Value) : Prop :=
  ∃ o cap, v = .slice (some ⟨b, o, none⟩) len cap ∧ ((o = off ∧ off + cap * e = size) ∨ (cap = 0 ∧ len = 0 ∧ off = size))

/-- Memory that stays as it is. -/
abbrev Frz := Addr → Option Value
abbrev Mu := Key → Option Hd
def noMu : Mu := fun _ => none

def ownRel (μ : Mu) (base : Option Addr) (cap e len : Nat) : Own → Prop
  | .none => len ≤ cap
  | .nn => len ≤ cap ∧ base.isSome = true
  | .tight => cap = len
  | .tok k s => len ≤ cap ∧ ∃ b pos r e' n, μ k = some (.spare b pos r e' n) ∧ s + len ≤ n ∧
      (s + len = n → cap = len + r ∧ (r = 0 ∨ (e' = e ∧ ∃ o, base = some ⟨b, o, none⟩ ∧ o + len * e = pos)))

mutual
def rel (F : Frz) : Mu → V → Value → Prop
  | _, .undef, _ => True
  | _, .bool b, v => v = .bool b
  | _, .int k n, v => v = .int k n
  | _, .str s, v => v = .string s
  | _, .nil, v => v = .pointer none
  | μ, .ptr k off, v => ∃ b, μ k = some (.blk b none) ∧ v = .pointer (some ⟨b, off, none⟩)
  | _, .elem cs, v => ∃ b o, v = .pointer (some ⟨b, o, none⟩) ∧ frz F b o cs
  | μ, .slc e xs own, v => ∃ base cap, v = .slice base xs.length cap ∧
      (match base with | none => xs = [] ∧ cap = 0 | some a => (xs = [] ∨ a.spot = none) ∧ frzE F a.block a.off e xs) ∧ ownRel μ base cap e xs.length own
  | _, .nilslc, v => v = .slice none 0 0
  | μ, .view k _ off len cap, v => ∃ b, μ k = some (.blk b none) ∧ v = .slice (some ⟨b, off, none⟩) len cap
  | μ, .rowv k e off len, v => (∃ a n c, v = .slice (some a) n c) ∧ ∃ h q, μ k = some h ∧ h.rowOf = some q ∧ ∀ b s, q = some (b, s) → rowAt b s e off len v
  | μ, .rptr k off, v => (∃ a, v = .pointer (some a)) ∧ ∃ h q, μ k = some h ∧ h.rowOf = some q ∧ ∀ b s, q = some (b, s) → v = .pointer (some ⟨b, off, none⟩)
  | μ, .map k, v => ∃ b, μ k = some (.blk b none) ∧ v = .map (some b)
  | _, .nilmap, v => v = .map none
  | μ, .func fn f c, v => ∃ f' c' : List Value, v = .func fn f'.toArray c'.toArray ∧ rels F μ f f' ∧ rels F μ c c'
  | _, .nilfunc, v => v = .nilFunc
  | μ, .iface t x, v => ∃ u, v = .iface t u ∧ rel F μ x u
  | _, .nilIface, v => v = .nilIface
  | μ, .agg cs, v => ∃ us : List Value, v = .agg us.toArray ∧ rels F μ cs us
  | μ, .tuple vs, v => ∃ us : List Value, v = .tuple us.toArray ∧ rels F μ vs us
def rels (F : Frz) : Mu → List V → List Value → Prop
  | _, [], us => us = []
  | μ, v :: r, us => ∃ u us', us = u :: us' ∧ rel F μ v u ∧ rels F μ r us'
/-- The cells from there on. -/
def frz (F : Frz) : Nat → Nat → List V → Prop
  | _, _, [] => True
  | b, o, c :: r => (∃ u, F ⟨b, o, none⟩ = some u ∧ rel F noMu c u) ∧ frz F b (o + 1) r
/-- The elements from there on. -/
def frzE (F : Frz) : Nat → Nat → Nat → List V → Prop
  | _, _, _, [] => True
  | b, o, e, .agg cs :: r => (cs.length = e ∧ frz F b o cs) ∧ frzE F b (o + e) e r
  | b, o, e, x :: r => (e = 1 ∧ ∃ u, F ⟨b, o, none⟩ = some u ∧ rel F noMu x u) ∧ frzE F b (o + e) e r
end

/-- Later knowledge: the same blocks; spare places that were used are others. -/
def Hd.le : Hd → Hd → Prop
  | .blk b none, h => h = .blk b none
  | .blk b (some s), h => h = .blk b (some s) ∨ h = .idle (some (b, s)) ∨ h = .idle none
  | .idle o, h => h = .idle o
  | .spare b p r e n, h => h = .spare b p r e n ∨ ∃ b' p' r' e' n', h = .spare b' p' r' e' n' ∧ n < n'

def Mu.le (μ μ' : Mu) : Prop := ∀ k h, μ k = some h → ∃ h', μ' k = some h' ∧ h.le h'
def Frz.le (F F' : Frz) : Prop := ∀ a u, F a = some u → F' a = some u

theorem Hd.le_refl (h : Hd) : h.le h := by
  cases h with
  | blk b t => cases t <;> simp [Hd.le]
  | spare => simp [Hd.le]
  | idle => simp [Hd.le]
theorem Hd.le_row {h h' : Hd} (hl : h.le h') {q : Option (Nat × Nat)} (hq : h.rowOf = some q) : ∃ q', h'.rowOf = some q' ∧ ∀ b s, q' = some (b, s) → q = some (b, s) := by
  cases h with
  | blk b t =>
    cases t with
    | none => simp [Hd.rowOf] at hq
    | some s =>
      simp only [Hd.rowOf, Option.some.injEq] at hq
      subst hq
      simp only [Hd.le] at hl
      rcases hl with rfl | rfl | rfl
      · exact ⟨_, rfl, fun _ _ h => h⟩
      · exact ⟨_, rfl, fun _ _ h => h⟩
      · exact ⟨none, rfl, fun _ _ h => by cases h⟩
  | spare => simp [Hd.rowOf] at hq
  | idle o =>
    simp only [Hd.le] at hl; subst hl
    exact ⟨q, hq, fun _ _ h => h⟩
theorem Hd.le_trans {a b c : Hd} (h : a.le b) (h' : b.le c) : a.le c := by
  cases a with
  | blk x t =>
    cases t with
    | none => simp only [Hd.le] at h; subst h; exact h'
    | some s =>
      simp only [Hd.le] at h ⊢
      rcases h with rfl | rfl | rfl
      · exact h'
      · simp only [Hd.le] at h'; exact .inr (.inl h')
      · simp only [Hd.le] at h'; exact .inr (.inr h')
  | idle o => simp only [Hd.le] at h; subst h; exact h'
  | spare x p r e n =>
    simp only [Hd.le] at h ⊢
    rcases h with rfl | ⟨b', p', r', e', n', rfl, hn⟩
    · exact h'
    · simp only [Hd.le] at h'
      rcases h' with rfl | ⟨b'', p'', r'', e'', n'', rfl, hn'⟩
      · exact .inr ⟨_, _, _, _, _, rfl, hn⟩
      · exact .inr ⟨_, _, _, _, _, rfl, Nat.lt_trans hn hn'⟩
theorem Mu.le_refl (μ : Mu) : μ.le μ := fun _ h hk => ⟨h, hk, h.le_refl⟩
theorem Mu.le_trans {a b c : Mu} (h : a.le b) (h' : b.le c) : a.le c := fun k x hx =>
  let ⟨y, hy, l⟩ := h k x hx
  let ⟨z, hz, l'⟩ := h' k y hy
  ⟨z, hz, Hd.le_trans l l'⟩
theorem Frz.le_refl (F : Frz) : F.le F := fun _ _ h => h
theorem Frz.le_trans {a b c : Frz} (h : a.le b) (h' : b.le c) : a.le c := fun x u hx => h' x u (h x u hx)
theorem noMu_le (μ : Mu) : noMu.le μ := fun _ _ h => by simp [noMu] at h

theorem Hd.le_blk {b : Nat} {h : Hd} (hl : (Hd.blk b none).le h) : h = .blk b none := by simpa only [Hd.le] using hl
theorem ownRel_mono {μ μ' : Mu} (hm : μ.le μ') {base : Option Addr} {cap e len : Nat} {own : Own} (h : ownRel μ base cap e len own) : ownRel μ' base cap e len own := by
  cases own with
  | none => exact h
  | nn => exact h
  | tight => exact h
  | tok k s =>
    obtain ⟨hc, b, pos, r, e', n, hk, hs, hq⟩ := h
    obtain ⟨h', hk', hl⟩ := hm k _ hk
    simp only [Hd.le] at hl
    rcases hl with rfl | ⟨b', p', r', e'', n', rfl, hn⟩
    · exact ⟨hc, _, _, _, _, _, hk', hs, hq⟩
    · exact ⟨hc, _, _, _, _, _, hk', by omega, fun h => by omega⟩

mutual
theorem rel_mono {F F' : Frz} (hF : F.le F') : ∀ {μ μ' : Mu}, μ.le μ' → ∀ (v : V) (u : Value), rel F μ v u → rel F' μ' v u
  | _, _, _, .undef, _, _ => by simp [rel]
  | _, _, _, .bool _, _, h => by simpa [rel] using h
  | _, _, _, .int .., _, h => by simpa [rel] using h
  | _, _, _, .str _, _, h => by simpa [rel] using h
  | _, _, _, .nil, _, h => by simpa [rel] using h
  | μ, μ', hm, .ptr k off, u, h => by
    simp only [rel] at h ⊢
    obtain ⟨b, hk, hu⟩ := h
    obtain ⟨h', hk', hl⟩ := hm k _ hk
    simp only [Hd.le] at hl
    exact ⟨b, hl ▸ hk', hu⟩
  | _, _, _, .elem cs, u, h => by
    simp only [rel] at h ⊢
    obtain ⟨b, o, hu, hc⟩ := h
    exact ⟨b, o, hu, frz_mono hF _ _ cs hc⟩
  | μ, μ', hm, .slc e xs own, u, h => by
    simp only [rel] at h ⊢
    obtain ⟨base, cap, hu, hb, ho⟩ := h
    refine ⟨base, cap, hu, ?_, ownRel_mono hm ho⟩
    cases base with
    | none => exact hb
    | some a => exact ⟨hb.1, frzE_mono hF _ _ _ xs hb.2⟩
  | _, _, _, .nilslc, _, h => by simpa [rel] using h
  | μ, μ', hm, .view k e off len cap, u, h => by
    simp only [rel] at h ⊢
    obtain ⟨b, hk, hu⟩ := h
    obtain ⟨h', hk', hl⟩ := hm k _ hk
    simp only [Hd.le] at hl
    exact ⟨b, hl ▸ hk', hu⟩
  | μ, μ', hm, .rowv k e off len, u, h => by
    simp only [rel] at h ⊢
    obtain ⟨hu, hd, q, hk, hq, hr⟩ := h
    obtain ⟨h', hk', hl⟩ := hm k _ hk
    obtain ⟨q', hq', hs⟩ := Hd.le_row hl hq
    exact ⟨hu, h', q', hk', hq', fun b s hb => hr b s (hs b s hb)⟩
  | μ, μ', hm, .rptr k off, u, h => by
    simp only [rel] at h ⊢
    obtain ⟨hu, hd, q, hk, hq, hr⟩ := h
    obtain ⟨h', hk', hl⟩ := hm k _ hk
    obtain ⟨q', hq', hs⟩ := Hd.le_row hl hq
    exact ⟨hu, h', q', hk', hq', fun b s hb => hr b s (hs b s hb)⟩
  | μ, μ', hm, .map k, u, h => by
    simp only [rel] at h ⊢
    obtain ⟨b, hk, hu⟩ := h
    obtain ⟨h', hk', hl⟩ := hm k _ hk
    simp only [Hd.le] at hl
    exact ⟨b, hl ▸ hk', hu⟩
  | _, _, _, .nilmap, _, h => by simpa [rel] using h
  | μ, μ', hm, .func fn f c, u, h => by
    simp only [rel] at h ⊢
    obtain ⟨f', c', hu, hf, hc⟩ := h
    exact ⟨f', c', hu, rels_mono hF hm f _ hf, rels_mono hF hm c _ hc⟩
  | _, _, _, .nilfunc, _, h => by simpa [rel] using h
  | μ, μ', hm, .iface t x, u, h => by
    simp only [rel] at h ⊢
    obtain ⟨u', hu, hx⟩ := h
    exact ⟨u', hu, rel_mono hF hm x _ hx⟩
  | _, _, _, .nilIface, _, h => by simpa [rel] using h
  | μ, μ', hm, .agg cs, u, h => by
    simp only [rel] at h ⊢
    obtain ⟨us, hu, hc⟩ := h
    exact ⟨us, hu, rels_mono hF hm cs _ hc⟩
  | μ, μ', hm, .tuple vs, u, h => by
    simp only [rel] at h ⊢
    obtain ⟨us, hu, hc⟩ := h
    exact ⟨us, hu, rels_mono hF hm vs _ hc⟩
theorem rels_mono {F F' : Frz} (hF : F.le F') : ∀ {μ μ' : Mu}, μ.le μ' → ∀ (vs : List V) (us : List Value), rels F μ vs us → rels F' μ' vs us
  | _, _, _, [], _, h => by simpa [rels] using h
  | μ, μ', hm, v :: r, us, h => by
    simp only [rels] at h ⊢
    obtain ⟨u, us', hu, hv, hr⟩ := h
    exact ⟨u, us', hu, rel_mono hF hm v _ hv, rels_mono hF hm r _ hr⟩
theorem frz_mono {F F' : Frz} (hF : F.le F') : ∀ (b o : Nat) (cs : List V), frz F b o cs → frz F' b o cs
  | _, _, [], _ => by simp [frz]
  | b, o, c :: r, h => by
    simp only [frz] at h ⊢
    obtain ⟨⟨u, hu, hc⟩, hr⟩ := h
    exact ⟨⟨u, hF _ _ hu, rel_mono hF (Mu.le_refl _) c _ hc⟩, frz_mono hF _ _ r hr⟩
theorem frzE_mono {F F' : Frz} (hF : F.le F') : ∀ (b o e : Nat) (xs : List V), frzE F b o e xs → frzE F' b o e xs
  | _, _, _, [], _ => by simp [frzE]
  | b, o, e, .agg cs :: r, h => by
    simp only [frzE] at h ⊢
    exact ⟨⟨h.1.1, frz_mono hF _ _ cs h.1.2⟩, frzE_mono hF _ _ _ r h.2⟩
  | b, o, e, .undef :: r, h => by
    simp only [frzE] at h ⊢
    obtain ⟨⟨he, u, hu, hc⟩, hr⟩ := h
    exact ⟨⟨he, u, hF _ _ hu, rel_mono hF (Mu.le_refl _) _ _ hc⟩, frzE_mono hF _ _ _ r hr⟩
  | b, o, e, .bool x :: r, h => by
    simp only [frzE] at h ⊢
    obtain ⟨⟨he, u, hu, hc⟩, hr⟩ := h
    exact ⟨⟨he, u, hF _ _ hu, rel_mono hF (Mu.le_refl _) _ _ hc⟩, frzE_mono hF _ _ _ r hr⟩
  | b, o, e, .int k n :: r, h => by
    simp only [frzE] at h ⊢
    obtain ⟨⟨he, u, hu, hc⟩, hr⟩ := h
    exact ⟨⟨he, u, hF _ _ hu, rel_mono hF (Mu.le_refl _) _ _ hc⟩, frzE_mono hF _ _ _ r hr⟩
  | b, o, e, .str x :: r, h => by
    simp only [frzE] at h ⊢
    obtain ⟨⟨he, u, hu, hc⟩, hr⟩ := h
    exact ⟨⟨he, u, hF _ _ hu, rel_mono hF (Mu.le_refl _) _ _ hc⟩, frzE_mono hF _ _ _ r hr⟩
  | b, o, e, .nil :: r, h => by
    simp only [frzE] at h ⊢
    obtain ⟨⟨he, u, hu, hc⟩, hr⟩ := h
    exact ⟨⟨he, u, hF _ _ hu, rel_mono hF (Mu.le_refl _) _ _ hc⟩, frzE_mono hF _ _ _ r hr⟩
  | b, o, e, .ptr x y :: r, h => by
    simp only [frzE] at h ⊢
    obtain ⟨⟨he, u, hu, hc⟩, hr⟩ := h
    exact ⟨⟨he, u, hF _ _ hu, rel_mono hF (Mu.le_refl _) _ _ hc⟩, frzE_mono hF _ _ _ r hr⟩
  | b, o, e, .elem x :: r, h => by
    simp only [frzE] at h ⊢
    obtain ⟨⟨he, u, hu, hc⟩, hr⟩ := h
    exact ⟨⟨he, u, hF _ _ hu, rel_mono hF (Mu.le_refl _) _ _ hc⟩, frzE_mono hF _ _ _ r hr⟩
  | b, o, e, .slc x y z :: r, h => by
    simp only [frzE] at h ⊢
    obtain ⟨⟨he, u, hu, hc⟩, hr⟩ := h
    exact ⟨⟨he, u, hF _ _ hu, rel_mono hF (Mu.le_refl _) _ _ hc⟩, frzE_mono hF _ _ _ r hr⟩
  | b, o, e, .nilslc :: r, h => by
    simp only [frzE] at h ⊢
    obtain ⟨⟨he, u, hu, hc⟩, hr⟩ := h
    exact ⟨⟨he, u, hF _ _ hu, rel_mono hF (Mu.le_refl _) _ _ hc⟩, frzE_mono hF _ _ _ r hr⟩
  | b, o, e, .view x y z t s :: r, h => by
    simp only [frzE] at h ⊢
    obtain ⟨⟨he, u, hu, hc⟩, hr⟩ := h
    exact ⟨⟨he, u, hF _ _ hu, rel_mono hF (Mu.le_refl _) _ _ hc⟩, frzE_mono hF _ _ _ r hr⟩
  | b, o, e, .map x :: r, h => by
    simp only [frzE] at h ⊢
    obtain ⟨⟨he, u, hu, hc⟩, hr⟩ := h
    exact ⟨⟨he, u, hF _ _ hu, rel_mono hF (Mu.le_refl _) _ _ hc⟩, frzE_mono hF _ _ _ r hr⟩
  | b, o, e, .rowv x y z t :: r, h => by
    simp only [frzE] at h ⊢
    obtain ⟨⟨he, u, hu, hc⟩, hr⟩ := h
    exact ⟨⟨he, u, hF _ _ hu, rel_mono hF (Mu.le_refl _) _ _ hc⟩, frzE_mono hF _ _ _ r hr⟩
  | b, o, e, .rptr x y :: r, h => by
    simp only [frzE] at h ⊢
    obtain ⟨⟨he, u, hu, hc⟩, hr⟩ := h
    exact ⟨⟨he, u, hF _ _ hu, rel_mono hF (Mu.le_refl _) _ _ hc⟩, frzE_mono hF _ _ _ r hr⟩
  | b, o, e, .nilmap :: r, h => by
    simp only [frzE] at h ⊢
    obtain ⟨⟨he, u, hu, hc⟩, hr⟩ := h
    exact ⟨⟨he, u, hF _ _ hu, rel_mono hF (Mu.le_refl _) _ _ hc⟩, frzE_mono hF _ _ _ r hr⟩
  | b, o, e, .func x y z :: r, h => by
    simp only [frzE] at h ⊢
    obtain ⟨⟨he, u, hu, hc⟩, hr⟩ := h
    exact ⟨⟨he, u, hF _ _ hu, rel_mono hF (Mu.le_refl _) _ _ hc⟩, frzE_mono hF _ _ _ r hr⟩
  | b, o, e, .nilfunc :: r, h => by
    simp only [frzE] at h ⊢
    obtain ⟨⟨he, u, hu, hc⟩, hr⟩ := h
    exact ⟨⟨he, u, hF _ _ hu, rel_mono hF (Mu.le_refl _) _ _ hc⟩, frzE_mono hF _ _ _ r hr⟩
  | b, o, e, .iface x y :: r, h => by
    simp only [frzE] at h ⊢
    obtain ⟨⟨he, u, hu, hc⟩, hr⟩ := h
    exact ⟨⟨he, u, hF _ _ hu, rel_mono hF (Mu.le_refl _) _ _ hc⟩, frzE_mono hF _ _ _ r hr⟩
  | b, o, e, .nilIface :: r, h => by
    simp only [frzE] at h ⊢
    obtain ⟨⟨he, u, hu, hc⟩, hr⟩ := h
    exact ⟨⟨he, u, hF _ _ hu, rel_mono hF (Mu.le_refl _) _ _ hc⟩, frzE_mono hF _ _ _ r hr⟩
  | b, o, e, .tuple x :: r, h => by
    simp only [frzE] at h ⊢
    obtain ⟨⟨he, u, hu, hc⟩, hr⟩ := h
    exact ⟨⟨he, u, hF _ _ hu, rel_mono hF (Mu.le_refl _) _ _ hc⟩, frzE_mono hF _ _ _ r hr⟩
end

theorem frz_iff {F : Frz} : ∀ {b o : Nat} {cs : List V}, frz F b o cs ↔ ∀ i c, cs[i]? = some c → ∃ u, F ⟨b, o + i, none⟩ = some u ∧ rel F noMu c u
  | _, _, [] => by simp [frz]
  | b, o, c :: r => by
    simp only [frz]
    rw [frz_iff]
    constructor
    · rintro ⟨hc, hr⟩ i d hi
      cases i with
      | zero => simp at hi; subst hi; simpa using hc
      | succ i => simp at hi; have := hr i d hi; rwa [Nat.add_assoc, Nat.add_comm 1 i] at this
    · intro h
      refine ⟨by simpa using h 0 c rfl, fun i d hi => ?_⟩
      have := h (i + 1) d (by simpa using hi)
      rwa [← Nat.add_assoc, Nat.add_right_comm] at this

theorem frz_append {F : Frz} {b o : Nat} {cs ds : List V} : frz F b o (cs ++ ds) ↔ frz F b o cs ∧ frz F b (o + cs.length) ds := by
  induction cs generalizing o with
  | nil => simp [frz]
  | cons c r ih =>
    simp only [List.cons_append, frz, ih, List.length_cons]
    rw [Nat.add_assoc, Nat.add_comm 1 r.length, and_assoc]

theorem frz_drop {F : Frz} {b o n : Nat} {cs : List V} (h : frz F b o cs) : frz F b (o + n) (cs.drop n) := by
  rw [frz_iff] at *
  intro i c hi
  have := h (n + i) c (by simpa using hi)
  rwa [← Nat.add_assoc] at this

theorem frz_take {F : Frz} {b o n : Nat} {cs : List V} (h : frz F b o cs) : frz F b o (cs.take n) := by
  rw [frz_iff] at *
  intro i c hi
  rw [List.getElem?_take] at hi
  split at hi
  · exact h i c hi
  · cases hi

theorem frzE_iff {F : Frz} : ∀ {b o e : Nat} {xs : List V}, frzE F b o e xs ↔ (∀ x ∈ xs, x.cellsOf.length = e) ∧ frz F b o (xs.flatMap V.cellsOf)
  | _, _, _, [] => by simp [frzE, frz]
  | b, o, e, x :: r => by
    have key : frzE F b o e (x :: r) ↔ (x.cellsOf.length = e ∧ frz F b o x.cellsOf) ∧ frzE F b (o + e) e r := by
      cases x <;> simp only [frzE, V.cellsOf, frz, List.length_cons, List.length_nil, and_true, eq_comm (a := e)]
    rw [key, frzE_iff]
    simp only [List.flatMap_cons, frz_append, List.mem_cons, forall_eq_or_imp]
    constructor
    · rintro ⟨⟨h1, h2⟩, h3, h4⟩
      exact ⟨⟨h1, h3⟩, h2, by rw [h1]; exact h4⟩
    · rintro ⟨⟨h1, h3⟩, h2, h4⟩
      exact ⟨⟨h1, h2⟩, h3, by rw [h1] at h4; exact h4⟩

theorem flatMap_cells_length {e : Nat} : ∀ {xs : List V}, (∀ x ∈ xs, x.cellsOf.length = e) → (xs.flatMap V.cellsOf).length = xs.length * e
  | [], _ => by simp
  | x :: r, h => by
    rw [List.flatMap_cons, List.length_append, flatMap_cells_length (fun y hy => h y (List.mem_cons_of_mem _ hy)), h x (List.mem_cons_self ..), List.length_cons, Nat.succ_mul, Nat.add_comm]

theorem frzE_append {F : Frz} {b o e : Nat} {xs ys : List V} : frzE F b o e (xs ++ ys) ↔ frzE F b o e xs ∧ frzE F b (o + xs.length * e) e ys := by
  simp only [frzE_iff, List.flatMap_append, frz_append, List.mem_append]
  constructor
  · rintro ⟨h, h1, h2⟩
    have hl := flatMap_cells_length (fun x hx => h x (.inl hx))
    exact ⟨⟨fun x hx => h x (.inl hx), h1⟩, fun x hx => h x (.inr hx), hl ▸ h2⟩
  · rintro ⟨⟨h1, h2⟩, h3, h4⟩
    have hl := flatMap_cells_length h1
    exact ⟨fun x hx => hx.elim (h1 x) (h3 x), h2, by rw [hl]; exact h4⟩

theorem frzE_drop {F : Frz} {b o e n : Nat} {xs : List V} (h : frzE F b o e xs) (hn : n ≤ xs.length) : frzE F b (o + n * e) e (xs.drop n) := by
  have := h
  rw [← List.take_append_drop n xs, frzE_append] at this
  have h2 := this.2
  rwa [List.length_take, Nat.min_eq_left hn] at h2

theorem frzE_take {F : Frz} {b o e n : Nat} {xs : List V} (h : frzE F b o e xs) : frzE F b o e (xs.take n) := by
  rw [← List.take_append_drop n xs, frzE_append] at h
  exact h.1

theorem frzE_get {F : Frz} {b o e i : Nat} {xs : List V} {x : V} (h : frzE F b o e xs) (hx : xs[i]? = some x) : x.cellsOf.length = e ∧ frz F b (o + i * e) x.cellsOf := by
  have hi : i < xs.length := by
    rcases Nat.lt_or_ge i xs.length with h' | h'
    · exact h'
    · rw [List.getElem?_eq_none h'] at hx; cases hx
  have h1 := frzE_drop (n := i) h (Nat.le_of_lt hi)
  have hd : xs.drop i = x :: xs.drop (i + 1) := by
    rw [List.drop_eq_getElem_cons hi]
    rw [List.getElem?_eq_getElem hi] at hx
    cases hx; rfl
  rw [hd, frzE_iff] at h1
  refine ⟨h1.1 x (List.mem_cons_self ..), ?_⟩
  have := h1.2
  rw [List.flatMap_cons, frz_append] at this
  exact this.1

theorem rels_iff {F : Frz} {μ : Mu} : ∀ {vs : List V} {us : List Value}, rels F μ vs us ↔ vs.length = us.length ∧ ∀ (i : Nat) (v : V) (u : Value), vs[i]? = some v → us[i]? = some u → rel F μ v u
  | [], us => by
    simp only [rels]
    constructor
    · rintro rfl; simp
    · rintro ⟨h, _⟩; simpa using h.symm
  | v :: r, us => by
    simp only [rels]
    constructor
    · rintro ⟨u, us', rfl, hv, hr⟩
      rw [rels_iff] at hr
      refine ⟨by simp [hr.1], fun i x y hx hy => ?_⟩
      cases i with
      | zero => simp at hx hy; subst hx hy; exact hv
      | succ i => simp at hx hy; exact hr.2 i x y hx hy
    · rintro ⟨hl, h⟩
      cases us with
      | nil => simp at hl
      | cons u us' =>
        refine ⟨u, us', rfl, h 0 v u rfl rfl, ?_⟩
        rw [rels_iff]
        exact ⟨by simpa using hl, fun i x y hx hy => h (i + 1) x y (by simpa using hx) (by simpa using hy)⟩

theorem rels_length {F : Frz} {μ : Mu} {vs : List V} {us : List Value} (h : rels F μ vs us) : vs.length = us.length := (rels_iff.1 h).1

theorem rels_append {F : Frz} {μ : Mu} {vs vs' : List V} {us us' : List Value} (h : rels F μ vs us) (h' : rels F μ vs' us') : rels F μ (vs ++ vs') (us ++ us') := by
  induction vs generalizing us with
  | nil => simp only [rels] at h; subst h; simpa using h'
  | cons v r ih =>
    simp only [rels] at h
    obtain ⟨u, us'', rfl, hv, hr⟩ := h
    exact ⟨u, us'' ++ us', rfl, hv, ih hr⟩

theorem rels_take {F : Frz} {μ : Mu} {vs : List V} {us : List Value} (n : Nat) (h : rels F μ vs us) : rels F μ (vs.take n) (us.take n) := by
  rw [rels_iff] at *
  refine ⟨by simp [h.1], fun i v u hv hu => ?_⟩
  rw [List.getElem?_take] at hv hu
  split at hv
  · rw [if_pos (by assumption)] at hu; exact h.2 i v u hv hu
  · cases hv

theorem rels_drop {F : Frz} {μ : Mu} {vs : List V} {us : List Value} (n : Nat) (h : rels F μ vs us) : rels F μ (vs.drop n) (us.drop n) := by
  rw [rels_iff] at *
  exact ⟨by simp [h.1], fun i v u hv hu => h.2 (n + i) v u (by simpa using hv) (by simpa using hu)⟩

theorem rels_get {F : Frz} {μ : Mu} {vs : List V} {us : List Value} {i : Nat} {v : V} (h : rels F μ vs us) (hv : vs[i]? = some v) : ∃ u, us[i]? = some u ∧ rel F μ v u := by
  have hl := rels_length h
  have hi : i < us.length := by
    rw [← hl]
    rcases Nat.lt_or_ge i vs.length with h' | h'
    · exact h'
    · rw [List.getElem?_eq_none h'] at hv; cases hv
  exact ⟨us[i], List.getElem?_eq_getElem hi, (rels_iff.1 h).2 i v _ hv (List.getElem?_eq_getElem hi)⟩

theorem rels_set {F : Frz} {μ : Mu} {vs : List V} {us : List Value} {v : V} {u : Value} (i : Nat) (h : rels F μ vs us) (hv : rel F μ v u) : rels F μ (vs.set i v) (us.set i u) := by
  rw [rels_iff] at *
  refine ⟨by simp [h.1], fun j x y hx hy => ?_⟩
  rw [List.getElem?_set] at hx hy
  split at hx
  · rename_i hij
    rw [if_pos hij] at hy
    split at hx
    · rw [if_pos (by rw [← h.1]; assumption)] at hy
      cases hx; cases hy; exact hv
    · cases hx
  · rename_i hij
    rw [if_neg hij] at hy
    exact h.2 j x y hx hy

theorem rel_notAgg {F : Frz} {μ : Mu} {v : V} {u : Value} (h : rel F μ v u) (hv : v ≠ .undef) (hv' : ∀ cs, v ≠ .agg cs) : ∀ c, u ≠ .agg c := by
  cases v <;> first | exact absurd rfl hv | exact absurd rfl (hv' _) | (simp only [rel] at h)
  all_goals
    first
      | (subst h; simp; done)
      | (obtain ⟨b, hk, rfl⟩ := h; simp; done)
      | (obtain ⟨b, o, rfl, hk⟩ := h; simp; done)
      | (obtain ⟨b, rfl, hk⟩ := h; simp; done)
      | (obtain ⟨⟨x, y, z, rfl⟩, hk⟩ := h; simp; done)
      | (obtain ⟨⟨x, rfl⟩, hk⟩ := h; simp; done)

theorem Value.cells_of_notAgg {u : Value} (h : ∀ c, u ≠ .agg c) : u.cells = #[u] := by
  cases u <;> first | rfl | exact absurd rfl (h _)

/-- A value's cells. -/
theorem rel_cells {F : Frz} {μ : Mu} {v : V} {u : Value} (h : rel F μ v u) (hv : v ≠ .undef) : rels F μ v.cellsOf u.cells.toList := by
  by_cases ha : ∃ cs, v = .agg cs
  · obtain ⟨cs, rfl⟩ := ha
    simp only [rel] at h
    obtain ⟨us, rfl, hc⟩ := h
    simpa [Value.cells, V.cellsOf] using hc
  · have hn := rel_notAgg h hv (fun cs hc => ha ⟨cs, hc⟩)
    rw [Value.cells_of_notAgg hn]
    have : v.cellsOf = [v] := by cases v <;> first | rfl | exact absurd ⟨_, rfl⟩ ha
    rw [this]
    exact ⟨u, [], rfl, h, rfl⟩

theorem rel_thin {F : Frz} {μ : Mu} {v : V} {u : Value} (h : rel F μ v u) : rel F μ v.thin u := by
  cases v <;> try exact h
  simp only [V.thin, rel] at h ⊢
  obtain ⟨base, cap, hu, hb, ho⟩ := h
  refine ⟨base, cap, hu, hb, ?_⟩
  rename_i own
  cases own with
  | none => exact ho
  | nn => exact ho.1
  | tight => exact Nat.le_of_eq (Eq.symm ho)
  | tok k s => exact ho.1

mutual
theorem rel_frozen {F : Frz} {μ μ' : Mu} : ∀ (v : V) (u : Value), v.frozen = true → rel F μ v u → rel F μ' v u
  | .undef, _, _, _ => by simp [rel]
  | .bool _, _, _, h => by simpa [rel] using h
  | .int .., _, _, h => by simpa [rel] using h
  | .str _, _, _, h => by simpa [rel] using h
  | .nil, _, _, h => by simpa [rel] using h
  | .ptr .., _, hf, _ => by simp [V.frozen] at hf
  | .elem cs, u, _, h => by simpa only [rel] using h
  | .slc e xs own, u, hf, h => by
    simp only [rel] at h ⊢
    obtain ⟨base, cap, hu, hb, ho⟩ := h
    refine ⟨base, cap, hu, hb, ?_⟩
    cases own with
    | none => exact ho
    | nn => simp [V.frozen] at hf
    | tight => simp [V.frozen] at hf
    | tok k s => simp [V.frozen] at hf
  | .nilslc, _, _, h => by simpa [rel] using h
  | .view .., _, hf, _ => by simp [V.frozen] at hf
  | .rowv .., _, hf, _ => by simp [V.frozen] at hf
  | .rptr .., _, hf, _ => by simp [V.frozen] at hf
  | .map _, _, hf, _ => by simp [V.frozen] at hf
  | .nilmap, _, _, h => by simpa [rel] using h
  | .func fn f c, u, hf, h => by
    simp only [rel, V.frozen, Bool.and_eq_true] at h hf ⊢
    obtain ⟨f', c', hu, h1, h2⟩ := h
    exact ⟨f', c', hu, rels_frozen f _ hf.1 h1, rels_frozen c _ hf.2 h2⟩
  | .nilfunc, _, _, h => by simpa [rel] using h
  | .iface t x, u, hf, h => by
    simp only [rel, V.frozen] at h hf ⊢
    obtain ⟨u', hu, hx⟩ := h
    exact ⟨u', hu, rel_frozen x _ hf hx⟩
  | .nilIface, _, _, h => by simpa [rel] using h
  | .agg cs, u, hf, h => by
    simp only [rel, V.frozen] at h hf ⊢
    obtain ⟨us, hu, hc⟩ := h
    exact ⟨us, hu, rels_frozen cs _ hf hc⟩
  | .tuple vs, u, hf, h => by
    simp only [rel, V.frozen] at h hf ⊢
    obtain ⟨us, hu, hc⟩ := h
    exact ⟨us, hu, rels_frozen vs _ hf hc⟩
theorem rels_frozen {F : Frz} {μ μ' : Mu} : ∀ (vs : List V) (us : List Value), V.frozens vs = true → rels F μ vs us → rels F μ' vs us
  | [], _, _, h => by simpa [rels] using h
  | v :: r, us, hf, h => by
    simp only [rels, V.frozens, Bool.and_eq_true] at h hf ⊢
    obtain ⟨u, us', hu, hv, hr⟩ := h
    exact ⟨u, us', hu, rel_frozen v _ hf.1 hv, rels_frozen r _ hf.2 hr⟩
end

/-- A cell's value is no struct and no tuple. -/
theorem rel_isCell {F : Frz} {μ : Mu} {v : V} {u : Value} (h : rel F μ v u) (hv : v.isCell = true) : (∀ c, u ≠ .agg c) ∧ (∀ c, u ≠ .tuple c) := by
  cases v <;> simp only [V.isCell, Bool.false_eq_true] at hv <;> simp only [rel] at h
  all_goals
    first
      | (subst h; simp; done)
      | (obtain ⟨b, hk, rfl⟩ := h; simp; done)
      | (obtain ⟨b, o, rfl, hk⟩ := h; simp; done)
      | (obtain ⟨b, rfl, hk⟩ := h; simp; done)
      | (obtain ⟨⟨x, y, z, rfl⟩, hk⟩ := h; simp; done)
      | (obtain ⟨⟨x, rfl⟩, hk⟩ := h; simp; done)

end Go.Ev

namespace Go.Ev
open Go

def Hd.disj : Hd → Hd → Prop
  | .blk b _, .blk b' _ => b ≠ b'
  | .blk b _, .spare b' _ r _ _ => r = 0 ∨ b ≠ b'
  | .spare b _ r _ _, .blk b' _ => r = 0 ∨ b ≠ b'
  | .spare b _ r _ _, .spare b' _ r' _ _ => r = 0 ∨ r' = 0 ∨ b ≠ b'
  | _, _ => True

theorem Hd.disj_symm {h h' : Hd} (d : h.disj h') : h'.disj h := by
  cases h <;> cases h' <;> simp only [Hd.disj] at * <;> omega

def mapRel (F : Frz) (μ : Mu) : List (V × V) → List MapEntry → Prop
  | [], es => es = []
  | (k, v) :: r, es => ∃ e es', es = e :: es' ∧ rel F noMu k e.key ∧ rel F μ v e.val ∧ mapRel F μ r es'

def objRel (F : Frz) (μ : Mu) (w : World) : Obj → Hd → Prop
  | .cells cs, .blk b none => ∃ (us : List Value) (ty : TypeId), w.heap[b]? = some (.cells us.toArray ty (0, 0)) ∧ rels F μ cs us ∧ ∀ off, F ⟨b, off, none⟩ = none
  | .map es, .blk b none => ∃ (ents : Array MapEntry) (clock : Nat), w.heap[b]? = some (.map ents clock) ∧ mapRel F μ es ents.toList
  | .tok n, .spare b pos r e n' => n' = n ∧ (r = 0 ∨ 0 < e ∧ ∃ (us : List Value) (ty : TypeId), w.heap[b]? = some (.cells us.toArray ty (0, 0)) ∧ pos + r * e ≤ us.length ∧
      ∀ off, pos ≤ off → off < pos + r * e → F ⟨b, off, none⟩ = none)
  | .row cs, .blk b (some size) => ∃ (us : List Value) (ty : TypeId), w.heap[b]? = some (.cells us.toArray ty (0, 0)) ∧ us.length = size ∧ cs.length ≤ size ∧ rels F μ cs (us.take cs.length) ∧ ∀ off, F ⟨b, off, none⟩ = none
  | .froz cs, .idle (some (b, size)) => frz F b 0 cs ∧ cs.length ≤ size
  | .dead, .idle _ => True
  | _, _ => False

structure Inv (F : Frz) (μ : Mu) (σ : Store) (w : World) : Prop where
  frozen : ∀ a u, F a = some u → a.spot = none ∧ w.cell? a = some u ∧ u.oneCell' = true
  dom1 : ∀ k o, σ.get k = some o → ∃ h, μ k = some h ∧ objRel F μ w o h
  dom2 : ∀ k h, μ k = some h → ∃ o, σ.get k = some o
  apart : ∀ k k' h h', k ≠ k' → μ k = some h → μ k' = some h' → h.disj h'

def InFoot (μ : Mu) (a : Addr) : Prop :=
  (∃ k t, μ k = some (.blk a.block t)) ∨ ∃ k p r e n, μ k = some (.spare a.block p r e n) ∧ p ≤ a.off ∧ a.off < p + r * e

/-- A block outside of what is written: as it was, but for spare places. -/
def Kept (μ : Mu) (b : Nat) (w w' : World) : Prop :=
  (∃ k t, μ k = some (.blk b t)) ∨ w'.heap[b]? = w.heap[b]? ∨
  ∃ (us us' : List Value) (ty : TypeId), w.heap[b]? = some (.cells us.toArray ty (0, 0)) ∧
    w'.heap[b]? = some (.cells us'.toArray ty (0, 0)) ∧ us'.length = us.length ∧ ∀ off, ¬ InFoot μ ⟨b, off, none⟩ → us'[off]? = us[off]?

def Born (μ : Mu) (w : World) : Hd → Prop
  | .blk b _ => w.heap.size ≤ b ∨ ∃ k t, μ k = some (.blk b t)
  | .idle _ => True
  | .spare b p r e _ => r * e = 0 ∨ w.heap.size ≤ b ∨ ∃ k p0 r0 e0 n0, μ k = some (.spare b p0 r0 e0 n0) ∧ p0 ≤ p ∧ p + r * e ≤ p0 + r0 * e0

structure Ext (μ : Mu) (F : Frz) (w : World) (μ' : Mu) (F' : Frz) (w' : World) : Prop where
  le : F.le F'
  size : w.heap.size ≤ w'.heap.size
  keep : ∀ b, b < w.heap.size → Kept μ b w w'
  os : w'.os = w.os
  out : w'.output = w.output
  fresh : ∀ a u, F' a = some u → F a = some u ∨ w.heap.size ≤ a.block ∨ InFoot μ a
  hd : ∀ k h, μ' k = some h → Born μ w h

theorem Ext.refl (μ : Mu) (F : Frz) (w : World) : Ext μ F w μ F w where
  le := F.le_refl
  size := Nat.le_refl _
  keep := fun _ _ => .inr (.inl rfl)
  os := rfl
  out := rfl
  fresh := fun _ _ h => .inl h
  hd := fun k h hk => by
    cases h with
    | blk b t => exact .inr ⟨k, t, hk⟩
    | spare b p r e n => exact .inr (.inr ⟨k, p, r, e, n, hk, Nat.le_refl _, Nat.le_refl _⟩)
    | idle => trivial

theorem Ext.foot {μ μ' : Mu} {F F' : Frz} {w w' : World} (x : Ext μ F w μ' F' w') {a : Addr} (h : InFoot μ' a) (hb : a.block < w.heap.size) : InFoot μ a := by
  rcases h with ⟨k, t, hk⟩ | ⟨k, p, r, e, n, hk, h1, h2⟩
  · rcases x.hd k _ hk with h | h
    · omega
    · exact .inl h
  · rcases x.hd k _ hk with h | h | ⟨k0, p0, r0, e0, n0, hk0, hp, hr⟩
    · omega
    · omega
    · exact .inr ⟨k0, p0, r0, e0, n0, hk0, by omega, by omega⟩

theorem Ext.trans {μ μ' μ'' : Mu} {F F' F'' : Frz} {w w' w'' : World} (x : Ext μ F w μ' F' w') (y : Ext μ' F' w' μ'' F'' w'') : Ext μ F w μ'' F'' w'' where
  le := Frz.le_trans x.le y.le
  size := Nat.le_trans x.size y.size
  keep := fun b hb => by
    have hb' := Nat.lt_of_lt_of_le hb x.size
    have h1 := x.keep b hb
    rcases h1 with h | h1
    · exact .inl h
    rcases y.keep b hb' with ⟨k, t, hk⟩ | he | ⟨us, us', ty, hw, hw', hl, ho⟩
    · rcases x.hd k _ hk with h | h
      · omega
      · exact .inl h
    · rcases h1 with h | ⟨us, us', ty, hw, hw', hl, ho⟩
      · exact .inr (.inl (he.trans h))
      · exact .inr (.inr ⟨us, us', ty, hw, he.trans hw', hl, ho⟩)
    · have ho' : ∀ off, ¬ InFoot μ ⟨b, off, none⟩ → us'[off]? = us[off]? := fun off hoff => ho off fun hf => hoff (x.foot hf hb)
      rcases h1 with h | ⟨us1, us1', ty1, hw1, hw1', hl1, ho1⟩
      · exact .inr (.inr ⟨us, us', ty, h ▸ hw, hw', hl, ho'⟩)
      · rw [hw1'] at hw
        injection hw with hw
        injection hw with e1' e2' _
        have hus : us1' = us := by simpa using e1'
        subst hus e2'
        exact .inr (.inr ⟨us1, us', ty1, hw1, hw', hl.trans hl1, fun off hoff => (ho' off hoff).trans (ho1 off hoff)⟩)
  os := y.os.trans x.os
  out := y.out.trans x.out
  fresh := fun a u h => by
    rcases y.fresh a u h with h | h | h
    · exact x.fresh a u h
    · exact .inr (.inl (Nat.le_trans x.size h))
    · rcases Nat.lt_or_ge a.block w.heap.size with hb | hb
      · exact .inr (.inr (x.foot h hb))
      · exact .inr (.inl hb)
  hd := fun k h hk => by
    have hy := y.hd k h hk
    cases h with
    | blk b t =>
      rcases hy with h | ⟨k', t', h⟩
      · exact .inl (Nat.le_trans x.size h)
      · have := x.hd k' _ h; exact this
    | idle => trivial
    | spare b p r e n =>
      rcases hy with h | h | ⟨k0, p0, r0, e0, n0, hk0, hp, hr⟩
      · exact .inl h
      · exact .inr (.inl (Nat.le_trans x.size h))
      · rcases x.hd k0 _ hk0 with h | h | ⟨k1, p1, r1, e1, n1, hk1, hp1, hr1⟩
        · exact .inl (by omega)
        · exact .inr (.inl h)
        · exact .inr (.inr ⟨k1, p1, r1, e1, n1, hk1, by omega, by omega⟩)

/-! ### the store as a list -/
theorem Store.get_put (s : Store) (k k' : Key) (o : Obj) : (s.put k o).get k' = if k = k' then some o else s.get k' := by
  induction s with
  | nil => simp [Store.put, Store.get]
  | cons p r ih =>
    obtain ⟨k1, o1⟩ := p
    simp only [Store.put]
    split
    · rename_i h
      subst h
      simp only [Store.get]
      split <;> rfl
    · rename_i h
      simp only [Store.get, ih]
      by_cases h1 : k1 = k'
      · subst h1
        rw [if_pos rfl, if_neg (fun h' => h h'.symm), if_pos rfl]
      · rw [if_neg h1, if_neg h1]

theorem mapRel_mono {F F' : Frz} (hF : F.le F') {μ μ' : Mu} (hm : μ.le μ') : ∀ {es : List (V × V)} {l : List MapEntry}, mapRel F μ es l → mapRel F' μ' es l
  | [], _, h => h
  | (k, v) :: r, _, h => by
    obtain ⟨e, es', hl, h1, h2, hr⟩ := h
    exact ⟨e, es', hl, rel_mono hF (Mu.le_refl _) _ _ h1, rel_mono hF hm _ _ h2, mapRel_mono hF hm hr⟩

/-- What an object is, where its block is as it was and its cells are no part of what stays. -/
theorem objRel_mono {F F' : Frz} (hF : F.le F') {μ μ' : Mu} (hm : μ.le μ') {w w' : World} {o : Obj} {h : Hd} (hr : objRel F μ w o h)
    (hb : ∀ b, ((∃ t, h = .blk b t) ∨ ∃ p r e n, h = .spare b p r e n ∧ r ≠ 0) → w'.heap[b]? = w.heap[b]?)
    (hf : ∀ b off u, ((∃ t, h = .blk b t) ∨ ∃ p r e n, h = .spare b p r e n ∧ p ≤ off ∧ off < p + r * e) → F' ⟨b, off, none⟩ = some u → F ⟨b, off, none⟩ = some u) : objRel F' μ' w' o h := by
  cases o with
  | cells cs =>
    cases h with
    | blk b t =>
      cases t with
      | some s => exact hr.elim
      | none =>
      obtain ⟨us, ty, hw, hc, hn⟩ := hr
      refine ⟨us, ty, (hb b (.inl ⟨_, rfl⟩)).trans hw, rels_mono hF hm _ _ hc, fun off => ?_⟩
      cases hq : F' ⟨b, off, none⟩ with
      | none => rfl
      | some u => have := hf b off u (.inl ⟨_, rfl⟩) hq; rw [hn] at this; cases this
    | spare => exact hr.elim
    | idle => exact hr.elim
  | map es =>
    cases h with
    | blk b t =>
      cases t with
      | some s => exact hr.elim
      | none =>
      obtain ⟨ents, clock, hw, hc⟩ := hr
      exact ⟨ents, clock, (hb b (.inl ⟨_, rfl⟩)).trans hw, mapRel_mono hF hm hc⟩
    | spare => exact hr.elim
    | idle => exact hr.elim
  | row cs =>
    cases h with
    | blk b t =>
      cases t with
      | none => exact hr.elim
      | some s =>
      obtain ⟨us, ty, hw, h1, h2, hc, hn⟩ := hr
      refine ⟨us, ty, (hb b (.inl ⟨_, rfl⟩)).trans hw, h1, h2, rels_mono hF hm _ _ hc, fun off => ?_⟩
      cases hq : F' ⟨b, off, none⟩ with
      | none => rfl
      | some u => have := hf b off u (.inl ⟨_, rfl⟩) hq; rw [hn] at this; cases this
    | spare => exact hr.elim
    | idle => exact hr.elim
  | froz cs =>
    cases h with
    | blk b t => cases t <;> exact hr.elim
    | spare => exact hr.elim
    | idle o =>
      cases o with
      | none => exact hr.elim
      | some q => exact ⟨frz_mono hF _ _ _ hr.1, hr.2⟩
  | dead =>
    cases h with
    | blk b t => cases t <;> exact hr.elim
    | spare => exact hr.elim
    | idle o => trivial
  | tok n =>
    cases h with
    | blk b t => cases t <;> exact hr.elim
    | idle => exact hr.elim
    | spare b p r e n' =>
      refine ⟨hr.1, ?_⟩
      by_cases h0 : r = 0
      · exact .inl h0
      rcases hr.2 with h | ⟨he, us, ty, hw, hl, hn⟩
      · exact .inl h
      · refine .inr ⟨he, us, ty, (hb b (.inr ⟨p, r, e, n', rfl, h0⟩)).trans hw, hl, fun off h1 h2 => ?_⟩
        cases hq : F' ⟨b, off, none⟩ with
        | none => rfl
        | some u => have := hf b off u (.inr ⟨p, r, e, n', rfl, h1, h2⟩) hq; rw [hn off h1 h2] at this; cases this

theorem objRel_lt {F : Frz} {μ : Mu} {w : World} {o : Obj} {h : Hd} (hr : objRel F μ w o h) (b : Nat) (hb : (∃ t, h = .blk b t) ∨ ∃ p r e n, h = .spare b p r e n ∧ r ≠ 0) : b < w.heap.size := by
  have lt {b : Nat} {o : Go.Obj} (h : w.heap[b]? = some o) : b < w.heap.size := by
    rcases Nat.lt_or_ge b w.heap.size with h' | h'
    · exact h'
    · rw [Array.getElem?_eq_none h'] at h; cases h
  cases o with
  | cells cs =>
    cases h with
    | blk b' t =>
      cases t with
      | some s => exact hr.elim
      | none => obtain ⟨us, ty, hw, _⟩ := hr; rcases hb with ⟨_, h⟩ | ⟨_, _, _, _, h, _⟩ <;> cases h; exact lt hw
    | spare => exact hr.elim
    | idle => exact hr.elim
  | map es =>
    cases h with
    | blk b' t =>
      cases t with
      | some s => exact hr.elim
      | none => obtain ⟨us, ty, hw, _⟩ := hr; rcases hb with ⟨_, h⟩ | ⟨_, _, _, _, h, _⟩ <;> cases h; exact lt hw
    | spare => exact hr.elim
    | idle => exact hr.elim
  | row cs =>
    cases h with
    | blk b' t =>
      cases t with
      | none => exact hr.elim
      | some s => obtain ⟨us, ty, hw, _⟩ := hr; rcases hb with ⟨_, h⟩ | ⟨_, _, _, _, h, _⟩ <;> cases h; exact lt hw
    | spare => exact hr.elim
    | idle => exact hr.elim
  | froz cs =>
    cases h with
    | blk b t => cases t <;> exact hr.elim
    | spare => exact hr.elim
    | idle o => rcases hb with ⟨_, h⟩ | ⟨_, _, _, _, h, _⟩ <;> cases h
  | dead =>
    cases h with
    | blk b t => cases t <;> exact hr.elim
    | spare => exact hr.elim
    | idle o => rcases hb with ⟨_, h⟩ | ⟨_, _, _, _, h, _⟩ <;> cases h
  | tok n =>
    cases h with
    | blk b t => cases t <;> exact hr.elim
    | idle => exact hr.elim
    | spare b' p r e n' =>
      rcases hb with ⟨_, h⟩ | ⟨_, _, _, _, h, h0⟩ <;> cases h
      rcases hr.2 with h | ⟨_, us, ty, hw, _⟩
      · exact absurd h h0
      · exact lt hw

/-- The heap only grows, and nothing more is held to stay but in new blocks. -/
theorem Inv.grow {F F' : Frz} {μ : Mu} {σ : Store} {w w' : World} (h : Inv F μ σ w) (hF : F.le F')
    (hw : ∀ b, b < w.heap.size → w'.heap[b]? = w.heap[b]?) (hf : ∀ a u, F' a = some u → F a = some u ∨ (w.heap.size ≤ a.block ∧ a.spot = none ∧ w'.cell? a = some u ∧ u.oneCell' = true)) : Inv F' μ σ w' where
  frozen := fun a u ha => by
    rcases hf a u ha with h' | h'
    · obtain ⟨h1, h2, h3⟩ := h.frozen a u h'
      refine ⟨h1, ?_, h3⟩
      have hlt : a.block < w.heap.size := by
        rcases Nat.lt_or_ge a.block w.heap.size with hl | hl
        · exact hl
        · simp [World.cell?, Array.getElem?_eq_none hl] at h2
      rw [← h2]
      simp only [World.cell?, hw a.block hlt]
    · exact h'.2
  dom1 := fun k o hk => by
    obtain ⟨hd, h1, h2⟩ := h.dom1 k o hk
    refine ⟨hd, h1, objRel_mono hF (Mu.le_refl _) h2 (fun b hb => hw b (objRel_lt h2 b hb)) (fun b off u hb hq => ?_)⟩
    rcases hf _ _ hq with h' | ⟨h', _⟩
    · exact h'
    · have := objRel_lt h2 b (by
        rcases hb with hb | ⟨p, r, e, n, hb, h3, h4⟩
        · exact .inl hb
        · exact .inr ⟨p, r, e, n, hb, fun h0 => by subst h0; omega⟩)
      simp at h'
      omega
  dom2 := h.dom2
  apart := h.apart

theorem Ext.grow {F F' : Frz} {μ : Mu} {w w' : World} (hF : F.le F') (hs : w.heap.size ≤ w'.heap.size)
    (hw : ∀ b, b < w.heap.size → w'.heap[b]? = w.heap[b]?) (hf : ∀ a u, F' a = some u → F a = some u ∨ w.heap.size ≤ a.block) (ho : w'.os = w.os) (ho' : w'.output = w.output) : Ext μ F w μ F' w' where
  le := hF
  size := hs
  keep := fun b hb => .inr (.inl (hw b hb))
  os := ho
  out := ho'
  fresh := fun a u h => (hf a u h).imp id .inl
  hd := (Ext.refl μ F w).hd

end Go.Ev

namespace Go.Ev
open Go

/-- A package-level variable that is read: the cells from its head on. -/
abbrev Globals := List (Nat × List V)
def Globals.get : Globals → Nat → Option (List V)
  | [], _ => none
  | (h, cs) :: r, g => if h = g then some cs else Globals.get r g

def ofValue : Value → Option V
  | .bool b => some (.bool b)
  | .int k n => some (.int k n)
  | .string s => some (.str s)
  | .pointer none => some .nil
  | .slice none 0 0 => some .nilslc
  | .map none => some .nilmap
  | .nilFunc => some .nilfunc
  | .nilIface => some .nilIface
  | .func fn ⟨[]⟩ ⟨[]⟩ => some (.func fn [] [])
  | .tuple ⟨[]⟩ => some (.tuple [])
  | _ => none

def prepOpd (G : Globals) : Operand → Option AOpd
  | .tmp t => some (.t t)
  | .const v => (ofValue v).map .c
  | .global g => (G.get g).map fun cs => .c (.elem cs)
  | .func f => some (.c (.func (.func f) [] []))

def prepOpds (G : Globals) : List Operand → Option (List AOpd)
  | [] => some []
  | x :: r => match prepOpd G x, prepOpds G r with
    | some x, some r => some (x :: r)
    | _, _ => none

def elemT (P : Program) (t : TypeId) : Option TypeId := match P.underlying t with | some (.slice e) => some e | _ => none
/-- The cells of a type that is known. -/
def sizeT (P : Program) (t : TypeId) : Option Nat := if (P.underlying t).isSome then (P.info? t).map (·.size) else none
def bytesT (P : Program) (t : TypeId) : Option Nat := (P.info? t).map (·.bytes)
def aggT (P : Program) (t : TypeId) : Bool := match P.underlying t with | some (.struct _) | some (.array _ _) => true | _ => false

/-- An empty slice at a slice's type. -/
def coerce (P : Program) (t : TypeId) (x : AOpd) : AOpd :=
  match x with
  | .c .nilslc => match (elemT P t).bind (sizeT P) with
    | some n => .c (.slc n [] .tight)
    | none => .c .nilslc
  | x => x

def coerces (P : Program) : List TypeId → List AOpd → List AOpd
  | t :: ts, x :: xs => coerce P t x :: coerces P ts xs
  | _, xs => xs

/-- The zero of a cell, by the value that it is. -/
def zeroCell (P : Program) (t : TypeId) (v : Value) : Option V :=
  match v with
  | .slice none 0 0 => match (elemT P t).bind (sizeT P) with
    | some n => some (.slc n [] .tight)
    | none => none
  | v => match ofValue v with
    | some x => if x.isCell then some x else none
    | none => none

def typesOf (f : TypeId → Option (List TypeId)) : List Field → Option (List TypeId)
  | [] => some []
  | x :: r => match f x.type, typesOf f r with
    | some a, some b => some (a ++ b)
    | _, _ => none

/-- The types of a type's cells. -/
def cellTypes (P : Program) : Nat → TypeId → Option (List TypeId)
  | 0, _ => none
  | n + 1, t => match P.underlying t with
    | some (.array len e) => (cellTypes P n e).map fun l => (List.replicate len l).flatten
    | some (.struct fs) => typesOf (cellTypes P n) fs.toList
    | some _ => some [t]
    | none => none

def zeroCells (P : Program) : List TypeId → List Value → Option (List V)
  | [], [] => some []
  | t :: ts, v :: vs => match zeroCell P t v, zeroCells P ts vs with
    | some x, some r => some (x :: r)
    | _, _ => none
  | _, _ => none

/-- The cells of a type's zero value. -/
def zeroT (P : Program) (t : TypeId) : Option (List V) :=
  match P.info? t, cellTypes P 20 t with
  | some i, some ts => match i.zero with
    | some v => zeroCells P ts v.cells.toList
    | none => none
  | _, _ => none

/-- The cells of a type's zero value. -/
def zeroSize (P : Program) (t : TypeId) : Option Nat := (P.info? t).bind fun i => i.zero.map fun v => v.cells.size

def isAggV : Value → Bool
  | .agg _ => true
  | _ => false

/-- Whether a type's zero value is a struct or an array. -/
def zeroAgg (P : Program) (t : TypeId) : Option Bool := (P.info? t).bind fun i => i.zero.map isAggV

def fieldT (P : Program) (t : TypeId) (f : Nat) : Option Field :=
  match P.underlying t with
  | some (.struct fs) => fs[f]?
  | _ => none

def prepFields (P : Program) (G : Globals) (fs : Array Field) : List (Nat × Operand) → Option (List (Nat × Nat × AOpd))
  | [] => some []
  | (i, x) :: r => match fs[i]?, prepOpd G x, prepFields P G fs r with
    | some f, some x, some r => match sizeT P f.type with
      | some n => some ((f.offset, n, coerce P f.type x) :: r)
      | none => none
    | _, _, _ => none

def prepElems (P : Program) (G : Globals) (e size : Nat) : List (Nat × Operand) → Option (List (Nat × Nat × AOpd))
  | [] => some []
  | (i, x) :: r => match prepOpd G x, prepElems P G e size r with
    | some x, some r => some ((i * size, size, coerce P e x) :: r)
    | _, _ => none

/-- A slice's literal: each element, one behind the other. -/
def prepRow (P : Program) (G : Globals) (e : TypeId) : Nat → List (Nat × Operand) → Option (List AOpd)
  | _, [] => some []
  | k, (i, x) :: r => if i = k then (match prepOpd G x, prepRow P G e (k + 1) r with
    | some x, some r => some (coerce P e x :: r)
    | _, _ => none) else none

/-- Two of one type are held against each other cell by cell. -/
def flatEq (P : Program) : Nat → TypeId → Bool
  | 0, _ => false
  | n + 1, t => match P.underlying t with
    | some (.int _) => sizeT P t == some 1
    | some (.array len e) => flatEq P n e && (sizeT P t == (sizeT P e).map fun m => len * m)
    | some (.struct fs) => !P.stoodInHeld t && fs.toList.all (fun f => f.name != "_" && flatEq P n f.type) && contig 0 fs.toList && (sizeT P t == some ((fs.toList.map fun f => (sizeT P f.type).getD 0).sum))
    | _ => false
where
  contig (o : Nat) : List Field → Bool
    | [] => true
    | f :: r => f.offset == o && contig (o + (sizeT P f.type).getD 0) r

/-- How a map's keys are held against each other. -/
def keyForm (P : Program) (kt : TypeId) : Option (Option Nat) :=
  if flatEq P 20 kt then (if aggT P kt then (sizeT P kt).map some else some none) else none

def optOpd (G : Globals) : Option Operand → Option (Option AOpd)
  | none => some none
  | some x => (prepOpd G x).map some

/-- Setting a variable; an empty slice that will be appended to has a name of its own. -/
def accOp (P : Program) (acc : List Nat) (dst : Option Nat) (t : TypeId) (y : AOpd) : AOp :=
  match y, dst, (elemT P t).bind (sizeT P) with
  | .c .nilslc, some d, some n => if acc.contains d then .nilrow n else .mv (coerce P t (.c .nilslc))
  | y, _, _ => .mv (coerce P t y)

/-- A slice's literal: as what stays; or as a row that may be written; or with rows in it that are written no more. -/
def rowOp (acc : List Nat) (dst : Option Nat) (n : Nat) (agg : Bool) (l : List AOpd) : AOp :=
  match dst with
  | some d => if acc.contains d then .buildRow n l else if acc.contains (d + 1000000) then .buildSliceF n agg l else .buildSlice n agg l
  | none => .buildSlice n agg l

def inAcc (acc : List Nat) (dst : Option Nat) : Bool := match dst with | some d => acc.contains d | none => false

def prepOp (P : Program) (G : Globals) (acc : List Nat) (o : Oper) : Option AOp :=
  match o.op with
  | .move x => (prepOpd G x).map fun x => .mv (coerce P o.type x)
  | .assign x => (prepOpd G x).map fun y => accOp P acc o.dst o.type y
  | .pick c a b => match prepOpd G c, prepOpd G a, prepOpd G b with
    | some c, some a, some b => some (.pick c (coerce P o.type a) (coerce P o.type b))
    | _, _, _ => none
  | .alloc t => (zeroT P t).map .alloc
  | .box t x => match sizeT P t, prepOpd G x with
    | some n, some x => some (.box n (coerce P t x))
    | _, _ => none
  | .build t parts => match P.underlying t, zeroT P t with
    | some (.struct fs), some z => if fs.toList.all (fun f => (sizeT P f.type).isSome) then (prepFields P G fs parts.toList).map fun l => .build z l else none
    | some (.array _ e), some z => match sizeT P e with
      | some n => (prepElems P G e n parts.toList).map fun l => .build z l
      | none => none
    | _, _ => none
  | .buildSlice t len parts => match elemT P t with
    | some e => match sizeT P e with
      | some n => if parts.size = len ∧ n ≠ 0 ∧ len * n ≤ 16777216 ∧ (zeroSize P e).isSome = true then (prepRow P G e 0 parts.toList).map fun l => rowOp acc o.dst n (aggT P e) l else none
      | none => none
    | none => none
  | .load t a => match sizeT P t, prepOpd G a with
    | some n, some a => if n ≠ 0 ∧ (aggT P t = false → n = 1) then some (.load (aggT P t) n a) else none
    | _, _ => none
  | .store t a x => match sizeT P t, prepOpd G a, prepOpd G x with
    | some n, some a, some x => some (.store n a (coerce P t x))
    | _, _, _ => none
  | .nilCheck x => (prepOpd G x).map .nilCheck
  | .binOp op t x y _ => match prepOpd G x, prepOpd G y with
    | some x, some y =>
      if aggT P t then
        if flatEq P 20 t && !P.eqGuardType P.depth t then
          match op, sizeT P t with
          | .eql, some n => some (.eqAgg n false x y)
          | .neq, some n => some (.eqAgg n true x y)
          | _, _ => none
        else none
      else match P.underlying t with
        | some .bool => some (.bin .bool op x y)
        | some (.int _) | some .string => some (.bin .num op x y)
        | some (.pointer _) => some (.bin .ptr op x y)
        | some (.slice _) => some (.bin .slc op x y)
        | some (.map _ _) => some (.bin .map op x y)
        | some (.func _ _ _) => some (.bin .func op x y)
        | _ => none
    | _, _ => none
  | .unOp op _ x => (prepOpd G x).map fun x => .un op x
  | .convert s d x => match prepOpd G x, P.underlying s, P.underlying d with
    | some x, some (.int _), some (.int k) => some (.convInt k x)
    | some x, some .string, some .string => some (.convSame x)
    | some x, some .string, some (.slice e) => match P.underlying e, sizeT P e with
      | some (.int .u8), some 1 => some (.bytesOf x)
      | _, _ => none
    | some x, some (.slice e), some .string => match P.underlying e with
      | some (.int .u8) => some (.stringOf x)
      | _ => none
    | _, _, _ => none
  | .sliceToArrayPointer t x => match P.underlying t, prepOpd G x with
    | some (.array n _), some x => some (.arrOf n x)
    | _, _ => none
  | .makeFunc fn first captured => match prepOpds G first.toList, prepOpds G captured.toList with
    | some a, some b => some (.func fn a b)
    | _, _ => none
  | .makeMap t none => match P.underlying t with
    | some (.map _ _) => some .makeMap
    | _ => none
  | .makeSlice t l c => match elemT P t with
    | some e => match sizeT P e, bytesT P e, zeroT P e, prepOpd G l, prepOpd G c with
      | some n, some b, some z, some l, some c =>
        if n ≠ 0 ∧ z.length = n ∧ (aggT P e = false → n = 1) then
          match o.dst.any acc.contains, n, b, z with
          | true, 1, 1, [.int k v] => some (.makeRow (.int k v) l c)
          | _, _, _, _ => some (.makeSlice n b (aggT P e) (V.mk (aggT P e) z) l c)
        else none
      | _, _, _, _, _ => none
    | none => none
  | .slice t x lo hi mx => match prepOpd G x, optOpd G lo, optOpd G hi, optOpd G mx with
    | some x, some lo, some hi, some mx => match P.underlying t with
      | some (.slice e) => match sizeT P e with
        | some n => if n ≠ 0 then some (.sliceS n x lo hi mx) else none
        | none => none
      | some (.array n e) => match sizeT P e with
        | some m => if m ≠ 0 then some (.sliceA n m x lo hi mx) else none
        | none => none
      | some .string => match mx with
        | none => some (.sliceT x lo hi)
        | _ => none
      | _ => none
    | _, _, _, _ => none
  | .fieldAddr t x f => match fieldT P t f, prepOpd G x with
    | some fd, some x => match sizeT P fd.type with
      | some n => if n ≠ 0 then some (.fieldAddr fd.offset x) else none
      | none => none
    | _, _ => none
  | .field t x f => match fieldT P t f, prepOpd G x with
    | some fd, some x => match sizeT P fd.type with
      | some n => if n ≠ 0 ∧ (aggT P fd.type = false → n = 1) then some (.field (aggT P fd.type) fd.offset n x) else none
      | none => none
    | _, _ => none
  | .indexAddr t x i => match prepOpd G x, prepOpd G i, P.underlying t with
    | some x, some i, some (.slice e) => match sizeT P e with
      | some n => if n ≠ 0 then some (.indexS n x i) else none
      | none => none
    | some x, some i, some (.array len e) => match sizeT P e with
      | some n => if n ≠ 0 then some (.indexA len n x i) else none
      | none => none
    | _, _, _ => none
  | .index t x i => match prepOpd G x, prepOpd G i, P.underlying t with
    | some x, some i, some .string => some (.indexT x i)
    | _, _, _ => none
  | .lookup t m k ok => match P.underlying t with
    | some (.map kt vt) => match keyForm P kt, zeroT P vt, sizeT P vt, prepOpd G m, prepOpd G k with
      | some kf, some z, some n, some m, some k => if zeroAgg P vt = some (aggT P vt) then some (.lookup kf (V.mk (aggT P vt) z) m k ok) else none
      | _, _, _, _, _ => none
    | _ => none
  | .mapUpdate t m k v => match P.underlying t with
    | some (.map kt vt) => match keyForm P kt, prepOpd G m, prepOpd G k, prepOpd G v with
      | some kf, some m, some k, some v => some (.mapSet kf m k (coerce P vt v))
      | _, _, _, _ => none
    | _ => none
  | .extract x i => (prepOpd G x).map fun x => .extract x i
  | .call c => match prepOpds G c.args.toList with
    | some args => match c.callee with
      | .value f => match prepOpd G f with
        | some (.c (.func (.func g) [] [])) => if inAcc acc o.dst then some (.callR g (coerces P c.argTypes.toList args)) else some (.call g (coerces P c.argTypes.toList args))
        | some f => some (.callv f (coerces P c.argTypes.toList args))
        | none => none
      | .builtin b => match b, args, c.argTypes.toList with
        | .len, [x], [t] => match P.underlying t with
          | some (.array n _) => some (.lenA n)
          | some .string => some (.lenT x)
          | some (.slice _) => some (.lenS x)
          | some (.map _ _) => some (.lenM x)
          | _ => none
        | .cap, [x], [t] => match P.underlying t with
          | some (.slice _) => some (.cap x)
          | _ => none
        | .append, [s, x], [t, t'] => match elemT P t with
          | some e => match sizeT P e, bytesT P e, P.underlying t' with
            | some n, some b, some (.slice _) => if n ≠ 0 ∧ zeroSize P e = some n then (if inAcc acc o.dst then some (.appendR n b (coerce P t s) (coerce P t' x)) else some (.append n b (coerce P t s) (coerce P t' x))) else none
            | some n, some b, some .string => if n ≠ 0 ∧ zeroSize P e = some n then (if inAcc acc o.dst then some (.appendR n b (coerce P t s) x) else some (.append n b (coerce P t s) x)) else none
            | some 1, some 1, some (.int .i64) => match P.underlying e, zeroT P e with
              | some (.int .u8), some [.int .u8 z] => if z = 0 ∧ zeroSize P e = some 1 then some (.appendZ (coerce P t s) x) else none
              | _, _ => none
            | _, _, _ => none
          | none => none
        | .copy, [d, x], [t, _] => match elemT P t with
          | some e => match sizeT P e with
            | some n => if n ≠ 0 then some (.copy n d x) else none
            | none => none
          | none => none
        | .delete, [m, k], [t, _] => match P.underlying t with
          | some (.map kt _) => (keyForm P kt).map fun kf => .delete kf m k
          | _ => none
        | .clear, [m], [t] => match P.underlying t with
          | some (.map _ _) => some (.clearMap m)
          | some (.slice e) => match sizeT P e, zeroT P e with
            | some n, some z => if n ≠ 0 ∧ z.length = n then some (.clearRow z n m) else none
            | _, _ => none
          | _ => none
        | .min, x :: r, _ => some (.min x r)
        | .max, x :: r, _ => some (.max x r)
        | _, _, _ => none
      | .invoke .. => none
    | none => none
  | _ => none

def prepOper (P : Program) (G : Globals) (acc : List Nat) (ops : Array Oper) (o : Oper) : Option AOper :=
  match prepOp P G acc o with
  | none => none
  | some op => match o.guard with
    | none => some ⟨o.dst, op, none⟩
    | some (j, want) => match (ops[j]?).bind (·.dst) with
      | some g => some ⟨o.dst, op, some (g, want)⟩
      | none => none

def prepOpers (P : Program) (G : Globals) (acc : List Nat) (ops : Array Oper) : List Oper → Option (List AOper)
  | [] => some []
  | o :: r => match prepOper P G acc ops o, prepOpers P G acc ops r with
    | some o, some r => some (o :: r)
    | _, _ => none

/-- A row of bytes that is built, and marked behind that ('[]byte' of a constant text): the two operations. -/
def litOper (P : Program) (G : Globals) (acc : List Nat) (o1 o2 : Oper) : Option (List AOper) :=
  match o1.op, o1.dst, o1.guard, o2.op, o2.guard with
  | .buildSlice t _ _, some j, none, .convert s d (.tmp i), none =>
    if i = j ∧ s = d ∧ t = s then
      match elemT P t with
      | some e => match P.underlying e, prepOp P G acc o1 with
        | some (.int .u8), some (.buildSlice n agg l) => some [⟨some j, .mv (.c .undef), none⟩, ⟨o2.dst, .buildSlice n agg l, none⟩]
        | _, _ => none
      | none => none
    else none
  | _, _, _, _, _ => none

/-- The operations of a region in the order of the text. -/
def prepSeq (P : Program) (G : Globals) (acc : List Nat) (ops : Array Oper) : List Oper → Option (List AOper)
  | [] => some []
  | [o] => match prepOper P G acc ops o with
    | some o => some [o]
    | none => none
  | o1 :: o2 :: r => match litOper P G acc o1 o2 with
    | some l => match prepSeq P G acc ops r with
      | some r => some (l ++ r)
      | none => none
    | none => match prepOper P G acc ops o1, prepSeq P G acc ops (o2 :: r) with
      | some o, some r => some (o :: r)
      | _, _ => none

/-- For each operation, which ones lie ahead of it, by the edges, as bits. -/
def ahead (ops : Array Oper) : List Nat :=
  (ops.foldl (init := #[]) fun (acc : Array Nat) o =>
    acc.push (o.after.foldl (fun s e => if Region.binds .any e then s ||| 2 ^ e.on ||| acc.getD e.on 0 else s) 0)).toList

/-- For each operation, the earlier ones that it is in no order with, as bits. -/
def freeBits (ops : Array Oper) : List Nat :=
  let a := ahead ops
  (List.range ops.size).map fun j => Nat.xor (2 ^ j - 1) (Nat.land (a.getD j 0) (2 ^ j - 1))

/-- What a loop keeps at its head: by the first region in it. -/
structure Hints where
  acc : List Nat
  loops : List (Nat × List Nat × List Nat)

def firstRegion : Code → Option Nat
  | .region id _ _ => some id
  | .seq a b => match firstRegion a with | some i => some i | none => firstRegion b
  | .cond _ a b => match firstRegion a with | some i => some i | none => firstRegion b
  | .block _ a => firstRegion a
  | .loop a => firstRegion a
  | _ => none

def Hints.loop (h : Hints) (b : Code) : List Nat × List Nat :=
  match firstRegion b with
  | some i => match h.loops.find? (·.1 == i) with
    | some (_, x) => x
    | none => ([], [])
  | none => ([], [])

/-- The names that are turned at a loop's head. -/
def Hints.ren (h : Hints) (b : Code) : List (Nat × Nat) :=
  match firstRegion b with
  | some i => match h.loops.find? (·.1 == i + 1000000) with
    | some (_, x, y) => x.zip y
    | none => []
  | none => []

def prep (P : Program) (G : Globals) (h : Hints) : Code → Option ACode
  | .skip => some .skip
  | .region _ ops draw =>
    if draw then
      match prepOpers P G h.acc ops ops.toList with
      | some l => some (.drawn l (freeBits ops))
      | none => none
    else
      match prepSeq P G h.acc ops ops.toList with
      | some l => some (.region l)
      | none => none
  | .seq a b => match prep P G h a, prep P G h b with
    | some a, some b => some (.seq a b)
    | _, _ => none
  | .cond c a b => match prepOpd G c, prep P G h a, prep P G h b with
    | some c, some a, some b => some (.cond c a b)
    | _, _, _ => none
  | .block id b => (prep P G h b).map (.block id)
  | .loop b => (prep P G h b).map fun b' => match h.ren b with
    | [] => .loop (h.loop b).1 (h.loop b).2 b'
    | l => .loopR (h.loop b).1 (h.loop b).2 l b'
  | .exit id => some (.exit id)
  | .ret => some .ret
  | _ => none

def prepRes (P : Program) : List ResultVar → Option (List ARes)
  | [] => some []
  | .tmp t :: r => (prepRes P r).map (.tmp t :: ·)
  | .cell a t :: r => match sizeT P t, prepRes P r with
    | some n, some r => some (.cell a (aggT P t) n :: r)
    | _, _ => none

def prepFn (P : Program) (G : Globals) (h : Hints) (keep : Bool) (fn : Func) : Option AFn :=
  match fn.body with
  | some c => match prep P G h c, prepRes P fn.results.toList with
    | some c, some r => some ⟨fn.ntmps, fn.params.size + fn.nfree, r, c, keep⟩
    | _, _ => none
  | none => none

end Go.Ev
