/-
  An evaluator of the program's operations on plain values ('V'), without memory addresses.
  This text holds definitions alone.
-/
import Derived.Orders
set_option linter.unusedVariables false
set_option linter.unusedSimpArgs false
namespace Go.Ev
open Go

/-- The name of an object that may be written: one that came in, or one that this call made. -/
inductive Key where
  | arg (i : Nat)
  | loc (s j : Nat)
  deriving DecidableEq

/-- What is known of the spare places behind a slice. -/
inductive Own where
  | none
  /-- not nil -/
  | nn
  | tight
  | tok (k : Key) (start : Nat)
  deriving DecidableEq

inductive V where
  | undef
  | bool (b : Bool)
  | int (k : IntKind) (n : Int)
  | str (s : ByteArray)
  | nil
  | ptr (k : Key) (off : Nat)
  | elem (cs : List V)
  | slc (esz : Nat) (xs : List V) (own : Own)
  | nilslc
  | view (k : Key) (esz off len cap : Nat)
  | map (k : Key)
  | nilmap
  | func (fn : Fn) (first captured : List V)
  | nilfunc
  | iface (t : TypeId) (v : V)
  | nilIface
  | agg (cs : List V)
  | tuple (vs : List V)
  deriving Inhabited

/-- An object that may be written. 'tok n': the spare places behind a slice of n elements. -/
inductive Obj where
  | cells (cs : List V)
  | map (es : List (V × V))
  | tok (n : Nat)
  deriving Inhabited

abbrev Store := List (Key × Obj)

def Store.get : Store → Key → Option Obj
  | [], _ => none
  | (k', o) :: r, k => if k' = k then some o else Store.get r k

def Store.put : Store → Key → Obj → Store
  | [], k, o => [(k, o)]
  | (k', o') :: r, k, o => if k' = k then (k, o) :: r else (k', o') :: Store.put r k o

def Store.puts (s : Store) : List (Key × Obj) → Store
  | [] => s
  | (k, o) :: r => Store.puts (s.put k o) r

/-- What the temporaries hold: the latest first. -/
abbrev Tm := List (Nat × V)

def Tm.at : Tm → Nat → V
  | [], _ => .undef
  | (j, v) :: r, i => match Nat.beq j i with
    | true => v
    | false => Tm.at r i

theorem Tm.at_cons (j : Nat) (v : V) (r : Tm) (i : Nat) : Tm.at ((j, v) :: r) i = if j = i then v else Tm.at r i := by
  simp only [Tm.at]
  cases h : Nat.beq j i with
  | true => simp [Nat.eq_of_beq_eq_true h]
  | false => simp [Nat.ne_of_beq_eq_false h]

structure St where
  tm : Tm
  st : Store

/-- Reading the store. -/
inductive Act (α : Type) where
  | ret (a : α)
  | fail
  | get (k : Key) (f : Obj → Act α)
  | new (k : Key) (f : Act α)

def Act.bind {α β : Type} : Act α → (α → Act β) → Act β
  | .ret a, f => f a
  | .fail, _ => .fail
  | .get k g, f => .get k fun o => (g o).bind f
  | .new k g, f => .new k (g.bind f)

instance : Monad Act where
  pure := Act.ret
  bind := Act.bind

/-- What is read is told: the keys. -/
def Act.run {α : Type} (s : Store) : Act α → List Key → Option (α × List Key)
  | .ret a, l => some (a, l)
  | .fail, _ => none
  | .get k f, l => match s.get k with
    | some o => (f o).run s (k :: l)
    | none => none
  | .new k f, l => match s.get k with
    | some _ => none
    | none => f.run s (k :: l)

/-- An operation's answer: the value, and what it puts into the store. -/
structure Ans where
  v : V
  up : List (Key × Obj)

def Act.just (v : V) : Act Ans := .ret ⟨v, []⟩

def V.cellsOf : V → List V
  | .agg cs => cs
  | v => [v]

def V.mk (agg : Bool) (cs : List V) : V := if agg then .agg cs else cs.headD .undef

/-- Without its spare places. -/
def V.thin : V → V
  | .slc e xs _ => .slc e xs .none
  | v => v

mutual
/-- No key in it, but inside slices, which have none. -/
def V.frozen : V → Bool
  | .undef | .ptr .. | .view .. | .map .. => false
  | .bool _ | .int .. | .str _ | .nil | .elem _ | .nilslc | .nilmap | .nilfunc | .nilIface => true
  | .slc _ _ own => match own with | .none => true | _ => false
  | .func _ first captured => V.frozens first && V.frozens captured
  | .iface _ v => v.frozen
  | .agg cs => V.frozens cs
  | .tuple vs => V.frozens vs
def V.frozens : List V → Bool
  | [] => true
  | v :: r => v.frozen && V.frozens r
end

/-- The value of one cell. -/
def V.isCell : V → Bool
  | .undef | .agg _ | .tuple _ => false
  | _ => true

/-- As an element of memory that stays: thin, frozen, so many cells. -/
def V.settle (esz : Nat) (agg : Bool) (v : V) : Option V :=
  match v, agg with
  | .agg cs, true =>
    let cs := cs.map V.thin
    if cs.length = esz ∧ cs.all (fun c => c.frozen && c.isCell) = true then some (.agg cs) else none
  | v, false =>
    let v := v.thin
    if esz = 1 ∧ (v.frozen && v.isCell) = true then some v else none
  | _, true => none

def settles (esz : Nat) (agg : Bool) : List V → Option (List V)
  | [] => some []
  | v :: r => match v.settle esz agg, settles esz agg r with
    | some v, some r => some (v :: r)
    | _, _ => none

/-- What a type's values are held against each other by. -/
inductive TK where
  | num | bool | ptr | slc | map | func
  deriving DecidableEq

inductive AOpd where
  | t (i : Nat)
  | c (v : V)
  deriving Inhabited

inductive AOp where
  | mv (x : AOpd)
  /-- an empty slice that will be appended to -/
  | nilrow (esz : Nat)
  | pick (c a b : AOpd)
  | alloc (zero : List V)
  | box (size : Nat) (x : AOpd)
  | build (zero : List V) (parts : List (Nat × Nat × AOpd))
  | buildSlice (esz : Nat) (agg : Bool) (parts : List AOpd)
  | load (agg : Bool) (size : Nat) (a : AOpd)
  | store (size : Nat) (a x : AOpd)
  | nilCheck (x : AOpd)
  | bin (tk : TK) (op : BinOp) (x y : AOpd)
  | eqAgg (n : Nat) (neg : Bool) (x y : AOpd)
  | un (op : UnOp) (x : AOpd)
  | convInt (k : IntKind) (x : AOpd)
  | convSame (x : AOpd)
  | bytesOf (x : AOpd)
  | stringOf (x : AOpd)
  | arrOf (n : Nat) (x : AOpd)
  | func (fn : Fn) (first captured : List AOpd)
  | makeMap
  | makeSlice (esz bytes : Nat) (agg : Bool) (zero : V) (len cap : AOpd)
  /-- so many cells that may be written, as a slice -/
  | makeRow (zero : V) (len cap : AOpd)
  | sliceS (esz : Nat) (x : AOpd) (lo hi mx : Option AOpd)
  | sliceA (n esz : Nat) (x : AOpd) (lo hi mx : Option AOpd)
  | sliceT (x : AOpd) (lo hi : Option AOpd)
  | fieldAddr (off : Nat) (x : AOpd)
  | field (agg : Bool) (off size : Nat) (x : AOpd)
  | indexS (esz : Nat) (x i : AOpd)
  | indexA (n esz : Nat) (x i : AOpd)
  | indexT (x i : AOpd)
  | lookup (kf : Option Nat) (zero : V) (m k : AOpd) (ok : Bool)
  | mapSet (kf : Option Nat) (m k v : AOpd)
  | delete (kf : Option Nat) (m k : AOpd)
  | lenS (x : AOpd)
  | lenT (x : AOpd)
  | lenM (x : AOpd)
  | lenA (n : Nat)
  | cap (x : AOpd)
  | append (esz bytes : Nat) (s x : AOpd)
  /-- so many bytes of zero appended -/
  | appendZ (s n : AOpd)
  | copy (esz : Nat) (d x : AOpd)
  | min (x : AOpd) (r : List AOpd)
  | max (x : AOpd) (r : List AOpd)
  | clearMap (x : AOpd)
  | call (f : FuncId) (args : List AOpd)
  | callv (f : AOpd) (args : List AOpd)
  | extract (x : AOpd) (i : Nat)
  deriving Inhabited

structure AOper where
  dst : Option Nat
  op : AOp
  guard : Option (Nat × Bool)
  deriving Inhabited

inductive ACode where
  | skip
  | region (ops : List AOper)
  /-- a region whose order is drawn: for each operation, as bits, the earlier ones that it is in no order with -/
  | drawn (ops : List AOper) (free : List Nat)
  | seq (a b : ACode)
  | cond (c : AOpd) (thn els : ACode)
  | block (id : Nat) (body : ACode)
  /-- a loop: what is kept at its head: slots, and objects -/
  | loop (slots : List Nat) (keys : List Nat) (body : ACode)
  | exit (id : Nat)
  | ret

/-- A function's contract: arguments and what they reach, to the answer, what they reach behind it, and what is new. -/
abbrev Contract := List V → List Obj → Option (V × List Obj × List Obj)

/-! ### what values do -/

def intOp (op : BinOp) (k : IntKind) (a b : Int) : Option V :=
  match op with
  | .add => some (.int k (k.wrap (a + b)))
  | .sub => some (.int k (k.wrap (a - b)))
  | .mul => some (.int k (k.wrap (a * b)))
  | .quo => if b = 0 then none else some (.int k (k.wrap (a.tdiv b)))
  | .rem => if b = 0 then none else some (.int k (a.tmod b))
  | .and => some (.int k (k.wrap (BitVec.ofInt k.bits a &&& BitVec.ofInt k.bits b).toNat))
  | .or => some (.int k (k.wrap (BitVec.ofInt k.bits a ||| BitVec.ofInt k.bits b).toNat))
  | .xor => some (.int k (k.wrap (BitVec.ofInt k.bits a ^^^ BitVec.ofInt k.bits b).toNat))
  | .andNot => some (.int k (k.wrap (BitVec.ofInt k.bits a &&& ~~~ BitVec.ofInt k.bits b).toNat))
  | .eql => some (.bool (a == b))
  | .neq => some (.bool (a != b))
  | .lss => some (.bool (a < b))
  | .leq => some (.bool (a ≤ b))
  | .gtr => some (.bool (a > b))
  | .geq => some (.bool (a ≥ b))
  | _ => none

def strOp (op : BinOp) (a b : ByteArray) : Option V :=
  match op with
  | .add => if a.size + b.size ≤ 1099511627776 then some (.str (a ++ b)) else none
  | .eql => some (.bool (a.toList == b.toList))
  | .neq => some (.bool !(a.toList == b.toList))
  | .lss => some (.bool (Op.bytesLess a.toList b.toList))
  | .leq => some (.bool (Op.bytesLess a.toList b.toList || a.toList == b.toList))
  | .gtr => some (.bool !(Op.bytesLess a.toList b.toList || a.toList == b.toList))
  | .geq => some (.bool !(Op.bytesLess a.toList b.toList))
  | _ => none

/-- Whether one of the two is nothing, and the other one is known. -/
def isNil : TK → V → V → Option Bool
  | .ptr, .nil, .nil => some true
  | .ptr, .nil, .ptr .. => some false
  | .ptr, .ptr .., .nil => some false
  | .ptr, .nil, .elem _ => some false
  | .ptr, .elem _, .nil => some false
  | .slc, .nilslc, .nilslc => some true
  | .slc, .nilslc, .slc _ xs own => if xs.isEmpty && own != .nn then none else some false
  | .slc, .slc _ xs own, .nilslc => if xs.isEmpty && own != .nn then none else some false
  | .map, .nilmap, .nilmap => some true
  | .map, .nilmap, .map _ => some false
  | .map, .map _, .nilmap => some false
  | .func, .nilfunc, .nilfunc => some true
  | .func, .nilfunc, .func .. => some false
  | .func, .func .., .nilfunc => some false
  | _, _, _ => none

def boolOp (op : BinOp) (a b : Bool) : Option V :=
  match op with
  | .eql => some (.bool (a == b))
  | .neq => some (.bool !(a == b))
  | _ => none

def shiftOp (op : BinOp) (k : IntKind) (a b : Int) : Option V :=
  match op with
  | .shl => if b < 0 then none else some (.int k (k.wrap (a * 2 ^ (Nat.min b.toNat k.bits))))
  | .shr => if b < 0 then none else some (.int k (a.fdiv (2 ^ (Nat.min b.toNat k.bits))))
  | _ => none

def isShift : BinOp → Bool
  | .shl | .shr => true
  | _ => false

def binV (tk : TK) (op : BinOp) (x y : V) : Option V :=
  match tk, x, y with
  | .num, .int k a, .int k' b => if isShift op then shiftOp op k a b else if k = k' then intOp op k a b else none
  | .num, .str a, .str b => strOp op a b
  | .num, _, _ => none
  | .bool, .bool a, .bool b => boolOp op a b
  | .bool, _, _ => none
  | tk, x, y => match op, isNil tk x y with
    | .eql, some b => some (.bool b)
    | .neq, some b => some (.bool !b)
    | _, _ => none

/-- Two cells that hold whole numbers. -/
def eqCell : V → V → Option Bool
  | .int k a, .int k' b => if k = k' then some (a == b) else none
  | _, _ => none

def eqCells : List V → List V → Option Bool
  | [], [] => some true
  | x :: xs, y :: ys => match eqCell x y with
    | some true => eqCells xs ys
    | some false => some false
    | none => none
  | _, _ => none

def unV (op : UnOp) (x : V) : Option V :=
  match op, x with
  | .neg, .int k n => some (.int k (k.wrap (0 - n)))
  | .xor, .int k n => some (.int k (k.wrap (BitVec.ofInt k.bits (if k.signed then -1 else k.max) ^^^ BitVec.ofInt k.bits n).toNat))
  | .not, .bool b => some (.bool !b)
  | _, _ => none

/-- A key of a map: equal to another one, or not. Whole numbers, or so many of them. -/
def eqKey (kf : Option Nat) (x y : V) : Option Bool :=
  match kf, x, y with
  | none, .int k a, .int k' b => eqCell (.int k a) (.int k' b)
  | some n, .agg xs, .agg ys => if xs.length = n ∧ ys.length = n then eqCells xs ys else none
  | _, _, _ => none

def findK (kf : Option Nat) (k : V) : List (V × V) → Option (Option V)
  | [] => some none
  | (k', v) :: r => match eqKey kf k k' with
    | some true => some (some v)
    | some false => findK kf k r
    | none => none

def setK (kf : Option Nat) (k v : V) : List (V × V) → Option (List (V × V))
  | [] => some [(k, v)]
  | (k', v') :: r => match eqKey kf k k' with
    | some true => some ((k, v) :: r)
    | some false => match setK kf k v r with
      | some r => some ((k', v') :: r)
      | none => none
    | none => none

def delK (kf : Option Nat) (k : V) : List (V × V) → Option (List (V × V))
  | [] => some []
  | (k', v') :: r => match eqKey kf k k' with
    | some true => some r
    | some false => match delK kf k r with
      | some r => some ((k', v') :: r)
      | none => none
    | none => none

def bytesV (s : ByteArray) : List V := s.toList.map fun b => .int .u8 b.toNat

/-- Bytes as a text. -/
def bytesIn : List V → Option ByteArray
  | xs => (go xs).map fun l => ⟨l.toArray⟩
where
  go : List V → Option (List UInt8)
    | [] => some []
    | .int .u8 n :: r => (go r).map (UInt8.ofNat n.toNat :: ·)
    | _ => none

def V.isInt : V → Bool
  | .int .. => true
  | _ => false

/-- A key that fits: a whole number, or so many. -/
def keyOk (kf : Option Nat) (k : V) : Bool :=
  match kf, k with
  | none, .int .. => true
  | some n, .agg cs => decide (cs.length = n) && cs.all V.isInt
  | _, _ => false

/-- What a map may hold. -/
def valOk : V → Bool
  | .undef | .tuple _ => false
  | _ => true

def ofOpt {α : Type} : Option α → Act α
  | some a => .ret a
  | none => .fail

def splice (cs : List V) (off : Nat) (vs : List V) : List V := cs.take off ++ vs ++ cs.drop (off + vs.length)

/-- The list, laid out, handed on. -/
def forceL {α : Type} : List V → (List V → α) → α
  | [], k => k []
  | x :: r, k => forceL r fun r' => k (x :: r')

theorem forceL_eq {α : Type} : ∀ (l : List V) (k : List V → α), forceL l k = k l
  | [], _ => rfl
  | _ :: r, k => by rw [forceL, forceL_eq r]

def fillV (cs : List V) : List (Nat × Nat × V) → Option (List V)
  | [] => some cs
  | (off, size, v) :: r =>
    if v.cellsOf.length = size ∧ off + size ≤ cs.length ∧ v.cellsOf.all V.isCell = true then fillV (splice cs off v.cellsOf) r else none

def intArg : Option V → Option (Option Int)
  | none => some none
  | some (.int _ n) => some (some n)
  | some _ => none

def cutAt (len : Nat) (lo hi mx : Option Int) : Option (Nat × Nat × Option Nat) :=
  if 0 ≤ lo.getD 0 ∧ lo.getD 0 ≤ hi.getD len ∧ hi.getD len ≤ len then
    match mx with
    | none => some ((lo.getD 0).toNat, (hi.getD len).toNat, none)
    | some m => if hi.isSome = true ∧ hi.getD len ≤ m ∧ m ≤ len then some ((lo.getD 0).toNat, (hi.getD len).toNat, some m.toNat) else none
  else none

/-- The bounds of a cut: low, high, and the capacity's end. -/
def cut (len : Nat) (lo hi mx : Option V) : Option (Nat × Nat × Option Nat) :=
  match intArg lo, intArg hi, intArg mx with
  | some lo, some hi, some mx => cutAt len lo hi mx
  | _, _, _ => none

/-- The elements of a slice, or a text's bytes. -/
def source (esz : Nat) (x : V) : Act (List V) :=
  match x with
  | .slc e xs _ => if e = esz then .ret xs else .fail
  | .nilslc => .ret []
  | .str s => if esz = 1 then .ret (bytesV s) else .fail
  | .view k e off len _ => if e = 1 ∧ esz = 1 then .get k fun
    | .cells cs =>
      let xs := ((cs.drop off).take len).map V.thin
      if xs.length = len ∧ xs.all (fun c => c.frozen && c.isCell) = true then .ret xs else .fail
    | _ => .fail
    else .fail
  | _ => .fail

def appendTo (esz bytes : Nat) (dst : Nat) (s : V) (ys : List V) : Act Ans :=
  match s with
  | .slc e xs own =>
    if e = esz ∧ (xs.length + ys.length) * bytes ≤ 1099511627776 ∧ xs.length + ys.length ≤ 1099511627776 then
      if ys.isEmpty then Act.just (.slc e xs own) else
      match own with
      | .none => .fail
      | .nn => .fail
      | .tight => .new (.loc dst 0) (.ret ⟨.slc e (xs ++ ys) (.tok (.loc dst 0) 0), [(.loc dst 0, .tok (xs.length + ys.length))]⟩)
      | .tok k start => .get k fun
        | .tok n => if n = start + xs.length then .ret ⟨.slc e (xs ++ ys) (.tok k start), [(k, .tok (n + ys.length))]⟩ else .fail
        | _ => .fail
    else .fail
  | .view k e off len cap =>
    if e = 1 ∧ esz = 1 ∧ len + ys.length ≤ cap then .get k fun
      | .cells cs => if off + len + ys.length ≤ cs.length then .ret ⟨.view k 1 off (len + ys.length) cap, [(k, .cells (splice cs (off + len) (ys.flatMap V.cellsOf)))]⟩ else .fail
      | _ => .fail
    else .fail
  | .nilslc =>
    if ys.length * bytes ≤ 1099511627776 ∧ ys.length ≤ 1099511627776 then
      if ys.isEmpty then Act.just .nilslc else
      .new (.loc dst 0) (.ret ⟨.slc esz ys (.tok (.loc dst 0) 0), [(.loc dst 0, .tok ys.length)]⟩)
    else .fail
  | _ => .fail

/-! ### calls: what the arguments reach -/
mutual
def V.keys : V → List Key
  | .ptr k _ => [k]
  | .view k .. => [k]
  | .map k => [k]
  | .slc _ _ own => match own with | .tok k _ => [k] | _ => []
  | .func _ first captured => V.keyss first ++ V.keyss captured
  | .iface _ v => v.keys
  | .agg cs => V.keyss cs
  | .tuple vs => V.keyss vs
  | _ => []
def V.keyss : List V → List Key
  | [] => []
  | v :: r => v.keys ++ V.keyss r
end

def Obj.keys : Obj → List Key
  | .cells cs => V.keyss cs
  | .map es => es.flatMap fun (k, v) => k.keys ++ v.keys
  | .tok _ => []

/-- The objects that are reached, in the order in which they are met. -/
def reach : Nat → List Key → List (Key × Obj) → Act (List (Key × Obj))
  | _, [], acc => .ret acc
  | 0, _ :: _, _ => .fail
  | n + 1, k :: todo, acc =>
    if acc.any (fun p => p.1 = k) then reach n todo acc
    else .get k fun o => reach n (todo ++ o.keys) (acc ++ [(k, o)])

mutual
/-- Keys turned. -/
def V.ren (f : Key → Key) : V → V
  | .ptr k o => .ptr (f k) o
  | .view k e o l c => .view (f k) e o l c
  | .map k => .map (f k)
  | .slc e xs own => match own with | .tok k s => .slc e xs (.tok (f k) s) | o => .slc e xs o
  | .func fn first captured => .func fn (V.rens f first) (V.rens f captured)
  | .iface t v => .iface t (v.ren f)
  | .agg cs => .agg (V.rens f cs)
  | .tuple vs => .tuple (V.rens f vs)
  | v => v
def V.rens (f : Key → Key) : List V → List V
  | [] => []
  | v :: r => v.ren f :: V.rens f r
end

def Obj.ren (f : Key → Key) : Obj → Obj
  | .cells cs => .cells (V.rens f cs)
  | .map es => .map (es.map fun (k, v) => (k.ren f, v.ren f))
  | .tok n => .tok n

/-- Whether no key is in it. -/
def V.plain (v : V) : Bool := v.keys.isEmpty

def findIdxKey (k : Key) : List Key → Nat → Option Nat
  | [], _ => none
  | k' :: r, i => if k' = k then some i else findIdxKey k r (i + 1)

/-- The caller's key to the callee's. -/
def inKey (ks : List Key) (k : Key) : Key := match findIdxKey k ks 0 with | some i => .arg i | none => .loc 0 0
/-- The callee's key to the caller's: what was handed in, and what is new. -/
def outKey (ks : List Key) (dst : Nat) : Key → Key
  | .arg i => match ks[i]? with | some k => k | none => .loc dst (i - ks.length)
  | k => k

/-- An argument as the callee has it: cuts of objects as plain rows (lent). -/
def lend (x : V) : Act V :=
  match x with
  | .view k e off len c => if e = 1 ∧ len ≤ c then (source 1 (.view k e off len c)).bind fun xs => .ret (.slc 1 xs .none) else .fail
  | .slc e xs _ => .ret (.slc e xs .none)
  | v => .ret v

def lends : List V → Act (List V)
  | [] => .ret []
  | v :: r => (lend v).bind fun v => (lends r).bind fun r => .ret (v :: r)

def isView : V → Bool
  | .view .. => true
  | _ => false

/-- No slice, no pointer: numbers, truths, texts. -/
def V.flatCell : V → Bool
  | .bool _ | .int .. | .str _ => true
  | _ => false
def V.flat : V → Bool
  | .agg cs => cs.all V.flatCell
  | .tuple vs => vs.all fun v => match v with | .agg cs => cs.all V.flatCell | v => v.flatCell
  | v => v.flatCell

def newObjs (dst : Nat) (j : Nat) : List Obj → List (Key × Obj)
  | [] => []
  | o :: r => (.loc dst j, o) :: newObjs dst (j + 1) r

def news (dst : Nat) (j : Nat) : List Obj → Act Ans → Act Ans
  | [], a => a
  | _ :: r, a => .new (.loc dst j) (news dst (j + 1) r a)

def callBy (C : FuncId → Option Contract) (dst : Nat) (f : FuncId) (args : List V) : Act Ans :=
  match C f with
  | none => .fail
  | some c =>
    (lends args).bind fun args' =>
      if args.any isView then
        if V.keyss args' = [] then
          match c args' [] with
          | some (r, [], []) => if r.flat then Act.just r else .fail
          | _ => .fail
        else .fail
      else
        (reach 64 (V.keyss args') []).bind fun objs =>
          let ks := objs.map (·.1)
          if (V.keyss args').all ks.contains && objs.all (fun p => p.2.keys.all ks.contains) && decide ks.Nodup then
          match c (V.rens (inKey ks) args') (objs.map fun p => p.2.ren (inKey ks)) with
          | some (r, os, ns) =>
            if os.length = ks.length then
              let g := outKey ks dst
              news dst 0 ns (.ret ⟨r.ren g, (ks.zip (os.map (Obj.ren g))) ++ newObjs dst 0 (ns.map (Obj.ren g))⟩)
            else .fail
          | none => .fail
          else .fail

/-! ### one operation -/

def AOpd.ev (tm : Tm) : AOpd → V
  | .t i => tm.at i
  | .c v => v

def fillArgs (ρ : AOpd → V) : List (Nat × Nat × AOpd) → List (Nat × Nat × V)
  | [] => []
  | (o, n, x) :: r => (o, n, ρ x) :: fillArgs ρ r

def minV : V → List V → Option V
  | x, [] => some x
  | .int k a, .int k' b :: r => if k = k' then minV (.int k (if b < a then b else a)) r else none
  | _, _ => none

def maxV : V → List V → Option V
  | x, [] => some x
  | .int k a, .int k' b :: r => if k = k' then maxV (.int k (if b > a then b else a)) r else none
  | _, _ => none

def act (C : FuncId → Option Contract) (dst : Nat) (ρ : AOpd → V) : AOp → Act Ans
  | .mv x => Act.just (ρ x)
  | .nilrow e => .new (.loc dst 0) (.ret ⟨.slc e [] (.tok (.loc dst 0) 0), [(.loc dst 0, .tok 0)]⟩)
  | .pick c a b => match ρ c with
    | .bool true => Act.just (ρ a)
    | .bool false => Act.just (ρ b)
    | _ => .fail
  | .alloc zero => .new (.loc dst 0) (.ret ⟨.ptr (.loc dst 0) 0, [(.loc dst 0, .cells zero)]⟩)
  | .box size x =>
    let cs := (ρ x).cellsOf
    if cs.length = size ∧ cs.all V.isCell = true then .new (.loc dst 0) (.ret ⟨.ptr (.loc dst 0) 0, [(.loc dst 0, .cells cs)]⟩) else .fail
  | .build zero parts => match fillV zero (fillArgs ρ parts) with
    | some cs => Act.just (.agg cs)
    | none => .fail
  | .buildSlice esz agg parts => match settles esz agg (parts.map ρ) with
    | some xs => Act.just (.slc esz xs .tight)
    | none => .fail
  | .load agg size a => match ρ a with
    | .ptr k off => .get k fun
      | .cells cs =>
        let xs := (cs.drop off).take size
        if xs.length = size then Act.just (V.mk agg xs) else .fail
      | _ => .fail
    | .elem cs =>
      let xs := cs.take size
      if xs.length = size then Act.just (V.mk agg xs) else .fail
    | _ => .fail
  | .store size a x => match ρ a with
    | .ptr k off => .get k fun
      | .cells cs =>
        let vs := (ρ x).cellsOf
        if vs.length = size ∧ off + size ≤ cs.length ∧ vs.all V.isCell = true then forceL (splice cs off vs) fun cs' => .ret ⟨.tuple [], [(k, .cells cs')]⟩ else .fail
      | _ => .fail
    | _ => .fail
  | .nilCheck x => match ρ x with
    | .ptr k off => Act.just (.ptr k off)
    | .elem cs => Act.just (.elem cs)
    | .func fn first captured => match fn with
      | .func _ => Act.just (.func fn first captured)
      | _ => .fail
    | _ => .fail
  | .bin tk op x y => (ofOpt (binV tk op (ρ x) (ρ y))).bind Act.just
  | .eqAgg n neg x y => match ρ x, ρ y with
    | .agg xs, .agg ys => if xs.length = n ∧ ys.length = n then (match eqCells xs ys with
      | some b => Act.just (.bool (if neg then !b else b))
      | none => .fail) else .fail
    | _, _ => .fail
  | .un op x => (ofOpt (unV op (ρ x))).bind Act.just
  | .convInt k x => match ρ x with
    | .int _ n => Act.just (.int k (k.wrap n))
    | _ => .fail
  | .convSame x => match ρ x with
    | .str s => Act.just (.str s)
    | _ => .fail
  | .bytesOf x => match ρ x with
    | .str s => if s.size ≤ 1099511627776 then Act.just (.slc 1 (bytesV s) .none) else .fail
    | _ => .fail
  | .stringOf x => match ρ x with
    | .str _ => .fail
    | v => (source 1 v).bind fun xs => match bytesIn xs with
      | some s => Act.just (.str s)
      | none => .fail
  | .arrOf n x => match ρ x with
    | .slc _ xs _ => if 0 < n ∧ n ≤ xs.length then Act.just (.elem (xs.flatMap V.cellsOf)) else .fail
    | _ => .fail
  | .func fn first captured => Act.just (.func fn (first.map ρ) (captured.map ρ))
  | .makeMap => .new (.loc dst 0) (.ret ⟨.map (.loc dst 0), [(.loc dst 0, .map [])]⟩)
  | .makeSlice esz bytes agg zero len cap => match ρ len, ρ cap with
    | .int _ l, .int _ c =>
      if l = c ∧ 0 ≤ l ∧ l * bytes ≤ 1099511627776 ∧ l ≤ 1099511627776 then
        match zero.settle esz agg with
        | some z => Act.just (.slc esz (List.replicate l.toNat z) .tight)
        | none => .fail
      else .fail
    | _, _ => .fail
  | .makeRow zero len cap => match ρ len, ρ cap with
    | .int _ l, .int _ c =>
      if 0 ≤ l ∧ l ≤ c ∧ c ≤ 1099511627776 then .new (.loc dst 0) (.ret ⟨.view (.loc dst 0) 1 0 l.toNat c.toNat, [(.loc dst 0, .cells (List.replicate c.toNat zero))]⟩) else .fail
    | _, _ => .fail
  | .sliceS esz x lo hi mx => match ρ x with
    | .slc e xs own => if e ≠ esz then .fail else match cut xs.length (lo.map ρ) (hi.map ρ) (mx.map ρ) with
      | some (l, h, none) =>
        let ys := (xs.drop l).take (h - l)
        Act.just (.slc e ys (if h = xs.length then (match own with | .tok k s => .tok k (s + l) | .nn => .none | o => o) else .none))
      | some (l, h, some m) =>
        let ys := (xs.drop l).take (h - l)
        Act.just (.slc e ys (if m = h then .tight else .none))
      | none => .fail
    | .view k e off _ cap => if e ≠ esz then .fail else match lo.map ρ, hi.map ρ, mx.map ρ with
      | none, some (.int _ h), none => if 0 ≤ h ∧ h ≤ cap then Act.just (.view k e off h.toNat cap) else .fail
      | _, _, _ => .fail
    | _ => .fail
  | .sliceA n esz x lo hi mx => match ρ x with
    | .ptr k off => match cut n (lo.map ρ) (hi.map ρ) (mx.map ρ) with
      | some (l, h, none) => Act.just (.view k esz (if l = n then off else off + l * esz) (h - l) (n - l))
      | _ => .fail
    | _ => .fail
  | .sliceT x lo hi => match ρ x with
    | .str s => match cut s.size (lo.map ρ) (hi.map ρ) none with
      | some (l, h, _) => Act.just (.str (s.extract l h))
      | none => .fail
    | _ => .fail
  | .fieldAddr off x => match ρ x with
    | .ptr k o => Act.just (.ptr k (o + off))
    | .elem cs => Act.just (.elem (cs.drop off))
    | _ => .fail
  | .field agg off size x => match ρ x with
    | .agg cs =>
      let xs := (cs.drop off).take size
      if xs.length = size then Act.just (V.mk agg xs) else .fail
    | _ => .fail
  | .indexS esz x i => match ρ x, ρ i with
    | .slc e xs _, .int _ n => if e = esz ∧ 0 ≤ n then (match xs[n.toNat]? with
        | some v => Act.just (.elem v.cellsOf)
        | none => .fail) else .fail
    | .view k e off len _, .int _ n => if e = esz ∧ 0 ≤ n ∧ n < len then Act.just (.ptr k (off + n.toNat * e)) else .fail
    | _, _ => .fail
  | .indexA n esz x i => match ρ x, ρ i with
    | .ptr k off, .int _ m => if 0 ≤ m ∧ m < n then Act.just (.ptr k (off + m.toNat * esz)) else .fail
    | .elem cs, .int _ m => if 0 ≤ m ∧ m < n then Act.just (.elem (cs.drop (m.toNat * esz))) else .fail
    | _, _ => .fail
  | .indexT x i => match ρ x, ρ i with
    | .str s, .int _ n => if 0 ≤ n then (match s[n.toNat]? with
        | some b => Act.just (.int .u8 b.toNat)
        | none => .fail) else .fail
    | _, _ => .fail
  | .lookup kf zero m k ok =>
    if keyOk kf (ρ k) = true then
    let tell (v : V) (b : Bool) : Act Ans := Act.just (if ok then .tuple [v, .bool b] else v)
    match ρ m with
    | .nilmap => tell zero false
    | .map key => .get key fun
      | .map es => match findK kf (ρ k) es with
        | some (some v) => tell v true
        | some none => tell zero false
        | none => .fail
      | _ => .fail
    | _ => .fail
    else .fail
  | .mapSet kf m k v => match ρ m with
    | .map key => .get key fun
      | .map es => if (keyOk kf (ρ k) && valOk (ρ v)) = true then (match setK kf (ρ k) (ρ v) es with
        | some es => .ret ⟨.tuple [], [(key, .map es)]⟩
        | none => .fail) else .fail
      | _ => .fail
    | _ => .fail
  | .delete kf m k => if keyOk kf (ρ k) = true then (match ρ m with
    | .nilmap => Act.just (.tuple [])
    | .map key => .get key fun
      | .map es => match delK kf (ρ k) es with
        | some es => .ret ⟨.tuple [], [(key, .map es)]⟩
        | none => .fail
      | _ => .fail
    | _ => .fail) else .fail
  | .lenS x => match ρ x with
    | .slc _ xs _ => Act.just (.int .i64 xs.length)
    | .nilslc => Act.just (.int .i64 0)
    | .view _ _ _ len _ => Act.just (.int .i64 len)
    | _ => .fail
  | .lenT x => match ρ x with
    | .str s => Act.just (.int .i64 s.size)
    | _ => .fail
  | .lenM x => match ρ x with
    | .nilmap => Act.just (.int .i64 0)
    | .map key => .get key fun
      | .map es => Act.just (.int .i64 es.length)
      | _ => .fail
    | _ => .fail
  | .lenA n => Act.just (.int .i64 n)
  | .cap x => match ρ x with
    | .slc _ xs .tight => Act.just (.int .i64 xs.length)
    | .nilslc => Act.just (.int .i64 0)
    | .view _ _ _ _ cap => Act.just (.int .i64 cap)
    | _ => .fail
  | .append esz bytes s x => (source esz (ρ x)).bind fun ys => appendTo esz bytes dst (ρ s) ys
  | .appendZ s n => match ρ n with
    | .int .i64 l => if 0 ≤ l ∧ l ≤ 1099511627776 then appendTo 1 1 dst (ρ s) (List.replicate l.toNat (.int .u8 0)) else .fail
    | _ => .fail
  | .copy esz d x => match ρ d with
    | .view k e off len _ => if e = esz ∧ esz = 1 then (source esz (ρ x)).bind fun ys =>
        .get k fun
          | .cells cs =>
            let n := Nat.min ys.length len
            if off + n ≤ cs.length then .ret ⟨.int .i64 n, [(k, .cells (splice cs off ((ys.take n).flatMap V.cellsOf)))]⟩ else .fail
          | _ => .fail
      else .fail
    | _ => .fail
  | .min x r => (ofOpt (minV (ρ x) (r.map ρ))).bind Act.just
  | .max x r => (ofOpt (maxV (ρ x) (r.map ρ))).bind Act.just
  | .clearMap x => match ρ x with
    | .nilmap => Act.just (.tuple [])
    | .map key => .get key fun
      | .map _ => .ret ⟨.tuple [], [(key, .map [])]⟩
      | _ => .fail
    | _ => .fail
  | .call f args => callBy C dst f (args.map ρ)
  | .callv f args => match ρ f with
    | .func (.func g) first captured => callBy C dst g (first ++ args.map ρ ++ captured)
    | _ => .fail
  | .extract x i => match ρ x with
    | .tuple vs => match vs[i]? with
      | some v => Act.just v
      | none => .fail
    | _ => .fail


/-! ### the same, in small parts -/
def loadA (agg : Bool) (size : Nat) : V → Act Ans
  | .ptr k off => .get k fun
    | .cells cs =>
      let xs := (cs.drop off).take size
      if xs.length = size then Act.just (V.mk agg xs) else .fail
    | _ => .fail
  | .elem cs =>
    let xs := cs.take size
    if xs.length = size then Act.just (V.mk agg xs) else .fail
  | _ => .fail

def storeA (size : Nat) (a x : V) : Act Ans :=
  match a with
  | .ptr k off => .get k fun
    | .cells cs =>
      let vs := x.cellsOf
      if vs.length = size ∧ off + size ≤ cs.length ∧ vs.all V.isCell = true then forceL (splice cs off vs) fun cs' => .ret ⟨.tuple [], [(k, .cells cs')]⟩ else .fail
    | _ => .fail
  | _ => .fail

def binA (tk : TK) (op : BinOp) (x y : V) : Act Ans := (ofOpt (binV tk op x y)).bind Act.just

def indexSA (esz : Nat) (x i : V) : Act Ans :=
  match x, i with
  | .slc e xs _, .int _ n => if e = esz ∧ 0 ≤ n then (match xs[n.toNat]? with
      | some v => Act.just (.elem v.cellsOf)
      | none => .fail) else .fail
  | .view k e off len _, .int _ n => if e = esz ∧ 0 ≤ n ∧ n < len then Act.just (.ptr k (off + n.toNat * e)) else .fail
  | _, _ => .fail

def indexAA (n esz : Nat) (x i : V) : Act Ans :=
  match x, i with
  | .ptr k off, .int _ m => if 0 ≤ m ∧ m < n then Act.just (.ptr k (off + m.toNat * esz)) else .fail
  | .elem cs, .int _ m => if 0 ≤ m ∧ m < n then Act.just (.elem (cs.drop (m.toNat * esz))) else .fail
  | _, _ => .fail

def convA (k : IntKind) : V → Act Ans
  | .int _ n => Act.just (.int k (k.wrap n))
  | _ => .fail

def callA (C : FuncId → Option Contract) (dst : Nat) (ρ : AOpd → V) (f : FuncId) (args : List AOpd) : Act Ans := callBy C dst f (args.map ρ)

/-- One operation, in small parts: less to lay out for each. -/
def actF (C : FuncId → Option Contract) (dst : Nat) (ρ : AOpd → V) (o : AOp) : Act Ans :=
  match o with
  | .mv x => Act.just (ρ x)
  | .load agg size a => loadA agg size (ρ a)
  | .store size a x => storeA size (ρ a) (ρ x)
  | .bin tk op x y => binA tk op (ρ x) (ρ y)
  | .indexS esz x i => indexSA esz (ρ x) (ρ i)
  | .indexA n esz x i => indexAA n esz (ρ x) (ρ i)
  | .convInt k x => convA k (ρ x)
  | .call f args => callA C dst ρ f args
  | o => act C dst ρ o

theorem actF_eq (C : FuncId → Option Contract) (dst : Nat) (ρ : AOpd → V) (o : AOp) : actF C dst ρ o = act C dst ρ o := by
  cases o <;> rfl

/-! ### regions, code, functions -/

def noSlot : Nat := 1000000

def AOper.put (o : AOper) (tm : Tm) (v : V) : Tm :=
  match o.dst with
  | some d => (d, v) :: tm
  | none => tm

/-- One operation: the state behind it, what it read, and what it wrote. -/
def step (C : FuncId → Option Contract) (s : St) (o : AOper) : Option (St × List Key × List Key) :=
  let go : Option (St × List Key × List Key) :=
    match (actF C (o.dst.getD noSlot) (AOpd.ev s.tm) o.op).run s.st [] with
    | some (a, rd) => some (⟨o.put s.tm a.v, s.st.puts a.up⟩, rd, a.up.map (·.1))
    | none => none
  match o.guard with
  | none => go
  | some (g, want) => match s.tm.at g with
    | .bool b => if b = want then go else some (⟨o.put s.tm (.tuple []), s.st⟩, [], [])
    | .tuple [] => some (⟨o.put s.tm (.tuple []), s.st⟩, [], [])
    | _ => none

/-- The same by 'act'. -/
def stepA (C : FuncId → Option Contract) (s : St) (o : AOper) : Option (St × List Key × List Key) :=
  let go : Option (St × List Key × List Key) :=
    match (act C (o.dst.getD noSlot) (AOpd.ev s.tm) o.op).run s.st [] with
    | some (a, rd) => some (⟨o.put s.tm a.v, s.st.puts a.up⟩, rd, a.up.map (·.1))
    | none => none
  match o.guard with
  | none => go
  | some (g, want) => match s.tm.at g with
    | .bool b => if b = want then go else some (⟨o.put s.tm (.tuple []), s.st⟩, [], [])
    | .tuple [] => some (⟨o.put s.tm (.tuple []), s.st⟩, [], [])
    | _ => none

theorem step_eq (C : FuncId → Option Contract) (s : St) (o : AOper) : step C s o = stepA C s o := by
  unfold step stepA
  rw [actF_eq]

def runOps (C : FuncId → Option Contract) : St → List AOper → Option St
  | s, [] => some s
  | s, o :: r => match step C s o with
    | some (s, _, _) => runOps C s r
    | none => none

def runLog (C : FuncId → Option Contract) : St → List AOper → List (List Key × List Key) → Option (St × List (List Key × List Key))
  | s, [], l => some (s, l.reverse)
  | s, o :: r, l => match step C s o with
    | some (s, rd, wr) => runLog C s r ((rd, wr) :: l)
    | none => none

def apartKeys (a b : List Key) : Bool := a.all fun k => !b.contains k

def compat (x y : List Key × List Key) : Bool := apartKeys x.2 y.1 && apartKeys x.2 y.2 && apartKeys y.2 x.1

/-- The operations that read or write, with their numbers. -/
def touch : List (List Key × List Key) → Nat → List (Nat × List Key × List Key)
  | [], _ => []
  | (rd, wr) :: r, i => if rd.isEmpty && wr.isEmpty then touch r (i + 1) else (i, rd, wr) :: touch r (i + 1)

def okPairs (logs : List (List Key × List Key)) (free : List Nat) : Bool :=
  let t := touch logs 0
  t.all fun y => t.all fun x => !(free.getD y.1 0).testBit x.1 || compat x.2 y.2

inductive Ex where
  | normal
  | exit (id : Nat)
  | ret
  deriving DecidableEq

mutual
/-- Keys that are not kept are forgotten. -/
def V.only (p : Key → Bool) : V → V
  | .ptr k o => if p k then .ptr k o else .undef
  | .view k e o l c => if p k then .view k e o l c else .undef
  | .map k => if p k then .map k else .undef
  | .slc e xs own => match own with | .tok k s => .slc e xs (if p k then .tok k s else .none) | o => .slc e xs o
  | .func fn first captured => .func fn (V.onlys p first) (V.onlys p captured)
  | .iface t v => .iface t (v.only p)
  | .agg cs => .agg (V.onlys p cs)
  | .tuple vs => .tuple (V.onlys p vs)
  | v => v
def V.onlys (p : Key → Bool) : List V → List V
  | [] => []
  | v :: r => v.only p :: V.onlys p r
end

def Obj.only (p : Key → Bool) : Obj → Obj
  | .cells cs => .cells (V.onlys p cs)
  | .map es => .map (es.map fun (k, v) => (k, v.only p))
  | .tok n => .tok n

def keepKey (keys : List Nat) : Key → Bool
  | .arg _ => true
  | .loc s _ => keys.contains s

def cleanTm (p : Key → Bool) (tm : Tm) : List Nat → Tm
  | [] => []
  | i :: r => (i, (tm.at i).only p) :: cleanTm p tm r

def cleanSt (p : Key → Bool) : Store → Store
  | [] => []
  | (k, o) :: r => if p k then (k, o.only p) :: cleanSt p r else cleanSt p r

def clean (slots keys : List Nat) (s : St) : St := ⟨cleanTm (keepKey keys) s.tm slots, cleanSt (keepKey keys) s.st⟩

def iter (f : St → Option (Ex × St)) : Nat → St → Option (Ex × St)
  | 0, _ => none
  | n + 1, s => match f s with
    | some (.normal, s) => iter f n s
    | r => r

def evalCode (C : FuncId → Option Contract) (fuel : Nat) : ACode → St → Option (Ex × St)
  | .skip, s => some (.normal, s)
  | .region ops, s => match runOps C s ops with
    | some s => some (.normal, s)
    | none => none
  | .drawn ops free, s => match runLog C s ops [] with
    | some (s, logs) => if okPairs logs free then some (.normal, s) else none
    | none => none
  | .seq a b, s => match evalCode C fuel a s with
    | some (.normal, s) => evalCode C fuel b s
    | r => r
  | .cond c a b, s => match c.ev s.tm with
    | .bool true => evalCode C fuel a s
    | .bool false => evalCode C fuel b s
    | _ => none
  | .block id b, s => match evalCode C fuel b s with
    | some (.exit j, s) => if j = id then some (.normal, s) else some (.exit j, s)
    | r => r
  | .loop slots keys b, s => iter (fun s => evalCode C fuel b (clean slots keys s)) fuel s
  | .exit id, s => some (.exit id, s)
  | .ret, s => some (.ret, s)

inductive ARes where
  | tmp (t : Nat)
  | cell (a : Nat) (agg : Bool) (size : Nat)

structure AFn where
  ntmps : Nat
  nparams : Nat
  results : List ARes
  code : ACode
  /-- the answer's slices may be appended to -/
  keep : Bool

def ARes.read (s : St) : ARes → Option V
  | .tmp t => some (s.tm.at t)
  | .cell a agg size => match s.tm.at a with
    | .ptr k off => match s.st.get k with
      | some (.cells cs) =>
        let xs := (cs.drop off).take size
        if xs.length = size then some (V.mk agg xs) else none
      | _ => none
    | _ => none

def readAll (s : St) : List ARes → Option (List V)
  | [] => some []
  | r :: rest => match r.read s, readAll s rest with
    | some v, some vs => some (v :: vs)
    | _, _ => none

def single : List V → V
  | [v] => v
  | vs => .tuple vs

def V.thinAll : V → V
  | .agg cs => .agg (cs.map V.thin)
  | .tuple vs => .tuple (vs.map fun v => match v with | .agg cs => .agg (cs.map V.thin) | v => v.thin)
  | v => v.thin

def argObjs (i : Nat) : List Obj → Store
  | [] => []
  | o :: r => (.arg i, o) :: argObjs (i + 1) r

def backObjs (s : Store) : Nat → Nat → Option (List Obj)
  | _, 0 => some []
  | i, n + 1 => match s.get (.arg i), backObjs s (i + 1) n with
    | some o, some r => some (o :: r)
    | _, _ => none

def isLoc : Key → Bool
  | .loc .. => true
  | .arg _ => false

def Key.below (n : Nat) : Key → Bool
  | .arg i => decide (i < n)
  | .loc .. => true

def freshKey (n : Nat) (ks : List Key) (k : Key) : Key :=
  match k with
  | .arg i => .arg i
  | .loc s j => match findIdxKey (.loc s j) ks 0 with | some i => .arg (n + i) | none => .loc s j

def objsKeys : List Obj → List Key
  | [] => []
  | o :: r => o.keys ++ objsKeys r

def AFn.finish (fn : AFn) (n : Nat) (s : St) : Option (V × List Obj × List Obj) :=
  match readAll s fn.results, backObjs s.st 0 n with
  | some vs, some os =>
    let r := if fn.keep then single vs else (single vs).thinAll
    match (reach 64 (r.keys ++ objsKeys os) []).run s.st [] with
    | some (l, _) =>
      let ks := l.map (·.1)
      if (r.keys ++ objsKeys os).all ks.contains && l.all (fun p => p.2.keys.all ks.contains && p.1.below n) && decide ks.Nodup then
        let fresh := l.filter fun p => isLoc p.1
        let g := freshKey n (fresh.map (·.1))
        some (r.ren g, os.map (Obj.ren g), fresh.map fun p => p.2.ren g)
      else none
    | none => none
  | _, _ => none

def argTm (i : Nat) : List V → Tm
  | [] => []
  | v :: r => (i, v) :: argTm (i + 1) r

def AFn.run (fuel : Nat) (C : FuncId → Option Contract) (fn : AFn) : Contract := fun args objs =>
  if args.length = fn.nparams then
    match evalCode C fuel fn.code ⟨argTm 0 args, argObjs 0 objs⟩ with
    | some (.normal, s) => fn.finish objs.length s
    | some (.ret, s) => fn.finish objs.length s
    | _ => none
  else none

end Go.Ev
