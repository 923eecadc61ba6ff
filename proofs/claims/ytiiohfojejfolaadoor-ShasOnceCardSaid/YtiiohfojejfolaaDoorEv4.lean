/-
  The program's own operations, their types looked up: from 'Code' to 'ACode'. Definitions alone.
-/
import Derived.Test.YtiiohfojejfolaaDoorEv1
set_option linter.unusedVariables false
set_option linter.unusedSimpArgs false
namespace Go.Ev
open Go

/-- A package-level variable that is read: the cells from its head on. -/
abbrev Globals := List (Nat × List V)
def Globals.get : Globals → Nat → Option (List V)
  | [], _ => none
  | (h, cs) :: r, g => if h = g then some cs else Globals.get r g

def ofValue : Value → Option V
  | .bool b => some (.bool b)
  | .int k n => some (.int k n)
  | .string s => some (.str s)
  | .pointer none => some .nil
  | .slice none 0 0 => some .nilslc
  | .map none => some .nilmap
  | .nilFunc => some .nilfunc
  | .nilIface => some .nilIface
  | .func fn ⟨[]⟩ ⟨[]⟩ => some (.func fn [] [])
  | .tuple ⟨[]⟩ => some (.tuple [])
  | _ => none

def prepOpd (G : Globals) : Operand → Option AOpd
  | .tmp t => some (.t t)
  | .const v => (ofValue v).map .c
  | .global g => (G.get g).map fun cs => .c (.elem cs)
  | .func f => some (.c (.func (.func f) [] []))

def prepOpds (G : Globals) : List Operand → Option (List AOpd)
  | [] => some []
  | x :: r => match prepOpd G x, prepOpds G r with
    | some x, some r => some (x :: r)
    | _, _ => none

def elemT (P : Program) (t : TypeId) : Option TypeId := match P.underlying t with | some (.slice e) => some e | _ => none
/-- The cells of a type that is known. -/
def sizeT (P : Program) (t : TypeId) : Option Nat := if (P.underlying t).isSome then (P.info? t).map (·.size) else none
def bytesT (P : Program) (t : TypeId) : Option Nat := (P.info? t).map (·.bytes)
def aggT (P : Program) (t : TypeId) : Bool := match P.underlying t with | some (.struct _) | some (.array _ _) => true | _ => false

/-- An empty slice at a slice's type. -/
def coerce (P : Program) (t : TypeId) (x : AOpd) : AOpd :=
  match x with
  | .c .nilslc => match (elemT P t).bind (sizeT P) with
    | some n => .c (.slc n [] .tight)
    | none => .c .nilslc
  | x => x

def coerces (P : Program) : List TypeId → List AOpd → List AOpd
  | t :: ts, x :: xs => coerce P t x :: coerces P ts xs
  | _, xs => xs

/-- The zero of a cell, by the value that it is. -/
def zeroCell (P : Program) (t : TypeId) (v : Value) : Option V :=
  match v with
  | .slice none 0 0 => match (elemT P t).bind (sizeT P) with
    | some n => some (.slc n [] .tight)
    | none => none
  | v => match ofValue v with
    | some x => if x.isCell then some x else none
    | none => none

def typesOf (f : TypeId → Option (List TypeId)) : List Field → Option (List TypeId)
  | [] => some []
  | x :: r => match f x.type, typesOf f r with
    | some a, some b => some (a ++ b)
    | _, _ => none

/-- The types of a type's cells. -/
def cellTypes (P : Program) : Nat → TypeId → Option (List TypeId)
  | 0, _ => none
  | n + 1, t => match P.underlying t with
    | some (.array len e) => (cellTypes P n e).map fun l => (List.replicate len l).flatten
    | some (.struct fs) => typesOf (cellTypes P n) fs.toList
    | some _ => some [t]
    | none => none

def zeroCells (P : Program) : List TypeId → List Value → Option (List V)
  | [], [] => some []
  | t :: ts, v :: vs => match zeroCell P t v, zeroCells P ts vs with
    | some x, some r => some (x :: r)
    | _, _ => none
  | _, _ => none

/-- The cells of a type's zero value. -/
def zeroT (P : Program) (t : TypeId) : Option (List V) :=
  match P.info? t, cellTypes P 20 t with
  | some i, some ts => match i.zero with
    | some v => zeroCells P ts v.cells.toList
    | none => none
  | _, _ => none

/-- The cells of a type's zero value. -/
def zeroSize (P : Program) (t : TypeId) : Option Nat := (P.info? t).bind fun i => i.zero.map fun v => v.cells.size

def isAggV : Value → Bool
  | .agg _ => true
  | _ => false

/-- Whether a type's zero value is a struct or an array. -/
def zeroAgg (P : Program) (t : TypeId) : Option Bool := (P.info? t).bind fun i => i.zero.map isAggV

def fieldT (P : Program) (t : TypeId) (f : Nat) : Option Field :=
  match P.underlying t with
  | some (.struct fs) => fs[f]?
  | _ => none

def prepFields (P : Program) (G : Globals) (fs : Array Field) : List (Nat × Operand) → Option (List (Nat × Nat × AOpd))
  | [] => some []
  | (i, x) :: r => match fs[i]?, prepOpd G x, prepFields P G fs r with
    | some f, some x, some r => match sizeT P f.type with
      | some n => some ((f.offset, n, coerce P f.type x) :: r)
      | none => none
    | _, _, _ => none

def prepElems (P : Program) (G : Globals) (e size : Nat) : List (Nat × Operand) → Option (List (Nat × Nat × AOpd))
  | [] => some []
  | (i, x) :: r => match prepOpd G x, prepElems P G e size r with
    | some x, some r => some ((i * size, size, coerce P e x) :: r)
    | _, _ => none

/-- A slice's literal: each element, one behind the other. -/
def prepRow (P : Program) (G : Globals) (e : TypeId) : Nat → List (Nat × Operand) → Option (List AOpd)
  | _, [] => some []
  | k, (i, x) :: r => if i = k then (match prepOpd G x, prepRow P G e (k + 1) r with
    | some x, some r => some (coerce P e x :: r)
    | _, _ => none) else none

/-- Two of one type are held against each other cell by cell. -/
def flatEq (P : Program) : Nat → TypeId → Bool
  | 0, _ => false
  | n + 1, t => match P.underlying t with
    | some (.int _) => sizeT P t == some 1
    | some (.array len e) => flatEq P n e && (sizeT P t == (sizeT P e).map fun m => len * m)
    | some (.struct fs) => !P.stoodInHeld t && fs.toList.all (fun f => f.name != "_" && flatEq P n f.type) && contig 0 fs.toList && (sizeT P t == some ((fs.toList.map fun f => (sizeT P f.type).getD 0).sum))
    | _ => false
where
  contig (o : Nat) : List Field → Bool
    | [] => true
    | f :: r => f.offset == o && contig (o + (sizeT P f.type).getD 0) r

/-- How a map's keys are held against each other. -/
def keyForm (P : Program) (kt : TypeId) : Option (Option Nat) :=
  if flatEq P 20 kt then (if aggT P kt then (sizeT P kt).map some else some none) else none

def optOpd (G : Globals) : Option Operand → Option (Option AOpd)
  | none => some none
  | some x => (prepOpd G x).map some

/-- Setting a variable; an empty slice that will be appended to has a name of its own. -/
def accOp (P : Program) (acc : List Nat) (dst : Option Nat) (t : TypeId) (y : AOpd) : AOp :=
  match y, dst, (elemT P t).bind (sizeT P) with
  | .c .nilslc, some d, some n => if acc.contains d then .nilrow n else .mv (coerce P t (.c .nilslc))
  | y, _, _ => .mv (coerce P t y)

def prepOp (P : Program) (G : Globals) (acc : List Nat) (o : Oper) : Option AOp :=
  match o.op with
  | .move x => (prepOpd G x).map fun x => .mv (coerce P o.type x)
  | .assign x => (prepOpd G x).map fun y => accOp P acc o.dst o.type y
  | .pick c a b => match prepOpd G c, prepOpd G a, prepOpd G b with
    | some c, some a, some b => some (.pick c (coerce P o.type a) (coerce P o.type b))
    | _, _, _ => none
  | .alloc t => (zeroT P t).map .alloc
  | .box t x => match sizeT P t, prepOpd G x with
    | some n, some x => some (.box n (coerce P t x))
    | _, _ => none
  | .build t parts => match P.underlying t, zeroT P t with
    | some (.struct fs), some z => if fs.toList.all (fun f => (sizeT P f.type).isSome) then (prepFields P G fs parts.toList).map fun l => .build z l else none
    | some (.array _ e), some z => match sizeT P e with
      | some n => (prepElems P G e n parts.toList).map fun l => .build z l
      | none => none
    | _, _ => none
  | .buildSlice t len parts => match elemT P t with
    | some e => match sizeT P e with
      | some n => if parts.size = len ∧ n ≠ 0 ∧ len * n ≤ 16777216 ∧ (zeroSize P e).isSome = true then (prepRow P G e 0 parts.toList).map fun l => .buildSlice n (aggT P e) l else none
      | none => none
    | none => none
  | .load t a => match sizeT P t, prepOpd G a with
    | some n, some a => if n ≠ 0 ∧ (aggT P t = false → n = 1) then some (.load (aggT P t) n a) else none
    | _, _ => none
  | .store t a x => match sizeT P t, prepOpd G a, prepOpd G x with
    | some n, some a, some x => some (.store n a (coerce P t x))
    | _, _, _ => none
  | .nilCheck x => (prepOpd G x).map .nilCheck
  | .binOp op t x y _ => match prepOpd G x, prepOpd G y with
    | some x, some y =>
      if aggT P t then
        if flatEq P 20 t && !P.eqGuardType P.depth t then
          match op, sizeT P t with
          | .eql, some n => some (.eqAgg n false x y)
          | .neq, some n => some (.eqAgg n true x y)
          | _, _ => none
        else none
      else match P.underlying t with
        | some .bool => some (.bin .bool op x y)
        | some (.int _) | some .string => some (.bin .num op x y)
        | some (.pointer _) => some (.bin .ptr op x y)
        | some (.slice _) => some (.bin .slc op x y)
        | some (.map _ _) => some (.bin .map op x y)
        | some (.func _ _ _) => some (.bin .func op x y)
        | _ => none
    | _, _ => none
  | .unOp op _ x => (prepOpd G x).map fun x => .un op x
  | .convert s d x => match prepOpd G x, P.underlying s, P.underlying d with
    | some x, some (.int _), some (.int k) => some (.convInt k x)
    | some x, some .string, some .string => some (.convSame x)
    | some x, some .string, some (.slice e) => match P.underlying e, sizeT P e with
      | some (.int .u8), some 1 => some (.bytesOf x)
      | _, _ => none
    | some x, some (.slice e), some .string => match P.underlying e with
      | some (.int .u8) => some (.stringOf x)
      | _ => none
    | _, _, _ => none
  | .sliceToArrayPointer t x => match P.underlying t, prepOpd G x with
    | some (.array n _), some x => some (.arrOf n x)
    | _, _ => none
  | .makeFunc fn first captured => match prepOpds G first.toList, prepOpds G captured.toList with
    | some a, some b => some (.func fn a b)
    | _, _ => none
  | .makeMap t none => match P.underlying t with
    | some (.map _ _) => some .makeMap
    | _ => none
  | .makeSlice t l c => match elemT P t with
    | some e => match sizeT P e, bytesT P e, zeroT P e, prepOpd G l, prepOpd G c with
      | some n, some b, some z, some l, some c =>
        if n ≠ 0 ∧ z.length = n ∧ (aggT P e = false → n = 1) then
          match o.dst.any acc.contains, n, b, z with
          | true, 1, 1, [.int k v] => some (.makeRow (.int k v) l c)
          | _, _, _, _ => some (.makeSlice n b (aggT P e) (V.mk (aggT P e) z) l c)
        else none
      | _, _, _, _, _ => none
    | none => none
  | .slice t x lo hi mx => match prepOpd G x, optOpd G lo, optOpd G hi, optOpd G mx with
    | some x, some lo, some hi, some mx => match P.underlying t with
      | some (.slice e) => match sizeT P e with
        | some n => if n ≠ 0 then some (.sliceS n x lo hi mx) else none
        | none => none
      | some (.array n e) => match sizeT P e with
        | some m => if m ≠ 0 then some (.sliceA n m x lo hi mx) else none
        | none => none
      | some .string => match mx with
        | none => some (.sliceT x lo hi)
        | _ => none
      | _ => none
    | _, _, _, _ => none
  | .fieldAddr t x f => match fieldT P t f, prepOpd G x with
    | some fd, some x => match sizeT P fd.type with
      | some n => if n ≠ 0 then some (.fieldAddr fd.offset x) else none
      | none => none
    | _, _ => none
  | .field t x f => match fieldT P t f, prepOpd G x with
    | some fd, some x => match sizeT P fd.type with
      | some n => if n ≠ 0 ∧ (aggT P fd.type = false → n = 1) then some (.field (aggT P fd.type) fd.offset n x) else none
      | none => none
    | _, _ => none
  | .indexAddr t x i => match prepOpd G x, prepOpd G i, P.underlying t with
    | some x, some i, some (.slice e) => match sizeT P e with
      | some n => if n ≠ 0 then some (.indexS n x i) else none
      | none => none
    | some x, some i, some (.array len e) => match sizeT P e with
      | some n => if n ≠ 0 then some (.indexA len n x i) else none
      | none => none
    | _, _, _ => none
  | .index t x i => match prepOpd G x, prepOpd G i, P.underlying t with
    | some x, some i, some .string => some (.indexT x i)
    | _, _, _ => none
  | .lookup t m k ok => match P.underlying t with
    | some (.map kt vt) => match keyForm P kt, zeroT P vt, sizeT P vt, prepOpd G m, prepOpd G k with
      | some kf, some z, some n, some m, some k => if zeroAgg P vt = some (aggT P vt) then some (.lookup kf (V.mk (aggT P vt) z) m k ok) else none
      | _, _, _, _, _ => none
    | _ => none
  | .mapUpdate t m k v => match P.underlying t with
    | some (.map kt vt) => match keyForm P kt, prepOpd G m, prepOpd G k, prepOpd G v with
      | some kf, some m, some k, some v => some (.mapSet kf m k (coerce P vt v))
      | _, _, _, _ => none
    | _ => none
  | .extract x i => (prepOpd G x).map fun x => .extract x i
  | .call c => match prepOpds G c.args.toList with
    | some args => match c.callee with
      | .value f => match prepOpd G f with
        | some (.c (.func (.func g) [] [])) => some (.call g (coerces P c.argTypes.toList args))
        | some f => some (.callv f (coerces P c.argTypes.toList args))
        | none => none
      | .builtin b => match b, args, c.argTypes.toList with
        | .len, [x], [t] => match P.underlying t with
          | some (.array n _) => some (.lenA n)
          | some .string => some (.lenT x)
          | some (.slice _) => some (.lenS x)
          | some (.map _ _) => some (.lenM x)
          | _ => none
        | .cap, [x], [t] => match P.underlying t with
          | some (.slice _) => some (.cap x)
          | _ => none
        | .append, [s, x], [t, t'] => match elemT P t with
          | some e => match sizeT P e, bytesT P e, P.underlying t' with
            | some n, some b, some (.slice _) => if n ≠ 0 ∧ zeroSize P e = some n then some (.append n b (coerce P t s) (coerce P t' x)) else none
            | some n, some b, some .string => if n ≠ 0 ∧ zeroSize P e = some n then some (.append n b (coerce P t s) x) else none
            | some 1, some 1, some (.int .i64) => match P.underlying e, zeroT P e with
              | some (.int .u8), some [.int .u8 z] => if z = 0 ∧ zeroSize P e = some 1 then some (.appendZ (coerce P t s) x) else none
              | _, _ => none
            | _, _, _ => none
          | none => none
        | .copy, [d, x], [t, _] => match elemT P t with
          | some e => match sizeT P e with
            | some n => if n ≠ 0 then some (.copy n d x) else none
            | none => none
          | none => none
        | .delete, [m, k], [t, _] => match P.underlying t with
          | some (.map kt _) => (keyForm P kt).map fun kf => .delete kf m k
          | _ => none
        | .clear, [m], [t] => match P.underlying t with
          | some (.map _ _) => some (.clearMap m)
          | _ => none
        | .min, x :: r, _ => some (.min x r)
        | .max, x :: r, _ => some (.max x r)
        | _, _, _ => none
      | .invoke .. => none
    | none => none
  | _ => none

def prepOper (P : Program) (G : Globals) (acc : List Nat) (ops : Array Oper) (o : Oper) : Option AOper :=
  match prepOp P G acc o with
  | none => none
  | some op => match o.guard with
    | none => some ⟨o.dst, op, none⟩
    | some (j, want) => match (ops[j]?).bind (·.dst) with
      | some g => some ⟨o.dst, op, some (g, want)⟩
      | none => none

def prepOpers (P : Program) (G : Globals) (acc : List Nat) (ops : Array Oper) : List Oper → Option (List AOper)
  | [] => some []
  | o :: r => match prepOper P G acc ops o, prepOpers P G acc ops r with
    | some o, some r => some (o :: r)
    | _, _ => none

/-- A row of bytes that is built, and marked behind that ('[]byte' of a constant text): the two operations. -/
def litOper (P : Program) (G : Globals) (acc : List Nat) (o1 o2 : Oper) : Option (List AOper) :=
  match o1.op, o1.dst, o1.guard, o2.op, o2.guard with
  | .buildSlice t _ _, some j, none, .convert s d (.tmp i), none =>
    if i = j ∧ s = d ∧ t = s then
      match elemT P t with
      | some e => match P.underlying e, prepOp P G acc o1 with
        | some (.int .u8), some (.buildSlice n agg l) => some [⟨some j, .mv (.c .undef), none⟩, ⟨o2.dst, .buildSlice n agg l, none⟩]
        | _, _ => none
      | none => none
    else none
  | _, _, _, _, _ => none

/-- The operations of a region in the order of the text. -/
def prepSeq (P : Program) (G : Globals) (acc : List Nat) (ops : Array Oper) : List Oper → Option (List AOper)
  | [] => some []
  | [o] => match prepOper P G acc ops o with
    | some o => some [o]
    | none => none
  | o1 :: o2 :: r => match litOper P G acc o1 o2 with
    | some l => match prepSeq P G acc ops r with
      | some r => some (l ++ r)
      | none => none
    | none => match prepOper P G acc ops o1, prepSeq P G acc ops (o2 :: r) with
      | some o, some r => some (o :: r)
      | _, _ => none

/-- For each operation, which ones lie ahead of it, by the edges, as bits. -/
def ahead (ops : Array Oper) : List Nat :=
  (ops.foldl (init := #[]) fun (acc : Array Nat) o =>
    acc.push (o.after.foldl (fun s e => if Region.binds .any e then s ||| 2 ^ e.on ||| acc.getD e.on 0 else s) 0)).toList

/-- For each operation, the earlier ones that it is in no order with, as bits. -/
def freeBits (ops : Array Oper) : List Nat :=
  let a := ahead ops
  (List.range ops.size).map fun j => Nat.xor (2 ^ j - 1) (Nat.land (a.getD j 0) (2 ^ j - 1))

/-- What a loop keeps at its head: by the first region in it. -/
structure Hints where
  acc : List Nat
  loops : List (Nat × List Nat × List Nat)

def firstRegion : Code → Option Nat
  | .region id _ _ => some id
  | .seq a b => match firstRegion a with | some i => some i | none => firstRegion b
  | .cond _ a b => match firstRegion a with | some i => some i | none => firstRegion b
  | .block _ a => firstRegion a
  | .loop a => firstRegion a
  | _ => none

def Hints.loop (h : Hints) (b : Code) : List Nat × List Nat :=
  match firstRegion b with
  | some i => match h.loops.find? (·.1 == i) with
    | some (_, x) => x
    | none => ([], [])
  | none => ([], [])

def prep (P : Program) (G : Globals) (h : Hints) : Code → Option ACode
  | .skip => some .skip
  | .region _ ops draw =>
    if draw then
      match prepOpers P G h.acc ops ops.toList with
      | some l => some (.drawn l (freeBits ops))
      | none => none
    else
      match prepSeq P G h.acc ops ops.toList with
      | some l => some (.region l)
      | none => none
  | .seq a b => match prep P G h a, prep P G h b with
    | some a, some b => some (.seq a b)
    | _, _ => none
  | .cond c a b => match prepOpd G c, prep P G h a, prep P G h b with
    | some c, some a, some b => some (.cond c a b)
    | _, _, _ => none
  | .block id b => (prep P G h b).map (.block id)
  | .loop b => (prep P G h b).map fun b' => .loop (h.loop b).1 (h.loop b).2 b'
  | .exit id => some (.exit id)
  | .ret => some .ret
  | _ => none

def prepRes (P : Program) : List ResultVar → Option (List ARes)
  | [] => some []
  | .tmp t :: r => (prepRes P r).map (.tmp t :: ·)
  | .cell a t :: r => match sizeT P t, prepRes P r with
    | some n, some r => some (.cell a (aggT P t) n :: r)
    | _, _ => none

def prepFn (P : Program) (G : Globals) (h : Hints) (keep : Bool) (fn : Func) : Option AFn :=
  match fn.body with
  | some c => match prep P G h c, prepRes P fn.results.toList with
    | some c, some r => some ⟨fn.ntmps, fn.params.size + fn.nfree, r, c, keep⟩
    | _, _ => none
  | none => none

end Go.Ev
