/- Abstract values for a checked program: values without addresses, a small heap of mutable objects, and a big-step relation over the translated code. Conditions: none (definitions). -/
import Derived.AtR
import Derived.Below
import Derived.Orders
set_option linter.unusedVariables false
namespace Go.Abs
open Go

/-- What is known of a slice's capacity. -/
inductive Cap where
  | full | unk | tok (id : Nat)
  deriving DecidableEq, Inhabited

inductive AV where
  | bool (b : Bool)
  | int (k : IntKind) (n : Int)
  /-- an address in a mutable object -/
  | ptr (id off : Nat)
  /-- an address of cells that nobody writes -/
  | ro (cells : List AV)
  /-- a slice of n elements over cells that nobody writes -/
  | list (n : Nat) (cells : List AV) (c : Cap)
  /-- a slice over a mutable object -/
  | ms (id off n : Nat) (cap : Option Nat)
  | map (id : Nat)
  | nilmap
  /-- a map that nobody writes any more -/
  | romap (es : List (AV × AV))
  | func (f : FuncId) (first captured : List AV)
  | yieldf (id : Nat)
  | nilFunc
  | agg (cells : List AV)
  | tuple (vs : List AV)
  deriving Inhabited

abbrev Env := Nat → Option AV
def Env.set (e : Env) (i : Nat) (v : AV) : Env := fun j => if j = i then some v else e j
def Env.ofList : List (Nat × AV) → Env
  | [] => fun _ => none
  | (i, v) :: l => (Env.ofList l).set i v
def Env.args : Nat → List AV → Env
  | _, [] => fun _ => none
  | i, v :: l => (Env.args (i + 1) l).set i v
def Env.sets (e : Env) : List (Tmp × AV) → Env
  | [] => e
  | (i, v) :: l => (e.set i v).sets l
def Env.le (e' e : Env) : Prop := ∀ i v, e' i = some v → e i = some v

/-- How a piece of code is left. -/
inductive AX where
  | normal | exit (id : Nat) | ret
  deriving DecidableEq, Inhabited
def AX.code : AX → Option Code
  | .normal => none
  | .exit id => some (.exit id)
  | .ret => some .ret

structure ALoop where
  st : LoopState
  pend : AX
  N : Nat
  tmps : Env
  params : List Tmp
  assign : Code
  body : Code

inductive AObj where
  | cells (cs : List AV)
  | map (es : List (AV × AV))
  | own
  | loop (r : ALoop)
  | gone

structure AH where
  n : Nat
  g : Nat → AObj
def AH.push (h : AH) (o : AObj) : AH := { n := h.n + 1, g := fun i => if i = h.n then o else h.g i }
def AH.set (h : AH) (i : Nat) (o : AObj) : AH := { n := h.n, g := fun j => if j = i then o else h.g j }

inductive AShape where
  | prim
  | bool
  | int (k : IntKind)
  | struct (fs : List (Nat × Nat × Bool))
  | array (len esz : Nat) (eagg : Bool)
  | slice (esz ebytes : Nat) (ezero : List AV)
  | map (key : TypeId) (zero : List AV) (eagg : Bool)

structure ATy where
  size : Nat
  agg : Bool
  zero : List AV
  shape : AShape
  /-- the kinds of its cells (none: a truth value), where two values of it are equal just if their cells are -/
  plain : Option (List (Option IntKind))

structure Ctx where
  P : Program
  T : TypeId → Option ATy
  glob : Nat → Option (List AV)

def AV.cells : AV → List AV
  | .agg cs => cs
  | v => [v]
/-- It takes one cell. -/
def AV.one : AV → Bool
  | .agg _ | .tuple _ => false
  | _ => true
/-- A value of a type that takes these cells. -/
def pack (agg : Bool) (cs : List AV) : Option AV :=
  if agg then some (.agg cs) else match cs with
    | [v] => some v
    | _ => none

def constA : Value → Option AV
  | .bool b => some (.bool b)
  | .int k n => some (.int k n)
  | .slice none 0 0 => some (.list 0 [] .full)
  | .map none => some .nilmap
  | .nilFunc => some .nilFunc
  | _ => none

def evalA (C : Ctx) (e : Env) : Operand → Option AV
  | .tmp t => e t
  | .const v => constA v
  | .global g => (C.glob g).map .ro
  | .func f => some (.func f [] [])

def evalsA (C : Ctx) (e : Env) : List Operand → Option (List AV)
  | [] => some []
  | x :: xs => match evalA C e x, evalsA C e xs with
    | some v, some vs => some (v :: vs)
    | _, _ => none

def loadA (d : ATy) (H : AH) : AV → Option AV
  | .ro cs => if d.size ≤ cs.length then pack d.agg (cs.take d.size) else none
  | .ptr id off => match H.g id with
    | .cells cs => if off + d.size ≤ cs.length then pack d.agg ((cs.drop off).take d.size) else none
    | _ => none
  | _ => none

/-- Equality of cells that are numbers and truth values, of these kinds. -/
def eqCells : List (Option IntKind) → List AV → List AV → Option Bool
  | [], [], [] => some true
  | some k :: ks, .int k1 a :: xs, .int k2 b :: ys => if k1 = k ∧ k2 = k then (eqCells ks xs ys).map (fun r => (a == b) && r) else none
  | none :: ks, .bool a :: xs, .bool b :: ys => (eqCells ks xs ys).map (fun r => (a == b) && r)
  | _, _, _ => none

def eqA (C : Ctx) (t : TypeId) (x y : AV) : Option Bool :=
  match x, y with
  | .int k a, .int k' b => if k = k' then some (a == b) else none
  | .bool a, .bool b => match C.T t with
    | some d => match d.shape with
      | .bool => some (a == b)
      | _ => none
    | none => none
  | .agg xs, .agg ys => match C.T t with
    | some d => match d.plain with
      | some ks => eqCells ks xs ys
      | none => none
    | none => none
  | _, _ => none

def binA (C : Ctx) (op : BinOp) (t : TypeId) (x y : AV) : Option AV :=
  match op, x, y with
  | .add, .int k a, .int k' b => if k = k' then some (.int k (k.wrap (a + b))) else none
  | .sub, .int k a, .int k' b => if k = k' then some (.int k (k.wrap (a - b))) else none
  | .mul, .int k a, .int k' b => if k = k' then some (.int k (k.wrap (a * b))) else none
  | .quo, .int k a, .int k' b => if k = k' ∧ b ≠ 0 then some (.int k (k.wrap (a.tdiv b))) else none
  | .rem, .int k a, .int k' b => if k = k' ∧ b ≠ 0 then some (.int k (a.tmod b)) else none
  | .and, .int k a, .int k' b => if k = k' then some (.int k (k.wrap (BitVec.ofInt k.bits a &&& BitVec.ofInt k.bits b).toNat)) else none
  | .or, .int k a, .int k' b => if k = k' then some (.int k (k.wrap (BitVec.ofInt k.bits a ||| BitVec.ofInt k.bits b).toNat)) else none
  | .shl, .int k a, .int _ b => if 0 ≤ b then some (.int k (k.wrap (a * 2 ^ min b.toNat k.bits))) else none
  | .shr, .int k a, .int _ b => if 0 ≤ b then some (.int k (a.fdiv (2 ^ min b.toNat k.bits))) else none
  | .lss, .int k a, .int k' b => if k = k' then some (.bool (a < b)) else none
  | .leq, .int k a, .int k' b => if k = k' then some (.bool (a ≤ b)) else none
  | .gtr, .int k a, .int k' b => if k = k' then some (.bool (a > b)) else none
  | .geq, .int k a, .int k' b => if k = k' then some (.bool (a ≥ b)) else none
  | .eql, x, y => (eqA C t x y).map .bool
  | .neq, x, y => (eqA C t x y).map fun b => .bool (!b)
  | _, _, _ => none

def unA (op : UnOp) (x : AV) : Option AV :=
  match op, x with
  | .neg, .int k n => some (.int k (k.wrap (0 - n)))
  | .not, .bool b => some (.bool !b)
  | _, _ => none

/-- Parts laid over cells. -/
def fillA (place : Nat → Option (Nat × Nat)) (cells : List AV) : List (Nat × AV) → Option (List AV)
  | [] => some cells
  | (i, v) :: rest =>
    match place i with
    | none => none
    | some (off, size) =>
      if v.cells.length ≠ size || off + v.cells.length > cells.length || !v.cells.all AV.one then none
      else fillA place (cells.take off ++ v.cells ++ cells.drop (off + v.cells.length)) rest

def partsA (C : Ctx) (e : Env) : List (Nat × Operand) → Option (List (Nat × AV))
  | [] => some []
  | (i, x) :: xs => match evalA C e x, partsA C e xs with
    | some v, some vs => some ((i, v) :: vs)
    | _, _ => none

def AV.asNat : AV → Option Nat
  | .int _ n => if 0 ≤ n then some n.toNat else none
  | _ => none

/-- l, h and, where it is told, m of x[l:h:m]. -/
def boundsA (n : Nat) (lo hi mx : Option AV) : Option (Nat × Nat × Option Nat) :=
  let m : Option (Option Nat) := match mx with
    | none => some none
    | some v => match v.asNat with
      | some k => if k ≤ n then some (some k) else none
      | none => none
  let h : Option Nat := match hi, mx with
    | some v, _ => match v.asNat with
      | some k => if k ≤ n then some k else none
      | none => none
    | none, none => some n
    | none, some _ => none
  let l : Option Nat := match lo with
    | none => some 0
    | some v => v.asNat
  match l, h, m with
  | some l, some h, some m => if l ≤ h ∧ h ≤ m.getD h then some (l, h, m) else none
  | _, _, _ => none

def sliceA (d : ATy) (x : AV) (lo hi mx : Option AV) : Option AV :=
  match d.shape, x with
  | .slice esz _ _, .list n cs c =>
    if cs.length = n * esz ∧ 0 < esz then
      match boundsA n lo hi mx with
      | some (l, h, m) =>
        some (.list (h - l) ((cs.drop (l * esz)).take ((h - l) * esz)) (match m with
          | some m => if m = h then .full else .unk
          | none => if c = .full ∧ h = n then .full else .unk))
      | none => none
    else none
  | .slice esz _ _, .ms id off n (some cap) =>
    match boundsA n lo hi mx with
    | some (l, h, m) => if m.getD cap = l then none else some (.ms id (off + l * esz) (h - l) (some (m.getD cap - l)))
    | none => none
  | _, _ => none

def fieldA (d : ATy) (x : AV) (i : Nat) : Option AV :=
  match d.shape, x with
  | .struct fs, .agg cs => match fs[i]? with
    | some (off, size, agg) => if off + size ≤ cs.length then pack agg ((cs.drop off).take size) else none
    | none => none
  | _, _ => none

def fieldAddrA (d : ATy) (x : AV) (i : Nat) : Option AV :=
  match d.shape, x with
  | .struct fs, .ptr id off => (fs[i]?).bind fun f => if f.2.1 = 0 then none else some (.ptr id (off + f.1))
  | .struct fs, .ro cs => (fs[i]?).bind fun f => if f.2.1 = 0 then none else some (.ro (cs.drop f.1))
  | _, _ => none

def indexAddrA (d : ATy) (x ix : AV) : Option AV :=
  match ix with
  | .int _ i =>
    match d.shape, x with
    | .array len esz _, .ptr id off => if 0 ≤ i ∧ i < len then some (.ptr id (off + i.toNat * esz)) else none
    | .array len esz _, .ro cs => if 0 ≤ i ∧ i < len then some (.ro (cs.drop (i.toNat * esz))) else none
    | .slice esz _ _, .list n cs _ => if 0 ≤ i ∧ i < n ∧ cs.length = n * esz ∧ 0 < esz then some (.ro ((cs.drop (i.toNat * esz)).take esz)) else none
    | .slice esz _ _, .ms id off n _ => if 0 ≤ i ∧ i < n then some (.ptr id (off + i.toNat * esz)) else none
    | _, _ => none
  | _ => none

def indexA (d : ATy) (x ix : AV) : Option AV :=
  match ix, d.shape, x with
  | .int _ i, .array len esz eagg, .agg cs =>
    if 0 ≤ i ∧ i < len ∧ i.toNat * esz + esz ≤ cs.length then pack eagg ((cs.drop (i.toNat * esz)).take esz) else none
  | _, _, _ => none

/-- Keys of maps: whole numbers, or structs of these and of truth values. -/
def keyEq (d : ATy) (a b : AV) : Option Bool :=
  match a, b with
  | .int k a, .int k' b => match d.shape with
    | .int _ => if k = k' then some (a == b) else none
    | _ => none
  | .agg xs, .agg ys => match d.plain with
    | some ks => eqCells ks xs ys
    | none => none
  | _, _ => none
def findA (d : ATy) (k : AV) : List (AV × AV) → Option (Option AV)
  | [] => if keyEq d k k = some true then some none else none
  | (a, v) :: es => match keyEq d k a with
    | some true => some (some v)
    | some false => findA d k es
    | none => none
def putA (d : ATy) (k v : AV) : List (AV × AV) → Option (List (AV × AV))
  | [] => if keyEq d k k = some true then some [(k, v)] else none
  | (a, u) :: es => match keyEq d k a with
    | some true => some ((k, v) :: es)
    | some false => (putA d k v es).map ((a, u) :: ·)
    | none => none

def maxA : List AV → Option AV
  | [] => none
  | .int k a :: l => go k a l
  | _ => none
where go (k : IntKind) (a : Int) : List AV → Option AV
  | [] => some (.int k a)
  | .int _ b :: l => go k (if b > a then b else a) l
  | _ => none
def minA : List AV → Option AV
  | [] => none
  | .int k a :: l => go k a l
  | _ => none
where go (k : IntKind) (a : Int) : List AV → Option AV
  | [] => some (.int k a)
  | .int _ b :: l => go k (if b < a then b else a) l
  | _ => none

def lenA (d : ATy) (x : AV) : Option AV :=
  match d.shape, x with
  | .slice .., .list n _ _ => some (.int .i64 n)
  | .slice .., .ms _ _ n _ => some (.int .i64 n)
  | .array len _ _, _ => some (.int .i64 len)
  | _, _ => none


/-- The elements of a slice, as they read now. -/
def readA (esz : Nat) (H : AH) : AV → Option (Nat × List AV)
  | .list n cs _ => if cs.length = n * esz then some (n, cs) else none
  | .ms id off n _ => match H.g id with
    | .cells cs => if off + n * esz ≤ cs.length then some (n, (cs.drop off).take (n * esz)) else none
    | _ => none
  | _ => none

/-- The entries of a map, as they read now. -/
def mapA (H : AH) : AV → Option (List (AV × AV))
  | .map id => match H.g id with
    | .map es => some es
    | _ => none
  | .romap es => some es
  | _ => none

/-- A slice that holds something, against the literal nil. -/
def nilA (C : Ctx) (op : BinOp) (t : TypeId) (v : AV) (y : Operand) : Option Bool :=
  match y, v with
  | .const (.slice none 0 0), .list _ cs _ => if cs.isEmpty then none else match C.T t with
    | some d => match d.shape, op with
      | .slice .., .eql => some false
      | .slice .., .neq => some true
      | _, _ => none
    | none => none
  | _, _ => none

/-- An operation that changes nothing that can be changed. -/
def lightA (C : Ctx) (e : Env) (H : AH) (o : Oper) : Option AV :=
  match o.op with
  | .move x | .assign x => evalA C e x
  | .pick c a b => match evalA C e c with
    | some (.bool t) => if t then evalA C e a else evalA C e b
    | _ => none
  | .load t a => match C.T t, evalA C e a with
    | some d, some v => loadA d H v
    | _, _ => none
  | .binOp op t x y _ => match evalA C e x, evalA C e y with
    | some v, some u => match nilA C op t v y with
      | some r => some (.bool r)
      | none => binA C op t v u
    | _, _ => none
  | .unOp op _ x => match evalA C e x with
    | some v => unA op v
    | _ => none
  | .build t ps => match C.T t, partsA C e ps.toList with
    | some d, some vs => match d.shape with
      | .struct fs => (fillA (fun i => (fs[i]?).map fun f => (f.1, f.2.1)) d.zero vs).map .agg
      | .array _ esz _ => (fillA (fun i => some (i * esz, esz)) d.zero vs).map .agg
      | _ => none
    | _, _ => none
  | .buildSlice t n ps => match C.T t, partsA C e ps.toList with
    | some d, some vs => match d.shape with
      | .slice esz _ ez => if n * esz ≤ 1024 ∧ 0 < esz then (fillA (fun i => some (i * esz, esz)) ((List.replicate n ez).flatten) vs).map fun cs => .list n cs .full else none
      | _ => none
    | _, _ => none
  | .makeFunc (.func f) first captured => match evalsA C e first.toList, evalsA C e captured.toList with
    | some x, some y => some (.func f x y)
    | _, _ => none
  | .slice t x lo hi mx => match C.T t, evalA C e x with
    | some d, some v =>
      match lo.map (evalA C e), hi.map (evalA C e), mx.map (evalA C e) with
      | some none, _, _ | _, some none, _ | _, _, some none => none
      | l, h, m => sliceA d v l.join h.join m.join
    | _, _ => none
  | .fieldAddr t x i => match C.T t, evalA C e x with
    | some d, some v => fieldAddrA d v i
    | _, _ => none
  | .field t x i => match C.T t, evalA C e x with
    | some d, some v => fieldA d v i
    | _, _ => none
  | .indexAddr t x i => match C.T t, evalA C e x, evalA C e i with
    | some d, some v, some u => indexAddrA d v u
    | _, _, _ => none
  | .index t x i => match C.T t, evalA C e x, evalA C e i with
    | some d, some v, some u => indexA d v u
    | _, _, _ => none
  | .lookup t x i ok => match C.T t, evalA C e x, evalA C e i with
    | some d, some m, some k => match d.shape, mapA H m with
      | .map kt z ea, some es => match C.T kt with
        | some dk => match findA dk k es with
          | some (some v) => some (if ok then .tuple [v, .bool true] else v)
          | some none => (pack ea z).map fun v => if ok then .tuple [v, .bool false] else v
          | none => none
        | none => none
      | _, _ => none
    | _, _, _ => none
  | .extract x i => match evalA C e x with
    | some (.tuple vs) => vs[i]?
    | _ => none
  | .call { callee := .builtin .len, args, argTypes } => match argTypes.toList, args.toList with
    | [t], [x] => match C.T t, evalA C e x with
      | some d, some v => lenA d v
      | _, _ => none
    | _, _ => none
  | .call { callee := .builtin .max, args, .. } => (evalsA C e args.toList).bind maxA
  | .call { callee := .builtin .min, args, .. } => (evalsA C e args.toList).bind minA
  | _ => none

/-- An operation that makes or changes a mutable object. 'wr': what an append makes may be written. -/
def heavyA (C : Ctx) (wr : Bool) (e : Env) (H : AH) (o : Oper) : Option (AV × AH) :=
  match o.op with
  | .box _ x => match evalA C e x with
    | some v => if v.cells.all AV.one then (if wr then some (.ptr H.n 0, H.push (.cells v.cells)) else some (.ro v.cells, H)) else none
    | none => none
  | .store t a x => match C.T t, evalA C e a, evalA C e x with
    | some d, some (.ptr id off), some v => match H.g id with
      | .cells cs =>
        if v.cells.length = d.size ∧ off + d.size ≤ cs.length ∧ v.cells.all AV.one = true then
          some (.tuple [], H.set id (.cells (cs.take off ++ v.cells ++ cs.drop (off + d.size))))
        else none
      | _ => none
    | _, _, _ => none
  | .makeSlice t l c => match C.T t, evalA C e l, evalA C e c with
    | some d, some (.int _ l), some (.int _ c) => match d.shape with
      | .slice esz eb ez => if 0 ≤ l ∧ l ≤ c ∧ c ≤ 2 ^ 40 ∧ eb * c ≤ 2 ^ 48 ∧ 0 < esz ∧ ez.length = esz then
          some (.ms H.n 0 l.toNat (some c.toNat), H.push (.cells (List.replicate c.toNat ez).flatten))
        else none
      | _ => none
    | _, _, _ => none
  | .makeMap _ none => some (.map H.n, H.push (.map []))
  | .mapUpdate t m k v => match C.T t, evalA C e m, evalA C e k, evalA C e v with
    | some d, some (.map id), some k, some v => match d.shape, H.g id with
      | .map kt _ _, .map es => match C.T kt with
        | some dk => (putA dk k v es).map fun es' => (.tuple [], H.set id (.map es'))
        | none => none
      | _, _ => none
    | _, _, _, _ => none
  | .call { callee := .builtin .append, args, argTypes } => match argTypes.toList, args.toList with
    | [t, u], [s, x] => match C.T t, C.T u, evalA C e s, evalA C e x with
      | some d, some du, some (.list n cs c), some xv => match d.shape, du.shape with
        | .slice esz eb _, .slice _ _ _ => match readA esz H xv with
          | some (m, ds) =>
            if cs.length = n * esz ∧ 0 < esz ∧ 0 < eb ∧ (2 * (n + m) + 1024) * eb ≤ 2 ^ 48 then
              if m = 0 then some (.list n cs c, H)
              else match c with
                | .full => if wr then some (.ms H.n 0 (n + m) none, H.push (.cells (cs ++ ds))) else some (.list (n + m) (cs ++ ds) (.tok H.n), H.push .own)
                | .tok id => match H.g id with
                  | .own => if 0 < n then some (.list (n + m) (cs ++ ds) (.tok H.n), (H.set id .gone).push .own) else none
                  | _ => none
                | .unk => none
            else none
          | none => none
        | _, _ => none
      | _, _, _, _ => none
    | _, _ => none
  | _ => none

def isAlloc (o : Oper) : Bool := match o.op with | .alloc _ => true | _ => false
/-- It may change what another operation of its region sees. -/
def isHeavy (o : Oper) : Bool := match o.op with
  | .box .. | .store .. | .makeSlice .. | .makeMap .. | .mapUpdate .. => true
  | .call { callee := .builtin .append, .. } => true
  | .call { callee := .value _, .. } => true
  | _ => false
def isReading (o : Oper) : Bool := match o.op with
  | .load .. | .lookup .. => true
  | _ => false
/-- How many variables the operations before the i-th make. -/
def rank (all : List Oper) (i : Nat) : Nat := ((all.take i).filter isAlloc).length
/-- The variables of a region, made ahead. -/
def allocsA (C : Ctx) (H : AH) : List Oper → Option AH
  | [] => some H
  | o :: l => match o.op with
    | .alloc t => match C.T t with
      | some d => allocsA C (H.push (.cells d.zero)) l
      | none => none
    | _ => allocsA C H l

def wantedA (all : List Oper) (e : Env) (o : Oper) : Option Bool :=
  match o.guard with
  | none => some true
  | some (j, want) => match (all[j]?).bind (·.dst) with
    | some d => match e d with
      | some (.bool b) => some (b == want)
      | some (.tuple []) => some false
      | _ => none
    | none => none

def Env.put (e : Env) (dst : Option Tmp) (v : AV) : Env :=
  match dst with
  | some d => e.set d v
  | none => e
def dstOk (N : Nat) (dst : Option Tmp) : Bool := match dst with | some d => decide (d < N) | none => true

/-- The temporaries ahead of the i-th operation. -/
def envAt (e : Env) : List Oper → List (AV × AH) → Nat → Env
  | _, _, 0 => e
  | o :: l, (v, _) :: tr, i + 1 => envAt (e.put o.dst v) l tr i
  | _, _, _ => e
def heapAt (H : AH) : List (AV × AH) → Nat → AH
  | _, 0 => H
  | (_, H') :: tr, i + 1 => heapAt H' tr i
  | [], _ => H

/-- All operations that come before the i-th in every order, as a number's bits. -/
def befores (all : List Oper) : List Nat :=
  all.foldl (init := []) fun acc o => acc ++ [o.after.toList.foldl (fun s e => if Region.binds .any e then s ||| 2 ^ e.on ||| acc.getD e.on 0 else s) 0]
def bef (B : List Nat) (i j : Nat) : Bool := (B.getD j 0).testBit i
def looksAt (all : List Oper) (o : Oper) : List Tmp :=
  (o.op.operands.toList.filterMap fun | .tmp t => some t | _ => none) ++
  (match o.guard with | some (g, _) => ((all[g]?).bind (·.dst)).toList | none => [])
def clash (all : List Oper) (x y : Oper) : Bool :=
  (match x.dst with | some d => (looksAt all y).contains d || y.dst == some d | none => false) ||
  (match y.dst with | some d => (looksAt all x).contains d | none => false)
/-- What of a region that draws its order hangs together comes in one order. -/
def regOk (all : List Oper) : Bool :=
  let B := befores all
  (all.zipIdx.all fun (o, j) => (o.after.toList.all fun e => !Region.binds .any e || decide (e.on < j))) &&
  (all.zipIdx.all fun (o, j) => all.zipIdx.all fun (p, i) => !(decide (i < j)) || bef B i j || !(clash all p o || (isHeavy p && isHeavy o)))
/-- The heavy operations that can come on either side of the i-th. -/
def beside (all : List Oper) (i : Nat) : List Nat :=
  let B := befores all
  all.zipIdx.filterMap fun (o, j) => if isHeavy o && j != i && !bef B j i && !bef B i j then some j else none
def Stable (C : Ctx) (all : List Oper) (e : Env) (H : AH) (tr : List (AV × AH)) : Prop :=
  ∀ i o, all[i]? = some o → isReading o = true → wantedA all (envAt e all tr i) o = some true → ∀ j ∈ beside all i,
    lightA C (envAt e all tr i) (heapAt H tr j) o = lightA C (envAt e all tr i) (heapAt H tr i) o ∧
    lightA C (envAt e all tr i) (heapAt H tr (j + 1)) o = lightA C (envAt e all tr i) (heapAt H tr i) o

def resA (C : Ctx) (e : Env) (H : AH) : List ResultVar → Option (List AV)
  | [] => some []
  | .tmp t :: l => match e t, resA C e H l with
    | some v, some vs => some (v :: vs)
    | _, _ => none
  | .cell a t :: l => match C.T t, e a, resA C e H l with
    | some d, some p, some vs => (loadA d H p).map (· :: vs)
    | _, _, _ => none
def retA : List AV → AV
  | [v] => v
  | vs => .tuple vs

/-- It holds no address of anything that can be changed. -/
inductive Pure : AV → Prop where
  | bool (b : Bool) : Pure (.bool b)
  | int (k : IntKind) (n : Int) : Pure (.int k n)
  | ro {cs : List AV} : (∀ a ∈ cs, Pure a) → Pure (.ro cs)
  | list {n : Nat} {cs : List AV} {c : Cap} : (∀ a ∈ cs, Pure a) → (∀ id, c ≠ .tok id) → Pure (.list n cs c)
  | nilmap : Pure .nilmap
  | romap {es : List (AV × AV)} : (∀ p ∈ es, Pure p.1) → (∀ p ∈ es, Pure p.2) → Pure (.romap es)
  | func {f : FuncId} {first captured : List AV} : (∀ a ∈ first, Pure a) → (∀ a ∈ captured, Pure a) → Pure (.func f first captured)
  | nilFunc : Pure .nilFunc
  | agg {cs : List AV} : (∀ a ∈ cs, Pure a) → Pure (.agg cs)
  | tuple {vs : List AV} : (∀ a ∈ vs, Pure a) → Pure (.tuple vs)

/-- The objects of a set are written no more: what holds them can be told by what they hold. -/
inductive Fz (S : Nat → Bool) (H : AH) : AV → AV → Prop where
  | refl (a : AV) : Fz S H a a
  | ptr {id off k : Nat} {cs : List AV} {cs' : List AV} : S id = true → H.g id = .cells cs → off + k ≤ cs.length → cs'.length = k →
      (∀ (j : Nat) a a', ((cs.drop off).take k)[j]? = some a → cs'[j]? = some a' → Fz S H a a') → Fz S H (.ptr id off) (.ro cs')
  | ms {id off n k : Nat} {cap : Option Nat} {cs : List AV} {cs' : List AV} : S id = true → H.g id = .cells cs → off + k ≤ cs.length → cs'.length = k →
      (∀ (j : Nat) a a', ((cs.drop off).take k)[j]? = some a → cs'[j]? = some a' → Fz S H a a') → Fz S H (.ms id off n cap) (.list n cs' (if cap = some n then .full else .unk))
  | map {id : Nat} {es es' : List (AV × AV)} : S id = true → H.g id = .map es → es'.length = es.length →
      (∀ (j : Nat) p p', es[j]? = some p → es'[j]? = some p' → Fz S H p.1 p'.1) → (∀ (j : Nat) p p', es[j]? = some p → es'[j]? = some p' → Fz S H p.2 p'.2) → Fz S H (.map id) (.romap es')
  | ro {cs cs' : List AV} : cs'.length = cs.length → (∀ (j : Nat) a a', cs[j]? = some a → cs'[j]? = some a' → Fz S H a a') → Fz S H (.ro cs) (.ro cs')
  | nilmap : Fz S H .nilmap (.romap [])
  | list {n : Nat} {cs cs' : List AV} {c c' : Cap} : cs'.length = cs.length → (∀ (j : Nat) a a', cs[j]? = some a → cs'[j]? = some a' → Fz S H a a') → (c' = c ∨ c' = .unk) → Fz S H (.list n cs c) (.list n cs' c')
  | agg {cs cs' : List AV} : cs'.length = cs.length → (∀ (j : Nat) a a', cs[j]? = some a → cs'[j]? = some a' → Fz S H a a') → Fz S H (.agg cs) (.agg cs')
  | tuple {cs cs' : List AV} : cs'.length = cs.length → (∀ (j : Nat) a a', cs[j]? = some a → cs'[j]? = some a' → Fz S H a a') → Fz S H (.tuple cs) (.tuple cs')
def FzO (S : Nat → Bool) (H : AH) (o o' : AObj) : Prop :=
  o' = o ∨ ∃ cs cs', o = .cells cs ∧ o' = .cells cs' ∧ cs'.length = cs.length ∧ ∀ (j : Nat) a a', cs[j]? = some a → cs'[j]? = some a' → Fz S H a a'

/-- The objects under other numbers: what the first number is now was the second one. -/
inductive Rn (ρ : Nat → Option Nat) : AV → AV → Prop where
  | pure {a : AV} : Pure a → Rn ρ a a
  | ptr {i j off : Nat} : ρ i = some j → Rn ρ (.ptr j off) (.ptr i off)
  | ms {i j off n : Nat} {c : Option Nat} : ρ i = some j → Rn ρ (.ms j off n c) (.ms i off n c)
  | map {i j : Nat} : ρ i = some j → Rn ρ (.map j) (.map i)
  | yieldf {i j : Nat} : ρ i = some j → Rn ρ (.yieldf j) (.yieldf i)
  | ro {cs cs' : List AV} : cs'.length = cs.length → (∀ (j : Nat) a a', cs[j]? = some a → cs'[j]? = some a' → Rn ρ a a') → Rn ρ (.ro cs) (.ro cs')
  | list {n : Nat} {cs cs' : List AV} {c c' : Cap} : cs'.length = cs.length → (∀ (j : Nat) a a', cs[j]? = some a → cs'[j]? = some a' → Rn ρ a a') →
      (c' = .unk ∨ (c' = .full ∧ c = .full) ∨ ∃ i j, c' = .tok i ∧ c = .tok j ∧ ρ i = some j) → Rn ρ (.list n cs c) (.list n cs' c')
  | func {f : FuncId} {fs fs' cs cs' : List AV} : fs'.length = fs.length → cs'.length = cs.length → (∀ (j : Nat) a a', fs[j]? = some a → fs'[j]? = some a' → Rn ρ a a') →
      (∀ (j : Nat) a a', cs[j]? = some a → cs'[j]? = some a' → Rn ρ a a') → Rn ρ (.func f fs cs) (.func f fs' cs')
  | agg {cs cs' : List AV} : cs'.length = cs.length → (∀ (j : Nat) a a', cs[j]? = some a → cs'[j]? = some a' → Rn ρ a a') → Rn ρ (.agg cs) (.agg cs')
  | tuple {cs cs' : List AV} : cs'.length = cs.length → (∀ (j : Nat) a a', cs[j]? = some a → cs'[j]? = some a' → Rn ρ a a') → Rn ρ (.tuple cs) (.tuple cs')
inductive RnO (ρ : Nat → Option Nat) : AObj → AObj → Prop where
  | cells {cs cs' : List AV} : cs'.length = cs.length → (∀ (j : Nat) a a', cs[j]? = some a → cs'[j]? = some a' → Rn ρ a a') → RnO ρ (.cells cs) (.cells cs')
  | map {es es' : List (AV × AV)} : es'.length = es.length → (∀ (j : Nat) p p', es[j]? = some p → es'[j]? = some p' → Rn ρ p.1 p'.1 ∧ Rn ρ p.2 p'.2) → RnO ρ (.map es) (.map es')
  | own : RnO ρ .own .own
  | loop {r r' : ALoop} : r'.st = r.st → r'.pend = r.pend → r'.N = r.N → r'.params = r.params → r'.assign = r.assign → r'.body = r.body →
      (∀ t v', r'.tmps t = some v' → ∃ v, r.tmps t = some v ∧ Rn ρ v v') → RnO ρ (.loop r) (.loop r')
  | gone {o : AObj} : RnO ρ o .gone

/-- Told with less: of slices it is not said what capacity they have. -/
inductive Wk : AV → AV → Prop where
  | refl (a : AV) : Wk a a
  | list {n : Nat} {cs cs' : List AV} {c c' : Cap} : cs'.length = cs.length → (∀ (j : Nat) a a', cs[j]? = some a → cs'[j]? = some a' → Wk a a') → (c' = c ∨ c' = .unk) → Wk (.list n cs c) (.list n cs' c')
  | agg {cs cs' : List AV} : cs'.length = cs.length → (∀ (j : Nat) a a', cs[j]? = some a → cs'[j]? = some a' → Wk a a') → Wk (.agg cs) (.agg cs')
  | ro {cs cs' : List AV} : cs'.length = cs.length → (∀ (j : Nat) a a', cs[j]? = some a → cs'[j]? = some a' → Wk a a') → Wk (.ro cs) (.ro cs')
  | nilmap : Wk .nilmap (.romap [])
inductive WkL : List AV → List AV → Prop where
  | nil : WkL [] []
  | cons {a a' : AV} {l l' : List AV} : Wk a a' → WkL l l' → WkL (a :: l) (a' :: l')

/-- No objects. -/
def AH.nil : AH := { n := 0, g := fun _ => .gone }

structure Fr where
  r : Bool
  N : Nat
  /-- how many objects there were when the frame began -/
  m : Nat

inductive J where
  | code (F : Fr) (c : Code) (e : Env) (H : AH) (x : AX) (e' : Env) (H' : AH)
  | ops (N : Nat) (all : List Oper) (base i : Nat) (l : List Oper) (e : Env) (H : AH) (tr : List (AV × AH)) (e' : Env) (H' : AH)
  | step (all : List Oper) (base i : Nat) (o : Oper) (e : Env) (H : AH) (v : AV) (H' : AH)
  | call (f : FuncId) (args : List AV) (H : AH) (v : AV) (H' : AH)
  | app (fv : AV) (args : List AV) (H : AH) (v : AV) (H' : AH)

inductive Ev (C : Ctx) : J → Prop where
  | skip {F e H} : Ev C (.code F .skip e H .normal e H)
  | label {F e H l} : Ev C (.code F (.label l) e H .normal e H)
  | exit {F e H id} : Ev C (.code F (.exit id) e H (.exit id) e H)
  | ret {F e H} : Ev C (.code F .ret e H .ret e H)
  | seq {F a b e H e1 H1 x e2 H2} : Ev C (.code F a e H .normal e1 H1) → Ev C (.code F b e1 H1 x e2 H2) → Ev C (.code F (.seq a b) e H x e2 H2)
  | seqx {F a b e H x e1 H1} : Ev C (.code F a e H x e1 H1) → x ≠ .normal → Ev C (.code F (.seq a b) e H x e1 H1)
  | cond {F c a b e H t x e1 H1} : evalA C e c = some (.bool t) → Ev C (.code F (if t then a else b) e H x e1 H1) → Ev C (.code F (.cond c a b) e H x e1 H1)
  | block {F id c e H x e1 H1} : Ev C (.code F c e H x e1 H1) → Ev C (.code F (.block id c) e H (if x = .exit id then .normal else x) e1 H1)
  | scope {F c e H x e1 H1} : Ev C (.code F c e H x e1 H1) → Ev C (.code F (.scope c) e H x e1 H1)
  | loop {F c e H e1 H1 x e2 H2} : Ev C (.code F c e H .normal e1 H1) → Ev C (.code F (.loop c) e1 H1 x e2 H2) → Ev C (.code F (.loop c) e H x e2 H2)
  | loopx {F c e H x e1 H1} : Ev C (.code F c e H x e1 H1) → x ≠ .normal → Ev C (.code F (.loop c) e H x e1 H1)
  | region {F id ops draw e H H0 tr e1 H1} : allocsA C H ops.toList = some H0 → Ev C (.ops F.N ops.toList H.n 0 ops.toList e H0 tr e1 H1) →
      (draw = true → regOk ops.toList = true ∧ Stable C ops.toList e H0 tr) → Ev C (.code F (.region id ops draw) e H .normal e1 H1)
  | rangeFunc {F f params assign body e H fv v H1} {R : ALoop} : F.r = false → evalA C e f = some fv →
      Ev C (.app fv [.yieldf H.n] (H.push (.loop { st := .ready, pend := .normal, N := F.N, tmps := e, params := params.toList, assign, body })) v H1) →
      H1.g H.n = .loop R → R.st ≠ .busy →
      Ev C (.code F (.rangeFunc f params assign body) e H R.pend e (H1.set H.n (.loop { R with st := .exhausted })))
  | weaken {F c e e0 H x e1 H1} : Env.le e0 e → Ev C (.code F c e0 H x e1 H1) → Ev C (.code F c e H x e1 H1)
  | drop {F c e H x e1 e2 H1} : Env.le e2 e1 → Ev C (.code F c e H x e1 H1) → Ev C (.code F c e H x e2 H1)
  | freeze {F c e e0 H H0 x e1 H1} (S : Nat → Bool) : (∀ i, i < F.m → S i = false ∧ H0.g i = H.g i) → (∀ t v, e0 t = some v → ∃ u, e t = some u ∧ Fz S H u v) → H0.n = H.n →
      (∀ i, (S i = true → H0.g i = .gone) ∧ (S i = false → FzO S H (H.g i) (H0.g i))) → Ev C (.code F c e0 H0 x e1 H1) → Ev C (.code F c e H x e1 H1)
  | rename {F c e e0 H H0 x e1 H1} (ρ : Nat → Option Nat) : F.m ≤ H0.n → (∀ i, i < F.m → ρ i = some i ∧ H0.g i = H.g i) → (∀ i j, ρ i = some j → i < H0.n ∧ RnO ρ (H.g j) (H0.g i)) →
      (∀ i i' j, ρ i = some j → ρ i' = some j → i = i') → (∀ t v', e0 t = some v' → ∃ v, e t = some v ∧ Rn ρ v v') → Ev C (.code F c e0 H0 x e1 H1) → Ev C (.code F c e H x e1 H1)
  | frame {f args v H H1} : Ev C (.call f args AH.nil v H1) → (∀ a ∈ args, Pure a) → Pure v → Ev C (.call f args H v H)
  | framed {fv fv0 args args0 H H0 v H0' H'} (ρ ρ' : Nat → Option Nat) : Ev C (.app fv0 args0 H0 v H0') → (∀ i j, ρ i = some j ↔ ρ' j = some i) →
      (∀ i j, ρ i = some j → i < H0.n ∧ j < H.n ∧ H0.g i ≠ .gone ∧ RnO ρ (H.g j) (H0.g i) ∧ RnO ρ' (H0'.g i) (H'.g j) ∧ (H0'.g i = H0.g i → H'.g j = H.g j)) →
      Rn ρ fv fv0 → args0.length = args.length → (∀ (k : Nat) a a', args[k]? = some a → args0[k]? = some a' → Rn ρ a a') → Pure v → H'.n = H.n → (∀ j, ρ' j = none → H'.g j = H.g j) → Ev C (.app fv args H v H')
  | nil {N all base i e H} : Ev C (.ops N all base i [] e H [] e H)
  | cons {N all base i o l e H v H1 tr e1 H2} : dstOk N o.dst = true → Ev C (.step all base i o e H v H1) → Ev C (.ops N all base (i + 1) l (e.put o.dst v) H1 tr e1 H2) →
      Ev C (.ops N all base i (o :: l) e H ((v, H1) :: tr) e1 H2)
  | skipped {all base i o e H} : wantedA all e o = some false → Ev C (.step all base i o e H (.tuple []) H)
  | light {all base i o e H v} : wantedA all e o = some true → isHeavy o = false → isAlloc o = false → lightA C e H o = some v → Ev C (.step all base i o e H v H)
  | alloc {all base i o e H t d} : wantedA all e o = some true → o.op = .alloc t → C.T t = some d → Ev C (.step all base i o e H (.ptr (base + rank all i) 0) H)
  | heavy {all base i o e H v H1} (wr : Bool) : wantedA all e o = some true → isHeavy o = true → heavyA C wr e H o = some (v, H1) → Ev C (.step all base i o e H v H1)
  | apply {all base i o e H f args ts fv vs v H1} : wantedA all e o = some true → o.op = .call { callee := .value f, args, argTypes := ts } → evalA C e f = some fv → evalsA C e args.toList = some vs →
      Ev C (.app fv vs H v H1) → Ev C (.step all base i o e H v H1)
  | wkapp {fv args args' H v H1} : WkL args args' → Ev C (.app fv args' H v H1) → Ev C (.app fv args H v H1)
  | func {f first captured args H v H1} : Ev C (.call f (first ++ args ++ captured) H v H1) → Ev C (.app (.func f first captured) args H v H1)
  | call {f fn c args H x e1 H1 vs} : C.P.funcs[f]? = some fn → fn.body = some c → (fn.name == "runtime.NumGoroutine") = false → args.length ≤ fn.ntmps →
      Ev C (.code { r := false, N := fn.ntmps, m := H.n } c (Env.args 0 args) H x e1 H1) → (x = .normal ∨ x = .ret) → resA C e1 H1 fn.results.toList = some vs → Ev C (.call f args H (retA vs) H1)
  | yield {l args H e1 H1 e2 H2 x} {R R1 R2 : ALoop} : H.g l = .loop R → R.st = .ready → args.length = R.params.length → (R.params.all fun p => decide (p < R.N)) = true →
      Ev C (.code { r := true, N := R.N, m := H.n } R.assign (R.tmps.sets (R.params.zip args)) H .normal e1 H1) → H1.g l = .loop R1 → R1.st = .ready →
      Ev C (.code { r := true, N := R.N, m := H.n } R.body e1 (H1.set l (.loop { R1 with st := .busy })) x e2 H2) → H2.g l = .loop R2 →
      Ev C (.app (.yieldf l) args H (.bool (x = .normal)) (H2.set l (.loop { R2 with st := (if x = .normal then .ready else .done), pend := x })))

end Go.Abs
