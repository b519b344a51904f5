/-
  The evaluator: the model's Code run over abstract memory, in passing style.
-/
import Derived.Test.YtofgaidlepmcmaaGreatDoorEvC
import GoSem.Dispatch
namespace Go.Ev
open Go

abbrev Env := List (Option Value)

def nth : Env → Nat → Option Value
  | [], _ => none
  | x :: _, 0 => x
  | _ :: r, n + 1 => nth r n
def setN : Env → Nat → Value → Env
  | [], _, _ => []
  | _ :: r, 0, v => some v :: r
  | x :: r, n + 1, v => x :: setN r n v
def refine (env : Env) (t : Nat) (b : Bool) : Env := setN env t (.bool b)
/-- What is still wanted. -/
def keepGo : Nat → List Nat → Env → Env
  | _, _, [] => []
  | i, [], _ :: r => none :: keepGo (i + 1) [] r
  | i, k :: ks, x :: r => bif Nat.beq i k then x :: keepGo (i + 1) ks r else none :: keepGo (i + 1) (k :: ks) r
def forget1 : Env → Nat → Env
  | [], _ => []
  | _ :: r, 0 => none :: r
  | x :: r, n + 1 => x :: forget1 r n
def forget (env : Env) (d : Option (List Nat)) : Env :=
  match d with
  | none => env
  | some l => keepGo 0 l env
def putE (env : Env) (dst : Option Tmp) (v : Value) : Env :=
  match dst with
  | some d => setN env d v
  | none => env

def opnd (env : Env) : Operand → Option Value
  | .tmp t => nth env t
  | .const v => bif plainV 4 v then some v else none
  | .global _ => none
  | .func f => some (.func (.func f) #[] #[])
def opnds (env : Env) : List Operand → Option (List Value)
  | [] => some []
  | x :: r => match opnd env x with
    | some v => match opnds env r with
      | some vs => some (v :: vs)
      | none => none
    | none => none
def parts (env : Env) : List (Nat × Operand) → Option (List (Nat × Value))
  | [] => some []
  | (i, x) :: r => match opnd env x with
    | some v => match parts env r with
      | some vs => some ((i, v) :: vs)
      | none => none
    | none => none

/-- What a piece of the model's meaning comes to where it asks of no memory. -/
def pureSem {α : Type} (P : Program) : Sem α → Option α
  | .pure a => some a
  | .program k => pureSem P (k P)
  | .mark _ k => pureSem P k
  | _ => none

section
variable {R : Type} (P : Program)

def optK {α : Type} (x : Option α) (K : α → Option R) : Option R :=
  match x with
  | some v => K v
  | none => none
/-- What has no address. -/
def plK (x : Option Value) (K : Value → Option R) : Option R :=
  match x with
  | some v => bif plainV 4 v then K v else none
  | none => none
def ifK (c : Prop) [Decidable c] (k : Option R) : Option R := if c then k else none
def castI (k : IntKind) (v : Value) (K : Int → Option R) : Option R :=
  match v with
  | .int k' n => if k' = k then K n else none
  | _ => none
def castB (v : Value) (K : Bool → Option R) : Option R :=
  match v with
  | .bool b => match b with
    | true => K true
    | false => K false
  | _ => none
def castV (v : Value) (K : Bool → Option R) : Option R :=
  match v with
  | .bool b => K b
  | _ => none
def castS (v : Value) (K : ByteArray → Option R) : Option R :=
  match v with
  | .string s => K s
  | _ => none
def castP (v : Value) (K : Option Addr → Option R) : Option R :=
  match v with
  | .pointer a => K a
  | _ => none
def castSl (v : Value) (K : Option Addr → Nat → Nat → Option R) : Option R :=
  match v with
  | .slice a n c => K a n c
  | _ => none
def castA (v : Value) (K : Array Value → Option R) : Option R :=
  match v with
  | .agg cs => K cs
  | _ => none
def castD : TypeDesc → Value → (Value → Option R) → Option R
  | .int k, v, K => castI k v fun n => K (.int k n)
  | .bool, v, K => castV v fun b => K (.bool b)
  | .string, v, K => castS v fun s => K (.string s)
  | .pointer _, v, K => castP v fun a => K (.pointer a)
  | .slice _, v, K => castSl v fun a n c => K (.slice a n c)
  | .struct _, v, K => castA v fun cs => K (.agg cs)
  | .array _ _, v, K => castA v fun cs => K (.agg cs)
  | _, v, K => K v
def castTup (v : Value) (K : List Value → Option R) : Option R :=
  match v with
  | .tuple vs => K vs.toList
  | _ => none
def headK (l : List Value) (K : Value → List Value → Option R) : Option R :=
  match l with
  | v :: r => K v r
  | [] => none
def nilK (l : List Value) (K : Unit → Option R) : Option R :=
  match l with
  | [] => K ()
  | _ => none
def castDs : List (Option TypeDesc) → List Value → (List Value → Option R) → Option R
  | [], l, K => nilK l fun _ => K []
  | some d :: ds, l, K => headK l fun v r => castD d v fun v => castDs ds r fun r => K (v :: r)
  | none :: _, _, _ => none
def castT (t : TypeId) (v : Value) (K : Value → Option R) : Option R :=
  match P.underlying t with
  | some (.tuple ts) => match ts.toList with
    | [] => K v
    | ts => castTup v fun l => castDs (ts.map P.underlying) l fun l => K (.tuple l.toArray)
  | some d => castD d v K
  | none => none

/-- An address that is there. -/
def addrK (v : Value) (K : Nat → Nat → Option R) : Option R :=
  match v with
  | .pointer (some ⟨i, o, none⟩) => K i o
  | _ => none

def cellsOf (t : TypeId) : Option Nat := (P.info? t).map (·.size)
def bytesOf (t : TypeId) : Option Nat := (P.info? t).map (·.bytes)
def aggT (t : TypeId) : Option Bool :=
  match P.underlying t with
  | some (.struct _) => some true
  | some (.array _ _) => some true
  | some _ => some false
  | none => none

/-- A type's zero value, without addresses. -/
def zeroA (t : TypeId) : Option Value :=
  match P.info? t with
  | some i => match i.zero with
    | some z => bif plainV 4 z && !isTup z then some z else none
    | none => none
  | none => none

def nilC (v : Value) (K : Value → Option R) : Option R :=
  match v with
  | .pointer none => none
  | .nilIface => none
  | .nilFunc => none
  | .func (.func f) a b => K (.func (.func f) a b)
  | .func _ _ _ => none
  | v => K v

def isCmp : BinOp → Bool
  | .eql | .neq => true
  | _ => false
def cmpB (op : BinOp) (b : Bool) : Bool := match op with | .neq => !b | _ => b
def isStr : Option TypeDesc → Bool
  | some .string => true
  | _ => false

def binO (op : BinOp) (xt : TypeId) (x y : Operand) (a b : Value) (K : Value → Option R) : Option R :=
  bif plainV 4 a && plainV 4 b then plK (pureSem P (do eqGuard op xt x y a b; binOp op xt a b)) K
  else bif isCmp op then
    match P.underlying xt, a, b with
    | some (.pointer _), .pointer p, .pointer none => K (.bool (cmpB op p.isNone))
    | some (.pointer _), .pointer none, .pointer q => K (.bool (cmpB op q.isNone))
    | some (.pointer e), .pointer (some ⟨i, o, none⟩), .pointer (some ⟨j, o', none⟩) =>
      match cellsOf P e with
      | some (_ + 1) => bif Nat.beq i j && Nat.beq o o' then K (.bool (cmpB op true)) else none
      | _ => none
    | some (.slice _), .slice p _ _, .slice none _ _ => K (.bool (cmpB op p.isNone))
    | some (.slice _), .slice none _ _, .slice q _ _ => K (.bool (cmpB op q.isNone))
    | some (.func _ _ _), .func _ _ _, .nilFunc => K (.bool (cmpB op false))
    | some (.func _ _ _), .nilFunc, .func _ _ _ => K (.bool (cmpB op false))
    | some (.interface _), .iface _ _, .nilIface => K (.bool (cmpB op false))
    | some (.interface _), .nilIface, .iface _ _ => K (.bool (cmpB op false))
    | _, _, _ => none
  else none

def binA (op : BinOp) (xt : TypeId) (x y : Operand) (a b : Value) (K : Value → Option R) : Option R :=
  match op, a, b with
  | .add, .string s, .string u => ifK (s.size + u.size ≤ 9223372036854775807) (K (.string (s ++ u)))
  | op, a, b => binO P op xt x y a b K

def optO (env : Env) (x : Option Operand) : Option (Option Value) :=
  match x with
  | none => some none
  | some x => match opnd env x with
    | some v => some (some v)
    | none => none
/-- A bound of a slice expression. -/
def boundK (d : Int) (x : Option Value) (K : Int → Option R) : Option R :=
  match x with
  | none => K d
  | some (.int _ n) => K n
  | _ => none

def sliceA (t : TypeId) (v : Value) (lo hi : Option Value) (K : Value → Option R) : Option R :=
  match P.underlying t with
  | some .string => castS v fun s => boundK 0 lo fun l => boundK s.size hi fun h => ifK (0 ≤ l ∧ l ≤ h ∧ h ≤ s.size) <|
      K (.string (s.extract l.toNat h.toNat))
  | some (.slice e) =>
    match v with
    | .slice none 0 0 => boundK 0 lo fun l => boundK 0 hi fun h => ifK (l = 0 ∧ h = 0) <| optK (cellsOf P e) fun _ => K (.slice none 0 0)
    | .slice (some ⟨i, o, none⟩) n st => boundK 0 lo fun l => boundK n hi fun h => ifK (0 ≤ l ∧ l ≤ h ∧ h ≤ n) <|
        optK (cellsOf P e) fun sz => ifK (sz = st) <|
        K (.slice (some ⟨i, o + l.toNat * st, none⟩) (h - l).toNat st)
    | _ => none
  | _ => none

def indexAddrA (t : TypeId) (v ix : Value) (K : Value → Option R) : Option R :=
  match ix with
  | .int _ n =>
    match P.underlying t with
    | some (.slice e) =>
      match v with
      | .slice (some ⟨i, o, none⟩) len st => optK (cellsOf P e) fun sz => ifK (sz = st) <| ifK (0 ≤ n ∧ n < len) <|
          K (.pointer (some ⟨i, o + n.toNat * st, none⟩))
      | _ => none
    | some (.array len e) => optK (cellsOf P e) fun sz => addrK v fun i o => ifK (0 ≤ n ∧ n < len) <|
          K (.pointer (some ⟨i, o + n.toNat * sz, none⟩))
    | _ => none
  | _ => none

def idxS (s : ByteArray) (n : Int) (K : Int → Option R) : Option R :=
  match (if 0 ≤ n then s[n.toNat]? else none) with
  | some b => K b.toNat
  | none => none

def indexA (t : TypeId) (v ix : Value) (K : Value → Option R) : Option R :=
  match ix with
  | .int _ n =>
    match P.underlying t with
    | some .string => castS v fun s => idxS s n fun b => K (.int .u8 b)
    | some (.array len e) => castA v fun cs => ifK (0 ≤ n ∧ n < len) <| optK (cellsOf P e) fun sz => optK (pureSem P (part e cs (n.toNat * sz))) K
    | _ => none
  | _ => none

def fieldAddrA (s : TypeId) (v : Value) (f : Nat) (K : Value → Option R) : Option R :=
  match P.underlying s with
  | some (.struct fs) =>
    match fs[f]? with
    | some fl =>
      match cellsOf P fl.type with
      | some (_ + 1) => addrK v fun i o => K (.pointer (some ⟨i, o + fl.offset, none⟩))
      | _ => none
    | none => none
  | _ => none

def lenA (t : TypeId) (v : Value) (K : Value → Option R) : Option R :=
  match P.underlying t with
  | some .string => castS v fun s => K (.int .i64 s.size)
  | some (.slice _) => castSl v fun _ n _ => K (.int .i64 n)
  | some (.array n _) => K (.int .i64 n)
  | _ => none

def pureBuiltin (b : Builtin) (argTypes : Array TypeId) (type : TypeId) (vs : List Value) (K : Value → Option R) : Option R :=
  match b, vs with
  | .len, [v] => match argTypes[0]? with
    | some t => lenA P t v K
    | none => none
  | .min, vs => bif vs.all (plainV 4) then plK (pureSem P (Builtin.min_ argTypes type vs.toArray)) K else none
  | .max, vs => bif vs.all (plainV 4) then plK (pureSem P (Builtin.max_ argTypes type vs.toArray)) K else none
  | _, _ => none

def isIfc : Option TypeDesc → Bool
  | some (.interface _) => true
  | none => true
  | _ => false
/-- x.(T), T no interface type. -/
def assertA (ty : TypeId) (ok : Bool) (v : Value) (K : Value → Option R) : Option R :=
  bif isIfc (P.underlying ty) then none
  else match v with
    | .iface t u => bif Nat.beq t ty then (bif ok then K (.tuple #[u, .bool true]) else K u)
        else (bif ok then optK (zeroA P ty) fun z => K (.tuple #[z, .bool false]) else none)
    | .nilIface => bif ok then optK (zeroA P ty) fun z => K (.tuple #[z, .bool false]) else none
    | _ => none

/-- An operation that neither reads nor turns memory. -/
def evPure (o : Oper) (env : Env) (K : Value → Option R) : Option R :=
  match o.op with
  | .move x => optK (opnd env x) K
  | .assign x => optK (opnd env x) K
  | .pick c a b => optK (opnd env c) fun c => castB c fun c => optK (opnd env (bif c then a else b)) K
  | .build t ps => optK (zeroA P t) fun _ => optK (parts env ps.toList) fun l => bif l.all (fun p => !isTup p.2) then optK (pureSem P (Instr.build t l.toArray)) K else none
  | .nilCheck x => optK (opnd env x) fun v => nilC v K
  | .binOp op xt x y _ => optK (opnd env x) fun a => optK (opnd env y) fun b => binA P op xt x y a b fun v => castT P o.type v K
  | .unOp op _ x => optK (opnd env x) fun a => bif plainV 4 a then plK (pureSem P (Op.unary op a)) fun v => castT P o.type v K else none
  | .convert s d x => optK (opnd env x) fun a => bif plainV 4 a then plK (pureSem P (convert s d a)) K else none
  | .makeInterface t x => optK (opnd env x) fun a => optK (pureSem P (Instr.makeInterface t a)) K
  | .makeFunc f xs ys => optK (opnds env xs.toList) fun a => optK (opnds env ys.toList) fun b => K (.func f a.toArray b.toArray)
  | .slice t x lo hi none => optK (opnd env x) fun v => optK (optO env lo) fun l => optK (optO env hi) fun h => sliceA P t v l h fun v => castT P o.type v K
  | .fieldAddr s x f => optK (opnd env x) fun v => fieldAddrA P s v f K
  | .field t x f => optK (opnd env x) fun v => castA v fun cs => optK (pureSem P (Instr.field t (.agg cs) f)) fun v => castT P o.type v K
  | .indexAddr t x ix => optK (opnd env x) fun v => optK (opnd env ix) fun i => indexAddrA P t v i K
  | .index t x ix => optK (opnd env x) fun v => optK (opnd env ix) fun i => indexA P t v i fun v => castT P o.type v K
  | .extract t ix => optK (opnd env t) fun v => castTup v fun vs => optK vs[ix]? fun v => castT P o.type v K
  | .typeAssert x _ ty ok => optK (opnd env x) fun v => assertA P ty ok v K
  | .call { callee := .builtin b, args, argTypes } => optK (opnds env args.toList) fun vs => pureBuiltin P b argTypes o.type vs K
  | _ => none

/-- An operation that only reads: what it reads, out of memory 'h'. -/
def ldV (t : TypeId) (i o : Nat) (h : H) : Option Value :=
  match aggT P t with
  | some true =>
    match cellsOf P t with
    | some n => match ldCells h i o n with
      | some l => some (.agg l.toArray)
      | none => none
    | none => none
  | some false => ldCell h i o
  | none => none
def eqA : Option Addr → Option Addr → Bool
  | none, none => true
  | some a, some b => Nat.beq a.block b.block && Nat.beq a.off b.off && (match a.spot, b.spot with | none, none => true | _, _ => false)
  | _, _ => false
/-- The same value (a yes is sure). -/
def eqV : Nat → Value → Value → Bool
  | 0, _, _ => false
  | d + 1, v, u => match v, u with
    | .bool a, .bool b => a == b
    | .int j a, .int k b => decide (j = k) && decide (a = b)
    | .string a, .string b => decide (a.data.toList = b.data.toList)
    | .pointer a, .pointer b => eqA a b
    | .slice a n c, .slice b m e => eqA a b && Nat.beq n m && Nat.beq c e
    | .map none, .map none => true
    | .map (some a), .map (some b) => Nat.beq a b
    | .nilFunc, .nilFunc => true
    | .nilIface, .nilIface => true
    | .iface t x, .iface s y => Nat.beq t s && eqV d x y
    | .agg xs, .agg ys => eqVs d xs.toList ys.toList
    | _, _ => false
where
  eqVs (d : Nat) : List Value → List Value → Bool
    | [], [] => true
    | x :: xs, y :: ys => eqV d x y && eqVs d xs ys
    | _, _ => false

/-- The same is read there. -/
def sameLd (t : TypeId) (i p : Nat) (v : Value) (h : H) : Bool :=
  match ldV P t i p h with
  | some u => eqV 6 u v
  | none => false

def bytesA : List Value → ByteArray → Option ByteArray
  | [], acc => some acc
  | .int .u8 n :: r, acc => bytesA r (acc.push (UInt8.ofNat n.toNat))
  | _ :: _, _ => none

def strOf (h : H) (v : Value) : Option ByteArray :=
  match v with
  | .slice none 0 0 => some .empty
  | .slice (some ⟨i, o, none⟩) n 1 => match ldCells h i o n with
    | some l => bytesA l .empty
    | none => none
  | _ => none

def sameStr (v : Value) (s : ByteArray) (h : H) : Bool :=
  match strOf h v with
  | some t => decide (t.data.toList = s.data.toList)
  | none => false
/-- Is a conversion one of bytes to a text? -/
def isStrConv (s d : TypeId) : Bool :=
  match P.underlying s, P.underlying d with
  | some (.slice e), some .string => match P.underlying e with
    | some (.int .u8) => true
    | _ => false
  | _, _ => false
def evLoad (o : Oper) (env : Env) (h : H) (K : (H → Bool) → Value → Option R) : Option R :=
  match o.op with
  | .load t x => optK (opnd env x) fun v => addrK v fun i p => optK (ldV P t i p h) fun v => castT P t v fun v => K (sameLd P t i p v) v
  | .convert s d x => optK (opnd env x) fun v => bif isStrConv P s d then optK (strOf h v) fun s => K (sameStr v s) (.string s) else none
  | _ => none

/-- An operation that makes a row: its cells, and the value by the row's number. -/
def evFreshO (o : Oper) (env : Env) (K : List Value → (Nat → Value) → Option R) : Option R :=
  match o.op with
  | .alloc t => optK (zeroA P t) fun z => K z.cells.toList (fun n => .pointer (some ⟨n, 0, none⟩))
  | .box _ x => optK (opnd env x) fun v => bif isTup v then none else K v.cells.toList (fun n => .pointer (some ⟨n, 0, none⟩))
  | .buildSlice t len ps => optK (parts env ps.toList) fun l => bif l.all (fun p => !isTup p.2) then
      match P.underlying t with
      | some (.slice e) => match P.info? e with
        | some i => optK (zeroA P e) fun z => bif Nat.ble (len * i.size) 1000000 && Nat.beq z.cells.size i.size then
              match Instr.fill (fun j => some (j * i.size, i.size)) ((Array.range (len * i.size)).map (z.cells[· % z.cells.size]!)) l with
              | some cs => K cs.toList (fun n => .slice (some ⟨n, 0, none⟩) len i.size)
              | none => none
            else none
        | none => none
      | _ => none
    else none
  | .makeSlice t len cap => optK (opnd env len) fun l => optK (opnd env cap) fun c =>
      match l, c with
      | .int _ l, .int _ c =>
        match P.underlying t with
        | some (.slice e) => match P.info? e with
          | some i => optK (zeroA P e) fun z => bif Nat.beq z.cells.size i.size then
                ifK (0 ≤ l ∧ l ≤ c ∧ c ≤ 1000000 ∧ i.bytes ≤ 1000000) <|
                K (List.replicate l.toNat z.cells.toList).flatten (fun n => .slice (some ⟨n, 0, none⟩) l.toNat i.size)
              else none
          | none => none
        | _ => none
      | _, _ => none
  | _ => none

def one : Nat → List (Nat × Operand) → Option Operand
  | 1, [(0, x)] => some x
  | _, _ => none
def evFresh (o : Oper) (env : Env) (K : List Value → (Nat → Value) → Option R) : Option R :=
  match o.op with
  | .buildSlice t len ps => match one len ps.toList with
    | some x => optK (opnd env x) fun v => bif isTup v then none else
      match P.underlying t with
      | some (.slice e) => match P.info? e with
        | some i => optK (zeroA P e) fun z => bif Nat.ble i.size 1000000 && Nat.beq z.cells.size i.size then
            ifK (v.cells.size = i.size) (K v.cells.toList (fun n => .slice (some ⟨n, 0, none⟩) 1 i.size)) else none
        | none => none
      | _ => none
    | none => evFreshO P o env K
  | _ => evFreshO P o env K

/-- The cells that are appended or copied. -/
def srcCells (h : H) (sz : Nat) (v : Value) (K : Nat → List Value → Option R) : Option R :=
  match v with
  | .slice none 0 0 => K 0 []
  | .slice (some ⟨_, _, none⟩) 0 _ => K 0 []
  | .slice (some ⟨i, o, none⟩) n st => ifK (sz = st) <| optK (ldCells h i o (n * sz)) (K n)
  | .string s => ifK (sz = 1) <| K s.size (s.data.toList.map fun b => .int .u8 b.toNat)
  | _ => none

def isSeq : TypeDesc → Bool
  | .slice _ => true
  | .string => true
  | _ => false
def appendA (argTypes : Array TypeId) (s x : Value) (h : H) (K : Value → H → Option R) : Option R :=
  match argTypes.toList with
  | [st, xt] =>
    match P.underlying st, P.underlying xt with
    | some (.slice e), some xd =>
      match P.info? e with
      | some inf =>
        optK (zeroA P e) fun z =>
        ifK (z.cells.size = inf.size ∧ 1 ≤ inf.bytes ∧ isSeq xd = true) <|
        srcCells h inf.size x fun m new =>
        match m with
        | 0 => castSl s fun a n c => K (.slice a n c) h
        | m + 1 =>
          match s with
          | .slice none 0 0 => ifK ((m + 1) * inf.bytes ≤ 35184372088832) <| K (.slice (some ⟨h.next, 0, none⟩) (m + 1) inf.size) (h.new (.cells new false))
          | .slice (some ⟨i, o, none⟩) n c => ifK (c = inf.size) <|
              optK (ldCells h i o (n * inf.size)) fun old =>
              match h.get i with
              | some (.cells _ false) => ifK ((n + (m + 1)) * inf.bytes ≤ 35184372088832) <|
                  K (.slice (some ⟨h.next, 0, none⟩) (n + (m + 1)) inf.size) ((h.del i).new (.cells (old ++ new) false))
              | _ => none
          | _ => none
      | none => none
    | _, _ => none
  | _ => none

def copyA (argTypes : Array TypeId) (d x : Value) (h : H) (K : Value → H → Option R) : Option R :=
  match argTypes.toList with
  | [dt, _] =>
    match P.underlying dt with
    | some (.slice e) =>
      match cellsOf P e with
      | some sz =>
        srcCells h sz x fun m new =>
        match d with
        | .slice none 0 0 => K (.int .i64 0) h
        | .slice (some ⟨i, o, none⟩) n c => ifK (c = sz) <|
            optK (stCells h i o (new.take (Nat.min m n * sz))) fun h' => K (.int .i64 (Nat.min m n : Nat)) h'
        | _ => none
      | none => none
    | _ => none
  | _ => none

def keyEq : Value → Value → Bool
  | .string a, .string b => a == b
  | .int k a, .int k' b => decide (k = k') && decide (a = b)
  | _, _ => false
def keyOk : Option TypeDesc → Value → Bool
  | some .string, .string _ => true
  | some (.int k), .int k' _ => decide (k' = k)
  | _, _ => false
/-- Looked up (the outer none: a key that is none of that kind). -/
def mfind (d : Option TypeDesc) (k : Value) : List (Value × Value) → Option (Option Value)
  | [] => some none
  | (x, v) :: r => bif keyOk d x then (bif keyEq k x then some (some v) else mfind d k r) else none
def mset (d : Option TypeDesc) (k v : Value) : List (Value × Value) → Option (List (Value × Value))
  | [] => some [(k, v)]
  | (x, u) :: r => bif keyOk d x then
      (bif keyEq k x then some ((k, v) :: r) else match mset d k v r with
        | some l => some ((x, u) :: l)
        | none => none)
      else none

/-- What a called function value comes to. -/
abbrev CallF := FuncId → List Value → H → Option (Value × H)

def callK (call : CallF) (f : FuncId) (args : List Value) (h : H) (K : Value → H → Option R) : Option R :=
  match call f args h with
  | some (v, h') => K v h'
  | none => none

def hasBody (f : FuncId) : Bool :=
  match P.funcs[f]? with
  | some fn => fn.body.isSome
  | none => false

def doCall (call : CallF) (t : TypeId) (f : FuncId) (args : List Value) (h : H) (K : Value → H → Option R) : Option R :=
  bif hasBody P f then callK call f args h fun v h' => castT P t v fun v => K v h'
  else match P.funcs[f]? with
    | some fn => match Extern.findNext fn, Extern.find fn with
      | none, some e => bif args.all (plainV 4) then optK (pureSem P (e args.toArray)) fun v => bif plainV 4 v then castT P t v fun v => K v h else none else none
      | _, _ => none
    | none => none

/-- A call of a value. -/
def callVK (call : CallF) (t : TypeId) (fv : Value) (vs : List Value) (h : H) (K : Value → H → Option R) : Option R :=
  match fv with
  | .func (.func g) first captured => doCall P call t g (first.toList ++ vs ++ captured.toList) h K
  | _ => none
/-- The next rune of a text. -/
def nextK (h : H) (i : Nat) (T : Nat → Int → H → Option R) (F : Option R) : Option R :=
  match h.get i with
  | some (.iter s pos) => if pos < s.size then T pos (Utf8.decode s pos).1 (h.put i (.iter s (pos + (Utf8.decode s pos).2))) else F
  | _ => none
/-- A type of two cells, a pointer to one of its own and a row of bytes: strings.Builder. -/
def isBld (t : TypeId) : Bool :=
  match P.underlying t with
  | some (.struct fs) => match fs.toList with
    | [f, g] => match P.underlying f.type, P.underlying g.type with
      | some (.pointer e), some (.slice b) => Nat.beq e t && (match P.underlying b with | some (.int .u8) => true | _ => false)
      | _, _ => false
    | _ => false
  | _ => false
def evEff (call : CallF) (o : Oper) (env : Env) (h : H) (K : Value → H → Option R) : Option R :=
  match o.op with
  | .store t a x => optK (opnd env a) fun av => optK (opnd env x) fun v => addrK av fun i p =>
      bif isTup v then none else
      ifK (cellsOf P t = some v.cells.size) <| optK (stCells h i p v.cells.toList) fun h' => K (.tuple #[]) h'
  | .convert s d x => optK (opnd env x) fun v =>
      match P.underlying s, P.underlying d with
      | some (.slice e), some .string => match P.underlying e with
        | some (.int .u8) => optK (strOf h v) fun s => K (.string s) h
        | _ => none
      | some .string, some (.slice e) => match P.underlying e, v with
        | some (.int .u8), .string s => ifK (s.size ≤ 35184372088832) <| K (.slice (some ⟨h.next, 0, none⟩) s.size 1) (h.new (.cells (s.data.toList.map fun b => .int .u8 b.toNat) false))
        | _, _ => none
      | _, _ => none
  | .call { callee := .builtin .append, args, argTypes } => optK (opnds env args.toList) fun vs => match vs with
    | [s, x] => appendA P argTypes s x h fun v h => castT P o.type v fun v => K v h
    | _ => none
  | .call { callee := .builtin .copy, args, argTypes } => optK (opnds env args.toList) fun vs => match vs with
    | [s, x] => copyA P argTypes s x h fun v h => castT P o.type v fun v => K v h
    | _ => none
  | .call { callee := .value f, args, .. } => optK (opnd env f) fun fv => optK (opnds env args.toList) fun vs =>
      callVK P call o.type fv vs h fun v h => castT P o.type v fun v => K v h
  | .range t x => optK (opnd env x) fun v => match P.underlying t, v with
    | some .string, .string s => K (.pointer (some ⟨h.next, 0, none⟩)) (h.new (.iter s 0))
    | _, _ => none
  | .next it true => optK (opnd env it) fun v => addrK v fun i p => ifK (p = 0) <|
      nextK h i (fun pos c h => K (.tuple #[.bool true, .int .i64 pos, .int .i32 c]) h) (K (.tuple #[.bool false]) h)
  | .makeMap _ none => K (.map (some h.next)) (h.new (.map []))
  | .mapUpdate t m k x => optK (opnd env m) fun m => optK (opnd env k) fun k => optK (opnd env x) fun x => match P.underlying t, m with
    | some (.map kt _), .map (some i) => bif keyOk (P.underlying kt) k then match h.get i with
      | some (.map es) => optK (mset (P.underlying kt) k x es) fun es => K (.tuple #[]) (h.put i (.map es))
      | _ => none
      else none
    | _, _ => none
  | .lookup t m k ok => optK (opnd env m) fun m => optK (opnd env k) fun k => match P.underlying t with
    | some (.map kt et) => bif keyOk (P.underlying kt) k then
        match (match m with
          | .map none => some []
          | .map (some i) => match h.get i with
            | some (.map es) => some es
            | _ => none
          | _ => none) with
        | some es => optK (mfind (P.underlying kt) k es) fun f => match f with
          | some v => bif ok then K (.tuple #[v, .bool true]) h else castT P o.type v fun v => K v h
          | none => optK (zeroA P et) fun z => bif ok then K (.tuple #[z, .bool false]) h else castT P o.type z fun v => K v h
        | none => none
      else none
    | _ => none
  | .alloc t => bif isBld P t then optK (zeroA P t) fun z => K (.pointer (some ⟨h.next, 0, none⟩)) (h.new (.typed t z.cells.toList true)) else none
  | _ => none

inductive Cls where
  | pure | load | fresh | eff
  deriving DecidableEq

def clsB : Builtin → Cls
  | .len | .min | .max => .pure
  | _ => .eff
/-- Does a conversion ask of memory? -/
def convEff (s d : TypeId) : Bool :=
  match P.underlying s, P.underlying d with
  | some (.slice _), some .string => true
  | some .string, some (.slice _) => true
  | _, _ => false
def cls : Op → Cls
  | .load _ _ => .load
  | .alloc t => bif isBld P t then .eff else .fresh
  | .box _ _ | .buildSlice _ _ _ | .makeSlice _ _ _ => .fresh
  | .store _ _ _ | .range _ _ | .next _ _ | .makeMap _ _ | .mapUpdate _ _ _ _ | .lookup _ _ _ _ | .insert _ _ _ _ | .mapEntry _ _ _ | .entryStore _ _ _ _ => .eff
  | .call { callee := .builtin b, .. } => clsB b
  | .call _ => .eff
  | .convert s d _ => bif isStrConv P s d then .load else bif convEff P s d then .eff else .pure
  | _ => .pure

def evOp (call : CallF) (o : Oper) (env : Env) (h : H) (K : Value → H → Option R) : Option R :=
  match cls P o.op with
  | .pure => evPure P o env fun v => K v h
  | .load => evLoad P o env h fun _ v => K v h
  | .fresh => evFresh P o env fun cs mk => K (mk h.next) (h.new (.cells cs false))
  | .eff => evEff P call o env h K

/-- Is the operation wanted? (none: not known) -/
def wantedE (ops : Array Oper) (o : Oper) (env : Env) : Option Bool :=
  match o.guard with
  | none => some true
  | some (j, want) =>
    match (match ops[j]? with | some p => p.dst | none => none) with
    | none => none
    | some t => match nth env t with
      | some (.bool b) => some (match b, want with | true, true => true | false, false => true | _, _ => false)
      | some (.tuple _) => some false
      | _ => none

/-- The same, in passing style. -/
def wantK (ops : Array Oper) (o : Oper) (env : Env) (K : Bool → Env → Option R) : Option R :=
  match o.guard with
  | none => K true env
  | some (j, want) =>
    match (match ops[j]? with | some p => p.dst | none => none) with
    | none => none
    | some t => match nth env t with
      | some (.bool b) => castB (.bool b) fun b => K (match b, want with | true, true => true | false, false => true | _, _ => false) (refine env t b)
      | some (.tuple _) => K false env
      | _ => none
theorem setN_same : ∀ {env : Env} {t : Nat} {v : Value}, nth env t = some v → setN env t v = env
  | [], _, _, h => by cases h
  | _ :: _, 0, _, h => by simp only [nth] at h; simp only [setN, h]
  | _ :: _, _ + 1, _, h => by simp only [nth] at h; simp only [setN, setN_same h]
theorem wantK_some {ops : Array Oper} {o : Oper} {env : Env} {K : Bool → Env → Option R} {r : R} (h : wantK ops o env K = some r) : ∃ b, wantedE ops o env = some b ∧ K b env = some r := by
  unfold wantK at h
  unfold wantedE
  split at h
  · exact ⟨true, rfl, h⟩
  · rename_i j want hg
    split at h
    · cases h
    · rename_i t ht
      split at h
      · rename_i b hb
        have e : refine env t b = env := setN_same hb
        cases b with
        | true => exact ⟨_, rfl, by simpa only [castB, e] using h⟩
        | false => exact ⟨_, rfl, by simpa only [castB, e] using h⟩
      · rename_i vs hb
        exact ⟨false, rfl, h⟩
      · cases h

def evSeq (call : CallF) (ops : Array Oper) : List Oper → Env → H → (Env → H → Option R) → Option R
  | [], env, h, K => K env h
  | o :: r, env, h, K => wantK ops o env fun b env =>
    match b with
    | true => evOp P call o env h fun v h' => evSeq call ops r (putE env o.dst v) h' K
    | false => evSeq call ops r (putE env o.dst (.tuple #[])) h K
end

end Go.Ev
