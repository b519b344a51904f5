/-
  Regions that draw, code, calls.
-/
import Derived.Test.YtfcpmipdikjgpaaEvD
import Derived.Orders
namespace Go.Ev
open Go

def eqA : Option Addr → Option Addr → Bool
  | none, none => true
  | some a, some b => Nat.beq a.block b.block && Nat.beq a.off b.off && (match a.spot, b.spot with | none, none => true | _, _ => false)
  | _, _ => false
/-- The same value (a yes is sure). -/
def eqV : Nat → Value → Value → Bool
  | 0, _, _ => false
  | d + 1, v, u => match v, u with
    | .bool a, .bool b => a == b
    | .int j a, .int k b => decide (j = k) && decide (a = b)
    | .string a, .string b => decide (a.data.toList = b.data.toList)
    | .pointer a, .pointer b => eqA a b
    | .slice a n c, .slice b m e => eqA a b && Nat.beq n m && Nat.beq c e
    | .map none, .map none => true
    | .map (some a), .map (some b) => Nat.beq a b
    | .nilFunc, .nilFunc => true
    | .nilIface, .nilIface => true
    | .iface t x, .iface s y => Nat.beq t s && eqV d x y
    | .agg xs, .agg ys => eqVs d xs.toList ys.toList
    | _, _ => false
where
  eqVs (d : Nat) : List Value → List Value → Bool
    | [], [] => true
    | x :: xs, y :: ys => eqV d x y && eqVs d xs ys
    | _, _ => false

section
variable {R : Type} (P : Program)

/-- The same is read there. -/
def sameLd (t : TypeId) (i p : Nat) (v : Value) (h : H) : Bool :=
  match ldV P t i p h with
  | some u => eqV 6 u v
  | none => false

/-- The same is read at all of these. -/
def sameK (t : TypeId) (i p : Nat) (v : Value) : List H → (Unit → Option R) → Option R
  | [], k => k ()
  | h :: r, k => bif sameLd P t i p v h then sameK t i p v r k else none

def evDraw (call : CallF) (ops : Array Oper) : List (Nat × Nat) → Env → H → List H → (Env → H → Option R) → Option R
  | [], env, h, _, K => K env h
  | (i, lo) :: r, env, h, hist, K =>
    match ops[i]? with
    | none => none
    | some o =>
      match wantedE ops o env with
      | none => none
      | some false => match cls P o.op with
        | .eff => evDraw call ops r (putE env o.dst (.tuple #[])) h (h :: hist) K
        | _ => evDraw call ops r (putE env o.dst (.tuple #[])) h hist K
      | some true => match cls P o.op with
        | .pure => evPure P o env fun v => evDraw call ops r (putE env o.dst v) h hist K
        | .load => match hist with
          | [] => none
          | h0 :: old => evLoad P o env h0 fun i p t v =>
              sameK P t i p v (old.take (old.length - lo)) fun _ => evDraw call ops r (putE env o.dst v) h hist K
        | .fresh => evFresh P o env fun cs mk => evDraw call ops r (putE env o.dst (mk h.next)) (h.new (.cells cs false)) hist K
        | .eff => evEff P call o env h fun v h' => evDraw call ops r (putE env o.dst v) h' (h' :: hist) K

/-- What each operation waits for, as bits. -/
def bitsGo (acc : List Nat) : List Oper → List Nat
  | [] => acc.reverse
  | o :: r => bitsGo (o.after.toList.foldl (fun s e => bif Region.binds .any e then s ||| 2 ^ e.on ||| acc.reverse.getD e.on 0 else s) 0 :: acc) r
def planGo (b : List Nat) : List Nat → List Nat → List Nat
  | [], rest => rest
  | e :: es, rest => (rest.filter fun x => (b.getD e 0).testBit x) ++ e :: planGo b es (rest.filter fun x => !(b.getD e 0).testBit x)
def isEff (ops : Array Oper) (i : Nat) : Bool :=
  match ops[i]? with
  | some o => match cls P o.op with
    | .eff => true
    | _ => false
  | none => false
def plan (ops : Array Oper) (b : List Nat) : List (Nat × Nat) :=
  let es := (List.range ops.size).filter (isEff P ops)
  (planGo b es ((List.range ops.size).filter fun i => !isEff P ops i)).map fun x => (x, (es.filter fun e => (b.getD x 0).testBit e).length)

/-- The bits are what they should be. -/
def bitsOk (ops : Array Oper) (b : List Nat) : Bool :=
  (List.range ops.size).all fun x => match ops[x]? with
    | some o => Nat.beq (b.getD x 0) (o.after.toList.foldl (fun s e => bif Region.binds .any e then s ||| 2 ^ e.on ||| b.getD e.on 0 else s) 0) &&
        o.after.toList.all fun e => !Region.binds .any e || Nat.blt e.on x
    | none => false
def dstOf (ops : Array Oper) (x : Nat) : Option Tmp := (ops[x]?).bind (·.dst)
def dstOk (ops : Array Oper) : Bool :=
  (List.range ops.size).all fun x => (List.range x).all fun y => match dstOf ops x, dstOf ops y with
    | some s, some t => !Nat.beq s t
    | _, _ => true
def isOp (x : Option Tmp) (t : Tmp) : Bool :=
  match x with
  | some s => Nat.beq s t
  | none => false
def lookOk (ops : Array Oper) (b : List Nat) (y m : Nat) : Bool :=
  match ops[y]? with
  | none => false
  | some o => (o.looksAt ops).all fun t => (List.range ops.size).all fun x =>
      Nat.beq x y || !isOp (dstOf ops x) t || (bif m.testBit x then (b.getD y 0).testBit x else (b.getD x 0).testBit y)
def goOk (ops : Array Oper) (b : List Nat) : Nat → List Nat → List (Nat × Nat) → Bool
  | m, _, [] => Nat.beq m (2 ^ ops.size - 1)
  | m, el, (y, lo) :: r =>
    Nat.blt y ops.size && !m.testBit y && Nat.beq (b.getD y 0 &&& m) (b.getD y 0) && lookOk ops b y m &&
    (bif isEff P ops y then Nat.beq (b.getD y 0) m && goOk ops b (m ||| 2 ^ y) (y :: el) r
     else (match lo with
        | 0 => true
        | l + 1 => match el.reverse[l]? with
          | some e => (b.getD y 0).testBit e
          | none => false) && goOk ops b (m ||| 2 ^ y) el r)
def drawOk (ops : Array Oper) (b : List Nat) (pl : List (Nat × Nat)) : Bool :=
  bitsOk ops b && dstOk ops && goOk P ops b 0 [] pl

def evRegion (call : CallF) (ops : Array Oper) (draw : Bool) (env : Env) (h : H) (K : Env → H → Option R) : Option R :=
  match draw with
  | false => evSeq P call ops ops.toList env h K
  | true => bif drawOk P ops (bitsGo [] ops.toList) (plan P ops (bitsGo [] ops.toList)) then evDraw P call ops (plan P ops (bitsGo [] ops.toList)) env h [h] K else none

/-! What follows a piece. -/
def seqK (b : Env → H → Option R) (K : Exit → Env → H → Option R) : Exit → Env → H → Option R := fun x env h =>
  match x with
  | .normal => b env h
  | x => K x env h
def blockK (id : Nat) (K : Exit → Env → H → Option R) : Exit → Env → H → Option R := fun x env h =>
  match x with
  | .exit j => bif Nat.beq j id then K .normal env h else K (.exit j) env h
  | x => K x env h
def scopeK (K : Exit → Env → H → Option R) : Exit → Env → H → Option R := fun x env h =>
  match x with
  | .goto _ => none
  | x => K x env h
def loopK (next : Env → H → Option R) (d : List Nat) (K : Exit → Env → H → Option R) : Exit → Env → H → Option R := fun x env h =>
  match x with
  | .normal => next (forget env d) h
  | x => K x (forget env d) h

def evLoop (step : Env → H → (Exit → Env → H → Option R) → Option R) (d : List Nat) : Nat → Env → H → (Exit → Env → H → Option R) → Option R
  | 0, _, _, _ => none
  | n + 1, env, h, K => step env h (loopK (fun env h => evLoop step d n env h K) d K)

def evCode (call : CallF) (dead : Nat → List Nat) (rounds : Nat) : Nat → Code → Env → H → (Exit → Env → H → Option R) → Option R
  | _, .skip, env, h, K => K .normal env h
  | _, .region _ ops draw, env, h, K => evRegion P call ops draw env h (K .normal)
  | c, .seq a b, env, h, K => evCode call dead rounds c a env h (seqK (fun env h => evCode call dead rounds c b env h K) K)
  | c, .cond x a b, env, h, K => optK (opnd env x) fun v => castB v fun t =>
    match t with
    | true => evCode call dead rounds c a env h K
    | false => evCode call dead rounds c b env h K
  | _, .block id b, env, h, K => evCode call dead rounds id b env h (blockK id K)
  | c, .loop b, env, h, K => evLoop (evCode call dead rounds c b) (dead c) rounds (forget env (dead c)) h K
  | _, .exit id, env, h, K => K (.exit id) env h
  | _, .ret, env, h, K => K .ret env h
  | _, .label _, env, h, K => K .normal env h
  | c, .scope b, env, h, K => evCode call dead rounds c b env h (scopeK K)
  | _, _, _, _, _ => none

def env0 (args : List Value) (n : Nat) : Env := args.map some ++ List.replicate (n - args.length) none

def resVals (env : Env) (h : H) : List ResultVar → Option (List Value)
  | [] => some []
  | .tmp t :: r => match nth env t with
    | some v => match resVals env h r with
      | some vs => some (v :: vs)
      | none => none
    | none => none
  | .cell a t :: r => match nth env a with
    | some (.pointer (some ⟨i, o, none⟩)) => match ldV P t i o h with
      | some v => match resVals env h r with
        | some vs => some (v :: vs)
        | none => none
      | none => none
    | _ => none
def resOne (vs : List Value) : Value :=
  match vs with
  | [v] => v
  | vs => .tuple vs.toArray

def finK (results : List ResultVar) : Exit → Env → H → Option (Value × H) := fun x env h =>
  match x with
  | .normal | .ret => match resVals P env h results with
    | some vs => some (resOne vs, h)
    | none => none
  | _ => none
/-- A body. -/
def evBody (call : CallF) (dead : Nat → List Nat) (rounds : Nat) (results : List ResultVar) (c : Code) (env : Env) (h : H) : Option (Value × H) :=
  evCode P call dead rounds 0 c env h (finK P results)

def evCall (dead : FuncId → Nat → List Nat) (intr : FuncId → Option (List Value → H → Option (Value × H))) (rounds : Nat) : Nat → CallF
  | 0, _, _, _ => none
  | n + 1, f, args, h =>
    match intr f with
    | some g => g args h
    | none => match P.funcs[f]? with
      | none => none
      | some fn => match fn.body with
        | none => none
        | some c => evBody P (evCall dead intr rounds n) (dead f) rounds fn.results.toList c (env0 args fn.ntmps) h
end
end Go.Ev
