/-
  Regions that draw, code, calls.
-/
import Derived.Test.YtofgaidlepmcmaaGreatDoorEvD
import Derived.Orders
namespace Go.Ev
open Go

section
variable {R : Type} (P : Program)

/-- The same is read at all of these. -/
def sameK (same : H → Bool) : List H → (Unit → Option R) → Option R
  | [], k => k ()
  | h :: r, k => bif same h then sameK same r k else none

def evDraw (call : CallF) (ops : Array Oper) : List (Nat × Nat) → Env → H → List H → (Env → H → Option R) → Option R
  | [], env, h, _, K => K env h
  | (i, lo) :: r, env, h, hist, K =>
    match ops[i]? with
    | none => none
    | some o =>
      wantK ops o env fun b env => match b with
      | false => match cls P o.op with
        | .eff => evDraw call ops r (putE env o.dst (.tuple #[])) h (h :: hist) K
        | _ => evDraw call ops r (putE env o.dst (.tuple #[])) h hist K
      | true => match cls P o.op with
        | .pure => evPure P o env fun v => evDraw call ops r (putE env o.dst v) h hist K
        | .load => match hist with
          | [] => none
          | h0 :: old => evLoad P o env h0 fun same v =>
              sameK same (old.take (old.length - lo)) fun _ => evDraw call ops r (putE env o.dst v) h hist K
        | .fresh => evFresh P o env fun cs mk => evDraw call ops r (putE env o.dst (mk h.next)) (h.new (.cells cs false)) hist K
        | .eff => evEff P call o env h fun v h' => evDraw call ops r (putE env o.dst v) h' (h' :: hist) K

/-- What each operation waits for, as bits. -/
def bitsGo (acc : List Nat) : List Oper → List Nat
  | [] => acc.reverse
  | o :: r => bitsGo (o.after.toList.foldl (fun s e => bif Region.binds .any e then s ||| 2 ^ e.on ||| acc.reverse.getD e.on 0 else s) 0 :: acc) r
def planGo (b : List Nat) : List Nat → List Nat → List Nat
  | [], rest => rest
  | e :: es, rest => (rest.filter fun x => (b.getD e 0).testBit x) ++ e :: planGo b es (rest.filter fun x => !(b.getD e 0).testBit x)
def isEff (ops : Array Oper) (i : Nat) : Bool :=
  match ops[i]? with
  | some o => match cls P o.op with
    | .eff => true
    | _ => false
  | none => false
def plan (ops : Array Oper) (b : List Nat) : List (Nat × Nat) :=
  let es := (List.range ops.size).filter (isEff P ops)
  (planGo b es ((List.range ops.size).filter fun i => !isEff P ops i)).map fun x => (x, (es.filter fun e => (b.getD x 0).testBit e).length)

/-- The bits are what they should be. -/
def bitsOk (ops : Array Oper) (b : List Nat) : Bool :=
  (List.range ops.size).all fun x => match ops[x]? with
    | some o => Nat.beq (b.getD x 0) (o.after.toList.foldl (fun s e => bif Region.binds .any e then s ||| 2 ^ e.on ||| b.getD e.on 0 else s) 0) &&
        o.after.toList.all fun e => !Region.binds .any e || Nat.blt e.on x
    | none => false
def dstOf (ops : Array Oper) (x : Nat) : Option Tmp := (ops[x]?).bind (·.dst)
def dstOk (ops : Array Oper) : Bool :=
  (List.range ops.size).all fun x => (List.range x).all fun y => match dstOf ops x, dstOf ops y with
    | some s, some t => !Nat.beq s t
    | _, _ => true
def isOp (x : Option Tmp) (t : Tmp) : Bool :=
  match x with
  | some s => Nat.beq s t
  | none => false
def lookOk (ops : Array Oper) (b : List Nat) (y m : Nat) : Bool :=
  match ops[y]? with
  | none => false
  | some o => (o.looksAt ops).all fun t => (List.range ops.size).all fun x =>
      Nat.beq x y || !isOp (dstOf ops x) t || (bif m.testBit x then (b.getD y 0).testBit x else (b.getD x 0).testBit y)
def goOk (ops : Array Oper) (b : List Nat) : Nat → List Nat → List (Nat × Nat) → Bool
  | m, _, [] => Nat.beq m (2 ^ ops.size - 1)
  | m, el, (y, lo) :: r =>
    Nat.blt y ops.size && !m.testBit y && Nat.beq (b.getD y 0 &&& m) (b.getD y 0) && lookOk ops b y m &&
    (bif isEff P ops y then Nat.beq (b.getD y 0) m && goOk ops b (m ||| 2 ^ y) (y :: el) r
     else (match lo with
        | 0 => true
        | l + 1 => match el.reverse[l]? with
          | some e => (b.getD y 0).testBit e
          | none => false) && goOk ops b (m ||| 2 ^ y) el r)
def drawOk (ops : Array Oper) (b : List Nat) (pl : List (Nat × Nat)) : Bool :=
  bitsOk ops b && dstOk ops && goOk P ops b 0 [] pl

def evRegion (call : CallF) (ops : Array Oper) (draw : Bool) (env : Env) (h : H) (K : Env → H → Option R) : Option R :=
  match draw with
  | false => evSeq P call ops ops.toList env h K
  | true => bif drawOk P ops (bitsGo [] ops.toList) (plan P ops (bitsGo [] ops.toList)) then evDraw P call ops (plan P ops (bitsGo [] ops.toList)) env h [h] K else none

/-! What follows a piece. -/
def seqK (b : Env → H → Option R) (K : Exit → Env → H → Option R) : Exit → Env → H → Option R := fun x env h =>
  match x with
  | .normal => b env h
  | x => K x env h
def blockK (id : Nat) (K : Exit → Env → H → Option R) : Exit → Env → H → Option R := fun x env h =>
  match x with
  | .exit j => bif Nat.beq j id then K .normal env h else K (.exit j) env h
  | x => K x env h
def scopeK (K : Exit → Env → H → Option R) : Exit → Env → H → Option R := fun x env h =>
  match x with
  | .goto _ => none
  | x => K x env h
def loopK (next : Env → H → Option R) (d d' dr : Option (List Nat)) (K : Exit → Env → H → Option R) : Exit → Env → H → Option R := fun x env h =>
  match x with
  | .normal => next (forget env d) h
  | .ret => K .ret (forget env dr) h
  | x => K x (forget env d') h

def evLoop (step : Env → H → (Exit → Env → H → Option R) → Option R) (d d' dr : Option (List Nat)) : Nat → Env → H → (Exit → Env → H → Option R) → Option R
  | 0, _, _, _ => none
  | n + 1, env, h, K => step env h (loopK (fun env h => evLoop step d d' dr n env h K) d d' dr K)

/-- A number for a place in a body. -/
def key : Code → Nat
  | .region id _ _ => 2 * id + 1
  | .seq a _ => key a
  | .block id _ => 4 * id + 4000000
  | .scope a => key a
  | _ => 1000000
/-- A piece of a body that stands for itself: where ways meet. -/
abbrev JmpF := Nat → Code → Env → H → Option (Exit × Env × H)
def jumpK (o : Option (Exit × Env × H)) (K : Exit → Env → H → Option R) : Option R :=
  match o with
  | some (x, env, h) => K x env h
  | none => none
def join (d : Option (List Nat)) (J : List Nat → Option R) (k : Option R) : Option R :=
  match d with
  | none => k
  | some l => J l
def outKey (k : Nat) : Exit → Nat
  | .normal => k + 2000000
  | .ret => 1000002
  | .exit j => 4 * j + 6000000
  | _ => 0
def outK (dead : Nat → Option (List Nat)) (k : Nat) : Exit → Env → H → Option (Exit × Env × H) := fun x env h => some (x, forget env (dead (outKey k x)), h)
/-- What is done with the outcome of a test. -/
def known (env : Env) (x : Operand) (b : Bool) : Env :=
  match x with
  | .tmp t => refine env t b
  | _ => env
def evCode (call : CallF) (jmp : JmpF) (dead : Nat → Option (List Nat)) (rounds : Nat) : Nat → Code → Env → H → (Exit → Env → H → Option R) → Option R
  | _, .skip, env, h, K => K .normal env h
  | _, .region _ ops draw, env, h, K => evRegion P call ops draw env h (K .normal)
  | c, .seq a b, env, h, K => evCode call jmp dead rounds c a env h (seqK (fun env h => join (dead (key b)) (fun l => jumpK (jmp c b (forget env (some l)) h) K) (evCode call jmp dead rounds c b env h K)) K)
  | c, .cond x a b, env, h, K => optK (opnd env x) fun v => castB v fun t =>
    match t with
    | true => evCode call jmp dead rounds c a (known env x true) h K
    | false => evCode call jmp dead rounds c b (known env x false) h K
  | _, .block id b, env, h, K => evCode call jmp dead rounds id b env h (blockK id K)
  | c, .loop b, env, h, K => evLoop (evCode call jmp dead rounds c b) (dead (4 * c)) (dead (4 * c + 2)) (dead 1000002) rounds (forget env (dead (4 * c))) h K
  | _, .exit id, env, h, K => K (.exit id) env h
  | _, .ret, env, h, K => K .ret env h
  | _, .label _, env, h, K => K .normal env h
  | c, .scope b, env, h, K => evCode call jmp dead rounds c b env h (scopeK K)
  | _, _, _, _, _ => none

/-- What comes behind a piece. -/
def after (call : CallF) (jmp : JmpF) (dead : Nat → Option (List Nat)) (rounds c : Nat) (b : Code) (K : Exit → Env → H → Option R) (env : Env) (h : H) : Option R :=
  join (dead (key b)) (fun l => jumpK (jmp c b (forget env (some l)) h) K) (evCode P call jmp dead rounds c b env h K)
def env0 (args : List Value) (n : Nat) : Env := args.map some ++ List.replicate (n - args.length) none

def resVals (env : Env) (h : H) : List ResultVar → Option (List Value)
  | [] => some []
  | .tmp t :: r => match nth env t with
    | some v => match resVals env h r with
      | some vs => some (v :: vs)
      | none => none
    | none => none
  | .cell a t :: r => match nth env a with
    | some (.pointer (some ⟨i, o, none⟩)) => match ldV P t i o h with
      | some v => match resVals env h r with
        | some vs => some (v :: vs)
        | none => none
      | none => none
    | _ => none
/-- The same, in passing style. -/
def resK (env : Env) (h : H) : List ResultVar → (List Value → Option R) → Option R
  | [], K => K []
  | .tmp t :: r, K => optK (nth env t) fun v => resK env h r fun vs => K (v :: vs)
  | .cell a t :: r, K => optK (nth env a) fun p => addrK p fun i o => optK (ldV P t i o h) fun v => resK env h r fun vs => K (v :: vs)
theorem resK_some {env : Env} {h : H} {x : R} : ∀ {rs : List ResultVar} {K : List Value → Option R}, resK P env h rs K = some x → ∃ vs, resVals P env h rs = some vs ∧ K vs = some x
  | [], _, hk => ⟨[], rfl, hk⟩
  | .tmp t :: r, K, hk => by
    simp only [resK] at hk
    cases hv : nth env t with
    | none => rw [hv] at hk; cases hk
    | some v =>
      rw [hv] at hk
      obtain ⟨vs, h1, h2⟩ := resK_some (rs := r) (K := fun vs => K (v :: vs)) hk
      exact ⟨v :: vs, by simp only [resVals, hv, h1], h2⟩
  | .cell a t :: r, K, hk => by
    simp only [resK] at hk
    cases hv : nth env a with
    | none => rw [hv] at hk; cases hk
    | some p =>
      rw [hv] at hk
      simp only [optK, addrK] at hk
      split at hk
      · rename_i i o
        cases hl : ldV P t i o h with
        | none => rw [hl] at hk; cases hk
        | some v =>
          rw [hl] at hk
          obtain ⟨vs, h1, h2⟩ := resK_some (rs := r) (K := fun vs => K (v :: vs)) hk
          exact ⟨v :: vs, by simp only [resVals, hv, hl, h1], h2⟩
      · cases hk
def resOne (vs : List Value) : Value :=
  match vs with
  | [v] => v
  | vs => .tuple vs.toArray

def finK (results : List ResultVar) : Exit → Env → H → Option (Value × H) := fun x env h =>
  match x with
  | .normal | .ret => resK P env h results fun vs => some (resOne vs, h)
  | _ => none
/-- A body. -/
def evBody (call : CallF) (jmp : JmpF) (dead : Nat → Option (List Nat)) (rounds : Nat) (results : List ResultVar) (c : Code) (env : Env) (h : H) : Option (Value × H) :=
  evCode P call jmp dead rounds 0 c env h (finK P results)

def evAll (dead : FuncId → Nat → Option (List Nat)) (intr : FuncId → Option (List Value → H → Option (Value × H))) (rounds : Nat) : Nat → CallF × (FuncId → JmpF)
  | 0 => (fun _ _ _ => none, fun _ _ _ _ _ => none)
  | n + 1 => (fun f args h =>
    match intr f with
    | some g => g args h
    | none => match P.funcs[f]? with
      | none => none
      | some fn => match fn.body with
        | none => none
        | some c => evBody P (evAll dead intr rounds n).1 ((evAll dead intr rounds n).2 f) (dead f) rounds fn.results.toList c (env0 args fn.ntmps) h,
    fun f c b env h => evCode P (evAll dead intr rounds n).1 ((evAll dead intr rounds n).2 f) (dead f) rounds c b env h (outK (dead f) (key b)))
def evCall (dead : FuncId → Nat → Option (List Nat)) (intr : FuncId → Option (List Value → H → Option (Value × H))) (rounds n : Nat) : CallF := (evAll P dead intr rounds n).1
def evJmp (dead : FuncId → Nat → Option (List Nat)) (intr : FuncId → Option (List Value → H → Option (Value × H))) (rounds n : Nat) : FuncId → JmpF := (evAll P dead intr rounds n).2
end
end Go.Ev
