import Derived.Test.YtmcdmhegjhcjhaaGreatEnv
/- A region that draws its order: one canonical order serves every order. -/
namespace Gp
open Go

def memN (x : Nat) : List Nat → Bool
  | [] => false
  | y :: r => cond (Nat.beq y x) true (memN x r)

/-- Does the operation touch the world? (a load is not meant) -/
def isEff (P : Program) (o : Oper) : Bool :=
  match o.op with
  | .load _ _ => o.dst.isNone
  | .move _ | .assign _ | .pick _ _ _ | .build _ _ | .nilCheck _ | .binOp _ _ _ _ _ | .unOp _ _ _ | .makeFunc _ _ _ | .slice _ _ _ _ _
  | .fieldAddr _ _ _ | .field _ _ _ | .indexAddr _ _ _ | .index _ _ _ | .extract _ _ => false
  | .convert s d _ => match P.underlying s, P.underlying d with
    | some (.slice _), some .string => true
    | some .string, some (.slice _) => true
    | some (.slice _), some (.slice _) => true
    | _, _ => false
  | .call c => match c.callee with
    | .builtin .len => match c.argTypes.toList with
      | [t] => match P.underlying t with
        | some .string => false
        | some (.slice _) => false
        | some (.array _ _) => false
        | _ => true
      | _ => true
    | .builtin .cap => false
    | .builtin .max => false
    | .builtin .min => false
    | _ => true
  | _ => true

def okPreds (done : List Nat) (o : Oper) : Bool := o.after.toList.all fun e => !Region.binds .any e || memN e.on done

def enumFrom : Nat → List Oper → List (Nat × Oper)
  | _, [] => []
  | i, o :: r => (i, o) :: enumFrom (i + 1) r

/-- The first operation that is ready and leaves the world alone. -/
def firstNE (P : Program) (done : List Nat) : List (Nat × Oper) → Option (Nat × Oper)
  | [] => none
  | (i, o) :: r => cond (!memN i done && (!isEff P o && okPreds done o)) (some (i, o)) (firstNE P done r)

/-- Those that are ready and touch it. -/
def readyE (P : Program) (done : List Nat) : List (Nat × Oper) → List (Nat × Oper)
  | [] => []
  | (i, o) :: r => cond (!memN i done && (isEff P o && okPreds done o)) ((i, o) :: readyE P done r) (readyE P done r)

def stabCells : List Value → World → Addr → Nat → Prop → Prop
  | [], _, _, _, rest => rest
  | v :: vs, w, a, i, rest => w.cell? (a.add i) = some v ∧ stabCells vs w a (i + 1) rest

/-- What was loaded is there still. -/
def stab1 (sh : Shape) (av v : Value) (w : World) (rest : Prop) : Prop :=
  match sh, av, v with
  | .one _, .pointer (some a), v => w.cell? a = some v ∧ rest
  | .agg _, .pointer (some a), .agg cs => stabCells cs.toList w a 0 rest
  | _, _, _ => False

/-- Bits of all predecessors. -/
def bitsOf (acc : List Nat) : List Edge → Nat
  | [] => 0
  | e :: r => cond (Region.binds .any e) (2 ^ e.on ||| (acc.getD e.on 0 ||| bitsOf acc r)) (bitsOf acc r)

def preBits : List Oper → List Nat → List Nat
  | [], acc => acc
  | o :: r, acc => preBits r (acc ++ [bitsOf acc o.after.toList])

def stabs (pb : Nat) (w : World) : List (Nat × Shape × Value × Value) → Prop → Prop
  | [], rest => rest
  | (i, sh, av, v) :: r, rest => cond (Nat.testBit pb i) (stabs pb w r rest) (stab1 sh av v w (stabs pb w r rest))

/-- Is the operation carried out? -/
def goesOn (ops : List Oper) (o : Oper) (env : Env) : Bool :=
  match o.guard with
  | none => true
  | some (j, want) => match (ops[j]?).bind (·.dst) with
    | some s => match env.get s with
      | some (.bool t) => t == want
      | some (.tuple _) => false
      | _ => true
    | none => true

def loadOf (P : Program) (ops : List Oper) (i : Nat) (o : Oper) (env env' : Env) (ld : List (Nat × Shape × Value × Value)) : List (Nat × Shape × Value × Value) :=
  match o.op, o.dst with
  | .load t x, some d => cond (goesOn ops o env) (match shapeOf P t with
    | some sh => (i, sh, ev env x, ev env' (.tmp d)) :: ld
    | none => ld) ld
  | _, _ => ld

def allOf {α : Type} (f : α → Prop) : List α → Prop
  | [] => True
  | [x] => f x
  | x :: r => f x ∧ allOf f r

def drawDen (P : Program) (nt : Nat) (ops : List Oper) (pbs : List Nat) : Nat → List Nat → List (Nat × Shape × Value × Value) → Env → World → (Env → World → Prop) → Prop
  | 0, _, _, _, _, _ => False
  | fuel + 1, done, ld, env, w, K =>
    match firstNE P done (enumFrom 0 ops) with
    | some (i, o) => stepDen P nt ops o (isGuard ops i) env w fun env' w' => drawDen P nt ops pbs fuel (i :: done) (loadOf P ops i o env env' ld) env' w' K
    | none => match readyE P done (enumFrom 0 ops) with
      | [] => cond (Nat.beq done.length ops.length) (K env w) False
      | e :: es => allOf (fun (e : Nat × Oper) => stepDen P nt ops e.2 (isGuard ops e.1) env w fun env' w' =>
          stabs (pbs.getD e.1 0) w' ld (drawDen P nt ops pbs fuel (e.1 :: done) ld env' w' K)) (e :: es)

/-- Each slot is written by one operation alone; who looks at a slot stands before or behind who writes it. -/
def looksL (ops : List Oper) (o : Oper) : List Nat :=
  (o.op.operands.toList.filterMap fun | .tmp t => some t | _ => none) ++
  (match o.guard with
   | some (g, _) => ((ops[g]?).bind (·.dst)).toList
   | none => [])

def noDup : List Nat → Bool
  | [] => true
  | x :: r => !memN x r && noDup r

def apartOk (ops : List Oper) (pbs : List Nat) (i : Nat) (o : Oper) : List (Nat × Oper) → Bool
  | [] => true
  | (j, p) :: r => (match p.dst with
    | some d => Nat.beq i j || !memN d (looksL ops o) || (Nat.testBit (pbs.getD i 0) j || Nat.testBit (pbs.getD j 0) i)
    | none => true) && apartOk ops pbs i o r

def backOk (i : Nat) (o : Oper) : Bool := o.after.toList.all fun e => !Region.binds .any e || Nat.blt e.on i

def regionOk (ops : List Oper) (pbs : List Nat) : Bool :=
  noDup (dsts ops) && (enumFrom 0 ops).all fun x => backOk x.1 x.2 && apartOk ops pbs x.1 x.2 (enumFrom 0 ops)

def drawnDen (P : Program) (nt : Nat) (ops : List Oper) (env : Env) (w : World) (K : Env → World → Prop) : Prop :=
  cond (regionOk ops (preBits ops [])) (drawDen P nt ops (preBits ops []) (ops.length + 1) [] [] env w.drew K) False
end Gp
