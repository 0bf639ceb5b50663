import Derived.Test.YtmcdmhegjhcjhaaGreatRn2
/- A machine that runs closed code over named blocks: code and calls. -/
namespace Gp.Rn
open Go Gp
noncomputable section

mutual
def jEq : Jmp → Jmp → Bool
  | .no, .no => true
  | .ret, .ret => true
  | .ex a, .ex b => Nat.beq a b
  | _, _ => false
end
def lsE : LoopState → LoopState → Bool
  | .ready, .ready => true
  | .busy, .busy => true
  | .done, .done => true
  | .exhausted, .exhausted => true
  | _, _ => false
def enEq : List (AV × AV × Nat) → List (AV × AV × Nat) → Bool
  | [], [] => true
  | (a, b, n) :: l, (a', b', n') :: l' => avEq a a' && (avEq b b' && (Nat.beq n n' && enEq l l'))
  | _, _ => false
def nsEq : List Nat → List Nat → Bool
  | [], [] => true
  | a :: l, b :: l' => Nat.beq a b && nsEq l l'
  | _, _ => false
def oEq : Option Nat → Option Nat → Bool
  | none, none => true
  | some a, some b => Nat.beq a b
  | _, _ => false
def bEq (a b : Bool) : Bool := cond a b (!b)
def abEq : AB → AB → Bool
  | .row cs z p, .row cs' z' p' => avsEq cs cs' && (Nat.beq z z' && bEq p p')
  | .map es c, .map es' c' => enEq es es' && Nat.beq c c'
  | .iter m a l c, .iter m' a' l' c' => oEq m m' && (Nat.beq a a' && (nsEq l l' && Nat.beq c c'))
  | .loop a j, .loop a' j' => lsE a a' && jEq j j'
  | .mark, .mark => true
  | .dead, .dead => true
  | _, _ => false
def trEq : Tr → Tr → Bool
  | .lf, .lf => true
  | .nd v l r, .nd v' l' r' => (match v, v' with
    | none, none => true
    | some a, some b => abEq a b
    | _, _ => false) && (trEq l l' && trEq r r')
  | _, _ => false

/-- What the first knows the second knows too. -/
def aeSub (e e' : AE) : List (Nat × AV) → Bool
  | [] => true
  | (t, _) :: r => (match e.get t, e'.get t with
    | some a, some b => avEq a b
    | _, _ => false) && aeSub e e' r

structure LInfo where
  nt : Nat
  ps : List Nat
  ks : List Shape
  x : Ann
  y : Ann
  assign : Code
  body : Code
  env : AE
abbrev LCx := List (Nat × LInfo)
def LCx.get : LCx → Nat → Option LInfo
  | [], _ => none
  | (l, i) :: r, m => cond (Nat.beq l m) (some i) (LCx.get r m)

abbrev KC := Exit → AE → List Nat → St → Bool
abbrev RunT := Nat → Code → Option Nat → Ann → AE → List Nat → LCx → St → KC → Bool

section
variable (P : Program) (cb : Cb) (nt : Nat)

def mvOp : Op → Option Operand
  | .move x => some x
  | .assign x => some x
  | _ => none

def execC (o : Oper) (e : AE) (s : St) (k : AE → St → Bool) : Bool :=
  match mvOp o.op with
  | some x => match evA e x with
    | some v => cond (dstOk nt o.dst) (k (e.put o.dst v) s) false
    | none => false
  | none => cond (dstOk nt o.dst) (match evs e o.op.operands.toList with
    | some _ => opC P cb o.op o.type (fun x => (evA e x).getD (.tup [])) s fun v s' => k (e.put o.dst v) s'
    | none => false) false

def stepC (ops : List Oper) (o : Oper) (e : AE) (s : St) (k : AE → St → Bool) : Bool :=
  match o.guard with
  | none => execC P cb nt o e s k
  | some (j, want) => match (ops[j]?).bind (·.dst) with
    | some d => match e.get d with
      | some (.bool t) => cond (t == want) (execC P cb nt o e s k) (cond (dstOk nt o.dst) (k (e.put o.dst (.tup [])) s) false)
      | some (.tup _) => cond (dstOk nt o.dst) (k (e.put o.dst (.tup [])) s) false
      | _ => false
    | none => false

def opsC (ops : List Oper) (l : List Oper) : AE → St → (AE → St → Bool) → Bool :=
  List.rec (motive := fun _ => AE → St → (AE → St → Bool) → Bool) (fun e s k => k e s) (fun o _ ih e s k => stepC P cb nt ops o e s fun e' s' => ih e' s' k) l

theorem opsC_cons (ops : List Oper) (o : Oper) (r : List Oper) (e : AE) (s : St) (k : AE → St → Bool) : opsC P cb nt ops (o :: r) e s k = stepC P cb nt ops o e s fun e' s' => opsC P cb nt ops r e' s' k := rfl

def stab1C (sh : Shape) (a v : AV) (s : St) : Bool :=
  match sh, a with
  | .one _, .ptr i o => match rdC s i o 1 with
    | some [u] => avEq v u
    | _ => false
  | .agg _, .ptr i o => match v with
    | .agg vs => match rdC s i o vs.length with
      | some us => avsEq vs us
      | none => false
    | _ => false
  | _, _ => false

def stabsC (pb : Nat) (s : St) : List (Nat × Shape × AV × AV) → Bool
  | [] => true
  | (i, sh, a, v) :: r => cond (Nat.testBit pb i) (stabsC pb s r) (stab1C sh a v s && stabsC pb s r)

def goesC (ops : List Oper) (o : Oper) (e : AE) : Bool :=
  match o.guard with
  | none => true
  | some (j, want) => match (ops[j]?).bind (·.dst) with
    | some d => match e.get d with
      | some (.bool t) => t == want
      | some (.tup _) => false
      | _ => true
    | none => true

def loadC (ops : List Oper) (i : Nat) (o : Oper) (e e' : AE) (ld : List (Nat × Shape × AV × AV)) : Option (List (Nat × Shape × AV × AV)) :=
  match o.op, o.dst with
  | .load t x, some d => cond (goesC ops o e) (match shapeOf P t with
    | some sh => match evA e x, e'.get d with
      | some a, some v => some ((i, sh, a, v) :: ld)
      | _, _ => none
    | none => some ld) (some ld)
  | _, _ => some ld

def stOf : List (Nat × Nat) → Nat → Nat → Nat
  | [], _, d => d
  | (i, n) :: r, j, d => cond (Nat.beq i j) n (stOf r j d)

abbrev KD := AE → St → List (Nat × Nat) → Bool
abbrev DrT := Option (List (Nat × Nat)) → List (Nat × Nat) → List Nat → List (Nat × Shape × AV × AV) → AE → St → KD → Bool

def drAll (ops : List Oper) (pbs : List Nat) (prev : DrT) (l acc : List (Nat × Nat)) (done : List Nat) (ld : List (Nat × Shape × AV × AV)) (e : AE) (s : St) (k : KD) : List (Nat × Oper) → Bool
  | [] => true
  | x :: r => stepC P cb nt ops x.2 e ⟨s.h, stOf l x.1 s.n⟩ (fun e' s' => cond (stabsC (pbs.getD x.1 0) s' ld) (prev (some l) acc (x.1 :: done) ld e' s' k) false) && drAll ops pbs prev l acc done ld e s k r

def drEff (ops : List Oper) (pbs : List Nat) (prev : DrT) (rp : Option (List (Nat × Nat))) (acc : List (Nat × Nat)) (done : List Nat) (ld : List (Nat × Shape × AV × AV)) (e : AE) (s : St) (k : KD) (i : Nat) (o : Oper) (es : List (Nat × Oper)) : Bool :=
  match rp with
  | none => stepC P cb nt ops o e s fun e' s' => cond (stabsC (pbs.getD i 0) s' ld) (prev none ((i, s.n) :: acc) (i :: done) ld e' s' fun e0 s0 acc0 =>
      drAll P cb nt ops pbs prev acc0 [] done ld e s (fun e1 s1 _ => aeSub e0 e1 e0 && trEq s0.h s1.h) es && k e0 s0 acc0) false
  | some l => drAll P cb nt ops pbs prev l acc done ld e s k ((i, o) :: es)

def drStep (ops : List Oper) (pbs : List Nat) (prev : DrT) : DrT := fun rp acc done ld e s k =>
  match firstNE P done (enumFrom 0 ops) with
  | some (i, o) => stepC P cb nt ops o e s fun e' s' => match loadC P ops i o e e' ld with
    | some ld' => prev rp acc (i :: done) ld' e' s' k
    | none => false
  | none => match readyE P done (enumFrom 0 ops) with
    | [] => cond (Nat.beq done.length ops.length) (k e s acc) false
    | (i, o) :: es => drEff P cb nt ops pbs prev rp acc done ld e s k i o es

/-- All orders of the operations that touch memory; rp: the names' beginnings, when it is done over. -/
def drawC (ops : List Oper) (pbs : List Nat) (n : Nat) : DrT :=
  Nat.rec (motive := fun _ => DrT) (fun _ _ _ _ _ _ _ => false) (fun _ prev => drStep P cb nt ops pbs prev) n
end

def getST : List (Nat × Kind) → AE → Option AE
  | [], _ => some []
  | (t, kd) :: r, e => match e.get t with
    | some v => cond (kOk kd v) (match getST r e with
      | some l => some ((t, v) :: l)
      | none => none) none
    | none => none

def argE : Nat → List AV → AE
  | _, [] => []
  | i, v :: vs => (i, v) :: argE (i + 1) vs

def encPA : List Nat → List AV → AE
  | [], _ => []
  | _ :: _, [] => []
  | s :: r, v :: vs => (s, v) :: encPA r vs

def closeC : List Nat → St → (St → Bool) → Bool
  | [], s, k => k s
  | D :: ds, s, k => match s.h.get D with
    | some .mark => putB s D .dead fun s' => closeC ds s' k
    | _ => false

def resC (P : Program) : List ResultVar → AE → St → Option (List AV)
  | [], _, _ => some []
  | .tmp t :: r, e, s => match e.get t, resC P r e s with
    | some v, some l => some (v :: l)
    | _, _ => none
  | .cell a t :: r, e, s => match e.get a, shapeOf P t, sizeOf? P t with
    | some (.ptr i o), some (.one kd), some n => cond (Nat.beq 1 n) (match rdC s i o 1, resC P r e s with
      | some [v], some l => cond (kOk kd v) (some (v :: l)) none
      | _, _ => none) none
    | some (.ptr i o), some (.agg ks), some n => cond (Nat.beq ks.length n) (match rdC s i o n, resC P r e s with
      | some vs, some l => cond (ksOk ks vs) (some (.agg vs :: l)) none
      | _, _ => none) none
    | _, _, _ => none

section
variable (P : Program) (A : Nat → Option Ann) (prev : RunT)

def callC (Γ : LCx) (f : FuncId) (args : List AV) (s : St) (k : List AV → St → Bool) : Bool :=
  match P.funcs[f]?, A f with
  | some fn, some an => match fn.body with
    | some c => cond (Nat.ble args.length fn.ntmps) (prev fn.ntmps c none an (argE 0 args) [] Γ s fun e env ds s' =>
      match e with
      | .normal => closeC ds s' fun s'' => match resC P fn.results.toList env s'' with
        | some vs => k vs s''
        | none => false
      | .ret => closeC ds s' fun s'' => match resC P fn.results.toList env s'' with
        | some vs => k vs s''
        | none => false
      | _ => false) false
    | none => false
  | _, _ => false

def cb0 : Cb := ⟨fun _ _ _ _ => false, fun _ _ _ _ => false⟩

/-- Code that calls nothing. -/
def asgC (nt : Nat) : Code → Ann → AE → St → (AE → St → Bool) → Bool
  | .skip, _, e, s, k => k e s
  | .region _ ops draw, _, e, s, k => cond draw false (opsC P cb0 nt ops.toList ops.toList e s k)
  | .seq a b, an, e, s, k => match an with
    | .seq x y => asgC nt a x e s fun e' s' => asgC nt b y e' s' k
    | _ => false
  | _, _, _, _, _ => false

def yieldC (Γ : LCx) (l : Nat) (args : List AV) (s : St) (k : Bool → St → Bool) : Bool :=
  match Γ.get l, s.h.get l with
  | some i, some (.loop .ready p) => cond (shsOk i.ks args) (asgC P i.nt i.assign i.x (encPA i.ps args ++ i.env) s fun env1 s1 => putB s1 l (.loop .busy p) fun s2 => prev i.nt i.body (some l) i.y env1 [] Γ s2 fun e _ _ s3 => match s3.h.get l with
        | some (.loop .busy p3) => cond (jEq p3 p) (match e with
          | .normal => putB s3 l (.loop .ready .no) fun s4 => k true s4
          | .ret => putB s3 l (.loop .done .ret) fun s4 => k false s4
          | .exit id => putB s3 l (.loop .done (.ex id)) fun s4 => k false s4
          | _ => false) false
        | _ => false) false
  | _, _ => false

def cbOf (Γ : LCx) : Cb := ⟨callC P A prev Γ, yieldC P prev Γ⟩

def rngC (nt : Nat) (g : Operand) (ps : List Nat) (assign body : Code) (ks : List Shape) (x y : Ann) (env : AE) (ds : List Nat) (Γ : LCx) (m : Option Nat) (s : St) (k : KC) : Bool :=
  match evA env g with
  | some (.fn f first cap) => cond (hasBody P f) (newB s (.loop .ready .no) fun l s1 =>
      callC P A prev ((l, ⟨nt, ps, ks, x, y, assign, body, env⟩) :: Γ) f (first ++ (.yld l :: cap)) s1 fun rs s2 => match rs, s2.h.get l with
        | [], some (.loop st p) => cond (lsE st .busy) false (putB s2 l .dead fun s3 =>
            match p with
            | .no => k .normal env (m.toList ++ ds) s3
            | .ret => k .ret env (m.toList ++ ds) s3
            | .ex id => cond (memN id (exitsOf body)) (k (.exit id) env (m.toList ++ ds) s3) false)
        | _, _ => false) false
  | _ => false

def regC (nt : Nat) (ops : List Oper) (draw : Bool) (env : AE) (ds : List Nat) (Γ : LCx) (s : St) (k : KC) : Bool :=
  cond draw (cond (regionOk ops (preBits ops [])) (drawC P (cbOf P A prev Γ) nt ops (preBits ops []) (ops.length + 1) none [] [] [] env s fun e s' _ => k .normal e ds s') false)
    (opsC P (cbOf P A prev Γ) nt ops ops env s fun e s' => k .normal e ds s')

def seqK (nt : Nat) (b : Code) (r : Option Nat) (y : Ann) (Γ : LCx) (k : KC) : KC := fun e env' ds' s' =>
  match e with
  | .normal => prev nt b r y env' ds' Γ s' k
  | e => k e env' ds' s'

def seqC (nt : Nat) (a b : Code) (r : Option Nat) (an : Ann) (env : AE) (ds : List Nat) (Γ : LCx) (s : St) (k : KC) : Bool :=
  match an with
  | .seq x y => prev nt a r x env ds Γ s (seqK prev nt b r y Γ k)
  | _ => false

def condC (nt : Nat) (c : Operand) (a b : Code) (r : Option Nat) (an : Ann) (env : AE) (ds : List Nat) (Γ : LCx) (s : St) (k : KC) : Bool :=
  match an with
  | .cond x y => match evA env c with
    | some (.bool t) => cond t (prev nt a r x env ds Γ s k) (prev nt b r y env ds Γ s k)
    | _ => false
  | _ => false

def blkK (id : Nat) (k : KC) : KC := fun e env' ds' s' =>
  match e with
  | .exit id' => cond (Nat.beq id' id) (k .normal env' ds' s') (k (.exit id') env' ds' s')
  | e => k e env' ds' s'

def blkC (nt : Nat) (id : Nat) (a : Code) (r : Option Nat) (an : Ann) (env : AE) (ds : List Nat) (Γ : LCx) (s : St) (k : KC) : Bool :=
  match an with
  | .blk x => prev nt a r x env ds Γ s (blkK id k)
  | _ => false

def scpK (k : KC) : KC := fun e env' ds' s' =>
  match e with
  | .goto _ => false
  | e => k e env' ds' s'

abbrev LpT := AE → List Nat → St → Bool

def lpStep (nt : Nat) (a : Code) (r : Option Nat) (x : Ann) (st : List (Nat × Kind)) (base : AE) (Γ : LCx) (k : KC) (next : LpT) : LpT := fun l ds s =>
  prev nt a r x (l ++ base) ds Γ s fun e env' ds' s' => match e with
    | .normal => match getST st env' with
      | some l' => next l' (cond (hasRng a) ds' ds) s'
      | none => false
    | e => k e env' ds' s'

def lpIt (nt : Nat) (a : Code) (r : Option Nat) (x : Ann) (st : List (Nat × Kind)) (base : AE) (Γ : LCx) (k : KC) (n : Nat) : LpT :=
  Nat.rec (motive := fun _ => LpT) (fun _ _ _ => false) (fun _ next => lpStep prev nt a r x st base Γ k next) n

def lpC (nt : Nat) (a : Code) (r : Option Nat) (an : Ann) (env : AE) (ds : List Nat) (Γ : LCx) (s : St) (k : KC) : Bool :=
  match an with
  | .loop st x => match getST st env with
    | some l => lpIt prev nt a r x st (AE.without (writes a) env) Γ k 1000000 l ds s
    | none => false
  | _ => false

def rfC (nt : Nat) (g : Operand) (ps : List Nat) (assign body : Code) (r : Option Nat) (an : Ann) (env : AE) (ds : List Nat) (Γ : LCx) (s : St) (k : KC) : Bool :=
  match an with
  | .rng ks x y => cond (!hasRng assign && (Nat.beq ps.length ks.length && (noDup ps && ps.all fun s => Nat.blt s nt)))
      (match r with
       | none => newB s .mark fun m s1 => rngC P A prev nt g ps assign body ks x y env ds Γ (some m) s1 k
       | some l0 => match s.h.get l0 with
         | some (.loop _ _) => rngC P A prev nt g ps assign body ks x y env ds Γ none s k
         | _ => false) false
  | _ => false

def codeC : RunT := fun nt c r an env ds Γ s k =>
  match c with
  | .skip => k .normal env ds s
  | .label _ => k .normal env ds s
  | .ret => k .ret env ds s
  | .exit id => k (.exit id) env ds s
  | .region _ ops draw => regC P A prev nt ops.toList draw env ds Γ s k
  | .seq a b => seqC prev nt a b r an env ds Γ s k
  | .cond c a b => condC prev nt c a b r an env ds Γ s k
  | .block id a => blkC prev nt id a r an env ds Γ s k
  | .scope a => prev nt a r an env ds Γ s (scpK k)
  | .loop a => lpC prev nt a r an env ds Γ s k
  | .rangeFunc g ps assign body => rfC P A prev nt g ps.toList assign body r an env ds Γ s k
  | _ => false
end

def run (P : Program) (A : Nat → Option Ann) (n : Nat) : RunT :=
  Nat.rec (motive := fun _ => RunT) (fun _ _ _ _ _ _ _ _ _ => false) (fun _ prev => codeC P A prev) n

/-- A function without parameters, from an empty memory. -/
def runF (P : Program) (A : Nat → Option Ann) (n : Nat) (f : FuncId) (k : List AV → St → Bool) : Bool := callC P A (run P A n) [] f [] ⟨.lf, 0⟩ k
end
end Gp.Rn
