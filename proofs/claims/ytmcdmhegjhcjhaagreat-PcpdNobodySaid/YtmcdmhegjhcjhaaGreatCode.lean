import Derived.Test.YtmcdmhegjhcjhaaGreatDraw6
import Derived.Scope
/- The code of a function. -/
namespace Gp
open Go

def writes : Code → List Nat
  | .region _ ops _ => dsts ops.toList
  | .seq a b => writes a ++ writes b
  | .cond _ a b => writes a ++ writes b
  | .block _ a => writes a
  | .loop a => writes a
  | .scope a => writes a
  | _ => []

def hasRng : Code → Bool
  | .seq a b => hasRng a || hasRng b
  | .cond _ a b => hasRng a || hasRng b
  | .block _ a => hasRng a
  | .loop a => hasRng a
  | .scope a => hasRng a
  | .rangeFunc _ _ _ _ => true
  | _ => false

/-! ### What a loop carries -/
@[reducible] def DenT : List (Nat × Kind) → Type
  | [] => Unit
  | (_, k) :: r => k.T × DenT r

def encS : (st : List (Nat × Kind)) → DenT st → Env
  | [], _ => []
  | (s, k) :: r, x => (s, k.enc x.1) :: encS r x.2

def getS : (st : List (Nat × Kind)) → Env → (DenT st → Prop) → Prop
  | [], _, φ => φ ()
  | (s, k) :: r, env, φ => match env.get s with
    | some v => k.dec v fun x => getS r env fun y => φ (x, y)
    | none => False

def without (ws : List Nat) : Env → Env
  | [] => []
  | (s, v) :: r => cond (memN s ws) (without ws r) ((s, v) :: without ws r)

/-- A loop: there is an invariant with a measure. -/
def LoopP {S : Type} (body : S → World → (S → World → Prop) → Prop) (s : S) (w : World) : Prop :=
  ∃ I : Nat → S → World → Prop, (∃ n, I n s w) ∧ ∀ n s w, I n s w → body s w fun s' w' => ∃ m, m < n ∧ I m s' w'

/-! ### A range over a function -/
@[reducible] def DenK : List Kind → Type
  | [] => Unit
  | k :: r => k.T × DenK r

def encK : (ks : List Kind) → DenK ks → List Value
  | [], _ => []
  | k :: r, x => k.enc x.1 :: encK r x.2

def encP : List Nat → List Value → Env
  | [], _ => []
  | _ :: _, [] => []
  | s :: r, v :: vs => (s, v) :: encP r vs

@[reducible] def ShT : Shape → Type
  | .one k => k.T
  | .agg ks => DenK ks
def encSh : (s : Shape) → ShT s → Value
  | .one k, x => k.enc x
  | .agg ks, x => .agg ⟨encK ks x⟩
@[reducible] def DenR : List Shape → Type
  | [] => Unit
  | s :: r => ShT s × DenR r
def encR : (ks : List Shape) → DenR ks → List Value
  | [], _ => []
  | s :: r, x => encSh s x.1 :: encR r x.2

/-! ### What a join carries -/
inductive JSh where
  | sh (s : Shape)
  | addr
  | tup (ks : List Kind)

@[reducible] def JT : JSh → Type
  | .sh s => ShT s
  | .addr => Addr
  | .tup ks => DenK ks
def encJ1 : (s : JSh) → JT s → Value
  | .sh s, x => encSh s x
  | .addr, a => .pointer (some a)
  | .tup ks, x => .tuple ⟨encK ks x⟩
def decK : (ks : List Kind) → List Value → (DenK ks → Prop) → Prop
  | [], [], φ => φ ()
  | k :: r, v :: vs, φ => k.dec v fun x => decK r vs fun y => φ (x, y)
  | _, _, _ => False
def decJ : (s : JSh) → Value → (JT s → Prop) → Prop
  | .sh (.one k), v, φ => k.dec v φ
  | .sh (.agg ks), .agg cs, φ => decK ks cs.toList φ
  | .addr, .pointer (some a), φ => φ a
  | .tup ks, .tuple cs, φ => decK ks cs.toList φ
  | _, _, _ => False
@[reducible] def DenJ : List (Nat × JSh) → Type
  | [] => Unit
  | (_, s) :: r => JT s × DenJ r
def encJ : (st : List (Nat × JSh)) → DenJ st → Env
  | [], _ => []
  | (t, s) :: r, x => (t, encJ1 s x.1) :: encJ r x.2
def getJ : (st : List (Nat × JSh)) → Env → (DenJ st → Prop) → Prop
  | [], _, φ => φ ()
  | (t, s) :: r, env, φ => match env.get t with
    | some v => decJ s v fun x => getJ r env fun y => φ (x, y)
    | none => False

/-- What comes behind a place that many ways lead to. -/
def JoinP {S : Type} (body : S → Prop) (k : (S → Prop) → Prop) : Prop := k body
theorem JoinP.of {S : Type} {body : S → Prop} {k : (S → Prop) → Prop} (h : ∀ J : S → Prop, (∀ s, body s → J s) → k J) : JoinP body k := h body fun _ h => h

inductive Ann where
  | leaf
  | seq (a b : Ann)
  | join (st : List (Nat × JSh)) (a b : Ann)
  | cond (a b : Ann)
  | blk (a : Ann)
  | loop (st : List (Nat × Kind)) (a : Ann)
  | rng (ks : List Shape) (a b : Ann)

def setLoop (w : World) (l : Nat) (st : LoopState) (p : Option Code) : World :=
  { w with heap := w.heap.modify l fun | .loop lp => .loop { lp with state := st, pending := p } | o => o }

def busyW (w : World) (l : Nat) : World :=
  { w with heap := w.heap.modify l fun | .loop lp => .loop { lp with state := .busy } | o => o }

def isNormal : Exit → Bool
  | .normal => true
  | _ => false

def jumpOf : Exit → Option (Option Code)
  | .normal => some none
  | .ret => some (some .ret)
  | .exit id => some (some (.exit id))
  | _ => none

/-- What a loop over a function may count on. -/
structure RngCtx (P : Program) (r : Option Nat) (w : World) (ks : List Shape) (bodyS : Nat → DenR ks → World → (Exit → World → Prop) → Prop)
    (l : Nat) (L : LoopState → Option Code → World → Prop) (w1 : World) : Prop where
  at_ : l = if r.isNone then w.heap.size + 1 else w.heap.size
  size : w1.heap.size = l + 1
  old : ∀ b, b < w.heap.size → w1.heap[b]? = w.heap[b]?
  io : w1.os = w.os ∧ w1.tape = w.tape ∧ w1.output = w.output
  marks : r = none → w1.heap[w.heap.size]? = some (.deferred (some []))
  ready : L .ready none w1
  frame : ∀ st p W W', L st p W → W'.heap[l]? = W.heap[l]? → L st p W'
  set : ∀ st p st' p' W, L st p W → L st' p' (setLoop W l st' p')
  busy : ∀ p W, L .ready p W → L .busy p (busyW W l)
  isLoop : ∀ st p W, L st p W → ∃ lp, W.heap[l]? = some (.loop lp)
  yield : ∀ (x : DenR ks) (W : World) (p : Option Code) (R : Bool → World → Prop), L .ready p W →
    bodyS l x W (fun e W' => L .busy p W' ∧ ∃ j, jumpOf e = some j ∧ R (isNormal e) (setLoop W' l (if isNormal e then .ready else .done) j)) → YieldP P l (encR ks x) W R

def exitsOf : Code → List Nat
  | .exit id => [id]
  | .seq a b => exitsOf a ++ exitsOf b
  | .cond _ a b => exitsOf a ++ exitsOf b
  | .block _ a => exitsOf a
  | .loop a => exitsOf a
  | .scope a => exitsOf a
  | .rangeFunc _ _ _ b => exitsOf b
  | _ => []

def findK (id : Nat) : List (Nat × (World → Prop)) → World → Prop
  | [], _ => False
  | (i, K) :: r, w => cond (Nat.beq i id) (K w) (findK id r w)

def jumpK (Kn Kr : World → Prop) (Kx : List (Nat × (World → Prop))) (p : Option Code) (w : World) : Prop :=
  match p with
  | none => Kn w
  | some .ret => Kr w
  | some (.exit id) => findK id Kx w
  | _ => False

def RngP (P : Program) (r : Option Nat) (ks : List Shape) (vf : Value) (w : World) (bodyS : Nat → DenR ks → World → (Exit → World → Prop) → Prop)
    (Kn Kr : World → Prop) (Kx : List (Nat × (World → Prop))) : Prop :=
  (∀ l₀, r = some l₀ → ∃ lp, w.heap[l₀]? = some (.loop lp)) ∧
  match vf with
  | .func (.func f) first cap => hasBody P f = true ∧ ∀ l L w1, RngCtx P r w ks bodyS l L w1 →
      CallP P [] f (first.toList ++ (Value.func (.yield l) #[] #[] :: cap.toList)) w1 fun _ w2 => ∃ st p, L st p w2 ∧ st ≠ .busy ∧ jumpK Kn Kr Kx p (setLoop w2 l .exhausted p)
  | _ => False

/-! ### Code -/
def den (P : Program) (nt : Nat) : Code → Option Nat → Ann → Env → List Nat → World → (Exit → Env → List Nat → World → Prop) → Prop
  | .skip, _, _, env, ds, w, K => K .normal env ds w
  | .label _, _, _, env, ds, w, K => K .normal env ds w
  | .ret, _, _, env, ds, w, K => K .ret env ds w
  | .exit id, _, _, env, ds, w, K => K (.exit id) env ds w
  | .region _ ops draw, _, _, env, ds, w, K => cond draw (drawnDen P nt ops.toList env w fun env' w' => K .normal env' ds w') (opsDen P nt ops.toList 0 ops.toList env w fun env' w' => K .normal env' ds w')
  | .seq a b, r, an, env, ds, w, K => match an with
    | .seq x y => den P nt a r x env ds w fun e env' ds' w' => match e with
      | .normal => den P nt b r y env' ds' w' K
      | e => K e env' ds' w'
    | .join st x y => cond (hasRng a)
      (JoinP (S := DenJ st × List Nat × World) (fun s => den P nt b r y (encJ st s.1 ++ without (writes a) env) s.2.1 s.2.2 K) fun J => den P nt a r x env ds w fun e env' ds' w' => match e with
        | .normal => getJ st env' fun s' => J (s', ds', w')
        | e => K e env' ds' w')
      (JoinP (S := DenJ st × World) (fun s => den P nt b r y (encJ st s.1 ++ without (writes a) env) ds s.2 K) fun J => den P nt a r x env ds w fun e env' ds' w' => match e with
        | .normal => getJ st env' fun s' => J (s', w')
        | e => K e env' ds' w')
    | _ => False
  | .cond c a b, r, an, env, ds, w, K => match an with
    | .cond x y => match evO env c with
      | some (.bool t) => cond t (den P nt a r x env ds w K) (den P nt b r y env ds w K)
      | _ => False
    | _ => False
  | .block id a, r, an, env, ds, w, K => match an with
    | .blk x => den P nt a r x env ds w fun e env' ds' w' => match e with
      | .exit id' => cond (Nat.beq id' id) (K .normal env' ds' w') (K (.exit id') env' ds' w')
      | e => K e env' ds' w'
    | _ => False
  | .scope a, r, an, env, ds, w, K => den P nt a r an env ds w fun e env' ds' w' => match e with
    | .goto _ => False
    | e => K e env' ds' w'
  | .loop a, r, an, env, ds, w, K => match an with
    | .loop st x => cond (hasRng a)
      (getS st env fun s0 => LoopP (S := DenT st × List Nat) (fun s w next => den P nt a r x (encS st s.1 ++ without (writes a) env) s.2 w fun e env' ds' w' => match e with
        | .normal => getS st env' fun s' => next (s', ds') w'
        | e => K e env' ds' w') (s0, ds) w)
      (getS st env fun s0 => LoopP (S := DenT st) (fun s w next => den P nt a r x (encS st s ++ without (writes a) env) ds w fun e env' ds' w' => match e with
        | .normal => getS st env' fun s' => next s' w'
        | e => K e env' ds' w') s0 w)
    | _ => False
  | .rangeFunc g ps assign body, r, an, env, ds, w, K => match an with
    | .rng ks x y => cond (!hasRng assign && (Nat.beq ps.toList.length ks.length && (noDup ps.toList && ps.toList.all fun s => Nat.blt s nt))) (RngP P r ks (ev env g) w
      (fun l x' W Kb => den P nt assign (some l) x (encP ps.toList (encR ks x') ++ env) [] W fun e env1 _ W1 => match e with
        | .normal => W1.heap[l]? = W.heap[l]? ∧ den P nt body (some l) y env1 [] (busyW W1 l) fun e _ _ W2 => Kb e W2
        | _ => False)
      (fun w' => K .normal env (cond r.isNone (w.heap.size :: ds) ds) w') (fun w' => K .ret env (cond r.isNone (w.heap.size :: ds) ds) w')
      ((exitsOf body).map fun id => (id, fun w' => K (.exit id) env (cond r.isNone (w.heap.size :: ds) ds) w'))) False
    | _ => False
  | _, _, _, _, _, _, _ => False
end Gp
