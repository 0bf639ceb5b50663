import Derived.Test.YtmcdmhegjhcjhaaGreatFn
/- A machine that runs closed code over named blocks: data and memory. -/
namespace Gp.Rn
open Go Gp
noncomputable section

inductive AV where
  | int (k : IntKind) (n : Int)
  | bool (b : Bool)
  | str (s : ByteArray)
  | ptr0
  | ptr (i o : Nat)
  | sl0
  | sl (i o len cap : Nat)
  | slo (i o len d : Nat)
  | slE (i : Nat)
  | map0
  | map (r : Nat)
  | fn (f : FuncId) (first cap : List AV)
  | yld (l : Nat)
  | agg (vs : List AV)
  | tup (vs : List AV)
  | nilF
  | nilI

inductive Jmp where
  | no
  | ret
  | ex (id : Nat)

inductive AB where
  | row (cs : List AV) (size : Nat) (opn : Bool)
  | map (es : List (AV × AV × Nat)) (clock : Nat)
  | iter (m : Option Nat) (since : Nat) (seen : List Nat) (c : Nat)
  | loop (st : LoopState) (p : Jmp)
  | mark
  | dead

inductive Tr where
  | lf
  | nd (v : Option AB) (l r : Tr)

def Tr.get : Tr → Nat → Option AB
  | .lf, _ => none
  | .nd v l r, n => match n with
    | 0 => v
    | m + 1 => cond (Nat.beq (m % 2) 0) (l.get (m / 2)) (r.get (m / 2))

def Tr.setK : Nat → Tr → Nat → AB → (Tr → Bool) → Bool
  | 0, _, _, _, _ => false
  | f + 1, t, n, v, k => match t with
    | .lf => match n with
      | 0 => k (.nd (some v) .lf .lf)
      | m + 1 => cond (Nat.beq (m % 2) 0) (setK f .lf (m / 2) v fun l => k (.nd none l .lf)) (setK f .lf (m / 2) v fun r => k (.nd none .lf r))
    | .nd x l r => match n with
      | 0 => k (.nd (some v) l r)
      | m + 1 => cond (Nat.beq (m % 2) 0) (setK f l (m / 2) v fun l' => k (.nd x l' r)) (setK f r (m / 2) v fun r' => k (.nd x l r'))

structure St where
  h : Tr
  n : Nat

abbrev AE := List (Nat × AV)
def AE.get (e : AE) (t : Nat) : Option AV := List.rec (motive := fun _ => Option AV) none (fun p _ ih => Bool.rec ih (some p.2) (Nat.beq p.1 t)) e
def AE.put (e : AE) (d : Option Nat) (v : AV) : AE :=
  match d with
  | some s => (s, v) :: e
  | none => e
def AE.without (ws : List Nat) : AE → AE
  | [] => []
  | (s, v) :: r => cond (memN s ws) (AE.without ws r) ((s, v) :: AE.without ws r)

/-! ### Forcing -/
def fN (n : Nat) (k : Nat → Bool) : Bool := match n with
  | 0 => k 0
  | m + 1 => k (Nat.succ m)
def fI (n : Int) (k : Int → Bool) : Bool := match n with
  | .ofNat a => fN a fun a => k (.ofNat a)
  | .negSucc a => fN a fun a => k (.negSucc a)
def fB (b : Bool) (k : Bool → Bool) : Bool := match b with
  | true => k true
  | false => k false

/-! ### Values -/
def leafA : Value → Option AV
  | .int k n => some (.int k n)
  | .bool b => some (.bool b)
  | .string s => some (.str s)
  | .pointer none => some .ptr0
  | .slice none 0 0 => some .sl0
  | .map none => some .map0
  | .nilFunc => some .nilF
  | .nilIface => some .nilI
  | _ => none

def leavesA : List Value → Option (List AV)
  | [] => some []
  | v :: r => match leafA v, leavesA r with
    | some a, some l => some (a :: l)
    | _, _ => none

def constA : Value → Option AV
  | .agg cs => match leavesA cs.toList with
    | some l => some (.agg l)
    | none => none
  | .tuple vs => match vs.toList with
    | [] => some (.tup [])
    | _ => none
  | v => leafA v

def one : AV → Bool
  | .agg _ => false
  | .tup _ => false
  | _ => true

def kOk : Kind → AV → Bool
  | .int k, .int k' _ => ikEq k k'
  | .bool, .bool _ => true
  | .str, .str _ => true
  | .ptr, .ptr0 => true
  | .ptr, .ptr _ _ => true
  | .slice, .sl0 => true
  | .slice, .sl _ _ _ _ => true
  | .slice, .slo _ _ _ _ => true
  | .slice, .slE _ => true
  | .map, .map0 => true
  | .map, .map _ => true
  | .any, _ => true
  | _, _ => false

def ksOk : List Kind → List AV → Bool
  | [], [] => true
  | k :: ks, v :: vs => kOk k v && ksOk ks vs
  | _, _ => false

def shOk : Shape → AV → Bool
  | .one k, v => kOk k v
  | .agg ks, .agg vs => ksOk ks vs
  | _, _ => false

def shsOk : List Shape → List AV → Bool
  | [], [] => true
  | k :: ks, v :: vs => shOk k v && shsOk ks vs
  | _, _ => false

def evA (e : AE) : Operand → Option AV
  | .tmp t => e.get t
  | .const v => constA v
  | .global _ => none
  | .func f => some (.fn f [] [])

def evs (e : AE) : List Operand → Option (List AV)
  | [] => some []
  | x :: r => match evA e x, evs e r with
    | some a, some l => some (a :: l)
    | _, _ => none

def plainL : List AV → Option (List Value)
  | [] => some []
  | v :: r => match (match v with
    | .int k n => some (Value.int k n)
    | .bool b => some (.bool b)
    | .str s => some (.string s)
    | _ => none), plainL r with
    | some a, some l => some (a :: l)
    | _, _ => none

def plainA : AV → Option Value
  | .int k n => some (.int k n)
  | .bool b => some (.bool b)
  | .str s => some (.string s)
  | .agg vs => match plainL vs with
    | some l => some (.agg ⟨l⟩)
    | none => none
  | _ => none

/-! ### Texts -/
def lEq : List UInt8 → List UInt8 → Bool
  | [], [] => true
  | a :: l, b :: m => cond (Nat.beq a.toNat b.toNat) (lEq l m) false
  | _, _ => false
def lLt : List UInt8 → List UInt8 → Bool
  | [], [] => false
  | [], _ :: _ => true
  | _ :: _, [] => false
  | a :: l, b :: m => cond (Nat.blt a.toNat b.toNat) true (cond (Nat.beq a.toNat b.toNat) (lLt l m) false)
def sEq (a b : ByteArray) : Bool := lEq a.data.toList b.data.toList
def sLt (a b : ByteArray) : Bool := lLt a.data.toList b.data.toList

def eqTC (P : Program) : Nat → TypeId → Value → Value → Option Bool
  | 0, _, _, _ => none
  | d + 1, t, x, y => match P.underlying t, x, y with
    | some .bool, .bool a, .bool b => some (a == b)
    | some (.int _), .int k a, .int k' b => cond (ikEq k k') (some (a == b)) none
    | some .string, .string a, .string b => some (sEq a b)
    | some (.struct fs), .agg xs, .agg ys => cond (P.stoodInHeld t) none (eqFs P (eqTC P d) xs.toList ys.toList fs.toList)
    | some (.array n e), .agg xs, .agg ys => match P.underlying e, sizeOf? P e with
      | some de, some size => eqIs (eqTC P d e) de size xs.toList ys.toList n 0
      | _, _ => none
    | _, _, _ => none

/-! ### Memory -/
def newB (s : St) (b : AB) (k : Nat → St → Bool) : Bool :=
  match s.h.get s.n with
  | none => s.h.setK 64 s.n b fun h' => fN (s.n + 1) fun m => k s.n ⟨h', m⟩
  | some _ => false

def putB (s : St) (i : Nat) (b : AB) (k : St → Bool) : Bool := s.h.setK 64 i b fun h' => k ⟨h', s.n⟩

def takeE {α : Type} : Nat → List α → Option (List α)
  | 0, _ => some []
  | _ + 1, [] => none
  | n + 1, x :: l => match takeE n l with
    | some r => some (x :: r)
    | none => none

/-- So many cells of a block from a place on. -/
def rdC (s : St) (i o n : Nat) : Option (List AV) :=
  match s.h.get i with
  | some (.row cs _ _) => takeE n (cs.drop o)
  | _ => none

def splK : List AV → Nat → List AV → (List AV → Bool) → Bool
  | [], _, vs, k => match vs with
    | [] => k []
    | _ => false
  | c :: cs, n, vs, k => match n with
    | m + 1 => splK cs m vs fun r => k (c :: r)
    | 0 => match vs with
      | [] => k (c :: cs)
      | v :: vs => splK cs 0 vs fun r => k (v :: r)

def allOneA : List AV → Bool
  | [] => true
  | v :: r => one v && allOneA r

def wrC (s : St) (i o : Nat) (vs : List AV) (k : St → Bool) : Bool :=
  cond (allOneA vs) (match s.h.get i with
    | some (.row cs z p) => splK cs o vs fun cs' => putB s i (.row cs' z p) k
    | _ => false) false

/-- A slice's cells. -/
def slC (s : St) (size n : Nat) : AV → Option (List AV)
  | .sl0 => cond (Nat.beq n 0) (some []) none
  | .sl i o len _ => cond (Nat.ble n len) (rdC s i o (n * size)) none
  | .slo i o len _ => cond (Nat.ble n len) (rdC s i o (n * size)) none
  | .slE _ => cond (Nat.beq n 0) (some []) none
  | _ => none

def slLen : AV → Option Nat
  | .sl0 => some 0
  | .sl _ _ n _ => some n
  | .slo _ _ n _ => some n
  | .slE _ => some 0
  | _ => none

def repA (z : List AV) : Nat → List AV
  | 0 => []
  | n + 1 => z ++ repA z n

/-- append. -/
def appC (size bytes zl : Nat) (x : AV) (n : Nat) (vs : List AV) (s : St) (k : AV → St → Bool) : Bool :=
  cond (allOneA vs && (Nat.beq zl size && (Nat.beq vs.length (n * size) && Nat.blt 0 size))) (match x with
    | .sl0 => match n with
      | 0 => k .sl0 s
      | _ + 1 => cond (Nat.ble (n * bytes) (2 ^ 46) && Nat.ble n (2 ^ 62)) (newB s (.row vs size true) fun j s' => k (.slo j 0 n 0) s') false
    | .sl i o len cap => fN (len + n) fun m => cond (Nat.ble m cap) (wrC s i (o + len * size) vs fun s' => k (.sl i o m cap) s')
        (cond (Nat.ble (m * bytes) (2 ^ 46) && Nat.ble m (2 ^ 62)) (match rdC s i o (len * size) with
          | some old => newB s (.row (old ++ vs) size true) fun j s' => k (.slo j 0 m 0) s'
          | none => false) false)
    | .slo i o len d => fN (len + n) fun m => match s.h.get i with
      | some (.row cs z true) => cond (Nat.beq z size && Nat.beq (d * size) o)
          (cond (Nat.ble (o + m * size) cs.length) (wrC s i (o + len * size) vs fun s' => k (.slo i o m d) s')
            (cond (Nat.beq o 0 && (Nat.beq d 0 && (Nat.beq (len * size) cs.length && (Nat.ble (m * bytes) (2 ^ 46) && Nat.ble m (2 ^ 62)))))
              (putB s i .dead fun s1 => newB s1 (.row (cs ++ vs) size true) fun j s' => k (.slo j 0 m 0) s') false)) false
      | _ => false
    | _ => false) false
end
end Gp.Rn
