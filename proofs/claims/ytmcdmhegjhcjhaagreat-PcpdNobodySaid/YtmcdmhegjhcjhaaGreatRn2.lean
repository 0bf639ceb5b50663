import Derived.Test.YtmcdmhegjhcjhaaGreatRn1
/- A machine that runs closed code over named blocks: one operation. -/
namespace Gp.Rn
open Go Gp
noncomputable section

structure Cb where
  call : FuncId → List AV → St → (List AV → St → Bool) → Bool
  yld : Nat → List AV → St → (Bool → St → Bool) → Bool

def intC (op : BinOp) (kd : IntKind) (a b : Int) (k : AV → Bool) : Bool :=
  match op with
  | .add => fI (kd.wrap (a + b)) fun n => k (.int kd n)
  | .sub => fI (kd.wrap (a - b)) fun n => k (.int kd n)
  | .mul => fI (kd.wrap (a * b)) fun n => k (.int kd n)
  | .quo => cond (b == 0) false (fI (kd.wrap (a.tdiv b)) fun n => k (.int kd n))
  | .rem => cond (b == 0) false (fI (a.tmod b) fun n => k (.int kd n))
  | .and => fI (andI kd a b) fun n => k (.int kd n)
  | .or => fI (orI kd a b) fun n => k (.int kd n)
  | .xor => fI (xorI kd a b) fun n => k (.int kd n)
  | .andNot => fI (andNotI kd a b) fun n => k (.int kd n)
  | .eql => fB (a == b) fun t => k (.bool t)
  | .neq => fB (a != b) fun t => k (.bool t)
  | .lss => fB (decide (a < b)) fun t => k (.bool t)
  | .leq => fB (decide (a ≤ b)) fun t => k (.bool t)
  | .gtr => fB (decide (a > b)) fun t => k (.bool t)
  | .geq => fB (decide (a ≥ b)) fun t => k (.bool t)
  | _ => false

def strC (op : BinOp) (a b : ByteArray) (k : AV → Bool) : Bool :=
  match op with
  | .add => cond (Nat.ble (a.size + b.size) 9223372036854775807) (k (.str ⟨⟨a.data.toList ++ b.data.toList⟩⟩)) false
  | .eql => fB (sEq a b) fun t => k (.bool t)
  | .neq => fB (!sEq a b) fun t => k (.bool t)
  | .lss => fB (sLt a b) fun t => k (.bool t)
  | .leq => fB (sLt a b || sEq a b) fun t => k (.bool t)
  | .gtr => fB (!(sLt a b || sEq a b)) fun t => k (.bool t)
  | .geq => fB (!sLt a b) fun t => k (.bool t)
  | _ => false

def eqC (d : TypeDesc) (x y : AV) : Option Bool :=
  match d, x, y with
  | .bool, .bool a, .bool b => some (a == b)
  | .pointer _, .ptr0, .ptr0 => some true
  | .pointer _, .ptr _ _, .ptr0 => some false
  | .slice _, .sl0, .sl0 => some true
  | .slice _, .sl _ _ _ _, .sl0 => some false
  | .slice _, .slo _ _ _ _, .sl0 => some false
  | .slice _, .slE _, .sl0 => some false
  | .map _ _, .map0, .map0 => some true
  | .map _ _, .map _, .map0 => some false
  | _, _, _ => none

def binC (P : Program) (op : BinOp) (t : TypeId) (x y : AV) (k : AV → Bool) : Bool :=
  match x with
  | .int kd a => match y with
    | .int kd' b => match op with
      | .shl => cond (decide (0 ≤ b)) (fI (shlI kd a b) fun n => k (.int kd n)) false
      | .shr => cond (decide (0 ≤ b)) (fI (shrI kd a b) fun n => k (.int kd n)) false
      | op => cond (ikEq kd kd') (intC op kd a b k) false
    | _ => false
  | .str a => match y with
    | .str b => strC op a b k
    | _ => false
  | .agg xs => match isEqOp op, plainL xs, y with
    | some s, some xs', .agg ys => match plainL ys with
      | some ys' => cond (P.eqGuardType P.depth t) false (match eqTC P 16 t (.agg ⟨xs'⟩) (.agg ⟨ys'⟩) with
        | some b => fB (cond s b (!b)) fun b => k (.bool b)
        | none => false)
      | none => false
    | _, _, _ => false
  | x => match isEqOp op, P.underlying t with
    | some s, some d => match eqC d x y with
      | some b => fB (cond s b (!b)) fun b => k (.bool b)
      | none => false
    | _, _ => false

def unC (op : UnOp) (x : AV) (k : AV → Bool) : Bool :=
  match op, x with
  | .neg, .int kd n => fI (kd.wrap (0 - n)) fun n => k (.int kd n)
  | .not, .bool b => fB (!b) fun b => k (.bool b)
  | .xor, .int kd n => fI (xorI kd (if kd.signed then -1 else kd.max) n) fun n => k (.int kd n)
  | _, _ => false

def optC (ρ : Operand → AV) (x : Option Operand) (d : Int) (k : Int → Bool) : Bool :=
  match x with
  | none => k d
  | some o => match ρ o with
    | .int _ n => k n
    | _ => false

def subC (x : AV) (size : Nat) (l h : Int) (s : St) (k : AV → Bool) : Bool :=
  cond (decide (0 ≤ l) && decide (l ≤ h)) (match x with
    | .sl0 => cond (decide (h ≤ 0)) (k .sl0) false
    | .sl i o _ cap => cond (decide (h ≤ (cap : Int))) (fN (cond (Nat.beq cap l.toNat) o (o + l.toNat * size)) fun o' => fN (h.toNat - l.toNat) fun n' => fN (cap - l.toNat) fun c' => k (.sl i o' n' c')) false
    | .slE i => cond (decide (h ≤ 0)) (k (.slE i)) false
    | .slo i o _ d => match s.h.get i with
      | some (.row cs z true) => cond (Nat.beq z size && (Nat.beq (d * size) o && Nat.ble (o + h.toNat * size) cs.length))
          (match l.toNat with
            | 0 => fN h.toNat fun n' => k (.slo i o n' d)
            | m + 1 => cond (Nat.blt (o + (m + 1) * size) cs.length) (fN (o + (m + 1) * size) fun o' => fN (h.toNat - (m + 1)) fun n' => fN (d + (m + 1)) fun d' => k (.slo i o' n' d'))
              (cond (Nat.beq (h.toNat - (m + 1)) 0) (k (.slE i)) false)) false
      | _ => false
    | _ => false) false

def sub3C (x : AV) (size : Nat) (l h m : Int) (s : St) (k : AV → Bool) : Bool :=
  cond (decide (0 ≤ l) && (decide (l ≤ h) && decide (h ≤ m))) (match x with
    | .sl0 => cond (decide (m ≤ 0)) (k .sl0) false
    | .sl i o _ cap => cond (decide (m ≤ (cap : Int))) (fN (cond (Nat.beq m.toNat l.toNat) o (o + l.toNat * size)) fun o' => fN (h.toNat - l.toNat) fun n' => fN (m.toNat - l.toNat) fun c' => k (.sl i o' n' c')) false
    | .slo i o _ d => match s.h.get i with
      | some (.row cs z true) => cond (Nat.beq z size && (Nat.beq (d * size) o && Nat.ble (o + m.toNat * size) cs.length))
          (fN (cond (Nat.beq m.toNat l.toNat) o (o + l.toNat * size)) fun o' => fN (h.toNat - l.toNat) fun n' => fN (m.toNat - l.toNat) fun c' => k (.sl i o' n' c')) false
      | _ => false
    | _ => false) false

def sliceC (P : Program) (t : TypeId) (x : AV) (ρ : Operand → AV) (lo hi mx : Option Operand) (s : St) (k : AV → Bool) : Bool :=
  match P.underlying t with
  | some .string => match x, mx with
    | .str b, none => optC ρ lo 0 fun l => optC ρ hi (b.size : Int) fun h => cond (decide (0 ≤ l) && (decide (l ≤ h) && decide (h ≤ (b.size : Int)))) (k (.str ⟨⟨(b.data.toList.take h.toNat).drop l.toNat⟩⟩)) false
    | _, _ => false
  | some (.slice e) => match sizeOf? P e, slLen x with
    | some size, some n => cond (Nat.blt 0 size) (match mx with
      | none => optC ρ lo 0 fun l => optC ρ hi (n : Int) fun h => subC x size l h s k
      | some m => match hi with
        | some _ => optC ρ lo 0 fun l => optC ρ hi 0 fun h => optC ρ (some m) 0 fun m' => sub3C x size l h m' s k
        | none => false) false
    | _, _ => false
  | some (.array n e) => match x, sizeOf? P e, mx with
    | .ptr i o, some size, none => optC ρ lo 0 fun l => optC ρ hi (n : Int) fun h => cond (decide (0 ≤ l) && (decide (l ≤ h) && decide (h ≤ (n : Int))))
        (fN (cond (Nat.beq n l.toNat) o (o + l.toNat * size)) fun o' => fN (h.toNat - l.toNat) fun n' => fN (n - l.toNat) fun c' => k (.sl i o' n' c')) false
    | _, _, _ => false
  | _ => false

def u8s : List AV → Option (List UInt8)
  | [] => some []
  | .int .u8 (.ofNat n) :: r => cond (Nat.blt n 256) (match u8s r with
    | some l => some (UInt8.ofNat n :: l)
    | none => none) none
  | _ => none

def byA (l : List UInt8) : List AV := l.map fun b => .int .u8 (.ofNat b.toNat)

def convC (P : Program) (sd d : TypeId) (x : AV) (s : St) (k : AV → St → Bool) : Bool :=
  match P.underlying sd, P.underlying d with
  | some (.slice e), some .string => match P.underlying e, slLen x with
    | some (.int .u8), some n => match slC s 1 n x with
      | some cs => match u8s cs with
        | some l => k (.str ⟨⟨l⟩⟩) s
        | none => false
      | none => false
    | _, _ => false
  | some .string, some (.slice e) => match P.underlying e, x with
    | some (.int .u8), .str b => cond (Nat.ble b.size (2 ^ 62)) (newB s (.row (byA b.data.toList) 1 true) fun i s' => k (.slo i 0 b.size 0) s') false
    | _, _ => false
  | some (.slice _), some (.slice e) => match P.underlying e, Nat.beq sd d, x with
    | some (.int .u8), true, .sl i _ _ _ => match s.h.get i with
      | some (.row _ _ _) => k x s
      | _ => false
    | _, _, _ => false
  | some _, some (.int kd) => match x with
    | .int _ n => fI (kd.wrap n) fun n => k (.int kd n) s
    | _ => false
  | some _, some .string => match x with
    | .str b => k (.str b) s
    | _ => false
  | _, _ => false

def partC (d : TypeDesc) (size off : Nat) (cs : List AV) (k : AV → Bool) : Bool :=
  cond (isAggD d) (k (.agg ((cs.drop off).take size))) (match cs[off]? with
    | some v => k v
    | none => false)

def cellsA : AV → List AV
  | .agg cs => cs
  | v => [v]

def spliceA (cs : List AV) (off : Nat) (vs : List AV) : List AV := cs.take off ++ (vs ++ cs.drop (off + vs.length))

def fillA (place : Nat → Option (Nat × Nat)) : List (Nat × AV) → List AV → Option (List AV)
  | [], cs => some cs
  | (i, v) :: r, cs => match place i with
    | some (off, size) => cond (Nat.beq (cellsA v).length size && Nat.ble (off + size) cs.length) (fillA place r (spliceA cs off (cellsA v))) none
    | none => none

def fillOA : List (Nat × AV) → List AV → Option (List AV)
  | [], cs => some cs
  | (i, v) :: r, cs => cond (Nat.blt i cs.length) (fillOA r (cs.set i v)) none

def zerosA (P : Program) (e : TypeId) : Option (List AV) :=
  match zeroCells? P e with
  | some z => leavesA z
  | none => none

/-! ### Maps -/
def findC (P : Program) (kt : TypeId) (key : Value) : List (AV × AV × Nat) → Nat → Option (Option (Nat × AV × AV))
  | [], _ => some none
  | (q, v, _) :: es, i => match plainA q with
    | some q' => match eqTC P 16 kt key q' with
      | some true => some (some (i, q, v))
      | some false => findC P kt key es (i + 1)
      | none => none
    | none => none

def kyOk (P : Program) (kt : TypeId) (key : AV) : Option Value :=
  match plainA key with
  | some v => cond (plainV v && (eqTC P 16 kt v v).isSome) (some v) none
  | none => none

def mapAt (s : St) (m : AV) : Option (List (AV × AV × Nat) × Nat) :=
  match m with
  | .map r => match s.h.get r with
    | some (.map es c) => some (es, c)
    | _ => none
  | _ => none

/-- What a key has. -/
def getC (P : Program) (kt : TypeId) (m key : AV) (z : AV) (s : St) (k : AV → Bool → Bool) : Bool :=
  match kyOk P kt key with
  | some kv => match m with
    | .map0 => k z false
    | m => match mapAt s m with
      | some (es, _) => match findC P kt kv es 0 with
        | some (some (_, _, v)) => k v true
        | some none => k z false
        | none => false
      | none => false
  | none => false

def lsEq {α : Type} (f : α → α → Bool) : List α → List α → Bool
  | [], [] => true
  | a :: l, b :: m => f a b && lsEq f l m
  | _, _ => false

mutual
def avEq : AV → AV → Bool
  | .int k n, .int k' n' => ikEq k k' && n == n'
  | .bool a, .bool b => a == b
  | .str a, .str b => sEq a b
  | .ptr0, .ptr0 => true
  | .ptr i o, .ptr i' o' => Nat.beq i i' && Nat.beq o o'
  | .sl0, .sl0 => true
  | .sl i o l c, .sl i' o' l' c' => Nat.beq i i' && (Nat.beq o o' && (Nat.beq l l' && Nat.beq c c'))
  | .slo i o l c, .slo i' o' l' c' => Nat.beq i i' && (Nat.beq o o' && (Nat.beq l l' && Nat.beq c c'))
  | .map0, .map0 => true
  | .map r, .map r' => Nat.beq r r'
  | .fn f a b, .fn f' a' b' => Nat.beq f f' && (avsEq a a' && avsEq b b')
  | .yld l, .yld l' => Nat.beq l l'
  | .agg a, .agg b => avsEq a b
  | .tup a, .tup b => avsEq a b
  | .nilF, .nilF => true
  | .nilI, .nilI => true
  | _, _ => false
def avsEq : List AV → List AV → Bool
  | [], [] => true
  | a :: l, b :: m => avEq a b && avsEq l m
  | _, _ => false
end

def setC (P : Program) (kt : TypeId) (m key val : AV) (s : St) (k : St → Bool) : Bool :=
  match kyOk P kt key with
  | some kv => match m with
    | .map r => match s.h.get r with
      | some (.map es c) => match findC P kt kv es 0 with
        | some (some (i, q, _)) => cond (avEq q key) (match es[i]? with
          | some (_, _, b) => putB s r (.map (es.set i (key, val, b)) c) k
          | none => false) false
        | some none => putB s r (.map (es ++ [(key, val, c)]) (c + 1)) k
        | none => false
      | _ => false
    | _ => false
  | none => false

def delC (P : Program) (kt : TypeId) (m key : AV) (s : St) (k : St → Bool) : Bool :=
  match kyOk P kt key with
  | some kv => match m with
    | .map0 => k s
    | .map r => match s.h.get r with
      | some (.map es c) => match findC P kt kv es 0 with
        | some (some (i, _, _)) => putB s r (.map (es.eraseIdx i) c) k
        | some none => k s
        | none => false
      | _ => false
    | _ => false
  | none => false

def inN (b : Nat) : List Nat → Bool
  | [] => false
  | x :: r => cond (Nat.beq x b) true (inN b r)

def leftC (since : Nat) (seen : List Nat) : List (AV × AV × Nat) → List (AV × AV × Nat)
  | [] => []
  | e :: es => cond (inN e.2.2 seen) (leftC since seen es) (e :: leftC since seen es)

def allBelow (n : Nat) : List (AV × AV × Nat) → Bool
  | [] => true
  | e :: es => Nat.blt e.2.2 n && allBelow n es

def nextC (q : AV) (s : St) (k : AV → St → Bool) : Bool :=
  match q with
  | .ptr i 0 => match s.h.get i with
    | some (.iter none _ _ _) => k (.tup [.bool false]) s
    | some (.iter (some m) since seen _) => match s.h.get m with
      | some (.map es c) => cond (allBelow since es && Nat.ble since c) (match leftC since seen es with
          | [] => k (.tup [.bool false]) s
          | [(a, b, n)] => putB s i (.iter (some m) since (seen ++ [n]) c) fun s' => k (.tup [.bool true, a, b]) s'
          | _ => false) false
      | _ => false
    | _ => false
  | _ => false

def bornIs (n : Nat) : List (AV × AV × Nat) → Option (AV × AV)
  | [] => none
  | e :: es => cond (Nat.beq e.2.2 n) (some (e.1, e.2.1)) (bornIs n es)

def noDupB : List (AV × AV × Nat) → Bool
  | [] => true
  | e :: es => (match bornIs e.2.2 es with
    | none => true
    | some _ => false) && noDupB es

def lastN : List Nat → Option Nat
  | [] => none
  | [x] => some x
  | _ :: r => lastN r

def entryC (q : AV) (s : St) (k : AV → Bool) : Bool :=
  match q with
  | .ptr i 0 => match s.h.get i with
    | some (.iter (some m) _ seen c) => match s.h.get m, lastN seen with
      | some (.map es c'), some n => cond (noDupB es && Nat.beq c c') (match bornIs n es with
        | some (a, b) => k (.tup [a, b])
        | none => false) false
      | _, _ => false
    | _ => false
  | _ => false

/-! ### Builtins -/
def foldC (mx : Bool) : Int → List AV → IntKind → (AV → Bool) → Bool
  | x, [], k, f => fI x fun x => f (.int k x)
  | x, .int _ y :: r, k, f => foldC mx (cond mx (cond (decide (y > x)) y x) (cond (decide (y < x)) y x)) r k f
  | _, _ :: _, _, _ => false

def biC (P : Program) (b : Builtin) (ts : List TypeId) (args : List AV) (s : St) (k : AV → St → Bool) : Bool :=
  match b with
  | .len => match ts, args with
    | [t], [x] => match P.underlying t, x with
      | some .string, .str b => fN b.size fun n => k (.int .i64 (.ofNat n)) s
      | some (.array n _), _ => k (.int .i64 (.ofNat n)) s
      | some (.slice _), x => match slLen x with
        | some n => k (.int .i64 (.ofNat n)) s
        | none => false
      | some (.map _ _), .map0 => k (.int .i64 (.ofNat 0)) s
      | some (.map _ _), .map r => match s.h.get r with
        | some (.map es _) => fN es.length fun n => k (.int .i64 (.ofNat n)) s
        | _ => false
      | _, _ => false
    | _, _ => false
  | .cap => match ts, args with
    | [t], [x] => match P.underlying t, x with
      | some (.slice _), .sl0 => k (.int .i64 (.ofNat 0)) s
      | some (.slice _), .sl _ _ _ c => k (.int .i64 (.ofNat c)) s
      | _, _ => false
    | _, _ => false
  | .max => match args with
    | .int kd x :: r => foldC true x r kd fun v => k v s
    | _ => false
  | .min => match args with
    | .int kd x :: r => foldC false x r kd fun v => k v s
    | _ => false
  | .append => match ts, args with
    | [t, t'], [x, y] => match P.underlying t, P.underlying t' with
      | some (.slice e), some d => match sizeOf? P e, bytesOf? P e, zeroCells? P e with
        | some size, some bytes, some z => match d with
          | .slice _ => match slLen y with
            | some n => match slC s size n y with
              | some vs => appC size bytes z.length x n vs s k
              | none => false
            | none => false
          | .string => match y with
            | .str b => appC size bytes z.length x b.size (byA b.data.toList) s k
            | _ => false
          | .int _ => match y, leavesA z with
            | .int _ (.ofNat n), some za => cond (Nat.beq z.length size && (Nat.ble (n * bytes) (2 ^ 46) && Nat.ble n (2 ^ 62))) (appC size bytes z.length x n (repA za n) s k) false
            | _, _ => false
          | _ => false
        | _, _, _ => false
      | _, _ => false
    | _, _ => false
  | .copy => match ts, args with
    | [t, _], [x, y] => match P.underlying t with
      | some (.slice e) => match sizeOf? P e, slLen x, slLen y with
        | some size, some n, some m => match slC s size (Nat.min m n) y with
          | some vs => match x with
            | .sl i o _ _ => wrC s i o vs fun s' => k (.int .i64 (.ofNat (Nat.min m n))) s'
            | .slo i o _ _ => wrC s i o vs fun s' => k (.int .i64 (.ofNat (Nat.min m n))) s'
            | .sl0 => k (.int .i64 (.ofNat 0)) s
            | _ => false
          | none => false
        | _, _, _ => false
      | _ => false
    | _, _ => false
  | .clear => match ts, args with
    | [t], [x] => match P.underlying t with
      | some (.slice e) => match sizeOf? P e, zerosA P e, x with
        | some size, some z, .sl i o n _ => cond (Nat.beq z.length size) (wrC s i o (repA z n) fun s' => k (.tup []) s') false
        | some size, some z, .slo i o n _ => cond (Nat.beq z.length size) (wrC s i o (repA z n) fun s' => k (.tup []) s') false
        | some size, some z, .sl0 => cond (Nat.beq z.length size) (k (.tup []) s) false
        | _, _, _ => false
      | _ => false
    | _, _ => false
  | .delete => match ts, args with
    | [t, _], [m, key] => match P.underlying t with
      | some (.map kt _) => delC P kt m key s fun s' => k (.tup []) s'
      | _ => false
    | _, _ => false
  | _ => false

def tupA : List AV → AV
  | [v] => v
  | vs => .tup vs

/-! ### One operation -/
section
variable (P : Program)

def pickC (c a b : AV) (s : St) (k : AV → St → Bool) : Bool :=
  match c with
  | .bool t => cond t (k a s) (k b s)
  | _ => false

def allocC (e : TypeId) (s : St) (k : AV → St → Bool) : Bool :=
  match zerosA P e with
  | some z => newB s (.row z 1 false) fun i s' => k (.ptr i 0) s'
  | none => false

def boxC (e : TypeId) (x : AV) (s : St) (k : AV → St → Bool) : Bool :=
  match shapeOf P e with
  | some (.one _) => cond (one x) (newB s (.row [x] 1 false) fun i s' => k (.ptr i 0) s') false
  | some (.agg _) => match x with
    | .agg cs => newB s (.row cs 1 false) fun i s' => k (.ptr i 0) s'
    | _ => false
  | none => false

def buildC (t : TypeId) (ps : List (Nat × AV)) (k : AV → Bool) : Bool :=
  match zerosA P t, P.underlying t with
  | some z, some (.struct fs) => match placesOf P fs.toList with
    | some pl => match fillA (fun i => pl[i]?) ps z with
      | some cs => k (.agg cs)
      | none => false
    | none => false
  | some z, some (.array _ e) => match sizeOf? P e with
    | some size => match fillA (fun i => some (i * size, size)) ps z with
      | some cs => k (.agg cs)
      | none => false
    | none => false
  | _, _ => false

def buildSC (t : TypeId) (n : Nat) (ps : List (Nat × AV)) (s : St) (k : AV → St → Bool) : Bool :=
  match P.underlying t with
  | some (.slice e) => match sizeOf? P e, zerosA P e with
    | some size, some z => cond (Nat.ble (n * size) 4096 && Nat.beq z.length size)
      (cond (anySh (shapeOf P e)) (cond (Nat.beq size 1 && allOneA (ps.map fun p => p.2)) (match fillOA ps (repA z n) with
       | some cs => newB s (.row cs size false) fun i s' => k (.sl i 0 n n) s'
       | none => false) false)
       (match fillA (fun i => some (i * size, size)) ps (repA z n) with
       | some cs => newB s (.row cs size false) fun i s' => k (.sl i 0 n n) s'
       | none => false)) false
    | _, _ => false
  | _ => false

def ldC (t : TypeId) (x : AV) (s : St) (k : AV → St → Bool) : Bool :=
  match x, shapeOf P t, sizeOf? P t with
  | .ptr i a, some (.one kd), some n => cond (Nat.beq 1 n) (match rdC s i a 1 with
    | some [v] => cond (kOk kd v) (k v s) false
    | _ => false) false
  | .ptr i a, some (.agg ks), some n => cond (Nat.beq ks.length n) (match rdC s i a n with
    | some vs => cond (ksOk ks vs) (k (.agg vs) s) false
    | none => false) false
  | _, _, _ => false

def stC (t : TypeId) (x y : AV) (s : St) (k : AV → St → Bool) : Bool :=
  match x, shapeOf P t, sizeOf? P t with
  | .ptr i a, some (.one _), some n => cond (Nat.beq n 1) (wrC s i a [y] fun s' => k (.tup []) s') false
  | .ptr i a, some (.agg _), some n => match y with
    | .agg cs => cond (Nat.beq cs.length n) (wrC s i a cs fun s' => k (.tup []) s') false
    | _ => false
  | _, _, _ => false

def nlC (x : AV) (k : AV → Bool) : Bool :=
  match x with
  | .ptr i a => k (.ptr i a)
  | _ => false

def mkfC (fn : Fn) (first cap : List AV) (k : AV → Bool) : Bool :=
  match fn with
  | .func f => k (.fn f first cap)
  | _ => false

def lookC (t : TypeId) (m key : AV) (c : Bool) (s : St) (k : AV → St → Bool) : Bool :=
  match P.underlying t with
  | some (.map kt et) => match shapeOf P et, zeroV? P et with
    | some sh, some z => match constA z with
      | some za => getC P kt m key za s fun v b => cond (shOk sh v) (cond c (k (.tup [v, .bool b]) s) (k v s)) false
      | none => false
    | _, _ => false
  | _ => false

def updC (t : TypeId) (m key v : AV) (s : St) (k : AV → St → Bool) : Bool :=
  match P.underlying t with
  | some (.map kt _) => setC P kt m key v s fun s' => k (.tup []) s'
  | _ => false

def mentC (t : TypeId) (m key : AV) (s : St) (k : AV → St → Bool) : Bool :=
  match P.underlying t with
  | some (.map kt et) => match zeroV? P et with
    | some z => match constA z, kyOk P kt key, m with
      | some za, some kv, .map r => match s.h.get r with
        | some (.map es c) => match findC P kt kv es 0 with
          | some (some (i, q, v)) => cond (avEq q key) (match es[i]? with
            | some (_, v', b) => putB s r (.map (es.set i (key, v', b)) c) fun s' => k (.tup [v', .int .i64 (.ofNat b)]) s'
            | none => false) false
          | some none => putB s r (.map (es ++ [(key, za, c)]) (c + 1)) fun s' => k (.tup [za, .int .i64 (.ofNat c)]) s'
          | none => false
        | _ => false
      | _, _, _ => false
    | none => false
  | _ => false

def idxB (n : Nat) : List (AV × AV × Nat) → Option Nat
  | [] => none
  | e :: es => cond (Nat.beq e.2.2 n) (some 0) (match idxB n es with
    | some i => some (i + 1)
    | none => none)

def mstC (m st v : AV) (s : St) (k : AV → St → Bool) : Bool :=
  match m, st with
  | .map r, .int _ (.ofNat n) => match s.h.get r with
    | some (.map es c) => match idxB n es with
      | some i => match es[i]? with
        | some (q, _, b) => putB s r (.map (es.set i (q, v, b)) c) fun s' => k (.tup []) s'
        | none => false
      | none => false
    | _ => false
  | _, _ => false

def mkmC (s : St) (k : AV → St → Bool) : Bool := newB s (.map [] 0) fun i s' => k (.map i) s'

def mksC (t : TypeId) (l c : AV) (s : St) (k : AV → St → Bool) : Bool :=
  match P.underlying t, l, c with
  | some (.slice e), .int _ (.ofNat n), .int _ (.ofNat m) => match sizeOf? P e, bytesOf? P e, zerosA P e with
    | some size, some bytes, some z => cond (Nat.beq z.length size && (Nat.ble n m && (Nat.ble m (2 ^ 62) && Nat.ble (bytes * m) (2 ^ 48)))) (newB s (.row (repA z m) size false) fun i s' => k (.sl i 0 n m) s') false
    | _, _, _ => false
  | _, _, _ => false

def faC (t : TypeId) (x : AV) (f : Nat) (k : AV → Bool) : Bool :=
  match P.underlying t, x with
  | some (.struct fs), .ptr i a => match fieldPlace? P fs f with
    | some (off, size) => cond (Nat.beq size 0) false (fN (a + off) fun a' => k (.ptr i a'))
    | none => false
  | _, _ => false

def fdC (t : TypeId) (x : AV) (f : Nat) (k : AV → Bool) : Bool :=
  match P.underlying t, x with
  | some (.struct fs), .agg cs => match fs.toList[f]? with
    | some fd => match P.underlying fd.type, sizeOf? P fd.type with
      | some d, some size => partC d size fd.offset cs k
      | _, _ => false
    | none => false
  | _, _ => false

def iaC (t : TypeId) (x i : AV) (k : AV → Bool) : Bool :=
  match P.underlying t, x, i with
  | some (.slice e), x, .int _ (.ofNat i) => match sizeOf? P e, x with
    | some size, .sl b o len _ => cond (Nat.blt i len) (fN (o + i * size) fun a => k (.ptr b a)) false
    | some size, .slo b o len _ => cond (Nat.blt i len) (fN (o + i * size) fun a => k (.ptr b a)) false
    | _, _ => false
  | some (.array n e), .ptr b o, .int _ (.ofNat i) => match sizeOf? P e with
    | some size => cond (Nat.blt i n) (fN (o + i * size) fun a => k (.ptr b a)) false
    | none => false
  | _, _, _ => false

def ixC (t : TypeId) (x i : AV) (k : AV → Bool) : Bool :=
  match P.underlying t, x, i with
  | some .string, .str b, .int _ (.ofNat i) => match b.data.toList[i]? with
    | some c => fN c.toNat fun n => k (.int .u8 (.ofNat n))
    | none => false
  | some (.array n e), .agg cs, .int _ (.ofNat i) => match P.underlying e, sizeOf? P e with
    | some d, some size => cond (Nat.blt i n) (partC d size (i * size) cs k) false
    | _, _ => false
  | _, _, _ => false

def exC (ty : TypeId) (t : AV) (i : Nat) (k : AV → Bool) : Bool :=
  match t with
  | .tup vs => match vs[i]? with
    | some v => match shapeOf P ty with
      | some (.one kd) => cond (kOk kd v) (k v) false
      | _ => k v
    | none => false
  | _ => false

def rgC (t : TypeId) (x : AV) (s : St) (k : AV → St → Bool) : Bool :=
  match P.underlying t, x with
  | some (.map _ _), .map0 => newB s (.iter none 0 [] 0) fun i s' => k (.ptr i 0) s'
  | some (.map _ _), .map r => match s.h.get r with
    | some (.map _ c) => newB s (.iter (some r) c [] c) fun i s' => k (.ptr i 0) s'
    | _ => false
  | _, _ => false

def clC (cb : Cb) (ty : TypeId) (f : FuncId) (args : List AV) (s : St) (k : AV → St → Bool) : Bool :=
  match resShapes P ty with
  | some sh => cond (hasBody P f) (cb.call f args s fun rs s' => cond (shsOk sh rs) (k (tupA rs) s') false) false
  | none => false

def cvC (cb : Cb) (ty : TypeId) (v : AV) (args : List AV) (s : St) (k : AV → St → Bool) : Bool :=
  match resShapes P ty, v with
  | some sh, .fn f first cap => cond (hasBody P f) (cb.call f (first ++ (args ++ cap)) s fun rs s' => cond (shsOk sh rs) (k (tupA rs) s') false) false
  | some sh, .yld l => cb.yld l args s fun b s' => cond (shsOk sh [.bool b]) (k (.bool b) s') false
  | _, _ => false

def ccC (cb : Cb) (ty : TypeId) (ρ : Operand → AV) (c : Callee) (ts : List TypeId) (args : List AV) (s : St) (k : AV → St → Bool) : Bool :=
  match c with
  | .value x => match x with
    | .func f => clC P cb ty f args s k
    | x => cvC P cb ty (ρ x) args s k
  | .builtin b => biC P b ts args s k
  | _ => false

def opC (cb : Cb) (op : Op) (ty : TypeId) (ρ : Operand → AV) (s : St) (k : AV → St → Bool) : Bool :=
  match op with
  | .move x => k (ρ x) s
  | .assign x => k (ρ x) s
  | .pick c a b => pickC (ρ c) (ρ a) (ρ b) s k
  | .alloc e => allocC P e s k
  | .box e x => boxC P e (ρ x) s k
  | .build t ps => buildC P t (ps.toList.map fun p => (p.1, ρ p.2)) fun v => k v s
  | .buildSlice t n ps => buildSC P t n (ps.toList.map fun p => (p.1, ρ p.2)) s k
  | .load t x => ldC P t (ρ x) s k
  | .store t x y => stC P t (ρ x) (ρ y) s k
  | .nilCheck x => nlC (ρ x) fun v => k v s
  | .binOp op t x y _ => binC P op t (ρ x) (ρ y) fun v => k v s
  | .unOp op _ x => unC op (ρ x) fun v => k v s
  | .convert sd d x => convC P sd d (ρ x) s k
  | .makeFunc fn first cap => mkfC fn (first.toList.map ρ) (cap.toList.map ρ) fun v => k v s
  | .lookup t x i c => lookC P t (ρ x) (ρ i) c s k
  | .mapUpdate t x i v => updC P t (ρ x) (ρ i) (ρ v) s k
  | .mapEntry t x i => mentC P t (ρ x) (ρ i) s k
  | .entryStore _ x st v => mstC (ρ x) (ρ st) (ρ v) s k
  | .makeMap _ none => mkmC s k
  | .makeSlice t l c => mksC P t (ρ l) (ρ c) s k
  | .slice t x lo hi mx => sliceC P t (ρ x) ρ lo hi mx s fun v => k v s
  | .fieldAddr t x f => faC P t (ρ x) f fun v => k v s
  | .field t x f => fdC P t (ρ x) f fun v => k v s
  | .indexAddr t x i => iaC P t (ρ x) (ρ i) fun v => k v s
  | .index t x i => ixC P t (ρ x) (ρ i) fun v => k v s
  | .extract t i => exC P ty (ρ t) i fun v => k v s
  | .range t x => rgC P t (ρ x) s k
  | .next x false => nextC (ρ x) s k
  | .entry x => entryC (ρ x) s fun v => k v s
  | .call c => ccC P cb ty ρ c.callee c.argTypes.toList (c.args.toList.map ρ) s k
  | _ => false
end
end
end Gp.Rn
