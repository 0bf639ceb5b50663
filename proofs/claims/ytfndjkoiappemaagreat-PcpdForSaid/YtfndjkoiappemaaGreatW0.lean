import Derived.RangeFuncLeaves
import Derived.OrdersIn
import Derived.RangeFuncSeq
import Derived.Maps.RangeRun
import Derived.Laws.Append
import Derived.Laws.Slices
import Derived.Laws.MakeOwn
import Derived.Laws.CopyOwn
import Derived.Laws.BytesString
import Derived.Laws.BytesArg
section
namespace Gp
open Go
inductive Kind where
  | int (k : IntKind) | bool | str | ptr | slice | map | any
structure ah where
  a : Option Addr
  len : Nat
  cap : Nat
@[reducible] def Kind.T : Kind -> Type
  | .int _ => Int
  | .bool => Bool
  | .str => ByteArray
  | .ptr => Option Addr
  | .slice => ah
  | .map => Option Nat
  | .any => Value
def Kind.enc : (k : Kind) -> k.T -> Value
  | .int k, n => .int k n
  | .bool, b => .bool b
  | .str, s => .string s
  | .ptr, a => .pointer a
  | .slice, s => .slice s.a s.len s.cap
  | .map, r => .map r
  | .any, v => v
inductive Shape where
  | one (k : Kind)
  | agg (ks : List Kind)
def kindOf : TypeDesc -> Option Kind
  | .bool => some .bool
  | .int k => some (.int k)
  | .string => some .str
  | .pointer _ => some .ptr
  | .slice _ => some .slice
  | .map _ _ => some .map
  | .func _ _ _ => some .any
  | .interface _ => some .any
  | _ => none
def acd : List (Option (List Kind)) -> Option (List Kind)
  | [] => some []
  | x :: r => match x, acd r with
    | some a, some b => some (a ++ b)
    | _, _ => none
def abV : Nat -> List Kind -> List Kind
  | 0, _ => []
  | n + 1, ks => ks ++ abV n ks
def Dp (P : Program) : Nat -> TypeId -> Option (List Kind)
  | 0, _ => none
  | n + 1, t => match P.underlying t with
    | some (.struct fs) => acd (fs.toList.map fun f => Dp P n f.type)
    | some (.array len e) => match Dp P n e with
      | some ks => some (abV len ks)
      | none => none
    | some d => match kindOf d with
      | some k => some [k]
      | none => none
    | none => none
def B_ : TypeDesc -> Bool
  | .struct _ => true
  | .array _ _ => true
  | _ => false
def shapeOf (P : Program) (t : TypeId) : Option Shape :=
  match P.underlying t with
  | some d => cond (B_ d)
    (match Dp P 20 t with
     | some ks => some (.agg ks)
     | none => none)
    (match kindOf d with
     | some k => some (.one k)
     | none => none)
  | none => none
def Rh (P : Program) : List TypeId -> Option (List Shape)
  | [] => some []
  | t :: r => match shapeOf P t, Rh P r with
    | some a, some b => some (a :: b)
    | _, _ => none
def Ij (P : Program) (t : TypeId) : Option (List Shape) :=
  match P.underlying t with
  | some (.tuple ts) => Rh P ts.toList
  | _ => match shapeOf P t with
    | some s => some [s]
    | none => none
def abl : (ks : List Kind) -> (List Value -> Prop) -> Prop
  | [], φ => φ []
  | k :: ks, φ => ∃ x : k.T, abl ks fun vs => φ (k.enc x :: vs)
def Shape.ex : Shape -> (Value -> Prop) -> Prop
  | .one k, φ => ∃ x : k.T, φ (k.enc x)
  | .agg ks, φ => abl ks fun vs => φ (.agg ⟨vs⟩)
def CP : List Shape -> (List Value -> Prop) -> Prop
  | [], φ => φ []
  | s :: r, φ => s.ex fun v => CP r fun vs => φ (v :: vs)
def Q5 : List Value -> Value
  | [v] => v
  | vs => .tuple ⟨vs⟩
def bK : Value -> Bool
  | .agg _ => false
  | .tuple _ => false
  | _ => true
def Ld (k : Kind) (w : World) (a : Addr) (K : k.T -> Prop) : Prop := ∃ x : k.T, w.cell? a = some (k.enc x) ∧ K x
def LdN : List Kind -> World -> Addr -> Nat -> (List Value -> Prop) -> Prop
  | [], _, _, _, φ => φ []
  | k :: ks, w, a, i, φ => Ld k w (a.add i) fun x => LdN ks w a (i + 1) fun vs => φ (k.enc x :: vs)
def Shape.ld : Shape -> World -> Addr -> (Value -> Prop) -> Prop
  | .one k, w, a, φ => Ld k w a fun x => φ (k.enc x)
  | .agg ks, w, a, φ => LdN ks w a 0 fun vs => φ (.agg ⟨vs⟩)
def Shape.cells : Shape -> Nat
  | .one _ => 1
  | .agg ks => ks.length
def St (w : World) (a : Addr) (v : Value) (K : World -> Prop) : Prop := bK v = true ∧ (w.cell? a).isSome = true ∧ w.frozen? a = false ∧ K (w.setCell a v)
def iT : List Value -> World -> Addr -> Nat -> (World -> Prop) -> Prop
  | [], w, _, _, K => K w
  | v :: vs, w, a, i, K => St w (a.add i) v fun w' => iT vs w' a (i + 1) K
@[reducible] def VI (w : World) : Value := .pointer (some ⟨w.heap.size, 0, none⟩)
def aJ (z : List Value) : Nat -> List Value
  | 0 => []
  | n + 1 => z ++ aJ z n
def dI (P : Program) (t : TypeId) : Option Nat :=
  match P.info? t with
  | some i => some i.size
  | none => none
def sW (k : IntKind) (a b : Int) : Int := k.wrap ((BitVec.ofInt k.bits a &&& BitVec.ofInt k.bits b).toNat : Int)
def orI (k : IntKind) (a b : Int) : Int := k.wrap ((BitVec.ofInt k.bits a ||| BitVec.ofInt k.bits b).toNat : Int)
def Uz (k : IntKind) (a b : Int) : Int := k.wrap ((BitVec.ofInt k.bits a ^^^ BitVec.ofInt k.bits b).toNat : Int)
def aag (k : IntKind) (a b : Int) : Int := k.wrap ((BitVec.ofInt k.bits a &&& ~~~(BitVec.ofInt k.bits b)).toNat : Int)
def Vt (k : IntKind) (a b : Int) : Int := k.wrap (a * 2 ^ (min b.toNat k.bits))
def gG (k : IntKind) (a b : Int) : Int := a.fdiv (2 ^ (min b.toNat k.bits))
def strEq (a b : ByteArray) : Bool := a.toList == b.toList
def strLt (a b : ByteArray) : Bool := Op.bytesLess a.toList b.toList
def EZ : IntKind -> IntKind -> Bool
  | .i8, .i8 | .i16, .i16 | .i32, .i32 | .i64, .i64 | .u8, .u8 | .u16, .u16 | .u32, .u32 | .u64, .u64 => true
  | _, _ => false
def Kind.dec : (k : Kind) -> Value -> (k.T -> Prop) -> Prop
  | .int k, .int k' n, φ => cond (EZ k k') (φ n) False
  | .bool, .bool b, φ => φ b
  | .str, .string s, φ => φ s
  | .ptr, .pointer a, φ => φ a
  | .slice, .slice a l c, φ => φ ⟨a, l, c⟩
  | .map, .map r, φ => φ r
  | .any, v, φ => φ v
  | _, _, _ => False
def FX (op : BinOp) (k : IntKind) (a b : Int) (φ : Value -> Prop) : Prop :=
  match op with
  | .add => φ (.int k (k.wrap (a + b)))
  | .sub => φ (.int k (k.wrap (a - b)))
  | .mul => φ (.int k (k.wrap (a * b)))
  | .quo => b ≠ 0 ∧ φ (.int k (k.wrap (a.tdiv b)))
  | .rem => b ≠ 0 ∧ φ (.int k (a.tmod b))
  | .and => φ (.int k (sW k a b))
  | .or => φ (.int k (orI k a b))
  | .xor => φ (.int k (Uz k a b))
  | .andNot => φ (.int k (aag k a b))
  | .eql => φ (.bool (a == b))
  | .neq => φ (.bool (a != b))
  | .lss => φ (.bool (decide (a < b)))
  | .leq => φ (.bool (decide (a <= b)))
  | .gtr => φ (.bool (decide (a > b)))
  | .geq => φ (.bool (decide (a >= b)))
  | _ => False
def E_ (op : BinOp) (a b : ByteArray) (φ : Value -> Prop) : Prop :=
  match op with
  | .add => ((a.size + b.size : Nat) : Int) <= IntKind.i64.max ∧ φ (.string (a ++ b))
  | .eql => φ (.bool (strEq a b))
  | .neq => φ (.bool (!strEq a b))
  | .lss => φ (.bool (strLt a b))
  | .leq => φ (.bool (strLt a b || strEq a b))
  | .gtr => φ (.bool !(strLt a b || strEq a b))
  | .geq => φ (.bool !(strLt a b))
  | _ => False
def ER (op : BinOp) (x y : Value) (φ : Value -> Prop) : Prop :=
  match op, x, y with
  | .shl, .int k a, .int _ b => 0 <= b ∧ φ (.int k (Vt k a b))
  | .shr, .int k a, .int _ b => 0 <= b ∧ φ (.int k (gG k a b))
  | op, .int k a, .int k' b => cond (EZ k k') (FX op k a b φ) False
  | op, .string a, .string b => E_ op a b φ
  | _, _, _ => False
def EL (d : TypeDesc) (x y : Value) (φ : Bool -> Prop) : Prop :=
  match d, x, y with
  | .bool, .bool a, .bool b => φ (a == b)
  | .pointer _, .pointer q, .pointer none => φ q.isNone
  | .slice _, .slice q _ _, .slice none _ _ => φ q.isNone
  | .map _ _, .map q, .map none => φ q.isNone
  | _, _, _ => False
def OV (d : TypeDesc) (size off : Nat) (cs : List Value) : Option Value :=
  cond (B_ d) (some (.agg ⟨(cs.drop off).take size⟩)) cs[off]?
def aap (b : Bool) : Option Bool -> Option Bool
  | some r => some (b && r)
  | none => none
def YQ (P : Program) (f : TypeId -> Value -> Value -> Option Bool) (xs ys : List Value) : List Field -> Option Bool
  | [] => some true
  | fd :: fs => cond (fd.name == "_") none (match P.underlying fd.type, dI P fd.type with
    | some d, some size => match OV d size fd.offset xs, OV d size fd.offset ys with
      | some a, some b => match f fd.type a b with
        | some r => aap r (YQ P f xs ys fs)
        | none => none
      | _, _ => none
    | _, _ => none)
def Yo (f : Value -> Value -> Option Bool) (d : TypeDesc) (size : Nat) (xs ys : List Value) : Nat -> Nat -> Option Bool
  | 0, _ => some true
  | n + 1, i => match OV d size (i * size) xs, OV d size (i * size) ys with
    | some a, some b => match f a b with
      | some r => aap r (Yo f d size xs ys n (i + 1))
      | none => none
    | _, _ => none
def xQ (P : Program) : Nat -> TypeId -> Value -> Value -> Option Bool
  | 0, _, _, _ => none
  | d + 1, t, x, y => match P.underlying t, x, y with
    | some .bool, .bool a, .bool b => some (a == b)
    | some (.int _), .int k a, .int k' b => cond (EZ k k') (some (a == b)) none
    | some .string, .string a, .string b => some (strEq a b)
    | some (.struct fs), .agg xs, .agg ys => cond (P.stoodInHeld t) none (YQ P (xQ P d) xs.toList ys.toList fs.toList)
    | some (.array n e), .agg xs, .agg ys => match P.underlying e, dI P e with
      | some de, some size => Yo (xQ P d e) de size xs.toList ys.toList n 0
      | _, _ => none
    | _, _, _ => none
def C_ : BinOp -> Option Bool
  | .eql => some true
  | .neq => some false
  | _ => none
def BO (P : Program) (op : BinOp) (t : TypeId) (x y : Value) (φ : Value -> Prop) : Prop :=
  match x with
  | .int _ _ => ER op x y φ
  | .string _ => ER op x y φ
  | .agg _ => match C_ op, y with
    | some s, .agg _ => cond (P.eqGuardType P.depth t) False (match xQ P 16 t x y with
      | some b => φ (.bool (cond s b (!b)))
      | none => False)
    | _, _ => False
  | _ => match C_ op, P.underlying t with
    | some true, some d => EL d x y fun b => φ (.bool b)
    | some false, some d => EL d x y fun b => φ (.bool !b)
    | _, _ => False
def Gq (op : UnOp) (x : Value) (φ : Value -> Prop) : Prop :=
  match op, x with
  | .neg, .int k n => φ (.int k (k.wrap (0 - n)))
  | .not, .bool b => φ (.bool !b)
  | .xor, .int k n => φ (.int k (Uz k (if k.signed then -1 else k.max) n))
  | _, _ => False
def Aa (a : Option Addr) (m l size : Nat) : Option Addr := if m = l then a else a.map (·.add (l * size))
def Bj (s : ah) (size : Nat) (l h : Int) (K : ah -> Prop) : Prop :=
  0 <= l ∧ l <= h ∧ h <= (s.cap : Int) ∧ K ⟨Aa s.a s.cap l.toNat size, h.toNat - l.toNat, s.cap - l.toNat⟩
def L9 (s : ah) (size : Nat) (l h m : Int) (K : ah -> Prop) : Prop :=
  0 <= l ∧ l <= h ∧ h <= m ∧ m <= (s.cap : Int) ∧ K ⟨Aa s.a m.toNat l.toNat size, h.toNat - l.toNat, m.toNat - l.toNat⟩
def oG (a : Addr) (n size : Nat) (l h : Int) (K : ah -> Prop) : Prop :=
  0 <= l ∧ l <= h ∧ h <= (n : Int) ∧ K ⟨some (if n = l.toNat then a else a.add (l.toNat * size)), h.toNat - l.toNat, n - l.toNat⟩
def Ul (s : ByteArray) (l h : Int) (K : ByteArray -> Prop) : Prop :=
  0 <= l ∧ l <= h ∧ h <= (s.size : Int) ∧ K (s.extract l.toNat h.toNat)
def bM (s : ah) (size : Nat) (i : Int) (K : Addr -> Prop) : Prop :=
  ∃ a, s.a = some a ∧ 0 <= i ∧ i < (s.len : Int) ∧ K (a.add (i.toNat * size))
def XZ (s : ByteArray) (i : Int) (K : Int -> Prop) : Prop :=
  ∃ b : UInt8, 0 <= i ∧ s[i.toNat]? = some b ∧ K (b.toNat : Int)
def Cells (w : World) (a : Addr) (vs : List Value) : Prop := ∀ j, j < vs.length -> w.cell? (a.add j) = vs[j]?
def oQ (w : World) : Option Addr -> Nat -> List Value -> Prop
  | none, _, vs => vs = []
  | some a, n, vs => vs.length = n ∧ Cells w a vs
def setCells (w : World) (a : Addr) : List Value -> Nat -> World
  | [], _ => w
  | v :: vs, i => setCells (w.setCell (a.add i) v) a vs (i + 1)
def Me (w : World) (a : Addr) (n : Nat) : Prop := ∀ j, j < n -> (w.cell? (a.add j)).isSome = true ∧ w.frozen? (a.add j) = false
def Gj (P : Program) (t : TypeId) : Option Nat :=
  match P.info? t with
  | some i => some i.bytes
  | none => none
def OO (e : TypeId) (size bytes : Nat) (z : List Value) (s : ah) (n : Nat) (vs : List Value) (w : World) (K : ah -> World -> Prop) : Prop :=
  (s.len + n <= s.cap ∧ (∀ a, s.a = some a -> Me w (a.add (s.len * size)) vs.length) ∧ (∀ v ∈ vs, bK v = true) ∧
    K ⟨s.a, s.len + n, s.cap⟩ (match s.a with | some a => setCells w (a.add (s.len * size)) vs 0 | none => w)) ∨
  (s.cap < s.len + n ∧ (s.len + n) * bytes <= 2 ^ 46 ∧ s.len + n <= 2 ^ 62 ∧ ∃ old, oQ w s.a (s.len * size) old ∧
    ∀ c, s.len + n <= c -> c < 2 ^ 63 -> K ⟨some ⟨w.heap.size, 0, none⟩, s.len + n, c⟩ (w.drew.alloc (.cells ⟨old ++ vs ++ aJ z (c - (s.len + n))⟩ e)))
def qg (e : TypeId) (size bytes : Nat) (z : List Value) (s x : ah) (w : World) (K : ah -> World -> Prop) : Prop :=
  ∃ vs, oQ w x.a (x.len * size) vs ∧ OO e size bytes z s x.len vs w K
def byteCells (s : ByteArray) : List Value := s.data.toList.map fun b => .int .u8 b.toNat
def aa0 (e : TypeId) (size bytes : Nat) (z : List Value) (s : ah) (x : ByteArray) (w : World) (K : ah -> World -> Prop) : Prop :=
  OO e size bytes z s x.size (byteCells x) w K
def aaC (e : TypeId) (size bytes : Nat) (z : List Value) (s : ah) (n : Int) (w : World) (K : ah -> World -> Prop) : Prop :=
  0 <= n ∧ n * bytes <= 2 ^ 46 ∧ n <= 2 ^ 62 ∧ OO e size bytes z s n.toNat (aJ z n.toNat) w K
def Kw (z : List Value) (s : ah) (w : World) (K : World -> Prop) : Prop :=
  (∀ a, s.a = some a -> Me w a (s.len * z.length)) ∧ (∀ v ∈ z, bK v = true) ∧ K (match s.a with | some a => setCells w a (aJ z s.len) 0 | none => w)
def FD (size : Nat) (d s : ah) (w : World) (K : Int -> World -> Prop) : Prop :=
  ∃ vs, oQ w s.a (Nat.min s.len d.len * size) vs ∧ (∀ a, d.a = some a -> Me w a vs.length) ∧ (∀ v ∈ vs, bK v = true) ∧
    K (Nat.min s.len d.len : Nat) (match d.a with | some a => setCells w a vs 0 | none => w)
def Ro (e : TypeId) (size bytes : Nat) (z : List Value) (n c : Int) (w : World) (K : ah -> World -> Prop) : Prop :=
  0 <= n ∧ n <= c ∧ c <= 2 ^ 62 ∧ (bytes : Int) * c <= 2 ^ 48 ∧
    K ⟨some ⟨w.heap.size, 0, none⟩, n.toNat, c.toNat⟩ (w.alloc (.cells ⟨aJ z c.toNat⟩ e))
def partOf (d : TypeDesc) (size off : Nat) (cs : List Value) (φ : Value -> Prop) : Prop :=
  cond (B_ d) (φ (.agg ⟨(cs.drop off).take size⟩))
    (match cs[off]? with
     | some v => φ v
     | none => False)
def cellsOfV : Value -> List Value
  | .agg cs => cs.toList
  | v => [v]
def splice (cs : List Value) (off : Nat) (vs : List Value) : List Value := cs.take off ++ (vs ++ cs.drop (off + vs.length))
def BX (place : Nat -> Option (Nat × Nat)) : List (Nat × Value) -> List Value -> Option (List Value)
  | [], cs => some cs
  | (i, v) :: r, cs => match place i with
    | some (off, size) => cond (Nat.beq (cellsOfV v).length size && Nat.ble (off + size) cs.length) (BX place r (splice cs off (cellsOfV v))) none
    | none => none
def TI : List (Nat × Value) -> List Value -> Option (List Value)
  | [], cs => some cs
  | (i, v) :: r, cs => cond (Nat.blt i cs.length) (TI r (cs.set i v)) none
def Qc : List Value -> Prop
  | [] => True
  | v :: r => bK v = true ∧ Qc r
def X5 : Option Shape -> Bool
  | some (.one .any) => true
  | _ => false
def kW (P : Program) (t : TypeId) : Option (List Value) :=
  match P.info? t with
  | some i => match i.zero with
    | some z => some (cellsOfV z)
    | none => none
  | none => none
def placesOf (P : Program) : List Field -> Option (List (Nat × Nat))
  | [] => some []
  | f :: r => match dI P f.type, placesOf P r with
    | some s, some l => some ((f.offset, s) :: l)
    | _, _ => none
def Cc (P : Program) (fs : Array Field) (i : Nat) : Option (Nat × Nat) :=
  match fs.toList[i]? with
  | some f => match dI P f.type with
    | some s => some (f.offset, s)
    | none => none
  | none => none
def lY (P : Program) (f : FuncId) : Bool :=
  match P.funcs[f]? with
  | some fn => fn.body.isSome
  | none => false
def acK (P : Program) (f : FuncId) (args : List Value) (w : World) (K : Value -> World -> Prop) : Prop :=
  ∃ v w', (callFunc f ⟨args⟩).run P w = .ok (.value v) w' ∧ K v w'
def GK (P : Program) (sh : List Shape) (f : FuncId) (args : List Value) (w : World) (K : Value -> World -> Prop) : Prop :=
  Calls P f ⟨args⟩ w fun e w' => CP sh fun vs => e = .returned (Q5 vs) ∧ K (Q5 vs) w'
def Ii (P : Program) (l : Nat) (args : List Value) (w : World) (K : Bool -> World -> Prop) : Prop :=
  YieldAt Fence.wide 0 P l ⟨args⟩ w fun e w' => ∃ b : Bool, e = .returned (.bool b) ∧ K b w'
def fM (P : Program) (sh : List Shape) (v : Value) (args : List Value) (w : World) (K : Value -> World -> Prop) : Prop :=
  match v with
  | .func (.func f) first cap => cond (lY P f) (GK P sh f (first.toList ++ (args ++ cap.toList)) w K) False
  | .func (.yield l) first _ => Ii P l (first.toList ++ args) w fun b w' => K (.bool b) w'
  | _ => False
def IC (w : World) (r : Option Nat) (φ : Int -> Prop) : Prop :=
  match r with
  | none => φ 0
  | some b => ∃ es clock, w.heap[b]? = some (.map es clock) ∧ φ (es.size : Int)
def I5 (d : TypeDesc) (x : Value) (w : World) (φ : Int -> Prop) : Prop :=
  match d, x with
  | .string, .string s => φ (s.size : Int)
  | .array n _, _ => φ (n : Int)
  | .slice _, .slice _ n _ => φ (n : Int)
  | .map _ _, .map r => IC w r φ
  | _, _ => False
def zJ (mx : Bool) : Int -> List Value -> IntKind -> (Value -> Prop) -> Prop
  | x, [], k, φ => φ (.int k x)
  | x, .int _ y :: r, k, φ => zJ mx (cond mx (if y > x then y else x) (if y < x then y else x)) r k φ
  | _, _ :: _, _, _ => False
def ah.v (s : ah) : Value := .slice s.a s.len s.cap
def Y2 : Value -> Bool
  | .int _ _ => true
  | .bool _ => true
  | .string _ => true
  | _ => false
def PK : Value -> Bool
  | .agg cs => cs.toList.all Y2
  | v => Y2 v
def oq (P : Program) (kt : TypeId) (key : Value) : List MapEntry -> Nat -> Option (Option (Nat × Value))
  | [], _ => some none
  | e :: es, i => match xQ P 16 kt key e.key with
    | some true => some (some (i, e.val))
    | some false => oq P kt key es (i + 1)
    | none => none
def iJ (P : Program) (kt : TypeId) (key : Value) : Bool := PK key && (xQ P 16 kt key key).isSome
def oL (P : Program) (kt : TypeId) (k : Kind) (r : Option Nat) (key zero : Value) (w : World) (K : k.T -> Prop) : Prop :=
  iJ P kt key = true ∧ ((r = none ∧ k.dec zero K) ∨ ∃ b es clock, r = some b ∧ w.heap[b]? = some (.map es clock) ∧ ∃ res, oq P kt key es.toList 0 = some res ∧ k.dec (match res with | some (_, v) => v | none => zero) K)
def xG (P : Program) (kt : TypeId) (r : Option Nat) (key zero : Value) (w : World) (K : Value -> Bool -> Prop) : Prop :=
  iJ P kt key = true ∧ ((r = none ∧ K zero false) ∨ ∃ b es clock, r = some b ∧ w.heap[b]? = some (.map es clock) ∧ ∃ res, oq P kt key es.toList 0 = some res ∧
    match res with | some (_, v) => K v true | none => K zero false)
def tH (P : Program) (kt : TypeId) (r : Option Nat) (key val : Value) (w : World) (K : World -> Prop) : Prop :=
  iJ P kt key = true ∧ ∃ b es clock, r = some b ∧ w.heap[b]? = some (.map es clock) ∧ ∃ res, oq P kt key es.toList 0 = some res ∧
    match res with
    | some (i, _) => (∃ e, es[i]? = some e ∧ e.key = key) ∧ K (w.putObj b (.map (es.modify i fun e => { e with key := key, val := val }) clock))
    | none => K (w.putObj b (.map (es.push { key := key, val := val, born := clock }) (clock + 1)))
def zV (P : Program) (kt : TypeId) (r : Option Nat) (key : Value) (w : World) (K : World -> Prop) : Prop :=
  iJ P kt key = true ∧ ((r = none ∧ K w) ∨ ∃ b es clock, r = some b ∧ w.heap[b]? = some (.map es clock) ∧ ∃ res, oq P kt key es.toList 0 = some res ∧
    match res with
    | some (i, _) => K (w.putObj b (.map (es.eraseIdxIfInBounds i) clock))
    | none => K (w.putObj b (.map es clock)))
def LY (P : Program) (kt : TypeId) (r : Option Nat) (key zero : Value) (w : World) (K : Value -> Int -> World -> Prop) : Prop :=
  iJ P kt key = true ∧ ∃ b es clock, r = some b ∧ w.heap[b]? = some (.map es clock) ∧ ∃ res, oq P kt key es.toList 0 = some res ∧
    match res with
    | some (i, v) => ∃ e, es[i]? = some e ∧ e.key = key ∧ K v (e.born : Int) (w.putObj b (.map (es.modify i fun e => { e with key := key }) clock))
    | none => K zero (clock : Int) (w.putObj b (.map (es.push { key := key, val := zero, born := clock }) (clock + 1)))
def Td (r : Option Nat) (stamp : Int) (val : Value) (w : World) (K : World -> Prop) : Prop :=
  ∃ b es clock i, r = some b ∧ w.heap[b]? = some (.map es clock) ∧ es.findIdx? (fun e => (e.born : Int) == stamp) = some i ∧ K (w.putObj b (.map (es.modify i fun e => { e with val := val }) clock))
def aaW (r : Option Nat) (w : World) (K : Addr -> World -> Prop) : Prop :=
  (r = none ∧ K ⟨w.heap.size, 0, none⟩ (w.alloc (.mapIter none 0 #[] 0))) ∨
  ∃ b es clock, r = some b ∧ w.heap[b]? = some (.map es clock) ∧ K ⟨w.heap.size, 0, none⟩ (w.alloc (.mapIter (some b) clock #[] clock))
def ab7 (q : Nat) (w : World) (Kend : World -> Prop) (Kstep : Value -> Value -> World -> Prop) : Prop :=
  (∃ s sn c, w.heap[q]? = some (.mapIter none s sn c) ∧ Kend w) ∨
  ∃ b since seen c0 es clock, w.heap[q]? = some (.mapIter (some b) since seen c0) ∧ w.heap[b]? = some (.map es clock) ∧ (∀ x ∈ es.toList, x.born < since) ∧ since <= c0 ∧
    ((leftOf es seen).size = 0 -> Kend w) ∧
    ∀ e ∈ (leftOf es seen).toList, ∀ w1, (w1 = w ∨ w1 = w.drew) -> Kstep e.key e.val (w1.putObj q (.mapIter (some b) since (seen.push e.born) clock))
def abt (q : Nat) (w : World) (K : Value -> Value -> Prop) : Prop :=
  ∃ b since seen es clock e, w.heap[q]? = some (.mapIter (some b) since (Array.push seen e.born) clock) ∧ w.heap[b]? = some (.map es clock) ∧ e ∈ es.toList ∧ (es.toList.map (·.born)).Nodup ∧ K e.key e.val
def xY (P : Program) (t : TypeId) : Option Value :=
  match P.info? t with
  | some i => i.zero
  | none => none
def kT (P : Program) (b : Builtin) (ts : List TypeId) (args : List Value) (w : World) (K : Value -> World -> Prop) : Prop :=
  match b, ts, args with
  | .len, [t], [x] => match P.underlying t with
    | some d => I5 d x w fun n => K (.int .i64 n) w
    | none => False
  | .cap, [t], [.slice _ _ c] => match P.underlying t with
    | some (.slice _) => K (.int .i64 (c : Int)) w
    | _ => False
  | .max, _, .int k x :: r => zJ true x r k fun v => K v w
  | .min, _, .int k x :: r => zJ false x r k fun v => K v w
  | .append, [t, t'], [.slice a l c, x] => match P.underlying t, P.underlying t' with
    | some (.slice e), some d => match dI P e, Gj P e, kW P e, d, x with
      | some size, some bytes, some z, .slice _, .slice b n m => qg e size bytes z ⟨a, l, c⟩ ⟨b, n, m⟩ w fun s w' => K s.v w'
      | some size, some bytes, some z, .string, .string s => aa0 e size bytes z ⟨a, l, c⟩ s w fun s w' => K s.v w'
      | some size, some bytes, some z, .int _, .int _ n => cond (Nat.beq z.length size) (aaC e size bytes z ⟨a, l, c⟩ n w fun s w' => K s.v w') False
      | _, _, _, _, _ => False
    | _, _ => False
  | .copy, [t, _], [.slice a l c, .slice b n m] => match P.underlying t with
    | some (.slice e) => match dI P e with
      | some size => FD size ⟨a, l, c⟩ ⟨b, n, m⟩ w fun n w' => K (.int .i64 n) w'
      | none => False
    | _ => False
  | .clear, [t], [.slice a n c] => match P.underlying t with
    | some (.slice e) => match dI P e, kW P e with
      | some size, some z => cond (Nat.beq z.length size) (Kw z ⟨a, n, c⟩ w fun w' => K (.tuple #[]) w') False
      | _, _ => False
    | _ => False
  | .delete, [t, _], [.map r, key] => match P.underlying t with
    | some (.map kt _) => zV P kt r key w fun w' => K (.tuple #[]) w'
    | _ => False
  | _, _, _ => False
def uK (ρ : Operand -> Value) (x : Option Operand) (dflt : Int) (φ : Int -> Prop) : Prop :=
  match x with
  | none => φ dflt
  | some o => match ρ o with
    | .int _ n => φ n
    | _ => False
def CV (P : Program) (t : TypeId) (x : Value) (ρ : Operand -> Value) (lo hi mx : Option Operand) (φ : Value -> Prop) : Prop :=
  match P.underlying t, x with
  | some .string, .string s => match mx with
    | none => uK ρ lo 0 fun l => uK ρ hi (s.size : Int) fun h => Ul s l h fun s' => φ (.string s')
    | some _ => False
  | some (.slice e), .slice a n c => match dI P e with
    | some size => match mx with
      | none => uK ρ lo 0 fun l => uK ρ hi (n : Int) fun h => Bj ⟨a, n, c⟩ size l h fun s' => φ s'.v
      | some m => match hi with
        | some _ => uK ρ lo 0 fun l => uK ρ hi 0 fun h => uK ρ (some m) 0 fun m' => L9 ⟨a, n, c⟩ size l h m' fun s' => φ s'.v
        | none => False
    | none => False
  | some (.array n e), .pointer (some a) => match dI P e with
    | some size => match mx with
      | none => uK ρ lo 0 fun l => uK ρ hi (n : Int) fun h => oG a n size l h fun s' => φ s'.v
      | some _ => False
    | none => False
  | _, _ => False
def Ky (P : Program) (s d : TypeId) (x : Value) (φ : Value -> Prop) : Prop :=
  match P.underlying s, P.underlying d, x with
  | some _, some (.int k), .int _ n => φ (.int k (k.wrap n))
  | some _, some .string, .string b => φ (.string b)
  | _, _, _ => False
def Gy (w : World) (s : ah) (K : ByteArray -> Prop) : Prop :=
  ∃ b : ByteArray, b.size = s.len ∧ oQ w s.a s.len (byteCells b) ∧ K b
def YC (e : TypeId) (s : ByteArray) (w : World) (K : ah -> World -> Prop) : Prop :=
  s.size <= 2 ^ 62 ∧ ∀ c, s.size <= c -> c < 2 ^ 63 -> K ⟨some ⟨w.heap.size, 0, none⟩, s.size, c⟩ (w.drew.alloc (.cells ⟨byteCells s ++ aJ [.int .u8 0] (c - s.size)⟩ e (c, c + 1)))
def aaZ (a : Addr) (w : World) (K : World -> Prop) : Prop := ∃ T n, w.shape? a.block = some (T, n) ∧ K (w.freeze ⟨a.block, n, none⟩ 1)
def UK (P : Program) (t : TypeId) (name : String) : Option FuncId :=
  match P.info? t with
  | some i => match i.methods.find? (·.name == name) with
    | some m => match m.path.toList, m.func with
      | [], some (f, false) => some f
      | _, _ => none
    | none => none
  | none => none
def Uk : TypeDesc -> Bool
  | .pointer _ => true
  | _ => false
def aaU (P : Program) (sh : List Shape) (x : Value) (name : String) (args : List Value) (w : World) (K : Value -> World -> Prop) : Prop :=
  match x with
  | .iface t v => match P.underlying t, UK P t name with
    | some d, some f => cond (!Uk d && lY P f) (GK P sh f (v :: args) w K) False
    | _, _ => False
  | _ => False
def TD (P : Program) (op : BinOp) (t : TypeId) (x y : Value) (φ : Value -> Prop) : Prop :=
  match C_ op, P.underlying t, x, y with
  | some s, some (.interface _), .nilIface, .nilIface => φ (.bool s)
  | some s, some (.interface _), .iface _ _, .nilIface => φ (.bool (!s))
  | _, _, _, _ => False
def AsP (z : Value) (t : TypeId) (x : Value) (ok : Bool) (K : Value -> Prop) : Prop :=
  match x with
  | .iface t' v => cond (Nat.beq t' t) (K (cond ok (.tuple ⟨[v, .bool true]⟩) v)) (cond ok (K (.tuple ⟨[z, .bool false]⟩)) False)
  | .nilIface => cond ok (K (.tuple ⟨[z, .bool false]⟩)) False
  | _ => False
def uq (P : Program) (o : Oper) (ρ : Operand -> Value) (w : World) (K : Value -> World -> Prop) : Prop :=
  match o.op with
  | .move x => K (ρ x) w
  | .assign x => K (ρ x) w
  | .pick c a b => match ρ c with
    | .bool t => cond t (K (ρ a) w) (K (ρ b) w)
    | _ => False
  | .alloc e => match kW P e with
    | some z => K (VI w) (w.alloc (.cells ⟨z⟩ e))
    | none => False
  | .box e x => match shapeOf P e with
    | some (.one _) => bK (ρ x) = true ∧ K (VI w) (w.alloc (.cells ⟨[ρ x]⟩ e))
    | some (.agg _) => match ρ x with
      | .agg cs => K (VI w) (w.alloc (.cells cs e))
      | _ => False
    | none => False
  | .build t ps => match kW P t, P.underlying t with
    | some z, some (.struct fs) => match placesOf P fs.toList with
      | some pl => match BX (fun i => pl[i]?) (ps.toList.map fun p => (p.1, ρ p.2)) z with
        | some cs => K (.agg ⟨cs⟩) w
        | none => False
      | none => False
    | some z, some (.array _ e) => match dI P e with
      | some size => match BX (fun i => some (i * size, size)) (ps.toList.map fun p => (p.1, ρ p.2)) z with
        | some cs => K (.agg ⟨cs⟩) w
        | none => False
      | none => False
    | _, _ => False
  | .buildSlice t n ps => match P.underlying t with
    | some (.slice e) => match dI P e, kW P e with
      | some size, some z => cond (Nat.ble (n * size) 4096 && Nat.beq z.length size)
        (cond (X5 (shapeOf P e)) (cond (Nat.beq size 1) (Qc (ps.toList.map fun p => ρ p.2) ∧ (match TI (ps.toList.map fun p => (p.1, ρ p.2)) (aJ z n) with
         | some cs => K (.slice (some ⟨w.heap.size, 0, none⟩) n n) (w.alloc (.cells ⟨cs⟩ e))
         | none => False)) False)
         (match BX (fun i => some (i * size, size)) (ps.toList.map fun p => (p.1, ρ p.2)) (aJ z n) with
         | some cs => K (.slice (some ⟨w.heap.size, 0, none⟩) n n) (w.alloc (.cells ⟨cs⟩ e))
         | none => False)) False
      | _, _ => False
    | _ => False
  | .load t x => match ρ x, shapeOf P t, dI P t with
    | .pointer (some a), some sh, some n => cond (Nat.beq sh.cells n) (sh.ld w a fun v => K v w) False
    | _, _, _ => False
  | .store t x y => match ρ x, shapeOf P t, dI P t with
    | .pointer (some a), some (.one _), some n => cond (Nat.beq n 1) (St w a (ρ y) fun w' => K undef w') False
    | .pointer (some a), some (.agg _), some n => match ρ y with
      | .agg cs => cond (Nat.beq cs.toList.length n) (iT cs.toList w a 0 fun w' => K undef w') False
      | _ => False
    | _, _, _ => False
  | .nilCheck x => match ρ x with
    | .pointer q => ∃ a, q = some a ∧ K (.pointer (some a)) w
    | _ => False
  | .binOp op t x y _ => match y with
    | .const .nilIface => TD P op t (ρ x) (ρ (.const .nilIface)) fun v => K v w
    | y => BO P op t (ρ x) (ρ y) fun v => K v w
  | .unOp op _ x => Gq op (ρ x) fun v => K v w
  | .convert s d x => match P.underlying s, P.underlying d, ρ x with
    | some (.slice e), some .string, .slice a n c => match P.underlying e with
      | some (.int .u8) => Gy w ⟨a, n, c⟩ fun b => K (.string b) w
      | _ => False
    | some .string, some (.slice e), .string b => match P.underlying e with
      | some (.int .u8) => YC e b w fun s' w' => K s'.v w'
      | _ => False
    | some (.slice _), some (.slice e), .slice (some a) n c => match P.underlying e, Nat.beq s d with
      | some (.int .u8), true => aaZ a w fun w' => K (.slice (some a) n c) w'
      | _, _ => False
    | _, _, v => Ky P s d v fun v => K v w
  | .makeFunc fn first cap => K (.func fn ⟨first.toList.map ρ⟩ ⟨cap.toList.map ρ⟩) w
  | .lookup t x i false => match P.underlying t, ρ x with
    | some (.map kt et), .map r => match shapeOf P et, xY P et with
      | some (.one k), some z => oL P kt k r (ρ i) z w fun x => K (k.enc x) w
      | some (.agg ks), some z => xG P kt r (ρ i) z w fun v _ => (Shape.agg ks).ex fun v' => v = v' ∧ K v' w
      | _, _ => False
    | _, _ => False
  | .lookup t x i true => match P.underlying t, ρ x with
    | some (.map kt et), .map r => match shapeOf P et, xY P et with
      | some sh, some z => xG P kt r (ρ i) z w fun v b => sh.ex fun v' => v = v' ∧ K (.tuple ⟨[v', .bool b]⟩) w
      | _, _ => False
    | _, _ => False
  | .mapUpdate t x i v => match P.underlying t, ρ x with
    | some (.map kt _), .map r => tH P kt r (ρ i) (ρ v) w fun w' => K undef w'
    | _, _ => False
  | .mapEntry t x i => match P.underlying t, ρ x with
    | some (.map kt et), .map r => match xY P et with
      | some z => LY P kt r (ρ i) z w fun v n w' => K (.tuple ⟨[v, .int .i64 n]⟩) w'
      | none => False
    | _, _ => False
  | .entryStore _ x st v => match ρ x, ρ st with
    | .map r, .int _ n => Td r n (ρ v) w fun w' => K undef w'
    | _, _ => False
  | .makeMap _ none => K (.map (some w.heap.size)) (w.alloc (.map #[] 0))
  | .makeSlice t l c => match P.underlying t, ρ l, ρ c with
    | some (.slice e), .int _ n, .int _ m => match dI P e, Gj P e, kW P e with
      | some size, some bytes, some z => cond (Nat.beq z.length size) (Ro e size bytes z n m w fun s w' => K s.v w') False
      | _, _, _ => False
    | _, _, _ => False
  | .slice t x lo hi mx => CV P t (ρ x) ρ lo hi mx fun v => K v w
  | .fieldAddr t x f => match P.underlying t, ρ x with
    | some (.struct fs), .pointer (some a) => match Cc P fs f with
      | some (off, size) => cond (Nat.beq size 0) False (K (.pointer (some (a.add off))) w)
      | none => False
    | _, _ => False
  | .field t x f => match P.underlying t, ρ x with
    | some (.struct fs), .agg cs => match fs.toList[f]? with
      | some fd => match P.underlying fd.type, dI P fd.type with
        | some d, some size => partOf d size fd.offset cs.toList fun v => K v w
        | _, _ => False
      | none => False
    | _, _ => False
  | .indexAddr t x i => match P.underlying t, ρ x, ρ i with
    | some (.slice e), .slice a n c, .int _ i => match dI P e with
      | some size => bM ⟨a, n, c⟩ size i fun a' => K (.pointer (some a')) w
      | none => False
    | some (.array n e), .pointer (some a), .int _ i => match dI P e with
      | some size => 0 <= i ∧ i < (n : Int) ∧ K (.pointer (some (a.add (i.toNat * size)))) w
      | none => False
    | _, _, _ => False
  | .index t x i => match P.underlying t, ρ x, ρ i with
    | some .string, .string s, .int _ i => XZ s i fun n => K (.int .u8 n) w
    | some (.array n e), .agg cs, .int _ i => match P.underlying e, dI P e with
      | some d, some size => 0 <= i ∧ i < (n : Int) ∧ partOf d size (i.toNat * size) cs.toList fun v => K v w
      | _, _ => False
    | _, _, _ => False
  | .extract t i => match ρ t with
    | .tuple vs => match vs.toList[i]? with
      | some v => match shapeOf P o.type with
        | some (.one k) => k.dec v fun x => K (k.enc x) w
        | _ => K v w
      | none => False
    | _ => False
  | .range t x => match P.underlying t, ρ x with
    | some (.map _ _), .map r => aaW r w fun a w' => K (.pointer (some a)) w'
    | _, _ => False
  | .next x false => match ρ x with
    | .pointer (some a) => a = ⟨a.block, 0, none⟩ ∧ ab7 a.block w (K (.tuple ⟨[.bool false]⟩)) fun k v w' => K (.tuple ⟨[.bool true, k, v]⟩) w'
    | _ => False
  | .entry x => match ρ x with
    | .pointer (some a) => a = ⟨a.block, 0, none⟩ ∧ abt a.block w fun k v => K (.tuple ⟨[k, v]⟩) w
    | _ => False
  | .makeInterface t x => match P.underlying t with
    | some (.interface _) => False
    | some _ => K (.iface t (ρ x)) w
    | none => False
  | .typeAssert x _ t ok => match P.underlying t, xY P t with
    | some (.interface _), _ => False
    | some _, some z => AsP z t (ρ x) ok fun v => K v w
    | _, _ => False
  | .call c => match c.callee with
    | .value (.func f) => match Ij P o.type with
      | some sh => cond (lY P f) (GK P sh f (c.args.toList.map ρ) w K) (acK P f (c.args.toList.map ρ) w fun r w' => CP sh fun vs => r = Q5 vs ∧ K (Q5 vs) w')
      | none => False
    | .value x => match Ij P o.type with
      | some sh => fM P sh (ρ x) (c.args.toList.map ρ) w fun r w' => CP sh fun vs => r = Q5 vs ∧ K (Q5 vs) w'
      | none => False
    | .builtin b => kT P b c.argTypes.toList (c.args.toList.map ρ) w K
    | .invoke x name => match Ij P o.type with
      | some sh => aaU P sh (ρ x) name (c.args.toList.map ρ) w K
      | none => False
  | _ => False
abbrev Env := List (Nat × Value)
def Env.get : Env -> Nat -> Option Value
  | [], _ => none
  | (s, v) :: r, t => cond (Nat.beq s t) (some v) (Env.get r t)
def Env.put (env : Env) (d : Option Nat) (v : Value) : Env :=
  match d with
  | some s => (s, v) :: env
  | none => env
def XY (env : Env) : Operand -> Option Value
  | .tmp t => env.get t
  | .const v => some v
  | .global g => some (.pointer (some ⟨g, 0, none⟩))
  | .func f => some (.func (.func f) #[] #[])
def ev (env : Env) (x : Operand) : Value := (XY env x).getD undef
def Xm (env : Env) : List Operand -> Bool
  | [] => true
  | x :: r => (XY env x).isSome && Xm env r
def oz (nt : Nat) : Option Nat -> Bool
  | some d => Nat.blt d nt
  | none => true
def split (g : Bool) (v : Value) (K : Value -> Prop) : Prop :=
  cond g (match v with | .bool b => cond b (K (.bool true)) (K (.bool false)) | v => K v) (K v)
def tY (P : Program) (nt : Nat) (o : Oper) (g : Bool) (env : Env) (w : World) (K : Env -> World -> Prop) : Prop :=
  cond (Xm env o.op.operands.toList && oz nt o.dst)
    (uq P o (ev env) w fun v w' => split g v fun v' => K (env.put o.dst v') w') False
def nM (P : Program) (nt : Nat) (ops : List Oper) (o : Oper) (g : Bool) (env : Env) (w : World) (K : Env -> World -> Prop) : Prop :=
  match o.guard with
  | none => tY P nt o g env w K
  | some (j, want) => match (ops[j]?).bind (·.dst) with
    | some s => match env.get s with
      | some (.bool t) => cond (t == want) (tY P nt o g env w K) (cond (oz nt o.dst) (K (env.put o.dst undef) w) False)
      | some (.tuple _) => cond (oz nt o.dst) (K (env.put o.dst undef) w) False
      | _ => False
    | none => False
def QH (ops : List Oper) (i : Nat) : Bool :=
  ops.any fun o => match o.guard with
    | some (j, _) => Nat.beq j i
    | none => false
def UJ (P : Program) (nt : Nat) (ops : List Oper) : Nat -> List Oper -> Env -> World -> (Env -> World -> Prop) -> Prop
  | _, [], env, w, K => K env w
  | i, o :: r, env, w, K => nM P nt ops o (QH ops i) env w fun env' w' => UJ P nt ops (i + 1) r env' w' K
end Gp
end
section
namespace Gp
open Go
def Ran (P : Program) (K : Value -> World -> Prop) : Result Next -> Prop
  | .ok (.value v) w => K v w
  | .ok .skip w => K undef w
  | .ok (.enter f args) w => Calls P f args w fun e w' => ∃ v, e = .returned v ∧ K v w'
  | .ok (.round l f tmps assign body) w => RoundIn Fence.wide 0 P l f tmps assign body w fun e w' => ∃ v, e = .returned v ∧ K v w'
  | _ => False
theorem Ran.mono {P : Program} {K K' : Value -> World -> Prop} (h : ∀ v w, K v w -> K' v w) {r : Result Next} (hr : Ran P K r) : Ran P K' r := by
  cases r with
  | ok x w =>
    cases x <;> simp only [Ran] at hr ⊢ <;> first
      | exact h _ _ hr
      | exact Calls.mono hr fun e w' ⟨v, hv, hk⟩ => ⟨v, hv, h _ _ hk⟩
      | exact RoundIn.mono hr fun e w' ⟨v, hv, hk⟩ => ⟨v, hv, h _ _ hk⟩
  | halt x w => exact hr.elim
structure OU (P : Program) : Prop where
  enter : ∀ (f : FuncId) (fn : Func), P.funcs[f]? = some fn -> fn.body.isSome = true -> (fn.name == "runtime.NumGoroutine") = false
  mixed : P.follows .mixedOrders = true
section
variable {P : Program} {w : World}
theorem run_underlying {t : TypeId} {d : TypeDesc} (h : P.underlying t = some d) : (underlying t).run P w = .ok d w := by
  simp [underlying, h]
theorem run_typeInfo {t : TypeId} {i : TypeInfo} (h : P.info? t = some i) : (typeInfo t).run P w = .ok i w := by
  simp [typeInfo, h]
theorem dK {t : TypeId} {n : Nat} (h : dI P t = some n) : (Go.sizeOf t).run P w = .ok n w := by
  unfold dI at h
  split at h
  · rename_i i hi
    simp only [Option.some.injEq] at h
    simp [Go.sizeOf, run_typeInfo hi, h]
  · cases h
theorem nN {t : TypeId} {n : Nat} (h : dI P t = some n) : ∃ i, P.info? t = some i ∧ i.size = n := by
  unfold dI at h
  split at h
  · rename_i i hi
    exact ⟨i, hi, by simpa using h⟩
  · cases h
theorem uf {t : TypeId} {n : Nat} (h : Gj P t = some n) : ∃ i, P.info? t = some i ∧ i.bytes = n := by
  unfold Gj at h
  split at h
  · rename_i i hi
    exact ⟨i, hi, by simpa using h⟩
  · cases h
theorem Jo (v : Value) : cellsOfV v = v.cells.toList := by cases v <;> rfl
theorem jy {t : TypeId} {z : List Value} (h : kW P t = some z) : ∃ i v, P.info? t = some i ∧ i.zero = some v ∧ v.cells.toList = z := by
  unfold kW at h
  split at h
  · rename_i i hi
    split at h
    · rename_i v hv
      exact ⟨i, v, hi, hv, by rw [<- Jo]; simpa using h⟩
    · cases h
  · cases h
theorem qZ {t : TypeId} {z : List Value} (h : kW P t = some z) : ∃ v, (zeroValue t).run P w = .ok v w ∧ v.cells = ⟨z⟩ := by
  obtain ⟨i, v, hi, hv, hz⟩ := jy h
  exact ⟨v, by simp [zeroValue, run_typeInfo hi, hv], by rw [<- hz]⟩
theorem Dv {t : TypeId} {d : TypeDesc} (h : P.underlying t = some d) : (isAgg t).run P w = .ok (B_ d) w := by
  simp only [isAgg, Sem.run_bind, run_underlying h, Result.andThen_ok]
  cases d <;> rfl
theorem Xy (v : Value) : bK v = v.oneCell' := by cases v <;> rfl
theorem Jl {v : Value} (h : bK v = true) : v.cells = #[v] := by cases v <;> first | rfl | (simp [bK] at h)
theorem add_zero' (a : Addr) : a.add 0 = a := by simp [Addr.add]
theorem add_add (a : Addr) (i j : Nat) (h : i = 0 -> a.spot = none ∨ j = 0 ∨ True) : (a.add i).add j = a.add (i + j) := by
  unfold Addr.add
  by_cases hi : i = 0
  · simp [hi]
  · by_cases hj : j = 0
    · simp [hi, hj]
    · simp [hi, hj, Nat.add_assoc]
theorem Xu {a : Addr} : ∀ (ks : List Kind) (i : Nat) (φ : List Value -> Prop), LdN ks w a i φ ->
    ∃ vs, vs.length = ks.length ∧ (∀ j v, vs[j]? = some v -> w.cell? (a.add (i + j)) = some v) ∧ φ vs := by
  intro ks
  induction ks with
  | nil => exact fun i φ h => ⟨[], rfl, by simp, h⟩
  | cons k ks ih =>
    rintro i φ ⟨x, hx, h⟩
    obtain ⟨vs, hl, hc, hφ⟩ := ih (i + 1) _ h
    refine ⟨k.enc x :: vs, by simp [hl], fun j v hj => ?_, hφ⟩
    cases j with
    | zero => simp at hj; subst hj; simpa using hx
    | succ j => rw [show i + (j + 1) = i + 1 + j by omega]; exact hc j v (by simpa using hj)
theorem Js {t : TypeId} {sh : Shape} {n : Nat} {a : Addr} {φ : Value -> Prop} (hs : shapeOf P t = some sh) (hn : dI P t = some n) (hc : sh.cells = n)
    (h : sh.ld w a φ) : ∃ v, (loadVar t a).run P w = .ok v w ∧ φ v := by
  unfold shapeOf at hs
  cases hd : P.underlying t with
  | none => simp [hd] at hs
  | some d =>
    simp only [hd] at hs
    cases hg : B_ d with
    | false =>
      simp only [hg, cond_false] at hs
      cases hk : kindOf d with
      | none => simp [hk] at hs
      | some k =>
        simp only [hk, Option.some.injEq] at hs
        subst hs
        obtain ⟨x, hx, h⟩ := h
        exact ⟨k.enc x, by simp [loadVar, Dv hd, hg, hx], h⟩
    | true =>
      simp only [hg, cond_true] at hs
      cases hk : Dp P 20 t with
      | none => simp [hk] at hs
      | some ks =>
        simp only [hk, Option.some.injEq] at hs
        subst hs
        obtain ⟨vs, hl, hcs, hφ⟩ := Xu ks 0 _ h
        refine ⟨.agg ⟨vs⟩, ?_, hφ⟩
        have hlen : vs.length = n := by rw [hl]; exact hc
        have := run_loadCells_list (P := P) (w := w) a vs (fun j v hj => by simpa using hcs j v hj)
        simp only [loadVar, Sem.run_bind, Dv hd, hg, Result.andThen_ok, if_true, dK hn]
        rw [<- hlen, this]
        rfl
theorem U3 {a : Addr} {v : Value} {K : World -> Prop} (h : St w a v K) : (store a v).run P w = .ok () (w.setCell a v) ∧ K (w.setCell a v) := by
  obtain ⟨h1, h2, h3, h4⟩ := h
  refine ⟨?_, h4⟩
  rw [run_store P w a v .plain (by rw [<- Xy]; exact h1)]
  cases hc : w.cell? a with
  | none => simp [hc] at h2
  | some u => simp [h3]
theorem aaj {a : Addr} {K : World -> Prop} : ∀ (vs : List Value) (w : World) (i : Nat), iT vs w a i K -> ∃ w', (storeCells a vs i).run P w = .ok () w' ∧ K w' := by
  intro vs
  induction vs with
  | nil => exact fun w i h => ⟨w, rfl, h⟩
  | cons v vs ih =>
    intro w i h
    obtain ⟨h1, h2⟩ := U3 (P := P) h
    obtain ⟨w', h3, h4⟩ := ih _ _ h2
    exact ⟨w', by simp [storeCells, h1, h3], h4⟩
end
end Gp
end
section
namespace Gp
open Go
theorem PW {α β : Type} (f : α -> β) (xs : Array α) : xs.map f = ⟨xs.toList.map f⟩ := Array.toList_inj.mp (by simp)
theorem uP (z : List Value) (n : Nat) : (aJ z n).length = n * z.length := by
  induction n with
  | zero => simp [aJ]
  | succ n ih => simp [aJ, ih, Nat.add_mul]; omega
theorem G_ {z : List Value} {v : Value} : ∀ {n : Nat}, v ∈ aJ z n -> ∃ k : Nat, k < n ∧ v ∈ z
  | 0, h => by simp [aJ] at h
  | n + 1, h => by
    rcases List.mem_append.1 (show v ∈ z ++ aJ z n from h) with h | h
    · exact ⟨0, by omega, h⟩
    · obtain ⟨k, hk, hv⟩ := G_ h
      exact ⟨k, by omega, hv⟩
theorem WT {n : Int} (h1 : -9223372036854775808 <= n) (h2 : n <= 9223372036854775807) : IntKind.i64.wrap n = n := by
  rw [IntKind.wrap_i64]; omega
theorem Ru (z : Array Value) : ∀ n, (List.range (n * z.size)).map (fun i => z[i % z.size]!) = aJ z.toList n := by
  intro n
  induction n with
  | zero => simp [aJ]
  | succ n ih =>
    have e : (n + 1) * z.size = z.size + n * z.size := by rw [Nat.add_mul]; omega
    rw [e, List.range_add, List.map_append, aJ, List.map_map]
    congr 1
    · apply List.ext_getElem
      · simp
      · intro i h1 h2
        simp at h1
        simp [Nat.mod_eq_of_lt h1, h1]
    · rw [<- ih]
      apply List.map_congr_left
      intro i _
      simp
theorem jK (z : Array Value) (n : Nat) : Builtin.zeroCells z n = ⟨aJ z.toList n⟩ := by
  apply Array.toList_inj.mp
  simp only [Builtin.zeroCells, Array.toList_map, Array.toList_range]
  exact Ru z n
theorem O9 (z : Array Value) (n : Nat) : madeCells z (n * z.size) = ⟨aJ z.toList n⟩ := jK z n
section
variable {P : Program}
theorem KN {w : World} {a b : Addr} {v : Value} (h : (w.cell? b).isSome = true) : ((w.setCell a v).cell? b).isSome = true := by
  by_cases e : a = b
  · subst e
    cases hc : w.cell? a with
    | none => simp [hc] at h
    | some u => rw [World.cell?_setCell_same w a v hc]; rfl
  · rw [World.cell?_setCell_other w a b v e]; exact h
theorem rF (a : Addr) : ∀ (vs : List Value) (i : Nat) (w : World), (∀ v ∈ vs, bK v = true) ->
    (∀ j, j < vs.length -> (w.cell? (a.add (i + j))).isSome = true ∧ w.frozen? (a.add (i + j)) = false) -> (storeCells a vs i).run P w = .ok () (setCells w a vs i) := by
  intro vs
  induction vs with
  | nil => exact fun i w _ _ => rfl
  | cons v vs ih =>
    intro i w h1 h2
    have h0 := h2 0 (by simp)
    obtain ⟨hr, _⟩ := U3 (P := P) (w := w) (a := a.add i) (v := v) (K := fun _ => True) ⟨h1 v (by simp), by simpa using h0.1, by simpa using h0.2, trivial⟩
    have := ih (i + 1) (w.setCell (a.add i) v) (fun u hu => h1 u (by simp [hu])) (fun j hj => by
      have := h2 (j + 1) (by simp; omega)
      rw [show i + (j + 1) = i + 1 + j by omega] at this
      exact ⟨KN this.1, by rw [World.frozen?_setCell]; exact this.2⟩)
    simp [storeCells, hr, this, setCells]
theorem nU {w : World} {a : Option Addr} {size n l c : Nat} {vs : List Value} (h : oQ w a (n * size) vs) :
    (Builtin.firstCells size n (.slice a l c)).run P w = .ok ⟨vs⟩ w := by
  cases a with
  | none => simp only [oQ] at h; subst h; simp [run_firstCells_none]
  | some a =>
    obtain ⟨hl, hc⟩ := h
    refine run_firstCells_some (P := P) w size n a l c vs hl fun j v hj => ?_
    have hlt := (List.getElem?_eq_some_iff.1 hj).1
    rw [hc j hlt, hj]
theorem xB {w : World} {a : Option Addr} {n : Nat} {vs : List Value} (h : oQ w a n vs) : oQ w.drew a n vs := by
  cases a <;> exact h
theorem OB {t t' ty e : TypeId} {i : TypeInfo} {z : Value} (ht : P.underlying t = some (.slice e)) (hi : P.info? e = some i) (hz : i.zero = some z)
    {d : TypeDesc} (ht' : P.underlying t' = some d) (hd : (∃ e', d = .slice e') ∨ d = .string) {x : Value} {n : Nat} {vs : List Value} {w : World} {s : ah} {K : ah -> World -> Prop}
    (hlen : ∀ w, (Builtin.lenOf x).run P w = .ok n w) (hx : (Builtin.firstCells i.size n x).run P w = .ok ⟨vs⟩ w) (hx' : (Builtin.firstCells i.size n x).run P w.drew = .ok ⟨vs⟩ w.drew)
    (h : OO e i.size i.bytes z.cells.toList s n vs w K) :
    ∃ s' w', (Builtin.append_ #[t, t'] ty #[s.v, x]).run P w = .ok s'.v w' ∧ K s' w' := by
  rcases h with ⟨hfit, hwr, hone, hK⟩ | ⟨hg, h46, h62, old, hold, hK⟩
  · refine ⟨_, _, ?_, hK⟩
    cases hs : s.a with
    | none => rcases hd with ⟨e', rfl⟩ | rfl <;> (simp [Builtin.append_, ah.v, run_underlying ht, run_underlying ht', Go.sizeOf, run_typeInfo hi, hlen, hfit, hs, hx])
    | some a =>
      have hst := rF (P := P) (a.add (s.len * i.size)) vs 0 w hone (by intro j hj; simpa using hwr a hs j hj)
      rcases hd with ⟨e', rfl⟩ | rfl <;> (simp [Builtin.append_, ah.v, run_underlying ht, run_underlying ht', Go.sizeOf, run_typeInfo hi, hlen, hfit, hs, hx, hst])
  · have h1 : ¬ (s.len + n <= s.cap) := by omega
    have h2 : ¬ (9223372036854775807 < ((s.len : Int) + (n : Int))) := by omega
    have h3 := growslice_fits (bytes := i.bytes) hg (by omega)
    have h3' : ¬ (281474976710656 < Builtin.nextslicecap (s.len + n) s.cap * i.bytes) := by omega
    have hco := nU (P := P) (l := s.len) (c := s.cap) (xB hold)
    refine ⟨_, _, ?_, hK (grownCap w (s.len + n) s.cap e) (grownCap_ge _ _ _ _) ?_⟩
    · rcases hd with ⟨e', rfl⟩ | rfl <;> (simp [Builtin.append_, ah.v, run_underlying ht, run_underlying ht', Go.sizeOf, run_typeInfo hi, zeroValue, hz, hlen, h1, h2, h3', Question.forced, hx', hco, newRow, grownCap, jK])
    · simp only [grownCap, Question.cut]
      have := Nat.mod_lt (w.tape w.drawn (.appendCap (s.len + n) s.cap e)) (show 0 < 2 ^ 63 - (s.len + n) by omega)
      omega
theorem RV {t t' ty e : TypeId} {i : TypeInfo} {z : Value} {ki kv : IntKind} (ht : P.underlying t = some (.slice e)) (hi : P.info? e = some i) (hz : i.zero = some z) (hsz : z.cells.toList.length = i.size)
    (ht' : P.underlying t' = some (.int ki)) {n : Int} {w : World} {s : ah} {K : ah -> World -> Prop}
    (h : aaC e i.size i.bytes z.cells.toList s n w K) :
    ∃ s' w', (Builtin.append_ #[t, t'] ty #[s.v, .int kv n]).run P w = .ok s'.v w' ∧ K s' w' := by
  obtain ⟨h0, hb, hn, h⟩ := h
  obtain ⟨m, rfl⟩ : ∃ m : Nat, n = (m : Int) := ⟨n.toNat, by omega⟩
  rw [Int.toNat_natCast] at h
  have hw : IntKind.i64.wrap (m : Int) = (m : Int) := WT (by omega) (by omega)
  have hneg : ¬ ((m : Int) < 0) := by omega
  have hb' : ¬ (281474976710656 < (m : Int) * (i.bytes : Int)) := by omega
  by_cases hz0 : m * i.size = 0
  · have he : aJ z.cells.toList m = [] := by
      have := uP z.cells.toList m
      rw [hsz, hz0] at this
      exact List.length_eq_zero_iff.1 this
    rw [he] at h
    rcases h with ⟨hfit, hwr, hone, hK⟩ | ⟨hg, h46, h62, old, hold, hK⟩
    · refine ⟨_, _, ?_, hK⟩
      cases hs : s.a with
      | none => simp [Builtin.append_, ah.v, run_underlying ht, run_underlying ht', Go.sizeOf, run_typeInfo hi, asInt, asIntOf, hw, hneg, hb', hfit, hs, hz0]
      | some a => simp [Builtin.append_, ah.v, run_underlying ht, run_underlying ht', Go.sizeOf, run_typeInfo hi, asInt, asIntOf, hw, hneg, hb', hfit, hs, hz0, setCells, storeCells]
    · have h1 : ¬ (s.len + m <= s.cap) := by omega
      have h2 : ¬ (9223372036854775807 < ((s.len : Int) + (m : Int))) := by omega
      have h3 := growslice_fits (bytes := i.bytes) hg (by omega)
      have h3' : ¬ (281474976710656 < Builtin.nextslicecap (s.len + m) s.cap * i.bytes) := by omega
      have hco := nU (P := P) (l := s.len) (c := s.cap) (xB hold)
      refine ⟨_, _, ?_, hK (grownCap w (s.len + m) s.cap e) (grownCap_ge _ _ _ _) ?_⟩
      · simp [Builtin.append_, ah.v, run_underlying ht, run_underlying ht', Go.sizeOf, run_typeInfo hi, asInt, asIntOf, hw, hneg, hb', zeroValue, hz, h1, h2, h3', Question.forced, hz0, hco, newRow, grownCap, jK]
      · simp only [grownCap, Question.cut]
        have := Nat.mod_lt (w.tape w.drawn (.appendCap (s.len + m) s.cap e)) (show 0 < 2 ^ 63 - (s.len + m) by omega)
        omega
  rcases h with ⟨hfit, hwr, hone, hK⟩ | ⟨hg, h46, h62, old, hold, hK⟩
  · refine ⟨_, _, ?_, hK⟩
    cases hs : s.a with
    | none => simp [Builtin.append_, ah.v, run_underlying ht, run_underlying ht', Go.sizeOf, run_typeInfo hi, asInt, asIntOf, hw, hneg, hb', hfit, hs, hz0, zeroValue, hz, jK]
    | some a =>
      have hst := rF (P := P) (a.add (s.len * i.size)) (aJ z.cells.toList m) 0 w hone (by intro j hj; simpa using hwr a hs j hj)
      simp [Builtin.append_, ah.v, run_underlying ht, run_underlying ht', Go.sizeOf, run_typeInfo hi, asInt, asIntOf, hw, hneg, hb', hfit, hs, hz0, zeroValue, hz, jK, hst]
  · have h1 : ¬ (s.len + m <= s.cap) := by omega
    have h2 : ¬ (9223372036854775807 < ((s.len : Int) + (m : Int))) := by omega
    have h3 := growslice_fits (bytes := i.bytes) hg (by omega)
    have h3' : ¬ (281474976710656 < Builtin.nextslicecap (s.len + m) s.cap * i.bytes) := by omega
    have hco := nU (P := P) (l := s.len) (c := s.cap) (xB hold)
    refine ⟨_, _, ?_, hK (grownCap w (s.len + m) s.cap e) (grownCap_ge _ _ _ _) ?_⟩
    · simp [Builtin.append_, ah.v, run_underlying ht, run_underlying ht', Go.sizeOf, run_typeInfo hi, asInt, asIntOf, hw, hneg, hb', zeroValue, hz, h1, h2, h3', Question.forced, hz0, hco, newRow, grownCap, jK]
    · simp only [grownCap, Question.cut]
      have := Nat.mod_lt (w.tape w.drawn (.appendCap (s.len + m) s.cap e)) (show 0 < 2 ^ 63 - (s.len + m) by omega)
      omega
theorem SB {t ty e : TypeId} {i : TypeInfo} {z : Value} (ht : P.underlying t = some (.slice e)) (hi : P.info? e = some i) (hz : i.zero = some z) (hsz : z.cells.toList.length = i.size)
    {w : World} {s : ah} {K : World -> Prop} (h : Kw z.cells.toList s w K) : ∃ w', (Builtin.clear_ #[t] ty #[s.v]).run P w = .ok (.tuple #[]) w' ∧ K w' := by
  obtain ⟨hwr, hone, hK⟩ := h
  refine ⟨_, ?_, hK⟩
  obtain ⟨a, n, c⟩ := s
  cases a with
  | none => simp [Builtin.clear_, ah.v, run_underlying ht]
  | some a =>
    cases n with
    | zero => simp [Builtin.clear_, ah.v, run_underlying ht, aJ, setCells]
    | succ n =>
      have hst := rF (P := P) a (aJ z.cells.toList (n + 1)) 0 w (fun v hv => by
        obtain ⟨k, _, hv⟩ := G_ hv
        exact hone v hv) (by intro j hj; rw [uP] at hj; simpa using hwr a rfl j hj)
      simp [Builtin.clear_, ah.v, run_underlying ht, zeroValue, run_typeInfo hi, hz, jK, hst]
theorem Uw {t t' ty e : TypeId} {i : TypeInfo} (ht : P.underlying t = some (.slice e)) (hi : P.info? e = some i) {w : World} {d s : ah} {K : Int -> World -> Prop}
    (h : FD i.size d s w K) : ∃ n w', (Builtin.copy_ #[t, t'] ty #[d.v, s.v]).run P w = .ok (.int .i64 n) w' ∧ K n w' := by
  obtain ⟨vs, hvs, hwr, hone, hK⟩ := h
  refine ⟨_, _, ?_, hK⟩
  have hf := nU (P := P) (l := s.len) (c := s.cap) hvs
  cases hd : d.a with
  | none => simp [Builtin.copy_, ah.v, run_underlying ht, Go.sizeOf, run_typeInfo hi, Builtin.lenOf, hd, hf, goInt]
  | some a =>
    have hst := rF (P := P) a vs 0 w hone (by intro j hj; simpa using hwr a hd j hj)
    simp [Builtin.copy_, ah.v, run_underlying ht, Go.sizeOf, run_typeInfo hi, Builtin.lenOf, hd, hf, hst, goInt]
theorem Ur {t e : TypeId} {i : TypeInfo} {z : Value} (ht : P.underlying t = some (.slice e)) (hi : P.info? e = some i) (hz : i.zero = some z) (hsz : z.cells.toList.length = i.size)
    {n c : Int} {kl kc : IntKind} {w : World} {K : ah -> World -> Prop} (h : Ro e i.size i.bytes z.cells.toList n c w K) :
    ∃ s w', (Instr.makeSlice t (.int kl n) (.int kc c)).run P w = .ok s.v w' ∧ K s w' := by
  obtain ⟨h0, h1, h2, h3, hK⟩ := h
  refine ⟨_, _, ?_, hK⟩
  have h2' : c <= 9223372036854775807 := Int.le_trans h2 (by decide)
  have h3' : (i.bytes : Int) * c <= 281474976710656 := Int.le_trans h3 (by decide)
  rw [run_make w t e i z ht hi hz kl kc n c h0 h1 h3' h2']
  have e0 : i.size = z.cells.size := hsz.symm.trans Array.length_toList
  have e1 : c.toNat * i.size = c.toNat * z.cells.size := congrArg (c.toNat * ·) e0
  rw [e1, O9]
  rfl
theorem L_ {w : World} {s : ah} {K : ByteArray -> Prop} (h : Gy w s K) : ∃ b, (Conv.bytesToString s.v).run P w = .ok (.string b) w ∧ K b := by
  obtain ⟨b, hl, hc, hK⟩ := h
  refine ⟨b, ?_, hK⟩
  cases hs : s.a with
  | none =>
    rw [hs] at hc
    have : b = .empty := by
      have h0 : b.data.toList = [] := by simpa [oQ, byteCells] using hc
      cases b with | mk d => simp at h0; subst h0; rfl
    subst this
    simp [Conv.bytesToString, ah.v, hs]
  | some a =>
    rw [hs] at hc
    obtain ⟨hn, hcs⟩ := hc
    have hcell : ∀ j v, (byteCells b)[j]? = some v -> w.cell? (a.add j) = some v := fun j v hj => by
      have hlt := (List.getElem?_eq_some_iff.1 hj).1
      rw [hcs j hlt, hj]
    have hl2 := run_loadCells_list (P := P) (w := w) a (byteCells b) hcell
    rw [hn] at hl2
    have e1 : byteCells b = (b.data.toList.map fun x => (x.toNat : Int)).map (Value.int .u8) := by simp [byteCells]
    rw [e1] at hl2
    have := run_bytesToString (P := P) w a s.len s.cap _ hl2
    simp only [ah.v, hs, this]
    rw [foldl_push_bytes]
    congr 2
    cases b with | mk d =>
    have e2 : ∀ l : List UInt8, l.map ((fun n : Int => UInt8.ofNat n.toNat) ∘ fun x => (x.toNat : Int)) = l := by
      intro l
      induction l with
      | nil => rfl
      | cons x l ih => simp only [List.map_cons, ih]; simp
    simp only [ByteArray.empty, ByteArray.emptyWithCapacity, List.map_map, e2]
    simp
    rfl
end
end Gp
end
section
namespace Gp
open Go
theorem Md (cs : List Value) (off : Nat) (vs : List Value) (h : off + vs.length <= cs.length) (i : Nat) :
    (splice cs off vs)[i]? = if i < off then cs[i]? else if i < off + vs.length then vs[i - off]? else cs[i]? := by
  unfold splice
  have hl : (cs.take off).length = off := by simp; omega
  by_cases h1 : i < off
  · rw [if_pos h1, List.getElem?_append_left (by omega), List.getElem?_take_of_lt h1]
  · rw [if_neg h1, List.getElem?_append_right (by omega), hl]
    by_cases h2 : i < off + vs.length
    · rw [if_pos h2, List.getElem?_append_left (by omega)]
    · rw [if_neg h2, List.getElem?_append_right (by omega), List.getElem?_drop]
      congr 1
      omega
theorem Rz (off : Nat) : ∀ (vs : List Value) (k : Nat) (cs : Array Value), off + k + vs.length <= cs.size ->
    ((vs.zipIdx k).foldl (fun (cs : Array Value) (p : Value × Nat) => cs.setIfInBounds (off + p.2) p.1) cs) = ⟨splice cs.toList (off + k) vs⟩ := by
  intro vs
  induction vs with
  | nil => intro k cs _; simp [splice]
  | cons v vs ih =>
    intro k cs h
    simp only [List.length_cons] at h
    rw [List.zipIdx_cons, List.foldl_cons, ih (k + 1) _ (by simp; omega)]
    congr 1
    apply List.ext_getElem?
    intro i
    rw [Md _ _ _ (by simp; omega), Md _ _ _ (by simp; omega)]
    simp only [Array.toList_setIfInBounds, List.getElem?_set, List.length_cons]
    by_cases h1 : i < off + k
    · have h2 : i < off + (k + 1) := by omega
      have h3 : ¬ (off + k = i) := by omega
      simp [h1, h2, h3]
    · by_cases h2 : i = off + k
      · subst h2
        have h3 : off + k < off + (k + 1) := by omega
        have h4 : off + k < cs.size := by omega
        simp [h3, h4]
      · have h3 : ¬ (i < off + (k + 1)) := by omega
        have h4 : ¬ (off + k = i) := by omega
        simp only [h1, h3, h4, if_false]
        by_cases h5 : i < off + (k + 1) + vs.length
        · have h6 : i < off + k + (vs.length + 1) := by omega
          obtain ⟨m, hm⟩ : ∃ m, i - (off + k) = m + 1 := ⟨i - (off + k) - 1, by omega⟩
          have h7 : i - (off + (k + 1)) = m := by omega
          simp [h5, h6, hm, h7]
        · have h6 : ¬ (i < off + k + (vs.length + 1)) := by omega
          simp [h5, h6]
theorem Hy {v : Value} (h : bK v = true) : cellsOfV v = [v] := by cases v <;> first | rfl | (simp [bK] at h)
theorem Rj : ∀ (ps : List (Nat × Value)) (cs out : List Value), (∀ p ∈ ps, bK p.2 = true) -> TI ps cs = some out -> BX (fun i => some (i * 1, 1)) ps cs = some out := by
  intro ps
  induction ps with
  | nil => exact fun cs out _ h => h
  | cons p ps ih =>
    obtain ⟨i, v⟩ := p
    intro cs out h1 h
    simp only [TI] at h
    have hv : bK v = true := h1 (i, v) (by simp)
    cases hb : Nat.blt i cs.length with
    | false => rw [hb] at h; cases h
    | true =>
      rw [hb] at h
      have hlt : i < cs.length := by simpa [Nat.blt_eq] using hb
      have hs : splice cs (i * 1) [v] = cs.set i v := by
        rw [List.set_eq_take_append_cons_drop, if_pos hlt, Nat.mul_one]; rfl
      have hc : (Nat.beq (cellsOfV v).length 1 && Nat.ble (i * 1 + 1) cs.length) = true := by
        rw [Hy hv, Bool.and_eq_true]
        exact ⟨rfl, by rw [Nat.ble_eq]; omega⟩
      simp only [BX, hc, cond_true]
      rw [Hy hv, hs]
      exact ih _ _ (fun p hp => h1 p (by simp [hp])) h
theorem Vp : ∀ (vs : List Value), Qc vs -> ∀ v ∈ vs, bK v = true := by
  intro vs
  induction vs with
  | nil => exact fun _ v hv => by simp at hv
  | cons v vs ih =>
    rintro ⟨h1, h2⟩ u hu
    rcases List.mem_cons.1 hu with rfl | hu
    · exact h1
    · exact ih h2 u hu
theorem abW {sh : Option Shape} {size : Nat} {ps : List (Nat × Operand)} {ρ : Operand -> Value} {cs : List Value} {Φ : List Value -> Prop}
    (h : cond (X5 sh) (cond (Nat.beq size 1) (Qc (ps.map fun p => ρ p.2) ∧ (match TI (ps.map fun p => (p.1, ρ p.2)) cs with
         | some cs => Φ cs
         | none => False)) False)
         (match BX (fun i => some (i * size, size)) (ps.map fun p => (p.1, ρ p.2)) cs with
         | some cs => Φ cs
         | none => False)) : ∃ out, BX (fun i => some (i * size, size)) (ps.map fun p => (p.1, ρ p.2)) cs = some out ∧ Φ out := by
  cases ha : X5 sh with
  | false =>
    rw [ha] at h
    simp only [cond_false] at h
    split at h
    · rename_i out hf; exact ⟨out, hf, h⟩
    · exact h.elim
  | true =>
    rw [ha] at h
    simp only [cond_true] at h
    cases hb : Nat.beq size 1 with
    | false => rw [hb] at h; exact h.elim
    | true =>
      rw [hb] at h
      have hs : size = 1 := Nat.eq_of_beq_eq_true hb
      subst hs
      simp only [cond_true] at h
      obtain ⟨h1, h⟩ := h
      split at h
      · rename_i out hf
        refine ⟨out, Rj _ _ _ (fun p hp => ?_) hf, h⟩
        obtain ⟨q, hq, rfl⟩ := List.mem_map.1 hp
        exact Vp _ h1 _ (List.mem_map.2 ⟨q, hq, rfl⟩)
      · exact h.elim
theorem FY (place place' : Nat -> Option (Nat × Nat)) (hp : ∀ i x, place i = some x -> place' i = some x) : ∀ (ps : List (Nat × Value)) (cs out : List Value), BX place ps cs = some out ->
    Instr.fill place' ⟨cs⟩ ps = some ⟨out⟩ := by
  intro ps
  induction ps with
  | nil => intro cs out h; simp [BX] at h; subst h; rfl
  | cons p ps ih =>
    obtain ⟨i, v⟩ := p
    intro cs out h
    simp only [BX] at h
    cases hpl : place i with
    | none => simp [hpl] at h
    | some x =>
      obtain ⟨off, size⟩ := x
      simp only [hpl] at h
      cases hb : (Nat.beq (cellsOfV v).length size && Nat.ble (off + size) cs.length) with
      | false => simp [hb] at h
      | true =>
        simp only [hb, cond_true] at h
        simp only [Bool.and_eq_true, Nat.beq_eq, Nat.ble_eq] at hb
        obtain ⟨h1, h2⟩ := hb
        rw [Jo] at h1 h
        have h3 : v.cells.size = size := by rw [<- h1]; simp
        have := ih _ _ h
        have hf := Rz off v.cells.toList 0 ⟨cs⟩ (by simp; omega)
        simp only [Nat.add_zero] at hf
        have hz : v.cells.zipIdx.foldl (fun (cs : Array Value) (x : Value × Nat) => cs.setIfInBounds (off + x.2) x.1) ⟨cs⟩ = ⟨splice cs off v.cells.toList⟩ := by
          rw [<- Array.foldl_toList, Array.toList_zipIdx]
          exact hf
        simp only [Instr.fill, hp _ _ hpl]
        have c1 : (v.cells.size ≠ size || off + v.cells.size > (⟨cs⟩ : Array Value).size) = false := by
          simp [h3]; omega
        simp only [c1, Bool.false_eq_true, if_false]
        exact (congrArg (fun a => Instr.fill place' a ps) hz).trans this
section
variable {P : Program}
theorem QK {w : World} : ∀ (fs : List Field) (pl : List (Nat × Nat)), placesOf P fs = some pl ->
    (fs.mapM fun (f : Field) => (do pure (f.offset, <- Go.sizeOf f.type) : Sem (Nat × Nat))).run P w = .ok pl w := by
  intro fs
  induction fs with
  | nil => intro pl h; simp [placesOf] at h; subst h; simp
  | cons f fs ih =>
    intro pl h
    simp only [placesOf] at h
    cases hs : dI P f.type with
    | none => simp [hs] at h
    | some s =>
      cases hr : placesOf P fs with
      | none => simp [hs, hr] at h
      | some l =>
        simp only [hs, hr, Option.some.injEq] at h
        subst h
        have hi := ih l hr
        rw [List.mapM_cons]
        simp only [Sem.run_bind, dK hs, Result.andThen_ok, Sem.run_pure, hi]
theorem MB {w : World} {fs : Array Field} {f off size : Nat} (h : Cc P fs f = some (off, size)) (hs : Nat.beq size 0 = false) (a : Addr) :
    ∃ fd, fs[f]? = some fd ∧ (fieldPlace a fd).run P w = .ok (a.add off) w := by
  unfold Cc at h
  cases hf : fs.toList[f]? with
  | none => simp [hf] at h
  | some fd =>
    simp only [hf] at h
    cases hz : dI P fd.type with
    | none => simp [hz] at h
    | some s =>
      simp only [hz, Option.some.injEq, Prod.mk.injEq] at h
      obtain ⟨rfl, rfl⟩ := h
      refine ⟨fd, by simpa using hf, ?_⟩
      have : s ≠ 0 := by intro e; subst e; simp at hs
      simp [fieldPlace, dK hz, this]
theorem Le {w : World} {t : TypeId} {d : TypeDesc} {size off : Nat} {cs : Array Value} {φ : Value -> Prop} (hd : P.underlying t = some d) (hs : dI P t = some size)
    (h : partOf d size off cs.toList φ) : ∃ v, (part t cs off).run P w = .ok v w ∧ φ v := by
  unfold partOf at h
  cases hg : B_ d with
  | true =>
    simp only [hg, cond_true] at h
    refine ⟨_, ?_, h⟩
    simp only [part, Sem.run_bind, Dv hd, Result.andThen_ok, hg, if_true, dK hs, Sem.run_pure, Result.ok.injEq, and_true, Value.agg.injEq]
    apply Array.toList_inj.mp
    simp [Array.toList_extract, List.extract_eq_take_drop]
  | false =>
    simp only [hg, cond_false] at h
    cases hc : cs.toList[off]? with
    | none => simp [hc] at h
    | some v =>
      simp only [hc] at h
      refine ⟨v, ?_, h⟩
      have hc' : cs[off]? = some v := by simpa using hc
      simp [part, Dv hd, hg, hc']
theorem GN {k k' : IntKind} (h : EZ k k' = true) : k = k' := by cases k <;> cases k' <;> first | rfl | (simp [EZ] at h)
theorem Uo {op : BinOp} {k : IntKind} {a b : Int} {φ : Value -> Prop} {t : TypeId} {w : World} (hop : op ≠ .shl ∧ op ≠ .shr) (h : FX op k a b φ) :
    ∃ v, (binOp op t (.int k a) (.int k b)).run P w = .ok v w ∧ φ v := by
  cases op <;> simp only [FX] at h <;> first
    | exact absurd rfl hop.1
    | exact absurd rfl hop.2
    | exact h.elim
    | (refine ⟨_, ?_, h⟩; simp [binOp, Op.intArith]; done)
    | (refine ⟨_, ?_, h⟩; simp [binOp, Op.intCmp]; done)
    | (refine ⟨_, ?_, h⟩; simp only [binOp, ne_eq, not_true_eq_false, if_false]; rfl)
    | (refine ⟨_, ?_, h.2⟩; simp [binOp, Op.intDiv, h.1]; done)
theorem Vl {op : BinOp} {a b : ByteArray} {φ : Value -> Prop} {t : TypeId} {w : World} (h : E_ op a b φ) :
    ∃ v, (binOp op t (.string a) (.string b)).run P w = .ok v w ∧ φ v := by
  cases op <;> simp only [E_] at h <;> first
    | exact h.elim
    | (refine ⟨_, ?_, h⟩; simp [binOp, Op.stringOp, strEq, strLt]; done)
    | (refine ⟨_, ?_, h.2⟩
       have : ¬ (IntKind.i64.max < ((a.size + b.size : Nat) : Int)) := by omega
       simp [binOp, Op.stringOp] at this ⊢
       simp [this])
end
end Gp
end
