import Derived.RangeFuncLeaves
import Derived.OrdersIn
import Derived.RangeFuncSeq
import Derived.Maps.RangeRun
/- A predicate transformer for the code of a function, computed from the code: definitions. -/
namespace Gp
open Go

/-! ### Kinds of cells, and values of a kind -/
inductive Kind where
  | int (k : IntKind) | bool | str | ptr | slice | map | any

structure SliceV where
  a : Option Addr
  len : Nat
  cap : Nat

@[reducible] def Kind.T : Kind → Type
  | .int _ => Int
  | .bool => Bool
  | .str => ByteArray
  | .ptr => Option Addr
  | .slice => SliceV
  | .map => Option Nat
  | .any => Value

def Kind.enc : (k : Kind) → k.T → Value
  | .int k, n => .int k n
  | .bool, b => .bool b
  | .str, s => .string s
  | .ptr, a => .pointer a
  | .slice, s => .slice s.a s.len s.cap
  | .map, r => .map r
  | .any, v => v

inductive Shape where
  | one (k : Kind)
  | agg (ks : List Kind)

def kindOf : TypeDesc → Option Kind
  | .bool => some .bool
  | .int k => some (.int k)
  | .string => some .str
  | .pointer _ => some .ptr
  | .slice _ => some .slice
  | .map _ _ => some .map
  | .func _ _ _ => some .any
  | .interface _ => some .any
  | _ => none

def catO : List (Option (List Kind)) → Option (List Kind)
  | [] => some []
  | x :: r => match x, catO r with
    | some a, some b => some (a ++ b)
    | _, _ => none

def repK : Nat → List Kind → List Kind
  | 0, _ => []
  | n + 1, ks => ks ++ repK n ks

def cellKinds (P : Program) : Nat → TypeId → Option (List Kind)
  | 0, _ => none
  | n + 1, t => match P.underlying t with
    | some (.struct fs) => catO (fs.toList.map fun f => cellKinds P n f.type)
    | some (.array len e) => match cellKinds P n e with
      | some ks => some (repK len ks)
      | none => none
    | some d => match kindOf d with
      | some k => some [k]
      | none => none
    | none => none

def isAggD : TypeDesc → Bool
  | .struct _ => true
  | .array _ _ => true
  | _ => false

def shapeOf (P : Program) (t : TypeId) : Option Shape :=
  match P.underlying t with
  | some d => cond (isAggD d)
    (match cellKinds P 20 t with
     | some ks => some (.agg ks)
     | none => none)
    (match kindOf d with
     | some k => some (.one k)
     | none => none)
  | none => none

def shapesOf (P : Program) : List TypeId → Option (List Shape)
  | [] => some []
  | t :: r => match shapeOf P t, shapesOf P r with
    | some a, some b => some (a :: b)
    | _, _ => none

def resShapes (P : Program) (t : TypeId) : Option (List Shape) :=
  match P.underlying t with
  | some (.tuple ts) => shapesOf P ts.toList
  | _ => match shapeOf P t with
    | some s => some [s]
    | none => none

def exKs : (ks : List Kind) → (List Value → Prop) → Prop
  | [], φ => φ []
  | k :: ks, φ => ∃ x : k.T, exKs ks fun vs => φ (k.enc x :: vs)

def Shape.ex : Shape → (Value → Prop) → Prop
  | .one k, φ => ∃ x : k.T, φ (k.enc x)
  | .agg ks, φ => exKs ks fun vs => φ (.agg ⟨vs⟩)

def exShapes : List Shape → (List Value → Prop) → Prop
  | [], φ => φ []
  | s :: r, φ => s.ex fun v => exShapes r fun vs => φ (v :: vs)

def tup : List Value → Value
  | [v] => v
  | vs => .tuple ⟨vs⟩

/-! ### Memory -/
def isOne : Value → Bool
  | .agg _ => false
  | .tuple _ => false
  | _ => true

def Ld (k : Kind) (w : World) (a : Addr) (K : k.T → Prop) : Prop := ∃ x : k.T, w.cell? a = some (k.enc x) ∧ K x

def LdN : List Kind → World → Addr → Nat → (List Value → Prop) → Prop
  | [], _, _, _, φ => φ []
  | k :: ks, w, a, i, φ => Ld k w (a.add i) fun x => LdN ks w a (i + 1) fun vs => φ (k.enc x :: vs)

def Shape.ld : Shape → World → Addr → (Value → Prop) → Prop
  | .one k, w, a, φ => Ld k w a fun x => φ (k.enc x)
  | .agg ks, w, a, φ => LdN ks w a 0 fun vs => φ (.agg ⟨vs⟩)

def Shape.cells : Shape → Nat
  | .one _ => 1
  | .agg ks => ks.length

def St (w : World) (a : Addr) (v : Value) (K : World → Prop) : Prop := isOne v = true ∧ (w.cell? a).isSome = true ∧ w.frozen? a = false ∧ K (w.setCell a v)

def StN : List Value → World → Addr → Nat → (World → Prop) → Prop
  | [], w, _, _, K => K w
  | v :: vs, w, a, i, K => St w (a.add i) v fun w' => StN vs w' a (i + 1) K

/-- The pointer to the block that comes next. -/
@[reducible] def nextP (w : World) : Value := .pointer (some ⟨w.heap.size, 0, none⟩)

def repCells (z : List Value) : Nat → List Value
  | 0 => []
  | n + 1 => z ++ repCells z n

def sizeOf? (P : Program) (t : TypeId) : Option Nat :=
  match P.info? t with
  | some i => some i.size
  | none => none

/-! ### Operations on numbers -/
def andI (k : IntKind) (a b : Int) : Int := k.wrap ((BitVec.ofInt k.bits a &&& BitVec.ofInt k.bits b).toNat : Int)
def orI (k : IntKind) (a b : Int) : Int := k.wrap ((BitVec.ofInt k.bits a ||| BitVec.ofInt k.bits b).toNat : Int)
def xorI (k : IntKind) (a b : Int) : Int := k.wrap ((BitVec.ofInt k.bits a ^^^ BitVec.ofInt k.bits b).toNat : Int)
def andNotI (k : IntKind) (a b : Int) : Int := k.wrap ((BitVec.ofInt k.bits a &&& ~~~(BitVec.ofInt k.bits b)).toNat : Int)
def shlI (k : IntKind) (a b : Int) : Int := k.wrap (a * 2 ^ (min b.toNat k.bits))
def shrI (k : IntKind) (a b : Int) : Int := a.fdiv (2 ^ (min b.toNat k.bits))

def strEq (a b : ByteArray) : Bool := a.toList == b.toList
def strLt (a b : ByteArray) : Bool := Op.bytesLess a.toList b.toList

def ikEq : IntKind → IntKind → Bool
  | .i8, .i8 | .i16, .i16 | .i32, .i32 | .i64, .i64 | .u8, .u8 | .u16, .u16 | .u32, .u32 | .u64, .u64 => true
  | _, _ => false

/-- What a value of a kind is, in passing style. -/
def Kind.dec : (k : Kind) → Value → (k.T → Prop) → Prop
  | .int k, .int k' n, φ => cond (ikEq k k') (φ n) False
  | .bool, .bool b, φ => φ b
  | .str, .string s, φ => φ s
  | .ptr, .pointer a, φ => φ a
  | .slice, .slice a l c, φ => φ ⟨a, l, c⟩
  | .map, .map r, φ => φ r
  | .any, v, φ => φ v
  | _, _, _ => False

def intBin (op : BinOp) (k : IntKind) (a b : Int) (φ : Value → Prop) : Prop :=
  match op with
  | .add => φ (.int k (k.wrap (a + b)))
  | .sub => φ (.int k (k.wrap (a - b)))
  | .mul => φ (.int k (k.wrap (a * b)))
  | .quo => b ≠ 0 ∧ φ (.int k (k.wrap (a.tdiv b)))
  | .rem => b ≠ 0 ∧ φ (.int k (a.tmod b))
  | .and => φ (.int k (andI k a b))
  | .or => φ (.int k (orI k a b))
  | .xor => φ (.int k (xorI k a b))
  | .andNot => φ (.int k (andNotI k a b))
  | .eql => φ (.bool (a == b))
  | .neq => φ (.bool (a != b))
  | .lss => φ (.bool (decide (a < b)))
  | .leq => φ (.bool (decide (a ≤ b)))
  | .gtr => φ (.bool (decide (a > b)))
  | .geq => φ (.bool (decide (a ≥ b)))
  | _ => False

def strBin (op : BinOp) (a b : ByteArray) (φ : Value → Prop) : Prop :=
  match op with
  | .add => ((a.size + b.size : Nat) : Int) ≤ IntKind.i64.max ∧ φ (.string (a ++ b))
  | .eql => φ (.bool (strEq a b))
  | .neq => φ (.bool (!strEq a b))
  | .lss => φ (.bool (strLt a b))
  | .leq => φ (.bool (strLt a b || strEq a b))
  | .gtr => φ (.bool !(strLt a b || strEq a b))
  | .geq => φ (.bool !(strLt a b))
  | _ => False

/-- Equality of two cells that hold a number, a bool or a text. -/
def cellEq : Value → Value → Option Bool
  | .int _ a, .int _ b => some (a == b)
  | .bool a, .bool b => some (a == b)
  | .string a, .string b => some (strEq a b)
  | _, _ => none

def cellsEq : List Value → List Value → Option Bool
  | [], [] => some true
  | [a], [b] => cellEq a b
  | a :: as, b :: bs => match cellEq a b, cellsEq as bs with
    | some x, some y => some (x && y)
    | _, _ => none
  | _, _ => none

/-- A type whose values are told apart cell by cell, all numbers, bools or texts. -/
def plainT (P : Program) : Nat → TypeId → Bool
  | 0, _ => false
  | n + 1, t => match P.underlying t with
    | some .bool => true
    | some (.int _) => true
    | some .string => true
    | _ => false

def binDen (op : BinOp) (x y : Value) (φ : Value → Prop) : Prop :=
  match op, x, y with
  | .shl, .int k a, .int _ b => 0 ≤ b ∧ φ (.int k (shlI k a b))
  | .shr, .int k a, .int _ b => 0 ≤ b ∧ φ (.int k (shrI k a b))
  | op, .int k a, .int k' b => cond (ikEq k k') (intBin op k a b φ) False
  | op, .string a, .string b => strBin op a b φ
  | _, _, _ => False

/-- '==' on values that are no numbers and no texts; d: what their type is. -/
def eqDen (d : TypeDesc) (x y : Value) (φ : Bool → Prop) : Prop :=
  match d, x, y with
  | .bool, .bool a, .bool b => φ (a == b)
  | .pointer _, .pointer q, .pointer none => φ q.isNone
  | .slice _, .slice q _ _, .slice none _ _ => φ q.isNone
  | .map _ _, .map q, .map none => φ q.isNone
  | _, _, _ => False

/-- A part of an aggregate. -/
def partV (d : TypeDesc) (size off : Nat) (cs : List Value) : Option Value :=
  cond (isAggD d) (some (.agg ⟨(cs.drop off).take size⟩)) cs[off]?

def andO (b : Bool) : Option Bool → Option Bool
  | some r => some (b && r)
  | none => none

def eqFs (P : Program) (f : TypeId → Value → Value → Option Bool) (xs ys : List Value) : List Field → Option Bool
  | [] => some true
  | fd :: fs => cond (fd.name == "_") none (match P.underlying fd.type, sizeOf? P fd.type with
    | some d, some size => match partV d size fd.offset xs, partV d size fd.offset ys with
      | some a, some b => match f fd.type a b with
        | some r => andO r (eqFs P f xs ys fs)
        | none => none
      | _, _ => none
    | _, _ => none)

def eqIs (f : Value → Value → Option Bool) (d : TypeDesc) (size : Nat) (xs ys : List Value) : Nat → Nat → Option Bool
  | 0, _ => some true
  | n + 1, i => match partV d size (i * size) xs, partV d size (i * size) ys with
    | some a, some b => match f a b with
      | some r => andO r (eqIs f d size xs ys n (i + 1))
      | none => none
    | _, _ => none

/-- '==' on structs and arrays of numbers, texts and bools. -/
def eqT (P : Program) : Nat → TypeId → Value → Value → Option Bool
  | 0, _, _, _ => none
  | d + 1, t, x, y => match P.underlying t, x, y with
    | some .bool, .bool a, .bool b => some (a == b)
    | some (.int _), .int k a, .int k' b => cond (ikEq k k') (some (a == b)) none
    | some .string, .string a, .string b => some (strEq a b)
    | some (.struct fs), .agg xs, .agg ys => cond (P.stoodInHeld t) none (eqFs P (eqT P d) xs.toList ys.toList fs.toList)
    | some (.array n e), .agg xs, .agg ys => match P.underlying e, sizeOf? P e with
      | some de, some size => eqIs (eqT P d e) de size xs.toList ys.toList n 0
      | _, _ => none
    | _, _, _ => none

def isEqOp : BinOp → Option Bool
  | .eql => some true
  | .neq => some false
  | _ => none

def binOpDen (P : Program) (op : BinOp) (t : TypeId) (x y : Value) (φ : Value → Prop) : Prop :=
  match x with
  | .int _ _ => binDen op x y φ
  | .string _ => binDen op x y φ
  | .agg _ => match isEqOp op, y with
    | some s, .agg _ => cond (P.eqGuardType P.depth t) False (match eqT P 16 t x y with
      | some b => φ (.bool (cond s b (!b)))
      | none => False)
    | _, _ => False
  | _ => match isEqOp op, P.underlying t with
    | some true, some d => eqDen d x y fun b => φ (.bool b)
    | some false, some d => eqDen d x y fun b => φ (.bool !b)
    | _, _ => False

def unOpDen (op : UnOp) (x : Value) (φ : Value → Prop) : Prop :=
  match op, x with
  | .neg, .int k n => φ (.int k (k.wrap (0 - n)))
  | .not, .bool b => φ (.bool !b)
  | .xor, .int k n => φ (.int k (xorI k (if k.signed then -1 else k.max) n))
  | _, _ => False

/-! ### Slices -/
def subA (a : Option Addr) (m l size : Nat) : Option Addr := if m = l then a else a.map (·.add (l * size))

/-- A cut of a slice: from l to h, of so many places. -/
def SubSl (s : SliceV) (size : Nat) (l h : Int) (K : SliceV → Prop) : Prop :=
  0 ≤ l ∧ l ≤ h ∧ h ≤ (s.cap : Int) ∧ K ⟨subA s.a s.cap l.toNat size, h.toNat - l.toNat, s.cap - l.toNat⟩

/-- The same with a third bound. -/
def SubSl3 (s : SliceV) (size : Nat) (l h m : Int) (K : SliceV → Prop) : Prop :=
  0 ≤ l ∧ l ≤ h ∧ h ≤ m ∧ m ≤ (s.cap : Int) ∧ K ⟨subA s.a m.toNat l.toNat size, h.toNat - l.toNat, m.toNat - l.toNat⟩

/-- A cut of an array that lies at a. -/
def SubArr (a : Addr) (n size : Nat) (l h : Int) (K : SliceV → Prop) : Prop :=
  0 ≤ l ∧ l ≤ h ∧ h ≤ (n : Int) ∧ K ⟨some (if n = l.toNat then a else a.add (l.toNat * size)), h.toNat - l.toNat, n - l.toNat⟩

def SubStr (s : ByteArray) (l h : Int) (K : ByteArray → Prop) : Prop :=
  0 ≤ l ∧ l ≤ h ∧ h ≤ (s.size : Int) ∧ K (s.extract l.toNat h.toNat)

/-- The place of an element. -/
def AtIx (s : SliceV) (size : Nat) (i : Int) (K : Addr → Prop) : Prop :=
  ∃ a, s.a = some a ∧ 0 ≤ i ∧ i < (s.len : Int) ∧ K (a.add (i.toNat * size))

def StrIx (s : ByteArray) (i : Int) (K : Int → Prop) : Prop :=
  ∃ b : UInt8, 0 ≤ i ∧ s[i.toNat]? = some b ∧ K (b.toNat : Int)

/-- So many cells from a place on. -/
def Cells (w : World) (a : Addr) (vs : List Value) : Prop := ∀ j, j < vs.length → w.cell? (a.add j) = vs[j]?

def CellsO (w : World) : Option Addr → Nat → List Value → Prop
  | none, _, vs => vs = []
  | some a, n, vs => vs.length = n ∧ Cells w a vs

def setCells (w : World) (a : Addr) : List Value → Nat → World
  | [], _ => w
  | v :: vs, i => setCells (w.setCell (a.add i) v) a vs (i + 1)

def Writable (w : World) (a : Addr) (n : Nat) : Prop := ∀ j, j < n → (w.cell? (a.add j)).isSome = true ∧ w.frozen? (a.add j) = false

def bytesOf? (P : Program) (t : TypeId) : Option Nat :=
  match P.info? t with
  | some i => some i.bytes
  | none => none

/-- append: what comes behind is vs (of n elements). -/
def AppVs (e : TypeId) (size bytes : Nat) (z : List Value) (s : SliceV) (n : Nat) (vs : List Value) (w : World) (K : SliceV → World → Prop) : Prop :=
  (s.len + n ≤ s.cap ∧ (∀ a, s.a = some a → Writable w (a.add (s.len * size)) vs.length) ∧ (∀ v ∈ vs, isOne v = true) ∧
    K ⟨s.a, s.len + n, s.cap⟩ (match s.a with | some a => setCells w (a.add (s.len * size)) vs 0 | none => w)) ∨
  (s.cap < s.len + n ∧ (s.len + n) * bytes ≤ 2 ^ 46 ∧ s.len + n ≤ 2 ^ 62 ∧ ∃ old, CellsO w s.a (s.len * size) old ∧
    ∀ c, s.len + n ≤ c → c < 2 ^ 63 → K ⟨some ⟨w.heap.size, 0, none⟩, s.len + n, c⟩ (w.drew.alloc (.cells ⟨old ++ vs ++ repCells z (c - (s.len + n))⟩ e)))

def AppSl (e : TypeId) (size bytes : Nat) (z : List Value) (s x : SliceV) (w : World) (K : SliceV → World → Prop) : Prop :=
  ∃ vs, CellsO w x.a (x.len * size) vs ∧ AppVs e size bytes z s x.len vs w K

def byteCells (s : ByteArray) : List Value := s.data.toList.map fun b => .int .u8 b.toNat

def AppStr (e : TypeId) (size bytes : Nat) (z : List Value) (s : SliceV) (x : ByteArray) (w : World) (K : SliceV → World → Prop) : Prop :=
  AppVs e size bytes z s x.size (byteCells x) w K

/-- append of a make: n zero elements come behind. -/
def AppMk (e : TypeId) (size bytes : Nat) (z : List Value) (s : SliceV) (n : Int) (w : World) (K : SliceV → World → Prop) : Prop :=
  0 ≤ n ∧ n * bytes ≤ 2 ^ 46 ∧ n ≤ 2 ^ 62 ∧ AppVs e size bytes z s n.toNat (repCells z n.toNat) w K

/-- All of a slice is zero. -/
def ClearSl (z : List Value) (s : SliceV) (w : World) (K : World → Prop) : Prop :=
  (∀ a, s.a = some a → Writable w a (s.len * z.length)) ∧ (∀ v ∈ z, isOne v = true) ∧ K (match s.a with | some a => setCells w a (repCells z s.len) 0 | none => w)

def CopySl (size : Nat) (d s : SliceV) (w : World) (K : Int → World → Prop) : Prop :=
  ∃ vs, CellsO w s.a (Nat.min s.len d.len * size) vs ∧ (∀ a, d.a = some a → Writable w a vs.length) ∧ (∀ v ∈ vs, isOne v = true) ∧
    K (Nat.min s.len d.len : Nat) (match d.a with | some a => setCells w a vs 0 | none => w)

def MkSl (e : TypeId) (size bytes : Nat) (z : List Value) (n c : Int) (w : World) (K : SliceV → World → Prop) : Prop :=
  0 ≤ n ∧ n ≤ c ∧ c ≤ 2 ^ 62 ∧ (bytes : Int) * c ≤ 2 ^ 48 ∧
    K ⟨some ⟨w.heap.size, 0, none⟩, n.toNat, c.toNat⟩ (w.alloc (.cells ⟨repCells z c.toNat⟩ e))

/-! ### Aggregates -/
/-- A part of an aggregate: the cells from off on, so many. -/
def partOf (d : TypeDesc) (size off : Nat) (cs : List Value) (φ : Value → Prop) : Prop :=
  cond (isAggD d) (φ (.agg ⟨(cs.drop off).take size⟩))
    (match cs[off]? with
     | some v => φ v
     | none => False)

def cellsOfV : Value → List Value
  | .agg cs => cs.toList
  | v => [v]

def splice (cs : List Value) (off : Nat) (vs : List Value) : List Value := cs.take off ++ (vs ++ cs.drop (off + vs.length))

def fillL (place : Nat → Option (Nat × Nat)) : List (Nat × Value) → List Value → Option (List Value)
  | [], cs => some cs
  | (i, v) :: r, cs => match place i with
    | some (off, size) => cond (Nat.beq (cellsOfV v).length size && Nat.ble (off + size) cs.length) (fillL place r (splice cs off (cellsOfV v))) none
    | none => none

def fillO : List (Nat × Value) → List Value → Option (List Value)
  | [], cs => some cs
  | (i, v) :: r, cs => cond (Nat.blt i cs.length) (fillO r (cs.set i v)) none

def allOne : List Value → Prop
  | [] => True
  | v :: r => isOne v = true ∧ allOne r

def anySh : Option Shape → Bool
  | some (.one .any) => true
  | _ => false

def zeroCells? (P : Program) (t : TypeId) : Option (List Value) :=
  match P.info? t with
  | some i => match i.zero with
    | some z => some (cellsOfV z)
    | none => none
  | none => none

def placesOf (P : Program) : List Field → Option (List (Nat × Nat))
  | [] => some []
  | f :: r => match sizeOf? P f.type, placesOf P r with
    | some s, some l => some ((f.offset, s) :: l)
    | _, _ => none

def fieldPlace? (P : Program) (fs : Array Field) (i : Nat) : Option (Nat × Nat) :=
  match fs.toList[i]? with
  | some f => match sizeOf? P f.type with
    | some s => some (f.offset, s)
    | none => none
  | none => none

/-! ### Calls -/
def hasBody (P : Program) (f : FuncId) : Bool :=
  match P.funcs[f]? with
  | some fn => fn.body.isSome
  | none => false

/-- A function that the model gives without a text. -/
def ExtP (P : Program) (f : FuncId) (args : List Value) (w : World) (K : Value → World → Prop) : Prop :=
  ∃ v w', (callFunc f ⟨args⟩).run P w = .ok (.value v) w' ∧ K v w'

def CallP (P : Program) (sh : List Shape) (f : FuncId) (args : List Value) (w : World) (K : Value → World → Prop) : Prop :=
  Calls P f ⟨args⟩ w fun e w' => exShapes sh fun vs => e = .returned (tup vs) ∧ K (tup vs) w'

/-- Yield, called with args: what is asked of it. -/
def YieldP (P : Program) (l : Nat) (args : List Value) (w : World) (K : Bool → World → Prop) : Prop :=
  YieldAt Fence.wide 0 P l ⟨args⟩ w fun e w' => ∃ b : Bool, e = .returned (.bool b) ∧ K b w'

/-- A call of a function value. -/
def CallV (P : Program) (sh : List Shape) (v : Value) (args : List Value) (w : World) (K : Value → World → Prop) : Prop :=
  match v with
  | .func (.func f) first cap => cond (hasBody P f) (CallP P sh f (first.toList ++ (args ++ cap.toList)) w K) False
  | .func (.yield l) first _ => YieldP P l (first.toList ++ args) w fun b w' => K (.bool b) w'
  | _ => False

def MapLen (w : World) (r : Option Nat) (φ : Int → Prop) : Prop :=
  match r with
  | none => φ 0
  | some b => ∃ es clock, w.heap[b]? = some (.map es clock) ∧ φ (es.size : Int)

def lenDen (d : TypeDesc) (x : Value) (w : World) (φ : Int → Prop) : Prop :=
  match d, x with
  | .string, .string s => φ (s.size : Int)
  | .array n _, _ => φ (n : Int)
  | .slice _, .slice _ n _ => φ (n : Int)
  | .map _ _, .map r => MapLen w r φ
  | _, _ => False

def foldMax (mx : Bool) : Int → List Value → IntKind → (Value → Prop) → Prop
  | x, [], k, φ => φ (.int k x)
  | x, .int _ y :: r, k, φ => foldMax mx (cond mx (if y > x then y else x) (if y < x then y else x)) r k φ
  | _, _ :: _, _, _ => False

def SliceV.v (s : SliceV) : Value := .slice s.a s.len s.cap

/-! ### Maps -/
def leafV : Value → Bool
  | .int _ _ => true
  | .bool _ => true
  | .string _ => true
  | _ => false
def plainV : Value → Bool
  | .agg cs => cs.toList.all leafV
  | v => leafV v

/-- Where a key stands. -/
def findV (P : Program) (kt : TypeId) (key : Value) : List MapEntry → Nat → Option (Option (Nat × Value))
  | [], _ => some none
  | e :: es, i => match eqT P 16 kt key e.key with
    | some true => some (some (i, e.val))
    | some false => findV P kt key es (i + 1)
    | none => none

def keyOK (P : Program) (kt : TypeId) (key : Value) : Bool := plainV key && (eqT P 16 kt key key).isSome

def MapGet (P : Program) (kt : TypeId) (k : Kind) (r : Option Nat) (key zero : Value) (w : World) (K : k.T → Prop) : Prop :=
  keyOK P kt key = true ∧ ((r = none ∧ k.dec zero K) ∨ ∃ b es clock, r = some b ∧ w.heap[b]? = some (.map es clock) ∧ ∃ res, findV P kt key es.toList 0 = some res ∧ k.dec (match res with | some (_, v) => v | none => zero) K)

/-- What a key has, and whether it is there. -/
def MapGetV (P : Program) (kt : TypeId) (r : Option Nat) (key zero : Value) (w : World) (K : Value → Bool → Prop) : Prop :=
  keyOK P kt key = true ∧ ((r = none ∧ K zero false) ∨ ∃ b es clock, r = some b ∧ w.heap[b]? = some (.map es clock) ∧ ∃ res, findV P kt key es.toList 0 = some res ∧
    match res with | some (_, v) => K v true | none => K zero false)

def MapSet (P : Program) (kt : TypeId) (r : Option Nat) (key val : Value) (w : World) (K : World → Prop) : Prop :=
  keyOK P kt key = true ∧ ∃ b es clock, r = some b ∧ w.heap[b]? = some (.map es clock) ∧ ∃ res, findV P kt key es.toList 0 = some res ∧
    match res with
    | some (i, _) => (∃ e, es[i]? = some e ∧ e.key = key) ∧ K (w.putObj b (.map (es.modify i fun e => { e with key := key, val := val }) clock))
    | none => K (w.putObj b (.map (es.push { key := key, val := val, born := clock }) (clock + 1)))

def MapDel (P : Program) (kt : TypeId) (r : Option Nat) (key : Value) (w : World) (K : World → Prop) : Prop :=
  keyOK P kt key = true ∧ ((r = none ∧ K w) ∨ ∃ b es clock, r = some b ∧ w.heap[b]? = some (.map es clock) ∧ ∃ res, findV P kt key es.toList 0 = some res ∧
    match res with
    | some (i, _) => K (w.putObj b (.map (es.eraseIdxIfInBounds i) clock))
    | none => K (w.putObj b (.map es clock)))

/-- The entry of a key, a new one if there is none: its value and its stamp. -/
def MapEnt (P : Program) (kt : TypeId) (r : Option Nat) (key zero : Value) (w : World) (K : Value → Int → World → Prop) : Prop :=
  keyOK P kt key = true ∧ ∃ b es clock, r = some b ∧ w.heap[b]? = some (.map es clock) ∧ ∃ res, findV P kt key es.toList 0 = some res ∧
    match res with
    | some (i, v) => ∃ e, es[i]? = some e ∧ e.key = key ∧ K v (e.born : Int) (w.putObj b (.map (es.modify i fun e => { e with key := key }) clock))
    | none => K zero (clock : Int) (w.putObj b (.map (es.push { key := key, val := zero, born := clock }) (clock + 1)))

/-- What stands behind a stamp is a value. -/
def EntSt (r : Option Nat) (stamp : Int) (val : Value) (w : World) (K : World → Prop) : Prop :=
  ∃ b es clock i, r = some b ∧ w.heap[b]? = some (.map es clock) ∧ es.findIdx? (fun e => (e.born : Int) == stamp) = some i ∧ K (w.putObj b (.map (es.modify i fun e => { e with val := val }) clock))

/-- A range over a map begins. -/
def RngMap (r : Option Nat) (w : World) (K : Addr → World → Prop) : Prop :=
  (r = none ∧ K ⟨w.heap.size, 0, none⟩ (w.alloc (.mapIter none 0 #[] 0))) ∨
  ∃ b es clock, r = some b ∧ w.heap[b]? = some (.map es clock) ∧ K ⟨w.heap.size, 0, none⟩ (w.alloc (.mapIter (some b) clock #[] clock))

/-- One more of a range over a map: any that was not yet. -/
def NextM (q : Nat) (w : World) (Kend : World → Prop) (Kstep : Value → Value → World → Prop) : Prop :=
  (∃ s sn c, w.heap[q]? = some (.mapIter none s sn c) ∧ Kend w) ∨
  ∃ b since seen c0 es clock, w.heap[q]? = some (.mapIter (some b) since seen c0) ∧ w.heap[b]? = some (.map es clock) ∧ (∀ x ∈ es.toList, x.born < since) ∧ since ≤ c0 ∧
    ((leftOf es seen).size = 0 → Kend w) ∧
    ∀ e ∈ (leftOf es seen).toList, ∀ w1, (w1 = w ∨ w1 = w.drew) → Kstep e.key e.val (w1.putObj q (.mapIter (some b) since (seen.push e.born) clock))

/-- What the step of a range over a map handed out. -/
def EntryM (q : Nat) (w : World) (K : Value → Value → Prop) : Prop :=
  ∃ b since seen es clock e, w.heap[q]? = some (.mapIter (some b) since (Array.push seen e.born) clock) ∧ w.heap[b]? = some (.map es clock) ∧ e ∈ es.toList ∧ (es.toList.map (·.born)).Nodup ∧ K e.key e.val

def zeroV? (P : Program) (t : TypeId) : Option Value :=
  match P.info? t with
  | some i => i.zero
  | none => none

def builtinDen (P : Program) (b : Builtin) (ts : List TypeId) (args : List Value) (w : World) (K : Value → World → Prop) : Prop :=
  match b, ts, args with
  | .len, [t], [x] => match P.underlying t with
    | some d => lenDen d x w fun n => K (.int .i64 n) w
    | none => False
  | .cap, [t], [.slice _ _ c] => match P.underlying t with
    | some (.slice _) => K (.int .i64 (c : Int)) w
    | _ => False
  | .max, _, .int k x :: r => foldMax true x r k fun v => K v w
  | .min, _, .int k x :: r => foldMax false x r k fun v => K v w
  | .append, [t, t'], [.slice a l c, x] => match P.underlying t, P.underlying t' with
    | some (.slice e), some d => match sizeOf? P e, bytesOf? P e, zeroCells? P e, d, x with
      | some size, some bytes, some z, .slice _, .slice b n m => AppSl e size bytes z ⟨a, l, c⟩ ⟨b, n, m⟩ w fun s w' => K s.v w'
      | some size, some bytes, some z, .string, .string s => AppStr e size bytes z ⟨a, l, c⟩ s w fun s w' => K s.v w'
      | some size, some bytes, some z, .int _, .int _ n => cond (Nat.beq z.length size) (AppMk e size bytes z ⟨a, l, c⟩ n w fun s w' => K s.v w') False
      | _, _, _, _, _ => False
    | _, _ => False
  | .copy, [t, _], [.slice a l c, .slice b n m] => match P.underlying t with
    | some (.slice e) => match sizeOf? P e with
      | some size => CopySl size ⟨a, l, c⟩ ⟨b, n, m⟩ w fun n w' => K (.int .i64 n) w'
      | none => False
    | _ => False
  | .clear, [t], [.slice a n c] => match P.underlying t with
    | some (.slice e) => match sizeOf? P e, zeroCells? P e with
      | some size, some z => cond (Nat.beq z.length size) (ClearSl z ⟨a, n, c⟩ w fun w' => K (.tuple #[]) w') False
      | _, _ => False
    | _ => False
  | .delete, [t, _], [.map r, key] => match P.underlying t with
    | some (.map kt _) => MapDel P kt r key w fun w' => K (.tuple #[]) w'
    | _ => False
  | _, _, _ => False

def optI (ρ : Operand → Value) (x : Option Operand) (dflt : Int) (φ : Int → Prop) : Prop :=
  match x with
  | none => φ dflt
  | some o => match ρ o with
    | .int _ n => φ n
    | _ => False

def sliceDen (P : Program) (t : TypeId) (x : Value) (ρ : Operand → Value) (lo hi mx : Option Operand) (φ : Value → Prop) : Prop :=
  match P.underlying t, x with
  | some .string, .string s => match mx with
    | none => optI ρ lo 0 fun l => optI ρ hi (s.size : Int) fun h => SubStr s l h fun s' => φ (.string s')
    | some _ => False
  | some (.slice e), .slice a n c => match sizeOf? P e with
    | some size => match mx with
      | none => optI ρ lo 0 fun l => optI ρ hi (n : Int) fun h => SubSl ⟨a, n, c⟩ size l h fun s' => φ s'.v
      | some m => match hi with
        | some _ => optI ρ lo 0 fun l => optI ρ hi 0 fun h => optI ρ (some m) 0 fun m' => SubSl3 ⟨a, n, c⟩ size l h m' fun s' => φ s'.v
        | none => False
    | none => False
  | some (.array n e), .pointer (some a) => match sizeOf? P e with
    | some size => match mx with
      | none => optI ρ lo 0 fun l => optI ρ hi (n : Int) fun h => SubArr a n size l h fun s' => φ s'.v
      | some _ => False
    | none => False
  | _, _ => False

def convDen (P : Program) (s d : TypeId) (x : Value) (φ : Value → Prop) : Prop :=
  match P.underlying s, P.underlying d, x with
  | some _, some (.int k), .int _ n => φ (.int k (k.wrap n))
  | some _, some .string, .string b => φ (.string b)
  | _, _, _ => False

/-- Texts out of bytes, and bytes out of texts. -/
def BytesStr (w : World) (s : SliceV) (K : ByteArray → Prop) : Prop :=
  ∃ b : ByteArray, b.size = s.len ∧ CellsO w s.a s.len (byteCells b) ∧ K b

def StrBytes (e : TypeId) (s : ByteArray) (w : World) (K : SliceV → World → Prop) : Prop :=
  s.size ≤ 2 ^ 62 ∧ ∀ c, s.size ≤ c → c < 2 ^ 63 → K ⟨some ⟨w.heap.size, 0, none⟩, s.size, c⟩ (w.drew.alloc (.cells ⟨byteCells s ++ repCells [.int .u8 0] (c - s.size)⟩ e (c, c + 1)))

/-- The mark of a text's bytes behind the last cell of a row. -/
def MarkSl (a : Addr) (w : World) (K : World → Prop) : Prop := ∃ T n, w.shape? a.block = some (T, n) ∧ K (w.freeze ⟨a.block, n, none⟩ 1)

/-! ### One operation -/
def opDen (P : Program) (o : Oper) (ρ : Operand → Value) (w : World) (K : Value → World → Prop) : Prop :=
  match o.op with
  | .move x => K (ρ x) w
  | .assign x => K (ρ x) w
  | .pick c a b => match ρ c with
    | .bool t => cond t (K (ρ a) w) (K (ρ b) w)
    | _ => False
  | .alloc e => match zeroCells? P e with
    | some z => K (nextP w) (w.alloc (.cells ⟨z⟩ e))
    | none => False
  | .box e x => match shapeOf P e with
    | some (.one _) => isOne (ρ x) = true ∧ K (nextP w) (w.alloc (.cells ⟨[ρ x]⟩ e))
    | some (.agg _) => match ρ x with
      | .agg cs => K (nextP w) (w.alloc (.cells cs e))
      | _ => False
    | none => False
  | .build t ps => match zeroCells? P t, P.underlying t with
    | some z, some (.struct fs) => match placesOf P fs.toList with
      | some pl => match fillL (fun i => pl[i]?) (ps.toList.map fun p => (p.1, ρ p.2)) z with
        | some cs => K (.agg ⟨cs⟩) w
        | none => False
      | none => False
    | some z, some (.array _ e) => match sizeOf? P e with
      | some size => match fillL (fun i => some (i * size, size)) (ps.toList.map fun p => (p.1, ρ p.2)) z with
        | some cs => K (.agg ⟨cs⟩) w
        | none => False
      | none => False
    | _, _ => False
  | .buildSlice t n ps => match P.underlying t with
    | some (.slice e) => match sizeOf? P e, zeroCells? P e with
      | some size, some z => cond (Nat.ble (n * size) 4096 && Nat.beq z.length size)
        (cond (anySh (shapeOf P e)) (cond (Nat.beq size 1) (allOne (ps.toList.map fun p => ρ p.2) ∧ (match fillO (ps.toList.map fun p => (p.1, ρ p.2)) (repCells z n) with
         | some cs => K (.slice (some ⟨w.heap.size, 0, none⟩) n n) (w.alloc (.cells ⟨cs⟩ e))
         | none => False)) False)
         (match fillL (fun i => some (i * size, size)) (ps.toList.map fun p => (p.1, ρ p.2)) (repCells z n) with
         | some cs => K (.slice (some ⟨w.heap.size, 0, none⟩) n n) (w.alloc (.cells ⟨cs⟩ e))
         | none => False)) False
      | _, _ => False
    | _ => False
  | .load t x => match ρ x, shapeOf P t, sizeOf? P t with
    | .pointer (some a), some sh, some n => cond (Nat.beq sh.cells n) (sh.ld w a fun v => K v w) False
    | _, _, _ => False
  | .store t x y => match ρ x, shapeOf P t, sizeOf? P t with
    | .pointer (some a), some (.one _), some n => cond (Nat.beq n 1) (St w a (ρ y) fun w' => K undef w') False
    | .pointer (some a), some (.agg _), some n => match ρ y with
      | .agg cs => cond (Nat.beq cs.toList.length n) (StN cs.toList w a 0 fun w' => K undef w') False
      | _ => False
    | _, _, _ => False
  | .nilCheck x => match ρ x with
    | .pointer q => ∃ a, q = some a ∧ K (.pointer (some a)) w
    | _ => False
  | .binOp op t x y _ => binOpDen P op t (ρ x) (ρ y) fun v => K v w
  | .unOp op _ x => unOpDen op (ρ x) fun v => K v w
  | .convert s d x => match P.underlying s, P.underlying d, ρ x with
    | some (.slice e), some .string, .slice a n c => match P.underlying e with
      | some (.int .u8) => BytesStr w ⟨a, n, c⟩ fun b => K (.string b) w
      | _ => False
    | some .string, some (.slice e), .string b => match P.underlying e with
      | some (.int .u8) => StrBytes e b w fun s' w' => K s'.v w'
      | _ => False
    | some (.slice _), some (.slice e), .slice (some a) n c => match P.underlying e, Nat.beq s d with
      | some (.int .u8), true => MarkSl a w fun w' => K (.slice (some a) n c) w'
      | _, _ => False
    | _, _, v => convDen P s d v fun v => K v w
  | .makeFunc fn first cap => K (.func fn ⟨first.toList.map ρ⟩ ⟨cap.toList.map ρ⟩) w
  | .lookup t x i false => match P.underlying t, ρ x with
    | some (.map kt et), .map r => match shapeOf P et, zeroV? P et with
      | some (.one k), some z => MapGet P kt k r (ρ i) z w fun x => K (k.enc x) w
      | some (.agg ks), some z => MapGetV P kt r (ρ i) z w fun v _ => (Shape.agg ks).ex fun v' => v = v' ∧ K v' w
      | _, _ => False
    | _, _ => False
  | .lookup t x i true => match P.underlying t, ρ x with
    | some (.map kt et), .map r => match shapeOf P et, zeroV? P et with
      | some sh, some z => MapGetV P kt r (ρ i) z w fun v b => sh.ex fun v' => v = v' ∧ K (.tuple ⟨[v', .bool b]⟩) w
      | _, _ => False
    | _, _ => False
  | .mapUpdate t x i v => match P.underlying t, ρ x with
    | some (.map kt _), .map r => MapSet P kt r (ρ i) (ρ v) w fun w' => K undef w'
    | _, _ => False
  | .mapEntry t x i => match P.underlying t, ρ x with
    | some (.map kt et), .map r => match zeroV? P et with
      | some z => MapEnt P kt r (ρ i) z w fun v n w' => K (.tuple ⟨[v, .int .i64 n]⟩) w'
      | none => False
    | _, _ => False
  | .entryStore _ x st v => match ρ x, ρ st with
    | .map r, .int _ n => EntSt r n (ρ v) w fun w' => K undef w'
    | _, _ => False
  | .makeMap _ none => K (.map (some w.heap.size)) (w.alloc (.map #[] 0))
  | .makeSlice t l c => match P.underlying t, ρ l, ρ c with
    | some (.slice e), .int _ n, .int _ m => match sizeOf? P e, bytesOf? P e, zeroCells? P e with
      | some size, some bytes, some z => cond (Nat.beq z.length size) (MkSl e size bytes z n m w fun s w' => K s.v w') False
      | _, _, _ => False
    | _, _, _ => False
  | .slice t x lo hi mx => sliceDen P t (ρ x) ρ lo hi mx fun v => K v w
  | .fieldAddr t x f => match P.underlying t, ρ x with
    | some (.struct fs), .pointer (some a) => match fieldPlace? P fs f with
      | some (off, size) => cond (Nat.beq size 0) False (K (.pointer (some (a.add off))) w)
      | none => False
    | _, _ => False
  | .field t x f => match P.underlying t, ρ x with
    | some (.struct fs), .agg cs => match fs.toList[f]? with
      | some fd => match P.underlying fd.type, sizeOf? P fd.type with
        | some d, some size => partOf d size fd.offset cs.toList fun v => K v w
        | _, _ => False
      | none => False
    | _, _ => False
  | .indexAddr t x i => match P.underlying t, ρ x, ρ i with
    | some (.slice e), .slice a n c, .int _ i => match sizeOf? P e with
      | some size => AtIx ⟨a, n, c⟩ size i fun a' => K (.pointer (some a')) w
      | none => False
    | some (.array n e), .pointer (some a), .int _ i => match sizeOf? P e with
      | some size => 0 ≤ i ∧ i < (n : Int) ∧ K (.pointer (some (a.add (i.toNat * size)))) w
      | none => False
    | _, _, _ => False
  | .index t x i => match P.underlying t, ρ x, ρ i with
    | some .string, .string s, .int _ i => StrIx s i fun n => K (.int .u8 n) w
    | some (.array n e), .agg cs, .int _ i => match P.underlying e, sizeOf? P e with
      | some d, some size => 0 ≤ i ∧ i < (n : Int) ∧ partOf d size (i.toNat * size) cs.toList fun v => K v w
      | _, _ => False
    | _, _, _ => False
  | .extract t i => match ρ t with
    | .tuple vs => match vs.toList[i]? with
      | some v => match shapeOf P o.type with
        | some (.one k) => k.dec v fun x => K (k.enc x) w
        | _ => K v w
      | none => False
    | _ => False
  | .range t x => match P.underlying t, ρ x with
    | some (.map _ _), .map r => RngMap r w fun a w' => K (.pointer (some a)) w'
    | _, _ => False
  | .next x false => match ρ x with
    | .pointer (some a) => a = ⟨a.block, 0, none⟩ ∧ NextM a.block w (K (.tuple ⟨[.bool false]⟩)) fun k v w' => K (.tuple ⟨[.bool true, k, v]⟩) w'
    | _ => False
  | .entry x => match ρ x with
    | .pointer (some a) => a = ⟨a.block, 0, none⟩ ∧ EntryM a.block w fun k v => K (.tuple ⟨[k, v]⟩) w
    | _ => False
  | .call c => match c.callee with
    | .value (.func f) => match resShapes P o.type with
      | some sh => cond (hasBody P f) (CallP P sh f (c.args.toList.map ρ) w K) (ExtP P f (c.args.toList.map ρ) w fun r w' => exShapes sh fun vs => r = tup vs ∧ K (tup vs) w')
      | none => False
    | .value x => match resShapes P o.type with
      | some sh => CallV P sh (ρ x) (c.args.toList.map ρ) w fun r w' => exShapes sh fun vs => r = tup vs ∧ K (tup vs) w'
      | none => False
    | .builtin b => builtinDen P b c.argTypes.toList (c.args.toList.map ρ) w K
    | _ => False
  | _ => False

/-! ### Environments: what is known of the slots -/
abbrev Env := List (Nat × Value)

def Env.get : Env → Nat → Option Value
  | [], _ => none
  | (s, v) :: r, t => cond (Nat.beq s t) (some v) (Env.get r t)

def Env.put (env : Env) (d : Option Nat) (v : Value) : Env :=
  match d with
  | some s => (s, v) :: env
  | none => env

def evO (env : Env) : Operand → Option Value
  | .tmp t => env.get t
  | .const v => some v
  | .global g => some (.pointer (some ⟨g, 0, none⟩))
  | .func f => some (.func (.func f) #[] #[])

def ev (env : Env) (x : Operand) : Value := (evO env x).getD undef

def defd (env : Env) : List Operand → Bool
  | [] => true
  | x :: r => (evO env x).isSome && defd env r

def dstOk (nt : Nat) : Option Nat → Bool
  | some d => Nat.blt d nt
  | none => true

def split (g : Bool) (v : Value) (K : Value → Prop) : Prop :=
  cond g (match v with | .bool b => cond b (K (.bool true)) (K (.bool false)) | v => K v) (K v)

def execDen (P : Program) (nt : Nat) (o : Oper) (g : Bool) (env : Env) (w : World) (K : Env → World → Prop) : Prop :=
  cond (defd env o.op.operands.toList && dstOk nt o.dst)
    (opDen P o (ev env) w fun v w' => split g v fun v' => K (env.put o.dst v') w') False

def stepDen (P : Program) (nt : Nat) (ops : List Oper) (o : Oper) (g : Bool) (env : Env) (w : World) (K : Env → World → Prop) : Prop :=
  match o.guard with
  | none => execDen P nt o g env w K
  | some (j, want) => match (ops[j]?).bind (·.dst) with
    | some s => match env.get s with
      | some (.bool t) => cond (t == want) (execDen P nt o g env w K) (cond (dstOk nt o.dst) (K (env.put o.dst undef) w) False)
      | some (.tuple _) => cond (dstOk nt o.dst) (K (env.put o.dst undef) w) False
      | _ => False
    | none => False

def isGuard (ops : List Oper) (i : Nat) : Bool :=
  ops.any fun o => match o.guard with
    | some (j, _) => Nat.beq j i
    | none => false

def opsDen (P : Program) (nt : Nat) (ops : List Oper) : Nat → List Oper → Env → World → (Env → World → Prop) → Prop
  | _, [], env, w, K => K env w
  | i, o :: r, env, w, K => stepDen P nt ops o (isGuard ops i) env w fun env' w' => opsDen P nt ops (i + 1) r env' w' K

end Gp
