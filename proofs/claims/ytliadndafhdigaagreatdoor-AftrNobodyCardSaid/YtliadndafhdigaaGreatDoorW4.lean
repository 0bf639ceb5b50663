import Derived.Test.YtliadndafhdigaaGreatDoorW3
section
namespace Gp.Rn
open Go Gp
noncomputable section
structure Cb where
  call : FuncId -> List AV -> St -> (List AV -> St -> Bool) -> Bool
  yld : Nat -> List AV -> St -> (Bool -> St -> Bool) -> Bool
def Dy (op : BinOp) (kd : IntKind) (a b : Int) (k : AV -> Bool) : Bool :=
  match op with
  | .add => fI (kd.wrap (a + b)) fun n => k (.int kd n)
  | .sub => fI (kd.wrap (a - b)) fun n => k (.int kd n)
  | .mul => fI (kd.wrap (a * b)) fun n => k (.int kd n)
  | .quo => cond (b == 0) false (fI (kd.wrap (a.tdiv b)) fun n => k (.int kd n))
  | .rem => cond (b == 0) false (fI (a.tmod b) fun n => k (.int kd n))
  | .and => fI (Ir kd a b) fun n => k (.int kd n)
  | .or => fI (Jz kd a b) fun n => k (.int kd n)
  | .xor => fI (D8 kd a b) fun n => k (.int kd n)
  | .andNot => fI (yT kd a b) fun n => k (.int kd n)
  | .eql => fB (a == b) fun t => k (.bool t)
  | .neq => fB (a != b) fun t => k (.bool t)
  | .lss => fB (decide (a < b)) fun t => k (.bool t)
  | .leq => fB (decide (a <= b)) fun t => k (.bool t)
  | .gtr => fB (decide (a > b)) fun t => k (.bool t)
  | .geq => fB (decide (a >= b)) fun t => k (.bool t)
  | _ => false
def Ce (op : BinOp) (a b : ByteArray) (k : AV -> Bool) : Bool :=
  match op with
  | .add => cond (Nat.ble (a.size + b.size) 9223372036854775807) (k (.str ⟨⟨a.data.toList ++ b.data.toList⟩⟩)) false
  | .eql => fB (EY a b) fun t => k (.bool t)
  | .neq => fB (!EY a b) fun t => k (.bool t)
  | .lss => fB (H6 a b) fun t => k (.bool t)
  | .leq => fB (H6 a b || EY a b) fun t => k (.bool t)
  | .gtr => fB (!(H6 a b || EY a b)) fun t => k (.bool t)
  | .geq => fB (!H6 a b) fun t => k (.bool t)
  | _ => false
def Ju (d : TypeDesc) (x y : AV) : Option Bool :=
  match d, x, y with
  | .bool, .bool a, .bool b => some (a == b)
  | .pointer _, .ptr0, .ptr0 => some true
  | .pointer _, .ptr _ _, .ptr0 => some false
  | .slice _, .sl0, .sl0 => some true
  | .slice _, .sl _ _ _ _, .sl0 => some false
  | .slice _, .slo _ _ _ _, .sl0 => some false
  | .slice _, .slE _, .sl0 => some false
  | .map _ _, .map0, .map0 => some true
  | .map _ _, .map _, .map0 => some false
  | _, _, _ => none
def Dc (P : Program) (op : BinOp) (t : TypeId) (x y : AV) (k : AV -> Bool) : Bool :=
  match x with
  | .int kd a => match y with
    | .int kd' b => match op with
      | .shl => cond (decide (0 <= b)) (fI (Gm kd a b) fun n => k (.int kd n)) false
      | .shr => cond (decide (0 <= b)) (fI (Gt kd a b) fun n => k (.int kd n)) false
      | op => cond (iR kd kd') (Dy op kd a b k) false
    | _ => false
  | .str a => match y with
    | .str b => Ce op a b k
    | _ => false
  | .agg xs => match fG op, mV xs, y with
    | some s, some xs', .agg ys => match mV ys with
      | some ys' => cond (P.eqGuardType P.depth t) false (match uy P 16 t (.agg ⟨xs'⟩) (.agg ⟨ys'⟩) with
        | some b => fB (cond s b (!b)) fun b => k (.bool b)
        | none => false)
      | none => false
    | _, _, _ => false
  | x => match fG op, P.underlying t with
    | some s, some d => match Ju d x y with
      | some b => fB (cond s b (!b)) fun b => k (.bool b)
      | none => false
    | _, _ => false
def Iq (op : UnOp) (x : AV) (k : AV -> Bool) : Bool :=
  match op, x with
  | .neg, .int kd n => fI (kd.wrap (0 - n)) fun n => k (.int kd n)
  | .not, .bool b => fB (!b) fun b => k (.bool b)
  | .xor, .int kd n => fI (D8 kd (if kd.signed then -1 else kd.max) n) fun n => k (.int kd n)
  | _, _ => false
def ni (ρ : Operand -> AV) (x : Option Operand) (d : Int) (k : Int -> Bool) : Bool :=
  match x with
  | none => k d
  | some o => match ρ o with
    | .int _ n => k n
    | _ => false
def BK (x : AV) (size : Nat) (l h : Int) (s : St) (k : AV -> Bool) : Bool :=
  cond (decide (0 <= l) && decide (l <= h)) (match x with
    | .sl0 => cond (decide (h <= 0)) (k .sl0) false
    | .sl i o _ cap => cond (decide (h <= (cap : Int))) (fN (cond (Nat.beq cap l.toNat) o (o + l.toNat * size)) fun o' => fN (h.toNat - l.toNat) fun n' => fN (cap - l.toNat) fun c' => k (.sl i o' n' c')) false
    | .slE i => cond (decide (h <= 0)) (k (.slE i)) false
    | .slo i o _ d => match s.h.get i with
      | some (.row cs z true) => cond (Nat.beq z size && (Nat.beq (d * size) o && Nat.ble (o + h.toNat * size) cs.length))
          (match l.toNat with
            | 0 => fN h.toNat fun n' => k (.slo i o n' d)
            | m + 1 => cond (Nat.blt (o + (m + 1) * size) cs.length) (fN (o + (m + 1) * size) fun o' => fN (h.toNat - (m + 1)) fun n' => fN (d + (m + 1)) fun d' => k (.slo i o' n' d'))
              (cond (Nat.beq (h.toNat - (m + 1)) 0) (k (.slE i)) false)) false
      | _ => false
    | _ => false) false
def vX (x : AV) (size : Nat) (l h m : Int) (s : St) (k : AV -> Bool) : Bool :=
  cond (decide (0 <= l) && (decide (l <= h) && decide (h <= m))) (match x with
    | .sl0 => cond (decide (m <= 0)) (k .sl0) false
    | .sl i o _ cap => cond (decide (m <= (cap : Int))) (fN (cond (Nat.beq m.toNat l.toNat) o (o + l.toNat * size)) fun o' => fN (h.toNat - l.toNat) fun n' => fN (m.toNat - l.toNat) fun c' => k (.sl i o' n' c')) false
    | .slo i o _ d => match s.h.get i with
      | some (.row cs z true) => cond (Nat.beq z size && (Nat.beq (d * size) o && Nat.ble (o + m.toNat * size) cs.length))
          (fN (cond (Nat.beq m.toNat l.toNat) o (o + l.toNat * size)) fun o' => fN (h.toNat - l.toNat) fun n' => fN (m.toNat - l.toNat) fun c' => k (.sl i o' n' c')) false
      | _ => false
    | _ => false) false
def pV (P : Program) (t : TypeId) (x : AV) (ρ : Operand -> AV) (lo hi mx : Option Operand) (s : St) (k : AV -> Bool) : Bool :=
  match P.underlying t with
  | some .string => match x, mx with
    | .str b, none => ni ρ lo 0 fun l => ni ρ hi (b.size : Int) fun h => cond (decide (0 <= l) && (decide (l <= h) && decide (h <= (b.size : Int)))) (k (.str ⟨⟨(b.data.toList.take h.toNat).drop l.toNat⟩⟩)) false
    | _, _ => false
  | some (.slice e) => match au P e, qx x with
    | some size, some n => cond (Nat.blt 0 size) (match mx with
      | none => ni ρ lo 0 fun l => ni ρ hi (n : Int) fun h => BK x size l h s k
      | some m => match hi with
        | some _ => ni ρ lo 0 fun l => ni ρ hi 0 fun h => ni ρ (some m) 0 fun m' => vX x size l h m' s k
        | none => false) false
    | _, _ => false
  | some (.array n e) => match x, au P e, mx with
    | .ptr i o, some size, none => ni ρ lo 0 fun l => ni ρ hi (n : Int) fun h => cond (decide (0 <= l) && (decide (l <= h) && decide (h <= (n : Int))))
        (fN (cond (Nat.beq n l.toNat) o (o + l.toNat * size)) fun o' => fN (h.toNat - l.toNat) fun n' => fN (n - l.toNat) fun c' => k (.sl i o' n' c')) false
    | _, _, _ => false
  | _ => false
def Ji : List AV -> Option (List UInt8)
  | [] => some []
  | .int .u8 (.ofNat n) :: r => cond (Nat.blt n 256) (match Ji r with
    | some l => some (UInt8.ofNat n :: l)
    | none => none) none
  | _ => none
def I9 (l : List UInt8) : List AV := l.map fun b => .int .u8 (.ofNat b.toNat)
def vw (P : Program) (sd d : TypeId) (x : AV) (s : St) (k : AV -> St -> Bool) : Bool :=
  match P.underlying sd, P.underlying d with
  | some (.slice e), some .string => match P.underlying e, qx x with
    | some (.int .u8), some n => match IZ s 1 n x with
      | some cs => match Ji cs with
        | some l => k (.str ⟨⟨l⟩⟩) s
        | none => false
      | none => false
    | _, _ => false
  | some .string, some (.slice e) => match P.underlying e, x with
    | some (.int .u8), .str b => cond (Nat.ble b.size (2 ^ 62)) (iT s (.row (I9 b.data.toList) 1 true) fun i s' => k (.slo i 0 b.size 0) s') false
    | _, _ => false
  | some (.slice _), some (.slice e) => match P.underlying e, Nat.beq sd d, x with
    | some (.int .u8), true, .sl i _ _ _ => match s.h.get i with
      | some (.row _ _ _) => k x s
      | _ => false
    | _, _, _ => false
  | some _, some (.int kd) => match x with
    | .int _ n => fI (kd.wrap n) fun n => k (.int kd n) s
    | _ => false
  | some _, some .string => match x with
    | .str b => k (.str b) s
    | _ => false
  | _, _ => false
def rF (d : TypeDesc) (size off : Nat) (cs : List AV) (k : AV -> Bool) : Bool :=
  cond (iP d) (k (.agg ((cs.drop off).take size))) (match cs[off]? with
    | some v => k v
    | none => false)
def cellsA : AV -> List AV
  | .agg cs => cs
  | v => [v]
def yO (cs : List AV) (off : Nat) (vs : List AV) : List AV := cs.take off ++ (vs ++ cs.drop (off + vs.length))
def nM (place : Nat -> Option (Nat × Nat)) : List (Nat × AV) -> List AV -> Option (List AV)
  | [], cs => some cs
  | (i, v) :: r, cs => match place i with
    | some (off, size) => cond (Nat.beq (cellsA v).length size && Nat.ble (off + size) cs.length) (nM place r (yO cs off (cellsA v))) none
    | none => none
def uF : List (Nat × AV) -> List AV -> Option (List AV)
  | [], cs => some cs
  | (i, v) :: r, cs => cond (Nat.blt i cs.length) (uF r (cs.set i v)) none
def iF (P : Program) (e : TypeId) : Option (List AV) :=
  match aP P e with
  | some z => gZ z
  | none => none
def qL (P : Program) (kt : TypeId) (key : Value) : List (AV × AV × Nat) -> Nat -> Option (Option (Nat × AV × AV))
  | [], _ => some none
  | (q, v, _) :: es, i => match uJ q with
    | some q' => match uy P 16 kt key q' with
      | some true => some (some (i, q, v))
      | some false => qL P kt key es (i + 1)
      | none => none
    | none => none
def zI (P : Program) (kt : TypeId) (key : AV) : Option Value :=
  match uJ key with
  | some v => cond (ng v && (uy P 16 kt v v).isSome) (some v) none
  | none => none
def Df (s : St) (m : AV) : Option (List (AV × AV × Nat) × Nat) :=
  match m with
  | .map r => match s.h.get r with
    | some (.map es c) => some (es, c)
    | _ => none
  | _ => none
def AU (P : Program) (kt : TypeId) (m key : AV) (z : AV) (s : St) (k : AV -> Bool -> Bool) : Bool :=
  match zI P kt key with
  | some kv => match m with
    | .map0 => k z false
    | m => match Df s m with
      | some (es, _) => match qL P kt kv es 0 with
        | some (some (_, _, v)) => k v true
        | some none => k z false
        | none => false
      | none => false
  | none => false
mutual
def iM : AV -> AV -> Bool
  | .int k n, .int k' n' => iR k k' && n == n'
  | .bool a, .bool b => a == b
  | .str a, .str b => EY a b
  | .ptr0, .ptr0 => true
  | .ptr i o, .ptr i' o' => Nat.beq i i' && Nat.beq o o'
  | .sl0, .sl0 => true
  | .sl i o l c, .sl i' o' l' c' => Nat.beq i i' && (Nat.beq o o' && (Nat.beq l l' && Nat.beq c c'))
  | .slo i o l c, .slo i' o' l' c' => Nat.beq i i' && (Nat.beq o o' && (Nat.beq l l' && Nat.beq c c'))
  | .map0, .map0 => true
  | .map r, .map r' => Nat.beq r r'
  | .fn f a b, .fn f' a' b' => Nat.beq f f' && (dW a a' && dW b b')
  | .yld l, .yld l' => Nat.beq l l'
  | .agg a, .agg b => dW a b
  | .aY a, .aY b => dW a b
  | .nilF, .nilF => true
  | .nilI, .nilI => true
  | .ifc t v, .ifc t' v' => Nat.beq t t' && iM v v'
  | _, _ => false
def dW : List AV -> List AV -> Bool
  | [], [] => true
  | a :: l, b :: m => iM a b && dW l m
  | _, _ => false
end
def CS (P : Program) (kt : TypeId) (m key val : AV) (s : St) (k : St -> Bool) : Bool :=
  match zI P kt key with
  | some kv => match m with
    | .map r => match s.h.get r with
      | some (.map es c) => match qL P kt kv es 0 with
        | some (some (i, q, _)) => cond (iM q key) (match es[i]? with
          | some (_, _, b) => iI s r (.map (es.set i (key, val, b)) c) k
          | none => false) false
        | some none => iI s r (.map (es ++ [(key, val, c)]) (c + 1)) k
        | none => false
      | _ => false
    | _ => false
  | none => false
def BO (P : Program) (kt : TypeId) (m key : AV) (s : St) (k : St -> Bool) : Bool :=
  match zI P kt key with
  | some kv => match m with
    | .map0 => k s
    | .map r => match s.h.get r with
      | some (.map es c) => match qL P kt kv es 0 with
        | some (some (i, _, _)) => iI s r (.map (es.eraseIdx i) c) k
        | some none => k s
        | none => false
      | _ => false
    | _ => false
  | none => false
def Iw (b : Nat) : List Nat -> Bool
  | [] => false
  | x :: r => cond (Nat.beq x b) true (Iw b r)
def wR (since : Nat) (seen : List Nat) : List (AV × AV × Nat) -> List (AV × AV × Nat)
  | [] => []
  | e :: es => cond (Iw e.2.2 seen) (wR since seen es) (e :: wR since seen es)
def lu (n : Nat) : List (AV × AV × Nat) -> Bool
  | [] => true
  | e :: es => Nat.blt e.2.2 n && lu n es
def vY (q : AV) (s : St) (k : AV -> St -> Bool) : Bool :=
  match q with
  | .ptr i 0 => match s.h.get i with
    | some (.iter none _ _ _) => k (.aY [.bool false]) s
    | some (.iter (some m) since seen _) => match s.h.get m with
      | some (.map es c) => cond (lu since es && Nat.ble since c) (match wR since seen es with
          | [] => k (.aY [.bool false]) s
          | [(a, b, n)] => iI s i (.iter (some m) since (seen ++ [n]) c) fun s' => k (.aY [.bool true, a, b]) s'
          | _ => false) false
      | _ => false
    | _ => false
  | _ => false
def mX (n : Nat) : List (AV × AV × Nat) -> Option (AV × AV)
  | [] => none
  | e :: es => cond (Nat.beq e.2.2 n) (some (e.1, e.2.1)) (mX n es)
def uH : List (AV × AV × Nat) -> Bool
  | [] => true
  | e :: es => (match mX e.2.2 es with
    | none => true
    | some _ => false) && uH es
def BD : List Nat -> Option Nat
  | [] => none
  | [x] => some x
  | _ :: r => BD r
def pJ (q : AV) (s : St) (k : AV -> Bool) : Bool :=
  match q with
  | .ptr i 0 => match s.h.get i with
    | some (.iter (some m) _ seen c) => match s.h.get m, BD seen with
      | some (.map es c'), some n => cond (uH es && Nat.beq c c') (match mX n es with
        | some (a, b) => k (.aY [a, b])
        | none => false) false
      | _, _ => false
    | _ => false
  | _ => false
def pX (mx : Bool) : Int -> List AV -> IntKind -> (AV -> Bool) -> Bool
  | x, [], k, f => fI x fun x => f (.int k x)
  | x, .int _ y :: r, k, f => pX mx (cond mx (cond (decide (y > x)) y x) (cond (decide (y < x)) y x)) r k f
  | _, _ :: _, _, _ => false
def Il (P : Program) (b : Builtin) (ts : List TypeId) (args : List AV) (s : St) (k : AV -> St -> Bool) : Bool :=
  match b with
  | .len => match ts, args with
    | [t], [x] => match P.underlying t, x with
      | some .string, .str b => fN b.size fun n => k (.int .i64 (.ofNat n)) s
      | some (.array n _), _ => k (.int .i64 (.ofNat n)) s
      | some (.slice _), x => match qx x with
        | some n => k (.int .i64 (.ofNat n)) s
        | none => false
      | some (.map _ _), .map0 => k (.int .i64 (.ofNat 0)) s
      | some (.map _ _), .map r => match s.h.get r with
        | some (.map es _) => fN es.length fun n => k (.int .i64 (.ofNat n)) s
        | _ => false
      | _, _ => false
    | _, _ => false
  | .cap => match ts, args with
    | [t], [x] => match P.underlying t, x with
      | some (.slice _), .sl0 => k (.int .i64 (.ofNat 0)) s
      | some (.slice _), .sl _ _ _ c => k (.int .i64 (.ofNat c)) s
      | _, _ => false
    | _, _ => false
  | .max => match args with
    | .int kd x :: r => pX true x r kd fun v => k v s
    | _ => false
  | .min => match args with
    | .int kd x :: r => pX false x r kd fun v => k v s
    | _ => false
  | .append => match ts, args with
    | [t, t'], [x, y] => match P.underlying t, P.underlying t' with
      | some (.slice e), some d => match au P e, iY P e, aP P e with
        | some size, some bytes, some z => match d with
          | .slice _ => match qx y with
            | some n => match IZ s size n y with
              | some vs => sV size bytes z.length x n vs s k
              | none => false
            | none => false
          | .string => match y with
            | .str b => sV size bytes z.length x b.size (I9 b.data.toList) s k
            | _ => false
          | .int _ => match y, gZ z with
            | .int _ (.ofNat n), some za => cond (Nat.beq z.length size && (Nat.ble (n * bytes) (2 ^ 46) && Nat.ble n (2 ^ 62))) (sV size bytes z.length x n (wL za n) s k) false
            | _, _ => false
          | _ => false
        | _, _, _ => false
      | _, _ => false
    | _, _ => false
  | .copy => match ts, args with
    | [t, _], [x, y] => match P.underlying t with
      | some (.slice e) => match au P e, qx x, qx y with
        | some size, some n, some m => match IZ s size (Nat.min m n) y with
          | some vs => match x with
            | .sl i o _ _ => AZ s i o vs fun s' => k (.int .i64 (.ofNat (Nat.min m n))) s'
            | .slo i o _ _ => AZ s i o vs fun s' => k (.int .i64 (.ofNat (Nat.min m n))) s'
            | .sl0 => k (.int .i64 (.ofNat 0)) s
            | _ => false
          | none => false
        | _, _, _ => false
      | _ => false
    | _, _ => false
  | .clear => match ts, args with
    | [t], [x] => match P.underlying t with
      | some (.slice e) => match au P e, iF P e, x with
        | some size, some z, .sl i o n _ => cond (Nat.beq z.length size) (AZ s i o (wL z n) fun s' => k (.aY []) s') false
        | some size, some z, .slo i o n _ => cond (Nat.beq z.length size) (AZ s i o (wL z n) fun s' => k (.aY []) s') false
        | some size, some z, .sl0 => cond (Nat.beq z.length size) (k (.aY []) s) false
        | _, _, _ => false
      | _ => false
    | _, _ => false
  | .delete => match ts, args with
    | [t, _], [m, key] => match P.underlying t with
      | some (.map kt _) => BO P kt m key s fun s' => k (.aY []) s'
      | _ => false
    | _, _ => false
  | _ => false
def Gh : List AV -> AV
  | [v] => v
  | vs => .aY vs
section
variable (P : Program)
def yU (c a b : AV) (s : St) (k : AV -> St -> Bool) : Bool :=
  match c with
  | .bool t => cond t (k a s) (k b s)
  | _ => false
def sO (e : TypeId) (s : St) (k : AV -> St -> Bool) : Bool :=
  match iF P e with
  | some z => iT s (.row z 1 false) fun i s' => k (.ptr i 0) s'
  | none => false
def Eo (e : TypeId) (x : AV) (s : St) (k : AV -> St -> Bool) : Bool :=
  match shapeOf P e with
  | some (.one _) => cond (one x) (iT s (.row [x] 1 false) fun i s' => k (.ptr i 0) s') false
  | some (.agg _) => match x with
    | .agg cs => iT s (.row cs 1 false) fun i s' => k (.ptr i 0) s'
    | _ => false
  | none => false
def t_ (t : TypeId) (ps : List (Nat × AV)) (k : AV -> Bool) : Bool :=
  match iF P t, P.underlying t with
  | some z, some (.struct fs) => match placesOf P fs.toList with
    | some pl => match nM (fun i => pl[i]?) ps z with
      | some cs => k (.agg cs)
      | none => false
    | none => false
  | some z, some (.array _ e) => match au P e with
    | some size => match nM (fun i => some (i * size, size)) ps z with
      | some cs => k (.agg cs)
      | none => false
    | none => false
  | _, _ => false
def oI (t : TypeId) (n : Nat) (ps : List (Nat × AV)) (s : St) (k : AV -> St -> Bool) : Bool :=
  match P.underlying t with
  | some (.slice e) => match au P e, iF P e with
    | some size, some z => cond (Nat.ble (n * size) 4096 && Nat.beq z.length size)
      (cond (rJ (shapeOf P e)) (cond (Nat.beq size 1 && iq (ps.map fun p => p.2)) (match uF ps (wL z n) with
       | some cs => iT s (.row cs size false) fun i s' => k (.sl i 0 n n) s'
       | none => false) false)
       (match nM (fun i => some (i * size, size)) ps (wL z n) with
       | some cs => iT s (.row cs size false) fun i s' => k (.sl i 0 n n) s'
       | none => false)) false
    | _, _ => false
  | _ => false
def I_ (t : TypeId) (x : AV) (s : St) (k : AV -> St -> Bool) : Bool :=
  match x, shapeOf P t, au P t with
  | .ptr i a, some (.one kd), some n => cond (Nat.beq 1 n) (match Dx s i a 1 with
    | some [v] => cond (Ea kd v) (k v s) false
    | _ => false) false
  | .ptr i a, some (.agg ks), some n => cond (Nat.beq ks.length n) (match Dx s i a n with
    | some vs => cond (qj ks vs) (k (.agg vs) s) false
    | none => false) false
  | _, _, _ => false
def Ja (t : TypeId) (x y : AV) (s : St) (k : AV -> St -> Bool) : Bool :=
  match x, shapeOf P t, au P t with
  | .ptr i a, some (.one _), some n => cond (Nat.beq n 1) (AZ s i a [y] fun s' => k (.aY []) s') false
  | .ptr i a, some (.agg _), some n => match y with
    | .agg cs => cond (Nat.beq cs.length n) (AZ s i a cs fun s' => k (.aY []) s') false
    | _ => false
  | _, _, _ => false
def Jt (x : AV) (k : AV -> Bool) : Bool :=
  match x with
  | .ptr i a => k (.ptr i a)
  | _ => false
def Gj (fn : Fn) (first cap : List AV) (k : AV -> Bool) : Bool :=
  match fn with
  | .func f => k (.fn f first cap)
  | _ => false
def yV (t : TypeId) (m key : AV) (c : Bool) (s : St) (k : AV -> St -> Bool) : Bool :=
  match P.underlying t with
  | some (.map kt et) => match shapeOf P et, bW P et with
    | some sh, some z => match jH z with
      | some za => AU P kt m key za s fun v b => cond (F8 sh v) (cond c (k (.aY [v, .bool b]) s) (k v s)) false
      | none => false
    | _, _ => false
  | _ => false
def Hf (t : TypeId) (m key v : AV) (s : St) (k : AV -> St -> Bool) : Bool :=
  match P.underlying t with
  | some (.map kt _) => CS P kt m key v s fun s' => k (.aY []) s'
  | _ => false
def zA (t : TypeId) (m key : AV) (s : St) (k : AV -> St -> Bool) : Bool :=
  match P.underlying t with
  | some (.map kt et) => match bW P et with
    | some z => match jH z, zI P kt key, m with
      | some za, some kv, .map r => match s.h.get r with
        | some (.map es c) => match qL P kt kv es 0 with
          | some (some (i, q, v)) => cond (iM q key) (match es[i]? with
            | some (_, v', b) => iI s r (.map (es.set i (key, v', b)) c) fun s' => k (.aY [v', .int .i64 (.ofNat b)]) s'
            | none => false) false
          | some none => iI s r (.map (es ++ [(key, za, c)]) (c + 1)) fun s' => k (.aY [za, .int .i64 (.ofNat c)]) s'
          | none => false
        | _ => false
      | _, _, _ => false
    | none => false
  | _ => false
def EJ (n : Nat) : List (AV × AV × Nat) -> Option Nat
  | [] => none
  | e :: es => cond (Nat.beq e.2.2 n) (some 0) (match EJ n es with
    | some i => some (i + 1)
    | none => none)
def Fp (m st v : AV) (s : St) (k : AV -> St -> Bool) : Bool :=
  match m, st with
  | .map r, .int _ (.ofNat n) => match s.h.get r with
    | some (.map es c) => match EJ n es with
      | some i => match es[i]? with
        | some (q, _, b) => iI s r (.map (es.set i (q, v, b)) c) fun s' => k (.aY []) s'
        | none => false
      | none => false
    | _ => false
  | _, _ => false
def GI (s : St) (k : AV -> St -> Bool) : Bool := iT s (.map [] 0) fun i s' => k (.map i) s'
def F6 (t : TypeId) (l c : AV) (s : St) (k : AV -> St -> Bool) : Bool :=
  match P.underlying t, l, c with
  | some (.slice e), .int _ (.ofNat n), .int _ (.ofNat m) => match au P e, iY P e, iF P e with
    | some size, some bytes, some z => cond (Nat.beq z.length size && (Nat.ble n m && (Nat.ble m (2 ^ 62) && Nat.ble (bytes * m) (2 ^ 48)))) (iT s (.row (wL z m) size false) fun i s' => k (.sl i 0 n m) s') false
    | _, _, _ => false
  | _, _, _ => false
def Jg (t : TypeId) (x : AV) (f : Nat) (k : AV -> Bool) : Bool :=
  match P.underlying t, x with
  | some (.struct fs), .ptr i a => match fE P fs f with
    | some (off, size) => cond (Nat.beq size 0) false (fN (a + off) fun a' => k (.ptr i a'))
    | none => false
  | _, _ => false
def Jd (t : TypeId) (x : AV) (f : Nat) (k : AV -> Bool) : Bool :=
  match P.underlying t, x with
  | some (.struct fs), .agg cs => match fs.toList[f]? with
    | some fd => match P.underlying fd.type, au P fd.type with
      | some d, some size => rF d size fd.offset cs k
      | _, _ => false
    | none => false
  | _, _ => false
def Je (t : TypeId) (x i : AV) (k : AV -> Bool) : Bool :=
  match P.underlying t, x, i with
  | some (.slice e), x, .int _ (.ofNat i) => match au P e, x with
    | some size, .sl b o len _ => cond (Nat.blt i len) (fN (o + i * size) fun a => k (.ptr b a)) false
    | some size, .slo b o len _ => cond (Nat.blt i len) (fN (o + i * size) fun a => k (.ptr b a)) false
    | _, _ => false
  | some (.array n e), .ptr b o, .int _ (.ofNat i) => match au P e with
    | some size => cond (Nat.blt i n) (fN (o + i * size) fun a => k (.ptr b a)) false
    | none => false
  | _, _, _ => false
def Jf (t : TypeId) (x i : AV) (k : AV -> Bool) : Bool :=
  match P.underlying t, x, i with
  | some .string, .str b, .int _ (.ofNat i) => match b.data.toList[i]? with
    | some c => fN c.toNat fun n => k (.int .u8 (.ofNat n))
    | none => false
  | some (.array n e), .agg cs, .int _ (.ofNat i) => match P.underlying e, au P e with
    | some d, some size => cond (Nat.blt i n) (rF d size (i * size) cs k) false
    | _, _ => false
  | _, _, _ => false
def Jh (ty : TypeId) (t : AV) (i : Nat) (k : AV -> Bool) : Bool :=
  match t with
  | .aY vs => match vs[i]? with
    | some v => match shapeOf P ty with
      | some (.one kd) => cond (Ea kd v) (k v) false
      | _ => k v
    | none => false
  | _ => false
def Jc (t : TypeId) (x : AV) (s : St) (k : AV -> St -> Bool) : Bool :=
  match P.underlying t, x with
  | some (.map _ _), .map0 => iT s (.iter none 0 [] 0) fun i s' => k (.ptr i 0) s'
  | some (.map _ _), .map r => match s.h.get r with
    | some (.map _ c) => iT s (.iter (some r) c [] c) fun i s' => k (.ptr i 0) s'
    | _ => false
  | _, _ => false
def Hw (cb : Cb) (ty : TypeId) (f : FuncId) (args : List AV) (s : St) (k : AV -> St -> Bool) : Bool :=
  match eH P ty with
  | some sh => cond (bK P f) (cb.call f args s fun rs s' => cond (lY sh rs) (k (Gh rs) s') false) false
  | none => false
def Jl (cb : Cb) (ty : TypeId) (v : AV) (args : List AV) (s : St) (k : AV -> St -> Bool) : Bool :=
  match eH P ty, v with
  | some sh, .fn f first cap => cond (bK P f) (cb.call f (first ++ (args ++ cap)) s fun rs s' => cond (lY sh rs) (k (Gh rs) s') false) false
  | some sh, .yld l => cb.yld l args s fun b s' => cond (lY sh [.bool b]) (k (.bool b) s') false
  | _, _ => false
def Jv (cb : Cb) (ty : TypeId) (x : AV) (name : String) (args : List AV) (s : St) (k : AV -> St -> Bool) : Bool :=
  match x with
  | .ifc t v => match P.underlying t, tY P t name with
    | some d, some f => cond (mQ d) false (Hw P cb ty f (v :: args) s k)
    | _, _ => false
  | _ => false
def D_ (t : TypeId) (x : AV) (k : AV -> Bool) : Bool :=
  match P.underlying t with
  | some (.interface _) => false
  | some _ => k (.ifc t x)
  | none => false
def yI (op : BinOp) (t : TypeId) (x y : AV) (k : AV -> Bool) : Bool :=
  match fG op, P.underlying t, x, y with
  | some s, some (.interface _), .nilI, .nilI => k (.bool s)
  | some s, some (.interface _), .ifc _ _, .nilI => fB (!s) fun s => k (.bool s)
  | _, _, _, _ => false
def Eb (op : BinOp) (t : TypeId) (ρ : Operand -> AV) (x y : Operand) (k : AV -> Bool) : Bool :=
  match y with
  | .const .nilIface => yI P op t (ρ x) (ρ (.const .nilIface)) k
  | y => Dc P op t (ρ x) (ρ y) k
def Jb (t : TypeId) (x : AV) (ok : Bool) (k : AV -> Bool) : Bool :=
  match P.underlying t, bW P t with
  | some (.interface _), _ => false
  | some _, some z => match x with
    | .ifc t' v => cond (Nat.beq t' t) (k (cond ok (.aY [v, .bool true]) v)) (cond ok (match jH z with
      | some a => k (.aY [a, .bool false])
      | none => false) false)
    | .nilI => cond ok (match jH z with
      | some a => k (.aY [a, .bool false])
      | none => false) false
    | _ => false
  | _, _ => false
def Jo (cb : Cb) (ty : TypeId) (ρ : Operand -> AV) (c : Callee) (ts : List TypeId) (args : List AV) (s : St) (k : AV -> St -> Bool) : Bool :=
  match c with
  | .value x => match x with
    | .func f => Hw P cb ty f args s k
    | x => Jl P cb ty (ρ x) args s k
  | .builtin b => Il P b ts args s k
  | .invoke x name => Jv P cb ty (ρ x) name args s k
def opC (cb : Cb) (op : Op) (ty : TypeId) (ρ : Operand -> AV) (s : St) (k : AV -> St -> Bool) : Bool :=
  match op with
  | .move x => k (ρ x) s
  | .assign x => k (ρ x) s
  | .pick c a b => yU (ρ c) (ρ a) (ρ b) s k
  | .alloc e => sO P e s k
  | .box e x => Eo P e (ρ x) s k
  | .build t ps => t_ P t (ps.toList.map fun p => (p.1, ρ p.2)) fun v => k v s
  | .buildSlice t n ps => oI P t n (ps.toList.map fun p => (p.1, ρ p.2)) s k
  | .load t x => I_ P t (ρ x) s k
  | .store t x y => Ja P t (ρ x) (ρ y) s k
  | .nilCheck x => Jt (ρ x) fun v => k v s
  | .binOp op t x y _ => Eb P op t ρ x y fun v => k v s
  | .unOp op _ x => Iq op (ρ x) fun v => k v s
  | .convert sd d x => vw P sd d (ρ x) s k
  | .makeFunc fn first cap => Gj fn (first.toList.map ρ) (cap.toList.map ρ) fun v => k v s
  | .lookup t x i c => yV P t (ρ x) (ρ i) c s k
  | .mapUpdate t x i v => Hf P t (ρ x) (ρ i) (ρ v) s k
  | .mapEntry t x i => zA P t (ρ x) (ρ i) s k
  | .entryStore _ x st v => Fp (ρ x) (ρ st) (ρ v) s k
  | .makeMap _ none => GI s k
  | .makeSlice t l c => F6 P t (ρ l) (ρ c) s k
  | .slice t x lo hi mx => pV P t (ρ x) ρ lo hi mx s fun v => k v s
  | .fieldAddr t x f => Jg P t (ρ x) f fun v => k v s
  | .field t x f => Jd P t (ρ x) f fun v => k v s
  | .indexAddr t x i => Je P t (ρ x) (ρ i) fun v => k v s
  | .index t x i => Jf P t (ρ x) (ρ i) fun v => k v s
  | .extract t i => Jh P ty (ρ t) i fun v => k v s
  | .range t x => Jc P t (ρ x) s k
  | .next x false => vY (ρ x) s k
  | .entry x => pJ (ρ x) s fun v => k v s
  | .makeInterface t x => D_ P t (ρ x) fun v => k v s
  | .typeAssert x _ t ok => Jb P t (ρ x) ok fun v => k v s
  | .call c => Jo P cb ty ρ c.callee c.argTypes.toList (c.args.toList.map ρ) s k
  | _ => false
end
end
end Gp.Rn
end
section
namespace Gp.Rn
open Go Gp
noncomputable section
mutual
def Hz : GL -> GL -> Bool
  | .no, .no => true
  | .ret, .ret => true
  | .ex a, .ex b => Nat.beq a b
  | _, _ => false
end
def IW : LoopState -> LoopState -> Bool
  | .ready, .ready => true
  | .busy, .busy => true
  | .done, .done => true
  | .exhausted, .exhausted => true
  | _, _ => false
def Ez : List (AV × AV × Nat) -> List (AV × AV × Nat) -> Bool
  | [], [] => true
  | (a, b, n) :: l, (a', b', n') :: l' => iM a a' && (iM b b' && (Nat.beq n n' && Ez l l'))
  | _, _ => false
def EZ : List Nat -> List Nat -> Bool
  | [], [] => true
  | a :: l, b :: l' => Nat.beq a b && EZ l l'
  | _, _ => false
def Jy : Option Nat -> Option Nat -> Bool
  | none, none => true
  | some a, some b => Nat.beq a b
  | _, _ => false
def JC (a b : Bool) : Bool := cond a b (!b)
def xY : AB -> AB -> Bool
  | .row cs z p, .row cs' z' p' => dW cs cs' && (Nat.beq z z' && JC p p')
  | .map es c, .map es' c' => Ez es es' && Nat.beq c c'
  | .iter m a l c, .iter m' a' l' c' => Jy m m' && (Nat.beq a a' && (EZ l l' && Nat.beq c c'))
  | .loop a j, .loop a' j' => IW a a' && Hz j j'
  | .mark, .mark => true
  | .dead, .dead => true
  | _, _ => false
def qZ : Tr -> Tr -> Bool
  | .lf, .lf => true
  | .nd v l r, .nd v' l' r' => (match v, v' with
    | none, none => true
    | some a, some b => xY a b
    | _, _ => false) && (qZ l l' && qZ r r')
  | _, _ => false
def nP (e e' : AE) : List (Nat × AV) -> Bool
  | [] => true
  | (t, _) :: r => (match e.get t, e'.get t with
    | some a, some b => iM a b
    | _, _ => false) && nP e e' r
structure yZ where
  nt : Nat
  ps : List Nat
  ks : List Shape
  x : iZ
  y : iZ
  assign : Code
  body : Code
  env : AE
abbrev jZ := List (Nat × yZ)
def jZ.get : jZ -> Nat -> Option yZ
  | [], _ => none
  | (l, i) :: r, m => cond (Nat.beq l m) (some i) (jZ.get r m)
abbrev KC := Exit -> AE -> List Nat -> St -> Bool
abbrev RunT := Nat -> Code -> Option Nat -> iZ -> AE -> List Nat -> jZ -> St -> KC -> Bool
section
variable (P : Program) (cb : Cb) (nt : Nat)
def Js : Op -> Option Operand
  | .move x => some x
  | .assign x => some x
  | _ => none
def vT (o : Oper) (e : AE) (s : St) (k : AE -> St -> Bool) : Bool :=
  match Js o.op with
  | some x => match Fv e x with
    | some v => cond (bH nt o.dst) (k (e.put o.dst v) s) false
    | none => false
  | none => cond (bH nt o.dst) (match evs e o.op.operands.toList with
    | some _ => opC P cb o.op o.type (fun x => (Fv e x).getD (.aY [])) s fun v s' => k (e.put o.dst v) s'
    | none => false) false
def kJ (ops : List Oper) (o : Oper) (e : AE) (s : St) (k : AE -> St -> Bool) : Bool :=
  match o.guard with
  | none => vT P cb nt o e s k
  | some (j, want) => match (ops[j]?).bind (·.dst) with
    | some d => match e.get d with
      | some (.bool t) => cond (t == want) (vT P cb nt o e s k) (cond (bH nt o.dst) (k (e.put o.dst (.aY [])) s) false)
      | some (.aY _) => cond (bH nt o.dst) (k (e.put o.dst (.aY [])) s) false
      | _ => false
    | none => false
def Af (ops : List Oper) (l : List Oper) : AE -> St -> (AE -> St -> Bool) -> Bool :=
  List.rec (motive := fun _ => AE -> St -> (AE -> St -> Bool) -> Bool) (fun e s k => k e s) (fun o _ ih e s k => kJ P cb nt ops o e s fun e' s' => ih e' s' k) l
theorem opsC_cons (ops : List Oper) (o : Oper) (r : List Oper) (e : AE) (s : St) (k : AE -> St -> Bool) : Af P cb nt ops (o :: r) e s k = kJ P cb nt ops o e s fun e' s' => Af P cb nt ops r e' s' k := rfl
def uI (sh : Shape) (a v : AV) (s : St) : Bool :=
  match sh, a with
  | .one _, .ptr i o => match Dx s i o 1 with
    | some [u] => iM v u
    | _ => false
  | .agg _, .ptr i o => match v with
    | .agg vs => match Dx s i o vs.length with
      | some us => dW vs us
      | none => false
    | _ => false
  | _, _ => false
def kM (pb : Nat) (s : St) : List (Nat × Shape × AV × AV) -> Bool
  | [] => true
  | (i, sh, a, v) :: r => cond (Nat.testBit pb i) (kM pb s r) (uI sh a v s && kM pb s r)
def yL (ops : List Oper) (o : Oper) (e : AE) : Bool :=
  match o.guard with
  | none => true
  | some (j, want) => match (ops[j]?).bind (·.dst) with
    | some d => match e.get d with
      | some (.bool t) => t == want
      | some (.aY _) => false
      | _ => true
    | none => true
def CQ (ops : List Oper) (i : Nat) (o : Oper) (e e' : AE) (ld : List (Nat × Shape × AV × AV)) : Option (List (Nat × Shape × AV × AV)) :=
  match o.op, o.dst with
  | .load t x, some d => cond (yL ops o e) (match shapeOf P t with
    | some sh => match Fv e x, e'.get d with
      | some a, some v => some ((i, sh, a, v) :: ld)
      | _, _ => none
    | none => some ld) (some ld)
  | _, _ => some ld
def Ij : List (Nat × Nat) -> Nat -> Nat -> Nat
  | [], _, d => d
  | (i, n) :: r, j, d => cond (Nat.beq i j) n (Ij r j d)
abbrev KD := AE -> St -> List (Nat × Nat) -> Bool
abbrev Ew := Option (List (Nat × Nat)) -> List (Nat × Nat) -> List Nat -> List (Nat × Shape × AV × AV) -> AE -> St -> KD -> Bool
def kG (ops : List Oper) (pbs : List Nat) (prev : Ew) (l acc : List (Nat × Nat)) (done : List Nat) (ld : List (Nat × Shape × AV × AV)) (e : AE) (s : St) (k : KD) : List (Nat × Oper) -> Bool
  | [] => true
  | x :: r => kJ P cb nt ops x.2 e ⟨s.h, Ij l x.1 s.n⟩ (fun e' s' => cond (kM (pbs.getD x.1 0) s' ld) (prev (some l) acc (x.1 :: done) ld e' s' k) false) && kG ops pbs prev l acc done ld e s k r
def CW (ops : List Oper) (pbs : List Nat) (prev : Ew) (rp : Option (List (Nat × Nat))) (acc : List (Nat × Nat)) (done : List Nat) (ld : List (Nat × Shape × AV × AV)) (e : AE) (s : St) (k : KD) (i : Nat) (o : Oper) (es : List (Nat × Oper)) : Bool :=
  match rp with
  | none => kJ P cb nt ops o e s fun e' s' => cond (kM (pbs.getD i 0) s' ld) (prev none ((i, s.n) :: acc) (i :: done) ld e' s' fun e0 s0 acc0 =>
      kG P cb nt ops pbs prev acc0 [] done ld e s (fun e1 s1 _ => nP e0 e1 e0 && qZ s0.h s1.h) es && k e0 s0 acc0) false
  | some l => kG P cb nt ops pbs prev l acc done ld e s k ((i, o) :: es)
def qg (ops : List Oper) (pbs : List Nat) (prev : Ew) : Ew := fun rp acc done ld e s k =>
  match dR P done (enumFrom 0 ops) with
  | some (i, o) => kJ P cb nt ops o e s fun e' s' => match CQ P ops i o e e' ld with
    | some ld' => prev rp acc (i :: done) ld' e' s' k
    | none => false
  | none => match iK P done (enumFrom 0 ops) with
    | [] => cond (Nat.beq done.length ops.length) (k e s acc) false
    | (i, o) :: es => CW P cb nt ops pbs prev rp acc done ld e s k i o es
def qM (ops : List Oper) (pbs : List Nat) (n : Nat) : Ew :=
  Nat.rec (motive := fun _ => Ew) (fun _ _ _ _ _ _ _ => false) (fun _ prev => qg P cb nt ops pbs prev) n
end
def vP : List (Nat × Kind) -> AE -> Option AE
  | [], _ => some []
  | (t, kd) :: r, e => match e.get t with
    | some v => cond (Ea kd v) (match vP r e with
      | some l => some ((t, v) :: l)
      | none => none) none
    | none => none
def Bh : Nat -> List AV -> AE
  | _, [] => []
  | i, v :: vs => (i, v) :: Bh (i + 1) vs
def yS : List Nat -> List AV -> AE
  | [], _ => []
  | _ :: _, [] => []
  | s :: r, v :: vs => (s, v) :: yS r vs
def je : List Nat -> St -> (St -> Bool) -> Bool
  | [], s, k => k s
  | D :: ds, s, k => match s.h.get D with
    | some .mark => iI s D .dead fun s' => je ds s' k
    | _ => false
def qJ (P : Program) : List ResultVar -> AE -> St -> Option (List AV)
  | [], _, _ => some []
  | .tmp t :: r, e, s => match e.get t, qJ P r e s with
    | some v, some l => some (v :: l)
    | _, _ => none
  | .cell a t :: r, e, s => match e.get a, shapeOf P t, au P t with
    | some (.ptr i o), some (.one kd), some n => cond (Nat.beq 1 n) (match Dx s i o 1, qJ P r e s with
      | some [v], some l => cond (Ea kd v) (some (v :: l)) none
      | _, _ => none) none
    | some (.ptr i o), some (.agg ks), some n => cond (Nat.beq ks.length n) (match Dx s i o n, qJ P r e s with
      | some vs, some l => cond (qj ks vs) (some (.agg vs :: l)) none
      | _, _ => none) none
    | _, _, _ => none
structure pI where
  f : FuncId
  args : List AV
  s : St
  rs : List AV
  t : St
structure Tab where
  ann : Nat -> Option iZ
  memo : List pI
def oW : List pI -> FuncId -> List AV -> St -> Option (List AV × St)
  | [], _, _, _ => none
  | m :: r, f, args, s => cond (Nat.beq m.f f) (cond (Nat.beq m.s.n s.n) (cond (dW m.args args && qZ m.s.h s.h) (some (m.rs, m.t)) (oW r f args s)) (oW r f args s)) (oW r f args s)
section
variable (P : Program) (A : Tab) (prev : RunT)
def tJ (Γ : jZ) (f : FuncId) (args : List AV) (s : St) (k : List AV -> St -> Bool) : Bool :=
  match P.funcs[f]?, A.ann f with
  | some fn, some an => match fn.body with
    | some c => cond (Nat.ble args.length fn.ntmps) (prev fn.ntmps c none an (Bh 0 args) [] Γ s fun e env ds s' =>
      match e with
      | .normal => je ds s' fun s'' => match qJ P fn.results.toList env s'' with
        | some vs => k vs s''
        | none => false
      | .ret => je ds s' fun s'' => match qJ P fn.results.toList env s'' with
        | some vs => k vs s''
        | none => false
      | _ => false) false
    | none => false
  | _, _ => false
def gJ (Γ : jZ) (f : FuncId) (args : List AV) (s : St) (k : List AV -> St -> Bool) : Bool :=
  match oW A.memo f args s with
  | some (rs, t) => k rs t
  | none => tJ P A prev Γ f args s k
def cb0 : Cb := ⟨fun _ _ _ _ => false, fun _ _ _ _ => false⟩
def rC (nt : Nat) : Code -> iZ -> AE -> St -> (AE -> St -> Bool) -> Bool
  | .skip, _, e, s, k => k e s
  | .region _ ops draw, _, e, s, k => cond draw false (Af P cb0 nt ops.toList ops.toList e s k)
  | .seq a b, an, e, s, k => match an with
    | .seq x y => rC nt a x e s fun e' s' => rC nt b y e' s' k
    | _ => false
  | _, _, _, _, _ => false
def pU (Γ : jZ) (l : Nat) (args : List AV) (s : St) (k : Bool -> St -> Bool) : Bool :=
  match Γ.get l, s.h.get l with
  | some i, some (.loop .ready p) => cond (lY i.ks args) (rC P i.nt i.assign i.x (yS i.ps args ++ i.env) s fun env1 s1 => iI s1 l (.loop .busy p) fun s2 => prev i.nt i.body (some l) i.y env1 [] Γ s2 fun e _ _ s3 => match s3.h.get l with
        | some (.loop .busy p3) => cond (Hz p3 p) (match e with
          | .normal => iI s3 l (.loop .ready .no) fun s4 => k true s4
          | .ret => iI s3 l (.loop .done .ret) fun s4 => k false s4
          | .exit id => iI s3 l (.loop .done (.ex id)) fun s4 => k false s4
          | _ => false) false
        | _ => false) false
  | _, _ => false
def Cc (Γ : jZ) : Cb := ⟨gJ P A prev Γ, pU P prev Γ⟩
def Az (nt : Nat) (g : Operand) (ps : List Nat) (assign body : Code) (ks : List Shape) (x y : iZ) (env : AE) (ds : List Nat) (Γ : jZ) (m : Option Nat) (s : St) (k : KC) : Bool :=
  match Fv env g with
  | some (.fn f first cap) => cond (bK P f) (iT s (.loop .ready .no) fun l s1 =>
      gJ P A prev ((l, ⟨nt, ps, ks, x, y, assign, body, env⟩) :: Γ) f (first ++ (.yld l :: cap)) s1 fun rs s2 => match rs, s2.h.get l with
        | [], some (.loop st p) => cond (IW st .busy) false (iI s2 l .dead fun s3 =>
            match p with
            | .no => k .normal env (m.toList ++ ds) s3
            | .ret => k .ret env (m.toList ++ ds) s3
            | .ex id => cond (dV id (bV body)) (k (.exit id) env (m.toList ++ ds) s3) false)
        | _, _ => false) false
  | _ => false
def Ey (nt : Nat) (ops : List Oper) (draw : Bool) (env : AE) (ds : List Nat) (Γ : jZ) (s : St) (k : KC) : Bool :=
  cond draw (cond (jo ops (dK ops [])) (qM P (Cc P A prev Γ) nt ops (dK ops []) (ops.length + 1) none [] [] [] env s fun e s' _ => k .normal e ds s') false)
    (Af P (Cc P A prev Γ) nt ops ops env s fun e s' => k .normal e ds s')
def G8 (nt : Nat) (b : Code) (r : Option Nat) (y : iZ) (Γ : jZ) (k : KC) : KC := fun e env' ds' s' =>
  match e with
  | .normal => prev nt b r y env' ds' Γ s' k
  | e => k e env' ds' s'
def B_ (nt : Nat) (a b : Code) (r : Option Nat) (an : iZ) (env : AE) (ds : List Nat) (Γ : jZ) (s : St) (k : KC) : Bool :=
  match an with
  | .seq x y => prev nt a r x env ds Γ s (G8 prev nt b r y Γ k)
  | _ => false
def condC (nt : Nat) (c : Operand) (a b : Code) (r : Option Nat) (an : iZ) (env : AE) (ds : List Nat) (Γ : jZ) (s : St) (k : KC) : Bool :=
  match an with
  | .cond x y => match Fv env c with
    | some (.bool t) => cond t (prev nt a r x env ds Γ s k) (prev nt b r y env ds Γ s k)
    | _ => false
  | _ => false
def Gs (id : Nat) (k : KC) : KC := fun e env' ds' s' =>
  match e with
  | .exit id' => cond (Nat.beq id' id) (k .normal env' ds' s') (k (.exit id') env' ds' s')
  | e => k e env' ds' s'
def BX (nt : Nat) (id : Nat) (a : Code) (r : Option Nat) (an : iZ) (env : AE) (ds : List Nat) (Γ : jZ) (s : St) (k : KC) : Bool :=
  match an with
  | .blk x => prev nt a r x env ds Γ s (Gs id k)
  | _ => false
def DI (k : KC) : KC := fun e env' ds' s' =>
  match e with
  | .goto _ => false
  | e => k e env' ds' s'
abbrev Jm := AE -> List Nat -> St -> Bool
def oQ (nt : Nat) (a : Code) (r : Option Nat) (x : iZ) (st : List (Nat × Kind)) (base : AE) (Γ : jZ) (k : KC) (next : Jm) : Jm := fun l ds s =>
  prev nt a r x (l ++ base) ds Γ s fun e env' ds' s' => match e with
    | .normal => match vP st env' with
      | some l' => next l' (cond (aQ a) ds' ds) s'
      | none => false
    | e => k e env' ds' s'
def qV (nt : Nat) (a : Code) (r : Option Nat) (x : iZ) (st : List (Nat × Kind)) (base : AE) (Γ : jZ) (k : KC) (n : Nat) : Jm :=
  Nat.rec (motive := fun _ => Jm) (fun _ _ _ => false) (fun _ next => oQ prev nt a r x st base Γ k next) n
def HY (nt : Nat) (a : Code) (r : Option Nat) (an : iZ) (env : AE) (ds : List Nat) (Γ : jZ) (s : St) (k : KC) : Bool :=
  match an with
  | .loop st x => match vP st env with
    | some l => qV prev nt a r x st (AE.without (writes a) env) Γ k 1000000 l ds s
    | none => false
  | _ => false
def II (nt : Nat) (g : Operand) (ps : List Nat) (assign body : Code) (r : Option Nat) (an : iZ) (env : AE) (ds : List Nat) (Γ : jZ) (s : St) (k : KC) : Bool :=
  match an with
  | .rng ks x y => cond (!aQ assign && (Nat.beq ps.length ks.length && (jk ps && ps.all fun s => Nat.blt s nt)))
      (match r with
       | none => iT s .mark fun m s1 => Az P A prev nt g ps assign body ks x y env ds Γ (some m) s1 k
       | some l0 => match s.h.get l0 with
         | some (.loop _ _) => Az P A prev nt g ps assign body ks x y env ds Γ none s k
         | _ => false) false
  | _ => false
def zn : RunT := fun nt c r an env ds Γ s k =>
  match c with
  | .skip => k .normal env ds s
  | .label _ => k .normal env ds s
  | .ret => k .ret env ds s
  | .exit id => k (.exit id) env ds s
  | .region _ ops draw => Ey P A prev nt ops.toList draw env ds Γ s k
  | .seq a b => B_ prev nt a b r an env ds Γ s k
  | .cond c a b => condC prev nt c a b r an env ds Γ s k
  | .block id a => BX prev nt id a r an env ds Γ s k
  | .scope a => prev nt a r an env ds Γ s (DI k)
  | .loop a => HY prev nt a r an env ds Γ s k
  | .rangeFunc g ps assign body => II P A prev nt g ps.toList assign body r an env ds Γ s k
  | _ => false
end
def run (P : Program) (A : Tab) (n : Nat) : RunT :=
  Nat.rec (motive := fun _ => RunT) (fun _ _ _ _ _ _ _ _ _ => false) (fun _ prev => zn P A prev) n
def Ho (P : Program) (A : Tab) (n : Nat) (f : FuncId) (k : List AV -> St -> Bool) : Bool := gJ P A (run P A n) [] f [] ⟨.lf, 0⟩ k
end
end Gp.Rn
end
section
namespace Gp.Rn
open Go Gp
structure Loc where
  b : Nat
  c : Nat
  L : LoopState -> Option Code -> World -> Prop
abbrev Nm := Nat -> Option Loc
def Le (ρ ρ' : Nm) : Prop := ∀ i x, ρ i = some x -> ρ' i = some x
theorem Le.refl (ρ : Nm) : Le ρ ρ := fun _ _ h => h
theorem Le.trans {ρ ρ' ρ'' : Nm} (h : Le ρ ρ') (h' : Le ρ' ρ'') : Le ρ ρ'' := fun i x g => h' i x (h i x g)
mutual
inductive VR (ρ : Nm) : AV -> Value -> Prop
  | int (k n) : VR ρ (.int k n) (.int k n)
  | bool (b) : VR ρ (.bool b) (.bool b)
  | str (s) : VR ρ (.str s) (.string s)
  | ptr0 : VR ρ .ptr0 (.pointer none)
  | ptr {i o x} (h : ρ i = some x) : VR ρ (.ptr i o) (.pointer (some ⟨x.b, o, none⟩))
  | sl0 : VR ρ .sl0 (.slice none 0 0)
  | sl {i o n c x} (h : ρ i = some x) : VR ρ (.sl i o n c) (.slice (some ⟨x.b, o, none⟩) n c)
  | slo {i o n d x} (h : ρ i = some x) : VR ρ (.slo i o n d) (.slice (some ⟨x.b, o, none⟩) n (x.c - d))
  | slE {i x} (h : ρ i = some x) (o c) : VR ρ (.slE i) (.slice (some ⟨x.b, o, none⟩) 0 c)
  | map0 : VR ρ .map0 (.map none)
  | map {i x} (h : ρ i = some x) : VR ρ (.map i) (.map (some x.b))
  | fn (f) {a a' b b'} (h : bf ρ a a') (h' : bf ρ b b') : VR ρ (.fn f a b) (.func (.func f) ⟨a'⟩ ⟨b'⟩)
  | yld {i x} (h : ρ i = some x) : VR ρ (.yld i) (.func (.yield x.b) #[] #[])
  | agg {a a'} (h : bf ρ a a') : VR ρ (.agg a) (.agg ⟨a'⟩)
  | aY {a a'} (h : bf ρ a a') : VR ρ (.aY a) (.tuple ⟨a'⟩)
  | nilF : VR ρ .nilF .nilFunc
  | nilI : VR ρ .nilI .nilIface
  | ifc (t) {a v} (h : VR ρ a v) : VR ρ (.ifc t a) (.iface t v)
inductive bf (ρ : Nm) : List AV -> List Value -> Prop
  | nil : bf ρ [] []
  | cons {a v as vs} (h : VR ρ a v) (h' : bf ρ as vs) : bf ρ (a :: as) (v :: vs)
end
section
variable {ρ ρ' : Nm}
theorem VR.mono {a : AV} {v : Value} (h : VR ρ a v) (hl : Le ρ ρ') : VR ρ' a v := by
  refine VR.rec (motive_1 := fun a v _ => VR ρ' a v) (motive_2 := fun a v _ => bf ρ' a v) ?_ ?_ ?_ ?_ ?_ ?_ ?_ ?_ ?_ ?_ ?_ ?_ ?_ ?_ ?_ ?_ ?_ ?_ ?_ ?_ h
  · exact fun k n => .int k n
  · exact fun b => .bool b
  · exact fun b => .str b
  · exact .ptr0
  · exact fun h => .ptr (hl _ _ h)
  · exact .sl0
  · exact fun h => .sl (hl _ _ h)
  · exact fun h => .slo (hl _ _ h)
  · exact fun h o c => .slE (hl _ _ h) o c
  · exact .map0
  · exact fun h => .map (hl _ _ h)
  · exact fun f _ _ _ _ _ _ h h' => .fn f h h'
  · exact fun h => .yld (hl _ _ h)
  · exact fun _ h => .agg h
  · exact fun _ h => .aY h
  · exact .nilF
  · exact .nilI
  · exact fun t _ _ _ h => .ifc t h
  · exact .nil
  · exact fun _ _ h h' => .cons h h'
theorem bf.iff {a : List AV} {v : List Value} : bf ρ a v ↔ a.length = v.length ∧ ∀ (i : Nat) (x : AV) (y : Value), a[i]? = some x -> v[i]? = some y -> VR ρ x y := by
  constructor
  · intro h
    induction a generalizing v with
    | nil => cases h; exact ⟨rfl, fun i x y hx => by simp at hx⟩
    | cons x a ih =>
      cases h with
      | cons h h' =>
        obtain ⟨l, g⟩ := ih h'
        refine ⟨by simp [l], fun i y z hy hz => ?_⟩
        cases i with
        | zero => simp at hy hz; subst hy hz; exact h
        | succ i => exact g i y z (by simpa using hy) (by simpa using hz)
  · intro ⟨l, g⟩
    induction a generalizing v with
    | nil => cases v with
      | nil => exact .nil
      | cons y v => simp at l
    | cons x a ih => cases v with
      | nil => simp at l
      | cons y v => exact .cons (g 0 x y rfl rfl) (ih (by simpa using l) fun i z u hz hu => g (i + 1) z u (by simpa using hz) (by simpa using hu))
theorem bf.mono {a : List AV} {v : List Value} (h : bf ρ a v) (hl : Le ρ ρ') : bf ρ' a v := by
  rw [bf.iff] at h ⊢
  exact ⟨h.1, fun i x y hx hy => (h.2 i x y hx hy).mono hl⟩
theorem bf.len {a : List AV} {v : List Value} (h : bf ρ a v) : a.length = v.length := (bf.iff.1 h).1
theorem bf.get {a : List AV} {v : List Value} (h : bf ρ a v) {i : Nat} {x : AV} (hx : a[i]? = some x) : ∃ y, v[i]? = some y ∧ VR ρ x y := by
  obtain ⟨l, g⟩ := bf.iff.1 h
  have hi := (List.getElem?_eq_some_iff.1 hx).1
  exact ⟨_, List.getElem?_eq_getElem (by omega), g i x _ hx (List.getElem?_eq_getElem (by omega))⟩
theorem bf.app {a b : List AV} {v u : List Value} (h : bf ρ a v) (h' : bf ρ b u) : bf ρ (a ++ b) (v ++ u) := by
  induction a generalizing v with
  | nil => cases h; exact h'
  | cons x a ih => cases h with | cons g g' => exact .cons g (ih g')
theorem bf.take {a : List AV} {v : List Value} (h : bf ρ a v) (n : Nat) : bf ρ (a.take n) (v.take n) := by
  induction n generalizing a v with
  | zero => simp; exact .nil
  | succ n ih => cases h with
    | nil => simp; exact .nil
    | cons g g' => simp; exact .cons g (ih g')
theorem bf.drop {a : List AV} {v : List Value} (h : bf ρ a v) (n : Nat) : bf ρ (a.drop n) (v.drop n) := by
  induction n generalizing a v with
  | zero => exact h
  | succ n ih => cases h with
    | nil => simp; exact .nil
    | cons g g' => simp; exact ih g'
theorem bf.set {a : List AV} {v : List Value} (h : bf ρ a v) (i : Nat) {x : AV} {y : Value} (hx : VR ρ x y) : bf ρ (a.set i x) (v.set i y) := by
  induction a generalizing v i with
  | nil => cases h; exact .nil
  | cons z a ih => cases h with
    | cons g g' => cases i with
      | zero => exact .cons hx g'
      | succ i => exact .cons g (ih g' i)
theorem bf.rep {a : List AV} {v : List Value} (h : bf ρ a v) : ∀ n, bf ρ (wL a n) (aA v n)
  | 0 => .nil
  | n + 1 => h.app (bf.rep h n)
theorem bf.map {α : Type} {l : List α} {f : α -> AV} {g : α -> Value} (h : ∀ x ∈ l, VR ρ (f x) (g x)) : bf ρ (l.map f) (l.map g) := by
  induction l with
  | nil => exact .nil
  | cons x l ih => exact .cons (h x (List.mem_cons_self ..)) (ih fun y hy => h y (List.mem_cons_of_mem _ hy))
theorem wH {v : Value} {a : AV} (h : vJ v = some a) : VR ρ a v := by
  unfold vJ at h
  split at h <;> first | (cases h; constructor) | cases h
theorem jc : ∀ {v : List Value} {a : List AV}, gZ v = some a -> bf ρ a v
  | [], _, h => by cases h; exact .nil
  | x :: v, a, h => by
    unfold gZ at h
    split at h
    · rename_i y l hy hl
      cases h
      exact .cons (wH hy) (jc hl)
    · cases h
theorem dY {v : Value} {a : AV} (h : jH v = some a) : VR ρ a v := by
  unfold jH at h
  split at h
  · split at h
    · rename_i cs l hl
      cases h
      have := jc (ρ := ρ) hl
      exact .agg this
    · cases h
  · split at h
    · rename_i vs _ hv
      cases h
      obtain ⟨vs⟩ := vs
      have : vs = [] := hv
      subst this
      exact .aY .nil
    · cases h
  · exact wH h
theorem xA {a : AV} {v : Value} (h : VR ρ a v) (h1 : one a = true) : bM v = true := by
  cases h <;> first | rfl | cases h1
theorem mZ : ∀ {a : List AV} {v : List Value}, bf ρ a v -> iq a = true -> ∀ x ∈ v, bM x = true
  | [], _, h, _ => by cases h; simp
  | y :: a, _, h, h1 => by
    cases h with
    | cons g g' =>
      unfold iq at h1
      rw [Bool.and_eq_true] at h1
      intro x hx
      rcases List.mem_cons.1 hx with rfl | hx
      · exact xA g h1.1
      · exact mZ g' h1.2 x hx
theorem h_ {a b : IntKind} (h : iR a b = true) : a = b := by cases a <;> cases b <;> first | rfl | cases h
theorem iO {k : Kind} {a : AV} {v : Value} (h : VR ρ a v) (h1 : Ea k a = true) : ∃ x : k.T, v = k.enc x := by
  cases k with
  | any => exact ⟨v, rfl⟩
  | int k => cases h <;> first | (rename_i k' n; cases h_ h1; exact ⟨n, rfl⟩) | cases h1
  | bool => cases h <;> first | exact ⟨_, rfl⟩ | cases h1
  | str => cases h <;> first | exact ⟨_, rfl⟩ | cases h1
  | ptr => cases h <;> first | exact ⟨_, rfl⟩ | cases h1
  | slice => cases h <;> first | exact ⟨⟨_, _, _⟩, rfl⟩ | cases h1
  | map => cases h <;> first | exact ⟨_, rfl⟩ | cases h1
theorem zi : ∀ {ks : List Kind} {a : List AV} {v : List Value} {φ : List Value -> Prop}, bf ρ a v -> qj ks a = true -> φ v -> Aj ks φ
  | [], [], _, φ, h, _, hp => by cases h; exact hp
  | [], _ :: _, _, _, _, h1, _ => by cases h1
  | _ :: _, [], _, _, _, h1, _ => by cases h1
  | k :: ks, x :: a, _, φ, h, h1, hp => by
    cases h with
    | cons g g' =>
      unfold qj at h1
      rw [Bool.and_eq_true] at h1
      obtain ⟨y, rfl⟩ := iO g h1.1
      exact ⟨y, zi g' h1.2 hp⟩
theorem uK {sh : Shape} {a : AV} {v : Value} {φ : Value -> Prop} (h : VR ρ a v) (h1 : F8 sh a = true) (hp : φ v) : sh.ex φ := by
  cases sh with
  | one k =>
    obtain ⟨x, rfl⟩ := iO h h1
    exact ⟨x, hp⟩
  | agg ks => cases h with
    | agg g => exact zi g h1 hp
    | _ => cases h1
theorem jE : ∀ {sh : List Shape} {a : List AV} {v : List Value} {φ : List Value -> Prop}, bf ρ a v -> lY sh a = true -> φ v -> bJ sh φ
  | [], [], _, φ, h, _, hp => by cases h; exact hp
  | [], _ :: _, _, _, _, h1, _ => by cases h1
  | _ :: _, [], _, _, _, h1, _ => by cases h1
  | s :: sh, x :: a, _, φ, h, h1, hp => by
    cases h with
    | cons g g' =>
      unfold lY at h1
      rw [Bool.and_eq_true] at h1
      exact uK g h1.1 (φ := fun v => bJ sh fun vs => φ (v :: vs)) (jE g' h1.2 hp)
theorem yK {a : List AV} {v : List Value} (h : bf ρ a v) : VR ρ (Gh a) (aY v) := by
  cases h with
  | nil => exact .aY .nil
  | cons g g' => cases g' with
    | nil => exact g
    | cons g1 g2 => exact .aY (.cons g (.cons g1 g2))
theorem AE.get_nil (t : Nat) : AE.get [] t = none := rfl
theorem AE.aI (s : Nat) (v : AV) (r : AE) (t : Nat) : AE.get ((s, v) :: r) t = if s = t then some v else AE.get r t := by
  show (Bool.rec (AE.get r t) (some v) (Nat.beq s t) : Option AV) = _
  by_cases h : s = t
  · rw [if_pos h, show Nat.beq s t = true from h ▸ Nat.beq_refl s]
  · rw [if_neg h]
    cases hb : Nat.beq s t with
    | false => rfl
    | true => exact absurd (Nat.eq_of_beq_eq_true hb) h
def ER (ρ : Nm) (e : AE) (env : Env) : Prop := ∀ t v, e.get t = some v -> ∃ u, env.get t = some u ∧ VR ρ v u
theorem ER.mono {e : AE} {env : Env} (h : ER ρ e env) (hl : Le ρ ρ') : ER ρ' e env := fun t v g => by
  obtain ⟨u, h1, h2⟩ := h t v g
  exact ⟨u, h1, h2.mono hl⟩
theorem ER.nil {env : Env} : ER ρ [] env := fun t v h => by rw [AE.get_nil] at h; cases h
theorem ER.cons {e : AE} {env : Env} (h : ER ρ e env) {v : AV} {u : Value} (hv : VR ρ v u) (s : Nat) : ER ρ ((s, v) :: e) ((s, u) :: env) := fun t x g => by
  rw [AE.aI] at g
  rw [aI]
  split at g
  · cases g
    rw [if_pos (by assumption)]
    exact ⟨u, rfl, hv⟩
  · rw [if_neg (by assumption)]
    exact h t x g
theorem ER.put {e : AE} {env : Env} (h : ER ρ e env) (d : Option Nat) {v : AV} {u : Value} (hv : VR ρ v u) : ER ρ (e.put d v) (env.put d u) := by
  cases d with
  | none => exact h
  | some s => exact h.cons hv s
theorem qh {e : AE} {env : Env} (h : ER ρ e env) {x : Operand} {a : AV} (hx : Fv e x = some a) : ∃ v, A_ env x = some v ∧ VR ρ a v := by
  cases x with
  | tmp t => exact h t a hx
  | const v => exact ⟨v, rfl, dY hx⟩
  | global g => cases hx
  | func f => cases hx; exact ⟨_, rfl, .fn f .nil .nil⟩
theorem BH {e : AE} {env : Env} (h : ER ρ e env) : ∀ {l : List Operand} {as : List AV}, evs e l = some as -> oq env l = true ∧ ∀ x ∈ l, VR ρ ((Fv e x).getD (.aY [])) (ev env x)
  | [], _, _ => ⟨rfl, by simp⟩
  | x :: l, as, g => by
    unfold evs at g
    split at g
    · rename_i a m ha hm
      obtain ⟨g1, g2⟩ := BH h hm
      obtain ⟨v, hv, hr⟩ := qh h ha
      refine ⟨by unfold oq; rw [hv, g1]; rfl, fun y hy => ?_⟩
      rcases List.mem_cons.1 hy with rfl | hy
      · rw [ha]
        unfold ev
        rw [hv]
        exact hr
      · exact g2 y hy
    · cases g
end
end Gp.Rn
end
section
namespace Gp.Rn
open Go Gp
theorem Tr.dJ (v : Option AB) (l r : Tr) (m : Nat) : (Tr.nd v l r).get (m + 1) = if m % 2 = 0 then l.get (m / 2) else r.get (m / 2) := by
  show cond (Nat.beq (m % 2) 0) (l.get (m / 2)) (r.get (m / 2)) = _
  by_cases h : m % 2 = 0
  · rw [if_pos h, h]; rfl
  · rw [if_neg h]
    cases hb : Nat.beq (m % 2) 0 with
    | false => rfl
    | true => exact absurd (Nat.eq_of_beq_eq_true hb) h
theorem yJ : ∀ (f : Nat) (t : Tr) (n : Nat) (v : AB) (k : Tr -> Bool), t.uw f n v k = true -> ∃ t', k t' = true ∧ t'.get n = some v ∧ ∀ m, m ≠ n -> t'.get m = t.get m := by
  intro f
  induction f with
  | zero => intro t n v k h; cases h
  | succ f ih =>
    intro t n v k h
    have key : ∀ (x : Option AB) (l r : Tr), (∀ m, t.get m = (Tr.nd x l r).get m) -> (∀ n', n = n' + 1 -> cond (Nat.beq (n' % 2) 0) (l.uw f (n' / 2) v fun l' => k (.nd x l' r)) (r.uw f (n' / 2) v fun r' => k (.nd x l r')) = true) ->
        (n = 0 -> k (.nd (some v) l r) = true) -> ∃ t', k t' = true ∧ t'.get n = some v ∧ ∀ m, m ≠ n -> t'.get m = t.get m := by
      intro x l r ht hs h0
      cases n with
      | zero =>
        refine ⟨_, h0 rfl, rfl, fun m hm => ?_⟩
        cases m with
        | zero => exact absurd rfl hm
        | succ m => rw [ht, Tr.dJ, Tr.dJ]
      | succ n =>
        have hs := hs n rfl
        by_cases hp : n % 2 = 0
        · rw [hp] at hs
          obtain ⟨l', h1, h2, h3⟩ := ih l (n / 2) v _ hs
          refine ⟨_, h1, by rw [Tr.dJ, if_pos hp, h2], fun m hm => ?_⟩
          rw [ht]
          cases m with
          | zero => rfl
          | succ m =>
            rw [Tr.dJ, Tr.dJ]
            by_cases hq : m % 2 = 0
            · rw [if_pos hq, if_pos hq, h3 _ (by omega)]
            · rw [if_neg hq, if_neg hq]
        · have hb : Nat.beq (n % 2) 0 = false := by
            cases hb : Nat.beq (n % 2) 0 with
            | false => rfl
            | true => exact absurd (Nat.eq_of_beq_eq_true hb) hp
          rw [hb] at hs
          obtain ⟨l', h1, h2, h3⟩ := ih r (n / 2) v _ hs
          refine ⟨_, h1, by rw [Tr.dJ, if_neg hp, h2], fun m hm => ?_⟩
          rw [ht]
          cases m with
          | zero => rfl
          | succ m =>
            rw [Tr.dJ, Tr.dJ]
            by_cases hq : m % 2 = 0
            · rw [if_pos hq, if_pos hq]
            · rw [if_neg hq, if_neg hq, h3 _ (by omega)]
    cases t with
    | lf =>
      refine key none .lf .lf (fun m => ?_) (fun n' hn => ?_) fun hn => ?_
      · cases m with
        | zero => rfl
        | succ m => rw [Tr.dJ]; split <;> rfl
      · subst hn; exact h
      · subst hn; exact h
    | nd x l r =>
      refine key x l r (fun m => rfl) (fun n' hn => ?_) fun hn => ?_
      · subst hn; exact h
      · subst hn; exact h
theorem bQ {n : Nat} {k : Nat -> Bool} (h : fN n k = true) : k n = true := by cases n <;> exact h
theorem nO {n : Int} {k : Int -> Bool} (h : fI n k = true) : k n = true := by
  cases n with
  | ofNat a => exact bQ (k := fun a => k (.ofNat a)) h
  | negSucc a => exact bQ (k := fun a => k (.negSucc a)) h
theorem sD {n : Bool} {k : Bool -> Bool} (h : fB n k = true) : k n = true := by cases n <;> exact h
theorem aj {a b : Bool} (h : cond a b false = true) : a = true ∧ b = true := by cases a <;> first | exact ⟨rfl, h⟩ | cases h
def gK (w : World) (b : Nat) (l : List Value) : Prop := ∃ T fr, w.heap[b]? = some (.cells ⟨l⟩ T fr) ∧ (fr = (0, 0) ∨ l.length <= fr.1)
section
variable {w w' : World} {b : Nat} {l : List Value}
theorem gK.lt (h : gK w b l) : b < w.heap.size := by
  obtain ⟨T, fr, h, _⟩ := h
  exact (Array.getElem?_eq_some_iff.1 h).1
theorem gK.cell (h : gK w b l) (i : Nat) : w.cell? ⟨b, i, none⟩ = l[i]? := by
  obtain ⟨T, fr, h, _⟩ := h
  simp [World.cell?, h]
theorem gK.frozen (h : gK w b l) {i : Nat} (hi : i < l.length) : w.frozen? ⟨b, i, none⟩ = false := by
  obtain ⟨T, ⟨lo, hi'⟩, h, g⟩ := h
  simp only [World.frozen?, h]
  rw [Bool.and_eq_false_iff, decide_eq_false_iff_not, decide_eq_false_iff_not]
  rcases g with g | g
  · cases g; omega
  · simp only at g; omega
theorem gK.fr {S : Nat -> Prop} (h : gK w b l) (hf : b_ w w' S) (hs : ¬ S b) : gK w' b l := by
  have hl := h.lt
  obtain ⟨T, fr, h, g⟩ := h
  exact ⟨T, fr, (hf.same b hl hs).trans h, g⟩
theorem gK.new (w : World) (l : List Value) (T : TypeId) (fr : Nat × Nat) (h : l.length <= fr.1 ∨ fr = (0, 0)) : gK (w.alloc (.cells ⟨l⟩ T fr)) w.heap.size l :=
  ⟨T, fr, World.alloc_heap_new w _, h.symm⟩
theorem gK.set (h : gK w b l) (i : Nat) (v : Value) : gK (w.setCell ⟨b, i, none⟩ v) b (l.set i v) := by
  obtain ⟨T, fr, h, g⟩ := h
  refine ⟨T, fr, ?_, by simpa using g⟩
  simp only [World.setCell, Array.getElem?_modify, if_true, h, Option.map_some]
  congr 2
  simp [Array.setIfInBounds]
  intro hx
  rw [List.set_eq_of_length_le hx]
theorem kH {b : Nat} : ∀ (vs : List Value) (w : World) (l : List Value) (o i : Nat), gK w b l -> o + i + vs.length <= l.length ->
    gK (setCells w ⟨b, o, none⟩ vs i) b (l.take (o + i) ++ vs ++ l.drop (o + i + vs.length)) ∧ (∀ S : Nat -> Prop, S b -> b_ w (setCells w ⟨b, o, none⟩ vs i) S) ∧ (setCells w ⟨b, o, none⟩ vs i).heap.size = w.heap.size := by
  intro vs
  induction vs with
  | nil => intro w l o i hr _; exact ⟨by simpa [setCells] using hr, fun S _ => b_.refl _ _, rfl⟩
  | cons v vs ih =>
    intro w l o i hr hl
    simp only [List.length_cons] at hl
    have r1 := hr.set (o + i) v
    obtain ⟨r2, f2, z2⟩ := ih (w.setCell ⟨b, o + i, none⟩ v) _ o (i + 1) r1 (by rw [List.length_set]; omega)
    have e1 : (l.set (o + i) v).take (o + (i + 1)) = l.take (o + i) ++ [v] := by
      rw [<- Nat.add_assoc, List.take_succ_eq_append_getElem (by simp; omega), List.take_set_of_le (by omega)]
      simp
    have e2 : (l.set (o + i) v).drop (o + (i + 1) + vs.length) = l.drop (o + i + (vs.length + 1)) := by
      rw [List.drop_set_of_lt (by omega)]
      congr 1; omega
    rw [e1, e2] at r2
    show gK (setCells (w.setCell ((⟨b, o, none⟩ : Addr).add i) v) ⟨b, o, none⟩ vs (i + 1)) b _ ∧ (∀ S : Nat -> Prop, S b -> b_ w (setCells (w.setCell ((⟨b, o, none⟩ : Addr).add i) v) ⟨b, o, none⟩ vs (i + 1)) S) ∧ _
    have e3 : setCells w ⟨b, o, none⟩ (v :: vs) i = setCells (w.setCell ((⟨b, o, none⟩ : Addr).add i) v) ⟨b, o, none⟩ vs (i + 1) := rfl
    rw [e3, aJ]
    exact ⟨by simpa using r2, fun S hs => (b_.set w ⟨b, o + i, none⟩ v hs).trans (f2 S hs) fun _ _ e => e, by rw [z2]; simp⟩
theorem CU {K : World -> Prop} : ∀ (vs : List Value) (w : World) (l : List Value) (o i : Nat), gK w b l -> (∀ v ∈ vs, bM v = true) -> o + i + vs.length <= l.length ->
    K (setCells w ⟨b, o, none⟩ vs i) -> tC vs w ⟨b, o, none⟩ i K := by
  intro vs
  induction vs with
  | nil => intro w l o i _ _ _ h; exact h
  | cons v vs ih =>
    intro w l o i hr h1 hl h
    simp only [List.length_cons] at hl
    show Gp.St w ((⟨b, o, none⟩ : Addr).add i) v _
    have e3 : setCells w ⟨b, o, none⟩ (v :: vs) i = setCells (w.setCell ((⟨b, o, none⟩ : Addr).add i) v) ⟨b, o, none⟩ vs (i + 1) := rfl
    rw [e3, aJ] at h
    rw [aJ]
    refine ⟨h1 v (List.mem_cons_self ..), by rw [hr.cell]; simp; omega, hr.frozen (by omega), ih _ _ o (i + 1) (hr.set (o + i) v) (fun u hu => h1 u (List.mem_cons_of_mem _ hu)) (by rw [List.length_set]; omega) h⟩
end
def qK : GL -> Option Code
  | .no => none
  | .ret => some .ret
  | .ex id => some (.exit id)
structure JB (x : Loc) : Prop where
  frame : ∀ st p W W', x.L st p W -> W'.heap[x.b]? = W.heap[x.b]? -> x.L st p W'
  set : ∀ st p st' p' W, x.L st p W -> x.L st' p' (aS W x.b st' p')
  busy : ∀ p W, x.L .ready p W -> x.L .busy p (dX W x.b)
  isLoop : ∀ st p W, x.L st p W -> ∃ lp, W.heap[x.b]? = some (.loop lp)
inductive kQ (ρ : Nm) : List (AV × AV × Nat) -> List MapEntry -> Prop
  | nil : kQ ρ [] []
  | cons {a v n e es es'} (h : VR ρ a e.key) (h' : VR ρ v e.val) (hn : e.born = n) (hr : kQ ρ es es') : kQ ρ ((a, v, n) :: es) (e :: es')
def BR (ρ : Nm) (w : World) (x : Loc) : AB -> Prop
  | .row cs z p => ∃ vs pad, bf ρ cs vs ∧ gK w x.b (vs ++ pad) ∧ cond p (x.c * z = vs.length + pad.length) (pad = [])
  | .map es c => ∃ es', w.heap[x.b]? = some (.map ⟨es'⟩ c) ∧ kQ ρ es es'
  | .iter none _ _ _ => ∃ s sn c, w.heap[x.b]? = some (.mapIter none s sn c)
  | .iter (some m) since seen c => ∃ y, ρ m = some y ∧ w.heap[x.b]? = some (.mapIter (some y.b) since ⟨seen⟩ c) ∧ since <= c
  | .loop st j => x.L st (qK j) w ∧ JB x
  | .mark => w.heap[x.b]? = some (.deferred (some []))
  | .dead => True
section
variable {ρ ρ' : Nm} {w w' : World}
theorem kQ.mono {a : List (AV × AV × Nat)} {b : List MapEntry} (h : kQ ρ a b) (hl : Le ρ ρ') : kQ ρ' a b := by
  induction h with
  | nil => exact .nil
  | cons h h' hn _ ih => exact .cons (h.mono hl) (h'.mono hl) hn ih
theorem BR.mono {x : Loc} {a : AB} (h : BR ρ w x a) (hl : Le ρ ρ') : BR ρ' w x a := by
  cases a with
  | row cs z p => obtain ⟨vs, pad, h1, h2⟩ := h; exact ⟨vs, pad, h1.mono hl, h2⟩
  | map es c => obtain ⟨es', h1, h2⟩ := h; exact ⟨es', h1, h2.mono hl⟩
  | iter m s n c => cases m with
    | none => exact h
    | some m => obtain ⟨y, h1, h2⟩ := h; exact ⟨y, hl _ _ h1, h2⟩
  | loop st j => exact h
  | mark => exact h
  | dead => trivial
theorem BR.same {x : Loc} {a : AB} (h : BR ρ w x a) (he : w'.heap[x.b]? = w.heap[x.b]?) : BR ρ w' x a := by
  cases a with
  | row cs z p =>
    obtain ⟨vs, pad, h1, ⟨T, fr, h2, h3⟩, h4⟩ := h
    exact ⟨vs, pad, h1, ⟨T, fr, he.trans h2, h3⟩, h4⟩
  | map es c => obtain ⟨es', h1, h2⟩ := h; exact ⟨es', he.trans h1, h2⟩
  | iter m s n c => cases m with
    | none => obtain ⟨a, b, c, h1⟩ := h; exact ⟨a, b, c, he.trans h1⟩
    | some m => obtain ⟨y, h1, h2, h3⟩ := h; exact ⟨y, h1, he.trans h2, h3⟩
  | loop st j => exact ⟨h.2.frame _ _ _ _ h.1 he, h.2⟩
  | mark => exact he.trans h
  | dead => trivial
def live : AB -> Prop
  | .dead => False
  | _ => True
structure Rel (w0 : World) (ρ : Nm) (s : St) (w : World) : Prop where
  dom : ∀ i a, s.h.get i = some a -> ∃ x, ρ i = some x
  fresh : ∀ i, s.h.get i = none -> ρ i = none
  br : ∀ i a x, s.h.get i = some a -> ρ i = some x -> BR ρ w x a
  new : ∀ i x, ρ i = some x -> w0.heap.size <= x.b ∧ x.b < w.heap.size
  inj : ∀ i j a b x y, s.h.get i = some a -> s.h.get j = some b -> live a -> live b -> ρ i = some x -> ρ j = some y -> x.b = y.b -> i = j
  ext : Ext w0 w
theorem Rel.names {w0 : World} {s : St} (h : Rel w0 ρ s w) {n : Nat} : Rel w0 ρ ⟨s.h, n⟩ w := ⟨h.dom, h.fresh, h.br, h.new, h.inj, h.ext⟩
theorem Rel.drew {w0 : World} {s : St} (h : Rel w0 ρ s w) : Rel w0 ρ s w.drew :=
  ⟨h.dom, h.fresh, fun i a x h1 h2 => (h.br i a x h1 h2).same rfl, h.new, h.inj, h.ext.trans (Ext.drew w)⟩
def Lp (ρ : Nm) (s : St) (w : World) (s' : St) (w' : World) : Prop := ∀ i x st p, s.h.get i = some (.loop st p) -> ρ i = some x -> s'.h.get i = some (.loop st p) ∧ w'.heap[x.b]? = w.heap[x.b]?
theorem Lp.refl (ρ : Nm) (s : St) (w : World) : Lp ρ s w s w := fun _ _ _ _ h _ => ⟨h, rfl⟩
theorem Lp.trans {s s' s'' : St} {w'' : World} (h : Lp ρ s w s' w') (h' : Lp ρ' s' w' s'' w'') (hl : Le ρ ρ') : Lp ρ s w s'' w'' := fun i x st p h1 h2 => by
  obtain ⟨a, b⟩ := h i x st p h1 h2
  obtain ⟨c, d⟩ := h' i x st p a (hl _ _ h2)
  exact ⟨c, d.trans b⟩
def upd (ρ : Nm) (i : Nat) (x : Loc) : Nm := fun j => if j = i then some x else ρ j
theorem aK (ρ : Nm) (i : Nat) (x : Loc) : upd ρ i x i = some x := if_pos rfl
theorem uP {i : Nat} (h : ρ i = none) (x : Loc) : Le ρ (upd ρ i x) := fun j y g => by
  unfold upd
  rw [if_neg (fun e => by rw [e, h] at g; cases g)]
  exact g
section
variable {w0 : World} {s s' : St} {i : Nat} {a : AB} {x : Loc}
theorem Rel.add (h : Rel w0 ρ s w) (h0 : s.h.get i = none) (h1 : s'.h.get i = some a) (h2 : ∀ j, j ≠ i -> s'.h.get j = s.h.get j) (hx : w0.heap.size <= x.b ∧ x.b < w'.heap.size)
    (hb : BR (upd ρ i x) w' x a) (ho : ∀ j b y, s.h.get j = some b -> ρ j = some y -> BR ρ w' y b) (hd : ∀ j b y, s.h.get j = some b -> live b -> ρ j = some y -> y.b ≠ x.b) (hz : w.heap.size <= w'.heap.size) (he : Ext w0 w') :
    Rel w0 (upd ρ i x) s' w' ∧ Le ρ (upd ρ i x) := by
  have hi := h.fresh i h0
  have hl := uP hi x
  refine ⟨⟨fun j b g => ?_, fun j g => ?_, fun j b y g g' => ?_, fun j y g => ?_, fun j k b c y z g1 g2 l1 l2 g3 g4 e => ?_, he⟩, hl⟩
  · by_cases hj : j = i
    · exact ⟨x, by rw [hj]; exact aK ρ i x⟩
    · rw [h2 j hj] at g
      obtain ⟨y, hy⟩ := h.dom j b g
      exact ⟨y, hl _ _ hy⟩
  · by_cases hj : j = i
    · rw [hj, h1] at g; cases g
    · rw [h2 j hj] at g
      unfold upd
      rw [if_neg hj]
      exact h.fresh j g
  · by_cases hj : j = i
    · subst hj
      rw [h1] at g
      rw [aK] at g'
      cases g; cases g'
      exact hb
    · rw [h2 j hj] at g
      unfold upd at g'
      rw [if_neg hj] at g'
      exact (ho j b y g g').mono hl
  · unfold upd at g
    split at g
    · cases g; exact hx
    · have := h.new j y g
      exact ⟨this.1, by omega⟩
  · have hu : ∀ j y, j ≠ i -> upd ρ i x j = some y -> ρ j = some y := fun j y hj g => by unfold upd at g; rwa [if_neg hj] at g
    by_cases hj : j = i
    · by_cases hk : k = i
      · rw [hj, hk]
      · subst hj
        rw [aK] at g3
        cases g3
        rw [h2 k hk] at g2
        exact absurd e.symm (hd k c z g2 l2 (hu k z hk g4))
    · by_cases hk : k = i
      · subst hk
        rw [aK] at g4
        cases g4
        rw [h2 j hj] at g1
        exact absurd e (hd j b y g1 l1 (hu j y hj g3))
      · rw [h2 j hj] at g1
        rw [h2 k hk] at g2
        exact h.inj j k b c y z g1 g2 l1 l2 (hu j y hj g3) (hu k z hk g4) e
theorem Rel.alloc {o : Obj} (h : Rel w0 ρ s w) (h0 : s.h.get i = none) (h1 : s'.h.get i = some a) (h2 : ∀ j, j ≠ i -> s'.h.get j = s.h.get j) (hb : x.b = w.heap.size) (hB : ∀ ρ', Le ρ ρ' -> ρ' i = some x -> BR ρ' (w.alloc o) x a) :
    Rel w0 (upd ρ i x) s' (w.alloc o) ∧ Le ρ (upd ρ i x) ∧ Lp ρ s w s' (w.alloc o) := by
  have hf : Ext w (w.alloc o) := fun S => b_.alloc w o S
  have hz : (w.alloc o).heap.size = w.heap.size + 1 := by simp
  have hs : ∀ b, b < w.heap.size -> (w.alloc o).heap[b]? = w.heap[b]? := fun b hb' => (hf fun _ => False).same b hb' (by simp)
  have he := h.ext.size
  have hl := uP (h.fresh i h0) x
  obtain ⟨r1, r2⟩ := h.add (w' := w.alloc o) h0 h1 h2 ⟨by omega, by omega⟩ (hB _ hl (aK ρ i x)) (fun j b y g g' => (h.br j b y g g').same (hs _ (h.new j y g').2)) (fun j b y g _ g' => by have := (h.new j y g').2; omega) (by omega) (h.ext.trans hf)
  refine ⟨r1, r2, fun j y st p g g' => ⟨?_, hs _ (h.new j y g').2⟩⟩
  rw [h2 j fun e => by rw [e, h0] at g; cases g]
  exact g
theorem Rel.FI {b : AB} (h : Rel w0 ρ s w) (hx : ρ i = some x) (h0 : s.h.get i = some b) (hlb : live b) (h1 : s'.h.get i = some a) (h2 : ∀ j, j ≠ i -> s'.h.get j = s.h.get j) (hf : b_ w w' (· = x.b)) (hB : BR ρ w' x a) : Rel w0 ρ s' w' := by
  have hn := h.new i x hx
  refine ⟨fun j c g => ?_, fun j g => ?_, fun j c y g g' => ?_, fun j y g => ?_, fun j k c d y z g1 g2 l1 l2 g3 g4 e => ?_, h.ext.new hf fun c hc e => by omega⟩
  · by_cases hj : j = i
    · exact ⟨x, by rw [hj]; exact hx⟩
    · rw [h2 j hj] at g; exact h.dom j c g
  · by_cases hj : j = i
    · rw [hj, h1] at g; cases g
    · rw [h2 j hj] at g; exact h.fresh j g
  · by_cases hj : j = i
    · subst hj
      rw [h1] at g
      rw [hx] at g'
      cases g; cases g'
      exact hB
    · rw [h2 j hj] at g
      cases c with
      | dead => trivial
      | _ =>
        refine (h.br j _ y g g').same (hf.same _ (h.new j y g').2 fun e => hj ?_)
        exact h.inj j i _ b y x g h0 trivial hlb g' hx e
  · have := h.new j y g
    have := hf.size
    omega
  · by_cases hj : j = i
    · by_cases hk : k = i
      · rw [hj, hk]
      · subst hj
        rw [h2 k hk] at g2
        exact h.inj j k b d y z h0 g2 hlb l2 g3 g4 e
    · by_cases hk : k = i
      · subst hk
        rw [h2 j hj] at g1
        exact h.inj j k c b y z g1 h0 l1 hlb g3 g4 e
      · rw [h2 j hj] at g1
        rw [h2 k hk] at g2
        exact h.inj j k c d y z g1 g2 l1 l2 g3 g4 e
def DC : AB -> Prop
  | .loop _ _ => False
  | _ => True
theorem Rel.BP {b : AB} (h : Rel w0 ρ s w) (hx : ρ i = some x) (h0 : s.h.get i = some b) (hlb : live b) (hnl : DC b) (h2 : ∀ j, j ≠ i -> s'.h.get j = s.h.get j) (hf : b_ w w' (· = x.b)) : Lp ρ s w s' w' := fun j y st p g g' => by
  have hj : j ≠ i := fun e => by rw [e, h0] at g; cases g; exact hnl
  refine ⟨by rw [h2 j hj]; exact g, hf.same _ (h.new j y g').2 fun e => hj ?_⟩
  exact h.inj j i _ b y x g h0 trivial hlb g' hx e
theorem Rel.kill {b : AB} (h : Rel w0 ρ s w) (h0 : s.h.get i = some b) (h1 : s'.h.get i = some .dead) (h2 : ∀ j, j ≠ i -> s'.h.get j = s.h.get j) : Rel w0 ρ s' w := by
  refine ⟨fun j c g => ?_, fun j g => ?_, fun j c y g g' => ?_, h.new, fun j k c d y z g1 g2 l1 l2 g3 g4 e => ?_, h.ext⟩
  · by_cases hj : j = i
    · rw [hj]; exact h.dom i b h0
    · rw [h2 j hj] at g; exact h.dom j c g
  · by_cases hj : j = i
    · rw [hj, h1] at g; cases g
    · rw [h2 j hj] at g; exact h.fresh j g
  · by_cases hj : j = i
    · subst hj
      rw [h1] at g
      cases g
      trivial
    · rw [h2 j hj] at g; exact h.br j c y g g'
  · have hj : j ≠ i := fun e => by rw [e, h1] at g1; cases g1; exact l1
    have hk : k ≠ i := fun e => by rw [e, h1] at g2; cases g2; exact l2
    rw [h2 j hj] at g1
    rw [h2 k hk] at g2
    exact h.inj j k c d y z g1 g2 l1 l2 g3 g4 e
end
theorem bI {s : St} {b : AB} {k : Nat -> St -> Bool} (h : iT s b k = true) : ∃ i s', k i s' = true ∧ s.h.get i = none ∧ s'.h.get i = some b ∧ ∀ j, j ≠ i -> s'.h.get j = s.h.get j := by
  unfold iT at h
  split at h
  · rename_i hn
    obtain ⟨t, h1, h2, h3⟩ := yJ _ _ _ _ _ h
    exact ⟨s.n, _, bQ h1, hn, h2, h3⟩
  · cases h
theorem bU {s : St} {i : Nat} {b : AB} {k : St -> Bool} (h : iI s i b k = true) : ∃ s', k s' = true ∧ s'.h.get i = some b ∧ ∀ j, j ≠ i -> s'.h.get j = s.h.get j := by
  unfold iI at h
  obtain ⟨t, h1, h2, h3⟩ := yJ _ _ _ _ _ h
  exact ⟨_, h1, h2, h3⟩
end
end Gp.Rn
end
