import Derived.RangeFuncLeaves
import Derived.OrdersIn
import Derived.RangeFuncSeq
import Derived.Maps.RangeRun
import Derived.Laws.Append
import Derived.Laws.Slices
import Derived.Laws.MakeOwn
import Derived.Laws.CopyOwn
import Derived.Laws.BytesString
import Derived.Laws.BytesArg
import Derived.Laws.StructEq
import Derived.MapKept
import Derived.WideKeyRuns
import Derived.ChangeKeysEq
open List (map_map)
open Nat (ble_eq mod_lt)
open Bool (and_eq_true false_eq_true)
section
namespace Gp
open Go
abbrev b_:=World->Prop
abbrev eG:=Option Addr
theorem d_{a:Type}:(∀(b:a) (c:List a),(b::c)[0]? =some b)/\∀(b:a) (c:List a) (d:Nat),(b::c)[d+1]? =c[d]?:=⟨λ_ _=>rfl,λ_ _ _=>rfl⟩
inductive Kind where
 |int (k:IntKind)|bool|str|ptr|slice|map|any
structure eY where
 a:eG
 len:Nat
 cap:Nat
@[reducible] def Kind.T:Kind->Type
 | .int _=>Int
 | .bool=>Bool
 | .str=>ByteArray
 | .ptr=>eG
 | .slice=>eY
 | .map=>Option Nat
 | .any=>Value
def Kind.enc:(k:Kind)->k.T->Value
 | .int k,n=> .int k n
 | .bool,b=> .bool b
 | .str,s=> .string s
 | .ptr,a=> .pointer a
 | .slice,s=> .slice s.a s.len s.cap
 | .map,r=> .map r
 | .any,v=>v
inductive Shape where
 |one (k:Kind)
 |agg (ks:List Kind)
def kindOf:TypeDesc->Option Kind
 | .bool=>some .bool
 | .int k=>some (.int k)
 | .string=>some .str
 | .pointer _=>some .ptr
 | .slice _=>some .slice
 | .map _ _=>some .map
 | .func _ _ _=>some .any
 | .interface _=>some .any
 |_=>none
def amI:List (Option (List Kind))->Option (List Kind)
 |[]=>some []
 |x::r=>match x,amI r with
  |some a,some b=>some (a++b)
  |_,_=>none
def ane:Nat->List Kind->List Kind
 |0,_=>[]
 |n+1,ks=>ks++ane n ks
def Gz (P:Program):Nat->TypeId->Option (List Kind)
 |0,_=>none
 |n+1,t=>match P.underlying t with
  |some (.struct fs)=>amI (fs.toList.map λf=>Gz P n f.type)
  |some (.array len e)=>match Gz P n e with
   |some ks=>some (ane len ks)
   |none=>none
  |some d=>match kindOf d with
   |some k=>some [k]
   |none=>none
  |none=>none
def Cm:TypeDesc->Bool
 | .struct _=>true
 | .array _ _=>true
 |_=>false
def shapeOf (P:Program) (t:TypeId):Option Shape:=
 match P.underlying t with
 |some d=>cond (Cm d)
  (match Gz P 20 t with
   |some ks=>some (.agg ks)
   |none=>none)
  (match kindOf d with
   |some k=>some (.one k)
   |none=>none)
 |none=>none
def ZE (P:Program):List TypeId->Option (List Shape)
 |[]=>some []
 |t::r=>match shapeOf P t,ZE P r with
  |some a,some b=>some (a::b)
  |_,_=>none
def xq (P:Program) (t:TypeId):Option (List Shape):=
 match P.underlying t with
 |some (.tuple ts)=>ZE P ts.toList
 |_=>match shapeOf P t with
  |some s=>some [s]
  |none=>none
def ac7:(ks:List Kind)->(List Value->Prop)->Prop
 |[],φ=>φ []
 |k::ks,φ=>∃x:k.T,ac7 ks λvs=>φ (k.enc x::vs)
def Shape.ex:Shape->(Value->Prop)->Prop
 | .one k,φ=>∃x:k.T,φ (k.enc x)
 | .agg ks,φ=>ac7 ks λvs=>φ (.agg ⟨vs⟩)
def oD:List Shape->(List Value->Prop)->Prop
 |[],φ=>φ []
 |s::r,φ=>s.ex λv=>oD r λvs=>φ (v::vs)
def kW:List Value->Value
 |[v]=>v
 |vs=> .tuple ⟨vs⟩
def iC:Value->Bool
 | .agg _=>false
 | .tuple _=>false
 |_=>true
def Ld (k:Kind) (w:World) (a:Addr) (K:k.T->Prop):Prop:=∃x:k.T,w.cell? a=some (k.enc x)/\K x
def LdN:List Kind->World->Addr->Nat->(List Value->Prop)->Prop
 |[],_,_,_,φ=>φ []
 |k::ks,w,a,i,φ=>Ld k w (a.add i) λx=>LdN ks w a (i+1) λvs=>φ (k.enc x::vs)
def Shape.ld:Shape->World->Addr->(Value->Prop)->Prop
 | .one k,w,a,φ=>Ld k w a λx=>φ (k.enc x)
 | .agg ks,w,a,φ=>LdN ks w a 0 λvs=>φ (.agg ⟨vs⟩)
def Shape.cells:Shape->Nat
 | .one _=>1
 | .agg ks=>ks.length
def St (w:World) (a:Addr) (v:Value) (K:b_):Prop:=iC v=true/\(w.cell? a).isSome=true/\w.frozen? a=false/\K (w.setCell a v)
def iL:List Value->World->Addr->Nat->(b_)->Prop
 |[],w,_,_,K=>K w
 |v::vs,w,a,i,K=>St w (a.add i) v λw'=>iL vs w' a (i+1) K
@[reducible] def Rl (w:World):Value:= .pointer (some ⟨w.heap.size,0,none⟩)
def fO (z:List Value):Nat->List Value
 |0=>[]
 |n+1=>z++fO z n
def gG (P:Program) (t:TypeId):Option Nat:=
 match P.info? t with
 |some i=>some i.size
 |none=>none
def wH (k:IntKind) (a b:Int):Int:=k.wrap ((BitVec.ofInt k.bits a &&& BitVec.ofInt k.bits b).toNat:Int)
def Xz (k:IntKind) (a b:Int):Int:=k.wrap ((BitVec.ofInt k.bits a|||BitVec.ofInt k.bits b).toNat:Int)
def ad4 (k:IntKind) (a b:Int):Int:=k.wrap ((BitVec.ofInt k.bits a^^^BitVec.ofInt k.bits b).toNat:Int)
def abE (k:IntKind) (a b:Int):Int:=k.wrap ((BitVec.ofInt k.bits a &&& ~~~(BitVec.ofInt k.bits b)).toNat:Int)
def LY (k:IntKind) (a b:Int):Int:=k.wrap (a * 2^(min b.toNat k.bits))
def jy (k:IntKind) (a b:Int):Int:=a.fdiv (2^(min b.toNat k.bits))
def strEq (a b:ByteArray):Bool:=a.toList==b.toList
def strLt (a b:ByteArray):Bool:=Op.bytesLess a.toList b.toList
def Dq:IntKind->IntKind->Bool
 | .i8,.i8| .i16,.i16| .i32,.i32| .i64,.i64| .u8,.u8| .u16,.u16| .u32,.u32| .u64,.u64=>true
 |_,_=>false
def Kind.dec:(k:Kind)->Value->(k.T->Prop)->Prop
 | .int k,.int k' n,φ=>cond (Dq k k') (φ n) False
 | .bool,.bool b,φ=>φ b
 | .str,.string s,φ=>φ s
 | .ptr,.pointer a,φ=>φ a
 | .slice,.slice a l c,φ=>φ ⟨a,l,c⟩
 | .map,.map r,φ=>φ r
 | .any,v,φ=>φ v
 |_,_,_=>False
def Ec (op:BinOp) (k:IntKind) (a b:Int) (φ:Value->Prop):Prop:=
 match op with
 | .add=>φ (.int k (k.wrap (a+b)))
 | .sub=>φ (.int k (k.wrap (a - b)))
 | .mul=>φ (.int k (k.wrap (a * b)))
 | .quo=>b≠0/\φ (.int k (k.wrap (a.tdiv b)))
 | .rem=>b≠0/\φ (.int k (a.tmod b))
 | .and=>φ (.int k (wH k a b))
 | .or=>φ (.int k (Xz k a b))
 | .xor=>φ (.int k (ad4 k a b))
 | .andNot=>φ (.int k (abE k a b))
 | .eql=>φ (.bool (a==b))
 | .neq=>φ (.bool (a !=b))
 | .lss=>φ (.bool (decide (a<b)))
 | .leq=>φ (.bool (decide (a<=b)))
 | .gtr=>φ (.bool (decide (a>b)))
 | .geq=>φ (.bool (decide (a>=b)))
 |_=>False
def Es (op:BinOp) (a b:ByteArray) (φ:Value->Prop):Prop:=
 match op with
 | .add=>((a.size+b.size:Nat):Int)<=IntKind.i64.max/\φ (.string (a++b))
 | .eql=>φ (.bool (strEq a b))
 | .neq=>φ (.bool (!strEq a b))
 | .lss=>φ (.bool (strLt a b))
 | .leq=>φ (.bool (strLt a b||strEq a b))
 | .gtr=>φ (.bool !(strLt a b||strEq a b))
 | .geq=>φ (.bool !(strLt a b))
 |_=>False
def aoj:Value->Value->Option Bool
 | .int _ a,.int _ b=>some (a==b)
 | .bool a,.bool b=>some (a==b)
 | .string a,.string b=>some (strEq a b)
 |_,_=>none
def DT (op:BinOp) (x y:Value) (φ:Value->Prop):Prop:=
 match op,x,y with
 | .shl,.int k a,.int _ b=>0<=b/\φ (.int k (LY k a b))
 | .shr,.int k a,.int _ b=>0<=b/\φ (.int k (jy k a b))
 |op,.int k a,.int k' b=>cond (Dq k k') (Ec op k a b φ) False
 |op,.string a,.string b=>Es op a b φ
 |_,_,_=>False
def Dp (d:TypeDesc) (x y:Value) (φ:Bool->Prop):Prop:=
 match d,x,y with
 | .bool,.bool a,.bool b=>φ (a==b)
 | .pointer _,.pointer q,.pointer none=>φ q.isNone
 | .slice _,.slice q _ _,.slice none _ _=>φ q.isNone
 | .map _ _,.map q,.map none=>φ q.isNone
 |_,_,_=>False
def Vg (d:TypeDesc) (size off:Nat) (cs:List Value):Option Value:=
 cond (Cm d) (some (.agg ⟨(cs.drop off).take size⟩)) cs[off]?
def agU (b:Bool):Option Bool->Option Bool
 |some r=>some (b && r)
 |none=>none
def ac4 (P:Program) (f:TypeId->Value->Value->Option Bool) (xs ys:List Value):List Field->Option Bool
 |[]=>some true
 |fd::fs=>cond (fd.name=="_") none (match P.underlying fd.type,gG P fd.type with
  |some d,some size=>match Vg d size fd.offset xs,Vg d size fd.offset ys with
   |some a,some b=>match f fd.type a b with
    |some r=>agU r (ac4 P f xs ys fs)
    |none=>none
   |_,_=>none
  |_,_=>none)
def ac5 (f:Value->Value->Option Bool) (d:TypeDesc) (size:Nat) (xs ys:List Value):Nat->Nat->Option Bool
 |0,_=>some true
 |n+1,i=>match Vg d size (i * size) xs,Vg d size (i * size) ys with
  |some a,some b=>match f a b with
   |some r=>agU r (ac5 f d size xs ys n (i+1))
   |none=>none
  |_,_=>none
def DJ (P:Program):Nat->TypeId->Value->Value->Option Bool
 |0,_,_,_=>none
 |d+1,t,x,y=>match P.underlying t,x,y with
  |some .bool,.bool a,.bool b=>some (a==b)
  |some (.int _),.int k a,.int k' b=>cond (Dq k k') (some (a==b)) none
  |some .string,.string a,.string b=>some (strEq a b)
  |some (.struct fs),.agg xs,.agg ys=>cond (P.stoodInHeld t) none (ac4 P (DJ P d) xs.toList ys.toList fs.toList)
  |some (.array n e),.agg xs,.agg ys=>match P.underlying e,gG P e with
   |some de,some size=>ac5 (DJ P d e) de size xs.toList ys.toList n 0
   |_,_=>none
  |_,_,_=>none
def yL:BinOp->Option Bool
 | .eql=>some true
 | .neq=>some false
 |_=>none
def rY (P:Program) (op:BinOp) (t:TypeId) (x y:Value) (φ:Value->Prop):Prop:=
 match x with
 | .int _ _=>DT op x y φ
 | .string _=>DT op x y φ
 | .agg _=>match yL op,y with
  |some s,.agg _=>cond (P.eqGuardType P.depth t) False (match DJ P 16 t x y with
   |some b=>φ (.bool (cond s b (!b)))
   |none=>False)
  |_,_=>False
 |_=>match yL op,P.underlying t with
  |some true,some d=>Dp d x y λb=>φ (.bool b)
  |some false,some d=>Dp d x y λb=>φ (.bool !b)
  |_,_=>False
def G7 (op:UnOp) (x:Value) (φ:Value->Prop):Prop:=
 match op,x with
 | .neg,.int k n=>φ (.int k (k.wrap (0 - n)))
 | .not,.bool b=>φ (.bool !b)
 | .xor,.int k n=>φ (.int k (ad4 k (if k.signed then -1 else k.max) n))
 |_,_=>False
def vW (a:eG) (m l size:Nat):eG:=if m=l then a else a.map (·.add (l * size))
def nJ (s:eY) (size:Nat) (l h:Int) (K:eY->Prop):Prop:=
 0<=l/\l<=h/\h<=(s.cap:Int)/\K ⟨vW s.a s.cap l.toNat size,h.toNat - l.toNat,s.cap - l.toNat⟩
def I7 (s:eY) (size:Nat) (l h m:Int) (K:eY->Prop):Prop:=
 0<=l/\l<=h/\h<=m/\m<=(s.cap:Int)/\K ⟨vW s.a m.toNat l.toNat size,h.toNat - l.toNat,m.toNat - l.toNat⟩
def Z8 (a:Addr) (n size:Nat) (l h:Int) (K:eY->Prop):Prop:=
 0<=l/\l<=h/\h<=(n:Int)/\K ⟨some (if n=l.toNat then a else a.add (l.toNat * size)),h.toNat - l.toNat,n - l.toNat⟩
def Z9 (s:ByteArray) (l h:Int) (K:ByteArray->Prop):Prop:=
 0<=l/\l<=h/\h<=(s.size:Int)/\K (s.extract l.toNat h.toNat)
def iP (s:eY) (size:Nat) (i:Int) (K:Addr->Prop):Prop:=
 ∃a,s.a=some a/\0<=i/\i<(s.len:Int)/\K (a.add (i.toNat * size))
def aej (s:ByteArray) (i:Int) (K:Int->Prop):Prop:=
 ∃b:UInt8,0<=i/\s[i.toNat]? =some b/\K (b.toNat:Int)
def Cells (w:World) (a:Addr) (vs:List Value):Prop:=∀j,j<vs.length->w.cell? (a.add j)=vs[j]?
def ng (w:World):eG->Nat->List Value->Prop
 |none,_,vs=>vs=[]
 |some a,n,vs=>vs.length=n/\Cells w a vs
def setCells (w:World) (a:Addr):List Value->Nat->World
 |[],_=>w
 |v::vs,i=>setCells (w.setCell (a.add i) v) a vs (i+1)
def Kq (w:World) (a:Addr) (n:Nat):Prop:=∀j,j<n->(w.cell? (a.add j)).isSome=true/\w.frozen? (a.add j)=false
def C_ (P:Program) (t:TypeId):Option Nat:=
 match P.info? t with
 |some i=>some i.bytes
 |none=>none
def PX (e:TypeId) (size bytes:Nat) (z:List Value) (s:eY) (n:Nat) (vs:List Value) (w:World) (K:eY->b_):Prop:=
 (s.len+n<=s.cap/\(∀a,s.a=some a->Kq w (a.add (s.len * size)) vs.length)/\(∀v∈vs,iC v=true)/\
  K ⟨s.a,s.len+n,s.cap⟩ (match s.a with|some a=>setCells w (a.add (s.len * size)) vs 0|none=>w))\/
 (s.cap<s.len+n/\(s.len+n) * bytes<=2^46/\s.len+n<=2^62/\∃old,ng w s.a (s.len * size) old/\
  ∀c,s.len+n<=c->c<2^63->K ⟨some ⟨w.heap.size,0,none⟩,s.len+n,c⟩ (w.drew.alloc (.cells ⟨old++vs++fO z (c - (s.len+n))⟩ e)))
def uQ (e:TypeId) (size bytes:Nat) (z:List Value) (s x:eY) (w:World) (K:eY->b_):Prop:=
 ∃vs,ng w x.a (x.len * size) vs/\PX e size bytes z s x.len vs w K
def byteCells (s:ByteArray):List Value:=s.data.toList.map λb=> .int .u8 b.toNat
def aj6 (e:TypeId) (size bytes:Nat) (z:List Value) (s:eY) (x:ByteArray) (w:World) (K:eY->b_):Prop:=
 PX e size bytes z s x.size (byteCells x) w K
def abu (e:TypeId) (size bytes:Nat) (z:List Value) (s:eY) (n:Int) (w:World) (K:eY->b_):Prop:=
 0<=n/\n * bytes<=2^46/\n<=2^62/\PX e size bytes z s n.toNat (fO z n.toNat) w K
def abw (z:List Value) (s:eY) (w:World) (K:b_):Prop:=
 (∀a,s.a=some a->Kq w a (s.len * z.length))/\(∀v∈z,iC v=true)/\K (match s.a with|some a=>setCells w a (fO z s.len) 0|none=>w)
def EO (size:Nat) (d s:eY) (w:World) (K:Int->b_):Prop:=
 ∃vs,ng w s.a (Nat.min s.len d.len * size) vs/\(∀a,d.a=some a->Kq w a vs.length)/\(∀v∈vs,iC v=true)/\
  K (Nat.min s.len d.len:Nat) (match d.a with|some a=>setCells w a vs 0|none=>w)
def VA (e:TypeId) (size bytes:Nat) (z:List Value) (n c:Int) (w:World) (K:eY->b_):Prop:=
 0<=n/\n<=c/\c<=2^62/\(bytes:Int) * c<=2^48/\
  K ⟨some ⟨w.heap.size,0,none⟩,n.toNat,c.toNat⟩ (w.alloc (.cells ⟨fO z c.toNat⟩ e))
def partOf (d:TypeDesc) (size off:Nat) (cs:List Value) (φ:Value->Prop):Prop:=
 cond (Cm d) (φ (.agg ⟨(cs.drop off).take size⟩))
  (match cs[off]? with
   |some v=>φ v
   |none=>False)
def cellsOfV:Value->List Value
 | .agg cs=>cs.toList
 |v=>[v]
def splice (cs:List Value) (off:Nat) (vs:List Value):List Value:=cs.take off++(vs++cs.drop (off+vs.length))
def yR (place:Nat->Option (Nat×Nat)):List (Nat×Value)->List Value->Option (List Value)
 |[],cs=>some cs
 |(i,v)::r,cs=>match place i with
  |some (off,size)=>cond (Nat.beq (cellsOfV v).length size && Nat.ble (off+size) cs.length) (yR place r (splice cs off (cellsOfV v))) none
  |none=>none
def Ob:List (Nat×Value)->List Value->Option (List Value)
 |[],cs=>some cs
 |(i,v)::r,cs=>cond (Nat.blt i cs.length) (Ob r (cs.set i v)) none
def MC:List Value->Prop
 |[]=>True
 |v::r=>iC v=true/\MC r
def UF:Option Shape->Bool
 |some (.one .any)=>true
 |_=>false
def jG (P:Program) (t:TypeId):Option (List Value):=
 match P.info? t with
 |some i=>match i.zero with
  |some z=>some (cellsOfV z)
  |none=>none
 |none=>none
def placesOf (P:Program):List Field->Option (List (Nat×Nat))
 |[]=>some []
 |f::r=>match gG P f.type,placesOf P r with
  |some s,some l=>some ((f.offset,s)::l)
  |_,_=>none
def yw (P:Program) (fs:Array Field) (i:Nat):Option (Nat×Nat):=
 match fs.toList[i]? with
 |some f=>match gG P f.type with
  |some s=>some (f.offset,s)
  |none=>none
 |none=>none
def jZ (P:Program) (f:FuncId):Bool:=
 match P.funcs[f]? with
 |some fn=>fn.body.isSome
 |none=>false
def aj7 (P:Program) (f:FuncId) (args:List Value) (w:World) (K:Value->b_):Prop:=
 ∃v w',(callFunc f ⟨args⟩).run P w= .ok (.value v) w'/\K v w'
def EM (P:Program) (sh:List Shape) (f:FuncId) (args:List Value) (w:World) (K:Value->b_):Prop:=
 Calls P f ⟨args⟩ w λe w'=>oD sh λvs=>e= .returned (kW vs)/\K (kW vs) w'
def BZ (P:Program) (l:Nat) (args:List Value) (w:World) (K:Bool->b_):Prop:=
 YieldAt Fence.wide 0 P l ⟨args⟩ w λe w'=>∃b:Bool,e= .returned (.bool b)/\K b w'
def iY (P:Program) (sh:List Shape) (v:Value) (args:List Value) (w:World) (K:Value->b_):Prop:=
 match v with
 | .func (.func f) first cap=>cond (jZ P f) (EM P sh f (first.toList++(args++cap.toList)) w K) False
 | .func (.yield l) first _=>BZ P l (first.toList++args) w λb w'=>K (.bool b) w'
 |_=>False
def I5 (w:World) (r:Option Nat) (φ:Int->Prop):Prop:=
 match r with
 |none=>φ 0
 |some b=>∃es clock,w.heap[b]? =some (.map es clock)/\φ (es.size:Int)
def Na (d:TypeDesc) (x:Value) (w:World) (φ:Int->Prop):Prop:=
 match d,x with
 | .string,.string s=>φ (s.size:Int)
 | .array n _,_=>φ (n:Int)
 | .slice _,.slice _ n _=>φ (n:Int)
 | .map _ _,.map r=>I5 w r φ
 |_,_=>False
def zn (mx:Bool):Int->List Value->IntKind->(Value->Prop)->Prop
 |x,[],k,φ=>φ (.int k x)
 |x,.int _ y::r,k,φ=>zn mx (cond mx (if y>x then y else x) (if y<x then y else x)) r k φ
 |_,_::_,_,_=>False
def eY.v (s:eY):Value:= .slice s.a s.len s.cap
def afz:Value->Bool
 | .int _ _=>true
 | .bool _=>true
 | .string _=>true
 |_=>false
def NG:Value->Bool
 | .agg cs=>cs.toList.all afz
 |v=>afz v
def oM (P:Program) (kt:TypeId) (key:Value):List MapEntry->Nat->Option (Option (Nat×Value))
 |[],_=>some none
 |e::es,i=>match DJ P 16 kt key e.key with
  |some true=>some (some (i,e.val))
  |some false=>oM P kt key es (i+1)
  |none=>none
def nS (P:Program) (kt:TypeId) (key:Value):Bool:=NG key && (DJ P 16 kt key key).isSome
def zQ (P:Program) (kt:TypeId) (k:Kind) (r:Option Nat) (key zero:Value) (w:World) (K:k.T->Prop):Prop:=
 nS P kt key=true/\((r=none/\k.dec zero K)\/∃b es clock,r=some b/\w.heap[b]? =some (.map es clock)/\∃res,oM P kt key es.toList 0=some res/\k.dec (match res with|some (_,v)=>v|none=>zero) K)
def Bo (P:Program) (kt:TypeId) (r:Option Nat) (key zero:Value) (w:World) (K:Value->Bool->Prop):Prop:=
 nS P kt key=true/\((r=none/\K zero false)\/∃b es clock,r=some b/\w.heap[b]? =some (.map es clock)/\∃res,oM P kt key es.toList 0=some res/\
  match res with|some (_,v)=>K v true|none=>K zero false)
def zS (P:Program) (kt:TypeId) (r:Option Nat) (key val:Value) (w:World) (K:b_):Prop:=
 nS P kt key=true/\∃b es clock,r=some b/\w.heap[b]? =some (.map es clock)/\∃res,oM P kt key es.toList 0=some res/\
  match res with
  |some (i,_)=>(∃e,es[i]? =some e/\e.key=key)/\K (w.putObj b (.map (es.modify i λe=>{e with key:=key,val:=val}) clock))
  |none=>K (w.putObj b (.map (es.push {key:=key,val:=val,born:=clock}) (clock+1)))
def Me (P:Program) (kt:TypeId) (r:Option Nat) (key:Value) (w:World) (K:b_):Prop:=
 nS P kt key=true/\((r=none/\K w)\/∃b es clock,r=some b/\w.heap[b]? =some (.map es clock)/\∃res,oM P kt key es.toList 0=some res/\
  match res with
  |some (i,_)=>K (w.putObj b (.map (es.eraseIdxIfInBounds i) clock))
  |none=>K (w.putObj b (.map es clock)))
def ZX (P:Program) (kt:TypeId) (r:Option Nat) (key zero:Value) (w:World) (K:Value->Int->b_):Prop:=
 nS P kt key=true/\∃b es clock,r=some b/\w.heap[b]? =some (.map es clock)/\∃res,oM P kt key es.toList 0=some res/\
  match res with
  |some (i,v)=>∃e,es[i]? =some e/\e.key=key/\K v (e.born:Int) (w.putObj b (.map (es.modify i λe=>{e with key:=key}) clock))
  |none=>K zero (clock:Int) (w.putObj b (.map (es.push {key:=key,val:=zero,born:=clock}) (clock+1)))
def aea (r:Option Nat) (stamp:Int) (val:Value) (w:World) (K:b_):Prop:=
 ∃b es clock i,r=some b/\w.heap[b]? =some (.map es clock)/\es.findIdx? (λe=>(e.born:Int)==stamp)=some i/\K (w.putObj b (.map (es.modify i λe=>{e with val:=val}) clock))
def VB (r:Option Nat) (w:World) (K:Addr->b_):Prop:=
 (r=none/\K ⟨w.heap.size,0,none⟩ (w.alloc (.mapIter none 0 #[] 0)))\/
 ∃b es clock,r=some b/\w.heap[b]? =some (.map es clock)/\K ⟨w.heap.size,0,none⟩ (w.alloc (.mapIter (some b) clock #[] clock))
def abB (q:Nat) (w:World) (Kend:b_) (Kstep:Value->Value->b_):Prop:=
 (∃s sn c,w.heap[q]? =some (.mapIter none s sn c)/\Kend w)\/
 ∃b since seen c0 es clock,w.heap[q]? =some (.mapIter (some b) since seen c0)/\w.heap[b]? =some (.map es clock)/\(∀x∈es.toList,x.born<since)/\since<=c0/\
  ((leftOf es seen).size=0->Kend w)/\
  ∀e∈(leftOf es seen).toList,∀w1,(w1=w\/w1=w.drew)->Kstep e.key e.val (w1.putObj q (.mapIter (some b) since (seen.push e.born) clock))
def Vy (q:Nat) (w:World) (K:Value->Value->Prop):Prop:=
 ∃b since seen es clock e,w.heap[q]? =some (.mapIter (some b) since (Array.push seen e.born) clock)/\w.heap[b]? =some (.map es clock)/\e∈es.toList/\(es.toList.map (·.born)).Nodup/\K e.key e.val
def qM (P:Program) (t:TypeId):Option Value:=
 match P.info? t with
 |some i=>i.zero
 |none=>none
def iW (P:Program) (b:Builtin) (ts:List TypeId) (args:List Value) (w:World) (K:Value->b_):Prop:=
 match b,ts,args with
 | .len,[t],[x]=>match P.underlying t with
  |some d=>Na d x w λn=>K (.int .i64 n) w
  |none=>False
 | .cap,[t],[.slice _ _ c]=>match P.underlying t with
  |some (.slice _)=>K (.int .i64 (c:Int)) w
  |_=>False
 | .max,_,.int k x::r=>zn true x r k λv=>K v w
 | .min,_,.int k x::r=>zn false x r k λv=>K v w
 | .append,[t,t'],[.slice a l c,x]=>match P.underlying t,P.underlying t' with
  |some (.slice e),some d=>match gG P e,C_ P e,jG P e,d,x with
   |some size,some bytes,some z,.slice _,.slice b n m=>uQ e size bytes z ⟨a,l,c⟩ ⟨b,n,m⟩ w λs w'=>K s.v w'
   |some size,some bytes,some z,.string,.string s=>aj6 e size bytes z ⟨a,l,c⟩ s w λs w'=>K s.v w'
   |some size,some bytes,some z,.int _,.int _ n=>cond (Nat.beq z.length size) (abu e size bytes z ⟨a,l,c⟩ n w λs w'=>K s.v w') False
   |_,_,_,_,_=>False
  |_,_=>False
 | .copy,[t,_],[.slice a l c,.slice b n m]=>match P.underlying t with
  |some (.slice e)=>match gG P e with
   |some size=>EO size ⟨a,l,c⟩ ⟨b,n,m⟩ w λn w'=>K (.int .i64 n) w'
   |none=>False
  |_=>False
 | .clear,[t],[.slice a n c]=>match P.underlying t with
  |some (.slice e)=>match gG P e,jG P e with
   |some size,some z=>cond (Nat.beq z.length size) (abw z ⟨a,n,c⟩ w λw'=>K (.tuple #[]) w') False
   |_,_=>False
  |_=>False
 | .delete,[t,_],[.map r,key]=>match P.underlying t with
  |some (.map kt _)=>Me P kt r key w λw'=>K (.tuple #[]) w'
  |_=>False
 |_,_,_=>False
def wz (ρ:Operand->Value) (x:Option Operand) (dflt:Int) (φ:Int->Prop):Prop:=
 match x with
 |none=>φ dflt
 |some o=>match ρ o with
  | .int _ n=>φ n
  |_=>False
def AX (P:Program) (t:TypeId) (x:Value) (ρ:Operand->Value) (lo hi mx:Option Operand) (φ:Value->Prop):Prop:=
 match P.underlying t,x with
 |some .string,.string s=>match mx with
  |none=>wz ρ lo 0 λl=>wz ρ hi (s.size:Int) λh=>Z9 s l h λs'=>φ (.string s')
  |some _=>False
 |some (.slice e),.slice a n c=>match gG P e with
  |some size=>match mx with
   |none=>wz ρ lo 0 λl=>wz ρ hi (n:Int) λh=>nJ ⟨a,n,c⟩ size l h λs'=>φ s'.v
   |some m=>match hi with
    |some _=>wz ρ lo 0 λl=>wz ρ hi 0 λh=>wz ρ (some m) 0 λm'=>I7 ⟨a,n,c⟩ size l h m' λs'=>φ s'.v
    |none=>False
  |none=>False
 |some (.array n e),.pointer (some a)=>match gG P e with
  |some size=>match mx with
   |none=>wz ρ lo 0 λl=>wz ρ hi (n:Int) λh=>Z8 a n size l h λs'=>φ s'.v
   |some _=>False
  |none=>False
 |_,_=>False
def zi (P:Program) (s d:TypeId) (x:Value) (φ:Value->Prop):Prop:=
 match P.underlying s,P.underlying d,x with
 |some _,some (.int k),.int _ n=>φ (.int k (k.wrap n))
 |some _,some .string,.string b=>φ (.string b)
 |_,_,_=>False
def uS (w:World) (s:eY) (K:ByteArray->Prop):Prop:=
 ∃b:ByteArray,b.size=s.len/\ng w s.a s.len (byteCells b)/\K b
def Ko (e:TypeId) (s:ByteArray) (w:World) (K:eY->b_):Prop:=
 s.size<=2^62/\∀c,s.size<=c->c<2^63->K ⟨some ⟨w.heap.size,0,none⟩,s.size,c⟩ (w.drew.alloc (.cells ⟨byteCells s++fO [.int .u8 0] (c - s.size)⟩ e (c,c+1)))
def aeg (a:Addr) (w:World) (K:b_):Prop:=∃T n,w.shape? a.block=some (T,n)/\K (w.freeze ⟨a.block,n,none⟩ 1)
def Rj (P:Program) (t:TypeId) (name:String):Option FuncId:=
 match P.info? t with
 |some i=>match i.methods.find? (·.name==name) with
  |some m=>match m.path.toList,m.func with
   |[],some (f,false)=>some f
   |_,_=>none
  |none=>none
 |none=>none
def Jr:TypeDesc->Bool
 | .pointer _=>true
 |_=>false
def agN (P:Program) (sh:List Shape) (x:Value) (name:String) (args:List Value) (w:World) (K:Value->b_):Prop:=
 match x with
 | .iface t v=>match P.underlying t,Rj P t name with
  |some d,some f=>cond (!Jr d && jZ P f) (EM P sh f (v::args) w K) False
  |_,_=>False
 |_=>False
def NS (P:Program) (op:BinOp) (t:TypeId) (x y:Value) (φ:Value->Prop):Prop:=
 match yL op,P.underlying t,x,y with
 |some s,some (.interface _),.nilIface,.nilIface=>φ (.bool s)
 |some s,some (.interface _),.iface _ _,.nilIface=>φ (.bool (!s))
 |_,_,_,_=>False
def AsP (z:Value) (t:TypeId) (x:Value) (ok:Bool) (K:Value->Prop):Prop:=
 match x with
 | .iface t' v=>cond (Nat.beq t' t) (K (cond ok (.tuple ⟨[v,.bool true]⟩) v)) (cond ok (K (.tuple ⟨[z,.bool false]⟩)) False)
 | .nilIface=>cond ok (K (.tuple ⟨[z,.bool false]⟩)) False
 |_=>False
def uK (P:Program) (o:Oper) (ρ:Operand->Value) (w:World) (K:Value->b_):Prop:=
 match o.op with
 | .move x=>K (ρ x) w
 | .assign x=>K (ρ x) w
 | .pick c a b=>match ρ c with
  | .bool t=>cond t (K (ρ a) w) (K (ρ b) w)
  |_=>False
 | .alloc e=>match jG P e with
  |some z=>K (Rl w) (w.alloc (.cells ⟨z⟩ e))
  |none=>False
 | .box e x=>match shapeOf P e with
  |some (.one _)=>iC (ρ x)=true/\K (Rl w) (w.alloc (.cells ⟨[ρ x]⟩ e))
  |some (.agg _)=>match ρ x with
   | .agg cs=>K (Rl w) (w.alloc (.cells cs e))
   |_=>False
  |none=>False
 | .build t ps=>match jG P t,P.underlying t with
  |some z,some (.struct fs)=>match placesOf P fs.toList with
   |some pl=>match yR (λi=>pl[i]?) (ps.toList.map λp=>(p.1,ρ p.2)) z with
    |some cs=>K (.agg ⟨cs⟩) w
    |none=>False
   |none=>False
  |some z,some (.array _ e)=>match gG P e with
   |some size=>match yR (λi=>some (i * size,size)) (ps.toList.map λp=>(p.1,ρ p.2)) z with
    |some cs=>K (.agg ⟨cs⟩) w
    |none=>False
   |none=>False
  |_,_=>False
 | .buildSlice t n ps=>match P.underlying t with
  |some (.slice e)=>match gG P e,jG P e with
   |some size,some z=>cond (Nat.ble (n * size) 4096 && Nat.beq z.length size)
    (cond (UF (shapeOf P e)) (cond (Nat.beq size 1) (MC (ps.toList.map λp=>ρ p.2)/\(match Ob (ps.toList.map λp=>(p.1,ρ p.2)) (fO z n) with
     |some cs=>K (.slice (some ⟨w.heap.size,0,none⟩) n n) (w.alloc (.cells ⟨cs⟩ e))
     |none=>False)) False)
     (match yR (λi=>some (i * size,size)) (ps.toList.map λp=>(p.1,ρ p.2)) (fO z n) with
     |some cs=>K (.slice (some ⟨w.heap.size,0,none⟩) n n) (w.alloc (.cells ⟨cs⟩ e))
     |none=>False)) False
   |_,_=>False
  |_=>False
 | .load t x=>match ρ x,shapeOf P t,gG P t with
  | .pointer (some a),some sh,some n=>cond (Nat.beq sh.cells n) (sh.ld w a λv=>K v w) False
  |_,_,_=>False
 | .store t x y=>match ρ x,shapeOf P t,gG P t with
  | .pointer (some a),some (.one _),some n=>cond (Nat.beq n 1) (St w a (ρ y) λw'=>K undef w') False
  | .pointer (some a),some (.agg _),some n=>match ρ y with
   | .agg cs=>cond (Nat.beq cs.toList.length n) (iL cs.toList w a 0 λw'=>K undef w') False
   |_=>False
  |_,_,_=>False
 | .nilCheck x=>match ρ x with
  | .pointer q=>∃a,q=some a/\K (.pointer (some a)) w
  |_=>False
 | .binOp op t x y _=>match y with
  | .const .nilIface=>NS P op t (ρ x) (ρ (.const .nilIface)) λv=>K v w
  |y=>rY P op t (ρ x) (ρ y) λv=>K v w
 | .unOp op _ x=>G7 op (ρ x) λv=>K v w
 | .convert s d x=>match P.underlying s,P.underlying d,ρ x with
  |some (.slice e),some .string,.slice a n c=>match P.underlying e with
   |some (.int .u8)=>uS w ⟨a,n,c⟩ λb=>K (.string b) w
   |_=>False
  |some .string,some (.slice e),.string b=>match P.underlying e with
   |some (.int .u8)=>Ko e b w λs' w'=>K s'.v w'
   |_=>False
  |some (.slice _),some (.slice e),.slice (some a) n c=>match P.underlying e,Nat.beq s d with
   |some (.int .u8),true=>aeg a w λw'=>K (.slice (some a) n c) w'
   |_,_=>False
  |_,_,v=>zi P s d v λv=>K v w
 | .makeFunc fn first cap=>K (.func fn ⟨first.toList.map ρ⟩ ⟨cap.toList.map ρ⟩) w
 | .lookup t x i false=>match P.underlying t,ρ x with
  |some (.map kt et),.map r=>match shapeOf P et,qM P et with
   |some (.one k),some z=>zQ P kt k r (ρ i) z w λx=>K (k.enc x) w
   |some (.agg ks),some z=>Bo P kt r (ρ i) z w λv _=>(Shape.agg ks).ex λv'=>v=v'/\K v' w
   |_,_=>False
  |_,_=>False
 | .lookup t x i true=>match P.underlying t,ρ x with
  |some (.map kt et),.map r=>match shapeOf P et,qM P et with
   |some sh,some z=>Bo P kt r (ρ i) z w λv b=>sh.ex λv'=>v=v'/\K (.tuple ⟨[v',.bool b]⟩) w
   |_,_=>False
  |_,_=>False
 | .mapUpdate t x i v=>match P.underlying t,ρ x with
  |some (.map kt _),.map r=>zS P kt r (ρ i) (ρ v) w λw'=>K undef w'
  |_,_=>False
 | .mapEntry t x i=>match P.underlying t,ρ x with
  |some (.map kt et),.map r=>match qM P et with
   |some z=>ZX P kt r (ρ i) z w λv n w'=>K (.tuple ⟨[v,.int .i64 n]⟩) w'
   |none=>False
  |_,_=>False
 | .entryStore _ x st v=>match ρ x,ρ st with
  | .map r,.int _ n=>aea r n (ρ v) w λw'=>K undef w'
  |_,_=>False
 | .makeMap _ none=>K (.map (some w.heap.size)) (w.alloc (.map #[] 0))
 | .makeSlice t l c=>match P.underlying t,ρ l,ρ c with
  |some (.slice e),.int _ n,.int _ m=>match gG P e,C_ P e,jG P e with
   |some size,some bytes,some z=>cond (Nat.beq z.length size) (VA e size bytes z n m w λs w'=>K s.v w') False
   |_,_,_=>False
  |_,_,_=>False
 | .slice t x lo hi mx=>AX P t (ρ x) ρ lo hi mx λv=>K v w
 | .fieldAddr t x f=>match P.underlying t,ρ x with
  |some (.struct fs),.pointer (some a)=>match yw P fs f with
   |some (off,size)=>cond (Nat.beq size 0) False (K (.pointer (some (a.add off))) w)
   |none=>False
  |_,_=>False
 | .field t x f=>match P.underlying t,ρ x with
  |some (.struct fs),.agg cs=>match fs.toList[f]? with
   |some fd=>match P.underlying fd.type,gG P fd.type with
    |some d,some size=>partOf d size fd.offset cs.toList λv=>K v w
    |_,_=>False
   |none=>False
  |_,_=>False
 | .indexAddr t x i=>match P.underlying t,ρ x,ρ i with
  |some (.slice e),.slice a n c,.int _ i=>match gG P e with
   |some size=>iP ⟨a,n,c⟩ size i λa'=>K (.pointer (some a')) w
   |none=>False
  |some (.array n e),.pointer (some a),.int _ i=>match gG P e with
   |some size=>0<=i/\i<(n:Int)/\K (.pointer (some (a.add (i.toNat * size)))) w
   |none=>False
  |_,_,_=>False
 | .index t x i=>match P.underlying t,ρ x,ρ i with
  |some .string,.string s,.int _ i=>aej s i λn=>K (.int .u8 n) w
  |some (.array n e),.agg cs,.int _ i=>match P.underlying e,gG P e with
   |some d,some size=>0<=i/\i<(n:Int)/\partOf d size (i.toNat * size) cs.toList λv=>K v w
   |_,_=>False
  |_,_,_=>False
 | .extract t i=>match ρ t with
  | .tuple vs=>match vs.toList[i]? with
   |some v=>match shapeOf P o.type with
    |some (.one k)=>k.dec v λx=>K (k.enc x) w
    |_=>K v w
   |none=>False
  |_=>False
 | .range t x=>match P.underlying t,ρ x with
  |some (.map _ _),.map r=>VB r w λa w'=>K (.pointer (some a)) w'
  |_,_=>False
 | .next x false=>match ρ x with
  | .pointer (some a)=>a=⟨a.block,0,none⟩/\abB a.block w (K (.tuple ⟨[.bool false]⟩)) λk v w'=>K (.tuple ⟨[.bool true,k,v]⟩) w'
  |_=>False
 | .entry x=>match ρ x with
  | .pointer (some a)=>a=⟨a.block,0,none⟩/\Vy a.block w λk v=>K (.tuple ⟨[k,v]⟩) w
  |_=>False
 | .makeInterface t x=>match P.underlying t with
  |some (.interface _)=>False
  |some _=>K (.iface t (ρ x)) w
  |none=>False
 | .typeAssert x _ t ok=>match P.underlying t,qM P t with
  |some (.interface _),_=>False
  |some _,some z=>AsP z t (ρ x) ok λv=>K v w
  |_,_=>False
 | .call c=>match c.callee with
  | .value (.func f)=>match xq P o.type with
   |some sh=>cond (jZ P f) (EM P sh f (c.args.toList.map ρ) w K) (aj7 P f (c.args.toList.map ρ) w λr w'=>oD sh λvs=>r=kW vs/\K (kW vs) w')
   |none=>False
  | .value x=>match xq P o.type with
   |some sh=>iY P sh (ρ x) (c.args.toList.map ρ) w λr w'=>oD sh λvs=>r=kW vs/\K (kW vs) w'
   |none=>False
  | .builtin b=>iW P b c.argTypes.toList (c.args.toList.map ρ) w K
  | .invoke x name=>match xq P o.type with
   |some sh=>agN P sh (ρ x) name (c.args.toList.map ρ) w K
   |none=>False
 |_=>False
abbrev Env:=List (Nat×Value)
def Env.get:Env->Nat->Option Value
 |[],_=>none
 |(s,v)::r,t=>cond (Nat.beq s t) (some v) (Env.get r t)
def Env.put (env:Env) (d:Option Nat) (v:Value):Env:=
 match d with
 |some s=>(s,v)::env
 |none=>env
def evO (env:Env):Operand->Option Value
 | .tmp t=>env.get t
 | .const v=>some v
 | .global g=>some (.pointer (some ⟨g,0,none⟩))
 | .func f=>some (.func (.func f) #[] #[])
def ev (env:Env) (x:Operand):Value:=(evO env x).getD undef
def OY (env:Env):List Operand->Bool
 |[]=>true
 |x::r=>(evO env x).isSome && OY env r
def nR (nt:Nat):Option Nat->Bool
 |some d=>Nat.blt d nt
 |none=>true
def split (g:Bool) (v:Value) (K:Value->Prop):Prop:=
 cond g (match v with| .bool b=>cond b (K (.bool true)) (K (.bool false))|v=>K v) (K v)
def qX (P:Program) (nt:Nat) (o:Oper) (g:Bool) (env:Env) (w:World) (K:Env->b_):Prop:=
 cond (OY env o.op.operands.toList && nR nt o.dst)
  (uK P o (ev env) w λv w'=>split g v λv'=>K (env.put o.dst v') w') False
def mY (P:Program) (nt:Nat) (ops:List Oper) (o:Oper) (g:Bool) (env:Env) (w:World) (K:Env->b_):Prop:=
 match o.guard with
 |none=>qX P nt o g env w K
 |some (j,want)=>match (ops[j]?).bind (·.dst) with
  |some s=>match env.get s with
   |some (.bool t)=>cond (t==want) (qX P nt o g env w K) (cond (nR nt o.dst) (K (env.put o.dst undef) w) False)
   |some (.tuple _)=>cond (nR nt o.dst) (K (env.put o.dst undef) w) False
   |_=>False
  |none=>False
def Lm (ops:List Oper) (i:Nat):Bool:=
 ops.any λo=>match o.guard with
  |some (j,_)=>Nat.beq j i
  |none=>false
def RU (P:Program) (nt:Nat) (ops:List Oper):Nat->List Oper->Env->World->(Env->b_)->Prop
 |_,[],env,w,K=>K env w
 |i,o::r,env,w,K=>mY P nt ops o (Lm ops i) env w λenv' w'=>RU P nt ops (i+1) r env' w' K
end Gp
end
section
namespace Gp
open Go
def Ran (P:Program) (K:Value->b_):Result Next->Prop
 | .ok (.value v) w=>K v w
 | .ok .skip w=>K undef w
 | .ok (.enter f args) w=>Calls P f args w λe w'=>∃v,e= .returned v/\K v w'
 | .ok (.round l f tmps assign body) w=>RoundIn Fence.wide 0 P l f tmps assign body w λe w'=>∃v,e= .returned v/\K v w'
 |_=>False
theorem Ran.mono {P:Program} {K K':Value->b_} (h:∀v w,K v w->K' v w) {r:Result Next} (hr:Ran P K r):Ran P K' r:=by
 cases r with
 |ok x w=>
  cases x<;>simp only[Ran] at hr ⊢<;>first
   |exact h _ _ hr
   |exact Calls.mono hr λe w' ⟨v,hv,hk⟩=>⟨v,hv,h _ _ hk⟩
   |exact RoundIn.mono hr λe w' ⟨v,hv,hk⟩=>⟨v,hv,h _ _ hk⟩
 |halt x w=>exact hr.elim
structure ET (P:Program):Prop where
 enter:∀(f:FuncId) (fn:Func),P.funcs[f]? =some fn->fn.body.isSome=true->(fn.name=="runtime.NumGoroutine")=false
 mixed:P.follows .mixedOrders=true
section
variable {P:Program} {w:World}
theorem run_underlying {t:TypeId} {d:TypeDesc} (h:P.underlying t=some d):(underlying t).run P w= .ok d w:=by
 simp[underlying,h]
theorem run_typeInfo {t:TypeId} {i:TypeInfo} (h:P.info? t=some i):(typeInfo t).run P w= .ok i w:=by
 simp[typeInfo,h]
theorem iV {t:TypeId} {n:Nat} (h:gG P t=some n):(Go.sizeOf t).run P w= .ok n w:=by
 unfold gG at h;split at h
 ·rename_i i hi;simp only[Option.some.injEq] at h;simp[Go.sizeOf,run_typeInfo hi,h]
 ·cases h
theorem rE {t:TypeId} {n:Nat} (h:gG P t=some n):∃i,P.info? t=some i/\i.size=n:=by
 unfold gG at h;split at h
 ·rename_i i hi;exact⟨i,hi,by simpa using h⟩
 ·cases h
theorem xC {t:TypeId} {n:Nat} (h:C_ P t=some n):∃i,P.info? t=some i/\i.bytes=n:=by
 unfold C_ at h;split at h
 ·rename_i i hi;exact⟨i,hi,by simpa using h⟩
 ·cases h
theorem NV (v:Value):cellsOfV v=v.cells.toList:=by cases v<;>rfl
theorem mD {t:TypeId} {z:List Value} (h:jG P t=some z):∃i v,P.info? t=some i/\i.zero=some v/\v.cells.toList=z:=by
 unfold jG at h;split at h
 ·rename_i i hi;split at h
  ·rename_i v hv;exact⟨i,v,hi,hv,by rw[<- NV];simpa using h⟩
  ·cases h
 ·cases h
theorem vX {t:TypeId} {z:List Value} (h:jG P t=some z):∃v,(zeroValue t).run P w= .ok v w/\v.cells=⟨z⟩:=by
 obtain⟨i,v,hi,hv,hz⟩:=mD h;exact⟨v,by simp[zeroValue,run_typeInfo hi,hv],by rw[<- hz]⟩
theorem GN {t:TypeId} {d:TypeDesc} (h:P.underlying t=some d):(isAgg t).run P w= .ok (Cm d) w:=by
 simp only[isAgg,Sem.run_bind,run_underlying h,Result.andThen_ok]
 cases d<;>rfl
theorem adp (v:Value):iC v=v.oneCell':=by cases v<;>rfl
theorem Oh {v:Value} (h:iC v=true):v.cells= #[v]:=by cases v<;>first|rfl|(simp[iC] at h)
theorem add_zero' (a:Addr):a.add 0=a:=by simp[Addr.add]
theorem add_add (a:Addr) (i j:Nat) (h:i=0->a.spot=none\/j=0\/True):(a.add i).add j=a.add (i+j):=by
 unfold Addr.add;by_cases hi:i=0
 ·simp[hi]
 ·by_cases hj:j=0
  ·simp[hi,hj]
  ·simp[hi,hj,Nat.add_assoc]
theorem acB {a:Addr}:∀(ks:List Kind) (i:Nat) (φ:List Value->Prop),LdN ks w a i φ->
  ∃vs,vs.length=ks.length/\(∀j v,vs[j]? =some v->w.cell? (a.add (i+j))=some v)/\φ vs:=by
 intro ks
 induction ks with
 |nil=>exact λi φ h=>⟨[],rfl,by simp,h⟩
 |cons k ks ih=>
  rintro i φ ⟨x,hx,h⟩;obtain⟨vs,hl,hc,hφ⟩:=ih (i+1) _ h;refine⟨k.enc x::vs,by simp[hl],λj v hj=> ?_,hφ⟩
  cases j with
  |zero=>simp at hj;subst hj;simpa using hx
  |succ j=>rw[show i+(j+1)=i+1+j by omega];exact hc j v (by simpa using hj)
theorem Oz {t:TypeId} {sh:Shape} {n:Nat} {a:Addr} {φ:Value->Prop} (hs:shapeOf P t=some sh) (hn:gG P t=some n) (hc:sh.cells=n)
  (h:sh.ld w a φ):∃v,(loadVar t a).run P w= .ok v w/\φ v:=by
 unfold shapeOf at hs
 cases hd:P.underlying t with
 |none=>simp[hd] at hs
 |some d=>
  simp only[hd] at hs
  cases hg:Cm d with
  |false=>
   simp only[hg,cond_false] at hs
   cases hk:kindOf d with
   |none=>simp[hk] at hs
   |some k=>
    simp only[hk,Option.some.injEq] at hs;subst hs;obtain⟨x,hx,h⟩:=h;exact⟨k.enc x,by simp[loadVar,GN hd,hg,hx],h⟩
  |true=>
   simp only[hg,cond_true] at hs
   cases hk:Gz P 20 t with
   |none=>simp[hk] at hs
   |some ks=>
    simp only[hk,Option.some.injEq] at hs;subst hs;obtain⟨vs,hl,u,hφ⟩:=acB ks 0 _ h;refine⟨.agg ⟨vs⟩,?_,hφ⟩;have hlen:vs.length=n:=by rw[hl];exact hc
    have:=run_loadCells_list (P:=P) (w:=w) a vs (λj v hj=>by simpa using u j v hj);simp only[loadVar,Sem.run_bind,GN hd,hg,Result.andThen_ok,if_true,iV hn];rw[<- hlen,this];rfl
theorem Z7 {a:Addr} {v:Value} {K:b_} (h:St w a v K):(store a v).run P w= .ok () (w.setCell a v)/\K (w.setCell a v):=by
 obtain⟨h1,h2,h3,h4⟩:=h;refine⟨?_,h4⟩;rw[run_store P w a v .plain (by rw[<- adp];exact h1)]
 cases hc:w.cell? a with
 |none=>simp[hc] at h2
 |some u=>simp[h3]
theorem agS {a:Addr} {K:b_}:∀(vs:List Value) (w:World) (i:Nat),iL vs w a i K->∃w',(storeCells a vs i).run P w= .ok () w'/\K w':=by
 intro vs
 induction vs with
 |nil=>exact λw i h=>⟨w,rfl,h⟩
 |cons v vs ih=>
  intro w i h;obtain⟨h1,h2⟩:=Z7 (P:=P) h;obtain⟨w',h3,h4⟩:=ih _ _ h2;exact⟨w',by simp[storeCells,h1,h3],h4⟩
end
end Gp
end
section
namespace Gp
open Go
theorem VK {α β:Type} (f:α->β) (xs:Array α):xs.map f=⟨xs.toList.map f⟩:=Array.toList_inj.mp (by simp)
theorem yO (z:List Value) (n:Nat):(fO z n).length=n * z.length:=by
 induction n with
 |zero=>simp[fO]
 |succ n ih=>simp[fO,ih,Nat.add_mul];omega
theorem LX {z:List Value} {v:Value}:∀{n:Nat},v∈fO z n->∃k:Nat,k<n/\v∈z
 |0,h=>by simp[fO] at h
 |n+1,h=>by
  rcases List.mem_append.1 (show v∈z++fO z n from h) with h|h
  ·exact⟨0,by omega,h⟩
  ·obtain⟨k,hk,hv⟩:=LX h;exact⟨k,by omega,hv⟩
theorem ad2 {n:Int} (h1: -9223372036854775808<=n) (h2:n<=9223372036854775807):IntKind.i64.wrap n=n:=by
 rw[IntKind.wrap_i64];omega
theorem Zx (z:Array Value):∀n,(List.range (n * z.size)).map (λi=>z[i % z.size]!)=fO z.toList n:=by
 intro n
 induction n with
 |zero=>simp[fO]
 |succ n ih=>
  have e:(n+1) * z.size=z.size+n * z.size:=by rw[Nat.add_mul];omega
  rw[e,List.range_add,List.map_append,fO,map_map];congr 1
  ·apply List.ext_getElem
   ·simp
   ·intro i h1 h2;simp at h1;simp[Nat.mod_eq_of_lt h1,h1]
  ·rw[<- ih];apply List.map_congr_left;intro i _;simp
theorem mZ (z:Array Value) (n:Nat):Builtin.zeroCells z n=⟨fO z.toList n⟩:=by
 apply Array.toList_inj.mp;simp only[Builtin.zeroCells,Array.toList_map,Array.toList_range];exact Zx z n
theorem Xa (z:Array Value) (n:Nat):madeCells z (n * z.size)=⟨fO z.toList n⟩:=mZ z n
section
variable {P:Program}
theorem QW {w:World} {a b:Addr} {v:Value} (h:(w.cell? b).isSome=true):((w.setCell a v).cell? b).isSome=true:=by
 by_cases e:a=b
 ·subst e
  cases hc:w.cell? a with
  |none=>simp[hc] at h
  |some u=>rw[World.cell?_setCell_same w a v hc];rfl
 ·rw[World.cell?_setCell_other w a b v e];exact h
theorem vV (a:Addr):∀(vs:List Value) (i:Nat) (w:World),(∀v∈vs,iC v=true)->
  (∀j,j<vs.length->(w.cell? (a.add (i+j))).isSome=true/\w.frozen? (a.add (i+j))=false)->(storeCells a vs i).run P w= .ok () (setCells w a vs i):=by
 intro vs
 induction vs with
 |nil=>exact λi w _ _=>rfl
 |cons v vs ih=>
  intro i w h1 h2;have h0:=h2 0 (by simp);obtain⟨hr,_⟩:=Z7 (P:=P) (w:=w) (a:=a.add i) (v:=v) (K:=λ_=>True) ⟨h1 v (by simp),by simpa using h0.1,by simpa using h0.2,trivial⟩;have:=ih (i+1) (w.setCell (a.add i) v) (λu hu=>h1 u (by simp[hu])) (λj hj=>by
   have:=h2 (j+1) (by simp;omega);rw[show i+(j+1)=i+1+j by omega] at this;exact⟨QW this.1,by rw[World.frozen?_setCell];exact this.2⟩)
  simp[storeCells,hr,this,setCells]
theorem qU {w:World} {a:eG} {size n l c:Nat} {vs:List Value} (h:ng w a (n * size) vs):
  (Builtin.firstCells size n (.slice a l c)).run P w= .ok ⟨vs⟩ w:=by
 cases a with
 |none=>simp only[ng] at h;subst h;simp[run_firstCells_none]
 |some a=>
  obtain⟨hl,hc⟩:=h;refine run_firstCells_some (P:=P) w size n a l c vs hl λj v hj=> ?_;have u:=(List.getElem?_eq_some_iff.1 hj).1;rw[hc j u,hj]
theorem BD {w:World} {a:eG} {n:Nat} {vs:List Value} (h:ng w a n vs):ng w.drew a n vs:=by
 cases a<;>exact h
theorem UG {t t' ty e:TypeId} {i:TypeInfo} {z:Value} (ht:P.underlying t=some (.slice e)) (hi:P.info? e=some i) (hz:i.zero=some z)
  {d:TypeDesc} (ht':P.underlying t'=some d) (hd:(∃e',d= .slice e')\/d= .string) {x:Value} {n:Nat} {vs:List Value} {w:World} {s:eY} {K:eY->b_}
  (hlen:∀w,(Builtin.lenOf x).run P w= .ok n w) (hx:(Builtin.firstCells i.size n x).run P w= .ok ⟨vs⟩ w) (hx':(Builtin.firstCells i.size n x).run P w.drew= .ok ⟨vs⟩ w.drew)
  (h:PX e i.size i.bytes z.cells.toList s n vs w K):
  ∃s' w',(Builtin.append_ #[t,t'] ty #[s.v,x]).run P w= .ok s'.v w'/\K s' w':=by
 rcases h with ⟨u,U,I,hK⟩|⟨hg,h46,h62,old,J,hK⟩
 ·refine⟨_,_,?_,hK⟩
  cases hs:s.a with
  |none=>rcases hd with ⟨e',rfl⟩|rfl<;>(simp[Builtin.append_,eY.v,run_underlying ht,run_underlying ht',Go.sizeOf,run_typeInfo hi,hlen,u,hs,hx])
  |some a=>
   have Y:=vV (P:=P) (a.add (s.len * i.size)) vs 0 w I (by intro j hj;simpa using U a hs j hj);rcases hd with ⟨e',rfl⟩|rfl<;>(simp[Builtin.append_,eY.v,run_underlying ht,run_underlying ht',Go.sizeOf,run_typeInfo hi,hlen,u,hs,hx,Y])
 ·have h1:¬(s.len+n<=s.cap):=by omega
  have h2:¬(9223372036854775807<((s.len:Int)+(n:Int))):=by omega
  have h3:=growslice_fits (bytes:=i.bytes) hg (by omega);have h3':¬(281474976710656<Builtin.nextslicecap (s.len+n) s.cap * i.bytes):=by omega
  have Z:=qU (P:=P) (l:=s.len) (c:=s.cap) (BD J);refine⟨_,_,?_,hK (grownCap w (s.len+n) s.cap e) (grownCap_ge _ _ _ _) ?_⟩
  ·rcases hd with ⟨e',rfl⟩|rfl<;>(simp[Builtin.append_,eY.v,run_underlying ht,run_underlying ht',Go.sizeOf,run_typeInfo hi,zeroValue,hz,hlen,h1,h2,h3',Question.forced,hx',Z,newRow,grownCap,mZ])
  ·simp only[grownCap,Question.cut];have:=mod_lt (w.tape w.drawn (.appendCap (s.len+n) s.cap e)) (show 0<2^63 - (s.len+n) by omega);omega
theorem X8 {t t' ty e:TypeId} {i:TypeInfo} {z:Value} {ki kv:IntKind} (ht:P.underlying t=some (.slice e)) (hi:P.info? e=some i) (hz:i.zero=some z) (aa:z.cells.toList.length=i.size)
  (ht':P.underlying t'=some (.int ki)) {n:Int} {w:World} {s:eY} {K:eY->b_}
  (h:abu e i.size i.bytes z.cells.toList s n w K):
  ∃s' w',(Builtin.append_ #[t,t'] ty #[s.v,.int kv n]).run P w= .ok s'.v w'/\K s' w':=by
 obtain⟨h0,hb,hn,h⟩:=h;obtain⟨m,rfl⟩:∃m:Nat,n=(m:Int):=⟨n.toNat,by omega⟩;rw[Int.toNat_natCast] at h;have hw:IntKind.i64.wrap (m:Int)=(m:Int):=ad2 (by omega) (by omega);have u:¬((m:Int)<0):=by omega
 have hb':¬(281474976710656<(m:Int) * (i.bytes:Int)):=by omega
 by_cases hz0:m * i.size=0
 ·have he:fO z.cells.toList m=[]:=by
   have:=yO z.cells.toList m;rw[aa,hz0] at this;exact List.length_eq_zero_iff.1 this
  rw[he] at h;rcases h with ⟨I,Z,U,hK⟩|⟨hg,ab,ac,old,J,hK⟩
  ·refine⟨_,_,?_,hK⟩
   cases hs:s.a with
   |none=>simp[Builtin.append_,eY.v,run_underlying ht,run_underlying ht',Go.sizeOf,run_typeInfo hi,asInt,asIntOf,hw,u,hb',I,hs,hz0]
   |some a=>simp[Builtin.append_,eY.v,run_underlying ht,run_underlying ht',Go.sizeOf,run_typeInfo hi,asInt,asIntOf,hw,u,hb',I,hs,hz0,setCells,storeCells]
  ·have h1:¬(s.len+m<=s.cap):=by omega
   have h2:¬(9223372036854775807<((s.len:Int)+(m:Int))):=by omega
   have h3:=growslice_fits (bytes:=i.bytes) hg (by omega);have h3':¬(281474976710656<Builtin.nextslicecap (s.len+m) s.cap * i.bytes):=by omega
   have Y:=qU (P:=P) (l:=s.len) (c:=s.cap) (BD J);refine⟨_,_,?_,hK (grownCap w (s.len+m) s.cap e) (grownCap_ge _ _ _ _) ?_⟩
   ·simp[Builtin.append_,eY.v,run_underlying ht,run_underlying ht',Go.sizeOf,run_typeInfo hi,asInt,asIntOf,hw,u,hb',zeroValue,hz,h1,h2,h3',Question.forced,hz0,Y,newRow,grownCap,mZ]
   ·simp only[grownCap,Question.cut];have:=mod_lt (w.tape w.drawn (.appendCap (s.len+m) s.cap e)) (show 0<2^63 - (s.len+m) by omega);omega
 rcases h with ⟨I,Z,U,hK⟩|⟨hg,ab,ac,old,J,hK⟩
 ·refine⟨_,_,?_,hK⟩
  cases hs:s.a with
  |none=>simp[Builtin.append_,eY.v,run_underlying ht,run_underlying ht',Go.sizeOf,run_typeInfo hi,asInt,asIntOf,hw,u,hb',I,hs,hz0,zeroValue,hz,mZ]
  |some a=>
   have ae:=vV (P:=P) (a.add (s.len * i.size)) (fO z.cells.toList m) 0 w U (by intro j hj;simpa using Z a hs j hj);simp[Builtin.append_,eY.v,run_underlying ht,run_underlying ht',Go.sizeOf,run_typeInfo hi,asInt,asIntOf,hw,u,hb',I,hs,hz0,zeroValue,hz,mZ,ae]
 ·have h1:¬(s.len+m<=s.cap):=by omega
  have h2:¬(9223372036854775807<((s.len:Int)+(m:Int))):=by omega
  have h3:=growslice_fits (bytes:=i.bytes) hg (by omega);have h3':¬(281474976710656<Builtin.nextslicecap (s.len+m) s.cap * i.bytes):=by omega
  have Y:=qU (P:=P) (l:=s.len) (c:=s.cap) (BD J);refine⟨_,_,?_,hK (grownCap w (s.len+m) s.cap e) (grownCap_ge _ _ _ _) ?_⟩
  ·simp[Builtin.append_,eY.v,run_underlying ht,run_underlying ht',Go.sizeOf,run_typeInfo hi,asInt,asIntOf,hw,u,hb',zeroValue,hz,h1,h2,h3',Question.forced,hz0,Y,newRow,grownCap,mZ]
  ·simp only[grownCap,Question.cut];have:=mod_lt (w.tape w.drawn (.appendCap (s.len+m) s.cap e)) (show 0<2^63 - (s.len+m) by omega);omega
theorem Yh {t ty e:TypeId} {i:TypeInfo} {z:Value} (ht:P.underlying t=some (.slice e)) (hi:P.info? e=some i) (hz:i.zero=some z) (hsz:z.cells.toList.length=i.size)
  {w:World} {s:eY} {K:b_} (h:abw z.cells.toList s w K):∃w',(Builtin.clear_ #[t] ty #[s.v]).run P w= .ok (.tuple #[]) w'/\K w':=by
 obtain⟨I,u,hK⟩:=h;refine⟨_,?_,hK⟩;obtain⟨a,n,c⟩:=s
 cases a with
 |none=>simp[Builtin.clear_,eY.v,run_underlying ht]
 |some a=>
  cases n with
  |zero=>simp[Builtin.clear_,eY.v,run_underlying ht,fO,setCells]
  |succ n=>
   have J:=vV (P:=P) a (fO z.cells.toList (n+1)) 0 w (λv hv=>by
    obtain⟨k,_,hv⟩:=LX hv;exact u v hv) (by intro j hj;rw[yO] at hj;simpa using I a rfl j hj)
   simp[Builtin.clear_,eY.v,run_underlying ht,zeroValue,run_typeInfo hi,hz,mZ,J]
theorem aap {t t' ty e:TypeId} {i:TypeInfo} (ht:P.underlying t=some (.slice e)) (hi:P.info? e=some i) {w:World} {d s:eY} {K:Int->b_}
  (h:EO i.size d s w K):∃n w',(Builtin.copy_ #[t,t'] ty #[d.v,s.v]).run P w= .ok (.int .i64 n) w'/\K n w':=by
 obtain⟨vs,z,I,u,hK⟩:=h;refine⟨_,_,?_,hK⟩;have hf:=qU (P:=P) (l:=s.len) (c:=s.cap) z
 cases hd:d.a with
 |none=>simp[Builtin.copy_,eY.v,run_underlying ht,Go.sizeOf,run_typeInfo hi,Builtin.lenOf,hd,hf,goInt]
 |some a=>
  have J:=vV (P:=P) a vs 0 w u (by intro j hj;simpa using I a hd j hj);simp[Builtin.copy_,eY.v,run_underlying ht,Go.sizeOf,run_typeInfo hi,Builtin.lenOf,hd,hf,J,goInt]
theorem aaR {t e:TypeId} {i:TypeInfo} {z:Value} (ht:P.underlying t=some (.slice e)) (hi:P.info? e=some i) (hz:i.zero=some z) (j:z.cells.toList.length=i.size)
  {n c:Int} {kl kc:IntKind} {w:World} {K:eY->b_} (h:VA e i.size i.bytes z.cells.toList n c w K):
  ∃s w',(Instr.makeSlice t (.int kl n) (.int kc c)).run P w= .ok s.v w'/\K s w':=by
 obtain⟨h0,h1,h2,h3,hK⟩:=h;refine⟨_,_,?_,hK⟩;have h2':c<=9223372036854775807:=Int.le_trans h2 (by decide);have h3':(i.bytes:Int) * c<=281474976710656:=Int.le_trans h3 (by decide);rw[run_make w t e i z ht hi hz kl kc n c h0 h1 h3' h2'];have e0:i.size=z.cells.size:=j.symm.trans Array.length_toList;have e1:c.toNat * i.size=c.toNat * z.cells.size:=congrArg (c.toNat * ·) e0;rw[e1,Xa];rfl
theorem Qe {w:World} {s:eY} {K:ByteArray->Prop} (h:uS w s K):∃b,(Conv.bytesToString s.v).run P w= .ok (.string b) w/\K b:=by
 obtain⟨b,hl,hc,hK⟩:=h;refine⟨b,?_,hK⟩
 cases hs:s.a with
 |none=>
  rw[hs] at hc;have:b= .empty:=by
   have h0:b.data.toList=[]:=by simpa [ng,byteCells] using hc
   cases b with|mk d=>simp at h0;subst h0;rfl
  subst this;simp[Conv.bytesToString,eY.v,hs]
 |some a=>
  rw[hs] at hc;obtain⟨hn,z⟩:=hc;have u:∀j v,(byteCells b)[j]? =some v->w.cell? (a.add j)=some v:=λj v hj=>by
   have I:=(List.getElem?_eq_some_iff.1 hj).1;rw[z j I,hj]
  have hl2:=run_loadCells_list (P:=P) (w:=w) a (byteCells b) u;rw[hn] at hl2;have e1:byteCells b=(b.data.toList.map λx=>(x.toNat:Int)).map (Value.int .u8):=by simp[byteCells]
  rw[e1] at hl2;have:=run_bytesToString (P:=P) w a s.len s.cap _ hl2;simp only[eY.v,hs,this];rw[foldl_push_bytes];congr 2
  cases b with|mk d=>
  have e2:∀l:List UInt8,l.map ((λn:Int=>UInt8.ofNat n.toNat) ∘ λx=>(x.toNat:Int))=l:=by
   intro l
   induction l with
   |nil=>rfl
   |cons x l ih=>simp only[List.map_cons,ih];simp
  simp only[ByteArray.empty,ByteArray.emptyWithCapacity,map_map,e2];simp;rfl
end
end Gp
end
section
namespace Gp
open Go
theorem SB (cs:List Value) (off:Nat) (vs:List Value) (h:off+vs.length<=cs.length) (i:Nat):
  (splice cs off vs)[i]? =if i<off then cs[i]? else if i<off+vs.length then vs[i - off]? else cs[i]? :=by
 unfold splice;have hl:(cs.take off).length=off:=by simp;omega
 by_cases h1:i<off
 ·rw[if_pos h1,List.getElem?_append_left (by omega),List.getElem?_take_of_lt h1]
 ·rw[if_neg h1,List.getElem?_append_right (by omega),hl];by_cases h2:i<off+vs.length
  ·rw[if_pos h2,List.getElem?_append_left (by omega)]
  ·rw[if_neg h2,List.getElem?_append_right (by omega),List.getElem?_drop];congr 1;omega
theorem YM (off:Nat):∀(vs:List Value) (k:Nat) (cs:Array Value),off+k+vs.length<=cs.size->
  ((vs.zipIdx k).foldl (λ(cs:Array Value) (p:Value×Nat)=>cs.setIfInBounds (off+p.2) p.1) cs)=⟨splice cs.toList (off+k) vs⟩:=by
 intro vs
 induction vs with
 |nil=>intro k cs _;simp[splice]
 |cons v vs ih=>
  intro k cs h;simp only[List.length_cons] at h;rw[List.zipIdx_cons,List.foldl_cons,ih (k+1) _ (by simp;omega)];congr 1;apply List.ext_getElem?;intro i;rw[SB _ _ _ (by simp;omega),SB _ _ _ (by simp;omega)];simp only[Array.toList_setIfInBounds,List.getElem?_set,List.length_cons];by_cases h1:i<off+k
  ·have h2:i<off+(k+1):=by omega
   have h3:¬(off+k=i):=by omega
   simp[h1,h2,h3]
  ·by_cases h2:i=off+k
   ·subst h2;have h3:off+k<off+(k+1):=by omega
    have h4:off+k<cs.size:=by omega
    simp[h3,h4]
   ·have h3:¬(i<off+(k+1)):=by omega
    have h4:¬(off+k=i):=by omega
    simp only[h1,h3,h4,if_false];by_cases h5:i<off+(k+1)+vs.length
    ·have h6:i<off+k+(vs.length+1):=by omega
     obtain⟨m,hm⟩:∃m,i - (off+k)=m+1:=⟨i - (off+k) - 1,by omega⟩;have h7:i - (off+(k+1))=m:=by omega
     simp[h5,h6,hm,h7]
    ·have h6:¬(i<off+k+(vs.length+1)):=by omega
     simp[h5,h6]
theorem KA {v:Value} (h:iC v=true):cellsOfV v=[v]:=by cases v<;>first|rfl|(simp[iC] at h)
theorem YG:∀(ps:List (Nat×Value)) (cs out:List Value),(∀p∈ps,iC p.2=true)->Ob ps cs=some out->yR (λi=>some (i * 1,1)) ps cs=some out:=by
 intro ps
 induction ps with
 |nil=>exact λcs out _ h=>h
 |cons p ps ih=>
  obtain⟨i,v⟩:=p;intro cs out h1 h;simp only[Ob] at h;have hv:iC v=true:=h1 (i,v) (by simp)
  cases hb:Nat.blt i cs.length with
  |false=>rw[hb] at h;cases h
  |true=>
   rw[hb] at h;have j:i<cs.length:=by simpa [Nat.blt_eq] using hb
   have hs:splice cs (i * 1) [v]=cs.set i v:=by
    rw[List.set_eq_take_append_cons_drop,if_pos j,Nat.mul_one];rfl
   have hc:(Nat.beq (cellsOfV v).length 1 && Nat.ble (i * 1+1) cs.length)=true:=by
    rw[KA hv,and_eq_true];exact⟨rfl,by rw[ble_eq];omega⟩
   simp only[yR,hc,cond_true];rw[KA hv,hs];exact ih _ _ (λp hp=>h1 p (by simp[hp])) h
theorem aad:∀(vs:List Value),MC vs->∀v∈vs,iC v=true:=by
 intro vs
 induction vs with
 |nil=>exact λ_ v hv=>by simp at hv
 |cons v vs ih=>
  rintro⟨h1,h2⟩ u hu;rcases List.mem_cons.1 hu with rfl|hu
  ·exact h1
  ·exact ih h2 u hu
theorem Oa {sh:Option Shape} {size:Nat} {ps:List (Nat×Operand)} {ρ:Operand->Value} {cs:List Value} {Φ:List Value->Prop}
  (h:cond (UF sh) (cond (Nat.beq size 1) (MC (ps.map λp=>ρ p.2)/\(match Ob (ps.map λp=>(p.1,ρ p.2)) cs with
     |some cs=>Φ cs
     |none=>False)) False)
     (match yR (λi=>some (i * size,size)) (ps.map λp=>(p.1,ρ p.2)) cs with
     |some cs=>Φ cs
     |none=>False)):∃out,yR (λi=>some (i * size,size)) (ps.map λp=>(p.1,ρ p.2)) cs=some out/\Φ out:=by
 cases ha:UF sh with
 |false=>
  rw[ha] at h;simp only[cond_false] at h;split at h
  ·rename_i out hf;exact⟨out,hf,h⟩
  ·exact h.elim
 |true=>
  rw[ha] at h;simp only[cond_true] at h
  cases hb:Nat.beq size 1 with
  |false=>rw[hb] at h;exact h.elim
  |true=>
   rw[hb] at h;have hs:size=1:=Nat.eq_of_beq_eq_true hb;subst hs;simp only[cond_true] at h;obtain⟨h1,h⟩:=h;split at h
   ·rename_i out hf;refine⟨out,YG _ _ _ (λp hp=> ?_) hf,h⟩;obtain⟨q,hq,rfl⟩:=List.mem_map.1 hp;exact aad _ h1 _ (List.mem_map.2 ⟨q,hq,rfl⟩)
   ·exact h.elim
theorem Jp (place place':Nat->Option (Nat×Nat)) (hp:∀i x,place i=some x->place' i=some x):∀(ps:List (Nat×Value)) (cs out:List Value),yR place ps cs=some out->
  Instr.fill place' ⟨cs⟩ ps=some ⟨out⟩:=by
 intro ps
 induction ps with
 |nil=>intro cs out h;simp[yR] at h;subst h;rfl
 |cons p ps ih=>
  obtain⟨i,v⟩:=p;intro cs out h;simp only[yR] at h
  cases j:place i with
  |none=>simp[j] at h
  |some x=>
   obtain⟨off,size⟩:=x;simp only[j] at h
   cases hb:(Nat.beq (cellsOfV v).length size && Nat.ble (off+size) cs.length) with
   |false=>simp[hb] at h
   |true=>
    simp only[hb,cond_true] at h;simp only[and_eq_true,Nat.beq_eq,ble_eq] at hb;obtain⟨h1,h2⟩:=hb;rw[NV] at h1 h;have h3:v.cells.size=size:=by rw[<- h1];simp
    have:=ih _ _ h;have hf:=YM off v.cells.toList 0 ⟨cs⟩ (by simp;omega);simp only[Nat.add_zero] at hf;have hz:v.cells.zipIdx.foldl (λ(cs:Array Value) (x:Value×Nat)=>cs.setIfInBounds (off+x.2) x.1) ⟨cs⟩=⟨splice cs off v.cells.toList⟩:=by
     rw[<- Array.foldl_toList,Array.toList_zipIdx];exact hf
    simp only[Instr.fill,hp _ _ j];have c1:(v.cells.size≠size||off+v.cells.size>(⟨cs⟩:Array Value).size)=false:=by
     simp[h3];omega
    simp only[c1,false_eq_true,if_false];exact(congrArg (λa=>Instr.fill place' a ps) hz).trans this
section
variable {P:Program}
theorem XB {w:World}:∀(fs:List Field) (pl:List (Nat×Nat)),placesOf P fs=some pl->
  (fs.mapM λ(f:Field)=>(do pure (f.offset,<- Go.sizeOf f.type):Sem (Nat×Nat))).run P w= .ok pl w:=by
 intro fs
 induction fs with
 |nil=>intro pl h;simp[placesOf] at h;subst h;simp
 |cons f fs ih=>
  intro pl h;simp only[placesOf] at h
  cases hs:gG P f.type with
  |none=>simp[hs] at h
  |some s=>
   cases hr:placesOf P fs with
   |none=>simp[hs,hr] at h
   |some l=>
    simp only[hs,hr,Option.some.injEq] at h;subst h;have hi:=ih l hr;rw[List.mapM_cons];simp only[Sem.run_bind,iV hs,Result.andThen_ok,Sem.run_pure,hi]
theorem QG {w:World} {fs:Array Field} {f off size:Nat} (h:yw P fs f=some (off,size)) (hs:Nat.beq size 0=false) (a:Addr):
  ∃fd,fs[f]? =some fd/\(fieldPlace a fd).run P w= .ok (a.add off) w:=by
 unfold yw at h
 cases hf:fs.toList[f]? with
 |none=>simp[hf] at h
 |some fd=>
  simp only[hf] at h
  cases hz:gG P fd.type with
  |none=>simp[hz] at h
  |some s=>
   simp only[hz,Option.some.injEq,Prod.mk.injEq] at h;obtain⟨rfl,rfl⟩:=h;refine⟨fd,by simpa using hf,?_⟩;have:s≠0:=by intro e;subst e;simp at hs
   simp[fieldPlace,iV hz,this]
theorem RX {w:World} {t:TypeId} {d:TypeDesc} {size off:Nat} {cs:Array Value} {φ:Value->Prop} (hd:P.underlying t=some d) (hs:gG P t=some size)
  (h:partOf d size off cs.toList φ):∃v,(part t cs off).run P w= .ok v w/\φ v:=by
 unfold partOf at h
 cases hg:Cm d with
 |true=>
  simp only[hg,cond_true] at h;refine⟨_,?_,h⟩;simp only[part,Sem.run_bind,GN hd,Result.andThen_ok,hg,if_true,iV hs,Sem.run_pure,Result.ok.injEq,and_true,Value.agg.injEq];apply Array.toList_inj.mp;simp[Array.toList_extract,List.extract_eq_take_drop]
 |false=>
  simp only[hg,cond_false] at h
  cases hc:cs.toList[off]? with
  |none=>simp[hc] at h
  |some v=>
   simp only[hc] at h;refine⟨v,?_,h⟩;have hc':cs[off]? =some v:=by simpa using hc
   simp[part,GN hd,hg,hc']
theorem BK {k k':IntKind} (h:Dq k k'=true):k=k':=by cases k<;>cases k'<;>first|rfl|(simp[Dq] at h)
theorem aaE {op:BinOp} {k:IntKind} {a b:Int} {φ:Value->Prop} {t:TypeId} {w:World} (j:op≠.shl/\op≠.shr) (h:Ec op k a b φ):
  ∃v,(binOp op t (.int k a) (.int k b)).run P w= .ok v w/\φ v:=by
 cases op<;>simp only[Ec] at h<;>first
  |exact absurd rfl j.1
  |exact absurd rfl j.2
  |exact h.elim
  |(refine⟨_,?_,h⟩;simp[binOp,Op.intArith];done)
  |(refine⟨_,?_,h⟩;simp[binOp,Op.intCmp];done)
  |(refine⟨_,?_,h⟩;simp only[binOp,ne_eq,not_true_eq_false,if_false];rfl)
  |(refine⟨_,?_,h.2⟩;simp[binOp,Op.intDiv,h.1];done)
theorem abl {op:BinOp} {a b:ByteArray} {φ:Value->Prop} {t:TypeId} {w:World} (h:Es op a b φ):
  ∃v,(binOp op t (.string a) (.string b)).run P w= .ok v w/\φ v:=by
 cases op<;>simp only[Es] at h<;>first
  |exact h.elim
  |(refine⟨_,?_,h⟩;simp[binOp,Op.stringOp,strEq,strLt];done)
  |(refine⟨_,?_,h.2⟩
    have:¬(IntKind.i64.max<((a.size+b.size:Nat):Int)):=by omega
    simp[binOp,Op.stringOp] at this ⊢;simp[this])
end
end Gp
end
section
namespace Gp
open Go
section
variable {P:Program}
theorem U0 {d:TypeDesc} {x y:Value} {φ:Bool->Prop} {t:TypeId} {w:World} (ht:P.underlying t=some d) (h:Dp d x y φ):
  ∃b,(Op.equal t x y).run P w= .ok b w/\φ b:=by
 have key:∀n,∃b,(Op.equalIn (n+1) t x y).run P w= .ok b w/\φ b:=by
  intro n;unfold Dp at h;split at h
  ·exact⟨_,by simp[Op.equalIn,run_underlying ht],h⟩
  ·rename_i q;refine⟨_,?_,h⟩
   cases q<;>simp[Op.equalIn,run_underlying ht]
  ·rename_i q _ _ _ _;refine⟨_,?_,h⟩
   cases q<;>simp[Op.equalIn,run_underlying ht]
  ·rename_i q;refine⟨_,?_,h⟩
   cases q<;>simp[Op.equalIn,run_underlying ht]
  ·exact h.elim
 exact key 9999
theorem N9 {d:TypeDesc} {x y:Value} {φ:Bool->Prop} (h:Dp d x y φ) (op:BinOp) (t:TypeId) (a b:Operand) (w:World):(eqGuard op t a b x y).run P w= .ok () w:=by
 unfold Dp at h;split at h<;>first|exact h.elim|(cases op<;>simp[eqGuard])
theorem adE {op:BinOp} {t:TypeId} {x y:Value} {φ:Value->Prop} (a:Operand) {w:World} (h:NS P op t x y φ):
  ∃v,(do eqGuard op t a (.const .nilIface) x y;binOp op t x y:Sem Value).run P w= .ok v w/\φ v:=by
 unfold NS at h;split at h
 ·rename_i s ms ho ht;have key:∀n,(Op.equalIn (n+1) t .nilIface .nilIface).run P w= .ok true w:=λn=>by simp[Op.equalIn,run_underlying ht]
  have e:(Op.equal t .nilIface .nilIface).run P w= .ok true w:=key 9999
  cases op<;>simp only[yL,reduceCtorEq,Option.some.injEq] at ho
  all_goals subst ho
  ·exact⟨.bool true,by simp[eqGuard,show binOp .eql t .nilIface .nilIface=(do pure (.bool (<- Op.equal t .nilIface .nilIface))) from rfl,e],h⟩
  ·exact⟨.bool false,by simp[eqGuard,show binOp .neq t .nilIface .nilIface=(do pure (.bool (!(<- Op.equal t .nilIface .nilIface)))) from rfl,e],h⟩
 ·rename_i s ms t' v' ho ht;have key:∀n,(Op.equalIn (n+1) t (.iface t' v') .nilIface).run P w= .ok false w:=λn=>by simp[Op.equalIn,run_underlying ht]
  have e:(Op.equal t (.iface t' v') .nilIface).run P w= .ok false w:=key 9999
  cases op<;>simp only[yL,reduceCtorEq,Option.some.injEq] at ho
  all_goals subst ho
  ·exact⟨.bool false,by simp[eqGuard,show binOp .eql t (.iface t' v') .nilIface=(do pure (.bool (<- Op.equal t (.iface t' v') .nilIface))) from rfl,e],h⟩
  ·exact⟨.bool true,by simp[eqGuard,show binOp .neq t (.iface t' v') .nilIface=(do pure (.bool (!(<- Op.equal t (.iface t' v') .nilIface)))) from rfl,e],h⟩
 ·exact h.elim
theorem N8 {d:TypeDesc} {x y:Value} {φ:Bool->Prop} (h:Dp d x y φ) (t:TypeId):
  binOp .eql t x y=(do pure (.bool (<- Op.equal t x y)))/\binOp .neq t x y=(do pure (.bool (!(<- Op.equal t x y)))):=by
 unfold Dp at h;split at h<;>first|exact h.elim|exact⟨rfl,rfl⟩
theorem zH {w:World} {t:TypeId} {d:TypeDesc} {size off:Nat} {cs:Array Value} {v:Value} (hd:P.underlying t=some d) (hs:gG P t=some size) (h:Vg d size off cs.toList=some v):
  (part t cs off).run P w= .ok v w:=by
 obtain⟨v',hr,hv⟩:=RX (w:=w) (cs:=cs) (off:=off) (φ:=λv'=>v'=v) hd hs (by
  unfold Vg at h;unfold partOf
  cases hg:Cm d with
  |true=>rw[hg] at h;simp only[cond_true,Option.some.injEq] at h ⊢;exact h
  |false=>rw[hg] at h;simp only[cond_false] at h ⊢;rw[h])
 rw[hr,hv]
theorem Gx {b:Bool} {o:Option Bool} {r:Bool} (h:agU b o=some r):∃r',o=some r'/\r=(b && r'):=by
 cases o with
 |none=>cases h
 |some r'=>exact⟨r',rfl,by simpa [agU] using h.symm⟩
theorem WA:∀(n:Nat) (t:TypeId) (x y:Value) (b:Bool) (m:Nat) (w:World),DJ P n t x y=some b->n<=m->(Op.equalIn m t x y).run P w= .ok b w:=by
 intro n
 induction n with
 |zero=>intro t x y b m w h;cases h
 |succ n ih=>
  intro t x y b m w h hm;obtain⟨m,rfl⟩:∃m',m=m'+1:=⟨m - 1,by omega⟩;unfold DJ at h;split at h
  ·rename_i hu;rw[run_equalIn_bool' w m t _ _ hu]
   cases h;rfl
  ·rename_i k0 k a k' c hu
   cases hk:Dq k k' with
   |false=>rw[hk] at h;cases h
   |true=>
    rw[hk] at h;have:=BK hk;subst this;rw[run_equalIn_int w m t k k0 _ _ hu]
    cases h;rfl
  ·rename_i hu;rw[run_equalIn_string w m t _ _ hu]
   cases h;rfl
  ·rename_i fs xs ys hu
   cases hp:P.stoodInHeld t with
   |true=>rw[hp] at h;cases h
   |false=>
    rw[hp] at h;simp only[cond_false] at h;have z:P.fieldsOf t=fs:=by simp[Program.fieldsOf,hu]
    rw[run_equalIn_struct w m t xs ys (by rw[z];exact hu) hp,z];generalize fs.toList=l at h;clear z hu
    induction l generalizing b with
    |nil=>simp only[ac4,Option.some.injEq] at h;subst h;rfl
    |cons fd l ihl=>
     simp only[ac4] at h
     cases I:(fd.name=="_") with
     |true=>rw[I] at h;cases h
     |false=>
      rw[I] at h;simp only[cond_false] at h;split at h
      case h_2=>cases h
      rename_i d size hd hs;split at h
      case h_2=>cases h
      rename_i u v hu hv;split at h
      case h_2=>cases h
      rename_i r hr;obtain⟨r',hr',rfl⟩:=Gx h;have J:fd.name≠"_":=by simpa using I
      simp only[Op.eqFields,J,ne_eq,not_false_eq_true,if_true,Sem.run_bind,zH hd hs hu,zH hd hs hv,Result.andThen_ok,ih _ _ _ _ m w hr (by omega)]
      cases r with
      |true=>simp only[Bool.not_true,false_eq_true,if_false,Bool.true_and];exact ihl _ hr'
      |false=>simp
  ·rename_i n' e xs ys hu;split at h
   case h_2=>cases h
   rename_i de size hd hs;obtain⟨i,hi,U⟩:∃i,P.info? e=some i/\i.size=size:=by
    unfold gG at hs;split at hs
    ·rename_i i hi;exact⟨i,hi,by simpa using hs⟩
    ·cases hs
   have hc:P.cellsOf e=size:=by simp[Program.cellsOf,hi,U]
   rw[run_equalIn_array w m xs ys hu hi,hc,List.range_eq_range'];generalize 0=j at h ⊢;clear hu
   induction n' generalizing b j with
   |zero=>simp only[ac5,Option.some.injEq] at h;subst h;rfl
   |succ n' ihn=>
    simp only[ac5] at h;split at h
    case h_2=>cases h
    rename_i u v hu hv;split at h
    case h_2=>cases h
    rename_i r hr;obtain⟨r',hr',rfl⟩:=Gx h;simp only[List.range'_succ,Op.eqItems,Sem.run_bind,zH hd hs hu,zH hd hs hv,Result.andThen_ok,ih _ _ _ _ m w hr (by omega)]
    cases r with
    |true=>simp only[Bool.not_true,false_eq_true,if_false,Bool.true_and];exact ihn _ _ hr'
    |false=>simp
  ·cases h
theorem ahh {n:Nat} {t:TypeId} {x y:Value} {b:Bool} (h:DJ P n t x y=some b):∃d,P.underlying t=some d:=by
 cases n with
 |zero=>cases h
 |succ n=>
  unfold DJ at h;split at h<;>first|exact⟨_,by assumption⟩|cases h
theorem IV {n:Nat} {t:TypeId} {d:TypeDesc} {x y:Value} {b:Bool} (hd:P.underlying t=some d) (h:DJ P n t x y=some b):Instr.sameNow d x y=some b\/Instr.sameNow d x y=none:=by
 cases n with
 |zero=>cases h
 |succ n=>
  unfold DJ at h;split at h
  ·rename_i hu;rw[hd] at hu;cases hu
   cases h
   exact .inl rfl
  ·rename_i k0 k a k' c hu;rw[hd] at hu;cases hu
   cases hk:Dq k k' with
   |false=>rw[hk] at h;cases h
   |true=>
    rw[hk] at h;have:=BK hk;subst this
    cases h
    exact .inl (by simp[Instr.sameNow])
  ·rename_i hu;rw[hd] at hu;cases hu
   cases h
   exact .inl (by simp[Instr.sameNow,strEq,beq_toListBytes])
  ·rename_i hu;rw[hd] at hu;cases hu;exact .inr rfl
  ·rename_i hu;rw[hd] at hu;cases hu;exact .inr rfl
  ·cases h
theorem TW {kt:TypeId} {d:TypeDesc} {key:Value} (hd:P.underlying kt=some d):∀(es:List MapEntry) (i:Nat) (res:Option (Nat×Value)),oM P kt key es i=some res->Instr.findNow d key es i=some res\/Instr.findNow d key es i=none:=by
 intro es
 induction es with
 |nil=>intro i res h;simp only[oM,Option.some.injEq] at h;subst h;exact .inl rfl
 |cons e es ih=>
  intro i res h;simp only[oM] at h;split at h
  ·rename_i he
   cases h
   rcases IV hd he with h1|h1
   ·exact .inl (by simp[Instr.findNow,h1])
   ·exact .inr (by simp[Instr.findNow,h1])
  ·rename_i he;rcases IV hd he with h1|h1
   ·rcases ih _ _ h with h2|h2
    ·exact .inl (by simp[Instr.findNow,h1,h2])
    ·exact .inr (by simp[Instr.findNow,h1,h2])
   ·exact .inr (by simp[Instr.findNow,h1])
  ·cases h
theorem QJ {kt:TypeId} {key:Value} {w:World}:∀(es:List MapEntry) (i:Nat) (res:Option (Nat×Value)),oM P kt key es i=some res->(Instr.findAsking kt key es i).run P w= .ok res w:=by
 intro es
 induction es with
 |nil=>intro i res h;simp only[oM,Option.some.injEq] at h;subst h;rfl
 |cons e es ih=>
  intro i res h;simp only[oM] at h;split at h
  ·rename_i he
   cases h
   simp[Instr.findAsking,Op.equal,Op.maxDepth,WA 16 kt _ _ _ 10000 w he (by omega)]
  ·rename_i he;simp[Instr.findAsking,Op.equal,Op.maxDepth,WA 16 kt _ _ _ 10000 w he (by omega),ih _ _ h]
  ·cases h
theorem wV {kt:TypeId} {d:TypeDesc} {key:Value} {es:List MapEntry} {res:Option (Nat×Value)} {w:World} (hd:P.underlying kt=some d) (h:oM P kt key es 0=some res):(Instr.findKey kt key es).run P w= .ok res w:=by
 rcases TW hd es 0 res h with h1|h1
 ·simp[Instr.findKey,run_underlying hd,h1]
 ·simp[Instr.findKey,run_underlying hd,h1,QJ es 0 res h]
theorem vG:∀(n:Nat) (t:TypeId) (x y:Value) (b:Bool) (m:Nat) (em:Bool) (w:World),DJ P n t x y=some b->n<=m->(Instr.checkKey em m t x).run P w= .ok () w:=by
 intro n
 induction n with
 |zero=>intro t x y b m em w h;cases h
 |succ n ih=>
  intro t x y b m em w h hm;obtain⟨m,rfl⟩:∃m',m=m'+1:=⟨m - 1,by omega⟩;unfold DJ at h;split at h
  ·rename_i hu;simp[Instr.checkKey,run_underlying hu]
  ·rename_i hu;simp[Instr.checkKey,run_underlying hu]
  ·rename_i hu;simp[Instr.checkKey,run_underlying hu]
  ·rename_i fs xs ys hu
   cases hp:P.stoodInHeld t with
   |true=>rw[hp] at h;cases h
   |false=>
    rw[hp] at h;simp only[cond_false] at h;simp only[Instr.checkKey,Sem.run_bind,run_underlying hu,Result.andThen_ok];rw[<- Array.forIn_toList];generalize fs.toList=l at h;clear hu
    induction l generalizing b with
    |nil=>simp
    |cons fd l ihl=>
     simp only[ac4] at h
     cases z:(fd.name=="_") with
     |true=>rw[z] at h;cases h
     |false=>
      rw[z] at h;simp only[cond_false] at h;split at h
      case h_2=>cases h
      rename_i d size hd hs;split at h
      case h_2=>cases h
      rename_i u v hu hv;split at h
      case h_2=>cases h
      rename_i r hr;obtain⟨r',hr',rfl⟩:=Gx h;have I:fd.name≠"_":=by simpa using z
      have:=ihl _ hr';simp only[List.forIn_cons,I,ne_eq,not_false_eq_true,if_true,Sem.run_bind,zH hd hs hu,Result.andThen_ok,ih _ _ _ _ m em w hr (by omega),Sem.run_pure];exact this
  ·rename_i n' e xs ys hu;split at h
   case h_2=>cases h
   rename_i de size hd hs;simp only[Instr.checkKey,Sem.run_bind,run_underlying hu,Result.andThen_ok];simp only[Std.Legacy.Range.forIn_eq_forIn_range',Std.Legacy.Range.size,Nat.sub_zero,Nat.add_one_sub_one,Nat.div_one];generalize 0=j at h ⊢;clear hu
   induction n' generalizing b j with
   |zero=>simp
   |succ n' ihn=>
    simp only[ac5] at h;split at h
    case h_2=>cases h
    rename_i u v hu hv;split at h
    case h_2=>cases h
    rename_i r hr;obtain⟨r',hr',rfl⟩:=Gx h;have:=ihn _ _ hr';simp only[List.range'_succ,List.forIn_cons,Sem.run_bind,iV hs,Result.andThen_ok,zH hd hs hu,ih _ _ _ _ m em w hr (by omega),Sem.run_pure];exact this
  ·cases h
theorem IU {v:Value} (h:afz v=true) (n:Nat):Instr.sameBits n v v=true:=by
 cases v<;>first|(cases h;done)|simp[Instr.sameBits,MapKept.bytes_beq]
theorem Gl {v:Value} (h:NG v=true) (n:Nat):Instr.sameBits (n+1) v v=true:=by
 unfold NG at h;split at h
 ·rename_i cs;simp only[Instr.sameBits,beq_self_eq_true,Bool.true_and,List.all_eq_true];simp only[List.all_eq_true] at h;rintro⟨x,y⟩ j;have:x=y:=by
   obtain⟨i,hi⟩:=List.getElem?_of_mem j;simp[List.getElem?_zip_eq_some] at hi;have:=hi.1.symm.trans hi.2;simpa using this
  subst this;exact IU (h x (List.of_mem_zip j).1) n
 ·exact IU h _
theorem yA {kt:TypeId} {key:Value} (h:nS P kt key=true):NG key=true/\∃d b,P.underlying kt=some d/\DJ P 16 kt key key=some b:=by
 simp only[nS,and_eq_true,Option.isSome_iff_exists] at h;obtain⟨h1,b,hb⟩:=h;obtain⟨d,hd⟩:=ahh hb;exact⟨h1,d,b,hd,hb⟩
theorem KO {k:Kind} {v:Value} {φ:k.T->Prop} (h:k.dec v φ):∃x,v=k.enc x/\φ x:=by
 cases k<;>cases v<;>first
  |exact h.elim
  |exact⟨_,rfl,h⟩
  |skip
 case int.int k k' n=>
  simp only[Kind.dec] at h
  cases hb:Dq k k' with
  |false=>rw[hb] at h;exact h.elim
  |true=>
   rw[hb] at h;have:=BK hb;subst this;exact⟨n,rfl,h⟩
theorem xw {t:TypeId} {z:Value} {w:World} (h:qM P t=some z):(zeroValue t).run P w= .ok z w:=by
 unfold qM at h;split at h
 ·rename_i i hi;simp[zeroValue,run_typeInfo hi,h]
 ·cases h
theorem Z4 {t kt et:TypeId} {k:Kind} {r:Option Nat} {key zero:Value} {w:World} {K:k.T->Prop} (ht:P.underlying t=some (.map kt et)) (hz:qM P et=some zero) (h:zQ P kt k r key zero w K):
  ∃x,(Instr.lookup t (.map r) key false).run P w= .ok (k.enc x) w/\K x:=by
 obtain⟨hk,h⟩:=h;obtain⟨_,d,b',hd,hb'⟩:=yA hk;have j:∀em,(Instr.checkKey em 10000 kt key).run P w= .ok () w:=λem=>vG 16 kt key key b' 10000 em w hb' (by omega);rcases h with ⟨rfl,h⟩|⟨b,es,clock,rfl,hb,res,u,h⟩
 ·obtain⟨x,hx,h⟩:=KO h;refine⟨x,?_,h⟩;have hf:(Instr.findKey kt key []).run P w= .ok none w:=wV hd rfl;simp[Instr.lookup,run_underlying ht,j,hf,xw hz,hx]
 ·obtain⟨x,hx,h⟩:=KO h;refine⟨x,?_,h⟩;have hf:=wV (w:=w) hd u
  cases res with
  |none=>simp[Instr.lookup,run_underlying ht,MapKept.run_getObj_map hb,j,hf,xw hz,<- hx]
  |some p=>
   obtain⟨i,v⟩:=p;simp[Instr.lookup,run_underlying ht,MapKept.run_getObj_map hb,j,hf,<- hx]
theorem NQ {t kt et:TypeId} {r:Option Nat} {key zero:Value} {w:World} {K:Value->Bool->Prop} (ht:P.underlying t=some (.map kt et)) (hz:qM P et=some zero) (h:Bo P kt r key zero w K) (ok:Bool):
  ∃v b,(Instr.lookup t (.map r) key ok).run P w= .ok (if ok=true then .tuple #[v,.bool b] else v) w/\K v b:=by
 obtain⟨hk,h⟩:=h;obtain⟨_,d,b',hd,hb'⟩:=yA hk;have j:∀em,(Instr.checkKey em 10000 kt key).run P w= .ok () w:=λem=>vG 16 kt key key b' 10000 em w hb' (by omega);rcases h with ⟨rfl,h⟩|⟨b,es,clock,rfl,hb,res,u,h⟩
 ·refine⟨_,_,?_,h⟩;have hf:(Instr.findKey kt key []).run P w= .ok none w:=wV hd rfl;simp[Instr.lookup,run_underlying ht,j,hf,xw hz]
 ·have hf:=wV (w:=w) hd u
  cases res with
  |none=>
   refine⟨_,_,?_,h⟩;simp[Instr.lookup,run_underlying ht,MapKept.run_getObj_map hb,j,hf,xw hz]
  |some p=>
   obtain⟨i,v⟩:=p;refine⟨_,_,?_,h⟩;simp[Instr.lookup,run_underlying ht,MapKept.run_getObj_map hb,j,hf]
theorem Z5 {t kt et:TypeId} {r:Option Nat} {key val:Value} {w:World} {K:b_} (ht:P.underlying t=some (.map kt et)) (h:zS P kt r key val w K):
  ∃w',(Instr.mapUpdate t (.map r) key val).run P w= .ok () w'/\K w':=by
 obtain⟨hk,b,es,clock,rfl,hb,res,j,h⟩:=h;obtain⟨hp,d,b',hd,hb'⟩:=yA hk;have u:∀em,(Instr.checkKey em 10000 kt key).run P w= .ok () w:=λem=>vG 16 kt key key b' 10000 em w hb' (by omega);have hf:=wV (w:=w) hd j
 cases res with
 |none=>exact⟨_,by simp[Instr.mapUpdate,run_underlying ht,MapKept.run_getObj_map hb,u,hf,MapKept.run_setObj_map _ hb];rfl,h⟩
 |some p=>
  obtain⟨i,v⟩:=p;obtain⟨⟨e,he,z⟩,h⟩:=h;have I:(Instr.keyThatStays e.key key).run P w= .ok key w:=by
   rw[z];simp[Instr.keyThatStays,Gl hp]
  exact⟨_,by simp[Instr.mapUpdate,run_underlying ht,MapKept.run_getObj_map hb,u,hf,he,I,MapKept.run_setObj_map _ hb];rfl,h⟩
theorem ZY {t kt et:TypeId} {r:Option Nat} {key zero:Value} {w:World} {K:Value->Int->b_} (ht:P.underlying t=some (.map kt et)) (hz:qM P et=some zero) (h:ZX P kt r key zero w K):
  ∃v n w',(Instr.mapEntry t (.map r) key).run P w= .ok (.tuple #[v,.int .i64 n]) w'/\K v n w':=by
 obtain⟨hk,b,es,clock,rfl,hb,res,j,h⟩:=h;obtain⟨hp,d,b',hd,hb'⟩:=yA hk;have u:∀em,(Instr.checkKey em 10000 kt key).run P w= .ok () w:=λem=>vG 16 kt key key b' 10000 em w hb' (by omega);have hf:=wV (w:=w) hd j
 cases res with
 |none=>exact⟨_,_,_,by simp[Instr.mapEntry,run_underlying ht,MapKept.run_getObj_map hb,u,hf,xw hz,MapKept.run_setObj_map _ hb,goInt];rfl,h⟩
 |some p=>
  obtain⟨i,v⟩:=p;obtain⟨e,he,z,h⟩:=h;have I:(Instr.keyThatStays e.key key).run P w= .ok key w:=by
   rw[z];simp[Instr.keyThatStays,Gl hp]
  exact⟨_,_,_,by simp[Instr.mapEntry,run_underlying ht,MapKept.run_getObj_map hb,u,hf,he,I,MapKept.run_setObj_map _ hb,goInt];rfl,h⟩
theorem acA {t:TypeId} {r:Option Nat} {k:IntKind} {n:Int} {val:Value} {w:World} {K:b_} (h:aea r n val w K):
  ∃w',(Instr.entryStore t (.map r) (.int k n) val).run P w= .ok () w'/\K w':=by
 obtain⟨b,es,clock,i,rfl,hb,hi,h⟩:=h;exact⟨_,by simp[Instr.entryStore,MapKept.run_getObj_map hb,asInt,asIntOf,hi,MapKept.run_setObj_map _ hb];rfl,h⟩
theorem ZW {t kt et t' ty:TypeId} {r:Option Nat} {key:Value} {w:World} {K:b_} (ht:P.underlying t=some (.map kt et)) (h:Me P kt r key w K):
  ∃w',(Builtin.delete_ ⟨[t,t']⟩ ty ⟨[.map r,key]⟩).run P w= .ok (.tuple #[]) w'/\K w':=by
 obtain⟨hk,h⟩:=h;obtain⟨_,d,b',hd,hb'⟩:=yA hk;have j:∀em,(Instr.checkKey em 10000 kt key).run P w= .ok () w:=λem=>vG 16 kt key key b' 10000 em w hb' (by omega);rcases h with ⟨rfl,h⟩|⟨b,es,clock,rfl,hb,res,u,h⟩
 ·exact⟨_,by simp[Builtin.delete_,run_underlying ht,j],h⟩
 ·have hf:=wV (w:=w) hd u
  cases res with
  |none=>exact⟨_,by simp[Builtin.delete_,run_underlying ht,MapKept.run_getObj_map hb,j,hf,MapKept.run_setObj_map _ hb];rfl,h⟩
  |some p=>
   obtain⟨i,v⟩:=p;exact⟨_,by simp[Builtin.delete_,run_underlying ht,MapKept.run_getObj_map hb,j,hf,MapKept.run_setObj_map _ hb];rfl,h⟩
theorem VL {op:BinOp} {t:TypeId} {x y:Value} {φ:Value->Prop} (a b:Operand) {w:World} (h:rY P op t x y φ):
  ∃v,((do eqGuard op t a b x y;binOp op t x y):Sem Value).run P w= .ok v w/\φ v:=by
 unfold rY at h;split at h
 ·rename_i k n;have hg:(eqGuard op t a b (.int k n) y).run P w= .ok () w:=by cases op<;>cases y<;>simp[eqGuard]
  simp only[Sem.run_bind,hg,Result.andThen_ok]
  cases y with
  |int k' m=>
   by_cases h1:op= .shl
   ·subst h1;simp only[DT] at h;refine⟨_,?_,h.2⟩;have:¬m<0:=Int.not_lt.2 h.1;simp[binOp,Op.shift,this,LY]
   ·by_cases h2:op= .shr
    ·subst h2;simp only[DT] at h;refine⟨_,?_,h.2⟩;have:¬m<0:=Int.not_lt.2 h.1;simp[binOp,Op.shift,this,jy]
    ·have h':cond (Dq k k') (Ec op k n m φ) False:=by cases op<;>first|exact h|exact absurd rfl h1|exact absurd rfl h2
     cases hk:Dq k k' with
     |false=>rw[hk] at h';exact h'.elim
     |true=>
      rw[hk] at h';have:=BK hk;subst this;exact aaE ⟨h1,h2⟩ h'
  |_=>cases op<;>exact h.elim
 ·rename_i s;have hg:(eqGuard op t a b (.string s) y).run P w= .ok () w:=by cases op<;>cases y<;>simp[eqGuard]
  simp only[Sem.run_bind,hg,Result.andThen_ok]
  cases y with
  |string s'=>
   have h:Es op s s' φ:=by cases op<;>exact h
   exact abl h
  |_=>cases op<;>exact h.elim
 ·rename_i xs;split at h
  case h_2=>exact h.elim
  rename_i s ys ho
  cases hg:P.eqGuardType P.depth t with
  |true=>rw[hg] at h;exact h.elim
  |false=>
   rw[hg] at h;simp only[cond_false] at h;split at h
   case h_2=>exact h.elim
   rename_i r hr;have he:=WA 16 t _ _ r 10000 w hr (by omega);refine⟨_,?_,h⟩;simp only[Sem.run_bind,run_eqGuard_agg w op t a b xs ys hg,Result.andThen_ok]
   cases op<;>simp only[yL,Option.some.injEq] at ho<;>first|(cases ho;done)|skip
   ·subst ho;rw[run_eql_struct,he];rfl
   ·subst ho;rw[run_neq_struct,he];rfl
 ·split at h
  ·rename_i ho hd;have:op= .eql:=by cases op<;>first|rfl|(simp[yL] at ho)
   subst this;obtain⟨v,hr,hφ⟩:=U0 (w:=w) hd h;exact⟨_,by simp[N9 h,(N8 h t).1,hr],hφ⟩
  ·rename_i ho hd;have:op= .neq:=by cases op<;>first|rfl|(simp[yL] at ho)
   subst this;obtain⟨v,hr,hφ⟩:=U0 (w:=w) hd h;exact⟨_,by simp[N9 h,(N8 h t).2,hr],hφ⟩
  ·exact h.elim
theorem ZM {op:UnOp} {x:Value} {φ:Value->Prop} {w:World} (h:G7 op x φ):∃v,(Op.unary op x).run P w= .ok v w/\φ v:=by
 unfold G7 at h;split at h
 ·exact⟨_,by simp[Op.unary,Op.intArith],h⟩
 ·exact⟨_,by simp[Op.unary],h⟩
 ·exact⟨_,by simp only[Op.unary];rfl,h⟩
 ·exact h.elim
theorem zG {ρ:Operand->Value} {x:Option Operand} {dflt:Int} {φ:Int->Prop} (h:wz ρ x dflt φ):
  (x=none/\φ dflt)\/∃o k n,x=some o/\ρ o= .int k n/\φ n:=by
 unfold wz at h;split at h
 ·exact .inl ⟨rfl,h⟩
 ·rename_i o;split at h
  ·rename_i k n hv;exact .inr ⟨o,k,n,rfl,hv,h⟩
  ·exact h.elim
theorem jC {k:IntKind} {i:Int} {y:Nat} {c:BoundsCode} {w:World} (h0:0<=i) (h1:i<=(y:Int)):
  (Instr.sliceBound (.int k i) y c).run P w= .ok i.toNat w:=by
 simp[Instr.sliceBound,asIntOf,h0,h1]
theorem VP {isS:Bool} {len cap:Nat} {ρ:Operand->Value} {lo hi:Option Operand} {φ:Int->Int->Prop} {w:World} (hlc:isS=true\/len=cap)
  (h:wz ρ lo 0 λl=>wz ρ hi (len:Int) λh=>φ l h) (hb:∀l h,φ l h->0<=l/\l<=h/\h<=(cap:Int)):
  ∃l h,(Instr.sliceBounds isS len cap (lo.map ρ) (hi.map ρ) none).run P w= .ok (l.toNat,h.toNat,cap) w/\φ l h:=by
 rcases zG h with ⟨e1,h1⟩|⟨o,k,l,e1,ho,h1⟩
 ·subst e1;rcases zG h1 with ⟨e2,h2⟩|⟨o',k',h',e2,ho',h2⟩
  ·subst e2;exact⟨_,_,by simp[Instr.sliceBounds],h2⟩
  ·subst e2;obtain⟨a1,a2,a3⟩:=hb _ _ h2;exact⟨_,_,by simp[Instr.sliceBounds,ho',jC (Int.le_trans a1 a2) a3],h2⟩
 ·subst e1;rcases zG h1 with ⟨e2,h2⟩|⟨o',k',h',e2,ho',h2⟩
  ·subst e2;obtain⟨a1,a2,a3⟩:=hb _ _ h2;exact⟨_,_,by simp[Instr.sliceBounds,ho,jC a1 a2],h2⟩
  ·subst e2;obtain⟨a1,a2,a3⟩:=hb _ _ h2;have a4:l<=((h'.toNat:Nat):Int):=by omega
   exact⟨_,_,by simp[Instr.sliceBounds,ho,ho',jC (Int.le_trans a1 a2) a3,jC a1 a4],h2⟩
theorem ag4 {isS:Bool} {len cap:Nat} {ρ:Operand->Value} {lo:Option Operand} {oh om:Operand} {φ:Int->Int->Int->Prop} {w:World}
  (h:wz ρ lo 0 λl=>wz ρ (some oh) 0 λh=>wz ρ (some om) 0 λm=>φ l h m) (hb:∀l h m,φ l h m->0<=l/\l<=h/\h<=m/\m<=(cap:Int)):
  ∃l h m,(Instr.sliceBounds isS len cap (lo.map ρ) (some (ρ oh)) (some (ρ om))).run P w= .ok (l.toNat,h.toNat,m.toNat) w/\φ l h m:=by
 have key:∀l,(wz ρ (some oh) 0 λh=>wz ρ (some om) 0 λm=>φ l h m)->∃kh h km m,ρ oh= .int kh h/\ρ om= .int km m/\φ l h m:=by
  intro l hh;rcases zG hh with ⟨e2,_⟩|⟨o',k',h',e2,ho',h2⟩
  ·cases e2
  ·cases e2
   rcases zG h2 with ⟨e3,_⟩|⟨o'',k'',h'',e3,ho'',h3⟩
   ·cases e3
   ·cases e3
    exact⟨_,_,_,_,ho',ho'',h3⟩
 rcases zG h with ⟨e1,h1⟩|⟨o,k,l,e1,ho,h1⟩
 ·subst e1;obtain⟨kh,h',km,m,ho,hm,h2⟩:=key _ h1;obtain⟨a1,a2,a3,a4⟩:=hb _ _ _ h2;have b1:(0:Int)<=m:=by omega
  have b3:h'<=((m.toNat:Nat):Int):=by omega
  exact⟨_,_,_,by simp[Instr.sliceBounds,ho,hm,jC b1 a4,jC a2 b3],h2⟩
 ·subst e1;obtain⟨kh,h',km,m,ho',hm,h2⟩:=key _ h1;obtain⟨a1,a2,a3,a4⟩:=hb _ _ _ h2;have b1:(0:Int)<=m:=by omega
  have b2:(0:Int)<=h':=by omega
  have b3:h'<=((m.toNat:Nat):Int):=by omega
  have b4:l<=((h'.toNat:Nat):Int):=by omega
  exact⟨_,_,_,by simp[Instr.sliceBounds,ho,ho',hm,jC b1 a4,jC b2 b3,jC a1 b4],h2⟩
theorem XI {t:TypeId} {x:Value} {ρ:Operand->Value} {lo hi mx:Option Operand} {φ:Value->Prop} {w:World} (h:AX P t x ρ lo hi mx φ):
  ∃v,(Instr.sliceAt t x (lo.map ρ) (hi.map ρ) (mx.map ρ)).run P w= .ok v w/\φ v:=by
 unfold AX at h;split at h
 ·rename_i s ht;split at h
  ·obtain⟨l,h',hr,h0⟩:=VP (P:=P) (isS:=false) (len:=s.size) (cap:=s.size) (w:=w) (.inr rfl) h (λl h' hh=>⟨hh.1,hh.2.1,hh.2.2.1⟩);exact⟨_,by simp[Instr.sliceAt,Instr.slice,run_underlying ht,hr],h0.2.2.2⟩
  ·exact h.elim
 ·rename_i e a n c ht;split at h
  ·rename_i size hs;split at h
   ·obtain⟨l,h',hr,h0⟩:=VP (P:=P) (isS:=true) (len:=n) (cap:=c) (w:=w) (.inl rfl) h (λl h' hh=>⟨hh.1,hh.2.1,hh.2.2.1⟩);exact⟨_,by simp[Instr.sliceAt,Instr.slice,run_underlying ht,hr,iV hs,eY.v,vW],h0.2.2.2⟩
   ·rename_i m;split at h
    ·rename_i hi';obtain⟨l,h',m',hr,h0⟩:=ag4 (P:=P) (isS:=true) (len:=n) (cap:=c) (w:=w) h (λl h' m' hh=>⟨hh.1,hh.2.1,hh.2.2.1,hh.2.2.2.1⟩);exact⟨_,by simp[Instr.sliceAt,Instr.slice,run_underlying ht,hr,iV hs,eY.v,vW],h0.2.2.2.2⟩
    ·exact h.elim
  ·exact h.elim
 ·rename_i n e a ht;split at h
  ·rename_i size hs;split at h
   ·obtain⟨l,h',hr,h0⟩:=VP (P:=P) (isS:=false) (len:=n) (cap:=n) (w:=w) (.inr rfl) h (λl h' hh=>⟨hh.1,hh.2.1,hh.2.2.1⟩);exact⟨_,by simp[Instr.sliceAt,Instr.sureAddr,run_underlying ht,hr,iV hs,eY.v],h0.2.2.2⟩
   ·exact h.elim
  ·exact h.elim
 ·exact h.elim
end
end Gp
end
