import Derived.RangeFuncLeaves
import Derived.OrdersIn
import Derived.RangeFuncSeq
import Derived.Maps.RangeRun
import Derived.Laws.Append
import Derived.Laws.Slices
import Derived.Laws.MakeOwn
import Derived.Laws.CopyOwn
import Derived.Laws.BytesString
import Derived.Laws.BytesArg
import Derived.Laws.StructEq
import Derived.MapKept
import Derived.WideKeyRuns
import Derived.ChangeKeysEq
section
namespace Gp
open Go
inductive Kind where
 |int (k:IntKind)|bool|str|ptr|slice|map|any
structure ah where
 a:Option Addr
 len:Nat
 cap:Nat
@[reducible] def Kind.T:Kind->Type
 | .int _=>Int
 | .bool=>Bool
 | .str=>ByteArray
 | .ptr=>Option Addr
 | .slice=>ah
 | .map=>Option Nat
 | .any=>Value
def Kind.enc:(k:Kind)->k.T->Value
 | .int k,n=> .int k n
 | .bool,b=> .bool b
 | .str,s=> .string s
 | .ptr,a=> .pointer a
 | .slice,s=> .slice s.a s.len s.cap
 | .map,r=> .map r
 | .any,v=>v
inductive Shape where
 |one (k:Kind)
 |agg (ks:List Kind)
def kindOf:TypeDesc->Option Kind
 | .bool=>some .bool
 | .int k=>some (.int k)
 | .string=>some .str
 | .pointer _=>some .ptr
 | .slice _=>some .slice
 | .map _ _=>some .map
 | .func _ _ _=>some .any
 | .interface _=>some .any
 |_=>none
def LG:List (Option (List Kind))->Option (List Kind)
 |[]=>some []
 |x::r=>match x,LG r with
  |some a,some b=>some (a++b)
  |_,_=>none
def Kt:Nat->List Kind->List Kind
 |0,_=>[]
 |n+1,ks=>ks++Kt n ks
def lZ (P:Program):Nat->TypeId->Option (List Kind)
 |0,_=>none
 |n+1,t=>match P.underlying t with
  |some (.struct fs)=>LG (fs.toList.map fun f=>lZ P n f.type)
  |some (.array len e)=>match lZ P n e with
   |some ks=>some (Kt len ks)
   |none=>none
  |some d=>match kindOf d with
   |some k=>some [k]
   |none=>none
  |none=>none
def jI:TypeDesc->Bool
 | .struct _=>true
 | .array _ _=>true
 |_=>false
def shapeOf (P:Program) (t:TypeId):Option Shape:=
 match P.underlying t with
 |some d=>cond (jI d)
  (match lZ P 20 t with
   |some ks=>some (.agg ks)
   |none=>none)
  (match kindOf d with
   |some k=>some (.one k)
   |none=>none)
 |none=>none
def x9 (P:Program):List TypeId->Option (List Shape)
 |[]=>some []
 |t::r=>match shapeOf P t,x9 P r with
  |some a,some b=>some (a::b)
  |_,_=>none
def gV (P:Program) (t:TypeId):Option (List Shape):=
 match P.underlying t with
 |some (.tuple ts)=>x9 P ts.toList
 |_=>match shapeOf P t with
  |some s=>some [s]
  |none=>none
def Di:(ks:List Kind)->(List Value->Prop)->Prop
 |[],φ=>φ []
 |k::ks,φ=>∃x:k.T,Di ks fun vs=>φ (k.enc x::vs)
def Shape.ex:Shape->(Value->Prop)->Prop
 | .one k,φ=>∃x:k.T,φ (k.enc x)
 | .agg ks,φ=>Di ks fun vs=>φ (.agg ⟨vs⟩)
def dw:List Shape->(List Value->Prop)->Prop
 |[],φ=>φ []
 |s::r,φ=>s.ex fun v=>dw r fun vs=>φ (v::vs)
def bJ:List Value->Value
 |[v]=>v
 |vs=> .tuple ⟨vs⟩
def dF:Value->Bool
 | .agg _=>false
 | .tuple _=>false
 |_=>true
def Ld (k:Kind) (w:World) (a:Addr) (K:k.T->Prop):Prop:=∃x:k.T,w.cell? a=some (k.enc x)/\K x
def J4:List Kind->World->Addr->Nat->(List Value->Prop)->Prop
 |[],_,_,_,φ=>φ []
 |k::ks,w,a,i,φ=>Ld k w (a.add i) fun x=>J4 ks w a (i+1) fun vs=>φ (k.enc x::vs)
def Shape.ld:Shape->World->Addr->(Value->Prop)->Prop
 | .one k,w,a,φ=>Ld k w a fun x=>φ (k.enc x)
 | .agg ks,w,a,φ=>J4 ks w a 0 fun vs=>φ (.agg ⟨vs⟩)
def Shape.cells:Shape->Nat
 | .one _=>1
 | .agg ks=>ks.length
def St (w:World) (a:Addr) (v:Value) (K:World->Prop):Prop:=dF v=true/\(w.cell? a).isSome=true/\w.frozen? a=false/\K (w.setCell a v)
def zB:List Value->World->Addr->Nat->(World->Prop)->Prop
 |[],w,_,_,K=>K w
 |v::vs,w,a,i,K=>St w (a.add i) v fun w'=>zB vs w' a (i+1) K
@[reducible] def sD (w:World):Value:= .pointer (some ⟨w.heap.size,0,none⟩)
def aC (z:List Value):Nat->List Value
 |0=>[]
 |n+1=>z++aC z n
def aB (P:Program) (t:TypeId):Option Nat:=
 match P.info? t with
 |some i=>some i.size
 |none=>none
def Ll (k:IntKind) (a b:Int):Int:=k.wrap ((BitVec.ofInt k.bits a &&& BitVec.ofInt k.bits b).toNat:Int)
def MX (k:IntKind) (a b:Int):Int:=k.wrap ((BitVec.ofInt k.bits a|||BitVec.ofInt k.bits b).toNat:Int)
def G_ (k:IntKind) (a b:Int):Int:=k.wrap ((BitVec.ofInt k.bits a^^^BitVec.ofInt k.bits b).toNat:Int)
def Bo (k:IntKind) (a b:Int):Int:=k.wrap ((BitVec.ofInt k.bits a &&& ~~~(BitVec.ofInt k.bits b)).toNat:Int)
def IZ (k:IntKind) (a b:Int):Int:=k.wrap (a * 2^(min b.toNat k.bits))
def I_ (k:IntKind) (a b:Int):Int:=a.fdiv (2^(min b.toNat k.bits))
def strEq (a b:ByteArray):Bool:=a.toList==b.toList
def strLt (a b:ByteArray):Bool:=Op.bytesLess a.toList b.toList
def jQ:IntKind->IntKind->Bool
 | .i8,.i8| .i16,.i16| .i32,.i32| .i64,.i64| .u8,.u8| .u16,.u16| .u32,.u32| .u64,.u64=>true
 |_,_=>false
def Kind.dec:(k:Kind)->Value->(k.T->Prop)->Prop
 | .int k,.int k' n,φ=>cond (jQ k k') (φ n) False
 | .bool,.bool b,φ=>φ b
 | .str,.string s,φ=>φ s
 | .ptr,.pointer a,φ=>φ a
 | .slice,.slice a l c,φ=>φ ⟨a,l,c⟩
 | .map,.map r,φ=>φ r
 | .any,v,φ=>φ v
 |_,_,_=>False
def jU (op:BinOp) (k:IntKind) (a b:Int) (φ:Value->Prop):Prop:=
 match op with
 | .add=>φ (.int k (k.wrap (a+b)))
 | .sub=>φ (.int k (k.wrap (a - b)))
 | .mul=>φ (.int k (k.wrap (a * b)))
 | .quo=>b≠0/\φ (.int k (k.wrap (a.tdiv b)))
 | .rem=>b≠0/\φ (.int k (a.tmod b))
 | .and=>φ (.int k (Ll k a b))
 | .or=>φ (.int k (MX k a b))
 | .xor=>φ (.int k (G_ k a b))
 | .andNot=>φ (.int k (Bo k a b))
 | .eql=>φ (.bool (a==b))
 | .neq=>φ (.bool (a !=b))
 | .lss=>φ (.bool (decide (a<b)))
 | .leq=>φ (.bool (decide (a<=b)))
 | .gtr=>φ (.bool (decide (a>b)))
 | .geq=>φ (.bool (decide (a>=b)))
 |_=>False
def jW (op:BinOp) (a b:ByteArray) (φ:Value->Prop):Prop:=
 match op with
 | .add=>((a.size+b.size:Nat):Int)<=IntKind.i64.max/\φ (.string (a++b))
 | .eql=>φ (.bool (strEq a b))
 | .neq=>φ (.bool (!strEq a b))
 | .lss=>φ (.bool (strLt a b))
 | .leq=>φ (.bool (strLt a b||strEq a b))
 | .gtr=>φ (.bool !(strLt a b||strEq a b))
 | .geq=>φ (.bool !(strLt a b))
 |_=>False
def jS (op:BinOp) (x y:Value) (φ:Value->Prop):Prop:=
 match op,x,y with
 | .shl,.int k a,.int _ b=>0<=b/\φ (.int k (IZ k a b))
 | .shr,.int k a,.int _ b=>0<=b/\φ (.int k (I_ k a b))
 |op,.int k a,.int k' b=>cond (jQ k k') (jU op k a b φ) False
 |op,.string a,.string b=>jW op a b φ
 |_,_,_=>False
def jP (d:TypeDesc) (x y:Value) (φ:Bool->Prop):Prop:=
 match d,x,y with
 | .bool,.bool a,.bool b=>φ (a==b)
 | .pointer _,.pointer q,.pointer none=>φ q.isNone
 | .slice _,.slice q _ _,.slice none _ _=>φ q.isNone
 | .map _ _,.map q,.map none=>φ q.isNone
 |_,_,_=>False
def vk (d:TypeDesc) (size off:Nat) (cs:List Value):Option Value:=
 cond (jI d) (some (.agg ⟨(cs.drop off).take size⟩)) cs[off]?
def GL (b:Bool):Option Bool->Option Bool
 |some r=>some (b && r)
 |none=>none
def DJ (P:Program) (f:TypeId->Value->Value->Option Bool) (xs ys:List Value):List Field->Option Bool
 |[]=>some true
 |fd::fs=>cond (fd.name=="_") none (match P.underlying fd.type,aB P fd.type with
  |some d,some size=>match vk d size fd.offset xs,vk d size fd.offset ys with
   |some a,some b=>match f fd.type a b with
    |some r=>GL r (DJ P f xs ys fs)
    |none=>none
   |_,_=>none
  |_,_=>none)
def CY (f:Value->Value->Option Bool) (d:TypeDesc) (size:Nat) (xs ys:List Value):Nat->Nat->Option Bool
 |0,_=>some true
 |n+1,i=>match vk d size (i * size) xs,vk d size (i * size) ys with
  |some a,some b=>match f a b with
   |some r=>GL r (CY f d size xs ys n (i+1))
   |none=>none
  |_,_=>none
def xW (P:Program):Nat->TypeId->Value->Value->Option Bool
 |0,_,_,_=>none
 |d+1,t,x,y=>match P.underlying t,x,y with
  |some .bool,.bool a,.bool b=>some (a==b)
  |some (.int _),.int k a,.int k' b=>cond (jQ k k') (some (a==b)) none
  |some .string,.string a,.string b=>some (strEq a b)
  |some (.struct fs),.agg xs,.agg ys=>cond (P.stoodInHeld t) none (DJ P (xW P d) xs.toList ys.toList fs.toList)
  |some (.array n e),.agg xs,.agg ys=>match P.underlying e,aB P e with
   |some de,some size=>CY (xW P d e) de size xs.toList ys.toList n 0
   |_,_=>none
  |_,_,_=>none
def iD:BinOp->Option Bool
 | .eql=>some true
 | .neq=>some false
 |_=>none
def fD (P:Program) (op:BinOp) (t:TypeId) (x y:Value) (φ:Value->Prop):Prop:=
 match x with
 | .int _ _=>jS op x y φ
 | .string _=>jS op x y φ
 | .agg _=>match iD op,y with
  |some s,.agg _=>cond (P.eqGuardType P.depth t) False (match xW P 16 t x y with
   |some b=>φ (.bool (cond s b (!b)))
   |none=>False)
  |_,_=>False
 |_=>match iD op,P.underlying t with
  |some true,some d=>jP d x y fun b=>φ (.bool b)
  |some false,some d=>jP d x y fun b=>φ (.bool !b)
  |_,_=>False
def lV (op:UnOp) (x:Value) (φ:Value->Prop):Prop:=
 match op,x with
 | .neg,.int k n=>φ (.int k (k.wrap (0 - n)))
 | .not,.bool b=>φ (.bool !b)
 | .xor,.int k n=>φ (.int k (G_ k (if k.signed then -1 else k.max) n))
 |_,_=>False
def lH (a:Option Addr) (m l size:Nat):Option Addr:=if m=l then a else a.map (·.add (l * size))
def AX (s:ah) (size:Nat) (l h:Int) (K:ah->Prop):Prop:=
 0<=l/\l<=h/\h<=(s.cap:Int)/\K ⟨lH s.a s.cap l.toNat size,h.toNat - l.toNat,s.cap - l.toNat⟩
def qy (s:ah) (size:Nat) (l h m:Int) (K:ah->Prop):Prop:=
 0<=l/\l<=h/\h<=m/\m<=(s.cap:Int)/\K ⟨lH s.a m.toNat l.toNat size,h.toNat - l.toNat,m.toNat - l.toNat⟩
def zN (a:Addr) (n size:Nat) (l h:Int) (K:ah->Prop):Prop:=
 0<=l/\l<=h/\h<=(n:Int)/\K ⟨some (if n=l.toNat then a else a.add (l.toNat * size)),h.toNat - l.toNat,n - l.toNat⟩
def zQ (s:ByteArray) (l h:Int) (K:ByteArray->Prop):Prop:=
 0<=l/\l<=h/\h<=(s.size:Int)/\K (s.extract l.toNat h.toNat)
def Aw (s:ah) (size:Nat) (i:Int) (K:Addr->Prop):Prop:=
 ∃a,s.a=some a/\0<=i/\i<(s.len:Int)/\K (a.add (i.toNat * size))
def Ih (s:ByteArray) (i:Int) (K:Int->Prop):Prop:=
 ∃b:UInt8,0<=i/\s[i.toNat]? =some b/\K (b.toNat:Int)
def Cells (w:World) (a:Addr) (vs:List Value):Prop:=∀j,j<vs.length->w.cell? (a.add j)=vs[j]?
def fF (w:World):Option Addr->Nat->List Value->Prop
 |none,_,vs=>vs=[]
 |some a,n,vs=>vs.length=n/\Cells w a vs
def setCells (w:World) (a:Addr):List Value->Nat->World
 |[],_=>w
 |v::vs,i=>setCells (w.setCell (a.add i) v) a vs (i+1)
def oO (w:World) (a:Addr) (n:Nat):Prop:=∀j,j<n->(w.cell? (a.add j)).isSome=true/\w.frozen? (a.add j)=false
def jL (P:Program) (t:TypeId):Option Nat:=
 match P.info? t with
 |some i=>some i.bytes
 |none=>none
def yT (e:TypeId) (size bytes:Nat) (z:List Value) (s:ah) (n:Nat) (vs:List Value) (w:World) (K:ah->World->Prop):Prop:=
 (s.len+n<=s.cap/\(∀a,s.a=some a->oO w (a.add (s.len * size)) vs.length)/\(∀v∈vs,dF v=true)/\
  K ⟨s.a,s.len+n,s.cap⟩ (match s.a with|some a=>setCells w (a.add (s.len * size)) vs 0|none=>w))\/
 (s.cap<s.len+n/\(s.len+n) * bytes<=2^46/\s.len+n<=2^62/\∃old,fF w s.a (s.len * size) old/\
  ∀c,s.len+n<=c->c<2^63->K ⟨some ⟨w.heap.size,0,none⟩,s.len+n,c⟩ (w.drew.alloc (.cells ⟨old++vs++aC z (c - (s.len+n))⟩ e)))
def KI (e:TypeId) (size bytes:Nat) (z:List Value) (s x:ah) (w:World) (K:ah->World->Prop):Prop:=
 ∃vs,fF w x.a (x.len * size) vs/\yT e size bytes z s x.len vs w K
def byteCells (s:ByteArray):List Value:=s.data.toList.map fun b=> .int .u8 b.toNat
def JK (e:TypeId) (size bytes:Nat) (z:List Value) (s:ah) (x:ByteArray) (w:World) (K:ah->World->Prop):Prop:=
 yT e size bytes z s x.size (byteCells x) w K
def Iy (e:TypeId) (size bytes:Nat) (z:List Value) (s:ah) (n:Int) (w:World) (K:ah->World->Prop):Prop:=
 0<=n/\n * bytes<=2^46/\n<=2^62/\yT e size bytes z s n.toNat (aC z n.toNat) w K
def Bj (z:List Value) (s:ah) (w:World) (K:World->Prop):Prop:=
 (∀a,s.a=some a->oO w a (s.len * z.length))/\(∀v∈z,dF v=true)/\K (match s.a with|some a=>setCells w a (aC z s.len) 0|none=>w)
def EL (size:Nat) (d s:ah) (w:World) (K:Int->World->Prop):Prop:=
 ∃vs,fF w s.a (Nat.min s.len d.len * size) vs/\(∀a,d.a=some a->oO w a vs.length)/\(∀v∈vs,dF v=true)/\
  K (Nat.min s.len d.len:Nat) (match d.a with|some a=>setCells w a vs 0|none=>w)
def KX (e:TypeId) (size bytes:Nat) (z:List Value) (n c:Int) (w:World) (K:ah->World->Prop):Prop:=
 0<=n/\n<=c/\c<=2^62/\(bytes:Int) * c<=2^48/\
  K ⟨some ⟨w.heap.size,0,none⟩,n.toNat,c.toNat⟩ (w.alloc (.cells ⟨aC z c.toNat⟩ e))
def partOf (d:TypeDesc) (size off:Nat) (cs:List Value) (φ:Value->Prop):Prop:=
 cond (jI d) (φ (.agg ⟨(cs.drop off).take size⟩))
  (match cs[off]? with
   |some v=>φ v
   |none=>False)
def cellsOfV:Value->List Value
 | .agg cs=>cs.toList
 |v=>[v]
def splice (cs:List Value) (off:Nat) (vs:List Value):List Value:=cs.take off++(vs++cs.drop (off+vs.length))
def iG (place:Nat->Option (Nat×Nat)):List (Nat×Value)->List Value->Option (List Value)
 |[],cs=>some cs
 |(i,v)::r,cs=>match place i with
  |some (off,size)=>cond (Nat.beq (cellsOfV v).length size && Nat.ble (off+size) cs.length) (iG place r (splice cs off (cellsOfV v))) none
  |none=>none
def qJ:List (Nat×Value)->List Value->Option (List Value)
 |[],cs=>some cs
 |(i,v)::r,cs=>cond (Nat.blt i cs.length) (qJ r (cs.set i v)) none
def qg:List Value->Prop
 |[]=>True
 |v::r=>dF v=true/\qg r
def u_:Option Shape->Bool
 |some (.one .any)=>true
 |_=>false
def aY (P:Program) (t:TypeId):Option (List Value):=
 match P.info? t with
 |some i=>match i.zero with
  |some z=>some (cellsOfV z)
  |none=>none
 |none=>none
def placesOf (P:Program):List Field->Option (List (Nat×Nat))
 |[]=>some []
 |f::r=>match aB P f.type,placesOf P r with
  |some s,some l=>some ((f.offset,s)::l)
  |_,_=>none
def iy (P:Program) (fs:Array Field) (i:Nat):Option (Nat×Nat):=
 match fs.toList[i]? with
 |some f=>match aB P f.type with
  |some s=>some (f.offset,s)
  |none=>none
 |none=>none
def dD (P:Program) (f:FuncId):Bool:=
 match P.funcs[f]? with
 |some fn=>fn.body.isSome
 |none=>false
def MP (P:Program) (f:FuncId) (args:List Value) (w:World) (K:Value->World->Prop):Prop:=
 ∃v w',(callFunc f ⟨args⟩).run P w= .ok (.value v) w'/\K v w'
def vN (P:Program) (sh:List Shape) (f:FuncId) (args:List Value) (w:World) (K:Value->World->Prop):Prop:=
 Calls P f ⟨args⟩ w fun e w'=>dw sh fun vs=>e= .returned (bJ vs)/\K (bJ vs) w'
def nZ (P:Program) (l:Nat) (args:List Value) (w:World) (K:Bool->World->Prop):Prop:=
 YieldAt Fence.wide 0 P l ⟨args⟩ w fun e w'=>∃b:Bool,e= .returned (.bool b)/\K b w'
def Bh (P:Program) (sh:List Shape) (v:Value) (args:List Value) (w:World) (K:Value->World->Prop):Prop:=
 match v with
 | .func (.func f) first cap=>cond (dD P f) (vN P sh f (first.toList++(args++cap.toList)) w K) False
 | .func (.yield l) first _=>nZ P l (first.toList++args) w fun b w'=>K (.bool b) w'
 |_=>False
def Ed (w:World) (r:Option Nat) (φ:Int->Prop):Prop:=
 match r with
 |none=>φ 0
 |some b=>∃es clock,w.heap[b]? =some (.map es clock)/\φ (es.size:Int)
def pU (d:TypeDesc) (x:Value) (w:World) (φ:Int->Prop):Prop:=
 match d,x with
 | .string,.string s=>φ (s.size:Int)
 | .array n _,_=>φ (n:Int)
 | .slice _,.slice _ n _=>φ (n:Int)
 | .map _ _,.map r=>Ed w r φ
 |_,_=>False
def iO (mx:Bool):Int->List Value->IntKind->(Value->Prop)->Prop
 |x,[],k,φ=>φ (.int k x)
 |x,.int _ y::r,k,φ=>iO mx (cond mx (if y>x then y else x) (if y<x then y else x)) r k φ
 |_,_::_,_,_=>False
def ah.v (s:ah):Value:= .slice s.a s.len s.cap
def Ef:Value->Bool
 | .int _ _=>true
 | .bool _=>true
 | .string _=>true
 |_=>false
def qB:Value->Bool
 | .agg cs=>cs.toList.all Ef
 |v=>Ef v
def iC (P:Program) (kt:TypeId) (key:Value):List MapEntry->Nat->Option (Option (Nat×Value))
 |[],_=>some none
 |e::es,i=>match xW P 16 kt key e.key with
  |some true=>some (some (i,e.val))
  |some false=>iC P kt key es (i+1)
  |none=>none
def qU (P:Program) (kt:TypeId) (key:Value):Bool:=qB key && (xW P 16 kt key key).isSome
def Au (P:Program) (kt:TypeId) (k:Kind) (r:Option Nat) (key zero:Value) (w:World) (K:k.T->Prop):Prop:=
 qU P kt key=true/\((r=none/\k.dec zero K)\/∃b es clock,r=some b/\w.heap[b]? =some (.map es clock)/\∃res,iC P kt key es.toList 0=some res/\k.dec (match res with|some (_,v)=>v|none=>zero) K)
def lX (P:Program) (kt:TypeId) (r:Option Nat) (key zero:Value) (w:World) (K:Value->Bool->Prop):Prop:=
 qU P kt key=true/\((r=none/\K zero false)\/∃b es clock,r=some b/\w.heap[b]? =some (.map es clock)/\∃res,iC P kt key es.toList 0=some res/\
  match res with|some (_,v)=>K v true|none=>K zero false)
def Ah (P:Program) (kt:TypeId) (r:Option Nat) (key val:Value) (w:World) (K:World->Prop):Prop:=
 qU P kt key=true/\∃b es clock,r=some b/\w.heap[b]? =some (.map es clock)/\∃res,iC P kt key es.toList 0=some res/\
  match res with
  |some (i,_)=>(∃e,es[i]? =some e/\e.key=key)/\K (w.putObj b (.map (es.modify i fun e=>{e with key:=key,val:=val}) clock))
  |none=>K (w.putObj b (.map (es.push {key:=key,val:=val,born:=clock}) (clock+1)))
def zO (P:Program) (kt:TypeId) (r:Option Nat) (key:Value) (w:World) (K:World->Prop):Prop:=
 qU P kt key=true/\((r=none/\K w)\/∃b es clock,r=some b/\w.heap[b]? =some (.map es clock)/\∃res,iC P kt key es.toList 0=some res/\
  match res with
  |some (i,_)=>K (w.putObj b (.map (es.eraseIdxIfInBounds i) clock))
  |none=>K (w.putObj b (.map es clock)))
def zI (P:Program) (kt:TypeId) (r:Option Nat) (key zero:Value) (w:World) (K:Value->Int->World->Prop):Prop:=
 qU P kt key=true/\∃b es clock,r=some b/\w.heap[b]? =some (.map es clock)/\∃res,iC P kt key es.toList 0=some res/\
  match res with
  |some (i,v)=>∃e,es[i]? =some e/\e.key=key/\K v (e.born:Int) (w.putObj b (.map (es.modify i fun e=>{e with key:=key}) clock))
  |none=>K zero (clock:Int) (w.putObj b (.map (es.push {key:=key,val:=zero,born:=clock}) (clock+1)))
def EW (r:Option Nat) (stamp:Int) (val:Value) (w:World) (K:World->Prop):Prop:=
 ∃b es clock i,r=some b/\w.heap[b]? =some (.map es clock)/\es.findIdx? (fun e=>(e.born:Int)==stamp)=some i/\K (w.putObj b (.map (es.modify i fun e=>{e with val:=val}) clock))
def Eu (r:Option Nat) (w:World) (K:Addr->World->Prop):Prop:=
 (r=none/\K ⟨w.heap.size,0,none⟩ (w.alloc (.mapIter none 0 #[] 0)))\/
 ∃b es clock,r=some b/\w.heap[b]? =some (.map es clock)/\K ⟨w.heap.size,0,none⟩ (w.alloc (.mapIter (some b) clock #[] clock))
def Iq (q:Nat) (w:World) (Kend:World->Prop) (Kstep:Value->Value->World->Prop):Prop:=
 (∃s sn c,w.heap[q]? =some (.mapIter none s sn c)/\Kend w)\/
 ∃b since seen c0 es clock,w.heap[q]? =some (.mapIter (some b) since seen c0)/\w.heap[b]? =some (.map es clock)/\(∀x∈es.toList,x.born<since)/\since<=c0/\
  ((leftOf es seen).size=0->Kend w)/\
  ∀e∈(leftOf es seen).toList,∀w1,(w1=w\/w1=w.drew)->Kstep e.key e.val (w1.putObj q (.mapIter (some b) since (seen.push e.born) clock))
def EI (q:Nat) (w:World) (K:Value->Value->Prop):Prop:=
 ∃b since seen es clock e,w.heap[q]? =some (.mapIter (some b) since (Array.push seen e.born) clock)/\w.heap[b]? =some (.map es clock)/\e∈es.toList/\(es.toList.map (·.born)).Nodup/\K e.key e.val
def eH (P:Program) (t:TypeId):Option Value:=
 match P.info? t with
 |some i=>i.zero
 |none=>none
def aK (P:Program) (b:Builtin) (ts:List TypeId) (args:List Value) (w:World) (K:Value->World->Prop):Prop:=
 match b,ts,args with
 | .len,[t],[x]=>match P.underlying t with
  |some d=>pU d x w fun n=>K (.int .i64 n) w
  |none=>False
 | .cap,[t],[.slice _ _ c]=>match P.underlying t with
  |some (.slice _)=>K (.int .i64 (c:Int)) w
  |_=>False
 | .max,_,.int k x::r=>iO true x r k fun v=>K v w
 | .min,_,.int k x::r=>iO false x r k fun v=>K v w
 | .append,[t,t'],[.slice a l c,x]=>match P.underlying t,P.underlying t' with
  |some (.slice e),some d=>match aB P e,jL P e,aY P e,d,x with
   |some size,some bytes,some z,.slice _,.slice b n m=>KI e size bytes z ⟨a,l,c⟩ ⟨b,n,m⟩ w fun s w'=>K s.v w'
   |some size,some bytes,some z,.string,.string s=>JK e size bytes z ⟨a,l,c⟩ s w fun s w'=>K s.v w'
   |some size,some bytes,some z,.int _,.int _ n=>cond (Nat.beq z.length size) (Iy e size bytes z ⟨a,l,c⟩ n w fun s w'=>K s.v w') False
   |_,_,_,_,_=>False
  |_,_=>False
 | .copy,[t,_],[.slice a l c,.slice b n m]=>match P.underlying t with
  |some (.slice e)=>match aB P e with
   |some size=>EL size ⟨a,l,c⟩ ⟨b,n,m⟩ w fun n w'=>K (.int .i64 n) w'
   |none=>False
  |_=>False
 | .clear,[t],[.slice a n c]=>match P.underlying t with
  |some (.slice e)=>match aB P e,aY P e with
   |some size,some z=>cond (Nat.beq z.length size) (Bj z ⟨a,n,c⟩ w fun w'=>K (.tuple #[]) w') False
   |_,_=>False
  |_=>False
 | .delete,[t,_],[.map r,key]=>match P.underlying t with
  |some (.map kt _)=>zO P kt r key w fun w'=>K (.tuple #[]) w'
  |_=>False
 |_,_,_=>False
def gI (ρ:Operand->Value) (x:Option Operand) (dflt:Int) (φ:Int->Prop):Prop:=
 match x with
 |none=>φ dflt
 |some o=>match ρ o with
  | .int _ n=>φ n
  |_=>False
def iY (P:Program) (t:TypeId) (x:Value) (ρ:Operand->Value) (lo hi mx:Option Operand) (φ:Value->Prop):Prop:=
 match P.underlying t,x with
 |some .string,.string s=>match mx with
  |none=>gI ρ lo 0 fun l=>gI ρ hi (s.size:Int) fun h=>zQ s l h fun s'=>φ (.string s')
  |some _=>False
 |some (.slice e),.slice a n c=>match aB P e with
  |some size=>match mx with
   |none=>gI ρ lo 0 fun l=>gI ρ hi (n:Int) fun h=>AX ⟨a,n,c⟩ size l h fun s'=>φ s'.v
   |some m=>match hi with
    |some _=>gI ρ lo 0 fun l=>gI ρ hi 0 fun h=>gI ρ (some m) 0 fun m'=>qy ⟨a,n,c⟩ size l h m' fun s'=>φ s'.v
    |none=>False
  |none=>False
 |some (.array n e),.pointer (some a)=>match aB P e with
  |some size=>match mx with
   |none=>gI ρ lo 0 fun l=>gI ρ hi (n:Int) fun h=>zN a n size l h fun s'=>φ s'.v
   |some _=>False
  |none=>False
 |_,_=>False
def iP (P:Program) (s d:TypeId) (x:Value) (φ:Value->Prop):Prop:=
 match P.underlying s,P.underlying d,x with
 |some _,some (.int k),.int _ n=>φ (.int k (k.wrap n))
 |some _,some .string,.string b=>φ (.string b)
 |_,_,_=>False
def sO (w:World) (s:ah) (K:ByteArray->Prop):Prop:=
 ∃b:ByteArray,b.size=s.len/\fF w s.a s.len (byteCells b)/\K b
def yj (e:TypeId) (s:ByteArray) (w:World) (K:ah->World->Prop):Prop:=
 s.size<=2^62/\∀c,s.size<=c->c<2^63->K ⟨some ⟨w.heap.size,0,none⟩,s.size,c⟩ (w.drew.alloc (.cells ⟨byteCells s++aC [.int .u8 0] (c - s.size)⟩ e (c,c+1)))
def E8 (a:Addr) (w:World) (K:World->Prop):Prop:=∃T n,w.shape? a.block=some (T,n)/\K (w.freeze ⟨a.block,n,none⟩ 1)
def xq (P:Program) (t:TypeId) (name:String):Option FuncId:=
 match P.info? t with
 |some i=>match i.methods.find? (·.name==name) with
  |some m=>match m.path.toList,m.func with
   |[],some (f,false)=>some f
   |_,_=>none
  |none=>none
 |none=>none
def qA:TypeDesc->Bool
 | .pointer _=>true
 |_=>false
def Gv (P:Program) (sh:List Shape) (x:Value) (name:String) (args:List Value) (w:World) (K:Value->World->Prop):Prop:=
 match x with
 | .iface t v=>match P.underlying t,xq P t name with
  |some d,some f=>cond (!qA d && dD P f) (vN P sh f (v::args) w K) False
  |_,_=>False
 |_=>False
def qE (P:Program) (op:BinOp) (t:TypeId) (x y:Value) (φ:Value->Prop):Prop:=
 match iD op,P.underlying t,x,y with
 |some s,some (.interface _),.nilIface,.nilIface=>φ (.bool s)
 |some s,some (.interface _),.iface _ _,.nilIface=>φ (.bool (!s))
 |_,_,_,_=>False
def J5 (z:Value) (t:TypeId) (x:Value) (ok:Bool) (K:Value->Prop):Prop:=
 match x with
 | .iface t' v=>cond (Nat.beq t' t) (K (cond ok (.tuple ⟨[v,.bool true]⟩) v)) (cond ok (K (.tuple ⟨[z,.bool false]⟩)) False)
 | .nilIface=>cond ok (K (.tuple ⟨[z,.bool false]⟩)) False
 |_=>False
def fJ (P:Program) (o:Oper) (ρ:Operand->Value) (w:World) (K:Value->World->Prop):Prop:=
 match o.op with
 | .move x=>K (ρ x) w
 | .assign x=>K (ρ x) w
 | .pick c a b=>match ρ c with
  | .bool t=>cond t (K (ρ a) w) (K (ρ b) w)
  |_=>False
 | .alloc e=>match aY P e with
  |some z=>K (sD w) (w.alloc (.cells ⟨z⟩ e))
  |none=>False
 | .box e x=>match shapeOf P e with
  |some (.one _)=>dF (ρ x)=true/\K (sD w) (w.alloc (.cells ⟨[ρ x]⟩ e))
  |some (.agg _)=>match ρ x with
   | .agg cs=>K (sD w) (w.alloc (.cells cs e))
   |_=>False
  |none=>False
 | .build t ps=>match aY P t,P.underlying t with
  |some z,some (.struct fs)=>match placesOf P fs.toList with
   |some pl=>match iG (fun i=>pl[i]?) (ps.toList.map fun p=>(p.1,ρ p.2)) z with
    |some cs=>K (.agg ⟨cs⟩) w
    |none=>False
   |none=>False
  |some z,some (.array _ e)=>match aB P e with
   |some size=>match iG (fun i=>some (i * size,size)) (ps.toList.map fun p=>(p.1,ρ p.2)) z with
    |some cs=>K (.agg ⟨cs⟩) w
    |none=>False
   |none=>False
  |_,_=>False
 | .buildSlice t n ps=>match P.underlying t with
  |some (.slice e)=>match aB P e,aY P e with
   |some size,some z=>cond (Nat.ble (n * size) 4096 && Nat.beq z.length size)
    (cond (u_ (shapeOf P e)) (cond (Nat.beq size 1) (qg (ps.toList.map fun p=>ρ p.2)/\(match qJ (ps.toList.map fun p=>(p.1,ρ p.2)) (aC z n) with
     |some cs=>K (.slice (some ⟨w.heap.size,0,none⟩) n n) (w.alloc (.cells ⟨cs⟩ e))
     |none=>False)) False)
     (match iG (fun i=>some (i * size,size)) (ps.toList.map fun p=>(p.1,ρ p.2)) (aC z n) with
     |some cs=>K (.slice (some ⟨w.heap.size,0,none⟩) n n) (w.alloc (.cells ⟨cs⟩ e))
     |none=>False)) False
   |_,_=>False
  |_=>False
 | .load t x=>match ρ x,shapeOf P t,aB P t with
  | .pointer (some a),some sh,some n=>cond (Nat.beq sh.cells n) (sh.ld w a fun v=>K v w) False
  |_,_,_=>False
 | .store t x y=>match ρ x,shapeOf P t,aB P t with
  | .pointer (some a),some (.one _),some n=>cond (Nat.beq n 1) (St w a (ρ y) fun w'=>K undef w') False
  | .pointer (some a),some (.agg _),some n=>match ρ y with
   | .agg cs=>cond (Nat.beq cs.toList.length n) (zB cs.toList w a 0 fun w'=>K undef w') False
   |_=>False
  |_,_,_=>False
 | .nilCheck x=>match ρ x with
  | .pointer q=>∃a,q=some a/\K (.pointer (some a)) w
  |_=>False
 | .binOp op t x y _=>match y with
  | .const .nilIface=>qE P op t (ρ x) (ρ (.const .nilIface)) fun v=>K v w
  |y=>fD P op t (ρ x) (ρ y) fun v=>K v w
 | .unOp op _ x=>lV op (ρ x) fun v=>K v w
 | .convert s d x=>match P.underlying s,P.underlying d,ρ x with
  |some (.slice e),some .string,.slice a n c=>match P.underlying e with
   |some (.int .u8)=>sO w ⟨a,n,c⟩ fun b=>K (.string b) w
   |_=>False
  |some .string,some (.slice e),.string b=>match P.underlying e with
   |some (.int .u8)=>yj e b w fun s' w'=>K s'.v w'
   |_=>False
  |some (.slice _),some (.slice e),.slice (some a) n c=>match P.underlying e,Nat.beq s d with
   |some (.int .u8),true=>E8 a w fun w'=>K (.slice (some a) n c) w'
   |_,_=>False
  |_,_,v=>iP P s d v fun v=>K v w
 | .makeFunc fn first cap=>K (.func fn ⟨first.toList.map ρ⟩ ⟨cap.toList.map ρ⟩) w
 | .lookup t x i false=>match P.underlying t,ρ x with
  |some (.map kt et),.map r=>match shapeOf P et,eH P et with
   |some (.one k),some z=>Au P kt k r (ρ i) z w fun x=>K (k.enc x) w
   |some (.agg ks),some z=>lX P kt r (ρ i) z w fun v _=>(Shape.agg ks).ex fun v'=>v=v'/\K v' w
   |_,_=>False
  |_,_=>False
 | .lookup t x i true=>match P.underlying t,ρ x with
  |some (.map kt et),.map r=>match shapeOf P et,eH P et with
   |some sh,some z=>lX P kt r (ρ i) z w fun v b=>sh.ex fun v'=>v=v'/\K (.tuple ⟨[v',.bool b]⟩) w
   |_,_=>False
  |_,_=>False
 | .mapUpdate t x i v=>match P.underlying t,ρ x with
  |some (.map kt _),.map r=>Ah P kt r (ρ i) (ρ v) w fun w'=>K undef w'
  |_,_=>False
 | .mapEntry t x i=>match P.underlying t,ρ x with
  |some (.map kt et),.map r=>match eH P et with
   |some z=>zI P kt r (ρ i) z w fun v n w'=>K (.tuple ⟨[v,.int .i64 n]⟩) w'
   |none=>False
  |_,_=>False
 | .entryStore _ x st v=>match ρ x,ρ st with
  | .map r,.int _ n=>EW r n (ρ v) w fun w'=>K undef w'
  |_,_=>False
 | .makeMap _ none=>K (.map (some w.heap.size)) (w.alloc (.map #[] 0))
 | .makeSlice t l c=>match P.underlying t,ρ l,ρ c with
  |some (.slice e),.int _ n,.int _ m=>match aB P e,jL P e,aY P e with
   |some size,some bytes,some z=>cond (Nat.beq z.length size) (KX e size bytes z n m w fun s w'=>K s.v w') False
   |_,_,_=>False
  |_,_,_=>False
 | .slice t x lo hi mx=>iY P t (ρ x) ρ lo hi mx fun v=>K v w
 | .fieldAddr t x f=>match P.underlying t,ρ x with
  |some (.struct fs),.pointer (some a)=>match iy P fs f with
   |some (off,size)=>cond (Nat.beq size 0) False (K (.pointer (some (a.add off))) w)
   |none=>False
  |_,_=>False
 | .field t x f=>match P.underlying t,ρ x with
  |some (.struct fs),.agg cs=>match fs.toList[f]? with
   |some fd=>match P.underlying fd.type,aB P fd.type with
    |some d,some size=>partOf d size fd.offset cs.toList fun v=>K v w
    |_,_=>False
   |none=>False
  |_,_=>False
 | .indexAddr t x i=>match P.underlying t,ρ x,ρ i with
  |some (.slice e),.slice a n c,.int _ i=>match aB P e with
   |some size=>Aw ⟨a,n,c⟩ size i fun a'=>K (.pointer (some a')) w
   |none=>False
  |some (.array n e),.pointer (some a),.int _ i=>match aB P e with
   |some size=>0<=i/\i<(n:Int)/\K (.pointer (some (a.add (i.toNat * size)))) w
   |none=>False
  |_,_,_=>False
 | .index t x i=>match P.underlying t,ρ x,ρ i with
  |some .string,.string s,.int _ i=>Ih s i fun n=>K (.int .u8 n) w
  |some (.array n e),.agg cs,.int _ i=>match P.underlying e,aB P e with
   |some d,some size=>0<=i/\i<(n:Int)/\partOf d size (i.toNat * size) cs.toList fun v=>K v w
   |_,_=>False
  |_,_,_=>False
 | .extract t i=>match ρ t with
  | .tuple vs=>match vs.toList[i]? with
   |some v=>match shapeOf P o.type with
    |some (.one k)=>k.dec v fun x=>K (k.enc x) w
    |_=>K v w
   |none=>False
  |_=>False
 | .range t x=>match P.underlying t,ρ x with
  |some (.map _ _),.map r=>Eu r w fun a w'=>K (.pointer (some a)) w'
  |_,_=>False
 | .next x false=>match ρ x with
  | .pointer (some a)=>a=⟨a.block,0,none⟩/\Iq a.block w (K (.tuple ⟨[.bool false]⟩)) fun k v w'=>K (.tuple ⟨[.bool true,k,v]⟩) w'
  |_=>False
 | .entry x=>match ρ x with
  | .pointer (some a)=>a=⟨a.block,0,none⟩/\EI a.block w fun k v=>K (.tuple ⟨[k,v]⟩) w
  |_=>False
 | .makeInterface t x=>match P.underlying t with
  |some (.interface _)=>False
  |some _=>K (.iface t (ρ x)) w
  |none=>False
 | .typeAssert x _ t ok=>match P.underlying t,eH P t with
  |some (.interface _),_=>False
  |some _,some z=>J5 z t (ρ x) ok fun v=>K v w
  |_,_=>False
 | .call c=>match c.callee with
  | .value (.func f)=>match gV P o.type with
   |some sh=>cond (dD P f) (vN P sh f (c.args.toList.map ρ) w K) (MP P f (c.args.toList.map ρ) w fun r w'=>dw sh fun vs=>r=bJ vs/\K (bJ vs) w')
   |none=>False
  | .value x=>match gV P o.type with
   |some sh=>Bh P sh (ρ x) (c.args.toList.map ρ) w fun r w'=>dw sh fun vs=>r=bJ vs/\K (bJ vs) w'
   |none=>False
  | .builtin b=>aK P b c.argTypes.toList (c.args.toList.map ρ) w K
  | .invoke x name=>match gV P o.type with
   |some sh=>Gv P sh (ρ x) name (c.args.toList.map ρ) w K
   |none=>False
 |_=>False
abbrev Env:=List (Nat×Value)
def Env.get:Env->Nat->Option Value
 |[],_=>none
 |(s,v)::r,t=>cond (Nat.beq s t) (some v) (Env.get r t)
def Env.put (env:Env) (d:Option Nat) (v:Value):Env:=
 match d with
 |some s=>(s,v)::env
 |none=>env
def D7 (env:Env):Operand->Option Value
 | .tmp t=>env.get t
 | .const v=>some v
 | .global g=>some (.pointer (some ⟨g,0,none⟩))
 | .func f=>some (.func (.func f) #[] #[])
def ev (env:Env) (x:Operand):Value:=(D7 env x).getD undef
def ru (env:Env):List Operand->Bool
 |[]=>true
 |x::r=>(D7 env x).isSome && ru env r
def cO (nt:Nat):Option Nat->Bool
 |some d=>Nat.blt d nt
 |none=>true
def split (g:Bool) (v:Value) (K:Value->Prop):Prop:=
 cond g (match v with| .bool b=>cond b (K (.bool true)) (K (.bool false))|v=>K v) (K v)
def eX (P:Program) (nt:Nat) (o:Oper) (g:Bool) (env:Env) (w:World) (K:Env->World->Prop):Prop:=
 cond (ru env o.op.operands.toList && cO nt o.dst)
  (fJ P o (ev env) w fun v w'=>split g v fun v'=>K (env.put o.dst v') w') False
def bV (P:Program) (nt:Nat) (ops:List Oper) (o:Oper) (g:Bool) (env:Env) (w:World) (K:Env->World->Prop):Prop:=
 match o.guard with
 |none=>eX P nt o g env w K
 |some (j,want)=>match (ops[j]?).bind (·.dst) with
  |some s=>match env.get s with
   |some (.bool t)=>cond (t==want) (eX P nt o g env w K) (cond (cO nt o.dst) (K (env.put o.dst undef) w) False)
   |some (.tuple _)=>cond (cO nt o.dst) (K (env.put o.dst undef) w) False
   |_=>False
  |none=>False
def pJ (ops:List Oper) (i:Nat):Bool:=
 ops.any fun o=>match o.guard with
  |some (j,_)=>Nat.beq j i
  |none=>false
def uj (P:Program) (nt:Nat) (ops:List Oper):Nat->List Oper->Env->World->(Env->World->Prop)->Prop
 |_,[],env,w,K=>K env w
 |i,o::r,env,w,K=>bV P nt ops o (pJ ops i) env w fun env' w'=>uj P nt ops (i+1) r env' w' K
end Gp
end
section
namespace Gp
open Go
def Ran (P:Program) (K:Value->World->Prop):Result Next->Prop
 | .ok (.value v) w=>K v w
 | .ok .skip w=>K undef w
 | .ok (.enter f args) w=>Calls P f args w fun e w'=>∃v,e= .returned v/\K v w'
 | .ok (.round l f tmps assign body) w=>RoundIn Fence.wide 0 P l f tmps assign body w fun e w'=>∃v,e= .returned v/\K v w'
 |_=>False
theorem Ran.mono {P:Program} {K K':Value->World->Prop} (h:∀v w,K v w->K' v w) {r:Result Next} (hr:Ran P K r):Ran P K' r:=by
 cases r with
 |ok x w=>
  cases x<;>simp only [Ran] at hr ⊢<;>first
   |exact h _ _ hr
   |exact Calls.mono hr fun e w' ⟨v,hv,hk⟩=>⟨v,hv,h _ _ hk⟩
   |exact RoundIn.mono hr fun e w' ⟨v,hv,hk⟩=>⟨v,hv,h _ _ hk⟩
 |halt x w=>exact hr.elim
structure jZ (P:Program):Prop where
 enter:∀(f:FuncId) (fn:Func),P.funcs[f]? =some fn->fn.body.isSome=true->(fn.name=="runtime.NumGoroutine")=false
 mixed:P.follows .mixedOrders=true
section
variable {P:Program} {w:World}
theorem run_underlying {t:TypeId} {d:TypeDesc} (h:P.underlying t=some d):(underlying t).run P w= .ok d w:=by
 simp [underlying,h]
theorem run_typeInfo {t:TypeId} {i:TypeInfo} (h:P.info? t=some i):(typeInfo t).run P w= .ok i w:=by
 simp [typeInfo,h]
theorem aJ {t:TypeId} {n:Nat} (h:aB P t=some n):(Go.sizeOf t).run P w= .ok n w:=by
 unfold aB at h
 split at h
 ·rename_i i hi
  simp only [Option.some.injEq] at h
  simp [Go.sizeOf,run_typeInfo hi,h]
 ·cases h
theorem eY {t:TypeId} {n:Nat} (h:aB P t=some n):∃i,P.info? t=some i/\i.size=n:=by
 unfold aB at h
 split at h
 ·rename_i i hi
  exact⟨i,hi,by simpa using h⟩
 ·cases h
theorem iq {t:TypeId} {n:Nat} (h:jL P t=some n):∃i,P.info? t=some i/\i.bytes=n:=by
 unfold jL at h
 split at h
 ·rename_i i hi
  exact⟨i,hi,by simpa using h⟩
 ·cases h
theorem qM (v:Value):cellsOfV v=v.cells.toList:=by cases v<;>rfl
theorem bU {t:TypeId} {z:List Value} (h:aY P t=some z):∃i v,P.info? t=some i/\i.zero=some v/\v.cells.toList=z:=by
 unfold aY at h
 split at h
 ·rename_i i hi
  split at h
  ·rename_i v hv
   exact⟨i,v,hi,hv,by rw [<- qM];simpa using h⟩
  ·cases h
 ·cases h
theorem gG {t:TypeId} {z:List Value} (h:aY P t=some z):∃v,(zeroValue t).run P w= .ok v w/\v.cells=⟨z⟩:=by
 obtain⟨i,v,hi,hv,hz⟩:=bU h
 exact⟨v,by simp [zeroValue,run_typeInfo hi,hv],by rw [<- hz]⟩
theorem lT {t:TypeId} {d:TypeDesc} (h:P.underlying t=some d):(isAgg t).run P w= .ok (jI d) w:=by
 simp only [isAgg,Sem.run_bind,run_underlying h,Result.andThen_ok]
 cases d<;>rfl
theorem Dh (v:Value):dF v=v.oneCell':=by cases v<;>rfl
theorem qN {v:Value} (h:dF v=true):v.cells= #[v]:=by cases v<;>first|rfl|(simp [dF] at h)
theorem add_zero' (a:Addr):a.add 0=a:=by simp [Addr.add]
theorem add_add (a:Addr) (i j:Nat) (h:i=0->a.spot=none\/j=0\/True):(a.add i).add j=a.add (i+j):=by
 unfold Addr.add
 by_cases hi:i=0
 ·simp [hi]
 ·by_cases hj:j=0
  ·simp [hi,hj]
  ·simp [hi,hj,Nat.add_assoc]
theorem Ce {a:Addr}:∀(ks:List Kind) (i:Nat) (φ:List Value->Prop),J4 ks w a i φ->
  ∃vs,vs.length=ks.length/\(∀j v,vs[j]? =some v->w.cell? (a.add (i+j))=some v)/\φ vs:=by
 intro ks
 induction ks with
 |nil=>exact fun i φ h=>⟨[],rfl,by simp,h⟩
 |cons k ks ih=>
  rintro i φ ⟨x,hx,h⟩
  obtain⟨vs,hl,hc,hφ⟩:=ih (i+1) _ h
  refine⟨k.enc x::vs,by simp [hl],fun j v hj=> ?_,hφ⟩
  cases j with
  |zero=>simp at hj;subst hj;simpa using hx
  |succ j=>rw [show i+(j+1)=i+1+j by omega];exact hc j v (by simpa using hj)
theorem qO {t:TypeId} {sh:Shape} {n:Nat} {a:Addr} {φ:Value->Prop} (hs:shapeOf P t=some sh) (hn:aB P t=some n) (hc:sh.cells=n)
  (h:sh.ld w a φ):∃v,(loadVar t a).run P w= .ok v w/\φ v:=by
 unfold shapeOf at hs
 cases hd:P.underlying t with
 |none=>simp [hd] at hs
 |some d=>
  simp only [hd] at hs
  cases hg:jI d with
  |false=>
   simp only [hg,cond_false] at hs
   cases hk:kindOf d with
   |none=>simp [hk] at hs
   |some k=>
    simp only [hk,Option.some.injEq] at hs
    subst hs
    obtain⟨x,hx,h⟩:=h
    exact⟨k.enc x,by simp [loadVar,lT hd,hg,hx],h⟩
  |true=>
   simp only [hg,cond_true] at hs
   cases hk:lZ P 20 t with
   |none=>simp [hk] at hs
   |some ks=>
    simp only [hk,Option.some.injEq] at hs
    subst hs
    obtain⟨vs,hl,hcs,hφ⟩:=Ce ks 0 _ h
    refine⟨.agg ⟨vs⟩,?_,hφ⟩
    have hlen:vs.length=n:=by rw [hl];exact hc
    have:=run_loadCells_list (P:=P) (w:=w) a vs (fun j v hj=>by simpa using hcs j v hj)
    simp only [loadVar,Sem.run_bind,lT hd,hg,Result.andThen_ok,if_true,aJ hn]
    rw [<- hlen,this]
    rfl
theorem z_ {a:Addr} {v:Value} {K:World->Prop} (h:St w a v K):(store a v).run P w= .ok () (w.setCell a v)/\K (w.setCell a v):=by
 obtain⟨h1,h2,h3,h4⟩:=h
 refine⟨?_,h4⟩
 rw [run_store P w a v .plain (by rw [<- Dh];exact h1)]
 cases hc:w.cell? a with
 |none=>simp [hc] at h2
 |some u=>simp [h3]
theorem Ic {a:Addr} {K:World->Prop}:∀(vs:List Value) (w:World) (i:Nat),zB vs w a i K->∃w',(storeCells a vs i).run P w= .ok () w'/\K w':=by
 intro vs
 induction vs with
 |nil=>exact fun w i h=>⟨w,rfl,h⟩
 |cons v vs ih=>
  intro w i h
  obtain⟨h1,h2⟩:=z_ (P:=P) h
  obtain⟨w',h3,h4⟩:=ih _ _ h2
  exact⟨w',by simp [storeCells,h1,h3],h4⟩
end
end Gp
end
section
namespace Gp
open Go
theorem wP {α β:Type} (f:α->β) (xs:Array α):xs.map f=⟨xs.toList.map f⟩:=Array.toList_inj.mp (by simp)
theorem iE (z:List Value) (n:Nat):(aC z n).length=n * z.length:=by
 induction n with
 |zero=>simp [aC]
 |succ n ih=>simp [aC,ih,Nat.add_mul];omega
theorem o7 {z:List Value} {v:Value}:∀{n:Nat},v∈aC z n->∃k:Nat,k<n/\v∈z
 |0,h=>by simp [aC] at h
 |n+1,h=>by
  rcases List.mem_append.1 (show v∈z++aC z n from h) with h|h
  ·exact⟨0,by omega,h⟩
  ·obtain⟨k,hk,hv⟩:=o7 h
   exact⟨k,by omega,hv⟩
theorem DF {n:Int} (h1: -9223372036854775808<=n) (h2:n<=9223372036854775807):IntKind.i64.wrap n=n:=by
 rw [IntKind.wrap_i64];omega
theorem yX (z:Array Value):∀n,(List.range (n * z.size)).map (fun i=>z[i % z.size]!)=aC z.toList n:=by
 intro n
 induction n with
 |zero=>simp [aC]
 |succ n ih=>
  have e:(n+1) * z.size=z.size+n * z.size:=by rw [Nat.add_mul];omega
  rw [e,List.range_add,List.map_append,aC,List.map_map]
  congr 1
  ·apply List.ext_getElem
   ·simp
   ·intro i h1 h2
    simp at h1
    simp [Nat.mod_eq_of_lt h1,h1]
  ·rw [<- ih]
   apply List.map_congr_left
   intro i _
   simp
theorem bZ (z:Array Value) (n:Nat):Builtin.zeroCells z n=⟨aC z.toList n⟩:=by
 apply Array.toList_inj.mp
 simp only [Builtin.zeroCells,Array.toList_map,Array.toList_range]
 exact yX z n
theorem wJ (z:Array Value) (n:Nat):madeCells z (n * z.size)=⟨aC z.toList n⟩:=bZ z n
section
variable {P:Program}
theorem tN {w:World} {a b:Addr} {v:Value} (h:(w.cell? b).isSome=true):((w.setCell a v).cell? b).isSome=true:=by
 by_cases e:a=b
 ·subst e
  cases hc:w.cell? a with
  |none=>simp [hc] at h
  |some u=>rw [World.cell?_setCell_same w a v hc];rfl
 ·rw [World.cell?_setCell_other w a b v e];exact h
theorem gB (a:Addr):∀(vs:List Value) (i:Nat) (w:World),(∀v∈vs,dF v=true)->
  (∀j,j<vs.length->(w.cell? (a.add (i+j))).isSome=true/\w.frozen? (a.add (i+j))=false)->(storeCells a vs i).run P w= .ok () (setCells w a vs i):=by
 intro vs
 induction vs with
 |nil=>exact fun i w _ _=>rfl
 |cons v vs ih=>
  intro i w h1 h2
  have h0:=h2 0 (by simp)
  obtain⟨hr,_⟩:=z_ (P:=P) (w:=w) (a:=a.add i) (v:=v) (K:=fun _=>True) ⟨h1 v (by simp),by simpa using h0.1,by simpa using h0.2,trivial⟩
  have:=ih (i+1) (w.setCell (a.add i) v) (fun u hu=>h1 u (by simp [hu])) (fun j hj=>by
   have:=h2 (j+1) (by simp;omega)
   rw [show i+(j+1)=i+1+j by omega] at this
   exact⟨tN this.1,by rw [World.frozen?_setCell];exact this.2⟩)
  simp [storeCells,hr,this,setCells]
theorem eU {w:World} {a:Option Addr} {size n l c:Nat} {vs:List Value} (h:fF w a (n * size) vs):
  (Builtin.firstCells size n (.slice a l c)).run P w= .ok ⟨vs⟩ w:=by
 cases a with
 |none=>simp only [fF] at h;subst h;simp [run_firstCells_none]
 |some a=>
  obtain⟨hl,hc⟩:=h
  refine run_firstCells_some (P:=P) w size n a l c vs hl fun j v hj=> ?_
  have hlt:=(List.getElem?_eq_some_iff.1 hj).1
  rw [hc j hlt,hj]
theorem jg {w:World} {a:Option Addr} {n:Nat} {vs:List Value} (h:fF w a n vs):fF w.drew a n vs:=by
 cases a<;>exact h
theorem vS {t t' ty e:TypeId} {i:TypeInfo} {z:Value} (ht:P.underlying t=some (.slice e)) (hi:P.info? e=some i) (hz:i.zero=some z)
  {d:TypeDesc} (ht':P.underlying t'=some d) (hd:(∃e',d= .slice e')\/d= .string) {x:Value} {n:Nat} {vs:List Value} {w:World} {s:ah} {K:ah->World->Prop}
  (hlen:∀w,(Builtin.lenOf x).run P w= .ok n w) (hx:(Builtin.firstCells i.size n x).run P w= .ok ⟨vs⟩ w) (hx':(Builtin.firstCells i.size n x).run P w.drew= .ok ⟨vs⟩ w.drew)
  (h:yT e i.size i.bytes z.cells.toList s n vs w K):
  ∃s' w',(Builtin.append_ #[t,t'] ty #[s.v,x]).run P w= .ok s'.v w'/\K s' w':=by
 rcases h with ⟨hfit,hwr,hone,hK⟩|⟨hg,h46,h62,old,hold,hK⟩
 ·refine⟨_,_,?_,hK⟩
  cases hs:s.a with
  |none=>rcases hd with ⟨e',rfl⟩|rfl<;>(simp [Builtin.append_,ah.v,run_underlying ht,run_underlying ht',Go.sizeOf,run_typeInfo hi,hlen,hfit,hs,hx])
  |some a=>
   have hst:=gB (P:=P) (a.add (s.len * i.size)) vs 0 w hone (by intro j hj;simpa using hwr a hs j hj)
   rcases hd with ⟨e',rfl⟩|rfl<;>(simp [Builtin.append_,ah.v,run_underlying ht,run_underlying ht',Go.sizeOf,run_typeInfo hi,hlen,hfit,hs,hx,hst])
 ·have h1:¬(s.len+n<=s.cap):=by omega
  have h2:¬(9223372036854775807<((s.len:Int)+(n:Int))):=by omega
  have h3:=growslice_fits (bytes:=i.bytes) hg (by omega)
  have h3':¬(281474976710656<Builtin.nextslicecap (s.len+n) s.cap * i.bytes):=by omega
  have hco:=eU (P:=P) (l:=s.len) (c:=s.cap) (jg hold)
  refine⟨_,_,?_,hK (grownCap w (s.len+n) s.cap e) (grownCap_ge _ _ _ _) ?_⟩
  ·rcases hd with ⟨e',rfl⟩|rfl<;>(simp [Builtin.append_,ah.v,run_underlying ht,run_underlying ht',Go.sizeOf,run_typeInfo hi,zeroValue,hz,hlen,h1,h2,h3',Question.forced,hx',hco,newRow,grownCap,bZ])
  ·simp only [grownCap,Question.cut]
   have:=Nat.mod_lt (w.tape w.drawn (.appendCap (s.len+n) s.cap e)) (show 0<2^63 - (s.len+n) by omega)
   omega
theorem zn {t t' ty e:TypeId} {i:TypeInfo} {z:Value} {ki kv:IntKind} (ht:P.underlying t=some (.slice e)) (hi:P.info? e=some i) (hz:i.zero=some z) (hsz:z.cells.toList.length=i.size)
  (ht':P.underlying t'=some (.int ki)) {n:Int} {w:World} {s:ah} {K:ah->World->Prop}
  (h:Iy e i.size i.bytes z.cells.toList s n w K):
  ∃s' w',(Builtin.append_ #[t,t'] ty #[s.v,.int kv n]).run P w= .ok s'.v w'/\K s' w':=by
 obtain⟨h0,hb,hn,h⟩:=h
 obtain⟨m,rfl⟩:∃m:Nat,n=(m:Int):=⟨n.toNat,by omega⟩
 rw [Int.toNat_natCast] at h
 have hw:IntKind.i64.wrap (m:Int)=(m:Int):=DF (by omega) (by omega)
 have hneg:¬((m:Int)<0):=by omega
 have hb':¬(281474976710656<(m:Int) * (i.bytes:Int)):=by omega
 by_cases hz0:m * i.size=0
 ·have he:aC z.cells.toList m=[]:=by
   have:=iE z.cells.toList m
   rw [hsz,hz0] at this
   exact List.length_eq_zero_iff.1 this
  rw [he] at h
  rcases h with ⟨hfit,hwr,hone,hK⟩|⟨hg,h46,h62,old,hold,hK⟩
  ·refine⟨_,_,?_,hK⟩
   cases hs:s.a with
   |none=>simp [Builtin.append_,ah.v,run_underlying ht,run_underlying ht',Go.sizeOf,run_typeInfo hi,asInt,asIntOf,hw,hneg,hb',hfit,hs,hz0]
   |some a=>simp [Builtin.append_,ah.v,run_underlying ht,run_underlying ht',Go.sizeOf,run_typeInfo hi,asInt,asIntOf,hw,hneg,hb',hfit,hs,hz0,setCells,storeCells]
  ·have h1:¬(s.len+m<=s.cap):=by omega
   have h2:¬(9223372036854775807<((s.len:Int)+(m:Int))):=by omega
   have h3:=growslice_fits (bytes:=i.bytes) hg (by omega)
   have h3':¬(281474976710656<Builtin.nextslicecap (s.len+m) s.cap * i.bytes):=by omega
   have hco:=eU (P:=P) (l:=s.len) (c:=s.cap) (jg hold)
   refine⟨_,_,?_,hK (grownCap w (s.len+m) s.cap e) (grownCap_ge _ _ _ _) ?_⟩
   ·simp [Builtin.append_,ah.v,run_underlying ht,run_underlying ht',Go.sizeOf,run_typeInfo hi,asInt,asIntOf,hw,hneg,hb',zeroValue,hz,h1,h2,h3',Question.forced,hz0,hco,newRow,grownCap,bZ]
   ·simp only [grownCap,Question.cut]
    have:=Nat.mod_lt (w.tape w.drawn (.appendCap (s.len+m) s.cap e)) (show 0<2^63 - (s.len+m) by omega)
    omega
 rcases h with ⟨hfit,hwr,hone,hK⟩|⟨hg,h46,h62,old,hold,hK⟩
 ·refine⟨_,_,?_,hK⟩
  cases hs:s.a with
  |none=>simp [Builtin.append_,ah.v,run_underlying ht,run_underlying ht',Go.sizeOf,run_typeInfo hi,asInt,asIntOf,hw,hneg,hb',hfit,hs,hz0,zeroValue,hz,bZ]
  |some a=>
   have hst:=gB (P:=P) (a.add (s.len * i.size)) (aC z.cells.toList m) 0 w hone (by intro j hj;simpa using hwr a hs j hj)
   simp [Builtin.append_,ah.v,run_underlying ht,run_underlying ht',Go.sizeOf,run_typeInfo hi,asInt,asIntOf,hw,hneg,hb',hfit,hs,hz0,zeroValue,hz,bZ,hst]
 ·have h1:¬(s.len+m<=s.cap):=by omega
  have h2:¬(9223372036854775807<((s.len:Int)+(m:Int))):=by omega
  have h3:=growslice_fits (bytes:=i.bytes) hg (by omega)
  have h3':¬(281474976710656<Builtin.nextslicecap (s.len+m) s.cap * i.bytes):=by omega
  have hco:=eU (P:=P) (l:=s.len) (c:=s.cap) (jg hold)
  refine⟨_,_,?_,hK (grownCap w (s.len+m) s.cap e) (grownCap_ge _ _ _ _) ?_⟩
  ·simp [Builtin.append_,ah.v,run_underlying ht,run_underlying ht',Go.sizeOf,run_typeInfo hi,asInt,asIntOf,hw,hneg,hb',zeroValue,hz,h1,h2,h3',Question.forced,hz0,hco,newRow,grownCap,bZ]
  ·simp only [grownCap,Question.cut]
   have:=Nat.mod_lt (w.tape w.drawn (.appendCap (s.len+m) s.cap e)) (show 0<2^63 - (s.len+m) by omega)
   omega
theorem yZ {t ty e:TypeId} {i:TypeInfo} {z:Value} (ht:P.underlying t=some (.slice e)) (hi:P.info? e=some i) (hz:i.zero=some z) (hsz:z.cells.toList.length=i.size)
  {w:World} {s:ah} {K:World->Prop} (h:Bj z.cells.toList s w K):∃w',(Builtin.clear_ #[t] ty #[s.v]).run P w= .ok (.tuple #[]) w'/\K w':=by
 obtain⟨hwr,hone,hK⟩:=h
 refine⟨_,?_,hK⟩
 obtain⟨a,n,c⟩:=s
 cases a with
 |none=>simp [Builtin.clear_,ah.v,run_underlying ht]
 |some a=>
  cases n with
  |zero=>simp [Builtin.clear_,ah.v,run_underlying ht,aC,setCells]
  |succ n=>
   have hst:=gB (P:=P) a (aC z.cells.toList (n+1)) 0 w (fun v hv=>by
    obtain⟨k,_,hv⟩:=o7 hv
    exact hone v hv) (by intro j hj;rw [iE] at hj;simpa using hwr a rfl j hj)
   simp [Builtin.clear_,ah.v,run_underlying ht,zeroValue,run_typeInfo hi,hz,bZ,hst]
theorem zD {t t' ty e:TypeId} {i:TypeInfo} (ht:P.underlying t=some (.slice e)) (hi:P.info? e=some i) {w:World} {d s:ah} {K:Int->World->Prop}
  (h:EL i.size d s w K):∃n w',(Builtin.copy_ #[t,t'] ty #[d.v,s.v]).run P w= .ok (.int .i64 n) w'/\K n w':=by
 obtain⟨vs,hvs,hwr,hone,hK⟩:=h
 refine⟨_,_,?_,hK⟩
 have hf:=eU (P:=P) (l:=s.len) (c:=s.cap) hvs
 cases hd:d.a with
 |none=>simp [Builtin.copy_,ah.v,run_underlying ht,Go.sizeOf,run_typeInfo hi,Builtin.lenOf,hd,hf,goInt]
 |some a=>
  have hst:=gB (P:=P) a vs 0 w hone (by intro j hj;simpa using hwr a hd j hj)
  simp [Builtin.copy_,ah.v,run_underlying ht,Go.sizeOf,run_typeInfo hi,Builtin.lenOf,hd,hf,hst,goInt]
theorem Aa {t e:TypeId} {i:TypeInfo} {z:Value} (ht:P.underlying t=some (.slice e)) (hi:P.info? e=some i) (hz:i.zero=some z) (hsz:z.cells.toList.length=i.size)
  {n c:Int} {kl kc:IntKind} {w:World} {K:ah->World->Prop} (h:KX e i.size i.bytes z.cells.toList n c w K):
  ∃s w',(Instr.makeSlice t (.int kl n) (.int kc c)).run P w= .ok s.v w'/\K s w':=by
 obtain⟨h0,h1,h2,h3,hK⟩:=h
 refine⟨_,_,?_,hK⟩
 have h2':c<=9223372036854775807:=Int.le_trans h2 (by decide)
 have h3':(i.bytes:Int) * c<=281474976710656:=Int.le_trans h3 (by decide)
 rw [run_make w t e i z ht hi hz kl kc n c h0 h1 h3' h2']
 have e0:i.size=z.cells.size:=hsz.symm.trans Array.length_toList
 have e1:c.toNat * i.size=c.toNat * z.cells.size:=congrArg (c.toNat * ·) e0
 rw [e1,wJ]
 rfl
theorem tH {w:World} {s:ah} {K:ByteArray->Prop} (h:sO w s K):∃b,(Conv.bytesToString s.v).run P w= .ok (.string b) w/\K b:=by
 obtain⟨b,hl,hc,hK⟩:=h
 refine⟨b,?_,hK⟩
 cases hs:s.a with
 |none=>
  rw [hs] at hc
  have:b= .empty:=by
   have h0:b.data.toList=[]:=by simpa [fF,byteCells] using hc
   cases b with|mk d=>simp at h0;subst h0;rfl
  subst this
  simp [Conv.bytesToString,ah.v,hs]
 |some a=>
  rw [hs] at hc
  obtain⟨hn,hcs⟩:=hc
  have hcell:∀j v,(byteCells b)[j]? =some v->w.cell? (a.add j)=some v:=fun j v hj=>by
   have hlt:=(List.getElem?_eq_some_iff.1 hj).1
   rw [hcs j hlt,hj]
  have hl2:=run_loadCells_list (P:=P) (w:=w) a (byteCells b) hcell
  rw [hn] at hl2
  have e1:byteCells b=(b.data.toList.map fun x=>(x.toNat:Int)).map (Value.int .u8):=by simp [byteCells]
  rw [e1] at hl2
  have:=run_bytesToString (P:=P) w a s.len s.cap _ hl2
  simp only [ah.v,hs,this]
  rw [foldl_push_bytes]
  congr 2
  cases b with|mk d=>
  have e2:∀l:List UInt8,l.map ((fun n:Int=>UInt8.ofNat n.toNat) ∘ fun x=>(x.toNat:Int))=l:=by
   intro l
   induction l with
   |nil=>rfl
   |cons x l ih=>simp only [List.map_cons,ih];simp
  simp only [ByteArray.empty,ByteArray.emptyWithCapacity,List.map_map,e2]
  simp
  rfl
end
end Gp
end
section
namespace Gp
open Go
theorem uw (cs:List Value) (off:Nat) (vs:List Value) (h:off+vs.length<=cs.length) (i:Nat):
  (splice cs off vs)[i]? =if i<off then cs[i]? else if i<off+vs.length then vs[i - off]? else cs[i]? :=by
 unfold splice
 have hl:(cs.take off).length=off:=by simp;omega
 by_cases h1:i<off
 ·rw [if_pos h1,List.getElem?_append_left (by omega),List.getElem?_take_of_lt h1]
 ·rw [if_neg h1,List.getElem?_append_right (by omega),hl]
  by_cases h2:i<off+vs.length
  ·rw [if_pos h2,List.getElem?_append_left (by omega)]
  ·rw [if_neg h2,List.getElem?_append_right (by omega),List.getElem?_drop]
   congr 1
   omega
theorem yC (off:Nat):∀(vs:List Value) (k:Nat) (cs:Array Value),off+k+vs.length<=cs.size->
  ((vs.zipIdx k).foldl (fun(cs:Array Value) (p:Value×Nat)=>cs.setIfInBounds (off+p.2) p.1) cs)=⟨splice cs.toList (off+k) vs⟩:=by
 intro vs
 induction vs with
 |nil=>intro k cs _;simp [splice]
 |cons v vs ih=>
  intro k cs h
  simp only [List.length_cons] at h
  rw [List.zipIdx_cons,List.foldl_cons,ih (k+1) _ (by simp;omega)]
  congr 1
  apply List.ext_getElem?
  intro i
  rw [uw _ _ _ (by simp;omega),uw _ _ _ (by simp;omega)]
  simp only [Array.toList_setIfInBounds,List.getElem?_set,List.length_cons]
  by_cases h1:i<off+k
  ·have h2:i<off+(k+1):=by omega
   have h3:¬(off+k=i):=by omega
   simp [h1,h2,h3]
  ·by_cases h2:i=off+k
   ·subst h2
    have h3:off+k<off+(k+1):=by omega
    have h4:off+k<cs.size:=by omega
    simp [h3,h4]
   ·have h3:¬(i<off+(k+1)):=by omega
    have h4:¬(off+k=i):=by omega
    simp only [h1,h3,h4,if_false]
    by_cases h5:i<off+(k+1)+vs.length
    ·have h6:i<off+k+(vs.length+1):=by omega
     obtain⟨m,hm⟩:∃m,i - (off+k)=m+1:=⟨i - (off+k) - 1,by omega⟩
     have h7:i - (off+(k+1))=m:=by omega
     simp [h5,h6,hm,h7]
    ·have h6:¬(i<off+k+(vs.length+1)):=by omega
     simp [h5,h6]
theorem oq {v:Value} (h:dF v=true):cellsOfV v=[v]:=by cases v<;>first|rfl|(simp [dF] at h)
theorem yE:∀(ps:List (Nat×Value)) (cs out:List Value),(∀p∈ps,dF p.2=true)->qJ ps cs=some out->iG (fun i=>some (i * 1,1)) ps cs=some out:=by
 intro ps
 induction ps with
 |nil=>exact fun cs out _ h=>h
 |cons p ps ih=>
  obtain⟨i,v⟩:=p
  intro cs out h1 h
  simp only [qJ] at h
  have hv:dF v=true:=h1 (i,v) (by simp)
  cases hb:Nat.blt i cs.length with
  |false=>rw [hb] at h;cases h
  |true=>
   rw [hb] at h
   have hlt:i<cs.length:=by simpa [Nat.blt_eq] using hb
   have hs:splice cs (i * 1) [v]=cs.set i v:=by
    rw [List.set_eq_take_append_cons_drop,if_pos hlt,Nat.mul_one];rfl
   have hc:(Nat.beq (cellsOfV v).length 1 && Nat.ble (i * 1+1) cs.length)=true:=by
    rw [oq hv,Bool.and_eq_true]
    exact⟨rfl,by rw [Nat.ble_eq];omega⟩
   simp only [iG,hc,cond_true]
   rw [oq hv,hs]
   exact ih _ _ (fun p hp=>h1 p (by simp [hp])) h
theorem zH:∀(vs:List Value),qg vs->∀v∈vs,dF v=true:=by
 intro vs
 induction vs with
 |nil=>exact fun _ v hv=>by simp at hv
 |cons v vs ih=>
  rintro⟨h1,h2⟩ u hu
  rcases List.mem_cons.1 hu with rfl|hu
  ·exact h1
  ·exact ih h2 u hu
theorem qW {sh:Option Shape} {size:Nat} {ps:List (Nat×Operand)} {ρ:Operand->Value} {cs:List Value} {Φ:List Value->Prop}
  (h:cond (u_ sh) (cond (Nat.beq size 1) (qg (ps.map fun p=>ρ p.2)/\(match qJ (ps.map fun p=>(p.1,ρ p.2)) cs with
     |some cs=>Φ cs
     |none=>False)) False)
     (match iG (fun i=>some (i * size,size)) (ps.map fun p=>(p.1,ρ p.2)) cs with
     |some cs=>Φ cs
     |none=>False)):∃out,iG (fun i=>some (i * size,size)) (ps.map fun p=>(p.1,ρ p.2)) cs=some out/\Φ out:=by
 cases ha:u_ sh with
 |false=>
  rw [ha] at h
  simp only [cond_false] at h
  split at h
  ·rename_i out hf;exact⟨out,hf,h⟩
  ·exact h.elim
 |true=>
  rw [ha] at h
  simp only [cond_true] at h
  cases hb:Nat.beq size 1 with
  |false=>rw [hb] at h;exact h.elim
  |true=>
   rw [hb] at h
   have hs:size=1:=Nat.eq_of_beq_eq_true hb
   subst hs
   simp only [cond_true] at h
   obtain⟨h1,h⟩:=h
   split at h
   ·rename_i out hf
    refine⟨out,yE _ _ _ (fun p hp=> ?_) hf,h⟩
    obtain⟨q,hq,rfl⟩:=List.mem_map.1 hp
    exact zH _ h1 _ (List.mem_map.2 ⟨q,hq,rfl⟩)
   ·exact h.elim
theorem nP (place place':Nat->Option (Nat×Nat)) (hp:∀i x,place i=some x->place' i=some x):∀(ps:List (Nat×Value)) (cs out:List Value),iG place ps cs=some out->
  Instr.fill place' ⟨cs⟩ ps=some ⟨out⟩:=by
 intro ps
 induction ps with
 |nil=>intro cs out h;simp [iG] at h;subst h;rfl
 |cons p ps ih=>
  obtain⟨i,v⟩:=p
  intro cs out h
  simp only [iG] at h
  cases hpl:place i with
  |none=>simp [hpl] at h
  |some x=>
   obtain⟨off,size⟩:=x
   simp only [hpl] at h
   cases hb:(Nat.beq (cellsOfV v).length size && Nat.ble (off+size) cs.length) with
   |false=>simp [hb] at h
   |true=>
    simp only [hb,cond_true] at h
    simp only [Bool.and_eq_true,Nat.beq_eq,Nat.ble_eq] at hb
    obtain⟨h1,h2⟩:=hb
    rw [qM] at h1 h
    have h3:v.cells.size=size:=by rw [<- h1];simp
    have:=ih _ _ h
    have hf:=yC off v.cells.toList 0 ⟨cs⟩ (by simp;omega)
    simp only [Nat.add_zero] at hf
    have hz:v.cells.zipIdx.foldl (fun(cs:Array Value) (x:Value×Nat)=>cs.setIfInBounds (off+x.2) x.1) ⟨cs⟩=⟨splice cs off v.cells.toList⟩:=by
     rw [<- Array.foldl_toList,Array.toList_zipIdx]
     exact hf
    simp only [Instr.fill,hp _ _ hpl]
    have c1:(v.cells.size≠size||off+v.cells.size>(⟨cs⟩:Array Value).size)=false:=by
     simp [h3];omega
    simp only [c1,Bool.false_eq_true,if_false]
    exact(congrArg (fun a=>Instr.fill place' a ps) hz).trans this
section
variable {P:Program}
theorem wu {w:World}:∀(fs:List Field) (pl:List (Nat×Nat)),placesOf P fs=some pl->
  (fs.mapM fun(f:Field)=>(do pure (f.offset,<- Go.sizeOf f.type):Sem (Nat×Nat))).run P w= .ok pl w:=by
 intro fs
 induction fs with
 |nil=>intro pl h;simp [placesOf] at h;subst h;simp
 |cons f fs ih=>
  intro pl h
  simp only [placesOf] at h
  cases hs:aB P f.type with
  |none=>simp [hs] at h
  |some s=>
   cases hr:placesOf P fs with
   |none=>simp [hs,hr] at h
   |some l=>
    simp only [hs,hr,Option.some.injEq] at h
    subst h
    have hi:=ih l hr
    rw [List.mapM_cons]
    simp only [Sem.run_bind,aJ hs,Result.andThen_ok,Sem.run_pure,hi]
theorem uf {w:World} {fs:Array Field} {f off size:Nat} (h:iy P fs f=some (off,size)) (hs:Nat.beq size 0=false) (a:Addr):
  ∃fd,fs[f]? =some fd/\(fieldPlace a fd).run P w= .ok (a.add off) w:=by
 unfold iy at h
 cases hf:fs.toList[f]? with
 |none=>simp [hf] at h
 |some fd=>
  simp only [hf] at h
  cases hz:aB P fd.type with
  |none=>simp [hz] at h
  |some s=>
   simp only [hz,Option.some.injEq,Prod.mk.injEq] at h
   obtain⟨rfl,rfl⟩:=h
   refine⟨fd,by simpa using hf,?_⟩
   have:s≠0:=by intro e;subst e;simp at hs
   simp [fieldPlace,aJ hz,this]
theorem rY {w:World} {t:TypeId} {d:TypeDesc} {size off:Nat} {cs:Array Value} {φ:Value->Prop} (hd:P.underlying t=some d) (hs:aB P t=some size)
  (h:partOf d size off cs.toList φ):∃v,(part t cs off).run P w= .ok v w/\φ v:=by
 unfold partOf at h
 cases hg:jI d with
 |true=>
  simp only [hg,cond_true] at h
  refine⟨_,?_,h⟩
  simp only [part,Sem.run_bind,lT hd,Result.andThen_ok,hg,if_true,aJ hs,Sem.run_pure,Result.ok.injEq,and_true,Value.agg.injEq]
  apply Array.toList_inj.mp
  simp [Array.toList_extract,List.extract_eq_take_drop]
 |false=>
  simp only [hg,cond_false] at h
  cases hc:cs.toList[off]? with
  |none=>simp [hc] at h
  |some v=>
   simp only [hc] at h
   refine⟨v,?_,h⟩
   have hc':cs[off]? =some v:=by simpa using hc
   simp [part,lT hd,hg,hc']
theorem jo {k k':IntKind} (h:jQ k k'=true):k=k':=by cases k<;>cases k'<;>first|rfl|(simp [jQ] at h)
theorem Ad {op:BinOp} {k:IntKind} {a b:Int} {φ:Value->Prop} {t:TypeId} {w:World} (hop:op≠.shl/\op≠.shr) (h:jU op k a b φ):
  ∃v,(binOp op t (.int k a) (.int k b)).run P w= .ok v w/\φ v:=by
 cases op<;>simp only [jU] at h<;>first
  |exact absurd rfl hop.1
  |exact absurd rfl hop.2
  |exact h.elim
  |(refine⟨_,?_,h⟩;simp [binOp,Op.intArith];done)
  |(refine⟨_,?_,h⟩;simp [binOp,Op.intCmp];done)
  |(refine⟨_,?_,h⟩;simp only [binOp,ne_eq,not_true_eq_false,if_false];rfl)
  |(refine⟨_,?_,h.2⟩;simp [binOp,Op.intDiv,h.1];done)
theorem zU {op:BinOp} {a b:ByteArray} {φ:Value->Prop} {t:TypeId} {w:World} (h:jW op a b φ):
  ∃v,(binOp op t (.string a) (.string b)).run P w= .ok v w/\φ v:=by
 cases op<;>simp only [jW] at h<;>first
  |exact h.elim
  |(refine⟨_,?_,h⟩;simp [binOp,Op.stringOp,strEq,strLt];done)
  |(refine⟨_,?_,h.2⟩
    have:¬(IntKind.i64.max<((a.size+b.size:Nat):Int)):=by omega
    simp [binOp,Op.stringOp] at this ⊢
    simp [this])
end
end Gp
end
section
namespace Gp
open Go
section
variable {P:Program}
theorem vU {d:TypeDesc} {x y:Value} {φ:Bool->Prop} {t:TypeId} {w:World} (ht:P.underlying t=some d) (h:jP d x y φ):
  ∃b,(Op.equal t x y).run P w= .ok b w/\φ b:=by
 have key:∀n,∃b,(Op.equalIn (n+1) t x y).run P w= .ok b w/\φ b:=by
  intro n
  unfold jP at h
  split at h
  ·exact⟨_,by simp [Op.equalIn,run_underlying ht],h⟩
  ·rename_i q
   refine⟨_,?_,h⟩
   cases q<;>simp [Op.equalIn,run_underlying ht]
  ·rename_i q _ _ _ _
   refine⟨_,?_,h⟩
   cases q<;>simp [Op.equalIn,run_underlying ht]
  ·rename_i q
   refine⟨_,?_,h⟩
   cases q<;>simp [Op.equalIn,run_underlying ht]
  ·exact h.elim
 exact key 9999
theorem qP {d:TypeDesc} {x y:Value} {φ:Bool->Prop} (h:jP d x y φ) (op:BinOp) (t:TypeId) (a b:Operand) (w:World):(eqGuard op t a b x y).run P w= .ok () w:=by
 unfold jP at h
 split at h<;>first|exact h.elim|(cases op<;>simp [eqGuard])
theorem Cm {op:BinOp} {t:TypeId} {x y:Value} {φ:Value->Prop} (a:Operand) {w:World} (h:qE P op t x y φ):
  ∃v,(do eqGuard op t a (.const .nilIface) x y;binOp op t x y:Sem Value).run P w= .ok v w/\φ v:=by
 unfold qE at h
 split at h
 ·rename_i s ms ho ht
  have key:∀n,(Op.equalIn (n+1) t .nilIface .nilIface).run P w= .ok true w:=fun n=>by simp [Op.equalIn,run_underlying ht]
  have e:(Op.equal t .nilIface .nilIface).run P w= .ok true w:=key 9999
  cases op<;>simp only [iD,reduceCtorEq,Option.some.injEq] at ho
  all_goals subst ho
  ·exact⟨.bool true,by simp [eqGuard,show binOp .eql t .nilIface .nilIface=(do pure (.bool (<- Op.equal t .nilIface .nilIface))) from rfl,e],h⟩
  ·exact⟨.bool false,by simp [eqGuard,show binOp .neq t .nilIface .nilIface=(do pure (.bool (!(<- Op.equal t .nilIface .nilIface)))) from rfl,e],h⟩
 ·rename_i s ms t' v' ho ht
  have key:∀n,(Op.equalIn (n+1) t (.iface t' v') .nilIface).run P w= .ok false w:=fun n=>by simp [Op.equalIn,run_underlying ht]
  have e:(Op.equal t (.iface t' v') .nilIface).run P w= .ok false w:=key 9999
  cases op<;>simp only [iD,reduceCtorEq,Option.some.injEq] at ho
  all_goals subst ho
  ·exact⟨.bool false,by simp [eqGuard,show binOp .eql t (.iface t' v') .nilIface=(do pure (.bool (<- Op.equal t (.iface t' v') .nilIface))) from rfl,e],h⟩
  ·exact⟨.bool true,by simp [eqGuard,show binOp .neq t (.iface t' v') .nilIface=(do pure (.bool (!(<- Op.equal t (.iface t' v') .nilIface)))) from rfl,e],h⟩
 ·exact h.elim
theorem qQ {d:TypeDesc} {x y:Value} {φ:Bool->Prop} (h:jP d x y φ) (t:TypeId):
  binOp .eql t x y=(do pure (.bool (<- Op.equal t x y)))/\binOp .neq t x y=(do pure (.bool (!(<- Op.equal t x y)))):=by
 unfold jP at h
 split at h<;>first|exact h.elim|exact⟨rfl,rfl⟩
theorem iU {w:World} {t:TypeId} {d:TypeDesc} {size off:Nat} {cs:Array Value} {v:Value} (hd:P.underlying t=some d) (hs:aB P t=some size) (h:vk d size off cs.toList=some v):
  (part t cs off).run P w= .ok v w:=by
 obtain⟨v',hr,hv⟩:=rY (w:=w) (cs:=cs) (off:=off) (φ:=fun v'=>v'=v) hd hs (by
  unfold vk at h
  unfold partOf
  cases hg:jI d with
  |true=>rw [hg] at h;simp only [cond_true,Option.some.injEq] at h ⊢;exact h
  |false=>rw [hg] at h;simp only [cond_false] at h ⊢;rw [h])
 rw [hr,hv]
theorem mD {b:Bool} {o:Option Bool} {r:Bool} (h:GL b o=some r):∃r',o=some r'/\r=(b && r'):=by
 cases o with
 |none=>cases h
 |some r'=>exact⟨r',rfl,by simpa [GL] using h.symm⟩
theorem wZ:∀(n:Nat) (t:TypeId) (x y:Value) (b:Bool) (m:Nat) (w:World),xW P n t x y=some b->n<=m->(Op.equalIn m t x y).run P w= .ok b w:=by
 intro n
 induction n with
 |zero=>intro t x y b m w h;cases h
 |succ n ih=>
  intro t x y b m w h hm
  obtain⟨m,rfl⟩:∃m',m=m'+1:=⟨m - 1,by omega⟩
  unfold xW at h
  split at h
  ·rename_i hu
   rw [run_equalIn_bool' w m t _ _ hu]
   cases h;rfl
  ·rename_i k0 k a k' c hu
   cases hk:jQ k k' with
   |false=>rw [hk] at h;cases h
   |true=>
    rw [hk] at h
    have:=jo hk
    subst this
    rw [run_equalIn_int w m t k k0 _ _ hu]
    cases h;rfl
  ·rename_i hu
   rw [run_equalIn_string w m t _ _ hu]
   cases h;rfl
  ·rename_i fs xs ys hu
   cases hp:P.stoodInHeld t with
   |true=>rw [hp] at h;cases h
   |false=>
    rw [hp] at h
    simp only [cond_false] at h
    have hfs:P.fieldsOf t=fs:=by simp [Program.fieldsOf,hu]
    rw [run_equalIn_struct w m t xs ys (by rw [hfs];exact hu) hp,hfs]
    generalize fs.toList=l at h
    clear hfs hu
    induction l generalizing b with
    |nil=>simp only [DJ,Option.some.injEq] at h;subst h;rfl
    |cons fd l ihl=>
     simp only [DJ] at h
     cases hnm:(fd.name=="_") with
     |true=>rw [hnm] at h;cases h
     |false=>
      rw [hnm] at h
      simp only [cond_false] at h
      split at h
      case h_2=>cases h
      rename_i d size hd hs
      split at h
      case h_2=>cases h
      rename_i u v hu hv
      split at h
      case h_2=>cases h
      rename_i r hr
      obtain⟨r',hr',rfl⟩:=mD h
      have hne:fd.name≠"_":=by simpa using hnm
      simp only [Op.eqFields,hne,ne_eq,not_false_eq_true,if_true,Sem.run_bind,iU hd hs hu,iU hd hs hv,Result.andThen_ok,ih _ _ _ _ m w hr (by omega)]
      cases r with
      |true=>simp only [Bool.not_true,Bool.false_eq_true,if_false,Bool.true_and];exact ihl _ hr'
      |false=>simp
  ·rename_i n' e xs ys hu
   split at h
   case h_2=>cases h
   rename_i de size hd hs
   obtain⟨i,hi,hsz⟩:∃i,P.info? e=some i/\i.size=size:=by
    unfold aB at hs
    split at hs
    ·rename_i i hi;exact⟨i,hi,by simpa using hs⟩
    ·cases hs
   have hc:P.cellsOf e=size:=by simp [Program.cellsOf,hi,hsz]
   rw [run_equalIn_array w m xs ys hu hi,hc,List.range_eq_range']
   generalize 0=j at h ⊢
   clear hu
   induction n' generalizing b j with
   |zero=>simp only [CY,Option.some.injEq] at h;subst h;rfl
   |succ n' ihn=>
    simp only [CY] at h
    split at h
    case h_2=>cases h
    rename_i u v hu hv
    split at h
    case h_2=>cases h
    rename_i r hr
    obtain⟨r',hr',rfl⟩:=mD h
    simp only [List.range'_succ,Op.eqItems,Sem.run_bind,iU hd hs hu,iU hd hs hv,Result.andThen_ok,ih _ _ _ _ m w hr (by omega)]
    cases r with
    |true=>simp only [Bool.not_true,Bool.false_eq_true,if_false,Bool.true_and];exact ihn _ _ hr'
    |false=>simp
  ·cases h
theorem H_ {n:Nat} {t:TypeId} {x y:Value} {b:Bool} (h:xW P n t x y=some b):∃d,P.underlying t=some d:=by
 cases n with
 |zero=>cases h
 |succ n=>
  unfold xW at h
  split at h<;>first|exact⟨_,by assumption⟩|cases h
theorem ni {n:Nat} {t:TypeId} {d:TypeDesc} {x y:Value} {b:Bool} (hd:P.underlying t=some d) (h:xW P n t x y=some b):Instr.sameNow d x y=some b\/Instr.sameNow d x y=none:=by
 cases n with
 |zero=>cases h
 |succ n=>
  unfold xW at h
  split at h
  ·rename_i hu
   rw [hd] at hu;cases hu
   cases h
   exact .inl rfl
  ·rename_i k0 k a k' c hu
   rw [hd] at hu;cases hu
   cases hk:jQ k k' with
   |false=>rw [hk] at h;cases h
   |true=>
    rw [hk] at h
    have:=jo hk
    subst this
    cases h
    exact .inl (by simp [Instr.sameNow])
  ·rename_i hu
   rw [hd] at hu;cases hu
   cases h
   exact .inl (by simp [Instr.sameNow,strEq,beq_toListBytes])
  ·rename_i hu
   rw [hd] at hu;cases hu
   exact .inr rfl
  ·rename_i hu
   rw [hd] at hu;cases hu
   exact .inr rfl
  ·cases h
theorem uP {kt:TypeId} {d:TypeDesc} {key:Value} (hd:P.underlying kt=some d):∀(es:List MapEntry) (i:Nat) (res:Option (Nat×Value)),iC P kt key es i=some res->Instr.findNow d key es i=some res\/Instr.findNow d key es i=none:=by
 intro es
 induction es with
 |nil=>intro i res h;simp only [iC,Option.some.injEq] at h;subst h;exact .inl rfl
 |cons e es ih=>
  intro i res h
  simp only [iC] at h
  split at h
  ·rename_i he
   cases h
   rcases ni hd he with h1|h1
   ·exact .inl (by simp [Instr.findNow,h1])
   ·exact .inr (by simp [Instr.findNow,h1])
  ·rename_i he
   rcases ni hd he with h1|h1
   ·rcases ih _ _ h with h2|h2
    ·exact .inl (by simp [Instr.findNow,h1,h2])
    ·exact .inr (by simp [Instr.findNow,h1,h2])
   ·exact .inr (by simp [Instr.findNow,h1])
  ·cases h
theorem ug {kt:TypeId} {key:Value} {w:World}:∀(es:List MapEntry) (i:Nat) (res:Option (Nat×Value)),iC P kt key es i=some res->(Instr.findAsking kt key es i).run P w= .ok res w:=by
 intro es
 induction es with
 |nil=>intro i res h;simp only [iC,Option.some.injEq] at h;subst h;rfl
 |cons e es ih=>
  intro i res h
  simp only [iC] at h
  split at h
  ·rename_i he
   cases h
   simp [Instr.findAsking,Op.equal,Op.maxDepth,wZ 16 kt _ _ _ 10000 w he (by omega)]
  ·rename_i he
   simp [Instr.findAsking,Op.equal,Op.maxDepth,wZ 16 kt _ _ _ 10000 w he (by omega),ih _ _ h]
  ·cases h
theorem gZ {kt:TypeId} {d:TypeDesc} {key:Value} {es:List MapEntry} {res:Option (Nat×Value)} {w:World} (hd:P.underlying kt=some d) (h:iC P kt key es 0=some res):(Instr.findKey kt key es).run P w= .ok res w:=by
 rcases uP hd es 0 res h with h1|h1
 ·simp [Instr.findKey,run_underlying hd,h1]
 ·simp [Instr.findKey,run_underlying hd,h1,ug es 0 res h]
theorem gy:∀(n:Nat) (t:TypeId) (x y:Value) (b:Bool) (m:Nat) (em:Bool) (w:World),xW P n t x y=some b->n<=m->(Instr.checkKey em m t x).run P w= .ok () w:=by
 intro n
 induction n with
 |zero=>intro t x y b m em w h;cases h
 |succ n ih=>
  intro t x y b m em w h hm
  obtain⟨m,rfl⟩:∃m',m=m'+1:=⟨m - 1,by omega⟩
  unfold xW at h
  split at h
  ·rename_i hu;simp [Instr.checkKey,run_underlying hu]
  ·rename_i hu;simp [Instr.checkKey,run_underlying hu]
  ·rename_i hu;simp [Instr.checkKey,run_underlying hu]
  ·rename_i fs xs ys hu
   cases hp:P.stoodInHeld t with
   |true=>rw [hp] at h;cases h
   |false=>
    rw [hp] at h
    simp only [cond_false] at h
    simp only [Instr.checkKey,Sem.run_bind,run_underlying hu,Result.andThen_ok]
    rw [<- Array.forIn_toList]
    generalize fs.toList=l at h
    clear hu
    induction l generalizing b with
    |nil=>simp
    |cons fd l ihl=>
     simp only [DJ] at h
     cases hnm:(fd.name=="_") with
     |true=>rw [hnm] at h;cases h
     |false=>
      rw [hnm] at h
      simp only [cond_false] at h
      split at h
      case h_2=>cases h
      rename_i d size hd hs
      split at h
      case h_2=>cases h
      rename_i u v hu hv
      split at h
      case h_2=>cases h
      rename_i r hr
      obtain⟨r',hr',rfl⟩:=mD h
      have hne:fd.name≠"_":=by simpa using hnm
      have:=ihl _ hr'
      simp only [List.forIn_cons,hne,ne_eq,not_false_eq_true,if_true,Sem.run_bind,iU hd hs hu,Result.andThen_ok,ih _ _ _ _ m em w hr (by omega),Sem.run_pure]
      exact this
  ·rename_i n' e xs ys hu
   split at h
   case h_2=>cases h
   rename_i de size hd hs
   simp only [Instr.checkKey,Sem.run_bind,run_underlying hu,Result.andThen_ok]
   simp only [Std.Legacy.Range.forIn_eq_forIn_range',Std.Legacy.Range.size,Nat.sub_zero,Nat.add_one_sub_one,Nat.div_one]
   generalize 0=j at h ⊢
   clear hu
   induction n' generalizing b j with
   |zero=>simp
   |succ n' ihn=>
    simp only [CY] at h
    split at h
    case h_2=>cases h
    rename_i u v hu hv
    split at h
    case h_2=>cases h
    rename_i r hr
    obtain⟨r',hr',rfl⟩:=mD h
    have:=ihn _ _ hr'
    simp only [List.range'_succ,List.forIn_cons,Sem.run_bind,aJ hs,Result.andThen_ok,iU hd hs hu,ih _ _ _ _ m em w hr (by omega),Sem.run_pure]
    exact this
  ·cases h
theorem nC {v:Value} (h:Ef v=true) (n:Nat):Instr.sameBits n v v=true:=by
 cases v<;>first|(cases h;done)|simp [Instr.sameBits,MapKept.bytes_beq]
theorem lJ {v:Value} (h:qB v=true) (n:Nat):Instr.sameBits (n+1) v v=true:=by
 unfold qB at h
 split at h
 ·rename_i cs
  simp only [Instr.sameBits,beq_self_eq_true,Bool.true_and,List.all_eq_true]
  simp only [List.all_eq_true] at h
  rintro⟨x,y⟩ hxy
  have:x=y:=by
   obtain⟨i,hi⟩:=List.getElem?_of_mem hxy
   simp [List.getElem?_zip_eq_some] at hi
   have:=hi.1.symm.trans hi.2
   simpa using this
  subst this
  exact nC (h x (List.of_mem_zip hxy).1) n
 ·exact nC h _
theorem iw {kt:TypeId} {key:Value} (h:qU P kt key=true):qB key=true/\∃d b,P.underlying kt=some d/\xW P 16 kt key key=some b:=by
 simp only [qU,Bool.and_eq_true,Option.isSome_iff_exists] at h
 obtain⟨h1,b,hb⟩:=h
 obtain⟨d,hd⟩:=H_ hb
 exact⟨h1,d,b,hd,hb⟩
theorem oW {k:Kind} {v:Value} {φ:k.T->Prop} (h:k.dec v φ):∃x,v=k.enc x/\φ x:=by
 cases k<;>cases v<;>first
  |exact h.elim
  |exact⟨_,rfl,h⟩
  |skip
 case int.int k k' n=>
  simp only [Kind.dec] at h
  cases hb:jQ k k' with
  |false=>rw [hb] at h;exact h.elim
  |true=>
   rw [hb] at h
   have:=jo hb
   subst this
   exact⟨n,rfl,h⟩
theorem gW {t:TypeId} {z:Value} {w:World} (h:eH P t=some z):(zeroValue t).run P w= .ok z w:=by
 unfold eH at h
 split at h
 ·rename_i i hi;simp [zeroValue,run_typeInfo hi,h]
 ·cases h
theorem zY {t kt et:TypeId} {k:Kind} {r:Option Nat} {key zero:Value} {w:World} {K:k.T->Prop} (ht:P.underlying t=some (.map kt et)) (hz:eH P et=some zero) (h:Au P kt k r key zero w K):
  ∃x,(Instr.lookup t (.map r) key false).run P w= .ok (k.enc x) w/\K x:=by
 obtain⟨hk,h⟩:=h
 obtain⟨_,d,b',hd,hb'⟩:=iw hk
 have hck:∀em,(Instr.checkKey em 10000 kt key).run P w= .ok () w:=fun em=>gy 16 kt key key b' 10000 em w hb' (by omega)
 rcases h with ⟨rfl,h⟩|⟨b,es,clock,rfl,hb,res,hres,h⟩
 ·obtain⟨x,hx,h⟩:=oW h
  refine⟨x,?_,h⟩
  have hf:(Instr.findKey kt key []).run P w= .ok none w:=gZ hd rfl
  simp [Instr.lookup,run_underlying ht,hck,hf,gW hz,hx]
 ·obtain⟨x,hx,h⟩:=oW h
  refine⟨x,?_,h⟩
  have hf:=gZ (w:=w) hd hres
  cases res with
  |none=>simp [Instr.lookup,run_underlying ht,MapKept.run_getObj_map hb,hck,hf,gW hz,<- hx]
  |some p=>
   obtain⟨i,v⟩:=p
   simp [Instr.lookup,run_underlying ht,MapKept.run_getObj_map hb,hck,hf,<- hx]
theorem qG {t kt et:TypeId} {r:Option Nat} {key zero:Value} {w:World} {K:Value->Bool->Prop} (ht:P.underlying t=some (.map kt et)) (hz:eH P et=some zero) (h:lX P kt r key zero w K) (ok:Bool):
  ∃v b,(Instr.lookup t (.map r) key ok).run P w= .ok (if ok=true then .tuple #[v,.bool b] else v) w/\K v b:=by
 obtain⟨hk,h⟩:=h
 obtain⟨_,d,b',hd,hb'⟩:=iw hk
 have hck:∀em,(Instr.checkKey em 10000 kt key).run P w= .ok () w:=fun em=>gy 16 kt key key b' 10000 em w hb' (by omega)
 rcases h with ⟨rfl,h⟩|⟨b,es,clock,rfl,hb,res,hres,h⟩
 ·refine⟨_,_,?_,h⟩
  have hf:(Instr.findKey kt key []).run P w= .ok none w:=gZ hd rfl
  simp [Instr.lookup,run_underlying ht,hck,hf,gW hz]
 ·have hf:=gZ (w:=w) hd hres
  cases res with
  |none=>
   refine⟨_,_,?_,h⟩
   simp [Instr.lookup,run_underlying ht,MapKept.run_getObj_map hb,hck,hf,gW hz]
  |some p=>
   obtain⟨i,v⟩:=p
   refine⟨_,_,?_,h⟩
   simp [Instr.lookup,run_underlying ht,MapKept.run_getObj_map hb,hck,hf]
theorem zV {t kt et:TypeId} {r:Option Nat} {key val:Value} {w:World} {K:World->Prop} (ht:P.underlying t=some (.map kt et)) (h:Ah P kt r key val w K):
  ∃w',(Instr.mapUpdate t (.map r) key val).run P w= .ok () w'/\K w':=by
 obtain⟨hk,b,es,clock,rfl,hb,res,hres,h⟩:=h
 obtain⟨hp,d,b',hd,hb'⟩:=iw hk
 have hck:∀em,(Instr.checkKey em 10000 kt key).run P w= .ok () w:=fun em=>gy 16 kt key key b' 10000 em w hb' (by omega)
 have hf:=gZ (w:=w) hd hres
 cases res with
 |none=>exact⟨_,by simp [Instr.mapUpdate,run_underlying ht,MapKept.run_getObj_map hb,hck,hf,MapKept.run_setObj_map _ hb];rfl,h⟩
 |some p=>
  obtain⟨i,v⟩:=p
  obtain⟨⟨e,he,hke⟩,h⟩:=h
  have hst:(Instr.keyThatStays e.key key).run P w= .ok key w:=by
   rw [hke];simp [Instr.keyThatStays,lJ hp]
  exact⟨_,by simp [Instr.mapUpdate,run_underlying ht,MapKept.run_getObj_map hb,hck,hf,he,hst,MapKept.run_setObj_map _ hb];rfl,h⟩
theorem Ar {t kt et:TypeId} {r:Option Nat} {key zero:Value} {w:World} {K:Value->Int->World->Prop} (ht:P.underlying t=some (.map kt et)) (hz:eH P et=some zero) (h:zI P kt r key zero w K):
  ∃v n w',(Instr.mapEntry t (.map r) key).run P w= .ok (.tuple #[v,.int .i64 n]) w'/\K v n w':=by
 obtain⟨hk,b,es,clock,rfl,hb,res,hres,h⟩:=h
 obtain⟨hp,d,b',hd,hb'⟩:=iw hk
 have hck:∀em,(Instr.checkKey em 10000 kt key).run P w= .ok () w:=fun em=>gy 16 kt key key b' 10000 em w hb' (by omega)
 have hf:=gZ (w:=w) hd hres
 cases res with
 |none=>exact⟨_,_,_,by simp [Instr.mapEntry,run_underlying ht,MapKept.run_getObj_map hb,hck,hf,gW hz,MapKept.run_setObj_map _ hb,goInt];rfl,h⟩
 |some p=>
  obtain⟨i,v⟩:=p
  obtain⟨e,he,hke,h⟩:=h
  have hst:(Instr.keyThatStays e.key key).run P w= .ok key w:=by
   rw [hke];simp [Instr.keyThatStays,lJ hp]
  exact⟨_,_,_,by simp [Instr.mapEntry,run_underlying ht,MapKept.run_getObj_map hb,hck,hf,he,hst,MapKept.run_setObj_map _ hb,goInt];rfl,h⟩
theorem CV {t:TypeId} {r:Option Nat} {k:IntKind} {n:Int} {val:Value} {w:World} {K:World->Prop} (h:EW r n val w K):
  ∃w',(Instr.entryStore t (.map r) (.int k n) val).run P w= .ok () w'/\K w':=by
 obtain⟨b,es,clock,i,rfl,hb,hi,h⟩:=h
 exact⟨_,by simp [Instr.entryStore,MapKept.run_getObj_map hb,asInt,asIntOf,hi,MapKept.run_setObj_map _ hb];rfl,h⟩
theorem zX {t kt et t' ty:TypeId} {r:Option Nat} {key:Value} {w:World} {K:World->Prop} (ht:P.underlying t=some (.map kt et)) (h:zO P kt r key w K):
  ∃w',(Builtin.delete_ ⟨[t,t']⟩ ty ⟨[.map r,key]⟩).run P w= .ok (.tuple #[]) w'/\K w':=by
 obtain⟨hk,h⟩:=h
 obtain⟨_,d,b',hd,hb'⟩:=iw hk
 have hck:∀em,(Instr.checkKey em 10000 kt key).run P w= .ok () w:=fun em=>gy 16 kt key key b' 10000 em w hb' (by omega)
 rcases h with ⟨rfl,h⟩|⟨b,es,clock,rfl,hb,res,hres,h⟩
 ·exact⟨_,by simp [Builtin.delete_,run_underlying ht,hck],h⟩
 ·have hf:=gZ (w:=w) hd hres
  cases res with
  |none=>exact⟨_,by simp [Builtin.delete_,run_underlying ht,MapKept.run_getObj_map hb,hck,hf,MapKept.run_setObj_map _ hb];rfl,h⟩
  |some p=>
   obtain⟨i,v⟩:=p
   exact⟨_,by simp [Builtin.delete_,run_underlying ht,MapKept.run_getObj_map hb,hck,hf,MapKept.run_setObj_map _ hb];rfl,h⟩
theorem wz {op:BinOp} {t:TypeId} {x y:Value} {φ:Value->Prop} (a b:Operand) {w:World} (h:fD P op t x y φ):
  ∃v,((do eqGuard op t a b x y;binOp op t x y):Sem Value).run P w= .ok v w/\φ v:=by
 unfold fD at h
 split at h
 ·rename_i k n
  have hg:(eqGuard op t a b (.int k n) y).run P w= .ok () w:=by cases op<;>cases y<;>simp [eqGuard]
  simp only [Sem.run_bind,hg,Result.andThen_ok]
  cases y with
  |int k' m=>
   by_cases h1:op= .shl
   ·subst h1
    simp only [jS] at h
    refine⟨_,?_,h.2⟩
    have:¬m<0:=Int.not_lt.2 h.1
    simp [binOp,Op.shift,this,IZ]
   ·by_cases h2:op= .shr
    ·subst h2
     simp only [jS] at h
     refine⟨_,?_,h.2⟩
     have:¬m<0:=Int.not_lt.2 h.1
     simp [binOp,Op.shift,this,I_]
    ·have h':cond (jQ k k') (jU op k n m φ) False:=by cases op<;>first|exact h|exact absurd rfl h1|exact absurd rfl h2
     cases hk:jQ k k' with
     |false=>rw [hk] at h';exact h'.elim
     |true=>
      rw [hk] at h'
      have:=jo hk
      subst this
      exact Ad ⟨h1,h2⟩ h'
  |_=>cases op<;>exact h.elim
 ·rename_i s
  have hg:(eqGuard op t a b (.string s) y).run P w= .ok () w:=by cases op<;>cases y<;>simp [eqGuard]
  simp only [Sem.run_bind,hg,Result.andThen_ok]
  cases y with
  |string s'=>
   have h:jW op s s' φ:=by cases op<;>exact h
   exact zU h
  |_=>cases op<;>exact h.elim
 ·rename_i xs
  split at h
  case h_2=>exact h.elim
  rename_i s ys ho
  cases hg:P.eqGuardType P.depth t with
  |true=>rw [hg] at h;exact h.elim
  |false=>
   rw [hg] at h
   simp only [cond_false] at h
   split at h
   case h_2=>exact h.elim
   rename_i r hr
   have he:=wZ 16 t _ _ r 10000 w hr (by omega)
   refine⟨_,?_,h⟩
   simp only [Sem.run_bind,run_eqGuard_agg w op t a b xs ys hg,Result.andThen_ok]
   cases op<;>simp only [iD,Option.some.injEq] at ho<;>first|(cases ho;done)|skip
   ·subst ho
    rw [run_eql_struct,he];rfl
   ·subst ho
    rw [run_neq_struct,he];rfl
 ·split at h
  ·rename_i ho hd
   have:op= .eql:=by cases op<;>first|rfl|(simp [iD] at ho)
   subst this
   obtain⟨v,hr,hφ⟩:=vU (w:=w) hd h
   exact⟨_,by simp [qP h,(qQ h t).1,hr],hφ⟩
  ·rename_i ho hd
   have:op= .neq:=by cases op<;>first|rfl|(simp [iD] at ho)
   subst this
   obtain⟨v,hr,hφ⟩:=vU (w:=w) hd h
   exact⟨_,by simp [qP h,(qQ h t).2,hr],hφ⟩
  ·exact h.elim
theorem zf {op:UnOp} {x:Value} {φ:Value->Prop} {w:World} (h:lV op x φ):∃v,(Op.unary op x).run P w= .ok v w/\φ v:=by
 unfold lV at h
 split at h
 ·exact⟨_,by simp [Op.unary,Op.intArith],h⟩
 ·exact⟨_,by simp [Op.unary],h⟩
 ·exact⟨_,by simp only [Op.unary];rfl,h⟩
 ·exact h.elim
theorem iT {ρ:Operand->Value} {x:Option Operand} {dflt:Int} {φ:Int->Prop} (h:gI ρ x dflt φ):
  (x=none/\φ dflt)\/∃o k n,x=some o/\ρ o= .int k n/\φ n:=by
 unfold gI at h
 split at h
 ·exact .inl ⟨rfl,h⟩
 ·rename_i o
  split at h
  ·rename_i k n hv
   exact .inr ⟨o,k,n,rfl,hv,h⟩
  ·exact h.elim
theorem aW {k:IntKind} {i:Int} {y:Nat} {c:BoundsCode} {w:World} (h0:0<=i) (h1:i<=(y:Int)):
  (Instr.sliceBound (.int k i) y c).run P w= .ok i.toNat w:=by
 simp [Instr.sliceBound,asIntOf,h0,h1]
theorem wE {isS:Bool} {len cap:Nat} {ρ:Operand->Value} {lo hi:Option Operand} {φ:Int->Int->Prop} {w:World} (hlc:isS=true\/len=cap)
  (h:gI ρ lo 0 fun l=>gI ρ hi (len:Int) fun h=>φ l h) (hb:∀l h,φ l h->0<=l/\l<=h/\h<=(cap:Int)):
  ∃l h,(Instr.sliceBounds isS len cap (lo.map ρ) (hi.map ρ) none).run P w= .ok (l.toNat,h.toNat,cap) w/\φ l h:=by
 rcases iT h with ⟨e1,h1⟩|⟨o,k,l,e1,ho,h1⟩
 ·subst e1
  rcases iT h1 with ⟨e2,h2⟩|⟨o',k',h',e2,ho',h2⟩
  ·subst e2
   exact⟨_,_,by simp [Instr.sliceBounds],h2⟩
  ·subst e2
   obtain⟨a1,a2,a3⟩:=hb _ _ h2
   exact⟨_,_,by simp [Instr.sliceBounds,ho',aW (Int.le_trans a1 a2) a3],h2⟩
 ·subst e1
  rcases iT h1 with ⟨e2,h2⟩|⟨o',k',h',e2,ho',h2⟩
  ·subst e2
   obtain⟨a1,a2,a3⟩:=hb _ _ h2
   exact⟨_,_,by simp [Instr.sliceBounds,ho,aW a1 a2],h2⟩
  ·subst e2
   obtain⟨a1,a2,a3⟩:=hb _ _ h2
   have a4:l<=((h'.toNat:Nat):Int):=by omega
   exact⟨_,_,by simp [Instr.sliceBounds,ho,ho',aW (Int.le_trans a1 a2) a3,aW a1 a4],h2⟩
theorem Gu {isS:Bool} {len cap:Nat} {ρ:Operand->Value} {lo:Option Operand} {oh om:Operand} {φ:Int->Int->Int->Prop} {w:World}
  (h:gI ρ lo 0 fun l=>gI ρ (some oh) 0 fun h=>gI ρ (some om) 0 fun m=>φ l h m) (hb:∀l h m,φ l h m->0<=l/\l<=h/\h<=m/\m<=(cap:Int)):
  ∃l h m,(Instr.sliceBounds isS len cap (lo.map ρ) (some (ρ oh)) (some (ρ om))).run P w= .ok (l.toNat,h.toNat,m.toNat) w/\φ l h m:=by
 have key:∀l,(gI ρ (some oh) 0 fun h=>gI ρ (some om) 0 fun m=>φ l h m)->∃kh h km m,ρ oh= .int kh h/\ρ om= .int km m/\φ l h m:=by
  intro l hh
  rcases iT hh with ⟨e2,_⟩|⟨o',k',h',e2,ho',h2⟩
  ·cases e2
  ·cases e2
   rcases iT h2 with ⟨e3,_⟩|⟨o'',k'',h'',e3,ho'',h3⟩
   ·cases e3
   ·cases e3
    exact⟨_,_,_,_,ho',ho'',h3⟩
 rcases iT h with ⟨e1,h1⟩|⟨o,k,l,e1,ho,h1⟩
 ·subst e1
  obtain⟨kh,h',km,m,ho,hm,h2⟩:=key _ h1
  obtain⟨a1,a2,a3,a4⟩:=hb _ _ _ h2
  have b1:(0:Int)<=m:=by omega
  have b3:h'<=((m.toNat:Nat):Int):=by omega
  exact⟨_,_,_,by simp [Instr.sliceBounds,ho,hm,aW b1 a4,aW a2 b3],h2⟩
 ·subst e1
  obtain⟨kh,h',km,m,ho',hm,h2⟩:=key _ h1
  obtain⟨a1,a2,a3,a4⟩:=hb _ _ _ h2
  have b1:(0:Int)<=m:=by omega
  have b2:(0:Int)<=h':=by omega
  have b3:h'<=((m.toNat:Nat):Int):=by omega
  have b4:l<=((h'.toNat:Nat):Int):=by omega
  exact⟨_,_,_,by simp [Instr.sliceBounds,ho,ho',hm,aW b1 a4,aW b2 b3,aW a1 b4],h2⟩
theorem wX {t:TypeId} {x:Value} {ρ:Operand->Value} {lo hi mx:Option Operand} {φ:Value->Prop} {w:World} (h:iY P t x ρ lo hi mx φ):
  ∃v,(Instr.sliceAt t x (lo.map ρ) (hi.map ρ) (mx.map ρ)).run P w= .ok v w/\φ v:=by
 unfold iY at h
 split at h
 ·rename_i s ht
  split at h
  ·obtain⟨l,h',hr,h0⟩:=wE (P:=P) (isS:=false) (len:=s.size) (cap:=s.size) (w:=w) (.inr rfl) h (fun l h' hh=>⟨hh.1,hh.2.1,hh.2.2.1⟩)
   exact⟨_,by simp [Instr.sliceAt,Instr.slice,run_underlying ht,hr],h0.2.2.2⟩
  ·exact h.elim
 ·rename_i e a n c ht
  split at h
  ·rename_i size hs
   split at h
   ·obtain⟨l,h',hr,h0⟩:=wE (P:=P) (isS:=true) (len:=n) (cap:=c) (w:=w) (.inl rfl) h (fun l h' hh=>⟨hh.1,hh.2.1,hh.2.2.1⟩)
    exact⟨_,by simp [Instr.sliceAt,Instr.slice,run_underlying ht,hr,aJ hs,ah.v,lH],h0.2.2.2⟩
   ·rename_i m
    split at h
    ·rename_i hi'
     obtain⟨l,h',m',hr,h0⟩:=Gu (P:=P) (isS:=true) (len:=n) (cap:=c) (w:=w) h (fun l h' m' hh=>⟨hh.1,hh.2.1,hh.2.2.1,hh.2.2.2.1⟩)
     exact⟨_,by simp [Instr.sliceAt,Instr.slice,run_underlying ht,hr,aJ hs,ah.v,lH],h0.2.2.2.2⟩
    ·exact h.elim
  ·exact h.elim
 ·rename_i n e a ht
  split at h
  ·rename_i size hs
   split at h
   ·obtain⟨l,h',hr,h0⟩:=wE (P:=P) (isS:=false) (len:=n) (cap:=n) (w:=w) (.inr rfl) h (fun l h' hh=>⟨hh.1,hh.2.1,hh.2.2.1⟩)
    exact⟨_,by simp [Instr.sliceAt,Instr.sureAddr,run_underlying ht,hr,aJ hs,ah.v],h0.2.2.2⟩
   ·exact h.elim
  ·exact h.elim
 ·exact h.elim
end
end Gp
end
