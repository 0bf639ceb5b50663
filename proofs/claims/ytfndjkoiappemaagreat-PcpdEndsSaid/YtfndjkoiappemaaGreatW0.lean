import Derived.RangeFuncLeaves
import Derived.OrdersIn
import Derived.RangeFuncSeq
import Derived.Maps.RangeRun
import Derived.Laws.Append
import Derived.Laws.Slices
import Derived.Laws.MakeOwn
import Derived.Laws.CopyOwn
import Derived.Laws.BytesString
import Derived.Laws.BytesArg
import Derived.Laws.StructEq
import Derived.MapKept
import Derived.WideKeyRuns
import Derived.ChangeKeysEq
section
namespace Gp
open Go
inductive Kind where
 |int (k:IntKind)|bool|str|ptr|slice|map|any
structure b_ where
 a:Option Addr
 len:Nat
 cap:Nat
@[reducible] def Kind.T:Kind->Type
 | .int _=>Int
 | .bool=>Bool
 | .str=>ByteArray
 | .ptr=>Option Addr
 | .slice=>b_
 | .map=>Option Nat
 | .any=>Value
def Kind.enc:(k:Kind)->k.T->Value
 | .int k,n=> .int k n
 | .bool,b=> .bool b
 | .str,s=> .string s
 | .ptr,a=> .pointer a
 | .slice,s=> .slice s.a s.len s.cap
 | .map,r=> .map r
 | .any,v=>v
inductive Shape where
 |one (k:Kind)
 |agg (ks:List Kind)
def kindOf:TypeDesc->Option Kind
 | .bool=>some .bool
 | .int k=>some (.int k)
 | .string=>some .str
 | .pointer _=>some .ptr
 | .slice _=>some .slice
 | .map _ _=>some .map
 | .func _ _ _=>some .any
 | .interface _=>some .any
 |_=>none
def adO:List (Option (List Kind))->Option (List Kind)
 |[]=>some []
 |x::r=>match x,adO r with
  |some a,some b=>some (a++b)
  |_,_=>none
def ad5:Nat->List Kind->List Kind
 |0,_=>[]
 |n+1,ks=>ks++ad5 n ks
def FP (P:Program):Nat->TypeId->Option (List Kind)
 |0,_=>none
 |n+1,t=>match P.underlying t with
  |some (.struct fs)=>adO (fs.toList.map fun f=>FP P n f.type)
  |some (.array len e)=>match FP P n e with
   |some ks=>some (ad5 len ks)
   |none=>none
  |some d=>match kindOf d with
   |some k=>some [k]
   |none=>none
  |none=>none
def Fg:TypeDesc->Bool
 | .struct _=>true
 | .array _ _=>true
 |_=>false
def shapeOf (P:Program) (t:TypeId):Option Shape:=
 match P.underlying t with
 |some d=>cond (Fg d)
  (match FP P 20 t with
   |some ks=>some (.agg ks)
   |none=>none)
  (match kindOf d with
   |some k=>some (.one k)
   |none=>none)
 |none=>none
def UD (P:Program):List TypeId->Option (List Shape)
 |[]=>some []
 |t::r=>match shapeOf P t,UD P r with
  |some a,some b=>some (a::b)
  |_,_=>none
def KO (P:Program) (t:TypeId):Option (List Shape):=
 match P.underlying t with
 |some (.tuple ts)=>UD P ts.toList
 |_=>match shapeOf P t with
  |some s=>some [s]
  |none=>none
def ac3:(ks:List Kind)->(List Value->Prop)->Prop
 |[],φ=>φ []
 |k::ks,φ=>∃x:k.T,ac3 ks fun vs=>φ (k.enc x::vs)
def Shape.ex:Shape->(Value->Prop)->Prop
 | .one k,φ=>∃x:k.T,φ (k.enc x)
 | .agg ks,φ=>ac3 ks fun vs=>φ (.agg ⟨vs⟩)
def Ez:List Shape->(List Value->Prop)->Prop
 |[],φ=>φ []
 |s::r,φ=>s.ex fun v=>Ez r fun vs=>φ (v::vs)
def TT:List Value->Value
 |[v]=>v
 |vs=> .tuple ⟨vs⟩
def gY:Value->Bool
 | .agg _=>false
 | .tuple _=>false
 |_=>true
def Ld (k:Kind) (w:World) (a:Addr) (K:k.T->Prop):Prop:=∃x:k.T,w.cell? a=some (k.enc x)/\K x
def LdN:List Kind->World->Addr->Nat->(List Value->Prop)->Prop
 |[],_,_,_,φ=>φ []
 |k::ks,w,a,i,φ=>Ld k w (a.add i) fun x=>LdN ks w a (i+1) fun vs=>φ (k.enc x::vs)
def Shape.ld:Shape->World->Addr->(Value->Prop)->Prop
 | .one k,w,a,φ=>Ld k w a fun x=>φ (k.enc x)
 | .agg ks,w,a,φ=>LdN ks w a 0 fun vs=>φ (.agg ⟨vs⟩)
def Shape.cells:Shape->Nat
 | .one _=>1
 | .agg ks=>ks.length
def St (w:World) (a:Addr) (v:Value) (K:World->Prop):Prop:=gY v=true/\(w.cell? a).isSome=true/\w.frozen? a=false/\K (w.setCell a v)
def lS:List Value->World->Addr->Nat->(World->Prop)->Prop
 |[],w,_,_,K=>K w
 |v::vs,w,a,i,K=>St w (a.add i) v fun w'=>lS vs w' a (i+1) K
@[reducible] def XD (w:World):Value:= .pointer (some ⟨w.heap.size,0,none⟩)
def fH (z:List Value):Nat->List Value
 |0=>[]
 |n+1=>z++fH z n
def iR (P:Program) (t:TypeId):Option Nat:=
 match P.info? t with
 |some i=>some i.size
 |none=>none
def wG (k:IntKind) (a b:Int):Int:=k.wrap ((BitVec.ofInt k.bits a &&& BitVec.ofInt k.bits b).toNat:Int)
def orI (k:IntKind) (a b:Int):Int:=k.wrap ((BitVec.ofInt k.bits a|||BitVec.ofInt k.bits b).toNat:Int)
def WA (k:IntKind) (a b:Int):Int:=k.wrap ((BitVec.ofInt k.bits a^^^BitVec.ofInt k.bits b).toNat:Int)
def abu (k:IntKind) (a b:Int):Int:=k.wrap ((BitVec.ofInt k.bits a &&& ~~~(BitVec.ofInt k.bits b)).toNat:Int)
def Xn (k:IntKind) (a b:Int):Int:=k.wrap (a * 2^(min b.toNat k.bits))
def jU (k:IntKind) (a b:Int):Int:=a.fdiv (2^(min b.toNat k.bits))
def strEq (a b:ByteArray):Bool:=a.toList==b.toList
def strLt (a b:ByteArray):Bool:=Op.bytesLess a.toList b.toList
def IC:IntKind->IntKind->Bool
 | .i8,.i8| .i16,.i16| .i32,.i32| .i64,.i64| .u8,.u8| .u16,.u16| .u32,.u32| .u64,.u64=>true
 |_,_=>false
def Kind.dec:(k:Kind)->Value->(k.T->Prop)->Prop
 | .int k,.int k' n,φ=>cond (IC k k') (φ n) False
 | .bool,.bool b,φ=>φ b
 | .str,.string s,φ=>φ s
 | .ptr,.pointer a,φ=>φ a
 | .slice,.slice a l c,φ=>φ ⟨a,l,c⟩
 | .map,.map r,φ=>φ r
 | .any,v,φ=>φ v
 |_,_,_=>False
def Ih (op:BinOp) (k:IntKind) (a b:Int) (φ:Value->Prop):Prop:=
 match op with
 | .add=>φ (.int k (k.wrap (a+b)))
 | .sub=>φ (.int k (k.wrap (a - b)))
 | .mul=>φ (.int k (k.wrap (a * b)))
 | .quo=>b≠0/\φ (.int k (k.wrap (a.tdiv b)))
 | .rem=>b≠0/\φ (.int k (a.tmod b))
 | .and=>φ (.int k (wG k a b))
 | .or=>φ (.int k (orI k a b))
 | .xor=>φ (.int k (WA k a b))
 | .andNot=>φ (.int k (abu k a b))
 | .eql=>φ (.bool (a==b))
 | .neq=>φ (.bool (a !=b))
 | .lss=>φ (.bool (decide (a<b)))
 | .leq=>φ (.bool (decide (a<=b)))
 | .gtr=>φ (.bool (decide (a>b)))
 | .geq=>φ (.bool (decide (a>=b)))
 |_=>False
def H8 (op:BinOp) (a b:ByteArray) (φ:Value->Prop):Prop:=
 match op with
 | .add=>((a.size+b.size:Nat):Int)<=IntKind.i64.max/\φ (.string (a++b))
 | .eql=>φ (.bool (strEq a b))
 | .neq=>φ (.bool (!strEq a b))
 | .lss=>φ (.bool (strLt a b))
 | .leq=>φ (.bool (strLt a b||strEq a b))
 | .gtr=>φ (.bool !(strLt a b||strEq a b))
 | .geq=>φ (.bool !(strLt a b))
 |_=>False
def Ii (op:BinOp) (x y:Value) (φ:Value->Prop):Prop:=
 match op,x,y with
 | .shl,.int k a,.int _ b=>0<=b/\φ (.int k (Xn k a b))
 | .shr,.int k a,.int _ b=>0<=b/\φ (.int k (jU k a b))
 |op,.int k a,.int k' b=>cond (IC k k') (Ih op k a b φ) False
 |op,.string a,.string b=>H8 op a b φ
 |_,_,_=>False
def Hf (d:TypeDesc) (x y:Value) (φ:Bool->Prop):Prop:=
 match d,x,y with
 | .bool,.bool a,.bool b=>φ (a==b)
 | .pointer _,.pointer q,.pointer none=>φ q.isNone
 | .slice _,.slice q _ _,.slice none _ _=>φ q.isNone
 | .map _ _,.map q,.map none=>φ q.isNone
 |_,_,_=>False
def QB (d:TypeDesc) (size off:Nat) (cs:List Value):Option Value:=
 cond (Fg d) (some (.agg ⟨(cs.drop off).take size⟩)) cs[off]?
def abT (b:Bool):Option Bool->Option Bool
 |some r=>some (b && r)
 |none=>none
def Zv (P:Program) (f:TypeId->Value->Value->Option Bool) (xs ys:List Value):List Field->Option Bool
 |[]=>some true
 |fd::fs=>cond (fd.name=="_") none (match P.underlying fd.type,iR P fd.type with
  |some d,some size=>match QB d size fd.offset xs,QB d size fd.offset ys with
   |some a,some b=>match f fd.type a b with
    |some r=>abT r (Zv P f xs ys fs)
    |none=>none
   |_,_=>none
  |_,_=>none)
def aaR (f:Value->Value->Option Bool) (d:TypeDesc) (size:Nat) (xs ys:List Value):Nat->Nat->Option Bool
 |0,_=>some true
 |n+1,i=>match QB d size (i * size) xs,QB d size (i * size) ys with
  |some a,some b=>match f a b with
   |some r=>abT r (aaR f d size xs ys n (i+1))
   |none=>none
  |_,_=>none
def A_ (P:Program):Nat->TypeId->Value->Value->Option Bool
 |0,_,_,_=>none
 |d+1,t,x,y=>match P.underlying t,x,y with
  |some .bool,.bool a,.bool b=>some (a==b)
  |some (.int _),.int k a,.int k' b=>cond (IC k k') (some (a==b)) none
  |some .string,.string a,.string b=>some (strEq a b)
  |some (.struct fs),.agg xs,.agg ys=>cond (P.stoodInHeld t) none (Zv P (A_ P d) xs.toList ys.toList fs.toList)
  |some (.array n e),.agg xs,.agg ys=>match P.underlying e,iR P e with
   |some de,some size=>aaR (A_ P d e) de size xs.toList ys.toList n 0
   |_,_=>none
  |_,_,_=>none
def ET:BinOp->Option Bool
 | .eql=>some true
 | .neq=>some false
 |_=>none
def ED (P:Program) (op:BinOp) (t:TypeId) (x y:Value) (φ:Value->Prop):Prop:=
 match x with
 | .int _ _=>Ii op x y φ
 | .string _=>Ii op x y φ
 | .agg _=>match ET op,y with
  |some s,.agg _=>cond (P.eqGuardType P.depth t) False (match A_ P 16 t x y with
   |some b=>φ (.bool (cond s b (!b)))
   |none=>False)
  |_,_=>False
 |_=>match ET op,P.underlying t with
  |some true,some d=>Hf d x y fun b=>φ (.bool b)
  |some false,some d=>Hf d x y fun b=>φ (.bool !b)
  |_,_=>False
def IQ (op:UnOp) (x:Value) (φ:Value->Prop):Prop:=
 match op,x with
 | .neg,.int k n=>φ (.int k (k.wrap (0 - n)))
 | .not,.bool b=>φ (.bool !b)
 | .xor,.int k n=>φ (.int k (WA k (if k.signed then -1 else k.max) n))
 |_,_=>False
def Dh (a:Option Addr) (m l size:Nat):Option Addr:=if m=l then a else a.map (·.add (l * size))
def EG (s:b_) (size:Nat) (l h:Int) (K:b_->Prop):Prop:=
 0<=l/\l<=h/\h<=(s.cap:Int)/\K ⟨Dh s.a s.cap l.toNat size,h.toNat - l.toNat,s.cap - l.toNat⟩
def NI (s:b_) (size:Nat) (l h m:Int) (K:b_->Prop):Prop:=
 0<=l/\l<=h/\h<=m/\m<=(s.cap:Int)/\K ⟨Dh s.a m.toNat l.toNat size,h.toNat - l.toNat,m.toNat - l.toNat⟩
def sQ (a:Addr) (n size:Nat) (l h:Int) (K:b_->Prop):Prop:=
 0<=l/\l<=h/\h<=(n:Int)/\K ⟨some (if n=l.toNat then a else a.add (l.toNat * size)),h.toNat - l.toNat,n - l.toNat⟩
def WR (s:ByteArray) (l h:Int) (K:ByteArray->Prop):Prop:=
 0<=l/\l<=h/\h<=(s.size:Int)/\K (s.extract l.toNat h.toNat)
def g_ (s:b_) (size:Nat) (i:Int) (K:Addr->Prop):Prop:=
 ∃a,s.a=some a/\0<=i/\i<(s.len:Int)/\K (a.add (i.toNat * size))
def aaG (s:ByteArray) (i:Int) (K:Int->Prop):Prop:=
 ∃b:UInt8,0<=i/\s[i.toNat]? =some b/\K (b.toNat:Int)
def Cells (w:World) (a:Addr) (vs:List Value):Prop:=∀j,j<vs.length->w.cell? (a.add j)=vs[j]?
def sV (w:World):Option Addr->Nat->List Value->Prop
 |none,_,vs=>vs=[]
 |some a,n,vs=>vs.length=n/\Cells w a vs
def setCells (w:World) (a:Addr):List Value->Nat->World
 |[],_=>w
 |v::vs,i=>setCells (w.setCell (a.add i) v) a vs (i+1)
def ND (w:World) (a:Addr) (n:Nat):Prop:=∀j,j<n->(w.cell? (a.add j)).isSome=true/\w.frozen? (a.add j)=false
def Jf (P:Program) (t:TypeId):Option Nat:=
 match P.info? t with
 |some i=>some i.bytes
 |none=>none
def QT (e:TypeId) (size bytes:Nat) (z:List Value) (s:b_) (n:Nat) (vs:List Value) (w:World) (K:b_->World->Prop):Prop:=
 (s.len+n<=s.cap/\(∀a,s.a=some a->ND w (a.add (s.len * size)) vs.length)/\(∀v∈vs,gY v=true)/\
  K ⟨s.a,s.len+n,s.cap⟩ (match s.a with|some a=>setCells w (a.add (s.len * size)) vs 0|none=>w))\/
 (s.cap<s.len+n/\(s.len+n) * bytes<=2^46/\s.len+n<=2^62/\∃old,sV w s.a (s.len * size) old/\
  ∀c,s.len+n<=c->c<2^63->K ⟨some ⟨w.heap.size,0,none⟩,s.len+n,c⟩ (w.drew.alloc (.cells ⟨old++vs++fH z (c - (s.len+n))⟩ e)))
def rY (e:TypeId) (size bytes:Nat) (z:List Value) (s x:b_) (w:World) (K:b_->World->Prop):Prop:=
 ∃vs,sV w x.a (x.len * size) vs/\QT e size bytes z s x.len vs w K
def byteCells (s:ByteArray):List Value:=s.data.toList.map fun b=> .int .u8 b.toNat
def ac7 (e:TypeId) (size bytes:Nat) (z:List Value) (s:b_) (x:ByteArray) (w:World) (K:b_->World->Prop):Prop:=
 QT e size bytes z s x.size (byteCells x) w K
def ab_ (e:TypeId) (size bytes:Nat) (z:List Value) (s:b_) (n:Int) (w:World) (K:b_->World->Prop):Prop:=
 0<=n/\n * bytes<=2^46/\n<=2^62/\QT e size bytes z s n.toNat (fH z n.toNat) w K
def Nk (z:List Value) (s:b_) (w:World) (K:World->Prop):Prop:=
 (∀a,s.a=some a->ND w a (s.len * z.length))/\(∀v∈z,gY v=true)/\K (match s.a with|some a=>setCells w a (fH z s.len) 0|none=>w)
def Ic (size:Nat) (d s:b_) (w:World) (K:Int->World->Prop):Prop:=
 ∃vs,sV w s.a (Nat.min s.len d.len * size) vs/\(∀a,d.a=some a->ND w a vs.length)/\(∀v∈vs,gY v=true)/\
  K (Nat.min s.len d.len:Nat) (match d.a with|some a=>setCells w a vs 0|none=>w)
def TW (e:TypeId) (size bytes:Nat) (z:List Value) (n c:Int) (w:World) (K:b_->World->Prop):Prop:=
 0<=n/\n<=c/\c<=2^62/\(bytes:Int) * c<=2^48/\
  K ⟨some ⟨w.heap.size,0,none⟩,n.toNat,c.toNat⟩ (w.alloc (.cells ⟨fH z c.toNat⟩ e))
def partOf (d:TypeDesc) (size off:Nat) (cs:List Value) (φ:Value->Prop):Prop:=
 cond (Fg d) (φ (.agg ⟨(cs.drop off).take size⟩))
  (match cs[off]? with
   |some v=>φ v
   |none=>False)
def cellsOfV:Value->List Value
 | .agg cs=>cs.toList
 |v=>[v]
def splice (cs:List Value) (off:Nat) (vs:List Value):List Value:=cs.take off++(vs++cs.drop (off+vs.length))
def Eb (place:Nat->Option (Nat×Nat)):List (Nat×Value)->List Value->Option (List Value)
 |[],cs=>some cs
 |(i,v)::r,cs=>match place i with
  |some (off,size)=>cond (Nat.beq (cellsOfV v).length size && Nat.ble (off+size) cs.length) (Eb place r (splice cs off (cellsOfV v))) none
  |none=>none
def UJ:List (Nat×Value)->List Value->Option (List Value)
 |[],cs=>some cs
 |(i,v)::r,cs=>cond (Nat.blt i cs.length) (UJ r (cs.set i v)) none
def Rw:List Value->Prop
 |[]=>True
 |v::r=>gY v=true/\Rw r
def Zf:Option Shape->Bool
 |some (.one .any)=>true
 |_=>false
def oM (P:Program) (t:TypeId):Option (List Value):=
 match P.info? t with
 |some i=>match i.zero with
  |some z=>some (cellsOfV z)
  |none=>none
 |none=>none
def placesOf (P:Program):List Field->Option (List (Nat×Nat))
 |[]=>some []
 |f::r=>match iR P f.type,placesOf P r with
  |some s,some l=>some ((f.offset,s)::l)
  |_,_=>none
def EX (P:Program) (fs:Array Field) (i:Nat):Option (Nat×Nat):=
 match fs.toList[i]? with
 |some f=>match iR P f.type with
  |some s=>some (f.offset,s)
  |none=>none
 |none=>none
def qp (P:Program) (f:FuncId):Bool:=
 match P.funcs[f]? with
 |some fn=>fn.body.isSome
 |none=>false
def ael (P:Program) (f:FuncId) (args:List Value) (w:World) (K:Value->World->Prop):Prop:=
 ∃v w',(callFunc f ⟨args⟩).run P w= .ok (.value v) w'/\K v w'
def IV (P:Program) (sh:List Shape) (f:FuncId) (args:List Value) (w:World) (K:Value->World->Prop):Prop:=
 Calls P f ⟨args⟩ w fun e w'=>Ez sh fun vs=>e= .returned (TT vs)/\K (TT vs) w'
def JY (P:Program) (l:Nat) (args:List Value) (w:World) (K:Bool->World->Prop):Prop:=
 YieldAt Fence.wide 0 P l ⟨args⟩ w fun e w'=>∃b:Bool,e= .returned (.bool b)/\K b w'
def jI (P:Program) (sh:List Shape) (v:Value) (args:List Value) (w:World) (K:Value->World->Prop):Prop:=
 match v with
 | .func (.func f) first cap=>cond (qp P f) (IV P sh f (first.toList++(args++cap.toList)) w K) False
 | .func (.yield l) first _=>JY P l (first.toList++args) w fun b w'=>K (.bool b) w'
 |_=>False
def KX (w:World) (r:Option Nat) (φ:Int->Prop):Prop:=
 match r with
 |none=>φ 0
 |some b=>∃es clock,w.heap[b]? =some (.map es clock)/\φ (es.size:Int)
def KG (d:TypeDesc) (x:Value) (w:World) (φ:Int->Prop):Prop:=
 match d,x with
 | .string,.string s=>φ (s.size:Int)
 | .array n _,_=>φ (n:Int)
 | .slice _,.slice _ n _=>φ (n:Int)
 | .map _ _,.map r=>KX w r φ
 |_,_=>False
def CQ (mx:Bool):Int->List Value->IntKind->(Value->Prop)->Prop
 |x,[],k,φ=>φ (.int k x)
 |x,.int _ y::r,k,φ=>CQ mx (cond mx (if y>x then y else x) (if y<x then y else x)) r k φ
 |_,_::_,_,_=>False
def b_.v (s:b_):Value:= .slice s.a s.len s.cap
def ZN:Value->Bool
 | .int _ _=>true
 | .bool _=>true
 | .string _=>true
 |_=>false
def Rh:Value->Bool
 | .agg cs=>cs.toList.all ZN
 |v=>ZN v
def rX (P:Program) (kt:TypeId) (key:Value):List MapEntry->Nat->Option (Option (Nat×Value))
 |[],_=>some none
 |e::es,i=>match A_ P 16 kt key e.key with
  |some true=>some (some (i,e.val))
  |some false=>rX P kt key es (i+1)
  |none=>none
def kZ (P:Program) (kt:TypeId) (key:Value):Bool:=Rh key && (A_ P 16 kt key key).isSome
def sH (P:Program) (kt:TypeId) (k:Kind) (r:Option Nat) (key zero:Value) (w:World) (K:k.T->Prop):Prop:=
 kZ P kt key=true/\((r=none/\k.dec zero K)\/∃b es clock,r=some b/\w.heap[b]? =some (.map es clock)/\∃res,rX P kt key es.toList 0=some res/\k.dec (match res with|some (_,v)=>v|none=>zero) K)
def Ar (P:Program) (kt:TypeId) (r:Option Nat) (key zero:Value) (w:World) (K:Value->Bool->Prop):Prop:=
 kZ P kt key=true/\((r=none/\K zero false)\/∃b es clock,r=some b/\w.heap[b]? =some (.map es clock)/\∃res,rX P kt key es.toList 0=some res/\
  match res with|some (_,v)=>K v true|none=>K zero false)
def wJ (P:Program) (kt:TypeId) (r:Option Nat) (key val:Value) (w:World) (K:World->Prop):Prop:=
 kZ P kt key=true/\∃b es clock,r=some b/\w.heap[b]? =some (.map es clock)/\∃res,rX P kt key es.toList 0=some res/\
  match res with
  |some (i,_)=>(∃e,es[i]? =some e/\e.key=key)/\K (w.putObj b (.map (es.modify i fun e=>{e with key:=key,val:=val}) clock))
  |none=>K (w.putObj b (.map (es.push {key:=key,val:=val,born:=clock}) (clock+1)))
def Dl (P:Program) (kt:TypeId) (r:Option Nat) (key:Value) (w:World) (K:World->Prop):Prop:=
 kZ P kt key=true/\((r=none/\K w)\/∃b es clock,r=some b/\w.heap[b]? =some (.map es clock)/\∃res,rX P kt key es.toList 0=some res/\
  match res with
  |some (i,_)=>K (w.putObj b (.map (es.eraseIdxIfInBounds i) clock))
  |none=>K (w.putObj b (.map es clock)))
def Ny (P:Program) (kt:TypeId) (r:Option Nat) (key zero:Value) (w:World) (K:Value->Int->World->Prop):Prop:=
 kZ P kt key=true/\∃b es clock,r=some b/\w.heap[b]? =some (.map es clock)/\∃res,rX P kt key es.toList 0=some res/\
  match res with
  |some (i,v)=>∃e,es[i]? =some e/\e.key=key/\K v (e.born:Int) (w.putObj b (.map (es.modify i fun e=>{e with key:=key}) clock))
  |none=>K zero (clock:Int) (w.putObj b (.map (es.push {key:=key,val:=zero,born:=clock}) (clock+1)))
def U3 (r:Option Nat) (stamp:Int) (val:Value) (w:World) (K:World->Prop):Prop:=
 ∃b es clock i,r=some b/\w.heap[b]? =some (.map es clock)/\es.findIdx? (fun e=>(e.born:Int)==stamp)=some i/\K (w.putObj b (.map (es.modify i fun e=>{e with val:=val}) clock))
def Wy (r:Option Nat) (w:World) (K:Addr->World->Prop):Prop:=
 (r=none/\K ⟨w.heap.size,0,none⟩ (w.alloc (.mapIter none 0 #[] 0)))\/
 ∃b es clock,r=some b/\w.heap[b]? =some (.map es clock)/\K ⟨w.heap.size,0,none⟩ (w.alloc (.mapIter (some b) clock #[] clock))
def Zk (q:Nat) (w:World) (Kend:World->Prop) (Kstep:Value->Value->World->Prop):Prop:=
 (∃s sn c,w.heap[q]? =some (.mapIter none s sn c)/\Kend w)\/
 ∃b since seen c0 es clock,w.heap[q]? =some (.mapIter (some b) since seen c0)/\w.heap[b]? =some (.map es clock)/\(∀x∈es.toList,x.born<since)/\since<=c0/\
  ((leftOf es seen).size=0->Kend w)/\
  ∀e∈(leftOf es seen).toList,∀w1,(w1=w\/w1=w.drew)->Kstep e.key e.val (w1.putObj q (.mapIter (some b) since (seen.push e.born) clock))
def Wp (q:Nat) (w:World) (K:Value->Value->Prop):Prop:=
 ∃b since seen es clock e,w.heap[q]? =some (.mapIter (some b) since (Array.push seen e.born) clock)/\w.heap[b]? =some (.map es clock)/\e∈es.toList/\(es.toList.map (·.born)).Nodup/\K e.key e.val
def Bd (P:Program) (t:TypeId):Option Value:=
 match P.info? t with
 |some i=>i.zero
 |none=>none
def oZ (P:Program) (b:Builtin) (ts:List TypeId) (args:List Value) (w:World) (K:Value->World->Prop):Prop:=
 match b,ts,args with
 | .len,[t],[x]=>match P.underlying t with
  |some d=>KG d x w fun n=>K (.int .i64 n) w
  |none=>False
 | .cap,[t],[.slice _ _ c]=>match P.underlying t with
  |some (.slice _)=>K (.int .i64 (c:Int)) w
  |_=>False
 | .max,_,.int k x::r=>CQ true x r k fun v=>K v w
 | .min,_,.int k x::r=>CQ false x r k fun v=>K v w
 | .append,[t,t'],[.slice a l c,x]=>match P.underlying t,P.underlying t' with
  |some (.slice e),some d=>match iR P e,Jf P e,oM P e,d,x with
   |some size,some bytes,some z,.slice _,.slice b n m=>rY e size bytes z ⟨a,l,c⟩ ⟨b,n,m⟩ w fun s w'=>K s.v w'
   |some size,some bytes,some z,.string,.string s=>ac7 e size bytes z ⟨a,l,c⟩ s w fun s w'=>K s.v w'
   |some size,some bytes,some z,.int _,.int _ n=>cond (Nat.beq z.length size) (ab_ e size bytes z ⟨a,l,c⟩ n w fun s w'=>K s.v w') False
   |_,_,_,_,_=>False
  |_,_=>False
 | .copy,[t,_],[.slice a l c,.slice b n m]=>match P.underlying t with
  |some (.slice e)=>match iR P e with
   |some size=>Ic size ⟨a,l,c⟩ ⟨b,n,m⟩ w fun n w'=>K (.int .i64 n) w'
   |none=>False
  |_=>False
 | .clear,[t],[.slice a n c]=>match P.underlying t with
  |some (.slice e)=>match iR P e,oM P e with
   |some size,some z=>cond (Nat.beq z.length size) (Nk z ⟨a,n,c⟩ w fun w'=>K (.tuple #[]) w') False
   |_,_=>False
  |_=>False
 | .delete,[t,_],[.map r,key]=>match P.underlying t with
  |some (.map kt _)=>Dl P kt r key w fun w'=>K (.tuple #[]) w'
  |_=>False
 |_,_,_=>False
def xC (ρ:Operand->Value) (x:Option Operand) (dflt:Int) (φ:Int->Prop):Prop:=
 match x with
 |none=>φ dflt
 |some o=>match ρ o with
  | .int _ n=>φ n
  |_=>False
def DU (P:Program) (t:TypeId) (x:Value) (ρ:Operand->Value) (lo hi mx:Option Operand) (φ:Value->Prop):Prop:=
 match P.underlying t,x with
 |some .string,.string s=>match mx with
  |none=>xC ρ lo 0 fun l=>xC ρ hi (s.size:Int) fun h=>WR s l h fun s'=>φ (.string s')
  |some _=>False
 |some (.slice e),.slice a n c=>match iR P e with
  |some size=>match mx with
   |none=>xC ρ lo 0 fun l=>xC ρ hi (n:Int) fun h=>EG ⟨a,n,c⟩ size l h fun s'=>φ s'.v
   |some m=>match hi with
    |some _=>xC ρ lo 0 fun l=>xC ρ hi 0 fun h=>xC ρ (some m) 0 fun m'=>NI ⟨a,n,c⟩ size l h m' fun s'=>φ s'.v
    |none=>False
  |none=>False
 |some (.array n e),.pointer (some a)=>match iR P e with
  |some size=>match mx with
   |none=>xC ρ lo 0 fun l=>xC ρ hi (n:Int) fun h=>sQ a n size l h fun s'=>φ s'.v
   |some _=>False
  |none=>False
 |_,_=>False
def Nj (P:Program) (s d:TypeId) (x:Value) (φ:Value->Prop):Prop:=
 match P.underlying s,P.underlying d,x with
 |some _,some (.int k),.int _ n=>φ (.int k (k.wrap n))
 |some _,some .string,.string b=>φ (.string b)
 |_,_,_=>False
def Jy (w:World) (s:b_) (K:ByteArray->Prop):Prop:=
 ∃b:ByteArray,b.size=s.len/\sV w s.a s.len (byteCells b)/\K b
def aaw (e:TypeId) (s:ByteArray) (w:World) (K:b_->World->Prop):Prop:=
 s.size<=2^62/\∀c,s.size<=c->c<2^63->K ⟨some ⟨w.heap.size,0,none⟩,s.size,c⟩ (w.drew.alloc (.cells ⟨byteCells s++fH [.int .u8 0] (c - s.size)⟩ e (c,c+1)))
def acL (a:Addr) (w:World) (K:World->Prop):Prop:=∃T n,w.shape? a.block=some (T,n)/\K (w.freeze ⟨a.block,n,none⟩ 1)
def WO (P:Program) (t:TypeId) (name:String):Option FuncId:=
 match P.info? t with
 |some i=>match i.methods.find? (·.name==name) with
  |some m=>match m.path.toList,m.func with
   |[],some (f,false)=>some f
   |_,_=>none
  |none=>none
 |none=>none
def Wv:TypeDesc->Bool
 | .pointer _=>true
 |_=>false
def acA (P:Program) (sh:List Shape) (x:Value) (name:String) (args:List Value) (w:World) (K:Value->World->Prop):Prop:=
 match x with
 | .iface t v=>match P.underlying t,WO P t name with
  |some d,some f=>cond (!Wv d && qp P f) (IV P sh f (v::args) w K) False
  |_,_=>False
 |_=>False
def Vr (P:Program) (op:BinOp) (t:TypeId) (x y:Value) (φ:Value->Prop):Prop:=
 match ET op,P.underlying t,x,y with
 |some s,some (.interface _),.nilIface,.nilIface=>φ (.bool s)
 |some s,some (.interface _),.iface _ _,.nilIface=>φ (.bool (!s))
 |_,_,_,_=>False
def AsP (z:Value) (t:TypeId) (x:Value) (ok:Bool) (K:Value->Prop):Prop:=
 match x with
 | .iface t' v=>cond (Nat.beq t' t) (K (cond ok (.tuple ⟨[v,.bool true]⟩) v)) (cond ok (K (.tuple ⟨[z,.bool false]⟩)) False)
 | .nilIface=>cond ok (K (.tuple ⟨[z,.bool false]⟩)) False
 |_=>False
def xY (P:Program) (o:Oper) (ρ:Operand->Value) (w:World) (K:Value->World->Prop):Prop:=
 match o.op with
 | .move x=>K (ρ x) w
 | .assign x=>K (ρ x) w
 | .pick c a b=>match ρ c with
  | .bool t=>cond t (K (ρ a) w) (K (ρ b) w)
  |_=>False
 | .alloc e=>match oM P e with
  |some z=>K (XD w) (w.alloc (.cells ⟨z⟩ e))
  |none=>False
 | .box e x=>match shapeOf P e with
  |some (.one _)=>gY (ρ x)=true/\K (XD w) (w.alloc (.cells ⟨[ρ x]⟩ e))
  |some (.agg _)=>match ρ x with
   | .agg cs=>K (XD w) (w.alloc (.cells cs e))
   |_=>False
  |none=>False
 | .build t ps=>match oM P t,P.underlying t with
  |some z,some (.struct fs)=>match placesOf P fs.toList with
   |some pl=>match Eb (fun i=>pl[i]?) (ps.toList.map fun p=>(p.1,ρ p.2)) z with
    |some cs=>K (.agg ⟨cs⟩) w
    |none=>False
   |none=>False
  |some z,some (.array _ e)=>match iR P e with
   |some size=>match Eb (fun i=>some (i * size,size)) (ps.toList.map fun p=>(p.1,ρ p.2)) z with
    |some cs=>K (.agg ⟨cs⟩) w
    |none=>False
   |none=>False
  |_,_=>False
 | .buildSlice t n ps=>match P.underlying t with
  |some (.slice e)=>match iR P e,oM P e with
   |some size,some z=>cond (Nat.ble (n * size) 4096 && Nat.beq z.length size)
    (cond (Zf (shapeOf P e)) (cond (Nat.beq size 1) (Rw (ps.toList.map fun p=>ρ p.2)/\(match UJ (ps.toList.map fun p=>(p.1,ρ p.2)) (fH z n) with
     |some cs=>K (.slice (some ⟨w.heap.size,0,none⟩) n n) (w.alloc (.cells ⟨cs⟩ e))
     |none=>False)) False)
     (match Eb (fun i=>some (i * size,size)) (ps.toList.map fun p=>(p.1,ρ p.2)) (fH z n) with
     |some cs=>K (.slice (some ⟨w.heap.size,0,none⟩) n n) (w.alloc (.cells ⟨cs⟩ e))
     |none=>False)) False
   |_,_=>False
  |_=>False
 | .load t x=>match ρ x,shapeOf P t,iR P t with
  | .pointer (some a),some sh,some n=>cond (Nat.beq sh.cells n) (sh.ld w a fun v=>K v w) False
  |_,_,_=>False
 | .store t x y=>match ρ x,shapeOf P t,iR P t with
  | .pointer (some a),some (.one _),some n=>cond (Nat.beq n 1) (St w a (ρ y) fun w'=>K undef w') False
  | .pointer (some a),some (.agg _),some n=>match ρ y with
   | .agg cs=>cond (Nat.beq cs.toList.length n) (lS cs.toList w a 0 fun w'=>K undef w') False
   |_=>False
  |_,_,_=>False
 | .nilCheck x=>match ρ x with
  | .pointer q=>∃a,q=some a/\K (.pointer (some a)) w
  |_=>False
 | .binOp op t x y _=>match y with
  | .const .nilIface=>Vr P op t (ρ x) (ρ (.const .nilIface)) fun v=>K v w
  |y=>ED P op t (ρ x) (ρ y) fun v=>K v w
 | .unOp op _ x=>IQ op (ρ x) fun v=>K v w
 | .convert s d x=>match P.underlying s,P.underlying d,ρ x with
  |some (.slice e),some .string,.slice a n c=>match P.underlying e with
   |some (.int .u8)=>Jy w ⟨a,n,c⟩ fun b=>K (.string b) w
   |_=>False
  |some .string,some (.slice e),.string b=>match P.underlying e with
   |some (.int .u8)=>aaw e b w fun s' w'=>K s'.v w'
   |_=>False
  |some (.slice _),some (.slice e),.slice (some a) n c=>match P.underlying e,Nat.beq s d with
   |some (.int .u8),true=>acL a w fun w'=>K (.slice (some a) n c) w'
   |_,_=>False
  |_,_,v=>Nj P s d v fun v=>K v w
 | .makeFunc fn first cap=>K (.func fn ⟨first.toList.map ρ⟩ ⟨cap.toList.map ρ⟩) w
 | .lookup t x i false=>match P.underlying t,ρ x with
  |some (.map kt et),.map r=>match shapeOf P et,Bd P et with
   |some (.one k),some z=>sH P kt k r (ρ i) z w fun x=>K (k.enc x) w
   |some (.agg ks),some z=>Ar P kt r (ρ i) z w fun v _=>(Shape.agg ks).ex fun v'=>v=v'/\K v' w
   |_,_=>False
  |_,_=>False
 | .lookup t x i true=>match P.underlying t,ρ x with
  |some (.map kt et),.map r=>match shapeOf P et,Bd P et with
   |some sh,some z=>Ar P kt r (ρ i) z w fun v b=>sh.ex fun v'=>v=v'/\K (.tuple ⟨[v',.bool b]⟩) w
   |_,_=>False
  |_,_=>False
 | .mapUpdate t x i v=>match P.underlying t,ρ x with
  |some (.map kt _),.map r=>wJ P kt r (ρ i) (ρ v) w fun w'=>K undef w'
  |_,_=>False
 | .mapEntry t x i=>match P.underlying t,ρ x with
  |some (.map kt et),.map r=>match Bd P et with
   |some z=>Ny P kt r (ρ i) z w fun v n w'=>K (.tuple ⟨[v,.int .i64 n]⟩) w'
   |none=>False
  |_,_=>False
 | .entryStore _ x st v=>match ρ x,ρ st with
  | .map r,.int _ n=>U3 r n (ρ v) w fun w'=>K undef w'
  |_,_=>False
 | .makeMap _ none=>K (.map (some w.heap.size)) (w.alloc (.map #[] 0))
 | .makeSlice t l c=>match P.underlying t,ρ l,ρ c with
  |some (.slice e),.int _ n,.int _ m=>match iR P e,Jf P e,oM P e with
   |some size,some bytes,some z=>cond (Nat.beq z.length size) (TW e size bytes z n m w fun s w'=>K s.v w') False
   |_,_,_=>False
  |_,_,_=>False
 | .slice t x lo hi mx=>DU P t (ρ x) ρ lo hi mx fun v=>K v w
 | .fieldAddr t x f=>match P.underlying t,ρ x with
  |some (.struct fs),.pointer (some a)=>match EX P fs f with
   |some (off,size)=>cond (Nat.beq size 0) False (K (.pointer (some (a.add off))) w)
   |none=>False
  |_,_=>False
 | .field t x f=>match P.underlying t,ρ x with
  |some (.struct fs),.agg cs=>match fs.toList[f]? with
   |some fd=>match P.underlying fd.type,iR P fd.type with
    |some d,some size=>partOf d size fd.offset cs.toList fun v=>K v w
    |_,_=>False
   |none=>False
  |_,_=>False
 | .indexAddr t x i=>match P.underlying t,ρ x,ρ i with
  |some (.slice e),.slice a n c,.int _ i=>match iR P e with
   |some size=>g_ ⟨a,n,c⟩ size i fun a'=>K (.pointer (some a')) w
   |none=>False
  |some (.array n e),.pointer (some a),.int _ i=>match iR P e with
   |some size=>0<=i/\i<(n:Int)/\K (.pointer (some (a.add (i.toNat * size)))) w
   |none=>False
  |_,_,_=>False
 | .index t x i=>match P.underlying t,ρ x,ρ i with
  |some .string,.string s,.int _ i=>aaG s i fun n=>K (.int .u8 n) w
  |some (.array n e),.agg cs,.int _ i=>match P.underlying e,iR P e with
   |some d,some size=>0<=i/\i<(n:Int)/\partOf d size (i.toNat * size) cs.toList fun v=>K v w
   |_,_=>False
  |_,_,_=>False
 | .extract t i=>match ρ t with
  | .tuple vs=>match vs.toList[i]? with
   |some v=>match shapeOf P o.type with
    |some (.one k)=>k.dec v fun x=>K (k.enc x) w
    |_=>K v w
   |none=>False
  |_=>False
 | .range t x=>match P.underlying t,ρ x with
  |some (.map _ _),.map r=>Wy r w fun a w'=>K (.pointer (some a)) w'
  |_,_=>False
 | .next x false=>match ρ x with
  | .pointer (some a)=>a=⟨a.block,0,none⟩/\Zk a.block w (K (.tuple ⟨[.bool false]⟩)) fun k v w'=>K (.tuple ⟨[.bool true,k,v]⟩) w'
  |_=>False
 | .entry x=>match ρ x with
  | .pointer (some a)=>a=⟨a.block,0,none⟩/\Wp a.block w fun k v=>K (.tuple ⟨[k,v]⟩) w
  |_=>False
 | .makeInterface t x=>match P.underlying t with
  |some (.interface _)=>False
  |some _=>K (.iface t (ρ x)) w
  |none=>False
 | .typeAssert x _ t ok=>match P.underlying t,Bd P t with
  |some (.interface _),_=>False
  |some _,some z=>AsP z t (ρ x) ok fun v=>K v w
  |_,_=>False
 | .call c=>match c.callee with
  | .value (.func f)=>match KO P o.type with
   |some sh=>cond (qp P f) (IV P sh f (c.args.toList.map ρ) w K) (ael P f (c.args.toList.map ρ) w fun r w'=>Ez sh fun vs=>r=TT vs/\K (TT vs) w')
   |none=>False
  | .value x=>match KO P o.type with
   |some sh=>jI P sh (ρ x) (c.args.toList.map ρ) w fun r w'=>Ez sh fun vs=>r=TT vs/\K (TT vs) w'
   |none=>False
  | .builtin b=>oZ P b c.argTypes.toList (c.args.toList.map ρ) w K
  | .invoke x name=>match KO P o.type with
   |some sh=>acA P sh (ρ x) name (c.args.toList.map ρ) w K
   |none=>False
 |_=>False
abbrev Env:=List (Nat×Value)
def Env.get:Env->Nat->Option Value
 |[],_=>none
 |(s,v)::r,t=>cond (Nat.beq s t) (some v) (Env.get r t)
def Env.put (env:Env) (d:Option Nat) (v:Value):Env:=
 match d with
 |some s=>(s,v)::env
 |none=>env
def ZU (env:Env):Operand->Option Value
 | .tmp t=>env.get t
 | .const v=>some v
 | .global g=>some (.pointer (some ⟨g,0,none⟩))
 | .func f=>some (.func (.func f) #[] #[])
def ev (env:Env) (x:Operand):Value:=(ZU env x).getD undef
def Y6 (env:Env):List Operand->Bool
 |[]=>true
 |x::r=>(ZU env x).isSome && Y6 env r
def rZ (nt:Nat):Option Nat->Bool
 |some d=>Nat.blt d nt
 |none=>true
def split (g:Bool) (v:Value) (K:Value->Prop):Prop:=
 cond g (match v with| .bool b=>cond b (K (.bool true)) (K (.bool false))|v=>K v) (K v)
def xk (P:Program) (nt:Nat) (o:Oper) (g:Bool) (env:Env) (w:World) (K:Env->World->Prop):Prop:=
 cond (Y6 env o.op.operands.toList && rZ nt o.dst)
  (xY P o (ev env) w fun v w'=>split g v fun v'=>K (env.put o.dst v') w') False
def rF (P:Program) (nt:Nat) (ops:List Oper) (o:Oper) (g:Bool) (env:Env) (w:World) (K:Env->World->Prop):Prop:=
 match o.guard with
 |none=>xk P nt o g env w K
 |some (j,want)=>match (ops[j]?).bind (·.dst) with
  |some s=>match env.get s with
   |some (.bool t)=>cond (t==want) (xk P nt o g env w K) (cond (rZ nt o.dst) (K (env.put o.dst undef) w) False)
   |some (.tuple _)=>cond (rZ nt o.dst) (K (env.put o.dst undef) w) False
   |_=>False
  |none=>False
def RH (ops:List Oper) (i:Nat):Bool:=
 ops.any fun o=>match o.guard with
  |some (j,_)=>Nat.beq j i
  |none=>false
def VQ (P:Program) (nt:Nat) (ops:List Oper):Nat->List Oper->Env->World->(Env->World->Prop)->Prop
 |_,[],env,w,K=>K env w
 |i,o::r,env,w,K=>rF P nt ops o (RH ops i) env w fun env' w'=>VQ P nt ops (i+1) r env' w' K
end Gp
end
section
namespace Gp
open Go
def Ran (P:Program) (K:Value->World->Prop):Result Next->Prop
 | .ok (.value v) w=>K v w
 | .ok .skip w=>K undef w
 | .ok (.enter f args) w=>Calls P f args w fun e w'=>∃v,e= .returned v/\K v w'
 | .ok (.round l f tmps assign body) w=>RoundIn Fence.wide 0 P l f tmps assign body w fun e w'=>∃v,e= .returned v/\K v w'
 |_=>False
theorem Ran.mono {P:Program} {K K':Value->World->Prop} (h:∀v w,K v w->K' v w) {r:Result Next} (hr:Ran P K r):Ran P K' r:=by
 cases r with
 |ok x w=>
  cases x<;>simp only [Ran] at hr ⊢<;>first
   |exact h _ _ hr
   |exact Calls.mono hr fun e w' ⟨v,hv,hk⟩=>⟨v,hv,h _ _ hk⟩
   |exact RoundIn.mono hr fun e w' ⟨v,hv,hk⟩=>⟨v,hv,h _ _ hk⟩
 |halt x w=>exact hr.elim
structure QI (P:Program):Prop where
 enter:∀(f:FuncId) (fn:Func),P.funcs[f]? =some fn->fn.body.isSome=true->(fn.name=="runtime.NumGoroutine")=false
 mixed:P.follows .mixedOrders=true
section
variable {P:Program} {w:World}
theorem run_underlying {t:TypeId} {d:TypeDesc} (h:P.underlying t=some d):(underlying t).run P w= .ok d w:=by
 simp [underlying,h]
theorem run_typeInfo {t:TypeId} {i:TypeInfo} (h:P.info? t=some i):(typeInfo t).run P w= .ok i w:=by
 simp [typeInfo,h]
theorem iU {t:TypeId} {n:Nat} (h:iR P t=some n):(Go.sizeOf t).run P w= .ok n w:=by
 unfold iR at h
 split at h
 ·rename_i i hi
  simp only [Option.some.injEq] at h
  simp [Go.sizeOf,run_typeInfo hi,h]
 ·cases h
theorem rP {t:TypeId} {n:Nat} (h:iR P t=some n):∃i,P.info? t=some i/\i.size=n:=by
 unfold iR at h
 split at h
 ·rename_i i hi
  exact⟨i,hi,by simpa using h⟩
 ·cases h
theorem w_ {t:TypeId} {n:Nat} (h:Jf P t=some n):∃i,P.info? t=some i/\i.bytes=n:=by
 unfold Jf at h
 split at h
 ·rename_i i hi
  exact⟨i,hi,by simpa using h⟩
 ·cases h
theorem LC (v:Value):cellsOfV v=v.cells.toList:=by cases v<;>rfl
theorem mO {t:TypeId} {z:List Value} (h:oM P t=some z):∃i v,P.info? t=some i/\i.zero=some v/\v.cells.toList=z:=by
 unfold oM at h
 split at h
 ·rename_i i hi
  split at h
  ·rename_i v hv
   exact⟨i,v,hi,hv,by rw [<- LC];simpa using h⟩
  ·cases h
 ·cases h
theorem vC {t:TypeId} {z:List Value} (h:oM P t=some z):∃v,(zeroValue t).run P w= .ok v w/\v.cells=⟨z⟩:=by
 obtain⟨i,v,hi,hv,hz⟩:=mO h
 exact⟨v,by simp [zeroValue,run_typeInfo hi,hv],by rw [<- hz]⟩
theorem FB {t:TypeId} {d:TypeDesc} (h:P.underlying t=some d):(isAgg t).run P w= .ok (Fg d) w:=by
 simp only [isAgg,Sem.run_bind,run_underlying h,Result.andThen_ok]
 cases d<;>rfl
theorem Yu (v:Value):gY v=v.oneCell':=by cases v<;>rfl
theorem LK {v:Value} (h:gY v=true):v.cells= #[v]:=by cases v<;>first|rfl|(simp [gY] at h)
theorem add_zero' (a:Addr):a.add 0=a:=by simp [Addr.add]
theorem add_add (a:Addr) (i j:Nat) (h:i=0->a.spot=none\/j=0\/True):(a.add i).add j=a.add (i+j):=by
 unfold Addr.add
 by_cases hi:i=0
 ·simp [hi]
 ·by_cases hj:j=0
  ·simp [hi,hj]
  ·simp [hi,hj,Nat.add_assoc]
theorem YN {a:Addr}:∀(ks:List Kind) (i:Nat) (φ:List Value->Prop),LdN ks w a i φ->
  ∃vs,vs.length=ks.length/\(∀j v,vs[j]? =some v->w.cell? (a.add (i+j))=some v)/\φ vs:=by
 intro ks
 induction ks with
 |nil=>exact fun i φ h=>⟨[],rfl,by simp,h⟩
 |cons k ks ih=>
  rintro i φ ⟨x,hx,h⟩
  obtain⟨vs,hl,hc,hφ⟩:=ih (i+1) _ h
  refine⟨k.enc x::vs,by simp [hl],fun j v hj=> ?_,hφ⟩
  cases j with
  |zero=>simp at hj;subst hj;simpa using hx
  |succ j=>rw [show i+(j+1)=i+1+j by omega];exact hc j v (by simpa using hj)
theorem LY {t:TypeId} {sh:Shape} {n:Nat} {a:Addr} {φ:Value->Prop} (hs:shapeOf P t=some sh) (hn:iR P t=some n) (hc:sh.cells=n)
  (h:sh.ld w a φ):∃v,(loadVar t a).run P w= .ok v w/\φ v:=by
 unfold shapeOf at hs
 cases hd:P.underlying t with
 |none=>simp [hd] at hs
 |some d=>
  simp only [hd] at hs
  cases hg:Fg d with
  |false=>
   simp only [hg,cond_false] at hs
   cases hk:kindOf d with
   |none=>simp [hk] at hs
   |some k=>
    simp only [hk,Option.some.injEq] at hs
    subst hs
    obtain⟨x,hx,h⟩:=h
    exact⟨k.enc x,by simp [loadVar,FB hd,hg,hx],h⟩
  |true=>
   simp only [hg,cond_true] at hs
   cases hk:FP P 20 t with
   |none=>simp [hk] at hs
   |some ks=>
    simp only [hk,Option.some.injEq] at hs
    subst hs
    obtain⟨vs,hl,hcs,hφ⟩:=YN ks 0 _ h
    refine⟨.agg ⟨vs⟩,?_,hφ⟩
    have hlen:vs.length=n:=by rw [hl];exact hc
    have:=run_loadCells_list (P:=P) (w:=w) a vs (fun j v hj=>by simpa using hcs j v hj)
    simp only [loadVar,Sem.run_bind,FB hd,hg,Result.andThen_ok,if_true,iU hn]
    rw [<- hlen,this]
    rfl
theorem VO {a:Addr} {v:Value} {K:World->Prop} (h:St w a v K):(store a v).run P w= .ok () (w.setCell a v)/\K (w.setCell a v):=by
 obtain⟨h1,h2,h3,h4⟩:=h
 refine⟨?_,h4⟩
 rw [run_store P w a v .plain (by rw [<- Yu];exact h1)]
 cases hc:w.cell? a with
 |none=>simp [hc] at h2
 |some u=>simp [h3]
theorem abO {a:Addr} {K:World->Prop}:∀(vs:List Value) (w:World) (i:Nat),lS vs w a i K->∃w',(storeCells a vs i).run P w= .ok () w'/\K w':=by
 intro vs
 induction vs with
 |nil=>exact fun w i h=>⟨w,rfl,h⟩
 |cons v vs ih=>
  intro w i h
  obtain⟨h1,h2⟩:=VO (P:=P) h
  obtain⟨w',h3,h4⟩:=ih _ _ h2
  exact⟨w',by simp [storeCells,h1,h3],h4⟩
end
end Gp
end
section
namespace Gp
open Go
theorem Rz {α β:Type} (f:α->β) (xs:Array α):xs.map f=⟨xs.toList.map f⟩:=Array.toList_inj.mp (by simp)
theorem yu (z:List Value) (n:Nat):(fH z n).length=n * z.length:=by
 induction n with
 |zero=>simp [fH]
 |succ n ih=>simp [fH,ih,Nat.add_mul];omega
theorem JV {z:List Value} {v:Value}:∀{n:Nat},v∈fH z n->∃k:Nat,k<n/\v∈z
 |0,h=>by simp [fH] at h
 |n+1,h=>by
  rcases List.mem_append.1 (show v∈z++fH z n from h) with h|h
  ·exact⟨0,by omega,h⟩
  ·obtain⟨k,hk,hv⟩:=JV h
   exact⟨k,by omega,hv⟩
theorem Yp {n:Int} (h1: -9223372036854775808<=n) (h2:n<=9223372036854775807):IntKind.i64.wrap n=n:=by
 rw [IntKind.wrap_i64];omega
theorem Uf (z:Array Value):∀n,(List.range (n * z.size)).map (fun i=>z[i % z.size]!)=fH z.toList n:=by
 intro n
 induction n with
 |zero=>simp [fH]
 |succ n ih=>
  have e:(n+1) * z.size=z.size+n * z.size:=by rw [Nat.add_mul];omega
  rw [e,List.range_add,List.map_append,fH,List.map_map]
  congr 1
  ·apply List.ext_getElem
   ·simp
   ·intro i h1 h2
    simp at h1
    simp [Nat.mod_eq_of_lt h1,h1]
  ·rw [<- ih]
   apply List.map_congr_left
   intro i _
   simp
theorem mZ (z:Array Value) (n:Nat):Builtin.zeroCells z n=⟨fH z.toList n⟩:=by
 apply Array.toList_inj.mp
 simp only [Builtin.zeroCells,Array.toList_map,Array.toList_range]
 exact Uf z n
theorem TP (z:Array Value) (n:Nat):madeCells z (n * z.size)=⟨fH z.toList n⟩:=mZ z n
section
variable {P:Program}
theorem Pv {w:World} {a b:Addr} {v:Value} (h:(w.cell? b).isSome=true):((w.setCell a v).cell? b).isSome=true:=by
 by_cases e:a=b
 ·subst e
  cases hc:w.cell? a with
  |none=>simp [hc] at h
  |some u=>rw [World.cell?_setCell_same w a v hc];rfl
 ·rw [World.cell?_setCell_other w a b v e];exact h
theorem vS (a:Addr):∀(vs:List Value) (i:Nat) (w:World),(∀v∈vs,gY v=true)->
  (∀j,j<vs.length->(w.cell? (a.add (i+j))).isSome=true/\w.frozen? (a.add (i+j))=false)->(storeCells a vs i).run P w= .ok () (setCells w a vs i):=by
 intro vs
 induction vs with
 |nil=>exact fun i w _ _=>rfl
 |cons v vs ih=>
  intro i w h1 h2
  have h0:=h2 0 (by simp)
  obtain⟨hr,_⟩:=VO (P:=P) (w:=w) (a:=a.add i) (v:=v) (K:=fun _=>True) ⟨h1 v (by simp),by simpa using h0.1,by simpa using h0.2,trivial⟩
  have:=ih (i+1) (w.setCell (a.add i) v) (fun u hu=>h1 u (by simp [hu])) (fun j hj=>by
   have:=h2 (j+1) (by simp;omega)
   rw [show i+(j+1)=i+1+j by omega] at this
   exact⟨Pv this.1,by rw [World.frozen?_setCell];exact this.2⟩)
  simp [storeCells,hr,this,setCells]
theorem rQ {w:World} {a:Option Addr} {size n l c:Nat} {vs:List Value} (h:sV w a (n * size) vs):
  (Builtin.firstCells size n (.slice a l c)).run P w= .ok ⟨vs⟩ w:=by
 cases a with
 |none=>simp only [sV] at h;subst h;simp [run_firstCells_none]
 |some a=>
  obtain⟨hl,hc⟩:=h
  refine run_firstCells_some (P:=P) w size n a l c vs hl fun j v hj=> ?_
  have hlt:=(List.getElem?_eq_some_iff.1 hj).1
  rw [hc j hlt,hj]
theorem Ak {w:World} {a:Option Addr} {n:Nat} {vs:List Value} (h:sV w a n vs):sV w.drew a n vs:=by
 cases a<;>exact h
theorem Qv {t t' ty e:TypeId} {i:TypeInfo} {z:Value} (ht:P.underlying t=some (.slice e)) (hi:P.info? e=some i) (hz:i.zero=some z)
  {d:TypeDesc} (ht':P.underlying t'=some d) (hd:(∃e',d= .slice e')\/d= .string) {x:Value} {n:Nat} {vs:List Value} {w:World} {s:b_} {K:b_->World->Prop}
  (hlen:∀w,(Builtin.lenOf x).run P w= .ok n w) (hx:(Builtin.firstCells i.size n x).run P w= .ok ⟨vs⟩ w) (hx':(Builtin.firstCells i.size n x).run P w.drew= .ok ⟨vs⟩ w.drew)
  (h:QT e i.size i.bytes z.cells.toList s n vs w K):
  ∃s' w',(Builtin.append_ #[t,t'] ty #[s.v,x]).run P w= .ok s'.v w'/\K s' w':=by
 rcases h with ⟨hfit,hwr,hone,hK⟩|⟨hg,h46,h62,old,hold,hK⟩
 ·refine⟨_,_,?_,hK⟩
  cases hs:s.a with
  |none=>rcases hd with ⟨e',rfl⟩|rfl<;>(simp [Builtin.append_,b_.v,run_underlying ht,run_underlying ht',Go.sizeOf,run_typeInfo hi,hlen,hfit,hs,hx])
  |some a=>
   have hst:=vS (P:=P) (a.add (s.len * i.size)) vs 0 w hone (by intro j hj;simpa using hwr a hs j hj)
   rcases hd with ⟨e',rfl⟩|rfl<;>(simp [Builtin.append_,b_.v,run_underlying ht,run_underlying ht',Go.sizeOf,run_typeInfo hi,hlen,hfit,hs,hx,hst])
 ·have h1:¬(s.len+n<=s.cap):=by omega
  have h2:¬(9223372036854775807<((s.len:Int)+(n:Int))):=by omega
  have h3:=growslice_fits (bytes:=i.bytes) hg (by omega)
  have h3':¬(281474976710656<Builtin.nextslicecap (s.len+n) s.cap * i.bytes):=by omega
  have hco:=rQ (P:=P) (l:=s.len) (c:=s.cap) (Ak hold)
  refine⟨_,_,?_,hK (grownCap w (s.len+n) s.cap e) (grownCap_ge _ _ _ _) ?_⟩
  ·rcases hd with ⟨e',rfl⟩|rfl<;>(simp [Builtin.append_,b_.v,run_underlying ht,run_underlying ht',Go.sizeOf,run_typeInfo hi,zeroValue,hz,hlen,h1,h2,h3',Question.forced,hx',hco,newRow,grownCap,mZ])
  ·simp only [grownCap,Question.cut]
   have:=Nat.mod_lt (w.tape w.drawn (.appendCap (s.len+n) s.cap e)) (show 0<2^63 - (s.len+n) by omega)
   omega
theorem Vj {t t' ty e:TypeId} {i:TypeInfo} {z:Value} {ki kv:IntKind} (ht:P.underlying t=some (.slice e)) (hi:P.info? e=some i) (hz:i.zero=some z) (hsz:z.cells.toList.length=i.size)
  (ht':P.underlying t'=some (.int ki)) {n:Int} {w:World} {s:b_} {K:b_->World->Prop}
  (h:ab_ e i.size i.bytes z.cells.toList s n w K):
  ∃s' w',(Builtin.append_ #[t,t'] ty #[s.v,.int kv n]).run P w= .ok s'.v w'/\K s' w':=by
 obtain⟨h0,hb,hn,h⟩:=h
 obtain⟨m,rfl⟩:∃m:Nat,n=(m:Int):=⟨n.toNat,by omega⟩
 rw [Int.toNat_natCast] at h
 have hw:IntKind.i64.wrap (m:Int)=(m:Int):=Yp (by omega) (by omega)
 have hneg:¬((m:Int)<0):=by omega
 have hb':¬(281474976710656<(m:Int) * (i.bytes:Int)):=by omega
 by_cases hz0:m * i.size=0
 ·have he:fH z.cells.toList m=[]:=by
   have:=yu z.cells.toList m
   rw [hsz,hz0] at this
   exact List.length_eq_zero_iff.1 this
  rw [he] at h
  rcases h with ⟨hfit,hwr,hone,hK⟩|⟨hg,h46,h62,old,hold,hK⟩
  ·refine⟨_,_,?_,hK⟩
   cases hs:s.a with
   |none=>simp [Builtin.append_,b_.v,run_underlying ht,run_underlying ht',Go.sizeOf,run_typeInfo hi,asInt,asIntOf,hw,hneg,hb',hfit,hs,hz0]
   |some a=>simp [Builtin.append_,b_.v,run_underlying ht,run_underlying ht',Go.sizeOf,run_typeInfo hi,asInt,asIntOf,hw,hneg,hb',hfit,hs,hz0,setCells,storeCells]
  ·have h1:¬(s.len+m<=s.cap):=by omega
   have h2:¬(9223372036854775807<((s.len:Int)+(m:Int))):=by omega
   have h3:=growslice_fits (bytes:=i.bytes) hg (by omega)
   have h3':¬(281474976710656<Builtin.nextslicecap (s.len+m) s.cap * i.bytes):=by omega
   have hco:=rQ (P:=P) (l:=s.len) (c:=s.cap) (Ak hold)
   refine⟨_,_,?_,hK (grownCap w (s.len+m) s.cap e) (grownCap_ge _ _ _ _) ?_⟩
   ·simp [Builtin.append_,b_.v,run_underlying ht,run_underlying ht',Go.sizeOf,run_typeInfo hi,asInt,asIntOf,hw,hneg,hb',zeroValue,hz,h1,h2,h3',Question.forced,hz0,hco,newRow,grownCap,mZ]
   ·simp only [grownCap,Question.cut]
    have:=Nat.mod_lt (w.tape w.drawn (.appendCap (s.len+m) s.cap e)) (show 0<2^63 - (s.len+m) by omega)
    omega
 rcases h with ⟨hfit,hwr,hone,hK⟩|⟨hg,h46,h62,old,hold,hK⟩
 ·refine⟨_,_,?_,hK⟩
  cases hs:s.a with
  |none=>simp [Builtin.append_,b_.v,run_underlying ht,run_underlying ht',Go.sizeOf,run_typeInfo hi,asInt,asIntOf,hw,hneg,hb',hfit,hs,hz0,zeroValue,hz,mZ]
  |some a=>
   have hst:=vS (P:=P) (a.add (s.len * i.size)) (fH z.cells.toList m) 0 w hone (by intro j hj;simpa using hwr a hs j hj)
   simp [Builtin.append_,b_.v,run_underlying ht,run_underlying ht',Go.sizeOf,run_typeInfo hi,asInt,asIntOf,hw,hneg,hb',hfit,hs,hz0,zeroValue,hz,mZ,hst]
 ·have h1:¬(s.len+m<=s.cap):=by omega
  have h2:¬(9223372036854775807<((s.len:Int)+(m:Int))):=by omega
  have h3:=growslice_fits (bytes:=i.bytes) hg (by omega)
  have h3':¬(281474976710656<Builtin.nextslicecap (s.len+m) s.cap * i.bytes):=by omega
  have hco:=rQ (P:=P) (l:=s.len) (c:=s.cap) (Ak hold)
  refine⟨_,_,?_,hK (grownCap w (s.len+m) s.cap e) (grownCap_ge _ _ _ _) ?_⟩
  ·simp [Builtin.append_,b_.v,run_underlying ht,run_underlying ht',Go.sizeOf,run_typeInfo hi,asInt,asIntOf,hw,hneg,hb',zeroValue,hz,h1,h2,h3',Question.forced,hz0,hco,newRow,grownCap,mZ]
  ·simp only [grownCap,Question.cut]
   have:=Nat.mod_lt (w.tape w.drawn (.appendCap (s.len+m) s.cap e)) (show 0<2^63 - (s.len+m) by omega)
   omega
theorem Vz {t ty e:TypeId} {i:TypeInfo} {z:Value} (ht:P.underlying t=some (.slice e)) (hi:P.info? e=some i) (hz:i.zero=some z) (hsz:z.cells.toList.length=i.size)
  {w:World} {s:b_} {K:World->Prop} (h:Nk z.cells.toList s w K):∃w',(Builtin.clear_ #[t] ty #[s.v]).run P w= .ok (.tuple #[]) w'/\K w':=by
 obtain⟨hwr,hone,hK⟩:=h
 refine⟨_,?_,hK⟩
 obtain⟨a,n,c⟩:=s
 cases a with
 |none=>simp [Builtin.clear_,b_.v,run_underlying ht]
 |some a=>
  cases n with
  |zero=>simp [Builtin.clear_,b_.v,run_underlying ht,fH,setCells]
  |succ n=>
   have hst:=vS (P:=P) a (fH z.cells.toList (n+1)) 0 w (fun v hv=>by
    obtain⟨k,_,hv⟩:=JV hv
    exact hone v hv) (by intro j hj;rw [yu] at hj;simpa using hwr a rfl j hj)
   simp [Builtin.clear_,b_.v,run_underlying ht,zeroValue,run_typeInfo hi,hz,mZ,hst]
theorem Xb {t t' ty e:TypeId} {i:TypeInfo} (ht:P.underlying t=some (.slice e)) (hi:P.info? e=some i) {w:World} {d s:b_} {K:Int->World->Prop}
  (h:Ic i.size d s w K):∃n w',(Builtin.copy_ #[t,t'] ty #[d.v,s.v]).run P w= .ok (.int .i64 n) w'/\K n w':=by
 obtain⟨vs,hvs,hwr,hone,hK⟩:=h
 refine⟨_,_,?_,hK⟩
 have hf:=rQ (P:=P) (l:=s.len) (c:=s.cap) hvs
 cases hd:d.a with
 |none=>simp [Builtin.copy_,b_.v,run_underlying ht,Go.sizeOf,run_typeInfo hi,Builtin.lenOf,hd,hf,goInt]
 |some a=>
  have hst:=vS (P:=P) a vs 0 w hone (by intro j hj;simpa using hwr a hd j hj)
  simp [Builtin.copy_,b_.v,run_underlying ht,Go.sizeOf,run_typeInfo hi,Builtin.lenOf,hd,hf,hst,goInt]
theorem Xd {t e:TypeId} {i:TypeInfo} {z:Value} (ht:P.underlying t=some (.slice e)) (hi:P.info? e=some i) (hz:i.zero=some z) (hsz:z.cells.toList.length=i.size)
  {n c:Int} {kl kc:IntKind} {w:World} {K:b_->World->Prop} (h:TW e i.size i.bytes z.cells.toList n c w K):
  ∃s w',(Instr.makeSlice t (.int kl n) (.int kc c)).run P w= .ok s.v w'/\K s w':=by
 obtain⟨h0,h1,h2,h3,hK⟩:=h
 refine⟨_,_,?_,hK⟩
 have h2':c<=9223372036854775807:=Int.le_trans h2 (by decide)
 have h3':(i.bytes:Int) * c<=281474976710656:=Int.le_trans h3 (by decide)
 rw [run_make w t e i z ht hi hz kl kc n c h0 h1 h3' h2']
 have e0:i.size=z.cells.size:=hsz.symm.trans Array.length_toList
 have e1:c.toNat * i.size=c.toNat * z.cells.size:=congrArg (c.toNat * ·) e0
 rw [e1,TP]
 rfl
theorem OQ {w:World} {s:b_} {K:ByteArray->Prop} (h:Jy w s K):∃b,(Conv.bytesToString s.v).run P w= .ok (.string b) w/\K b:=by
 obtain⟨b,hl,hc,hK⟩:=h
 refine⟨b,?_,hK⟩
 cases hs:s.a with
 |none=>
  rw [hs] at hc
  have:b= .empty:=by
   have h0:b.data.toList=[]:=by simpa [sV,byteCells] using hc
   cases b with|mk d=>simp at h0;subst h0;rfl
  subst this
  simp [Conv.bytesToString,b_.v,hs]
 |some a=>
  rw [hs] at hc
  obtain⟨hn,hcs⟩:=hc
  have hcell:∀j v,(byteCells b)[j]? =some v->w.cell? (a.add j)=some v:=fun j v hj=>by
   have hlt:=(List.getElem?_eq_some_iff.1 hj).1
   rw [hcs j hlt,hj]
  have hl2:=run_loadCells_list (P:=P) (w:=w) a (byteCells b) hcell
  rw [hn] at hl2
  have e1:byteCells b=(b.data.toList.map fun x=>(x.toNat:Int)).map (Value.int .u8):=by simp [byteCells]
  rw [e1] at hl2
  have:=run_bytesToString (P:=P) w a s.len s.cap _ hl2
  simp only [b_.v,hs,this]
  rw [foldl_push_bytes]
  congr 2
  cases b with|mk d=>
  have e2:∀l:List UInt8,l.map ((fun n:Int=>UInt8.ofNat n.toNat) ∘ fun x=>(x.toNat:Int))=l:=by
   intro l
   induction l with
   |nil=>rfl
   |cons x l ih=>simp only [List.map_cons,ih];simp
  simp only [ByteArray.empty,ByteArray.emptyWithCapacity,List.map_map,e2]
  simp
  rfl
end
end Gp
end
section
namespace Gp
open Go
theorem Pn (cs:List Value) (off:Nat) (vs:List Value) (h:off+vs.length<=cs.length) (i:Nat):
  (splice cs off vs)[i]? =if i<off then cs[i]? else if i<off+vs.length then vs[i - off]? else cs[i]? :=by
 unfold splice
 have hl:(cs.take off).length=off:=by simp;omega
 by_cases h1:i<off
 ·rw [if_pos h1,List.getElem?_append_left (by omega),List.getElem?_take_of_lt h1]
 ·rw [if_neg h1,List.getElem?_append_right (by omega),hl]
  by_cases h2:i<off+vs.length
  ·rw [if_pos h2,List.getElem?_append_left (by omega)]
  ·rw [if_neg h2,List.getElem?_append_right (by omega),List.getElem?_drop]
   congr 1
   omega
theorem Vw (off:Nat):∀(vs:List Value) (k:Nat) (cs:Array Value),off+k+vs.length<=cs.size->
  ((vs.zipIdx k).foldl (fun(cs:Array Value) (p:Value×Nat)=>cs.setIfInBounds (off+p.2) p.1) cs)=⟨splice cs.toList (off+k) vs⟩:=by
 intro vs
 induction vs with
 |nil=>intro k cs _;simp [splice]
 |cons v vs ih=>
  intro k cs h
  simp only [List.length_cons] at h
  rw [List.zipIdx_cons,List.foldl_cons,ih (k+1) _ (by simp;omega)]
  congr 1
  apply List.ext_getElem?
  intro i
  rw [Pn _ _ _ (by simp;omega),Pn _ _ _ (by simp;omega)]
  simp only [Array.toList_setIfInBounds,List.getElem?_set,List.length_cons]
  by_cases h1:i<off+k
  ·have h2:i<off+(k+1):=by omega
   have h3:¬(off+k=i):=by omega
   simp [h1,h2,h3]
  ·by_cases h2:i=off+k
   ·subst h2
    have h3:off+k<off+(k+1):=by omega
    have h4:off+k<cs.size:=by omega
    simp [h3,h4]
   ·have h3:¬(i<off+(k+1)):=by omega
    have h4:¬(off+k=i):=by omega
    simp only [h1,h3,h4,if_false]
    by_cases h5:i<off+(k+1)+vs.length
    ·have h6:i<off+k+(vs.length+1):=by omega
     obtain⟨m,hm⟩:∃m,i - (off+k)=m+1:=⟨i - (off+k) - 1,by omega⟩
     have h7:i - (off+(k+1))=m:=by omega
     simp [h5,h6,hm,h7]
    ·have h6:¬(i<off+k+(vs.length+1)):=by omega
     simp [h5,h6]
theorem Jz {v:Value} (h:gY v=true):cellsOfV v=[v]:=by cases v<;>first|rfl|(simp [gY] at h)
theorem Vf:∀(ps:List (Nat×Value)) (cs out:List Value),(∀p∈ps,gY p.2=true)->UJ ps cs=some out->Eb (fun i=>some (i * 1,1)) ps cs=some out:=by
 intro ps
 induction ps with
 |nil=>exact fun cs out _ h=>h
 |cons p ps ih=>
  obtain⟨i,v⟩:=p
  intro cs out h1 h
  simp only [UJ] at h
  have hv:gY v=true:=h1 (i,v) (by simp)
  cases hb:Nat.blt i cs.length with
  |false=>rw [hb] at h;cases h
  |true=>
   rw [hb] at h
   have hlt:i<cs.length:=by simpa [Nat.blt_eq] using hb
   have hs:splice cs (i * 1) [v]=cs.set i v:=by
    rw [List.set_eq_take_append_cons_drop,if_pos hlt,Nat.mul_one];rfl
   have hc:(Nat.beq (cellsOfV v).length 1 && Nat.ble (i * 1+1) cs.length)=true:=by
    rw [Jz hv,Bool.and_eq_true]
    exact⟨rfl,by rw [Nat.ble_eq];omega⟩
   simp only [Eb,hc,cond_true]
   rw [Jz hv,hs]
   exact ih _ _ (fun p hp=>h1 p (by simp [hp])) h
theorem Xe:∀(vs:List Value),Rw vs->∀v∈vs,gY v=true:=by
 intro vs
 induction vs with
 |nil=>exact fun _ v hv=>by simp at hv
 |cons v vs ih=>
  rintro⟨h1,h2⟩ u hu
  rcases List.mem_cons.1 hu with rfl|hu
  ·exact h1
  ·exact ih h2 u hu
theorem adK {sh:Option Shape} {size:Nat} {ps:List (Nat×Operand)} {ρ:Operand->Value} {cs:List Value} {Φ:List Value->Prop}
  (h:cond (Zf sh) (cond (Nat.beq size 1) (Rw (ps.map fun p=>ρ p.2)/\(match UJ (ps.map fun p=>(p.1,ρ p.2)) cs with
     |some cs=>Φ cs
     |none=>False)) False)
     (match Eb (fun i=>some (i * size,size)) (ps.map fun p=>(p.1,ρ p.2)) cs with
     |some cs=>Φ cs
     |none=>False)):∃out,Eb (fun i=>some (i * size,size)) (ps.map fun p=>(p.1,ρ p.2)) cs=some out/\Φ out:=by
 cases ha:Zf sh with
 |false=>
  rw [ha] at h
  simp only [cond_false] at h
  split at h
  ·rename_i out hf;exact⟨out,hf,h⟩
  ·exact h.elim
 |true=>
  rw [ha] at h
  simp only [cond_true] at h
  cases hb:Nat.beq size 1 with
  |false=>rw [hb] at h;exact h.elim
  |true=>
   rw [hb] at h
   have hs:size=1:=Nat.eq_of_beq_eq_true hb
   subst hs
   simp only [cond_true] at h
   obtain⟨h1,h⟩:=h
   split at h
   ·rename_i out hf
    refine⟨out,Vf _ _ _ (fun p hp=> ?_) hf,h⟩
    obtain⟨q,hq,rfl⟩:=List.mem_map.1 hp
    exact Xe _ h1 _ (List.mem_map.2 ⟨q,hq,rfl⟩)
   ·exact h.elim
theorem IE (place place':Nat->Option (Nat×Nat)) (hp:∀i x,place i=some x->place' i=some x):∀(ps:List (Nat×Value)) (cs out:List Value),Eb place ps cs=some out->
  Instr.fill place' ⟨cs⟩ ps=some ⟨out⟩:=by
 intro ps
 induction ps with
 |nil=>intro cs out h;simp [Eb] at h;subst h;rfl
 |cons p ps ih=>
  obtain⟨i,v⟩:=p
  intro cs out h
  simp only [Eb] at h
  cases hpl:place i with
  |none=>simp [hpl] at h
  |some x=>
   obtain⟨off,size⟩:=x
   simp only [hpl] at h
   cases hb:(Nat.beq (cellsOfV v).length size && Nat.ble (off+size) cs.length) with
   |false=>simp [hb] at h
   |true=>
    simp only [hb,cond_true] at h
    simp only [Bool.and_eq_true,Nat.beq_eq,Nat.ble_eq] at hb
    obtain⟨h1,h2⟩:=hb
    rw [LC] at h1 h
    have h3:v.cells.size=size:=by rw [<- h1];simp
    have:=ih _ _ h
    have hf:=Vw off v.cells.toList 0 ⟨cs⟩ (by simp;omega)
    simp only [Nat.add_zero] at hf
    have hz:v.cells.zipIdx.foldl (fun(cs:Array Value) (x:Value×Nat)=>cs.setIfInBounds (off+x.2) x.1) ⟨cs⟩=⟨splice cs off v.cells.toList⟩:=by
     rw [<- Array.foldl_toList,Array.toList_zipIdx]
     exact hf
    simp only [Instr.fill,hp _ _ hpl]
    have c1:(v.cells.size≠size||off+v.cells.size>(⟨cs⟩:Array Value).size)=false:=by
     simp [h3];omega
    simp only [c1,Bool.false_eq_true,if_false]
    exact(congrArg (fun a=>Instr.fill place' a ps) hz).trans this
section
variable {P:Program}
theorem Td {w:World}:∀(fs:List Field) (pl:List (Nat×Nat)),placesOf P fs=some pl->
  (fs.mapM fun(f:Field)=>(do pure (f.offset,<- Go.sizeOf f.type):Sem (Nat×Nat))).run P w= .ok pl w:=by
 intro fs
 induction fs with
 |nil=>intro pl h;simp [placesOf] at h;subst h;simp
 |cons f fs ih=>
  intro pl h
  simp only [placesOf] at h
  cases hs:iR P f.type with
  |none=>simp [hs] at h
  |some s=>
   cases hr:placesOf P fs with
   |none=>simp [hs,hr] at h
   |some l=>
    simp only [hs,hr,Option.some.injEq] at h
    subst h
    have hi:=ih l hr
    rw [List.mapM_cons]
    simp only [Sem.run_bind,iU hs,Result.andThen_ok,Sem.run_pure,hi]
theorem Oo {w:World} {fs:Array Field} {f off size:Nat} (h:EX P fs f=some (off,size)) (hs:Nat.beq size 0=false) (a:Addr):
  ∃fd,fs[f]? =some fd/\(fieldPlace a fd).run P w= .ok (a.add off) w:=by
 unfold EX at h
 cases hf:fs.toList[f]? with
 |none=>simp [hf] at h
 |some fd=>
  simp only [hf] at h
  cases hz:iR P fd.type with
  |none=>simp [hz] at h
  |some s=>
   simp only [hz,Option.some.injEq,Prod.mk.injEq] at h
   obtain⟨rfl,rfl⟩:=h
   refine⟨fd,by simpa using hf,?_⟩
   have:s≠0:=by intro e;subst e;simp at hs
   simp [fieldPlace,iU hz,this]
theorem Nu {w:World} {t:TypeId} {d:TypeDesc} {size off:Nat} {cs:Array Value} {φ:Value->Prop} (hd:P.underlying t=some d) (hs:iR P t=some size)
  (h:partOf d size off cs.toList φ):∃v,(part t cs off).run P w= .ok v w/\φ v:=by
 unfold partOf at h
 cases hg:Fg d with
 |true=>
  simp only [hg,cond_true] at h
  refine⟨_,?_,h⟩
  simp only [part,Sem.run_bind,FB hd,Result.andThen_ok,hg,if_true,iU hs,Sem.run_pure,Result.ok.injEq,and_true,Value.agg.injEq]
  apply Array.toList_inj.mp
  simp [Array.toList_extract,List.extract_eq_take_drop]
 |false=>
  simp only [hg,cond_false] at h
  cases hc:cs.toList[off]? with
  |none=>simp [hc] at h
  |some v=>
   simp only [hc] at h
   refine⟨v,?_,h⟩
   have hc':cs[off]? =some v:=by simpa using hc
   simp [part,FB hd,hg,hc']
theorem Jt {k k':IntKind} (h:IC k k'=true):k=k':=by cases k<;>cases k'<;>first|rfl|(simp [IC] at h)
theorem Xh {op:BinOp} {k:IntKind} {a b:Int} {φ:Value->Prop} {t:TypeId} {w:World} (hop:op≠.shl/\op≠.shr) (h:Ih op k a b φ):
  ∃v,(binOp op t (.int k a) (.int k b)).run P w= .ok v w/\φ v:=by
 cases op<;>simp only [Ih] at h<;>first
  |exact absurd rfl hop.1
  |exact absurd rfl hop.2
  |exact h.elim
  |(refine⟨_,?_,h⟩;simp [binOp,Op.intArith];done)
  |(refine⟨_,?_,h⟩;simp [binOp,Op.intCmp];done)
  |(refine⟨_,?_,h⟩;simp only [binOp,ne_eq,not_true_eq_false,if_false];rfl)
  |(refine⟨_,?_,h.2⟩;simp [binOp,Op.intDiv,h.1];done)
theorem Wu {op:BinOp} {a b:ByteArray} {φ:Value->Prop} {t:TypeId} {w:World} (h:H8 op a b φ):
  ∃v,(binOp op t (.string a) (.string b)).run P w= .ok v w/\φ v:=by
 cases op<;>simp only [H8] at h<;>first
  |exact h.elim
  |(refine⟨_,?_,h⟩;simp [binOp,Op.stringOp,strEq,strLt];done)
  |(refine⟨_,?_,h.2⟩
    have:¬(IntKind.i64.max<((a.size+b.size:Nat):Int)):=by omega
    simp [binOp,Op.stringOp] at this ⊢
    simp [this])
end
end Gp
end
section
namespace Gp
open Go
section
variable {P:Program}
theorem Qw {d:TypeDesc} {x y:Value} {φ:Bool->Prop} {t:TypeId} {w:World} (ht:P.underlying t=some d) (h:Hf d x y φ):
  ∃b,(Op.equal t x y).run P w= .ok b w/\φ b:=by
 have key:∀n,∃b,(Op.equalIn (n+1) t x y).run P w= .ok b w/\φ b:=by
  intro n
  unfold Hf at h
  split at h
  ·exact⟨_,by simp [Op.equalIn,run_underlying ht],h⟩
  ·rename_i q
   refine⟨_,?_,h⟩
   cases q<;>simp [Op.equalIn,run_underlying ht]
  ·rename_i q _ _ _ _
   refine⟨_,?_,h⟩
   cases q<;>simp [Op.equalIn,run_underlying ht]
  ·rename_i q
   refine⟨_,?_,h⟩
   cases q<;>simp [Op.equalIn,run_underlying ht]
  ·exact h.elim
 exact key 9999
theorem LG {d:TypeDesc} {x y:Value} {φ:Bool->Prop} (h:Hf d x y φ) (op:BinOp) (t:TypeId) (a b:Operand) (w:World):(eqGuard op t a b x y).run P w= .ok () w:=by
 unfold Hf at h
 split at h<;>first|exact h.elim|(cases op<;>simp [eqGuard])
theorem Yd {op:BinOp} {t:TypeId} {x y:Value} {φ:Value->Prop} (a:Operand) {w:World} (h:Vr P op t x y φ):
  ∃v,(do eqGuard op t a (.const .nilIface) x y;binOp op t x y:Sem Value).run P w= .ok v w/\φ v:=by
 unfold Vr at h
 split at h
 ·rename_i s ms ho ht
  have key:∀n,(Op.equalIn (n+1) t .nilIface .nilIface).run P w= .ok true w:=fun n=>by simp [Op.equalIn,run_underlying ht]
  have e:(Op.equal t .nilIface .nilIface).run P w= .ok true w:=key 9999
  cases op<;>simp only [ET,reduceCtorEq,Option.some.injEq] at ho
  all_goals subst ho
  ·exact⟨.bool true,by simp [eqGuard,show binOp .eql t .nilIface .nilIface=(do pure (.bool (<- Op.equal t .nilIface .nilIface))) from rfl,e],h⟩
  ·exact⟨.bool false,by simp [eqGuard,show binOp .neq t .nilIface .nilIface=(do pure (.bool (!(<- Op.equal t .nilIface .nilIface)))) from rfl,e],h⟩
 ·rename_i s ms t' v' ho ht
  have key:∀n,(Op.equalIn (n+1) t (.iface t' v') .nilIface).run P w= .ok false w:=fun n=>by simp [Op.equalIn,run_underlying ht]
  have e:(Op.equal t (.iface t' v') .nilIface).run P w= .ok false w:=key 9999
  cases op<;>simp only [ET,reduceCtorEq,Option.some.injEq] at ho
  all_goals subst ho
  ·exact⟨.bool false,by simp [eqGuard,show binOp .eql t (.iface t' v') .nilIface=(do pure (.bool (<- Op.equal t (.iface t' v') .nilIface))) from rfl,e],h⟩
  ·exact⟨.bool true,by simp [eqGuard,show binOp .neq t (.iface t' v') .nilIface=(do pure (.bool (!(<- Op.equal t (.iface t' v') .nilIface)))) from rfl,e],h⟩
 ·exact h.elim
theorem Lu {d:TypeDesc} {x y:Value} {φ:Bool->Prop} (h:Hf d x y φ) (t:TypeId):
  binOp .eql t x y=(do pure (.bool (<- Op.equal t x y)))/\binOp .neq t x y=(do pure (.bool (!(<- Op.equal t x y)))):=by
 unfold Hf at h
 split at h<;>first|exact h.elim|exact⟨rfl,rfl⟩
theorem zf {w:World} {t:TypeId} {d:TypeDesc} {size off:Nat} {cs:Array Value} {v:Value} (hd:P.underlying t=some d) (hs:iR P t=some size) (h:QB d size off cs.toList=some v):
  (part t cs off).run P w= .ok v w:=by
 obtain⟨v',hr,hv⟩:=Nu (w:=w) (cs:=cs) (off:=off) (φ:=fun v'=>v'=v) hd hs (by
  unfold QB at h
  unfold partOf
  cases hg:Fg d with
  |true=>rw [hg] at h;simp only [cond_true,Option.some.injEq] at h ⊢;exact h
  |false=>rw [hg] at h;simp only [cond_false] at h ⊢;rw [h])
 rw [hr,hv]
theorem FU {b:Bool} {o:Option Bool} {r:Bool} (h:abT b o=some r):∃r',o=some r'/\r=(b && r'):=by
 cases o with
 |none=>cases h
 |some r'=>exact⟨r',rfl,by simpa [abT] using h.symm⟩
theorem Tz:∀(n:Nat) (t:TypeId) (x y:Value) (b:Bool) (m:Nat) (w:World),A_ P n t x y=some b->n<=m->(Op.equalIn m t x y).run P w= .ok b w:=by
 intro n
 induction n with
 |zero=>intro t x y b m w h;cases h
 |succ n ih=>
  intro t x y b m w h hm
  obtain⟨m,rfl⟩:∃m',m=m'+1:=⟨m - 1,by omega⟩
  unfold A_ at h
  split at h
  ·rename_i hu
   rw [run_equalIn_bool' w m t _ _ hu]
   cases h;rfl
  ·rename_i k0 k a k' c hu
   cases hk:IC k k' with
   |false=>rw [hk] at h;cases h
   |true=>
    rw [hk] at h
    have:=Jt hk
    subst this
    rw [run_equalIn_int w m t k k0 _ _ hu]
    cases h;rfl
  ·rename_i hu
   rw [run_equalIn_string w m t _ _ hu]
   cases h;rfl
  ·rename_i fs xs ys hu
   cases hp:P.stoodInHeld t with
   |true=>rw [hp] at h;cases h
   |false=>
    rw [hp] at h
    simp only [cond_false] at h
    have hfs:P.fieldsOf t=fs:=by simp [Program.fieldsOf,hu]
    rw [run_equalIn_struct w m t xs ys (by rw [hfs];exact hu) hp,hfs]
    generalize fs.toList=l at h
    clear hfs hu
    induction l generalizing b with
    |nil=>simp only [Zv,Option.some.injEq] at h;subst h;rfl
    |cons fd l ihl=>
     simp only [Zv] at h
     cases hnm:(fd.name=="_") with
     |true=>rw [hnm] at h;cases h
     |false=>
      rw [hnm] at h
      simp only [cond_false] at h
      split at h
      case h_2=>cases h
      rename_i d size hd hs
      split at h
      case h_2=>cases h
      rename_i u v hu hv
      split at h
      case h_2=>cases h
      rename_i r hr
      obtain⟨r',hr',rfl⟩:=FU h
      have hne:fd.name≠"_":=by simpa using hnm
      simp only [Op.eqFields,hne,ne_eq,not_false_eq_true,if_true,Sem.run_bind,zf hd hs hu,zf hd hs hv,Result.andThen_ok,ih _ _ _ _ m w hr (by omega)]
      cases r with
      |true=>simp only [Bool.not_true,Bool.false_eq_true,if_false,Bool.true_and];exact ihl _ hr'
      |false=>simp
  ·rename_i n' e xs ys hu
   split at h
   case h_2=>cases h
   rename_i de size hd hs
   obtain⟨i,hi,hsz⟩:∃i,P.info? e=some i/\i.size=size:=by
    unfold iR at hs
    split at hs
    ·rename_i i hi;exact⟨i,hi,by simpa using hs⟩
    ·cases hs
   have hc:P.cellsOf e=size:=by simp [Program.cellsOf,hi,hsz]
   rw [run_equalIn_array w m xs ys hu hi,hc,List.range_eq_range']
   generalize 0=j at h ⊢
   clear hu
   induction n' generalizing b j with
   |zero=>simp only [aaR,Option.some.injEq] at h;subst h;rfl
   |succ n' ihn=>
    simp only [aaR] at h
    split at h
    case h_2=>cases h
    rename_i u v hu hv
    split at h
    case h_2=>cases h
    rename_i r hr
    obtain⟨r',hr',rfl⟩:=FU h
    simp only [List.range'_succ,Op.eqItems,Sem.run_bind,zf hd hs hu,zf hd hs hv,Result.andThen_ok,ih _ _ _ _ m w hr (by omega)]
    cases r with
    |true=>simp only [Bool.not_true,Bool.false_eq_true,if_false,Bool.true_and];exact ihn _ _ hr'
    |false=>simp
  ·cases h
theorem abo {n:Nat} {t:TypeId} {x y:Value} {b:Bool} (h:A_ P n t x y=some b):∃d,P.underlying t=some d:=by
 cases n with
 |zero=>cases h
 |succ n=>
  unfold A_ at h
  split at h<;>first|exact⟨_,by assumption⟩|cases h
theorem Hg {n:Nat} {t:TypeId} {d:TypeDesc} {x y:Value} {b:Bool} (hd:P.underlying t=some d) (h:A_ P n t x y=some b):Instr.sameNow d x y=some b\/Instr.sameNow d x y=none:=by
 cases n with
 |zero=>cases h
 |succ n=>
  unfold A_ at h
  split at h
  ·rename_i hu
   rw [hd] at hu;cases hu
   cases h
   exact .inl rfl
  ·rename_i k0 k a k' c hu
   rw [hd] at hu;cases hu
   cases hk:IC k k' with
   |false=>rw [hk] at h;cases h
   |true=>
    rw [hk] at h
    have:=Jt hk
    subst this
    cases h
    exact .inl (by simp [Instr.sameNow])
  ·rename_i hu
   rw [hd] at hu;cases hu
   cases h
   exact .inl (by simp [Instr.sameNow,strEq,beq_toListBytes])
  ·rename_i hu
   rw [hd] at hu;cases hu
   exact .inr rfl
  ·rename_i hu
   rw [hd] at hu;cases hu
   exact .inr rfl
  ·cases h
theorem Qq {kt:TypeId} {d:TypeDesc} {key:Value} (hd:P.underlying kt=some d):∀(es:List MapEntry) (i:Nat) (res:Option (Nat×Value)),rX P kt key es i=some res->Instr.findNow d key es i=some res\/Instr.findNow d key es i=none:=by
 intro es
 induction es with
 |nil=>intro i res h;simp only [rX,Option.some.injEq] at h;subst h;exact .inl rfl
 |cons e es ih=>
  intro i res h
  simp only [rX] at h
  split at h
  ·rename_i he
   cases h
   rcases Hg hd he with h1|h1
   ·exact .inl (by simp [Instr.findNow,h1])
   ·exact .inr (by simp [Instr.findNow,h1])
  ·rename_i he
   rcases Hg hd he with h1|h1
   ·rcases ih _ _ h with h2|h2
    ·exact .inl (by simp [Instr.findNow,h1,h2])
    ·exact .inr (by simp [Instr.findNow,h1,h2])
   ·exact .inr (by simp [Instr.findNow,h1])
  ·cases h
theorem Pz {kt:TypeId} {key:Value} {w:World}:∀(es:List MapEntry) (i:Nat) (res:Option (Nat×Value)),rX P kt key es i=some res->(Instr.findAsking kt key es i).run P w= .ok res w:=by
 intro es
 induction es with
 |nil=>intro i res h;simp only [rX,Option.some.injEq] at h;subst h;rfl
 |cons e es ih=>
  intro i res h
  simp only [rX] at h
  split at h
  ·rename_i he
   cases h
   simp [Instr.findAsking,Op.equal,Op.maxDepth,Tz 16 kt _ _ _ 10000 w he (by omega)]
  ·rename_i he
   simp [Instr.findAsking,Op.equal,Op.maxDepth,Tz 16 kt _ _ _ 10000 w he (by omega),ih _ _ h]
  ·cases h
theorem wS {kt:TypeId} {d:TypeDesc} {key:Value} {es:List MapEntry} {res:Option (Nat×Value)} {w:World} (hd:P.underlying kt=some d) (h:rX P kt key es 0=some res):(Instr.findKey kt key es).run P w= .ok res w:=by
 rcases Qq hd es 0 res h with h1|h1
 ·simp [Instr.findKey,run_underlying hd,h1]
 ·simp [Instr.findKey,run_underlying hd,h1,Pz es 0 res h]
theorem vg:∀(n:Nat) (t:TypeId) (x y:Value) (b:Bool) (m:Nat) (em:Bool) (w:World),A_ P n t x y=some b->n<=m->(Instr.checkKey em m t x).run P w= .ok () w:=by
 intro n
 induction n with
 |zero=>intro t x y b m em w h;cases h
 |succ n ih=>
  intro t x y b m em w h hm
  obtain⟨m,rfl⟩:∃m',m=m'+1:=⟨m - 1,by omega⟩
  unfold A_ at h
  split at h
  ·rename_i hu;simp [Instr.checkKey,run_underlying hu]
  ·rename_i hu;simp [Instr.checkKey,run_underlying hu]
  ·rename_i hu;simp [Instr.checkKey,run_underlying hu]
  ·rename_i fs xs ys hu
   cases hp:P.stoodInHeld t with
   |true=>rw [hp] at h;cases h
   |false=>
    rw [hp] at h
    simp only [cond_false] at h
    simp only [Instr.checkKey,Sem.run_bind,run_underlying hu,Result.andThen_ok]
    rw [<- Array.forIn_toList]
    generalize fs.toList=l at h
    clear hu
    induction l generalizing b with
    |nil=>simp
    |cons fd l ihl=>
     simp only [Zv] at h
     cases hnm:(fd.name=="_") with
     |true=>rw [hnm] at h;cases h
     |false=>
      rw [hnm] at h
      simp only [cond_false] at h
      split at h
      case h_2=>cases h
      rename_i d size hd hs
      split at h
      case h_2=>cases h
      rename_i u v hu hv
      split at h
      case h_2=>cases h
      rename_i r hr
      obtain⟨r',hr',rfl⟩:=FU h
      have hne:fd.name≠"_":=by simpa using hnm
      have:=ihl _ hr'
      simp only [List.forIn_cons,hne,ne_eq,not_false_eq_true,if_true,Sem.run_bind,zf hd hs hu,Result.andThen_ok,ih _ _ _ _ m em w hr (by omega),Sem.run_pure]
      exact this
  ·rename_i n' e xs ys hu
   split at h
   case h_2=>cases h
   rename_i de size hd hs
   simp only [Instr.checkKey,Sem.run_bind,run_underlying hu,Result.andThen_ok]
   simp only [Std.Legacy.Range.forIn_eq_forIn_range',Std.Legacy.Range.size,Nat.sub_zero,Nat.add_one_sub_one,Nat.div_one]
   generalize 0=j at h ⊢
   clear hu
   induction n' generalizing b j with
   |zero=>simp
   |succ n' ihn=>
    simp only [aaR] at h
    split at h
    case h_2=>cases h
    rename_i u v hu hv
    split at h
    case h_2=>cases h
    rename_i r hr
    obtain⟨r',hr',rfl⟩:=FU h
    have:=ihn _ _ hr'
    simp only [List.range'_succ,List.forIn_cons,Sem.run_bind,iU hs,Result.andThen_ok,zf hd hs hu,ih _ _ _ _ m em w hr (by omega),Sem.run_pure]
    exact this
  ·cases h
theorem He {v:Value} (h:ZN v=true) (n:Nat):Instr.sameBits n v v=true:=by
 cases v<;>first|(cases h;done)|simp [Instr.sameBits,MapKept.bytes_beq]
theorem Fp {v:Value} (h:Rh v=true) (n:Nat):Instr.sameBits (n+1) v v=true:=by
 unfold Rh at h
 split at h
 ·rename_i cs
  simp only [Instr.sameBits,beq_self_eq_true,Bool.true_and,List.all_eq_true]
  simp only [List.all_eq_true] at h
  rintro⟨x,y⟩ hxy
  have:x=y:=by
   obtain⟨i,hi⟩:=List.getElem?_of_mem hxy
   simp [List.getElem?_zip_eq_some] at hi
   have:=hi.1.symm.trans hi.2
   simpa using this
  subst this
  exact He (h x (List.of_mem_zip hxy).1) n
 ·exact He h _
theorem xB {kt:TypeId} {key:Value} (h:kZ P kt key=true):Rh key=true/\∃d b,P.underlying kt=some d/\A_ P 16 kt key key=some b:=by
 simp only [kZ,Bool.and_eq_true,Option.isSome_iff_exists] at h
 obtain⟨h1,b,hb⟩:=h
 obtain⟨d,hd⟩:=abo hb
 exact⟨h1,d,b,hd,hb⟩
theorem Jr {k:Kind} {v:Value} {φ:k.T->Prop} (h:k.dec v φ):∃x,v=k.enc x/\φ x:=by
 cases k<;>cases v<;>first
  |exact h.elim
  |exact⟨_,rfl,h⟩
  |skip
 case int.int k k' n=>
  simp only [Kind.dec] at h
  cases hb:IC k k' with
  |false=>rw [hb] at h;exact h.elim
  |true=>
   rw [hb] at h
   have:=Jt hb
   subst this
   exact⟨n,rfl,h⟩
theorem wV {t:TypeId} {z:Value} {w:World} (h:Bd P t=some z):(zeroValue t).run P w= .ok z w:=by
 unfold Bd at h
 split at h
 ·rename_i i hi;simp [zeroValue,run_typeInfo hi,h]
 ·cases h
theorem VF {t kt et:TypeId} {k:Kind} {r:Option Nat} {key zero:Value} {w:World} {K:k.T->Prop} (ht:P.underlying t=some (.map kt et)) (hz:Bd P et=some zero) (h:sH P kt k r key zero w K):
  ∃x,(Instr.lookup t (.map r) key false).run P w= .ok (k.enc x) w/\K x:=by
 obtain⟨hk,h⟩:=h
 obtain⟨_,d,b',hd,hb'⟩:=xB hk
 have hck:∀em,(Instr.checkKey em 10000 kt key).run P w= .ok () w:=fun em=>vg 16 kt key key b' 10000 em w hb' (by omega)
 rcases h with ⟨rfl,h⟩|⟨b,es,clock,rfl,hb,res,hres,h⟩
 ·obtain⟨x,hx,h⟩:=Jr h
  refine⟨x,?_,h⟩
  have hf:(Instr.findKey kt key []).run P w= .ok none w:=wS hd rfl
  simp [Instr.lookup,run_underlying ht,hck,hf,wV hz,hx]
 ·obtain⟨x,hx,h⟩:=Jr h
  refine⟨x,?_,h⟩
  have hf:=wS (w:=w) hd hres
  cases res with
  |none=>simp [Instr.lookup,run_underlying ht,MapKept.run_getObj_map hb,hck,hf,wV hz,<- hx]
  |some p=>
   obtain⟨i,v⟩:=p
   simp [Instr.lookup,run_underlying ht,MapKept.run_getObj_map hb,hck,hf,<- hx]
theorem LX {t kt et:TypeId} {r:Option Nat} {key zero:Value} {w:World} {K:Value->Bool->Prop} (ht:P.underlying t=some (.map kt et)) (hz:Bd P et=some zero) (h:Ar P kt r key zero w K) (ok:Bool):
  ∃v b,(Instr.lookup t (.map r) key ok).run P w= .ok (if ok=true then .tuple #[v,.bool b] else v) w/\K v b:=by
 obtain⟨hk,h⟩:=h
 obtain⟨_,d,b',hd,hb'⟩:=xB hk
 have hck:∀em,(Instr.checkKey em 10000 kt key).run P w= .ok () w:=fun em=>vg 16 kt key key b' 10000 em w hb' (by omega)
 rcases h with ⟨rfl,h⟩|⟨b,es,clock,rfl,hb,res,hres,h⟩
 ·refine⟨_,_,?_,h⟩
  have hf:(Instr.findKey kt key []).run P w= .ok none w:=wS hd rfl
  simp [Instr.lookup,run_underlying ht,hck,hf,wV hz]
 ·have hf:=wS (w:=w) hd hres
  cases res with
  |none=>
   refine⟨_,_,?_,h⟩
   simp [Instr.lookup,run_underlying ht,MapKept.run_getObj_map hb,hck,hf,wV hz]
  |some p=>
   obtain⟨i,v⟩:=p
   refine⟨_,_,?_,h⟩
   simp [Instr.lookup,run_underlying ht,MapKept.run_getObj_map hb,hck,hf]
theorem Xa {t kt et:TypeId} {r:Option Nat} {key val:Value} {w:World} {K:World->Prop} (ht:P.underlying t=some (.map kt et)) (h:wJ P kt r key val w K):
  ∃w',(Instr.mapUpdate t (.map r) key val).run P w= .ok () w'/\K w':=by
 obtain⟨hk,b,es,clock,rfl,hb,res,hres,h⟩:=h
 obtain⟨hp,d,b',hd,hb'⟩:=xB hk
 have hck:∀em,(Instr.checkKey em 10000 kt key).run P w= .ok () w:=fun em=>vg 16 kt key key b' 10000 em w hb' (by omega)
 have hf:=wS (w:=w) hd hres
 cases res with
 |none=>exact⟨_,by simp [Instr.mapUpdate,run_underlying ht,MapKept.run_getObj_map hb,hck,hf,MapKept.run_setObj_map _ hb];rfl,h⟩
 |some p=>
  obtain⟨i,v⟩:=p
  obtain⟨⟨e,he,hke⟩,h⟩:=h
  have hst:(Instr.keyThatStays e.key key).run P w= .ok key w:=by
   rw [hke];simp [Instr.keyThatStays,Fp hp]
  exact⟨_,by simp [Instr.mapUpdate,run_underlying ht,MapKept.run_getObj_map hb,hck,hf,he,hst,MapKept.run_setObj_map _ hb];rfl,h⟩
theorem Wi {t kt et:TypeId} {r:Option Nat} {key zero:Value} {w:World} {K:Value->Int->World->Prop} (ht:P.underlying t=some (.map kt et)) (hz:Bd P et=some zero) (h:Ny P kt r key zero w K):
  ∃v n w',(Instr.mapEntry t (.map r) key).run P w= .ok (.tuple #[v,.int .i64 n]) w'/\K v n w':=by
 obtain⟨hk,b,es,clock,rfl,hb,res,hres,h⟩:=h
 obtain⟨hp,d,b',hd,hb'⟩:=xB hk
 have hck:∀em,(Instr.checkKey em 10000 kt key).run P w= .ok () w:=fun em=>vg 16 kt key key b' 10000 em w hb' (by omega)
 have hf:=wS (w:=w) hd hres
 cases res with
 |none=>exact⟨_,_,_,by simp [Instr.mapEntry,run_underlying ht,MapKept.run_getObj_map hb,hck,hf,wV hz,MapKept.run_setObj_map _ hb,goInt];rfl,h⟩
 |some p=>
  obtain⟨i,v⟩:=p
  obtain⟨e,he,hke,h⟩:=h
  have hst:(Instr.keyThatStays e.key key).run P w= .ok key w:=by
   rw [hke];simp [Instr.keyThatStays,Fp hp]
  exact⟨_,_,_,by simp [Instr.mapEntry,run_underlying ht,MapKept.run_getObj_map hb,hck,hf,he,hst,MapKept.run_setObj_map _ hb,goInt];rfl,h⟩
theorem YA {t:TypeId} {r:Option Nat} {k:IntKind} {n:Int} {val:Value} {w:World} {K:World->Prop} (h:U3 r n val w K):
  ∃w',(Instr.entryStore t (.map r) (.int k n) val).run P w= .ok () w'/\K w':=by
 obtain⟨b,es,clock,i,rfl,hb,hi,h⟩:=h
 exact⟨_,by simp [Instr.entryStore,MapKept.run_getObj_map hb,asInt,asIntOf,hi,MapKept.run_setObj_map _ hb];rfl,h⟩
theorem VH {t kt et t' ty:TypeId} {r:Option Nat} {key:Value} {w:World} {K:World->Prop} (ht:P.underlying t=some (.map kt et)) (h:Dl P kt r key w K):
  ∃w',(Builtin.delete_ ⟨[t,t']⟩ ty ⟨[.map r,key]⟩).run P w= .ok (.tuple #[]) w'/\K w':=by
 obtain⟨hk,h⟩:=h
 obtain⟨_,d,b',hd,hb'⟩:=xB hk
 have hck:∀em,(Instr.checkKey em 10000 kt key).run P w= .ok () w:=fun em=>vg 16 kt key key b' 10000 em w hb' (by omega)
 rcases h with ⟨rfl,h⟩|⟨b,es,clock,rfl,hb,res,hres,h⟩
 ·exact⟨_,by simp [Builtin.delete_,run_underlying ht,hck],h⟩
 ·have hf:=wS (w:=w) hd hres
  cases res with
  |none=>exact⟨_,by simp [Builtin.delete_,run_underlying ht,MapKept.run_getObj_map hb,hck,hf,MapKept.run_setObj_map _ hb];rfl,h⟩
  |some p=>
   obtain⟨i,v⟩:=p
   exact⟨_,by simp [Builtin.delete_,run_underlying ht,MapKept.run_getObj_map hb,hck,hf,MapKept.run_setObj_map _ hb];rfl,h⟩
theorem TM {op:BinOp} {t:TypeId} {x y:Value} {φ:Value->Prop} (a b:Operand) {w:World} (h:ED P op t x y φ):
  ∃v,((do eqGuard op t a b x y;binOp op t x y):Sem Value).run P w= .ok v w/\φ v:=by
 unfold ED at h
 split at h
 ·rename_i k n
  have hg:(eqGuard op t a b (.int k n) y).run P w= .ok () w:=by cases op<;>cases y<;>simp [eqGuard]
  simp only [Sem.run_bind,hg,Result.andThen_ok]
  cases y with
  |int k' m=>
   by_cases h1:op= .shl
   ·subst h1
    simp only [Ii] at h
    refine⟨_,?_,h.2⟩
    have:¬m<0:=Int.not_lt.2 h.1
    simp [binOp,Op.shift,this,Xn]
   ·by_cases h2:op= .shr
    ·subst h2
     simp only [Ii] at h
     refine⟨_,?_,h.2⟩
     have:¬m<0:=Int.not_lt.2 h.1
     simp [binOp,Op.shift,this,jU]
    ·have h':cond (IC k k') (Ih op k n m φ) False:=by cases op<;>first|exact h|exact absurd rfl h1|exact absurd rfl h2
     cases hk:IC k k' with
     |false=>rw [hk] at h';exact h'.elim
     |true=>
      rw [hk] at h'
      have:=Jt hk
      subst this
      exact Xh ⟨h1,h2⟩ h'
  |_=>cases op<;>exact h.elim
 ·rename_i s
  have hg:(eqGuard op t a b (.string s) y).run P w= .ok () w:=by cases op<;>cases y<;>simp [eqGuard]
  simp only [Sem.run_bind,hg,Result.andThen_ok]
  cases y with
  |string s'=>
   have h:H8 op s s' φ:=by cases op<;>exact h
   exact Wu h
  |_=>cases op<;>exact h.elim
 ·rename_i xs
  split at h
  case h_2=>exact h.elim
  rename_i s ys ho
  cases hg:P.eqGuardType P.depth t with
  |true=>rw [hg] at h;exact h.elim
  |false=>
   rw [hg] at h
   simp only [cond_false] at h
   split at h
   case h_2=>exact h.elim
   rename_i r hr
   have he:=Tz 16 t _ _ r 10000 w hr (by omega)
   refine⟨_,?_,h⟩
   simp only [Sem.run_bind,run_eqGuard_agg w op t a b xs ys hg,Result.andThen_ok]
   cases op<;>simp only [ET,Option.some.injEq] at ho<;>first|(cases ho;done)|skip
   ·subst ho
    rw [run_eql_struct,he];rfl
   ·subst ho
    rw [run_neq_struct,he];rfl
 ·split at h
  ·rename_i ho hd
   have:op= .eql:=by cases op<;>first|rfl|(simp [ET] at ho)
   subst this
   obtain⟨v,hr,hφ⟩:=Qw (w:=w) hd h
   exact⟨_,by simp [LG h,(Lu h t).1,hr],hφ⟩
  ·rename_i ho hd
   have:op= .neq:=by cases op<;>first|rfl|(simp [ET] at ho)
   subst this
   obtain⟨v,hr,hφ⟩:=Qw (w:=w) hd h
   exact⟨_,by simp [LG h,(Lu h t).2,hr],hφ⟩
  ·exact h.elim
theorem TU {op:UnOp} {x:Value} {φ:Value->Prop} {w:World} (h:IQ op x φ):∃v,(Op.unary op x).run P w= .ok v w/\φ v:=by
 unfold IQ at h
 split at h
 ·exact⟨_,by simp [Op.unary,Op.intArith],h⟩
 ·exact⟨_,by simp [Op.unary],h⟩
 ·exact⟨_,by simp only [Op.unary];rfl,h⟩
 ·exact h.elim
theorem yU {ρ:Operand->Value} {x:Option Operand} {dflt:Int} {φ:Int->Prop} (h:xC ρ x dflt φ):
  (x=none/\φ dflt)\/∃o k n,x=some o/\ρ o= .int k n/\φ n:=by
 unfold xC at h
 split at h
 ·exact .inl ⟨rfl,h⟩
 ·rename_i o
  split at h
  ·rename_i k n hv
   exact .inr ⟨o,k,n,rfl,hv,h⟩
  ·exact h.elim
theorem jA {k:IntKind} {i:Int} {y:Nat} {c:BoundsCode} {w:World} (h0:0<=i) (h1:i<=(y:Int)):
  (Instr.sliceBound (.int k i) y c).run P w= .ok i.toNat w:=by
 simp [Instr.sliceBound,asIntOf,h0,h1]
theorem Ru {isS:Bool} {len cap:Nat} {ρ:Operand->Value} {lo hi:Option Operand} {φ:Int->Int->Prop} {w:World} (hlc:isS=true\/len=cap)
  (h:xC ρ lo 0 fun l=>xC ρ hi (len:Int) fun h=>φ l h) (hb:∀l h,φ l h->0<=l/\l<=h/\h<=(cap:Int)):
  ∃l h,(Instr.sliceBounds isS len cap (lo.map ρ) (hi.map ρ) none).run P w= .ok (l.toNat,h.toNat,cap) w/\φ l h:=by
 rcases yU h with ⟨e1,h1⟩|⟨o,k,l,e1,ho,h1⟩
 ·subst e1
  rcases yU h1 with ⟨e2,h2⟩|⟨o',k',h',e2,ho',h2⟩
  ·subst e2
   exact⟨_,_,by simp [Instr.sliceBounds],h2⟩
  ·subst e2
   obtain⟨a1,a2,a3⟩:=hb _ _ h2
   exact⟨_,_,by simp [Instr.sliceBounds,ho',jA (Int.le_trans a1 a2) a3],h2⟩
 ·subst e1
  rcases yU h1 with ⟨e2,h2⟩|⟨o',k',h',e2,ho',h2⟩
  ·subst e2
   obtain⟨a1,a2,a3⟩:=hb _ _ h2
   exact⟨_,_,by simp [Instr.sliceBounds,ho,jA a1 a2],h2⟩
  ·subst e2
   obtain⟨a1,a2,a3⟩:=hb _ _ h2
   have a4:l<=((h'.toNat:Nat):Int):=by omega
   exact⟨_,_,by simp [Instr.sliceBounds,ho,ho',jA (Int.le_trans a1 a2) a3,jA a1 a4],h2⟩
theorem aa7 {isS:Bool} {len cap:Nat} {ρ:Operand->Value} {lo:Option Operand} {oh om:Operand} {φ:Int->Int->Int->Prop} {w:World}
  (h:xC ρ lo 0 fun l=>xC ρ (some oh) 0 fun h=>xC ρ (some om) 0 fun m=>φ l h m) (hb:∀l h m,φ l h m->0<=l/\l<=h/\h<=m/\m<=(cap:Int)):
  ∃l h m,(Instr.sliceBounds isS len cap (lo.map ρ) (some (ρ oh)) (some (ρ om))).run P w= .ok (l.toNat,h.toNat,m.toNat) w/\φ l h m:=by
 have key:∀l,(xC ρ (some oh) 0 fun h=>xC ρ (some om) 0 fun m=>φ l h m)->∃kh h km m,ρ oh= .int kh h/\ρ om= .int km m/\φ l h m:=by
  intro l hh
  rcases yU hh with ⟨e2,_⟩|⟨o',k',h',e2,ho',h2⟩
  ·cases e2
  ·cases e2
   rcases yU h2 with ⟨e3,_⟩|⟨o'',k'',h'',e3,ho'',h3⟩
   ·cases e3
   ·cases e3
    exact⟨_,_,_,_,ho',ho'',h3⟩
 rcases yU h with ⟨e1,h1⟩|⟨o,k,l,e1,ho,h1⟩
 ·subst e1
  obtain⟨kh,h',km,m,ho,hm,h2⟩:=key _ h1
  obtain⟨a1,a2,a3,a4⟩:=hb _ _ _ h2
  have b1:(0:Int)<=m:=by omega
  have b3:h'<=((m.toNat:Nat):Int):=by omega
  exact⟨_,_,_,by simp [Instr.sliceBounds,ho,hm,jA b1 a4,jA a2 b3],h2⟩
 ·subst e1
  obtain⟨kh,h',km,m,ho',hm,h2⟩:=key _ h1
  obtain⟨a1,a2,a3,a4⟩:=hb _ _ _ h2
  have b1:(0:Int)<=m:=by omega
  have b2:(0:Int)<=h':=by omega
  have b3:h'<=((m.toNat:Nat):Int):=by omega
  have b4:l<=((h'.toNat:Nat):Int):=by omega
  exact⟨_,_,_,by simp [Instr.sliceBounds,ho,ho',hm,jA b1 a4,jA b2 b3,jA a1 b4],h2⟩
theorem RG {t:TypeId} {x:Value} {ρ:Operand->Value} {lo hi mx:Option Operand} {φ:Value->Prop} {w:World} (h:DU P t x ρ lo hi mx φ):
  ∃v,(Instr.sliceAt t x (lo.map ρ) (hi.map ρ) (mx.map ρ)).run P w= .ok v w/\φ v:=by
 unfold DU at h
 split at h
 ·rename_i s ht
  split at h
  ·obtain⟨l,h',hr,h0⟩:=Ru (P:=P) (isS:=false) (len:=s.size) (cap:=s.size) (w:=w) (.inr rfl) h (fun l h' hh=>⟨hh.1,hh.2.1,hh.2.2.1⟩)
   exact⟨_,by simp [Instr.sliceAt,Instr.slice,run_underlying ht,hr],h0.2.2.2⟩
  ·exact h.elim
 ·rename_i e a n c ht
  split at h
  ·rename_i size hs
   split at h
   ·obtain⟨l,h',hr,h0⟩:=Ru (P:=P) (isS:=true) (len:=n) (cap:=c) (w:=w) (.inl rfl) h (fun l h' hh=>⟨hh.1,hh.2.1,hh.2.2.1⟩)
    exact⟨_,by simp [Instr.sliceAt,Instr.slice,run_underlying ht,hr,iU hs,b_.v,Dh],h0.2.2.2⟩
   ·rename_i m
    split at h
    ·rename_i hi'
     obtain⟨l,h',m',hr,h0⟩:=aa7 (P:=P) (isS:=true) (len:=n) (cap:=c) (w:=w) h (fun l h' m' hh=>⟨hh.1,hh.2.1,hh.2.2.1,hh.2.2.2.1⟩)
     exact⟨_,by simp [Instr.sliceAt,Instr.slice,run_underlying ht,hr,iU hs,b_.v,Dh],h0.2.2.2.2⟩
    ·exact h.elim
  ·exact h.elim
 ·rename_i n e a ht
  split at h
  ·rename_i size hs
   split at h
   ·obtain⟨l,h',hr,h0⟩:=Ru (P:=P) (isS:=false) (len:=n) (cap:=n) (w:=w) (.inr rfl) h (fun l h' hh=>⟨hh.1,hh.2.1,hh.2.2.1⟩)
    exact⟨_,by simp [Instr.sliceAt,Instr.sureAddr,run_underlying ht,hr,iU hs,b_.v],h0.2.2.2⟩
   ·exact h.elim
  ·exact h.elim
 ·exact h.elim
end
end Gp
end
