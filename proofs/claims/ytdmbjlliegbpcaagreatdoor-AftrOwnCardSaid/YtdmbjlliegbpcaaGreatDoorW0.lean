import Derived.RangeFuncLeaves
import Derived.OrdersIn
import Derived.RangeFuncSeq
import Derived.Maps.RangeRun
import Derived.Laws.Append
import Derived.Laws.Slices
import Derived.Laws.MakeOwn
import Derived.Laws.CopyOwn
import Derived.Laws.BytesString
import Derived.Laws.BytesArg
import Derived.Laws.StructEq
import Derived.MapKept
import Derived.WideKeyRuns
import Derived.ChangeKeysEq
abbrev θ:=Go.World
open List (map_map)
open Nat (ble_eq mod_lt)
open Bool (and_eq_true false_eq_true)
section
namespace Gp
open Go
abbrev b_:=θ->Prop
abbrev fO:=Option Addr
theorem d_{a:Type}:(∀(b:a) (c:List a),(b::c)[0]? =some b)/\∀(b:a) (c:List a) (d:Nat),(b::c)[d+1]? =c[d]?:=⟨λ_ _=>rfl,λ_ _ _=>rfl⟩
inductive Kind where
 |int (k:IntKind)|bool|str|ptr|slice|map|any
abbrev ν:Kind:= .int .i64
structure fU where
 a:fO
 len:Nat
 cap:Nat
@[reducible] def Kind.T:Kind->Type
 | .int _=>Int
 | .bool=>Bool
 | .str=>ByteArray
 | .ptr=>fO
 | .slice=>fU
 | .map=>Option Nat
 | .any=>Value
def Kind.enc:(k:Kind)->k.T->Value
 | .int k,n=> .int k n
 | .bool,b=> .bool b
 | .str,s=> .string s
 | .ptr,a=> .pointer a
 | .slice,s=> .slice s.a s.len s.cap
 | .map,r=> .map r
 | .any,v=>v
inductive Shape where
 |one (k:Kind)
 |agg (ks:List Kind)
def kindOf:TypeDesc->Option Kind
 | .bool=>some .bool
 | .int k=>some (.int k)
 | .string=>some .str
 | .pointer _=>some .ptr
 | .slice _=>some .slice
 | .map _ _=>some .map
 | .func _ _ _=>some .any
 | .interface _=>some .any
 |_=>none
def aiv:List (Option (List Kind))->Option (List Kind)
 |[]=>some []
 |x::r=>match x,aiv r with
  |some a,some b=>some (a++b)
  |_,_=>none
def aiP:Nat->List Kind->List Kind
 |0,_=>[]
 |n+1,ks=>ks++aiP n ks
def Iw (P:Program):Nat->TypeId->Option (List Kind)
 |0,_=>none
 |n+1,t=>match P.underlying t with
  |some (.struct fs)=>aiv (fs.toList.map λf=>Iw P n f.type)
  |some (.array len e)=>match Iw P n e with
   |some ks=>some (aiP len ks)
   |none=>none
  |some d=>match kindOf d with
   |some k=>some [k]
   |none=>none
  |none=>none
def GR:TypeDesc->Bool
 | .struct _=>true
 | .array _ _=>true
 |_=>false
def shapeOf (P:Program) (t:TypeId):Option Shape:=
 match P.underlying t with
 |some d=>cond (GR d)
  (match Iw P 20 t with
   |some ks=>some (.agg ks)
   |none=>none)
  (match kindOf d with
   |some k=>some (.one k)
   |none=>none)
 |none=>none
def Z_ (P:Program):List TypeId->Option (List Shape)
 |[]=>some []
 |t::r=>match shapeOf P t,Z_ P r with
  |some a,some b=>some (a::b)
  |_,_=>none
def O4 (P:Program) (t:TypeId):Option (List Shape):=
 match P.underlying t with
 |some (.tuple ts)=>Z_ P ts.toList
 |_=>match shapeOf P t with
  |some s=>some [s]
  |none=>none
def ahD:(ks:List Kind)->(List Value->Prop)->Prop
 |[],φ=>φ []
 |k::ks,φ=>∃x:k.T,ahD ks λvs=>φ (k.enc x::vs)
def Shape.ex:Shape->(Value->Prop)->Prop
 | .one k,φ=>∃x:k.T,φ (k.enc x)
 | .agg ks,φ=>ahD ks λvs=>φ (.agg ⟨vs⟩)
def Gw:List Shape->(List Value->Prop)->Prop
 |[],φ=>φ []
 |s::r,φ=>s.ex λv=>Gw r λvs=>φ (v::vs)
def Yr:List Value->Value
 |[v]=>v
 |vs=> .tuple ⟨vs⟩
def iL:Value->Bool
 | .agg _=>false
 | .tuple _=>false
 |_=>true
def Ld (k:Kind) (w:θ) (a:Addr) (K:k.T->Prop):Prop:=∃x:k.T,w.cell? a=some (k.enc x)/\K x
def LdN:List Kind->θ->Addr->Nat->(List Value->Prop)->Prop
 |[],_,_,_,φ=>φ []
 |k::ks,w,a,i,φ=>Ld k w (a.add i) λx=>LdN ks w a (i+1) λvs=>φ (k.enc x::vs)
def Shape.ld:Shape->θ->Addr->(Value->Prop)->Prop
 | .one k,w,a,φ=>Ld k w a λx=>φ (k.enc x)
 | .agg ks,w,a,φ=>LdN ks w a 0 λvs=>φ (.agg ⟨vs⟩)
def Shape.cells:Shape->Nat
 | .one _=>1
 | .agg ks=>ks.length
def St (w:θ) (a:Addr) (v:Value) (K:b_):Prop:=iL v=true/\(w.cell? a).isSome=true/\w.frozen? a=false/\K (w.setCell a v)
def iw:List Value->θ->Addr->Nat->(b_)->Prop
 |[],w,_,_,K=>K w
 |v::vs,w,a,i,K=>St w (a.add i) v λw'=>iw vs w' a (i+1) K
@[reducible] def abk (w:θ):Value:= .pointer (some ⟨w.heap.size,0,none⟩)
def gZ (z:List Value):Nat->List Value
 |0=>[]
 |n+1=>z++gZ z n
def jB (P:Program) (t:TypeId):Option Nat:=
 match P.info? t with
 |some i=>some i.size
 |none=>none
def kF (k:IntKind) (a b:Int):Int:=k.wrap ((BitVec.ofInt k.bits a &&& BitVec.ofInt k.bits b).toNat:Int)
def Ql (k:IntKind) (a b:Int):Int:=k.wrap ((BitVec.ofInt k.bits a|||BitVec.ofInt k.bits b).toNat:Int)
def Ue (k:IntKind) (a b:Int):Int:=k.wrap ((BitVec.ofInt k.bits a^^^BitVec.ofInt k.bits b).toNat:Int)
def afy (k:IntKind) (a b:Int):Int:=k.wrap ((BitVec.ofInt k.bits a &&& ~~~(BitVec.ofInt k.bits b)).toNat:Int)
def FU (k:IntKind) (a b:Int):Int:=k.wrap (a * 2^(min b.toNat k.bits))
def jH (k:IntKind) (a b:Int):Int:=a.fdiv (2^(min b.toNat k.bits))
def strEq (a b:ByteArray):Bool:=a.toList==b.toList
def strLt (a b:ByteArray):Bool:=Op.bytesLess a.toList b.toList
def KH:IntKind->IntKind->Bool
 | .i8,.i8| .i16,.i16| .i32,.i32| .i64,.i64| .u8,.u8| .u16,.u16| .u32,.u32| .u64,.u64=>true
 |_,_=>false
def Kind.dec:(k:Kind)->Value->(k.T->Prop)->Prop
 | .int k,.int k' n,φ=>cond (KH k k') (φ n) False
 | .bool,.bool b,φ=>φ b
 | .str,.string s,φ=>φ s
 | .ptr,.pointer a,φ=>φ a
 | .slice,.slice a l c,φ=>φ ⟨a,l,c⟩
 | .map,.map r,φ=>φ r
 | .any,v,φ=>φ v
 |_,_,_=>False
def KJ (op:BinOp) (k:IntKind) (a b:Int) (φ:Value->Prop):Prop:=
 match op with
 | .add=>φ (.int k (k.wrap (a+b)))
 | .sub=>φ (.int k (k.wrap (a - b)))
 | .mul=>φ (.int k (k.wrap (a * b)))
 | .quo=>b≠0/\φ (.int k (k.wrap (a.tdiv b)))
 | .rem=>b≠0/\φ (.int k (a.tmod b))
 | .and=>φ (.int k (kF k a b))
 | .or=>φ (.int k (Ql k a b))
 | .xor=>φ (.int k (Ue k a b))
 | .andNot=>φ (.int k (afy k a b))
 | .eql=>φ (.bool (a==b))
 | .neq=>φ (.bool (a !=b))
 | .lss=>φ (.bool (decide (a<b)))
 | .leq=>φ (.bool (decide (a<=b)))
 | .gtr=>φ (.bool (decide (a>b)))
 | .geq=>φ (.bool (decide (a>=b)))
 |_=>False
def Ls (op:BinOp) (a b:ByteArray) (φ:Value->Prop):Prop:=
 match op with
 | .add=>((a.size+b.size:Nat):Int)<=IntKind.i64.max/\φ (.string (a++b))
 | .eql=>φ (.bool (strEq a b))
 | .neq=>φ (.bool (!strEq a b))
 | .lss=>φ (.bool (strLt a b))
 | .leq=>φ (.bool (strLt a b||strEq a b))
 | .gtr=>φ (.bool !(strLt a b||strEq a b))
 | .geq=>φ (.bool !(strLt a b))
 |_=>False
def ajc:Value->Value->Option Bool
 | .int _ a,.int _ b=>some (a==b)
 | .bool a,.bool b=>some (a==b)
 | .string a,.string b=>some (strEq a b)
 |_,_=>none
def JX (op:BinOp) (x y:Value) (φ:Value->Prop):Prop:=
 match op,x,y with
 | .shl,.int k a,.int _ b=>0<=b/\φ (.int k (FU k a b))
 | .shr,.int k a,.int _ b=>0<=b/\φ (.int k (jH k a b))
 |op,.int k a,.int k' b=>cond (KH k k') (KJ op k a b φ) False
 |op,.string a,.string b=>Ls op a b φ
 |_,_,_=>False
def JH (d:TypeDesc) (x y:Value) (φ:Bool->Prop):Prop:=
 match d,x,y with
 | .bool,.bool a,.bool b=>φ (a==b)
 | .pointer _,.pointer q,.pointer none=>φ q.isNone
 | .slice _,.slice q _ _,.slice none _ _=>φ q.isNone
 | .map _ _,.map q,.map none=>φ q.isNone
 |_,_,_=>False
def VZ (d:TypeDesc) (size off:Nat) (cs:List Value):Option Value:=
 cond (GR d) (some (.agg ⟨(cs.drop off).take size⟩)) cs[off]?
def afz (b:Bool):Option Bool->Option Bool
 |some r=>some (b && r)
 |none=>none
def aeh (P:Program) (f:TypeId->Value->Value->Option Bool) (xs ys:List Value):List Field->Option Bool
 |[]=>some true
 |fd::fs=>cond (fd.name=="_") none (match P.underlying fd.type,jB P fd.type with
  |some d,some size=>match VZ d size fd.offset xs,VZ d size fd.offset ys with
   |some a,some b=>match f fd.type a b with
    |some r=>afz r (aeh P f xs ys fs)
    |none=>none
   |_,_=>none
  |_,_=>none)
def aei (f:Value->Value->Option Bool) (d:TypeDesc) (size:Nat) (xs ys:List Value):Nat->Nat->Option Bool
 |0,_=>some true
 |n+1,i=>match VZ d size (i * size) xs,VZ d size (i * size) ys with
  |some a,some b=>match f a b with
   |some r=>afz r (aei f d size xs ys n (i+1))
   |none=>none
  |_,_=>none
def Fa (P:Program):Nat->TypeId->Value->Value->Option Bool
 |0,_,_,_=>none
 |d+1,t,x,y=>match P.underlying t,x,y with
  |some .bool,.bool a,.bool b=>some (a==b)
  |some (.int _),.int k a,.int k' b=>cond (KH k k') (some (a==b)) none
  |some .string,.string a,.string b=>some (strEq a b)
  |some (.struct fs),.agg xs,.agg ys=>cond (P.stoodInHeld t) none (aeh P (Fa P d) xs.toList ys.toList fs.toList)
  |some (.array n e),.agg xs,.agg ys=>match P.underlying e,jB P e with
   |some de,some size=>aei (Fa P d e) de size xs.toList ys.toList n 0
   |_,_=>none
  |_,_,_=>none
def GU:BinOp->Option Bool
 | .eql=>some true
 | .neq=>some false
 |_=>none
def FY (P:Program) (op:BinOp) (t:TypeId) (x y:Value) (φ:Value->Prop):Prop:=
 match x with
 | .int _ _=>JX op x y φ
 | .string _=>JX op x y φ
 | .agg _=>match GU op,y with
  |some s,.agg _=>cond (P.eqGuardType P.depth t) False (match Fa P 16 t x y with
   |some b=>φ (.bool (cond s b (!b)))
   |none=>False)
  |_,_=>False
 |_=>match GU op,P.underlying t with
  |some true,some d=>JH d x y λb=>φ (.bool b)
  |some false,some d=>JH d x y λb=>φ (.bool !b)
  |_,_=>False
def NJ (op:UnOp) (x:Value) (φ:Value->Prop):Prop:=
 match op,x with
 | .neg,.int k n=>φ (.int k (k.wrap (0 - n)))
 | .not,.bool b=>φ (.bool !b)
 | .xor,.int k n=>φ (.int k (Ue k (if k.signed then -1 else k.max) n))
 |_,_=>False
def qm (a:fO) (m l size:Nat):fO:=if m=l then a else a.map (·.add (l * size))
def kT (s:fU) (size:Nat) (l h:Int) (K:fU->Prop):Prop:=
 0<=l/\l<=h/\h<=(s.cap:Int)/\K ⟨qm s.a s.cap l.toNat size,h.toNat - l.toNat,s.cap - l.toNat⟩
def QK (s:fU) (size:Nat) (l h m:Int) (K:fU->Prop):Prop:=
 0<=l/\l<=h/\h<=m/\m<=(s.cap:Int)/\K ⟨qm s.a m.toNat l.toNat size,h.toNat - l.toNat,m.toNat - l.toNat⟩
def FX (a:Addr) (n size:Nat) (l h:Int) (K:fU->Prop):Prop:=
 0<=l/\l<=h/\h<=(n:Int)/\K ⟨some (if n=l.toNat then a else a.add (l.toNat * size)),h.toNat - l.toNat,n - l.toNat⟩
def ϛ (s:ByteArray) (l h:Int) (K:ByteArray->Prop):Prop:=
 0<=l/\l<=h/\h<=(s.size:Int)/\K (s.extract l.toNat h.toNat)
def iM (s:fU) (size:Nat) (i:Int) (K:Addr->Prop):Prop:=
 ∃a,s.a=some a/\0<=i/\i<(s.len:Int)/\K (a.add (i.toNat * size))
def adA (s:ByteArray) (i:Int) (K:Int->Prop):Prop:=
 ∃b:UInt8,0<=i/\s[i.toNat]? =some b/\K (b.toNat:Int)
def Cells (w:θ) (a:Addr) (vs:List Value):Prop:=∀j,j<vs.length->w.cell? (a.add j)=vs[j]?
def mF (w:θ):fO->Nat->List Value->Prop
 |none,_,vs=>vs=[]
 |some a,n,vs=>vs.length=n/\Cells w a vs
def setCells (w:θ) (a:Addr):List Value->Nat->θ
 |[],_=>w
 |v::vs,i=>setCells (w.setCell (a.add i) v) a vs (i+1)
def QL (w:θ) (a:Addr) (n:Nat):Prop:=∀j,j<n->(w.cell? (a.add j)).isSome=true/\w.frozen? (a.add j)=false
def LK (P:Program) (t:TypeId):Option Nat:=
 match P.info? t with
 |some i=>some i.bytes
 |none=>none
def Vl (e:TypeId) (size bytes:Nat) (z:List Value) (s:fU) (n:Nat) (vs:List Value) (w:θ) (K:fU->b_):Prop:=
 (s.len+n<=s.cap/\(∀a,s.a=some a->QL w (a.add (s.len * size)) vs.length)/\(∀v∈vs,iL v=true)/\
  K ⟨s.a,s.len+n,s.cap⟩ (match s.a with|some a=>setCells w (a.add (s.len * size)) vs 0|none=>w))\/
 (s.cap<s.len+n/\(s.len+n) * bytes<=2^46/\s.len+n<=2^62/\∃old,mF w s.a (s.len * size) old/\
  ∀c,s.len+n<=c->c<2^63->K ⟨some ⟨w.heap.size,0,none⟩,s.len+n,c⟩ (w.drew.alloc (.cells ⟨old++vs++gZ z (c - (s.len+n))⟩ e)))
def lK (e:TypeId) (size bytes:Nat) (z:List Value) (s x:fU) (w:θ) (K:fU->b_):Prop:=
 ∃vs,mF w x.a (x.len * size) vs/\Vl e size bytes z s x.len vs w K
def byteCells (s:ByteArray):List Value:=s.data.toList.map λb=> .int .u8 b.toNat
def ahe (e:TypeId) (size bytes:Nat) (z:List Value) (s:fU) (x:ByteArray) (w:θ) (K:fU->b_):Prop:=
 Vl e size bytes z s x.size (byteCells x) w K
def QE (e:TypeId) (size bytes:Nat) (z:List Value) (s:fU) (n:Int) (w:θ) (K:fU->b_):Prop:=
 0<=n/\n * bytes<=2^46/\n<=2^62/\Vl e size bytes z s n.toNat (gZ z n.toNat) w K
def Qo (z:List Value) (s:fU) (w:θ) (K:b_):Prop:=
 (∀a,s.a=some a->QL w a (s.len * z.length))/\(∀v∈z,iL v=true)/\K (match s.a with|some a=>setCells w a (gZ z s.len) 0|none=>w)
def wL (size:Nat) (d s:fU) (w:θ) (K:Int->b_):Prop:=
 ∃vs,mF w s.a (Nat.min s.len d.len * size) vs/\(∀a,d.a=some a->QL w a vs.length)/\(∀v∈vs,iL v=true)/\
  K (Nat.min s.len d.len:Nat) (match d.a with|some a=>setCells w a vs 0|none=>w)
def Wp (e:TypeId) (_ bytes:Nat) (z:List Value) (n c:Int) (w:θ) (K:fU->b_):Prop:=
 0<=n/\n<=c/\c<=2^62/\(bytes:Int) * c<=2^48/\
  K ⟨some ⟨w.heap.size,0,none⟩,n.toNat,c.toNat⟩ (w.alloc (.cells ⟨gZ z c.toNat⟩ e))
def partOf (d:TypeDesc) (size off:Nat) (cs:List Value) (φ:Value->Prop):Prop:=
 cond (GR d) (φ (.agg ⟨(cs.drop off).take size⟩))
  (match cs[off]? with
   |some v=>φ v
   |none=>False)
def cellsOfV:Value->List Value
 | .agg cs=>cs.toList
 |v=>[v]
def splice (cs:List Value) (off:Nat) (vs:List Value):List Value:=cs.take off++(vs++cs.drop (off+vs.length))
def Gy (place:Nat->Option (Nat×Nat)):List (Nat×Value)->List Value->Option (List Value)
 |[],cs=>some cs
 |(i,v)::r,cs=>match place i with
  |some (off,size)=>cond (Nat.beq (cellsOfV v).length size && Nat.ble (off+size) cs.length) (Gy place r (splice cs off (cellsOfV v))) none
  |none=>none
def Y3:List (Nat×Value)->List Value->Option (List Value)
 |[],cs=>some cs
 |(i,v)::r,cs=>cond (Nat.blt i cs.length) (Y3 r (cs.set i v)) none
def NR:List Value->Prop
 |[]=>True
 |v::r=>iL v=true/\NR r
def adF:Option Shape->Bool
 |some (.one .any)=>true
 |_=>false
def pR (P:Program) (t:TypeId):Option (List Value):=
 match P.info? t with
 |some i=>match i.zero with
  |some z=>some (cellsOfV z)
  |none=>none
 |none=>none
def placesOf (P:Program):List Field->Option (List (Nat×Nat))
 |[]=>some []
 |f::r=>match jB P f.type,placesOf P r with
  |some s,some l=>some ((f.offset,s)::l)
  |_,_=>none
def Gx (P:Program) (fs:Array Field) (i:Nat):Option (Nat×Nat):=
 match fs.toList[i]? with
 |some f=>match jB P f.type with
  |some s=>some (f.offset,s)
  |none=>none
 |none=>none
def ni (P:Program) (f:FuncId):Bool:=
 match P.funcs[f]? with
 |some fn=>fn.body.isSome
 |none=>false
def ahf (P:Program) (f:FuncId) (args:List Value) (w:θ) (K:Value->b_):Prop:=
 ∃v w',(callFunc f ⟨args⟩).run P w= .ok (.value v) w'/\K v w'
def FV (P:Program) (sh:List Shape) (f:FuncId) (args:List Value) (w:θ) (K:Value->b_):Prop:=
 Calls P f ⟨args⟩ w λe w'=>Gw sh λvs=>e= .returned (Yr vs)/\K (Yr vs) w'
def JW (P:Program) (l:Nat) (args:List Value) (w:θ) (K:Bool->b_):Prop:=
 YieldAt Fence.wide 0 P l ⟨args⟩ w λe w'=>∃b:Bool,e= .returned (.bool b)/\K b w'
def jy (P:Program) (sh:List Shape) (v:Value) (args:List Value) (w:θ) (K:Value->b_):Prop:=
 match v with
 | .func (.func f) first cap=>cond (ni P f) (FV P sh f (first.toList++(args++cap.toList)) w K) False
 | .func (.yield l) first _=>JW P l (first.toList++args) w λb w'=>K (.bool b) w'
 |_=>False
def NP (w:θ) (r:Option Nat) (φ:Int->Prop):Prop:=
 match r with
 |none=>φ 0
 |some b=>∃es clock,w.heap[b]? =some (.map es clock)/\φ (es.size:Int)
def Ou (d:TypeDesc) (x:Value) (w:θ) (φ:Int->Prop):Prop:=
 match d,x with
 | .string,.string s=>φ (s.size:Int)
 | .array n _,_=>φ (n:Int)
 | .slice _,.slice _ n _=>φ (n:Int)
 | .map _ _,.map r=>NP w r φ
 |_,_=>False
def EI (mx:Bool):Int->List Value->IntKind->(Value->Prop)->Prop
 |x,[],k,φ=>φ (.int k x)
 |x,.int _ y::r,k,φ=>EI mx (cond mx (if y>x then y else x) (if y<x then y else x)) r k φ
 |_,_::_,_,_=>False
def fU.v (s:fU):Value:= .slice s.a s.len s.cap
def aeM:Value->Bool
 | .int _ _=>true
 | .bool _=>true
 | .string _=>true
 |_=>false
def X_:Value->Bool
 | .agg cs=>cs.toList.all aeM
 |v=>aeM v
def vW (P:Program) (kt:TypeId) (key:Value):List MapEntry->Nat->Option (Option (Nat×Value))
 |[],_=>some none
 |e::es,i=>match Fa P 16 kt key e.key with
  |some true=>some (some (i,e.val))
  |some false=>vW P kt key es (i+1)
  |none=>none
def ny (P:Program) (kt:TypeId) (key:Value):Bool:=X_ key && (Fa P 16 kt key key).isSome
def qG (P:Program) (kt:TypeId) (k:Kind) (r:Option Nat) (key zero:Value) (w:θ) (K:k.T->Prop):Prop:=
 ny P kt key=true/\((r=none/\k.dec zero K)\/∃b es clock,r=some b/\w.heap[b]? =some (.map es clock)/\∃res,vW P kt key es.toList 0=some res/\k.dec (match res with|some (_,v)=>v|none=>zero) K)
def Ik (P:Program) (kt:TypeId) (r:Option Nat) (key zero:Value) (w:θ) (K:Value->Bool->Prop):Prop:=
 ny P kt key=true/\((r=none/\K zero false)\/∃b es clock,r=some b/\w.heap[b]? =some (.map es clock)/\∃res,vW P kt key es.toList 0=some res/\
  match res with|some (_,v)=>K v true|none=>K zero false)
def og (P:Program) (kt:TypeId) (r:Option Nat) (key val:Value) (w:θ) (K:b_):Prop:=
 ny P kt key=true/\∃b es clock,r=some b/\w.heap[b]? =some (.map es clock)/\∃res,vW P kt key es.toList 0=some res/\
  match res with
  |some (i,_)=>(∃e,es[i]? =some e/\e.key=key)/\K (w.putObj b (.map (es.modify i λe=>{e with key:=key,val:=val}) clock))
  |none=>K (w.putObj b (.map (es.push {key:=key,val:=val,born:=clock}) (clock+1)))
def adr (P:Program) (kt:TypeId) (r:Option Nat) (key:Value) (w:θ) (K:b_):Prop:=
 ny P kt key=true/\((r=none/\K w)\/∃b es clock,r=some b/\w.heap[b]? =some (.map es clock)/\∃res,vW P kt key es.toList 0=some res/\
  match res with
  |some (i,_)=>K (w.putObj b (.map (es.eraseIdxIfInBounds i) clock))
  |none=>K (w.putObj b (.map es clock)))
def ads (P:Program) (kt:TypeId) (r:Option Nat) (key zero:Value) (w:θ) (K:Value->Int->b_):Prop:=
 ny P kt key=true/\∃b es clock,r=some b/\w.heap[b]? =some (.map es clock)/\∃res,vW P kt key es.toList 0=some res/\
  match res with
  |some (i,v)=>∃e,es[i]? =some e/\e.key=key/\K v (e.born:Int) (w.putObj b (.map (es.modify i λe=>{e with key:=key}) clock))
  |none=>K zero (clock:Int) (w.putObj b (.map (es.push {key:=key,val:=zero,born:=clock}) (clock+1)))
def ag5 (r:Option Nat) (stamp:Int) (val:Value) (w:θ) (K:b_):Prop:=
 ∃b es clock i,r=some b/\w.heap[b]? =some (.map es clock)/\es.findIdx? (λe=>(e.born:Int)==stamp)=some i/\K (w.putObj b (.map (es.modify i λe=>{e with val:=val}) clock))
def adx (r:Option Nat) (w:θ) (K:Addr->b_):Prop:=
 (r=none/\K ⟨w.heap.size,0,none⟩ (w.alloc (.mapIter none 0 #[] 0)))\/
 ∃b es clock,r=some b/\w.heap[b]? =some (.map es clock)/\K ⟨w.heap.size,0,none⟩ (w.alloc (.mapIter (some b) clock #[] clock))
def ag8 (q:Nat) (w:θ) (Kend:b_) (Kstep:Value->Value->b_):Prop:=
 (∃s sn c,w.heap[q]? =some (.mapIter none s sn c)/\Kend w)\/
 ∃b since seen c0 es clock,w.heap[q]? =some (.mapIter (some b) since seen c0)/\w.heap[b]? =some (.map es clock)/\(∀x∈es.toList,x.born<since)/\since<=c0/\
  ((leftOf es seen).size=0->Kend w)/\
  ∀e∈(leftOf es seen).toList,∀w1,(w1=w\/w1=w.drew)->Kstep e.key e.val (w1.putObj q (.mapIter (some b) since (seen.push e.born) clock))
def adn (q:Nat) (w:θ) (K:Value->Value->Prop):Prop:=
 ∃b since seen es clock e,w.heap[q]? =some (.mapIter (some b) since (Array.push seen e.born) clock)/\w.heap[b]? =some (.map es clock)/\e∈es.toList/\(es.toList.map (·.born)).Nodup/\K e.key e.val
def C_ (P:Program) (t:TypeId):Option Value:=
 match P.info? t with
 |some i=>i.zero
 |none=>none
def oQ (P:Program) (b:Builtin) (ts:List TypeId) (args:List Value) (w:θ) (K:Value->b_):Prop:=
 match b,ts,args with
 | .len,[t],[x]=>match P.underlying t with
  |some d=>Ou d x w λn=>K (.int .i64 n) w
  |none=>False
 | .cap,[t],[.slice _ _ c]=>match P.underlying t with
  |some (.slice _)=>K (.int .i64 (c:Int)) w
  |_=>False
 | .max,_,.int k x::r=>EI true x r k λv=>K v w
 | .min,_,.int k x::r=>EI false x r k λv=>K v w
 | .append,[t,t'],[.slice a l c,x]=>match P.underlying t,P.underlying t' with
  |some (.slice e),some d=>match jB P e,LK P e,pR P e,d,x with
   |some size,some bytes,some z,.slice _,.slice b n m=>lK e size bytes z ⟨a,l,c⟩ ⟨b,n,m⟩ w λs w'=>K s.v w'
   |some size,some bytes,some z,.string,.string s=>ahe e size bytes z ⟨a,l,c⟩ s w λs w'=>K s.v w'
   |some size,some bytes,some z,.int _,.int _ n=>cond (Nat.beq z.length size) (QE e size bytes z ⟨a,l,c⟩ n w λs w'=>K s.v w') False
   |_,_,_,_,_=>False
  |_,_=>False
 | .copy,[t,_],[.slice a l c,.slice b n m]=>match P.underlying t with
  |some (.slice e)=>match jB P e with
   |some size=>wL size ⟨a,l,c⟩ ⟨b,n,m⟩ w λn w'=>K (.int .i64 n) w'
   |none=>False
  |_=>False
 | .clear,[t],[.slice a n c]=>match P.underlying t with
  |some (.slice e)=>match jB P e,pR P e with
   |some size,some z=>cond (Nat.beq z.length size) (Qo z ⟨a,n,c⟩ w λw'=>K (.tuple #[]) w') False
   |_,_=>False
  |_=>False
 | .delete,[t,_],[.map r,key]=>match P.underlying t with
  |some (.map kt _)=>adr P kt r key w λw'=>K (.tuple #[]) w'
  |_=>False
 |_,_,_=>False
def yh (ρ:Operand->Value) (x:Option Operand) (dflt:Int) (φ:Int->Prop):Prop:=
 match x with
 |none=>φ dflt
 |some o=>match ρ o with
  | .int _ n=>φ n
  |_=>False
def Ib (P:Program) (t:TypeId) (x:Value) (ρ:Operand->Value) (lo hi mx:Option Operand) (φ:Value->Prop):Prop:=
 match P.underlying t,x with
 |some .string,.string s=>match mx with
  |none=>yh ρ lo 0 λl=>yh ρ hi (s.size:Int) λh=>ϛ s l h λs'=>φ (.string s')
  |some _=>False
 |some (.slice e),.slice a n c=>match jB P e with
  |some size=>match mx with
   |none=>yh ρ lo 0 λl=>yh ρ hi (n:Int) λh=>kT ⟨a,n,c⟩ size l h λs'=>φ s'.v
   |some m=>match hi with
    |some _=>yh ρ lo 0 λl=>yh ρ hi 0 λh=>yh ρ (some m) 0 λm'=>QK ⟨a,n,c⟩ size l h m' λs'=>φ s'.v
    |none=>False
  |none=>False
 |some (.array n e),.pointer (some a)=>match jB P e with
  |some size=>match mx with
   |none=>yh ρ lo 0 λl=>yh ρ hi (n:Int) λh=>FX a n size l h λs'=>φ s'.v
   |some _=>False
  |none=>False
 |_,_=>False
def Qw (P:Program) (s d:TypeId) (x:Value) (φ:Value->Prop):Prop:=
 match P.underlying s,P.underlying d,x with
 |some _,some (.int k),.int _ n=>φ (.int k (k.wrap n))
 |some _,some .string,.string b=>φ (.string b)
 |_,_,_=>False
def vC (w:θ) (s:fU) (K:ByteArray->Prop):Prop:=
 ∃b:ByteArray,b.size=s.len/\mF w s.a s.len (byteCells b)/\K b
def YA (e:TypeId) (s:ByteArray) (w:θ) (K:fU->b_):Prop:=
 s.size<=2^62/\∀c,s.size<=c->c<2^63->K ⟨some ⟨w.heap.size,0,none⟩,s.size,c⟩ (w.drew.alloc (.cells ⟨byteCells s++gZ [.int .u8 0] (c - s.size)⟩ e (c,c+1)))
def ahj (a:Addr) (w:θ) (K:b_):Prop:=∃T n,w.shape? a.block=some (T,n)/\K (w.freeze ⟨a.block,n,none⟩ 1)
def Xx (P:Program) (t:TypeId) (name:String):Option FuncId:=
 match P.info? t with
 |some i=>match i.methods.find? (·.name==name) with
  |some m=>match m.path.toList,m.func with
   |[],some (f,false)=>some f
   |_,_=>none
  |none=>none
 |none=>none
def Xn:TypeDesc->Bool
 | .pointer _=>true
 |_=>false
def ahg (P:Program) (sh:List Shape) (x:Value) (name:String) (args:List Value) (w:θ) (K:Value->b_):Prop:=
 match x with
 | .iface t v=>match P.underlying t,Xx P t name with
  |some d,some f=>cond (!Xn d && ni P f) (FV P sh f (v::args) w K) False
  |_,_=>False
 |_=>False
def E8 (P:Program) (op:BinOp) (t:TypeId) (x y:Value) (φ:Value->Prop):Prop:=
 match GU op,P.underlying t,x,y with
 |some s,some (.interface _),.nilIface,.nilIface=>φ (.bool s)
 |some s,some (.interface _),.iface _ _,.nilIface=>φ (.bool (!s))
 |_,_,_,_=>False
def AsP (z:Value) (t:TypeId) (x:Value) (ok:Bool) (K:Value->Prop):Prop:=
 match x with
 | .iface t' v=>cond (Nat.beq t' t) (K (cond ok (.tuple ⟨[v,.bool true]⟩) v)) (cond ok (K (.tuple ⟨[z,.bool false]⟩)) False)
 | .nilIface=>cond ok (K (.tuple ⟨[z,.bool false]⟩)) False
 |_=>False
def yg (P:Program) (o:Oper) (ρ:Operand->Value) (w:θ) (K:Value->b_):Prop:=
 match o.op with
 | .move x=>K (ρ x) w
 | .assign x=>K (ρ x) w
 | .pick c a b=>match ρ c with
  | .bool t=>cond t (K (ρ a) w) (K (ρ b) w)
  |_=>False
 | .alloc e=>match pR P e with
  |some z=>K (abk w) (w.alloc (.cells ⟨z⟩ e))
  |none=>False
 | .box e x=>match shapeOf P e with
  |some (.one _)=>iL (ρ x)=true/\K (abk w) (w.alloc (.cells ⟨[ρ x]⟩ e))
  |some (.agg _)=>match ρ x with
   | .agg cs=>K (abk w) (w.alloc (.cells cs e))
   |_=>False
  |none=>False
 | .build t ps=>match pR P t,P.underlying t with
  |some z,some (.struct fs)=>match placesOf P fs.toList with
   |some pl=>match Gy (λi=>pl[i]?) (ps.toList.map λp=>(p.1,ρ p.2)) z with
    |some cs=>K (.agg ⟨cs⟩) w
    |none=>False
   |none=>False
  |some z,some (.array _ e)=>match jB P e with
   |some size=>match Gy (λi=>some (i * size,size)) (ps.toList.map λp=>(p.1,ρ p.2)) z with
    |some cs=>K (.agg ⟨cs⟩) w
    |none=>False
   |none=>False
  |_,_=>False
 | .buildSlice t n ps=>match P.underlying t with
  |some (.slice e)=>match jB P e,pR P e with
   |some size,some z=>cond (Nat.ble (n * size) 4096 && Nat.beq z.length size)
    (cond (adF (shapeOf P e)) (cond (Nat.beq size 1) (NR (ps.toList.map λp=>ρ p.2)/\(match Y3 (ps.toList.map λp=>(p.1,ρ p.2)) (gZ z n) with
     |some cs=>K (.slice (some ⟨w.heap.size,0,none⟩) n n) (w.alloc (.cells ⟨cs⟩ e))
     |none=>False)) False)
     (match Gy (λi=>some (i * size,size)) (ps.toList.map λp=>(p.1,ρ p.2)) (gZ z n) with
     |some cs=>K (.slice (some ⟨w.heap.size,0,none⟩) n n) (w.alloc (.cells ⟨cs⟩ e))
     |none=>False)) False
   |_,_=>False
  |_=>False
 | .load t x=>match ρ x,shapeOf P t,jB P t with
  | .pointer (some a),some sh,some n=>cond (Nat.beq sh.cells n) (sh.ld w a λv=>K v w) False
  |_,_,_=>False
 | .store t x y=>match ρ x,shapeOf P t,jB P t with
  | .pointer (some a),some (.one _),some n=>cond (Nat.beq n 1) (St w a (ρ y) λw'=>K undef w') False
  | .pointer (some a),some (.agg _),some n=>match ρ y with
   | .agg cs=>cond (Nat.beq cs.toList.length n) (iw cs.toList w a 0 λw'=>K undef w') False
   |_=>False
  |_,_,_=>False
 | .nilCheck x=>match ρ x with
  | .pointer q=>∃a,q=some a/\K (.pointer (some a)) w
  |_=>False
 | .binOp op t x y _=>match y with
  | .const .nilIface=>E8 P op t (ρ x) (ρ (.const .nilIface)) λv=>K v w
  |y=>FY P op t (ρ x) (ρ y) λv=>K v w
 | .unOp op _ x=>NJ op (ρ x) λv=>K v w
 | .convert s d x=>match P.underlying s,P.underlying d,ρ x with
  |some (.slice e),some .string,.slice a n c=>match P.underlying e with
   |some (.int .u8)=>vC w ⟨a,n,c⟩ λb=>K (.string b) w
   |_=>False
  |some .string,some (.slice e),.string b=>match P.underlying e with
   |some (.int .u8)=>YA e b w λs' w'=>K s'.v w'
   |_=>False
  |some (.slice _),some (.slice e),.slice (some a) n c=>match P.underlying e,Nat.beq s d with
   |some (.int .u8),true=>ahj a w λw'=>K (.slice (some a) n c) w'
   |_,_=>False
  |_,_,v=>Qw P s d v λv=>K v w
 | .makeFunc fn first cap=>K (.func fn ⟨first.toList.map ρ⟩ ⟨cap.toList.map ρ⟩) w
 | .lookup t x i false=>match P.underlying t,ρ x with
  |some (.map kt et),.map r=>match shapeOf P et,C_ P et with
   |some (.one k),some z=>qG P kt k r (ρ i) z w λx=>K (k.enc x) w
   |some (.agg ks),some z=>Ik P kt r (ρ i) z w λv _=>(Shape.agg ks).ex λv'=>v=v'/\K v' w
   |_,_=>False
  |_,_=>False
 | .lookup t x i true=>match P.underlying t,ρ x with
  |some (.map kt et),.map r=>match shapeOf P et,C_ P et with
   |some sh,some z=>Ik P kt r (ρ i) z w λv b=>sh.ex λv'=>v=v'/\K (.tuple ⟨[v',.bool b]⟩) w
   |_,_=>False
  |_,_=>False
 | .mapUpdate t x i v=>match P.underlying t,ρ x with
  |some (.map kt _),.map r=>og P kt r (ρ i) (ρ v) w λw'=>K undef w'
  |_,_=>False
 | .insert t x i v=>match P.underlying t,ρ x with
  |some (.map kt _),.map r=>og P kt r (ρ i) (ρ v) w λw'=>K undef w'
  |_,_=>False
 | .mapEntry t x i=>match P.underlying t,ρ x with
  |some (.map kt et),.map r=>match C_ P et with
   |some z=>ads P kt r (ρ i) z w λv n w'=>K (.tuple ⟨[v,.int .i64 n]⟩) w'
   |none=>False
  |_,_=>False
 | .entryStore _ x st v=>match ρ x,ρ st with
  | .map r,.int _ n=>ag5 r n (ρ v) w λw'=>K undef w'
  |_,_=>False
 | .makeMap _ none=>K (.map (some w.heap.size)) (w.alloc (.map #[] 0))
 | .makeSlice t l c=>match P.underlying t,ρ l,ρ c with
  |some (.slice e),.int _ n,.int _ m=>match jB P e,LK P e,pR P e with
   |some size,some bytes,some z=>cond (Nat.beq z.length size) (Wp e size bytes z n m w λs w'=>K s.v w') False
   |_,_,_=>False
  |_,_,_=>False
 | .slice t x lo hi mx=>Ib P t (ρ x) ρ lo hi mx λv=>K v w
 | .fieldAddr t x f=>match P.underlying t,ρ x with
  |some (.struct fs),.pointer (some a)=>match Gx P fs f with
   |some (off,size)=>cond (Nat.beq size 0) False (K (.pointer (some (a.add off))) w)
   |none=>False
  |_,_=>False
 | .field t x f=>match P.underlying t,ρ x with
  |some (.struct fs),.agg cs=>match fs.toList[f]? with
   |some fd=>match P.underlying fd.type,jB P fd.type with
    |some d,some size=>partOf d size fd.offset cs.toList λv=>K v w
    |_,_=>False
   |none=>False
  |_,_=>False
 | .indexAddr t x i=>match P.underlying t,ρ x,ρ i with
  |some (.slice e),.slice a n c,.int _ i=>match jB P e with
   |some size=>iM ⟨a,n,c⟩ size i λa'=>K (.pointer (some a')) w
   |none=>False
  |some (.array n e),.pointer (some a),.int _ i=>match jB P e with
   |some size=>0<=i/\i<(n:Int)/\K (.pointer (some (a.add (i.toNat * size)))) w
   |none=>False
  |_,_,_=>False
 | .index t x i=>match P.underlying t,ρ x,ρ i with
  |some .string,.string s,.int _ i=>adA s i λn=>K (.int .u8 n) w
  |some (.array n e),.agg cs,.int _ i=>match P.underlying e,jB P e with
   |some d,some size=>0<=i/\i<(n:Int)/\partOf d size (i.toNat * size) cs.toList λv=>K v w
   |_,_=>False
  |_,_,_=>False
 | .extract t i=>match ρ t with
  | .tuple vs=>match vs.toList[i]? with
   |some v=>match shapeOf P o.type with
    |some (.one k)=>k.dec v λx=>K (k.enc x) w
    |_=>K v w
   |none=>False
  |_=>False
 | .range t x=>match P.underlying t,ρ x with
  |some (.map _ _),.map r=>adx r w λa w'=>K (.pointer (some a)) w'
  |_,_=>False
 | .next x false=>match ρ x with
  | .pointer (some a)=>a=⟨a.block,0,none⟩/\ag8 a.block w (K (.tuple ⟨[.bool false]⟩)) λk v w'=>K (.tuple ⟨[.bool true,k,v]⟩) w'
  |_=>False
 | .entry x=>match ρ x with
  | .pointer (some a)=>a=⟨a.block,0,none⟩/\adn a.block w λk v=>K (.tuple ⟨[k,v]⟩) w
  |_=>False
 | .makeInterface t x=>match P.underlying t with
  |some (.interface _)=>False
  |some _=>K (.iface t (ρ x)) w
  |none=>False
 | .typeAssert x _ t ok=>match P.underlying t,C_ P t with
  |some (.interface _),_=>False
  |some _,some z=>AsP z t (ρ x) ok λv=>K v w
  |_,_=>False
 | .call c=>match c.callee with
  | .value (.func f)=>match O4 P o.type with
   |some sh=>cond (ni P f) (FV P sh f (c.args.toList.map ρ) w K) (ahf P f (c.args.toList.map ρ) w λr w'=>Gw sh λvs=>r=Yr vs/\K (Yr vs) w')
   |none=>False
  | .value x=>match O4 P o.type with
   |some sh=>jy P sh (ρ x) (c.args.toList.map ρ) w λr w'=>Gw sh λvs=>r=Yr vs/\K (Yr vs) w'
   |none=>False
  | .builtin b=>oQ P b c.argTypes.toList (c.args.toList.map ρ) w K
  | .invoke x name=>match O4 P o.type with
   |some sh=>ahg P sh (ρ x) name (c.args.toList.map ρ) w K
   |none=>False
 |_=>False
abbrev Env:=List (Nat×Value)
def Env.get:Env->Nat->Option Value
 |[],_=>none
 |(s,v)::r,t=>cond (Nat.beq s t) (some v) (Env.get r t)
def Env.put (env:Env) (d:Option Nat) (v:Value):Env:=
 match d with
 |some s=>(s,v)::env
 |none=>env
def evO (env:Env):Operand->Option Value
 | .tmp t=>env.get t
 | .const v=>some v
 | .global g=>some (.pointer (some ⟨g,0,none⟩))
 | .func f=>some (.func (.func f) #[] #[])
def ev (env:Env) (x:Operand):Value:=(evO env x).getD undef
def ab8 (env:Env):List Operand->Bool
 |[]=>true
 |x::r=>(evO env x).isSome && ab8 env r
def rX (nt:Nat):Option Nat->Bool
 |some d=>Nat.blt d nt
 |none=>true
def split (g:Bool) (v:Value) (K:Value->Prop):Prop:=
 cond g (match v with| .bool b=>cond b (K (.bool true)) (K (.bool false))|v=>K v) (K v)
def xG (P:Program) (nt:Nat) (o:Oper) (g:Bool) (env:Env) (w:θ) (K:Env->b_):Prop:=
 cond (ab8 env o.op.operands.toList && rX nt o.dst)
  (yg P o (ev env) w λv w'=>split g v λv'=>K (env.put o.dst v') w') False
def rQ (P:Program) (nt:Nat) (ops:List Oper) (o:Oper) (g:Bool) (env:Env) (w:θ) (K:Env->b_):Prop:=
 match o.guard with
 |none=>xG P nt o g env w K
 |some (j,want)=>match (ops[j]?).bind (·.dst) with
  |some s=>match env.get s with
   |some (.bool t)=>cond (t==want) (xG P nt o g env w K) (cond (rX nt o.dst) (K (env.put o.dst undef) w) False)
   |some (.tuple _)=>cond (rX nt o.dst) (K (env.put o.dst undef) w) False
   |_=>False
  |none=>False
def Xm (ops:List Oper) (i:Nat):Bool:=
 ops.any λo=>match o.guard with
  |some (j,_)=>Nat.beq j i
  |none=>false
def aaD (P:Program) (nt:Nat) (ops:List Oper):Nat->List Oper->Env->θ->(Env->b_)->Prop
 |_,[],env,w,K=>K env w
 |i,o::r,env,w,K=>rQ P nt ops o (Xm ops i) env w λenv' w'=>aaD P nt ops (i+1) r env' w' K
end Gp
end
section
namespace Gp
open Go
def Ran (P:Program) (K:Value->b_):Result Next->Prop
 | .ok (.value v) w=>K v w
 | .ok .skip w=>K undef w
 | .ok (.enter f args) w=>Calls P f args w λe w'=>∃v,e= .returned v/\K v w'
 | .ok (.round l f tmps assign body) w=>RoundIn Fence.wide 0 P l f tmps assign body w λe w'=>∃v,e= .returned v/\K v w'
 |_=>False
theorem Ran.mono {P:Program} {K K':Value->b_} (h:∀v w,K v w->K' v w) {r:Result Next} (hr:Ran P K r):Ran P K' r:=by
 cases r with
 |ok x w=>
  cases x<;>simp only[Ran] at hr ⊢<;>first
   |exact h _ _ hr
   |exact Calls.mono hr λe w' ⟨v,hv,hk⟩=>⟨v,hv,h _ _ hk⟩
   |exact RoundIn.mono hr λe w' ⟨v,hv,hk⟩=>⟨v,hv,h _ _ hk⟩
 |halt x w=>exact hr.elim
structure Vo (P:Program):Prop where
 enter:∀(f:FuncId) (fn:Func),P.funcs[f]? =some fn->fn.body.isSome=true->(fn.name=="runtime.NumGoroutine")=false
 mixed:P.follows .mixedOrders=true
section
variable {P:Program} {w:θ}
theorem run_underlying {t:TypeId} {d:TypeDesc} (h:P.underlying t=some d):(underlying t).run P w= .ok d w:=by
 simp[underlying,h]
theorem run_typeInfo {t:TypeId} {i:TypeInfo} (h:P.info? t=some i):(typeInfo t).run P w= .ok i w:=by
 simp[typeInfo,h]
theorem jC {t:TypeId} {n:Nat} (h:jB P t=some n):(Go.sizeOf t).run P w= .ok n w:=by
 unfold jB at h;split at h
 ·rename_i i hi;simp only[Option.some.injEq] at h;simp[Go.sizeOf,run_typeInfo hi,h]
 ·cases h
theorem rP {t:TypeId} {n:Nat} (h:jB P t=some n):∃i,P.info? t=some i/\i.size=n:=by
 unfold jB at h;split at h
 ·rename_i i hi;exact⟨i,hi,by simpa using h⟩
 ·cases h
theorem xq {t:TypeId} {n:Nat} (h:LK P t=some n):∃i,P.info? t=some i/\i.bytes=n:=by
 unfold LK at h;split at h
 ·rename_i i hi;exact⟨i,hi,by simpa using h⟩
 ·cases h
theorem Pj (v:Value):cellsOfV v=v.cells.toList:=by cases v<;>rfl
theorem mV {t:TypeId} {z:List Value} (h:pR P t=some z):∃i v,P.info? t=some i/\i.zero=some v/\v.cells.toList=z:=by
 unfold pR at h;split at h
 ·rename_i i hi;split at h
  ·rename_i v hv;exact⟨i,v,hi,hv,by rw[<- Pj];simpa using h⟩
  ·cases h
 ·cases h
theorem wE {t:TypeId} {z:List Value} (h:pR P t=some z):∃v,(zeroValue t).run P w= .ok v w/\v.cells=⟨z⟩:=by
 obtain⟨i,v,hi,hv,hz⟩:=mV h;exact⟨v,by simp[zeroValue,run_typeInfo hi,hv],by rw[<- hz]⟩
theorem IE {t:TypeId} {d:TypeDesc} (h:P.underlying t=some d):(isAgg t).run P w= .ok (GR d) w:=by
 simp only[isAgg,Sem.run_bind,run_underlying h,Result.andThen_ok]
 cases d<;>rfl
theorem acv (v:Value):iL v=v.oneCell':=by cases v<;>rfl
theorem Py {v:Value} (h:iL v=true):v.cells= #[v]:=by cases v<;>first|rfl|(simp[iL] at h)
theorem add_zero' (a:Addr):a.add 0=a:=by simp[Addr.add]
theorem add_add (a:Addr) (i j:Nat) (_:i=0->a.spot=none\/j=0\/True):(a.add i).add j=a.add (i+j):=by
 unfold Addr.add;by_cases hi:i=0
 ·simp[hi]
 ·by_cases hj:j=0
  ·simp[hi,hj]
  ·simp[hi,hj,Nat.add_assoc]
theorem abP {a:Addr}:∀(ks:List Kind) (i:Nat) (φ:List Value->Prop),LdN ks w a i φ->
  ∃vs,vs.length=ks.length/\(∀j v,vs[j]? =some v->w.cell? (a.add (i+j))=some v)/\φ vs:=by
 intro ks
 induction ks with
 |nil=>exact λi φ h=>⟨[],rfl,by simp,h⟩
 |cons k ks ih=>
  rintro i φ ⟨x,hx,h⟩;obtain⟨vs,hl,hc,hφ⟩:=ih (i+1) _ h;refine⟨k.enc x::vs,by simp[hl],λj v hj=> ?_,hφ⟩
  cases j with
  |zero=>simp at hj;subst hj;simpa using hx
  |succ j=>rw[show i+(j+1)=i+1+j by omega];exact hc j v (by simpa using hj)
theorem PK {t:TypeId} {sh:Shape} {n:Nat} {a:Addr} {φ:Value->Prop} (hs:shapeOf P t=some sh) (hn:jB P t=some n) (hc:sh.cells=n)
  (h:sh.ld w a φ):∃v,(loadVar t a).run P w= .ok v w/\φ v:=by
 unfold shapeOf at hs
 cases hd:P.underlying t with
 |none=>simp[hd] at hs
 |some d=>
  simp only[hd] at hs
  cases hg:GR d with
  |false=>
   simp only[hg,cond_false] at hs
   cases hk:kindOf d with
   |none=>simp[hk] at hs
   |some k=>
    simp only[hk,Option.some.injEq] at hs;subst hs;obtain⟨x,hx,h⟩:=h;exact⟨k.enc x,by simp[loadVar,IE hd,hg,hx],h⟩
  |true=>
   simp only[hg,cond_true] at hs
   cases hk:Iw P 20 t with
   |none=>simp[hk] at hs
   |some ks=>
    simp only[hk,Option.some.injEq] at hs;subst hs;obtain⟨vs,hl,u,hφ⟩:=abP ks 0 _ h;refine⟨.agg ⟨vs⟩,?_,hφ⟩;have hlen:vs.length=n:=by rw[hl];exact hc
    have:=run_loadCells_list (P:=P) (w:=w) a vs (λj v hj=>by simpa using u j v hj);simp only[loadVar,Sem.run_bind,IE hd,hg,Result.andThen_ok,if_true,jC hn];rw[<- hlen,this];rfl
theorem Ϛ {a:Addr} {v:Value} {K:b_} (h:St w a v K):(store a v).run P w= .ok () (w.setCell a v)/\K (w.setCell a v):=by
 obtain⟨h1,h2,h3,h4⟩:=h;refine⟨?_,h4⟩;rw[run_store P w a v .plain (by rw[<- acv];exact h1)]
 cases hc:w.cell? a with
 |none=>simp[hc] at h2
 |some u=>simp[h3]
theorem afu {a:Addr} {K:b_}:∀(vs:List Value) (w:θ) (i:Nat),iw vs w a i K->∃w',(storeCells a vs i).run P w= .ok () w'/\K w':=by
 intro vs
 induction vs with
 |nil=>exact λw i h=>⟨w,rfl,h⟩
 |cons v vs ih=>
  intro w i h;obtain⟨h1,h2⟩:=Ϛ (P:=P) h;obtain⟨w',h3,h4⟩:=ih _ _ h2;exact⟨w',by simp[storeCells,h1,h3],h4⟩
end
end Gp
end
section
namespace Gp
open Go
theorem WA {α β:Type} (f:α->β) (xs:Array α):xs.map f=⟨xs.toList.map f⟩:=Array.toList_inj.mp (by simp)
theorem yF (z:List Value) (n:Nat):(gZ z n).length=n * z.length:=by
 induction n with
 |zero=>simp[gZ]
 |succ n ih=>simp[gZ,ih,Nat.add_mul];omega
theorem Ny {z:List Value} {v:Value}:∀{n:Nat},v∈gZ z n->∃k:Nat,k<n/\v∈z
 |0,h=>by simp[gZ] at h
 |n+1,h=>by
  rcases List.mem_append.1 (show v∈z++gZ z n from h) with h|h
  ·exact⟨0,by omega,h⟩
  ·obtain⟨k,hk,hv⟩:=Ny h;exact⟨k,by omega,hv⟩
theorem adk {n:Int} (h1: -9223372036854775808<=n) (h2:n<=9223372036854775807):IntKind.i64.wrap n=n:=by
 rw[IntKind.wrap_i64];omega
theorem ZX (z:Array Value):∀n,(List.range (n * z.size)).map (λi=>z[i % z.size]!)=gZ z.toList n:=by
 intro n
 induction n with
 |zero=>simp[gZ]
 |succ n ih=>
  have e:(n+1) * z.size=z.size+n * z.size:=by rw[Nat.add_mul];omega
  rw[e,List.range_add,List.map_append,gZ,map_map];congr 1
  ·apply List.ext_getElem
   ·simp
   ·intro i h1 h2;simp at h1;simp[Nat.mod_eq_of_lt h1,h1]
  ·rw[<- ih];apply List.map_congr_left;intro i _;simp
theorem nG (z:Array Value) (n:Nat):Builtin.zeroCells z n=⟨gZ z.toList n⟩:=by
 apply Array.toList_inj.mp;simp only[Builtin.zeroCells,Array.toList_map,Array.toList_range];exact ZX z n
theorem Xu (z:Array Value) (n:Nat):madeCells z (n * z.size)=⟨gZ z.toList n⟩:=nG z n
section
variable {P:Program}
theorem RY {w:θ} {a b:Addr} {v:Value} (h:(w.cell? b).isSome=true):((w.setCell a v).cell? b).isSome=true:=by
 by_cases e:a=b
 ·subst e
  cases hc:w.cell? a with
  |none=>simp[hc] at h
  |some u=>rw[World.cell?_setCell_same w a v hc];rfl
 ·rw[World.cell?_setCell_other w a b v e];exact h
theorem wC (a:Addr):∀(vs:List Value) (i:Nat) (w:θ),(∀v∈vs,iL v=true)->
  (∀j,j<vs.length->(w.cell? (a.add (i+j))).isSome=true/\w.frozen? (a.add (i+j))=false)->(storeCells a vs i).run P w= .ok () (setCells w a vs i):=by
 intro vs
 induction vs with
 |nil=>exact λi w _ _=>rfl
 |cons v vs ih=>
  intro i w h1 h2;have h0:=h2 0 (by simp);obtain⟨hr,_⟩:=Ϛ (P:=P) (w:=w) (a:=a.add i) (v:=v) (K:=λ_=>True) ⟨h1 v (by simp),by simpa using h0.1,by simpa using h0.2,trivial⟩;have:=ih (i+1) (w.setCell (a.add i) v) (λu hu=>h1 u (by simp[hu])) (λj hj=>by
   have:=h2 (j+1) (by simp;omega);rw[show i+(j+1)=i+1+j by omega] at this;exact⟨RY this.1,by rw[World.frozen?_setCell];exact this.2⟩)
  simp[storeCells,hr,this,setCells]
theorem rF {w:θ} {a:fO} {size n l c:Nat} {vs:List Value} (h:mF w a (n * size) vs):
  (Builtin.firstCells size n (.slice a l c)).run P w= .ok ⟨vs⟩ w:=by
 cases a with
 |none=>simp only[mF] at h;subst h;simp[run_firstCells_none]
 |some a=>
  obtain⟨hl,hc⟩:=h;refine run_firstCells_some (P:=P) w size n a l c vs hl λj v hj=> ?_;have u:=(List.getElem?_eq_some_iff.1 hj).1;rw[hc j u,hj]
theorem Bo {w:θ} {a:fO} {n:Nat} {vs:List Value} (h:mF w a n vs):mF w.drew a n vs:=by
 cases a<;>exact h
theorem Vr {t t' ty e:TypeId} {i:TypeInfo} {z:Value} (ht:P.underlying t=some (.slice e)) (hi:P.info? e=some i) (hz:i.zero=some z)
  {d:TypeDesc} (ht':P.underlying t'=some d) (hd:(∃e',d= .slice e')\/d= .string) {x:Value} {n:Nat} {vs:List Value} {w:θ} {s:fU} {K:fU->b_}
  (hlen:∀w,(Builtin.lenOf x).run P w= .ok n w) (hx:(Builtin.firstCells i.size n x).run P w= .ok ⟨vs⟩ w) (hx':(Builtin.firstCells i.size n x).run P w.drew= .ok ⟨vs⟩ w.drew)
  (h:Vl e i.size i.bytes z.cells.toList s n vs w K):
  ∃s' w',(Builtin.append_ #[t,t'] ty #[s.v,x]).run P w= .ok s'.v w'/\K s' w':=by
 rcases h with ⟨u,N,I,hK⟩|⟨hg,h46,h62,old,J,hK⟩
 ·refine⟨_,_,?_,hK⟩
  cases hs:s.a with
  |none=>rcases hd with ⟨e',rfl⟩|rfl<;>(simp[Builtin.append_,fU.v,run_underlying ht,run_underlying ht',Go.sizeOf,run_typeInfo hi,hlen,u,hs,hx])
  |some a=>
   have O:=wC (P:=P) (a.add (s.len * i.size)) vs 0 w I (by intro j hj;simpa using N a hs j hj);rcases hd with ⟨e',rfl⟩|rfl<;>(simp[Builtin.append_,fU.v,run_underlying ht,run_underlying ht',Go.sizeOf,run_typeInfo hi,hlen,u,hs,hx,O])
 ·have h1:¬(s.len+n<=s.cap):=by omega
  have h2:¬(9223372036854775807<((s.len:Int)+(n:Int))):=by omega
  have h3:=growslice_fits (bytes:=i.bytes) hg (by omega);have h3':¬(281474976710656<Builtin.nextslicecap (s.len+n) s.cap * i.bytes):=by omega
  have R:=rF (P:=P) (l:=s.len) (c:=s.cap) (Bo J);refine⟨_,_,?_,hK (grownCap w (s.len+n) s.cap e) (grownCap_ge _ _ _ _) ?_⟩
  ·rcases hd with ⟨e',rfl⟩|rfl<;>(simp[Builtin.append_,fU.v,run_underlying ht,run_underlying ht',Go.sizeOf,run_typeInfo hi,zeroValue,hz,hlen,h1,h2,h3',Question.forced,hx',R,newRow,grownCap,nG])
  ·simp only[grownCap,Question.cut];have:=mod_lt (w.tape w.drawn (.appendCap (s.len+n) s.cap e)) (show 0<2^63 - (s.len+n) by omega);omega
theorem YD {t t' ty e:TypeId} {i:TypeInfo} {z:Value} {ki kv:IntKind} (ht:P.underlying t=some (.slice e)) (hi:P.info? e=some i) (hz:i.zero=some z) (U:z.cells.toList.length=i.size)
  (ht':P.underlying t'=some (.int ki)) {n:Int} {w:θ} {s:fU} {K:fU->b_}
  (h:QE e i.size i.bytes z.cells.toList s n w K):
  ∃s' w',(Builtin.append_ #[t,t'] ty #[s.v,.int kv n]).run P w= .ok s'.v w'/\K s' w':=by
 obtain⟨h0,hb,hn,h⟩:=h;obtain⟨m,rfl⟩:∃m:Nat,n=(m:Int):=⟨n.toNat,by omega⟩;rw[Int.toNat_natCast] at h;have hw:IntKind.i64.wrap (m:Int)=(m:Int):=adk (by omega) (by omega);have u:¬((m:Int)<0):=by omega
 have hb':¬(281474976710656<(m:Int) * (i.bytes:Int)):=by omega
 by_cases hz0:m * i.size=0
 ·have he:gZ z.cells.toList m=[]:=by
   have:=yF z.cells.toList m;rw[U,hz0] at this;exact List.length_eq_zero_iff.1 this
  rw[he] at h;rcases h with ⟨I,R,N,hK⟩|⟨hg,Y,Z,old,J,hK⟩
  ·refine⟨_,_,?_,hK⟩
   cases hs:s.a with
   |none=>simp[Builtin.append_,fU.v,run_underlying ht,run_underlying ht',Go.sizeOf,run_typeInfo hi,asInt,asIntOf,hw,u,hb',I,hs,hz0]
   |some a=>simp[Builtin.append_,fU.v,run_underlying ht,run_underlying ht',Go.sizeOf,run_typeInfo hi,asInt,asIntOf,hw,u,hb',I,hs,hz0,setCells,storeCells]
  ·have h1:¬(s.len+m<=s.cap):=by omega
   have h2:¬(9223372036854775807<((s.len:Int)+(m:Int))):=by omega
   have h3:=growslice_fits (bytes:=i.bytes) hg (by omega);have h3':¬(281474976710656<Builtin.nextslicecap (s.len+m) s.cap * i.bytes):=by omega
   have O:=rF (P:=P) (l:=s.len) (c:=s.cap) (Bo J);refine⟨_,_,?_,hK (grownCap w (s.len+m) s.cap e) (grownCap_ge _ _ _ _) ?_⟩
   ·simp[Builtin.append_,fU.v,run_underlying ht,run_underlying ht',Go.sizeOf,run_typeInfo hi,asInt,asIntOf,hw,u,hb',zeroValue,hz,h1,h2,h3',Question.forced,hz0,O,newRow,grownCap,nG]
   ·simp only[grownCap,Question.cut];have:=mod_lt (w.tape w.drawn (.appendCap (s.len+m) s.cap e)) (show 0<2^63 - (s.len+m) by omega);omega
 rcases h with ⟨I,R,N,hK⟩|⟨hg,Y,Z,old,J,hK⟩
 ·refine⟨_,_,?_,hK⟩
  cases hs:s.a with
  |none=>simp[Builtin.append_,fU.v,run_underlying ht,run_underlying ht',Go.sizeOf,run_typeInfo hi,asInt,asIntOf,hw,u,hb',I,hs,zeroValue,hz,nG]
  |some a=>
   have aa:=wC (P:=P) (a.add (s.len * i.size)) (gZ z.cells.toList m) 0 w N (by intro j hj;simpa using R a hs j hj);simp[Builtin.append_,fU.v,run_underlying ht,run_underlying ht',Go.sizeOf,run_typeInfo hi,asInt,asIntOf,hw,u,hb',I,hs,hz0,zeroValue,hz,nG,aa]
 ·have h1:¬(s.len+m<=s.cap):=by omega
  have h2:¬(9223372036854775807<((s.len:Int)+(m:Int))):=by omega
  have h3:=growslice_fits (bytes:=i.bytes) hg (by omega);have h3':¬(281474976710656<Builtin.nextslicecap (s.len+m) s.cap * i.bytes):=by omega
  have O:=rF (P:=P) (l:=s.len) (c:=s.cap) (Bo J);refine⟨_,_,?_,hK (grownCap w (s.len+m) s.cap e) (grownCap_ge _ _ _ _) ?_⟩
  ·simp[Builtin.append_,fU.v,run_underlying ht,run_underlying ht',Go.sizeOf,run_typeInfo hi,asInt,asIntOf,hw,u,hb',zeroValue,hz,h1,h2,h3',Question.forced,hz0,O,newRow,grownCap,nG]
  ·simp only[grownCap,Question.cut];have:=mod_lt (w.tape w.drawn (.appendCap (s.len+m) s.cap e)) (show 0<2^63 - (s.len+m) by omega);omega
theorem YR {t ty e:TypeId} {i:TypeInfo} {z:Value} (ht:P.underlying t=some (.slice e)) (hi:P.info? e=some i) (hz:i.zero=some z) (_:z.cells.toList.length=i.size)
  {w:θ} {s:fU} {K:b_} (h:Qo z.cells.toList s w K):∃w',(Builtin.clear_ #[t] ty #[s.v]).run P w= .ok (.tuple #[]) w'/\K w':=by
 obtain⟨I,u,hK⟩:=h;refine⟨_,?_,hK⟩;obtain⟨a,n,c⟩:=s
 cases a with
 |none=>simp[Builtin.clear_,fU.v,run_underlying ht]
 |some a=>
  cases n with
  |zero=>simp[Builtin.clear_,fU.v,run_underlying ht,gZ,setCells]
  |succ n=>
   have J:=wC (P:=P) a (gZ z.cells.toList (n+1)) 0 w (λv hv=>by
    obtain⟨k,_,hv⟩:=Ny hv;exact u v hv) (by intro j hj;rw[yF] at hj;simpa using I a rfl j hj)
   simp[Builtin.clear_,fU.v,run_underlying ht,zeroValue,run_typeInfo hi,hz,nG,J]
theorem Ϩ {t t' ty e:TypeId} {i:TypeInfo} (ht:P.underlying t=some (.slice e)) (hi:P.info? e=some i) {w:θ} {d s:fU} {K:Int->b_}
  (h:wL i.size d s w K):∃n w',(Builtin.copy_ #[t,t'] ty #[d.v,s.v]).run P w= .ok (.int .i64 n) w'/\K n w':=by
 obtain⟨vs,I,J,u,hK⟩:=h;refine⟨_,_,?_,hK⟩;have hf:=rF (P:=P) (l:=s.len) (c:=s.cap) I
 cases hd:d.a with
 |none=>simp[Builtin.copy_,fU.v,run_underlying ht,Go.sizeOf,run_typeInfo hi,Builtin.lenOf,hd,hf,goInt]
 |some a=>
  have N:=wC (P:=P) a vs 0 w u (by intro j hj;simpa using J a hd j hj);simp[Builtin.copy_,fU.v,run_underlying ht,Go.sizeOf,run_typeInfo hi,Builtin.lenOf,hd,hf,N,goInt]
theorem aak {t e:TypeId} {i:TypeInfo} {z:Value} (ht:P.underlying t=some (.slice e)) (hi:P.info? e=some i) (hz:i.zero=some z) (u:z.cells.toList.length=i.size)
  {n c:Int} {kl kc:IntKind} {w:θ} {K:fU->b_} (h:Wp e i.size i.bytes z.cells.toList n c w K):
  ∃s w',(Instr.makeSlice t (.int kl n) (.int kc c)).run P w= .ok s.v w'/\K s w':=by
 obtain⟨h0,h1,h2,h3,hK⟩:=h;refine⟨_,_,?_,hK⟩;have h2':c<=9223372036854775807:=Int.le_trans h2 (by decide);have h3':(i.bytes:Int) * c<=281474976710656:=Int.le_trans h3 (by decide);rw[run_make w t e i z ht hi hz kl kc n c h0 h1 h3' h2'];have e0:i.size=z.cells.size:=u.symm.trans Array.length_toList;have e1:c.toNat * i.size=c.toNat * z.cells.size:=congrArg (c.toNat * ·) e0;rw[e1,Xu];rfl
theorem QW {w:θ} {s:fU} {K:ByteArray->Prop} (h:vC w s K):∃b,(Conv.bytesToString s.v).run P w= .ok (.string b) w/\K b:=by
 obtain⟨b,hl,hc,hK⟩:=h;refine⟨b,?_,hK⟩
 cases hs:s.a with
 |none=>
  rw[hs] at hc;have:b= .empty:=by
   have h0:b.data.toList=[]:=by simpa [mF,byteCells] using hc
   cases b with|mk d=>simp at h0;subst h0;rfl
  subst this;simp[Conv.bytesToString,fU.v,hs]
 |some a=>
  rw[hs] at hc;obtain⟨hn,I⟩:=hc;have u:∀j v,(byteCells b)[j]? =some v->w.cell? (a.add j)=some v:=λj v hj=>by
   have J:=(List.getElem?_eq_some_iff.1 hj).1;rw[I j J,hj]
  have hl2:=run_loadCells_list (P:=P) (w:=w) a (byteCells b) u;rw[hn] at hl2;have e1:byteCells b=(b.data.toList.map λx=>(x.toNat:Int)).map (Value.int .u8):=by simp[byteCells]
  rw[e1] at hl2;have:=run_bytesToString (P:=P) w a s.len s.cap _ hl2;simp only[fU.v,hs,this];rw[foldl_push_bytes];congr 2
  cases b with|mk d=>
  have e2:∀l:List UInt8,l.map ((λn:Int=>UInt8.ofNat n.toNat) ∘ λx=>(x.toNat:Int))=l:=by
   intro l
   induction l with
   |nil=>rfl
   |cons x l ih=>simp only[List.map_cons,ih];simp
  simp only[ByteArray.empty,ByteArray.emptyWithCapacity,map_map,e2];simp;rfl
end
end Gp
end
section
namespace Gp
open Go
theorem TT (cs:List Value) (off:Nat) (vs:List Value) (h:off+vs.length<=cs.length) (i:Nat):
  (splice cs off vs)[i]? =if i<off then cs[i]? else if i<off+vs.length then vs[i - off]? else cs[i]? :=by
 unfold splice;have hl:(cs.take off).length=off:=by simp;omega
 by_cases h1:i<off
 ·rw[if_pos h1,List.getElem?_append_left (by omega),List.getElem?_take_of_lt h1]
 ·rw[if_neg h1,List.getElem?_append_right (by omega),hl];by_cases h2:i<off+vs.length
  ·rw[if_pos h2,List.getElem?_append_left (by omega)]
  ·rw[if_neg h2,List.getElem?_append_right (by omega),List.getElem?_drop];congr 1;omega
theorem Y8 (off:Nat):∀(vs:List Value) (k:Nat) (cs:Array Value),off+k+vs.length<=cs.size->
  ((vs.zipIdx k).foldl (λ(cs:Array Value) (p:Value×Nat)=>cs.setIfInBounds (off+p.2) p.1) cs)=⟨splice cs.toList (off+k) vs⟩:=by
 intro vs
 induction vs with
 |nil=>intro k cs _;simp[splice]
 |cons v vs ih=>
  intro k cs h;simp only[List.length_cons] at h;rw[List.zipIdx_cons,List.foldl_cons,ih (k+1) _ (by simp;omega)];congr 1;apply List.ext_getElem?;intro i;rw[TT _ _ _ (by simp;omega),TT _ _ _ (by simp;omega)];simp only[Array.toList_setIfInBounds,List.getElem?_set,List.length_cons];by_cases h1:i<off+k
  ·have h2:i<off+(k+1):=by omega
   have h3:¬(off+k=i):=by omega
   simp[h1,h2,h3]
  ·by_cases h2:i=off+k
   ·subst h2;have h3:off+k<off+(k+1):=by omega
    have h4:off+k<cs.size:=by omega
    simp[h3,h4]
   ·have h3:¬(i<off+(k+1)):=by omega
    have h4:¬(off+k=i):=by omega
    simp only[h1,h3,h4,if_false];by_cases h5:i<off+(k+1)+vs.length
    ·have h6:i<off+k+(vs.length+1):=by omega
     obtain⟨m,hm⟩:∃m,i - (off+k)=m+1:=⟨i - (off+k) - 1,by omega⟩;have h7:i - (off+(k+1))=m:=by omega
     simp[h5,h6,hm,h7]
    ·have h6:¬(i<off+k+(vs.length+1)):=by omega
     simp[h5,h6]
theorem LU {v:Value} (h:iL v=true):cellsOfV v=[v]:=by cases v<;>first|rfl|(simp[iL] at h)
theorem Y4:∀(ps:List (Nat×Value)) (cs out:List Value),(∀p∈ps,iL p.2=true)->Y3 ps cs=some out->Gy (λi=>some (i * 1,1)) ps cs=some out:=by
 intro ps
 induction ps with
 |nil=>exact λcs out _ h=>h
 |cons p ps ih=>
  obtain⟨i,v⟩:=p;intro cs out h1 h;simp only[Y3] at h;have hv:iL v=true:=h1 (i,v) (by simp)
  cases hb:Nat.blt i cs.length with
  |false=>rw[hb] at h;cases h
  |true=>
   rw[hb] at h;have u:i<cs.length:=by simpa [Nat.blt_eq] using hb
   have hs:splice cs (i * 1) [v]=cs.set i v:=by
    rw[List.set_eq_take_append_cons_drop,if_pos u,Nat.mul_one];rfl
   have hc:(Nat.beq (cellsOfV v).length 1 && Nat.ble (i * 1+1) cs.length)=true:=by
    rw[LU hv,and_eq_true];exact⟨rfl,by rw[ble_eq];omega⟩
   simp only[Gy,hc,cond_true];rw[LU hv,hs];exact ih _ _ (λp hp=>h1 p (by simp[hp])) h
theorem ϝ:∀(vs:List Value),NR vs->∀v∈vs,iL v=true:=by
 intro vs
 induction vs with
 |nil=>exact λ_ v hv=>by simp at hv
 |cons v vs ih=>
  rintro⟨h1,h2⟩ u hu;rcases List.mem_cons.1 hu with rfl|hu
  ·exact h1
  ·exact ih h2 u hu
theorem aiH {sh:Option Shape} {size:Nat} {ps:List (Nat×Operand)} {ρ:Operand->Value} {cs:List Value} {Φ:List Value->Prop}
  (h:cond (adF sh) (cond (Nat.beq size 1) (NR (ps.map λp=>ρ p.2)/\(match Y3 (ps.map λp=>(p.1,ρ p.2)) cs with
     |some cs=>Φ cs
     |none=>False)) False)
     (match Gy (λi=>some (i * size,size)) (ps.map λp=>(p.1,ρ p.2)) cs with
     |some cs=>Φ cs
     |none=>False)):∃out,Gy (λi=>some (i * size,size)) (ps.map λp=>(p.1,ρ p.2)) cs=some out/\Φ out:=by
 cases ha:adF sh with
 |false=>
  rw[ha] at h;simp only[cond_false] at h;split at h
  ·rename_i out hf;exact⟨out,hf,h⟩
  ·exact h.elim
 |true=>
  rw[ha] at h;simp only[cond_true] at h
  cases hb:Nat.beq size 1 with
  |false=>rw[hb] at h;exact h.elim
  |true=>
   rw[hb] at h;have hs:size=1:=Nat.eq_of_beq_eq_true hb;subst hs;simp only[cond_true] at h;obtain⟨h1,h⟩:=h;split at h
   ·rename_i out hf;refine⟨out,Y4 _ _ _ (λp hp=> ?_) hf,h⟩;obtain⟨q,hq,rfl⟩:=List.mem_map.1 hp;exact ϝ _ h1 _ (List.mem_map.2 ⟨q,hq,rfl⟩)
   ·exact h.elim
theorem KE (place place':Nat->Option (Nat×Nat)) (hp:∀i x,place i=some x->place' i=some x):∀(ps:List (Nat×Value)) (cs out:List Value),Gy place ps cs=some out->
  Instr.fill place' ⟨cs⟩ ps=some ⟨out⟩:=by
 intro ps
 induction ps with
 |nil=>intro cs out h;simp[Gy] at h;subst h;rfl
 |cons p ps ih=>
  obtain⟨i,v⟩:=p;intro cs out h;simp only[Gy] at h
  cases u:place i with
  |none=>simp[u] at h
  |some x=>
   obtain⟨off,size⟩:=x;simp only[u] at h
   cases hb:(Nat.beq (cellsOfV v).length size && Nat.ble (off+size) cs.length) with
   |false=>simp[hb] at h
   |true=>
    simp only[hb,cond_true] at h;simp only[and_eq_true,Nat.beq_eq,ble_eq] at hb;obtain⟨h1,h2⟩:=hb;rw[Pj] at h1 h;have h3:v.cells.size=size:=by rw[<- h1];simp
    have:=ih _ _ h;have hf:=Y8 off v.cells.toList 0 ⟨cs⟩ (by simp;omega);simp only[Nat.add_zero] at hf;have hz:v.cells.zipIdx.foldl (λ(cs:Array Value) (x:Value×Nat)=>cs.setIfInBounds (off+x.2) x.1) ⟨cs⟩=⟨splice cs off v.cells.toList⟩:=by
     rw[<- Array.foldl_toList,Array.toList_zipIdx];exact hf
    simp only[Instr.fill,hp _ _ u];have c1:(v.cells.size≠size||off+v.cells.size>(⟨cs⟩:Array Value).size)=false:=by
     simp[h3];omega
    simp only[c1,false_eq_true,if_false];exact(congrArg (λa=>Instr.fill place' a ps) hz).trans this
section
variable {P:Program}
theorem X9 {w:θ}:∀(fs:List Field) (pl:List (Nat×Nat)),placesOf P fs=some pl->
  (fs.mapM λ(f:Field)=>(do pure (f.offset,<- Go.sizeOf f.type):Sem (Nat×Nat))).run P w= .ok pl w:=by
 intro fs
 induction fs with
 |nil=>intro pl h;simp[placesOf] at h;subst h;simp
 |cons f fs ih=>
  intro pl h;simp only[placesOf] at h
  cases hs:jB P f.type with
  |none=>simp[hs] at h
  |some s=>
   cases hr:placesOf P fs with
   |none=>simp[hs,hr] at h
   |some l=>
    simp only[hs,hr,Option.some.injEq] at h;subst h;have hi:=ih l hr;rw[List.mapM_cons];simp only[Sem.run_bind,jC hs,Result.andThen_ok,Sem.run_pure,hi]
theorem Rw {w:θ} {fs:Array Field} {f off size:Nat} (h:Gx P fs f=some (off,size)) (hs:Nat.beq size 0=false) (a:Addr):
  ∃fd,fs[f]? =some fd/\(fieldPlace a fd).run P w= .ok (a.add off) w:=by
 unfold Gx at h
 cases hf:fs.toList[f]? with
 |none=>simp[hf] at h
 |some fd=>
  simp only[hf] at h
  cases hz:jB P fd.type with
  |none=>simp[hz] at h
  |some s=>
   simp only[hz,Option.some.injEq,Prod.mk.injEq] at h;obtain⟨rfl,rfl⟩:=h;refine⟨fd,by simpa using hf,?_⟩;have:s≠0:=by intro e;subst e;simp at hs
   simp[fieldPlace,jC hz,this]
theorem TK {w:θ} {t:TypeId} {d:TypeDesc} {size off:Nat} {cs:Array Value} {φ:Value->Prop} (hd:P.underlying t=some d) (hs:jB P t=some size)
  (h:partOf d size off cs.toList φ):∃v,(part t cs off).run P w= .ok v w/\φ v:=by
 unfold partOf at h
 cases hg:GR d with
 |true=>
  simp only[hg,cond_true] at h;refine⟨_,?_,h⟩;simp only[part,Sem.run_bind,IE hd,Result.andThen_ok,hg,if_true,jC hs,Sem.run_pure,Result.ok.injEq,and_true,Value.agg.injEq];apply Array.toList_inj.mp;simp[Array.toList_extract,List.extract_eq_take_drop]
 |false=>
  simp only[hg,cond_false] at h
  cases hc:cs.toList[off]? with
  |none=>simp[hc] at h
  |some v=>
   simp only[hc] at h;refine⟨v,?_,h⟩;have hc':cs[off]? =some v:=by simpa using hc
   simp[part,IE hd,hg,hc']
theorem MH {k k':IntKind} (h:KH k k'=true):k=k':=by cases k<;>cases k'<;>first|rfl|(simp[KH] at h)
theorem Ϻ {op:BinOp} {k:IntKind} {a b:Int} {φ:Value->Prop} {t:TypeId} {w:θ} (hop:op≠.shl/\op≠.shr) (h:KJ op k a b φ):
  ∃v,(binOp op t (.int k a) (.int k b)).run P w= .ok v w/\φ v:=by
 cases op<;>simp only[KJ] at h<;>first
  |exact absurd rfl hop.1
  |exact absurd rfl hop.2
  |exact h.elim
  |(refine⟨_,?_,h⟩;simp[binOp,Op.intArith];done)
  |(refine⟨_,?_,h⟩;simp[binOp,Op.intCmp];done)
  |(refine⟨_,?_,h⟩;simp only[binOp,ne_eq,not_true_eq_false,if_false];rfl)
  |(refine⟨_,?_,h.2⟩;simp[binOp,Op.intDiv,h.1];done)
theorem aaO {op:BinOp} {a b:ByteArray} {φ:Value->Prop} {t:TypeId} {w:θ} (h:Ls op a b φ):
  ∃v,(binOp op t (.string a) (.string b)).run P w= .ok v w/\φ v:=by
 cases op<;>simp only[Ls] at h<;>first
  |exact h.elim
  |(refine⟨_,?_,h⟩;simp[binOp,Op.stringOp,strEq,strLt];done)
  |(refine⟨_,?_,h.2⟩
    have:¬(IntKind.i64.max<((a.size+b.size:Nat):Int)):=by omega
    simp[binOp,Op.stringOp] at this ⊢;simp[this])
end
end Gp
end
section
namespace Gp
open Go
section
variable {P:Program}
theorem Vy {d:TypeDesc} {x y:Value} {φ:Bool->Prop} {t:TypeId} {w:θ} (ht:P.underlying t=some d) (h:JH d x y φ):
  ∃b,(Op.equal t x y).run P w= .ok b w/\φ b:=by
 have key:∀n,∃b,(Op.equalIn (n+1) t x y).run P w= .ok b w/\φ b:=by
  intro n;unfold JH at h;split at h
  ·exact⟨_,by simp[Op.equalIn,run_underlying ht],h⟩
  ·rename_i q;refine⟨_,?_,h⟩
   cases q<;>simp[Op.equalIn,run_underlying ht]
  ·rename_i q _ _ _ _;refine⟨_,?_,h⟩
   cases q<;>simp[Op.equalIn,run_underlying ht]
  ·rename_i q;refine⟨_,?_,h⟩
   cases q<;>simp[Op.equalIn,run_underlying ht]
  ·exact h.elim
 exact key 9999
theorem Po {d:TypeDesc} {x y:Value} {φ:Bool->Prop} (h:JH d x y φ) (op:BinOp) (t:TypeId) (a b:Operand) (w:θ):(eqGuard op t a b x y).run P w= .ok () w:=by
 unfold JH at h;split at h<;>first|exact h.elim|(cases op<;>simp[eqGuard])
theorem acF {op:BinOp} {t:TypeId} {x y:Value} {φ:Value->Prop} (a:Operand) {w:θ} (h:E8 P op t x y φ):
  ∃v,(do eqGuard op t a (.const .nilIface) x y;binOp op t x y:Sem Value).run P w= .ok v w/\φ v:=by
 unfold E8 at h;split at h
 ·rename_i s ms ho ht;have key:∀n,(Op.equalIn (n+1) t .nilIface .nilIface).run P w= .ok true w:=λn=>by simp[Op.equalIn,run_underlying ht]
  have e:(Op.equal t .nilIface .nilIface).run P w= .ok true w:=key 9999
  cases op<;>simp only[GU,reduceCtorEq,Option.some.injEq] at ho
  all_goals subst ho
  ·exact⟨.bool true,by simp[eqGuard,show binOp .eql t .nilIface .nilIface=(do pure (.bool (<- Op.equal t .nilIface .nilIface))) from rfl,e],h⟩
  ·exact⟨.bool false,by simp[eqGuard,show binOp .neq t .nilIface .nilIface=(do pure (.bool (!(<- Op.equal t .nilIface .nilIface)))) from rfl,e],h⟩
 ·rename_i s ms t' v' ho ht;have key:∀n,(Op.equalIn (n+1) t (.iface t' v') .nilIface).run P w= .ok false w:=λn=>by simp[Op.equalIn,run_underlying ht]
  have e:(Op.equal t (.iface t' v') .nilIface).run P w= .ok false w:=key 9999
  cases op<;>simp only[GU,reduceCtorEq,Option.some.injEq] at ho
  all_goals subst ho
  ·exact⟨.bool false,by simp[eqGuard,show binOp .eql t (.iface t' v') .nilIface=(do pure (.bool (<- Op.equal t (.iface t' v') .nilIface))) from rfl,e],h⟩
  ·exact⟨.bool true,by simp[eqGuard,show binOp .neq t (.iface t' v') .nilIface=(do pure (.bool (!(<- Op.equal t (.iface t' v') .nilIface)))) from rfl,e],h⟩
 ·exact h.elim
theorem Pn {d:TypeDesc} {x y:Value} {φ:Bool->Prop} (h:JH d x y φ) (t:TypeId):
  binOp .eql t x y=(do pure (.bool (<- Op.equal t x y)))/\binOp .neq t x y=(do pure (.bool (!(<- Op.equal t x y)))):=by
 unfold JH at h;split at h<;>first|exact h.elim|exact⟨rfl,rfl⟩
theorem zC {w:θ} {t:TypeId} {d:TypeDesc} {size off:Nat} {cs:Array Value} {v:Value} (hd:P.underlying t=some d) (hs:jB P t=some size) (h:VZ d size off cs.toList=some v):
  (part t cs off).run P w= .ok v w:=by
 obtain⟨v',hr,hv⟩:=TK (w:=w) (cs:=cs) (off:=off) (φ:=λv'=>v'=v) hd hs (by
  unfold VZ at h;unfold partOf
  cases hg:GR d with
  |true=>rw[hg] at h;simp only[cond_true,Option.some.injEq] at h ⊢;exact h
  |false=>rw[hg] at h;simp only[cond_false] at h ⊢;rw[h])
 rw[hr,hv]
theorem Io {b:Bool} {o:Option Bool} {r:Bool} (h:afz b o=some r):∃r',o=some r'/\r=(b && r'):=by
 cases o with
 |none=>cases h
 |some r'=>exact⟨r',rfl,by simpa [afz] using h.symm⟩
theorem WZ:∀(n:Nat) (t:TypeId) (x y:Value) (b:Bool) (m:Nat) (w:θ),Fa P n t x y=some b->n<=m->(Op.equalIn m t x y).run P w= .ok b w:=by
 intro n
 induction n with
 |zero=>intro t x y b m w h;cases h
 |succ n ih=>
  intro t x y b m w h hm;obtain⟨m,rfl⟩:∃m',m=m'+1:=⟨m - 1,by omega⟩;unfold Fa at h;split at h
  ·rename_i hu;rw[run_equalIn_bool' w m t _ _ hu]
   cases h;rfl
  ·rename_i k0 k a k' c hu
   cases hk:KH k k' with
   |false=>rw[hk] at h;cases h
   |true=>
    rw[hk] at h;have:=MH hk;subst this;rw[run_equalIn_int w m t k k0 _ _ hu]
    cases h;rfl
  ·rename_i hu;rw[run_equalIn_string w m t _ _ hu]
   cases h;rfl
  ·rename_i fs xs ys hu
   cases hp:P.stoodInHeld t with
   |true=>rw[hp] at h;cases h
   |false=>
    rw[hp] at h;simp only[cond_false] at h;have I:P.fieldsOf t=fs:=by simp[Program.fieldsOf,hu]
    rw[run_equalIn_struct w m t xs ys (by rw[I];exact hu) hp,I];generalize fs.toList=l at h;clear I hu
    induction l generalizing b with
    |nil=>simp only[aeh,Option.some.injEq] at h;subst h;rfl
    |cons fd l ihl=>
     simp only[aeh] at h
     cases J:(fd.name=="_") with
     |true=>rw[J] at h;cases h
     |false=>
      rw[J] at h;simp only[cond_false] at h;split at h
      case h_2=>cases h
      rename_i d size hd hs;split at h
      case h_2=>cases h
      rename_i u v hu hv;split at h
      case h_2=>cases h
      rename_i r hr;obtain⟨r',hr',rfl⟩:=Io h;have N:fd.name≠"_":=by simpa using J
      simp only[Op.eqFields,N,ne_eq,not_false_eq_true,if_true,Sem.run_bind,zC hd hs hu,zC hd hs hv,Result.andThen_ok,ih _ _ _ _ m w hr (by omega)]
      cases r with
      |true=>simp only[Bool.not_true,false_eq_true,if_false,Bool.true_and];exact ihl _ hr'
      |false=>simp
  ·rename_i n' e xs ys hu;split at h
   case h_2=>cases h
   rename_i de size hd hs;obtain⟨i,hi,O⟩:∃i,P.info? e=some i/\i.size=size:=by
    unfold jB at hs;split at hs
    ·rename_i i hi;exact⟨i,hi,by simpa using hs⟩
    ·cases hs
   have hc:P.cellsOf e=size:=by simp[Program.cellsOf,hi,O]
   rw[run_equalIn_array w m xs ys hu hi,hc,List.range_eq_range'];generalize 0=j at h ⊢;clear hu
   induction n' generalizing b j with
   |zero=>simp only[aei,Option.some.injEq] at h;subst h;rfl
   |succ n' ihn=>
    simp only[aei] at h;split at h
    case h_2=>cases h
    rename_i u v hu hv;split at h
    case h_2=>cases h
    rename_i r hr;obtain⟨r',hr',rfl⟩:=Io h;simp only[List.range'_succ,Op.eqItems,Sem.run_bind,zC hd hs hu,zC hd hs hv,Result.andThen_ok,ih _ _ _ _ m w hr (by omega)]
    cases r with
    |true=>simp only[Bool.not_true,false_eq_true,if_false,Bool.true_and];exact ihn _ _ hr'
    |false=>simp
  ·cases h
theorem afV {n:Nat} {t:TypeId} {x y:Value} {b:Bool} (h:Fa P n t x y=some b):∃d,P.underlying t=some d:=by
 cases n with
 |zero=>cases h
 |succ n=>
  unfold Fa at h;split at h<;>first|exact⟨_,by assumption⟩|cases h
theorem JO {n:Nat} {t:TypeId} {d:TypeDesc} {x y:Value} {b:Bool} (hd:P.underlying t=some d) (h:Fa P n t x y=some b):Instr.sameNow d x y=some b\/Instr.sameNow d x y=none:=by
 cases n with
 |zero=>cases h
 |succ n=>
  unfold Fa at h;split at h
  ·rename_i hu;rw[hd] at hu;cases hu
   cases h
   exact .inl rfl
  ·rename_i k0 k a k' c hu;rw[hd] at hu;cases hu
   cases hk:KH k k' with
   |false=>rw[hk] at h;cases h
   |true=>
    rw[hk] at h;have:=MH hk;subst this
    cases h
    exact .inl (by simp[Instr.sameNow])
  ·rename_i hu;rw[hd] at hu;cases hu
   cases h
   exact .inl (by simp[Instr.sameNow,strEq,beq_toListBytes])
  ·rename_i hu;rw[hd] at hu;cases hu;exact .inr rfl
  ·rename_i hu;rw[hd] at hu;cases hu;exact .inr rfl
  ·cases h
theorem Uy {kt:TypeId} {d:TypeDesc} {key:Value} (hd:P.underlying kt=some d):∀(es:List MapEntry) (i:Nat) (res:Option (Nat×Value)),vW P kt key es i=some res->Instr.findNow d key es i=some res\/Instr.findNow d key es i=none:=by
 intro es
 induction es with
 |nil=>intro i res h;simp only[vW,Option.some.injEq] at h;subst h;exact .inl rfl
 |cons e es ih=>
  intro i res h;simp only[vW] at h;split at h
  ·rename_i he
   cases h
   rcases JO hd he with h1|h1
   ·exact .inl (by simp[Instr.findNow,h1])
   ·exact .inr (by simp[Instr.findNow,h1])
  ·rename_i he;rcases JO hd he with h1|h1
   ·rcases ih _ _ h with h2|h2
    ·exact .inl (by simp[Instr.findNow,h1,h2])
    ·exact .inr (by simp[Instr.findNow,h1,h2])
   ·exact .inr (by simp[Instr.findNow,h1])
  ·cases h
theorem Rz {kt:TypeId} {key:Value} {w:θ}:∀(es:List MapEntry) (i:Nat) (res:Option (Nat×Value)),vW P kt key es i=some res->(Instr.findAsking kt key es i).run P w= .ok res w:=by
 intro es
 induction es with
 |nil=>intro i res h;simp only[vW,Option.some.injEq] at h;subst h;rfl
 |cons e es ih=>
  intro i res h;simp only[vW] at h;split at h
  ·rename_i he
   cases h
   simp[Instr.findAsking,Op.equal,Op.maxDepth,WZ 16 kt _ _ _ 10000 w he (by omega)]
  ·rename_i he;simp[Instr.findAsking,Op.equal,Op.maxDepth,WZ 16 kt _ _ _ 10000 w he (by omega),ih _ _ h]
  ·cases h
theorem wV {kt:TypeId} {d:TypeDesc} {key:Value} {es:List MapEntry} {res:Option (Nat×Value)} {w:θ} (hd:P.underlying kt=some d) (h:vW P kt key es 0=some res):(Instr.findKey kt key es).run P w= .ok res w:=by
 rcases Uy hd es 0 res h with h1|h1
 ·simp[Instr.findKey,run_underlying hd,h1]
 ·simp[Instr.findKey,run_underlying hd,h1,Rz es 0 res h]
theorem vV:∀(n:Nat) (t:TypeId) (x y:Value) (b:Bool) (m:Nat) (em:Bool) (w:θ),Fa P n t x y=some b->n<=m->(Instr.checkKey em m t x).run P w= .ok () w:=by
 intro n
 induction n with
 |zero=>intro t x y b m em w h;cases h
 |succ n ih=>
  intro t x y b m em w h hm;obtain⟨m,rfl⟩:∃m',m=m'+1:=⟨m - 1,by omega⟩;unfold Fa at h;split at h
  ·rename_i hu;simp[Instr.checkKey,run_underlying hu]
  ·rename_i hu;simp[Instr.checkKey,run_underlying hu]
  ·rename_i hu;simp[Instr.checkKey,run_underlying hu]
  ·rename_i fs xs ys hu
   cases hp:P.stoodInHeld t with
   |true=>rw[hp] at h;cases h
   |false=>
    rw[hp] at h;simp only[cond_false] at h;simp only[Instr.checkKey,Sem.run_bind,run_underlying hu,Result.andThen_ok];rw[<- Array.forIn_toList];generalize fs.toList=l at h;clear hu
    induction l generalizing b with
    |nil=>simp
    |cons fd l ihl=>
     simp only[aeh] at h
     cases I:(fd.name=="_") with
     |true=>rw[I] at h;cases h
     |false=>
      rw[I] at h;simp only[cond_false] at h;split at h
      case h_2=>cases h
      rename_i d size hd hs;split at h
      case h_2=>cases h
      rename_i u v hu hv;split at h
      case h_2=>cases h
      rename_i r hr;obtain⟨r',hr',rfl⟩:=Io h;have J:fd.name≠"_":=by simpa using I
      have:=ihl _ hr';simp only[List.forIn_cons,J,ne_eq,not_false_eq_true,if_true,Sem.run_bind,zC hd hs hu,Result.andThen_ok,ih _ _ _ _ m em w hr (by omega),Sem.run_pure];exact this
  ·rename_i n' e xs ys hu;split at h
   case h_2=>cases h
   rename_i de size hd hs;simp only[Instr.checkKey,Sem.run_bind,run_underlying hu,Result.andThen_ok];simp only[Std.Legacy.Range.forIn_eq_forIn_range',Std.Legacy.Range.size,Nat.sub_zero,Nat.add_one_sub_one,Nat.div_one];generalize 0=j at h ⊢;clear hu
   induction n' generalizing b j with
   |zero=>simp
   |succ n' ihn=>
    simp only[aei] at h;split at h
    case h_2=>cases h
    rename_i u v hu hv;split at h
    case h_2=>cases h
    rename_i r hr;obtain⟨r',hr',rfl⟩:=Io h;have:=ihn _ _ hr';simp only[List.range'_succ,List.forIn_cons,Sem.run_bind,jC hs,Result.andThen_ok,zC hd hs hu,ih _ _ _ _ m em w hr (by omega),Sem.run_pure];exact this
  ·cases h
theorem JM {v:Value} (h:aeM v=true) (n:Nat):Instr.sameBits n v v=true:=by
 cases v<;>first|(cases h;done)|simp[Instr.sameBits,MapKept.bytes_beq]
theorem Ia {v:Value} (h:X_ v=true) (n:Nat):Instr.sameBits (n+1) v v=true:=by
 unfold X_ at h;split at h
 ·rename_i cs;simp only[Instr.sameBits,beq_self_eq_true,Bool.true_and,List.all_eq_true];simp only[List.all_eq_true] at h;rintro⟨x,y⟩ u;have:x=y:=by
   obtain⟨i,hi⟩:=List.getElem?_of_mem u;simp[List.getElem?_zip_eq_some] at hi;have:=hi.1.symm.trans hi.2;simpa using this
  subst this;exact JM (h x (List.of_mem_zip u).1) n
 ·exact JM h _
theorem xZ {kt:TypeId} {key:Value} (h:ny P kt key=true):X_ key=true/\∃d b,P.underlying kt=some d/\Fa P 16 kt key key=some b:=by
 simp only[ny,and_eq_true,Option.isSome_iff_exists] at h;obtain⟨h1,b,hb⟩:=h;obtain⟨d,hd⟩:=afV hb;exact⟨h1,d,b,hd,hb⟩
theorem LZ {k:Kind} {v:Value} {φ:k.T->Prop} (h:k.dec v φ):∃x,v=k.enc x/\φ x:=by
 cases k<;>cases v<;>first
  |exact h.elim
  |exact⟨_,rfl,h⟩
  |skip
 case int.int k k' n=>
  simp only[Kind.dec] at h
  cases hb:KH k k' with
  |false=>rw[hb] at h;exact h.elim
  |true=>
   rw[hb] at h;have:=MH hb;subst this;exact⟨n,rfl,h⟩
theorem xk {t:TypeId} {z:Value} {w:θ} (h:C_ P t=some z):(zeroValue t).run P w= .ok z w:=by
 unfold C_ at h;split at h
 ·rename_i i hi;simp[zeroValue,run_typeInfo hi,h]
 ·cases h
theorem Ϙ {t kt et:TypeId} {k:Kind} {r:Option Nat} {key zero:Value} {w:θ} {K:k.T->Prop} (ht:P.underlying t=some (.map kt et)) (hz:C_ P et=some zero) (h:qG P kt k r key zero w K):
  ∃x,(Instr.lookup t (.map r) key false).run P w= .ok (k.enc x) w/\K x:=by
 obtain⟨hk,h⟩:=h;obtain⟨_,d,b',hd,hb'⟩:=xZ hk;have u:∀em,(Instr.checkKey em 10000 kt key).run P w= .ok () w:=λem=>vV 16 kt key key b' 10000 em w hb' (by omega);rcases h with ⟨rfl,h⟩|⟨b,es,clock,rfl,hb,res,I,h⟩
 ·obtain⟨x,hx,h⟩:=LZ h;refine⟨x,?_,h⟩;have hf:(Instr.findKey kt key []).run P w= .ok none w:=wV hd rfl;simp[Instr.lookup,run_underlying ht,u,hf,xk hz,hx]
 ·obtain⟨x,hx,h⟩:=LZ h;refine⟨x,?_,h⟩;have hf:=wV (w:=w) hd I
  cases res with
  |none=>simp[Instr.lookup,run_underlying ht,MapKept.run_getObj_map hb,u,hf,xk hz,<- hx]
  |some p=>
   obtain⟨i,v⟩:=p;simp[Instr.lookup,run_underlying ht,MapKept.run_getObj_map hb,u,hf,<- hx]
theorem Pg {t kt et:TypeId} {r:Option Nat} {key zero:Value} {w:θ} {K:Value->Bool->Prop} (ht:P.underlying t=some (.map kt et)) (hz:C_ P et=some zero) (h:Ik P kt r key zero w K) (ok:Bool):
  ∃v b,(Instr.lookup t (.map r) key ok).run P w= .ok (if ok=true then .tuple #[v,.bool b] else v) w/\K v b:=by
 obtain⟨hk,h⟩:=h;obtain⟨_,d,b',hd,hb'⟩:=xZ hk;have u:∀em,(Instr.checkKey em 10000 kt key).run P w= .ok () w:=λem=>vV 16 kt key key b' 10000 em w hb' (by omega);rcases h with ⟨rfl,h⟩|⟨b,es,clock,rfl,hb,res,I,h⟩
 ·refine⟨_,_,?_,h⟩;have hf:(Instr.findKey kt key []).run P w= .ok none w:=wV hd rfl;simp[Instr.lookup,run_underlying ht,u,hf,xk hz]
 ·have hf:=wV (w:=w) hd I
  cases res with
  |none=>
   refine⟨_,_,?_,h⟩;simp[Instr.lookup,run_underlying ht,MapKept.run_getObj_map hb,u,hf,xk hz]
  |some p=>
   obtain⟨i,v⟩:=p;refine⟨_,_,?_,h⟩;simp[Instr.lookup,run_underlying ht,MapKept.run_getObj_map hb,u,hf]
theorem QJ {t kt et:TypeId} {r:Option Nat} {key val:Value} {w:θ} {K:b_} (ht:P.underlying t=some (.map kt et)) (h:og P kt r key val w K):
  ∃w',(Instr.mapUpdate t (.map r) key val).run P w= .ok () w'/\K w':=by
 obtain⟨hk,b,es,clock,rfl,hb,res,u,h⟩:=h;obtain⟨hp,d,b',hd,hb'⟩:=xZ hk;have I:∀em,(Instr.checkKey em 10000 kt key).run P w= .ok () w:=λem=>vV 16 kt key key b' 10000 em w hb' (by omega);have hf:=wV (w:=w) hd u
 cases res with
 |none=>exact⟨_,by simp[Instr.mapUpdate,run_underlying ht,MapKept.run_getObj_map hb,I,hf,MapKept.run_setObj_map _ hb];rfl,h⟩
 |some p=>
  obtain⟨i,v⟩:=p;obtain⟨⟨e,he,J⟩,h⟩:=h;have N:(Instr.keyThatStays e.key key).run P w= .ok key w:=by
   rw[J];simp[Instr.keyThatStays,Ia hp]
  exact⟨_,by simp[Instr.mapUpdate,run_underlying ht,MapKept.run_getObj_map hb,I,hf,he,N,MapKept.run_setObj_map _ hb];rfl,h⟩
theorem ϗ {t kt et:TypeId} {r:Option Nat} {key zero:Value} {w:θ} {K:Value->Int->b_} (ht:P.underlying t=some (.map kt et)) (hz:C_ P et=some zero) (h:ads P kt r key zero w K):
  ∃v n w',(Instr.mapEntry t (.map r) key).run P w= .ok (.tuple #[v,.int .i64 n]) w'/\K v n w':=by
 obtain⟨hk,b,es,clock,rfl,hb,res,u,h⟩:=h;obtain⟨hp,d,b',hd,hb'⟩:=xZ hk;have I:∀em,(Instr.checkKey em 10000 kt key).run P w= .ok () w:=λem=>vV 16 kt key key b' 10000 em w hb' (by omega);have hf:=wV (w:=w) hd u
 cases res with
 |none=>exact⟨_,_,_,by simp[Instr.mapEntry,run_underlying ht,MapKept.run_getObj_map hb,I,hf,xk hz,MapKept.run_setObj_map _ hb,goInt];rfl,h⟩
 |some p=>
  obtain⟨i,v⟩:=p;obtain⟨e,he,J,h⟩:=h;have N:(Instr.keyThatStays e.key key).run P w= .ok key w:=by
   rw[J];simp[Instr.keyThatStays,Ia hp]
  exact⟨_,_,_,by simp[Instr.mapEntry,run_underlying ht,MapKept.run_getObj_map hb,I,hf,he,N,MapKept.run_setObj_map _ hb,goInt];rfl,h⟩
theorem abN {t:TypeId} {r:Option Nat} {k:IntKind} {n:Int} {val:Value} {w:θ} {K:b_} (h:ag5 r n val w K):
  ∃w',(Instr.entryStore t (.map r) (.int k n) val).run P w= .ok () w'/\K w':=by
 obtain⟨b,es,clock,i,rfl,hb,hi,h⟩:=h;exact⟨_,by simp[Instr.entryStore,MapKept.run_getObj_map hb,asInt,asIntOf,hi,MapKept.run_setObj_map _ hb];rfl,h⟩
theorem ϖ {t kt et t' ty:TypeId} {r:Option Nat} {key:Value} {w:θ} {K:b_} (ht:P.underlying t=some (.map kt et)) (h:adr P kt r key w K):
  ∃w',(Builtin.delete_ ⟨[t,t']⟩ ty ⟨[.map r,key]⟩).run P w= .ok (.tuple #[]) w'/\K w':=by
 obtain⟨hk,h⟩:=h;obtain⟨_,d,b',hd,hb'⟩:=xZ hk;have u:∀em,(Instr.checkKey em 10000 kt key).run P w= .ok () w:=λem=>vV 16 kt key key b' 10000 em w hb' (by omega);rcases h with ⟨rfl,h⟩|⟨b,es,clock,rfl,hb,res,I,h⟩
 ·exact⟨_,by simp[Builtin.delete_,run_underlying ht,u],h⟩
 ·have hf:=wV (w:=w) hd I
  cases res with
  |none=>exact⟨_,by simp[Builtin.delete_,run_underlying ht,MapKept.run_getObj_map hb,u,hf,MapKept.run_setObj_map _ hb];rfl,h⟩
  |some p=>
   obtain⟨i,v⟩:=p;exact⟨_,by simp[Builtin.delete_,run_underlying ht,MapKept.run_getObj_map hb,u,hf,MapKept.run_setObj_map _ hb];rfl,h⟩
theorem WH {op:BinOp} {t:TypeId} {x y:Value} {φ:Value->Prop} (a b:Operand) {w:θ} (h:FY P op t x y φ):
  ∃v,((do eqGuard op t a b x y;binOp op t x y):Sem Value).run P w= .ok v w/\φ v:=by
 unfold FY at h;split at h
 ·rename_i k n;have hg:(eqGuard op t a b (.int k n) y).run P w= .ok () w:=by cases op<;>cases y<;>simp[eqGuard]
  simp only[Sem.run_bind,hg,Result.andThen_ok]
  cases y with
  |int k' m=>
   by_cases h1:op= .shl
   ·subst h1;simp only[JX] at h;refine⟨_,?_,h.2⟩;have:¬m<0:=Int.not_lt.2 h.1;simp[binOp,Op.shift,this,FU]
   ·by_cases h2:op= .shr
    ·subst h2;simp only[JX] at h;refine⟨_,?_,h.2⟩;have:¬m<0:=Int.not_lt.2 h.1;simp[binOp,Op.shift,this,jH]
    ·have h':cond (KH k k') (KJ op k n m φ) False:=by cases op<;>first|exact h|exact absurd rfl h1|exact absurd rfl h2
     cases hk:KH k k' with
     |false=>rw[hk] at h';exact h'.elim
     |true=>
      rw[hk] at h';have:=MH hk;subst this;exact Ϻ ⟨h1,h2⟩ h'
  |_=>cases op<;>exact h.elim
 ·rename_i s;have hg:(eqGuard op t a b (.string s) y).run P w= .ok () w:=by cases op<;>cases y<;>simp[eqGuard]
  simp only[Sem.run_bind,hg,Result.andThen_ok]
  cases y with
  |string s'=>
   have h:Ls op s s' φ:=by cases op<;>exact h
   exact aaO h
  |_=>cases op<;>exact h.elim
 ·rename_i xs;split at h
  case h_2=>exact h.elim
  rename_i s ys ho
  cases hg:P.eqGuardType P.depth t with
  |true=>rw[hg] at h;exact h.elim
  |false=>
   rw[hg] at h;simp only[cond_false] at h;split at h
   case h_2=>exact h.elim
   rename_i r hr;have he:=WZ 16 t _ _ r 10000 w hr (by omega);refine⟨_,?_,h⟩;simp only[Sem.run_bind,run_eqGuard_agg w op t a b xs ys hg,Result.andThen_ok]
   cases op<;>simp only[GU,Option.some.injEq] at ho<;>first|(cases ho;done)|skip
   ·subst ho;rw[run_eql_struct,he];rfl
   ·subst ho;rw[run_neq_struct,he];rfl
 ·split at h
  ·rename_i ho hd;have:op= .eql:=by cases op<;>first|rfl|(simp[GU] at ho)
   subst this;obtain⟨v,hr,hφ⟩:=Vy (w:=w) hd h;exact⟨_,by simp[Po h,(Pn h t).1,hr],hφ⟩
  ·rename_i ho hd;have:op= .neq:=by cases op<;>first|rfl|(simp[GU] at ho)
   subst this;obtain⟨v,hr,hφ⟩:=Vy (w:=w) hd h;exact⟨_,by simp[Po h,(Pn h t).2,hr],hφ⟩
  ·exact h.elim
theorem Ω {op:UnOp} {x:Value} {φ:Value->Prop} {w:θ} (h:NJ op x φ):∃v,(Op.unary op x).run P w= .ok v w/\φ v:=by
 unfold NJ at h;split at h
 ·exact⟨_,by simp[Op.unary,Op.intArith],h⟩
 ·exact⟨_,by simp[Op.unary],h⟩
 ·exact⟨_,by simp only[Op.unary];rfl,h⟩
 ·exact h.elim
theorem zB {ρ:Operand->Value} {x:Option Operand} {dflt:Int} {φ:Int->Prop} (h:yh ρ x dflt φ):
  (x=none/\φ dflt)\/∃o k n,x=some o/\ρ o= .int k n/\φ n:=by
 unfold yh at h;split at h
 ·exact .inl ⟨rfl,h⟩
 ·rename_i o;split at h
  ·rename_i k n hv;exact .inr ⟨o,k,n,rfl,hv,h⟩
  ·exact h.elim
theorem jY {k:IntKind} {i:Int} {y:Nat} {c:BoundsCode} {w:θ} (h0:0<=i) (h1:i<=(y:Int)):
  (Instr.sliceBound (.int k i) y c).run P w= .ok i.toNat w:=by
 simp[Instr.sliceBound,asIntOf,h0,h1]
theorem WL {isS:Bool} {len cap:Nat} {ρ:Operand->Value} {lo hi:Option Operand} {φ:Int->Int->Prop} {w:θ} (_:isS=true\/len=cap)
  (h:yh ρ lo 0 λl=>yh ρ hi (len:Int) λh=>φ l h) (hb:∀l h,φ l h->0<=l/\l<=h/\h<=(cap:Int)):
  ∃l h,(Instr.sliceBounds isS len cap (lo.map ρ) (hi.map ρ) none).run P w= .ok (l.toNat,h.toNat,cap) w/\φ l h:=by
 rcases zB h with ⟨e1,h1⟩|⟨o,k,l,e1,ho,h1⟩
 ·subst e1;rcases zB h1 with ⟨e2,h2⟩|⟨o',k',h',e2,ho',h2⟩
  ·subst e2;exact⟨_,_,by simp[Instr.sliceBounds],h2⟩
  ·subst e2;obtain⟨a1,a2,a3⟩:=hb _ _ h2;exact⟨_,_,by simp[Instr.sliceBounds,ho',jY (Int.le_trans a1 a2) a3],h2⟩
 ·subst e1;rcases zB h1 with ⟨e2,h2⟩|⟨o',k',h',e2,ho',h2⟩
  ·subst e2;obtain⟨a1,a2,a3⟩:=hb _ _ h2;exact⟨_,_,by simp[Instr.sliceBounds,ho,jY a1 a2],h2⟩
  ·subst e2;obtain⟨a1,a2,a3⟩:=hb _ _ h2;have a4:l<=((h'.toNat:Nat):Int):=by omega
   exact⟨_,_,by simp[Instr.sliceBounds,ho,ho',jY (Int.le_trans a1 a2) a3,jY a1 a4],h2⟩
theorem afD {isS:Bool} {len cap:Nat} {ρ:Operand->Value} {lo:Option Operand} {oh om:Operand} {φ:Int->Int->Int->Prop} {w:θ}
  (h:yh ρ lo 0 λl=>yh ρ (some oh) 0 λh=>yh ρ (some om) 0 λm=>φ l h m) (hb:∀l h m,φ l h m->0<=l/\l<=h/\h<=m/\m<=(cap:Int)):
  ∃l h m,(Instr.sliceBounds isS len cap (lo.map ρ) (some (ρ oh)) (some (ρ om))).run P w= .ok (l.toNat,h.toNat,m.toNat) w/\φ l h m:=by
 have key:∀l,(yh ρ (some oh) 0 λh=>yh ρ (some om) 0 λm=>φ l h m)->∃kh h km m,ρ oh= .int kh h/\ρ om= .int km m/\φ l h m:=by
  intro l hh;rcases zB hh with ⟨e2,_⟩|⟨o',k',h',e2,ho',h2⟩
  ·cases e2
  ·cases e2
   rcases zB h2 with ⟨e3,_⟩|⟨o'',k'',h'',e3,ho'',h3⟩
   ·cases e3
   ·cases e3
    exact⟨_,_,_,_,ho',ho'',h3⟩
 rcases zB h with ⟨e1,h1⟩|⟨o,k,l,e1,ho,h1⟩
 ·subst e1;obtain⟨kh,h',km,m,ho,hm,h2⟩:=key _ h1;obtain⟨a1,a2,a3,a4⟩:=hb _ _ _ h2;have b1:(0:Int)<=m:=by omega
  have b3:h'<=((m.toNat:Nat):Int):=by omega
  exact⟨_,_,_,by simp[Instr.sliceBounds,ho,hm,jY b1 a4,jY a2 b3],h2⟩
 ·subst e1;obtain⟨kh,h',km,m,ho',hm,h2⟩:=key _ h1;obtain⟨a1,a2,a3,a4⟩:=hb _ _ _ h2;have b1:(0:Int)<=m:=by omega
  have b2:(0:Int)<=h':=by omega
  have b3:h'<=((m.toNat:Nat):Int):=by omega
  have b4:l<=((h'.toNat:Nat):Int):=by omega
  exact⟨_,_,_,by simp[Instr.sliceBounds,ho,ho',hm,jY b1 a4,jY b2 b3,jY a1 b4],h2⟩
theorem Yd {t:TypeId} {x:Value} {ρ:Operand->Value} {lo hi mx:Option Operand} {φ:Value->Prop} {w:θ} (h:Ib P t x ρ lo hi mx φ):
  ∃v,(Instr.sliceAt t x (lo.map ρ) (hi.map ρ) (mx.map ρ)).run P w= .ok v w/\φ v:=by
 unfold Ib at h;split at h
 ·rename_i s ht;split at h
  ·obtain⟨l,h',hr,h0⟩:=WL (P:=P) (isS:=false) (len:=s.size) (cap:=s.size) (w:=w) (.inr rfl) h (λl h' hh=>⟨hh.1,hh.2.1,hh.2.2.1⟩);exact⟨_,by simp[Instr.sliceAt,Instr.slice,run_underlying ht,hr],h0.2.2.2⟩
  ·exact h.elim
 ·rename_i e a n c ht;split at h
  ·rename_i size hs;split at h
   ·obtain⟨l,h',hr,h0⟩:=WL (P:=P) (isS:=true) (len:=n) (cap:=c) (w:=w) (.inl rfl) h (λl h' hh=>⟨hh.1,hh.2.1,hh.2.2.1⟩);exact⟨_,by simp[Instr.sliceAt,Instr.slice,run_underlying ht,hr,jC hs,fU.v,qm],h0.2.2.2⟩
   ·rename_i m;split at h
    ·rename_i hi';obtain⟨l,h',m',hr,h0⟩:=afD (P:=P) (isS:=true) (len:=n) (cap:=c) (w:=w) h (λl h' m' hh=>⟨hh.1,hh.2.1,hh.2.2.1,hh.2.2.2.1⟩);exact⟨_,by simp[Instr.sliceAt,Instr.slice,run_underlying ht,hr,jC hs,fU.v,qm],h0.2.2.2.2⟩
    ·exact h.elim
  ·exact h.elim
 ·rename_i n e a ht;split at h
  ·rename_i size hs;split at h
   ·obtain⟨l,h',hr,h0⟩:=WL (P:=P) (isS:=false) (len:=n) (cap:=n) (w:=w) (.inr rfl) h (λl h' hh=>⟨hh.1,hh.2.1,hh.2.2.1⟩);exact⟨_,by simp[Instr.sliceAt,Instr.sureAddr,run_underlying ht,hr,jC hs,fU.v],h0.2.2.2⟩
   ·exact h.elim
  ·exact h.elim
 ·exact h.elim
end
end Gp
end
