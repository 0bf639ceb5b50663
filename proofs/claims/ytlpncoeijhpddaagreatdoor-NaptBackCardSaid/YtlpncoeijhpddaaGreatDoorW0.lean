import Derived.RangeFuncLeaves
import Derived.OrdersIn
import Derived.RangeFuncSeq
import Derived.Maps.RangeRun
import Derived.Laws.Append
import Derived.Laws.Slices
import Derived.Laws.MakeOwn
import Derived.Laws.CopyOwn
import Derived.Laws.BytesString
import Derived.Laws.BytesArg
import Derived.Laws.StructEq
import Derived.MapKept
import Derived.WideKeyRuns
import Derived.ChangeKeysEq
abbrev aaf:=@cond_false
abbrev abt:=@cond_true
abbrev abu:=@Int.toNat_natCast
abbrev acI:=@decide_true
abbrev acR:=@decide_false
abbrev acZ:=@if_neg
abbrev adt:=@Bool.not_true
abbrev adP:=@List.getElem?_eq_getElem
abbrev adX:=@decide_eq_false
abbrev adZ:=@if_pos
abbrev afe:=@List.getElem?_cons_zero
abbrev aff:=@decide_eq_true
abbrev afg:=@List.getElem?_eq_some_iff
abbrev afh:=@List.getElem?_cons_succ
abbrev afk:=@Bool.not_false
abbrev afp:=@true_and
abbrev af5:=@List.set_cons_zero
abbrev agI:=@List.mem_cons
abbrev ahm:=@List.set_cons_succ
abbrev ahn:=@Nat.zero_add
abbrev aho:=@Option.some.injEq
abbrev ahF:=@Option.map_some
abbrev ahP:=@List.length_append
abbrev air:=@Ne.symm
abbrev aiz:=@List.length_map
abbrev aiC:=@Nat.mul_one
abbrev aiK:=@List.getElem?_map
abbrev ajg:=@List.length_cons
abbrev ajn:=@if_true
abbrev ajq:=@Nat.le_refl
abbrev ajr:=@List.not_mem_nil
abbrev ajH:=@List.length_take
abbrev akh:=@List.map_cons
abbrev aks:=@List.take_append_drop
abbrev akt:=@Option.isSome_some
abbrev aku:=@if_false
abbrev akx:=@List.take_succ_eq_append_getElem
abbrev aky:=@List.append_assoc
abbrev akC:=@Nat.add_zero
abbrev akE:=@Array.getElem?_eq_some_iff
abbrev akK:=@Nat.le_trans
abbrev akQ:=@List.getElem?_set
abbrev akR:=@Option.some.inj
abbrev akU:=@List.getElem_mem
abbrev alf:=@or_false
abbrev alg:=@Bool.and_eq_true
abbrev alh:=@List.getElem?_append_right
abbrev ali:=@List.take_of_length_le
abbrev alj:=@List.mem_append
abbrev alk:=@List.mem_singleton
abbrev alo:=@List.take_length
abbrev alp:=@List.mem_map
abbrev als:=@List.mem_of_getElem?
abbrev alx:=@List.flatMap_cons
abbrev aly:=@Array.getElem?_modify
abbrev alA:=@Nat.lt_of_lt_of_le
abbrev alH:=@Option.isSome_none
abbrev alN:=@Nat.add_mul
abbrev alO:=@Option.getD_some
abbrev alP:=@List.length_set
abbrev alQ:=@and_self
abbrev alR:=@List.flatMap_append
abbrev alS:=@Bool.decide_and
abbrev alT:=@List.getElem?_append_left
abbrev alU:=@List.mem_cons_of_mem
abbrev alV:=@Nat.mod_lt
abbrev alW:=@Nat.eq_of_beq_eq_true
abbrev alX:=@Prod.mk.injEq
abbrev alY:=@List.cons_append
abbrev alZ:=@BitVec.toNat_ofInt
abbrev al0:=@Int.tmod_eq_emod_of_nonneg
abbrev al1:=@List.mem_filter
abbrev al2:=@List.length_drop
abbrev al3:=@List.take_add_one
abbrev al4:=@List.map_append
abbrev al5:=@List.all_eq_true
abbrev al6:=@List.replicate_succ
abbrev al7:=@Nat.lt_trichotomy
abbrev al8:=@Nat.add_assoc
abbrev al9:=@Array.getD_eq_getD_getElem?
abbrev al_:=@Bool.not_eq_true'
abbrev ama:=@Array.getElem?_setIfInBounds
abbrev amb:=@Nat.min_eq_left
abbrev amc:=@List.drop_eq_getElem_cons
abbrev amd:=@List.nil_append
abbrev ame:=@Classical.byContradiction
abbrev amf:=@and_true
abbrev amg:=@Nat.sub_zero
abbrev amh:=@List.cons.injEq
abbrev ami:=@List.set_append_right
abbrev amj:=@bne_iff_ne
abbrev amk:=@List.mem_cons_self
abbrev aml:=@Nat.zero_mul
abbrev amm:=@List.nodup_cons
abbrev amn:=@List.length_nil
abbrev amo:=@List.getElem?_of_mem
abbrev amq:=@Array.getElem?_eq_getElem
abbrev amr:=@List.getElem?_take
abbrev ams:=@Option.map_eq_some_iff
abbrev amu:=@List.filter_append
abbrev amv:=@Nat.blt_eq
abbrev amw:=@Nat.mul_le_mul_right
abbrev amx:=@BitVec.toNat_and
abbrev amy:=@List.nodup_append
abbrev amA:=@List.getElem?_replicate
abbrev amB:=@Nat.pow_le_pow_right
abbrev amC:=@of_decide_eq_false
abbrev amD:=@List.mem_of_mem_drop
abbrev amE:=@List.getD_eq_getElem?_getD
abbrev amF:=@Bool.or_eq_false_iff
abbrev amG:=@Option.isNone_some
abbrev amH:=@beq_eq_false_iff_ne
abbrev amI:=@Int.toNat_zero
abbrev amJ:=@decide_eq_decide
abbrev amK:=@Int.tdiv_eq_ediv_of_nonneg
abbrev amL:=@Array.toList_inj
abbrev amM:=@Array.length_toList
abbrev amN:=@List.getElem?_drop
abbrev amO:=@List.foldl_cons
abbrev amP:=@Option.isSome_iff_exists
abbrev amQ:=@Bool.or_eq_true
abbrev amR:=@List.size_toArray
abbrev amS:=@List.mem_filterMap
abbrev amT:=@List.getElem?_eq_none
abbrev amU:=@Array.getElem?_push
abbrev amV:=@of_decide_eq_true
abbrev amW:=@List.drop_zero
abbrev amX:=@Int.fdiv_eq_ediv_of_nonneg
abbrev amY:=@Int.natCast_ediv
abbrev amZ:=@List.mem_of_mem_take
abbrev am0:=@List.mem_take_iff_getElem
abbrev am1:=@List.pairwise_iff_getElem
abbrev am2:=@Nat.lt_irrefl
abbrev am3:=@List.filter_cons
abbrev am4:=@UInt8.toNat_ofNat'
abbrev am5:=@List.ext_getElem?
abbrev am6:=@not_false_eq_true
abbrev am7:=@beq_self_eq_true
abbrev am8:=@List.length_singleton
abbrev am9:=@Array.toList_modify
abbrev am_:=@Nat.and_two_pow_sub_one_eq_mod
abbrev ana:=@Option.isNone_none
abbrev anb:=@List.take_succ_cons
abbrev anc:=@List.pairwise_cons
abbrev ane:=@List.filter_eq_self
abbrev anf:=@List.length_filter_le
abbrev ang:=@Nat.xor_lt_two_pow
abbrev anh:=@List.any_eq_true
abbrev ani:=@List.set_eq_take_append_cons_drop
abbrev anj:=@Array.getElem?_append_left
abbrev ank:=@Nat.shiftRight_eq_div_pow
abbrev θ:=Go.World
open List (map_map)
open Nat (ble_eq)
section
namespace Gp
open Go
abbrev b_:=θ->Prop
abbrev gu:=Option Addr
theorem d_{a:Type}:(∀(b:a) (c:List a),(b::c)[0]? =some b)/\∀(b:a) (c:List a) (d:Nat),(b::c)[d+1]? =c[d]?:=⟨λ_ _=>rfl,λ_ _ _=>rfl⟩
inductive Kind where
 |int (k:IntKind)|bool|str|ptr|slice|map|any
abbrev ν:Kind:= .int .i64
structure gG where
 a:gu
 len:Nat
 cap:Nat
@[reducible] def Kind.T:Kind->Type
 | .int _=>Int
 | .bool=>Bool
 | .str=>ByteArray
 | .ptr=>gu
 | .slice=>gG
 | .map=>Option Nat
 | .any=>Value
def Kind.enc:(k:Kind)->k.T->Value
 | .int k,n=> .int k n
 | .bool,b=> .bool b
 | .str,s=> .string s
 | .ptr,a=> .pointer a
 | .slice,s=> .slice s.a s.len s.cap
 | .map,r=> .map r
 | .any,v=>v
inductive Shape where
 |one (k:Kind)
 |agg (ks:List Kind)
def kindOf:TypeDesc->Option Kind
 | .bool=>some .bool
 | .int k=>some (.int k)
 | .string=>some .str
 | .pointer _=>some .ptr
 | .slice _=>some .slice
 | .map _ _=>some .map
 | .func _ _ _=>some .any
 | .interface _=>some .any
 |_=>none
def akJ:List (Option (List Kind))->Option (List Kind)
 |[]=>some []
 |x::r=>match x,akJ r with
  |some a,some b=>some (a++b)
  |_,_=>none
def ak7:Nat->List Kind->List Kind
 |0,_=>[]
 |n+1,ks=>ks++ak7 n ks
def Ko (P:Program):Nat->TypeId->Option (List Kind)
 |0,_=>none
 |n+1,t=>match P.underlying t with
  |some (.struct fs)=>akJ (fs.toList.map λf=>Ko P n f.type)
  |some (.array len e)=>match Ko P n e with
   |some ks=>some (ak7 len ks)
   |none=>none
  |some d=>match kindOf d with
   |some k=>some [k]
   |none=>none
  |none=>none
def I_:TypeDesc->Bool
 | .struct _=>true
 | .array _ _=>true
 |_=>false
def shapeOf (P:Program) (t:TypeId):Option Shape:=
 match P.underlying t with
 |some d=>cond (I_ d)
  (match Ko P 20 t with
   |some ks=>some (.agg ks)
   |none=>none)
  (match kindOf d with
   |some k=>some (.one k)
   |none=>none)
 |none=>none
def aa4 (P:Program):List TypeId->Option (List Shape)
 |[]=>some []
 |t::r=>match shapeOf P t,aa4 P r with
  |some a,some b=>some (a::b)
  |_,_=>none
def QF (P:Program) (t:TypeId):Option (List Shape):=
 match P.underlying t with
 |some (.tuple ts)=>aa4 P ts.toList
 |_=>match shapeOf P t with
  |some s=>some [s]
  |none=>none
def ajI:(ks:List Kind)->(List Value->Prop)->Prop
 |[],φ=>φ []
 |k::ks,φ=>∃x:k.T,ajI ks λvs=>φ (k.enc x::vs)
def Shape.ex:Shape->(Value->Prop)->Prop
 | .one k,φ=>∃x:k.T,φ (k.enc x)
 | .agg ks,φ=>ajI ks λvs=>φ (.agg ⟨vs⟩)
def IY:List Shape->(List Value->Prop)->Prop
 |[],φ=>φ []
 |s::r,φ=>s.ex λv=>IY r λvs=>φ (v::vs)
def ϐ:List Value->Value
 |[v]=>v
 |vs=> .tuple ⟨vs⟩
def iP:Value->Bool
 | .agg _=>false
 | .tuple _=>false
 |_=>true
def Ld (k:Kind) (w:θ) (a:Addr) (K:k.T->Prop):Prop:=∃x:k.T,w.cell? a=some (k.enc x)/\K x
def LdN:List Kind->θ->Addr->Nat->(List Value->Prop)->Prop
 |[],_,_,_,φ=>φ []
 |k::ks,w,a,i,φ=>Ld k w (a.add i) λx=>LdN ks w a (i+1) λvs=>φ (k.enc x::vs)
def Shape.ld:Shape->θ->Addr->(Value->Prop)->Prop
 | .one k,w,a,φ=>Ld k w a λx=>φ (k.enc x)
 | .agg ks,w,a,φ=>LdN ks w a 0 λvs=>φ (.agg ⟨vs⟩)
def Shape.cells:Shape->Nat
 | .one _=>1
 | .agg ks=>ks.length
def St (w:θ) (a:Addr) (v:Value) (K:b_):Prop:=iP v=true/\(w.cell? a).isSome=true/\w.frozen? a=false/\K (w.setCell a v)
def iE:List Value->θ->Addr->Nat->(b_)->Prop
 |[],w,_,_,K=>K w
 |v::vs,w,a,i,K=>St w (a.add i) v λw'=>iE vs w' a (i+1) K
@[reducible] def agK (w:θ):Value:= .pointer (some ⟨w.heap.size,0,none⟩)
def iw (z:List Value):Nat->List Value
 |0=>[]
 |n+1=>z++iw z n
def jT (P:Program) (t:TypeId):Option Nat:=
 match P.info? t with
 |some i=>some i.size
 |none=>none
def lZ (k:IntKind) (a b:Int):Int:=k.wrap ((BitVec.ofInt k.bits a &&& BitVec.ofInt k.bits b).toNat:Int)
def orI (k:IntKind) (a b:Int):Int:=k.wrap ((BitVec.ofInt k.bits a|||BitVec.ofInt k.bits b).toNat:Int)
def Wu (k:IntKind) (a b:Int):Int:=k.wrap ((BitVec.ofInt k.bits a^^^BitVec.ofInt k.bits b).toNat:Int)
def ahw (k:IntKind) (a b:Int):Int:=k.wrap ((BitVec.ofInt k.bits a &&& ~~~(BitVec.ofInt k.bits b)).toNat:Int)
def LX (k:IntKind) (a b:Int):Int:=k.wrap (a * 2^(min b.toNat k.bits))
def jR (k:IntKind) (a b:Int):Int:=a.fdiv (2^(min b.toNat k.bits))
def strEq (a b:ByteArray):Bool:=a.toList==b.toList
def strLt (a b:ByteArray):Bool:=Op.bytesLess a.toList b.toList
def Nk:IntKind->IntKind->Bool
 | .i8,.i8| .i16,.i16| .i32,.i32| .i64,.i64| .u8,.u8| .u16,.u16| .u32,.u32| .u64,.u64=>true
 |_,_=>false
def Kind.dec:(k:Kind)->Value->(k.T->Prop)->Prop
 | .int k,.int k' n,φ=>cond (Nk k k') (φ n) False
 | .bool,.bool b,φ=>φ b
 | .str,.string s,φ=>φ s
 | .ptr,.pointer a,φ=>φ a
 | .slice,.slice a l c,φ=>φ ⟨a,l,c⟩
 | .map,.map r,φ=>φ r
 | .any,v,φ=>φ v
 |_,_,_=>False
def Nl (op:BinOp) (k:IntKind) (a b:Int) (φ:Value->Prop):Prop:=
 match op with
 | .add=>φ (.int k (k.wrap (a+b)))
 | .sub=>φ (.int k (k.wrap (a - b)))
 | .mul=>φ (.int k (k.wrap (a * b)))
 | .quo=>b≠0/\φ (.int k (k.wrap (a.tdiv b)))
 | .rem=>b≠0/\φ (.int k (a.tmod b))
 | .and=>φ (.int k (lZ k a b))
 | .or=>φ (.int k (orI k a b))
 | .xor=>φ (.int k (Wu k a b))
 | .andNot=>φ (.int k (ahw k a b))
 | .eql=>φ (.bool (a==b))
 | .neq=>φ (.bool (a !=b))
 | .lss=>φ (.bool (decide (a<b)))
 | .leq=>φ (.bool (decide (a<=b)))
 | .gtr=>φ (.bool (decide (a>b)))
 | .geq=>φ (.bool (decide (a>=b)))
 |_=>False
def NV (op:BinOp) (a b:ByteArray) (φ:Value->Prop):Prop:=
 match op with
 | .add=>((a.size+b.size:Nat):Int)<=IntKind.i64.max/\φ (.string (a++b))
 | .eql=>φ (.bool (strEq a b))
 | .neq=>φ (.bool (!strEq a b))
 | .lss=>φ (.bool (strLt a b))
 | .leq=>φ (.bool (strLt a b||strEq a b))
 | .gtr=>φ (.bool !(strLt a b||strEq a b))
 | .geq=>φ (.bool !(strLt a b))
 |_=>False
def alv:Value->Value->Option Bool
 | .int _ a,.int _ b=>some (a==b)
 | .bool a,.bool b=>some (a==b)
 | .string a,.string b=>some (strEq a b)
 |_,_=>none
def MO (op:BinOp) (x y:Value) (φ:Value->Prop):Prop:=
 match op,x,y with
 | .shl,.int k a,.int _ b=>0<=b/\φ (.int k (LX k a b))
 | .shr,.int k a,.int _ b=>0<=b/\φ (.int k (jR k a b))
 |op,.int k a,.int k' b=>cond (Nk k k') (Nl op k a b φ) False
 |op,.string a,.string b=>NV op a b φ
 |_,_,_=>False
def LZ (d:TypeDesc) (x y:Value) (φ:Bool->Prop):Prop:=
 match d,x,y with
 | .bool,.bool a,.bool b=>φ (a==b)
 | .pointer _,.pointer q,.pointer none=>φ q.isNone
 | .slice _,.slice q _ _,.slice none _ _=>φ q.isNone
 | .map _ _,.map q,.map none=>φ q.isNone
 |_,_,_=>False
def Yr (d:TypeDesc) (size off:Nat) (cs:List Value):Option Value:=
 cond (I_ d) (some (.agg ⟨(cs.drop off).take size⟩)) cs[off]?
def ahx (b:Bool):Option Bool->Option Bool
 |some r=>some (b && r)
 |none=>none
def af2 (P:Program) (f:TypeId->Value->Value->Option Bool) (xs ys:List Value):List Field->Option Bool
 |[]=>some true
 |fd::fs=>cond (fd.name=="_") none (match P.underlying fd.type,jT P fd.type with
  |some d,some size=>match Yr d size fd.offset xs,Yr d size fd.offset ys with
   |some a,some b=>match f fd.type a b with
    |some r=>ahx r (af2 P f xs ys fs)
    |none=>none
   |_,_=>none
  |_,_=>none)
def af4 (f:Value->Value->Option Bool) (d:TypeDesc) (size:Nat) (xs ys:List Value):Nat->Nat->Option Bool
 |0,_=>some true
 |n+1,i=>match Yr d size (i * size) xs,Yr d size (i * size) ys with
  |some a,some b=>match f a b with
   |some r=>ahx r (af4 f d size xs ys n (i+1))
   |none=>none
  |_,_=>none
def Fz (P:Program):Nat->TypeId->Value->Value->Option Bool
 |0,_,_,_=>none
 |d+1,t,x,y=>match P.underlying t,x,y with
  |some .bool,.bool a,.bool b=>some (a==b)
  |some (.int _),.int k a,.int k' b=>cond (Nk k k') (some (a==b)) none
  |some .string,.string a,.string b=>some (strEq a b)
  |some (.struct fs),.agg xs,.agg ys=>cond (P.stoodInHeld t) none (af2 P (Fz P d) xs.toList ys.toList fs.toList)
  |some (.array n e),.agg xs,.agg ys=>match P.underlying e,jT P e with
   |some de,some size=>af4 (Fz P d e) de size xs.toList ys.toList n 0
   |_,_=>none
  |_,_,_=>none
def Ja:BinOp->Option Bool
 | .eql=>some true
 | .neq=>some false
 |_=>none
def Il (P:Program) (op:BinOp) (t:TypeId) (x y:Value) (φ:Value->Prop):Prop:=
 match x with
 | .int _ _=>MO op x y φ
 | .string _=>MO op x y φ
 | .agg _=>match Ja op,y with
  |some s,.agg _=>cond (P.eqGuardType P.depth t) False (match Fz P 16 t x y with
   |some b=>φ (.bool (cond s b (!b)))
   |none=>False)
  |_,_=>False
 |_=>match Ja op,P.underlying t with
  |some true,some d=>LZ d x y λb=>φ (.bool b)
  |some false,some d=>LZ d x y λb=>φ (.bool !b)
  |_,_=>False
def Py (op:UnOp) (x:Value) (φ:Value->Prop):Prop:=
 match op,x with
 | .neg,.int k n=>φ (.int k (k.wrap (0 - n)))
 | .not,.bool b=>φ (.bool !b)
 | .xor,.int k n=>φ (.int k (Wu k (if k.signed then -1 else k.max) n))
 |_,_=>False
def rP (a:gu) (m l size:Nat):gu:=if m=l then a else a.map (·.add (l * size))
def lG (s:gG) (size:Nat) (l h:Int) (K:gG->Prop):Prop:=
 0<=l/\l<=h/\h<=(s.cap:Int)/\K ⟨rP s.a s.cap l.toNat size,h.toNat - l.toNat,s.cap - l.toNat⟩
def TM (s:gG) (size:Nat) (l h m:Int) (K:gG->Prop):Prop:=
 0<=l/\l<=h/\h<=m/\m<=(s.cap:Int)/\K ⟨rP s.a m.toNat l.toNat size,h.toNat - l.toNat,m.toNat - l.toNat⟩
def abC (a:Addr) (n size:Nat) (l h:Int) (K:gG->Prop):Prop:=
 0<=l/\l<=h/\h<=(n:Int)/\K ⟨some (if n=l.toNat then a else a.add (l.toNat * size)),h.toNat - l.toNat,n - l.toNat⟩
def abD (s:ByteArray) (l h:Int) (K:ByteArray->Prop):Prop:=
 0<=l/\l<=h/\h<=(s.size:Int)/\K (s.extract l.toNat h.toNat)
def iK (s:gG) (size:Nat) (i:Int) (K:Addr->Prop):Prop:=
 ∃a,s.a=some a/\0<=i/\i<(s.len:Int)/\K (a.add (i.toNat * size))
def afs (s:ByteArray) (i:Int) (K:Int->Prop):Prop:=
 ∃b:UInt8,0<=i/\s[i.toNat]? =some b/\K (b.toNat:Int)
def Cells (w:θ) (a:Addr) (vs:List Value):Prop:=∀j,j<vs.length->w.cell? (a.add j)=vs[j]?
def oL (w:θ):gu->Nat->List Value->Prop
 |none,_,vs=>vs=[]
 |some a,n,vs=>vs.length=n/\Cells w a vs
def setCells (w:θ) (a:Addr):List Value->Nat->θ
 |[],_=>w
 |v::vs,i=>setCells (w.setCell (a.add i) v) a vs (i+1)
def TN (w:θ) (a:Addr) (n:Nat):Prop:=∀j,j<n->(w.cell? (a.add j)).isSome=true/\w.frozen? (a.add j)=false
def Oh (P:Program) (t:TypeId):Option Nat:=
 match P.info? t with
 |some i=>some i.bytes
 |none=>none
def XO (e:TypeId) (size bytes:Nat) (z:List Value) (s:gG) (n:Nat) (vs:List Value) (w:θ) (K:gG->b_):Prop:=
 (s.len+n<=s.cap/\(∀a,s.a=some a->TN w (a.add (s.len * size)) vs.length)/\(∀v∈vs,iP v=true)/\
  K ⟨s.a,s.len+n,s.cap⟩ (match s.a with|some a=>setCells w (a.add (s.len * size)) vs 0|none=>w))\/
 (s.cap<s.len+n/\(s.len+n) * bytes<=2^46/\s.len+n<=2^62/\∃old,oL w s.a (s.len * size) old/\
  ∀c,s.len+n<=c->c<2^63->K ⟨some ⟨w.heap.size,0,none⟩,s.len+n,c⟩ (w.drew.alloc (.cells ⟨old++vs++iw z (c - (s.len+n))⟩ e)))
def nH (e:TypeId) (size bytes:Nat) (z:List Value) (s x:gG) (w:θ) (K:gG->b_):Prop:=
 ∃vs,oL w x.a (x.len * size) vs/\XO e size bytes z s x.len vs w K
def byteCells (s:ByteArray):List Value:=s.data.toList.map λb=> .int .u8 b.toNat
def ajj (e:TypeId) (size bytes:Nat) (z:List Value) (s:gG) (x:ByteArray) (w:θ) (K:gG->b_):Prop:=
 XO e size bytes z s x.size (byteCells x) w K
def XM (e:TypeId) (size bytes:Nat) (z:List Value) (s:gG) (n:Int) (w:θ) (K:gG->b_):Prop:=
 0<=n/\n * bytes<=2^46/\n<=2^62/\XO e size bytes z s n.toNat (iw z n.toNat) w K
def JX (z:List Value) (s:gG) (w:θ) (K:b_):Prop:=
 (∀a,s.a=some a->TN w a (s.len * z.length))/\(∀v∈z,iP v=true)/\K (match s.a with|some a=>setCells w a (iw z s.len) 0|none=>w)
def Bg (size:Nat) (d s:gG) (w:θ) (K:Int->b_):Prop:=
 ∃vs,oL w s.a (Nat.min s.len d.len * size) vs/\(∀a,d.a=some a->TN w a vs.length)/\(∀v∈vs,iP v=true)/\
  K (Nat.min s.len d.len:Nat) (match d.a with|some a=>setCells w a vs 0|none=>w)
def Ϙ (e:TypeId) (_ bytes:Nat) (z:List Value) (n c:Int) (w:θ) (K:gG->b_):Prop:=
 0<=n/\n<=c/\c<=2^62/\(bytes:Int) * c<=2^48/\
  K ⟨some ⟨w.heap.size,0,none⟩,n.toNat,c.toNat⟩ (w.alloc (.cells ⟨iw z c.toNat⟩ e))
def partOf (d:TypeDesc) (size off:Nat) (cs:List Value) (φ:Value->Prop):Prop:=
 cond (I_ d) (φ (.agg ⟨(cs.drop off).take size⟩))
  (match cs[off]? with
   |some v=>φ v
   |none=>False)
def cellsOfV:Value->List Value
 | .agg cs=>cs.toList
 |v=>[v]
def splice (cs:List Value) (off:Nat) (vs:List Value):List Value:=cs.take off++(vs++cs.drop (off+vs.length))
def I4 (place:Nat->Option (Nat×Nat)):List (Nat×Value)->List Value->Option (List Value)
 |[],cs=>some cs
 |(i,v)::r,cs=>match place i with
  |some (off,size)=>cond (Nat.beq (cellsOfV v).length size && Nat.ble (off+size) cs.length) (I4 place r (splice cs off (cellsOfV v))) none
  |none=>none
def ϳ:List (Nat×Value)->List Value->Option (List Value)
 |[],cs=>some cs
 |(i,v)::r,cs=>cond (Nat.blt i cs.length) (ϳ r (cs.set i v)) none
def PE:List Value->Prop
 |[]=>True
 |v::r=>iP v=true/\PE r
def afy:Option Shape->Bool
 |some (.one .any)=>true
 |_=>false
def qZ (P:Program) (t:TypeId):Option (List Value):=
 match P.info? t with
 |some i=>match i.zero with
  |some z=>some (cellsOfV z)
  |none=>none
 |none=>none
def placesOf (P:Program):List Field->Option (List (Nat×Nat))
 |[]=>some []
 |f::r=>match jT P f.type,placesOf P r with
  |some s,some l=>some ((f.offset,s)::l)
  |_,_=>none
def IZ (P:Program) (fs:Array Field) (i:Nat):Option (Nat×Nat):=
 match fs.toList[i]? with
 |some f=>match jT P f.type with
  |some s=>some (f.offset,s)
  |none=>none
 |none=>none
def o9 (P:Program) (f:FuncId):Bool:=
 match P.funcs[f]? with
 |some fn=>fn.body.isSome
 |none=>false
def ajl (P:Program) (f:FuncId) (args:List Value) (w:θ) (K:Value->b_):Prop:=
 ∃v w',(callFunc f ⟨args⟩).run P w= .ok (.value v) w'/\K v w'
def Ii (P:Program) (sh:List Shape) (f:FuncId) (args:List Value) (w:θ) (K:Value->b_):Prop:=
 Calls P f ⟨args⟩ w λe w'=>IY sh λvs=>e= .returned (ϐ vs)/\K (ϐ vs) w'
def ML (P:Program) (l:Nat) (args:List Value) (w:θ) (K:Bool->b_):Prop:=
 YieldAt Fence.wide 0 P l ⟨args⟩ w λe w'=>∃b:Bool,e= .returned (.bool b)/\K b w'
def jF (P:Program) (sh:List Shape) (v:Value) (args:List Value) (w:θ) (K:Value->b_):Prop:=
 match v with
 | .func (.func f) first cap=>cond (o9 P f) (Ii P sh f (first.toList++(args++cap.toList)) w K) False
 | .func (.yield l) first _=>ML P l (first.toList++args) w λb w'=>K (.bool b) w'
 |_=>False
def TJ (w:θ) (r:Option Nat) (φ:Int->Prop):Prop:=
 match r with
 |none=>φ 0
 |some b=>∃es clock,w.heap[b]? =some (.map es clock)/\φ (es.size:Int)
def Qd (d:TypeDesc) (x:Value) (w:θ) (φ:Int->Prop):Prop:=
 match d,x with
 | .string,.string s=>φ (s.size:Int)
 | .array n _,_=>φ (n:Int)
 | .slice _,.slice _ n _=>φ (n:Int)
 | .map _ _,.map r=>TJ w r φ
 |_,_=>False
def Gw (mx:Bool):Int->List Value->IntKind->(Value->Prop)->Prop
 |x,[],k,φ=>φ (.int k x)
 |x,.int _ y::r,k,φ=>Gw mx (cond mx (if y>x then y else x) (if y<x then y else x)) r k φ
 |_,_::_,_,_=>False
def gG.v (s:gG):Value:= .slice s.a s.len s.cap
def agC:Value->Bool
 | .int _ _=>true
 | .bool _=>true
 | .string _=>true
 |_=>false
def Θ:Value->Bool
 | .agg cs=>cs.toList.all agC
 |v=>agC v
def uP (P:Program) (kt:TypeId) (key:Value):List MapEntry->Nat->Option (Option (Nat×Value))
 |[],_=>some none
 |e::es,i=>match Fz P 16 kt key e.key with
  |some true=>some (some (i,e.val))
  |some false=>uP P kt key es (i+1)
  |none=>none
def oJ (P:Program) (kt:TypeId) (key:Value):Bool:=Θ key && (Fz P 16 kt key key).isSome
def qF (P:Program) (kt:TypeId) (k:Kind) (r:Option Nat) (key zero:Value) (w:θ) (K:k.T->Prop):Prop:=
 oJ P kt key=true/\((r=none/\k.dec zero K)\/∃b es clock,r=some b/\w.heap[b]? =some (.map es clock)/\∃res,uP P kt key es.toList 0=some res/\k.dec (match res with|some (_,v)=>v|none=>zero) K)
def FC (P:Program) (kt:TypeId) (r:Option Nat) (key zero:Value) (w:θ) (K:Value->Bool->Prop):Prop:=
 oJ P kt key=true/\((r=none/\K zero false)\/∃b es clock,r=some b/\w.heap[b]? =some (.map es clock)/\∃res,uP P kt key es.toList 0=some res/\
  match res with|some (_,v)=>K v true|none=>K zero false)
def pq (P:Program) (kt:TypeId) (r:Option Nat) (key val:Value) (w:θ) (K:b_):Prop:=
 oJ P kt key=true/\∃b es clock,r=some b/\w.heap[b]? =some (.map es clock)/\∃res,uP P kt key es.toList 0=some res/\
  match res with
  |some (i,_)=>(∃e,es[i]? =some e/\e.key=key)/\K (w.putObj b (.map (es.modify i λe=>{e with key:=key,val:=val}) clock))
  |none=>K (w.putObj b (.map (es.push {key:=key,val:=val,born:=clock}) (clock+1)))
def FB (P:Program) (kt:TypeId) (r:Option Nat) (key:Value) (w:θ) (K:b_):Prop:=
 oJ P kt key=true/\((r=none/\K w)\/∃b es clock,r=some b/\w.heap[b]? =some (.map es clock)/\∃res,uP P kt key es.toList 0=some res/\
  match res with
  |some (i,_)=>K (w.putObj b (.map (es.eraseIdxIfInBounds i) clock))
  |none=>K (w.putObj b (.map es clock)))
def afl (P:Program) (kt:TypeId) (r:Option Nat) (key zero:Value) (w:θ) (K:Value->Int->b_):Prop:=
 oJ P kt key=true/\∃b es clock,r=some b/\w.heap[b]? =some (.map es clock)/\∃res,uP P kt key es.toList 0=some res/\
  match res with
  |some (i,v)=>∃e,es[i]? =some e/\e.key=key/\K v (e.born:Int) (w.putObj b (.map (es.modify i λe=>{e with key:=key}) clock))
  |none=>K zero (clock:Int) (w.putObj b (.map (es.push {key:=key,val:=zero,born:=clock}) (clock+1)))
def ai6 (r:Option Nat) (stamp:Int) (val:Value) (w:θ) (K:b_):Prop:=
 ∃b es clock i,r=some b/\w.heap[b]? =some (.map es clock)/\es.findIdx? (λe=>(e.born:Int)==stamp)=some i/\K (w.putObj b (.map (es.modify i λe=>{e with val:=val}) clock))
def ajt (r:Option Nat) (w:θ) (K:Addr->b_):Prop:=
 (r=none/\K ⟨w.heap.size,0,none⟩ (w.alloc (.mapIter none 0 #[] 0)))\/
 ∃b es clock,r=some b/\w.heap[b]? =some (.map es clock)/\K ⟨w.heap.size,0,none⟩ (w.alloc (.mapIter (some b) clock #[] clock))
def akD (q:Nat) (w:θ) (Kend:b_) (Kstep:Value->Value->b_):Prop:=
 (∃s sn c,w.heap[q]? =some (.mapIter none s sn c)/\Kend w)\/
 ∃b since seen c0 es clock,w.heap[q]? =some (.mapIter (some b) since seen c0)/\w.heap[b]? =some (.map es clock)/\(∀x∈es.toList,x.born<since)/\since<=c0/\
  ((leftOf es seen).size=0->Kend w)/\
  ∀e∈(leftOf es seen).toList,∀w1,(w1=w\/w1=w.drew)->Kstep e.key e.val (w1.putObj q (.mapIter (some b) since (seen.push e.born) clock))
def ajk (q:Nat) (w:θ) (K:Value->Value->Prop):Prop:=
 ∃b since seen es clock e,w.heap[q]? =some (.mapIter (some b) since (Array.push seen e.born) clock)/\w.heap[b]? =some (.map es clock)/\e∈es.toList/\(es.toList.map (·.born)).Nodup/\K e.key e.val
def EK (P:Program) (t:TypeId):Option Value:=
 match P.info? t with
 |some i=>i.zero
 |none=>none
def qG (P:Program) (b:Builtin) (ts:List TypeId) (args:List Value) (w:θ) (K:Value->b_):Prop:=
 match b,ts,args with
 | .len,[t],[x]=>match P.underlying t with
  |some d=>Qd d x w λn=>K (.int .i64 n) w
  |none=>False
 | .cap,[t],[.slice _ _ c]=>match P.underlying t with
  |some (.slice _)=>K (.int .i64 (c:Int)) w
  |_=>False
 | .max,_,.int k x::r=>Gw true x r k λv=>K v w
 | .min,_,.int k x::r=>Gw false x r k λv=>K v w
 | .append,[t,t'],[.slice a l c,x]=>match P.underlying t,P.underlying t' with
  |some (.slice e),some d=>match jT P e,Oh P e,qZ P e,d,x with
   |some size,some bytes,some z,.slice _,.slice b n m=>nH e size bytes z ⟨a,l,c⟩ ⟨b,n,m⟩ w λs w'=>K s.v w'
   |some size,some bytes,some z,.string,.string s=>ajj e size bytes z ⟨a,l,c⟩ s w λs w'=>K s.v w'
   |some size,some bytes,some z,.int _,.int _ n=>cond (Nat.beq z.length size) (XM e size bytes z ⟨a,l,c⟩ n w λs w'=>K s.v w') False
   |_,_,_,_,_=>False
  |_,_=>False
 | .copy,[t,_],[.slice a l c,.slice b n m]=>match P.underlying t with
  |some (.slice e)=>match jT P e with
   |some size=>Bg size ⟨a,l,c⟩ ⟨b,n,m⟩ w λn w'=>K (.int .i64 n) w'
   |none=>False
  |_=>False
 | .clear,[t],[.slice a n c]=>match P.underlying t with
  |some (.slice e)=>match jT P e,qZ P e with
   |some size,some z=>cond (Nat.beq z.length size) (JX z ⟨a,n,c⟩ w λw'=>K (.tuple #[]) w') False
   |_,_=>False
  |_=>False
 | .delete,[t,_],[.map r,key]=>match P.underlying t with
  |some (.map kt _)=>FB P kt r key w λw'=>K (.tuple #[]) w'
  |_=>False
 |_,_,_=>False
def zX (ρ:Operand->Value) (x:Option Operand) (dflt:Int) (φ:Int->Prop):Prop:=
 match x with
 |none=>φ dflt
 |some o=>match ρ o with
  | .int _ n=>φ n
  |_=>False
def JO (P:Program) (t:TypeId) (x:Value) (ρ:Operand->Value) (lo hi mx:Option Operand) (φ:Value->Prop):Prop:=
 match P.underlying t,x with
 |some .string,.string s=>match mx with
  |none=>zX ρ lo 0 λl=>zX ρ hi (s.size:Int) λh=>abD s l h λs'=>φ (.string s')
  |some _=>False
 |some (.slice e),.slice a n c=>match jT P e with
  |some size=>match mx with
   |none=>zX ρ lo 0 λl=>zX ρ hi (n:Int) λh=>lG ⟨a,n,c⟩ size l h λs'=>φ s'.v
   |some m=>match hi with
    |some _=>zX ρ lo 0 λl=>zX ρ hi 0 λh=>zX ρ (some m) 0 λm'=>TM ⟨a,n,c⟩ size l h m' λs'=>φ s'.v
    |none=>False
  |none=>False
 |some (.array n e),.pointer (some a)=>match jT P e with
  |some size=>match mx with
   |none=>zX ρ lo 0 λl=>zX ρ hi (n:Int) λh=>abC a n size l h λs'=>φ s'.v
   |some _=>False
  |none=>False
 |_,_=>False
def SE (P:Program) (s d:TypeId) (x:Value) (φ:Value->Prop):Prop:=
 match P.underlying s,P.underlying d,x with
 |some _,some (.int k),.int _ n=>φ (.int k (k.wrap n))
 |some _,some .string,.string b=>φ (.string b)
 |_,_,_=>False
def Ih (w:θ) (s:gG) (K:ByteArray->Prop):Prop:=
 ∃b:ByteArray,b.size=s.len/\oL w s.a s.len (byteCells b)/\K b
def afr (e:TypeId) (s:ByteArray) (w:θ) (K:gG->b_):Prop:=
 s.size<=2^62/\∀c,s.size<=c->c<2^63->K ⟨some ⟨w.heap.size,0,none⟩,s.size,c⟩ (w.drew.alloc (.cells ⟨byteCells s++iw [.int .u8 0] (c - s.size)⟩ e (c,c+1)))
def ajo (a:Addr) (w:θ) (K:b_):Prop:=∃T n,w.shape? a.block=some (T,n)/\K (w.freeze ⟨a.block,n,none⟩ 1)
def Zt (P:Program) (t:TypeId) (name:String):Option FuncId:=
 match P.info? t with
 |some i=>match i.methods.find? (·.name==name) with
  |some m=>match m.path.toList,m.func with
   |[],some (f,false)=>some f
   |_,_=>none
  |none=>none
 |none=>none
def Zg:TypeDesc->Bool
 | .pointer _=>true
 |_=>false
def ajm (P:Program) (sh:List Shape) (x:Value) (name:String) (args:List Value) (w:θ) (K:Value->b_):Prop:=
 match x with
 | .iface t v=>match P.underlying t,Zt P t name with
  |some d,some f=>cond (!Zg d && o9 P f) (Ii P sh f (v::args) w K) False
  |_,_=>False
 |_=>False
def G_ (P:Program) (op:BinOp) (t:TypeId) (x y:Value) (φ:Value->Prop):Prop:=
 match Ja op,P.underlying t,x,y with
 |some s,some (.interface _),.nilIface,.nilIface=>φ (.bool s)
 |some s,some (.interface _),.iface _ _,.nilIface=>φ (.bool (!s))
 |_,_,_,_=>False
def AsP (z:Value) (t:TypeId) (x:Value) (ok:Bool) (K:Value->Prop):Prop:=
 match x with
 | .iface t' v=>cond (Nat.beq t' t) (K (cond ok (.tuple ⟨[v,.bool true]⟩) v)) (cond ok (K (.tuple ⟨[z,.bool false]⟩)) False)
 | .nilIface=>cond ok (K (.tuple ⟨[z,.bool false]⟩)) False
 |_=>False
def zU (P:Program) (o:Oper) (ρ:Operand->Value) (w:θ) (K:Value->b_):Prop:=
 match o.op with
 | .move x=>K (ρ x) w
 | .assign x=>K (ρ x) w
 | .pick c a b=>match ρ c with
  | .bool t=>cond t (K (ρ a) w) (K (ρ b) w)
  |_=>False
 | .alloc e=>match qZ P e with
  |some z=>K (agK w) (w.alloc (.cells ⟨z⟩ e))
  |none=>False
 | .box e x=>match shapeOf P e with
  |some (.one _)=>iP (ρ x)=true/\K (agK w) (w.alloc (.cells ⟨[ρ x]⟩ e))
  |some (.agg _)=>match ρ x with
   | .agg cs=>K (agK w) (w.alloc (.cells cs e))
   |_=>False
  |none=>False
 | .build t ps=>match qZ P t,P.underlying t with
  |some z,some (.struct fs)=>match placesOf P fs.toList with
   |some pl=>match I4 (λi=>pl[i]?) (ps.toList.map λp=>(p.1,ρ p.2)) z with
    |some cs=>K (.agg ⟨cs⟩) w
    |none=>False
   |none=>False
  |some z,some (.array _ e)=>match jT P e with
   |some size=>match I4 (λi=>some (i * size,size)) (ps.toList.map λp=>(p.1,ρ p.2)) z with
    |some cs=>K (.agg ⟨cs⟩) w
    |none=>False
   |none=>False
  |_,_=>False
 | .buildSlice t n ps=>match P.underlying t with
  |some (.slice e)=>match jT P e,qZ P e with
   |some size,some z=>cond (Nat.ble (n * size) 4096 && Nat.beq z.length size)
    (cond (afy (shapeOf P e)) (cond (Nat.beq size 1) (PE (ps.toList.map λp=>ρ p.2)/\(match ϳ (ps.toList.map λp=>(p.1,ρ p.2)) (iw z n) with
     |some cs=>K (.slice (some ⟨w.heap.size,0,none⟩) n n) (w.alloc (.cells ⟨cs⟩ e))
     |none=>False)) False)
     (match I4 (λi=>some (i * size,size)) (ps.toList.map λp=>(p.1,ρ p.2)) (iw z n) with
     |some cs=>K (.slice (some ⟨w.heap.size,0,none⟩) n n) (w.alloc (.cells ⟨cs⟩ e))
     |none=>False)) False
   |_,_=>False
  |_=>False
 | .load t x=>match ρ x,shapeOf P t,jT P t with
  | .pointer (some a),some sh,some n=>cond (Nat.beq sh.cells n) (sh.ld w a λv=>K v w) False
  |_,_,_=>False
 | .store t x y=>match ρ x,shapeOf P t,jT P t with
  | .pointer (some a),some (.one _),some n=>cond (Nat.beq n 1) (St w a (ρ y) λw'=>K undef w') False
  | .pointer (some a),some (.agg _),some n=>match ρ y with
   | .agg cs=>cond (Nat.beq cs.toList.length n) (iE cs.toList w a 0 λw'=>K undef w') False
   |_=>False
  |_,_,_=>False
 | .nilCheck x=>match ρ x with
  | .pointer q=>∃a,q=some a/\K (.pointer (some a)) w
  |_=>False
 | .binOp op t x y _=>match y with
  | .const .nilIface=>G_ P op t (ρ x) (ρ (.const .nilIface)) λv=>K v w
  |y=>Il P op t (ρ x) (ρ y) λv=>K v w
 | .unOp op _ x=>Py op (ρ x) λv=>K v w
 | .convert s d x=>match P.underlying s,P.underlying d,ρ x with
  |some (.slice e),some .string,.slice a n c=>match P.underlying e with
   |some (.int .u8)=>Ih w ⟨a,n,c⟩ λb=>K (.string b) w
   |_=>False
  |some .string,some (.slice e),.string b=>match P.underlying e with
   |some (.int .u8)=>afr e b w λs' w'=>K s'.v w'
   |_=>False
  |some (.slice _),some (.slice e),.slice (some a) n c=>match P.underlying e,Nat.beq s d with
   |some (.int .u8),true=>ajo a w λw'=>K (.slice (some a) n c) w'
   |_,_=>False
  |_,_,v=>SE P s d v λv=>K v w
 | .makeFunc fn first cap=>K (.func fn ⟨first.toList.map ρ⟩ ⟨cap.toList.map ρ⟩) w
 | .lookup t x i false=>match P.underlying t,ρ x with
  |some (.map kt et),.map r=>match shapeOf P et,EK P et with
   |some (.one k),some z=>qF P kt k r (ρ i) z w λx=>K (k.enc x) w
   |some (.agg ks),some z=>FC P kt r (ρ i) z w λv _=>(Shape.agg ks).ex λv'=>v=v'/\K v' w
   |_,_=>False
  |_,_=>False
 | .lookup t x i true=>match P.underlying t,ρ x with
  |some (.map kt et),.map r=>match shapeOf P et,EK P et with
   |some sh,some z=>FC P kt r (ρ i) z w λv b=>sh.ex λv'=>v=v'/\K (.tuple ⟨[v',.bool b]⟩) w
   |_,_=>False
  |_,_=>False
 | .mapUpdate t x i v=>match P.underlying t,ρ x with
  |some (.map kt _),.map r=>pq P kt r (ρ i) (ρ v) w λw'=>K undef w'
  |_,_=>False
 | .insert t x i v=>match P.underlying t,ρ x with
  |some (.map kt _),.map r=>pq P kt r (ρ i) (ρ v) w λw'=>K undef w'
  |_,_=>False
 | .mapEntry t x i=>match P.underlying t,ρ x with
  |some (.map kt et),.map r=>match EK P et with
   |some z=>afl P kt r (ρ i) z w λv n w'=>K (.tuple ⟨[v,.int .i64 n]⟩) w'
   |none=>False
  |_,_=>False
 | .entryStore _ x st v=>match ρ x,ρ st with
  | .map r,.int _ n=>ai6 r n (ρ v) w λw'=>K undef w'
  |_,_=>False
 | .makeMap _ none=>K (.map (some w.heap.size)) (w.alloc (.map #[] 0))
 | .makeSlice t l c=>match P.underlying t,ρ l,ρ c with
  |some (.slice e),.int _ n,.int _ m=>match jT P e,Oh P e,qZ P e with
   |some size,some bytes,some z=>cond (Nat.beq z.length size) (Ϙ e size bytes z n m w λs w'=>K s.v w') False
   |_,_,_=>False
  |_,_,_=>False
 | .slice t x lo hi mx=>JO P t (ρ x) ρ lo hi mx λv=>K v w
 | .fieldAddr t x f=>match P.underlying t,ρ x with
  |some (.struct fs),.pointer (some a)=>match IZ P fs f with
   |some (off,size)=>cond (Nat.beq size 0) False (K (.pointer (some (a.add off))) w)
   |none=>False
  |_,_=>False
 | .field t x f=>match P.underlying t,ρ x with
  |some (.struct fs),.agg cs=>match fs.toList[f]? with
   |some fd=>match P.underlying fd.type,jT P fd.type with
    |some d,some size=>partOf d size fd.offset cs.toList λv=>K v w
    |_,_=>False
   |none=>False
  |_,_=>False
 | .indexAddr t x i=>match P.underlying t,ρ x,ρ i with
  |some (.slice e),.slice a n c,.int _ i=>match jT P e with
   |some size=>iK ⟨a,n,c⟩ size i λa'=>K (.pointer (some a')) w
   |none=>False
  |some (.array n e),.pointer (some a),.int _ i=>match jT P e with
   |some size=>0<=i/\i<(n:Int)/\K (.pointer (some (a.add (i.toNat * size)))) w
   |none=>False
  |_,_,_=>False
 | .index t x i=>match P.underlying t,ρ x,ρ i with
  |some .string,.string s,.int _ i=>afs s i λn=>K (.int .u8 n) w
  |some (.array n e),.agg cs,.int _ i=>match P.underlying e,jT P e with
   |some d,some size=>0<=i/\i<(n:Int)/\partOf d size (i.toNat * size) cs.toList λv=>K v w
   |_,_=>False
  |_,_,_=>False
 | .extract t i=>match ρ t with
  | .tuple vs=>match vs.toList[i]? with
   |some v=>match shapeOf P o.type with
    |some (.one k)=>k.dec v λx=>K (k.enc x) w
    |_=>K v w
   |none=>False
  |_=>False
 | .range t x=>match P.underlying t,ρ x with
  |some (.map _ _),.map r=>ajt r w λa w'=>K (.pointer (some a)) w'
  |_,_=>False
 | .next x false=>match ρ x with
  | .pointer (some a)=>a=⟨a.block,0,none⟩/\akD a.block w (K (.tuple ⟨[.bool false]⟩)) λk v w'=>K (.tuple ⟨[.bool true,k,v]⟩) w'
  |_=>False
 | .entry x=>match ρ x with
  | .pointer (some a)=>a=⟨a.block,0,none⟩/\ajk a.block w λk v=>K (.tuple ⟨[k,v]⟩) w
  |_=>False
 | .makeInterface t x=>match P.underlying t with
  |some (.interface _)=>False
  |some _=>K (.iface t (ρ x)) w
  |none=>False
 | .typeAssert x _ t ok=>match P.underlying t,EK P t with
  |some (.interface _),_=>False
  |some _,some z=>AsP z t (ρ x) ok λv=>K v w
  |_,_=>False
 | .call c=>match c.callee with
  | .value (.func f)=>match QF P o.type with
   |some sh=>cond (o9 P f) (Ii P sh f (c.args.toList.map ρ) w K) (ajl P f (c.args.toList.map ρ) w λr w'=>IY sh λvs=>r=ϐ vs/\K (ϐ vs) w')
   |none=>False
  | .value x=>match QF P o.type with
   |some sh=>jF P sh (ρ x) (c.args.toList.map ρ) w λr w'=>IY sh λvs=>r=ϐ vs/\K (ϐ vs) w'
   |none=>False
  | .builtin b=>qG P b c.argTypes.toList (c.args.toList.map ρ) w K
  | .invoke x name=>match QF P o.type with
   |some sh=>ajm P sh (ρ x) name (c.args.toList.map ρ) w K
   |none=>False
 |_=>False
abbrev Env:=List (Nat×Value)
def Env.get:Env->Nat->Option Value
 |[],_=>none
 |(s,v)::r,t=>cond (Nat.beq s t) (some v) (Env.get r t)
def Env.put (env:Env) (d:Option Nat) (v:Value):Env:=
 match d with
 |some s=>(s,v)::env
 |none=>env
def evO (env:Env):Operand->Option Value
 | .tmp t=>env.get t
 | .const v=>some v
 | .global g=>some (.pointer (some ⟨g,0,none⟩))
 | .func f=>some (.func (.func f) #[] #[])
def ev (env:Env) (x:Operand):Value:=(evO env x).getD undef
def aee (env:Env):List Operand->Bool
 |[]=>true
 |x::r=>(evO env x).isSome && aee env r
def uO (nt:Nat):Option Nat->Bool
 |some d=>Nat.blt d nt
 |none=>true
def split (g:Bool) (v:Value) (K:Value->Prop):Prop:=
 cond g (match v with| .bool b=>cond b (K (.bool true)) (K (.bool false))|v=>K v) (K v)
def zC (P:Program) (nt:Nat) (o:Oper) (g:Bool) (env:Env) (w:θ) (K:Env->b_):Prop:=
 cond (aee env o.op.operands.toList && uO nt o.dst)
  (zU P o (ev env) w λv w'=>split g v λv'=>K (env.put o.dst v') w') False
def uM (P:Program) (nt:Nat) (ops:List Oper) (o:Oper) (g:Bool) (env:Env) (w:θ) (K:Env->b_):Prop:=
 match o.guard with
 |none=>zC P nt o g env w K
 |some (j,want)=>match (ops[j]?).bind (·.dst) with
  |some s=>match env.get s with
   |some (.bool t)=>cond (t==want) (zC P nt o g env w K) (cond (uO nt o.dst) (K (env.put o.dst undef) w) False)
   |some (.tuple _)=>cond (uO nt o.dst) (K (env.put o.dst undef) w) False
   |_=>False
  |none=>False
def Zf (ops:List Oper) (i:Nat):Bool:=
 ops.any λo=>match o.guard with
  |some (j,_)=>Nat.beq j i
  |none=>false
def acF (P:Program) (nt:Nat) (ops:List Oper):Nat->List Oper->Env->θ->(Env->b_)->Prop
 |_,[],env,w,K=>K env w
 |i,o::r,env,w,K=>uM P nt ops o (Zf ops i) env w λenv' w'=>acF P nt ops (i+1) r env' w' K
end Gp
end
section
namespace Gp
open Go
def Ran (P:Program) (K:Value->b_):Result Next->Prop
 | .ok (.value v) w=>K v w
 | .ok .skip w=>K undef w
 | .ok (.enter f args) w=>Calls P f args w λe w'=>∃v,e= .returned v/\K v w'
 | .ok (.round l f tmps assign body) w=>RoundIn Fence.wide 0 P l f tmps assign body w λe w'=>∃v,e= .returned v/\K v w'
 |_=>False
theorem Ran.mono {P:Program} {K K':Value->b_} (h:∀v w,K v w->K' v w) {r:Result Next} (hr:Ran P K r):Ran P K' r:=by
 cases r with
 |ok x w=>
  cases x<;>simp only[Ran] at hr ⊢<;>first
   |exact h _ _ hr
   |exact Calls.mono hr λe w' ⟨v,hv,hk⟩=>⟨v,hv,h _ _ hk⟩
   |exact RoundIn.mono hr λe w' ⟨v,hv,hk⟩=>⟨v,hv,h _ _ hk⟩
 |halt x w=>exact hr.elim
structure XR (P:Program):Prop where
 enter:∀(f:FuncId) (fn:Func),P.funcs[f]? =some fn->fn.body.isSome=true->(fn.name=="runtime.NumGoroutine")=false
 mixed:P.follows .mixedOrders=true
section
variable {P:Program} {w:θ}
theorem run_underlying {t:TypeId} {d:TypeDesc} (h:P.underlying t=some d):(underlying t).run P w= .ok d w:=by
 simp[underlying,h]
theorem run_typeInfo {t:TypeId} {i:TypeInfo} (h:P.info? t=some i):(typeInfo t).run P w= .ok i w:=by
 simp[typeInfo,h]
theorem jV {t:TypeId} {n:Nat} (h:jT P t=some n):(Go.sizeOf t).run P w= .ok n w:=by
 unfold jT at h;split at h
 ·rename_i i hi;simp only[aho] at h;simp[Go.sizeOf,run_typeInfo hi,h]
 ·cases h
theorem uK {t:TypeId} {n:Nat} (h:jT P t=some n):∃i,P.info? t=some i/\i.size=n:=by
 unfold jT at h;split at h
 ·rename_i i hi;exact⟨i,hi,by simpa using h⟩
 ·cases h
theorem yR {t:TypeId} {n:Nat} (h:Oh P t=some n):∃i,P.info? t=some i/\i.bytes=n:=by
 unfold Oh at h;split at h
 ·rename_i i hi;exact⟨i,hi,by simpa using h⟩
 ·cases h
theorem QS (v:Value):cellsOfV v=v.cells.toList:=by cases v<;>rfl
theorem oO {t:TypeId} {z:List Value} (h:qZ P t=some z):∃i v,P.info? t=some i/\i.zero=some v/\v.cells.toList=z:=by
 unfold qZ at h;split at h
 ·rename_i i hi;split at h
  ·rename_i v hv;exact⟨i,v,hi,hv,by rw[<- QS];simpa using h⟩
  ·cases h
 ·cases h
theorem xM {t:TypeId} {z:List Value} (h:qZ P t=some z):∃v,(zeroValue t).run P w= .ok v w/\v.cells=⟨z⟩:=by
 obtain⟨i,v,hi,hv,hz⟩:=oO h;exact⟨v,by simp[zeroValue,run_typeInfo hi,hv],by rw[<- hz]⟩
theorem KA {t:TypeId} {d:TypeDesc} (h:P.underlying t=some d):(isAgg t).run P w= .ok (I_ d) w:=by
 simp only[isAgg,Sem.run_bind,run_underlying h,Result.andThen_ok]
 cases d<;>rfl
theorem aex (v:Value):iP v=v.oneCell':=by cases v<;>rfl
theorem Q5 {v:Value} (h:iP v=true):v.cells= #[v]:=by cases v<;>first|rfl|(simp[iP] at h)
theorem add_zero' (a:Addr):a.add 0=a:=by simp[Addr.add]
theorem add_add (a:Addr) (i j:Nat) (_:i=0->a.spot=none\/j=0\/True):(a.add i).add j=a.add (i+j):=by
 unfold Addr.add;by_cases hi:i=0
 ·simp[hi]
 ·by_cases hj:j=0
  ·simp[hi,hj]
  ·simp[hi,hj,al8]
theorem adW {a:Addr}:∀(ks:List Kind) (i:Nat) (φ:List Value->Prop),LdN ks w a i φ->
  ∃vs,vs.length=ks.length/\(∀j v,vs[j]? =some v->w.cell? (a.add (i+j))=some v)/\φ vs:=by
 intro ks
 induction ks with
 |nil=>exact λi φ h=>⟨[],rfl,by simp,h⟩
 |cons k ks ih=>
  rintro i φ ⟨x,hx,h⟩;obtain⟨vs,hl,hc,hφ⟩:=ih (i+1) _ h;refine⟨k.enc x::vs,by simp[hl],λj v hj=> ?_,hφ⟩
  cases j with
  |zero=>simp at hj;subst hj;simpa using hx
  |succ j=>rw[show i+(j+1)=i+1+j by omega];exact hc j v (by simpa using hj)
theorem Ri {t:TypeId} {sh:Shape} {n:Nat} {a:Addr} {φ:Value->Prop} (hs:shapeOf P t=some sh) (hn:jT P t=some n) (hc:sh.cells=n)
  (h:sh.ld w a φ):∃v,(loadVar t a).run P w= .ok v w/\φ v:=by
 unfold shapeOf at hs
 cases hd:P.underlying t with
 |none=>simp[hd] at hs
 |some d=>
  simp only[hd] at hs
  cases hg:I_ d with
  |false=>
   simp only[hg,aaf] at hs
   cases hk:kindOf d with
   |none=>simp[hk] at hs
   |some k=>
    simp only[hk,aho] at hs;subst hs;obtain⟨x,hx,h⟩:=h;exact⟨k.enc x,by simp[loadVar,KA hd,hg,hx],h⟩
  |true=>
   simp only[hg,abt] at hs
   cases hk:Ko P 20 t with
   |none=>simp[hk] at hs
   |some ks=>
    simp only[hk,aho] at hs;subst hs;obtain⟨vs,hl,u,hφ⟩:=adW ks 0 _ h;refine⟨.agg ⟨vs⟩,?_,hφ⟩;have hlen:vs.length=n:=by rw[hl];exact hc
    have:=run_loadCells_list (P:=P) (w:=w) a vs (λj v hj=>by simpa using u j v hj);simp only[loadVar,Sem.run_bind,KA hd,hg,Result.andThen_ok,ajn,jV hn];rw[<- hlen,this];rfl
theorem abB {a:Addr} {v:Value} {K:b_} (h:St w a v K):(store a v).run P w= .ok () (w.setCell a v)/\K (w.setCell a v):=by
 obtain⟨h1,h2,h3,h4⟩:=h;refine⟨?_,h4⟩;rw[run_store P w a v .plain (by rw[<- aex];exact h1)]
 cases hc:w.cell? a with
 |none=>simp[hc] at h2
 |some u=>simp[h3]
theorem ahs {a:Addr} {K:b_}:∀(vs:List Value) (w:θ) (i:Nat),iE vs w a i K->∃w',(storeCells a vs i).run P w= .ok () w'/\K w':=by
 intro vs
 induction vs with
 |nil=>exact λw i h=>⟨w,rfl,h⟩
 |cons v vs ih=>
  intro w i h;obtain⟨h1,h2⟩:=abB (P:=P) h;obtain⟨w',h3,h4⟩:=ih _ _ h2;exact⟨w',by simp[storeCells,h1,h3],h4⟩
end
end Gp
end
section
namespace Gp
open Go
theorem YL {α β:Type} (f:α->β) (xs:Array α):xs.map f=⟨xs.toList.map f⟩:=amL.mp (by simp)
theorem Hl (z:List Value) (n:Nat):(iw z n).length=n * z.length:=by
 induction n with
 |zero=>simp[iw]
 |succ n ih=>simp[iw,ih,alN];omega
theorem Pq {z:List Value} {v:Value}:∀{n:Nat},v∈iw z n->∃k:Nat,k<n/\v∈z
 |0,h=>by simp[iw] at h
 |n+1,h=>by
  rcases alj.1 (show v∈z++iw z n from h) with h|h
  ·exact⟨0,by omega,h⟩
  ·obtain⟨k,hk,hv⟩:=Pq h;exact⟨k,by omega,hv⟩
theorem afc {n:Int} (h1: -9223372036854775808<=n) (h2:n<=9223372036854775807):IntKind.i64.wrap n=n:=by
 rw[IntKind.wrap_i64];omega
theorem aaV (z:Array Value):∀n,(List.range (n * z.size)).map (λi=>z[i % z.size]!)=iw z.toList n:=by
 intro n
 induction n with
 |zero=>simp[iw]
 |succ n ih=>
  have e:(n+1) * z.size=z.size+n * z.size:=by rw[alN];omega
  rw[e,List.range_add,al4,iw,map_map];congr 1
  ·apply List.ext_getElem
   ·simp
   ·intro i h1 h2;simp at h1;simp[Nat.mod_eq_of_lt h1,h1]
  ·rw[<- ih];apply List.map_congr_left;intro i _;simp
theorem o_ (z:Array Value) (n:Nat):Builtin.zeroCells z n=⟨iw z.toList n⟩:=by
 apply amL.mp;simp only[Builtin.zeroCells,Array.toList_map,Array.toList_range];exact aaV z n
theorem Zp (z:Array Value) (n:Nat):madeCells z (n * z.size)=⟨iw z.toList n⟩:=o_ z n
section
variable {P:Program}
theorem UF {w:θ} {a b:Addr} {v:Value} (h:(w.cell? b).isSome=true):((w.setCell a v).cell? b).isSome=true:=by
 by_cases e:a=b
 ·subst e
  cases hc:w.cell? a with
  |none=>simp[hc] at h
  |some u=>rw[World.cell?_setCell_same w a v hc];rfl
 ·rw[World.cell?_setCell_other w a b v e];exact h
theorem xI (a:Addr):∀(vs:List Value) (i:Nat) (w:θ),(∀v∈vs,iP v=true)->
  (∀j,j<vs.length->(w.cell? (a.add (i+j))).isSome=true/\w.frozen? (a.add (i+j))=false)->(storeCells a vs i).run P w= .ok () (setCells w a vs i):=by
 intro vs
 induction vs with
 |nil=>exact λi w _ _=>rfl
 |cons v vs ih=>
  intro i w h1 h2;have h0:=h2 0 (by simp);obtain⟨hr,_⟩:=abB (P:=P) (w:=w) (a:=a.add i) (v:=v) (K:=λ_=>True) ⟨h1 v (by simp),by simpa using h0.1,by simpa using h0.2,trivial⟩;have:=ih (i+1) (w.setCell (a.add i) v) (λu hu=>h1 u (by simp[hu])) (λj hj=>by
   have:=h2 (j+1) (by simp;omega);rw[show i+(j+1)=i+1+j by omega] at this;exact⟨UF this.1,by rw[World.frozen?_setCell];exact this.2⟩)
  simp[storeCells,hr,this,setCells]
theorem uD {w:θ} {a:gu} {size n l c:Nat} {vs:List Value} (h:oL w a (n * size) vs):
  (Builtin.firstCells size n (.slice a l c)).run P w= .ok ⟨vs⟩ w:=by
 cases a with
 |none=>simp only[oL] at h;subst h;simp[run_firstCells_none]
 |some a=>
  obtain⟨hl,hc⟩:=h;refine run_firstCells_some (P:=P) w size n a l c vs hl λj v hj=> ?_;have u:=(afg.1 hj).1;rw[hc j u,hj]
theorem Dw {w:θ} {a:gu} {n:Nat} {vs:List Value} (h:oL w a n vs):oL w.drew a n vs:=by
 cases a<;>exact h
theorem XY {t t' ty e:TypeId} {i:TypeInfo} {z:Value} (ht:P.underlying t=some (.slice e)) (hi:P.info? e=some i) (hz:i.zero=some z)
  {d:TypeDesc} (ht':P.underlying t'=some d) (hd:(∃e',d= .slice e')\/d= .string) {x:Value} {n:Nat} {vs:List Value} {w:θ} {s:gG} {K:gG->b_}
  (hlen:∀w,(Builtin.lenOf x).run P w= .ok n w) (hx:(Builtin.firstCells i.size n x).run P w= .ok ⟨vs⟩ w) (hx':(Builtin.firstCells i.size n x).run P w.drew= .ok ⟨vs⟩ w.drew)
  (h:XO e i.size i.bytes z.cells.toList s n vs w K):
  ∃s' w',(Builtin.append_ #[t,t'] ty #[s.v,x]).run P w= .ok s'.v w'/\K s' w':=by
 rcases h with ⟨u,N,I,hK⟩|⟨hg,h46,h62,old,J,hK⟩
 ·refine⟨_,_,?_,hK⟩
  cases hs:s.a with
  |none=>rcases hd with ⟨e',rfl⟩|rfl<;>(simp[Builtin.append_,gG.v,run_underlying ht,run_underlying ht',Go.sizeOf,run_typeInfo hi,hlen,u,hs,hx])
  |some a=>
   have O:=xI (P:=P) (a.add (s.len * i.size)) vs 0 w I (by intro j hj;simpa using N a hs j hj);rcases hd with ⟨e',rfl⟩|rfl<;>(simp[Builtin.append_,gG.v,run_underlying ht,run_underlying ht',Go.sizeOf,run_typeInfo hi,hlen,u,hs,hx,O])
 ·have h1:¬(s.len+n<=s.cap):=by omega
  have h2:¬(9223372036854775807<((s.len:Int)+(n:Int))):=by omega
  have h3:=growslice_fits (bytes:=i.bytes) hg (by omega);have h3':¬(281474976710656<Builtin.nextslicecap (s.len+n) s.cap * i.bytes):=by omega
  have R:=uD (P:=P) (l:=s.len) (c:=s.cap) (Dw J);refine⟨_,_,?_,hK (grownCap w (s.len+n) s.cap e) (grownCap_ge _ _ _ _) ?_⟩
  ·rcases hd with ⟨e',rfl⟩|rfl<;>(simp[Builtin.append_,gG.v,run_underlying ht,run_underlying ht',Go.sizeOf,run_typeInfo hi,zeroValue,hz,hlen,h1,h2,h3',Question.forced,hx',R,newRow,grownCap,o_])
  ·simp only[grownCap,Question.cut];have:=alV (w.tape w.drawn (.appendCap (s.len+n) s.cap e)) (show 0<2^63 - (s.len+n) by omega);omega
theorem ϝ {t t' ty e:TypeId} {i:TypeInfo} {z:Value} {ki kv:IntKind} (ht:P.underlying t=some (.slice e)) (hi:P.info? e=some i) (hz:i.zero=some z) (U:z.cells.toList.length=i.size)
  (ht':P.underlying t'=some (.int ki)) {n:Int} {w:θ} {s:gG} {K:gG->b_}
  (h:XM e i.size i.bytes z.cells.toList s n w K):
  ∃s' w',(Builtin.append_ #[t,t'] ty #[s.v,.int kv n]).run P w= .ok s'.v w'/\K s' w':=by
 obtain⟨h0,hb,hn,h⟩:=h;obtain⟨m,rfl⟩:∃m:Nat,n=(m:Int):=⟨n.toNat,by omega⟩;rw[abu] at h;have hw:IntKind.i64.wrap (m:Int)=(m:Int):=afc (by omega) (by omega);have u:¬((m:Int)<0):=by omega
 have hb':¬(281474976710656<(m:Int) * (i.bytes:Int)):=by omega
 by_cases hz0:m * i.size=0
 ·have he:iw z.cells.toList m=[]:=by
   have:=Hl z.cells.toList m;rw[U,hz0] at this;exact List.length_eq_zero_iff.1 this
  rw[he] at h;rcases h with ⟨I,R,N,hK⟩|⟨hg,W,Y,old,J,hK⟩
  ·refine⟨_,_,?_,hK⟩
   cases hs:s.a with
   |none=>simp[Builtin.append_,gG.v,run_underlying ht,run_underlying ht',Go.sizeOf,run_typeInfo hi,asInt,asIntOf,hw,u,hb',I,hs,hz0]
   |some a=>simp[Builtin.append_,gG.v,run_underlying ht,run_underlying ht',Go.sizeOf,run_typeInfo hi,asInt,asIntOf,hw,u,hb',I,hs,hz0,setCells,storeCells]
  ·have h1:¬(s.len+m<=s.cap):=by omega
   have h2:¬(9223372036854775807<((s.len:Int)+(m:Int))):=by omega
   have h3:=growslice_fits (bytes:=i.bytes) hg (by omega);have h3':¬(281474976710656<Builtin.nextslicecap (s.len+m) s.cap * i.bytes):=by omega
   have O:=uD (P:=P) (l:=s.len) (c:=s.cap) (Dw J);refine⟨_,_,?_,hK (grownCap w (s.len+m) s.cap e) (grownCap_ge _ _ _ _) ?_⟩
   ·simp[Builtin.append_,gG.v,run_underlying ht,run_underlying ht',Go.sizeOf,run_typeInfo hi,asInt,asIntOf,hw,u,hb',zeroValue,hz,h1,h2,h3',Question.forced,hz0,O,newRow,grownCap,o_]
   ·simp only[grownCap,Question.cut];have:=alV (w.tape w.drawn (.appendCap (s.len+m) s.cap e)) (show 0<2^63 - (s.len+m) by omega);omega
 rcases h with ⟨I,R,N,hK⟩|⟨hg,W,Y,old,J,hK⟩
 ·refine⟨_,_,?_,hK⟩
  cases hs:s.a with
  |none=>simp[Builtin.append_,gG.v,run_underlying ht,run_underlying ht',Go.sizeOf,run_typeInfo hi,asInt,asIntOf,hw,u,hb',I,hs,zeroValue,hz,o_]
  |some a=>
   have Z:=xI (P:=P) (a.add (s.len * i.size)) (iw z.cells.toList m) 0 w N (by intro j hj;simpa using R a hs j hj);simp[Builtin.append_,gG.v,run_underlying ht,run_underlying ht',Go.sizeOf,run_typeInfo hi,asInt,asIntOf,hw,u,hb',I,hs,hz0,zeroValue,hz,o_,Z]
 ·have h1:¬(s.len+m<=s.cap):=by omega
  have h2:¬(9223372036854775807<((s.len:Int)+(m:Int))):=by omega
  have h3:=growslice_fits (bytes:=i.bytes) hg (by omega);have h3':¬(281474976710656<Builtin.nextslicecap (s.len+m) s.cap * i.bytes):=by omega
  have O:=uD (P:=P) (l:=s.len) (c:=s.cap) (Dw J);refine⟨_,_,?_,hK (grownCap w (s.len+m) s.cap e) (grownCap_ge _ _ _ _) ?_⟩
  ·simp[Builtin.append_,gG.v,run_underlying ht,run_underlying ht',Go.sizeOf,run_typeInfo hi,asInt,asIntOf,hw,u,hb',zeroValue,hz,h1,h2,h3',Question.forced,hz0,O,newRow,grownCap,o_]
  ·simp only[grownCap,Question.cut];have:=alV (w.tape w.drawn (.appendCap (s.len+m) s.cap e)) (show 0<2^63 - (s.len+m) by omega);omega
theorem Ϩ {t ty e:TypeId} {i:TypeInfo} {z:Value} (ht:P.underlying t=some (.slice e)) (hi:P.info? e=some i) (hz:i.zero=some z) (_:z.cells.toList.length=i.size)
  {w:θ} {s:gG} {K:b_} (h:JX z.cells.toList s w K):∃w',(Builtin.clear_ #[t] ty #[s.v]).run P w= .ok (.tuple #[]) w'/\K w':=by
 obtain⟨I,u,hK⟩:=h;refine⟨_,?_,hK⟩;obtain⟨a,n,c⟩:=s
 cases a with
 |none=>simp[Builtin.clear_,gG.v,run_underlying ht]
 |some a=>
  cases n with
  |zero=>simp[Builtin.clear_,gG.v,run_underlying ht,iw,setCells]
  |succ n=>
   have J:=xI (P:=P) a (iw z.cells.toList (n+1)) 0 w (λv hv=>by
    obtain⟨k,_,hv⟩:=Pq hv;exact u v hv) (by intro j hj;rw[Hl] at hj;simpa using I a rfl j hj)
   simp[Builtin.clear_,gG.v,run_underlying ht,zeroValue,run_typeInfo hi,hz,o_,J]
theorem abS {t t' ty e:TypeId} {i:TypeInfo} (ht:P.underlying t=some (.slice e)) (hi:P.info? e=some i) {w:θ} {d s:gG} {K:Int->b_}
  (h:Bg i.size d s w K):∃n w',(Builtin.copy_ #[t,t'] ty #[d.v,s.v]).run P w= .ok (.int .i64 n) w'/\K n w':=by
 obtain⟨vs,I,J,u,hK⟩:=h;refine⟨_,_,?_,hK⟩;have hf:=uD (P:=P) (l:=s.len) (c:=s.cap) I
 cases hd:d.a with
 |none=>simp[Builtin.copy_,gG.v,run_underlying ht,Go.sizeOf,run_typeInfo hi,Builtin.lenOf,hd,hf,goInt]
 |some a=>
  have N:=xI (P:=P) a vs 0 w u (by intro j hj;simpa using J a hd j hj);simp[Builtin.copy_,gG.v,run_underlying ht,Go.sizeOf,run_typeInfo hi,Builtin.lenOf,hd,hf,N,goInt]
theorem acn {t e:TypeId} {i:TypeInfo} {z:Value} (ht:P.underlying t=some (.slice e)) (hi:P.info? e=some i) (hz:i.zero=some z) (u:z.cells.toList.length=i.size)
  {n c:Int} {kl kc:IntKind} {w:θ} {K:gG->b_} (h:Ϙ e i.size i.bytes z.cells.toList n c w K):
  ∃s w',(Instr.makeSlice t (.int kl n) (.int kc c)).run P w= .ok s.v w'/\K s w':=by
 obtain⟨h0,h1,h2,h3,hK⟩:=h;refine⟨_,_,?_,hK⟩;have h2':c<=9223372036854775807:=Int.le_trans h2 (by decide);have h3':(i.bytes:Int) * c<=281474976710656:=Int.le_trans h3 (by decide);rw[run_make w t e i z ht hi hz kl kc n c h0 h1 h3' h2'];have e0:i.size=z.cells.size:=u.symm.trans amM;have e1:c.toNat * i.size=c.toNat * z.cells.size:=congrArg (c.toNat * ·) e0;rw[e1,Zp];rfl
theorem TU {w:θ} {s:gG} {K:ByteArray->Prop} (h:Ih w s K):∃b,(Conv.bytesToString s.v).run P w= .ok (.string b) w/\K b:=by
 obtain⟨b,hl,hc,hK⟩:=h;refine⟨b,?_,hK⟩
 cases hs:s.a with
 |none=>
  rw[hs] at hc;have:b= .empty:=by
   have h0:b.data.toList=[]:=by simpa [oL,byteCells] using hc
   cases b with|mk d=>simp at h0;subst h0;rfl
  subst this;simp[Conv.bytesToString,gG.v,hs]
 |some a=>
  rw[hs] at hc;obtain⟨hn,I⟩:=hc;have u:∀j v,(byteCells b)[j]? =some v->w.cell? (a.add j)=some v:=λj v hj=>by
   have J:=(afg.1 hj).1;rw[I j J,hj]
  have hl2:=run_loadCells_list (P:=P) (w:=w) a (byteCells b) u;rw[hn] at hl2;have e1:byteCells b=(b.data.toList.map λx=>(x.toNat:Int)).map (Value.int .u8):=by simp[byteCells]
  rw[e1] at hl2;have:=run_bytesToString (P:=P) w a s.len s.cap _ hl2;simp only[gG.v,hs,this];rw[foldl_push_bytes];congr 2
  cases b with|mk d=>
  have e2:∀l:List UInt8,l.map ((λn:Int=>UInt8.ofNat n.toNat) ∘ λx=>(x.toNat:Int))=l:=by
   intro l
   induction l with
   |nil=>rfl
   |cons x l ih=>simp only[akh,ih];simp
  simp only[ByteArray.empty,ByteArray.emptyWithCapacity,map_map,e2];simp;rfl
end
end Gp
end
section
namespace Gp
open Go
theorem VW (cs:List Value) (off:Nat) (vs:List Value) (h:off+vs.length<=cs.length) (i:Nat):
  (splice cs off vs)[i]? =if i<off then cs[i]? else if i<off+vs.length then vs[i - off]? else cs[i]? :=by
 unfold splice;have hl:(cs.take off).length=off:=by simp;omega
 by_cases h1:i<off
 ·rw[adZ h1,alT (by omega),List.getElem?_take_of_lt h1]
 ·rw[acZ h1,alh (by omega),hl];by_cases h2:i<off+vs.length
  ·rw[adZ h2,alT (by omega)]
  ·rw[acZ h2,alh (by omega),amN];congr 1;omega
theorem aac (off:Nat):∀(vs:List Value) (k:Nat) (cs:Array Value),off+k+vs.length<=cs.size->
  ((vs.zipIdx k).foldl (λ(cs:Array Value) (p:Value×Nat)=>cs.setIfInBounds (off+p.2) p.1) cs)=⟨splice cs.toList (off+k) vs⟩:=by
 intro vs
 induction vs with
 |nil=>intro k cs _;simp[splice]
 |cons v vs ih=>
  intro k cs h;simp only[ajg] at h;rw[List.zipIdx_cons,amO,ih (k+1) _ (by simp;omega)];congr 1;apply am5;intro i;rw[VW _ _ _ (by simp;omega),VW _ _ _ (by simp;omega)];simp only[Array.toList_setIfInBounds,akQ,ajg];by_cases h1:i<off+k
  ·have h2:i<off+(k+1):=by omega
   have h3:¬(off+k=i):=by omega
   simp[h1,h2,h3]
  ·by_cases h2:i=off+k
   ·subst h2;have h3:off+k<off+(k+1):=by omega
    have h4:off+k<cs.size:=by omega
    simp[h3,h4]
   ·have h3:¬(i<off+(k+1)):=by omega
    have h4:¬(off+k=i):=by omega
    simp only[h1,h3,h4,aku];by_cases h5:i<off+(k+1)+vs.length
    ·have h6:i<off+k+(vs.length+1):=by omega
     obtain⟨m,hm⟩:∃m,i - (off+k)=m+1:=⟨i - (off+k) - 1,by omega⟩;have h7:i - (off+(k+1))=m:=by omega
     simp[h5,h6,hm,h7]
    ·have h6:¬(i<off+k+(vs.length+1)):=by omega
     simp[h5,h6]
theorem Oj {v:Value} (h:iP v=true):cellsOfV v=[v]:=by cases v<;>first|rfl|(simp[iP] at h)
theorem ϴ:∀(ps:List (Nat×Value)) (cs out:List Value),(∀p∈ps,iP p.2=true)->ϳ ps cs=some out->I4 (λi=>some (i * 1,1)) ps cs=some out:=by
 intro ps
 induction ps with
 |nil=>exact λcs out _ h=>h
 |cons p ps ih=>
  obtain⟨i,v⟩:=p;intro cs out h1 h;simp only[ϳ] at h;have hv:iP v=true:=h1 (i,v) (by simp)
  cases hb:Nat.blt i cs.length with
  |false=>rw[hb] at h;cases h
  |true=>
   rw[hb] at h;have u:i<cs.length:=by simpa [amv] using hb
   have hs:splice cs (i * 1) [v]=cs.set i v:=by
    rw[ani,adZ u,aiC];rfl
   have hc:(Nat.beq (cellsOfV v).length 1 && Nat.ble (i * 1+1) cs.length)=true:=by
    rw[Oj hv,alg];exact⟨rfl,by rw[ble_eq];omega⟩
   simp only[I4,hc,abt];rw[Oj hv,hs];exact ih _ _ (λp hp=>h1 p (by simp[hp])) h
theorem abH:∀(vs:List Value),PE vs->∀v∈vs,iP v=true:=by
 intro vs
 induction vs with
 |nil=>exact λ_ v hv=>by simp at hv
 |cons v vs ih=>
  rintro⟨h1,h2⟩ u hu;rcases agI.1 hu with rfl|hu
  ·exact h1
  ·exact ih h2 u hu
theorem akW {sh:Option Shape} {size:Nat} {ps:List (Nat×Operand)} {ρ:Operand->Value} {cs:List Value} {Φ:List Value->Prop}
  (h:cond (afy sh) (cond (Nat.beq size 1) (PE (ps.map λp=>ρ p.2)/\(match ϳ (ps.map λp=>(p.1,ρ p.2)) cs with
     |some cs=>Φ cs
     |none=>False)) False)
     (match I4 (λi=>some (i * size,size)) (ps.map λp=>(p.1,ρ p.2)) cs with
     |some cs=>Φ cs
     |none=>False)):∃out,I4 (λi=>some (i * size,size)) (ps.map λp=>(p.1,ρ p.2)) cs=some out/\Φ out:=by
 cases ha:afy sh with
 |false=>
  rw[ha] at h;simp only[aaf] at h;split at h
  ·rename_i out hf;exact⟨out,hf,h⟩
  ·exact h.elim
 |true=>
  rw[ha] at h;simp only[abt] at h
  cases hb:Nat.beq size 1 with
  |false=>rw[hb] at h;exact h.elim
  |true=>
   rw[hb] at h;have hs:size=1:=alW hb;subst hs;simp only[abt] at h;obtain⟨h1,h⟩:=h;split at h
   ·rename_i out hf;refine⟨out,ϴ _ _ _ (λp hp=> ?_) hf,h⟩;obtain⟨q,hq,rfl⟩:=alp.1 hp;exact abH _ h1 _ (alp.2 ⟨q,hq,rfl⟩)
   ·exact h.elim
theorem Na (place place':Nat->Option (Nat×Nat)) (hp:∀i x,place i=some x->place' i=some x):∀(ps:List (Nat×Value)) (cs out:List Value),I4 place ps cs=some out->
  Instr.fill place' ⟨cs⟩ ps=some ⟨out⟩:=by
 intro ps
 induction ps with
 |nil=>intro cs out h;simp[I4] at h;subst h;rfl
 |cons p ps ih=>
  obtain⟨i,v⟩:=p;intro cs out h;simp only[I4] at h
  cases u:place i with
  |none=>simp[u] at h
  |some x=>
   obtain⟨off,size⟩:=x;simp only[u] at h
   cases hb:(Nat.beq (cellsOfV v).length size && Nat.ble (off+size) cs.length) with
   |false=>simp[hb] at h
   |true=>
    simp only[hb,abt] at h;simp only[alg,Nat.beq_eq,ble_eq] at hb;obtain⟨h1,h2⟩:=hb;rw[QS] at h1 h;have h3:v.cells.size=size:=by rw[<- h1];simp
    have:=ih _ _ h;have hf:=aac off v.cells.toList 0 ⟨cs⟩ (by simp;omega);simp only[akC] at hf;have hz:v.cells.zipIdx.foldl (λ(cs:Array Value) (x:Value×Nat)=>cs.setIfInBounds (off+x.2) x.1) ⟨cs⟩=⟨splice cs off v.cells.toList⟩:=by
     rw[<- Array.foldl_toList,Array.toList_zipIdx];exact hf
    simp only[Instr.fill,hp _ _ u];have c1:(v.cells.size≠size||off+v.cells.size>(⟨cs⟩:Array Value).size)=false:=by
     simp[h3];omega
    simp only[c1,Bool.false_eq_true,aku];exact(congrArg (λa=>Instr.fill place' a ps) hz).trans this
section
variable {P:Program}
theorem Z_ {w:θ}:∀(fs:List Field) (pl:List (Nat×Nat)),placesOf P fs=some pl->
  (fs.mapM λ(f:Field)=>(do pure (f.offset,<- Go.sizeOf f.type):Sem (Nat×Nat))).run P w= .ok pl w:=by
 intro fs
 induction fs with
 |nil=>intro pl h;simp[placesOf] at h;subst h;simp
 |cons f fs ih=>
  intro pl h;simp only[placesOf] at h
  cases hs:jT P f.type with
  |none=>simp[hs] at h
  |some s=>
   cases hr:placesOf P fs with
   |none=>simp[hs,hr] at h
   |some l=>
    simp only[hs,hr,aho] at h;subst h;have hi:=ih l hr;rw[List.mapM_cons];simp only[Sem.run_bind,jV hs,Result.andThen_ok,Sem.run_pure,hi]
theorem Ur {w:θ} {fs:Array Field} {f off size:Nat} (h:IZ P fs f=some (off,size)) (hs:Nat.beq size 0=false) (a:Addr):
  ∃fd,fs[f]? =some fd/\(fieldPlace a fd).run P w= .ok (a.add off) w:=by
 unfold IZ at h
 cases hf:fs.toList[f]? with
 |none=>simp[hf] at h
 |some fd=>
  simp only[hf] at h
  cases hz:jT P fd.type with
  |none=>simp[hz] at h
  |some s=>
   simp only[hz,aho,alX] at h;obtain⟨rfl,rfl⟩:=h;refine⟨fd,by simpa using hf,?_⟩;have:s≠0:=by intro e;subst e;simp at hs
   simp[fieldPlace,jV hz,this]
theorem VF {w:θ} {t:TypeId} {d:TypeDesc} {size off:Nat} {cs:Array Value} {φ:Value->Prop} (hd:P.underlying t=some d) (hs:jT P t=some size)
  (h:partOf d size off cs.toList φ):∃v,(part t cs off).run P w= .ok v w/\φ v:=by
 unfold partOf at h
 cases hg:I_ d with
 |true=>
  simp only[hg,abt] at h;refine⟨_,?_,h⟩;simp only[part,Sem.run_bind,KA hd,Result.andThen_ok,hg,ajn,jV hs,Sem.run_pure,Result.ok.injEq,amf,Value.agg.injEq];apply amL.mp;simp[Array.toList_extract,List.extract_eq_take_drop]
 |false=>
  simp only[hg,aaf] at h
  cases hc:cs.toList[off]? with
  |none=>simp[hc] at h
  |some v=>
   simp only[hc] at h;refine⟨v,?_,h⟩;have hc':cs[off]? =some v:=by simpa using hc
   simp[part,KA hd,hg,hc']
theorem OE {k k':IntKind} (h:Nk k k'=true):k=k':=by cases k<;>cases k'<;>first|rfl|(simp[Nk] at h)
theorem ab9 {op:BinOp} {k:IntKind} {a b:Int} {φ:Value->Prop} {t:TypeId} {w:θ} (hop:op≠.shl/\op≠.shr) (h:Nl op k a b φ):
  ∃v,(binOp op t (.int k a) (.int k b)).run P w= .ok v w/\φ v:=by
 cases op<;>simp only[Nl] at h<;>first
  |exact absurd rfl hop.1
  |exact absurd rfl hop.2
  |exact h.elim
  |(refine⟨_,?_,h⟩;simp[binOp,Op.intArith];done)
  |(refine⟨_,?_,h⟩;simp[binOp,Op.intCmp];done)
  |(refine⟨_,?_,h⟩;simp only[binOp,ne_eq,not_true_eq_false,aku];rfl)
  |(refine⟨_,?_,h.2⟩;simp[binOp,Op.intDiv,h.1];done)
theorem acQ {op:BinOp} {a b:ByteArray} {φ:Value->Prop} {t:TypeId} {w:θ} (h:NV op a b φ):
  ∃v,(binOp op t (.string a) (.string b)).run P w= .ok v w/\φ v:=by
 cases op<;>simp only[NV] at h<;>first
  |exact h.elim
  |(refine⟨_,?_,h⟩;simp[binOp,Op.stringOp,strEq,strLt];done)
  |(refine⟨_,?_,h.2⟩
    have:¬(IntKind.i64.max<((a.size+b.size:Nat):Int)):=by omega
    simp[binOp,Op.stringOp] at this ⊢;simp[this])
end
end Gp
end
section
namespace Gp
open Go
section
variable {P:Program}
theorem X6 {d:TypeDesc} {x y:Value} {φ:Bool->Prop} {t:TypeId} {w:θ} (ht:P.underlying t=some d) (h:LZ d x y φ):
  ∃b,(Op.equal t x y).run P w= .ok b w/\φ b:=by
 have key:∀n,∃b,(Op.equalIn (n+1) t x y).run P w= .ok b w/\φ b:=by
  intro n;unfold LZ at h;split at h
  ·exact⟨_,by simp[Op.equalIn,run_underlying ht],h⟩
  ·rename_i q;refine⟨_,?_,h⟩
   cases q<;>simp[Op.equalIn,run_underlying ht]
  ·rename_i q _ _ _ _;refine⟨_,?_,h⟩
   cases q<;>simp[Op.equalIn,run_underlying ht]
  ·rename_i q;refine⟨_,?_,h⟩
   cases q<;>simp[Op.equalIn,run_underlying ht]
  trivial
 exact key 9999
theorem QV {d:TypeDesc} {x y:Value} {φ:Bool->Prop} (h:LZ d x y φ) (op:BinOp) (t:TypeId) (a b:Operand) (w:θ):(eqGuard op t a b x y).run P w= .ok () w:=by
 unfold LZ at h;split at h<;>first|exact h.elim|(cases op<;>simp[eqGuard])
theorem aeH {op:BinOp} {t:TypeId} {x y:Value} {φ:Value->Prop} (a:Operand) {w:θ} (h:G_ P op t x y φ):
  ∃v,(do eqGuard op t a (.const .nilIface) x y;binOp op t x y:Sem Value).run P w= .ok v w/\φ v:=by
 unfold G_ at h;split at h
 ·rename_i s ms ho ht;have key:∀n,(Op.equalIn (n+1) t .nilIface .nilIface).run P w= .ok true w:=λn=>by simp[Op.equalIn,run_underlying ht]
  have e:(Op.equal t .nilIface .nilIface).run P w= .ok true w:=key 9999
  cases op<;>simp only[Ja,reduceCtorEq,aho] at ho
  all_goals subst ho
  ·exact⟨.bool true,by simp[eqGuard,show binOp .eql t .nilIface .nilIface=(do pure (.bool (<- Op.equal t .nilIface .nilIface))) from rfl,e],h⟩
  ·exact⟨.bool false,by simp[eqGuard,show binOp .neq t .nilIface .nilIface=(do pure (.bool (!(<- Op.equal t .nilIface .nilIface)))) from rfl,e],h⟩
 ·rename_i s ms t' v' ho ht;have key:∀n,(Op.equalIn (n+1) t (.iface t' v') .nilIface).run P w= .ok false w:=λn=>by simp[Op.equalIn,run_underlying ht]
  have e:(Op.equal t (.iface t' v') .nilIface).run P w= .ok false w:=key 9999
  cases op<;>simp only[Ja,reduceCtorEq,aho] at ho
  all_goals subst ho
  ·exact⟨.bool false,by simp[eqGuard,show binOp .eql t (.iface t' v') .nilIface=(do pure (.bool (<- Op.equal t (.iface t' v') .nilIface))) from rfl,e],h⟩
  ·exact⟨.bool true,by simp[eqGuard,show binOp .neq t (.iface t' v') .nilIface=(do pure (.bool (!(<- Op.equal t (.iface t' v') .nilIface)))) from rfl,e],h⟩
 trivial
theorem QU {d:TypeDesc} {x y:Value} {φ:Bool->Prop} (h:LZ d x y φ) (t:TypeId):
  binOp .eql t x y=(do pure (.bool (<- Op.equal t x y)))/\binOp .neq t x y=(do pure (.bool (!(<- Op.equal t x y)))):=by
 unfold LZ at h;split at h<;>first|exact h.elim|trivial
theorem Bc {w:θ} {t:TypeId} {d:TypeDesc} {size off:Nat} {cs:Array Value} {v:Value} (hd:P.underlying t=some d) (hs:jT P t=some size) (h:Yr d size off cs.toList=some v):
  (part t cs off).run P w= .ok v w:=by
 obtain⟨v',hr,hv⟩:=VF (φ:=λv'=>v'=v) hd hs (by
  unfold Yr at h;unfold partOf
  cases hg:I_ d with
  |true=>rw[hg] at h;simp only[abt,aho] at h ⊢;exact h
  |false=>rw[hg] at h;simp only[aaf] at h ⊢;rw[h])
 rw[hr,hv]
theorem JY {b:Bool} {o:Option Bool} {r:Bool} (h:ahx b o=some r):∃r',o=some r'/\r=(b && r'):=by
 cases o with
 |none=>cases h
 |some r'=>exact⟨r',rfl,by simpa [ahx] using h.symm⟩
theorem Y5:∀(n:Nat) (t:TypeId) (x y:Value) (b:Bool) (m:Nat) (w:θ),Fz P n t x y=some b->n<=m->(Op.equalIn m t x y).run P w= .ok b w:=by
 intro n
 induction n with
 |zero=>intro t x y b m w h;cases h
 |succ n ih=>
  intro t x y b m w h hm;obtain⟨m,rfl⟩:∃m',m=m'+1:=⟨m - 1,by omega⟩;unfold Fz at h;split at h
  ·rename_i hu;rw[run_equalIn_bool' w m t _ _ hu]
   cases h;rfl
  ·rename_i k0 k a k' c hu
   cases hk:Nk k k' with
   |false=>simp_all
   |true=>
    rw[hk] at h;have:=OE hk;subst this;rw[run_equalIn_int w m t k k0 _ _ hu]
    cases h;rfl
  ·rename_i hu;rw[run_equalIn_string w m t _ _ hu]
   cases h;rfl
  ·rename_i fs xs ys hu
   cases hp:P.stoodInHeld t with
   |true=>simp_all
   |false=>
    rw[hp] at h;simp only[aaf] at h;have I:P.fieldsOf t=fs:=by simp[Program.fieldsOf,hu]
    rw[run_equalIn_struct w m t xs ys (by simp_all) hp,I];generalize fs.toList=l at h;clear I hu
    induction l generalizing b with
    |nil=>simp only[af2,aho] at h;subst h;rfl
    |cons fd l ihl=>
     simp only[af2] at h
     cases J:(fd.name=="_") with
     |true=>simp_all
     |false=>
      rw[J] at h;simp only[aaf] at h;split at h
      case h_2=>cases h
      rename_i d size hd hs;split at h
      case h_2=>cases h
      rename_i u v hu hv;split at h
      case h_2=>cases h
      rename_i r hr;obtain⟨r',hr',rfl⟩:=JY h;have N:fd.name≠"_":=by simp_all
      simp only[Op.eqFields,N,ne_eq,am6,ajn,Sem.run_bind,Bc hd hs hu,Bc hd hs hv,Result.andThen_ok,ih _ _ _ _ m w hr (by omega)]
      cases r with
      |true=>simp_all
      |false=>simp
  ·rename_i n' e xs ys hu;split at h
   case h_2=>cases h
   rename_i de size hd hs;obtain⟨i,hi,O⟩:∃i,P.info? e=some i/\i.size=size:=by
    unfold jT at hs
    grind
   have hc:P.cellsOf e=size:=by simp[Program.cellsOf,hi,O]
   rw[run_equalIn_array w m xs ys hu hi,hc,List.range_eq_range'];generalize 0=j at h ⊢;clear hu
   induction n' generalizing b j with
   |zero=>simp only[af4,aho] at h;subst h;rfl
   |succ n' ihn=>
    simp only[af4] at h;split at h
    case h_2=>cases h
    rename_i u v hu hv;split at h
    case h_2=>cases h
    rename_i r hr;obtain⟨r',hr',rfl⟩:=JY h;simp only[List.range'_succ,Op.eqItems,Sem.run_bind,Bc hd hs hu,Bc hd hs hv,Result.andThen_ok,ih _ _ _ _ m w hr (by omega)]
    cases r with
    |true=>grind
    |false=>simp
  ·cases h
theorem ahO {n:Nat} {t:TypeId} {x y:Value} {b:Bool} (h:Fz P n t x y=some b):∃d,P.underlying t=some d:=by
 cases n with
 |zero=>cases h
 |succ n=>
  unfold Fz at h;split at h<;>first|simp_all|cases h
theorem MH {n:Nat} {t:TypeId} {d:TypeDesc} {x y:Value} {b:Bool} (hd:P.underlying t=some d) (h:Fz P n t x y=some b):Instr.sameNow d x y=some b\/Instr.sameNow d x y=none:=by
 cases n with
 |zero=>cases h
 |succ n=>
  unfold Fz at h;split at h
  ·rename_i hu;rw[hd] at hu;cases hu
   cases h
   exact .inl rfl
  ·rename_i k0 k a k' c hu;rw[hd] at hu;cases hu
   cases hk:Nk k k' with
   |false=>simp_all
   |true=>
    rw[hk] at h;have:=OE hk;subst this
    cases h
    exact .inl (by simp[Instr.sameNow])
  ·rename_i hu;rw[hd] at hu;cases hu
   cases h
   exact .inl (by simp[Instr.sameNow,strEq,beq_toListBytes])
  ·rename_i hu;rw[hd] at hu;cases hu;exact .inr rfl
  ·rename_i hu;rw[hd] at hu;cases hu;exact .inr rfl
  ·cases h
theorem WU {kt:TypeId} {d:TypeDesc} {key:Value} (hd:P.underlying kt=some d):∀(es:List MapEntry) (i:Nat) (res:Option (Nat×Value)),uP P kt key es i=some res->Instr.findNow d key es i=some res\/Instr.findNow d key es i=none:=by
 intro es
 induction es with
 |nil=>intro i res h;simp only[uP,aho] at h;subst h;exact .inl rfl
 |cons e es ih=>
  intro i res h;simp only[uP] at h;split at h
  ·rename_i he
   cases h
   rcases MH hd he with h1|h1
   ·exact .inl (by simp[Instr.findNow,h1])
   ·exact .inr (by simp[Instr.findNow,h1])
  ·rename_i he;rcases MH hd he with h1|h1
   ·rcases ih _ _ h with h2|h2
    ·exact .inl (by simp[Instr.findNow,h1,h2])
    ·exact .inr (by simp[Instr.findNow,h1,h2])
   ·exact .inr (by simp[Instr.findNow,h1])
  ·cases h
theorem Uu {kt:TypeId} {key:Value} {w:θ}:∀(es:List MapEntry) (i:Nat) (res:Option (Nat×Value)),uP P kt key es i=some res->(Instr.findAsking kt key es i).run P w= .ok res w:=by
 intro es
 induction es with
 |nil=>intro i res h;simp only[uP,aho] at h;subst h;rfl
 |cons e es ih=>
  intro i res h;simp only[uP] at h;split at h
  ·rename_i he
   cases h
   simp[Instr.findAsking,Op.equal,Op.maxDepth,Y5 16 kt _ _ _ 10000 w he (by omega)]
  ·rename_i he;simp[Instr.findAsking,Op.equal,Op.maxDepth,Y5 16 kt _ _ _ 10000 w he (by omega),ih _ _ h]
  ·cases h
theorem yG {kt:TypeId} {d:TypeDesc} {key:Value} {es:List MapEntry} {res:Option (Nat×Value)} {w:θ} (hd:P.underlying kt=some d) (h:uP P kt key es 0=some res):(Instr.findKey kt key es).run P w= .ok res w:=by
 rcases WU hd es 0 res h with h1|h1
 ·simp[Instr.findKey,run_underlying hd,h1]
 ·simp[Instr.findKey,run_underlying hd,h1,Uu es 0 res h]
theorem xq:∀(n:Nat) (t:TypeId) (x y:Value) (b:Bool) (m:Nat) (em:Bool) (w:θ),Fz P n t x y=some b->n<=m->(Instr.checkKey em m t x).run P w= .ok () w:=by
 intro n
 induction n with
 |zero=>intro t x y b m em w h;cases h
 |succ n ih=>
  intro t x y b m em w h hm;obtain⟨m,rfl⟩:∃m',m=m'+1:=⟨m - 1,by omega⟩;unfold Fz at h;split at h
  ·rename_i hu;simp[Instr.checkKey,run_underlying hu]
  ·rename_i hu;simp[Instr.checkKey,run_underlying hu]
  ·rename_i hu;simp[Instr.checkKey,run_underlying hu]
  ·rename_i fs xs ys hu
   cases hp:P.stoodInHeld t with
   |true=>simp_all
   |false=>
    rw[hp] at h;simp only[aaf] at h;simp only[Instr.checkKey,Sem.run_bind,run_underlying hu,Result.andThen_ok];rw[<- Array.forIn_toList];generalize fs.toList=l at h;clear hu
    induction l generalizing b with
    |nil=>simp
    |cons fd l ihl=>
     simp only[af2] at h
     cases I:(fd.name=="_") with
     |true=>simp_all
     |false=>
      rw[I] at h;simp only[aaf] at h;split at h
      case h_2=>cases h
      rename_i d size hd hs;split at h
      case h_2=>cases h
      rename_i u v hu hv;split at h
      case h_2=>cases h
      rename_i r hr;obtain⟨r',hr',rfl⟩:=JY h;have J:fd.name≠"_":=by simp_all
      have:=ihl _ hr';simp only[List.forIn_cons,J,ne_eq,am6,ajn,Sem.run_bind,Bc hd hs hu,Result.andThen_ok,ih _ _ _ _ m em w hr (by omega),Sem.run_pure];exact this
  ·rename_i n' e xs ys hu;split at h
   case h_2=>cases h
   rename_i de size hd hs;simp only[Instr.checkKey,Sem.run_bind,run_underlying hu,Result.andThen_ok];simp only[Std.Legacy.Range.forIn_eq_forIn_range',Std.Legacy.Range.size,amg,Nat.add_one_sub_one,Nat.div_one];generalize 0=j at h ⊢;clear hu
   induction n' generalizing b j with
   |zero=>simp
   |succ n' ihn=>
    simp only[af4] at h;split at h
    case h_2=>cases h
    rename_i u v hu hv;split at h
    case h_2=>cases h
    rename_i r hr;obtain⟨r',hr',rfl⟩:=JY h;have:=ihn _ _ hr';simp only[List.range'_succ,List.forIn_cons,Sem.run_bind,jV hs,Result.andThen_ok,Bc hd hs hu,ih _ _ _ _ m em w hr (by omega),Sem.run_pure];exact this
  ·cases h
theorem MG {v:Value} (h:agC v=true) (n:Nat):Instr.sameBits n v v=true:=by
 cases v<;>first|(cases h;done)|simp[Instr.sameBits,MapKept.bytes_beq]
theorem JM {v:Value} (h:Θ v=true) (n:Nat):Instr.sameBits (n+1) v v=true:=by
 unfold Θ at h;split at h
 ·rename_i cs;simp only[Instr.sameBits,am7,Bool.true_and,al5];simp only[al5] at h;rintro⟨x,y⟩ u;have:x=y:=by
   obtain⟨i,hi⟩:=amo u
   grind
  subst this;exact MG (h x (List.of_mem_zip u).1) n
 ·exact MG h _
theorem zT {kt:TypeId} {key:Value} (h:oJ P kt key=true):Θ key=true/\∃d b,P.underlying kt=some d/\Fz P 16 kt key key=some b:=by
 simp only[oJ,alg,amP] at h;obtain⟨h1,b,hb⟩:=h;obtain⟨d,hd⟩:=ahO hb
 simp_all
theorem Ov {k:Kind} {v:Value} {φ:k.T->Prop} (h:k.dec v φ):∃x,v=k.enc x/\φ x:=by
 cases k<;>cases v<;>first
  |exact h.elim
  |exact⟨_,rfl,h⟩
  |skip
 case int.int k k' n=>
  simp only[Kind.dec] at h
  cases hb:Nk k k' with
  |false=>simp_all
  |true=>
   rw[hb] at h;have:=OE hb;subst this;exact⟨n,rfl,h⟩
theorem yQ {t:TypeId} {z:Value} {w:θ} (h:EK P t=some z):(zeroValue t).run P w= .ok z w:=by
 unfold EK at h;split at h
 ·rename_i i hi;simp[zeroValue,run_typeInfo hi,h]
 ·cases h
theorem aby {t kt et:TypeId} {k:Kind} {r:Option Nat} {key zero:Value} {w:θ} {K:k.T->Prop} (ht:P.underlying t=some (.map kt et)) (hz:EK P et=some zero) (h:qF P kt k r key zero w K):
  ∃x,(Instr.lookup t (.map r) key false).run P w= .ok (k.enc x) w/\K x:=by
 obtain⟨hk,h⟩:=h;obtain⟨_,d,b',hd,hb'⟩:=zT hk;have u:=λem=>xq 16 kt key key b' 10000 em w hb' (by omega);rcases h with ⟨rfl,h⟩|⟨b,es,clock,rfl,hb,res,I,h⟩
 ·obtain⟨x,hx,h⟩:=Ov h;refine⟨x,?_,h⟩;have hf:(Instr.findKey kt key []).run P w= .ok none w:=yG hd rfl;simp[Instr.lookup,run_underlying ht,u,hf,yQ hz,hx]
 ·obtain⟨x,hx,h⟩:=Ov h;refine⟨x,?_,h⟩;have hf:=yG (w:=w) hd I
  cases res with
  |none=>simp[Instr.lookup,run_underlying ht,MapKept.run_getObj_map hb,u,hf,yQ hz,<- hx]
  |some p=>
   obtain⟨i,v⟩:=p;simp[Instr.lookup,run_underlying ht,MapKept.run_getObj_map hb,u,hf,<- hx]
theorem QM {t kt et:TypeId} {r:Option Nat} {key zero:Value} {w:θ} {K:Value->Bool->Prop} (ht:P.underlying t=some (.map kt et)) (hz:EK P et=some zero) (h:FC P kt r key zero w K) (ok:Bool):
  ∃v b,(Instr.lookup t (.map r) key ok).run P w= .ok (if ok=true then .tuple #[v,.bool b] else v) w/\K v b:=by
 obtain⟨hk,h⟩:=h;obtain⟨_,d,b',hd,hb'⟩:=zT hk;have u:=λem=>xq 16 kt key key b' 10000 em w hb' (by omega);rcases h with ⟨rfl,h⟩|⟨b,es,clock,rfl,hb,res,I,h⟩
 ·refine⟨_,_,?_,h⟩;have hf:(Instr.findKey kt key []).run P w= .ok none w:=yG hd rfl;simp[Instr.lookup,run_underlying ht,u,hf,yQ hz]
 ·have hf:=yG (w:=w) hd I
  cases res with
  |none=>
   refine⟨_,_,?_,h⟩;simp[Instr.lookup,run_underlying ht,MapKept.run_getObj_map hb,u,hf,yQ hz]
  |some p=>
   obtain⟨i,v⟩:=p;refine⟨_,_,?_,h⟩;simp[Instr.lookup,run_underlying ht,MapKept.run_getObj_map hb,u,hf]
theorem TK {t kt et:TypeId} {r:Option Nat} {key val:Value} {w:θ} {K:b_} (ht:P.underlying t=some (.map kt et)) (h:pq P kt r key val w K):
  ∃w',(Instr.mapUpdate t (.map r) key val).run P w= .ok () w'/\K w':=by
 obtain⟨hk,b,es,clock,rfl,hb,res,u,h⟩:=h;obtain⟨hp,d,b',hd,hb'⟩:=zT hk;have I:=λem=>xq 16 kt key key b' 10000 em w hb' (by omega);have hf:=yG (w:=w) hd u
 cases res with
 |none=>exact⟨_,by simp[Instr.mapUpdate,run_underlying ht,MapKept.run_getObj_map hb,I,hf,MapKept.run_setObj_map _ hb];rfl,h⟩
 |some p=>
  obtain⟨i,v⟩:=p;obtain⟨⟨e,he,J⟩,h⟩:=h;have N:(Instr.keyThatStays e.key key).run P w= .ok key w:=by
   rw[J];simp[Instr.keyThatStays,JM hp]
  exact⟨_,by simp[Instr.mapUpdate,run_underlying ht,MapKept.run_getObj_map hb,I,hf,he,N,MapKept.run_setObj_map _ hb];rfl,h⟩
theorem abx {t kt et:TypeId} {r:Option Nat} {key zero:Value} {w:θ} {K:Value->Int->b_} (ht:P.underlying t=some (.map kt et)) (hz:EK P et=some zero) (h:afl P kt r key zero w K):
  ∃v n w',(Instr.mapEntry t (.map r) key).run P w= .ok (.tuple #[v,.int .i64 n]) w'/\K v n w':=by
 obtain⟨hk,b,es,clock,rfl,hb,res,u,h⟩:=h;obtain⟨hp,d,b',hd,hb'⟩:=zT hk;have I:=λem=>xq 16 kt key key b' 10000 em w hb' (by omega);have hf:=yG (w:=w) hd u
 cases res with
 |none=>exact⟨_,_,_,by simp[Instr.mapEntry,run_underlying ht,MapKept.run_getObj_map hb,I,hf,yQ hz,MapKept.run_setObj_map _ hb,goInt];rfl,h⟩
 |some p=>
  obtain⟨i,v⟩:=p;obtain⟨e,he,J,h⟩:=h;have N:(Instr.keyThatStays e.key key).run P w= .ok key w:=by
   rw[J];simp[Instr.keyThatStays,JM hp]
  exact⟨_,_,_,by simp[Instr.mapEntry,run_underlying ht,MapKept.run_getObj_map hb,I,hf,he,N,MapKept.run_setObj_map _ hb,goInt];rfl,h⟩
theorem adV {t:TypeId} {r:Option Nat} {k:IntKind} {n:Int} {val:Value} {w:θ} {K:b_} (h:ai6 r n val w K):
  ∃w',(Instr.entryStore t (.map r) (.int k n) val).run P w= .ok () w'/\K w':=by
 obtain⟨b,es,clock,i,rfl,hb,hi,h⟩:=h;exact⟨_,by simp[Instr.entryStore,MapKept.run_getObj_map hb,asInt,asIntOf,hi,MapKept.run_setObj_map _ hb];rfl,h⟩
theorem abw {t kt et t' ty:TypeId} {r:Option Nat} {key:Value} {w:θ} {K:b_} (ht:P.underlying t=some (.map kt et)) (h:FB P kt r key w K):
  ∃w',(Builtin.delete_ ⟨[t,t']⟩ ty ⟨[.map r,key]⟩).run P w= .ok (.tuple #[]) w'/\K w':=by
 obtain⟨hk,h⟩:=h;obtain⟨_,d,b',hd,hb'⟩:=zT hk;have u:=λem=>xq 16 kt key key b' 10000 em w hb' (by omega);rcases h with ⟨rfl,h⟩|⟨b,es,clock,rfl,hb,res,I,h⟩
 ·exact⟨_,by simp[Builtin.delete_,run_underlying ht,u],h⟩
 ·have hf:=yG (w:=w) hd I
  cases res with
  |none=>exact⟨_,by simp[Builtin.delete_,run_underlying ht,MapKept.run_getObj_map hb,u,hf,MapKept.run_setObj_map _ hb];rfl,h⟩
  |some p=>
   obtain⟨i,v⟩:=p;exact⟨_,by simp[Builtin.delete_,run_underlying ht,MapKept.run_getObj_map hb,u,hf,MapKept.run_setObj_map _ hb];rfl,h⟩
theorem YQ {op:BinOp} {t:TypeId} {x y:Value} {φ:Value->Prop} (a b:Operand) {w:θ} (h:Il P op t x y φ):
  ∃v,((do eqGuard op t a b x y;binOp op t x y):Sem Value).run P w= .ok v w/\φ v:=by
 unfold Il at h;split at h
 ·rename_i k n;have hg:(eqGuard op t a b (.int k n) y).run P w= .ok () w:=by cases op<;>cases y<;>simp[eqGuard]
  simp only[Sem.run_bind,hg,Result.andThen_ok]
  cases y with
  |int k' m=>
   by_cases h1:op= .shl
   ·subst h1;simp only[MO] at h;refine⟨_,?_,h.2⟩;have:=Int.not_lt.2 h.1;simp[binOp,Op.shift,this,LX]
   ·by_cases h2:op= .shr
    ·subst h2;simp only[MO] at h;refine⟨_,?_,h.2⟩;have:=Int.not_lt.2 h.1;simp[binOp,Op.shift,this,jR]
    ·have h':cond (Nk k k') (Nl op k n m φ) False:=by cases op<;>first|exact h|exact absurd rfl h1|exact absurd rfl h2
     cases hk:Nk k k' with
     |false=>simp_all
     |true=>
      rw[hk] at h';have:=OE hk;subst this;exact ab9 ⟨h1,h2⟩ h'
  |_=>cases op<;>exact h.elim
 ·rename_i s;have hg:(eqGuard op t a b (.string s) y).run P w= .ok () w:=by cases op<;>cases y<;>simp[eqGuard]
  simp only[Sem.run_bind,hg,Result.andThen_ok]
  cases y with
  |string s'=>
   have h:NV op s s' φ:=by cases op<;>exact h
   exact acQ h
  |_=>cases op<;>exact h.elim
 ·rename_i xs;split at h
  case h_2=>exact h.elim
  rename_i s ys ho
  cases hg:P.eqGuardType P.depth t with
  |true=>simp_all
  |false=>
   rw[hg] at h;simp only[aaf] at h;split at h
   case h_2=>exact h.elim
   rename_i r hr;have he:=Y5 16 t _ _ r 10000 w hr (by omega);refine⟨_,?_,h⟩;simp only[Sem.run_bind,run_eqGuard_agg w op t a b xs ys hg,Result.andThen_ok]
   cases op<;>simp only[Ja,aho] at ho<;>first|(cases ho;done)|skip
   ·subst ho;rw[run_eql_struct,he];rfl
   ·subst ho;rw[run_neq_struct,he];rfl
 ·split at h
  ·rename_i ho hd;have:op= .eql:=by cases op<;>first|rfl|(simp[Ja] at ho)
   subst this;obtain⟨v,hr,hφ⟩:=X6 (w:=w) hd h;exact⟨_,by simp[QV h,(QU h t).1,hr],hφ⟩
  ·rename_i ho hd;have:op= .neq:=by cases op<;>first|rfl|(simp[Ja] at ho)
   subst this;obtain⟨v,hr,hφ⟩:=X6 (w:=w) hd h;exact⟨_,by simp[QV h,(QU h t).2,hr],hφ⟩
  trivial
theorem abg {op:UnOp} {x:Value} {φ:Value->Prop} {w:θ} (h:Py op x φ):∃v,(Op.unary op x).run P w= .ok v w/\φ v:=by
 unfold Py at h;split at h
 ·exact⟨_,by rfl,h⟩
 ·exact⟨_,by rfl,h⟩
 ·exact⟨_,by rfl,h⟩
 trivial
theorem Ba {ρ:Operand->Value} {x:Option Operand} {dflt:Int} {φ:Int->Prop} (h:zX ρ x dflt φ):
  (x=none/\φ dflt)\/∃o k n,x=some o/\ρ o= .int k n/\φ n:=by
 unfold zX at h
 grind
theorem kU {k:IntKind} {i:Int} {y:Nat} {c:BoundsCode} {w:θ} (h0:0<=i) (h1:i<=(y:Int)):
  (Instr.sliceBound (.int k i) y c).run P w= .ok i.toNat w:=by
 simp[Instr.sliceBound,asIntOf,h0,h1]
theorem YR {isS:Bool} {len cap:Nat} {ρ:Operand->Value} {lo hi:Option Operand} {φ:Int->Int->Prop} {w:θ} (_:isS=true\/len=cap)
  (h:zX ρ lo 0 λl=>zX ρ hi (len:Int) λh=>φ l h) (hb:∀l h,φ l h->0<=l/\l<=h/\h<=(cap:Int)):
  ∃l h,(Instr.sliceBounds isS len cap (lo.map ρ) (hi.map ρ) none).run P w= .ok (l.toNat,h.toNat,cap) w/\φ l h:=by
 rcases Ba h with ⟨e1,h1⟩|⟨o,k,l,e1,ho,h1⟩
 ·subst e1;rcases Ba h1 with ⟨e2,h2⟩|⟨o',k',h',e2,ho',h2⟩
  ·subst e2;exact⟨_,_,by rfl,h2⟩
  ·subst e2;obtain⟨a1,a2,a3⟩:=hb _ _ h2;exact⟨_,_,by simp[Instr.sliceBounds,ho',kU (Int.le_trans a1 a2) a3],h2⟩
 ·subst e1;rcases Ba h1 with ⟨e2,h2⟩|⟨o',k',h',e2,ho',h2⟩
  ·subst e2;obtain⟨a1,a2,a3⟩:=hb _ _ h2;exact⟨_,_,by simp[Instr.sliceBounds,ho,kU a1 a2],h2⟩
  ·subst e2;obtain⟨a1,a2,a3⟩:=hb _ _ h2;have a4:l<=((h'.toNat:Nat):Int):=by omega
   exact⟨_,_,by simp[Instr.sliceBounds,ho,ho',kU (Int.le_trans a1 a2) a3,kU a1 a4],h2⟩
theorem ahC {isS:Bool} {len cap:Nat} {ρ:Operand->Value} {lo:Option Operand} {oh om:Operand} {φ:Int->Int->Int->Prop} {w:θ}
  (h:zX ρ lo 0 λl=>zX ρ (some oh) 0 λh=>zX ρ (some om) 0 λm=>φ l h m) (hb:∀l h m,φ l h m->0<=l/\l<=h/\h<=m/\m<=(cap:Int)):
  ∃l h m,(Instr.sliceBounds isS len cap (lo.map ρ) (some (ρ oh)) (some (ρ om))).run P w= .ok (l.toNat,h.toNat,m.toNat) w/\φ l h m:=by
 have key:∀l,(zX ρ (some oh) 0 λh=>zX ρ (some om) 0 λm=>φ l h m)->∃kh h km m,ρ oh= .int kh h/\ρ om= .int km m/\φ l h m:=by
  intro l hh;rcases Ba hh with ⟨e2,_⟩|⟨o',k',h',e2,ho',h2⟩
  ·cases e2
  ·cases e2
   rcases Ba h2 with ⟨e3,_⟩|⟨o'',k'',h'',e3,ho'',h3⟩
   ·cases e3
   grind
 rcases Ba h with ⟨e1,h1⟩|⟨o,k,l,e1,ho,h1⟩
 ·subst e1;obtain⟨kh,h',km,m,ho,hm,h2⟩:=key _ h1;obtain⟨a1,a2,a3,a4⟩:=hb _ _ _ h2;have b1:(0:Int)<=m:=by omega
  have b3:h'<=((m.toNat:Nat):Int):=by omega
  exact⟨_,_,_,by simp[Instr.sliceBounds,ho,hm,kU b1 a4,kU a2 b3],h2⟩
 ·subst e1;obtain⟨kh,h',km,m,ho',hm,h2⟩:=key _ h1;obtain⟨a1,a2,a3,a4⟩:=hb _ _ _ h2;have b1:(0:Int)<=m:=by omega
  have b2:(0:Int)<=h':=by omega
  have b3:h'<=((m.toNat:Nat):Int):=by omega
  have b4:l<=((h'.toNat:Nat):Int):=by omega
  exact⟨_,_,_,by simp[Instr.sliceBounds,ho,ho',hm,kU b1 a4,kU b2 b3,kU a1 b4],h2⟩
theorem Ξ {t:TypeId} {x:Value} {ρ:Operand->Value} {lo hi mx:Option Operand} {φ:Value->Prop} {w:θ} (h:JO P t x ρ lo hi mx φ):
  ∃v,(Instr.sliceAt t x (lo.map ρ) (hi.map ρ) (mx.map ρ)).run P w= .ok v w/\φ v:=by
 unfold JO at h;split at h
 ·rename_i s ht;split at h
  ·obtain⟨l,h',hr,h0⟩:=YR (P:=P) (isS:=false) (w:=w) (.inr rfl) h (λl h' hh=>⟨hh.1,hh.2.1,hh.2.2.1⟩);exact⟨_,by simp[Instr.sliceAt,Instr.slice,run_underlying ht,hr],h0.2.2.2⟩
  trivial
 ·rename_i e a n c ht;split at h
  ·rename_i size hs;split at h
   ·obtain⟨l,h',hr,h0⟩:=YR (P:=P) (w:=w) (.inl rfl) h (λl h' hh=>⟨hh.1,hh.2.1,hh.2.2.1⟩);exact⟨_,by simp[Instr.sliceAt,Instr.slice,run_underlying ht,hr,jV hs,gG.v,rP],h0.2.2.2⟩
   ·rename_i m;split at h
    ·rename_i hi';obtain⟨l,h',m',hr,h0⟩:=ahC (P:=P) (isS:=true) (len:=n) (w:=w) h (λl h' m' hh=>⟨hh.1,hh.2.1,hh.2.2.1,hh.2.2.2.1⟩);exact⟨_,by simp[Instr.sliceAt,Instr.slice,run_underlying ht,hr,jV hs,gG.v,rP],h0.2.2.2.2⟩
    trivial
  trivial
 ·rename_i n e a ht;split at h
  ·rename_i size hs;split at h
   ·obtain⟨l,h',hr,h0⟩:=YR (P:=P) (isS:=false) (w:=w) (.inr rfl) h (λl h' hh=>⟨hh.1,hh.2.1,hh.2.2.1⟩);exact⟨_,by simp[Instr.sliceAt,Instr.sureAddr,run_underlying ht,hr,jV hs,gG.v],h0.2.2.2⟩
   trivial
  trivial
 trivial
end
end Gp
end
