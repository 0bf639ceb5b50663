import Derived.RangeFuncLeaves
import Derived.OrdersIn
import Derived.RangeFuncSeq
import Derived.Maps.RangeRun
import Derived.Laws.Append
import Derived.Laws.Slices
import Derived.Laws.MakeOwn
import Derived.Laws.CopyOwn
import Derived.Laws.BytesString
import Derived.Laws.BytesArg
import Derived.Laws.StructEq
import Derived.MapKept
import Derived.WideKeyRuns
import Derived.ChangeKeysEq
abbrev aaT:=@cond_false
abbrev aaU:=@cond_true
abbrev ab3:=@Int.toNat_natCast
abbrev ace:=@decide_true
abbrev acQ:=@decide_false
abbrev ada:=@if_neg
abbrev ade:=@List.getElem?_eq_getElem
abbrev adn:=@decide_eq_false
abbrev adp:=@Bool.not_true
abbrev aeH:=@if_pos
abbrev aeI:=@List.getElem?_cons_zero
abbrev aeJ:=@decide_eq_true
abbrev aeK:=@List.getElem?_eq_some_iff
abbrev aeR:=@List.getElem?_cons_succ
abbrev afa:=@Bool.not_false
abbrev afu:=@true_and
abbrev af7:=@List.set_cons_zero
abbrev agN:=@List.mem_cons
abbrev agO:=@List.set_cons_succ
abbrev agP:=@Option.some.injEq
abbrev ag4:=@Option.map_some
abbrev ahc:=@List.length_map
abbrev ahO:=@Nat.zero_add
abbrev ahY:=@List.length_append
abbrev ah6:=@Ne.symm
abbrev aiG:=@Nat.mul_one
abbrev aiN:=@List.getElem?_map
abbrev aiQ:=@List.length_cons
abbrev aiS:=@if_true
abbrev ai8:=@Nat.le_refl
abbrev ajH:=@List.not_mem_nil
abbrev ajS:=@List.take_append_drop
abbrev ajT:=@List.length_take
abbrev ajU:=@List.map_cons
abbrev ajX:=@Option.isSome_some
abbrev ajY:=@if_false
abbrev aj0:=@Nat.le_trans
abbrev aj3:=@List.take_succ_eq_append_getElem
abbrev akc:=@List.append_assoc
abbrev aki:=@Nat.add_zero
abbrev akl:=@Array.getElem?_eq_some_iff
abbrev akI:=@List.getElem_mem
abbrev akJ:=@List.getElem?_set
abbrev akK:=@List.mem_of_getElem?
abbrev akL:=@or_false
abbrev akM:=@List.take_of_length_le
abbrev akN:=@Bool.and_eq_true
abbrev akQ:=@List.getElem?_append_right
abbrev akR:=@List.mem_map
abbrev akU:=@List.mem_singleton
abbrev akX:=@List.mem_append
abbrev akY:=@List.take_length
abbrev ak0:=@List.flatMap_cons
abbrev ak7:=@Array.getElem?_modify
abbrev alc:=@Nat.lt_of_lt_of_le
abbrev ald:=@Option.isSome_none
abbrev ale:=@Nat.add_mul
abbrev alf:=@Option.getD_some
abbrev alg:=@List.length_set
abbrev alh:=@List.flatMap_append
abbrev ali:=@and_self
abbrev alj:=@Bool.decide_and
abbrev alk:=@List.getElem?_append_left
abbrev alm:=@List.mem_cons_of_mem
abbrev aln:=@Nat.mod_lt
abbrev alo:=@Nat.eq_of_beq_eq_true
abbrev alp:=@Prod.mk.injEq
abbrev alq:=@Option.some.inj
abbrev alr:=@List.cons_append
abbrev als:=@BitVec.toNat_ofInt
abbrev alu:=@Int.tmod_eq_emod_of_nonneg
abbrev alv:=@List.mem_filter
abbrev alx:=@List.length_drop
abbrev aly:=@List.take_add_one
abbrev alz:=@List.map_append
abbrev alA:=@List.all_eq_true
abbrev alB:=@List.replicate_succ
abbrev alC:=@Nat.lt_trichotomy
abbrev alD:=@Nat.add_assoc
abbrev alE:=@Array.getD_eq_getD_getElem?
abbrev alF:=@Bool.not_eq_true'
abbrev alG:=@Array.getElem?_setIfInBounds
abbrev alH:=@Nat.min_eq_left
abbrev alI:=@List.drop_eq_getElem_cons
abbrev alJ:=@List.nil_append
abbrev alK:=@Option.map_eq_some_iff
abbrev alL:=@Classical.byContradiction
abbrev alM:=@bne_iff_ne
abbrev alN:=@Nat.sub_zero
abbrev alO:=@and_true
abbrev alP:=@List.cons.injEq
abbrev alQ:=@List.mem_cons_self
abbrev alR:=@Nat.zero_mul
abbrev alS:=@List.set_append_right
abbrev alT:=@List.nodup_cons
abbrev alU:=@List.length_nil
abbrev alV:=@List.getElem?_of_mem
abbrev alW:=@Array.getElem?_eq_getElem
abbrev alX:=@List.getElem?_take
abbrev alY:=@List.getElem?_replicate
abbrev alZ:=@List.filter_append
abbrev al0:=@Nat.blt_eq
abbrev al1:=@List.getD_eq_getElem?_getD
abbrev al2:=@Nat.mul_le_mul_right
abbrev al3:=@BitVec.toNat_and
abbrev al4:=@List.nodup_append
abbrev al5:=@Option.isNone_some
abbrev al6:=@Nat.pow_le_pow_right
abbrev al7:=@of_decide_eq_false
abbrev al8:=@List.mem_of_mem_drop
abbrev al9:=@Bool.or_eq_false_iff
abbrev al_:=@Int.toNat_zero
abbrev ama:=@beq_eq_false_iff_ne
abbrev amb:=@List.pairwise_iff_getElem
abbrev amc:=@decide_eq_decide
abbrev amd:=@Int.tdiv_eq_ediv_of_nonneg
abbrev ame:=@Array.toList_inj
abbrev amf:=@Array.length_toList
abbrev amg:=@List.getElem?_drop
abbrev amh:=@List.foldl_cons
abbrev ami:=@Bool.or_eq_true
abbrev amj:=@List.size_toArray
abbrev amk:=@List.mem_filterMap
abbrev aml:=@List.getElem?_eq_none
abbrev amm:=@Array.getElem?_push
abbrev amn:=@of_decide_eq_true
abbrev amo:=@List.drop_zero
abbrev amq:=@Int.fdiv_eq_ediv_of_nonneg
abbrev amr:=@Int.natCast_ediv
abbrev ams:=@List.mem_of_mem_take
abbrev amu:=@Option.isNone_none
abbrev amv:=@List.mem_take_iff_getElem
abbrev amw:=@Nat.lt_irrefl
abbrev amx:=@List.filter_cons
abbrev amy:=@UInt8.toNat_ofNat'
abbrev amA:=@List.ext_getElem?
abbrev amB:=@not_false_eq_true
abbrev amC:=@beq_self_eq_true
abbrev amD:=@Option.isSome_iff_exists
abbrev amE:=@List.mem_append_left
abbrev amF:=@List.length_singleton
abbrev amG:=@Array.toList_modify
abbrev amH:=@Nat.and_two_pow_sub_one_eq_mod
abbrev amI:=@List.take_succ_cons
abbrev amJ:=@List.pairwise_cons
abbrev amK:=@List.filter_eq_self
abbrev amL:=@List.length_filter_le
abbrev amM:=@Nat.xor_lt_two_pow
abbrev amN:=@List.countP_append
abbrev amO:=@List.any_eq_true
abbrev amP:=@List.set_eq_take_append_cons_drop
abbrev amQ:=@Array.getElem?_append_left
abbrev amR:=@Nat.shiftRight_eq_div_pow
abbrev θ:=Go.World
open List (map_map)
open Nat (ble_eq)
section
namespace Gp
open Go
abbrev b_:=θ->Prop
abbrev fO:=Option Addr
theorem d_{a:Type}:(∀(b:a) (c:List a),(b::c)[0]? =some b)/\∀(b:a) (c:List a) (d:Nat),(b::c)[d+1]? =c[d]?:=⟨λ_ _=>rfl,λ_ _ _=>rfl⟩
inductive Kind where
 |int (k:IntKind)|bool|str|ptr|slice|map|any
abbrev ν:Kind:= .int .i64
structure fU where
 a:fO
 len:Nat
 cap:Nat
@[reducible] def Kind.T:Kind->Type
 | .int _=>Int
 | .bool=>Bool
 | .str=>ByteArray
 | .ptr=>fO
 | .slice=>fU
 | .map=>Option Nat
 | .any=>Value
def Kind.enc:(k:Kind)->k.T->Value
 | .int k,n=> .int k n
 | .bool,b=> .bool b
 | .str,s=> .string s
 | .ptr,a=> .pointer a
 | .slice,s=> .slice s.a s.len s.cap
 | .map,r=> .map r
 | .any,v=>v
inductive Shape where
 |one (k:Kind)
 |agg (ks:List Kind)
def kindOf:TypeDesc->Option Kind
 | .bool=>some .bool
 | .int k=>some (.int k)
 | .string=>some .str
 | .pointer _=>some .ptr
 | .slice _=>some .slice
 | .map _ _=>some .map
 | .func _ _ _=>some .any
 | .interface _=>some .any
 |_=>none
def akb:List (Option (List Kind))->Option (List Kind)
 |[]=>some []
 |x::r=>match x,akb r with
  |some a,some b=>some (a++b)
  |_,_=>none
def aky:Nat->List Kind->List Kind
 |0,_=>[]
 |n+1,ks=>ks++aky n ks
def JK (P:Program):Nat->TypeId->Option (List Kind)
 |0,_=>none
 |n+1,t=>match P.underlying t with
  |some (.struct fs)=>akb (fs.toList.map λf=>JK P n f.type)
  |some (.array len e)=>match JK P n e with
   |some ks=>some (aky len ks)
   |none=>none
  |some d=>match kindOf d with
   |some k=>some [k]
   |none=>none
  |none=>none
def IJ:TypeDesc->Bool
 | .struct _=>true
 | .array _ _=>true
 |_=>false
def shapeOf (P:Program) (t:TypeId):Option Shape:=
 match P.underlying t with
 |some d=>cond (IJ d)
  (match JK P 20 t with
   |some ks=>some (.agg ks)
   |none=>none)
  (match kindOf d with
   |some k=>some (.one k)
   |none=>none)
 |none=>none
def aax (P:Program):List TypeId->Option (List Shape)
 |[]=>some []
 |t::r=>match shapeOf P t,aax P r with
  |some a,some b=>some (a::b)
  |_,_=>none
def Qm (P:Program) (t:TypeId):Option (List Shape):=
 match P.underlying t with
 |some (.tuple ts)=>aax P ts.toList
 |_=>match shapeOf P t with
  |some s=>some [s]
  |none=>none
def ai9:(ks:List Kind)->(List Value->Prop)->Prop
 |[],φ=>φ []
 |k::ks,φ=>∃x:k.T,ai9 ks λvs=>φ (k.enc x::vs)
def Shape.ex:Shape->(Value->Prop)->Prop
 | .one k,φ=>∃x:k.T,φ (k.enc x)
 | .agg ks,φ=>ai9 ks λvs=>φ (.agg ⟨vs⟩)
def Iz:List Shape->(List Value->Prop)->Prop
 |[],φ=>φ []
 |s::r,φ=>s.ex λv=>Iz r λvs=>φ (v::vs)
def ZW:List Value->Value
 |[v]=>v
 |vs=> .tuple ⟨vs⟩
def iI:Value->Bool
 | .agg _=>false
 | .tuple _=>false
 |_=>true
def Ld (k:Kind) (w:θ) (a:Addr) (K:k.T->Prop):Prop:=∃x:k.T,w.cell? a=some (k.enc x)/\K x
def LdN:List Kind->θ->Addr->Nat->(List Value->Prop)->Prop
 |[],_,_,_,φ=>φ []
 |k::ks,w,a,i,φ=>Ld k w (a.add i) λx=>LdN ks w a (i+1) λvs=>φ (k.enc x::vs)
def Shape.ld:Shape->θ->Addr->(Value->Prop)->Prop
 | .one k,w,a,φ=>Ld k w a λx=>φ (k.enc x)
 | .agg ks,w,a,φ=>LdN ks w a 0 λvs=>φ (.agg ⟨vs⟩)
def Shape.cells:Shape->Nat
 | .one _=>1
 | .agg ks=>ks.length
def St (w:θ) (a:Addr) (v:Value) (K:b_):Prop:=iI v=true/\(w.cell? a).isSome=true/\w.frozen? a=false/\K (w.setCell a v)
def h_:List Value->θ->Addr->Nat->(b_)->Prop
 |[],w,_,_,K=>K w
 |v::vs,w,a,i,K=>St w (a.add i) v λw'=>h_ vs w' a (i+1) K
@[reducible] def af9 (w:θ):Value:= .pointer (some ⟨w.heap.size,0,none⟩)
def gX (z:List Value):Nat->List Value
 |0=>[]
 |n+1=>z++gX z n
def jF (P:Program) (t:TypeId):Option Nat:=
 match P.info? t with
 |some i=>some i.size
 |none=>none
def lu (k:IntKind) (a b:Int):Int:=k.wrap ((BitVec.ofInt k.bits a &&& BitVec.ofInt k.bits b).toNat:Int)
def orI (k:IntKind) (a b:Int):Int:=k.wrap ((BitVec.ofInt k.bits a|||BitVec.ofInt k.bits b).toNat:Int)
def VG (k:IntKind) (a b:Int):Int:=k.wrap ((BitVec.ofInt k.bits a^^^BitVec.ofInt k.bits b).toNat:Int)
def agW (k:IntKind) (a b:Int):Int:=k.wrap ((BitVec.ofInt k.bits a &&& ~~~(BitVec.ofInt k.bits b)).toNat:Int)
def Lu (k:IntKind) (a b:Int):Int:=k.wrap (a * 2^(min b.toNat k.bits))
def jE (k:IntKind) (a b:Int):Int:=a.fdiv (2^(min b.toNat k.bits))
def strEq (a b:ByteArray):Bool:=a.toList==b.toList
def strLt (a b:ByteArray):Bool:=Op.bytesLess a.toList b.toList
def MO:IntKind->IntKind->Bool
 | .i8,.i8| .i16,.i16| .i32,.i32| .i64,.i64| .u8,.u8| .u16,.u16| .u32,.u32| .u64,.u64=>true
 |_,_=>false
def Kind.dec:(k:Kind)->Value->(k.T->Prop)->Prop
 | .int k,.int k' n,φ=>cond (MO k k') (φ n) False
 | .bool,.bool b,φ=>φ b
 | .str,.string s,φ=>φ s
 | .ptr,.pointer a,φ=>φ a
 | .slice,.slice a l c,φ=>φ ⟨a,l,c⟩
 | .map,.map r,φ=>φ r
 | .any,v,φ=>φ v
 |_,_,_=>False
def MP (op:BinOp) (k:IntKind) (a b:Int) (φ:Value->Prop):Prop:=
 match op with
 | .add=>φ (.int k (k.wrap (a+b)))
 | .sub=>φ (.int k (k.wrap (a - b)))
 | .mul=>φ (.int k (k.wrap (a * b)))
 | .quo=>b≠0/\φ (.int k (k.wrap (a.tdiv b)))
 | .rem=>b≠0/\φ (.int k (a.tmod b))
 | .and=>φ (.int k (lu k a b))
 | .or=>φ (.int k (orI k a b))
 | .xor=>φ (.int k (VG k a b))
 | .andNot=>φ (.int k (agW k a b))
 | .eql=>φ (.bool (a==b))
 | .neq=>φ (.bool (a !=b))
 | .lss=>φ (.bool (decide (a<b)))
 | .leq=>φ (.bool (decide (a<=b)))
 | .gtr=>φ (.bool (decide (a>b)))
 | .geq=>φ (.bool (decide (a>=b)))
 |_=>False
def Ny (op:BinOp) (a b:ByteArray) (φ:Value->Prop):Prop:=
 match op with
 | .add=>((a.size+b.size:Nat):Int)<=IntKind.i64.max/\φ (.string (a++b))
 | .eql=>φ (.bool (strEq a b))
 | .neq=>φ (.bool (!strEq a b))
 | .lss=>φ (.bool (strLt a b))
 | .leq=>φ (.bool (strLt a b||strEq a b))
 | .gtr=>φ (.bool !(strLt a b||strEq a b))
 | .geq=>φ (.bool !(strLt a b))
 |_=>False
def akW:Value->Value->Option Bool
 | .int _ a,.int _ b=>some (a==b)
 | .bool a,.bool b=>some (a==b)
 | .string a,.string b=>some (strEq a b)
 |_,_=>none
def Mc (op:BinOp) (x y:Value) (φ:Value->Prop):Prop:=
 match op,x,y with
 | .shl,.int k a,.int _ b=>0<=b/\φ (.int k (Lu k a b))
 | .shr,.int k a,.int _ b=>0<=b/\φ (.int k (jE k a b))
 |op,.int k a,.int k' b=>cond (MO k k') (MP op k a b φ) False
 |op,.string a,.string b=>Ny op a b φ
 |_,_,_=>False
def LD (d:TypeDesc) (x y:Value) (φ:Bool->Prop):Prop:=
 match d,x,y with
 | .bool,.bool a,.bool b=>φ (a==b)
 | .pointer _,.pointer q,.pointer none=>φ q.isNone
 | .slice _,.slice q _ _,.slice none _ _=>φ q.isNone
 | .map _ _,.map q,.map none=>φ q.isNone
 |_,_,_=>False
def XZ (d:TypeDesc) (size off:Nat) (cs:List Value):Option Value:=
 cond (IJ d) (some (.agg ⟨(cs.drop off).take size⟩)) cs[off]?
def agX (b:Bool):Option Bool->Option Bool
 |some r=>some (b && r)
 |none=>none
def afs (P:Program) (f:TypeId->Value->Value->Option Bool) (xs ys:List Value):List Field->Option Bool
 |[]=>some true
 |fd::fs=>cond (fd.name=="_") none (match P.underlying fd.type,jF P fd.type with
  |some d,some size=>match XZ d size fd.offset xs,XZ d size fd.offset ys with
   |some a,some b=>match f fd.type a b with
    |some r=>agX r (afs P f xs ys fs)
    |none=>none
   |_,_=>none
  |_,_=>none)
def aft (f:Value->Value->Option Bool) (d:TypeDesc) (size:Nat) (xs ys:List Value):Nat->Nat->Option Bool
 |0,_=>some true
 |n+1,i=>match XZ d size (i * size) xs,XZ d size (i * size) ys with
  |some a,some b=>match f a b with
   |some r=>agX r (aft f d size xs ys n (i+1))
   |none=>none
  |_,_=>none
def EZ (P:Program):Nat->TypeId->Value->Value->Option Bool
 |0,_,_,_=>none
 |d+1,t,x,y=>match P.underlying t,x,y with
  |some .bool,.bool a,.bool b=>some (a==b)
  |some (.int _),.int k a,.int k' b=>cond (MO k k') (some (a==b)) none
  |some .string,.string a,.string b=>some (strEq a b)
  |some (.struct fs),.agg xs,.agg ys=>cond (P.stoodInHeld t) none (afs P (EZ P d) xs.toList ys.toList fs.toList)
  |some (.array n e),.agg xs,.agg ys=>match P.underlying e,jF P e with
   |some de,some size=>aft (EZ P d e) de size xs.toList ys.toList n 0
   |_,_=>none
  |_,_,_=>none
def IK:BinOp->Option Bool
 | .eql=>some true
 | .neq=>some false
 |_=>none
def H6 (P:Program) (op:BinOp) (t:TypeId) (x y:Value) (φ:Value->Prop):Prop:=
 match x with
 | .int _ _=>Mc op x y φ
 | .string _=>Mc op x y φ
 | .agg _=>match IK op,y with
  |some s,.agg _=>cond (P.eqGuardType P.depth t) False (match EZ P 16 t x y with
   |some b=>φ (.bool (cond s b (!b)))
   |none=>False)
  |_,_=>False
 |_=>match IK op,P.underlying t with
  |some true,some d=>LD d x y λb=>φ (.bool b)
  |some false,some d=>LD d x y λb=>φ (.bool !b)
  |_,_=>False
def OZ (op:UnOp) (x:Value) (φ:Value->Prop):Prop:=
 match op,x with
 | .neg,.int k n=>φ (.int k (k.wrap (0 - n)))
 | .not,.bool b=>φ (.bool !b)
 | .xor,.int k n=>φ (.int k (VG k (if k.signed then -1 else k.max) n))
 |_,_=>False
def qU (a:fO) (m l size:Nat):fO:=if m=l then a else a.map (·.add (l * size))
def kM (s:fU) (size:Nat) (l h:Int) (K:fU->Prop):Prop:=
 0<=l/\l<=h/\h<=(s.cap:Int)/\K ⟨qU s.a s.cap l.toNat size,h.toNat - l.toNat,s.cap - l.toNat⟩
def Tf (s:fU) (size:Nat) (l h m:Int) (K:fU->Prop):Prop:=
 0<=l/\l<=h/\h<=m/\m<=(s.cap:Int)/\K ⟨qU s.a m.toNat l.toNat size,h.toNat - l.toNat,m.toNat - l.toNat⟩
def aa2 (a:Addr) (n size:Nat) (l h:Int) (K:fU->Prop):Prop:=
 0<=l/\l<=h/\h<=(n:Int)/\K ⟨some (if n=l.toNat then a else a.add (l.toNat * size)),h.toNat - l.toNat,n - l.toNat⟩
def aa3 (s:ByteArray) (l h:Int) (K:ByteArray->Prop):Prop:=
 0<=l/\l<=h/\h<=(s.size:Int)/\K (s.extract l.toNat h.toNat)
def iE (s:fU) (size:Nat) (i:Int) (K:Addr->Prop):Prop:=
 ∃a,s.a=some a/\0<=i/\i<(s.len:Int)/\K (a.add (i.toNat * size))
def aeU (s:ByteArray) (i:Int) (K:Int->Prop):Prop:=
 ∃b:UInt8,0<=i/\s[i.toNat]? =some b/\K (b.toNat:Int)
def Cells (w:θ) (a:Addr) (vs:List Value):Prop:=∀j,j<vs.length->w.cell? (a.add j)=vs[j]?
def nZ (w:θ):fO->Nat->List Value->Prop
 |none,_,vs=>vs=[]
 |some a,n,vs=>vs.length=n/\Cells w a vs
def setCells (w:θ) (a:Addr):List Value->Nat->θ
 |[],_=>w
 |v::vs,i=>setCells (w.setCell (a.add i) v) a vs (i+1)
def Ti (w:θ) (a:Addr) (n:Nat):Prop:=∀j,j<n->(w.cell? (a.add j)).isSome=true/\w.frozen? (a.add j)=false
def NM (P:Program) (t:TypeId):Option Nat:=
 match P.info? t with
 |some i=>some i.bytes
 |none=>none
def Xl (e:TypeId) (size bytes:Nat) (z:List Value) (s:fU) (n:Nat) (vs:List Value) (w:θ) (K:fU->b_):Prop:=
 (s.len+n<=s.cap/\(∀a,s.a=some a->Ti w (a.add (s.len * size)) vs.length)/\(∀v∈vs,iI v=true)/\
  K ⟨s.a,s.len+n,s.cap⟩ (match s.a with|some a=>setCells w (a.add (s.len * size)) vs 0|none=>w))\/
 (s.cap<s.len+n/\(s.len+n) * bytes<=2^46/\s.len+n<=2^62/\∃old,nZ w s.a (s.len * size) old/\
  ∀c,s.len+n<=c->c<2^63->K ⟨some ⟨w.heap.size,0,none⟩,s.len+n,c⟩ (w.drew.alloc (.cells ⟨old++vs++gX z (c - (s.len+n))⟩ e)))
def mG (e:TypeId) (size bytes:Nat) (z:List Value) (s x:fU) (w:θ) (K:fU->b_):Prop:=
 ∃vs,nZ w x.a (x.len * size) vs/\Xl e size bytes z s x.len vs w K
def byteCells (s:ByteArray):List Value:=s.data.toList.map λb=> .int .u8 b.toNat
def aiJ (e:TypeId) (size bytes:Nat) (z:List Value) (s:fU) (x:ByteArray) (w:θ) (K:fU->b_):Prop:=
 Xl e size bytes z s x.size (byteCells x) w K
def Xk (e:TypeId) (size bytes:Nat) (z:List Value) (s:fU) (n:Int) (w:θ) (K:fU->b_):Prop:=
 0<=n/\n * bytes<=2^46/\n<=2^62/\Xl e size bytes z s n.toNat (gX z n.toNat) w K
def JE (z:List Value) (s:fU) (w:θ) (K:b_):Prop:=
 (∀a,s.a=some a->Ti w a (s.len * z.length))/\(∀v∈z,iI v=true)/\K (match s.a with|some a=>setCells w a (gX z s.len) 0|none=>w)
def AQ (size:Nat) (d s:fU) (w:θ) (K:Int->b_):Prop:=
 ∃vs,nZ w s.a (Nat.min s.len d.len * size) vs/\(∀a,d.a=some a->Ti w a vs.length)/\(∀v∈vs,iI v=true)/\
  K (Nat.min s.len d.len:Nat) (match d.a with|some a=>setCells w a vs 0|none=>w)
def Z9 (e:TypeId) (size bytes:Nat) (z:List Value) (n c:Int) (w:θ) (K:fU->b_):Prop:=
 0<=n/\n<=c/\c<=2^62/\(bytes:Int) * c<=2^48/\
  K ⟨some ⟨w.heap.size,0,none⟩,n.toNat,c.toNat⟩ (w.alloc (.cells ⟨gX z c.toNat⟩ e))
def partOf (d:TypeDesc) (size off:Nat) (cs:List Value) (φ:Value->Prop):Prop:=
 cond (IJ d) (φ (.agg ⟨(cs.drop off).take size⟩))
  (match cs[off]? with
   |some v=>φ v
   |none=>False)
def cellsOfV:Value->List Value
 | .agg cs=>cs.toList
 |v=>[v]
def splice (cs:List Value) (off:Nat) (vs:List Value):List Value:=cs.take off++(vs++cs.drop (off+vs.length))
def IC (place:Nat->Option (Nat×Nat)):List (Nat×Value)->List Value->Option (List Value)
 |[],cs=>some cs
 |(i,v)::r,cs=>match place i with
  |some (off,size)=>cond (Nat.beq (cellsOfV v).length size && Nat.ble (off+size) cs.length) (IC place r (splice cs off (cellsOfV v))) none
  |none=>none
def ϗ:List (Nat×Value)->List Value->Option (List Value)
 |[],cs=>some cs
 |(i,v)::r,cs=>cond (Nat.blt i cs.length) (ϗ r (cs.set i v)) none
def O5:List Value->Prop
 |[]=>True
 |v::r=>iI v=true/\O5 r
def ae0:Option Shape->Bool
 |some (.one .any)=>true
 |_=>false
def qK (P:Program) (t:TypeId):Option (List Value):=
 match P.info? t with
 |some i=>match i.zero with
  |some z=>some (cellsOfV z)
  |none=>none
 |none=>none
def placesOf (P:Program):List Field->Option (List (Nat×Nat))
 |[]=>some []
 |f::r=>match jF P f.type,placesOf P r with
  |some s,some l=>some ((f.offset,s)::l)
  |_,_=>none
def IB (P:Program) (fs:Array Field) (i:Nat):Option (Nat×Nat):=
 match fs.toList[i]? with
 |some f=>match jF P f.type with
  |some s=>some (f.offset,s)
  |none=>none
 |none=>none
def oI (P:Program) (f:FuncId):Bool:=
 match P.funcs[f]? with
 |some fn=>fn.body.isSome
 |none=>false
def aiL (P:Program) (f:FuncId) (args:List Value) (w:θ) (K:Value->b_):Prop:=
 ∃v w',(callFunc f ⟨args⟩).run P w= .ok (.value v) w'/\K v w'
def Hz (P:Program) (sh:List Shape) (f:FuncId) (args:List Value) (w:θ) (K:Value->b_):Prop:=
 Calls P f ⟨args⟩ w λe w'=>Iz sh λvs=>e= .returned (ZW vs)/\K (ZW vs) w'
def LZ (P:Program) (l:Nat) (args:List Value) (w:θ) (K:Bool->b_):Prop:=
 YieldAt Fence.wide 0 P l ⟨args⟩ w λe w'=>∃b:Bool,e= .returned (.bool b)/\K b w'
def jy (P:Program) (sh:List Shape) (v:Value) (args:List Value) (w:θ) (K:Value->b_):Prop:=
 match v with
 | .func (.func f) first cap=>cond (oI P f) (Hz P sh f (first.toList++(args++cap.toList)) w K) False
 | .func (.yield l) first _=>LZ P l (first.toList++args) w λb w'=>K (.bool b) w'
 |_=>False
def S_ (w:θ) (r:Option Nat) (φ:Int->Prop):Prop:=
 match r with
 |none=>φ 0
 |some b=>∃es clock,w.heap[b]? =some (.map es clock)/\φ (es.size:Int)
def PI (d:TypeDesc) (x:Value) (w:θ) (φ:Int->Prop):Prop:=
 match d,x with
 | .string,.string s=>φ (s.size:Int)
 | .array n _,_=>φ (n:Int)
 | .slice _,.slice _ n _=>φ (n:Int)
 | .map _ _,.map r=>S_ w r φ
 |_,_=>False
def Gg (mx:Bool):Int->List Value->IntKind->(Value->Prop)->Prop
 |x,[],k,φ=>φ (.int k x)
 |x,.int _ y::r,k,φ=>Gg mx (cond mx (if y>x then y else x) (if y<x then y else x)) r k φ
 |_,_::_,_,_=>False
def fU.v (s:fU):Value:= .slice s.a s.len s.cap
def afZ:Value->Bool
 | .int _ _=>true
 | .bool _=>true
 | .string _=>true
 |_=>false
def ZB:Value->Bool
 | .agg cs=>cs.toList.all afZ
 |v=>afZ v
def uj (P:Program) (kt:TypeId) (key:Value):List MapEntry->Nat->Option (Option (Nat×Value))
 |[],_=>some none
 |e::es,i=>match EZ P 16 kt key e.key with
  |some true=>some (some (i,e.val))
  |some false=>uj P kt key es (i+1)
  |none=>none
def nX (P:Program) (kt:TypeId) (key:Value):Bool:=ZB key && (EZ P 16 kt key key).isSome
def pY (P:Program) (kt:TypeId) (k:Kind) (r:Option Nat) (key zero:Value) (w:θ) (K:k.T->Prop):Prop:=
 nX P kt key=true/\((r=none/\k.dec zero K)\/∃b es clock,r=some b/\w.heap[b]? =some (.map es clock)/\∃res,uj P kt key es.toList 0=some res/\k.dec (match res with|some (_,v)=>v|none=>zero) K)
def E8 (P:Program) (kt:TypeId) (r:Option Nat) (key zero:Value) (w:θ) (K:Value->Bool->Prop):Prop:=
 nX P kt key=true/\((r=none/\K zero false)\/∃b es clock,r=some b/\w.heap[b]? =some (.map es clock)/\∃res,uj P kt key es.toList 0=some res/\
  match res with|some (_,v)=>K v true|none=>K zero false)
def oK (P:Program) (kt:TypeId) (r:Option Nat) (key val:Value) (w:θ) (K:b_):Prop:=
 nX P kt key=true/\∃b es clock,r=some b/\w.heap[b]? =some (.map es clock)/\∃res,uj P kt key es.toList 0=some res/\
  match res with
  |some (i,_)=>(∃e,es[i]? =some e/\e.key=key)/\K (w.putObj b (.map (es.modify i λe=>{e with key:=key,val:=val}) clock))
  |none=>K (w.putObj b (.map (es.push {key:=key,val:=val,born:=clock}) (clock+1)))
def E5 (P:Program) (kt:TypeId) (r:Option Nat) (key:Value) (w:θ) (K:b_):Prop:=
 nX P kt key=true/\((r=none/\K w)\/∃b es clock,r=some b/\w.heap[b]? =some (.map es clock)/\∃res,uj P kt key es.toList 0=some res/\
  match res with
  |some (i,_)=>K (w.putObj b (.map (es.eraseIdxIfInBounds i) clock))
  |none=>K (w.putObj b (.map es clock)))
def aeN (P:Program) (kt:TypeId) (r:Option Nat) (key zero:Value) (w:θ) (K:Value->Int->b_):Prop:=
 nX P kt key=true/\∃b es clock,r=some b/\w.heap[b]? =some (.map es clock)/\∃res,uj P kt key es.toList 0=some res/\
  match res with
  |some (i,v)=>∃e,es[i]? =some e/\e.key=key/\K v (e.born:Int) (w.putObj b (.map (es.modify i λe=>{e with key:=key}) clock))
  |none=>K zero (clock:Int) (w.putObj b (.map (es.push {key:=key,val:=zero,born:=clock}) (clock+1)))
def aiv (r:Option Nat) (stamp:Int) (val:Value) (w:θ) (K:b_):Prop:=
 ∃b es clock i,r=some b/\w.heap[b]? =some (.map es clock)/\es.findIdx? (λe=>(e.born:Int)==stamp)=some i/\K (w.putObj b (.map (es.modify i λe=>{e with val:=val}) clock))
def aiU (r:Option Nat) (w:θ) (K:Addr->b_):Prop:=
 (r=none/\K ⟨w.heap.size,0,none⟩ (w.alloc (.mapIter none 0 #[] 0)))\/
 ∃b es clock,r=some b/\w.heap[b]? =some (.map es clock)/\K ⟨w.heap.size,0,none⟩ (w.alloc (.mapIter (some b) clock #[] clock))
def aj6 (q:Nat) (w:θ) (Kend:b_) (Kstep:Value->Value->b_):Prop:=
 (∃s sn c,w.heap[q]? =some (.mapIter none s sn c)/\Kend w)\/
 ∃b since seen c0 es clock,w.heap[q]? =some (.mapIter (some b) since seen c0)/\w.heap[b]? =some (.map es clock)/\(∀x∈es.toList,x.born<since)/\since<=c0/\
  ((leftOf es seen).size=0->Kend w)/\
  ∀e∈(leftOf es seen).toList,∀w1,(w1=w\/w1=w.drew)->Kstep e.key e.val (w1.putObj q (.mapIter (some b) since (seen.push e.born) clock))
def aiK (q:Nat) (w:θ) (K:Value->Value->Prop):Prop:=
 ∃b since seen es clock e,w.heap[q]? =some (.mapIter (some b) since (Array.push seen e.born) clock)/\w.heap[b]? =some (.map es clock)/\e∈es.toList/\(es.toList.map (·.born)).Nodup/\K e.key e.val
def Es (P:Program) (t:TypeId):Option Value:=
 match P.info? t with
 |some i=>i.zero
 |none=>none
def qc (P:Program) (b:Builtin) (ts:List TypeId) (args:List Value) (w:θ) (K:Value->b_):Prop:=
 match b,ts,args with
 | .len,[t],[x]=>match P.underlying t with
  |some d=>PI d x w λn=>K (.int .i64 n) w
  |none=>False
 | .cap,[t],[.slice _ _ c]=>match P.underlying t with
  |some (.slice _)=>K (.int .i64 (c:Int)) w
  |_=>False
 | .max,_,.int k x::r=>Gg true x r k λv=>K v w
 | .min,_,.int k x::r=>Gg false x r k λv=>K v w
 | .append,[t,t'],[.slice a l c,x]=>match P.underlying t,P.underlying t' with
  |some (.slice e),some d=>match jF P e,NM P e,qK P e,d,x with
   |some size,some bytes,some z,.slice _,.slice b n m=>mG e size bytes z ⟨a,l,c⟩ ⟨b,n,m⟩ w λs w'=>K s.v w'
   |some size,some bytes,some z,.string,.string s=>aiJ e size bytes z ⟨a,l,c⟩ s w λs w'=>K s.v w'
   |some size,some bytes,some z,.int _,.int _ n=>cond (Nat.beq z.length size) (Xk e size bytes z ⟨a,l,c⟩ n w λs w'=>K s.v w') False
   |_,_,_,_,_=>False
  |_,_=>False
 | .copy,[t,_],[.slice a l c,.slice b n m]=>match P.underlying t with
  |some (.slice e)=>match jF P e with
   |some size=>AQ size ⟨a,l,c⟩ ⟨b,n,m⟩ w λn w'=>K (.int .i64 n) w'
   |none=>False
  |_=>False
 | .clear,[t],[.slice a n c]=>match P.underlying t with
  |some (.slice e)=>match jF P e,qK P e with
   |some size,some z=>cond (Nat.beq z.length size) (JE z ⟨a,n,c⟩ w λw'=>K (.tuple #[]) w') False
   |_,_=>False
  |_=>False
 | .delete,[t,_],[.map r,key]=>match P.underlying t with
  |some (.map kt _)=>E5 P kt r key w λw'=>K (.tuple #[]) w'
  |_=>False
 |_,_,_=>False
def zF (ρ:Operand->Value) (x:Option Operand) (dflt:Int) (φ:Int->Prop):Prop:=
 match x with
 |none=>φ dflt
 |some o=>match ρ o with
  | .int _ n=>φ n
  |_=>False
def Jy (P:Program) (t:TypeId) (x:Value) (ρ:Operand->Value) (lo hi mx:Option Operand) (φ:Value->Prop):Prop:=
 match P.underlying t,x with
 |some .string,.string s=>match mx with
  |none=>zF ρ lo 0 λl=>zF ρ hi (s.size:Int) λh=>aa3 s l h λs'=>φ (.string s')
  |some _=>False
 |some (.slice e),.slice a n c=>match jF P e with
  |some size=>match mx with
   |none=>zF ρ lo 0 λl=>zF ρ hi (n:Int) λh=>kM ⟨a,n,c⟩ size l h λs'=>φ s'.v
   |some m=>match hi with
    |some _=>zF ρ lo 0 λl=>zF ρ hi 0 λh=>zF ρ (some m) 0 λm'=>Tf ⟨a,n,c⟩ size l h m' λs'=>φ s'.v
    |none=>False
  |none=>False
 |some (.array n e),.pointer (some a)=>match jF P e with
  |some size=>match mx with
   |none=>zF ρ lo 0 λl=>zF ρ hi (n:Int) λh=>aa2 a n size l h λs'=>φ s'.v
   |some _=>False
  |none=>False
 |_,_=>False
def RV (P:Program) (s d:TypeId) (x:Value) (φ:Value->Prop):Prop:=
 match P.underlying s,P.underlying d,x with
 |some _,some (.int k),.int _ n=>φ (.int k (k.wrap n))
 |some _,some .string,.string b=>φ (.string b)
 |_,_,_=>False
def Hy (w:θ) (s:fU) (K:ByteArray->Prop):Prop:=
 ∃b:ByteArray,b.size=s.len/\nZ w s.a s.len (byteCells b)/\K b
def aeT (e:TypeId) (s:ByteArray) (w:θ) (K:fU->b_):Prop:=
 s.size<=2^62/\∀c,s.size<=c->c<2^63->K ⟨some ⟨w.heap.size,0,none⟩,s.size,c⟩ (w.drew.alloc (.cells ⟨byteCells s++gX [.int .u8 0] (c - s.size)⟩ e (c,c+1)))
def aiO (a:Addr) (w:θ) (K:b_):Prop:=∃T n,w.shape? a.block=some (T,n)/\K (w.freeze ⟨a.block,n,none⟩ 1)
def Y0 (P:Program) (t:TypeId) (name:String):Option FuncId:=
 match P.info? t with
 |some i=>match i.methods.find? (·.name==name) with
  |some m=>match m.path.toList,m.func with
   |[],some (f,false)=>some f
   |_,_=>none
  |none=>none
 |none=>none
def YO:TypeDesc->Bool
 | .pointer _=>true
 |_=>false
def aiM (P:Program) (sh:List Shape) (x:Value) (name:String) (args:List Value) (w:θ) (K:Value->b_):Prop:=
 match x with
 | .iface t v=>match P.underlying t,Y0 P t name with
  |some d,some f=>cond (!YO d && oI P f) (Hz P sh f (v::args) w K) False
  |_,_=>False
 |_=>False
def GN (P:Program) (op:BinOp) (t:TypeId) (x y:Value) (φ:Value->Prop):Prop:=
 match IK op,P.underlying t,x,y with
 |some s,some (.interface _),.nilIface,.nilIface=>φ (.bool s)
 |some s,some (.interface _),.iface _ _,.nilIface=>φ (.bool (!s))
 |_,_,_,_=>False
def AsP (z:Value) (t:TypeId) (x:Value) (ok:Bool) (K:Value->Prop):Prop:=
 match x with
 | .iface t' v=>cond (Nat.beq t' t) (K (cond ok (.tuple ⟨[v,.bool true]⟩) v)) (cond ok (K (.tuple ⟨[z,.bool false]⟩)) False)
 | .nilIface=>cond ok (K (.tuple ⟨[z,.bool false]⟩)) False
 |_=>False
def zC (P:Program) (o:Oper) (ρ:Operand->Value) (w:θ) (K:Value->b_):Prop:=
 match o.op with
 | .move x=>K (ρ x) w
 | .assign x=>K (ρ x) w
 | .pick c a b=>match ρ c with
  | .bool t=>cond t (K (ρ a) w) (K (ρ b) w)
  |_=>False
 | .alloc e=>match qK P e with
  |some z=>K (af9 w) (w.alloc (.cells ⟨z⟩ e))
  |none=>False
 | .box e x=>match shapeOf P e with
  |some (.one _)=>iI (ρ x)=true/\K (af9 w) (w.alloc (.cells ⟨[ρ x]⟩ e))
  |some (.agg _)=>match ρ x with
   | .agg cs=>K (af9 w) (w.alloc (.cells cs e))
   |_=>False
  |none=>False
 | .build t ps=>match qK P t,P.underlying t with
  |some z,some (.struct fs)=>match placesOf P fs.toList with
   |some pl=>match IC (λi=>pl[i]?) (ps.toList.map λp=>(p.1,ρ p.2)) z with
    |some cs=>K (.agg ⟨cs⟩) w
    |none=>False
   |none=>False
  |some z,some (.array _ e)=>match jF P e with
   |some size=>match IC (λi=>some (i * size,size)) (ps.toList.map λp=>(p.1,ρ p.2)) z with
    |some cs=>K (.agg ⟨cs⟩) w
    |none=>False
   |none=>False
  |_,_=>False
 | .buildSlice t n ps=>match P.underlying t with
  |some (.slice e)=>match jF P e,qK P e with
   |some size,some z=>cond (Nat.ble (n * size) 4096 && Nat.beq z.length size)
    (cond (ae0 (shapeOf P e)) (cond (Nat.beq size 1) (O5 (ps.toList.map λp=>ρ p.2)/\(match ϗ (ps.toList.map λp=>(p.1,ρ p.2)) (gX z n) with
     |some cs=>K (.slice (some ⟨w.heap.size,0,none⟩) n n) (w.alloc (.cells ⟨cs⟩ e))
     |none=>False)) False)
     (match IC (λi=>some (i * size,size)) (ps.toList.map λp=>(p.1,ρ p.2)) (gX z n) with
     |some cs=>K (.slice (some ⟨w.heap.size,0,none⟩) n n) (w.alloc (.cells ⟨cs⟩ e))
     |none=>False)) False
   |_,_=>False
  |_=>False
 | .load t x=>match ρ x,shapeOf P t,jF P t with
  | .pointer (some a),some sh,some n=>cond (Nat.beq sh.cells n) (sh.ld w a λv=>K v w) False
  |_,_,_=>False
 | .store t x y=>match ρ x,shapeOf P t,jF P t with
  | .pointer (some a),some (.one _),some n=>cond (Nat.beq n 1) (St w a (ρ y) λw'=>K undef w') False
  | .pointer (some a),some (.agg _),some n=>match ρ y with
   | .agg cs=>cond (Nat.beq cs.toList.length n) (h_ cs.toList w a 0 λw'=>K undef w') False
   |_=>False
  |_,_,_=>False
 | .nilCheck x=>match ρ x with
  | .pointer q=>∃a,q=some a/\K (.pointer (some a)) w
  |_=>False
 | .binOp op t x y _=>match y with
  | .const .nilIface=>GN P op t (ρ x) (ρ (.const .nilIface)) λv=>K v w
  |y=>H6 P op t (ρ x) (ρ y) λv=>K v w
 | .unOp op _ x=>OZ op (ρ x) λv=>K v w
 | .convert s d x=>match P.underlying s,P.underlying d,ρ x with
  |some (.slice e),some .string,.slice a n c=>match P.underlying e with
   |some (.int .u8)=>Hy w ⟨a,n,c⟩ λb=>K (.string b) w
   |_=>False
  |some .string,some (.slice e),.string b=>match P.underlying e with
   |some (.int .u8)=>aeT e b w λs' w'=>K s'.v w'
   |_=>False
  |some (.slice _),some (.slice e),.slice (some a) n c=>match P.underlying e,Nat.beq s d with
   |some (.int .u8),true=>aiO a w λw'=>K (.slice (some a) n c) w'
   |_,_=>False
  |_,_,v=>RV P s d v λv=>K v w
 | .makeFunc fn first cap=>K (.func fn ⟨first.toList.map ρ⟩ ⟨cap.toList.map ρ⟩) w
 | .lookup t x i false=>match P.underlying t,ρ x with
  |some (.map kt et),.map r=>match shapeOf P et,Es P et with
   |some (.one k),some z=>pY P kt k r (ρ i) z w λx=>K (k.enc x) w
   |some (.agg ks),some z=>E8 P kt r (ρ i) z w λv _=>(Shape.agg ks).ex λv'=>v=v'/\K v' w
   |_,_=>False
  |_,_=>False
 | .lookup t x i true=>match P.underlying t,ρ x with
  |some (.map kt et),.map r=>match shapeOf P et,Es P et with
   |some sh,some z=>E8 P kt r (ρ i) z w λv b=>sh.ex λv'=>v=v'/\K (.tuple ⟨[v',.bool b]⟩) w
   |_,_=>False
  |_,_=>False
 | .mapUpdate t x i v=>match P.underlying t,ρ x with
  |some (.map kt _),.map r=>oK P kt r (ρ i) (ρ v) w λw'=>K undef w'
  |_,_=>False
 | .insert t x i v=>match P.underlying t,ρ x with
  |some (.map kt _),.map r=>oK P kt r (ρ i) (ρ v) w λw'=>K undef w'
  |_,_=>False
 | .mapEntry t x i=>match P.underlying t,ρ x with
  |some (.map kt et),.map r=>match Es P et with
   |some z=>aeN P kt r (ρ i) z w λv n w'=>K (.tuple ⟨[v,.int .i64 n]⟩) w'
   |none=>False
  |_,_=>False
 | .entryStore _ x st v=>match ρ x,ρ st with
  | .map r,.int _ n=>aiv r n (ρ v) w λw'=>K undef w'
  |_,_=>False
 | .makeMap _ none=>K (.map (some w.heap.size)) (w.alloc (.map #[] 0))
 | .makeSlice t l c=>match P.underlying t,ρ l,ρ c with
  |some (.slice e),.int _ n,.int _ m=>match jF P e,NM P e,qK P e with
   |some size,some bytes,some z=>cond (Nat.beq z.length size) (Z9 e size bytes z n m w λs w'=>K s.v w') False
   |_,_,_=>False
  |_,_,_=>False
 | .slice t x lo hi mx=>Jy P t (ρ x) ρ lo hi mx λv=>K v w
 | .fieldAddr t x f=>match P.underlying t,ρ x with
  |some (.struct fs),.pointer (some a)=>match IB P fs f with
   |some (off,size)=>cond (Nat.beq size 0) False (K (.pointer (some (a.add off))) w)
   |none=>False
  |_,_=>False
 | .field t x f=>match P.underlying t,ρ x with
  |some (.struct fs),.agg cs=>match fs.toList[f]? with
   |some fd=>match P.underlying fd.type,jF P fd.type with
    |some d,some size=>partOf d size fd.offset cs.toList λv=>K v w
    |_,_=>False
   |none=>False
  |_,_=>False
 | .indexAddr t x i=>match P.underlying t,ρ x,ρ i with
  |some (.slice e),.slice a n c,.int _ i=>match jF P e with
   |some size=>iE ⟨a,n,c⟩ size i λa'=>K (.pointer (some a')) w
   |none=>False
  |some (.array n e),.pointer (some a),.int _ i=>match jF P e with
   |some size=>0<=i/\i<(n:Int)/\K (.pointer (some (a.add (i.toNat * size)))) w
   |none=>False
  |_,_,_=>False
 | .index t x i=>match P.underlying t,ρ x,ρ i with
  |some .string,.string s,.int _ i=>aeU s i λn=>K (.int .u8 n) w
  |some (.array n e),.agg cs,.int _ i=>match P.underlying e,jF P e with
   |some d,some size=>0<=i/\i<(n:Int)/\partOf d size (i.toNat * size) cs.toList λv=>K v w
   |_,_=>False
  |_,_,_=>False
 | .extract t i=>match ρ t with
  | .tuple vs=>match vs.toList[i]? with
   |some v=>match shapeOf P o.type with
    |some (.one k)=>k.dec v λx=>K (k.enc x) w
    |_=>K v w
   |none=>False
  |_=>False
 | .range t x=>match P.underlying t,ρ x with
  |some (.map _ _),.map r=>aiU r w λa w'=>K (.pointer (some a)) w'
  |_,_=>False
 | .next x false=>match ρ x with
  | .pointer (some a)=>a=⟨a.block,0,none⟩/\aj6 a.block w (K (.tuple ⟨[.bool false]⟩)) λk v w'=>K (.tuple ⟨[.bool true,k,v]⟩) w'
  |_=>False
 | .entry x=>match ρ x with
  | .pointer (some a)=>a=⟨a.block,0,none⟩/\aiK a.block w λk v=>K (.tuple ⟨[k,v]⟩) w
  |_=>False
 | .makeInterface t x=>match P.underlying t with
  |some (.interface _)=>False
  |some _=>K (.iface t (ρ x)) w
  |none=>False
 | .typeAssert x _ t ok=>match P.underlying t,Es P t with
  |some (.interface _),_=>False
  |some _,some z=>AsP z t (ρ x) ok λv=>K v w
  |_,_=>False
 | .call c=>match c.callee with
  | .value (.func f)=>match Qm P o.type with
   |some sh=>cond (oI P f) (Hz P sh f (c.args.toList.map ρ) w K) (aiL P f (c.args.toList.map ρ) w λr w'=>Iz sh λvs=>r=ZW vs/\K (ZW vs) w')
   |none=>False
  | .value x=>match Qm P o.type with
   |some sh=>jy P sh (ρ x) (c.args.toList.map ρ) w λr w'=>Iz sh λvs=>r=ZW vs/\K (ZW vs) w'
   |none=>False
  | .builtin b=>qc P b c.argTypes.toList (c.args.toList.map ρ) w K
  | .invoke x name=>match Qm P o.type with
   |some sh=>aiM P sh (ρ x) name (c.args.toList.map ρ) w K
   |none=>False
 |_=>False
abbrev Env:=List (Nat×Value)
def Env.get:Env->Nat->Option Value
 |[],_=>none
 |(s,v)::r,t=>cond (Nat.beq s t) (some v) (Env.get r t)
def Env.put (env:Env) (d:Option Nat) (v:Value):Env:=
 match d with
 |some s=>(s,v)::env
 |none=>env
def evO (env:Env):Operand->Option Value
 | .tmp t=>env.get t
 | .const v=>some v
 | .global g=>some (.pointer (some ⟨g,0,none⟩))
 | .func f=>some (.func (.func f) #[] #[])
def ev (env:Env) (x:Operand):Value:=(evO env x).getD undef
def adD (env:Env):List Operand->Bool
 |[]=>true
 |x::r=>(evO env x).isSome && adD env r
def uh (nt:Nat):Option Nat->Bool
 |some d=>Nat.blt d nt
 |none=>true
def split (g:Bool) (v:Value) (K:Value->Prop):Prop:=
 cond g (match v with| .bool b=>cond b (K (.bool true)) (K (.bool false))|v=>K v) (K v)
def yO (P:Program) (nt:Nat) (o:Oper) (g:Bool) (env:Env) (w:θ) (K:Env->b_):Prop:=
 cond (adD env o.op.operands.toList && uh nt o.dst)
  (zC P o (ev env) w λv w'=>split g v λv'=>K (env.put o.dst v') w') False
def t_ (P:Program) (nt:Nat) (ops:List Oper) (o:Oper) (g:Bool) (env:Env) (w:θ) (K:Env->b_):Prop:=
 match o.guard with
 |none=>yO P nt o g env w K
 |some (j,want)=>match (ops[j]?).bind (·.dst) with
  |some s=>match env.get s with
   |some (.bool t)=>cond (t==want) (yO P nt o g env w K) (cond (uh nt o.dst) (K (env.put o.dst undef) w) False)
   |some (.tuple _)=>cond (uh nt o.dst) (K (env.put o.dst undef) w) False
   |_=>False
  |none=>False
def YN (ops:List Oper) (i:Nat):Bool:=
 ops.any λo=>match o.guard with
  |some (j,_)=>Nat.beq j i
  |none=>false
def abZ (P:Program) (nt:Nat) (ops:List Oper):Nat->List Oper->Env->θ->(Env->b_)->Prop
 |_,[],env,w,K=>K env w
 |i,o::r,env,w,K=>t_ P nt ops o (YN ops i) env w λenv' w'=>abZ P nt ops (i+1) r env' w' K
end Gp
end
section
namespace Gp
open Go
def Ran (P:Program) (K:Value->b_):Result Next->Prop
 | .ok (.value v) w=>K v w
 | .ok .skip w=>K undef w
 | .ok (.enter f args) w=>Calls P f args w λe w'=>∃v,e= .returned v/\K v w'
 | .ok (.round l f tmps assign body) w=>RoundIn Fence.wide 0 P l f tmps assign body w λe w'=>∃v,e= .returned v/\K v w'
 |_=>False
theorem Ran.mono {P:Program} {K K':Value->b_} (h:∀v w,K v w->K' v w) {r:Result Next} (hr:Ran P K r):Ran P K' r:=by
 cases r with
 |ok x w=>
  cases x<;>simp only[Ran] at hr ⊢<;>first
   |exact h _ _ hr
   |exact Calls.mono hr λe w' ⟨v,hv,hk⟩=>⟨v,hv,h _ _ hk⟩
   |exact RoundIn.mono hr λe w' ⟨v,hv,hk⟩=>⟨v,hv,h _ _ hk⟩
 |halt x w=>exact hr.elim
structure Xo (P:Program):Prop where
 enter:∀(f:FuncId) (fn:Func),P.funcs[f]? =some fn->fn.body.isSome=true->(fn.name=="runtime.NumGoroutine")=false
 mixed:P.follows .mixedOrders=true
section
variable {P:Program} {w:θ}
theorem run_underlying {t:TypeId} {d:TypeDesc} (h:P.underlying t=some d):(underlying t).run P w= .ok d w:=by
 simp[underlying,h]
theorem run_typeInfo {t:TypeId} {i:TypeInfo} (h:P.info? t=some i):(typeInfo t).run P w= .ok i w:=by
 simp[typeInfo,h]
theorem jH {t:TypeId} {n:Nat} (h:jF P t=some n):(Go.sizeOf t).run P w= .ok n w:=by
 unfold jF at h;split at h
 ·rename_i i hi;simp only[agP] at h;simp[Go.sizeOf,run_typeInfo hi,h]
 ·cases h
theorem tZ {t:TypeId} {n:Nat} (h:jF P t=some n):∃i,P.info? t=some i/\i.size=n:=by
 unfold jF at h;split at h
 ·rename_i i hi;exact⟨i,hi,by simpa using h⟩
 ·cases h
theorem yx {t:TypeId} {n:Nat} (h:NM P t=some n):∃i,P.info? t=some i/\i.bytes=n:=by
 unfold NM at h;split at h
 ·rename_i i hi;exact⟨i,hi,by simpa using h⟩
 ·cases h
theorem Qv (v:Value):cellsOfV v=v.cells.toList:=by cases v<;>rfl
theorem oq {t:TypeId} {z:List Value} (h:qK P t=some z):∃i v,P.info? t=some i/\i.zero=some v/\v.cells.toList=z:=by
 unfold qK at h;split at h
 ·rename_i i hi;split at h
  ·rename_i v hv;exact⟨i,v,hi,hv,by rw[<- Qv];simpa using h⟩
  ·cases h
 ·cases h
theorem xg {t:TypeId} {z:List Value} (h:qK P t=some z):∃v,(zeroValue t).run P w= .ok v w/\v.cells=⟨z⟩:=by
 obtain⟨i,v,hi,hv,hz⟩:=oq h;exact⟨v,by simp[zeroValue,run_typeInfo hi,hv],by rw[<- hz]⟩
theorem JV {t:TypeId} {d:TypeDesc} (h:P.underlying t=some d):(isAgg t).run P w= .ok (IJ d) w:=by
 simp only[isAgg,Sem.run_bind,run_underlying h,Result.andThen_ok]
 cases d<;>rfl
theorem adU (v:Value):iI v=v.oneCell':=by cases v<;>rfl
theorem QD {v:Value} (h:iI v=true):v.cells= #[v]:=by cases v<;>first|rfl|(simp[iI] at h)
theorem add_zero' (a:Addr):a.add 0=a:=by simp[Addr.add]
theorem add_add (a:Addr) (i j:Nat) (h:i=0->a.spot=none\/j=0\/True):(a.add i).add j=a.add (i+j):=by
 unfold Addr.add;by_cases hi:i=0
 ·simp[hi]
 ·by_cases hj:j=0
  ·simp[hi,hj]
  ·simp[hi,hj,alD]
theorem adl {a:Addr}:∀(ks:List Kind) (i:Nat) (φ:List Value->Prop),LdN ks w a i φ->
  ∃vs,vs.length=ks.length/\(∀j v,vs[j]? =some v->w.cell? (a.add (i+j))=some v)/\φ vs:=by
 intro ks
 induction ks with
 |nil=>exact λi φ h=>⟨[],rfl,by simp,h⟩
 |cons k ks ih=>
  rintro i φ ⟨x,hx,h⟩;obtain⟨vs,hl,hc,hφ⟩:=ih (i+1) _ h;refine⟨k.enc x::vs,by simp[hl],λj v hj=> ?_,hφ⟩
  cases j with
  |zero=>simp at hj;subst hj;simpa using hx
  |succ j=>rw[show i+(j+1)=i+1+j by omega];exact hc j v (by simpa using hj)
theorem QK {t:TypeId} {sh:Shape} {n:Nat} {a:Addr} {φ:Value->Prop} (hs:shapeOf P t=some sh) (hn:jF P t=some n) (hc:sh.cells=n)
  (h:sh.ld w a φ):∃v,(loadVar t a).run P w= .ok v w/\φ v:=by
 unfold shapeOf at hs
 cases hd:P.underlying t with
 |none=>simp[hd] at hs
 |some d=>
  simp only[hd] at hs
  cases hg:IJ d with
  |false=>
   simp only[hg,aaT] at hs
   cases hk:kindOf d with
   |none=>simp[hk] at hs
   |some k=>
    simp only[hk,agP] at hs;subst hs;obtain⟨x,hx,h⟩:=h;exact⟨k.enc x,by simp[loadVar,JV hd,hg,hx],h⟩
  |true=>
   simp only[hg,aaU] at hs
   cases hk:JK P 20 t with
   |none=>simp[hk] at hs
   |some ks=>
    simp only[hk,agP] at hs;subst hs;obtain⟨vs,hl,u,hφ⟩:=adl ks 0 _ h;refine⟨.agg ⟨vs⟩,?_,hφ⟩;have hlen:vs.length=n:=by rw[hl];exact hc
    have:=run_loadCells_list (P:=P) (w:=w) a vs (λj v hj=>by simpa using u j v hj);simp only[loadVar,Sem.run_bind,JV hd,hg,Result.andThen_ok,aiS,jH hn];rw[<- hlen,this];rfl
theorem aa1 {a:Addr} {v:Value} {K:b_} (h:St w a v K):(store a v).run P w= .ok () (w.setCell a v)/\K (w.setCell a v):=by
 obtain⟨h1,h2,h3,h4⟩:=h;refine⟨?_,h4⟩;rw[run_store P w a v .plain (by rw[<- adU];exact h1)]
 cases hc:w.cell? a with
 |none=>simp[hc] at h2
 |some u=>simp[h3]
theorem agS {a:Addr} {K:b_}:∀(vs:List Value) (w:θ) (i:Nat),h_ vs w a i K->∃w',(storeCells a vs i).run P w= .ok () w'/\K w':=by
 intro vs
 induction vs with
 |nil=>exact λw i h=>⟨w,rfl,h⟩
 |cons v vs ih=>
  intro w i h;obtain⟨h1,h2⟩:=aa1 (P:=P) h;obtain⟨w',h3,h4⟩:=ih _ _ h2;exact⟨w',by simp[storeCells,h1,h3],h4⟩
end
end Gp
end
section
namespace Gp
open Go
theorem Yi {α β:Type} (f:α->β) (xs:Array α):xs.map f=⟨xs.toList.map f⟩:=ame.mp (by simp)
theorem GX (z:List Value) (n:Nat):(gX z n).length=n * z.length:=by
 induction n with
 |zero=>simp[gX]
 |succ n ih=>simp[gX,ih,ale];omega
theorem OW {z:List Value} {v:Value}:∀{n:Nat},v∈gX z n->∃k:Nat,k<n/\v∈z
 |0,h=>by simp[gX] at h
 |n+1,h=>by
  rcases akX.1 (show v∈z++gX z n from h) with h|h
  ·exact⟨0,by omega,h⟩
  ·obtain⟨k,hk,hv⟩:=OW h;exact⟨k,by omega,hv⟩
theorem aeF {n:Int} (h1: -9223372036854775808<=n) (h2:n<=9223372036854775807):IntKind.i64.wrap n=n:=by
 rw[IntKind.wrap_i64];omega
theorem aap (z:Array Value):∀n,(List.range (n * z.size)).map (λi=>z[i % z.size]!)=gX z.toList n:=by
 intro n
 induction n with
 |zero=>simp[gX]
 |succ n ih=>
  have e:(n+1) * z.size=z.size+n * z.size:=by rw[ale];omega
  rw[e,List.range_add,alz,gX,map_map];congr 1
  ·apply List.ext_getElem
   ·simp
   ·intro i h1 h2;simp at h1;simp[Nat.mod_eq_of_lt h1,h1]
  ·rw[<- ih];apply List.map_congr_left;intro i _;simp
theorem oJ (z:Array Value) (n:Nat):Builtin.zeroCells z n=⟨gX z.toList n⟩:=by
 apply ame.mp;simp only[Builtin.zeroCells,Array.toList_map,Array.toList_range];exact aap z n
theorem YW (z:Array Value) (n:Nat):madeCells z (n * z.size)=⟨gX z.toList n⟩:=oJ z n
section
variable {P:Program}
theorem Uj {w:θ} {a b:Addr} {v:Value} (h:(w.cell? b).isSome=true):((w.setCell a v).cell? b).isSome=true:=by
 by_cases e:a=b
 ·subst e
  cases hc:w.cell? a with
  |none=>simp[hc] at h
  |some u=>rw[World.cell?_setCell_same w a v hc];rfl
 ·rw[World.cell?_setCell_other w a b v e];exact h
theorem wY (a:Addr):∀(vs:List Value) (i:Nat) (w:θ),(∀v∈vs,iI v=true)->
  (∀j,j<vs.length->(w.cell? (a.add (i+j))).isSome=true/\w.frozen? (a.add (i+j))=false)->(storeCells a vs i).run P w= .ok () (setCells w a vs i):=by
 intro vs
 induction vs with
 |nil=>exact λi w _ _=>rfl
 |cons v vs ih=>
  intro i w h1 h2;have h0:=h2 0 (by simp);obtain⟨hr,_⟩:=aa1 (P:=P) (w:=w) (a:=a.add i) (v:=v) (K:=λ_=>True) ⟨h1 v (by simp),by simpa using h0.1,by simpa using h0.2,trivial⟩;have:=ih (i+1) (w.setCell (a.add i) v) (λu hu=>h1 u (by simp[hu])) (λj hj=>by
   have:=h2 (j+1) (by simp;omega);rw[show i+(j+1)=i+1+j by omega] at this;exact⟨Uj this.1,by rw[World.frozen?_setCell];exact this.2⟩)
  simp[storeCells,hr,this,setCells]
theorem tK {w:θ} {a:fO} {size n l c:Nat} {vs:List Value} (h:nZ w a (n * size) vs):
  (Builtin.firstCells size n (.slice a l c)).run P w= .ok ⟨vs⟩ w:=by
 cases a with
 |none=>simp only[nZ] at h;subst h;simp[run_firstCells_none]
 |some a=>
  obtain⟨hl,hc⟩:=h;refine run_firstCells_some (P:=P) w size n a l c vs hl λj v hj=> ?_;have u:=(aeK.1 hj).1;rw[hc j u,hj]
theorem Dk {w:θ} {a:fO} {n:Nat} {vs:List Value} (h:nZ w a n vs):nZ w.drew a n vs:=by
 cases a<;>exact h
theorem Xu {t t' ty e:TypeId} {i:TypeInfo} {z:Value} (ht:P.underlying t=some (.slice e)) (hi:P.info? e=some i) (hz:i.zero=some z)
  {d:TypeDesc} (ht':P.underlying t'=some d) (hd:(∃e',d= .slice e')\/d= .string) {x:Value} {n:Nat} {vs:List Value} {w:θ} {s:fU} {K:fU->b_}
  (hlen:∀w,(Builtin.lenOf x).run P w= .ok n w) (hx:(Builtin.firstCells i.size n x).run P w= .ok ⟨vs⟩ w) (hx':(Builtin.firstCells i.size n x).run P w.drew= .ok ⟨vs⟩ w.drew)
  (h:Xl e i.size i.bytes z.cells.toList s n vs w K):
  ∃s' w',(Builtin.append_ #[t,t'] ty #[s.v,x]).run P w= .ok s'.v w'/\K s' w':=by
 rcases h with ⟨u,N,I,hK⟩|⟨hg,h46,h62,old,J,hK⟩
 ·refine⟨_,_,?_,hK⟩
  cases hs:s.a with
  |none=>rcases hd with ⟨e',rfl⟩|rfl<;>(simp[Builtin.append_,fU.v,run_underlying ht,run_underlying ht',Go.sizeOf,run_typeInfo hi,hlen,u,hs,hx])
  |some a=>
   have O:=wY (P:=P) (a.add (s.len * i.size)) vs 0 w I (by intro j hj;simpa using N a hs j hj);rcases hd with ⟨e',rfl⟩|rfl<;>(simp[Builtin.append_,fU.v,run_underlying ht,run_underlying ht',Go.sizeOf,run_typeInfo hi,hlen,u,hs,hx,O])
 ·have h1:¬(s.len+n<=s.cap):=by omega
  have h2:¬(9223372036854775807<((s.len:Int)+(n:Int))):=by omega
  have h3:=growslice_fits (bytes:=i.bytes) hg (by omega);have h3':¬(281474976710656<Builtin.nextslicecap (s.len+n) s.cap * i.bytes):=by omega
  have R:=tK (P:=P) (l:=s.len) (c:=s.cap) (Dk J);refine⟨_,_,?_,hK (grownCap w (s.len+n) s.cap e) (grownCap_ge _ _ _ _) ?_⟩
  ·rcases hd with ⟨e',rfl⟩|rfl<;>(simp[Builtin.append_,fU.v,run_underlying ht,run_underlying ht',Go.sizeOf,run_typeInfo hi,zeroValue,hz,hlen,h1,h2,h3',Question.forced,hx',R,newRow,grownCap,oJ])
  ·simp only[grownCap,Question.cut];have:=aln (w.tape w.drawn (.appendCap (s.len+n) s.cap e)) (show 0<2^63 - (s.len+n) by omega);omega
theorem Λ {t t' ty e:TypeId} {i:TypeInfo} {z:Value} {ki kv:IntKind} (ht:P.underlying t=some (.slice e)) (hi:P.info? e=some i) (hz:i.zero=some z) (U:z.cells.toList.length=i.size)
  (ht':P.underlying t'=some (.int ki)) {n:Int} {w:θ} {s:fU} {K:fU->b_}
  (h:Xk e i.size i.bytes z.cells.toList s n w K):
  ∃s' w',(Builtin.append_ #[t,t'] ty #[s.v,.int kv n]).run P w= .ok s'.v w'/\K s' w':=by
 obtain⟨h0,hb,hn,h⟩:=h;obtain⟨m,rfl⟩:∃m:Nat,n=(m:Int):=⟨n.toNat,by omega⟩;rw[ab3] at h;have hw:IntKind.i64.wrap (m:Int)=(m:Int):=aeF (by omega) (by omega);have u:¬((m:Int)<0):=by omega
 have hb':¬(281474976710656<(m:Int) * (i.bytes:Int)):=by omega
 by_cases hz0:m * i.size=0
 ·have he:gX z.cells.toList m=[]:=by
   have:=GX z.cells.toList m;rw[U,hz0] at this;exact List.length_eq_zero_iff.1 this
  rw[he] at h;rcases h with ⟨I,R,N,hK⟩|⟨hg,W,Y,old,J,hK⟩
  ·refine⟨_,_,?_,hK⟩
   cases hs:s.a with
   |none=>simp[Builtin.append_,fU.v,run_underlying ht,run_underlying ht',Go.sizeOf,run_typeInfo hi,asInt,asIntOf,hw,u,hb',I,hs,hz0]
   |some a=>simp[Builtin.append_,fU.v,run_underlying ht,run_underlying ht',Go.sizeOf,run_typeInfo hi,asInt,asIntOf,hw,u,hb',I,hs,hz0,setCells,storeCells]
  ·have h1:¬(s.len+m<=s.cap):=by omega
   have h2:¬(9223372036854775807<((s.len:Int)+(m:Int))):=by omega
   have h3:=growslice_fits (bytes:=i.bytes) hg (by omega);have h3':¬(281474976710656<Builtin.nextslicecap (s.len+m) s.cap * i.bytes):=by omega
   have O:=tK (P:=P) (l:=s.len) (c:=s.cap) (Dk J);refine⟨_,_,?_,hK (grownCap w (s.len+m) s.cap e) (grownCap_ge _ _ _ _) ?_⟩
   ·simp[Builtin.append_,fU.v,run_underlying ht,run_underlying ht',Go.sizeOf,run_typeInfo hi,asInt,asIntOf,hw,u,hb',zeroValue,hz,h1,h2,h3',Question.forced,hz0,O,newRow,grownCap,oJ]
   ·simp only[grownCap,Question.cut];have:=aln (w.tape w.drawn (.appendCap (s.len+m) s.cap e)) (show 0<2^63 - (s.len+m) by omega);omega
 rcases h with ⟨I,R,N,hK⟩|⟨hg,W,Y,old,J,hK⟩
 ·refine⟨_,_,?_,hK⟩
  cases hs:s.a with
  |none=>simp[Builtin.append_,fU.v,run_underlying ht,run_underlying ht',Go.sizeOf,run_typeInfo hi,asInt,asIntOf,hw,u,hb',I,hs,hz0,zeroValue,hz,oJ]
  |some a=>
   have Z:=wY (P:=P) (a.add (s.len * i.size)) (gX z.cells.toList m) 0 w N (by intro j hj;simpa using R a hs j hj);simp[Builtin.append_,fU.v,run_underlying ht,run_underlying ht',Go.sizeOf,run_typeInfo hi,asInt,asIntOf,hw,u,hb',I,hs,hz0,zeroValue,hz,oJ,Z]
 ·have h1:¬(s.len+m<=s.cap):=by omega
  have h2:¬(9223372036854775807<((s.len:Int)+(m:Int))):=by omega
  have h3:=growslice_fits (bytes:=i.bytes) hg (by omega);have h3':¬(281474976710656<Builtin.nextslicecap (s.len+m) s.cap * i.bytes):=by omega
  have O:=tK (P:=P) (l:=s.len) (c:=s.cap) (Dk J);refine⟨_,_,?_,hK (grownCap w (s.len+m) s.cap e) (grownCap_ge _ _ _ _) ?_⟩
  ·simp[Builtin.append_,fU.v,run_underlying ht,run_underlying ht',Go.sizeOf,run_typeInfo hi,asInt,asIntOf,hw,u,hb',zeroValue,hz,h1,h2,h3',Question.forced,hz0,O,newRow,grownCap,oJ]
  ·simp only[grownCap,Question.cut];have:=aln (w.tape w.drawn (.appendCap (s.len+m) s.cap e)) (show 0<2^63 - (s.len+m) by omega);omega
theorem ϋ {t ty e:TypeId} {i:TypeInfo} {z:Value} (ht:P.underlying t=some (.slice e)) (hi:P.info? e=some i) (hz:i.zero=some z) (hsz:z.cells.toList.length=i.size)
  {w:θ} {s:fU} {K:b_} (h:JE z.cells.toList s w K):∃w',(Builtin.clear_ #[t] ty #[s.v]).run P w= .ok (.tuple #[]) w'/\K w':=by
 obtain⟨I,u,hK⟩:=h;refine⟨_,?_,hK⟩;obtain⟨a,n,c⟩:=s
 cases a with
 |none=>simp[Builtin.clear_,fU.v,run_underlying ht]
 |some a=>
  cases n with
  |zero=>simp[Builtin.clear_,fU.v,run_underlying ht,gX,setCells]
  |succ n=>
   have J:=wY (P:=P) a (gX z.cells.toList (n+1)) 0 w (λv hv=>by
    obtain⟨k,_,hv⟩:=OW hv;exact u v hv) (by intro j hj;rw[GX] at hj;simpa using I a rfl j hj)
   simp[Builtin.clear_,fU.v,run_underlying ht,zeroValue,run_typeInfo hi,hz,oJ,J]
theorem abj {t t' ty e:TypeId} {i:TypeInfo} (ht:P.underlying t=some (.slice e)) (hi:P.info? e=some i) {w:θ} {d s:fU} {K:Int->b_}
  (h:AQ i.size d s w K):∃n w',(Builtin.copy_ #[t,t'] ty #[d.v,s.v]).run P w= .ok (.int .i64 n) w'/\K n w':=by
 obtain⟨vs,I,J,u,hK⟩:=h;refine⟨_,_,?_,hK⟩;have hf:=tK (P:=P) (l:=s.len) (c:=s.cap) I
 cases hd:d.a with
 |none=>simp[Builtin.copy_,fU.v,run_underlying ht,Go.sizeOf,run_typeInfo hi,Builtin.lenOf,hd,hf,goInt]
 |some a=>
  have N:=wY (P:=P) a vs 0 w u (by intro j hj;simpa using J a hd j hj);simp[Builtin.copy_,fU.v,run_underlying ht,Go.sizeOf,run_typeInfo hi,Builtin.lenOf,hd,hf,N,goInt]
theorem abK {t e:TypeId} {i:TypeInfo} {z:Value} (ht:P.underlying t=some (.slice e)) (hi:P.info? e=some i) (hz:i.zero=some z) (u:z.cells.toList.length=i.size)
  {n c:Int} {kl kc:IntKind} {w:θ} {K:fU->b_} (h:Z9 e i.size i.bytes z.cells.toList n c w K):
  ∃s w',(Instr.makeSlice t (.int kl n) (.int kc c)).run P w= .ok s.v w'/\K s w':=by
 obtain⟨h0,h1,h2,h3,hK⟩:=h;refine⟨_,_,?_,hK⟩;have h2':c<=9223372036854775807:=Int.le_trans h2 (by decide);have h3':(i.bytes:Int) * c<=281474976710656:=Int.le_trans h3 (by decide);rw[run_make w t e i z ht hi hz kl kc n c h0 h1 h3' h2'];have e0:i.size=z.cells.size:=u.symm.trans amf;have e1:c.toNat * i.size=c.toNat * z.cells.size:=congrArg (c.toNat * ·) e0;rw[e1,YW];rfl
theorem Tv {w:θ} {s:fU} {K:ByteArray->Prop} (h:Hy w s K):∃b,(Conv.bytesToString s.v).run P w= .ok (.string b) w/\K b:=by
 obtain⟨b,hl,hc,hK⟩:=h;refine⟨b,?_,hK⟩
 cases hs:s.a with
 |none=>
  rw[hs] at hc;have:b= .empty:=by
   have h0:b.data.toList=[]:=by simpa [nZ,byteCells] using hc
   cases b with|mk d=>simp at h0;subst h0;rfl
  subst this;simp[Conv.bytesToString,fU.v,hs]
 |some a=>
  rw[hs] at hc;obtain⟨hn,I⟩:=hc;have u:∀j v,(byteCells b)[j]? =some v->w.cell? (a.add j)=some v:=λj v hj=>by
   have J:=(aeK.1 hj).1;rw[I j J,hj]
  have hl2:=run_loadCells_list (P:=P) (w:=w) a (byteCells b) u;rw[hn] at hl2;have e1:byteCells b=(b.data.toList.map λx=>(x.toNat:Int)).map (Value.int .u8):=by simp[byteCells]
  rw[e1] at hl2;have:=run_bytesToString (P:=P) w a s.len s.cap _ hl2;simp only[fU.v,hs,this];rw[foldl_push_bytes];congr 2
  cases b with|mk d=>
  have e2:∀l:List UInt8,l.map ((λn:Int=>UInt8.ofNat n.toNat) ∘ λx=>(x.toNat:Int))=l:=by
   intro l
   induction l with
   |nil=>rfl
   |cons x l ih=>simp only[ajU,ih];simp
  simp only[ByteArray.empty,ByteArray.emptyWithCapacity,map_map,e2];simp;rfl
end
end Gp
end
section
namespace Gp
open Go
theorem Vt (cs:List Value) (off:Nat) (vs:List Value) (h:off+vs.length<=cs.length) (i:Nat):
  (splice cs off vs)[i]? =if i<off then cs[i]? else if i<off+vs.length then vs[i - off]? else cs[i]? :=by
 unfold splice;have hl:(cs.take off).length=off:=by simp;omega
 by_cases h1:i<off
 ·rw[aeH h1,alk (by omega),List.getElem?_take_of_lt h1]
 ·rw[ada h1,akQ (by omega),hl];by_cases h2:i<off+vs.length
  ·rw[aeH h2,alk (by omega)]
  ·rw[ada h2,akQ (by omega),amg];congr 1;omega
theorem Ϟ (off:Nat):∀(vs:List Value) (k:Nat) (cs:Array Value),off+k+vs.length<=cs.size->
  ((vs.zipIdx k).foldl (λ(cs:Array Value) (p:Value×Nat)=>cs.setIfInBounds (off+p.2) p.1) cs)=⟨splice cs.toList (off+k) vs⟩:=by
 intro vs
 induction vs with
 |nil=>intro k cs _;simp[splice]
 |cons v vs ih=>
  intro k cs h;simp only[aiQ] at h;rw[List.zipIdx_cons,amh,ih (k+1) _ (by simp;omega)];congr 1;apply amA;intro i;rw[Vt _ _ _ (by simp;omega),Vt _ _ _ (by simp;omega)];simp only[Array.toList_setIfInBounds,akJ,aiQ];by_cases h1:i<off+k
  ·have h2:i<off+(k+1):=by omega
   have h3:¬(off+k=i):=by omega
   simp[h1,h2,h3]
  ·by_cases h2:i=off+k
   ·subst h2;have h3:off+k<off+(k+1):=by omega
    have h4:off+k<cs.size:=by omega
    simp[h3,h4]
   ·have h3:¬(i<off+(k+1)):=by omega
    have h4:¬(off+k=i):=by omega
    simp only[h1,h3,h4,ajY];by_cases h5:i<off+(k+1)+vs.length
    ·have h6:i<off+k+(vs.length+1):=by omega
     obtain⟨m,hm⟩:∃m,i - (off+k)=m+1:=⟨i - (off+k) - 1,by omega⟩;have h7:i - (off+(k+1))=m:=by omega
     simp[h5,h6,hm,h7]
    ·have h6:¬(i<off+k+(vs.length+1)):=by omega
     simp[h5,h6]
theorem NQ {v:Value} (h:iI v=true):cellsOfV v=[v]:=by cases v<;>first|rfl|(simp[iI] at h)
theorem Ϙ:∀(ps:List (Nat×Value)) (cs out:List Value),(∀p∈ps,iI p.2=true)->ϗ ps cs=some out->IC (λi=>some (i * 1,1)) ps cs=some out:=by
 intro ps
 induction ps with
 |nil=>exact λcs out _ h=>h
 |cons p ps ih=>
  obtain⟨i,v⟩:=p;intro cs out h1 h;simp only[ϗ] at h;have hv:iI v=true:=h1 (i,v) (by simp)
  cases hb:Nat.blt i cs.length with
  |false=>rw[hb] at h;cases h
  |true=>
   rw[hb] at h;have u:i<cs.length:=by simpa [al0] using hb
   have hs:splice cs (i * 1) [v]=cs.set i v:=by
    rw[amP,aeH u,aiG];rfl
   have hc:(Nat.beq (cellsOfV v).length 1 && Nat.ble (i * 1+1) cs.length)=true:=by
    rw[NQ hv,akN];exact⟨rfl,by rw[ble_eq];omega⟩
   simp only[IC,hc,aaU];rw[NQ hv,hs];exact ih _ _ (λp hp=>h1 p (by simp[hp])) h
theorem aa7:∀(vs:List Value),O5 vs->∀v∈vs,iI v=true:=by
 intro vs
 induction vs with
 |nil=>exact λ_ v hv=>by simp at hv
 |cons v vs ih=>
  rintro⟨h1,h2⟩ u hu;rcases agN.1 hu with rfl|hu
  ·exact h1
  ·exact ih h2 u hu
theorem akn {sh:Option Shape} {size:Nat} {ps:List (Nat×Operand)} {ρ:Operand->Value} {cs:List Value} {Φ:List Value->Prop}
  (h:cond (ae0 sh) (cond (Nat.beq size 1) (O5 (ps.map λp=>ρ p.2)/\(match ϗ (ps.map λp=>(p.1,ρ p.2)) cs with
     |some cs=>Φ cs
     |none=>False)) False)
     (match IC (λi=>some (i * size,size)) (ps.map λp=>(p.1,ρ p.2)) cs with
     |some cs=>Φ cs
     |none=>False)):∃out,IC (λi=>some (i * size,size)) (ps.map λp=>(p.1,ρ p.2)) cs=some out/\Φ out:=by
 cases ha:ae0 sh with
 |false=>
  rw[ha] at h;simp only[aaT] at h;split at h
  ·rename_i out hf;exact⟨out,hf,h⟩
  ·exact h.elim
 |true=>
  rw[ha] at h;simp only[aaU] at h
  cases hb:Nat.beq size 1 with
  |false=>rw[hb] at h;exact h.elim
  |true=>
   rw[hb] at h;have hs:size=1:=alo hb;subst hs;simp only[aaU] at h;obtain⟨h1,h⟩:=h;split at h
   ·rename_i out hf;refine⟨out,Ϙ _ _ _ (λp hp=> ?_) hf,h⟩;obtain⟨q,hq,rfl⟩:=akR.1 hp;exact aa7 _ h1 _ (akR.2 ⟨q,hq,rfl⟩)
   ·exact h.elim
theorem MI (place place':Nat->Option (Nat×Nat)) (hp:∀i x,place i=some x->place' i=some x):∀(ps:List (Nat×Value)) (cs out:List Value),IC place ps cs=some out->
  Instr.fill place' ⟨cs⟩ ps=some ⟨out⟩:=by
 intro ps
 induction ps with
 |nil=>intro cs out h;simp[IC] at h;subst h;rfl
 |cons p ps ih=>
  obtain⟨i,v⟩:=p;intro cs out h;simp only[IC] at h
  cases u:place i with
  |none=>simp[u] at h
  |some x=>
   obtain⟨off,size⟩:=x;simp only[u] at h
   cases hb:(Nat.beq (cellsOfV v).length size && Nat.ble (off+size) cs.length) with
   |false=>simp[hb] at h
   |true=>
    simp only[hb,aaU] at h;simp only[akN,Nat.beq_eq,ble_eq] at hb;obtain⟨h1,h2⟩:=hb;rw[Qv] at h1 h;have h3:v.cells.size=size:=by rw[<- h1];simp
    have:=ih _ _ h;have hf:=Ϟ off v.cells.toList 0 ⟨cs⟩ (by simp;omega);simp only[aki] at hf;have hz:v.cells.zipIdx.foldl (λ(cs:Array Value) (x:Value×Nat)=>cs.setIfInBounds (off+x.2) x.1) ⟨cs⟩=⟨splice cs off v.cells.toList⟩:=by
     rw[<- Array.foldl_toList,Array.toList_zipIdx];exact hf
    simp only[Instr.fill,hp _ _ u];have c1:(v.cells.size≠size||off+v.cells.size>(⟨cs⟩:Array Value).size)=false:=by
     simp[h3];omega
    simp only[c1,Bool.false_eq_true,ajY];exact(congrArg (λa=>Instr.fill place' a ps) hz).trans this
section
variable {P:Program}
theorem ZA {w:θ}:∀(fs:List Field) (pl:List (Nat×Nat)),placesOf P fs=some pl->
  (fs.mapM λ(f:Field)=>(do pure (f.offset,<- Go.sizeOf f.type):Sem (Nat×Nat))).run P w= .ok pl w:=by
 intro fs
 induction fs with
 |nil=>intro pl h;simp[placesOf] at h;subst h;simp
 |cons f fs ih=>
  intro pl h;simp only[placesOf] at h
  cases hs:jF P f.type with
  |none=>simp[hs] at h
  |some s=>
   cases hr:placesOf P fs with
   |none=>simp[hs,hr] at h
   |some l=>
    simp only[hs,hr,agP] at h;subst h;have hi:=ih l hr;rw[List.mapM_cons];simp only[Sem.run_bind,jH hs,Result.andThen_ok,Sem.run_pure,hi]
theorem TW {w:θ} {fs:Array Field} {f off size:Nat} (h:IB P fs f=some (off,size)) (hs:Nat.beq size 0=false) (a:Addr):
  ∃fd,fs[f]? =some fd/\(fieldPlace a fd).run P w= .ok (a.add off) w:=by
 unfold IB at h
 cases hf:fs.toList[f]? with
 |none=>simp[hf] at h
 |some fd=>
  simp only[hf] at h
  cases hz:jF P fd.type with
  |none=>simp[hz] at h
  |some s=>
   simp only[hz,agP,alp] at h;obtain⟨rfl,rfl⟩:=h;refine⟨fd,by simpa using hf,?_⟩;have:s≠0:=by intro e;subst e;simp at hs
   simp[fieldPlace,jH hz,this]
theorem Ve {w:θ} {t:TypeId} {d:TypeDesc} {size off:Nat} {cs:Array Value} {φ:Value->Prop} (hd:P.underlying t=some d) (hs:jF P t=some size)
  (h:partOf d size off cs.toList φ):∃v,(part t cs off).run P w= .ok v w/\φ v:=by
 unfold partOf at h
 cases hg:IJ d with
 |true=>
  simp only[hg,aaU] at h;refine⟨_,?_,h⟩;simp only[part,Sem.run_bind,JV hd,Result.andThen_ok,hg,aiS,jH hs,Sem.run_pure,Result.ok.injEq,alO,Value.agg.injEq];apply ame.mp;simp[Array.toList_extract,List.extract_eq_take_drop]
 |false=>
  simp only[hg,aaT] at h
  cases hc:cs.toList[off]? with
  |none=>simp[hc] at h
  |some v=>
   simp only[hc] at h;refine⟨v,?_,h⟩;have hc':cs[off]? =some v:=by simpa using hc
   simp[part,JV hd,hg,hc']
theorem Oe {k k':IntKind} (h:MO k k'=true):k=k':=by cases k<;>cases k'<;>first|rfl|(simp[MO] at h)
theorem abA {op:BinOp} {k:IntKind} {a b:Int} {φ:Value->Prop} {t:TypeId} {w:θ} (hop:op≠.shl/\op≠.shr) (h:MP op k a b φ):
  ∃v,(binOp op t (.int k a) (.int k b)).run P w= .ok v w/\φ v:=by
 cases op<;>simp only[MP] at h<;>first
  |exact absurd rfl hop.1
  |exact absurd rfl hop.2
  |exact h.elim
  |(refine⟨_,?_,h⟩;simp[binOp,Op.intArith];done)
  |(refine⟨_,?_,h⟩;simp[binOp,Op.intCmp];done)
  |(refine⟨_,?_,h⟩;simp only[binOp,ne_eq,not_true_eq_false,ajY];rfl)
  |(refine⟨_,?_,h.2⟩;simp[binOp,Op.intDiv,h.1];done)
theorem acd {op:BinOp} {a b:ByteArray} {φ:Value->Prop} {t:TypeId} {w:θ} (h:Ny op a b φ):
  ∃v,(binOp op t (.string a) (.string b)).run P w= .ok v w/\φ v:=by
 cases op<;>simp only[Ny] at h<;>first
  |exact h.elim
  |(refine⟨_,?_,h⟩;simp[binOp,Op.stringOp,strEq,strLt];done)
  |(refine⟨_,?_,h.2⟩
    have:¬(IntKind.i64.max<((a.size+b.size:Nat):Int)):=by omega
    simp[binOp,Op.stringOp] at this ⊢;simp[this])
end
end Gp
end
section
namespace Gp
open Go
section
variable {P:Program}
theorem XA {d:TypeDesc} {x y:Value} {φ:Bool->Prop} {t:TypeId} {w:θ} (ht:P.underlying t=some d) (h:LD d x y φ):
  ∃b,(Op.equal t x y).run P w= .ok b w/\φ b:=by
 have key:∀n,∃b,(Op.equalIn (n+1) t x y).run P w= .ok b w/\φ b:=by
  intro n;unfold LD at h;split at h
  ·exact⟨_,by simp[Op.equalIn,run_underlying ht],h⟩
  ·rename_i q;refine⟨_,?_,h⟩
   cases q<;>simp[Op.equalIn,run_underlying ht]
  ·rename_i q _ _ _ _;refine⟨_,?_,h⟩
   cases q<;>simp[Op.equalIn,run_underlying ht]
  ·rename_i q;refine⟨_,?_,h⟩
   cases q<;>simp[Op.equalIn,run_underlying ht]
  trivial
 exact key 9999
theorem Qy {d:TypeDesc} {x y:Value} {φ:Bool->Prop} (h:LD d x y φ) (op:BinOp) (t:TypeId) (a b:Operand) (w:θ):(eqGuard op t a b x y).run P w= .ok () w:=by
 unfold LD at h;split at h<;>first|exact h.elim|(cases op<;>simp[eqGuard])
theorem ad4 {op:BinOp} {t:TypeId} {x y:Value} {φ:Value->Prop} (a:Operand) {w:θ} (h:GN P op t x y φ):
  ∃v,(do eqGuard op t a (.const .nilIface) x y;binOp op t x y:Sem Value).run P w= .ok v w/\φ v:=by
 unfold GN at h;split at h
 ·rename_i s ms ho ht;have key:∀n,(Op.equalIn (n+1) t .nilIface .nilIface).run P w= .ok true w:=λn=>by simp[Op.equalIn,run_underlying ht]
  have e:(Op.equal t .nilIface .nilIface).run P w= .ok true w:=key 9999
  cases op<;>simp only[IK,reduceCtorEq,agP] at ho
  all_goals subst ho
  ·exact⟨.bool true,by simp[eqGuard,show binOp .eql t .nilIface .nilIface=(do pure (.bool (<- Op.equal t .nilIface .nilIface))) from rfl,e],h⟩
  ·exact⟨.bool false,by simp[eqGuard,show binOp .neq t .nilIface .nilIface=(do pure (.bool (!(<- Op.equal t .nilIface .nilIface)))) from rfl,e],h⟩
 ·rename_i s ms t' v' ho ht;have key:∀n,(Op.equalIn (n+1) t (.iface t' v') .nilIface).run P w= .ok false w:=λn=>by simp[Op.equalIn,run_underlying ht]
  have e:(Op.equal t (.iface t' v') .nilIface).run P w= .ok false w:=key 9999
  cases op<;>simp only[IK,reduceCtorEq,agP] at ho
  all_goals subst ho
  ·exact⟨.bool false,by simp[eqGuard,show binOp .eql t (.iface t' v') .nilIface=(do pure (.bool (<- Op.equal t (.iface t' v') .nilIface))) from rfl,e],h⟩
  ·exact⟨.bool true,by simp[eqGuard,show binOp .neq t (.iface t' v') .nilIface=(do pure (.bool (!(<- Op.equal t (.iface t' v') .nilIface)))) from rfl,e],h⟩
 trivial
theorem Qx {d:TypeDesc} {x y:Value} {φ:Bool->Prop} (h:LD d x y φ) (t:TypeId):
  binOp .eql t x y=(do pure (.bool (<- Op.equal t x y)))/\binOp .neq t x y=(do pure (.bool (!(<- Op.equal t x y)))):=by
 unfold LD at h;split at h<;>first|exact h.elim|trivial
theorem AO {w:θ} {t:TypeId} {d:TypeDesc} {size off:Nat} {cs:Array Value} {v:Value} (hd:P.underlying t=some d) (hs:jF P t=some size) (h:XZ d size off cs.toList=some v):
  (part t cs off).run P w= .ok v w:=by
 obtain⟨v',hr,hv⟩:=Ve (φ:=λv'=>v'=v) hd hs (by
  unfold XZ at h;unfold partOf
  cases hg:IJ d with
  |true=>rw[hg] at h;simp only[aaU,agP] at h ⊢;exact h
  |false=>rw[hg] at h;simp only[aaT] at h ⊢;rw[h])
 rw[hr,hv]
theorem JF {b:Bool} {o:Option Bool} {r:Bool} (h:agX b o=some r):∃r',o=some r'/\r=(b && r'):=by
 cases o with
 |none=>cases h
 |some r'=>exact⟨r',rfl,by simpa [agX] using h.symm⟩
theorem YB:∀(n:Nat) (t:TypeId) (x y:Value) (b:Bool) (m:Nat) (w:θ),EZ P n t x y=some b->n<=m->(Op.equalIn m t x y).run P w= .ok b w:=by
 intro n
 induction n with
 |zero=>intro t x y b m w h;cases h
 |succ n ih=>
  intro t x y b m w h hm;obtain⟨m,rfl⟩:∃m',m=m'+1:=⟨m - 1,by omega⟩;unfold EZ at h;split at h
  ·rename_i hu;rw[run_equalIn_bool' w m t _ _ hu]
   cases h;rfl
  ·rename_i k0 k a k' c hu
   cases hk:MO k k' with
   |false=>simp_all
   |true=>
    rw[hk] at h;have:=Oe hk;subst this;rw[run_equalIn_int w m t k k0 _ _ hu]
    cases h;rfl
  ·rename_i hu;rw[run_equalIn_string w m t _ _ hu]
   cases h;rfl
  ·rename_i fs xs ys hu
   cases hp:P.stoodInHeld t with
   |true=>simp_all
   |false=>
    rw[hp] at h;simp only[aaT] at h;have I:P.fieldsOf t=fs:=by simp[Program.fieldsOf,hu]
    rw[run_equalIn_struct w m t xs ys (by simp_all) hp,I];generalize fs.toList=l at h;clear I hu
    induction l generalizing b with
    |nil=>simp only[afs,agP] at h;subst h;rfl
    |cons fd l ihl=>
     simp only[afs] at h
     cases J:(fd.name=="_") with
     |true=>simp_all
     |false=>
      rw[J] at h;simp only[aaT] at h;split at h
      case h_2=>cases h
      rename_i d size hd hs;split at h
      case h_2=>cases h
      rename_i u v hu hv;split at h
      case h_2=>cases h
      rename_i r hr;obtain⟨r',hr',rfl⟩:=JF h;have N:fd.name≠"_":=by simp_all
      simp only[Op.eqFields,N,ne_eq,amB,aiS,Sem.run_bind,AO hd hs hu,AO hd hs hv,Result.andThen_ok,ih _ _ _ _ m w hr (by omega)]
      cases r with
      |true=>simp_all
      |false=>simp
  ·rename_i n' e xs ys hu;split at h
   case h_2=>cases h
   rename_i de size hd hs;obtain⟨i,hi,O⟩:∃i,P.info? e=some i/\i.size=size:=by
    unfold jF at hs
    grind
   have hc:P.cellsOf e=size:=by simp[Program.cellsOf,hi,O]
   rw[run_equalIn_array w m xs ys hu hi,hc,List.range_eq_range'];generalize 0=j at h ⊢;clear hu
   induction n' generalizing b j with
   |zero=>simp only[aft,agP] at h;subst h;rfl
   |succ n' ihn=>
    simp only[aft] at h;split at h
    case h_2=>cases h
    rename_i u v hu hv;split at h
    case h_2=>cases h
    rename_i r hr;obtain⟨r',hr',rfl⟩:=JF h;simp only[List.range'_succ,Op.eqItems,Sem.run_bind,AO hd hs hu,AO hd hs hv,Result.andThen_ok,ih _ _ _ _ m w hr (by omega)]
    cases r with
    |true=>grind
    |false=>simp
  ·cases h
theorem ahb {n:Nat} {t:TypeId} {x y:Value} {b:Bool} (h:EZ P n t x y=some b):∃d,P.underlying t=some d:=by
 cases n with
 |zero=>cases h
 |succ n=>
  unfold EZ at h;split at h<;>first|simp_all|cases h
theorem LV {n:Nat} {t:TypeId} {d:TypeDesc} {x y:Value} {b:Bool} (hd:P.underlying t=some d) (h:EZ P n t x y=some b):Instr.sameNow d x y=some b\/Instr.sameNow d x y=none:=by
 cases n with
 |zero=>cases h
 |succ n=>
  unfold EZ at h;split at h
  ·rename_i hu;rw[hd] at hu;cases hu
   cases h
   exact .inl rfl
  ·rename_i k0 k a k' c hu;rw[hd] at hu;cases hu
   cases hk:MO k k' with
   |false=>simp_all
   |true=>
    rw[hk] at h;have:=Oe hk;subst this
    cases h
    exact .inl (by simp[Instr.sameNow])
  ·rename_i hu;rw[hd] at hu;cases hu
   cases h
   exact .inl (by simp[Instr.sameNow,strEq,beq_toListBytes])
  ·rename_i hu;rw[hd] at hu;cases hu;exact .inr rfl
  ·rename_i hu;rw[hd] at hu;cases hu;exact .inr rfl
  ·cases h
theorem V3 {kt:TypeId} {d:TypeDesc} {key:Value} (hd:P.underlying kt=some d):∀(es:List MapEntry) (i:Nat) (res:Option (Nat×Value)),uj P kt key es i=some res->Instr.findNow d key es i=some res\/Instr.findNow d key es i=none:=by
 intro es
 induction es with
 |nil=>intro i res h;simp only[uj,agP] at h;subst h;exact .inl rfl
 |cons e es ih=>
  intro i res h;simp only[uj] at h;split at h
  ·rename_i he
   cases h
   rcases LV hd he with h1|h1
   ·exact .inl (by simp[Instr.findNow,h1])
   ·exact .inr (by simp[Instr.findNow,h1])
  ·rename_i he;rcases LV hd he with h1|h1
   ·rcases ih _ _ h with h2|h2
    ·exact .inl (by simp[Instr.findNow,h1,h2])
    ·exact .inr (by simp[Instr.findNow,h1,h2])
   ·exact .inr (by simp[Instr.findNow,h1])
  ·cases h
theorem Ua {kt:TypeId} {key:Value} {w:θ}:∀(es:List MapEntry) (i:Nat) (res:Option (Nat×Value)),uj P kt key es i=some res->(Instr.findAsking kt key es i).run P w= .ok res w:=by
 intro es
 induction es with
 |nil=>intro i res h;simp only[uj,agP] at h;subst h;rfl
 |cons e es ih=>
  intro i res h;simp only[uj] at h;split at h
  ·rename_i he
   cases h
   simp[Instr.findAsking,Op.equal,Op.maxDepth,YB 16 kt _ _ _ 10000 w he (by omega)]
  ·rename_i he;simp[Instr.findAsking,Op.equal,Op.maxDepth,YB 16 kt _ _ _ 10000 w he (by omega),ih _ _ h]
  ·cases h
theorem xR {kt:TypeId} {d:TypeDesc} {key:Value} {es:List MapEntry} {res:Option (Nat×Value)} {w:θ} (hd:P.underlying kt=some d) (h:uj P kt key es 0=some res):(Instr.findKey kt key es).run P w= .ok res w:=by
 rcases V3 hd es 0 res h with h1|h1
 ·simp[Instr.findKey,run_underlying hd,h1]
 ·simp[Instr.findKey,run_underlying hd,h1,Ua es 0 res h]
theorem wP:∀(n:Nat) (t:TypeId) (x y:Value) (b:Bool) (m:Nat) (em:Bool) (w:θ),EZ P n t x y=some b->n<=m->(Instr.checkKey em m t x).run P w= .ok () w:=by
 intro n
 induction n with
 |zero=>intro t x y b m em w h;cases h
 |succ n ih=>
  intro t x y b m em w h hm;obtain⟨m,rfl⟩:∃m',m=m'+1:=⟨m - 1,by omega⟩;unfold EZ at h;split at h
  ·rename_i hu;simp[Instr.checkKey,run_underlying hu]
  ·rename_i hu;simp[Instr.checkKey,run_underlying hu]
  ·rename_i hu;simp[Instr.checkKey,run_underlying hu]
  ·rename_i fs xs ys hu
   cases hp:P.stoodInHeld t with
   |true=>simp_all
   |false=>
    rw[hp] at h;simp only[aaT] at h;simp only[Instr.checkKey,Sem.run_bind,run_underlying hu,Result.andThen_ok];rw[<- Array.forIn_toList];generalize fs.toList=l at h;clear hu
    induction l generalizing b with
    |nil=>simp
    |cons fd l ihl=>
     simp only[afs] at h
     cases I:(fd.name=="_") with
     |true=>simp_all
     |false=>
      rw[I] at h;simp only[aaT] at h;split at h
      case h_2=>cases h
      rename_i d size hd hs;split at h
      case h_2=>cases h
      rename_i u v hu hv;split at h
      case h_2=>cases h
      rename_i r hr;obtain⟨r',hr',rfl⟩:=JF h;have J:fd.name≠"_":=by simp_all
      have:=ihl _ hr';simp only[List.forIn_cons,J,ne_eq,amB,aiS,Sem.run_bind,AO hd hs hu,Result.andThen_ok,ih _ _ _ _ m em w hr (by omega),Sem.run_pure];exact this
  ·rename_i n' e xs ys hu;split at h
   case h_2=>cases h
   rename_i de size hd hs;simp only[Instr.checkKey,Sem.run_bind,run_underlying hu,Result.andThen_ok];simp only[Std.Legacy.Range.forIn_eq_forIn_range',Std.Legacy.Range.size,alN,Nat.add_one_sub_one,Nat.div_one];generalize 0=j at h ⊢;clear hu
   induction n' generalizing b j with
   |zero=>simp
   |succ n' ihn=>
    simp only[aft] at h;split at h
    case h_2=>cases h
    rename_i u v hu hv;split at h
    case h_2=>cases h
    rename_i r hr;obtain⟨r',hr',rfl⟩:=JF h;have:=ihn _ _ hr';simp only[List.range'_succ,List.forIn_cons,Sem.run_bind,jH hs,Result.andThen_ok,AO hd hs hu,ih _ _ _ _ m em w hr (by omega),Sem.run_pure];exact this
  ·cases h
theorem LU {v:Value} (h:afZ v=true) (n:Nat):Instr.sameBits n v v=true:=by
 cases v<;>first|(cases h;done)|simp[Instr.sameBits,MapKept.bytes_beq]
theorem Jw {v:Value} (h:ZB v=true) (n:Nat):Instr.sameBits (n+1) v v=true:=by
 unfold ZB at h;split at h
 ·rename_i cs;simp only[Instr.sameBits,amC,Bool.true_and,alA];simp only[alA] at h;rintro⟨x,y⟩ u;have:x=y:=by
   obtain⟨i,hi⟩:=alV u
   grind
  subst this;exact LU (h x (List.of_mem_zip u).1) n
 ·exact LU h _
theorem zB {kt:TypeId} {key:Value} (h:nX P kt key=true):ZB key=true/\∃d b,P.underlying kt=some d/\EZ P 16 kt key key=some b:=by
 simp only[nX,akN,amD] at h;obtain⟨h1,b,hb⟩:=h;obtain⟨d,hd⟩:=ahb hb
 simp_all
theorem NY {k:Kind} {v:Value} {φ:k.T->Prop} (h:k.dec v φ):∃x,v=k.enc x/\φ x:=by
 cases k<;>cases v<;>first
  |exact h.elim
  |exact⟨_,rfl,h⟩
  |skip
 case int.int k k' n=>
  simp only[Kind.dec] at h
  cases hb:MO k k' with
  |false=>simp_all
  |true=>
   rw[hb] at h;have:=Oe hb;subst this;exact⟨n,rfl,h⟩
theorem yw {t:TypeId} {z:Value} {w:θ} (h:Es P t=some z):(zeroValue t).run P w= .ok z w:=by
 unfold Es at h;split at h
 ·rename_i i hi;simp[zeroValue,run_typeInfo hi,h]
 ·cases h
theorem aaY {t kt et:TypeId} {k:Kind} {r:Option Nat} {key zero:Value} {w:θ} {K:k.T->Prop} (ht:P.underlying t=some (.map kt et)) (hz:Es P et=some zero) (h:pY P kt k r key zero w K):
  ∃x,(Instr.lookup t (.map r) key false).run P w= .ok (k.enc x) w/\K x:=by
 obtain⟨hk,h⟩:=h;obtain⟨_,d,b',hd,hb'⟩:=zB hk;have u:=λem=>wP 16 kt key key b' 10000 em w hb' (by omega);rcases h with ⟨rfl,h⟩|⟨b,es,clock,rfl,hb,res,I,h⟩
 ·obtain⟨x,hx,h⟩:=NY h;refine⟨x,?_,h⟩;have hf:(Instr.findKey kt key []).run P w= .ok none w:=xR hd rfl;simp[Instr.lookup,run_underlying ht,u,hf,yw hz,hx]
 ·obtain⟨x,hx,h⟩:=NY h;refine⟨x,?_,h⟩;have hf:=xR (w:=w) hd I
  cases res with
  |none=>simp[Instr.lookup,run_underlying ht,MapKept.run_getObj_map hb,u,hf,yw hz,<- hx]
  |some p=>
   obtain⟨i,v⟩:=p;simp[Instr.lookup,run_underlying ht,MapKept.run_getObj_map hb,u,hf,<- hx]
theorem Qs {t kt et:TypeId} {r:Option Nat} {key zero:Value} {w:θ} {K:Value->Bool->Prop} (ht:P.underlying t=some (.map kt et)) (hz:Es P et=some zero) (h:E8 P kt r key zero w K) (ok:Bool):
  ∃v b,(Instr.lookup t (.map r) key ok).run P w= .ok (if ok=true then .tuple #[v,.bool b] else v) w/\K v b:=by
 obtain⟨hk,h⟩:=h;obtain⟨_,d,b',hd,hb'⟩:=zB hk;have u:=λem=>wP 16 kt key key b' 10000 em w hb' (by omega);rcases h with ⟨rfl,h⟩|⟨b,es,clock,rfl,hb,res,I,h⟩
 ·refine⟨_,_,?_,h⟩;have hf:(Instr.findKey kt key []).run P w= .ok none w:=xR hd rfl;simp[Instr.lookup,run_underlying ht,u,hf,yw hz]
 ·have hf:=xR (w:=w) hd I
  cases res with
  |none=>
   refine⟨_,_,?_,h⟩;simp[Instr.lookup,run_underlying ht,MapKept.run_getObj_map hb,u,hf,yw hz]
  |some p=>
   obtain⟨i,v⟩:=p;refine⟨_,_,?_,h⟩;simp[Instr.lookup,run_underlying ht,MapKept.run_getObj_map hb,u,hf]
theorem Tc {t kt et:TypeId} {r:Option Nat} {key val:Value} {w:θ} {K:b_} (ht:P.underlying t=some (.map kt et)) (h:oK P kt r key val w K):
  ∃w',(Instr.mapUpdate t (.map r) key val).run P w= .ok () w'/\K w':=by
 obtain⟨hk,b,es,clock,rfl,hb,res,u,h⟩:=h;obtain⟨hp,d,b',hd,hb'⟩:=zB hk;have I:=λem=>wP 16 kt key key b' 10000 em w hb' (by omega);have hf:=xR (w:=w) hd u
 cases res with
 |none=>exact⟨_,by simp[Instr.mapUpdate,run_underlying ht,MapKept.run_getObj_map hb,I,hf,MapKept.run_setObj_map _ hb];rfl,h⟩
 |some p=>
  obtain⟨i,v⟩:=p;obtain⟨⟨e,he,J⟩,h⟩:=h;have N:(Instr.keyThatStays e.key key).run P w= .ok key w:=by
   rw[J];simp[Instr.keyThatStays,Jw hp]
  exact⟨_,by simp[Instr.mapUpdate,run_underlying ht,MapKept.run_getObj_map hb,I,hf,he,N,MapKept.run_setObj_map _ hb];rfl,h⟩
theorem aaX {t kt et:TypeId} {r:Option Nat} {key zero:Value} {w:θ} {K:Value->Int->b_} (ht:P.underlying t=some (.map kt et)) (hz:Es P et=some zero) (h:aeN P kt r key zero w K):
  ∃v n w',(Instr.mapEntry t (.map r) key).run P w= .ok (.tuple #[v,.int .i64 n]) w'/\K v n w':=by
 obtain⟨hk,b,es,clock,rfl,hb,res,u,h⟩:=h;obtain⟨hp,d,b',hd,hb'⟩:=zB hk;have I:=λem=>wP 16 kt key key b' 10000 em w hb' (by omega);have hf:=xR (w:=w) hd u
 cases res with
 |none=>exact⟨_,_,_,by simp[Instr.mapEntry,run_underlying ht,MapKept.run_getObj_map hb,I,hf,yw hz,MapKept.run_setObj_map _ hb,goInt];rfl,h⟩
 |some p=>
  obtain⟨i,v⟩:=p;obtain⟨e,he,J,h⟩:=h;have N:(Instr.keyThatStays e.key key).run P w= .ok key w:=by
   rw[J];simp[Instr.keyThatStays,Jw hp]
  exact⟨_,_,_,by simp[Instr.mapEntry,run_underlying ht,MapKept.run_getObj_map hb,I,hf,he,N,MapKept.run_setObj_map _ hb,goInt];rfl,h⟩
theorem adk {t:TypeId} {r:Option Nat} {k:IntKind} {n:Int} {val:Value} {w:θ} {K:b_} (h:aiv r n val w K):
  ∃w',(Instr.entryStore t (.map r) (.int k n) val).run P w= .ok () w'/\K w':=by
 obtain⟨b,es,clock,i,rfl,hb,hi,h⟩:=h;exact⟨_,by simp[Instr.entryStore,MapKept.run_getObj_map hb,asInt,asIntOf,hi,MapKept.run_setObj_map _ hb];rfl,h⟩
theorem aaW {t kt et t' ty:TypeId} {r:Option Nat} {key:Value} {w:θ} {K:b_} (ht:P.underlying t=some (.map kt et)) (h:E5 P kt r key w K):
  ∃w',(Builtin.delete_ ⟨[t,t']⟩ ty ⟨[.map r,key]⟩).run P w= .ok (.tuple #[]) w'/\K w':=by
 obtain⟨hk,h⟩:=h;obtain⟨_,d,b',hd,hb'⟩:=zB hk;have u:=λem=>wP 16 kt key key b' 10000 em w hb' (by omega);rcases h with ⟨rfl,h⟩|⟨b,es,clock,rfl,hb,res,I,h⟩
 ·exact⟨_,by simp[Builtin.delete_,run_underlying ht,u],h⟩
 ·have hf:=xR (w:=w) hd I
  cases res with
  |none=>exact⟨_,by simp[Builtin.delete_,run_underlying ht,MapKept.run_getObj_map hb,u,hf,MapKept.run_setObj_map _ hb];rfl,h⟩
  |some p=>
   obtain⟨i,v⟩:=p;exact⟨_,by simp[Builtin.delete_,run_underlying ht,MapKept.run_getObj_map hb,u,hf,MapKept.run_setObj_map _ hb];rfl,h⟩
theorem Yn {op:BinOp} {t:TypeId} {x y:Value} {φ:Value->Prop} (a b:Operand) {w:θ} (h:H6 P op t x y φ):
  ∃v,((do eqGuard op t a b x y;binOp op t x y):Sem Value).run P w= .ok v w/\φ v:=by
 unfold H6 at h;split at h
 ·rename_i k n;have hg:(eqGuard op t a b (.int k n) y).run P w= .ok () w:=by cases op<;>cases y<;>simp[eqGuard]
  simp only[Sem.run_bind,hg,Result.andThen_ok]
  cases y with
  |int k' m=>
   by_cases h1:op= .shl
   ·subst h1;simp only[Mc] at h;refine⟨_,?_,h.2⟩;have:=Int.not_lt.2 h.1;simp[binOp,Op.shift,this,Lu]
   ·by_cases h2:op= .shr
    ·subst h2;simp only[Mc] at h;refine⟨_,?_,h.2⟩;have:=Int.not_lt.2 h.1;simp[binOp,Op.shift,this,jE]
    ·have h':cond (MO k k') (MP op k n m φ) False:=by cases op<;>first|exact h|exact absurd rfl h1|exact absurd rfl h2
     cases hk:MO k k' with
     |false=>simp_all
     |true=>
      rw[hk] at h';have:=Oe hk;subst this;exact abA ⟨h1,h2⟩ h'
  |_=>cases op<;>exact h.elim
 ·rename_i s;have hg:(eqGuard op t a b (.string s) y).run P w= .ok () w:=by cases op<;>cases y<;>simp[eqGuard]
  simp only[Sem.run_bind,hg,Result.andThen_ok]
  cases y with
  |string s'=>
   have h:Ny op s s' φ:=by cases op<;>exact h
   exact acd h
  |_=>cases op<;>exact h.elim
 ·rename_i xs;split at h
  case h_2=>exact h.elim
  rename_i s ys ho
  cases hg:P.eqGuardType P.depth t with
  |true=>simp_all
  |false=>
   rw[hg] at h;simp only[aaT] at h;split at h
   case h_2=>exact h.elim
   rename_i r hr;have he:=YB 16 t _ _ r 10000 w hr (by omega);refine⟨_,?_,h⟩;simp only[Sem.run_bind,run_eqGuard_agg w op t a b xs ys hg,Result.andThen_ok]
   cases op<;>simp only[IK,agP] at ho<;>first|(cases ho;done)|skip
   ·subst ho;rw[run_eql_struct,he];rfl
   ·subst ho;rw[run_neq_struct,he];rfl
 ·split at h
  ·rename_i ho hd;have:op= .eql:=by cases op<;>first|rfl|(simp[IK] at ho)
   subst this;obtain⟨v,hr,hφ⟩:=XA (w:=w) hd h;exact⟨_,by simp[Qy h,(Qx h t).1,hr],hφ⟩
  ·rename_i ho hd;have:op= .neq:=by cases op<;>first|rfl|(simp[IK] at ho)
   subst this;obtain⟨v,hr,hφ⟩:=XA (w:=w) hd h;exact⟨_,by simp[Qy h,(Qx h t).2,hr],hφ⟩
  trivial
theorem aaI {op:UnOp} {x:Value} {φ:Value->Prop} {w:θ} (h:OZ op x φ):∃v,(Op.unary op x).run P w= .ok v w/\φ v:=by
 unfold OZ at h;split at h
 ·exact⟨_,by rfl,h⟩
 ·exact⟨_,by rfl,h⟩
 ·exact⟨_,by rfl,h⟩
 trivial
theorem AL {ρ:Operand->Value} {x:Option Operand} {dflt:Int} {φ:Int->Prop} (h:zF ρ x dflt φ):
  (x=none/\φ dflt)\/∃o k n,x=some o/\ρ o= .int k n/\φ n:=by
 unfold zF at h
 grind
theorem kC {k:IntKind} {i:Int} {y:Nat} {c:BoundsCode} {w:θ} (h0:0<=i) (h1:i<=(y:Int)):
  (Instr.sliceBound (.int k i) y c).run P w= .ok i.toNat w:=by
 simp[Instr.sliceBound,asIntOf,h0,h1]
theorem Yo {isS:Bool} {len cap:Nat} {ρ:Operand->Value} {lo hi:Option Operand} {φ:Int->Int->Prop} {w:θ} (hlc:isS=true\/len=cap)
  (h:zF ρ lo 0 λl=>zF ρ hi (len:Int) λh=>φ l h) (hb:∀l h,φ l h->0<=l/\l<=h/\h<=(cap:Int)):
  ∃l h,(Instr.sliceBounds isS len cap (lo.map ρ) (hi.map ρ) none).run P w= .ok (l.toNat,h.toNat,cap) w/\φ l h:=by
 rcases AL h with ⟨e1,h1⟩|⟨o,k,l,e1,ho,h1⟩
 ·subst e1;rcases AL h1 with ⟨e2,h2⟩|⟨o',k',h',e2,ho',h2⟩
  ·subst e2;exact⟨_,_,by rfl,h2⟩
  ·subst e2;obtain⟨a1,a2,a3⟩:=hb _ _ h2;exact⟨_,_,by simp[Instr.sliceBounds,ho',kC (Int.le_trans a1 a2) a3],h2⟩
 ·subst e1;rcases AL h1 with ⟨e2,h2⟩|⟨o',k',h',e2,ho',h2⟩
  ·subst e2;obtain⟨a1,a2,a3⟩:=hb _ _ h2;exact⟨_,_,by simp[Instr.sliceBounds,ho,kC a1 a2],h2⟩
  ·subst e2;obtain⟨a1,a2,a3⟩:=hb _ _ h2;have a4:l<=((h'.toNat:Nat):Int):=by omega
   exact⟨_,_,by simp[Instr.sliceBounds,ho,ho',kC (Int.le_trans a1 a2) a3,kC a1 a4],h2⟩
theorem ag1 {isS:Bool} {len cap:Nat} {ρ:Operand->Value} {lo:Option Operand} {oh om:Operand} {φ:Int->Int->Int->Prop} {w:θ}
  (h:zF ρ lo 0 λl=>zF ρ (some oh) 0 λh=>zF ρ (some om) 0 λm=>φ l h m) (hb:∀l h m,φ l h m->0<=l/\l<=h/\h<=m/\m<=(cap:Int)):
  ∃l h m,(Instr.sliceBounds isS len cap (lo.map ρ) (some (ρ oh)) (some (ρ om))).run P w= .ok (l.toNat,h.toNat,m.toNat) w/\φ l h m:=by
 have key:∀l,(zF ρ (some oh) 0 λh=>zF ρ (some om) 0 λm=>φ l h m)->∃kh h km m,ρ oh= .int kh h/\ρ om= .int km m/\φ l h m:=by
  intro l hh;rcases AL hh with ⟨e2,_⟩|⟨o',k',h',e2,ho',h2⟩
  ·cases e2
  ·cases e2
   rcases AL h2 with ⟨e3,_⟩|⟨o'',k'',h'',e3,ho'',h3⟩
   ·cases e3
   grind
 rcases AL h with ⟨e1,h1⟩|⟨o,k,l,e1,ho,h1⟩
 ·subst e1;obtain⟨kh,h',km,m,ho,hm,h2⟩:=key _ h1;obtain⟨a1,a2,a3,a4⟩:=hb _ _ _ h2;have b1:(0:Int)<=m:=by omega
  have b3:h'<=((m.toNat:Nat):Int):=by omega
  exact⟨_,_,_,by simp[Instr.sliceBounds,ho,hm,kC b1 a4,kC a2 b3],h2⟩
 ·subst e1;obtain⟨kh,h',km,m,ho',hm,h2⟩:=key _ h1;obtain⟨a1,a2,a3,a4⟩:=hb _ _ _ h2;have b1:(0:Int)<=m:=by omega
  have b2:(0:Int)<=h':=by omega
  have b3:h'<=((m.toNat:Nat):Int):=by omega
  have b4:l<=((h'.toNat:Nat):Int):=by omega
  exact⟨_,_,_,by simp[Instr.sliceBounds,ho,ho',hm,kC b1 a4,kC b2 b3,kC a1 b4],h2⟩
theorem ZI {t:TypeId} {x:Value} {ρ:Operand->Value} {lo hi mx:Option Operand} {φ:Value->Prop} {w:θ} (h:Jy P t x ρ lo hi mx φ):
  ∃v,(Instr.sliceAt t x (lo.map ρ) (hi.map ρ) (mx.map ρ)).run P w= .ok v w/\φ v:=by
 unfold Jy at h;split at h
 ·rename_i s ht;split at h
  ·obtain⟨l,h',hr,h0⟩:=Yo (P:=P) (isS:=false) (w:=w) (.inr rfl) h (λl h' hh=>⟨hh.1,hh.2.1,hh.2.2.1⟩);exact⟨_,by simp[Instr.sliceAt,Instr.slice,run_underlying ht,hr],h0.2.2.2⟩
  trivial
 ·rename_i e a n c ht;split at h
  ·rename_i size hs;split at h
   ·obtain⟨l,h',hr,h0⟩:=Yo (P:=P) (w:=w) (.inl rfl) h (λl h' hh=>⟨hh.1,hh.2.1,hh.2.2.1⟩);exact⟨_,by simp[Instr.sliceAt,Instr.slice,run_underlying ht,hr,jH hs,fU.v,qU],h0.2.2.2⟩
   ·rename_i m;split at h
    ·rename_i hi';obtain⟨l,h',m',hr,h0⟩:=ag1 (P:=P) (isS:=true) (len:=n) (w:=w) h (λl h' m' hh=>⟨hh.1,hh.2.1,hh.2.2.1,hh.2.2.2.1⟩);exact⟨_,by simp[Instr.sliceAt,Instr.slice,run_underlying ht,hr,jH hs,fU.v,qU],h0.2.2.2.2⟩
    trivial
  trivial
 ·rename_i n e a ht;split at h
  ·rename_i size hs;split at h
   ·obtain⟨l,h',hr,h0⟩:=Yo (P:=P) (isS:=false) (w:=w) (.inr rfl) h (λl h' hh=>⟨hh.1,hh.2.1,hh.2.2.1⟩);exact⟨_,by simp[Instr.sliceAt,Instr.sureAddr,run_underlying ht,hr,jH hs,fU.v],h0.2.2.2⟩
   trivial
  trivial
 trivial
end
end Gp
end
