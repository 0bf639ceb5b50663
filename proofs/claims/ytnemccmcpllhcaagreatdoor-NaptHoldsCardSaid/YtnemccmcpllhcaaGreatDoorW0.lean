import Derived.RangeFuncLeaves
import Derived.OrdersIn
import Derived.RangeFuncSeq
import Derived.Maps.RangeRun
import Derived.Laws.Append
import Derived.Laws.Slices
import Derived.Laws.MakeOwn
import Derived.Laws.CopyOwn
import Derived.Laws.BytesString
import Derived.Laws.BytesArg
import Derived.Laws.StructEq
import Derived.MapKept
import Derived.WideKeyRuns
import Derived.ChangeKeysEq
abbrev Β:=@cond_false
abbrev Δ:=@cond_true
abbrev Ε:=@if_neg
abbrev Ζ:=@if_pos
abbrev Η:=@Int.toNat_natCast
abbrev aaA:=@decide_true
abbrev aaV:=@decide_false
abbrev abe:=@List.getElem?_eq_getElem
abbrev abW:=@decide_eq_false
abbrev abY:=@List.getElem?_cons_zero
abbrev ab6:=@Bool.not_true
abbrev ab9:=@decide_eq_true
abbrev ady:=@List.getElem?_eq_some_iff
abbrev adB:=@List.getElem?_cons_succ
abbrev adH:=@List.length_append
abbrev aek:=@Bool.not_false
abbrev aeA:=@true_and
abbrev aeW:=@List.length_cons
abbrev afm:=@List.mem_cons
abbrev afx:=@Ne.symm
abbrev afM:=@Option.some.injEq
abbrev agE:=@List.set_cons_zero
abbrev aho:=@List.set_cons_succ
abbrev ahv:=@List.length_map
abbrev ahy:=@Nat.mul_one
abbrev ahA:=@Nat.zero_add
abbrev ahN:=@if_true
abbrev ahO:=@Nat.le_trans
abbrev ahP:=@List.length_take
abbrev aik:=@Option.map_some
abbrev aiq:=@Nat.le_refl
abbrev aiB:=@List.mem_singleton
abbrev aiC:=@if_false
abbrev aiF:=@List.getElem?_map
abbrev aiG:=@List.map_cons
abbrev aiJ:=@List.length_nil
abbrev aiQ:=@Array.getElem?_eq_some_iff
abbrev aji:=@List.take_of_length_le
abbrev ajj:=@List.append_assoc
abbrev ajk:=@List.mem_append
abbrev ajl:=@List.length_set
abbrev ajm:=@List.getElem_mem
abbrev ajn:=@Nat.lt_of_lt_of_le
abbrev ajo:=@List.getElem?_set
abbrev ajp:=@List.not_mem_nil
abbrev ajq:=@Bool.and_eq_true
abbrev ajt:=@Nat.add_zero
abbrev ajv:=@Option.isSome_some
abbrev ajy:=@List.getElem?_append_right
abbrev ajB:=@List.flatMap_cons
abbrev ajD:=@Nat.add_mul
abbrev ajF:=@List.mem_of_getElem?
abbrev ajM:=@List.take_succ_eq_append_getElem
abbrev ajS:=@List.take_append_drop
abbrev ajT:=@List.flatMap_append
abbrev ajU:=@List.take_length
abbrev ajV:=@or_false
abbrev ajW:=@Bool.decide_and
abbrev ajX:=@List.mem_map
abbrev ajY:=@Option.getD_some
abbrev ajZ:=@Array.getElem?_modify
abbrev aj0:=@List.length_drop
abbrev aj1:=@BitVec.toNat_ofInt
abbrev aj2:=@List.mem_cons_of_mem
abbrev aj3:=@bne_iff_ne
abbrev aj6:=@Int.tmod_eq_emod_of_nonneg
abbrev aj7:=@and_self
abbrev aj8:=@List.getElem?_append_left
abbrev aj9:=@Nat.eq_of_beq_eq_true
abbrev aj_:=@Option.isSome_none
abbrev akb:=@List.getElem?_replicate
abbrev akc:=@List.take_add_one
abbrev akd:=@Prod.mk.injEq
abbrev ake:=@List.filter_append
abbrev akf:=@Nat.mod_lt
abbrev akg:=@Nat.lt_irrefl
abbrev akh:=@List.all_eq_true
abbrev aki:=@List.replicate_succ
abbrev akj:=@List.nodup_cons
abbrev akk:=@List.map_append
abbrev akl:=@List.mem_cons_self
abbrev akm:=@Bool.not_eq_true'
abbrev akn:=@Nat.lt_trichotomy
abbrev ako:=@List.length_singleton
abbrev akp:=@Classical.byContradiction
abbrev akq:=@decide_eq_decide
abbrev akr:=@Nat.add_assoc
abbrev aks:=@Array.getD_eq_getD_getElem?
abbrev akt:=@Array.getElem?_setIfInBounds
abbrev aku:=@List.mem_filter
abbrev akv:=@List.cons_append
abbrev akw:=@Nat.min_eq_left
abbrev akx:=@Array.toList_inj
abbrev aky:=@Nat.sub_zero
abbrev akz:=@List.getElem?_eq_none
abbrev akA:=@Nat.mul_le_mul_right
abbrev akB:=@List.drop_eq_getElem_cons
abbrev akC:=@List.nil_append
abbrev akD:=@and_true
abbrev akE:=@List.getD_eq_getElem?_getD
abbrev akF:=@List.cons.injEq
abbrev akG:=@Nat.zero_mul
abbrev akH:=@List.set_append_right
abbrev akI:=@List.getElem?_take
abbrev akJ:=@beq_eq_false_iff_ne
abbrev akK:=@beq_self_eq_true
abbrev akL:=@Array.getElem?_eq_getElem
abbrev akM:=@Nat.lt_or_ge
abbrev akN:=@List.any_eq_false
abbrev akO:=@Nat.pow_le_pow_right
abbrev akP:=@Int.tdiv_eq_ediv_of_nonneg
abbrev akQ:=@of_decide_eq_false
abbrev akR:=@Nat.blt_eq
abbrev akS:=@List.getElem?_of_mem
abbrev akT:=@Option.some.inj
abbrev akU:=@BitVec.toNat_and
abbrev akV:=@List.nodup_append
abbrev akW:=@Option.map_eq_some_iff
abbrev akX:=@List.length_eq_zero_iff
abbrev akY:=@List.getElem?_drop
abbrev akZ:=@Array.getElem?_push
abbrev ak0:=@Bool.or_eq_false_iff
abbrev ak1:=@of_decide_eq_true
abbrev ak2:=@Int.fdiv_eq_ediv_of_nonneg
abbrev ak3:=@Option.isNone_some
abbrev ak4:=@Int.toNat_zero
abbrev ak5:=@List.filter_eq_self
abbrev ak6:=@List.any_append
abbrev ak7:=@List.any_cons
abbrev ak8:=@List.any_nil
abbrev ak9:=@Bool.false_eq_true
abbrev ak_:=@Array.length_toList
abbrev ala:=@List.foldl_cons
abbrev alb:=@Bool.true_and
abbrev alc:=@Bool.or_eq_true
abbrev ald:=@List.size_toArray
abbrev ale:=@List.mem_filterMap
abbrev alf:=@List.drop_drop
abbrev alg:=@List.drop_zero
abbrev alh:=@Int.natCast_ediv
abbrev ali:=@List.append_nil
abbrev alj:=@List.mem_take_iff_getElem
abbrev alk:=@List.pairwise_iff_getElem
abbrev alm:=@Bool.not_eq_true
abbrev aln:=@Bool.and_true
abbrev alo:=@UInt8.toNat_ofNat'
abbrev alp:=@List.ext_getElem?
abbrev alq:=@not_false_eq_true
abbrev alr:=@Option.isSome_iff_exists
abbrev als:=@Array.toList_modify
abbrev alu:=@Nat.and_two_pow_sub_one_eq_mod
abbrev alv:=@List.mem_of_mem_take
abbrev alx:=@Option.isNone_none
abbrev aly:=@Nat.div_eq_of_lt
abbrev alz:=@List.pairwise_cons
abbrev alA:=@List.length_filter_le
abbrev alB:=@Nat.xor_lt_two_pow
abbrev alC:=@List.countP_append
abbrev alD:=@List.countP_singleton
abbrev alE:=@List.any_eq_true
abbrev alF:=@List.length_range
abbrev alG:=@List.getElem?_range
abbrev alH:=@bne_eq_false_iff_eq
abbrev alI:=@List.set_eq_take_append_cons_drop
abbrev alJ:=@Array.getElem?_append_left
abbrev alK:=@Nat.shiftRight_eq_div_pow
abbrev θ:=Go.World
open List (map_map)
open Nat (ble_eq)
section
namespace Gp
open Go
abbrev b_:=θ->Prop
abbrev fO:=Option Addr
theorem d_{a:Type}:(∀(b:a) (c:List a),(b::c)[0]? =some b)/\∀(b:a) (c:List a) (d:Nat),(b::c)[d+1]? =c[d]?:=⟨λ_ _=>rfl,λ_ _ _=>rfl⟩
inductive Kind where
 |int (k:IntKind)|bool|str|ptr|slice|map|any
abbrev ν:Kind:= .int .i64
structure fU where
 a:fO
 len:Nat
 cap:Nat
@[reducible] def Kind.T:Kind->Type
 | .int _=>Int
 | .bool=>Bool
 | .str=>ByteArray
 | .ptr=>fO
 | .slice=>fU
 | .map=>Option Nat
 | .any=>Value
def Kind.enc:(k:Kind)->k.T->Value
 | .int k,n=> .int k n
 | .bool,b=> .bool b
 | .str,s=> .string s
 | .ptr,a=> .pointer a
 | .slice,s=> .slice s.a s.len s.cap
 | .map,r=> .map r
 | .any,v=>v
inductive Shape where
 |one (k:Kind)
 |agg (ks:List Kind)
def kindOf:TypeDesc->Option Kind
 | .bool=>some .bool
 | .int k=>some (.int k)
 | .string=>some .str
 | .pointer _=>some .ptr
 | .slice _=>some .slice
 | .map _ _=>some .map
 | .func _ _ _=>some .any
 | .interface _=>some .any
 |_=>none
def aiP:List (Option (List Kind))->Option (List Kind)
 |[]=>some []
 |x::r=>match x,aiP r with
  |some a,some b=>some (a++b)
  |_,_=>none
def ai9:Nat->List Kind->List Kind
 |0,_=>[]
 |n+1,ks=>ks++ai9 n ks
def Jd (P:Program):Nat->TypeId->Option (List Kind)
 |0,_=>none
 |n+1,t=>match P.underlying t with
  |some (.struct fs)=>aiP (fs.toList.map λf=>Jd P n f.type)
  |some (.array len e)=>match Jd P n e with
   |some ks=>some (ai9 len ks)
   |none=>none
  |some d=>match kindOf d with
   |some k=>some [k]
   |none=>none
  |none=>none
def H6:TypeDesc->Bool
 | .struct _=>true
 | .array _ _=>true
 |_=>false
def shapeOf (P:Program) (t:TypeId):Option Shape:=
 match P.underlying t with
 |some d=>cond (H6 d)
  (match Jd P 20 t with
   |some ks=>some (.agg ks)
   |none=>none)
  (match kindOf d with
   |some k=>some (.one k)
   |none=>none)
 |none=>none
def ϐ (P:Program):List TypeId->Option (List Shape)
 |[]=>some []
 |t::r=>match shapeOf P t,ϐ P r with
  |some a,some b=>some (a::b)
  |_,_=>none
def Pj (P:Program) (t:TypeId):Option (List Shape):=
 match P.underlying t with
 |some (.tuple ts)=>ϐ P ts.toList
 |_=>match shapeOf P t with
  |some s=>some [s]
  |none=>none
def ahQ:(ks:List Kind)->(List Value->Prop)->Prop
 |[],φ=>φ []
 |k::ks,φ=>∃x:k.T,ahQ ks λvs=>φ (k.enc x::vs)
def Shape.ex:Shape->(Value->Prop)->Prop
 | .one k,φ=>∃x:k.T,φ (k.enc x)
 | .agg ks,φ=>ahQ ks λvs=>φ (.agg ⟨vs⟩)
def Ht:List Shape->(List Value->Prop)->Prop
 |[],φ=>φ []
 |s::r,φ=>s.ex λv=>Ht r λvs=>φ (v::vs)
def Y0:List Value->Value
 |[v]=>v
 |vs=> .tuple ⟨vs⟩
def iL:Value->Bool
 | .agg _=>false
 | .tuple _=>false
 |_=>true
def Ld (k:Kind) (w:θ) (a:Addr) (K:k.T->Prop):Prop:=∃x:k.T,w.cell? a=some (k.enc x)/\K x
def LdN:List Kind->θ->Addr->Nat->(List Value->Prop)->Prop
 |[],_,_,_,φ=>φ []
 |k::ks,w,a,i,φ=>Ld k w (a.add i) λx=>LdN ks w a (i+1) λvs=>φ (k.enc x::vs)
def Shape.ld:Shape->θ->Addr->(Value->Prop)->Prop
 | .one k,w,a,φ=>Ld k w a λx=>φ (k.enc x)
 | .agg ks,w,a,φ=>LdN ks w a 0 λvs=>φ (.agg ⟨vs⟩)
def Shape.cells:Shape->Nat
 | .one _=>1
 | .agg ks=>ks.length
def St (w:θ) (a:Addr) (v:Value) (K:b_):Prop:=iL v=true/\(w.cell? a).isSome=true/\w.frozen? a=false/\K (w.setCell a v)
def ig:List Value->θ->Addr->Nat->(b_)->Prop
 |[],w,_,_,K=>K w
 |v::vs,w,a,i,K=>St w (a.add i) v λw'=>ig vs w' a (i+1) K
@[reducible] def abC (w:θ):Value:= .pointer (some ⟨w.heap.size,0,none⟩)
def gW (z:List Value):Nat->List Value
 |0=>[]
 |n+1=>z++gW z n
def jA (P:Program) (t:TypeId):Option Nat:=
 match P.info? t with
 |some i=>some i.size
 |none=>none
def kT (k:IntKind) (a b:Int):Int:=k.wrap ((BitVec.ofInt k.bits a &&& BitVec.ofInt k.bits b).toNat:Int)
def orI (k:IntKind) (a b:Int):Int:=k.wrap ((BitVec.ofInt k.bits a|||BitVec.ofInt k.bits b).toNat:Int)
def UE (k:IntKind) (a b:Int):Int:=k.wrap ((BitVec.ofInt k.bits a^^^BitVec.ofInt k.bits b).toNat:Int)
def afE (k:IntKind) (a b:Int):Int:=k.wrap ((BitVec.ofInt k.bits a &&& ~~~(BitVec.ofInt k.bits b)).toNat:Int)
def Ky (k:IntKind) (a b:Int):Int:=k.wrap (a * 2^(min b.toNat k.bits))
def jy (k:IntKind) (a b:Int):Int:=a.fdiv (2^(min b.toNat k.bits))
def strEq (a b:ByteArray):Bool:=a.toList==b.toList
def strLt (a b:ByteArray):Bool:=Op.bytesLess a.toList b.toList
def Ll:IntKind->IntKind->Bool
 | .i8,.i8| .i16,.i16| .i32,.i32| .i64,.i64| .u8,.u8| .u16,.u16| .u32,.u32| .u64,.u64=>true
 |_,_=>false
def Kind.dec:(k:Kind)->Value->(k.T->Prop)->Prop
 | .int k,.int k' n,φ=>cond (Ll k k') (φ n) False
 | .bool,.bool b,φ=>φ b
 | .str,.string s,φ=>φ s
 | .ptr,.pointer a,φ=>φ a
 | .slice,.slice a l c,φ=>φ ⟨a,l,c⟩
 | .map,.map r,φ=>φ r
 | .any,v,φ=>φ v
 |_,_,_=>False
def Lm (op:BinOp) (k:IntKind) (a b:Int) (φ:Value->Prop):Prop:=
 match op with
 | .add=>φ (.int k (k.wrap (a+b)))
 | .sub=>φ (.int k (k.wrap (a - b)))
 | .mul=>φ (.int k (k.wrap (a * b)))
 | .quo=>b≠0/\φ (.int k (k.wrap (a.tdiv b)))
 | .rem=>b≠0/\φ (.int k (a.tmod b))
 | .and=>φ (.int k (kT k a b))
 | .or=>φ (.int k (orI k a b))
 | .xor=>φ (.int k (UE k a b))
 | .andNot=>φ (.int k (afE k a b))
 | .eql=>φ (.bool (a==b))
 | .neq=>φ (.bool (a !=b))
 | .lss=>φ (.bool (decide (a<b)))
 | .leq=>φ (.bool (decide (a<=b)))
 | .gtr=>φ (.bool (decide (a>b)))
 | .geq=>φ (.bool (decide (a>=b)))
 |_=>False
def Mc (op:BinOp) (a b:ByteArray) (φ:Value->Prop):Prop:=
 match op with
 | .add=>((a.size+b.size:Nat):Int)<=IntKind.i64.max/\φ (.string (a++b))
 | .eql=>φ (.bool (strEq a b))
 | .neq=>φ (.bool (!strEq a b))
 | .lss=>φ (.bool (strLt a b))
 | .leq=>φ (.bool (strLt a b||strEq a b))
 | .gtr=>φ (.bool !(strLt a b||strEq a b))
 | .geq=>φ (.bool !(strLt a b))
 |_=>False
def ajA:Value->Value->Option Bool
 | .int _ a,.int _ b=>some (a==b)
 | .bool a,.bool b=>some (a==b)
 | .string a,.string b=>some (strEq a b)
 |_,_=>none
def KR (op:BinOp) (x y:Value) (φ:Value->Prop):Prop:=
 match op,x,y with
 | .shl,.int k a,.int _ b=>0<=b/\φ (.int k (Ky k a b))
 | .shr,.int k a,.int _ b=>0<=b/\φ (.int k (jy k a b))
 |op,.int k a,.int k' b=>cond (Ll k k') (Lm op k a b φ) False
 |op,.string a,.string b=>Mc op a b φ
 |_,_,_=>False
def KA (d:TypeDesc) (x y:Value) (φ:Bool->Prop):Prop:=
 match d,x,y with
 | .bool,.bool a,.bool b=>φ (a==b)
 | .pointer _,.pointer q,.pointer none=>φ q.isNone
 | .slice _,.slice q _ _,.slice none _ _=>φ q.isNone
 | .map _ _,.map q,.map none=>φ q.isNone
 |_,_,_=>False
def WE (d:TypeDesc) (size off:Nat) (cs:List Value):Option Value:=
 cond (H6 d) (some (.agg ⟨(cs.drop off).take size⟩)) cs[off]?
def afF (b:Bool):Option Bool->Option Bool
 |some r=>some (b && r)
 |none=>none
def aeh (P:Program) (f:TypeId->Value->Value->Option Bool) (xs ys:List Value):List Field->Option Bool
 |[]=>some true
 |fd::fs=>cond (fd.name=="_") none (match P.underlying fd.type,jA P fd.type with
  |some d,some size=>match WE d size fd.offset xs,WE d size fd.offset ys with
   |some a,some b=>match f fd.type a b with
    |some r=>afF r (aeh P f xs ys fs)
    |none=>none
   |_,_=>none
  |_,_=>none)
def aei (f:Value->Value->Option Bool) (d:TypeDesc) (size:Nat) (xs ys:List Value):Nat->Nat->Option Bool
 |0,_=>some true
 |n+1,i=>match WE d size (i * size) xs,WE d size (i * size) ys with
  |some a,some b=>match f a b with
   |some r=>afF r (aei f d size xs ys n (i+1))
   |none=>none
  |_,_=>none
def E8 (P:Program):Nat->TypeId->Value->Value->Option Bool
 |0,_,_,_=>none
 |d+1,t,x,y=>match P.underlying t,x,y with
  |some .bool,.bool a,.bool b=>some (a==b)
  |some (.int _),.int k a,.int k' b=>cond (Ll k k') (some (a==b)) none
  |some .string,.string a,.string b=>some (strEq a b)
  |some (.struct fs),.agg xs,.agg ys=>cond (P.stoodInHeld t) none (aeh P (E8 P d) xs.toList ys.toList fs.toList)
  |some (.array n e),.agg xs,.agg ys=>match P.underlying e,jA P e with
   |some de,some size=>aei (E8 P d e) de size xs.toList ys.toList n 0
   |_,_=>none
  |_,_,_=>none
def H7:BinOp->Option Bool
 | .eql=>some true
 | .neq=>some false
 |_=>none
def GK (P:Program) (op:BinOp) (t:TypeId) (x y:Value) (φ:Value->Prop):Prop:=
 match x with
 | .int _ _=>KR op x y φ
 | .string _=>KR op x y φ
 | .agg _=>match H7 op,y with
  |some s,.agg _=>cond (P.eqGuardType P.depth t) False (match E8 P 16 t x y with
   |some b=>φ (.bool (cond s b (!b)))
   |none=>False)
  |_,_=>False
 |_=>match H7 op,P.underlying t with
  |some true,some d=>KA d x y λb=>φ (.bool b)
  |some false,some d=>KA d x y λb=>φ (.bool !b)
  |_,_=>False
def Ob (op:UnOp) (x:Value) (φ:Value->Prop):Prop:=
 match op,x with
 | .neg,.int k n=>φ (.int k (k.wrap (0 - n)))
 | .not,.bool b=>φ (.bool !b)
 | .xor,.int k n=>φ (.int k (UE k (if k.signed then -1 else k.max) n))
 |_,_=>False
def qM (a:fO) (m l size:Nat):fO:=if m=l then a else a.map (·.add (l * size))
def kJ (s:fU) (size:Nat) (l h:Int) (K:fU->Prop):Prop:=
 0<=l/\l<=h/\h<=(s.cap:Int)/\K ⟨qM s.a s.cap l.toNat size,h.toNat - l.toNat,s.cap - l.toNat⟩
def Rk (s:fU) (size:Nat) (l h m:Int) (K:fU->Prop):Prop:=
 0<=l/\l<=h/\h<=m/\m<=(s.cap:Int)/\K ⟨qM s.a m.toNat l.toNat size,h.toNat - l.toNat,m.toNat - l.toNat⟩
def ϰ (a:Addr) (n size:Nat) (l h:Int) (K:fU->Prop):Prop:=
 0<=l/\l<=h/\h<=(n:Int)/\K ⟨some (if n=l.toNat then a else a.add (l.toNat * size)),h.toNat - l.toNat,n - l.toNat⟩
def ϱ (s:ByteArray) (l h:Int) (K:ByteArray->Prop):Prop:=
 0<=l/\l<=h/\h<=(s.size:Int)/\K (s.extract l.toNat h.toNat)
def iF (s:fU) (size:Nat) (i:Int) (K:Addr->Prop):Prop:=
 ∃a,s.a=some a/\0<=i/\i<(s.len:Int)/\K (a.add (i.toNat * size))
def adK (s:ByteArray) (i:Int) (K:Int->Prop):Prop:=
 ∃b:UInt8,0<=i/\s[i.toNat]? =some b/\K (b.toNat:Int)
def Cells (w:θ) (a:Addr) (vs:List Value):Prop:=∀j,j<vs.length->w.cell? (a.add j)=vs[j]?
def nO (w:θ):fO->Nat->List Value->Prop
 |none,_,vs=>vs=[]
 |some a,n,vs=>vs.length=n/\Cells w a vs
def setCells (w:θ) (a:Addr):List Value->Nat->θ
 |[],_=>w
 |v::vs,i=>setCells (w.setCell (a.add i) v) a vs (i+1)
def Rl (w:θ) (a:Addr) (n:Nat):Prop:=∀j,j<n->(w.cell? (a.add j)).isSome=true/\w.frozen? (a.add j)=false
def MK (P:Program) (t:TypeId):Option Nat:=
 match P.info? t with
 |some i=>some i.bytes
 |none=>none
def VK (e:TypeId) (size bytes:Nat) (z:List Value) (s:fU) (n:Nat) (vs:List Value) (w:θ) (K:fU->b_):Prop:=
 (s.len+n<=s.cap/\(∀a,s.a=some a->Rl w (a.add (s.len * size)) vs.length)/\(∀v∈vs,iL v=true)/\
  K ⟨s.a,s.len+n,s.cap⟩ (match s.a with|some a=>setCells w (a.add (s.len * size)) vs 0|none=>w))\/
 (s.cap<s.len+n/\(s.len+n) * bytes<=2^46/\s.len+n<=2^62/\∃old,nO w s.a (s.len * size) old/\
  ∀c,s.len+n<=c->c<2^63->K ⟨some ⟨w.heap.size,0,none⟩,s.len+n,c⟩ (w.drew.alloc (.cells ⟨old++vs++gW z (c - (s.len+n))⟩ e)))
def mW (e:TypeId) (size bytes:Nat) (z:List Value) (s x:fU) (w:θ) (K:fU->b_):Prop:=
 ∃vs,nO w x.a (x.len * size) vs/\VK e size bytes z s x.len vs w K
def byteCells (s:ByteArray):List Value:=s.data.toList.map λb=> .int .u8 b.toNat
def ahr (e:TypeId) (size bytes:Nat) (z:List Value) (s:fU) (x:ByteArray) (w:θ) (K:fU->b_):Prop:=
 VK e size bytes z s x.size (byteCells x) w K
def VJ (e:TypeId) (size bytes:Nat) (z:List Value) (s:fU) (n:Int) (w:θ) (K:fU->b_):Prop:=
 0<=n/\n * bytes<=2^46/\n<=2^62/\VK e size bytes z s n.toNat (gW z n.toNat) w K
def I7 (z:List Value) (s:fU) (w:θ) (K:b_):Prop:=
 (∀a,s.a=some a->Rl w a (s.len * z.length))/\(∀v∈z,iL v=true)/\K (match s.a with|some a=>setCells w a (gW z s.len) 0|none=>w)
def Ac (size:Nat) (d s:fU) (w:θ) (K:Int->b_):Prop:=
 ∃vs,nO w s.a (Nat.min s.len d.len * size) vs/\(∀a,d.a=some a->Rl w a vs.length)/\(∀v∈vs,iL v=true)/\
  K (Nat.min s.len d.len:Nat) (match d.a with|some a=>setCells w a vs 0|none=>w)
def Y6 (e:TypeId) (size bytes:Nat) (z:List Value) (n c:Int) (w:θ) (K:fU->b_):Prop:=
 0<=n/\n<=c/\c<=2^62/\(bytes:Int) * c<=2^48/\
  K ⟨some ⟨w.heap.size,0,none⟩,n.toNat,c.toNat⟩ (w.alloc (.cells ⟨gW z c.toNat⟩ e))
def partOf (d:TypeDesc) (size off:Nat) (cs:List Value) (φ:Value->Prop):Prop:=
 cond (H6 d) (φ (.agg ⟨(cs.drop off).take size⟩))
  (match cs[off]? with
   |some v=>φ v
   |none=>False)
def cellsOfV:Value->List Value
 | .agg cs=>cs.toList
 |v=>[v]
def splice (cs:List Value) (off:Nat) (vs:List Value):List Value:=cs.take off++(vs++cs.drop (off+vs.length))
def Hw (place:Nat->Option (Nat×Nat)):List (Nat×Value)->List Value->Option (List Value)
 |[],cs=>some cs
 |(i,v)::r,cs=>match place i with
  |some (off,size)=>cond (Nat.beq (cellsOfV v).length size && Nat.ble (off+size) cs.length) (Hw place r (splice cs off (cellsOfV v))) none
  |none=>none
def Zv:List (Nat×Value)->List Value->Option (List Value)
 |[],cs=>some cs
 |(i,v)::r,cs=>cond (Nat.blt i cs.length) (Zv r (cs.set i v)) none
def Og:List Value->Prop
 |[]=>True
 |v::r=>iL v=true/\Og r
def adQ:Option Shape->Bool
 |some (.one .any)=>true
 |_=>false
def qE (P:Program) (t:TypeId):Option (List Value):=
 match P.info? t with
 |some i=>match i.zero with
  |some z=>some (cellsOfV z)
  |none=>none
 |none=>none
def placesOf (P:Program):List Field->Option (List (Nat×Nat))
 |[]=>some []
 |f::r=>match jA P f.type,placesOf P r with
  |some s,some l=>some ((f.offset,s)::l)
  |_,_=>none
def Hu (P:Program) (fs:Array Field) (i:Nat):Option (Nat×Nat):=
 match fs.toList[i]? with
 |some f=>match jA P f.type with
  |some s=>some (f.offset,s)
  |none=>none
 |none=>none
def oq (P:Program) (f:FuncId):Bool:=
 match P.funcs[f]? with
 |some fn=>fn.body.isSome
 |none=>false
def aht (P:Program) (f:FuncId) (args:List Value) (w:θ) (K:Value->b_):Prop:=
 ∃v w',(callFunc f ⟨args⟩).run P w= .ok (.value v) w'/\K v w'
def Gw (P:Program) (sh:List Shape) (f:FuncId) (args:List Value) (w:θ) (K:Value->b_):Prop:=
 Calls P f ⟨args⟩ w λe w'=>Ht sh λvs=>e= .returned (Y0 vs)/\K (Y0 vs) w'
def KQ (P:Program) (l:Nat) (args:List Value) (w:θ) (K:Bool->b_):Prop:=
 YieldAt Fence.wide 0 P l ⟨args⟩ w λe w'=>∃b:Bool,e= .returned (.bool b)/\K b w'
def jB (P:Program) (sh:List Shape) (v:Value) (args:List Value) (w:θ) (K:Value->b_):Prop:=
 match v with
 | .func (.func f) first cap=>cond (oq P f) (Gw P sh f (first.toList++(args++cap.toList)) w K) False
 | .func (.yield l) first _=>KQ P l (first.toList++args) w λb w'=>K (.bool b) w'
 |_=>False
def W_ (w:θ) (r:Option Nat) (φ:Int->Prop):Prop:=
 match r with
 |none=>φ 0
 |some b=>∃es clock,w.heap[b]? =some (.map es clock)/\φ (es.size:Int)
def OH (d:TypeDesc) (x:Value) (w:θ) (φ:Int->Prop):Prop:=
 match d,x with
 | .string,.string s=>φ (s.size:Int)
 | .array n _,_=>φ (n:Int)
 | .slice _,.slice _ n _=>φ (n:Int)
 | .map _ _,.map r=>W_ w r φ
 |_,_=>False
def Fa (mx:Bool):Int->List Value->IntKind->(Value->Prop)->Prop
 |x,[],k,φ=>φ (.int k x)
 |x,.int _ y::r,k,φ=>Fa mx (cond mx (if y>x then y else x) (if y<x then y else x)) r k φ
 |_,_::_,_,_=>False
def fU.v (s:fU):Value:= .slice s.a s.len s.cap
def aeQ:Value->Bool
 | .int _ _=>true
 | .bool _=>true
 | .string _=>true
 |_=>false
def YC:Value->Bool
 | .agg cs=>cs.toList.all aeQ
 |v=>aeQ v
def tZ (P:Program) (kt:TypeId) (key:Value):List MapEntry->Nat->Option (Option (Nat×Value))
 |[],_=>some none
 |e::es,i=>match E8 P 16 kt key e.key with
  |some true=>some (some (i,e.val))
  |some false=>tZ P kt key es (i+1)
  |none=>none
def oz (P:Program) (kt:TypeId) (key:Value):Bool:=YC key && (E8 P 16 kt key key).isSome
def rP (P:Program) (kt:TypeId) (k:Kind) (r:Option Nat) (key zero:Value) (w:θ) (K:k.T->Prop):Prop:=
 oz P kt key=true/\((r=none/\k.dec zero K)\/∃b es clock,r=some b/\w.heap[b]? =some (.map es clock)/\∃res,tZ P kt key es.toList 0=some res/\k.dec (match res with|some (_,v)=>v|none=>zero) K)
def I8 (P:Program) (kt:TypeId) (r:Option Nat) (key zero:Value) (w:θ) (K:Value->Bool->Prop):Prop:=
 oz P kt key=true/\((r=none/\K zero false)\/∃b es clock,r=some b/\w.heap[b]? =some (.map es clock)/\∃res,tZ P kt key es.toList 0=some res/\
  match res with|some (_,v)=>K v true|none=>K zero false)
def oP (P:Program) (kt:TypeId) (r:Option Nat) (key val:Value) (w:θ) (K:b_):Prop:=
 oz P kt key=true/\∃b es clock,r=some b/\w.heap[b]? =some (.map es clock)/\∃res,tZ P kt key es.toList 0=some res/\
  match res with
  |some (i,_)=>(∃e,es[i]? =some e/\e.key=key)/\K (w.putObj b (.map (es.modify i λe=>{e with key:=key,val:=val}) clock))
  |none=>K (w.putObj b (.map (es.push {key:=key,val:=val,born:=clock}) (clock+1)))
def Gy (P:Program) (kt:TypeId) (r:Option Nat) (key:Value) (w:θ) (K:b_):Prop:=
 oz P kt key=true/\((r=none/\K w)\/∃b es clock,r=some b/\w.heap[b]? =some (.map es clock)/\∃res,tZ P kt key es.toList 0=some res/\
  match res with
  |some (i,_)=>K (w.putObj b (.map (es.eraseIdxIfInBounds i) clock))
  |none=>K (w.putObj b (.map es clock)))
def adC (P:Program) (kt:TypeId) (r:Option Nat) (key zero:Value) (w:θ) (K:Value->Int->b_):Prop:=
 oz P kt key=true/\∃b es clock,r=some b/\w.heap[b]? =some (.map es clock)/\∃res,tZ P kt key es.toList 0=some res/\
  match res with
  |some (i,v)=>∃e,es[i]? =some e/\e.key=key/\K v (e.born:Int) (w.putObj b (.map (es.modify i λe=>{e with key:=key}) clock))
  |none=>K zero (clock:Int) (w.putObj b (.map (es.push {key:=key,val:=zero,born:=clock}) (clock+1)))
def ahc (r:Option Nat) (stamp:Int) (val:Value) (w:θ) (K:b_):Prop:=
 ∃b es clock i,r=some b/\w.heap[b]? =some (.map es clock)/\es.findIdx? (λe=>(e.born:Int)==stamp)=some i/\K (w.putObj b (.map (es.modify i λe=>{e with val:=val}) clock))
def ahC (r:Option Nat) (w:θ) (K:Addr->b_):Prop:=
 (r=none/\K ⟨w.heap.size,0,none⟩ (w.alloc (.mapIter none 0 #[] 0)))\/
 ∃b es clock,r=some b/\w.heap[b]? =some (.map es clock)/\K ⟨w.heap.size,0,none⟩ (w.alloc (.mapIter (some b) clock #[] clock))
def aiK (q:Nat) (w:θ) (Kend:b_) (Kstep:Value->Value->b_):Prop:=
 (∃s sn c,w.heap[q]? =some (.mapIter none s sn c)/\Kend w)\/
 ∃b since seen c0 es clock,w.heap[q]? =some (.mapIter (some b) since seen c0)/\w.heap[b]? =some (.map es clock)/\(∀x∈es.toList,x.born<since)/\since<=c0/\
  ((leftOf es seen).size=0->Kend w)/\
  ∀e∈(leftOf es seen).toList,∀w1,(w1=w\/w1=w.drew)->Kstep e.key e.val (w1.putObj q (.mapIter (some b) since (seen.push e.born) clock))
def ahs (q:Nat) (w:θ) (K:Value->Value->Prop):Prop:=
 ∃b since seen es clock e,w.heap[q]? =some (.mapIter (some b) since (Array.push seen e.born) clock)/\w.heap[b]? =some (.map es clock)/\e∈es.toList/\(es.toList.map (·.born)).Nodup/\K e.key e.val
def DN (P:Program) (t:TypeId):Option Value:=
 match P.info? t with
 |some i=>i.zero
 |none=>none
def pV (P:Program) (b:Builtin) (ts:List TypeId) (args:List Value) (w:θ) (K:Value->b_):Prop:=
 match b,ts,args with
 | .len,[t],[x]=>match P.underlying t with
  |some d=>OH d x w λn=>K (.int .i64 n) w
  |none=>False
 | .cap,[t],[.slice _ _ c]=>match P.underlying t with
  |some (.slice _)=>K (.int .i64 (c:Int)) w
  |_=>False
 | .max,_,.int k x::r=>Fa true x r k λv=>K v w
 | .min,_,.int k x::r=>Fa false x r k λv=>K v w
 | .append,[t,t'],[.slice a l c,x]=>match P.underlying t,P.underlying t' with
  |some (.slice e),some d=>match jA P e,MK P e,qE P e,d,x with
   |some size,some bytes,some z,.slice _,.slice b n m=>mW e size bytes z ⟨a,l,c⟩ ⟨b,n,m⟩ w λs w'=>K s.v w'
   |some size,some bytes,some z,.string,.string s=>ahr e size bytes z ⟨a,l,c⟩ s w λs w'=>K s.v w'
   |some size,some bytes,some z,.int _,.int _ n=>cond (Nat.beq z.length size) (VJ e size bytes z ⟨a,l,c⟩ n w λs w'=>K s.v w') False
   |_,_,_,_,_=>False
  |_,_=>False
 | .copy,[t,_],[.slice a l c,.slice b n m]=>match P.underlying t with
  |some (.slice e)=>match jA P e with
   |some size=>Ac size ⟨a,l,c⟩ ⟨b,n,m⟩ w λn w'=>K (.int .i64 n) w'
   |none=>False
  |_=>False
 | .clear,[t],[.slice a n c]=>match P.underlying t with
  |some (.slice e)=>match jA P e,qE P e with
   |some size,some z=>cond (Nat.beq z.length size) (I7 z ⟨a,n,c⟩ w λw'=>K (.tuple #[]) w') False
   |_,_=>False
  |_=>False
 | .delete,[t,_],[.map r,key]=>match P.underlying t with
  |some (.map kt _)=>Gy P kt r key w λw'=>K (.tuple #[]) w'
  |_=>False
 |_,_,_=>False
def yH (ρ:Operand->Value) (x:Option Operand) (dflt:Int) (φ:Int->Prop):Prop:=
 match x with
 |none=>φ dflt
 |some o=>match ρ o with
  | .int _ n=>φ n
  |_=>False
def IY (P:Program) (t:TypeId) (x:Value) (ρ:Operand->Value) (lo hi mx:Option Operand) (φ:Value->Prop):Prop:=
 match P.underlying t,x with
 |some .string,.string s=>match mx with
  |none=>yH ρ lo 0 λl=>yH ρ hi (s.size:Int) λh=>ϱ s l h λs'=>φ (.string s')
  |some _=>False
 |some (.slice e),.slice a n c=>match jA P e with
  |some size=>match mx with
   |none=>yH ρ lo 0 λl=>yH ρ hi (n:Int) λh=>kJ ⟨a,n,c⟩ size l h λs'=>φ s'.v
   |some m=>match hi with
    |some _=>yH ρ lo 0 λl=>yH ρ hi 0 λh=>yH ρ (some m) 0 λm'=>Rk ⟨a,n,c⟩ size l h m' λs'=>φ s'.v
    |none=>False
  |none=>False
 |some (.array n e),.pointer (some a)=>match jA P e with
  |some size=>match mx with
   |none=>yH ρ lo 0 λl=>yH ρ hi (n:Int) λh=>ϰ a n size l h λs'=>φ s'.v
   |some _=>False
  |none=>False
 |_,_=>False
def QH (P:Program) (s d:TypeId) (x:Value) (φ:Value->Prop):Prop:=
 match P.underlying s,P.underlying d,x with
 |some _,some (.int k),.int _ n=>φ (.int k (k.wrap n))
 |some _,some .string,.string b=>φ (.string b)
 |_,_,_=>False
def Gv (w:θ) (s:fU) (K:ByteArray->Prop):Prop:=
 ∃b:ByteArray,b.size=s.len/\nO w s.a s.len (byteCells b)/\K b
def adJ (e:TypeId) (s:ByteArray) (w:θ) (K:fU->b_):Prop:=
 s.size<=2^62/\∀c,s.size<=c->c<2^63->K ⟨some ⟨w.heap.size,0,none⟩,s.size,c⟩ (w.drew.alloc (.cells ⟨byteCells s++gW [.int .u8 0] (c - s.size)⟩ e (c,c+1)))
def ahw (a:Addr) (w:θ) (K:b_):Prop:=∃T n,w.shape? a.block=some (T,n)/\K (w.freeze ⟨a.block,n,none⟩ 1)
def X0 (P:Program) (t:TypeId) (name:String):Option FuncId:=
 match P.info? t with
 |some i=>match i.methods.find? (·.name==name) with
  |some m=>match m.path.toList,m.func with
   |[],some (f,false)=>some f
   |_,_=>none
  |none=>none
 |none=>none
def XM:TypeDesc->Bool
 | .pointer _=>true
 |_=>false
def ahu (P:Program) (sh:List Shape) (x:Value) (name:String) (args:List Value) (w:θ) (K:Value->b_):Prop:=
 match x with
 | .iface t v=>match P.underlying t,X0 P t name with
  |some d,some f=>cond (!XM d && oq P f) (Gw P sh f (v::args) w K) False
  |_,_=>False
 |_=>False
def FQ (P:Program) (op:BinOp) (t:TypeId) (x y:Value) (φ:Value->Prop):Prop:=
 match H7 op,P.underlying t,x,y with
 |some s,some (.interface _),.nilIface,.nilIface=>φ (.bool s)
 |some s,some (.interface _),.iface _ _,.nilIface=>φ (.bool (!s))
 |_,_,_,_=>False
def AsP (z:Value) (t:TypeId) (x:Value) (ok:Bool) (K:Value->Prop):Prop:=
 match x with
 | .iface t' v=>cond (Nat.beq t' t) (K (cond ok (.tuple ⟨[v,.bool true]⟩) v)) (cond ok (K (.tuple ⟨[z,.bool false]⟩)) False)
 | .nilIface=>cond ok (K (.tuple ⟨[z,.bool false]⟩)) False
 |_=>False
def yG (P:Program) (o:Oper) (ρ:Operand->Value) (w:θ) (K:Value->b_):Prop:=
 match o.op with
 | .move x=>K (ρ x) w
 | .assign x=>K (ρ x) w
 | .pick c a b=>match ρ c with
  | .bool t=>cond t (K (ρ a) w) (K (ρ b) w)
  |_=>False
 | .alloc e=>match qE P e with
  |some z=>K (abC w) (w.alloc (.cells ⟨z⟩ e))
  |none=>False
 | .box e x=>match shapeOf P e with
  |some (.one _)=>iL (ρ x)=true/\K (abC w) (w.alloc (.cells ⟨[ρ x]⟩ e))
  |some (.agg _)=>match ρ x with
   | .agg cs=>K (abC w) (w.alloc (.cells cs e))
   |_=>False
  |none=>False
 | .build t ps=>match qE P t,P.underlying t with
  |some z,some (.struct fs)=>match placesOf P fs.toList with
   |some pl=>match Hw (λi=>pl[i]?) (ps.toList.map λp=>(p.1,ρ p.2)) z with
    |some cs=>K (.agg ⟨cs⟩) w
    |none=>False
   |none=>False
  |some z,some (.array _ e)=>match jA P e with
   |some size=>match Hw (λi=>some (i * size,size)) (ps.toList.map λp=>(p.1,ρ p.2)) z with
    |some cs=>K (.agg ⟨cs⟩) w
    |none=>False
   |none=>False
  |_,_=>False
 | .buildSlice t n ps=>match P.underlying t with
  |some (.slice e)=>match jA P e,qE P e with
   |some size,some z=>cond (Nat.ble (n * size) 4096 && Nat.beq z.length size)
    (cond (adQ (shapeOf P e)) (cond (Nat.beq size 1) (Og (ps.toList.map λp=>ρ p.2)/\(match Zv (ps.toList.map λp=>(p.1,ρ p.2)) (gW z n) with
     |some cs=>K (.slice (some ⟨w.heap.size,0,none⟩) n n) (w.alloc (.cells ⟨cs⟩ e))
     |none=>False)) False)
     (match Hw (λi=>some (i * size,size)) (ps.toList.map λp=>(p.1,ρ p.2)) (gW z n) with
     |some cs=>K (.slice (some ⟨w.heap.size,0,none⟩) n n) (w.alloc (.cells ⟨cs⟩ e))
     |none=>False)) False
   |_,_=>False
  |_=>False
 | .load t x=>match ρ x,shapeOf P t,jA P t with
  | .pointer (some a),some sh,some n=>cond (Nat.beq sh.cells n) (sh.ld w a λv=>K v w) False
  |_,_,_=>False
 | .store t x y=>match ρ x,shapeOf P t,jA P t with
  | .pointer (some a),some (.one _),some n=>cond (Nat.beq n 1) (St w a (ρ y) λw'=>K undef w') False
  | .pointer (some a),some (.agg _),some n=>match ρ y with
   | .agg cs=>cond (Nat.beq cs.toList.length n) (ig cs.toList w a 0 λw'=>K undef w') False
   |_=>False
  |_,_,_=>False
 | .nilCheck x=>match ρ x with
  | .pointer q=>∃a,q=some a/\K (.pointer (some a)) w
  |_=>False
 | .binOp op t x y _=>match y with
  | .const .nilIface=>FQ P op t (ρ x) (ρ (.const .nilIface)) λv=>K v w
  |y=>GK P op t (ρ x) (ρ y) λv=>K v w
 | .unOp op _ x=>Ob op (ρ x) λv=>K v w
 | .convert s d x=>match P.underlying s,P.underlying d,ρ x with
  |some (.slice e),some .string,.slice a n c=>match P.underlying e with
   |some (.int .u8)=>Gv w ⟨a,n,c⟩ λb=>K (.string b) w
   |_=>False
  |some .string,some (.slice e),.string b=>match P.underlying e with
   |some (.int .u8)=>adJ e b w λs' w'=>K s'.v w'
   |_=>False
  |some (.slice _),some (.slice e),.slice (some a) n c=>match P.underlying e,Nat.beq s d with
   |some (.int .u8),true=>ahw a w λw'=>K (.slice (some a) n c) w'
   |_,_=>False
  |_,_,v=>QH P s d v λv=>K v w
 | .makeFunc fn first cap=>K (.func fn ⟨first.toList.map ρ⟩ ⟨cap.toList.map ρ⟩) w
 | .lookup t x i false=>match P.underlying t,ρ x with
  |some (.map kt et),.map r=>match shapeOf P et,DN P et with
   |some (.one k),some z=>rP P kt k r (ρ i) z w λx=>K (k.enc x) w
   |some (.agg ks),some z=>I8 P kt r (ρ i) z w λv _=>(Shape.agg ks).ex λv'=>v=v'/\K v' w
   |_,_=>False
  |_,_=>False
 | .lookup t x i true=>match P.underlying t,ρ x with
  |some (.map kt et),.map r=>match shapeOf P et,DN P et with
   |some sh,some z=>I8 P kt r (ρ i) z w λv b=>sh.ex λv'=>v=v'/\K (.tuple ⟨[v',.bool b]⟩) w
   |_,_=>False
  |_,_=>False
 | .mapUpdate t x i v=>match P.underlying t,ρ x with
  |some (.map kt _),.map r=>oP P kt r (ρ i) (ρ v) w λw'=>K undef w'
  |_,_=>False
 | .insert t x i v=>match P.underlying t,ρ x with
  |some (.map kt _),.map r=>oP P kt r (ρ i) (ρ v) w λw'=>K undef w'
  |_,_=>False
 | .mapEntry t x i=>match P.underlying t,ρ x with
  |some (.map kt et),.map r=>match DN P et with
   |some z=>adC P kt r (ρ i) z w λv n w'=>K (.tuple ⟨[v,.int .i64 n]⟩) w'
   |none=>False
  |_,_=>False
 | .entryStore _ x st v=>match ρ x,ρ st with
  | .map r,.int _ n=>ahc r n (ρ v) w λw'=>K undef w'
  |_,_=>False
 | .makeMap _ none=>K (.map (some w.heap.size)) (w.alloc (.map #[] 0))
 | .makeSlice t l c=>match P.underlying t,ρ l,ρ c with
  |some (.slice e),.int _ n,.int _ m=>match jA P e,MK P e,qE P e with
   |some size,some bytes,some z=>cond (Nat.beq z.length size) (Y6 e size bytes z n m w λs w'=>K s.v w') False
   |_,_,_=>False
  |_,_,_=>False
 | .slice t x lo hi mx=>IY P t (ρ x) ρ lo hi mx λv=>K v w
 | .fieldAddr t x f=>match P.underlying t,ρ x with
  |some (.struct fs),.pointer (some a)=>match Hu P fs f with
   |some (off,size)=>cond (Nat.beq size 0) False (K (.pointer (some (a.add off))) w)
   |none=>False
  |_,_=>False
 | .field t x f=>match P.underlying t,ρ x with
  |some (.struct fs),.agg cs=>match fs.toList[f]? with
   |some fd=>match P.underlying fd.type,jA P fd.type with
    |some d,some size=>partOf d size fd.offset cs.toList λv=>K v w
    |_,_=>False
   |none=>False
  |_,_=>False
 | .indexAddr t x i=>match P.underlying t,ρ x,ρ i with
  |some (.slice e),.slice a n c,.int _ i=>match jA P e with
   |some size=>iF ⟨a,n,c⟩ size i λa'=>K (.pointer (some a')) w
   |none=>False
  |some (.array n e),.pointer (some a),.int _ i=>match jA P e with
   |some size=>0<=i/\i<(n:Int)/\K (.pointer (some (a.add (i.toNat * size)))) w
   |none=>False
  |_,_,_=>False
 | .index t x i=>match P.underlying t,ρ x,ρ i with
  |some .string,.string s,.int _ i=>adK s i λn=>K (.int .u8 n) w
  |some (.array n e),.agg cs,.int _ i=>match P.underlying e,jA P e with
   |some d,some size=>0<=i/\i<(n:Int)/\partOf d size (i.toNat * size) cs.toList λv=>K v w
   |_,_=>False
  |_,_,_=>False
 | .extract t i=>match ρ t with
  | .tuple vs=>match vs.toList[i]? with
   |some v=>match shapeOf P o.type with
    |some (.one k)=>k.dec v λx=>K (k.enc x) w
    |_=>K v w
   |none=>False
  |_=>False
 | .range t x=>match P.underlying t,ρ x with
  |some (.map _ _),.map r=>ahC r w λa w'=>K (.pointer (some a)) w'
  |_,_=>False
 | .next x false=>match ρ x with
  | .pointer (some a)=>a=⟨a.block,0,none⟩/\aiK a.block w (K (.tuple ⟨[.bool false]⟩)) λk v w'=>K (.tuple ⟨[.bool true,k,v]⟩) w'
  |_=>False
 | .entry x=>match ρ x with
  | .pointer (some a)=>a=⟨a.block,0,none⟩/\ahs a.block w λk v=>K (.tuple ⟨[k,v]⟩) w
  |_=>False
 | .makeInterface t x=>match P.underlying t with
  |some (.interface _)=>False
  |some _=>K (.iface t (ρ x)) w
  |none=>False
 | .typeAssert x _ t ok=>match P.underlying t,DN P t with
  |some (.interface _),_=>False
  |some _,some z=>AsP z t (ρ x) ok λv=>K v w
  |_,_=>False
 | .call c=>match c.callee with
  | .value (.func f)=>match Pj P o.type with
   |some sh=>cond (oq P f) (Gw P sh f (c.args.toList.map ρ) w K) (aht P f (c.args.toList.map ρ) w λr w'=>Ht sh λvs=>r=Y0 vs/\K (Y0 vs) w')
   |none=>False
  | .value x=>match Pj P o.type with
   |some sh=>jB P sh (ρ x) (c.args.toList.map ρ) w λr w'=>Ht sh λvs=>r=Y0 vs/\K (Y0 vs) w'
   |none=>False
  | .builtin b=>pV P b c.argTypes.toList (c.args.toList.map ρ) w K
  | .invoke x name=>match Pj P o.type with
   |some sh=>ahu P sh (ρ x) name (c.args.toList.map ρ) w K
   |none=>False
 |_=>False
abbrev Env:=List (Nat×Value)
def Env.get:Env->Nat->Option Value
 |[],_=>none
 |(s,v)::r,t=>cond (Nat.beq s t) (some v) (Env.get r t)
def Env.put (env:Env) (d:Option Nat) (v:Value):Env:=
 match d with
 |some s=>(s,v)::env
 |none=>env
def evO (env:Env):Operand->Option Value
 | .tmp t=>env.get t
 | .const v=>some v
 | .global g=>some (.pointer (some ⟨g,0,none⟩))
 | .func f=>some (.func (.func f) #[] #[])
def ev (env:Env) (x:Operand):Value:=(evO env x).getD undef
def acv (env:Env):List Operand->Bool
 |[]=>true
 |x::r=>(evO env x).isSome && acv env r
def tY (nt:Nat):Option Nat->Bool
 |some d=>Nat.blt d nt
 |none=>true
def split (g:Bool) (v:Value) (K:Value->Prop):Prop:=
 cond g (match v with| .bool b=>cond b (K (.bool true)) (K (.bool false))|v=>K v) (K v)
def xX (P:Program) (nt:Nat) (o:Oper) (g:Bool) (env:Env) (w:θ) (K:Env->b_):Prop:=
 cond (acv env o.op.operands.toList && tY nt o.dst)
  (yG P o (ev env) w λv w'=>split g v λv'=>K (env.put o.dst v') w') False
def tV (P:Program) (nt:Nat) (ops:List Oper) (o:Oper) (g:Bool) (env:Env) (w:θ) (K:Env->b_):Prop:=
 match o.guard with
 |none=>xX P nt o g env w K
 |some (j,want)=>match (ops[j]?).bind (·.dst) with
  |some s=>match env.get s with
   |some (.bool t)=>cond (t==want) (xX P nt o g env w K) (cond (tY nt o.dst) (K (env.put o.dst undef) w) False)
   |some (.tuple _)=>cond (tY nt o.dst) (K (env.put o.dst undef) w) False
   |_=>False
  |none=>False
def XL (ops:List Oper) (i:Nat):Bool:=
 ops.any λo=>match o.guard with
  |some (j,_)=>Nat.beq j i
  |none=>false
def aaS (P:Program) (nt:Nat) (ops:List Oper):Nat->List Oper->Env->θ->(Env->b_)->Prop
 |_,[],env,w,K=>K env w
 |i,o::r,env,w,K=>tV P nt ops o (XL ops i) env w λenv' w'=>aaS P nt ops (i+1) r env' w' K
end Gp
end
section
namespace Gp
open Go
def Ran (P:Program) (K:Value->b_):Result Next->Prop
 | .ok (.value v) w=>K v w
 | .ok .skip w=>K undef w
 | .ok (.enter f args) w=>Calls P f args w λe w'=>∃v,e= .returned v/\K v w'
 | .ok (.round l f tmps assign body) w=>RoundIn Fence.wide 0 P l f tmps assign body w λe w'=>∃v,e= .returned v/\K v w'
 |_=>False
theorem Ran.mono {P:Program} {K K':Value->b_} (h:∀v w,K v w->K' v w) {r:Result Next} (hr:Ran P K r):Ran P K' r:=by
 cases r with
 |ok x w=>
  cases x<;>simp only[Ran] at hr ⊢<;>first
   |exact h _ _ hr
   |exact Calls.mono hr λe w' ⟨v,hv,hk⟩=>⟨v,hv,h _ _ hk⟩
   |exact RoundIn.mono hr λe w' ⟨v,hv,hk⟩=>⟨v,hv,h _ _ hk⟩
 |halt x w=>exact hr.elim
structure VO (P:Program):Prop where
 enter:∀(f:FuncId) (fn:Func),P.funcs[f]? =some fn->fn.body.isSome=true->(fn.name=="runtime.NumGoroutine")=false
 mixed:P.follows .mixedOrders=true
section
variable {P:Program} {w:θ}
theorem run_underlying {t:TypeId} {d:TypeDesc} (h:P.underlying t=some d):(underlying t).run P w= .ok d w:=by
 simp[underlying,h]
theorem run_typeInfo {t:TypeId} {i:TypeInfo} (h:P.info? t=some i):(typeInfo t).run P w= .ok i w:=by
 simp[typeInfo,h]
theorem jD {t:TypeId} {n:Nat} (h:jA P t=some n):(Go.sizeOf t).run P w= .ok n w:=by
 unfold jA at h;split at h
 ·rename_i i hi;simp only[afM] at h;simp[Go.sizeOf,run_typeInfo hi,h]
 ·cases h
theorem tN {t:TypeId} {n:Nat} (h:jA P t=some n):∃i,P.info? t=some i/\i.size=n:=by
 unfold jA at h;split at h
 ·rename_i i hi;exact⟨i,hi,by simpa using h⟩
 ·cases h
theorem xE {t:TypeId} {n:Nat} (h:MK P t=some n):∃i,P.info? t=some i/\i.bytes=n:=by
 unfold MK at h;split at h
 ·rename_i i hi;exact⟨i,hi,by simpa using h⟩
 ·cases h
theorem PD (v:Value):cellsOfV v=v.cells.toList:=by cases v<;>rfl
theorem nX {t:TypeId} {z:List Value} (h:qE P t=some z):∃i v,P.info? t=some i/\i.zero=some v/\v.cells.toList=z:=by
 unfold qE at h;split at h
 ·rename_i i hi;split at h
  ·rename_i v hv;exact⟨i,v,hi,hv,by rw[<- PD];simpa using h⟩
  ·cases h
 ·cases h
theorem wM {t:TypeId} {z:List Value} (h:qE P t=some z):∃v,(zeroValue t).run P w= .ok v w/\v.cells=⟨z⟩:=by
 obtain⟨i,v,hi,hv,hz⟩:=nX h;exact⟨v,by simp[zeroValue,run_typeInfo hi,hv],by rw[<- hz]⟩
theorem Jl {t:TypeId} {d:TypeDesc} (h:P.underlying t=some d):(isAgg t).run P w= .ok (H6 d) w:=by
 simp only[isAgg,Sem.run_bind,run_underlying h,Result.andThen_ok]
 cases d<;>rfl
theorem acL (v:Value):iL v=v.oneCell':=by cases v<;>rfl
theorem PW {v:Value} (h:iL v=true):v.cells= #[v]:=by cases v<;>first|rfl|(simp[iL] at h)
theorem add_zero' (a:Addr):a.add 0=a:=by simp[Addr.add]
theorem add_add (a:Addr) (i j:Nat) (h:i=0->a.spot=none\/j=0\/True):(a.add i).add j=a.add (i+j):=by
 unfold Addr.add;by_cases hi:i=0
 ·simp[hi]
 ·by_cases hj:j=0
  ·simp[hi,hj]
  ·simp[hi,hj,akr]
theorem ab5 {a:Addr}:∀(ks:List Kind) (i:Nat) (φ:List Value->Prop),LdN ks w a i φ->
  ∃vs,vs.length=ks.length/\(∀j v,vs[j]? =some v->w.cell? (a.add (i+j))=some v)/\φ vs:=by
 intro ks
 induction ks with
 |nil=>exact λi φ h=>⟨[],rfl,by simp,h⟩
 |cons k ks ih=>
  rintro i φ ⟨x,hx,h⟩;obtain⟨vs,hl,hc,hφ⟩:=ih (i+1) _ h;refine⟨k.enc x::vs,by simp[hl],λj v hj=> ?_,hφ⟩
  cases j with
  |zero=>simp at hj;subst hj;simpa using hx
  |succ j=>rw[show i+(j+1)=i+1+j by omega];exact hc j v (by simpa using hj)
theorem P8 {t:TypeId} {sh:Shape} {n:Nat} {a:Addr} {φ:Value->Prop} (hs:shapeOf P t=some sh) (hn:jA P t=some n) (hc:sh.cells=n)
  (h:sh.ld w a φ):∃v,(loadVar t a).run P w= .ok v w/\φ v:=by
 unfold shapeOf at hs
 cases hd:P.underlying t with
 |none=>simp[hd] at hs
 |some d=>
  simp only[hd] at hs
  cases hg:H6 d with
  |false=>
   simp only[hg,Β] at hs
   cases hk:kindOf d with
   |none=>simp[hk] at hs
   |some k=>
    simp only[hk,afM] at hs;subst hs;obtain⟨x,hx,h⟩:=h;exact⟨k.enc x,by simp[loadVar,Jl hd,hg,hx],h⟩
  |true=>
   simp only[hg,Δ] at hs
   cases hk:Jd P 20 t with
   |none=>simp[hk] at hs
   |some ks=>
    simp only[hk,afM] at hs;subst hs;obtain⟨vs,hl,u,hφ⟩:=ab5 ks 0 _ h;refine⟨.agg ⟨vs⟩,?_,hφ⟩;have hlen:vs.length=n:=by rw[hl];exact hc
    have:=run_loadCells_list (P:=P) (w:=w) a vs (λj v hj=>by simpa using u j v hj);simp only[loadVar,Sem.run_bind,Jl hd,hg,Result.andThen_ok,ahN,jD hn];rw[<- hlen,this];rfl
theorem ϯ {a:Addr} {v:Value} {K:b_} (h:St w a v K):(store a v).run P w= .ok () (w.setCell a v)/\K (w.setCell a v):=by
 obtain⟨h1,h2,h3,h4⟩:=h;refine⟨?_,h4⟩;rw[run_store P w a v .plain (by rw[<- acL];exact h1)]
 cases hc:w.cell? a with
 |none=>simp[hc] at h2
 |some u=>simp[h3]
theorem afA {a:Addr} {K:b_}:∀(vs:List Value) (w:θ) (i:Nat),ig vs w a i K->∃w',(storeCells a vs i).run P w= .ok () w'/\K w':=by
 intro vs
 induction vs with
 |nil=>exact λw i h=>⟨w,rfl,h⟩
 |cons v vs ih=>
  intro w i h;obtain⟨h1,h2⟩:=ϯ (P:=P) h;obtain⟨w',h3,h4⟩:=ih _ _ h2;exact⟨w',by simp[storeCells,h1,h3],h4⟩
end
end Gp
end
section
namespace Gp
open Go
theorem Xe {α β:Type} (f:α->β) (xs:Array α):xs.map f=⟨xs.toList.map f⟩:=akx.mp (by simp)
theorem yU (z:List Value) (n:Nat):(gW z n).length=n * z.length:=by
 induction n with
 |zero=>simp[gW]
 |succ n ih=>simp[gW,ih,ajD];omega
theorem N9 {z:List Value} {v:Value}:∀{n:Nat},v∈gW z n->∃k:Nat,k<n/\v∈z
 |0,h=>by simp[gW] at h
 |n+1,h=>by
  rcases ajk.1 (show v∈z++gW z n from h) with h|h
  ·exact⟨0,by omega,h⟩
  ·obtain⟨k,hk,hv⟩:=N9 h;exact⟨k,by omega,hv⟩
theorem adw {n:Int} (h1: -9223372036854775808<=n) (h2:n<=9223372036854775807):IntKind.i64.wrap n=n:=by
 rw[IntKind.wrap_i64];omega
theorem Χ (z:Array Value):∀n,(List.range (n * z.size)).map (λi=>z[i % z.size]!)=gW z.toList n:=by
 intro n
 induction n with
 |zero=>simp[gW]
 |succ n ih=>
  have e:(n+1) * z.size=z.size+n * z.size:=by rw[ajD];omega
  rw[e,List.range_add,akk,gW,map_map];congr 1
  ·apply List.ext_getElem
   ·simp
   ·intro i h1 h2;simp at h1;simp[Nat.mod_eq_of_lt h1,h1]
  ·rw[<- ih];apply List.map_congr_left;intro i _;simp
theorem oC (z:Array Value) (n:Nat):Builtin.zeroCells z n=⟨gW z.toList n⟩:=by
 apply akx.mp;simp only[Builtin.zeroCells,Array.toList_map,Array.toList_range];exact Χ z n
theorem XW (z:Array Value) (n:Nat):madeCells z (n * z.size)=⟨gW z.toList n⟩:=oC z n
section
variable {P:Program}
theorem SG {w:θ} {a b:Addr} {v:Value} (h:(w.cell? b).isSome=true):((w.setCell a v).cell? b).isSome=true:=by
 by_cases e:a=b
 ·subst e
  cases hc:w.cell? a with
  |none=>simp[hc] at h
  |some u=>rw[World.cell?_setCell_same w a v hc];rfl
 ·rw[World.cell?_setCell_other w a b v e];exact h
theorem wK (a:Addr):∀(vs:List Value) (i:Nat) (w:θ),(∀v∈vs,iL v=true)->
  (∀j,j<vs.length->(w.cell? (a.add (i+j))).isSome=true/\w.frozen? (a.add (i+j))=false)->(storeCells a vs i).run P w= .ok () (setCells w a vs i):=by
 intro vs
 induction vs with
 |nil=>exact λi w _ _=>rfl
 |cons v vs ih=>
  intro i w h1 h2;have h0:=h2 0 (by simp);obtain⟨hr,_⟩:=ϯ (P:=P) (w:=w) (a:=a.add i) (v:=v) (K:=λ_=>True) ⟨h1 v (by simp),by simpa using h0.1,by simpa using h0.2,trivial⟩;have:=ih (i+1) (w.setCell (a.add i) v) (λu hu=>h1 u (by simp[hu])) (λj hj=>by
   have:=h2 (j+1) (by simp;omega);rw[show i+(j+1)=i+1+j by omega] at this;exact⟨SG this.1,by rw[World.frozen?_setCell];exact this.2⟩)
  simp[storeCells,hr,this,setCells]
theorem tq {w:θ} {a:fO} {size n l c:Nat} {vs:List Value} (h:nO w a (n * size) vs):
  (Builtin.firstCells size n (.slice a l c)).run P w= .ok ⟨vs⟩ w:=by
 cases a with
 |none=>simp only[nO] at h;subst h;simp[run_firstCells_none]
 |some a=>
  obtain⟨hl,hc⟩:=h;refine run_firstCells_some (P:=P) w size n a l c vs hl λj v hj=> ?_;have u:=(ady.1 hj).1;rw[hc j u,hj]
theorem BX {w:θ} {a:fO} {n:Nat} {vs:List Value} (h:nO w a n vs):nO w.drew a n vs:=by
 cases a<;>exact h
theorem VU {t t' ty e:TypeId} {i:TypeInfo} {z:Value} (ht:P.underlying t=some (.slice e)) (hi:P.info? e=some i) (hz:i.zero=some z)
  {d:TypeDesc} (ht':P.underlying t'=some d) (hd:(∃e',d= .slice e')\/d= .string) {x:Value} {n:Nat} {vs:List Value} {w:θ} {s:fU} {K:fU->b_}
  (hlen:∀w,(Builtin.lenOf x).run P w= .ok n w) (hx:(Builtin.firstCells i.size n x).run P w= .ok ⟨vs⟩ w) (hx':(Builtin.firstCells i.size n x).run P w.drew= .ok ⟨vs⟩ w.drew)
  (h:VK e i.size i.bytes z.cells.toList s n vs w K):
  ∃s' w',(Builtin.append_ #[t,t'] ty #[s.v,x]).run P w= .ok s'.v w'/\K s' w':=by
 rcases h with ⟨u,N,I,hK⟩|⟨hg,h46,h62,old,J,hK⟩
 ·refine⟨_,_,?_,hK⟩
  cases hs:s.a with
  |none=>rcases hd with ⟨e',rfl⟩|rfl<;>(simp[Builtin.append_,fU.v,run_underlying ht,run_underlying ht',Go.sizeOf,run_typeInfo hi,hlen,u,hs,hx])
  |some a=>
   have O:=wK (P:=P) (a.add (s.len * i.size)) vs 0 w I (by intro j hj;simpa using N a hs j hj);rcases hd with ⟨e',rfl⟩|rfl<;>(simp[Builtin.append_,fU.v,run_underlying ht,run_underlying ht',Go.sizeOf,run_typeInfo hi,hlen,u,hs,hx,O])
 ·have h1:¬(s.len+n<=s.cap):=by omega
  have h2:¬(9223372036854775807<((s.len:Int)+(n:Int))):=by omega
  have h3:=growslice_fits (bytes:=i.bytes) hg (by omega);have h3':¬(281474976710656<Builtin.nextslicecap (s.len+n) s.cap * i.bytes):=by omega
  have R:=tq (P:=P) (l:=s.len) (c:=s.cap) (BX J);refine⟨_,_,?_,hK (grownCap w (s.len+n) s.cap e) (grownCap_ge _ _ _ _) ?_⟩
  ·rcases hd with ⟨e',rfl⟩|rfl<;>(simp[Builtin.append_,fU.v,run_underlying ht,run_underlying ht',Go.sizeOf,run_typeInfo hi,zeroValue,hz,hlen,h1,h2,h3',Question.forced,hx',R,newRow,grownCap,oC])
  ·simp only[grownCap,Question.cut];have:=akf (w.tape w.drawn (.appendCap (s.len+n) s.cap e)) (show 0<2^63 - (s.len+n) by omega);omega
theorem Y_ {t t' ty e:TypeId} {i:TypeInfo} {z:Value} {ki kv:IntKind} (ht:P.underlying t=some (.slice e)) (hi:P.info? e=some i) (hz:i.zero=some z) (U:z.cells.toList.length=i.size)
  (ht':P.underlying t'=some (.int ki)) {n:Int} {w:θ} {s:fU} {K:fU->b_}
  (h:VJ e i.size i.bytes z.cells.toList s n w K):
  ∃s' w',(Builtin.append_ #[t,t'] ty #[s.v,.int kv n]).run P w= .ok s'.v w'/\K s' w':=by
 obtain⟨h0,hb,hn,h⟩:=h;obtain⟨m,rfl⟩:∃m:Nat,n=(m:Int):=⟨n.toNat,by omega⟩;rw[Η] at h;have hw:IntKind.i64.wrap (m:Int)=(m:Int):=adw (by omega) (by omega);have u:¬((m:Int)<0):=by omega
 have hb':¬(281474976710656<(m:Int) * (i.bytes:Int)):=by omega
 by_cases hz0:m * i.size=0
 ·have he:gW z.cells.toList m=[]:=by
   have:=yU z.cells.toList m;rw[U,hz0] at this;exact akX.1 this
  rw[he] at h;rcases h with ⟨I,R,N,hK⟩|⟨hg,Y,Z,old,J,hK⟩
  ·refine⟨_,_,?_,hK⟩
   cases hs:s.a with
   |none=>simp[Builtin.append_,fU.v,run_underlying ht,run_underlying ht',Go.sizeOf,run_typeInfo hi,asInt,asIntOf,hw,u,hb',I,hs,hz0]
   |some a=>simp[Builtin.append_,fU.v,run_underlying ht,run_underlying ht',Go.sizeOf,run_typeInfo hi,asInt,asIntOf,hw,u,hb',I,hs,hz0,setCells,storeCells]
  ·have h1:¬(s.len+m<=s.cap):=by omega
   have h2:¬(9223372036854775807<((s.len:Int)+(m:Int))):=by omega
   have h3:=growslice_fits (bytes:=i.bytes) hg (by omega);have h3':¬(281474976710656<Builtin.nextslicecap (s.len+m) s.cap * i.bytes):=by omega
   have O:=tq (P:=P) (l:=s.len) (c:=s.cap) (BX J);refine⟨_,_,?_,hK (grownCap w (s.len+m) s.cap e) (grownCap_ge _ _ _ _) ?_⟩
   ·simp[Builtin.append_,fU.v,run_underlying ht,run_underlying ht',Go.sizeOf,run_typeInfo hi,asInt,asIntOf,hw,u,hb',zeroValue,hz,h1,h2,h3',Question.forced,hz0,O,newRow,grownCap,oC]
   ·simp only[grownCap,Question.cut];have:=akf (w.tape w.drawn (.appendCap (s.len+m) s.cap e)) (show 0<2^63 - (s.len+m) by omega);omega
 rcases h with ⟨I,R,N,hK⟩|⟨hg,Y,Z,old,J,hK⟩
 ·refine⟨_,_,?_,hK⟩
  cases hs:s.a with
  |none=>simp[Builtin.append_,fU.v,run_underlying ht,run_underlying ht',Go.sizeOf,run_typeInfo hi,asInt,asIntOf,hw,u,hb',I,hs,hz0,zeroValue,hz,oC]
  |some a=>
   have aa:=wK (P:=P) (a.add (s.len * i.size)) (gW z.cells.toList m) 0 w N (by intro j hj;simpa using R a hs j hj);simp[Builtin.append_,fU.v,run_underlying ht,run_underlying ht',Go.sizeOf,run_typeInfo hi,asInt,asIntOf,hw,u,hb',I,hs,hz0,zeroValue,hz,oC,aa]
 ·have h1:¬(s.len+m<=s.cap):=by omega
  have h2:¬(9223372036854775807<((s.len:Int)+(m:Int))):=by omega
  have h3:=growslice_fits (bytes:=i.bytes) hg (by omega);have h3':¬(281474976710656<Builtin.nextslicecap (s.len+m) s.cap * i.bytes):=by omega
  have O:=tq (P:=P) (l:=s.len) (c:=s.cap) (BX J);refine⟨_,_,?_,hK (grownCap w (s.len+m) s.cap e) (grownCap_ge _ _ _ _) ?_⟩
  ·simp[Builtin.append_,fU.v,run_underlying ht,run_underlying ht',Go.sizeOf,run_typeInfo hi,asInt,asIntOf,hw,u,hb',zeroValue,hz,h1,h2,h3',Question.forced,hz0,O,newRow,grownCap,oC]
  ·simp only[grownCap,Question.cut];have:=akf (w.tape w.drawn (.appendCap (s.len+m) s.cap e)) (show 0<2^63 - (s.len+m) by omega);omega
theorem Zk {t ty e:TypeId} {i:TypeInfo} {z:Value} (ht:P.underlying t=some (.slice e)) (hi:P.info? e=some i) (hz:i.zero=some z) (hsz:z.cells.toList.length=i.size)
  {w:θ} {s:fU} {K:b_} (h:I7 z.cells.toList s w K):∃w',(Builtin.clear_ #[t] ty #[s.v]).run P w= .ok (.tuple #[]) w'/\K w':=by
 obtain⟨I,u,hK⟩:=h;refine⟨_,?_,hK⟩;obtain⟨a,n,c⟩:=s
 cases a with
 |none=>simp[Builtin.clear_,fU.v,run_underlying ht]
 |some a=>
  cases n with
  |zero=>simp[Builtin.clear_,fU.v,run_underlying ht,gW,setCells]
  |succ n=>
   have J:=wK (P:=P) a (gW z.cells.toList (n+1)) 0 w (λv hv=>by
    obtain⟨k,_,hv⟩:=N9 hv;exact u v hv) (by intro j hj;rw[yU] at hj;simpa using I a rfl j hj)
   simp[Builtin.clear_,fU.v,run_underlying ht,zeroValue,run_typeInfo hi,hz,oC,J]
theorem aaf {t t' ty e:TypeId} {i:TypeInfo} (ht:P.underlying t=some (.slice e)) (hi:P.info? e=some i) {w:θ} {d s:fU} {K:Int->b_}
  (h:Ac i.size d s w K):∃n w',(Builtin.copy_ #[t,t'] ty #[d.v,s.v]).run P w= .ok (.int .i64 n) w'/\K n w':=by
 obtain⟨vs,I,J,u,hK⟩:=h;refine⟨_,_,?_,hK⟩;have hf:=tq (P:=P) (l:=s.len) (c:=s.cap) I
 cases hd:d.a with
 |none=>simp[Builtin.copy_,fU.v,run_underlying ht,Go.sizeOf,run_typeInfo hi,Builtin.lenOf,hd,hf,goInt]
 |some a=>
  have N:=wK (P:=P) a vs 0 w u (by intro j hj;simpa using J a hd j hj);simp[Builtin.copy_,fU.v,run_underlying ht,Go.sizeOf,run_typeInfo hi,Builtin.lenOf,hd,hf,N,goInt]
theorem aaE {t e:TypeId} {i:TypeInfo} {z:Value} (ht:P.underlying t=some (.slice e)) (hi:P.info? e=some i) (hz:i.zero=some z) (u:z.cells.toList.length=i.size)
  {n c:Int} {kl kc:IntKind} {w:θ} {K:fU->b_} (h:Y6 e i.size i.bytes z.cells.toList n c w K):
  ∃s w',(Instr.makeSlice t (.int kl n) (.int kc c)).run P w= .ok s.v w'/\K s w':=by
 obtain⟨h0,h1,h2,h3,hK⟩:=h;refine⟨_,_,?_,hK⟩;have h2':c<=9223372036854775807:=Int.le_trans h2 (by decide);have h3':(i.bytes:Int) * c<=281474976710656:=Int.le_trans h3 (by decide);rw[run_make w t e i z ht hi hz kl kc n c h0 h1 h3' h2'];have e0:i.size=z.cells.size:=u.symm.trans ak_;have e1:c.toNat * i.size=c.toNat * z.cells.size:=congrArg (c.toNat * ·) e0;rw[e1,XW];rfl
theorem Ru {w:θ} {s:fU} {K:ByteArray->Prop} (h:Gv w s K):∃b,(Conv.bytesToString s.v).run P w= .ok (.string b) w/\K b:=by
 obtain⟨b,hl,hc,hK⟩:=h;refine⟨b,?_,hK⟩
 cases hs:s.a with
 |none=>
  rw[hs] at hc;have:b= .empty:=by
   have h0:b.data.toList=[]:=by simpa [nO,byteCells] using hc
   cases b with|mk d=>simp at h0;subst h0;rfl
  subst this;simp[Conv.bytesToString,fU.v,hs]
 |some a=>
  rw[hs] at hc;obtain⟨hn,I⟩:=hc;have u:∀j v,(byteCells b)[j]? =some v->w.cell? (a.add j)=some v:=λj v hj=>by
   have J:=(ady.1 hj).1;rw[I j J,hj]
  have hl2:=run_loadCells_list (P:=P) (w:=w) a (byteCells b) u;rw[hn] at hl2;have e1:byteCells b=(b.data.toList.map λx=>(x.toNat:Int)).map (Value.int .u8):=by simp[byteCells]
  rw[e1] at hl2;have:=run_bytesToString (P:=P) w a s.len s.cap _ hl2;simp only[fU.v,hs,this];rw[foldl_push_bytes];congr 2
  cases b with|mk d=>
  have e2:∀l:List UInt8,l.map ((λn:Int=>UInt8.ofNat n.toNat) ∘ λx=>(x.toNat:Int))=l:=by
   intro l
   induction l with
   |nil=>rfl
   |cons x l ih=>simp only[aiG,ih];simp
  simp only[ByteArray.empty,ByteArray.emptyWithCapacity,map_map,e2];simp;rfl
end
end Gp
end
section
namespace Gp
open Go
theorem Ut (cs:List Value) (off:Nat) (vs:List Value) (h:off+vs.length<=cs.length) (i:Nat):
  (splice cs off vs)[i]? =if i<off then cs[i]? else if i<off+vs.length then vs[i - off]? else cs[i]? :=by
 unfold splice;have hl:(cs.take off).length=off:=by simp;omega
 by_cases h1:i<off
 ·rw[Ζ h1,aj8 (by omega),List.getElem?_take_of_lt h1]
 ·rw[Ε h1,ajy (by omega),hl];by_cases h2:i<off+vs.length
  ·rw[Ζ h2,aj8 (by omega)]
  ·rw[Ε h2,ajy (by omega),akY];congr 1;omega
theorem ZB (off:Nat):∀(vs:List Value) (k:Nat) (cs:Array Value),off+k+vs.length<=cs.size->
  ((vs.zipIdx k).foldl (λ(cs:Array Value) (p:Value×Nat)=>cs.setIfInBounds (off+p.2) p.1) cs)=⟨splice cs.toList (off+k) vs⟩:=by
 intro vs
 induction vs with
 |nil=>intro k cs _;simp[splice]
 |cons v vs ih=>
  intro k cs h;simp only[aeW] at h;rw[List.zipIdx_cons,ala,ih (k+1) _ (by simp;omega)];congr 1;apply alp;intro i;rw[Ut _ _ _ (by simp;omega),Ut _ _ _ (by simp;omega)];simp only[Array.toList_setIfInBounds,ajo,aeW];by_cases h1:i<off+k
  ·have h2:i<off+(k+1):=by omega
   have h3:¬(off+k=i):=by omega
   simp[h1,h2,h3]
  ·by_cases h2:i=off+k
   ·subst h2;have h3:off+k<off+(k+1):=by omega
    have h4:off+k<cs.size:=by omega
    simp[h3,h4]
   ·have h3:¬(i<off+(k+1)):=by omega
    have h4:¬(off+k=i):=by omega
    simp only[h1,h3,h4,aiC];by_cases h5:i<off+(k+1)+vs.length
    ·have h6:i<off+k+(vs.length+1):=by omega
     obtain⟨m,hm⟩:∃m,i - (off+k)=m+1:=⟨i - (off+k) - 1,by omega⟩;have h7:i - (off+(k+1))=m:=by omega
     simp[h5,h6,hm,h7]
    ·have h6:¬(i<off+k+(vs.length+1)):=by omega
     simp[h5,h6]
theorem MN {v:Value} (h:iL v=true):cellsOfV v=[v]:=by cases v<;>first|rfl|(simp[iL] at h)
theorem Zw:∀(ps:List (Nat×Value)) (cs out:List Value),(∀p∈ps,iL p.2=true)->Zv ps cs=some out->Hw (λi=>some (i * 1,1)) ps cs=some out:=by
 intro ps
 induction ps with
 |nil=>exact λcs out _ h=>h
 |cons p ps ih=>
  obtain⟨i,v⟩:=p;intro cs out h1 h;simp only[Zv] at h;have hv:iL v=true:=h1 (i,v) (by simp)
  cases hb:Nat.blt i cs.length with
  |false=>rw[hb] at h;cases h
  |true=>
   rw[hb] at h;have u:i<cs.length:=by simpa [akR] using hb
   have hs:splice cs (i * 1) [v]=cs.set i v:=by
    rw[alI,Ζ u,ahy];rfl
   have hc:(Nat.beq (cellsOfV v).length 1 && Nat.ble (i * 1+1) cs.length)=true:=by
    rw[MN hv,ajq];exact⟨rfl,by rw[ble_eq];omega⟩
   simp only[Hw,hc,Δ];rw[MN hv,hs];exact ih _ _ (λp hp=>h1 p (by simp[hp])) h
theorem ϳ:∀(vs:List Value),Og vs->∀v∈vs,iL v=true:=by
 intro vs
 induction vs with
 |nil=>exact λ_ v hv=>by simp at hv
 |cons v vs ih=>
  rintro⟨h1,h2⟩ u hu;rcases afm.1 hu with rfl|hu
  ·exact h1
  ·exact ih h2 u hu
theorem aiY {sh:Option Shape} {size:Nat} {ps:List (Nat×Operand)} {ρ:Operand->Value} {cs:List Value} {Φ:List Value->Prop}
  (h:cond (adQ sh) (cond (Nat.beq size 1) (Og (ps.map λp=>ρ p.2)/\(match Zv (ps.map λp=>(p.1,ρ p.2)) cs with
     |some cs=>Φ cs
     |none=>False)) False)
     (match Hw (λi=>some (i * size,size)) (ps.map λp=>(p.1,ρ p.2)) cs with
     |some cs=>Φ cs
     |none=>False)):∃out,Hw (λi=>some (i * size,size)) (ps.map λp=>(p.1,ρ p.2)) cs=some out/\Φ out:=by
 cases ha:adQ sh with
 |false=>
  rw[ha] at h;simp only[Β] at h;split at h
  ·rename_i out hf;exact⟨out,hf,h⟩
  ·exact h.elim
 |true=>
  rw[ha] at h;simp only[Δ] at h
  cases hb:Nat.beq size 1 with
  |false=>rw[hb] at h;exact h.elim
  |true=>
   rw[hb] at h;have hs:size=1:=aj9 hb;subst hs;simp only[Δ] at h;obtain⟨h1,h⟩:=h;split at h
   ·rename_i out hf;refine⟨out,Zw _ _ _ (λp hp=> ?_) hf,h⟩;obtain⟨q,hq,rfl⟩:=ajX.1 hp;exact ϳ _ h1 _ (ajX.2 ⟨q,hq,rfl⟩)
   ·exact h.elim
theorem K_ (place place':Nat->Option (Nat×Nat)) (hp:∀i x,place i=some x->place' i=some x):∀(ps:List (Nat×Value)) (cs out:List Value),Hw place ps cs=some out->
  Instr.fill place' ⟨cs⟩ ps=some ⟨out⟩:=by
 intro ps
 induction ps with
 |nil=>intro cs out h;simp[Hw] at h;subst h;rfl
 |cons p ps ih=>
  obtain⟨i,v⟩:=p;intro cs out h;simp only[Hw] at h
  cases u:place i with
  |none=>simp[u] at h
  |some x=>
   obtain⟨off,size⟩:=x;simp only[u] at h
   cases hb:(Nat.beq (cellsOfV v).length size && Nat.ble (off+size) cs.length) with
   |false=>simp[hb] at h
   |true=>
    simp only[hb,Δ] at h;simp only[ajq,Nat.beq_eq,ble_eq] at hb;obtain⟨h1,h2⟩:=hb;rw[PD] at h1 h;have h3:v.cells.size=size:=by rw[<- h1];simp
    have:=ih _ _ h;have hf:=ZB off v.cells.toList 0 ⟨cs⟩ (by simp;omega);simp only[ajt] at hf;have hz:v.cells.zipIdx.foldl (λ(cs:Array Value) (x:Value×Nat)=>cs.setIfInBounds (off+x.2) x.1) ⟨cs⟩=⟨splice cs off v.cells.toList⟩:=by
     rw[<- Array.foldl_toList,Array.toList_zipIdx];exact hf
    simp only[Instr.fill,hp _ _ u];have c1:(v.cells.size≠size||off+v.cells.size>(⟨cs⟩:Array Value).size)=false:=by
     simp[h3];omega
    simp only[c1,ak9,aiC];exact(congrArg (λa=>Instr.fill place' a ps) hz).trans this
section
variable {P:Program}
theorem YB {w:θ}:∀(fs:List Field) (pl:List (Nat×Nat)),placesOf P fs=some pl->
  (fs.mapM λ(f:Field)=>(do pure (f.offset,<- Go.sizeOf f.type):Sem (Nat×Nat))).run P w= .ok pl w:=by
 intro fs
 induction fs with
 |nil=>intro pl h;simp[placesOf] at h;subst h;simp
 |cons f fs ih=>
  intro pl h;simp only[placesOf] at h
  cases hs:jA P f.type with
  |none=>simp[hs] at h
  |some s=>
   cases hr:placesOf P fs with
   |none=>simp[hs,hr] at h
   |some l=>
    simp only[hs,hr,afM] at h;subst h;have hi:=ih l hr;rw[List.mapM_cons];simp only[Sem.run_bind,jD hs,Result.andThen_ok,Sem.run_pure,hi]
theorem R_ {w:θ} {fs:Array Field} {f off size:Nat} (h:Hu P fs f=some (off,size)) (hs:Nat.beq size 0=false) (a:Addr):
  ∃fd,fs[f]? =some fd/\(fieldPlace a fd).run P w= .ok (a.add off) w:=by
 unfold Hu at h
 cases hf:fs.toList[f]? with
 |none=>simp[hf] at h
 |some fd=>
  simp only[hf] at h
  cases hz:jA P fd.type with
  |none=>simp[hz] at h
  |some s=>
   simp only[hz,afM,akd] at h;obtain⟨rfl,rfl⟩:=h;refine⟨fd,by simpa using hf,?_⟩;have:s≠0:=by intro e;subst e;simp at hs
   simp[fieldPlace,jD hz,this]
theorem Uh {w:θ} {t:TypeId} {d:TypeDesc} {size off:Nat} {cs:Array Value} {φ:Value->Prop} (hd:P.underlying t=some d) (hs:jA P t=some size)
  (h:partOf d size off cs.toList φ):∃v,(part t cs off).run P w= .ok v w/\φ v:=by
 unfold partOf at h
 cases hg:H6 d with
 |true=>
  simp only[hg,Δ] at h;refine⟨_,?_,h⟩;simp only[part,Sem.run_bind,Jl hd,Result.andThen_ok,hg,ahN,jD hs,Sem.run_pure,Result.ok.injEq,akD,Value.agg.injEq];apply akx.mp;simp[Array.toList_extract,List.extract_eq_take_drop]
 |false=>
  simp only[hg,Β] at h
  cases hc:cs.toList[off]? with
  |none=>simp[hc] at h
  |some v=>
   simp only[hc] at h;refine⟨v,?_,h⟩;have hc':cs[off]? =some v:=by simpa using hc
   simp[part,Jl hd,hg,hc']
theorem Nl {k k':IntKind} (h:Ll k k'=true):k=k':=by cases k<;>cases k'<;>first|rfl|(simp[Ll] at h)
theorem aat {op:BinOp} {k:IntKind} {a b:Int} {φ:Value->Prop} {t:TypeId} {w:θ} (hop:op≠.shl/\op≠.shr) (h:Lm op k a b φ):
  ∃v,(binOp op t (.int k a) (.int k b)).run P w= .ok v w/\φ v:=by
 cases op<;>simp only[Lm] at h<;>first
  |exact absurd rfl hop.1
  |exact absurd rfl hop.2
  |exact h.elim
  |(refine⟨_,?_,h⟩;simp[binOp,Op.intArith];done)
  |(refine⟨_,?_,h⟩;simp[binOp,Op.intCmp];done)
  |(refine⟨_,?_,h⟩;simp only[binOp,ne_eq,not_true_eq_false,aiC];rfl)
  |(refine⟨_,?_,h.2⟩;simp[binOp,Op.intDiv,h.1];done)
theorem aa4 {op:BinOp} {a b:ByteArray} {φ:Value->Prop} {t:TypeId} {w:θ} (h:Mc op a b φ):
  ∃v,(binOp op t (.string a) (.string b)).run P w= .ok v w/\φ v:=by
 cases op<;>simp only[Mc] at h<;>first
  |exact h.elim
  |(refine⟨_,?_,h⟩;simp[binOp,Op.stringOp,strEq,strLt];done)
  |(refine⟨_,?_,h.2⟩
    have:¬(IntKind.i64.max<((a.size+b.size:Nat):Int)):=by omega
    simp[binOp,Op.stringOp] at this ⊢;simp[this])
end
end Gp
end
section
namespace Gp
open Go
section
variable {P:Program}
theorem V3 {d:TypeDesc} {x y:Value} {φ:Bool->Prop} {t:TypeId} {w:θ} (ht:P.underlying t=some d) (h:KA d x y φ):
  ∃b,(Op.equal t x y).run P w= .ok b w/\φ b:=by
 have key:∀n,∃b,(Op.equalIn (n+1) t x y).run P w= .ok b w/\φ b:=by
  intro n;unfold KA at h;split at h
  ·exact⟨_,by simp[Op.equalIn,run_underlying ht],h⟩
  ·rename_i q;refine⟨_,?_,h⟩
   cases q<;>simp[Op.equalIn,run_underlying ht]
  ·rename_i q _ _ _ _;refine⟨_,?_,h⟩
   cases q<;>simp[Op.equalIn,run_underlying ht]
  ·rename_i q;refine⟨_,?_,h⟩
   cases q<;>simp[Op.equalIn,run_underlying ht]
  ·exact h.elim
 exact key 9999
theorem PI {d:TypeDesc} {x y:Value} {φ:Bool->Prop} (h:KA d x y φ) (op:BinOp) (t:TypeId) (a b:Operand) (w:θ):(eqGuard op t a b x y).run P w= .ok () w:=by
 unfold KA at h;split at h<;>first|exact h.elim|(cases op<;>simp[eqGuard])
theorem acU {op:BinOp} {t:TypeId} {x y:Value} {φ:Value->Prop} (a:Operand) {w:θ} (h:FQ P op t x y φ):
  ∃v,(do eqGuard op t a (.const .nilIface) x y;binOp op t x y:Sem Value).run P w= .ok v w/\φ v:=by
 unfold FQ at h;split at h
 ·rename_i s ms ho ht;have key:∀n,(Op.equalIn (n+1) t .nilIface .nilIface).run P w= .ok true w:=λn=>by simp[Op.equalIn,run_underlying ht]
  have e:(Op.equal t .nilIface .nilIface).run P w= .ok true w:=key 9999
  cases op<;>simp only[H7,reduceCtorEq,afM] at ho
  all_goals subst ho
  ·exact⟨.bool true,by simp[eqGuard,show binOp .eql t .nilIface .nilIface=(do pure (.bool (<- Op.equal t .nilIface .nilIface))) from rfl,e],h⟩
  ·exact⟨.bool false,by simp[eqGuard,show binOp .neq t .nilIface .nilIface=(do pure (.bool (!(<- Op.equal t .nilIface .nilIface)))) from rfl,e],h⟩
 ·rename_i s ms t' v' ho ht;have key:∀n,(Op.equalIn (n+1) t (.iface t' v') .nilIface).run P w= .ok false w:=λn=>by simp[Op.equalIn,run_underlying ht]
  have e:(Op.equal t (.iface t' v') .nilIface).run P w= .ok false w:=key 9999
  cases op<;>simp only[H7,reduceCtorEq,afM] at ho
  all_goals subst ho
  ·exact⟨.bool false,by simp[eqGuard,show binOp .eql t (.iface t' v') .nilIface=(do pure (.bool (<- Op.equal t (.iface t' v') .nilIface))) from rfl,e],h⟩
  ·exact⟨.bool true,by simp[eqGuard,show binOp .neq t (.iface t' v') .nilIface=(do pure (.bool (!(<- Op.equal t (.iface t' v') .nilIface)))) from rfl,e],h⟩
 ·exact h.elim
theorem PG {d:TypeDesc} {x y:Value} {φ:Bool->Prop} (h:KA d x y φ) (t:TypeId):
  binOp .eql t x y=(do pure (.bool (<- Op.equal t x y)))/\binOp .neq t x y=(do pure (.bool (!(<- Op.equal t x y)))):=by
 unfold KA at h;split at h<;>first|exact h.elim|exact⟨rfl,rfl⟩
theorem zZ {w:θ} {t:TypeId} {d:TypeDesc} {size off:Nat} {cs:Array Value} {v:Value} (hd:P.underlying t=some d) (hs:jA P t=some size) (h:WE d size off cs.toList=some v):
  (part t cs off).run P w= .ok v w:=by
 obtain⟨v',hr,hv⟩:=Uh (w:=w) (cs:=cs) (off:=off) (φ:=λv'=>v'=v) hd hs (by
  unfold WE at h;unfold partOf
  cases hg:H6 d with
  |true=>rw[hg] at h;simp only[Δ,afM] at h ⊢;exact h
  |false=>rw[hg] at h;simp only[Β] at h ⊢;rw[h])
 rw[hr,hv]
theorem I9 {b:Bool} {o:Option Bool} {r:Bool} (h:afF b o=some r):∃r',o=some r'/\r=(b && r'):=by
 cases o with
 |none=>cases h
 |some r'=>exact⟨r',rfl,by simpa [afF] using h.symm⟩
theorem XB:∀(n:Nat) (t:TypeId) (x y:Value) (b:Bool) (m:Nat) (w:θ),E8 P n t x y=some b->n<=m->(Op.equalIn m t x y).run P w= .ok b w:=by
 intro n
 induction n with
 |zero=>intro t x y b m w h;cases h
 |succ n ih=>
  intro t x y b m w h hm;obtain⟨m,rfl⟩:∃m',m=m'+1:=⟨m - 1,by omega⟩;unfold E8 at h;split at h
  ·rename_i hu;rw[run_equalIn_bool' w m t _ _ hu]
   cases h;rfl
  ·rename_i k0 k a k' c hu
   cases hk:Ll k k' with
   |false=>rw[hk] at h;cases h
   |true=>
    rw[hk] at h;have:=Nl hk;subst this;rw[run_equalIn_int w m t k k0 _ _ hu]
    cases h;rfl
  ·rename_i hu;rw[run_equalIn_string w m t _ _ hu]
   cases h;rfl
  ·rename_i fs xs ys hu
   cases hp:P.stoodInHeld t with
   |true=>rw[hp] at h;cases h
   |false=>
    rw[hp] at h;simp only[Β] at h;have I:P.fieldsOf t=fs:=by simp[Program.fieldsOf,hu]
    rw[run_equalIn_struct w m t xs ys (by rw[I];exact hu) hp,I];generalize fs.toList=l at h;clear I hu
    induction l generalizing b with
    |nil=>simp only[aeh,afM] at h;subst h;rfl
    |cons fd l ihl=>
     simp only[aeh] at h
     cases J:(fd.name=="_") with
     |true=>rw[J] at h;cases h
     |false=>
      rw[J] at h;simp only[Β] at h;split at h
      case h_2=>cases h
      rename_i d size hd hs;split at h
      case h_2=>cases h
      rename_i u v hu hv;split at h
      case h_2=>cases h
      rename_i r hr;obtain⟨r',hr',rfl⟩:=I9 h;have N:fd.name≠"_":=by simpa using J
      simp only[Op.eqFields,N,ne_eq,alq,ahN,Sem.run_bind,zZ hd hs hu,zZ hd hs hv,Result.andThen_ok,ih _ _ _ _ m w hr (by omega)]
      cases r with
      |true=>simp only[ab6,ak9,aiC,alb];exact ihl _ hr'
      |false=>simp
  ·rename_i n' e xs ys hu;split at h
   case h_2=>cases h
   rename_i de size hd hs;obtain⟨i,hi,O⟩:∃i,P.info? e=some i/\i.size=size:=by
    unfold jA at hs;split at hs
    ·rename_i i hi;exact⟨i,hi,by simpa using hs⟩
    ·cases hs
   have hc:P.cellsOf e=size:=by simp[Program.cellsOf,hi,O]
   rw[run_equalIn_array w m xs ys hu hi,hc,List.range_eq_range'];generalize 0=j at h ⊢;clear hu
   induction n' generalizing b j with
   |zero=>simp only[aei,afM] at h;subst h;rfl
   |succ n' ihn=>
    simp only[aei] at h;split at h
    case h_2=>cases h
    rename_i u v hu hv;split at h
    case h_2=>cases h
    rename_i r hr;obtain⟨r',hr',rfl⟩:=I9 h;simp only[List.range'_succ,Op.eqItems,Sem.run_bind,zZ hd hs hu,zZ hd hs hv,Result.andThen_ok,ih _ _ _ _ m w hr (by omega)]
    cases r with
    |true=>simp only[ab6,ak9,aiC,alb];exact ihn _ _ hr'
    |false=>simp
  ·cases h
theorem afV {n:Nat} {t:TypeId} {x y:Value} {b:Bool} (h:E8 P n t x y=some b):∃d,P.underlying t=some d:=by
 cases n with
 |zero=>cases h
 |succ n=>
  unfold E8 at h;split at h<;>first|exact⟨_,by assumption⟩|cases h
theorem KL {n:Nat} {t:TypeId} {d:TypeDesc} {x y:Value} {b:Bool} (hd:P.underlying t=some d) (h:E8 P n t x y=some b):Instr.sameNow d x y=some b\/Instr.sameNow d x y=none:=by
 cases n with
 |zero=>cases h
 |succ n=>
  unfold E8 at h;split at h
  ·rename_i hu;rw[hd] at hu;cases hu
   cases h
   exact .inl rfl
  ·rename_i k0 k a k' c hu;rw[hd] at hu;cases hu
   cases hk:Ll k k' with
   |false=>rw[hk] at h;cases h
   |true=>
    rw[hk] at h;have:=Nl hk;subst this
    cases h
    exact .inl (by simp[Instr.sameNow])
  ·rename_i hu;rw[hd] at hu;cases hu
   cases h
   exact .inl (by simp[Instr.sameNow,strEq,beq_toListBytes])
  ·rename_i hu;rw[hd] at hu;cases hu;exact .inr rfl
  ·rename_i hu;rw[hd] at hu;cases hu;exact .inr rfl
  ·cases h
theorem U0 {kt:TypeId} {d:TypeDesc} {key:Value} (hd:P.underlying kt=some d):∀(es:List MapEntry) (i:Nat) (res:Option (Nat×Value)),tZ P kt key es i=some res->Instr.findNow d key es i=some res\/Instr.findNow d key es i=none:=by
 intro es
 induction es with
 |nil=>intro i res h;simp only[tZ,afM] at h;subst h;exact .inl rfl
 |cons e es ih=>
  intro i res h;simp only[tZ] at h;split at h
  ·rename_i he
   cases h
   rcases KL hd he with h1|h1
   ·exact .inl (by simp[Instr.findNow,h1])
   ·exact .inr (by simp[Instr.findNow,h1])
  ·rename_i he;rcases KL hd he with h1|h1
   ·rcases ih _ _ h with h2|h2
    ·exact .inl (by simp[Instr.findNow,h1,h2])
    ·exact .inr (by simp[Instr.findNow,h1,h2])
   ·exact .inr (by simp[Instr.findNow,h1])
  ·cases h
theorem Sl {kt:TypeId} {key:Value} {w:θ}:∀(es:List MapEntry) (i:Nat) (res:Option (Nat×Value)),tZ P kt key es i=some res->(Instr.findAsking kt key es i).run P w= .ok res w:=by
 intro es
 induction es with
 |nil=>intro i res h;simp only[tZ,afM] at h;subst h;rfl
 |cons e es ih=>
  intro i res h;simp only[tZ] at h;split at h
  ·rename_i he
   cases h
   simp[Instr.findAsking,Op.equal,Op.maxDepth,XB 16 kt _ _ _ 10000 w he (by omega)]
  ·rename_i he;simp[Instr.findAsking,Op.equal,Op.maxDepth,XB 16 kt _ _ _ 10000 w he (by omega),ih _ _ h]
  ·cases h
theorem xg {kt:TypeId} {d:TypeDesc} {key:Value} {es:List MapEntry} {res:Option (Nat×Value)} {w:θ} (hd:P.underlying kt=some d) (h:tZ P kt key es 0=some res):(Instr.findKey kt key es).run P w= .ok res w:=by
 rcases U0 hd es 0 res h with h1|h1
 ·simp[Instr.findKey,run_underlying hd,h1]
 ·simp[Instr.findKey,run_underlying hd,h1,Sl es 0 res h]
theorem wC:∀(n:Nat) (t:TypeId) (x y:Value) (b:Bool) (m:Nat) (em:Bool) (w:θ),E8 P n t x y=some b->n<=m->(Instr.checkKey em m t x).run P w= .ok () w:=by
 intro n
 induction n with
 |zero=>intro t x y b m em w h;cases h
 |succ n ih=>
  intro t x y b m em w h hm;obtain⟨m,rfl⟩:∃m',m=m'+1:=⟨m - 1,by omega⟩;unfold E8 at h;split at h
  ·rename_i hu;simp[Instr.checkKey,run_underlying hu]
  ·rename_i hu;simp[Instr.checkKey,run_underlying hu]
  ·rename_i hu;simp[Instr.checkKey,run_underlying hu]
  ·rename_i fs xs ys hu
   cases hp:P.stoodInHeld t with
   |true=>rw[hp] at h;cases h
   |false=>
    rw[hp] at h;simp only[Β] at h;simp only[Instr.checkKey,Sem.run_bind,run_underlying hu,Result.andThen_ok];rw[<- Array.forIn_toList];generalize fs.toList=l at h;clear hu
    induction l generalizing b with
    |nil=>simp
    |cons fd l ihl=>
     simp only[aeh] at h
     cases I:(fd.name=="_") with
     |true=>rw[I] at h;cases h
     |false=>
      rw[I] at h;simp only[Β] at h;split at h
      case h_2=>cases h
      rename_i d size hd hs;split at h
      case h_2=>cases h
      rename_i u v hu hv;split at h
      case h_2=>cases h
      rename_i r hr;obtain⟨r',hr',rfl⟩:=I9 h;have J:fd.name≠"_":=by simpa using I
      have:=ihl _ hr';simp only[List.forIn_cons,J,ne_eq,alq,ahN,Sem.run_bind,zZ hd hs hu,Result.andThen_ok,ih _ _ _ _ m em w hr (by omega),Sem.run_pure];exact this
  ·rename_i n' e xs ys hu;split at h
   case h_2=>cases h
   rename_i de size hd hs;simp only[Instr.checkKey,Sem.run_bind,run_underlying hu,Result.andThen_ok];simp only[Std.Legacy.Range.forIn_eq_forIn_range',Std.Legacy.Range.size,aky,Nat.add_one_sub_one,Nat.div_one];generalize 0=j at h ⊢;clear hu
   induction n' generalizing b j with
   |zero=>simp
   |succ n' ihn=>
    simp only[aei] at h;split at h
    case h_2=>cases h
    rename_i u v hu hv;split at h
    case h_2=>cases h
    rename_i r hr;obtain⟨r',hr',rfl⟩:=I9 h;have:=ihn _ _ hr';simp only[List.range'_succ,List.forIn_cons,Sem.run_bind,jD hs,Result.andThen_ok,zZ hd hs hu,ih _ _ _ _ m em w hr (by omega),Sem.run_pure];exact this
  ·cases h
theorem KJ {v:Value} (h:aeQ v=true) (n:Nat):Instr.sameBits n v v=true:=by
 cases v<;>first|(cases h;done)|simp[Instr.sameBits,MapKept.bytes_beq]
theorem IX {v:Value} (h:YC v=true) (n:Nat):Instr.sameBits (n+1) v v=true:=by
 unfold YC at h;split at h
 ·rename_i cs;simp only[Instr.sameBits,akK,alb,akh];simp only[akh] at h;rintro⟨x,y⟩ u;have:x=y:=by
   obtain⟨i,hi⟩:=akS u;simp[List.getElem?_zip_eq_some] at hi;have:=hi.1.symm.trans hi.2;simpa using this
  subst this;exact KJ (h x (List.of_mem_zip u).1) n
 ·exact KJ h _
theorem yF {kt:TypeId} {key:Value} (h:oz P kt key=true):YC key=true/\∃d b,P.underlying kt=some d/\E8 P 16 kt key key=some b:=by
 simp only[oz,ajq,alr] at h;obtain⟨h1,b,hb⟩:=h;obtain⟨d,hd⟩:=afV hb;exact⟨h1,d,b,hd,hb⟩
theorem MV {k:Kind} {v:Value} {φ:k.T->Prop} (h:k.dec v φ):∃x,v=k.enc x/\φ x:=by
 cases k<;>cases v<;>first
  |exact h.elim
  |exact⟨_,rfl,h⟩
  |skip
 case int.int k k' n=>
  simp only[Kind.dec] at h
  cases hb:Ll k k' with
  |false=>rw[hb] at h;exact h.elim
  |true=>
   rw[hb] at h;have:=Nl hb;subst this;exact⟨n,rfl,h⟩
theorem xC {t:TypeId} {z:Value} {w:θ} (h:DN P t=some z):(zeroValue t).run P w= .ok z w:=by
 unfold DN at h;split at h
 ·rename_i i hi;simp[zeroValue,run_typeInfo hi,h]
 ·cases h
theorem Ϭ {t kt et:TypeId} {k:Kind} {r:Option Nat} {key zero:Value} {w:θ} {K:k.T->Prop} (ht:P.underlying t=some (.map kt et)) (hz:DN P et=some zero) (h:rP P kt k r key zero w K):
  ∃x,(Instr.lookup t (.map r) key false).run P w= .ok (k.enc x) w/\K x:=by
 obtain⟨hk,h⟩:=h;obtain⟨_,d,b',hd,hb'⟩:=yF hk;have u:∀em,(Instr.checkKey em 10000 kt key).run P w= .ok () w:=λem=>wC 16 kt key key b' 10000 em w hb' (by omega);rcases h with ⟨rfl,h⟩|⟨b,es,clock,rfl,hb,res,I,h⟩
 ·obtain⟨x,hx,h⟩:=MV h;refine⟨x,?_,h⟩;have hf:(Instr.findKey kt key []).run P w= .ok none w:=xg hd rfl;simp[Instr.lookup,run_underlying ht,u,hf,xC hz,hx]
 ·obtain⟨x,hx,h⟩:=MV h;refine⟨x,?_,h⟩;have hf:=xg (w:=w) hd I
  cases res with
  |none=>simp[Instr.lookup,run_underlying ht,MapKept.run_getObj_map hb,u,hf,xC hz,<- hx]
  |some p=>
   obtain⟨i,v⟩:=p;simp[Instr.lookup,run_underlying ht,MapKept.run_getObj_map hb,u,hf,<- hx]
theorem Py {t kt et:TypeId} {r:Option Nat} {key zero:Value} {w:θ} {K:Value->Bool->Prop} (ht:P.underlying t=some (.map kt et)) (hz:DN P et=some zero) (h:I8 P kt r key zero w K) (ok:Bool):
  ∃v b,(Instr.lookup t (.map r) key ok).run P w= .ok (if ok=true then .tuple #[v,.bool b] else v) w/\K v b:=by
 obtain⟨hk,h⟩:=h;obtain⟨_,d,b',hd,hb'⟩:=yF hk;have u:∀em,(Instr.checkKey em 10000 kt key).run P w= .ok () w:=λem=>wC 16 kt key key b' 10000 em w hb' (by omega);rcases h with ⟨rfl,h⟩|⟨b,es,clock,rfl,hb,res,I,h⟩
 ·refine⟨_,_,?_,h⟩;have hf:(Instr.findKey kt key []).run P w= .ok none w:=xg hd rfl;simp[Instr.lookup,run_underlying ht,u,hf,xC hz]
 ·have hf:=xg (w:=w) hd I
  cases res with
  |none=>
   refine⟨_,_,?_,h⟩;simp[Instr.lookup,run_underlying ht,MapKept.run_getObj_map hb,u,hf,xC hz]
  |some p=>
   obtain⟨i,v⟩:=p;refine⟨_,_,?_,h⟩;simp[Instr.lookup,run_underlying ht,MapKept.run_getObj_map hb,u,hf]
theorem Ri {t kt et:TypeId} {r:Option Nat} {key val:Value} {w:θ} {K:b_} (ht:P.underlying t=some (.map kt et)) (h:oP P kt r key val w K):
  ∃w',(Instr.mapUpdate t (.map r) key val).run P w= .ok () w'/\K w':=by
 obtain⟨hk,b,es,clock,rfl,hb,res,u,h⟩:=h;obtain⟨hp,d,b',hd,hb'⟩:=yF hk;have I:∀em,(Instr.checkKey em 10000 kt key).run P w= .ok () w:=λem=>wC 16 kt key key b' 10000 em w hb' (by omega);have hf:=xg (w:=w) hd u
 cases res with
 |none=>exact⟨_,by simp[Instr.mapUpdate,run_underlying ht,MapKept.run_getObj_map hb,I,hf,MapKept.run_setObj_map _ hb];rfl,h⟩
 |some p=>
  obtain⟨i,v⟩:=p;obtain⟨⟨e,he,J⟩,h⟩:=h;have N:(Instr.keyThatStays e.key key).run P w= .ok key w:=by
   rw[J];simp[Instr.keyThatStays,IX hp]
  exact⟨_,by simp[Instr.mapUpdate,run_underlying ht,MapKept.run_getObj_map hb,I,hf,he,N,MapKept.run_setObj_map _ hb];rfl,h⟩
theorem ϫ {t kt et:TypeId} {r:Option Nat} {key zero:Value} {w:θ} {K:Value->Int->b_} (ht:P.underlying t=some (.map kt et)) (hz:DN P et=some zero) (h:adC P kt r key zero w K):
  ∃v n w',(Instr.mapEntry t (.map r) key).run P w= .ok (.tuple #[v,.int .i64 n]) w'/\K v n w':=by
 obtain⟨hk,b,es,clock,rfl,hb,res,u,h⟩:=h;obtain⟨hp,d,b',hd,hb'⟩:=yF hk;have I:∀em,(Instr.checkKey em 10000 kt key).run P w= .ok () w:=λem=>wC 16 kt key key b' 10000 em w hb' (by omega);have hf:=xg (w:=w) hd u
 cases res with
 |none=>exact⟨_,_,_,by simp[Instr.mapEntry,run_underlying ht,MapKept.run_getObj_map hb,I,hf,xC hz,MapKept.run_setObj_map _ hb,goInt];rfl,h⟩
 |some p=>
  obtain⟨i,v⟩:=p;obtain⟨e,he,J,h⟩:=h;have N:(Instr.keyThatStays e.key key).run P w= .ok key w:=by
   rw[J];simp[Instr.keyThatStays,IX hp]
  exact⟨_,_,_,by simp[Instr.mapEntry,run_underlying ht,MapKept.run_getObj_map hb,I,hf,he,N,MapKept.run_setObj_map _ hb,goInt];rfl,h⟩
theorem ab4 {t:TypeId} {r:Option Nat} {k:IntKind} {n:Int} {val:Value} {w:θ} {K:b_} (h:ahc r n val w K):
  ∃w',(Instr.entryStore t (.map r) (.int k n) val).run P w= .ok () w'/\K w':=by
 obtain⟨b,es,clock,i,rfl,hb,hi,h⟩:=h;exact⟨_,by simp[Instr.entryStore,MapKept.run_getObj_map hb,asInt,asIntOf,hi,MapKept.run_setObj_map _ hb];rfl,h⟩
theorem Ϫ {t kt et t' ty:TypeId} {r:Option Nat} {key:Value} {w:θ} {K:b_} (ht:P.underlying t=some (.map kt et)) (h:Gy P kt r key w K):
  ∃w',(Builtin.delete_ ⟨[t,t']⟩ ty ⟨[.map r,key]⟩).run P w= .ok (.tuple #[]) w'/\K w':=by
 obtain⟨hk,h⟩:=h;obtain⟨_,d,b',hd,hb'⟩:=yF hk;have u:∀em,(Instr.checkKey em 10000 kt key).run P w= .ok () w:=λem=>wC 16 kt key key b' 10000 em w hb' (by omega);rcases h with ⟨rfl,h⟩|⟨b,es,clock,rfl,hb,res,I,h⟩
 ·exact⟨_,by simp[Builtin.delete_,run_underlying ht,u],h⟩
 ·have hf:=xg (w:=w) hd I
  cases res with
  |none=>exact⟨_,by simp[Builtin.delete_,run_underlying ht,MapKept.run_getObj_map hb,u,hf,MapKept.run_setObj_map _ hb];rfl,h⟩
  |some p=>
   obtain⟨i,v⟩:=p;exact⟨_,by simp[Builtin.delete_,run_underlying ht,MapKept.run_getObj_map hb,u,hf,MapKept.run_setObj_map _ hb];rfl,h⟩
theorem Xk {op:BinOp} {t:TypeId} {x y:Value} {φ:Value->Prop} (a b:Operand) {w:θ} (h:GK P op t x y φ):
  ∃v,((do eqGuard op t a b x y;binOp op t x y):Sem Value).run P w= .ok v w/\φ v:=by
 unfold GK at h;split at h
 ·rename_i k n;have hg:(eqGuard op t a b (.int k n) y).run P w= .ok () w:=by cases op<;>cases y<;>simp[eqGuard]
  simp only[Sem.run_bind,hg,Result.andThen_ok]
  cases y with
  |int k' m=>
   by_cases h1:op= .shl
   ·subst h1;simp only[KR] at h;refine⟨_,?_,h.2⟩;have:¬m<0:=Int.not_lt.2 h.1;simp[binOp,Op.shift,this,Ky]
   ·by_cases h2:op= .shr
    ·subst h2;simp only[KR] at h;refine⟨_,?_,h.2⟩;have:¬m<0:=Int.not_lt.2 h.1;simp[binOp,Op.shift,this,jy]
    ·have h':cond (Ll k k') (Lm op k n m φ) False:=by cases op<;>first|exact h|exact absurd rfl h1|exact absurd rfl h2
     cases hk:Ll k k' with
     |false=>rw[hk] at h';exact h'.elim
     |true=>
      rw[hk] at h';have:=Nl hk;subst this;exact aat ⟨h1,h2⟩ h'
  |_=>cases op<;>exact h.elim
 ·rename_i s;have hg:(eqGuard op t a b (.string s) y).run P w= .ok () w:=by cases op<;>cases y<;>simp[eqGuard]
  simp only[Sem.run_bind,hg,Result.andThen_ok]
  cases y with
  |string s'=>
   have h:Mc op s s' φ:=by cases op<;>exact h
   exact aa4 h
  |_=>cases op<;>exact h.elim
 ·rename_i xs;split at h
  case h_2=>exact h.elim
  rename_i s ys ho
  cases hg:P.eqGuardType P.depth t with
  |true=>rw[hg] at h;exact h.elim
  |false=>
   rw[hg] at h;simp only[Β] at h;split at h
   case h_2=>exact h.elim
   rename_i r hr;have he:=XB 16 t _ _ r 10000 w hr (by omega);refine⟨_,?_,h⟩;simp only[Sem.run_bind,run_eqGuard_agg w op t a b xs ys hg,Result.andThen_ok]
   cases op<;>simp only[H7,afM] at ho<;>first|(cases ho;done)|skip
   ·subst ho;rw[run_eql_struct,he];rfl
   ·subst ho;rw[run_neq_struct,he];rfl
 ·split at h
  ·rename_i ho hd;have:op= .eql:=by cases op<;>first|rfl|(simp[H7] at ho)
   subst this;obtain⟨v,hr,hφ⟩:=V3 (w:=w) hd h;exact⟨_,by simp[PI h,(PG h t).1,hr],hφ⟩
  ·rename_i ho hd;have:op= .neq:=by cases op<;>first|rfl|(simp[H7] at ho)
   subst this;obtain⟨v,hr,hφ⟩:=V3 (w:=w) hd h;exact⟨_,by simp[PI h,(PG h t).2,hr],hφ⟩
  ·exact h.elim
theorem Ϝ {op:UnOp} {x:Value} {φ:Value->Prop} {w:θ} (h:Ob op x φ):∃v,(Op.unary op x).run P w= .ok v w/\φ v:=by
 unfold Ob at h;split at h
 ·exact⟨_,by simp[Op.unary,Op.intArith],h⟩
 ·exact⟨_,by simp[Op.unary],h⟩
 ·exact⟨_,by simp only[Op.unary];rfl,h⟩
 ·exact h.elim
theorem zY {ρ:Operand->Value} {x:Option Operand} {dflt:Int} {φ:Int->Prop} (h:yH ρ x dflt φ):
  (x=none/\φ dflt)\/∃o k n,x=some o/\ρ o= .int k n/\φ n:=by
 unfold yH at h;split at h
 ·exact .inl ⟨rfl,h⟩
 ·rename_i o;split at h
  ·rename_i k n hv;exact .inr ⟨o,k,n,rfl,hv,h⟩
  ·exact h.elim
theorem ku {k:IntKind} {i:Int} {y:Nat} {c:BoundsCode} {w:θ} (h0:0<=i) (h1:i<=(y:Int)):
  (Instr.sliceBound (.int k i) y c).run P w= .ok i.toNat w:=by
 simp[Instr.sliceBound,asIntOf,h0,h1]
theorem Xl {isS:Bool} {len cap:Nat} {ρ:Operand->Value} {lo hi:Option Operand} {φ:Int->Int->Prop} {w:θ} (hlc:isS=true\/len=cap)
  (h:yH ρ lo 0 λl=>yH ρ hi (len:Int) λh=>φ l h) (hb:∀l h,φ l h->0<=l/\l<=h/\h<=(cap:Int)):
  ∃l h,(Instr.sliceBounds isS len cap (lo.map ρ) (hi.map ρ) none).run P w= .ok (l.toNat,h.toNat,cap) w/\φ l h:=by
 rcases zY h with ⟨e1,h1⟩|⟨o,k,l,e1,ho,h1⟩
 ·subst e1;rcases zY h1 with ⟨e2,h2⟩|⟨o',k',h',e2,ho',h2⟩
  ·subst e2;exact⟨_,_,by simp[Instr.sliceBounds],h2⟩
  ·subst e2;obtain⟨a1,a2,a3⟩:=hb _ _ h2;exact⟨_,_,by simp[Instr.sliceBounds,ho',ku (Int.le_trans a1 a2) a3],h2⟩
 ·subst e1;rcases zY h1 with ⟨e2,h2⟩|⟨o',k',h',e2,ho',h2⟩
  ·subst e2;obtain⟨a1,a2,a3⟩:=hb _ _ h2;exact⟨_,_,by simp[Instr.sliceBounds,ho,ku a1 a2],h2⟩
  ·subst e2;obtain⟨a1,a2,a3⟩:=hb _ _ h2;have a4:l<=((h'.toNat:Nat):Int):=by omega
   exact⟨_,_,by simp[Instr.sliceBounds,ho,ho',ku (Int.le_trans a1 a2) a3,ku a1 a4],h2⟩
theorem afJ {isS:Bool} {len cap:Nat} {ρ:Operand->Value} {lo:Option Operand} {oh om:Operand} {φ:Int->Int->Int->Prop} {w:θ}
  (h:yH ρ lo 0 λl=>yH ρ (some oh) 0 λh=>yH ρ (some om) 0 λm=>φ l h m) (hb:∀l h m,φ l h m->0<=l/\l<=h/\h<=m/\m<=(cap:Int)):
  ∃l h m,(Instr.sliceBounds isS len cap (lo.map ρ) (some (ρ oh)) (some (ρ om))).run P w= .ok (l.toNat,h.toNat,m.toNat) w/\φ l h m:=by
 have key:∀l,(yH ρ (some oh) 0 λh=>yH ρ (some om) 0 λm=>φ l h m)->∃kh h km m,ρ oh= .int kh h/\ρ om= .int km m/\φ l h m:=by
  intro l hh;rcases zY hh with ⟨e2,_⟩|⟨o',k',h',e2,ho',h2⟩
  ·cases e2
  ·cases e2
   rcases zY h2 with ⟨e3,_⟩|⟨o'',k'',h'',e3,ho'',h3⟩
   ·cases e3
   ·cases e3
    exact⟨_,_,_,_,ho',ho'',h3⟩
 rcases zY h with ⟨e1,h1⟩|⟨o,k,l,e1,ho,h1⟩
 ·subst e1;obtain⟨kh,h',km,m,ho,hm,h2⟩:=key _ h1;obtain⟨a1,a2,a3,a4⟩:=hb _ _ _ h2;have b1:(0:Int)<=m:=by omega
  have b3:h'<=((m.toNat:Nat):Int):=by omega
  exact⟨_,_,_,by simp[Instr.sliceBounds,ho,hm,ku b1 a4,ku a2 b3],h2⟩
 ·subst e1;obtain⟨kh,h',km,m,ho',hm,h2⟩:=key _ h1;obtain⟨a1,a2,a3,a4⟩:=hb _ _ _ h2;have b1:(0:Int)<=m:=by omega
  have b2:(0:Int)<=h':=by omega
  have b3:h'<=((m.toNat:Nat):Int):=by omega
  have b4:l<=((h'.toNat:Nat):Int):=by omega
  exact⟨_,_,_,by simp[Instr.sliceBounds,ho,ho',hm,ku b1 a4,ku b2 b3,ku a1 b4],h2⟩
theorem YI {t:TypeId} {x:Value} {ρ:Operand->Value} {lo hi mx:Option Operand} {φ:Value->Prop} {w:θ} (h:IY P t x ρ lo hi mx φ):
  ∃v,(Instr.sliceAt t x (lo.map ρ) (hi.map ρ) (mx.map ρ)).run P w= .ok v w/\φ v:=by
 unfold IY at h;split at h
 ·rename_i s ht;split at h
  ·obtain⟨l,h',hr,h0⟩:=Xl (P:=P) (isS:=false) (len:=s.size) (cap:=s.size) (w:=w) (.inr rfl) h (λl h' hh=>⟨hh.1,hh.2.1,hh.2.2.1⟩);exact⟨_,by simp[Instr.sliceAt,Instr.slice,run_underlying ht,hr],h0.2.2.2⟩
  ·exact h.elim
 ·rename_i e a n c ht;split at h
  ·rename_i size hs;split at h
   ·obtain⟨l,h',hr,h0⟩:=Xl (P:=P) (isS:=true) (len:=n) (cap:=c) (w:=w) (.inl rfl) h (λl h' hh=>⟨hh.1,hh.2.1,hh.2.2.1⟩);exact⟨_,by simp[Instr.sliceAt,Instr.slice,run_underlying ht,hr,jD hs,fU.v,qM],h0.2.2.2⟩
   ·rename_i m;split at h
    ·rename_i hi';obtain⟨l,h',m',hr,h0⟩:=afJ (P:=P) (isS:=true) (len:=n) (cap:=c) (w:=w) h (λl h' m' hh=>⟨hh.1,hh.2.1,hh.2.2.1,hh.2.2.2.1⟩);exact⟨_,by simp[Instr.sliceAt,Instr.slice,run_underlying ht,hr,jD hs,fU.v,qM],h0.2.2.2.2⟩
    ·exact h.elim
  ·exact h.elim
 ·rename_i n e a ht;split at h
  ·rename_i size hs;split at h
   ·obtain⟨l,h',hr,h0⟩:=Xl (P:=P) (isS:=false) (len:=n) (cap:=n) (w:=w) (.inr rfl) h (λl h' hh=>⟨hh.1,hh.2.1,hh.2.2.1⟩);exact⟨_,by simp[Instr.sliceAt,Instr.sureAddr,run_underlying ht,hr,jD hs,fU.v],h0.2.2.2⟩
   ·exact h.elim
  ·exact h.elim
 ·exact h.elim
end
end Gp
end
