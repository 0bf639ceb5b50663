import Derived.Test.YtcmnjlhbgjhbcaaGreatDoorW8
import Derived.Test.YtcmnjlhbgjhbcaaGreatDoorW5
import Derived.Lib.Overlaps
import Derived.Test.YtcmnjlhbgjhbcaaGreatDoorW3
import Derived.Test.YtcmnjlhbgjhbcaaGreatDoorW2
open List (length_take mem_cons mem_singleton pairwise_append)
open Int (toNat_natCast)
set_option maxRecDepth 100000
section
open List (getElem?_cons_succ getElem?_cons_zero)
namespace Go.Proofs.VN
open Gp Gp.V4
theorem byte_at {w:World} {s:eY} {l:List UInt8} (h:iF w s l) {i:Nat} (hi:i<l.length) {K:Addr->Prop} (hK:∀a,w.cell? (a)=some (.int .u8 (l[i].toNat:Int))->(a.block<w.heap.size)->K a):iP s 1 (i:Int) K:=by
 have hsl:=h.1;obtain⟨a,ha,hc⟩:=h.at_ (List.getElem?_eq_getElem hi);exact⟨a,ha,by omega,by omega,hK _ (by rw[toNat_natCast,Nat.mul_one];exact hc) (by rw[toNat_natCast,Nat.mul_one];exact cell_lt hc)⟩
theorem low4 (x:UInt8):IntKind.i64.wrap ((IntKind.i64.wrap (wH .u8 (x.toNat:Int) 15)) * 4)=((x.toNat % 16 * 4:Nat):Int):=by
 have h:=x.toNat_lt;have:=akj (a:=x.toNat) (b:=15) (by omega) (by omega);rw[show (15:Nat)=2^4 - 1 by decide,Pm] at this;rw[show (((2^4 - 1:Nat):Nat):Int)=15 from rfl] at this;rw[this,wrap_i64 (n:=((x.toNat % 2^4:Nat):Int)) (by omega) (by omega),wrap_i64 (by omega) (by omega)];omega
theorem abY {l:List UInt8} (h:0<l.length):hlen l=l[0].toNat % 16 * 4:=by
 unfold hlen;rw[List.getElem?_eq_getElem h];rfl
theorem alV {l:List UInt8} (h:0<l.length):ver l=l[0].toNat / 16:=by
 unfold ver;rw[List.getElem?_eq_getElem h];rfl
theorem ab8 {w:World} {s:eY} {l:List UInt8} (hs:iF w s l) (hl:l.length<=2^46) (q:Bool):
  zA s q w λb h z e w'=>e=oO l q/\Ext w w'/\(e=0->b=s/\h=(hlen l:Int)/\z=(num l 2 2:Int)):=by
 apply aa4;have hsl:=hs.1;refine fP λa w1 r1 e1 z1 f1=> ?_;by_cases c1:l.length<20
 ·have c1':((s.len:Int)<20):=by omega
  simp only[c1',decide_true,cond_true];refine fK r1 rfl rfl λw2 r2 f2 _=> ?_;simp only[sx,gJ,ig,getElem?_cons_zero,getElem?_cons_succ,r2.cell];exact⟨by simp[oO,c1],f1.new (f2 (·=a) rfl) λy hy e=>by omega,λh=>by cases h⟩
 have c1':¬((s.len:Int)<20):=by omega
 simp only[c1',decide_false,cond_false];have hs1:=hs.ext f1;refine byte_at (i:=0) hs1 (by omega) λa0 hc0 hb0=> ?_;simp -zeta only[sx,gJ,ig,hc0,low4,<- abY (show 0<l.length by omega)];refine uP rfl rfl λb w2 r2 e2 z2 f2=> ?_;simp -zeta only[sx,gJ,ig,getElem?_cons_zero,getElem?_cons_succ,r2.cell];refine qW (Xd (hs1.ext f2) hl (by omega) (by omega) _ _) ?_;rintro _ w3 ⟨rfl,f3⟩;refine gB (r2.ext f3) rfl (by simp) λw4 r4 f4 z4=> ?_;have hsz3:=f3.size;have x4:Ext w1 w4:=(f2.trans f3).new (f4 (·=b) rfl) λy hy e=>by omega
 have x5:Ext w w4:=f1.trans x4;have ra:=r1.ext x4;simp only[List.set_cons_zero,List.set_cons_succ,show (Int.toNat 2)=2 from rfl] at r4;have hs4:=hs1.ext x4;have hlt16:hlen l<=60:=by rw[abY (show 0<l.length by omega)];omega
 have fin:∀(e:Int) W,Ext w4 W->e=oO l q->e≠0->iL [(Value.slice none 0 0),(Value.int .i64 0),(Value.int .i64 0)] W ⟨a,0,none⟩ 0 λu=>
   G_ .slice (u.cell? ⟨a,0,none⟩) λJ=>G_ (.int .i64) (u.cell? ⟨a,1,none⟩) λU=>G_ (.int .i64) (u.cell? ⟨a,2,none⟩) λZ=>(e=oO l q/\Ext w u/\(e=0->J=s/\U=(hlen l:Int)/\Z=(num l 2 2:Int))):=by
  intro e W hx he aa;refine fK (ra.ext hx) rfl rfl λu I f28 _=> ?_;simp only[getElem?_cons_zero,getElem?_cons_succ,fC,fE,fD,I.cell];exact⟨he,(x5.trans hx).new (f28 (·=a) rfl) λy hy e=>by omega,λh=>absurd h aa⟩
 refine byte_at (i:=0) hs4 (by omega) λa1 hc1 _=> ?_;have ev:(jy .u8 (l[0].toNat:Int) 4 !=4)=decide (ver l≠4):=by
  rw[alV (show 0<l.length by omega)];have:=alF (a:=l[0].toNat) (k:=4) (by omega);rw[show ((4:Nat):Int)=4 from rfl,show (2:Nat)^4=16 by decide] at this;rw[this];generalize l[0].toNat / 16=q;by_cases h:q=4
  ·subst h;rfl
  ·simp[h];omega
 simp only[getElem?_cons_zero,getElem?_cons_succ,fC,fE,fD,hc1,r4.cell,ev];refine⟨by omega,?_⟩;by_cases v:ver l≠4
 ·simp only[v,ne_eq,not_false_eq_true,decide_true,cond_true];exact fin 4 w4 (Ext.refl _) (by simp only[oO];rw[if_neg (by omega),if_pos (.inl v)]) (by omega)
 simp only[v,decide_false,cond_false];by_cases ab:hlen l<20
 ·have j:((hlen l:Int)<20):=by omega
  simp only[j,decide_true,cond_true];exact fin 4 w4 (Ext.refl _) (by simp only[oO];rw[if_neg (by omega),if_pos (.inr ab)]) (by omega)
 have j:¬((hlen l:Int)<20):=by omega
 have o1:oO l q=if l.length<hlen l\/(l.length<num l 2 2/\q=false) then 3 else if num l 2 2<hlen l\/32768<=num l 6 2 then 4 else 0:=by
  simp only[oO];rw[if_neg (by omega),if_neg (by rintro(h|h);exact v h;omega)]
 simp only[j,decide_false,cond_false];by_cases c3:l.length<hlen l
 ·have c3':((hlen l:Int)>(s.len:Int)):=by omega
  simp only[c3',decide_true,cond_true];exact fin 3 w4 (Ext.refl _) (by rw[o1,if_pos (.inl c3)]) (by omega)
 have c3':¬((hlen l:Int)>(s.len:Int)):=by omega
 simp only[c3',decide_false,cond_false];by_cases c4:l.length<num l 2 2/\q=false
 ·have c4':((num l 2 2:Int)>(s.len:Int)):=by omega
  simp only[c4',decide_true,c4.2,Bool.not_false,cond_true];have:=fin 3 w4 (Ext.refl _) (by rw[o1,if_pos (.inr c4)]) (by omega);rw[c4.2] at this;exact this
 have cont:∀X Y:Prop,(bif decide ((num l 2 2:Int)>(s.len:Int)) then (bif !q then X else Y) else Y)=Y:=by
  intro X Y;by_cases c4':((num l 2 2:Int)>(s.len:Int))
  ·cases q with
   |true=>simp
   |false=>exact absurd ⟨by omega,rfl⟩ c4
  ·simp only[c4',decide_false,cond_false]
 rw[if_neg (by rintro(h|h);exact c3 h;exact c4 h)] at o1;simp only[cont];by_cases c5:num l 2 2<hlen l
 ·have c5':((num l 2 2:Int)<(hlen l:Int)):=by omega
  simp only[c5',decide_true,cond_true];exact fin 4 w4 (Ext.refl _) (by rw[o1,if_pos (.inl c5)]) (by omega)
 have c5':¬((num l 2 2:Int)<(hlen l:Int)):=by omega
 simp only[c5',decide_false,cond_false];refine qW (Xd hs4 hl (by omega) (by omega) _ _) ?_;rintro _ w5 ⟨rfl,f5⟩;have n6:=K_ l 6;have eb:(wH .i64 ((num l (Int.toNat 6) (Int.toNat 2):Nat):Int) 32768 !=0)=decide (32768<=num l 6 2):=by
  have:=aae (n:=num l 6 2) (k:=15) (by omega) (by omega);rw[show (((2^15:Nat):Nat):Int)=32768 from rfl] at this;rw[show (Int.toNat 6)=6 from rfl,show (Int.toNat 2)=2 from rfl,this];by_cases h:32768<=num l 6 2
  ·simp only[h,decide_true,beq_iff_eq];omega
  ·simp only[h,decide_false,beq_eq_false_iff_ne,ne_eq];omega
 have r5:=r4.ext f5;simp only[getElem?_cons_zero,getElem?_cons_succ,fC,fE,fD,eb,r5.cell];by_cases c6:32768<=num l 6 2
 ·simp only[c6,decide_true,cond_true];exact fin 4 w5 f5 (by rw[o1,if_pos (.inr c6)]) (by omega)
 simp only[c6,decide_false,cond_false];refine fK (ra.ext f5) rfl rfl λu I f28 _=> ?_;simp only[sx,gJ,ig,true_and,getElem?_cons_zero,getElem?_cons_succ,fC,fE,fD,I.cell];exact⟨by rw[o1,if_neg (by omega)],(x5.trans f5).new (f28 (·=a) rfl) λy hy e=>by omega,λ_=>by trivial⟩
theorem Vd {l:List UInt8} {q:Bool} (h:oO l q=0):20<=hlen l/\hlen l<=l.length/\hlen l<=num l 2 2/\20<=l.length:=by
 unfold oO at h;split at h
 ·omega
 split at h
 ·omega
 split at h
 ·omega
 split at h
 ·omega
 omega
theorem DI (w:World):OG w lS.zero 0 0 0 0 0 0 0 false false ⟨none,0,0⟩ ⟨none,0,0⟩:=⟨rfl,rfl,rfl,rfl,rfl,rfl,rfl,rfl,rfl,iF.nil,iF.nil⟩
theorem QH {l:List UInt8}:(field l).opts.length<=l.length/\(field l).data.length<=l.length:=by
 simp only[field,List.length_drop,length_take];omega
set_option maxRecDepth 100000 in
theorem Zu {w:World} {s:eY} {l:List UInt8} (hs:iF w s l) (hl:l.length<=2^40):
  wL s w λt i o l' p s' d df mf op da e w'=>e=rF l false/\OG w' (V4.read l false) t i o l' p s' d df mf op da/\Ext w w':=by
 apply Zn;have hsl:=hs.1;refine fP λa w1 r1 e1 z1 f1=> ?_;refine Qq (ab8 (hs.ext f1) (by omega) false) ?_;rintro b h z e w2 ⟨rfl,f2,h2⟩;refine uP rfl rfl λc w3 r3 e3 z3 f3=> ?_;have x3:=f2.trans f3;have ra:=r1.ext x3;by_cases ho:oO l false=0
 ·obtain⟨rfl,rfl,rfl⟩:=h2 ho;have hz:=Vd ho;simp only[sx,gJ,ig,getElem?_cons_zero,getElem?_cons_succ,r3.cell,ho,show ((0:Int) !=0)=false from rfl];refine mF ((hs.ext f1).ext x3) (by omega) (by omega) (by omega) λs4 hs4 _=> ?_;rw[show (Int.toNat 0)=0 from rfl,List.drop_zero,toNat_natCast] at hs4;refine fP λd w4 r4 e4 z4 f4=> ?_;refine zh (G5 (GY r4 (hs4.ext f4)) (by simp) (by intro q hq;simp only[mem_singleton] at hq;subst hq;simp only[length_take];omega)) ?_;rintro _ w5 ⟨rfl,f5⟩;rw[SH];have x5:=x3.trans (f4.trans f5);have hsz5:=x5.size;by_cases hr:fold (tot (l.take (hlen l)))=65535
  ·simp only[hr,decide_true,Bool.not_true,cond_false];have r5:=r3.ext (f4.trans f5);simp only[getElem?_cons_zero,getElem?_cons_succ,fC,fE,fD,r5.cell];refine yQ (Ve ((hs.ext f1).ext x5) (by omega) hz.1 hz.2.1 hz.2.2.1) ?_;rintro _ _ _ _ _ _ _ _ _ op da w6 ⟨⟨rfl,rfl,rfl,rfl,rfl,rfl,rfl,rfl,rfl,I,J⟩,no,nd,f6⟩;have hlo:=QH (l:=l);have j:=I.1;have u:=J.1;refine uP rfl rfl λg w7 r7 e7 z7 f7=> ?_;simp only[sx,gJ,ig,getElem?_cons_zero,getElem?_cons_succ,r7.cell];refine uH (yj (field l) (o:=op) (d:=da) j u (by omega) (by omega)) ?_;rintro _ w8 ⟨rfl,f8⟩;have r8:=r7.ext f8;have x8:Ext w w8:=((((f1.trans x5).trans f6).trans f7).trans f8);have x8':Ext w1 w8:=(((x5.trans f6).trans f7).trans f8);have rd:rF l false=if (field l).check≠0 then 4 else 0:=by
    unfold rF;rw[ho,hr];simp
   by_cases hc:(field l).check=0
   ·simp only[hc,show ((0:Int) !=0)=false from rfl,cond_false,getElem?_cons_zero,getElem?_cons_succ,fC,fE,fD,gW,r8.cell];refine fK (r1.ext x8') rfl rfl λw9 r9 f9 _=> ?_;simp only[getElem?_cons_zero,getElem?_cons_succ,fC,fE,fD,gW,r9.cell];have rd0:rF l false=0:=by rw[rd,hc];simp
    refine⟨by rw[rd0],?_,x8.new (f9 (·=a) rfl) λy hy e=>by omega⟩;unfold V4.read;rw[if_pos rd0];have hsz6:=f6.size;refine⟨rfl,rfl,rfl,rfl,rfl,rfl,rfl,rfl,rfl,?_,?_⟩
    ·exact iF.fr ((I.ext f7).ext f8) (f9 (·=a) rfl) λx hx _ e=>by have:=no x hx;omega
    ·exact iF.fr ((J.ext f7).ext f8) (f9 (·=a) rfl) λx hx _ e=>by have:=nd x hx;omega
   ·have hc':((field l).check !=0)=true:=by simpa using hc
    simp only[hc',cond_true];refine fK (r1.ext x8') rfl rfl λw9 r9 f9 _=> ?_;simp only[getElem?_cons_zero,getElem?_cons_succ,fC,fE,fD,gW,r9.cell];have rd0:rF l false=4:=by rw[rd,if_pos hc]
    refine⟨by rw[rd0],?_,x8.new (f9 (·=a) rfl) λy hy e=>by omega⟩;unfold V4.read;rw[rd0];exact DI _
  ·simp only[hr,decide_false,Bool.not_false,cond_true];refine fK (r1.ext x5) rfl rfl λw9 r9 f9 _=> ?_;simp only[getElem?_cons_zero,getElem?_cons_succ,fC,fE,fD,gW,r9.cell];have rd0:rF l false=5:=by unfold rF;rw[ho];simp[hr]
   refine⟨by rw[rd0],?_,(f1.trans x5).new (f9 (·=a) rfl) λy hy e=>by omega⟩;unfold V4.read;rw[rd0];exact DI _
 ·have ho':(oO l false !=0)=true:=by simpa using ho
  simp only[sx,gJ,ig,ho'];refine fK ra rfl rfl λw9 r9 f9 _=> ?_;simp only[getElem?_cons_zero,getElem?_cons_succ,fC,fE,fD,gW,r9.cell];have rd0:rF l false=oO l false:=by unfold rF;rw[if_pos ho]
  refine⟨by rw[rd0],?_,(f1.trans x3).new (f9 (·=a) rfl) λy hy e=>by omega⟩;unfold V4.read;rw[rd0,if_neg ho];exact DI _
end Go.Proofs.VN
end
section
namespace Go.Proofs.VN
open Gp Gp.V4
theorem WV (a b:Int):(a==b)=decide (a=b):=rfl
theorem Vo {w:World} {s:eY} {l:List UInt8} (hs:iF w s l) (hl:l.length<=2^40):
  uD s w λt i o l' p s' d df mf op da e w'=>e=rF l true/\OG w' (V4.read l true) t i o l' p s' d df mf op da/\Ext w w':=by
 apply Xu;have hsl:=hs.1;refine fP λa w1 r1 e1 z1 f1=> ?_;refine Qq (ab8 (hs.ext f1) (by omega) true) ?_;rintro b h z e w2 ⟨rfl,f2,h2⟩;refine uP rfl rfl λc w3 r3 e3 z3 f3=> ?_;have x3:=f2.trans f3;have ra:=r1.ext x3;have hsz3:=x3.size;by_cases ho:oO l true=0
 ·obtain⟨rfl,rfl,rfl⟩:=h2 ho;have hz:=Vd ho;simp only[sx,gJ,ig,r3.cell,ho,show ((0:Int) !=0)=false from rfl];refine yQ (Ve ((hs.ext f1).ext x3) (by omega) hz.1 hz.2.1 hz.2.2.1) ?_;rintro _ _ _ _ _ _ _ _ _ op da w6 ⟨⟨rfl,rfl,rfl,rfl,rfl,rfl,rfl,rfl,rfl,j,u⟩,no,nd,f6⟩;refine fK (ra.ext f6) rfl rfl λw9 r9 f9 _=> ?_;simp only[d_,fC,fE,fD,gW,r9.cell];have rd0:rF l true=0:=by unfold rF;rw[ho];simp
  refine⟨by rw[rd0],?_,((f1.trans x3).trans f6).new (f9 (·=a) rfl) λy hy e=>by omega⟩;unfold V4.read;rw[if_pos rd0];refine⟨rfl,rfl,rfl,rfl,rfl,rfl,rfl,rfl,rfl,?_,?_⟩
  ·exact iF.fr j (f9 (·=a) rfl) λx hx _ e=>by have:=no x hx;omega
  ·exact iF.fr u (f9 (·=a) rfl) λx hx _ e=>by have:=nd x hx;omega
 ·have ho':(oO l true !=0)=true:=by simpa using ho
  simp only[sx,gJ,ig,ho'];refine fK ra rfl rfl λw9 r9 f9 _=> ?_;simp only[d_,fC,fE,fD,gW,r9.cell];have rd0:rF l true=oO l true:=by unfold rF;rw[if_pos ho]
  refine⟨by rw[rd0],?_,(f1.trans x3).new (f9 (·=a) rfl) λy hy e=>by omega⟩;unfold V4.read;rw[rd0,if_neg ho];exact DI _
theorem aiY {n:Nat}:IntKind.u8.wrap (n:Int)=((UInt8.ofNat n).toNat:Int):=by
 rw[IntKind.wrap_u8];simp
end Go.Proofs.VN
end
section
namespace Gp.V4
def II (a:Int):Prop:=16777216<=a/\a<3758096384/\a / 16777216≠127
instance (a:Int):Decidable (II a):=inferInstanceAs (Decidable (_/\_))
def WE (k:Int):Prop:=(3<=k/\k<=5)\/k=11\/k=12
instance (a:Int):Decidable (WE a):=inferInstanceAs (Decidable (_\/_))
theorem II.right {a:Int} (h:II a):pR a:=⟨by have:=h.1;omega,by have:=h.2.1;omega⟩
structure NR where
 kind:Int
 code:Int
 rest:Int
 data:List UInt8
def NR.fine (m:NR):Prop:=jv m.kind 1/\jv m.code 1/\jv m.rest 4
instance (m:NR):Decidable m.fine:=inferInstanceAs (Decidable (_/\_))
def NR.check (m:NR):Int:=if m.fine then if m.data.length<=65527 then 0 else 6 else 1
def NR.body (m:NR) (s:Nat):List UInt8:=oU 1 m.kind.toNat++oU 1 m.code.toNat++oU 2 s++oU 4 m.rest.toNat++m.data
def NR.sum (m:NR):Nat:=65535 - fold (tot (m.body 0))
def NR.bytes (m:NR):List UInt8:=m.body m.sum
theorem Yc (m:NR) (s:Nat):(m.body s).length=8+m.data.length:=by
 simp only[NR.body,List.length_append,nV]
theorem abI (m:NR) (s:Nat):m.body s=UInt8.ofNat m.kind.toNat::UInt8.ofNat m.code.toNat::UInt8.ofNat (s / 256)::UInt8.ofNat s::
  UInt8.ofNat (m.rest.toNat / 16777216)::UInt8.ofNat (m.rest.toNat / 65536)::UInt8.ofNat (m.rest.toNat / 256)::UInt8.ofNat m.rest.toNat::m.data:=by
 simp[NR.body,oU]
theorem Oo {m:NR} (h:m.check=0):m.fine/\m.data.length<=65527:=by
 unfold NR.check at h;split at h
 ·split at h
  ·exact⟨by assumption,by assumption⟩
  ·omega
 ·omega
def XD (p:lS):Bool:=if p.proto=1 then (match p.data with|[]=>false|b::_=> !decide (WE (b.toNat:Int))) else true
def lS.size (p:lS):Nat:=20+p.opts.length+p.data.length
def Rf (l:List UInt8):Bool:=
 decide (rF l true=0) && (decide ((field l).off<=0) && (decide (II (field l).src) && (decide (II (field l).dst) && XD (field l))))
theorem FH {l:List UInt8}:Rf l=true↔rF l true=0/\(field l).off<=0/\II (field l).src/\II (field l).dst/\XD (field l)=true:=by
 simp[Rf]
def Ol (kind code rest:Int) (l:List UInt8):NR:=⟨kind,code,rest,l.take (min (field l).size 548)⟩
def Q_ (from_ kind code rest:Int) (l:List UInt8):lS:=⟨0,0,0,64,1,from_,(field l).src,false,false,[],(Ol kind code rest l).bytes⟩
def FC (from_ kind code rest:Int) (l:List UInt8):Int:=
 if Rf l=true then if (Ol kind code rest l).check=0 then if (Q_ from_ kind code rest l).check=0 then 0 else 1 else 1 else 11
def Om (from_ kind code rest:Int) (l:List UInt8):lS:=if FC from_ kind code rest l=0 then Q_ from_ kind code rest l else lS.zero
theorem QI {l:List UInt8} (h:oO l true=0):20<=(field l).size/\(field l).size<=l.length:=by
 unfold oO at h;split at h
 ·omega
 split at h
 ·omega
 split at h
 ·omega
 split at h
 ·omega
 simp only[lS.size,field,List.length_drop,length_take];omega
theorem adP {l:List UInt8} (h:rF l true=0):oO l true=0:=by
 unfold rF at h;split at h
 ·contradiction
 ·rename_i hx;exact Classical.byContradiction hx
end Gp.V4
end
section
open List (getElem?_cons_succ getElem?_cons_zero)
namespace Go.Proofs.VN
open Gp Gp.V4
theorem adn {w:World} {b:Nat} {l:List Int} {vs:List Value} (h:Row w b vs) (hv:vs=l.map λn=>Value.int .i64 n) (n c:Nat) (hn:n=l.length) (hl:l.length<=100) (x:Int):jl ⟨some ⟨b,0,none⟩,n,c⟩ x w λr w'=>(r>=0↔x∈l)/\w'=w:=by
 subst hv hn;apply uJ;refine fZ (λst W=>W=w/\∃i:Nat,i<=l.length/\st.1=(i:Int)/\x∉l.take i) (λst _=>l.length - st.1.toNat) ⟨rfl,0,by omega,rfl,by simp⟩ ?_;rintro⟨y,⟨⟩⟩ W ⟨rfl,i,hi,rfl,hp⟩ next u
 by_cases z:i<l.length
 ·have j:((i:Int)<(l.length:Int)):=by omega
  simp only[sx,gJ,ig,j,decide_true,h.cell,toNat_natCast,Nat.mul_one,List.getElem?_map,List.getElem?_eq_getElem z,Option.map_some];refine⟨by omega,by trivial,?_⟩;by_cases hx:x=l[i]
  ·simp only[WV,hx,decide_true,cond_true];exact⟨⟨λ_=>List.getElem_mem z,λ_=>by omega⟩,by trivial⟩
  ·simp only[WV,hx,decide_false,cond_false];rw[wrap_i64 (by omega) (by omega)];refine u _ _ ⟨rfl,i+1,by omega,by simp,?_⟩ (by simp only;omega);rw[List.take_succ_eq_append_getElem z,List.mem_append];rintro(h|h)
   ·exact hp h
   ·simp only[mem_singleton] at h;exact hx h
 ·have j:¬((i:Int)<(l.length:Int)):=by omega
  simp only[j,decide_false,cond_false];have:i=l.length:=by omega
  subst this;rw[List.take_length] at hp;exact⟨⟨λh=>by omega,λh=>absurd h hp⟩,by trivial⟩
theorem KN {w:World} {b:Nat} {l:List Int} {vs:List Value} (h:Row w b vs) (hv:vs=l.map λn=>Value.int .i64 n) (n c:Nat) (hn:n=l.length) (hl:l.length<=100) (x:Int):gQ ⟨some ⟨b,0,none⟩,n,c⟩ x w λr w'=>r=decide (x∈l)/\w'=w:=by
 apply qJ;refine uG (adn h hv n c hn hl x) ?_;rintro r w' ⟨hr,hw⟩;exact⟨decide_eq_decide.2 hr,hw⟩
theorem ae7 (k:Int) (w:World):oP k w λr w'=>r=decide (WE k)/\Ext w w':=by
 apply IQ;refine fP λa w1 r1 e1 z1 f1=> ?_;apply Ox;refine iO (KN (l:=[3,4,5,11,12]) r1 rfl 5 5 rfl (by decide) k) ?_;rintro _ w2 ⟨rfl,hw⟩;subst hw;refine⟨decide_eq_decide.2 ?_,f1⟩;simp only[mem_cons,List.not_mem_nil,or_false,WE];omega
theorem Eb (base bits a:Int) (k b:Nat) (hb:base=(b:Int)) (hk:bits=32 - (k:Int)) (hk2:k<=32) (w:World):kX base bits a w λr w'=>r=decide (pR a/\a / (2^k:Nat)=((b / 2^k:Nat):Int))/\Ext w w':=by
 subst hb hk;apply BN;refine fP λc w1 r1 e1 z1 f1=> ?_;simp only[sx,gJ,ig,getElem?_cons_zero,getElem?_cons_succ,r1.cell];refine nC (Ea _ _) ?_;rintro _ w2 ⟨rfl,hw⟩;subst hw;have x2:=f1.trans (Ext.drew w1);have j:IntKind.i64.wrap (32 - (32 - (k:Int)))=(k:Int):=by rw[wrap_i64 (by omega) (by omega)];omega
 by_cases hr:pR a
 ·simp only[hr,decide_true,cond_true,getElem?_cons_zero,fC,fD,r1.drew.cell,j];refine⟨by omega,by omega,?_,x2⟩;obtain⟨n,rfl⟩:∃n:Nat,a=(n:Int):=⟨a.toNat,by have:=hr.1;omega⟩;rw[BP (by omega),BP (by omega),WV];refine decide_eq_decide.2 ?_;rw[true_and,<- Int.natCast_ediv]
 ·simp only[hr,decide_false,cond_false];exact⟨(decide_eq_false λh=>h.1).symm,x2⟩
theorem Py (a:Int) (w:World):ku a w λr w'=>r=decide (II a)/\Ext w w':=by
 apply Ef;refine nC (Ea _ _) ?_;rintro _ w1 ⟨rfl,hw⟩;subst hw;by_cases hr:pR a
 ·simp only[hr,decide_true,Bool.not_true,cond_false];refine fP λb w2 r2 e2 z2 f2=> ?_;apply FX;have blk:∀i:Nat,i<3->∃(base bits:Int) (k c:Nat),r2=r2/\base=(c:Int)/\bits=32 - (k:Int)/\k<=32/\([.int .i64 0,.int .i64 8,.int .i64 2130706432,.int .i64 8,.int .i64 3758096384,.int .i64 3]:List Value)[i * 2]? =some (.int .i64 base)/\
    ([.int .i64 0,.int .i64 8,.int .i64 2130706432,.int .i64 8,.int .i64 3758096384,.int .i64 3]:List Value)[i * 2+1]? =some (.int .i64 bits)/\(k,c)=(if i=0 then (24,0) else if i=1 then (24,2130706432) else (29,3758096384)):=by
   intro i hi;have:i=0\/i=1\/i=2:=by omega
   rcases this with rfl|rfl|rfl
   ·exact⟨0,8,24,0,rfl,rfl,rfl,by omega,rfl,rfl,rfl⟩
   ·exact⟨2130706432,8,24,2130706432,rfl,rfl,rfl,by omega,rfl,rfl,rfl⟩
   ·exact⟨3758096384,3,29,3758096384,rfl,rfl,rfl,by omega,rfl,rfl,rfl⟩
  refine fZ (λst W=>∃i:Nat,i<=3/\st.1=(i:Int)/\Ext w2 W/\(0<i->a / 16777216≠0)/\(1<i->a / 16777216≠127)/\(2<i->a / 536870912≠7)) (λst _=>3 - st.1.toNat) ⟨0,by omega,rfl,Ext.refl _,by omega,by omega,by omega⟩ ?_;rintro⟨x,⟨⟩⟩ W ⟨i,hi,rfl,hx,h1,h2,h3⟩ next u
  by_cases I:i<3
  ·have j:((i:Int)<((3:Nat):Int)):=by omega
   obtain⟨base,bits,k,c,_,hb,hk,hk2,g1,g2,g3⟩:=blk i I;simp only[sx,gJ,ig,j,decide_true,toNat_natCast,(r2.ext hx).cell,g1,g2];refine⟨by omega,by trivial,uP rfl rfl λd w3 r3 e3 z3 f3=> ?_⟩;simp only[sx,gJ,ig,getElem?_cons_zero,getElem?_cons_succ,r3.cell];refine vH (Eb base bits a k c hb hk hk2 w3) ?_;rintro _ w4 ⟨rfl,f4⟩;have hi3:i=0\/i=1\/i=2:=by omega
   have z:(2:Nat)^24=16777216:=by decide
   have J:(2:Nat)^29=536870912:=by decide
   have fin:(pR a/\a / (2^k:Nat)=((c / 2^k:Nat):Int))↔(if i=0 then a / 16777216=0 else if i=1 then a / 16777216=127 else a / 536870912=7):=by
    rcases hi3 with rfl|rfl|rfl
    ·simp only[if_true,Prod.mk.injEq] at g3 ⊢;rw[g3.1,g3.2,z];simp[hr]
    ·simp only[if_true,Prod.mk.injEq,Nat.one_ne_zero,if_false] at g3 ⊢;rw[g3.1,g3.2,z];simp[hr]
    ·simp only[show ¬((2:Nat)=0) by omega,show ¬((2:Nat)=1) by omega,if_false,Prod.mk.injEq] at g3 ⊢;rw[g3.1,g3.2,J];simp[hr]
   by_cases hh:(pR a/\a / (2^k:Nat)=((c / 2^k:Nat):Int))
   ·simp only[decide_eq_true hh,cond_true];refine⟨?_,(f2.trans hx).trans (f3.trans f4)⟩;have hh':=fin.1 hh;have hr1:=hr.1;have hr2:=hr.2;symm;rw[Bool.not_true];refine decide_eq_false λhp=> ?_;obtain⟨p1,p2,p3⟩:=hp;rcases hi3 with rfl|rfl|rfl
    ·simp only[if_true] at hh';omega
    ·simp only[Nat.one_ne_zero,if_false,if_true] at hh';omega
    ·simp only[show ¬((2:Nat)=0) by omega,show ¬((2:Nat)=1) by omega,if_false] at hh';omega
   ·simp only[decide_eq_false hh,cond_false];have hh':=λh=>hh (fin.2 h);rw[wrap_i64 (by omega) (by omega)];refine u _ _ ⟨i+1,by omega,by simp,hx.trans (f3.trans f4),?_,?_,?_⟩ (by simp only;omega)
    ·intro _;rcases hi3 with rfl|rfl|rfl
     ·simpa using hh'
     ·exact h1 (by omega)
     ·exact h1 (by omega)
    ·intro _;rcases hi3 with rfl|rfl|rfl
     ·omega
     ·simpa using hh'
     ·exact h2 (by omega)
    ·intro _;rcases hi3 with rfl|rfl|rfl
     ·omega
     ·omega
     ·simpa using hh'
  ·have j:¬((i:Int)<((3:Nat):Int)):=by omega
   simp only[j,decide_false,cond_false];have:i=3:=by omega
   subst this;refine⟨?_,f2.trans hx⟩;have p1:=h1 (by omega);have p2:=h2 (by omega);have p3:=h3 (by omega);have hr1:=hr.1;have hr2:=hr.2;rw[Bool.not_false];exact(decide_eq_true ⟨by omega,by omega,p2⟩).symm
 ·simp only[hr,decide_false,Bool.not_false,cond_true];exact⟨(decide_eq_false λh=>hr h.right).symm,Ext.refl _⟩
theorem adC {w:World} (m:NR) {d:eY} (hd:d.len=m.data.length):vk m.kind m.code m.rest d w λr w'=>r=m.check/\Ext w w':=by
 apply Uj;refine fP λa w1 r1 e1 z1 f1=> ?_;intro J;have hJ:∀b,b=(!decide m.fine)->J b w1:=by
  rintro b rfl;simp only[sx,gJ,ig,J,getElem?_cons_zero,getElem?_cons_succ,r1.cell];by_cases hf:m.fine
  ·by_cases hs:m.data.length<=65527
   ·have:¬((d.len:Int)>65527):=by omega
    simp only[hf,this,decide_true,decide_false,Bool.not_true,cond_false];exact⟨by simp[NR.check,hf,hs],f1⟩
   ·have:((d.len:Int)>65527):=by omega
    simp only[hf,this,decide_true,Bool.not_true,cond_false,cond_true];exact⟨by simp[NR.check,hf,hs],f1⟩
  ·simp only[hf,decide_false,Bool.not_false,cond_true];exact⟨by simp[NR.check,hf],f1⟩
 simp -zeta only[sx,gJ,ig,getElem?_cons_zero,r1.cell];refine ny (qY _ _ _) ?_;rintro _ w2 ⟨rfl,hw⟩;subst hw;by_cases c1:jv m.kind 1
 ·simp -zeta only[c1,decide_true,Bool.not_true,cond_false,getElem?_cons_zero,getElem?_cons_succ,fC,fD,r1.cell];refine ny (qY _ _ _) ?_;rintro _ w2 ⟨rfl,hw⟩;subst hw;by_cases c2:jv m.code 1
  ·simp -zeta only[c2,decide_true,Bool.not_true,cond_false,getElem?_cons_zero,getElem?_cons_succ,fC,fD,r1.cell];refine ny (qY _ _ _) ?_;rintro _ w2 ⟨rfl,hw⟩;subst hw;exact hJ _ (congrArg (!·) (decide_eq_decide.2 ⟨λh=>⟨c1,c2,h⟩,λh=>h.2.2⟩))
  ·simp -zeta only[c2,decide_false,Bool.not_false,cond_true];exact hJ _ (by rw[decide_eq_false λh:m.fine=>c2 h.2.1];rfl)
 ·simp -zeta only[c1,decide_false,Bool.not_false,cond_true];exact hJ _ (by rw[decide_eq_false λh:m.fine=>c1 h.1];rfl)
def ahP (m:NR) (w w':World) (r:eY) (e:Int):Prop:=
 e=m.check/\(m.check=0->iF w' r m.bytes)/\Ext w w'/\(∀b,eY.at r b->w.heap.size<=b)/\(∀a,r.a=some a->eY.at r a.block)
theorem adB {w:World} (m:NR) {d:eY} (hd:iF w d m.data):vg m.kind m.code m.rest d w λr e w'=>ahP m w w' r e:=by
 apply Ui;refine fP λa w1 r1 e1 z1 f1=> ?_;simp only[sx,gJ,ig,getElem?_cons_zero,getElem?_cons_succ,r1.cell];refine TS (adC m (d:=d) hd.1) ?_;rintro _ w2 ⟨rfl,f2⟩;have r2:=r1.ext f2;by_cases hc:m.check=0
 ·obtain⟨⟨g1,g2,g3⟩,hs⟩:=Oo hc;have g1':=aiR g1;have g2':=aiR g2;simp only[hc,show ((0:Int) !=0)=false from rfl,cond_false,getElem?_cons_zero,getElem?_cons_succ,fC,fD,r2.cell];refine fP λb w3 r3 e3 z3 f3=> ?_;have rr:=r2.ext f3;simp only[getElem?_cons_zero,getElem?_cons_succ,fC,fD,rr.cell];obtain⟨t,ht⟩:∃t:Nat,m.kind=(t:Int):=⟨m.kind.toNat,by omega⟩;obtain⟨u,hu⟩:∃u:Nat,m.code=(u:Int):=⟨m.code.toNat,by omega⟩;rw[ht,hu,aiY,aiY] at r3;have b3:iF w3 ⟨some ⟨b,0,none⟩,4,4⟩ (oU 1 m.kind.toNat++oU 1 m.code.toNat++oU 2 0):=by
   refine iF.jI ?_;have:=iF.row (l:=oU 1 m.kind.toNat++oU 1 m.code.toNat++oU 2 0) (w:=w3) (b:=b) (by simpa [bytesV,oU,ht,hu] using r3);simpa [nV] using this
  refine pG (AU b3 (by simp[nV]) m.rest 4) ?_;rintro t4 w4 ⟨b4,f4,n4⟩;have e4:nI (oU 1 m.kind.toNat++oU 1 m.code.toNat++oU 2 0) m.rest 4=oU 1 m.kind.toNat++oU 1 m.code.toNat++oU 2 0++oU 4 m.rest.toNat:=by
   unfold nI;rw[if_pos g3];rfl
  rw[e4] at b4;have r4:=rr.ext f4;simp only[getElem?_cons_zero,getElem?_cons_succ,fC,fE,r4.cell];have x4:Ext w w4:=((f1.trans f2).trans f3).trans f4;refine kU b4 (hd.ext x4) (by simp[nV];omega) λt5 w5 b5 f5 n5 _=> ?_;have z3':=((f1.trans f2).trans f3).size;have z4:=x4.size;have x5:Ext w w5:=x4.new f5 λy hy h=>by have:=n4 y h;omega
  have b5:Buf w5 t5 (bytesV (m.body 0)):=b5;have l5:=Yc m 0;refine fP λc w6 r6 e6 z6 f6=> ?_;refine UQ (aiT (GY r6 (iF.jI (b5.ext f6))) (by simp) (by intro q hq;simp only[mem_singleton] at hq;subst hq;simp only;omega)) ?_;rintro _ w7 ⟨rfl,f7⟩;rw[SH];have e8:65535 - fold (tot (m.body 0))=m.sum:=rfl;rw[e8];have hsl:m.sum<65536:=by unfold NR.sum;omega
  have x7:=x5.trans (f6.trans f7);have z7:=x7.size;refine UO (aga (iF.jI ((b5.ext f6).ext f7)) (by omega) 2 (m.sum:Int) 2) ?_;rintro s9 e9 w9 ⟨hr9,f9,n9⟩;obtain⟨rfl,b9⟩:=acf ⟨⟨by omega,by omega⟩,by omega,by simp;omega⟩ (by omega) (by omega) hr9;refine⟨hc.symm,λ_=> ?_,x7.trans f9,λy hy=>by have:=n9 y hy;omega,λa ha=>b9.at_eq ha⟩;have eb:(m.body 0).take 2++oU 2 m.sum++(m.body 0).drop 4=m.bytes:=by
   unfold NR.bytes;rw[abI,abI];simp[oU]
  have:=iF.jI b9;rw[show (2:Int).toNat=2 from rfl,toNat_natCast,show (2+2:Nat)=4 from rfl,eb] at this;exact this
 ·have hc':(m.check !=0)=true:=by simpa using hc
  simp only[hc',cond_true];exact⟨rfl,λh=>absurd h hc,f1.trans f2,(by rintro b ⟨o,h⟩;cases h),(by rintro a h;cases h)⟩
theorem af0 {w:World} (p:lS) {o d:eY} (hd:iF w d p.data):uZ p.tos p.id p.off p.ttl p.proto p.src p.dst p.df p.mf o d w λr w'=>r=XD p/\Ext w w':=by
 apply Ug;refine fP λa w1 r1 e1 z1 f1=> ?_;simp only[sx,gJ,ig,getElem?_cons_zero,getElem?_cons_succ,r1.cell];have dl:=hd.1;unfold XD;by_cases hp:p.proto=1
 ·have:(p.proto !=1)=false:=by simp[hp]
  simp only[this,cond_false,if_pos hp]
  cases j:p.data with
  |nil=>
   have:¬((d.len:Int)>0):=by rw[dl,j];simp
   simp only[this,decide_false,cond_false];exact⟨by trivial,f1⟩
  |cons x xs=>
   have h0:0<p.data.length:=by rw[j];simp
   have:((d.len:Int)>0):=by omega
   simp only[this,decide_true,cond_true];refine byte_at (i:=0) (hd.ext f1) h0 λa0 hc0 _=> ?_;have ex:p.data[0]=x:=by simp[j]
   rw[ex] at hc0;have:=x.toNat_lt;simp only[fC,fD,hc0];rw[wrap_i64 (by omega) (by omega)];refine Iu (ae7 _ _) ?_;rintro _ w2 ⟨rfl,f2⟩;exact⟨by trivial,f1.trans f2⟩
 ·have:(p.proto !=1)=true:=by simpa using hp
  simp only[this,cond_true,if_neg hp];exact⟨by trivial,f1⟩
def amh (q:lS) (t i o l p s d:Int) (df mf:Bool) (op da:eY):Prop:=
 t=q.tos/\i=q.id/\o=q.off/\l=q.ttl/\p=q.proto/\s=q.src/\d=q.dst/\df=q.df/\mf=q.mf/\op.len=q.opts.length/\da.len=q.data.length
theorem aeZ {w:World} {s:eY} {l:List UInt8} (hs:iF w s l) (hl:l.length<=2^40):
  xM s w λt i o l' p s' d df mf op da f w'=>f=Rf l/\(Rf l=true->amh (field l) t i o l' p s' d df mf op da)/\Ext w w':=by
 apply Xi;refine fP λa w1 r1 e1 z1 f1=> ?_;refine KL (Vo (hs.ext f1) hl) ?_;rintro _ _ _ _ _ _ _ _ _ op da _ w2 ⟨rfl,⟨rfl,rfl,rfl,rfl,rfl,rfl,rfl,rfl,rfl,z,u⟩,f2⟩;refine uP rfl rfl λb w3 r3 e3 z3 f3=> ?_;have x3:Ext w1 w3:=f2.trans f3;have fin:∀W,Ext w1 W->Rf l=false->iL [(Value.int .i64 0),(Value.int .i64 0),(Value.int .i64 0),(Value.int .i64 0),(Value.int .i64 0),(Value.int .i64 0),(Value.int .i64 0),(Value.bool false),(Value.bool false),(Value.slice none 0 0),(Value.slice none 0 0)] W ⟨a,0,none⟩ 0 λj=>
   G_ (.int .i64) (j.cell? ⟨a,0,none⟩) λy1=>G_ (.int .i64) (j.cell? ⟨a,1,none⟩) λy2=>G_ (.int .i64) (j.cell? ⟨a,2,none⟩) λy3=>G_ (.int .i64) (j.cell? ⟨a,3,none⟩) λy4=>G_ (.int .i64) (j.cell? ⟨a,4,none⟩) λy5=>
   G_ (.int .i64) (j.cell? ⟨a,5,none⟩) λy6=>G_ (.int .i64) (j.cell? ⟨a,6,none⟩) λy7=>G_ .bool (j.cell? ⟨a,7,none⟩) λy8=>G_ .bool (j.cell? ⟨a,8,none⟩) λy9=>G_ .slice (j.cell? ⟨a,9,none⟩) λI=>G_ .slice (j.cell? ⟨a,10,none⟩) λJ=>
   (false=Rf l/\(Rf l=true->amh (field l) y1 y2 y3 y4 y5 y6 y7 y8 y9 I J)/\Ext w j):=by
  intro W hx he;refine fK (r1.ext hx) rfl rfl λj U f28 _=> ?_;simp only[getElem?_cons_zero,getElem?_cons_succ,fC,fE,fD,gW,U.cell];exact⟨he.symm,(by intro h;rw[he] at h;cases h),(f1.trans hx).new (f28 (·=a) rfl) λy hy e=>by omega⟩
 by_cases c1:rF l true=0
 ·have rd:V4.read l true=field l:=by unfold V4.read;rw[if_pos c1]
  rw[rd] at z u r3;simp only[sx,gJ,ig,c1,show ((0:Int) !=0)=false from rfl,getElem?_cons_zero,getElem?_cons_succ,r3.cell];by_cases c2:(field l).off<=0
  ·have c2':¬((field l).off>0):=by omega
   simp only[c2',decide_false,cond_false];refine qV (Py _ _) ?_;rintro _ w4 ⟨rfl,f4⟩;by_cases c3:II (field l).src
   ·simp only[c3,decide_true,Bool.not_true,cond_false,getElem?_cons_zero,getElem?_cons_succ,fC,fD,(r3.ext f4).cell];refine qV (Py _ _) ?_;rintro _ w5 ⟨rfl,f5⟩;have x5:Ext w3 w5.drew:=(f4.trans f5).trans (Ext.drew _);by_cases c4:II (field l).dst
    ·simp only[c4,decide_true,Bool.not_true,cond_false,getElem?_cons_zero,getElem?_cons_succ,fC,fE,fD,gW,(r3.ext x5).cell];refine TP (af0 (field l) (o:=op) (d:=da) ((u.ext f3).ext x5)) ?_;rintro _ w6 ⟨rfl,f6⟩;simp only[sx,gJ,ig,true_and,getElem?_cons_zero,getElem?_cons_succ,(r3.ext (x5.trans f6)).cell];have x6:=x3.trans (x5.trans f6);refine fK (r1.ext x6) rfl rfl λw7 r7 f7 _=> ?_;simp only[getElem?_cons_zero,getElem?_cons_succ,fC,fE,fD,gW,r7.cell];refine⟨by simp[Rf,c1,c2,c3,c4],λ_=>⟨rfl,rfl,rfl,rfl,rfl,rfl,rfl,rfl,rfl,z.1,u.1⟩,(f1.trans x6).new (f7 (·=a) rfl) λy hy e=>by omega⟩
    ·simp only[c4,decide_false,Bool.not_false,cond_true];exact fin w5 (x3.trans (f4.trans f5)) (Bool.eq_false_iff.2 λh=>c4 (FH.1 h).2.2.2.1)
   ·simp only[c3,decide_false,Bool.not_false,cond_true];exact fin w4 (x3.trans f4) (Bool.eq_false_iff.2 λh=>c3 (FH.1 h).2.2.1)
  ·have c2':((field l).off>0):=by omega
   simp only[c2',decide_true,cond_true];exact fin w3 x3 (Bool.eq_false_iff.2 λh=>c2 (FH.1 h).2.1)
 ·have c1':(rF l true !=0)=true:=by simpa using c1
  simp only[sx,gJ,ig,c1'];exact fin w3 x3 (Bool.eq_false_iff.2 λh=>c1 (FH.1 h).1)
theorem af5 {w:World} {s o d:eY} {l:List UInt8} (hs:iF w s l) (hl:l.length<=2^40) (p:lS) (ho:o.len=p.opts.length) (hd:d.len=p.data.length) (h1:p.size<=l.length):
  u_ s p.tos p.id p.off p.ttl p.proto p.src p.dst p.df p.mf o d w λr w'=>Buf w' r (bytesV (l.take (min p.size 548)))/\Ext w w':=by
 apply Uh;refine fP λa w1 r1 e1 z1 f1=> ?_;have hz:p.size=20+p.opts.length+p.data.length:=rfl;simp only[sx,gJ,ig,getElem?_cons_zero,getElem?_cons_succ,r1.cell];refine Jl (XP _ _ _ _ _ _ _ _ _ _ _ (show o.len<=2^60 by omega) (show d.len<=2^60 by omega) _) ?_;rintro _ w2 ⟨rfl,f2⟩;have e:(if (548:Int)<20+(({a:=o.a,len:=o.len,cap:=o.cap}:eY).len:Int)+(({a:=d.a,len:=d.len,cap:=d.cap}:eY).len:Int) then (548:Int) else 20+(({a:=o.a,len:=o.len,cap:=o.cap}:eY).len:Int)+(({a:=d.a,len:=d.len,cap:=d.cap}:eY).len:Int))=((min p.size 548:Nat):Int):=by
  simp only[ho,hd,hz];split<;>omega
 rw[e];refine mF ((hs.ext f1).ext f2) (by omega) (by omega) (by omega) λs3 hs3 _=> ?_;rw[show Int.toNat 0=0 from rfl,List.drop_zero,toNat_natCast] at hs3;refine gu (lK hs3 (by simp;omega)) ?_;rintro r w4 ⟨b4,_,f4,_⟩;exact⟨b4,(f1.trans f2).trans f4⟩
theorem aaQ {w:World} {from_ kind code rest e:Int} {l:List UInt8} (h:FC from_ kind code rest l=e) (he:e≠0):OG w (Om from_ kind code rest l) 0 0 0 0 0 0 0 false false ⟨none,0,0⟩ ⟨none,0,0⟩:=by
 unfold Om;rw[h,if_neg he];exact DI _
theorem ahN {w:World} {s:eY} {l:List UInt8} (hs:iF w s l) (hl:l.length<=2^40) (from_ kind code rest:Int):
  oK from_ kind code rest s w λt i o l' p s' d df mf op da e w'=>e=FC from_ kind code rest l/\OG w' (Om from_ kind code rest l) t i o l' p s' d df mf op da/\Ext w w':=by
 apply Xh;refine fP λa w1 r1 e1 z1 f1=> ?_;have fin:∀(e:Int) W,Ext w1 W->FC from_ kind code rest l=e->e≠0->iL [(Value.int .i64 0),(Value.int .i64 0),(Value.int .i64 0),(Value.int .i64 0),(Value.int .i64 0),(Value.int .i64 0),(Value.int .i64 0),(Value.bool false),(Value.bool false),(Value.slice none 0 0),(Value.slice none 0 0)] W ⟨a,0,none⟩ 0 λj=>
   G_ (.int .i64) (j.cell? ⟨a,0,none⟩) λy1=>G_ (.int .i64) (j.cell? ⟨a,1,none⟩) λy2=>G_ (.int .i64) (j.cell? ⟨a,2,none⟩) λy3=>G_ (.int .i64) (j.cell? ⟨a,3,none⟩) λy4=>G_ (.int .i64) (j.cell? ⟨a,4,none⟩) λy5=>
   G_ (.int .i64) (j.cell? ⟨a,5,none⟩) λy6=>G_ (.int .i64) (j.cell? ⟨a,6,none⟩) λy7=>G_ .bool (j.cell? ⟨a,7,none⟩) λy8=>G_ .bool (j.cell? ⟨a,8,none⟩) λy9=>G_ .slice (j.cell? ⟨a,9,none⟩) λu=>G_ .slice (j.cell? ⟨a,10,none⟩) λz=>
   (e=FC from_ kind code rest l/\OG j (Om from_ kind code rest l) y1 y2 y3 y4 y5 y6 y7 y8 y9 u z/\Ext w j):=by
  intro e W hx he I;refine fK (r1.ext hx) rfl rfl λj J f28 _=> ?_;simp only[getElem?_cons_zero,getElem?_cons_succ,fC,fE,fD,gW,J.cell];exact⟨he.symm,aaQ he I,(f1.trans hx).new (f28 (·=a) rfl) λy hy e=>by omega⟩
 refine V5 (aeZ (hs.ext f1) hl) ?_;rintro t i o l' p s' d df mf op da _ w2 ⟨rfl,hp,f2⟩;refine uP rfl rfl λb w3 r3 e3 z3 f3=> ?_;have x3:=f2.trans f3;by_cases hm:Rf l=true
 ·obtain⟨rfl,rfl,rfl,rfl,rfl,rfl,rfl,rfl,rfl,U,Y⟩:=hp hm;have hq:=FH.1 hm;have hz:=QI (adP hq.1);simp only[sx,gJ,ig,hm,Bool.not_true,getElem?_cons_zero,getElem?_cons_succ,r3.cell];refine TQ (af5 ((hs.ext f1).ext x3) hl (field l) (o:=op) (d:=da) U Y hz.2) ?_;rintro r4 w4 ⟨b4,f4⟩;refine uP rfl rfl λc w5 r5 e5 z5 f5=> ?_;simp only[sx,gJ,ig,getElem?_cons_zero,getElem?_cons_succ,r5.cell];refine TR (adB (Ol kind code rest l) (d:=r4) (iF.jI (b4.ext f5))) ?_;rintro r6 e6 w6 ⟨rfl,b6,f6,n6,n6'⟩;have y6:=f4.trans (f5.trans f6);have x6:=x3.trans y6;by_cases hc:(Ol kind code rest l).check=0
  ·simp only[hc,show ((0:Int) !=0)=false from rfl,cond_false,getElem?_cons_zero,getElem?_cons_succ,fC,fD,(r3.ext y6).cell];refine uP rfl rfl λg w7 r7 e7 z7 f7=> ?_;simp only[sx,gJ,ig,getElem?_cons_zero,getElem?_cons_succ,r7.cell];have b6:=b6 hc;have Z:=b6.1;have hml:(Ol kind code rest l).bytes.length=8+(Ol kind code rest l).data.length:=Yc _ _;have hdl:=(Oo hc).2;refine uH (yj (Q_ from_ kind code rest l) (o:=⟨none,0,0⟩) (d:=r6) rfl Z (by simp[Q_]) (by show (Ol kind code rest l).bytes.length<=2^46;omega)) ?_;rintro _ w8 ⟨rfl,f8⟩;have x8:=x6.trans (f7.trans f8);by_cases hk:(Q_ from_ kind code rest l).check=0
   ·simp only[hk,show ((0:Int) !=0)=false from rfl,cond_false,getElem?_cons_zero,getElem?_cons_succ,fC,fE,fD,gW,(r7.ext f8).cell];refine fK (r1.ext x8) rfl rfl λw9 r9 f9 _=> ?_;simp only[getElem?_cons_zero,getElem?_cons_succ,fC,fE,fD,gW,r9.cell];have me:FC from_ kind code rest l=0:=by unfold FC;rw[if_pos hm,if_pos hc,if_pos hk]
    refine⟨me.symm,?_,(f1.trans x8).new (f9 (·=a) rfl) λy hy e=>by omega⟩;unfold Om;rw[if_pos me];refine⟨rfl,rfl,rfl,rfl,rfl,rfl,rfl,rfl,rfl,iF.nil,?_⟩;have z5:w1.heap.size<=w5.heap.size:=(x3.trans (f4.trans f5)).size;exact iF.fr ((b6.ext f7).ext f8) (f9 (·=a) rfl) λx hx _ e=>by have:=n6 _ (n6' x hx);omega
   ·have hk':((Q_ from_ kind code rest l).check !=0)=true:=by simpa using hk
    simp only[hk',cond_true];exact fin 1 w8 x8 (by unfold FC;rw[if_pos hm,if_pos hc,if_neg hk]) (by omega)
  ·have hc':((Ol kind code rest l).check !=0)=true:=by simpa using hc
   simp only[hc',cond_true];exact fin 1 w6 x6 (by unfold FC;rw[if_pos hm,if_neg hc]) (by omega)
 ·have hm':Rf l=false:=by simpa using hm
  simp only[sx,gJ,ig,hm',Bool.not_false];exact fin 11 w3 x3 (by unfold FC;rw[if_neg hm]) (by omega)
end Go.Proofs.VN
end
section
namespace Gp.Hash
open Go
def full:Gu->Bool
 |none=>false
 |some _=>true
end Gp.Hash
end
section
open List (map_cons)
open Bool (and_eq_true)
namespace Gp.Hol
abbrev Pc:=Int×Bool×List UInt8
def pend (p:Pc):Int:=p.1+(p.2.2.length:Int)
def sh (p q:Pc):Bool:=(p.2.2.isEmpty && q.2.2.isEmpty && decide (p.1=q.1))||(!p.2.2.isEmpty && !q.2.2.isEmpty && decide (q.1<pend p) && decide (p.1<pend q))
def far (l:List Pc):Int:=l.foldl (λn q=>max n (pend q)) 0
def iU:List Pc->Int
 |[]=> -1
 |p::l=>if p.2.1=false then pend p else iU l
def sum (l:List Pc):Int:=(l.map λp=>(p.2.2.length:Int)).sum
def may (p:Pc):Int:=if p.1<0\/(p.2.1=true/\(p.2.2.length=0\/p.2.2.length % 8≠0)) then 4 else if p.1>65535 - (p.2.2.length:Int) then 6 else 0
theorem acg (p q:Pc):sh p q=sh q p:=by
 unfold sh;have h:decide (p.1=q.1)=decide (q.1=p.1):=decide_eq_decide.2 eq_comm
 cases p.2.2.isEmpty<;>cases q.2.2.isEmpty<;>simp[h,Bool.and_comm]
structure Good (L:List Pc):Prop where
 ok:∀p∈L,0<=p.1/\pend p<=65535/\(p.2.1=true->p.2.2≠[])
 apart:L.Pairwise λp q=>sh p q=false
 last:∀p∈L,p.2.1=false->∀q∈L,pend q<=pend p
 one:L.Pairwise λp q=>p.2.1=true\/q.2.1=true
theorem Good.nil:Good []:=⟨by simp,by simp,by simp,by simp⟩
theorem Good.perm {L L':List Pc} (h:Good L) (hp:L.Perm L'):Good L':=
 ⟨λp hm=>h.ok p (hp.mem_iff.2 hm),h.apart.perm hp (λ{p q} e=>by rw[acg];exact e),λp hm e q hq=>h.last p (hp.mem_iff.2 hm) e q (hp.mem_iff.2 hq),h.one.perm hp (λ{p q} e=>e.symm)⟩
theorem Az {L:List Pc}:(∀p∈L,p.2.1=true)->iU L= -1:=by
 induction L with
 |nil=>intro _;rfl
 |cons p l ih=>
  intro h;unfold iU;rw[if_neg (by rw[h p (by simp)];simp)];exact ih λq hq=>h q (by simp[hq])
theorem oQ {L:List Pc} (h1:L.Pairwise λp q=>p.2.1=true\/q.2.1=true) {p:Pc} (hp:p∈L) (hm:p.2.1=false):iU L=pend p:=by
 induction L with
 |nil=>simp at hp
 |cons q l ih=>
  unfold iU;by_cases hq:q.2.1=false
  ·rw[if_pos hq];rcases List.mem_cons.1 hp with rfl|hp
   ·rfl
   ·rcases(List.pairwise_cons.1 h1).1 p hp with h|h
    ·rw[hq] at h;cases h
    ·rw[hm] at h;cases h
  ·rw[if_neg hq];rcases List.mem_cons.1 hp with rfl|hp
   ·exact absurd hm hq
   ·exact ih (List.pairwise_cons.1 h1).2 hp
theorem Js {L L':List Pc} (h:L.Pairwise λp q=>p.2.1=true\/q.2.1=true) (hp:L.Perm L'):iU L=iU L':=by
 by_cases he:∃p∈L,p.2.1=false
 ·obtain⟨p,hm,hf⟩:=he;rw[oQ h hm hf,oQ (h.perm hp (λ{p q} e=>e.symm)) (hp.mem_iff.1 hm) hf]
 ·have h1:∀p∈L,p.2.1=true:=λp hm=>by
   cases hb:p.2.1
   ·exact absurd ⟨p,hm,hb⟩ he
   ·rfl
  rw[Az h1,Az λp hm=>h1 p (hp.mem_iff.2 hm)]
theorem QE {L:List Pc}:∀{n:Int},n<=L.foldl (λn q=>max n (pend q)) n/\∀p∈L,pend p<=L.foldl (λn q=>max n (pend q)) n:=by
 induction L with
 |nil=>intro n;simp
 |cons q l ih=>
  intro n;have:= @ih (max n (pend q));simp only[List.foldl_cons,mem_cons];refine⟨by omega,?_⟩;rintro p (rfl|hp)
  ·omega
  ·exact this.2 p hp
theorem WC {L:List Pc}:∀{n m:Int},n<=m->(∀p∈L,pend p<=m)->L.foldl (λn q=>max n (pend q)) n<=m:=by
 induction L with
 |nil=>intro n m h _;simpa using h
 |cons q l ih=>
  intro n m h hp;simp only[List.foldl_cons];have:=hp q (by simp);exact ih (by omega) λp h=>hp p (by simp[h])
theorem ae6 {L L':List Pc} (hp:L.Perm L'):far L=far L':=by
 unfold far;refine Int.le_antisymm (WC (QE).1 λp hm=>(QE (n:=0)).2 p (hp.mem_iff.1 hm)) (WC (QE).1 λp hm=>(QE (n:=0)).2 p (hp.mem_iff.2 hm))
theorem ahj {L:List Pc} {m:Int} (h:0<=m):far L<=m↔∀p∈L,pend p<=m:=
 ⟨λhf p hm=>Int.le_trans ((QE (n:=0)).2 p hm) hf,λhp=>WC h hp⟩
theorem Mc {L L':List Pc} (hp:L.Perm L'):sum L=sum L':=by
 induction hp with
 |nil=>rfl
 |cons x _ ih=>unfold sum at *;simp only[map_cons,List.sum_cons];omega
 |swap x y l=>unfold sum;simp only[map_cons,List.sum_cons];omega
 |trans _ _ i1 i2=>omega
def fits (l:List Pc) (last:Int) (p:Pc):Bool:=if p.2.1=true then decide (last<0)||decide (pend p<=last) else decide (last<0) && decide (far l<=pend p)
def add (L:List Pc) (p:Pc):Int×List Pc:=
 if may p≠0 then (may p,L) else if p∈L then (0,L) else if L.any (sh p) then (9,L) else if fits L (iU L) p=false then (4,L) else (0,L++[p])
theorem U9 {L:List Pc} (h:Good L):iU L<0↔∀p∈L,p.2.1=true:=by
 constructor
 ·intro hl p hm
  cases hb:p.2.1
  ·rw[oQ h.one hm hb] at hl;have:=(h.ok p hm).1;unfold pend at hl;omega
  ·rfl
 ·intro h1;rw[Az h1];omega
theorem afJ {p:Pc} (h:may p=0):0<=p.1/\pend p<=65535/\(p.2.1=true->p.2.2≠[]):=by
 unfold may at h;split at h
 ·cases h
 ·rename_i h1;split at h
  ·cases h
  ·rename_i h2;unfold pend;refine⟨by omega,by omega,λhm he=>h1 (.inr ⟨hm,.inl (by rw[he];rfl)⟩)⟩
theorem Good.add {L:List Pc} (h:Good L) {p:Pc} (h1:may p=0) (h2:L.any (sh p)=false) (h3:fits L (iU L) p=true):Good (L++[p]):=by
 have u:=afJ h1;have hp0:0<=pend p:=by unfold pend;omega
 refine⟨?_,?_,?_,?_⟩
 ·intro q hq;rcases List.mem_append.1 hq with hq|hq
  ·exact h.ok q hq
  ·rw[List.mem_singleton.1 hq];exact u
 ·rw[pairwise_append];refine⟨h.apart,by simp,λq hq r hr=> ?_⟩;rw[List.mem_singleton.1 hr,acg];have:=List.any_eq_false.1 h2 q hq;simpa using this
 ·intro q hq j r hr;unfold fits at h3;rcases List.mem_append.1 hq with hq|hq
  ·have hl:=oQ h.one hq j;have hl0:0<=pend q:=by have:=(h.ok q hq).1;unfold pend;omega
   rcases List.mem_append.1 hr with hr|hr
   ·exact h.last q hq j r hr
   ·rw[List.mem_singleton.1 hr];split at h3
    ·simp only[Bool.or_eq_true,decide_eq_true_eq] at h3;omega
    ·simp only[and_eq_true,decide_eq_true_eq] at h3;omega
  ·have hq:=List.mem_singleton.1 hq;subst hq;rw[j] at h3;simp only[Bool.false_eq_true,if_false,and_eq_true,decide_eq_true_eq] at h3;rcases List.mem_append.1 hr with hr|hr
   ·exact(ahj hp0).1 h3.2 r hr
   ·rw[List.mem_singleton.1 hr];exact Int.le_refl _
 ·rw[pairwise_append];refine⟨h.one,by simp,λq hq r hr=> ?_⟩;rw[List.mem_singleton.1 hr]
  cases hb:p.2.1
  ·unfold fits at h3;rw[hb] at h3;simp only[Bool.false_eq_true,if_false,and_eq_true,decide_eq_true_eq] at h3;exact .inl ((U9 h).1 h3.1 q hq)
  ·exact .inr rfl
def le (p q:Pc):Prop:=p.1<q.1\/(p.1=q.1/\p.2.2.length<=q.2.2.length)
def Chain (l:List Pc):Prop:=l.Pairwise λp q=>pend p<=q.1
theorem Good.chain {l:List Pc} (h:Good l) (hs:l.Pairwise le):Chain l:=by
 unfold Chain;have h1:=h.apart;have h2:=h.one;have:∀(m:List Pc),(∀p∈m,p∈l)->m.Pairwise le->(m.Pairwise λp q=>sh p q=false)->m.Pairwise λp q=>pend p<=q.1:=by
  intro m
  induction m with
  |nil=>intro _ _ _;simp
  |cons p m ih=>
   intro hm h1 h2;rw[List.pairwise_cons] at h1 h2 ⊢;refine⟨λq hq=> ?_,ih (λp h=>hm p (by simp[h])) h1.2 h2.2⟩;have a1:=h1.1 q hq;have a2:=h2.1 q hq;unfold le at a1;unfold sh at a2;by_cases hp:p.2.2=[]
   ·unfold pend;rw[hp];simp only[List.length_nil];omega
   ·by_cases hq':q.2.2=[]
    ·have j:q.2.1=false:=by
      cases hb:q.2.1
      ·rfl
      ·exact absurd hq' ((h.ok q (hm q (by simp[hq]))).2.2 hb)
     have:=h.last q (hm q (by simp[hq])) j p (hm p (by simp));unfold pend at this ⊢;rw[hq'] at this;simp only[List.length_nil] at this;omega
    ·have e1:p.2.2.isEmpty=false:=by cases hh:p.2.2<;>simp_all
     have e2:q.2.2.isEmpty=false:=by cases hh:q.2.2<;>simp_all
     have lq:0<q.2.2.length:=List.length_pos_iff.2 hq';rw[e1,e2] at a2;simp only[Bool.false_and,Bool.not_false,Bool.true_and,Bool.false_or,Bool.and_eq_false_iff,decide_eq_false_iff_not] at a2;unfold pend at a2 ⊢;omega
 exact this l (λ_ h=>h) hs h1
def gaps:Int->List Pc->Int->List (Int×Int)
 |at_,[],last=>if last>at_ then [(at_,last)] else []
 |at_,p::l,last=>(if p.1>at_ then [(at_,p.1)] else [])++gaps (max at_ (pend p)) l last
def cat (l:List Pc):List UInt8:=l.flatMap λp=>p.2.2
theorem take_snoc' {l:List Pc} {i:Nat} {x:Pc} (h:l[i]? =some x):l.take (i+1)=l.take i++[x]:=by
 rw[List.take_add_one,h];rfl
theorem Yf (l:List Pc) (p:Pc):cat (l++[p])=cat l++p.2.2:=by
 unfold cat;rw[List.flatMap_append];simp
theorem VY (l:List Pc):((cat l).length:Int)=sum l:=by
 induction l with
 |nil=>rfl
 |cons p l ih=>
  unfold cat sum at *;simp only[List.flatMap_cons,List.length_append,map_cons,List.sum_cons];omega
theorem xu (l:List Pc):0<=sum l:=by rw[<- VY];omega
theorem afe {l:List Pc}:∀{a:Int},Chain l->(∀p∈l,a<=p.1)->(last:Int)->(∀p∈l,pend p<=last)->a<=last->
  (gaps a l last=[]↔sum l=last - a)/\sum l<=last - a:=by
 induction l with
 |nil=>
  intro a _ _ last _ h;unfold gaps;split
  ·refine⟨⟨λh=>by simp at h,λh=> ?_⟩,by simp[sum];omega⟩;simp[sum] at h;omega
  ·refine⟨⟨λ_=> ?_,λ_=>rfl⟩,by simp[sum];omega⟩;simp[sum];omega
 |cons p l ih=>
  intro a hc ha last hl h;unfold Chain at hc;rw[List.pairwise_cons] at hc;have hp:=ha p (by simp);have I:=hl p (by simp);have hpe:p.1<=pend p:=by unfold pend;omega
  have j:sum (p::l)=(p.2.2.length:Int)+sum l:=by simp[sum]
  have u:max a (pend p)=pend p:=by omega
  have:= @ih (pend p) hc.2 hc.1 last (λq hq=>hl q (by simp[hq])) I;unfold gaps;rw[u,j];by_cases z:p.1>a
  ·rw[if_pos z];refine⟨⟨λh=>by simp at h,λh=> ?_⟩,?_⟩
   ·have:=this.2;unfold pend at *;omega
   ·have:=this.2;unfold pend at *;omega
  ·rw[if_neg z,List.nil_append,this.1];refine⟨⟨λh=> ?_,λh=> ?_⟩,?_⟩
   ·unfold pend at *;omega
   ·unfold pend at *;omega
   ·have:=this.2;unfold pend at *;omega
end Gp.Hol
end
section
open List (length_drop)
namespace Gp.Hol
theorem aem {L L':List Pc} (hp:L.Perm L') (f:Pc->Bool):L.any f=L'.any f:=by
 rw[Bool.eq_iff_iff,List.any_eq_true,List.any_eq_true];exact⟨λ⟨p,h,e⟩=>⟨p,hp.mem_iff.1 h,e⟩,λ⟨p,h,e⟩=>⟨p,hp.mem_iff.2 h,e⟩⟩
theorem aek {L L':List Pc} (G:Good L) (hp:L.Perm L') (p:Pc):(add L p).1=(add L' p).1/\(add L p).2.Perm (add L' p).2:=by
 have h1:(p∈L)=(p∈L'):=propext hp.mem_iff;have h2:=aem hp (sh p);have h3:=Js G.one hp;have h4:=ae6 hp;have h5:fits L (iU L) p=fits L' (iU L') p:=by unfold fits;rw[h3,h4]
 unfold add;by_cases c1:may p≠0
 ·rw[if_pos c1,if_pos c1];exact⟨rfl,hp⟩
 rw[if_neg c1,if_neg c1];by_cases c2:p∈L
 ·rw[if_pos c2,if_pos (hp.mem_iff.1 c2)];exact⟨rfl,hp⟩
 rw[if_neg c2,if_neg (show ¬p∈L' from λh=>c2 (hp.mem_iff.2 h)),h2];by_cases c3:L'.any (sh p)=true
 ·rw[if_pos c3,if_pos c3];exact⟨rfl,hp⟩
 rw[if_neg c3,if_neg c3,h5];by_cases c4:fits L' (iU L') p=false
 ·rw[if_pos c4,if_pos c4];exact⟨rfl,hp⟩
 ·rw[if_neg c4,if_neg c4];exact⟨rfl,hp.append_right _⟩
theorem Good.add' {L:List Pc} (G:Good L) (p:Pc):Good (Gp.Hol.add L p).2:=by
 unfold Gp.Hol.add;by_cases c1:may p≠0
 ·rw[if_pos c1];exact G
 rw[if_neg c1];by_cases c2:p∈L
 ·rw[if_pos c2];exact G
 rw[if_neg c2];by_cases c3:L.any (sh p)=true
 ·rw[if_pos c3];exact G
 rw[if_neg c3];by_cases c4:fits L (iU L) p=false
 ·rw[if_pos c4];exact G
 ·rw[if_neg c4];exact G.add (by simpa using c1) (by simpa using c3) (by simpa using c4)
theorem agT (L:List Pc) (p:Pc):(add L p).2.length<=L.length+1:=by
 unfold add;split
 ·simp
 ·split
  ·simp
  ·split
   ·simp
   ·split<;>simp
theorem Good.below {l:List Pc} (G:Good l) (h:0<=iU l):∀p∈l,pend p<=iU l:=by
 by_cases hex:∃q∈l,q.2.1=false
 ·obtain⟨q,hq,j⟩:=hex;rw[oQ G.one hq j];exact G.last q hq j
 ·have:=(U9 G).2 λq hq=>by
   cases hb:q.2.1
   ·exact absurd ⟨q,hq,hb⟩ hex
   ·rfl
  omega
theorem aeT {l:List Pc} (G:Good l) (hs:l.Pairwise le) (h:0<=iU l):gaps 0 l (iU l)=[]↔sum l=iU l:=by
 have:=(afe (a:=0) (G.chain hs) (λp hp=>(G.ok p hp).1) (iU l) (G.below h) h).1;rw[this];omega
theorem ail (p:Pc):sh p p=true:=by
 unfold sh
 cases hb:p.2.2 with
 |nil=>simp
 |cons a l=>
  have:p.1<pend p:=by unfold pend;rw[hb];simp only[List.length_cons];omega
  simp[this]
end Gp.Hol
namespace Gp.Hol
structure Cut (b:List UInt8) (n:Nat) (l:List Pc):Prop where
 each:∀p∈l,p.2.1=true/\0<=p.1/\pend p<=(n:Int)/\p.2.2≠[]/\may p=0/\∀k,k<p.2.2.length->b[p.1.toNat+k]? =p.2.2[k]?
 chain:Chain l
 sum:Gp.Hol.sum l=(n:Int)
 le:n<=b.length
theorem aiv (l:List Pc) (p:Pc):sum (l++[p])=sum l+(p.2.2.length:Int):=by
 unfold sum;simp
theorem Yg {p q:Pc} (h:pend p<=q.1) (hp:p.2.2≠[]):sh p q=false:=by
 unfold sh;have:p.2.2.isEmpty=false:=by cases hh:p.2.2 with
  |nil=>exact absurd hh hp
  |cons _ _=>rfl
 rw[this,decide_eq_false (show ¬q.1<pend p by omega)];simp
def allOf (b:List UInt8) (n:Nat) (l:List Pc):List Pc:=l++[((n:Int),false,b.drop n)]
theorem Cut.all {b:List UInt8} {n:Nat} {l:List Pc} (h:Cut b n l) (hb:b.length<=65535):
  Good (allOf b n l)/\(∀p∈allOf b n l,may p=0)/\iU (allOf b n l)=(b.length:Int)/\Gp.Hol.sum (allOf b n l)=(b.length:Int)/\∀p∈allOf b n l,∀k,k<p.2.2.length->b[p.1.toNat+k]? =p.2.2[k]? :=by
 have hle:=h.le;have hlen:(b.drop n).length=b.length - n:=length_drop;have j:pend ((n:Int),false,b.drop n)=(b.length:Int):=by unfold pend;simp only;rw[hlen];omega
 have hG:Good (allOf b n l):=by
  unfold allOf;refine⟨λp hp=> ?_,?_,λp hp hm q hq=> ?_,?_⟩
  ·rcases List.mem_append.1 hp with hp|hp
   ·obtain⟨a1,a2,a3,a4,_⟩:=h.each p hp;exact⟨a2,by omega,λ_=>a4⟩
   ·rw[List.mem_singleton.1 hp];exact⟨by simp only;omega,by rw[j];omega,λe=>by cases e⟩
  ·rw[pairwise_append];refine⟨?_,by simp,λp hp q hq=>by rw[List.mem_singleton.1 hq];exact Yg (h.each p hp).2.2.1 (h.each p hp).2.2.2.1⟩;have hc:=h.chain;unfold Chain at hc;refine List.Pairwise.imp_of_mem (λ{p q} hp hq u=>Yg u (h.each p hp).2.2.2.1) hc
  ·rcases List.mem_append.1 hp with hp|hp
   ·rw[(h.each p hp).1] at hm;cases hm
   ·rw[List.mem_singleton.1 hp,j];rcases List.mem_append.1 hq with hq|hq
    ·have:=(h.each q hq).2.2.1;omega
    ·rw[List.mem_singleton.1 hq,j];exact Int.le_refl _
  ·rw[pairwise_append];exact⟨List.Pairwise.imp_of_mem (λ{p q} hp _ _=> .inl (h.each p hp).1) h.chain,by simp,λp hp q hq=> .inl (h.each p hp).1⟩
 refine⟨hG,λp hp=> ?_,?_,?_,λp hp k hk=> ?_⟩
 ·rcases List.mem_append.1 hp with hp|hp
  ·exact(h.each p hp).2.2.2.2.1
  ·rw[List.mem_singleton.1 hp];unfold may;simp only;rw[hlen,if_neg (by simp),if_neg (by omega)]
 ·rw[oQ hG.one (p:=((n:Int),false,b.drop n)) (by unfold allOf;simp) rfl,j]
 ·unfold allOf;rw[aiv,h.sum];simp only;rw[hlen];omega
 ·rcases List.mem_append.1 hp with hp|hp
  ·exact(h.each p hp).2.2.2.2.2 k hk
  ·rw[List.mem_singleton.1 hp] at hk ⊢;simp only;rw[toNat_natCast];exact List.getElem?_drop.symm
end Gp.Hol
end
