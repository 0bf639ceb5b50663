import Derived.Test.YtdmbjlliegbpcaaGreatDoorW10
import Derived.Test.YtdmbjlliegbpcaaGreatDoorW5
open List (getElem?_eq_getElem length_take mem_cons mem_singleton not_mem_nil)
open Int (toNat_natCast)
set_option maxRecDepth 100000
set_option maxHeartbeats 4000000
section
open List (getElem?_cons_succ getElem?_cons_zero)
namespace Go.Proofs.VN
open Gp Gp.V4
theorem byte_at {w:θ} {s:fU} {l:List UInt8} (h:iq w s l) {i:Nat} (hi:i<l.length) {K:Addr->Prop} (hK:∀a,w.cell? (a)=some (.int .u8 (l[i].toNat:Int))->(a.block<w.heap.size)->K a):iM s 1 (i:Int) K:=by
 have hsl:=h.1;obtain⟨a,ha,hc⟩:=h.at_ (getElem?_eq_getElem hi);exact⟨a,ha,by omega,by omega,hK _ (by rw[toNat_natCast,Nat.mul_one];exact hc) (by rw[toNat_natCast,Nat.mul_one];exact cell_lt hc)⟩
theorem low4 (x:UInt8):ο.wrap ((ο.wrap (kF .u8 (x.toNat:Int) 15)) * 4)=((x.toNat % 16 * 4:Nat):Int):=by
 have h:=x.toNat_lt;have:=ahr (a:=x.toNat) (b:=15) (by omega) (by omega);rw[show (15:Nat)=2^4 - 1 by decide,AZ] at this;rw[show (((2^4 - 1:Nat):Nat):Int)=15 from rfl] at this;rw[this,Α (n:=((x.toNat % 2^4:Nat):Int)) (by omega) (by omega),Α];omega
theorem abd {l:List UInt8} (h:0<l.length):hlen l=l[0].toNat % 16 * 4:=by
 unfold hlen;rw[getElem?_eq_getElem h];rfl
theorem aia {l:List UInt8} (h:0<l.length):ver l=l[0].toNat / 16:=by
 unfold ver;rw[getElem?_eq_getElem h];rfl
theorem abq {w:θ} {s:fU} {l:List UInt8} (hs:iq w s l) (hl:l.length<=2^46) (q:Bool):
  Ir s q w λb h z e w'=>e=nC l q/\Ext w w'/\(e=0->b=s/\h=(hlen l:Int)/\z=(num l 2 2:Int)):=by
 apply aaA;have hsl:=hs.1;refine gq λa w1 r1 e1 z1 f1=> ?_;by_cases c1:l.length<20
 ·have c1':((s.len:Int)<20):=by omega
  simp only[c1',decide_true,cond_true];refine gY r1 rfl rfl λw2 r2 f2 _=> ?_;simp only[sx,getElem?_cons_zero,getElem?_cons_succ,r2.cell];exact⟨by simp[nC,c1],f1.new (f2 (·=a) rfl) λy hy e=>by omega,λh=>by cases h⟩
 have c1':¬((s.len:Int)<20):=by omega
 simp only[c1',decide_false,cond_false];have hs1:=hs.ext f1;refine byte_at (i:=0) hs1 (by omega) λa0 hc0 hb0=> ?_;simp -zeta only[sx,hc0,low4,<- abd (show 0<l.length by omega)];refine DX rfl rfl λb w2 r2 e2 z2 f2=> ?_;simp -zeta only[sx,getElem?_cons_zero,getElem?_cons_succ,r2.cell];refine rG (XB (hs1.ext f2) hl (by omega) (by omega) _ _) ?_;rintro _ w3 ⟨rfl,f3⟩;refine g_ (r2.ext f3) rfl (by simp) λw4 r4 f4 z4=> ?_;have hsz3:=f3.size;have x4:Ext w1 w4:=(f2.trans f3).new (f4 (·=b) rfl) λy hy e=>by omega
 have x5:Ext w w4:=f1.trans x4;have ra:=r1.ext x4;simp only[List.set_cons_zero,List.set_cons_succ,show (Int.toNat 2)=2 from rfl] at r4;have hs4:=hs1.ext x4;have hlt16:hlen l<=60:=by rw[abd (show 0<l.length by omega)];omega
 have fin:∀(e:Int) W,Ext w4 W->e=nC l q->e≠0->iw [(Value.slice none 0 0),(Β 0),(Β 0)] W ⟨a,0,none⟩ 0 λI=>
   LdV .slice (I.cell? ⟨a,0,none⟩) λN=>LdV ν (I.cell? ⟨a,1,none⟩) λO=>LdV ν (I.cell? ⟨a,2,none⟩) λR=>(e=nC l q/\Ext w I/\(e=0->N=s/\O=(hlen l:Int)/\R=(num l 2 2:Int))):=by
  intro e W hx he U;refine gY (ra.ext hx) rfl rfl λI J f28 _=> ?_;simp only[getElem?_cons_zero,getElem?_cons_succ,f_,gQ,gJ,J.cell];exact⟨he,(x5.trans hx).new (f28 (·=a) rfl) λy hy e=>by omega,λh=>absurd h U⟩
 refine byte_at (i:=0) hs4 (by omega) λa1 hc1 _=> ?_;have ev:(jH .u8 (l[0].toNat:Int) 4 !=4)=decide (ver l≠4):=by
  rw[aia (show 0<l.length by omega)];have:=ah3 (a:=l[0].toNat) (k:=4) (by omega);rw[show ((4:Nat):Int)=4 from rfl,show (2:Nat)^4=16 by decide] at this;rw[this];generalize l[0].toNat / 16=q;by_cases h:q=4
  ·subst h;rfl
  ·simp[h];omega
 simp only[getElem?_cons_zero,getElem?_cons_succ,f_,gQ,gJ,hc1,r4.cell,ev];refine⟨by omega,?_⟩;by_cases v:ver l≠4
 ·simp only[v,ne_eq,not_false_eq_true,decide_true,cond_true];exact fin 4 w4 (Ext.refl _) (by simp only[nC];rw[if_neg (by omega),if_pos (.inl v)]) (by omega)
 simp only[v,decide_false,cond_false];by_cases Z:hlen l<20
 ·have u:((hlen l:Int)<20):=by omega
  simp only[u,decide_true,cond_true];exact fin 4 w4 (Ext.refl _) (by simp only[nC];rw[if_neg (by omega),if_pos (.inr Z)]) (by omega)
 have u:¬((hlen l:Int)<20):=by omega
 have o1:nC l q=if l.length<hlen l\/(l.length<num l 2 2/\q=false) then 3 else if num l 2 2<hlen l\/32768<=num l 6 2 then 4 else 0:=by
  simp only[nC];rw[if_neg (by omega),if_neg (by rintro(h|h);exact v h;omega)]
 simp only[u,decide_false,cond_false];by_cases c3:l.length<hlen l
 ·have c3':((hlen l:Int)>(s.len:Int)):=by omega
  simp only[c3',decide_true,cond_true];exact fin 3 w4 (Ext.refl _) (by rw[o1,if_pos (.inl c3)]) (by omega)
 have c3':¬((hlen l:Int)>(s.len:Int)):=by omega
 simp only[c3',decide_false,cond_false];by_cases c4:l.length<num l 2 2/\q=false
 ·have c4':((num l 2 2:Int)>(s.len:Int)):=by omega
  simp only[c4',decide_true,c4.2,Bool.not_false,cond_true];have:=fin 3 w4 (Ext.refl _) (by rw[o1,if_pos (.inr c4)]) (by omega);rw[c4.2] at this;exact this
 have cont:∀X Y:Prop,(bif decide ((num l 2 2:Int)>(s.len:Int)) then (bif !q then X else Y) else Y)=Y:=by
  intro X Y;by_cases c4':((num l 2 2:Int)>(s.len:Int))
  ·cases q with
   |true=>simp
   |false=>exact absurd ⟨by omega,rfl⟩ c4
  ·simp only[c4',decide_false,cond_false]
 rw[if_neg (by rintro(h|h);exact c3 h;exact c4 h)] at o1;simp only[cont];by_cases c5:num l 2 2<hlen l
 ·have c5':((num l 2 2:Int)<(hlen l:Int)):=by omega
  simp only[c5',decide_true,cond_true];exact fin 4 w4 (Ext.refl _) (by rw[o1,if_pos (.inl c5)]) (by omega)
 have c5':¬((num l 2 2:Int)<(hlen l:Int)):=by omega
 simp only[c5',decide_false,cond_false];refine rG (XB hs4 hl (by omega) (by omega) _ _) ?_;rintro _ w5 ⟨rfl,f5⟩;have n6:=EH l 6;have eb:(kF .i64 ((num l (Int.toNat 6) (Int.toNat 2):Nat):Int) 32768 !=0)=decide (32768<=num l 6 2):=by
  have:=Ϥ (n:=num l 6 2) (k:=15) (by omega) (by omega);rw[show (((2^15:Nat):Nat):Int)=32768 from rfl] at this;rw[show (Int.toNat 6)=6 from rfl,show (Int.toNat 2)=2 from rfl,this];by_cases h:32768<=num l 6 2
  ·simp only[h,decide_true,beq_iff_eq];omega
  ·simp only[h,decide_false,beq_eq_false_iff_ne,ne_eq];omega
 have r5:=r4.ext f5;simp only[getElem?_cons_zero,getElem?_cons_succ,f_,gQ,gJ,eb,r5.cell];by_cases c6:32768<=num l 6 2
 ·simp only[c6,decide_true,cond_true];exact fin 4 w5 f5 (by rw[o1,if_pos (.inr c6)]) (by omega)
 simp only[c6,decide_false,cond_false];refine gY (ra.ext f5) rfl rfl λI J f28 _=> ?_;simp only[sx,true_and,getElem?_cons_zero,getElem?_cons_succ,J.cell];exact⟨by rw[o1,if_neg (by omega)],(x5.trans f5).new (f28 (·=a) rfl) λy hy e=>by omega,λ_=>by trivial⟩
theorem VW {l:List UInt8} {q:Bool} (h:nC l q=0):20<=hlen l/\hlen l<=l.length/\hlen l<=num l 2 2/\20<=l.length:=by
 unfold nC at h;split at h
 ·omega
 split at h
 ·omega
 split at h
 ·omega
 split at h
 ·omega
 omega
theorem IX (w:θ):adw w jG.zero 0 0 0 0 0 0 0 false false ⟨none,0,0⟩ ⟨none,0,0⟩:=⟨rfl,rfl,rfl,rfl,rfl,rfl,rfl,rfl,rfl,iq.nil,iq.nil⟩
theorem Rx {l:List UInt8}:(field l).opts.length<=l.length/\(field l).data.length<=l.length:=by
 simp only[field,List.length_drop,length_take];omega
set_option maxRecDepth 100000 in
theorem ae0 {w:θ} {s:fU} {l:List UInt8} (hs:iq w s l) (hl:l.length<=2^40):
  uJ s w λt i o l' p s' d df mf op da e w'=>e=uY l false/\adw w' (V4.read l false) t i o l' p s' d df mf op da/\(Yz w op/\Yz w da)/\Ext w w':=by
 apply ZF;have hsl:=hs.1;refine gq λa w1 r1 e1 z1 f1=> ?_;refine cmS15 (abq (hs.ext f1) (by omega) false) ?_;rintro b h z e w2 ⟨rfl,f2,h2⟩;refine DX rfl rfl λc w3 r3 e3 z3 f3=> ?_;have x3:=f2.trans f3;have ra:=r1.ext x3;by_cases ho:nC l false=0
 ·obtain⟨rfl,rfl,rfl⟩:=h2 ho;have hz:=VW ho;simp only[sx,getElem?_cons_zero,getElem?_cons_succ,r3.cell,ho,show ((0:Int) !=0)=false from rfl];refine kN ((hs.ext f1).ext x3) (by omega) (by omega) (by omega) λs4 hs4 _=> ?_;rw[show (Int.toNat 0)=0 from rfl,List.drop_zero,toNat_natCast] at hs4;refine gq λd w4 r4 e4 z4 f4=> ?_;refine cmS0 (IU (zF r4 (hs4.ext f4)) (by simp) (by intro q hq;simp only[mem_singleton] at hq;subst hq;simp only[length_take];omega)) ?_;rintro _ w5 ⟨rfl,f5⟩;rw[Ig];have x5:=x3.trans (f4.trans f5);have hsz5:=x5.size;by_cases hr:fold (tot (l.take (hlen l)))=65535
  ·simp only[hr,decide_true,Bool.not_true,cond_false];have r5:=r3.ext (f4.trans f5);simp only[getElem?_cons_zero,getElem?_cons_succ,f_,gQ,gJ,r5.cell];refine cmS16 (VY ((hs.ext f1).ext x5) (by omega) hz.1 hz.2.1 hz.2.2.1) ?_;rintro _ _ _ _ _ _ _ _ _ op da w6 ⟨⟨rfl,rfl,rfl,rfl,rfl,rfl,rfl,rfl,rfl,hop,J⟩,no,nd,f6⟩;have hlo:=Rx (l:=l);have u:=hop.1;have I:=J.1;refine DX rfl rfl λg w7 r7 e7 z7 f7=> ?_;simp only[sx,getElem?_cons_zero,getElem?_cons_succ,r7.cell];refine cmS1 (Ai (field l) (o:=op) (d:=da) u I (by omega) (by omega)) ?_;rintro _ w8 ⟨rfl,f8⟩;have r8:=r7.ext f8;have x8:Ext w w8:=((((f1.trans x5).trans f6).trans f7).trans f8);have x8':Ext w1 w8:=(((x5.trans f6).trans f7).trans f8);have rd:uY l false=if (field l).check≠0 then 4 else 0:=by
    unfold uY;rw[ho,hr];simp
   by_cases hc:(field l).check=0
   ·simp only[hc,show ((0:Int) !=0)=false from rfl,cond_false,getElem?_cons_zero,getElem?_cons_succ,f_,gQ,gJ,iY,r8.cell];refine gY (r1.ext x8') rfl rfl λw9 r9 f9 _=> ?_;simp only[getElem?_cons_zero,getElem?_cons_succ,f_,gQ,gJ,iY,r9.cell];have rd0:uY l false=0:=by rw[rd,hc];simp
    refine⟨by rw[rd0],?_,⟨λx hx=>by have:=no x hx;omega,λx hx=>by have:=nd x hx;omega⟩,x8.new (f9 (·=a) rfl) λy hy e=>by omega⟩;unfold V4.read;rw[if_pos rd0];have hsz6:=f6.size;refine⟨rfl,rfl,rfl,rfl,rfl,rfl,rfl,rfl,rfl,?_,?_⟩
    ·exact iq.fr ((hop.ext f7).ext f8) (f9 (·=a) rfl) λx hx _ e=>by have:=no x hx;omega
    ·exact iq.fr ((J.ext f7).ext f8) (f9 (·=a) rfl) λx hx _ e=>by have:=nd x hx;omega
   ·have hc':((field l).check !=0)=true:=by simpa using hc
    simp only[hc',cond_true];refine gY (r1.ext x8') rfl rfl λw9 r9 f9 _=> ?_;simp only[getElem?_cons_zero,getElem?_cons_succ,f_,gQ,gJ,iY,r9.cell];have rd0:uY l false=4:=by rw[rd,if_pos hc]
    refine⟨by rw[rd0],?_,⟨λx h=>(by cases h),λx h=>(by cases h)⟩,x8.new (f9 (·=a) rfl) λy hy e=>by omega⟩;unfold V4.read;rw[rd0];exact IX _
  ·simp only[hr,decide_false,Bool.not_false,cond_true];refine gY (r1.ext x5) rfl rfl λw9 r9 f9 _=> ?_;simp only[getElem?_cons_zero,getElem?_cons_succ,f_,gQ,gJ,iY,r9.cell];have rd0:uY l false=5:=by unfold uY;rw[ho];simp[hr]
   refine⟨by rw[rd0],?_,⟨λx h=>(by cases h),λx h=>(by cases h)⟩,(f1.trans x5).new (f9 (·=a) rfl) λy hy e=>by omega⟩;unfold V4.read;rw[rd0];exact IX _
 ·have ho':(nC l false !=0)=true:=by simpa using ho
  simp only[sx,ho'];refine gY ra rfl rfl λw9 r9 f9 _=> ?_;simp only[getElem?_cons_zero,getElem?_cons_succ,f_,gQ,gJ,iY,r9.cell];have rd0:uY l false=nC l false:=by unfold uY;rw[if_pos ho]
  refine⟨by rw[rd0],?_,⟨λx h=>(by cases h),λx h=>(by cases h)⟩,(f1.trans x3).new (f9 (·=a) rfl) λy hy e=>by omega⟩;unfold V4.read;rw[rd0,if_neg ho];exact IX _
end Go.Proofs.VN
end
section
namespace Go.Proofs.VN
open Gp Gp.V4
theorem MI (a b:Int):(a==b)=decide (a=b):=rfl
theorem acR {w:θ} {s:fU} {l:List UInt8} (hs:iq w s l) (hl:l.length<=2^40):
  Gn s w λt i o l' p s' d df mf op da e w'=>e=uY l true/\adw w' (V4.read l true) t i o l' p s' d df mf op da/\Ext w w':=by
 apply X0;have hsl:=hs.1;refine gq λa w1 r1 e1 z1 f1=> ?_;refine cmS15 (abq (hs.ext f1) (by omega) true) ?_;rintro b h z e w2 ⟨rfl,f2,h2⟩;refine DX rfl rfl λc w3 r3 e3 z3 f3=> ?_;have x3:=f2.trans f3;have ra:=r1.ext x3;have hsz3:=x3.size;by_cases ho:nC l true=0
 ·obtain⟨rfl,rfl,rfl⟩:=h2 ho;have hz:=VW ho;simp only[sx,r3.cell,ho,show ((0:Int) !=0)=false from rfl];refine cmS16 (VY ((hs.ext f1).ext x3) (by omega) hz.1 hz.2.1 hz.2.2.1) ?_;rintro _ _ _ _ _ _ _ _ _ op da w6 ⟨⟨rfl,rfl,rfl,rfl,rfl,rfl,rfl,rfl,rfl,hop,u⟩,no,nd,f6⟩;refine gY (ra.ext f6) rfl rfl λw9 r9 f9 _=> ?_;simp only[d_,f_,gQ,gJ,iY,r9.cell];have rd0:uY l true=0:=by unfold uY;rw[ho];simp
  refine⟨by rw[rd0],?_,((f1.trans x3).trans f6).new (f9 (·=a) rfl) λy hy e=>by omega⟩;unfold V4.read;rw[if_pos rd0];refine⟨rfl,rfl,rfl,rfl,rfl,rfl,rfl,rfl,rfl,?_,?_⟩
  ·exact iq.fr hop (f9 (·=a) rfl) λx hx _ e=>by have:=no x hx;omega
  ·exact iq.fr u (f9 (·=a) rfl) λx hx _ e=>by have:=nd x hx;omega
 ·have ho':(nC l true !=0)=true:=by simpa using ho
  simp only[sx,ho'];refine gY ra rfl rfl λw9 r9 f9 _=> ?_;simp only[d_,f_,gQ,gJ,iY,r9.cell];have rd0:uY l true=nC l true:=by unfold uY;rw[if_pos ho]
  refine⟨by rw[rd0],?_,(f1.trans x3).new (f9 (·=a) rfl) λy hy e=>by omega⟩;unfold V4.read;rw[rd0,if_neg ho];exact IX _
theorem Ub {n:Nat}:IntKind.u8.wrap (n:Int)=((UInt8.ofNat n).toNat:Int):=by
 rw[IntKind.wrap_u8];simp
end Go.Proofs.VN
end
section
namespace Gp.V4
def aeC (a:Int):Prop:=16777216<=a/\a<3758096384/\a / 16777216≠127
instance (a:Int):Decidable (aeC a):=inferInstanceAs (Decidable (_/\_))
def ahE (k:Int):Prop:=(3<=k/\k<=5)\/k=11\/k=12
instance (a:Int):Decidable (ahE a):=inferInstanceAs (Decidable (_\/_))
theorem aeC.right {a:Int} (h:aeC a):kD a:=⟨by have:=h.1;omega,by have:=h.2.1;omega⟩
structure PV where
 kind:Int
 code:Int
 rest:Int
 data:List UInt8
def PV.fine (m:PV):Prop:=iK m.kind 1/\iK m.code 1/\iK m.rest 4
instance (m:PV):Decidable m.fine:=inferInstanceAs (Decidable (_/\_))
def PV.check (m:PV):Int:=if m.fine then if m.data.length<=65527 then 0 else 6 else 1
def PV.body (m:PV) (s:Nat):List UInt8:=jD 1 m.kind.toNat++jD 1 m.code.toNat++jD 2 s++jD 4 m.rest.toNat++m.data
def PV.sum (m:PV):Nat:=65535 - fold (tot (m.body 0))
def PV.bytes (m:PV):List UInt8:=m.body m.sum
theorem adO (m:PV) (s:Nat):(m.body s).length=8+m.data.length:=by
 simp only[PV.body,List.length_append,iG]
theorem aaZ (m:PV) (s:Nat):m.body s=UInt8.ofNat m.kind.toNat::UInt8.ofNat m.code.toNat::UInt8.ofNat (s / 256)::UInt8.ofNat s::
  UInt8.ofNat (m.rest.toNat / 16777216)::UInt8.ofNat (m.rest.toNat / 65536)::UInt8.ofNat (m.rest.toNat / 256)::UInt8.ofNat m.rest.toNat::m.data:=by
 simp[PV.body,jD]
theorem Zf {m:PV} (h:m.check=0):m.fine/\m.data.length<=65527:=by
 unfold PV.check at h;split at h
 ·split at h
  ·exact⟨by assumption,by assumption⟩
  ·omega
 ·omega
def jG.size (p:jG):Nat:=20+p.opts.length+p.data.length
theorem Ry {l:List UInt8} (h:nC l true=0):20<=(field l).size/\(field l).size<=l.length:=by
 unfold nC at h;split at h
 ·omega
 split at h
 ·omega
 split at h
 ·omega
 split at h
 ·omega
 simp only[jG.size,field,List.length_drop,length_take];omega
end Gp.V4
end
section
open List (getElem?_cons_succ getElem?_cons_zero)
namespace Go.Proofs.VN
open Gp Gp.V4
theorem acr {w:θ} {b:Nat} {l:List Int} {vs:List Value} (h:Row w b vs) (hv:vs=l.map λn=>Β n) (n c:Nat) (hn:n=l.length) (hl:l.length<=100) (x:Int):lZ ⟨some ⟨b,0,none⟩,n,c⟩ x w λr w'=>(r>=0↔x∈l)/\w'=w:=by
 subst hv hn;apply uX;refine gX (λst W=>W=w/\∃i:Nat,i<=l.length/\st.1=(i:Int)/\x∉l.take i) (λst _=>l.length - st.1.toNat) ⟨rfl,0,by omega,rfl,by simp⟩ ?_;rintro⟨y,⟨⟩⟩ W ⟨rfl,i,hi,rfl,hp⟩ next I
 by_cases J:i<l.length
 ·have u:((i:Int)<(l.length:Int)):=by omega
  simp only[sx,u,decide_true,h.cell,toNat_natCast,Nat.mul_one,List.getElem?_map,getElem?_eq_getElem J,Option.map_some];refine⟨by omega,by trivial,?_⟩;by_cases hx:x=l[i]
  ·simp only[MI,hx,decide_true,cond_true];exact⟨⟨λ_=>List.getElem_mem J,λ_=>by omega⟩,by trivial⟩
  ·simp only[MI,hx,decide_false,cond_false];rw[Α];refine I _ _ ⟨rfl,i+1,by omega,by simp,?_⟩ (by simp only;omega);rw[List.take_succ_eq_append_getElem J,List.mem_append];rintro(h|h)
   ·exact hp h
   ·simp only[mem_singleton] at h;exact hx h
 ·have u:¬((i:Int)<(l.length:Int)):=by omega
  simp only[u,decide_false,cond_false];have:i=l.length:=by omega
  subst this;rw[List.take_length] at hp;exact⟨⟨λh=>by omega,λh=>absurd h hp⟩,by trivial⟩
theorem WT {w:θ} {b:Nat} {l:List Int} {vs:List Value} (h:Row w b vs) (hv:vs=l.map λn=>Β n) (n c:Nat) (hn:n=l.length) (hl:l.length<=100) (x:Int):iT ⟨some ⟨b,0,none⟩,n,c⟩ x w λr w'=>r=decide (x∈l)/\w'=w:=by
 apply qU;refine cmS1 (acr h hv n c hn hl x) ?_;rintro r w' ⟨hr,hw⟩;exact⟨decide_eq_decide.2 hr,hw⟩
theorem acE {w:θ} (m:PV) {d:fU} (hd:d.len=m.data.length):Ee m.kind m.code m.rest d w λr w'=>r=m.check/\Ext w w':=by
 apply UL;refine gq λa w1 r1 e1 z1 f1=> ?_;intro J;have hJ:∀b,b=(!decide m.fine)->J b w1:=by
  rintro b rfl;simp only[sx,J,getElem?_cons_zero,getElem?_cons_succ,r1.cell];by_cases hf:m.fine
  ·by_cases hs:m.data.length<=65527
   ·have:¬((d.len:Int)>65527):=by omega
    simp only[hf,this,decide_true,decide_false,Bool.not_true,cond_false];exact⟨by simp[PV.check,hf,hs],f1⟩
   ·have:((d.len:Int)>65527):=by omega
    simp only[hf,this,decide_true,Bool.not_true,cond_false,cond_true];exact⟨by simp[PV.check,hf,hs],f1⟩
  ·simp only[hf,decide_false,Bool.not_false,cond_true];exact⟨by simp[PV.check,hf],f1⟩
 simp -zeta only[sx,getElem?_cons_zero,r1.cell];refine cmS0 (mO _ _ _) ?_;rintro _ w2 ⟨rfl,hw⟩;subst hw;by_cases c1:iK m.kind 1
 ·simp -zeta only[c1,decide_true,Bool.not_true,cond_false,getElem?_cons_zero,getElem?_cons_succ,f_,gJ,r1.cell];refine cmS0 (mO _ _ _) ?_;rintro _ w2 ⟨rfl,hw⟩;subst hw;by_cases c2:iK m.code 1
  ·simp -zeta only[c2,decide_true,Bool.not_true,cond_false,getElem?_cons_zero,getElem?_cons_succ,f_,gJ,r1.cell];refine cmS0 (mO _ _ _) ?_;rintro _ w2 ⟨rfl,hw⟩;subst hw;exact hJ _ (congrArg (!·) (decide_eq_decide.2 ⟨λh=>⟨c1,c2,h⟩,λh=>h.2.2⟩))
  ·simp -zeta only[c2,decide_false,Bool.not_false,cond_true];exact hJ _ (by rw[decide_eq_false λh:m.fine=>c2 h.2.1];rfl)
 ·simp -zeta only[c1,decide_false,Bool.not_false,cond_true];exact hJ _ (by rw[decide_eq_false λh:m.fine=>c1 h.1];rfl)
def agk (m:PV) (w w':θ) (r:fU) (e:Int):Prop:=
 e=m.check/\(m.check=0->iq w' r m.bytes)/\Ext w w'/\(∀b,fU.at r b->w.heap.size<=b)/\(∀a,r.a=some a->fU.at r a.block)
theorem VR {w:θ} (m:PV) {d:fU} (hd:iq w d m.data):yJ m.kind m.code m.rest d w λr e w'=>agk m w w' r e:=by
 apply UK;refine gq λa w1 r1 e1 z1 f1=> ?_;simp only[sx,getElem?_cons_zero,getElem?_cons_succ,r1.cell];refine cmS1 (acE m (d:=d) hd.1) ?_;rintro _ w2 ⟨rfl,f2⟩;have r2:=r1.ext f2;by_cases hc:m.check=0
 ·obtain⟨⟨g1,g2,g3⟩,hs⟩:=Zf hc;have g1':=Dw g1;have g2':=Dw g2;simp only[hc,show ((0:Int) !=0)=false from rfl,cond_false,getElem?_cons_zero,getElem?_cons_succ,f_,gJ,r2.cell];refine gq λb w3 r3 e3 z3 f3=> ?_;have rr:=r2.ext f3;simp only[getElem?_cons_zero,getElem?_cons_succ,f_,gJ,rr.cell];obtain⟨t,ht⟩:∃t:Nat,m.kind=(t:Int):=⟨m.kind.toNat,by omega⟩;obtain⟨u,hu⟩:∃u:Nat,m.code=(u:Int):=⟨m.code.toNat,by omega⟩;rw[ht,hu,Ub,Ub] at r3;have b3:iq w3 ⟨some ⟨b,0,none⟩,4,4⟩ (jD 1 m.kind.toNat++jD 1 m.code.toNat++jD 2 0):=by
   refine iq.iD ?_;have:=iq.row (l:=jD 1 m.kind.toNat++jD 1 m.code.toNat++jD 2 0) (w:=w3) (b:=b) (by simpa [bytesV,jD,ht,hu] using r3);simpa [iG] using this
  refine cmS2 (uO b3 (by simp[iG]) m.rest 4) ?_;rintro t4 w4 ⟨b4,f4,n4⟩;have e4:jv (jD 1 m.kind.toNat++jD 1 m.code.toNat++jD 2 0) m.rest 4=jD 1 m.kind.toNat++jD 1 m.code.toNat++jD 2 0++jD 4 m.rest.toNat:=by
   unfold jv;rw[if_pos g3];rfl
  rw[e4] at b4;have r4:=rr.ext f4;simp only[getElem?_cons_zero,getElem?_cons_succ,f_,gQ,r4.cell];have x4:Ext w w4:=((f1.trans f2).trans f3).trans f4;refine jd b4 (hd.ext x4) (by simp[iG];omega) λt5 w5 b5 f5 n5 _=> ?_;have z3':=((f1.trans f2).trans f3).size;have z4:=x4.size;have x5:Ext w w5:=x4.new f5 λy hy h=>by have:=n4 y h;omega
  have b5:Buf w5 t5 (bytesV (m.body 0)):=b5;have l5:=adO m 0;refine gq λc w6 r6 e6 z6 f6=> ?_;refine cmS1 (SC (zF r6 (iq.iD (b5.ext f6))) (by simp) (by intro q hq;simp only[mem_singleton] at hq;subst hq;simp only;omega)) ?_;rintro _ w7 ⟨rfl,f7⟩;rw[Ig];have e8:65535 - fold (tot (m.body 0))=m.sum:=rfl;rw[e8];have hsl:m.sum<65536:=by unfold PV.sum;omega
  have x7:=x5.trans (f6.trans f7);have z7:=x7.size;refine cmS3 (O5 (iq.iD ((b5.ext f6).ext f7)) (by omega) 2 (m.sum:Int) 2) ?_;rintro s9 e9 w9 ⟨hr9,f9,n9⟩;obtain⟨rfl,b9⟩:=Nz ⟨⟨by omega,by omega⟩,by omega,by simp;omega⟩ (by omega) (by omega) hr9;refine⟨hc.symm,λ_=> ?_,x7.trans f9,λy hy=>by have:=n9 y hy;omega,λa ha=>b9.at_eq ha⟩;have eb:(m.body 0).take 2++jD 2 m.sum++(m.body 0).drop 4=m.bytes:=by
   unfold PV.bytes;rw[aaZ,aaZ];simp[jD]
  have:=iq.iD b9;rw[show (2:Int).toNat=2 from rfl,toNat_natCast,show (2+2:Nat)=4 from rfl,eb] at this;exact this
 ·have hc':(m.check !=0)=true:=by simpa using hc
  simp only[hc',cond_true];exact⟨rfl,λh=>absurd h hc,f1.trans f2,(by rintro b ⟨o,h⟩;cases h),(by rintro a h;cases h)⟩
end Go.Proofs.VN
end
section
namespace Go.Proofs.AN
open Gp Gp.V4 Go.Proofs Go.Proofs.VN
open Gp.Bind (In64)
theorem aaT {w:θ} {b:Nat} {l:List Value} {R:Prop} (h:Row w b l) (hR:R):∀(vs:List Value) (i:Nat),(∀(j:Nat) (v:Value),vs[j]? =some v->l[i+j]? =some v)->u_ vs w ⟨b,0,none⟩ i R
 |[],_,_=>(iC _ _ _ _).2 hR
 |v::vs,i,hv=>(h_ _ _ _ _ _ _).2 ⟨by rw[gy,Nat.zero_add,h.cell];exact hv 0 v rfl,aaT h hR vs (i+1) λj u hj=>by rw[show i+1+j=i+(j+1) by omega];exact hv (j+1) u hj⟩
theorem qF {w:θ} {b:Nat} {l:List Value} {R:Prop} (h:Row w b l) (hR:R):u_ l w ⟨b,0,none⟩ 0 R:=aaT h hR l 0 λj v hj=>by rw[Nat.zero_add];exact hj
theorem jF {W:θ} {a:Nat} {x0 x1 x2 x3 x4 x5 x6:Int} {x7 x8:Bool} {x9 u:fU} {Q:Int->Int->Int->Int->Int->Int->Int->Bool->Bool->fU->fU->Prop} (hr:Row W a (gu x0 x1 x2 x3 x4 x5 x6 x7 x8 x9 u)) (hq:Q x0 x1 x2 x3 x4 x5 x6 x7 x8 x9 u):ig W ⟨a,0,none⟩ Q:=by
 simp only[sx,hr.cell];exact hq
theorem OY {W:θ} {a:Nat} {s0:fU} {x0 x1 x2 x3 x4 x5 x6 u:Int} {x7 x8:Bool} {x9 I:fU} {Q:fU->Int->Int->Int->Int->Int->Int->Int->Bool->Bool->fU->fU->Int->Prop} (hr:Row W a (mP s0 x0 x1 x2 x3 x4 x5 x6 x7 x8 x9 I u)) (hq:Q s0 x0 x1 x2 x3 x4 x5 x6 x7 x8 x9 I u):rV W ⟨a,0,none⟩ Q:=by
 simp only[sx,hr.cell];exact hq
theorem ahY {l:List UInt8} (h:nC l false=0):nC l true=0:=by
 unfold nC at h ⊢;split at h
 ·simp at h
 rename_i h1;rw[if_neg h1];split at h
 ·simp at h
 rename_i h2;rw[if_neg h2];split at h
 ·simp at h
 rename_i h3;rw[if_neg (by intro hh;rcases hh with hh|hh;exact h3 (.inl hh);exact absurd hh.2 (by simp))];exact h
theorem afa (l:List UInt8) (q:Bool):(V4.read l q).opts.length<=l.length/\(V4.read l q).data.length<=l.length:=by
 unfold V4.read;split
 ·rename_i h;have ho:nC l true=0:=by
   unfold uY at h;by_cases h0:nC l q=0
   ·cases q
    ·exact ahY h0
    ·exact h0
   ·rw[if_pos h0] at h;exact absurd h h0
  have:=(Ry ho).2;unfold jG.size at this;omega
 ·simp[jG.zero]
theorem xK (l:List UInt8) (n:Int) (k:Nat):(jv l n (k:Int)).length<=l.length+k:=by
 unfold jv;split
 ·rw[List.length_append,iG];simp
 ·omega
end Go.Proofs.AN
end
section
namespace Go.Proofs.AN
open Gp Gp.V4 Go.Proofs Go.Proofs.VN
section
variable {w0 w w':θ}
theorem V5 {W:θ} {a:Nat} {x0 x1 x2:Int} {x3:fU} {K:Int->Int->Int->fU->b_} (hr:Row W a [Β x0,Β x1,Β x2,Δ x3]) (hq:K x0 x1 x2 x3 W):
  Ld ν W (Addr.add ⟨a,0,none⟩ 0) λy0=>Ld ν W (Addr.add ⟨a,0,none⟩ 1) λy1=>Ld ν W (Addr.add ⟨a,0,none⟩ 2) λy2=>Ld .slice W (Addr.add ⟨a,0,none⟩ 3) λy3=>K y0 y1 y2 y3 W:=
 Ld_i 0 x0 hr (Ld_i 1 x1 hr (Ld_i 2 x2 hr (Ld_s 3 x3 hr hq)))
theorem six {W:θ} {s:fU} {l:List UInt8} (hs:iq W s l) {i:Nat} {u:UInt8} (hi:l[i]? =some u) {K:Addr->Prop} (hK:∀a,W.cell? a=some (.int .u8 u.toNat)->K a):iM s 1 (i:Int) K:=by
 obtain⟨a,ha,hc⟩:=hs.at_ hi;refine⟨a,ha,by omega,by have:=hs.1;have:=(List.getElem?_eq_some_iff.1 hi).1;omega,?_⟩;rw[toNat_natCast,Nat.mul_one];exact hK _ hc
theorem QV {W:θ} {s:fU} {vs:List Value} (h:Buf W s vs) {ad:Addr} (ha:s.a=some ad):fU.at s ad.block:=by
 obtain⟨_,⟨hn,_⟩|⟨b,pad,hb,_⟩⟩:=h
 ·rw[hn] at ha;cases ha
 ·rw[hb] at ha;cases ha;exact⟨0,hb⟩
theorem aeV (x:Int) {b:Nat} {l:List Int} (hr:Row w b (l.map λn=>Β n)) (hl:l.length<=100):Eh x ⟨some ⟨b,0,none⟩,l.length,l.length⟩ w λ_ w'=>w'=w:=by
 apply Zp;refine cmS0 (WT hr rfl l.length l.length rfl hl x) ?_;rintro r w1 ⟨_,hw⟩;exact hw
theorem ZW (x:Int) (w:θ):yM x w λ_ w'=>Ext w w':=by
 apply UO;refine gq λa w1 r1 e1 z1 f1=> ?_;refine cmS0 (aeV x (l:=[0,8]) r1 (by simp)) ?_;rintro r w2 rfl;exact f1
theorem acf (x:Int) (w:θ):Ef x w λ_ w'=>Ext w w':=by
 apply UM;refine gq λa w1 r1 e1 z1 f1=> ?_;refine cmS0 (aeV x (l:=[3,4,5,11,12]) r1 (by simp)) ?_;rintro r w2 rfl;exact f1
theorem RX {s:fU} {l:List UInt8} (hs:iq w s l) (hl:l.length<=2^40) {K:Int->Int->Int->fU->Int->b_}
  (hK:∀k c r d e w' (m:List UInt8),Ext w w'->iq w' d m->m.length<=2^40->K k c r d e w'):yL s w K:=by
 apply UN;refine gq λa w1 r1 e1 z1 f1=> ?_;have hlen:=hs.1;have fin:∀(W:θ) k c r (d:fU) e (m:List UInt8),Ext w1 W->iq W d m->m.length<=2^40->(∀ad,d.a=some ad->0<m.length->¬ad.block=a)->
   iw [Β k,Β c,Β r,Δ d] W ⟨a,0,none⟩ 0 λw4=>Ld ν w4 (Addr.add ⟨a,0,none⟩ 0) λy0=>Ld ν w4 (Addr.add ⟨a,0,none⟩ 1) λy1=>Ld ν w4 (Addr.add ⟨a,0,none⟩ 2) λy2=>Ld .slice w4 (Addr.add ⟨a,0,none⟩ 3) λy3=>K y0 y1 y2 y3 e w4:=by
  intro W k c r d e m hW hd hm hn;refine StN_f (r1.ext hW) λw4 r4 f4 z4=> ?_;refine V5 (K:=λy0 y1 y2 y3 w=>K y0 y1 y2 y3 e w) r4 ?_;exact hK k c r d e w4 m ((f1.trans hW).nw f4) (hd.fr f4 λad ha h0 e=>hn ad ha h0 e) hm
 by_cases c1:(s.len:Int)<8
 ·rw[decide_eq_true c1,cond_true];exact fin w1 0 0 0 ⟨none,0,0⟩ 3 [] (Ext.refl _) iq.nil (by simp) (by intro ad h;cases h)
 rw[decide_eq_false c1,cond_false];by_cases c2:(s.len:Int)>65535
 ·rw[decide_eq_true c2,cond_true];exact fin w1 0 0 0 ⟨none,0,0⟩ 6 [] (Ext.refl _) iq.nil (by simp) (by intro ad h;cases h)
 rw[decide_eq_false c2,cond_false];refine gq λb w2 r2 e2 z2 f2=> ?_;have hs2:=(hs.ext f1).ext f2;refine cmS0 (IU (zF r2 hs2) (by simp) (by simp;omega)) ?_;rintro rt w3 ⟨_,f3⟩;have x3:=f2.trans f3
 cases rt
 ·exact fin w3 0 0 0 ⟨none,0,0⟩ 5 [] x3 iq.nil (by simp) (by intro ad h;cases h)
 rw[Bool.not_true,cond_false];have hs3:=hs2.ext f3;refine cmS9 (GK hs3 (by omega) 4 4) ?_;rintro n e w4 ⟨hw,_⟩;subst hw;have u:=hs3.ext (Ext.drew w4);have b0:=getElem?_eq_getElem (show 0<l.length by omega);have b1:=getElem?_eq_getElem (show 1<l.length by omega);generalize l[0]=u0 at b0;generalize l[1]=u1 at b1;refine six (i:=0) u b0 λa0 h0=> ?_;refine iH (k:= .int .u8) (y:=(u0.toNat:Int)) h0 ?_;refine six (i:=1) u b1 λa1 h1=> ?_;refine iH (k:= .int .u8) (y:=(u1.toNat:Int)) h1 ?_;refine kN u (by omega) (by omega) (by omega) λs' hs' _=> ?_;refine cmS2 (kC hs' (by simp;omega)) ?_;rintro cd w5 ⟨b5,_,f5,n5⟩;refine⟨mJ h1 f5,mJ h0 f5,?_⟩;refine fin w5 _ _ _ cd 0 _ ((x3.trans (Ext.drew w4)).trans f5) (iq.iD b5) (by simp;omega) λad ha h0' e=> ?_;have:=n5 ad.block (QV b5 ha);have:=r1.lt;have:=x3.size;have:w4.drew.heap.size=w4.heap.size:=rfl;omega
end
end Go.Proofs.AN
end
section
namespace Go.Proofs.AN
open Gp Gp.V4 Go.Proofs Go.Proofs.VN
open Gp.Bind (In64)
section
variable {w0 w w':θ}
theorem jg {W:θ} {b:Nat} {vs:List Value} (hr:Row W b vs) (hv:∀v∈vs,∀n,v≠.int .u8 n) {s:fU} {L:List UInt8} (hs:iq W s L) {ad:Addr} (ha:s.a=some ad) (hl:0<L.length):¬ad.block=b:=by
 intro e;obtain⟨x,hx⟩:∃x,L[0]? =some x:=⟨_,getElem?_eq_getElem hl⟩;obtain⟨a',ha',hc⟩:=hs.at_ hx;rw[ha] at ha'
 cases ha'
 obtain⟨T,hT⟩:=hr;obtain⟨bk,off,pth⟩:=ad;simp only at e;subst e;have h0:(Addr.add ⟨bk,off,pth⟩ 0)=⟨bk,off,pth⟩:=by simp[Addr.add]
 rw[h0] at hc;simp only[World.cell?,hT] at hc;split at hc
 ·cases hc
 ·rw[List.getElem?_toArray] at hc;exact hv _ (List.mem_of_getElem? hc) _ rfl
instance (n:Int):Decidable (In64 n):=inferInstanceAs (Decidable (_/\_))
theorem XA (l:List UInt8) (i k:Nat) (hk:k<=4):In64 (num l i k:Int):=by
 have h1:=MK ((l.drop i).take k);have h2:(256:Nat)^((l.drop i).take k).length<=256^4:=Nat.pow_le_pow_right (by omega) (by simp;omega);unfold In64 num;omega
theorem VI {l:List UInt8} {i k n e:Int} (h:Ot l i k n e) (hk:k<=4):In64 n:=by
 unfold Ot at h;split at h
 ·rw[h.2];unfold In64;omega
 ·split at h
  ·rw[h.2];unfold In64;omega
  ·rw[h.2];exact XA l _ _ (by omega)
@[reducible] def lD (n:Int):Prop:=0<=n/\n<=65535
theorem ahU (l:List UInt8) (i:Nat):lD (num l i 2:Int):=by
 have h1:=MK ((l.drop i).take 2);have h2:(256:Nat)^((l.drop i).take 2).length<=256^2:=Nat.pow_le_pow_right (by omega) (by simp;omega);unfold num;omega
theorem af0 {l:List UInt8} {i n e:Int} (h:Ot l i 2 n e):lD n:=by
 unfold Ot at h;split at h
 ·rw[h.2];decide
 ·split at h
  ·rw[h.2];decide
  ·rw[h.2];exact ahU l _
theorem QD (l:List UInt8) (j:Nat):lD ((wordAt l j:Nat):Int):=by
 have:=DW l j;omega
theorem adE (x:Int):lD (kF .i64 x 65535):=by
 unfold kF;have u:IntKind.bits .i64=64:=rfl;have e1:(BitVec.ofInt (IntKind.bits .i64) x).toNat=(x % 18446744073709551616).toNat:=by rw[u,BitVec.toNat_ofInt];rfl
 have e2:(BitVec.ofInt (IntKind.bits .i64) 65535).toNat=2^16 - 1:=by rw[u,BitVec.toNat_ofInt];rfl
 rw[BitVec.toNat_and,e1,e2,Nat.and_two_pow_sub_one_eq_mod];rw[Α];omega
theorem QT (x:Int) (n:Nat) (hn:n<=62) (m:Int) (hm:m=(2^n - 1:Nat)):kF .i64 x m=x % ((2^n:Nat):Int):=by
 subst hm;unfold kF;have u:IntKind.bits .i64=64:=rfl;have h1:2^n<=2^62:=Nat.pow_le_pow_right (by omega) hn;have h0:0<2^n:=Nat.pos_of_ne_zero (by simp);have e1:(BitVec.ofInt (IntKind.bits .i64) x).toNat=(x % 18446744073709551616).toNat:=by rw[u,BitVec.toNat_ofInt];rfl
 have e2:(BitVec.ofInt (IntKind.bits .i64) ((2^n - 1:Nat):Int)).toNat=2^n - 1:=by
  rw[u,BitVec.toNat_ofInt];have:((2^n - 1:Nat):Int) % ((2^64:Nat):Int)=((2^n - 1:Nat):Int):=Int.emod_eq_of_lt (by omega) (by omega);rw[this];rfl
 rw[BitVec.toNat_and,e1,e2,Nat.and_two_pow_sub_one_eq_mod];have h2:(x % 18446744073709551616).toNat % 2^n<2^n:=Nat.mod_lt _ h0;rw[Α];have hd:((2^n:Nat):Int) ∣ 18446744073709551616:=by
  refine⟨((2^(64 - n):Nat):Int),?_⟩;rw[<- Int.natCast_mul,<- Nat.pow_add,show n+(64 - n)=64 by omega];rfl
 rw[Int.natCast_emod,Int.toNat_of_nonneg (by omega),Int.emod_emod_of_dvd _ hd]
theorem Xt (x:Int) (k:Nat) (hk:k=1\/k=2\/k=4) (w:θ):zu x (k:Int) w λr w'=>r=x % ((2^(8 * k):Nat):Int)/\w'=w:=by
 apply aax;rcases hk with rfl|rfl|rfl
 ·exact⟨by decide,QT x 8 (by omega) _ (by decide),rfl⟩
 ·exact⟨by decide,QT x 16 (by omega) _ (by decide),rfl⟩
 ·exact⟨by decide,QT x 32 (by omega) _ (by decide),rfl⟩
def xJ (a b c d:Int):List UInt8:=jv (jv (jv (jv [] (a % 4294967296) 4) (b % 4294967296) 4) (c % 256) 2) (d % 65536) 2
theorem BH (a b c d:Int):(xJ a b c d).length<=100:=by
 have l2:=xK [] (a % 4294967296) 4;have l4:=xK (jv [] (a % 4294967296) 4) (b % 4294967296) 4;have l6:=xK (jv (jv [] (a % 4294967296) 4) (b % 4294967296) 4) (c % 256) 2;have l8:=xK (jv (jv (jv [] (a % 4294967296) 4) (b % 4294967296) 4) (c % 256) 2) (d % 65536) 2;unfold xJ;simp only[List.length_nil,Int.cast_ofNat_Int] at l2 l4 l6 l8 ⊢;omega
theorem IJ (a b c d:Int) (w:θ):rE a b c d w λr w'=>iq w' r (xJ a b c d)/\Ext w w':=by
 apply Vg;refine cmS1 (Xt _ 4 (by omega) w) ?_;rintro r1 w1 ⟨rfl,hw⟩;subst hw;refine cmS2 (uO iq.nil (by simp) _ 4) ?_;rintro s1 w2 ⟨b2,f2,_⟩;refine cmS1 (Xt _ 4 (by omega) w2) ?_;rintro r2 w3 ⟨rfl,hw⟩;subst hw;have l2:(jv [] (a % ((2^(8 * 4):Nat):Int)) 4).length<=0+4:=xK [] _ 4;refine cmS2 (uO (iq.iD b2) (by omega) _ 4) ?_;rintro s3 w4 ⟨b4,f4,_⟩;refine cmS1 (Xt _ 1 (by omega) w4) ?_;rintro r3 w5 ⟨rfl,hw⟩;subst hw;have l4:(jv (jv [] (a % ((2^(8 * 4):Nat):Int)) 4) (b % ((2^(8 * 4):Nat):Int)) 4).length<=(jv [] (a % ((2^(8 * 4):Nat):Int)) 4).length+4:=xK _ _ 4;refine cmS2 (uO (iq.iD b4) (by omega) _ 2) ?_;rintro s5 w6 ⟨b6,f6,_⟩;refine cmS1 (Xt _ 2 (by omega) w6) ?_;rintro r4 w7 ⟨rfl,hw⟩;subst hw;have l6:(jv (jv (jv [] (a % ((2^(8 * 4):Nat):Int)) 4) (b % ((2^(8 * 4):Nat):Int)) 4) (c % ((2^(8 * 1):Nat):Int)) 2).length<=(jv (jv [] (a % ((2^(8 * 4):Nat):Int)) 4) (b % ((2^(8 * 4):Nat):Int)) 4).length+2:=xK _ _ 2;refine cmS2 (uO (iq.iD b6) (by omega) _ 2) ?_;rintro s7 w8 ⟨b8,f8,_⟩;exact⟨iq.iD b8,((f2.trans f4).trans f6).trans f8⟩
theorem half (i:Nat) (h:i<4):ο.wrap (Int.tdiv ((2 * i:Nat):Int) 2)=(i:Int):=by
 have:i=0\/i=1\/i=2\/i=3:=by omega
 rcases this with rfl|rfl|rfl|rfl<;>decide
theorem II {b:Nat} {s s':fU} {l l':List UInt8} (h:Row w b [Δ s,.slice s'.a s'.len s'.cap]) (hs:iq w s l) (hs':iq w s' l'):Parts w ⟨some ⟨b,0,none⟩,2,2⟩ [(s,l),(s',l')]:=by
 refine⟨rfl,λi p hi=> ?_⟩
 match i,hi with
 |0,hi=>simp at hi;subst hi;exact⟨b,0,rfl,by rw[h.cell];rfl,hs⟩
 |1,hi=>simp at hi;subst hi;exact⟨b,0,rfl,by rw[h.cell];rfl,hs'⟩
 |(n+2),hi=>simp at hi
structure Vp (sa da:Int) (l:List UInt8):Prop where
 len:8<=l.length
 size:wordAt l 4=l.length
 own:wordAt l 6≠0
 sum:fold (tot (xJ sa da 17 (l.length:Int))+tot l)=65535
theorem Ϗ {l:List UInt8} {j:Nat} (hj:j+1<8):wordAt ((l.take (8:Int).toNat).drop (0:Int).toNat) j=wordAt l j:=by
 unfold wordAt;have e8:(8:Int).toNat=8:=rfl;have e0:(0:Int).toNat=0:=rfl;rw[e8,e0,List.drop_zero,List.getElem?_take,List.getElem?_take,if_pos (by omega),if_pos (by omega)]
theorem aaR (sa da:Int) {s:fU} {l:List UInt8} (hs:iq w s l) (hl:l.length<=2^40) {K:Int->Int->Bool->fU->Int->b_}
  (hK:∀a b c d e w',Ext w w'->lD a->lD b->(∃L:List UInt8,iq w' d L/\L.length<=2^40)->(Vp sa da l->e=0/\a=(wordAt l 0:Int)/\b=(wordAt l 2:Int)/\c=false/\iq w' d (l.drop 8))->K a b c d e w'):Gm sa da s w K:=by
 apply XZ;refine gq λa w1 r1 e1 z1 f1=> ?_;have hlen:=hs.1;have rdk:∀{W:θ} {x0 x1:Int} {x2:Bool} {x3:fU} {e:Int},lD x0->lD x1->Ext w W->(∃L:List UInt8,iq W x3 L/\L.length<=2^40)->(Vp sa da l->e=0/\x0=(wordAt l 0:Int)/\x1=(wordAt l 2:Int)/\x2=false/\iq W x3 (l.drop 8))->Row W a [Β x0,Β x1,.bool x2,Δ x3]->
   Ld ν W (Addr.add ⟨a,0,none⟩ 0) λy0=>Ld ν W (Addr.add ⟨a,0,none⟩ 1) λy1=>Ld .bool W (Addr.add ⟨a,0,none⟩ 2) λy2=>Ld .slice W (Addr.add ⟨a,0,none⟩ 3) λy3=>K y0 y1 y2 y3 e W:=by
  intro W x0 x1 x2 x3 e i0 i1 hx hL hG hr;exact Ld_i 0 x0 hr (Ld_i 1 x1 hr (Ld_b 2 x2 hr (Ld_s 3 x3 hr (hK _ _ _ _ _ _ hx i0 i1 hL hG))))
 by_cases c1:(s.len:Int)<8
 ·rw[decide_eq_true c1,cond_true];refine StN_f r1 λw4 r4 f4 z4=> ?_;exact rdk (x3:=⟨none,0,0⟩) (by decide) (by decide) (f1.nw f4) ⟨[],iq.nil,by simp⟩ (λhg=>by have:=hg.len;omega) r4
 rw[decide_eq_false c1,cond_false];refine gq λg w2 r2 e2 z2 f2=> ?_;have x2:=f1.trans f2;have hs2:=hs.ext x2;refine kN hs2 (by omega) (by omega) (by omega) λs' hs' _=> ?_;apply G6;refine⟨rfl,gq λk w3 r3 e3 z3 f3=> ?_⟩;have hs3:=hs'.ext f3;have hl8:((l.take (8:Int).toNat).drop (0:Int).toNat).length=8:=by simp;omega
 have hw8:∀j,j+1<8->wordAt ((l.take (8:Int).toNat).drop (0:Int).toNat) j=wordAt l j:=λj hj=>Ϗ hj;generalize (l.take (8:Int).toNat).drop (0:Int).toNat=l8 at hs3 hl8 hw8;have x3:=x2.trans f3;have ha3:a<w3.heap.size:=((r1.ext f2).ext f3).lt;have hg3:g<w3.heap.size:=(r2.ext f3).lt;have wl:(wB l8).length=4:=by rw[O_,hl8]
 have U:=hs.ext x3;refine wz (LC (s:=s') (f0:=k) (l:=l8) (by omega)) (λi Y=>(∃v0 v1 v2 v3:Int,(lD v0/\lD v1/\lD v2/\lD v3)/\((1<=i->v0=(wordAt l8 (2 * 0):Int))/\(2<=i->v1=(wordAt l8 (2 * 1):Int))/\(3<=i->v2=(wordAt l8 (2 * 2):Int))/\(4<=i->v3=(wordAt l8 (2 * 3):Int)))/\Row Y g [Β v0,Β v1,Β v2,Β v3])/\gW w3 Y (·=g)) (λ_ _=>False) (by simp) ?_ ?_ ?_ (by intro e W W' h;exact h.elim) (by intro e W h;exact h.elim) ?_ ?_ (by intro W h;exact h.elim) (by intro id W h;exact h.elim)
 ·intro Y hY _;exact⟨⟨0,0,0,0,by decide,⟨λh=>by omega,λh=>by omega,λh=>by omega,λh=>by omega⟩,(r2.ext f3).ext hY⟩,hY _⟩
 ·rintro i Y ⟨_,hf⟩;exact⟨r3.fr hf (by omega),hs3.fr hf λad ha h0 e=>jg (r2.ext f3) (by simp) hs3 ha h0 e⟩
 ·rintro i Y Y' ⟨⟨v0,v1,v2,v3,hv,hE,hr⟩,hf⟩ hf';have:lC none w3=w3.heap.size+1:=rfl;exact⟨⟨v0,v1,v2,v3,hv,hE,hr.fr hf' (by omega)⟩,hf.trans hf' λy hy e=>by omega⟩
 ·rintro i x Y Kb hx ⟨⟨v0,v1,v2,v3,⟨j0,j1,j2,j3⟩,⟨h0,h1,h2,h3⟩,hr⟩,hf⟩ hlt hk _;have hi:i<4:=by rw[<- wl];exact(List.getElem?_eq_some_iff.1 hx).1
  rw[Yn l8 (by omega)] at hx
  cases hx
  refine⟨rfl,by omega,?_⟩;simp only;rw[half i hi];refine⟨by omega,by omega,?_⟩;rw[toNat_natCast,Nat.mul_one,gy,Nat.zero_add];have fb:=gW.gG Y (lC none w3);have hlw:lC none w3=w3.heap.size+1:=rfl;have ag:=hr.fr fb (by omega);refine g_ (i:=i) ag rfl (by simp;omega) λw5 r5 f5' z5=> ?_;have f5:gW (gG Y (lC none w3)) w5 (·=g):=f5' _ rfl;refine hk w5 (·=g) f5 (λy e=>by omega) ⟨?_,(hf.trans fb λy hy e=>by omega).trans f5 λy _ e=>e⟩;have:i=0\/i=1\/i=2\/i=3:=by omega
  rcases this with rfl|rfl|rfl|rfl<;>(simp only[List.set_cons_zero,List.set_cons_succ] at r5;exact⟨_,_,_,_,⟨by first|assumption|exact QD _ _,by first|assumption|exact QD _ _,by first|assumption|exact QD _ _,by first|assumption|exact QD _ _⟩,⟨λ_=>by first|rfl|exact h0 (by omega),λ_=>by first|rfl|exact h1 (by omega)|omega,λ_=>by first|rfl|exact h2 (by omega)|omega,λ_=>by first|rfl|exact h3 (by omega)|omega⟩,r5⟩)
 rintro Y ⟨⟨v0,v1,v2,v3,⟨j0,j1,_,_⟩,⟨h0,h1,h2,h3⟩,hr⟩,hf⟩ hm;rw[wl] at h0 h1 h2 h3;have h0:v0=(wordAt l 0:Int):=by rw[h0 (by omega),hw8 _ (by omega)]
 have h1:v1=(wordAt l 2:Int):=by rw[h1 (by omega),hw8 _ (by omega)]
 have h2:v2=(wordAt l 4:Int):=by rw[h2 (by omega),hw8 _ (by omega)]
 have h3:v3=(wordAt l 6:Int):=by rw[h3 (by omega),hw8 _ (by omega)]
 have Z:=hm rfl;have I:=hr.drew;have hYs:w3.heap.size<Y.heap.size:=(Array.getElem?_eq_some_iff.1 Z).1;have N:gW w3 Y.drew (·=g):=hf.ext (Ext.drew Y);have xY:Ext w Y.drew:=x3.nw N;have ra:Row Y.drew a _:=((r1.ext f2).ext f3).fr N (by omega);have O:Y.drew.heap[w3.heap.size]? =some (.deferred (some [])):=Z;have aa:iq Y.drew s l:=U.fr N λad ha h0 e=>jg (r2.ext f3) (by simp) U ha h0 e;have fin:∀(W:θ) (x0 x1:Int) (x2:Bool) (x3:fU) (e:Int),lD x0->lD x1->Ext Y.drew W->(∃L:List UInt8,iq W x3 L/\L.length<=2^40)->(∀ad,x3.a=some ad->a<ad.block/\ad.block≠w3.heap.size)->(Vp sa da l->e=0/\x0=(wordAt l 0:Int)/\x1=(wordAt l 2:Int)/\x2=false/\iq W x3 (l.drop 8))->
   iw [Β x0,Β x1,.bool x2,Δ x3] W ⟨a,0,none⟩ 0 λu=>u.heap[w3.heap.size]? =some (.deferred (some []))/\
    Ld ν (u.putObj w3.heap.size (.deferred none)) (Addr.add ⟨a,0,none⟩ 0) λy0=>Ld ν (u.putObj w3.heap.size (.deferred none)) (Addr.add ⟨a,0,none⟩ 1) λy1=>Ld .bool (u.putObj w3.heap.size (.deferred none)) (Addr.add ⟨a,0,none⟩ 2) λy2=>
     Ld .slice (u.putObj w3.heap.size (.deferred none)) (Addr.add ⟨a,0,none⟩ 3) λy3=>K y0 y1 y2 y3 e (u.putObj w3.heap.size (.deferred none)):=by
  intro W x0 x1 x2 x3' e i0 i1 hW hL ac hG;refine StN_f (ra.ext hW) λw5 r5 f5 z5=> ?_;have zW:=hW.size;have hYd:Y.drew.heap.size=Y.heap.size:=rfl;refine⟨?_,?_⟩
  ·rw[f5.same _ (by omega) (by omega),(hW λ_=>False).same _ (by omega) (by simp)];exact O
  ·have fp:=gW.qV w5 w3.heap.size (.deferred none);have zx:=x3.size;have kp:∀L:List UInt8,iq W x3' L->iq (w5.putObj w3.heap.size (.deferred none)) x3' L:=λL hL=>(hL.fr f5 λad ha h0 e=>by have:=(ac ad ha).1;omega).fr fp λad ha h0 e=>by
    exact(ac ad ha).2 e
   obtain⟨L,hL1,hL2⟩:=hL;exact rdk (x3:=x3') i0 i1 (((xY.trans hW).nw f5).new fp λy hy e=>by omega) ⟨L,kp L hL1,hL2⟩ (λhg=>by obtain⟨g0,g1,g2,g3,g4⟩:=hG hg;exact⟨g0,g1,g2,g3,kp _ g4⟩) (r5.fr fp (by omega))
 refine⟨by omega,by omega,?_⟩;refine Ld_i 2 v2 I ?_;refine⟨by omega,by omega,?_⟩;refine Ld_i 3 v3 I ?_;by_cases c2:v2<8
 ·rw[decide_eq_true c2,cond_true];exact fin Y.drew 0 0 false ⟨none,0,0⟩ 4 (by decide) (by decide) (Ext.refl _) ⟨[],iq.nil,by simp⟩ (λad h=>by cases h) λhg=>by have:=hg.len;have:=hg.size;omega
 rw[decide_eq_false c2,cond_false];by_cases c3:v2>(s.len:Int)
 ·rw[decide_eq_true c3,cond_true];exact fin Y.drew 0 0 false ⟨none,0,0⟩ 3 (by decide) (by decide) (Ext.refl _) ⟨[],iq.nil,by simp⟩ (λad h=>by cases h) λhg=>by have:=hg.size;omega
 rw[decide_eq_false c3,cond_false];by_cases c4:v2<(s.len:Int)
 ·rw[decide_eq_true c4,cond_true];exact fin Y.drew 0 0 false ⟨none,0,0⟩ 4 (by decide) (by decide) (Ext.refl _) ⟨[],iq.nil,by simp⟩ (λad h=>by cases h) λhg=>by have:=hg.size;omega
 rw[decide_eq_false c4,cond_false];intro J;have ah:∀W,Ext Y.drew W->¬Vp sa da l->J true W:=λW hW ai=>by
  simp only[J,cond_true];exact fin W 0 0 false ⟨none,0,0⟩ 5 (by decide) (by decide) hW ⟨[],iq.nil,by simp⟩ (λad h=>by cases h) λhg=>absurd hg ai
 have af:∀W,Ext Y.drew W->J false W:=λW hW=>by
  simp only[J,cond_false];have R:=(I.ext hW).drew;refine⟨by omega,by omega,?_⟩;refine Ld_i 0 v0 R ?_;refine⟨by omega,by omega,?_⟩;refine Ld_i 1 v1 R ?_;refine kN ((aa.ext hW).ext (Ext.drew W)) (by omega) (by omega) (by omega) λs9 hs9 _=> ?_;refine cmS2 (kC hs9 (by simp;omega)) ?_;rintro cd w5 ⟨bcd,_,f5,ncd⟩;have hr5:=R.ext f5;refine⟨by rw[show Int.toNat 1 * 1=1 from rfl,gy,hr5.cell];rfl,by rw[show Int.toNat 0 * 1=0 from rfl,gy,hr5.cell];rfl,?_⟩;have hzz:=(hW.trans (Ext.drew W)).size;have hYd2:Y.drew.heap.size=Y.heap.size:=rfl;have hWd2:W.drew.heap.size=W.heap.size:=rfl;refine fin w5 v0 v1 (v3==0) cd 0 j0 j1 ((hW.trans (Ext.drew W)).trans f5) ⟨_,iq.iD bcd,by simp;omega⟩ (λad aj=>by have:=ncd _ (bcd.at_eq aj);constructor<;>omega) λhg=>⟨rfl,h0,h1,?_,?_⟩
  ·have:=hg.own;rw[h3,beq_eq_false_iff_ne];omega
  ·have e9:(l.take (s.len:Int).toNat).drop (8:Int).toNat=l.drop 8:=by
    rw[List.take_of_length_le (by omega)];rfl
   have:=iq.iD bcd;rw[e9] at this;exact this
 clear_value J;by_cases hv3:v3=0
 ·have:(v3 !=0)=false:=by simp[hv3]
  rw[this,cond_false];exact af _ (Ext.refl _)
 ·have:(v3 !=0)=true:=by rw[bne_iff_ne];exact hv3
  rw[this,cond_true];refine cmS2 (IJ sa da 17 v2 _) ?_;rintro ps w5 ⟨ak,f5⟩;have hpll:=BH sa da 17 v2;refine gq λm w6 r6 e6 z6 f6=> ?_;refine cmS0 (IU (II r6 (ak.ext f6) ((aa.ext f5).ext f6)) (by simp) (by simp;omega)) ?_;rintro rt w7 ⟨am,f7⟩
  cases rt
  ·refine ah w7 ((f5.trans f6).trans f7) λhg=> ?_;have h9:=of_decide_eq_false am.symm;apply h9;have e2:v2=(l.length:Int):=by rw[h2,hg.size]
   rw[e2];have:=hg.sum;simpa [qE] using this
  ·exact af w7 ((f5.trans f6).trans f7)
end
end Go.Proofs.AN
end
section
namespace Go.Proofs.AN
open Gp Gp.V4 Go.Proofs Go.Proofs.VN
open Gp.Bind (In64)
section
variable {w0 w w':θ}
theorem adV {W:θ} {b:Nat} {vs:List Value} (hr:Row W b vs) (hv:∀v∈vs,∀n,v≠.int .u8 n) {ad:Addr} {n:Int} (hc:W.cell? ad=some (.int .u8 n)):¬ad.block=b:=by
 intro e;obtain⟨T,hT⟩:=hr;obtain⟨bk,off,pth⟩:=ad;simp only at e;subst e;simp only[World.cell?,hT] at hc;split at hc
 ·cases hc
 ·rw[List.getElem?_toArray] at hc;exact hv _ (List.mem_of_getElem? hc) _ rfl
theorem ZY {W:θ} {a:Nat} {x0 x1 x2 x3 x4 x5 x6 x7:Int} {x8 x9:fU} {Q:Int->Int->Int->Int->Int->Int->Int->Int->fU->fU->Prop} (hr:Row W a (kY x0 x1 x2 x3 x4 x5 x6 x7 x8 x9)) (hq:Q x0 x1 x2 x3 x4 x5 x6 x7 x8 x9):zJ W ⟨a,0,none⟩ Q:=by
 simp only[sx,hr.cell];exact hq
theorem IV {W:θ} {a:Nat} {s:fU} {l:List UInt8} (hr:Row W a [Δ s]) (hs:iq W s l) (hl:l.length<=2^40) (i k:Int) (hk:k<=4) {K:Value->b_} (hK:∀n:Int,In64 n->(k=2->lD n)->K (Β n) W):
  jy υ [.one ν] (Value.func (.func UF) #[] #[(Value.pointer (some ⟨a,0,none⟩))]) [Β i,Β k] W K:=by
 refine CN.kV (by kernel_rfl) ?_;refine Calls.mono (TG (a0:=i) (a1:=k) (f0:=⟨a,0,none⟩) (w:=W) (K:=λn W'=>(In64 n/\(k=2->lD n))/\W'=W) ?_) ?_
 ·refine Ld_s 0 s hr ?_;refine cmS9 (GK hs (by omega) i k) ?_;rintro n e w1 ⟨hw,hg⟩;exact⟨⟨VI hg hk,λh2=>by subst h2;exact af0 hg⟩,hw⟩
 ·rintro e W' ⟨n,he,hn,rfl⟩;exact⟨n,he,hK n hn.1 hn.2⟩
theorem aaP (sa da:Int) {s:fU} {l:List UInt8} (hs:iq w s l) (hl:l.length<=2^40) {K:Int->Int->Int->Int->Int->Int->Int->Int->fU->fU->Int->b_}
  (hK:∀a b c d e f g h i j r w',Ext w w'->lD a->lD b->(∃L:List UInt8,iq w' i L/\L.length<=2^40)->(∃L:List UInt8,iq w' j L/\L.length<=2^40)->K a b c d e f g h i j r w'):Gi sa da s w K:=by
 apply XV;refine⟨rfl,gq λa w1 r1 e1 z1 f1=> ?_⟩;refine gq λb w2 r2 e2 z2 f2=> ?_;have u:=r1.ext f2;have x2:=f1.trans f2;have hs2:=hs.ext x2;have hlen:=hs.1;have za:=f1.size;have fin:∀(W:θ) x0 x1 x2' x3 x4 x5 x6 x7 x8 x9 (r:Int),lD x0->lD x1->Ext w2 W->(∃L:List UInt8,iq W x8 L/\L.length<=2^40)->(∃L:List UInt8,iq W x9 L/\L.length<=2^40)->iw (kY x0 x1 x2' x3 x4 x5 x6 x7 x8 x9) W ⟨b,0,none⟩ 0 λw9=>zJ w9 ⟨b,0,none⟩ λy0 y1 y2 y3 y4 y5 y6 y7 y8 y9=>K y0 y1 y2 y3 y4 y5 y6 y7 y8 y9 r w9:=by
  intro W x0 x1 x2' x3 x4 x5 x6 x7 x8 x9 r i0 i1 hW hL8 hL9;obtain⟨L8,g8,l8⟩:=hL8;obtain⟨L9,g9,l9⟩:=hL9;refine StN_f (r2.ext hW) λw9 r9 f9 z9=> ?_;refine ZY r9 ?_;exact hK _ _ _ _ _ _ _ _ _ _ r w9 ((x2.trans hW).nw f9) i0 i1 ⟨L8,g8.fr f9 λad ha h0 e=>jg (r2.ext hW) (by simp) g8 ha h0 e,l8⟩ ⟨L9,g9.fr f9 λad ha h0 e=>jg (r2.ext hW) (by simp) g9 ha h0 e,l9⟩
 have ld:∀{W:θ} {Q:fU->Prop},Ext w2 W->Q s->Ld .slice W ⟨a,0,none⟩ Q:=λhW hq=>Ld_s 0 s (u.ext hW) hq;refine ld (Ext.refl _) ?_;by_cases c1:(s.len:Int)<20
 ·rw[decide_eq_true c1,cond_true];exact fin w2 0 0 0 0 0 0 0 0 ⟨none,0,0⟩ ⟨none,0,0⟩ 3 (by decide) (by decide) (Ext.refl _) ⟨[],iq.nil,by simp⟩ ⟨[],iq.nil,by simp⟩
 rw[decide_eq_false c1,cond_false];have R:=getElem?_eq_getElem (show 12<l.length by omega);have ah:=getElem?_eq_getElem (show 13<l.length by omega);generalize l[12]=U at R;generalize l[13]=ai at ah;refine ld (Ext.refl _) ?_;refine six (i:=12) hs2 R λa12 ar=> ?_;refine iH (k:= .int .u8) (y:=(U.toNat:Int)) ar ⟨by omega,?_⟩;generalize hhd:ο.wrap (ο.wrap (jH .u8 (U.toNat:Int) 4) * 4)=hd;by_cases c2:hd<20
 ·rw[decide_eq_true c2,cond_true];exact fin w2 0 0 0 0 0 0 0 0 ⟨none,0,0⟩ ⟨none,0,0⟩ 4 (by decide) (by decide) (Ext.refl _) ⟨[],iq.nil,by simp⟩ ⟨[],iq.nil,by simp⟩
 rw[decide_eq_false c2,cond_false];refine ld (Ext.refl _) ?_;by_cases c3:hd>(s.len:Int)
 ·rw[decide_eq_true c3,cond_true];exact fin w2 0 0 0 0 0 0 0 0 ⟨none,0,0⟩ ⟨none,0,0⟩ 3 (by decide) (by decide) (Ext.refl _) ⟨[],iq.nil,by simp⟩ ⟨[],iq.nil,by simp⟩
 rw[decide_eq_false c3,cond_false];refine ld (Ext.refl _) ?_;by_cases c4:(s.len:Int)>65535
 ·rw[decide_eq_true c4,cond_true];exact fin w2 0 0 0 0 0 0 0 0 ⟨none,0,0⟩ ⟨none,0,0⟩ 6 (by decide) (by decide) (Ext.refl _) ⟨[],iq.nil,by simp⟩ ⟨[],iq.nil,by simp⟩
 rw[decide_eq_false c4,cond_false];refine ld (Ext.drew w2) (ld (Ext.drew w2) ?_);refine cmS2 (IJ sa da 6 _ _) ?_;rintro ps w3 ⟨au,f3⟩;have hpll:=BH sa da 6 (s.len:Int);have g3:=(Ext.drew w2).trans f3;refine⟨by rw[(u.ext g3).cell];rfl,?_⟩;refine gq λm w4 r4 e4 z4 f4=> ?_;have g4:=g3.trans f4;refine cmS0 (IU (II r4 (au.ext f4) (hs2.ext g4)) (by simp) (by simp;omega)) ?_;rintro rt w5 ⟨_,f5⟩;have g5:=g4.trans f5
 cases rt
 ·exact fin w5 0 0 0 0 0 0 0 0 ⟨none,0,0⟩ ⟨none,0,0⟩ 5 (by decide) (by decide) g5 ⟨[],iq.nil,by simp⟩ ⟨[],iq.nil,by simp⟩
 rw[Bool.not_true,cond_false];have hs5:=hs2.ext g5;have N:=u.ext g5;refine IV N hs5 hl 0 2 (by omega) λn0 _ in0=>⟨n0,rfl,?_⟩;refine IV N hs5 hl 2 2 (by omega) λn1 _ in1=>⟨n1,rfl,?_⟩;refine IV N hs5 hl 4 4 (by omega) λn2 _ in2=>⟨n2,rfl,?_⟩;refine IV N hs5 hl 8 4 (by omega) λn3 _ in3=>⟨n3,rfl,?_⟩;refine gq λk w6 r6 e6 z6 f6=> ?_;refine StN_f r6 λw7 r7 f7 z7=> ?_;have aj:Ext w5 w7:=f6.nw f7;have g7:=(g5.trans aj).trans (Ext.drew w7);have hs7:=hs2.ext g7;have ak:=u.ext g7;refine ld g7 ?_;refine six (i:=12) hs7 R λp12 Y=> ?_;refine iH (k:= .int .u8) (y:=(U.toNat:Int)) Y (ld g7 ?_);refine six (i:=13) hs7 ah λp13 I=> ?_;refine iH (k:= .int .u8) (y:=(ai.toNat:Int)) I ?_;have ca:∀{W:θ},Ext w2 W->W.cell? ⟨a,0,none⟩=some (Δ s):=λhW=>by rw[(u.ext hW).cell];rfl
 refine IV ak hs7 hl 14 2 (by omega) λn4 _ in4=>⟨n4,rfl,I,ca g7,Y,ca g7,?_⟩;refine IV ak hs7 hl 18 2 (by omega) λn5 _ in5=>⟨n5,rfl,I,ca g7,Y,ca g7,?_⟩;have r7d:=r7.drew;have g57:=g5.size;refine g_ (i:=4) r7d rfl (by simp) λw8 r8 f8' z8=> ?_;have f8:gW w7.drew w8 (·=k):=f8' _ rfl;have zk:w5.heap.size<=k:=by omega
 have g8:Ext w2 w8:=(g5.trans (aj.trans (Ext.drew w7))).trans (Ext.refl _)|>.nw f8;have av:w8.cell? p13=some (.int .u8 (ai.toNat:Int)):=LQ I f8 λe=>adV r7d (by simp) I e;refine⟨av,ca g8,?_⟩;refine g_ (i:=5) r8 rfl (by simp) λw9 r9 f9' z9=> ?_;have f9:gW w8 w9 (·=k):=f9' _ rfl;refine g_ (i:=6) r9 rfl (by simp) λam aw Z z10=> ?_;have f10:gW w9 am (·=k):=Z _ rfl;refine g_ (i:=7) aw rfl (by simp) λO an aa z11=> ?_;have f11:gW am O (·=k):=aa _ rfl;have ax:Ext w2 O:=((g8.nw f9).nw f10).nw f11;have g11d:=ax.trans (Ext.drew O);have hs11:=hs2.ext g11d;refine ld g11d ?_;refine kN hs11 (by omega) (by omega) (by omega) λs1 hs1 _=> ?_;refine ld g11d ?_;refine kN hs11 (by omega) (by omega) (by omega) λs2 hs2' _=> ?_;refine cmS2 (kC hs1 (by simp;omega)) ?_;rintro o1 w12 ⟨bo1,_,f12,no1⟩;have ao:=g11d.trans f12;refine⟨ca ao,?_⟩;refine cmS2 (kC (hs2'.ext f12) (by simp;omega)) ?_;rintro o2 ay ⟨bo2,_,f13,no2⟩;have az:=ao.trans f13;have rk13:=((an.drew).ext f12).ext f13;refine g_ (i:=8) rk13 rfl (by simp) λaq aA ac z14=> ?_;have f14:gW ay aq (·=k):=ac _ rfl;refine g_ (i:=9) aA rfl (by simp) λaf J ag z15=> ?_;have f15:gW aq af (·=k):=ag _ rfl;simp only[List.set_cons_zero,List.set_cons_succ] at J;have aB:Ext w2 af:=(az.nw f14).nw f15;refine ZY J ?_;have hkl:k<O.drew.heap.size:=an.drew.lt;have z12:=f12.size;have ap1:∀b,fU.at o1 b->¬b=k:=λb hb e=>by have:=no1 b hb;omega
 have ap2:∀b,fU.at o2 b->¬b=k:=λb hb e=>by have:=no2 b hb;omega
 have B1:=((bo1.fr (f13 λ_=>False) (by simp)).fr f14 ap1).fr f15 ap1;have B2:=(bo2.fr f14 ap2).fr f15 ap2;exact fin af _ _ _ _ _ _ _ _ _ _ 0 (in0 rfl) (in1 rfl) aB ⟨_,iq.iD B1,by simp;omega⟩ ⟨_,iq.iD B2,by simp;omega⟩
end
end Go.Proofs.AN
end
section
namespace Go.Proofs.AN
open Gp Gp.V4 Go.Proofs Go.Proofs.VN
open Gp.Bind (In64)
section
variable {w0 w w':θ}
theorem rd3 {W:θ} {a:Nat} {x0 x1 x2:Int} {K:Int->Int->Int->b_} (hr:Row W a [Β x0,Β x1,Β x2]) (hq:K x0 x1 x2 W):
  Ld ν W (Addr.add ⟨a,0,none⟩ 0) λy0=>Ld ν W (Addr.add ⟨a,0,none⟩ 1) λy1=>Ld ν W (Addr.add ⟨a,0,none⟩ 2) λy2=>K y0 y1 y2 W:=
 Ld_i 0 x0 hr (Ld_i 1 x1 hr (Ld_i 2 x2 hr hq))
theorem agG (l:List UInt8) (q:Bool):In64 (V4.read l q).proto/\In64 (V4.read l q).src/\In64 (V4.read l q).dst:=by
 unfold V4.read;split
 ·exact⟨XA l 9 1 (by omega),XA l 12 4 (by omega),XA l 16 4 (by omega)⟩
 ·simp only[jG.zero];decide
theorem acW {l:List UInt8} (h:uY l true=0):20+(V4.read l true).opts.length+(V4.read l true).data.length<=l.length:=by
 unfold V4.read;rw[if_pos h];have ho:nC l true=0:=by
  unfold uY at h;by_cases h0:nC l true=0
  ·exact h0
  ·rw[if_pos h0] at h;exact absurd h h0
 have:=(Ry ho).2;unfold jG.size at this;exact this
theorem Nv (s0:fU) (x0 x1 x2 x3 x4 x5 x6:Int) (x7 x8:Bool) (x9:fU) (u:Int) {d:fU} {m:List UInt8} (hd:iq w d m) (hm:m.length<=2^40) (i:Int):
  jJ s0 x0 x1 x2 x3 x4 x5 x6 x7 x8 x9 d u i w λn w'=>In64 n/\Ext w w':=by
 apply Jy;refine gq λa w1 r1 e1 z1 f1=> ?_;refine iH (k:= .slice) (y:=d) (by rw[gy,gy,r1.cell];rfl) ?_;refine cmS9 (GK (hd.ext f1) (by omega) i 2) ?_;rintro n e w2 ⟨hw,hg⟩;subst hw;exact⟨VI hg (by omega),f1⟩
theorem ZV {s:fU} {l:List UInt8} (hs:iq w s l) (hl:l.length<=2^40) {K:fU->Int->Int->Int->Int->Int->Int->Int->Bool->Bool->fU->fU->Int->Int->b_}
  (hK:∀t i o l' p s' d' df mf op da hd e w' (m:List UInt8),Ext w w'->iq w' da m->m.length<=2^40->(e=0->8<=m.length)->In64 p->In64 s'->In64 d'->∀s0,(e=0->s0=s/\20<=hd/\hd+(m.length:Int)<=(l.length:Int))->K s0 t i o l' p s' d' df mf op da hd e w'):vP s w K:=by
 apply U4;refine gq λa w1 r1 e1 z1 f1=> ?_;have z:∀(W:θ) (e:Int),Ext w1 W->e≠0->iw (mP ⟨none,0,0⟩ 0 0 0 0 0 0 0 false false ⟨none,0,0⟩ ⟨none,0,0⟩ 0) W ⟨a,0,none⟩ 0 λJ=>rV J ⟨a,0,none⟩ λy0 y1 y2 y3 y4 y5 y6 y7 y8 y9 U Y Z=>K y0 y1 y2 y3 y4 y5 y6 y7 y8 y9 U Y Z e J:=by
  intro W e hW he;refine StN_f (r1.ext hW) λw2 r2 f2 z2=> ?_;refine OY r2 ?_;exact hK _ _ _ _ _ _ _ _ _ _ _ _ e w2 [] ((f1.trans hW).nw f2) iq.nil (by simp) (λh=>absurd h he) (by decide) (by decide) (by decide) _ (λh=>absurd h he)
 refine cmS11 (acR (hs.ext f1) hl) ?_;rintro t i o l' p s' d' df mf op da e w2 ⟨aa,hP,f2⟩;have ac:=afa l true;have u:=agG l true;have N:= @acW l;generalize V4.read l true=P at hP ac u N;obtain⟨rfl,rfl,rfl,rfl,rfl,rfl,rfl,rfl,rfl,O,R⟩:=hP;refine gq λb w3 r3 e3 z3 f3=> ?_;refine StN_f r3 λw4 r4 f4 z4=> ?_;have I:Ext w2 w4:=f3.nw f4;have g4:=f2.trans I;by_cases he:e=0;rotate_left
 ·have:(e !=0)=true:=by rw[bne_iff_ne];exact he
  rw[this,cond_true];exact z w4 e g4 he
 subst he;show cond false _ _;rw[cond_false];refine Ld_i 2 P.off r4 ?_;by_cases c1:P.off>0
 ·rw[decide_eq_true c1,cond_true];exact z w4 4 g4 (by omega)
 rw[decide_eq_false c1,cond_false];refine Ld_s 10 da r4 ?_;by_cases c2:(da.len:Int)<8
 ·rw[decide_eq_true c2,cond_true];exact z w4 3 g4 (by omega)
 rw[decide_eq_false c2,cond_false];have r4d:=r4.drew;refine jF r4d (jF r4d ?_);have hd4:=(R.ext I).ext (Ext.drew w4);have ho4:=(O.ext I).ext (Ext.drew w4);refine cmS1 (Yk _ _ _ _ _ _ _ _ _ _ _ (by have:=ho4.1;omega) _) ?_;rintro hd w5 ⟨hhd,f5⟩;have af:=r4d.ext f5;refine qF af ?_;have g5:=(g4.trans (Ext.drew w4)).trans f5;refine StN_f (r1.ext g5) λw6 r6 f6 z6=> ?_;refine OY r6 ?_;have hd5:=hd4.ext f5;refine hK _ _ _ _ _ _ _ _ _ _ _ _ 0 w6 P.data ((f1.trans g5).nw f6) (hd5.fr f6 λad ha h0 e=>jg (r1.ext g5) (by simp) hd5 ha h0 e) (by omega) (λ_=>by have:=R.1;omega) u.1 u.2.1 u.2.2 _ (λ_=>⟨rfl,by omega,by have:=N aa.symm;have:=O.1;omega⟩)
theorem OX {s:fU} {l:List UInt8} (hs:iq w s l) (hl:l.length<=2^40) {K:Int->Int->Int->Int->Int->Int->Int->Bool->Bool->fU->fU->Int->Int->Int->Int->b_}
  (hK:∀t i o l' p s' d' df mf op da x y z e w',Ext w w'->In64 s'->In64 x->In64 y->In64 d'->In64 z->K t i o l' p s' d' df mf op da x y z e w'):tK s w K:=by
 apply Tf;refine gq λa w1 r1 e1 z1 f1=> ?_;refine gq λb w2 r2 e2 z2 f2=> ?_;have x2:=f1.trans f2;have N:=r1.ext f2;have za:=f1.size;have fin:∀(W:θ) (t i o l' p s' d':Int) (df mf:Bool) (op da:fU) (x y z e:Int),In64 s'->In64 x->In64 y->In64 d'->In64 z->Ext w2 W->
   iw (gu t i o l' p s' d' df mf op da) W ⟨a,0,none⟩ 0 λZ=>iw [Β x,Β y,Β z] Z ⟨b,0,none⟩ 0 λu=>ig u ⟨a,0,none⟩ λy0 y1 y2 y3 y4 y5 y6 y7 y8 y9 aa=>
    Ld ν u (Addr.add ⟨b,0,none⟩ 0) λu0=>Ld ν u (Addr.add ⟨b,0,none⟩ 1) λu1=>Ld ν u (Addr.add ⟨b,0,none⟩ 2) λu2=>K y0 y1 y2 y3 y4 y5 y6 y7 y8 y9 aa u0 u1 u2 e u:=by
  intro W t i o l' p s' d' df mf op da x y z e i0 i1 i2 i3 i4 hW;refine StN_f (N.ext hW) λw3 r3 f3 z3=> ?_;refine StN_f ((r2.ext hW).fr f3 (by omega)) λw4 r4 f4 z4=> ?_;refine jF (r3.fr f4 (by omega)) ?_;refine rd3 (K:=λu0 u1 u2 W'=>K _ _ _ _ _ _ _ _ _ _ _ u0 u1 u2 e W') r4 ?_;exact hK _ _ _ _ _ _ _ _ _ _ _ _ _ _ e w4 (((x2.trans hW).nw f3).nw f4) i0 i1 i2 i3 i4
 refine ZV (hs.ext x2) hl λt i o l' p s' d' df mf op da hd e w3 m f3 ac hm hm8 ip is idd s0 _=> ?_;refine gq λg w4 r4 e4 z4 f4=> ?_;refine StN_f r4 λw5 r5 f5 z5=> ?_;have R:Ext w3 w5:=f4.nw f5;have g5:=f3.trans R;by_cases he:e=0;rotate_left
 ·have:(e !=0)=true:=by rw[bne_iff_ne];exact he
  rw[this,cond_true];exact fin w5 0 0 0 0 0 0 0 false false ⟨none,0,0⟩ ⟨none,0,0⟩ 0 0 0 e (by decide) (by decide) (by decide) (by decide) (by decide) g5
 subst he;show cond false _ _;rw[cond_false];refine OY r5 ?_;have qp:∀{K2:Int->Int->Int->Int->b_},(∀x y z e W,Ext w5 W->In64 x->In64 y->In64 z->K2 x y z e W)->qM s0 t i o l' p s' d' df mf op da hd w5 K2:=by
  intro K2 hK2;have hd5:=ac.ext R;apply FM;refine gq λa' w6 r6 e6 z6 f6=> ?_;refine gq λb' w7 r7 e7 z7 f7=> ?_;have I:=r6.ext f7;have U:=f6.trans f7;have zb:=f6.size;have fin2:∀(W:θ) (x y z e:Int),In64 x->In64 y->In64 z->Ext w7 W->iw [Β x,Β y,Β z] W ⟨b',0,none⟩ 0 λw8=>Ld ν w8 (Addr.add ⟨b',0,none⟩ 0) λy0=>Ld ν w8 (Addr.add ⟨b',0,none⟩ 1) λy1=>Ld ν w8 (Addr.add ⟨b',0,none⟩ 2) λy2=>K2 y0 y1 y2 e w8:=by
   intro W x y z e i0 i1 i2 hW;refine gY (r7.ext hW) rfl rfl λw8 r8 f8' z8=> ?_;have f8:gW W w8 (·=b'):=f8' _ rfl;refine rd3 (K:=λu0 u1 u2 W'=>K2 u0 u1 u2 e W') r8 ?_;exact hK2 _ _ _ _ _ ((U.trans hW).new f8 λy hy e=>by omega) i0 i1 i2
  intro J;have hJ:∀W,Ext w7 W->J W:=λW hW=>by
   simp only[J];exact fin2 W 0 0 0 8 (by decide) (by decide) (by decide) hW
  clear_value J;have h7d:=hd5.ext U;refine iH (k:= .int .i64) (y:=p) (by rw[gy,gy,I.cell];rfl) ?_;have r67d:=I.drew;intro J2;have hJ2t:J2 true:=by
   simp only[J2,cond_true];refine iH (k:= .int .i64) (y:=p) (by rw[gy,gy,r67d.cell];rfl) ?_;refine OY r67d (OY r67d ?_);refine cmS1 (Nv _ _ _ _ _ _ _ _ _ _ _ _ (h7d.ext (Ext.drew w7)) hm 0) ?_;rintro n1 w8 ⟨in1,f8⟩;have r8:=r67d.ext f8;refine qF r8 ⟨by rw[gy,gy,r8.cell];rfl,?_⟩;refine cmS1 (Nv _ _ _ _ _ _ _ _ _ _ _ _ ((h7d.ext (Ext.drew w7)).ext f8) hm 2) ?_;rintro n2 w9 ⟨in2,f9⟩;refine⟨by rw[gy,gy,(r8.ext f9).cell];rfl,?_⟩;exact fin2 w9 _ _ _ 0 ip in1 in2 (((Ext.drew w7).trans f8).trans f9)
  have hJ2f:J2 false:=by
   simp only[J2,cond_false]
   cases (p==1)
   ·exact hJ w7 (Ext.refl _)
   rw[cond_true];refine iH (k:= .slice) (y:=da) (by rw[gy,gy,I.cell];rfl) ?_;have b0:=getElem?_eq_getElem (show 0<m.length by have:=hm8 rfl;omega);generalize m[0]=u0 at b0;refine six (i:=0) h7d b0 λa0 h0=> ?_;refine iH (k:= .int .u8) (y:=(u0.toNat:Int)) h0 ?_;refine cmS0 (ZW _ _) ?_;rintro qr w8 f8
   cases qr
   ·exact hJ w8 f8
   rw[cond_true];have r8:=(I.ext f8).drew;have h8:=(h7d.ext f8).ext (Ext.drew w8);refine OY r8 (OY r8 ?_);refine cmS1 (Nv _ _ _ _ _ _ _ _ _ _ _ _ h8 hm 4) ?_;rintro n1 w9 ⟨in1,f9⟩;refine qF (r8.ext f9) ?_;refine cmS1 (Nv _ _ _ _ _ _ _ _ _ _ _ _ (h8.ext f9) hm 4) ?_;rintro n2 O ⟨in2,f10⟩;exact fin2 O _ _ _ 0 (by decide) in1 in2 (((f8.trans (Ext.drew w8)).trans f9).trans f10)
  clear_value J2;have hJ2:∀q,J2 q:=λq=>by cases q;exact hJ2f;exact hJ2t
  cases (p==6)
  ·exact hJ2 _
  ·exact hJ2 _
 refine qp λx y z e2 w6 f6 ix iy iz=> ?_;have g6:=g5.trans f6;have af:=r5.ext f6;refine gq λk w7 r7 e7 z7 f7=> ?_;refine StN_f r7 λw8 r8 f8 z8=> ?_;have Y:Ext w6 w8:=f7.nw f8;have g8:=g6.trans Y
 cases (e2 !=0)
 rotate_left
 ·exact fin w8 0 0 0 0 0 0 0 false false ⟨none,0,0⟩ ⟨none,0,0⟩ 0 0 0 e2 (by decide) (by decide) (by decide) (by decide) (by decide) g8
 rw[cond_false];have ag:=(af.ext Y).drew;have r8d:=r8.drew;have g8d:=g8.trans (Ext.drew w8);have rdw:∀{Q:Int->Int->Int->Int->Int->Int->Int->Bool->Bool->fU->fU->Prop},Q t i o l' p s' d' df mf op da->ig w8.drew (Addr.add ⟨g,0,none⟩ 1) Q:=by
  intro Q hQ;rw[gy];simp only[sx,ag.cell];exact hQ
 refine rdw ?_;refine Ld_i 0 x r8d (Ld_i 1 y r8d (Ld_i 2 z r8d ?_));have ha2:a<w2.heap.size:=N.lt;have hb2:b<w2.heap.size:=r2.lt;have z8:=(g6.trans (Ext.refl _)).size;refine StN_f (N.ext g8d) λw9 r9 f9 z9=> ?_;have r8e:=r8d.fr f9 (by omega);refine⟨by rw[gy,r8e.cell];rfl,by rw[gy,r8e.cell];rfl,by rw[gy,r8e.cell];rfl,?_⟩;refine StN_f ((r2.ext g8d).fr f9 (by omega)) λO ah f10 z10=> ?_;refine jF (r9.fr f10 (by omega)) ?_;refine rd3 (K:=λu0 u1 u2 W'=>K _ _ _ _ _ _ _ _ _ _ _ u0 u1 u2 0 W') ah ?_;exact hK _ _ _ _ _ _ _ _ _ _ _ _ _ _ 0 O (((x2.trans g8d).nw f9).nw f10) is ix iy idd iz
end
end Go.Proofs.AN
end
section
namespace Go.Proofs.AN
open Gp Gp.V4 Go.Proofs Go.Proofs.VN
open Gp.Bind (In64)
section
variable {w0 w w':θ}
abbrev shP:List Shape:=[.agg [ν,ν,ν]]
theorem af9 (v:Value) (w:θ) (K:Int->Int->Int->b_):JR υ (.iface 451 v) "goosepond/ports.ports" [] shP w K=fZ υ 391 [v] shP w K:=by kernel_rfl
theorem agb (v:Value) (w:θ) (K:Int->Int->Int->b_):JR υ (.iface 453 v) "goosepond/ports.ports" [] shP w K=fZ υ 398 [v] shP w K:=by kernel_rfl
theorem af_ (v:Value) (w:θ) (K:Int->Int->Int->b_):JR υ (.iface 455 v) "goosepond/ports.ports" [] shP w K=fZ υ 401 [v] shP w K:=by kernel_rfl
def Pay (pr:Int) (q:Int->Int->Prop) (v:Value):Prop:=∀(w:θ) (K:Int->Int->Int->b_),(∀y z w',Ext w w'->lD y->lD z->q y z->K pr y z w')->JR υ v "goosepond/ports.ports" [] shP w K
theorem agy (a0 a1:Int) (a2:Bool) (a3:fU) (i0:lD a0) (i1:lD a1):Pay 17 (λy z=>y=a0/\z=a1) (.iface 451 (.agg ⟨[Β a0,Β a1,.bool a2,Δ a3]⟩)):=by
 intro w K hK;rw[af9];apply DN;refine gq λa w1 r1 e1 z1 f1=> ?_;refine gq λb w2 r2 e2 z2 f2=> ?_;have u:=r1.ext f2;have za:=f1.size;have zb:=f2.size;refine Ld_i 0 a0 u (Ld_i 1 a1 u ?_);refine StN_f r2 λw3 r3 f3 z3=> ?_;exact rd3 (K:=K) r3 (hK _ _ w3 ((f1.trans f2).nw f3) i0 i1 ⟨rfl,rfl⟩)
theorem agA (a0 a1 a2 a3 a4 a5 a6 a7:Int) (a8 a9:fU) (i0:lD a0) (i1:lD a1):Pay 6 (λ_ _=>True) (.iface 453 (.agg ⟨kY a0 a1 a2 a3 a4 a5 a6 a7 a8 a9⟩)):=by
 intro w K hK;rw[agb];apply ET;refine gq λa w1 r1 e1 z1 f1=> ?_;refine gq λb w2 r2 e2 z2 f2=> ?_;have u:=r1.ext f2;have za:=f1.size;have zb:=f2.size;refine Ld_i 0 a0 u (Ld_i 1 a1 u ?_);refine StN_f r2 λw3 r3 f3 z3=> ?_;exact rd3 (K:=K) r3 (hK _ _ w3 ((f1.trans f2).nw f3) i0 i1 trivial)
theorem agz (a0 a1 a2:Int) (a3:fU):Pay 1 (λ_ _=>True) (.iface 455 (.agg ⟨[Β a0,Β a1,Β a2,Δ a3]⟩)):=by
 intro w K hK;rw[af_];apply Hq;refine gq λa w1 r1 e1 z1 f1=> ?_;refine gq λb w2 r2 e2 z2 f2=> ?_;have u:=r1.ext f2;have za:=f1.size;have zb:=f2.size;refine V5 (K:=λx6 x7 x8 x9 W=>_) u ?_;apply aav;refine gq λc w3 r3 e3 z3 f3=> ?_;have zc:=f3.size;refine Ld_i 2 a2 r3 ⟨by omega,?_⟩;refine StN_f (r2.ext f3) λw4 r4 f4 z4=> ?_;exact rd3 (K:=K) r4 (hK _ _ w4 (((f1.trans f2).trans f3).nw f4) (adE _) (adE _) trivial)
def qw (p:jG):Prop:=p.proto=17/\p.check=0/\p.mf=false/\p.off<=0/\Vp p.src p.dst p.data
abbrev Ui (w:θ) (s:fU):Prop:=∃L:List UInt8,iq w s L/\L.length<=2^40
theorem Ui.ext {s:fU} (h:Ui w s) (hf:Ext w w'):Ui w' s:=by
 obtain⟨L,h1,h2⟩:=h;exact⟨L,h1.ext hf,h2⟩
inductive Form (w:θ) (p:jG) (v:Value):Prop
 |dat (a0 a1:Int) (a2:Bool) (a3:fU) (h:p.proto=17) (hv:v= .iface 451 (.agg ⟨[Β a0,Β a1,.bool a2,Δ a3]⟩)) (i0:lD a0) (i1:lD a1) (hb:Ui w a3) (hg:qw p->a0=(wordAt p.data 0:Int)/\a1=(wordAt p.data 2:Int)/\a2=false/\iq w a3 (p.data.drop 8))
 |seg (a0 a1 a2 a3 a4 a5 a6 a7:Int) (a8 a9:fU) (h:p.proto=6) (hv:v= .iface 453 (.agg ⟨kY a0 a1 a2 a3 a4 a5 a6 a7 a8 a9⟩)) (i0:lD a0) (i1:lD a1) (hb8:Ui w a8) (hb9:Ui w a9)
 |que (a0 a1 a2:Int) (a3:fU) (h:p.proto=1) (hv:v= .iface 455 (.agg ⟨[Β a0,Β a1,Β a2,Δ a3]⟩)) (hb:Ui w a3)
theorem Pay.mono {pr:Int} {q q':Int->Int->Prop} {v:Value} (h:Pay pr q v) (hq:∀y z,q y z->q' y z):Pay pr q' v:=λw K hK=>h w K λy z w' f i j k=>hK y z w' f i j (hq y z k)
theorem Form.pay {p:jG} {v:Value} (h:Form w p v):Pay p.proto (λy z=>qw p->y=(wordAt p.data 0:Int)/\z=(wordAt p.data 2:Int)) v:=by
 cases h with
 |dat a0 a1 a2 a3 h hv i0 i1 hb hg=>rw[h,hv];exact(agy _ _ _ _ i0 i1).mono λy z hq g=>by obtain⟨g0,g1,_⟩:=hg g;exact⟨hq.1.trans g0,hq.2.trans g1⟩
 |seg a0 a1 a2 a3 a4 a5 a6 a7 a8 a9 h hv i0 i1 hb8 hb9=>rw[h,hv];exact(agA _ _ _ _ _ _ _ _ _ _ i0 i1).mono λy z _ g=>by have:=g.1;omega
 |que a0 a1 a2 a3 h hv hb=>rw[h,hv];exact(agz _ _ _ _).mono λy z _ g=>by have:=g.1;omega
theorem Form.pr {p:jG} {v:Value} (h:Form w p v):p.proto=1\/p.proto=6\/p.proto=17:=by
 cases h with
 |dat a0 a1 a2 a3 h=>exact .inr (.inr h)
 |seg a0 a1 a2 a3 a4 a5 a6 a7 a8 a9 h=>exact .inr (.inl h)
 |que a0 a1 a2 a3 h=>exact .inl h
theorem Lu (x0 x1 x2 x3 x4 x5 x6:Int) (x7 x8:Bool) (x9 u:fU) (w:θ):Ag x0 x1 x2 x3 x4 x5 x6 x7 x8 x9 u w λr w'=>r=(!x8 && decide (x2<=0))/\Ext w w':=by
 apply ZG;refine gq λa w1 r1 e1 z1 f1=> ?_;intro J;have hJ:∀q,q=(!x8 && decide (x2<=0))->J q:=λq h=>⟨h,f1⟩;clear_value J;refine Ld_b 8 x8 r1 ?_
 cases x8
 ·exact Ld_i 2 x2 r1 (hJ _ (by simp))
 ·exact hJ _ rfl
theorem Lm (p:jG) {o d:fU} (ho:iq w o p.opts) (hd:iq w d p.data) (h1:p.opts.length<=2^40) (h2:p.data.length<=2^40) {K:Value->Int->b_}
  (hK:∀v e w',Ext w w'->(e=0->Form w' p v)->(qw p->e=0)->K v e w'):
  qL p.tos p.id p.off p.ttl p.proto p.src p.dst p.df p.mf o d w K:=by
 apply Qi;refine gq λa w1 r1 e1 z1 f1=> ?_;refine jF r1 ?_;refine cmS1 (Ai p (ho.ext f1).1 (hd.ext f1).1 (by omega) (by omega)) ?_;rintro ce w2 ⟨U,f2⟩;have x2:=f1.trans f2;by_cases hc:ce=0;rotate_left
 ·have:(ce !=0)=true:=by rw[bne_iff_ne];exact hc
  rw[this,cond_true];exact hK _ ce w2 x2 (λh=>absurd h hc) λg=>by rw[U];exact g.2.1
 subst hc;show cond false _ _;rw[cond_false];have O:=r1.ext f2;refine jF O ?_;refine cmS0 (Lu _ _ _ _ _ _ _ _ _ _ _ _) ?_;rintro wh w3 ⟨R,f3⟩;have x3:=x2.trans f3;have u:=O.ext f3
 cases wh
 ·exact hK _ 4 w3 x3 (λh=>by cases h) λg=>by obtain⟨_,_,g2,g3,_⟩:=g;rw[g2,decide_eq_true g3] at R;cases R
 rw[Bool.not_true,cond_false];have hd3:=hd.ext x3;refine Ld_i 4 p.proto u ?_;by_cases I:p.proto=17
 ·have:(p.proto==17)=true:=by simpa using I
  rw[this,cond_true];refine Ld_i 5 p.src u (Ld_i 6 p.dst u (Ld_s 10 d u ?_));refine aaR _ _ hd3 h2 λu0 u1 u2 u3 e w4 f4 j0 j1 hb hG=> ?_;refine gq λb w5 r5 e5 z5 f5=> ?_;refine StN_f r5 λw6 r6 f6 z6=> ?_;have x6:Ext w4 w6:=f5.nw f6;refine Ld_i 0 u0 r6 (Ld_i 1 u1 r6 (Ld_b 2 u2 r6 (Ld_s 3 u3 r6 ?_)));exact hK _ e w6 ((x3.trans f4).trans x6) (λ_=> .dat _ _ _ _ I rfl j0 j1 (Ui.ext hb x6) λg=>by obtain⟨_,g1,g2,g3,g4⟩:=hG g.2.2.2.2;exact⟨g1,g2,g3,g4.ext x6⟩) λg=>(hG g.2.2.2.2).1
 have:(p.proto==17)=false:=by simpa using I
 rw[this,cond_false];by_cases p6:p.proto=6
 ·have:(p.proto==6)=true:=by simpa using p6
  rw[this,cond_true];refine Ld_i 5 p.src u (Ld_i 6 p.dst u (Ld_s 10 d u ?_));refine aaP _ _ hd3 h2 λu0 u1 u2 u3 u4 u5 u6 u7 u8 u9 e w4 f4 j0 j1 hb8 hb9=> ?_;refine gq λb w5 r5 e5 z5 f5=> ?_;refine StN_f r5 λw6 r6 f6 z6=> ?_;have x6:Ext w4 w6:=f5.nw f6;refine ZY r6 ?_;exact hK _ e w6 ((x3.trans f4).trans x6) (λ_=> .seg _ _ _ _ _ _ _ _ _ _ p6 rfl j0 j1 (Ui.ext hb8 x6) (Ui.ext hb9 x6)) λg=>absurd g.1 I
 have:(p.proto==6)=false:=by simpa using p6
 rw[this,cond_false];by_cases p1:p.proto=1;rotate_left
 ·have:(p.proto==1)=false:=by simpa using p1
  rw[this,cond_false];exact hK _ 8 w3 x3 (λh=>by cases h) λg=>absurd g.1 I
 have:(p.proto==1)=true:=by simpa using p1
 rw[this,cond_true];refine Ld_s 10 d u ?_;refine RX hd3 h2 λu0 u1 u2 u3 e w4 m f4 hm Y=> ?_;refine gq λb w5 r5 e5 z5 f5=> ?_;refine StN_f r5 λw6 r6 f6 z6=> ?_;have x6:Ext w4 w6:=f5.nw f6;have g6:=(x3.trans f4).trans x6;intro J;have hJ:∀e W,Ext w6 W->J e W:=λe W hW=>by
  simp only[J];refine V5 (K:=λZ aa ac N W'=>K (Value.iface 455 (Value.agg ⟨[Β Z,Β aa,Β ac,Δ N]⟩)) e W') (r6.ext hW) ?_;exact hK _ e W (g6.trans hW) (λ_=> .que _ _ _ _ p1 rfl ⟨m,(hm.ext x6).ext hW,Y⟩) λg=>absurd g.1 I
 clear_value J;intro J2;have hJ2:∀q W,Ext w6 W->J2 q W:=λq W hW=>by
  simp only[J2]
  cases q
  ·exact hJ _ W hW
  ·exact hJ _ W hW
 clear_value J2
 cases (e==0)
 ·exact hJ2 _ _ (Ext.refl _)
 ·rw[cond_true];refine Ld_i 0 u0 r6 ?_;refine cmS0 (ZW _ _) ?_;rintro qr w7 f7;exact hJ2 _ _ f7
theorem ae3 (p:jG) {o d:fU} (ho:iq w o p.opts) (hd:iq w d p.data) (h1:p.opts.length<=2^40) (h2:p.data.length<=2^40):
  En p.tos p.id p.off p.ttl p.proto p.src p.dst p.df p.mf o d w λx y z e w'=>(lD y/\lD z/\(e=0->x=p.proto/\(p.proto=1\/p.proto=6\/p.proto=17))/\(qw p->e=0/\y=(wordAt p.data 0:Int)/\z=(wordAt p.data 2:Int)))/\Ext w w':=by
 apply Zv;refine gq λa w1 r1 e1 z1 f1=> ?_;refine gq λb w2 r2 e2 z2 f2=> ?_;have x2:=f1.trans f2;have za:=f1.size;have zb:=f2.size;refine jF (r1.ext f2) ?_;refine Lm p (ho.ext x2) (hd.ext x2) h1 h2 λv e w3 f3 hp hG=> ?_;have x3:=x2.trans f3;by_cases he:e=0;rotate_left
 ·have:(e !=0)=true:=by rw[bne_iff_ne];exact he
  rw[this,cond_true];refine StN_f (r2.ext f3) λw4 r4 f4 z4=> ?_;exact rd3 (K:=λx y z W=>(lD y/\lD z/\(e=0->x=p.proto/\(p.proto=1\/p.proto=6\/p.proto=17))/\(qw p->e=0/\y=(wordAt p.data 0:Int)/\z=(wordAt p.data 2:Int)))/\Ext w W) r4 ⟨⟨by decide,by decide,λh=>absurd h he,λg=>absurd (hG g) he⟩,x3.nw f4⟩
 subst he;show cond false _ _;rw[cond_false];refine(hp rfl).pay w3 _ λy z w4 f4 iy iz hq=> ?_;refine StN_f ((r2.ext f3).ext f4) λw5 r5 f5 z5=> ?_;exact rd3 (K:=λx y z W=>(lD y/\lD z/\((0:Int)=0->x=p.proto/\(p.proto=1\/p.proto=6\/p.proto=17))/\(qw p->(0:Int)=0/\y=(wordAt p.data 0:Int)/\z=(wordAt p.data 2:Int)))/\Ext w W) r5 ⟨⟨iy,iz,λ_=>⟨rfl,(hp rfl).pr⟩,λg=>⟨rfl,hq g⟩⟩,(x3.trans f4).nw f5⟩
end
end Go.Proofs.AN
end
section
namespace Go.Proofs.AN
open Gp Gp.V4 Go.Proofs Go.Proofs.VN
open Gp.Bind (In64)
section
variable {w0 w w':θ}
theorem VU (p:jG) {o d:fU} (ho:iq w o p.opts) (hd:iq w d p.data) (h1:p.opts.length<=2^40) (h2:p.data.length<=2^40):
  yQ p.tos p.id p.off p.ttl p.proto p.src p.dst p.df p.mf o d w λr w'=>r=(decide (p.check=0) && (!p.mf && decide (p.off<=0)))/\Ext w w':=by
 apply UW;refine gq λa w1 r1 e1 z1 f1=> ?_;intro J;refine jF r1 ?_;refine cmS1 (Ai p (ho.ext f1).1 (hd.ext f1).1 (by omega) (by omega)) ?_;rintro ce w2 ⟨u,f2⟩;subst u;by_cases hc:p.check=0;rotate_left
 ·have:(p.check==0)=false:=by simpa using hc
  rw[this,cond_false];exact⟨by simp[hc],f1.trans f2⟩
 ·have:(p.check==0)=true:=by simpa using hc
  rw[this,cond_true];refine jF (r1.ext f2) ?_;refine cmS0 (Lu _ _ _ _ _ _ _ _ _ _ _ _) ?_;rintro wh w3 ⟨rfl,f3⟩;exact⟨by simp[hc],(f1.trans f2).trans f3⟩
theorem IL (a b:Int) (q:Bool) (w:θ):kQ a b q w λ_ w'=>Ext w w':=by
 apply OU;refine gq λp w1 r1 e1 z1 f1=> ?_
 cases q
 ·exact Ld_i 1 b r1 f1
 ·exact Ld_i 0 a r1 f1
theorem aeW (s:Int) (q:Bool) (w:θ):CB s q w λ_ w'=>Ext w w':=by
 apply TF;intro J;have hJ:∀b,J b:=by
  intro b;simp only[J]
  cases b
  ·rw[cond_false]
   cases (s==1)
   ·rw[cond_false]
    cases (s==2)
    ·exact Ext.refl _
    ·exact cmS1 (IL _ _ _ _) λ_ _ h=>h
   ·exact cmS1 (IL _ _ _ _) λ_ _ h=>h
  ·exact cmS1 (IL _ _ _ _) λ_ _ h=>h
 clear_value J
 cases (s==0)
 ·exact hJ _
 ·exact hJ _
theorem ach (s:Int) (q:Bool) (w:θ):Af s q w λ_ w'=>Ext w w':=by
 apply Qk
 cases (s==3)
 ·rw[cond_false]
  cases (s==4)
  ·rw[cond_false]
   cases (s==5)
   ·exact Ext.refl _
   ·exact cmS1 (IL _ _ _ _) λ_ _ h=>h
  ·exact cmS1 (IL _ _ _ _) λ_ _ h=>h
 ·exact cmS1 (IL _ _ _ _) λ_ _ h=>h
theorem agq (s:Int) (q:Bool) (fl:Int) (w:θ):Ey s q fl w λ_ _ w'=>Ext w w':=by
 apply Vd;intro J;have hJ:∀b,J b:=by
  intro b;simp -zeta only[J]
  cases b
  rotate_left
  ·exact Ext.refl _
  rw[cond_false];intro J6;have h6:∀b W,Ext w W->J6 b W:=by
   intro b W hx;simp -zeta only[J6]
   cases b
   rotate_left
   ·exact hx
   rw[cond_false]
   cases ((kF .i64 fl 4) !=0)
   rotate_left
   ·exact hx
   rw[cond_false];intro J9;have h9:∀W,Ext w W->J9 W:=by
    intro W hx;simp only[J9]
    cases ((kF .i64 fl 1) !=0)
    ·exact hx
    ·exact cmS1 (ach _ _ _) λ_ _ h=>hx.trans h
   clear_value J9;apply Fe
   cases ((kF .i64 fl 6)==2)
   ·exact h9 W hx
   ·rw[cond_true];refine cmS1 (aeW _ _ _) ?_;intro r W2 h2
    cases (r !=s)
    ·exact h9 W2 (hx.trans h2)
    ·exact hx.trans h2
  clear_value J6
  cases (s==0)
  ·exact h6 _ _ (Ext.refl _)
  ·rw[cond_true];apply Fe;exact h6 _ _ (Ext.refl _)
 clear_value J
 cases (decide (s<0))
 ·exact hJ _
 ·exact hJ _
theorem afs {t:TypeId} {v:Value} {Kt:Value->Prop} {Kf:Prop} (h:Kt v):AsT t (.iface t v) Kt Kf:=by
 show cond (Nat.beq t t) (Kt v) Kf;have:Nat.beq t t=true:=Nat.beq_refl t;rw[this];exact h
theorem RH (p:jG) {o d:fU} (ho:iq w o p.opts) (hd:iq w d p.data) (h1:p.opts.length<=2^40) (h2:p.data.length<=2^40):
  BX p.tos p.id p.off p.ttl p.proto p.src p.dst p.df p.mf o d w λ_ w'=>Ext w w':=by
 apply Tc;refine gq λa w1 r1 e1 z1 f1=> ?_;refine jF r1 ?_;refine Lm p (ho.ext f1) (hd.ext f1) h1 h2 λv e w3 f3 hp _=> ?_;have x3:=f1.trans f3;by_cases he:e=0;rotate_left
 ·have:(e !=0)=true:=by rw[bne_iff_ne];exact he
  rw[this,cond_true];exact x3
 subst he;show cond false _ _;rw[cond_false];have out:∀(W:θ),Ext w W->Al W (.cells ⟨kY 0 0 0 0 0 0 0 0 ⟨none,0,0⟩ ⟨none,0,0⟩⟩ 453) λu I=>iw (kY 0 0 0 0 0 0 0 0 ⟨none,0,0⟩ ⟨none,0,0⟩) I u 0 λJ=>Ext w J:=by
  intro W hx;refine gq λb w4 r4 e4 z4 f4=> ?_;refine gY r4 rfl rfl λw5 r5 f5 z5=> ?_;have:=hx.size;exact(hx.trans f4).new (f5 (·=b) rfl) λy hy e=>by omega
 cases hp rfl with
 |dat a0 a1 a2 a3 h hv=>
  subst hv;exact out w3 x3
 |que a0 a1 a2 a3 h hv=>
  subst hv;exact out w3 x3
 |seg a0 a1 a2 a3 a4 a5 a6 a7 a8 a9 h hv=>
  subst hv;refine afs ?_;refine gq λb w4 r4 e4 z4 f4=> ?_;show iw (kY a0 a1 a2 a3 a4 a5 a6 a7 a8 a9) w4 _ 0 _;refine gY r4 rfl rfl λw5 r5 f5 z5=> ?_;have:=x3.size;exact Ld_i 5 a5 r5 ((x3.trans f4).new (f5 (·=b) rfl) λy hy e=>by omega)
theorem step_ok (b0:Int) (b1:Bool) (b2:Int) (b3:Bool) (b4 b5 b6:Int) (p:jG) {o d:fU} (ho:iq w o p.opts) (hd:iq w d p.data) (h1:p.opts.length<=2^40) (h2:p.data.length<=2^40) (q:Bool):
  Bf b0 b1 b2 b3 b4 b5 b6 p.tos p.id p.off p.ttl p.proto p.src p.dst p.df p.mf o d q w λnx ok w'=>(p.proto≠6->nx=0/\ok=true)/\Ext w w':=by
 apply XG;refine gq λa w1 r1 e1 z1 f1=> ?_;refine gq λb w2 r2 e2 z2 f2=> ?_;have x2:=f1.trans f2;refine Ld_i 4 p.proto r2 ?_;by_cases h6:p.proto=6;rotate_left
 ·have:(p.proto !=6)=true:=by rw[bne_iff_ne];exact h6
  rw[this,cond_true];exact⟨λ_=>⟨rfl,rfl⟩,x2⟩
 have:(p.proto !=6)=false:=by simp[h6]
 rw[this,cond_false];have xd:=x2.trans (Ext.drew w2);have r1d:=(r1.ext f2).drew;refine Ld_i 4 b4 r1d ?_;refine jF r2.drew ?_;refine cmS1 (RH p (ho.ext xd) (hd.ext xd) h1 h2) ?_;intro fl w3 f3;refine⟨by rw[gy,(r1d.ext f3).cell];rfl,?_⟩;refine cmS4 (agq _ _ _ _) ?_;intro nx ok w4 f4;exact⟨λh=>absurd h6 h,(xd.trans f3).trans f4⟩
theorem Ϟ (p:jG) {o d:fU} (hd:iq w d p.data) (h2:p.data.length<=2^40):
  z_ p.tos p.id p.off p.ttl p.proto p.src p.dst p.df p.mf o d w λr w'=>(p.proto≠1->r=false)/\Ext w w':=by
 apply Qh;refine gq λa w1 r1 e1 z1 f1=> ?_;intro J;have hJ:∀q,(p.proto≠1->q=false)->J q:=λq h=>⟨h,f1⟩;clear_value J;refine Ld_i 4 p.proto r1 ?_;by_cases hp:p.proto=1;rotate_left
 ·have:(p.proto==1)=false:=by simpa using hp
  rw[this,cond_false];exact hJ _ λ_=>rfl
 have:(p.proto==1)=true:=by simpa using hp
 rw[this,cond_true];refine Ld_s 10 d r1 ?_;by_cases hl:(d.len:Int)>0;rotate_left
 ·rw[decide_eq_false hl,cond_false];exact hJ _ λ_=>rfl
 rw[decide_eq_true hl,cond_true];refine Ld_s 10 d r1 ?_;have hd1:=hd.ext f1;have hlen:=hd1.1;refine six (i:=0) hd1 (getElem?_eq_getElem (show 0<p.data.length by omega)) λad hc=> ?_;exact iH (k:= .int .u8) hc (hJ _ λh=>absurd hp h)
end
end Go.Proofs.AN
end
section
namespace Go.Proofs.EN
open Gp Gp.V4 Go.Proofs Go.Proofs.AN Go.Proofs.VN
open Gp.Bind (Bnd Slots live GoodB freeN getS In64)
open Gp.Ses (Ses)
variable {w w':θ} {a:EA} {c:Cf} {e:ES}
structure Flow (c:Cf) (e e':ES) (sw pr ad po ra rp bd sid:Int) (kn:Bool):Prop where
 bnd:∃(j:Nat) (b:Bnd),bd=(j:Int)/\e'.S[j]? =some (some b)/\b.sw=sw/\b.pr=pr/\b.ad=ad/\b.po=po
 ses:(kn=true/\∃(k:Nat) (s0:Ses),sid=(k:Int)/\e'.SS[k]? =some (some s0)/\s0.bd=bd/\s0.ra=ra/\s0.rp=rp)\/
  (kn=false/\e'.M (Bind.keyS [bd,ra,rp])=none/\((Gp.Ses.live 0 e'.SS).length:Int)<c.ns)
 was:(e'=e/\e.Mi (Bind.keyS [sw,pr,ad,po])=some bd)\/(e.Mi (Bind.keyS [sw,pr,ad,po])=none/\kn=false/\∃(i:Nat) (o:PN.O3) (Mi Mo:ByteArray->Option Int),bd=(i:Int)/\freeN e.S=some i/\PN.yH pr po sw c.lo c.hi c.pl e.G=some o/\
   e'={e with S:=e.S.set i (some ⟨sw,pr,ad,po,o.1,o.2.1,o.2.2,false⟩),Mi:=Mi,Mo:=Mo,Q:=e.Q.set sw.toNat (QN.at_ e.Q sw+1),G:=zn e.G o ()})
def LG (e:ES) (sw pr ad po ra rp:Int):Prop:=∀bd sid,e.Mi (Bind.keyS [sw,pr,ad,po])=some bd->e.M (Bind.keyS [bd,ra,rp])≠some sid
theorem acy (h:nH w a c e) {x y z v:Int} (hx:∀n∈[x,y,z],In64 n) (hM:e.M (Bind.keyS [x,y,z])=some v):∃(k:Nat) (s:Ses),v=(k:Int)/\e.SS[k]? =some (some s)/\s.bd=x/\s.ra=y/\s.rp=z:=by
 obtain⟨k,s,h1,h2,h3⟩:=(h.se.good.k _ _).1 hM;have:=Gp.Bind.keyS_inj (by simp[Ses.k]) (h.se.good.ok k s h1) hx h2;simp only[Ses.k,List.cons.injEq,and_true] at this;exact⟨k,s,h3,h1,this.1,this.2.1,this.2.2⟩
theorem agd (h:nH w a c e) {x y z u v:Int} (hx:∀n∈[x,y,z,u],In64 n) (hM:e.Mi (Bind.keyS [x,y,z,u])=some v):∃(j:Nat) (b:Bnd),v=(j:Int)/\e.S[j]? =some (some b)/\b.sw=x/\b.pr=y/\b.ad=z/\b.po=u:=by
 obtain⟨j,b,h1,h2,h3⟩:=(h.db.good.i _ _).1 hM;have:=Gp.Bind.keyS_inj (by simp[Bnd.i]) (h.db.good.ok j b h1).1 hx h2;simp only[Bnd.i,List.cons.injEq,and_true] at this;exact⟨j,b,h3,h1,this.1,this.2.1,this.2.2.1,this.2.2.2⟩
theorem ags {φ:Value->Prop} (h:φ (.bool false)):E8 υ .neq 267 .nilIface .nilIface φ:=by
 have e:E8 υ .neq 267 .nilIface .nilIface φ=φ (.bool false):=by kernel_rfl
 rw[e];exact h
theorem aea {d:Int} {φ:Value->Prop} (h:φ (.bool true)):E8 υ .neq 267 (Pm d) .nilIface φ:=by
 have e:E8 υ .neq 267 (Pm d) .nilIface φ=φ (.bool true):=by kernel_rfl
 rw[e];exact h
theorem afS {d:Int} {A B:Prop} (h:A):E8 υ .neq 267 (Pm d) .nilIface λv=>IfB v λb=>cond b A B:=aea (φ:=λv=>IfB v λb=>cond b A B) h
theorem ahT {A B:Prop} (h:B):E8 υ .neq 267 .nilIface .nilIface λv=>IfB v λb=>cond b A B:=ags (φ:=λv=>IfB v λb=>cond b A B) h
abbrev Pq (x0:Int) (x1:Bool) (x2:Int) (x3:Bool) (x4 x5 x6:Int):List Value:=[Β x0,.bool x1,Β x2,.bool x3,Β x4,Β x5,Β x6]
theorem rd7 {W:θ} {b:Nat} {x0 x2 x4 x5 x6:Int} {x1 x3:Bool} {Q:Int->Bool->Int->Bool->Int->Int->Int->Prop} (hr:Row W b (Pq x0 x1 x2 x3 x4 x5 x6)) (hq:Q x0 x1 x2 x3 x4 x5 x6):
  Ld ν W (Addr.add ⟨b,0,none⟩ 0) λy0=>Ld .bool W (Addr.add ⟨b,0,none⟩ 1) λy1=>Ld ν W (Addr.add ⟨b,0,none⟩ 2) λy2=>Ld .bool W (Addr.add ⟨b,0,none⟩ 3) λy3=>Ld ν W (Addr.add ⟨b,0,none⟩ 4) λy4=>Ld ν W (Addr.add ⟨b,0,none⟩ 5) λy5=>Ld ν W (Addr.add ⟨b,0,none⟩ 6) λy6=>Q y0 y1 y2 y3 y4 y5 y6:=by
 simp only[sx,hr.cell];exact hq
theorem YI (h:nH w a c e) (hg:Gd c e) (hm:Yq c) {sw pr ad po ra rp:Int} (p:jG) {o d:fU} (ho:iq w o p.opts) (hd:iq w d p.data) (h1:p.opts.length<=2^40) (h2:p.data.length<=2^40)
  (aH:RV c sw) (hp:pr=1\/pr=6\/pr=17) (aO:0<=ad/\ad<=4294967295) (aP:0<=po/\po<=65535) (aI:In64 ra) (aJ:In64 rp)
  {K:Int->Bool->Int->Bool->Int->Int->Int->Value->b_}
  (hD:∀d w',(Full c e sw pr po d\/(p.proto=6/\d=8)\/(p.proto=1/\d=9))->(p.proto=6\/LG e sw pr ad po ra rp)->Ext w w'->K 0 false 0 false 0 0 0 (Pm d) w')
  (hK:∀w' a' e' bd sid kn nx,gW w w' (jK a)->nH w' a' c e'->Gd c e'->Grow a a' w.heap.size->a'.x=a.x->Flow c e e' sw pr ad po ra rp bd sid kn->(p.proto≠6->nx=0)->K bd true sid kn nx ra rp .nilIface w'):
  jQ (some ⟨a.x,0,none⟩) sw pr ad po ra rp p.tos p.id p.off p.ttl p.proto p.src p.dst p.df p.mf o d w K:=by
 have hsl:=h.cf.sw;have i4:∀n∈[sw,pr,ad,po],In64 n:=by
  intro n hn;simp only[mem_cons,not_mem_nil,or_false] at hn;obtain⟨s0,s1⟩:=aH;unfold In64;rcases hn with rfl|rfl|rfl|rfl<;>omega
 apply He;refine gq λb6 w1 r6 e6 z6 f6=> ?_;refine gq λb8 w2 r8 e8 z8 f8=> ?_;refine gq λb10 w3 I e10 z10 f10=> ?_;refine gq λR w4 J e12 z12 f12=> ?_;have r6:=((r6.ext f8).ext f10).ext f12;have r8:=(r8.ext f10).ext f12;have I:=I.ext f12;have x4:=((f6.trans f8).trans f10).trans f12;have s6:=f6.size;have s8:=f8.size;have s10:=f10.size;have s12:=f12.size;refine Ld_i 0 ra r8 (Ld_i 1 rp r8 ?_);refine gq λO w5 u e16 z16 f16=> ?_;have r6:=r6.ext f16;have I:=I.ext f16;have J:=J.ext f16;refine gY u rfl rfl λw6 u ag y16=> ?_;have ag:gW w5 w6 (·=O):=ag _ rfl;have x6:Ext w w6:=(x4.trans f16).nw ag;have r6:=(r6.fr ag (by omega)).drew;have I:=(I.fr ag (by omega)).drew;have J:=(J.fr ag (by omega)).drew;have u:=u.drew;have x6:=x6.trans (Ext.drew w6);have h6:=h.ext x6;have zw:w.heap.size<=b6:=by omega
 refine iI.2 (iH (k:= .ptr) (y:=some ⟨a.B.d,0,none⟩) (by rw[gy];exact h6.c2) ?_);refine Ld_i 0 sw r6 (Ld_i 1 pr r6 (Ld_i 2 ad r6 (Ld_i 3 po r6 ?_)));refine cmS4 (L_ h6.db sw pr ad po i4) ?_;rintro n1 t1 w7 ⟨rfl,rfl,f7⟩;have r6:=r6.ext f7;have I:=I.ext f7;have J:=J.ext f7;have u:=u.ext f7;refine g_ (i:=0) u rfl (by simp) λw8 u g8 y8=> ?_;refine g_ (i:=1) u rfl (by simp) λw9 u g9 y9=> ?_;simp only[List.set_cons_succ,List.set_cons_zero] at u;have an:gW w7 w9 (·=O):=(g8 (·=O) rfl).trans (g9 (·=O) rfl) λ_ _ q=>q;have x9:Ext w w9:=(x6.trans f7).nw an;have r6:=r6.fr an (by omega);have I:=I.fr an (by omega);have J:=J.fr an (by omega);have h9:=h.ext x9;generalize aj:e.Mi (Bind.keyS [sw,pr,ad,po])=mi at u ⊢;have aQ:mi.isSome=true->∃(j:Nat) (b:Bnd),mi.getD 0=(j:Int)/\e.S[j]? =some (some b)/\b.sw=sw/\b.pr=pr/\b.ad=ad/\b.po=po:=by
  intro hs;obtain⟨v,rfl⟩:=Option.isSome_iff_exists.1 hs;exact agd h i4 aj
 have ibd:In64 (mi.getD 0):=by
  cases hq:mi with
  |none=>decide
  |some v=>
   obtain⟨j,b,g1,g2,_⟩:=aQ (by rw[hq];rfl);rw[hq] at g1;have:=(List.getElem?_eq_some_iff.1 g2).1;have:=h.db.len;have:=h.cf.b1;rw[g1];unfold In64;omega
 have i3:∀n∈[mi.getD 0,ra,rp],In64 n:=by
  intro n hn;simp only[mem_cons,not_mem_nil,or_false] at hn;rcases hn with rfl|rfl|rfl
  ·exact ibd
  ·exact aI
  ·exact aJ
 refine rd7 u ?_;refine find_ok h9 _ _ ra rp i3 λaR U=> ?_;have u:=u.ext U;refine gY u rfl rfl λaK u ah y11=> ?_;have ah:gW aR aK (·=O):=ah _ rfl;have ao:Ext w aK:=(x9.trans U).nw ah;have r6:=(r6.ext U).fr ah (by omega);have I:=(I.ext U).fr ah (by omega);have J:=(J.ext U).fr ah (by omega);have h11:=h.ext ao;generalize af:TR e mi.isSome (mi.getD 0) ra rp=so at u ⊢;generalize agK e so=st at u ⊢;refine rd7 u ?_;refine jF I ?_;refine cmS4 (step_ok _ _ _ _ _ _ _ p (ho.ext ao) (hd.ext ao) h1 h2 true) ?_;rintro nx ok ai ⟨aL,Y⟩;have aq:=ao.trans Y;have r6:=r6.ext Y;have I:=I.ext Y;have J:=J.ext Y;have u:=u.ext Y;have N:∀(dd:Int) (W:θ),(Full c e sw pr po dd\/(p.proto=6/\dd=8)\/(p.proto=1/\dd=9))->(p.proto=6\/so=none)->Ext ai W->iw (Pq 0 false 0 false 0 0 0) W ⟨R,0,none⟩ 0 λZ=>Ld ν Z (Addr.add ⟨R,0,none⟩ 0) λaS=>Ld .bool Z (Addr.add ⟨R,0,none⟩ 1) λaT=>Ld ν Z (Addr.add ⟨R,0,none⟩ 2) λaU=>Ld .bool Z (Addr.add ⟨R,0,none⟩ 3) λaV=>Ld ν Z (Addr.add ⟨R,0,none⟩ 4) λaW=>Ld ν Z (Addr.add ⟨R,0,none⟩ 5) λaX=>Ld ν Z (Addr.add ⟨R,0,none⟩ 6) λaY=>K aS aT aU aV aW aX aY (Pm dd) Z:=by
  intro dd W au av hx;have av:p.proto=6\/LG e sw pr ad po ra rp:=av.imp id λhn bd sid q1 q2=>by
   rw[aj] at q1;subst q1;rw[hn] at af;have af:e.M (Bind.keyS [bd,ra,rp])=none:=af;rw[af] at q2;cases q2
  refine gY (J.ext hx) rfl rfl λZ aZ a2 y66=> ?_;refine rd7 (Q:=λy0 y1 y2 y3 y4 y5 y6=>K y0 y1 y2 y3 y4 y5 y6 (Pm dd) Z) aZ ?_;exact hD dd Z au av ((aq.trans hx).new (a2 (·=R) rfl) λy hy he=>by omega)
 cases ok
 ·rw[Bool.not_false,cond_true];have p6:p.proto=6:=Classical.byContradiction λhh=>by have:=(aL hh).2;cases this
  exact N 8 ai (.inr (.inl ⟨p6,rfl⟩)) (.inl p6) (Ext.refl _)
 rw[Bool.not_true,cond_false];intro aw;have hJ74:∀q W,Ext ai W->(q=true->p.proto=1/\so=none)->aw q W:=by
  intro q W hx hq;simp -zeta only[aw]
  cases q
  rotate_left
  ·exact N 9 W (.inr (.inr ⟨(hq rfl).1,rfl⟩)) (.inr (hq rfl).2) hx
  rw[cond_false];intro ax;have hJ85:∀q W,Ext ai W->(q=false->so.isSome=true\/((Gp.Ses.live 0 e.SS).length:Int)<c.ns)->(q=true->so=none/\c.ns<=((Gp.Ses.live 0 e.SS).length:Int))->ax q W:=by
   intro q W hx hq hq';simp -zeta only[ax]
   cases q
   rotate_left
   ·exact N 6 W (.inl (.inr (.inl ⟨rfl,.inr (hq' rfl).2⟩))) (.inr (hq' rfl).1) hx
   have hq:=hq rfl;rw[cond_false];intro ay;have r6W:=r6.ext hx;have r12W:=J.ext hx;have r16W:=u.ext hx;have xW:=aq.trans hx;have hW:=h.ext xW;have hJ96:∀(W':θ) (a':EA) (e':ES) (bd sid:Int) (kn:Bool),gW w W' (jK a)->ai.heap.size<=W'.heap.size->nH W' a' c e'->Gd c e'->Grow a a' W.heap.size->a'.x=a.x->Flow c e e' sw pr ad po ra rp bd sid kn->Row W' O (Pq bd true sid kn st ra rp)->Row W' R (Pq 0 false 0 false 0 0 0)->ay W':=by
    intro W' a' e' bd sid kn hf hz hE hG ak az a3 hr hr2;simp -zeta only[ay];have hn:∀b,jK a' b->b≠O/\b≠R:=by
     intro b hb;have l1:=r16W.lt;have l2:=r12W.lt;rcases ak b hb with ⟨k,hk⟩|hge
     ·have:=h.lt k b hk;omega
     ·omega
    refine g_ (i:=4) hr rfl (by simp) λa4 aM a5 y98=> ?_;simp only[List.set_cons_succ,List.set_cons_zero] at aM;have aA:gW W' a4 (·=O):=a5 _ rfl;refine rd7 aM ?_;refine StN_f (hr2.fr aA (by omega)) λaB a6 aN y99=> ?_;refine rd7 (Q:=λy0 y1 y2 y3 y4 y5 y6=>K y0 y1 y2 y3 y4 y5 y6 .nilIface aB) a6 ?_;have hE2:=(hE.fr aA λk b hb he=>(hn b ⟨k,hb⟩).1 he).fr aN λk b hb he=>(hn b ⟨k,hb⟩).2 he;have a7:gW w aB (jK a):=(hf.trans aA λy hy he=>by omega).trans aN λy hy he=>by omega
    refine hK aB a' e' bd sid kn nx a7 hE2 hG (λb hb=> ?_) az a3 (λhh=>(aL hh).1);rcases ak b hb with hb|hb
    ·exact .inl hb
    ·exact .inr (by have:=xW.size;omega)
   clear_value ay;refine Ld_b 1 mi.isSome r16W ?_
   cases hb:mi.isSome
   ·
    rw[Bool.not_false,cond_true];refine Ld_i 0 sw r6W (Ld_i 1 pr r6W (Ld_i 2 ad r6W (Ld_i 3 po r6W ?_)));have a8:mi=none:=by cases mi with
     |none=>rfl
     |some v=>simp at hb
    have aa:so=none:=by rw[<- af,hb];rfl
    have am:e.Mi (Bind.keyS [sw,pr,ad,po])=none:=by rw[aj,a8]
    refine aeR hW hg hm aH hp aO aP am ?_ ?_
    ·intro dd w' au hx';refine afS ?_;exact N dd w' (.inl au) (.inr aa) (hx.trans hx')
    ·intro w' a' i oo Mi Mo hf aC a9 hq2 hE hG ak az;refine ahT ?_;have aD:∀b,jK a b->b≠O/\b≠R:=by
      rintro b ⟨k,hk⟩;have:=h.lt k b hk;omega
     have aE:=r16W.fr hf (λhb=>(aD _ hb).1 rfl);have aF:=r12W.fr hf (λhb=>(aD _ hb).2 rfl);refine g_ (i:=0) aE rfl (by simp) λw132 r132 g132 y132=> ?_;refine g_ (i:=1) r132 rfl (by simp) λw133 r133 g133 y133=> ?_;simp only[List.set_cons_succ,List.set_cons_zero] at r133;have ar:gW w' w133 (·=O):=(g132 (·=O) rfl).trans (g133 (·=O) rfl) λ_ _ q=>q;have aG:∀b,jK a' b->b≠O:=by
      intro b hb;have l1:=r16W.lt;rcases ak b hb with hb|hb
      ·exact(aD b hb).1
      ·omega
     have hE2:=hE.fr ar λk b hb he=>aG b ⟨k,hb⟩ he;have hzf:=hf.size;have hzq:=ar.size;have hzx:=hx.size;refine hJ96 w133 a' _ (i:Int) (so.getD 0) so.isSome ((xW.fr hf).trans ar λy hy he=>by omega) (by omega) hE2 hG ak az ?_ r133 (aF.fr ar (by omega));have ba:=(Gp.Bind.jr 0 aC).1;refine⟨⟨i,_,rfl,by rw[List.getElem?_set,if_pos rfl,if_pos ba],rfl,rfl,rfl,rfl⟩,.inr ⟨by rw[aa];rfl,?_,?_⟩,.inr ⟨am,by rw[aa];rfl,i,oo,Mi,Mo,rfl,aC,a9,rfl⟩⟩
     ·show e.M (Bind.keyS [(i:Int),ra,rp])=none
      cases bb:e.M (Bind.keyS [(i:Int),ra,rp]) with
      |none=>rfl
      |some v=>
       exfalso;have hlen:=h.db.len;have hb1:=h.cf.b1;obtain⟨k,s,_,g2,g3,_⟩:=acy h (by
        intro n hn;simp only[mem_cons,not_mem_nil,or_false] at hn;rcases hn with rfl|rfl|rfl
        ·unfold In64;omega
        ·exact aI
        ·exact aJ) bb
       obtain⟨j,b,g4,g5⟩:=hg.sb k s g2;have:j=i:=by omega
       subst this;rw[(Gp.Bind.jr 0 aC).2.1] at g5
       cases g5
     ·rcases hq with hq|hq
      ·rw[aa] at hq;cases hq
      ·exact hq
   ·rw[Bool.not_true,cond_false];obtain⟨v,rfl⟩:=Option.isSome_iff_exists.1 hb;have ac:e.M (Bind.keyS [v,ra,rp])=so:=by rw[<- af];rfl
    refine hJ96 W a e v (so.getD 0) so.isSome (xW _) hx.size hW hg (Grow.refl _ _) rfl ?_ r16W r12W;refine⟨agd h i4 aj,?_,.inl ⟨rfl,aj⟩⟩
    cases hs:so with
    |none=>
     rw[hs] at ac hq;exact .inr ⟨rfl,ac,hq.elim (λq=>by cases q) id⟩
    |some v2=>
     rw[hs] at ac;obtain⟨k,s,g1,g2,g3,g4,g5⟩:=acy h i3 ac;exact .inl ⟨rfl,k,s,g1,g2,g3,g4,g5⟩
  clear_value ax;have r16W:=u.ext hx;refine Ld_b 3 so.isSome r16W ?_
  cases hs:so.isSome
  ·rw[Bool.not_false,cond_true];refine cmS0 (Rh (h.ext (aq.trans hx))) ?_;rintro r W2 ⟨rfl,f2⟩;exact hJ85 _ W2 (hx.trans f2) (λhq=> .inr (by have:=of_decide_eq_false hq;omega)) λhq=>⟨Option.not_isSome_iff_eq_none.1 (by rw[hs];decide),by have:=of_decide_eq_true hq;omega⟩
  ·rw[Bool.not_true,cond_false];exact hJ85 _ W hx (λ_=> .inl hs) λhq=>by cases hq
 clear_value aw;refine Ld_b 1 mi.isSome u ?_
 cases hb:mi.isSome
 ·rw[Bool.not_false,cond_true];refine jF I ?_;refine cmS0 (Ϟ p (hd.ext aq) h2) ?_;rintro r W2 ⟨hr,f2⟩;exact hJ74 r W2 f2 λhq=>⟨Classical.byContradiction λhh=>by rw[hr hh] at hq;exact Bool.noConfusion hq,af.symm.trans (by rw[hb];rfl)⟩
 ·rw[Bool.not_true,cond_false];exact hJ74 false ai (Ext.refl _) λhq=>by cases hq
end Go.Proofs.EN
end
