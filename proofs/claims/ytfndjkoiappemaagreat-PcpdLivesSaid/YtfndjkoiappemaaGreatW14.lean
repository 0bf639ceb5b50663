import Derived.Test.YtfndjkoiappemaaGreatW13
import Derived.Test.YtfndjkoiappemaaGreatW9
import Derived.Test.YtfndjkoiappemaaGreatW12
open List (filter_append filter_cons getElem?_cons_zero getElem?_eq_getElem getElem?_map length_append length_cons length_filter_le length_nil length_singleton length_take mem_append mem_cons mem_of_getElem? mem_singleton nil_append not_mem_nil take_of_length_le)
open Int (toNat_natCast)
open Option (getD_some isSome_map isSome_some map_some)
open Bool (decide_and)
set_option maxRecDepth 100000
set_option maxHeartbeats 1000000
section
namespace Go.Proofs.RB
open Gp Gp.Hash
open Gp.Bind (Bnd Slots live GoodB freeN getS In64)
def uY (x:Int×Bnd):List Value:=[.int .i64 x.1,.int .i64 x.2.sw,.int .i64 x.2.pr,.int .i64 x.2.ad,.int .i64 x.2.po,.int .i64 x.2.opr,.int .i64 x.2.oad,.int .i64 x.2.opo,.bool x.2.st]
theorem jl (x:Int×Bnd):(uY x).length=9:=rfl
theorem qI (x:Int×Bnd):∀v∈uY x,jr v=true:=by
 intro v hv;simp only[uY,mem_cons,not_mem_nil,or_false] at hv;rcases hv with rfl|rfl|rfl|rfl|rfl|rfl|rfl|rfl|rfl<;>rfl
structure RF (w:World) (x:Nat) (s:iq) (most:Int) (L:List (Int×Bnd)):Prop where
 hd:Row w x [.slice s.a s.len s.cap,.int .i64 most]
 buf:iW 9 uY w s L
 ne:¬iq.at s x
 len:L.length<=5000
def fpR (x:Nat) (s:iq) (b:Nat):Prop:=b=x\/iq.at s b
section
variable {w w':World} {x:Nat} {s:iq} {most:Int} {L:List (Int×Bnd)}
theorem RF.fr {F:Nat->Prop} (h:RF w x s most L) (hf:iG w w' F) (hs:∀b,fpR x s b->¬F b):RF w' x s most L:=
 ⟨h.hd.fr hf (hs _ (.inl rfl)),h.buf.fr hf λb hb=>hs b (.inr hb),h.ne,h.len⟩
theorem RF.ext (h:RF w x s most L) (hf:Ext w w'):RF w' x s most L:=h.fr (hf λ_=>False) (λ_ _=>by simp)
theorem RF.cells (h:RF w x s most L) {i:Nat} {y:Int×Bnd} (hi:L[i]? =some y):∃a,s.a=some a/\∀j v,(uY y)[j]? =some v->w.cell? (a.add (i * 9+j))=some v:=
 (h.buf.sl jl (by omega)).at_ jl (by omega) hi
theorem QK {α:Type} {p:α->Bool} {L:List α} {i:Nat} (hi:i<L.length) (h:(L.take i).find? p=none):(p L[i]=true->L.find? p=some L[i])/\(p L[i]=false->(L.take (i+1)).find? p=none):=by
 have e:L=L.take i++L[i]::L.drop (i+1):=by
  conv=>lhs;rw[<- List.take_append_drop i L,List.drop_eq_getElem_cons hi]
 constructor
 ·intro hp
  conv=>lhs;rw[e]
  rw[List.find?_append,h,List.find?_cons_of_pos hp];rfl
 ·intro hp;rw[List.take_succ_eq_append_getElem hi,List.find?_append,h,List.find?_cons_of_neg (by simp[hp])];rfl
theorem N8 (a b:Int):(a==b)=decide (a=b):=rfl
theorem akp (a b c d a' b' c' d':Int):((a==a') && ((b==b') && ((c==c') && ((d==d') && true))))=decide ([a,b,c,d]=[a',b',c',d']):=by
 simp[N8,decide_and]
theorem ahK (a b c a' b' c':Int):((a==a') && ((b==b') && ((c==c') && true)))=decide ([a,b,c]=[a',b',c']):=by
 simp[N8,decide_and]
theorem VK (h:RF w x s most L) (a b c d:Int):oJ (some ⟨x,0,none⟩) a b c d w λn t w'=>t=(L.find? λy=>decide (y.2.i=[a,b,c,d])).isSome/\n=((L.find? λy=>decide (y.2.i=[a,b,c,d])).map (·.1)).getD 0/\Ext w w':=by
 apply Rq;refine iI λp w1 r1 e1 z1 f1=> ?_;have hlen:=h.buf.len;have hll:=h.len;refine iE (λst W=>∃i:Nat,i<=L.length/\st.1=(i:Int)/\Ext w1 W/\(L.take i).find? (λy=>decide (y.2.i=[a,b,c,d]))=none) (λst _=>L.length - st.1.toNat) ⟨0,by omega,rfl,Ext.refl _,by simp⟩ ?_;rintro⟨k,⟨⟩⟩ W ⟨i,hi,rfl,hx,hp⟩ next I
 have hW:=(h.ext f1).ext hx;simp only[sx,hW.hd.cell];by_cases J:i<L.length
 ·have u:((i:Int)<(s.len:Int)):=by omega
  have N:=hW.ext (Ext.drew W);have hL:L[i]? =some L[i]:=getElem?_eq_getElem J;obtain⟨f1',f2'⟩:=QK J hp;generalize L[i]=y at hL f1' f2';obtain⟨aa,ha,hc⟩:=N.cells hL;have k0:=hc 0 _ rfl;have k1:=hc 1 _ rfl;have k2:=hc 2 _ rfl;have k3:=hc 3 _ rfl;have k4:=hc 4 _ rfl;rw[Nat.add_zero] at k0;have ed:∀(m:Nat),(aa.add (i * 9)).add m=aa.add (i * 9+m):=λm=>kW _ _ _;have ee:∀(m l:Nat),((aa.add (i * 9)).add m).add l=aa.add (i * 9+(m+l)):=λm l=>by rw[kW,kW]
  have r1d:=(r1.ext hx).drew;simp only[u,decide_true,cond_true,qx,d_,iy,iL,iF,Nat.add_zero,N.hd.cell,iO,ha,toNat_natCast,kW,Nat.add_assoc,k0,k1,k2,k3,k4,r1d.cell,akp];refine⟨by first|trivial|omega,by first|trivial|omega,?_⟩
  by_cases hq:[y.2.sw,y.2.pr,y.2.ad,y.2.po]=[a,b,c,d]
  ·have hq':decide (y.2.i=[a,b,c,d])=true:=decide_eq_true hq;simp only[hq,decide_true,cond_true];refine⟨by first|trivial|omega,by first|trivial|omega,?_⟩
   rw[f1' hq'];exact⟨rfl,rfl,(f1.trans hx).trans (Ext.drew _)⟩
  ·have hq':decide (y.2.i=[a,b,c,d])=false:=decide_eq_false hq;simp only[hq,decide_false,cond_false];rw[wrap_i64 (by omega) (by omega)];exact I _ _ ⟨i+1,by omega,by simp,hx.trans (Ext.drew _),f2' hq'⟩ (by simp only;omega)
 ·have u:¬((i:Int)<(s.len:Int)):=by omega
  simp only[u,decide_false,cond_false];rw[take_of_length_le (by omega)] at hp;rw[hp];exact⟨rfl,rfl,f1.trans hx⟩
theorem aaz (h:RF w x s most L) (a b c:Int):qH (some ⟨x,0,none⟩) a b c w λn t w'=>t=(L.find? λy=>decide (y.2.o=[a,b,c])).isSome/\n=((L.find? λy=>decide (y.2.o=[a,b,c])).map (·.1)).getD 0/\Ext w w':=by
 apply Ro;refine iI λp w1 r1 e1 z1 f1=> ?_;have hlen:=h.buf.len;have hll:=h.len;refine iE (λst W=>∃i:Nat,i<=L.length/\st.1=(i:Int)/\Ext w1 W/\(L.take i).find? (λy=>decide (y.2.o=[a,b,c]))=none) (λst _=>L.length - st.1.toNat) ⟨0,by omega,rfl,Ext.refl _,by simp⟩ ?_;rintro⟨k,⟨⟩⟩ W ⟨i,hi,rfl,hx,hp⟩ next I
 have hW:=(h.ext f1).ext hx;simp only[sx,hW.hd.cell];by_cases J:i<L.length
 ·have u:((i:Int)<(s.len:Int)):=by omega
  have N:=hW.ext (Ext.drew W);have hL:L[i]? =some L[i]:=getElem?_eq_getElem J;obtain⟨f1',f2'⟩:=QK J hp;generalize L[i]=y at hL f1' f2';obtain⟨aa,ha,hc⟩:=N.cells hL;have k0:=hc 0 _ rfl;have k5:=hc 5 _ rfl;have k6:=hc 6 _ rfl;have k7:=hc 7 _ rfl;rw[Nat.add_zero] at k0;have r1d:=(r1.ext hx).drew;simp only[u,decide_true,cond_true,qx,d_,iy,iL,iF,Nat.add_zero,N.hd.cell,iO,ha,toNat_natCast,kW,Nat.add_assoc,Nat.reduceAdd,k0,k5,k6,k7,r1d.cell,ahK];refine⟨by first|trivial|omega,by first|trivial|omega,?_⟩
  by_cases hq:[y.2.opr,y.2.oad,y.2.opo]=[a,b,c]
  ·have hq':decide (y.2.o=[a,b,c])=true:=decide_eq_true hq;simp only[hq,decide_true,cond_true];refine⟨by first|trivial|omega,by first|trivial|omega,?_⟩
   rw[f1' hq'];exact⟨rfl,rfl,(f1.trans hx).trans (Ext.drew _)⟩
  ·have hq':decide (y.2.o=[a,b,c])=false:=decide_eq_false hq;simp only[hq,decide_false,cond_false];rw[wrap_i64 (by omega) (by omega)];exact I _ _ ⟨i+1,by omega,by simp,hx.trans (Ext.drew _),f2' hq'⟩ (by simp only;omega)
 ·have u:¬((i:Int)<(s.len:Int)):=by omega
  simp only[u,decide_false,cond_false];rw[take_of_length_le (by omega)] at hp;rw[hp];exact⟨rfl,rfl,f1.trans hx⟩
theorem aaC (h:RF w x s most L) (id:Int):r_ (some ⟨x,0,none⟩) id w λa1 a2 a3 a4 a5 a6 a7 a8 r w'=>r=(L.find? λy=>y.1==id).isSome/\ai7 (((L.find? λy=>y.1==id).map (·.2)).getD ai6) a1 a2 a3 a4 a5 a6 a7 a8/\Ext w w':=by
 apply TL;refine iI λp w1 r1 e1 z1 f1=> ?_;have hlen:=h.buf.len;have hll:=h.len;refine iE (λst W=>W=w1/\∃i:Nat,i<=L.length/\st.1=(i:Int)/\(L.take i).find? (λy=>y.1==id)=none) (λst _=>L.length - st.1.toNat) ⟨rfl,0,by omega,rfl,by simp⟩ ?_;rintro⟨k,⟨⟩⟩ W ⟨rfl,i,hi,rfl,hp⟩ next I
 have hW:=h.ext f1;simp only[sx,hW.hd.cell];by_cases J:i<L.length
 ·have u:((i:Int)<(s.len:Int)):=by omega
  have hL:L[i]? =some L[i]:=getElem?_eq_getElem J;obtain⟨f1',f2'⟩:=QK J hp;generalize L[i]=y at hL f1' f2';obtain⟨aa,ha,hc⟩:=hW.cells hL;have k0:=hc 0 _ rfl;have k1:=hc 1 _ rfl;have k2:=hc 2 _ rfl;have k3:=hc 3 _ rfl;have k4:=hc 4 _ rfl;have k5:=hc 5 _ rfl;have k6:=hc 6 _ rfl;have k7:=hc 7 _ rfl;have k8:=hc 8 _ rfl;rw[Nat.add_zero] at k0;simp only[u,decide_true,cond_true,qx,iy,iF,iO,ha,toNat_natCast,k0];refine⟨by first|trivial|omega,by first|trivial|omega,?_⟩
  cases hq:(y.1==id) with
  |true=>
   simp only[cond_true,iy,iF,qw,Nat.add_zero,kW,Nat.add_assoc,Nat.reduceAdd,k1,k2,k3,k4,k5,k6,k7,k8];refine⟨by first|trivial|omega,by first|trivial|omega,iJ r1 rfl rfl λw3 r3 f3 _=> ?_⟩
   simp only[d_,iy,iF,qw,r3.cell];rw[f1' hq];exact⟨rfl,⟨rfl,rfl,rfl,rfl,rfl,rfl,rfl,rfl⟩,f1.new (f3 (·=p) rfl) λy hy e=>by omega⟩
  |false=>
   simp only[cond_false];rw[wrap_i64 (by omega) (by omega)];exact I _ _ ⟨rfl,i+1,by omega,by simp,f2' hq⟩ (by simp only;omega)
 ·have u:¬((i:Int)<(s.len:Int)):=by omega
  simp only[u,decide_false,cond_false];rw[take_of_length_le (by omega)] at hp;refine iJ r1 rfl rfl λw3 r3 f3 _=> ?_;simp only[d_,iy,iF,qw,r3.cell];rw[hp];exact⟨rfl,⟨rfl,rfl,rfl,rfl,rfl,rfl,rfl,rfl⟩,f1.new (f3 (·=p) rfl) λy hy e=>by omega⟩
theorem VL (n:Int) (w:World):BR n w λp e w'=>Ext w w'/\((¬(0<=n/\n<=4096)/\p=none/\e=1)\/(0<=n/\n<=4096/\e=0/\∃x,p=some ⟨x,0,none⟩/\w.heap.size<=x/\x<w'.heap.size/\RF w' x ⟨none,0,0⟩ n [])):=by
 apply Y4;by_cases c1:n<0
 ·simp only[c1,decide_true,cond_true];exact⟨Ext.refl _,.inl ⟨by omega,by trivial,by trivial⟩⟩
 by_cases c2:n>4096
 ·simp only[c1,c2,decide_true,decide_false,cond_true,cond_false];exact⟨Ext.refl _,.inl ⟨by omega,by trivial,by trivial⟩⟩
 simp only[c1,c2,decide_false,cond_false];refine iI λx w1 r1 e1 z1 f1=>⟨f1,.inr ⟨by omega,by omega,by trivial,x,rfl,by omega,by omega,⟨r1,iW.nil,?_,by simp⟩⟩⟩;rintro⟨o,h⟩;cases h
theorem ab4 (h:RF w x s most L) (id:Int):
  qY (some ⟨x,0,none⟩) id w λr w'=>r=(L.find? λy=>y.1==id).isSome/\iG w w' (·=x)/\∃s',RF w' x s' most (L.filter λy=>y.1 !=id)/\∀b,iq.at s' b->w.heap.size<=b:=by
 apply OC;have hlen:=h.buf.len;have hll:=h.len;have hxl:=h.hd.lt;refine iE (λst W=>∃i:Nat,i<=L.length/\st.2.1=(i:Int)/\Ext w W/\iW 9 uY W st.1 ((L.take i).filter λy=>y.1 !=id)/\∀b,iq.at st.1 b->w.heap.size<=b) (λst _=>L.length - st.2.1.toNat) ⟨0,by omega,rfl,Ext.refl _,iW.nil,by rintro b ⟨o,h⟩;cases h⟩ ?_;rintro⟨t,k,⟨⟩⟩ W ⟨i,hi,rfl,hx,hb,hn⟩ next u
 have hW:=h.ext hx;have hb:iW 9 uY W t ((L.take i).filter λy=>y.1 !=id):=hb;have hn:∀b,iq.at t b->w.heap.size<=b:=hn;simp only[sx,hW.hd.cell];by_cases N:i<L.length
 ·have I:((i:Int)<(s.len:Int)):=by omega
  have hL:L[i]? =some L[i]:=getElem?_eq_getElem N;have J:L.take (i+1)=L.take i++[L[i]]:=List.take_succ_eq_append_getElem N;generalize L[i]=y at hL J;obtain⟨aa,ha,hc⟩:=hW.cells hL;have k0:=hc 0 _ rfl;have k1:=hc 1 _ rfl;have k2:=hc 2 _ rfl;have k3:=hc 3 _ rfl;have k4:=hc 4 _ rfl;have k5:=hc 5 _ rfl;have k6:=hc 6 _ rfl;have k7:=hc 7 _ rfl;have k8:=hc 8 _ rfl;rw[Nat.add_zero] at k0;simp only[I,decide_true,cond_true,qx,iy,iF,iO,ha,toNat_natCast,k0];refine⟨by first|trivial|omega,by first|trivial|omega,?_⟩
  cases hq:(y.1 !=id) with
  |true=>
   simp only[cond_true,iy,iF,qw,Nat.add_zero,kW,k0,k1,k2,k3,k4,k5,k6,k7,k8];refine⟨by first|trivial|omega,by first|trivial|omega,iI λp w3 r3 e3 z3 f3=> ?_⟩
   have R:mY 9 uY w3 ⟨some ⟨p,0,none⟩,1,1⟩ [y]:=(iW.row (xs:=[y]) (by simpa [uY] using r3)).sl jl (by omega);have U:((L.take i).filter λy=>y.1 !=id).length<=L.length:=by
    refine Nat.le_trans (length_filter_le _ _) ?_;rw[length_take];omega
   refine iV jl (hb.ext f3) R rfl (by omega) qI (by simp only[length_singleton];omega) (by simp only[length_singleton];omega) λt4 w4 b4 f4 n4=> ?_;rw[wrap_i64 (by omega) (by omega)];have z1:=hx.size;refine u _ _ ⟨i+1,by omega,by simp,(hx.trans f3).new f4 λz hz Y=>by have:=hn z Y;omega,?_,λb hb'=> ?_⟩ (by simp only;omega)
   ·rw[J,filter_append,List.filter_cons_of_pos (p:=λy:Int×Bnd=>y.1 !=id) (a:=y) hq];exact b4
   ·rcases n4 b hb' with h4|h4
    ·exact hn b h4
    ·omega
  |false=>
   simp only[cond_false];rw[wrap_i64 (by omega) (by omega)];refine u _ _ ⟨i+1,by omega,by simp,hx,?_,hn⟩ (by simp only;omega);rw[J,filter_append,List.filter_cons_of_neg (p:=λy:Int×Bnd=>y.1 !=id) (a:=y) (by rw[hq];simp)];simpa using hb
 ·have I:¬((i:Int)<(s.len:Int)):=by omega
  simp only[I,decide_false,cond_false];rw[take_of_length_le (by omega)] at hb;refine iK hW.hd rfl (by simp) λw3 r3 f3 z3=> ?_;simp only[List.set_cons_zero] at r3;have f3x:=f3 (·=x) rfl;have O:¬iq.at t x:=λhh=>by have:=hn x hh;omega
  have U:=length_filter_le (λy:Int×Bnd=>y.1 !=id) L;refine⟨?_,(hx _).trans f3x λz _ hz=>hz,t,⟨r3,hb.fr f3x λz hz e=>O (e ▸ hz),O,by omega⟩,hn⟩;rw[hb.len,hlen]
  cases hf:L.find? λy=>y.1==id with
  |none=>
   have:(L.filter λy=>y.1 !=id)=L:=List.filter_eq_self.2 λy hy=>by
    have:=List.find?_eq_none.1 hf y hy;simpa using this
   rw[this];simp
  |some y=>
   have hm:=List.mem_of_find?_eq_some hf;have hp:=List.find?_some hf;have:(L.filter λy=>y.1 !=id).length<L.length:=by
    rcases Nat.lt_or_ge (L.filter λy=>y.1 !=id).length L.length with h1|h1
    ·exact h1
    ·have h2:=List.filter_eq_self.1 ((List.filter_sublist (p:=λy:Int×Bnd=>y.1 !=id) (l:=L)).eq_of_length_le h1) y hm;simp at h2 hp;exact absurd hp h2
   simp only[isSome_some];exact decide_eq_true (by omega)
end
end Go.Proofs.RB
end
section
namespace Go.Proofs.RB
open Gp Gp.Hash
open Gp.Bind (Bnd Slots live GoodB freeN getS In64)
section
variable {w w':World} {x:Nat} {s:iq} {most:Int} {L:List (Int×Bnd)}
def Iy (L:List (Int×Bnd)) (most:Int) (b:Bnd) (i:Nat):Int×Int:=
 if (L.find? λy=>decide (y.2.i=b.i)).isSome||(L.find? λy=>decide (y.2.o=b.o)).isSome then (0,9) else if most<=(L.length:Int) then (0,7) else ((i:Int),0)
theorem ahz (h:RF w x s most L) (b:Bnd) (i:Nat) (hm:most<=4096) (hi:¬(most<=(L.length:Int))->i<=L.length/\(∀j,j<i->∃c,L[j]? =some ((j:Int),c))/\∀v c,L[i]? =some (v,c)->v≠(i:Int)):
  vS (some ⟨x,0,none⟩) b.sw b.pr b.ad b.po b.opr b.oad b.opo b.st w λn e w'=>(n,e)=Iy L most b i/\iG w w' (·=x)/\
   ∃s',RF w' x s' most (if (Iy L most b i).2=0 then L.take i++((i:Int),b)::L.drop i else L)/\∀z,iq.at s' z->iq.at s z\/w.heap.size<=z:=by
 apply TK;refine iI λp w1 r1 e1 z1 f1=> ?_;simp only[sx,r1.cell];refine AQ (VK (h.ext f1) _ _ _ _) ?_;rintro n2 t2 w2 ⟨ht2,_,f2⟩;have ht2:t2=(L.find? λy=>decide (y.2.i=b.i)).isSome:=ht2;have same:∀W e,Ext w W->Iy L most b i=(0,e)->e≠0->((0:Int),e)=Iy L most b i/\iG w W (·=x)/\∃s',RF W x s' most (if (Iy L most b i).2=0 then L.take i++((i:Int),b)::L.drop i else L)/\∀z,iq.at s' z->iq.at s z\/w.heap.size<=z:=by
  intro W e hx he R;rw[he];exact⟨rfl,hx _,s,by rw[if_neg (by simpa using R)];exact h.ext hx,λz hz=> .inl hz⟩
 cases ac:t2 with
 |true=>
  rw[ac] at ht2;simp only[cond_true];exact same _ 9 (f1.trans f2) (by unfold Iy;rw[<- ht2];rfl) (by omega)
 |false=>
 rw[ac] at ht2;simp only[cond_false,d_,iy,iF,(r1.ext f2).cell];refine Gm (aaz ((h.ext f1).ext f2) _ _ _) ?_;rintro n3 t3 w3 ⟨ht3,_,f3⟩;have ht3:t3=(L.find? λy=>decide (y.2.o=b.o)).isSome:=ht3;have x3:Ext w w3:=f1.trans (f2.trans f3)
 cases N:t3 with
 |true=>
  rw[N] at ht3;simp only[cond_true];exact same _ 9 x3 (by unfold Iy;rw[<- ht3,<- ht2];rfl) (by omega)
 |false=>
 rw[N] at ht3;have x3d:Ext w w3.drew:=x3.trans (Ext.drew _);have h3:=h.ext x3d;have hlen:=h.buf.len;have hll:=h.len;simp only[cond_false,d_,iy,iL,iF,h3.hd.cell];by_cases u:most<=(L.length:Int)
 ·have:((s.len:Int)>=most):=by omega
  simp only[this,decide_true,cond_true];exact same _ 7 x3d (by unfold Iy;rw[<- ht2,<- ht3,if_pos u];rfl) (by omega)
 have ai:¬((s.len:Int)>=most):=by omega
 simp only[ai,decide_false,cond_false];obtain⟨i1,i2,i3⟩:=hi u;have hr:Iy L most b i=((i:Int),0):=by unfold Iy;rw[<- ht2,<- ht3,if_neg u];rfl
 rw[hr];simp only[if_true];have rp:=((r1.ext f2).ext f3).drew;have hxl:=h.hd.lt;have hz3:=x3d.size;refine iE (λst W=>W=w3.drew/\∃j:Nat,j<=i/\st.1=(j:Int)) (λst _=>i - st.1.toNat) ⟨rfl,0,by omega,rfl⟩ ?_;rintro⟨k,⟨⟩⟩ W ⟨rfl,j,hj,rfl⟩ next O
 by_cases aj:j<i
 ·obtain⟨c,hc⟩:=i2 j aj;obtain⟨aa,ha,I⟩:=h3.cells hc;have k0:=I 0 _ rfl;rw[Nat.add_zero] at k0;have J:((j:Int)<(s.len:Int)):=by omega
  simp only[cond_true,qx,getElem?_cons_zero,iy,iL,iF,h3.hd.cell,J,decide_true,iO,ha,toNat_natCast,k0,N8];refine⟨by first|trivial|omega,by first|trivial|omega,?_⟩
  rw[wrap_i64 (by omega) (by omega)];exact O _ _ ⟨rfl,j+1,by omega,by simp⟩ (by simp only;omega)
 have:j=i:=by omega
 subst this;have h3d:=h3.ext (Ext.drew _);have rpd:=rp.drew;have stop:∀(X Y:Prop),Y->(LdV .slice (w3.drew.cell? ⟨x,0,none⟩) λak=>bif decide ((j:Int)<(ak.len:Int)) then (LdV .slice (w3.drew.cell? ⟨x,0,none⟩) λal=>iO al 9 (j:Int) λa67=>LdV (.int .i64) (w3.drew.cell? a67) λam=>bif (am==(j:Int)) then X else Y) else Y):=by
  intro X Y hY;simp only[getElem?_cons_zero,iy,iL,h3.hd.cell];by_cases an:j<L.length
  ·have J:((j:Int)<(s.len:Int)):=by omega
   have hL:L[j]? =some L[j]:=getElem?_eq_getElem an;generalize L[j]=y at hL;obtain⟨v,c⟩:=y;obtain⟨aa,ha,I⟩:=h3.cells hL;have k0:=I 0 _ rfl;rw[Nat.add_zero] at k0;have R:=i3 v c hL;simp only[J,decide_true,cond_true,iO,ha,qx,toNat_natCast,k0,iy,iF,N8,R,decide_false,cond_false];exact⟨by first|trivial|omega,by first|trivial|omega,hY⟩
  ·have J:¬((j:Int)<(s.len:Int)):=by omega
   simp only[J,decide_false,cond_false];exact hY
 simp only[];refine stop _ _ ?_;have ae:=h3d.buf.sl jl (by omega);simp only[d_,iy,iL,iF,qw,h3d.hd.cell,rpd.cell];refine Hf jl ae (by omega) (by omega) (by omega) λsa U=> ?_;refine Hf jl ae (by omega) (by omega) (by omega) λsb ab=> ?_;rw[show Int.toNat 0=0 from rfl,List.drop_zero,toNat_natCast] at U;rw[toNat_natCast,toNat_natCast,hlen,take_of_length_le (Nat.le_refl _)] at ab;have tk:(L.take j).length=j:=by rw[length_take];omega
 have dk:(L.drop j).length=L.length - j:=List.length_drop;have w3dd:w3.drew.drew.heap.size=w3.drew.heap.size:=rfl;have xdd:Ext w w3.drew.drew:=x3d.trans (Ext.drew _);have fin:∀W (t:iq),Ext w3.drew.drew W->iW 9 uY W t (L.take j++((j:Int),b)::L.drop j)->(∀z,iq.at t z->w3.drew.heap.size<=z)->St W ⟨x,0,none⟩ (.slice t.a t.len t.cap) λaf=>iG w af (·=x)/\∃s',RF af x s' most (L.take j++((j:Int),b)::L.drop j)/\∀z,iq.at s' z->iq.at s z\/w.heap.size<=z:=by
  intro W t hx hb hn;have hW:=h3d.ext hx;refine iK hW.hd rfl (by simp) λw5 r5 f5 z5=> ?_;simp only[List.set_cons_zero] at r5;have f5x:=f5 (·=x) rfl;have ag:¬iq.at t x:=λhh=>by have:=hn x hh;omega
  refine⟨((xdd.trans hx) _).trans f5x λz _ hz=>hz,t,⟨r5,hb.fr f5x λz hz e=>ag (e ▸ hz),ag,?_⟩,λz hz=> .inr (by have:=hn z hz;omega)⟩;simp only[length_append,length_cons,tk,dk];omega
 have hrc:uY ((j:Int),b)=[.int .i64 (j:Int),.int .i64 b.sw,.int .i64 b.pr,.int .i64 b.ad,.int .i64 b.po,.int .i64 b.opr,.int .i64 b.oad,.int .i64 b.opo,.bool b.st]:=rfl;have elem:∀{W:World} {q:Nat},Row W q [.int .i64 (j:Int),.int .i64 b.sw,.int .i64 b.pr,.int .i64 b.ad,.int .i64 b.po,.int .i64 b.opr,.int .i64 b.oad,.int .i64 b.opo,.bool b.st]->mY 9 uY W ⟨some ⟨q,0,none⟩,1,1⟩ [((j:Int),b)]:=by
  intro W q hq;exact(iW.row (xs:=[((j:Int),b)]) (by simpa [uY] using hq)).sl jl (by omega)
 refine⟨?_,?_⟩
 ·refine iV jl iW.nil U rfl (by omega) qI (by simp only[length_nil,tk];omega) (by simp only[length_nil,tk];omega) λt4 w4 b4 f4 n4=> ?_;have y4:Ext w3.drew.drew w4:=f4.new λz _ ⟨o,hz⟩=>by cases hz
  have n4':∀z,iq.at t4 z->w3.drew.heap.size<=z:=λz hz=>by
   rcases n4 z hz with ⟨o,h4⟩|h4
   ·cases h4
   ·exact h4
  rw[nil_append] at b4;simp only[true_and,d_,(rpd.ext y4).cell,(h3d.ext y4).hd.cell];refine iI λq w5 r5 e5 z5 f5=> ?_;have y5:=y4.trans f5;simp only[true_and,getElem?_cons_zero,(h3d.ext y5).hd.cell];refine iV jl (b4.ext f5) (elem r5) rfl (by omega) qI (by simp only[length_singleton,tk];omega) (by simp only[length_singleton,tk];omega) λt6 w6 b6 f6 n6=> ?_;have z4:=y4.size;have z5':=y5.size;have y6:Ext w3.drew.drew w6:=y5.new f6 λz hz h=>by have:=n4' z h;omega
  have n6':∀z,iq.at t6 z->w3.drew.heap.size<=z:=λz hz=>by
   rcases n6 z hz with h6|h6
   ·exact n4' z h6
   ·omega
  simp only[true_and,getElem?_cons_zero,(h3d.ext y6).hd.cell];refine iV jl b6 (ab.ext y6) rfl (by omega) qI (by simp only[length_append,length_singleton,tk,dk];omega) (by simp only[length_append,length_singleton,tk,dk];omega) λt8 w8 b8 f8 n8=> ?_;have z6:=y6.size;have y8:Ext w3.drew.drew w8:=y6.new f8 λz hz h=>by have:=n6' z h;omega
  refine fin w8 t8 y8 (by simpa using b8) λz hz=> ?_;rcases n8 z hz with h8|h8
  ·exact n6' z h8
  ·omega
 ·refine iI λq w5 r5 e5 z5 f5=> ?_;simp only[true_and,getElem?_cons_zero,(h3d.ext f5).hd.cell];refine iV jl iW.nil (U.ext f5) rfl (by omega) qI (by simp only[length_nil,tk];omega) (by simp only[length_nil,tk];omega) λt4 w4 b4 f4 n4=> ?_;have y4:Ext w3.drew.drew w4:=f5.new f4 λz _ ⟨o,hz⟩=>by cases hz
  have ah:Ext w5 w4:=f4.new λz _ ⟨o,hz⟩=>by cases hz
  have z5':=f5.size;have n4':∀z,iq.at t4 z->w5.heap.size<=z:=λz hz=>by
   rcases n4 z hz with ⟨o,h4⟩|h4
   ·cases h4
   ·exact h4
  rw[nil_append] at b4;simp only[true_and,d_,(rpd.ext y4).cell,(h3d.ext y4).hd.cell];refine iV jl b4 (elem (r5.ext ah)) rfl (by omega) qI (by simp only[length_singleton,tk];omega) (by simp only[length_singleton,tk];omega) λt6 w6 b6 f6 n6=> ?_;have z4:=y4.size;have z54:=ah.size;have y6:Ext w3.drew.drew w6:=y4.new f6 λz hz h=>by have:=n4' z h;omega
  have n6':∀z,iq.at t6 z->w3.drew.heap.size<=z:=λz hz=>by
   rcases n6 z hz with h6|h6
   ·have:=n4' z h6;omega
   ·omega
  simp only[true_and,getElem?_cons_zero,(h3d.ext y6).hd.cell];refine iV jl b6 (ab.ext y6) rfl (by omega) qI (by simp only[length_append,length_singleton,tk,dk];omega) (by simp only[length_append,length_singleton,tk,dk];omega) λt8 w8 b8 f8 n8=> ?_;have z6:=y6.size;have y8:Ext w3.drew.drew w8:=y6.new f8 λz hz h=>by have:=n6' z h;omega
  refine fin w8 t8 y8 (by simpa using b8) λz hz=> ?_;rcases n8 z hz with h8|h8
  ·exact n6' z h8
  ·omega
end
end Go.Proofs.RB
end
section
namespace Go.Proofs.RB
open Gp Gp.Hash
open Gp.Bind (Bnd Slots live GoodB freeN getS In64)
theorem RF.lt {w:World} {x:Nat} {s:iq} {most:Int} {L:List (Int×Bnd)} (h:RF w x s most L) {y:Nat} (hy:fpR x s y):y<w.heap.size:=by
 rcases hy with hy|hy
 ·rw[hy];exact h.hd.lt
 ·exact h.buf.lt hy
end Go.Proofs.RB
end
section
namespace Go.Proofs.SN
open Gp Gp.Hash
open Gp.Ses (Ses Slots live GoodS ids)
open Gp.Bind (In64)
def uY (x:Int×Ses):List Value:=[.int .i64 x.1,.int .i64 x.2.bd,.int .i64 x.2.st,.int .i64 x.2.un,.int .i64 x.2.ra,.int .i64 x.2.rp]
theorem jl (x:Int×Ses):(uY x).length=6:=rfl
theorem qI (x:Int×Ses):∀v∈uY x,jr v=true:=by
 intro v hv;simp only[uY,mem_cons,not_mem_nil,or_false] at hv;rcases hv with rfl|rfl|rfl|rfl|rfl|rfl<;>rfl
structure RF (w:World) (x:Nat) (s:iq) (most:Int) (L:List (Int×Ses)):Prop where
 hd:Row w x [.slice s.a s.len s.cap,.int .i64 most]
 buf:iW 6 uY w s L
 ne:¬iq.at s x
 len:L.length<=5000
def fpR (x:Nat) (s:iq) (b:Nat):Prop:=b=x\/iq.at s b
section
variable {w w':World} {x:Nat} {s:iq} {most:Int} {L:List (Int×Ses)}
theorem RF.fr {F:Nat->Prop} (h:RF w x s most L) (hf:iG w w' F) (hs:∀b,fpR x s b->¬F b):RF w' x s most L:=
 ⟨h.hd.fr hf (hs _ (.inl rfl)),h.buf.fr hf λb hb=>hs b (.inr hb),h.ne,h.len⟩
theorem RF.ext (h:RF w x s most L) (hf:Ext w w'):RF w' x s most L:=h.fr (hf λ_=>False) (λ_ _=>by simp)
theorem RF.cells (h:RF w x s most L) {i:Nat} {y:Int×Ses} (hi:L[i]? =some y):∃a,s.a=some a/\∀j v,(uY y)[j]? =some v->w.cell? (a.add (i * 6+j))=some v:=
 (h.buf.sl jl (by omega)).at_ jl (by omega) hi
theorem VL (n:Int) (w:World):BU n w λp e w'=>Ext w w'/\((¬(0<=n/\n<=4096)/\p=none/\e=1)\/(0<=n/\n<=4096/\e=0/\∃x,p=some ⟨x,0,none⟩/\w.heap.size<=x/\x<w'.heap.size/\RF w' x ⟨none,0,0⟩ n [])):=by
 apply Y5;by_cases c1:n<0
 ·simp only[c1,decide_true,cond_true];exact⟨Ext.refl _,.inl ⟨by omega,by trivial,by trivial⟩⟩
 by_cases c2:n>4096
 ·simp only[c1,c2,decide_true,decide_false,cond_true,cond_false];exact⟨Ext.refl _,.inl ⟨by omega,by trivial,by trivial⟩⟩
 simp only[c1,c2,decide_false,cond_false];refine iI λx w1 r1 e1 z1 f1=>⟨f1,.inr ⟨by omega,by omega,by trivial,x,rfl,by omega,by omega,⟨r1,iW.nil,?_,by simp⟩⟩⟩;rintro⟨o,h⟩;cases h
theorem af9 (h:RF w x s most L) (id:Int):
  nM (some ⟨x,0,none⟩) id w λr w'=>iW 6 uY w' r (L.filter λy=>y.2.bd==id)/\Ext w w'/\∀b,iq.at r b->w.heap.size<=b:=by
 apply Qj;have hlen:=h.buf.len;have hll:=h.len;have hxl:=h.hd.lt;refine iE (λst W=>∃i:Nat,i<=L.length/\st.2.1=(i:Int)/\Ext w W/\iW 6 uY W st.1 ((L.take i).filter λy=>y.2.bd==id)/\∀b,iq.at st.1 b->w.heap.size<=b) (λst _=>L.length - st.2.1.toNat) ⟨0,by omega,rfl,Ext.refl _,iW.nil,by rintro b ⟨o,h⟩;cases h⟩ ?_;rintro⟨t,k,⟨⟩⟩ W ⟨i,hi,rfl,hx,hb,hn⟩ next u
 have hW:=h.ext hx;have hb:iW 6 uY W t ((L.take i).filter λy=>y.2.bd==id):=hb;have hn:∀b,iq.at t b->w.heap.size<=b:=hn;simp only[sx,hW.hd.cell];by_cases N:i<L.length
 ·have I:((i:Int)<(s.len:Int)):=by omega
  have hL:L[i]? =some L[i]:=getElem?_eq_getElem N;have J:L.take (i+1)=L.take i++[L[i]]:=List.take_succ_eq_append_getElem N;generalize L[i]=y at hL J;obtain⟨aa,ha,hc⟩:=hW.cells hL;have k0:=hc 0 _ rfl;have k1:=hc 1 _ rfl;have k2:=hc 2 _ rfl;have k3:=hc 3 _ rfl;have k4:=hc 4 _ rfl;have k5:=hc 5 _ rfl;rw[Nat.add_zero] at k0;simp only[I,decide_true,cond_true,qx,iy,iF,Nat.add_zero,iO,ha,toNat_natCast,kW,k1];refine⟨by first|trivial|omega,by first|trivial|omega,?_⟩
  cases hq:(y.2.bd==id) with
  |true=>
   simp only[cond_true,iy,iF,k0,k2,k3,k4,k5];refine⟨by first|trivial|omega,by first|trivial|omega,iI λp w3 r3 e3 z3 f3=> ?_⟩
   have O:mY 6 uY w3 ⟨some ⟨p,0,none⟩,1,1⟩ [y]:=(iW.row (xs:=[y]) (by simpa [uY] using r3)).sl jl (by omega);have hfl:((L.take i).filter λy=>y.2.bd==id).length<=L.length:=by
    refine Nat.le_trans (length_filter_le _ _) ?_;rw[length_take];omega
   refine iV jl (hb.ext f3) O rfl (by omega) qI (by simp only[length_singleton];omega) (by simp only[length_singleton];omega) λt4 w4 b4 f4 n4=> ?_;rw[wrap_i64 (by omega) (by omega)];have z1:=hx.size;refine u _ _ ⟨i+1,by omega,by simp,(hx.trans f3).new f4 λz hz R=>by have:=hn z R;omega,?_,λb hb'=> ?_⟩ (by simp only;omega)
   ·rw[J,filter_append,List.filter_cons_of_pos (p:=λy:Int×Ses=>y.2.bd==id) (a:=y) hq];exact b4
   ·rcases n4 b hb' with h4|h4
    ·exact hn b h4
    ·omega
  |false=>
   simp only[cond_false];rw[wrap_i64 (by omega) (by omega)];refine u _ _ ⟨i+1,by omega,by simp,hx,?_,hn⟩ (by simp only;omega);rw[J,filter_append,List.filter_cons_of_neg (p:=λy:Int×Ses=>y.2.bd==id) (a:=y) (by rw[hq];simp)];simpa using hb
 ·have I:¬((i:Int)<(s.len:Int)):=by omega
  simp only[I,decide_false,cond_false];rw[take_of_length_le (by omega)] at hb;exact⟨hb,hx,hn⟩
end
end Go.Proofs.SN
end
section
namespace Go.Proofs.QN
open Gp
theorem agA {w:World} {b s:Nat} {l:List Int} {m:Int} (h:QX w b s l m) (hq:QOk l m) (i:Int):
  pV (some ⟨b,0,none⟩) i w λe w'=>e=(Au l m i).1/\QX w' b s (Au l m i).2 m/\iG w w' (·=s):=by
 apply MQ;have hc:∀j,w.drew.cell? ⟨b,j,none⟩=_:=h.hd.drew.cell;have hd:QX w.drew b s l m:=h.fr (iG.drew w λ_=>False) (by simp) (by simp);have hm:=hq.m1;simp only[sx,h.hd.cell,hc];by_cases h1:i<0
 ·have hi:¬N_ l i:=λx=>by have:=x.1;omega
  simp only[h1,decide_true,cond_true,Au,hi,if_false];exact⟨by trivial,h,iG.refl _ _⟩
 ·by_cases h2:i>=(l.length:Int)
  ·have hi:¬N_ l i:=λx=>by have:=x.2;omega
   simp only[h1,h2,decide_true,decide_false,cond_false,cond_true,Au,hi,if_false];exact⟨by trivial,h,iG.refl _ _⟩
  ·have hi:N_ l i:=⟨by omega,by omega⟩;have hx:=hq.lo _ (at_mem hi);simp only[h1,h2,decide_false,cond_false,iy,iF,hd.cell0 hi];refine⟨hi.1,hi.2,?_⟩;by_cases u:at_ l i>=m
   ·simp only[u,decide_true,cond_true,Au,hi,if_true];exact⟨by trivial,hd,iG.drew _ _⟩
   ·simp only[u,decide_false,cond_false];have hw:IntKind.i64.wrap (at_ l i+1)=at_ l i+1:=wrap_i64 (by omega) (by omega);rw[hw];refine⟨hi.1,hi.2,hi.1,hi.2,?_⟩;refine iK hd.row rfl ?_ λw2 hr2 hf2 _=> ?_
    ·rw[jU _ 1 Qn];have:=hi.1;have:=hi.2;omega
    ·simp only[Au,hi,u,if_true,if_false];exact⟨by trivial,hd.set hi hr2 (hf2 (·=s) rfl),(iG.drew _ _).trans (hf2 (·=s) rfl) λ_ _ e=>e⟩
theorem agt {w:World} {b s:Nat} {l:List Int} {m:Int} (h:QX w b s l m) (hq:QOk l m) (i:Int):
  pU (some ⟨b,0,none⟩) i w λe w'=>e=(zU l i).1/\QX w' b s (zU l i).2 m/\iG w w' (·=s):=by
 apply MP;have hm:=hq.m1;simp only[sx,h.hd.cell];by_cases h1:i<0
 ·have hi:¬N_ l i:=λx=>by have:=x.1;omega
  simp only[h1,decide_true,cond_true,zU,hi,if_false];exact⟨by trivial,h,iG.refl _ _⟩
 ·by_cases h2:i>=(l.length:Int)
  ·have hi:¬N_ l i:=λx=>by have:=x.2;omega
   simp only[h1,h2,decide_true,decide_false,cond_false,cond_true,zU,hi,if_false];exact⟨by trivial,h,iG.refl _ _⟩
  ·have hi:N_ l i:=⟨by omega,by omega⟩;have hx:=hq.lo _ (at_mem hi);simp only[h1,h2,decide_false,cond_false,iy,iF,h.cell0 hi];refine⟨hi.1,hi.2,?_⟩;by_cases h0:at_ l i=0
   ·simp only[h0,beq_self_eq_true,cond_true,zU,hi,if_true];exact⟨by trivial,h,iG.refl _ _⟩
   ·have h0':(at_ l i==0)=false:=by simpa using h0
    have hw:IntKind.i64.wrap (at_ l i - 1)=at_ l i - 1:=wrap_i64 (by omega) (by omega);simp only[h0',cond_false,hw];refine⟨hi.1,hi.2,hi.1,hi.2,?_⟩;refine iK h.row rfl ?_ λw2 hr2 hf2 _=> ?_
    ·rw[jU _ 1 Qn];have:=hi.1;have:=hi.2;omega
    ·simp only[zU,hi,h0,if_true,if_false];exact⟨by trivial,h.set hi hr2 (hf2 (·=s) rfl),hf2 (·=s) rfl⟩
theorem aei {w:World} {b s:Nat} {l:List Int} {m:Int} (h:QX w b s l m) (i:Int):
  oO (some ⟨b,0,none⟩) i w λn w'=>n=sJ l i/\w'=w:=by
 apply Kv;simp only[sx,h.hd.cell];by_cases h1:i<0
 ·have hi:¬N_ l i:=λx=>by have:=x.1;omega
  simp only[h1,decide_true,cond_true,sJ,hi,if_false,and_self]
 ·by_cases h2:i>=(l.length:Int)
  ·have hi:¬N_ l i:=λx=>by have:=x.2;omega
   simp only[h1,h2,decide_true,decide_false,cond_false,cond_true,sJ,hi,if_false,and_self]
  ·have hi:N_ l i:=⟨by omega,by omega⟩;simp only[h1,h2,decide_false,cond_false,iy,iF,h.cell0 hi,sJ,hi,if_true,and_self];exact⟨hi.1,hi.2,trivial⟩
theorem adM (x:Int) (n:Nat):(List.replicate n x).flatMap af0=iM (af0 x) n:=by
 induction n with
 |zero=>rfl
 |succ n ih=>simp[List.replicate_succ,iM,ih]
theorem Zm (n m:Int) (w:World):BQ n m w λp e w'=>
  (∀S,iG w w' S)/\((JQ n m/\e=0/\∃b s,p=some ⟨b,0,none⟩/\w.heap.size<=b/\w.heap.size<=s/\QX w' b s (List.replicate n.toNat 0) m)\/(¬JQ n m/\e=1/\p=none)):=by
 apply Y3;by_cases hn:JQ n m
 ·obtain⟨h1,h2,h3,h4⟩:=hn;have c1:¬(n<1):=by omega
  have c2:¬(n>64):=by omega
  have c3:¬(m<0):=by omega
  have c4:¬(m>4096):=by omega
  simp only[c1,c2,c3,c4,decide_false,cond_false,cond_true];refine F6 (by omega) (by omega) (by omega) (by omega) λs w1 hr0 hs _ hf1=> ?_;subst hs;have hs0:=hr0.lt;refine vF λb w2 hr2 hb hsz hf2=> ?_;refine⟨λS=>(hf1 S).trans (hf2 S) λ_ _ e=>e,.inl ⟨⟨h1,h2,h3,h4⟩,by trivial,b,w.heap.size,rfl,by omega,by omega,⟨by simpa using hr2,?_,by omega⟩⟩⟩;rw[adM];exact hr0.fr (hf2 λ_=>False) (by simp)
 ·by_cases c1:n<1
  ·simp only[c1,decide_true,cond_true];exact⟨λS=>iG.refl _ _,.inr ⟨hn,by trivial,by trivial⟩⟩
  ·by_cases c2:n>64
   ·simp only[c1,c2,decide_true,decide_false,cond_false,cond_true];exact⟨λS=>iG.refl _ _,.inr ⟨hn,by trivial,by trivial⟩⟩
   ·by_cases c3:m<0
    ·simp only[c1,c2,c3,decide_true,decide_false,cond_false,cond_true];exact⟨λS=>iG.refl _ _,.inr ⟨hn,by trivial,by trivial⟩⟩
    ·have c4:m>4096:=by simp only[JQ] at hn;omega
     simp only[c1,c2,c3,c4,decide_true,decide_false,cond_false,cond_true];exact⟨λS=>iG.refl _ _,.inr ⟨hn,by trivial,by trivial⟩⟩
end Go.Proofs.QN
end
section
namespace Go.Proofs.RP
open Gp Go.Proofs.CN Go.Proofs
open Go.Proofs.PN (O3)
def eO (x:O3):List Value:=[.int .i64 x.1,.int .i64 x.2.1,.int .i64 x.2.2]
theorem H7 (x:O3):(eO x).length=3:=rfl
theorem ae7 (x:O3):∀v∈eO x,jr v=true:=by
 intro v hv;simp only[eO,mem_cons,not_mem_nil,or_false] at hv;rcases hv with rfl|rfl|rfl<;>rfl
structure XP (w:World) (p:Nat) (s t:iq) (lo hi:Int) (pl:List Int) (L:List O3):Prop where
 hd:Row w p [.slice s.a s.len s.cap,.int .i64 lo,.int .i64 hi,.slice t.a t.len t.cap]
 ad:iW 1 eI w s pl
 gv:iW 3 eO w t L
 ln:pl.length<=16
 ll:L.length<=65536
 ap:¬iq.at s p/\¬iq.at t p
 st:∀b,iq.at s b->¬iq.at t b
def fp (p:Nat) (s t:iq) (b:Nat):Prop:=b=p\/iq.at s b\/iq.at t b
variable {w w':World} {p:Nat} {s t:iq} {lo hi:Int} {pl:List Int} {L:List O3}
theorem XP.fr {S:Nat->Prop} (h:XP w p s t lo hi pl L) (hf:iG w w' S) (hs:∀b,fp p s t b->¬S b):XP w' p s t lo hi pl L:=
 ⟨h.hd.fr hf (hs _ (.inl rfl)),h.ad.fr hf λb hb=>hs _ (.inr (.inl hb)),h.gv.fr hf λb hb=>hs _ (.inr (.inr hb)),h.ln,h.ll,h.ap,h.st⟩
theorem XP.ext (h:XP w p s t lo hi pl L) (hf:Ext w w'):XP w' p s t lo hi pl L:=h.fr (hf λ_=>False) (λ_ _=>by simp)
theorem XP.lt (h:XP w p s t lo hi pl L) {b:Nat} (hb:fp p s t b):b<w.heap.size:=by
 rcases hb with rfl|hb|hb
 ·exact h.hd.lt
 ·exact h.ad.lt hb
 ·exact h.gv.lt hb
theorem ac9 (h:XP w p s t lo hi pl L) (x:Int):o_ (some ⟨p,0,none⟩) x w λr w'=>r=decide (x∈pl)/\w'=w:=by
 apply Qi;have hs:=h.ad.sl kN (by omega);have hl:=hs.len;refine iE (λst W=>∃j:Nat,j<=pl.length/\st.1=(j:Int)/\W=w/\x∉pl.take j) (λst _=>pl.length - st.1.toNat) ⟨0,by omega,rfl,rfl,by simp⟩ ?_;rintro⟨i,⟨⟩⟩ W ⟨j,hj,hi',rfl,hx⟩ next u
 simp only at hi';subst hi';simp only[sx,h.hd.cell];have:=h.ln;by_cases I:(j:Int)<(s.len:Int)
 ·simp only[I,decide_true,cond_true];have hg:=getElem?_eq_getElem (show j<pl.length by omega);generalize pl[j]=y at hg;have J:=Gp.Cfg.take_snoc hg;refine SN.ER hs hg λa c=> ?_;simp only[sx,c];by_cases he:y=x
  ·subst he;rw[show (y==y)=true by simp,cond_true];exact⟨(decide_eq_true (mem_of_getElem? hg)).symm,by trivial⟩
  ·have:(y==x)=false:=by simpa using he
   rw[this,cond_false,wrap_i64 (by omega) (by omega)];refine u _ _ ⟨j+1,by omega,by simp,rfl,?_⟩ (by simp only;omega);rw[J,mem_append,mem_singleton];exact λhh=>hh.elim hx λe=>he e.symm
 ·simp only[I,decide_false,cond_false];rw[take_of_length_le (by omega)] at hx;exact⟨(decide_eq_false hx).symm,by trivial⟩
theorem ael (n:Int) (w:World):xR n w λr w'=>r=decide (n=1\/n=6\/n=17)/\w'=w:=by
 apply Vr;by_cases h1:n=1
 ·subst h1;simp
 by_cases h6:n=6
 ·subst h6;simp
 by_cases h:n=17
 ·subst h;simp
 ·simp[h1,h6,h]
theorem ahK (x y:O3):((x.1==y.1) && ((x.2.1==y.2.1) && ((x.2.2==y.2.2) && true)))=decide (x=y):=by
 obtain⟨a,b,c⟩:=x;obtain⟨a',b',c'⟩:=y;have ib:∀x y:Int,(x==y)=decide (x=y):=λ_ _=>rfl;simp[ib,decide_and]
theorem aek (h:XP w p s t lo hi pl L) (a b c:Int):pR (some ⟨p,0,none⟩) a b c w λr w'=>r=decide ((a,b,c)∈L)/\Ext w w':=by
 apply MO;refine iI λq w1 r1 e1 z1 f1=> ?_;have hs:=h.gv.sl H7 (by omega);have hl:=hs.len;refine iE (λst W=>∃j:Nat,j<=L.length/\st.1=(j:Int)/\Ext w1 W/\(a,b,c)∉L.take j) (λst _=>L.length - st.1.toNat) ⟨0,by omega,rfl,Ext.refl _,by simp⟩ ?_;rintro⟨i,⟨⟩⟩ W ⟨j,hj,hi',hx,hn⟩ next u
 simp only at hi';subst hi';have xd:=hx.trans (Ext.drew W);have hW:=(h.ext f1).ext hx;have J:=(h.ext f1).ext xd;have rd:=r1.ext xd;simp only[sx,hW.hd.cell,J.hd.cell];have:=h.ll;by_cases I:(j:Int)<(t.len:Int)
 ·simp only[I,decide_true,cond_true];have hg:=getElem?_eq_getElem (show j<L.length by omega);generalize L[j]=y at hg;have N:=Gp.Cfg.take_snoc hg;refine SlN_ix H7 (by omega) ((hs.ext f1).ext xd) (by omega) (by rw[toNat_natCast];exact hg) λad hc=> ?_;have c0:=hc 0 _ rfl;have c1:=hc 1 _ rfl;have c2:=hc 2 _ rfl;simp only[sx,c0,c1,c2,rd.cell];rw[ahK y (a,b,c)];by_cases he:y=(a,b,c)
  ·rw[decide_eq_true he,cond_true];subst he;exact⟨(decide_eq_true (mem_of_getElem? hg)).symm,f1.trans xd⟩
  ·rw[decide_eq_false he,cond_false,wrap_i64 (by omega) (by omega)];refine u _ _ ⟨j+1,by omega,by simp,xd,?_⟩ (by simp only;omega);rw[N,mem_append,mem_singleton];exact λhh=>hh.elim hn λe=>he e.symm
 ·simp only[I,decide_false,cond_false];rw[take_of_length_le (by omega)] at hn;exact⟨(decide_eq_false hn).symm,f1.trans hx⟩
theorem agu (h:XP w p s t lo hi pl L) {x y z:Int} (h1:x=1\/x=6\/x=17) (h2:y∈pl) (h3:0<=z) (h4:z<65536) (hn:(x,y,z)∉L) (hl:L.length<65536):
  qX (some ⟨p,0,none⟩) x y z w λe w'=>e=0/\iG w w' (fp p s t)/\∃t',XP w' p s t' lo hi pl (L++[(x,y,z)])/\∀b,iq.at t' b->iq.at t b\/w.heap.size<=b:=by
 apply OB;refine iI λq w1 r1 e1 z1 f1=> ?_;have hp:=h.ext f1;intro J;have hJ:∀W,Ext w1 W->J false W:=by
  intro W hW;simp only[J,cond_false];have rW:=r1.ext hW;simp only[sx,rW.cell];refine LP (aek (hp.ext hW) x y z) ?_;rintro r w2 ⟨rfl,f2⟩;rw[decide_eq_false hn,cond_false];have x2:=(hW.trans f2).trans (Ext.drew w2);have hp2:=hp.ext x2;have r2:=r1.ext x2;simp only[sx,hp2.hd.cell,r2.cell];refine iI λu w3 r3 e3 z3 f3=> ?_;have hp3:=hp2.ext f3;refine⟨by rw[hp3.hd.cell];rfl,?_⟩;have sl:mY 3 eO w3 ⟨some ⟨u,0,none⟩,1,1⟩ [(x,y,z)]:=(iW.row (xs:=[((x,y,z):O3)]) r3).sl H7 (by omega);refine iV H7 hp3.gv sl rfl (by omega) ae7 (by simp;omega) (by simp;omega) λt' w4 b4 f4 n4=> ?_;have hd4:=hp3.hd.fr f4 h.ap.2;refine iK hd4 rfl (by simp) λw5 r5 f5' z5=> ?_;have f5:iG w4 w5 (·=p):=f5' _ rfl;simp only[List.set_cons_zero,List.set_cons_succ] at r5;have ew:w2.drew.heap.size=w2.heap.size:=rfl;have xx:Ext w w3:=(f1.trans x2).trans f3;have hpl:=h.lt (b:=p) (.inl rfl);have nt':¬iq.at t' p:=λhh=>by
   rcases n4 p hh with g|g
   ·exact h.ap.2 g
   ·have:=xx.size;omega
  refine⟨by trivial,((xx.fr f4).mono λb hb=> .inr (.inr hb)).trans f5 λb _ hb=> .inl hb,t',⟨r5,(hp3.ad.fr f4 λb hb=>h.st b hb).fr f5 λb hb e=>h.ap.1 (e ▸ hb),b4.fr f5 λb hb e=>nt' (e ▸ hb),h.ln,by simp;omega,⟨h.ap.1,nt'⟩,λb hb hh=> ?_⟩,λb hb=> ?_⟩
  ·rcases n4 b hh with g|g
   ·exact h.st b hb g
   ·have:=h.ad.lt hb;have:=xx.size;omega
  ·rcases n4 b hb with g|g
   ·exact .inl g
   ·exact .inr (by have:=xx.size;omega)
 clear_value J;simp only[sx,r1.cell];refine UA (ael x w1) ?_;rintro r w2 ⟨rfl,hw⟩;subst hw;simp only[h1,decide_true,Bool.not_true,cond_false,sx,r1.cell];refine E5 (ac9 hp y) ?_;rintro r w2 ⟨rfl,hw⟩;subst hw;have h3':¬(z<0):=by omega
 have h4':¬(z>65535):=by omega
 simp only[h2,h3',h4',decide_true,decide_false,Bool.not_true,cond_false,sx,r1.cell];exact hJ _ (Ext.refl _)
end Go.Proofs.RP
end
section
namespace Go.Proofs.RP
open Gp Go.Proofs.CN Go.Proofs
open Go.Proofs.PN (O3)
variable {w w':World} {p:Nat} {s t:iq} {lo hi:Int} {pl:List Int} {L:List O3}
theorem ags (h:XP w p s t lo hi pl L) (x y z:Int):
  qV (some ⟨p,0,none⟩) x y z w λ_ w'=>iG w w' (fp p s t)/\∃t',XP w' p s t' lo hi pl (L.filter λo=>decide (o≠(x,y,z)))/\∀b,iq.at t' b->w.heap.size<=b:=by
 apply OA;refine iI λq w1 r1 e1 z1 f1=> ?_;have hs:=h.gv.sl H7 (by omega);have hl:=hs.len;refine iE (λst W=>∃j:Nat,j<=L.length/\st.2.1=(j:Int)/\Ext w W/\Row W q [.int .i64 x,.int .i64 y,.int .i64 z]/\iW 3 eO W st.1 ((L.take j).filter λo=>decide (o≠(x,y,z)))/\(∀b,iq.at st.1 b->w.heap.size<=b/\b≠q))
  (λst _=>L.length - st.2.1.toNat) ⟨0,by omega,rfl,f1,r1,by simpa using iW.nil,λb ⟨o,hb⟩=>by cases hb⟩ ?_
 rintro⟨u,i,⟨⟩⟩ W ⟨j,hj,hi',hx,hq,hb,hn⟩ next I
 simp only at hi' hb hn;subst hi';have hW:=h.ext hx;simp -zeta only[sx,hW.hd.cell];have:=h.ll;by_cases N:(j:Int)<(t.len:Int)
 ·simp -zeta only[N,decide_true,cond_true];intro J;have hg:=getElem?_eq_getElem (show j<L.length by omega);generalize L[j]=o at hg;have O:=Gp.Cfg.take_snoc hg;have hJ:∀u' W',Ext w W'->Row W' q [.int .i64 x,.int .i64 y,.int .i64 z]->iW 3 eO W' u' ((L.take (j+1)).filter λo=>decide (o≠(x,y,z)))->(∀b,iq.at u' b->w.heap.size<=b/\b≠q)->J u' W':=by
   intro u' W' h1 h2 h3 h4;simp only[J];rw[wrap_i64 (by omega) (by omega)];exact I _ _ ⟨j+1,by omega,by simp,h1,h2,h3,h4⟩ (by simp only;omega)
  clear_value J;have xd:=hx.trans (Ext.drew W);have R:=h.ext xd;have qd:=hq.drew;simp only[sx,R.hd.cell];refine SlN_ix H7 (by omega) (hs.ext xd) (by omega) (by rw[toNat_natCast];exact hg) λad hc=> ?_;have c0:=hc 0 _ rfl;have c1:=hc 1 _ rfl;have c2:=hc 2 _ rfl;simp only[sx,c0,c1,c2,qd.cell];rw[ahK o (x,y,z)];by_cases he:o=(x,y,z)
  ·rw[decide_eq_true he,Bool.not_true,cond_false];refine hJ u W.drew xd qd ?_ hn;rw[O,filter_append,filter_cons,if_neg (by simp[he]),List.filter_nil,List.append_nil];exact hb.ext (Ext.drew W)
  ·rw[decide_eq_false he,Bool.not_false,cond_true];refine SlN_ix H7 (by omega) (hs.ext xd) (by omega) (by rw[toNat_natCast];exact hg) λad2 hc2=> ?_;have d0:=hc2 0 _ rfl;have d1:=hc2 1 _ rfl;have d2:=hc2 2 _ rfl;simp only[sx,d0,d1,d2];refine iI λv w3 r3 e3 z3 f3=> ?_;have sl:mY 3 eO w3 ⟨some ⟨v,0,none⟩,1,1⟩ [o]:=(iW.row (xs:=[o]) r3).sl H7 (by omega);obtain⟨M,hM,hMl⟩:∃M:List O3,((L.take j).filter λo=>decide (o≠(x,y,z)))=M/\M.length<=j:=⟨_,rfl,Nat.le_trans (length_filter_le _ _) (List.length_take_le _ _)⟩;rw[hM] at hb;refine iV H7 ((hb.ext (Ext.drew W)).ext f3) sl rfl (by omega) ae7 (by simp only[length_cons,length_nil];omega) (by simp only[length_cons,length_nil];omega) λt' w4 b4 f4 n4=> ?_;have x3:=xd.trans f3;refine hJ t' w4 (x3.new f4 λb hb' hh=>by have:=(hn b hh).1;omega) ((qd.ext f3).fr f4 λhh=>(hn q hh).2 rfl) ?_ λb hb'=> ?_
   ·rw[O,filter_append,filter_cons,if_pos (by simp[he]),List.filter_nil,hM];exact b4
   ·rcases n4 b hb' with g|g
    ·exact hn b g
    ·have:=x3.size;have:=qd.lt;have:=f3.size;have hwd:W.drew.heap.size=W.heap.size:=rfl;omega
 ·simp only[N,decide_false,cond_false,sx,hW.hd.cell];rw[take_of_length_le (by omega)] at hb;refine iK hW.hd rfl (by simp) λw5 r5 f5' z5=> ?_;have f5:iG W w5 (·=p):=f5' _ rfl;simp only[List.set_cons_zero,List.set_cons_succ] at r5;have hpl:=h.lt (b:=p) (.inl rfl);refine⟨hx.fr (f5.mono λb hb=> .inl hb),u,⟨r5,hW.ad.fr f5 λb hb e=>h.ap.1 (e ▸ hb),hb.fr f5 λb hb e=> ?_,h.ln,Nat.le_trans (length_filter_le _ _) h.ll,⟨h.ap.1,λhh=> ?_⟩,λb hb hh=> ?_⟩,λb hb=>(hn b hb).1⟩
  ·have:=(hn b hb).1;omega
  ·have:=(hn p hh).1;omega
  ·have:=(hn b hh).1;have:=h.ad.lt hb;omega
theorem agv {s:iq} {lo hi:Int} {pl:List Int} (hs:mY 1 eI w s pl) (h0:1<=pl.length) (O:pl.length<=16) (hn:pl.Nodup) (hh:∀a∈pl,nY a) (h1:1<=lo) (h2:lo<=hi) (h3:hi<=65535):
  BP s lo hi w λr e w'=>e=0/\Ext w w'/\∃p s',r=some ⟨p,0,none⟩/\XP w' p s' ⟨none,0,0⟩ lo hi pl []/\∀b,fp p s' ⟨none,0,0⟩ b->w.heap.size<=b:=by
 apply Y2;have hl:s.len=pl.length:=hs.len;intro J4;have a1:¬((s.len:Int)<1):=by omega
 have a2:¬((s.len:Int)>16):=by omega
 have a3:¬(lo<1):=by omega
 have a4:¬(lo>hi):=by omega
 have a5:¬(hi>65535):=by omega
 simp -zeta only[a1,a2,a3,a4,a5,decide_false,cond_false];simp only[J4,cond_false];refine iE (λst W=>∃i:Nat,i<=pl.length/\st.1=(i:Int)/\Ext w W) (λst _=>pl.length - st.1.toNat) ⟨0,by omega,rfl,Ext.refl _⟩ ?_;rintro⟨i',⟨⟩⟩ W ⟨i,hi',hi2,hx⟩ next I
 simp only at hi2;subst hi2;by_cases J:i<pl.length
 ·have h:((i:Int)<(s.len:Int)):=by omega
  simp only[h,decide_true,cond_true];have hg:=getElem?_eq_getElem J;refine iE (λst W'=>∃k:Nat,k<=i/\st.1=(k:Int)/\Ext w W') (λst _=>i - st.1.toNat) ⟨0,by omega,rfl,hx⟩ ?_;rintro⟨k',⟨⟩⟩ W' ⟨k,hk,hk2,hx'⟩ next' u
  simp only at hk2;subst hk2;by_cases N:(k:Int)<(i:Int)
  ·simp only[N,decide_true,cond_true];have hx2:=hx'.trans (Ext.drew W');refine SN.ER (hs.ext hx2) (getElem?_eq_getElem (show k<pl.length by omega)) λa ca=> ?_;simp only[sx,ca];refine SN.ER (hs.ext hx2) hg λb cb=> ?_;simp only[sx,cb];have R:(pl[k]==pl[i])=false:=by
    have hp:=List.pairwise_iff_getElem.1 hn k i (by omega) J (by omega);simpa using hp
   rw[R,cond_false,wrap_i64 (by omega) (by omega)];exact u _ _ ⟨k+1,by omega,by simp,hx2⟩ (by simp only;omega)
  ·simp only[N,decide_false,cond_false];refine SN.ER (hs.ext hx') hg λa ca=> ?_;simp only[sx,ca];refine Bo (CN.Fh _ W') ?_;rintro r w2 ⟨rfl,hw⟩;subst hw;rw[decide_eq_true (hh _ (List.getElem_mem J)),Bool.not_true,cond_false,wrap_i64 (by omega) (by omega)];exact I _ _ ⟨i+1,by omega,by simp,hx'⟩ (by simp only;omega)
 ·have h:¬((i:Int)<(s.len:Int)):=by omega
  simp only[h,decide_false,cond_false];refine iV (n:=1) (f:=eI) kN iW.nil (hs.ext hx) rfl (by omega) (by intro x v hv;simp only[eI,mem_singleton] at hv;rw[hv];rfl) (by simp;omega) (by simp;omega) λs' w3 b3 f3 n3=> ?_;have x3:Ext W w3:=f3.new λb _ ⟨o,hb⟩=>by cases hb
  refine iI λp w4 r4 e4 z4 f4=> ?_;have hz:=hx.size;refine⟨by trivial,(hx.trans x3).trans f4,p,s',rfl,⟨r4,?_,iW.nil,O,by simp,⟨λhh=> ?_,λ⟨o,hb⟩=>by cases hb⟩,λb _ ⟨o,hb⟩=>by cases hb⟩,?_⟩
  ·simpa using b3.ext f4
  ·have:=b3.lt hh;omega
  ·rintro b (rfl|hb|⟨o,hb⟩)
   ·have:=x3.size;omega
   ·rcases n3 b hb with ⟨o,g⟩|g
    ·cases g
    ·omega
   ·cases hb
end Go.Proofs.RP
end
section
namespace Go.Proofs.XN
open Gp Go.Proofs Go.Proofs.EN
open Gp.Bind (Bnd Slots live GoodB freeN getS In64)
structure XA where
 x:Nat
 p:Nat
 s:iq
 t:iq
 q:Nat
 qs:Nat
 b:Nat
 bs:iq
 tb:Nat
 ts:iq
def own (a:XA):Nat->Nat->Prop
 |0,z=>z=a.x
 |1,z=>RP.fp a.p a.s a.t z
 |2,z=>z=a.q\/z=a.qs
 |3,z=>RB.fpR a.b a.bs z
 |4,z=>SN.fpR a.tb a.ts z
 |_,_=>False
def Ak (a:XA) (z:Nat):Prop:=∃k,own a k z
def akm (S:Slots) (o:PN.O3):Prop:=∃(j:Nat) (b:Bnd),S[j]? =some (some b)/\(b.opr,b.oad,b.opo)=o
structure XM (w:World) (a:XA) (c:Cf) (L:List PN.O3) (Q:List Int) (B:List (Int×Bnd)) (T:List (Int×Gp.Ses.Ses)) (now:Nat):Prop where
 cf:adb c
 hd:Row w a.x (c.C++[.int .i64 (now:Int),.pointer (some ⟨a.p,0,none⟩),.pointer (some ⟨a.q,0,none⟩),.pointer (some ⟨a.b,0,none⟩),.pointer (some ⟨a.tb,0,none⟩)])
 pl:RP.XP w a.p a.s a.t c.lo c.hi c.pl L
 qr:QN.QX w a.q a.qs Q c.q
 db:RB.RF w a.b a.bs c.nb B
 se:SN.RF w a.tb a.ts c.ns T
 ap:∀k k' z,own a k z->own a k' z->k=k'
 lt:∀k z,own a k z->z<w.heap.size
structure XL (c:Cf) (S:Slots) (L:List PN.O3) (Q:List Int):Prop where
 mem:∀o,o∈L↔akm S o
 nd:L.Nodup
 qo:QN.QOk Q c.q
 ql:Q.length=c.sw.len
 cn:∀i,WB c i->QN.at_ Q i=(II S i:Int)
 len:S.length=c.nb.toNat
def XE (w:World) (a:XA) (c:Cf) (S:Slots) (SS:Gp.Ses.Slots) (now:Nat):Prop:=∃L Q,XM w a c L Q (live 0 S) (Gp.Ses.live 0 SS) now/\XL c S L Q
variable {w w':World} {a:XA} {c:Cf} {S:Slots} {SS:Gp.Ses.Slots} {now:Nat} {L:List PN.O3} {Q:List Int} {B:List (Int×Bnd)} {T:List (Int×Gp.Ses.Ses)}
theorem Qp {b s:Nat} {l:List Int} {m:Int} {T:Nat->Prop} (h:QN.QX w b s l m) (hf:iG w w' T) (h1:¬T b) (h2:¬T s):QN.QX w' b s l m:=⟨h.hd.fr hf h1,h.row.fr hf h2,h.ne⟩
theorem XM.fr {F:Nat->Prop} (h:XM w a c L Q B T now) (hf:iG w w' F) (hs:∀k z,own a k z->¬F z):XM w' a c L Q B T now:=
 ⟨h.cf,h.hd.fr hf (hs 0 _ rfl),h.pl.fr hf (hs 1),Qp h.qr hf (hs 2 _ (.inl rfl)) (hs 2 _ (.inr rfl)),h.db.fr hf (hs 3),h.se.fr hf (hs 4),h.ap,
  λk z hz=>Nat.lt_of_lt_of_le (h.lt k z hz) hf.size⟩
theorem XM.ext (h:XM w a c L Q B T now) (hf:Ext w w'):XM w' a c L Q B T now:=h.fr (hf λ_=>False) (λ_ _ _=>by simp)
theorem XE.fr {F:Nat->Prop} (h:XE w a c S SS now) (hf:iG w w' F) (hs:∀k z,own a k z->¬F z):XE w' a c S SS now:=by
 obtain⟨L,Q,hm,hl⟩:=h;exact⟨L,Q,hm.fr hf hs,hl⟩
theorem XE.ext (h:XE w a c S SS now) (hf:Ext w w'):XE w' a c S SS now:=by
 obtain⟨L,Q,hm,hl⟩:=h;exact⟨L,Q,hm.ext hf,hl⟩
theorem XM.off (h:XM w a c L Q B T now) {j k z:Nat} (hk:own a k z) (hn:k≠j):¬own a j z:=λhj=>hn (h.ap k j z hk hj)
theorem Ny {a A:XA} {j:Nat} (h:∀k k' z,own a k z->own a k' z->k=k') (lt:∀k z,own a k z->z<w.heap.size) (same:∀k z,k≠j->own A k z->own a k z) (fr:∀z,own A j z->own a j z\/w.heap.size<=z):
  ∀k k' z,own A k z->own A k' z->k=k':=by
 have key:∀k z,own A k z->k≠j->own A j z->False:=by
  intro k z hk hn hj;have h1:=same k z hn hk;rcases fr z hj with h2|h2
  ·exact hn (h k j z h1 h2)
  ·have:=lt k z h1;omega
 intro k k' z hk hk';by_cases h1:k=j
 ·by_cases h2:k'=j
  ·rw[h1,h2]
  ·subst h1;exact(key k' z hk' h2 hk).elim
 ·by_cases h2:k'=j
  ·subst h2;exact(key k z hk h1 hk').elim
  ·exact h k k' z (same k z h1 hk) (same k' z h2 hk')
theorem XM.ajK (h:XM w a c L Q B T now) {t':iq} {L':List PN.O3} (hf:iG w w' (own a 1)) (hp:RP.XP w' a.p a.s t' c.lo c.hi c.pl L') (u:∀b,iq.at t' b->iq.at a.t b\/w.heap.size<=b):XM w' {a with t:=t'} c L' Q B T now:=by
 have o:∀k z,own a k z->k≠1->¬own a 1 z:=λk z hk hn=>h.off hk hn;have same:∀k z,k≠1->own {a with t:=t'} k z->own a k z:=by
  intro k z hk ho
  match k,ho with
  |0,ho=>exact ho
  |1,_=>exact absurd rfl hk
  |2,ho=>exact ho
  |3,ho=>exact ho
  |4,ho=>exact ho
  |(n+5),ho=>exact ho
 refine⟨h.cf,h.hd.fr hf (o 0 _ rfl (by decide)),hp,Qp h.qr hf (o 2 _ (.inl rfl) (by decide)) (o 2 _ (.inr rfl) (by decide)),h.db.fr hf (λz hz=>o 3 z hz (by decide)),h.se.fr hf (λz hz=>o 4 z hz (by decide)),Ny (j:=1) h.ap h.lt same ?_,?_⟩
 ·rintro z (hz|hz|hz)
  ·exact .inl (.inl hz)
  ·exact .inl (.inr (.inl hz))
  ·exact(u z hz).imp (λhz=> .inr (.inr hz)) id
 ·intro k z hz;by_cases hk:k=1
  ·subst hk;exact hp.lt hz
  ·exact Nat.lt_of_lt_of_le (h.lt k z (same k z hk hz)) hf.size
theorem XM.af_ (h:XM w a c L Q B T now) {Q':List Int} (hf:iG w w' (·=a.qs)) (hq:QN.QX w' a.q a.qs Q' c.q):XM w' a c L Q' B T now:=by
 have o:∀k z,own a k z->k≠2->¬z=a.qs:=λk z hk hn he=>h.off hk hn (.inr he);exact⟨h.cf,h.hd.fr hf (o 0 _ rfl (by decide)),h.pl.fr hf (λz hz=>o 1 z hz (by decide)),hq,h.db.fr hf (λz hz=>o 3 z hz (by decide)),h.se.fr hf (λz hz=>o 4 z hz (by decide)),h.ap,λk z hz=>Nat.lt_of_lt_of_le (h.lt k z hz) hf.size⟩
theorem XM.setB (h:XM w a c L Q B T now) {s':iq} {B':List (Int×Bnd)} (hf:iG w w' (·=a.b)) (hb:RB.RF w' a.b s' c.nb B') (u:∀z,iq.at s' z->iq.at a.bs z\/w.heap.size<=z):XM w' {a with bs:=s'} c L Q B' T now:=by
 have o:∀k z,own a k z->k≠3->¬z=a.b:=λk z hk hn he=>h.off hk hn (.inl he);have same:∀k z,k≠3->own {a with bs:=s'} k z->own a k z:=by
  intro k z hk ho
  match k,ho with
  |0,ho=>exact ho
  |1,ho=>exact ho
  |2,ho=>exact ho
  |3,_=>exact absurd rfl hk
  |4,ho=>exact ho
  |(n+5),ho=>exact ho
 refine⟨h.cf,h.hd.fr hf (o 0 _ rfl (by decide)),h.pl.fr hf (λz hz=>o 1 z hz (by decide)),Qp h.qr hf (o 2 _ (.inl rfl) (by decide)) (o 2 _ (.inr rfl) (by decide)),hb,h.se.fr hf (λz hz=>o 4 z hz (by decide)),Ny (j:=3) h.ap h.lt same ?_,?_⟩
 ·rintro z (hz|hz)
  ·exact .inl (.inl hz)
  ·exact(u z hz).imp .inr id
 ·intro k z hz;by_cases hk:k=3
  ·subst hk;exact hb.lt hz
  ·exact Nat.lt_of_lt_of_le (h.lt k z (same k z hk hz)) hf.size
theorem XM.cC (h:XM w a c L Q B T now) {j:Nat} (hj:j<36):w.cell? ⟨a.x,j,none⟩=c.C[j]? :=by
 rw[h.hd.cell,List.getElem?_append_left (by have:=h.cf.len;omega)]
theorem XM.tail (h:XM w a c L Q B T now) (j:Nat):w.cell? ⟨a.x,36+j,none⟩=([.int .i64 (now:Int),.pointer (some ⟨a.p,0,none⟩),.pointer (some ⟨a.q,0,none⟩),.pointer (some ⟨a.b,0,none⟩),.pointer (some ⟨a.tb,0,none⟩)]:List Value)[j]? :=by
 rw[h.hd.cell,List.getElem?_append_right (by have:=h.cf.len;omega)];congr 1;have:=h.cf.len;omega
theorem XM.c36 (h:XM w a c L Q B T now):w.cell? ⟨a.x,36,none⟩=some (.int .i64 (now:Int)):=h.tail 0
theorem XM.c37 (h:XM w a c L Q B T now):w.cell? ⟨a.x,37,none⟩=some (.pointer (some ⟨a.p,0,none⟩)):=h.tail 1
theorem XM.c38 (h:XM w a c L Q B T now):w.cell? ⟨a.x,38,none⟩=some (.pointer (some ⟨a.q,0,none⟩)):=h.tail 2
theorem XM.c39 (h:XM w a c L Q B T now):w.cell? ⟨a.x,39,none⟩=some (.pointer (some ⟨a.b,0,none⟩)):=h.tail 3
theorem XM.c40 (h:XM w a c L Q B T now):w.cell? ⟨a.x,40,none⟩=some (.pointer (some ⟨a.tb,0,none⟩)):=h.tail 4
theorem XM.c16 (h:XM w a c L Q B T now):w.cell? ⟨a.x,16,none⟩=some (.slice c.sw.a c.sw.len c.sw.cap):=(h.cC (by omega)).trans h.cf.c16
theorem XM.c20 (h:XM w a c L Q B T now):w.cell? ⟨a.x,20,none⟩=some (.int .i64 c.q):=(h.cC (by omega)).trans h.cf.c20
theorem XM.c21 (h:XM w a c L Q B T now):w.cell? ⟨a.x,21,none⟩=some (.int .i64 c.nb):=(h.cC (by omega)).trans h.cf.c21
theorem XM.b0 (h:XM w a c L Q B T now):w.cell? ⟨a.b,0,none⟩=some (.slice a.bs.a a.bs.len a.bs.cap):=by rw[h.db.hd.cell];rfl
theorem XM.t0 (h:XM w a c L Q B T now):w.cell? ⟨a.tb,0,none⟩=some (.slice a.ts.a a.ts.len a.ts.cap):=by rw[h.se.hd.cell];rfl
theorem ahO (h:XM w a c L Q B T now) (b:Bnd):pX (some ⟨a.x,0,none⟩) b.sw b.pr b.ad b.po b.opr b.oad b.opo w λr w'=>r=decide (Gw c b)/\Ext w w':=by
 apply MS;refine iI λt w1 r1 e1 z1 f1=> ?_;have h1:=h.ext f1;have hd:=h1.ext (Ext.drew w1);have rd:=r1.drew;have r2:=rd.drew;have h2:=hd.ext (Ext.drew _);have f2:Ext w w1.drew.drew:=f1.trans ((Ext.drew w1).trans (Ext.drew _));have hp:=h2.pl;intro J5;have hJ5:J5 (decide (b.pr=1\/b.pr=6\/b.pr=17)):=by
  simp -zeta only[J5,sx,r1.cell];intro J7;have hJ7:J7 (decide ((0<=b.po/\b.po<=65535)/\(0<=b.opo/\b.opo<=65535))):=by
   simp -zeta only[J7,sx,rd.cell,hd.c16];intro J9;have hJ9:J9 (decide (WB c b.sw)) w1.drew:=by
    simp only[J9,sx,r2.cell,h2.c37];by_cases c1:b.pr=1\/b.pr=6\/b.pr=17;rotate_left
    ·rw[decide_eq_false c1,cond_false];exact⟨(decide_eq_false λhm=>c1 hm.1).symm,f2⟩
    rw[decide_eq_true c1,cond_true];by_cases c2:(0<=b.po/\b.po<=65535)/\(0<=b.opo/\b.opo<=65535);rotate_left
    ·rw[decide_eq_false c2,cond_false];exact⟨(decide_eq_false λhm=>c2 ⟨hm.2.2.2.1,hm.2.2.2.2.1⟩).symm,f2⟩
    rw[decide_eq_true c2,cond_true];by_cases c3:WB c b.sw;rotate_left
    ·rw[decide_eq_false c3,cond_false];exact⟨(decide_eq_false λhm=>c3 hm.2.2.2.2.2.2).symm,f2⟩
    rw[decide_eq_true c3,cond_true];by_cases c4:b.pr=b.opr;rotate_left
    ·have:(b.opr==b.pr)=false:=by simpa using λe=>c4 e.symm
     rw[this,cond_false];exact⟨(decide_eq_false λhm=>c4 hm.2.2.2.2.2.1).symm,f2⟩
    have:(b.opr==b.pr)=true:=by simpa using c4.symm
    rw[this,cond_true];refine Bo (CN.Fh _ _) ?_;rintro r w2 ⟨rfl,hw⟩;subst hw;by_cases c5:CN.nY b.ad;rotate_left
    ·rw[decide_eq_false c5,cond_false];exact⟨(decide_eq_false λhm=>c5 hm.2.1).symm,f2⟩
    rw[decide_eq_true c5,cond_true];simp only[sx,r2.cell,h2.c37];refine E5 (RP.ac9 hp _) ?_;rintro r w2 ⟨rfl,hw⟩;subst hw;refine⟨decide_eq_decide.2 ?_,f2⟩;exact⟨λhh=>⟨c1,c5,hh,c2.1,c2.2,c4,c3⟩,λhm=>hm.2.2.1⟩
   clear_value J9;unfold WB at hJ9;by_cases h0:b.sw>=0
   ·have h0':0<=b.sw:=h0;simp only[h0',true_and] at hJ9;rw[decide_eq_true h0,cond_true];exact hJ9
   ·have h0':¬0<=b.sw:=h0;simp only[h0',false_and,decide_false] at hJ9;rw[decide_eq_false h0,cond_false];exact hJ9
  clear_value J7;by_cases d1:b.po>=0;rotate_left
  ·rw[decide_eq_false (λhh=>d1 hh.1.1)] at hJ7;rw[decide_eq_false d1,cond_false];exact hJ7
  rw[decide_eq_true d1,cond_true];by_cases d2:b.po<=65535;rotate_left
  ·rw[decide_eq_false (λhh=>d2 hh.1.2)] at hJ7;rw[decide_eq_false d2,cond_false];exact hJ7
  rw[decide_eq_true d2,cond_true];by_cases d3:b.opo>=0;rotate_left
  ·rw[decide_eq_false (λhh=>d3 hh.2.1)] at hJ7;rw[decide_eq_false d3,cond_false];exact hJ7
  rw[decide_eq_true d3,cond_true];have:decide (b.opo<=65535)=decide ((0<=b.po/\b.po<=65535)/\(0<=b.opo/\b.opo<=65535)):=decide_eq_decide.2 ⟨λhh=>⟨⟨d1,d2⟩,d3,hh⟩,λhh=>hh.2.2⟩;rw[this];exact hJ7
 clear_value J5;simp only[sx,r1.cell];by_cases p1:b.pr=1
 ·have p1':(b.pr==1)=true:=by simpa using p1
  rw[p1',cond_true];rw[decide_eq_true (.inl p1)] at hJ5;exact hJ5
 have p1':(b.pr==1)=false:=by simpa using p1
 rw[p1',cond_false];by_cases p6:b.pr=6
 ·have p6':(b.pr==6)=true:=by simpa using p6
  rw[p6',cond_true];rw[decide_eq_true (.inr (.inl p6))] at hJ5;exact hJ5
 have p6':(b.pr==6)=false:=by simpa using p6
 rw[p6',cond_false];have q:decide (b.pr=1\/b.pr=6\/b.pr=17)=(b.pr==17):=by
  have:(b.pr==17)=decide (b.pr=17):=rfl;rw[this];simp[p1,p6]
 rw[q] at hJ5;exact hJ5
end Go.Proofs.XN
end
section
namespace Go.Proofs.XN
open Gp Go.Proofs Go.Proofs.EN
open Gp.Bind (Bnd Slots live GoodB freeN getS In64)
def aby (S:Slots) (b:Bnd):Bool:=((live 0 S).find? λy=>decide (y.2.i=b.i)).isSome
def YC (S:Slots) (b:Bnd):Bool:=((live 0 S).find? λy=>decide (y.2.o=b.o)).isSome
def mapX (c:Cf) (S:Slots) (b:Bnd):Int:=
 if ¬Gw c b then 1 else if aby S b||YC S b then 9 else if (II S b.sw:Int)>=c.q then 10 else if ((live 0 S).length:Int)>=c.nb then 7 else 0
theorem mapE_X {c:Cf} {e:ES} (hi:Inv c e) (hc:adb c) (hg:GoodB e.S e.Mi e.Mo) (b:Bnd):Cj c e b=mapX c e.S b:=by
 unfold Cj mapX;by_cases hm:Gw c b;rotate_left
 ·rw[if_pos hm,if_pos hm]
 rw[if_neg (not_not_intro hm),if_neg (not_not_intro hm)];have bok:=hm.ok hc;have e1:(e.Mi (Bind.keyS b.i)).isSome=aby e.S b:=by
  rw[Gp.Bind.aix hg bok.1 rfl];unfold aby;rw[isSome_map]
 have e2:(e.Mo (Bind.keyS b.o)).isSome=YC e.S b:=by
  rw[Gp.Bind.aiy hg bok.2 rfl];unfold YC;rw[isSome_map]
 have h:QN.N_ e.Q b.sw:=⟨hm.2.2.2.2.2.2.1,by rw[hi.ql];exact hm.2.2.2.2.2.2.2⟩;have e3:QN.sJ e.Q b.sw=(II e.S b.sw:Int):=by unfold QN.sJ;rw[if_pos h,hi.cn _ hm.2.2.2.2.2.2]
 rw[e1,e2,e3]
theorem PY {α:Type} [DecidableEq α]:∀{l m:List α},l.Nodup->(∀x∈l,x∈m)->l.length<=m.length
 |[],_,_,_=>by simp
 |x::r,m,hn,hs=>by
  have hx:=hs x (by simp);obtain⟨h1,h2⟩:=List.nodup_cons.1 hn;have:=PY (l:=r) (m:=m.erase x) h2 (λy hy=>(List.mem_erase_of_ne (λ(e:y=x)=>h1 (e ▸ hy))).2 (hs y (by simp[hy])));rw[List.length_erase_of_mem hx] at this;have:=List.length_pos_of_mem hx;simp only[length_cons];omega
variable {w w':World} {a:XA} {c:Cf} {S:Slots} {SS:Gp.Ses.Slots} {now:Nat} {L:List PN.O3} {Q:List Int}
theorem XL.ll (h:XL c S L Q):L.length<=S.length:=by
 have:L.length<=((live 0 S).map λx=>(x.2.opr,x.2.oad,x.2.opo)).length:=PY h.nd λo ho=>by
  obtain⟨j,b,hj,rfl⟩:=(h.mem o).1 ho;obtain⟨h1,_⟩:=Ll hj;exact List.mem_map.2 ⟨_,mem_of_getElem? h1,rfl⟩
 rw[List.length_map] at this;exact Nat.le_trans this (Gp.Bind.lX S 0)
theorem VP {S:Slots} {i:Nat} {b:Bnd} (u:i<S.length) (j:Nat) (x:Bnd):(S.set i (some b))[j]? =some (some x)↔(j=i/\x=b)\/(j≠i/\S[j]? =some (some x)):=by
 rw[List.getElem?_set];by_cases hj:i=j
 ·subst hj;simp[u,eq_comm]
 ·have:j≠i:=λh=>hj h.symm;simp[hj,this]
theorem XL.add (h:XL c S L Q) {i:Nat} {b:Bnd} (hf:freeN S=some i) (hm:Gw c b) (ho:YC S b=false) (hq:¬(II S b.sw:Int)>=c.q):
  (b.opr,b.oad,b.opo)∉L/\QN.sJ Q b.sw=(II S b.sw:Int)/\QN.Au Q c.q b.sw=(0,Q.set b.sw.toNat (QN.at_ Q b.sw+1))/\XL c (S.set i (some b)) (L++[(b.opr,b.oad,b.opo)]) (Q.set b.sw.toNat (QN.at_ Q b.sw+1)):=by
 obtain⟨I,R,_⟩:=Gp.Bind.yQ 0 hf;obtain⟨s0,s1⟩:=hm.2.2.2.2.2.2;have U:=h.ql;have u:QN.N_ Q b.sw:=⟨s0,by omega⟩;have J:=h.cn _ ⟨s0,s1⟩;have N:QN.Au Q c.q b.sw=(0,Q.set b.sw.toNat (QN.at_ Q b.sw+1)):=by
  unfold QN.Au;rw[if_pos u,if_neg (by rw[J];exact hq)]
 have hn:(b.opr,b.oad,b.opo)∉L:=by
  intro hl;obtain⟨j,x,hj,hx⟩:=(h.mem _).1 hl;obtain⟨h1,_⟩:=Ll hj;have:YC S b=true:=by
   unfold YC;rw[List.find?_isSome];refine⟨_,mem_of_getElem? h1,decide_eq_true ?_⟩;simp only[Prod.mk.injEq] at hx;show [x.opr,x.oad,x.opo]=[b.opr,b.oad,b.opo];rw[hx.1,hx.2.1,hx.2.2]
  rw[this] at ho;cases ho
 have O:=QN.aaK h.qo b.sw;rw[N] at O;refine⟨hn,by unfold QN.sJ;rw[if_pos u,J],N,⟨λo=> ?_,?_,O,by simp[U],λk hk=> ?_,by simp[h.len]⟩⟩
 ·rw[mem_append,mem_singleton,h.mem];constructor
  ·rintro(⟨j,x,hj,hx⟩|rfl)
   ·exact⟨j,x,(VP I j x).2 (.inr ⟨(λe=>by rw[e,R] at hj;cases hj),hj⟩),hx⟩
   ·exact⟨i,b,(VP I i b).2 (.inl ⟨rfl,rfl⟩),rfl⟩
  ·rintro⟨j,x,hj,hx⟩;rcases(VP I j x).1 hj with ⟨rfl,rfl⟩|⟨_,hj⟩
   ·exact .inr hx.symm
   ·exact .inl ⟨j,x,hj,hx⟩
 ·rw[List.nodup_append];exact⟨h.nd,by simp,λx hx y hy e=>by rw[mem_singleton] at hy;subst hy;subst e;exact hn hx⟩
 ·rw[at_set s0 (by omega) hk.1,acv hf];by_cases hb:b.sw=k
  ·subst hb;simp only[if_true];rw[J];omega
  ·simp only[hb,if_false];rw[h.cn _ hk];omega
theorem Zl (h:XE w a c S SS now) (b:Bnd) (U:b.st=true):nN (some ⟨a.x,0,none⟩) b.sw b.pr b.ad b.po b.opr b.oad b.opo w λr w'=>r=mapX c S b/\
  ((r≠0/\Ext w w')\/(r=0/\iG w w' (Ak a)/\∃A i,freeN S=some i/\A.x=a.x/\(∀z,Ak A z->Ak a z\/w.heap.size<=z)/\XE w' A c (S.set i (some b)) SS now)):=by
 obtain⟨L,Q,hx,hl⟩:=h;apply MR;refine iI λt w1 r1 e1 z1 f1=> ?_;have h1:=hx.ext f1;simp -zeta only[sx,r1.cell];refine LV (ahO h1 b) ?_;rintro r w2 ⟨rfl,f2⟩;by_cases hm:Gw c b;rotate_left
 ·simp only[hm,decide_false,Bool.not_false,cond_true];refine⟨by unfold mapX;rw[if_pos hm],.inl ⟨by decide,f1.trans f2⟩⟩
 have x2:=f2.trans (Ext.drew w2);have h2:=h1.ext x2;have r2:=r1.ext x2;simp -zeta only[hm,decide_true,Bool.not_true,cond_false,sx,h2.c39,r2.cell];refine AQ (RB.VK h2.db b.sw b.pr b.ad b.po) ?_;rintro n1 t1 w3 ⟨rfl,rfl,f3⟩;have x3:=f3.trans (Ext.drew w3);have h3:=h2.ext x3;have r3:=r2.ext x3;simp -zeta only[sx,h3.c39,r3.cell];refine Gm (RB.aaz h3.db b.opr b.oad b.opo) ?_;rintro n2 t2 w4 ⟨rfl,rfl,f4⟩;have x4:=((f1.trans x2).trans x3).trans f4;intro J;have hJ:J (aby S b||YC S b):=by
  cases hd:(aby S b||YC S b)
  rotate_left
  ·simp only[J,cond_true];exact⟨by unfold mapX;rw[if_neg (not_not_intro hm),if_pos hd],.inl ⟨by decide,x4⟩⟩
  have x5:=f4.trans (Ext.drew w4);have h5:=h3.ext x5;have r5:=r3.ext x5;simp only[J,cond_false,sx,h5.c38,h5.c20,r5.cell];refine Jt (QN.aei h5.qr _) ?_;rintro n w5 ⟨rfl,hw⟩;subst hw;refine⟨h5.c20,?_⟩;have ab:QN.N_ Q b.sw:=⟨hm.2.2.2.2.2.2.1,by rw[hl.ql];exact hm.2.2.2.2.2.2.2⟩;have e3:QN.sJ Q b.sw=(II S b.sw:Int):=by unfold QN.sJ;rw[if_pos ab,hl.cn _ hm.2.2.2.2.2.2]
  rw[e3];by_cases hq:(II S b.sw:Int)>=c.q
  ·simp only[hq,decide_true,cond_true];exact⟨by unfold mapX;rw[if_neg (not_not_intro hm),if_neg (by rw[hd];decide),if_pos hq],.inl ⟨by decide,x4.trans (Ext.drew w4)⟩⟩
  have x6:=Ext.drew w4.drew;have h6:=h5.ext x6;have r6:=r5.ext x6;have xx:=(x4.trans (Ext.drew w4)).trans x6;simp only[hq,decide_false,cond_false,sx,h6.c39,h6.b0,h6.c21,r6.cell];have hlen:(a.bs.len:Int)=((live 0 S).length:Int):=by rw[h6.db.buf.len]
  rw[hlen];by_cases u:((live 0 S).length:Int)>=c.nb
  ·simp only[u,decide_true,cond_true];exact⟨by unfold mapX;rw[if_neg (not_not_intro hm),if_neg (by rw[hd];decide),if_neg hq,if_pos u],.inl ⟨by decide,xx⟩⟩
  have h7:=h6.ext (Ext.drew _);have r7:=r6.drew;have xy:=xx.trans (Ext.drew _);simp only[u,decide_false,cond_false,sx,h7.c38,r7.cell];simp only[Bool.or_eq_false_iff] at hd;obtain⟨Y,O⟩:=hd;have I:∃i,freeN S=some i:=by
   cases ac:freeN S with
   |some i=>exact⟨i,rfl⟩
   |none=>
    have aa:=NZ 0 ac;have h11:=hl.len;have:=h1.cf.b1;omega
  obtain⟨i,R⟩:=I;obtain⟨ae,_,af,hl'⟩:=hl.add R hm O hq;refine LU (QN.agA h7.qr hl.qo _) ?_;rintro n w7 ⟨rfl,q7,f7⟩;rw[af] at q7;have h8:=(h7.af_ f7 q7).ext (Ext.drew w7);have hlt:=λk z hz=>h1.lt k z hz;have tlt:∀k,¬own a k t:=λk hk=>by have:=hx.lt k t hk;omega
  have r8:=(r7.fr f7 (λhe=>tlt 2 (.inr he))).drew;simp only[sx,h8.c37,r8.cell];have ag:b.opr=1\/b.opr=6\/b.opr=17:=by rw[<- hm.2.2.2.2.2.1];exact hm.1
  have hll:=hl.ll;have hb1:=h1.cf.b1;have hlen2:=hl.len;refine NR (RP.agu h8.pl ag hm.2.2.1 hm.2.2.2.2.1.1 (by have:=hm.2.2.2.2.1.2;omega) ae (by omega)) ?_;rintro n w8 ⟨rfl,f8,t',p8,ht'⟩;have h9:=(h8.ajK f8 p8 ht').ext (Ext.drew w8);have r9:=(r8.fr f8 (tlt 1)).drew;simp only[sx,h9.c39,r9.cell];obtain⟨g1,g2,g3,g4,g5,g6,g7⟩:=Gp.Bind.yQ 0 R;have N:=RB.ahz h9.db b i (by omega) (λ_=>⟨g4,λj hj=>by obtain⟨x,hx,_⟩:=g5 j hj;exact⟨x,by simpa using hx⟩,λv x hv=>by simpa using g6 v x hv⟩);rw[U] at N;refine Td N ?_;rintro n m w9 ⟨hr,f9,s',d9,hs'⟩;have ah:RB.Iy (live 0 S) c.nb b i=((i:Int),0):=by
   unfold RB.Iy;have u1:((live 0 S).find? λy=>decide (y.2.i=b.i)).isSome=false:=Y;have u2:((live 0 S).find? λy=>decide (y.2.o=b.o)).isSome=false:=O;rw[u1,u2,if_neg (by decide),if_neg (by omega)]
  rw[ah] at d9;have hb':({b with st:=true}:Bnd)=b:=by rw[<- U]
  simp only[if_true] at d9;have e7:=g7 b;simp only[Nat.zero_add] at e7;rw[<- e7] at d9;have aa:=h9.setB f9 d9 hs';have m0:mapX c S b=0:=by
   unfold mapX;rw[if_neg (not_not_intro hm),if_neg (by rw[Y,O];decide),if_neg hq,if_neg u]
  refine⟨m0.symm,.inr ⟨by trivial,?_,{a with t:=t',bs:=s'},i,R,rfl,?_,⟨_,_,aa,hl'⟩⟩⟩
  ·have g7:iG w w7 (Ak a):=(xy.fr f7).mono λy hy=>⟨2,.inr hy⟩;have g8:iG w w8 (Ak a):=(g7.ext (Ext.drew _)).trans f8 λy _ hy=>⟨1,hy⟩;exact(g8.ext (Ext.drew _)).trans f9 λy _ hy=>⟨3,.inl hy⟩
  ·rintro z ⟨k,hz⟩;have z7:=f7.size;have z8:=f8.size;have zz:=xy.size;simp only[World.drew] at z8
   match k,hz with
   |0,hz=>exact .inl ⟨0,hz⟩
   |1,.inl hz=>exact .inl ⟨1,.inl hz⟩
   |1,.inr (.inl hz)=>exact .inl ⟨1,.inr (.inl hz)⟩
   |1,.inr (.inr hz)=>exact(ht' z hz).imp (λhz=>⟨1,.inr (.inr hz)⟩) (λhz=>by simp only[World.drew] at hz;simp only[World.drew] at *;omega)
   |2,hz=>exact .inl ⟨2,hz⟩
   |3,.inl hz=>exact .inl ⟨3,.inl hz⟩
   |3,.inr hz=>exact(hs' z hz).imp (λhz=>⟨3,.inr hz⟩) (λhz=>by simp only[World.drew] at *;omega)
   |4,hz=>exact .inl ⟨4,hz⟩
   |(n+5),hz=>exact hz.elim
 clear_value J;have i1:((live 0 S).find? λy=>decide (y.2.i=[b.sw,b.pr,b.ad,b.po])).isSome=aby S b:=rfl;have i2:((live 0 S).find? λy=>decide (y.2.o=[b.opr,b.oad,b.opo])).isSome=YC S b:=rfl;rw[i1,i2]
 cases hh:aby S b
 ·rw[hh,Bool.false_or] at hJ;exact hJ
 ·rw[hh,Bool.true_or] at hJ;exact hJ
end Go.Proofs.XN
end
section
namespace Go.Proofs.XN
open Gp Go.Proofs Go.Proofs.EN
open Gp.Bind (Bnd Slots live GoodB freeN getS In64)
variable {w w':World} {a:XA} {c:Cf} {S:Slots} {SS:Gp.Ses.Slots} {now:Nat} {L:List PN.O3} {Q:List Int}
theorem XL.del (h:XL c S L Q) {i:Nat} {b:Bnd} (hi:S[i]? =some (some b)) (hm:Gw c b)
  (one:∀(j:Nat) (x:Bnd),S[j]? =some (some x)->(x.opr,x.oad,x.opo)=(b.opr,b.oad,b.opo)->j=i):
  QN.zU Q b.sw=(0,Q.set b.sw.toNat (QN.at_ Q b.sw - 1))/\XL c (S.set i none) (L.filter λo=>decide (o≠(b.opr,b.oad,b.opo))) (Q.set b.sw.toNat (QN.at_ Q b.sw - 1)):=by
 obtain⟨s0,s1⟩:=hm.2.2.2.2.2.2;have R:=h.ql;have u:QN.N_ Q b.sw:=⟨s0,by omega⟩;have I:=h.cn _ ⟨s0,s1⟩;have U:¬QN.at_ Q b.sw=0:=by
  rw[I];have:=KY hi b.sw;rw[if_pos rfl] at this;omega
 have J:QN.zU Q b.sw=(0,Q.set b.sw.toNat (QN.at_ Q b.sw - 1)):=by
  unfold QN.zU;rw[if_pos u,if_neg U]
 have N:=QN.Z5 h.qo b.sw;rw[J] at N;have O:∀(j:Nat) (x:Bnd),(S.set i none)[j]? =some (some x)↔j≠i/\S[j]? =some (some x):=by
  intro j x;rw[List.getElem?_set];by_cases hj:i=j
  ·subst hj;simp
  ·have:j≠i:=λh=>hj h.symm;simp[hj,this]
 refine⟨J,⟨λo=> ?_,h.nd.sublist List.filter_sublist,N,by simp[R],λk hk=> ?_,by simp[h.len]⟩⟩
 ·rw[List.mem_filter,h.mem,decide_eq_true_iff];constructor
  ·rintro⟨⟨j,x,hj,hx⟩,ho⟩;exact⟨j,x,(O j x).2 ⟨λe=>by subst e;rw[hi] at hj;cases hj;exact ho hx.symm,hj⟩,hx⟩
  ·rintro⟨j,x,hj,hx⟩;obtain⟨h1,h2⟩:=(O j x).1 hj;exact⟨⟨j,x,h2,hx⟩,λe=>h1 (one j x h2 (hx.trans e))⟩
 ·rw[at_set s0 (by omega) hk.1];have hu:=KY hi k;by_cases hb:b.sw=k
  ·subst hb;simp only[if_true] at hu ⊢;rw[I];omega
  ·simp only[hb,if_false] at hu ⊢;rw[h.cn _ hk];omega
def NoX (SS:Gp.Ses.Slots):Prop:=Gp.Ses.live 0 SS=[]
theorem agq (h:XE w a c S SS now) (hs:NoX SS) {i:Nat} {b:Bnd} (hi:S[i]? =some (some b)) (hm:Gw c b)
  (one:∀(j:Nat) (x:Bnd),S[j]? =some (some x)->(x.opr,x.oad,x.opo)=(b.opr,b.oad,b.opo)->j=i):
  kV (some ⟨a.x,0,none⟩) (i:Int) w λw'=>iG w w' (Ak a)/\∃A,A.x=a.x/\(∀z,Ak A z->Ak a z\/w.heap.size<=z)/\XE w' A c (S.set i none) SS now:=by
 obtain⟨L,Q,hx,hl⟩:=h;obtain⟨I,hl'⟩:=hl.del hi hm one;have J:((live 0 S).find? λy=>y.1==(i:Int)).map (·.2)=some b:=by
  rw[Gp.Bind.acG];exact Gp.Bind.zh.2 ⟨by omega,by rw[toNat_natCast];exact hi⟩
 apply Ky;simp only[sx,hx.c39];refine Ir (RB.aaC hx.db _) ?_;rintro a1 a2 a3 a4 a5 a6 a7 a8 r w1 ⟨rfl,hr,f1⟩;rw[J] at hr;obtain⟨rfl,rfl,rfl,rfl,rfl,rfl,rfl,rfl⟩:=hr;simp only[getD_some];refine iI λt w2 r2 e2 z2 f2=> ?_;refine iJ r2 (by rfl) (by rfl) λw3 r3 f3 z3=> ?_;have x3:Ext w w3:=(f1.trans f2).new (f3 (·=t) rfl) λy hy he=>by have:=f1.size;omega
 have ht:w.heap.size<=t:=by have:=f1.size;omega
 have tlt:∀k,¬own a k t:=λk hk=>by have:=hx.lt k t hk;omega
 have h3:=hx.ext x3;simp only[sx,h3.c40];refine E8 (SN.af9 h3.se _) ?_;rintro r w4 ⟨hb,f4,_⟩;have h0:(Gp.Ses.live 0 SS).filter (λy=>y.2.bd==(i:Int))=[]:=by rw[show Gp.Ses.live 0 SS=[] from hs];rfl
 rw[h0] at hb;have hr0:(r.len:Int)=0:=by rw[hb.len];rfl
 have x4:=x3.trans f4;have h4:=h3.ext f4;have r4:=r3.ext f4;refine iE (λst W=>W=w4/\st.1=0) (λ_ _=>0) ⟨rfl,rfl⟩ ?_;rintro⟨j,_⟩ W ⟨rfl,hj⟩;dsimp only at hj;subst hj;have h5:=h4.ext (Ext.drew W);have r5:=r4.drew;have x5:=x4.trans (Ext.drew W);simp only[hr0,Int.lt_irrefl,decide_false,cond_false,sx,h5.c37,r5.cell];intro _ _;refine NQ (RP.ags h5.pl _ _ _) ?_;rintro r w6 ⟨f6,t',p6,ht'⟩;have h6:=(h5.ajK f6 p6 (λz hz=> .inr (ht' z hz))).ext (Ext.drew w6);have r6:=(r5.fr f6 (tlt 1)).drew;have g6:iG w w6 (Ak a):=(x5.fr f6).mono λy hy=>⟨1,hy⟩;simp only[sx,h6.c38,r6.cell];refine LQ (QN.agt h6.qr hl.qo _) ?_;rintro r w7 ⟨rfl,q7,f7⟩;rw[I] at q7;have h7:=h6.af_ f7 q7;have g7:iG w w7 (Ak a):=(g6.ext (Ext.drew _)).trans f7 λy _ hy=>⟨2,.inr hy⟩;simp only[sx,h7.c39];refine NS (RB.ab4 h7.db _) ?_;rintro r w8 ⟨_,f8,s',d8,hs'⟩;have u:=Gp.Bind.JI S 0 i;simp only[Nat.zero_add] at u;rw[<- u] at d8;have h8:=h7.setB f8 d8 (λz hz=> .inr (hs' z hz));refine⟨g7.trans f8 λy _ hy=>⟨3,.inl hy⟩,{a with t:=t',bs:=s'},rfl,?_,_,_,h8,hl'⟩;rintro z ⟨k,hz⟩;have z6:=f6.size;have z7:=f7.size;have zz:=x5.size
 match k,hz with
 |0,hz=>exact .inl ⟨0,hz⟩
 |1,.inl hz=>exact .inl ⟨1,.inl hz⟩
 |1,.inr (.inl hz)=>exact .inl ⟨1,.inr (.inl hz)⟩
 |1,.inr (.inr hz)=>exact .inr (by have:=ht' z hz;simp only[World.drew] at *;omega)
 |2,hz=>exact .inl ⟨2,hz⟩
 |3,.inl hz=>exact .inl ⟨3,.inl hz⟩
 |3,.inr hz=>exact .inr (by have:=hs' z hz;simp only[World.drew] at *;omega)
 |4,hz=>exact .inl ⟨4,hz⟩
 |(n+5),hz=>exact hz.elim
theorem aep (h:XE w a c S SS now) (hs:NoX SS) {i:Nat} {b:Bnd} (hi:S[i]? =some (some b)) (J:b.st=true) (hm:Gw c b)
  (inn:∀(j:Nat) (x:Bnd),S[j]? =some (some x)->x.i=b.i->j=i)
  (one:∀(j:Nat) (x:Bnd),S[j]? =some (some x)->(x.opr,x.oad,x.opo)=(b.opr,b.oad,b.opo)->j=i):
  nU (some ⟨a.x,0,none⟩) b.sw b.pr b.ad b.po w λr w'=>r=0/\iG w w' (Ak a)/\∃A,A.x=a.x/\(∀z,Ak A z->Ak a z\/w.heap.size<=z)/\XE w' A c (S.set i none) SS now:=by
 obtain⟨L,Q,hx,hl⟩:=id h;have N:((live 0 S).find? λy=>y.1==(i:Int)).map (·.2)=some b:=by
  rw[Gp.Bind.acG];exact Gp.Bind.zh.2 ⟨by omega,by rw[toNat_natCast];exact hi⟩
 have O:(live 0 S).find? (λy=>decide (y.2.i=[b.sw,b.pr,b.ad,b.po]))=some ((i:Int),b):=by
  have I:((live 0 S).find? (λy=>decide (y.2.i=[b.sw,b.pr,b.ad,b.po]))).isSome=true:=by
   rw[List.find?_isSome];obtain⟨h1,_⟩:=Ll hi;exact⟨_,mem_of_getElem? h1,decide_eq_true rfl⟩
  obtain⟨y,hy⟩:=Option.isSome_iff_exists.1 I;rw[hy];have h1:=List.find?_some hy;have h2:=List.mem_of_find?_eq_some hy;obtain⟨v,x⟩:=y;rw[Gp.Bind.lY] at h2;obtain⟨j,hj,hv⟩:=h2;obtain rfl:=inn j x hj (of_decide_eq_true h1);rw[hi] at hj;cases hj;rw[hv,Nat.zero_add]
 apply IQ;refine iI λt w1 r1 e1 z1 f1=> ?_;have h1:=hx.ext (f1.trans (Ext.drew w1));have r1:=r1.drew;simp only[sx,h1.c39,r1.cell];refine AQ (RB.VK h1.db _ _ _ _) ?_;rintro n t1 w2 ⟨rfl,rfl,f2⟩;have x2:=(f1.trans (Ext.drew w1)).trans f2;have h2:=h1.ext f2;simp only[O,map_some,getD_some,isSome_some,sx,h2.c39];refine Ir (RB.aaC h2.db _) ?_;rintro a1 a2 a3 a4 a5 a6 a7 a8 r w3 ⟨rfl,hr,f3⟩;rw[N] at hr;obtain⟨rfl,rfl,rfl,rfl,rfl,rfl,rfl,rfl⟩:=hr;simp only[getD_some];refine iI λu w4 r4 e4 z4 f4=> ?_;refine iJ r4 (by rfl) (by rfl) λw5 r5 f5 z5=> ?_;have x5:Ext w w5:=((x2.trans f3).trans f4).new (f5 (·=u) rfl) λy hy he=>by have:=(x2.trans f3).size;omega
 simp only[Bool.not_true,cond_false,sx,r5.cell,J];refine Ju (agq (h.ext x5) hs hi hm one) ?_;rintro w6 ⟨f6,A,hA,R,h6⟩;exact⟨by trivial,x5.fr f6,A,hA,λz hz=>(R z hz).imp id λh=>Nat.le_trans x5.size h,h6⟩
end Go.Proofs.XN
end
section
namespace Go.Proofs.XN
open Gp Go.Proofs Go.Proofs.EN
open Go.Proofs.CN (SlN_ix)
open Gp.Bind (Bnd Slots live GoodB freeN getS In64)
variable {w w':World} {a:XA} {c:Cf} {S:Slots} {SS:Gp.Ses.Slots} {now:Nat} {L:List PN.O3} {Q:List Int} {B:List (Int×Bnd)} {T:List (Int×Gp.Ses.Ses)}
def RD (S:Slots):Prop:=∀(j:Nat) (b:Bnd),S[j]? =some (some b)->b.st=true
theorem RD.at_ (h:RD S) {j:Nat} {v:Int} {b:Bnd} (hj:(live 0 S)[j]? =some (v,b)):b.st=true:=by
 have h2:=mem_of_getElem? hj;rw[Gp.Bind.lY] at h2;obtain⟨i,hi,_⟩:=h2;exact h i b hi
theorem aej (h:XE w a c S SS now) (hs:NoX SS) (ha:RD S) (k:Int):lN (some ⟨a.x,0,none⟩) k w λr w'=>r=0/\Ext w w':=by
 obtain⟨L,Q,hx,hl⟩:=h;apply IL;simp only[sx,hx.c39,hx.b0];have hlen:=hx.db.buf.len;have hll:=hx.db.len;refine iV RB.jl iW.nil (hx.db.buf.sl RB.jl (by omega)) rfl (by omega) RB.qI (by simp;omega) (by simp;omega) λs w1 b1 f1 n1=> ?_;have x1:Ext w w1:=(Ext.refl w).new f1 λb hb hh=>by obtain⟨o,ho⟩:=hh;cases ho
 rw[nil_append] at b1;have hs1:=b1.sl RB.jl (by omega);have hl1:=b1.len;refine iE (λst W=>∃j:Nat,j<=(live 0 S).length/\st.1=0/\st.2.1=(j:Int)/\Ext w1 W) (λst _=>(live 0 S).length - st.2.1.toNat) ⟨0,by omega,rfl,rfl,Ext.refl _⟩ ?_;rintro⟨n,i,⟨⟩⟩ W ⟨j,hj,hn,hi,hW⟩ next u
 dsimp only at hn hi;subst hn hi;by_cases I:(j:Int)<(s.len:Int);rotate_left
 ·simp only[I,decide_false,cond_false];exact⟨by trivial,x1.trans hW⟩
 have hJ:∀W',Ext w1 W'->next (0,IntKind.i64.wrap ((j:Int)+1),()) W':=by
  intro W' h1;rw[wrap_i64 (by omega) (by omega)];exact u _ _ ⟨j+1,by omega,rfl,by simp,h1⟩ (by simp only;omega)
 simp only[I,decide_true,cond_true];have hg:=getElem?_eq_getElem (show j<(live 0 S).length by omega);generalize (live 0 S)[j]=y at hg;obtain⟨v,b⟩:=y;refine SlN_ix RB.jl (by omega) (hs1.ext hW) (by omega) (by rw[toNat_natCast];exact hg) λad hc=> ?_;have c0:=hc 0 _ rfl;have c1:=hc 1 _ rfl;have c8:=hc 8 _ rfl;simp only[sx,c1];by_cases hk:(b.sw !=k)=true
 ·rw[hk,cond_true];exact hJ W hW
 ·rw[Bool.not_eq_true] at hk;rw[hk,cond_false];refine SlN_ix RB.jl (by omega) (hs1.ext hW) (by omega) (by rw[toNat_natCast];exact hg) λad2 hc2=> ?_;have d0:=hc2 0 _ rfl;have d8:=hc2 8 _ rfl;have st:=ha.at_ hg;simp only[sx,kW,Nat.reduceAdd,d8,st,Bool.not_true,cond_false];have J:=(hx.ext x1).ext (hW.trans (Ext.drew W));simp only[sx,J.c40];refine SlN_ix RB.jl (by omega) (hs1.ext (hW.trans (Ext.drew W))) (by omega) (by rw[toNat_natCast];exact hg) λad3 hc3=> ?_;have e0:W.drew.cell? ad3=some (.int .i64 v):=hc3 0 _ rfl;simp only[sx,e0];refine E8 (SN.af9 J.se _) ?_;rintro r w4 ⟨hb,f4,_⟩;have h0:(Gp.Ses.live 0 SS).filter (λy=>y.2.bd==v)=[]:=by rw[show Gp.Ses.live 0 SS=[] from hs];rfl
  rw[h0] at hb;have hr0:(r.len:Int)=0:=by rw[hb.len];rfl
  refine iE (λst W=>W=w4/\st.1=0) (λ_ _=>0) ⟨rfl,rfl⟩ ?_;rintro⟨z,_⟩ W' ⟨rfl,hz⟩ _ _;dsimp only at hz;subst hz;simp only[hr0,Int.lt_irrefl,decide_false,cond_false];exact hJ _ ((hW.trans (Ext.drew W)).trans f4)
def hop (now:Nat) (t:Int):Nat:=if (if (1099511627776:Int)<t then 1099511627776 else t)>(now:Int) then (if (1099511627776:Int)<t then 1099511627776 else t).toNat else now
theorem ah2 (now:Nat) (t:Int):(if (if (1099511627776:Int)<t then 1099511627776 else t)>(now:Int) then (if (1099511627776:Int)<t then 1099511627776 else t) else (now:Int))=(hop now t:Int):=by
 unfold hop;split<;>split<;>omega
theorem XM.ad_ (h:XM w a c L Q B T now) {n:Nat} (hf:iG w w' (·=a.x)) (hd:Row w' a.x (c.C++[.int .i64 (n:Int),.pointer (some ⟨a.p,0,none⟩),.pointer (some ⟨a.q,0,none⟩),.pointer (some ⟨a.b,0,none⟩),.pointer (some ⟨a.tb,0,none⟩)])):XM w' a c L Q B T n:=by
 have o:∀k z,own a k z->k≠0->¬z=a.x:=λk z hk hn he=>h.off hk hn he;exact⟨h.cf,hd,h.pl.fr hf (λz hz=>o 1 z hz (by decide)),Qp h.qr hf (o 2 _ (.inl rfl) (by decide)) (o 2 _ (.inr rfl) (by decide)),h.db.fr hf (λz hz=>o 3 z hz (by decide)),h.se.fr hf (λz hz=>o 4 z hz (by decide)),h.ap,λk z hz=>Nat.lt_of_lt_of_le (h.lt k z hz) hf.size⟩
theorem aaU (h:XE w a c S SS now) (hs:NoX SS) (ha:RD S) (t:Int):kQ (some ⟨a.x,0,none⟩) t w λr w'=>r=0/\iG w w' (·=a.x)/\XE w' a c S SS (hop now t):=by
 obtain⟨L,Q,hx,hl⟩:=h;apply GK;simp only[sx,hx.c36,ah2];refine iK (i:=36) hx.hd rfl (by simp[hx.cf.len]) λw1 r1 f1' z1=> ?_;have f1:iG w w1 (·=a.x):=f1' _ rfl;have hd1:(c.C++([.int .i64 (now:Int),.pointer (some ⟨a.p,0,none⟩),.pointer (some ⟨a.q,0,none⟩),.pointer (some ⟨a.b,0,none⟩),.pointer (some ⟨a.tb,0,none⟩)]:List Value)).set 36 (.int .i64 (hop now t:Int))=c.C++[.int .i64 (hop now t:Int),.pointer (some ⟨a.p,0,none⟩),.pointer (some ⟨a.q,0,none⟩),.pointer (some ⟨a.b,0,none⟩),.pointer (some ⟨a.tb,0,none⟩)]:=by
  rw[List.set_append_right _ _ (by rw[hx.cf.len];omega),hx.cf.len];rfl
 rw[hd1] at r1;have h1:=hx.ad_ f1 r1;simp only[sx,h1.c40,h1.t0];have hT:Gp.Ses.live 0 SS=[]:=hs;have I:=h1.se.buf.len;rw[hT] at I;have sl0:=h1.se.buf.sl SN.jl (by omega);refine iV SN.jl iW.nil sl0 rfl (by omega) SN.qI (by rw[hT];simp) (by rw[hT];simp) λs w2 b2 f2 n2=> ?_;have x2:Ext w1 w2:=(Ext.refl w1).new f2 λb hb hh=>by obtain⟨o,ho⟩:=hh;cases ho
 rw[nil_append,hT] at b2;have hs0:(s.len:Int)=0:=by rw[b2.len];rfl
 refine iE (λst W=>W=w2/\st.1=0) (λ_ _=>0) ⟨rfl,rfl⟩ ?_;rintro⟨z,_⟩ W' ⟨rfl,hz⟩ _ _;dsimp only at hz;subst hz;have h2:=h1.ext x2;simp only[hs0,Int.lt_irrefl,decide_false,cond_false,sx,h2.c39,h2.b0];have hlen:=h2.db.buf.len;have hll:=h2.db.len;refine iV RB.jl iW.nil (h2.db.buf.sl RB.jl (by omega)) rfl (by omega) RB.qI (by simp;omega) (by simp;omega) λs3 w3 b3 f3 n3=> ?_;have x3:Ext w1 w3:=x2.trans ((Ext.refl W').new f3 λb hb hh=>by obtain⟨o,ho⟩:=hh;cases ho);rw[nil_append] at b3;have hs3:=b3.sl RB.jl (by omega);have hl3:=b3.len;refine iE (λst W=>∃j:Nat,j<=(live 0 S).length/\st.1=0/\st.2.1=(j:Int)/\Ext w3 W) (λst _=>(live 0 S).length - st.2.1.toNat) ⟨0,by omega,rfl,rfl,Ext.refl _⟩ ?_;rintro⟨n,i,⟨⟩⟩ W ⟨j,hj,hn,hi,hW⟩ next u
 dsimp only at hn hi;subst hn hi;by_cases J:(j:Int)<(s3.len:Int);rotate_left
 ·simp only[J,decide_false,cond_false];exact⟨by trivial,f1.ext (x3.trans hW),_,_,h1.ext (x3.trans hW),hl⟩
 simp only[J,decide_true,cond_true];have hg:=getElem?_eq_getElem (show j<(live 0 S).length by omega);generalize (live 0 S)[j]=y at hg;obtain⟨v,b⟩:=y;have hK:next (0,IntKind.i64.wrap ((j:Int)+1),()) W.drew:=by
  rw[wrap_i64 (by omega) (by omega)];exact u _ _ ⟨j+1,by omega,rfl,by simp,hW.trans (Ext.drew W)⟩ (by simp only;omega)
 refine SlN_ix RB.jl (by omega) (hs3.ext (hW.trans (Ext.drew W))) (by omega) (by rw[toNat_natCast];exact hg) λad hc=> ?_;have c8:=hc 8 _ rfl;have st:=ha.at_ hg;simp only[sx,kW,Nat.reduceAdd,c8,st,Bool.not_true,cond_false];exact hK
end Go.Proofs.XN
end
section
namespace Go.Proofs.EN
open Gp Go.Proofs Go.Proofs.XN
open Gp.Bind (Bnd Slots live GoodB freeN getS In64)
variable {w w':World} {a:EA} {c:Cf} {e:ES}
theorem ZN (h:wQ w a c e) (hl:e.l=[]) (t:Int):kX (some ⟨a.x,0,none⟩) t w λr w'=>r=0/\iG w w' (GU a)/\
  ∃ss wn F,(∀x,WN.pz a.d a.m ss x->WN.pz a.d a.m a.ss x\/w.heap.size<=x)/\wQ w' {a with ss:=ss} c {e with now:=hop e.now t,l:=[],wn:=wn,F:=F}:=by
 apply Ia;refine lV (DN h) ?_;rintro r w1 ⟨rfl,hw⟩;subst hw;simp only[Bool.not_true,cond_false,sx,h.c41,ah2];refine iK (i:=41) h.hd rfl (by simp[h.cf.len]) λw2 r2 f2' z2=> ?_;have f2:iG w1 w2 (·=a.x):=f2' _ rfl;have hd2:(([.pointer (some ⟨a.p,0,none⟩),.pointer (some ⟨a.qb,0,none⟩),.pointer (some ⟨a.B.d,0,none⟩),.pointer (some ⟨a.T.d,0,none⟩),.pointer (some ⟨a.d,0,none⟩)]:List Value)++c.C++([.int .i64 (e.now:Int)]:List Value)).set 41 (.int .i64 (hop e.now t:Int))=([.pointer (some ⟨a.p,0,none⟩),.pointer (some ⟨a.qb,0,none⟩),.pointer (some ⟨a.B.d,0,none⟩),.pointer (some ⟨a.T.d,0,none⟩),.pointer (some ⟨a.d,0,none⟩)]:List Value)++c.C++([.int .i64 (hop e.now t:Int)]:List Value):=by
  rw[List.set_append_right _ _ (by simp[h.cf.len]),length_append,h.cf.len];rfl
 rw[hd2] at r2;have h2:=(h.ad_ f2 r2).ext (Ext.drew w2);simp only[sx,h2.c4,h2.c41];refine oU (WN.Fp h2.wh (hop e.now t:Int) rfl) ?_;rintro r w3 ⟨f3,D,_,hD,hr,_,ss,l',F,ws,hl',_,u,_⟩;have hD0:D=[]:=by
  cases D with
  |nil=>rfl
  |cons x D=>
   have:=((hD x).1 (by simp)).1;rw[show ({e with now:=hop e.now t}:ES).l=[] from hl] at this
   cases this
 subst hD0;have hl0:l'=[]:=by
  cases l' with
  |nil=>rfl
  |cons x l'=>
   have:=(hl' x.1 x.2).1 (by unfold kT;rw[if_pos rfl]);rw[show ({e with now:=hop e.now t}:ES).l=[] from hl] at this
   cases this.1
 subst hl0;have hr0:(r.len:Int)=0:=by rw[hr.len];rfl
 have hw2:w2.drew.heap.size=w1.heap.size:=z2;have h3:=h2.setW f3 ws λx hx=>u x hx;refine iE (λst W=>W=w3/\st.1=0/\st.2.1=0) (λ_ _=>0) ⟨rfl,rfl,rfl⟩ ?_;rintro⟨y,z,_⟩ W' ⟨rfl,hy,hz⟩ _ _;dsimp only at hy hz;subst hy hz;simp only[hr0,Int.lt_irrefl,decide_false,cond_false];refine⟨by trivial,((f2.mono λy hy=>⟨0,hy⟩).ext (Ext.drew _)).trans f3 λy _ hy=>⟨5,hy⟩,ss,_,F,λx hx=>(u x hx).imp id λh=>by omega,h3⟩
def ofB (S:Slots) (k:Int):List (Int×Bnd):=(live 0 S).filter λx=>x.2.sw==k
theorem Xq {α:Type} {p:α->Bool}:∀{l:List α} {i:Nat} {x:α},l[i]? =some x->p x=true->(l.filter p)[((l.take i).filter p).length]? =some x
 |[],_,_,h,_=>by simp at h
 |y::l,0,x,h,hp=>by simp at h;subst h;simp[hp]
 |y::l,i+1,x,h,hp=>by
  have:=Xq (l:=l) (i:=i) (by simpa using h) hp;rw[List.take_succ_cons];by_cases hy:p y=true
  ·simp only[filter_cons,hy,if_true,length_cons,List.getElem?_cons_succ];exact this
  ·simp only[filter_cons,hy];exact this
theorem ae9 (c:Cf) (e:ES) (a:EA) (f0 f1:Nat) (k:Int):
  OV Tryz.prog [.one (.int .i64),.agg [(.int .i64),(.int .i64),(.int .i64),(.int .i64),(.int .i64),(.int .i64),(.int .i64),.bool]] (Value.func (.func Ep) #[] #[(Value.pointer (some ⟨f0,0,none⟩)),(Value.pointer (some ⟨f1,0,none⟩))])
   (λW=>Row W f0 [.pointer (some ⟨a.x,0,none⟩)]/\Row W f1 [.int .i64 k]/\wQ W a c e) (yD (ofB e.S k)):=by
 refine⟨by kernel_rfl,λn w Q D hC hQ hD hy h0=> ?_⟩;refine Calls.mono (MH (a0:= .func (.yield n) #[] #[]) (f0:=⟨f0,0,none⟩) (f1:=⟨f1,0,none⟩) (K:=λw'=>Q (yD (ofB e.S k)).length w'\/D w') ?_) (λe w' h=>h);have up:∀{i W W'},Q i W->Ext W W'->Q i W':=λhq hx=>hQ _ _ _ hq (hx _);refine⟨rfl,?_⟩;refine iI λt w2 r2 e2 z2 f2=> ?_;have q2:=up h0 f2;obtain⟨g0,g1,h⟩:=hC _ _ q2;simp only[sx,g0.cell,h.c2];refine acA a.B.d w2 λf w5 r5 e5 z5 f5=> ?_;have q5:=up q2 f5;have hla:mV none w5=w5.heap.size+1:=rfl;have t5:=r2.ext f5;have I:∀l,(yD l).length=l.length:=λl=>by simp[yD]
 rw[I];refine CQ (Go.Proofs.O5 c.nb.toNat e.S e.Mi e.Mo a.B f) (λi X=>Q (((live 0 e.S).take i).filter λx=>x.2.sw==k).length X/\Row X f [.pointer (some ⟨a.B.d,0,none⟩)]/\Row X t [.func (.yield n) #[] #[]])
  (λx X=>x= .ret/\D X) (by simp) ?_ ?_ ?_ ?_ (λx W h=> .inl h.1) ?_ ?_ ?_ (by intro id W h;exact absurd h.1 (by simp))
 ·intro X hX hz;exact⟨by simpa using up q5 hX,r5.ext hX,t5.ext hX⟩
 ·rintro i X ⟨hq,hf,_⟩;exact⟨hf,(hC _ _ hq).2.2.db⟩
 ·rintro i X X' ⟨hq,hf,ht⟩ hx;exact⟨hQ _ _ _ hq (hx.mono λb hb=>by omega),hf.fr hx (by omega),ht.fr hx (by omega)⟩
 ·rintro x X X' ⟨hx,hd⟩ hf;exact⟨hx,hD _ _ hd (hf.mono λb hb=>by omega)⟩
 ·rintro i x X Kb hx ⟨hq,hf,ht⟩ N hk hk2;rw[show yD (live 0 e.S)=(live 0 e.S).map _ from rfl,getElem?_map] at hx
  cases hb:(live 0 e.S)[i]? with
  |none=>rw[hb] at hx;simp at hx
  |some p=>
  rw[hb] at hx;simp only[map_some,Option.some.injEq] at hx;subst hx;refine iI λu w6 r6 e6 z6 f6=> ?_;refine iJ r6 rfl rfl λw7 r7 f7' z7=> ?_;have x7:Ext X w7:=f6.new (f7' (·=u) rfl) λy hy e=>by omega
  refine⟨(x7 λ_=>False).same _ N (by simp),?_⟩;have fb:=iG.iD w7 (mV none w5);have hX7:=x7.size;have zb:(iD w7 (mV none w5)).heap.size=w7.heap.size:=by simp[iD]
  have q8:Q _ (iD w7 (mV none w5)):=hQ _ _ _ (up hq x7) (fb.mono λb hb=>by omega);have u8:=r7.fr fb (by omega);have t8:=(ht.ext x7).fr fb (by omega);have k8:=(hf.ext x7).fr fb (by omega);obtain⟨_,g1,_⟩:=hC _ _ q8;have base:iG (iD X (mV none w5)) (iD w7 (mV none w5)) (·<w.heap.size):=CN.zu (x7 _) _;simp only[sx,u8.cell,g1.cell];have J:=EN.take_succ hb;by_cases hs:(p.2.sw==k)=true
  ·rw[hs,cond_true];have hf1:((live 0 e.S).take (i+1)).filter (λx=>x.2.sw==k)=((live 0 e.S).take i).filter (λx=>x.2.sw==k)++[p]:=by
    rw[J,filter_append,filter_cons,hs];rfl
   simp only[sx,t8.cell,u8.cell];refine oW (hy _ (p.1,(p.2.sw,p.2.pr,p.2.ad,p.2.po,p.2.opr,p.2.oad,p.2.opo,p.2.st,()),()) _ _ ?_ q8 ?_ ?_)
   ·rw[show yD (ofB e.S k)=(ofB e.S k).map _ from rfl,getElem?_map,show (ofB e.S k)[_]? =_ from Xq hb hs];rfl
   ·intro W' hq' hf';refine⟨true,rfl,?_⟩;simp only[Bool.not_true,cond_false];refine hk _ _ (base.trans hf' λy _ hy=>hy) (λb h1 h2 h3=>by omega) ⟨?_,k8.fr hf' (by omega),t8.fr hf' (by omega)⟩;rw[hf1,length_append];exact hq'
   ·intro W' hd hf';refine⟨false,rfl,?_⟩;simp only[Bool.not_false,cond_true];exact hk2 _ _ _ (base.trans hf' λy _ hy=>hy) (λb h1 h2 h3=>by omega) ⟨rfl,hd⟩
  ·rw[Bool.not_eq_true] at hs;rw[hs,cond_false];have hf1:((live 0 e.S).take (i+1)).filter (λx=>x.2.sw==k)=((live 0 e.S).take i).filter (λx=>x.2.sw==k):=by
    rw[J,filter_append,filter_cons,hs];simp
   refine hk _ _ base (λb h1 h2 h3=>by omega) ⟨by rw[hf1];exact q8,k8,t8⟩
 ·rintro W ⟨hq,_,_⟩ hm;rw[I,List.take_length] at hq;exact⟨hm rfl,.inl (hQ _ _ _ hq ((iG.kU W _ _).mono λb hb=>by omega))⟩
 ·rintro W ⟨_,hd⟩ hm;exact⟨hm rfl,.inr (hD _ _ hd ((iG.kU W _ _).mono λb hb=>by omega))⟩
theorem ait (w:World) (x:Nat) (k:Int):rV (some ⟨x,0,none⟩) k w λv w'=>Ext w w'/\∃f0 f1,v=Value.func (.func Ep) #[] #[(Value.pointer (some ⟨f0,0,none⟩)),(Value.pointer (some ⟨f1,0,none⟩))]/\Row w' f0 [.pointer (some ⟨x,0,none⟩)]/\Row w' f1 [.int .i64 k]:=by
 apply Qd;refine⟨rfl,?_⟩;refine iI λf0 w1 r1 e1 z1 g1=>⟨rfl,?_⟩;refine iI λf1 w2 r2 e2 z2 g2=> ?_;exact⟨g1.trans g2,f0,f1,rfl,r1.ext g2,r2⟩
theorem adG (h:wQ w a c e) (hs:NoS e) (ha:RD e.S) (k:Int):m_ (some ⟨a.x,0,none⟩) k w λr w'=>r=0/\Ext w w':=by
 apply JX;refine⟨rfl,?_⟩;refine iI λp w1 r1 e1 z1 f1=> ?_;have h1:=h.ext f1;simp only[sx,r1.cell];refine lV (DN h1) ?_;rintro r w1 ⟨rfl,hw⟩;subst hw;simp only[Bool.not_true,cond_false];refine iI λq w2 r2 e2 z2 f2=> ?_;refine iK r2 rfl (by simp) λw3 r3 f3' z3=> ?_;have f3:iG w2 w3 (·=q):=f3' _ rfl;simp only[List.set_cons_zero] at r3;have x3:Ext w w3:=(f1.trans f2).new f3 λy hy e=>by omega
 have p3:=(r1.ext f2).fr f3 (by omega);simp only[sx,p3.cell];refine Pe (ait w3 a.x k) ?_;rintro v w4 ⟨f4,g0,g1,rfl,t0,t1⟩;have h4:=h.ext (x3.trans f4);have p4:=p3.ext f4;have q4:=r3.ext f4;have x4:=x3.trans f4;have hla:mV none w4=w4.heap.size+1:=rfl;have z4:=x4.size;refine Rz (ae9 c e a g0 g1 k) (λ_ W=>Ext w4 W) (λ_ _=>False) (by simp) (λW f _=>f) ?_ ?_ (by intro e W W' h;exact h.elim) (by intro e W h;exact h.elim) ?_ ?_ (by intro W h;exact h.elim) (by intro id W h;exact h.elim)
 ·intro i W hx;exact⟨t0.ext hx,t1.ext hx,h4.ext hx⟩
 ·intro i W W' hx hf;exact(hx.fr hf).new λb hb he=>by omega
 ·intro i x W Kb hx hW J hk _;rw[show yD (ofB e.S k)=(ofB e.S k).map _ from rfl,getElem?_map] at hx
  cases hb:(ofB e.S k)[i]? with
  |none=>rw[hb] at hx;simp at hx
  |some y=>
  rw[hb] at hx;simp only[map_some,Option.some.injEq] at hx;subst hx;have I:=(List.mem_filter.1 (mem_of_getElem? hb)).1;obtain⟨j,hj⟩:=List.getElem?_of_mem I;have st:y.2.st=true:=ha.at_ (v:=y.1) (b:=y.2) hj;refine iI λu w6 r6 e6 z6 f6=> ?_;refine iJ r6 rfl rfl λw7 r7 f7' z7=> ?_;have x7:Ext W w7:=f6.new (f7' (·=u) rfl) λy hy e=>by omega
  refine⟨(x7 λ_=>False).same _ J (by simp),?_⟩;have fb:=iG.iD w7 (mV none w4);have hX7:=x7.size;have u8:=r7.fr fb (by omega);have xb:Ext w4 (iD w7 (mV none w4)):=((hW.trans x7).fr fb).new λb hb he=>by omega
  have p8:=p4.ext xb;simp only[sx,u8.cell,st,cond_true,p8.cell];refine Cb (Zx (h4.ext xb) (hs.of _)) ?_;intro w9 f9;exact hk _ (λ_=>False) ((CN.zu (x7 _) _).trans (f9 _) λy _ hy=>hy) (λb h=>h.elim) (xb.trans f9)
 ·intro W hW hm;have q9:=q4.ext hW;simp only[sx,q9.cell];refine⟨hm rfl,by trivial,?_⟩;exact((x4.trans hW).fr (iG.kU W w4.heap.size _)).new λb hb he=>by omega
end Go.Proofs.EN
end
