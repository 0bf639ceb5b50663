import Derived.Test.YtdmbjlliegbpcaaGreatDoorW6
import Derived.Test.YtdmbjlliegbpcaaGreatDoorW3
import Derived.Test.YtdmbjlliegbpcaaGreatDoorW2
open List (append_assoc filter_append flatMap_cons getElem?_append_right getElem?_eq_getElem getElem?_replicate getElem?_set length_append length_map length_singleton length_take mem_cons replicate_succ)
open Int (toNat_natCast)
open Option (isSome_none isSome_some map_some)
set_option maxRecDepth 100000
section
namespace Go.Proofs.SN
open Gp Gp.Hash
open Gp.Ses (Ses Slots live GoodS freeN getS ids)
open Gp.Bind (In64)
section
variable {w w':θ} {A:Qm} {most:Nat} {S:Slots} {M:ByteArray->Option Int}
abbrev yK:List Shape:=[.one ν,.agg [ν,ν,ν,ν,ν]]
def yS (L:List (Int×Ses)):List (yu yK):=L.map λx=>(x.1,(x.2.bd,x.2.st,x.2.un,x.2.ra,x.2.rp,()),())
theorem lJ:∀(S T:Slots) (k:Nat),live k (S++T)=live k S++live (k+S.length) T
 |[],T,k=>by simp[live]
 |none::r,T,k=>by rw[List.cons_append,live,live,lJ r T (k+1)];simp;congr 1;omega
 |some b::r,T,k=>by rw[List.cons_append,live,live,lJ r T (k+1)];simp;congr 1;omega
theorem Xq {S:Slots} {i:Nat} {b:Ses} (h:S[i]? =some (some b)):(live 0 S)[(live 0 (S.take i)).length]? =some ((i:Int),b)/\(live 0 (S.take (i+1))).length=(live 0 (S.take i)).length+1:=by
 have u:=(List.getElem?_eq_some_iff.1 h).1;have hS:S[i]=some b:=by rw[getElem?_eq_getElem u] at h;simpa using h
 have e1:S=S.take i++some b::S.drop (i+1):=by
  conv=>lhs;rw[<- List.take_append_drop i S,List.drop_eq_getElem_cons u,hS]
 have hl:(S.take i).length=i:=by simp;omega
 constructor
 ·conv=>lhs;rw[e1]
  rw[lJ,getElem?_append_right (by simp[hl])];simp[live,hl]
 ·rw[List.take_succ_eq_append_getElem u,hS,lJ];simp[live]
theorem Ov {S:Slots} {i:Nat} (h:S[i]? =some none):(live 0 (S.take (i+1))).length=(live 0 (S.take i)).length:=by
 have u:=(List.getElem?_eq_some_iff.1 h).1;have hS:S[i]=none:=by rw[getElem?_eq_getElem u] at h;simpa using h
 rw[List.take_succ_eq_append_getElem u,hS,lJ];simp[live]
theorem adC (most:Nat) (S:Slots) (M:ByteArray->Option Int) (A:Qm) (f0:Nat):
  oP υ yK (Value.func (.func wK) #[] #[(Value.pointer (some ⟨f0,0,none⟩))])
   (λW=>Row W f0 [.pointer (some ⟨A.d,0,none⟩)]/\TA W A most S M) (yS (live 0 S)):=by
 refine⟨by kernel_rfl,λn Q D hC hQ hD hy w h0=> ?_⟩;refine Calls.mono (EW (a0:= .func (.yield n) #[] #[]) (f0:=⟨f0,0,none⟩) (K:=λw'=>Q (yS (live 0 S)).length w'\/D w') ?_) (λe w' h=>h);obtain⟨r0,h⟩:=hC _ _ h0;have hl:=h.len;have hm:=h.mx;simp only[sx,r0.cell];refine cmS0 (zH h) ?_;rintro _ w2 ⟨rfl,hw⟩;subst hw;simp only[sx,Bool.not_true,r0.cell,h.hd.cell];have J:(yS (live 0 S)).length=(live 0 S).length:=by simp[yS]
 rw[J];refine gX (λst W=>∃i:Nat,i<=most/\st.1=(i:Int)/\Q (live 0 (S.take i)).length W) (λst _=>most - st.1.toNat) ⟨0,by omega,rfl,by simpa [live] using h0⟩ ?_;rintro⟨x,⟨⟩⟩ W ⟨i,hi,rfl,hq⟩ next I
 obtain⟨r0,h⟩:=hC _ _ hq;by_cases hlt:i<most
 ·have u:((i:Int)<(most:Int)):=by omega
  have hS:S[i]? =some S[i]:=getElem?_eq_getElem (by omega);generalize S[i]=o at hS;have c:∀j,j<6->_:=h.slot hS;have c0:=c 0 (by omega);have c1:=c 1 (by omega);have c2:=c 2 (by omega);have c3:=c 3 (by omega);have c4:=c 4 (by omega);have c5:=c 5 (by omega);simp only[Nat.add_zero] at c0
  cases o with
  |none=>
   simp only[u,decide_true,cond_true,d_,f_,gJ,iY,toNat_natCast,c0,c1,c2,c3,c4,c5,iR];refine⟨by omega,by trivial,DX rfl rfl λp w3 r3 e3 z3 f3=> ?_⟩;simp only[sx,r3.cell];rw[Α];refine I _ _ ⟨i+1,by omega,by simp,?_⟩ (by simp only;omega);rw[Ov hS];exact hQ _ _ _ hq f3
  |some b=>
   simp only[u,decide_true,cond_true,d_,f_,gJ,iY,toNat_natCast,c0,c1,c2,c3,c4,c5,iR];refine⟨by omega,by trivial,DX rfl rfl λp w3 r3 e3 z3 f3=> ?_⟩;simp only[sx,r3.cell];obtain⟨g1,g2⟩:=Xq hS;refine kR (hy (live 0 (S.take i)).length ((i:Int),(b.bd,b.st,b.un,b.ra,b.rp,()),()) w3 _ ?_ (hQ _ _ _ hq f3) ?_ ?_)
   ·simp only[yS,List.getElem?_map,g1,map_some]
   ·intro W' hq';refine⟨true,rfl,?_⟩;simp only[Bool.not_true,cond_false];rw[Α];exact I _ _ ⟨i+1,by omega,by simp,by rw[g2];exact hq'⟩ (by simp only;omega)
   ·intro W' hd;refine⟨false,rfl,?_⟩;simp only[Bool.not_false,cond_true];exact .inr hd
 ·have u:¬((i:Int)<(most:Int)):=by omega
  simp only[u,decide_false,cond_false];rw[List.take_of_length_le (by omega)] at hq;exact .inl hq
def Uh (S:Slots) (k:Int):List (Int×Ses):=(live 0 S).filter λx=>x.2.bd==k
theorem abo (S:Slots) (k:Int):(Uh S k).map (·.1)=ids S k:=rfl
theorem Ij {α β:Type} {enc:α->Value} {ev:β->Value} {w:θ} {K:Addr->b_} (h:∀w1,pY enc ev w1 w.heap.size []->w1.heap.size=w.heap.size+1->Ext w w1->K ⟨w.heap.size,0,none⟩ w1):Al w (.map #[] 0) K:=
 h _ (pY.new w enc ev) (by simp) (λS=>gW.alloc w _ S)
theorem agP (n:Int) (w:θ):Ce n w λp e w'=>Ext w w'/\((¬(0<=n/\n<=4096)/\p=none/\e=1)\/(0<=n/\n<=4096/\e=0/\∃A,p=some ⟨A.d,0,none⟩/\(∀x,fp A x->w.heap.size<=x)/\TA w' A n.toNat (List.replicate n.toNat none) (λ_=>none))):=by
 apply Tz;by_cases c1:n<0
 ·simp only[c1,decide_true,cond_true];exact⟨Ext.refl _,.inl ⟨by omega,by trivial,by trivial⟩⟩
 by_cases c2:n>4096
 ·simp only[c1,c2,decide_true,decide_false,cond_true,cond_false];exact⟨Ext.refl _,.inl ⟨by omega,by trivial,by trivial⟩⟩
 simp only[c1,c2,decide_false,cond_false];refine cmS6 (Xk n w) ?_;rintro p1 e1 w1 ⟨f1,(⟨_,_,rfl,ti,rfl,l1,t1⟩|⟨hbad,_,_⟩)⟩;rotate_left
 ·omega
 simp only[show ((0:Int) !=0)=false from rfl,cond_false];refine Dc (by omega) (by omega) (by omega) (by omega) λsl w3 r3 e3 z3 f3=> ?_;refine Ij (enc:=encI) (ev:=slV) λw4 m4 z4 f4=> ?_;refine gq λd w5 r5 e5 z5 f5=> ?_;obtain⟨m,rfl⟩:∃m:Nat,n=(m:Int):=⟨n.toNat,by omega⟩;simp only[toNat_natCast] at r3 r5 ⊢;have f1:Ext w w1:=f1;have f3:Ext w1 w3:=f3;have x5:Ext w w5:=(f1.trans f3).trans (f4.trans f5);have i1:=t1.ht.hd.lt;have s1:=f1.size;have tV:∀(k j:Nat),live j (List.replicate k none)=[]:=by
  intro k
  induction k with
  |zero=>intro j;rfl
  |succ k ih=>intro j;rw[replicate_succ,live];exact ih _
 have ids_rep:∀k j,ids (List.replicate k none) j=[]:=λk j=>by unfold ids;rw[tV];rfl
 have rep:∀k,gZ [Β 0,Β 0,Β 0,Β 0,Β 0,Value.bool false] k=(List.replicate k (none:Option Ses)).flatMap iR:=by
  intro k
  induction k with
  |zero=>rfl
  |succ k ih=>rw[gZ,ih,replicate_succ,flatMap_cons];rfl
 have noB:∀x,¬ownB [] x:=λx ⟨k,s,hk,_⟩=>by cases hk
 refine⟨x5,.inr ⟨by omega,by omega,by trivial,⟨d,sl,ti,ti,w3.heap.size,[]⟩,rfl,?_,?_⟩⟩
 ·intro x hx;rcases hx with hx|hx|hx|hx|hx|hx
  ·simp only at hx;omega
  ·simp only at hx;omega
  ·simp only at hx;omega
  ·simp only at hx;omega
  ·simp only at hx;omega
  ·exact absurd hx (noB x)
 ·refine⟨?_,?_,by simp,by omega,⟨[],?_,?_⟩,⟨?_,?_,?_,?_,?_,?_⟩,⟨λk v=> ?_,λj b hb=> ?_⟩,⟨?_,λx hx=>absurd hx (noB x)⟩⟩
  ·rw[tV];exact r5
  ·rw[<- rep];exact(r3.ext f4).ext f5
  ·exact t1.VF (f3.trans (f4.trans f5))
  ·rw[tV];rfl
  ·exact pY.ext (m4) f5
  ·simp
  ·intro k s hk;cases hk
  ·intro k _;exact ids_rep _ _
  ·intro k k' s s' b _ hk;cases hk
  ·intro b hb;exact absurd hb (noB b)
  ·constructor
   ·intro h;cases h
   ·rintro⟨j,b,hj,_⟩;rw[getElem?_replicate] at hj;split at hj<;>simp at hj
  ·rw[getElem?_replicate] at hb;split at hb<;>simp at hb
  ·refine⟨?_,?_,?_,?_,?_,?_,?_,?_,?_⟩<;>simp only<;>omega
end
end Go.Proofs.SN
end
section
namespace Go.Proofs.QN
open Gp
def EZ (m:Int) (x:Int):List Value:=[Β x,Β m]
structure QOk (l:List Int) (m:Int):Prop where
 lo:∀x∈l,0<=x/\x<=m
 m0:0<=m
 m1:m<=4096
 len:l.length<=64
structure QR (w:θ) (b s:Nat) (l:List Int) (m:Int):Prop where
 hd:Row w b [.slice (some ⟨s,0,none⟩) l.length l.length]
 row:Row w s (l.flatMap (EZ m))
 ne:b≠s
theorem QR.fr {w w':θ} {b s:Nat} {l:List Int} {m:Int} {S:Nat->Prop} (h:QR w b s l m) (hf:gW w w' S) (h1:¬S b) (h2:¬S s):QR w' b s l m:=⟨h.hd.fr hf h1,h.row.fr hf h2,h.ne⟩
def ϸ (l:List Int) (i:Int):Prop:=0<=i/\i<(l.length:Int)
instance (l:List Int) (i:Int):Decidable (ϸ l i):=inferInstanceAs (Decidable (_/\_))
def at_ (l:List Int) (i:Int):Int:=l.getD i.toNat 0
def DV (l:List Int) (m i:Int):Int×List Int:=
 if ϸ l i then (if at_ l i>=m then (10,l) else (0,l.set i.toNat (at_ l i+1))) else (1,l)
def CO (l:List Int) (i:Int):Int:=if ϸ l i then at_ l i else 0
theorem WE {l:List Int} {i:Int} (h:ϸ l i):l[i.toNat]? =some (at_ l i):=by
 obtain⟨h0,h1⟩:=h;have:i.toNat<l.length:=by omega
 simp[at_,this]
theorem at_mem {l:List Int} {i:Int} (h:ϸ l i):at_ l i∈l:=List.mem_of_getElem? (WE h)
theorem uP (m x:Int):(EZ m x).length=2:=rfl
theorem QR.cell0 {w:θ} {b s:Nat} {l:List Int} {m i:Int} (h:QR w b s l m) (hi:ϸ l i):w.cell? ⟨s,i.toNat * 2,none⟩=some (Β (at_ l i)):=by
 rw[h.row.cell,<- Nat.add_zero (i.toNat * 2),flat_get _ 2 (uP m) _ _ 0 (by omega),WE hi];rfl
theorem QR.cell1 {w:θ} {b s:Nat} {l:List Int} {m i:Int} (h:QR w b s l m) (hi:ϸ l i):w.cell? ⟨s,i.toNat * 2+1,none⟩=some (Β m):=by
 rw[h.row.cell,flat_get _ 2 (uP m) _ _ 1 (by omega),WE hi];rfl
theorem QR.set {w w1:θ} {b s:Nat} {l:List Int} {m i y:Int} (h:QR w b s l m) (hi:ϸ l i) (hr:Row w1 s ((l.flatMap (EZ m)).set (i.toNat * 2) (Β y))) (hf:gW w w1 (·=s)):
  QR w1 b s (l.set i.toNat y) m:=by
 refine⟨by simpa using h.hd.fr hf h.ne,?_,h.ne⟩;rw[<- Nat.add_zero (i.toNat * 2),Gz _ 2 (uP m) _ _ 0 (at_ l i) y _ (by omega) (WE hi) rfl] at hr;exact hr
theorem SC {w:θ} {b s:Nat} {l:List Int} {m:Int} (h:QR w b s l m) (i:Int):
  rD (some ⟨b,0,none⟩) i w λp e w'=>w'=w/\((ϸ l i/\e=0/\p=some ⟨s,i.toNat * 2,none⟩)\/(¬ϸ l i/\e=1/\p=none)):=by
 apply Np;simp only[sx,h.hd.cell];by_cases h1:i<0
 ·have:¬ϸ l i:=λx=>by have:=x.1;omega
  simp[h1,this]
 ·by_cases h2:i>=(l.length:Int)
  ·have:¬ϸ l i:=λx=>by have:=x.2;omega
   simp[h1,h2,this]
  ·have:ϸ l i:=⟨by omega,by omega⟩;simp[h1,h2,this,this.1,this.2]
theorem Qx (x m:Int) (w:θ):uH x m w λr w'=>r=decide (x>=m)/\∀S,gW w w' S:=by
 apply Jw;refine uo λa w1 hr _ _ hf=> ?_;simp only[sx,hr.cell];exact⟨trivial,hf⟩
theorem NG {w:θ} {b s:Nat} {l:List Int} {m:Int} (h:QR w b s l m) (hq:QOk l m) (i:Int):
  pI (some ⟨b,0,none⟩) i w λe w'=>e=(DV l m i).1/\QR w' b s (DV l m i).2 m/\gW w w' (·=s):=by
 apply Jv;refine cmS6 (SC h i) ?_;rintro p e w' ⟨rfl,⟨hi,rfl,rfl⟩|⟨hi,rfl,rfl⟩⟩
 ·have hx:=hq.lo _ (at_mem hi);have hm:=hq.m1;simp only[sx,bne_self_eq_false,h.cell0 hi,h.cell1 hi];refine cmS0 (Qx _ _ _) ?_;rintro r w1 ⟨rfl,hf⟩;have h1:=h.fr (hf λ_=>False) (by simp) (by simp);by_cases u:at_ l i>=m
  ·simp only[u,decide_true,cond_true];simp only[DV,hi,u,if_true];exact⟨by trivial,h1,hf _⟩
  ·simp only[u,decide_false,cond_false,f_,gJ,h1.cell0 hi];have hw:ο.wrap (at_ l i+1)=at_ l i+1:=Α;rw[hw];refine g_ h1.row rfl ?_ λw2 hr2 hf2 _=> ?_
   ·rw[jo _ 2 (uP m)];have:=hi.1;have:=hi.2;omega
   ·simp only[DV,hi,u,if_true,if_false];exact⟨by trivial,h1.set hi hr2 (hf2 (·=s) rfl),(hf _).trans (hf2 (·=s) rfl) λ_ _ e=>e⟩
 ·simp only[DV,hi,if_false];exact⟨by trivial,h,gW.refl _ _⟩
theorem YT {w:θ} {b s:Nat} {l:List Int} {m:Int} (h:QR w b s l m) (i:Int):
  nS (some ⟨b,0,none⟩) i w λn w'=>n=CO l i/\w'=w:=by
 apply Hr;refine cmS6 (SC h i) ?_;rintro p e w' ⟨rfl,⟨hi,rfl,rfl⟩|⟨hi,rfl,rfl⟩⟩
 ·simp only[sx,bne_self_eq_false,h.cell0 hi,CO,hi,if_true,and_self]
 ·simp only[CO,hi,if_false];exact⟨by trivial,by trivial⟩
theorem aem (m x:Int) (n:Nat):(List.replicate n x).flatMap (EZ m)=gZ (EZ m x) n:=by
 induction n with
 |zero=>rfl
 |succ n ih=>simp[replicate_succ,gZ,ih]
def Sm (n m:Int):Prop:=1<=n/\n<=64/\0<=m/\m<=4096
instance (n m:Int):Decidable (Sm n m):=inferInstanceAs (Decidable (_/\_))
theorem agp {n m:Int} (h:Sm n m):QOk (List.replicate n.toNat 0) m:=by
 obtain⟨h1,h2,h3,h4⟩:=h;refine⟨λx hx=> ?_,h3,h4,by simp;omega⟩;have:=(List.mem_replicate.1 hx).2;omega
def Nu (m:Int) (n k:Nat):List Value:=(List.replicate k (0:Int)).flatMap (EZ m)++(List.replicate (n - k) (0:Int)).flatMap (EZ 0)
theorem acQ (m:Int) (n k:Nat) (hk:k<n):(Nu m n k).set (k * 2+1) (Β m)=Nu m n (k+1):=by
 unfold Nu;have hl:((List.replicate k (0:Int)).flatMap (EZ m)).length=k * 2:=by rw[jo _ 2 (uP m)];simp
 rw[List.set_append_right _ _ (by omega),hl];obtain⟨j,hj⟩:∃j,n - k=j+1:=⟨n - k - 1,by omega⟩;have hj2:n - (k+1)=j:=by omega
 rw[hj,hj2,List.replicate_succ' (n:=k),List.flatMap_append];simp[replicate_succ,EZ]
theorem acP (m:Int) (n k:Nat) (hk:k<=n):(Nu m n k).length=n * 2:=by
 unfold Nu;rw[length_append,jo _ 2 (uP m),jo _ 2 (uP 0)];simp;omega
theorem aaq (n m:Int) (w:θ):F7 n m w λp e w'=>
  (∀S,gW w w' S)/\((Sm n m/\e=0/\∃b s,p=some ⟨b,0,none⟩/\w.heap.size<=b/\w.heap.size<=s/\QR w' b s (List.replicate n.toNat 0) m)\/(¬Sm n m/\e=1/\p=none)):=by
 apply XJ;by_cases hn:Sm n m
 ·obtain⟨h1,h2,h3,h4⟩:=hn;have c1:¬(n<1):=by omega
  have c2:¬(n>64):=by omega
  have c3:¬(m<0):=by omega
  have c4:¬(m>4096):=by omega
  simp only[sx,c1,c2,c3,c4,decide_false];refine Dc (by omega) (by omega) (by omega) (by omega) λs w1 hr0 hs _ hf1=> ?_;have hq0:gZ [Β 0,Β 0] n.toNat=Nu m n.toNat 0:=by
   unfold Nu;simp only[List.replicate_zero,List.flatMap_nil,List.nil_append,Nat.sub_zero];exact(aem 0 0 _).symm
  rw[hq0] at hr0;subst hs;refine uo λb w2 hr2 hb hsz hf2=> ?_;simp only[List.getElem?_cons_zero,f_,gQ,hr2.cell];have hb1:=(hf1 λ_=>False).size;have hs0:w.heap.size<w1.heap.size:=hr0.lt;refine gX (λst w'=>∃k:Nat,k<=n.toNat/\st.1=k/\Row w' b [.slice (some ⟨w.heap.size,0,none⟩) n.toNat n.toNat]/\Row w' w.heap.size (Nu m n.toNat k)/\∀S,gW w w' S)
   (λst _=>n.toNat - st.1.toNat) ⟨0,by omega,rfl,hr2,hr0.fr (hf2 λ_=>False) (by simp),λS=>(hf1 S).trans (hf2 S) λ_ _ e=>e⟩ ?_
  rintro⟨i,⟨⟩⟩ w3 ⟨k,hk,rfl,hb3,hr3,hf3⟩ next u
  simp only[sx,hb3.cell];by_cases I:k<n.toNat
  ·simp only[I,Int.ofNat_lt,decide_true,cond_true,toNat_natCast];refine⟨by omega,by first|trivial|omega,?_⟩
   refine g_ hr3 rfl (by rw[acP _ _ _ hk];omega) λw4 hr4 hf4 _=> ?_;rw[acQ _ _ _ I] at hr4;have e2:ο.wrap ((k:Int)+1)=((k+1:Nat):Int):=by rw[Α];omega
   rw[e2];refine u _ _ ⟨k+1,by omega,rfl,hb3.fr (hf4 (·=w.heap.size) rfl) (by omega),hr4,λS=>(hf3 S).trans (hf4 (·=w.heap.size) rfl) λx hx e=>by omega⟩ (by simp only;omega)
  ·have hk2:k=n.toNat:=by omega
   subst hk2;simp only[Int.lt_irrefl,decide_false,cond_false];refine⟨hf3,.inl ⟨⟨h1,h2,h3,h4⟩,by trivial,b,w.heap.size,rfl,by omega,by omega,⟨by simpa using hb3,?_,by omega⟩⟩⟩;unfold Nu at hr3;simpa using hr3
 ·have key:(bif decide (n<1) then true else bif decide (n>64) then true else bif decide (m<0) then true else decide (m>4096))=true:=by
   simp only[Sm] at hn;by_cases c1:n<1
   ·simp[c1]
   ·by_cases c2:n>64
    ·simp[c2]
    ·by_cases c3:m<0
     ·simp[c3]
     ·simp[c1,c2,c3];omega
  by_cases c1:n<1
  ·simp only[sx,c1,decide_true];exact⟨λS=>gW.refl _ _,.inr ⟨hn,by trivial,by trivial⟩⟩
  ·by_cases c2:n>64
   ·simp only[sx,c1,c2,decide_true,decide_false];exact⟨λS=>gW.refl _ _,.inr ⟨hn,by trivial,by trivial⟩⟩
   ·by_cases c3:m<0
    ·simp only[sx,c1,c2,c3,decide_true,decide_false];exact⟨λS=>gW.refl _ _,.inr ⟨hn,by trivial,by trivial⟩⟩
    ·have c4:m>4096:=by simp only[Sm] at hn;omega
     simp only[sx,c1,c2,c3,c4,decide_true,decide_false];exact⟨λS=>gW.refl _ _,.inr ⟨hn,by trivial,by trivial⟩⟩
theorem Λ {l:List Int} {m:Int} (h:QOk l m) (i:Int):QOk (DV l m i).2 m:=by
 unfold DV;split
 ·split
  ·exact h
  ·rename_i hi hge;refine⟨λx hx=> ?_,h.m0,h.m1,by simpa using h.len⟩;rcases List.mem_or_eq_of_mem_set hx with hx|rfl
   ·exact h.lo x hx
   ·have:=h.lo _ (at_mem hi);omega
 ·exact h
end Go.Proofs.QN
end
section
namespace Gp.Wh
structure Tm where
 id:Int
 a:Nat
 tn:Int
deriving DecidableEq
def Lv (now a n:Nat):Prop:=now / 64^(n+1)=a / 64^(n+1)/\(n=0\/now / 64^n≠a / 64^n)
def dg (a n:Nat):Nat:=a / 64^n % 64
theorem ad9 (a n:Nat):a / 64^(n+1)=a / 64^n / 64:=by rw[Nat.pow_succ,Nat.div_div_eq_div_mul]
theorem ad_ {x y n m:Nat} (h:x / 64^n=y / 64^n) (hm:n<=m):x / 64^m=y / 64^m:=by
 obtain⟨k,rfl⟩:=Nat.exists_eq_add_of_le hm;rw[Nat.pow_add,<- Nat.div_div_eq_div_mul,<- Nat.div_div_eq_div_mul,h]
theorem Lv.uniq {now a n m:Nat} (h:Lv now a n) (g:Lv now a m):n=m:=by
 rcases Nat.lt_trichotomy n m with hl|hl|hl
 ·exact absurd (ad_ h.1 hl) (by rcases g.2 with e|e;omega;exact e)
 ·exact hl
 ·exact absurd (ad_ g.1 hl) (by rcases h.2 with e|e;omega;exact e)
theorem ZT {a n:Nat} (h:a<=2^40) (hn:7<=n):a / 64^n=0:=by
 refine Nat.div_eq_of_lt (Nat.lt_of_lt_of_le ?_ (Nat.pow_le_pow_right (by omega) hn));omega
theorem Lv.lt {now a n:Nat} (h:Lv now a n) (h1:now<=2^40) (h2:a<=2^40):n<7:=by
 rcases h.2 with e|e
 ·omega
 ·refine Classical.byContradiction λhn=>e ?_;rw[ZT h1 (by omega),ZT h2 (by omega)]
abbrev Fs:=Nat->Nat->List Tm
abbrev Ps:=Int->Option Tm
def Uc (F:Fs) (n k:Nat) (l:List Tm):Fs:=λn' k'=>if n'=n/\k'=k then l else F n' k'
def JE (P:Ps) (id:Int) (o:Option Tm):Ps:=λid'=>if id'=id then o else P id'
structure WI (now:Nat) (P:Ps) (F:Fs):Prop where
 pl:∀id t,P id=some t->t.id=id/\now<=t.a/\t.a<=2^40
 nw:now<=2^40
 mem:∀n k t,n<7->k<64->(t∈F n k↔P t.id=some t/\Lv now t.a n/\dg t.a n=k)
 nd:∀n k,n<7->k<64->((F n k).map Tm.id).Nodup
variable {now:Nat} {P:Ps} {F:Fs}
theorem ad8 (a n:Nat):dg a n<64:=Nat.mod_lt _ (by omega)
theorem WI.take (h:WI now P F) {id:Int} {t:Tm} {n:Nat} (ht:P id=some t) (hl:Lv now t.a n):WI now (JE P id none) (Uc F n (dg t.a n) ((F n (dg t.a n)).filter λx=> !(x.id==id))):=by
 obtain⟨g1,g2,g3⟩:=h.pl id t ht;refine⟨λid' u hu=> ?_,h.nw,λn' k' u hn hk=> ?_,λn' k' hn hk=> ?_⟩
 ·unfold JE at hu;split at hu
  ·cases hu
  ·exact h.pl id' u hu
 ·unfold Uc JE;split
  ·rename_i e;obtain⟨rfl,rfl⟩:=e;rw[List.mem_filter,h.mem n' _ u hn hk];by_cases e:u.id=id
   ·rw[if_pos e];simp[e]
   ·rw[if_neg e];simp[e]
  ·rename_i e;rw[h.mem n' k' u hn hk];by_cases eu:u.id=id
   ·rw[if_pos eu];constructor
    ·rintro⟨h1,h2,h3⟩;rw[eu,ht] at h1
     cases h1
     exact absurd ⟨h2.uniq hl,by rw[<- h3,h2.uniq hl]⟩ e
    ·rintro⟨h1,_⟩;cases h1
   ·rw[if_neg eu]
 ·unfold Uc;split
  ·rename_i e;obtain⟨rfl,rfl⟩:=e;exact(h.nd n' _ hn hk).sublist (List.filter_sublist.map _)
  ·exact h.nd n' k' hn hk
theorem WI.put (h:WI now P F) {t:Tm} {n:Nat} (hp:P t.id=none) (h1:now<=t.a) (h2:t.a<=2^40) (hl:Lv now t.a n):WI now (JE P t.id (some t)) (Uc F n (dg t.a n) (F n (dg t.a n)++[t])):=by
 refine⟨λid' u hu=> ?_,h.nw,λn' k' u hn hk=> ?_,λn' k' hn hk=> ?_⟩
 ·unfold JE at hu;split at hu
  ·rename_i e;cases hu;exact⟨e.symm,h1,h2⟩
  ·exact h.pl id' u hu
 ·unfold Uc JE;split
  ·rename_i e;obtain⟨rfl,rfl⟩:=e;rw[List.mem_append,List.mem_singleton,h.mem n' _ u hn hk];by_cases e:u.id=t.id
   ·rw[if_pos e];constructor
    ·rintro(⟨g1,_⟩|rfl)
     ·rw[e,hp] at g1;cases g1
     ·exact⟨rfl,hl,rfl⟩
    ·rintro⟨g1,_⟩;cases g1;exact .inr rfl
   ·rw[if_neg e];constructor
    ·rintro(g|rfl)
     ·exact g
     ·exact absurd rfl e
    ·exact .inl
  ·rename_i e;rw[h.mem n' k' u hn hk];by_cases eu:u.id=t.id
   ·rw[if_pos eu];constructor
    ·rintro⟨g1,_⟩;rw[eu,hp] at g1;cases g1
    ·rintro⟨g1,g2,g3⟩;cases g1;exact absurd ⟨g2.uniq hl,by rw[<- g3,g2.uniq hl]⟩ e
   ·rw[if_neg eu]
 ·unfold Uc;split
  ·rename_i e;obtain⟨rfl,rfl⟩:=e;rw[List.map_append,List.nodup_append];refine⟨h.nd n' _ hn hk,by simp,λx hx y hy e=> ?_⟩;simp only[List.map_cons,List.map_nil,List.mem_singleton] at hy;subst hy;subst e;obtain⟨u,hu,hx⟩:=List.mem_map.1 hx;have:=((h.mem n' _ u hn hk).1 hu).1;rw[hx,hp] at this;cases this
  ·exact h.nd n' k' hn hk
end Gp.Wh
end
section
namespace Go.Proofs.WN
open Gp Gp.Wh
abbrev eT (t:Tm):List Value:=[Β t.id,Β (t.a:Int),Β t.tn]
theorem Aj (t:Tm):(eT t).length=3:=rfl
theorem aed (t:Tm):∀v∈eT t,iL v=true:=by
 intro v hv;simp only[eT,mem_cons,List.not_mem_nil,or_false] at hv;rcases hv with rfl|rfl|rfl<;>rfl
theorem kV {f:FuncId} {cap:Array Value} {sh:List Shape} {args:List Value} {w:θ} {K:Value->b_} (hb:ni υ f=true) (h:FV υ sh f (args++cap.toList) w K):
  jy υ sh (.func (.func f) #[] cap) args w K:=by
 unfold jy;simp only[hb,cond_true];exact h
theorem SlN_ix {α:Type} {n:Nat} {f:α->List Value} {w:θ} {s:fU} {xs:List α} (hn:∀x,(f x).length=n) (hn0:0<n) (h:mQ n f w s xs) {i:Int} {K:Addr->Prop} {x:α} (h0:0<=i) (hx:xs[i.toNat]? =some x)
  (hK:∀a:Addr,(∀j v,(f x)[j]? =some v->w.cell? (a.add j)=some v)->K a):iM s n i K:=by
 obtain⟨a,ha,hc⟩:=h.at_ hn hn0 hx;have hlt:=(List.getElem?_eq_some_iff.1 hx).1;obtain⟨sa,sl,sc⟩:=s;simp only at ha;subst ha;have hl:sl=xs.length:=h.len;refine(uQ ..).2 ⟨h0,by omega,hK _ λj v hj=> ?_⟩;rw[<- hc j v hj];congr 1;obtain⟨b,o,t⟩:=a;unfold Addr.add;by_cases h1:i.toNat * n=0<;>by_cases h2:j=0<;>simp[h1,h2,Nat.add_assoc]
theorem aip {w:θ} {s:fU} {l:List Tm} (h:mQ 3 eT w s l) {k:Nat} {z:Tm} (hk:l[k]? =some z) {K:Addr->Prop} (hK:∀a,w.cell? (a.add 0)=some (Β z.id)->w.cell? (a.add 1)=some (Β (z.a:Int))->w.cell? (a.add 2)=some (Β z.tn)->K a):iM s 3 (k:Int) K:=
 SlN_ix Aj (by omega) h (by omega) (by rw[toNat_natCast];exact hk) λa hc=>hK a (hc 0 _ rfl) (hc 1 _ rfl) (hc 2 _ rfl)
def FnT (v:Value) (C:b_) (p:Tm->Bool):Prop:=∀x W (K:Value->b_),C W->(∀W',Ext W W'->K (.bool (p x)) W')->jy υ [.one .bool] v [.agg ⟨eT x⟩] W K
theorem ahI {w:θ} {s:fU} {xs:List Tm} {v:Value} {p:Tm->Bool} {C:b_} (hs:mQ 3 eT w s xs) (hl:xs.length<=2^30) (hp:FnT v C p) (hC:∀W,Ext w W->C W):
  jq s v w λr w'=>((r= -1/\xs.any p=false)\/∃j:Nat,r=(j:Int)/\j<xs.length/\(xs.take j).any p=false/\(xs.take (j+1)).filter (λx=> !p x)=xs.take j)/\Ext w w':=by
 apply oN;have hlen:=hs.len;refine gX (λst W=>∃j:Nat,j<=xs.length/\st.1=(j:Int)/\Ext w W/\(xs.take j).any p=false) (λst _=>(s.len - st.1).toNat) ⟨0,by omega,rfl,Ext.refl _,by simp⟩ ?_;rintro⟨i,⟨⟩⟩ W ⟨j,hj,hi,hx,hm⟩ next u
 simp only at hi;subst hi;by_cases J:(j:Int)<(s.len:Int)
 ·simp only[J,decide_true,cond_true];have I:=getElem?_eq_getElem (show j<xs.length by omega);generalize xs[j]=x at I;have N:xs.take (j+1)=xs.take j++[x]:=by rw[List.take_add_one,I];rfl
  refine aip (hs.ext hx) I λa c0 c1 c2=> ?_;simp only[sx,c0,c1,c2];refine hp x W _ (hC W hx) λW' hf=>⟨p x,rfl,?_⟩
  cases he:p x
  ·simp only[cond_false];rw[Α];refine u _ _ ⟨j+1,by omega,by simp,hx.trans hf,?_⟩ (by simp only;omega);rw[N,List.any_append,hm,List.any_cons,he,List.any_nil];rfl
  ·simp only[cond_true];refine⟨.inr ⟨j,rfl,by omega,hm,?_⟩,hx.trans hf⟩;rw[N,filter_append,List.filter_eq_self.2 (λy hy=>by have:=List.any_eq_false.1 hm y hy;simpa using this)];simp[he]
 ·simp only[J,decide_false,cond_false];rw[List.take_of_length_le (by omega)] at hm;exact⟨.inl ⟨by trivial,hm⟩,hx⟩
theorem abK {w:θ} {b o n c:Nat} {L:List Value} {K:b_} (hr:Row w b L) (ho:o+n * 3<=L.length) (hK:∀w',Row w' b (spl L o (gZ abH n))->gW w w' (·=b)->K w'):Qo abH ⟨some ⟨b,o,none⟩,n,c⟩ w K:=by
 have hrl:(gZ [Β 0,Β 0,Β 0] n).length=n * 3:=by rw[nD];rfl
 refine⟨?_,by intro v hv;simp only[mem_cons,List.not_mem_nil,or_false] at hv;rcases hv with rfl|rfl|rfl<;>rfl,?_⟩
 ·rintro a ha
  cases ha
  intro j hj;simp only[List.length_cons,List.length_nil] at hj;rw[gy,hr.cell];exact⟨by simp;omega,hr.frozen _⟩
 ·obtain⟨r,f⟩:=zl (gZ [Β 0,Β 0,Β 0] n) w L o 0 hr (by omega);refine hK _ ?_ (f (·=b) rfl);simpa [spl] using r
theorem afM {w:θ} {s:fU} {xs:List Tm} {v:Value} {p:Tm->Bool} {C:b_} (hs:iV 3 eT w s xs) (hl:xs.length<=2^30) (hp:FnT v C p) (hC:∀W,gW w W (fU.at s)->C W):
  jm s v w λr w'=>iV 3 eT w' r (xs.filter λx=> !p x)/\gW w w' (fU.at s)/\∀b,fU.at r b->fU.at s b:=by
 apply oM;have hlen:=hs.len;have ah:=hs.sl Aj (by omega);have ac:=ah.cap;refine cmS1 (ahI ah hl hp λW hx=>hC W (hx _)) ?_;rintro r w1 ⟨h,x1⟩;have hs1:=hs.ext x1;rcases h with ⟨rfl,an⟩|⟨i0,rfl,hi0,hany,O⟩
 ·rw[show ((-1:Int)== -1)=true from rfl,cond_true];refine⟨?_,x1 _,λb hb=>hb⟩;rw[List.filter_eq_self.2 (λy hy=>by have:=List.any_eq_false.1 an y hy;simpa using this)];exact hs1
 rw[show ((i0:Int)== -1)=false from beq_eq_false_iff_ne.2 (by omega),cond_false];obtain⟨b,pad,ha,hc,hr⟩:∃b pad,s.a=some ⟨b,0,none⟩/\s.cap * 3=xs.length * 3+pad.length/\Row w1 b (xs.flatMap eT++pad):=by
  rcases hs1.mem with ⟨_,h,_⟩|h
  ·rw[h] at hi0;simp at hi0
  ·exact h
 obtain⟨sa,sl,sc⟩:=s;simp only at ha hc hlen ac;subst ha;subst hlen;rw[Α (n:=(i0:Int)+1) (by omega) (by omega)];have ai:∀{W},gW w1 W (·=b)->gW w W (fU.at ⟨some ⟨b,0,none⟩,xs.length,sc⟩):=λhf=>(x1 _).trans (hf.mono λc hc=>⟨0,by rw[hc]⟩) λ_ _ h=>h;have fl3:∀ys:List Tm,(ys.flatMap eT).length=ys.length * 3:=λys=>jo eT 3 Aj ys;refine gX (λst W=>∃j:Nat,j<=xs.length/\st.2.1=(j:Int)/\st.1=(((xs.take j).filter λx=> !p x).length:Int)/\((xs.take j).filter λx=> !p x).length<j/\gW w1 W (·=b)/\∃mid,mid.length=(j - ((xs.take j).filter λx=> !p x).length) * 3/\Row W b (((xs.take j).filter λx=> !p x).flatMap eT++(mid++((xs.drop j).flatMap eT++pad))))
  (λst _=>(xs.length - st.2.1).toNat) ⟨i0+1,by omega,by simp,by rw[O,length_take,Nat.min_eq_left (by omega)],by rw[O,length_take];omega,gW.refl _ _,?_⟩ ?_
 ·rw[O,length_take,Nat.min_eq_left (by omega)];refine⟨eT xs[i0],by rw[Aj];omega,?_⟩;have:xs.flatMap eT=(xs.take i0).flatMap eT++(eT xs[i0]++(xs.drop (i0+1)).flatMap eT):=by
   conv=>lhs;rw[<- List.take_append_drop i0 xs,List.drop_eq_getElem_cons hi0,List.flatMap_append,flatMap_cons]
  rw[this] at hr;simpa only [append_assoc] using hr
 rintro⟨i',j',⟨⟩⟩ W ⟨j,hj,hj1,hi1,hij,hf,mid,U,Y⟩ next N
 simp only at hj1 hi1;subst hj1 hi1;generalize R:(xs.take j).filter (λx=> !p x)=kp at *;by_cases aj:(j:Int)<(xs.length:Int)
 ·rw[decide_eq_true aj,cond_true];intro J;have hx:=getElem?_eq_getElem (show j<xs.length by omega);have ak:=List.drop_eq_getElem_cons (show j<xs.length by omega);generalize xs[j]=x at hx ak;have am:xs.take (j+1)=xs.take j++[x]:=by rw[List.take_add_one,hx];rfl
  rw[ak,flatMap_cons] at Y;have u:∀m,m<3->W.cell? ⟨b,j * 3+m,none⟩=(eT x)[m]? :=by
   intro m hm;rw[Y.cell,getElem?_append_right (by rw[fl3];omega),getElem?_append_right (by rw[fl3];omega),fl3,U,show j * 3+m - kp.length * 3 - (j - kp.length) * 3=m by omega,append_assoc,List.getElem?_append_left (by rw[Aj];omega)]
  have q0:=u 0 (by omega);have q1:=u 1 (by omega);have q2:=u 2 (by omega);simp only[Nat.add_zero,eT,d_] at q0 q1 q2;refine(uQ _ xs.length sc _ (j:Int) _).2 ⟨by omega,by omega,?_⟩;rw[gy,Nat.zero_add,toNat_natCast];simp -zeta only[sx,q0,q1,q2];refine DX rfl rfl λz w2 r2 e2 z2 f2=> ?_;simp -zeta only[sx,r2.cell];have hf2:=hf.ext f2;refine hp x w2 _ (hC w2 (ai hf2)) λw3 f3=>⟨p x,rfl,?_⟩;have hf3:=hf2.ext f3;have r3:=r2.ext f3;have Z:=(Y.ext f2).ext f3
  cases he:p x
  ·rw[Bool.not_false,cond_true];simp -zeta only[d_,f_,gJ,r3.cell];have I:(xs.take (j+1)).filter (λx=> !p x)=kp++[x]:=by rw[am,filter_append,R];simp[he]
   refine⟨by omega,by omega,?_⟩;rw[toNat_natCast];refine Qr (eT x) w3 _ (kp.length * 3) 0 Z (aed x) (by simp only[length_append,fl3,Aj];omega) λW2 rr2 g2 zz2=> ?_;obtain⟨m0,m1,ao,hm0⟩:∃m0 m1,mid=m0++m1/\m0.length=3:=⟨mid.take 3,mid.drop 3,(List.take_append_drop ..).symm,by rw[length_take];omega⟩;subst ao;have aq:∀(A B C D:List Value),B.length=3->A.length=kp.length * 3->(A++(B++C++D)).take (kp.length * 3+0)++eT x++(A++(B++C++D)).drop (kp.length * 3+0+(eT x).length)=A++(eT x++(C++D)):=by
    intro A B C D hB hA;rw[Nat.add_zero,<- hA,List.take_left' rfl,Aj,<- hB,<- List.drop_drop,List.drop_left' rfl,append_assoc B,List.drop_left' rfl,append_assoc]
   rw[aq _ _ _ _ hm0 (fl3 kp)] at rr2;simp only[J];rw[Α,Α];rw[length_append,hm0] at U;refine N _ _ ⟨j+1,by omega,by simp,by rw[I];simp,by rw[I];simp;omega,hf3.trans (g2 (·=b) rfl) λ_ _ e=>e,m1++eT x,by rw[I,length_append,Aj,length_append,length_singleton];omega,?_⟩ (by simp only;omega);rw[I,List.flatMap_append];simpa [append_assoc] using rr2
  ·rw[Bool.not_true,cond_false];have I:(xs.take (j+1)).filter (λx=> !p x)=kp:=by rw[am,filter_append,R];simp[he]
   simp only[J];rw[Α];refine N _ _ ⟨j+1,by omega,by simp,by rw[I],by rw[I];omega,hf3,mid++eT x,by rw[I,length_append,Aj];omega,?_⟩ (by simp only;omega);rw[I];simpa only [append_assoc] using Z
 ·rw[decide_eq_false aj,cond_false];have ar:j=xs.length:=by omega
  subst ar;rw[List.take_length] at R;rw[List.drop_length,List.flatMap_nil,List.nil_append] at Y;refine⟨by(try simp only);omega,by(try simp only);omega,by(try simp only);omega,?_⟩
  simp only[toNat_natCast];have au:sc≠kp.length:=by omega
  have af:qm (some (⟨b,0,none⟩:Addr)) sc kp.length 3=some ⟨b,kp.length * 3,none⟩:=by
   unfold qm;rw[if_neg au,map_some,gy,Nat.zero_add]
  rw[af];refine abK Y (by simp only[length_append,fl3];omega) λW2 r2 g2=> ?_;have av:(gZ [Β 0,Β 0,Β 0] (xs.length - kp.length)).length=(xs.length - kp.length) * 3:=by rw[nD];rfl
  have ag:spl (kp.flatMap eT++(mid++pad)) (kp.length * 3) (gZ [Β 0,Β 0,Β 0] (xs.length - kp.length))=kp.flatMap eT++(gZ [Β 0,Β 0,Β 0] (xs.length - kp.length)++pad):=by
   have:=NC (A:=kp.flatMap eT) (B:=mid) (C:=pad) (vs:=gZ [Β 0,Β 0,Β 0] (xs.length - kp.length)) (by omega);rw[fl3] at this;exact this
  rw[ag] at r2;refine⟨by(try simp only);omega,by(try simp only);omega,by(try simp only);omega,?_⟩
  have aa:qm (some (⟨b,0,none⟩:Addr)) sc 0 3=some ⟨b,0,none⟩:=by
   unfold qm;split<;>simp[Addr.add]
  simp only[toNat_natCast,Int.toNat_zero,Nat.sub_zero,aa];refine⟨⟨by rw[R],.inr ⟨b,gZ [Β 0,Β 0,Β 0] (xs.length - kp.length)++pad,rfl,?_,?_⟩⟩,ai (hf.trans g2 λ_ _ e=>e),λc hc=> ?_⟩
  ·rw[R,length_append,av];simp only;omega
  ·rw[R];exact r2
  ·obtain⟨o,e⟩:=hc;exact⟨o,e⟩
end Go.Proofs.WN
end
section
namespace Go.Proofs.WN
open Gp Gp.Wh
theorem Yp {a b:Nat} (ha:a<2^63) (hb:b<2^63):Ue .i64 (a:Int) (b:Int)=((a^^^b:Nat):Int):=by
 unfold Ue;have h1:(BitVec.ofInt (IntKind.bits .i64) (a:Int)).toNat=a:=by rw[r_,BitVec.toNat_ofInt];omega
 have h2:(BitVec.ofInt (IntKind.bits .i64) (b:Int)).toNat=b:=by rw[r_,BitVec.toNat_ofInt];omega
 rw[BitVec.toNat_xor,h1,h2];have:a^^^b<2^63:=Nat.xor_lt_two_pow ha hb;rw[Α]
theorem p64 (n:Nat):2^(6 * n)=64^n:=by rw[Nat.pow_mul]
theorem abG (a b n:Nat):(a^^^b) / 64^n=(a / 64^n)^^^(b / 64^n):=by
 rw[<- p64,<- Nat.shiftRight_eq_div_pow,<- Nat.shiftRight_eq_div_pow,<- Nat.shiftRight_eq_div_pow,Nat.shiftRight_xor_distrib]
theorem xor_zero {a b:Nat}:a^^^b=0↔a=b:=by
 constructor
 ·intro h;refine Nat.eq_of_testBit_eq λi=> ?_;have:=congrArg (λx=>Nat.testBit x i) h;simp only[Nat.testBit_xor,Nat.zero_testBit] at this;revert this
  cases a.testBit i<;>cases b.testBit i<;>simp
 ·rintro rfl;exact Nat.xor_self a
theorem aeN {now a:Nat} (h1:now<=2^40) (h2:a<=2^40) (w:θ):CG now a w λr w'=>(∃n:Nat,r=(n:Int)/\Lv now a n)/\w'=w:=by
 apply TI;rw[Yp (by omega) (by omega)];have hx:now^^^a<2^41:=Nat.xor_lt_two_pow (by omega) (by omega);refine gX (λst W=>W=w/\∃n:Nat,st.1=(n:Int)/\st.2.1=(((now^^^a) / 64^n:Nat):Int)/\n<=7/\(n=0\/now / 64^n≠a / 64^n)) (λst _=>st.2.1.toNat) ⟨rfl,0,rfl,by simp,by omega,.inl rfl⟩ ?_;rintro⟨i,d,⟨⟩⟩ W ⟨rfl,n,hi,hd,hn,J⟩ next u
 simp only at hi hd;subst hi hd;generalize hD:(now^^^a) / 64^n=D;have e1:(now^^^a) / 64^(n+1)=D / 64:=by rw[ad9,hD]
 by_cases I:(D:Int)>=64
 ·rw[decide_eq_true I,cond_true];refine⟨by omega,?_⟩;have hD7:n<7:=by
   refine Classical.byContradiction λh=> ?_;have:(now^^^a) / 64^n=0:=by
    refine Nat.div_eq_of_lt (Nat.lt_of_lt_of_le hx ?_)
    calc 2^41<=64^7:=by decide
     _<=64^n:=Nat.pow_le_pow_right (by omega) (by omega)
   omega
  rw[Α,show (6:Int)=((6:Nat):Int) from rfl,xM (by omega)];refine u _ _ ⟨rfl,n+1,by simp,by rw[e1],by omega,.inr λhe=> ?_⟩ (by simp only[toNat_natCast];omega);rw[abG,he,Nat.xor_self] at e1;omega
 ·rw[decide_eq_false I,cond_false];refine⟨⟨n,rfl,?_,J⟩,rfl⟩;have:D / 64=0:=Nat.div_eq_of_lt (by omega);rw[this,abG,xor_zero] at e1;exact e1
def Uw (k:Int):Value:= Β k
def slV (s:fU):Value:= Δ s
def evT (t:Tm):Value:= .agg ⟨eT t⟩
theorem eqW (a b:Int):Fa υ 16 3 (Uw a) (Uw b)=some (decide (a=b)):=by
 have h:Fa υ 16 3 (Β a) (Β b)=some (a==b):=by kernel_rfl
 rw[Uw,Uw,h];congr 1
theorem aae (a:Int):ny υ 3 (Uw a)=true:=by
 have h:ny υ 3 (Β a)=true:=by kernel_rfl
 exact h
theorem abR {α β:Type} [DecidableEq α] {enc:α->Value} {ev:β->Value} {w:θ} {r:Nat} {l:List (α×β)} {P:Program} {kt:TypeId} (h:pY enc ev w r l) (hE:∀a b:α,Fa P 16 kt (enc a) (enc b)=some (decide (a=b))) (a:α) (hk:ny P kt (enc a)=true) {z:Value} {K:Value->Bool->Prop}
  (h0:vw l a=none->K z false) (h1:∀b,vw l a=some b->K (ev b) true):Ik P kt (some r) (enc a) z w K:=by
 obtain⟨es,c,g1,g2,_⟩:=h;refine⟨hk,.inr ⟨r,es,c,rfl,g1,?_⟩⟩
 cases hl:vw l a with
 |none=>
  cases l with
  |nil=>
   have:es.toList=[]:=by simpa using g2
   exact⟨none,by rw[this];rfl,h0 hl⟩
  |cons x l'=>
   rcases MC hE a x.2 es.toList _ 0 g2 with ⟨_,q2,_⟩|⟨j,v,e,q1,_⟩
   ·exact⟨_,q2,h0 hl⟩
   ·rw[hl] at q1;cases q1
 |some b=>
  rcases MC hE a b es.toList _ 0 g2 with ⟨q1,_,_⟩|⟨j,v,e,q1,q2,_⟩
  ·rw[hl] at q1;cases q1
  ·rw[hl] at q1;cases q1;exact⟨_,q2,h1 b hl⟩
theorem Yy {α β:Type} {enc:α->Value} {ev:β->Value} {w:θ} {r:Nat} {l:List (α×β)} (h:pY enc ev w r l) {K:Int->Prop} (hK:K (l.length:Int)):NP w (some r) K:=by
 obtain⟨es,c,h1,h2,_⟩:=h;refine⟨es,c,h1,?_⟩;have:es.size=l.length:=by
  have:=congrArg List.length h2;simpa using this
 rw[this];exact hK
abbrev PL:=List (Int×Tm)
def atS (ss:List fU) (b:Nat):Prop:=∃(i:Nat) (s:fU),ss[i]? =some s/\fU.at s b
def Fz (d m:Nat) (ss:List fU) (b:Nat):Prop:=b=d\/b=m\/atS ss b
structure WM (w:θ) (d m:Nat) (ss:List fU) (l:PL) (now:Nat) (tn most:Int) (F:Fs):Prop where
 hd:Row w d (ss.map slV++[.map (some m),Β (now:Int),Β tn,Β most])
 len:ss.length=448
 mp:pY Uw evT w m l
 nd:(l.map (·.1)).Nodup
 buf:∀n k,n<7->k<64->∃s,ss[n * 64+k]? =some s/\iV 3 eT w s (F n k)
 ap:∀(i j:Nat) s s' b,i≠j->ss[i]? =some s->ss[j]? =some s'->fU.at s b->¬fU.at s' b
 ne:∀b,atS ss b->b≠d/\b≠m
 dm:d≠m
 sm:∀n k,n<7->k<64->(F n k).length<=2^21
section
variable {w w':θ} {d m:Nat} {ss:List fU} {l:PL} {now:Nat} {tn most:Int} {F:Fs}
theorem WM.fr {S:Nat->Prop} (h:WM w d m ss l now tn most F) (hf:gW w w' S) (hs:∀b,Fz d m ss b->¬S b):WM w' d m ss l now tn most F:=
 ⟨h.hd.fr hf (hs _ (.inl rfl)),h.len,h.mp.fr hf (hs _ (.inr (.inl rfl))),h.nd,λn k hn hk=>by
  obtain⟨s,h1,h2⟩:=h.buf n k hn hk;exact⟨s,h1,h2.fr hf λb hb=>hs b (.inr (.inr ⟨_,s,h1,hb⟩))⟩,h.ap,h.ne,h.dm,h.sm⟩
theorem WM.ext (h:WM w d m ss l now tn most F) (hf:Ext w w'):WM w' d m ss l now tn most F:=h.fr (hf λ_=>False) (λ_ _=>by simp)
theorem WM.agJ (h:WM w d m ss l now tn most F) {b:Nat} (hb:atS ss b):∃n k s,n<7/\k<64/\ss[n * 64+k]? =some s/\fU.at s b/\iV 3 eT w s (F n k):=by
 obtain⟨i,s,hi,hs⟩:=hb;have hlt:=(List.getElem?_eq_some_iff.1 hi).1;have hl:=h.len;obtain⟨s',h1,h2⟩:=h.buf (i / 64) (i % 64) (by omega) (by omega);have e:i / 64 * 64+i % 64=i:=by omega
 rw[e,hi] at h1
 cases h1
 exact⟨i / 64,i % 64,s,by omega,by omega,by rw[e];exact hi,hs,h2⟩
theorem WM.lt (h:WM w d m ss l now tn most F) {b:Nat} (hb:Fz d m ss b):b<w.heap.size:=by
 rcases hb with rfl|rfl|hb
 ·exact h.hd.lt
 ·exact h.mp.lt
 ·obtain⟨n,k,s,_,_,_,h1,h2⟩:=h.agJ hb;exact h2.lt h1
theorem WM.adT (h:WM w d m ss l now tn most F):w.cell? ⟨d,448,none⟩=some (.map (some m)):=by
 rw[h.hd.cell,getElem?_append_right (by rw[length_map,h.len];omega),length_map,h.len];rfl
theorem WM.ahv (h:WM w d m ss l now tn most F):w.cell? ⟨d,449,none⟩=some (Β (now:Int)):=by
 rw[h.hd.cell,getElem?_append_right (by rw[length_map,h.len];omega),length_map,h.len];rfl
theorem WM.ahw (h:WM w d m ss l now tn most F):w.cell? ⟨d,450,none⟩=some (Β tn):=by
 rw[h.hd.cell,getElem?_append_right (by rw[length_map,h.len];omega),length_map,h.len];rfl
theorem WM.ajb (h:WM w d m ss l now tn most F):w.cell? ⟨d,451,none⟩=some (Β most):=by
 rw[h.hd.cell,getElem?_append_right (by rw[length_map,h.len];omega),length_map,h.len];rfl
theorem WM.cs (h:WM w d m ss l now tn most F) {i:Nat} {s:fU} (hi:ss[i]? =some s):w.cell? ⟨d,i,none⟩=some (Δ s):=by
 have u:=(List.getElem?_eq_some_iff.1 hi).1;rw[h.hd.cell,List.getElem?_append_left (by rw[length_map];exact u),List.getElem?_map,hi];rfl
theorem WM.aiU (h:WM w d m ss l now tn most F) {n k:Nat} (hn:n<7) (hk:k<64) {s:fU} (hs:ss[n * 64+k]? =some s) {w1:θ} {s':fU} {L:List Tm} {S:Nat->Prop} (hf:gW w w1 S) (hS:∀b,Fz d m ss b->S b->fU.at s b)
  (hb:iV 3 eT w1 s' L) (N:∀b,fU.at s' b->fU.at s b\/w.heap.size<=b) (hL:L.length<=2^21) {K:b_}
  (hK:∀w2,WM w2 d m (ss.set (n * 64+k) s') l now tn most (Uc F n k L)->gW w1 w2 (·=d)->w2.heap.size=w1.heap.size->K w2):St w1 ⟨d,n * 64+k,none⟩ (.slice s'.a s'.len s'.cap) K:=by
 have hl:=h.len;have O:n * 64+k<ss.length:=by omega
 have atd:¬fU.at s d:=λe=>(h.ne d ⟨_,s,hs,e⟩).1 rfl;have atm:¬fU.at s m:=λe=>(h.ne m ⟨_,s,hs,e⟩).2 rfl;have hd1:=h.hd.fr hf λe=>atd (hS d (.inl rfl) e);have I:∀j,(ss.set (n * 64+k) s')[j]? =if n * 64+k=j then some s' else ss[j]? :=λj=>by
  rw[getElem?_set];split
  ·first|rfl|rw[if_pos O]
  ·rfl
 refine g_ hd1 rfl (by rw[length_append,length_map];omega) λw2 r2 f2 z2=> ?_;have f2d:=f2 (·=d) rfl;rw[List.set_append_left _ _ (by rw[length_map];exact O),<- (show (ss.set (n * 64+k) s').map slV=(ss.map slV).set (n * 64+k) (Value.slice s'.a s'.len s'.cap) from List.map_set)] at r2;have s'd:∀b,fU.at s' b->b≠d/\b≠m:=λb hb'=>by
  rcases N b hb' with e|e
  ·exact h.ne b ⟨_,s,hs,e⟩
  ·have q1:=h.lt (.inl rfl:Fz d m ss d);have q2:=h.lt (.inr (.inl rfl):Fz d m ss m);exact⟨by omega,by omega⟩
 have s'o:∀b j u,j≠n * 64+k->ss[j]? =some u->fU.at u b->¬fU.at s' b:=λb j u hj hu J hb'=>by
  rcases N b hb' with e|e
  ·exact h.ap j _ u s b hj hu hs J e
  ·have:=h.lt (.inr (.inr ⟨j,u,hu,J⟩):Fz d m ss b);omega
 refine hK w2 ⟨r2,by rw[List.length_set];exact hl,(h.mp.fr hf λe=>atm (hS m (.inr (.inl rfl)) e)).fr f2d (λe=>h.dm e.symm),h.nd,λn' k' hn' hk'=> ?_,λi j u u' b R hi hj hu hu'=> ?_,λb hb'=> ?_,h.dm,λn' k' hn' hk'=> ?_⟩ f2d z2
 ·rw[I];unfold Uc;by_cases e:n'=n/\k'=k
  ·rw[if_pos e,if_pos (by rw[e.1,e.2])];exact⟨s',rfl,hb.fr f2d λb hb'=>(s'd b hb').1⟩
  ·rw[if_neg e,if_neg (by omega)];obtain⟨u,h1,h2⟩:=h.buf n' k' hn' hk';refine⟨u,h1,(h2.fr hf λb J U=> ?_).fr f2d λb J=>(h.ne b ⟨_,u,h1,J⟩).1⟩;exact h.ap _ _ u s b (by omega) h1 hs J (hS b (.inr (.inr ⟨_,u,h1,J⟩)) U)
 ·rw[I] at hi hj;split at hi
  ·rename_i e1;split at hj
   ·omega
   ·rename_i e2
    cases hi
    exact s'o b j u' (by omega) hj hu' hu
  ·rename_i e1;split at hj
   ·cases hj;exact s'o b i u (by omega) hi hu hu'
   ·exact h.ap i j u u' b R hi hj hu hu'
 ·obtain⟨j,u,hj,hu⟩:=hb';rw[I] at hj;split at hj
  ·cases hj;exact s'd b hu
  ·exact h.ne b ⟨j,u,hj,hu⟩
 ·unfold Uc;split
  ·exact hL
  ·exact h.sm n' k' hn' hk'
theorem WM.setH (h:WM w d m ss l now tn most F) {now':Nat} {tn':Int} {j:Nat} {v:Value} (hv:iL v=true) (hj:(ss.map slV++[Value.map (some m),Β (now:Int),Β tn,Β most]).set j v=ss.map slV++[Value.map (some m),Β (now':Int),Β tn',Β most]) (hj2:j<452) {K:b_}
  (hK:∀w2,WM w2 d m ss l now' tn' most F->gW w w2 (·=d)->w2.heap.size=w.heap.size->K w2):St w ⟨d,j,none⟩ v K:=by
 refine g_ h.hd hv (by rw[length_append,length_map,h.len];exact hj2) λw2 r2 f2 z2=> ?_;rw[hj] at r2;have f2d:=f2 (·=d) rfl;exact hK w2 ⟨r2,h.len,h.mp.fr f2d (λe=>h.dm e.symm),h.nd,λn k hn hk=>by
  obtain⟨s,h1,h2⟩:=h.buf n k hn hk;exact⟨s,h1,h2.fr f2d λb hb=>(h.ne b ⟨_,s,h1,hb⟩).1⟩,h.ap,h.ne,h.dm,h.sm⟩ f2d z2
theorem WM.aiW (h:WM w d m ss l now tn most F) (tn':Int) {K:b_}
  (hK:∀w2,WM w2 d m ss l now tn' most F->gW w w2 (·=d)->w2.heap.size=w.heap.size->K w2):St w ⟨d,450,none⟩ (Β tn') K:=
 h.setH rfl (by rw[List.set_append_right _ _ (by rw[length_map,h.len];omega),length_map,h.len];rfl) (by omega) hK
theorem WM.ajl (h:WM w d m ss l now tn most F) (t:Tm) {K:b_}
  (hK:∀w2,WM w2 d m ss (zn l t.id t) now tn most F->gW w w2 (·=m)->w2.heap.size=w.heap.size->K w2):og υ 3 (some m) (Β t.id) (.agg ⟨eT t⟩) w K:=
 xP (enc:=Uw) (ev:=evT) h.mp eqW t.id t (aae _) λw2 g2 f2 z2=>hK w2 ⟨h.hd.fr f2 h.dm,h.len,g2,NM h.nd _ _,λn k hn hk=>by
  obtain⟨s,h1,h2⟩:=h.buf n k hn hk;exact⟨s,h1,h2.fr f2 λb hb=>(h.ne b ⟨_,s,h1,hb⟩).2⟩,h.ap,h.ne,h.dm,h.sm⟩ f2 z2
theorem Wi (h:WM w d m ss l now tn most F):nY (some ⟨d,0,none⟩) w λr w'=>r=true/\w'=w:=by
 apply H7;simp only[sx,h.adT,Bool.not_false];exact⟨by trivial,by trivial⟩
theorem ag1 (h:WM w d m ss l now tn most F):mY (some ⟨d,0,none⟩) w λn w'=>n=(l.length:Int)/\w'=w:=by
 apply Lh;refine cmS0 (Wi h) ?_;rintro _ w2 ⟨rfl,hw⟩;subst hw;simp only[sx,Bool.not_true,h.adT];exact Yy h.mp ⟨by trivial,by trivial⟩
theorem aiB {a n:Nat} (hn:n<7):kF .i64 (jH .i64 (a:Int) (ο.wrap (6 * (n:Int)))) 63=((dg a n:Nat):Int)/\ο.wrap (6 * (n:Int))=((6 * n:Nat):Int):=by
 have e:ο.wrap (6 * (n:Int))=((6 * n:Nat):Int):=by rw[Α];omega
 refine⟨?_,e⟩;rw[e,xM (by omega),p64];unfold dg;have:∀x:Nat,kF .i64 (x:Int) 63=((x % 64:Nat):Int):=by
  intro x;unfold kF;have h1:(BitVec.ofInt (IntKind.bits .i64) (x:Int)).toNat=x % 2^64:=by rw[r_,BitVec.toNat_ofInt];omega
  have h2:(BitVec.ofInt (IntKind.bits .i64) 63).toNat=2^6 - 1:=by rw[r_,BitVec.toNat_ofInt];rfl
  rw[BitVec.toNat_and,h1,h2,AZ,Α];omega
 exact this _
theorem ϑ (h:WM w d m ss l now tn most F) (h1:now<=2^40) {a:Nat} (h2:a<=2^40):pO (some ⟨d,0,none⟩) (a:Int) w λr w'=>(∃n,n<7/\Lv now a n/\r=some ⟨d,n * 64+dg a n,none⟩)/\Ext w w':=by
 apply JC;simp only[sx,h.ahv];refine cmS1 (aeN h1 h2 w) ?_;rintro r w1 ⟨⟨n,rfl,hl⟩,hw⟩;subst hw;have hn:=hl.lt h1 h2;obtain⟨e1,e2⟩:=aiB (a:=a) hn;have hd:=ad8 a n;rw[e1,e2];simp only[toNat_natCast,Nat.mul_one];exact⟨by omega,by omega,by omega,by omega,by omega,⟨n,hn,hl,rfl⟩,Ext.drew _⟩
theorem ag4 (h:WM w d m ss l now tn most F) (h1:now<=2^40) (t:Tm) (h2:t.a<=2^40) (hl:∀n k,n<7->k<64->(F n k).length<2^21):
  vU (some ⟨d,0,none⟩) t.id (t.a:Int) t.tn w λw'=>gW w w' (Fz d m ss)/\∃n ss',n<7/\Lv now t.a n/\WM w' d m ss' l now tn most (Uc F n (dg t.a n) (F n (dg t.a n)++[t]))/\∀b,Fz d m ss' b->Fz d m ss b\/w.heap.size<=b:=by
 apply Lj;refine gq λp w1 r1 e1 z1 f1=> ?_;have hw1:=h.ext f1;simp only[sx,r1.cell];refine cmS21 (ϑ hw1 h1 h2) ?_;rintro _ w2 ⟨⟨n,hn,J,rfl⟩,f2⟩;have x2:=f1.trans (f2.trans (Ext.drew w2));have h2w:=h.ext x2;have r2:=(r1.ext f2).drew;have hk:=ad8 t.a n;obtain⟨s,hs,hb⟩:=h2w.buf n (dg t.a n) hn hk;have hll:=hl n (dg t.a n) hn hk;simp only[MB,d_,f_,gQ,gJ,h2w.cs hs,r2.cell];refine gq λq w3 r3 e3 z3 f3=> ?_;have h3:=h2w.ext f3;simp only[true_and,h3.cs hs];have N:mQ 3 eT w3 ⟨some ⟨q,0,none⟩,1,1⟩ [t]:=(iV.row (xs:=[t]) (f:=eT) (n:=3) (by simpa using r3)).sl Aj (by omega);refine mD Aj (hb.ext f3) N rfl (by omega) aed (by simp only[length_singleton];omega) (by simp only[length_singleton];omega) λs4 w4 b4 f4 n4=> ?_;have x3:=x2.trans f3;refine h3.aiU hn hk hs f4 (λb _ hb=>hb) b4 n4 (by rw[length_append,length_singleton];omega) λw5 h5 f5 z5=> ?_;have I:∀b,fU.at s b->Fz d m ss b:=λb hb=> .inr (.inr ⟨_,s,hs,hb⟩);refine⟨((x3 (Fz d m ss)).trans (f4.mono I) λ_ _ e=>e).trans f5 λb _ e=> .inl e,n,_,hn,J,h5,λb hb=> ?_⟩;rcases hb with hb|hb|⟨j,u,hj,hu⟩
 ·exact .inl (.inl hb)
 ·exact .inl (.inr (.inl hb))
 ·rw[getElem?_set] at hj;split at hj
  ·split at hj
   ·cases hj
    rcases n4 b hu with e|e
    ·exact .inl (I b e)
    ·exact .inr (Nat.le_trans x3.size e)
   ·cases hj
  ·exact .inl (.inr (.inr ⟨j,u,hj,hu⟩))
theorem afo (h:WM w d m ss l now tn most F) (h1:now<=2^40) (t:Tm) (h2:t.a<=2^40):
  uK (some ⟨d,0,none⟩) t.id (t.a:Int) t.tn w λw'=>gW w w' (Fz d m ss)/\∃n ss',n<7/\Lv now t.a n/\WM w' d m ss' l now tn most (Uc F n (dg t.a n) ((F n (dg t.a n)).filter λx=> !(x.id==t.id)))/\∀b,Fz d m ss' b->Fz d m ss b\/w.heap.size<=b:=by
 apply JD;refine gq λp w1 r1 e1 z1 f1=> ?_;have hw1:=h.ext f1;simp only[sx,r1.cell];refine cmS21 (ϑ hw1 h1 h2) ?_;rintro _ w2 ⟨⟨n,hn,J,rfl⟩,f2⟩;have x2:=f1.trans f2;have h2w:=h.ext x2;have r2:=r1.ext f2;have hk:=ad8 t.a n;obtain⟨s,hs,hb⟩:=h2w.buf n (dg t.a n) hn hk;have N:=h.sm n (dg t.a n) hn hk;have I:∀b,fU.at s b->Fz d m ss b:=λb hb=> .inr (.inr ⟨_,s,hs,hb⟩);have hp:∀b,Fz d m ss b->b≠p:=λb hb=>by have:=h.lt hb;omega
 simp only[MB,f_,gQ,h2w.cs hs];have isId:FnT (Value.func (.func GX) #[] #[.pointer (some ⟨p,0,none⟩)]) (λW=>Row W p (eT t)) (λx=>x.id==t.id):=by
  intro x W K hC hK;refine kV (by kernel_rfl) ?_;have:xU x.id x.a x.tn ⟨p,0,none⟩ W λr W'=>r=(x.id==t.id)/\Ext W W':=by
   apply FT;refine gq λq W1 q1 _ _ g1=> ?_;simp only[sx,q1.cell,(hC.ext g1).cell];exact⟨by trivial,g1⟩
  refine Calls.mono this ?_;rintro e W' ⟨r,he,rfl,hf⟩;exact⟨_,he,hK W' hf⟩
 refine cmS2 (afM hb (by omega) isId λW hf=>r2.fr hf λe=>hp p (I p e) rfl) ?_;rintro s4 w4 ⟨b4,f4,n4⟩;refine h2w.aiU hn hk hs f4 (λb _ hb=>hb) b4 (λb hb=> .inl (n4 b hb)) (Nat.le_trans (List.length_filter_le ..) N) λw5 h5 f5 z5=> ?_;refine⟨((x2 (Fz d m ss)).trans (f4.mono I) λ_ _ e=>e).trans f5 λb _ e=> .inl e,n,_,hn,J,h5,λb hb=> ?_⟩;rcases hb with hb|hb|⟨j,u,hj,hu⟩
 ·exact .inl (.inl hb)
 ·exact .inl (.inr (.inl hb))
 ·rw[getElem?_set] at hj;split at hj
  ·split at hj
   ·cases hj
    exact .inl (I b (n4 b hu))
   ·cases hj
  ·exact .inl (.inr (.inr ⟨j,u,hj,hu⟩))
end
end Go.Proofs.WN
end
section
namespace Go.Proofs.WN
open Gp Gp.Wh
theorem abx:∀{a b:List Int},a.Nodup->(∀x∈a,x∈b)->a.length<=b.length
 |[],_,_,_=>by simp
 |x::a,b,h,hs=>by
  rw[List.nodup_cons] at h;have hx:=hs x (by simp);have:=abx (b:=b.erase x) h.2 λy hy=>by
   have u:y≠x:=λe=>h.1 (e ▸ hy);exact(List.mem_erase_of_ne u).2 (hs y (by simp[hy]))
  rw[List.length_erase_of_mem hx] at this;have:=List.length_pos_of_mem hx;simp only[List.length_cons];omega
theorem ahP {l:PL} {id:Int} {t:Tm} (h:vw l id=some t):id∈l.map (·.1):=by
 refine Classical.byContradiction λhn=> ?_;rw[Bz.2 hn] at h;cases h
theorem WI.short {now:Nat} {P:Ps} {F:Fs} {l:PL} (h:WI now P F) (hs:∀id t,P id=some t->vw l id=some t) {n k:Nat} (hn:n<7) (hk:k<64):(F n k).length<=l.length:=by
 have:=abx (b:=l.map (·.1)) (h.nd n k hn hk) λx hx=>by
  obtain⟨t,ht,rfl⟩:=List.mem_map.1 hx;exact ahP (hs _ _ ((h.mem n k t hn hk).1 ht).1)
 simpa using this
section
variable {w w':θ} {d m:Nat} {ss:List fU} {l:PL} {now:Nat} {tn most:Int} {F:Fs}
structure WS (w:θ) (d m:Nat) (ss:List fU) (l:PL) (now:Nat) (tn most:Int) (F:Fs):Prop where
 wm:WM w d m ss l now tn most F
 wi:WI now (vw l) F
 mo:most<=1048576/\(l.length:Int)<=most
 tb:∀id t,vw l id=some t->t.tn<=tn
 ti:∀id id' t u,vw l id=some t->vw l id'=some u->t.tn=u.tn->id=id'
 t0:0<=tn
theorem WS.ext (h:WS w d m ss l now tn most F) (hf:Ext w w'):WS w' d m ss l now tn most F:=⟨h.wm.ext hf,h.wi,h.mo,h.tb,h.ti,h.t0⟩
theorem WS.fr {S:Nat->Prop} (h:WS w d m ss l now tn most F) (hf:gW w w' S) (hs:∀b,Fz d m ss b->¬S b):WS w' d m ss l now tn most F:=⟨h.wm.fr hf hs,h.wi,h.mo,h.tb,h.ti,h.t0⟩
def Wy (l:PL) (most id at_:Int):Int:=if id<0\/id>2147483648\/at_<0\/at_>1099511627776 then 1 else if vw l id=none/\most<=(l.length:Int) then 7 else 0
theorem aaQ (l:PL) (a:Int) (b:Tm):((zn l a b).length:Int)=if vw l a=none then (l.length:Int)+1 else l.length:=by
 have:=congrArg List.length (QC l a b);rw[length_map] at this;by_cases hm:a∈l.map (·.1)
 ·rw[if_pos hm,length_map] at this;rw[if_neg (by rw[Bz];simpa using hm),this]
 ·rw[if_neg hm,length_append,length_map,length_singleton] at this;rw[if_pos (Bz.2 hm),this];omega
theorem ahQ (l:PL) (t:Tm):vw (zn l t.id t)=JE (vw l) t.id (some t):=by
 funext id;rw[Ar];rfl
theorem ag0 (h:WS w d m ss l now tn most F) (id at_:Int) (ht:tn<2^62):
  qC (some ⟨d,0,none⟩) id at_ w λe w'=>e=Wy l most id at_/\gW w w' (Fz d m ss)/\
   ∃ss' F',(∀b,Fz d m ss' b->Fz d m ss b\/w.heap.size<=b)/\
    WS w' d m ss' (if Wy l most id at_=0 then zn l id ⟨id,max at_.toNat now,tn+1⟩ else l) now (if Wy l most id at_=0 then tn+1 else tn) most F':=by
 apply Le;have hm:=h.mo;have af:=h.wi.nw;refine cmS0 (Wi h.wm) ?_;rintro _ w2 ⟨rfl,hw⟩;subst hw;simp -zeta only[Bool.not_true,cond_false];intro J6;have h6t:(id<0\/id>2147483648\/at_<0\/at_>1099511627776)->J6 true:=by
  intro Z;have e:Wy l most id at_=1:=by unfold Wy;rw[if_pos Z]
  simp only[J6,cond_true];rw[e];exact⟨by trivial,gW.refl _ _,ss,F,λb hb=> .inl hb,h⟩
 have h6f:¬(id<0\/id>2147483648\/at_<0\/at_>1099511627776)->J6 false:=by
  intro ag;have eA:Wy l most id at_=if vw l id=none/\most<=(l.length:Int) then 7 else 0:=by unfold Wy;rw[if_neg ag]
  simp only[not_or] at ag;simp -zeta only[sx,Ci,J6,h.wm.adT];have key:∀(K:Value->Bool->Prop),(∀v b,(∃t0:Tm,v= .agg ⟨eT t0⟩/\∀t,vw l id=some t->t0=t)->b=(vw l id).isSome->K v b)->Ik υ 3 (some m) (Β id) (.agg ⟨abH⟩) w2 K:=by
   intro K hh;refine abR (enc:=Uw) h.wm.mp eqW id (aae id) (λhl=>hh _ _ ⟨⟨0,0,0⟩,rfl,λt ht=>by rw[hl] at ht;cases ht⟩ (by rw[hl];rfl)) (λb hl=>hh _ _ ⟨b,rfl,λt ht=>by rw[hl] at ht;cases ht;rfl⟩ (by rw[hl];rfl))
  refine key _ ?_;rintro _ b11 ⟨t0,rfl,ht0⟩ hb11;refine⟨t0.id,(t0.a:Int),t0.tn,rfl,DX rfl rfl λp w3 r3 e3 z3 f3=> ?_⟩;have hw3:=h.wm.ext f3;intro R;have h18t:vw l id=none/\most<=(l.length:Int)->∀W,Ext w2 W->R true W:=by
   intro U W hx;rw[if_pos U] at eA;simp only[R,cond_true];rw[eA];exact⟨by trivial,hx _,ss,F,λb hb=> .inl hb,h.ext hx⟩
  have h18f:¬(vw l id=none/\most<=(l.length:Int))->∀W,Ext w3 W->R false W:=by
   intro N W hx;rw[if_neg N] at eA;simp -zeta only[R,cond_false];intro aa;have ah:∀W1 ss1 F1,WM W1 d m ss1 l now tn most F1->WI now (JE (vw l) id none) F1->gW w2 W1 (Fz d m ss)->(∀b,Fz d m ss1 b->Fz d m ss b\/w2.heap.size<=b)->aa W1:=by
    intro W1 ss1 F1 g1 g2 g3 g4;have htn0:=h.t0;simp only[aa,f_,gJ,g1.ahw];rw[Α (n:=tn+1) (by omega) (by omega)];refine g1.aiW (tn+1) λw4 h4 f4 z4=> ?_;have h4d:=h4.ext (Ext.drew w4);simp only[f_,gJ,h4d.ahv,h4d.ahw];refine gq λq w5 r5 e5 z5 f5=> ?_;have h5:=h4d.ext f5;simp only[sx,true_and,h5.ahv,h5.ahw];refine gY r5 rfl rfl λw6 r6 f6 z6=> ?_;have f6q:=f6 (·=q) rfl;have hq:∀b,Fz d m ss1 b->b≠q:=λb hb=>by have:=h4d.lt hb;omega
    have h6:=(h5.fr f6q hq).ext (Ext.drew w6);have r6d:=r6.drew;simp only[d_,f_,gJ,L6,h6.adT,r6d.cell];have emax:(if (now:Int)>at_ then (now:Int) else at_)=((max at_.toNat now:Nat):Int):=by
     split<;>omega
    have hT:(Value.agg ⟨[Β id,Β (if (now:Int)>at_ then (now:Int) else at_),Β (tn+1)]⟩:Value)= .agg ⟨eT ⟨id,max at_.toNat now,tn+1⟩⟩:=by rw[emax]
    rw[hT];refine h6.ajl ⟨id,max at_.toNat now,tn+1⟩ λw7 h7 f7 z7=> ?_;have ai:m≠q:=hq m (.inr (.inl rfl));have r7:=r6d.fr f7 (λe=>ai e.symm);simp only[d_,f_,gJ,r7.cell];rw[emax];have O:max at_.toNat now<=2^40:=by omega
    have Y:∀id' t,JE (vw l) id none id'=some t->vw l id'=some t:=λid' t hu=>by
     unfold JE at hu;split at hu
     ·cases hu
     ·exact hu
    refine cmS10 (ag4 h7 af ⟨id,max at_.toNat now,tn+1⟩ O λn k hn hk=>by have:=WI.short g2 Y hn hk;omega) ?_;rintro w8 ⟨f8,n,ss8,hn,ac,h8,hs8⟩;have hp:=g2.put (t:=⟨id,max at_.toNat now,tn+1⟩) (by unfold JE;simp) (by simp only;omega) O ac;have eP:JE (JE (vw l) id none) id (some ⟨id,max at_.toNat now,tn+1⟩)=vw (zn l id ⟨id,max at_.toNat now,tn+1⟩):=by
     rw[ahQ l ⟨id,max at_.toNat now,tn+1⟩];funext id';unfold JE;split<;>rfl
    rw[eP] at hp;have f18:gW W1 w8 (Fz d m ss1):=((((((f4.mono (S':=Fz d m ss1) λb e=> .inl e).ext (Ext.drew w4)).ext f5).trans f6q λb hb e=>by
      have h1z:=f4.size;have h2z:w4.drew.heap.size=w4.heap.size:=rfl;omega).ext (Ext.drew w6)).trans f7 λb hb e=> .inr (.inl e)).trans f8 λb _ hb=>hb
    have f28:gW w2 w8 (Fz d m ss):=g3.trans f18 λb hb hb2=>by
     rcases g4 b hb2 with e|e
     ·exact e
     ·omega
    have s7:w2.heap.size<=w7.heap.size:=by
     have a1:=g3.size;have a2:=f4.size;have a3:=f5.size;have a4:=f6q.size;have a5:=f7.size;have a6:w4.drew.heap.size=w4.heap.size:=rfl;have a7:w6.drew.heap.size=w6.heap.size:=rfl;omega
    obtain⟨F8,h8,hp⟩:∃F8,WM w8 d m ss8 (zn l id ⟨id,max at_.toNat now,tn+1⟩) now (tn+1) most F8/\WI now (vw (zn l id ⟨id,max at_.toNat now,tn+1⟩)) F8:=⟨_,h8,hp⟩;refine⟨eA.symm,f28,ss8,F8,λb hb=> ?_,?_⟩
    ·rcases hs8 b hb with e|e
     ·exact g4 b e
     ·exact .inr (by omega)
    ·rw[eA,if_pos rfl,if_pos rfl];refine⟨h8,hp,⟨hm.1,?_⟩,λid' u hu=> ?_,λi1 i2 u1 u2 q1 q2 q3=> ?_,by omega⟩
     ·rw[aaQ];split
      ·rename_i hn;have:¬most<=(l.length:Int):=λe=>N ⟨hn,e⟩;omega
      ·exact hm.2
     ·rw[Ar] at hu;split at hu
      ·cases hu;exact Int.le_refl _
      ·have:=h.tb id' u hu;omega
     ·rw[Ar] at q1 q2;split at q1
      ·rename_i e1;split at q2
       ·rename_i e2;rw[e1,e2]
       ·cases q1
        have:=h.tb _ _ q2;simp only at q3;omega
      ·split at q2
       ·cases q2
        have:=h.tb _ _ q1;simp only at q3;omega
       ·exact h.ti _ _ _ _ q1 q2 q3
   clear_value aa;have hW:=hw3.ext hx;have rW:=r3.ext hx;have xW:=f3.trans hx
   cases I:vw l id with
   |none=>
    rw[I] at hb11;rw[hb11,isSome_none,cond_false];refine ah W ss F hW ?_ (xW _) λb hb=> .inl hb;have:JE (vw l) id none=vw l:=by
     funext id';unfold JE;split
     ·rename_i e;rw[e,I]
     ·rfl
    rw[this];exact h.wi
   |some t=>
    rw[I] at hb11;have:=ht0 t I;subst this;obtain⟨p1,p2,p3⟩:=h.wi.pl id t0 I;rw[hb11,isSome_some,cond_true];simp only[sx,rW.cell];refine cmS10 (afo hW af t0 p3) ?_;rintro w4 ⟨f4,n,ss4,hn,ac,h4,hs4⟩;have aj:=h.wi.take I ac;rw[p1] at h4;exact ah w4 ss4 _ h4 aj ((xW _).trans f4 λb _ e=>e) λb hb=>by
     rcases hs4 b hb with e|e
     ·exact .inl e
     ·exact .inr (Nat.le_trans xW.size e)
  clear_value R
  cases I:vw l id with
  |none=>
   rw[I] at hb11;rw[hb11,isSome_none,Bool.not_false,cond_true];have hw3d:=hw3.ext (Ext.drew w3);simp only[f_,gJ,L6,hw3d.adT,hw3d.ajb];refine Yy hw3d.mp ⟨by trivial,?_⟩;by_cases J:(l.length:Int)>=most
   ·rw[decide_eq_true J];exact h18t ⟨I,J⟩ _ (f3.trans (Ext.drew w3))
   ·rw[decide_eq_false J];exact h18f (λe=>J e.2) _ (Ext.drew w3)
  |some t=>
   rw[I] at hb11;rw[hb11,isSome_some,Bool.not_true,cond_false];exact h18f (λe=>by rw[I] at e;cases e.1) _ (Ext.drew w3)
 clear_value J6;by_cases c1:id<0
 ·rw[decide_eq_true c1,cond_true];exact h6t (.inl c1)
 ·rw[decide_eq_false c1,cond_false];by_cases c2:id>2147483648
  ·rw[decide_eq_true c2,cond_true];exact h6t (.inr (.inl c2))
  ·rw[decide_eq_false c2,cond_false];by_cases c3:at_<0
   ·rw[decide_eq_true c3,cond_true];exact h6t (.inr (.inr (.inl c3)))
   ·rw[decide_eq_false c3,cond_false];by_cases c4:at_>1099511627776
    ·rw[decide_eq_true c4];exact h6t (.inr (.inr (.inr c4)))
    ·rw[decide_eq_false c4];exact h6f (by omega)
end
end Go.Proofs.WN
end
section
namespace Go.Proofs.WN
open Gp Gp.Wh
theorem Ij {α β:Type} {enc:α->Value} {ev:β->Value} {w:θ} {K:Addr->b_} (h:∀w1,pY enc ev w1 w.heap.size []->w1.heap.size=w.heap.size+1->Ext w w1->K ⟨w.heap.size,0,none⟩ w1):Al w (.map #[] 0) K:=
 h _ (pY.new w enc ev) (by simp) (λS=>gW.alloc w _ S)
theorem ag2 (n:Int) (hn:0<=n/\n<=1048576) (w:θ):Gs n w λp e w'=>Ext w w'/\e=0/\∃d m ss,p=some ⟨d,0,none⟩/\WS w' d m ss [] 0 0 n (λ_ _=>[])/\∀b,Fz d m ss b->w.heap.size<=b:=by
 apply X4;have c1:¬n<0:=by omega
 have c2:¬n>1048576:=by omega
 simp only[c1,c2,decide_false,cond_false];refine Ij (enc:=Uw) (ev:=evT) λw4 m4 z4 f4=> ?_;refine gq λd w5 r5 e5 z5 f5=> ?_;have I:∀(i:Nat) (s:fU),(List.replicate 448 (⟨none,0,0⟩:fU))[i]? =some s->s=⟨none,0,0⟩:=λi s hi=>by
  rw[getElem?_replicate] at hi;split at hi
  ·cases hi;rfl
  ·cases hi
 have noat:∀b,¬atS (List.replicate 448 (⟨none,0,0⟩:fU)) b:=λb ⟨i,s,hi,o,hs⟩=>by rw[I i s hi] at hs;cases hs
 refine⟨f4.trans f5,by trivial,d,w.heap.size,List.replicate 448 ⟨none,0,0⟩,rfl,⟨⟨?_,by simp,m4.ext f5,by simp,λn k hn hk=> ?_,λi j s s' b hij hi hj hb=> ?_,λb hb=>absurd hb (noat b),by omega,λ_ _ _ _=>by simp⟩,⟨λid t ht=> ?_,by omega,λn k t hn hk=> ?_,λn k hn hk=>by simp⟩,⟨by omega,by simpa using hn.1⟩,λid t ht=> ?_,λi i' t u ht=> ?_,by omega⟩,λb hb=> ?_⟩
 ·rw[List.map_replicate];exact r5
 ·refine⟨⟨none,0,0⟩,?_,iV.nil⟩;rw[getElem?_replicate,if_pos (by omega)]
 ·rw[I i s hi] at hb;obtain⟨o,ho⟩:=hb;cases ho
 ·cases ht
 ·constructor
  ·intro hx;simp at hx
  ·rintro⟨hx,_⟩;cases hx
 ·cases ht
 ·cases ht
 ·rcases hb with rfl|rfl|hb
  ·omega
  ·omega
  ·exact absurd hb (noat b)
end Go.Proofs.WN
end
section
namespace Gp.Pool
end Gp.Pool
namespace Go.Proofs.CN
end Go.Proofs.CN
namespace Go.Proofs.CN
end Go.Proofs.CN
namespace Go.Proofs.CN
end Go.Proofs.CN
namespace Go.Proofs.CN
open Gp
theorem aeD (a b:Int):(a==b)=decide (a=b):=rfl
theorem eqP (a b:Int):Fa υ 16 3 (Β a) (Β b)=some (decide (a=b)):=by
 have h:Fa υ 16 3 (Β a) (Β b)=some (a==b):=by kernel_rfl
 rw[h];rfl
theorem agh (a:Int):ny υ 3 (Β a)=true:=by
 unfold ny;rw[eqP];rfl
theorem DT (k:Int) (w:θ):lF k w λr w'=>r=decide (0<=k/\k<4294967296)/\w'=w:=by
 apply JJ;by_cases h:0<=k
 ·simp[h]
 ·simp[h]
end Go.Proofs.CN
namespace Go.Proofs.CN
open Gp
theorem Ip {w w':θ} {S:Nat->Prop} (h:gW w w' S) (l:Nat):gW (gG w l) (gG w' l) S:=by
 refine⟨by simpa [gG] using h.size,λb hb hn=> ?_,h.io⟩;have:=h.same b (by simpa [gG] using hb) hn;simp only[gG,Array.getElem?_modify,this]
end Go.Proofs.CN
namespace Go.Proofs.CN
open Gp
theorem YK {x y a:Int} (hy:0<=y) (hy2:y<=32) (w:θ):wQ x y a w λr w'=>r=(decide (0<=a/\a<4294967296) && (jH .i64 a (32 - y)==jH .i64 x (32 - y)))/\Ext w w':=by
 apply MZ;refine gq λt w1 r1 e1 z1 f1=> ?_;simp only[sx,r1.cell];refine cmS0 (DT a _) ?_;rintro _ w' ⟨rfl,hw⟩;subst hw;have f2:=f1.trans (Ext.drew w1);by_cases h:0<=a/\a<4294967296
 ·rw[Α];simp only[h,decide_true,cond_true,cond_true,List.getElem?_cons_zero,f_,gJ,r1.drew.cell,and_self,Bool.true_and];exact⟨by omega,by omega,by trivial,f2⟩
 ·simp only[h,decide_false,cond_false,Bool.false_and];exact⟨by trivial,f2⟩
def abe (a:Int):Prop:=0<=a/\a<4294967296/\(jH .i64 a 24==jH .i64 0 24)=false/\(jH .i64 a 24==jH .i64 2130706432 24)=false/\(jH .i64 a 29==jH .i64 3758096384 29)=false
theorem af5 {a:Int} (h:abe a) (w:θ):qJ a w λr w'=>r=true/\Ext w w':=by
 obtain⟨h1,h2,h3,h4,h5⟩:=h;apply MX;refine cmS0 (DT a _) ?_;rintro _ w' ⟨rfl,hw⟩;subst hw;have hr:(0<=a/\a<4294967296):=⟨h1,h2⟩;simp only[hr,and_self,decide_true,Bool.not_true,cond_false];refine gq λt w1 r1 e1 z1 f1=> ?_;refine cmS0 (K:=λr w2=>r=false/\Ext w1 w2) ?_ ?_
 ·apply PG;refine gX (λst W=>∃j:Nat,j<=3/\st.1=(j:Int)/\Ext w1 W) (λst _=>(3 - st.1).toNat) ⟨0,by omega,rfl,Ext.refl _⟩ ?_;rintro⟨i,⟨⟩⟩ W ⟨j,hj,hi,hx⟩ next u
  simp only at hi;subst hi;have r:=r1.ext hx;by_cases I:j<3
  ·have hl:((j:Int)<((3:Nat):Int)):=by omega
   have J:∃x y:Int,0<=y/\y<=32/\(jH .i64 a (32 - y)==jH .i64 x (32 - y))=false/\W.cell? ⟨t,j * 2,none⟩=some (Β x)/\W.cell? ⟨t,j * 2+1,none⟩=some (Β y):=by
    match j,I with
    |0,_=>exact⟨0,8,by omega,by omega,h3,r.cell 0,r.cell 1⟩
    |1,_=>exact⟨2130706432,8,by omega,by omega,h4,r.cell 2,r.cell 3⟩
    |2,_=>exact⟨3758096384,3,by omega,by omega,h5,r.cell 4,r.cell 5⟩
   obtain⟨x,y,hy,hy2,hs,c0,c1⟩:=J;simp only[sx,hl,decide_true,toNat_natCast,c0,c1];refine⟨by first|trivial|omega,by first|trivial|omega,?_⟩
   refine DX rfl rfl λb w3 r3 e3 z3 x3=> ?_;simp only[sx,r3.cell];refine cmS0 (YK hy hy2 _) ?_;rintro _ w4 ⟨rfl,x4⟩;simp only[hs,Bool.and_false,cond_false];rw[Α];exact u _ _ ⟨j+1,by omega,by simp,(hx.trans x3).trans x4⟩ (by simp only;omega)
  ·have hl:¬((j:Int)<((3:Nat):Int)):=by omega
   simp only[hl,decide_false,cond_false];exact⟨by trivial,hx⟩
 ·rintro _ w2 ⟨rfl,f2⟩;exact⟨rfl,f1.trans f2⟩
end Go.Proofs.CN
namespace Go.Proofs.CN
open Gp
theorem ahd {w:θ} {K:Addr->b_} (h:∀w1,(∀(α:Type) (enc:α->Value),xO enc w1 w.heap.size [])->w1.heap.size=w.heap.size+1->Ext w w1->K ⟨w.heap.size,0,none⟩ w1):Al w (.map #[] 0) K:=
 h _ (λ_ enc=>xO.new w enc) (by simp) (λS=>gW.alloc w _ S)
end Go.Proofs.CN
end
