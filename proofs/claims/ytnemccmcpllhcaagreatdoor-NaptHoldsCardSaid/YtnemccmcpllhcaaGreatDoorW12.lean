import Derived.Test.YtnemccmcpllhcaaGreatDoorW11
import Derived.Test.YtnemccmcpllhcaaGreatDoorW9
import Derived.Test.YtnemccmcpllhcaaGreatDoorW3
set_option maxRecDepth 100000
set_option maxHeartbeats 1000000
section
namespace Go.Proofs.PO
open Gp
open Gp.PoolN (stepL stepL_get alike cls oth)
theorem afB {w:θ} {b i:Nat} {l:List Value} {v:Value} {K:b_} (hr:Row w b l) (h1:iL v=true) (hi:l[i]? =some v) (h:∀w',Ext w w'->w'.heap.size=w.heap.size->K w'):St w ⟨b,i,none⟩ v K:=by
 refine⟨h1,by rw[hr.cell,hi];rfl,hr.frozen i,h _ (λS=> ?_) (by simp)⟩;have hf:gU w (w.setCell ⟨b,i,none⟩ v) (·=b):=gU.set w ⟨b,i,none⟩ v rfl;refine⟨hf.size,λc hc _=> ?_,hf.io⟩;by_cases e:c=b
 ·subst e;obtain⟨T,ht⟩:=hr;obtain⟨hlt,hv⟩:=ady.1 hi;show (w.heap.modify c _)[c]? =w.heap[c]?;rw[ajZ,Ζ rfl,ht];subst hv;simp
 ·exact hf.same c hc e
theorem mask {x:Int} (h:0<=x) (h2:x<=65535):kT .i64 x 65535=x:=by
 obtain⟨m,rfl⟩:∃m:Nat,x=(m:Int):=⟨x.toNat,by omega⟩;rw[show (65535:Int)=((65535:Nat):Int) from rfl,MJ (by omega) (by decide),show (65535:Nat)=2^16 - 1 from rfl,alu,Nat.mod_eq_of_lt (by omega)]
theorem aem {A B X:List Int} {f:Int->Bool} {i:Nat} {x:Int} (hx:X[i]? =some x) (hp:f x=true):(A++(X.filter f++B))[A.length+((X.take i).filter f).length]? =some x:=by
 obtain⟨h,rfl⟩:=ady.1 hx;have hX:X.filter f=(X.take i).filter f++(X[i]::(X.drop (i+1)).filter f):=by
  conv=>lhs;rw[<- ajS i X,ake,akB h,List.filter_cons_of_pos hp]
 rw[ajy (by omega),hX];simp
theorem V5 {X:List Int} {f:Int->Bool} {i:Nat} {x:Int} (hx:X[i]? =some x):((X.take (i+1)).filter f).length=((X.take i).filter f).length+(if f x then 1 else 0):=by
 rw[akc,hx];by_cases h:f x=true<;>simp[ake,h]
def abL (lo hi want:Int) (cl cl':Int×Int):List (List Int):=
 [stepL (min hi cl.2) (max (want+2) (alike (max lo cl.1) want)) 2,stepL (min hi cl.2) (alike (max lo cl.1) want) 2,stepL (min hi cl'.2) (alike (max lo cl'.1) want) 2,stepL hi (alike lo (want+1)) 2]
def H8 (want:Int) (j:Nat) (p:Int):Bool:=decide (p≠want/\¬(j=1/\want<=p))
def Nh (lo hi want:Int):List Int:=if lo<=want/\want<=hi then [want] else []
def yZ (want:Int):Nat->List (List Int)->List Int
 |_,[]=>[]
 |j,r::rs=>r.filter (H8 want j)++yZ want (j+1) rs
theorem Wi (want:Int):∀(a b:List (List Int)) (k:Nat),yZ want k (a++b)=yZ want k a++yZ want (k+a.length) b:=by
 intro a
 induction a with
 |nil=>intro b k;simp[yZ]
 |cons x a ih=>
  intro b k;simp only[akv,yZ,ih,ajj,aeW];rw[show k+1+a.length=k+(a.length+1) by omega]
def Uj (want:Int) (h:List Int) (rs:List (List Int)) (j:Nat):List Int:=h++yZ want 0 (rs.take j)
theorem ae_ {want:Int} {h:List Int} {rs:List (List Int)} {j:Nat} {r:List Int} (hr:rs[j]? =some r):
  h++yZ want 0 rs=Uj want h rs j++(r.filter (H8 want j)++yZ want (j+1) (rs.drop (j+1))):=by
 obtain⟨u,rfl⟩:=ady.1 hr;have e:rs=rs.take j++(rs[j]::rs.drop (j+1)):=by rw[<- akB u,ajS]
 unfold Uj
 conv=>lhs;rw[e,Wi,ahP,akw (by omega),yZ,ahA]
 simp only[ajj]
theorem ac3 {want:Int} {h:List Int} {rs:List (List Int)} {j:Nat} {r:List Int} (hr:rs[j]? =some r):
  (Uj want h rs (j+1)).length=(Uj want h rs j).length+(r.filter (H8 want j)).length:=by
 obtain⟨u,rfl⟩:=ady.1 hr;unfold Uj;rw[akc,abe u,Wi,ahP,akw (by omega)];simp[yZ];omega
def CG (n lo hi want:Int):List (List Int):=if n=1 then [stepL hi lo 1] else abL lo hi want (cls want) (oth want)
def Bl (n lo hi want:Int):List Int:=Nh lo hi want++yZ want 0 (CG n lo hi want)
theorem ade {n lo hi want:Int}:(CG n lo hi want).length<=4/\(n=1->(CG n lo hi want).length=1):=by
 unfold CG;split
 ·exact⟨by simp,λ_=>rfl⟩
 ·rename_i h;exact⟨by simp[abL],λh'=>absurd h' h⟩
theorem afh {w:θ} {p g:Nat} {lo hi want n:Int} {s:fU} (h:Row w p (Ρ lo hi s g)) (h1:vN lo) (h2:vN hi) (h3:vN want) (h4:want<=65535):
  sQ (some ⟨p,0,none⟩) n want w λr w'=>Ext w w'/\∃b vs,r=⟨some ⟨b,0,none⟩,(CG n lo hi want).length,(CG n lo hi want).length⟩/\Row w' b vs/\w.heap.size<=b/\
   ∀j,j<(CG n lo hi want).length->∃v r,(CG n lo hi want)[j]? =some r/\vs[j]? =some v/\uQ w w' v r:=by
 by_cases hn:n=1
 ·subst hn;apply Cj;have hd:=h.drew;have e:((1:Int)==1)=true:=rfl;simp only[e,Δ,sx,hd.cell];refine cmS5 (step_ok (by have:=h1.1;omega) (by decide) h2 (by have:=h1.1;omega) (by have:=h1.2;omega) _) ?_;rintro v W ⟨f,y⟩;refine⟨⟨y.1,trivial⟩,gu λb W2 r2 e2 z2 f2=> ?_⟩;have hs:=f.size;refine⟨((Ext.drew w).trans f).trans f2,b,[v],rfl,r2,by have:w.drew.heap.size=w.heap.size:=rfl;omega,λj hj=> ?_⟩;have:j=0:=by simp[CG] at hj;omega
  subst this;exact⟨v,stepL hi lo 1,rfl,rfl,(y.ext f2).back (aiq _)⟩
 ·refine cmS2 (rows_ok h hn h1 h2 h3 h4) ?_;rintro r W ⟨f,b,v0,v1,v2,v3,rfl,rb,lb,y0,y1,y2,y3⟩;have e:CG n lo hi want=abL lo hi want (cls want) (oth want):=Ε hn;rw[e];refine⟨f,b,_,rfl,rb,lb,λj hj=> ?_⟩
  match j,hj with
  |0,_=>exact⟨v0,_,rfl,rfl,y0⟩
  |1,_=>exact⟨v1,_,rfl,rfl,y1⟩
  |2,_=>exact⟨v2,_,rfl,rfl,y2⟩
  |3,_=>exact⟨v3,_,rfl,rfl,y3⟩
theorem ϡ {p g f0 f1 f2:Nat} {lo hi want n:Int} {s:fU} (hn:n=1\/n=6\/n=17) (h1:vN lo) (h2:vN hi) (h3:0<=want) (h4:want<=65535):
  MB υ [.one ν] (Value.func (.func JG) #[] #[(Value.pointer (some ⟨f0,0,none⟩)),(Value.pointer (some ⟨f1,0,none⟩)),(Value.pointer (some ⟨f2,0,none⟩))])
   (λW=>Row W f0 [.pointer (some ⟨p,0,none⟩)]/\Row W f1 [.int .i64 n]/\Row W f2 [.int .i64 want]/\Row W p (Ρ lo hi s g)) (yP (Bl n lo hi want)):=by
 refine⟨by kernel_rfl,λl w Q D hC hQ hD hy h0=> ?_⟩;refine Calls.mono (Iq (a0:= .func (.yield l) #[] #[]) (f0:=⟨f0,0,none⟩) (f1:=⟨f1,0,none⟩) (f2:=⟨f2,0,none⟩) (K:=λw'=>Q (yP (Bl n lo hi want)).length w'\/D w') ?_) (λe w' h=>h);obtain⟨hm4,hm1⟩:=ade (n:=n) (lo:=lo) (hi:=hi) (want:=want);have hlen:(yP (Bl n lo hi want)).length=(Uj want (Nh lo hi want) (CG n lo hi want) (CG n lo hi want).length).length:=by
  simp only[yP,ahv,Bl,Uj,ajU]
 rw[hlen];refine⟨rfl,gu λb3 w1 r3 e3 z3 x3=> ?_⟩;have up:∀{i W W'},Q i W->Ext W W'->Q i W':=λhq hx=>hQ _ _ _ hq (hx _);have q1:=up h0 x3;intro J4
 suffices hJ4:J4 false w1 by
  obtain⟨c0,c1,c2,c3⟩:=hC _ _ q1;simp only[sx,Ci,Cs,c0.cell];refine cmS0 (Ef c3) ?_;rintro _ w' ⟨rfl,hw⟩;subst hw;simp only[ab6,Β,abY,fZ,gq,c1.cell];refine cmS0 (NY n _) ?_;rintro _ w' ⟨rfl,hw⟩;subst hw;have:(n=1\/n=6\/n=17):=hn;simp only[this,aaA,ab6];exact hJ4
 obtain⟨c0,c1,c2,c3⟩:=hC _ _ q1;simp -zeta only[sx,Ci,Cs,J4,c2.cell,mask h3 h4];refine afB c2 rfl rfl λw8 x8 z8=> ?_;have q8:=up q1 x8;have r8:=r3.ext x8;intro J9;have hJ9:∀W,Q (Nh lo hi want).length W->Row W b3 [.func (.yield l) #[] #[]]->w.heap.size<=W.heap.size->J9 false W:=by
  intro W hq hb3 hs;simp -zeta only[J9,Β];obtain⟨c0,c1,c2,c3⟩:=hC _ _ hq;simp -zeta only[abY,fZ,gq,oM,c0.cell,c1.cell,c2.cell];refine cmS2 (afh c3 h1 h2 ⟨h3,by omega⟩ h4) ?_;rintro _ W1 ⟨xr,b,vs,rfl,rb,lb,hy4⟩;have q1':=up hq xr;have hb3':=hb3.ext xr;have sr:=xr.size;unfold Bl at hy;generalize CG n lo hi want=R at hy4 hy hm4 hm1 ⊢;generalize Nh lo hi want=H at hq q1' hy ⊢;have b3w:b3<W1.heap.size:=hb3'.lt;refine gK (λst W'=>∃j:Nat,j<=R.length/\st.1.1=(j:Int)/\Q (Uj want H R j).length W'/\gU W1 W' (·<w.heap.size)/\(∀d∈st.2,W1.heap.size<=d/\d<W'.heap.size/\W'.heap[d]? =some (.deferred (some [])))/\st.2.Nodup)
   (λst _=>((R.length:Int) - st.1.1).toNat) ⟨0,by omega,rfl,by simpa [Uj,yZ] using q1',gU.refl _ _,by simp,by simp⟩ ?_
  rintro⟨⟨jj,⟨⟩⟩,ds⟩ W2 ⟨j,hj,af,hq2,f2',hd2,nd2⟩ next J
  simp only at af hd2 nd2;subst af;have s2:=f2'.size;by_cases hj4:j<R.length
  ·obtain⟨v,r,hr,hv,an⟩:=hy4 j hj4;have rb2:=rb.fr f2' (by omega);have O:((j:Int)<(R.length:Int)):=by omega
   simp only[O,aaA,Δ];refine rM (b:=b) (o:=0) rfl (by omega) (by simp only;omega) ?_;simp only[Η,ahA,ahy];have rv:W2.cell? ⟨b,j,none⟩=some v:=by rw[rb2.cell];exact hv
   simp only[Β,fZ,Jf,rv];refine gu λa23 W3 ao e23 z23 aq=> ?_;refine gX ao rfl (by simp) λW4 ag f24 z24=> ?_;have u:Ext W2 W4:=aq.new (f24 (·=a23) rfl) λx hx e=>by omega
   simp only[agE] at ag;have q4:=up hq2 u;have f4:gU W1 W4 (·<w.heap.size):=f2'.ext u;have Y:Row W4 b3 _:=hb3'.fr f4 (by omega);obtain⟨_,C,ar,au⟩:=an;refine Bh ar (λi W'=>Q ((Uj want H R j).length+((r.take i).filter (H8 want j)).length) W'/\gU W4 W' (·<w.heap.size)) (λe W'=>e= .ret/\D W'/\gU W4 W' (·<w.heap.size)) (by simp) ?_ ?_ ?_ ?_ ?_ ?_ ?_ ?_ ?_
   ·exact λW' hx _=>⟨by simpa using up q4 hx,hx _⟩
   ·exact λi W' hI=>au W' _ (f4.trans hI.2 λ_ _ e=>e) λx hx O=>by omega
   ·exact λi W' W'' hI hf=>⟨hQ _ _ _ hI.1 (hf.mono λx e=>by simp only[nG] at e;simp at e;omega),hI.2.trans hf λx hx e=>by simp[nG] at e;omega⟩
   ·exact λe W' W'' hI hf=>⟨hI.1,hD _ _ hI.2.1 (hf.mono λx e=>by simp only[nG] at e;simp at e;omega),hI.2.2.trans hf λx hx e=>by simp[nG] at e;omega⟩
   ·exact λe W' hI=> .inl hI.1
   ·rintro i ⟨p',⟨⟩⟩ W' Kb hx ⟨Z,I⟩ aa hn2 hj2;rw[UF] at hx;obtain⟨p'',hp,he⟩:=akW.1 hx;have av:p''=p':=congrArg Prod.fst he;subst av;have lq:nG none W4=W4.heap.size+1:=rfl;have ah:=u.size;rw[lq] at aa hn2 hj2 ⊢;refine⟨by trivial,?_⟩;have qb:Q _ (gG W' (W4.heap.size+1)):=hQ _ _ _ Z ((gU.gG W' _).mono λx e=>by omega);obtain⟨d0,d1,d2,d3⟩:=hC _ _ qb;have N:gU W4 (gG W' (W4.heap.size+1)) (·<w.heap.size):=I.trans (gU.gG W' _) λx hx e=>by omega
    have ra:=ag.fr N (by omega);have rb3:=Y.fr N (by omega);have skip:H8 want j p''=false->Kb .normal (gG W' (W4.heap.size+1)):=λhk=>
     hn2 _ (λ_=>False) (gU.refl _ _) (by simp) ⟨by rw[V5 hp,hk];simpa using qb,N⟩
    have go:H8 want j p''=true->jB υ [.one .bool] (.func (.yield l) #[] #[]) [.int .i64 p''] (gG W' (W4.heap.size+1)) λY ai=>
      ∃aj:Bool,Y=(Value.bool aj)/\(bif (!aj) then Kb .ret ai else Kb .normal ai):=λhk=>
     lI (hy ((Uj want H R j).length+((r.take i).filter (H8 want j)).length) (p'',()) _ _ (by rw[UF,ae_ hr,aem hp hk];rfl) qb
      (λW'' hq'' hf''=>⟨true,rfl,hn2 W'' (·<w.heap.size) hf'' (λx h1 h2 h3=>by omega) ⟨by rw[V5 hp,hk];exact hq'',N.trans hf'' λ_ _ e=>e⟩⟩)
      (λW'' hd hf''=>⟨false,rfl,hj2 .ret W'' (·<w.heap.size) hf'' (λx h1 h2 h3=>by omega) ⟨rfl,hd,N.trans hf'' λ_ _ e=>e⟩⟩))
    simp only[Δ,abY,fZ,gq,Jf,ra.cell,rb3.cell,d1.cell,d2.cell];by_cases hw:p''=want
    ·have hb:(p''==want)=true:=by simp[hw]
     simp only[hb,Δ,Bool.cond_self];exact skip (by simp[H8,hw])
    ·have hb:(p''==want)=false:=by simp[hw]
     simp only[hb,Β];by_cases hj1:j=1
     ·have hb2:((j:Int)==1)=true:=by simp[hj1]
      have hn1:(n !=1)=true:=by
       rw[aj3];intro hn1;have:=hm1 hn1;omega
      simp only[hb2,Δ];by_cases ak:p''>=want
      ·simp only[ak,aaA,Δ,hn1];exact skip (by simp[H8,hj1];omega)
      ·simp only[ak,aaV,Β];exact go (by simp[H8,hw];omega)
     ·have hb2:((j:Int)==1)=false:=by simp;omega
      simp only[hb2,Β];exact go (by simp[H8,hw,hj1])
   ·rintro W' ⟨Z,I⟩ hm;have hm:=hm rfl;have ah:=u.size;have s4:=I.size;rw[Α];refine J _ _ ⟨j+1,by omega,by simp,?_,f4.trans I λ_ _ e=>e,?_,?_⟩ (by simp only;omega)
    ·rw[ac3 hr]
     rwa [aji (by simp[yP])] at Z
    ·intro d hd;rcases afm.1 hd with rfl|hd
     ·exact⟨by omega,(aiQ.1 hm).1,hm⟩
     ·obtain⟨g1,g2,g3⟩:=hd2 d hd;exact⟨g1,by omega,by rw[I.same d (by omega) (by omega),(u λ_=>False).same d (by omega) (by simp)];exact g3⟩
    ·simp only[akj];exact⟨λhd=>by have:=hd2 _ hd;omega,nd2⟩
   ·rintro W' ⟨_,hd,I⟩ hm;have hm:=hm rfl;have ah:=u.size;refine DU (n:=w.heap.size) _ W' ?_ ?_ λw6 f6 z6=> .inr (hD _ _ hd f6)
    ·intro d hd;rcases afm.1 hd with rfl|hd
     ·exact⟨by omega,hm⟩
     ·obtain⟨g1,g2,g3⟩:=hd2 d hd;exact⟨by omega,by rw[I.same d (by omega) (by omega),(u λ_=>False).same d (by omega) (by simp)];exact g3⟩
    ·simp only[akj];exact⟨λhd=>by have:=hd2 _ hd;omega,nd2⟩
   ·rintro id W' ⟨h,_⟩
    cases h
  ·have hj':j=R.length:=by omega
   subst hj';have O:¬((R.length:Int)<(R.length:Int)):=by omega
   simp only[O,aaV,Β];refine DU (n:=w.heap.size) ds W2 (λd hd=>⟨by have:=hd2 d hd;omega,(hd2 d hd).2.2⟩) nd2 λw6 f6 z6=> .inl (hQ _ _ _ hq2 f6)
 obtain⟨c0,c1,c2,c3⟩:=hC _ _ (up q8 (Ext.drew w8));simp only[sx,Ci,Cs,c0.cell,c2.cell,c3.cell];refine cmS0 (ϒ lo hi want _) ?_;rintro _ am ⟨rfl,ab⟩;have ac:=up (up q8 (Ext.drew w8)) ab;have ae:=(r8.ext (Ext.drew w8)).ext ab;have s52:=ab.size;have s8:=x8.size;have s3:=x3.size;have sd:=(Ext.drew w8).size;by_cases U:lo<=want/\want<=hi
 ·have hh:Nh lo hi want=[want]:=by unfold Nh;rw[Ζ U]
  obtain⟨c0,c1,c2,c3⟩:=hC _ _ ac;simp only[U,aaA,aj7,Δ,Δ,abY,fZ,gq,Jf,ae.cell,c2.cell];refine lI (hy 0 (want,()) am _ ?_ ac ?_ ?_)
  ·rw[UF,Bl,hh];rfl
  ·intro W' hq' hf';exact⟨true,rfl,hJ9 W' (by rw[hh];exact hq') (ae.fr hf' (by omega)) (by have:=hf'.size;omega)⟩
  ·intro W' hd hf';refine⟨false,rfl,?_⟩;show (bif true then _ else _);exact .inr hd
 ·have hh:Nh lo hi want=[]:=by unfold Nh;rw[Ε U]
  simp only[U,aaV,Β];exact hJ9 am (by rw[hh];exact ac) ae (by omega)
theorem ads {w:θ} {p g:Nat} {lo hi want n:Int} {s:fU} (h:Row w p (Ρ lo hi s g)) (hn:n=1\/n=6\/n=17) (h1:vN lo) (h2:vN hi) (h3:0<=want) (h4:want<=65535):
  vY (some ⟨p,0,none⟩) n want w λv w'=>Ext w w'/\∃C,MB υ [.one ν] v C (yP (Bl n lo hi want))/\
   ∀W S,gU w' W S->(∀b,w.heap.size<=b->b<w'.heap.size->¬S b)->¬S p->C W:=by
 apply LU;refine⟨rfl,gu λa w1 r1 e1 z1 f1=>⟨rfl,gu λb w2 r2 e2 z2 f2=>⟨rfl,gu λt w3 r3 e3 z3 f3=> ?_⟩⟩⟩;have r1:=(r1.ext f2).ext f3;have r2:=r2.ext f3;have hp:=((h.ext f1).ext f2).ext f3;exact⟨(f1.trans f2).trans f3,_,ϡ hn h1 h2 h3 h4,λW S hf hs u=>⟨r1.fr hf (hs _ (by omega) (by omega)),r2.fr hf (hs _ (by omega) (by omega)),r3.fr hf (hs _ (by omega) (by omega)),hp.fr hf u⟩⟩
theorem QG {w w':θ} {S:Nat->Prop} (h:gU w w' S) (l:Nat):gU (gG w l) (gG w' l) S:=by
 refine⟨by simpa [gG] using h.size,λb hb hn=> ?_,h.io⟩;have:=h.same b (by simpa [gG] using hb) hn;simp only[gG,ajZ,this]
end Go.Proofs.PO
end
section
namespace Go.Proofs.PN
open Gp Go.Proofs.CN
abbrev O3:=Int×Int×Int
def aal (x:O3):Value:= .agg ⟨[.int .i64 x.1,.int .i64 x.2.1,.int .i64 x.2.2]⟩
def evU (_:Unit):Value:= .bool true
theorem eqO (a b:O3):E8 υ 16 48 (aal a) (aal b)=some (decide (a=b)):=by
 have h:E8 υ 16 48 (aal a) (aal b)=some ((a.1==b.1) && ((a.2.1==b.2.1) && ((a.2.2==b.2.2) && true))):=by kernel_rfl
 rw[h];obtain⟨a1,a2,a3⟩:=a;obtain⟨b1,b2,b3⟩:=b;have ib:∀x y:Int,(x==y)=decide (x=y):=λ_ _=>rfl;simp[ib,ajW]
theorem acN (a:O3):oz υ 48 (aal a)=true:=by
 unfold oz;rw[eqO];rfl
structure PL (w:θ) (p g:Nat) (s:fU) (lo hi:Int) (pl:List Int) (G:List (O3×Unit)):Prop where
 hd:Row w p [.int .i64 lo,.int .i64 hi,.slice s.a s.len s.cap,.map (some g)]
 ad:iY 1 eI w s pl
 gv:rG aal evU w g G
 nd:(G.map (·.1)).Nodup
 ln:pl.length<=16
 pg:p≠g
 sp:¬fU.at s p
 sg:¬fU.at s g
def fp (p g:Nat) (s:fU) (b:Nat):Prop:=b=p\/b=g\/fU.at s b
variable {w w':θ} {p g:Nat} {s:fU} {lo hi:Int} {pl:List Int} {G:List (O3×Unit)}
theorem PL.fr {S:Nat->Prop} (h:PL w p g s lo hi pl G) (hf:gU w w' S) (hs:∀b,fp p g s b->¬S b):PL w' p g s lo hi pl G:=
 ⟨h.hd.fr hf (hs _ (.inl rfl)),h.ad.fr hf λb hb=>hs _ (.inr (.inr hb)),h.gv.fr hf (hs _ (.inr (.inl rfl))),h.nd,h.ln,h.pg,h.sp,h.sg⟩
theorem PL.ext (h:PL w p g s lo hi pl G) (hf:Ext w w'):PL w' p g s lo hi pl G:=h.fr (hf λ_=>False) (λ_ _=>by simp)
theorem PL.sl (h:PL w p g s lo hi pl G):lD 1 eI w s pl:=h.ad.sl jc (by omega)
theorem PL.sln (h:PL w p g s lo hi pl G):s.len<=2^62:=by rw[h.sl.len];have:=h.ln;omega
theorem Ef (h:PL w p g s lo hi pl G):jT (some ⟨p,0,none⟩) w λr w'=>r=true/\w'=w:=by
 apply Bc;simp only[sx,h.hd.cell,aek];exact⟨by trivial,by trivial⟩
theorem aeC (h:PL w p g s lo hi pl G) (x:Int):uS (some ⟨p,0,none⟩) x w λr w'=>r=decide (x∈pl)/\w'=w:=by
 apply OZ;refine cmS0 (Ef h) ?_;rintro r w' ⟨rfl,hw⟩;subst hw;simp only[sx,h.hd.cell];refine cmS0 (BZ h.sl h.sln x) ?_;rintro r w' ⟨rfl,hw⟩;exact⟨rfl,hw⟩
theorem NY (n:Int) (w:θ):sU n w λr w'=>r=decide (n=1\/n=6\/n=17)/\w'=w:=by
 apply KH;by_cases h1:n=1
 ·subst h1;simp
 by_cases h6:n=6
 ·subst h6;simp
 by_cases h:n=17
 ·subst h;simp
 ·simp[h1,h6,h]
theorem agi (h:PL w p g s lo hi pl G) {x y z:Int} (h1:x=1\/x=6\/x=17) (h2:y∈pl) (h3:0<=z) (h4:z<65536) (hn:(x,y,z)∉G.map (·.1)):
  wY (some ⟨p,0,none⟩) x y z w λe w'=>e=0/\PL w' p g s lo hi pl (Bo G (x,y,z) ())/\gU w w' (·=g):=by
 apply NQ;refine gu λt w1 r1 e1 z1 f1=> ?_;have hp:=h.ext f1;refine cmS0 (Ef hp) ?_;rintro r w1 ⟨rfl,hw⟩;subst hw;simp only[ab6,Β,sx,r1.cell];refine cmS0 (NY x w1) ?_;rintro r w1 ⟨rfl,hw⟩;subst hw;simp only[h1,aaA,ab6,Β,sx,r1.cell];refine cmS0 (aeC hp y) ?_;rintro r w1 ⟨rfl,hw⟩;subst hw;have h3':¬(z<0):=by omega
 have h4':¬(z>=65536):=by omega
 simp only[h2,h3',h4',aaA,aaV,ab6,Β,sx,r1.cell,hp.hd.drew.cell,r1.drew.cell];have fd:=Ext.drew w1;refine Gz (k:= .bool) ((hp.gv).ext fd) eqO (x,y,z) (acN _) (λ_=> ?_) (λb hb=>absurd hb (by rw[qA.2 hn];simp));simp only[sx,hp.hd.drew.drew.cell,r1.drew.drew.cell];refine Ag (ev:=evU) (((hp.gv).ext fd).ext (Ext.drew _)) eqO (x,y,z) () (acN _) λw2 g2 f2 z2=> ?_;have hp2:=(hp.ext fd).ext (Ext.drew _);exact⟨by trivial,⟨hp2.hd.fr f2 h.pg,hp2.ad.fr f2 (λb hb e=>h.sg (e ▸ hb)),g2,Oc h.nd _ _,h.ln,h.pg,h.sp,h.sg⟩,((f1.trans fd).trans (Ext.drew _)).fr f2⟩
theorem afY (h:PL w p g s lo hi pl G) {x y z:Int} (hm:(x,y,z)∈G.map (·.1)):
  wX (some ⟨p,0,none⟩) x y z w λr w'=>r=true/\PL w' p g s lo hi pl (DW G (x,y,z))/\gU w w' (·=g):=by
 apply NP;refine gu λt w1 r1 e1 z1 f1=> ?_;have fd:=Ext.drew w1;have hp:=(h.ext f1).ext fd;have hp2:=hp.ext (Ext.drew _);refine cmS0 (Ef hp) ?_;rintro r w1 ⟨rfl,hw⟩;subst hw;simp only[ab6,Β,sx,hp.hd.cell,r1.drew.cell];refine Gz (k:= .bool) hp.gv eqO (x,y,z) (acN _) (λhb=>absurd hm (qA.1 hb)) (λb _=> ?_);simp only[evU,ab6,Β,sx,hp2.hd.cell,r1.drew.drew.cell];refine Rh (ev:=evU) hp2.gv eqO (x,y,z) (acN _) λw2 g2 f2 z2=> ?_;exact⟨by trivial,⟨hp2.hd.fr f2 h.pg,hp2.ad.fr f2 (λb hb e=>h.sg (e ▸ hb)),g2,h.nd.sublist ((Xu G _).map _),h.ln,h.pg,h.sp,h.sg⟩,((f1.trans fd).trans (Ext.drew _)).fr f2⟩
theorem aaI {s:fU} {lo hi:Int} {pl:List Int} (hs:lD 1 eI w s pl) (h0:1<=pl.length) (U:pl.length<=16) (hn:pl.Nodup) (hh:∀a∈pl,mD a) (h1:1<=lo) (h2:lo<=hi) (h3:hi<65536):
  KW s lo hi w λr e w'=>e=0/\Ext w w'/\∃p g s',r=some ⟨p,0,none⟩/\PL w' p g s' lo hi pl []/\∀b,fp p g s' b->w.heap.size<=b:=by
 apply ZW;have hl:s.len=pl.length:=hs.len;intro J4;have a1:¬((s.len:Int)<1):=by omega
 have a2:¬((s.len:Int)>16):=by omega
 have a3:¬(lo<1):=by omega
 have a4:¬(hi<lo):=by omega
 have a5:¬(hi>=65536):=by omega
 simp -zeta only[a1,a2,a3,a4,a5,aaV,Β];simp only[J4,Β];refine gK (λst W=>∃i:Nat,i<=pl.length/\st.1=(i:Int)/\Ext w W) (λst _=>pl.length - st.1.toNat) ⟨0,by omega,rfl,Ext.refl _⟩ ?_;rintro⟨i',⟨⟩⟩ W ⟨i,hi',hi2,hx⟩ next I
 simp only at hi2;subst hi2;by_cases N:i<pl.length
 ·have u:((i:Int)<(s.len:Int)):=by omega
  simp only[u,aaA,Δ];have O:pl[i]∈pl:=ajm N;refine SN.BJ (hs.ext hx) (abe N) λa c0=> ?_;simp only[VL,c0,fZ,gq];refine cmS0 (zN _ W) ?_;rintro _ w1 ⟨rfl,f1⟩;simp only[hh _ O,aaA,ab6,Β];refine abg jc (hs.ext (hx.trans f1)) (by omega) (by omega) (by omega) λs1 hs1=> ?_;have hl1:s1.len<=2^62:=by rw[hs1.len];simp;omega
  refine cmS0 (BZ hs1 hl1 _) ?_;rintro _ w2 ⟨rfl,hw⟩;subst hw;have Y:pl[i]∉(pl.take (i:Int).toNat).drop (0:Int).toNat:=by
   simp only[Η,ak4,alg];exact Gp.Cfg.vC.1 hn i _ (abe N)
  simp only[Y,aaV,Β];rw[Α];exact I _ _ ⟨i+1,by omega,by simp,hx.trans f1⟩ (by simp only;omega)
 ·have u:¬((i:Int)<(s.len:Int)):=by omega
  simp only[u,aaV,Β];refine cmS2 (SN.Ov (hs.ext hx) (by omega)) ?_;rintro s' w1 ⟨f1,hb,R⟩;refine SN.Me (enc:=aal) (ev:=evU) λw2 hm z2 f2=> ?_;refine gu λp w3 r3 e3 z3 f3=> ?_;have J:∀b,fU.at s' b->b<w1.heap.size:=λb hb'=>hb.lt hb';refine⟨by trivial,((hx.trans f1).trans f2).trans f3,p,w1.heap.size,s',rfl,⟨r3,(hb.ext f2).ext f3,hm.ext f3,by simp,U,by omega,λh=>by have:=J _ h;omega,λh=>by have:=J _ h;omega⟩,?_⟩;have hz:=(hx.trans f1).size;have hz1:=hx.size;rintro b (rfl|rfl|hb')
  ·omega
  ·omega
  ·have:=R b hb';omega
end Go.Proofs.PN
end
section
namespace Go.Proofs.EN
open Gp Go.Proofs
open Gp.Bind (Bnd Slots live GoodB freeN getS In64)
structure EA where
 x:Nat
 p:Nat
 g:Nat
 ps:fU
 qb:Nat
 qs:Nat
 B:QZ
 T:SN.QZ
 d:Nat
 m:Nat
 ss:List fU
def own (a:EA):Nat->Nat->Prop
 |0,b=>b=a.x
 |1,b=>PN.fp a.p a.g a.ps b
 |2,b=>b=a.qb\/b=a.qs
 |3,b=>fp a.B b
 |4,b=>SN.fp a.T b
 |5,b=>WN.pK a.d a.m a.ss b
 |_,_=>False
structure Cf where
 C:List Value
 sw:fU
 pl:List Int
 lo:Int
 hi:Int
 q:Int
 nb:Int
 ns:Int
structure aiE (c:Cf):Prop where
 len:c.C.length=36
 c16:c.C[16]? =some (.slice c.sw.a c.sw.len c.sw.cap)
 c20:c.C[20]? =some (.int .i64 c.q)
 c21:c.C[21]? =some (.int .i64 c.nb)
 c22:c.C[22]? =some (.int .i64 c.ns)
 sw:c.sw.len<=64
 b1:1<=c.nb/\c.nb<=4096
 q1:1<=c.q/\c.q<=4096
 s1:1<=c.ns/\c.ns<=4096
 hp:∀x∈c.pl,CN.mD x
structure ES where
 now:Nat
 S:Slots
 Mi:ByteArray->Option Int
 Mo:ByteArray->Option Int
 Q:List Int
 G:List (PN.O3×Unit)
 SS:Gp.Ses.Slots
 M:ByteArray->Option Int
 l:WN.PL
 wn:Nat
 tn:Int
 F:Gp.Wh.Fs
structure nK (w:θ) (a:EA) (c:Cf) (e:ES):Prop where
 cf:aiE c
 hd:Row w a.x ([.pointer (some ⟨a.p,0,none⟩),.pointer (some ⟨a.qb,0,none⟩),.pointer (some ⟨a.B.d,0,none⟩),.pointer (some ⟨a.T.d,0,none⟩),.pointer (some ⟨a.d,0,none⟩)]++c.C++[.int .i64 (e.now:Int)])
 pl:PN.PL w a.p a.g a.ps c.lo c.hi c.pl e.G
 qr:QN.QR w a.qb a.qs e.Q c.q
 qo:QN.QOk e.Q c.q
 db:DB w a.B c.nb.toNat e.S e.Mi e.Mo
 se:SN.TA w a.T c.ns.toNat e.SS e.M
 wh:WN.WS w a.d a.m a.ss e.l e.wn e.tn c.ns e.F
 ap:∀k k' b,own a k b->own a k' b->k=k'
 lt:∀k b,own a k b->b<w.heap.size
variable {w w':θ} {a:EA} {c:Cf} {e:ES}
theorem nK.fr {S:Nat->Prop} (h:nK w a c e) (hf:gU w w' S) (hs:∀k b,own a k b->¬S b):nK w' a c e:=
 ⟨h.cf,h.hd.fr hf (hs 0 _ rfl),h.pl.fr hf (hs 1),h.qr.fr hf (hs 2 _ (.inl rfl)) (hs 2 _ (.inr rfl)),h.qo,h.db.fr hf (hs 3),h.se.fr hf (hs 4),h.wh.fr hf (hs 5),h.ap,
  λk b hb=>ajn (h.lt k b hb) hf.size⟩
theorem nK.ext (h:nK w a c e) (hf:Ext w w'):nK w' a c e:=h.fr (hf λ_=>False) (λ_ _ _=>by simp)
theorem nK.c0 (h:nK w a c e):w.cell? ⟨a.x,0,none⟩=some (.pointer (some ⟨a.p,0,none⟩)):=by rw[h.hd.cell];rfl
theorem nK.c1 (h:nK w a c e):w.cell? ⟨a.x,1,none⟩=some (.pointer (some ⟨a.qb,0,none⟩)):=by rw[h.hd.cell];rfl
theorem nK.c2 (h:nK w a c e):w.cell? ⟨a.x,2,none⟩=some (.pointer (some ⟨a.B.d,0,none⟩)):=by rw[h.hd.cell];rfl
theorem nK.c3 (h:nK w a c e):w.cell? ⟨a.x,3,none⟩=some (.pointer (some ⟨a.T.d,0,none⟩)):=by rw[h.hd.cell];rfl
theorem nK.c4 (h:nK w a c e):w.cell? ⟨a.x,4,none⟩=some (.pointer (some ⟨a.d,0,none⟩)):=by rw[h.hd.cell];rfl
theorem nK.cC (h:nK w a c e) {j:Nat} (hj:j<36):w.cell? ⟨a.x,5+j,none⟩=c.C[j]? :=by
 rw[h.hd.cell,ajj,ajy (by simp)];rw[aj8 (by have:=h.cf.len;simp;omega)];congr 1;simp
theorem nK.c21 (h:nK w a c e):w.cell? ⟨a.x,21,none⟩=some (.slice c.sw.a c.sw.len c.sw.cap):=(h.cC (j:=16) (by omega)).trans h.cf.c16
theorem nK.c25 (h:nK w a c e):w.cell? ⟨a.x,25,none⟩=some (.int .i64 c.q):=(h.cC (j:=20) (by omega)).trans h.cf.c20
theorem nK.c26 (h:nK w a c e):w.cell? ⟨a.x,26,none⟩=some (.int .i64 c.nb):=(h.cC (j:=21) (by omega)).trans h.cf.c21
theorem nK.c27 (h:nK w a c e):w.cell? ⟨a.x,27,none⟩=some (.int .i64 c.ns):=(h.cC (j:=22) (by omega)).trans h.cf.c22
theorem nK.c41 (h:nK w a c e):w.cell? ⟨a.x,41,none⟩=some (.int .i64 (e.now:Int)):=by
 rw[h.hd.cell,ajj,ajy (by simp),ajy (by have:=h.cf.len;simp;omega)];have:41 - [Value.pointer (some ⟨a.p,0,none⟩),.pointer (some ⟨a.qb,0,none⟩),.pointer (some ⟨a.B.d,0,none⟩),.pointer (some ⟨a.T.d,0,none⟩),.pointer (some ⟨a.d,0,none⟩)].length - c.C.length=0:=by rw[h.cf.len];rfl
 rw[this];rfl
theorem Ji (h:nK w a c e):kR (some ⟨a.x,0,none⟩) w λr w'=>r=true/\w'=w:=by
 apply Ip;simp only[sx,h.c0,aek];exact⟨by trivial,by trivial⟩
def Np (c:Cf) (i:Int):Prop:=0<=i/\i<(c.sw.len:Int)
instance (c:Cf) (i:Int):Decidable (Np c i):=inferInstanceAs (Decidable (_/\_))
theorem P_ (h:nK w a c e) (i:Int):mG (some ⟨a.x,0,none⟩) i w λr w'=>r=decide (Np c i)/\w'=w:=by
 apply D_;unfold Np;by_cases h0:i>=0
 ·have h0':0<=i:=h0;simp only[h0,h0',aaA,sx,h.c21,aeA]
 ·have h0':¬0<=i:=h0;simp only[h0,h0',aaV,Β,false_and,aj7]
theorem abI (n:Int) (w:θ):BN n w λr w'=>r=decide (0<=n/\n<=65535)/\w'=w:=by
 apply Yc;by_cases h0:n>=0
 ·have h0':0<=n:=h0;simp only[h0,h0',aaA,Δ,aeA]
 ·have h0':¬0<=n:=h0;simp only[h0,h0',aaV,Β,false_and,aj7]
theorem QK (h:nK w a c e):qc (some ⟨a.x,0,none⟩) w λr w'=>r=decide (((live 0 e.S).length:Int)>=c.nb)/\Ext w w':=by
 apply JU;have hd:=h.ext (Ext.drew w);simp only[sx,hd.c2,hd.c26];refine cmS1 (afR hd.db) ?_;rintro n w1 ⟨rfl,hw⟩;subst hw;exact⟨hd.c26,rfl,Ext.drew w⟩
def XZ (c:Cf) (b:Bnd):Prop:=
 (b.pr=1\/b.pr=6\/b.pr=17)/\CN.mD b.ad/\b.oad∈c.pl/\(0<=b.po/\b.po<=65535)/\(0<=b.opo/\b.opo<=65535)/\b.pr=b.opr/\Np c b.sw
instance (c:Cf) (b:Bnd):Decidable (XZ c b):=inferInstanceAs (Decidable (_/\_))
theorem ah8 (h:nK w a c e) (b:Bnd):vX (some ⟨a.x,0,none⟩) b.sw b.pr b.ad b.po b.opr b.oad b.opo w λr w'=>r=decide (XZ c b)/\Ext w w':=by
 apply LQ;refine gu λt w1 r1 e1 z1 f1=> ?_;have h1:=h.ext f1;simp -zeta only[sx,r1.cell];intro J6;have key:J6 (decide (b.pr=1\/b.pr=6\/b.pr=17)):=by
  by_cases hp:b.pr=1\/b.pr=6\/b.pr=17;rotate_left
  ·simp only[J6,hp,aaV,Β];exact⟨(abW λhm=>hp hm.1).symm,f1⟩
  simp only[J6,hp,aaA,Δ,sx,r1.drew.cell];refine cmS0 (CN.zN _ _) ?_;rintro r w2 ⟨rfl,f2⟩;have x2:=(Ext.drew w1).trans f2;have h2:=h1.ext x2;have r2:=r1.ext x2;by_cases c1:CN.mD b.ad;rotate_left
  ·simp only[c1,aaV,Β];exact⟨(abW λhm=>c1 hm.2.1).symm,f1.trans x2⟩
  simp only[c1,aaA,Δ,sx,h2.c0,r2.cell];refine cmS0 (PN.aeC h2.pl _) ?_;rintro r w2 ⟨rfl,hw⟩;subst hw;by_cases c2:b.oad∈c.pl;rotate_left
  ·simp only[c2,aaV,Β];exact⟨(abW λhm=>c2 hm.2.2.1).symm,f1.trans x2⟩
  simp only[c2,aaA,Δ,sx,r2.cell];refine cmS0 (abI _ _) ?_;rintro r w2 ⟨rfl,hw⟩;subst hw;by_cases c3:0<=b.po/\b.po<=65535;rotate_left
  ·simp only[c3,aaV,Β];exact⟨(abW λhm=>c3 hm.2.2.2.1).symm,f1.trans x2⟩
  simp only[c3,aj7,aaA,Δ,sx,r2.cell];refine cmS0 (abI _ _) ?_;rintro r w2 ⟨rfl,hw⟩;subst hw;by_cases c4:0<=b.opo/\b.opo<=65535;rotate_left
  ·simp only[c4,aaV,Β];exact⟨(abW λhm=>c4 hm.2.2.2.2.1).symm,f1.trans x2⟩
  simp only[c4,aj7,aaA,Δ,sx,r2.cell];by_cases c5:b.pr=b.opr;rotate_left
  ·have c5':(b.pr==b.opr)=false:=by simpa using c5
   simp only[c5',Β];exact⟨(abW λhm=>c5 hm.2.2.2.2.2.1).symm,f1.trans x2⟩
  have c5':(b.pr==b.opr)=true:=by simpa using c5
  simp only[c5',Δ];refine cmS0 (P_ h2 _) ?_;rintro r w2 ⟨rfl,hw⟩;subst hw;refine⟨?_,f1.trans x2⟩;simp only[akq];exact⟨λhs=>⟨hp,c1,c2,c3,c4,c5,hs⟩,λhm=>hm.2.2.2.2.2.2⟩
 by_cases p1:b.pr=1
 ·have p1':(b.pr==1)=true:=by simpa using p1
  simp -zeta only[p1',Δ];have q:decide (b.pr=1\/b.pr=6\/b.pr=17)=true:=by simp[p1]
  rw[q] at key;exact key
 have p1':(b.pr==1)=false:=by simpa using p1
 by_cases p6:b.pr=6
 ·have p6':(b.pr==6)=true:=by simpa using p6
  simp -zeta only[p1',p6',Δ,Β];have q:decide (b.pr=1\/b.pr=6\/b.pr=17)=true:=by simp[p6]
  rw[q] at key;exact key
 have p6':(b.pr==6)=false:=by simpa using p6
 simp -zeta only[p1',p6',Β];have q:decide (b.pr=1\/b.pr=6\/b.pr=17)=(b.pr==17):=by
  have:(b.pr==17)=decide (b.pr=17):=rfl;rw[this];simp[p1,p6]
 rw[q] at key;exact key
end Go.Proofs.EN
end
section
namespace Go.Proofs.EN
open Gp Go.Proofs
open Gp.Bind (Bnd Slots live GoodB freeN getS In64)
theorem ϵ {o1 o2:Nat->Nat->Prop} {j n:Nat} (ap:∀k k' b,o1 k b->o1 k' b->k=k') (lt:∀k b,o1 k b->b<n) (same:∀k b,k≠j->o2 k b->o1 k b) (new:∀b,o2 j b->o1 j b\/n<=b):
  ∀k k' b,o2 k b->o2 k' b->k=k':=by
 intro k k' b h h';by_cases hk:k=j<;>by_cases hk':k'=j
 ·omega
 ·subst hk;have g':=same k' b hk' h';rcases new b h with g|g
  ·exact ap _ _ b g g'
  ·have:=lt _ b g';omega
 ·subst hk';have g:=same k b hk h;rcases new b h' with g'|g'
  ·exact ap _ _ b g g'
  ·have:=lt _ b g;omega
 ·exact ap _ _ b (same k b hk h) (same k' b hk' h')
variable {w w':θ} {a:EA} {c:Cf} {e:ES}
theorem nK.off (h:nK w a c e) {j k b:Nat} (hk:own a k b) (hn:k≠j):¬own a j b:=λhj=>hn (h.ap k j b hk hj)
theorem nK.setB (h:nK w a c e) {A:QZ} {S:Slots} {Mi Mo:ByteArray->Option Int} (hf:gU w w' (own a 3)) (u:DB w' A c.nb.toNat S Mi Mo) (hd:A.d=a.B.d) (I:∀x,fp A x->fp a.B x\/w.heap.size<=x) (J:∀x,fp A x->x<w'.heap.size):
  nK w' {a with B:=A} c {e with S:=S,Mi:=Mi,Mo:=Mo}:=by
 have same:∀k b,k≠3->own {a with B:=A} k b->own a k b:=by
  intro k b hk ho
  match k,ho with
  |0,ho=>exact ho
  |1,ho=>exact ho
  |2,ho=>exact ho
  |3,_=>exact absurd rfl hk
  |4,ho=>exact ho
  |5,ho=>exact ho
  |(n+6),ho=>exact ho
 have o:∀k b,own a k b->k≠3->¬own a 3 b:=λk b hk hn=>h.off hk hn;refine⟨h.cf,?_,h.pl.fr hf (λb hb=>o 1 b hb (by decide)),h.qr.fr hf (o 2 _ (.inl rfl) (by decide)) (o 2 _ (.inr rfl) (by decide)),h.qo,u,h.se.fr hf (λb hb=>o 4 b hb (by decide)),h.wh.fr hf (λb hb=>o 5 b hb (by decide)),ϵ (j:=3) h.ap h.lt same (λb hb=>I b hb),?_⟩
 ·have:=h.hd.fr hf (o 0 _ rfl (by decide));simp only[hd];exact this
 ·intro k b hb;by_cases hk:k=3
  ·subst hk;exact J b hb
  ·exact ajn (h.lt k b (same k b hk hb)) hf.size
theorem nK.ail (h:nK w a c e) {G:List (PN.O3×Unit)} (hf:gU w w' (·=a.g)) (hp:PN.PL w' a.p a.g a.ps c.lo c.hi c.pl G):nK w' a c {e with G:=G}:=by
 have o:∀k b,own a k b->k≠1->¬b=a.g:=λk b hk hn he=>h.off hk hn (he ▸ .inr (.inl rfl));exact⟨h.cf,h.hd.fr hf (o 0 _ rfl (by decide)),hp,h.qr.fr hf (o 2 _ (.inl rfl) (by decide)) (o 2 _ (.inr rfl) (by decide)),h.qo,h.db.fr hf (λb hb=>o 3 b hb (by decide)),h.se.fr hf (λb hb=>o 4 b hb (by decide)),h.wh.fr hf (λb hb=>o 5 b hb (by decide)),h.ap,
  λk b hb=>ajn (h.lt k b hb) hf.size⟩
theorem nK.aio (h:nK w a c e) {Q:List Int} (hf:gU w w' (·=a.qs)) (hq:QN.QR w' a.qb a.qs Q c.q) (ho:QN.QOk Q c.q):nK w' a c {e with Q:=Q}:=by
 have o:∀k b,own a k b->k≠2->¬b=a.qs:=λk b hk hn he=>h.off hk hn (he ▸ .inr rfl);exact⟨h.cf,h.hd.fr hf (o 0 _ rfl (by decide)),h.pl.fr hf (λb hb=>o 1 b hb (by decide)),hq,ho,h.db.fr hf (λb hb=>o 3 b hb (by decide)),h.se.fr hf (λb hb=>o 4 b hb (by decide)),h.wh.fr hf (λb hb=>o 5 b hb (by decide)),h.ap,
  λk b hb=>ajn (h.lt k b hb) hf.size⟩
theorem nK.ajQ (h:nK w a c e) {n:Nat} (hf:gU w w' (·=a.x)) (hd:Row w' a.x ([.pointer (some ⟨a.p,0,none⟩),.pointer (some ⟨a.qb,0,none⟩),.pointer (some ⟨a.B.d,0,none⟩),.pointer (some ⟨a.T.d,0,none⟩),.pointer (some ⟨a.d,0,none⟩)]++c.C++[.int .i64 (n:Int)])):nK w' a c {e with now:=n}:=by
 have o:∀k b,own a k b->k≠0->¬b=a.x:=λk b hk hn he=>h.off hk hn he;exact⟨h.cf,hd,h.pl.fr hf (λb hb=>o 1 b hb (by decide)),h.qr.fr hf (o 2 _ (.inl rfl) (by decide)) (o 2 _ (.inr rfl) (by decide)),h.qo,h.db.fr hf (λb hb=>o 3 b hb (by decide)),h.se.fr hf (λb hb=>o 4 b hb (by decide)),h.wh.fr hf (λb hb=>o 5 b hb (by decide)),h.ap,
  λk b hb=>ajn (h.lt k b hb) hf.size⟩
theorem nK.setW (h:nK w a c e) {ss:List fU} {l:WN.PL} {wn:Nat} {tn:Int} {F:Gp.Wh.Fs} (hf:gU w w' (own a 5)) (hw:WN.WS w' a.d a.m ss l wn tn c.ns F) (u:∀x,WN.pK a.d a.m ss x->WN.pK a.d a.m a.ss x\/w.heap.size<=x):
  nK w' {a with ss:=ss} c {e with l:=l,wn:=wn,tn:=tn,F:=F}:=by
 have same:∀k b,k≠5->own {a with ss:=ss} k b->own a k b:=by
  intro k b hk ho
  match k,ho with
  |0,ho=>exact ho
  |1,ho=>exact ho
  |2,ho=>exact ho
  |3,ho=>exact ho
  |4,ho=>exact ho
  |5,_=>exact absurd rfl hk
  |(n+6),ho=>exact ho
 have o:∀k b,own a k b->k≠5->¬own a 5 b:=λk b hk hn=>h.off hk hn;refine⟨h.cf,h.hd.fr hf (o 0 _ rfl (by decide)),h.pl.fr hf (λb hb=>o 1 b hb (by decide)),h.qr.fr hf (o 2 _ (.inl rfl) (by decide)) (o 2 _ (.inr rfl) (by decide)),h.qo,h.db.fr hf (λb hb=>o 3 b hb (by decide)),h.se.fr hf (λb hb=>o 4 b hb (by decide)),hw,ϵ (j:=5) h.ap h.lt same (λb hb=>u b hb),?_⟩;intro k b hb;by_cases hk:k=5
 ·subst hk;exact hw.wm.lt hb
 ·exact ajn (h.lt k b (same k b hk hb)) hf.size
def jq (a:EA) (b:Nat):Prop:=∃k,own a k b
def Xq (S:Slots) (i:Int):Nat:=((live 0 S).filter λx=>x.2.sw==i).length
def aeU (c:Cf) (b:Bnd):Prop:=
 (b.pr=1\/b.pr=6\/b.pr=17)/\(0<=b.ad/\b.ad<=4294967295)/\b.oad∈c.pl/\(0<=b.po/\b.po<=65535)/\(0<=b.opo/\b.opo<=65535)/\b.pr=b.opr/\Np c b.sw
theorem XZ.b {c:Cf} {b:Bnd} (h:XZ c b):aeU c b:=by
 obtain⟨h1,h2,h3⟩:=h;exact⟨h1,⟨by have:=h2.1;omega,by have:=h2.2.1;omega⟩,h3⟩
structure Inv (c:Cf) (e:ES):Prop where
 ql:e.Q.length=c.sw.len
 cn:∀i,Np c i->QN.at_ e.Q i=(Xq e.S i:Int)
 gv:∀o:PN.O3,o∈e.G.map (·.1)↔∃(j:Nat) (b:Bnd),e.S[j]? =some (some b)/\(b.opr,b.oad,b.opo)=o
 mp:∀(j:Nat) (b:Bnd),e.S[j]? =some (some b)->aeU c b
end Go.Proofs.EN
end
section
namespace Go.Proofs.EN
open Gp Go.Proofs
open Gp.Bind (Bnd Slots live GoodB freeN getS In64)
theorem afL {S:Slots} {i:Nat} {b:Bnd} (h:freeN S=some i) (k:Int):Xq (S.set i (some b)) k=Xq S k+if b.sw=k then 1 else 0:=by
 obtain⟨_,_,_,_,_,_,h7⟩:=Gp.Bind.jm 0 h;have e:(live 0 S).filter (λx=>x.2.sw==k)=((live 0 S).take i).filter (λx=>x.2.sw==k)++((live 0 S).drop i).filter (λx=>x.2.sw==k):=by
  rw[<- ake,ajS]
 unfold Xq;rw[h7 b,e,ake,adH,adH,List.filter_cons];by_cases hb:b.sw=k
 ·subst hb;simp only[akK,ahN,aeW];omega
 ·have:(b.sw==k)=false:=by simpa using hb
  simp[this,hb]
theorem at_set {l:List Int} {i j v:Int} (hi:0<=i) (hl:i<(l.length:Int)) (hj:0<=j):QN.at_ (l.set i.toNat v) j=if i=j then v else QN.at_ l j:=by
 unfold QN.at_;rw[akE,akE,ajo];by_cases h:i=j
 ·subst h;simp only[ahN];rw[Ζ (by omega)];rfl
 ·have:¬i.toNat=j.toNat:=by omega
  simp[this,h]
variable {c:Cf} {e:ES}
theorem Inv.add (h:Inv c e) {i:Nat} {b:Bnd} (hf:freeN e.S=some i) (hm:aeU c b) (Mi Mo:ByteArray->Option Int):
  Inv c {e with S:=e.S.set i (some b),Mi:=Mi,Mo:=Mo,Q:=e.Q.set b.sw.toNat (QN.at_ e.Q b.sw+1),G:=Bo e.G (b.opr,b.oad,b.opo) ()}:=by
 have J:=hm.2.2.2.2.2.2;obtain⟨s0,s1⟩:=J;obtain⟨N,O,_⟩:=Gp.Bind.jm 0 hf;have R:=h.ql;have hg:∀(j:Nat) (x:Bnd),(e.S.set i (some b))[j]? =some (some x)↔(j=i/\x=b)\/(j≠i/\e.S[j]? =some (some x)):=by
  intro j x;rw[ajo];by_cases hj:i=j
  ·subst hj;simp[N,eq_comm]
  ·have:j≠i:=λh=>hj h.symm;simp[hj,this]
 refine⟨by simp[R],λk hk=> ?_,λo=> ?_,λj x hx=> ?_⟩
 ·rw[at_set s0 (by omega) hk.1,afL hf];by_cases hb:b.sw=k
  ·subst hb;simp only[ahN];rw[h.cn _ ⟨s0,s1⟩];omega
  ·simp only[hb,aiC];rw[h.cn _ hk];omega
 ·have u:o∈e.G.map (·.1)↔∃(j:Nat) (x:Bnd),j≠i/\e.S[j]? =some (some x)/\(x.opr,x.oad,x.opo)=o:=by
   rw[h.gv];constructor
   ·rintro⟨j,x,hx,ho⟩;exact⟨j,x,(λhj=>by rw[hj,O] at hx;cases hx),hx,ho⟩
   ·rintro⟨j,x,_,hx,ho⟩;exact⟨j,x,hx,ho⟩
  have hm':o∈(Bo e.G (b.opr,b.oad,b.opo) ()).map (·.1)↔o∈e.G.map (·.1)\/(b.opr,b.oad,b.opo)=o:=by
   rw[QX];split
   ·rename_i I;exact⟨.inl,λh=>h.elim id λh=>h ▸ I⟩
   ·rw[ajk,aiB,eq_comm (a:=o)]
  show o∈(Bo e.G (b.opr,b.oad,b.opo) ()).map (·.1)↔_;rw[hm',u];constructor
  ·rintro(⟨j,x,hj,hx,ho⟩|ho)
   ·exact⟨j,x,(hg j x).2 (.inr ⟨hj,hx⟩),ho⟩
   ·exact⟨i,b,(hg i b).2 (.inl ⟨rfl,rfl⟩),ho⟩
  ·rintro⟨j,x,hx,ho⟩;rcases(hg j x).1 hx with ⟨rfl,rfl⟩|⟨hj,hx⟩
   ·exact .inr ho
   ·exact .inl ⟨j,x,hj,hx,ho⟩
 ·rcases(hg j x).1 hx with ⟨rfl,rfl⟩|⟨_,hx⟩
  ·exact hm
  ·exact h.mp j x hx
theorem Lp:∀{S:Slots} {i k:Nat} {b:Bnd},S[i]? =some (some b)->∃A B,live k S=A++(((k+i:Nat):Int),b)::B/\live k (S.set i none)=A++B
 |none::r,0,k,b,h=>by simp at h
 |some x::r,0,k,b,h=>by
  simp at h;subst h;exact⟨[],live (k+1) r,by simp[live],by simp[live]⟩
 |none::r,i+1,k,b,h=>by
  obtain⟨A,B,h1,h2⟩:=Lp (S:=r) (k:=k+1) (i:=i) (by simpa using h);refine⟨A,B,?_,?_⟩
  ·show live (k+1) r=_;rw[h1];congr 3;push_cast;omega
  ·show live (k+1) (r.set i none)=_;exact h2
 |some x::r,i+1,k,b,h=>by
  obtain⟨A,B,h1,h2⟩:=Lp (S:=r) (k:=k+1) (i:=i) (by simpa using h);refine⟨((k:Int),x)::A,B,?_,?_⟩
  ·show ((k:Int),x)::live (k+1) r=_;rw[h1,akv];congr 4;push_cast;omega
  ·show ((k:Int),x)::live (k+1) (r.set i none)=_;rw[h2];rfl
theorem VX {S:Slots} {i:Nat} {b:Bnd} (h:S[i]? =some (some b)) (k:Int):Xq S k=Xq (S.set i none) k+if b.sw=k then 1 else 0:=by
 obtain⟨A,B,h1,h2⟩:=Lp (k:=0) h;unfold Xq;rw[h1,h2,ake,ake,adH,adH,List.filter_cons];by_cases hb:b.sw=k
 ·subst hb;simp only[akK,ahN,aeW];omega
 ·have:(b.sw==k)=false:=by simpa using hb
  simp[this,hb]
theorem Inv.del (h:Inv c e) (hg:GoodB e.S e.Mi e.Mo) {i:Nat} {b:Bnd} (hi:e.S[i]? =some (some b)) (N:(e.G.map (·.1)).Nodup)
  (one:∀(j:Nat) (x:Bnd),e.S[j]? =some (some x)->(x.opr,x.oad,x.opo)=(b.opr,b.oad,b.opo)->j=i) (Mi Mo:ByteArray->Option Int):
  Inv c {e with S:=e.S.set i none,Mi:=Mi,Mo:=Mo,Q:=e.Q.set b.sw.toNat (QN.at_ e.Q b.sw - 1),G:=DW e.G (b.opr,b.oad,b.opo)}:=by
 have hm:=h.mp i b hi;obtain⟨s0,s1⟩:=hm.2.2.2.2.2.2;have O:=h.ql;have I:∀(j:Nat) (x:Bnd),(e.S.set i none)[j]? =some (some x)↔j≠i/\e.S[j]? =some (some x):=by
  intro j x;rw[ajo];by_cases hj:i=j
  ·subst hj;simp
  ·have:j≠i:=λh=>hj h.symm;simp[hj,this]
 have J:∀o,o∈(DW e.G (b.opr,b.oad,b.opo)).map (·.1)↔o≠(b.opr,b.oad,b.opo)/\o∈e.G.map (·.1):=by
  intro o;have:=XR N (b.opr,b.oad,b.opo) o;by_cases ho:o=(b.opr,b.oad,b.opo)
  ·rw[Ζ ho] at this;have h2:=qA.1 this;exact⟨λh=>absurd h h2,λh=>absurd ho h.1⟩
  ·rw[Ε ho] at this;constructor
   ·intro h2;refine⟨ho,?_⟩;refine akp λhn=> ?_;rw[qA.2 hn] at this;exact qA.1 this h2
   ·rintro⟨_,h2⟩;refine akp λhn=> ?_;rw[qA.2 hn] at this;exact qA.1 this.symm h2
 refine⟨by simp[O],λk hk=> ?_,λo=> ?_,λj x hx=>h.mp j x ((I j x).1 hx).2⟩
 ·rw[at_set s0 (by omega) hk.1];have hc:=VX hi k;by_cases hb:b.sw=k
  ·subst hb;simp only[ahN] at hc ⊢;rw[h.cn _ ⟨s0,s1⟩];omega
  ·simp only[hb,aiC] at hc ⊢;rw[h.cn _ hk];omega
 ·rw[J,h.gv];constructor
  ·rintro⟨ho,j,x,hx,u⟩;refine⟨j,x,(I j x).2 ⟨λhj=> ?_,hx⟩,u⟩;subst hj;rw[hi] at hx
   cases hx
   exact ho u.symm
  ·rintro⟨j,x,hx,u⟩;obtain⟨hj,hx⟩:=(I j x).1 hx;exact⟨λho=>hj (one j x hx (u.trans ho)),j,x,hx,u⟩
end Go.Proofs.EN
end
section
namespace Go.Proofs.EN
open Gp Go.Proofs
open Gp.Bind (Bnd Slots live GoodB freeN getS In64)
theorem XZ.ok {c:Cf} {b:Bnd} (h:XZ c b) (hc:aiE c):b.ok:=by
 obtain⟨h1,h2,h3,h4,h5,h6,h7,h8⟩:=h;obtain⟨h2a,h2b,_⟩:=h2;obtain⟨h3a,h3b,_⟩:=hc.hp _ h3;have hl:=hc.sw;constructor
 ·intro n hn;simp only[Bnd.i,afm,ajp,ajV] at hn;unfold In64;rcases hn with rfl|rfl|rfl|rfl<;>omega
 ·intro n hn;simp only[Bnd.o,afm,ajp,ajV] at hn;unfold In64;rcases hn with rfl|rfl|rfl<;>omega
theorem Le:∀{S:Slots} (k:Nat),freeN S=none->(live k S).length=S.length
 |[],_,_=>rfl
 |none::r,_,h=>by simp[freeN] at h
 |some c::r,k,h=>by
  simp only[freeN,Option.map_eq_none_iff] at h;simp only[live,aeW,Le (k+1) h]
def XY (c:Cf) (e:ES) (b:Bnd):Int:=
 if ¬XZ c b then 1 else if (e.Mi (Bind.keyS b.i)).isSome||(e.Mo (Bind.keyS b.o)).isSome then 9 else if QN.Du e.Q b.sw>=c.q then 10 else if ((live 0 e.S).length:Int)>=c.nb then 7 else 0
variable {w w':θ} {a:EA} {c:Cf} {e:ES}
theorem map_ok (h:nK w a c e) (hi:Inv c e) (b:Bnd) (ab:b.st=true):
  vW (some ⟨a.x,0,none⟩) b.sw b.pr b.ad b.po b.opr b.oad b.opo w λr w'=>r=XY c e b/\
   ((r≠0/\Ext w w')\/(r=0/\XZ c b/\gU w w' (jq a)/\∃A i Mi Mo Q G,freeN e.S=some i/\(∀x,fp A x->fp a.B x\/w.heap.size<=x)/\
    nK w' {a with B:=A} c {e with S:=e.S.set i (some b),Mi:=Mi,Mo:=Mo,Q:=Q,G:=G}/\Inv c {e with S:=e.S.set i (some b),Mi:=Mi,Mo:=Mo,Q:=Q,G:=G})):=by
 apply LM;refine gu λt w1 r1 e1 z1 f1=> ?_;have h1:=h.ext f1;refine cmS0 (Ji h1) ?_;rintro r w1 ⟨rfl,hw⟩;subst hw;simp -zeta only[ab6,Β,sx,r1.cell];refine cmS0 (ah8 h1 b) ?_;rintro r w2 ⟨rfl,f2⟩;by_cases hm:XZ c b;rotate_left
 ·simp only[hm,aaV,aek,Δ];refine⟨by unfold XY;rw[Ζ hm],.inl ⟨by decide,f1.trans f2⟩⟩
 have bok:=hm.ok h.cf;have x2:=f2.trans (Ext.drew w2);have h2:=h1.ext x2;have r2:=r1.ext x2;simp -zeta only[hm,aaA,ab6,Β,sx,h2.c2,r2.cell];refine cmS3 (MW h2.db b.sw b.pr b.ad b.po bok.1) ?_;rintro n1 t1 w3 ⟨rfl,rfl,f3⟩;have x3:=f3.trans (Ext.drew w3);have h3:=h2.ext x3;have r3:=r2.ext x3;simp -zeta only[sx,h3.c2,r3.cell];refine cmS3 (RI h3.db b.opr b.oad b.opo bok.2) ?_;rintro n2 t2 w4 ⟨rfl,rfl,f4⟩;have x4:=((f1.trans x2).trans x3).trans f4;intro J;have hJ:J ((e.Mi (Bind.keyS b.i)).isSome||(e.Mo (Bind.keyS b.o)).isSome):=by
  cases hd:((e.Mi (Bind.keyS b.i)).isSome||(e.Mo (Bind.keyS b.o)).isSome)
  rotate_left
  ·simp only[J,Δ];exact⟨by unfold XY;rw[Ε (not_not_intro hm),Ζ hd],.inl ⟨by decide,x4⟩⟩
  have x5:=f4.trans (Ext.drew w4);have h5:=h3.ext x5;have r5:=r3.ext x5;simp only[J,Β,sx,h5.c1,h5.c25,r5.cell];refine cmS1 (QN.Zm h5.qr _) ?_;rintro n w5 ⟨rfl,hw⟩;subst hw;refine⟨h5.c25,?_⟩;by_cases hq:QN.Du e.Q b.sw>=c.q
  ·simp only[hq,aaA,Δ];exact⟨by unfold XY;rw[Ε (not_not_intro hm),Ε (by rw[hd];decide),Ζ hq],.inl ⟨by decide,x4.trans (Ext.drew w4)⟩⟩
  simp only[hq,aaV,Β];refine cmS0 (QK h5) ?_;rintro n w6 ⟨rfl,f6⟩;have x6:=(x4.trans (Ext.drew w4)).trans f6;by_cases u:((live 0 e.S).length:Int)>=c.nb
  ·simp only[u,aaA,Δ];exact⟨by unfold XY;rw[Ε (not_not_intro hm),Ε (by rw[hd];decide),Ε hq,Ζ u],.inl ⟨by decide,x6⟩⟩
  have y6:=f6.trans (Ext.drew w6);have h6:=h5.ext y6;have r6:=r5.ext y6;have xx:=x6.trans (Ext.drew w6);simp only[u,aaV,Β,sx,h6.c1,r6.cell];obtain⟨s0,s1⟩:=hm.2.2.2.2.2.2;have Y:QN.ZF e.Q b.sw:=⟨s0,by rw[hi.ql];exact s1⟩;have ac:QN.Du e.Q b.sw=QN.at_ e.Q b.sw:=by unfold QN.Du;rw[Ζ Y]
  have Z:QN.Ei e.Q c.q b.sw=(0,e.Q.set b.sw.toNat (QN.at_ e.Q b.sw+1)):=by
   unfold QN.Ei;rw[Ζ Y,Ε (by rw[<- ac];exact hq)]
  have ht:t<w.drew.heap.size\/w.heap.size<=t:= .inr (by omega);refine cmS1 (QN.N_ h6.qr h6.qo _) ?_;rintro n w7 ⟨rfl,q7,f7⟩;rw[Z] at q7;have o7:QN.QOk (e.Q.set b.sw.toNat (QN.at_ e.Q b.sw+1)) c.q:=by
   have:=QN.ϔ h6.qo b.sw;rw[Z] at this;exact this
  have h7:=(h6.aio f7 q7 o7).ext (Ext.drew w7);have r7:=(r6.fr f7 (λhe=>by have:=h.lt 2 a.qs (.inr rfl);omega)).drew;simp only[sx,h7.c0,r7.cell];have ae:(b.opr,b.oad,b.opo)∉e.G.map (·.1):=by
   intro hc;obtain⟨j,x,hx,ho⟩:=(hi.gv _).1 hc;have:e.Mo (Bind.keyS b.o)=some (j:Int):=(h.db.good.o _ _).2 ⟨j,x,hx,by simp only[akd] at ho;unfold Bnd.o;rw[ho.1,ho.2.1,ho.2.2],rfl⟩;rw[this] at hd;simp at hd
  have af:b.opr=1\/b.opr=6\/b.opr=17:=by rw[<- hm.2.2.2.2.2.1];exact hm.1
  refine cmS1 (PN.agi h7.pl af hm.2.2.1 hm.2.2.2.2.1.1 (by have:=hm.2.2.2.2.1.2;omega) ae) ?_;rintro n w8 ⟨rfl,p8,f8⟩;have h8:=(h7.ail f8 p8).ext (Ext.drew w8);have r8:=(r7.fr f8 (λhe=>by have:=h.lt 1 a.g (.inr (.inl rfl));omega)).drew;simp only[sx,h8.c2,r8.cell];have I:=abp h8.db b bok (h8.lt 3);rw[ab] at I;refine cmS8 I ?_;rintro n m w9 ⟨hr,f9,A,S',Mi',Mo',d9,ag,aa,R,hS'⟩;have N:∃i,freeN e.S=some i:=by
   cases ah:freeN e.S with
   |some i=>exact⟨i,rfl⟩
   |none=>
    have h10:=Le 0 ah;have h11:=h.db.len;have:=h.cf.b1;omega
  obtain⟨i,U⟩:=N;have O:vS e.S e.Mi e.Mo b=((i:Int),0):=by
   unfold vS;rw[hd,Ε (by decide),U]
  simp only[O] at hr hS';simp only[ahN,Η] at hS'
  cases hr
  subst hS';have h9:=h8.setB f9 d9 ag (λx hx=>aa x hx) R;have m0:XY c e b=0:=by
   unfold XY;rw[Ε (not_not_intro hm),Ε (by rw[hd];decide),Ε hq,Ε u]
  refine⟨m0.symm,.inr ⟨rfl,by trivial,?_,A,i,Mi',Mo',_,_,U,λx hx=> ?_,h9,hi.add U hm.b Mi' Mo'⟩⟩
  ·have g7:gU w w7 (jq a):=(xx.fr f7).mono λy hy=>⟨2,.inr hy⟩;have g8:gU w w8 (jq a):=(g7.ext (Ext.drew _)).trans f8 λy _ hy=>⟨1,.inr (.inl hy)⟩;exact(g8.ext (Ext.drew _)).trans f9 λy _ hy=>⟨3,hy⟩
  ·rcases aa x hx with hx|hx
   ·exact .inl hx
   ·refine .inr ?_;have e7:=f7.size;have e8:=f8.size;have ex:=xx.size;have d7:w7.drew.heap.size=w7.heap.size:=rfl;have d8:w8.drew.heap.size=w8.heap.size:=rfl;omega
 cases hd1:(e.Mi (Bind.keyS b.i)).isSome
 ·rw[hd1,Bool.false_or] at hJ;have:(e.Mi (Bind.keyS [b.sw,b.pr,b.ad,b.po])).isSome=false:=hd1;simp -zeta only[this,Β];exact hJ
 ·rw[hd1,Bool.true_or] at hJ;have:(e.Mi (Bind.keyS [b.sw,b.pr,b.ad,b.po])).isSome=true:=hd1;simp -zeta only[this,Δ];exact hJ
end Go.Proofs.EN
end
section
namespace Go.Proofs.EN
open Gp Go.Proofs
open Gp.Bind (Bnd Slots live GoodB freeN getS In64)
variable {w w':θ} {a:EA} {c:Cf} {e:ES}
theorem aa6 (w:θ) (d:Nat) (k:Int):ny (some ⟨d,0,none⟩) k w λv w'=>Ext w w'/\∃f0 f1,v=Value.func (.func sG) #[] #[(Value.pointer (some ⟨f0,0,none⟩)),(Value.pointer (some ⟨f1,0,none⟩))]/\Row w' f0 [.pointer (some ⟨d,0,none⟩)]/\Row w' f1 [.int .i64 k]:=by
 apply J_;refine⟨rfl,?_⟩;refine gu λf0 w1 r1 e1 z1 g1=>⟨rfl,?_⟩;refine gu λf1 w2 r2 e2 z2 g2=> ?_;exact⟨g1.trans g2,f0,f1,rfl,r1.ext g2,r2⟩
theorem adO (h:nK w a c e) {id:Int} (h0:SN.Fg e.SS id=[]):uh (some ⟨a.x,0,none⟩) id w λw'=>Ext w w':=by
 apply Ik;refine⟨rfl,?_⟩;refine gu λt w1 r1 e1 z1 f1=> ?_;have h1:=h.ext f1;simp only[sx,r1.cell,h1.c3];refine cmS5 (aa6 w1 _ _) ?_;rintro v w2 ⟨f2,g0,g1,rfl,p0,p1⟩;have h2:=h1.ext f2;have hla:nG none w2=w2.heap.size+1:=rfl;have hz:=(f1.trans f2).size;have fin:∀W,Ext w2 W->Ext w (W.putObj w2.heap.size (.deferred none)):=λW hx=>(((f1.trans f2).trans hx).fr (gU.pJ W w2.heap.size _)).new λb hb he=>by omega
 refine Pm (SN.abE c.ns.toNat e.SS e.M a.T g0 g1 id) (λ_ W=>Ext w2 W) (λ_ _=>False) (by simp) (λW f _=>f) ?_ ?_ (by intro e W W' h;exact h.elim) (by intro e W h;exact h.elim) ?_ ?_ (by intro W h;exact h.elim) (by intro id W h;exact h.elim)
 ·intro i W hx;exact⟨p0.ext hx,p1.ext hx,h2.se.ext hx⟩
 ·intro i W W' hx hf;exact(hx.fr hf).new λb hb he=>by omega
 ·intro i x W Kb hx;rw[h0] at hx;simp[SN.yS] at hx
 ·intro W hx hm;exact⟨hm rfl,fin W hx⟩
def NoS (e:ES):Prop:=live0 e.SS=[] where live0:=Gp.Ses.live 0
theorem ac0 {S:Slots} {Mi Mo:ByteArray->Option Int} (hg:GoodB S Mi Mo) {i j:Nat} {b x:Bnd} (hi:S[i]? =some (some b)) (hj:S[j]? =some (some x)) (h:(x.opr,x.oad,x.opo)=(b.opr,b.oad,b.opo)):j=i:=by
 have h1:Mo (Bind.keyS b.o)=some (i:Int):=(hg.o _ _).2 ⟨i,b,hi,rfl,rfl⟩;have e:x.o=b.o:=by simp only[akd] at h;unfold Bnd.o;rw[h.1,h.2.1,h.2.2]
 have h2:Mo (Bind.keyS b.o)=some (j:Int):=(hg.o _ _).2 ⟨j,x,hj,by rw[e],rfl⟩;rw[h1] at h2;simp at h2;omega
theorem aaZ (h:nK w a c e) (hi:Inv c e) {i:Nat} (hs:SN.Fg e.SS (i:Int)=[]) {b:Bnd} (hb:e.S[i]? =some (some b)):
  qQ (some ⟨a.x,0,none⟩) (i:Int) w λw'=>gU w w' (jq a)/\∃Mi Mo Q G,nK w' a c {e with S:=e.S.set i none,Mi:=Mi,Mo:=Mo,Q:=Q,G:=G}/\Inv c {e with S:=e.S.set i none,Mi:=Mi,Mo:=Mo,Q:=Q,G:=G}:=by
 apply Fq;have u:getS e.S (i:Int)=some b:=Gp.Bind.nV.2 ⟨by omega,by rw[Η];exact hb⟩;simp only[sx,h.c2];refine cmS14 (Jh h.db _) ?_;rintro a1 a2 a3 a4 a5 a6 a7 a8 r w1 ⟨rfl,hr,f1⟩;rw[u] at hr;obtain⟨rfl,rfl,rfl,rfl,rfl,rfl,rfl,rfl⟩:=hr;simp only[u,ajY,ajv];refine gu λt w2 r2 e2 z2 f2=> ?_;refine gZ r2 (by rfl) (by rfl) λw3 r3 f3 z3=> ?_;have x3:Ext w w3:=(f1.trans f2).new (f3 (·=t) rfl) λy hy he=>by have:=f1.size;omega
 have ht:w.heap.size<=t:=by have:=f1.size;omega
 have h3:=h.ext x3;simp only[ab6,Β];refine cmS4 (adO h3 hs) ?_;intro w4 f4;have h4:=h3.ext f4;have r4:=r3.ext f4;have x4:=x3.trans f4;simp only[sx,h4.c2];refine cmS0 (aak h4.db _ (h4.lt 3)) ?_;rintro r w5 ⟨_,f5,Mi',Mo',d5⟩;rw[u] at d5;simp only[ajv,ahN,Η] at d5;have h5:=(h4.setB f5 d5 rfl (λx hx=> .inl hx) (λx hx=>ajn (h4.lt 3 x hx) f5.size)).ext (Ext.drew w5);have r5:=(r4.fr f5 (λhe=>by have:=h.lt 3 t he;omega)).drew;have g5:gU w w5 (jq a):=(x4.fr f5).mono λy hy=>⟨3,hy⟩;have I:(b.opr,b.oad,b.opo)∈e.G.map (·.1):=(hi.gv _).2 ⟨i,b,hb,rfl⟩;simp only[sx,h5.c0,r5.cell];refine cmS0 (PN.afY h5.pl I) ?_;rintro r w6 ⟨rfl,p6,f6⟩;have h6:=(h5.ail f6 p6).ext (Ext.drew w6);have r6:=(r5.fr f6 (λhe=>by have:=h.lt 1 a.g (.inr (.inl rfl));have he:t=a.g:=he;omega)).drew;have g6:gU w w6 (jq a):=(g5.ext (Ext.drew _)).trans f6 λy _ hy=>⟨1,.inr (.inl hy)⟩;simp only[sx,h6.c1,r6.cell];obtain⟨s0,s1⟩:=(hi.mp i b hb).2.2.2.2.2.2;have J:QN.ZF e.Q b.sw:=⟨s0,by rw[hi.ql];exact s1⟩;have N:¬QN.at_ e.Q b.sw=0:=by
  rw[hi.cn _ ⟨s0,s1⟩];have:=VX hb b.sw;rw[Ζ rfl] at this;omega
 have O:QN.KF e.Q b.sw=(0,e.Q.set b.sw.toNat (QN.at_ e.Q b.sw - 1)):=by
  unfold QN.KF;rw[Ζ J,Ε N]
 refine cmS1 (QN.af4 h6.qr h6.qo _) ?_;rintro r w7 ⟨rfl,q7,f7⟩;have o7:=QN.aey h6.qo b.sw;rw[show QN.KF ({e with S:=e.S.set i none,Mi:=Mi',Mo:=Mo',G:=DW e.G (b.opr,b.oad,b.opo)}:ES).Q b.sw=_ from O] at q7 o7;refine⟨(g6.ext (Ext.drew _)).trans f7 λy _ hy=>⟨2,.inr hy⟩,Mi',Mo',_,_,h6.aio f7 q7 o7,?_⟩;exact hi.del h.db.good hb h.pl.nd (λj x hx ho=>ac0 h.db.good hb hx ho) Mi' Mo'
end Go.Proofs.EN
end
section
namespace Go.Proofs.PN
open Gp Go.Proofs.PO
open Gp.PoolN (stepL stepL_get alike cls oth)
theorem I4 {hi a b x:Int} (hb:0<b) (h:x∈stepL hi a b):a<=x/\x<=hi:=by
 obtain⟨i,hi'⟩:=akS h;rw[stepL_get hb] at hi';split at hi'
 ·rename_i hle;simp only[afM] at hi';have:0<=b * (i:Int):=Int.mul_nonneg (by omega) (by omega);omega
 ·cases hi'
theorem ZC {want lo hi:Int}:∀(rs:List (List Int)) (k:Nat),(∀r∈rs,∀x∈r,lo<=x/\x<=hi)->∀x∈yZ want k rs,lo<=x/\x<=hi
 |[],_,_,x,hx=>by simp[yZ] at hx
 |r::rs,k,h,x,hx=>by
  simp only[yZ,ajk] at hx;rcases hx with hx|hx
  ·exact h r (by simp) x ((aku.1 hx).1)
  ·exact ZC rs (k+1) (λr' hr'=>h r' (by simp[hr'])) x hx
theorem Rn (lo want:Int):lo<=alike lo want:=by unfold alike;omega
theorem adr {n lo hi want x:Int} (hx:x∈Bl n lo hi want):lo<=x/\x<=hi:=by
 unfold Bl at hx;rcases ajk.1 hx with hx|hx
 ·unfold Nh at hx;split at hx
  ·simp only[aiB] at hx;omega
  ·simp at hx
 ·refine ZC _ _ (λr hr y hy=> ?_) x hx;unfold CG at hr;split at hr
  ·simp only[aiB] at hr;subst hr;exact I4 (by decide) hy
  ·simp only[abL,afm,ajp,ajV] at hr;have a1:=Rn (max lo (cls want).1) want;have a2:=Rn (max lo (oth want).1) want;have a3:=Rn lo (want+1);rcases hr with rfl|rfl|rfl|rfl
   ·have:=I4 (by decide) hy;omega
   ·have:=I4 (by decide) hy;omega
   ·have:=I4 (by decide) hy;omega
   ·have:=I4 (by decide) hy;omega
def KD (n ad:Int) (G:List (O3×Unit)) (xs:List Int):Option Int:=xs.find? λq=>decide ((n,ad,q)∉G.map (·.1))
def ϧ (n:Int) (G:List (O3×Unit)) (xs:List Int):List Int->Option O3
 |[]=>none
 |ad::r=>match KD n ad G xs with
  |some q=>some (n,ad,q)
  |none=>ϧ n G xs r
theorem YO {n:Int} {G:List (O3×Unit)} {xs:List Int}:∀(a b:List Int),ϧ n G xs a=none->ϧ n G xs (a++b)=ϧ n G xs b
 |[],_,_=>rfl
 |x::a,b,h=>by
  unfold ϧ at h
  cases hf:KD n x G xs with
  |some q=>rw[hf] at h;cases h
  |none=>
   rw[hf] at h;show ϧ n G xs (x::(a++b))=_;rw[ϧ,hf];exact YO a b h
theorem aas {n ad q:Int} {G:List (O3×Unit)} {xs:List Int} (h:KD n ad G xs=some q):(n,ad,q)∉G.map (·.1)/\q∈xs:=by
 have h1:=List.find?_some h;exact⟨by simpa using h1,List.mem_of_find?_eq_some h⟩
theorem ϗ {n:Int} {G:List (O3×Unit)} {xs:List Int} {o:O3}:∀{l:List Int},ϧ n G xs l=some o->o.1=n/\o.2.1∈l/\o.2.2∈xs/\o∉G.map (·.1)
 |[],h=>by simp[ϧ] at h
 |x::l,h=>by
  rw[ϧ] at h
  cases hf:KD n x G xs with
  |some q=>
   rw[hf] at h;simp only[afM] at h;subst h;have:=aas hf;exact⟨rfl,by simp,this.2,this.1⟩
  |none=>
   rw[hf] at h;have:=ϗ (l:=l) h;exact⟨this.1,by simp[this.2.1],this.2.2⟩
def Qh (f m:Int):Int:=Int.tmod (Int.tmod f m+m) m
theorem af0 {f m:Int} (h:0<m):0<=Qh f m/\Qh f m<m/\ -m<Int.tmod f m/\Int.tmod f m<m:=by
 have h1:Int.tmod f m<m:=Int.tmod_lt_of_pos f h;have h2: -m<Int.tmod f m:=Int.lt_tmod_of_pos f h;have h3:0<=Int.tmod f m+m:=by omega
 exact⟨Int.tmod_nonneg _ h3,Int.tmod_lt_of_pos _ h,h2,h1⟩
def rotL (f:Int) (pl:List Int):List Int:=(List.range pl.length).map λi=>pl.getD (((Qh f pl.length).toNat+i) % pl.length) 0
def CO (n want f lo hi:Int) (pl:List Int) (G:List (O3×Unit)):Option O3:=ϧ n G (Bl n lo hi want) (rotL f pl)
theorem agQ {f:Int} {pl:List Int} {x:Int} (h:x∈rotL f pl):x∈pl:=by
 unfold rotL at h;obtain⟨i,hi,rfl⟩:=ajX.1 h;have hl:=List.mem_range.1 hi;rw[akE,abe (akf _ (by omega))];exact ajm _
theorem adb {f:Int} {pl:List Int} {i:Nat} (h:i<pl.length):(rotL f pl).take (i+1)=(rotL f pl).take i++[pl.getD (((Qh f pl.length).toNat+i) % pl.length) 0]:=by
 have hl:(rotL f pl).length=pl.length:=by simp[rotL]
 rw[akc,abe (by omega)];simp[rotL]
theorem aa5 {n want f lo hi:Int} {pl:List Int} {G:List (O3×Unit)} {o:O3} (h:CO n want f lo hi pl G=some o):o.1=n/\o.2.1∈pl/\(lo<=o.2.2/\o.2.2<=hi)/\o∉G.map (·.1):=by
 have:=ϗ h;exact⟨this.1,agQ this.2.1,adr this.2.2.1,this.2.2.2⟩
end Go.Proofs.PN
end
section
namespace Go.Proofs.PN
open Gp Go.Proofs.PO
variable {w w':θ} {p g:Nat} {s:fU} {lo hi:Int} {pl:List Int} {G:List (O3×Unit)}
theorem PL.lt (h:PL w p g s lo hi pl G) {b:Nat} (hb:fp p g s b):b<w.heap.size:=by
 rcases hb with rfl|rfl|hb
 ·exact h.hd.lt
 ·exact h.gv.lt
 ·exact h.ad.lt hb
theorem ajI {f:Int} {m i:Nat} (h0:0<m) (h1:m<=16) (hi:i<m):
  Int.tmod (ο.wrap (Int.tmod (ο.wrap (Int.tmod f (m:Int)+(m:Int))) (m:Int)+(i:Int))) (m:Int)=((((Qh f m).toNat+i) % m:Nat):Int):=by
 obtain⟨a1,a2,a3,a4⟩:=af0 (f:=f) (m:=(m:Int)) (by omega);rw[Α (n:=Int.tmod f (m:Int)+(m:Int)) (by omega) (by omega)];show Int.tmod (ο.wrap (Qh f m+(i:Int))) (m:Int)=_;rw[Α];rw[aj6 (by omega)];have:Qh f m+(i:Int)=(((Qh f m).toNat+i:Nat):Int):=by push_cast;omega
 rw[this];norm_cast
theorem aew {n ad q:Int} {G:List (O3×Unit)} {xs:List Int} {i:Nat} (hq:∀x∈xs.take i,(n,ad,x)∈G.map (·.1)) (hx:xs[i]? =some q) (hn:(n,ad,q)∉G.map (·.1)):KD n ad G xs=some q:=by
 obtain⟨h,rfl⟩:=ady.1 hx;unfold KD;rw[List.find?_eq_some_iff_append];refine⟨by simpa using hn,xs.take i,xs.drop (i+1),by rw[<- akB h,ajS],λx hx=> ?_⟩;simpa using hq x hx
theorem aar {n ad:Int} {G:List (O3×Unit)} {xs:List Int} (hq:∀x∈xs,(n,ad,x)∈G.map (·.1)):KD n ad G xs=none:=by
 unfold KD;rw[List.find?_eq_none];intro q hq';have:=hq q hq';simpa using this
theorem N_ (h:PL w p g s lo hi pl G) {n want f:Int} (hn:n=1\/n=6\/n=17) (h1:vN lo) (h2:vN hi) (h3:0<=want) (h4:want<=65535) (h0:1<=pl.length):
  sO (some ⟨p,0,none⟩) n want f w λx y z e w'=>gU w w' (·=g)/\
   ((∃o,CO n want f lo hi pl G=some o/\x=o.1/\y=o.2.1/\z=o.2.2/\e=0/\PL w' p g s lo hi pl (Bo G o ()))\/
    (CO n want f lo hi pl G=none/\e=12/\Ext w w')):=by
 apply NR;have hsl:s.len=pl.length:=h.sl.len;have au:=h.ln;refine⟨rfl,gu λb6 w1 r6 e6 z6 f1=>gu λb8 w2 r8 e8 z8 f2=>gu λu w3 aj e10 z10 f3=> ?_⟩;have x3:=(f1.trans f2).trans f3;have r6:=(r6.ext f2).ext f3;have r8:=r8.ext f3;have hp3:=h.ext x3;have lg:=h.gv.lt;have lp:=h.hd.lt;simp only[sx,r6.cell];refine cmS0 (PN.Ef hp3) ?_;rintro _ w' ⟨rfl,hw⟩;subst hw;simp only[ab6,Β];refine cmS0 (PN.NY n _) ?_;rintro _ w' ⟨rfl,hw⟩;subst hw;simp only[hn,aaA,ab6,sx,r6.cell,hp3.hd.cell];refine⟨by omega,by omega,?_⟩;have hm:(s.len:Int)=(pl.length:Int):=by omega
 rw[hm];generalize an:Bl n lo hi want=xs;have ak:CO n want f lo hi pl G=ϧ n G xs (rotL f pl):=by unfold CO;rw[an]
 rw[ak];have hrl:(rotL f pl).length=pl.length:=by simp[rotL]
 refine gK (λst W=>∃i:Nat,i<=pl.length/\st.1.1=(i:Int)/\gU w' W (λ_=>False)/\ϧ n G xs ((rotL f pl).take i)=none/\(∀d∈st.2,w'.heap.size<=d/\W.heap[d]? =some (.deferred (some [])))/\st.2.Nodup)
  (λst _=>((pl.length:Int) - st.1.1).toNat) ⟨0,by omega,rfl,gU.refl _ _,rfl,by simp,by simp⟩ ?_
 rintro⟨⟨ii,⟨⟩⟩,ds⟩ W ⟨i,hi1,hi2,f4,J,hd,nd⟩ next aa
 simp only at hi2 hd nd;subst hi2;have x4:Ext w' W:=(Ext.refl w').new f4 (by simp);have r6W:=r6.ext x4;have r8W:=r8.ext x4;have r10W:=aj.ext x4;have ab:=hp3.ext x4;have sW:=x4.size;by_cases ao:i<pl.length
 ·have O:((i:Int)<(pl.length:Int)):=by omega
  have ah:=Ext.drew W;simp only[O,aaA,Δ,sx,r6W.drew.cell,ab.hd.drew.cell];refine⟨by omega,?_⟩;rw[ajI (by omega) au ao];have am:((Qh f pl.length).toNat+i) % pl.length<pl.length:=akf _ (by omega);have ac:pl[((Qh f pl.length).toNat+i) % pl.length]? =some (pl.getD (((Qh f pl.length).toNat+i) % pl.length) 0):=by
   rw[akE,abe am];rfl
  have R:=adb (f:=f) ao;generalize pl.getD (((Qh f pl.length).toNat+i) % pl.length) 0=ad at ac R;refine SN.BJ (ab.ext ah).sl ac λa37 c0=> ?_;simp only[sx,c0];refine gu λI w4 ae e40 z40 g4=> ?_;have hp4:=(ab.ext ah).ext g4;have av:=(r6W.ext ah).ext g4;have cA:w4.cell? a37=some (.int .i64 ad):=og c0 g4;have l6:=r6.lt;have l8:=r8.lt;have l10:=aj.lt;have hdz:W.drew.heap.size=W.heap.size:=rfl;simp only[cA,hp4.hd.cell,av.cell,aeA,sx];refine gZ ae rfl rfl λw5 ae f5 z5=> ?_;have x5:Ext W w5:=(ah.trans g4).new (f5 (·=I) rfl) λx hx e=>by omega
  have aw:=r6W.ext x5;have hp5:=ab.ext x5;simp only[sx,aw.cell];refine cmS5 (ads (s:=s) hp5.hd hn h1 h2 h3 h4) ?_;rintro v w6 ⟨x6,C,aq,hC⟩;rw[an] at aq;have ae:=ae.ext x6;have s5:=x5.size;have s6:=x6.size;have s1:=f1.size;have s2:=f2.size;have s3:=f3.size;have U:=x5.trans x6;have l40:W.heap.size<=I:=by omega
  have l40':I<w5.heap.size:=by omega
  have lq:nG none w6=w6.heap.size+1:=rfl;refine Pm aq (λj W'=>∃z:Int,Row W' I [.int .i64 n,.int .i64 ad,.int .i64 z]/\gU w6 W' (·=I)/\∀q∈xs.take j,(n,ad,q)∈G.map (·.1))
   (λe W'=>e= .ret/\∃q,KD n ad G xs=some q/\Row W' b8 [.int .i64 n,.int .i64 ad,.int .i64 q]/\Row W' u [.int .i64 0]/\PL W' p g s lo hi pl (Bo G (n,ad,q) ())/\gU w6 W' (λb=>b=I\/b=g\/b=b8\/b=u)) (by simp) ?_ ?_ ?_ ?_ ?_ ?_ ?_ ?_ ?_
  ·exact λW' hx _=>⟨0,ae.ext hx,hx _,by simp⟩
  ·rintro j W' ⟨z,_,hf,_⟩;exact hC W' _ hf (λb h1 h2 e=>by omega) (by omega)
  ·rintro j W' W'' ⟨z,hr,hf,hq⟩ hf';rw[lq] at hf';exact⟨z,hr.fr hf' (by omega),hf.trans hf' λx hx e=>by omega,hq⟩
  ·rintro e W' W'' ⟨he,q,q1,q2,q3,q4,q5⟩ hf';rw[lq] at hf';refine⟨he,q,q1,q2.fr hf' (by omega),q3.fr hf' (by omega),q4.fr hf' (λb hb=> ?_),q5.trans hf' λx hx e=>by omega⟩;have:=h.lt hb;have:=x3.size;omega
  ·exact λe W' hJ=> .inl hJ.1
  ·rintro j ⟨q,⟨⟩⟩ W' Kb hx ⟨z,hr,hf,hq⟩ af hn2 hj2;rw[UF] at hx;obtain⟨q',hq',he⟩:=akW.1 hx;have ax:q'=q:=congrArg Prod.fst he;subst ax;rw[lq] at af hn2 hj2 ⊢;simp only[gJ,ahA];refine gX hr rfl (by simp) λW2 r2 f2' z2=> ?_;refine⟨(f2' (·=I) rfl).same _ af (by omega),?_⟩;simp only[aho,agE] at r2;have fb:gU w6 (gG W2 (w6.heap.size+1)) (·=I):=(hf.trans (f2' (·=I) rfl) λ_ _ e=>e).trans (gU.gG W2 _) λx hx e=>by omega
   have fc:gU (gG W' (w6.heap.size+1)) (gG W2 (w6.heap.size+1)) (·=I):=QG (f2' (·=I) rfl) _;have rb40:Row (gG W2 (w6.heap.size+1)) I _:=r2.fr (gU.gG W2 _) (by omega);generalize gG W2 (w6.heap.size+1)=W3 at fb fc rb40 ⊢;have k6:=(r6W.ext U).fr fb (by omega);have k8:=(r8W.ext U).fr fb (by omega);have ay:=(r10W.ext U).fr fb (by omega);have kp:PL W3 p g s lo hi pl G:=(ab.ext U).fr fb λb hb e=>by have:=h.lt hb;have:=x3.size;omega
   have fd:gU W3 W3.drew (·=I):=gU.drew _ _;have kpd:=kp.ext (Ext.drew W3);have kpd2:=kpd.ext (Ext.drew W3.drew);simp only[sx,k6.drew.cell,kpd.hd.cell,rb40.drew.cell];have sz:W.heap.size<=W3.heap.size:=by have:=fb.size;omega
   refine Gz (k:= .bool) kpd.gv eqO (n,ad,q') (acN _) (λhm=> ?_) (λb hb=> ?_)
   ·have hm:=qA.1 hm;simp only[jK,Β,sx,k6.drew.drew.cell,kpd2.hd.cell,rb40.drew.drew.cell];refine Ag (ev:=evU) kpd2.gv eqO (n,ad,q') () (acN _) λW4 m4 f4' z4=> ?_;have gb:∀x,I<=x\/x=b6\/x=b8\/x=u->x≠g:=λx hx=>by omega
    have az:=rb40.drew.drew.fr f4' (gb _ (by omega));simp only[sx,az.cell];refine gZ (k8.drew.drew.fr f4' (gb _ (by omega))) rfl rfl λW5 q8 g8 z8'=> ?_;have aA:=(ay.drew.drew.fr f4' (gb _ (by omega))).fr (g8 (·=b8) rfl) (by omega);refine gX aA rfl (by simp) λW6 ar g10 z10'=> ?_;simp only[agE] at ar;have ft:gU W3 W6 (λb=>b=I\/b=g\/b=b8\/b=u):=
     ((((gU.drew W3 _).trans (gU.drew _ _) λ_ _ e=>e).trans (f4'.mono (S':=λb=>b=I\/b=g\/b=b8\/b=u) λb e=>by omega) λ_ _ e=>e).trans ((g8 (·=b8) rfl).mono (S':=λb=>b=I\/b=g\/b=b8\/b=u) λb e=>by omega) λ_ _ e=>e).trans
      ((g10 (·=u) rfl).mono (S':=λb=>b=I\/b=g\/b=b8\/b=u) λb e=>by omega) λ_ _ e=>e
    have p4:PL W4 p g s lo hi pl (Bo G (n,ad,q') ()):=⟨kpd2.hd.fr f4' h.pg,kpd2.ad.fr f4' (λb hb e=>h.sg (e ▸ hb)),m4,Oc h.nd _ _,h.ln,h.pg,h.sp,h.sg⟩;have nb:∀b,fp p g s b->b≠b8/\b≠u:=λb hb=>by have:=h.lt hb;omega
    have p6:=(p4.fr (g8 (·=b8) rfl) (λb hb=>(nb b hb).1)).fr (g10 (·=u) rfl) (λb hb=>(nb b hb).2);refine hj2 .ret W6 (λb=>b=I\/b=g\/b=b8\/b=u) ((fc.mono λb e=> .inl e).trans ft λ_ _ e=>e) (λb e=>by omega) ⟨rfl,q',aew hq hq' hm,q8.fr (g10 (·=u) rfl) (by omega),ar,p6,(fb.mono λb e=> .inl e).trans ft λ_ _ e=>e⟩
   ·have hm:(n,ad,q')∈G.map (·.1):=akp λhc=>by rw[qA.2 hc] at hb;cases hb
    simp only[evU,jK,Δ];refine hn2 _ (·=I) (fc.trans fd λ_ _ e=>e) (λb e=>by omega) ⟨q',rb40.drew,fb.trans fd λ_ _ e=>e,λx hx'=> ?_⟩;rw[akc,hq'] at hx';rcases ajk.1 hx' with hx'|hx'
    ·exact hq x hx'
    ·have:x=q':=by simpa using hx'
     rw[this];exact hm
  ·rintro W' ⟨z,hr,hf,hq⟩ Y;have Y:=Y rfl;have aB:KD n ad G xs=none:=aar λx hx=>hq x (by rw[aji (by simp[yP])];exact hx);have fz:gU W W' (λ_=>False):=(U.new hf λb hb e=>by omega) _;refine aa _ _ ⟨i+1,by omega,by rw[Α];push_cast;rfl,f4.trans fz λ_ _ e=>e,?_,?_,?_⟩ ?_
   ·rw[R,YO _ _ J,ϧ,aB];rfl
   ·intro d N;rcases afm.1 N with rfl|N
    ·exact⟨by omega,Y⟩
    ·obtain⟨d1,d2⟩:=hd d N;have Z:d<W.heap.size:=(aiQ.1 d2).1;exact⟨d1,by rw[fz.same d Z (by simp)];exact d2⟩
   ·simp only[akj];refine⟨λN=> ?_,nd⟩;have Z:w6.heap.size<W.heap.size:=(aiQ.1 (hd _ N).2).1;omega
   ·simp only;rw[Α];omega
  ·rintro W' ⟨_,q,q1,q2,q3,q4,q5⟩ Y;have Y:=Y rfl;have q5s:=q5.size;refine DU (n:=w'.heap.size) _ W' (λd N=> ?_) ?_ λw7 f7 z7=> ?_
   ·rcases afm.1 N with rfl|N
    ·exact⟨by omega,Y⟩
    ·obtain⟨d1,d2⟩:=hd d N;have Z:d<W.heap.size:=(aiQ.1 d2).1;exact⟨d1,by rw[q5.same d (by omega) (by omega),(U λ_=>False).same d Z (by simp)];exact d2⟩
   ·simp only[akj];refine⟨λN=> ?_,nd⟩;have Z:w6.heap.size<W.heap.size:=(aiQ.1 (hd _ N).2).1;omega
   ·have g8:=q2.fr f7 (by omega);have g10:=q3.fr f7 (by omega);simp only[sx,g8.cell,g10.cell];have ag:ϧ n G xs (rotL f pl)=some (n,ad,q):=by
     have e:rotL f pl=(rotL f pl).take i++(ad::(rotL f pl).drop (i+1)):=by
      conv=>lhs;rw[<- ajS (i+1) (rotL f pl),R,ajj]
      rfl
     rw[e,YO _ _ J,ϧ,q1]
    refine⟨?_,.inl ⟨(n,ad,q),ag,by trivial,by trivial,by trivial,by trivial,q4.fr f7 λb hb=>by have:=h.lt hb;have:=x3.size;omega⟩⟩;have t1:gU w W' (λb=>b=I\/b=g\/b=b8\/b=u):=((x3.trans x4).trans U).fr q5;have ha:gU w w7 (λb=>b=I\/b=g\/b=b8\/b=u\/w'.heap.size<=b):=(t1.mono λb e=>by omega).trans (f7.mono λb e=>by omega) λ_ _ e=>e;exact⟨ha.size,λb hb hne=>ha.same b hb (by omega),ha.io⟩
  ·rintro id W' ⟨hc,_⟩
   cases hc
 ·have aC:i=pl.length:=by omega
  have O:¬((i:Int)<(pl.length:Int)):=by omega
  simp only[O,aaV,Β];have s1:=f1.size;have s2:=f2.size;have s3:=f3.size;refine gZ r8W rfl rfl λw5 r5 f5 z5=> ?_;refine gX (r10W.fr (f5 (·=b8) rfl) (by omega)) rfl (by simp) λw6 r6' f6 z6'=> ?_;have r5:=r5.fr (f6 (·=u) rfl) (by omega);simp only[agE] at r6';have fz:gU w' w6 (λb=>b=b8\/b=u):=((f4.mono (S':=λb=>b=b8\/b=u) λ_ e=>e.elim).trans ((f5 (·=b8) rfl).mono (S':=λb=>b=b8\/b=u) λb e=> .inl e) λ_ _ e=>e).trans ((f6 (·=u) rfl).mono (S':=λb=>b=b8\/b=u) λb e=> .inr e) λ_ _ e=>e;have lb8:=r8.lt;have lb10:=aj.lt;refine DU (n:=w'.heap.size) ds w6 (λd ai=>⟨(hd d ai).1,?_⟩) nd λw7 f7 z7=> ?_
  ·have Z:d<W.heap.size:=(aiQ.1 (hd d ai).2).1;have:=(hd d ai).1;rw[(f6 (·=u) rfl).same d (by omega) (by omega),(f5 (·=b8) rfl).same d Z (by omega)];exact(hd d ai).2
  ·have g5:=r5.fr f7 (by omega);have g6:=r6'.fr f7 (by omega);simp only[sx,g5.cell,g6.cell];have aD:gU w' w7 (λb=>b=b8\/b=u):=fz.trans f7 λx hx e=>by omega
   have hx7:Ext w w7:=x3.new aD λb hb e=>by omega
   rw[aC,aji (by omega)] at J;exact⟨hx7 _,.inr ⟨J,by trivial,hx7⟩⟩
end Go.Proofs.PN
end
section
namespace Go.Proofs.EN
open Gp Go.Proofs
open Gp.Bind (Bnd Slots live GoodB freeN getS In64)
open Gp.Ses (Ses)
variable {w w':θ} {a:EA} {c:Cf} {e:ES}
theorem nK.aip (h:nK w a c e) {A:SN.QZ} {SS:Gp.Ses.Slots} {M:ByteArray->Option Int} (hf:gU w w' (own a 4)) (u:SN.TA w' A c.ns.toNat SS M) (hd:A.d=a.T.d) (I:∀x,SN.fp A x->SN.fp a.T x\/w.heap.size<=x) (J:∀x,SN.fp A x->x<w'.heap.size):
  nK w' {a with T:=A} c {e with SS:=SS,M:=M}:=by
 have same:∀k b,k≠4->own {a with T:=A} k b->own a k b:=by
  intro k b hk ho
  match k,ho with
  |0,ho=>exact ho
  |1,ho=>exact ho
  |2,ho=>exact ho
  |3,ho=>exact ho
  |4,_=>exact absurd rfl hk
  |5,ho=>exact ho
  |(n+6),ho=>exact ho
 have o:∀k b,own a k b->k≠4->¬own a 4 b:=λk b hk hn=>h.off hk hn;refine⟨h.cf,?_,h.pl.fr hf (λb hb=>o 1 b hb (by decide)),h.qr.fr hf (o 2 _ (.inl rfl) (by decide)) (o 2 _ (.inr rfl) (by decide)),h.qo,h.db.fr hf (λb hb=>o 3 b hb (by decide)),u,h.wh.fr hf (λb hb=>o 5 b hb (by decide)),ϵ (j:=4) h.ap h.lt same (λb hb=>I b hb),?_⟩
 ·have:=h.hd.fr hf (o 0 _ rfl (by decide));simp only[hd];exact this
 ·intro k b hb;by_cases hk:k=4
  ·subst hk;exact J b hb
  ·exact ajn (h.lt k b (same k b hk hb)) hf.size
def Grow (a a':EA) (n:Nat):Prop:=∀b,jq a' b->jq a b\/n<=b
theorem Grow.refl (a:EA) (n:Nat):Grow a a n:=λ_ h=> .inl h
theorem Grow.trans {a a' a'':EA} {n n':Nat} (h:Grow a a' n) (h':Grow a' a'' n') (hn:n<=n'):Grow a a'' n:=λb hb=>(h' b hb).elim (h b) λhb=> .inr (by omega)
structure CfM (c:Cf):Prop where
 p1:1<=c.pl.length
 l1:1<=c.lo
 lh:c.lo<=c.hi
 h1:c.hi<65536
 wt:∃A0 A1 A2 A3 A4 A5 A6 A7 A8 A9 A10 A11 A12 A13 A14 A15 A16 A17 A18 A19 A20 A21 A22 A23 A24 A25 A26 A27 A28 A29 A30 A31 A32 A33 A34 A35,c.C=jo A0 A1 A2 A3 A4 A5 A6 A7 A8 A9 A10 A11 A12 A13 A14 A15 A16 A17 A18 A19 A20 A21 A22 A23 A24 A25 A26 A27 A28 A29 A30 A31 A32 A33 A34 A35/\
  (1<=A30/\A30<=2^40)/\(1<=A31/\A31<=2^40)/\(1<=A32/\A32<=2^40)/\(1<=A33/\A33<=2^40)
structure Gd (c:Cf) (e:ES):Prop where
 inv:Inv c e
 sb:∀(k:Nat) (s:Ses),e.SS[k]? =some (some s)->∃(j:Nat) (b:Bnd),s.bd=(j:Int)/\e.S[j]? =some (some b)
 ts:∀id t,lJ e.l id=some t->∃(k:Nat) (s:Ses),id=(k:Int)/\e.SS[k]? =some (some s)/\(t.a:Int)=s.un
 st:∀(k:Nat) (s:Ses),e.SS[k]? =some (some s)->∃t,lJ e.l (k:Int)=some t
 lc:e.l.length=(Gp.Ses.live 0 e.SS).length
 wn:e.wn=e.now
 le:e.now<=2^40
theorem aag (h:nK w a c e):nJ (some ⟨a.x,0,none⟩) w λr w'=>r=decide (((Gp.Ses.live 0 e.SS).length:Int)>=c.ns)/\Ext w w':=by
 apply Fp;have hd:=h.ext (Ext.drew w);simp only[sx,hd.c3,hd.c27];refine cmS1 (SN.agY hd.se) ?_;rintro n w1 ⟨rfl,hw⟩;subst hw;exact⟨hd.c27,rfl,Ext.drew w⟩
theorem Ph (pr ad po:Int) (w:θ):uI pr ad po w λx y w'=>x=ad/\y=(if pr=1 then 0 else po)/\Ext w w':=by
 apply TI;refine gu λp w1 r1 e1 z1 f1=> ?_;intro J;have hJ:∀v,v=(if pr=1 then 0 else po)->J v:=λv hv=>by
  simp only[J];refine gZ r1 rfl rfl λw2 r2 f2 z2=> ?_;simp only[sx,r2.cell];exact⟨by trivial,hv,f1.new (f2 (·=p) rfl) λy hy he=>by omega⟩
 clear_value J;by_cases hp:pr=1
 ·subst hp;exact hJ 0 (by simp)
 ·have:(pr==1)=false:=by simpa using hp
  rw[this,Β];exact hJ po (by rw[Ε hp])
def WQ (e:ES) (bound:Bool) (bd ra rp:Int):Option Int:=if bound then e.M (Bind.keyS [bd,ra,rp]) else none
def agV (e:ES) (o:Option Int):Int:=match o with
 |none=>0
 |some id=>((Gp.Ses.getS e.SS id).getD SN.Ϯ).st
theorem find_ok (h:nK w a c e) (bd:Int) (bound:Bool) (ra rp:Int) (hq:∀n∈[bd,ra,rp],In64 n) {K:Int->Bool->Int->Bool->Int->Int->Int->b_}
  (hK:∀w',Ext w w'->K bd bound ((WQ e bound bd ra rp).getD 0) (WQ e bound bd ra rp).isSome (agV e (WQ e bound bd ra rp)) ra rp w'):
  pY (some ⟨a.x,0,none⟩) bd bound 0 false 0 ra rp w K:=by
 apply JR;refine gu λp w1 r1 e1 z1 f1=> ?_;refine gu λq w2 r2 e2 z2 f2=> ?_;have O:=r1.ext f2;have x2:=f1.trans f2;have za:=f1.size;have zb:=f2.size;simp -zeta only[sx,O.cell]
 cases bound
 ·simp only[aek,Δ];refine gZ r2 rfl rfl λw3 r3 f3 z3=> ?_;simp only[sx,r3.cell];exact hK w3 (x2.new (f3 (·=q) rfl) λy hy he=>by omega)
 simp -zeta only[ab6,Β];have xd:=x2.trans (Ext.drew w2);have hd:=h.ext xd;have r1d:=O.drew;simp -zeta only[sx,hd.c3,r1d.cell];refine cmS3 (SN.ϖ hd.se bd ra rp hq) ?_;rintro n t w3 ⟨rfl,rfl,f3⟩;have U:=r1d.ext f3;have e0:WQ e true bd ra rp=e.M (Bind.keyS [bd,ra,rp]):=rfl;rw[e0] at hK;generalize e.M (Bind.keyS [bd,ra,rp])=o at hK ⊢;refine gX U rfl (by simp) λw4 r4 f4 z4=> ?_;refine gX r4 rfl (by simp) λw5 r5 f5 z5=> ?_;simp only[aho,agE] at r5;have f5':gU w3 w5 (·=p):=(f4 (·=p) rfl).trans (f5 (·=p) rfl) λ_ _ h=>h;have N:Ext w w5:=((xd.trans f3).new f5' λy hy he=>by omega);have R:=(((r2.drew).ext f3).fr f5' (by omega));have hE:=h.ext N;intro J;have hJ:∀v W,Ext w W->v=agV e o->Row W p [.int .i64 bd,.bool true,.int .i64 (o.getD 0),.bool o.isSome,.int .i64 v,.int .i64 ra,.int .i64 rp]->Row W q alO->J W:=by
  intro v W hx hv hp hq';simp only[J,sx,hp.cell];refine gZ hq' rfl rfl λw6 r6 f6 z6=> ?_;simp only[sx,r6.cell];rw[hv];exact hK w6 (hx.new (f6 (·=q) rfl) λy hy he=>by omega)
 clear_value J;simp -zeta only[sx,r5.cell]
 cases o with
 |none=>
  simp only[aj_,Β];exact hJ 0 w5 N rfl r5 R
 |some id=>
  simp -zeta only[ajv,Δ];intro J2;have hJ2:∀(u:Nat) W,Ext w5 W->Row W u [.int .i64 ((Gp.Ses.getS e.SS id).getD SN.Ϯ).bd,.int .i64 ((Gp.Ses.getS e.SS id).getD SN.Ϯ).st,.int .i64 ((Gp.Ses.getS e.SS id).getD SN.Ϯ).un,.int .i64 ((Gp.Ses.getS e.SS id).getD SN.Ϯ).ra,.int .i64 ((Gp.Ses.getS e.SS id).getD SN.Ϯ).rp]->J2 ⟨u,0,none⟩ W:=by
   intro u W hx hr;simp only[J2,sx,hr.cell];refine gX (r5.ext hx) rfl (by simp) λw6 r6 f6 z6=> ?_;simp only[aho,agE] at r6;exact hJ _ w6 ((N.trans hx).new (f6 (·=p) rfl) λy hy he=>by omega) rfl r6 ((R.ext hx).fr (f6 (·=p) rfl) (by omega))
  clear_value J2;have I:=Ext.drew w5;have hE5:=hE.ext I;simp only[sx,hE5.c3,r5.drew.cell,ajY];refine⟨?_,?_⟩
  ·refine cmS15 (SN.YM hE5.se id) ?_;rintro a1 a2 a3 a4 a5 r w6 ⟨_,⟨rfl,rfl,rfl,rfl,rfl⟩,f6⟩;refine gu λu w7 r7 e7 z7 f7=> ?_;have x7:=(I.trans f6).trans f7;refine⟨by rw[(r5.ext x7).cell];rfl,(hE.ext x7).c3,?_⟩;refine gZ r7 rfl rfl λw8 r8 f8 z8=> ?_;exact hJ2 u w8 (x7.new (f8 (·=u) rfl) λy hy he=>by have:=(I.trans f6).size;omega) r8
  ·refine gu λu w7 r7 e7 z7 f7=> ?_;have x7:=I.trans f7;refine⟨by rw[(r5.ext x7).cell];rfl,(hE.ext x7).c3,?_⟩;refine cmS15 (SN.YM (hE.ext x7).se id) ?_;rintro a1 a2 a3 a4 a5 r w6 ⟨_,⟨rfl,rfl,rfl,rfl,rfl⟩,f6⟩;refine gZ (r7.ext f6) rfl rfl λw8 r8 f8 z8=> ?_;exact hJ2 u w8 ((x7.trans f6).new (f8 (·=u) rfl) λy hy he=>by have:=I.size;omega) r8
end Go.Proofs.EN
end
section
namespace Go.Proofs.AN
open Gp Go.Proofs
theorem iU {k:Kind} {w:θ} {ad:Addr} {y:k.T} {K:k.T->Prop} (h:w.cell? ad=some (k.enc y)) (hK:K y):Ld k w ad K:=⟨y,h,hK⟩
theorem ai4 {w:θ} {ad:Addr} {A0 A1 A2 A3 A4 A5 A6 A7 A8 A9 h u I J N O:Int} {R U:fU} {Y Z aa ab ac ae af ag ah ai aj ak am an ao aq ar:Int} {au:fU} {K:Int->Int->Int->Int->Int->Int->Int->Int->Int->Int->Int->Int->Int->Int->Int->Int->fU->fU->Int->Int->Int->Int->Int->Int->Int->Int->Int->Int->Int->Int->Int->Int->Int->Int->Int->fU->Prop} (hc:∀j,j<36->w.cell? (ad.add j)=(jo A0 A1 A2 A3 A4 A5 A6 A7 A8 A9 h u I J N O R U Y Z aa ab ac ae af ag ah ai aj ak am an ao aq ar au)[j]?) (hK:K A0 A1 A2 A3 A4 A5 A6 A7 A8 A9 h u I J N O R U Y Z aa ab ac ae af ag ah ai aj ak am an ao aq ar au):rO w ad K:=by
 unfold rO;refine⟨A0,hc 0 (by omega),?_⟩;refine⟨A1,hc 1 (by omega),?_⟩;refine⟨A2,hc 2 (by omega),?_⟩;refine⟨A3,hc 3 (by omega),?_⟩;refine⟨A4,hc 4 (by omega),?_⟩;refine⟨A5,hc 5 (by omega),?_⟩;refine⟨A6,hc 6 (by omega),?_⟩;refine⟨A7,hc 7 (by omega),?_⟩;refine⟨A8,hc 8 (by omega),?_⟩;refine⟨A9,hc 9 (by omega),?_⟩;refine⟨h,hc 10 (by omega),?_⟩;refine⟨u,hc 11 (by omega),?_⟩;refine⟨I,hc 12 (by omega),?_⟩;refine⟨J,hc 13 (by omega),?_⟩;refine⟨N,hc 14 (by omega),?_⟩;refine⟨O,hc 15 (by omega),?_⟩;refine⟨R,hc 16 (by omega),?_⟩;refine⟨U,hc 17 (by omega),?_⟩;refine⟨Y,hc 18 (by omega),?_⟩;refine⟨Z,hc 19 (by omega),?_⟩;refine⟨aa,hc 20 (by omega),?_⟩;refine⟨ab,hc 21 (by omega),?_⟩;refine⟨ac,hc 22 (by omega),?_⟩;refine⟨ae,hc 23 (by omega),?_⟩;refine⟨af,hc 24 (by omega),?_⟩;refine⟨ag,hc 25 (by omega),?_⟩;refine⟨ah,hc 26 (by omega),?_⟩;refine⟨ai,hc 27 (by omega),?_⟩;refine⟨aj,hc 28 (by omega),?_⟩;refine⟨ak,hc 29 (by omega),?_⟩;refine⟨am,hc 30 (by omega),?_⟩;refine⟨an,hc 31 (by omega),?_⟩;refine⟨ao,hc 32 (by omega),?_⟩;refine⟨aq,hc 33 (by omega),?_⟩;refine⟨ar,hc 34 (by omega),?_⟩;refine⟨au,hc 35 (by omega),?_⟩;exact hK
end Go.Proofs.AN
namespace Go.Proofs.EN
open Gp Go.Proofs Go.Proofs.AN
open Gp.Bind (Bnd Slots live GoodB freeN getS In64)
open Gp.Ses (Ses)
variable {w w':θ} {a:EA} {c:Cf} {e:ES}
def ci (c:Cf) (j:Nat):Int:=match c.C[j]? with
 |some (.int _ x)=>x
 |_=>0
def FW (c:Cf) (pr st:Int):Int:=if pr=17 then ci c 30 else if pr=1 then ci c 33 else if pr=6 then (if st=3 then ci c 31 else ci c 32) else 0
theorem ϟ (hm:CfM c) {pr st:Int} (hp:pr=1\/pr=6\/pr=17):1<=FW c pr st/\FW c pr st<=2^40:=by
 obtain⟨A0,A1,A2,A3,A4,A5,A6,A7,A8,A9,A10,A11,A12,A13,A14,A15,A16,A17,A18,A19,A20,A21,A22,A23,A24,A25,A26,A27,A28,A29,h,u,I,J,A34,A35,hC,h1,h2,h3,h4⟩:=hm.wt;have N:ci c 30=h:=by unfold ci;rw[hC];rfl
 have O:ci c 31=u:=by unfold ci;rw[hC];rfl
 have R:ci c 32=I:=by unfold ci;rw[hC];rfl
 have U:ci c 33=J:=by unfold ci;rw[hC];rfl
 unfold FW;rw[N,O,R,U];rcases hp with rfl|rfl|rfl
 ·exact h4
 ·rw[Ε (by decide),Ε (by decide),Ζ rfl];split
  ·exact h2
  ·exact h3
 ·exact h1
theorem ag7 {ad:Addr} (hm:CfM c) (hc:∀j,j<36->w.cell? (ad.add j)=c.C[j]?) (pr st:Int) {K:Int->b_} (hK:∀w',Ext w w'->K (FW c pr st) w'):
  rO w ad λO R U Y Z aa ab ac ae af ag ah ai aj ak am an ao aq ar au av aw ax ay az aA aB aC aD aE aF aG aH aI aJ=>CU O R U Y Z aa ab ac ae af ag ah ai aj ak am an ao aq ar au av aw ax ay az aA aB aC aD aE aF aG aH aI aJ pr st w K:=by
 obtain⟨A0,A1,A2,A3,A4,A5,A6,A7,A8,A9,A10,A11,A12,A13,A14,A15,A16,A17,A18,A19,A20,A21,A22,A23,A24,A25,A26,A27,A28,A29,u,I,J,N,A34,A35,hC,h1,h2,h3,h4⟩:=hm.wt;rw[hC] at hc;refine ai4 hc ?_;apply Tz;refine gu λp w1 r1 e1 z1 f1=> ?_;have aK:ci c 30=u:=by unfold ci;rw[hC];rfl
 have aL:ci c 31=I:=by unfold ci;rw[hC];rfl
 have aM:ci c 32=J:=by unfold ci;rw[hC];rfl
 have aN:ci c 33=N:=by unfold ci;rw[hC];rfl
 have hK:=hK w1 f1;unfold FW at hK;rw[aK,aL,aM,aN] at hK;have aO:w1.cell? ((⟨p,0,none⟩:Addr).add 30)=some (.int .i64 u):=by rw[gJ,r1.cell];rfl
 have aP:w1.cell? ((⟨p,0,none⟩:Addr).add 31)=some (.int .i64 I):=by rw[gJ,r1.cell];rfl
 have aQ:w1.cell? ((⟨p,0,none⟩:Addr).add 32)=some (.int .i64 J):=by rw[gJ,r1.cell];rfl
 have aR:w1.cell? ((⟨p,0,none⟩:Addr).add 33)=some (.int .i64 N):=by rw[gJ,r1.cell];rfl
 by_cases h:pr=17
 ·subst h;exact iU (k:= .int .i64) aO hK
 have aS:(pr==17)=false:=by simpa using h
 rw[Ε h] at hK;rw[aS,Β];by_cases p1:pr=1
 ·subst p1;exact iU (k:= .int .i64) aR hK
 have b1:(pr==1)=false:=by simpa using p1
 rw[Ε p1] at hK;rw[b1,Β];by_cases p6:pr=6
 ·subst p6;rw[Ζ rfl] at hK;by_cases s3:st=3
  ·subst s3;exact iU (k:= .int .i64) aP hK
  ·have b3:(st==3)=false:=by simpa using s3
   rw[Ε s3] at hK;rw[b3];exact iU (k:= .int .i64) aQ hK
 ·have b6:(pr==6)=false:=by simpa using p6
  rw[Ε p6] at hK;rw[b6,Β];exact hK
theorem Fe:∀{S:Gp.Ses.Slots} {i:Nat} {b b':Ses} (k:Nat),S[i]? =some (some b)->(Gp.Ses.live k (S.set i (some b'))).length=(Gp.Ses.live k S).length
 |[],_,_,_,_,h=>by simp at h
 |x::r,0,b,b',k,h=>by
  simp at h;subst h;simp[Gp.Ses.live]
 |none::r,i+1,b,b',k,h=>by
  rw[aho,Gp.Ses.live,Gp.Ses.live];exact Fe (k+1) (by simpa using h)
 |some x::r,i+1,b,b',k,h=>by
  rw[aho,Gp.Ses.live,Gp.Ses.live,aeW,aeW,Fe (k+1) (by simpa using h)]
theorem aa9 {l:WN.PL} (id:Int) (t:Gp.Wh.Tm):(Bo l id t).length=if id∈l.map (·.1) then l.length else l.length+1:=by
 have h:=congrArg List.length (QX l id t);rw[ahv] at h;rw[h];split<;>simp
theorem Us:∀{S:Gp.Ses.Slots} (k:Nat),Gp.Ses.freeN S=none->(Gp.Ses.live k S).length=S.length
 |[],_,_=>rfl
 |none::r,_,h=>by simp[Gp.Ses.freeN] at h
 |some b::r,k,h=>by
  have:=Us (S:=r) (k+1) (by simpa [Gp.Ses.freeN] using h);simp[Gp.Ses.live,this]
end Go.Proofs.EN
end
