import Derived.Test.YtlpncoeijhpddaaGreatDoorW10
import Derived.Test.YtlpncoeijhpddaaGreatDoorW8
import Derived.Test.YtlpncoeijhpddaaGreatDoorW3
set_option maxRecDepth 100000
set_option maxHeartbeats 1000000
section
namespace Go.Proofs.PO
open Gp
open Gp.PoolN (stepL stepL_get alike cls oth)
theorem aht {w:θ} {b i:Nat} {l:List Value} {v:Value} {K:b_} (hr:Row w b l) (h1:iP v=true) (hi:l[i]? =some v) (h:∀w',Ext w w'->w'.heap.size=w.heap.size->K w'):St w ⟨b,i,none⟩ v K:=by
 refine⟨h1,by rw[hr.cell,hi];rfl,hr.frozen i,h _ (λS=> ?_) (by simp)⟩;have hf:ig w (w.setCell ⟨b,i,none⟩ v) (·=b):=ig.set w ⟨b,i,none⟩ v rfl;refine⟨hf.size,λc hc _=> ?_,hf.io⟩;by_cases e:c=b
 ·subst e;obtain⟨T,ht⟩:=hr;obtain⟨hlt,hv⟩:=afg.1 hi;show (w.heap.modify c _)[c]? =w.heap[c]?;rw[aly,adZ rfl,ht];subst hv;simp
 ·exact hf.same c hc e
theorem mask {x:Int} (h:0<=x) (h2:x<=65535):lZ .i64 x 65535=x:=by
 obtain⟨m,rfl⟩:∃m:Nat,x=(m:Int):=⟨x.toNat,by omega⟩;rw[show (65535:Int)=((65535:Nat):Int) from rfl,Og (by omega) (by decide),show (65535:Nat)=2^16 - 1 from rfl,am_,Nat.mod_eq_of_lt (by omega)]
theorem af7 {A B X:List Int} {f:Int->Bool} {i:Nat} {x:Int} (hx:X[i]? =some x) (hp:f x=true):(A++(X.filter f++B))[A.length+((X.take i).filter f).length]? =some x:=by
 obtain⟨h,rfl⟩:=afg.1 hx;have hX:X.filter f=(X.take i).filter f++(X[i]::(X.drop (i+1)).filter f):=by
  conv=>lhs;rw[<- aks i X,amu,amc h,List.filter_cons_of_pos hp]
 simp_all
theorem X7 {X:List Int} {f:Int->Bool} {i:Nat} {x:Int} (hx:X[i]? =some x):((X.take (i+1)).filter f).length=((X.take i).filter f).length+(if f x then 1 else 0):=by
 rw[al3,hx];by_cases h:f x=true<;>simp[h]
def adD (lo hi want:Int) (cl cl':Int×Int):List (List Int):=
 [stepL (min hi cl.2) (max (want+2) (alike (max lo cl.1) want)) 2,stepL (min hi cl.2) (alike (max lo cl.1) want) 2,stepL (min hi cl'.2) (alike (max lo cl'.1) want) 2,stepL hi (alike lo (want+1)) 2]
def Jb (want:Int) (j:Nat) (p:Int):Bool:=decide (p≠want/\¬(j=1/\want<=p))
def OC (lo hi want:Int):List Int:=if lo<=want/\want<=hi then [want] else []
def BZ (want:Int):Nat->List (List Int)->List Int
 |_,[]=>[]
 |j,r::rs=>r.filter (Jb want j)++BZ want (j+1) rs
theorem Yd (want:Int):∀(a b:List (List Int)) (k:Nat),BZ want k (a++b)=BZ want k a++BZ want (k+a.length) b:=by
 intro a
 induction a with
 |nil=>intro b k;simp[BZ]
 |cons x a ih=>
  intro b k;simp only[alY,BZ,ih,aky,ajg]
  grind
def VH (want:Int) (h:List Int) (rs:List (List Int)) (j:Nat):List Int:=h++BZ want 0 (rs.take j)
theorem agY {want:Int} {h:List Int} {rs:List (List Int)} {j:Nat} {r:List Int} (hr:rs[j]? =some r):
  h++BZ want 0 rs=VH want h rs j++(r.filter (Jb want j)++BZ want (j+1) (rs.drop (j+1))):=by
 obtain⟨hlt,rfl⟩:=afg.1 hr;have e:rs=rs.take j++(rs[j]::rs.drop (j+1)):=by simp
 unfold VH
 conv=>lhs;rw[e,Yd,ajH,amb (by omega),BZ,ahn]
 simp
theorem aeP {want:Int} {h:List Int} {rs:List (List Int)} {j:Nat} {r:List Int} (hr:rs[j]? =some r):
  (VH want h rs (j+1)).length=(VH want h rs j).length+(r.filter (Jb want j)).length:=by
 obtain⟨u,rfl⟩:=afg.1 hr;unfold VH;rw[al3,adP u,Yd,ajH,amb (by omega)];simp[BZ];omega
def DX (n lo hi want:Int):List (List Int):=if n=1 then [stepL hi lo 1] else adD lo hi want (cls want) (oth want)
def CQ (n lo hi want:Int):List Int:=OC lo hi want++BZ want 0 (DX n lo hi want)
theorem aeX {n lo hi want:Int}:(DX n lo hi want).length<=4/\(n=1->(DX n lo hi want).length=1):=by
 unfold DX;split
 ·simp
 ·rename_i h;exact⟨by simp[adD],λh'=>absurd h' h⟩
theorem ag7 {w:θ} {p g:Nat} {lo hi want n:Int} {s:gG} (h:Row w p (aaR lo hi s g)) (h1:wQ lo) (h2:wQ hi) (h3:wQ want) (h4:want<=65535):
  um (some ⟨p,0,none⟩) n want w λr w'=>Ext w w'/\∃b vs,r=⟨some ⟨b,0,none⟩,(DX n lo hi want).length,(DX n lo hi want).length⟩/\Row w' b vs/\w.heap.size<=b/\
   ∀j,j<(DX n lo hi want).length->∃v r,(DX n lo hi want)[j]? =some r/\vs[j]? =some v/\vV w w' v r:=by
 by_cases hn:n=1
 ·subst hn;apply DU;have hd:=h.drew;have e:((1:Int)==1)=true:=rfl;simp only[e,abt,sx,hd.cell];refine cmS4 (step_ok (by trivial) (by decide) h2 (by omega) (by omega) _) ?_;rintro v W ⟨f,y⟩;refine⟨⟨y.1,trivial⟩,gU λb W2 r2 e2 z2 f2=> ?_⟩;have hs:=f.size;refine⟨((Ext.drew w).trans f).trans f2,b,[v],rfl,r2,by simp_all,λj hj=> ?_⟩;have:j=0:=by simp[DX] at hj;omega
  subst this;exact⟨v,stepL hi lo 1,rfl,rfl,(y.ext f2).back (ajq _)⟩
 ·refine cmS2 (rows_ok h hn h1 h2 h3 h4) ?_;rintro r W ⟨f,b,v0,v1,v2,v3,rfl,rb,lb,y0,y1,y2,y3⟩;have e:DX n lo hi want=adD lo hi want (cls want) (oth want):=acZ hn;rw[e];refine⟨f,b,_,rfl,rb,lb,λj hj=> ?_⟩
  match j,hj with
  |0,_=>exact⟨v0,_,rfl,rfl,y0⟩
  |1,_=>exact⟨v1,_,rfl,rfl,y1⟩
  |2,_=>exact⟨v2,_,rfl,rfl,y2⟩
  |3,_=>exact⟨v3,_,rfl,rfl,y3⟩
theorem abm {p g f0 f1 f2:Nat} {lo hi want n:Int} {s:gG} (hn:n=1\/n=6\/n=17) (h1:wQ lo) (h2:wQ hi) (h3:0<=want) (h4:want<=65535):
  N9 υ [.one ν] (Value.func (.func KW) #[] #[(Value.pointer (some ⟨f0,0,none⟩)),(Value.pointer (some ⟨f1,0,none⟩)),(Value.pointer (some ⟨f2,0,none⟩))])
   (λW=>Row W f0 [.pointer (some ⟨p,0,none⟩)]/\Row W f1 [Β n]/\Row W f2 [Β want]/\Row W p (aaR lo hi s g)) (yP (CQ n lo hi want)):=by
 refine⟨by kernel_rfl,λl w Q D hC hQ hD hy h0=> ?_⟩;refine Calls.mono (Js (a0:= .func (.yield l) #[] #[]) (f0:=⟨f0,0,none⟩) (f1:=⟨f1,0,none⟩) (f2:=⟨f2,0,none⟩) (K:=λw'=>Q (yP (CQ n lo hi want)).length w'\/D w') ?_) (λe w' h=>h);obtain⟨hm4,hm1⟩:=aeX (n:=n) (lo:=lo) (hi:=hi) (want:=want);have hlen:(yP (CQ n lo hi want)).length=(VH want (OC lo hi want) (DX n lo hi want) (DX n lo hi want).length).length:=by
  simp only[yP,aiz,CQ,VH,alo]
 rw[hlen];refine⟨rfl,gU λb3 w1 r3 e3 z3 x3=> ?_⟩;have up:∀{i W W'},Q i W->Ext W W'->Q i W':=λhq hx=>hQ _ _ _ hq (hx _);have q1:=up h0 x3;intro J4
 suffices hJ4:J4 false w1 by
  obtain⟨c0,c1,c2,c3⟩:=hC _ _ q1;simp only[sx,c0.cell];refine cmS0 (Fg c3) ?_;rintro _ w' ⟨rfl,hw⟩;subst hw;simp only[adt,aaf,afe,gJ,gK,c1.cell];refine cmS0 (Pj n _) ?_;rintro _ w' ⟨rfl,hw⟩;subst hw;have:=hn;simp only[this,acI,adt];exact hJ4
 obtain⟨c0,c1,c2,c3⟩:=hC _ _ q1;simp -zeta only[sx,J4,c2.cell,mask h3 h4];refine aht c2 rfl rfl λw8 x8 z8=> ?_;have q8:=up q1 x8;have r8:=r3.ext x8;intro J9;have hJ9:∀W,Q (OC lo hi want).length W->Row W b3 [.func (.yield l) #[] #[]]->w.heap.size<=W.heap.size->J9 false W:=by
  intro W hq hb3 hs;simp -zeta only[J9,aaf];obtain⟨c0,c1,c2,c3⟩:=hC _ _ hq;simp -zeta only[afe,gJ,gK,pR,c0.cell,c1.cell,c2.cell];refine cmS2 (ag7 c3 h1 h2 ⟨h3,by omega⟩ h4) ?_;rintro _ W1 ⟨xr,b,vs,rfl,rb,lb,hy4⟩;have q1':=up hq xr;have hb3':=hb3.ext xr;have sr:=xr.size;unfold CQ at hy;generalize DX n lo hi want=R at hy4 hy hm4 hm1 ⊢;generalize OC lo hi want=H at hq q1' hy ⊢;have b3w:=hb3'.lt;refine g_ (λst W'=>∃j:Nat,j<=R.length/\st.1.1=(j:Int)/\Q (VH want H R j).length W'/\ig W1 W' (·<w.heap.size)/\(∀d∈st.2,W1.heap.size<=d/\d<W'.heap.size/\W'.heap[d]? =some (.deferred (some [])))/\st.2.Nodup)
   (λst _=>((R.length:Int) - st.1.1).toNat) ⟨0,by omega,rfl,by simpa [VH,BZ] using q1',ig.refl _ _,by simp,by simp⟩ ?_
  rintro⟨⟨jj,⟨⟩⟩,ds⟩ W2 ⟨j,hj,ae,hq2,f2',hd2,nd2⟩ next J
  simp only at ae hd2 nd2;subst ae;have s2:=f2'.size;by_cases hj4:j<R.length
  ·obtain⟨v,r,hr,hv,an⟩:=hy4 j hj4;have rb2:=rb.fr f2' (by omega);have O:((j:Int)<(R.length:Int)):=by omega
   simp only[O,acI,abt];refine tq (b:=b) (o:=0) rfl (by omega) (by trivial) ?_;simp only[abu,ahn,aiC];have rv:W2.cell? ⟨b,j,none⟩=some v:=by rw[rb2.cell];exact hv
   simp only[aaf,gJ,Kv,rv];refine gU λa23 W3 ao e23 z23 aq=> ?_;refine iC ao rfl (by simp) λW4 af f24 z24=> ?_;have u:=aq.new (f24 (·=a23) rfl) λx hx e=>by omega
   simp only[af5] at af;have q4:=up hq2 u;have f4:ig W1 W4 (·<w.heap.size):=f2'.ext u;have U:Row W4 b3 _:=hb3'.fr f4 (by omega);obtain⟨_,C,ar,au⟩:=an;refine vU ar (λi W'=>Q ((VH want H R j).length+((r.take i).filter (Jb want j)).length) W'/\ig W4 W' (·<w.heap.size)) (λe W'=>e= .ret/\D W'/\ig W4 W' (·<w.heap.size)) (by simp) ?_ ?_ ?_ ?_ ?_ ?_ ?_ ?_ ?_
   ·grind
   ·exact λi W' hI=>au W' _ (f4.trans hI.2 λ_ _ e=>e) λx hx O=>by omega
   ·exact λi W' W'' hI hf=>⟨hQ _ _ _ hI.1 (hf.mono λx e=>by simp only[lM] at e;grind),hI.2.trans hf λx hx e=>by simp[lM] at e;omega⟩
   ·exact λe W' W'' hI hf=>⟨hI.1,hD _ _ hI.2.1 (hf.mono λx e=>by simp only[lM] at e;grind),hI.2.2.trans hf λx hx e=>by simp[lM] at e;omega⟩
   ·simp_all
   ·rintro i ⟨p',⟨⟩⟩ W' Kb hx ⟨Y,I⟩ Z hn2 hj2;rw[Wv] at hx;obtain⟨p'',hp,he⟩:=ams.1 hx;have av:p''=p':=congrArg Prod.fst he;subst av;have lq:lM none W4=W4.heap.size+1:=rfl;have ag:=u.size;rw[lq] at Z hn2 hj2 ⊢;refine⟨by trivial,?_⟩;have qb:Q _ (gQ W' (W4.heap.size+1)):=hQ _ _ _ Y ((ig.gQ W' _).mono λx e=>by omega);obtain⟨d0,d1,d2,d3⟩:=hC _ _ qb;have N:ig W4 (gQ W' (W4.heap.size+1)) (·<w.heap.size):=I.trans (ig.gQ W' _) λx hx e=>by omega
    have ra:=af.fr N (by omega);have rb3:=U.fr N (by omega);have skip:Jb want j p''=false->Kb .normal (gQ W' (W4.heap.size+1)):=λhk=>
     hn2 _ (λ_=>False) (ig.refl _ _) (by simp) ⟨by rw[X7 hp,hk];simpa using qb,N⟩
    have go:Jb want j p''=true->jF υ [.one .bool] (.func (.yield l) #[] #[]) [Β p''] (gQ W' (W4.heap.size+1)) λU ah=>
      ∃ai:Bool,U=(Value.bool ai)/\(bif (!ai) then Kb .ret ah else Kb .normal ah):=λhk=>
     kP (hy ((VH want H R j).length+((r.take i).filter (Jb want j)).length) (p'',()) _ _ (by rw[Wv,agY hr,af7 hp hk];rfl) qb
      (λW'' hq'' hf''=>⟨true,rfl,hn2 W'' (·<w.heap.size) hf'' (λx h1 h2 h3=>by omega) ⟨by rw[X7 hp,hk];exact hq'',N.trans hf'' λ_ _ e=>e⟩⟩)
      (λW'' hd hf''=>⟨false,rfl,hj2 .ret W'' (·<w.heap.size) hf'' (λx h1 h2 h3=>by omega) ⟨rfl,hd,N.trans hf'' λ_ _ e=>e⟩⟩))
    simp only[afe,gJ,gK,Kv,ra.cell,rb3.cell,d1.cell,d2.cell];by_cases hw:p''=want
    ·have hb:(p''==want)=true:=by simp[hw]
     simp only[hb,abt,Bool.cond_self];exact skip (by simp[Jb,hw])
    ·have hb:(p''==want)=false:=by simp[hw]
     simp only[hb,aaf];by_cases hj1:j=1
     ·have hb2:((j:Int)==1)=true:=by simp[hj1]
      have hn1:(n !=1)=true:=by
       grind
      simp only[hb2,abt];by_cases aj:p''>=want
      ·simp only[aj,acI,abt,hn1];exact skip (by simp[Jb,hj1];omega)
      ·simp only[aj,acR,aaf];exact go (by simp[Jb,hw];omega)
     ·have hb2:((j:Int)==1)=false:=by simp;omega
      simp only[hb2,aaf];exact go (by simp[Jb,hw,hj1])
   ·rintro W' ⟨Y,I⟩ hm;have hm:=hm rfl;have ag:=u.size;have s4:=I.size;rw[Α];refine J _ _ ⟨j+1,by omega,by simp,?_,f4.trans I λ_ _ e=>e,?_,?_⟩ (by grind)
    ·rw[aeP hr]
     rwa [ali (by simp[yP])] at Y
    ·intro d hd;rcases agI.1 hd with rfl|hd
     ·grind
     ·obtain⟨g1,g2,g3⟩:=hd2 d hd;exact⟨g1,by omega,by rw[I.same d (by omega) (by omega),(u λ_=>False).same d (by omega) (by simp)];exact g3⟩
    grind
   ·rintro W' ⟨_,hd,I⟩ hm;have hm:=hm rfl;have ag:=u.size;refine EP (n:=w.heap.size) _ W' ?_ ?_ λw6 f6 z6=> .inr (hD _ _ hd f6)
    ·intro d hd;rcases agI.1 hd with rfl|hd
     ·grind
     ·obtain⟨g1,g2,g3⟩:=hd2 d hd;exact⟨by omega,by rw[I.same d (by omega) (by omega),(u λ_=>False).same d (by omega) (by simp)];exact g3⟩
    grind
   ·rintro id W' ⟨h,_⟩
    cases h
  ·have hj':j=R.length:=by omega
   subst hj';have O:¬((R.length:Int)<(R.length:Int)):=by omega
   simp only[O,acR,aaf];refine EP (n:=w.heap.size) ds W2 (λd hd=>⟨by grind,(hd2 d hd).2.2⟩) nd2 λw6 f6 z6=> .inl (hQ _ _ _ hq2 f6)
 obtain⟨c0,c1,c2,c3⟩:=hC _ _ (up q8 (Ext.drew w8));simp only[sx,c0.cell,c2.cell,c3.cell];refine cmS0 (aa6 lo hi want _) ?_;rintro _ ak ⟨rfl,aa⟩;have ab:=up (up q8 (Ext.drew w8)) aa;have ac:=(r8.ext (Ext.drew w8)).ext aa;have s52:=aa.size;have s8:=x8.size;have s3:=x3.size;have sd:=(Ext.drew w8).size;by_cases am:lo<=want/\want<=hi
 ·have hh:OC lo hi want=[want]:=by unfold OC;simp_all
  obtain⟨c0,c1,c2,c3⟩:=hC _ _ ab;simp only[am,acI,alQ,abt,abt,afe,gJ,gK,Kv,ac.cell,c2.cell];refine kP (hy 0 (want,()) ak _ ?_ ab ?_ ?_)
  ·rw[Wv,CQ,hh];rfl
  ·intro W' hq' hf';exact⟨true,rfl,hJ9 W' (by rw[hh];exact hq') (ac.fr hf' (by omega)) (by have:=hf'.size;omega)⟩
  grind
 ·have hh:OC lo hi want=[]:=by unfold OC;simp_all
  simp only[am,acR,aaf];exact hJ9 ak (by rw[hh];exact ab) ac (by omega)
theorem ae9 {w:θ} {p g:Nat} {lo hi want n:Int} {s:gG} (h:Row w p (aaR lo hi s g)) (hn:n=1\/n=6\/n=17) (h1:wQ lo) (h2:wQ hi) (h3:0<=want) (h4:want<=65535):
  wY (some ⟨p,0,none⟩) n want w λv w'=>Ext w w'/\∃C,N9 υ [.one ν] v C (yP (CQ n lo hi want))/\
   ∀W S,ig w' W S->(∀b,w.heap.size<=b->b<w'.heap.size->¬S b)->¬S p->C W:=by
 apply NK;refine⟨rfl,gU λa w1 r1 e1 z1 f1=>⟨rfl,gU λb w2 r2 e2 z2 f2=>⟨rfl,gU λt w3 r3 e3 z3 f3=> ?_⟩⟩⟩;have r1:=(r1.ext f2).ext f3;have r2:=r2.ext f3;have hp:=((h.ext f1).ext f2).ext f3;exact⟨(f1.trans f2).trans f3,_,abm hn h1 h2 h3 h4,λW S hf hs u=>⟨r1.fr hf (hs _ (by omega) (by omega)),r2.fr hf (hs _ (by omega) (by omega)),r3.fr hf (hs _ (by omega) (by omega)),hp.fr hf u⟩⟩
theorem Dh {w w':θ} {S:Nat->Prop} (h:ig w w' S) (l:Nat):ig (gQ w l) (gQ w' l) S:=by
 refine⟨by simpa [gQ] using h.size,λb hb hn=> ?_,h.io⟩;have:=h.same b (by simpa [gQ] using hb) hn;simp only[gQ,aly,this]
end Go.Proofs.PO
end
section
namespace Go.Proofs.PN
open Gp Go.Proofs.CN
abbrev O3:=Int×Int×Int
def abY (x:O3):Value:= .agg ⟨[Β x.1,Β x.2.1,Β x.2.2]⟩
def evU (_:Unit):Value:= .bool true
theorem eqO (a b:O3):Fz υ 16 56 (abY a) (abY b)=some (decide (a=b)):=by
 have h:Fz υ 16 56 (abY a) (abY b)=some ((a.1==b.1) && ((a.2.1==b.2.1) && ((a.2.2==b.2.2) && true))):=by kernel_rfl
 rw[h];obtain⟨a1,a2,a3⟩:=a;obtain⟨b1,b2,b3⟩:=b;have ib:∀x y:Int,(x==y)=decide (x=y):=λ_ _=>rfl
 simp_all
theorem aeA (a:O3):oJ υ 56 (abY a)=true:=by
 unfold oJ;rw[eqO];rfl
structure PL (w:θ) (p g:Nat) (s:gG) (lo hi:Int) (pl:List Int) (G:List (O3×Unit)):Prop where
 hd:Row w p [Β lo,Β hi,Δ s,.map (some g)]
 ad:jc 1 eI w s pl
 gv:rV abY evU w g G
 nd:(G.map (·.1)).Nodup
 ln:pl.length<=16
 pg:p≠g
 sp:¬gG.at s p
 sg:¬gG.at s g
def fp (p g:Nat) (s:gG) (b:Nat):Prop:=b=p\/b=g\/gG.at s b
variable {w w':θ} {p g:Nat} {s:gG} {lo hi:Int} {pl:List Int} {G:List (O3×Unit)}
theorem PL.fr {S:Nat->Prop} (h:PL w p g s lo hi pl G) (hf:ig w w' S) (hs:∀b,fp p g s b->¬S b):PL w' p g s lo hi pl G:=
 ⟨h.hd.fr hf (hs _ (.inl rfl)),h.ad.fr hf λ _ hb=>hs _ (.inr (.inr hb)),h.gv.fr hf (hs _ (.inr (.inl rfl))),h.nd,h.ln,h.pg,h.sp,h.sg⟩
theorem PL.ext (h:PL w p g s lo hi pl G) (hf:Ext w w'):PL w' p g s lo hi pl G:=h.fr (hf λ_=>False) (λ_ _=>by simp)
theorem PL.sl (h:PL w p g s lo hi pl G):ny 1 eI w s pl:=h.ad.sl jJ (by omega)
theorem PL.sln (h:PL w p g s lo hi pl G):s.len<=2^62:=by rw[h.sl.len];have:=h.ln;omega
theorem Fg (h:PL w p g s lo hi pl G):kM (some ⟨p,0,none⟩) w λr w'=>r=true/\w'=w:=by
 apply CG;simp only[sx,h.hd.cell,afk];trivial
theorem ab8 (h:PL w p g s lo hi pl G) (x:Int):rF (some ⟨p,0,none⟩) x w λr w'=>r=decide (x∈pl)/\w'=w:=by
 apply Qq;refine cmS0 (Fg h) ?_;rintro r w' ⟨rfl,hw⟩;subst hw;simp only[sx,h.hd.cell];refine cmS0 (Dx h.sl h.sln x) ?_;simp
theorem Pj (n:Int) (w:θ):uq n w λr w'=>r=decide (n=1\/n=6\/n=17)/\w'=w:=by
 apply MC;by_cases h1:n=1
 ·subst h1;simp
 by_cases h6:n=6
 ·subst h6;simp
 by_cases h:n=17
 ·subst h;simp
 ·simp[h1,h6,h]
theorem ah8 (h:PL w p g s lo hi pl G) {x y z:Int} (h1:x=1\/x=6\/x=17) (h2:y∈pl) (h3:0<=z) (h4:z<65536) (hn:(x,y,z)∉G.map (·.1)):
  yC (some ⟨p,0,none⟩) x y z w λe w'=>e=0/\PL w' p g s lo hi pl (CS G (x,y,z) ())/\ig w w' (·=g):=by
 apply O8;refine gU λt w1 r1 e1 z1 f1=> ?_;have hp:=h.ext f1;refine cmS0 (Fg hp) ?_;rintro r w1 ⟨rfl,hw⟩;subst hw;simp only[adt,aaf,sx,r1.cell];refine cmS0 (Pj x w1) ?_;rintro r w1 ⟨rfl,hw⟩;subst hw;simp only[h1,acI,adt,aaf,sx,r1.cell];refine cmS0 (ab8 hp y) ?_;rintro r w1 ⟨rfl,hw⟩;subst hw;have h3':¬(z<0):=by omega
 have h4':¬(z>=65536):=by omega
 simp only[h2,h3',h4',acI,acR,adt,aaf,sx,r1.cell,hp.hd.drew.cell,r1.drew.cell];have fd:=Ext.drew w1;refine EL ((hp.gv).ext fd) eqO (x,y,z) (aeA _) (λ_=> ?_) (λb hb=>absurd hb (by rw[qV.2 hn];simp));simp only[sx,hp.hd.drew.drew.cell,r1.drew.drew.cell];refine zJ (((hp.gv).ext fd).ext (Ext.drew _)) eqO (x,y,z) () (aeA _) λw2 g2 f2 z2=> ?_;have hp2:=(hp.ext fd).ext (Ext.drew _);exact⟨by trivial,⟨hp2.hd.fr f2 h.pg,hp2.ad.fr f2 (λb hb e=>h.sg (e ▸ hb)),g2,Pz h.nd _ _,h.ln,h.pg,h.sp,h.sg⟩,((f1.trans fd).trans (Ext.drew _)).fr f2⟩
theorem ahS (h:PL w p g s lo hi pl G) {x y z:Int} (hm:(x,y,z)∈G.map (·.1)):
  yA (some ⟨p,0,none⟩) x y z w λr w'=>r=true/\PL w' p g s lo hi pl (BR G (x,y,z))/\ig w w' (·=g):=by
 apply O7;refine gU λt w1 r1 e1 z1 f1=> ?_;have fd:=Ext.drew w1;have hp:=(h.ext f1).ext fd;have hp2:=hp.ext (Ext.drew _);refine cmS0 (Fg hp) ?_;rintro r w1 ⟨rfl,hw⟩;subst hw;simp only[adt,aaf,sx,hp.hd.cell,r1.drew.cell];refine EL hp.gv eqO (x,y,z) (aeA _) (λhb=>absurd hm (qV.1 hb)) (λb _=> ?_);simp only[evU,adt,aaf,sx,hp2.hd.cell,r1.drew.drew.cell];refine TI hp2.gv eqO (x,y,z) (aeA _) λw2 g2 f2 z2=> ?_;exact⟨by trivial,⟨hp2.hd.fr f2 h.pg,hp2.ad.fr f2 (λb hb e=>h.sg (e ▸ hb)),g2,h.nd.sublist ((SH G _).map _),h.ln,h.pg,h.sp,h.sg⟩,((f1.trans fd).trans (Ext.drew _)).fr f2⟩
theorem acs {s:gG} {lo hi:Int} {pl:List Int} (hs:ny 1 eI w s pl) (h0:1<=pl.length) (O:pl.length<=16) (hn:pl.Nodup) (hh:∀a∈pl,nC a) (h1:1<=lo) (h2:lo<=hi) (h3:hi<65536):
  MS s lo hi w λr e w'=>e=0/\Ext w w'/\∃p g s',r=some ⟨p,0,none⟩/\PL w' p g s' lo hi pl []/\∀b,fp p g s' b->w.heap.size<=b:=by
 apply aaB;have hl:=hs.len;intro J4;have a1:¬((s.len:Int)<1):=by omega
 have a2:¬((s.len:Int)>16):=by omega
 have a3:¬(lo<1):=by omega
 have a4:¬(hi<lo):=by omega
 have a5:¬(hi>=65536):=by omega
 simp -zeta only[a1,a2,a3,a4,a5,acR,aaf];simp only[J4,aaf];refine g_ (λst W=>∃i:Nat,i<=pl.length/\st.1=(i:Int)/\Ext w W) (λst _=>pl.length - st.1.toNat) ⟨0,by omega,rfl,Ext.refl _⟩ ?_;rintro⟨i',⟨⟩⟩ W ⟨i,hi',hi2,hx⟩ next I
 simp only at hi2;subst hi2;by_cases J:i<pl.length
 ·have u:((i:Int)<(s.len:Int)):=by omega
  simp only[u,acI,abt];have N:=akU J;refine SN.Df (hs.ext hx) (adP J) λa c0=> ?_;simp only[XP,c0,gJ,gK];refine cmS0 (AV _ W) ?_;rintro _ w1 ⟨rfl,f1⟩;simp only[hh _ N,acI,adt,aaf];refine ac2 jJ (hs.ext (hx.trans f1)) (by omega) (by omega) (by omega) λs1 hs1=> ?_;have hl1:s1.len<=2^62:=by rw[hs1.len];simp;omega
  refine cmS0 (Dx hs1 hl1 _) ?_;rintro _ w2 ⟨rfl,hw⟩;subst hw;have R:pl[i]∉(pl.take (i:Int).toNat).drop (0:Int).toNat:=by
   simp only[abu,amI,amW];exact Gp.Cfg.wH.1 hn i _ (adP J)
  simp only[R,acR,aaf];rw[Α];exact I _ _ ⟨i+1,by omega,by simp,hx.trans f1⟩ (by omega)
 ·have u:¬((i:Int)<(s.len:Int)):=by omega
  simp only[u,acR,aaf];refine cmS2 (SN.PZ (hs.ext hx) (by omega)) ?_;rintro s' w1 ⟨f1,hb,hnew⟩;refine SN.JW (enc:=abY) (ev:=evU) λw2 hm z2 f2=> ?_;refine gU λp w3 r3 e3 z3 f3=> ?_;have hlt1:∀b,gG.at s' b->b<w1.heap.size:=λb hb'=>hb.lt hb';refine⟨by trivial,((hx.trans f1).trans f2).trans f3,p,w1.heap.size,s',rfl,⟨r3,(hb.ext f2).ext f3,hm.ext f3,by simp,O,by omega,λh=>by grind,λh=>by grind⟩,?_⟩;have hz:=(hx.trans f1).size;have hz1:=hx.size;rintro b (rfl|rfl|hb')
  ·omega
  ·omega
  grind
end Go.Proofs.PN
end
section
namespace Go.Proofs.EN
open Gp Go.Proofs
open Gp.Bind (Bnd Slots live GoodB freeN getS In64)
structure EA where
 x:Nat
 p:Nat
 g:Nat
 ps:gG
 qb:Nat
 qs:Nat
 B:Rn
 T:SN.Rn
 d:Nat
 m:Nat
 ss:List gG
def own (a:EA):Nat->Nat->Prop
 |0,b=>b=a.x
 |1,b=>PN.fp a.p a.g a.ps b
 |2,b=>b=a.qb\/b=a.qs
 |3,b=>fp a.B b
 |4,b=>SN.fp a.T b
 |5,b=>WN.qR a.d a.m a.ss b
 |_,_=>False
structure Cf where
 C:List Value
 sw:gG
 pl:List Int
 lo:Int
 hi:Int
 q:Int
 nb:Int
 ns:Int
structure akw (c:Cf):Prop where
 len:c.C.length=36
 c16:c.C[16]? =some (.slice c.sw.a c.sw.len c.sw.cap)
 c20:c.C[20]? =some (Β c.q)
 c21:c.C[21]? =some (Β c.nb)
 c22:c.C[22]? =some (Β c.ns)
 sw:c.sw.len<=64
 b1:1<=c.nb/\c.nb<=4096
 q1:1<=c.q/\c.q<=4096
 s1:1<=c.ns/\c.ns<=4096
 hp:∀x∈c.pl,CN.nC x
structure ES where
 now:Nat
 S:Slots
 Mi:ByteArray->Option Int
 Mo:ByteArray->Option Int
 Q:List Int
 G:List (PN.O3×Unit)
 SS:Gp.Ses.Slots
 M:ByteArray->Option Int
 l:WN.PL
 wn:Nat
 tn:Int
 F:Gp.Wh.Fs
structure lS (w:θ) (a:EA) (c:Cf) (e:ES):Prop where
 cf:akw c
 hd:Row w a.x ([.pointer (some ⟨a.p,0,none⟩),.pointer (some ⟨a.qb,0,none⟩),.pointer (some ⟨a.B.d,0,none⟩),.pointer (some ⟨a.T.d,0,none⟩),.pointer (some ⟨a.d,0,none⟩)]++c.C++[Β (e.now:Int)])
 pl:PN.PL w a.p a.g a.ps c.lo c.hi c.pl e.G
 qr:QN.QR w a.qb a.qs e.Q c.q
 qo:QN.QOk e.Q c.q
 db:DB w a.B c.nb.toNat e.S e.Mi e.Mo
 se:SN.TA w a.T c.ns.toNat e.SS e.M
 wh:WN.WS w a.d a.m a.ss e.l e.wn e.tn c.ns e.F
 ap:∀k k' b,own a k b->own a k' b->k=k'
 lt:∀k b,own a k b->b<w.heap.size
variable {w w':θ} {a:EA} {c:Cf} {e:ES}
theorem lS.fr {S:Nat->Prop} (h:lS w a c e) (hf:ig w w' S) (hs:∀k b,own a k b->¬S b):lS w' a c e:=
 ⟨h.cf,h.hd.fr hf (hs 0 _ rfl),h.pl.fr hf (hs 1),h.qr.fr hf (hs 2 _ (.inl rfl)) (hs 2 _ (.inr rfl)),h.qo,h.db.fr hf (hs 3),h.se.fr hf (hs 4),h.wh.fr hf (hs 5),h.ap,
  λk b hb=>alA (h.lt k b hb) hf.size⟩
theorem lS.ext (h:lS w a c e) (hf:Ext w w'):lS w' a c e:=h.fr (hf λ_=>False) (λ_ _ _=>by simp)
theorem lS.c0 (h:lS w a c e):w.cell? ⟨a.x,0,none⟩=some (.pointer (some ⟨a.p,0,none⟩)):=by rw[h.hd.cell];rfl
theorem lS.c1 (h:lS w a c e):w.cell? ⟨a.x,1,none⟩=some (.pointer (some ⟨a.qb,0,none⟩)):=by rw[h.hd.cell];rfl
theorem lS.c2 (h:lS w a c e):w.cell? ⟨a.x,2,none⟩=some (.pointer (some ⟨a.B.d,0,none⟩)):=by rw[h.hd.cell];rfl
theorem lS.c3 (h:lS w a c e):w.cell? ⟨a.x,3,none⟩=some (.pointer (some ⟨a.T.d,0,none⟩)):=by rw[h.hd.cell];rfl
theorem lS.c4 (h:lS w a c e):w.cell? ⟨a.x,4,none⟩=some (.pointer (some ⟨a.d,0,none⟩)):=by rw[h.hd.cell];rfl
theorem lS.cC (h:lS w a c e) {j:Nat} (hj:j<36):w.cell? ⟨a.x,5+j,none⟩=c.C[j]? :=by
 rw[h.hd.cell,aky,alh (by simp)];rw[alT (by have:=h.cf.len;simp;omega)];congr 1;simp
theorem lS.c21 (h:lS w a c e):w.cell? ⟨a.x,21,none⟩=some (.slice c.sw.a c.sw.len c.sw.cap):=(h.cC (j:=16) (by omega)).trans h.cf.c16
theorem lS.c25 (h:lS w a c e):w.cell? ⟨a.x,25,none⟩=some (Β c.q):=(h.cC (j:=20) (by omega)).trans h.cf.c20
theorem lS.c26 (h:lS w a c e):w.cell? ⟨a.x,26,none⟩=some (Β c.nb):=(h.cC (j:=21) (by omega)).trans h.cf.c21
theorem lS.c27 (h:lS w a c e):w.cell? ⟨a.x,27,none⟩=some (Β c.ns):=(h.cC (j:=22) (by omega)).trans h.cf.c22
theorem lS.c41 (h:lS w a c e):w.cell? ⟨a.x,41,none⟩=some (Β (e.now:Int)):=by
 rw[h.hd.cell,aky,alh (by simp),alh (by have:=h.cf.len;simp;omega)];have:41 - [Value.pointer (some ⟨a.p,0,none⟩),.pointer (some ⟨a.qb,0,none⟩),.pointer (some ⟨a.B.d,0,none⟩),.pointer (some ⟨a.T.d,0,none⟩),.pointer (some ⟨a.d,0,none⟩)].length - c.C.length=0:=by rw[h.cf.len];rfl
 rw[this];rfl
theorem uG (h:lS w a c e):jg (some ⟨a.x,0,none⟩) w λr w'=>r=true/\w'=w:=by
 apply Jr;simp only[sx,h.c0,afk];exact⟨by trivial,by trivial⟩
def UD (c:Cf) (i:Int):Prop:=0<=i/\i<(c.sw.len:Int)
instance (c:Cf) (i:Int):Decidable (UD c i):=inferInstanceAs (Decidable (_/\_))
theorem Rk (h:lS w a c e) (i:Int):nR (some ⟨a.x,0,none⟩) i w λr w'=>r=decide (UD c i)/\w'=w:=by
 apply E5;unfold UD;by_cases h0:i>=0
 ·have h0':0<=i:=h0;simp only[h0,acI,sx,h.c21,afp]
 ·have h0':¬0<=i:=h0;simp only[h0,acR,aaf,false_and,alQ]
theorem adA (n:Int) (w:θ):Dk n w λr w'=>r=decide (0<=n/\n<=65535)/\w'=w:=by
 apply ZF;by_cases h0:n>=0
 ·have h0':0<=n:=h0;simp only[h0,acI,abt,afp]
 ·have h0':¬0<=n:=h0;simp only[h0,acR,aaf,false_and,alQ]
theorem SK (h:lS w a c e):qK (some ⟨a.x,0,none⟩) w λr w'=>r=decide (((live 0 e.S).length:Int)>=c.nb)/\Ext w w':=by
 apply Lr;have hd:=h.ext (Ext.drew w);simp only[sx,hd.c2,hd.c26];refine cmS1 (ahJ hd.db) ?_;rintro n w1 ⟨rfl,hw⟩;subst hw;exact⟨hd.c26,rfl,Ext.drew w⟩
def Zr (c:Cf) (b:Bnd):Prop:=
 (b.pr=1\/b.pr=6\/b.pr=17)/\CN.nC b.ad/\b.oad∈c.pl/\(0<=b.po/\b.po<=65535)/\(0<=b.opo/\b.opo<=65535)/\b.pr=b.opr/\UD c b.sw
instance (c:Cf) (b:Bnd):Decidable (Zr c b):=inferInstanceAs (Decidable (_/\_))
theorem aj0 (h:lS w a c e) (b:Bnd):wX (some ⟨a.x,0,none⟩) b.sw b.pr b.ad b.po b.opr b.oad b.opo w λr w'=>r=decide (Zr c b)/\Ext w w':=by
 apply NJ;refine gU λt w1 r1 e1 z1 f1=> ?_;have h1:=h.ext f1;simp -zeta only[sx,r1.cell];intro J6;have key:J6 (decide (b.pr=1\/b.pr=6\/b.pr=17)):=by
  by_cases hp:b.pr=1\/b.pr=6\/b.pr=17;rotate_left
  ·simp only[J6,hp,acR,aaf];exact⟨(adX λhm=>hp hm.1).symm,f1⟩
  simp only[J6,hp,acI,abt,sx,r1.drew.cell];refine cmS0 (CN.AV _ _) ?_;rintro r w2 ⟨rfl,f2⟩;have x2:=(Ext.drew w1).trans f2;have h2:=h1.ext x2;have r2:=r1.ext x2;by_cases c1:CN.nC b.ad;rotate_left
  ·simp only[c1,acR,aaf];exact⟨(adX λhm=>c1 hm.2.1).symm,f1.trans x2⟩
  simp only[c1,acI,abt,sx,h2.c0,r2.cell];refine cmS0 (PN.ab8 h2.pl _) ?_;rintro r w2 ⟨rfl,hw⟩;subst hw;by_cases c2:b.oad∈c.pl;rotate_left
  ·simp only[c2,acR,aaf];exact⟨(adX λhm=>c2 hm.2.2.1).symm,f1.trans x2⟩
  simp only[c2,acI,abt,sx,r2.cell];refine cmS0 (adA _ _) ?_;rintro r w2 ⟨rfl,hw⟩;subst hw;by_cases c3:0<=b.po/\b.po<=65535;rotate_left
  ·simp only[c3,acR,aaf];exact⟨(adX λhm=>c3 hm.2.2.2.1).symm,f1.trans x2⟩
  simp only[c3,alQ,acI,abt,sx,r2.cell];refine cmS0 (adA _ _) ?_;rintro r w2 ⟨rfl,hw⟩;subst hw;by_cases c4:0<=b.opo/\b.opo<=65535;rotate_left
  ·simp only[c4,acR,aaf];exact⟨(adX λhm=>c4 hm.2.2.2.2.1).symm,f1.trans x2⟩
  simp only[c4,alQ,acI,abt,sx,r2.cell];by_cases c5:b.pr=b.opr;rotate_left
  ·have c5':(b.pr==b.opr)=false:=by simpa using c5
   simp only[c5',aaf];exact⟨(adX λhm=>c5 hm.2.2.2.2.2.1).symm,f1.trans x2⟩
  have c5':(b.pr==b.opr)=true:=by simpa using c5
  simp only[c5',abt];refine cmS0 (Rk h2 _) ?_;rintro r w2 ⟨rfl,hw⟩;subst hw;refine⟨?_,f1.trans x2⟩;simp only[amJ];exact⟨λhs=>⟨hp,c1,c2,c3,c4,c5,hs⟩,λhm=>hm.2.2.2.2.2.2⟩
 by_cases p1:b.pr=1
 ·have p1':(b.pr==1)=true:=by simpa using p1
  simp -zeta only[p1',abt];have q:decide (b.pr=1\/b.pr=6\/b.pr=17)=true:=by simp[p1]
  rw[q] at key;exact key
 have p1':(b.pr==1)=false:=by simpa using p1
 by_cases p6:b.pr=6
 ·have p6':(b.pr==6)=true:=by simpa using p6
  simp -zeta only[p1',p6',abt,aaf];have q:decide (b.pr=1\/b.pr=6\/b.pr=17)=true:=by simp[p6]
  rw[q] at key;exact key
 have p6':(b.pr==6)=false:=by simpa using p6
 simp -zeta only[p1',p6',aaf];have q:decide (b.pr=1\/b.pr=6\/b.pr=17)=(b.pr==17):=by
  have:(b.pr==17)=decide (b.pr=17):=rfl;rw[this];simp[p1,p6]
 rw[q] at key;exact key
end Go.Proofs.EN
end
section
namespace Go.Proofs.EN
open Gp Go.Proofs
open Gp.Bind (Bnd Slots live GoodB freeN getS In64)
theorem abJ {o1 o2:Nat->Nat->Prop} {j n:Nat} (ap:∀k k' b,o1 k b->o1 k' b->k=k') (lt:∀k b,o1 k b->b<n) (same:∀k b,k≠j->o2 k b->o1 k b) (new:∀b,o2 j b->o1 j b\/n<=b):
  ∀k k' b,o2 k b->o2 k' b->k=k':=by
 grind
variable {w w':θ} {a:EA} {c:Cf} {e:ES}
theorem lS.off (h:lS w a c e) {j k b:Nat} (hk:own a k b) (hn:k≠j):¬own a j b:=λhj=>hn (h.ap k j b hk hj)
theorem lS.setB (h:lS w a c e) {A:Rn} {S:Slots} {Mi Mo:ByteArray->Option Int} (hf:ig w w' (own a 3)) (u:DB w' A c.nb.toNat S Mi Mo) (hd:A.d=a.B.d) (I:∀x,fp A x->fp a.B x\/w.heap.size<=x) (J:∀x,fp A x->x<w'.heap.size):
  lS w' {a with B:=A} c {e with S:=S,Mi:=Mi,Mo:=Mo}:=by
 have same:∀k b,k≠3->own {a with B:=A} k b->own a k b:=by
  intro k b hk ho
  match k,ho with
  |0,ho=>exact ho
  |1,ho=>exact ho
  |2,ho=>exact ho
  |3,_=>exact absurd rfl hk
  |4,ho=>exact ho
  |5,ho=>exact ho
  |(n+6),ho=>exact ho
 have o:∀k b,own a k b->k≠3->¬own a 3 b:=λk b hk hn=>h.off hk hn;refine⟨h.cf,?_,h.pl.fr hf (λb hb=>o 1 b hb (by decide)),h.qr.fr hf (o 2 _ (.inl rfl) (by decide)) (o 2 _ (.inr rfl) (by decide)),h.qo,u,h.se.fr hf (λb hb=>o 4 b hb (by decide)),h.wh.fr hf (λb hb=>o 5 b hb (by decide)),abJ h.ap h.lt same (λb hb=>I b hb),?_⟩
 ·have:=h.hd.fr hf (o 0 _ rfl (by decide));simp only[hd];exact this
 ·intro k b hb;by_cases hk:k=3
  ·subst hk;exact J b hb
  ·exact alA (h.lt k b (same k b hk hb)) hf.size
theorem lS.ake (h:lS w a c e) {G:List (PN.O3×Unit)} (hf:ig w w' (·=a.g)) (hp:PN.PL w' a.p a.g a.ps c.lo c.hi c.pl G):lS w' a c {e with G:=G}:=by
 have o:∀k b,own a k b->k≠1->¬b=a.g:=λk b hk hn he=>h.off hk hn (he ▸ .inr (.inl rfl));exact⟨h.cf,h.hd.fr hf (o 0 _ rfl (by decide)),hp,h.qr.fr hf (o 2 _ (.inl rfl) (by decide)) (o 2 _ (.inr rfl) (by decide)),h.qo,h.db.fr hf (λb hb=>o 3 b hb (by decide)),h.se.fr hf (λb hb=>o 4 b hb (by decide)),h.wh.fr hf (λb hb=>o 5 b hb (by decide)),h.ap,
  λk b hb=>alA (h.lt k b hb) hf.size⟩
theorem lS.akg (h:lS w a c e) {Q:List Int} (hf:ig w w' (·=a.qs)) (hq:QN.QR w' a.qb a.qs Q c.q) (ho:QN.QOk Q c.q):lS w' a c {e with Q:=Q}:=by
 have o:∀k b,own a k b->k≠2->¬b=a.qs:=λk b hk hn he=>h.off hk hn (he ▸ .inr rfl);exact⟨h.cf,h.hd.fr hf (o 0 _ rfl (by decide)),h.pl.fr hf (λb hb=>o 1 b hb (by decide)),hq,ho,h.db.fr hf (λb hb=>o 3 b hb (by decide)),h.se.fr hf (λb hb=>o 4 b hb (by decide)),h.wh.fr hf (λb hb=>o 5 b hb (by decide)),h.ap,
  λk b hb=>alA (h.lt k b hb) hf.size⟩
theorem lS.alL (h:lS w a c e) {n:Nat} (hf:ig w w' (·=a.x)) (hd:Row w' a.x ([.pointer (some ⟨a.p,0,none⟩),.pointer (some ⟨a.qb,0,none⟩),.pointer (some ⟨a.B.d,0,none⟩),.pointer (some ⟨a.T.d,0,none⟩),.pointer (some ⟨a.d,0,none⟩)]++c.C++[Β (n:Int)])):lS w' a c {e with now:=n}:=by
 have o:∀k b,own a k b->k≠0->¬b=a.x:=λk b hk hn he=>h.off hk hn he;exact⟨h.cf,hd,h.pl.fr hf (λb hb=>o 1 b hb (by decide)),h.qr.fr hf (o 2 _ (.inl rfl) (by decide)) (o 2 _ (.inr rfl) (by decide)),h.qo,h.db.fr hf (λb hb=>o 3 b hb (by decide)),h.se.fr hf (λb hb=>o 4 b hb (by decide)),h.wh.fr hf (λb hb=>o 5 b hb (by decide)),h.ap,
  λk b hb=>alA (h.lt k b hb) hf.size⟩
theorem lS.setW (h:lS w a c e) {ss:List gG} {l:WN.PL} {wn:Nat} {tn:Int} {F:Gp.Wh.Fs} (hf:ig w w' (own a 5)) (hw:WN.WS w' a.d a.m ss l wn tn c.ns F) (u:∀x,WN.qR a.d a.m ss x->WN.qR a.d a.m a.ss x\/w.heap.size<=x):
  lS w' {a with ss:=ss} c {e with l:=l,wn:=wn,tn:=tn,F:=F}:=by
 have same:∀k b,k≠5->own {a with ss:=ss} k b->own a k b:=by
  intro k b hk ho
  match k,ho with
  |0,ho=>exact ho
  |1,ho=>exact ho
  |2,ho=>exact ho
  |3,ho=>exact ho
  |4,ho=>exact ho
  |5,_=>exact absurd rfl hk
  |(n+6),ho=>exact ho
 have o:∀k b,own a k b->k≠5->¬own a 5 b:=λk b hk hn=>h.off hk hn;refine⟨h.cf,h.hd.fr hf (o 0 _ rfl (by decide)),h.pl.fr hf (λb hb=>o 1 b hb (by decide)),h.qr.fr hf (o 2 _ (.inl rfl) (by decide)) (o 2 _ (.inr rfl) (by decide)),h.qo,h.db.fr hf (λb hb=>o 3 b hb (by decide)),h.se.fr hf (λb hb=>o 4 b hb (by decide)),hw,abJ h.ap h.lt same (λb hb=>u b hb),?_⟩;intro k b hb;by_cases hk:k=5
 ·subst hk;exact hw.wm.lt hb
 ·exact alA (h.lt k b (same k b hk hb)) hf.size
def iW (a:EA) (b:Nat):Prop:=∃k,own a k b
def YW (S:Slots) (i:Int):Nat:=((live 0 S).filter λx=>x.2.sw==i).length
def agG (c:Cf) (b:Bnd):Prop:=
 (b.pr=1\/b.pr=6\/b.pr=17)/\(0<=b.ad/\b.ad<=4294967295)/\b.oad∈c.pl/\(0<=b.po/\b.po<=65535)/\(0<=b.opo/\b.opo<=65535)/\b.pr=b.opr/\UD c b.sw
theorem Zr.b {c:Cf} {b:Bnd} (h:Zr c b):agG c b:=by
 obtain⟨h1,h2,h3⟩:=h;exact⟨h1,⟨by have:=h2.1;omega,by have:=h2.2.1;omega⟩,h3⟩
structure Inv (c:Cf) (e:ES):Prop where
 ql:e.Q.length=c.sw.len
 cn:∀i,UD c i->QN.at_ e.Q i=(YW e.S i:Int)
 gv:∀o:PN.O3,o∈e.G.map (·.1)↔∃(j:Nat) (b:Bnd),e.S[j]? =some (some b)/\(b.opr,b.oad,b.opo)=o
 mp:∀(j:Nat) (b:Bnd),e.S[j]? =some (some b)->agG c b
end Go.Proofs.EN
end
section
namespace Go.Proofs.EN
open Gp Go.Proofs
open Gp.Bind (Bnd Slots live GoodB freeN getS In64)
theorem ahE {S:Slots} {i:Nat} {b:Bnd} (h:freeN S=some i) (k:Int):YW (S.set i (some b)) k=YW S k+if b.sw=k then 1 else 0:=by
 obtain⟨_,_,_,_,_,_,h7⟩:=Gp.Bind.jE 0 h;have e:(live 0 S).filter (λx=>x.2.sw==k)=((live 0 S).take i).filter (λx=>x.2.sw==k)++((live 0 S).drop i).filter (λx=>x.2.sw==k):=by
  rw[<- amu,aks]
 unfold YW
 grind
theorem at_set {l:List Int} {i j v:Int} (hi:0<=i) (hl:i<(l.length:Int)) (hj:0<=j):QN.at_ (l.set i.toNat v) j=if i=j then v else QN.at_ l j:=by
 unfold QN.at_
 grind
variable {c:Cf} {e:ES}
theorem Inv.add (h:Inv c e) {i:Nat} {b:Bnd} (hf:freeN e.S=some i) (hm:agG c b) (Mi Mo:ByteArray->Option Int):
  Inv c {e with S:=e.S.set i (some b),Mi:=Mi,Mo:=Mo,Q:=e.Q.set b.sw.toNat (QN.at_ e.Q b.sw+1),G:=CS e.G (b.opr,b.oad,b.opo) ()}:=by
 have I:=hm.2.2.2.2.2.2;obtain⟨s0,s1⟩:=I;obtain⟨hil,hin,_⟩:=Gp.Bind.jE 0 hf;have J:=h.ql;have hg:∀(j:Nat) (x:Bnd),(e.S.set i (some b))[j]? =some (some x)↔(j=i/\x=b)\/(j≠i/\e.S[j]? =some (some x)):=by
  grind
 refine⟨by simp[J],λk hk=> ?_,λo=> ?_,λj x hx=> ?_⟩
 ·rw[at_set s0 (by omega) hk.1,ahE hf];by_cases hb:b.sw=k
  ·subst hb;simp only[ajn];rw[h.cn _ ⟨s0,s1⟩];omega
  ·simp only[hb,aku];rw[h.cn _ hk];omega
 ·have u:o∈e.G.map (·.1)↔∃(j:Nat) (x:Bnd),j≠i/\e.S[j]? =some (some x)/\(x.opr,x.oad,x.opo)=o:=by
   rw[h.gv]
   grind
  have hm':o∈(CS e.G (b.opr,b.oad,b.opo) ()).map (·.1)↔o∈e.G.map (·.1)\/(b.opr,b.oad,b.opo)=o:=by
   rw[Tj]
   grind
  show o∈(CS e.G (b.opr,b.oad,b.opo) ()).map (·.1)↔_;rw[hm',u];constructor
  ·rintro(⟨j,x,hj,hx,ho⟩|ho)
   ·exact⟨j,x,(hg j x).2 (.inr ⟨hj,hx⟩),ho⟩
   ·exact⟨i,b,(hg i b).2 (.inl ⟨rfl,rfl⟩),ho⟩
  grind
 ·rcases(hg j x).1 hx with ⟨rfl,rfl⟩|⟨_,hx⟩
  ·exact hm
  ·exact h.mp j x hx
theorem Np:∀{S:Slots} {i k:Nat} {b:Bnd},S[i]? =some (some b)->∃A B,live k S=A++(((k+i:Nat):Int),b)::B/\live k (S.set i none)=A++B
 |none::r,0,k,b,h=>by simp at h
 |some x::r,0,k,b,h=>by
  simp at h;subst h;exact⟨[],live (k+1) r,by simp[live],by simp[live]⟩
 |none::r,i+1,k,b,h=>by
  obtain⟨A,B,h1,h2⟩:=Np (k:=k+1) (by simpa using h);refine⟨A,B,?_,?_⟩
  ·show live (k+1) r=_
   grind
  trivial
 |some x::r,i+1,k,b,h=>by
  obtain⟨A,B,h1,h2⟩:=Np (k:=k+1) (by simpa using h);refine⟨((k:Int),x)::A,B,?_,?_⟩
  ·show ((k:Int),x)::live (k+1) r=_
   grind
  ·show ((k:Int),x)::live (k+1) (r.set i none)=_;rw[h2];rfl
theorem X0 {S:Slots} {i:Nat} {b:Bnd} (h:S[i]? =some (some b)) (k:Int):YW S k=YW (S.set i none) k+if b.sw=k then 1 else 0:=by
 obtain⟨A,B,h1,h2⟩:=Np (k:=0) h;unfold YW
 grind
theorem Inv.del (h:Inv c e) (_:GoodB e.S e.Mi e.Mo) {i:Nat} {b:Bnd} (hi:e.S[i]? =some (some b)) (J:(e.G.map (·.1)).Nodup)
  (one:∀(j:Nat) (x:Bnd),e.S[j]? =some (some x)->(x.opr,x.oad,x.opo)=(b.opr,b.oad,b.opo)->j=i) (Mi Mo:ByteArray->Option Int):
  Inv c {e with S:=e.S.set i none,Mi:=Mi,Mo:=Mo,Q:=e.Q.set b.sw.toNat (QN.at_ e.Q b.sw - 1),G:=BR e.G (b.opr,b.oad,b.opo)}:=by
 have hm:=h.mp i b hi;obtain⟨s0,s1⟩:=hm.2.2.2.2.2.2;have N:=h.ql;have I:∀(j:Nat) (x:Bnd),(e.S.set i none)[j]? =some (some x)↔j≠i/\e.S[j]? =some (some x):=by
  grind
 have u:∀o,o∈(BR e.G (b.opr,b.oad,b.opo)).map (·.1)↔o≠(b.opr,b.oad,b.opo)/\o∈e.G.map (·.1):=by
  intro o;have:=Nq J (b.opr,b.oad,b.opo) o;by_cases ho:o=(b.opr,b.oad,b.opo)
  ·rw[adZ ho] at this;have h2:=qV.1 this
   simp_all
  ·rw[acZ ho] at this;constructor
   ·intro h2;refine⟨ho,?_⟩;refine ame λhn=> ?_;rw[qV.2 hn] at this;exact qV.1 this h2
   ·rintro⟨_,h2⟩;refine ame λhn=> ?_;rw[qV.2 hn] at this;exact qV.1 this.symm h2
 refine⟨by simp[N],λk hk=> ?_,λo=> ?_,λj x hx=>h.mp j x ((I j x).1 hx).2⟩
 ·rw[at_set s0 (by omega) hk.1];have hc:=X0 hi k;by_cases hb:b.sw=k
  ·subst hb;simp only[ajn] at hc ⊢;rw[h.cn _ ⟨s0,s1⟩];omega
  ·simp only[hb,aku] at hc ⊢;rw[h.cn _ hk];omega
 ·rw[u,h.gv];constructor
  ·rintro⟨ho,j,x,hx,O⟩;refine⟨j,x,(I j x).2 ⟨λhj=> ?_,hx⟩,O⟩
   simp_all
  grind
end Go.Proofs.EN
end
section
namespace Go.Proofs.EN
open Gp Go.Proofs
open Gp.Bind (Bnd Slots live GoodB freeN getS In64)
theorem Zr.ok {c:Cf} {b:Bnd} (h:Zr c b) (hc:akw c):b.ok:=by
 obtain⟨h1,h2,h3,h4,h5,h6,h7,h8⟩:=h;obtain⟨h2a,h2b,_⟩:=h2;obtain⟨h3a,h3b,_⟩:=hc.hp _ h3;have hl:=hc.sw;constructor
 ·intro n hn;simp only[Bnd.i,agI,ajr,alf] at hn;unfold In64;rcases hn with rfl|rfl|rfl|rfl<;>omega
 ·intro n hn;simp only[Bnd.o,agI,ajr,alf] at hn;unfold In64;rcases hn with rfl|rfl|rfl<;>omega
theorem Nc:∀{S:Slots} (k:Nat),freeN S=none->(live k S).length=S.length
 |[],_,_=>rfl
 |none::r,_,h=>by trivial
 |some c::r,k,h=>by
  simp only[freeN,Option.map_eq_none_iff] at h;simp only[live,ajg,Nc (k+1) h]
def Zq (c:Cf) (e:ES) (b:Bnd):Int:=
 if ¬Zr c b then 1 else if (e.Mi (Bind.keyS b.i)).isSome||(e.Mo (Bind.keyS b.o)).isSome then 9 else if QN.Es e.Q b.sw>=c.q then 10 else if ((live 0 e.S).length:Int)>=c.nb then 7 else 0
variable {w w':θ} {a:EA} {c:Cf} {e:ES}
theorem map_ok (h:lS w a c e) (hi:Inv c e) (b:Bnd) (Z:b.st=true):
  oQ (some ⟨a.x,0,none⟩) b.sw b.pr b.ad b.po b.opr b.oad b.opo w λr w'=>r=Zq c e b/\
   ((r≠0/\Ext w w')\/(r=0/\Zr c b/\ig w w' (iW a)/\∃A i Mi Mo Q G,freeN e.S=some i/\(∀x,fp A x->fp a.B x\/w.heap.size<=x)/\
    lS w' {a with B:=A} c {e with S:=e.S.set i (some b),Mi:=Mi,Mo:=Mo,Q:=Q,G:=G}/\Inv c {e with S:=e.S.set i (some b),Mi:=Mi,Mo:=Mo,Q:=Q,G:=G})):=by
 apply NG;refine gU λt w1 r1 e1 z1 f1=> ?_;have h1:=h.ext f1;refine cmS0 (uG h1) ?_;rintro r w1 ⟨rfl,hw⟩;subst hw;simp -zeta only[adt,aaf,sx,r1.cell];refine cmS0 (aj0 h1 b) ?_;rintro r w2 ⟨rfl,f2⟩;by_cases hm:Zr c b;rotate_left
 ·simp only[hm,acR,afk,abt];refine⟨by unfold Zq;simp_all,.inl ⟨by decide,f1.trans f2⟩⟩
 have bok:=hm.ok h.cf;have x2:=f2.trans (Ext.drew w2);have h2:=h1.ext x2;have r2:=r1.ext x2;simp -zeta only[hm,acI,adt,aaf,sx,h2.c2,r2.cell];refine cmS3 (IU h2.db b.sw b.pr b.ad b.po bok.1) ?_;rintro n1 t1 w3 ⟨rfl,rfl,f3⟩;have x3:=f3.trans (Ext.drew w3);have h3:=h2.ext x3;have r3:=r2.ext x3;simp -zeta only[sx,h3.c2,r3.cell];refine cmS3 (Ou h3.db b.opr b.oad b.opo bok.2) ?_;rintro n2 t2 w4 ⟨rfl,rfl,f4⟩;have x4:=((f1.trans x2).trans x3).trans f4;intro J;have hJ:J ((e.Mi (Bind.keyS b.i)).isSome||(e.Mo (Bind.keyS b.o)).isSome):=by
  cases hd:((e.Mi (Bind.keyS b.i)).isSome||(e.Mo (Bind.keyS b.o)).isSome)
  rotate_left
  ·simp only[J,abt];exact⟨by unfold Zq;simp_all,.inl ⟨by decide,x4⟩⟩
  have x5:=f4.trans (Ext.drew w4);have h5:=h3.ext x5;have r5:=r3.ext x5;simp only[J,aaf,sx,h5.c1,h5.c25,r5.cell];refine cmS1 (QN.Ϫ h5.qr _) ?_;rintro n w5 ⟨rfl,hw⟩;subst hw;refine⟨h5.c25,?_⟩;by_cases hq:QN.Es e.Q b.sw>=c.q
  ·simp only[hq,acI,abt];exact⟨by unfold Zq;simp_all,.inl ⟨by decide,x4.trans (Ext.drew w4)⟩⟩
  simp only[hq,acR,aaf];refine cmS0 (SK h5) ?_;rintro n w6 ⟨rfl,f6⟩;have x6:=(x4.trans (Ext.drew w4)).trans f6;by_cases u:((live 0 e.S).length:Int)>=c.nb
  ·simp only[u,acI,abt];exact⟨by unfold Zq;simp_all,.inl ⟨by decide,x6⟩⟩
  have y6:=f6.trans (Ext.drew w6);have h6:=h5.ext y6;have r6:=r5.ext y6;have xx:=x6.trans (Ext.drew w6);simp only[u,acR,aaf,sx,h6.c1,r6.cell];obtain⟨s0,s1⟩:=hm.2.2.2.2.2.2;have hin:QN.inR e.Q b.sw:=⟨s0,by rw[hi.ql];exact s1⟩;have hat:QN.Es e.Q b.sw=QN.at_ e.Q b.sw:=by unfold QN.Es;simp_all
  have U:QN.Fj e.Q c.q b.sw=(0,e.Q.set b.sw.toNat (QN.at_ e.Q b.sw+1)):=by
   unfold QN.Fj;simp_all
  have ht:t<w.drew.heap.size\/w.heap.size<=t:= .inr (by omega);refine cmS1 (QN.Pv h6.qr h6.qo _) ?_;rintro n w7 ⟨rfl,q7,f7⟩;rw[U] at q7;have o7:QN.QOk (e.Q.set b.sw.toNat (QN.at_ e.Q b.sw+1)) c.q:=by
   have:=QN.aa8 h6.qo b.sw;rw[U] at this;exact this
  have h7:=(h6.akg f7 q7 o7).ext (Ext.drew w7);have r7:=(r6.fr f7 (λhe=>by have:=h.lt 2 a.qs (.inr rfl);omega)).drew;simp only[sx,h7.c0,r7.cell];have aa:(b.opr,b.oad,b.opo)∉e.G.map (·.1):=by
   intro hc;obtain⟨j,x,hx,ho⟩:=(hi.gv _).1 hc;have:e.Mo (Bind.keyS b.o)=some (j:Int):=(h.db.good.o _ _).2 ⟨j,x,hx,by simp only[alX] at ho;unfold Bnd.o;simp_all,rfl⟩
   simp_all
  have ab:b.opr=1\/b.opr=6\/b.opr=17:=by rw[<- hm.2.2.2.2.2.1];exact hm.1
  refine cmS1 (PN.ah8 h7.pl ab hm.2.2.1 hm.2.2.2.2.1.1 (by have:=hm.2.2.2.2.1.2;omega) aa) ?_;rintro n w8 ⟨rfl,p8,f8⟩;have h8:=(h7.ake f8 p8).ext (Ext.drew w8);have r8:=(r7.fr f8 (λhe=>by have:=h.lt 1 a.g (.inr (.inl rfl));omega)).drew;simp only[sx,h8.c2,r8.cell];have I:=ac_ h8.db b bok (h8.lt 3);rw[Z] at I;refine cmS8 I ?_;rintro n m w9 ⟨hr,f9,A,S',Mi',Mo',d9,ac,W,R,hS'⟩;have N:∃i,freeN e.S=some i:=by
   cases ae:freeN e.S with
   |some i=>simp
   |none=>
    have h10:=Nc 0 ae;have h11:=h.db.len;omega
  obtain⟨i,Y⟩:=N;have O:wS e.S e.Mi e.Mo b=((i:Int),0):=by
   unfold wS;simp_all
  simp only[O] at hr hS';simp only[ajn,abu] at hS'
  cases hr
  subst hS';have h9:=h8.setB f9 d9 ac (λx hx=>W x hx) R;have m0:Zq c e b=0:=by
   unfold Zq;grind
  refine⟨m0.symm,.inr ⟨rfl,by trivial,?_,A,i,Mi',Mo',_,_,Y,λx hx=> ?_,h9,hi.add Y hm.b Mi' Mo'⟩⟩
  ·have g7:ig w w7 (iW a):=(xx.fr f7).mono λy hy=>⟨2,.inr hy⟩;have g8:=(g7.ext (Ext.drew _)).trans f8 λy _ hy=>⟨1,.inr (.inl hy)⟩;exact(g8.ext (Ext.drew _)).trans f9 λy _ hy=>⟨3,hy⟩
  ·rcases W x hx with hx|hx
   ·exact .inl hx
   ·refine .inr ?_;have e7:=f7.size;have e8:=f8.size;have ex:=xx.size
    simp_all;omega
 cases hd1:(e.Mi (Bind.keyS b.i)).isSome
 ·rw[hd1,Bool.false_or] at hJ;have:(e.Mi (Bind.keyS [b.sw,b.pr,b.ad,b.po])).isSome=false:=hd1;simp -zeta only[this,aaf];exact hJ
 ·rw[hd1,Bool.true_or] at hJ;have:(e.Mi (Bind.keyS [b.sw,b.pr,b.ad,b.po])).isSome=true:=hd1;simp -zeta only[this,abt];exact hJ
end Go.Proofs.EN
end
section
namespace Gp
open Go Go.Proofs
def Sr (P:Program) (ks:List Shape) (v:Value) (C:Nat->b_) (xs:List (zZ ks)):Prop:=
 match v with
 | .func (.func f) first cap=>o9 P f=true/\∀(l:Nat) (w:θ) (Q:Nat->Nat->b_) (D:b_),
   (∀N i W,Q N i W->C i W)->(∀N i W W',Q N i W->ig W W' (λb=>w.heap.size<=b/\b<N)->Q N i W')->(∀W W',D W->ig W W' (w.heap.size<=·)->D W')->
   (∀N i x W (K:Bool->b_),xs[i]? =some x->Q N i W->w.heap.size<=N->N<=W.heap.size->(∀W' S,Q N (i+1) W'->ig W W' S->(∀b,w.heap.size<=b->b<N->¬S b)->K true W')->(∀W' S,D W'->ig W W' S->(∀b,w.heap.size<=b->b<N->¬S b)->K false W')->ML P l (encR ks x) W K)->
   (∀W,Ext w W->Q W.heap.size 0 W)->Ii P [] f (first.toList++(Value.func (.yield l) #[] #[]::cap.toList)) w λ_ w'=>(∃N,Q N xs.length w')\/D w'
 |_=>False
theorem QG {P:Program} {ks:List Shape} {v:Value} {C:Nat->b_} {xs:List (zZ ks)} {w:θ} {body:Nat->zZ ks->θ->(Exit->b_)->Prop} {Kn Kr:b_} {Kx:List (Nat×(b_))}
  (hv:Sr P ks v C xs) (I:Nat->Nat->b_)
  (h0:∀W,Ext w W->w.heap.size+2<=W.heap.size->I W.heap.size 0 W)
  (hC:∀N i W,I N i W->C i W)
  (stI:∀N i W W',I N i W->ig W W' (λb=>w.heap.size<b/\b<N)->I N i W')
  (step:∀N i x W Kb,xs[i]? =some x->I N i W->w.heap.size+1<N->N<=W.heap.size->(∀W' S,ig (gQ W (w.heap.size+1)) W' S->(∀b,w.heap.size<=b->b<N->¬S b)->I N (i+1) W'->Kb .normal W')->body (w.heap.size+1) x W Kb)
  (fn:∀N W,I N xs.length W->Mark none w W->Kn W):
  xO P none ks v w body Kn Kr Kx:=by
 unfold xO;refine⟨by simp,?_⟩;unfold Sr at hv;split at hv
 ·rename_i f first cap
  obtain⟨hb,hv⟩:=hv;refine⟨hb,λl L w1 ctx=> ?_⟩;have hl:l=w.heap.size+1:=ctx.at_;subst hl;have hz0:w1.heap.size=w.heap.size+1+1:=ctx.size;have ls:∀W st p,ig W (iZ W (w.heap.size+1) st p) (·=w.heap.size+1):=λW st p=>ig.iZ W _ st p;have mset:∀W st p,Mark none w W->Mark none w (iZ W (w.heap.size+1) st p):=λW st p hm hn=>by
   rw[show (iZ W (w.heap.size+1) st p).heap[w.heap.size]? =W.heap[w.heap.size]? by simp[iZ,aly]];exact hm hn
  have mbody:∀W W' S,Mark none w W->w.heap.size+1<W.heap.size->ig (gQ W (w.heap.size+1)) W' S->¬S w.heap.size->Mark none w W':=λW W' S hm J hf hs hn=>by
   rw[hf.same _ (by simp[gQ];omega) hs];rw[show (gQ W (w.heap.size+1)).heap[w.heap.size]? =W.heap[w.heap.size]? by simp[gQ,aly]];exact hm hn
  have llt:∀st p W,L st p W->w.heap.size+1<W.heap.size:=λst p W hL=>by
   obtain⟨lp,h⟩:=ctx.isLoop st p W hL;exact(akE.1 h).1
  have lext:∀st p W W',L st p W->Ext W W'->L st p W':=λst p W W' hL he=>
   ctx.frame st p W W' hL ((he λ_=>False).same _ (llt st p W hL) (by simp))
  have hx1:Ext w w1:=λS=>⟨by omega,λb hb _=>ctx.old b hb,ctx.io⟩;have mext:∀W W',Mark none w W->w.heap.size+1<W.heap.size->Ext W W'->Mark none w W':=λW W' hm J he hn=>by
   rw[(he λ_=>False).same _ (by omega) (by simp)];exact hm hn
  refine Calls.mono (hv (w.heap.size+1) w1 (λN i W=>I N i W/\L .ready none W/\Mark none w W/\w.heap.size+1<N) (λ_=>False)
   (λN i W h=>hC N i W h.1) (λN i W W' h he=>⟨stI N i W W' h.1 (he.mono λb hb=>⟨by omega,hb.2⟩),ctx.frame _ _ _ _ h.2.1 (he.same _ (llt _ _ _ h.2.1) (by omega)),λhn=>by rw[he.same _ (by have:=llt _ _ _ h.2.1;omega) (by omega)];exact h.2.2.1 hn,h.2.2.2⟩)
   (λW W' h he=>h) ?_ ?_) ?_
  ·intro N i x W K hx ⟨hI,hL,hm,hN⟩ hN1 hN2 ht _;refine ctx.yield x W none K hL (step N i x W _ hx hI (by omega) hN2 ?_);intro W' S u hS hI';have hs:∀b,w.heap.size<=b->b<=w.heap.size+1->¬S b:=λb h1 h2=>hS b h1 (by omega);have hL':L .busy none W':=ctx.frame _ _ _ _ (ctx.busy _ _ hL) (u.same _ (by simpa [gQ] using llt _ _ _ hL) (hs _ (by omega) (ajq _)));refine⟨hL',none,rfl,ht _ (λb=>S b\/b=w.heap.size+1) ⟨stI _ _ _ _ hI' ((ls _ _ _).mono λb hb=>⟨by omega,by omega⟩),ctx.set _ _ _ _ _ hL',mset _ _ _ (mbody W W' S hm (llt _ _ _ hL) u (hs _ (ajq _) (by omega))),hN⟩ ?_ ?_⟩
   ·exact((((ig.gQ W (w.heap.size+1)).mono λb e=> .inr e).trans (u.mono λb e=> .inl e) λ_ _ e=>e).trans ((ig.iZ W' (w.heap.size+1) _ _).mono λb e=> .inr e) λ_ _ e=>e)
   ·rintro b hb1 hb2 (h|h)
    ·exact hS b (by omega) hb2 h
    ·omega
  ·intro W hW;exact⟨h0 W (hx1.trans hW) (by have:=hW.size;omega),lext _ _ _ _ ctx.ready hW,mext _ _ ctx.marks (by omega) hW,by have:=hW.size;omega⟩
  ·rintro e w2 ⟨he,h⟩;refine⟨he,?_⟩;rcases h with ⟨N,hI,hL,hm,hN⟩|h
   ·exact⟨.ready,none,hL,by simp,fn N _ (stI _ _ _ _ hI ((ls _ _ _).mono λb hb=>⟨by omega,by omega⟩)) (mset _ _ _ hm)⟩
   ·exact h.elim
 ·exact hv.elim
end Gp
namespace Go.Proofs.SN
open Gp Gp.Ses Go.Proofs
theorem aat (most:Nat) (S:Slots) (A:Rn) (f0 f1:Nat) (k:Int):
  Sr υ yK (Value.func (.func t_) #[] #[(Value.pointer (some ⟨f0,0,none⟩)),(Value.pointer (some ⟨f1,0,none⟩))])
   (λi W=>Row W f0 [.pointer (some ⟨A.d,0,none⟩)]/\Row W f1 [Β k]/\∃A' S' M',TA W A' most S' M'/\A'.d=A.d/\(i=0->S'=S)/\∀x∈(zH S k).drop i,getS S' x.1=some x.2) (yS (zH S k)):=by
 refine⟨by kernel_rfl,λn w Q D hC hQ hD hy h0=> ?_⟩;refine Calls.mono (yc (a0:= .func (.yield n) #[] #[]) (f0:=⟨f0,0,none⟩) (f1:=⟨f1,0,none⟩) (K:=λw'=>(∃N,Q N (yS (zH S k)).length w')\/D w') ?_) (λe w' h=>h);obtain⟨r0,r1,A1,S1,M1,ta,tA,hS,_⟩:=hC _ _ _ (h0 w (Ext.refl _));obtain rfl:=hS rfl;have hl:=ta.len;have hm:=ta.mx;have hr:=yO ta;rw[tA] at hr;simp only[sx,r0.cell];refine cmS0 hr ?_;rintro _ w2 ⟨rfl,hw⟩;subst hw;obtain⟨r0,r1,A2,S2,M2,h,hA,hS,_⟩:=hC _ _ _ (h0 w2.drew (Ext.drew _));obtain rfl:=hS rfl;have hh:=h.hd;rw[hA] at hh;simp only[sx,adt,r0.cell,r1.cell,hh.cell];refine h.own.get k ?_;have hil:=Gp.Ses.SQ S2 k;refine cmS2 (PZ ((h.own.buf k).sl jJ (by omega)) (by omega)) ?_;rintro s3 w3 ⟨f3,b3,n3⟩;have q3:=h0 w3 ((Ext.drew _).trans f3);have z3:w2.heap.size<=w3.heap.size:=f3.size;have J:(yS (zH S2 k)).length=(zH S2 k).length:=by simp[yS]
 have hol:(zH S2 k).length=(ids S2 k).length:=by rw[<- SY,aiz]
 rw[J];have l3:=b3.len;refine g_ (λst W=>∃i:Nat,i<=(zH S2 k).length/\st.1=(i:Int)/\Q w3.heap.size i W/\jc 1 eI W s3 (ids S2 k)/\w3.heap.size<=W.heap.size) (λst _=>(zH S2 k).length - st.1.toNat) ⟨0,by omega,rfl,q3,b3,ajq _⟩ ?_;rintro⟨x,⟨⟩⟩ W ⟨i,hi,rfl,hq,hb,hz⟩ next I
 obtain⟨r0,r1,A3,S3,M3,h,hA,_,hx⟩:=hC _ _ _ hq;have hh:=h.hd;rw[hA] at hh;have hl3:=h.len;by_cases O:i<(zH S2 k).length
 ·have u:((i:Int)<(s3.len:Int)):=by omega
  have hS:(zH S2 k)[i]? =some (zH S2 k)[i]:=adP O;have hx:=hx (zH S2 k)[i] (by rw[List.mem_iff_getElem?];exact⟨0,by rw[amN];exact hS⟩);generalize (zH S2 k)[i]=y at hS hx;obtain⟨v,b⟩:=y;have hv:(ids S2 k)[i]? =some v:=by rw[<- SY,aiK,hS];rfl
  obtain⟨hv0,hj⟩:=Gp.Ses.lX.1 hx;obtain⟨j,rfl⟩:∃j:Nat,v=(j:Int):=⟨v.toNat,by omega⟩;rw[abu] at hj;have gl:=(afg.1 hj).1;have c:∀m,m<6->_:=h.slot hj;have c0:=c 0 (by omega);have c1:=c 1 (by omega);have c2:=c 2 (by omega);have c3:=c 3 (by omega);have c4:=c 4 (by omega);simp only[akC,iV,d_] at c0 c1 c2 c3 c4;rw[aff u,abt];refine Df (hb.sl jJ (by omega)) hv λa hc=> ?_;simp only[sx,hc,r0.cell,hh.cell,abu,c0,c1,c2,c3,c4];refine⟨by omega,by omega,?_⟩;refine kP (hy w3.heap.size i ((j:Int),(b.bd,b.st,b.un,b.ra,b.rp,()),()) W _ ?_ hq z3 hz ?_ ?_)
  ·simp only[yS,aiK,hS,ahF]
  ·intro W' T hq' hf hT;refine⟨true,rfl,?_⟩;simp only[adt,aaf];rw[Α];refine I _ _ ⟨i+1,by omega,by simp,hq',hb.fr hf λc hc=>hT c (n3 c hc) (b3.lt hc),by have:=hf.size;omega⟩ (by simp only;omega)
  ·intro W' _ hd _ _;refine⟨false,rfl,?_⟩;simp only[afk,abt];exact .inr hd
 ·have u:¬((i:Int)<(s3.len:Int)):=by omega
  rw[adX u,aaf];have:i=(zH S2 k).length:=by omega
  subst this;exact .inl ⟨_,hq⟩
end Go.Proofs.SN
end
section
namespace Go.Proofs.WN
open Gp Gp.Wh
variable {w w':θ} {d m:Nat} {ss:List gG} {l:PL} {now:Nat} {tn most:Int} {F:Fs}
theorem acW (h:WS w d m ss l now tn most F) {id:Int} {t:Tm} (hl:mg l id=some t):
  tY (some ⟨d,0,none⟩) id w λr w'=>r=true/\ig w w' (qR d m ss)/\∃ss' F',WS w' d m ss' (BR l id) now tn most F'/\∀b,qR d m ss' b->qR d m ss b\/w.heap.size<=b:=by
 apply Ib;refine cmS0 (KL h.wm) ?_;rintro r w1 ⟨rfl,hw⟩;subst hw;simp only[adt,aaf,sx,h.wm.Ϧ];refine XQ h.wm.mp eqW id (Zh _) (λhc=>by simp_all) (λt' ht'=> ?_);rw[hl] at ht'
 cases ht'
 refine⟨_,_,_,rfl,?_⟩;refine gU λp w2 r2 e2 z2 f2=> ?_;refine gZ r2 (by rfl) (by rfl) λw3 r3 f3 z3=> ?_;have x3:=f2.new (f3 (·=p) rfl) λy hy he=>by omega
 have h3:=h.ext x3;simp only[adt,aaf,sx,r3.cell];obtain⟨N,ha1,ha2⟩:=h.wi.pl id t hl;have J:=h.wm.nd;refine cmS7 (abq h3.wm h.wi.nw t ha2) ?_;rintro w4 ⟨f4,n,ss',hn7,O,m4,hsub⟩;simp only[sx,m4.Ϧ];refine m4.akO id λw5 m5 f5 z5=> ?_;have hP:mg (BR l id)=G9 (mg l) id none:=by
  funext id';rw[Nq J];rfl
 have I:∀i u,mg (BR l id) i=some u->mg l i=some u:=by
  intro i u hu;rw[Nq J] at hu
  simp_all
 refine⟨by trivial,?_,ss',_,⟨m5,?_,⟨h.mo.1,?_⟩,λi u hu=>h.tb i u (I i u hu),λi i' u u' hu hu' ht=>h.ti i i' u u' (I i u hu) (I i' u' hu') ht,h.t0⟩,λb hb=> ?_⟩
 ·exact(x3.fr f4).trans f5 λb _ hb=> .inr (.inl hb)
 ·rw[hP,N];exact h.wi.take hl O
 ·have:=(SH l id).length_le;have:=h.mo.2;omega
 grind
end Go.Proofs.WN
namespace Go.Proofs.EN
open Gp Go.Proofs
open Gp.Bind (Bnd Slots live GoodB freeN getS In64)
open Gp.Ses (Ses)
variable {w w':θ} {a:EA} {c:Cf} {e:ES}
theorem lS.aiI (h:lS w a c e) {A:SN.Rn} {SS:Gp.Ses.Slots} {M:ByteArray->Option Int} (hf:ig w w' (own a 4)) (u:SN.TA w' A c.ns.toNat SS M) (hd:A.d=a.T.d) (I:∀x,SN.fp A x->SN.fp a.T x\/w.heap.size<=x) (J:∀x,SN.fp A x->x<w'.heap.size):
  lS w' {a with T:=A} c {e with SS:=SS,M:=M}:=by
 have same:∀k b,k≠4->own {a with T:=A} k b->own a k b:=by
  intro k b hk ho
  match k,ho with
  |0,ho=>exact ho
  |1,ho=>exact ho
  |2,ho=>exact ho
  |3,ho=>exact ho
  |4,_=>exact absurd rfl hk
  |5,ho=>exact ho
  |(n+6),ho=>exact ho
 have o:∀k b,own a k b->k≠4->¬own a 4 b:=λk b hk hn=>h.off hk hn;refine⟨h.cf,?_,h.pl.fr hf (λb hb=>o 1 b hb (by decide)),h.qr.fr hf (o 2 _ (.inl rfl) (by decide)) (o 2 _ (.inr rfl) (by decide)),h.qo,h.db.fr hf (λb hb=>o 3 b hb (by decide)),u,h.wh.fr hf (λb hb=>o 5 b hb (by decide)),abJ h.ap h.lt same (λb hb=>I b hb),?_⟩
 ·have:=h.hd.fr hf (o 0 _ rfl (by decide));simp only[hd];exact this
 ·intro k b hb;by_cases hk:k=4
  ·subst hk;exact J b hb
  ·exact alA (h.lt k b (same k b hk hb)) hf.size
def Grow (a a':EA) (n:Nat):Prop:=∀b,iW a' b->iW a b\/n<=b
theorem Grow.refl (a:EA) (n:Nat):Grow a a n:=λ_ h=> .inl h
theorem Grow.trans {a a' a'':EA} {n n':Nat} (h:Grow a a' n) (h':Grow a' a'' n') (hn:n<=n'):Grow a a'' n:=λb hb=>(h' b hb).elim (h b) λhb=> .inr (by omega)
theorem VE {ss':List gG} {n:Nat} (hs:∀x,WN.qR a.d a.m ss' x->WN.qR a.d a.m a.ss x\/n<=x):Grow a {a with ss:=ss'} n:=by
 rintro b ⟨k,hk⟩
 match k,hk with
 |0,hk=>exact .inl ⟨0,hk⟩
 |1,hk=>exact .inl ⟨1,hk⟩
 |2,hk=>exact .inl ⟨2,hk⟩
 |3,hk=>exact .inl ⟨3,hk⟩
 |4,hk=>exact .inl ⟨4,hk⟩
 |5,hk=>exact(hs b hk).imp (λh=>⟨5,h⟩) id
theorem Qy {A:SN.Rn} {n:Nat} (hs:∀x,SN.fp A x->SN.fp a.T x\/n<=x):Grow a {a with T:=A} n:=by
 rintro b ⟨k,hk⟩
 match k,hk with
 |0,hk=>exact .inl ⟨0,hk⟩
 |1,hk=>exact .inl ⟨1,hk⟩
 |2,hk=>exact .inl ⟨2,hk⟩
 |3,hk=>exact .inl ⟨3,hk⟩
 |4,hk=>exact(hs b hk).imp (λh=>⟨4,h⟩) id
 |5,hk=>exact .inl ⟨5,hk⟩
theorem Yq {A:Rn} {n:Nat} (hs:∀x,fp A x->fp a.B x\/n<=x):Grow a {a with B:=A} n:=by
 rintro b ⟨k,hk⟩
 match k,hk with
 |0,hk=>exact .inl ⟨0,hk⟩
 |1,hk=>exact .inl ⟨1,hk⟩
 |2,hk=>exact .inl ⟨2,hk⟩
 |3,hk=>exact(hs b hk).imp (λh=>⟨3,h⟩) id
 |4,hk=>exact .inl ⟨4,hk⟩
 |5,hk=>exact .inl ⟨5,hk⟩
theorem acS (w:θ) (d:Nat) (k:Int):oC (some ⟨d,0,none⟩) k w λv w'=>Ext w w'/\∃f0 f1,v=Value.func (.func t_) #[] #[(Value.pointer (some ⟨f0,0,none⟩)),(Value.pointer (some ⟨f1,0,none⟩))]/\Row w' f0 [.pointer (some ⟨d,0,none⟩)]/\Row w' f1 [Β k]/\w.heap.size<=f0/\w.heap.size<=f1:=by
 apply LM;refine⟨rfl,?_⟩;refine gU λf0 w1 r1 e1 z1 g1=>⟨rfl,?_⟩;refine gU λf1 w2 r2 e2 z2 g2=> ?_;exact⟨g1.trans g2,f0,f1,rfl,r1.ext g2,r2,by omega,by omega⟩
theorem lS.ndl (h:lS w a c e):(e.l.map (·.1)).Nodup:=h.wh.wm.nd
theorem aeo (h:lS w a c e) {k:Nat} {s:Ses} (hs:e.SS[k]? =some (some s)) {t:Gp.Wh.Tm} (ht:mg e.l (k:Int)=some t) {K:b_}
  (hK:∀w' a' M F,ig w w' (iW a)->lS w' a' c {e with SS:=e.SS.set k none,M:=M,l:=BR e.l (k:Int),F:=F}->Grow a a' w.heap.size->(a'.x=a.x/\a'.B=a.B)->a'.T.d=a.T.d->K w'):
  oU (some ⟨a.x,0,none⟩) (k:Int) w K:=by
 apply H6;simp only[sx,h.c3];refine cmS0 (SN.Wn h.se _) ?_;rintro _ w1 ⟨rfl,f1,A',S',M',hT',hd',u,hS'⟩;have I:Gp.Ses.getS e.SS (k:Int)=some s:=Gp.Ses.lX.2 ⟨by omega,by trivial⟩;rw[I,akt,adZ rfl,abu] at hS';subst hS';have h1:=h.aiI f1 hT' hd' (λx hx=> .inl (u x hx)) (λx hx=>alA (h.lt 4 x (u x hx)) f1.size);simp only[sx,h1.c4];refine cmS0 (WN.acW h1.wh ht) ?_;rintro _ w2 ⟨_,f2,ss',F',hw,hs'⟩;have h2:=h1.setW f2 hw λx hx=>hs' x hx;exact hK w2 _ M' F' ((f1.mono λy hy=>⟨4,hy⟩).trans f2 λy _ hy=>⟨5,hy⟩) h2 ((Qy λx hx=> .inl (u x hx)).trans (VE hs') f1.size) ⟨rfl,rfl⟩ hd'
structure Gone (e:ES) (SS:Gp.Ses.Slots) (l:WN.PL) (L:List Int):Prop where
 ss:∀(k:Nat) (s:Ses),SS[k]? =some (some s)↔e.SS[k]? =some (some s)/\(k:Int)∉L
 ts:∀i t,mg l i=some t↔mg e.l i=some t/\i∉L
 n1:(Gp.Ses.live 0 SS).length+L.length=(Gp.Ses.live 0 e.SS).length
 n2:l.length+L.length=e.l.length
theorem Gone.step {SS:Gp.Ses.Slots} {l:WN.PL} {L:List Int} (hg:Gone e SS l L) (h:(l.map (·.1)).Nodup) {k:Nat} {s:Ses} (hs:SS[k]? =some (some s)) {t:Gp.Wh.Tm} (ht:mg l (k:Int)=some t):
  Gone e (SS.set k none) (BR l (k:Int)) (L++[(k:Int)]):=by
 refine⟨λj x=> ?_,λi u=> ?_,?_,?_⟩
 ·rw[akQ];by_cases hj:k=j
  ·simp_all
  ·rw[acZ hj,hg.ss,alj,alk]
   grind
 ·rw[Nq h];by_cases hi:i=(k:Int)
  ·simp_all
  ·rw[acZ hi,hg.ts];simp[hi]
 ·have:=Gp.Ses.kT 0 hs;have:=hg.n1
  grind
 ·have:=WN.adb ht;have:=hg.n2
  grind
theorem UU {SS:Gp.Ses.Slots} {id:Int} {x:Int×Ses} (hx:x∈SN.zH SS id):∃j:Nat,x.1=(j:Int)/\SS[j]? =some (some x.2)/\x.2.bd=id:=by
 obtain⟨v,b⟩:=x;obtain⟨h1,h2⟩:=al1.1 hx;obtain⟨j,hj,hv⟩:=Gp.Ses.kY.1 h1
 grind
theorem agN {SS:Gp.Ses.Slots} {id:Int} (i:Nat) {x:Int×Ses} (hx:x∈(SN.zH SS id).drop i):x.1∉((SN.zH SS id).take i).map (·.1):=by
 intro hm;obtain⟨y,hy,he⟩:=alp.1 hm;have hs:(SN.zH SS id).Pairwise (λx y=>x.1<y.1):=((Gp.Ses.DF SS 0).1).sublist List.filter_sublist;rw[<- aks i (SN.zH SS id),List.pairwise_append] at hs
 grind
theorem Ϝ (h:lS w a c e) {id:Int} (hq:∀x∈SN.zH e.SS id,∃t,mg e.l x.1=some t) {K:b_}
  (hK:∀w' a' SS M l F,ig w w' (iW a)->lS w' a' c {e with SS:=SS,M:=M,l:=l,F:=F}->Gone e SS l ((SN.zH e.SS id).map (·.1))->Grow a a' w.heap.size->(a'.x=a.x/\a'.B=a.B)->(SN.zH e.SS id=[]->a'=a/\SS=e.SS/\M=e.M/\l=e.l/\F=e.F)->K w'):
  nJ (some ⟨a.x,0,none⟩) id w K:=by
 apply Jo;refine⟨rfl,?_⟩;refine gU λt w1 r1 e1 z1 f1=> ?_;have h1:=h.ext f1;simp only[sx,r1.cell,h1.c3];refine cmS4 (acS w1 _ _) ?_;rintro v w2 ⟨f2,g0,g1,rfl,p0,p1,p0s,p1s⟩;have h2:=h1.ext f2;have hz:=f2.size;have hol:∀b,iW a b->b<w.heap.size:=λb ⟨k,hk⟩=>h.lt k b hk;have r2:=r1.ext f2;have lt2:=r2.lt;have J:(SN.yS (SN.zH e.SS id)).length=(SN.zH e.SS id).length:=by simp[SN.yS]
 have ne:∀{b v},Row w2 b [v]->b<w2.heap.size:=λh=>h.lt;refine QG (SN.aat c.ns.toNat e.SS a.T g0 g1 id) (λN i W=>w2.heap.size+1<N/\(Row W t [.pointer (some ⟨a.x,0,none⟩)]/\Row W g0 [.pointer (some ⟨a.T.d,0,none⟩)]/\Row W g1 [Β id])/\∃a' SS M l F,ig w2 W (iW a)/\lS W a' c {e with SS:=SS,M:=M,l:=l,F:=F}/\
  Gone e SS l (((SN.zH e.SS id).take i).map (·.1))/\(∀b,iW a' b->iW a b\/N<=b)/\(a'.x=a.x/\a'.B=a.B)/\a'.T.d=a.T.d/\(i=0->a'=a/\SS=e.SS/\M=e.M/\l=e.l/\F=e.F)) ?_ ?_ ?_ ?_ ?_
 ·intro W hx hs;exact⟨by omega,⟨r2.ext hx,p0.ext hx,p1.ext hx⟩,a,e.SS,e.M,e.l,e.F,hx _,h2.ext hx,⟨by simp,by simp,by simp,by simp⟩,λb hb=> .inl hb,⟨rfl,rfl⟩,rfl,λ_=>⟨rfl,rfl,rfl,rfl,rfl⟩⟩
 ·rintro N i W ⟨hN,⟨k0,k1,k2⟩,a1,SS1,M1,l1,F1,kf,kE,kG,kg,kx,kd,kz⟩;refine⟨k1,k2,a1.T,SS1,M1,kE.se,kd,λh0=>(kz h0).2.1,λx hx=> ?_⟩;obtain⟨j,q1,q2,_⟩:=UU (amD hx);have:=agN i hx;rw[q1] at this ⊢;exact Gp.Ses.lX.2 ⟨by omega,by rw[abu];exact(kG.ss _ _).2 ⟨q2,this⟩⟩
 ·rintro N i W W' ⟨hN,⟨k0,k1,k2⟩,a1,SS1,M1,l1,F1,kf,kE,kr⟩ hf;refine⟨hN,⟨k0.fr hf (by omega),k1.fr hf (by grind),k2.fr hf (by grind)⟩,a1,SS1,M1,l1,F1,kf.trans hf λb hb e=>by omega,kE.fr hf λk b hb e=> ?_,kr⟩;rcases kr.2.1 b ⟨k,hb⟩ with hh|hh
  ·grind
  ·omega
 ·rintro N i x W Kb hx ⟨hN,⟨k0,k1,k2⟩,a1,SS1,M1,l1,F1,kf,kE,kG,kg,kx,kd,kz⟩ _ hNW hk;obtain⟨p,hp,rfl⟩:∃p,(SN.zH e.SS id)[i]? =some p/\x=(p.1,(p.2.bd,p.2.st,p.2.un,p.2.ra,p.2.rp,()),()):=by
   unfold SN.yS at hx;rw[aiK] at hx
   grind
  have O:=(afg.1 hp).1;refine⟨trivial,?_⟩;have fb:=ig.gQ W (w2.heap.size+1);have zb:(gQ W (w2.heap.size+1)).heap.size=W.heap.size:=by simp[gQ]
  have off:∀b,iW a1 b->b≠w2.heap.size+1:=λb hb=>by
   grind
  have kt:=k0.fr fb (by omega);simp only[sx,kt.cell];rw[<- kx.1];have hE:=kE.fr fb λk b hb=>off b ⟨k,hb⟩;have u:p∈(SN.zH e.SS id).drop i:=by rw[List.mem_iff_getElem?];exact⟨0,by simp_all⟩
  obtain⟨j,q1,q2,_⟩:=UU (amD u);have q3:=agN i u;obtain⟨tm,I⟩:=hq p (amD u);show oU _ p.1 _ _;rw[q1] at q3 I ⊢;have hs1:=(kG.ss _ _).2 ⟨q2,q3⟩;have ht1:=(kG.ts _ _).2 ⟨I,q3⟩;refine aeo hE hs1 ht1 λw3 a2 M2 F2 f3 hE3 hg3 hx3 hd3=> ?_;have nw:∀b,b<N->¬iW a b->¬iW a1 b:=λb hb hn hh=>(kg b hh).elim hn λh=>by omega
  have n2:∀b,w.heap.size<=b->b<N->¬iW a1 b:=λb h1 h2=>nw b h2 λhh=>by grind
  refine hk w3 _ f3 (λb h1 h2=>n2 b (by omega) h2) ⟨hN,⟨kt.fr f3 (n2 _ (by omega) (by omega)),?_,?_⟩,a2,_,M2,_,F2,(kf.trans fb λb hb e=>by omega).trans f3 λb hb hh=>(kg b hh).elim (λh=>h) λh=>by omega,hE3,?_,λb hb=> ?_,⟨hx3.1.trans kx.1,hx3.2.trans kx.2⟩,hd3.trans kd,λh=>by omega⟩
  ·exact(k1.fr fb (by grind)).fr f3 (n2 _ (by omega) (by grind))
  ·exact(k2.fr fb (by grind)).fr f3 (n2 _ (by omega) (by grind))
  ·rw[akx O,al4,(afg.1 hp).2,List.map_singleton,q1];exact kG.step hE.ndl hs1 ht1
  ·rcases hg3 b hb with hh|hh
   ·exact kg b hh
   omega
 ·rintro N W ⟨hN,_,a1,SS1,M1,l1,F1,kf,kE,kG,kg,kx,kd,kz⟩ hm;refine⟨hm rfl,?_⟩;have fp:=ig.nG W w2.heap.size (.deferred none);rw[J,alo] at kG;refine hK _ a1 SS1 M1 l1 F1 ((((f1.trans f2) _).trans kf λb _ hb=>hb).trans fp λb hb e=>by omega) (kE.fr fp λk b hb e=> ?_) kG (λb hb=>(kg b hb).imp (λh=>h) λh=>by omega) kx λhn=>kz (by rw[hn];rfl);rcases kg b ⟨k,hb⟩ with hh|hh
  ·grind
  ·omega
def NoS (e:ES):Prop:=live0 e.SS=[] where live0:=Gp.Ses.live 0
theorem aeN {S:Slots} {Mi Mo:ByteArray->Option Int} (hg:GoodB S Mi Mo) {i j:Nat} {b x:Bnd} (hi:S[i]? =some (some b)) (hj:S[j]? =some (some x)) (h:(x.opr,x.oad,x.opo)=(b.opr,b.oad,b.opo)):j=i:=by
 have h1:=(hg.o _ _).2 ⟨i,b,hi,rfl,rfl⟩;have e:x.o=b.o:=by simp only[alX] at h;unfold Bnd.o;simp_all
 have h2:=(hg.o _ _).2 ⟨j,x,hj,by rw[e],rfl⟩
 grind
theorem VP (h:lS w a c e) (hi:Inv c e) {i:Nat} (hq:∀x∈SN.zH e.SS (i:Int),∃t,mg e.l x.1=some t) {b:Bnd} (hb:e.S[i]? =some (some b)) {K:b_}
  (hK:∀w' a' Mi Mo Q G SS M l F,ig w w' (iW a)->lS w' a' c {e with S:=e.S.set i none,Mi:=Mi,Mo:=Mo,Q:=Q,G:=G,SS:=SS,M:=M,l:=l,F:=F}->Inv c {e with S:=e.S.set i none,Mi:=Mi,Mo:=Mo,Q:=Q,G:=G,SS:=SS,M:=M,l:=l,F:=F}->
   Gone e SS l ((SN.zH e.SS (i:Int)).map (·.1))->Grow a a' w.heap.size->(a'.x=a.x/\a'.B=a.B)->(SN.zH e.SS (i:Int)=[]->a'=a/\SS=e.SS/\M=e.M/\l=e.l/\F=e.F)->K w'):
  kQ (some ⟨a.x,0,none⟩) (i:Int) w K:=by
 apply GL;have u:getS e.S (i:Int)=some b:=Gp.Bind.lX.2 ⟨by omega,by trivial⟩;simp only[sx,h.c2];refine cmS14 (Dz h.db _) ?_;rintro a1 a2 a3 a4 a5 a6 a7 a8 r w1 ⟨rfl,hr,f1⟩;rw[u] at hr;obtain⟨rfl,rfl,rfl,rfl,rfl,rfl,rfl,rfl⟩:=hr;simp only[u,akt];refine gU λt w2 r2 e2 z2 f2=> ?_;refine gZ r2 (by rfl) (by rfl) λw3 r3 f3 z3=> ?_;have x3:=(f1.trans f2).new (f3 (·=t) rfl) λy hy he=>by have:=f1.size;omega
 have ht:w.heap.size<=t:=by have:=f1.size;omega
 have h3:=h.ext x3;have lt3:=x3.size;simp only[adt,aaf];refine Ϝ h3 hq λw4 a1 SS M l F f4 h4 hG I hx hn=> ?_;have nt:¬iW a t:=λ⟨k,hk⟩=>by have:=h.lt k t hk;omega
 have nt1:=λhh=>(I t hh).elim nt λh=>by omega
 have ow:∀y,y<w.heap.size->iW a1 y->iW a y:=λy hy hh=>(I y hh).elim id λh=>by omega
 have r4:=r3.fr f4 nt;rw[<- hx.1];simp only[sx,h4.c2];refine cmS0 (abW h4.db _ (h4.lt 3)) ?_;rintro r w5 ⟨_,f5,Mi',Mo',d5⟩;have J:=u;rw[J] at d5;simp only[akt,ajn,abu] at d5;have h5:=(h4.setB f5 d5 rfl (λx hx=> .inl hx) (λx hx=>alA (h4.lt 3 x hx) f5.size)).ext (Ext.drew w5);have r5:=(r4.fr f5 (λhe=>nt1 ⟨3,he⟩)).drew;have g5:=((x3 _).trans f4 λ_ _ h=>h).trans f5 λy hy hh=>ow y hy ⟨3,hh⟩;have N:=(hi.gv _).2 ⟨i,b,hb,rfl⟩;simp only[sx,h5.c0,r5.cell];refine cmS0 (PN.ahS h5.pl N) ?_;rintro r w6 ⟨rfl,p6,f6⟩;have h6:=(h5.ake f6 p6).ext (Ext.drew w6);have r6:=(r5.fr f6 (λhe=>nt1 ⟨1,.inr (.inl he)⟩)).drew;have g6:=(g5.ext (Ext.drew _)).trans f6 λy hy hh=>ow y hy ⟨1,.inr (.inl hh)⟩;simp only[sx,h6.c1,r6.cell];obtain⟨s0,s1⟩:=(hi.mp i b hb).2.2.2.2.2.2;have hin:QN.inR e.Q b.sw:=⟨s0,by rw[hi.ql];exact s1⟩;have hne:¬QN.at_ e.Q b.sw=0:=by
  rw[hi.cn _ ⟨s0,s1⟩];have:=X0 hb b.sw
  grind
 have O:QN.Me e.Q b.sw=(0,e.Q.set b.sw.toNat (QN.at_ e.Q b.sw - 1)):=by
  unfold QN.Me;simp_all
 refine cmS1 (QN.ahW h6.qr h6.qo _) ?_;rintro r w7 ⟨rfl,q7,f7⟩;have o7:=QN.agj h6.qo b.sw;have q7:QN.QR w7 a1.qb a1.qs (QN.Me e.Q b.sw).2 c.q:=q7;rw[O] at q7 o7;have q:=hi.del h.db.good hb h.pl.nd (λj x hx ho=>aeN h.db.good hb hx ho) Mi' Mo';exact hK w7 a1 Mi' Mo' _ _ SS M l F ((g6.ext (Ext.drew _)).trans f7 λy hy hh=>ow y hy ⟨2,.inr hh⟩) (h6.akg f7 q7 o7) ⟨q.ql,q.cn,q.gv,q.mp⟩ hG (λy hh=>(I y hh).imp id λh=>by omega) hx hn
end Go.Proofs.EN
end
section
namespace Go.Proofs.PN
open Gp Go.Proofs.PO
open Gp.PoolN (stepL stepL_get alike cls oth)
theorem JR {hi a b x:Int} (hb:0<b) (h:x∈stepL hi a b):a<=x/\x<=hi:=by
 obtain⟨i,hi'⟩:=amo h;rw[stepL_get hb] at hi';split at hi'
 ·rename_i hle;simp only[aho] at hi';have:0<=b * (i:Int):=Int.mul_nonneg (by omega) (by omega);omega
 ·cases hi'
theorem aad {want lo hi:Int}:∀(rs:List (List Int)) (k:Nat),(∀r∈rs,∀x∈r,lo<=x/\x<=hi)->∀x∈BZ want k rs,lo<=x/\x<=hi
 |[],_,_,x,hx=>by trivial
 |r::rs,k,h,x,hx=>by
  simp only[BZ,alj] at hx;rcases hx with hx|hx
  ·simp_all
  ·exact aad rs (k+1) (λr' hr'=>h r' (by simp[hr'])) x hx
theorem TQ (lo want:Int):lo<=alike lo want:=by unfold alike;omega
theorem ae8 {n lo hi want x:Int} (hx:x∈CQ n lo hi want):lo<=x/\x<=hi:=by
 unfold CQ at hx;rcases alj.1 hx with hx|hx
 ·unfold OC at hx
  simp_all
 ·refine aad _ _ (λr hr y hy=> ?_) x hx;unfold DX at hr;split at hr
  ·simp only[alk] at hr;subst hr;exact JR (by decide) hy
  ·simp only[adD,agI,ajr,alf] at hr;have a1:=TQ (max lo (cls want).1) want;have a2:=TQ (max lo (oth want).1) want;have a3:=TQ lo (want+1);rcases hr with rfl|rfl|rfl|rfl
   ·have:=JR (by decide) hy;omega
   ·have:=JR (by decide) hy;omega
   ·have:=JR (by decide) hy;omega
   ·have:=JR (by decide) hy;omega
def Mc (n ad:Int) (G:List (O3×Unit)) (xs:List Int):Option Int:=xs.find? λq=>decide ((n,ad,q)∉G.map (·.1))
def tkL (n:Int) (G:List (O3×Unit)) (xs:List Int):List Int->Option O3
 |[]=>none
 |ad::r=>match Mc n ad G xs with
  |some q=>some (n,ad,q)
  |none=>tkL n G xs r
theorem Ω {n:Int} {G:List (O3×Unit)} {xs:List Int}:∀(a b:List Int),tkL n G xs a=none->tkL n G xs (a++b)=tkL n G xs b
 |[],_,_=>rfl
 |x::a,b,h=>by
  unfold tkL at h
  cases hf:Mc n x G xs with
  |some q=>simp_all
  |none=>
   rw[hf] at h;show tkL n G xs (x::(a++b))=_;rw[tkL,hf];exact Ω a b h
theorem ab7 {n ad q:Int} {G:List (O3×Unit)} {xs:List Int} (h:Mc n ad G xs=some q):(n,ad,q)∉G.map (·.1)/\q∈xs:=by
 have h1:=List.find?_some h;exact⟨by simp_all,List.mem_of_find?_eq_some h⟩
theorem aa_ {n:Int} {G:List (O3×Unit)} {xs:List Int} {o:O3}:∀{l:List Int},tkL n G xs l=some o->o.1=n/\o.2.1∈l/\o.2.2∈xs/\o∉G.map (·.1)
 |[],h=>by trivial
 |x::l,h=>by
  rw[tkL] at h
  cases hf:Mc n x G xs with
  |some q=>
   rw[hf] at h;simp only[aho] at h;subst h;have:=ab7 hf
   simp_all
  |none=>
   rw[hf] at h;have:=aa_ h
   simp_all
def Rz (f m:Int):Int:=Int.tmod (Int.tmod f m+m) m
theorem ahU {f m:Int} (h:0<m):0<=Rz f m/\Rz f m<m/\ -m<Int.tmod f m/\Int.tmod f m<m:=by
 have h1:=Int.tmod_lt_of_pos f h;have h2:=Int.lt_tmod_of_pos f h;have h3:0<=Int.tmod f m+m:=by omega
 exact⟨Int.tmod_nonneg _ h3,Int.tmod_lt_of_pos _ h,h2,h1⟩
def rotL (f:Int) (pl:List Int):List Int:=(List.range pl.length).map λi=>pl.getD (((Rz f pl.length).toNat+i) % pl.length) 0
def Fp (n want f lo hi:Int) (pl:List Int) (G:List (O3×Unit)):Option O3:=tkL n G (CQ n lo hi want) (rotL f pl)
theorem aiF {f:Int} {pl:List Int} {x:Int} (h:x∈rotL f pl):x∈pl:=by
 unfold rotL at h;obtain⟨i,hi,rfl⟩:=alp.1 h;have hl:=List.mem_range.1 hi;rw[amE,adP (alV _ (by omega))];simp
theorem aeW {f:Int} {pl:List Int} {i:Nat} (h:i<pl.length):(rotL f pl).take (i+1)=(rotL f pl).take i++[pl.getD (((Rz f pl.length).toNat+i) % pl.length) 0]:=by
 have hl:(rotL f pl).length=pl.length:=by simp[rotL]
 rw[al3,adP (by omega)];simp[rotL]
theorem VZ {n want f lo hi:Int} {pl:List Int} {G:List (O3×Unit)} {o:O3} (h:Fp n want f lo hi pl G=some o):o.1=n/\o.2.1∈pl/\(lo<=o.2.2/\o.2.2<=hi)/\o∉G.map (·.1):=by
 have:=aa_ h;exact⟨this.1,aiF this.2.1,ae8 this.2.2.1,this.2.2.2⟩
end Go.Proofs.PN
end
section
namespace Go.Proofs.PN
open Gp Go.Proofs.PO
variable {w w':θ} {p g:Nat} {s:gG} {lo hi:Int} {pl:List Int} {G:List (O3×Unit)}
theorem PL.lt (h:PL w p g s lo hi pl G) {b:Nat} (hb:fp p g s b):b<w.heap.size:=by
 rcases hb with rfl|rfl|hb
 ·exact h.hd.lt
 ·exact h.gv.lt
 ·exact h.ad.lt hb
theorem alD {f:Int} {m i:Nat} (h0:0<m) (h1:m<=16) (hi:i<m):
  Int.tmod (ο.wrap (Int.tmod (ο.wrap (Int.tmod f (m:Int)+(m:Int))) (m:Int)+(i:Int))) (m:Int)=((((Rz f m).toNat+i) % m:Nat):Int):=by
 obtain⟨a1,a2,a3,a4⟩:=ahU (f:=f) (m:=(m:Int)) (by omega);rw[Α (n:=Int.tmod f (m:Int)+(m:Int)) (by omega) (by omega)];show Int.tmod (ο.wrap (Rz f m+(i:Int))) (m:Int)=_;rw[Α];rw[al0 (by omega)];have:Rz f m+(i:Int)=(((Rz f m).toNat+i:Nat):Int):=by push_cast;omega
 rw[this];norm_cast
theorem agh {n ad q:Int} {G:List (O3×Unit)} {xs:List Int} {i:Nat} (hq:∀x∈xs.take i,(n,ad,x)∈G.map (·.1)) (hx:xs[i]? =some q) (hn:(n,ad,q)∉G.map (·.1)):Mc n ad G xs=some q:=by
 obtain⟨h,rfl⟩:=afg.1 hx;unfold Mc;rw[List.find?_eq_some_iff_append];refine⟨by simpa using hn,xs.take i,xs.drop (i+1),by rw[<- amc h,aks],λx hx=> ?_⟩;simpa using hq x hx
theorem ab6 {n ad:Int} {G:List (O3×Unit)} {xs:List Int} (hq:∀x∈xs,(n,ad,x)∈G.map (·.1)):Mc n ad G xs=none:=by
 unfold Mc;rw[List.find?_eq_none];intro q hq';have:=hq q hq';simpa using this
theorem Pv (h:PL w p g s lo hi pl G) {n want f:Int} (hn:n=1\/n=6\/n=17) (h1:wQ lo) (h2:wQ hi) (h3:0<=want) (h4:want<=65535) (h0:1<=pl.length):
  uj (some ⟨p,0,none⟩) n want f w λx y z e w'=>ig w w' (·=g)/\
   ((∃o,Fp n want f lo hi pl G=some o/\x=o.1/\y=o.2.1/\z=o.2.2/\e=0/\PL w' p g s lo hi pl (CS G o ()))\/
    (Fp n want f lo hi pl G=none/\e=12/\Ext w w')):=by
 apply O9;have hsl:s.len=pl.length:=h.sl.len;have au:=h.ln;refine⟨rfl,gU λb6 w1 r6 e6 z6 f1=>gU λb8 w2 r8 e8 z8 f2=>gU λu w3 aj e10 z10 f3=> ?_⟩;have x3:=(f1.trans f2).trans f3;have r6:=(r6.ext f2).ext f3;have r8:=r8.ext f3;have hp3:=h.ext x3;have lg:=h.gv.lt;have lp:=h.hd.lt;simp only[sx,r6.cell];refine cmS0 (PN.Fg hp3) ?_;rintro _ w' ⟨rfl,hw⟩;subst hw;simp only[adt,aaf];refine cmS0 (PN.Pj n _) ?_;rintro _ w' ⟨rfl,hw⟩;subst hw;simp only[hn,acI,adt,sx,r6.cell,hp3.hd.cell];refine⟨by omega,by omega,?_⟩;have hm:(s.len:Int)=(pl.length:Int):=by omega
 rw[hm];generalize an:CQ n lo hi want=xs;have ak:Fp n want f lo hi pl G=tkL n G xs (rotL f pl):=by unfold Fp;rw[an]
 rw[ak];have hrl:(rotL f pl).length=pl.length:=by simp[rotL]
 refine g_ (λst W=>∃i:Nat,i<=pl.length/\st.1.1=(i:Int)/\ig w' W (λ_=>False)/\tkL n G xs ((rotL f pl).take i)=none/\(∀d∈st.2,w'.heap.size<=d/\W.heap[d]? =some (.deferred (some [])))/\st.2.Nodup)
  (λst _=>((pl.length:Int) - st.1.1).toNat) ⟨0,by omega,rfl,ig.refl _ _,rfl,by simp,by simp⟩ ?_
 rintro⟨⟨ii,⟨⟩⟩,ds⟩ W ⟨i,hi1,hi2,f4,J,hd,nd⟩ next aa
 simp only at hi2 hd nd;subst hi2;have x4:Ext w' W:=(Ext.refl w').new f4 (by simp);have r6W:=r6.ext x4;have r8W:=r8.ext x4;have r10W:=aj.ext x4;have ab:=hp3.ext x4;have sW:=x4.size;by_cases ao:i<pl.length
 ·have O:((i:Int)<(pl.length:Int)):=by omega
  have ah:=Ext.drew W;simp only[O,acI,abt,sx,r6W.drew.cell,ab.hd.drew.cell];refine⟨by omega,?_⟩;rw[alD (by omega) au ao];have am:((Rz f pl.length).toNat+i) % pl.length<pl.length:=alV _ (by omega);have ac:pl[((Rz f pl.length).toNat+i) % pl.length]? =some (pl.getD (((Rz f pl.length).toNat+i) % pl.length) 0):=by
   rw[amE,adP am];rfl
  have R:=aeW (f:=f) ao;generalize pl.getD (((Rz f pl.length).toNat+i) % pl.length) 0=ad at ac R;refine SN.Df (ab.ext ah).sl ac λa37 c0=> ?_;simp only[sx,c0];refine gU λI w4 ae e40 z40 g4=> ?_;have hp4:=(ab.ext ah).ext g4;have av:=(r6W.ext ah).ext g4;have cA:w4.cell? a37=some (Β ad):=kS c0 g4;have l6:=r6.lt;have l8:=r8.lt;have l10:=aj.lt;have hdz:W.drew.heap.size=W.heap.size:=rfl;simp only[cA,hp4.hd.cell,av.cell,afp,sx];refine gZ ae rfl rfl λw5 ae f5 z5=> ?_;have x5:Ext W w5:=(ah.trans g4).new (f5 (·=I) rfl) λx hx e=>by omega
  have aw:=r6W.ext x5;have hp5:=ab.ext x5;simp only[sx,aw.cell];refine cmS4 (ae9 (s:=s) hp5.hd hn h1 h2 h3 h4) ?_;rintro v w6 ⟨x6,C,aq,hC⟩;rw[an] at aq;have ae:=ae.ext x6;have s5:=x5.size;have s6:=x6.size;have s1:=f1.size;have s2:=f2.size;have s3:=f3.size;have U:=x5.trans x6;have l40:W.heap.size<=I:=by omega
  have l40':I<w5.heap.size:=by omega
  have lq:lM none w6=w6.heap.size+1:=rfl;refine Yy aq (λj W'=>∃z:Int,Row W' I [Β n,Β ad,Β z]/\ig w6 W' (·=I)/\∀q∈xs.take j,(n,ad,q)∈G.map (·.1))
   (λe W'=>e= .ret/\∃q,Mc n ad G xs=some q/\Row W' b8 [Β n,Β ad,Β q]/\Row W' u [Β 0]/\PL W' p g s lo hi pl (CS G (n,ad,q) ())/\ig w6 W' (λb=>b=I\/b=g\/b=b8\/b=u)) (by simp) ?_ ?_ ?_ ?_ ?_ ?_ ?_ ?_ ?_
  ·exact λW' hx _=>⟨0,ae.ext hx,hx _,by simp⟩
  ·rintro j W' ⟨z,_,hf,_⟩;exact hC W' _ hf (λb h1 h2 e=>by omega) (by omega)
  ·rintro j W' W'' ⟨z,hr,hf,hq⟩ hf';rw[lq] at hf';exact⟨z,hr.fr hf' (by omega),hf.trans hf' λx hx e=>by omega,hq⟩
  ·rintro e W' W'' ⟨he,q,q1,q2,q3,q4,q5⟩ hf';rw[lq] at hf';refine⟨he,q,q1,q2.fr hf' (by omega),q3.fr hf' (by omega),q4.fr hf' (λb hb=> ?_),q5.trans hf' λx hx e=>by omega⟩;have:=h.lt hb;have:=x3.size;omega
  ·exact λe W' hJ=> .inl hJ.1
  ·rintro j ⟨q,⟨⟩⟩ W' Kb hx ⟨z,hr,hf,hq⟩ af hn2 hj2;rw[Wv] at hx;obtain⟨q',hq',he⟩:=ams.1 hx;have ax:q'=q:=congrArg Prod.fst he;subst ax;rw[lq] at af hn2 hj2 ⊢;simp only[];refine iC hr rfl (by simp) λW2 r2 f2' z2=> ?_;refine⟨(f2' (·=I) rfl).same _ af (by omega),?_⟩;simp only[ahm,af5] at r2;have fb:ig w6 (gQ W2 (w6.heap.size+1)) (·=I):=(hf.trans (f2' (·=I) rfl) λ_ _ e=>e).trans (ig.gQ W2 _) λx hx e=>by omega
   have fc:ig (gQ W' (w6.heap.size+1)) (gQ W2 (w6.heap.size+1)) (·=I):=Dh (f2' (·=I) rfl) _;have rb40:Row (gQ W2 (w6.heap.size+1)) I _:=r2.fr (ig.gQ W2 _) (by omega);generalize gQ W2 (w6.heap.size+1)=W3 at fb fc rb40 ⊢;have k6:=(r6W.ext U).fr fb (by omega);have k8:=(r8W.ext U).fr fb (by omega);have ay:=(r10W.ext U).fr fb (by omega);have kp:PL W3 p g s lo hi pl G:=(ab.ext U).fr fb λb hb e=>by have:=h.lt hb;have:=x3.size;omega
   have fd:ig W3 W3.drew (·=I):=ig.drew _ _;have kpd:=kp.ext (Ext.drew W3);have kpd2:=kpd.ext (Ext.drew W3.drew);simp only[sx,k6.drew.cell,kpd.hd.cell,rb40.drew.cell];have sz:W.heap.size<=W3.heap.size:=by have:=fb.size;omega
   refine EL (k:= .bool) kpd.gv eqO (n,ad,q') (aeA _) (λhm=> ?_) (λb hb=> ?_)
   ·have hm:=qV.1 hm;simp only[jr,aaf,sx,k6.drew.drew.cell,kpd2.hd.cell,rb40.drew.drew.cell];refine zJ (ev:=evU) kpd2.gv eqO (n,ad,q') () (aeA _) λW4 m4 f4' z4=> ?_;have gb:∀x,I<=x\/x=b6\/x=b8\/x=u->x≠g:=λx hx=>by omega
    have az:=rb40.drew.drew.fr f4' (gb _ (by omega));simp only[sx,az.cell];refine gZ (k8.drew.drew.fr f4' (gb _ (by omega))) rfl rfl λW5 q8 g8 z8'=> ?_;have aA:=(ay.drew.drew.fr f4' (gb _ (by omega))).fr (g8 (·=b8) rfl) (by omega);refine iC aA rfl (by simp) λW6 ar g10 z10'=> ?_;simp only[af5] at ar;have ft:ig W3 W6 (λb=>b=I\/b=g\/b=b8\/b=u):=
     ((((ig.drew W3 _).trans (ig.drew _ _) λ_ _ e=>e).trans (f4'.mono (S':=λb=>b=I\/b=g\/b=b8\/b=u) λb e=>by omega) λ_ _ e=>e).trans ((g8 (·=b8) rfl).mono (S':=λb=>b=I\/b=g\/b=b8\/b=u) λb e=>by omega) λ_ _ e=>e).trans
      ((g10 (·=u) rfl).mono (S':=λb=>b=I\/b=g\/b=b8\/b=u) λb e=>by omega) λ_ _ e=>e
    have p4:PL W4 p g s lo hi pl (CS G (n,ad,q') ()):=⟨kpd2.hd.fr f4' h.pg,kpd2.ad.fr f4' (λb hb e=>h.sg (e ▸ hb)),m4,Pz h.nd _ _,h.ln,h.pg,h.sp,h.sg⟩;have nb:∀b,fp p g s b->b≠b8/\b≠u:=λb hb=>by have:=h.lt hb;omega
    have p6:=(p4.fr (g8 (·=b8) rfl) (λb hb=>(nb b hb).1)).fr (g10 (·=u) rfl) (λb hb=>(nb b hb).2);refine hj2 .ret W6 (λb=>b=I\/b=g\/b=b8\/b=u) ((fc.mono λb e=> .inl e).trans ft λ_ _ e=>e) (λb e=>by omega) ⟨rfl,q',agh hq hq' hm,q8.fr (g10 (·=u) rfl) (by omega),ar,p6,(fb.mono λb e=> .inl e).trans ft λ_ _ e=>e⟩
   ·have hm:(n,ad,q')∈G.map (·.1):=ame λhc=>by rw[qV.2 hc] at hb;cases hb
    simp only[evU,jr,abt];refine hn2 _ (·=I) (fc.trans fd λ_ _ e=>e) (λb e=>by omega) ⟨q',rb40.drew,fb.trans fd λ_ _ e=>e,λx hx'=> ?_⟩;rw[al3,hq'] at hx';rcases alj.1 hx' with hx'|hx'
    ·exact hq x hx'
    ·have:x=q':=by simpa using hx'
     rw[this];exact hm
  ·rintro W' ⟨z,hr,hf,hq⟩ Y;have Y:=Y rfl;have aB:Mc n ad G xs=none:=ab6 λx hx=>hq x (by rw[ali (by simp[yP])];exact hx);have fz:ig W W' (λ_=>False):=(U.new hf λb hb e=>by omega) _;refine aa _ _ ⟨i+1,by omega,by rw[Α];push_cast;rfl,f4.trans fz λ_ _ e=>e,?_,?_,?_⟩ ?_
   ·rw[R,Ω _ _ J,tkL,aB];rfl
   ·intro d N;rcases agI.1 N with rfl|N
    ·exact⟨by omega,Y⟩
    ·obtain⟨d1,d2⟩:=hd d N;have Z:d<W.heap.size:=(akE.1 d2).1;exact⟨d1,by rw[fz.same d Z (by simp)];exact d2⟩
   ·simp only[amm];refine⟨λN=> ?_,nd⟩;have Z:w6.heap.size<W.heap.size:=(akE.1 (hd _ N).2).1;omega
   ·simp only;rw[Α];omega
  ·rintro W' ⟨_,q,q1,q2,q3,q4,q5⟩ Y;have Y:=Y rfl;have q5s:=q5.size;refine EP (n:=w'.heap.size) _ W' (λd N=> ?_) ?_ λw7 f7 z7=> ?_
   ·rcases agI.1 N with rfl|N
    ·exact⟨by omega,Y⟩
    ·obtain⟨d1,d2⟩:=hd d N;have Z:d<W.heap.size:=(akE.1 d2).1;exact⟨d1,by rw[q5.same d (by omega) (by omega),(U λ_=>False).same d Z (by simp)];exact d2⟩
   ·simp only[amm];refine⟨λN=> ?_,nd⟩;have Z:w6.heap.size<W.heap.size:=(akE.1 (hd _ N).2).1;omega
   ·have g8:=q2.fr f7 (by omega);have g10:=q3.fr f7 (by omega);simp only[sx,g8.cell,g10.cell];have ag:tkL n G xs (rotL f pl)=some (n,ad,q):=by
     have e:rotL f pl=(rotL f pl).take i++(ad::(rotL f pl).drop (i+1)):=by
      conv=>lhs;rw[<- aks (i+1) (rotL f pl),R,aky]
      rfl
     rw[e,Ω _ _ J,tkL,q1]
    refine⟨?_,.inl ⟨(n,ad,q),ag,by trivial,by trivial,by trivial,by trivial,q4.fr f7 λb hb=>by have:=h.lt hb;have:=x3.size;omega⟩⟩;have t1:ig w W' (λb=>b=I\/b=g\/b=b8\/b=u):=((x3.trans x4).trans U).fr q5;have ha:ig w w7 (λb=>b=I\/b=g\/b=b8\/b=u\/w'.heap.size<=b):=(t1.mono λb e=>by omega).trans (f7.mono λb e=>by omega) λ_ _ e=>e;exact⟨ha.size,λb hb hne=>ha.same b hb (by omega),ha.io⟩
  ·rintro id W' ⟨hc,_⟩
   cases hc
 ·have aC:i=pl.length:=by omega
  have O:¬((i:Int)<(pl.length:Int)):=by omega
  simp only[O,acR,aaf];have s1:=f1.size;have s2:=f2.size;have s3:=f3.size;refine gZ r8W rfl rfl λw5 r5 f5 z5=> ?_;refine iC (r10W.fr (f5 (·=b8) rfl) (by omega)) rfl (by simp) λw6 r6' f6 z6'=> ?_;have r5:=r5.fr (f6 (·=u) rfl) (by omega);simp only[af5] at r6';have fz:ig w' w6 (λb=>b=b8\/b=u):=((f4.mono (S':=λb=>b=b8\/b=u) λ_ e=>e.elim).trans ((f5 (·=b8) rfl).mono (S':=λb=>b=b8\/b=u) λb e=> .inl e) λ_ _ e=>e).trans ((f6 (·=u) rfl).mono (S':=λb=>b=b8\/b=u) λb e=> .inr e) λ_ _ e=>e;have lb8:=r8.lt;have lb10:=aj.lt;refine EP (n:=w'.heap.size) ds w6 (λd ai=>⟨(hd d ai).1,?_⟩) nd λw7 f7 z7=> ?_
  ·have Z:d<W.heap.size:=(akE.1 (hd d ai).2).1;have:=(hd d ai).1;rw[(f6 (·=u) rfl).same d (by omega) (by omega),(f5 (·=b8) rfl).same d Z (by omega)];exact(hd d ai).2
  ·have g5:=r5.fr f7 (by omega);have g6:=r6'.fr f7 (by omega);simp only[sx,g5.cell,g6.cell];have aD:ig w' w7 (λb=>b=b8\/b=u):=fz.trans f7 λx hx e=>by omega
   have hx7:Ext w w7:=x3.new aD λb hb e=>by omega
   rw[aC,ali (by omega)] at J;exact⟨hx7 _,.inr ⟨J,by trivial,hx7⟩⟩
end Go.Proofs.PN
end
section
namespace Go.Proofs.EN
open Gp Go.Proofs
open Gp.Bind (Bnd Slots live GoodB freeN getS In64)
open Gp.Ses (Ses)
variable {w w':θ} {a:EA} {c:Cf} {e:ES}
structure CfM (c:Cf):Prop where
 p1:1<=c.pl.length
 l1:1<=c.lo
 lh:c.lo<=c.hi
 h1:c.hi<65536
 wt:∃A0 A1 A2 A3 A4 A5 A6 A7 A8 A9 A10 A11 A12 A13 A14 A15 A16 A17 A18 A19 A20 A21 A22 A23 A24 A25 A26 A27 A28 A29 A30 A31 A32 A33 A34 A35,c.C=jO A0 A1 A2 A3 A4 A5 A6 A7 A8 A9 A10 A11 A12 A13 A14 A15 A16 A17 A18 A19 A20 A21 A22 A23 A24 A25 A26 A27 A28 A29 A30 A31 A32 A33 A34 A35/\
  (1<=A30/\A30<=2^40)/\(1<=A31/\A31<=2^40)/\(1<=A32/\A32<=2^40)/\(1<=A33/\A33<=2^40)
structure Gd (c:Cf) (e:ES):Prop where
 inv:Inv c e
 sb:∀(k:Nat) (s:Ses),e.SS[k]? =some (some s)->∃(j:Nat) (b:Bnd),s.bd=(j:Int)/\e.S[j]? =some (some b)
 ts:∀id t,mg e.l id=some t->∃(k:Nat) (s:Ses),id=(k:Int)/\e.SS[k]? =some (some s)/\(t.a:Int)=s.un
 st:∀(k:Nat) (s:Ses),e.SS[k]? =some (some s)->∃t,mg e.l (k:Int)=some t
 lc:e.l.length=(Gp.Ses.live 0 e.SS).length
 wn:e.wn=e.now
 le:e.now<=2^40
theorem Ue (h:lS w a c e):oH (some ⟨a.x,0,none⟩) w λr w'=>r=decide (((Gp.Ses.live 0 e.SS).length:Int)>=c.ns)/\Ext w w':=by
 apply GI;have hd:=h.ext (Ext.drew w);simp only[sx,hd.c3,hd.c27];refine cmS1 (SN.aiQ hd.se) ?_;rintro n w1 ⟨rfl,hw⟩;subst hw;exact⟨hd.c27,rfl,Ext.drew w⟩
theorem QE (pr ad po:Int) (w:θ):vJ pr ad po w λx y w'=>x=ad/\y=(if pr=1 then 0 else po)/\Ext w w':=by
 apply U8;refine gU λp w1 r1 e1 z1 f1=> ?_;intro J;have hJ:∀v,v=(if pr=1 then 0 else po)->J v:=λv hv=>by
  simp only[J];refine gZ r1 rfl rfl λw2 r2 f2 z2=> ?_;simp only[sx,r2.cell];exact⟨by trivial,hv,f1.new (f2 (·=p) rfl) λy hy he=>by omega⟩
 clear_value J;by_cases hp:pr=1
 ·subst hp;exact hJ 0 (by simp)
 ·have:(pr==1)=false:=by simp_all
  rw[this,aaf];exact hJ po (by omega)
def VR (e:ES) (bound:Bool) (bd ra rp:Int):Option Int:=if bound then e.M (Bind.keyS [bd,ra,rp]) else none
def aiM (e:ES) (o:Option Int):Int:=match o with
 |none=>0
 |some id=>((Gp.Ses.getS e.SS id).getD SN.abA).st
theorem find_ok (h:lS w a c e) (bd:Int) (bound:Bool) (ra rp:Int) (hq:∀n∈[bd,ra,rp],In64 n) {K:Int->Bool->Int->Bool->Int->Int->Int->b_}
  (hK:∀w',Ext w w'->K bd bound ((VR e bound bd ra rp).getD 0) (VR e bound bd ra rp).isSome (aiM e (VR e bound bd ra rp)) ra rp w'):
  qJ (some ⟨a.x,0,none⟩) bd bound 0 false 0 ra rp w K:=by
 apply Lp;refine gU λp w1 r1 e1 z1 f1=> ?_;refine gU λq w2 r2 e2 z2 f2=> ?_;have O:=r1.ext f2;have x2:=f1.trans f2;have za:=f1.size;have zb:=f2.size;simp -zeta only[sx,Ci,Cs,O.cell]
 cases bound
 ·simp only[afk,abt];refine gZ r2 rfl rfl λw3 r3 f3 z3=> ?_;simp only[sx,r3.cell];exact hK w3 (x2.new (f3 (·=q) rfl) λy hy he=>by omega)
 simp -zeta only[adt,aaf];have xd:=x2.trans (Ext.drew w2);have hd:=h.ext xd;have r1d:=O.drew;simp -zeta only[sx,hd.c3,r1d.cell];refine cmS3 (SN.aa9 hd.se bd ra rp hq) ?_;rintro n t w3 ⟨rfl,rfl,f3⟩;have U:=r1d.ext f3;have e0:VR e true bd ra rp=e.M (Bind.keyS [bd,ra,rp]):=rfl;rw[e0] at hK;generalize e.M (Bind.keyS [bd,ra,rp])=o at hK ⊢;refine iC U rfl (by simp) λw4 r4 f4 z4=> ?_;refine iC r4 rfl (by simp) λw5 r5 f5 z5=> ?_;simp only[ahm,af5] at r5;have f5':=(f4 (·=p) rfl).trans (f5 (·=p) rfl) λ_ _ h=>h;have N:=((xd.trans f3).new f5' λy hy he=>by omega);have R:=(((r2.drew).ext f3).fr f5' (by omega));have hE:=h.ext N;intro J;have hJ:∀v W,Ext w W->v=aiM e o->Row W p [Β bd,.bool true,Β (o.getD 0),.bool o.isSome,Β v,Β ra,Β rp]->Row W q anq->J W:=by
  intro v W hx hv hp hq';simp only[J,sx,hp.cell];refine gZ hq' rfl rfl λw6 r6 f6 z6=> ?_;simp only[sx,r6.cell];rw[hv];exact hK w6 (hx.new (f6 (·=q) rfl) λy hy he=>by omega)
 clear_value J;simp -zeta only[sx,r5.cell]
 cases o with
 |none=>
  simp only[alH,aaf];exact hJ 0 w5 N rfl r5 R
 |some id=>
  simp -zeta only[akt,abt];intro J2;have hJ2:∀(u:Nat) W,Ext w5 W->Row W u [Β ((Gp.Ses.getS e.SS id).getD SN.abA).bd,Β ((Gp.Ses.getS e.SS id).getD SN.abA).st,Β ((Gp.Ses.getS e.SS id).getD SN.abA).un,Β ((Gp.Ses.getS e.SS id).getD SN.abA).ra,Β ((Gp.Ses.getS e.SS id).getD SN.abA).rp]->J2 ⟨u,0,none⟩ W:=by
   intro u W hx hr;simp only[J2,sx,hr.cell];refine iC (r5.ext hx) rfl (by simp) λw6 r6 f6 z6=> ?_;simp only[ahm,af5] at r6;exact hJ _ w6 ((N.trans hx).new (f6 (·=p) rfl) λy hy he=>by omega) rfl r6 ((R.ext hx).fr (f6 (·=p) rfl) (by omega))
  clear_value J2;have I:=Ext.drew w5;have hE5:=hE.ext I;simp only[sx,hE5.c3,r5.drew.cell,alO];refine⟨?_,?_⟩
  ·refine cmS15 (SN.Υ hE5.se id) ?_;rintro a1 a2 a3 a4 a5 r w6 ⟨_,⟨rfl,rfl,rfl,rfl,rfl⟩,f6⟩;refine gU λu w7 r7 e7 z7 f7=> ?_;have x7:=(I.trans f6).trans f7;refine⟨by rw[(r5.ext x7).cell];rfl,(hE.ext x7).c3,?_⟩;refine gZ r7 rfl rfl λw8 r8 f8 z8=> ?_;exact hJ2 u w8 (x7.new (f8 (·=u) rfl) λy hy he=>by have:=(I.trans f6).size;omega) r8
  ·refine gU λu w7 r7 e7 z7 f7=> ?_;have x7:=I.trans f7;refine⟨by rw[(r5.ext x7).cell];rfl,(hE.ext x7).c3,?_⟩;refine cmS15 (SN.Υ (hE.ext x7).se id) ?_;rintro a1 a2 a3 a4 a5 r w6 ⟨_,⟨rfl,rfl,rfl,rfl,rfl⟩,f6⟩;refine gZ (r7.ext f6) rfl rfl λw8 r8 f8 z8=> ?_;exact hJ2 u w8 ((x7.trans f6).new (f8 (·=u) rfl) λy hy he=>by simp_all) r8
end Go.Proofs.EN
end
