import Derived.Test.YtlpncoeijhpddaaGreatDoorW7
import Derived.Shelf.SlSortCmp.WholeK
import Derived.Test.YtlpncoeijhpddaaGreatDoorW3
import Derived.Test.YtlpncoeijhpddaaGreatDoorW2
set_option maxRecDepth 100000
section
namespace Go.Proofs.WN
open Gp Gp.Wh
theorem adE:∀{a b:List Int},a.Nodup->(∀x∈a,x∈b)->a.length<=b.length
 |[],_,_,_=>by simp
 |x::a,b,h,hs=>by
  rw[amm] at h;have hx:=adE (b:=b.erase x) h.2 λy hy=>by
   grind
  grind
theorem ajX {l:PL} {id:Int} {t:Tm} (h:mg l id=some t):id∈l.map (·.1):=by
 refine ame λhn=> ?_;rw[qV.2 hn] at h;cases h
theorem WI.short {now:Nat} {P:Ps} {F:Fs} {l:PL} (h:WI now P F) (hs:∀id t,P id=some t->mg l id=some t) {n k:Nat} (hn:n<7) (hk:k<64):(F n k).length<=l.length:=by
 have:=adE (h.nd n k hn hk) λx hx=>by
  obtain⟨t,ht,rfl⟩:=alp.1 hx;exact ajX (hs _ _ ((h.mem n k t hn hk).1 ht).1)
 simp_all
section
variable {w w':θ} {d m:Nat} {ss:List gG} {l:PL} {now:Nat} {tn most:Int} {F:Fs}
theorem ahl (h:WM w d m ss l now tn most F) (hi:WI now (mg l) F):wE (some ⟨d,0,none⟩) w λr t w'=>Ext w w'/\
  ((t=false/\∀id,mg l id=none)\/(t=true/\∃u,mg l u.id=some u/\r=(u.a:Int)/\now<=u.a/\∀id v,mg l id=some v->u.a<=v.a)):=by
 apply LU;refine g_ (λst W=>W=w/\∃n:Nat,n<=7/\st.1=(n:Int)/\∀n' k',n'<n->k'<64->dg now n'<=k'->F n' k'=[]) (λst _=>7 - st.1.toNat) ⟨rfl,0,by omega,rfl,λn' k' hn=>by omega⟩ ?_;rintro⟨i,⟨⟩⟩ W ⟨rfl,n,hn,O,he⟩ next J
 simp only at O;subst O;by_cases R:(n:Int)<7
 ·rw[aff R,abt];have hn7:n<7:=by omega
  obtain⟨e1,e2⟩:=afW hn7;simp only[sx,h.YS];rw[e1,e2];refine⟨by omega,?_⟩;have hd:=BU now n;refine g_ (λst W'=>W'=W/\∃k:Nat,k<=64/\dg now n<=k/\st.1=(k:Int)/\∀k',k'<k->dg now n<=k'->F n k'=[]) (λst _=>64 - st.1.toNat) ⟨rfl,dg now n,by omega,ajq _,rfl,λk' h1 h2=>by omega⟩ ?_;rintro⟨i,⟨⟩⟩ W' ⟨rfl,k,hk,hdk,U,Z⟩ next' I
  simp only at U;subst U;by_cases Y:(k:Int)<64
  ·rw[aff Y,abt];have hk6:k<64:=by omega
   obtain⟨s,hs,hb⟩:=h.buf n k hn7 hk6;have hsm:=h.sm n k hn7 hk6;simp only[gJ,h_,abu,aiC,h.cs hs];refine⟨by omega,by omega,by omega,by omega,?_⟩;have hbl:=hb.len;by_cases hz:F n k=[]
   ·have:¬((s.len:Int)>0):=by simp_all
    rw[adX this,aaf];rw[Α];refine I _ _ ⟨rfl,k+1,by omega,by omega,by simp,λk' h1 h2=> ?_⟩ (by omega)
    grind
   ·have hpos:=List.length_pos_iff.2 hz;have:((s.len:Int)>0):=by omega
    rw[aff this,abt];refine cmS16 (aj1 (hb.sl qh (by omega)) (by omega) hz) ?_;rintro r0 r1 r2 w3 ⟨f3,t,ht,rfl,N⟩;obtain⟨g1,g2,g3⟩:=hi.next hn7 hk6 he Z ht N
    grind
  ·rw[adX Y,aaf];rw[Α];have:k=64:=by omega
   subst this;refine J _ _ ⟨rfl,n+1,by omega,by simp,λn' k' h1 h2 h3=> ?_⟩ (by omega)
   grind
 ·rw[adX R,aaf];have:n=7:=by omega
  subst this;exact⟨Ext.refl _,.inl ⟨rfl,λid=>hi.none he id⟩⟩
theorem ae7 {F:Fs} {n k:Nat} (h:F n k=[]):xK F n k []=F:=by
 funext n' k';unfold xK
 simp_all
theorem abr (h:WM w d m ss l now tn most F) (hi:WI now (mg l) F) {to:Nat} (h1:now<=to) (h2:to<=2^40) (af:∀id u,mg l id=some u->to<=u.a) (hl:l.length<=2^20):
  oZ (some ⟨d,0,none⟩) (to:Int) w λw'=>ig w w' (qR d m ss)/\∃ss' F',WM w' d m ss' l to tn most F'/\WI to (mg l) F'/\∀b,qR d m ss' b->qR d m ss b\/w.heap.size<=b:=by
 apply Ig;simp only[sx,h.YS];refine cmS1 (aaj hi.nw h2 w) ?_;rintro r w1 ⟨⟨v,rfl,ag⟩,hw⟩;subst hw;have hv7:=ag.lt hi.nw h2;have low:=λ{n k:Nat}=>hi.low (n:=n) (k:=k) h1 af ag;have ah:=BU to v;have hmv:=akK (WI.short hi (λ_ _ e=>e) hv7 ah) hl;refine g_ (λst W=>∃j ss',j<=v/\st.2.1=(j:Int)/\jc 3 eT W st.1 (if j<v then F v (dg to v) else [])/\(∀b,gG.at st.1 b->w1.heap.size<=b)/\(∀b,qR d m ss' b->qR d m ss b)/\ig w1 W (qR d m ss)/\
   WM W d m ss' l now tn most (if j<v then xK F v (dg to v) [] else F)) (λst _=>st.2.1.toNat)
  ⟨v,ss,ajq _,rfl,by rw[acZ (by omega)];exact jc.nil,(λb ⟨o,hb⟩=>by cases hb),λb hb=>hb,ig.refl _ _,by rw[acZ (by omega)];exact h⟩ ?_
 rintro⟨mv,i,⟨⟩⟩ W ⟨j,ss',hj,am,R,an,N,hf,hW⟩ next U
 simp only at am R an;subst am;have mvd:∀b,gG.at mv b->¬qR d m ss' b:=λb hb hx=>by have:=h.lt (N b hx);grind
 by_cases Y:(j:Int)>0
 ·rw[aff Y,abt];have hj7:j<7:=by omega
  obtain⟨e1,e2⟩:=afW hj7;have hd:=BU to j;have ai:=hW.ext (Ext.drew W);obtain⟨s,hs,hb⟩:=ai.buf j (dg to j) hj7 hd;rw[e1,e2];simp only[gJ,h_,abu,aiC,ai.cs hs];refine⟨by omega,by omega,by omega,by omega,by omega,?_⟩;have Z:(if j<v then xK F v (dg to v) [] else F) j (dg to j)=if j<v then [] else F v (dg to v):=by
   by_cases ae:j<v
   ·rw[adZ ae,adZ ae];unfold xK
    simp_all
   grind
  rw[Z] at hb;refine mO qh (R.ext (Ext.drew W)) (hb.sl qh (by omega)) rfl (by omega) Y2 (by split<;>simp only[amn]<;>omega) (by split<;>simp only[amn]<;>omega) λs4 w4 b4 f4 n4=> ?_
  have aj:(if j<v then F v (dg to v) else [])++(if j<v then [] else F v (dg to v))=F v (dg to v):=by split<;>simp
  rw[aj] at b4;have hWz:W.drew.heap.size=W.heap.size:=rfl;have hfz:=hf.size;have f4':∀b,qR d m ss' b->gG.at mv b->gG.at s b:=λb hx hb=>absurd hx (mvd b hb);refine ai.aiH hj7 hd hs f4 f4' jc.nil (λb ⟨o,hb⟩=>by cases hb) (by simp) λw5 h5 f5 z5=> ?_;have hF:xK (if j<v then xK F v (dg to v) [] else F) j (dg to j) []=if j - 1<v then xK F v (dg to v) [] else F:=by
   by_cases ae:j<v
   ·rw[adZ ae,adZ (by omega)];exact ae7 (by simp_all)
   grind
  rw[hF] at h5;have hf4:=(hf.ext (Ext.drew W)).trans f4 λb hb1 hb2=>by have:=an b hb2;omega
  rw[Α];refine U _ _ ⟨j - 1,_,by omega,by grind,?_,?_,?_,hf4.trans f5 λb _ e=> .inl e,h5⟩ (by grind)
  ·simp only;rw[adZ (show j - 1<v by omega)];refine b4.fr f5 λb hb e=> ?_;have az:=h.lt (.inl rfl:qR d m ss d)
   grind
  ·grind
  ·rintro b (hb|hb|⟨q,u,hq,hu⟩)
   ·exact .inl hb
   ·exact .inr (.inl hb)
   ·rw[akQ] at hq;split at hq
    ·split at hq
     ·cases hq;obtain⟨o,ho⟩:=hu;cases ho
     ·cases hq
    ·exact N b (.inr (.inr ⟨q,u,hq,hu⟩))
 ·rw[adX Y,aaf];have:j=0:=by omega
  subst this;have I:=hi.turn h1 h2 af ag;have eM:(if 0<v then F v (dg to v) else [])=if v=0 then [] else F v (dg to v):=by
   grind
  have eF:(if 0<v then xK F v (dg to v) [] else F)=if v=0 then F else xK F v (dg to v) []:=by
   grind
  rw[eM] at R;rw[eF] at hW;have ao:∀t∈(if v=0 then [] else F v (dg to v)),t∈F v (dg to v):=λt ht=>by
   simp_all
  have aq:((if v=0 then [] else F v (dg to v)).map Tm.id).Nodup:=by
   split
   ·simp
   ·exact hi.nd v _ hv7 ah
  have aA:(if v=0 then [] else F v (dg to v)).length<=2^20:=by
   grind
  generalize (if v=0 then [] else F v (dg to v))=Mv at R I ao aq aA
  generalize (if v=0 then F else xK F v (dg to v) [])=F1 at hW I
  simp only[];refine hW.akf to λw5 h5 f5 z5=> ?_;have az:=h.lt (.inl rfl:qR d m ss d);have aa:=R.fr f5 λb hb e=>by grind
  have hf5:=hf.trans f5 λb _ e=> .inl e;have mlt:∀b,gG.at mv b->b<w5.heap.size:=λb hb=>aa.lt hb;have mlen:=R.len;refine g_ (λst W'=>∃i ss2 F2,i<=Mv.length/\st.1=(i:Int)/\WM W' d m ss2 l to tn most F2/\WI to (rest (mg l) (Mv.drop i)) F2/\jc 3 eT W' mv Mv/\ig w1 W' (qR d m ss)/\(∀b,qR d m ss2 b->qR d m ss b\/w5.heap.size<=b)/\w5.heap.size<=W'.heap.size) (λst _=>Mv.length - st.1.toNat)
   ⟨0,ss',F1,by omega,rfl,h5,by simpa using I,aa,hf5,λb hb=> .inl (N b hb),ajq _⟩ ?_
  rintro⟨i,⟨⟩⟩ W' ⟨i,ss2,F2,hin,ar,hW',hI',au,av,J,hsz⟩ next' O
  simp only at ar;subst ar;by_cases aw:(i:Int)<(mv.len:Int)
  ·rw[aff aw,abt];have ab:i<Mv.length:=by omega
   have hx:=adP ab;have ax:=amc ab;generalize Mv[i]=t at hx ax;refine XT (au.sl qh (by omega)) hx λa c0 c1 c2=> ?_;simp only[gJ,gK,c0,c1,c2];refine D5 rfl rfl λp w6 r6 e6 z6 f6=> ?_;simp only[sx,r6.cell];have h6:=hW'.ext f6;have ak:=ao t (als hx);have hp:=((hi.mem v _ t hv7 ah).1 ak).1;have ay:=hi.pl _ _ hp;have aB:∀id u,rest (mg l) (Mv.drop i) id=some u->mg l id=some u:=λid u hu=>(wO.1 hu).1;refine cmS7 (adN h6 h2 t ay.2.2 λn k hn hk=>by have:=WI.short hI' aB hn hk;omega) ?_;rintro w7 ⟨f7,n,ss3,hn7,aC,h7,hsub3⟩;have mvd2:∀b,gG.at mv b->¬qR d m ss2 b:=λb hb hx=>by
    rcases J b hx with g|g
    ·have:=h.lt g;grind
    grind
   have aD:rest (mg l) (Mv.drop i) t.id=none:=by
    unfold rest
    simp_all
   have ac:=hI'.put aD (af _ _ hp) ay.2.2 aC;have aE:t∉Mv.drop (i+1):=by
    intro hx2;have hn2:=aq.sublist ((List.drop_sublist i Mv).map Tm.id)
    grind
   rw[ax,aeU hp (λid u hu=>(hi.pl id u hu).1) aE] at ac;rw[Α];have s6:=f7.size;refine O _ _ ⟨i+1,ss3,_,by omega,by simp,h7,ac,(au.ext f6).fr f7 λb hb hx=>mvd2 b hb hx,(av.ext f6).trans f7 λb hb hx=> ?_,λb hb=> ?_,by omega⟩ (by omega)
   ·rcases J b hx with g|g
    ·exact g
    ·have:=hf5.size;omega
   grind
  ·rw[adX aw,aaf];have:i=Mv.length:=by omega
   subst this;rw[List.drop_length,ag4] at hI';exact⟨av,ss2,F2,hW',hI',λb hb=>by
    rcases J b hb with g|g
    ·exact .inl g
    ·exact .inr (by have:=hf5.size;omega)⟩
structure WS (w:θ) (d m:Nat) (ss:List gG) (l:PL) (now:Nat) (tn most:Int) (F:Fs):Prop where
 wm:WM w d m ss l now tn most F
 wi:WI now (mg l) F
 mo:most<=1048576/\(l.length:Int)<=most
 tb:∀id t,mg l id=some t->t.tn<=tn
 ti:∀id id' t u,mg l id=some t->mg l id'=some u->t.tn=u.tn->id=id'
 t0:0<=tn
theorem WS.ext (h:WS w d m ss l now tn most F) (hf:Ext w w'):WS w' d m ss l now tn most F:=⟨h.wm.ext hf,h.wi,h.mo,h.tb,h.ti,h.t0⟩
theorem WS.fr {S:Nat->Prop} (h:WS w d m ss l now tn most F) (hf:ig w w' S) (hs:∀b,qR d m ss b->¬S b):WS w' d m ss l now tn most F:=⟨h.wm.fr hf hs,h.wi,h.mo,h.tb,h.ti,h.t0⟩
def YK (l:PL) (most id at_:Int):Int:=if id<0\/id>2147483648\/at_<0\/at_>1099511627776 then 1 else if mg l id=none/\most<=(l.length:Int) then 7 else 0
theorem acU (l:PL) (a:Int) (b:Tm):((CS l a b).length:Int)=if mg l a=none then (l.length:Int)+1 else l.length:=by
 have:=congrArg List.length (Tj l a b);rw[aiz] at this;by_cases hm:a∈l.map (·.1)
 ·rw[adZ hm,aiz] at this;rw[acZ (by rw[qV];simp_all),this]
 ·rw[acZ hm,ahP,aiz,am8] at this;rw[adZ (qV.2 hm),this];omega
theorem ajY (l:PL) (t:Tm):mg (CS l t.id t)=G9 (mg l) t.id (some t):=by
 funext id;rw[Ce];rfl
theorem ai0 (h:WS w d m ss l now tn most F) (id at_:Int) (ht:tn<2^62):
  sN (some ⟨d,0,none⟩) id at_ w λe w'=>e=YK l most id at_/\ig w w' (qR d m ss)/\
   ∃ss' F',(∀b,qR d m ss' b->qR d m ss b\/w.heap.size<=b)/\
    WS w' d m ss' (if YK l most id at_=0 then CS l id ⟨id,max at_.toNat now,tn+1⟩ else l) now (if YK l most id at_=0 then tn+1 else tn) most F':=by
 apply NM;have hm:=h.mo;have ab:=h.wi.nw;refine cmS0 (KL h.wm) ?_;rintro _ w2 ⟨rfl,hw⟩;subst hw;simp -zeta only[adt,aaf];intro J6;have h6t:(id<0\/id>2147483648\/at_<0\/at_>1099511627776)->J6 true:=by
  intro hbad;have e:YK l most id at_=1:=by unfold YK;omega
  simp only[J6,abt];rw[e];exact⟨by trivial,ig.refl _ _,ss,F,λb hb=> .inl hb,h⟩
 have h6f:¬(id<0\/id>2147483648\/at_<0\/at_>1099511627776)->J6 false:=by
  intro ae;have eA:YK l most id at_=if mg l id=none/\most<=(l.length:Int) then 7 else 0:=by unfold YK;omega
  simp only[not_or] at ae;simp -zeta only[sx,Ci,J6,h.wm.Ϧ];have key:∀(K:Value->Bool->Prop),(∀v b,(∃t0:Tm,v= .agg ⟨eT t0⟩/\∀t,mg l id=some t->t0=t)->b=(mg l id).isSome->K v b)->FC υ 3 (some m) (Β id) (.agg ⟨anm⟩) w2 K:=by
   intro K hh;refine XQ h.wm.mp eqW id (Zh id) (λhl=>hh _ _ ⟨⟨0,0,0⟩,rfl,λt ht=>by simp_all⟩ (by rw[hl];rfl)) (λb hl=>hh _ _ ⟨b,rfl,λt ht=>by simp_all⟩ (by rw[hl];rfl))
  refine key _ ?_;rintro _ b11 ⟨t0,rfl,ht0⟩ hb11;refine⟨t0.id,(t0.a:Int),t0.tn,rfl,D5 rfl rfl λp w3 r3 e3 z3 f3=> ?_⟩;have hw3:=h.wm.ext f3;intro O;have h18t:mg l id=none/\most<=(l.length:Int)->∀W,Ext w2 W->O true W:=by
   intro R W hx;rw[adZ R] at eA;simp only[O,abt];rw[eA];exact⟨by trivial,hx _,ss,F,λb hb=> .inl hb,h.ext hx⟩
  have h18f:¬(mg l id=none/\most<=(l.length:Int))->∀W,Ext w3 W->O false W:=by
   intro U W hx;rw[acZ U] at eA;simp -zeta only[O,aaf];intro Z;have ac:∀W1 ss1 F1,WM W1 d m ss1 l now tn most F1->WI now (G9 (mg l) id none) F1->ig w2 W1 (qR d m ss)->(∀b,qR d m ss1 b->qR d m ss b\/w2.heap.size<=b)->Z W1:=by
    intro W1 ss1 F1 g1 g2 g3 g4;have htn0:=h.t0;simp only[Z,gJ,gK,g1.ajC];rw[Α];refine g1.ak_ (tn+1) λw4 h4 f4 z4=> ?_;have h4d:=h4.ext (Ext.drew w4);simp only[gJ,gK,h4d.YS,h4d.ajC];refine gU λq w5 r5 e5 z5 f5=> ?_;have h5:=h4d.ext f5;simp only[sx,afp,h5.YS,h5.ajC];refine gZ r5 rfl rfl λw6 r6 f6 z6=> ?_;have f6q:=f6 (·=q) rfl;have hq:∀b,qR d m ss1 b->b≠q:=λb hb=>by have:=h4d.lt hb;omega
    have h6:=(h5.fr f6q hq).ext (Ext.drew w6);have r6d:=r6.drew;simp only[d_,gJ,gK,Dy,h6.Ϧ,r6d.cell];have emax:(if (now:Int)>at_ then (now:Int) else at_)=((max at_.toNat now:Nat):Int):=by
     split<;>omega
    have hT:(Value.agg ⟨[Β id,Β (if (now:Int)>at_ then (now:Int) else at_),Β (tn+1)]⟩:Value)= .agg ⟨eT ⟨id,max at_.toNat now,tn+1⟩⟩:=by rw[emax]
    rw[hT];refine h6.alK ⟨id,max at_.toNat now,tn+1⟩ λw7 h7 f7 z7=> ?_;have af:=hq m (.inr (.inl rfl));have r7:=r6d.fr f7 (λe=>af e.symm);simp only[d_,gJ,gK,r7.cell];rw[emax];have N:max at_.toNat now<=2^40:=by omega
    have Y:∀id' t,G9 (mg l) id none id'=some t->mg l id'=some t:=λid' t hu=>by
     unfold G9 at hu
     simp_all
    refine cmS7 (adN h7 ab ⟨id,max at_.toNat now,tn+1⟩ N λn k hn hk=>by have:=WI.short g2 Y hn hk;omega) ?_;rintro w8 ⟨f8,n,ss8,hn,aa,h8,hs8⟩;have hp:=g2.put (by unfold G9;simp) (by grind) N aa;have eP:G9 (G9 (mg l) id none) id (some ⟨id,max at_.toNat now,tn+1⟩)=mg (CS l id ⟨id,max at_.toNat now,tn+1⟩):=by
     rw[ajY l ⟨id,max at_.toNat now,tn+1⟩];funext id';unfold G9;split<;>rfl
    rw[eP] at hp;have f18:=((((((f4.mono λb e=> .inl e).ext (Ext.drew w4)).ext f5).trans f6q λb hb e=>by
      have h1z:=f4.size;have h2z:w4.drew.heap.size=w4.heap.size:=rfl;omega).ext (Ext.drew w6)).trans f7 λb hb e=> .inr (.inl e)).trans f8 λb _ hb=>hb
    have f28:=g3.trans f18 λb hb hb2=>by
     rcases g4 b hb2 with e|e
     ·exact e
     ·omega
    have s7:w2.heap.size<=w7.heap.size:=by
     have a1:=g3.size
     simp_all;omega
    obtain⟨F8,h8,hp⟩:∃F8,WM w8 d m ss8 (CS l id ⟨id,max at_.toNat now,tn+1⟩) now (tn+1) most F8/\WI now (mg (CS l id ⟨id,max at_.toNat now,tn+1⟩)) F8:=⟨_,h8,hp⟩;refine⟨eA.symm,f28,ss8,F8,λb hb=> ?_,?_⟩
    ·grind
    ·rw[eA,adZ rfl,adZ rfl];refine⟨h8,hp,⟨hm.1,?_⟩,λid' u hu=> ?_,λi1 i2 u1 u2 q1 q2 q3=> ?_,by omega⟩
     ·rw[acU]
      grind
     ·rw[Ce] at hu;split at hu
      ·grind
      ·have:=h.tb id' u hu;omega
     ·rw[Ce] at q1 q2;split at q1
      ·rename_i e1;split at q2
       ·omega
       ·cases q1
        have:=h.tb _ _ q2
        grind
      ·split at q2
       ·cases q2
        have:=h.tb _ _ q1
        grind
       ·exact h.ti _ _ _ _ q1 q2 q3
   clear_value Z;have hW:=hw3.ext hx;have rW:=r3.ext hx;have xW:=f3.trans hx
   cases I:mg l id with
   |none=>
    rw[I] at hb11;rw[hb11,alH,aaf];refine ac W ss F hW ?_ (xW _) λb hb=> .inl hb;have:G9 (mg l) id none=mg l:=by
     funext id';unfold G9
     simp_all
    rw[this];exact h.wi
   |some t=>
    rw[I] at hb11;have:=ht0 t I;subst this;obtain⟨p1,p2,p3⟩:=h.wi.pl id t0 I;rw[hb11,akt,abt];simp only[sx,rW.cell];refine cmS7 (abq hW ab t0 p3) ?_;rintro w4 ⟨f4,n,ss4,hn,aa,h4,hs4⟩;have ag:=h.wi.take I aa;rw[p1] at h4;exact ac w4 ss4 _ h4 ag ((xW _).trans f4 λb _ e=>e) λb hb=>by
     rcases hs4 b hb with e|e
     ·exact .inl e
     ·exact .inr (akK xW.size e)
  clear_value O
  cases I:mg l id with
  |none=>
   rw[I] at hb11;rw[hb11,alH,afk,abt];have hw3d:=hw3.ext (Ext.drew w3);simp only[gJ,gK,Dy,hw3d.Ϧ,hw3d.alu];refine ϗ hw3d.mp ⟨by trivial,?_⟩;by_cases J:(l.length:Int)>=most
   ·rw[aff J];exact h18t ⟨I,J⟩ _ (f3.trans (Ext.drew w3))
   ·rw[adX J];exact h18f (λe=>J e.2) _ (Ext.drew w3)
  |some t=>
   rw[I] at hb11;rw[hb11,akt,adt,aaf];exact h18f (λe=>by simp_all) _ (Ext.drew w3)
 clear_value J6;by_cases c1:id<0
 ·rw[aff c1,abt];exact h6t (.inl c1)
 ·rw[adX c1,aaf];by_cases c2:id>2147483648
  ·rw[aff c2,abt];exact h6t (.inr (.inl c2))
  ·rw[adX c2,aaf];by_cases c3:at_<0
   ·rw[aff c3,abt];exact h6t (.inr (.inr (.inl c3)))
   ·rw[adX c3,aaf];by_cases c4:at_>1099511627776
    ·rw[aff c4];exact h6t (.inr (.inr (.inr c4)))
    ·rw[adX c4];exact h6f (by omega)
end
end Go.Proofs.WN
end
section
namespace Go.Proofs.WN
open Gp Gp.Wh
def agB:Go.Shelf.Ren:=⟨fun|6=>233|15=>278|14=>277|28=>305|29=>306|20=>297|21=>298|22=>299|23=>300|24=>301|25=>302|26=>303|27=>304|46=>318|47=>319|48=>320|49=>321|50=>322|57=>325|n=>n,fun|22=>182|24=>335|25=>351|3=>3|39=>359|0=>0|53=>404|55=>414|4=>4|46=>407|45=>406|50=>133|5=>5|9=>9|66=>425|70=>429|76=>433|77=>434|n=>n,fun|n=>n⟩
theorem alE:SlLaysF0.n6 υ agB:={
 mixed:=by kernel_rfl,
 f6:=⟨Tryz.f233.name,by decide,Tryz.func233.trans (congrArg some (by kernel_rfl))⟩,
 f14:=⟨Tryz.f277.name,by decide,Tryz.func277.trans (congrArg some (by kernel_rfl))⟩,
 f15:=Tryz.func278.trans (congrArg some (by kernel_rfl)),
 f20:=⟨Tryz.f297.name,by decide,Tryz.func297.trans (congrArg some (by kernel_rfl))⟩,
 f21:=⟨Tryz.f298.name,by decide,Tryz.func298.trans (congrArg some (by kernel_rfl))⟩,
 f22:=⟨Tryz.f299.name,by decide,Tryz.func299.trans (congrArg some (by kernel_rfl))⟩,
 f23:=⟨Tryz.f300.name,by decide,Tryz.func300.trans (congrArg some (by kernel_rfl))⟩,
 f24:=⟨Tryz.f301.name,by decide,Tryz.func301.trans (congrArg some (by kernel_rfl))⟩,
 f25:=⟨Tryz.f302.name,by decide,Tryz.func302.trans (congrArg some (by kernel_rfl))⟩,
 f26:=⟨Tryz.f303.name,by decide,Tryz.func303.trans (congrArg some (by kernel_rfl))⟩,
 f27:=⟨Tryz.f304.name,by decide,Tryz.func304.trans (congrArg some (by kernel_rfl))⟩,
 f28:=Tryz.func305.trans (congrArg some (by kernel_rfl)),
 f29:=Tryz.func306.trans (congrArg some (by kernel_rfl)),
 f46:=⟨Tryz.f318.name,by decide,Tryz.func318.trans (congrArg some (by kernel_rfl))⟩,
 f47:=Tryz.func319.trans (congrArg some (by kernel_rfl)),
 f48:=Tryz.func320.trans (congrArg some (by kernel_rfl)),
 f49:=⟨Tryz.f321.name,by decide,Tryz.func321.trans (congrArg some (by kernel_rfl))⟩,
 f50:=⟨Tryz.f322.name,by decide,Tryz.func322.trans (congrArg some (by kernel_rfl))⟩,
 f57:=⟨Tryz.f325.name,by decide,Tryz.func325.trans (congrArg some (by kernel_rfl))⟩,
 t0:=Tryz.underlying0,
 a0:=Tryz.isAgg0,
 z0:=Tryz.sizeOf0,
 v0:=Tryz.zeroValue0,
 t3:=Tryz.underlying3,
 a3:=Tryz.isAgg3,
 z3:=Tryz.sizeOf3,
 v3:=Tryz.zeroValue3,
 t4:=Tryz.underlying4,
 a4:=Tryz.isAgg4,
 z4:=Tryz.sizeOf4,
 v4:=Tryz.zeroValue4,
 t5:=Tryz.underlying5,
 a5:=Tryz.isAgg5,
 z5:=Tryz.sizeOf5,
 v5:=Tryz.zeroValue5,
 t9:=Tryz.underlying9,
 a9:=Tryz.isAgg9,
 z9:=Tryz.sizeOf9,
 v9:=Tryz.zeroValue9,
 t22:=Tryz.underlying182,
 a22:=Tryz.isAgg182,
 z22:=Tryz.sizeOf182,
 v22:=Tryz.zeroValue182,
 t25:=Tryz.underlying351,
 a25:=Tryz.isAgg351,
 z25:=Tryz.sizeOf351,
 v25:=Tryz.zeroValue351,
 t39:=Tryz.underlying359,
 a39:=Tryz.isAgg359,
 z39:=Tryz.sizeOf359,
 v39:=Tryz.zeroValue359,
 t45:=Tryz.underlying406,
 a45:=Tryz.isAgg406,
 z45:=Tryz.sizeOf406,
 v45:=Tryz.zeroValue406,
 t46:=Tryz.underlying407,
 a46:=Tryz.isAgg407,
 z46:=Tryz.sizeOf407,
 v46:=Tryz.zeroValue407,
 t50:=Tryz.underlying133,
 a50:=Tryz.isAgg133,
 z50:=Tryz.sizeOf133,
 v50:=Tryz.zeroValue133,
 t53:=Tryz.underlying404,
 a53:=Tryz.isAgg404,
 z53:=Tryz.sizeOf404,
 v53:=Tryz.zeroValue404,
 t55:=Tryz.underlying414,
 a55:=Tryz.isAgg414,
 z55:=Tryz.sizeOf414,
 v55:=Tryz.zeroValue414,
 t66:=Tryz.underlying425,
 a66:=Tryz.isAgg425,
 z66:=Tryz.sizeOf425,
 v66:=Tryz.zeroValue425,
 t70:=Tryz.underlying429,
 a70:=Tryz.isAgg429,
 z70:=Tryz.sizeOf429,
 v70:=Tryz.zeroValue429,
 t76:=Tryz.underlying433,
 a76:=Tryz.isAgg433,
 z76:=Tryz.sizeOf433,
 v76:=Tryz.zeroValue433,
 t77:=Tryz.underlying434,
 a77:=Tryz.isAgg434,
 z77:=Tryz.sizeOf434,
 v77:=Tryz.zeroValue434}
namespace Srt
open Go.Shelf Go.RowKit Go.Lib Go.Sort
instance :Inhabited Tm:=⟨⟨0,0,0⟩⟩
theorem ahM (t:Tm):∀v∈eT t,v.oneCell'=true:=by
 intro v hv;simp only[eT,agI,ajr,alf] at hv;rcases hv with rfl|rfl|rfl<;>rfl
def cfT (x y:Tm):Int:=YV x.tn y.tn
theorem aib (x y:Tm):ltOf cfT x y=decide (x.tn<y.tn):=by
 unfold ltOf cfT YV;by_cases h1:x.tn<y.tn
 ·simp[h1]
 ·by_cases h2:x.tn>y.tn<;>simp[h1,h2]
theorem swo:SWO (ltOf cfT) where
 irrefl x:=by rw[aib];simp
 trans x y z h1 h2:=by rw[aib] at *;simp at *;omega
 ntrans x y z h1 h2:=by rw[aib] at *;simp at *;omega
theorem closure (x y:Tm) (W:θ):vC x.id x.a x.tn y.id y.a y.tn W λr W'=>r=cfT x y/\∃q os',W'=grow (W.drewN q) os':=by
 apply JG;unfold Ε Al;have r1:Row (W.alloc (.cells ⟨eT x⟩ 335)) W.heap.size (eT x):=Row.new W (eT x) 335;have x2:Ext (W.alloc (.cells ⟨eT x⟩ 335)) ((W.alloc (.cells ⟨eT x⟩ 335)).alloc (.cells ⟨eT y⟩ 335)):=λS=>ig.alloc _ _ S;have r2:=r1.ext x2;have r3:Row ((W.alloc (.cells ⟨eT x⟩ 335)).alloc (.cells ⟨eT y⟩ 335)) (W.alloc (.cells ⟨eT x⟩ 335)).heap.size (eT y):=Row.new _ (eT y) 335;have c1:((W.alloc (.cells ⟨[Β x.id,Β (x.a:Int),Β x.tn]⟩ 335)).alloc (.cells ⟨[Β y.id,Β (y.a:Int),Β y.tn]⟩ 335)).cell? ⟨W.heap.size,2,none⟩=some (Β x.tn):=by
  have:=r2.cell 2;exact this
 have c2:((W.alloc (.cells ⟨[Β x.id,Β (x.a:Int),Β x.tn]⟩ 335)).alloc (.cells ⟨[Β y.id,Β (y.a:Int),Β y.tn]⟩ 335)).cell? ⟨(W.alloc (.cells ⟨[Β x.id,Β (x.a:Int),Β x.tn]⟩ 335)).heap.size,2,none⟩=some (Β y.tn):=by
  have:=r3.cell 2;exact this
 simp only[sx,c1,c2];refine cmS1 (Uc _ _ _) ?_;rintro r W3 ⟨rfl,hw⟩;subst hw;exact⟨rfl,0,_,by rw[alloc_eq_grow,alloc_eq_grow,grow_grow];rfl⟩
theorem lays (blk off size:Nat) (w:θ):CmpLays υ pU #[] eT 3 cfT blk off size w:=by
 intro m os dk _ x y;have h:=closure x y (sortWorldK eT 3 w blk off m dk os);unfold vC at h;have e:(#[.agg (eT x).toArray,.agg (eT y).toArray]++ #[]:Array Value)=⟨[.agg ⟨eT x⟩,.agg ⟨eT y⟩]⟩:=by simp
 rw[e];refine Calls.mono h ?_;rintro e W' ⟨r,he,rfl,hq⟩;exact⟨he,hq⟩
theorem Ya (d:Array Tm) {j:Nat} (hj:j<d.size * 3):(flatK eT 3 d)[j]! =(d.toList.flatMap eT)[j]?.getD default:=by
 rw[get_flatK eT 3 d j hj];have h:j / 3<d.size:=by omega
 have e:=flat_get eT 3 qh d.toList (j / 3) (j % 3) (alV _ (by omega));rw[show j / 3 * 3+j % 3=j by omega] at e;rw[e,Array.getElem?_toList,amq h,getElem!_pos d _ h,Option.bind_some];rw[List.getElem!_eq_getElem?_getD]
theorem P8 {l:List Tm} {j:Nat} (hj:j<l.length * 3):(l.flatMap eT)[j]? =some ((l.flatMap eT)[j]?.getD default):=by
 have hl:=jh eT 3 qh l;rw[adP (by omega)];rfl
theorem holds {w:θ} {b:Nat} {xs:List Tm} {pad:List Value} (hr:Row w b (xs.flatMap eT++pad)):HoldsK eT 3 w b 0 xs.toArray:=by
 intro j hj;rw[size_flatK] at hj;have hl:=jh eT 3 qh xs;simp only[amR] at hj;refine⟨?_,hr.frozen _⟩;rw[ahn,hr.cell,alT (by omega),Ya _ (by simpa using hj),List.toList_toArray];exact P8 hj
theorem row_of {w:θ} {b n:Nat} {xs:List Tm} {pad:List Value} {d':Array Tm} {os:Array Obj} (hr:Row w b (xs.flatMap eT++pad)) (hd:d'.size=xs.length):
  Row (sortWorldK eT 3 w b 0 n d' os) b (d'.toList.flatMap eT++pad)/\ig w (sortWorldK eT 3 w b 0 n d' os) (·=b):=by
 obtain⟨T,ht⟩:=hr;have hb:b<w.heap.size:=(akE.1 ht).1;have hl:=jh eT 3 qh xs;have hl':(d'.toList.flatMap eT).length=d'.size * 3:=by rw[jh eT 3 qh,amM]
 have hh:(sortWorldK eT 3 w b 0 n d' os).heap=w.heap.modify b (onCells (putCells id 0 (flatK eT 3 d')))++os:=rfl;constructor
 ·refine⟨T,?_⟩;rw[hh,anj (by simpa using hb),aly,adZ rfl,ht];have:putCells id 0 (flatK eT 3 d') ⟨xs.flatMap eT++pad⟩=⟨d'.toList.flatMap eT++pad⟩:=by
   apply Array.ext_getElem?;intro k;unfold putCells;rw[Array.getElem?_mapIdx];simp only[size_flatK,Nat.zero_le,afp,ahn,amg,id_eq,List.getElem?_toArray];by_cases hk:k<d'.size * 3
   ·rw[alT (by omega),alT (by omega),P8 (l:=xs) (by omega),ahF,adZ hk,Ya _ hk];exact(P8 (by rw[amM];exact hk)).symm
   ·rw[alh (by omega),alh (by omega),hl,hl',hd]
    cases pad[k - xs.length * 3]? with
    |none=>rfl
    |some v=>rw[ahF,acZ (by rw[<- hd];exact hk)]
  simp only[ahF,onCells,this]
 ·refine⟨?_,λc hc h=> ?_,⟨rfl,rfl,rfl⟩⟩
  ·rw[hh];simp
  ·rw[hh,anj (by simpa using hc),aly,acZ (λe=>h e.symm)]
end Srt
theorem alF (w:θ):Aa (IntKind.u64.wrap ((0:Nat):Int)) w λr w'=>r=0/\w'=w:=by
 apply Qp;have h:wV (IntKind.u64.wrap ((0:Nat):Int)) w λr w'=>r=0/\w'=w:=by
  apply NC;rw[show IntKind.u64.wrap ((0:Nat):Int)=0 from rfl];simp only[show decide ((0:Int)>=4294967296)=false from rfl,show decide ((0:Int)>=65536)=false from rfl,show decide ((0:Int)>=256)=false from rfl,aaf,show IntKind.u8.wrap 0=0 from rfl];exact⟨0,by decide,rfl,rfl,by trivial⟩
 refine cmS1 h ?_;rintro r w' ⟨rfl,hw⟩;exact⟨rfl,hw⟩
theorem alG (s:gG) (lim:Int) (v:Value) (w:θ):ji s 0 ((0:Nat):Int) lim v w λw'=>w'=w:=by
 apply vH;refine g_ (λst W=>W=w/\st.1=0/\st.2.1=0) (λ_ _=>0) ⟨rfl,rfl,rfl⟩ ?_;rintro⟨a,b,c,d,e,⟨⟩⟩ W ⟨rfl,ha,hb⟩ next hnext
 simp only at ha hb;subst ha hb;have:decide ((ο.wrap ((0:Int) - 0))<=12)=true:=rfl;rw[this,abt];have h:jQ s 0 0 v W λw'=>w'=W:=by
  apply qY;refine g_ (λst W'=>W'=W/\st.1=1) (λ_ _=>0) ⟨rfl,rfl⟩ ?_;rintro⟨a,⟨⟩⟩ W' ⟨rfl,ha⟩ next' hnext'
  simp only at ha;subst ha;have:decide ((1:Int)<0)=false:=rfl;rw[this,aaf]
 refine cmS7 h ?_;rintro w' hw;exact hw
open Srt in
theorem ahc {w:θ} {s:gG} {xs:List Tm} (hs:jc 3 eT w s xs) (hl:xs.length<=2^30):
  jk s (Value.func (.func pU) #[] #[]) w λw'=>ig w w' (gG.at s)/\∃ys:List Tm,ys.Perm xs/\ys.Pairwise (λx y=>¬y.tn<x.tn)/\jc 3 eT w' s ys:=by
 by_cases I:s.a=none
 ·have hx:xs=[]:=by
   rcases hs.mem with ⟨_,h,_⟩|⟨b,pad,h,_⟩
   ·exact h
   ·rw[I] at h;cases h
  subst hx;have hlen:s.len=0:=hs.len;apply qX;rw[hlen];refine cmS1 (alF w) ?_;rintro r w' ⟨rfl,hw⟩;subst hw;refine cmS7 (alG s _ _ _) ?_;rintro w' hw;subst hw;exact⟨ig.refl _ _,[],List.Perm.refl _,List.Pairwise.nil,hs⟩
 obtain⟨b,pad,ha,hc,hr⟩:∃b pad,s.a=some ⟨b,0,none⟩/\s.cap * 3=xs.length * 3+pad.length/\Row w b (xs.flatMap eT++pad):=by
  rcases hs.mem with ⟨h,_,_⟩|h
  ·exact absurd h I
  ·exact h
 have hlen:=hs.len;have eg:∀args w,(callFunc 234 args).run υ w= .ok (.enter 234 args) w:=enters_of Tryz.func234 (by kernel_rfl) rfl;have u:=AnyQ.slices_SortFunc alE 3 Tryz.isAgg335 Tryz.sizeOf335 eT qh ahM cfT swo 234 #[] b 0 s.cap xs.toArray w eg (lays b 0 xs.toArray.size w) (holds hr) hr.lt (by rw[amR];omega);unfold jk Δ;rw[ha,hlen];change Calls υ 233 #[.slice (some ⟨b,0,none⟩) xs.length s.cap,.func (.func pU) #[] #[]] w _;refine Calls.mono (show Calls υ 233 #[.slice (some ⟨b,0,none⟩) xs.toArray.size s.cap,.func (.func pU) #[] #[]] w _ from u) ?_;rintro e w' ⟨rfl,d',n,os,⟨hp1,_,hp3⟩,O,rfl⟩;have J:xs.toArray.size=xs.length:=by simp
 have hp1:d'.size=xs.length:=hp1.trans J;rw[J] at hp3;have N:d'.toList.length=xs.length:=hp1;obtain⟨g1,g2⟩:=row_of (n:=n) (os:=os) hr hp1;have e1:(d'.extract 0 xs.length).toList=d'.toList:=by rw[<- hp1];simp
 have e2:(xs.toArray.extract 0 xs.length).toList=xs:=by simp
 rw[e1,e2] at hp3;refine⟨rfl,g2.mono λc R=>⟨0,by rw[ha,R]⟩,d'.toList,hp3,?_,⟨?_,.inr ⟨b,pad,ha,?_,g1⟩⟩⟩
 ·rw[am1];intro i j hi hj U;rw[amM] at hi hj;have:=O i j (Nat.zero_le _) U (by rw[amR];omega);rw[getElem!_pos d' j hj,getElem!_pos d' i hi,aib] at this;simpa using this
 ·rw[hlen];exact N.symm
 ·rw[hc,N]
end Go.Proofs.WN
end
section
namespace Go.Proofs.WN
open Gp Gp.Wh
abbrev eI (x:Int):List Value:=[Β x]
theorem jJ (x:Int):(eI x).length=1:=rfl
theorem IV (x:Int):∀v∈eI x,iP v=true:=by intro v hv;rw[alk.1 hv];rfl
theorem adb {l:PL} {id:Int} {t:Tm} (h:mg l id=some t):(BR l id).length+1=l.length:=by
 induction l with
 |nil=>cases h
 |cons x l ih=>
  unfold BR;unfold mg at h;by_cases hx:id=x.1
  ·rw[adZ hx];simp
  ·rw[acZ hx] at h ⊢;simp only[ajg];have:=ih h;omega
section
variable {w w':θ} {d m:Nat} {ss:List gG} {l:PL} {now:Nat} {tn most:Int} {F:Fs}
def FH (p d now:Nat) (W:θ):Prop:=Row W p [.pointer (some ⟨d,0,none⟩)]/\W.cell? ⟨d,449,none⟩=some (Β (now:Int))
theorem FH.ext {p d now:Nat} {W W':θ} (h:FH p d now W) (hx:Ext W W'):FH p d now W':=⟨h.1.ext hx,kS h.2 hx⟩
theorem aj6 (p d now:Nat):FnT (Value.func (.func KX) #[] #[.pointer (some ⟨p,0,none⟩)]) (FH p d now) (λx=>(x.a:Int) !=(now:Int)):=by
 intro x W K hC hK;refine kJ (by kernel_rfl) ?_;have:Ai x.id x.a x.tn ⟨p,0,none⟩ W λr W'=>r=((x.a:Int) !=(now:Int))/\Ext W W':=by
  apply JE;refine gU λq W1 q1 _ _ g1=> ?_;have y:=g1.trans (Ext.drew W1);have hC':=hC.ext y;simp only[sx,q1.drew.cell,hC'.1.cell,hC'.2];exact⟨by trivial,y⟩
 refine Calls.mono this ?_;rintro e W' ⟨r,he,rfl,hf⟩;exact⟨_,he,hK W' hf⟩
theorem akY (p d now:Nat):FnT (Value.func (.func KY) #[] #[.pointer (some ⟨p,0,none⟩)]) (FH p d now) (λx=>(x.a:Int)==(now:Int)):=by
 intro x W K hC hK;refine kJ (by kernel_rfl) ?_;have:Aj x.id x.a x.tn ⟨p,0,none⟩ W λr W'=>r=((x.a:Int)==(now:Int))/\Ext W W':=by
  apply JF;refine gU λq W1 q1 _ _ g1=> ?_;have y:=g1.trans (Ext.drew W1);have hC':=hC.ext y;simp only[sx,q1.drew.cell,hC'.1.cell,hC'.2];exact⟨by trivial,y⟩
 refine Calls.mono this ?_;rintro e W' ⟨r,he,rfl,hf⟩;exact⟨_,he,hK W' hf⟩
theorem ai1 (h:WS w d m ss l now tn most F):
  xk (some ⟨d,0,none⟩) w λr w'=>ig w w' (qR d m ss)/\∃D:List Tm,D.Pairwise (λx y=>x.tn<y.tn)/\(∀t,t∈D↔mg l t.id=some t/\t.a=now)/\jc 1 eI w' r (D.map Tm.id)/\(∀b,gG.at r b->w.heap.size<=b)/\
   ∃ss' l' F',WS w' d m ss' l' now tn most F'/\(∀id t,mg l' id=some t↔mg l id=some t/\t∉D)/\l'.length+D.length=l.length/\(∀b,qR d m ss' b->qR d m ss b\/w.heap.size<=b)/\(∀b,gG.at r b->¬qR d m ss' b):=by
 apply NQ;refine⟨rfl,gU λp w1 r1 e1 z1 f1=> ?_⟩;have x1:=f1.trans (Ext.drew w1);have h1:=h.ext x1;have r1d:=r1.drew;have hp:∀b,qR d m ss b->b≠p:=λb hb=>by have:=h.wm.lt hb;omega
 simp only[sx,r1d.cell,h1.wm.YS];refine cmS17 (Ws h1.wm h.wi.nw h.wi.nw) ?_;rintro _ w2 ⟨⟨n,hn,ay,rfl⟩,f2⟩;have hn0:n=0:=ay.uniq (Lv.self now);subst hn0;rw[aml,ahn];have x2:=x1.trans f2;have h2:=h.ext x2;have r2:=r1d.ext f2;have hk:=BU now 0;obtain⟨s,hs,hb⟩:=h2.wm.buf 0 (dg now 0) (by omega) hk;rw[aml,ahn] at hs;have az:=akK (WI.short h.wi (λ_ _ e=>e) (show 0<7 by omega) hk) (by have:=h.mo;omega:l.length<=2^20);have ag:∀b,gG.at s b->qR d m ss b:=λb hb=> .inr (.inr ⟨_,s,hs,hb⟩);have all:∀t∈F 0 (dg now 0),t.a=now:=λt ht=>(h.wi.adh.1 ht).2;have s2:FH p d now w2:=⟨r2,h2.wm.YS⟩;simp only[xA,gJ,h_,h2.wm.cs hs];refine cmS2 (oG (hb.sl qh (by omega)) (by omega)) ?_;rintro c3 w3 ⟨f3,b3,n3⟩;have h3:=h2.ext f3;have s3:=s2.ext f3;have hz0:=h.wm.lt (.inl rfl:qR d m ss d);have hx2:=x2.size;have hx3:=f3.size;refine cmS2 (YZ b3 (by omega) (aj6 p d now) λW hf=> ?_) ?_
 ·refine⟨s3.1.fr hf λe=> ?_,Gu s3.2 hf λe=> ?_⟩
  ·have:=n3 p e;have:=r2.lt;omega
  ·have:=n3 d e;omega
 rintro c4 w4 ⟨b4,f4,n4⟩;have e4:(F 0 (dg now 0)).filter (λx=> !((x.a:Int) !=(now:Int)))=F 0 (dg now 0):=ane.2 λt ht=>by rw[all t ht];simp
 rw[e4] at b4;have old3:∀b,b<w2.heap.size->¬gG.at c3 b:=λb hb e=>by have:=n3 b e;omega
 have h4:=h3.fr f4 λb hb e=>old3 b (h2.wm.lt hb) e;have s4:FH p d now w4:=⟨s3.1.fr f4 (old3 p r2.lt),h4.wm.YS⟩;have aA:jc 3 eT w4 s (F 0 (dg now 0)):=(hb.ext f3).fr f4 λb hb' e=>old3 b (hb.lt hb') e;have hs4:=h4.wm.cs hs;simp only[hs4,gJ,h_];refine cmS2 (YZ aA (by omega) (akY p d now) λW hf=>⟨s4.1.fr hf λe=>hp p (ag p e) rfl,Gu s4.2 hf λe=>(h.wm.ne d ⟨_,s,hs,e⟩).1 rfl⟩) ?_;rintro c5 w5 ⟨b5,f5,n5⟩;have e5:(F 0 (dg now 0)).filter (λx=> !((x.a:Int)==(now:Int)))=[]:=List.filter_eq_nil_iff.2 λt ht=>by rw[all t ht];simp
 rw[e5] at b5;rw[show (⟨d,dg now 0,none⟩:Addr)=⟨d,0 * 64+dg now 0,none⟩ by rw[aml,ahn]];refine h4.wm.aiH (n:=0) (k:=dg now 0) (by omega) hk (by rw[aml,ahn];exact hs) (S:=gG.at s) f5 (λb _ hb=>hb) b5 (λb hb=> .inl (n5 b hb)) (by simp) λw6 h6 f6 z6=> ?_;rw[aml,ahn] at h6;have c4new:∀b,gG.at c4 b->w2.heap.size<=b:=λb hb=>n3 b (n4 b hb);have sold:∀b,gG.at s b->b<w2.heap.size:=λb hb'=>hb.lt hb';have aB:jc 3 eT w6 c4 (F 0 (dg now 0)):=((b4.fr f5 λb hb' e=>by have:=c4new b hb';have:=sold b e;omega)).fr f6 λb hb' e=>by have:=c4new b hb';omega
 have aC:ig w w6 (qR d m ss):=(((((x2.trans f3) (qR d m ss)).trans f4 λb hb1 hb2=>by have:=n3 b hb2;omega).trans f5 λb _ e=>ag b e)).trans f6 λb _ e=> .inl e;have sub6:∀b,qR d m (ss.set (dg now 0) c5) b->qR d m ss b:=λb hb'=>by
  rcases hb' with g|g|⟨j,u,hj,hu⟩
  ·exact .inl g
  ·exact .inr (.inl g)
  ·rw[akQ] at hj;split at hj
   ·split at hj
    ·cases hj;exact ag b (n5 b hu)
    ·cases hj
   ·exact .inr (.inr ⟨j,u,hj,hu⟩)
 have r6:Row w6 p [.pointer (some ⟨d,0,none⟩)]:=(s4.1.fr f5 λe=>hp p (ag p e) rfl).fr f6 λe=>hp d (.inl rfl) e.symm;have hz6:w2.heap.size<=w6.heap.size:=by have:=f4.size;have:=f5.size;have:=f6.size;omega
 refine cmS7 (ahc aB (by omega)) ?_;rintro w7 ⟨f7,D,I,N,b7⟩;have lt2:∀b,qR d m (ss.set (dg now 0) c5) b->b<w2.heap.size:=λb hb'=>h2.wm.lt (sub6 b hb');have h7:=h6.fr f7 λb hb' e=>by have:=c4new b e;have:=lt2 b hb';omega
 have r7:=r6.fr f7 λe=>by have:=c4new p e;have:=r2.lt;omega
 have aq:ig w w7 (qR d m ss):=aC.trans f7 λb hb1 e=>by have:=c4new b e;omega
 have ab:∀t,t∈D↔mg l t.id=some t/\t.a=now:=λt=>by rw[I.mem_iff];exact h.wi.adh
 have aj:=h.wi.nd 0 (dg now 0) (by omega) hk;have ar:(D.map Tm.id).Nodup:=(I.map Tm.id).nodup_iff.2 aj;have hDl:D.length<=2^20:=by rw[I.length_eq];exact az
 have ak:D.Pairwise (λx y=>x.tn<y.tn):=by
  rw[am1] at N ⊢;intro i j hi hj au;have q1:=N i j hi hj au;have m1:=(ab D[i]).1 (akU hi);have m2:=(ab D[j]).1 (akU hj);have:D[i].tn≠D[j].tn:=λe=>by
   have Z:=h.ti _ _ _ _ m1.1 m2.1 e;have:=am1.1 ar i j (by simpa using hi) (by simpa using hj) au;simp only[List.getElem_map] at this;exact this Z
  omega
 have clen:=b7.len;have c4lt:∀b,gG.at c4 b->b<w7.heap.size:=λb hb'=>b7.lt hb';refine g_ (λst W=>∃(i:Nat) (l1:PL),i<=D.length/\st.2.1=(i:Int)/\jc 1 eI W st.1 ((D.take i).map Tm.id)/\(∀b,gG.at st.1 b->w7.heap.size<=b)/\WM W d m (ss.set (dg now 0) c5) l1 now tn most (xK F 0 (dg now 0) [])/\
   (∀id t,mg l1 id=some t↔mg l id=some t/\t∉D.take i)/\l1.length+i=l.length/\ig w7 W (·=m)) (λst _=>D.length - st.2.1.toNat)
  ⟨0,l,by omega,rfl,jc.nil,(λb ⟨o,hb'⟩=>by cases hb'),h7,λid t=>by simp,by omega,ig.refl _ _⟩ ?_
 rintro⟨out,i,⟨⟩⟩ W ⟨i,l1,hiD,av,ah,O,am,J,hlen,aa⟩ next ac
 simp only at av ah O;subst av;have ml7:m<w7.heap.size:=h7.lt (.inr (.inl rfl));by_cases aw:(i:Int)<(c4.len:Int)
 ·rw[aff aw,abt];have U:i<D.length:=by omega
  have hx:=adP U;have ai:D.take (i+1)=D.take i++[D[i]]:=akx U;have Y:=akU U;have ae:D[i]∉D.take i:=λaD=>by
   have hn2:=ar;rw[<- aks (i+1) D,ai,al4,al4,amy,amy] at hn2;exact hn2.1.2.2 _ (alp.2 ⟨_,aD,rfl⟩) _ (by simp) rfl
  generalize D[i]=t at hx ai Y ae;have aE:jc 3 eT W c4 D:=b7.fr aa λb hb' e=>by have:=c4new b hb';have:=h2.wm.lt (.inr (.inl rfl):qR d m ss m);omega
  refine XT (aE.sl qh (by omega)) hx λa q0 q1 q2=> ?_;simp only[gJ,gK,q0,q1,q2];refine D5 rfl rfl λq w8 r8 e8 z8 f8=> ?_;have rpW:Row W p [.pointer (some ⟨d,0,none⟩)]:=r7.fr aa λe=>hp m (.inr (.inl rfl)) e.symm;have y8:=f8.trans (Ext.drew w8);have h8:=am.ext y8;have r8d:=r8.drew;simp only[sx,(rpW.ext y8).cell,h8.Ϧ,r8d.cell];refine h8.akO t.id λw9 h9 f9 z9=> ?_;have aF:m≠q:=by have:=aa.size;omega
  have r9:=r8d.fr f9 λe=>aF e.symm;simp only[afe,gJ,gK,r9.cell];refine gU λq2 aG aH e10 z10 f10=> ?_;have aI:ny 1 eI aG ⟨some ⟨q2,0,none⟩,1,1⟩ [t.id]:=(jc.row (xs:=[t.id]) (f:=eI) (n:=1) (by simpa using aH)).sl jJ (by omega);have hbo10:=((ah.ext y8).fr f9 λb hb' e=>by have:=O b hb';omega).ext f10;refine mO jJ hbo10 aI rfl (by omega) IV (by rw[aiz,ajH,am8];omega) (by rw[aiz,ajH,am8];omega) λo11 aJ aK f11 n11=> ?_;have an:mg l1 t.id=some t:=(J t.id t).2 ⟨((ab t).1 Y).1,ae⟩;have aL:=(h9.ext f10).fr f11 λb hb' e=>by
   have:=O b e;have:=h7.lt hb';omega
  have hwz:w8.drew.heap.size=w8.heap.size:=rfl;have f7z:=aa.size;have f8z:=f8.size;have f9z:=f9.size;have f10z:=f10.size;have f711:ig w7 aJ (·=m):=((((aa.ext y8).trans f9 λ_ _ e=>e).ext f10)).trans f11 λb hb1 e=>by have:=O b e;omega
  rw[Α];refine ac _ _ ⟨i+1,_,by omega,by simp,?_,?_,aL,λid u=> ?_,?_,f711⟩ (by simp only;omega)
  ·simp only;rw[ai,al4];exact aK
  ·simp only;intro b hb';rcases n11 b hb' with g|g
   ·exact O b g
   ·omega
  ·rw[Nq am.nd,ai,alj,alk];by_cases Z:id=t.id
   ·rw[adZ Z];constructor
    ·intro hx;cases hx
    ·rintro⟨g1,g2⟩;rw[Z,((ab t).1 Y).1] at g1
     cases g1
     exact absurd (.inr rfl) g2
   ·rw[acZ Z,J];constructor
    ·rintro⟨g1,g2⟩;refine⟨g1,?_⟩;rintro(g|rfl)
     ·exact g2 g
     ·exact Z ((h.wi.pl _ _ g1).1).symm
    ·rintro⟨g1,g2⟩;exact⟨g1,λg=>g2 (.inl g)⟩
  ·have:=adb an;omega
 ·rw[adX aw,aaf];have:i=D.length:=by omega
  subst this;rw[alo] at ah J;have ao:ig w W (qR d m ss):=aq.trans aa λb _ e=> .inr (.inl e);have R:∀u,u∈F 0 (dg now 0)↔u∈D:=λu=>I.mem_iff.symm;have af:rest (mg l) (F 0 (dg now 0))=mg l1:=by
   funext id
   cases hq:mg l1 id with
   |some t=>
    have:=(J id t).1 hq;exact wO.2 ⟨this.1,λe=>this.2 ((R t).1 e)⟩
   |none=>
    cases hr:rest (mg l) (F 0 (dg now 0)) id with
    |none=>rfl
    |some t=>
     have:=wO.1 hr;have:=(J id t).2 ⟨this.1,λe=>this.2 ((R t).2 e)⟩;rw[hq] at this;cases this
  have ax:=h.wi.due;rw[af] at ax;have hout:∀b,gG.at out b->w7.heap.size<=b:=O;have hz7:w.heap.size<=w7.heap.size:=aq.size;refine⟨ao,D,ak,ab,ah,λb hb'=>by have:=O b hb';omega,_,l1,_,⟨am,ax,⟨h.mo.1,by have:=h.mo.2;omega⟩,λid t ht=>h.tb id t ((J id t).1 ht).1,λi1 i2 t u q1 q2 q3=>h.ti i1 i2 t u ((J i1 t).1 q1).1 ((J i2 u).1 q2).1 q3,h.t0⟩,J,by omega,λb hb'=> .inl (sub6 b hb'),λb hb' e=>by have:=O b hb';have:=lt2 b e;have:=f7.size;omega⟩
def ltT (x y:Tm):Prop:=x.a<y.a\/(x.a=y.a/\x.tn<y.tn)
theorem abj (h:WS w d m ss l now tn most F) (a:Int) {T:Nat} (hT:T=max now (min a 1099511627776).toNat):
  sD (some ⟨d,0,none⟩) a w λr w'=>ig w w' (qR d m ss)/\∃D:List Tm,D.Pairwise ltT/\(∀t,t∈D↔mg l t.id=some t/\t.a<=T)/\jc 1 eI w' r (D.map Tm.id)/\(∀b,gG.at r b->w.heap.size<=b)/\
   ∃ss' l' F',WS w' d m ss' l' T tn most F'/\(∀id t,mg l' id=some t↔mg l id=some t/\T<t.a)/\l'.length+D.length=l.length/\(∀b,qR d m ss' b->qR d m ss b\/w.heap.size<=b)/\(∀b,gG.at r b->¬qR d m ss' b):=by
 apply G5;have hnw:=h.wi.nw;have ak:=h.mo;have hT40:T<=2^40:=by omega
 have aq:now<=T:=by omega
 refine cmS0 (KL h.wm) ?_;rintro _ w2 ⟨rfl,hw⟩;subst hw;simp -zeta only[sx,adt,h.wm.YS];have eT':(if (if (1099511627776:Int)<a then 1099511627776 else a)>(now:Int) then (if (1099511627776:Int)<a then 1099511627776 else a) else (now:Int))=(T:Int):=by
  rw[hT];split<;>split<;>omega
 simp -zeta only[eT'];refine g_ (λst W=>∃(O:List Tm) (ss1:List gG) (l1:PL) (n1:Nat) (F1:Fs),WS W d m ss1 l1 n1 tn most F1/\n1<=T/\now<=n1/\jc 1 eI W st.1 (O.map Tm.id)/\(∀b,gG.at st.1 b->w2.heap.size<=b/\¬qR d m ss1 b)/\O.Pairwise ltT/\
   (∀id t,mg l1 id=some t↔mg l id=some t/\t∉O)/\(∀t∈O,mg l t.id=some t/\t.a<=T)/\(∀t∈O,∀id u,mg l1 id=some u->t.a<u.a)/\l1.length+O.length=l.length/\ig w2 W (qR d m ss)/\(∀b,qR d m ss1 b->qR d m ss b\/w2.heap.size<=b))
  (λst W=>st.1.cap * 0+(l.length - st.1.len)) ⟨[],ss,l,now,F,h,aq,ajq _,jc.nil,(λb ⟨o,hb⟩=>by cases hb),List.Pairwise.nil,λid t=>by simp,by simp,by simp,by simp,ig.refl _ _,λb hb=> .inl hb⟩ ?_
 rintro⟨out,⟨⟩⟩ W ⟨O,ss1,l1,n1,F1,hW,hn1,hn0,af,N,am,aa,hO,an,hlen,hf,I⟩ next ab
 simp only at af N;have hl20:l1.length<=2^20:=by omega
 refine cmS3 (ahl hW.wm hW.wi) ?_;rintro r t w3 ⟨f3,ag⟩;have h3:=hW.ext f3;have R:=af.ext f3;have hf3:=hf.ext f3;intro J;have fin:(∀id u,mg l1 id=some u->T<u.a)->J true:=by
  intro U;simp only[J,abt];refine cmS7 (abr h3.wm h3.wi hn1 hT40 (λid u hu=>Nat.le_of_lt (U id u hu)) hl20) ?_;rintro w4 ⟨f4,ss4,F4,h4,hi4,hs4⟩;have hW3:w2.heap.size<=w3.heap.size:=hf3.size;refine⟨hf3.trans f4 λb hb1 hb2=> ?_,O,am,λu=>⟨λhu=>hO u hu,λ⟨g1,g2⟩=> ?_⟩,R.fr f4 λb hb e=>(N b hb).2 e,λb hb=>(N b hb).1,ss4,l1,F4,⟨h4,hi4,⟨ak.1,by omega⟩,h3.tb,h3.ti,h3.t0⟩,λid u=> ?_,hlen,λb hb=> ?_,λb hb e=> ?_⟩
  ·rcases I b hb2 with g|g
   ·exact g
   ·omega
  ·refine ame λhn=> ?_;have:=U _ u ((aa u.id u).2 ⟨g1,hn⟩);omega
  ·rw[aa];constructor
   ·rintro⟨g1,g2⟩;exact⟨g1,U id u ((aa id u).2 ⟨g1,g2⟩)⟩
   ·rintro⟨g1,g2⟩;exact⟨g1,λe=>by have:=(hO u e).2;omega⟩
  ·rcases hs4 b hb with g|g
   ·exact I b g
   ·exact .inr (by omega)
  ·rcases hs4 b e with g|g
   ·exact(N b hb).2 g
   ·have:=af.lt hb;have:=f3.size;omega
 rcases ag with ⟨rfl,ac⟩|⟨rfl,u,hu,rfl,ar,Y⟩
 ·rw[afk,abt];exact fin λid v hv=>by rw[ac id] at hv;cases hv
 ·rw[adt,aaf];by_cases ao:(u.a:Int)>(T:Int)
  ·rw[aff ao];exact fin λid v hv=>by have:=Y id v hv;omega
  ·rw[adX ao];have au:u.a<=T:=by omega
   simp only[J,aaf];refine cmS7 (abr h3.wm h3.wi ar (by omega) Y hl20) ?_;rintro w4 ⟨f4,ss4,F4,h4,hi4,hs4⟩;have ah:WS w4 d m ss4 l1 u.a tn most F4:=⟨h4,hi4,⟨ak.1,by omega⟩,h3.tb,h3.ti,h3.t0⟩;refine cmS2 (ai1 ah) ?_;rintro r5 w5 ⟨f5,D,av,Z,hb5,hn5,ss5,l5,F5,h5,ae,hlen5,hs5,hd5⟩;have ai:=R.fr f4 λb hb e=>(N b hb).2 e;have olt:∀b,gG.at out b->b<w3.heap.size:=λb hb=>R.lt hb;have out4:∀b,gG.at out b->¬qR d m ss4 b:=λb hb e=>by
    rcases hs4 b e with g|g
    ·exact(N b hb).2 g
    ·have:=olt b hb;omega
   have aj:=ai.fr f5 λb hb e=>out4 b hb e;have z3:=hf3.size;have z4:=f4.size;have z5:=f5.size;have hDl:D.length<=2^20:=by omega
   refine mO jJ aj (hb5.sl jJ (by omega)) rfl (by omega) IV (by rw[aiz,aiz];omega) (by rw[aiz,aiz];omega) λo6 w6 b6 f6 n6=> ?_;have f24:ig w2 w4 (qR d m ss):=hf3.trans f4 λb hb1 hb2=>by
    rcases I b hb2 with g|g
    ·exact g
    ·omega
   have f25:ig w2 w5 (qR d m ss):=f24.trans f5 λb hb1 hb2=>by
    rcases hs4 b hb2 with g|g
    ·rcases I b g with g|g
     ·exact g
     ·omega
    ·omega
   have f26:ig w2 w6 (qR d m ss):=f25.trans f6 λb hb1 hb2=>by have:=(N b hb2).1;omega
   have out5:∀b,gG.at out b->¬qR d m ss5 b:=λb hb e=>by
    rcases hs5 b e with g|g
    ·exact out4 b hb g
    ·have:=olt b hb;omega
   have h6:=h5.fr f6 λb hb e=>out5 b e hb;rw[<- al4] at b6;have hD0:0<D.length:=List.length_pos_of_mem ((Z u).2 ⟨by
    have:=(h3.wi.pl _ _ hu).1;rw[this];exact hu,rfl⟩)
   have b6l:=b6.len;have bol:=af.len;rw[aiz] at b6l bol;rw[ahP] at b6l;refine ab _ _ ⟨O++D,ss5,l5,u.a,F5,h6,au,by omega,b6,λb hb=> ?_,?_,λid v=> ?_,λv hv=> ?_,λv hv id x hx=> ?_,by rw[ahP];omega,f26,λb hb=> ?_⟩ (by simp only[Nat.mul_zero,ahn];omega)
   ·rcases n6 b hb with g|g
    ·exact⟨(N b g).1,out5 b g⟩
    ·refine⟨by omega,λe=> ?_⟩;have:=h5.wm.lt e;omega
   ·rw[List.pairwise_append];refine⟨am,av.imp_of_mem λ{x y} hx hy aw=> .inr ⟨?_,aw⟩,λx hx y hy=> .inl ?_⟩
    ·rw[((Z x).1 hx).2,((Z y).1 hy).2]
    ·exact an x hx _ y ((Z y).1 hy).1
   ·rw[ae,aa,alj,not_or,and_assoc]
   ·rcases alj.1 hv with g|g
    ·exact hO v g
    ·obtain⟨g1,g2⟩:=(Z v).1 g;exact⟨((aa _ _).1 g1).1,by omega⟩
   ·obtain⟨q1,q2⟩:=(ae id x).1 hx;rcases alj.1 hv with g|g
    ·exact an v g id x q1
    ·obtain⟨g1,g2⟩:=(Z v).1 g;have:=Y id x q1;have:x.a≠u.a:=λe=>q2 ((Z x).2 ⟨by rw[(h3.wi.pl _ _ q1).1];exact q1,e⟩);omega
   ·rcases hs5 b hb with g|g
    ·rcases hs4 b g with g|g
     ·exact I b g
     ·exact .inr (by omega)
    ·exact .inr (by omega)
end
end Go.Proofs.WN
end
section
namespace Go.Proofs.WN
open Gp Gp.Wh
theorem JW {α β:Type} {enc:α->Value} {ev:β->Value} {w:θ} {K:Addr->b_} (h:∀w1,rV enc ev w1 w.heap.size []->w1.heap.size=w.heap.size+1->Ext w w1->K ⟨w.heap.size,0,none⟩ w1):Al w (.map #[] 0) K:=
 h _ (rV.new w enc ev) (by simp) (λS=>ig.alloc w _ S)
theorem ai3 (n:Int) (hn:0<=n/\n<=1048576) (w:θ):IQ n w λp e w'=>Ext w w'/\e=0/\∃d m ss,p=some ⟨d,0,none⟩/\WS w' d m ss [] 0 0 n (λ_ _=>[])/\∀b,qR d m ss b->w.heap.size<=b:=by
 apply Z7;have c1:¬n<0:=by omega
 have c2:¬n>1048576:=by omega
 simp only[c1,c2,acR,aaf];refine JW (enc:=Ϯ) (ev:=evT) λw4 m4 z4 f4=> ?_;refine gU λd w5 r5 e5 z5 f5=> ?_;have h:∀(i:Nat) (s:gG),(List.replicate 448 (⟨none,0,0⟩:gG))[i]? =some s->s=⟨none,0,0⟩:=λi s hi=>by
  rw[amA] at hi;split at hi
  ·cases hi;rfl
  ·cases hi
 have noat:∀b,¬atS (List.replicate 448 (⟨none,0,0⟩:gG)) b:=λb ⟨i,s,hi,o,hs⟩=>by rw[h i s hi] at hs;cases hs
 refine⟨f4.trans f5,by trivial,d,w.heap.size,List.replicate 448 ⟨none,0,0⟩,rfl,⟨⟨?_,by simp,m4.ext f5,by simp,λn k hn hk=> ?_,λi j s s' b hij hi hj hb=> ?_,λb hb=>absurd hb (noat b),by omega,λ_ _ _ _=>by simp⟩,⟨λid t ht=> ?_,by omega,λn k t hn hk=> ?_,λn k hn hk=>by simp⟩,⟨by omega,by simpa using hn.1⟩,λid t ht=> ?_,λi i' t u ht=> ?_,by omega⟩,λb hb=> ?_⟩
 ·rw[List.map_replicate];exact r5
 ·refine⟨⟨none,0,0⟩,?_,jc.nil⟩;rw[amA,adZ (by omega)]
 ·rw[h i s hi] at hb;obtain⟨o,ho⟩:=hb;cases ho
 ·cases ht
 ·constructor
  ·intro hx;simp at hx
  ·rintro⟨hx,_⟩;cases hx
 ·cases ht
 ·cases ht
 ·rcases hb with rfl|rfl|hb
  ·omega
  ·omega
  ·exact absurd hb (noat b)
end Go.Proofs.WN
end
section
namespace Gp.Pool
end Gp.Pool
namespace Go.Proofs.CN
end Go.Proofs.CN
namespace Go.Proofs.CN
end Go.Proofs.CN
namespace Go.Proofs.CN
end Go.Proofs.CN
namespace Go.Proofs.CN
open Gp
theorem agt (a b:Int):(a==b)=decide (a=b):=rfl
theorem eqP (a b:Int):Fz υ 16 3 (Β a) (Β b)=some (decide (a=b)):=by
 have h:Fz υ 16 3 (Β a) (Β b)=some (a==b):=by kernel_rfl
 rw[h];rfl
theorem ah9 (a:Int):oJ υ 3 (Β a)=true:=by
 unfold oJ;rw[eqP];rfl
theorem zY (k:Int) (w:θ):mX k w λr w'=>r=decide (0<=k/\k<4294967296)/\w'=w:=by
 apply MB;by_cases h:0<=k
 ·simp[h]
 ·simp[h]
end Go.Proofs.CN
namespace Go.Proofs.CN
open Gp
theorem Dh {w w':θ} {S:Nat->Prop} (h:ig w w' S) (l:Nat):ig (gQ w l) (gQ w' l) S:=by
 refine⟨by simpa [gQ] using h.size,λb hb hn=> ?_,h.io⟩;have:=h.same b (by simpa [gQ] using hb) hn;simp only[gQ,aly,this]
end Go.Proofs.CN
namespace Go.Proofs.CN
open Gp
theorem Ϥ {x y a:Int} (hy:0<=y) (hy2:y<=32) (w:θ):yu x y a w λr w'=>r=(decide (0<=a/\a<4294967296) && (jR .i64 a (32 - y)==jR .i64 x (32 - y)))/\Ext w w':=by
 apply OW;refine gU λt w1 r1 e1 z1 f1=> ?_;simp only[sx,r1.cell];refine cmS0 (zY a _) ?_;rintro _ w' ⟨rfl,hw⟩;subst hw;have f2:=f1.trans (Ext.drew w1);by_cases h:0<=a/\a<4294967296
 ·rw[Α];simp only[h,acI,abt,abt,afe,gJ,gK,r1.drew.cell,alQ,Bool.true_and]
  grind
 ·simp only[h,acR,aaf,Bool.false_and];trivial
def adq (a:Int):Prop:=0<=a/\a<4294967296/\(jR .i64 a 24==jR .i64 0 24)=false/\(jR .i64 a 24==jR .i64 2130706432 24)=false/\(jR .i64 a 29==jR .i64 3758096384 29)=false
theorem ah0 {a:Int} (h:adq a) (w:θ):tH a w λr w'=>r=true/\Ext w w':=by
 obtain⟨h1,h2,h3,h4,h5⟩:=h;apply OV;refine cmS0 (zY a _) ?_;rintro _ w' ⟨rfl,hw⟩;subst hw;have hr:(0<=a/\a<4294967296):=⟨h1,h2⟩;simp only[hr,alQ,acI,adt,aaf];refine gU λt w1 r1 e1 z1 f1=> ?_;refine cmS0 (K:=λr w2=>r=false/\Ext w1 w2) ?_ ?_
 ·apply Q_;refine g_ (λst W=>∃j:Nat,j<=3/\st.1=(j:Int)/\Ext w1 W) (λst _=>(3 - st.1).toNat) ⟨0,by omega,rfl,Ext.refl _⟩ ?_;rintro⟨i,⟨⟩⟩ W ⟨j,hj,hi,hx⟩ next u
  simp only at hi;subst hi;have r:=r1.ext hx;by_cases I:j<3
  ·have hl:((j:Int)<((3:Nat):Int)):=by omega
   have J:∃x y:Int,0<=y/\y<=32/\(jR .i64 a (32 - y)==jR .i64 x (32 - y))=false/\W.cell? ⟨t,j * 2,none⟩=some (Β x)/\W.cell? ⟨t,j * 2+1,none⟩=some (Β y):=by
    match j,I with
    |0,_=>exact⟨0,8,by omega,by omega,h3,r.cell 0,r.cell 1⟩
    |1,_=>exact⟨2130706432,8,by omega,by omega,h4,r.cell 2,r.cell 3⟩
    |2,_=>exact⟨3758096384,3,by omega,by omega,h5,r.cell 4,r.cell 5⟩
   obtain⟨x,y,hy,hy2,hs,c0,c1⟩:=J;simp only[sx,hl,acI,abu,c0,c1];refine⟨by omega,by trivial,?_⟩;refine D5 rfl rfl λb w3 r3 e3 z3 x3=> ?_;simp only[sx,r3.cell];refine cmS0 (Ϥ hy hy2 _) ?_;rintro _ w4 ⟨rfl,x4⟩;simp only[hs,Bool.and_false,aaf];rw[Α];exact u _ _ ⟨j+1,by omega,by simp,(hx.trans x3).trans x4⟩ (by omega)
  ·have hl:¬((j:Int)<((3:Nat):Int)):=by omega
   simp only[hl,acR,aaf];trivial
 ·rintro _ w2 ⟨rfl,f2⟩;exact⟨rfl,f1.trans f2⟩
end Go.Proofs.CN
namespace Go.Proofs.CN
open Gp
theorem aji {w:θ} {K:Addr->b_} (h:∀w1,(∀(α:Type) (enc:α->Value),Am enc w1 w.heap.size [])->w1.heap.size=w.heap.size+1->Ext w w1->K ⟨w.heap.size,0,none⟩ w1):Al w (.map #[] 0) K:=
 h _ (λ_ enc=>Am.new w enc) (by simp) (λS=>ig.alloc w _ S)
end Go.Proofs.CN
end
