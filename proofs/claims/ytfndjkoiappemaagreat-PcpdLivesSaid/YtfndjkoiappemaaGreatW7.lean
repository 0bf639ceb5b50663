import Derived.Test.YtfndjkoiappemaaGreatW6
import Derived.Shelf.SlSortCmp.WholeK
import Derived.Test.YtfndjkoiappemaaGreatW3
import Derived.Test.YtfndjkoiappemaaGreatW2
open List (append_assoc filter_append getElem?_append_right getElem?_set getElem_mem length_append length_cons length_map length_nil length_singleton length_take map_append mem_append mem_cons mem_singleton not_mem_nil size_toArray take_add_one)
open Int (toNat_natCast)
open Option (isSome_none isSome_some map_some)
open Array (getElem?_modify length_toList)
set_option maxRecDepth 100000
section
namespace Go.Proofs.WN
open Gp Gp.Wh
abbrev eT (t:Tm):List Value:=[.int .i64 t.id,.int .i64 (t.a:Int),.int .i64 t.tn]
theorem oK (t:Tm):(eT t).length=3:=rfl
theorem Yu (t:Tm):∀v∈eT t,jr v=true:=by
 intro v hv;simp only[eT,mem_cons,not_mem_nil,or_false] at hv;rcases hv with rfl|rfl|rfl<;>rfl
theorem qj {f:FuncId} {cap:Array Value} {sh:List Shape} {args:List Value} {w:World} {K:Value->b_} (hb:uX Tryz.prog f=true) (h:OU Tryz.prog sh f (args++cap.toList) w K):
  lJ Tryz.prog sh (.func (.func f) #[] cap) args w K:=by
 unfold lJ;simp only[hb,cond_true];exact h
theorem SlN_ix {α:Type} {n:Nat} {f:α->List Value} {w:World} {s:iq} {xs:List α} (hn:∀x,(f x).length=n) (hn0:0<n) (h:mY n f w s xs) {i:Int} {K:Addr->Prop} {x:α} (h0:0<=i) (hx:xs[i.toNat]? =some x)
  (hK:∀a:Addr,(∀j v,(f x)[j]? =some v->w.cell? (a.add j)=some v)->K a):iO s n i K:=by
 obtain⟨a,ha,hc⟩:=h.at_ hn hn0 hx;have hlt:=(List.getElem?_eq_some_iff.1 hx).1;obtain⟨sa,sl,sc⟩:=s;simp only at ha;subst ha;have hl:sl=xs.length:=h.len;refine(FY ..).2 ⟨h0,by omega,hK _ λj v hj=> ?_⟩;rw[<- hc j v hj];congr 1;obtain⟨b,o,t⟩:=a;unfold Addr.add;by_cases h1:i.toNat * n=0<;>by_cases h2:j=0<;>simp[h1,h2,Nat.add_assoc]
theorem Xi {w:World} {s:iq} {l:List Tm} (h:mY 3 eT w s l) {k:Nat} {z:Tm} (hk:l[k]? =some z) {K:Addr->Prop} (hK:∀a,w.cell? (a.add 0)=some (.int .i64 z.id)->w.cell? (a.add 1)=some (.int .i64 (z.a:Int))->w.cell? (a.add 2)=some (.int .i64 z.tn)->K a):iO s 3 (k:Int) K:=
 SlN_ix oK (by omega) h (by omega) (by rw[toNat_natCast];exact hk) λa hc=>hK a (hc 0 _ rfl) (hc 1 _ rfl) (hc 2 _ rfl)
theorem Z7 (a:Int) (w:World):qF a w λr w'=>r=false/\w'=w:=by
 apply Ri;exact⟨by simp,rfl⟩
def Ah (a b:Int):Int:=if a<b then -1 else if a>b then 1 else 0
theorem AU (a b:Int) (w:World):jX a b w λr w'=>r=Ah a b/\w'=w:=by
 apply Oi;refine Gg (Z7 _ _) ?_;rintro r w1 ⟨rfl,hw⟩;subst hw;refine Gg (Z7 _ _) ?_;rintro r w1 ⟨rfl,hw⟩;subst hw;unfold Ah;by_cases h1:a<b
 ·simp only[h1,decide_true,cond_true,cond_false,if_true];exact⟨by trivial,by trivial⟩
 ·by_cases h2:a>b
  ·simp only[h1,h2,decide_true,decide_false,cond_true,cond_false,if_true,if_false];exact⟨by trivial,by trivial⟩
  ·simp only[h1,h2,decide_false,cond_false,if_false];exact⟨by trivial,by trivial⟩
def FnT (v:Value) (C:b_) (p:Tm->Bool):Prop:=∀x W (K:Value->b_),C W->(∀W',Ext W W'->K (.bool (p x)) W')->lJ Tryz.prog [.one .bool] v [.agg ⟨eT x⟩] W K
theorem Un {w:World} {s:iq} {xs:List Tm} (hs:mY 3 eT w s xs) (hl:xs.length<=2^30):
  jB s w λr w'=>Ext w w'/\iW 3 eT w' r xs/\∀b,iq.at r b->w.heap.size<=b:=by
 apply vw;have hlen:=hs.len
 cases ha:s.a with
 |none=>
  have hc:=hs.cells;rw[ha] at hc;have h0:xs.flatMap eT=[]:=hc;have u:=jU eT 3 oK xs;rw[h0] at u;have:xs=[]:=by
   cases xs with
   |nil=>rfl
   |cons _ _=>simp only[length_cons,length_nil] at u;omega
  subst this;simp only[Option.isNone_none,cond_true];exact⟨Ext.refl _,iW.nil,λb ⟨o,hb⟩=>by cases hb⟩
 |some a=>
  simp only[Option.isNone_some,cond_false];refine iI λt w1 rt et zt f1=> ?_;have hb:iW 3 eT w1 ⟨some ⟨t,0,none⟩,0,0⟩ ([]:List Tm):=iW.row (xs:=[]) rt;refine iV oK hb (hs.ext f1) rfl (by omega) Yu (by simp only[length_nil];omega) (by simp only[length_nil];omega) λs' w' h1 h2 h3=> ?_;refine⟨f1.new h2 λb hb ⟨o,he⟩=>by cases he;omega,h1,λb hb=> ?_⟩;rcases h3 b hb with ⟨o,he⟩|h
  ·cases he;omega
  ·omega
theorem aiD {w:World} {s:iq} {xs:List Tm} {v:Value} {p:Tm->Bool} {C:b_} (hs:mY 3 eT w s xs) (hl:xs.length<=2^30) (hp:FnT v C p) (hC:∀W,Ext w W->C W):
  jk s v w λr w'=>((r= -1/\xs.any p=false)\/∃j:Nat,r=(j:Int)/\j<xs.length/\(xs.take j).any p=false/\(xs.take (j+1)).filter (λx=> !p x)=xs.take j)/\Ext w w':=by
 apply sZ;have hlen:=hs.len;refine iE (λst W=>∃j:Nat,j<=xs.length/\st.1=(j:Int)/\Ext w W/\(xs.take j).any p=false) (λst _=>(s.len - st.1).toNat) ⟨0,by omega,rfl,Ext.refl _,by simp⟩ ?_;rintro⟨i,⟨⟩⟩ W ⟨j,hj,hi,hx,hm⟩ next h
 simp only at hi;subst hi;by_cases I:(j:Int)<(s.len:Int)
 ·simp only[I,decide_true,cond_true];have u:=List.getElem?_eq_getElem (show j<xs.length by omega);generalize xs[j]=x at u;have J:xs.take (j+1)=xs.take j++[x]:=by rw[take_add_one,u];rfl
  refine Xi (hs.ext hx) u λa c0 c1 c2=> ?_;simp only[sx,c0,c1,c2];refine hp x W _ (hC W hx) λW' hf=>⟨p x,rfl,?_⟩
  cases he:p x
  ·simp only[cond_false];rw[wrap_i64 (by omega) (by omega)];refine h _ _ ⟨j+1,by omega,by simp,hx.trans hf,?_⟩ (by simp only;omega);rw[J,List.any_append,hm,List.any_cons,he,List.any_nil];rfl
  ·simp only[cond_true];refine⟨.inr ⟨j,rfl,by omega,hm,?_⟩,hx.trans hf⟩;rw[J,filter_append,List.filter_eq_self.2 (λy hy=>by have:=List.any_eq_false.1 hm y hy;simpa using this)];simp[he]
 ·simp only[I,decide_false,cond_false];rw[List.take_of_length_le (by omega)] at hm;exact⟨.inl ⟨by trivial,hm⟩,hx⟩
theorem ade {w:World} {b o n c:Nat} {L:List Value} {K:b_} (hr:Row w b L) (ho:o+n * 3<=L.length) (hK:∀w',Row w' b (spl L o (iM [.int .i64 0,.int .i64 0,.int .i64 0] n))->iG w w' (·=b)->K w'):TN [.int .i64 0,.int .i64 0,.int .i64 0] ⟨some ⟨b,o,none⟩,n,c⟩ w K:=by
 have hrl:(iM [Value.int .i64 0,Value.int .i64 0,Value.int .i64 0] n).length=n * 3:=by rw[DF];rfl
 refine⟨?_,by intro v hv;simp only[mem_cons,not_mem_nil,or_false] at hv;rcases hv with rfl|rfl|rfl<;>rfl,?_⟩
 ·rintro a ha
  cases ha
  intro j hj;simp only[length_cons,length_nil] at hj;rw[kK,hr.cell];exact⟨by simp;omega,hr.frozen _⟩
 ·obtain⟨r,f⟩:=DI (iM [Value.int .i64 0,Value.int .i64 0,Value.int .i64 0] n) w L o 0 hr (by omega);refine hK _ ?_ (f (·=b) rfl);simpa [spl] using r
theorem Yq {w:World} {s:iq} {xs:List Tm} {v:Value} {p:Tm->Bool} {C:b_} (hs:iW 3 eT w s xs) (hl:xs.length<=2^30) (hp:FnT v C p) (hC:∀W,iG w W (iq.at s)->C W):
  iP s v w λr w'=>iW 3 eT w' r (xs.filter λx=> !p x)/\iG w w' (iq.at s)/\∀b,iq.at r b->iq.at s b:=by
 apply sQ;have hlen:=hs.len;have ag:=hs.sl oK (by omega);have ac:=ag.cap;refine sW (aiD ag hl hp λW hx=>hC W (hx _)) ?_;rintro r w1 ⟨h,x1⟩;have hs1:=hs.ext x1;rcases h with ⟨rfl,al⟩|⟨i0,rfl,hi0,hany,O⟩
 ·rw[show ((-1:Int)== -1)=true from rfl,cond_true];refine⟨?_,x1 _,λb hb=>hb⟩;rw[List.filter_eq_self.2 (λy hy=>by have:=List.any_eq_false.1 al y hy;simpa using this)];exact hs1
 rw[show ((i0:Int)== -1)=false from beq_eq_false_iff_ne.2 (by omega),cond_false];obtain⟨b,pad,ha,hc,hr⟩:∃b pad,s.a=some ⟨b,0,none⟩/\s.cap * 3=xs.length * 3+pad.length/\Row w1 b (xs.flatMap eT++pad):=by
  rcases hs1.mem with ⟨_,h,_⟩|h
  ·rw[h] at hi0;simp at hi0
  ·exact h
 obtain⟨sa,sl,sc⟩:=s;simp only at ha hc hlen ac;subst ha;subst hlen;rw[wrap_i64 (n:=(i0:Int)+1) (by omega) (by omega)];have ah:∀{W},iG w1 W (·=b)->iG w W (iq.at ⟨some ⟨b,0,none⟩,xs.length,sc⟩):=λhf=>(x1 _).trans (hf.mono λc hc=>⟨0,by rw[hc]⟩) λ_ _ h=>h;have fl3:∀ys:List Tm,(ys.flatMap eT).length=ys.length * 3:=λys=>jU eT 3 oK ys;refine iE (λst W=>∃j:Nat,j<=xs.length/\st.2.1=(j:Int)/\st.1=(((xs.take j).filter λx=> !p x).length:Int)/\((xs.take j).filter λx=> !p x).length<j/\iG w1 W (·=b)/\∃mid,mid.length=(j - ((xs.take j).filter λx=> !p x).length) * 3/\Row W b (((xs.take j).filter λx=> !p x).flatMap eT++(mid++((xs.drop j).flatMap eT++pad))))
  (λst _=>(xs.length - st.2.1).toNat) ⟨i0+1,by omega,by simp,by rw[O,length_take,Nat.min_eq_left (by omega)],by rw[O,length_take];omega,iG.refl _ _,?_⟩ ?_
 ·rw[O,length_take,Nat.min_eq_left (by omega)];refine⟨eT xs[i0],by rw[oK];omega,?_⟩;have:xs.flatMap eT=(xs.take i0).flatMap eT++(eT xs[i0]++(xs.drop (i0+1)).flatMap eT):=by
   conv=>lhs;rw[<- List.take_append_drop i0 xs,List.drop_eq_getElem_cons hi0,List.flatMap_append,List.flatMap_cons]
  rw[this] at hr;simpa only [append_assoc] using hr
 rintro⟨i',j',⟨⟩⟩ W ⟨j,hj,hj1,hi1,hij,hf,mid,U,Y⟩ next N
 simp only at hj1 hi1;subst hj1 hi1;generalize R:(xs.take j).filter (λx=> !p x)=kp at *;by_cases ai:(j:Int)<(xs.length:Int)
 ·rw[decide_eq_true ai,cond_true];intro J;have hx:=List.getElem?_eq_getElem (show j<xs.length by omega);have aj:=List.drop_eq_getElem_cons (show j<xs.length by omega);generalize xs[j]=x at hx aj;have ak:xs.take (j+1)=xs.take j++[x]:=by rw[take_add_one,hx];rfl
  rw[aj,List.flatMap_cons] at Y;have u:∀m,m<3->W.cell? ⟨b,j * 3+m,none⟩=(eT x)[m]? :=by
   intro m hm;rw[Y.cell,getElem?_append_right (by rw[fl3];omega),getElem?_append_right (by rw[fl3];omega),fl3,U,show j * 3+m - kp.length * 3 - (j - kp.length) * 3=m by omega,append_assoc,List.getElem?_append_left (by rw[oK];omega)]
  have q0:=u 0 (by omega);have q1:=u 1 (by omega);have q2:=u 2 (by omega);simp only[Nat.add_zero,eT,d_] at q0 q1 q2;refine(FY _ xs.length sc _ (j:Int) _).2 ⟨by omega,by omega,?_⟩;rw[kK,Nat.zero_add,toNat_natCast];simp -zeta only[sx,q0,q1,q2];refine FX rfl rfl λz w2 r2 e2 z2 f2=> ?_;simp -zeta only[sx,r2.cell];have hf2:=hf.ext f2;refine hp x w2 _ (hC w2 (ah hf2)) λw3 f3=>⟨p x,rfl,?_⟩;have hf3:=hf2.ext f3;have r3:=r2.ext f3;have aa:=(Y.ext f2).ext f3
  cases he:p x
  ·rw[Bool.not_false,cond_true];simp -zeta only[d_,iy,iF,r3.cell];have I:(xs.take (j+1)).filter (λx=> !p x)=kp++[x]:=by rw[ak,filter_append,R];simp[he]
   refine⟨by omega,by omega,?_⟩;rw[toNat_natCast];refine TP (eT x) w3 _ (kp.length * 3) 0 aa (Yu x) (by simp only[length_append,fl3,oK];omega) λW2 rr2 g2 zz2=> ?_;obtain⟨m0,m1,am,hm0⟩:∃m0 m1,mid=m0++m1/\m0.length=3:=⟨mid.take 3,mid.drop 3,(List.take_append_drop ..).symm,by rw[length_take];omega⟩;subst am;have an:∀(A B C D:List Value),B.length=3->A.length=kp.length * 3->(A++(B++C++D)).take (kp.length * 3+0)++eT x++(A++(B++C++D)).drop (kp.length * 3+0+(eT x).length)=A++(eT x++(C++D)):=by
    intro A B C D hB hA;rw[Nat.add_zero,<- hA,List.take_left' rfl,oK,<- hB,<- List.drop_drop,List.drop_left' rfl,append_assoc B,List.drop_left' rfl,append_assoc]
   rw[an _ _ _ _ hm0 (fl3 kp)] at rr2;simp only[J];rw[wrap_i64 (by omega) (by omega),wrap_i64 (by omega) (by omega)];rw[length_append,hm0] at U;refine N _ _ ⟨j+1,by omega,by simp,by rw[I];simp,by rw[I];simp;omega,hf3.trans (g2 (·=b) rfl) λ_ _ e=>e,m1++eT x,by rw[I,length_append,oK,length_append,length_singleton];omega,?_⟩ (by simp only;omega);rw[I,List.flatMap_append];simpa [append_assoc] using rr2
  ·rw[Bool.not_true,cond_false];have I:(xs.take (j+1)).filter (λx=> !p x)=kp:=by rw[ak,filter_append,R];simp[he]
   simp only[J];rw[wrap_i64 (by omega) (by omega)];refine N _ _ ⟨j+1,by omega,by simp,by rw[I],by rw[I];omega,hf3,mid++eT x,by rw[I,length_append,oK];omega,?_⟩ (by simp only;omega);rw[I];simpa only [append_assoc] using aa
 ·rw[decide_eq_false ai,cond_false];have ao:j=xs.length:=by omega
  subst ao;rw[List.take_length] at R;rw[List.drop_length,List.flatMap_nil,List.nil_append] at Y;refine⟨by(try simp only);omega,by(try simp only);omega,by(try simp only);omega,?_⟩
  simp only[toNat_natCast];have aq:sc≠kp.length:=by omega
  have ae:Io (some (⟨b,0,none⟩:Addr)) sc kp.length 3=some ⟨b,kp.length * 3,none⟩:=by
   unfold Io;rw[if_neg aq,map_some,kK,Nat.zero_add]
  rw[ae];refine ade Y (by simp only[length_append,fl3];omega) λW2 r2 g2=> ?_;have ar:(iM [Value.int .i64 0,Value.int .i64 0,Value.int .i64 0] (xs.length - kp.length)).length=(xs.length - kp.length) * 3:=by rw[DF];rfl
  have af:spl (kp.flatMap eT++(mid++pad)) (kp.length * 3) (iM [Value.int .i64 0,Value.int .i64 0,Value.int .i64 0] (xs.length - kp.length))=kp.flatMap eT++(iM [Value.int .i64 0,Value.int .i64 0,Value.int .i64 0] (xs.length - kp.length)++pad):=by
   have:=ahG (A:=kp.flatMap eT) (B:=mid) (C:=pad) (vs:=iM [Value.int .i64 0,Value.int .i64 0,Value.int .i64 0] (xs.length - kp.length)) (by omega);rw[fl3] at this;exact this
  rw[af] at r2;refine⟨by(try simp only);omega,by(try simp only);omega,by(try simp only);omega,?_⟩
  have ab:Io (some (⟨b,0,none⟩:Addr)) sc 0 3=some ⟨b,0,none⟩:=by
   unfold Io;split<;>simp[Addr.add]
  simp only[toNat_natCast,Int.toNat_zero,Nat.sub_zero,ab];refine⟨⟨by rw[R],.inr ⟨b,iM [Value.int .i64 0,Value.int .i64 0,Value.int .i64 0] (xs.length - kp.length)++pad,rfl,?_,?_⟩⟩,ah (hf.trans g2 λ_ _ e=>e),λc hc=> ?_⟩
  ·rw[R,length_append,ar];simp only;omega
  ·rw[R];exact r2
  ·obtain⟨o,e⟩:=hc;exact⟨o,e⟩
theorem aiJ {w:World} {s:iq} {xs:List Tm} (hs:mY 3 eT w s xs) (hl:xs.length<=2^30) (U:xs≠[]):
  jy s (Value.func (.func JM) #[] #[]) w λr0 r1 r2 w'=>Ext w w'/\∃t∈xs,r1=(t.a:Int)/\∀u∈xs,t.a<=u.a:=by
 apply uF;have hlen:=hs.len;have N:0<xs.length:=List.length_pos_iff.2 U;refine iI λp4 w1 r1 e1 z1 f1=> ?_;rw[decide_eq_false (by omega),cond_false];have hx0:=List.getElem?_eq_getElem N;generalize xs[0]=x0 at hx0;refine Xi (k:=0) (hs.ext f1) hx0 λa c0 c1 c2=> ?_;simp -zeta only[sx,c0,c1,c2];refine FX rfl rfl λpm w2 r2 e2 z2 f2=> ?_;have x2:=f1.trans f2;have z1':=f1.size;have z2':=f2.size;refine iE (λst W=>∃j:Nat,j<=xs.length/\st.1=(j:Int)/\iG w2 W (·=pm)/\∃t∈xs,Row W pm (eT t)/\∀u∈xs.take j,t.a<=u.a) (λst _=>(s.len - st.1).toNat)
  ⟨1,by omega,rfl,iG.refl _ _,x0,List.mem_of_getElem? hx0,r2,λu hu=> ?_⟩ ?_
 ·obtain⟨k,hk,he⟩:=List.mem_take_iff_getElem.1 hu;have:k=0:=by omega
  subst this;rw[List.getElem?_eq_getElem N] at hx0;simp only[Option.some.injEq] at hx0;rw[<- he,hx0];exact Nat.le_refl _
 rintro⟨i,⟨⟩⟩ W ⟨j,hj,hi,hf,t,ht,rt,h⟩ next I
 simp only at hi;subst hi;have xW:Ext w W:=x2.new hf λy hy e=>by omega
 by_cases O:(j:Int)<(s.len:Int)
 ·rw[decide_eq_true O,cond_true];intro J;have hx:=List.getElem?_eq_getElem (show j<xs.length by omega);generalize xs[j]=x at hx;have R:xs.take (j+1)=xs.take j++[x]:=by rw[take_add_one,hx];rfl
  have xWd:=xW.trans (Ext.drew W);refine Xi (hs.ext xW) hx λa c0 c1 c2=> ?_;have rtd:=rt.drew;have d0:W.drew.cell? (a.add 0)=_:=c0;have d1:W.drew.cell? (a.add 1)=_:=c1;have d2:W.drew.cell? (a.add 2)=_:=c2;simp -zeta only[sx,d0,d1,d2,rtd.cell];refine qj (by kernel_rfl) ?_;have call:BX x.id x.a x.tn t.id t.a t.tn W.drew λr W'=>r=Ah (x.a:Int) (t.a:Int)/\Ext W.drew W':=by
   apply IW;refine iI λp W1 q1 _ _ g1=>iI λp' W2 q2 _ _ g2=> ?_;have q1:=q1.ext g2;simp only[sx,q1.cell,q2.cell];refine nR (AU _ _ _) ?_;rintro r W3 ⟨rfl,hw⟩;subst hw;exact⟨rfl,g1.trans g2⟩
  refine Calls.mono call ?_;rintro e W3 ⟨r,he,rfl,g3⟩;refine⟨_,he,_,rfl,?_⟩;have hf3:=(hf.ext (Ext.drew W)).ext g3;have xW3:=xWd.trans g3;have rt3:=rtd.ext g3;by_cases hc:x.a<t.a
  ·have hc1:Ah (x.a:Int) (t.a:Int)<0:=by unfold Ah;rw[if_pos (by omega)];omega
   rw[decide_eq_true hc1,cond_true];refine Xi (hs.ext xW3) hx λa c0 c1 c2=> ?_;simp -zeta only[c0,c1,c2,iy,iF];refine iJ rt3 rfl rfl λW4 r4 g4 z4=> ?_;simp only[J];rw[wrap_i64 (by omega) (by omega)];refine I _ _ ⟨j+1,by omega,by simp,hf3.trans (g4 (·=pm) rfl) λ_ _ e=>e,x,List.mem_of_getElem? hx,r4,λu hu=> ?_⟩ (by simp only;omega);rw[R,mem_append,mem_singleton] at hu;rcases hu with hu|rfl
   ·have:=h u hu;omega
   ·omega
  ·have hc1:¬Ah (x.a:Int) (t.a:Int)<0:=by
    unfold Ah;rw[if_neg (by omega)];split<;>omega
   rw[decide_eq_false hc1,cond_false];simp only[J];rw[wrap_i64 (by omega) (by omega)];refine I _ _ ⟨j+1,by omega,by simp,hf3,t,ht,rt3,λu hu=> ?_⟩ (by simp only;omega);rw[R,mem_append,mem_singleton] at hu;rcases hu with hu|rfl
   ·exact h u hu
   ·omega
 ·rw[decide_eq_false O,cond_false];rw[List.take_of_length_le (by omega)] at h;simp only[sx,rt.cell];have r1W:Row W p4 _:=(r1.ext f2).fr hf (by omega);refine iJ r1W rfl rfl λW4 r4 g4 z4=> ?_;simp only[d_,iy,iF,r4.cell];exact⟨xW.new (g4 (·=p4) rfl) λy hy e=>by omega,t,ht,by trivial,h⟩
end Go.Proofs.WN
end
section
namespace Go.Proofs.WN
open Gp Gp.Wh
theorem ahP {a b:Nat} (ha:a<2^63) (hb:b<2^63):acg .i64 (a:Int) (b:Int)=((a^^^b:Nat):Int):=by
 unfold acg;have h1:(BitVec.ofInt (IntKind.bits .i64) (a:Int)).toNat=a:=by rw[NC,BitVec.toNat_ofInt];omega
 have h2:(BitVec.ofInt (IntKind.bits .i64) (b:Int)).toNat=b:=by rw[NC,BitVec.toNat_ofInt];omega
 rw[BitVec.toNat_xor,h1,h2];have:a^^^b<2^63:=Nat.xor_lt_two_pow ha hb;rw[wrap_i64 (by omega) (by omega)]
theorem p64 (n:Nat):2^(6 * n)=64^n:=by rw[Nat.pow_mul]
theorem ac_ (a b n:Nat):(a^^^b) / 64^n=(a / 64^n)^^^(b / 64^n):=by
 rw[<- p64,<- Nat.shiftRight_eq_div_pow,<- Nat.shiftRight_eq_div_pow,<- Nat.shiftRight_eq_div_pow,Nat.shiftRight_xor_distrib]
theorem xor_zero {a b:Nat}:a^^^b=0↔a=b:=by
 constructor
 ·intro h;refine Nat.eq_of_testBit_eq λi=> ?_;have:=congrArg (λx=>Nat.testBit x i) h;simp only[Nat.testBit_xor,Nat.zero_testBit] at this;revert this
  cases a.testBit i<;>cases b.testBit i<;>simp
 ·rintro rfl;exact Nat.xor_self a
theorem aae {now a:Nat} (h1:now<=2^40) (h2:a<=2^40) (w:World):uO now a w λr w'=>(∃n:Nat,r=(n:Int)/\Lv now a n)/\w'=w:=by
 apply VA;rw[ahP (by omega) (by omega)];have hx:now^^^a<2^41:=Nat.xor_lt_two_pow (by omega) (by omega);refine iE (λst W=>W=w/\∃n:Nat,st.1=(n:Int)/\st.2.1=(((now^^^a) / 64^n:Nat):Int)/\n<=7/\(n=0\/now / 64^n≠a / 64^n)) (λst _=>st.2.1.toNat) ⟨rfl,0,rfl,by simp,by omega,.inl rfl⟩ ?_;rintro⟨i,d,⟨⟩⟩ W ⟨rfl,n,hi,hd,hn,J⟩ next u
 simp only at hi hd;subst hi hd;generalize hD:(now^^^a) / 64^n=D;have e1:(now^^^a) / 64^(n+1)=D / 64:=by rw[zT,hD]
 by_cases I:(D:Int)>=64
 ·rw[decide_eq_true I,cond_true];refine⟨by omega,?_⟩;have hD7:n<7:=by
   refine Classical.byContradiction λh=> ?_;have:(now^^^a) / 64^n=0:=by
    refine Nat.div_eq_of_lt (Nat.lt_of_lt_of_le hx ?_)
    calc 2^41<=64^7:=by decide
     _<=64^n:=Nat.pow_le_pow_right (by omega) (by omega)
   omega
  rw[wrap_i64 (by omega) (by omega),show (6:Int)=((6:Nat):Int) from rfl,Ik (by omega)];refine u _ _ ⟨rfl,n+1,by simp,by rw[e1],by omega,.inr λhe=> ?_⟩ (by simp only[toNat_natCast];omega);rw[ac_,he,Nat.xor_self] at e1;omega
 ·rw[decide_eq_false I,cond_false];refine⟨⟨n,rfl,?_,J⟩,rfl⟩;have:D / 64=0:=Nat.div_eq_of_lt (by omega);rw[this,ac_,xor_zero] at e1;exact e1
def Ti (k:Int):Value:= .int .i64 k
def slV (s:iq):Value:= .slice s.a s.len s.cap
def evT (t:Tm):Value:= .agg ⟨eT t⟩
theorem eqW (a b:Int):FH Tryz.prog 16 3 (Ti a) (Ti b)=some (decide (a=b)):=by
 have h:FH Tryz.prog 16 3 (.int .i64 a) (.int .i64 b)=some (a==b):=by kernel_rfl
 rw[Ti,Ti,h];congr 1
theorem abD (a:Int):oQ Tryz.prog 3 (Ti a)=true:=by
 have h:oQ Tryz.prog 3 (.int .i64 a)=true:=by kernel_rfl
 exact h
theorem KQ {α β:Type} [DecidableEq α] {enc:α->Value} {ev:β->Value} {w:World} {r:Nat} {l:List (α×β)} {P:Program} {kt:TypeId} (h:rH enc ev w r l) (hE:∀a b:α,FH P 16 kt (enc a) (enc b)=some (decide (a=b))) (a:α) (hk:oQ P kt (enc a)=true) {z:Value} {K:Value->Bool->Prop}
  (h0:kT l a=none->K z false) (h1:∀b,kT l a=some b->K (ev b) true):EO P kt (some r) (enc a) z w K:=by
 obtain⟨es,c,g1,g2,_⟩:=h;refine⟨hk,.inr ⟨r,es,c,rfl,g1,?_⟩⟩
 cases hl:kT l a with
 |none=>
  cases l with
  |nil=>
   have:es.toList=[]:=by simpa using g2
   exact⟨none,by rw[this];rfl,h0 hl⟩
  |cons x l'=>
   rcases Le hE a x.2 es.toList _ 0 g2 with ⟨_,q2,_⟩|⟨j,v,e,q1,_⟩
   ·exact⟨_,q2,h0 hl⟩
   ·rw[hl] at q1;cases q1
 |some b=>
  rcases Le hE a b es.toList _ 0 g2 with ⟨q1,_,_⟩|⟨j,v,e,q1,q2,_⟩
  ·rw[hl] at q1;cases q1
  ·rw[hl] at q1;cases q1;exact⟨_,q2,h1 b hl⟩
theorem Uf {α β:Type} {enc:α->Value} {ev:β->Value} {w:World} {r:Nat} {l:List (α×β)} (h:rH enc ev w r l) {K:Int->Prop} (hK:K (l.length:Int)):Qw w (some r) K:=by
 obtain⟨es,c,h1,h2,_⟩:=h;refine⟨es,c,h1,?_⟩;have:es.size=l.length:=by
  have:=congrArg List.length h2;simpa using this
 rw[this];exact hK
abbrev PL:=List (Int×Tm)
def atS (ss:List iq) (b:Nat):Prop:=∃(i:Nat) (s:iq),ss[i]? =some s/\iq.at s b
def pz (d m:Nat) (ss:List iq) (b:Nat):Prop:=b=d\/b=m\/atS ss b
structure WM (w:World) (d m:Nat) (ss:List iq) (l:PL) (now:Nat) (tn most:Int) (F:Fs):Prop where
 hd:Row w d (ss.map slV++[.map (some m),.int .i64 (now:Int),.int .i64 tn,.int .i64 most])
 len:ss.length=448
 mp:rH Ti evT w m l
 nd:(l.map (·.1)).Nodup
 buf:∀n k,n<7->k<64->∃s,ss[n * 64+k]? =some s/\iW 3 eT w s (F n k)
 ap:∀(i j:Nat) s s' b,i≠j->ss[i]? =some s->ss[j]? =some s'->iq.at s b->¬iq.at s' b
 ne:∀b,atS ss b->b≠d/\b≠m
 dm:d≠m
 sm:∀n k,n<7->k<64->(F n k).length<=2^21
section
variable {w w':World} {d m:Nat} {ss:List iq} {l:PL} {now:Nat} {tn most:Int} {F:Fs}
theorem WM.fr {S:Nat->Prop} (h:WM w d m ss l now tn most F) (hf:iG w w' S) (hs:∀b,pz d m ss b->¬S b):WM w' d m ss l now tn most F:=
 ⟨h.hd.fr hf (hs _ (.inl rfl)),h.len,h.mp.fr hf (hs _ (.inr (.inl rfl))),h.nd,λn k hn hk=>by
  obtain⟨s,h1,h2⟩:=h.buf n k hn hk;exact⟨s,h1,h2.fr hf λb hb=>hs b (.inr (.inr ⟨_,s,h1,hb⟩))⟩,h.ap,h.ne,h.dm,h.sm⟩
theorem WM.ext (h:WM w d m ss l now tn most F) (hf:Ext w w'):WM w' d m ss l now tn most F:=h.fr (hf λ_=>False) (λ_ _=>by simp)
theorem WM.ahF (h:WM w d m ss l now tn most F) {b:Nat} (hb:atS ss b):∃n k s,n<7/\k<64/\ss[n * 64+k]? =some s/\iq.at s b/\iW 3 eT w s (F n k):=by
 obtain⟨i,s,hi,hs⟩:=hb;have hlt:=(List.getElem?_eq_some_iff.1 hi).1;have hl:=h.len;obtain⟨s',h1,h2⟩:=h.buf (i / 64) (i % 64) (by omega) (by omega);have e:i / 64 * 64+i % 64=i:=by omega
 rw[e,hi] at h1
 cases h1
 exact⟨i / 64,i % 64,s,by omega,by omega,by rw[e];exact hi,hs,h2⟩
theorem WM.lt (h:WM w d m ss l now tn most F) {b:Nat} (hb:pz d m ss b):b<w.heap.size:=by
 rcases hb with rfl|rfl|hb
 ·exact h.hd.lt
 ·exact h.mp.lt
 ·obtain⟨n,k,s,_,_,_,h1,h2⟩:=h.ahF hb;exact h2.lt h1
theorem WM.X9 (h:WM w d m ss l now tn most F):w.cell? ⟨d,448,none⟩=some (.map (some m)):=by
 rw[h.hd.cell,getElem?_append_right (by rw[length_map,h.len];omega),length_map,h.len];rfl
theorem WM.X_ (h:WM w d m ss l now tn most F):w.cell? ⟨d,449,none⟩=some (.int .i64 (now:Int)):=by
 rw[h.hd.cell,getElem?_append_right (by rw[length_map,h.len];omega),length_map,h.len];rfl
theorem WM.aiq (h:WM w d m ss l now tn most F):w.cell? ⟨d,450,none⟩=some (.int .i64 tn):=by
 rw[h.hd.cell,getElem?_append_right (by rw[length_map,h.len];omega),length_map,h.len];rfl
theorem WM.aj7 (h:WM w d m ss l now tn most F):w.cell? ⟨d,451,none⟩=some (.int .i64 most):=by
 rw[h.hd.cell,getElem?_append_right (by rw[length_map,h.len];omega),length_map,h.len];rfl
theorem WM.cs (h:WM w d m ss l now tn most F) {i:Nat} {s:iq} (hi:ss[i]? =some s):w.cell? ⟨d,i,none⟩=some (.slice s.a s.len s.cap):=by
 have u:=(List.getElem?_eq_some_iff.1 hi).1;rw[h.hd.cell,List.getElem?_append_left (by rw[length_map];exact u),List.getElem?_map,hi];rfl
theorem WM.ahC (h:WM w d m ss l now tn most F) {n k:Nat} (hn:n<7) (hk:k<64) {s:iq} (hs:ss[n * 64+k]? =some s) {w1:World} {s':iq} {L:List Tm} {S:Nat->Prop} (hf:iG w w1 S) (hS:∀b,pz d m ss b->S b->iq.at s b)
  (hb:iW 3 eT w1 s' L) (N:∀b,iq.at s' b->iq.at s b\/w.heap.size<=b) (hL:L.length<=2^21) {K:b_}
  (hK:∀w2,WM w2 d m (ss.set (n * 64+k) s') l now tn most (zn F n k L)->iG w1 w2 (·=d)->w2.heap.size=w1.heap.size->K w2):St w1 ⟨d,n * 64+k,none⟩ (.slice s'.a s'.len s'.cap) K:=by
 have hl:=h.len;have O:n * 64+k<ss.length:=by omega
 have atd:¬iq.at s d:=λe=>(h.ne d ⟨_,s,hs,e⟩).1 rfl;have atm:¬iq.at s m:=λe=>(h.ne m ⟨_,s,hs,e⟩).2 rfl;have hd1:=h.hd.fr hf λe=>atd (hS d (.inl rfl) e);have I:∀j,(ss.set (n * 64+k) s')[j]? =if n * 64+k=j then some s' else ss[j]? :=λj=>by
  rw[getElem?_set];split
  ·first|rfl|rw[if_pos O]
  ·rfl
 refine iK hd1 rfl (by rw[length_append,length_map];omega) λw2 r2 f2 z2=> ?_;have f2d:=f2 (·=d) rfl;rw[List.set_append_left _ _ (by rw[length_map];exact O),<- (show (ss.set (n * 64+k) s').map slV=(ss.map slV).set (n * 64+k) (Value.slice s'.a s'.len s'.cap) from List.map_set)] at r2;have s'd:∀b,iq.at s' b->b≠d/\b≠m:=λb hb'=>by
  rcases N b hb' with e|e
  ·exact h.ne b ⟨_,s,hs,e⟩
  ·have q1:=h.lt (.inl rfl:pz d m ss d);have q2:=h.lt (.inr (.inl rfl):pz d m ss m);exact⟨by omega,by omega⟩
 have s'o:∀b j u,j≠n * 64+k->ss[j]? =some u->iq.at u b->¬iq.at s' b:=λb j u hj hu J hb'=>by
  rcases N b hb' with e|e
  ·exact h.ap j _ u s b hj hu hs J e
  ·have:=h.lt (.inr (.inr ⟨j,u,hu,J⟩):pz d m ss b);omega
 refine hK w2 ⟨r2,by rw[List.length_set];exact hl,(h.mp.fr hf λe=>atm (hS m (.inr (.inl rfl)) e)).fr f2d (λe=>h.dm e.symm),h.nd,λn' k' hn' hk'=> ?_,λi j u u' b R hi hj hu hu'=> ?_,λb hb'=> ?_,h.dm,λn' k' hn' hk'=> ?_⟩ f2d z2
 ·rw[I];unfold zn;by_cases e:n'=n/\k'=k
  ·rw[if_pos e,if_pos (by rw[e.1,e.2])];exact⟨s',rfl,hb.fr f2d λb hb'=>(s'd b hb').1⟩
  ·rw[if_neg e,if_neg (by omega)];obtain⟨u,h1,h2⟩:=h.buf n' k' hn' hk';refine⟨u,h1,(h2.fr hf λb J U=> ?_).fr f2d λb J=>(h.ne b ⟨_,u,h1,J⟩).1⟩;exact h.ap _ _ u s b (by omega) h1 hs J (hS b (.inr (.inr ⟨_,u,h1,J⟩)) U)
 ·rw[I] at hi hj;split at hi
  ·rename_i e1;split at hj
   ·omega
   ·rename_i e2
    cases hi
    exact s'o b j u' (by omega) hj hu' hu
  ·rename_i e1;split at hj
   ·cases hj;exact s'o b i u (by omega) hi hu hu'
   ·exact h.ap i j u u' b R hi hj hu hu'
 ·obtain⟨j,u,hj,hu⟩:=hb';rw[I] at hj;split at hj
  ·cases hj;exact s'd b hu
  ·exact h.ne b ⟨j,u,hj,hu⟩
 ·unfold zn;split
  ·exact hL
  ·exact h.sm n' k' hn' hk'
theorem WM.setH (h:WM w d m ss l now tn most F) {now':Nat} {tn':Int} {j:Nat} {v:Value} (hv:jr v=true) (hj:(ss.map slV++[Value.map (some m),Value.int .i64 (now:Int),Value.int .i64 tn,Value.int .i64 most]).set j v=ss.map slV++[Value.map (some m),Value.int .i64 (now':Int),Value.int .i64 tn',Value.int .i64 most]) (hj2:j<452) {K:b_}
  (hK:∀w2,WM w2 d m ss l now' tn' most F->iG w w2 (·=d)->w2.heap.size=w.heap.size->K w2):St w ⟨d,j,none⟩ v K:=by
 refine iK h.hd hv (by rw[length_append,length_map,h.len];exact hj2) λw2 r2 f2 z2=> ?_;rw[hj] at r2;have f2d:=f2 (·=d) rfl;exact hK w2 ⟨r2,h.len,h.mp.fr f2d (λe=>h.dm e.symm),h.nd,λn k hn hk=>by
  obtain⟨s,h1,h2⟩:=h.buf n k hn hk;exact⟨s,h1,h2.fr f2d λb hb=>(h.ne b ⟨_,s,h1,hb⟩).1⟩,h.ap,h.ne,h.dm,h.sm⟩ f2d z2
theorem WM.aiQ (h:WM w d m ss l now tn most F) (now':Nat) {K:b_}
  (hK:∀w2,WM w2 d m ss l now' tn most F->iG w w2 (·=d)->w2.heap.size=w.heap.size->K w2):St w ⟨d,449,none⟩ (.int .i64 (now':Int)) K:=
 h.setH rfl (by rw[List.set_append_right _ _ (by rw[length_map,h.len];omega),length_map,h.len];rfl) (by omega) hK
theorem WM.ajL (h:WM w d m ss l now tn most F) (tn':Int) {K:b_}
  (hK:∀w2,WM w2 d m ss l now tn' most F->iG w w2 (·=d)->w2.heap.size=w.heap.size->K w2):St w ⟨d,450,none⟩ (.int .i64 tn') K:=
 h.setH rfl (by rw[List.set_append_right _ _ (by rw[length_map,h.len];omega),length_map,h.len];rfl) (by omega) hK
theorem WM.akn (h:WM w d m ss l now tn most F) (t:Tm) {K:b_}
  (hK:∀w2,WM w2 d m ss (IB l t.id t) now tn most F->iG w w2 (·=m)->w2.heap.size=w.heap.size->K w2):CU Tryz.prog 3 (some m) (.int .i64 t.id) (.agg ⟨eT t⟩) w K:=
 Ug (enc:=Ti) (ev:=evT) h.mp eqW t.id t (abD _) λw2 g2 f2 z2=>hK w2 ⟨h.hd.fr f2 h.dm,h.len,g2,Qv h.nd _ _,λn k hn hk=>by
  obtain⟨s,h1,h2⟩:=h.buf n k hn hk;exact⟨s,h1,h2.fr f2 λb hb=>(h.ne b ⟨_,s,h1,hb⟩).2⟩,h.ap,h.ne,h.dm,h.sm⟩ f2 z2
theorem WM.ajo (h:WM w d m ss l now tn most F) (id:Int) {K:b_}
  (hK:∀w2,WM w2 d m ss (yx l id) now tn most F->iG w w2 (·=m)->w2.heap.size=w.heap.size->K w2):G_ Tryz.prog 3 (some m) (.int .i64 id) w K:=
 OW (enc:=Ti) (ev:=evT) h.mp eqW id (abD _) λw2 g2 f2 z2=>hK w2 ⟨h.hd.fr f2 h.dm,h.len,g2,h.nd.sublist ((K_ l id).map _),λn k hn hk=>by
  obtain⟨s,h1,h2⟩:=h.buf n k hn hk;exact⟨s,h1,h2.fr f2 λb hb=>(h.ne b ⟨_,s,h1,hb⟩).2⟩,h.ap,h.ne,h.dm,h.sm⟩ f2 z2
theorem G6 (h:WM w d m ss l now tn most F):kE (some ⟨d,0,none⟩) w λr w'=>r=true/\w'=w:=by
 apply KG;simp only[sx,h.X9,Bool.not_false];exact⟨by trivial,by trivial⟩
theorem ahN (h:WM w d m ss l now tn most F):mO (some ⟨d,0,none⟩) w λn w'=>n=(l.length:Int)/\w'=w:=by
 apply OE;refine nX (G6 h) ?_;rintro _ w2 ⟨rfl,hw⟩;subst hw;simp only[sx,Bool.not_true,h.X9];exact Uf h.mp ⟨by trivial,by trivial⟩
theorem ae4 {a n:Nat} (hn:n<7):DY .i64 (mW .i64 (a:Int) (IntKind.i64.wrap (6 * (n:Int)))) 63=((dg a n:Nat):Int)/\IntKind.i64.wrap (6 * (n:Int))=((6 * n:Nat):Int):=by
 have e:IntKind.i64.wrap (6 * (n:Int))=((6 * n:Nat):Int):=by rw[wrap_i64 (by omega) (by omega)];omega
 refine⟨?_,e⟩;rw[e,Ik (by omega),p64];unfold dg;have:∀x:Nat,DY .i64 (x:Int) 63=((x % 64:Nat):Int):=by
  intro x;unfold DY;have h1:(BitVec.ofInt (IntKind.bits .i64) (x:Int)).toNat=x % 2^64:=by rw[NC,BitVec.toNat_ofInt];omega
  have h2:(BitVec.ofInt (IntKind.bits .i64) 63).toNat=2^6 - 1:=by rw[NC,BitVec.toNat_ofInt];rfl
  rw[BitVec.toNat_and,h1,h2,acr,wrap_i64 (by omega) (by omega)];omega
 exact this _
theorem VX (h:WM w d m ss l now tn most F) (h1:now<=2^40) {a:Nat} (h2:a<=2^40):lI (some ⟨d,0,none⟩) (a:Int) w λr w'=>(∃n,n<7/\Lv now a n/\r=some ⟨d,n * 64+dg a n,none⟩)/\Ext w w':=by
 apply M_;simp only[sx,h.X_];refine Jw (aae h1 h2 w) ?_;rintro r w1 ⟨⟨n,rfl,hl⟩,hw⟩;subst hw;have hn:=hl.lt h1 h2;obtain⟨e1,e2⟩:=ae4 (a:=a) hn;have hd:=Eh a n;rw[e1,e2];simp only[toNat_natCast,Nat.mul_one];exact⟨by omega,by omega,by omega,by omega,by omega,⟨n,hn,hl,rfl⟩,Ext.drew _⟩
theorem ac8 (h:WM w d m ss l now tn most F) (h1:now<=2^40) (t:Tm) (h2:t.a<=2^40) (hl:∀n k,n<7->k<64->(F n k).length<2^21):
  oD (some ⟨d,0,none⟩) t.id (t.a:Int) t.tn w λw'=>iG w w' (pz d m ss)/\∃n ss',n<7/\Lv now t.a n/\WM w' d m ss' l now tn most (zn F n (dg t.a n) (F n (dg t.a n)++[t]))/\∀b,pz d m ss' b->pz d m ss b\/w.heap.size<=b:=by
 apply OH;refine iI λp w1 r1 e1 z1 f1=> ?_;have hw1:=h.ext f1;simp only[sx,r1.cell];refine xG (VX hw1 h1 h2) ?_;rintro _ w2 ⟨⟨n,hn,J,rfl⟩,f2⟩;have x2:=f1.trans (f2.trans (Ext.drew w2));have h2w:=h.ext x2;have r2:=(r1.ext f2).drew;have hk:=Eh t.a n;obtain⟨s,hs,hb⟩:=h2w.buf n (dg t.a n) hn hk;have hll:=hl n (dg t.a n) hn hk;simp only[qx,d_,iy,iL,iF,h2w.cs hs,r2.cell];refine iI λq w3 r3 e3 z3 f3=> ?_;have h3:=h2w.ext f3;simp only[true_and,h3.cs hs];have N:mY 3 eT w3 ⟨some ⟨q,0,none⟩,1,1⟩ [t]:=(iW.row (xs:=[t]) (f:=eT) (n:=3) (by simpa using r3)).sl oK (by omega);refine iV oK (hb.ext f3) N rfl (by omega) Yu (by simp only[length_singleton];omega) (by simp only[length_singleton];omega) λs4 w4 b4 f4 n4=> ?_;have x3:=x2.trans f3;refine h3.ahC hn hk hs f4 (λb _ hb=>hb) b4 n4 (by rw[length_append,length_singleton];omega) λw5 h5 f5 z5=> ?_;have I:∀b,iq.at s b->pz d m ss b:=λb hb=> .inr (.inr ⟨_,s,hs,hb⟩);refine⟨((x3 (pz d m ss)).trans (f4.mono I) λ_ _ e=>e).trans f5 λb _ e=> .inl e,n,_,hn,J,h5,λb hb=> ?_⟩;rcases hb with hb|hb|⟨j,u,hj,hu⟩
 ·exact .inl (.inl hb)
 ·exact .inl (.inr (.inl hb))
 ·rw[getElem?_set] at hj;split at hj
  ·split at hj
   ·cases hj
    rcases n4 b hu with e|e
    ·exact .inl (I b e)
    ·exact .inr (Nat.le_trans x3.size e)
   ·cases hj
  ·exact .inl (.inr (.inr ⟨j,u,hj,hu⟩))
theorem aaS (h:WM w d m ss l now tn most F) (h1:now<=2^40) (t:Tm) (h2:t.a<=2^40):
  nO (some ⟨d,0,none⟩) t.id (t.a:Int) t.tn w λw'=>iG w w' (pz d m ss)/\∃n ss',n<7/\Lv now t.a n/\WM w' d m ss' l now tn most (zn F n (dg t.a n) ((F n (dg t.a n)).filter λx=> !(x.id==t.id)))/\∀b,pz d m ss' b->pz d m ss b\/w.heap.size<=b:=by
 apply Na;refine iI λp w1 r1 e1 z1 f1=> ?_;have hw1:=h.ext f1;simp only[sx,r1.cell];refine xG (VX hw1 h1 h2) ?_;rintro _ w2 ⟨⟨n,hn,J,rfl⟩,f2⟩;have x2:=f1.trans f2;have h2w:=h.ext x2;have r2:=r1.ext f2;have hk:=Eh t.a n;obtain⟨s,hs,hb⟩:=h2w.buf n (dg t.a n) hn hk;have N:=h.sm n (dg t.a n) hn hk;have I:∀b,iq.at s b->pz d m ss b:=λb hb=> .inr (.inr ⟨_,s,hs,hb⟩);have hp:∀b,pz d m ss b->b≠p:=λb hb=>by have:=h.lt hb;omega
 simp only[qx,iy,iL,h2w.cs hs];have isId:FnT (Value.func (.func JO) #[] #[.pointer (some ⟨p,0,none⟩)]) (λW=>Row W p (eT t)) (λx=>x.id==t.id):=by
  intro x W K hC hK;refine qj (by kernel_rfl) ?_;have:BZ x.id x.a x.tn ⟨p,0,none⟩ W λr W'=>r=(x.id==t.id)/\Ext W W':=by
   apply IX;refine iI λq W1 q1 _ _ g1=> ?_;simp only[sx,q1.cell,(hC.ext g1).cell];exact⟨by trivial,g1⟩
  refine Calls.mono this ?_;rintro e W' ⟨r,he,rfl,hf⟩;exact⟨_,he,hK W' hf⟩
 refine jW (Yq hb (by omega) isId λW hf=>r2.fr hf λe=>hp p (I p e) rfl) ?_;rintro s4 w4 ⟨b4,f4,n4⟩;refine h2w.ahC hn hk hs f4 (λb _ hb=>hb) b4 (λb hb=> .inl (n4 b hb)) (Nat.le_trans (List.length_filter_le ..) N) λw5 h5 f5 z5=> ?_;refine⟨((x2 (pz d m ss)).trans (f4.mono I) λ_ _ e=>e).trans f5 λb _ e=> .inl e,n,_,hn,J,h5,λb hb=> ?_⟩;rcases hb with hb|hb|⟨j,u,hj,hu⟩
 ·exact .inl (.inl hb)
 ·exact .inl (.inr (.inl hb))
 ·rw[getElem?_set] at hj;split at hj
  ·split at hj
   ·cases hj
    exact .inl (I b (n4 b hu))
   ·cases hj
  ·exact .inl (.inr (.inr ⟨j,u,hj,hu⟩))
end
end Go.Proofs.WN
end
section
namespace Go.Proofs.WN
open Gp Gp.Wh
theorem acZ:∀{a b:List Int},a.Nodup->(∀x∈a,x∈b)->a.length<=b.length
 |[],_,_,_=>by simp
 |x::a,b,h,hs=>by
  rw[List.nodup_cons] at h;have hx:=hs x (by simp);have:=acZ (b:=b.erase x) h.2 λy hy=>by
   have u:y≠x:=λe=>h.1 (e ▸ hy);exact(List.mem_erase_of_ne u).2 (hs y (by simp[hy]))
  rw[List.length_erase_of_mem hx] at this;have:=List.length_pos_of_mem hx;simp only[length_cons];omega
theorem aiG {l:PL} {id:Int} {t:Tm} (h:kT l id=some t):id∈l.map (·.1):=by
 refine Classical.byContradiction λhn=> ?_;rw[wK.2 hn] at h;cases h
theorem WI.short {now:Nat} {P:Ps} {F:Fs} {l:PL} (h:WI now P F) (hs:∀id t,P id=some t->kT l id=some t) {n k:Nat} (hn:n<7) (hk:k<64):(F n k).length<=l.length:=by
 have:=acZ (b:=l.map (·.1)) (h.nd n k hn hk) λx hx=>by
  obtain⟨t,ht,rfl⟩:=List.mem_map.1 hx;exact aiG (hs _ _ ((h.mem n k t hn hk).1 ht).1)
 simpa using this
section
variable {w w':World} {d m:Nat} {ss:List iq} {l:PL} {now:Nat} {tn most:Int} {F:Fs}
theorem agp (h:WM w d m ss l now tn most F) (hi:WI now (kT l) F):qh (some ⟨d,0,none⟩) w λr t w'=>Ext w w'/\
  ((t=false/\∀id,kT l id=none)\/(t=true/\∃u,kT l u.id=some u/\r=(u.a:Int)/\now<=u.a/\∀id v,kT l id=some v->u.a<=v.a)):=by
 apply MZ;refine iE (λst W=>W=w/\∃n:Nat,n<=7/\st.1=(n:Int)/\∀n' k',n'<n->k'<64->dg now n'<=k'->F n' k'=[]) (λst _=>7 - st.1.toNat) ⟨rfl,0,by omega,rfl,λn' k' hn=>by omega⟩ ?_;rintro⟨i,⟨⟩⟩ W ⟨rfl,n,hn,R,he⟩ next J
 simp only at R;subst R;by_cases U:(n:Int)<7
 ·rw[decide_eq_true U,cond_true];have hn7:n<7:=by omega
  obtain⟨e1,e2⟩:=ae4 (a:=now) hn7;simp only[sx,h.X_];rw[e1,e2];refine⟨by omega,?_⟩;have hd:=Eh now n;refine iE (λst W'=>W'=W/\∃k:Nat,k<=64/\dg now n<=k/\st.1=(k:Int)/\∀k',k'<k->dg now n<=k'->F n k'=[]) (λst _=>64 - st.1.toNat) ⟨rfl,dg now n,by omega,Nat.le_refl _,rfl,λk' h1 h2=>by omega⟩ ?_;rintro⟨i,⟨⟩⟩ W' ⟨rfl,k,hk,hdk,Y,N⟩ next' I
  simp only at Y;subst Y;by_cases aa:(k:Int)<64
  ·rw[decide_eq_true aa,cond_true];have hk6:k<64:=by omega
   obtain⟨s,hs,hb⟩:=h.buf n k hn7 hk6;have hsm:=h.sm n k hn7 hk6;simp only[iy,iL,toNat_natCast,Nat.mul_one,h.cs hs];refine⟨by omega,by omega,by omega,by omega,?_⟩;have ab:=hb.len;by_cases hz:F n k=[]
   ·have:¬((s.len:Int)>0):=by rw[ab,hz];simp
    rw[decide_eq_false this,cond_false];rw[wrap_i64 (by omega) (by omega)];refine I _ _ ⟨rfl,k+1,by omega,by omega,by simp,λk' h1 h2=> ?_⟩ (by simp only;omega);rcases Nat.lt_or_ge k' k with g|g
    ·exact N k' g h2
    ·have:k'=k:=by omega
     rw[this];exact hz
   ·have hpos:=List.length_pos_iff.2 hz;have:((s.len:Int)>0):=by omega
    rw[decide_eq_true this,cond_true];refine uy (aiJ (hb.sl oK (by omega)) (by omega) hz) ?_;rintro r0 r1 r2 w3 ⟨f3,t,ht,rfl,O⟩;obtain⟨g1,g2,g3⟩:=hi.next hn7 hk6 he N ht O
    exact⟨f3,.inr ⟨by trivial,t,g1,rfl,g2,g3⟩⟩
  ·rw[decide_eq_false aa,cond_false];rw[wrap_i64 (by omega) (by omega)];have:k=64:=by omega
   subst this;refine J _ _ ⟨rfl,n+1,by omega,by simp,λn' k' h1 h2 h3=> ?_⟩ (by simp only;omega);rcases Nat.lt_or_ge n' n with g|g
   ·exact he n' k' g h2 h3
   ·have:n'=n:=by omega
    subst this;exact N k' h2 h3
 ·rw[decide_eq_false U,cond_false];have:n=7:=by omega
  subst this;exact⟨Ext.refl _,.inl ⟨rfl,λid=>hi.none he id⟩⟩
theorem aed {F:Fs} {n k:Nat} (h:F n k=[]):zn F n k []=F:=by
 funext n' k';unfold zn;split
 ·rename_i e;rw[e.1,e.2,h]
 ·rfl
theorem aaT (h:WM w d m ss l now tn most F) (hi:WI now (kT l) F) {to:Nat} (h1:now<=to) (h2:to<=2^40) (aj:∀id u,kT l id=some u->to<=u.a) (hl:l.length<=2^20):
  lU (some ⟨d,0,none⟩) (to:Int) w λw'=>iG w w' (pz d m ss)/\∃ss' F',WM w' d m ss' l to tn most F'/\WI to (kT l) F'/\∀b,pz d m ss' b->pz d m ss b\/w.heap.size<=b:=by
 apply IY;simp only[sx,h.X_];refine Jw (aae hi.nw h2 w) ?_;rintro r w1 ⟨⟨v,rfl,ak⟩,hw⟩;subst hw;have hv7:=ak.lt hi.nw h2;have low:=λ{n k:Nat}=>hi.low (n:=n) (k:=k) h1 aj ak;have al:=Eh to v;have aA:(F v (dg to v)).length<=2^20:=Nat.le_trans (WI.short hi (λ_ _ e=>e) hv7 al) hl;refine iE (λst W=>∃j ss',j<=v/\st.2.1=(j:Int)/\iW 3 eT W st.1 (if j<v then F v (dg to v) else [])/\(∀b,iq.at st.1 b->w1.heap.size<=b)/\(∀b,pz d m ss' b->pz d m ss b)/\iG w1 W (pz d m ss)/\
   WM W d m ss' l now tn most (if j<v then zn F v (dg to v) [] else F)) (λst _=>st.2.1.toNat)
  ⟨v,ss,Nat.le_refl _,rfl,by rw[if_neg (by omega)];exact iW.nil,(λb ⟨o,hb⟩=>by cases hb),λb hb=>hb,iG.refl _ _,by rw[if_neg (by omega)];exact h⟩ ?_
 rintro⟨mv,i,⟨⟩⟩ W ⟨j,ss',hj,aq,aa,R,U,hf,hW⟩ next ab
 simp only at aq aa R;subst aq;have mvd:∀b,iq.at mv b->¬pz d m ss' b:=λb hb hx=>by have:=h.lt (U b hx);have:=R b hb;omega
 by_cases ac:(j:Int)>0
 ·rw[decide_eq_true ac,cond_true];have hj7:j<7:=by omega
  obtain⟨e1,e2⟩:=ae4 (a:=to) hj7;have hd:=Eh to j;have am:=hW.ext (Ext.drew W);obtain⟨s,hs,hb⟩:=am.buf j (dg to j) hj7 hd;rw[e1,e2];simp only[iy,iL,toNat_natCast,Nat.mul_one,am.cs hs];refine⟨by omega,by omega,by omega,by omega,by omega,?_⟩;have O:(if j<v then zn F v (dg to v) [] else F) j (dg to j)=if j<v then [] else F v (dg to v):=by
   by_cases N:j<v
   ·rw[if_pos N,if_pos N];unfold zn;rw[if_neg (by omega)];exact low N hj7 hd
   ·have:j=v:=by omega
    subst this;rw[if_neg N,if_neg N]
  rw[O] at hb;refine iV oK (aa.ext (Ext.drew W)) (hb.sl oK (by omega)) rfl (by omega) Yu (by split<;>simp only[length_nil]<;>omega) (by split<;>simp only[length_nil]<;>omega) λs4 w4 b4 f4 n4=> ?_
  have an:(if j<v then F v (dg to v) else [])++(if j<v then [] else F v (dg to v))=F v (dg to v):=by split<;>simp
  rw[an] at b4;have hWz:W.drew.heap.size=W.heap.size:=rfl;have hfz:=hf.size;have f4':∀b,pz d m ss' b->iq.at mv b->iq.at s b:=λb hx hb=>absurd hx (mvd b hb);refine am.ahC hj7 hd hs (s':=⟨none,0,0⟩) (L:=[]) f4 f4' iW.nil (λb ⟨o,hb⟩=>by cases hb) (by simp) λw5 h5 f5 z5=> ?_;have hF:zn (if j<v then zn F v (dg to v) [] else F) j (dg to j) []=if j - 1<v then zn F v (dg to v) [] else F:=by
   by_cases N:j<v
   ·rw[if_pos N,if_pos (by omega)];exact aed (by rw[<- if_pos (c:=j<v) N (t:=zn F v (dg to v) []) (e:=F),O,if_pos N])
   ·have:j=v:=by omega
    subst this;rw[if_neg N,if_pos (by omega)]
  rw[hF] at h5;have hf4:iG w1 w4 (pz d m ss):=(hf.ext (Ext.drew W)).trans f4 λb hb1 hb2=>by have:=R b hb2;omega
  rw[wrap_i64 (by omega) (by omega)];refine ab _ _ ⟨j - 1,_,by omega,by simp only;omega,?_,?_,?_,hf4.trans f5 λb _ e=> .inl e,h5⟩ (by simp only;omega)
  ·simp only;rw[if_pos (show j - 1<v by omega)];refine b4.fr f5 λb hb e=> ?_;have aB:=h.lt (.inl rfl:pz d m ss d);rcases n4 b hb with g|g
   ·have:=R b g;omega
   ·have:W.drew.heap.size<=b:=g;omega
  ·simp only;intro b hb;rcases n4 b hb with g|g
   ·exact R b g
   ·have:W.drew.heap.size<=b:=g;omega
  ·rintro b (hb|hb|⟨q,u,hq,hu⟩)
   ·exact .inl hb
   ·exact .inr (.inl hb)
   ·rw[getElem?_set] at hq;split at hq
    ·split at hq
     ·cases hq;obtain⟨o,ho⟩:=hu;cases ho
     ·cases hq
    ·exact U b (.inr (.inr ⟨q,u,hq,hu⟩))
 ·rw[decide_eq_false ac,cond_false];have:j=0:=by omega
  subst this;have J:=hi.turn h1 h2 aj ak;have eM:(if 0<v then F v (dg to v) else [])=if v=0 then [] else F v (dg to v):=by
   by_cases hz:v=0
   ·rw[if_pos hz,if_neg (by omega)]
   ·rw[if_neg hz,if_pos (by omega)]
  have eF:(if 0<v then zn F v (dg to v) [] else F)=if v=0 then F else zn F v (dg to v) []:=by
   by_cases hz:v=0
   ·rw[if_pos hz,if_neg (by omega)]
   ·rw[if_neg hz,if_pos (by omega)]
  rw[eM] at aa;rw[eF] at hW;have ar:∀t∈(if v=0 then [] else F v (dg to v)),t∈F v (dg to v):=λt ht=>by
   split at ht
   ·simp at ht
   ·exact ht
  have au:((if v=0 then [] else F v (dg to v)).map Tm.id).Nodup:=by
   split
   ·simp
   ·exact hi.nd v _ hv7 al
  have aC:(if v=0 then [] else F v (dg to v)).length<=2^20:=by
   split
   ·simp
   ·exact aA
  generalize (if v=0 then [] else F v (dg to v))=Mv at aa J ar au aC
  generalize (if v=0 then F else zn F v (dg to v) [])=F1 at hW J
  simp only[];refine hW.aiQ to λw5 h5 f5 z5=> ?_;have aB:=h.lt (.inl rfl:pz d m ss d);have ae:=aa.fr f5 λb hb e=>by have:=R b hb;omega
  have hf5:iG w1 w5 (pz d m ss):=hf.trans f5 λb _ e=> .inl e;have mlt:∀b,iq.at mv b->b<w5.heap.size:=λb hb=>ae.lt hb;have mlen:=aa.len;refine iE (λst W'=>∃i ss2 F2,i<=Mv.length/\st.1=(i:Int)/\WM W' d m ss2 l to tn most F2/\WI to (rest (kT l) (Mv.drop i)) F2/\iW 3 eT W' mv Mv/\iG w1 W' (pz d m ss)/\(∀b,pz d m ss2 b->pz d m ss b\/w5.heap.size<=b)/\w5.heap.size<=W'.heap.size) (λst _=>Mv.length - st.1.toNat)
   ⟨0,ss',F1,by omega,rfl,h5,by simpa using J,ae,hf5,λb hb=> .inl (U b hb),Nat.le_refl _⟩ ?_
  rintro⟨i,⟨⟩⟩ W' ⟨i,ss2,F2,hin,av,hW',hI',aw,ax,I,hsz⟩ next' Y
  simp only at av;subst av;by_cases ay:(i:Int)<(mv.len:Int)
  ·rw[decide_eq_true ay,cond_true];have af:i<Mv.length:=by omega
   have hx:=List.getElem?_eq_getElem af;have ai:=List.drop_eq_getElem_cons af;generalize Mv[i]=t at hx ai;refine Xi (aw.sl oK (by omega)) hx λa c0 c1 c2=> ?_;simp only[iy,iF,c0,c1,c2];refine FX rfl rfl λp w6 r6 e6 z6 f6=> ?_;simp only[sx,r6.cell];have h6:=hW'.ext f6;have ao:=ar t (List.mem_of_getElem? hx);have hp:=((hi.mem v _ t hv7 al).1 ao).1;have az:=hi.pl _ _ hp;have aD:∀id u,rest (kT l) (Mv.drop i) id=some u->kT l id=some u:=λid u hu=>(zi.1 hu).1;refine Ef (ac8 h6 h2 t az.2.2 λn k hn hk=>by have:=WI.short hI' aD hn hk;omega) ?_;rintro w7 ⟨f7,n,ss3,hn7,aE,h7,ag⟩;have mvd2:∀b,iq.at mv b->¬pz d m ss2 b:=λb hb hx=>by
    rcases I b hx with g|g
    ·have:=h.lt g;have:=R b hb;omega
    ·have:=mlt b hb;omega
   have aF:rest (kT l) (Mv.drop i) t.id=none:=by
    unfold rest;rw[hp,ai];simp
   have ah:=hI'.put aF (aj _ _ hp) az.2.2 aE;have aG:t∉Mv.drop (i+1):=by
    intro hx2;have hn2:=au.sublist ((List.drop_sublist i Mv).map Tm.id);rw[ai,List.map_cons,List.nodup_cons] at hn2;exact hn2.1 (List.mem_map.2 ⟨t,hx2,rfl⟩)
   rw[ai,ad5 hp (λid u hu=>(hi.pl id u hu).1) aG] at ah;rw[wrap_i64 (by omega) (by omega)];have s6:=f6.size;have s7:=f7.size;refine Y _ _ ⟨i+1,ss3,_,by omega,by simp,h7,ah,(aw.ext f6).fr f7 λb hb hx=>mvd2 b hb hx,(ax.ext f6).trans f7 λb hb hx=> ?_,λb hb=> ?_,by omega⟩ (by simp only;omega)
   ·rcases I b hx with g|g
    ·exact g
    ·have:=hf5.size;omega
   ·rcases ag b hb with g|g
    ·exact I b g
    ·exact .inr (by omega)
  ·rw[decide_eq_false ay,cond_false];have:i=Mv.length:=by omega
   subst this;rw[List.drop_length,af8] at hI';exact⟨ax,ss2,F2,hW',hI',λb hb=>by
    rcases I b hb with g|g
    ·exact .inl g
    ·exact .inr (by have:=hf5.size;omega)⟩
structure WS (w:World) (d m:Nat) (ss:List iq) (l:PL) (now:Nat) (tn most:Int) (F:Fs):Prop where
 wm:WM w d m ss l now tn most F
 wi:WI now (kT l) F
 mo:most<=1048576/\(l.length:Int)<=most
 tb:∀id t,kT l id=some t->t.tn<=tn
 ti:∀id id' t u,kT l id=some t->kT l id'=some u->t.tn=u.tn->id=id'
 t0:0<=tn
theorem WS.ext (h:WS w d m ss l now tn most F) (hf:Ext w w'):WS w' d m ss l now tn most F:=⟨h.wm.ext hf,h.wi,h.mo,h.tb,h.ti,h.t0⟩
theorem WS.fr {S:Nat->Prop} (h:WS w d m ss l now tn most F) (hf:iG w w' S) (hs:∀b,pz d m ss b->¬S b):WS w' d m ss l now tn most F:=⟨h.wm.fr hf hs,h.wi,h.mo,h.tb,h.ti,h.t0⟩
def Ul (l:PL) (most id at_:Int):Int:=if id<0\/id>2147483648\/at_<0\/at_>1099511627776 then 1 else if kT l id=none/\most<=(l.length:Int) then 7 else 0
theorem agm (l:PL) (a:Int) (b:Tm):((IB l a b).length:Int)=if kT l a=none then (l.length:Int)+1 else l.length:=by
 have:=congrArg List.length (Zk l a b);rw[length_map] at this;by_cases hm:a∈l.map (·.1)
 ·rw[if_pos hm,length_map] at this;rw[if_neg (by rw[wK];simpa using hm),this]
 ·rw[if_neg hm,length_append,length_map,length_singleton] at this;rw[if_pos (wK.2 hm),this];omega
theorem aiH (l:PL) (t:Tm):kT (IB l t.id t)=G5 (kT l) t.id (some t):=by
 funext id;rw[Np];rfl
theorem ac6 (h:WS w d m ss l now tn most F) (id at_:Int) (ht:tn<2^62):
  oC (some ⟨d,0,none⟩) id at_ w λe w'=>e=Ul l most id at_/\iG w w' (pz d m ss)/\
   ∃ss' F',(∀b,pz d m ss' b->pz d m ss b\/w.heap.size<=b)/\
    WS w' d m ss' (if Ul l most id at_=0 then IB l id ⟨id,max at_.toNat now,tn+1⟩ else l) now (if Ul l most id at_=0 then tn+1 else tn) most F':=by
 apply OD;have hm:=h.mo;have ae:=h.wi.nw;refine nX (G6 h.wm) ?_;rintro _ w2 ⟨rfl,hw⟩;subst hw;simp -zeta only[Bool.not_true,cond_false];intro J6;have h6t:(id<0\/id>2147483648\/at_<0\/at_>1099511627776)->J6 true:=by
  intro aa;have e:Ul l most id at_=1:=by unfold Ul;rw[if_pos aa]
  simp only[J6,cond_true];rw[e];exact⟨by trivial,iG.refl _ _,ss,F,λb hb=> .inl hb,h⟩
 have h6f:¬(id<0\/id>2147483648\/at_<0\/at_>1099511627776)->J6 false:=by
  intro af;have eA:Ul l most id at_=if kT l id=none/\most<=(l.length:Int) then 7 else 0:=by unfold Ul;rw[if_neg af]
  simp only[not_or] at af;simp -zeta only[sx,J6,h.wm.X9];have key:∀(K:Value->Bool->Prop),(∀v b,(∃t0:Tm,v= .agg ⟨eT t0⟩/\∀t,kT l id=some t->t0=t)->b=(kT l id).isSome->K v b)->EO Tryz.prog 3 (some m) (.int .i64 id) (.agg ⟨[.int .i64 0,.int .i64 0,.int .i64 0]⟩) w2 K:=by
   intro K hh;refine KQ (enc:=Ti) h.wm.mp eqW id (abD id) (λhl=>hh _ _ ⟨⟨0,0,0⟩,rfl,λt ht=>by rw[hl] at ht;cases ht⟩ (by rw[hl];rfl)) (λb hl=>hh _ _ ⟨b,rfl,λt ht=>by rw[hl] at ht;cases ht;rfl⟩ (by rw[hl];rfl))
  refine key _ ?_;rintro _ b11 ⟨t0,rfl,ht0⟩ hb11;refine⟨t0.id,(t0.a:Int),t0.tn,rfl,FX rfl rfl λp w3 r3 e3 z3 f3=> ?_⟩;have hw3:=h.wm.ext f3;intro R;have h18t:kT l id=none/\most<=(l.length:Int)->∀W,Ext w2 W->R true W:=by
   intro U W hx;rw[if_pos U] at eA;simp only[R,cond_true];rw[eA];exact⟨by trivial,hx _,ss,F,λb hb=> .inl hb,h.ext hx⟩
  have h18f:¬(kT l id=none/\most<=(l.length:Int))->∀W,Ext w3 W->R false W:=by
   intro N W hx;rw[if_neg N] at eA;simp -zeta only[R,cond_false];intro ab;have ag:∀W1 ss1 F1,WM W1 d m ss1 l now tn most F1->WI now (G5 (kT l) id none) F1->iG w2 W1 (pz d m ss)->(∀b,pz d m ss1 b->pz d m ss b\/w2.heap.size<=b)->ab W1:=by
    intro W1 ss1 F1 g1 g2 g3 g4;have htn0:=h.t0;simp only[ab,iy,iF,g1.aiq];rw[wrap_i64 (n:=tn+1) (by omega) (by omega)];refine g1.ajL (tn+1) λw4 h4 f4 z4=> ?_;have h4d:=h4.ext (Ext.drew w4);simp only[iy,iF,h4d.X_,h4d.aiq];refine iI λq w5 r5 e5 z5 f5=> ?_;have h5:=h4d.ext f5;simp only[sx,true_and,h5.X_,h5.aiq];refine iJ r5 rfl rfl λw6 r6 f6 z6=> ?_;have f6q:=f6 (·=q) rfl;have hq:∀b,pz d m ss1 b->b≠q:=λb hb=>by have:=h4d.lt hb;omega
    have h6:=(h5.fr f6q hq).ext (Ext.drew w6);have r6d:=r6.drew;simp only[d_,iy,iF,Yp,h6.X9,r6d.cell];have emax:(if (now:Int)>at_ then (now:Int) else at_)=((max at_.toNat now:Nat):Int):=by
     split<;>omega
    have hT:(Value.agg ⟨[.int .i64 id,.int .i64 (if (now:Int)>at_ then (now:Int) else at_),.int .i64 (tn+1)]⟩:Value)= .agg ⟨eT ⟨id,max at_.toNat now,tn+1⟩⟩:=by rw[emax]
    rw[hT];refine h6.akn ⟨id,max at_.toNat now,tn+1⟩ λw7 h7 f7 z7=> ?_;have ah:m≠q:=hq m (.inr (.inl rfl));have r7:=r6d.fr f7 (λe=>ah e.symm);simp only[d_,iy,iF,r7.cell];rw[emax];have O:max at_.toNat now<=2^40:=by omega
    have Y:∀id' t,G5 (kT l) id none id'=some t->kT l id'=some t:=λid' t hu=>by
     unfold G5 at hu;split at hu
     ·cases hu
     ·exact hu
    refine Ef (ac8 h7 ae ⟨id,max at_.toNat now,tn+1⟩ O λn k hn hk=>by have:=WI.short g2 Y hn hk;omega) ?_;rintro w8 ⟨f8,n,ss8,hn,ac,h8,hs8⟩;have hp:=g2.put (t:=⟨id,max at_.toNat now,tn+1⟩) (by unfold G5;simp) (by simp only;omega) O ac;have eP:G5 (G5 (kT l) id none) id (some ⟨id,max at_.toNat now,tn+1⟩)=kT (IB l id ⟨id,max at_.toNat now,tn+1⟩):=by
     rw[aiH l ⟨id,max at_.toNat now,tn+1⟩];funext id';unfold G5;split<;>rfl
    rw[eP] at hp;have f18:iG W1 w8 (pz d m ss1):=((((((f4.mono (S':=pz d m ss1) λb e=> .inl e).ext (Ext.drew w4)).ext f5).trans f6q λb hb e=>by
      have h1z:=f4.size;have h2z:w4.drew.heap.size=w4.heap.size:=rfl;omega).ext (Ext.drew w6)).trans f7 λb hb e=> .inr (.inl e)).trans f8 λb _ hb=>hb
    have f28:iG w2 w8 (pz d m ss):=g3.trans f18 λb hb hb2=>by
     rcases g4 b hb2 with e|e
     ·exact e
     ·omega
    have s7:w2.heap.size<=w7.heap.size:=by
     have a1:=g3.size;have a2:=f4.size;have a3:=f5.size;have a4:=f6q.size;have a5:=f7.size;have a6:w4.drew.heap.size=w4.heap.size:=rfl;have a7:w6.drew.heap.size=w6.heap.size:=rfl;omega
    obtain⟨F8,h8,hp⟩:∃F8,WM w8 d m ss8 (IB l id ⟨id,max at_.toNat now,tn+1⟩) now (tn+1) most F8/\WI now (kT (IB l id ⟨id,max at_.toNat now,tn+1⟩)) F8:=⟨_,h8,hp⟩;refine⟨eA.symm,f28,ss8,F8,λb hb=> ?_,?_⟩
    ·rcases hs8 b hb with e|e
     ·exact g4 b e
     ·exact .inr (by omega)
    ·rw[eA,if_pos rfl,if_pos rfl];refine⟨h8,hp,⟨hm.1,?_⟩,λid' u hu=> ?_,λi1 i2 u1 u2 q1 q2 q3=> ?_,by omega⟩
     ·rw[agm];split
      ·rename_i hn;have:¬most<=(l.length:Int):=λe=>N ⟨hn,e⟩;omega
      ·exact hm.2
     ·rw[Np] at hu;split at hu
      ·cases hu;exact Int.le_refl _
      ·have:=h.tb id' u hu;omega
     ·rw[Np] at q1 q2;split at q1
      ·rename_i e1;split at q2
       ·rename_i e2;rw[e1,e2]
       ·cases q1
        have:=h.tb _ _ q2;simp only at q3;omega
      ·split at q2
       ·cases q2
        have:=h.tb _ _ q1;simp only at q3;omega
       ·exact h.ti _ _ _ _ q1 q2 q3
   clear_value ab;have hW:=hw3.ext hx;have rW:=r3.ext hx;have xW:=f3.trans hx
   cases I:kT l id with
   |none=>
    rw[I] at hb11;rw[hb11,isSome_none,cond_false];refine ag W ss F hW ?_ (xW _) λb hb=> .inl hb;have:G5 (kT l) id none=kT l:=by
     funext id';unfold G5;split
     ·rename_i e;rw[e,I]
     ·rfl
    rw[this];exact h.wi
   |some t=>
    rw[I] at hb11;have:=ht0 t I;subst this;obtain⟨p1,p2,p3⟩:=h.wi.pl id t0 I;rw[hb11,isSome_some,cond_true];simp only[sx,rW.cell];refine Df (aaS hW ae t0 p3) ?_;rintro w4 ⟨f4,n,ss4,hn,ac,h4,hs4⟩;have ai:=h.wi.take I ac;rw[p1] at h4;exact ag w4 ss4 _ h4 ai ((xW _).trans f4 λb _ e=>e) λb hb=>by
     rcases hs4 b hb with e|e
     ·exact .inl e
     ·exact .inr (Nat.le_trans xW.size e)
  clear_value R
  cases I:kT l id with
  |none=>
   rw[I] at hb11;rw[hb11,isSome_none,Bool.not_false,cond_true];have hw3d:=hw3.ext (Ext.drew w3);simp only[iy,iF,Yp,hw3d.X9,hw3d.aj7];refine Uf hw3d.mp ⟨by trivial,?_⟩;by_cases J:(l.length:Int)>=most
   ·rw[decide_eq_true J];exact h18t ⟨I,J⟩ _ (f3.trans (Ext.drew w3))
   ·rw[decide_eq_false J];exact h18f (λe=>J e.2) _ (Ext.drew w3)
  |some t=>
   rw[I] at hb11;rw[hb11,isSome_some,Bool.not_true,cond_false];exact h18f (λe=>by rw[I] at e;cases e.1) _ (Ext.drew w3)
 clear_value J6;by_cases c1:id<0
 ·rw[decide_eq_true c1,cond_true];exact h6t (.inl c1)
 ·rw[decide_eq_false c1,cond_false];by_cases c2:id>2147483648
  ·rw[decide_eq_true c2,cond_true];exact h6t (.inr (.inl c2))
  ·rw[decide_eq_false c2,cond_false];by_cases c3:at_<0
   ·rw[decide_eq_true c3,cond_true];exact h6t (.inr (.inr (.inl c3)))
   ·rw[decide_eq_false c3,cond_false];by_cases c4:at_>1099511627776
    ·rw[decide_eq_true c4];exact h6t (.inr (.inr (.inr c4)))
    ·rw[decide_eq_false c4];exact h6f (by omega)
end
end Go.Proofs.WN
end
section
namespace Go.Proofs.WN
open Gp Gp.Wh
def afB:Go.Shelf.Ren:=⟨fun|6=>205|15=>123|14=>256|28=>229|29=>230|20=>268|21=>269|22=>270|23=>271|24=>272|25=>273|26=>274|27=>275|46=>277|47=>261|48=>262|49=>278|50=>279|57=>280|n=>n,fun|22=>211|24=>237|25=>313|3=>3|39=>250|0=>0|53=>337|55=>339|4=>4|46=>331|45=>330|50=>218|5=>5|9=>9|66=>359|70=>363|76=>371|77=>372|n=>n,fun|n=>n⟩
theorem akj:SlLaysF0.n6 Tryz.prog afB:={
 mixed:=by kernel_rfl,
 f6:=⟨Tryz.f205.name,by decide,Tryz.func205.trans (congrArg some (by kernel_rfl))⟩,
 f14:=⟨Tryz.f256.name,by decide,Tryz.func256.trans (congrArg some (by kernel_rfl))⟩,
 f15:=Tryz.func123.trans (congrArg some (by kernel_rfl)),
 f20:=⟨Tryz.f268.name,by decide,Tryz.func268.trans (congrArg some (by kernel_rfl))⟩,
 f21:=⟨Tryz.f269.name,by decide,Tryz.func269.trans (congrArg some (by kernel_rfl))⟩,
 f22:=⟨Tryz.f270.name,by decide,Tryz.func270.trans (congrArg some (by kernel_rfl))⟩,
 f23:=⟨Tryz.f271.name,by decide,Tryz.func271.trans (congrArg some (by kernel_rfl))⟩,
 f24:=⟨Tryz.f272.name,by decide,Tryz.func272.trans (congrArg some (by kernel_rfl))⟩,
 f25:=⟨Tryz.f273.name,by decide,Tryz.func273.trans (congrArg some (by kernel_rfl))⟩,
 f26:=⟨Tryz.f274.name,by decide,Tryz.func274.trans (congrArg some (by kernel_rfl))⟩,
 f27:=⟨Tryz.f275.name,by decide,Tryz.func275.trans (congrArg some (by kernel_rfl))⟩,
 f28:=Tryz.func229.trans (congrArg some (by kernel_rfl)),
 f29:=Tryz.func230.trans (congrArg some (by kernel_rfl)),
 f46:=⟨Tryz.f277.name,by decide,Tryz.func277.trans (congrArg some (by kernel_rfl))⟩,
 f47:=Tryz.func261.trans (congrArg some (by kernel_rfl)),
 f48:=Tryz.func262.trans (congrArg some (by kernel_rfl)),
 f49:=⟨Tryz.f278.name,by decide,Tryz.func278.trans (congrArg some (by kernel_rfl))⟩,
 f50:=⟨Tryz.f279.name,by decide,Tryz.func279.trans (congrArg some (by kernel_rfl))⟩,
 f57:=⟨Tryz.f280.name,by decide,Tryz.func280.trans (congrArg some (by kernel_rfl))⟩,
 t0:=Tryz.underlying0,
 a0:=Tryz.isAgg0,
 z0:=Tryz.sizeOf0,
 v0:=Tryz.zeroValue0,
 t3:=Tryz.underlying3,
 a3:=Tryz.isAgg3,
 z3:=Tryz.sizeOf3,
 v3:=Tryz.zeroValue3,
 t4:=Tryz.underlying4,
 a4:=Tryz.isAgg4,
 z4:=Tryz.sizeOf4,
 v4:=Tryz.zeroValue4,
 t5:=Tryz.underlying5,
 a5:=Tryz.isAgg5,
 z5:=Tryz.sizeOf5,
 v5:=Tryz.zeroValue5,
 t9:=Tryz.underlying9,
 a9:=Tryz.isAgg9,
 z9:=Tryz.sizeOf9,
 v9:=Tryz.zeroValue9,
 t22:=Tryz.underlying211,
 a22:=Tryz.isAgg211,
 z22:=Tryz.sizeOf211,
 v22:=Tryz.zeroValue211,
 t25:=Tryz.underlying313,
 a25:=Tryz.isAgg313,
 z25:=Tryz.sizeOf313,
 v25:=Tryz.zeroValue313,
 t39:=Tryz.underlying250,
 a39:=Tryz.isAgg250,
 z39:=Tryz.sizeOf250,
 v39:=Tryz.zeroValue250,
 t45:=Tryz.underlying330,
 a45:=Tryz.isAgg330,
 z45:=Tryz.sizeOf330,
 v45:=Tryz.zeroValue330,
 t46:=Tryz.underlying331,
 a46:=Tryz.isAgg331,
 z46:=Tryz.sizeOf331,
 v46:=Tryz.zeroValue331,
 t50:=Tryz.underlying218,
 a50:=Tryz.isAgg218,
 z50:=Tryz.sizeOf218,
 v50:=Tryz.zeroValue218,
 t53:=Tryz.underlying337,
 a53:=Tryz.isAgg337,
 z53:=Tryz.sizeOf337,
 v53:=Tryz.zeroValue337,
 t55:=Tryz.underlying339,
 a55:=Tryz.isAgg339,
 z55:=Tryz.sizeOf339,
 v55:=Tryz.zeroValue339,
 t66:=Tryz.underlying359,
 a66:=Tryz.isAgg359,
 z66:=Tryz.sizeOf359,
 v66:=Tryz.zeroValue359,
 t70:=Tryz.underlying363,
 a70:=Tryz.isAgg363,
 z70:=Tryz.sizeOf363,
 v70:=Tryz.zeroValue363,
 t76:=Tryz.underlying371,
 a76:=Tryz.isAgg371,
 z76:=Tryz.sizeOf371,
 v76:=Tryz.zeroValue371,
 t77:=Tryz.underlying372,
 a77:=Tryz.isAgg372,
 z77:=Tryz.sizeOf372,
 v77:=Tryz.zeroValue372}
namespace Srt
open Go.Shelf Go.RowKit Go.Lib Go.Sort
instance :Inhabited Tm:=⟨⟨0,0,0⟩⟩
theorem agY (t:Tm):∀v∈eT t,v.oneCell'=true:=by
 intro v hv;simp only[eT,mem_cons,not_mem_nil,or_false] at hv;rcases hv with rfl|rfl|rfl<;>rfl
def cfT (x y:Tm):Int:=Ah x.tn y.tn
theorem ahm (x y:Tm):ltOf cfT x y=decide (x.tn<y.tn):=by
 unfold ltOf cfT Ah;by_cases h1:x.tn<y.tn
 ·simp[h1]
 ·by_cases h2:x.tn>y.tn<;>simp[h1,h2]
theorem swo:SWO (ltOf cfT) where
 irrefl x:=by rw[ahm];simp
 trans x y z h1 h2:=by rw[ahm] at *;simp at *;omega
 ntrans x y z h1 h2:=by rw[ahm] at *;simp at *;omega
theorem closure (x y:Tm) (W:World):xu x.id x.a x.tn y.id y.a y.tn W λr W'=>r=cfT x y/\∃q os',W'=grow (W.drewN q) os':=by
 apply KF;unfold Al;have r1:Row (W.alloc (.cells ⟨eT x⟩ 237)) W.heap.size (eT x):=Row.new W (eT x) 237;have x2:Ext (W.alloc (.cells ⟨eT x⟩ 237)) ((W.alloc (.cells ⟨eT x⟩ 237)).alloc (.cells ⟨eT y⟩ 237)):=λS=>iG.alloc _ _ S;have r2:=r1.ext x2;have r3:Row ((W.alloc (.cells ⟨eT x⟩ 237)).alloc (.cells ⟨eT y⟩ 237)) (W.alloc (.cells ⟨eT x⟩ 237)).heap.size (eT y):=Row.new _ (eT y) 237;have c1:((W.alloc (.cells ⟨[.int .i64 x.id,.int .i64 (x.a:Int),.int .i64 x.tn]⟩ 237)).alloc (.cells ⟨[.int .i64 y.id,.int .i64 (y.a:Int),.int .i64 y.tn]⟩ 237)).cell? ⟨W.heap.size,2,none⟩=some (.int .i64 x.tn):=by
  have:=r2.cell 2;exact this
 have c2:((W.alloc (.cells ⟨[.int .i64 x.id,.int .i64 (x.a:Int),.int .i64 x.tn]⟩ 237)).alloc (.cells ⟨[.int .i64 y.id,.int .i64 (y.a:Int),.int .i64 y.tn]⟩ 237)).cell? ⟨(W.alloc (.cells ⟨[.int .i64 x.id,.int .i64 (x.a:Int),.int .i64 x.tn]⟩ 237)).heap.size,2,none⟩=some (.int .i64 y.tn):=by
  have:=r3.cell 2;exact this
 simp only[sx,c1,c2];refine nR (AU _ _ _) ?_;rintro r W3 ⟨rfl,hw⟩;subst hw;exact⟨rfl,0,_,by rw[alloc_eq_grow,alloc_eq_grow,grow_grow];rfl⟩
theorem lays (blk off size:Nat) (w:World):CmpLays Tryz.prog rM #[] eT 3 cfT blk off size w:=by
 intro m os dk _ x y;have h:=closure x y (sortWorldK eT 3 w blk off m dk os);unfold xu at h;have e:(#[.agg (eT x).toArray,.agg (eT y).toArray]++ #[]:Array Value)=⟨[.agg ⟨eT x⟩,.agg ⟨eT y⟩]⟩:=by simp
 rw[e];refine Calls.mono h ?_;rintro e W' ⟨r,he,rfl,hq⟩;exact⟨he,hq⟩
theorem Xt (d:Array Tm) {j:Nat} (hj:j<d.size * 3):(flatK eT 3 d)[j]! =(d.toList.flatMap eT)[j]?.getD default:=by
 rw[get_flatK eT 3 d j hj];have h:j / 3<d.size:=by omega
 have e:=flat_get eT 3 oK d.toList (j / 3) (j % 3) (Nat.mod_lt _ (by omega));rw[show j / 3 * 3+j % 3=j by omega] at e;rw[e,Array.getElem?_toList,Array.getElem?_eq_getElem h,getElem!_pos d _ h,Option.bind_some];rw[List.getElem!_eq_getElem?_getD]
theorem QL {l:List Tm} {j:Nat} (hj:j<l.length * 3):(l.flatMap eT)[j]? =some ((l.flatMap eT)[j]?.getD default):=by
 have hl:=jU eT 3 oK l;rw[List.getElem?_eq_getElem (by omega)];rfl
theorem holds {w:World} {b:Nat} {xs:List Tm} {pad:List Value} (hr:Row w b (xs.flatMap eT++pad)):HoldsK eT 3 w b 0 xs.toArray:=by
 intro j hj;rw[size_flatK] at hj;have hl:=jU eT 3 oK xs;simp only[size_toArray] at hj;refine⟨?_,hr.frozen _⟩;rw[Nat.zero_add,hr.cell,List.getElem?_append_left (by omega),Xt _ (by simpa using hj),List.toList_toArray];exact QL hj
theorem row_of {w:World} {b n:Nat} {xs:List Tm} {pad:List Value} {d':Array Tm} {os:Array Obj} (hr:Row w b (xs.flatMap eT++pad)) (hd:d'.size=xs.length):
  Row (sortWorldK eT 3 w b 0 n d' os) b (d'.toList.flatMap eT++pad)/\iG w (sortWorldK eT 3 w b 0 n d' os) (·=b):=by
 obtain⟨T,ht⟩:=hr;have hb:b<w.heap.size:=(Array.getElem?_eq_some_iff.1 ht).1;have hl:=jU eT 3 oK xs;have hl':(d'.toList.flatMap eT).length=d'.size * 3:=by rw[jU eT 3 oK,length_toList]
 have hh:(sortWorldK eT 3 w b 0 n d' os).heap=w.heap.modify b (onCells (putCells id 0 (flatK eT 3 d')))++os:=rfl;constructor
 ·refine⟨T,?_⟩;rw[hh,Array.getElem?_append_left (by simpa using hb),getElem?_modify,if_pos rfl,ht];have:putCells id 0 (flatK eT 3 d') ⟨xs.flatMap eT++pad⟩=⟨d'.toList.flatMap eT++pad⟩:=by
   apply Array.ext_getElem?;intro k;unfold putCells;rw[Array.getElem?_mapIdx];simp only[size_flatK,Nat.zero_le,true_and,Nat.zero_add,Nat.sub_zero,id_eq,List.getElem?_toArray];by_cases hk:k<d'.size * 3
   ·rw[List.getElem?_append_left (by omega),List.getElem?_append_left (by omega),QL (l:=xs) (by omega),map_some,if_pos hk,Xt _ hk];exact(QL (by rw[length_toList];exact hk)).symm
   ·rw[getElem?_append_right (by omega),getElem?_append_right (by omega),hl,hl',hd]
    cases pad[k - xs.length * 3]? with
    |none=>rfl
    |some v=>rw[map_some,if_neg (by rw[<- hd];exact hk)]
  simp only[map_some,onCells,this]
 ·refine⟨?_,λc hc h=> ?_,⟨rfl,rfl,rfl⟩⟩
  ·rw[hh];simp
  ·rw[hh,Array.getElem?_append_left (by simpa using hc),getElem?_modify,if_neg (λe=>h e.symm)]
end Srt
theorem ahi (w:World):oI (IntKind.u64.wrap ((0:Nat):Int)) w λr w'=>r=0/\w'=w:=by
 apply Rk;have h:qN (IntKind.u64.wrap ((0:Nat):Int)) w λr w'=>r=0/\w'=w:=by
  apply Oq;rw[show IntKind.u64.wrap ((0:Nat):Int)=0 from rfl];simp only[show decide ((0:Int)>=4294967296)=false from rfl,show decide ((0:Int)>=65536)=false from rfl,show decide ((0:Int)>=256)=false from rfl,cond_false,show IntKind.u8.wrap 0=0 from rfl];exact⟨0,by decide,rfl,rfl,by trivial⟩
 refine NJ h ?_;rintro r w' ⟨rfl,hw⟩;exact⟨rfl,hw⟩
theorem aiP (s:iq) (lim:Int) (v:Value) (w:World):iZ s 0 ((0:Nat):Int) lim v w λw'=>w'=w:=by
 apply xJ;refine iE (λst W=>W=w/\st.1=0/\st.2.1=0) (λ_ _=>0) ⟨rfl,rfl,rfl⟩ ?_;rintro⟨a,b,c,d,e,⟨⟩⟩ W ⟨rfl,ha,hb⟩ next hnext
 simp only at ha hb;subst ha hb;have:decide ((IntKind.i64.wrap ((0:Int) - 0))<=12)=true:=rfl;rw[this,cond_true];have h:jo s 0 0 v W λw'=>w'=W:=by
  apply uf;refine iE (λst W'=>W'=W/\st.1=1) (λ_ _=>0) ⟨rfl,rfl⟩ ?_;rintro⟨a,⟨⟩⟩ W' ⟨rfl,ha⟩ next' hnext'
  simp only at ha;subst ha;have:decide ((1:Int)<0)=false:=rfl;rw[this,cond_false]
 refine tX h ?_;rintro w' hw;exact hw
open Srt in
theorem agh {w:World} {s:iq} {xs:List Tm} (hs:iW 3 eT w s xs) (hl:xs.length<=2^30):
  iY s (Value.func (.func rM) #[] #[]) w λw'=>iG w w' (iq.at s)/\∃ys:List Tm,ys.Perm xs/\ys.Pairwise (λx y=>¬y.tn<x.tn)/\iW 3 eT w' s ys:=by
 by_cases I:s.a=none
 ·have hx:xs=[]:=by
   rcases hs.mem with ⟨_,h,_⟩|⟨b,pad,h,_⟩
   ·exact h
   ·rw[I] at h;cases h
  subst hx;have hlen:s.len=0:=hs.len;apply t_;rw[hlen];refine Gi (ahi w) ?_;rintro r w' ⟨rfl,hw⟩;subst hw;refine xE (aiP s _ _ _) ?_;rintro w' hw;subst hw;exact⟨iG.refl _ _,[],List.Perm.refl _,List.Pairwise.nil,hs⟩
 obtain⟨b,pad,ha,hc,hr⟩:∃b pad,s.a=some ⟨b,0,none⟩/\s.cap * 3=xs.length * 3+pad.length/\Row w b (xs.flatMap eT++pad):=by
  rcases hs.mem with ⟨h,_,_⟩|h
  ·exact absurd h I
  ·exact h
 have hlen:=hs.len;have eg:∀args w,(callFunc 206 args).run Tryz.prog w= .ok (.enter 206 args) w:=enters_of Tryz.func206 (by kernel_rfl) rfl;have u:=AnyQ.slices_SortFunc akj 3 Tryz.isAgg237 Tryz.sizeOf237 eT oK agY cfT swo 206 #[] b 0 s.cap xs.toArray w eg (lays b 0 xs.toArray.size w) (holds hr) hr.lt (by rw[size_toArray];omega);unfold iY;rw[ha,hlen];change Calls Tryz.prog 205 #[.slice (some ⟨b,0,none⟩) xs.length s.cap,.func (.func rM) #[] #[]] w _;refine Calls.mono (show Calls Tryz.prog 205 #[.slice (some ⟨b,0,none⟩) xs.toArray.size s.cap,.func (.func rM) #[] #[]] w _ from u) ?_;rintro e w' ⟨rfl,d',n,os,⟨hp1,_,hp3⟩,O,rfl⟩;have J:xs.toArray.size=xs.length:=by simp
 have hp1:d'.size=xs.length:=hp1.trans J;rw[J] at hp3;have N:d'.toList.length=xs.length:=hp1;obtain⟨g1,g2⟩:=row_of (n:=n) (os:=os) hr hp1;have e1:(d'.extract 0 xs.length).toList=d'.toList:=by rw[<- hp1];simp
 have e2:(xs.toArray.extract 0 xs.length).toList=xs:=by simp
 rw[e1,e2] at hp3;refine⟨rfl,g2.mono λc R=>⟨0,by rw[ha,R]⟩,d'.toList,hp3,?_,⟨?_,.inr ⟨b,pad,ha,?_,g1⟩⟩⟩
 ·rw[List.pairwise_iff_getElem];intro i j hi hj U;rw[length_toList] at hi hj;have:=O i j (Nat.zero_le _) U (by rw[size_toArray];omega);rw[getElem!_pos d' j hj,getElem!_pos d' i hi,ahm] at this;simpa using this
 ·rw[hlen];exact N.symm
 ·rw[hc,N]
end Go.Proofs.WN
end
section
namespace Go.Proofs.WN
open Gp Gp.Wh
abbrev eI (x:Int):List Value:=[.int .i64 x]
theorem kN (x:Int):(eI x).length=1:=rfl
theorem Yt (x:Int):∀v∈eI x,jr v=true:=by intro v hv;rw[List.mem_singleton.1 hv];rfl
theorem agV {l:PL} {id:Int} {t:Tm} (h:kT l id=some t):(yx l id).length+1=l.length:=by
 induction l with
 |nil=>cases h
 |cons x l ih=>
  unfold yx;unfold kT at h;by_cases hx:id=x.1
  ·rw[if_pos hx];simp
  ·rw[if_neg hx] at h ⊢;simp only[length_cons];have:=ih h;omega
section
variable {w w':World} {d m:Nat} {ss:List iq} {l:PL} {now:Nat} {tn most:Int} {F:Fs}
def He (p d now:Nat) (W:World):Prop:=Row W p [.pointer (some ⟨d,0,none⟩)]/\W.cell? ⟨d,449,none⟩=some (.int .i64 (now:Int))
theorem He.ext {p d now:Nat} {W W':World} (h:He p d now W) (hx:Ext W W'):He p d now W':=⟨h.1.ext hx,zJ h.2 hx⟩
theorem aiL (p d now:Nat):FnT (Value.func (.func L9) #[] #[.pointer (some ⟨p,0,none⟩)]) (He p d now) (λx=>(x.a:Int) !=(now:Int)):=by
 intro x W K hC hK;refine qj (by kernel_rfl) ?_;have:CZ x.id x.a x.tn ⟨p,0,none⟩ W λr W'=>r=((x.a:Int) !=(now:Int))/\Ext W W':=by
  apply KD;refine iI λq W1 q1 _ _ g1=> ?_;have y:=g1.trans (Ext.drew W1);have hC':=hC.ext y;simp only[sx,q1.drew.cell,hC'.1.cell,hC'.2];exact⟨by trivial,y⟩
 refine Calls.mono this ?_;rintro e W' ⟨r,he,rfl,hf⟩;exact⟨_,he,hK W' hf⟩
theorem ajx (p d now:Nat):FnT (Value.func (.func L_) #[] #[.pointer (some ⟨p,0,none⟩)]) (He p d now) (λx=>(x.a:Int)==(now:Int)):=by
 intro x W K hC hK;refine qj (by kernel_rfl) ?_;have:C9 x.id x.a x.tn ⟨p,0,none⟩ W λr W'=>r=((x.a:Int)==(now:Int))/\Ext W W':=by
  apply KE;refine iI λq W1 q1 _ _ g1=> ?_;have y:=g1.trans (Ext.drew W1);have hC':=hC.ext y;simp only[sx,q1.drew.cell,hC'.1.cell,hC'.2];exact⟨by trivial,y⟩
 refine Calls.mono this ?_;rintro e W' ⟨r,he,rfl,hf⟩;exact⟨_,he,hK W' hf⟩
theorem ahM (h:WS w d m ss l now tn most F):
  rC (some ⟨d,0,none⟩) w λr w'=>iG w w' (pz d m ss)/\∃D:List Tm,D.Pairwise (λx y=>x.tn<y.tn)/\(∀t,t∈D↔kT l t.id=some t/\t.a=now)/\iW 1 eI w' r (D.map Tm.id)/\(∀b,iq.at r b->w.heap.size<=b)/\
   ∃ss' l' F',WS w' d m ss' l' now tn most F'/\(∀id t,kT l' id=some t↔kT l id=some t/\t∉D)/\l'.length+D.length=l.length/\(∀b,pz d m ss' b->pz d m ss b\/w.heap.size<=b)/\(∀b,iq.at r b->¬pz d m ss' b):=by
 apply OG;refine⟨rfl,iI λp w1 r1 e1 z1 f1=> ?_⟩;have x1:=f1.trans (Ext.drew w1);have h1:=h.ext x1;have r1d:=r1.drew;have hp:∀b,pz d m ss b->b≠p:=λb hb=>by have:=h.wm.lt hb;omega
 simp only[sx,r1d.cell,h1.wm.X_];refine xG (VX h1.wm h.wi.nw h.wi.nw) ?_;rintro _ w2 ⟨⟨n,hn,ay,rfl⟩,f2⟩;have hn0:n=0:=ay.uniq (Lv.self now);subst hn0;rw[Nat.zero_mul,Nat.zero_add];have x2:=x1.trans f2;have h2:=h.ext x2;have r2:=r1d.ext f2;have hk:=Eh now 0;obtain⟨s,hs,hb⟩:=h2.wm.buf 0 (dg now 0) (by omega) hk;rw[Nat.zero_mul,Nat.zero_add] at hs;have az:=Nat.le_trans (WI.short h.wi (λ_ _ e=>e) (show 0<7 by omega) hk) (by have:=h.mo;omega:l.length<=2^20);have ah:∀b,iq.at s b->pz d m ss b:=λb hb=> .inr (.inr ⟨_,s,hs,hb⟩);have all:∀t∈F 0 (dg now 0),t.a=now:=λt ht=>(h.wi.acE.1 ht).2;have s2:He p d now w2:=⟨r2,h2.wm.X_⟩;simp only[qx,iy,iL,h2.wm.cs hs];refine vg (Un (hb.sl oK (by omega)) (by omega)) ?_;rintro c3 w3 ⟨f3,b3,n3⟩;have h3:=h2.ext f3;have s3:=s2.ext f3;have hz0:=h.wm.lt (.inl rfl:pz d m ss d);have hx2:=x2.size;have hx3:=f3.size;refine jW (Yq b3 (by omega) (aiL p d now) λW hf=> ?_) ?_
 ·refine⟨s3.1.fr hf λe=> ?_,zK s3.2 hf λe=> ?_⟩
  ·have:=n3 p e;have:=r2.lt;omega
  ·have:=n3 d e;omega
 rintro c4 w4 ⟨b4,f4,n4⟩;have e4:(F 0 (dg now 0)).filter (λx=> !((x.a:Int) !=(now:Int)))=F 0 (dg now 0):=List.filter_eq_self.2 λt ht=>by rw[all t ht];simp
 rw[e4] at b4;have old3:∀b,b<w2.heap.size->¬iq.at c3 b:=λb hb e=>by have:=n3 b e;omega
 have h4:=h3.fr f4 λb hb e=>old3 b (h2.wm.lt hb) e;have s4:He p d now w4:=⟨s3.1.fr f4 (old3 p r2.lt),h4.wm.X_⟩;have aA:iW 3 eT w4 s (F 0 (dg now 0)):=(hb.ext f3).fr f4 λb hb' e=>old3 b (hb.lt hb') e;have hs4:=h4.wm.cs hs;simp only[hs4,iy,iL];refine jW (Yq aA (by omega) (ajx p d now) λW hf=>⟨s4.1.fr hf λe=>hp p (ah p e) rfl,zK s4.2 hf λe=>(h.wm.ne d ⟨_,s,hs,e⟩).1 rfl⟩) ?_;rintro c5 w5 ⟨b5,f5,n5⟩;have e5:(F 0 (dg now 0)).filter (λx=> !((x.a:Int)==(now:Int)))=[]:=List.filter_eq_nil_iff.2 λt ht=>by rw[all t ht];simp
 rw[e5] at b5;rw[show (⟨d,dg now 0,none⟩:Addr)=⟨d,0 * 64+dg now 0,none⟩ by rw[Nat.zero_mul,Nat.zero_add]];refine h4.wm.ahC (n:=0) (k:=dg now 0) (by omega) hk (by rw[Nat.zero_mul,Nat.zero_add];exact hs) (S:=iq.at s) f5 (λb _ hb=>hb) b5 (λb hb=> .inl (n5 b hb)) (by simp) λw6 h6 f6 z6=> ?_;rw[Nat.zero_mul,Nat.zero_add] at h6;have c4new:∀b,iq.at c4 b->w2.heap.size<=b:=λb hb=>n3 b (n4 b hb);have sold:∀b,iq.at s b->b<w2.heap.size:=λb hb'=>hb.lt hb';have aB:iW 3 eT w6 c4 (F 0 (dg now 0)):=((b4.fr f5 λb hb' e=>by have:=c4new b hb';have:=sold b e;omega)).fr f6 λb hb' e=>by have:=c4new b hb';omega
 have aC:iG w w6 (pz d m ss):=(((((x2.trans f3) (pz d m ss)).trans f4 λb hb1 hb2=>by have:=n3 b hb2;omega).trans f5 λb _ e=>ah b e)).trans f6 λb _ e=> .inl e;have sub6:∀b,pz d m (ss.set (dg now 0) c5) b->pz d m ss b:=λb hb'=>by
  rcases hb' with g|g|⟨j,u,hj,hu⟩
  ·exact .inl g
  ·exact .inr (.inl g)
  ·rw[getElem?_set] at hj;split at hj
   ·split at hj
    ·cases hj;exact ah b (n5 b hu)
    ·cases hj
   ·exact .inr (.inr ⟨j,u,hj,hu⟩)
 have r6:Row w6 p [.pointer (some ⟨d,0,none⟩)]:=(s4.1.fr f5 λe=>hp p (ah p e) rfl).fr f6 λe=>hp d (.inl rfl) e.symm;have hz6:w2.heap.size<=w6.heap.size:=by have:=f4.size;have:=f5.size;have:=f6.size;omega
 refine tV (agh aB (by omega)) ?_;rintro w7 ⟨f7,D,I,N,b7⟩;have lt2:∀b,pz d m (ss.set (dg now 0) c5) b->b<w2.heap.size:=λb hb'=>h2.wm.lt (sub6 b hb');have h7:=h6.fr f7 λb hb' e=>by have:=c4new b e;have:=lt2 b hb';omega
 have r7:=r6.fr f7 λe=>by have:=c4new p e;have:=r2.lt;omega
 have aq:iG w w7 (pz d m ss):=aC.trans f7 λb hb1 e=>by have:=c4new b e;omega
 have ac:∀t,t∈D↔kT l t.id=some t/\t.a=now:=λt=>by rw[I.mem_iff];exact h.wi.acE
 have ak:=h.wi.nd 0 (dg now 0) (by omega) hk;have ar:(D.map Tm.id).Nodup:=(I.map Tm.id).nodup_iff.2 ak;have hDl:D.length<=2^20:=by rw[I.length_eq];exact az
 have al:D.Pairwise (λx y=>x.tn<y.tn):=by
  rw[List.pairwise_iff_getElem] at N ⊢;intro i j hi hj au;have q1:=N i j hi hj au;have m1:=(ac D[i]).1 (getElem_mem hi);have m2:=(ac D[j]).1 (getElem_mem hj);have:D[i].tn≠D[j].tn:=λe=>by
   have aa:=h.ti _ _ _ _ m1.1 m2.1 e;have:=List.pairwise_iff_getElem.1 ar i j (by simpa using hi) (by simpa using hj) au;simp only[List.getElem_map] at this;exact this aa
  omega
 have clen:=b7.len;have c4lt:∀b,iq.at c4 b->b<w7.heap.size:=λb hb'=>b7.lt hb';refine iE (λst W=>∃(i:Nat) (l1:PL),i<=D.length/\st.2.1=(i:Int)/\iW 1 eI W st.1 ((D.take i).map Tm.id)/\(∀b,iq.at st.1 b->w7.heap.size<=b)/\WM W d m (ss.set (dg now 0) c5) l1 now tn most (zn F 0 (dg now 0) [])/\
   (∀id t,kT l1 id=some t↔kT l id=some t/\t∉D.take i)/\l1.length+i=l.length/\iG w7 W (·=m)) (λst _=>D.length - st.2.1.toNat)
  ⟨0,l,by omega,rfl,iW.nil,(λb ⟨o,hb'⟩=>by cases hb'),h7,λid t=>by simp,by omega,iG.refl _ _⟩ ?_
 rintro⟨out,i,⟨⟩⟩ W ⟨i,l1,hiD,av,ai,O,am,J,hlen,ab⟩ next ae
 simp only at av ai O;subst av;have ml7:m<w7.heap.size:=h7.lt (.inr (.inl rfl));by_cases aw:(i:Int)<(c4.len:Int)
 ·rw[decide_eq_true aw,cond_true];have U:i<D.length:=by omega
  have hx:=List.getElem?_eq_getElem U;have aj:D.take (i+1)=D.take i++[D[i]]:=List.take_succ_eq_append_getElem U;have Y:=getElem_mem U;have af:D[i]∉D.take i:=λaD=>by
   have hn2:=ar;rw[<- List.take_append_drop (i+1) D,aj,map_append,map_append,List.nodup_append,List.nodup_append] at hn2;exact hn2.1.2.2 _ (List.mem_map.2 ⟨_,aD,rfl⟩) _ (by simp) rfl
  generalize D[i]=t at hx aj Y af;have aE:iW 3 eT W c4 D:=b7.fr ab λb hb' e=>by have:=c4new b hb';have:=h2.wm.lt (.inr (.inl rfl):pz d m ss m);omega
  refine Xi (aE.sl oK (by omega)) hx λa q0 q1 q2=> ?_;simp only[iy,iF,q0,q1,q2];refine FX rfl rfl λq w8 r8 e8 z8 f8=> ?_;have rpW:Row W p [.pointer (some ⟨d,0,none⟩)]:=r7.fr ab λe=>hp m (.inr (.inl rfl)) e.symm;have y8:=f8.trans (Ext.drew w8);have h8:=am.ext y8;have r8d:=r8.drew;simp only[sx,(rpW.ext y8).cell,h8.X9,r8d.cell];refine h8.ajo t.id λw9 h9 f9 z9=> ?_;have aF:m≠q:=by have:=ab.size;omega
  have r9:=r8d.fr f9 λe=>aF e.symm;simp only[List.getElem?_cons_zero,iy,iF,r9.cell];refine iI λq2 aG aH e10 z10 f10=> ?_;have aI:mY 1 eI aG ⟨some ⟨q2,0,none⟩,1,1⟩ [t.id]:=(iW.row (xs:=[t.id]) (f:=eI) (n:=1) (by simpa using aH)).sl kN (by omega);have hbo10:=((ai.ext y8).fr f9 λb hb' e=>by have:=O b hb';omega).ext f10;refine iV kN hbo10 aI rfl (by omega) Yt (by rw[length_map,length_take,length_singleton];omega) (by rw[length_map,length_take,length_singleton];omega) λo11 aJ aK f11 n11=> ?_;have an:kT l1 t.id=some t:=(J t.id t).2 ⟨((ac t).1 Y).1,af⟩;have aL:=(h9.ext f10).fr f11 λb hb' e=>by
   have:=O b e;have:=h7.lt hb';omega
  have hwz:w8.drew.heap.size=w8.heap.size:=rfl;have f7z:=ab.size;have f8z:=f8.size;have f9z:=f9.size;have f10z:=f10.size;have f711:iG w7 aJ (·=m):=((((ab.ext y8).trans f9 λ_ _ e=>e).ext f10)).trans f11 λb hb1 e=>by have:=O b e;omega
  rw[wrap_i64 (by omega) (by omega)];refine ae _ _ ⟨i+1,_,by omega,by simp,?_,?_,aL,λid u=> ?_,?_,f711⟩ (by simp only;omega)
  ·simp only;rw[aj,map_append];exact aK
  ·simp only;intro b hb';rcases n11 b hb' with g|g
   ·exact O b g
   ·omega
  ·rw[JJ am.nd,aj,mem_append,mem_singleton];by_cases aa:id=t.id
   ·rw[if_pos aa];constructor
    ·intro hx;cases hx
    ·rintro⟨g1,g2⟩;rw[aa,((ac t).1 Y).1] at g1
     cases g1
     exact absurd (.inr rfl) g2
   ·rw[if_neg aa,J];constructor
    ·rintro⟨g1,g2⟩;refine⟨g1,?_⟩;rintro(g|rfl)
     ·exact g2 g
     ·exact aa ((h.wi.pl _ _ g1).1).symm
    ·rintro⟨g1,g2⟩;exact⟨g1,λg=>g2 (.inl g)⟩
  ·have:=agV an;omega
 ·rw[decide_eq_false aw,cond_false];have:i=D.length:=by omega
  subst this;rw[List.take_length] at ai J;have ao:iG w W (pz d m ss):=aq.trans ab λb _ e=> .inr (.inl e);have R:∀u,u∈F 0 (dg now 0)↔u∈D:=λu=>I.mem_iff.symm;have ag:rest (kT l) (F 0 (dg now 0))=kT l1:=by
   funext id
   cases hq:kT l1 id with
   |some t=>
    have:=(J id t).1 hq;exact zi.2 ⟨this.1,λe=>this.2 ((R t).1 e)⟩
   |none=>
    cases hr:rest (kT l) (F 0 (dg now 0)) id with
    |none=>rfl
    |some t=>
     have:=zi.1 hr;have:=(J id t).2 ⟨this.1,λe=>this.2 ((R t).2 e)⟩;rw[hq] at this;cases this
  have ax:=h.wi.due;rw[ag] at ax;have hout:∀b,iq.at out b->w7.heap.size<=b:=O;have hz7:w.heap.size<=w7.heap.size:=aq.size;refine⟨ao,D,al,ac,ai,λb hb'=>by have:=O b hb';omega,_,l1,_,⟨am,ax,⟨h.mo.1,by have:=h.mo.2;omega⟩,λid t ht=>h.tb id t ((J id t).1 ht).1,λi1 i2 t u q1 q2 q3=>h.ti i1 i2 t u ((J i1 t).1 q1).1 ((J i2 u).1 q2).1 q3,h.t0⟩,J,by omega,λb hb'=> .inl (sub6 b hb'),λb hb' e=>by have:=O b hb';have:=lt2 b e;have:=f7.size;omega⟩
def ltT (x y:Tm):Prop:=x.a<y.a\/(x.a=y.a/\x.tn<y.tn)
theorem Fp (h:WS w d m ss l now tn most F) (a:Int) {T:Nat} (hT:T=max now (min a 1099511627776).toNat):
  kH (some ⟨d,0,none⟩) a w λr w'=>iG w w' (pz d m ss)/\∃D:List Tm,D.Pairwise ltT/\(∀t,t∈D↔kT l t.id=some t/\t.a<=T)/\iW 1 eI w' r (D.map Tm.id)/\(∀b,iq.at r b->w.heap.size<=b)/\
   ∃ss' l' F',WS w' d m ss' l' T tn most F'/\(∀id t,kT l' id=some t↔kT l id=some t/\T<t.a)/\l'.length+D.length=l.length/\(∀b,pz d m ss' b->pz d m ss b\/w.heap.size<=b)/\(∀b,iq.at r b->¬pz d m ss' b):=by
 apply Ig;have hnw:=h.wi.nw;have al:=h.mo;have hT40:T<=2^40:=by omega
 have aq:now<=T:=by omega
 refine nX (G6 h.wm) ?_;rintro _ w2 ⟨rfl,hw⟩;subst hw;simp -zeta only[sx,Bool.not_true,h.wm.X_];have eT':(if (if (1099511627776:Int)<a then 1099511627776 else a)>(now:Int) then (if (1099511627776:Int)<a then 1099511627776 else a) else (now:Int))=(T:Int):=by
  rw[hT];split<;>split<;>omega
 simp -zeta only[eT'];refine iE (λst W=>∃(O:List Tm) (ss1:List iq) (l1:PL) (n1:Nat) (F1:Fs),WS W d m ss1 l1 n1 tn most F1/\n1<=T/\now<=n1/\iW 1 eI W st.1 (O.map Tm.id)/\(∀b,iq.at st.1 b->w2.heap.size<=b/\¬pz d m ss1 b)/\O.Pairwise ltT/\
   (∀id t,kT l1 id=some t↔kT l id=some t/\t∉O)/\(∀t∈O,kT l t.id=some t/\t.a<=T)/\(∀t∈O,∀id u,kT l1 id=some u->t.a<u.a)/\l1.length+O.length=l.length/\iG w2 W (pz d m ss)/\(∀b,pz d m ss1 b->pz d m ss b\/w2.heap.size<=b))
  (λst W=>st.1.cap * 0+(l.length - st.1.len)) ⟨[],ss,l,now,F,h,aq,Nat.le_refl _,iW.nil,(λb ⟨o,hb⟩=>by cases hb),List.Pairwise.nil,λid t=>by simp,by simp,by simp,by simp,iG.refl _ _,λb hb=> .inl hb⟩ ?_
 rintro⟨out,⟨⟩⟩ W ⟨O,ss1,l1,n1,F1,hW,hn1,hn0,ag,N,am,ab,hO,an,hlen,hf,I⟩ next ac
 simp only at ag N;have hl20:l1.length<=2^20:=by omega
 refine LY (agp hW.wm hW.wi) ?_;rintro r t w3 ⟨f3,ah⟩;have h3:=hW.ext f3;have R:=ag.ext f3;have hf3:=hf.ext f3;intro J;have fin:(∀id u,kT l1 id=some u->T<u.a)->J true:=by
  intro U;simp only[J,cond_true];refine Ap (aaT h3.wm h3.wi hn1 hT40 (λid u hu=>Nat.le_of_lt (U id u hu)) hl20) ?_;rintro w4 ⟨f4,ss4,F4,h4,hi4,hs4⟩;have hW3:w2.heap.size<=w3.heap.size:=hf3.size;refine⟨hf3.trans f4 λb hb1 hb2=> ?_,O,am,λu=>⟨λhu=>hO u hu,λ⟨g1,g2⟩=> ?_⟩,R.fr f4 λb hb e=>(N b hb).2 e,λb hb=>(N b hb).1,ss4,l1,F4,⟨h4,hi4,⟨al.1,by omega⟩,h3.tb,h3.ti,h3.t0⟩,λid u=> ?_,hlen,λb hb=> ?_,λb hb e=> ?_⟩
  ·rcases I b hb2 with g|g
   ·exact g
   ·omega
  ·refine Classical.byContradiction λhn=> ?_;have:=U _ u ((ab u.id u).2 ⟨g1,hn⟩);omega
  ·rw[ab];constructor
   ·rintro⟨g1,g2⟩;exact⟨g1,U id u ((ab id u).2 ⟨g1,g2⟩)⟩
   ·rintro⟨g1,g2⟩;exact⟨g1,λe=>by have:=(hO u e).2;omega⟩
  ·rcases hs4 b hb with g|g
   ·exact I b g
   ·exact .inr (by omega)
  ·rcases hs4 b e with g|g
   ·exact(N b hb).2 g
   ·have:=ag.lt hb;have:=f3.size;omega
 rcases ah with ⟨rfl,ae⟩|⟨rfl,u,hu,rfl,ar,Y⟩
 ·rw[Bool.not_false,cond_true];exact fin λid v hv=>by rw[ae id] at hv;cases hv
 ·rw[Bool.not_true,cond_false];by_cases ao:(u.a:Int)>(T:Int)
  ·rw[decide_eq_true ao];exact fin λid v hv=>by have:=Y id v hv;omega
  ·rw[decide_eq_false ao];have au:u.a<=T:=by omega
   simp only[J,cond_false];refine Ap (aaT h3.wm h3.wi ar (by omega) Y hl20) ?_;rintro w4 ⟨f4,ss4,F4,h4,hi4,hs4⟩;have ai:WS w4 d m ss4 l1 u.a tn most F4:=⟨h4,hi4,⟨al.1,by omega⟩,h3.tb,h3.ti,h3.t0⟩;refine NT (ahM ai) ?_;rintro r5 w5 ⟨f5,D,av,aa,hb5,hn5,ss5,l5,F5,h5,af,hlen5,hs5,hd5⟩;have aj:=R.fr f4 λb hb e=>(N b hb).2 e;have olt:∀b,iq.at out b->b<w3.heap.size:=λb hb=>R.lt hb;have out4:∀b,iq.at out b->¬pz d m ss4 b:=λb hb e=>by
    rcases hs4 b e with g|g
    ·exact(N b hb).2 g
    ·have:=olt b hb;omega
   have ak:=aj.fr f5 λb hb e=>out4 b hb e;have z3:=hf3.size;have z4:=f4.size;have z5:=f5.size;have hDl:D.length<=2^20:=by omega
   refine iV kN ak (hb5.sl kN (by omega)) rfl (by omega) Yt (by rw[length_map,length_map];omega) (by rw[length_map,length_map];omega) λo6 w6 b6 f6 n6=> ?_;have f24:iG w2 w4 (pz d m ss):=hf3.trans f4 λb hb1 hb2=>by
    rcases I b hb2 with g|g
    ·exact g
    ·omega
   have f25:iG w2 w5 (pz d m ss):=f24.trans f5 λb hb1 hb2=>by
    rcases hs4 b hb2 with g|g
    ·rcases I b g with g|g
     ·exact g
     ·omega
    ·omega
   have f26:iG w2 w6 (pz d m ss):=f25.trans f6 λb hb1 hb2=>by have:=(N b hb2).1;omega
   have out5:∀b,iq.at out b->¬pz d m ss5 b:=λb hb e=>by
    rcases hs5 b e with g|g
    ·exact out4 b hb g
    ·have:=olt b hb;omega
   have h6:=h5.fr f6 λb hb e=>out5 b e hb;rw[<- map_append] at b6;have hD0:0<D.length:=List.length_pos_of_mem ((aa u).2 ⟨by
    have:=(h3.wi.pl _ _ hu).1;rw[this];exact hu,rfl⟩)
   have b6l:=b6.len;have bol:=ag.len;rw[length_map] at b6l bol;rw[length_append] at b6l;refine ac _ _ ⟨O++D,ss5,l5,u.a,F5,h6,au,by omega,b6,λb hb=> ?_,?_,λid v=> ?_,λv hv=> ?_,λv hv id x hx=> ?_,by rw[length_append];omega,f26,λb hb=> ?_⟩ (by simp only[Nat.mul_zero,Nat.zero_add];omega)
   ·rcases n6 b hb with g|g
    ·exact⟨(N b g).1,out5 b g⟩
    ·refine⟨by omega,λe=> ?_⟩;have:=h5.wm.lt e;omega
   ·rw[List.pairwise_append];refine⟨am,av.imp_of_mem λ{x y} hx hy aw=> .inr ⟨?_,aw⟩,λx hx y hy=> .inl ?_⟩
    ·rw[((aa x).1 hx).2,((aa y).1 hy).2]
    ·exact an x hx _ y ((aa y).1 hy).1
   ·rw[af,ab,mem_append,not_or,and_assoc]
   ·rcases List.mem_append.1 hv with g|g
    ·exact hO v g
    ·obtain⟨g1,g2⟩:=(aa v).1 g;exact⟨((ab _ _).1 g1).1,by omega⟩
   ·obtain⟨q1,q2⟩:=(af id x).1 hx;rcases List.mem_append.1 hv with g|g
    ·exact an v g id x q1
    ·obtain⟨g1,g2⟩:=(aa v).1 g;have:=Y id x q1;have:x.a≠u.a:=λe=>q2 ((aa x).2 ⟨by rw[(h3.wi.pl _ _ q1).1];exact q1,e⟩);omega
   ·rcases hs5 b hb with g|g
    ·rcases hs4 b g with g|g
     ·exact I b g
     ·exact .inr (by omega)
    ·exact .inr (by omega)
end
end Go.Proofs.WN
end
section
namespace Go.Proofs.WN
open Gp Gp.Wh
theorem G7 {α β:Type} {enc:α->Value} {ev:β->Value} {w:World} {K:Addr->b_} (h:∀w1,rH enc ev w1 w.heap.size []->w1.heap.size=w.heap.size+1->Ext w w1->K ⟨w.heap.size,0,none⟩ w1):Al w (.map #[] 0) K:=
 h _ (rH.new w enc ev) (by simp) (λS=>iG.alloc w _ S)
theorem ac7 (n:Int) (hn:0<=n/\n<=1048576) (w:World):yZ n w λp e w'=>Ext w w'/\e=0/\∃d m ss,p=some ⟨d,0,none⟩/\WS w' d m ss [] 0 0 n (λ_ _=>[])/\∀b,pz d m ss b->w.heap.size<=b:=by
 apply Y8;have c1:¬n<0:=by omega
 have c2:¬n>1048576:=by omega
 simp only[c1,c2,decide_false,cond_false];refine G7 (enc:=Ti) (ev:=evT) λw4 m4 z4 f4=> ?_;refine iI λd w5 r5 e5 z5 f5=> ?_;have h:∀(i:Nat) (s:iq),(List.replicate 448 (⟨none,0,0⟩:iq))[i]? =some s->s=⟨none,0,0⟩:=λi s hi=>by
  rw[List.getElem?_replicate] at hi;split at hi
  ·cases hi;rfl
  ·cases hi
 have noat:∀b,¬atS (List.replicate 448 (⟨none,0,0⟩:iq)) b:=λb ⟨i,s,hi,o,hs⟩=>by rw[h i s hi] at hs;cases hs
 refine⟨f4.trans f5,by trivial,d,w.heap.size,List.replicate 448 ⟨none,0,0⟩,rfl,⟨⟨?_,by simp,m4.ext f5,by simp,λn k hn hk=> ?_,λi j s s' b hij hi hj hb=> ?_,λb hb=>absurd hb (noat b),by omega,λ_ _ _ _=>by simp⟩,⟨λid t ht=> ?_,by omega,λn k t hn hk=> ?_,λn k hn hk=>by simp⟩,⟨by omega,by simpa using hn.1⟩,λid t ht=> ?_,λi i' t u ht=> ?_,by omega⟩,λb hb=> ?_⟩
 ·rw[List.map_replicate];exact r5
 ·refine⟨⟨none,0,0⟩,?_,iW.nil⟩;rw[List.getElem?_replicate,if_pos (by omega)]
 ·rw[h i s hi] at hb;obtain⟨o,ho⟩:=hb;cases ho
 ·cases ht
 ·constructor
  ·intro hx;simp at hx
  ·rintro⟨hx,_⟩;cases hx
 ·cases ht
 ·cases ht
 ·rcases hb with rfl|rfl|hb
  ·omega
  ·omega
  ·exact absurd hb (noat b)
end Go.Proofs.WN
end
section
namespace Gp.Pool
end Gp.Pool
namespace Go.Proofs.CN
open Gp
theorem mx (a c:Int):(if c>a then c else a)=max a c:=by rw[Int.max_def];split<;>split<;>omega
def yP (l:List Int):List (G9 [.one (.int .i64)]):=l.map λp=>(p,())
def XY (w0 w:World) (v:Value) (l:List Int):Prop:=
 jr v=true/\∃C,tH Tryz.prog [.one (.int .i64)] v C (yP l)/\∀W S,iG w W S->(∀b,w0.heap.size<=b->b<w.heap.size->¬S b)->C W
end Go.Proofs.CN
namespace Go.Proofs.CN
open Gp
theorem XY.back {w0 w1 w:World} {v:Value} {l:List Int} (h:XY w1 w v l) (hf:w0.heap.size<=w1.heap.size):XY w0 w v l:=by
 obtain⟨h1,C,h2,h3⟩:=h;exact⟨h1,C,h2,λW S hF hS=>h3 W S hF λb hb u=>hS b (by omega) u⟩
end Go.Proofs.CN
namespace Go.Proofs.CN
end Go.Proofs.CN
namespace Go.Proofs.CN
open Gp
theorem N8 (a b:Int):(a==b)=decide (a=b):=rfl
theorem eqP (a b:Int):FH Tryz.prog 16 3 (.int .i64 a) (.int .i64 b)=some (decide (a=b)):=by
 have h:FH Tryz.prog 16 3 (.int .i64 a) (.int .i64 b)=some (a==b):=by kernel_rfl
 rw[h];rfl
theorem ahg (a:Int):oQ Tryz.prog 3 (.int .i64 a)=true:=by
 unfold oQ;rw[eqP];rfl
theorem CP (k:Int) (w:World):wB k w λr w'=>r=decide (0<=k/\k<4294967296)/\w'=w:=by
 apply WH;by_cases h:0<=k
 ·simp[h]
 ·simp[h]
end Go.Proofs.CN
namespace Go.Proofs.CN
open Gp
theorem zu {w w':World} {S:Nat->Prop} (h:iG w w' S) (l:Nat):iG (iD w l) (iD w' l) S:=by
 refine⟨by simpa [iD] using h.size,λb hb hn=> ?_,h.io⟩;have:=h.same b (by simpa [iD] using hb) hn;simp only[iD,getElem?_modify,this]
end Go.Proofs.CN
namespace Go.Proofs.CN
open Gp
theorem ZA {x y a:Int} (hy:0<=y) (hy2:y<=32) (w:World):rU x y a w λr w'=>r=(decide (0<=a/\a<4294967296) && (mW .i64 a (32 - y)==mW .i64 x (32 - y)))/\Ext w w':=by
 apply Qa;refine iI λt w1 r1 e1 z1 f1=> ?_;simp only[sx,r1.cell];refine FD (CP a _) ?_;rintro _ w' ⟨rfl,hw⟩;subst hw;have f2:=f1.trans (Ext.drew w1);by_cases h:0<=a/\a<4294967296
 ·rw[wrap_i64 (by omega) (by omega)];simp only[h,decide_true,cond_true,cond_true,List.getElem?_cons_zero,iy,iF,r1.drew.cell,and_self,Bool.true_and];exact⟨by omega,by omega,by trivial,f2⟩
 ·simp only[h,decide_false,cond_false,Bool.false_and];exact⟨by trivial,f2⟩
def acL (a:Int):Prop:=0<=a/\a<4294967296/\(mW .i64 a 24==mW .i64 0 24)=false/\(mW .i64 a 24==mW .i64 2130706432 24)=false/\(mW .i64 a 29==mW .i64 3758096384 29)=false
theorem ag8 {a:Int} (h:acL a) (w:World):qK a w λr w'=>r=true/\Ext w w':=by
 obtain⟨h1,h2,h3,h4,h5⟩:=h;apply P_;refine FD (CP a _) ?_;rintro _ w' ⟨rfl,hw⟩;subst hw;have hr:(0<=a/\a<4294967296):=⟨h1,h2⟩;simp only[hr,and_self,decide_true,Bool.not_true,cond_false];refine iI λt w1 r1 e1 z1 f1=> ?_;refine RS (K:=λr w2=>r=false/\Ext w1 w2) ?_ ?_
 ·apply Sr;refine iE (λst W=>∃j:Nat,j<=3/\st.1=(j:Int)/\Ext w1 W) (λst _=>(3 - st.1).toNat) ⟨0,by omega,rfl,Ext.refl _⟩ ?_;rintro⟨i,⟨⟩⟩ W ⟨j,hj,hi,hx⟩ next u
  simp only at hi;subst hi;have r:=r1.ext hx;by_cases I:j<3
  ·have hl:((j:Int)<((3:Nat):Int)):=by omega
   have J:∃x y:Int,0<=y/\y<=32/\(mW .i64 a (32 - y)==mW .i64 x (32 - y))=false/\W.cell? ⟨t,j * 2,none⟩=some (.int .i64 x)/\W.cell? ⟨t,j * 2+1,none⟩=some (.int .i64 y):=by
    match j,I with
    |0,_=>exact⟨0,8,by omega,by omega,h3,r.cell 0,r.cell 1⟩
    |1,_=>exact⟨2130706432,8,by omega,by omega,h4,r.cell 2,r.cell 3⟩
    |2,_=>exact⟨3758096384,3,by omega,by omega,h5,r.cell 4,r.cell 5⟩
   obtain⟨x,y,hy,hy2,hs,c0,c1⟩:=J;simp only[sx,hl,decide_true,toNat_natCast,c0,c1];refine⟨by first|trivial|omega,by first|trivial|omega,?_⟩
   refine FX rfl rfl λb w3 r3 e3 z3 x3=> ?_;simp only[sx,r3.cell];refine EX (ZA hy hy2 _) ?_;rintro _ w4 ⟨rfl,x4⟩;simp only[hs,Bool.and_false,cond_false];rw[wrap_i64 (by omega) (by omega)];exact u _ _ ⟨j+1,by omega,by simp,(hx.trans x3).trans x4⟩ (by simp only;omega)
  ·have hl:¬((j:Int)<((3:Nat):Int)):=by omega
   simp only[hl,decide_false,cond_false];exact⟨by trivial,hx⟩
 ·rintro _ w2 ⟨rfl,f2⟩;exact⟨rfl,f1.trans f2⟩
end Go.Proofs.CN
namespace Go.Proofs.CN
open Gp
theorem XQ {w:World} {K:Addr->b_} (h:∀w1,(∀(α:Type) (enc:α->Value),CS enc w1 w.heap.size [])->w1.heap.size=w.heap.size+1->Ext w w1->K ⟨w.heap.size,0,none⟩ w1):Al w (.map #[] 0) K:=
 h _ (λ_ enc=>CS.new w enc) (by simp) (λS=>iG.alloc w _ S)
end Go.Proofs.CN
end
