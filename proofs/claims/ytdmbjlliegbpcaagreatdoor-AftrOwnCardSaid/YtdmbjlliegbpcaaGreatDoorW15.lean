import Derived.Test.YtdmbjlliegbpcaaGreatDoorW14
import Derived.Test.YtdmbjlliegbpcaaGreatDoorW13
import Derived.Test.YtdmbjlliegbpcaaGreatDoorW10
import Derived.Test.YtdmbjlliegbpcaaGreatDoorW8
open List (getElem?_drop getElem?_eq_getElem getElem?_map getElem?_replicate getElem?_take_of_lt length_append length_drop map_cons mem_cons not_mem_nil)
set_option maxRecDepth 100000
set_option maxHeartbeats 4000000
section
namespace Go.Proofs.AN
open Gp Go.Proofs Go.Proofs.EN
variable {w w':θ}
structure Je (w:θ) (t m:Nat):Prop where
 r:∃a b c:Int,Row w t [.map (some m),Β a,Β b,Β c]
 h:∃clock,w.heap[m]? =some (.map #[] clock)
theorem Je.fr {S:Nat->Prop} {t m:Nat} (h:Je w t m) (hf:gW w w' S) (h1:¬S t) (h2:¬S m):Je w' t m:=by
 obtain⟨⟨a,b,c,hr⟩,k,hk⟩:=h;exact⟨⟨a,b,c,hr.fr hf h1⟩,k,by rw[hf.same m (Array.getElem?_eq_some_iff.1 hk).1 h2];exact hk⟩
theorem Je.ext {t m:Nat} (h:Je w t m) (hf:Ext w w'):Je w' t m:=h.fr (hf λ_=>False) id id
theorem Je.lt {t m:Nat} (h:Je w t m):t<w.heap.size/\m<w.heap.size:=by
 obtain⟨⟨a,b,c,hr⟩,k,hk⟩:=h;exact⟨hr.lt,(Array.getElem?_eq_some_iff.1 hk).1⟩
theorem abj {a b c:Int} (h1:0<=a/\a<=1073741824) (h2:0<=b/\b<=1073741824) (h3:1<=c/\c<=1099511627776) (w:θ) {K:fO->Int->b_} (hK:∀t m w',Ext w w'->Je w' t m->w.heap.size<=t->w.heap.size<=m->K (some ⟨t,0,none⟩) 0 w'):Ei a b c w K:=by
 apply Zq;intro J;have hJ:J false w:=by
  simp only[J,cond_false];unfold Ε Al;have x1:Ext w (w.alloc (.map #[] 0)):=λS=>gW.alloc _ _ S;have z1:(w.alloc (.map #[] 0)).heap.size=w.heap.size+1:=Array.size_push ..;have x2:Ext (w.alloc (.map #[] 0)) ((w.alloc (.map #[] 0)).alloc (.cells ⟨[.map (some w.heap.size),Β a,Β b,Β c]⟩ 132)):=λS=>gW.alloc _ _ S;refine hK _ w.heap.size _ (x1.trans x2) ⟨⟨a,b,c,Row.new _ _ 132⟩,0,?_⟩ (by omega) (Nat.le_refl _);rw[(x2 λ_=>False).same _ (by omega) id];exact World.alloc_heap_new w _
 clear_value J;have hw:∀(x lo hi:Int) (W:θ) (K:Value->b_),K (.bool (decide (lo<=x/\x<=hi))) W->jy υ [.one .bool] (Value.func (.func 46) #[] #[]) [Β x,Β lo,Β hi] W K:=by
  intro x lo hi W K hk;refine CN.kV (by kernel_rfl) ?_;have:LM x lo hi W λr W'=>r=decide (lo<=x/\x<=hi)/\W'=W:=by
   apply UQ;by_cases g:x>=lo
   ·rw[decide_eq_true g];exact⟨decide_eq_decide.2 ⟨λh=>⟨g,h⟩,λh=>h.2⟩,rfl⟩
   ·rw[decide_eq_false g];exact⟨(decide_eq_false λh=>g h.1).symm,rfl⟩
  refine Calls.mono this ?_;rintro ev W' ⟨r,he,rfl,rfl⟩;exact⟨_,he,hk⟩
 refine hw _ _ _ _ _ ⟨_,rfl,?_⟩;rw[decide_eq_true h1,Bool.not_true,cond_false];refine hw _ _ _ _ _ ⟨_,rfl,?_⟩;rw[decide_eq_true h2,Bool.not_true,cond_false];refine hw _ _ _ _ _ ⟨_,rfl,?_⟩;rw[decide_eq_true h3];exact hJ
theorem VO {t m:Nat} (h:Je w t m):o_ (some ⟨t,0,none⟩) w λr w'=>r=true/\w'=w:=by
 obtain⟨⟨a,b,c,hr⟩,_⟩:=h;apply Jm;intro J;exact iI.2 (yw (k:= .map) (i:=0) (x:=some m) hr rfl ⟨rfl,rfl⟩)
theorem VL {t m:Nat} (h:Je w t m):o9 (some ⟨t,0,none⟩) w λr w'=>r=0/\Ext w w':=by
 apply Jl;refine cmS0 (VO h) ?_;rintro _ w ⟨rfl,hw⟩;subst hw;rw[Bool.not_true,cond_false];obtain⟨⟨a,b,c,hr⟩,k,hk⟩:=h;apply Nb;refine iI.2 (yw (k:= .map) (i:=0) (x:=some m) hr rfl ?_);refine .inr ⟨m,#[],k,rfl,hk,?_⟩;have x1:Ext w (w.alloc (.mapIter (some m) k #[] k)):=λS=>gW.alloc _ _ S;refine gX (λs W=>s.1=0/\W=w.alloc (.mapIter (some m) k #[] k)) (λ_ _=>0) ⟨rfl,rfl⟩ ?_;rintro⟨s,⟨⟩⟩ _ ⟨hs,rfl⟩ next _
 simp only at hs;subst hs;refine⟨rfl,.inr ⟨m,k,#[],k,#[],k,World.alloc_heap_new w _,?_,λx hx=>by simp at hx,Nat.le_refl _,λ_=>⟨rfl,x1⟩,λe he=>by simp[leftOf] at he⟩⟩;rw[(x1 λ_=>False).same _ (Array.getElem?_eq_some_iff.1 hk).1 id];exact hk
theorem Zb {t m:Nat} (h:Je w t m):qy (some ⟨t,0,none⟩) w λr w'=>r=0/\w'=w:=by
 apply KX;refine cmS0 (VO h) ?_;rintro _ w ⟨rfl,hw⟩;subst hw;rw[Bool.not_true,cond_false];obtain⟨⟨a,b,c,hr⟩,k,hk⟩:=h;exact iI.2 (yw (k:= .map) (i:=0) (x:=some m) hr rfl ⟨#[],k,hk,rfl,rfl⟩)
structure AA where
 x:Nat
 e:EA
 k:Nat
 ks:Nat
 t4:Nat
 m4:Nat
 t6:Nat
 m6:Nat
def eI (n:Int):Value:= Β n
def AA.own (A:AA) (z:Nat):Prop:=z=A.x\/z=A.k\/z=A.ks\/z=A.t4\/z=A.m4\/z=A.t6\/z=A.m6
structure Ae (w:θ) (A:AA) (c:Cf) (e:ES):Prop where
 hd:Row w A.x ([.pointer (some ⟨A.t6,0,none⟩),.pointer (some ⟨A.t4,0,none⟩)]++c.C++[.pointer (some ⟨A.e.x,0,none⟩),.pointer (some ⟨A.k,0,none⟩),Β 0,Β 1])
 en:nH w A.e c e
 kr:Row w A.k [.slice (some ⟨A.ks,0,none⟩) 14 14]
 cr:∃cl:List Int,cl.length=14/\Row w A.ks (cl.map eI)
 j4:Je w A.t4 A.m4
 j6:Je w A.t6 A.m6
 no:∀z,A.own z->¬jK A.e z
section
variable {A:AA} {c:Cf} {e:ES}
theorem Ae.lt (h:Ae w A c e) {z:Nat} (hz:A.own z):z<w.heap.size:=by
 obtain⟨cl,_,hr⟩:=h.cr;rcases hz with rfl|rfl|rfl|rfl|rfl|rfl|rfl
 all_goals first|exact h.hd.lt|exact h.kr.lt|exact hr.lt|exact h.j4.lt.1|exact h.j4.lt.2|exact h.j6.lt.1|exact h.j6.lt.2
theorem Ae.fr {S:Nat->Prop} (h:Ae w A c e) (hf:gW w w' S) (h1:∀z,A.own z->¬S z) (h2:∀z,jK A.e z->¬S z):Ae w' A c e:=by
 obtain⟨cl,hl,hr⟩:=h.cr;exact⟨h.hd.fr hf (h1 _ (.inl rfl)),h.en.fr hf λk z hz=>h2 z ⟨k,hz⟩,h.kr.fr hf (h1 _ (.inr (.inl rfl))),⟨cl,hl,hr.fr hf (h1 _ (.inr (.inr (.inl rfl))))⟩,
  h.j4.fr hf (h1 _ (by simp[AA.own])) (h1 _ (by simp[AA.own])),h.j6.fr hf (h1 _ (by simp[AA.own])) (h1 _ (by simp[AA.own])),h.no⟩
theorem Ae.ext (h:Ae w A c e) (hf:Ext w w'):Ae w' A c e:=h.fr (hf λ_=>False) (λ_ _=>id) λ_ _=>id
theorem Ae.ajk (h:Ae w A c e) (hf:gW w w' (jK A.e)) {a':EA} {e':ES} (hE:nH w' a' c e') (hg:Grow A.e a' w.heap.size) (hx:a'.x=A.e.x):Ae w' {A with e:=a'} c e':=by
 obtain⟨cl,hl,hr⟩:=h.cr;refine⟨by rw[hx];exact h.hd.fr hf (h.no _ (.inl rfl)),hE,h.kr.fr hf (h.no _ (.inr (.inl rfl))),⟨cl,hl,hr.fr hf (h.no _ (.inr (.inr (.inl rfl))))⟩,
  h.j4.fr hf (h.no _ (by simp[AA.own])) (h.no _ (by simp[AA.own])),h.j6.fr hf (h.no _ (by simp[AA.own])) (h.no _ (by simp[AA.own])),λz hz ho=> ?_⟩
 rcases hg z ho with ho|ho
 ·exact h.no z hz ho
 ·have:=h.lt hz;omega
theorem Ae.ks (h:Ae w A c e):A.ks≠A.x/\A.ks≠A.k/\A.ks≠A.t4/\A.ks≠A.m4/\A.ks≠A.t6/\A.ks≠A.m6:=by
 obtain⟨cl,hl,hr⟩:=h.cr;have key:∀{z l},Row w z l->(∀x,l[0]?≠some (Β x))->A.ks≠z:=λ{z l} hz hn e=>by
  have h1:=hr.cell 0;have h2:=hz.cell 0;rw[e,h2] at h1;obtain⟨y,hy⟩:∃y,cl[0]? =some y:=⟨_,getElem?_eq_getElem (by omega)⟩;rw[getElem?_map,hy] at h1;exact hn y h1
 have kj:∀{t m},Je w t m->A.ks≠t/\A.ks≠m:=λ{t m} hj=>by
  obtain⟨⟨a,b,c,hz⟩,k,hk⟩:=hj;refine⟨key hz λx h=>by simp at h,λe=> ?_⟩;obtain⟨T,hT⟩:=hr;rw[e,hk] at hT;cases hT
 exact⟨key h.hd λx h=>by simp at h,key h.kr λx h=>by simp at h,(kj h.j4).1,(kj h.j4).2,(kj h.j6).1,(kj h.j6).2⟩
theorem Ae.ajj (h:Ae w A c e) (hf:gW w w' (·=A.ks)) {cl:List Int} (hl:cl.length=14) (hr:Row w' A.ks (cl.map eI)):Ae w' A c e:=by
 obtain⟨k1,k2,k3,k4,k5,k6⟩:=h.ks;exact⟨h.hd.fr hf k1.symm,h.en.fr hf λk z hz e=>h.no A.ks (by simp[AA.own]) ⟨k,e ▸ hz⟩,h.kr.fr hf k2.symm,⟨cl,hl,hr⟩,h.j4.fr hf k3.symm k4.symm,h.j6.fr hf k5.symm k6.symm,h.no⟩
end
end Go.Proofs.AN
end
section
namespace Go.Proofs.AN
open Gp Go.Proofs Go.Proofs.EN
open Go.Proofs.CN (SlN_ix T16 T7 e16 e7 chk chk_one OkP fineP)
variable {w w':θ} {A:AA} {c:Cf} {e:ES}
theorem RQ (h:Ae w A c e) (i:Int):sJ (some ⟨A.k,0,none⟩) i w λr w'=>r=decide (0<=i/\i<14)/\w'=w:=by
 apply G9;intro J;have hJ:∀q,q=decide (0<=i/\i<14)->J q:=λq hq=>⟨hq,rfl⟩;clear_value J;show cond true _ _;rw[cond_true];by_cases hi:i>=0
 ·rw[decide_eq_true hi,cond_true];exact iI.2 (Ld_s 0 (⟨some ⟨A.ks,0,none⟩,14,14⟩) h.kr (hJ _ (decide_eq_decide.2 ⟨λh=>⟨hi,h⟩,λh=>h.2⟩)))
 ·rw[decide_eq_false hi,cond_false];exact hJ _ (decide_eq_false λh1=>hi h1.1).symm
theorem afT (h:Ae w A c e) (i:Int):iP (some ⟨A.x,0,none⟩) i w λs r w'=>s=⟨none,0,0⟩/\r=i/\gW w w' (·=A.ks)/\Ae w' A c e:=by
 apply MP;have N:w.cell? ⟨A.x,39,none⟩=some (.pointer (some ⟨A.k,0,none⟩)):=by
  have:=h.en.cf.len;rw[h.hd.cell,List.getElem?_append_right (by simp[this]),length_append,this];rfl
 refine iI.2 (iH (k:= .ptr) (y:=some ⟨A.k,0,none⟩) (by rw[gy];exact N) ?_)
 suffices hC:sH (some ⟨A.k,0,none⟩) i w λ_ w'=>gW w w' (·=A.ks)/\Ae w' A c e from cmS0 hC λ_ w1 ⟨f1,h1⟩=>⟨rfl,rfl,f1,h1⟩
 apply G8;intro J;have u:J true w:=by
  simp only[J,cond_true];exact⟨gW.refl _ _,h⟩
 have O:0<=i/\i<14->J false w:=by
  intro hi;simp only[J,cond_false];obtain⟨cl,hl,hr⟩:=h.cr;have hg:=getElem?_eq_getElem (show i.toNat<cl.length by omega);generalize cl[i.toNat]=y at hg;refine iI.2 (Ld_s 0 (⟨some ⟨A.ks,0,none⟩,14,14⟩) h.kr ?_);have I:∀{K:Addr->Prop},K ⟨A.ks,i.toNat,none⟩->iM ⟨some ⟨A.ks,0,none⟩,14,14⟩ 1 i K:=by
   intro K hK;refine(uQ _ _ _ _ _ _).2 ⟨hi.1,by omega,?_⟩;rw[gy,Nat.zero_add,Nat.mul_one];exact hK
  refine I (iH (k:= .int .i64) (y:=y) (by rw[hr.cell,getElem?_map,hg];rfl) (I ?_));refine g_ (i:=i.toNat) hr rfl (by rw[List.length_map];omega) λw1 r1 f1 z1=> ?_;have f1:gW w w1 (·=A.ks):=f1 _ rfl;rw[show (cl.map eI).set i.toNat (Β (ο.wrap (y+1)))=(cl.set i.toNat (ο.wrap (y+1))).map eI by rw[List.map_set];rfl] at r1;exact⟨f1,h.ajj f1 (by rw[List.length_set];exact hl) r1⟩
 clear_value J;refine cmS0 (RQ h i) ?_;rintro r w1 ⟨rfl,rfl⟩;by_cases hi:0<=i/\i<14
 ·rw[decide_eq_true hi,Bool.not_true,cond_false]
  cases (i==0)
  ·exact O hi
  ·exact u
 ·rw[decide_eq_false hi,Bool.not_false,cond_true];exact u
theorem afF (w:θ) {K:fO->b_} (hK:∀k ks w',Ext w w'->Row w' k [.slice (some ⟨ks,0,none⟩) 14 14]->Row w' ks ((List.replicate 14 (0:Int)).map eI)->w.heap.size<=k->w.heap.size<=ks->K (some ⟨k,0,none⟩) w'):Ed w K:=by
 apply UJ;refine Dc (by omega) (by omega) (by omega) (by omega) λb w1 r1 e1 z1 f1=> ?_;refine gq λa w2 r2 e2 z2 f2=> ?_;exact hK a b w2 (Ext.trans f1 f2) r2 (r1.ext f2) (by omega) (by omega)
theorem aaY {w:θ} {p0 p1 p2 p3 p4 p5 p6 p7 p8 p9 p10 p11 p12 p13 p14 p15:Int} {sw po:fU} {U Y R u I J N Z aa ac af ag ah ai aj ak O:Int} {st:fU} {sl:List T16} {pl:List Int} (ay:mQ 16 e16 w sw sl) (az:mQ 1 CN.eI w po pl) (aA:mQ 7 e7 w st ([]:List T7)) (lsw:sw.len<=2^40) (lpo:po.len<=2^40) (lst:st.len=0)
  (aq:chk (p0,p1,p2,p3,p4,p5,p6,p7,p8,p9,p10,p11,p12,p13,p14,p15,()) sw.len po.len st.len U Y R u I J N Z aa ac af ag ah ai aj ak O sw.len sl pl [] 0)
  (av:0<=J/\J<=1073741824) (aw:0<=N/\N<=1073741824) (ax:1<=O/\O<=1099511627776)
  {K:fO->Int->b_}
  (hK:∀A w',OkP (p0,p1,p2,p3,p4,p5,p6,p7,p8,p9,p10,p11,p12,p13,p14,p15,()) sw.len po.len st.len U Y R u I J N Z aa ac af ag ah ai aj ak O sw.len sl pl []->
   fineP (p0,p1,p2,p3,p4,p5,p6,p7,p8,p9,p10,p11,p12,p13,p14,p15,()) sl pl [] sw.len R->Ext w w'->
   Ae w' A ⟨jO p0 p1 p2 p3 p4 p5 p6 p7 p8 p9 p10 p11 p12 p13 p14 p15 sw po U Y R u I J N Z aa ac af ag ah ai aj ak O st,sw,pl,U,Y,R,u,I⟩ (e0 sw.len u.toNat I.toNat)->Inv ⟨jO p0 p1 p2 p3 p4 p5 p6 p7 p8 p9 p10 p11 p12 p13 p14 p15 sw po U Y R u I J N Z aa ac af ag ah ai aj ak O st,sw,pl,U,Y,R,u,I⟩ (e0 sw.len u.toNat I.toNat)->(∀z,A.own z\/jK A.e z->w.heap.size<=z)->K (some ⟨A.x,0,none⟩) 0 w'):
  D_ p0 p1 p2 p3 p4 p5 p6 p7 p8 p9 p10 p11 p12 p13 p14 p15 sw po U Y R u I J N Z aa ac af ag ah ai aj ak O st w K:=by
 apply Zi;refine gq λa w1 r1 e1 z1 f1=> ?_;have rd:∀W (Q:_),Row W a (jO p0 p1 p2 p3 p4 p5 p6 p7 p8 p9 p10 p11 p12 p13 p14 p15 sw po U Y R u I J N Z aa ac af ag ah ai aj ak O st)->Q p0 p1 p2 p3 p4 p5 p6 p7 p8 p9 p10 p11 p12 p13 p14 p15 sw po U Y R u I J N Z aa ac af ag ah ai aj ak O st->uS W ⟨a,0,none⟩ Q:=by
  intro W Q hr hq;simp only[sx,hr.cell];exact hq
 refine rd _ _ r1 ?_;refine agt (ay.ext f1) (az.ext f1) (aA.ext f1) (by omega) (by omega) (by omega) (λr w' _ hr hc=>absurd (chk_one hc aq) hr) λaB am w2 ea e f2 hE hI _ hM ar=> ?_;have he:e=e0 sw.len u.toNat I.toNat:=by
  have hM:Maps _ (e0 sw.len u.toNat I.toNat) [] e:=hM;generalize hq:([]:List Gp.Bind.Bnd)=q at hM
  cases hM with
  |nil=>rfl
  |no=>simp at hq
  |yes=>simp at hq
 subst he;have r2:=(r1.ext f2).drew;have x2:=f1.trans f2;show cond false _ _;rw[cond_false];refine rd _ _ r2 ?_;refine afF _ λk ks w3 f3 rk rks k1 k2=> ?_;have f3:Ext w2 w3:=(Ext.drew w2).trans f3;have k1:w2.heap.size<=k:=k1;have k2:w2.heap.size<=ks:=k2;have r3:Row w3 a (jO p0 p1 p2 p3 p4 p5 p6 p7 p8 p9 p10 p11 p12 p13 p14 p15 sw po U Y R u I J N Z aa ac af ag ah ai aj ak O st):=r1.ext (f2.trans f3);refine qF r3 ?_;refine gq λx w4 r4 e4 z4 f4=> ?_;have an:=r3.ext f4;refine Ld_i 23 J an (Ld_i 24 N an (Ld_i 34 O an ?_));refine abj av aw ax w4 λt6 m6 w5 f5 hJ6 a1 a2=> ?_;refine iI.2 (g_ (i:=0) (r4.ext f5) rfl (by simp) λw6 r6 f6' z6=> ?_);have f6:gW w5 w6 (·=x):=f6' _ rfl;have z5:=f5.size;have au:=(an.ext f5).fr f6 (by have:=r3.lt;omega);refine Ld_i 23 J au (Ld_i 24 N au (Ld_i 34 O au ?_));refine abj av aw ax w6 λt4 m4 w7 f7 hJ4 b1 b2=> ?_;refine iI.2 (g_ (i:=1) (r6.ext f7) rfl (by simp) λw8 r8 f8' z8=> ?_);have f8:gW w7 w8 (·=x):=f8' _ rfl;have z7:=f7.size;simp only[List.set_cons_zero,List.set_cons_succ] at r8;have z1:=f1.size;have z2:=f2.size;have z3:=f3.size;have zz4:=f4.size;have ao:∀z,jK ea z->w1.heap.size<=z/\z<w2.heap.size:=λz ⟨j,hj⟩=>⟨ar j z hj,hE.lt j z hj⟩;have g4:Ext w w4:=(x2.trans f3).trans f4;have q6:=hJ6.lt;refine hK ⟨x,ea,k,ks,t4,m4,t6,m6⟩ w8 aB am ((((g4.trans f5).nw f6).trans f7).nw f8) ⟨r8,?_,?_,⟨List.replicate 14 0,rfl,?_⟩,?_,?_,λz hz ho=> ?_⟩ hI λz hz=> ?_
 ·exact((((hE.ext (f3.trans f4)).ext f5).fr f6 λj z hz e=>by have:=ao z ⟨j,hz⟩;omega).ext f7).fr f8 λj z hz e=>by have:=ao z ⟨j,hz⟩;omega
 ·exact((((rk.ext f4).ext f5).fr f6 (by have:=rk.lt;omega)).ext f7).fr f8 (by have:=rk.lt;omega)
 ·exact((((rks.ext f4).ext f5).fr f6 (by have:=rks.lt;omega)).ext f7).fr f8 (by have:=rks.lt;omega)
 ·exact hJ4.fr f8 (by show ¬t4=x;omega) (by show ¬m4=x;omega)
 ·exact((hJ6.fr f6 (by show ¬t6=x;omega) (by show ¬m6=x;omega)).ext f7).fr f8 (by show ¬t6=x;omega) (by show ¬m6=x;omega)
 ·have:=ao z ho;simp only[AA.own] at hz;omega
 ·simp only[AA.own] at hz;rcases hz with hz|hz
  ·omega
  ·have:=ao z hz;omega
end Go.Proofs.AN
end
section
namespace Go.Proofs.AN
open Gp Gp.V4 Go.Proofs Go.Proofs.EN Go.Proofs.VN
open Go.Proofs.CN (SlN_ix T16 T7 e16 e16_len ownT)
variable {w0 w w':θ} {A:AA} {bs bp:Nat} {e:ES}
theorem UA {w:θ} {ad:Addr} {d0 d1 d2 d3 d4 d5 d6 d7 d8 d9 d10 d11 d12 d13 d14 d15:Int} {K:Int->Int->Int->Int->Int->Int->Int->Int->Int->Int->Int->Int->Int->Int->Int->Int->Prop} (hc:∀j,j<16->w.cell? (ad.add j)=(iZ d0 d1 d2 d3 d4 d5 d6 d7 d8 d9 d10 d11 d12 d13 d14 d15)[j]?) (hK:K d0 d1 d2 d3 d4 d5 d6 d7 d8 d9 d10 d11 d12 d13 d14 d15):nM w ad K:=by
 unfold nM;refine⟨d0,hc 0 (by omega),?_⟩;refine⟨d1,hc 1 (by omega),?_⟩;refine⟨d2,hc 2 (by omega),?_⟩;refine⟨d3,hc 3 (by omega),?_⟩;refine⟨d4,hc 4 (by omega),?_⟩;refine⟨d5,hc 5 (by omega),?_⟩;refine⟨d6,hc 6 (by omega),?_⟩;refine⟨d7,hc 7 (by omega),?_⟩;refine⟨d8,hc 8 (by omega),?_⟩;refine⟨d9,hc 9 (by omega),?_⟩;refine⟨d10,hc 10 (by omega),?_⟩;refine⟨d11,hc 11 (by omega),?_⟩;refine⟨d12,hc 12 (by omega),?_⟩;refine⟨d13,hc 13 (by omega),?_⟩;refine⟨d14,hc 14 (by omega),?_⟩;refine⟨d15,hc 15 (by omega),?_⟩;exact hK
theorem YQ {w:θ} {ad:Addr} {R:Prop} (hR:R):∀(vs:List Value) (i:Nat),(∀j,j<vs.length->w.cell? (ad.add (i+j))=vs[j]?)->u_ vs w ad i R
 |[],_,_=>(iC _ _ _ _).2 hR
 |v::vs,i,h=>(h_ _ _ _ _ _ _).2 ⟨h 0 (by simp),YQ hR vs (i+1) λj hj=>by rw[show i+1+j=i+(j+1) by omega];exact h (j+1) (by simpa using hj)⟩
abbrev jW (bs bp:Nat):Cf:=⟨jO 32 1 13 184 0 0 0 0 0 0 0 0 0 0 0 1 ⟨some ⟨bs,0,none⟩,2,2⟩ ⟨some ⟨bp,0,none⟩,1,1⟩ 1024 65535 16 64 128 8 1048576 1500 1500 64 0 2 300 7440 240 60 60 ⟨none,0,0⟩,⟨some ⟨bs,0,none⟩,2,2⟩,[3325256705],1024,65535,16,64,128⟩
structure Ab (w0 w:θ) (A:AA) (bs bp:Nat) (e:ES):Prop where
 ae:Ae w A (jW bs bp) e
 x0:Ext w0 w
 lo:∀z,A.own z\/jK A.e z->w0.heap.size<=z
 sl:mQ 16 e16 w0 ⟨some ⟨bs,0,none⟩,2,2⟩ [ownT 1,ownT 2]
theorem Ab.ext (h:Ab w0 w A bs bp e) (hf:Ext w w'):Ab w0 w' A bs bp e:=⟨h.ae.ext hf,h.x0.trans hf,h.lo,h.sl⟩
theorem Ab.cell (h:Ab w0 w A bs bp e) (j:Nat):w.cell? (Addr.add ⟨A.x,0,none⟩ j)=([.pointer (some ⟨A.t6,0,none⟩),.pointer (some ⟨A.t4,0,none⟩)]++(jW bs bp).C++[.pointer (some ⟨A.e.x,0,none⟩),.pointer (some ⟨A.k,0,none⟩),Β 0,Β 1])[j]? :=by
 rw[gy,Nat.zero_add,h.ae.hd.cell]
abbrev Θ (i:Nat):List UInt8:=[32,1,13,184,0,UInt8.ofNat i,0,0,0,0,0,0,0,0,0,1]
theorem NU {i:Nat} (h:i<256):[32,1,13,184,0,(i:Int),0,0,0,0,0,0,0,0,0,1]=bi (Θ i):=by
 have:i % 256=i:=Nat.mod_eq_of_lt h;simp[bi,Θ,this]
theorem YM (p:jG) {o d:fU} (ho:iq w o p.opts) (hd:iq w d p.data) (h1:p.opts.length<=2^40) (h2:p.data.length<=2^40) {K:fU->b_}
  (hK:∀r l w',Ext w w'->iq w' r l->l.length<=20+p.opts.length+p.data.length->(p.check=0->l=p.bytes)->K r w'):
  oV p.tos p.id p.off p.ttl p.proto p.src p.dst p.df p.mf o d w K:=by
 apply UG;refine gq λa w1 r1 e1 z1 f1=> ?_;refine jF r1 ?_;refine cmS3 (adR p (ho.ext f1) (hd.ext f1) (by omega) (by omega)) ?_;rintro r ee w2 ⟨_,h3,h4,f2,_⟩;by_cases hc:p.check=0
 ·refine hK r _ w2 (f1.trans f2) (iq.iD (h4 hc)) ?_ λ_=>rfl;unfold jG.bytes;rw[length_append,vX];omega
 ·rw[h3 hc];exact hK _ [] w2 (f1.trans f2) iq.nil (by simp) λh=>absurd h hc
def eW (x:Int×fU):List Value:=[Β x.1,.slice x.2.a x.2.len x.2.cap]
theorem Oj (x:Int×fU):(eW x).length=2:=rfl
theorem aee (x:Int×fU):∀v∈eW x,iL v=true:=by
 intro v hv;simp only[eW,mem_cons,not_mem_nil,or_false] at hv;rcases hv with rfl|rfl<;>rfl
theorem adW {s d l:List UInt8} (hl:l.length<=65535):(⟨0,0,4,64,s,d,l⟩:vF).check=0:=by
 unfold vF.check;rw[if_pos (by simp[vF.fine,iK,mg]),if_pos hl]
theorem afK (q:vF) {t0 t1 t2 t3 d4 d5 d6 d7 d8 d9 d10 d11 d12 d13 d14 d15 d16 d17 d18 d19 d20 d21 d22 d23 d24 d25 d26 d27 d28 d29 d30 d31 d32 d33 d34 d35:Int} {s:fU} (h:JV w q t0 t1 t2 t3 [d4,d5,d6,d7,d8,d9,d10,d11,d12,d13,d14,d15,d16,d17,d18,d19] [d20,d21,d22,d23,d24,d25,d26,d27,d28,d29,d30,d31,d32,d33,d34,d35] s) (hc:q.check=0) (hl:q.data.length<=1000) {id mtu:Int} (ac:iK id 4) (hm:1280<=mtu/\mtu<=65535)
  {K:fU->Int->b_} (hK:∀b s' w',Ext w w'->Row w' b (jc t0 t1 t2 t3 d4 d5 d6 d7 d8 d9 d10 d11 d12 d13 d14 d15 d16 d17 d18 d19 d20 d21 d22 d23 d24 d25 d26 d27 d28 d29 d30 d31 d32 d33 d34 d35 s')->JV w' q t0 t1 t2 t3 [d4,d5,d6,d7,d8,d9,d10,d11,d12,d13,d14,d15,d16,d17,d18,d19] [d20,d21,d22,d23,d24,d25,d26,d27,d28,d29,d30,d31,d32,d33,d34,d35] s'->K ⟨some ⟨b,0,none⟩,1,1⟩ 0 w'):
  J_ t0 t1 t2 t3 d4 d5 d6 d7 d8 d9 d10 d11 d12 d13 d14 d15 d16 d17 d18 d19 d20 d21 d22 d23 d24 d25 d26 d27 d28 d29 d30 d31 d32 d33 d34 d35 s id mtu w K:=by
 apply Zn;refine gq λa w1 r1 e1 z1 f1=>⟨rfl,?_⟩;refine gq λb w2 r2 e2 z2 f2=>gq λu w3 r3 e3 z3 f3=>gq λv w4 r4 e4 z4 f4=> ?_;have I:=((r1.ext f2).ext f3).ext f4;have af:=(r2.ext f3).ext f4;have Y:=r3.ext f4;have x4:=((f1.trans f2).trans f3).trans f4;have s1:=f1.size;have s2:=f2.size;have s3:=f3.size;have s4:=f4.size;intro J;have hJ:J false w4:=by
  simp only[J,cond_false];obtain⟨⟨rfl,rfl,rfl,rfl⟩,N,O,hs⟩:=h;refine Z4 I ?_;refine cmS1 (Oa q (hs.ext x4).1 w4) ?_;rintro _ w5 ⟨rfl,f5⟩;rw[hc,show ((0:Int) !=0)=false from rfl,cond_false];refine Z4 (I.ext f5) ?_;have hsl:=hs.1;refine cmS1 (afh _ _ _ _ _ _ _ _ _ _ _ _ _ _ _ _ _ _ _ _ _ _ _ _ _ _ _ _ _ _ _ _ _ _ _ _ (by omega)) ?_;rintro _ w6 ⟨rfl,f6⟩;rw[decide_eq_true (by omega),cond_true];have x6:=f5.trans f6;refine Ld_s 36 s (I.ext x6) ?_;refine cmS2 (kC (hs.ext (x4.trans x6)) (by omega)) ?_;rintro so w7 ⟨b7,_,f7,n7⟩;have s7:=f7.size;have s6:=x6.size;refine g_ (i:=36) (I.ext (x6.trans f7)) rfl (by simp) λw8 r8 f8' z8=> ?_;have f8:gW w7 w8 (·=a):=f8' _ rfl;simp only[List.set_cons_zero,List.set_cons_succ] at r8;refine Z4 r8 ?_;refine gq λg w9 r9 e9 z9 f9=> ?_;have X7:=x6.trans f7;have lu:=Y.lt;have lv:=r4.lt;have la:=I.lt;have ru:=((Y.ext X7).fr f8 (by omega)).ext f9;have rv:=((r4.ext X7).fr f8 (by omega)).ext f9;refine g_ (i:=0) ru rfl (by simp) λZ ag R z10=> ?_;have f10:gW w9 Z (·=u):=R _ rfl;refine g_ (i:=0) (rv.fr f10 (by omega)) rfl (by simp) λaa ah U z11=> ?_;have f11:gW Z aa (·=v):=U _ rfl;refine Ld_s 0 (⟨some ⟨g,0,none⟩,1,1⟩) (ag.fr f11 (by omega)) (Ld_i 0 (0:Int) ah ?_);refine hK g so aa (((((x4.trans X7).nw f8).trans f9).nw f10).nw f11) ((r9.fr f10 (by omega)).fr f11 (by omega)) ⟨⟨rfl,rfl,rfl,rfl⟩,N,O,?_⟩;have nb:∀ad:Addr,so.a=some ad->w4.heap.size<=ad.block:=λad ha=>by have:=n7 ad.block (QV b7 ha);omega
  exact((((iq.iD b7).fr f8 λad ha _ e=>by have:=nb ad ha;omega).ext f9).fr f10 λad ha _ e=>by have:=nb ad ha;omega).fr f11 λad ha _ e=>by have:=nb ad ha;omega
 clear_value J;rw[decide_eq_false (by omega),cond_false,decide_eq_false (show ¬mtu>65535 by omega),cond_false];refine Ld_i 0 id af ?_;refine cmS0 (mO id 4 w4) ?_;rintro _ _ ⟨rfl,rfl⟩;rw[decide_eq_true ac];exact hJ
theorem afR (h:Ab w0 w A bs bp e) {i:Nat} (hi:i<2) (p:jG) {o d:fU} (ho:iq w o p.opts) (hd:iq w d p.data) (hl:p.opts.length+p.data.length<=900) {K:fU->b_}
  (hK:∀s r w',Ext w w'->iV 2 eW w' r [((i:Int),s)]->K r w'):
  wO (some ⟨A.x,0,none⟩) (i:Int) p.tos p.id p.off p.ttl p.proto p.src p.dst p.df p.mf o d w K:=by
 apply MO;refine gq λa w1 r1 e1 z1 f1=> ?_;have h1:=(h.ext f1).ext (Ext.drew w1);have r1:=r1.drew;intro J;have hJ:∀(b:Nat) t0 t1 t2 t3 d4 d5 d6 d7 d8 d9 d10 d11 d12 d13 d14 d15 d16 d17 d18 d19 d20 d21 d22 d23 d24 d25 d26 d27 d28 d29 d30 d31 d32 d33 d34 d35 (s:fU) (q:vF) W,Ext w1.drew W->Row W b (jc t0 t1 t2 t3 d4 d5 d6 d7 d8 d9 d10 d11 d12 d13 d14 d15 d16 d17 d18 d19 d20 d21 d22 d23 d24 d25 d26 d27 d28 d29 d30 d31 d32 d33 d34 d35 s)->JV W q t0 t1 t2 t3 [d4,d5,d6,d7,d8,d9,d10,d11,d12,d13,d14,d15,d16,d17,d18,d19] [d20,d21,d22,d23,d24,d25,d26,d27,d28,d29,d30,d31,d32,d33,d34,d35] s->q.check=0->q.data.length<=1000->J ⟨b,0,none⟩ 0 W:=by
  intro b t0 t1 t2 t3 d4 d5 d6 d7 d8 d9 d10 d11 d12 d13 d14 d15 d16 d17 d18 d19 d20 d21 d22 d23 d24 d25 d26 d27 d28 d29 d30 d31 d32 d33 d34 d35 s q W hW hr hq hc hl;have U:=hW.trans (Ext.drew W);have hA:=h1.ext U;simp -zeta only[J];rw[show ((0:Int) !=0)=false from rfl,cond_false];refine Z4 hr.drew ?_;refine iI.2 (iH (k:= .int .i64) (y:=(1:Int)) (by rw[hA.cell];rfl) (iI.2 (iH (k:= .int .i64) (y:=(1500:Int)) (by rw[gy,gy,Nat.zero_add];exact(hA.ae.hd.cell _).trans rfl) ?_)));refine afK q (hq.ext (Ext.drew W)) hc hl ⟨by decide,by decide,by decide⟩ ⟨by omega,by omega⟩ λg s' w2 f2 r2 q2=> ?_;rw[show ((0:Int) !=0)=false from rfl,cond_false];intro Y;rw[show decide (((1:Nat):Int)>1)=false from rfl,cond_false];simp -zeta only[Y];refine gX (λst V=>(st.2.1=0/\st.1=⟨none,0,0⟩/\V=w2)\/(st.2.1=1/\Ext w2 V/\∃s,iV 2 eW V st.1 [((i:Int),s)])) (λst _=>1 - st.2.1.toNat) (.inl ⟨rfl,rfl,rfl⟩) ?_;rintro⟨sl,x,⟨⟩⟩ V hV next O
  rcases hV with ⟨rfl,rfl,rfl⟩|⟨rfl,hV,s2,hb⟩;rotate_left
  ·rw[show decide ((1:Int)<((1:Nat):Int))=false from rfl,cond_false];exact hK s2 sl V ((f1.trans (Ext.drew w1)).trans ((U.trans f2).trans hV)) hb
  rw[show decide ((0:Int)<((1:Nat):Int))=true from rfl,cond_true];refine(uQ _ _ _ _ _ _).2 ⟨Int.le_refl 0,by show (0:Int)<1;decide,?_⟩;refine Z4 (by simpa using r2) ?_;refine gq λb3 w3 r3 e3 z3 f3=> ?_;refine StN_f r3 λw4 r4 f4 z4=> ?_;have x4:Ext V w4:=f3.nw f4;refine Z4 r4 ?_;refine cmS3 (Vs (q2.ext x4) (by omega)) ?_;rintro r6 ee w5 ⟨_,_,f5⟩;refine gq λb6 w6 r6' e6 z6 f6=> ?_;refine mD (f:=eW) (ys:=[((i:Int),r6)]) Oj (iV.nil) ((iV.row (xs:=[((i:Int),r6)]) (f:=eW) (n:=2) r6').sl Oj (by omega)) rfl (by omega) aee (by simp) (by simp) λs7 w7 b7 f7 n7=> ?_;refine O _ _ (.inr ⟨rfl,((x4.trans f5).trans f6).new f7 (λy hy ⟨_,hh⟩=>by cases hh),r6,b7⟩) (by show 1 - (ο.wrap ((0:Int)+1)).toNat<1 - (0:Int).toNat;decide)
 clear_value J;have fin:∀(b:Nat) W t0 t1 t2 t3 d4 d5 d6 d7 d8 d9 d10 d11 d12 d13 d14 d15 d16 d17 d18 d19 d20 d21 d22 d23 d24 d25 d26 d27 d28 d29 d30 d31 d32 d33 d34 d35 (s:fU) (l:List UInt8),Ext w1.drew W->w1.heap.size<=b->Row W b (jc 0 0 0 0 0 0 0 0 0 0 0 0 0 0 0 0 0 0 0 0 0 0 0 0 0 0 0 0 0 0 0 0 0 0 0 0 ⟨none,0,0⟩)->JV W ⟨0,0,4,64,Θ 0,Θ (i+1),l⟩ t0 t1 t2 t3 [d4,d5,d6,d7,d8,d9,d10,d11,d12,d13,d14,d15,d16,d17,d18,d19] [d20,d21,d22,d23,d24,d25,d26,d27,d28,d29,d30,d31,d32,d33,d34,d35] s->l.length<=1000->(∀ad,s.a=some ad->0<l.length->¬ad.block=b)->
   iw (jc t0 t1 t2 t3 d4 d5 d6 d7 d8 d9 d10 d11 d12 d13 d14 d15 d16 d17 d18 d19 d20 d21 d22 d23 d24 d25 d26 d27 d28 d29 d30 d31 d32 d33 d34 d35 s) W ⟨b,0,none⟩ 0 λW'=>J ⟨b,0,none⟩ 0 W':=by
  intro b W t0 t1 t2 t3 d4 d5 d6 d7 d8 d9 d10 d11 d12 d13 d14 d15 d16 d17 d18 d19 d20 d21 d22 d23 d24 d25 d26 d27 d28 d29 d30 d31 d32 d33 d34 d35 s l hW hb hr hq hl hn;refine gY hr rfl rfl λW' r' f'' z'=> ?_;have f':gW W W' (·=b):=f'' _ rfl;obtain⟨q0,q1,q2,q3⟩:=hq;exact hJ b _ _ _ _ _ _ _ _ _ _ _ _ _ _ _ _ _ _ _ _ _ _ _ _ _ _ _ _ _ _ _ _ _ _ _ _ s _ W' (hW.new f' λy hy e=>by have:w1.drew.heap.size=w1.heap.size:=rfl;omega) r' ⟨q0,q1,q2,q3.fr f' hn⟩ (adW (by omega)) hl
 have hx:[ownT 1,ownT 2][i]? =some (ownT (i+1)):=by
  match i,hi with
  |0,_=>rfl
  |1,_=>rfl
 have hc0:∀{W},Ext w1.drew W->∀j,j<16->W.cell? ((Addr.add ⟨A.x,0,none⟩ 2).add j)=(iZ 32 1 13 184 0 0 0 0 0 0 0 0 0 0 0 1)[j]? :=λhW j hj=>by
  rw[gy,gy,Nat.zero_add,(h1.ext hW).ae.hd.cell,<- getElem?_drop,<- getElem?_take_of_lt hj];rfl
 have hc1:∀{W},Ext w1.drew W->W.cell? ((Addr.add ⟨A.x,0,none⟩ 2).add 16)=some (.slice (some ⟨bs,0,none⟩) 2 2)/\W.cell? ((Addr.add ⟨A.x,0,none⟩ 2).add 27)=some (Β 64):=λhW=>by
  rw[gy,gy,Nat.zero_add,gy,(h1.ext hW).ae.hd.cell,(h1.ext hW).ae.hd.cell];exact⟨rfl,rfl⟩
 have x0:=h1.x0;refine iI.2 (UA (hc0 (Ext.refl _)) (iI.2 (iH (k:= .slice) (y:=⟨some ⟨bs,0,none⟩,2,2⟩) (hc1 (Ext.refl _)).1 ?_)));refine SlN_ix e16_len (by omega) (h1.sl.ext x0) (by omega) (by rw[Int.toNat_natCast];exact hx) λad Z=> ?_;have hc2:∀{W},Ext w1.drew W->∀j,j<16->W.cell? (ad.add j)=(iZ 32 1 13 184 0 ((i+1:Nat):Int) 0 0 0 0 0 0 0 0 0 1)[j]? :=λhW j hj=>by
  have hv:=getElem?_eq_getElem (show j<(e16 (ownT (i+1))).length by rw[e16_len];exact hj);exact(mJ (Z j _ hv) hW).trans hv.symm
 refine UA (hc2 (Ext.refl _)) (iI.2 (iH (k:= .int .i64) (y:=(64:Int)) (hc1 (Ext.refl _)).2 (jF r1 ?_)));have ck:∀{W} {R:Prop},Ext w1.drew W->R->W.cell? ((Addr.add ⟨A.x,0,none⟩ 2).add 27)=some (Β 64)/\u_ (iZ 32 1 13 184 0 ((i+1:Nat):Int) 0 0 0 0 0 0 0 0 0 1) W ad 0 (W.cell? ((Addr.add ⟨A.x,0,none⟩ 2).add 16)=some (.slice (some ⟨bs,0,none⟩) 2 2)/\u_ (iZ 32 1 13 184 0 0 0 0 0 0 0 0 0 0 0 1) W (Addr.add ⟨A.x,0,none⟩ 2) 0 R):=λhW hR=>
  ⟨(hc1 hW).2,YQ ⟨(hc1 hW).1,YQ hR _ 0 λj hj=>by rw[Nat.zero_add];exact hc0 hW j hj⟩ _ 0 λj hj=>by rw[Nat.zero_add];exact hc2 hW j hj⟩
 have u:∀{W} {K:fU->b_},Ext w1.drew W->(∀r l w',Ext W w'->iq w' r l->l.length<=1000->K r w')->oV p.tos p.id p.off p.ttl p.proto p.src p.dst p.df p.mf o d W K:=λ{W K} hW hK=>
  have x:=(f1.trans (Ext.drew w1)).trans hW
  YM p (ho.ext x) (hd.ext x) (by omega) (by omega) λr l w' hx hs hl _=>hK r l w' hx hs (by omega)
 have I:∀{W r} {l:List UInt8} {K:Int->Int->Int->Int->Int->Int->Int->Int->Int->Int->Int->Int->Int->Int->Int->Int->Int->Int->Int->Int->Int->Int->Int->Int->Int->Int->Int->Int->Int->Int->Int->Int->Int->Int->Int->Int->fU->Int->b_},iq W r l->l.length<=1000->(∀t0 t1 t2 t3 d4 d5 d6 d7 d8 d9 d10 d11 d12 d13 d14 d15 d16 d17 d18 d19 d20 d21 d22 d23 d24 d25 d26 d27 d28 d29 d30 d31 d32 d33 d34 d35 s w',Ext W w'->JV w' ⟨0,0,4,64,Θ 0,Θ (i+1),l⟩ t0 t1 t2 t3 [d4,d5,d6,d7,d8,d9,d10,d11,d12,d13,d14,d15,d16,d17,d18,d19] [d20,d21,d22,d23,d24,d25,d26,d27,d28,d29,d30,d31,d32,d33,d34,d35] s->(∀ad:Addr,s.a=some ad->W.heap.size<=ad.block)->K t0 t1 t2 t3 d4 d5 d6 d7 d8 d9 d10 d11 d12 d13 d14 d15 d16 d17 d18 d19 d20 d21 d22 d23 d24 d25 d26 d27 d28 d29 d30 d31 d32 d33 d34 d35 s 0 w')->
   mZ 32 1 13 184 0 0 0 0 0 0 0 0 0 0 0 1 32 1 13 184 0 ((i+1:Nat):Int) 0 0 0 0 0 0 0 0 0 1 64 r W K:=by
  intro W r l K hs hl hK;refine cmS8 (abE hs (by omega) (NU (i:=0) (by omega)) (NU (by omega))) ?_;rintro t0 t1 t2 t3 d4 d5 d6 d7 d8 d9 d10 d11 d12 d13 d14 d15 d16 d17 d18 d19 d20 d21 d22 d23 d24 d25 d26 d27 d28 d29 d30 d31 d32 d33 d34 d35 s ee w' ⟨rfl,hp,hx⟩;rw[adW (by omega)] at hp ⊢;obtain⟨q,n⟩:=hp rfl;exact hK t0 t1 t2 t3 d4 d5 d6 d7 d8 d9 d10 d11 d12 d13 d14 d15 d16 d17 d18 d19 d20 d21 d22 d23 d24 d25 d26 d27 d28 d29 d30 d31 d32 d33 d34 d35 s w' hx q n
 have z1':w1.drew.heap.size=w1.heap.size:=rfl;have ck11:∀{W} {R:Prop},Ext w1.drew W->R->u_ (gu p.tos p.id p.off p.ttl p.proto p.src p.dst p.df p.mf o d) W ⟨a,0,none⟩ 0 R:=λhW hR=>qF (r1.ext hW) hR;refine⟨?_,?_⟩
 ·refine u (Ext.refl _) λr l w2 f2 hs N=>ck f2 ⟨?_,?_⟩
  ·refine I hs N λt0 t1 t2 t3 d4 d5 d6 d7 d8 d9 d10 d11 d12 d13 d14 d15 d16 d17 d18 d19 d20 d21 d22 d23 d24 d25 d26 d27 d28 d29 d30 d31 d32 d33 d34 d35 s w3 f3 hq hn=> ?_;refine gq λb w4 r4 e4 z4 f4=>ck11 ((f2.trans f3).trans f4) (ck ((f2.trans f3).trans f4) ?_);have:=(f2.trans f3).size;exact fin b w4 t0 t1 t2 t3 d4 d5 d6 d7 d8 d9 d10 d11 d12 d13 d14 d15 d16 d17 d18 d19 d20 d21 d22 d23 d24 d25 d26 d27 d28 d29 d30 d31 d32 d33 d34 d35 s l ((f2.trans f3).trans f4) (by omega) r4 (hq.ext f4) N λad ha h0 e=>by have:=aaL hq.data ha h0;omega
  ·refine gq λb w3 r3 e3 z3 f3=>ck11 (f2.trans f3) (ck (f2.trans f3) ?_);refine I (hs.ext f3) N λt0 t1 t2 t3 d4 d5 d6 d7 d8 d9 d10 d11 d12 d13 d14 d15 d16 d17 d18 d19 d20 d21 d22 d23 d24 d25 d26 d27 d28 d29 d30 d31 d32 d33 d34 d35 s w4 f4 hq hn=> ?_;have:=f2.size;exact fin b w4 t0 t1 t2 t3 d4 d5 d6 d7 d8 d9 d10 d11 d12 d13 d14 d15 d16 d17 d18 d19 d20 d21 d22 d23 d24 d25 d26 d27 d28 d29 d30 d31 d32 d33 d34 d35 s l ((f2.trans f3).trans f4) (by omega) (r3.ext f4) hq N λad ha h0 e=>by have:=hn ad ha;omega
 ·refine gq λb w2 r2 e2 z2 f2=>ck11 f2 (ck f2 ?_);refine u f2 λr l w3 f3 hs N=>ck (f2.trans f3) ?_;refine I hs N λt0 t1 t2 t3 d4 d5 d6 d7 d8 d9 d10 d11 d12 d13 d14 d15 d16 d17 d18 d19 d20 d21 d22 d23 d24 d25 d26 d27 d28 d29 d30 d31 d32 d33 d34 d35 s w4 f4 hq hn=> ?_;have:=f3.size;exact fin b w4 t0 t1 t2 t3 d4 d5 d6 d7 d8 d9 d10 d11 d12 d13 d14 d15 d16 d17 d18 d19 d20 d21 d22 d23 d24 d25 d26 d27 d28 d29 d30 d31 d32 d33 d34 d35 s l ((f2.trans f3).trans f4) (by omega) ((r2.ext f3).ext f4) hq N λad ha h0 e=>by have:=hn ad ha;omega
end Go.Proofs.AN
end
section
namespace Go.Proofs.AN
open Gp Gp.V4 Go.Proofs Go.Proofs.EN Go.Proofs.VN
open Gp.Bind (Bnd Slots live GoodB freeN getS In64)
open Gp.Ses (Ses)
open Go.Proofs.CN (SlN_ix T16 T7 e16 e16_len ownT)
variable {w0 w w':θ} {A:AA} {bs bp n0:Nat} {e:ES}
theorem O9 {q:jG} (hc:q.check=0) {s:fU} (hs:iq w s q.bytes) (hl:q.bytes.length<=2^40) {K:Int->Int->Int->Int->Int->Int->Int->Bool->Bool->fU->fU->Int->b_}
  (hK:∀o d w',Ext w w'->ai_ w w' q o d->K q.tos q.id q.off q.ttl q.proto q.src q.dst q.df q.mf o d 0 w'):uJ s w K:=by
 obtain⟨q1,q2,_⟩:=aaI hc [];rw[List.append_nil] at q1 q2;have u:V4.read q.bytes false=q:=by unfold V4.read;rw[if_pos q1,q2]
 refine cmS11 (ae0 hs hl) ?_;rintro t i o l' p s' d df mf op da e w2 ⟨he,hP,⟨n1,n2⟩,f2⟩;rw[u] at hP;rw[q1] at he;obtain⟨rfl,rfl,rfl,rfl,rfl,rfl,rfl,rfl,rfl,b1,b2⟩:=hP;subst he;exact hK op da w2 f2 ⟨b1,b2,n1,n2⟩
theorem wu (h:Ab w0 w A bs bp e):mW (some ⟨A.x,0,none⟩) w λr w'=>r=true/\w'=w:=by
 apply KP;intro J;show cond true _ _;rw[cond_true];exact iI.2 (iH (k:= .ptr) (y:=some ⟨A.e.x,0,none⟩) (by rw[h.cell];rfl) ⟨rfl,rfl⟩)
theorem aa7 (h:Ab w0 w A bs bp e) (x:Int):qA (some ⟨A.e.x,0,none⟩) x w λr w'=>r=decide (x=3325256705)/\w'=w:=by
 have hE:=h.ae.en;apply KY;intro J;refine cmS0 (Dv hE) ?_;rintro r _ ⟨rfl,rfl⟩;rw[cond_true];refine iI.2 (iH (k:= .ptr) (y:=some ⟨A.e.p,0,none⟩) hE.c0 ?_);refine cmS0 (PN.RQ hE.pl x) ?_;rintro _ _ ⟨rfl,rfl⟩;exact⟨decide_eq_decide.2 (by show x∈[(3325256705:Int)]↔_;simp),rfl⟩
theorem ύ (x:fO) (i:Int) (q:jG) (hm:q.mf=false) (ho0:q.off<=0) {o d:fU} (_:iq w o q.opts) (_:iq w d q.data) {K:Int->Int->Int->Int->Int->Int->Int->Bool->Bool->fU->fU->Int->Bool->b_}
  (hK:∀w',Ext w w'->K q.tos q.id q.off q.ttl q.proto q.src q.dst q.df q.mf o d 0 true w'):qx x i q.tos q.id q.off q.ttl q.proto q.src q.dst q.df q.mf o d w K:=by
 apply KQ;refine gq λa w1 r1 e1 z1 f1=> ?_;refine gq λb w2 r2 e2 z2 f2=> ?_;have r1:=r1.ext f2;refine jF r1 ?_;refine cmS0 (Lu _ _ _ _ _ _ _ _ _ _ _ _) ?_;rintro r w3 ⟨rfl,f3⟩;rw[hm,show (!false && decide (q.off<=0))=true by rw[decide_eq_true ho0];rfl,cond_true];refine jF (r1.ext f3) ?_;refine StN_f (r2.ext f3) λw4 r4 f4 z4=> ?_;refine jF r4 ?_;exact hK w4 (((f1.trans f2).trans f3).nw f4)
theorem KC (h:Ab w0 w A bs bp e) (q:jG) {o d:fU} {K:Int->Int->Int->Int->Int->Int->Int->Bool->Bool->fU->fU->b_}
  (hK:∀w',Ext w w'->K q.tos q.id q.off q.ttl q.proto q.src q.dst q.df q.mf o d w'):lU (some ⟨A.x,0,none⟩) q.tos q.id q.off q.ttl q.proto q.src q.dst q.df q.mf o d w K:=by
 apply GZ;refine gq λa w1 r1 e1 z1 f1=> ?_;refine gq λb w2 r2 e2 z2 f2=> ?_;refine iI.2 (iH (k:= .int .i64) (y:=(0:Int)) ?_ ?_)
 ·rw[gy,gy,Nat.zero_add,((h.ext f1).ext f2).ae.hd.cell];rfl
 rw[show decide ((0:Int)>0)=false from rfl,cond_false];refine jF (r1.ext f2) ?_;refine StN_f r2 λw4 r4 f4 z4=> ?_;refine jF r4 ?_;exact hK w4 ((f1.trans f2).nw f4)
theorem hown0 (h:Ab w0 w A bs bp e) (h0:0<w0.heap.size):¬jK A.e 0:=λhh=>by have:=h.lo 0 (.inr hh);omega
structure IY (w0:θ) (n0:Nat) (A:AA) (bs bp:Nat) (e:ES) (i:Nat) (p:jG) (w':θ) (A':AA) (e':ES) (q:jG):Prop where
 ab:Ab w0 w' A' bs bp e'
 x:A'.x=A.x/\A'.e.x=A.e.x/\∀z,A'.own z↔A.own z
 gr:∀z,jK A'.e z->jK A.e z\/n0<=z
 gd:Gd (jW bs bp) e'
 st:Stp (jW bs bp) e e' i
 l:∃(j:Nat) (b:Bnd) (k:Nat) (s:Ses),e'.S[j]? =some (some b)/\b.sw=(i:Int)/\b.pr=17/\b.ad=p.src/\b.po=(wordAt p.data 0:Int)/\e'.SS[k]? =some (some s)/\s.bd=(j:Int)/\s.ra=p.dst/\s.rp=(wordAt p.data 2:Int)/\e'.SS=e.SS.set k (some s)/\
  q={p with src:=b.oad,data:=Ih b.oad p.dst b.opo (wordAt p.data 2:Int) false (p.data.drop 8)}/\
  (e.Mi (Bind.keyS [(i:Int),17,p.src,(wordAt p.data 0:Int)])=none->PN.yH 17 (wordAt p.data 0:Int) i 1024 65535 [3325256705] e.G=some (b.opr,b.oad,b.opo))
theorem IY.ext {i:Nat} {p q:jG} {A':AA} {e':ES} {V V':θ} (h:IY w0 n0 A bs bp e i p V A' e' q) (hf:Ext V V'):IY w0 n0 A bs bp e i p V' A' e' q:=⟨h.ab.ext hf,h.x,h.gr,h.gd,h.st,h.l⟩
theorem IY.fr {i:Nat} {p q:jG} {A':AA} {e':ES} {V V':θ} {g:Nat} (h:IY w0 n0 A bs bp e i p V A' e' q) (hf:gW V V' (·=g)) (hg:w0.heap.size<=g) (h1:¬A'.own g) (h2:¬jK A'.e g):IY w0 n0 A bs bp e i p V' A' e' q:=
 ⟨⟨h.ab.ae.fr hf (λz hz e=>h1 (e ▸ hz)) λz hz e=>h2 (e ▸ hz),h.ab.x0.new hf λy hy e=>by omega,h.ab.lo,h.ab.sl⟩,h.x,h.gr,h.gd,h.st,h.l⟩
theorem afU (h:Ab w0 w A bs bp e) (hg:Gd (jW bs bp) e) (hm:Yq (jW bs bp)) (ht:e.tn<2^61) (hH:Hdl w0) (hn0:n0<=w.heap.size) {i:Nat} (hi:i<2) (p:jG) (hp:qw p) (hl:p.data.length<=60000) (N:p.opts=[]) (hF:∀why,¬Full (jW bs bp) e i 17 (wordAt p.data 0:Int) why)
  {o d:fU} (ho:iq w o p.opts) (hd:iq w d p.data) (R:∀ad,d.a=some ad->0<p.data.length->¬jK A.e ad.block)
  {K:Int->Int->Int->Int->Int->Int->Int->Bool->Bool->fU->fU->Int->b_}
  (hK:∀x9 I w' A' e' q,gW w w' (jK A.e)->IY w0 n0 A bs bp e i p w' A' e' q->Grow A.e A'.e w.heap.size->iq w' x9 q.opts->iq w' I q.data->K q.tos q.id q.off q.ttl q.proto q.src q.dst q.df q.mf x9 I 0 w'):
  kH (some ⟨A.e.x,0,none⟩) (i:Int) p.tos p.id p.off p.ttl p.proto p.src p.dst p.df p.mf o d w K:=by
 have U:0<w0.heap.size:=cell_lt hH;have u:Law (jW bs bp) i p:=⟨⟨by omega,by show (i:Int)<2;omega⟩,hp,hl⟩;refine out_ok h.ae.en hg hm ht (hH.ext h.x0) (hown0 h U) (i:Int) p ho hd (by simp[N]) (by omega) (λ_ _ h=>absurd h (by simp[N])) R (λ_ _ _ _ _ _ _ _ _ _ _ why _ _ hL=>absurd (hL u).1 (hF why)) ?_;intro x0 x1 x2 x3 x4 x5 x6 x7 x8 x9 I w' a' e' hf hE hG J O Y hL;obtain⟨⟨j,b,k,s,g1,g2,g3,g4,g5,g6,g7,g8,g9,_,hP,gS,gT⟩,_⟩:=hL u;obtain⟨⟨rfl,rfl,rfl,rfl,rfl,rfl,rfl,rfl,rfl⟩,p1,p2⟩:=hP;have z0:=h.x0.size;refine hK x9 I w' {A with e:=a'} e' _ hf ⟨⟨h.ae.ajk hf hE J O,h.x0.new hf λy hy ho=>by have:=h.lo y (.inr ho);omega,λz hz=> ?_,h.sl⟩,⟨rfl,O,λ_=>Iff.rfl⟩,λz hz=>(J z hz).imp (λh=>h) λh=>Nat.le_trans hn0 h,hG,Y,j,b,k,s,g1,g2,g3,g4,g5,g6,g7,g8,g9,gS,rfl,λhn=>(gT hn).1⟩ J p1 p2;rcases hz with hz|hz
 ·exact h.lo z (.inl hz)
 ·rcases J z hz with hz|hz
  ·exact h.lo z (.inr hz)
  ·omega
end Go.Proofs.AN
end
section
namespace Go.Proofs.AN
open Gp Gp.V4 Go.Proofs Go.Proofs.EN Go.Proofs.VN
open Gp.Bind (Bnd Slots live GoodB freeN getS In64)
open Gp.Ses (Ses)
open Go.Proofs.CN (SlN_ix T16 T7 e16 e16_len ownT)
variable {w0 w w':θ} {A:AA} {bs bp n0:Nat} {e:ES}
theorem Χ {sa da p q:Int} {L:List UInt8} (hp:lD p) (hq:lD q) (hl:L.length<=60000):
  ∃x y:UInt8,(Ih sa da p q false L)[0]? =some x/\(Ih sa da p q false L)[1]? =some y/\((x.toNat * 256+y.toNat:Nat):Int)=p/\(Ih sa da p q false L).length=8+L.length:=by
 obtain⟨p0,p1⟩:=hp;obtain⟨q0,q1⟩:=hq;have hf:∀n:Int,0<=n->n<65536->iK n 2:=λn h0 h1=>⟨by decide,h0,by show n<65536;omega⟩;have hu:NI p q L=jD 2 p.toNat++jD 2 q.toNat++jD 2 (8+(L.length:Int)).toNat++jD 2 0++L:=by
  unfold NI jv;rw[if_pos (hf p (by omega) (by omega)),if_pos (hf q (by omega) (by omega)),if_pos (hf (8+(L.length:Int)) (by omega) (by omega)),if_pos (hf 0 (by omega) (by omega))];simp
 refine⟨UInt8.ofNat (p.toNat / 256),UInt8.ofNat p.toNat,?_,?_,?_,?_⟩
 ·unfold Ih;rw[if_neg (by decide),hu];simp[jD]
 ·unfold Ih;rw[if_neg (by decide),hu];simp[jD]
 ·simp only[UInt8.toNat_ofNat'];omega
 ·unfold Ih;rw[if_neg (by decide),hu];simp[jD];omega
theorem agV (sa da a b:Int) (L:List UInt8):(Ih sa da a b false L).length<=16+L.length:=by
 unfold Ih NI;rw[if_neg (by decide)];have q:∀(l:List UInt8) (n:Int),(jv l n 2).length<=l.length+2:=λl n=>xK l n 2;have q1:=q [] a;have q2:=q (jv [] a 2) b;have q3:=q (jv (jv [] a 2) b 2) (8+(L.length:Int));have q4:=q (jv (jv (jv [] a 2) b 2) (8+(L.length:Int)) 2) 0;simp only[length_append,List.length_take,length_drop,iG,List.length_nil] at *;omega
theorem ae7 {oad:Int} (ho:kD oad) {p:jG} (hc:p.check=0) (hm:p.mf=false) {l:List UInt8} (hl:l.length=p.data.length):({p with src:=oad,data:=l}:jG).check=0:=by
 obtain⟨⟨g1,⟨_,g2⟩,⟨g3,g4,g5,_⟩,g6,g7⟩,s1,s2⟩:=lN hc;have fine:({p with src:=oad,data:=l}:jG).fine:=⟨g1,⟨ho,g2⟩,⟨g3,g4,g5,λh=>by have h:p.mf=true:=h;rw[hm] at h;cases h⟩,g6,g7⟩;have sh:({p with src:=oad,data:=l}:jG).short:=⟨by show _+_+l.length<=_;rw[hl];exact s1,by show _<=_ - (l.length:Int);rw[hl];exact s2⟩;unfold jG.check;rw[if_pos fine,if_pos sh]
theorem IY.bnd {i:Nat} {p q:jG} {A':AA} {e':ES} (h:IY w0 n0 A bs bp e i p w' A' e' q) (hc:p.check=0) (hm:p.mf=false) (hl:8<=p.data.length/\p.data.length<=60000):
  q.check=0/\q.dst=p.dst/\q.opts=p.opts/\q.data.length=p.data.length:=by
 obtain⟨j,b,k,s,g1,_,g3,_,_,_,_,_,_,_,rfl,_⟩:=h.l;have hb:=h.gd.inv.mp j b g1;have ha:b.oad=3325256705:=List.mem_singleton.1 hb.2.2.1;obtain⟨_,_,_,_,_,hlen⟩:=Χ (sa:=b.oad) (da:=p.dst) (p:=b.opo) (q:=(wordAt p.data 2:Int)) (L:=p.data.drop 8) hb.2.2.2.2.1 (IW _ _) (by rw[length_drop];omega);rw[length_drop] at hlen;exact⟨ae7 (by rw[ha];unfold kD;omega) hc hm (by omega),rfl,rfl,hlen.trans (by omega)⟩
theorem ZO (h:Ab w0 w A bs bp e) (hg:Gd (jW bs bp) e) (hm:Yq (jW bs bp)) (ht:e.tn<2^61) (hH:Hdl w0) (hn0:n0<=w.heap.size) {i:Nat} (hi:i<2) (p:jG) (hp:qw p) (hl:8<=p.data.length/\p.data.length<=900) (aa:p.opts=[]) (ac:p.dst≠3325256705)
  (hF:∀why,¬Full (jW bs bp) e i 17 (wordAt p.data 0:Int) why) {o d:fU} (ho:iq w o p.opts) (hd:iq w d p.data) (af:∀ad,d.a=some ad->0<p.data.length->¬jK A.e ad.block) {K:fU->Int->b_}
  (hK:∀s r w' A' e' q,gW w w' (jK A.e)->IY w0 n0 A bs bp e i p w' A' e' q->iV 2 eW w' s [((-1:Int),r)]->iq w' r q.bytes->K s 0 w'):
  qH (some ⟨A.x,0,none⟩) (i:Int) p.tos p.id p.off p.ttl p.proto p.src p.dst p.df p.mf o d w K:=by
 have h00:0<w0.heap.size:=cell_lt hH;apply FD;refine gq λa w1 r1 e1 z1 f1=> ?_;have h1:=(h.ext f1).ext (Ext.drew w1);have r1:=r1.drew;intro J;have hJ:∀(b:Nat) W A' e' q x9 u,gW w W (jK A.e)->IY w0 n0 A bs bp e i p W A' e' q->w0.heap.size<=b->Row W b (gu q.tos q.id q.off q.ttl q.proto q.src q.dst q.df q.mf x9 u)->iq W x9 q.opts->iq W u q.data->J ⟨b,0,none⟩ 0 W:=by
  intro b W A' e' q x9 u hf hW hb hr b9 I;obtain⟨hc,ag,ah,hql⟩:=hW.bnd hp.2.1 hp.2.2.1 ⟨hl.1,by omega⟩;simp -zeta only[J];rw[show ((0:Int)==0)=true from rfl,cond_true];have ai:=hW.ext (Ext.drew W);have hr:=hr.drew;have b9:=b9.ext (Ext.drew W);have I:=I.ext (Ext.drew W);have N:∀{V},Ext W V->V.cell? (Addr.add ⟨A.x,0,none⟩ 38)=some (.pointer (some ⟨A'.e.x,0,none⟩)):=λhV=>by rw[<- hW.x.1,(hW.ext hV).ab.cell];rfl
  have c26:∀{V},Ext W V->V.cell? (Addr.add (Addr.add ⟨A.x,0,none⟩ 2) 26)=some (Β 1500):=λhV=>by rw[<- hW.x.1,gy,gy,Nat.zero_add,(hW.ext hV).ab.ae.hd.cell];rfl
  refine iI.2 (iH (k:= .ptr) (y:=some ⟨A'.e.x,0,none⟩) (N (Ext.drew W)) (Ld_i 6 q.dst hr ?_));refine cmS0 (aa7 ai.ab _) ?_;rintro _ V ⟨rfl,hV⟩;subst hV;rw[decide_eq_false (by rw[ag];exact ac),cond_false];have xV:=(Ext.drew W).trans (Ext.drew W.drew);have hr:=hr.drew;refine jF hr (iI.2 (iH (k:= .int .i64) (y:=(1500:Int)) (c26 xV) ?_));have lo:q.opts.length=0:=by rw[ah,aa];rfl
  refine afJ q (b9.ext (Ext.drew _)) (I.ext (Ext.drew _)) hc (by omega) (by omega) ⟨by omega,by omega⟩ (by omega) λg o' d' w2 f2 r2 p9 p10=> ?_;rw[show ((0:Int) !=0)=false from rfl,cond_false];have x2:=xV.trans f2;refine gX (λst V=>(st.2.1=0/\st.1=⟨none,0,0⟩/\V=w2)\/(st.2.1=1/\Ext w2 V/\∃s,iV 2 eW V st.1 [((-1:Int),s)]/\iq V s q.bytes)) (λst _=>1 - st.2.1.toNat) (.inl ⟨rfl,rfl,rfl⟩) ?_;rintro⟨sl,x,⟨⟩⟩ V hV next U
  rcases hV with ⟨rfl,rfl,rfl⟩|⟨rfl,hV,s2,hb,hs2⟩;rotate_left
  ·rw[show decide ((1:Int)<((1:Nat):Int))=false from rfl,cond_false];have xV:=x2.trans hV;exact hK sl s2 V A' e' q ((hf).ext xV) (hW.ext xV) hb hs2
  rw[show decide ((0:Int)<((1:Nat):Int))=true from rfl,cond_true];refine(uQ _ _ _ _ _ _).2 ⟨Int.le_refl 0,by show (0:Int)<1;decide,?_⟩;refine jF (by simpa using r2) ?_;refine gq λb3 w3 r3 e3 z3 f3=> ?_;refine StN_f r3 λw4 r4 f4 z4=> ?_;have x4:Ext V w4:=f3.nw f4;refine jF r4 ?_;refine YM q (p9.ext x4) (p10.ext x4) (by omega) (by omega) λr6 l6 w5 f5 b6 _ e6=> ?_;rw[e6 hc] at b6;refine gq λb7 w6 r6' e7 z6 f6=> ?_;refine mD (f:=eW) (ys:=[((-1:Int),r6)]) Oj (iV.nil) ((iV.row (xs:=[((-1:Int),r6)]) (f:=eW) (n:=2) r6').sl Oj (by omega)) rfl (by omega) aee (by simp) (by simp) λs7 w7 b7 f7 n7=> ?_;have f7':Ext w6 w7:=(Ext.refl w6).new f7 λy hy ⟨_,hh⟩=>by cases hh
  exact U _ _ (.inr ⟨rfl,((x4.trans f5).trans f6).trans f7',r6,b7,(b6.ext f6).ext f7'⟩) (by show 1 - (ο.wrap ((0:Int)+1)).toNat<1 - (0:Int).toNat;decide)
 clear_value J;have x1:=f1.trans (Ext.drew w1);have zw:w1.drew.heap.size=w1.heap.size:=rfl;have z0:=h.x0.size;have zf1:=f1.size;have N:∀{V},Ext w1.drew V->V.cell? (Addr.add ⟨A.x,0,none⟩ 38)=some (.pointer (some ⟨A.e.x,0,none⟩)):=λhV=>by rw[(h1.ext hV).cell];rfl
 have ck11:∀{W} {R:Prop},Row W a (gu p.tos p.id p.off p.ttl p.proto p.src p.dst p.df p.mf o d)->R->u_ (gu p.tos p.id p.off p.ttl p.proto p.src p.dst p.df p.mf o d) W ⟨a,0,none⟩ 0 R:=λhW hR=>qF hW hR;have na:¬jK A.e a:=λ⟨k,hk⟩=>by have:=h.ae.en.lt k a hk;omega
 have O:∀{W} {K:Int->Int->Int->Int->Int->Int->Int->Bool->Bool->fU->fU->Int->b_},Ext w1.drew W->(∀x9 u w' A' e' q,gW W w' (jK A.e)->IY w0 n0 A bs bp e i p w' A' e' q->Grow A.e A'.e W.heap.size->iq w' x9 q.opts->iq w' u q.data->K q.tos q.id q.off q.ttl q.proto q.src q.dst q.df q.mf x9 u 0 w')->
   kH (some ⟨A.e.x,0,none⟩) (i:Int) p.tos p.id p.off p.ttl p.proto p.src p.dst p.df p.mf o d W K:=λhW hK=>
  afU (h1.ext hW) hg hm ht hH (by have:=hW.size;omega) hi p hp (by omega) aa hF (ho.ext (x1.trans hW)) (hd.ext (x1.trans hW)) af hK
 have fin:∀(b:Nat) W x9 u A' e' q,gW w W (jK A.e)->IY w0 n0 A bs bp e i p W A' e' q->w1.heap.size<=b->¬jK A'.e b->Row W b ξ->iq W x9 q.opts->iq W u q.data->
   iw (gu q.tos q.id q.off q.ttl q.proto q.src q.dst q.df q.mf x9 u) W ⟨b,0,none⟩ 0 λW'=>J ⟨b,0,none⟩ 0 W':=by
  intro b W x9 u A' e' q hf hW hb hn hr b9 I;refine gY hr rfl rfl λW' r' f'' z'=> ?_;have f':gW W W' (·=b):=f'' _ rfl;exact hJ b W' A' e' q x9 u (hf.trans f' λy hy e=>by omega) (hW.fr f' (by omega) (λhh=>by have:=h.ae.lt ((hW.x.2.2 b).1 hh);omega) hn) (by omega) r' (b9.fr f' λad ha h0 e=>jg hr (by simp) b9 ha h0 e) (I.fr f' λad ha h0 e=>jg hr (by simp) I ha h0 e)
 have Z:∀{V A' e' q},IY w0 n0 A bs bp e i p V A' e' q->V.cell? (Addr.add ⟨A.x,0,none⟩ 38)=some (.pointer (some ⟨A.e.x,0,none⟩)):=λhW=>by rw[<- hW.x.1,<- hW.x.2.1,hW.ab.cell];rfl
 have nb:∀{b},w1.heap.size<=b->¬jK A.e b:=λhb ⟨k,hk⟩=>by have:=h.ae.en.lt k _ hk;omega
 refine iI.2 (iH (k:= .ptr) (y:=some ⟨A.e.x,0,none⟩) (N (Ext.refl _)) (jF r1 ⟨?_,?_⟩))
 ·refine KC h1 p λw2 f2=>⟨N f2,?_,?_⟩
  ·refine O f2 λx9 u w3 A' e' q f3 hW Y b9 I=> ?_;refine gq λb w4 r4 e4 z4 f4=>ck11 (((r1.ext f2).fr f3 na).ext f4) ⟨Z (hW.ext f4),?_⟩;have:=f2.size;have:=f3.size;exact fin b w4 x9 u A' e' q ((((x1.trans f2) _).trans f3 λ_ _ hh=>hh).ext f4) (hW.ext f4) (by omega) (λ⟨k,hk⟩=>by have:=hW.ab.ae.en.lt k b hk;omega) r4 (b9.ext f4) (I.ext f4)
  ·refine gq λb w3 r3 e3 z3 f3=>ck11 (r1.ext (f2.trans f3)) ⟨N (f2.trans f3),?_⟩;have:=f2.size;refine O (f2.trans f3) λx9 u w4 A' e' q f4 hW Y b9 I=> ?_;exact fin b w4 x9 u A' e' q ((((x1.trans f2).trans f3) _).trans f4 λ_ _ hh=>hh) hW (by omega) (λhh=>(Y b hh).elim (nb (by omega)) λhh=>by omega) (r3.fr f4 (nb (by omega))) b9 I
 ·refine gq λb w2 r2 e2 z2 f2=>ck11 (r1.ext f2) ⟨N f2,?_⟩;refine KC (h1.ext f2) p λw3 f3=>⟨N (f2.trans f3),?_⟩;have:=f3.size;refine O (f2.trans f3) λx9 u w4 A' e' q f4 hW Y b9 I=> ?_;exact fin b w4 x9 u A' e' q ((((x1.trans f2).trans f3) _).trans f4 λ_ _ hh=>hh) hW (by omega) (λhh=>(Y b hh).elim (nb (by omega)) λhh=>by omega) ((r2.ext f3).fr f4 (nb (by omega))) b9 I
end Go.Proofs.AN
end
section
namespace Go.Proofs.AN
open Gp Gp.V4 Go.Proofs Go.Proofs.EN Go.Proofs.VN
open Gp.Bind (Bnd Slots live GoodB freeN getS In64)
open Gp.Ses (Ses)
open Go.Proofs.CN (SlN_ix T16 T7 e16 e16_len ownT)
variable {w0 w w':θ} {A:AA} {bs bp:Nat} {e:ES}
theorem aeb (h:Ab w0 w A bs bp e) (i:Int) {K:fU->Int->b_} (hK:∀w',gW w w' (·=A.ks)->K ⟨none,0,0⟩ i w'):iP (some ⟨A.x,0,none⟩) i w K:=by
 refine cmS3 (afT h.ae i) ?_;rintro _ _ w1 ⟨rfl,rfl,f1,_⟩;exact hK w1 f1
theorem Ϲ (h:Ab w0 w A bs bp e) (hg:Gd (jW bs bp) e) (hm:Yq (jW bs bp)) (ht:e.tn<2^61) {a b s t:Nat} {l:List UInt8} (ha:a<4294967296) (hb:b<4294967296) (h1:s<65536) (h2:t<65536) (hl:l.length<=600)
  {o d:fU} (ho:iq w o (kS a b s t 9 l).opts) (hd:iq w d (kS a b s t 9 l).data) {K:fU->Int->b_}
  (hD:∀why w' i x2 x6 x8,why≠0->ϒ (jW bs bp) e (kS a b s t 8 l) i x2 x6 x8 why->gW w w' (·=A.ks)->K ⟨none,0,0⟩ why w')
  (hK:∀i x2 x6 x8 u r w',ϒ (jW bs bp) e (kS a b s t 8 l) i x2 x6 x8 0->Ext w w'->iV 2 eW w' r [(i,u)]->K r 0 w'):
  nR (some ⟨A.x,0,none⟩) (kS a b s t 9 l).tos (kS a b s t 9 l).id (kS a b s t 9 l).off (kS a b s t 9 l).ttl (kS a b s t 9 l).proto (kS a b s t 9 l).src (kS a b s t 9 l).dst (kS a b s t 9 l).df (kS a b s t 9 l).mf o d false w K:=by
 obtain⟨hp,_,_,_,hlen⟩:=Du (l:=l) ha hb h1 h2 (show 8<256 by omega) (by omega);have hlen9:(kS a b s t 9 l).data.length=8+l.length:=hlen;apply G5;refine gq λg w1 r1 e1 z1 f1=> ?_;refine jF r1 ?_;refine cmS17 (ahG (kS a b s t 9 l) (ho.ext f1) (hd.ext f1) (by simp[kS]) (by omega) ⟨by simp[kS],by simp[kS]⟩) ?_;rintro t0 i0 o0 l0 p0 s0 d0 df mf op da ok w2 ⟨rfl,hP,f2⟩;obtain⟨⟨rfl,rfl,rfl,rfl,rfl,rfl,rfl,rfl,rfl,O,R⟩,nd⟩:=hP (by simp[kS]);refine gq λc w3 r3 e3 z3 f3=> ?_;refine StN_f r3 λw4 r4 f4 z4=> ?_;have N:Ext w2 w4:=f3.nw f4;rw[show (!decide (1<(kS a b s t 9 l).ttl))=false by simp[kS],cond_false];have g4:=(f1.trans f2).trans (N.trans (Ext.drew w4));have h4:=h.ext g4;have r4:=r4.drew;have O:iq w4.drew op (kS a b s t 8 l).opts:=O.ext (N.trans (Ext.drew w4));have R:iq w4.drew da (kS a b s t 8 l).data:=R.ext (N.trans (Ext.drew w4));have zf1:=f1.size;have z24:=N.size;have zf2:=f2.size;have z0:=h.x0.size;have nda:∀ad,da.a=some ad->0<(kS a b s t 8 l).data.length->¬jK A.e ad.block:=λad ha _ ⟨k,hk⟩=>by have:=nd ad ha;have:=h.ae.en.lt k _ hk;omega
 intro J;have aa:∀(i:Int) (ad:Addr) (why:Int) W x2 x6 x8,Ext w4.drew W->why≠0->ϒ (jW bs bp) e (kS a b s t 8 l) i x2 x6 x8 why->J i ad why W:=λi ad why W x2 x6 x8 hW hw hI=>by
  simp -zeta only[J];rw[show (why !=0)=true by rw[bne_iff_ne];exact hw,cond_true];exact aeb (h4.ext hW) why λw' hw'=>hD why w' i x2 x6 x8 hw hI (((g4.trans hW) _).trans hw' λ_ _ hh=>hh)
 have ac:∀(i:Int) (q:Nat) W ad po x0 x1 x2 x3 x4 x5 x6 x7 x8 x9 I,Ext w4.drew W->ϒ (jW bs bp) e (kS a b s t 8 l) i x2 x6 x8 0->Row W q (gu x0 x1 x2 x3 x4 x5 x6 x7 x8 x9 I)->PkR W (Xy (kS a b s t 8 l) (kS a b s t 8 l).src ad (-1) po) x0 x1 x2 x3 x4 x5 x6 x7 x8 x9 I->J i ⟨q,0,none⟩ 0 W:=by
  intro i q W ad po x0 x1 x2 x3 x4 x5 x6 x7 x8 x9 I hW hI hr hP;simp -zeta only[J];rw[show ((0:Int) !=0)=false from rfl,cond_false];have hi:∃n:Nat,n<2/\i=(n:Int):=by
   rcases hI with ⟨h,_⟩|⟨j,b',_,hb',h|⟨_,_,rfl,_⟩⟩
   ·omega
   ·omega
   ·have Y:=(hg.inv.mp j b' hb').2.2.2.2.2.2;have h0:0<=b'.sw:=Y.1;have h2:b'.sw<2:=Y.2;exact⟨b'.sw.toNat,by omega,by omega⟩
  obtain⟨n,hn,rfl⟩:=hi;have hA:=h4.ext hW;refine jF hr ?_;have ql:(Xy (kS a b s t 8 l) (kS a b s t 8 l).src ad (-1) po).opts.length+(Xy (kS a b s t 8 l) (kS a b s t 8 l).src ad (-1) po).data.length<=900:=by
   have:=agV (kS a b s t 8 l).src ad (BG (-1) (wordAt (kS a b s t 8 l).data 0:Int)) (BG po (wordAt (kS a b s t 8 l).data 2:Int)) ((kS a b s t 8 l).data.drop 8);rw[length_drop] at this;have e0:(Xy (kS a b s t 8 l) (kS a b s t 8 l).src ad (-1) po).opts.length=0:=rfl;rw[e0];refine Nat.le_trans (Nat.add_le_add_left this 0) (by omega)
  obtain⟨⟨rfl,rfl,rfl,rfl,rfl,rfl,rfl,rfl,rfl⟩,p9,p10⟩:=hP;refine KC hA _ λw5 f5=> ?_;refine afR (hA.ext f5) hn _ (p9.ext f5) (p10.ext f5) ql λu r w6 f6 hb=> ?_;exact hK _ _ _ _ u r w6 hI (g4.trans (hW.trans (f5.trans f6))) hb
 clear_value J;have U:∀{V},Ext w4.drew V->V.cell? (Addr.add ⟨A.x,0,none⟩ 38)=some (.pointer (some ⟨A.e.x,0,none⟩)):=λhV=>by rw[(h4.ext hV).cell];rfl
 have Z:∀{W} {K:Int->Int->Int->Int->Int->Int->Int->Int->Bool->Bool->fU->fU->Int->b_},Ext w4.drew W->
   (∀i x0 x1 x2 x3 x4 x5 x6 x7 x8 x9 I why w',Ext W w'->ϒ (jW bs bp) e (kS a b s t 8 l) i x2 x6 x8 why->(why≠0\/why=0/\∃ad po,PkR w' (Xy (kS a b s t 8 l) (kS a b s t 8 l).src ad (-1) po) x0 x1 x2 x3 x4 x5 x6 x7 x8 x9 I)->K i x0 x1 x2 x3 x4 x5 x6 x7 x8 x9 I why w')->
   oD (some ⟨A.e.x,0,none⟩) (kS a b s t 8 l).tos (kS a b s t 8 l).id (kS a b s t 8 l).off (kS a b s t 8 l).ttl (kS a b s t 8 l).proto (kS a b s t 8 l).src (kS a b s t 8 l).dst (kS a b s t 8 l).df (kS a b s t 8 l).mf op da W K:=by
  intro W K hW hK;refine aiI (h4.ext hW).ae.en hg hm (by omega) (kS a b s t 8 l) (O.ext hW) (R.ext hW) (by simp[kS]) (by omega) (λ_ _ h=>absurd h (by simp[kS])) nda hg.inv.mp ?_ ?_
  ·intro i x0 x1 x2 x3 x4 x5 x6 x7 x8 x9 I why w' hx hI;obtain⟨hI,hn⟩:=hI hp (by omega);exact hK _ _ _ _ _ _ _ _ _ _ _ _ why w' hx hI (.inl hn)
  ·intro i x0 x1 x2 x3 x4 x5 x6 x7 x8 x9 I w' a' e' _ _ _ _ _ _ hx hI;obtain⟨hI,hP⟩:=hI hp (by omega);exact hK _ _ _ _ _ _ _ _ _ _ _ _ 0 w' (hx (by simp[kS])) hI (.inr ⟨rfl,hP⟩)
 have fin:∀(i:Int) (q:Nat) W x0 x1 x2 x3 x4 x5 x6 x7 x8 x9 I (why:Int),Ext w4.drew W->w4.heap.size<=q->Row W q ξ->ϒ (jW bs bp) e (kS a b s t 8 l) i x2 x6 x8 why->(why≠0\/why=0/\∃ad po,PkR W (Xy (kS a b s t 8 l) (kS a b s t 8 l).src ad (-1) po) x0 x1 x2 x3 x4 x5 x6 x7 x8 x9 I)->
   iw (gu x0 x1 x2 x3 x4 x5 x6 x7 x8 x9 I) W ⟨q,0,none⟩ 0 λW'=>J i ⟨q,0,none⟩ why W':=by
  intro i q W x0 x1 x2 x3 x4 x5 x6 x7 x8 x9 I why hW hq hr hI hc;refine gY hr rfl rfl λW' r' f'' z'=> ?_;have f':gW W W' (·=q):=f'' _ rfl;have hW':Ext w4.drew W':=hW.new f' λy hy e=>by have:w4.drew.heap.size=w4.heap.size:=rfl;omega
  rcases hc with hc|⟨rfl,ad,po,hP⟩
  ·exact aa i _ why W' x2 x6 x8 hW' hc hI
  ·exact ac i q W' ad po x0 x1 x2 x3 x4 x5 x6 x7 x8 x9 I hW' hI r' ⟨hP.f,hP.o.fr f' λad ha h0 e=>jg hr (by simp) hP.o ha h0 e,hP.d.fr f' λad ha h0 e=>jg hr (by simp) hP.d ha h0 e⟩
 have zd:w4.drew.heap.size=w4.heap.size:=rfl;refine iI.2 (iH (k:= .ptr) (y:=some ⟨A.e.x,0,none⟩) (U (Ext.refl _)) (jF r4 ⟨?_,?_⟩))
 ·refine Z (Ext.refl _) λi x0 x1 x2 x3 x4 x5 x6 x7 x8 x9 I why w5 f5 hI hc=> ?_;refine gq λq w6 r6 e6 z6 f6=>qF ((r4.ext f5).ext f6) ⟨U (f5.trans f6),?_⟩;have:=f5.size;refine fin i q w6 _ _ _ _ _ _ _ _ _ _ _ why (f5.trans f6) (by omega) r6 hI (hc.imp (λh=>h) λ⟨h,ad,po,hP⟩=>⟨h,ad,po,hP.f,hP.o.ext f6,hP.d.ext f6⟩)
 ·refine gq λq w5 r5 e5 z5 f5=>qF (r4.ext f5) ⟨U f5,?_⟩;refine Z f5 λi x0 x1 x2 x3 x4 x5 x6 x7 x8 x9 I why w6 f6 hI hc=> ?_;exact fin i q w6 _ _ _ _ _ _ _ _ _ _ _ why (f5.trans f6) (by omega) (r5.ext f6) hI hc
end Go.Proofs.AN
end
section
namespace Go.Proofs.AN
open Gp Gp.V4 Go.Proofs Go.Proofs.EN Go.Proofs.VN
open Gp.Bind (Bnd Slots live GoodB freeN getS In64)
open Gp.Ses (Ses)
open Go.Proofs.CN (SlN_ix T16 T7 e16 e16_len ownT)
variable {w0 w w':θ} {A:AA} {bs bp n0:Nat} {e:ES}
theorem aap (h:Ab w0 w A bs bp e) (hg:Gd (jW bs bp) e) (hm:Yq (jW bs bp)) (ht:e.tn<2^61) {a s t:Nat} {l:List UInt8} (ha:a<4294967296) (h1:s<65536) (h2:t<65536) (hl:l.length<=600)
  {b:fU} (hb:iq w b (kS a 3325256705 s t 9 l).bytes) {K:fU->Int->b_}
  (hD:∀why w' i x2 x6 x8,why≠0->ϒ (jW bs bp) e (kS a 3325256705 s t 8 l) i x2 x6 x8 why->gW w w' (·=A.ks)->K ⟨none,0,0⟩ why w')
  (hK:∀i x2 x6 x8 u r w',ϒ (jW bs bp) e (kS a 3325256705 s t 8 l) i x2 x6 x8 0->Ext w w'->iV 2 eW w' r [(i,u)]->K r 0 w'):
  pU (some ⟨A.x,0,none⟩) b w K:=by
 apply OB;refine cmS0 (wu h) ?_;rintro _ w ⟨rfl,hw⟩;subst hw;rw[Bool.not_true,cond_false];have hc:=Oe (src:=s) (dst:=t) (l:=l) ha (show 3325256705<4294967296 by omega) (show 9<256 by omega) (by omega);refine O9 hc hb (by rw[WU];omega) λo d w2 f2 ⟨bo,bd,_,_⟩=> ?_;refine gq λg w3 r3 e3 z3 f3=> ?_;refine StN_f r3 λw4 r4 f4 z4=> ?_;have I:Ext w2 w4:=f3.nw f4;rw[show ((0:Int) !=0)=false from rfl,cond_false];have y4:=I.trans (Ext.drew w4);have h4:=h.ext (f2.trans y4);have r4:=r4.drew;refine iI.2 (iH (k:= .ptr) (y:=some ⟨A.e.x,0,none⟩) (by rw[h4.cell];rfl) (Ld_i 6 ((kS a 3325256705 s t 9 l).dst) r4 ?_));refine cmS0 (aa7 h4 _) ?_;rintro _ V ⟨rfl,hV⟩;subst hV;rw[show (!decide ((kS a 3325256705 s t 9 l).dst=3325256705))=false from rfl,cond_false];refine jF r4 ?_;refine ύ _ 255 (kS a 3325256705 s t 9 l) rfl (Int.le_refl 0) (bo.ext y4) (bd.ext y4) λw5 f5=> ?_;have r5:=r4.ext f5;refine StN_f r5 λw6 r6 f6 z6=> ?_;rw[Bool.not_true,cond_false];refine jF r6 ?_;have zf2:=f2.size;have z24:=I.size;have y6:Ext w2 w6:=(y4.trans f5).nw f6;have bo5:=bo.ext (y4.trans f5);have bd5:=bd.ext (y4.trans f5);refine Ϲ (h.ext (f2.trans y6)) hg hm ht ha (by omega) h1 h2 hl (bo5.fr f6 λad ha h0 e=>jg r5 (by simp) bo5 ha h0 e) (bd5.fr f6 λad ha h0 e=>jg r5 (by simp) bd5 ha h0 e) (λwhy w' i x2 x6 x8 hw hI hf=>hD why w' i x2 x6 x8 hw hI (((f2.trans y6) _).trans hf λ_ _ hh=>hh)) λi x2 x6 x8 u r w' hI hx hb=>hK i x2 x6 x8 u r w' hI ((f2.trans y6).trans hx) hb
theorem adg (x:fO) {t0 t1 t3 d4 d5 d6 d7 d8 d9 d10 d11 d12 d13 d14 d15 d16 d17 d18 d19 d20 d21 d22 d23 d24 d25 d26 d27 d28 d29 d30 d31 d32 d33 d34 d35:Int} {s:fU} {K:fU->Int->Int->Bool->b_} (hK:∀w',Ext w w'->K s 4 0 true w'):uy x t0 t1 4 t3 d4 d5 d6 d7 d8 d9 d10 d11 d12 d13 d14 d15 d16 d17 d18 d19 d20 d21 d22 d23 d24 d25 d26 d27 d28 d29 d30 d31 d32 d33 d34 d35 s w K:=by
 apply Jf;refine gq λa w1 r1 e1 z1 f1=> ?_;refine Ld_i 2 (4:Int) r1 ?_;rw[show ((4:Int) !=44)=true from rfl,cond_true];exact Ld_s 36 s r1.drew (Ld_i 2 (4:Int) r1.drew (hK _ (f1.trans (Ext.drew w1))))
theorem BJ (hs:mQ 16 e16 w ⟨some ⟨bs,0,none⟩,2,2⟩ [ownT 1,ownT 2]) {i:Nat} (hi:i<2) {K:Int->Bool->b_} (hK:∀w',Ext w w'->K (i:Int) true w'):
  vI 32 1 13 184 0 0 0 0 0 0 0 0 0 0 0 1 ⟨some ⟨bs,0,none⟩,2,2⟩ ⟨some ⟨bp,0,none⟩,1,1⟩ 1024 65535 16 64 128 8 1048576 1500 1500 64 0 2 300 7440 240 60 60 ⟨none,0,0⟩ 32 1 13 184 0 ((i+1:Nat):Int) 0 0 0 0 0 0 0 0 0 1 w K:=by
 apply KR;refine gq λa w1 r1 e1 z1 f1=> ?_;refine gq λb w2 r2 e2 z2 f2=> ?_;refine Ld_s 16 (⟨some ⟨bs,0,none⟩,2,2⟩) (r1.ext f2) ?_;refine UA (λj _=>by rw[gy,Nat.zero_add,r2.cell]) ?_;apply wI;refine gq λc w3 r3 e3 z3 f3=> ?_;refine gX (λst W=>∃j:Nat,j<=i/\st.1=(j:Int)/\Ext w3 W) (λst _=>2 - st.1.toNat) ⟨0,by omega,rfl,Ext.refl _⟩ ?_;rintro⟨x,⟨⟩⟩ W ⟨j,hj,hx,hW⟩ next u
 simp only at hx;subst hx;have I:=hW.trans (Ext.drew W);rw[show decide ((j:Int)<((2:Nat):Int))=true by rw[decide_eq_true];omega,cond_true];refine UA (λk _=>by rw[gy,Nat.zero_add,(r3.ext I).cell]) ?_;have hx:[ownT 1,ownT 2][j]? =some (ownT (j+1)):=by
  match j,(show j<2 by omega) with
  |0,_=>rfl
  |1,_=>rfl
 refine SlN_ix e16_len (by omega) (hs.ext (((f1.trans f2).trans f3).trans I)) (by omega) (by rw[Int.toNat_natCast];exact hx) λad J=> ?_;refine UA (λk hk=>(J k _ (getElem?_eq_getElem (show k<(e16 (ownT (j+1))).length by rw[e16_len];exact hk))).trans (getElem?_eq_getElem (show k<(e16 (ownT (j+1))).length by rw[e16_len];exact hk)).symm) ?_;by_cases N:j=i
 ·subst N;simp only[ownT,BEq.rfl,Bool.and_true,cond_true];rw[if_neg (by omega),decide_eq_true (by omega)];exact hK W.drew (((f1.trans f2).trans f3).trans I)
 ·simp only[ownT];rw[show (((i+1:Nat):Int)==((j+1:Nat):Int))=false by rw[beq_eq_false_iff_ne];omega];simp only[Bool.and_false,Bool.false_and,cond_false];rw[Α];exact u _ _ ⟨j+1,by omega,rfl,I⟩ (by simp only;omega)
abbrev q6 (i:Nat) (p:jG):vF:=⟨0,0,4,64,Θ (i+1),Θ 0,p.bytes⟩
theorem V8 (h:Ab w0 w A bs bp e) (hg:Gd (jW bs bp) e) (hm:Yq (jW bs bp)) (ht:e.tn<2^61) (hH:Hdl w0) (hn0:n0<=w.heap.size) {i:Nat} (hi:i<2) (p:jG) (hp:qw p) (hl:8<=p.data.length/\p.data.length<=900) (R:p.opts=[]) (aa:p.dst≠3325256705)
  (hF:∀why,¬Full (jW bs bp) e i 17 (wordAt p.data 0:Int) why) {b:fU} (hb:iq w b (q6 i p).bytes) {K:fU->Int->b_}
  (hK:∀s r w' A' e' q,gW w w' (jK A.e)->IY w0 n0 A bs bp e i p w' A' e' q->iV 2 eW w' s [((-1:Int),r)]->iq w' r q.bytes->K s 0 w'):
  oU (some ⟨A.x,0,none⟩) b w K:=by
 apply Jd;refine cmS0 (wu h) ?_;rintro _ w ⟨rfl,hw⟩;subst hw;rw[Bool.not_true,cond_false];have lb:p.bytes.length<=1000:=by unfold jG.bytes;rw[length_append,vX,R];simp;omega
 have hc6:(q6 i p).check=0:=adW (by omega);obtain⟨g1,g2⟩:=Z5 hc6 ⟨rfl,rfl⟩;have l6:(q6 i p).bytes.length<=2000:=by unfold vF.bytes;simp only[length_append,Dy];simp;omega
 refine cmS8 (acN hb (by omega)) ?_;rintro t0 t1 t2 t3 d4 d5 d6 d7 d8 d9 d10 d11 d12 d13 d14 d15 d16 d17 d18 d19 d20 d21 d22 d23 d24 d25 d26 d27 d28 d29 d30 d31 d32 d33 d34 d35 s ee w2 ⟨rfl,hq,f2⟩;rw[g1,g2] at hq;obtain⟨⟨⟨rfl,rfl,rfl,rfl⟩,I,J,hs⟩,hnew⟩:=hq rfl;rw[<- NU (i:=i+1) (by omega)] at I;rw[<- NU (i:=0) (by omega)] at J;simp only[List.cons.injEq,and_true] at I J;obtain⟨rfl,rfl,rfl,rfl,rfl,rfl,rfl,rfl,rfl,rfl,rfl,rfl,rfl,rfl,rfl,rfl⟩:=I;obtain⟨rfl,rfl,rfl,rfl,rfl,rfl,rfl,rfl,rfl,rfl,rfl,rfl,rfl,rfl,rfl,rfl⟩:=J;rw[g1];refine gq λg w3 r3 e3 z3 f3=> ?_;refine StN_f r3 λw4 r4 f4 z4=> ?_;have ac:Ext w2 w4:=f3.nw f4;rw[show ((0:Int) !=0)=false from rfl,cond_false];have y4:=ac.trans (Ext.drew w4);have h4:=h.ext (f2.trans y4);have r4d:=r4.drew;refine UA (λj hj=>by rw[gy,gy,Nat.zero_add,r4d.cell,<- getElem?_drop,<- getElem?_take_of_lt hj];rfl) ?_;have rA:∀{V},Ext w4.drew V->∀j,V.cell? ((Addr.add ⟨A.x,0,none⟩ 2).add j)=((jW bs bp).C++[.pointer (some ⟨A.e.x,0,none⟩),.pointer (some ⟨A.k,0,none⟩),Β 0,Β 1])[j]? :=λhV j=>by
  rw[gy,gy,Nat.zero_add,(h4.ext hV).ae.hd.cell,<- getElem?_drop];rfl
 refine iI.2 (UA (λj hj=>by rw[rA (Ext.refl _),<- getElem?_take_of_lt hj];rfl) ?_);show cond false _ _;rw[cond_false];refine Ld_i 2 (4:Int) r4d ?_;rw[show ((4:Int)==58)=false from rfl,cond_false];have xd:=Ext.drew w4.drew;have r5:=r4d.drew;refine iI.2 (VP (λj hj=>by rw[rA xd,<- getElem?_take_of_lt hj];rfl) ?_);refine UA (λj hj=>by rw[gy,gy,Nat.zero_add,r5.cell,<- getElem?_drop,<- getElem?_take_of_lt hj];rfl) ?_;have y5:=(f2.trans y4).trans xd;refine BJ (h.sl.ext (h.x0.trans y5)) hi λw6 f6=> ?_;rw[Bool.not_true,cond_false];have r6:=r5.ext f6;refine Z4 r6 ?_;refine adg _ λw7 f7=> ?_;rw[Bool.not_true,cond_false,show ((4:Int) !=4)=false from rfl,cond_false];have z5:Ext w2 w7:=(y4.trans xd).trans (f6.trans f7);refine O9 hp.2.1 (hs.ext z5) (by omega) λo d w8 f8 ⟨bo,bd,_,nd⟩=> ?_;refine gq λc w9 r9 e9 z9 f9=> ?_;refine StN_f r9 λaf U f10 z10=> ?_;have N:Ext w8 af:=f9.nw f10;rw[show ((0:Int) !=0)=false from rfl,cond_false];refine jF U ?_;refine ύ _ _ p hp.2.2.1 hp.2.2.2.1 (bo.ext N) (bd.ext N) λw11 f11=> ?_;have O:=U.ext f11;refine StN_f O λZ ag f12 z12=> ?_;have ah:Ext w8 Z:=(N.trans f11).nw f12;rw[Bool.not_true,cond_false];refine jF ag ?_;have bo5:=bo.ext (N.trans f11);have bd5:=bd.ext (N.trans f11);have Y:Ext w Z:=(f2.trans z5).trans (f8.trans ah);have zz:=(f2.trans z5).size;refine ZO (n0:=n0) (h.ext Y) hg hm ht hH (by have:=Y.size;omega) hi p hp hl R aa hF (bo5.fr f12 λad ha h0 e=>jg O (by simp) bo5 ha h0 e) (bd5.fr f12 λad ha h0 e=>jg O (by simp) bd5 ha h0 e) (λad ha _ ⟨k,hk⟩=>by have:=nd ad ha;have:=h.ae.en.lt k _ hk;omega) λu r w' A' e' q hf hW hb hr=> ?_;exact hK u r w' A' e' q ((Y _).trans hf λ_ _ hh=>hh) hW hb hr
end Go.Proofs.AN
end
section
namespace Go.Proofs.AN
open Gp Gp.V4 Go.Proofs Go.Proofs.EN Go.Proofs.VN
open Gp.Bind (Bnd Slots live GoodB freeN getS In64)
open Gp.Ses (Ses)
open Gp.PoolN (stepL stepL_get alike cls oth)
open Go.Proofs.PO (wantsG rowsG rowsL headL fromL keepF)
variable {w0 w w':θ} {A:AA} {bs bp n0 k:Nat} {e:ES}
theorem O6 {s:Ses}:∀(S:Gp.Ses.Slots) (i k:Nat),(Gp.Ses.live k (S.set i (some s))).length<=(Gp.Ses.live k S).length+1
 |[],i,k=>by simp[Gp.Ses.live]
 |none::S,0,k=>by simp[Gp.Ses.live]
 |some x::S,0,k=>by simp[Gp.Ses.live]
 |none::S,i+1,k=>by simpa [Gp.Ses.live] using O6 S i (k+1)
 |some x::S,i+1,k=>by simpa [Gp.Ses.live] using O6 S i (k+1)
theorem agX {α β:Type} [DecidableEq α] (l:List (α×β)) (k:α) (v:β):(zn l k v).length<=l.length+1:=by
 induction l with
 |nil=>simp[zn]
 |cons x l ih=>unfold zn;split<;>simp<;>omega
theorem ac8 (want:Int):∃x:Int,x∈wantsG 17 1024 65535 want/\x+2∈wantsG 17 1024 65535 want:=by
 have key:∀y:Int,y∈stepL 65535 (alike 1024 (want+1)) 2->y≠want->y∈wantsG 17 1024 65535 want:=by
  intro y hy hn;unfold wantsG rowsG;rw[if_neg (by omega)];simp only[rowsL,fromL,List.mem_append,List.mem_filter,keepF];refine .inr (.inr (.inr (.inr (.inl ⟨hy,by simpa using hn⟩))))
 have ha:alike 1024 (want+1)=1024+(1024+(want+1)) % 2:=rfl;refine⟨alike 1024 (want+1),key _ ?_ (by omega),key _ ?_ (by omega)⟩
 ·exact List.mem_of_getElem? (i:=0) (by rw[stepL_get (by decide),if_pos (by omega)];simp)
 ·exact List.mem_of_getElem? (i:=1) (by rw[stepL_get (by decide),if_pos (by omega)];simp)
theorem ac5 {f want a:Int} {G:List (PN.O3×Unit)} (hG:G.length<=1):PN.yH 17 want f 1024 65535 [a] G≠none:=by
 intro h;unfold PN.yH at h;have hr:PN.rotL f [a]=[a]:=by simp[PN.rotL,List.range_succ];rw[Nat.mod_one];rfl
 rw[hr,PN.Ν] at h;split at h
 ·cases h
 rename_i hf;unfold PN.GH at hf;rw[List.find?_eq_none] at hf;obtain⟨x,h1,h2⟩:=ac8 want;have g1:=hf _ h1;have g2:=hf _ h2;simp only[decide_eq_true_eq,Classical.not_not] at g1 g2
 match G,hG with
 |[],_=>simp at g1
 |[g],_=>
  simp only[map_cons,List.map_nil,List.mem_singleton] at g1 g2;rw[<- g1] at g2;simp only[Prod.mk.injEq,true_and] at g2;omega
structure Few (k:Nat) (e:ES):Prop where
 S:(k=0/\e.S=List.replicate 64 none)\/(k=1/\∃b:Bnd,e.S=some b::List.replicate 63 none)\/(k=2/\∃b b':Bnd,e.S=some b::some b'::List.replicate 62 none)
 SS:(Gp.Ses.live 0 e.SS).length<=k
 G:e.G.length<=k
 tn:e.tn<=k
theorem Few.live (h:Few k e):(live 0 e.S).length=k:=by
 rcases h.S with ⟨rfl,g⟩|⟨rfl,b,g⟩|⟨rfl,b,b',g⟩<;>rw[g]<;>rfl
theorem Few.full (h:Few k e) (hk:k<=1) (hi:Inv (jW bs bp) e) {i:Nat} (hi2:i<2) (po why:Int):¬Full (jW bs bp) e i 17 po why:=by
 have hl:=h.live;rintro(⟨_,g⟩|⟨_,g|g⟩|⟨_,g⟩)
 ·have hc:=hi.cn i ⟨by omega,by show (i:Int)<2;omega⟩;have hq:(16:Int)<=QN.at_ e.Q i:=g;rw[hc] at hq;have:ϥ e.S i<=(Gp.Bind.live 0 e.S).length:=List.length_filter_le _ _;omega
 ·have g:(64:Int)<=((Gp.Bind.live 0 e.S).length:Int):=g;omega
 ·have g:(128:Int)<=((Gp.Ses.live 0 e.SS).length:Int):=g;have:=h.SS;omega
 ·exact ac5 (by have:=h.G;omega) g
theorem Few.lt (h:Few k e) {j:Nat} {b:Bnd} (hj:e.S[j]? =some (some b)):j<k:=by
 rcases h.S with ⟨rfl,g⟩|⟨rfl,x,g⟩|⟨rfl,x,y,g⟩<;>rw[g] at hj
 ·rw[getElem?_replicate] at hj;split at hj<;>cases hj
 ·match j with
  |0=>omega
  |j+1=>
   rw[List.getElem?_cons_succ,getElem?_replicate] at hj;split at hj<;>cases hj
 ·match j with
  |0=>omega
  |1=>omega
  |j+2=>
   rw[List.getElem?_cons_succ,List.getElem?_cons_succ,getElem?_replicate] at hj;split at hj<;>cases hj
theorem Y1:Few 0 (e0 2 64 128):=⟨.inl ⟨rfl,rfl⟩,by show (Gp.Ses.live 0 (List.replicate 128 none)).length<=0;rw[IQ];simp,Nat.le_refl _,Int.le_refl _⟩
theorem Few.next (h:Few k e) (hk:k<=1) {i:Nat} {p q:jG} {A':AA} {e':ES} (hW:IY w0 n0 A bs bp e i p w' A' e' q) (hn:∀(j:Nat) (b:Bnd),e.S[j]? =some (some b)->b.sw≠(i:Int)):
  Few (k+1) e'/\∃(b:Bnd) (m:Nat) (s:Ses),e'.S[k]? =some (some b)/\b.sw=(i:Int)/\b.pr=17/\b.oad=3325256705/\(0<=b.opo/\b.opo<=65535)/\e'.SS[m]? =some (some s)/\s.bd=(k:Int)/\s.ra=p.dst/\s.rp=(wordAt p.data 2:Int)/\
   q={p with src:=b.oad,data:=Ih b.oad p.dst b.opo (wordAt p.data 2:Int) false (p.data.drop 8)}/\
   (e.Mi (Bind.keyS [(i:Int),17,p.src,(wordAt p.data 0:Int)])=none->PN.yH 17 (wordAt p.data 0:Int) i 1024 65535 [3325256705] e.G=some (b.opr,b.oad,b.opo))/\∀(j:Nat) (b':Bnd),e'.S[j]? =some (some b')->e.S[j]? =some (some b')\/(j=k/\b'=b):=by
 obtain⟨j,b,m,s,g1,g2,g3,g4,g5,g6,g7,g8,g9,I,J,N⟩:=hW.l;have hb:=hW.gd.inv.mp j b g1;have ha:b.oad=3325256705:=List.mem_singleton.1 hb.2.2.1;have u:=hW.st;obtain⟨i',o,b',c1,c2,c3⟩:=u.cs.resolve_left λ⟨c,_⟩=>by rw[c] at g1;exact hn j b g1 g2
 have O:j=i'/\b'=b:=by
  rw[c2,List.getElem?_set] at g1;split at g1
  ·rename_i h;split at g1
   ·exact⟨h.symm,Option.some.inj (Option.some.inj g1)⟩
   ·cases g1
  ·exact absurd g2 (hn j b g1)
 obtain⟨rfl,rfl⟩:=O;have R:j=k/\(k<64):=by
  rcases h.S with ⟨rfl,g⟩|⟨rfl,x,g⟩|⟨rfl,x,y,g⟩
  ·rw[g] at c1;have:some 0=some j:=c1;simp at this;omega
  ·rw[g] at c1;have:some 1=some j:=c1;simp at this;omega
  ·omega
 obtain⟨rfl,hk64⟩:=R;refine⟨⟨?_,?_,?_,?_⟩,b',m,s,g1,g2,g3,ha,hb.2.2.2.2.1,g6,g7,g8,g9,J,N,λj' b2 hj'=> ?_⟩
 ·rcases h.S with ⟨rfl,g⟩|⟨rfl,x,g⟩|⟨rfl,x,y,g⟩
  ·exact .inr (.inl ⟨rfl,b',by rw[c2,g];rfl⟩)
  ·exact .inr (.inr ⟨rfl,x,b',by rw[c2,g];rfl⟩)
  ·omega
 ·rw[I];exact Nat.le_trans (O6 _ _ _) (Nat.succ_le_succ h.SS)
 ·rw[c3];exact Nat.le_trans (agX _ _ _) (Nat.succ_le_succ h.G)
 ·have:=u.tn;have:=h.tn;omega
 ·rw[c2,List.getElem?_set] at hj';split at hj'
  ·rename_i h;split at hj'
   ·exact .inr ⟨h.symm,(Option.some.inj (Option.some.inj hj')).symm⟩
   ·cases hj'
  ·exact .inl hj'
end Go.Proofs.AN
end
section
namespace Go.Proofs.AN
end Go.Proofs.AN
namespace Go.Proofs.EN
open Gp Go.Proofs Go.Proofs.AN Go.Proofs.CN
open Gp.Bind (Bnd Slots live GoodB freeN getS In64)
variable {c:Cf} {e e1:ES}
theorem Maps.rest {l:List Bnd} (h:Maps c e l e1):e1.now=e.now/\e1.SS=e.SS/\e1.l=e.l/\e1.wn=e.wn/\e1.tn=e.tn:=by
 induction h with
 |nil=>exact⟨rfl,rfl,rfl,rfl,rfl⟩
 |no _ _ _ _ ih=>exact ih
 |yes _ _ _ _ _ ih=>exact ih
theorem gd0 {n nb ns:Nat} {l:List Bnd} (h:Maps c (e0 n nb ns) l e1) (hi:Inv c e1):Gd c e1:=by
 obtain⟨q1,q2,q3,q4,q5⟩:=h.rest;have hn:∀(k:Nat) (s:Gp.Ses.Ses),¬e1.SS[k]? =some (some s):=by
  intro k s hs;rw[q2] at hs;have hs:(List.replicate ns (none:Option Gp.Ses.Ses))[k]? =some (some s):=hs;rw[getElem?_replicate] at hs;split at hs<;>cases hs
 refine⟨hi,λk s hs=>absurd hs (hn k s),λid t ht=> ?_,λk s hs=>absurd hs (hn k s),?_,?_,?_⟩
 ·rw[q3] at ht;cases ht
 ·rw[q3,q2];show 0=(Gp.Ses.live 0 (List.replicate ns none)).length;rw[IQ];rfl
 ·rw[q4,q1];rfl
 ·rw[q1];exact Nat.zero_le _
theorem cfm {p:T16} {lt u I J O R U Y Z aa ac af ag N ah ai aj ak:Int} {sw po st:fU} {sl:List T16} {pl:List Int} {tl:List T7} {p0 p1 p2 p3 p4 p5 p6 p7 p8 p9 p10 p11 p12 p13 p14 p15:Int} (hpl:po.len=pl.length)
  (h:OkP p sw.len po.len lt u I J O R U Y Z aa ac af ag N ah ai aj ak sw.len sl pl tl) (_:fineP p sl pl tl sw.len J):
  Yq ⟨jO p0 p1 p2 p3 p4 p5 p6 p7 p8 p9 p10 p11 p12 p13 p14 p15 sw po u I J O R U Y Z aa ac af ag N ah ai aj ak st,sw,pl,u,I,J,O,R⟩/\1<=N/\N<=1048576:=by
 have b:=h.nums;simp only[abY,mem_cons,not_mem_nil,or_false,forall_eq_or_imp,forall_eq,okB] at b;obtain⟨b1,b2,b3,b4,b5,b6,b7,b8,_,_,_,_,_,_,b30,b31,b32,b33,_⟩:=b;refine⟨⟨by show 1<=pl.length;omega,by show 1<=u;omega,by show u<=I;omega,by show I<65536;omega,_,_,_,_,_,_,_,_,_,_,_,_,_,_,_,_,_,_,_,_,_,_,_,_,_,_,_,_,_,_,_,_,_,_,_,_,rfl,?_,?_,?_,?_⟩,by omega,by omega⟩<;>omega
end Go.Proofs.EN
end
section
namespace Go.Proofs.AN
open Gp Gp.V4 Go.Proofs Go.Proofs.EN Go.Proofs.VN
open Gp.Bind (Bnd Slots live GoodB freeN getS In64)
open Gp.Ses (Ses)
open Go.Proofs.CN (SlN_ix T16 T7 e16 e16_len ownT)
variable {w0 w w':θ} {A:AA} {bs bp:Nat} {e:ES}
theorem QA (I:mQ 16 e16 w ⟨some ⟨bs,0,none⟩,2,2⟩ [ownT 1,ownT 2]) {i:Nat} (hi:i<2) (p:jG) {s:fU} (hs:iq w s p.bytes) (hl:p.bytes.length<=1000) {K:fU->b_} (hK:∀r w',Ext w w'->iq w' r (q6 i p).bytes->K r w'):
  yN 32 1 13 184 0 0 0 0 0 0 0 0 0 0 0 1 ⟨some ⟨bs,0,none⟩,2,2⟩ ⟨some ⟨bp,0,none⟩,1,1⟩ 1024 65535 16 64 128 8 1048576 1500 1500 64 0 2 300 7440 240 60 60 ⟨none,0,0⟩ (i:Int) s w K:=by
 apply UR;refine gq λa w1 r1 e1 z1 f1=> ?_;have x1:=f1.trans (Ext.drew w1);have r1:=r1.drew;intro J;have hJ:∀(b:Nat) t0 t1 t2 t3 d4 d5 d6 d7 d8 d9 d10 d11 d12 d13 d14 d15 d16 d17 d18 d19 d20 d21 d22 d23 d24 d25 d26 d27 d28 d29 d30 d31 d32 d33 d34 d35 (s:fU) W,Ext w W->Row W b (jc t0 t1 t2 t3 d4 d5 d6 d7 d8 d9 d10 d11 d12 d13 d14 d15 d16 d17 d18 d19 d20 d21 d22 d23 d24 d25 d26 d27 d28 d29 d30 d31 d32 d33 d34 d35 s)->JV W (q6 i p) t0 t1 t2 t3 [d4,d5,d6,d7,d8,d9,d10,d11,d12,d13,d14,d15,d16,d17,d18,d19] [d20,d21,d22,d23,d24,d25,d26,d27,d28,d29,d30,d31,d32,d33,d34,d35] s->J ⟨b,0,none⟩ W:=by
  intro b t0 t1 t2 t3 d4 d5 d6 d7 d8 d9 d10 d11 d12 d13 d14 d15 d16 d17 d18 d19 d20 d21 d22 d23 d24 d25 d26 d27 d28 d29 d30 d31 d32 d33 d34 d35 s W hW hr hq;simp -zeta only[J];refine Z4 hr ?_;refine cmS3 (Vs hq (by show p.bytes.length<=_;omega)) ?_;rintro r ee w2 ⟨rfl,hb,f2⟩;exact hK r w2 (hW.trans f2) (hb (adW (by omega))).1
 clear_value J;have hx:[ownT 1,ownT 2][i]? =some (ownT (i+1)):=by
  match i,hi with
  |0,_=>rfl
  |1,_=>rfl
 refine Ld_s 16 (⟨some ⟨bs,0,none⟩,2,2⟩) r1 ?_;refine SlN_ix e16_len (by omega) (I.ext x1) (by omega) (by rw[Int.toNat_natCast];exact hx) λad N=> ?_;have hc2:∀{W},Ext w1.drew W->∀j,j<16->W.cell? (ad.add j)=(iZ 32 1 13 184 0 ((i+1:Nat):Int) 0 0 0 0 0 0 0 0 0 1)[j]? :=λhW j hj=>by
  have hv:=getElem?_eq_getElem (show j<(e16 (ownT (i+1))).length by rw[e16_len];exact hj);exact(mJ (N j _ hv) hW).trans hv.symm
 have hc0:∀{W},Ext w1.drew W->∀j,j<16->W.cell? (Addr.add ⟨a,0,none⟩ j)=(iZ 32 1 13 184 0 0 0 0 0 0 0 0 0 0 0 1)[j]? :=λhW j hj=>by
  rw[gy,Nat.zero_add,(r1.ext hW).cell,<- getElem?_take_of_lt hj];rfl
 refine UA (hc2 (Ext.refl _)) (UA (hc0 (Ext.refl _)) ?_);have ck:∀{W} {R:Prop},Ext w1.drew W->R->u_ (iZ 32 1 13 184 0 0 0 0 0 0 0 0 0 0 0 1) W ⟨a,0,none⟩ 0 (u_ (iZ 32 1 13 184 0 ((i+1:Nat):Int) 0 0 0 0 0 0 0 0 0 1) W ad 0 (W.cell? (Addr.add ⟨a,0,none⟩ 16)=some (.slice (some ⟨bs,0,none⟩) 2 2)/\R)):=λhW hR=>
  YQ (YQ ⟨by rw[gy,(r1.ext hW).cell];rfl,hR⟩ _ 0 λj hj=>by rw[Nat.zero_add];exact hc2 hW j hj) _ 0 λj hj=>by rw[Nat.zero_add];exact hc0 hW j hj
 have u:∀{W} {K:Int->Int->Int->Int->Int->Int->Int->Int->Int->Int->Int->Int->Int->Int->Int->Int->Int->Int->Int->Int->Int->Int->Int->Int->Int->Int->Int->Int->Int->Int->Int->Int->Int->Int->Int->Int->fU->Int->b_},Ext w1.drew W->(∀t0 t1 t2 t3 d4 d5 d6 d7 d8 d9 d10 d11 d12 d13 d14 d15 d16 d17 d18 d19 d20 d21 d22 d23 d24 d25 d26 d27 d28 d29 d30 d31 d32 d33 d34 d35 s ee w',Ext W w'->JV w' (q6 i p) t0 t1 t2 t3 [d4,d5,d6,d7,d8,d9,d10,d11,d12,d13,d14,d15,d16,d17,d18,d19] [d20,d21,d22,d23,d24,d25,d26,d27,d28,d29,d30,d31,d32,d33,d34,d35] s->(∀ad:Addr,s.a=some ad->W.heap.size<=ad.block)->K t0 t1 t2 t3 d4 d5 d6 d7 d8 d9 d10 d11 d12 d13 d14 d15 d16 d17 d18 d19 d20 d21 d22 d23 d24 d25 d26 d27 d28 d29 d30 d31 d32 d33 d34 d35 s ee w')->
   mZ 32 1 13 184 0 ((i+1:Nat):Int) 0 0 0 0 0 0 0 0 0 1 32 1 13 184 0 0 0 0 0 0 0 0 0 0 0 1 64 s W K:=by
  intro W K hW hK;refine cmS8 (abE (hs.ext (x1.trans hW)) (by omega) (NU (by omega)) (NU (i:=0) (by omega))) ?_;rintro t0 t1 t2 t3 d4 d5 d6 d7 d8 d9 d10 d11 d12 d13 d14 d15 d16 d17 d18 d19 d20 d21 d22 d23 d24 d25 d26 d27 d28 d29 d30 d31 d32 d33 d34 d35 s ee w' ⟨he,hp,hx⟩;rw[adW (by omega)] at he;obtain⟨q,n⟩:=hp he;exact hK t0 t1 t2 t3 d4 d5 d6 d7 d8 d9 d10 d11 d12 d13 d14 d15 d16 d17 d18 d19 d20 d21 d22 d23 d24 d25 d26 d27 d28 d29 d30 d31 d32 d33 d34 d35 s ee w' hx q n
 have fin:∀(b:Nat) W t0 t1 t2 t3 d4 d5 d6 d7 d8 d9 d10 d11 d12 d13 d14 d15 d16 d17 d18 d19 d20 d21 d22 d23 d24 d25 d26 d27 d28 d29 d30 d31 d32 d33 d34 d35 (s:fU),Ext w1.drew W->w1.heap.size<=b->Row W b (jc 0 0 0 0 0 0 0 0 0 0 0 0 0 0 0 0 0 0 0 0 0 0 0 0 0 0 0 0 0 0 0 0 0 0 0 0 ⟨none,0,0⟩)->JV W (q6 i p) t0 t1 t2 t3 [d4,d5,d6,d7,d8,d9,d10,d11,d12,d13,d14,d15,d16,d17,d18,d19] [d20,d21,d22,d23,d24,d25,d26,d27,d28,d29,d30,d31,d32,d33,d34,d35] s->(∀ad,s.a=some ad->0<p.bytes.length->¬ad.block=b)->
   iw (jc t0 t1 t2 t3 d4 d5 d6 d7 d8 d9 d10 d11 d12 d13 d14 d15 d16 d17 d18 d19 d20 d21 d22 d23 d24 d25 d26 d27 d28 d29 d30 d31 d32 d33 d34 d35 s) W ⟨b,0,none⟩ 0 λW'=>J ⟨b,0,none⟩ W':=by
  intro b W t0 t1 t2 t3 d4 d5 d6 d7 d8 d9 d10 d11 d12 d13 d14 d15 d16 d17 d18 d19 d20 d21 d22 d23 d24 d25 d26 d27 d28 d29 d30 d31 d32 d33 d34 d35 s hW hb hr hq hn;refine gY hr rfl rfl λW' r' f'' z'=> ?_;have f':gW W W' (·=b):=f'' _ rfl;obtain⟨q0,q1,q2,q3⟩:=hq;exact hJ b _ _ _ _ _ _ _ _ _ _ _ _ _ _ _ _ _ _ _ _ _ _ _ _ _ _ _ _ _ _ _ _ _ _ _ _ s W' (x1.trans (hW.new f' λy hy e=>by have:w1.drew.heap.size=w1.heap.size:=rfl;omega)) r' ⟨q0,q1,q2,q3.fr f' hn⟩
 have zd:w1.drew.heap.size=w1.heap.size:=rfl;refine⟨?_,?_⟩
 ·refine u (Ext.refl _) λt0 t1 t2 t3 d4 d5 d6 d7 d8 d9 d10 d11 d12 d13 d14 d15 d16 d17 d18 d19 d20 d21 d22 d23 d24 d25 d26 d27 d28 d29 d30 d31 d32 d33 d34 d35 s ee w2 f2 hq hn=> ?_;refine gq λb w3 r3 e3 z3 f3=>ck (f2.trans f3) ?_;have:=f2.size;exact fin b w3 t0 t1 t2 t3 d4 d5 d6 d7 d8 d9 d10 d11 d12 d13 d14 d15 d16 d17 d18 d19 d20 d21 d22 d23 d24 d25 d26 d27 d28 d29 d30 d31 d32 d33 d34 d35 s (f2.trans f3) (by omega) r3 (hq.ext f3) λad ha h0 e=>by have:=aaL hq.data ha h0;omega
 ·refine gq λb w2 r2 e2 z2 f2=>ck f2 ?_;refine u f2 λt0 t1 t2 t3 d4 d5 d6 d7 d8 d9 d10 d11 d12 d13 d14 d15 d16 d17 d18 d19 d20 d21 d22 d23 d24 d25 d26 d27 d28 d29 d30 d31 d32 d33 d34 d35 s ee w3 f3 hq hn=> ?_;exact fin b w3 t0 t1 t2 t3 d4 d5 d6 d7 d8 d9 d10 d11 d12 d13 d14 d15 d16 d17 d18 d19 d20 d21 d22 d23 d24 d25 d26 d27 d28 d29 d30 d31 d32 d33 d34 d35 s (f2.trans f3) (by omega) (r2.ext f3) hq λad ha h0 e=>by have:=hn ad ha;omega
theorem adX (h:Ae w A (jW bs bp) e):qI (some ⟨A.k,0,none⟩) w λ_ w'=>Ext w w':=by
 apply FH;show cond false _ _;rw[cond_false];refine iI.2 (Ld_s 0 (⟨some ⟨A.ks,0,none⟩,14,14⟩) h.kr ?_);obtain⟨cl,hl,hr⟩:=h.cr;have hb:iV 1 SN.eI w ⟨some ⟨A.ks,0,none⟩,14,14⟩ cl:=by
  have hm:cl.map eI=cl.flatMap SN.eI:=by
   clear hl hr
   induction cl with
   |nil=>rfl
   |cons x l ih=>rw[map_cons,List.flatMap_cons,ih];rfl
  rw[hm] at hr;have:=iV.row (n:=1) (f:=SN.eI) (xs:=cl) hr;rw[hl] at this;exact this
 refine cmS2 (SN.Ob (hb.sl SN.jX (by omega)) (by omega)) ?_;rintro r w1 ⟨f1,_⟩;exact f1
theorem Ym (h:Ab w0 w A bs bp e) {K:Int->fU->fU->Int->Int->Int->fU->b_} (hK:∀x0 bl x2 x3 x4 x5 x6 w',Ext w w'->iV 8 eB w' bl ((live 0 e.S).map (·.2))->K x0 bl x2 x3 x4 x5 x6 w'):
  wM (some ⟨A.x,0,none⟩) w K:=by
 have ah:e.S.length<=4096/\e.SS.length<=4096:=by
  have h1:=h.ae.en.db.len;have h2:=h.ae.en.se.len;have:(jW bs bp).nb.toNat=64:=rfl;have:(jW bs bp).ns.toNat=128:=rfl;omega
 apply MN;refine gq λa w1 r1 e1 z1 f1=> ?_;have h1:=h.ext f1;refine cmS0 (wu h1) ?_;rintro _ w2 ⟨rfl,hw⟩;subst hw;rw[Bool.not_true,cond_false];have c0:∀{V},Ext w2 V->V.cell? ⟨A.x,0,none⟩=some (.pointer (some ⟨A.t6,0,none⟩))/\V.cell? (Addr.add ⟨A.x,0,none⟩ 1)=some (.pointer (some ⟨A.t4,0,none⟩))/\V.cell? (Addr.add ⟨A.x,0,none⟩ 38)=some (.pointer (some ⟨A.e.x,0,none⟩))/\V.cell? (Addr.add ⟨A.x,0,none⟩ 39)=some (.pointer (some ⟨A.k,0,none⟩)):=λhV=>by
  rw[(h1.ext hV).cell,(h1.ext hV).cell,(h1.ext hV).cell,(h1.ext hV).ae.hd.cell];exact⟨rfl,rfl,rfl,rfl⟩
 refine iI.2 (iH (k:= .ptr) (y:=some ⟨A.e.x,0,none⟩) (c0 (Ext.refl _)).2.2.1 ?_);refine EN.Ym h1.ae.en ah λbl ss w3 f3 Y _ nbl _=> ?_;refine gq λb w4 r4 e4 z4 f4=> ?_;refine gY r4 rfl rfl λw5 r5 f5' z5=> ?_;have zf3:=f3.size;have x5:Ext w2 w5:=(f3.trans f4).new (f5' (·=b) rfl) λy hy e=>by omega
 have x5d:=x5.trans (Ext.drew w5);refine iI.2 (iH (k:= .ptr) (y:=some ⟨A.t6,0,none⟩) (c0 x5d).1 (iI.2 (iH (k:= .ptr) (y:=some ⟨A.t4,0,none⟩) (c0 x5d).2.1 ?_)));refine cmS1 (VL (h1.ext x5d).ae.j6) ?_;rintro n6 w6 ⟨rfl,f6⟩;refine⟨(c0 (x5d.trans f6)).2.1,?_⟩;refine cmS1 (VL (h1.ext (x5d.trans f6)).ae.j4) ?_;rintro n4 w7 ⟨rfl,f7⟩;have x7:Ext w5 w7:=((Ext.drew w5).trans f6).trans f7;have r7:=r5.ext x7;refine g_ (i:=3) r7 rfl (by simp) λw8 r8 f8' z8=> ?_;have f8:gW w7 w8 (·=b):=f8' _ rfl;simp only[List.set_cons_zero,List.set_cons_succ] at r8;have g8:Ext w2 w8:=(x5.trans x7).nw f8;have g8d:=g8.trans (Ext.drew w8);refine iI.2 (iH (k:= .ptr) (y:=some ⟨A.t6,0,none⟩) (c0 g8d).1 (iI.2 (iH (k:= .ptr) (y:=some ⟨A.t4,0,none⟩) (c0 g8d).2.1 ?_)));refine cmS1 (Zb (h1.ext g8d).ae.j6) ?_;rintro u6 w9 ⟨rfl,hw9⟩;subst hw9;refine⟨(c0 g8d).2.1,?_⟩;refine cmS1 (Zb (h1.ext g8d).ae.j4) ?_;rintro u4 w9 ⟨rfl,hw9⟩;subst hw9;refine g_ (i:=4) r8.drew rfl (by simp) λZ J N z10=> ?_;have f10:gW w8.drew Z (·=b):=N _ rfl;simp only[List.set_cons_zero,List.set_cons_succ] at J;refine Ld_i 5 (e.l.length:Int) J (Ld_i 4 (ο.wrap (0+0)) J ?_);refine g_ (i:=5) J rfl (by simp) λaa ac O z11=> ?_;have f11:gW Z aa (·=b):=O _ rfl;simp only[List.set_cons_zero,List.set_cons_succ] at ac;have R:Ext w2 aa:=(g8d.nw f10).nw f11;refine iI.2 (iH (k:= .ptr) (y:=some ⟨A.k,0,none⟩) (c0 R).2.2.2 ?_);refine cmS2 (adX (h1.ext R).ae) ?_;rintro cs ai f12;refine g_ (i:=6) (ac.ext f12) rfl (by simp) λaf u U z13=> ?_;have f13:gW ai af (·=b):=U _ rfl;simp only[List.set_cons_zero,List.set_cons_succ] at u;have ag:Ext w2 af:=(R.trans f12).nw f13;refine Ld_i 0 (e.now:Int) u (Ld_s 1 bl u (Ld_s 2 ss u (Ld_i 3 (ο.wrap (0+0)) u (Ld_i 4 (ο.wrap (0+0)) u ?_))));refine Ld_i 5 (ο.wrap ((e.l.length:Int)+ο.wrap (0+0))) u (Ld_s 6 cs u ?_);have ra:=r1.ext ag;refine StN_f ra λaj I f14 z14=> ?_;refine Ld_i 0 (e.now:Int) I (Ld_s 1 bl I (Ld_s 2 ss I (Ld_i 3 (ο.wrap (0+0)) I (Ld_i 4 (ο.wrap (0+0)) I ?_))));refine Ld_i 5 (ο.wrap ((e.l.length:Int)+ο.wrap (0+0))) I (Ld_s 6 cs I ?_);refine hK _ bl _ _ _ _ _ aj ((f1.trans ag).nw f14) ?_;have nb:∀y,fU.at bl y->¬y=b:=λy hy e=>by have:=Y.lt hy;omega
 have na:∀y,fU.at bl y->¬y=a:=λy hy e=>by have:=nbl y hy;omega
 exact((((((((((Y.ext f4).fr (f5' (·=b) rfl) nb).ext x7).fr f8 nb).ext (Ext.drew w8)).fr f10 nb).fr f11 nb).ext f12).fr f13 nb).fr f14 na)
end Go.Proofs.AN
end
section
namespace Go.Proofs.AN
open Gp Gp.V4 Go.Proofs Go.Proofs.EN Go.Proofs.VN
open Gp.Bind (Bnd Slots live GoodB freeN getS In64)
open Gp.Ses (Ses)
open Go.Proofs.CN (SlN_ix T16 T7 e16 e16_len ownT refbase_ok base_good base_fine)
variable {w0 w w':θ} {A:AA} {bs bp:Nat} {e:ES}
theorem agl {e:ES} {j:Int} {x:Int×Int}:x∈rem e j↔∃(k:Nat) (s:Ses),e.SS[k]? =some (some s)/\s.bd=j/\(s.ra,s.rp)=x:=by
 unfold rem SN.Uh;rw[List.mem_map];constructor
 ·rintro⟨⟨v,s⟩,hv,hx⟩;obtain⟨h1,h2⟩:=List.mem_filter.1 hv;obtain⟨k,h3,_⟩:=Gp.Ses.oJ.1 h1;exact⟨k,s,h3,by simpa using h2,hx⟩
 ·rintro⟨k,s,h1,h2,h3⟩;exact⟨((k:Int),s),List.mem_filter.2 ⟨Gp.Ses.oJ.2 ⟨k,h1,by omega⟩,by simpa using h2⟩,h3⟩
theorem MF (h:Ab w0 w A bs bp e) (hg:Gd (jW bs bp) e) {k m:Nat} {b:Bnd} {s:Ses} (hS:e.S[k]? =some (some b)) (I:b.pr=17) (J:e.SS[m]? =some (some s)) (hs:s.bd=(k:Int)) {P:jG} (h0:P.src=s.ra) (h1:P.dst=b.oad) (h2:(wordAt P.data 0:Int)=s.rp) (h3:(wordAt P.data 2:Int)=b.opo)
  {i' x2 x6 why:Int} {x8:Bool} (hw:ϒ (jW bs bp) e P i' x2 x6 x8 why):why=0/\i'=b.sw:=by
 have N:=h.ae.en.db.good;have hm:=hg.inv.mp k b hS;have ho:b.o=[17,b.oad,b.opo]:=by unfold Bnd.o;rw[<- hm.2.2.2.2.2.1,I]
 have u:e.Mo (Bind.keyS [17,b.oad,b.opo])=some (k:Int):=(N.o _ _).2 ⟨k,b,hS,by rw[ho],rfl⟩;unfold ϒ at hw;rw[h0,h1,h2,h3] at hw;rcases hw with ⟨_,g⟩|⟨j',b',g1,g2,g3⟩
 ·rw[u] at g;cases g
 rw[u] at g1;have:k=j':=by have:=Option.some.inj g1;omega
 subst this;rw[hS] at g2;obtain rfl:=Option.some.inj (Option.some.inj g2);rcases g3 with ⟨_,_,g4⟩|⟨rfl,_,rfl,_⟩
 ·exact absurd (.inr (.inr ⟨rfl,agl.2 ⟨m,s,J,hs,rfl⟩⟩)) g4
 ·exact⟨rfl,rfl⟩
theorem adP (h:Ae w A (jW bs bp) e) {s:fU} {x:Int×fU} {l:List (Int×fU)} (hb:iV 2 eW w s (x::l)) (y:Nat) (hy:fU.at s y):¬y=A.ks:=by
 rintro rfl;obtain⟨cl,hl,hr⟩:=h.cr;obtain⟨o,hy⟩:=hy;rcases hb.mem with ⟨hn,_⟩|⟨b,pad,hb,_,hr2⟩
 ·rw[hy] at hn;cases hn
 rw[hy] at hb
 cases hb
 have h1:=hr.cell 1;rw[hr2.cell 1,getElem?_map] at h1;obtain⟨z,hz⟩:∃z,cl[1]? =some z:=⟨_,getElem?_eq_getElem (by omega)⟩;rw[hz] at h1
 cases h1
theorem WO {s:fU} {x:Int×fU} (hb:iV 2 eW w s [x]) {K:Addr->Prop} (hK:∀a:Addr,w.cell? a=some (Β x.1)->w.cell? (a.add 1)=some (.slice x.2.a x.2.len x.2.cap)->K a):iM s 2 0 K:=
 SlN_ix Oj (by omega) (hb.sl Oj (by omega)) (Int.le_refl 0) rfl λa ha=>hK a (ha 0 _ rfl) (ha 1 _ rfl)
theorem adK {w:θ} (hH:Hdl w):tH w λr w'=>r=true/\Ext w w':=by
 apply SY;refine cmS13 (refbase_ok w) ?_;rintro p0 p1 p2 p3 p4 p5 p6 p7 p8 p9 p10 p11 p12 p13 p14 p15 sw po n18 n19 n20 n21 n22 n23 n24 n25 n26 n27 n28 n29 n30 n31 n32 n33 n34 st w1 ⟨bs,bp,hB,rfl,rfl,rfl,rfl,rfl,rfl,rfl,rfl,rfl,rfl,rfl,rfl,rfl,rfl,rfl,rfl,rfl,rfl,rfl,rfl,rfl,rfl,rfl,rfl,rfl,rfl,rfl,rfl,rfl,rfl,rfl,rfl,rfl,rfl,rfl,rfl⟩;refine gq λa w2 r2 e2 z2 f2=> ?_;refine StN_f r2 λw3 r3 f3 z3=> ?_;have N:Ext w1 w3:=f2.nw f3;have x3:=hB.ext.trans N;refine VP (λj _=>by rw[gy,Nat.zero_add,r3.cell]) ?_;refine aaY (hB.sl.ext N) (hB.pl.ext N) mQ.nil (by simp) (by simp) rfl (.inr ⟨base_good,.inr ⟨base_fine,rfl⟩⟩) (by omega) (by omega) (by omega) λA w4 Y I f4 hA hI O=> ?_;obtain⟨hm,_,_⟩:=cfm (p0:=32) (p1:=1) (p2:=13) (p3:=184) (p4:=0) (p5:=0) (p6:=0) (p7:=0) (p8:=0) (p9:=0) (p10:=0) (p11:=0) (p12:=0) (p13:=0) (p14:=0) (p15:=1) (st:=⟨none,0,0⟩) rfl Y I;have hm:Yq (jW bs bp):=hm;have R:Ab w3 w4 A bs bp (e0 2 64 128):=⟨hA,f4,O,hB.sl.ext N⟩;have hG:Gd (jW bs bp) (e0 2 64 128):=gd0 .nil hI;have hH3:=hH.ext x3;intro J;have hJ:J false->(bif Option.isNone (some (⟨A.x,0,none⟩:Addr)) then J true else J ((0:Int) !=0)):=λh=>h;refine hJ ?_;simp -zeta only[J];rw[cond_false];have r4:=(r3.ext f4).drew;refine VP (λj _=>by rw[gy,Nat.zero_add,r4.cell]) ?_;refine cmS2 (Rj (l:=[]) (a:=167772161) (b:=3221225985) (src:=5000) (dst:=53) (ttl:=9) iq.nil (by simp) (by omega) (by omega) (by omega) (by omega) (by omega)) ?_;rintro rr w5 ⟨Z,f5,_⟩;obtain⟨q1,q2,q3,_,q5⟩:=Du (l:=[]) (a:=167772161) (b:=3221225985) (src:=5000) (dst:=53) (ttl:=9) (by omega) (by omega) (by omega) (by omega) (by omega) (by simp);have aa:=(f4.trans (Ext.drew w4)).trans f5;refine qF (r4.ext f5) ?_;refine QA (i:=1) (R.sl.ext aa) (by omega) (kS 167772161 3221225985 5000 53 9 []) Z (by rw[WU];simp) λu w6 f6 hu=> ?_;have hA6:=R.ext ((Ext.drew w4).trans (f5.trans f6));refine V8 (i:=1) hA6 hG hm (by show (0:Int)<_;omega) hH3 (n0:=0) (by omega) (by omega) _ q1 ⟨by rw[q5];simp,by rw[q5];simp⟩ rfl (by simp[kS]) (λwhy=>Y1.full (by omega) hI (by omega) _ why) hu λs r w7 A' e' q hf hW hb hr=> ?_;obtain⟨hfew,b,m,s1,g1,g2,g3,g4,g5,g6,g7,g8,g9,rfl,gT,gU⟩:=Y1.next (by omega) hW λj b hj=>by
  have hj:(List.replicate 64 (none:Option Bnd))[j]? =some (some b):=hj;rw[getElem?_replicate] at hj;split at hj<;>cases hj
 have gT:=gT rfl;rw[q2] at gT;have tk:PN.yH 17 5000 1 1024 65535 [3325256705] []=some (17,3325256705,5000):=rfl;have gT:=Option.some.inj (tk.symm.trans gT);simp only[Prod.mk.injEq] at gT;obtain⟨t1,t2,t3⟩:=gT;rw[q3] at g9;rw[<- hW.x.1];refine cmS2 (Rj (l:=[]) (a:=3221225985) (b:=3325256705) (src:=53) (dst:=5000) (ttl:=9) iq.nil (by simp) (by omega) (by omega) (by omega) (by omega) (by omega)) ?_;rintro rn w8 ⟨ac,f8,_⟩;obtain⟨_,u2,u3,_,_⟩:=Du (l:=[]) (a:=3221225985) (b:=3325256705) (src:=53) (dst:=5000) (ttl:=8) (by omega) (by omega) (by omega) (by omega) (by omega) (by simp);have fst:∀{i' x2 x6 why:Int} {x8:Bool},ϒ (jW bs bp) e' (kS 3221225985 3325256705 53 5000 8 []) i' x2 x6 x8 why->why=0/\i'=b.sw:=λhI=>
  MF hW.ab hW.gd g1 g3 g6 g7 (by rw[g8];rfl) (by rw[g4];rfl) (by rw[u2,g9]) (by rw[u3,<- t3];rfl) hI
 refine aap (hW.ab.ext f8) hW.gd hm (by have:=hW.st.tn;show e'.tn<_;have:(e0 2 64 128).tn=0:=rfl;omega) (by omega) (by omega) (by omega) (by simp) ac (λwhy w' i' x2 x6 x8 U hI _=>absurd (fst hI).1 U) λi' x2 x6 x8 u9 r9 w9 hI f9 hb9=> ?_;obtain⟨_,rfl⟩:=fst hI;refine cmS2 (Rj (l:=[]) (a:=3221225985) (b:=3325256705) (src:=53) (dst:=5001) (ttl:=9) iq.nil (by simp) (by omega) (by omega) (by omega) (by omega) (by omega)) ?_;rintro rm af ⟨ag,f10,_⟩;obtain⟨_,v2,v3,_,_⟩:=Du (l:=[]) (a:=3221225985) (b:=3325256705) (src:=53) (dst:=5001) (ttl:=8) (by omega) (by omega) (by omega) (by omega) (by omega) (by simp);have snd:∀{i' x2 x6 why:Int} {x8:Bool},ϒ (jW bs bp) e' (kS 3221225985 3325256705 53 5001 8 []) i' x2 x6 x8 why->why=9:=by
  intro i' x2 x6 why x8 hI;rcases hI with ⟨h,_⟩|⟨j',b',h1,h2,_⟩
  ·exact h
  exfalso;obtain⟨j2,b2,h3,h4,h5⟩:=(hW.ab.ae.en.db.good.o _ _).1 h1;have hk:=Gp.Bind.keyS_inj (by simp[Bnd.o]) (hW.ab.ae.en.db.good.ok j2 b2 h3).2 (by
   rw[v3];intro n hn;simp only[mem_cons,not_mem_nil,or_false] at hn;rcases hn with rfl|rfl|rfl<;>unfold In64<;>first|decide|(show _<=(3325256705:Int)/\(3325256705:Int)<_;decide)) h4
  simp only[Bnd.o,List.cons.injEq,and_true] at hk;have hb2:b2=b:=by
   rcases gU j2 b2 h3 with h|⟨_,h⟩
   ·have h:(List.replicate 64 (none:Option Bnd))[j2]? =some (some b2):=h;rw[getElem?_replicate] at h;split at h<;>cases h
   ·exact h
  rw[hb2,v3,<- t3] at hk;have:=hk.2.2;omega
 have X:Ext w3 af:=hW.ab.x0.trans (f8.trans (f9.trans f10));refine aap (hW.ab.ext (f8.trans (f9.trans f10))) hW.gd hm (by have:=hW.st.tn;show e'.tn<_;have:(e0 2 64 128).tn=0:=rfl;omega) (by omega) (by omega) (by omega) (by simp) ag (λwhy w' i' x2 x6 x8 U hI f11=> ?_) λi' x2 x6 x8 u9 r9 w9 hI _ _=>absurd (snd hI) (by decide);obtain rfl:=snd hI;have hA10:=hW.ab.ext (f8.trans (f9.trans f10));have hb:=hb.ext (f8.trans (f9.trans f10));have hb9:=hb9.ext f10;have hb':=hb.fr f11 (adP hA10.ae hb);have hb9':=hb9.fr f11 (adP hA10.ae hb9);rw[g2] at hb9';rw[show ((0:Int)==0)=true from rfl,cond_true,hb'.len];show cond true _ _;rw[cond_true];refine WO hb' λa1 c1 _=>iH (k:= .int .i64) (y:=(-1:Int)) c1 ?_;rw[show ((-1:Int)== -1)=true from rfl,cond_true,cond_true,hb9'.len];show cond true _ _;rw[cond_true];refine WO hb9' λa2 c2 _=>iH (k:= .int .i64) (y:=((1:Nat):Int)) c2 ?_;refine⟨rfl,?_⟩;have O:=hA10.lo A'.ks (.inl (by simp[AA.own]));exact x3.trans (X.new f11 λy hy e=>by omega)
end Go.Proofs.AN
end
