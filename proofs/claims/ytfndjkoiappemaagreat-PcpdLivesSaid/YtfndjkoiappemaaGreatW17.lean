import Derived.Test.YtfndjkoiappemaaGreatW16
import Derived.Test.YtfndjkoiappemaaGreatW12
import Derived.Test.YtfndjkoiappemaaGreatW3
open List (length_map)
set_option maxRecDepth 100000
set_option maxHeartbeats 4000000
section
namespace Go.Proofs.XS
open Gp Go.Proofs Go.Proofs.EN Go.Proofs.XN Go.Proofs.PS
open Gp.Bind (Bnd Slots live GoodB freeN getS In64)
variable {w w':World} {A A':SA} {a a':V6} {c:Cf} {SS:Gp.Ses.Slots} {x x':XV} {v v':SV}
def Zs (b:Bnd):Prop:=b.st=true
structure Duo (c:Cf) (SS:Gp.Ses.Slots) (w:World) (A:SA) (v:SV) (a:V6) (x:XV):Prop where
 srv:Srv w A c v
 good:PS.Good c Zs v []
 xs:uh w a c SS x
 lnk:Lnk v x
 nox:NoX SS
 el:v.e.l=[]
 dj:∀y,jS A v.L y->¬qA a y
 nx:0<=v.nx/\v.nx<8192
 most:v.most<=4096/\(v.L.length:Int)<=v.most
 now:v.now<=2^40
theorem Duo.ext (h:Duo c SS w A v a x) (hf:Ext w w'):Duo c SS w' A v a x:=⟨h.srv.ext hf,h.good,h.xs.ext hf,h.lnk,h.nox,h.el,h.dj,h.nx,h.most,h.now⟩
theorem Duo.aeH (h:Duo c SS w A v a x):RD v.e.S:=by
 intro j b hj;rcases h.good.ex j b hj with ⟨y,hy,hb⟩|hz
 ·rw[<- hb];exact(h.good.eb y hy).1
 ·exact hz
theorem Duo.li (h:Duo c SS w A v a x):v.LI.length<=2^20:=by
 have h1:=PY (ah7 h.srv h.good) (m:=v.L.map (·.blk)) λn hn=>by
  obtain⟨p,hp,rfl⟩:=List.mem_map.1 hn;obtain⟨y,hy,_,hb⟩:=(h.good.li p.1 p.2).1 (aah h.srv.nI hp);exact List.mem_map.2 ⟨y,hy,hb⟩
 rw[length_map,length_map] at h1;have:=h.most;omega
theorem Fq.len {b:Bnd} {lf r e0 u I:Int} (h:Fq c v b lf r e0 u I v') (hv:(v.L.length:Int)<=v.most):(v'.L.length:Int)<=v.most:=by
 cases h with
 |none=>exact hv
 |ext=>exact hv
 |full=>exact hv
 |map=>exact hv
 |drop _ _ _ _ hL=>
  rw[hL];exact Int.le_trans (Int.ofNat_le.2 (List.length_filter_le _ v.L)) hv
 |renew _ _ _ _ hL=>
  rw[hL];unfold GX;rw[length_map];exact hv
 |add _ _ hl _ hL=>
  rw[hL,List.length_cons];omega
theorem Qx.len {sw ad:Int} {l bs:List UInt8} {e:Int} (h:Qx c v sw ad l e bs v') (hv:(v.L.length:Int)<=v.most):(v'.L.length:Int)<=v.most:=by
 cases h with
 |bad=>exact hv
 |far=>exact hv
 |ans _ _ ha=>exact Fq.len ha hv
theorem Duo.serve {w1 w2:World} (h:Duo c SS w A v a x) (ho:Out c Zs w A v w1 A' v') (hl:(v'.L.length:Int)<=v.most) (hx:Ext w1 w2) (u:I9 c SS w2 a w' a' v' x'):Duo c SS w' A' v' a' x':=by
 have z1:=ho.fr.size;have z2:=hx.size;have sub':∀y,jS A' v'.L y->¬qA a y:=λy hy hr=>by
  rcases ho.sub y hy with h1|h1
  ·exact h.dj y h1 hr
  ·obtain⟨k,hk⟩:=hr;have:=h.xs.lt k y hk;omega
 refine⟨(ho.srv.ext hx).fr u.fr λk y hy=>sub' y ⟨k,hy⟩,ho.good,u.srv,u.lnk,h.nox,ho.el.trans h.el,λy hy hr=> ?_,ho.nx,⟨by rw[ho.most];exact h.most.1,by rw[ho.most];exact hl⟩,by rw[ho.now];exact h.now⟩;rcases u.sub y hr with h1|h1
 ·exact sub' y hy h1
 ·obtain⟨k,hk⟩:=hy;have:=ho.srv.lt k y hk;omega
theorem Duo.adv {w1 w2:World} {T:Nat} (h:Duo c SS w A v a x) (hT:T<=2^40) (f1:iG w w1 (jS A v.L)) (hS:Srv w1 A' c v') (hG:PS.Good c Zs v' []) (I:∀b,jS A' v'.L b->jS A v.L b\/w.heap.size<=b)
  (hn:v'.now=T) (hL:∀y,y∈v'.L↔y∈v.L/\(T:Int)<y.un) (he:v'.e.now=v.e.now) (J:v'.e.l=v.e.l) (N:v'.e.S.length=v.e.S.length)
  (O:∀(j:Nat) (b:Bnd),v'.e.S[j]? =some (some b)↔v.e.S[j]? =some (some b)/\∀y∈v.L,y.b=b->(T:Int)<y.un) (hm:v'.most=v.most) (R:v'.nx=v.nx)
  (hx:Ext w1 w2) (f2:iG w2 w' (qA a)) (hX:uh w' a' c SS x') (xsub:∀z,qA a' z->qA a z\/w2.heap.size<=z)
  (xn:x'.now=T) (xm:x'.most=x.most) (xe:x'.en=x.en) (xg:aco x.M x.S T 0 x'):Duo c SS w' A' v' a' x'/\((v.L.length:Int) - v'.L.length)=((x.M.length:Int) - x'.M.length):=by
 have z1:=f1.size;have z2:=hx.size;have u:=h.lnk.adv hn hL he N O hm xn xm xe xg;have sub':∀y,jS A' v'.L y->¬qA a y:=λy hy hr=>by
  rcases I y hy with h1|h1
  ·exact h.dj y h1 hr
  ·obtain⟨k,hk⟩:=hr;have:=h.xs.lt k y hk;omega
 have hlen:=u.len hS hG;have hlen0:=h.lnk.len h.srv h.good;have hle:v'.L.length<=v.L.length:=by
  have h1:x'.M.length<=x.M.length:=by
   rw[xg.ml];simp only[List.take_zero,List.nil_append,List.drop_zero];exact List.length_filter_le _ _
  omega
 refine⟨⟨hS.ext hx|>.fr f2 λk y hy=>sub' y ⟨k,hy⟩,hG,hX,u,h.nox,J.trans h.el,λy hy hr=> ?_,by rw[R];exact h.nx,⟨by rw[hm];exact h.most.1,by rw[hm];have:=h.most.2;omega⟩,by rw[hn];exact hT⟩,by omega⟩;rcases xsub y hr with h1|h1
 ·exact sub' y hy h1
 ·obtain⟨k,hk⟩:=hy;have:=hS.lt k y hk;omega
theorem Duo.eng {w1 w2:World} {t:Int} {ss:List iq} {wn:Nat} {F:Gp.Wh.Fs} (h:Duo c SS w A v a x) (f1:iG w w1 (GU A.a)) (u:∀z,WN.pz A.a.d A.a.m ss z->WN.pz A.a.d A.a.m A.a.ss z\/w.heap.size<=z)
  (hE:wQ w1 {A.a with ss:=ss} c {v.e with now:=hop v.e.now t,l:=[],wn:=wn,F:=F}) (hx:Ext w1 w2) (f2:iG w2 w' (·=a.x.x)) (hX:XE w' a.x c x.S SS (hop x.en t)):
  Duo c SS w' {A with a:={A.a with ss:=ss}} {v with e:={v.e with now:=hop v.e.now t,l:=[],wn:=wn,F:=F}} a {x with en:=hop x.en t}:=by
 have z1:=f1.size;have z2:=hx.size;have subE:∀b,GU {A.a with ss:=ss} b->GU A.a b\/w.heap.size<=b:=by
  rintro b ⟨k,hk⟩
  match k,hk with
  |0,hk=>exact .inl ⟨0,hk⟩
  |1,hk=>exact .inl ⟨1,hk⟩
  |2,hk=>exact .inl ⟨2,hk⟩
  |3,hk=>exact .inl ⟨3,hk⟩
  |4,hk=>exact .inl ⟨4,hk⟩
  |5,hk=>exact(u b hk).imp (λh=>⟨5,h⟩) id
  |(n+6),hk=>exact hk.elim
 have hS:=h.srv.ab5 f1 hE rfl subE;have sub':∀y,jS {A with a:={A.a with ss:=ss}} v.L y->¬qA a y:=by
  rintro y ⟨k,hk⟩ hr;have hlt:y<w.heap.size:=by
   obtain⟨j,hj⟩:=hr;exact h.xs.lt j y hj
  match k,hk with
  |0,hk=>exact h.dj y ⟨0,hk⟩ hr
  |1,hk=>
   rcases subE y hk with h1|h1
   ·exact h.dj y ⟨1,h1⟩ hr
   ·omega
  |2,hk=>exact h.dj y ⟨2,hk⟩ hr
  |3,hk=>exact h.dj y ⟨3,hk⟩ hr
  |4,hk=>exact h.dj y ⟨4,hk⟩ hr
  |5,hk=>exact h.dj y ⟨5,hk⟩ hr
  |(n+6),hk=>exact hk.elim
 have g:=h.good;have fXS:uh w2 a c SS x:=(h.xs.fr f1 λk y hy hk=>h.dj y ⟨1,hk⟩ ⟨k,hy⟩).ext hx;have I:=fXS.ab5 (A:=a.x) (f2.mono λy hy=>⟨0,hy⟩) rfl (λz hz=> .inl hz) hX;have ha:({a with x:=a.x}:V6)=a:=rfl;refine⟨(hS.ext hx).fr f2 λk y hy e=>sub' y ⟨k,hy⟩ ⟨2,0,e⟩,⟨⟨g.inv.ql,g.inv.cn,g.inv.gv,g.inv.mp⟩,g.ns,g.wn,g.li,g.ld,g.kk,g.ii,g.eb,g.ex,g.ir,g.wl,g.wt⟩,I,⟨h.lnk.so,h.lnk.mem,h.lnk.S,?_,h.lnk.now,h.lnk.most⟩,h.nox,rfl,sub',h.nx,h.most,h.now⟩;show hop x.en t=hop v.e.now t;rw[h.lnk.en]
end Go.Proofs.XS
end
section
namespace Go.Proofs.XS
open Gp Go.Proofs Go.Proofs.EN Go.Proofs.XN Go.Proofs.PS Go.Proofs.CN
open Gp.Bind (Bnd Slots live GoodB freeN getS In64)
variable {w W X X':World} {A A':SA} {a a':V6} {c:Cf} {SS:Gp.Ses.Slots} {x x':XV} {v v':SV} {As ea sx xx b p q:Nat} {ds:List Nat} {t t':Int}
theorem afX (n:Int) (hn:n<1\/n>4096) (p:g_) (w:World):vO p n w λp r w'=>r=1/\p=none/\w'=w:=by
 apply Sv;intro J;have hJ:J true:=by simp only[J,cond_true];exact⟨by trivial,by trivial,by trivial⟩
 clear_value J
 cases hp:Option.isNone p
 ·rw[cond_false];by_cases h1:n<1
  ·rw[decide_eq_true h1,cond_true];exact hJ
  ·rw[decide_eq_false h1,cond_false];have:n>4096:=by omega
   rw[decide_eq_true this];exact hJ
 ·rw[cond_true];exact hJ
theorem Px {q:Bool} {P Q:Prop} (hp:P) (hq:Q):cond q P Q:=by cases q;exact hq;exact hp
theorem ahx (h:Srv w A c v):oz (some ⟨A.s,0,none⟩) w λr w'=>r=(v.now:Int)/\w'=w:=by
 apply Ox;refine nV (PS.Ad h) ?_;rintro _ w2 ⟨rfl,hw⟩;subst hw;rw[Bool.not_true,cond_false];exact jc.2 (iC (k:= .int .i64) (i:=4) (x:=(v.now:Int)) h.hd rfl ⟨rfl,rfl⟩)
theorem afb {s s':iq} {l l':List UInt8} (h:qy w s l) (h':qy w s' l'):uK s s' w λr w'=>r=strEq ⟨⟨l⟩⟩ ⟨⟨l'⟩⟩/\w'=w:=by
 apply Vj;exact Ja h (Ja h' ⟨rfl,rfl⟩)
theorem acd (l:List UInt8):strEq ⟨⟨l⟩⟩ ⟨⟨l⟩⟩=true:=by unfold strEq;exact beq_self_eq_true _
structure Lv (c:Cf) (SS:Gp.Ses.Slots) (W X:World) (As ea sx xx b p:Nat) (A:SA) (v:SV) (a:V6) (x:XV) (ds:List Nat) (t:Int):Prop where
 duo:Duo c SS X A v a x
 tn:v.tn<=t
 hx:Ext W X
 lo1:∀y,jS A v.L y->W.heap.size<=y
 lo2:∀y,qA a y->W.heap.size<=y
 eA:A.s=As
 ee:A.a.x=ea
 es:a.s=sx
 ex:a.x.x=xx
 rb:Row X b [.bool false]
 hb:b<W.heap.size
 rp:Row X p [.pointer (some ⟨sx,0,none⟩)]
 hp:W.heap.size<=p
 fp:¬jS A v.L p/\¬qA a p
 dm:∀d∈ds,W.heap.size<=d/\d≠p/\¬jS A v.L d/\¬qA a d/\X.heap[d]? =some (.deferred (some []))
 nd:ds.Nodup
theorem Lv.ext (h:Lv c SS W X As ea sx xx b p A v a x ds t) (f:Ext X X'):Lv c SS W X' As ea sx xx b p A v a x ds t:=
 ⟨h.duo.ext f,h.tn,h.hx.trans f,h.lo1,h.lo2,h.eA,h.ee,h.es,h.ex,h.rb.ext f,h.hb,h.rp.ext f,h.hp,h.fp,λd hd=>by
  obtain⟨h1,h2,h3,h4,h5⟩:=h.dm d hd;refine⟨h1,h2,h3,h4,?_⟩;rw[(f λ_=>False).same d (Array.getElem?_eq_some_iff.1 h5).1 (by simp)];exact h5,h.nd⟩
theorem Lv.step (h:Lv c SS W X As ea sx xx b p A v a x ds t) (f:iG X X' (λy=>jS A v.L y\/qA a y)) (hD:Duo c SS X' A' v' a' x')
  (s1:∀y,jS A' v'.L y->jS A v.L y\/X.heap.size<=y) (s2:∀y,qA a' y->qA a y\/X.heap.size<=y) (e1:A'.s=A.s) (e2:A'.a.x=A.a.x) (e3:a'.s=a.s) (e4:a'.x.x=a.x.x) (ht:v'.tn<=t'):
  Lv c SS W X' As ea sx xx b p A' v' a' x' ds t':=by
 have zX:=h.hx.size;have n0:∀y,y<W.heap.size->¬(jS A v.L y\/qA a y):=by
  rintro y hy (h1|h1)
  ·have:=h.lo1 y h1;omega
  ·have:=h.lo2 y h1;omega
 have hb:=h.hb;have plt:=h.rp.lt;have n1:∀d,d<X.heap.size->¬jS A v.L d->¬jS A' v'.L d:=λd hd hn hh=>(s1 d hh).elim hn λ_=>by omega
 have n2:∀d,d<X.heap.size->¬qA a d->¬qA a' d:=λd hd hn hh=>(s2 d hh).elim hn λ_=>by omega
 refine⟨hD,ht,h.hx.new f λy hy=>n0 y hy,λy hy=> ?_,λy hy=> ?_,e1.trans h.eA,e2.trans h.ee,e3.trans h.es,e4.trans h.ex,h.rb.fr f (n0 b hb),hb,h.rp.fr f λhh=>hh.elim h.fp.1 h.fp.2,h.hp,⟨n1 p plt h.fp.1,n2 p plt h.fp.2⟩,λd hd=> ?_,h.nd⟩
 ·rcases s1 y hy with h1|h1
  ·exact h.lo1 y h1
  ·omega
 ·rcases s2 y hy with h1|h1
  ·exact h.lo2 y h1
  ·omega
 ·obtain⟨h1,h2,h3,h4,h5⟩:=h.dm d hd;have u:=(Array.getElem?_eq_some_iff.1 h5).1;refine⟨h1,h2,n1 d u h3,n2 d u h4,?_⟩;rw[f.same d u λhh=>hh.elim h3 h4];exact h5
theorem Lv.own_ne (h:Lv c SS W X As ea sx xx b p A v a x ds t) (hq:X.heap.size<=q):¬jS A v.L q/\¬qA a q:=⟨λ⟨k,hk⟩=>by have:=h.duo.srv.lt k q hk;omega,λ⟨k,hk⟩=>by have:=h.duo.xs.lt k q hk;omega⟩
theorem Lv.serve (h:Lv c SS W X As ea sx xx b p A v a x ds t) (ht:t<2^61) {op sw ad nw:Int} (I:In64 ad) {s:iq} {l:List UInt8} (hs:qy X s l) (hl:l.length<=2^40) (J:∀z,s.a=some z->0<l.length->z.block<W.heap.size)
  (rq:Row X q [.int .i64 op,.int .i64 sw,.int .i64 ad,.int .i64 nw,.slice s.a s.len s.cap]) (hq:¬jS A v.L q) {K:Bool->b_}
  (hK:∀X' A' v' a' x',Lv c SS W X' As ea sx xx b p A' v' a' x' ds (t+1)->K true X'):
  ni (some ⟨As,0,none⟩) sw ad s X λr222 r223 w224=>Ld .ptr w224 ⟨p,0,none⟩ λx225=>Ld (.int .i64) w224 (Addr.add ⟨q,0,none⟩ 1) λx226=>Ld (.int .i64) w224 (Addr.add ⟨q,0,none⟩ 2) λx227=>Ld .slice w224 (Addr.add ⟨q,0,none⟩ 4) λx228=>
   qZ x225 x226 x227 x228 w224 λr229 r230 w231=>uK r222 r229 w231 λr232 w233=>(bif r232 then K (r223==r230) w233 else K false w233):=by
 rw[<- h.eA];have D:=h.duo;refine aaE D.srv D.good D.nx (by have:=h.tn;omega) D.most.1 I hs hl λs' e bs w1 A' v' ho hr hb hn=> ?_;have f1:=ho.fr;have z1:=f1.size;have rp1:=h.rp.fr f1 h.fp.1;have rq1:=rq.fr f1 hq;refine iC (k:= .ptr) (i:=0) (x:=some ⟨sx,0,none⟩) rp1 rfl (iC (k:= .int .i64) (i:=1) (x:=sw) rq1 rfl (iC (k:= .int .i64) (i:=2) (x:=ad) rq1 rfl (iC (k:= .slice) (i:=4) (x:=s) rq1 rfl ?_)));rw[<- h.es];have hs1:qy w1 s l:=hs.fr f1 λad' ha hl' ho'=>by
  have h1:=J ad' ha hl';have h2:=h.lo1 _ ho';omega
 have xs1:uh w1 a c SS x:=D.xs.fr f1 λk y hy hk=>D.dj y hk ⟨k,hy⟩;refine ad9 xs1 D.nox (D.lnk.fit D.srv D.good D.most D.now) D.lnk I hs1 hl hr ho.now ho.most ho.en λs'' w2 a' x' u hb2=> ?_;have hs':qy w2 s' bs:=qy.zZ (hb.fr u.fr λy hy hh=>by
  have h1:=(hn y hy).1;obtain⟨k,hk⟩:=hh;have:=D.xs.lt k y hk;omega)
 refine Uu (afb hs' (qy.zZ hb2)) ?_;rintro r w3 ⟨rfl,rfl⟩;rw[acd,cond_true,beq_self_eq_true];have hD:=D.serve ho (Qx.len hr D.most.2) (Ext.refl w1) u;refine hK w3 A' v' a' x' (h.step ((f1.mono λy hy=> .inl hy).trans u.fr λy _ hy=> .inr hy) hD ho.sub (λy hy=> ?_) ho.s ho.x u.s u.x ?_)
 ·rcases u.sub y hy with h1|h1
  ·exact .inl h1
  ·exact .inr (by omega)
 ·have:=ho.tn;have:=h.tn;omega
theorem Lv.adv (h:Lv c SS W X As ea sx xx b p A v a x ds t) (ht:t<2^61) (T:Int) {k3:Nat} {l5:List Value} (rq:Row X q l5) (r3:l5[k3]? =some (.int .i64 T)) (hq:¬jS A v.L q) {K:Bool->b_}
  (hK:∀X' A' v' a' x',Lv c SS W X' As ea sx xx b p A' v' a' x' ds (t+1048576)->K true X'):
  jO (some ⟨As,0,none⟩) T X λr237 w238=>w238.cell? (Addr.add ⟨q,0,none⟩ k3)=some (.int .i64 T)/\w238.cell? ⟨p,0,none⟩=some (.pointer (some ⟨sx,0,none⟩))/\
   kR (some ⟨sx,0,none⟩) T w238 λr239 w240=>K (r237==r239) w240:=by
 rw[<- h.eA];have D:=h.duo;have hm:=D.most;have hnow:=D.now;obtain⟨T',hT'⟩:∃n:Nat,n=max v.now (min T 1099511627776).toNat:=⟨_,rfl⟩;refine zO (ahv D.srv D.good (by have:=h.tn;omega) (by omega) T hT') ?_;rintro n w1 ⟨f1,A',v',hS,hG,eA,ea',u,hn,hL,htn,he,I,J,N,O,R,rfl⟩;have z1:=f1.size;have rp1:=h.rp.fr f1 h.fp.1;have rq1:=rq.fr f1 hq;refine⟨by rw[kK,Nat.zero_add,rq1.cell];exact r3,by rw[rp1.cell];rfl,?_⟩;rw[<- h.es];have xs1:uh w1 a c SS x:=D.xs.fr f1 λk y hy hk=>D.dj y hk ⟨k,hy⟩;refine Gq (agx (T:=T') xs1 D.nox (D.lnk.akh D.srv D.good) T (by rw[D.lnk.now];exact hT')) ?_;rintro n' w2 ⟨f2,a',x',hX,es,ex,xsub,xn,xm,xe,xg,rfl⟩;obtain⟨hD,hc⟩:=D.adv (by omega) f1 hS hG u hn hL he I J N O R (Ext.refl w1) f2 hX xsub xn xm xe xg;rw[hc,beq_self_eq_true];refine hK w2 A' v' a' x' (h.step ((f1.mono λy hy=> .inl hy).trans f2 λy _ hy=> .inr hy) hD u (λy hy=> ?_) eA (by rw[ea']) es ex ?_)
 ·rcases xsub y hy with h1|h1
  ·exact .inl h1
  ·exact .inr (by omega)
 ·have:=h.tn;omega
theorem Lv.eng (h:Lv c SS W X As ea sx xx b p A v a x ds t) (T:Int) {k3:Nat} {l5:List Value} (rq:Row X q l5) (r3:l5[k3]? =some (.int .i64 T)) (hq:¬jS A v.L q) {K:Bool->b_}
  (hK:∀X' A' v' a' x',Lv c SS W X' As ea sx xx b p A' v' a' x' ds t->K true X'):
  kX (some ⟨ea,0,none⟩) T X λr237 w238=>w238.cell? (Addr.add ⟨q,0,none⟩ k3)=some (.int .i64 T)/\
   kQ (some ⟨xx,0,none⟩) T w238 λr239 w240=>K (r237==r239) w240:=by
 rw[<- h.ee];have D:=h.duo;refine Hz (ZN D.srv.en D.el T) ?_;rintro n w1 ⟨rfl,f1,ss,wn,F,u,hE⟩;have z1:=f1.size;have rq1:=rq.fr f1 λhh=>hq ⟨1,hh⟩;refine⟨by rw[kK,Nat.zero_add,rq1.cell];exact r3,?_⟩;rw[<- h.ex];have xs1:XE w1 a.x c x.S SS x.en:=D.xs.en.fr f1 λk z hz hk=>D.dj z ⟨1,hk⟩ ⟨2,k,hz⟩;refine Gn (aaU xs1 D.nox (by rw[D.lnk.S];exact D.aeH) T) ?_;rintro n' w2 ⟨rfl,f2,hX⟩;rw[beq_self_eq_true];have hD:=D.eng f1 u hE (Ext.refl w1) f2 hX;refine hK w2 _ _ a _ (h.step ((f1.mono λy hy=> .inl ⟨1,hy⟩).trans f2 λy _ hy=> .inr ⟨2,0,hy⟩) hD ?_ (λy hy=> .inl hy) rfl rfl rfl rfl h.tn);rintro y ⟨k,hk⟩
 match k,hk with
 |0,hk=>exact .inl ⟨0,hk⟩
 |1,⟨j,hk⟩=>
  match j,hk with
  |0,hk=>exact .inl ⟨1,0,hk⟩
  |1,hk=>exact .inl ⟨1,1,hk⟩
  |2,hk=>exact .inl ⟨1,2,hk⟩
  |3,hk=>exact .inl ⟨1,3,hk⟩
  |4,hk=>exact .inl ⟨1,4,hk⟩
  |5,hk=>exact(u y hk).imp (λh=>⟨1,5,h⟩) id
  |(n+6),hk=>exact hk.elim
 |2,hk=>exact .inl ⟨2,hk⟩
 |3,hk=>exact .inl ⟨3,hk⟩
 |4,hk=>exact .inl ⟨4,hk⟩
 |5,hk=>exact .inl ⟨5,hk⟩
 |(n+6),hk=>exact hk.elim
theorem Lv.flush (h:Lv c SS W X As ea sx xx b p A v a x ds t) (k:Int) {k3:Nat} {l5:List Value} (rq:Row X q l5) (r3:l5[k3]? =some (.int .i64 k)) {K:Bool->b_}
  (hK:∀X',Lv c SS W X' As ea sx xx b p A v a x ds t->K true X'):
  m_ (some ⟨ea,0,none⟩) k X λr237 w238=>w238.cell? (Addr.add ⟨q,0,none⟩ k3)=some (.int .i64 k)/\
   lN (some ⟨xx,0,none⟩) k w238 λr239 w240=>K (r237==r239) w240:=by
 rw[<- h.ee];have D:=h.duo;refine Jl (adG D.srv.en D.good.ns D.aeH k) ?_;rintro n w1 ⟨rfl,f1⟩;have rq1:=rq.ext f1;refine⟨by rw[kK,Nat.zero_add,rq1.cell];exact r3,?_⟩;rw[<- h.ex];refine IE (aej (D.xs.en.ext f1) D.nox (by rw[D.lnk.S];exact D.aeH) k) ?_;rintro n' w2 ⟨rfl,f2⟩;rw[beq_self_eq_true];exact hK w2 (h.ext (f1.trans f2))
theorem Lv.look (h:Lv c SS W X As ea sx xx b p A v a x ds t) {J:Bool->b_} (hJ:∀X',Ext X X'->J false X'):
  Ld .ptr X ⟨p,0,none⟩ λx193=>Pt x193 λa194=>Ld (.int .i64) X (a194.add 2) λx195=>oz (some ⟨As,0,none⟩) X λr196 w197=>w197.cell? (a194.add 2)=some (.int .i64 x195)/\
   w197.cell? ⟨p,0,none⟩=some (.pointer x193)/\
   (bif (r196 !=x195) then J true w197 else lH (some ⟨ea,0,none⟩) w197 λr198 r199 r200 r201 r202 r203 r204 w205=>rJ (some ⟨xx,0,none⟩) w205 λr206 r207 r208 r209 r210 r211 r212 w213=>
    wH r198 r199 r200 r201 r202 r203 r204 r206 r207 r208 r209 r210 r211 r212 w213 λr214 w215=>J (!r214) w215):=by
 have D:=h.duo;have hd:=D.xs.hd;rw[h.es] at hd;rw[<- h.eA,<- h.ee,<- h.ex];refine iC (k:= .ptr) (i:=0) (x:=some ⟨sx,0,none⟩) h.rp rfl (jc.2 (iC (k:= .int .i64) (i:=2) (x:=(x.now:Int)) hd rfl ?_));refine NP (ahx D.srv) ?_;rintro _ w1 ⟨rfl,rfl⟩;refine⟨by rw[kK,hd.cell];rfl,by rw[h.rp.cell];rfl,?_⟩;have N:((v.now:Int) !=(x.now:Int))=false:=by rw[D.lnk.now];simp
 rw[N,cond_false];have hE:=D.srv.en;have hb1:=hE.cf.b1;have hs1:=hE.cf.s1;refine ac3 hE ⟨by rw[hE.db.len];omega,by rw[hE.se.len];omega⟩ λbs ss w2 f2 O R _ _=> ?_;refine agB (D.xs.en.ext f2) D.nox λbs' w3 f3 u=> ?_;rw[D.el,D.lnk.en];have I:ss.len=0:=by
  rw[R.len];have h0:Gp.Ses.live 0 v.e.SS=[]:=D.good.ns;unfold SE;rw[h0];rfl
 rw[D.lnk.S] at u;refine Wq (ahB I (O.ext f3) u ?_ _) ?_
 ·rw[length_map];have h1:=Gp.Bind.lX v.e.S 0;have h2:=hE.db.len;omega
 ·rintro r w4 ⟨rfl,f4⟩;exact hJ w4 ((f2.trans f3).trans f4)
theorem Uo (awake:∀w,mD w λr w'=>r=true/\Ext w w') {q0:Bool} (hw:Ext w W) (hbw:w.heap.size<=b) (hb:b<W.heap.size) (hx:Ext W X) (rb:Row X b [.bool q0]) (hd:∀d∈ds,W.heap.size<=d/\X.heap[d]? =some (.deferred (some []))) (nd:ds.Nodup):
  mD X λr w1=>St w1 ⟨b,0,none⟩ (.bool r) λw2=>yH ds w2 λw3=>Ld .bool w3 ⟨b,0,none⟩ λy=>y=true/\Ext w w3:=by
 refine Jk (awake X) ?_;rintro _ w1 ⟨rfl,f1⟩;have zX:=hx.size;have zw:=hw.size;refine iK (i:=0) (rb.ext f1) rfl (by simp) λw2 r2 f2' z2=> ?_;have f2:iG w1 w2 (·=b):=f2' _ rfl;simp only[List.set_cons_zero] at r2;refine adz (n:=W.heap.size) ds w2 (λd h=>⟨(hd d h).1,?_⟩) nd λw3 f3 z3=> ?_
 ·have h1:=hd d h;have hl:=(Array.getElem?_eq_some_iff.1 h1.2).1;have:=f1.size;rw[f2.same d (by omega) (by omega),(f1 λ_=>False).same d hl (by simp)];exact h1.2
 ·refine iC (k:= .bool) (i:=0) (x:=true) (r2.fr f3 (by omega)) rfl ⟨rfl,?_⟩;have g1:Ext w w1:=(hw.trans hx).trans f1;exact(g1.new f2 λy hy e=>by omega).new f3 λy hy e=>by omega
end Go.Proofs.XS
end
section
namespace Go.Proofs.XS
open Gp Go.Proofs Go.Proofs.EN Go.Proofs.XN Go.Proofs.PS Go.Proofs.CN
open Gp.Bind (Bnd Slots live GoodB freeN getS In64)
variable {w W X X':World} {A A':SA} {a a':V6} {c:Cf} {SS:Gp.Ses.Slots} {x x':XV} {v v':SV} {As ea sx xx b p q:Nat} {ds:List Nat} {t t':Int}
theorem Lv.mark (h:Lv c SS W X As ea sx xx b p A v a x ds t) {d:Nat} (h1:W.heap.size<=d) (h2:d≠p) (h3:¬jS A v.L d) (h4:¬qA a d) (h5:X.heap[d]? =some (.deferred (some []))) (hn:d∉ds):
  Lv c SS W X As ea sx xx b p A v a x (d::ds) t:=
 ⟨h.duo,h.tn,h.hx,h.lo1,h.lo2,h.eA,h.ee,h.es,h.ex,h.rb,h.hb,h.rp,h.hp,h.fp,λy hy=>by
  rcases List.mem_cons.1 hy with rfl|hy
  ·exact⟨h1,h2,h3,h4,h5⟩
  ·exact h.dm y hy,List.nodup_cons.2 ⟨hn,h.nd⟩⟩
theorem Lv.aiF (h:Lv c SS W X As ea sx xx b p A v a x ds t) {Q:b_} {nx:List Nat->b_}
  (hK:∀X' m,Lv c SS W X' As ea sx xx b p A v a x (m::ds) t->nx (m::ds) X'):
  Al X (.cells ⟨[(Value.int .i64 0)]⟩ 3) λa142 w141=>St w141 a142 (Value.int .i64 0) λw143=>qR (some ⟨As,0,none⟩) w143 λr144 w145=>
   F7 Tryz.prog none [.agg [(.int .i64),(.int .i64),(.int .i64),(.int .i64)],.one (.int .i64)] r144 w145 (λl146 x147 W148 Kb149=>
    Al W148 (.cells ⟨[(Value.int .i64 0),(Value.int .i64 0),(Value.int .i64 0),(Value.int .i64 0)]⟩ 78) λa151 w150=>
    lM [(Value.int .i64 x147.1.1),(Value.int .i64 x147.1.2.1),(Value.int .i64 x147.1.2.2.1),(Value.int .i64 x147.1.2.2.2.1)] w150 a151 0 λw152=>w152.heap[l146]? =W148.heap[l146]? /\
    let J153:Bool->b_:=λj154 w155=>((bif j154 then
     St w155 ⟨b,0,none⟩ (Value.bool false) λw156=>Kb149 .ret w156
     else
     Ld (.int .i64) w155 a142 λx157=>St w155 a142 (Value.int .i64 (IntKind.i64.wrap (x157+1))) λw158=>Kb149 .normal w158))
    Ld (.int .i64) (iD w152 l146).drew a142 λx159=>Ld .ptr (iD w152 l146).drew ⟨p,0,none⟩ λx160=>Pt x160 λa161=>Ld .slice (iD w152 l146).drew (a161.add 1) λx162=>(bif (decide (x159>=(x162.len:Int))) then
     J153 true (iD w152 l146).drew
     else
     Ld .ptr (iD w152 l146).drew ⟨p,0,none⟩ λx163=>Pt x163 λa164=>Ld .slice (iD w152 l146).drew (a164.add 1) λx165=>Ld (.int .i64) (iD w152 l146).drew a142 λx166=>iO x165 8 x166 λa167=>
     Ld (.int .i64) (iD w152 l146).drew (a167.add 0) λx168=>Ld (.int .i64) (iD w152 l146).drew (a167.add 1) λx169=>Ld (.int .i64) (iD w152 l146).drew (a167.add 2) λx170=>Ld (.int .i64) (iD w152 l146).drew (a167.add 3) λx171=>
     Ld (.int .i64) (iD w152 l146).drew (a151.add 0) λx172=>Ld (.int .i64) (iD w152 l146).drew (a151.add 1) λx173=>Ld (.int .i64) (iD w152 l146).drew (a151.add 2) λx174=>Ld (.int .i64) (iD w152 l146).drew (a151.add 3) λx175=>
     (bif (!((x168==x172) && ((x169==x173) && ((x170==x174) && ((x171==x175) && true))))) then
     J153 true (iD w152 l146).drew
     else
     Ld .ptr (iD w152 l146).drew ⟨p,0,none⟩ λx176=>Pt x176 λa177=>Ld .slice (iD w152 l146).drew (a177.add 1) λx178=>Ld (.int .i64) (iD w152 l146).drew a142 λx179=>iO x178 8 x179 λa180=>
     Ld (.int .i64) (iD w152 l146).drew (a180.add 7) λx181=>J153 (x181 !=x147.2.1) (iD w152 l146).drew)))
    (λw182=>Ld (.int .i64) w182.drew a142 λx183=>Ld .ptr w182.drew ⟨p,0,none⟩ λx184=>Pt x184 λa185=>Ld .slice w182.drew (a185.add 1) λx186=>(bif (x183 !=(x186.len:Int)) then
     St w182.drew ⟨b,0,none⟩ (Value.bool false) λw187=>yH (w145.heap.size::ds) w187 Q
     else
     nx (w145.heap.size::ds) w182.drew))
    (λw190=>yH (w145.heap.size::ds) w190 Q) []:=by
 refine iI λn w1 r1 e1 z1 f1=> ?_;refine iK (i:=0) r1 rfl (by simp) λw2 r2 f2' z2=> ?_;have f2:iG w1 w2 (·=n):=f2' _ rfl;simp only[List.set_cons_zero] at r2;have x2:Ext X w2:=f1.new f2 λy hy e=>by omega
 have h2:=h.ext x2;have O:∀{K:Value->b_},(∀f w',Row w' f [.pointer (some ⟨A.s,0,none⟩)]->Ext w2 w'->K (Value.func (.func zY) #[] #[(Value.pointer (some ⟨f,0,none⟩))]) w')->qR (some ⟨As,0,none⟩) w2 K:=by
  intro K hK;apply IK;rw[<- h.eA];exact⟨rfl,iI λf w1 r1 e1 z1 f1=>hK f w1 r1 f1⟩
 refine O λf w3 r3 f3=> ?_;have h3:=h2.ext f3;have r2:=r2.ext f3;have D:=h3.duo;have z3:=f3.size;have nq:=h.own_ne (q:=n) (by omega);have hp3:=h3.rp.lt;have hb3:=h3.rb.lt;have hpX:=h.rp.lt;have hbX:=h.rb.lt;have hfl:=r3.lt;have R:(yL x.M).length=x.M.length:=by simp[yL]
 have hll:=D.xs.ll;have up:∀{i W' W''},(iG w3 W' (·=n)/\Row W' n [.int .i64 (i:Int)])->iG W' W'' (w3.heap.size<=·)->(iG w3 W'' (·=n)/\Row W'' n [.int .i64 (i:Int)]):=by
  rintro i W' W'' ⟨g1,g2⟩ hf;exact⟨g1.trans hf λy hy e=>by omega,g2.fr hf (by omega)⟩
 have hf:f≠n:=by
  intro e;subst e;have q1:=r3.cell 0;rw[r2.cell] at q1;simp at q1
 refine Rz (aad (A:=A) D.lnk D.good D.li f) (λi Y=>iG w3 Y (·=n)/\Row Y n [.int .i64 (i:Int)]) (λ_ _=>False) (by simp) ?_ ?_ ?_ (by intro e W W' h;exact h.elim) (by intro e W h;exact h.elim) ?_ ?_ (by intro W h;exact h.elim) (by intro id W h;exact h.elim)
 ·intro Y hY _;exact⟨hY _,r2.ext hY⟩
 ·rintro i Y ⟨g1,g2⟩;exact⟨r3.fr g1 hf,D.srv.fr g1 λk y hy e=>nq.1 ⟨k,e ▸ hy⟩⟩
 ·rintro i Y Y' hI hf;have:mV none w3=w3.heap.size+1:=rfl;exact up hI (hf.mono λy hy=>by omega)
 ·rintro i z Y Kb hx ⟨g1,g2⟩ U hk _;rw[show yL x.M=x.M.map _ from rfl,List.getElem?_map] at hx
  cases I:x.M[i]? with
  |none=>rw[I] at hx;simp at hx
  |some y=>
  rw[I] at hx;simp only[Option.map_some,Option.some.injEq] at hx;subst hx;have hil:i<x.M.length:=(List.getElem?_eq_some_iff.1 I).1;have hl0:mV none w3=w3.heap.size+1:=rfl;refine iI λu w6 r6 e6 z6 f6=> ?_;refine iJ r6 rfl rfl λw7 r7 f7' z7=> ?_;have x7:Ext Y w7:=f6.new (f7' (·=u) rfl) λy hy e=>by omega
  have gz:=g1.size;refine⟨(x7 λ_=>False).same _ U (by simp),?_⟩;have fb:=iG.iD w7 (mV none w3);have fb':iG w7 (iD w7 (mV none w3)).drew (·=mV none w3):=fb.ext (Ext.drew _);have gd:iG w3 (iD w7 (mV none w3)).drew (·=n):=(g1.ext x7).trans fb' λy hy e=>by omega
  have hsz:(iD w7 (mV none w3)).drew.heap.size=w7.heap.size:=by simp[iD]
  have x7z:=x7.size;have qu:=r7.fr fb' (by omega);have qn:=(g2.ext x7).fr fb' (by omega);have qp:=h3.rp.fr gd (by omega);have xsd:=D.xs.fr gd λk y hy e=>nq.2 ⟨k,e ▸ hy⟩;have hd:=xsd.hd;rw[h3.es] at hd;have N:=xsd.sl;have hlen:=N.len;intro J;have hJ:J false (iD w7 (mV none w3)).drew:=by
   simp only[J,cond_false];refine iC (k:= .int .i64) (i:=0) (x:=(i:Int)) qn rfl ?_;rw[wrap_i64 (by omega) (by omega)];refine iK (i:=0) qn rfl (by simp) λw8 r8 f8' z8=> ?_;have f8:iG (iD w7 (mV none w3)).drew w8 (·=n):=f8' _ rfl;simp only[List.set_cons_zero] at r8;refine hk w8 (·=n) (((CN.zu (x7 _) _).trans (iG.drew _ _) λy _ hy=>hy).trans f8 λy _ hy=>hy) (λy e=>by omega) ⟨gd.trans f8 λy _ hy=>hy,?_⟩;rw[show ((i+1:Nat):Int)=(i:Int)+1 by omega];exact r8
  clear_value J;have ldh:∀{K:iq->Prop},K a.sl->Ld .ptr (iD w7 (mV none w3)).drew ⟨p,0,none⟩ λx160=>Pt x160 λa161=>Ld .slice (iD w7 (mV none w3)).drew (a161.add 1) K:=λhK=>
   iC (k:= .ptr) (i:=0) (x:=some ⟨sx,0,none⟩) qp rfl (jc.2 (iC (k:= .slice) (i:=1) (x:=a.sl) hd rfl hK))
  refine iC (k:= .int .i64) (i:=0) (x:=(i:Int)) qn rfl (ldh ?_);have:¬((i:Int)>=(a.sl.len:Int)):=by omega
  rw[decide_eq_false this,cond_false];refine ldh (iC (k:= .int .i64) (i:=0) (x:=(i:Int)) qn rfl ?_);refine SlN_ix nS (by omega) N (by omega) (by rw[Int.toNat_natCast];exact I) λad hc=> ?_;refine zq (k:= .int .i64) (hc 0 _ rfl) (zq (k:= .int .i64) (hc 1 _ rfl) (zq (k:= .int .i64) (hc 2 _ rfl) (zq (k:= .int .i64) (hc 3 _ rfl) ?_)));refine iC (k:= .int .i64) (i:=0) (x:=y.b.sw) qu rfl (iC (k:= .int .i64) (i:=1) (x:=y.b.pr) qu rfl (iC (k:= .int .i64) (i:=2) (x:=y.b.ad) qu rfl (iC (k:= .int .i64) (i:=3) (x:=y.b.po) qu rfl ?_)));simp only[beq_self_eq_true,Bool.and_self,Bool.not_true,cond_false];refine ldh (iC (k:= .int .i64) (i:=0) (x:=(i:Int)) qn rfl ?_);refine SlN_ix nS (by omega) N (by omega) (by rw[Int.toNat_natCast];exact I) λad' hc'=> ?_;refine zq (k:= .int .i64) (y:=y.un) (hc' 7 _ rfl) ?_;rw[bne_self_eq_false];exact hJ
 ·rintro Y ⟨g1,g2⟩ hm;rw[R] at g2;have gz:=g1.size;have aa:=hm rfl;have gd:iG w3 Y.drew (·=n):=g1.ext (Ext.drew _);have qn:=g2.drew;have qp:=h3.rp.fr gd (by omega);have xsd:=D.xs.fr gd λk y hy e=>nq.2 ⟨k,e ▸ hy⟩;have hd:=xsd.hd;rw[h3.es] at hd;have hlen:=xsd.sl.len;refine iC (k:= .int .i64) (i:=0) (x:=(x.M.length:Int)) qn rfl (iC (k:= .ptr) (i:=0) (x:=some ⟨sx,0,none⟩) qp rfl (jc.2 (iC (k:= .slice) (i:=1) (x:=a.sl) hd rfl ?_)));rw[hlen,bne_self_eq_false,cond_false];have ab:Ext X Y.drew:=(x2.trans f3).new gd λy hy e=>by omega
  have hd':=h.ext ab;have zX:=x2.size;have wz:=h.hx.size;refine hK Y.drew w3.heap.size (hd'.mark (by omega) (by omega) (h.own_ne (by omega)).1 (h.own_ne (by omega)).2 aa λhh=> ?_);have:=(Array.getElem?_eq_some_iff.1 (h.dm _ hh).2.2.2.2).1;omega
end Go.Proofs.XS
end
section
namespace Go.Proofs.XS
open Gp Go.Proofs Go.Proofs.EN Go.Proofs.XN Go.Proofs.PS Go.Proofs.CN
open Gp.Bind (Bnd Slots live GoodB freeN getS In64)
theorem afH {c:Cf} {S0:Slots} {l:List Bnd} {S:Slots} (h:CY c S0 l S) (h0:∀(j:Nat) (b:Bnd),¬S0[j]? =some (some b)) (hl:∀b∈l,b.st=true):RD S:=by
 induction h with
 |nil=>exact λj b hj=>absurd hj (h0 j b)
 |no _ _ ih=>exact ih λb hb=>hl b (List.mem_append_left _ hb)
 | @yes l S b i _ _ _ ih=>
  intro j b' hj;rw[List.getElem?_set] at hj;split at hj
  ·split at hj
   ·simp only[Option.some.injEq] at hj;subst hj;exact hl _ (List.mem_append_right _ List.mem_cons_self)
   ·simp at hj
  ·exact ih (λb hb=>hl b (List.mem_append_left _ hb)) j b' hj
theorem afF (awake:∀w,mD w λr w'=>r=true/\Ext w w') {w:World} {p0 p1 p2 p3 p4 p5 p6 p7 p8 p9 ae af ag ah ai aj:Int} {sw po:iq} {n18 n19 n20 n21 n22 n23 n24 n25 n26 n27 n28 n29 n30 n31 n32 n33 n34:Int} {st:iq} {sl:List sV} {pl:List Int} {tl:List T7} (aq:mY 16 e16 w sw sl) (ar:mY 1 eI w po pl) (au:mY 7 e7 w st tl) (n:Int) {s:iq} {xs:List Dc} (hs:ahR w s xs):
  EU p0 p1 p2 p3 p4 p5 p6 p7 p8 p9 ae af ag ah ai aj sw po n18 n19 n20 n21 n22 n23 n24 n25 n26 n27 n28 n29 n30 n31 n32 n33 n34 st n s w λr w'=>r=true/\Ext w w':=by
 apply Oo;refine iI λa w1 r1 e1 z1 f1=> ?_;refine iI λb w2 r2 e2 z2 f2=> ?_;have rd:∀W (Q:_),Row W a (jV p0 p1 p2 p3 p4 p5 p6 p7 p8 p9 ae af ag ah ai aj sw po n18 n19 n20 n21 n22 n23 n24 n25 n26 n27 n28 n29 n30 n31 n32 n33 n34 st)->Q p0 p1 p2 p3 p4 p5 p6 p7 p8 p9 ae af ag ah ai aj sw po n18 n19 n20 n21 n22 n23 n24 n25 n26 n27 n28 n29 n30 n31 n32 n33 n34 st->vH W ⟨a,0,none⟩ Q:=by
  intro W Q hr hq;simp only[sx,hr.cell];exact hq
 refine Jk (awake w2) ?_;rintro _ w3 ⟨rfl,f3⟩;rw[Bool.not_true,cond_false];have x3:=(f1.trans f2).trans f3;have r1:=(r1.ext f2).ext f3;have r2:=r2.ext f3;have hab:a<b:=by omega
 have av:w.heap.size<=b:=by omega
 have hb3:b<w3.heap.size:=r2.lt;intro J;have aC:∀W,Ext w3 W->J true W:=by
  intro W hW;simp only[J,cond_true];have:=Uo awake (ds:=[]) (x3.trans hW) av (by have:=hW.size;omega) (Ext.refl W) (r2.ext hW) (by simp) (by simp);exact this
 have aL:∀W,Ext w3 W->s.len<=40->sw.len<=8->po.len<=4->st.len<=12->chk (p0,p1,p2,p3,p4,p5,p6,p7,p8,p9,ae,af,ag,ah,ai,aj,()) sw.len po.len st.len n18 n19 n20 n21 n22 n23 n24 n25 n26 n27 n28 n29 n30 n31 n32 n33 n34 sw.len sl pl tl 0->J false W:=by
  intro W hW hs40 hsw8 hpo4 hst12 aa;simp -zeta only[J,cond_false];have xW:=x3.trans hW;have zW:=hW.size;have aw:b<W.heap.size:=by omega
  refine rd _ _ (r1.ext hW) ?_;refine acP (aq.ext xW) (ar.ext xW) (au.ext xW) (by omega) (by omega) (by omega) (λr w' _ hr hc=>absurd (Yb hc aa) hr) λ_ _ w4 ea e f4 hE hI hS aD ak=> ?_;obtain⟨hM,hl0⟩:=aD.toX hE.cf;have hl0:e.l=[]/\e.now=0:=hl0;have hM:CY _ (List.replicate n21.toNat none) _ _:=hM;clear aD;have x4:=xW.trans f4;refine rd _ _ ((r1.ext hW).ext f4) ?_;refine XN.Zm (aq.ext x4) (ar.ext x4) (au.ext x4) (by omega) (by omega) (by omega) (λr w' _ hr hc=>absurd (Yb hc aa) hr) λ_ _ w5 xa S f5 hX aE N=> ?_;have aM:=hM.fn aE;subst aM;have al:RD e.S:=afH hM (λj b hj=>by rw[List.getElem?_replicate] at hj;split at hj<;>simp at hj) (λb hb=>by obtain⟨t,_,rfl⟩:=List.mem_map.1 hb;rfl)
  obtain⟨c,O⟩:∃c:Cf,c=⟨jV p0 p1 p2 p3 p4 p5 p6 p7 p8 p9 ae af ag ah ai aj sw po n18 n19 n20 n21 n22 n23 n24 n25 n26 n27 n28 n29 n30 n31 n32 n33 n34 st,sw,pl,n18,n19,n20,n21,n22⟩:=⟨_,rfl⟩;rw[<- O] at hE hI hX;clear hM aE aa O rd;have aF:NoX (List.replicate n22.toNat none):=Lr _ _;generalize List.replicate n22.toNat (none:Option Gp.Ses.Ses)=SS at hX aF;have x5:=x4.trans f5;have hsl:=hs.sl.len;by_cases hn:n<1\/n>4096
  ·
   refine Jp (afX n hn _ _) ?_;rintro p r w6 ⟨rfl,rfl,hw⟩;subst hw;refine Pn (aeo n hn _ _) ?_;rintro p r w6 ⟨rfl,rfl,hw⟩;subst hw;refine iI λg w6 r6 e6 z6 f6=> ?_;refine iK (i:=0) r6 rfl (by simp) λw7 r7 f7' z7=> ?_;have f7:iG w6 w7 (·=g):=f7' _ rfl;simp only[List.set_cons_zero] at r7;have x7:Ext W w7:=((f4.trans f5).trans f6).new f7 λy hy e=>by have:=f4.size;have:=f5.size;omega
   have rb:=(r2.ext hW).ext x7;intro J106;have hJ:J106 false:=by
    simp -zeta only[J106,cond_false];intro J110;have hJ110:∀X,Ext w7 X->J110 [] X:=λX hX'=>Uo awake xW av aw (x7.trans hX') (rb.ext hX') (by simp) (by simp);clear_value J110;refine iE (λq X=>q=((0,()),[])/\X=w7) (λ_ _=>0) ⟨rfl,rfl⟩ ?_;rintro q X ⟨rfl,rfl⟩ next R
    dsimp -zeta only;by_cases hl:(0:Int)<(s.len:Int);rotate_left
    ·rw[decide_eq_false hl,cond_false];exact hJ110 _ (Ext.refl _)
    rw[decide_eq_true hl,cond_true];have hg:=List.getElem?_eq_getElem (show 0<xs.length by omega);generalize xs[0]=y at hg;refine SlN_ix abp (by omega) (hs.sl.ext (xW.trans x7)) (by omega) (by exact hg) λad hc=> ?_;refine zq (k:= .int .i64) (y:=y.op) (hc 0 _ rfl) (zq (k:= .int .i64) (y:=y.sw) (hc 1 _ rfl) (zq (k:= .int .i64) (y:=y.ad) (hc 2 _ rfl) (zq (k:= .int .i64) (y:=y.nw) (hc 3 _ rfl) (zq (k:= .slice) (y:=y.s) (hc 4 _ rfl) ?_))));refine iI λt w8 r8 e8 z8 f8=> ?_;refine iJ r8 rfl rfl λw9 r9 f9' z9=> ?_;have f9:iG w8 w9 (·=t):=f9' _ rfl;have x9:Ext X w9:=f8.new f9 λy hy e=>by omega
    intro J130;have hJ130:J130 true:=by
     simp only[J130,cond_true];exact hJ110 _ x9
    clear_value J130;refine iC (k:= .ptr) (i:=0) (x:=none) (r7.ext x9) rfl ?_;exact hJ130
   clear_value J106;show cond false _ _;rw[cond_false];show cond false _ _;rw[cond_false];refine iC (k:= .ptr) (i:=0) (x:=none) r7 rfl ?_;exact hJ
  ·have hn1:1<=n:=by omega
   have hn2:n<=4096:=by omega
   refine Jp (PS.Q5 (Z:=Zs) (hE.ext f5) hI hS (by rw[hl0.2];omega) hn1 hn2 λj b hj=>al j b hj) ?_;rintro p r w6 ⟨rfl,f6,A,v,rfl,aN,ax,hG,hL,ab,aO,u,an,aP,U⟩;refine Pn (agy (hX.ext f6) hn1 hn2) ?_;rintro p r w7 ⟨rfl,f7,sx,rfl,hsx,ay⟩;refine iI λg w8 r8 e8 z8 f8=> ?_;refine iK (i:=0) r8 rfl (by simp) λw9 r9 f9' z9=> ?_;have f9:iG w8 w9 (·=g):=f9' _ rfl;simp only[List.set_cons_zero] at r9;have x9:Ext w7 w9:=f8.new f9 λy hy e=>by omega
   have y9:Ext W w9:=(((f4.trans f5).trans f6).trans f7).trans x9;have rb:=(r2.ext hW).ext y9;have z4:=f4.size;have z5:=f5.size;have z6:=f6.size;have z7:=f7.size;have zz9:=x9.size;have own1:∀y,jS A v.L y->W.heap.size<=y/\y<w6.heap.size/\(y<w4.heap.size\/w5.heap.size<=y):=by
    intro y hy;obtain⟨k,hk⟩:=hy;have h1:=ax.lt k y hk;rcases U y ⟨k,hk⟩ with ⟨j,hj⟩|h2
    ·have:=ak j y hj;have:=hE.lt j y hj;exact⟨by omega,h1,.inl (by omega)⟩
    ·exact⟨by omega,h1,.inr h2⟩
   have IZ:∀y,qA (⟨sx,⟨none,0,0⟩,xa⟩:V6) y->w4.heap.size<=y/\y<w7.heap.size/\(y<w5.heap.size\/w6.heap.size<=y):=by
    rintro y ⟨k,hk⟩;have h1:=ay.lt k y hk
    match k,hk with
    |0,hk=>
     have hk:y=sx:=hk;exact⟨by omega,h1,.inr (by omega)⟩
    |1,⟨o,hk⟩=>cases hk
    |2,hk=>
     obtain⟨j,hj⟩:=hk;have h2:=N y ⟨j,hj⟩;obtain⟨L,Q,hm,_⟩:=hX;have h3:=hm.lt j y hj;exact⟨h2,h1,.inl h3⟩
    |(_+3),hk=>exact hk.elim
   have hD:Duo c SS w9 A v ⟨sx,⟨none,0,0⟩,xa⟩ ⟨[],e.S,0,0,n⟩:=by
    refine⟨ax.ext (f7.trans x9),hG,ay.ext x9,⟨List.Pairwise.nil,?_,by rw[an],by rw[an,hl0.2],by rw[ab,hl0.2],by rw[u]⟩,aF,by rw[an];exact hl0.1,?_,by omega,by rw[u,hL];exact⟨hn2,by simp;omega⟩,by rw[ab,hl0.2];omega⟩
    ·intro q;rw[hL];simp
    ·intro y h1 h2;have q1:=own1 y h1;have q2:=IZ y h2;omega
   obtain⟨As,aG⟩:∃k,k=A.s:=⟨_,rfl⟩;have aQ:Lv c SS W w9 As ea.x sx xa.x b g A v ⟨sx,⟨none,0,0⟩,xa⟩ ⟨[],e.S,0,0,n⟩ [] 0:=
    ⟨hD,by omega,y9,λy hy=>(own1 y hy).1,λy hy=>by have:=(IZ y hy).1;omega,aG.symm,by rw[aN],rfl,rfl,rb,aw,r9,by omega,⟨λhh=>by have:=own1 g hh;omega,λhh=>by have:=IZ g hh;omega⟩,by simp,by simp⟩
   rw[<- aG];clear ax hG hL ab aO u an aP U ay own1 IZ hD hE hX ak N hI hS al;intro J106;have hJ:J106 false:=by
    simp -zeta only[J106,cond_false];intro J110;have hJ110:∀{X A v a x ds t},Lv c SS W X As ea.x sx xa.x b g A v a x ds t->J110 ds X:=λh=>Uo awake xW av aw h.hx h.rb (λd hd=>⟨(h.dm d hd).1,(h.dm d hd).2.2.2.2⟩) h.nd;clear_value J110;refine iE (λq X=>∃(j:Nat) (A:SA) (v:SV) (a:V6) (x:XV),j<=xs.length/\q.1.1=(j:Int)/\Lv c SS W X As ea.x sx xa.x b g A v a x q.2 ((j:Int) * 1048576)) (λq _=>(s.len - q.1.1).toNat) ⟨0,A,v,_,_,by omega,rfl,by simpa using aQ⟩ ?_;rintro⟨⟨i,⟨⟩⟩,ds⟩ X ⟨j,A,v,a,x,hj,hi,am⟩ next R
    dsimp only at hi am;dsimp -zeta only;subst hi;by_cases hl:(j:Int)<(s.len:Int);rotate_left
    ·rw[decide_eq_false hl,cond_false];exact hJ110 am
    rw[decide_eq_true hl,cond_true];have hg:=List.getElem?_eq_getElem (show j<xs.length by omega);have I:=List.getElem_mem (show j<xs.length by omega);generalize xs[j]=y at hg I;have aH:=xW.trans am.hx;refine SlN_ix abp (by omega) (hs.sl.ext aH) (by omega) (by rw[Int.toNat_natCast];exact hg) λad hc=> ?_;refine zq (k:= .int .i64) (y:=y.op) (hc 0 _ rfl) (zq (k:= .int .i64) (y:=y.sw) (hc 1 _ rfl) (zq (k:= .int .i64) (y:=y.ad) (hc 2 _ rfl) (zq (k:= .int .i64) (y:=y.nw) (hc 3 _ rfl) (zq (k:= .slice) (y:=y.s) (hc 4 _ rfl) ?_))));refine iI λt aR aS e10 z10 f10=> ?_;refine iJ aS rfl rfl λaz ac aA z11=> ?_;have f11:iG aR az (·=t):=aA _ rfl;have aI:Ext X az:=f10.new f11 λy hy e=>by omega
    have hL11:=am.ext aI;have aB:=am.own_ne (q:=t) (by omega);intro J130;have hJ130t:J130 true:=by
     simp only[J130,cond_true];exact hJ110 hL11
    have hJ130f:y.l.length<=100->J130 false:=by
     intro h100;simp -zeta only[J130,cond_false];intro J132;have hJ132:∀X' A' v' a' x' t',Lv c SS W X' As ea.x sx xa.x b g A' v' a' x' ds t'->t'<=((j+1:Nat):Int) * 1048576->J132 true X':=by
      intro X' A' v' a' x' t' hL' ht';simp -zeta only[J132];intro J135;have hJ135:∀Y,Ext X' Y->J135 false Y:=by
       intro Y hY;simp -zeta only[J135,cond_false];refine(hL'.ext hY).aiF (nx:=λds' Z'=>next ((IntKind.i64.wrap ((j:Int)+1),()),ds') Z') λX2 m h2=> ?_
       refine R _ _ ⟨j+1,A',v',a',x',by omega,?_,⟨h2.duo,Int.le_trans h2.tn ht',h2.hx,h2.lo1,h2.lo2,h2.eA,h2.ee,h2.es,h2.ex,h2.rb,h2.hb,h2.rp,h2.hp,h2.fp,h2.dm,h2.nd⟩⟩ ?_
       ·dsimp only;rw[wrap_i64 (by omega) (by omega)];simp
       ·dsimp only;rw[wrap_i64 (by omega) (by omega)];omega
      clear_value J135;rw[Bool.not_true,cond_false];exact(hL'.ext (Ext.drew _)).look λY hY=>hJ135 Y ((Ext.drew _).trans hY)
     clear_value J132;have ao:=hL11.ext (Ext.drew az);have rd:=ac.drew;have aJ:(j:Int) * 1048576<2^61:=by omega
     refine iC (k:= .int .i64) (i:=0) (x:=y.op) ac rfl ?_;intro J217;have h217t:J217 true:=by
      simp -zeta only[J217,cond_true];refine iC (k:= .int .i64) (i:=1) (x:=y.sw) ac rfl (iC (k:= .int .i64) (i:=2) (x:=y.ad) ac rfl (iC (k:= .slice) (i:=4) (x:=y.s) ac rfl ?_));exact hL11.serve aJ (hs.ad y I) (((hs.by_ y I).ext aH).ext aI) (by omega) (λz hz hz0=>((hs.by_ y I).ext xW).lt hz hz0) ac aB.1 λX' A' v' a' x' h'=>hJ132 X' A' v' a' x' _ h' (by omega)
     have h217f:J217 false:=by
      simp -zeta only[J217,cond_false];by_cases h5:(y.op==5)=true
      ·rw[h5,cond_true];refine iC (k:= .int .i64) (i:=3) (x:=y.nw) rd rfl (iC (k:= .ptr) (i:=0) (x:=some ⟨sx,0,none⟩) ao.rp rfl (iC (k:= .int .i64) (i:=3) (x:=y.nw) rd rfl ?_));exact ao.adv aJ y.nw (k3:=3) rd rfl aB.1 λX' A' v' a' x' h'=>hJ132 X' A' v' a' x' _ h' (by omega)
      rw[Bool.not_eq_true] at h5;rw[h5,cond_false];by_cases h6:(y.op==6)=true
      ·rw[h6,cond_true];refine iC (k:= .int .i64) (i:=3) (x:=y.nw) rd rfl (iC (k:= .int .i64) (i:=3) (x:=y.nw) rd rfl ?_);exact ao.eng y.nw (k3:=3) rd rfl aB.1 λX' A' v' a' x' h'=>hJ132 X' A' v' a' x' _ h' (by omega)
      rw[Bool.not_eq_true] at h6;rw[h6,cond_false];refine iC (k:= .int .i64) (i:=1) (x:=y.sw) rd rfl (iC (k:= .int .i64) (i:=1) (x:=y.sw) rd rfl ?_);exact ao.flush y.sw (k3:=1) rd rfl λX' h'=>hJ132 X' _ _ _ _ _ h' (by omega)
     clear_value J217;have h217:∀q,J217 q:=λq=>by cases q;exact h217f;exact h217t
     exact Px (h217 _) (Px (h217 _) (Px (h217 _) (Px (h217 _) (h217 _))))
    clear_value J130;refine iC (k:= .ptr) (i:=0) (x:=some ⟨sx,0,none⟩) hL11.rp rfl ?_;show cond false _ _;rw[cond_false];refine iC (k:= .slice) (i:=4) (x:=y.s) ac rfl ?_;have hyl:=(hs.by_ y I).1;by_cases h100:(y.s.len:Int)>100
    ·rw[decide_eq_true h100];exact hJ130t
    ·rw[decide_eq_false h100];exact hJ130f (by omega)
   clear_value J106;show cond false _ _;rw[cond_false];show cond false _ _;rw[cond_false];refine iC (k:= .ptr) (i:=0) (x:=some ⟨sx,0,none⟩) r9 rfl ?_;exact hJ
 clear_value J;refine rd _ _ r1 ?_;refine PS.CP (aq.ext x3) (ar.ext x3) (au.ext x3) (λW hW=> ?_) (λW hW h1 h2 h3 h4=> ?_)
 ·rw[Bool.not_false,cond_true];exact aC W hW
 ·rw[Bool.not_true,cond_false];by_cases aK:(s.len:Int)>40
  ·rw[decide_eq_true aK];exact aC W hW
  ·rw[decide_eq_false aK];exact aL W hW (by omega) h1 h2 h3 h4
end Go.Proofs.XS
end
section
namespace Go.Proofs.PS
open Gp Go.Proofs.CN
abbrev ajM:jZ:= .arr 16 (.int .u8) 1
abbrev aiU:jZ:= .agg (.cons (.agg (.cons (.int .i64) 1 (.cons (.int .i64) 1 (.cons (.int .i64) 1 (.cons (.int .i64) 1 .nil))))) 4 (.cons (.agg (.cons (.int .i64) 1 (.cons (.int .i64) 1 (.cons (.int .i64) 1 .nil)))) 3 .nil))
def ajN (l:List Int):sV:=(l.getD 0 0,l.getD 1 0,l.getD 2 0,l.getD 3 0,l.getD 4 0,l.getD 5 0,l.getD 6 0,l.getD 7 0,l.getD 8 0,l.getD 9 0,l.getD 10 0,l.getD 11 0,l.getD 12 0,l.getD 13 0,l.getD 14 0,l.getD 15 0,())
def ajO (x:aiU.T):T7:=(x.1.1,x.1.2.1,x.1.2.2.1,x.1.2.2.2.1,x.2.1.1,x.2.1.2.1,x.2.1.2.2.1,())
theorem aaG {l:List Int} (h:l.length=16):∃p0 p1 p2 p3 p4 p5 p6 p7 p8 p9 u I J N O R:Int,l=[p0,p1,p2,p3,p4,p5,p6,p7,p8,p9,u,I,J,N,O,R]:=by
 match l,h with
 |[p0,p1,p2,p3,p4,p5,p6,p7,p8,p9,u,I,J,N,O,R],_=>exact⟨p0,p1,p2,p3,p4,p5,p6,p7,p8,p9,u,I,J,N,O,R,rfl⟩
theorem aiT {w:World} {x:(jZ.slice ajM 16).T} (h:(jZ.slice ajM 16).In w x):mY 16 e16 w x.1 (x.2.map ajN):=
 Zh (by decide) h ajN e16 tY λy hy=>by
  obtain⟨p0,p1,p2,p3,p4,p5,p6,p7,p8,p9,p10,p11,p12,p13,p14,p15,rfl⟩:=aaG hy.1;rfl
theorem aiE {w:World} {x:(jZ.slice (.int .i64) 1).T} (h:(jZ.slice (.int .i64) 1).In w x):mY 1 eI w x.1 (x.2.map λy:Int=>y):=
 Zh (d:= .int .i64) (by decide) h (λy:Int=>y) eI kN λy hy=>rfl
theorem aiV {w:World} {x:(jZ.slice aiU 7).T} (h:(jZ.slice aiU 7).In w x):mY 7 e7 w x.1 (x.2.map ajO):=
 Zh (by decide) h ajO e7 yO λy hy=>rfl
abbrev doD:jZ:= .agg (.cons (.int .i64) 1 (.cons (.int .i64) 1 (.cons (.int .i64) 1 (.cons (.int .i64) 1 (.cons (.slice (.int .u8) 1) 1 .nil)))))
def doG (x:doD.T):Dc:=⟨x.1,x.2.1,x.2.2.1,x.2.2.2.1,x.2.2.2.2.1.1,x.2.2.2.2.1.2.map λn:Int=>UInt8.ofNat n.toNat⟩
theorem ajq {w:World} {x:(jZ.slice doD 5).T} (h:(jZ.slice doD 5).In w x):ahR w x.1 (x.2.map doG):=by
 refine⟨Zh (by decide) h doG eD abp λy hy=>rfl,λy hy=> ?_,λy hy=> ?_⟩
 ·obtain⟨z,hz,rfl⟩:=List.mem_map.1 hy;have u:=h.2 z hz;exact ahE u.2.2.2.2.1
 ·obtain⟨z,hz,rfl⟩:=List.mem_map.1 hy;have u:=h.2 z hz;exact wf_i64 u.2.2.1
end Go.Proofs.PS
end
