import Derived.Test.YtdmbjlliegbpcaaGreatDoorW12
import Derived.Test.YtdmbjlliegbpcaaGreatDoorW5
import Derived.Test.YtdmbjlliegbpcaaGreatDoorW11
import Derived.Test.YtdmbjlliegbpcaaGreatDoorW3
import Derived.Test.YtdmbjlliegbpcaaGreatDoorW2
open List (getElem?_map getElem?_set length_map length_take mem_cons not_mem_nil take_length take_of_length_le)
open Option (getD_some isSome_none isSome_some map_some)
set_option maxRecDepth 100000
set_option maxHeartbeats 4000000
section
namespace Go.Proofs.AN
open Gp Gp.V4 Go.Proofs Go.Proofs.VN
open Gp.Bind (In64)
section
variable {w0 w w':θ}
theorem abn (e:Int) (w:θ):Ej e w λr w'=>r≠0/\w'=w:=by
 apply Zt
 cases (e==8)<;>exact⟨by decide,rfl⟩
theorem VT (p:jG) {o d:fU} (hd:iq w d p.data) (h2:p.data.length<=2^40) {K:Int->Int->Int->fU->Bool->b_}
  (hK:∀k c r d' is w' (m:List UInt8),Ext w w'->iq w' d' m->m.length<=2^40->(is=true->p.proto=1)->K k c r d' is w'):
  yO p.tos p.id p.off p.ttl p.proto p.src p.dst p.df p.mf o d w K:=by
 apply UU;refine gq λa w1 r1 e1 z1 f1=> ?_;refine gq λb w2 r2 e2 z2 f2=> ?_;have u:=r1.ext f2;have x2:=f1.trans f2;have za:=f1.size;have zb:=f2.size;refine Ld_i 4 p.proto u ?_;by_cases p1:p.proto=1;rotate_left
 ·rw[show (p.proto !=1)=true by rw[bne_iff_ne];exact p1,cond_true];refine StN_f r2 λw3 r3 f3 z3=> ?_;refine V5 (x3:=⟨none,0,0⟩) (K:=λy0 y1 y2 y3 W=>K y0 y1 y2 y3 false W) r3 ?_;exact hK _ _ _ _ _ w3 [] (x2.nw f3) iq.nil (by simp) λhh=>by cases hh
 rw[show (p.proto !=1)=false by simpa using p1,cond_false];refine Ld_s 10 d u ?_;refine RX (hd.ext x2) h2 λu0 u1 u2 u3 e w3 m f3 hm O=> ?_;refine gq λg w4 r4 e4 z4 f4=> ?_;refine StN_f r4 λw5 r5 f5 z5=> ?_;have I:Ext w3 w5:=f4.nw f5;have g5:=f3.trans I;have hm5:=hm.ext I;intro J;have fin:∀(q:Bool) W,Ext w5 W->iw [Β u0,Β u1,Β u2,Δ u3] W ⟨b,0,none⟩ 0 λR=>J q R:=by
  intro q W hW;refine StN_f ((r2.ext g5).ext hW) λw6 r6 f6 z6=> ?_;simp only[J];refine V5 (K:=λy0 y1 y2 y3 W=>K y0 y1 y2 y3 q W) r6 ?_;have N:=hm5.ext hW;exact hK _ _ _ _ _ w6 m (((x2.trans g5).trans hW).nw f6) (N.fr f6 λad ha h0 e=>jg ((r2.ext g5).ext hW) (by simp) N ha h0 e) O λ_=>p1
 clear_value J;have r5d:=r5.drew;have c0:∀{W:θ},Ext w5 W->W.cell? (Addr.add ⟨g,0,none⟩ 0)=some (Β u0)/\W.cell? (Addr.add ⟨g,0,none⟩ 1)=some (Β u1)/\W.cell? (Addr.add ⟨g,0,none⟩ 2)=some (Β u2)/\W.cell? (Addr.add ⟨g,0,none⟩ 3)=some (Δ u3):=
  λhW=>⟨by rw[gy,(r5.ext hW).cell];rfl,by rw[gy,(r5.ext hW).cell];rfl,by rw[gy,(r5.ext hW).cell];rfl,by rw[gy,(r5.ext hW).cell];rfl⟩
 refine V5 (K:=λx29 x30 x31 x32 W=>_) r5d ?_
 cases (e==0)
 ·rw[cond_false];obtain⟨q0,q1,q2,q3⟩:=c0 (Ext.drew w5);exact⟨q0,q1,q2,q3,fin false _ (Ext.drew w5)⟩
 ·rw[cond_true];refine Ld_i 0 u0 r5d ?_;refine cmS0 (acf _ _) ?_;rintro fr w6 f6;obtain⟨q0,q1,q2,q3⟩:=c0 ((Ext.drew w5).trans f6);exact⟨q0,q1,q2,q3,fin fr _ ((Ext.drew w5).trans f6)⟩
end
end Go.Proofs.AN
namespace Go.Proofs.EN
open Gp Gp.V4 Go.Proofs Go.Proofs.AN Go.Proofs.VN
open Gp.Bind (Bnd Slots live GoodB freeN getS In64)
open Gp.Ses (Ses)
variable {w w':θ} {a:EA} {c:Cf} {e:ES}
structure Stp (c:Cf) (e e':ES) (sw:Int):Prop where
 now:e'.now=e.now
 tn:e'.tn<=e.tn+1
 S:∀(j:Nat) (b:Bnd),e.S[j]? =some (some b)->e'.S[j]? =some (some b)
 SS:∀(k:Nat) (s:Ses),e.SS[k]? =some (some s)->(∀(j:Nat) (b:Bnd),s.bd=(j:Int)->e.S[j]? =some (some b)->b.sw≠sw)->e'.SS[k]? =some (some s)
 un:∀(k:Nat) (s:Ses),e'.SS[k]? =some (some s)->e.SS[k]? =some (some s)\/∃(j:Nat) (b:Bnd) (nx:Int),s.bd=(j:Int)/\e'.S[j]? =some (some b)/\s.un=NK c e b.pr nx
 nw:∀(j:Nat) (b:Bnd),e'.S[j]? =some (some b)->e.S[j]? =some (some b)\/(b.st=false/\c.lo<=b.opo/\b.opo<=c.hi)
 cs:(e'.S=e.S/\e'.G=e.G)\/∃(i:Nat) (o:PN.O3) (b:Bnd),freeN e.S=some i/\e'.S=e.S.set i (some b)/\e'.G=zn e.G o ()
theorem Flow.S {e1:ES} {sw pr ad po ra rp bd sid:Int} {kn:Bool} (hf:Flow c e e1 sw pr ad po ra rp bd sid kn) {j:Nat} {b:Bnd} (h:e.S[j]? =some (some b)):e1.S[j]? =some (some b):=by
 rcases hf.was with ⟨rfl,_⟩|⟨_,_,i,o,Mi,Mo,_,u,_,rfl⟩
 ·exact h
 ·have h2:=(Gp.Bind.jr 0 u).2.1;show (e.S.set i _)[j]? =_;rw[getElem?_set,if_neg]
  ·exact h
  ·rintro rfl;rw[h2] at h;cases h
theorem Flow.eq {e1:ES} {sw pr ad po ra rp bd sid:Int} {kn:Bool} (hf:Flow c e e1 sw pr ad po ra rp bd sid kn):e1.SS=e.SS/\e1.now=e.now/\e1.tn=e.tn/\e1.M=e.M:=by
 rcases hf.was with ⟨rfl,_⟩|⟨_,_,i,o,Mi,Mo,_,hfi,_,rfl⟩<;>exact⟨rfl,rfl,rfl,rfl⟩
theorem ah4 {e1:ES} {sw pr ad po ra rp bd sid:Int} {kn:Bool} (hf:Flow c e e1 sw pr ad po ra rp bd sid kn) {k:Nat} {s:Ses} {M F l nx}
  (hs:(kn=true/\sid=(k:Int)/\∃s0,e1.SS[k]? =some (some s0)/\s={s0 with st:=nx,un:=NK c e1 pr nx})\/(kn=false/\Gp.Ses.freeN e1.SS=some k/\s=⟨bd,nx,NK c e1 pr nx,ra,rp⟩)):
  Stp c e {e1 with SS:=e1.SS.set k (some s),M:=M,l:=l,tn:=e1.tn+1,F:=F} sw:=by
 obtain⟨q1,q2,q3,_⟩:=hf.eq;refine⟨q2,by show e1.tn+1<=_;omega,λj b h=>hf.S h,λk' s' h hn=> ?_,λk' s' h=> ?_,λj b h=> ?_,?_⟩;rotate_left 3
 ·rcases hf.was with ⟨rfl,_⟩|⟨_,_,i,o,Mi,Mo,_,g,_,rfl⟩
  ·exact .inl ⟨rfl,rfl⟩
  ·exact .inr ⟨i,o,_,g,rfl,rfl⟩
 rotate_left
 ·have h:(e1.SS.set k (some s))[k']? =some (some s'):=h;rw[getElem?_set] at h;split at h
  ·split at h
   ·have:=Option.some.inj (Option.some.inj h);subst this;obtain⟨j,b,hj,hb,_,u,_⟩:=hf.bnd;refine .inr ⟨j,b,nx,?_,hb,?_⟩
    ·rcases hs with ⟨rfl,hk,s0,h0,rfl⟩|⟨_,_,rfl⟩
     ·rcases hf.ses with ⟨_,k2,s2,g1,g2,g3,_⟩|⟨g,_⟩
      ·have:k2=k:=by omega
       subst this;rw[h0] at g2;have:=Option.some.inj (Option.some.inj g2);subst this;exact g3.trans hj
      ·cases g
     ·exact hj
    ·have hu:NK c e1 pr nx=NK c e b.pr nx:=by rw[u];unfold NK;rw[q2]
     rcases hs with ⟨_,_,s0,_,rfl⟩|⟨_,_,rfl⟩<;>exact hu
   ·cases h
  ·rw[q1] at h;exact .inl h
 ·rcases hf.was with ⟨rfl,_⟩|⟨_,_,i,o,Mi,Mo,_,_,ht,rfl⟩
  ·exact .inl h
  ·have h:(e.S.set i _)[j]? =some (some b):=h;rw[getElem?_set] at h;split at h
   ·split at h
    ·have:=Option.some.inj (Option.some.inj h);subst this;exact .inr ⟨rfl,(PN.TW ht).2.2.1⟩
    ·cases h
   ·exact .inl h
 show (e1.SS.set k _)[k']? =_;rw[getElem?_set,q1,if_neg]
 ·exact h
 rintro rfl;rcases hs with ⟨rfl,hk,s0,h0,_⟩|⟨_,I,_⟩
 ·rcases hf.ses with ⟨_,k2,s2,g1,g2,g3,_⟩|⟨g,_⟩
  ·have:k2=k:=by omega
   subst this;rw[q1,h] at g2;have:s'=s2:=by simpa using g2
   subst this;rcases hf.was with ⟨rfl,_⟩|⟨_,g,_⟩
   ·obtain⟨j,b,hj,hb,J,_⟩:=hf.bnd;exact hn j b (by rw[g3,hj]) hb J
   ·cases g
  ·cases g
 ·have:=(Gp.Ses.jr 0 I).2.1;rw[q1,h] at this;cases this
def Law (c:Cf) (sw:Int) (p:jG):Prop:=RV c sw/\qw p/\p.data.length<=60000
def ai9 (w':θ) (c:Cf) (e e':ES) (sw:Int) (p:jG) (x0 x1 x2 x3 x4 x5 x6:Int) (x7 x8:Bool) (x9 x10:fU):Prop:=
 ∃(j:Nat) (b:Bnd) (k:Nat) (s:Ses),e'.S[j]? =some (some b)/\b.sw=sw/\b.pr=17/\b.ad=p.src/\b.po=(wordAt p.data 0:Int)/\e'.SS[k]? =some (some s)/\s.bd=(j:Int)/\s.ra=p.dst/\s.rp=(wordAt p.data 2:Int)/\s.un=NK c e 17 0/\
  PkR w' {p with src:=b.oad,data:=Ih b.oad p.dst b.opo (wordAt p.data 2:Int) false (p.data.drop 8)} x0 x1 x2 x3 x4 x5 x6 x7 x8 x9 x10/\e'.SS=e.SS.set k (some s)/\
  (e.Mi (Bind.keyS [sw,17,p.src,(wordAt p.data 0:Int)])=none->PN.yH 17 (wordAt p.data 0:Int) sw c.lo c.hi c.pl e.G=some (b.opr,b.oad,b.opo)/\b.st=false)
end Go.Proofs.EN
end
section
namespace Go.Proofs.EN
open Gp Gp.V4 Go.Proofs Go.Proofs.AN Go.Proofs.VN
open Gp.Bind (Bnd Slots live GoodB freeN getS In64)
open Gp.Ses (Ses)
variable {w w':θ} {a:EA} {c:Cf} {e:ES}
theorem ϭ (h:nH w a c e) (p:jG) {o d:fU} (ho:iq w o p.opts) (h1:p.opts.length<=2^40) (k1 k2 k3:Int) {s:fU} {m:List UInt8} (hs:iq w s m) (hm:m.length<=2^40)
  {K:Int->Int->Int->Int->Int->Int->Int->Int->Bool->Bool->fU->fU->Int->b_}
  (hK:∀i x0 x1 x2 x3 x4 x5 x6 x7 x8 x9 aa why w',Ext w w'->K i x0 x1 x2 x3 x4 x5 x6 x7 x8 x9 aa why w'):
  qg (some ⟨a.x,0,none⟩) p.tos p.id p.off p.ttl p.proto p.src p.dst p.df p.mf o d k1 k2 k3 s w K:=by
 apply EO;refine gq λg1 w1 r1 e1 z1 f1=> ?_;refine gq λg2 w2 r2 e2 z2 f2=> ?_;refine gq λg3 w3 r3 e3 z3 f3=> ?_;have x3:=(f1.trans f2).trans f3;have za:=f1.size;have zb:=f2.size;have zc:=f3.size;have O:=(r1.ext f2).ext f3;have R:=r2.ext f3;have fin:∀(W:θ) (why:Int),Ext w3 W->iw ξ W ⟨g3,0,none⟩ 0 λU=>ig U ⟨g3,0,none⟩ λy0 y1 y2 y3 y4 y5 y6 y7 y8 y9 Y=>K 0 y0 y1 y2 y3 y4 y5 y6 y7 y8 y9 Y why U:=by
  intro W why hW;refine StN_f (r3.ext hW) λw4 r4 f4 z4=> ?_;refine jF r4 ?_;exact hK _ _ _ _ _ _ _ _ _ _ _ _ why w4 ((x3.trans hW).nw f4)
 refine Ld_s 3 s R ?_;refine OX (hs.ext x3) hm λt i' o' l' p' s' dd df mf op da x y z ee w4 f4 is ix iy idd iz=> ?_;refine gq λb1 w5 r5 e5 z5 f5=> ?_;refine gq λb2 w6 r6 e6 z6 f6=> ?_;refine StN_f (r5.ext f6) λw7 r7 f7 z7=> ?_;have zd:=f5.size;have ze:=f6.size;have zf:=f4.size;refine StN_f (r6.fr f7 (by omega)) λw8 r8 f8 z8=> ?_;have x8:Ext w3 w8:=((f4.trans (f5.trans f6)).nw f7).nw f8
 cases (ee !=0)
 rotate_left
 ·exact fin w8 1 x8
 rw[cond_false];have xd:=x8.trans (Ext.drew w8);have hE8:=h.ext (x3.trans xd);refine iI.2 (iH (k:= .ptr) (y:=some ⟨a.B.d,0,none⟩) (by rw[gy];exact hE8.c2) ?_);refine Ld_i 0 x r8.drew (yw (k:= .int .i64) (i:=5) (x:=s') (r7.fr f8 (by omega)).drew rfl (Ld_i 1 y r8.drew ?_));refine cmS4 (LY hE8.db x s' y (by
  intro n hn;simp only[mem_cons,not_mem_nil,or_false] at hn;rcases hn with rfl|rfl|rfl
  ·exact ix
  ·exact is
  ·exact iy)) ?_
 rintro n9 t9 w9 ⟨rfl,rfl,f9⟩;have x9:=xd.trans f9;generalize e.Mo (Bind.keyS [x,s',y])=mo
 cases mo with
 |none=>
  rw[isSome_none,Bool.not_false,cond_true];exact fin w9 9 x9
 |some v=>
  rw[isSome_some,Bool.not_true,cond_false];have hE9:=h.ext (x3.trans x9);refine iI.2 (iH (k:= .ptr) (y:=some ⟨a.B.d,0,none⟩) (by rw[gy];exact hE9.c2) ?_);refine cmS19 (Mc hE9.db _) ?_;rintro a1 a2 a3 a4 a5 a6 a7 a8 r w10 ⟨_,_,f10⟩;refine gq λb3 w11 ac e11 z11 f11=> ?_;refine StN_f ac λJ I f12 z12=> ?_;have zg:=x9.size;have zh:=f10.size;have u:Ext w3 J:=((x9.trans f10).trans f11).nw f12;have r112:=O.ext u;have r212:=R.ext u;refine jF r112 ?_;refine V5 (K:=λx0 x1 x2 x3 W=>_) r212 ?_;have g5:J.cell? (Addr.add ⟨b3,0,none⟩ 2)=some (Β a3):=by rw[gy,I.cell];rfl
  have g6:J.cell? (Addr.add ⟨b3,0,none⟩ 3)=some (Β a4):=by rw[gy,I.cell];rfl
  refine iH (k:= .int .i64) (y:=a3) g5 (iH (k:= .int .i64) (y:=a4) g6 ?_);refine QB p (ho.ext (x3.trans u)) h1 _ _ _ (hs.ext (x3.trans u)) hm true a3 a4 λy0 y1 y2 y3 y4 y5 y6 y7 y8 y9 Y w13 f13=> ?_;refine StN_f (r112.ext f13) λaf ag f14 z14=> ?_;have hb3:b3<J.heap.size:=I.lt;have hg1:g1<w3.heap.size:=O.lt;have hb3':w3.heap.size<=b3:=by omega
  refine iH (k:= .int .i64) (y:=a3) (by rw[gy,((I.ext f13).fr f14 (by omega)).cell];rfl) ?_;refine g_ (i:=6) ag rfl (by simp) λah Z N z15=> ?_;have f15:gW af ah (·=g1):=N _ rfl;simp only[List.set_cons_succ,List.set_cons_zero] at Z;have r12f:=((I.ext f13).fr f14 (by omega)).fr f15 (by omega);refine Ld_i 0 a1 r12f.drew ?_;refine jF Z.drew ?_;have r315:=((((r3.ext u).ext f13).fr f14 (by omega)).fr f15 (by omega)).drew;refine StN_f r315 λai aj f16 z16=> ?_;refine jF aj ?_;exact hK _ _ _ _ _ _ _ _ _ _ _ _ 0 ai (((((x3.trans u).trans f13).nw f14).nw f15).trans (Ext.drew _)|>.nw f16)
end Go.Proofs.EN
end
section
namespace Go.Proofs
open Gp Gp.Bind
theorem ab5 (most:Nat) (S:Slots) (hs:S.length=most) (A:Qm) (f0:Nat):
  Qq υ [.one ν,.agg [ν,ν,ν,ν,ν,ν,ν,.bool]] (Value.func (.func Fb) #[] #[(Value.pointer (some ⟨f0,0,none⟩))])
   (λi W=>Row W f0 [.pointer (some ⟨A.d,0,none⟩)]/\∃S' Mi Mo,DB W A most S' Mi Mo/\∀j o,S[j]? =some o->i<=(live 0 (S.take j)).length->S'[j]? =some o) (yD (live 0 S)):=by
 refine⟨by kernel_rfl,λn Q D hC hQ hD hy w h0=> ?_⟩;refine Calls.mono (OC (a0:= .func (.yield n) #[] #[]) (f0:=⟨f0,0,none⟩) (K:=λw'=>Q (yD (live 0 S)).length w'\/D w') ?_) (λe w' h=>h);obtain⟨r0,_,_,_,h,_⟩:=hC _ _ h0;have hl:=h.len;have hm:=h.mx;simp only[sx,r0.cell];refine cmS0 (zA h) ?_;rintro _ w2 ⟨rfl,hw⟩;subst hw;simp only[sx,Bool.not_true,r0.cell,h.hd.cell];have J:(yD (live 0 S)).length=(live 0 S).length:=by simp[yD]
 rw[J];refine gX (λst W=>∃i:Nat,i<=most/\st.1=(i:Int)/\Q (live 0 (S.take i)).length W) (λst _=>most - st.1.toNat) ⟨0,by omega,rfl,by simpa [live] using h0⟩ ?_;rintro⟨x,⟨⟩⟩ W ⟨i,hi,rfl,hq⟩ next I
 obtain⟨r0,_,_,_,h,hk⟩:=hC _ _ hq;by_cases hlt:i<most
 ·have u:((i:Int)<(most:Int)):=by omega
  have hS:S[i]? =some S[i]:=List.getElem?_eq_getElem (by omega);generalize S[i]=o at hS;have c:∀j,j<9->_:=h.slot (hk _ _ hS (Nat.le_refl _));have c0:=c 0 (by omega);have c1:=c 1 (by omega);have c2:=c 2 (by omega);have c3:=c 3 (by omega);have c4:=c 4 (by omega);have c5:=c 5 (by omega);have c6:=c 6 (by omega);have c7:=c 7 (by omega);have c8:=c 8 (by omega);simp only[Nat.add_zero] at c0
  cases o with
  |none=>
   simp only[u,decide_true,cond_true,d_,f_,gJ,iY,Int.toNat_natCast,c0,c1,c2,c3,c4,c5,c6,c7,c8,iR];refine⟨by omega,by trivial,DX rfl rfl λp w3 r3 e3 z3 f3=> ?_⟩;simp only[sx,r3.cell];rw[Α];refine I _ _ ⟨i+1,by omega,by simp,?_⟩ (by simp only;omega);rw[Ov hS];exact hQ _ _ _ hq f3
  |some b=>
   simp only[u,decide_true,cond_true,d_,f_,gJ,iY,Int.toNat_natCast,c0,c1,c2,c3,c4,c5,c6,c7,c8,iR];refine⟨by omega,by trivial,DX rfl rfl λp w3 r3 e3 z3 f3=> ?_⟩;simp only[sx,r3.cell];obtain⟨g1,g2⟩:=Xq hS;refine kR (hy (live 0 (S.take i)).length ((i:Int),(b.sw,b.pr,b.ad,b.po,b.opr,b.oad,b.opo,b.st,()),()) w3 _ ?_ (hQ _ _ _ hq f3) ?_ ?_)
   ·simp only[yD,getElem?_map,g1,map_some]
   ·intro W' hq';refine⟨true,rfl,?_⟩;simp only[Bool.not_true,cond_false];rw[Α];exact I _ _ ⟨i+1,by omega,by simp,by rw[g2];exact hq'⟩ (by simp only;omega)
   ·intro W' hd;refine⟨false,rfl,?_⟩;simp only[Bool.not_false,cond_true];exact .inr hd
 ·have u:¬((i:Int)<(most:Int)):=by omega
  simp only[u,decide_false,cond_false];rw[take_of_length_le (by omega)] at hq;exact .inl hq
end Go.Proofs
namespace Go.Proofs.EN
open Gp Go.Proofs
open Gp.Bind (Bnd Slots live GoodB freeN getS In64)
open Gp.Ses (Ses)
variable {w w':θ} {a:EA} {c:Cf} {e:ES}
theorem afL (d:Nat) (w:θ) {K:Value->b_} (h:∀f w',Row w' f [.pointer (some ⟨d,0,none⟩)]->f=w.heap.size->w'.heap.size=f+1->Ext w w'->K (Value.func (.func Fb) #[] #[(Value.pointer (some ⟨f,0,none⟩))]) w'):BN (some ⟨d,0,none⟩) w K:=by
 apply SH;exact⟨rfl,gq λf w1 r1 e1 z1 f1=>h f w1 r1 e1 z1 f1⟩
theorem take_succ {α:Type} {l:List α} {i:Nat} {x:α} (h:l[i]? =some x):l.take (i+1)=l.take i++[x]:=by
 obtain⟨hi,hx⟩:=List.getElem?_eq_some_iff.1 h;rw[List.take_succ_eq_append_getElem hi,hx]
end Go.Proofs.EN
end
section
namespace Go.Proofs.EN
open Gp Go.Proofs
open Gp.Bind (Bnd Slots live GoodB freeN getS In64)
variable {w w':θ} {a:EA} {c:Cf} {e:ES}
def eB (b:Bnd):List Value:=[Β b.sw,Β b.pr,Β b.ad,Β b.po,Β b.opr,Β b.oad,Β b.opo,.bool b.st]
theorem Oh (b:Bnd):(eB b).length=8:=rfl
theorem ahA (b:Bnd):∀v∈eB b,iL v=true:=by
 intro v hv;simp only[eB,mem_cons,not_mem_nil,or_false] at hv;rcases hv with rfl|rfl|rfl|rfl|rfl|rfl|rfl|rfl<;>rfl
def eS (b:Gp.Ses.Ses):List Value:=[Β b.bd,Β b.st,Β b.un,Β b.ra,Β b.rp]
theorem ϫ (b:Gp.Ses.Ses):(eS b).length=5:=rfl
theorem ahB (b:Gp.Ses.Ses):∀v∈eS b,iL v=true:=by
 intro v hv;simp only[eS,mem_cons,not_mem_nil,or_false] at hv;rcases hv with rfl|rfl|rfl|rfl|rfl<;>rfl
def P5 (x:Int):Value:= Β x
theorem eqN (a b:Int):Fa υ 16 3 (P5 a) (P5 b)=some (decide (a=b)):=WN.eqW a b
theorem aiL (a:Int):ny υ 3 (P5 a)=true:=WN.aae a
def plk (l:List (Int×Bnd)) (k:Int):Option Int:=(l.zipIdx.reverse.find? λx=>x.1.1==k).map λx=>(x.2:Int)
theorem ae2 (l:List (Int×Bnd)) (x:Int×Bnd) (k:Int):plk (l++[x]) k=if k=x.1 then some (l.length:Int) else plk l k:=by
 unfold plk;rw[List.zipIdx_append,List.reverse_append];simp only[List.zipIdx_cons,List.zipIdx_nil,List.reverse_cons,List.reverse_nil,List.nil_append,List.singleton_append,List.find?_cons];by_cases h:k=x.1
 ·subst h;simp
 ·have:(x.1==k)=false:=by simpa using λe=>h e.symm
  simp[this,h]
def Ud (e:ES):List Gp.Ses.Ses:=(Gp.Ses.live 0 e.SS).map λx=>{x.2 with bd:=(plk (live 0 e.S) x.2.bd).getD 0}
theorem agM (d:Nat) (w:θ) {K:Value->b_} (h:∀f w',Row w' f [.pointer (some ⟨d,0,none⟩)]->f=w.heap.size->w'.heap.size=f+1->Ext w w'->K (Value.func (.func wK) #[] #[(Value.pointer (some ⟨f,0,none⟩))]) w'):sO (some ⟨d,0,none⟩) w K:=by
 apply Hw;exact⟨rfl,gq λf w1 r1 e1 z1 f1=>h f w1 r1 e1 z1 f1⟩
theorem ώ (h:nH w a c e):mY (some ⟨a.d,0,none⟩) w λn w'=>n=(e.l.length:Int)/\w'=w:=WN.ag1 h.wh.wm
def vwC (now:Nat) (bs ss:fU) (t:Nat):List Value:=[Β (now:Int),Δ bs,Δ ss,Β 0,Β 0,Β (t:Int),.slice none 0 0]
def Zh:fU:=⟨none,0,0⟩
theorem Ym (h:nH w a c e) (hsz:e.S.length<=4096/\e.SS.length<=4096) {K:Int->fU->fU->Int->Int->Int->fU->b_}
  (hK:∀bs ss w',Ext w w'->iV 8 eB w' bs ((live 0 e.S).map (·.2))->iV 5 eS w' ss (Ud e)->(∀b,fU.at bs b->w.heap.size<=b)->(∀b,fU.at ss b->w.heap.size<=b)->K (e.now:Int) bs ss 0 0 (e.l.length:Int) Zh w'):
  uD (some ⟨a.x,0,none⟩) w K:=by
 apply Jo;refine gq λr w1 r1 e1 z1 f1=> ?_;have h1:=h.ext f1;refine cmS0 (Dv h1) ?_;rintro _ w1 ⟨rfl,hw⟩;subst hw;rw[Bool.not_true,cond_false];intro J;have hJ:∀vb W,Ext w1 W->Row W vb (vwC e.now Zh Zh e.l.length)->w1.heap.size<=vb->J ⟨vb,0,none⟩ W:=by
  intro vb W hW hv hvb;simp only[J];refine SN.Ij (enc:=P5) (ev:=P5) λw2 m2 z2 f2=> ?_;refine gq λq w3 r3 e3 z3 f3=> ?_;refine g_ r3 rfl (by simp) λw4 r4 f4' z4=> ?_;have f4:gW w3 w4 (·=q):=f4' _ rfl;simp only[List.set_cons_zero] at r4;have hvl:=hv.lt;have x4:Ext W w4:=(f2.trans f3).nw f4;have m4:=(m2.ext f3).fr f4 (by omega);have h4:=h1.ext (hW.trans x4);have v4:=hv.ext x4;refine iI.2 (yw (k:= .ptr) (i:=2) (x:=some ⟨a.B.d,0,none⟩) h4.hd rfl ?_);refine afL a.B.d w4 λf w5 r5 e5 z5 f5=> ?_;have h5:=h4.ext f5;have m5:=m4.ext f5;have v5:=v4.ext f5;have q5:=r4.ext f5;have zW:w1.heap.size<=W.heap.size:=hW.size;have z14:W.heap.size+2<=w4.heap.size/\q<w4.heap.size/\W.heap.size<q:=by omega
  have I:∀k b,own a k b->b<w1.heap.size:=λk b hb=>Nat.lt_of_lt_of_le (h.lt k b hb) f1.size;have hla:lC none w5=w5.heap.size+1:=rfl;have hmp:W.heap.size≠q/\W.heap.size≠vb/\q≠vb:=by omega
  refine wz (Go.Proofs.ab5 c.nb.toNat e.S h.db.len a.B f) (λi X=>∃bs M,Row X vb (vwC e.now bs Zh e.l.length)/\iV 8 eB X bs (((live 0 e.S).map (·.2)).take i)/\pY P5 P5 X W.heap.size M/\(∀k,vw M k=plk ((live 0 e.S).take i) k)/\
    gW w5 X (λb=>b=vb\/b=W.heap.size)/\(∀b,fU.at bs b->lC none w5<b)/\w5.heap.size+2<=X.heap.size)
   (λ_ _=>False) (by simp) ?_ ?_ ?_ (by intro e W W' h;exact h.elim) (by intro e W h;exact h.elim) ?_ ?_ (by intro W h;exact h.elim) (by intro id W h;exact h.elim)
  ·intro X hX hz;refine⟨Zh,[],v5.ext hX,by simpa [Zh] using iV.nil,m5.ext hX,λk=>rfl,hX _,(λb ⟨o,hb⟩=>by cases hb),by omega⟩
  ·rintro i X ⟨bs,M,h1,h2,h3,h4',h5',h6,h7⟩;have hn:∀b,b<w1.heap.size->¬(b=vb\/b=W.heap.size):=λb hb e=>by omega
   exact⟨r5.fr h5' (by omega),e.S,e.Mi,e.Mo,(h5.db).fr h5' λb hb=>hn b (I 3 b hb),λj o h _=>h⟩
  ·rintro i X X' ⟨bs,M,h1,h2,h3,h4',h5',h6,h7⟩ hf;exact⟨bs,M,h1.fr hf (by omega),h2.fr hf λb hb e=>by have:=h6 b hb;omega,h3.fr hf (by omega),h4',h5'.trans hf λb hb e=>by omega,h6,by have:=hf.size;omega⟩
  ·rintro i x X Kb hx ⟨bs,M,h1,h2,h3,h4',h5',h6,h7⟩ Z hk _;rw[show yD (live 0 e.S)=(live 0 e.S).map _ from rfl,getElem?_map] at hx
   cases hb:(live 0 e.S)[i]? with
   |none=>rw[hb] at hx;simp at hx
   |some p=>
   rw[hb] at hx;simp only[map_some,Option.some.injEq] at hx;subst hx;have ao:i<(live 0 e.S).length:=(List.getElem?_eq_some_iff.1 hb).1;have aq:=Gp.Bind.jU e.S 0;have am:bs.len=i:=by rw[(h2.sl Oh (by omega)).len,length_take,length_map];omega
   refine gq λu w6 r6 e6 z6 f6=> ?_;refine gY r6 rfl rfl λw7 r7 f7' z7=> ?_;have x7:Ext X w7:=f6.new (f7' (·=u) rfl) λy hy e=>by omega
   refine⟨(x7 λ_=>False).same _ Z (by simp),?_⟩;have fb:=gW.gG w7 (lC none w5);have zb:(gG w7 (lC none w5)).heap.size=w7.heap.size:=by simp[gG]
   have hX7:=x7.size;have v8:=(h1.ext x7).fr fb (by omega);have b8:=(h2.ext x7).fr fb λb hb e=>by have:=h6 b hb;omega
   have m8:=(h3.ext x7).fr fb (by omega);have q8:=((q5.fr h5' (by omega)).ext x7).fr fb (by omega);have u8:=r7.fr fb (by omega);refine yw (k:= .map) (i:=0) (x:=some W.heap.size) q8 rfl (Ld_s 1 bs v8 ?_);refine xP (enc:=P5) (ev:=P5) m8 eqN p.1 (bs.len:Int) (aiL _) λw9 m9 f9 z9=> ?_;have v9:=v8.fr f9 (by omega);have b9:=b8.fr f9 λb hb e=>by have:=h6 b hb;omega
   have u9:=u8.fr f9 (by omega);refine Ld_s 1 bs v9 ?_;simp only[sx,u9.cell];refine gq λy R U e10 ar f10=> ?_;have sl:mQ 8 eB R ⟨some ⟨y,0,none⟩,1,1⟩ [p.2]:=(iV.row (xs:=[p.2]) (by simpa [eB] using U)).sl Oh (by omega);refine mD Oh (b9.ext f10) sl rfl (by omega) ahA (by simp;omega) (by simp;omega) λs' aa au f11 p11=> ?_;have ac:¬fU.at bs vb:=λhb=>by have:=h6 vb hb;omega
   have av:¬fU.at bs W.heap.size:=λhb=>by have:=h6 _ hb;omega
   have aw:=(v9.ext f10).fr f11 ac;have ax:=(m9.ext f10).fr f11 av;refine g_ aw rfl (by simp[vwC]) λO ay af z12=> ?_;have f12:gW aa O (·=vb):=af _ rfl;have hs':∀b,fU.at s' b->lC none w5<b:=λb hb=>by
    rcases p11 b hb with h|h
    ·exact h6 b h
    ·omega
   have fr:gW (gG X (lC none w5)) O (λb=>b=vb\/b=W.heap.size\/fU.at bs b):=by
    have g1:gW (gG X (lC none w5)) w9 (λb=>b=vb\/b=W.heap.size\/fU.at bs b):=(CN.Ip (x7 _) _).trans f9 λb _ hb=> .inr (.inl hb);exact((g1.ext f10).trans f11 λb _ hb=> .inr (.inr hb)).trans f12 λb _ hb=> .inl hb
   refine hk O _ fr ?_ ⟨s',_,?_,?_,ax.fr f12 (by omega),?_,?_,hs',?_⟩
   ·rintro b hb1 hb2 (h|h|h)
    ·omega
    ·omega
    ·have:=h6 b h;omega
   ·exact ay
   ·have ag:((live 0 e.S).map (·.2)).take (i+1)=((live 0 e.S).map (·.2)).take i++[p.2]:=take_succ (by rw[getElem?_map,hb];rfl);rw[ag];exact au.fr f12 λb hb e=>by have:=hs' b hb;omega
   ·intro k;rw[Ar,take_succ hb,ae2,h4',length_take,am,Nat.min_eq_left (by omega)]
   ·refine(h5'.trans (gW.gG X _) λb hb e=>by omega).trans fr ?_;rintro b hb (h|h|h)
    ·exact .inl h
    ·exact .inr h
    ·have:=h6 b h;omega
   ·have:=fr.size;have az:(gG X (lC none w5)).heap.size=X.heap.size:=by simp[gG]
    omega
  ·rintro X ⟨bs,M,b1,b2,b3,b4,b5,b6,b7⟩ hm;have ah:(yD (live 0 e.S)).length=(live 0 e.S).length:=by simp[yD]
   rw[ah] at b2 b4;rw[take_of_length_le (by simp)] at b2;rw[take_length] at b4;have hn:∀b,b<w1.heap.size->¬(b=vb\/b=W.heap.size):=λb hb e=>by omega
   have hX:=h5.fr b5 λk b hb=>hn b (I k b hb);refine iI.2 (yw (k:= .ptr) (i:=3) (x:=some ⟨a.T.d,0,none⟩) hX.hd rfl ?_);refine agM a.T.d X λf' w6 r6 e6 z6 f6=> ?_;have hla':lC none w6=w6.heap.size+1:=rfl;have h6:=hX.ext f6;have m6:=b3.ext f6;have v6:=b1.ext f6;have q6:=(q5.fr b5 (by omega)).ext f6;have hm6:w6.heap[w5.heap.size]? =some (.deferred (some [])):=by
    rw[(f6 λ_=>False).same _ (by omega) (by simp)];exact hm rfl
   have hviewl:(Ud e).length=(Gp.Ses.live 0 e.SS).length:=by simp[Ud]
   have hlen6:X.heap.size<=w6.heap.size:=f6.size;refine wz (SN.adC c.ns.toNat e.SS e.M a.T f') (λi Y=>∃ss,Row Y vb (vwC e.now bs ss e.l.length)/\iV 5 eS Y ss ((Ud e).take i)/\gW w6 Y (λb=>b=vb)/\(∀b,fU.at ss b->lC none w6<b)/\w6.heap.size+2<=Y.heap.size)
    (λ_ _=>False) (by simp) ?_ ?_ ?_ (by intro e W W' h;exact h.elim) (by intro e W h;exact h.elim) ?_ ?_ (by intro W h;exact h.elim) (by intro id W h;exact h.elim)
   ·intro Y hY hz;exact⟨Zh,v6.ext hY,by simpa [Zh] using iV.nil,hY _,(λb ⟨o,hb⟩=>by cases hb),by omega⟩
   ·rintro i Y ⟨ss,g1,g2,g3,g4,g5⟩;exact⟨r6.fr g3 (by omega),(h6.se).fr g3 λb hb e=>by have:=I 4 b hb;omega⟩
   ·rintro i Y Y' ⟨ss,g1,g2,g3,g4,g5⟩ hf;exact⟨ss,g1.fr hf (by omega),g2.fr hf λb hb e=>by have:=g4 b hb;omega,g3.trans hf λb hb e=>by omega,g4,by have:=hf.size;omega⟩
   ·rintro i x Y Kb hx ⟨ss,g1,g2,g3,g4,g5⟩ Z hk _;rw[show SN.yS (Gp.Ses.live 0 e.SS)=(Gp.Ses.live 0 e.SS).map _ from rfl,getElem?_map] at hx
    cases hb:(Gp.Ses.live 0 e.SS)[i]? with
    |none=>rw[hb] at hx;simp at hx
    |some p=>
    rw[hb] at hx;simp only[map_some,Option.some.injEq] at hx;subst hx;have ao:i<(Gp.Ses.live 0 e.SS).length:=(List.getElem?_eq_some_iff.1 hb).1;have aq:=Gp.Ses.jU e.SS 0;have am:ss.len=i:=by rw[(g2.sl ϫ (by omega)).len,length_take];omega
    refine gq λu w7 r7 e7 z7 f7=> ?_;refine gY r7 rfl rfl λw8 r8 f8' z8=> ?_;have x8:Ext Y w8:=f7.new (f8' (·=u) rfl) λy hy e=>by omega
    refine⟨(x8 λ_=>False).same _ Z (by simp),?_⟩;have fb:=gW.gG w8 (lC none w6);have zb:(gG w8 (lC none w6)).heap.size=w8.heap.size:=by simp[gG]
    have hY8:=x8.size;have v9:=(g1.ext x8).fr fb (by omega);have b9:=(g2.ext x8).fr fb λb hb e=>by have:=g4 b hb;omega
    have m9:=((m6.fr g3 (by omega)).ext x8).fr fb (by omega);have q9:=((q6.fr g3 (by omega)).ext x8).fr fb (by omega);have u9:=r8.fr fb (by omega);refine yw (k:= .map) (i:=0) (x:=some W.heap.size) q9 rfl (Ld_i 0 p.2.bd u9 ?_);have N:∀Q:Int->Prop,Q ((plk (live 0 e.S) p.2.bd).getD 0)->qG υ 3 ν (some W.heap.size) (Β p.2.bd) (Β 0) (gG w8 (lC none w6)) Q:=by
     intro Q hQ;refine FW (k:= .int .i64) (enc:=P5) (ev:=P5) m9 eqN p.2.bd (aiL _) (λhn=> ?_) (λb hb=> ?_)
     ·rw[b4] at hn;rw[hn] at hQ;simp only[gJ];exact hQ
     ·rw[b4] at hb;rw[hb] at hQ;simp only[P5,gJ];exact hQ
    refine N _ ?_;refine g_ u9 rfl (by simp) λR U ai ar=> ?_;have f10:gW (gG w8 (lC none w6)) R (·=u):=ai _ rfl;simp only[List.set_cons_zero] at U;have an:=v9.fr f10 (by omega);have aA:=b9.fr f10 λb hb e=>by have:=g2.lt hb;omega
    refine Ld_s 2 ss an ?_;simp only[sx,U.cell];refine gq λy aa aB e11 z11 f11=> ?_;have sl:mQ 5 eS aa ⟨some ⟨y,0,none⟩,1,1⟩ [({p.2 with bd:=(plk (live 0 e.S) p.2.bd).getD 0}:Gp.Ses.Ses)]:=(iV.row (xs:=[({p.2 with bd:=(plk (live 0 e.S) p.2.bd).getD 0}:Gp.Ses.Ses)]) (by simpa [eS] using aB)).sl ϫ (by omega);refine mD ϫ (aA.ext f11) sl rfl (by omega) ahB (by simp;omega) (by simp;omega) λs' O aC f12 p12=> ?_;have ac:¬fU.at ss vb:=λhb=>by have:=g4 vb hb;omega
    have aD:=(an.ext f11).fr f12 ac;refine g_ aD rfl (by simp[vwC]) λaj aE ak z13=> ?_;have f13:gW O aj (·=vb):=ak _ rfl;have hs':∀b,fU.at s' b->lC none w6<b:=λb hb=>by
     rcases p12 b hb with h|h
     ·exact g4 b h
     ·omega
    have fr:gW (gG Y (lC none w6)) aj (λb=>b=vb\/fU.at ss b):=by
     have g1:gW (gG Y (lC none w6)) R (λb=>b=vb\/fU.at ss b):=(CN.Ip (x8 _) _).trans f10 λb hb e=>by(have:(gG Y (lC none w6)).heap.size=Y.heap.size:=by simp[gG]);omega
     exact((g1.ext f11).trans f12 λb _ hb=> .inr hb).trans f13 λb _ hb=> .inl hb
    refine hk aj _ fr ?_ ⟨s',aE,?_,?_,hs',?_⟩
    ·rintro b hb1 hb2 (h|h)
     ·omega
     ·have:=g4 b h;omega
    ·have ag:(Ud e).take (i+1)=(Ud e).take i++[({p.2 with bd:=(plk (live 0 e.S) p.2.bd).getD 0}:Gp.Ses.Ses)]:=take_succ (by unfold Ud;rw[getElem?_map,hb];rfl);rw[ag];exact aC.fr f13 λb hb e=>by have:=hs' b hb;omega
    ·refine(g3.trans (gW.gG Y _) λb hb e=>by omega).trans fr ?_;rintro b hb (h|h)
     ·exact h
     ·have:=g4 b h;omega
    ·have:=fr.size;have az:(gG Y (lC none w6)).heap.size=Y.heap.size:=by simp[gG]
     omega
   ·rintro Y ⟨ss,g1,g2,g3,g4,g5⟩ hm';have ah:(SN.yS (Gp.Ses.live 0 e.SS)).length=(Gp.Ses.live 0 e.SS).length:=by simp[SN.yS]
    rw[ah,take_of_length_le (by omega)] at g2;simp only[sx,g1.cell,vwC];have zz:=x4.size;have rr:Row Y r _:=((((r1.ext hW).ext (x4.trans f5)).fr b5 (by omega)).ext f6).fr g3 (by omega);refine StN_f rr λw7 r7 f7 z7=> ?_;have hm7:w7.heap[w6.heap.size]? =some (.deferred (some [])):=by
     rw[f7.same _ (by omega) (by omega)];exact hm' rfl
    have fp1:=gW.qV w7 w6.heap.size (.deferred none);have fp2:=gW.qV (w7.putObj w6.heap.size (.deferred none)) w5.heap.size (.deferred none);refine⟨hm7,?_,?_⟩
    ·have e1:(w7.putObj w6.heap.size (.deferred none)).heap[w5.heap.size]? =w7.heap[w5.heap.size]? :=fp1.same _ (by omega) (by omega);exact e1.trans ((f7.same _ (by omega) (by omega)).trans ((g3.same _ (by omega) (by omega)).trans hm6))
    have r9:=(r7.fr fp1 (by omega)).fr fp2 (by omega);simp only[sx,r9.cell];refine hK bs ss _ ?_ ?_ ?_ ?_ ?_
    ·have q1:Ext w w5:=(f1.trans hW).trans (x4.trans f5);have q2:Ext w X:=q1.new b5 λb hb e=>by have:=f1.size;omega
     have q3:Ext w Y:=(q2.trans f6).new g3 λb hb e=>by have:=f1.size;omega
     have q4:Ext w w7:=q3.nw f7;exact(q4.new fp1 λb hb e=>by have:=q2.size;omega).new fp2 λb hb e=>by have:=q1.size;omega
    ·have t1:=(b2.ext f6).fr g3 λb hb e=>by have:=b6 b hb;omega
     exact((t1.fr f7 λb hb e=>by have:=b6 b hb;omega).fr fp1 λb hb e=>by have:=b2.lt hb;omega).fr fp2 λb hb e=>by have:=b6 b hb;omega
    ·exact((g2.fr f7 λb hb e=>by have:=g4 b hb;omega).fr fp1 λb hb e=>by have:=g4 b hb;omega).fr fp2 λb hb e=>by have:=g4 b hb;omega
    ·intro b hb;have:=b6 b hb;have:=f1.size;omega
    ·intro b hb;have:=g4 b hb;have:=f1.size;omega
 clear_value J;have hd:=h1.ext (Ext.drew w1);have c41:=hd.c41;have c4:=hd.c4;simp only[sx,Ci,Cs,c41,c4];refine⟨?_,?_⟩
 ·refine cmS1 (ώ hd) ?_;rintro n w2 ⟨rfl,hw2⟩;subst hw2;refine⟨c41,gq λvb w3 r3 e3 z3 f3=> ?_⟩;refine⟨mJ c4 f3,mJ c41 f3,?_⟩;refine gY r3 rfl rfl λw4 r4 f4' z4=> ?_;have aF:w1.drew.heap.size=w1.heap.size:=rfl;exact hJ vb w4 (((Ext.drew w1).trans f3).new (f4' (·=vb) rfl) λy hy e=>by omega) r4 (by omega)
 ·refine gq λvb w3 r3 e3 z3 f3=> ?_;refine⟨mJ c4 f3,mJ c41 f3,?_⟩;refine cmS1 (ώ (hd.ext f3)) ?_;rintro n w2 ⟨rfl,hw2⟩;subst hw2;refine⟨mJ c41 f3,?_⟩;refine gY r3 rfl rfl λw4 r4 f4' z4=> ?_;have aF:w1.drew.heap.size=w1.heap.size:=rfl;exact hJ vb w4 (((Ext.drew w1).trans f3).new (f4' (·=vb) rfl) λy hy e=>by omega) r4 (by omega)
end Go.Proofs.EN
end
section
namespace Go.Proofs.EN
open Gp Gp.V4 Go.Proofs Go.Proofs.AN Go.Proofs.VN
open Gp.Bind (Bnd Slots live GoodB freeN getS In64)
open Gp.Ses (Ses)
variable {w w':θ} {a:EA} {c:Cf} {e:ES}
theorem out_ok (h:nH w a c e) (hg:Gd c e) (hm:Yq c) (ht:e.tn<2^61) (hH:Hdl w) (_:¬jK a 0) (sw:Int) (p:jG) {o d:fU} (ho:iq w o p.opts) (hd:iq w d p.data) (h1:p.opts.length<=2^40) (h2:p.data.length<=2^40)
  (bj:∀ad,o.a=some ad->0<p.opts.length->¬jK a ad.block) (bk:∀ad,d.a=some ad->0<p.data.length->¬jK a ad.block)
  {K:Int->Int->Int->Int->Int->Int->Int->Bool->Bool->fU->fU->Int->b_}
  (hD:∀x0 x1 x2 x3 x4 x5 x6 x7 x8 x9 I why w',Ext w w'->(Law c sw p->Full c e sw 17 (wordAt p.data 0:Int) why/\LG e sw 17 p.src (wordAt p.data 0:Int) p.dst (wordAt p.data 2:Int))->K x0 x1 x2 x3 x4 x5 x6 x7 x8 x9 I why w')
  (hK:∀x0 x1 x2 x3 x4 x5 x6 x7 x8 x9 I w' a' e',gW w w' (jK a)->nH w' a' c e'->Gd c e'->Grow a a' w.heap.size->a'.x=a.x->Stp c e e' sw->(Law c sw p->ai9 w' c e e' sw p x0 x1 x2 x3 x4 x5 x6 x7 x8 x9 I/\∀b,fU.at I b->¬jK a' b)->K x0 x1 x2 x3 x4 x5 x6 x7 x8 x9 I 0 w'):
  kH (some ⟨a.x,0,none⟩) sw p.tos p.id p.off p.ttl p.proto p.src p.dst p.df p.mf o d w K:=by
 apply K_;refine gq λg0 w1 r1 e1 z1 f1=> ?_;refine gq λg1 w2 r2 e2 z2 f2=> ?_;have x2:=f1.trans f2;have r1:=r1.ext f2;have za:=f1.size;have zb:=f2.size;have h02:0<w.heap.size:=by
  have:=h.lt 0 a.x (by simp[own]);omega
 have fin:∀(W:θ) (why:Int),Ext w2 W->(Law c sw p->Full c e sw 17 (wordAt p.data 0:Int) why/\LG e sw 17 p.src (wordAt p.data 0:Int) p.dst (wordAt p.data 2:Int))->iw ξ W ⟨g1,0,none⟩ 0 λY=>ig Y ⟨g1,0,none⟩ λy0 y1 y2 y3 y4 y5 y6 y7 y8 y9 aL=>K y0 y1 y2 y3 y4 y5 y6 y7 y8 y9 aL why Y:=by
  intro W why hW hL;refine StN_f (r2.ext hW) λw4 r4 f4 z4=> ?_;refine jF r4 ?_;exact hD _ _ _ _ _ _ _ _ _ _ _ why w4 ((x2.trans hW).nw f4) hL
 intro J8;have hJ8t:∀W,Ext w2 W->¬Law c sw p->J8 true W:=by
  intro W hW hn;simp -zeta only[J8];exact fin W 1 hW λhh=>absurd hh hn
 have hJ8f:∀W,Ext w2 W->RV c sw->p.check=0->J8 false W:=by
  intro W hW ag hc0;simp -zeta only[J8];rw[cond_false];have r1W:=r1.ext hW;have xW:=x2.trans hW;refine jF r1W ?_;refine VT p (hd.ext xW) h2 λk1 k2 k3 d' is w3 m f3 hd' bl bm=> ?_;refine gq λb1 w4 r4 e4 z4 f4=> ?_;refine StN_f r4 λw5 r5 f5 z5=> ?_;have aT:Ext w3 w5:=f4.nw f5;have g5:=f3.trans aT;have ah:=r1W.ext g5;have hE5:=h.ext (xW.trans g5)
  cases is
  rotate_left
  ·rw[cond_true];have bn:¬Law c sw p:=λhh=>by have:=bm rfl;have:=hh.2.1.1;omega
   refine jF ah ?_;refine V5 (K:=λx53 x54 x55 x56 W=>_) r5 ?_;refine Y0 hE5 sw (by unfold In64;have:=h.cf.sw;obtain⟨q1,q2⟩:=ag;omega) p (ho.ext (xW.trans g5)) h1 k1 k2 k3 (hd'.ext aT) bl λy0 y1 y2 y3 y4 y5 y6 y7 y8 y9 aL why w6 f6=> ?_;refine StN_f ((r2.ext hW).ext (g5.trans f6)) λw7 r7 f7 z7=> ?_;refine jF r7 ?_;exact hD _ _ _ _ _ _ _ _ _ _ _ why w7 (((xW.trans g5).trans f6).nw f7) λhh=>absurd hh bn
  rw[cond_false];refine jF ah ?_;refine cmS12 (ae3 p (ho.ext (xW.trans g5)) (hd.ext (xW.trans g5)) h1 h2) ?_;rintro x y z ee w6 ⟨⟨ix,iz,hp0,aM⟩,f6⟩;refine gq λb2 w7 r7 e7 z7 f7=> ?_;refine StN_f r7 λw8 r8 f8 z8=> ?_;have bo:Ext w6 w8:=f7.nw f8;have g8:=(g5.trans f6).trans bo;by_cases aN:ee=0;rotate_left
  ·rw[show (ee !=0)=true by rw[bne_iff_ne];exact aN,cond_true];refine cmS1 (abn ee w8) ?_;rintro r w9 ⟨hr,hw9⟩;subst hw9;exact fin w9 r (hW.trans g8) λhh=>absurd (aM hh.2.1).1 aN
  subst aN;show cond false _ _;rw[cond_false];obtain⟨rfl,aq⟩:=hp0 rfl;have ar:Law c sw p->p.proto=17/\y=(wordAt p.data 0:Int)/\z=(wordAt p.data 2:Int):=λhh=>⟨hh.2.1.1,(aM hh.2.1).2.1,(aM hh.2.1).2.2⟩;have aU:=r1W.ext g8;have x8:=xW.trans g8;refine Ld_i 0 p.proto r8 (Ld_i 5 p.src aU (Ld_i 1 y r8 ?_));refine gq λb3 w9 r9 e9 z9 f9=> ?_;refine StN_f r9 λJ ai f10 z10=> ?_;have zc:=f3.size;have zd:=f6.size;have ze:=f9.size;have x810:Ext w8 J:=f9.nw f10;have I:=x8.trans x810;have r1A:=aU.ext x810;have r2A:=(r2.ext hW).ext (g8.trans x810);have rpA:=r8.ext x810;intro J122;have bq:∀{pr},pr=p.proto->LG e sw pr p.src y p.dst (if pr=1 then 0 else z)->Law c sw p->LG e sw 17 p.src (wordAt p.data 0:Int) p.dst (wordAt p.data 2:Int):=by
   rintro pr rfl hn hh;obtain⟨q1,q2,q3⟩:=ar hh;rw[q1,if_neg (by omega),q2,q3] at hn;exact hn
  have aV:∀(W:θ) (g:Nat) (dd:Int),Ext J W->(Law c sw p->Full c e sw 17 (wordAt p.data 0:Int) dd/\LG e sw 17 p.src (wordAt p.data 0:Int) p.dst (wordAt p.data 2:Int))->J122 ⟨g,0,none⟩ (Pm dd) W:=by
   intro W g dd hx hL;simp -zeta only[J122];refine gq λt Y Z az aA f11=> ?_;refine cmS0 (adI ((hH.ext (I.trans hx)).ext f11) Z) ?_;rintro q N ⟨rfl,f12,au⟩;rw[cond_true];have r12d:=au.drew;refine Ld_i 0 dd r12d ?_;have zx:=hx.size;have aW:Ext J N.drew:=((hx.trans f11).new f12 λy hy e=>by omega).trans (Ext.drew N);refine StN_f (r2A.ext aW) λaa br f13 z13=> ?_;refine⟨by rw[(r12d.fr f13 (by have:=r2A.lt;omega)).cell];rfl,?_⟩;refine jF br ?_;exact hD _ _ _ _ _ _ _ _ _ _ _ dd aa ((I.trans aW).nw f13) hL
  have aX:∀(W:θ) (g:Nat) (a':EA) (e':ES) (bd sid nx:Int) (kn:Bool),J.heap.size<=W.heap.size->J.heap.size<=g->gW J W (jK a)->nH W a' c e'->Gd c e'->Grow a a' J.heap.size->¬jK a' g->a'.x=a.x->
    Flow c e e' sw p.proto p.src y p.dst (if p.proto=1 then 0 else z) bd sid kn->(p.proto≠6->nx=0)->Row W g (Pq bd true sid kn nx p.dst (if p.proto=1 then 0 else z))->J122 ⟨g,0,none⟩ .nilIface W:=by
   intro W g a' e' bd sid nx kn hz hzg hf hE hG aj bt aw ac aB hr;simp -zeta only[J122];have av:∀b,jK a b->b<w.heap.size:=λb ⟨k,hk⟩=>h.lt k b hk;have zz2:=xW.size;have zz8:=x8.size;have zz10:=I.size;have lt2:=r8.lt;refine gq λt Y Z az aA f11=> ?_;refine cmS0 (adJ _ Y) ?_;rintro q N ⟨rfl,hw⟩;subst hw;rw[cond_false];have hf1:=hf.ext f11;have hr1:=hr.ext f11;have rp1:=rpA.fr hf1 λhb=>by have:=av _ hb;omega
   refine rd7 (Q:=λy0 y1 y2 y3 y4 y5 y6=>Ld ν N ⟨b2,0,none⟩ λy7=>Ld ν N (Addr.add ⟨g,0,none⟩ 4) λy8=>kW (some ⟨a.x,0,none⟩) y0 y1 y2 y3 y4 y5 y6 y7 y8 N _) hr1 ?_;refine Ld_i 0 p.proto rp1 (Ld_i 4 nx hr1 ?_);rw[<- aw];obtain⟨q1,q2,q3,q4⟩:=ac.eq;obtain⟨jb,bb,aC,U,hb1,hb2,hb3,hb4⟩:=ac.bnd;have ib:In64 bd:=by
    have:=(List.getElem?_eq_some_iff.1 U).1;have:=hE.db.len;have:=h.cf.b1;rw[aC];unfold In64;omega
   have ira:In64 p.dst:=by
    have:=(lN hc0).1.2.1.2;unfold kD at this;unfold In64;omega
   have irp:In64 (if p.proto=1 then 0 else z):=by unfold In64;split<;>omega
   refine abl (hE.ext f11) hG hm aq (by omega) (ac.ses.imp (λ⟨g1,k,s0,g2,g3,_⟩=>⟨g1,k,s0,g2,g3⟩) λ⟨g1,g2,g3⟩=>⟨g1,g2,g3,⟨jb,bb,aC,U⟩,ib,ira,irp⟩) λaa a2 M F k s f13 hk4 bu hst hs hE2 hG2 aD af=> ?_;have aE:=ah4 ac hs (M:=M) (F:=F) (l:=zn e'.l (k:Int) ⟨(k:Int),max (NK c e' p.proto nx).toNat e'.wn,e'.tn+1⟩);generalize hE2e:({e' with SS:=e'.SS.set k (some s),M:=M,l:=zn e'.l (k:Int) ⟨(k:Int),max (NK c e' p.proto nx).toNat e'.wn,e'.tn+1⟩,tn:=e'.tn+1,F:=F}:ES)=e2 at hE2 hG2 aE;have hf3:gW J aa (jK a):=hf1.trans f13 λb hb ho=>(aj b ho).elim id λhh=>by omega
   have hf3w:gW w aa (jK a):=(I _).trans hf3 λ_ _ q=>q;have hr3:=hr1.fr f13 bt;intro J153;have hJ153:∀(u:Nat) (W:θ),Ext aa W->Row W u [Β bb.sw,Β bb.pr,Β bb.ad,Β bb.po,Β bb.opr,Β bb.oad,Β bb.opo,.bool bb.st]->J153 ⟨u,0,none⟩ W:=by
    intro u W hW hu;simp -zeta only[J153];have lt1:=r1A.lt;have lt2':=r2A.lt;have fW:=hf3.ext hW;have fWw:=hf3w.ext hW;have r1W:=r1A.fr fW λhb=>by have:=av _ hb;omega
    have r2W:=r2A.fr fW λhb=>by have:=av _ hb;omega
    refine jF r1W ?_;have g5:W.cell? (Addr.add (Addr.add ⟨u,0,none⟩ 4) 1)=some (Β bb.oad):=by rw[gy,gy,hu.cell];rfl
    have g6:W.cell? (Addr.add (Addr.add ⟨u,0,none⟩ 4) 2)=some (Β bb.opo):=by rw[gy,gy,hu.cell];rfl
    refine iH (k:= .int .i64) (y:=bb.oad) g5 (iH (k:= .int .i64) (y:=bb.opo) g6 ?_);refine afY p (ho.fr fWw bj) (hd.fr fWw bk) h1 h2 bb.oad bb.opo λy0 y1 y2 y3 y4 y5 y6 y7 y8 y9 aL ee aO f14 hR=> ?_;refine gq λv aY ah aZ a9 f15=> ?_;refine StN_f ah λaF aG f16 z16=> ?_;have zf14:=f14.size;have ak:Ext aO aF:=f15.nw f16;refine jF aG ?_;refine StN_f (r2W.ext (f14.trans ak)) λba bv f17 z17=> ?_;refine jF bv ?_;have zw:=hW.size;have zfw:=hf3w.size;have bc:gW W ba (·=g1):=((f14.trans ak) _).trans f17 λ_ _ q=>q;have hg1:∀b,jK a2 b->b≠g1:=by
     intro b hb;rcases aD b hb with hb|hb
     ·rcases aj b hb with hb|hb
      ·have:=av _ hb;omega
      ·omega
     ·have:=hf.size;omega
    refine hK _ _ _ _ _ _ _ _ _ _ _ ba a2 e2 (fWw.trans bc λb hb he=>by omega) ((hE2.ext hW).fr bc λk b hb he=>hg1 b ⟨k,hb⟩ he) hG2 ?_ (af.trans aw) aE λhL=> ?_
    ·intro b hb;rcases aD b hb with hb|hb
     ·rcases aj b hb with hb|hb
      ·exact .inl hb
      ·exact .inr (by omega)
     ·exact .inr (by have:=hf.size;have:=f11.size;omega)
    ·obtain⟨ax,hy,hz⟩:=ar hL;have aP:=hG.inv.mp jb bb U;have bw:=h.cf.hp _ aP.2.2.1;have hR:=hR ⟨hL.2.1,⟨by unfold kD;unfold CN.rZ at bw;omega,(lN hc0).1.2.1.2⟩,by have:=aP.2.2.2.2.1;omega,hL.2.2⟩;have bx:BG bb.opo (wordAt p.data 0:Int)=bb.opo:=if_neg (by have:=aP.2.2.2.2.1.1;omega);obtain⟨_,⟨hR2,aK,hR3⟩,hR4⟩:=hR;unfold Xy at hR2 aK hR3;rw[bx,show BG (-1) (wordAt p.data 2:Int)=(wordAt p.data 2:Int) from if_pos rfl] at hR2 aK hR3;have aQ:s.bd=(jb:Int)/\s.ra=p.dst/\s.rp=z:=by
      rcases hs with ⟨rfl,hk,s0,hs0,rfl⟩|⟨rfl,be,rfl⟩
      ·rcases ac.ses with ⟨_,k2,s2,g1,g2,g3,g4,g5⟩|⟨g,_⟩
       ·have:k2=k:=by omega
        subst this;rw[hs0] at g2;have:s0=s2:=by simpa using g2
        subst this;exact⟨g3.trans aC,g4,g5.trans (if_neg (by omega))⟩
       ·cases g
      ·exact⟨aC,rfl,if_neg (by omega)⟩
     have bz:k<e'.SS.length:=by
      rcases hs with ⟨_,_,s0,hs0,_⟩|⟨_,be,_⟩
      ·exact(List.getElem?_eq_some_iff.1 hs0).1
      ·exact(Gp.Ses.jr 0 be).1
     have aR:=aB (by omega);refine⟨?_,λy hy ⟨k,hk⟩=>by have:=hR4 y hy;have:=(hE2.ext hW).lt k y hk;omega⟩;refine⟨jb,bb,k,s,by rw[<- hE2e];exact U,hb1,hb2.trans ax,hb3,hb4.trans hy,?_,aQ.1,aQ.2.1,aQ.2.2.trans hz,?_,?_,?_,?_⟩
     ·rw[<- hE2e];show (e'.SS.set k _)[k]? =_;rw[getElem?_set,if_pos rfl,if_pos bz]
     ·rw[bu,ax,aR];unfold NK;rw[q2]
     ·exact⟨hR2,(aK.ext ak).fr f17 λad ha h0 e=>jg (r2W.ext (f14.trans ak)) (by simp) (aK.ext ak) ha h0 e,(hR3.ext ak).fr f17 λad ha h0 e=>jg (r2W.ext (f14.trans ak)) (by simp) (hR3.ext ak) ha h0 e⟩
     ·rw[<- hE2e,<- q1]
     ·intro bA;rcases ac.was with ⟨_,bf⟩|⟨_,_,i,o,Mi,Mo,hbi,bB,bg,he'⟩
      ·rw[ax,hy,bA] at bf;cases bf
      ·have bC:=(Gp.Bind.jr 0 bB).1;have:jb=i:=by omega
       subst this;rw[he'] at U;have U:(e.S.set jb (some ⟨sw,p.proto,p.src,y,o.1,o.2.1,o.2.2,false⟩))[jb]? =some (some bb):=U;rw[getElem?_set,if_pos rfl,if_pos bC] at U;have U:=Option.some.inj (Option.some.inj U);subst U;rw[ax,hy] at bg;exact⟨bg,rfl⟩
   clear_value J153;have hE3:=hE2.ext (Ext.drew aa);have bh:getS e2.S bd=some bb:=Gp.Bind.rH.2 ⟨by omega,by rw[aC,Int.toNat_natCast,<- hE2e];exact U⟩;refine iI.2 (iH (k:= .ptr) (y:=some ⟨a2.B.d,0,none⟩) (by rw[gy,<- af];exact hE3.c2) ?_);refine Ld_i 0 bd hr3.drew ⟨?_,?_⟩
   ·refine cmS19 (Mc hE3.db bd) ?_;rintro a1 a2' a3 a4 a5 a6 a7 a8 r aO ⟨_,hR,f14⟩;rw[bh] at hR;obtain⟨rfl,rfl,rfl,rfl,rfl,rfl,rfl,rfl⟩:=hR;refine gq λu aY ah aZ a9 f15=> ?_;have am:=(Ext.drew aa).trans (f14.trans f15);refine⟨by rw[(hr3.ext am).cell];rfl,by rw[gy,<- af];exact(hE2.ext am).c2,?_⟩;refine StN_f ah λaF aG f16 z16=> ?_;have zq:=((Ext.drew aa).trans f14).size;exact hJ153 u aF (am.nw f16) aG
   ·refine gq λu aY ah aZ a9 f15=> ?_;have am:=(Ext.drew aa).trans f15;refine⟨by rw[(hr3.ext am).cell];rfl,by rw[gy,<- af];exact(hE2.ext am).c2,?_⟩;refine cmS19 (Mc (hE2.ext am).db bd) ?_;rintro a1 a2' a3 a4 a5 a6 a7 a8 r aO ⟨_,hR,f14⟩;rw[bh] at hR;obtain⟨rfl,rfl,rfl,rfl,rfl,rfl,rfl,rfl⟩:=hR;refine StN_f (ah.ext f14) λaF aG f16 z16=> ?_;have zq:=(Ext.drew aa).size;exact hJ153 u aF ((am.trans f14).nw f16) aG
  clear_value J122;have av:∀b,jK a b->b<w.heap.size:=λb ⟨k,hk⟩=>h.lt k b hk;have zz2:=xW.size;have zz8:=x8.size;have zz10:=I.size;have lt1:=r1A.lt;have lt2:=rpA.lt;have lt3:=ai.lt;have an:∀(V:θ),Row V b3 [Β sw,Β p.proto,Β p.src,Β y]->V.cell? (Addr.add ⟨b3,0,none⟩ 0)=some (Β sw)/\V.cell? (Addr.add ⟨b3,0,none⟩ 1)=some (Β p.proto)/\V.cell? (Addr.add ⟨b3,0,none⟩ 2)=some (Β p.src)/\V.cell? (Addr.add ⟨b3,0,none⟩ 3)=some (Β y):=
   λV hr=>⟨by rw[gy,hr.cell];rfl,by rw[gy,hr.cell];rfl,by rw[gy,hr.cell];rfl,by rw[gy,hr.cell];rfl⟩
  have ck:∀(V:θ) (R:Prop),Row V g0 (gu p.tos p.id p.off p.ttl p.proto p.src p.dst p.df p.mf o d)->Row V b2 [Β p.proto,Β y,Β z]->Row V b3 [Β sw,Β p.proto,Β p.src,Β y]->R->
    u_ (gu p.tos p.id p.off p.ttl p.proto p.src p.dst p.df p.mf o d) V ⟨g0,0,none⟩ 0 (V.cell? (Addr.add ⟨b2,0,none⟩ 2)=some (Β z)/\V.cell? (Addr.add ⟨g0,0,none⟩ 6)=some (Β p.dst)/\V.cell? ⟨b2,0,none⟩=some (Β p.proto)/\
     V.cell? (Addr.add ⟨b3,0,none⟩ 0)=some (Β sw)/\V.cell? (Addr.add ⟨b3,0,none⟩ 1)=some (Β p.proto)/\V.cell? (Addr.add ⟨b3,0,none⟩ 2)=some (Β p.src)/\V.cell? (Addr.add ⟨b3,0,none⟩ 3)=some (Β y)/\R):=by
   intro V R k1 k2 k3 hR;obtain⟨q1,q2,q3,q4⟩:=an V k3;exact qF k1 ⟨by rw[gy,k2.cell];rfl,by rw[gy,k1.cell];rfl,by rw[k2.cell];rfl,q1,q2,q3,q4,hR⟩
  have ck4:∀(V:θ) (R:Prop),Row V g0 (gu p.tos p.id p.off p.ttl p.proto p.src p.dst p.df p.mf o d)->Row V b3 [Β sw,Β p.proto,Β p.src,Β y]->R->
    u_ (gu p.tos p.id p.off p.ttl p.proto p.src p.dst p.df p.mf o d) V ⟨g0,0,none⟩ 0 (V.cell? (Addr.add ⟨b3,0,none⟩ 0)=some (Β sw)/\V.cell? (Addr.add ⟨b3,0,none⟩ 1)=some (Β p.proto)/\V.cell? (Addr.add ⟨b3,0,none⟩ 2)=some (Β p.src)/\V.cell? (Addr.add ⟨b3,0,none⟩ 3)=some (Β y)/\R):=by
   intro V R k1 k3 hR;obtain⟨q1,q2,q3,q4⟩:=an V k3;exact qF k1 ⟨q1,q2,q3,q4,hR⟩
  have isrc:0<=p.src/\p.src<=4294967295:=by
   have:=(lN hc0).1.2.1.1;unfold kD at this;omega
  have ira:In64 p.dst:=by
   have:=(lN hc0).1.2.1.2;unfold kD at this;unfold In64;omega
  have irp:In64 (if p.proto=1 then 0 else z):=by unfold In64;split<;>omega
  have dlaw:∀dd:Int,(Full c e sw p.proto y dd\/(p.proto=6/\dd=8)\/(p.proto=1/\dd=9))->(p.proto=6\/LG e sw p.proto p.src y p.dst (if p.proto=1 then 0 else z))->Law c sw p->Full c e sw 17 (wordAt p.data 0:Int) dd/\LG e sw 17 p.src (wordAt p.data 0:Int) p.dst (wordAt p.data 2:Int):=by
   intro dd aH hn hL;obtain⟨ax,q2,_⟩:=ar hL;refine⟨?_,bq rfl (hn.resolve_left (by omega)) hL⟩;rcases aH with h|h|h
   ·rw[ax,q2] at h;exact h
   ·omega
   ·omega
  have aI:∀V,Ext J V->jQ (some ⟨a.x,0,none⟩) sw p.proto p.src y p.dst (if p.proto=1 then 0 else z) p.tos p.id p.off p.ttl p.proto p.src p.dst p.df p.mf o d V λr258 r259 r260 r261 r262 r263 r264 r265 w266=>Al w266 (.cells ⟨abQ⟩ 265) λa268 w267=>u_ (gu p.tos p.id p.off p.ttl p.proto p.src p.dst p.df p.mf o d) w267 ⟨g0,0,none⟩ 0 (w267.cell? (Addr.add ⟨b2,0,none⟩ 2)=some (Β z)/\w267.cell? (Addr.add ⟨g0,0,none⟩ 6)=some (Β p.dst)/\w267.cell? ⟨b2,0,none⟩=some (Β p.proto)/\
     w267.cell? (Addr.add ⟨b3,0,none⟩ 0)=some (Β sw)/\w267.cell? (Addr.add ⟨b3,0,none⟩ 1)=some (Β p.proto)/\w267.cell? (Addr.add ⟨b3,0,none⟩ 2)=some (Β p.src)/\w267.cell? (Addr.add ⟨b3,0,none⟩ 3)=some (Β y)/\iw (Pq r258 r259 r260 r261 r262 r263 r264) w267 a268 0 λw269=>J122 a268 r265 w269):=by
   intro V hV;have zV:=hV.size;refine YI (h.ext (I.trans hV)) hg hm p (ho.ext (I.trans hV)) (hd.ext (I.trans hV)) h1 h2 ag aq isrc ⟨ix.1,ix.2⟩ ira irp ?_ ?_
   ·intro dd W aH hn hx;refine gq λg Y Z az aA f11=> ?_;have O:=hV.trans (hx.trans f11);refine ck _ _ (r1A.ext O) (rpA.ext O) (ai.ext O) ?_;refine StN_f Z λN au f12 aS=> ?_;have zx:=hx.size;exact aV N g dd (O.nw f12) (dlaw dd aH hn)
   ·intro W a' e' bd sid kn nx hf hE hG aj aw ac aB;have zx:=hf.size;refine gq λg Y Z az aA f11=> ?_;have ay:gW J Y (jK a):=((hV _).trans hf λ_ _ q=>q).ext f11;have n1:∀b,jK a b->b≠g0/\b≠b2/\b≠b3:=λb hb=>by have:=av b hb;omega
    refine ck _ _ (r1A.fr ay λhb=>(n1 _ hb).1 rfl) (rpA.fr ay λhb=>(n1 _ hb).2.1 rfl) (ai.fr ay λhb=>(n1 _ hb).2.2 rfl) ?_;refine StN_f Z λN au f12 aS=> ?_;have n2:∀k b,own a' k b->b<W.heap.size:=hE.lt;have aJ:¬jK a' g:=λ⟨k,hk⟩=>by have:=n2 k _ hk;omega
    have hE2:=(hE.ext f11).fr f12 λk b hb he=>aJ ⟨k,he ▸ hb⟩;exact aX N g a' e' bd sid nx kn (by omega) (by omega) (ay.trans f12 λb hb he=>by omega) hE2 hG (λb hb=>(aj b hb).imp id λq=>by omega) aJ aw ac aB au
  have ao:∀V g,Ext J V->J.heap.size<=g->Row V g (Pq 0 false 0 false 0 0 0)->jQ (some ⟨a.x,0,none⟩) sw p.proto p.src y p.dst (if p.proto=1 then 0 else z) p.tos p.id p.off p.ttl p.proto p.src p.dst p.df p.mf o d V λr272 r273 r274 r275 r276 r277 r278 r279 w280=>iw (Pq r272 r273 r274 r275 r276 r277 r278) w280 ⟨g,0,none⟩ 0 λw281=>J122 ⟨g,0,none⟩ r279 w281:=by
   intro V g hV bD hr;have zV:=hV.size;have ltg:=hr.lt;refine YI (h.ext (I.trans hV)) hg hm p (ho.ext (I.trans hV)) (hd.ext (I.trans hV)) h1 h2 ag aq isrc ⟨ix.1,ix.2⟩ ira irp ?_ ?_
   ·intro dd W aH hn hx;refine StN_f (hr.ext hx) λN au f12 aS=> ?_;have zx:=hx.size;exact aV N g dd ((hV.trans hx).nw f12) (dlaw dd aH hn)
   ·intro W a' e' bd sid kn nx hf hE hG aj aw ac aB;have zx:=hf.size;have ay:gW J W (jK a):=(hV _).trans hf λ_ _ q=>q;have ng:¬jK a g:=λhb=>by have:=av _ hb;omega
    refine StN_f (hr.fr hf ng) λN au f12 aS=> ?_;have aJ:¬jK a' g:=λhb=>by
     rcases aj _ hb with hb|hb
     ·exact ng hb
     ·omega
    have hE2:=hE.fr f12 λk b hb he=>aJ ⟨k,he ▸ hb⟩;exact aX N g a' e' bd sid nx kn (by omega) bD (ay.trans f12 λb hb he=>by omega) hE2 hG (λb hb=>(aj b hb).imp id λq=>by omega) aJ aw ac aB au
  have xd:=Ext.drew J;have r1d:=r1A.drew;have rpd:=rpA.drew;have r10d:=ai.drew;refine Ld_i 0 sw r10d (Ld_i 1 p.proto r10d (Ld_i 2 p.src r10d (Ld_i 3 y r10d ?_)));refine Ld_i 0 p.proto rpd (Ld_i 6 p.dst r1d (Ld_i 2 z rpd ?_));refine jF r1d ⟨?_,?_⟩
  ·refine cmS18 (O1 _ _ _ _) ?_;rintro _ _ V ⟨rfl,rfl,fV⟩;have xV:=xd.trans fV;refine ck4 _ _ (r1A.ext xV) (ai.ext xV) ⟨aI V xV,?_⟩;refine gq λg Y Z az aA f11=> ?_;have O:=xV.trans f11;have zV:=xV.size;refine ck _ _ (r1A.ext O) (rpA.ext O) (ai.ext O) ?_;exact ao Y g O (by omega) Z
  ·refine gq λg Y Z az aA f11=> ?_;have O:=xd.trans f11;have zV:=xd.size;refine ck _ _ (r1A.ext O) (rpA.ext O) (ai.ext O) ?_;refine cmS18 (O1 _ _ _ _) ?_;rintro _ _ V ⟨rfl,rfl,fV⟩;have xV:=O.trans fV;refine ck4 _ _ (r1A.ext xV) (ai.ext xV) ?_;exact ao V g xV (by omega) (Z.ext fV)
 clear_value J8;refine cmS0 (Dv (h.ext x2)) ?_;rintro q w3 ⟨rfl,hw⟩;subst hw;rw[Bool.not_true,cond_false];refine cmS0 (BJ (h.ext x2) sw) ?_;rintro q w3 ⟨rfl,hw⟩;subst hw;by_cases ag:RV c sw;rotate_left
 ·rw[decide_eq_false ag,Bool.not_false,cond_true];exact hJ8t _ (Ext.refl _) λhh=>ag hh.1
 rw[decide_eq_true ag,Bool.not_true,cond_false];refine jF r1 ?_;refine cmS0 (VU p (ho.ext x2) (hd.ext x2) h1 h2) ?_;rintro q w3 ⟨rfl,f3⟩;by_cases hc0:p.check=0;rotate_left
 ·rw[decide_eq_false hc0];exact hJ8t w3 f3 λhh=>hc0 hh.2.1.2.1
 cases hq:(!p.mf && decide (p.off<=0))
 ·rw[Bool.and_false];refine hJ8t w3 f3 λhh=> ?_;obtain⟨_,⟨_,_,g2,g3,_⟩,_⟩:=hh;rw[g2,decide_eq_true g3] at hq;cases hq
 ·rw[decide_eq_true hc0];exact hJ8f w3 f3 ag hc0
end Go.Proofs.EN
end
section
namespace Go.Proofs.EN
open Gp Gp.V4 Go.Proofs Go.Proofs.AN Go.Proofs.VN
open Gp.Bind (Bnd Slots live GoodB freeN getS In64)
open Gp.Ses (Ses)
open Gp.Wh (Tm)
variable {w w':θ} {a:EA} {c:Cf} {e:ES}
def hop (now:Nat) (t:Int):Nat:=if (if (1099511627776:Int)<t then 1099511627776 else t)>(now:Int) then (if (1099511627776:Int)<t then 1099511627776 else t).toNat else now
theorem Inv.ss (h:Inv c e) (SS:Gp.Ses.Slots) (M:ByteArray->Option Int):Inv c {e with SS:=SS,M:=M}:=⟨h.ql,h.cn,h.gv,h.mp⟩
end Go.Proofs.EN
end
section
namespace Go.Proofs.AN
open Gp Gp.V4 Go.Proofs Go.Proofs.VN
open Gp.Bind (In64)
variable {w w':θ}
theorem aiY (p:jG) {o d:fU} (ho:iq w o p.opts) (hd:iq w d p.data) (h1:p.opts.length<=2^40) (h2:p.data.length<=2^40) (ad po:Int)
  {K:Int->Int->Int->Int->Int->Int->Int->Bool->Bool->fU->fU->Int->b_}
  (hK:∀x0 x1 x2 x3 x4 x5 x6 x7 x8 x9 u e w',Ext w w'->(adv p p.src ad (-1) po->ahk w.heap.size w' p p.src ad (-1) po x0 x1 x2 x3 x4 x5 x6 x7 x8 x9 u e)->K x0 x1 x2 x3 x4 x5 x6 x7 x8 x9 u e w'):
  Ku p.tos p.id p.off p.ttl p.proto p.src p.dst p.df p.mf o d ad po w K:=by
 apply Zw;refine gq λg0 w1 r1 e1 z1 f1=> ?_;refine gq λg1 w2 r2 e2 z2 f2=> ?_;have x2:=f1.trans f2;have I:=r1.ext f2;have za:=f1.size;have zb:=f2.size;refine jF I (Ld_i 5 p.src I ?_);refine Zg p (ho.ext x2) (hd.ext x2) h1 h2 _ _ _ _ λy0 y1 y2 y3 y4 y5 y6 y7 y8 y9 y10 e W hW hR=> ?_;refine StN_f (r2.ext hW) λw4 r4 f4 z4=> ?_;refine jF r4 ?_;refine hK _ _ _ _ _ _ _ _ _ _ _ e w4 ((x2.trans hW).nw f4) λhm=> ?_;obtain⟨q1,⟨q2,b3,q3⟩,q4⟩:=hR hm;exact⟨q1,⟨q2,b3.fr f4 λad ha h0 e=>jg (r2.ext hW) (by simp) b3 ha h0 e,q3.fr f4 λad ha h0 e=>jg (r2.ext hW) (by simp) q3 ha h0 e⟩,λx hx=>by have:=q4 x hx;omega⟩
def e2 (x:Int×Int):List Value:=[Β x.1,Β x.2]
theorem Rn (x:Int×Int):(e2 x).length=2:=rfl
theorem ahz (x:Int×Int):∀v∈e2 x,iL v=true:=by
 intro v hv;simp only[e2,mem_cons,not_mem_nil,or_false] at hv;rcases hv with rfl|rfl<;>rfl
def alw (f:Int) (ra rp:Int) (l:List (Int×Int)):Prop:=f=0\/(f=1/\∃x∈l,x.1=ra)\/(f=2/\(ra,rp)∈l)
theorem VB {s:fU} {l:List (Int×Int)} {P:Int×Int->Prop} (hl:s.len=l.length) (hn:l.length<=2^40) {body:Int×Unit->θ->(Int×Unit->b_)->Prop} {K:Int->b_}
  (hK:∀r w',Ext w w'->(decide (r>=0)=true↔∃x∈l,P x)->K r w')
  (hb:∀(j:Nat) x W next,l[j]? =some x->Ext w W->(P x->∀W',Ext w W'->K (j:Int) W')->(¬P x->∀W',Ext w W'->next ((((j+1:Nat):Int)),()) W')->body ((j:Int),()) W next):
  iW (S:=Int×Unit) (λs3 W next=>bif decide (s3.1<(s.len:Int)) then body s3 W next else K (-1) W) (0,()) w:=by
 refine gX (λq W=>∃j:Nat,j<=l.length/\q.1=(j:Int)/\Ext w W/\∀x∈l.take j,¬P x) (λq _=>(s.len - q.1).toNat) ⟨0,by omega,rfl,Ext.refl _,by simp⟩ ?_;rintro⟨i,⟨⟩⟩ W ⟨j,hj,hi,hW,u⟩ next I
 dsimp only at hi ⊢;subst hi;by_cases O:(j:Int)<(s.len:Int)
 ·rw[decide_eq_true O,cond_true];have J:j<l.length:=by omega
  have hg:=List.getElem?_eq_getElem J;have N:=List.getElem_mem J;refine hb j _ W next hg hW (λhp W' hW'=>hK _ W' hW' ⟨λ_=>⟨_,N,hp⟩,λ_=>by rw[decide_eq_true];omega⟩) λhp W' hW'=>I _ _ ⟨j+1,J,rfl,hW',λx hx=> ?_⟩ (by dsimp only;omega)
  rw[List.take_succ_eq_append_getElem J,List.mem_append,List.mem_singleton] at hx;rcases hx with hx|rfl
  ·exact u x hx
  ·exact hp
 ·rw[decide_eq_false O,cond_false];rw[take_of_length_le (by omega)] at u;exact hK _ W hW ⟨λh=>by simp at h,λ⟨x,hx,hp⟩=>absurd hp (u x hx)⟩
theorem adD (f ra rp:Int) {s:fU} {l:List (Int×Int)} (hs:mQ 2 e2 w s l) (hn:l.length<=2^40):zU f ra rp s w λr w'=>(r=true↔alw f ra rp l)/\Ext w w':=by
 apply Qg;refine gq λa w1 r1 e1 z1 f1=> ?_;have hl:=hs.len;by_cases h0:f=0
 ·subst h0;exact⟨⟨λ_=> .inl rfl,λ_=>rfl⟩,f1⟩
 rw[show (f==0)=false by simpa using h0,cond_false];have hi:∀j:Nat,j<l.length->ο.wrap ((j:Int)+1)=((j+1:Nat):Int):=λj hj=>by rw[Α];rfl
 by_cases h1:f=1
 ·subst h1;show cond true _ _;rw[cond_true];apply oK;apply pW;refine VB (K:=λr w'=>(decide (r>=0)=true↔alw 1 ra rp l)/\Ext w w') (P:=λx=>x.1=ra) hl hn (λr w' hx hr=>⟨hr.trans ⟨λh=> .inr (.inl ⟨rfl,h⟩),λh=> ?_⟩,f1.trans hx⟩) ?_
  ·rcases h with h|⟨_,h⟩|⟨h,_⟩
   ·cases h
   ·exact h
   ·cases h
  intro j x W next hg hW hy I
  refine CN.SlN_ix Rn (by omega) (hs.ext (f1.trans hW)) (by omega) (by rw[Int.toNat_natCast];exact hg) λad hc=> ?_;refine iH (k:= .int .i64) (y:=x.1) (hc 0 _ rfl) (iH (k:= .int .i64) (y:=x.2) (hc 1 _ rfl) ?_);refine CN.kV (by kernel_rfl) ?_;refine Calls.mono (MW (A0:=x.1) (A1:=x.2) (f0:=⟨a,0,none⟩) (w:=W) (K:=λr W'=>r=(x.1==ra)/\Ext W W') ?_) ?_
  ·refine gq λb w2 r2 e2 z2 f2=> ?_;exact Ld_i 0 x.1 r2 (Ld_i 0 ra ((r1.ext hW).ext f2) ⟨rfl,f2⟩)
  rintro ev W' ⟨r,he,rfl,hW'⟩;refine⟨_,he,_,rfl,?_⟩;by_cases hp:x.1=ra
  ·rw[show (x.1==ra)=true by simpa using hp,cond_true];exact hy hp W' (hW.trans hW')
  ·rw[show (x.1==ra)=false by simpa using hp,cond_false,hi j (List.getElem?_eq_some_iff.1 hg).1];exact I hp W' (hW.trans hW')
 rw[show (f==1)=false by simpa using h1,cond_false];by_cases h2:f=2
 ·subst h2;show cond true _ _;rw[cond_true];refine Ld_i 0 ra r1 (Ld_i 1 rp r1 ?_);apply qj;refine gq λb w2 r2 e2 z2 f2=> ?_;refine Ld_i 0 ra r2 (Ld_i 1 rp r2 ?_);apply rO;refine gq λc w3 r3 e3 z3 f3=> ?_;have x3:=(f1.trans f2).trans f3;refine VB (K:=λr w'=>(decide (r>=0)=true↔alw 2 ra rp l)/\Ext w w') (P:=λx=>x=(ra,rp)) hl hn (λr w' hx hr=>⟨hr.trans ⟨λ⟨x,h,e⟩=> .inr (.inr ⟨rfl,e ▸ h⟩),λh=> ?_⟩,x3.trans hx⟩) ?_
  ·rcases h with h|⟨h,_⟩|⟨_,h⟩
   ·cases h
   ·cases h
   ·exact⟨_,h,rfl⟩
  intro j x W next hg hW hy I
  have u:=hW.trans (Ext.drew W);have r3d:=r3.ext u;refine Ld_i 0 ra r3d (Ld_i 1 rp r3d ?_);refine CN.SlN_ix Rn (by omega) (hs.ext (x3.trans u)) (by omega) (by rw[Int.toNat_natCast];exact hg) λad hc=> ?_;refine iH (k:= .int .i64) (y:=x.1) (hc 0 _ rfl) (iH (k:= .int .i64) (y:=x.2) (hc 1 _ rfl) ?_);by_cases hp:x=(ra,rp)
  ·rw[show ((ra==x.1) && ((rp==x.2) && true))=true by subst hp;simp,cond_true];exact hy hp _ u
  ·rw[show ((ra==x.1) && ((rp==x.2) && true))=false by
    rw[Bool.eq_false_iff];intro h;simp only[Bool.and_true,Bool.and_eq_true,beq_iff_eq] at h;exact hp (Prod.ext h.1.symm h.2.symm),cond_false,hi j (List.getElem?_eq_some_iff.1 hg).1]
   exact I hp _ u
 ·rw[show (f==2)=false by simpa using h2,cond_false];exact⟨⟨λh=>Bool.noConfusion h,λh=>absurd h (by rintro(h|⟨h,_⟩|⟨h,_⟩)<;>omega)⟩,f1⟩
end Go.Proofs.AN
end
section
namespace Go.Proofs.EN
open Gp Gp.V4 Go.Proofs Go.Proofs.AN Go.Proofs.VN
open Gp.Bind (Bnd Slots live GoodB freeN getS In64)
open Gp.Ses (Ses)
variable {w w':θ} {a:EA} {c:Cf} {e:ES}
def rem (e:ES) (id:Int):List (Int×Int):=(SN.Uh e.SS id).map λx=>(x.2.ra,x.2.rp)
theorem QA (h:nH w a c e) (id:Int):uG (some ⟨a.x,0,none⟩) id w λr w'=>mQ 2 e2 w' r (rem e id)/\Ext w w':=by
 apply Jt;refine gq λq w1 r1 e1 z1 f1=> ?_;have h1:=h.ext f1;refine iI.2 (iH (k:= .ptr) (y:=some ⟨a.T.d,0,none⟩) (by rw[gy];exact h1.c3) ?_);refine cmS5 (ah5 w1 _ _) ?_;rintro v w5 ⟨f5,g0,g1,rfl,p0,p1,_⟩;have h5:=h1.ext f5;have r5:=r1.ext f5;have hz5:=f5.size;have lt5:=r5.lt;have O:(SN.Uh e.SS id).length<=4096:=by
  refine Nat.le_trans (List.length_filter_le _ _) ?_;have:=Gp.Ses.jU e.SS 0;have:=h.sl;have:=h.cf.s1;omega
 have R:(SN.yS (SN.Uh e.SS id)).length=(rem e id).length:=by unfold SN.yS rem;simp
 have hrl:(rem e id).length<=4096:=by unfold rem;rw[length_map];exact O
 refine acY (SN.aeT c.ns.toNat e.SS a.T g0 g1 id) (λN i W=>w5.heap.size+1<N/\∃t,Row W q [Δ t]/\iV 2 e2 W t ((rem e id).take i)/\gW w5 W (·=q)/\∀b,fU.at t b->N<=b) ?_ ?_ ?_ ?_ ?_
 ·intro W hx hz;exact⟨by omega,⟨none,0,0⟩,r5.ext hx,by simpa using iV.nil,hx _,λb ⟨o,hb⟩=>by cases hb⟩
 ·rintro N i W ⟨_,t,k1,k2,k3,k4⟩;have ne:∀{b v},Row w5 b [v]->(∀t:fU,v≠Δ t)->b≠q:=by
   rintro b v hr hv rfl;have c1:=hr.cell 0;rw[r5.cell] at c1;simp only[List.getElem?_cons_zero,Option.some.injEq] at c1;exact hv ⟨none,0,0⟩ c1.symm
  refine⟨p0.fr k3 (ne p0 (by simp)),p1.fr k3 (ne p1 (by simp)),a.T,e.SS,e.M,h5.se.fr k3 λb hb e=>by have:=h.lt 4 b hb;omega,rfl,λ_=>rfl,λx hx=> ?_⟩;obtain⟨j,q1,q2,_⟩:=ahW (List.mem_of_mem_drop hx);rw[q1];exact Gp.Ses.rH.2 ⟨by omega,by rw[Int.toNat_natCast];exact q2⟩
 ·rintro N i W W' ⟨hN,t,k1,k2,k3,k4⟩ hf;exact⟨hN,t,k1.fr hf (by omega),k2.fr hf λb hb e=>by have:=k4 b hb;omega,k3.trans hf λb hb e=>by omega,k4⟩
 ·rintro N i x W Kb hx ⟨_,t,k1,k2,k3,k4⟩ hN hNW hk;have hb:∃p,(SN.Uh e.SS id)[i]? =some p/\x=(p.1,(p.2.bd,p.2.st,p.2.un,p.2.ra,p.2.rp,()),()):=by
   unfold SN.yS at hx;rw[getElem?_map] at hx
   cases hp:(SN.Uh e.SS id)[i]? with
   |none=>rw[hp] at hx;cases hx
   |some p=>rw[hp] at hx;exact⟨p,rfl,(Option.some.inj hx).symm⟩
  obtain⟨p,hp,rfl⟩:=hb;have hil:=(List.getElem?_eq_some_iff.1 hp).1;have hr:(rem e id)[i]? =some (p.2.ra,p.2.rp):=by unfold rem;rw[getElem?_map,hp];rfl
  have U:=(List.getElem?_eq_some_iff.1 hr).1;refine gq λu w6 r6 e6 z6 f6=> ?_;refine gY r6 rfl rfl λw7 r7 f7' z7=> ?_;have x7:Ext W w7:=f6.new (f7' (·=u) rfl) λy hy e=>by omega
  refine⟨(x7 λ_=>False).same _ (by omega) (by simp),?_⟩;have fb:=gW.gG w7 (w5.heap.size+1);have zb:(gG w7 (w5.heap.size+1)).heap.size=w7.heap.size:=by simp[gG]
  have q8:=(k1.ext x7).fr fb (by omega);have b8:=(k2.ext x7).fr fb λb hb e=>by have:=k4 b hb;omega
  have u8:=r7.fr fb (by omega);refine Ld_s 0 t q8 ?_;refine iH (k:= .int .i64) (y:=p.2.ra) (by rw[gy,gy,u8.cell];rfl) (iH (k:= .int .i64) (y:=p.2.rp) (by rw[gy,gy,u8.cell];rfl) ?_);refine gq λy w8 r8 e8 z8 f8=> ?_;have sl:mQ 2 e2 w8 ⟨some ⟨y,0,none⟩,1,1⟩ [(p.2.ra,p.2.rp)]:=(iV.row (xs:=[(p.2.ra,p.2.rp)]) (by simpa [e2] using r8)).sl Rn (by omega);refine mD Rn (b8.ext f8) sl rfl (by omega) ahz (by simp;omega) (by simp;omega) λs' w9 b9 f9 n9=> ?_;have Y:¬fU.at t q:=λhb=>by have:=k4 q hb;omega
  have q9:=(q8.ext f8).fr f9 Y;refine g_ q9 rfl (by simp) λI Z J z10=> ?_;have f10:gW w9 I (·=q):=J _ rfl;have hz7:=x7.size;have hs':∀b,fU.at s' b->N<=b:=λb hb=>by
   rcases n9 b hb with h|h
   ·exact k4 b h
   ·omega
  have fr:gW (gG W (w5.heap.size+1)) I (λb=>b=q\/fU.at t b):=
   (((CN.Ip (x7 _) _).ext f8).trans f9 λb _ hb=> .inr hb).trans f10 λb _ hb=> .inl hb
  refine hk I _ fr ?_ ⟨by omega,s',Z,?_,?_,hs'⟩
  ·rintro b hb1 hb2 (h|h)
   ·omega
   ·have:=k4 b h;omega
  ·rw[List.take_succ_eq_append_getElem U,(List.getElem?_eq_some_iff.1 hr).2];exact b9.fr f10 λb hb e=>by have:=hs' b hb;omega
  ·refine(k3.trans (gW.gG W _) λb hb e=>by omega).trans fr ?_;rintro b hb (h|h)
   ·exact h
   ·have:=k4 b h;omega
 ·rintro N W ⟨hN,t,k1,k2,k3,k4⟩ hm;refine Ld_s 0 t k1 ⟨hm rfl,?_⟩;have fp:=gW.qV W w5.heap.size (.deferred none);have k2':=k2.fr fp λb hb e=>by have:=k4 b hb;omega
  rw[R,take_length] at k2';refine⟨k2'.sl Rn (by omega),?_⟩;exact((((f1.trans f5).fr k3).ext (Ext.refl _)).trans (fp.mono (S':=λb=>b=q\/b=w5.heap.size) λb e=> .inr e) λb hb e=>by omega).new λb hb e=>by omega
end Go.Proofs.EN
end
section
namespace Go.Proofs.EN
open Gp Gp.V4 Go.Proofs Go.Proofs.AN Go.Proofs.VN
open Gp.Bind (Bnd Slots live GoodB freeN getS In64)
open Gp.Ses (Ses)
variable {w w':θ} {a:EA} {c:Cf} {e:ES}
structure vk (e e':ES):Prop where
 S:e'.S=e.S
 now:e'.now=e.now
 tn:e'.tn<=e.tn+1
 un:∀(k:Nat) (s:Ses),e'.SS[k]? =some (some s)->e.SS[k]? =some (some s)\/∃(j:Nat) (b:Bnd),s.bd=(j:Int)/\e.S[j]? =some (some b)/\b.pr=6
theorem aeg (h:nH w a c e) (hg:Gd c e) (hm:Yq c) (ht:e.tn<2^62) {bd ra rp st:Int} {so:Option Int} (p:jG) (u:e.M (Bind.keyS [bd,ra,rp])=so) (hb:∃(j:Nat) (b:Bnd),bd=(j:Int)/\e.S[j]? =some (some b)/\b.pr=p.proto) (i3:∀n∈[bd,ra,rp],In64 n)
  {o d:fU} (ho:iq w o p.opts) (hd:iq w d p.data) (h1:p.opts.length<=2^40) (h2:p.data.length<=2^40) {K:Int->b_}
  (hE:∀r w',Ext w w'->p.proto=6->r≠0->K r w')
  (hK:∀w' a' e',gW w w' (jK a)->nH w' a' c e'->Gd c e'->Grow a a' w.heap.size->a'.x=a.x->vk e e'->(p.proto≠6->Ext w w')->K 0 w'):
  sK (some ⟨a.x,0,none⟩) bd true (so.getD 0) so.isSome st ra rp p.tos p.id p.off p.ttl p.proto p.src p.dst p.df p.mf o d w K:=by
 apply Hf;refine gq λb7 w1 r1 e1 z1 f1=> ?_;refine gq λb8 w2 r2 e2 z2 f2=> ?_;have x2:=f1.trans f2;have r1:=r1.ext f2;refine Ld_i 4 p.proto r2 ?_;by_cases hp:p.proto=6;rotate_left
 ·rw[show (p.proto !=6)=true by rw[bne_iff_ne];exact hp,cond_true];exact hK w2 a e (x2 _) (h.ext x2) hg (Grow.refl a _) rfl ⟨rfl,rfl,by omega,λ_ _ h=> .inl h⟩ λ_=>x2
 rw[show (p.proto !=6)=false by rw[hp];rfl,cond_false];refine rd7 r1 (jF r2 ?_);refine cmS4 (step_ok _ _ _ _ _ _ _ p (ho.ext x2) (hd.ext x2) h1 h2 false) ?_;rintro nx ok w3 ⟨_,f3⟩;have r3:=r1.ext f3;have r4:=r2.ext f3;have x3:=x2.trans f3
 cases ok
 ·rw[Bool.not_false,cond_true];exact hE 8 w3 x3 hp (by decide)
 rw[Bool.not_true,cond_false];intro J;have hJ:∀q W,Ext w3 W->(q=false->so.isSome=true\/((Gp.Ses.live 0 e.SS).length:Int)<c.ns)->J q W:=by
  intro q W hx hq;simp -zeta only[J]
  cases q
  rotate_left
  ·rw[cond_true];exact hE 6 W (x3.trans hx) hp (by decide)
  rw[cond_false];refine rd7 (Q:=λy0 y1 y2 y3 y4 y5 y6=>Ld ν W (Addr.add ⟨b8,0,none⟩ 4) λy=>kW (some ⟨a.x,0,none⟩) y0 y1 y2 y3 y4 y5 y6 y nx W λw'=>K 0 w') (r3.ext hx) ?_;refine Ld_i 4 p.proto (r4.ext hx) ?_;have zx:=(x3.trans hx).size;refine abl (h.ext (x3.trans hx)) hg hm (.inr (.inl hp)) ht ?_ λw4 a' M F k s f4 _ _ _ hs hE' hG I N=>hK w4 a' _ (((x3.trans hx) _).trans f4 λ_ _ q=>q) hE' hG (λb hb=>(I b hb).imp (λh=>h) λh=>by omega) N ⟨rfl,rfl,Int.le_refl _,λk' s' h'=> ?_⟩ λhh=>absurd hp hh;rotate_left
  ·have h':(e.SS.set k (some s))[k']? =some (some s'):=h';rw[getElem?_set] at h';split at h'
   ·split at h'
    ·have:=Option.some.inj (Option.some.inj h');subst this;obtain⟨j,b,hj,O,R⟩:=hb;refine .inr ⟨j,b,?_,O,R.trans hp⟩;rcases hs with ⟨hk,hk2,s0,h0,rfl⟩|⟨_,_,rfl⟩
     ·obtain⟨v,rfl⟩:=Option.isSome_iff_exists.1 hk;obtain⟨k2,s2,g1,g2,g3,_⟩:=acy h i3 u;have:k2=k:=by have hk2:v=(k:Int):=hk2;omega
      subst this;rw[h0] at g2;have:=Option.some.inj (Option.some.inj g2);subst this;exact g3.trans hj
     ·exact hj
    ·cases h'
   ·exact .inl h'
  cases so with
  |some v=>
   obtain⟨k,s,g1,g2,_⟩:=acy h i3 u;exact .inl ⟨rfl,k,s,g1,g2⟩
  |none=>
   exact .inr ⟨rfl,u,(hq rfl).resolve_left (by simp),(let ⟨j,b,q1,q2,_⟩:=hb;⟨j,b,q1,q2⟩),i3 _ (by simp),i3 _ (by simp),i3 _ (by simp)⟩
 clear_value J;refine Ld_b 3 so.isSome r3 ?_
 cases hs:so.isSome
 rotate_left
 ·rw[Bool.not_true,cond_false];exact hJ false w3 (Ext.refl _) λ_=> .inl hs
 rw[Bool.not_false,cond_true];refine cmS0 (Rh (h.ext x3)) ?_;rintro r w4 ⟨rfl,f4⟩;exact hJ _ w4 f4 λhh=> .inr (by rw[decide_eq_false_iff_not] at hh;omega)
theorem adU (h:nH w a c e) (hm:Yq c):w.cell? (Addr.add (Addr.add ⟨a.x,0,none⟩ 5) 29)=some (Β (ci c 29)):=by
 obtain⟨A0,A1,A2,A3,A4,A5,A6,A7,A8,A9,A10,A11,A12,A13,A14,A15,A16,A17,A18,A19,A20,A21,A22,A23,A24,A25,A26,A27,A28,A29,A30,A31,A32,A33,A34,A35,hC,_⟩:=hm.wt;rw[gy,gy,h.hd.cell];unfold ci;rw[hC];rfl
def ϒ (c:Cf) (e:ES) (p:jG) (i x2 x6:Int) (x8:Bool) (why:Int):Prop:=
 (why=9/\e.Mo (Bind.keyS [17,p.dst,(wordAt p.data 2:Int)])=none)\/∃(j:Nat) (b:Bnd),e.Mo (Bind.keyS [17,p.dst,(wordAt p.data 2:Int)])=some (j:Int)/\e.S[j]? =some (some b)/\
  ((why=10/\b.st=false/\¬alw (ci c 29) p.src (wordAt p.data 0:Int) (rem e (j:Int)))\/(why=0/\(b.st=true\/alw (ci c 29) p.src (wordAt p.data 0:Int) (rem e (j:Int)))/\i=b.sw/\x6=b.ad/\x2=p.off/\x8=p.mf))
theorem aiI (h:nH w a c e) (hg:Gd c e) (hm:Yq c) (ht:e.tn<2^62) (p:jG) {o d:fU} (ho:iq w o p.opts) (hd:iq w d p.data) (h1:p.opts.length<=2^40) (h2:p.data.length<=2^40)
  (aC:∀ad,o.a=some ad->0<p.opts.length->¬jK a ad.block) (aD:∀ad,d.a=some ad->0<p.data.length->¬jK a ad.block) (au:∀(j:Nat) (b:Bnd),e.S[j]? =some (some b)->aeO c b)
  {K:Int->Int->Int->Int->Int->Int->Int->Int->Bool->Bool->fU->fU->Int->b_}
  (hE:∀i x0 x1 x2 x3 x4 x5 x6 x7 x8 x9 U why w',Ext w w'->(qw p->p.data.length<=60000->ϒ c e p i x2 x6 x8 why/\why≠0)->K i x0 x1 x2 x3 x4 x5 x6 x7 x8 x9 U why w')
  (hK:∀i x0 x1 x2 x3 x4 x5 x6 x7 x8 x9 U w' a' e',gW w w' (jK a)->nH w' a' c e'->Gd c e'->Grow a a' w.heap.size->a'.x=a.x->vk e e'->(p.proto≠6->Ext w w')->(qw p->p.data.length<=60000->ϒ c e p i x2 x6 x8 0/\∃ad po,PkR w' (Xy p p.src ad (-1) po) x0 x1 x2 x3 x4 x5 x6 x7 x8 x9 U)->K i x0 x1 x2 x3 x4 x5 x6 x7 x8 x9 U 0 w'):
  oD (some ⟨a.x,0,none⟩) p.tos p.id p.off p.ttl p.proto p.src p.dst p.df p.mf o d w K:=by
 apply Nc;refine gq λb1 w1 r1 e1 z1 f1=> ?_;refine gq λb2 w2 r2 e2 z2 f2=> ?_;have x2:=f1.trans f2;have r1:=r1.ext f2;have za:=f1.size;have zb:=f2.size;have fin:∀(W:θ) (why:Int),Ext w2 W->(qw p->p.data.length<=60000->∀i x2 x6 x8,ϒ c e p i x2 x6 x8 why/\why≠0)->
   iw ξ W ⟨b2,0,none⟩ 0 λag=>ig ag ⟨b2,0,none⟩ λy0 y1 y2 y3 y4 y5 y6 y7 y8 y9 ah=>K 0 y0 y1 y2 y3 y4 y5 y6 y7 y8 y9 ah why ag:=by
  intro W why hW hL;refine StN_f (r2.ext hW) λw4 r4 f4 z4=> ?_;refine jF r4 ?_;exact hE _ _ _ _ _ _ _ _ _ _ _ _ why w4 ((x2.trans hW).nw f4) λq1 q2=>hL q1 q2 _ _ _ _
 intro J7;have hJ7:∀v W,Ext w2 W->(v=true->¬qw p)->(v=false->p.check=0)->J7 v W:=by
  intro v W hW hv hc0;simp -zeta only[J7]
  cases v
  rotate_left
  ·rw[cond_true];exact fin W 1 hW λhh=>absurd hh (hv rfl)
  have hc0:=hc0 rfl;rw[cond_false];have r1W:=r1.ext hW;have xW:=x2.trans hW;refine jF r1W ?_;refine VT p (hd.ext xW) h2 λk1 k2 k3 d' is w3 m f3 hd' aE aF=> ?_;refine gq λb3 w4 r4 e4 z4 f4=> ?_;refine StN_f r4 λw5 r5 f5 z5=> ?_;have av:Ext w3 w5:=f4.nw f5;have g5:=f3.trans av
  cases is
  rotate_left
  ·rw[cond_true];have hn:¬qw p:=λhh=>by have:=aF rfl;have:=hh.1;omega
   refine jF (r1W.ext g5) ?_;refine V5 (K:=λx53 x54 x55 x56 W=>_) r5 ?_;refine ϭ (h.ext (xW.trans g5)) p (ho.ext (xW.trans g5)) h1 k1 k2 k3 (hd'.ext av) aE λi y0 y1 y2 y3 y4 y5 y6 y7 y8 y9 ah why w6 f6=> ?_;refine StN_f ((r2.ext hW).ext (g5.trans f6)) λw7 r7 f7 z7=> ?_;refine jF r7 ?_;exact hE _ _ _ _ _ _ _ _ _ _ _ _ why w7 (((xW.trans g5).trans f6).nw f7) λhh=>absurd hh hn
  rw[cond_false];refine jF (r1W.ext g5) ?_;refine cmS12 (ae3 p (ho.ext (xW.trans g5)) (hd.ext (xW.trans g5)) h1 h2) ?_;rintro x y z ee w6 ⟨⟨iy,iz,hp0,ai⟩,f6⟩;refine gq λb4 w7 r7 e7 z7 f7=> ?_;refine StN_f r7 λw8 r8 f8 z8=> ?_;have g8:Ext W w8:=(g5.trans f6).trans (f7.nw f8);by_cases aj:ee=0;rotate_left
  ·rw[show (ee !=0)=true by rw[bne_iff_ne];exact aj,cond_true];refine cmS1 (abn ee w8) ?_;rintro r w9 ⟨hr,hw9⟩;subst hw9;exact fin w9 r (hW.trans g8) λhh=>absurd (ai hh).1 aj
  subst aj;rw[show ((0:Int) !=0)=false from rfl,cond_false];obtain⟨rfl,hpr3⟩:=hp0 rfl;have g8d:=g8.trans (Ext.drew w8);have x8:=xW.trans g8d;have hE8:=h.ext x8;refine iI.2 (iH (k:= .ptr) (y:=some ⟨a.B.d,0,none⟩) (by rw[gy];exact hE8.c2) ?_);refine Ld_i 0 p.proto r8.drew (Ld_i 6 p.dst (r1W.ext g8d) (Ld_i 2 z r8.drew ?_));obtain⟨idst,isrc⟩:In64 p.dst/\In64 p.src:=by
   obtain⟨q1,q2⟩:=(lN hc0).1.2.1;unfold kD at q1 q2;unfold In64;constructor<;>omega
  have ipr:In64 p.proto:=by unfold In64;omega
  have iz:In64 z:=by unfold lD at iz;unfold In64;omega
  have iy:In64 y:=by unfold lD at iy;unfold In64;omega
  have i3o:∀n∈[p.proto,p.dst,z],In64 n:=by
   intro n hn;simp only[mem_cons,not_mem_nil,or_false] at hn;rcases hn with rfl|rfl|rfl
   ·exact ipr
   ·exact idst
   ·exact iz
  refine cmS4 (LY hE8.db p.proto p.dst z i3o) ?_;rintro n t w9 ⟨rfl,rfl,f9⟩;have g9:=g8d.trans f9;have u:qw p->Bind.keyS [17,p.dst,(wordAt p.data 2:Int)]=Bind.keyS [p.proto,p.dst,z]:=λhh=>by rw[hh.1,(ai hh).2.2]
  have aG:qw p->(wordAt p.data 0:Int)=y:=λhh=>(ai hh).2.1.symm
  cases Y:e.Mo (Bind.keyS [p.proto,p.dst,z]) with
  |none=>
   rw[isSome_none,Bool.not_false,cond_true];exact fin w9 9 (hW.trans g9) λhh _ _ _ _ _=>⟨.inl ⟨rfl,by rw[u hh];exact Y⟩,by decide⟩
  |some v=>
  rw[isSome_some,Bool.not_true,cond_false,getD_some];obtain⟨j,b,hj,Z,rfl⟩:=(h.db.good.o _ _).1 Y;have ak:b.pr=p.proto:=by
   have Z:=Gp.Bind.keyS_inj (by simp[Bnd.o]) (h.db.good.ok j b hj).2 i3o Z;simp only[Bnd.o,List.cons.injEq,and_true] at Z;exact(au j b hj).2.2.2.2.2.1.trans Z.1
  have aH:getS e.S (j:Int)=some b:=Gp.Bind.rH.2 ⟨by omega,by rw[Int.toNat_natCast];exact hj⟩;have hE9:=h.ext (xW.trans g9);refine iI.2 (iH (k:= .ptr) (y:=some ⟨a.B.d,0,none⟩) (by rw[gy];exact hE9.c2) ?_);refine cmS19 (Mc hE9.db _) ?_;rintro a1 a2 a3 a4 a5 a6 a7 a8 r w10 ⟨_,hR,f10⟩;rw[aH] at hR;obtain⟨rfl,rfl,rfl,rfl,rfl,rfl,rfl,rfl⟩:=hR;refine gq λb5 ag aI e11 z11 f11=> ?_;refine StN_f aI λaw aJ f12 z12=> ?_;have zf10:=f10.size;have zg9:=(xW.trans g9).size;have J:Ext w8.drew aw:=f9.trans (f10.trans (f11.nw f12));have r1C:=(r1W.ext g8d).ext J;refine Ld_i 0 p.proto (r8.drew.ext J) (Ld_i 5 p.src r1C (Ld_i 1 y (r8.drew.ext J) ?_));refine cmS18 (O1 _ _ _ _) ?_;rintro _ rp w13 ⟨rfl,ax,f13⟩;have irp:In64 rp:=(by rw[ax];split<;>first|decide|exact iy)
  have ay:qw p->(wordAt p.data 0:Int)=rp:=λhh=>by rw[ax,if_neg (by have:=hh.1;omega)];exact aG hh
  have hE13:=(hE8.ext J).ext f13;have ij:In64 (j:Int):=by
   have:=(List.getElem?_eq_some_iff.1 hj).1;have:=h.db.len;have:=h.cf.b1;unfold In64;omega
  have i3:∀n∈[(j:Int),p.src,rp],In64 n:=by
   intro n hn;simp only[mem_cons,not_mem_nil,or_false] at hn;rcases hn with rfl|rfl|rfl
   ·exact ij
   ·exact isrc
   ·exact irp
  refine find_ok hE13 (j:Int) true p.src _ i3 λw14 f14=> ?_;generalize agK e (TR e true (j:Int) p.src rp)=st;generalize am:TR e true (j:Int) p.src rp=so;have am:e.M (Bind.keyS [(j:Int),p.src,rp])=so:=am;refine gq λb6 w15 aK e15 z15 f15=> ?_;refine StN_f aK λN an f16 z16=> ?_;have aL:Ext aw N:=f13.trans (f14.trans (f15.nw f16));have g16d:=aL.trans (Ext.drew N);have r1D:=r1C.ext g16d;have r12D:=aJ.ext g16d;have xD:Ext w2 N.drew:=(hW.trans g8d).trans (J.trans g16d);have zD:=xD.size;have lt1:=r1D.lt;have lt12:=r12D.lt;have ho1:∀q,w.heap.size<=q->¬jK a q:=λq hq ⟨k,hk⟩=>by have:=h.lt k q hk;omega
  intro J168;have az:∀W',Ext N.drew W'->(qw p->b.st=true\/alw (ci c 29) p.src rp (rem e (j:Int)))->J168 false W':=by
   intro W' hW' ao;simp -zeta only[J168];rw[cond_false];have aq:=an.drew.ext hW';have r1':=r1D.ext hW';have xW':Ext w W':=x2.trans (xD.trans hW');refine rd7 aq (jF r1' ?_);refine aeg (h.ext xW') hg hm ht p am ⟨j,b,rfl,hj,ak⟩ i3 (ho.ext xW') (hd.ext xW') h1 h2 (λr I f17 h6 hr=> ?_) λI a' e' f17 hE' hG' O hx' aM aN=> ?_
   ·rw[show (r !=0)=true by rw[bne_iff_ne];exact hr,cond_true];exact fin I r ((xD.trans hW').trans f17) λhh=>by have:=hh.1;omega
   show cond false _ _;rw[cond_false];have zW:=(xD.trans hW').size;have zV:=f17.size;have aO:iq I o p.opts:=(ho.ext xW').fr f17 λad q1 q2=>aC ad q1 q2;have aP:iq I d p.data:=(hd.ext xW').fr f17 λad q1 q2=>aD ad q1 q2;have r1V:=r1'.fr f17 (ho1 _ (by omega));have r5V:=(r12D.ext hW').fr f17 (ho1 _ (by omega));have r2V:=(r2.ext (xD.trans hW')).fr f17 (ho1 _ (by omega));refine jF r1V ?_;refine Ld_i 2 b.ad r5V (Ld_i 3 b.po r5V ?_);refine aiY p aO aP h1 h2 b.ad b.po λy0 y1 y2 y3 y4 y5 y6 y7 y8 y9 ah ee aQ f19 hM=> ?_;refine gq λb9 w20 aR e20 z20 f20=> ?_;refine StN_f aR λaa aS f21 z21=> ?_;have zf19:=f19.size;have R:Ext I aa.drew:=(f19.trans (f20.nw f21)).trans (Ext.drew aa);refine Ld_i 0 b.sw (r5V.ext R) (jF aS.drew ?_);refine StN_f (r2V.ext R) λar aT f22 z22=> ?_;refine jF aT ?_;have lb2:=r2V.lt;have fT:gW I ar (·=b2):=(R _).trans f22 λ_ _ q=>q;have fA:gW w ar (jK a):=((xW' _).trans f17 λ_ _ q=>q).trans fT λy hy e=>by omega
   have n2:¬jK a' b2:=λhh=>(O b2 hh).elim (ho1 b2 (by omega)) λh=>by omega
   refine hK _ _ _ _ _ _ _ _ _ _ _ _ ar a' e' fA (hE'.fr fT λk q hq e=>n2 ⟨k,e ▸ hq⟩) hG' (λq hq=>(O q hq).imp (λh=>h) λh=>by omega) hx' aM (λhh=>((xW'.trans (aN hh)).trans R).nw f22) λhh hl=> ?_;have aA:=au j b hj;have hM:=(hM ⟨hh,⟨(lN hc0).1.2.1.1,by unfold kD;have:=aA.2.1;omega⟩,by have:=aA.2.2.2.1;omega,hl⟩).pk;obtain⟨_,_,q2,_,_,_,q6,_,q8⟩:=hM.f;have ac:Ext aQ aa.drew:=(f20.nw f21).trans (Ext.drew aa);have rr:=r2V.ext R;exact⟨.inr ⟨j,b,by rw[u hh];exact Y,hj,.inr ⟨rfl,by rw[ay hh];exact ao hh,rfl,q6,q2,q8⟩⟩,_,_,hM.f,(hM.o.ext ac).fr f22 λad ha h0 e=>jg rr (by simp) (hM.o.ext ac) ha h0 e,(hM.d.ext ac).fr f22 λad ha h0 e=>jg rr (by simp) (hM.d.ext ac) ha h0 e⟩
  have aU:∀W',Ext N.drew W'->b.st=false->(qw p->¬alw (ci c 29) p.src rp (rem e (j:Int)))->J168 true W':=by
   intro W' hW' af ao;simp -zeta only[J168];rw[cond_true];exact fin W' 10 (xD.trans hW') λhh _ _ _ _ _=>⟨.inr ⟨j,b,by rw[u hh];exact Y,hj,.inl ⟨rfl,af,by rw[ay hh];exact ao hh⟩⟩,by decide⟩
  clear_value J168;refine Ld_b 7 b.st r12D ?_
  cases af:b.st
  rotate_left
  ·rw[Bool.not_true,cond_false];exact az _ (Ext.refl _) λ_=> .inl af
  rw[Bool.not_false,cond_true];have hE16:=hE8.ext (J.trans g16d);have c5:∀{V:θ},Ext N.drew V->V.cell? (Addr.add (Addr.add ⟨b6,0,none⟩ 5) 0)=some (Β p.src)/\V.cell? (Addr.add (Addr.add ⟨b6,0,none⟩ 5) 1)=some (Β rp):=λhV=>⟨by rw[gy,gy,(an.drew.ext hV).cell];rfl,by rw[gy,gy,(an.drew.ext hV).cell];rfl⟩;obtain⟨k5,k6⟩:=c5 (Ext.refl _);refine iI.2 (iH (k:= .int .i64) (y:=ci c 29) (adU hE16 hm) (iH (k:= .int .i64) (y:=p.src) k5 (iH (k:= .int .i64) (y:=rp) k6 ?_)));refine cmS2 (QA hE16 _) ?_;rintro rs I ⟨aV,f17⟩;obtain⟨k5',k6'⟩:=c5 f17;refine⟨k5',k6',adU (hE16.ext f17) hm,?_⟩;have aW:(rem e (j:Int)).length<=2^40:=by
   unfold rem;rw[length_map];refine Nat.le_trans (List.length_filter_le _ _) ?_;have:=Gp.Ses.jU e.SS 0;have:=h.sl;have:=h.cf.s1;omega
  refine cmS0 (adD _ _ _ aV aW) ?_;rintro rr aB ⟨hr,f18⟩
  cases rr
  ·exact aU aB (f17.trans f18) af λ_ hh=>by have:=hr.2 hh;cases this
  ·exact az aB (f17.trans f18) λ_=> .inr (hr.1 rfl)
 clear_value J7;refine cmS0 (Dv (h.ext x2)) ?_;rintro q w3 ⟨rfl,hw⟩;subst hw;rw[Bool.not_true,cond_false];refine jF r1 ?_;refine cmS0 (VU p (ho.ext x2) (hd.ext x2) h1 h2) ?_;rintro q w3 ⟨rfl,f3⟩;refine hJ7 _ w3 f3 (λhv hh=> ?_) λhv=> ?_
 ·obtain⟨_,g2,g3,g4,_⟩:=hh;rw[decide_eq_true g2,g3,decide_eq_true g4] at hv
  cases hv
 ·exact Classical.byContradiction λhn=>by rw[decide_eq_false hn] at hv;cases hv
end Go.Proofs.EN
end
section
namespace Gp.V4
theorem VD (t:Nat):fold (t+(65535 - fold t))=65535:=by
 unfold fold;by_cases h:t=0
 ·subst h;simp
 ·rw[if_neg h,if_neg (by omega)];omega
theorem ag_ {n:Int} (h:iK n 2):0<=n/\n<65536:=⟨h.2.1,by have:=h.2.2;simpa using this⟩
theorem afl (p:jG) {s:Nat} (hs:s<65536):tot (p.head s)=tot (p.head 0)+s:=by
 rw[head_eq,head_eq];simp only[tot,UInt8.toNat_ofNat'];omega
theorem ac2 (p:jG):fold (tot (p.head p.sum))=65535:=by
 rw[afl p (by unfold jG.sum;omega)];exact VD _
theorem adN {p:jG} (h:p.fine):((p.bits % 8192 * 8:Nat):Int)=p.off/\(p.bits / 16384 % 2==1)=p.df/\(p.bits / 8192 % 2==1)=p.mf:=by
 obtain⟨_,_,⟨h1,h2,h3,_⟩,_⟩:=h;rw[Int.tmod_eq_emod_of_nonneg h1] at h3;unfold jG.bits;refine⟨by split<;>split<;>omega,?_,?_⟩
 ·cases p.df<;>cases p.mf<;>simp<;>omega
 ·cases p.df<;>cases p.mf<;>simp<;>omega
theorem aaI {p:jG} (h:p.check=0) (more:List UInt8):uY (p.bytes++more) false=0/\field (p.bytes++more)=p/\hlen (p.bytes++more)=20+p.opts.length:=by
 obtain⟨hf,hs⟩:=lN h;have hb:=WJ hf;have I:=adN hf;obtain⟨⟨f1,f2,f3,f4⟩,⟨r1,r2⟩,⟨o1,o2,o3,o4⟩,p1,p2⟩:=id hf;have f1:=Dw f1;have f2:=Dw f2;have f3:=Dw f3;have f4:=ag_ f4;obtain⟨r11,r12⟩:=r1;obtain⟨r21,r22⟩:=r2;obtain⟨s1,s2⟩:=hs;have hsum:p.sum<65536:=by unfold jG.sum;omega
 have e:p.bytes++more=p.head p.sum++(p.data++more):=by simp[jG.bytes]
 rw[e];have hl:=vX p p.sum;have hh:hlen (p.head p.sum++(p.data++more))=20+p.opts.length:=by
  rw[head_eq];simp only[hlen,List.cons_append,List.getElem?_cons_zero,getD_some,UInt8.toNat_ofNat'];omega
 have hv:ver (p.head p.sum++(p.data++more))=4:=by
  rw[head_eq];simp only[ver,List.cons_append,List.getElem?_cons_zero,getD_some,UInt8.toNat_ofNat'];omega
 have n2:num (p.head p.sum++(p.data++more)) 2 2=20+p.opts.length+p.data.length:=by
  rw[head_eq];simp[num,nN];omega
 have n6:num (p.head p.sum++(p.data++more)) 6 2=p.bits:=by
  rw[head_eq];simp[num,nN];omega
 have u:field (p.head p.sum++(p.data++more))=p:=by
  unfold field;rw[hh,n2,n6];have a1:((num (p.head p.sum++(p.data++more)) 1 1:Nat):Int)=p.tos:=by
   rw[head_eq];simp[num,nN];omega
  have a2:((num (p.head p.sum++(p.data++more)) 4 2:Nat):Int)=p.id:=by
   rw[head_eq];simp[num,nN];omega
  have a3:((num (p.head p.sum++(p.data++more)) 8 1:Nat):Int)=p.ttl:=by
   rw[head_eq];simp[num,nN];omega
  have a4:((num (p.head p.sum++(p.data++more)) 9 1:Nat):Int)=p.proto:=by
   rw[head_eq];simp[num,nN];omega
  have a5:((num (p.head p.sum++(p.data++more)) 12 4:Nat):Int)=p.src:=by
   rw[head_eq];simp[num,nN];omega
  have a6:((num (p.head p.sum++(p.data++more)) 16 4:Nat):Int)=p.dst:=by
   rw[head_eq];simp[num,nN];omega
  have a7:((p.head p.sum++(p.data++more)).take (20+p.opts.length)).drop 20=p.opts:=by
   rw[<- hl,List.take_left',head_eq]<;>simp
  have a8:((p.head p.sum++(p.data++more)).take (20+p.opts.length+p.data.length)).drop (20+p.opts.length)=p.data:=by
   rw[<- hl,List.take_append,List.drop_append];simp
  simp only[a1,a2,a3,a4,a5,a6,a7,a8,I]
 refine⟨?_,u,hh⟩;unfold uY;have ho:nC (p.head p.sum++(p.data++more)) false=0:=by
  unfold nC;rw[hh,hv,n2,n6];simp only[List.length_append,hl];rw[if_neg (by omega),if_neg (by omega),if_neg (by omega),if_neg (by omega)]
 have ht:(p.head p.sum++(p.data++more)).take (20+p.opts.length)=p.head p.sum:=by rw[<- hl];simp
 rw[ho,hh,u,ht,ac2,h];simp
end Gp.V4
end
section
open List (getElem?_eq_getElem map_cons)
open Int (toNat_natCast)
namespace Go.Proofs.RN
open Gp Gp.V4 Go.Proofs.VN
theorem afc {m:Nat} (hm:m<2^62) (w:θ):Et (m:Int) w λr w'=>r=(fold m:Int)/\w'=w:=by
 apply U8;have h0:¬((m:Int)<0):=by omega
 simp only[h0,decide_false,cond_false];refine gX (λst W=>W=w/\∃x:Nat,x<2^62/\st.1=(x:Int)/\fold x=fold m) (λst _=>st.1.toNat) ⟨rfl,m,hm,rfl,rfl⟩ ?_;rintro⟨x,⟨⟩⟩ W ⟨rfl,n,hn,rfl,hf⟩ next I
 by_cases J:65535<n
 ·have u:((n:Int)>65535):=by omega
  simp only[u,decide_true,cond_true];refine⟨by omega,by omega,?_⟩;rw[Int.tmod_eq_emod_of_nonneg (by omega),Int.tdiv_eq_ediv_of_nonneg (by omega),Α (n:=(n:Int) / 65536) (by omega) (by omega),Α];exact I _ _ ⟨rfl,n % 65536+n / 65536,by omega,by simp only;omega,by rw[VE J,hf]⟩ (by simp only;omega)
 ·have u:¬((n:Int)>65535):=by omega
  simp only[u,decide_false,cond_false];exact⟨by rw[<- hf,RI (by omega)],by trivial⟩
theorem ag3 {w:θ} {s:fU} {l:List UInt8} (h:iq w s l) (hl:l.length<=2^46) {j:Nat} (hj:j<l.length):Es s (j:Int) w λr w'=>r=(wordAt l j:Int)/\Ext w w':=by
 apply U7;have hsl:=h.1;rw[Α (n:=(j:Int)+1) (by omega) (by omega)];obtain⟨a,ha,hc⟩:=h.at_ (getElem?_eq_getElem hj);have hb:=l[j].toNat_lt;by_cases h2:j+1<l.length
 ·have h2':((j:Int)+1<(s.len:Int)):=by omega
  simp only[h2',decide_true,cond_true];obtain⟨a',ha',hc'⟩:=h.at_ (getElem?_eq_getElem h2);have hb':=l[j+1].toNat_lt;refine⟨a,ha,by omega,by omega,?_⟩;rw[toNat_natCast];simp only[sx,Nat.mul_one];rw[show w.drew.cell? (a.add j)=w.cell? (a.add j) from rfl,hc];simp only[f_,gJ];refine⟨a',ha',by omega,by omega,?_⟩;rw[show ((j:Int)+1).toNat=j+1 by omega];simp only[Nat.mul_one];rw[show w.drew.cell? (a'.add (j+1))=w.cell? (a'.add (j+1)) from rfl,hc'];simp only[f_,gJ];refine⟨?_,Ext.drew w⟩;unfold wordAt;rw[getElem?_eq_getElem hj,getElem?_eq_getElem h2];simp only[getD_some];rw[Α (n:=(l[j].toNat:Int)) (by omega) (by omega),Α (n:=(l[j+1].toNat:Int)) (by omega) (by omega),Α (n:=(l[j].toNat:Int) * 256) (by omega) (by omega),Α];omega
 ·have h2':¬((j:Int)+1<(s.len:Int)):=by omega
  simp only[h2',decide_false,cond_false];refine⟨a,ha,by omega,by omega,?_⟩;rw[toNat_natCast];simp only[sx,Nat.mul_one,hc];refine⟨?_,Ext.refl w⟩;unfold wordAt;rw[getElem?_eq_getElem hj,List.getElem?_eq_none (by omega)];rw[Α (n:=(l[j].toNat:Int)) (by omega) (by omega),Α];simp
theorem agE {w:θ} {s:fU} {ps:List (fU×List UInt8)} (hs:Parts w s ps) (hn:ps.length<=64) (hl:∀p∈ps,p.2.length<=2^40):
  F9 s w λr w'=>r=(fold (qE ps):Int)/\Ext w w':=by
 apply XO;have hsl:=hs.1;refine gX (λst W=>∃i:Nat,i<=ps.length/\st.2.1=i/\st.1=(qE (ps.take i):Int)/\Ext w W) (λst _=>ps.length - st.2.1.toNat) ⟨0,by omega,rfl,by simp[qE],Ext.refl _⟩ ?_;rintro⟨n,x,⟨⟩⟩ W ⟨i,hi,rfl,rfl,hx⟩ next N
 by_cases U:i<ps.length
 ·have I:((i:Int)<(s.len:Int)):=by omega
  simp only[I,decide_true,cond_true];generalize hp:ps[i]=p;have R:ps[i]? =some p:=by rw[getElem?_eq_getElem U,hp]
  have hpl:=hl p (List.mem_of_getElem? R);have h0:=Yh hn hl i;have h0':=Yh hn hl (i+1);have hsx:=hs.fr hx;refine gX (λst W'=>∃j:Nat,j<=(p.2.length+1) / 2/\st.2.1=((2 * j:Nat):Int)/\st.1=((qE (ps.take i)+tot (p.2.take (2 * j)):Nat):Int)/\Ext w W') (λst _=>p.2.length+1 - st.2.1.toNat) ⟨0,by omega,rfl,by simp[tot],hx⟩ ?_;rintro⟨n,x,⟨⟩⟩ W' ⟨j,hj,rfl,rfl,hx'⟩ next' J
  obtain⟨b,o,ha,hc,hb⟩:=(hs.fr hx').2 i p R;refine⟨_,ha,by omega,by omega,?_⟩;have hpl2:=hb.1;simp only[sx,toNat_natCast,Nat.mul_one,hc];by_cases O:2 * j<p.2.length
  ·have u:(((2 * j:Nat):Int)<(p.1.len:Int)):=by omega
   simp only[u,decide_true,cond_true];refine⟨_,ha,by omega,by omega,?_⟩;simp only[sx,toNat_natCast,Nat.mul_one,hc];refine cmS1 (ag3 hb (by omega) O) ?_;rintro _ w2 ⟨rfl,f2⟩;have:=DW p.2 (2 * j);have h3:=Ua (p.2.take (2 * j));have h4:65535 * (p.2.take (2 * j)).length<=65535 * 2^40:=Nat.mul_le_mul_left _ (by simp;omega);rw[Α (n:=_+_) (by omega) (by omega),Α];refine J _ _ ⟨j+1,by omega,by simp only;omega,?_,hx'.trans f2⟩ (by simp only;omega);rw[Τ _ O];simp only;omega
  ·have u:¬(((2 * j:Nat):Int)<(p.1.len:Int)):=by omega
   simp only[u,decide_false,cond_false];rw[Α,take_of_length_le (l:=p.2) (by omega)];exact N _ _ ⟨i+1,by omega,by simp,by rw[V7 R],hx'⟩ (by simp only;omega)
 ·have I:¬((i:Int)<(s.len:Int)):=by omega
  simp only[I,decide_false,cond_false];have:i=ps.length:=by omega
  subst this;rw[take_length];refine cmS1 (afc (Ο hn hl) W) ?_;rintro _ _ ⟨rfl,rfl⟩;exact⟨by trivial,hx⟩
theorem afd {w:θ} {s:fU} {ps:List (fU×List UInt8)} (hs:Parts w s ps) (hn:ps.length<=64) (hl:∀p∈ps,p.2.length<=2^40):
  Eu s w λr w'=>r=((65535 - fold (qE ps):Nat):Int)/\Ext w w':=by
 apply Zy;refine cmS1 (agE hs hn hl) ?_;rintro _ w1 ⟨rfl,f1⟩;have:=MG (qE ps);exact⟨by rw[Α];omega,f1⟩
theorem PI (n:Int) (w:θ):xA n w λr w'=>r=decide (kD n)/\w'=w:=by
 apply Ti;by_cases h1:n>=0
 ·have h1':0<=n:=h1;simp[h1',kD]
 ·have h1':¬0<=n:=h1;simp[h1',kD]
theorem ae4 (k:Nat) (hk:k<=7) (w:θ):Bj (k:Int) w λr w'=>r=((256^k:Nat):Int)/\w'=w:=by
 apply XM;refine gX (λst W=>W=w/\∃i:Nat,i<=k/\st.2.1=i/\st.1=((256^i:Nat):Int)) (λst _=>k - st.2.1.toNat) ⟨rfl,0,by omega,rfl,rfl⟩ ?_;rintro⟨n,j,⟨⟩⟩ W ⟨rfl,i,hi,rfl,rfl⟩ next I
 by_cases hlt:i<k
 ·have u:((i:Int)<(k:Int)):=by omega
  simp only[u,decide_true,cond_true];have hp:(256:Nat)^(i+1)<=256^7:=Nat.pow_le_pow_right (by omega) (by omega);have e:(256:Nat)^7=72057594037927936:=by decide
  have e2:((256^i:Nat):Int) * 256=((256^(i+1):Nat):Int):=by rw[Nat.pow_succ,Int.natCast_mul];rfl
  rw[e2];have J:=I (((256^(i+1):Nat):Int),((i+1:Nat):Int),()) W ⟨rfl,i+1,by omega,rfl,rfl⟩ (by simp only;omega);generalize 256^(i+1)=q at hp J ⊢;rw[Α,Α];exact J
 ·have u:¬((i:Int)<(k:Int)):=by omega
  simp only[u,decide_false,cond_false];have:i=k:=by omega
  subst this;exact⟨by trivial,by trivial⟩
theorem AB (n k:Int) (w:θ):lY n k w λr w'=>r=decide (iK n k)/\w'=w:=by
 apply U6;by_cases h1:k>=1
 ·by_cases h2:k<=4
  ·by_cases h3:n>=0
   ·simp only[h1,h2,h3,decide_true,cond_true];obtain⟨m,rfl⟩:∃m:Nat,k=(m:Int):=⟨k.toNat,by omega⟩;refine cmS1 (ae4 m (by omega) w) ?_;rintro r w' ⟨rfl,rfl⟩;have hs:mg (m:Int):=⟨h1,h2⟩;refine⟨?_,by trivial⟩;have h3':0<=n:=h3;simp[iK,hs,h3']
   ·have:¬iK n k:=λh=>h3 h.2.1;simp[h1,h2,h3,this]
  ·have:¬iK n k:=λh=>h2 h.1.2;simp[h1,h2,this]
 ·have:¬iK n k:=λh=>h1 h.1.1;simp[h1,this]
theorem adL {k n i:Nat} (h:i<k):(jD k n).take (i+1)=(jD k n).take i++[UInt8.ofNat (n / 256^(k - 1 - i))]:=by
 have hl:i<(jD k n).length:=by rw[iG];exact h
 rw[List.take_succ_eq_append_getElem hl];have:=WG k n i h;rw[getElem?_eq_getElem hl] at this;simp at this;rw[this]
theorem IK {w:θ} {s:fU} {l:List UInt8} (hs:iq w s l) (hl:l.length+4<=2^46) (n k:Int) (hn:n<2^62):
  jh s n k w λr w'=>Buf w' r (bytesV (jv l n k))/\Ext w w'/\(∀b,fU.at r b->w.heap.size<=b):=by
 apply XL;refine jd (l:=[]) Buf.nil hs (by simp;omega) λr w1 b1 f1 n1 _=> ?_;have x1:Ext w w1:=f1.new λb _ ⟨o,h⟩=>by cases h
 have y1:∀b,fU.at r b->w.heap.size<=b:=λb hb=>by
  rcases n1 b hb with ⟨o,h⟩|h
  ·cases h
  ·exact h
 rw[List.nil_append] at b1;refine cmS0 (AB n k w1) ?_;rintro _ _ ⟨rfl,rfl⟩;by_cases hf:iK n k
 ·simp only[hf,decide_true,Bool.not_true,cond_false];obtain⟨hk1,hk2⟩:=hf.1;have hn0:=hf.2.1;obtain⟨m,rfl⟩:∃m:Nat,k=(m:Int):=⟨k.toNat,by omega⟩;obtain⟨z,rfl⟩:∃z:Nat,n=(z:Int):=⟨n.toNat,by omega⟩;refine gX (λst W=>∃i:Nat,i<=m/\st.2.1=(m:Int) - 1 - i/\Buf W st.1 (bytesV (l++(jD m z).take i))/\Ext w W/\(∀b,fU.at st.1 b->w.heap.size<=b)) (λst _=>(st.2.1+1).toNat)
   ⟨0,by omega,by rw[Α];simp,by simpa using b1,x1,y1⟩ ?_
  rintro⟨t,x,⟨⟩⟩ W ⟨i,hi,hx,h1,h2,h3⟩ next u
  simp only at hx h1 h3;by_cases I:i<m
  ·have hx0:x>=0:=by omega
   simp only[hx0,decide_true,cond_true];obtain⟨j,rfl⟩:∃j:Nat,x=(j:Int):=⟨x.toNat,by omega⟩;have hj:j=m - 1 - i:=by omega
   refine cmS1 (ae4 j (by omega) W) ?_;rintro _ _ ⟨rfl,rfl⟩;have hp:0<256^j:=Nat.pow_pos (by omega);refine⟨by omega,by omega,gq λc w3 r3 e3 z3 f3=> ?_⟩;have e:IntKind.u8.wrap (Int.tmod (ο.wrap (Int.tdiv (z:Int) ((256^j:Nat):Int))) 256)=(((UInt8.ofNat (z / 256^j)).toNat:Nat):Int):=by
    rw[Int.tdiv_eq_ediv_of_nonneg (by omega),<- Int.natCast_ediv];have:z / 256^j<=z:=Nat.div_le_self _ _;generalize z / 256^j=q at this ⊢;rw[Α,Int.tmod_eq_emod_of_nonneg (by omega),IntKind.wrap_u8];simp
   rw[e] at r3;have hx3:iq w3 ⟨some ⟨c,0,none⟩,1,1⟩ [UInt8.ofNat (z / 256^j)]:= .iD (iq.row (l:=[UInt8.ofNat (z / 256^j)]) (by simpa [bytesV] using r3));refine jd (h1.ext f3) hx3 (by simp;omega) λs' w4 b4 f4 p4 _=> ?_;rw[Α];refine u _ _ ⟨i+1,by omega,by simp only;omega,?_,(h2.trans f3).new f4 λb hb h=>by have:=h3 b h;omega,λb hb=> ?_⟩ (by simp only;omega)
   ·rw[adL I,<- hj,<- List.append_assoc];exact b4
   ·have:=h2.size;have:=f3.size;rcases p4 b hb with h|h
    ·exact h3 b h
    ·omega
  ·have hx0:¬x>=0:=by omega
   simp only[hx0,decide_false,cond_false];have:i=m:=by omega
   subst this;rw[take_of_length_le (by rw[iG];omega)] at h1;exact⟨by simpa [jv,hf] using h1,h2,h3⟩
 ·simp only[hf,decide_false,Bool.not_false,cond_true];exact⟨by simpa [jv,hf] using b1,x1,y1⟩
end Go.Proofs.RN
end
