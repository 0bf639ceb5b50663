import Derived.Test.YtcmnjlhbgjhbcaaGreatDoorW11
import Derived.Test.YtcmnjlhbgjhbcaaGreatDoorG33
import Derived.Test.YtcmnjlhbgjhbcaaGreatDoorW3
import Derived.Test.YtcmnjlhbgjhbcaaGreatDoorW2
set_option maxRecDepth 100000
set_option maxHeartbeats 4000000
section
namespace Go.Proofs.AN
open Gp Gp.V4 Go.Proofs Go.Proofs.VN Go.Proofs.JN
open Gp.Bind (In64)
section
variable {w0 w w':World}
theorem rd3 {W:World} {a:Nat} {x0 x1 x2:Int} {K:Int->Int->Int->b_} (hr:Row W a [.int .i64 x0,.int .i64 x1,.int .i64 x2]) (hq:K x0 x1 x2 W):
  Ld (.int .i64) W (Addr.add ⟨a,0,none⟩ 0) λy0=>Ld (.int .i64) W (Addr.add ⟨a,0,none⟩ 1) λy1=>Ld (.int .i64) W (Addr.add ⟨a,0,none⟩ 2) λy2=>K y0 y1 y2 W:=
 fJ (k:= .int .i64) (i:=0) (x:=x0) hr rfl (fJ (k:= .int .i64) (i:=1) (x:=x1) hr rfl (fJ (k:= .int .i64) (i:=2) (x:=x2) hr rfl hq))
theorem aic (l:List UInt8) (q:Bool):In64 (V4.read l q).proto/\In64 (V4.read l q).src:=by
 unfold V4.read;split
 ·exact⟨aaX l 9 1 (by omega),aaX l 12 4 (by omega)⟩
 ·simp only[lS.zero];decide
theorem PI (s0:eY) (x0 x1 x2 x3 x4 x5 x6:Int) (x7 x8:Bool) (x9:eY) (j:Int) {d:eY} {m:List UInt8} (hd:iF w d m) (hm:m.length<=2^40) (i:Int):
  jd s0 x0 x1 x2 x3 x4 x5 x6 x7 x8 x9 d j i w λn w'=>In64 n/\Ext w w':=by
 apply Ik;refine fP λa w1 r1 e1 z1 f1=> ?_;refine lU (k:= .slice) (y:=d) (by rw[fM,fM,r1.cell];rfl) ?_;refine GH (WT (hd.ext f1) (by omega) i 2) ?_;rintro n e w2 ⟨hw,hg⟩;subst hw;exact⟨U5 hg (by omega),f1⟩
theorem af4 {s:eY} {l:List UInt8} (hs:iF w s l) (hl:l.length<=2^40) {K:eY->Int->Int->Int->Int->Int->Int->Int->Bool->Bool->eY->eY->Int->Int->b_}
  (hK:∀t i o l' p s' d' df mf op da hd e w' (m:List UInt8),Ext w w'->iF w' da m->m.length<=2^40->(e=0->8<=m.length)->In64 p->In64 s'->∀s0,K s0 t i o l' p s' d' df mf op da hd e w'):DX s w K:=by
 apply Ur;refine fP λa w1 r1 e1 z1 f1=> ?_;have z:∀(W:World) (e:Int),Ext w1 W->e≠0->iL (zU ⟨none,0,0⟩ 0 0 0 0 0 0 0 false false ⟨none,0,0⟩ ⟨none,0,0⟩ 0) W ⟨a,0,none⟩ 0 λI=>EP I ⟨a,0,none⟩ λy0 y1 y2 y3 y4 y5 y6 y7 y8 y9 U Y Z=>K y0 y1 y2 y3 y4 y5 y6 y7 y8 y9 U Y Z e I:=by
  intro W e hW he;refine fK (r1.ext hW) rfl rfl λw2 r2 f2' z2=> ?_;have f2:fV W w2 (·=a):=f2' _ rfl;refine aa9 r2 ?_;exact hK _ _ _ _ _ _ _ _ _ _ _ _ e w2 [] ((f1.trans hW).new f2 λy hy e=>by omega) iF.nil (by simp) (λh=>absurd h he) (by decide) (by decide) _
 refine KL (Vo (hs.ext f1) hl) ?_;rintro t i o l' p s' d' df mf op da e w2 ⟨_,hP,f2⟩;have aa:=R_ l true;have j:=aic l true;generalize V4.read l true=P at hP aa j;obtain⟨rfl,rfl,rfl,rfl,rfl,rfl,rfl,rfl,rfl,ab,J⟩:=hP;refine fP λb w3 r3 e3 z3 f3=> ?_;refine fK r3 rfl rfl λw4 r4 f4' z4=> ?_;have f4:fV w3 w4 (·=b):=f4' _ rfl;have u:Ext w2 w4:=f3.new f4 λy hy e=>by omega
 have g4:=f2.trans u;by_cases he:e=0;rotate_left
 ·have:(e !=0)=true:=by rw[bne_iff_ne];exact he
  rw[this,cond_true];exact z w4 e g4 he
 subst he;show cond false _ _;rw[cond_false];refine fJ (k:= .int .i64) (i:=2) (x:=P.off) r4 rfl ?_;by_cases c1:P.off>0
 ·rw[decide_eq_true c1,cond_true];exact z w4 4 g4 (by omega)
 rw[decide_eq_false c1,cond_false];refine fJ (k:= .slice) (i:=10) (x:=da) r4 rfl ?_;by_cases c2:(da.len:Int)<8
 ·rw[decide_eq_true c2,cond_true];exact z w4 3 g4 (by omega)
 rw[decide_eq_false c2,cond_false];have r4d:=r4.drew;refine qg r4d (qg r4d ?_);have hd4:=(J.ext u).ext (Ext.drew w4);have ho4:=(ab.ext u).ext (Ext.drew w4);refine Jk (XO _ _ _ _ _ _ _ _ _ _ _ (by have:=ho4.1;omega) _) ?_;rintro hd w5 ⟨_,f5⟩;have ac:=r4d.ext f5;refine rV ac ?_;have g5:=(g4.trans (Ext.drew w4)).trans f5;refine fK (r1.ext g5) rfl rfl λw6 r6 f6' z6=> ?_;have f6:fV w5 w6 (·=a):=f6' _ rfl;refine aa9 r6 ?_;have hd5:=hd4.ext f5;refine hK _ _ _ _ _ _ _ _ _ _ _ _ 0 w6 P.data ((f1.trans g5).new f6 λy hy e=>by omega) (hd5.fr f6 λad ha h0 e=>PO (r1.ext g5) (by simp) hd5 ha h0 e) (by omega) (λ_=>by have:=J.1;omega) j.1 j.2 _
theorem adO {s:eY} {l:List UInt8} (hs:iF w s l) (hl:l.length<=2^40) {K:Int->Int->Int->Int->Int->Int->Int->Bool->Bool->eY->eY->Int->Int->Int->Int->b_}
  (hK:∀t i o l' p s' d' df mf op da x y z e w',Ext w w'->In64 s'->In64 x->In64 y->K t i o l' p s' d' df mf op da x y z e w'):Ci s w K:=by
 apply RI;refine fP λa w1 r1 e1 z1 f1=> ?_;refine fP λb w2 r2 e2 z2 f2=> ?_;have x2:=f1.trans f2;have U:=r1.ext f2;have za:=f1.size;have fin:∀(W:World) (t i o l' p s' d':Int) (df mf:Bool) (op da:eY) (x y z e:Int),In64 s'->In64 x->In64 y->Ext w2 W->
   iL (fG t i o l' p s' d' df mf op da) W ⟨a,0,none⟩ 0 λac=>iL [.int .i64 x,.int .i64 y,.int .i64 z] ac ⟨b,0,none⟩ 0 λj=>gI j ⟨a,0,none⟩ λy0 y1 y2 y3 y4 y5 y6 y7 y8 y9 ae=>
    Ld (.int .i64) j (Addr.add ⟨b,0,none⟩ 0) λu0=>Ld (.int .i64) j (Addr.add ⟨b,0,none⟩ 1) λu1=>Ld (.int .i64) j (Addr.add ⟨b,0,none⟩ 2) λu2=>K y0 y1 y2 y3 y4 y5 y6 y7 y8 y9 ae u0 u1 u2 e j:=by
  intro W t i o l' p s' d' df mf op da x y z e i0 i1 i2 hW;refine fK (U.ext hW) rfl rfl λw3 r3 f3' z3=> ?_;have f3:fV W w3 (·=a):=f3' _ rfl;refine fK ((r2.ext hW).fr f3 (by omega)) rfl rfl λw4 r4 f4' z4=> ?_;have f4:fV w3 w4 (·=b):=f4' _ rfl;refine qg (r3.fr f4 (by omega)) ?_;refine rd3 (K:=λu0 u1 u2 W'=>K _ _ _ _ _ _ _ _ _ _ _ u0 u1 u2 e W') r4 ?_;exact hK _ _ _ _ _ _ _ _ _ _ _ _ _ _ e w4 (((x2.trans hW).new f3 λy hy e=>by omega).new f4 λy hy e=>by omega) i0 i1 i2
 refine af4 (hs.ext x2) hl λt i o l' p s' d' df mf op da hd e w3 m f3 af hm hm8 ip is s0=> ?_;refine fP λg w4 r4 e4 z4 f4=> ?_;refine fK r4 rfl rfl λw5 r5 f5' z5=> ?_;have f5:fV w4 w5 (·=g):=f5' _ rfl;have Z:Ext w3 w5:=f4.new f5 λy hy e=>by omega
 have g5:=f3.trans Z;by_cases he:e=0;rotate_left
 ·have:(e !=0)=true:=by rw[bne_iff_ne];exact he
  rw[this,cond_true];exact fin w5 0 0 0 0 0 0 0 false false ⟨none,0,0⟩ ⟨none,0,0⟩ 0 0 0 e (by decide) (by decide) (by decide) g5
 subst he;show cond false _ _;rw[cond_false];refine aa9 r5 ?_;have qp:∀{K2:Int->Int->Int->Int->b_},(∀x y z e W,Ext w5 W->In64 x->In64 y->K2 x y z e W)->qB s0 t i o l' p s' d' df mf op da hd w5 K2:=by
  intro K2 hK2;have hd5:=af.ext Z;apply EJ;refine fP λa' w6 r6 e6 z6 f6=> ?_;refine fP λb' w7 r7 e7 z7 f7=> ?_;have u:=r6.ext f7;have aa:=f6.trans f7;have zb:=f6.size;have fin2:∀(W:World) (x y z e:Int),In64 x->In64 y->Ext w7 W->iL [.int .i64 x,.int .i64 y,.int .i64 z] W ⟨b',0,none⟩ 0 λw8=>Ld (.int .i64) w8 (Addr.add ⟨b',0,none⟩ 0) λy0=>Ld (.int .i64) w8 (Addr.add ⟨b',0,none⟩ 1) λy1=>Ld (.int .i64) w8 (Addr.add ⟨b',0,none⟩ 2) λy2=>K2 y0 y1 y2 e w8:=by
   intro W x y z e i0 i1 hW;refine fK (r7.ext hW) rfl rfl λw8 r8 f8' z8=> ?_;have f8:fV W w8 (·=b'):=f8' _ rfl;refine rd3 (K:=λu0 u1 u2 W'=>K2 u0 u1 u2 e W') r8 ?_;exact hK2 _ _ _ _ _ ((aa.trans hW).new f8 λy hy e=>by omega) i0 i1
  intro J;have hJ:∀W,Ext w7 W->J W:=λW hW=>by
   simp only[J];exact fin2 W 0 0 0 8 (by decide) (by decide) hW
  clear_value J;have h7d:=hd5.ext aa;refine lU (k:= .int .i64) (y:=p) (by rw[fM,fM,u.cell];rfl) ?_;have r67d:=u.drew;intro J2;have hJ2t:J2 true:=by
   simp only[J2,cond_true];refine lU (k:= .int .i64) (y:=p) (by rw[fM,fM,r67d.cell];rfl) ?_;refine aa9 r67d (aa9 r67d ?_);refine nX (PI _ _ _ _ _ _ _ _ _ _ _ _ (h7d.ext (Ext.drew w7)) hm 0) ?_;rintro n1 w8 ⟨in1,f8⟩;have r8:=r67d.ext f8;refine rV r8 ⟨by rw[fM,fM,r8.cell];rfl,?_⟩;refine nX (PI _ _ _ _ _ _ _ _ _ _ _ _ ((h7d.ext (Ext.drew w7)).ext f8) hm 2) ?_;rintro n2 w9 ⟨in2,f9⟩;refine⟨by rw[fM,fM,(r8.ext f9).cell];rfl,?_⟩;exact fin2 w9 _ _ _ 0 ip in1 (((Ext.drew w7).trans f8).trans f9)
  have hJ2f:J2 false:=by
   simp only[J2,cond_false]
   cases (p==1)
   ·exact hJ w7 (Ext.refl _)
   rw[cond_true];refine lU (k:= .slice) (y:=da) (by rw[fM,fM,u.cell];rfl) ?_;have b0:=List.getElem?_eq_getElem (show 0<m.length by have:=hm8 rfl;omega);generalize m[0]=u0 at b0;refine six (i:=0) h7d b0 λa0 h0=> ?_;refine lU (k:= .int .u8) (y:=(u0.toNat:Int)) h0 ?_;refine Iw (Zw _ _) ?_;rintro qr w8 f8
   cases qr
   ·exact hJ w8 f8
   rw[cond_true];have r8:=(u.ext f8).drew;have h8:=(h7d.ext f8).ext (Ext.drew w8);refine aa9 r8 (aa9 r8 ?_);refine nX (PI _ _ _ _ _ _ _ _ _ _ _ _ h8 hm 4) ?_;rintro n1 w9 ⟨in1,f9⟩;refine rV (r8.ext f9) ?_;refine nX (PI _ _ _ _ _ _ _ _ _ _ _ _ (h8.ext f9) hm 4) ?_;rintro n2 I ⟨in2,f10⟩;exact fin2 I _ _ _ 0 (by decide) in1 (((f8.trans (Ext.drew w8)).trans f9).trans f10)
  clear_value J2;have hJ2:∀q,J2 q:=λq=>by cases q;exact hJ2f;exact hJ2t
  cases (p==6)
  ·exact hJ2 _
  ·exact hJ2 _
 refine qp λx y z e2 w6 f6 ix iy=> ?_;have g6:=g5.trans f6;have ag:=r5.ext f6;refine fP λk w7 r7 e7 z7 f7=> ?_;refine fK r7 rfl rfl λw8 r8 f8' z8=> ?_;have f8:fV w7 w8 (·=k):=f8' _ rfl;have ab:Ext w6 w8:=f7.new f8 λy hy e=>by omega
 have g8:=g6.trans ab
 cases (e2 !=0)
 rotate_left
 ·exact fin w8 0 0 0 0 0 0 0 false false ⟨none,0,0⟩ ⟨none,0,0⟩ 0 0 0 e2 (by decide) (by decide) (by decide) g8
 rw[cond_false];have ah:=(ag.ext ab).drew;have r8d:=r8.drew;have g8d:=g8.trans (Ext.drew w8);have rdw:∀{Q:Int->Int->Int->Int->Int->Int->Int->Bool->Bool->eY->eY->Prop},Q t i o l' p s' d' df mf op da->gI w8.drew (Addr.add ⟨g,0,none⟩ 1) Q:=by
  intro Q hQ;rw[fM];simp only[sx,ah.cell];exact hQ
 refine rdw ?_;refine fJ (k:= .int .i64) (i:=0) (x:=x) r8d rfl (fJ (k:= .int .i64) (i:=1) (x:=y) r8d rfl (fJ (k:= .int .i64) (i:=2) (x:=z) r8d rfl ?_));have ha2:a<w2.heap.size:=U.lt;have hb2:b<w2.heap.size:=r2.lt;have z8:=(g6.trans (Ext.refl _)).size;refine fK (U.ext g8d) rfl rfl λw9 r9 f9' z9=> ?_;have f9:fV w8.drew w9 (·=a):=f9' _ rfl;have r8e:=r8d.fr f9 (by omega);refine⟨by rw[fM,r8e.cell];rfl,by rw[fM,r8e.cell];rfl,by rw[fM,r8e.cell];rfl,?_⟩;refine fK ((r2.ext g8d).fr f9 (by omega)) rfl rfl λI ai Y z10=> ?_;have f10:fV w9 I (·=b):=Y _ rfl;refine qg (r9.fr f10 (by omega)) ?_;refine rd3 (K:=λu0 u1 u2 W'=>K _ _ _ _ _ _ _ _ _ _ _ u0 u1 u2 0 W') ai ?_;exact hK _ _ _ _ _ _ _ _ _ _ _ _ _ _ 0 I (((x2.trans g8d).new f9 λy hy e=>by omega).new f10 λy hy e=>by omega) is ix iy
end
end Go.Proofs.AN
end
section
namespace Go.Proofs
open Gp
def DW (c d:Int) (e:Bool) (b:eY) (w:World) (K:Int->Int->Int->b_):Prop:=
 fA Tryz.prog 406 [(.agg ⟨[.int .i64 c,.int .i64 d,.bool e,.slice b.a b.len b.cap]⟩)] [.agg [(.int .i64),(.int .i64),(.int .i64)]] w K
def ED (a b c d e f g h:Int) (i j:eY) (w:World) (K:Int->Int->Int->b_):Prop:=
 fA Tryz.prog 413 [.agg ⟨xG a b c d e f g h i j⟩] [.agg [(.int .i64),(.int .i64),(.int .i64)]] w K
def Ho (c d e:Int) (b:eY) (w:World) (K:Int->Int->Int->b_):Prop:=
 fA Tryz.prog 416 [(.agg ⟨[.int .i64 c,.int .i64 d,.int .i64 e,.slice b.a b.len b.cap]⟩)] [.agg [(.int .i64),(.int .i64),(.int .i64)]] w K
def UL (c d e:Int) (b:eY) (w:World) (K:Int->b_):Prop:=
 fA Tryz.prog 418 [(.agg ⟨[.int .i64 c,.int .i64 d,.int .i64 e,.slice b.a b.len b.cap]⟩)] [.one (.int .i64)] w K
theorem Dx {f g h b w K}:fU (DW f g h b w K)
 (Al w (.cells ⟨[.int .i64 f,.int .i64 g,.bool h,.slice b.a b.len b.cap]⟩ 455) λi j=>Al j (.cells ⟨[.int .i64 0,.int .i64 0,.int .i64 0]⟩ 258) λc e=>eF e i λk=>eF e (i.add 1) λl=>iL [.int .i64 17,.int .i64 k,.int .i64 l] e c 0 λd=>eF d (c.add 0) λm=>eF d (c.add 1) λn=>eF d (c.add 2) λo=>K m n o d):=okF iE Tryz.func406 .leaf (by kernel_rfl)
theorem Ei {d e f g h i j k l m w K}:fU (ED d e f g h i j k l m w K)
 (Al w (.cells ⟨(xG d e f g h i j k l m)⟩ 457) λn o=>Al o (.cells ⟨[.int .i64 0,.int .i64 0,.int .i64 0]⟩ 258) λa c=>eF c n λp=>eF c (n.add 1) λq=>iL [.int .i64 6,.int .i64 p,.int .i64 q] c a 0 λb=>eF b (a.add 0) λr=>eF b (a.add 1) λs=>eF b (a.add 2) λt=>K r s t b):=okF iE Tryz.func413 .leaf (by kernel_rfl)
theorem F8 {g h i c w K}:fU (Ho g h i c w K)
 (Al w (.cells ⟨[.int .i64 g,.int .i64 h,.int .i64 i,.slice c.a c.len c.cap]⟩ 459) λd k=>Al k (.cells ⟨[.int .i64 0,.int .i64 0,.int .i64 0]⟩ 258) λe b=>eF b (d.add 0) λl=>eF b (d.add 1) λm=>eF b (d.add 2) λn=>Ld .slice b (d.add 3) λo=>UL l m n o b λj p=>iL [.int .i64 1,.int .i64 j,.int .i64 j] p e 0 λf=>eF f (e.add 0) λq=>eF f (e.add 1) λr=>eF f (e.add 2) λs=>K q r s f):=okF iE Tryz.func416 .leaf (by kernel_rfl)
theorem aaZ {c d e b w K}:fU (UL c d e b w K)
 (Al w (.cells ⟨[.int .i64 c,.int .i64 d,.int .i64 e,.slice b.a b.len b.cap]⟩ 168) λg f=>eF f (g.add 2) λh=>0<=(16:Int)/\
 K (wH .i64 (jy .i64 h 16) 65535) f):=okF iE Tryz.func418 .leaf (by kernel_rfl)
end Go.Proofs
end
section
namespace Go.Proofs.AN
open Gp Gp.V4 Go.Proofs Go.Proofs.VN Go.Proofs.JN
open Gp.Bind (In64)
section
variable {w0 w w':World}
abbrev shP:List Shape:=[.agg [(.int .i64),(.int .i64),(.int .i64)]]
theorem ahA (v:Value) (w:World) (K:Int->Int->Int->b_):aec Tryz.prog (.iface 455 v) "goosepond/ports.ports" [] shP w K=fA Tryz.prog 406 [v] shP w K:=by kernel_rfl
theorem ahD (v:Value) (w:World) (K:Int->Int->Int->b_):aec Tryz.prog (.iface 457 v) "goosepond/ports.ports" [] shP w K=fA Tryz.prog 413 [v] shP w K:=by kernel_rfl
theorem ahB (v:Value) (w:World) (K:Int->Int->Int->b_):aec Tryz.prog (.iface 459 v) "goosepond/ports.ports" [] shP w K=fA Tryz.prog 416 [v] shP w K:=by kernel_rfl
def Pay (v:Value):Prop:=∀(w:World) (K:Int->Int->Int->b_),(∀x y z w',Ext w w'->In64 x->In64 z->K x y z w')->aec Tryz.prog v "goosepond/ports.ports" [] shP w K
theorem ah8 (a0 a1:Int) (a2:Bool) (a3:eY) (i1:In64 a1):Pay (.iface 455 (.agg ⟨[.int .i64 a0,.int .i64 a1,.bool a2,.slice a3.a a3.len a3.cap]⟩)):=by
 intro w K hK;rw[ahA];apply Dx;refine fP λa w1 r1 e1 z1 f1=> ?_;refine fP λb w2 r2 e2 z2 f2=> ?_;have j:=r1.ext f2;have za:=f1.size;have zb:=f2.size;refine fJ (k:= .int .i64) (i:=0) (x:=a0) j rfl (fJ (k:= .int .i64) (i:=1) (x:=a1) j rfl ?_);refine fK r2 rfl rfl λw3 r3 f3' z3=> ?_;have f3:fV w2 w3 (·=b):=f3' _ rfl;exact rd3 (K:=K) r3 (hK _ _ _ w3 ((f1.trans f2).new f3 λy hy e=>by omega) (by decide) i1)
theorem ah_ (a0 a1 a2 a3 a4 a5 a6 a7:Int) (a8 a9:eY) (i1:In64 a1):Pay (.iface 457 (.agg ⟨xG a0 a1 a2 a3 a4 a5 a6 a7 a8 a9⟩)):=by
 intro w K hK;rw[ahD];apply Ei;refine fP λa w1 r1 e1 z1 f1=> ?_;refine fP λb w2 r2 e2 z2 f2=> ?_;have j:=r1.ext f2;have za:=f1.size;have zb:=f2.size;refine fJ (k:= .int .i64) (i:=0) (x:=a0) j rfl (fJ (k:= .int .i64) (i:=1) (x:=a1) j rfl ?_);refine fK r2 rfl rfl λw3 r3 f3' z3=> ?_;have f3:fV w2 w3 (·=b):=f3' _ rfl;exact rd3 (K:=K) r3 (hK _ _ _ w3 ((f1.trans f2).new f3 λy hy e=>by omega) (by decide) i1)
theorem ah9 (a0 a1 a2:Int) (a3:eY):Pay (.iface 459 (.agg ⟨[.int .i64 a0,.int .i64 a1,.int .i64 a2,.slice a3.a a3.len a3.cap]⟩)):=by
 intro w K hK;rw[ahB];apply F8;refine fP λa w1 r1 e1 z1 f1=> ?_;refine fP λb w2 r2 e2 z2 f2=> ?_;have j:=r1.ext f2;have za:=f1.size;have zb:=f2.size;refine rd4 (K:=λx6 x7 x8 x9 W=>_) j ?_;apply aaZ;refine fP λc w3 r3 e3 z3 f3=> ?_;have zc:=f3.size;refine fJ (k:= .int .i64) (i:=2) (x:=a2) r3 rfl ⟨by omega,?_⟩;refine fK (r2.ext f3) rfl rfl λw4 r4 f4' z4=> ?_;have f4:fV w3 w4 (·=b):=f4' _ rfl;exact rd3 (K:=K) r4 (hK _ _ _ w4 (((f1.trans f2).trans f3).new f4 λy hy e=>by omega) (by decide) (by unfold wH;exact wrap_in _))
theorem aa8 (p:lS) {o d:eY} (ho:iF w o p.opts) (hd:iF w d p.data) (h1:p.opts.length<=2^40) (h2:p.data.length<=2^40) {K:Value->Int->b_}
  (hK:∀v e w',Ext w w'->(e=0->Pay v)->K v e w'):
  Ag p.tos p.id p.off p.ttl p.proto p.src p.dst p.df p.mf o d w K:=by
 apply Pg;refine fP λa w1 r1 e1 z1 f1=> ?_;refine qg r1 ?_;refine uH (yj p (ho.ext f1).1 (hd.ext f1).1 (by omega) (by omega)) ?_;rintro ce w2 ⟨_,f2⟩;have x2:=f1.trans f2;by_cases hc:ce=0;rotate_left
 ·have:(ce !=0)=true:=by rw[bne_iff_ne];exact hc
  rw[this,cond_true];exact hK _ ce w2 x2 λh=>absurd h hc
 subst hc;show cond false _ _;rw[cond_false];have z:=r1.ext f2;refine qg z ?_;refine Fh (NM _ _ _ _ _ _ _ _ _ _ _ _) ?_;rintro wh w3 f3;have x3:=x2.trans f3;have j:=z.ext f3
 cases wh
 ·exact hK _ 4 w3 x3 λh=>by cases h
 rw[Bool.not_true,cond_false];have hd3:=hd.ext x3;refine fJ (k:= .int .i64) (i:=4) (x:=p.proto) j rfl ?_
 cases (p.proto==17)
 rotate_left
 ·rw[cond_true];refine fJ (k:= .int .i64) (i:=5) (x:=p.src) j rfl (fJ (k:= .int .i64) (i:=6) (x:=p.dst) j rfl (fJ (k:= .slice) (i:=10) (x:=d) j rfl ?_));refine abp _ _ hd3 h2 λu0 u1 u2 u3 e w4 f4 _ j1=> ?_;refine fP λb w5 r5 e5 z5 f5=> ?_;refine fK r5 rfl rfl λw6 r6 f6' z6=> ?_;have f6:fV w5 w6 (·=b):=f6' _ rfl;have x6:Ext w4 w6:=f5.new f6 λy hy e=>by omega
  refine fJ (k:= .int .i64) (i:=0) (x:=u0) r6 rfl (fJ (k:= .int .i64) (i:=1) (x:=u1) r6 rfl (fJ (k:= .bool) (i:=2) (x:=u2) r6 rfl (fJ (k:= .slice) (i:=3) (x:=u3) r6 rfl ?_)));exact hK _ e w6 ((x3.trans f4).trans x6) λ_=>ah8 _ _ _ _ j1
 rw[cond_false]
 cases (p.proto==6)
 rotate_left
 ·rw[cond_true];refine fJ (k:= .int .i64) (i:=5) (x:=p.src) j rfl (fJ (k:= .int .i64) (i:=6) (x:=p.dst) j rfl (fJ (k:= .slice) (i:=10) (x:=d) j rfl ?_));refine abo _ _ hd3 h2 λu0 u1 u2 u3 u4 u5 u6 u7 u8 u9 e w4 f4 _ j1=> ?_;refine fP λb w5 r5 e5 z5 f5=> ?_;refine fK r5 rfl rfl λw6 r6 f6' z6=> ?_;have f6:fV w5 w6 (·=b):=f6' _ rfl;have x6:Ext w4 w6:=f5.new f6 λy hy e=>by omega
  refine alu r6 ?_;exact hK _ e w6 ((x3.trans f4).trans x6) λ_=>ah_ _ _ _ _ _ _ _ _ _ _ j1
 rw[cond_false]
 cases (p.proto==1)
 ·exact hK _ 8 w3 x3 λh=>by cases h
 rw[cond_true];refine fJ (k:= .slice) (i:=10) (x:=d) j rfl ?_;refine QV hd3 h2 λu0 u1 u2 u3 e w4 m f4 _ _=> ?_;refine fP λb w5 r5 e5 z5 f5=> ?_;refine fK r5 rfl rfl λw6 r6 f6' z6=> ?_;have f6:fV w5 w6 (·=b):=f6' _ rfl;have x6:Ext w4 w6:=f5.new f6 λy hy e=>by omega
 have g6:=(x3.trans f4).trans x6;intro J;have hJ:∀e W,Ext w6 W->J e W:=λe W hW=>by
  simp only[J];refine rd4 (K:=λI U Y u W'=>K (Value.iface 459 (Value.agg ⟨[.int .i64 I,.int .i64 U,.int .i64 Y,.slice u.a u.len u.cap]⟩)) e W') (r6.ext hW) ?_;exact hK _ e W (g6.trans hW) λ_=>ah9 _ _ _ _
 clear_value J;intro J2;have hJ2:∀q W,Ext w6 W->J2 q W:=λq W hW=>by
  simp only[J2]
  cases q
  ·exact hJ _ W hW
  ·exact hJ _ W hW
 clear_value J2
 cases (e==0)
 ·exact hJ2 _ _ (Ext.refl _)
 ·rw[cond_true];refine fJ (k:= .int .i64) (i:=0) (x:=u0) r6 rfl ?_;refine Iw (Zw _ _) ?_;rintro qr w7 f7;exact hJ2 _ _ f7
theorem als (p:lS) {o d:eY} (ho:iF w o p.opts) (hd:iF w d p.data) (h1:p.opts.length<=2^40) (h2:p.data.length<=2^40):
  Ae p.tos p.id p.off p.ttl p.proto p.src p.dst p.df p.mf o d w λx _ z _ w'=>(In64 x/\In64 z)/\Ext w w':=by
 apply Zh;refine fP λa w1 r1 e1 z1 f1=> ?_;refine fP λb w2 r2 e2 z2 f2=> ?_;have x2:=f1.trans f2;have za:=f1.size;have zb:=f2.size;refine qg (r1.ext f2) ?_;refine aa8 p (ho.ext x2) (hd.ext x2) h1 h2 λv e w3 f3 hp=> ?_;have x3:=x2.trans f3;by_cases he:e=0;rotate_left
 ·have:(e !=0)=true:=by rw[bne_iff_ne];exact he
  rw[this,cond_true];refine fK (r2.ext f3) rfl rfl λw4 r4 f4' z4=> ?_;have f4:fV w3 w4 (·=b):=f4' _ rfl;exact rd3 (K:=λx _ z W=>(In64 x/\In64 z)/\Ext w W) r4 ⟨by decide,x3.new f4 λy hy e=>by omega⟩
 subst he;show cond false _ _;rw[cond_false];refine hp rfl w3 _ λx y z w4 f4 ix iz=> ?_;refine fK ((r2.ext f3).ext f4) rfl rfl λw5 r5 f5' z5=> ?_;have f5:fV w4 w5 (·=b):=f5' _ rfl;exact rd3 (K:=λx _ z W=>(In64 x/\In64 z)/\Ext w W) r5 ⟨⟨ix,iz⟩,(x3.trans f4).new f5 λy hy e=>by omega⟩
end
end Go.Proofs.AN
end
section
namespace Go.Proofs.AN
open Gp Gp.V4 Go.Proofs Go.Proofs.VN Go.Proofs.JN
open Gp.Bind (In64)
section
variable {w0 w w':World}
theorem adG (p:lS) {o d:eY} (ho:iF w o p.opts) (hd:iF w d p.data) (h1:p.opts.length<=2^40) (h2:p.data.length<=2^40):
  vw p.tos p.id p.off p.ttl p.proto p.src p.dst p.df p.mf o d w λr w'=>(r=true->p.check=0)/\Ext w w':=by
 apply Uo;refine fP λa w1 r1 e1 z1 f1=> ?_;intro J;refine qg r1 ?_;refine uH (yj p (ho.ext f1).1 (hd.ext f1).1 (by omega) (by omega)) ?_;rintro ce w2 ⟨j,f2⟩;by_cases hc:ce=0;rotate_left
 ·have:(ce==0)=false:=by simpa using hc
  rw[this,cond_false];exact⟨λh=>by simp[J] at h,f1.trans f2⟩
 ·subst hc;show cond true _ _;rw[cond_true];refine qg (r1.ext f2) ?_;refine Fh (NM _ _ _ _ _ _ _ _ _ _ _ _) ?_;rintro wh w3 f3;exact⟨λ_=>j.symm,(f1.trans f2).trans f3⟩
theorem ah2 (e:Int) (w:World):Ac e w λr w'=>r≠0/\w'=w:=by
 apply Zf
 cases (e==8)<;>exact⟨by decide,rfl⟩
theorem adD (p:lS) {o d:eY} (hd:iF w d p.data) (h2:p.data.length<=2^40) {K:Int->Int->Int->eY->Bool->b_}
  (hK:∀k c r d' is w' (m:List UInt8),Ext w w'->iF w' d' m->m.length<=2^40->K k c r d' is w'):
  DV p.tos p.id p.off p.ttl p.proto p.src p.dst p.df p.mf o d w K:=by
 apply Un;refine fP λa w1 r1 e1 z1 f1=> ?_;refine fP λb w2 r2 e2 z2 f2=> ?_;have j:=r1.ext f2;have x2:=f1.trans f2;have za:=f1.size;have zb:=f2.size;refine fJ (k:= .int .i64) (i:=4) (x:=p.proto) j rfl ?_
 cases (p.proto !=1)
 rotate_left
 ·rw[cond_true];refine fK r2 rfl rfl λw3 r3 f3' z3=> ?_;have f3:fV w2 w3 (·=b):=f3' _ rfl;refine rd4 (x3:=⟨none,0,0⟩) (K:=λy0 y1 y2 y3 W=>K y0 y1 y2 y3 false W) r3 ?_;exact hK _ _ _ _ _ w3 [] (x2.new f3 λy hy e=>by omega) iF.nil (by simp)
 rw[cond_false];refine fJ (k:= .slice) (i:=10) (x:=d) j rfl ?_;refine QV (hd.ext x2) h2 λu0 u1 u2 u3 e w3 m f3 hm I=> ?_;refine fP λg w4 r4 e4 z4 f4=> ?_;refine fK r4 rfl rfl λw5 r5 f5' z5=> ?_;have f5:fV w4 w5 (·=g):=f5' _ rfl;have u:Ext w3 w5:=f4.new f5 λy hy e=>by omega
 have g5:=f3.trans u;have hm5:=hm.ext u;intro J;have fin:∀(q:Bool) W,Ext w5 W->iL [.int .i64 u0,.int .i64 u1,.int .i64 u2,.slice u3.a u3.len u3.cap] W ⟨b,0,none⟩ 0 λU=>J q U:=by
  intro q W hW;refine fK ((r2.ext g5).ext hW) rfl rfl λw6 r6 f6' z6=> ?_;have f6:fV W w6 (·=b):=f6' _ rfl;simp only[J];refine rd4 (K:=λy0 y1 y2 y3 W=>K y0 y1 y2 y3 q W) r6 ?_;have z:=hm5.ext hW;exact hK _ _ _ _ _ w6 m (((x2.trans g5).trans hW).new f6 λy hy e=>by omega) (z.fr f6 λad ha h0 e=>PO ((r2.ext g5).ext hW) (by simp) z ha h0 e) I
 clear_value J;have r5d:=r5.drew;have c0:∀{W:World},Ext w5 W->W.cell? (Addr.add ⟨g,0,none⟩ 0)=some (.int .i64 u0)/\W.cell? (Addr.add ⟨g,0,none⟩ 1)=some (.int .i64 u1)/\W.cell? (Addr.add ⟨g,0,none⟩ 2)=some (.int .i64 u2)/\W.cell? (Addr.add ⟨g,0,none⟩ 3)=some (.slice u3.a u3.len u3.cap):=
  λhW=>⟨by rw[fM,(r5.ext hW).cell];rfl,by rw[fM,(r5.ext hW).cell];rfl,by rw[fM,(r5.ext hW).cell];rfl,by rw[fM,(r5.ext hW).cell];rfl⟩
 refine rd4 (K:=λx29 x30 x31 x32 W=>_) r5d ?_
 cases (e==0)
 ·rw[cond_false];obtain⟨q0,q1,q2,q3⟩:=c0 (Ext.drew w5);exact⟨q0,q1,q2,q3,fin false _ (Ext.drew w5)⟩
 ·rw[cond_true];refine fJ (k:= .int .i64) (i:=0) (x:=u0) r5d rfl ?_;refine Iu (ac9 _ _) ?_;rintro fr w6 f6;obtain⟨q0,q1,q2,q3⟩:=c0 ((Ext.drew w5).trans f6);exact⟨q0,q1,q2,q3,fin fr _ ((Ext.drew w5).trans f6)⟩
variable {a:EN.EA} {c:EN.Cf} {n nb ns:Nat}
theorem UH (hE:EN.P5 w a c (EN.e0 n nb ns)) {x y z:Int} (hx:In64 x) (hy:In64 y) (hz:In64 z):lC (some ⟨a.B.d,0,none⟩) x y z w λ_ t w'=>t=false/\Ext w w':=by
 refine yJ (aeM hE.db x y z (by simp;exact⟨hx,hy,hz⟩)) ?_;rintro m t w1 ⟨ht,_,hf⟩;exact⟨ht,hf⟩
theorem ahY (hE:EN.P5 w a c (EN.e0 n nb ns)) (p:lS) {o d:eY} (k1 k2 k3:Int) {d':eY} {m:List UInt8} (hd':iF w d' m) (hm:m.length<=2^40) {K:Int->Int->Int->Int->Int->Int->Int->Int->Bool->Bool->eY->eY->Int->b_}
  (hK:∀i t j o' l p' s d2 df mf op da why w',Ext w w'->why≠0->K i t j o' l p' s d2 df mf op da why w'):
  pI (some ⟨a.x,0,none⟩) p.tos p.id p.off p.ttl p.proto p.src p.dst p.df p.mf o d k1 k2 k3 d' w K:=by
 apply Eh;refine fP λg1 w1 r1 e1 z1 f1=> ?_;refine fP λg2 w2 r2 e2 z2 f2=> ?_;refine fP λg3 w3 r3 e3 z3 f3=> ?_;have x3:=(f1.trans f2).trans f3;have za:=f1.size;have zb:=f2.size;have zc:=f3.size;have fin:∀(W:World) (why:Int),Ext w3 W->why≠0->iL (fG 0 0 0 0 0 0 0 false false ⟨none,0,0⟩ ⟨none,0,0⟩) W ⟨g3,0,none⟩ 0 λu=>gI u ⟨g3,0,none⟩ λy0 y1 y2 y3 y4 y5 y6 y7 y8 y9 I=>K 0 y0 y1 y2 y3 y4 y5 y6 y7 y8 y9 I why u:=by
  intro W why hW hw;refine fK (r3.ext hW) rfl rfl λw4 r4 f4' z4=> ?_;have f4:fV W w4 (·=g3):=f4' _ rfl;refine qg r4 ?_;exact hK _ _ _ _ _ _ _ _ _ _ _ _ why w4 ((x3.trans hW).new f4 λy hy e=>by omega) hw
 refine fJ (k:= .slice) (i:=3) (x:=d') (r2.ext f3) rfl ?_;refine adO (hd'.ext x3) hm λt i o' l' p' s' dd df mf op da x y z e w4 f4 is ix iy=> ?_;refine fP λb1 w5 r5 e5 z5 f5=> ?_;refine fP λb2 w6 r6 e6 z6 f6=> ?_;refine fK (r5.ext f6) rfl rfl λw7 r7 f7' z7=> ?_;have f7:fV w6 w7 (·=b1):=f7' _ rfl;have zd:=f5.size;have ze:=f6.size;refine fK (r6.fr f7 (by omega)) rfl rfl λw8 r8 f8' z8=> ?_;have f8:fV w7 w8 (·=b2):=f8' _ rfl;have x8:Ext w3 w8:=((f4.trans (f5.trans f6)).new f7 λy hy e=>by have:=f4.size;omega).new f8 λy hy e=>by have:=f4.size;omega
 cases (e !=0)
 rotate_left
 ·exact fin w8 1 x8 (by omega)
 rw[cond_false];have hE8:=(hE.ext (x3.trans x8)).ext (Ext.drew w8);refine jc.2 (lU (k:= .ptr) (y:=some ⟨a.B.d,0,none⟩) (by rw[fM];exact hE8.c2) ?_);refine fJ (k:= .int .i64) (i:=0) (x:=x) r8.drew rfl (fJ (k:= .int .i64) (i:=5) (x:=s') (r7.fr f8 (by omega)).drew rfl (fJ (k:= .int .i64) (i:=1) (x:=y) r8.drew rfl ?_));refine yJ (UH hE8 ix is iy) ?_;rintro _ t9 w9 ⟨rfl,f9⟩;rw[Bool.not_false,cond_true];exact fin w9 9 ((x8.trans (Ext.drew w8)).trans f9) (by omega)
theorem afR (hE:EN.P5 w a c (EN.e0 n nb ns)) (p:lS) {o d:eY} (ho:iF w o p.opts) (hd:iF w d p.data) (h1:p.opts.length<=2^40) (h2:p.data.length<=2^40) {K:Int->Int->Int->Int->Int->Int->Int->Int->Bool->Bool->eY->eY->Int->b_}
  (hK:∀i t j o' l p' s d2 df mf op da why w',Ext w w'->why≠0->K i t j o' l p' s d2 df mf op da why w'):
  qO (some ⟨a.x,0,none⟩) p.tos p.id p.off p.ttl p.proto p.src p.dst p.df p.mf o d w K:=by
 apply LQ;refine fP λg1 w1 r1 e1 z1 f1=> ?_;refine fP λg2 w2 r2 e2 z2 f2=> ?_;have x2:=f1.trans f2;have za:=f1.size;have zb:=f2.size;have fin:∀(W:World) (why:Int),Ext w2 W->why≠0->iL (fG 0 0 0 0 0 0 0 false false ⟨none,0,0⟩ ⟨none,0,0⟩) W ⟨g2,0,none⟩ 0 λu=>gI u ⟨g2,0,none⟩ λy0 y1 y2 y3 y4 y5 y6 y7 y8 y9 Y=>K 0 y0 y1 y2 y3 y4 y5 y6 y7 y8 y9 Y why u:=by
  intro W why hW hw;refine fK (r2.ext hW) rfl rfl λw4 r4 f4' z4=> ?_;have f4:fV W w4 (·=g2):=f4' _ rfl;refine qg r4 ?_;exact hK _ _ _ _ _ _ _ _ _ _ _ _ why w4 ((x2.trans hW).new f4 λy hy e=>by omega) hw
 intro J;have Z:∀W,Ext w2 W->J true W:=λW hW=>by
  simp only[J,cond_true];exact fin W 1 hW (by omega)
 have aa:∀W,Ext w2 W->p.check=0->J false W:=λW hW hc=>by
  simp -zeta only[J,cond_false];have r1W:=(r1.ext f2).ext hW;have xW:=x2.trans hW;refine qg r1W ?_;refine adD p (hd.ext xW) h2 λk1 k2 k3 d' is w3 m f3 hd' hm=> ?_;refine fP λb1 w4 r4 e4 z4 f4=> ?_;refine fK r4 rfl rfl λw5 r5 f5' z5=> ?_;have f5:fV w4 w5 (·=b1):=f5' _ rfl;have I:Ext w3 w5:=f4.new f5 λy hy e=>by omega
  have g5:=f3.trans I;have U:=r1W.ext g5;have hE5:=hE.ext (xW.trans g5)
  cases is
  rotate_left
  ·rw[cond_true];refine qg U ?_;refine rd4 (K:=λx53 x54 x55 x56 W=>_) r5 ?_;refine ahY hE5 p k1 k2 k3 (hd'.ext I) hm λi t j o' l p' s d2 df mf op da why w6 f6 hw=> ?_;refine fK ((r2.ext hW).ext (g5.trans f6)) rfl rfl λw7 r7 f7' z7=> ?_;have f7:fV w6 w7 (·=g2):=f7' _ rfl;refine qg r7 ?_;exact hK _ _ _ _ _ _ _ _ _ _ _ _ why w7 (((xW.trans g5).trans f6).new f7 λy hy e=>by omega) hw
  rw[cond_false];refine qg U ?_;refine Yo (als p (ho.ext (xW.trans g5)) (hd.ext (xW.trans g5)) h1 h2) ?_;rintro x y z e w6 ⟨⟨ix,iz⟩,f6⟩;refine fP λb2 w7 r7 e7 z7 f7=> ?_;refine fK r7 rfl rfl λw8 r8 f8' z8=> ?_;have f8:fV w7 w8 (·=b2):=f8' _ rfl;have ab:Ext w6 w8:=f7.new f8 λy hy e=>by omega
  have g8:=(g5.trans f6).trans ab
  cases (e !=0)
  rotate_left
  ·rw[cond_true];refine Ym (ah2 e w8) ?_;rintro r w9 ⟨hr,hw9⟩;subst hw9;exact fin w9 r (hW.trans g8) hr
  rw[cond_false];have hE8:=(hE.ext (xW.trans g8)).ext (Ext.drew w8);refine jc.2 (lU (k:= .ptr) (y:=some ⟨a.B.d,0,none⟩) (by rw[fM];exact hE8.c2) ?_);refine fJ (k:= .int .i64) (i:=0) (x:=x) r8.drew rfl (fJ (k:= .int .i64) (i:=6) (x:=p.dst) (r1W.ext g8).drew rfl (fJ (k:= .int .i64) (i:=2) (x:=z) r8.drew rfl ?_));have idst:In64 p.dst:=by
   have:=(Am hc).1.2.1.2;unfold pR at this;unfold In64;omega
  refine yJ (UH hE8 ix idst iz) ?_;rintro _ t9 w9 ⟨rfl,f9⟩;rw[Bool.not_false,cond_true];exact fin w9 9 (hW.trans ((g8.trans (Ext.drew w8)).trans f9)) (by omega)
 clear_value J;have hE2:=hE.ext x2;refine qE (EN.MX hE2) ?_;rintro _ w3 ⟨rfl,hw3⟩;subst hw3;rw[Bool.not_true,cond_false];refine qg (r1.ext f2) ?_;refine TT (adG p (ho.ext x2) (hd.ext x2) h1 h2) ?_;rintro r w4 ⟨hr,f4⟩
 cases r
 ·exact Z w4 f4
 ·exact aa w4 f4 (hr rfl)
end
end Go.Proofs.AN
end
section
namespace Go.Proofs.AN
open Gp Gp.V4 Go.Proofs Go.Proofs.VN Go.Proofs.JN
open Gp.Bind (In64)
section
variable {w0 w w':World} {A:AA} {c:EN.Cf} {q:Int×Int×Int} {O4 O6:Nat->Prop} {N:Nat}
theorem Af.ksn (h:Af w0 w A c q O4 O6 N):A.ks<w.heap.size:=h.lt 3 _ rfl
theorem aaD (h:Af w0 w A c q O4 O6 N) (p:lS) {o d:eY} (ho:iF w o p.opts) (hd:iF w d p.data) (h1:p.opts.length<=2^36) (h2:p.data.length<=2^36) {K:eY->Int->b_}
  (hK:∀s why w',Z_ w.heap.size w' s->(s.len≠0->why=3)->fV w w' (·=A.ks)->Af w0 w' A c q O4 O6 N->K s why w'):
  rG (some ⟨A.x,0,none⟩) p.tos p.id p.off p.ttl p.proto p.src p.dst p.df p.mf o d false w K:=by
 apply FP;refine fP λa w1 r1 e1 z1 f1=> ?_;refine qg r1 ?_;refine ak2 p (ho.ext f1) (hd.ext f1) (by omega) (by omega) λt i o' l' pr s d' df mf op da ok w2 P f2 hP hp1 hp2=> ?_;refine fP λb w3 r3 e3 z3 f3=> ?_;refine fK r3 rfl rfl λw4 r4 f4' z4=> ?_;have f4:fV w3 w4 (·=b):=f4' _ rfl;have u:Ext w2 w4:=f3.new f4 λy hy e=>by omega
 have g4:=(f1.trans f2).trans u;have z:=(r1.ext f2).ext u;have h4:=h.ext g4;have hks:=h.ksn
 cases ok
 ·rw[Bool.not_false,cond_true];refine qg z ?_;refine VZ (ah6 p (ho.ext g4) (hd.ext g4) h1 h2) ?_;rintro ws w5 ⟨hw,f5⟩;refine EZ (aas (h4.ext f5) 3 ws) ?_;rintro s9 _ w6 ⟨hs9,rfl,f6,h6⟩;subst hs9;have zz:=g4.size;have hw6:Z_ w.heap.size w6 s9:=by
   rcases hw with e|⟨e,b,x,q1,q2,q3⟩
   ·exact .inl e
   ·exact .inr ⟨e,b,x,q1,by omega,q3.fr f6 (by omega)⟩
  exact hK s9 3 w6 hw6 (λ_=>rfl) (((g4.trans f5) _).trans f6 λy _ e=>e) h6
 rw[Bool.not_true,cond_false];intro J;have hJ:∀(i:Int) (ad:Addr) (why:Int) W,Ext w4 W->why≠0->J i ad why W:=λi ad why W hW hw=>by
  simp only[J];have:(why !=0)=true:=by rw[bne_iff_ne];exact hw
  rw[this,cond_true];refine BF (abP (h4.ext hW) why) ?_;rintro _ _ w6 ⟨rfl,rfl,f6,h6⟩;exact hK _ _ w6 (.inl rfl) (λhh=>absurd rfl hh) (((g4.trans hW) _).trans f6 λy _ e=>e) h6
 clear_value J;obtain⟨rfl,rfl,rfl,rfl,rfl,rfl,rfl,rfl,rfl,I,U⟩:=hP;have h4d:=h4.ext (Ext.drew w4);refine jc.2 (lU (k:= .ptr) (y:=some ⟨A.e.x,0,none⟩) (by rw[fM];exact h4d.c38) ?_);have r4d:=r4.drew;refine qg r4d ?_;have qo:=(I.ext u).ext (Ext.drew w4);have qd:=(U.ext u).ext (Ext.drew w4);refine⟨?_,?_⟩
 ·refine afR h4d.en P qo qd hp1 hp2 λi t j o' l' p' s d2 df mf op' da' why w5 f5 hw=> ?_;refine fP λk w6 r6 e6 z6 f6=> ?_;have Y:=(r4d.ext f5).ext f6;refine rV Y ⟨?_,?_⟩
  ·rw[fM];exact((h4d.ext f5).ext f6).c38
  refine fK r6 rfl rfl λw7 r7 f7' z7=> ?_;have f7:fV w6 w7 (·=k):=f7' _ rfl;exact hJ _ _ why w7 ((Ext.drew w4).trans (f5.trans (f6.new f7 λy hy e=>by omega))) hw
 ·refine fP λk w5 r5 e5 z5 f5=> ?_;have Z:=r4d.ext f5;refine rV Z ⟨?_,?_⟩
  ·rw[fM];exact(h4d.ext f5).c38
  refine afR (h4d.ext f5).en P (qo.ext f5) (qd.ext f5) hp1 hp2 λi t j o' l' p' s d2 df mf op' da' why w6 f6 hw=> ?_;refine fK (r5.ext f6) rfl rfl λw7 r7 f7' z7=> ?_;have f7:fV w6 w7 (·=k):=f7' _ rfl;exact hJ _ _ why w7 (((Ext.drew w4).trans (f5.trans f6)).new f7 λy hy e=>by have:w4.drew.heap.size=w4.heap.size:=rfl;omega) hw
theorem Af.akV {S:Nat->Prop} (h:Af w0 w A c q O4 O6 N) (hx:Ext w0 w) (hf:fV w w' S) (hs:∀y,S y->∃i,own A O4 O6 i y):Ext w0 w':=hx.new hf λy hy hh=>by
 obtain⟨i,hi⟩:=hs y hh;have:=h.lo i y hi;omega
theorem alm (h:Af w0 w A c q O4 O6 N) (hx:Ext w0 w) (hN:N<2^18) {s:eY} {l:List UInt8} (hs:iF w s l) (hl:l.length<=2^30) {K:eY->Int->b_}
  (hK:∀ws why w' O4',Z_ w0.heap.size w' ws->(ws.len≠0->why=3)->Af w0 w' A c q O4' O6 (N+1)->Ext w0 w'->K ws why w'):
  yI (some ⟨A.x,0,none⟩) s w K:=by
 apply Nl;refine Ap (tJ h) ?_;rintro _ w1 ⟨rfl,hw1⟩;subst hw1;rw[Bool.not_true,cond_false];refine N7 (Zu hs (by omega)) ?_;rintro t i o l' p s' d df mf op da e w2 ⟨_,hP,f2⟩;have J:=R_ l false;generalize V4.read l false=P at hP J;obtain⟨rfl,rfl,rfl,rfl,rfl,rfl,rfl,rfl,rfl,U,Y⟩:=hP;refine fP λa w3 r3 e3 z3 f3=> ?_;refine fK r3 rfl rfl λw4 r4 f4' z4=> ?_;have f4:fV w3 w4 (·=a):=f4' _ rfl;have u:Ext w2 w4:=f3.new f4 λy hy e=>by omega
 have g4:=f2.trans u;have h4:=h.ext g4;have z0:=hx.size;have zg:=f2.size;have dr:∀(W:World) (O:Nat->Prop) (r:Int),Af w0 W A c q O O6 (N+1)->Ext w0 W->ji (some ⟨A.x,0,none⟩) r W λs r w'=>K s r w':=by
  intro W O r hA Z;refine BF (abP hA r) ?_;rintro _ _ w6 ⟨rfl,rfl,f6,h6⟩;exact hK _ _ w6 O (.inl rfl) (λhh=>absurd rfl hh) h6 (hA.akV Z f6 λy e=>⟨3,e⟩)
 cases (e !=0)
 rotate_left
 ·exact dr w4 O4 1 (h4.more (by omega)) (hx.trans g4)
 rw[cond_false];have h4d:=h4.ext (Ext.drew w4);have r4d:=r4.drew;refine jc.2 (lU (k:= .ptr) (y:=some ⟨A.e.x,0,none⟩) (by rw[fM];exact h4d.c38) ?_);refine fJ (k:= .int .i64) (i:=6) (x:=P.dst) r4d rfl ?_;refine Ji (ahf h4d _) ?_;rintro hs5 w5 hw5;subst hw5
 cases hs5
 ·exact dr w4.drew O4 9 (h4d.more (by omega)) ((hx.trans g4).trans (Ext.drew w4))
 rw[Bool.not_true,cond_false];refine qg r4d ?_;have x2d:=u.trans (Ext.drew w4);have z4d:w4.drew.heap.size=w4.heap.size:=rfl;have z24:=u.size;refine agu h4d (by omega) hN 255 P (U.ext x2d) (Y.ext x2d) (by omega) (by omega) λt i o' l2 p' s' d' df mf op' da' why ok w6 P2 O4' f6 h6 hP2 hp j=> ?_;have na:¬O4 a:=λhh=>by have:=h.lt 4 a hh;omega
 have x6:Ext w0 w6:=h4d.akV ((hx.trans g4).trans (Ext.drew w4)) f6 λy e=>⟨4,e⟩;obtain⟨rfl,rfl,rfl,rfl,rfl,rfl,rfl,rfl,rfl,z,I⟩:=hP2;have r6:=r4d.fr f6 na;have al:a<w6.heap.size:=r6.lt;refine fK r6 rfl rfl λw7 r7 f7' z7=> ?_;have f7:fV w6 w7 (·=a):=f7' _ rfl;have nown:∀i,¬own A O4' O6 i a:=by
  intro i hh
  match i,hh with
  |0,hh=>have:=h.lt 0 a hh;omega
  |1,hh=>have:=h.lt 1 a hh;omega
  |2,hh=>have:=h.lt 2 a hh;omega
  |3,hh=>have:=h.lt 3 a hh;omega
  |4,hh=>
   rcases j a hh with hh|hh
   ·exact na hh
   ·have:=r4.lt;omega
  |5,hh=>have:=h.lt 5 a hh;omega
  |(n+6),hh=>exact hh.elim
 have h7:=h6.fr f7 λi y hy e=>nown i (e ▸ hy);have x7:Ext w0 w7:=x6.new f7 λy hy e=>by omega
 cases ok
 ·exact dr w7 O4' why h7 x7
 rw[Bool.not_true,cond_false];refine qg r7 ?_;have aa:iF w7 op' P2.opts:=z.fr f7 λad ha h0 e=>Sz r6 z ha h0 e;have ab:iF w7 da' P2.data:=I.fr f7 λad ha h0 e=>Sz r6 I ha h0 e;refine aaD h7 P2 aa ab (hp rfl).1 (hp rfl).2 λws why w8 hw hy f8 h8=> ?_;have zx7:=x7.size;refine hK ws why w8 O4' ?_ hy h8 (h7.akV x7 f8 λy e=>⟨3,e⟩);rcases hw with e|⟨e,b,x,q1,q2,q3⟩
 ·exact .inl e
 ·exact .inr ⟨e,b,x,q1,by omega,q3⟩
end
end Go.Proofs.AN
end
section
namespace Go.Proofs.AN
open Gp Gp.V4 Go.Proofs Go.Proofs.VN Go.Proofs.JN
open Go.Proofs.CN (T16 T7 e16 e7 chk chk_one)
section
variable {w w':World}
abbrev Bs:=eY×List UInt8
def eBs (x:Bs):List Value:=[.slice x.1.a x.1.len x.1.cap]
theorem Wu (x:Bs):(eBs x).length=1:=rfl
structure acD (w:World) (s:eY) (xs:List Bs):Prop where
 sl:lV 1 eBs w s xs
 by_:∀x∈xs,iF w x.1 x.2
theorem acD.ext {s:eY} {xs:List Bs} (h:acD w s xs) (hf:Ext w w'):acD w' s xs:=⟨h.sl.ext hf,λx hx=>(h.by_ x hx).ext hf⟩
theorem aiw {xs:List Bs} {j:Nat} {y:Bs} (hg:xs[j]? =some y):xs.take (j+1)=xs.take j++[y]:=by
 rw[List.take_add_one,hg];rfl
theorem akZ {s:eY} {xs:List Bs} (hs:acD w s xs):xR s 30 2000 w λr w'=>(r=true->xs.length<=30/\∀x∈xs,x.2.length<=2000)/\Ext w w':=by
 apply Xn;refine⟨rfl,fP λa w1 r1 e1 z1 f1=> ?_⟩;have hl:=hs.sl.len;by_cases h1:(s.len:Int)>30
 ·rw[decide_eq_true h1,cond_true];exact⟨λh=>absurd h (by decide),f1⟩
 rw[decide_eq_false h1,cond_false];apply vS;apply yC;refine fZ (λq W=>∃j:Nat,j<=xs.length/\q.1=(j:Int)/\Ext w1 W/\∀x∈xs.take j,x.2.length<=2000) (λq _=>(s.len - q.1).toNat) ⟨0,by omega,rfl,Ext.refl _,by simp⟩ ?_;rintro⟨i,⟨⟩⟩ W ⟨j,hj,hi,hW,u⟩ next z
 dsimp only at hi ⊢;subst hi;by_cases J:(j:Int)<(s.len:Int);rotate_left
 ·rw[decide_eq_false J,cond_false];refine⟨λ_=>⟨by omega,?_⟩,f1.trans hW⟩;rw[List.take_of_length_le (by omega)] at u;exact u
 rw[decide_eq_true J,cond_true];have hg:=List.getElem?_eq_getElem (show j<xs.length by omega);have I:=List.getElem_mem (show j<xs.length by omega);generalize xs[j]=y at hg I;have xW:=f1.trans hW;refine CN.SlN_ix Wu (by omega) (hs.sl.ext xW) (by omega) (by rw[Int.toNat_natCast];exact hg) λad hc=> ?_;have c0:W.cell? ad=some (.slice y.1.a y.1.len y.1.cap):=hc 0 _ rfl;refine lU (k:= .slice) (y:=y.1) c0 ?_;have hyl:=(hs.by_ y I).1;refine CN.sQ (by kernel_rfl) ?_;refine Calls.mono (RF (a0:=y.1) (f0:=⟨a,0,none⟩) (w:=W) (K:=λr W'=>r=decide ((y.1.len:Int)>2000)/\W'=W) ?_) ?_
 ·exact fJ (k:= .int .i64) (i:=0) (x:=2000) (r1.ext hW) rfl ⟨rfl,rfl⟩
 rintro ev W' ⟨r,he,rfl,rfl⟩;refine⟨_,he,_,rfl,?_⟩;by_cases h2:(y.1.len:Int)>2000
 ·rw[decide_eq_true h2,cond_true];refine⟨λhh=> ?_,xW⟩;rw[decide_eq_true (show (j:Int)>=0 by omega)] at hh
  cases hh
 ·rw[decide_eq_false h2,cond_false,wrap_i64 (by omega) (by omega)];refine z _ _ ⟨j+1,by omega,by simp,hW,λx hx=> ?_⟩ (by dsimp only;omega);rw[aiw hg] at hx;rcases List.mem_append.1 hx with hx|hx
  ·exact u x hx
  ·rw[List.mem_singleton] at hx;subst hx;omega
theorem acU (awake:∀w,pF w λr w'=>r=true/\Ext w w') {w:World} {p0 p1 p2 p3 p4 p5 p6 p7 p8 p9 I U aa ab ac ae:Int} {sw po:eY} {n18 n19 n20 n21 n22 n23 n24 n25 n26 n27 n28 n29 n30 n31 n32 n33 n34:Int} {st:eY} {sl:List T16} {pl:List Int} {tl:List T7} (ar:lV 16 e16 w sw sl) (au:lV 1 CN.eI w po pl) (av:lV 7 e7 w st tl) {s:eY} {xs:List Bs} (hs:acD w s xs):
  Aa p0 p1 p2 p3 p4 p5 p6 p7 p8 p9 I U aa ab ac ae sw po n18 n19 n20 n21 n22 n23 n24 n25 n26 n27 n28 n29 n30 n31 n32 n33 n34 st s w λr w'=>r=true/\Ext w w':=by
 apply Ii;refine fP λa w1 r1 e1 z1 f1=> ?_;have rd:∀W (Q:_),Row W a (jo p0 p1 p2 p3 p4 p5 p6 p7 p8 p9 I U aa ab ac ae sw po n18 n19 n20 n21 n22 n23 n24 n25 n26 n27 n28 n29 n30 n31 n32 n33 n34 st)->Q p0 p1 p2 p3 p4 p5 p6 p7 p8 p9 I U aa ab ac ae sw po n18 n19 n20 n21 n22 n23 n24 n25 n26 n27 n28 n29 n30 n31 n32 n33 n34 st->rX W ⟨a,0,none⟩ Q:=by
  intro W Q hr hq;simp only[sx,hr.cell];exact hq
 intro J;have ah:∀W,Ext w1 W->J true W:=by
  intro W hW;simp only[J,cond_true];refine Fg (awake W) ?_;rintro r W' ⟨hr,hf⟩;exact⟨hr,(f1.trans hW).trans hf⟩
 have hlen:=hs.sl.len;have ay:∀W,Ext w1 W->sw.len<=8->po.len<=4->st.len=0->xs.length<=30->(∀x∈xs,x.2.length<=2000)->chk (p0,p1,p2,p3,p4,p5,p6,p7,p8,p9,I,U,aa,ab,ac,ae,()) sw.len po.len st.len n18 n19 n20 n21 n22 n23 n24 n25 n26 n27 n28 n29 n30 n31 n32 n33 n34 sw.len sl pl tl 0->J false W:=by
  intro W hW h8 h4 ai h30 az aj;simp -zeta only[J,cond_false];have xW:=f1.trans hW;refine rd _ _ (r1.ext hW) ?_;refine Yj (agW (ar.ext xW) (au.ext xW) (av.ext xW) (by omega) (by omega) ai aj) ?_;rintro r e w2 ⟨rfl,f2,A,O4,O6,rfl,hA⟩;generalize (⟨jo p0 p1 p2 p3 p4 p5 p6 p7 p8 p9 I U aa ab ac ae sw po n18 n19 n20 n21 n22 n23 n24 n25 n26 n27 n28 n29 n30 n31 n32 n33 n34 st,sw,pl,n18,n19,n20,n21,n22⟩:EN.Cf)=c at hA;generalize ((n23,n24,n34):Int×Int×Int)=q at hA;intro ak;have hJ49:ak false:=by
   simp -zeta only[ak,cond_false];refine fZ (λst X=>∃(j:Nat) (O4:Nat->Prop),j<=xs.length/\st.1=(j:Int)/\Af W X A c q O4 O6 j/\Ext W X) (λst _=>(s.len - st.1).toNat) ⟨0,O4,by omega,rfl,hA,f2⟩ ?_;rintro⟨i,⟨⟩⟩ X ⟨j,O4,hj,hi,hX,al⟩ next af
   dsimp only at hi;dsimp -zeta only;subst hi;by_cases hl:(j:Int)<(s.len:Int);rotate_left
   ·rw[decide_eq_false hl,cond_false];refine Fg (awake X) ?_;rintro r W' ⟨hr,hf⟩;exact⟨hr,(xW.trans al).trans hf⟩
   rw[decide_eq_true hl,cond_true];have hg:=List.getElem?_eq_getElem (show j<xs.length by omega);have u:=List.getElem_mem (show j<xs.length by omega);generalize xs[j]=y at hg u;have aw:=xW.trans al;refine CN.SlN_ix Wu (by omega) (hs.sl.ext aw) (by omega) (by rw[Int.toNat_natCast];exact hg) λad hc=> ?_;have c0:X.cell? ad=some (.slice y.1.a y.1.len y.1.cap):=hc 0 _ rfl;refine lU (k:= .slice) (y:=y.1) c0 ?_;have hy2:=az y u;refine alm hX al (by omega) ((hs.by_ y u).ext aw) (by omega) λws why X2 O4' hw ag hX2 am=> ?_;have hw1:ws.len<=1:=by rcases hw with e|⟨e,_⟩<;>omega
   refine fZ (λst Y=>∃k:Nat,k<=ws.len/\st.1=(k:Int)/\Ext X2 Y) (λst _=>(ws.len - st.1).toNat) ⟨0,by omega,rfl,Ext.refl _⟩ ?_;rintro⟨i2,⟨⟩⟩ Y ⟨k,hk,hk2,hY⟩ next2 z;dsimp only at hk2;dsimp -zeta only;subst hk2;have ax:=hX2.ext hY;have aA:=am.trans hY;by_cases hl2:(k:Int)<(ws.len:Int)
   ·rw[decide_eq_true hl2,cond_true];have hk0:k=0:=by omega
    subst hk0;rcases(hw.ext hY) with e|⟨e,b,x,q1,q2,q3⟩
    ·omega
    obtain⟨wa,wl,wc⟩:=ws;dsimp only at q1 e hl2 ag;subst q1;refine(wF _ _ _ _ _ _).2 ⟨by omega,hl2,?_⟩;have aB:(Addr.add ⟨b,0,none⟩ (Int.toNat ((0:Nat):Int) * 2))=⟨b,0,none⟩:=rfl;rw[aB];refine fJ (k:= .int .i64) (i:=0) (x:= -1) q3 rfl (fJ (k:= .slice) (i:=1) (x:=x) q3 rfl ?_);refine fP λg w5 r5 e5 z5 f5=> ?_;refine fK r5 rfl rfl λw6 r6 f6' z6=> ?_;have f6:fV w5 w6 (·=g):=f6' _ rfl;intro an;have hJ68:an false:=by
     simp only[an,cond_false];rw[wrap_i64 (by omega) (by omega)];exact z _ _ ⟨1,by dsimp only;omega,by simp,hY.trans (f5.new f6 λy hy e=>by omega)⟩ (by dsimp only;omega)
    clear_value an;refine fJ (k:= .int .i64) (i:=0) (x:= -1) r6 rfl ?_;have ao:¬((-1:Int)>=0):=by omega
    rw[decide_eq_false ao,cond_false,ag (by omega)];exact hJ68
   ·rw[decide_eq_false hl2,cond_false];intro aq;have hJ71:∀Z,Ext Y Z->aq false Z:=by
     intro Z hZ;simp only[aq,cond_false];rw[wrap_i64 (by omega) (by omega)];exact af _ _ ⟨j+1,O4',by omega,by simp,ax.ext hZ,aA.trans hZ⟩ (by dsimp only;omega)
    clear_value aq;refine KG (ags ax) ?_;rintro v0 v1 v2 v3 v4 v5 v6 Z ⟨hv,hZ⟩;have hn0:¬((v1.len:Int)>0):=by omega
    have hn1:¬((ws.len:Int)>1):=by omega
    rw[decide_eq_false hn0,cond_false,decide_eq_false hn1];exact hJ71 Z hZ
  clear_value ak;exact hJ49
 clear_value J;refine rd _ _ r1 ?_;refine EN.tK (ar.ext f1) (au.ext f1) (av.ext f1) (λW hW=> ?_) (λW hW h1 h2 h3 hc=> ?_)
 ·rw[Bool.not_false,cond_true];exact ah W hW
 rw[Bool.not_true,cond_false];refine V9 (akZ (hs.ext (f1.trans hW))) ?_;rintro fr w3 ⟨hf,f3⟩
 cases fr
 ·exact ah w3 (hW.trans f3)
 rw[Bool.not_true,cond_false];obtain⟨hf1,hf2⟩:=hf rfl;refine fJ (k:= .slice) (i:=35) (x:=st) ((r1.ext hW).ext f3) rfl ?_;by_cases h0:(st.len:Int)>0
 ·rw[decide_eq_true h0];exact ah w3 (hW.trans f3)
 ·rw[decide_eq_false h0];exact ay w3 (hW.trans f3) h1 h2 (by omega) hf1 hf2 hc
end
end Go.Proofs.AN
end
section
namespace Go.Proofs.AN
open Gp Go.Proofs.CN
abbrev ani:iT:= .arr 16 (.int .u8) 1
abbrev alJ:iT:= .agg (.cons (.agg (.cons (.int .i64) 1 (.cons (.int .i64) 1 (.cons (.int .i64) 1 (.cons (.int .i64) 1 .nil))))) 4 (.cons (.agg (.cons (.int .i64) 1 (.cons (.int .i64) 1 (.cons (.int .i64) 1 .nil)))) 3 .nil))
def anj (l:List Int):T16:=(l.getD 0 0,l.getD 1 0,l.getD 2 0,l.getD 3 0,l.getD 4 0,l.getD 5 0,l.getD 6 0,l.getD 7 0,l.getD 8 0,l.getD 9 0,l.getD 10 0,l.getD 11 0,l.getD 12 0,l.getD 13 0,l.getD 14 0,l.getD 15 0,())
def anm (x:alJ.T):T7:=(x.1.1,x.1.2.1,x.1.2.2.1,x.1.2.2.2.1,x.2.1.1,x.2.1.2.1,x.2.1.2.2.1,())
theorem ZF {l:List Int} (h:l.length=16):∃p0 p1 p2 p3 p4 p5 p6 p7 p8 p9 j u z I J U:Int,l=[p0,p1,p2,p3,p4,p5,p6,p7,p8,p9,j,u,z,I,J,U]:=by
 match l,h with
 |[p0,p1,p2,p3,p4,p5,p6,p7,p8,p9,j,u,z,I,J,U],_=>exact⟨p0,p1,p2,p3,p4,p5,p6,p7,p8,p9,j,u,z,I,J,U,rfl⟩
theorem alG {w:World} {x:(iT.slice ani 16).T} (h:(iT.slice ani 16).In w x):lV 16 e16 w x.1 (x.2.map anj):=
 XJ (by decide) h anj e16 pW λy hy=>by
  obtain⟨p0,p1,p2,p3,p4,p5,p6,p7,p8,p9,p10,p11,p12,p13,p14,p15,rfl⟩:=ZF hy.1;rfl
theorem ak7 {w:World} {x:(iT.slice (.int .i64) 1).T} (h:(iT.slice (.int .i64) 1).In w x):lV 1 CN.eI w x.1 (x.2.map λy:Int=>y):=
 XJ (d:= .int .i64) (by decide) h (λy:Int=>y) CN.eI CN.qG λy hy=>rfl
theorem alK {w:World} {x:(iT.slice alJ 7).T} (h:(iT.slice alJ 7).In w x):lV 7 e7 w x.1 (x.2.map anm):=
 XJ (by decide) h anm e7 wR λy hy=>rfl
abbrev bsD:iT:= .slice (.int .u8) 1
def bsG (x:bsD.T):Bs:=(x.1,x.2.map λn:Int=>UInt8.ofNat n.toNat)
theorem am0 {w:World} {x:(iT.slice bsD 1).T} (h:(iT.slice bsD 1).In w x):acD w x.1 (x.2.map bsG):=by
 refine⟨XJ (by decide) h bsG eBs Wu λy hy=>rfl,λy hy=> ?_⟩;obtain⟨z,hz,rfl⟩:=List.mem_map.1 hy;exact aio (h.2 z hz)
end Go.Proofs.AN
end
section
namespace Gp.Rn
open Go Gp
noncomputable section
inductive AV where
 |int (k:IntKind) (n:Int)
 |bool (b:Bool)
 |str (s:ByteArray)
 |ptr0
 |ptr (i o:Nat)
 |sl0
 |sl (i o len cap:Nat)
 |slo (i o len d:Nat)
 |slE (i:Nat)
 |map0
 |map (r:Nat)
 |fn (f:FuncId) (first cap:List AV)
 |yld (l:Nat)
 |agg (vs:List AV)
 |kW (vs:List AV)
 |nilF
 |nilI
 |ifc (t:TypeId) (v:AV)
inductive Jmp where
 |no
 |ret
 |ex (id:Nat)
inductive AB where
 |row (cs:List AV) (size:Nat) (opn:Bool)
 |map (es:List (AV×AV×Nat)) (clock:Nat)
 |iter (m:Option Nat) (since:Nat) (seen:List Nat) (c:Nat)
 |loop (st:LoopState) (p:Jmp)
 |mark
 |dead
inductive Tr where
 |lf
 |nd (v:Option AB) (l r:Tr)
def Tr.get:Tr->Nat->Option AB
 | .lf,_=>none
 | .nd v l r,n=>match n with
  |0=>v
  |m+1=>cond (Nat.beq (m % 2) 0) (l.get (m / 2)) (r.get (m / 2))
def Tr.XG:Nat->Tr->Nat->AB->(Tr->Bool)->Bool
 |0,_,_,_,_=>false
 |f+1,t,n,v,k=>match t with
  | .lf=>match n with
   |0=>k (.nd (some v) .lf .lf)
   |m+1=>cond (Nat.beq (m % 2) 0) (XG f .lf (m / 2) v λl=>k (.nd none l .lf)) (XG f .lf (m / 2) v λr=>k (.nd none .lf r))
  | .nd x l r=>match n with
   |0=>k (.nd (some v) l r)
   |m+1=>cond (Nat.beq (m % 2) 0) (XG f l (m / 2) v λl'=>k (.nd x l' r)) (XG f r (m / 2) v λr'=>k (.nd x l r'))
structure St where
 h:Tr
 n:Nat
abbrev AE:=List (Nat×AV)
def AE.get (e:AE) (t:Nat):Option AV:=List.rec (motive:=λ_=>Option AV) none (λp _ ih=>Bool.rec ih (some p.2) (Nat.beq p.1 t)) e
def AE.put (e:AE) (d:Option Nat) (v:AV):AE:=
 match d with
 |some s=>(s,v)::e
 |none=>e
def AE.without (ws:List Nat):AE->AE
 |[]=>[]
 |(s,v)::r=>cond (vZ s ws) (AE.without ws r) ((s,v)::AE.without ws r)
def fN (n:Nat) (k:Nat->Bool):Bool:=match n with
 |0=>k 0
 |m+1=>k (Nat.succ m)
def fI (n:Int) (k:Int->Bool):Bool:=match n with
 | .ofNat a=>fN a λa=>k (.ofNat a)
 | .negSucc a=>fN a λa=>k (.negSucc a)
def fB (b:Bool) (k:Bool->Bool):Bool:=match b with
 |true=>k true
 |false=>k false
def YZ:Value->Option AV
 | .int k n=>some (.int k n)
 | .bool b=>some (.bool b)
 | .string s=>some (.str s)
 | .pointer none=>some .ptr0
 | .slice none 0 0=>some .sl0
 | .map none=>some .map0
 | .nilFunc=>some .nilF
 | .nilIface=>some .nilI
 |_=>none
def BL:List Value->Option (List AV)
 |[]=>some []
 |v::r=>match YZ v,BL r with
  |some a,some l=>some (a::l)
  |_,_=>none
def Fp:Value->Option AV
 | .agg cs=>match BL cs.toList with
  |some l=>some (.agg l)
  |none=>none
 | .tuple vs=>match vs.toList with
  |[]=>some (.kW [])
  |_=>none
 |v=>YZ v
def one:AV->Bool
 | .agg _=>false
 | .kW _=>false
 |_=>true
def kOk:Kind->AV->Bool
 | .int k,.int k' _=>Dq k k'
 | .bool,.bool _=>true
 | .str,.str _=>true
 | .ptr,.ptr0=>true
 | .ptr,.ptr _ _=>true
 | .slice,.sl0=>true
 | .slice,.sl _ _ _ _=>true
 | .slice,.slo _ _ _ _=>true
 | .slice,.slE _=>true
 | .map,.map0=>true
 | .map,.map _=>true
 | .any,_=>true
 |_,_=>false
def QY:List Kind->List AV->Bool
 |[],[]=>true
 |k::ks,v::vs=>kOk k v && QY ks vs
 |_,_=>false
def alD:Shape->AV->Bool
 | .one k,v=>kOk k v
 | .agg ks,.agg vs=>QY ks vs
 |_,_=>false
def LZ:List Shape->List AV->Bool
 |[],[]=>true
 |k::ks,v::vs=>alD k v && LZ ks vs
 |_,_=>false
def evA (e:AE):Operand->Option AV
 | .tmp t=>e.get t
 | .const v=>Fp v
 | .global _=>none
 | .func f=>some (.fn f [] [])
def evs (e:AE):List Operand->Option (List AV)
 |[]=>some []
 |x::r=>match evA e x,evs e r with
  |some a,some l=>some (a::l)
  |_,_=>none
def ND:List AV->Option (List Value)
 |[]=>some []
 |v::r=>match (match v with
  | .int k n=>some (Value.int k n)
  | .bool b=>some (.bool b)
  | .str s=>some (.string s)
  |_=>none),ND r with
  |some a,some l=>some (a::l)
  |_,_=>none
def XC:AV->Option Value
 | .int k n=>some (.int k n)
 | .bool b=>some (.bool b)
 | .str s=>some (.string s)
 | .agg vs=>match ND vs with
  |some l=>some (.agg ⟨l⟩)
  |none=>none
 |_=>none
def lEq:List UInt8->List UInt8->Bool
 |[],[]=>true
 |a::l,b::m=>cond (Nat.beq a.toNat b.toNat) (lEq l m) false
 |_,_=>false
def lLt:List UInt8->List UInt8->Bool
 |[],[]=>false
 |[],_::_=>true
 |_::_,[]=>false
 |a::l,b::m=>cond (Nat.blt a.toNat b.toNat) true (cond (Nat.beq a.toNat b.toNat) (lLt l m) false)
def sEq (a b:ByteArray):Bool:=lEq a.data.toList b.data.toList
def sLt (a b:ByteArray):Bool:=lLt a.data.toList b.data.toList
def Wy (P:Program):Nat->TypeId->Value->Value->Option Bool
 |0,_,_,_=>none
 |d+1,t,x,y=>match P.underlying t,x,y with
  |some .bool,.bool a,.bool b=>some (a==b)
  |some (.int _),.int k a,.int k' b=>cond (Dq k k') (some (a==b)) none
  |some .string,.string a,.string b=>some (sEq a b)
  |some (.struct fs),.agg xs,.agg ys=>cond (P.stoodInHeld t) none (ac4 P (Wy P d) xs.toList ys.toList fs.toList)
  |some (.array n e),.agg xs,.agg ys=>match P.underlying e,gG P e with
   |some de,some size=>ac5 (Wy P d e) de size xs.toList ys.toList n 0
   |_,_=>none
  |_,_,_=>none
def Dv (s:St) (b:AB) (k:Nat->St->Bool):Bool:=
 match s.h.get s.n with
 |none=>s.h.XG 64 s.n b λh'=>fN (s.n+1) λm=>k s.n ⟨h',m⟩
 |some _=>false
def CO (s:St) (i:Nat) (b:AB) (k:St->Bool):Bool:=s.h.XG 64 i b λh'=>k ⟨h',s.n⟩
def aci {α:Type}:Nat->List α->Option (List α)
 |0,_=>some []
 |_+1,[]=>none
 |n+1,x::l=>match aci n l with
  |some r=>some (x::r)
  |none=>none
def rdC (s:St) (i o n:Nat):Option (List AV):=
 match s.h.get i with
 |some (.row cs _ _)=>aci n (cs.drop o)
 |_=>none
def ZG:List AV->Nat->List AV->(List AV->Bool)->Bool
 |[],_,vs,k=>match vs with
  |[]=>k []
  |_=>false
 |c::cs,n,vs,k=>match n with
  |m+1=>ZG cs m vs λr=>k (c::r)
  |0=>match vs with
   |[]=>k (c::cs)
   |v::vs=>ZG cs 0 vs λr=>k (v::r)
def Bv:List AV->Bool
 |[]=>true
 |v::r=>one v && Bv r
def wrC (s:St) (i o:Nat) (vs:List AV) (k:St->Bool):Bool:=
 cond (Bv vs) (match s.h.get i with
  |some (.row cs z p)=>ZG cs o vs λcs'=>CO s i (.row cs' z p) k
  |_=>false) false
def slC (s:St) (size n:Nat):AV->Option (List AV)
 | .sl0=>cond (Nat.beq n 0) (some []) none
 | .sl i o len _=>cond (Nat.ble n len) (rdC s i o (n * size)) none
 | .slo i o len _=>cond (Nat.ble n len) (rdC s i o (n * size)) none
 | .slE _=>cond (Nat.beq n 0) (some []) none
 |_=>none
def Sv:AV->Option Nat
 | .sl0=>some 0
 | .sl _ _ n _=>some n
 | .slo _ _ n _=>some n
 | .slE _=>some 0
 |_=>none
def ZA (z:List AV):Nat->List AV
 |0=>[]
 |n+1=>z++ZA z n
def VI (size bytes zl:Nat) (x:AV) (n:Nat) (vs:List AV) (s:St) (k:AV->St->Bool):Bool:=
 cond (Bv vs && (Nat.beq zl size && (Nat.beq vs.length (n * size) && Nat.blt 0 size))) (match x with
  | .sl0=>match n with
   |0=>k .sl0 s
   |_+1=>cond (Nat.ble (n * bytes) (2^46) && Nat.ble n (2^62)) (Dv s (.row vs size true) λj s'=>k (.slo j 0 n 0) s') false
  | .sl i o len cap=>fN (len+n) λm=>cond (Nat.ble m cap) (wrC s i (o+len * size) vs λs'=>k (.sl i o m cap) s')
    (cond (Nat.ble (m * bytes) (2^46) && Nat.ble m (2^62)) (match rdC s i o (len * size) with
     |some old=>Dv s (.row (old++vs) size true) λj s'=>k (.slo j 0 m 0) s'
     |none=>false) false)
  | .slo i o len d=>fN (len+n) λm=>match s.h.get i with
   |some (.row cs z true)=>cond (Nat.beq z size && Nat.beq (d * size) o)
     (cond (Nat.ble (o+m * size) cs.length) (wrC s i (o+len * size) vs λs'=>k (.slo i o m d) s')
      (cond (Nat.beq o 0 && (Nat.beq d 0 && (Nat.beq (len * size) cs.length && (Nat.ble (m * bytes) (2^46) && Nat.ble m (2^62)))))
       (CO s i .dead λs1=>Dv s1 (.row (cs++vs) size true) λj s'=>k (.slo j 0 m 0) s') false)) false
   |_=>false
  |_=>false) false
end
end Gp.Rn
end
section
namespace Gp.Rn
open Go Gp
noncomputable section
structure Cb where
 call:FuncId->List AV->St->(List AV->St->Bool)->Bool
 yld:Nat->List AV->St->(Bool->St->Bool)->Bool
def afq (op:BinOp) (kd:IntKind) (a b:Int) (k:AV->Bool):Bool:=
 match op with
 | .add=>fI (kd.wrap (a+b)) λn=>k (.int kd n)
 | .sub=>fI (kd.wrap (a - b)) λn=>k (.int kd n)
 | .mul=>fI (kd.wrap (a * b)) λn=>k (.int kd n)
 | .quo=>cond (b==0) false (fI (kd.wrap (a.tdiv b)) λn=>k (.int kd n))
 | .rem=>cond (b==0) false (fI (a.tmod b) λn=>k (.int kd n))
 | .and=>fI (wH kd a b) λn=>k (.int kd n)
 | .or=>fI (Xz kd a b) λn=>k (.int kd n)
 | .xor=>fI (ad4 kd a b) λn=>k (.int kd n)
 | .andNot=>fI (abE kd a b) λn=>k (.int kd n)
 | .eql=>fB (a==b) λt=>k (.bool t)
 | .neq=>fB (a !=b) λt=>k (.bool t)
 | .lss=>fB (decide (a<b)) λt=>k (.bool t)
 | .leq=>fB (decide (a<=b)) λt=>k (.bool t)
 | .gtr=>fB (decide (a>b)) λt=>k (.bool t)
 | .geq=>fB (decide (a>=b)) λt=>k (.bool t)
 |_=>false
def agh (op:BinOp) (a b:ByteArray) (k:AV->Bool):Bool:=
 match op with
 | .add=>cond (Nat.ble (a.size+b.size) 9223372036854775807) (k (.str ⟨⟨a.data.toList++b.data.toList⟩⟩)) false
 | .eql=>fB (sEq a b) λt=>k (.bool t)
 | .neq=>fB (!sEq a b) λt=>k (.bool t)
 | .lss=>fB (sLt a b) λt=>k (.bool t)
 | .leq=>fB (sLt a b||sEq a b) λt=>k (.bool t)
 | .gtr=>fB (!(sLt a b||sEq a b)) λt=>k (.bool t)
 | .geq=>fB (!sLt a b) λt=>k (.bool t)
 |_=>false
def eqC (d:TypeDesc) (x y:AV):Option Bool:=
 match d,x,y with
 | .bool,.bool a,.bool b=>some (a==b)
 | .pointer _,.ptr0,.ptr0=>some true
 | .pointer _,.ptr _ _,.ptr0=>some false
 | .slice _,.sl0,.sl0=>some true
 | .slice _,.sl _ _ _ _,.sl0=>some false
 | .slice _,.slo _ _ _ _,.sl0=>some false
 | .slice _,.slE _,.sl0=>some false
 | .map _ _,.map0,.map0=>some true
 | .map _ _,.map _,.map0=>some false
 |_,_,_=>none
def aer (P:Program) (op:BinOp) (t:TypeId) (x y:AV) (k:AV->Bool):Bool:=
 match x with
 | .int kd a=>match y with
  | .int kd' b=>match op with
   | .shl=>cond (decide (0<=b)) (fI (LY kd a b) λn=>k (.int kd n)) false
   | .shr=>cond (decide (0<=b)) (fI (jy kd a b) λn=>k (.int kd n)) false
   |op=>cond (Dq kd kd') (afq op kd a b k) false
  |_=>false
 | .str a=>match y with
  | .str b=>agh op a b k
  |_=>false
 | .agg xs=>match yL op,ND xs,y with
  |some s,some xs',.agg ys=>match ND ys with
   |some ys'=>cond (P.eqGuardType P.depth t) false (match Wy P 16 t (.agg ⟨xs'⟩) (.agg ⟨ys'⟩) with
    |some b=>fB (cond s b (!b)) λb=>k (.bool b)
    |none=>false)
   |none=>false
  |_,_,_=>false
 |x=>match yL op,P.underlying t with
  |some s,some d=>match eqC d x y with
   |some b=>fB (cond s b (!b)) λb=>k (.bool b)
   |none=>false
  |_,_=>false
def unC (op:UnOp) (x:AV) (k:AV->Bool):Bool:=
 match op,x with
 | .neg,.int kd n=>fI (kd.wrap (0 - n)) λn=>k (.int kd n)
 | .not,.bool b=>fB (!b) λb=>k (.bool b)
 | .xor,.int kd n=>fI (ad4 kd (if kd.signed then -1 else kd.max) n) λn=>k (.int kd n)
 |_,_=>false
def NC (ρ:Operand->AV) (x:Option Operand) (d:Int) (k:Int->Bool):Bool:=
 match x with
 |none=>k d
 |some o=>match ρ o with
  | .int _ n=>k n
  |_=>false
def agj (x:AV) (size:Nat) (l h:Int) (s:St) (k:AV->Bool):Bool:=
 cond (decide (0<=l) && decide (l<=h)) (match x with
  | .sl0=>cond (decide (h<=0)) (k .sl0) false
  | .sl i o _ cap=>cond (decide (h<=(cap:Int))) (fN (cond (Nat.beq cap l.toNat) o (o+l.toNat * size)) λo'=>fN (h.toNat - l.toNat) λn'=>fN (cap - l.toNat) λc'=>k (.sl i o' n' c')) false
  | .slE i=>cond (decide (h<=0)) (k (.slE i)) false
  | .slo i o _ d=>match s.h.get i with
   |some (.row cs z true)=>cond (Nat.beq z size && (Nat.beq (d * size) o && Nat.ble (o+h.toNat * size) cs.length))
     (match l.toNat with
      |0=>fN h.toNat λn'=>k (.slo i o n' d)
      |m+1=>cond (Nat.blt (o+(m+1) * size) cs.length) (fN (o+(m+1) * size) λo'=>fN (h.toNat - (m+1)) λn'=>fN (d+(m+1)) λd'=>k (.slo i o' n' d'))
       (cond (Nat.beq (h.toNat - (m+1)) 0) (k (.slE i)) false)) false
   |_=>false
  |_=>false) false
def ZI (x:AV) (size:Nat) (l h m:Int) (s:St) (k:AV->Bool):Bool:=
 cond (decide (0<=l) && (decide (l<=h) && decide (h<=m))) (match x with
  | .sl0=>cond (decide (m<=0)) (k .sl0) false
  | .sl i o _ cap=>cond (decide (m<=(cap:Int))) (fN (cond (Nat.beq m.toNat l.toNat) o (o+l.toNat * size)) λo'=>fN (h.toNat - l.toNat) λn'=>fN (m.toNat - l.toNat) λc'=>k (.sl i o' n' c')) false
  | .slo i o _ d=>match s.h.get i with
   |some (.row cs z true)=>cond (Nat.beq z size && (Nat.beq (d * size) o && Nat.ble (o+m.toNat * size) cs.length))
     (fN (cond (Nat.beq m.toNat l.toNat) o (o+l.toNat * size)) λo'=>fN (h.toNat - l.toNat) λn'=>fN (m.toNat - l.toNat) λc'=>k (.sl i o' n' c')) false
   |_=>false
  |_=>false) false
def SA (P:Program) (t:TypeId) (x:AV) (ρ:Operand->AV) (lo hi mx:Option Operand) (s:St) (k:AV->Bool):Bool:=
 match P.underlying t with
 |some .string=>match x,mx with
  | .str b,none=>NC ρ lo 0 λl=>NC ρ hi (b.size:Int) λh=>cond (decide (0<=l) && (decide (l<=h) && decide (h<=(b.size:Int)))) (k (.str ⟨⟨(b.data.toList.take h.toNat).drop l.toNat⟩⟩)) false
  |_,_=>false
 |some (.slice e)=>match gG P e,Sv x with
  |some size,some n=>cond (Nat.blt 0 size) (match mx with
   |none=>NC ρ lo 0 λl=>NC ρ hi (n:Int) λh=>agj x size l h s k
   |some m=>match hi with
    |some _=>NC ρ lo 0 λl=>NC ρ hi 0 λh=>NC ρ (some m) 0 λm'=>ZI x size l h m' s k
    |none=>false) false
  |_,_=>false
 |some (.array n e)=>match x,gG P e,mx with
  | .ptr i o,some size,none=>NC ρ lo 0 λl=>NC ρ hi (n:Int) λh=>cond (decide (0<=l) && (decide (l<=h) && decide (h<=(n:Int))))
    (fN (cond (Nat.beq n l.toNat) o (o+l.toNat * size)) λo'=>fN (h.toNat - l.toNat) λn'=>fN (n - l.toNat) λc'=>k (.sl i o' n' c')) false
  |_,_,_=>false
 |_=>false
def u8s:List AV->Option (List UInt8)
 |[]=>some []
 | .int .u8 (.ofNat n)::r=>cond (Nat.blt n 256) (match u8s r with
  |some l=>some (UInt8.ofNat n::l)
  |none=>none) none
 |_=>none
def byA (l:List UInt8):List AV:=l.map λb=> .int .u8 (.ofNat b.toNat)
def Yw (P:Program) (sd d:TypeId) (x:AV) (s:St) (k:AV->St->Bool):Bool:=
 match P.underlying sd,P.underlying d with
 |some (.slice e),some .string=>match P.underlying e,Sv x with
  |some (.int .u8),some n=>match slC s 1 n x with
   |some cs=>match u8s cs with
    |some l=>k (.str ⟨⟨l⟩⟩) s
    |none=>false
   |none=>false
  |_,_=>false
 |some .string,some (.slice e)=>match P.underlying e,x with
  |some (.int .u8),.str b=>cond (Nat.ble b.size (2^62)) (Dv s (.row (byA b.data.toList) 1 true) λi s'=>k (.slo i 0 b.size 0) s') false
  |_,_=>false
 |some (.slice _),some (.slice e)=>match P.underlying e,Nat.beq sd d,x with
  |some (.int .u8),true,.sl i _ _ _=>match s.h.get i with
   |some (.row _ _ _)=>k x s
   |_=>false
  |_,_,_=>false
 |some _,some (.int kd)=>match x with
  | .int _ n=>fI (kd.wrap n) λn=>k (.int kd n) s
  |_=>false
 |some _,some .string=>match x with
  | .str b=>k (.str b) s
  |_=>false
 |_,_=>false
def Vf (d:TypeDesc) (size off:Nat) (cs:List AV) (k:AV->Bool):Bool:=
 cond (Cm d) (k (.agg ((cs.drop off).take size))) (match cs[off]? with
  |some v=>k v
  |none=>false)
def cellsA:AV->List AV
 | .agg cs=>cs
 |v=>[v]
def ach (cs:List AV) (off:Nat) (vs:List AV):List AV:=cs.take off++(vs++cs.drop (off+vs.length))
def Oa (place:Nat->Option (Nat×Nat)):List (Nat×AV)->List AV->Option (List AV)
 |[],cs=>some cs
 |(i,v)::r,cs=>match place i with
  |some (off,size)=>cond (Nat.beq (cellsA v).length size && Nat.ble (off+size) cs.length) (Oa place r (ach cs off (cellsA v))) none
  |none=>none
def WH:List (Nat×AV)->List AV->Option (List AV)
 |[],cs=>some cs
 |(i,v)::r,cs=>cond (Nat.blt i cs.length) (WH r (cs.set i v)) none
def CX (P:Program) (e:TypeId):Option (List AV):=
 match jG P e with
 |some z=>BL z
 |none=>none
def QK (P:Program) (kt:TypeId) (key:Value):List (AV×AV×Nat)->Nat->Option (Option (Nat×AV×AV))
 |[],_=>some none
 |(q,v,_)::es,i=>match XC q with
  |some q'=>match Wy P 16 kt key q' with
   |some true=>some (some (i,q,v))
   |some false=>QK P kt key es (i+1)
   |none=>none
  |none=>none
def adv (P:Program) (kt:TypeId) (key:AV):Option Value:=
 match XC key with
 |some v=>cond (NG v && (Wy P 16 kt v v).isSome) (some v) none
 |none=>none
def afI (s:St) (m:AV):Option (List (AV×AV×Nat)×Nat):=
 match m with
 | .map r=>match s.h.get r with
  |some (.map es c)=>some (es,c)
  |_=>none
 |_=>none
def adh (P:Program) (kt:TypeId) (m key:AV) (z:AV) (s:St) (k:AV->Bool->Bool):Bool:=
 match adv P kt key with
 |some kv=>match m with
  | .map0=>k z false
  |m=>match afI s m with
   |some (es,_)=>match QK P kt kv es 0 with
    |some (some (_,_,v))=>k v true
    |some none=>k z false
    |none=>false
   |none=>false
 |none=>false
def aos {α:Type} (f:α->α->Bool):List α->List α->Bool
 |[],[]=>true
 |a::l,b::m=>f a b && aos f l m
 |_,_=>false
mutual
def B_:AV->AV->Bool
 | .int k n,.int k' n'=>Dq k k' && n==n'
 | .bool a,.bool b=>a==b
 | .str a,.str b=>sEq a b
 | .ptr0,.ptr0=>true
 | .ptr i o,.ptr i' o'=>Nat.beq i i' && Nat.beq o o'
 | .sl0,.sl0=>true
 | .sl i o l c,.sl i' o' l' c'=>Nat.beq i i' && (Nat.beq o o' && (Nat.beq l l' && Nat.beq c c'))
 | .slo i o l c,.slo i' o' l' c'=>Nat.beq i i' && (Nat.beq o o' && (Nat.beq l l' && Nat.beq c c'))
 | .map0,.map0=>true
 | .map r,.map r'=>Nat.beq r r'
 | .fn f a b,.fn f' a' b'=>Nat.beq f f' && (wC a a' && wC b b')
 | .yld l,.yld l'=>Nat.beq l l'
 | .agg a,.agg b=>wC a b
 | .kW a,.kW b=>wC a b
 | .nilF,.nilF=>true
 | .nilI,.nilI=>true
 | .ifc t v,.ifc t' v'=>Nat.beq t t' && B_ v v'
 |_,_=>false
def wC:List AV->List AV->Bool
 |[],[]=>true
 |a::l,b::m=>B_ a b && wC l m
 |_,_=>false
end
def abe (P:Program) (kt:TypeId) (m key val:AV) (s:St) (k:St->Bool):Bool:=
 match adv P kt key with
 |some kv=>match m with
  | .map r=>match s.h.get r with
   |some (.map es c)=>match QK P kt kv es 0 with
    |some (some (i,q,_))=>cond (B_ q key) (match es[i]? with
     |some (_,_,b)=>CO s r (.map (es.set i (key,val,b)) c) k
     |none=>false) false
    |some none=>CO s r (.map (es++[(key,val,c)]) (c+1)) k
    |none=>false
   |_=>false
  |_=>false
 |none=>false
def aeS (P:Program) (kt:TypeId) (m key:AV) (s:St) (k:St->Bool):Bool:=
 match adv P kt key with
 |some kv=>match m with
  | .map0=>k s
  | .map r=>match s.h.get r with
   |some (.map es c)=>match QK P kt kv es 0 with
    |some (some (i,_,_))=>CO s r (.map (es.eraseIdx i) c) k
    |some none=>k s
    |none=>false
   |_=>false
  |_=>false
 |none=>false
def inN (b:Nat):List Nat->Bool
 |[]=>false
 |x::r=>cond (Nat.beq x b) true (inN b r)
def Y1 (since:Nat) (seen:List Nat):List (AV×AV×Nat)->List (AV×AV×Nat)
 |[]=>[]
 |e::es=>cond (inN e.2.2 seen) (Y1 since seen es) (e::Y1 since seen es)
def Ku (n:Nat):List (AV×AV×Nat)->Bool
 |[]=>true
 |e::es=>Nat.blt e.2.2 n && Ku n es
def Y6 (q:AV) (s:St) (k:AV->St->Bool):Bool:=
 match q with
 | .ptr i 0=>match s.h.get i with
  |some (.iter none _ _ _)=>k (.kW [.bool false]) s
  |some (.iter (some m) since seen _)=>match s.h.get m with
   |some (.map es c)=>cond (Ku since es && Nat.ble since c) (match Y1 since seen es with
     |[]=>k (.kW [.bool false]) s
     |[(a,b,n)]=>CO s i (.iter (some m) since (seen++[n]) c) λs'=>k (.kW [.bool true,a,b]) s'
     |_=>false) false
   |_=>false
  |_=>false
 |_=>false
def MI (n:Nat):List (AV×AV×Nat)->Option (AV×AV)
 |[]=>none
 |e::es=>cond (Nat.beq e.2.2 n) (some (e.1,e.2.1)) (MI n es)
def Xc:List (AV×AV×Nat)->Bool
 |[]=>true
 |e::es=>(match MI e.2.2 es with
  |none=>true
  |some _=>false) && Xc es
def afx:List Nat->Option Nat
 |[]=>none
 |[x]=>some x
 |_::r=>afx r
def QB (q:AV) (s:St) (k:AV->Bool):Bool:=
 match q with
 | .ptr i 0=>match s.h.get i with
  |some (.iter (some m) _ seen c)=>match s.h.get m,afx seen with
   |some (.map es c'),some n=>cond (Xc es && Nat.beq c c') (match MI n es with
    |some (a,b)=>k (.kW [a,b])
    |none=>false) false
   |_,_=>false
  |_=>false
 |_=>false
def QM (mx:Bool):Int->List AV->IntKind->(AV->Bool)->Bool
 |x,[],k,f=>fI x λx=>f (.int k x)
 |x,.int _ y::r,k,f=>QM mx (cond mx (cond (decide (y>x)) y x) (cond (decide (y<x)) y x)) r k f
 |_,_::_,_,_=>false
def biC (P:Program) (b:Builtin) (ts:List TypeId) (args:List AV) (s:St) (k:AV->St->Bool):Bool:=
 match b with
 | .len=>match ts,args with
  |[t],[x]=>match P.underlying t,x with
   |some .string,.str b=>fN b.size λn=>k (.int .i64 (.ofNat n)) s
   |some (.array n _),_=>k (.int .i64 (.ofNat n)) s
   |some (.slice _),x=>match Sv x with
    |some n=>k (.int .i64 (.ofNat n)) s
    |none=>false
   |some (.map _ _),.map0=>k (.int .i64 (.ofNat 0)) s
   |some (.map _ _),.map r=>match s.h.get r with
    |some (.map es _)=>fN es.length λn=>k (.int .i64 (.ofNat n)) s
    |_=>false
   |_,_=>false
  |_,_=>false
 | .cap=>match ts,args with
  |[t],[x]=>match P.underlying t,x with
   |some (.slice _),.sl0=>k (.int .i64 (.ofNat 0)) s
   |some (.slice _),.sl _ _ _ c=>k (.int .i64 (.ofNat c)) s
   |_,_=>false
  |_,_=>false
 | .max=>match args with
  | .int kd x::r=>QM true x r kd λv=>k v s
  |_=>false
 | .min=>match args with
  | .int kd x::r=>QM false x r kd λv=>k v s
  |_=>false
 | .append=>match ts,args with
  |[t,t'],[x,y]=>match P.underlying t,P.underlying t' with
   |some (.slice e),some d=>match gG P e,C_ P e,jG P e with
    |some size,some bytes,some z=>match d with
     | .slice _=>match Sv y with
      |some n=>match slC s size n y with
       |some vs=>VI size bytes z.length x n vs s k
       |none=>false
      |none=>false
     | .string=>match y with
      | .str b=>VI size bytes z.length x b.size (byA b.data.toList) s k
      |_=>false
     | .int _=>match y,BL z with
      | .int _ (.ofNat n),some za=>cond (Nat.beq z.length size && (Nat.ble (n * bytes) (2^46) && Nat.ble n (2^62))) (VI size bytes z.length x n (ZA za n) s k) false
      |_,_=>false
     |_=>false
    |_,_,_=>false
   |_,_=>false
  |_,_=>false
 | .copy=>match ts,args with
  |[t,_],[x,y]=>match P.underlying t with
   |some (.slice e)=>match gG P e,Sv x,Sv y with
    |some size,some n,some m=>match slC s size (Nat.min m n) y with
     |some vs=>match x with
      | .sl i o _ _=>wrC s i o vs λs'=>k (.int .i64 (.ofNat (Nat.min m n))) s'
      | .slo i o _ _=>wrC s i o vs λs'=>k (.int .i64 (.ofNat (Nat.min m n))) s'
      | .sl0=>k (.int .i64 (.ofNat 0)) s
      |_=>false
     |none=>false
    |_,_,_=>false
   |_=>false
  |_,_=>false
 | .clear=>match ts,args with
  |[t],[x]=>match P.underlying t with
   |some (.slice e)=>match gG P e,CX P e,x with
    |some size,some z,.sl i o n _=>cond (Nat.beq z.length size) (wrC s i o (ZA z n) λs'=>k (.kW []) s') false
    |some size,some z,.slo i o n _=>cond (Nat.beq z.length size) (wrC s i o (ZA z n) λs'=>k (.kW []) s') false
    |some size,some z,.sl0=>cond (Nat.beq z.length size) (k (.kW []) s) false
    |_,_,_=>false
   |_=>false
  |_,_=>false
 | .delete=>match ts,args with
  |[t,_],[m,key]=>match P.underlying t with
   |some (.map kt _)=>aeS P kt m key s λs'=>k (.kW []) s'
   |_=>false
  |_,_=>false
 |_=>false
def alO:List AV->AV
 |[v]=>v
 |vs=> .kW vs
section
variable (P:Program)
def ab9 (c a b:AV) (s:St) (k:AV->St->Bool):Bool:=
 match c with
 | .bool t=>cond t (k a s) (k b s)
 |_=>false
def VF (e:TypeId) (s:St) (k:AV->St->Bool):Bool:=
 match CX P e with
 |some z=>Dv s (.row z 1 false) λi s'=>k (.ptr i 0) s'
 |none=>false
def ag5 (e:TypeId) (x:AV) (s:St) (k:AV->St->Bool):Bool:=
 match shapeOf P e with
 |some (.one _)=>cond (one x) (Dv s (.row [x] 1 false) λi s'=>k (.ptr i 0) s') false
 |some (.agg _)=>match x with
  | .agg cs=>Dv s (.row cs 1 false) λi s'=>k (.ptr i 0) s'
  |_=>false
 |none=>false
def VQ (t:TypeId) (ps:List (Nat×AV)) (k:AV->Bool):Bool:=
 match CX P t,P.underlying t with
 |some z,some (.struct fs)=>match placesOf P fs.toList with
  |some pl=>match Oa (λi=>pl[i]?) ps z with
   |some cs=>k (.agg cs)
   |none=>false
  |none=>false
 |some z,some (.array _ e)=>match gG P e with
  |some size=>match Oa (λi=>some (i * size,size)) ps z with
   |some cs=>k (.agg cs)
   |none=>false
  |none=>false
 |_,_=>false
def Po (t:TypeId) (n:Nat) (ps:List (Nat×AV)) (s:St) (k:AV->St->Bool):Bool:=
 match P.underlying t with
 |some (.slice e)=>match gG P e,CX P e with
  |some size,some z=>cond (Nat.ble (n * size) 4096 && Nat.beq z.length size)
   (cond (UF (shapeOf P e)) (cond (Nat.beq size 1 && Bv (ps.map λp=>p.2)) (match WH ps (ZA z n) with
    |some cs=>Dv s (.row cs size false) λi s'=>k (.sl i 0 n n) s'
    |none=>false) false)
    (match Oa (λi=>some (i * size,size)) ps (ZA z n) with
    |some cs=>Dv s (.row cs size false) λi s'=>k (.sl i 0 n n) s'
    |none=>false)) false
  |_,_=>false
 |_=>false
def ldC (t:TypeId) (x:AV) (s:St) (k:AV->St->Bool):Bool:=
 match x,shapeOf P t,gG P t with
 | .ptr i a,some (.one kd),some n=>cond (Nat.beq 1 n) (match rdC s i a 1 with
  |some [v]=>cond (kOk kd v) (k v s) false
  |_=>false) false
 | .ptr i a,some (.agg ks),some n=>cond (Nat.beq ks.length n) (match rdC s i a n with
  |some vs=>cond (QY ks vs) (k (.agg vs) s) false
  |none=>false) false
 |_,_,_=>false
def stC (t:TypeId) (x y:AV) (s:St) (k:AV->St->Bool):Bool:=
 match x,shapeOf P t,gG P t with
 | .ptr i a,some (.one _),some n=>cond (Nat.beq n 1) (wrC s i a [y] λs'=>k (.kW []) s') false
 | .ptr i a,some (.agg _),some n=>match y with
  | .agg cs=>cond (Nat.beq cs.length n) (wrC s i a cs λs'=>k (.kW []) s') false
  |_=>false
 |_,_,_=>false
def nlC (x:AV) (k:AV->Bool):Bool:=
 match x with
 | .ptr i a=>k (.ptr i a)
 |_=>false
def alh (fn:Fn) (first cap:List AV) (k:AV->Bool):Bool:=
 match fn with
 | .func f=>k (.fn f first cap)
 |_=>false
def ab4 (t:TypeId) (m key:AV) (c:Bool) (s:St) (k:AV->St->Bool):Bool:=
 match P.underlying t with
 |some (.map kt et)=>match shapeOf P et,qM P et with
  |some sh,some z=>match Fp z with
   |some za=>adh P kt m key za s λv b=>cond (alD sh v) (cond c (k (.kW [v,.bool b]) s) (k v s)) false
   |none=>false
  |_,_=>false
 |_=>false
def alU (t:TypeId) (m key v:AV) (s:St) (k:AV->St->Bool):Bool:=
 match P.underlying t with
 |some (.map kt _)=>abe P kt m key v s λs'=>k (.kW []) s'
 |_=>false
def ab5 (t:TypeId) (m key:AV) (s:St) (k:AV->St->Bool):Bool:=
 match P.underlying t with
 |some (.map kt et)=>match qM P et with
  |some z=>match Fp z,adv P kt key,m with
   |some za,some kv,.map r=>match s.h.get r with
    |some (.map es c)=>match QK P kt kv es 0 with
     |some (some (i,q,v))=>cond (B_ q key) (match es[i]? with
      |some (_,v',b)=>CO s r (.map (es.set i (key,v',b)) c) λs'=>k (.kW [v',.int .i64 (.ofNat b)]) s'
      |none=>false) false
     |some none=>CO s r (.map (es++[(key,za,c)]) (c+1)) λs'=>k (.kW [za,.int .i64 (.ofNat c)]) s'
     |none=>false
    |_=>false
   |_,_,_=>false
  |none=>false
 |_=>false
def ahv (n:Nat):List (AV×AV×Nat)->Option Nat
 |[]=>none
 |e::es=>cond (Nat.beq e.2.2 n) (some 0) (match ahv n es with
  |some i=>some (i+1)
  |none=>none)
def ahS (m st v:AV) (s:St) (k:AV->St->Bool):Bool:=
 match m,st with
 | .map r,.int _ (.ofNat n)=>match s.h.get r with
  |some (.map es c)=>match ahv n es with
   |some i=>match es[i]? with
    |some (q,_,b)=>CO s r (.map (es.set i (q,v,b)) c) λs'=>k (.kW []) s'
    |none=>false
   |none=>false
  |_=>false
 |_,_=>false
def ali (s:St) (k:AV->St->Bool):Bool:=Dv s (.map [] 0) λi s'=>k (.map i) s'
def alj (t:TypeId) (l c:AV) (s:St) (k:AV->St->Bool):Bool:=
 match P.underlying t,l,c with
 |some (.slice e),.int _ (.ofNat n),.int _ (.ofNat m)=>match gG P e,C_ P e,CX P e with
  |some size,some bytes,some z=>cond (Nat.beq z.length size && (Nat.ble n m && (Nat.ble m (2^62) && Nat.ble (bytes * m) (2^48)))) (Dv s (.row (ZA z m) size false) λi s'=>k (.sl i 0 n m) s') false
  |_,_,_=>false
 |_,_,_=>false
def faC (t:TypeId) (x:AV) (f:Nat) (k:AV->Bool):Bool:=
 match P.underlying t,x with
 |some (.struct fs),.ptr i a=>match yw P fs f with
  |some (off,size)=>cond (Nat.beq size 0) false (fN (a+off) λa'=>k (.ptr i a'))
  |none=>false
 |_,_=>false
def fdC (t:TypeId) (x:AV) (f:Nat) (k:AV->Bool):Bool:=
 match P.underlying t,x with
 |some (.struct fs),.agg cs=>match fs.toList[f]? with
  |some fd=>match P.underlying fd.type,gG P fd.type with
   |some d,some size=>Vf d size fd.offset cs k
   |_,_=>false
  |none=>false
 |_,_=>false
def iaC (t:TypeId) (x i:AV) (k:AV->Bool):Bool:=
 match P.underlying t,x,i with
 |some (.slice e),x,.int _ (.ofNat i)=>match gG P e,x with
  |some size,.sl b o len _=>cond (Nat.blt i len) (fN (o+i * size) λa=>k (.ptr b a)) false
  |some size,.slo b o len _=>cond (Nat.blt i len) (fN (o+i * size) λa=>k (.ptr b a)) false
  |_,_=>false
 |some (.array n e),.ptr b o,.int _ (.ofNat i)=>match gG P e with
  |some size=>cond (Nat.blt i n) (fN (o+i * size) λa=>k (.ptr b a)) false
  |none=>false
 |_,_,_=>false
def ixC (t:TypeId) (x i:AV) (k:AV->Bool):Bool:=
 match P.underlying t,x,i with
 |some .string,.str b,.int _ (.ofNat i)=>match b.data.toList[i]? with
  |some c=>fN c.toNat λn=>k (.int .u8 (.ofNat n))
  |none=>false
 |some (.array n e),.agg cs,.int _ (.ofNat i)=>match P.underlying e,gG P e with
  |some d,some size=>cond (Nat.blt i n) (Vf d size (i * size) cs k) false
  |_,_=>false
 |_,_,_=>false
def exC (ty:TypeId) (t:AV) (i:Nat) (k:AV->Bool):Bool:=
 match t with
 | .kW vs=>match vs[i]? with
  |some v=>match shapeOf P ty with
   |some (.one kd)=>cond (kOk kd v) (k v) false
   |_=>k v
  |none=>false
 |_=>false
def rgC (t:TypeId) (x:AV) (s:St) (k:AV->St->Bool):Bool:=
 match P.underlying t,x with
 |some (.map _ _),.map0=>Dv s (.iter none 0 [] 0) λi s'=>k (.ptr i 0) s'
 |some (.map _ _),.map r=>match s.h.get r with
  |some (.map _ c)=>Dv s (.iter (some r) c [] c) λi s'=>k (.ptr i 0) s'
  |_=>false
 |_,_=>false
def clC (cb:Cb) (ty:TypeId) (f:FuncId) (args:List AV) (s:St) (k:AV->St->Bool):Bool:=
 match xq P ty with
 |some sh=>cond (jZ P f) (cb.call f args s λrs s'=>cond (LZ sh rs) (k (alO rs) s') false) false
 |none=>false
def cvC (cb:Cb) (ty:TypeId) (v:AV) (args:List AV) (s:St) (k:AV->St->Bool):Bool:=
 match xq P ty,v with
 |some sh,.fn f first cap=>cond (jZ P f) (cb.call f (first++(args++cap)) s λrs s'=>cond (LZ sh rs) (k (alO rs) s') false) false
 |some sh,.yld l=>cb.yld l args s λb s'=>cond (LZ sh [.bool b]) (k (.bool b) s') false
 |_,_=>false
def ivC (cb:Cb) (ty:TypeId) (x:AV) (name:String) (args:List AV) (s:St) (k:AV->St->Bool):Bool:=
 match x with
 | .ifc t v=>match P.underlying t,Rj P t name with
  |some d,some f=>cond (Jr d) false (clC P cb ty f (v::args) s k)
  |_,_=>false
 |_=>false
def ahR (t:TypeId) (x:AV) (k:AV->Bool):Bool:=
 match P.underlying t with
 |some (.interface _)=>false
 |some _=>k (.ifc t x)
 |none=>false
def ab6 (op:BinOp) (t:TypeId) (x y:AV) (k:AV->Bool):Bool:=
 match yL op,P.underlying t,x,y with
 |some s,some (.interface _),.nilI,.nilI=>k (.bool s)
 |some s,some (.interface _),.ifc _ _,.nilI=>fB (!s) λs=>k (.bool s)
 |_,_,_,_=>false
def ahi (op:BinOp) (t:TypeId) (ρ:Operand->AV) (x y:Operand) (k:AV->Bool):Bool:=
 match y with
 | .const .nilIface=>ab6 P op t (ρ x) (ρ (.const .nilIface)) k
 |y=>aer P op t (ρ x) (ρ y) k
def asC (t:TypeId) (x:AV) (ok:Bool) (k:AV->Bool):Bool:=
 match P.underlying t,qM P t with
 |some (.interface _),_=>false
 |some _,some z=>match x with
  | .ifc t' v=>cond (Nat.beq t' t) (k (cond ok (.kW [v,.bool true]) v)) (cond ok (match Fp z with
   |some a=>k (.kW [a,.bool false])
   |none=>false) false)
  | .nilI=>cond ok (match Fp z with
   |some a=>k (.kW [a,.bool false])
   |none=>false) false
  |_=>false
 |_,_=>false
def ccC (cb:Cb) (ty:TypeId) (ρ:Operand->AV) (c:Callee) (ts:List TypeId) (args:List AV) (s:St) (k:AV->St->Bool):Bool:=
 match c with
 | .value x=>match x with
  | .func f=>clC P cb ty f args s k
  |x=>cvC P cb ty (ρ x) args s k
 | .builtin b=>biC P b ts args s k
 | .invoke x name=>ivC P cb ty (ρ x) name args s k
def opC (cb:Cb) (op:Op) (ty:TypeId) (ρ:Operand->AV) (s:St) (k:AV->St->Bool):Bool:=
 match op with
 | .move x=>k (ρ x) s
 | .assign x=>k (ρ x) s
 | .pick c a b=>ab9 (ρ c) (ρ a) (ρ b) s k
 | .alloc e=>VF P e s k
 | .box e x=>ag5 P e (ρ x) s k
 | .build t ps=>VQ P t (ps.toList.map λp=>(p.1,ρ p.2)) λv=>k v s
 | .buildSlice t n ps=>Po P t n (ps.toList.map λp=>(p.1,ρ p.2)) s k
 | .load t x=>ldC P t (ρ x) s k
 | .store t x y=>stC P t (ρ x) (ρ y) s k
 | .nilCheck x=>nlC (ρ x) λv=>k v s
 | .binOp op t x y _=>ahi P op t ρ x y λv=>k v s
 | .unOp op _ x=>unC op (ρ x) λv=>k v s
 | .convert sd d x=>Yw P sd d (ρ x) s k
 | .makeFunc fn first cap=>alh fn (first.toList.map ρ) (cap.toList.map ρ) λv=>k v s
 | .lookup t x i c=>ab4 P t (ρ x) (ρ i) c s k
 | .mapUpdate t x i v=>alU P t (ρ x) (ρ i) (ρ v) s k
 | .mapEntry t x i=>ab5 P t (ρ x) (ρ i) s k
 | .entryStore _ x st v=>ahS (ρ x) (ρ st) (ρ v) s k
 | .makeMap _ none=>ali s k
 | .makeSlice t l c=>alj P t (ρ l) (ρ c) s k
 | .slice t x lo hi mx=>SA P t (ρ x) ρ lo hi mx s λv=>k v s
 | .fieldAddr t x f=>faC P t (ρ x) f λv=>k v s
 | .field t x f=>fdC P t (ρ x) f λv=>k v s
 | .indexAddr t x i=>iaC P t (ρ x) (ρ i) λv=>k v s
 | .index t x i=>ixC P t (ρ x) (ρ i) λv=>k v s
 | .extract t i=>exC P ty (ρ t) i λv=>k v s
 | .range t x=>rgC P t (ρ x) s k
 | .next x false=>Y6 (ρ x) s k
 | .entry x=>QB (ρ x) s λv=>k v s
 | .makeInterface t x=>ahR P t (ρ x) λv=>k v s
 | .typeAssert x _ t ok=>asC P t (ρ x) ok λv=>k v s
 | .call c=>ccC P cb ty ρ c.callee c.argTypes.toList (c.args.toList.map ρ) s k
 |_=>false
end
end
end Gp.Rn
end
