import Derived.Test.YtfndjkoiappemaaGreatW7
import Derived.Test.YtfndjkoiappemaaGreatW3
import Derived.Test.YtfndjkoiappemaaGreatW2
section
namespace Go.Proofs.WN
open Gp Gp.Wh
set_option maxRecDepth 100000
abbrev eI (x:Int):List Value:=[.int .i64 x]
theorem jB (x:Int):(eI x).length=1:=rfl
theorem SE (x:Int):∀v∈eI x,gY v=true:=by intro v hv;rw [List.mem_singleton.1 hv];rfl
theorem abR {l:PL} {id:Int} {t:Tm} (h:jl l id=some t):(uN l id).length+1=l.length:=by
 induction l with
 |nil=>cases h
 |cons x l ih=>
  unfold uN
  unfold jl at h
  by_cases hx:id=x.1
  ·rw [if_pos hx];simp
  ·rw [if_neg hx] at h ⊢
   simp only [List.length_cons]
   have:=ih h;omega
section
variable {w w':World} {d m:Nat} {ss:List b_} {l:PL} {now:Nat} {tn most:Int} {F:Fs}
def CZ (p d now:Nat) (W:World):Prop:=Row W p [.pointer (some ⟨d,0,none⟩)]/\W.cell? ⟨d,449,none⟩=some (.int .i64 (now:Int))
theorem CZ.ext {p d now:Nat} {W W':World} (h:CZ p d now W) (hx:Ext W W'):CZ p d now W':=⟨h.1.ext hx,BG h.2 hx⟩
theorem acQ (p d now:Nat):FnT (Value.func (.func F7) #[] #[.pointer (some ⟨p,0,none⟩)]) (CZ p d now) (fun x=>(x.a:Int) !=(now:Int)):=by
 intro x W K hC hK
 refine lV (by kernel_rfl) ?_
 have:yA x.id x.a x.tn ⟨p,0,none⟩ W fun r W'=>r=((x.a:Int) !=(now:Int))/\Ext W W':=by
  apply Eh
  refine fK fun q W1 q1 _ _ g1=> ?_
  have y:=g1.trans (Ext.drew W1)
  have hC':=hC.ext y
  simp only [sx,q1.drew.cell,hC'.1.cell,hC'.2]
  exact⟨by trivial,y⟩
 refine Calls.mono this ?_
 rintro e W' ⟨r,he,rfl,hf⟩
 exact⟨_,he,hK W' hf⟩
theorem adH (p d now:Nat):FnT (Value.func (.func GU) #[] #[.pointer (some ⟨p,0,none⟩)]) (CZ p d now) (fun x=>(x.a:Int)==(now:Int)):=by
 intro x W K hC hK
 refine lV (by kernel_rfl) ?_
 have:yC x.id x.a x.tn ⟨p,0,none⟩ W fun r W'=>r=((x.a:Int)==(now:Int))/\Ext W W':=by
  apply Ei
  refine fK fun q W1 q1 _ _ g1=> ?_
  have y:=g1.trans (Ext.drew W1)
  have hC':=hC.ext y
  simp only [sx,q1.drew.cell,hC'.1.cell,hC'.2]
  exact⟨by trivial,y⟩
 refine Calls.mono this ?_
 rintro e W' ⟨r,he,rfl,hf⟩
 exact⟨_,he,hK W' hf⟩
theorem abq (h:WS w d m ss l now tn most F):
  mW (some ⟨d,0,none⟩) w fun r w'=>fD w w' (mF d m ss)/\∃D:List Tm,D.Pairwise (fun x y=>x.tn<y.tn)/\(∀t,t∈D↔jl l t.id=some t/\t.a=now)/\iI 1 eI w' r (D.map Tm.id)/\(∀b,b_.at r b->w.heap.size<=b)/\
   ∃ss' l' F',WS w' d m ss' l' now tn most F'/\(∀id t,jl l' id=some t↔jl l id=some t/\t∉D)/\l'.length+D.length=l.length/\(∀b,mF d m ss' b->mF d m ss b\/w.heap.size<=b)/\(∀b,b_.at r b->¬mF d m ss' b):=by
 apply Iy
 refine⟨rfl,fK fun p w1 r1 e1 z1 f1=> ?_⟩
 have x1:=f1.trans (Ext.drew w1)
 have h1:=h.ext x1
 have r1d:=r1.drew
 have hp:∀b,mF d m ss b->b≠p:=fun b hb=>by have:=h.wm.lt hb;omega
 simp only [sx,r1d.cell,h1.wm.TG]
 refine sJ (O8 h1.wm h.wi.nw h.wi.nw) ?_
 rintro _ w2 ⟨⟨n,hn,hlv,rfl⟩,f2⟩
 have hn0:n=0:=hlv.uniq (Lv.self now)
 subst hn0
 rw [Nat.zero_mul,Nat.zero_add]
 have x2:=x1.trans f2
 have h2:=h.ext x2
 have r2:=r1d.ext f2
 have hk:=zy now 0
 obtain⟨s,hs,hb⟩:=h2.wm.buf 0 (dg now 0) (by omega) hk
 rw [Nat.zero_mul,Nat.zero_add] at hs
 have hll:=Nat.le_trans (WI.short h.wi (fun _ _ e=>e) (show 0<7 by omega) hk) (by have:=h.mo;omega:l.length<=2^20)
 have hat:∀b,b_.at s b->mF d m ss b:=fun b hb=> .inr (.inr ⟨_,s,hs,hb⟩)
 have all:∀t∈F 0 (dg now 0),t.a=now:=fun t ht=>(h.wi.X5.1 ht).2
 have s2:CZ p d now w2:=⟨r2,h2.wm.TG⟩
 simp only [vU,fA,fG,h2.wm.cs hs]
 refine qE (Ph (hb.sl kS (by omega)) (by omega)) ?_
 rintro c3 w3 ⟨f3,b3,n3⟩
 have h3:=h2.ext f3
 have s3:=s2.ext f3
 have hz0:=h.wm.lt (.inl rfl:mF d m ss d)
 have hx2:=x2.size
 have hx3:=f3.size
 refine iL (Rn b3 (by omega) (acQ p d now) fun W hf=> ?_) ?_
 ·refine⟨s3.1.fr hf fun e=> ?_,Az s3.2 hf fun e=> ?_⟩
  ·have:=n3 p e;have:=r2.lt;omega
  ·have:=n3 d e;omega
 rintro c4 w4 ⟨b4,f4,n4⟩
 have e4:(F 0 (dg now 0)).filter (fun x=> !((x.a:Int) !=(now:Int)))=F 0 (dg now 0):=List.filter_eq_self.2 fun t ht=>by rw [all t ht];simp
 rw [e4] at b4
 have old3:∀b,b<w2.heap.size->¬b_.at c3 b:=fun b hb e=>by have:=n3 b e;omega
 have h4:=h3.fr f4 fun b hb e=>old3 b (h2.wm.lt hb) e
 have s4:CZ p d now w4:=⟨s3.1.fr f4 (old3 p r2.lt),h4.wm.TG⟩
 have b34:iI 3 eT w4 s (F 0 (dg now 0)):=(hb.ext f3).fr f4 fun b hb' e=>old3 b (hb.lt hb') e
 have hs4:=h4.wm.cs hs
 simp only [hs4,fA,fG]
 refine iL (Rn b34 (by omega) (adH p d now) fun W hf=>⟨s4.1.fr hf fun e=>hp p (hat p e) rfl,Az s4.2 hf fun e=>(h.wm.ne d ⟨_,s,hs,e⟩).1 rfl⟩) ?_
 rintro c5 w5 ⟨b5,f5,n5⟩
 have e5:(F 0 (dg now 0)).filter (fun x=> !((x.a:Int)==(now:Int)))=[]:=List.filter_eq_nil_iff.2 fun t ht=>by rw [all t ht];simp
 rw [e5] at b5
 rw [show (⟨d,dg now 0,none⟩:Addr)=⟨d,0 * 64+dg now 0,none⟩ by rw [Nat.zero_mul,Nat.zero_add]]
 refine h4.wm.abI (n:=0) (k:=dg now 0) (by omega) hk (by rw [Nat.zero_mul,Nat.zero_add];exact hs) (S:=b_.at s) f5 (fun b _ hb=>hb) b5 (fun b hb=> .inl (n5 b hb)) (by simp) fun w6 h6 f6 z6=> ?_
 rw [Nat.zero_mul,Nat.zero_add] at h6
 have c4new:∀b,b_.at c4 b->w2.heap.size<=b:=fun b hb=>n3 b (n4 b hb)
 have sold:∀b,b_.at s b->b<w2.heap.size:=fun b hb'=>hb.lt hb'
 have b46:iI 3 eT w6 c4 (F 0 (dg now 0)):=((b4.fr f5 fun b hb' e=>by have:=c4new b hb';have:=sold b e;omega)).fr f6 fun b hb' e=>by have:=c4new b hb';omega
 have f06:fD w w6 (mF d m ss):=(((((x2.trans f3) (mF d m ss)).trans f4 fun b hb1 hb2=>by have:=n3 b hb2;omega).trans f5 fun b _ e=>hat b e)).trans f6 fun b _ e=> .inl e
 have sub6:∀b,mF d m (ss.set (dg now 0) c5) b->mF d m ss b:=fun b hb'=>by
  rcases hb' with g|g|⟨j,u,hj,hu⟩
  ·exact .inl g
  ·exact .inr (.inl g)
  ·rw [List.getElem?_set] at hj
   split at hj
   ·split at hj
    ·cases hj;exact hat b (n5 b hu)
    ·cases hj
   ·exact .inr (.inr ⟨j,u,hj,hu⟩)
 have r6:Row w6 p [.pointer (some ⟨d,0,none⟩)]:=(s4.1.fr f5 fun e=>hp p (hat p e) rfl).fr f6 fun e=>hp d (.inl rfl) e.symm
 have hz6:w2.heap.size<=w6.heap.size:=by have:=f4.size;have:=f5.size;have:=f6.size;omega
 refine oV (Z9 b46 (by omega)) ?_
 rintro w7 ⟨f7,D,hperm,hsort,b7⟩
 have lt2:∀b,mF d m (ss.set (dg now 0) c5) b->b<w2.heap.size:=fun b hb'=>h2.wm.lt (sub6 b hb')
 have h7:=h6.fr f7 fun b hb' e=>by have:=c4new b e;have:=lt2 b hb';omega
 have r7:=r6.fr f7 fun e=>by have:=c4new p e;have:=r2.lt;omega
 have f07:fD w w7 (mF d m ss):=f06.trans f7 fun b hb1 e=>by have:=c4new b e;omega
 have hmD:∀t,t∈D↔jl l t.id=some t/\t.a=now:=fun t=>by rw [hperm.mem_iff];exact h.wi.X5
 have hnd0:=h.wi.nd 0 (dg now 0) (by omega) hk
 have hDn:(D.map Tm.id).Nodup:=(hperm.map Tm.id).nodup_iff.2 hnd0
 have hDl:D.length<=2^20:=by rw [hperm.length_eq];exact hll
 have hstr:D.Pairwise (fun x y=>x.tn<y.tn):=by
  rw [List.pairwise_iff_getElem] at hsort ⊢
  intro i j hi hj hij
  have q1:=hsort i j hi hj hij
  have m1:=(hmD D[i]).1 (List.getElem_mem hi)
  have m2:=(hmD D[j]).1 (List.getElem_mem hj)
  have:D[i].tn≠D[j].tn:=fun e=>by
   have hid:=h.ti _ _ _ _ m1.1 m2.1 e
   have:=List.pairwise_iff_getElem.1 hDn i j (by simpa using hi) (by simpa using hj) hij
   simp only [List.getElem_map] at this
   exact this hid
  omega
 have clen:=b7.len
 have c4lt:∀b,b_.at c4 b->b<w7.heap.size:=fun b hb'=>b7.lt hb'
 refine fE (fun st W=>∃(i:Nat) (l1:PL),i<=D.length/\st.2.1=(i:Int)/\iI 1 eI W st.1 ((D.take i).map Tm.id)/\(∀b,b_.at st.1 b->w7.heap.size<=b)/\WM W d m (ss.set (dg now 0) c5) l1 now tn most (uZ F 0 (dg now 0) [])/\
   (∀id t,jl l1 id=some t↔jl l id=some t/\t∉D.take i)/\l1.length+i=l.length/\fD w7 W (·=m)) (fun st _=>D.length - st.2.1.toNat)
  ⟨0,l,by omega,rfl,iI.nil,(fun b ⟨o,hb'⟩=>by cases hb'),h7,fun id t=>by simp,by omega,fD.refl _ _⟩ ?_
 rintro⟨out,i,⟨⟩⟩ W ⟨i,l1,hiD,hii,hbo,hno,hWm,hlk,hlen,hfW⟩ next hnext
 simp only at hii hbo hno
 subst hii
 have ml7:m<w7.heap.size:=h7.lt (.inr (.inl rfl))
 by_cases hlt:(i:Int)<(c4.len:Int)
 ·rw [decide_eq_true hlt,cond_true]
  have hlt':i<D.length:=by omega
  have hx:=List.getElem?_eq_getElem hlt'
  have htk:D.take (i+1)=D.take i++[D[i]]:=List.take_succ_eq_append_getElem hlt'
  have hmem:=List.getElem_mem hlt'
  have hndt:D[i]∉D.take i:=fun hin=>by
   have hn2:=hDn
   rw [<- List.take_append_drop (i+1) D,htk,List.map_append,List.map_append,List.nodup_append,List.nodup_append] at hn2
   exact hn2.1.2.2 _ (List.mem_map.2 ⟨_,hin,rfl⟩) _ (by simp) rfl
  generalize D[i]=t at hx htk hmem hndt
  have hbW:iI 3 eT W c4 D:=b7.fr hfW fun b hb' e=>by have:=c4new b hb';have:=h2.wm.lt (.inr (.inl rfl):mF d m ss m);omega
  refine QU (hbW.sl kS (by omega)) hx fun a q0 q1 q2=> ?_
  simp only [fA,fC,q0,q1,q2]
  refine Cc rfl rfl fun q w8 r8 e8 z8 f8=> ?_
  have rpW:Row W p [.pointer (some ⟨d,0,none⟩)]:=r7.fr hfW fun e=>hp m (.inr (.inl rfl)) e.symm
  have y8:=f8.trans (Ext.drew w8)
  have h8:=hWm.ext y8
  have r8d:=r8.drew
  simp only [sx,(rpW.ext y8).cell,h8.SH,r8d.cell]
  refine h8.adX t.id fun w9 h9 f9 z9=> ?_
  have hmq:m≠q:=by have:=hfW.size;omega
  have r9:=r8d.fr f9 fun e=>hmq e.symm
  simp only [List.getElem?_cons_zero,fA,fC,r9.cell]
  refine fK fun q2 w10 r10 e10 z10 f10=> ?_
  have hel:kH 1 eI w10 ⟨some ⟨q2,0,none⟩,1,1⟩ [t.id]:=(iI.row (xs:=[t.id]) (f:=eI) (n:=1) (by simpa using r10)).sl jB (by omega)
  have hbo10:=((hbo.ext y8).fr f9 fun b hb' e=>by have:=hno b hb';omega).ext f10
  refine mg jB hbo10 hel rfl (by omega) SE (by rw [List.length_map,List.length_take,List.length_singleton];omega) (by rw [List.length_map,List.length_take,List.length_singleton];omega) fun o11 w11 b11 f11 n11=> ?_
  have hlt1:jl l1 t.id=some t:=(hlk t.id t).2 ⟨((hmD t).1 hmem).1,hndt⟩
  have h11:=(h9.ext f10).fr f11 fun b hb' e=>by
   have:=hno b e
   have:=h7.lt hb'
   omega
  have hwz:w8.drew.heap.size=w8.heap.size:=rfl
  have f7z:=hfW.size
  have f8z:=f8.size
  have f9z:=f9.size
  have f10z:=f10.size
  have f711:fD w7 w11 (·=m):=((((hfW.ext y8).trans f9 fun _ _ e=>e).ext f10)).trans f11 fun b hb1 e=>by have:=hno b e;omega
  rw [wrap_i64 (by omega) (by omega)]
  refine hnext _ _ ⟨i+1,_,by omega,by simp,?_,?_,h11,fun id u=> ?_,?_,f711⟩ (by simp only;omega)
  ·simp only
   rw [htk,List.map_append];exact b11
  ·simp only
   intro b hb'
   rcases n11 b hb' with g|g
   ·exact hno b g
   ·omega
  ·rw [DV hWm.nd,htk,List.mem_append,List.mem_singleton]
   by_cases hid:id=t.id
   ·rw [if_pos hid]
    constructor
    ·intro hx;cases hx
    ·rintro⟨g1,g2⟩
     rw [hid,((hmD t).1 hmem).1] at g1
     cases g1
     exact absurd (.inr rfl) g2
   ·rw [if_neg hid,hlk]
    constructor
    ·rintro⟨g1,g2⟩
     refine⟨g1,?_⟩
     rintro(g|rfl)
     ·exact g2 g
     ·exact hid ((h.wi.pl _ _ g1).1).symm
    ·rintro⟨g1,g2⟩
     exact⟨g1,fun g=>g2 (.inl g)⟩
  ·have:=abR hlt1;omega
 ·rw [decide_eq_false hlt,cond_false]
  have:i=D.length:=by omega
  subst this
  rw [List.take_length] at hbo hlk
  have hfin:fD w W (mF d m ss):=f07.trans hfW fun b _ e=> .inr (.inl e)
  have hmem':∀u,u∈F 0 (dg now 0)↔u∈D:=fun u=>hperm.mem_iff.symm
  have hrest:rest (jl l) (F 0 (dg now 0))=jl l1:=by
   funext id
   cases hq:jl l1 id with
   |some t=>
    have:=(hlk id t).1 hq
    exact uP.2 ⟨this.1,fun e=>this.2 ((hmem' t).1 e)⟩
   |none=>
    cases hr:rest (jl l) (F 0 (dg now 0)) id with
    |none=>rfl
    |some t=>
     have:=uP.1 hr
     have:=(hlk id t).2 ⟨this.1,fun e=>this.2 ((hmem' t).2 e)⟩
     rw [hq] at this;cases this
  have hwi:=h.wi.due
  rw [hrest] at hwi
  have hout:∀b,b_.at out b->w7.heap.size<=b:=hno
  have hz7:w.heap.size<=w7.heap.size:=f07.size
  refine⟨hfin,D,hstr,hmD,hbo,fun b hb'=>by have:=hno b hb';omega,_,l1,_,⟨hWm,hwi,⟨h.mo.1,by have:=h.mo.2;omega⟩,fun id t ht=>h.tb id t ((hlk id t).1 ht).1,fun i1 i2 t u q1 q2 q3=>h.ti i1 i2 t u ((hlk i1 t).1 q1).1 ((hlk i2 u).1 q2).1 q3,h.t0⟩,hlk,by omega,fun b hb'=> .inl (sub6 b hb'),fun b hb' e=>by have:=hno b hb';have:=lt2 b e;have:=f7.size;omega⟩
def ltT (x y:Tm):Prop:=x.a<y.a\/(x.a=y.a/\x.tn<y.tn)
theorem LJ (h:WS w d m ss l now tn most F) (a:Int) {T:Nat} (hT:T=max now (min a 1099511627776).toNat):
  jm (some ⟨d,0,none⟩) a w fun r w'=>fD w w' (mF d m ss)/\∃D:List Tm,D.Pairwise ltT/\(∀t,t∈D↔jl l t.id=some t/\t.a<=T)/\iI 1 eI w' r (D.map Tm.id)/\(∀b,b_.at r b->w.heap.size<=b)/\
   ∃ss' l' F',WS w' d m ss' l' T tn most F'/\(∀id t,jl l' id=some t↔jl l id=some t/\T<t.a)/\l'.length+D.length=l.length/\(∀b,mF d m ss' b->mF d m ss b\/w.heap.size<=b)/\(∀b,b_.at r b->¬mF d m ss' b):=by
 apply CS
 have hnw:=h.wi.nw
 have hmo:=h.mo
 have hT40:T<=2^40:=by omega
 have hTn:now<=T:=by omega
 refine kF (BH h.wm) ?_
 rintro _ w2 ⟨rfl,hw⟩
 subst hw
 simp -zeta only [sx,Bool.not_true,h.wm.TG]
 have eT':(if (if (1099511627776:Int)<a then 1099511627776 else a)>(now:Int) then (if (1099511627776:Int)<a then 1099511627776 else a) else (now:Int))=(T:Int):=by
  rw [hT]
  split<;>split<;>omega
 simp -zeta only [eT']
 refine fE (fun st W=>∃(O:List Tm) (ss1:List b_) (l1:PL) (n1:Nat) (F1:Fs),WS W d m ss1 l1 n1 tn most F1/\n1<=T/\now<=n1/\iI 1 eI W st.1 (O.map Tm.id)/\(∀b,b_.at st.1 b->w2.heap.size<=b/\¬mF d m ss1 b)/\O.Pairwise ltT/\
   (∀id t,jl l1 id=some t↔jl l id=some t/\t∉O)/\(∀t∈O,jl l t.id=some t/\t.a<=T)/\(∀t∈O,∀id u,jl l1 id=some u->t.a<u.a)/\l1.length+O.length=l.length/\fD w2 W (mF d m ss)/\(∀b,mF d m ss1 b->mF d m ss b\/w2.heap.size<=b))
  (fun st W=>st.1.cap * 0+(l.length - st.1.len)) ⟨[],ss,l,now,F,h,hTn,Nat.le_refl _,iI.nil,(fun b ⟨o,hb⟩=>by cases hb),List.Pairwise.nil,fun id t=>by simp,by simp,by simp,by simp,fD.refl _ _,fun b hb=> .inl hb⟩ ?_
 rintro⟨out,⟨⟩⟩ W ⟨O,ss1,l1,n1,F1,hW,hn1,hn0,hbo,hno,hso,hlk,hO,hOl,hlen,hf,hsub⟩ next hnext
 simp only at hbo hno
 have hl20:l1.length<=2^20:=by omega
 refine GI (Zm hW.wm hW.wi) ?_
 rintro r t w3 ⟨f3,hres⟩
 have h3:=hW.ext f3
 have hbo3:=hbo.ext f3
 have hf3:=hf.ext f3
 intro J
 have fin:(∀id u,jl l1 id=some u->T<u.a)->J true:=by
  intro hall
  simp only [J,cond_true]
  refine wz (U_ h3.wm h3.wi hn1 hT40 (fun id u hu=>Nat.le_of_lt (hall id u hu)) hl20) ?_
  rintro w4 ⟨f4,ss4,F4,h4,hi4,hs4⟩
  have hW3:w2.heap.size<=w3.heap.size:=hf3.size
  refine⟨hf3.trans f4 fun b hb1 hb2=> ?_,O,hso,fun u=>⟨fun hu=>hO u hu,fun⟨g1,g2⟩=> ?_⟩,hbo3.fr f4 fun b hb e=>(hno b hb).2 e,fun b hb=>(hno b hb).1,ss4,l1,F4,⟨h4,hi4,⟨hmo.1,by omega⟩,h3.tb,h3.ti,h3.t0⟩,fun id u=> ?_,hlen,fun b hb=> ?_,fun b hb e=> ?_⟩
  ·rcases hsub b hb2 with g|g
   ·exact g
   ·omega
  ·refine Classical.byContradiction fun hn=> ?_
   have:=hall _ u ((hlk u.id u).2 ⟨g1,hn⟩)
   omega
  ·rw [hlk]
   constructor
   ·rintro⟨g1,g2⟩
    exact⟨g1,hall id u ((hlk id u).2 ⟨g1,g2⟩)⟩
   ·rintro⟨g1,g2⟩
    exact⟨g1,fun e=>by have:=(hO u e).2;omega⟩
  ·rcases hs4 b hb with g|g
   ·exact hsub b g
   ·exact .inr (by omega)
  ·rcases hs4 b e with g|g
   ·exact(hno b hb).2 g
   ·have:=hbo.lt hb
    have:=f3.size
    omega
 rcases hres with ⟨rfl,hnone⟩|⟨rfl,u,hu,rfl,hge,hmin⟩
 ·rw [Bool.not_false,cond_true]
  exact fin fun id v hv=>by rw [hnone id] at hv;cases hv
 ·rw [Bool.not_true,cond_false]
  by_cases hgt:(u.a:Int)>(T:Int)
  ·rw [decide_eq_true hgt]
   exact fin fun id v hv=>by have:=hmin id v hv;omega
  ·rw [decide_eq_false hgt]
   have hua:u.a<=T:=by omega
   simp only [J,cond_false]
   refine wz (U_ h3.wm h3.wi hge (by omega) hmin hl20) ?_
   rintro w4 ⟨f4,ss4,F4,h4,hi4,hs4⟩
   have hws4:WS w4 d m ss4 l1 u.a tn most F4:=⟨h4,hi4,⟨hmo.1,by omega⟩,h3.tb,h3.ti,h3.t0⟩
   refine Iw (abq hws4) ?_
   rintro r5 w5 ⟨f5,D,hDs,hDm,hb5,hn5,ss5,l5,F5,h5,hlk5,hlen5,hs5,hd5⟩
   have hbo4:=hbo3.fr f4 fun b hb e=>(hno b hb).2 e
   have olt:∀b,b_.at out b->b<w3.heap.size:=fun b hb=>hbo3.lt hb
   have out4:∀b,b_.at out b->¬mF d m ss4 b:=fun b hb e=>by
    rcases hs4 b e with g|g
    ·exact(hno b hb).2 g
    ·have:=olt b hb;omega
   have hbo5:=hbo4.fr f5 fun b hb e=>out4 b hb e
   have z3:=hf3.size
   have z4:=f4.size
   have z5:=f5.size
   have hDl:D.length<=2^20:=by omega
   refine mg jB hbo5 (hb5.sl jB (by omega)) rfl (by omega) SE (by rw [List.length_map,List.length_map];omega) (by rw [List.length_map,List.length_map];omega) fun o6 w6 b6 f6 n6=> ?_
   have f24:fD w2 w4 (mF d m ss):=hf3.trans f4 fun b hb1 hb2=>by
    rcases hsub b hb2 with g|g
    ·exact g
    ·omega
   have f25:fD w2 w5 (mF d m ss):=f24.trans f5 fun b hb1 hb2=>by
    rcases hs4 b hb2 with g|g
    ·rcases hsub b g with g|g
     ·exact g
     ·omega
    ·omega
   have f26:fD w2 w6 (mF d m ss):=f25.trans f6 fun b hb1 hb2=>by have:=(hno b hb2).1;omega
   have out5:∀b,b_.at out b->¬mF d m ss5 b:=fun b hb e=>by
    rcases hs5 b e with g|g
    ·exact out4 b hb g
    ·have:=olt b hb;omega
   have h6:=h5.fr f6 fun b hb e=>out5 b e hb
   rw [<- List.map_append] at b6
   have hD0:0<D.length:=List.length_pos_of_mem ((hDm u).2 ⟨by
    have:=(h3.wi.pl _ _ hu).1
    rw [this];exact hu,rfl⟩)
   have b6l:=b6.len
   have bol:=hbo.len
   rw [List.length_map] at b6l bol
   rw [List.length_append] at b6l
   refine hnext _ _ ⟨O++D,ss5,l5,u.a,F5,h6,hua,by omega,b6,fun b hb=> ?_,?_,fun id v=> ?_,fun v hv=> ?_,fun v hv id x hx=> ?_,by rw [List.length_append];omega,f26,fun b hb=> ?_⟩ (by simp only [Nat.mul_zero,Nat.zero_add];omega)
   ·rcases n6 b hb with g|g
    ·exact⟨(hno b g).1,out5 b g⟩
    ·refine⟨by omega,fun e=> ?_⟩
     have:=h5.wm.lt e
     omega
   ·rw [List.pairwise_append]
    refine⟨hso,hDs.imp_of_mem fun {x y} hx hy hxy=> .inr ⟨?_,hxy⟩,fun x hx y hy=> .inl ?_⟩
    ·rw [((hDm x).1 hx).2,((hDm y).1 hy).2]
    ·exact hOl x hx _ y ((hDm y).1 hy).1
   ·rw [hlk5,hlk,List.mem_append,not_or,and_assoc]
   ·rcases List.mem_append.1 hv with g|g
    ·exact hO v g
    ·obtain⟨g1,g2⟩:=(hDm v).1 g
     exact⟨((hlk _ _).1 g1).1,by omega⟩
   ·obtain⟨q1,q2⟩:=(hlk5 id x).1 hx
    rcases List.mem_append.1 hv with g|g
    ·exact hOl v g id x q1
    ·obtain⟨g1,g2⟩:=(hDm v).1 g
     have:=hmin id x q1
     have:x.a≠u.a:=fun e=>q2 ((hDm x).2 ⟨by rw [(h3.wi.pl _ _ q1).1];exact q1,e⟩)
     omega
   ·rcases hs5 b hb with g|g
    ·rcases hs4 b g with g|g
     ·exact hsub b g
     ·exact .inr (by omega)
    ·exact .inr (by omega)
end
end Go.Proofs.WN
end
section
namespace Go.Proofs.WN
open Gp Gp.Wh
set_option maxRecDepth 100000
theorem CW {α β:Type} {enc:α->Value} {ev:β->Value} {w:World} {K:Addr->World->Prop} (h:∀w1,oz enc ev w1 w.heap.size []->w1.heap.size=w.heap.size+1->Ext w w1->K ⟨w.heap.size,0,none⟩ w1):Al w (.map #[] 0) K:=
 h _ (oz.new w enc ev) (by simp) (fun S=>fD.alloc w _ S)
theorem Xv (n:Int) (hn:0<=n/\n<=1048576) (w:World):uT n w fun p e w'=>Ext w w'/\e=0/\∃d m ss,p=some ⟨d,0,none⟩/\WS w' d m ss [] 0 0 n (fun _ _=>[])/\∀b,mF d m ss b->w.heap.size<=b:=by
 apply Tv
 have c1:¬n<0:=by omega
 have c2:¬n>1048576:=by omega
 simp only [c1,c2,decide_false,cond_false]
 refine CW (enc:=MI) (ev:=evT) fun w4 m4 z4 f4=> ?_
 refine fK fun d w5 r5 e5 z5 f5=> ?_
 have hss:∀(i:Nat) (s:b_),(List.replicate 448 (⟨none,0,0⟩:b_))[i]? =some s->s=⟨none,0,0⟩:=fun i s hi=>by
  rw [List.getElem?_replicate] at hi
  split at hi
  ·cases hi;rfl
  ·cases hi
 have noat:∀b,¬atS (List.replicate 448 (⟨none,0,0⟩:b_)) b:=fun b ⟨i,s,hi,o,hs⟩=>by rw [hss i s hi] at hs;cases hs
 refine⟨f4.trans f5,by trivial,d,w.heap.size,List.replicate 448 ⟨none,0,0⟩,rfl,⟨⟨?_,by simp,m4.ext f5,by simp,fun n k hn hk=> ?_,fun i j s s' b hij hi hj hb=> ?_,fun b hb=>absurd hb (noat b),by omega,fun _ _ _ _=>by simp⟩,⟨fun id t ht=> ?_,by omega,fun n k t hn hk=> ?_,fun n k hn hk=>by simp⟩,⟨by omega,by simpa using hn.1⟩,fun id t ht=> ?_,fun i i' t u ht=> ?_,by omega⟩,fun b hb=> ?_⟩
 ·rw [List.map_replicate];exact r5
 ·refine⟨⟨none,0,0⟩,?_,iI.nil⟩
  rw [List.getElem?_replicate,if_pos (by omega)]
 ·rw [hss i s hi] at hb;obtain⟨o,ho⟩:=hb;cases ho
 ·cases ht
 ·constructor
  ·intro hx;simp at hx
  ·rintro⟨hx,_⟩;cases hx
 ·cases ht
 ·cases ht
 ·rcases hb with rfl|rfl|hb
  ·omega
  ·omega
  ·exact absurd hb (noat b)
end Go.Proofs.WN
end
section
namespace Gp.Pool
def take (G xs:List Int):Option Int:=xs.find? fun p=>decide (p∉G)
end Gp.Pool
namespace Go.Proofs.CN
open Gp
set_option maxRecDepth 100000
theorem mx (a c:Int):(if c>a then c else a)=max a c:=by rw [Int.max_def];split<;>split<;>omega
def yP (l:List Int):List (DC [.one (.int .i64)]):=l.map fun p=>(p,())
def FX (w0 w:World) (v:Value) (l:List Int):Prop:=
 gY v=true/\∃C,n_ Tryz.prog [.one (.int .i64)] v C (yP l)/\∀W S,fD w W S->(∀b,w0.heap.size<=b->b<w.heap.size->¬S b)->C W
theorem FX.ext {w0 w w':World} {v:Value} {l:List Int} (h:FX w0 w v l) (hf:Ext w w'):FX w0 w' v l:=by
 obtain⟨h1,C,h2,h3⟩:=h
 exact⟨h1,C,h2,fun W S hF hS=>h3 W S ((hf S).trans hF fun _ _ e=>e) fun b hb hlt=>hS b hb (by have:=hf.size;omega)⟩
end Go.Proofs.CN
namespace Go.Proofs.CN
open Gp
set_option maxRecDepth 100000
structure ac_ (w W:World) (rs:List (Nat×List Value)):Prop where
 ext:Ext w W
 rows:∀r∈rs,Row W r.1 r.2/\w.heap.size<=r.1
 nd:(rs.map Prod.fst).Nodup
theorem ac_.step {w W W':World} {rs:List (Nat×List Value)} (h:ac_ w W rs) (f:Ext W W'):ac_ w W' rs:=
 ⟨h.ext.trans f,fun r hr=>⟨(h.rows r hr).1.ext f,(h.rows r hr).2⟩,h.nd⟩
theorem FX.back {w0 w1 w:World} {v:Value} {l:List Int} (h:FX w1 w v l) (hf:w0.heap.size<=w1.heap.size):FX w0 w v l:=by
 obtain⟨h1,C,h2,h3⟩:=h
 exact⟨h1,C,h2,fun W S hF hS=>h3 W S hF fun b hb hlt=>hS b (by omega) hlt⟩
end Go.Proofs.CN
namespace Go.Proofs.CN
end Go.Proofs.CN
namespace Go.Proofs.CN
open Gp
open Gp.Pool (take)
set_option maxRecDepth 100000
theorem Qb (a b:Int):(a==b)=decide (a=b):=rfl
theorem eqP (a b:Int):A_ Tryz.prog 16 3 (.int .i64 a) (.int .i64 b)=some (decide (a=b)):=by
 have h:A_ Tryz.prog 16 3 (.int .i64 a) (.int .i64 b)=some (a==b):=by kernel_rfl
 rw [h];rfl
theorem aby (a:Int):kZ Tryz.prog 3 (.int .i64 a)=true:=by
 unfold kZ
 rw [eqP]
 rfl
theorem xP (k:Int) (w:World):rD k w fun r w'=>r=decide (0<=k/\k<4294967296)/\w'=w:=by
 apply Qd
 by_cases h:0<=k
 ·simp [h]
 ·simp [h]
end Go.Proofs.CN
namespace Go.Proofs.CN
open Gp
set_option maxRecDepth 100000
theorem Ai {w w':World} {S:Nat->Prop} (h:fD w w' S) (l:Nat):fD (fB w l) (fB w' l) S:=by
 refine⟨by simpa [fB] using h.size,fun b hb hn=> ?_,h.io⟩
 have:=h.same b (by simpa [fB] using hb) hn
 simp only [fB,Array.getElem?_modify,this]
end Go.Proofs.CN
namespace Go.Proofs.CN
open Gp
set_option maxRecDepth 100000
theorem UM {x y a:Int} (hy:0<=y) (hy2:y<=32) (w:World):oC x y a w fun r w'=>r=(decide (0<=a/\a<4294967296) && (jU .i64 a (32 - y)==jU .i64 x (32 - y)))/\Ext w w':=by
 apply JX
 refine fK fun t w1 r1 e1 z1 f1=> ?_
 simp only [sx,r1.cell]
 refine Bg (xP a _) ?_
 rintro _ w' ⟨rfl,hw⟩
 subst hw
 have f2:=f1.trans (Ext.drew w1)
 by_cases h:0<=a/\a<4294967296
 ·rw [wrap_i64 (by omega) (by omega)]
  simp only [h,decide_true,cond_true,cond_true,List.getElem?_cons_zero,fA,fC,r1.drew.cell,and_self,Bool.true_and]
  exact⟨by omega,by omega,by trivial,f2⟩
 ·simp only [h,decide_false,cond_false,Bool.false_and]
  exact⟨by trivial,f2⟩
def XM (a:Int):Prop:=0<=a/\a<4294967296/\(jU .i64 a 24==jU .i64 0 24)=false/\(jU .i64 a 24==jU .i64 2130706432 24)=false/\(jU .i64 a 29==jU .i64 3758096384 29)=false
theorem abZ {a:Int} (h:XM a) (w:World):ny a w fun r w'=>r=true/\Ext w w':=by
 obtain⟨h1,h2,h3,h4,h5⟩:=h
 apply JW
 refine Bg (xP a _) ?_
 rintro _ w' ⟨rfl,hw⟩
 subst hw
 have hr:(0<=a/\a<4294967296):=⟨h1,h2⟩
 simp only [hr,and_self,decide_true,Bool.not_true,cond_false]
 refine fK fun t w1 r1 e1 z1 f1=> ?_
 refine LU (K:=fun r w2=>r=false/\Ext w1 w2) ?_ ?_
 ·apply Lj
  refine fE (fun st W=>∃j:Nat,j<=3/\st.1=(j:Int)/\Ext w1 W) (fun st _=>(3 - st.1).toNat) ⟨0,by omega,rfl,Ext.refl _⟩ ?_
  rintro⟨i,⟨⟩⟩ W ⟨j,hj,hi,hx⟩ next hnext
  simp only at hi
  subst hi
  have r:=r1.ext hx
  by_cases hlt:j<3
  ·have hl:((j:Int)<((3:Nat):Int)):=by omega
   have hxy:∃x y:Int,0<=y/\y<=32/\(jU .i64 a (32 - y)==jU .i64 x (32 - y))=false/\W.cell? ⟨t,j * 2,none⟩=some (.int .i64 x)/\W.cell? ⟨t,j * 2+1,none⟩=some (.int .i64 y):=by
    match j,hlt with
    |0,_=>exact⟨0,8,by omega,by omega,h3,r.cell 0,r.cell 1⟩
    |1,_=>exact⟨2130706432,8,by omega,by omega,h4,r.cell 2,r.cell 3⟩
    |2,_=>exact⟨3758096384,3,by omega,by omega,h5,r.cell 4,r.cell 5⟩
   obtain⟨x,y,hy,hy2,hs,c0,c1⟩:=hxy
   simp only [sx,hl,decide_true,Int.toNat_natCast,c0,c1]
   refine⟨by first|trivial|omega,by first|trivial|omega,?_⟩
   refine Cc rfl rfl fun b w3 r3 e3 z3 x3=> ?_
   simp only [sx,r3.cell]
   refine Au (UM hy hy2 _) ?_
   rintro _ w4 ⟨rfl,x4⟩
   simp only [hs,Bool.and_false,cond_false]
   rw [wrap_i64 (by omega) (by omega)]
   exact hnext _ _ ⟨j+1,by omega,by simp,(hx.trans x3).trans x4⟩ (by simp only;omega)
  ·have hl:¬((j:Int)<((3:Nat):Int)):=by omega
   simp only [hl,decide_false,cond_false]
   exact⟨by trivial,hx⟩
 ·rintro _ w2 ⟨rfl,f2⟩
  exact⟨rfl,f1.trans f2⟩
end Go.Proofs.CN
namespace Go.Proofs.CN
open Gp
set_option maxRecDepth 100000
theorem RP {w:World} {K:Addr->World->Prop} (h:∀w1,(∀(α:Type) (enc:α->Value),xR enc w1 w.heap.size [])->w1.heap.size=w.heap.size+1->Ext w w1->K ⟨w.heap.size,0,none⟩ w1):Al w (.map #[] 0) K:=
 h _ (fun _ enc=>xR.new w enc) (by simp) (fun S=>fD.alloc w _ S)
end Go.Proofs.CN
end
