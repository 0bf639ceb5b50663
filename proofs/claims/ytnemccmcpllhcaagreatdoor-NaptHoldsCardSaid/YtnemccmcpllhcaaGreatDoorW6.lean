import Derived.Test.YtnemccmcpllhcaaGreatDoorW5
open List (set_set)
set_option maxRecDepth 100000
section
namespace Go.Proofs
open Gp Gp.Hash
theorem abO {m from_ i:Nat} (hm:m<=2^48) (hf:from_<m) (hi:i<m):Int.tmod (ο.wrap ((from_:Int)+(i:Int))) (m:Int)=((cy m (from_+i):Nat):Int):=by
 rw[Α,aj6 (by omega)];have c:=cyc m (from_+i);rcases c with ⟨h1,h2⟩|⟨h1,h2⟩
 ·rw[h2,Int.emod_eq_of_lt (by omega) (by omega)];omega
 ·rw[h2];have:((from_:Int)+(i:Int))=((from_+i - m:Nat):Int)+(m:Int):=by omega
  rw[this,Int.add_emod_right,Int.emod_eq_of_lt (by omega) (by omega)]
theorem Ϡ {w:θ} {f0 f1 b from_ m:Nat} {body:Nat->Ae [.one ν]->θ->(Exit->b_)->Prop} {Kn Kr:b_} {Kx:List (Nat×(b_))}
  (I:Nat->b_) (J:Exit->b_) (hm:m<=2^48) (hf:from_<m)
  (h0:∀w1,(∀S,gU w w1 S)->w1.heap[w.heap.size]? =some (.deferred (some []))->w1.heap.size=w.heap.size+2->I 0 w1)
  (hI:∀i W,I i W->Row W f0 [.pointer (some ⟨b,0,none⟩)]/\Row W f1 [.int .i64 from_]/\∃s,W.cell? ⟨b,0,none⟩=some (.slice s m m))
  (stI:∀i W W',I i W->gU W W' (·=w.heap.size+1)->I i W')
  (stJ:∀e W W',J e W->gU W W' (·=w.heap.size+1)->J e W')
  (jmp:∀e W,J e W->e= .ret\/∃id,e= .exit id)
  (step:∀i W Kb,i<m->I i W->(∀W',W'.heap[w.heap.size+1]? =(gG W (w.heap.size+1)).heap[w.heap.size+1]? ->I (i+1) W'->Kb .normal W')->
   (∀e W',W'.heap[w.heap.size+1]? =(gG W (w.heap.size+1)).heap[w.heap.size+1]? ->J e W'->Kb e W')->body (w.heap.size+1) (((cy m (from_+i):Nat):Int),()) W Kb)
  (fn:∀W,I m W->Kn W) (fr:∀W,J .ret W->Kr W) (fx:∀id W,J (.exit id) W->Sm id Kx W):
  zn υ none [.one ν] (Value.func (.func zi) #[] #[(Value.pointer (some ⟨f0,0,none⟩)),(Value.pointer (some ⟨f1,0,none⟩))]) w body Kn Kr Kx:=by
 refine⟨λl₀ h=>(by cases h),by kernel_rfl,λl L w1 ctx=> ?_⟩;have hl:l=w.heap.size+1:=ctx.at_;subst hl;refine Calls.mono (Ij (a0:= .func (.yield (w.heap.size+1)) #[] #[]) (f0:=⟨f0,0,none⟩) (f1:=⟨f1,0,none⟩)
  (K:=λw2=>∃st p,L st p w2/\st≠.busy/\aeN Kn Kr Kx p (iM w2 (w.heap.size+1) .exhausted p)) ?_) (λe w' h=>h)
 have i0:=h0 w1 (λS=>⟨by have:=ctx.size;omega,λb hb _=>ctx.old b hb,ctx.io⟩) (ctx.marks rfl) ctx.size;obtain⟨r0,r1,s,hs⟩:=hI _ _ i0;simp only[sx,r0.cell,hs];refine gK (λst W=>(∃i:Nat,i<=m/\st.1=i/\I i W)/\L .ready none W) (λst _=>m - st.1.toNat) ⟨⟨0,by omega,rfl,i0⟩,ctx.ready⟩ ?_;rintro⟨x,⟨⟩⟩ W ⟨⟨i,hi,rfl,R⟩,hL⟩ next N
 by_cases U:i<m
 ·have u:((i:Int)<(m:Int)):=by omega
  simp only[u,aaA,Δ];have Y:=stI _ _ _ R (gU.drew W _);have O:L .ready none W.drew:=ctx.frame _ _ _ _ hL rfl;obtain⟨r0,r1,s,hs⟩:=hI _ _ Y;simp only[wG,abY,fZ,gI,gq,oM,r0.cell,r1.cell,hs];refine⟨by omega,?_⟩;rw[abO hm hf U];refine ctx.yield (((cy m (from_+i):Nat):Int),()) W.drew none _ O (step i W.drew _ U Y ?_ ?_)
  ·intro W' hh hI';refine⟨ctx.frame _ _ _ _ (ctx.busy _ _ O) hh,none,rfl,true,rfl,?_⟩;simp only[ab6,Β];refine N _ _ ⟨⟨i+1,by omega,?_,stI _ _ _ hI' (gU.iM _ _ _ _)⟩,ctx.set _ _ _ _ _ (ctx.frame _ _ _ _ (ctx.busy _ _ O) hh)⟩ ?_
   ·simp only;rw[Α];omega
   ·simp only;rw[Α];omega
  ·intro e W' hh hJ;have hb:=ctx.frame _ _ _ _ (ctx.busy _ _ O) hh;rcases jmp _ _ hJ with rfl|⟨id,rfl⟩
   ·refine⟨hb,_,rfl,false,rfl,?_⟩;simp only[aek,Δ];refine⟨.done,some .ret,ctx.set _ _ _ _ _ hb,by simp,?_⟩;exact fr _ (stJ _ _ _ (stJ _ _ _ hJ (gU.iM _ _ _ _)) (gU.iM _ _ _ _))
   ·refine⟨hb,_,rfl,false,rfl,?_⟩;simp only[aek,Δ];refine⟨.done,some (.exit id),ctx.set _ _ _ _ _ hb,by simp,?_⟩;exact fx _ _ (stJ _ _ _ (stJ _ _ _ hJ (gU.iM _ _ _ _)) (gU.iM _ _ _ _))
 ·have u:¬((i:Int)<(m:Int)):=by omega
  simp only[u,aaV,Β];have:i=m:=by omega
  subst this;exact⟨.ready,none,hL,by simp,fn _ (stI _ _ _ R (gU.iM _ _ _ _))⟩
def MZ:vF->ByteArray
 |none=>bs []
 |some x=>x.1
def eN:vF->Int
 |none=>0
 |some x=>x.2
def eU:vF->Bool
 |none=>false
 |some _=>true
def Na (e:vF):List Value:=[.string (MZ e),.int .i64 (eN e),.bool (eU e)]
theorem Hr (e:vF):(Na e).length=3:=rfl
def Ϧ (s:Nat) (L:List vF):fO:=if L=[] then none else some ⟨s,0,none⟩
structure HT (w:θ) (b s:Nat) (L:List vF) (many most:Int):Prop where
 hd:Row w b [.slice (Ϧ s L) L.length L.length,.int .i64 many,.int .i64 most,.bool true]
 row:L≠[]->Row w s (L.flatMap Na)
 ne:L≠[]->b≠s
 sz:L.length<=2^20
theorem HT.fr {w w':θ} {b s:Nat} {L:List vF} {many most:Int} {S:Nat->Prop} (h:HT w b s L many most) (hf:gU w w' S) (h1:¬S b) (h2:L≠[]->¬S s):HT w' b s L many most:=
 ⟨h.hd.fr hf h1,λhn=>(h.row hn).fr hf (h2 hn),h.ne,h.sz⟩
theorem HT.KE {w w':θ} {b s:Nat} {L:List vF} {many most:Int} (h:HT w b s L many most) (hf:∀S,gU w w' S):HT w' b s L many most:=
 h.fr (hf λ_=>False) (by simp) (by simp)
theorem HT.ent {w:θ} {b s:Nat} {L:List vF} {many most:Int} (h:HT w b s L many most) {i:Nat} {e:vF} (hi:L[i]? =some e) (j:Nat) (hj:j<3):w.cell? ⟨s,i * 3+j,none⟩=(Na e)[j]? :=by
 have hn:L≠[]:=by rintro rfl;simp at hi
 rw[(h.row hn).cell,flat_get _ 3 Hr _ _ j hj,hi];rfl
def hTo (k:ByteArray):Nat->Int
 |0=>2166136261
 |i+1=>match k[i]? with
  |some c=>IntKind.u32.wrap (UE .u32 (hTo k i) (IntKind.u32.wrap (c.toNat:Int)) * 16777619)
  |none=>0
def pR (k:ByteArray) (m:Nat):Nat:=(Int.tmod (hTo k k.size) (m:Int)).toNat
theorem ϣ (n:Int):0<=IntKind.u32.wrap n/\IntKind.u32.wrap n<4294967296:=by
 rw[IntKind.wrap_u32];omega
theorem aeB (k:ByteArray) (i:Nat):0<=hTo k i/\hTo k i<4294967296:=by
 cases i with
 |zero=>simp[hTo]
 |succ i=>
  simp only[hTo];split
  ·exact ϣ _
  ·omega
theorem DZ (k:ByteArray) {m:Nat} (hm:0<m):pR k m<m:=by
 unfold pR;have h:=(aeB k k.size).1;rw[aj6 h];have:=Int.emod_lt_of_pos (hTo k k.size) (b:=(m:Int)) (by omega);have:=Int.emod_nonneg (hTo k k.size) (b:=(m:Int)) (by omega);omega
theorem af7 (k:ByteArray) (m:Nat) (hm:0<m) (hm2:m<=2^20) (w:θ) (hk:k.size<=2^63 - 1):GN k (m:Int) w λr w'=>r=(pR k m:Int)/\w'=w:=by
 apply Ya;refine gK (λst W=>(∃i:Nat,i<=k.size/\st.2.1=i/\st.1=hTo k i)/\W=w) (λst _=>k.size - st.2.1.toNat) ⟨⟨0,by omega,rfl,rfl⟩,rfl⟩ ?_;rintro⟨x,y,⟨⟩⟩ W ⟨⟨i,hi,rfl,rfl⟩,rfl⟩ next u
 by_cases I:i<k.size
 ·have h:((i:Int)<(k.size:Int)):=by omega
  simp only[h,aaA,Δ];have hg:k[i]? =some k[i]:=by simp[I]
  refine⟨k[i],by omega,by simp,?_⟩;have e:ο.wrap ((i:Int)+1)=((i+1:Nat):Int):=by rw[Α];omega
  rw[e];refine u _ _ ⟨⟨i+1,by omega,rfl,?_⟩,rfl⟩ (by simp only;omega);simp only[hTo,hg]
 ·have h:¬((i:Int)<(k.size:Int)):=by omega
  simp only[h,aaV,Β];have e1:IntKind.u32.wrap (m:Int)=m:=by rw[IntKind.wrap_u32];omega
  have:i=k.size:=by omega
  subst this;rw[e1];refine⟨by omega,?_,by trivial⟩;have h1:=DZ k hm;have h2:Int.tmod (hTo k k.size) (m:Int)=(pR k m:Int):=by
   unfold pR;have:=Int.tmod_nonneg (m:Int) (aeB k k.size).1;omega
  rw[h2,Α]
theorem abT (tb:Nat) (x:Int) (w:θ):qZ (some ⟨tb,0,none⟩) x w λr w'=>∃f0 f1,r= .func (.func zi) #[] #[(Value.pointer (some ⟨f0,0,none⟩)),(Value.pointer (some ⟨f1,0,none⟩))]/\
  Row w' f0 [.pointer (some ⟨tb,0,none⟩)]/\Row w' f1 [.int .i64 x]/\w.heap.size<=f0/\w.heap.size<=f1/\∀S,gU w w' S:=by
 apply LH;refine⟨rfl,t_ λa2 w1 r1 e1 _ f1=>⟨rfl,t_ λa4 w3 r3 e3 _ f3=>⟨a2,a4,rfl,r1.fr (f3 λ_=>False) (by simp),r3,by omega,by have:=(f1 λ_=>False).size;omega,λS=>(f1 S).trans (f3 S) λ_ _ e=>e⟩⟩⟩
theorem OE {w:θ} {b s:Nat} {L:List vF} {many most:Int} (h:HT w b s L many most):mZ (some ⟨b,0,none⟩) w λr w'=>r=true/\w'=w:=by
 apply JO;simp only[sx,h.hd.cell,aek];exact⟨trivial,trivial⟩
theorem gU.putObj (w:θ) (b:Nat) (o:Obj):gU w (w.putObj b o) (·=b):=
 ⟨by simp[World.putObj],λc _ hn=>by simp[World.putObj,akt];omega,rfl,rfl,rfl⟩
theorem toList_inj {a b:ByteArray} (h:a.toList=b.toList):a=b:=by
 rw[ByteArray.toList_eq,ByteArray.toList_eq] at h
 cases a;cases b
 simp at h;rw[h]
theorem WR {a b:ByteArray}:strEq a b=true↔a=b:=by
 unfold strEq;constructor
 ·intro h;exact toList_inj (by simpa using h)
 ·rintro rfl;simp
theorem Q5 {w:θ} {T:TypeId} {x y z x' y' z':Value} {K:Addr->b_} (h1:iL x'=true) (h2:iL y'=true) (h3:iL z'=true)
  (h:∀a w',Row w' a [x',y',z']->w.heap.size<=a->(∀S,gU w w' S)->K ⟨a,0,none⟩ w'):
  Al w (.cells ⟨[x,y,z]⟩ T) λa w1=>St w1 (a.add 0) x' λw2=>St w2 (a.add 1) y' λw3=>St w3 (a.add 2) z' λw4=>K a w4:=by
 refine t_ λa w1 r1 e1 _ f1=> ?_;simp only[sx];refine gX r1 h1 (by simp) λw2 r2 f2 _=> ?_;refine gX r2 h2 (by simp) λw3 r3 f3 _=> ?_;refine gX r3 h3 (by simp) λw4 r4 f4 _=> ?_;refine h a w4 r4 (by omega) λS=> ?_;exact(((f1 S).trans (f2 (·=a) rfl) λx hx e=>by omega).trans (f3 (·=a) rfl) λx hx e=>by omega).trans (f4 (·=a) rfl) λx hx e=>by omega
def adz (L:List vF) (k:ByteArray) (at_:Int) (t:Bool):Prop:=
 ∃d,First L (pR k L.length) k d/\at_=((cy L.length (pR k L.length+d):Nat):Int)/\
  ((t=true/\∃n,L[cy L.length (pR k L.length+d)]? =some (some (k,n)))\/(t=false/\L[cy L.length (pR k L.length+d)]? =some none))
structure FI (w W:θ) (S:Nat->Prop):Prop where
 fr:gU w W S
 mark:W.heap[w.heap.size]? =some (.deferred (some []))
 size:w.heap.size+2<=W.heap.size
theorem FI.st {w W W':θ} {S:Nat->Prop} (h:FI w W S) (hf:gU W W' (·=w.heap.size+1)):FI w W' S:=
 ⟨h.fr.trans hf λb hb e=>by omega,by rw[hf.same _ (by have:=h.size;omega) (by omega)];exact h.mark,by have:=h.size;have:=hf.size;omega⟩
theorem SB {w:θ} {b s:Nat} {L:List vF} {many most:Int} {k:ByteArray} (h:HT w b s L many most) (O:L≠[]) (hk:k.size<=2^63 - 1) (hs:∃d,d<L.length/\Stop L (pR k L.length) k d):
  jg (some ⟨b,0,none⟩) k w λat_ t w'=>adz L k at_ t/\∀S,gU w w' S:=by
 apply Ba;have I:0<L.length:=by cases L with
  |nil=>exact absurd rfl O
  |cons _ _=>simp
 have ab:=h.sz;have hh:=DZ k I;refine⟨rfl,t_ λa2 w1 r2 e2 _ f1=>⟨rfl,t_ λa4 w3 r4 e4 _ f3=>t_ λa6 w5 r6 e6 _ f5=>t_ λa8 w7 r8 e8 _ f7=> ?_⟩⟩;have s1:=(f1 λ_=>False).size;have s3:=(f3 λ_=>False).size;have s5:=(f5 λ_=>False).size;have s7:=(f7 λ_=>False).size;have l2:=r2.lt;have l4:=r4.lt;have l6:=r6.lt;have Y:∀S,gU w w7 S:=λS=>(((f1 S).trans (f3 S) λ_ _ e=>e).trans (f5 S) λ_ _ e=>e).trans (f7 S) λ_ _ e=>e;have h7:=h.KE Y;have r2:Row w7 a2 _:=((r2.fr (f3 λ_=>False) (by simp)).fr (f5 λ_=>False) (by simp)).fr (f7 λ_=>False) (by simp);have r4:Row w7 a4 _:=(r4.fr (f5 λ_=>False) (by simp)).fr (f7 λ_=>False) (by simp);have r6:Row w7 a6 _:=r6.fr (f7 λ_=>False) (by simp);have hl0:((L.length:Int)==0)=false:=by simp;omega
 have h7d:HT w7.drew b s L many most:=h7.KE λS=>gU.drew _ S;have r2d:=r2.drew;have r4d:=r4.drew;simp only[sx,r2.cell,r2d.cell,r4d.cell,h7.hd.cell,h7d.hd.cell,hl0];refine cmS1 (af7 k L.length I ab w7.drew hk) ?_;rintro r w22 ⟨rfl,rfl⟩;refine⟨by simp[r2d.cell],?_⟩;refine cmS5 (abT b _ _) ?_;rintro r u ⟨g0,g1,rfl,q0,q1,lg0,lg1,f24⟩;have r2:Row u a2 _:=r2d.fr (f24 λ_=>False) (by simp);have r4:Row u a4 _:=r4d.fr (f24 λ_=>False) (by simp);have r6:Row u a6 _:=r6.drew.fr (f24 λ_=>False) (by simp);have r8:Row u a8 _:=r8.drew.fr (f24 λ_=>False) (by simp);have Z:=h7d.KE f24;have f024:∀S,gU w u S:=λS=>((Y S).trans (gU.drew _ S) λ_ _ e=>e).trans (f24 S) λ_ _ e=>e;have l8:=r8.lt;have hb:=h.hd.lt;have hs7:w7.heap.size<=u.heap.size:=by have:=(f24 λ_=>False).size;exact this
 have hsl:s<w.heap.size:=(h.row O).lt;have lg0':=q0.lt;have lg1':=q1.lt;have hg0:w7.heap.size<=g0:=lg0;have hg1:w7.heap.size<=g1:=lg1;refine Ϡ (b:=b) (m:=L.length) (from_:=pR k L.length)
  (λi W=>(∀d,d<i->¬Stop L (pR k L.length) k d)/\FI u W λ_=>False)
  (λe W=>e= .ret/\(FI u W λx=>x=a6\/x=a8)/\∃at_ t,Row W a6 [.int .i64 at_]/\Row W a8 [.bool t]/\adz L k at_ t)
  (by omega) hh ?_ ?_ ?_ ?_ ?_ ?_ ?_ ?_ ?_
 ·exact λw1 hf hm hz=>⟨λd hd=>by omega,hf _,hm,by omega⟩
 ·exact λi W hI=>⟨q0.fr hI.2.fr (by simp),q1.fr hI.2.fr (by simp),_,by rw[(Z.hd.fr hI.2.fr (by simp)).cell];rfl⟩
 ·exact λi W W' hI hf=>⟨hI.1,hI.2.st hf⟩
 ·rintro e W W' ⟨rfl,hF,at_,t,ra,rt,hr⟩ hf;exact⟨by trivial,hF.st hf,at_,t,ra.fr hf (by omega),rt.fr hf (by omega),hr⟩
 ·exact λe W hJ=> .inl hJ.1
 ·rintro i W Kb hi ⟨J,hF⟩ hn hj;have hFz:=hF.size;have zb:=(gU.gG W (u.heap.size+1)).size;have fb:gU u (gG W (u.heap.size+1)) λ_=>False:=hF.fr.trans (gU.gG W _) λx hx e=>by omega
  have hW:HT (gG W (u.heap.size+1)) b s L many most:=Z.fr fb (by simp) (by simp);have q2:=r2.fr fb (by simp);have q4:=r4.fr fb (by simp);have q6:=r6.fr fb (by simp);have q8:=r8.fr fb (by simp);refine⟨by trivial,?_⟩;simp only[wG,abY,fZ,gI,oM,q2.cell,hW.hd.cell];have hx:cy L.length (pR k L.length+i)<L.length:=MS (by omega);have he:∃e,L[cy L.length (pR k L.length+i)]? =some e:=⟨_,abe hx⟩;obtain⟨e,he⟩:=he;have c0:=hW.ent he 0 (by omega);have c1:=hW.ent he 1 (by omega);have c2:=hW.ent he 2 (by omega);refine rM (b:=s) (o:=0) (by simp[Ϧ,O]) (by omega) (by simp only;omega) ?_;simp only[Η,ahA];simp only[ajt] at c0;simp only[sx,c0,c1,c2,Na];refine Q5 rfl rfl rfl λa37 N ac e37 f40=> ?_;have fb40:gU u N λ_=>False:=fb.trans (f40 _) λ_ _ e=>e;have l40:=(f40 λ_=>False).size;have q6:=q6.fr (f40 λ_=>False) (by simp);have q8:=q8.fr (f40 λ_=>False) (by simp);have q4:=q4.fr (f40 λ_=>False) (by simp);have hm40:N.heap[u.heap.size]? =some (.deferred (some [])):=by rw[(f40 λ_=>False).same _ (by omega) (by simp),(gU.gG W _).same _ (by omega) (by omega)];exact hF.mark
  have hk40:N.heap[u.heap.size+1]? =(gG W (u.heap.size+1)).heap[u.heap.size+1]? :=(f40 λ_=>False).same _ (by omega) (by simp);have out:∀(v:Int) (t:Bool),adz L k v t->St N ⟨a6,0,none⟩ (Value.int .i64 v) λaa=>St aa ⟨a8,0,none⟩ (Value.bool t) λR=>Kb .ret R:=by
   intro v t hr;refine gX q6 rfl (by simp) λaa ae f42 z42=> ?_;refine gX (q8.fr (f42 (·=a6) rfl) (by omega)) rfl (by simp) λR af f43 z43=> ?_;have f0:gU N R λx=>x=a6\/x=a8:=(f42 _ (.inl rfl)).trans (f43 _ (.inr rfl)) λ_ _ e=>e;refine hj _ _ ?_ ⟨rfl,⟨(fb40.mono λ_ e=>e.elim).trans f0 λ_ _ e=>e,?_,by have:=f0.size;omega⟩,v,t,(ae.fr (f43 (·=a8) rfl) (by omega)),af,hr⟩
   ·rw[f0.same _ (by omega) (by omega)];exact hk40
   ·rw[f0.same _ (by omega) (by omega)];exact hm40
  simp only[sx,ac.cell,q4.cell]
  cases e with
  |none=>
   simp only[eU,aek,Δ];exact out _ _ ⟨i,⟨hi,.inl he,J⟩,rfl,.inr ⟨rfl,he⟩⟩
  |some x=>
   obtain⟨k',n'⟩:=x;simp only[eU,ab6,Β,Β,MZ]
   cases U:strEq k' k with
   |true=>
    have:=WR.1 U;subst this;simp only[Δ];exact out _ _ ⟨i,⟨hi,.inr ⟨_,he⟩,J⟩,rfl,.inl ⟨rfl,_,he⟩⟩
   |false=>
    simp only[Β];refine hn _ hk40 ⟨λd hd=> ?_,fb40,hm40,by omega⟩;by_cases ag:d=i
    ·subst ag;rintro(h1|⟨n,h1⟩)
     ·rw[he] at h1;cases h1
     ·rw[he] at h1;cases h1;rw[WR.2 rfl] at U;cases U
    ·exact J d (by omega)
 ·rintro W ⟨J,_⟩;obtain⟨d,hd,ah⟩:=hs;exact absurd ah (J d hd)
 ·rintro W ⟨_,hF,at_,t,ra,rt,hr⟩;refine⟨hF.mark,?_⟩;have pf:=gU.putObj W u.heap.size (.deferred none);simp only[abY,fZ,gq,jK,(ra.fr pf (by omega)).cell,(rt.fr pf (by omega)).cell];refine⟨hr,λS=> ?_⟩;exact((f024 S).trans hF.fr λx hx e=>by omega).trans pf λx hx e=>by omega
 ·rintro id W ⟨h,_⟩
  cases h
theorem acH {w:θ} {b s:Nat} {many most:Int} {k:ByteArray} (h:HT w b s [] many most):
  jg (some ⟨b,0,none⟩) k w λat_ t w'=>t=false/\∀S,gU w w' S:=by
 apply Ba;refine⟨rfl,t_ λa2 w1 r2 e2 _ f1=>⟨rfl,t_ λa4 w3 r4 e4 _ f3=>t_ λa6 w5 r6 e6 _ f5=>t_ λa8 w7 r8 e8 _ f7=> ?_⟩⟩;have s1:=(f1 λ_=>False).size;have s3:=(f3 λ_=>False).size;have s5:=(f5 λ_=>False).size;have s7:=(f7 λ_=>False).size;have l6:=r6.lt;have u:∀S,gU w w7 S:=λS=>(((f1 S).trans (f3 S) λ_ _ e=>e).trans (f5 S) λ_ _ e=>e).trans (f7 S) λ_ _ e=>e;have h7:=h.KE u;have r2:Row w7 a2 _:=((r2.fr (f3 λ_=>False) (by simp)).fr (f5 λ_=>False) (by simp)).fr (f7 λ_=>False) (by simp);have r6:Row w7 a6 _:=r6.fr (f7 λ_=>False) (by simp);simp only[sx,r2.cell,h7.hd.cell,aiJ,Int.natCast_zero,akK];refine gX r6 rfl (by simp) λw12 I f12 _=> ?_;refine gX (r8.fr (f12 (·=a6) rfl) (by omega)) rfl (by simp) λw13 J f13 _=> ?_;simp only[(I.fr (f13 (·=a8) rfl) (by omega)).cell,J.cell];exact⟨by trivial,λS=>((u S).trans (f12 (·=a6) rfl) λx hx e=>by omega).trans (f13 (·=a8) rfl) λx hx e=>by omega⟩
structure TB (w:θ) (b s:Nat) (L:List vF) (most:Int) (M:ByteArray->Option Int):Prop where
 ht:HT w b s L (cnt L:Int) most
 t:T (λk=>pR k L.length) L λ_ _=>False
 free:2 * cnt L<=L.length
 m:∀k n,M k=some n↔Has L k n
 most0:0<=most
 most1:most<=65536
 sz:L.length<=262144
 nils:L=[]->s=b
 keys:∀k n,Has L k n->k.size<=2^63 - 1
theorem TB.fr {w w':θ} {b s:Nat} {L:List vF} {most:Int} {M:ByteArray->Option Int} {S:Nat->Prop} (h:TB w b s L most M) (hf:gU w w' S) (h1:¬S b) (h2:¬S s):TB w' b s L most M:=
 ⟨h.ht.fr hf h1 λ_=>h2,h.t,h.free,h.m,h.most0,h.most1,h.sz,h.nils,h.keys⟩
theorem TB.KE {w w':θ} {b s:Nat} {L:List vF} {most:Int} {M:ByteArray->Option Int} (h:TB w b s L most M) (hf:∀S,gU w w' S):TB w' b s L most M:=
 h.fr (hf λ_=>False) (by simp) (by simp)
theorem TB.S9 {w:θ} {b s:Nat} {L:List vF} {most:Int} {M:ByteArray->Option Int} (h:TB w b s L most M) (k:ByteArray):M k=none↔∀n,¬Has L k n:=by
 constructor
 ·intro hn n hx;rw[(h.m k n).2 hx] at hn;cases hn
 ·intro hn
  cases hx:M k with
  |none=>rfl
  |some n=>exact absurd ((h.m k n).1 hx) (hn n)
theorem TB.pos {w:θ} {b s:Nat} {L:List vF} {most:Int} {M:ByteArray->Option Int} (_:TB w b s L most M) (h:L≠[]):0<L.length:=by
 cases L with
 |nil=>exact absurd rfl h
 |cons _ _=>simp
theorem Nk {w:θ} {b s:Nat} {L:List vF} {most:Int} {M:ByteArray->Option Int} (h:TB w b s L most M) (k:ByteArray) (hk:k.size<=2^63 - 1):
  jg (some ⟨b,0,none⟩) k w λat_ t w'=>(∀S,gU w w' S)/\
   ((t=true/\∃(i:Nat) (n:Int),at_=(i:Int)/\L[i]? =some (some (k,n))/\M k=some n)\/
    (t=false/\M k=none/\(L≠[]->∃d,First L (pR k L.length) k d/\at_=((cy L.length (pR k L.length+d):Nat):Int)))):=by
 by_cases u:L=[]
 ·subst u;refine cmS3 (acH h.ht) ?_;rintro at_ t w' ⟨rfl,hf⟩;refine⟨hf,.inr ⟨rfl,(h.S9 k).2 ?_,λhx=>absurd rfl hx⟩⟩;rintro n ⟨i,hi⟩;simp at hi
 ·have I:=h.pos u;have hh:=DZ k I;have hfr:=h.free;obtain⟨i,hi⟩:=QJ (L:=L) (by omega);refine cmS3 (SB h.ht u hk (FP hh hi)) ?_;rintro at_ t w' ⟨⟨d,hd,rfl,⟨rfl,n,hn⟩|⟨rfl,hn⟩⟩,hf⟩
  ·exact⟨hf,.inl ⟨rfl,_,n,rfl,hn,(h.m k n).2 ⟨_,hn⟩⟩⟩
  ·refine⟨hf,.inr ⟨rfl,(h.S9 k).2 ?_,λ_=>⟨d,hd,rfl⟩⟩⟩;rintro n ⟨i,hi⟩;have:=Zy h.t (λ_ _ x=>x) hh hi hd;rw[this,hi] at hn;cases hn
theorem XH {w:θ} {b s:Nat} {L:List vF} {most:Int} {M:ByteArray->Option Int} (h:TB w b s L most M) (k:ByteArray) (hk:k.size<=2^63 - 1):
  oU (some ⟨b,0,none⟩) k w λn t w'=>(∀S,gU w w' S)/\t=(M k).isSome/\n=(M k).getD 0:=by
 apply NH;refine cmS0 (OE h.ht) ?_;rintro r w2 ⟨rfl,rfl⟩;simp only[ab6,Β];refine cmS3 (Nk h k hk) ?_;rintro at_ t w' ⟨hf,⟨rfl,i,n,rfl,hi,hM⟩|⟨rfl,hM,_⟩⟩
 ·have h':=h.KE hf;have u:L≠[]:=by rintro rfl;simp at hi
  have hlt:i<L.length:=(ady.1 hi).1;simp only[sx,ab6,h'.ht.hd.cell];refine rM (b:=s) (o:=0) (by simp[Ϧ,u]) (by omega) (by simp only;omega) ?_;simp only[sx,Η,h'.ht.ent hi 1 (by omega),Na,eN];exact⟨hf,by simp[hM],by simp[hM]⟩
 ·simp only[aek,Δ];exact⟨hf,by simp[hM],by simp[hM]⟩
theorem XI (n:Int) (w:θ):Aw n w λp e w'=>
  (∀S,gU w w' S)/\((0<=n/\n<=65536/\e=0/\∃b,p=some ⟨b,0,none⟩/\w.heap.size<=b/\TB w' b b [] n λ_=>none)\/((n<0\/65536<n)/\e=1/\p=none)):=by
 apply ZR;by_cases c1:n<0
 ·simp only[c1,aaA,Δ];exact⟨λS=>gU.refl _ _,.inr ⟨.inl (by first|trivial|omega),by trivial,by trivial⟩⟩
 ·by_cases c2:n>65536
  ·simp only[c1,c2,aaA,aaV,Δ,Β];exact⟨λS=>gU.refl _ _,.inr ⟨.inr (by first|trivial|omega),by trivial,by trivial⟩⟩
  ·simp only[c1,c2,aaV,Β];refine t_ λa w3 r3 e3 _ f3=>⟨f3,.inl ⟨by omega,by omega,by trivial,a,rfl,by omega,?_⟩⟩;exact⟨⟨r3,λh=>absurd rfl h,λh=>absurd rfl h,by simp⟩,⟨λi j k n n' h=>by simp at h,λi k n h=>by simp at h⟩,by simp[cnt],λk n=>⟨λh=>by simp at h,λ⟨i,hi⟩=>by simp at hi⟩,by omega,by omega,by simp,λ_=>rfl,λk n ⟨i,hi⟩=>by simp at hi⟩
def tr (e:vF):ByteArray×Int×Bool:=(MZ e,eN e,eU e)
def f3 (x:ByteArray×Int×Bool):List Value:=[.string x.1,.int .i64 x.2.1,.bool x.2.2]
theorem abx (L:List vF):L.flatMap Na=(L.map tr).flatMap f3:=by rw[List.flatMap_map];rfl
theorem aaF (L:List vF) (i:Nat) (e:vF):(L.map tr).set i (tr e)=(L.set i e).map tr:=by rw[List.map_set]
theorem HT.ae1 {w w':θ} {b s:Nat} {L L':List vF} {many most:Int} (h:HT w b s L many most) (hn:L≠[]) (hl:L'.length=L.length) (hf:gU w w' (·=s)) (hr:Row w' s (L'.flatMap Na)):HT w' b s L' many most:=by
 have hn':L'≠[]:=by rintro rfl;simp at hl;exact hn (akX.1 hl.symm)
 refine⟨?_,λ_=>hr,λ_=>h.ne hn,by rw[hl];exact h.sz⟩;have:=h.hd.fr hf (h.ne hn);rw[show Ϧ s L=Ϧ s L' by simp[Ϧ,hn,hn'],<- hl] at this;exact this
theorem Rj {w:θ} {b s i:Nat} {L:List vF} {many most:Int} (h:HT w b s L many most) (hi:i<L.length) (e:vF) {K:b_} (hK:∀w',HT w' b s (L.set i e) many most->gU w w' (·=s)->K w'):
  St w ⟨s,i * 3,none⟩ (.string (MZ e)) λw1=>St w1 ⟨s,i * 3+1,none⟩ (.int .i64 (eN e)) λw2=>St w2 ⟨s,i * 3+2,none⟩ (.bool (eU e)) K:=by
 have hn:L≠[]:=by rintro rfl;simp at hi
 have hr:=h.row hn;have hlen:(L.flatMap Na).length=L.length * 3:=iT _ 3 Hr L;refine gX hr rfl (by omega) λw1 r1 f1 _=> ?_;refine gX r1 rfl (by simp only[ajl];omega) λw2 r2 f2 _=> ?_;refine gX r2 rfl (by simp only[ajl];omega) λw3 r3 f3' _=> ?_;have hf:gU w w3 (·=s):=((f1 (·=s) rfl).trans (f2 (·=s) rfl) λ_ _ e=>e).trans (f3' (·=s) rfl) λ_ _ e=>e;refine hK w3 (h.ae1 hn (by simp) hf ?_) hf;rw[abx] at r3;have g0:(L.map tr)[i]? =some (tr L[i]):=by simp[hi]
 have hl:i<(L.map tr).length:=by simpa using hi
 have e0:=Hy f3 3 (λ_=>rfl) (L.map tr) i 0 (tr L[i]) (MZ e,(tr L[i]).2) (.string (MZ e)) (by omega) g0 rfl;have e1:=Hy f3 3 (λ_=>rfl) ((L.map tr).set i (MZ e,(tr L[i]).2)) i 1 (MZ e,(tr L[i]).2) (MZ e,eN e,(tr L[i]).2.2) (.int .i64 (eN e)) (by omega) (by simp[hi]) rfl;have e2:=Hy f3 3 (λ_=>rfl) (((L.map tr).set i (MZ e,(tr L[i]).2)).set i (MZ e,eN e,(tr L[i]).2.2)) i 2 (MZ e,eN e,(tr L[i]).2.2) (tr e) (.bool (eU e)) (by omega) (by simp[hi]) rfl;rw[ajt] at e0;rw[e0,e1,e2] at r3;rw[set_set,set_set,aaF,<- abx] at r3;exact r3
theorem ahD {w:θ} {b s i:Nat} {L:List vF} {many most n n':Int} {k:ByteArray} (h:HT w b s L many most) (hi:L[i]? =some (some (k,n))) {K:b_} (hK:∀w',HT w' b s (L.set i (some (k,n'))) many most->gU w w' (·=s)->K w'):
  St w ⟨s,i * 3+1,none⟩ (.int .i64 n') K:=by
 have hn:L≠[]:=by rintro rfl;simp at hi
 have hlt:i<L.length:=(ady.1 hi).1;have hlen:(L.flatMap Na).length=L.length * 3:=iT _ 3 Hr L;refine gX (h.row hn) rfl (by omega) λw1 r1 f1 _=>hK w1 (h.ae1 hn (by simp) (f1 (·=s) rfl) ?_) (f1 (·=s) rfl);rw[Hy Na 3 Hr L i 1 (some (k,n)) (some (k,n')) (.int .i64 n') (by omega) hi rfl] at r1;exact r1
theorem abf {w:θ} {b s:Nat} {L:List vF} {many many' most:Int} (h:HT w b s L many most) {K:b_} (hK:∀w',HT w' b s L many' most->gU w w' (·=b)->K w'):St w ⟨b,1,none⟩ (.int .i64 many') K:=by
 refine gX h.hd rfl (by simp) λw1 r1 f1 _=>hK w1 ⟨r1,λhn=>(h.row hn).fr (f1 (·=b) rfl) (λe=>h.ne hn e.symm),h.ne,h.sz⟩ (f1 (·=b) rfl)
theorem RF (a b:List vF):cnt (a++b)=cnt a+cnt b:=by
 induction a with
 |nil=>simp[cnt]
 |cons x a ih=>cases x<;>simp only[akv,cnt,ih]<;>omega
theorem Sz (a:List vF) (e:vF) (k:ByteArray) (n:Int):Has (a++[e]) k n↔Has a k n\/e=some (k,n):=by
 constructor
 ·rintro⟨i,hi⟩;by_cases h:i<a.length
  ·rw[aj8 h] at hi;exact .inl ⟨i,hi⟩
  ·rw[ajy (by omega)] at hi;have:=(ady.1 hi).1;simp at this;simp[show i - a.length=0 by omega] at hi;exact .inr hi
 ·rintro(⟨i,hi⟩|h)
  ·exact⟨i,by rw[aj8 (ady.1 hi).1];exact hi⟩
  ·exact⟨a.length,by simp[h]⟩
theorem afd (n:Nat):gW [Value.string (bs []),Value.int .i64 0,Value.bool false] n=(List.replicate n (none:vF)).flatMap Na:=by
 induction n with
 |zero=>rfl
 |succ n ih=>rw[aki,ajB,<- ih];rfl
theorem aeD {L:List vF} {i:Nat} {k:ByteArray} {n:Int} (h:Has (L.take i) k n):∃j:Nat,j<i/\L[j]? =some (some (k,n)):=by
 obtain⟨j,hj⟩:=h;have u:=(ady.1 hj).1;simp only[ahP] at u;refine⟨j,by omega,?_⟩;rw[akI] at hj;split at hj
 ·exact hj
 ·cases hj
theorem aeE {w:θ} {b s:Nat} {L:List vF} {most:Int} {M:ByteArray->Option Int} (h:TB w b s L most M) (hc:(cnt L:Int)<most):
  vU (some ⟨b,0,none⟩) w λw'=>∃s' L',TB w' b s' L' most M/\cnt L'=cnt L/\2 * (cnt L+1)<=L'.length/\gU w w' (·=b)/\(s'=s\/w.heap.size<=s'):=by
 apply LG;have hd:TB w.drew b s L most M:=h.KE λS=>gU.drew _ S;have hm1:=h.most1;have e1:ο.wrap ((cnt L:Int)+1)=((cnt L+1:Nat):Int):=by rw[Α];omega
 have e2:ο.wrap (2 * ((cnt L+1:Nat):Int))=((2 * (cnt L+1):Nat):Int):=by rw[Α];omega
 simp only[sx,hd.ht.hd.cell];rw[e1,e2];by_cases ak:2 * (cnt L+1)<=L.length
 ·have N:(((2 * (cnt L+1):Nat):Int)<=(L.length:Int)):=by omega
  simp only[N,aaA,Δ];exact⟨s,L,hd,rfl,ak,gU.drew _ _,.inl rfl⟩
 ·have N:¬(((2 * (cnt L+1):Nat):Int)<=(L.length:Int)):=by omega
  simp only[N,aaV,Β];have hlen:L.length<131072:=by omega
  have e3:ο.wrap (2 * (L.length:Int))=((2 * L.length:Nat):Int):=by rw[Α];omega
  rw[e3];obtain⟨m,hm,am⟩:∃m:Nat,(if ((2 * L.length:Nat):Int)>8 then ((2 * L.length:Nat):Int) else 8)=(m:Int)/\(8<=m/\2 * L.length<=m/\m<=262144):=by
   split
   ·exact⟨2 * L.length,rfl,by omega,by omega,by omega⟩
   ·exact⟨8,rfl,by omega,by omega,by omega⟩
  obtain⟨m8,m2,mm⟩:=am;rw[hm];refine GH (by omega) (by omega) (by omega) (by omega) λs' w8 r8 hs' z8 f8=> ?_;rw[Η,afd] at r8;simp only[Η];have h8:=hd.KE f8;have l8:=r8.lt;have hbl:=h.ht.hd.lt;have hdw:w.drew.heap.size=w.heap.size:=rfl;refine gX h8.ht.hd rfl (by simp) λan ah f10 z10=> ?_;simp only[agE] at ah;have hb10:gU w an (·=b):=((gU.drew w _).trans (f8 (·=b)) λ_ _ e=>e).trans (f10 (·=b) rfl) λ_ _ e=>e;have nl:∀A:List vF,A.length=m->Ϧ s' A=some ⟨s',0,none⟩:=λA hA=>by
   have:A≠[]:=by rintro rfl;simp at hA;omega
   simp[Ϧ,this]
  have old:L≠[]->s≠b/\s<w.heap.size:=λhn=>⟨λe=>h.ht.ne hn e.symm,(h.ht.row hn).lt⟩;refine gK (λst W=>(∃i:Nat,i<=L.length/\st.1=i/\∃L2:List vF,L2.length=m/\HT W b s' L2 (cnt L:Int) most/\T (λk=>pR k m) L2 (λ_ _=>False)/\cnt L2=cnt (L.take i)/\∀k n,Has L2 k n↔Has (L.take i) k n)/\gU w W (·=b)) (λst _=>L.length - st.1.toNat)
   ⟨⟨0,by omega,rfl,List.replicate m none,by simp,⟨?_,λ_=>r8.fr (f10 (·=b) rfl) (by omega),λ_=>by omega,by simp;omega⟩,⟨λi j k n n' hi=> ?_,λi k n hi=> ?_⟩,by simp[afK,cnt],λk n=>⟨λ⟨i,hi⟩=> ?_,λ⟨i,hi⟩=>by simp at hi⟩⟩,hb10⟩ ?_
  ·rw[nl _ (by simp)];simpa using ah
  ·rw[akb] at hi;split at hi<;>cases hi
  ·rw[akb] at hi;split at hi<;>cases hi
  ·rw[akb] at hi;split at hi<;>cases hi
  rintro⟨x,⟨⟩⟩ W ⟨⟨i,hi,rfl,L2,hl2,hT,tt,I,u⟩,hF⟩ next J
  have hFz:=hF.size;by_cases ab:i<L.length
  ·have O:((i:Int)<(L.length:Int)):=by omega
   simp only[O,aaA,Δ];have hn:L≠[]:=by rintro rfl;simp at ab
   obtain⟨ao,hsl⟩:=old hn;have Y:L[i]? =some L[i]:=abe ab;generalize hE:L[i]=e at Y;have ac:=(h.ht.row hn).fr hF ao;have cell:∀j,j<3->W.cell? ⟨s,i * 3+j,none⟩=(Na e)[j]? :=λj hj=>by rw[ac.cell,flat_get _ 3 Hr _ _ j hj,Y];rfl
   refine rM (b:=s) (o:=0) (by simp[Ϧ,hn]) (by omega) (by simp only;omega) ?_;have c0:=cell 0 (by omega);rw[ajt] at c0;simp only[sx,Η,c0,cell 1 (by omega),cell 2 (by omega),Na];refine Q5 rfl rfl rfl λa21 aq ai l24 f24=> ?_;have e4:ο.wrap ((i:Int)+1)=((i+1:Nat):Int):=by rw[Α];omega
   have Z:L.take (i+1)=L.take i++[e]:=by rw[ajM ab,hE]
   have hF24:gU w aq (·=b):=hF.trans (f24 _) λ_ _ e=>e;have hT24:=hT.KE f24;simp only[sx,ai.cell,e4]
   cases e with
   |none=>
    simp only[eU,Β];refine J _ _ ⟨⟨i+1,by omega,rfl,L2,hl2,hT24,tt,?_,λk n=> ?_⟩,hF24⟩ (by simp only;omega)
    ·rw[Z,RF,I];simp[cnt]
    ·rw[u,Z,Sz];simp
   |some x=>
    obtain⟨k,n⟩:=x;simp only[eU,MZ,Δ,Δ];have ae:Has L k n:=⟨i,Y⟩;have aa:∀n,¬Has L2 k n:=λn' hx=>by
     obtain⟨j,hj,ar⟩:=aeD ((u k n').1 hx);have:=h.t.dist _ _ _ _ _ ar Y;omega
    have R:0<L2.length:=by omega
    have hh:=DZ k R;have af:cnt L2<L2.length:=by
     have h1:=cnt_le (L.take i);have h2:(L.take i).length<=L.length:=by simp;omega
     omega
    obtain⟨j0,hj0⟩:=QJ af;have ag:L2≠[]:=by rintro rfl;simp at R
    refine cmS3 (SB hT24 ag (h.keys k n ae) (FP hh hj0)) ?_;rintro at_ t aj ⟨⟨d,hd,rfl,⟨rfl,n',hn'⟩|⟨rfl,hn'⟩⟩,f29⟩
    ·exact absurd ⟨_,hn'⟩ (aa n')
    ·have hT29:HT aj.drew b s' L2 (cnt L:Int) most:=(hT24.KE f29).KE λS=>gU.drew _ S;have au:Row aj.drew a21 _:=(ai.fr (f29 λ_=>False) (by simp)).drew;simp only[d_,fZ,gI,gq,jK,QI,hT29.hd.cell,au.cell];have hq:cy L2.length (pR k L2.length+d)<L2.length:=(ady.1 hn').1;refine rM (b:=s') (o:=0) (nl L2 hl2) (by omega) (by simp only;omega) ?_;simp only[Η,ahA];refine Rj hT29 hq (some (k,n)) λw38 av f38=> ?_;have U:=insert (n:=n) (H:=λk=>pR k m) tt aa (by rw[<- hl2];exact hh) (by rw[<- hl2];exact hd);rw[hl2] at U;refine J _ _ ⟨⟨i+1,by omega,rfl,_,by simp[hl2],av,by rw[hl2];exact U,?_,λk' n''=> ?_⟩,?_⟩ (by simp only;omega)
     ·rw[Je hn',Z,RF,I];simp[cnt]
     ·rw[Fb hn' aa,Z,Sz,u];constructor
      ·rintro(⟨rfl,rfl⟩|⟨_,hx⟩)
       ·exact .inr rfl
       ·exact .inl hx
      ·rintro(hx|hx)
       ·refine .inr ⟨?_,hx⟩;rintro rfl;exact aa _ ((u _ _).2 hx)
       ·cases hx;exact .inl ⟨rfl,rfl⟩
     ·exact((hF24.trans (f29 _) λ_ _ e=>e).trans (gU.drew _ _) λ_ _ e=>e).trans f38 λx hx e=>by
       have e':x=s':=e;omega
  ·have O:¬((i:Int)<(L.length:Int)):=by omega
   simp only[O,aaV,Β];have:i=L.length:=by omega
   subst this;rw[ajU] at I u;refine⟨s',L2,⟨by rw[I];exact hT,by rw[hl2];exact tt,by have:=h.free;omega,λk n=>by rw[u];exact h.m k n,h.most0,h.most1,by omega,λhx=> ?_,λk n hx=>h.keys k n ((u k n).1 hx)⟩,I,by have:=h.free;omega,hF,.inr (by omega)⟩;rw[hx] at hl2;simp at hl2;omega
def upd (M:ByteArray->Option Int) (k:ByteArray) (v:Option Int):ByteArray->Option Int:=λx=>if x=k then v else M x
theorem XJ {w:θ} {b s:Nat} {L:List vF} {most:Int} {M:ByteArray->Option Int} (h:TB w b s L most M) (k:ByteArray) (n:Int) (hk:k.size<=2^63 - 1):
  oV (some ⟨b,0,none⟩) k n w λe w'=>
   (e=0/\(M k=none->(cnt L:Int)<most)/\∃s' L',TB w' b s' L' most (upd M k (some n))/\cnt L'=(if (M k).isSome then cnt L else cnt L+1)/\gU w w' (λx=>x=b\/x=s)/\(s'=s\/w.heap.size<=s'))\/
   (e=7/\M k=none/\most<=(cnt L:Int)/\∀S,gU w w' S):=by
 apply NI;refine cmS0 (OE h.ht) ?_;rintro r w2 ⟨rfl,rfl⟩;simp only[ab6,Β];refine cmS3 (Nk h k hk) ?_;have hsz:=h.ht.sz;rintro at_ t w5 ⟨hf,⟨rfl,i,n0,rfl,hi,hM⟩|⟨rfl,hM,_⟩⟩
 ·have h':=h.KE hf;have N:L≠[]:=by rintro rfl;simp at hi
  have hlt:i<L.length:=(ady.1 hi).1;simp only[sx,h'.ht.hd.cell];refine rM (b:=s) (o:=0) (by simp[Ϧ,N]) (by omega) (by simp only;omega) ?_;simp only[sx,Η];refine ahD h'.ht hi λw9 h9 f9=> .inl ⟨by trivial,λhx=>(by rw[hM] at hx;cases hx),s,_,⟨by rw[MQ hi];exact h9,by simp only[ajl];exact update h.t hi,by rw[MQ hi,ajl];exact h.free,λk' n'=> ?_,h.most0,h.most1,by simpa using h.sz,λhx=> ?_,λk' n' hx=>by
   rcases(SA h.t hi k' n').1 hx with ⟨rfl,_⟩|⟨_,hx⟩
   ·exact hk
   ·exact h.keys _ _ hx⟩,by rw[MQ hi,hM];rfl,?_,.inl rfl⟩
  ·rw[SA h.t hi,upd];by_cases O:k'=k
   ·subst O;simp[eq_comm]
   ·simp[O,h.m]
  ·have:(L.set i (some (k,n))).length=0:=by rw[hx];rfl
   simp at this;exact absurd this N
  ·exact(hf _).trans f9 λx hx e=> .inr e
 ·have h':=h.KE hf;have hd:TB w5.drew b s L most M:=h'.KE λS=>gU.drew _ S;simp only[sx,hd.ht.hd.cell];by_cases I:(cnt L:Int)>=most
  ·simp only[I,aaA,Δ];exact .inr ⟨by trivial,hM,by first|trivial|omega,λS=>(hf S).trans (gU.drew _ S) λ_ _ e=>e⟩
  ·simp only[I,aaV,Β];refine cmS4 (aeE hd (by omega)) ?_;rintro w14 ⟨s',L',J,hc14,R,f14,hs'⟩;refine cmS3 (Nk J k hk) ?_;have N:L'≠[]:=by rintro rfl;simp at R
   have Y:=J.pos N;rintro at_ t w17 ⟨f17,⟨_,i,n0,_,_,hM'⟩|⟨_,_,Z⟩⟩
   ·rw[hM] at hM';cases hM'
   ·obtain⟨d,aa,rfl⟩:=Z N;have ab:=J.KE f17;have U:=(J.S9 k).1 hM;have hh:=DZ k Y;obtain⟨u,_⟩:=La U hh aa;have hq:cy L'.length (pR k L'.length+d)<L'.length:=(ady.1 u).1;simp only[abY,fZ,gI,ab.ht.hd.cell];refine rM (b:=s') (o:=0) (by simp[Ϧ,N]) (by omega) (by simp only;omega) ?_;simp only[Η,ahA];refine Rj ab.ht hq (some (k,n)) λw23 ac f23=> ?_;simp only[ac.hd.cell,Xb,d_,fZ,gq,ahA];have hm1:=h.most1;have e1:ο.wrap ((cnt L':Int)+1)=((cnt L'+1:Nat):Int):=by rw[Α];omega
    rw[e1];refine abf ac λw27 ae f27=> ?_;refine .inl ⟨by trivial,λ_=>by omega,s',_,⟨by rw[Je u];exact ae,by simp only[ajl];exact insert J.t U hh aa,by rw[Je u,ajl];omega,λk' n'=> ?_,h.most0,h.most1,by simpa using J.sz,λhx=> ?_,λk' n' hx=>by
     rcases(Fb u U k' n').1 hx with ⟨rfl,_⟩|⟨_,hx⟩
     ·exact hk
     ·exact J.keys _ _ hx⟩,by rw[Je u,hM,hc14];rfl,?_,?_⟩
    ·rw[Fb u U,upd];by_cases O:k'=k
     ·subst O;simp[eq_comm]
     ·simp[O,J.m]
    ·have:(L'.set (cy L'.length (pR k L'.length+d)) (some (k,n))).length=0:=by rw[hx];rfl
     simp at this;exact absurd this N
    ·have hz:=(hf λ_=>False).size;have af:w5.drew.heap.size=w5.heap.size:=rfl;refine(((((hf _).trans (gU.drew _ _) λ_ _ e=>e).trans f14 λx hx e=> .inl e).trans (f17 _) λ_ _ e=>e).trans f23 λx hx e=> ?_).trans f27 λx hx e=> .inl e;have e':x=s':=e;rcases hs' with hs'|hs'
     ·exact .inr (by omega)
     ·omega
    ·have hz:=(hf λ_=>False).size;have af:w5.drew.heap.size=w5.heap.size:=rfl;rcases hs' with hs'|hs'
     ·exact .inl hs'
     ·exact .inr (by omega)
theorem aiS {m a i:Nat} (ha:a<m) (hi:i<m):cy m (cy m (a+1)+i)=cy m (a+(i+1)):=by
 have c1:=cyc m (a+1);have c2:=cyc m (cy m (a+1)+i);have c3:=cyc m (a+(i+1));omega
structure Mid (w:θ) (b s:Nat) (L Lc:List vF) (k:ByteArray) (most:Int) (X:Nat->Nat->Prop):Prop where
 ht:HT w b s Lc ((cnt L - 1:Nat):Int) most
 len:Lc.length=L.length
 t:T (λk=>pR k L.length) Lc X
 has:∀k' n',Has Lc k' n'↔k'≠k/\Has L k' n'
 cnt:cnt Lc=Hash.cnt L - 1
theorem Mid.fr {w w':θ} {b s:Nat} {L Lc:List vF} {k:ByteArray} {most:Int} {X:Nat->Nat->Prop} {S:Nat->Prop} (h:Mid w b s L Lc k most X) (hf:gU w w' S) (h1:¬S b) (h2:¬S s):Mid w' b s L Lc k most X:=
 ⟨h.ht.fr hf h1 λ_=>h2,h.len,h.t,h.has,h.cnt⟩
theorem ahf {H:ByteArray->Nat} {L:List vF} {X Y:Nat->Nat->Prop} (t:T H L X) (h:∀i p,X i p->Y i p):T H L Y:=
 ⟨t.dist,λi k n hi=>by obtain⟨D,h1,h2,h3⟩:=t.reach i k n hi;exact⟨D,h1,h2,λd hd=>(h3 d hd).imp id (h _ _)⟩⟩
theorem Lj {w:θ} {b s:Nat} {L:List vF} {most:Int} {M:ByteArray->Option Int} (h:TB w b s L most M) (k:ByteArray) (hk:k.size<=2^63 - 1):
  lX (some ⟨b,0,none⟩) k w λr w'=>r=(M k).isSome/\(∃L',TB w' b s L' most (upd M k none)/\cnt L'+(if (M k).isSome then 1 else 0)=cnt L)/\gU w w' (λx=>x=b\/x=s):=by
 apply Ii;have hsz:=h.ht.sz;refine⟨rfl,t_ λa2 w1 q2 e2 z2 f1=> ?_⟩;have h1:=h.KE f1;simp only[sx,q2.cell];refine cmS0 (OE h1.ht) ?_;rintro r w5 ⟨rfl,rfl⟩;simp only[ab6,Β,abY,fZ,oM,q2.cell];refine cmS3 (Nk h1 k hk) ?_;rintro at_ t w9 ⟨f9,⟨rfl,i0,n0,rfl,hi0,hM⟩|⟨rfl,hM,_⟩⟩
 case inr=>
  simp only[aek,Δ];refine⟨by simp[hM],⟨L,?_,by simp[hM]⟩,(f1 _).trans (f9 _) λ_ _ e=>e⟩;have h9:=h1.KE f9;have:upd M k none=M:=by
   funext x;unfold upd;split
   ·rename_i hx;rw[hx,hM]
   ·rfl
  rw[this];exact h9
 have h9:=h1.KE f9;have ai:L≠[]:=by rintro rfl;simp at hi0
 have U:i0<L.length:=(ady.1 hi0).1;have q2:Row w9 a2 _:=q2.fr (f9 λ_=>False) (by simp);simp only[ab6,Β,wG,abY,fZ,gI,oM,q2.cell,h9.ht.hd.cell];refine rM (b:=s) (o:=0) (by simp[Ϧ,ai]) (by omega) (by simp only;omega) ?_;simp only[Η,ahA];have hbl:=h.ht.hd.lt;have hsl:=(h.ht.row ai).lt;refine Rj h9.ht U none λau aj f16=> ?_;have q2:Row au a2 _:=q2.fr f16 (by omega);have hcp:0<cnt L:=by have:=MR hi0;omega
 have hfree:=h.free;have e1:ο.wrap ((cnt L:Int) - 1)=((cnt L - 1:Nat):Int):=by rw[Α];omega
 simp only[sx,q2.cell,aj.hd.cell,e1];refine abf aj λY Z f21=> ?_;have q2:Row Y a2 _:=q2.fr f21 (by omega);have Z:HT Y.drew b s (L.set i0 none) ((cnt L - 1:Nat):Int) most:=Z.KE λS=>gU.drew _ S;have q2:Row Y.drew a2 _:=q2.drew;have hb21:gU w Y.drew λx=>x=b\/x=s:=((((f1 _).trans (f9 _) λ_ _ e=>e).trans f16 λx hx e=> .inr e).trans f21 λx hx e=> .inl e).trans (gU.drew _ _) λ_ _ e=>e;have ab:0<L.length:=by omega
 have ac:(L.set i0 none).length=L.length:=ajl;have e3:Int.tmod (ο.wrap ((i0:Int)+1)) ((L.set i0 none).length:Int)=((cy L.length (i0+1):Nat):Int):=by
  have:=abO (m:=L.length) (from_:=i0) (i:=1) (by omega) U (by omega);rw[ac];exact this
 simp only[wG,abY,fZ,gI,oM,q2.cell,Z.hd.cell];refine⟨by rw[ac];omega,?_⟩;rw[e3];refine cmS5 (abT b _ _) ?_;rintro r u ⟨g0,g1,rfl,p0,p1,lg0,lg1,f31⟩;have av:=Z.KE f31;have q2:Row u a2 _:=q2.fr (f31 λ_=>False) (by simp);have hb31:gU w u λx=>x=b\/x=s:=hb21.trans (f31 _) λ_ _ e=>e;have hz31:=hb31.size;have l2:=q2.lt;have lp0:=p0.lt;have lp1:=p1.lt;have hz21:=hb21.size;obtain⟨e,he0,z0⟩:=ahb (L:=L) (at_:=i0) ⟨_,hi0⟩ (by omega);have hc0:cy L.length (i0+0)=i0:=by unfold cy;simp[U]
 have hH:∀k,pR k L.length<L.length:=λk=>DZ k ab;have t0:T (λk=>pR k L.length) L (Xj L.length i0 e 0):=ahf h.t λi p hx=>hx.elim;have t1:=clear z0 he0 hH t0;have z1:=UG z0 he0;rw[hc0] at t1 z1;have he:=z0.e1;have mid0:Mid u b s L (L.set i0 none) k most (Xj L.length i0 e (0+1)):=⟨av,ac,t1,OD h.t hi0,by have:=MR hi0;omega⟩;refine Ϡ (b:=b) (m:=L.length) (from_:=cy L.length (i0+1))
  (λi W=>i+1<=e/\FI u W (·=s)/\∃Lc,Mid W b s L Lc k most (Xj L.length i0 e (i+1))/\Zone Lc i0 e (i+1))
  (λx W=>x= .exit 0/\FI u W (·=s)/\∃Lc,Mid W b s L Lc k most λ_ _=>False)
  (by omega) (MS (by omega)) ?_ ?_ ?_ ?_ ?_ ?_ ?_ ?_ ?_
 ·exact λw1' hf hm hz=>⟨by omega,⟨hf _,hm,by omega⟩,_,mid0.fr (hf λ_=>False) (by simp) (by simp),z1⟩
 ·rintro i W ⟨_,hF,Lc,hm,_⟩;refine⟨p0.fr hF.fr (by omega),p1.fr hF.fr (by omega),Ϧ s Lc,?_⟩;rw[hm.ht.hd.cell,<- hm.len];rfl
 ·rintro i W W' ⟨hi,hF,Lc,hm,hz⟩ hf;exact⟨hi,hF.st hf,Lc,hm.fr hf (by omega) (by omega),hz⟩
 ·rintro x W W' ⟨rfl,hF,Lc,hm⟩ hf;exact⟨by trivial,hF.st hf,Lc,hm.fr hf (by omega) (by omega)⟩
 ·exact λx W hJ=> .inr ⟨0,hJ.1⟩
 ·rintro i W Kb hi ⟨hie,hF,Lc,hm,hz⟩ hn hj;have hFz:=hF.size;have zb:=(gU.gG W (u.heap.size+1)).size;have fb:gU u (gG W (u.heap.size+1)) (·=s):=hF.fr.trans (gU.gG W _) λx hx e=>by
   have e':x=u.heap.size+1:=e;omega
  have hm:Mid (gG W (u.heap.size+1)) b s L Lc k most _:=hm.fr (gU.gG W _) (by omega) (by omega);have q2:=q2.fr fb (by omega);have J:=hm.len;rw[aiS U hi];generalize hp:cy L.length (i0+(i+1))=p;have hpl:p<L.length:=by rw[<- hp];exact MS (by omega)
  have ak:Lc≠[]:=by rintro rfl;simp at J;omega
  refine⟨by trivial,?_⟩;simp only[wG,abY,fZ,gI,oM,q2.cell,hm.ht.hd.cell];obtain⟨x,hx⟩:∃x,Lc[p]? =some x:=⟨_,abe (by omega)⟩;have c0:=hm.ht.ent hx 0 (by omega);simp only[ajt] at c0;refine rM (b:=s) (o:=0) (by simp[Ϧ,ak]) (by omega) (by simp only;omega) ?_;simp only[sx,Η,c0,hm.ht.ent hx 1 (by omega),hm.ht.ent hx 2 (by omega),Na];refine Q5 rfl rfl rfl λa44 aa ae l47 f47=> ?_;have fb47:gU u aa (·=s):=fb.trans (f47 _) λ_ _ e=>e;have z47:=(f47 λ_=>False).size;have hm47:=hm.fr (f47 λ_=>False) (by simp) (by simp);have q2:=q2.fr (f47 λ_=>False) (by simp);have hk47:aa.heap[u.heap.size+1]? =(gG W (u.heap.size+1)).heap[u.heap.size+1]? :=(f47 λ_=>False).same _ (by omega) (by simp);have hmk47:aa.heap[u.heap.size]? =some (.deferred (some [])):=by rw[(f47 λ_=>False).same _ (by omega) (by simp),(gU.gG W _).same _ (by omega) (by omega)];exact hF.mark
  simp only[sx,ae.cell]
  cases x with
  |none=>
   simp only[eU,aek,Δ];have hj1:¬i+1<e:=λaf=>by
    obtain⟨y,hy⟩:=hz.full (i+1) (aiq _) af;rw[J,hp,hx] at hy;cases hy
   have:i+1=e:=by omega
   subst this;exact hj _ _ hk47 ⟨rfl,⟨fb47,hmk47,by omega⟩,Lc,hm47.ht,hm47.len,ahf hm47.t λi' p' hX=>ai7 _ _ _ _ _ hX,hm47.has,hm47.cnt⟩
  |some y=>
   obtain⟨k0,n0⟩:=y;have hj1:i+1<e:=by
    rcases akM (i+1) e with h|h
    ·exact h
    ·have:i+1=e:=by omega
     have hf:=hz.free;rw[<- this,J,hp,hx] at hf;cases hf
   simp only[eU,ab6,MZ,eN,Β,wG,abY,fZ,gI,oM,q2.cell,hm47.ht.hd.cell] at ae ⊢;refine rM (b:=s) (o:=0) (by simp[Ϧ,ak]) (by omega) (by simp only;omega) ?_;simp only[Η,ahA];refine Rj hm47.ht (by omega) none λw55 am f55=> ?_;have q2:=q2.fr f55 (by omega);have an:=ae.fr f55 (by omega);simp only[Xb,abY,fZ,oM,QI,ahA,q2.cell,an.cell];have hx':Lc[cy Lc.length (i0+(i+1))]? =some (some (k0,n0)):=by rw[J,hp];exact hx
   have ao:=hm.t;rw[<- J] at ao;obtain⟨hex,R⟩:=adx hz hj1 (by rw[J];exact hH) ao hx';rw[J,hp] at hex;have I:(Lc.set p none).length=L.length:=by rw[ajl,J]
   have hn1:Lc.set p none≠[]:=by intro hx0;rw[hx0] at I;simp at I;omega
   obtain⟨d0,hd0⟩:=hex;have ag:=h.keys k0 n0 ((hm.has k0 n0).1 ⟨p,hx⟩).2;refine cmS3 (SB am hn1 ag ⟨d0,hd0.lt,by rw[I];exact hd0.stop⟩) ?_;rintro at1 t1 aw ⟨⟨d,hd,rfl,_⟩,f60⟩;rw[I] at hd;have aq:HT aw.drew b s (Lc.set p none) _ most:=(am.KE f60).KE λS=>gU.drew _ S;have ax:=(an.fr (f60 λ_=>False) (by simp)).drew;have q2:=(q2.fr (f60 λ_=>False) (by simp)).drew;obtain⟨hz2,ht2,N,O⟩:=R d (by rw[J,hp];exact hd);rw[J,hp] at hz2 ht2 N O;have ah:cy L.length (pR k0 L.length+d)<L.length:=MS (by have:=hd.lt;have:=hH k0;omega);simp only[wG,d_,fZ,gI,gq,jK,oM,QI,q2.cell,ax.cell,aq.hd.cell];refine rM (b:=s) (o:=0) (by simp[Ϧ,hn1]) (by omega) (by simp only;rw[I];omega) ?_;simp only[Η,ahA];rw[I];refine Rj aq (by rw[I];exact ah) (some (k0,n0)) λay az f70=> ?_;have f4770:gU aa ay (·=s):=((f55.trans (f60 _) λ_ _ e=>e).trans (gU.drew _ _) λ_ _ e=>e).trans f70 λ_ _ e=>e;refine hn _ ?_ ⟨by omega,⟨fb47.trans f4770 λ_ _ e=>e,?_,by have:=f4770.size;omega⟩,_,⟨az,?_,ht2,λk' n'=> ?_,?_⟩,hz2⟩
   ·rw[f4770.same _ (by omega) (by omega)];exact hk47
   ·rw[f4770.same _ (by omega) (by omega)];exact hmk47
   ·simp[J]
   ·rw[N];exact hm.has k' n'
   ·rw[O];exact hm.cnt
 ·rintro W ⟨hi,_⟩;omega
 ·rintro W ⟨hx,_⟩
  cases hx
 ·rintro id W ⟨hx,hF,Lc,hm⟩
  cases hx
  show vP _ _ _;refine⟨hF.mark,?_⟩;have pf:=gU.putObj W u.heap.size (.deferred none);have hm:=hm.fr pf (by omega) (by omega);refine⟨by simp[hM],⟨Lc,⟨?_,?_,?_,?_,h.most0,h.most1,?_,?_,?_⟩,?_⟩,?_⟩
  ·rw[hm.cnt];exact hm.ht
  ·have:=hm.t;rw[<- hm.len] at this;exact this
  ·have:=hm.cnt;have:=hm.len;omega
  ·intro k' n';rw[hm.has,upd];by_cases ar:k'=k
   ·simp[ar]
   ·simp[ar,h.m]
  ·rw[hm.len];exact h.sz
  ·intro hx;have:=hm.len;rw[hx] at this;simp at this;omega
  ·exact λk' n' hx=>h.keys k' n' ((hm.has k' n').1 hx).2
  ·have:=hm.cnt;simp[hM];omega
  ·exact(hb31.trans hF.fr λx hx e=> .inr e).trans pf λx hx e=>by
    have e':x=u.heap.size:=e;omega
end Go.Proofs
end
section
namespace Gp.V4
def jX:Nat->Nat->List UInt8
 |0,_=>[]
 |k+1,n=>UInt8.ofNat (n / 256^k)::jX k n
def nN (l:List UInt8):Nat:=l.foldl (λn b=>n * 256+b.toNat) 0
theorem iQ (k n:Nat):(jX k n).length=k:=by
 induction k with
 |zero=>rfl
 |succ k ih=>simp[jX,ih]
theorem ahT (l:List UInt8):∀n:Nat,l.foldl (λn b=>n * 256+b.toNat) n=n * 256^l.length+nN l:=by
 induction l with
 |nil=>intro n;simp[nN]
 |cons b l ih=>
  intro n;simp only[ala,nN,aeW];rw[ih,ih (0 * 256+b.toNat)];rw[Nat.pow_succ,ajD,ajD,<- Nat.mul_assoc,Nat.mul_right_comm];omega
theorem Tc (b:UInt8) (l:List UInt8):nN (b::l)=b.toNat * 256^l.length+nN l:=by
 show (b::l).foldl _ 0=_;rw[ala,ahT];simp
theorem WA (k n:Nat):nN (jX k n)=n % 256^k:=by
 induction k with
 |zero=>simp[jX,nN,Nat.mod_one]
 |succ k ih=>
  rw[jX,Tc,iQ,ih];have e:(UInt8.ofNat (n / 256^k)).toNat=n / 256^k % 256:=by simp
  rw[e,Nat.pow_succ,Nat.mod_mul,Nat.mul_comm (256^k),Nat.add_comm]
def tot:List UInt8->Nat
 |[]=>0
 |[a]=>a.toNat * 256
 |a::b::r=>a.toNat * 256+b.toNat+tot r
def fold (n:Nat):Nat:=if n=0 then 0 else (n - 1) % 65535+1
structure kZ where
 tos:Int
 id:Int
 off:Int
 ttl:Int
 proto:Int
 src:Int
 dst:Int
 df:Bool
 mf:Bool
 opts:List UInt8
 data:List UInt8
deriving DecidableEq
def kZ.zero:kZ:=⟨0,0,0,0,0,0,0,false,false,[],[]⟩
def kP (k:Int):Prop:=1<=k/\k<=4
instance (k:Int):Decidable (kP k):=inferInstanceAs (Decidable (_/\_))
def iZ (n k:Int):Prop:=kP k/\0<=n/\n<256^k.toNat
instance (n k:Int):Decidable (iZ n k):=inferInstanceAs (Decidable (_/\_))
def kG (n:Int):Prop:=0<=n/\n<4294967296
instance (n:Int):Decidable (kG n):=inferInstanceAs (Decidable (_/\_))
def kZ.fine (p:kZ):Prop:=(iZ p.tos 1/\iZ p.ttl 1/\iZ p.proto 1/\iZ p.id 2)/\(kG p.src/\kG p.dst)/\
 (0<=p.off/\p.off<=65528/\Int.tmod p.off 8=0/\(p.mf=true->p.data.length % 8=0))/\p.opts.length<=40/\p.opts.length % 4=0
instance (p:kZ):Decidable p.fine:=inferInstanceAs (Decidable (_/\_))
def kZ.short (p:kZ):Prop:=20+p.opts.length+p.data.length<=65535/\p.off<=65535 - (p.data.length:Int)
instance (p:kZ):Decidable p.short:=inferInstanceAs (Decidable (_/\_))
def kZ.bits (p:kZ):Nat:=p.off.toNat / 8+(if p.df then 16384 else 0)+(if p.mf then 8192 else 0)
def kZ.head (p:kZ) (s:Nat):List UInt8:=
 jX 1 (64+(20+p.opts.length) / 4)++jX 1 p.tos.toNat++jX 2 (20+p.opts.length+p.data.length)++jX 2 p.id.toNat++jX 2 p.bits++jX 1 p.ttl.toNat++jX 1 p.proto.toNat++jX 2 s++jX 4 p.src.toNat++jX 4 p.dst.toNat++p.opts
def kZ.sum (p:kZ):Nat:=65535 - fold (tot (p.head 0))
def kZ.bytes (p:kZ):List UInt8:=p.head p.sum++p.data
def num (b:List UInt8) (at_ k:Nat):Nat:=nN ((b.drop at_).take k)
def hlen (b:List UInt8):Nat:=((b[0]?).getD 0).toNat % 16 * 4
def field (b:List UInt8):kZ:=
 let f:=num b 6 2
 ⟨num b 1 1,num b 4 2,(f % 8192 * 8:Nat),num b 8 1,num b 9 1,num b 12 4,num b 16 4,f / 16384 % 2==1,f / 8192 % 2==1,(b.take (hlen b)).drop 20,(b.take (num b 2 2)).drop (hlen b)⟩
end Gp.V4
end
section
namespace Go.Proofs
open Gp Gp.V4
theorem aco {e:TypeId} {w:θ} {x:fU} {m:List UInt8} (hx:h_ w x m) (hl:m.length<=2^46) {K:fU->b_}
  (hK:∀r w',Buf w' r (bytesV m)->(r.a=none↔x.a=none)->Ext w w'->(∀b,fU.at r b->w.heap.size<=b)->K r w'):
  (bif (Option.isNone x.a) then K ⟨none,0,0⟩ w else Al w (.cells ⟨[]⟩ e) λa3 w2=>mW e 1 1 [(Value.int .u8 0)] ⟨(some a3),0,0⟩ x w2 K):=by
 cases u:x.a with
 |none=>
  simp only[alx,Δ];have:=hx.empty u;subst this;exact hK _ _ Buf.nil (by simp[u]) (Ext.refl _) λb ⟨o,h⟩=>by cases h
 |some a=>
  simp only[ak3,Β];refine gu λb w2 r2 e2 _ f2=> ?_;have hx2:=hx.ext f2;refine ji (l:=[]) ⟨rfl,.inr ⟨b,[],rfl,rfl,by simpa [bytesV] using r2⟩⟩ hx2 (by simpa using hl) λs' w' h1 h2 h3 h4=> ?_;refine hK _ _ (by simpa using h1) (by rw[u];exact⟨λh=>by have:=(h4 h).2;simp at this,λh=>by simp at h⟩) (gU.new (Ext.fr f2 h2) ?_) (λc hc=> ?_)
  ·rintro y hy ⟨o,e⟩
   cases e;omega
  ·rcases h3 c hc with ⟨o,e⟩|h
   ·cases e;omega
   ·have:=(f2 λ_=>False).size;omega
theorem nD {w:θ} {x:fU} {m:List UInt8} (hx:h_ w x m) (hl:m.length<=2^46):
  gY x w λr w'=>Buf w' r (bytesV m)/\(r.a=none↔x.a=none)/\Ext w w'/\∀b,fU.at r b->w.heap.size<=b:=by
 apply BG;exact aco (K:=λr w'=>Buf w' r (bytesV m)/\(r.a=none↔x.a=none)/\Ext w w'/\∀b,fU.at r b->w.heap.size<=b) hx hl λr w' h1 h2 h3 h4=>⟨h1,h2,h3,h4⟩
theorem yI (k:Int) (w:θ):Et k w λr w'=>r=decide (kP k)/\w'=w:=by
 apply ZO;by_cases h1:k>=1
 ·by_cases h2:k<=4
  ·have:kP k:=⟨h1,h2⟩;simp[h1,h2,this]
  ·have:¬kP k:=λh=>h2 h.2;simp[h1,h2,this]
 ·have:¬kP k:=λh=>h1 h.1;simp[h1,this]
theorem ajc {n:Int} {i:Nat} (hi:i<=7) (hn:0<=n):jy .i64 n (ο.wrap (8 * (i:Int)))=((n.toNat / 256^i:Nat):Int):=by
 rw[Α];unfold jy;have e:(2:Int)^(min ((8:Int) * (i:Int)).toNat (IntKind.bits .i64))=((256^i:Nat):Int):=by
  have:i=0\/i=1\/i=2\/i=3\/i=4\/i=5\/i=6\/i=7:=by omega
  rcases this with rfl|rfl|rfl|rfl|rfl|rfl|rfl|rfl<;>decide
 rw[e,ak2 _ (Int.natCast_nonneg _),alh,Int.toNat_of_nonneg hn]
theorem afk {n k:Int} (hk:kP k) (hn:0<=n):(jy .i64 n (ο.wrap (8 * k))==0)=decide (n<256^k.toNat):=by
 obtain⟨h1,h2⟩:=hk;obtain⟨m,rfl⟩:∃m:Nat,k=(m:Int):=⟨k.toNat,by omega⟩;rw[ajc (by omega) hn];have hp:0<256^m:=Nat.pow_pos (by omega);obtain⟨x,rfl⟩:∃x:Nat,n=(x:Int):=⟨n.toNat,by omega⟩;have e:((256:Int)^(m:Int).toNat)=((256^m:Nat):Int):=by simp
 rw[e];simp only[Η];by_cases h:x<256^m
 ·have:x / 256^m=0:=aly h;have h':((x:Int)<((256^m:Nat):Int)):=by omega
  rw[this];simp only[h',aaA];rfl
 ·have:1<=x / 256^m:=(Nat.le_div_iff_mul_le hp).2 (by omega);have h':¬((x:Int)<((256^m:Nat):Int)):=by omega
  simp only[h',aaV,akJ,ne_eq];omega
theorem rE (n k:Int) (w:θ):kQ n k w λr w'=>r=decide (iZ n k)/\w'=w:=by
 apply aaL;refine cmS0 (yI k w) ?_;rintro r w1 ⟨rfl,rfl⟩;by_cases hk:kP k
 ·by_cases hn:n>=0
  ·simp only[hk,hn,aaA,Δ];refine⟨by have:=hk.1;have:=hk.2;rw[Α];omega,?_,by trivial⟩;rw[afk hk hn];simp[iZ,hk,hn]
  ·simp only[hk,hn,aaA,aaV,Δ,Β];have:¬iZ n k:=λh=>hn h.2.1;exact⟨by simp[this],by trivial⟩
 ·simp only[hk,aaV,Β];exact⟨by simp[iZ,hk],by trivial⟩
def yB (l:List UInt8):List (Ae [.one (.int .u8)]):=l.map λb=>((b.toNat:Int),())
theorem abb (l:List UInt8) (i:Nat):(yB l)[i]? =(l[i]?).map λb=>((b.toNat:Int),()):=by simp[yB]
theorem Xi:∀(k n i:Nat),i<k->(jX k n)[i]? =some (UInt8.ofNat (n / 256^(k - 1 - i)))
 |0,_,_,h=>by omega
 |k+1,n,0,_=>by simp[jX]
 |k+1,n,i+1,h=>by
  simp only[jX,adB];rw[Xi k n i (by omega),show k+1 - 1 - (i+1)=k - 1 - i by omega]
theorem Zo {n:Int} {k f0 f1:Nat} (hk:k<=4) (hn:0<=n):
  oO υ [.one (.int .u8)] (Value.func (.func U4) #[] #[(Value.pointer (some ⟨f0,0,none⟩)),(Value.pointer (some ⟨f1,0,none⟩))])
   (λW=>Row W f0 [.int .i64 (k:Int)]/\Row W f1 [.int .i64 n]) (yB (jX k n.toNat)):=by
 refine⟨by kernel_rfl,λl Q D hC hQ hD hy w h0=> ?_⟩;refine Calls.mono (Tj (a0:= .func (.yield l) #[] #[]) (f0:=⟨f0,0,none⟩) (f1:=⟨f1,0,none⟩) (K:=λw'=>Q (yB (jX k n.toNat)).length w'\/D w') ?_) (λe w' h=>h);have hlen:(yB (jX k n.toNat)).length=k:=by simp[yB,iQ]
 obtain⟨r0,_⟩:=hC _ _ h0;simp only[sx,r0.cell];rw[hlen];refine gK (λst W=>∃i:Nat,i<=k/\st.1=(k:Int) - 1 - i/\Q i W) (λst _=>(st.1+1).toNat) ⟨0,by omega,by rw[Α];simp,h0⟩ ?_;rintro⟨x,⟨⟩⟩ W ⟨i,hi,hx,hq⟩ next u
 simp only at hx;by_cases I:i<k
 ·have hx0:x>=0:=by omega
  obtain⟨_,r1⟩:=hC _ _ hq;simp only[sx,hx0,aaA,r1.cell];refine⟨by rw[Α];omega,?_⟩;obtain⟨j,rfl⟩:∃j:Nat,x=(j:Int):=⟨x.toNat,by omega⟩;rw[ajc (by omega) hn];have hj:j=k - 1 - i:=by omega
  have e:IntKind.u8.wrap ((n.toNat / 256^j:Nat):Int)=(((UInt8.ofNat (n.toNat / 256^j)).toNat:Nat):Int):=by
   rw[IntKind.wrap_u8];simp
  rw[e];refine lI (hy i ((((UInt8.ofNat (n.toNat / 256^j)).toNat:Nat):Int),()) W _ ?_ hq ?_ ?_)
  ·rw[abb,Xi _ _ _ I,<- hj];rfl
  ·intro W' hq';refine⟨true,rfl,?_⟩;simp only[ab6,Β];rw[Α];exact u _ _ ⟨i+1,by omega,by simp only;omega,hq'⟩ (by simp only;omega)
  ·intro W' hd;refine⟨false,rfl,?_⟩;simp only[aek,Δ];exact .inr hd
 ·have hx0:¬x>=0:=by omega
  simp only[hx0,aaV,Β];have:i=k:=by omega
  subst this;exact .inl hq
def QD (w0 w:θ) (v:Value) (l:List UInt8):Prop:=
 ∃C,oO υ [.one (.int .u8)] v C (yB l)/\∀W S,gU w W S->(∀b,w0.heap.size<=b->b<w.heap.size->¬S b)->C W
theorem VZ {n k:Int} (hk:kP k) (hn:0<=n) (w:θ):BK n k w λv w'=>Ext w w'/\QD w w' v (jX k.toNat n.toNat):=by
 apply X9;refine⟨rfl,gu λa w1 r1 e1 z1 f1=>⟨rfl,gu λb w2 r2 e2 z2 f2=> ?_⟩⟩;have r1':=r1.ext f2;obtain⟨m,rfl⟩:∃m:Nat,k=(m:Int):=⟨k.toNat,by have:=hk.1;omega⟩;refine⟨f1.trans f2,_,Zo (by have:=hk.2;omega) hn,λW S hf hs=>⟨r2.fr hf (hs _ ?_ ?_),r1'.fr hf (hs _ ?_ ?_)⟩⟩<;>omega
theorem Ep {w0 w:θ} {s:fU} {v:Value} {l m:List UInt8} (hs:Buf w s (bytesV l)) (hv:QD w0 w v m) (hd:∀b,fU.at s b->¬(w0.heap.size<=b/\b<w.heap.size)) (hl:l.length+m.length<=2^46):
  jr s v w λr w'=>Buf w' r (bytesV (l++m))/\gU w w' (fU.at s)/\(∀b,fU.at r b->fU.at s b\/w.heap.size<=b)/\(r.a=none->l++m=[]/\s.a=none):=by
 obtain⟨C,hi,hC⟩:=hv;apply pU;refine⟨rfl,gu λa w1 r1 e1 z1 f1=> ?_⟩;have hlen:(yB m).length=m.length:=by simp[yB]
 have u:∀b,fU.at s b->b<w.heap.size:=λb hb=>hs.lt hb;refine Bh hi (λi W=>∃t:fU,Row W a [.slice t.a t.len t.cap]/\Buf W t (bytesV (l++m.take i))/\gU w W (fU.at s)/\(∀b,fU.at t b->fU.at s b\/(w.heap.size<=b/\b≠a/\b≠nG none w1/\b≠w1.heap.size))/\(t.a=none->l++m.take i=[]/\s.a=none)/\nG none w1<W.heap.size)
  (λ_ _=>False) (by simp) ?_ ?_ ?_ (by intro e W W' h;exact h.elim) (by intro e W h;exact h.elim) ?_ ?_ (by intro W h;exact h.elim) (by intro id W h;exact h.elim)
 ·intro w2 f2 z2;refine⟨s,r1.ext f2,by simpa using (hs.ext f1).ext f2,(f1.trans f2) _,λb hb=> .inl hb,?_,by omega⟩;simp only[List.take_zero,ali];intro ha;obtain⟨_,⟨_,h2,_⟩|⟨c,pad,h2,_⟩⟩:=hs
  ·exact⟨by simpa [bytesV] using h2,ha⟩
  ·rw[ha] at h2;cases h2
 ·rintro i W ⟨t,_,_,hf,_⟩;exact hC W _ hf λb h1 h2 h3=>hd b h3 ⟨h1,h2⟩
 ·rintro i W W' ⟨t,h1,h2,h3,h4,h5,h6⟩ hf;have J:nG none w1=w1.heap.size+1:=rfl;refine⟨t,h1.fr hf (by omega),h2.fr hf λb hb e=> ?_,h3.trans hf (λb hb e=>by omega),h4,h5,by have:=hf.size;omega⟩;rcases h4 b hb with h|h
  ·have:=u b h;omega
  ·omega
 ·intro i x W Kb hx ⟨t,h1,h2,h3,h4,h5,h6⟩ hlt I _;refine⟨rfl,?_⟩;have J:nG none w1=w1.heap.size+1:=rfl;rw[abb] at hx
  cases hb:m[i]? with
  |none=>rw[hb] at hx;simp at hx
  |some y=>
  rw[hb] at hx;simp only[aik,afM] at hx;subst hx;have fb:=gU.gG W (nG none w1);have h1':=h1.fr fb (by omega);have h2':Buf (gG W (nG none w1)) t (bytesV (l++m.take i)):=h2.fr fb λb hb e=>by
   rcases h4 b hb with h|h
   ·have:=u b h;omega
   ·omega
  simp only[sx,h1'.cell];have N:i<m.length:=(ady.1 hb).1;refine gu λc w3 r3 e3 z3 f3=> ?_;have hz3:w3.heap.size=W.heap.size+1:=by rw[z3,e3];simp[gG]
  have hx3:h_ w3 ⟨some ⟨c,0,none⟩,1,1⟩ [y]:= .iG (h_.row (l:=[y]) (by simpa [bytesV] using r3));have h2'':=h2'.ext f3;refine ji h2'' hx3 (by simp;omega) λs' w4 b4 f4 p4 n4=> ?_;have O:¬fU.at t a:=λh=>by
   rcases h4 a h with h|h
   ·have:=u a h;omega
   ·exact h.2.1 rfl
  have h1'':=(h1'.ext f3).fr f4 O;refine gX h1'' rfl (by simp) λw5 r5 f5 z5=> ?_;simp only[agE] at r5;have hbz:(gG W (nG none w1)).heap.size=W.heap.size:=by simp[gG]
  have R:∀b,fU.at s' b->b≠a:=λb hb e=>by
   rcases p4 b hb with h|h
   ·exact O (e ▸ h)
   ·have:=h1.lt;omega
  refine I w5 (λb=>fU.at t b\/b=a) ?_ ?_ ⟨s',r5,?_,?_,?_,?_,?_⟩
  ·exact((f3 _).trans (f4.mono λb h=> .inl h) λ_ _ e=>e).trans (f5 (λb=>fU.at t b\/b=a) (.inr rfl)) λ_ _ e=>e
  ·rintro b hb1 hb2 (h|h)
   ·rcases h4 b h with h|h
    ·have:=u b h;omega
    ·rcases akM b (nG none w1) with hx|hx<;>omega
   ·omega
  ·have e:l++m.take (i+1)=l++m.take i++[y]:=by
    rw[ajM N];have:m[i]=y:=by rw[abe N] at hb;simpa using hb
    simp[this]
   rw[e];exact b4.fr (f5 (·=a) rfl) λb hb e=>R b hb e
  ·refine((h3.trans fb λb hb e=>by omega).ext f3).trans (S':=λb=>fU.at t b\/b=a) ((f4.mono λb h=> .inl h).trans (f5 (λb=>fU.at t b\/b=a) (.inr rfl)) λ_ _ e=>e) ?_;rintro b hb (h|h)
   ·rcases h4 b h with h|h
    ·exact h
    ·omega
   ·omega
  ·intro b hb;rcases p4 b hb with h|h
   ·exact h4 b h
   ·refine .inr ⟨by have:=h3.size;omega,R b hb,?_,?_⟩<;>omega
  ·intro ha;obtain⟨h1,h2⟩:=n4 ha;simp at h1
  ·have:=f4.size;omega
 ·rintro W ⟨t,h1,h2,h3,h4,h5,h6⟩ hm;have J:nG none w1=w1.heap.size+1:=rfl;simp only[sx,h1.cell];rw[hlen,ajU] at h2 h5;refine⟨hm rfl,?_,?_,?_,h5⟩
  ·exact h2.fr (gU.pJ _ _ _) λb hb e=>by
    rcases h4 b hb with h|h
    ·have:=u b h;omega
    ·omega
  ·exact h3.trans (gU.pJ _ _ _) λb hb e=>by omega
  ·intro b hb;rcases h4 b hb with h|h
   ·exact .inl h
   ·exact .inr h.1
def j_ (l:List UInt8) (n k:Int):List UInt8:=if iZ n k then l++jX k.toNat n.toNat else l
theorem yT {w:θ} {s:fU} {l:List UInt8} (hs:h_ w s l) (hl:l.length+4<=2^46) (n k:Int):
  nY s n k w λr w'=>Buf w' r (bytesV (j_ l n k))/\Ext w w'/\(∀b,fU.at r b->w.heap.size<=b):=by
 apply acW;refine cmS2 (nD hs (by omega)) ?_;rintro r w1 ⟨b1,_,f1,n1⟩;refine cmS0 (rE n k w1) ?_;rintro _ _ ⟨rfl,rfl⟩;by_cases hf:iZ n k
 ·simp only[hf,aaA,ab6,Β];refine cmS5 (VZ hf.1 hf.2.1 _) ?_;rintro v w2 ⟨f2,hv⟩;have hk:=hf.1;refine cmS2 (Ep (b1.ext f2) hv (λb hb h=>by have:=b1.lt hb;omega) (by rw[iQ];have:=hk.2;omega)) ?_;rintro r' w3 ⟨b3,f3,n3,_⟩;refine⟨by simpa [j_,hf] using b3,(f1.trans f2).new f3 λb hb h=>by have:=n1 b h;omega,λb hb=> ?_⟩;have:=f1.size;have:=f2.size;rcases n3 b hb with h|h
  ·exact n1 b h
  ·omega
 ·simp only[hf,aaV,aek,Δ];exact⟨by simpa [j_,hf] using b1,f1,n1⟩
end Go.Proofs
end
section
namespace Gp.Bind
open Gp.V4
def keyB (l:List Int):List UInt8:=l.flatMap λn=>jX 8 (n % 18446744073709551616).toNat
def keyS (l:List Int):ByteArray:=⟨⟨keyB l⟩⟩
def In64 (n:Int):Prop:= -9223372036854775808<=n/\n<=9223372036854775807
theorem Nr (l:List Int):(keyB l).length=l.length * 8:=by
 induction l with
 |nil=>rfl
 |cons n l ih=>
  have:keyB (n::l)=jX 8 (n % 18446744073709551616).toNat++keyB l:=rfl;rw[this,adH,iQ,ih,aeW];omega
theorem ZG:∀{l m:List Int},l.length=m.length->(∀n∈l,In64 n)->(∀n∈m,In64 n)->keyB l=keyB m->l=m
 |[],[],_,_,_,_=>rfl
 |[],_::_,h,_,_,_=>by simp at h
 |_::_,[],h,_,_,_=>by simp at h
 |a::l,b::m,h,hl,hm,he=>by
  have he:jX 8 (a % 18446744073709551616).toNat++keyB l=jX 8 (b % 18446744073709551616).toNat++keyB m:=he;obtain⟨h1,h2⟩:=List.append_inj he (by simp[iQ]);have h3:=congrArg nN h1;rw[WA,WA] at h3;have e:(256:Nat)^8=18446744073709551616:=by decide
  rw[e] at h3;have ha:=hl a (akl ..);have hb:=hm b (akl ..);obtain⟨ha1,ha2⟩:=ha;obtain⟨hb1,hb2⟩:=hb;have u:a=b:=by omega
  rw[u,ZG (by simpa using h) (λn hn=>hl n (aj2 _ hn)) (λn hn=>hm n (aj2 _ hn)) h2]
theorem keyS_inj {l m:List Int} (h:l.length=m.length) (hl:∀n∈l,In64 n) (hm:∀n∈m,In64 n) (he:keyS l=keyS m):l=m:=by
 refine ZG h hl hm ?_;unfold keyS at he;injection he with he;injection he
structure Bnd where
 sw:Int
 pr:Int
 ad:Int
 po:Int
 opr:Int
 oad:Int
 opo:Int
 st:Bool
deriving DecidableEq
def Bnd.i (b:Bnd):List Int:=[b.sw,b.pr,b.ad,b.po]
def Bnd.o (b:Bnd):List Int:=[b.opr,b.oad,b.opo]
def Bnd.ok (b:Bnd):Prop:=(∀n∈b.i,In64 n)/\∀n∈b.o,In64 n
abbrev Slots:=List (Option Bnd)
def live:Nat->Slots->List (Int×Bnd)
 |_,[]=>[]
 |i,none::r=>live (i+1) r
 |i,some b::r=>((i:Int),b)::live (i+1) r
theorem nH:∀{S:Slots} {k:Nat} {v:Int} {b:Bnd},(v,b)∈live k S↔∃i:Nat,S[i]? =some (some b)/\v=((k+i:Nat):Int)
 |[],k,v,b=>by simp[live]
 |none::r,k,v,b=>by
  rw[live,nH];constructor
  ·rintro⟨i,h1,h2⟩;exact⟨i+1,by simpa using h1,by omega⟩
  ·rintro⟨i,h1,h2⟩
   cases i with
   |zero=>simp at h1
   |succ i=>exact⟨i,by simpa using h1,by omega⟩
 |some c::r,k,v,b=>by
  rw[live,afm,nH];constructor
  ·rintro(h|⟨i,h1,h2⟩)
   ·simp only[akd] at h;exact⟨0,by simp[h.2],by omega⟩
   ·exact⟨i+1,by simpa using h1,by omega⟩
  ·rintro⟨i,h1,h2⟩
   cases i with
   |zero=>
    simp only[abY,afM] at h1;left;rw[h1,h2];rfl
   |succ i=>right;exact⟨i,by simpa using h1,by omega⟩
theorem jV:∀(S:Slots) (k:Nat),(live k S).length<=S.length
 |[],_=>by simp[live]
 |none::r,k=>by have:=jV r (k+1);simp[live];omega
 |some b::r,k=>by have:=jV r (k+1);simp[live];omega
def freeN:Slots->Option Nat
 |[]=>none
 |none::_=>some 0
 |some _::r=>(freeN r).map (·+1)
theorem jm:∀{S:Slots} {i:Nat} (k:Nat),freeN S=some i->i<S.length/\S[i]? =some none/\(live k S).length<S.length/\i<=(live k S).length/\(∀j,j<i->∃b,(live k S)[j]? =some (((k+j:Nat):Int),b)/\S[j]? =some (some b))/\
  (∀v b,(live k S)[i]? =some (v,b)->v≠((k+i:Nat):Int))/\∀b,live k (S.set i (some b))=(live k S).take i++(((k+i:Nat):Int),b)::(live k S).drop i
 |[],i,_,h=>by simp[freeN] at h
 |none::r,i,k,h=>by
  simp[freeN] at h;subst h;have hl:=jV r (k+1);refine⟨by simp,rfl,by simp[live];omega,by omega,by omega,λv b hv=> ?_,λb=>by simp[live]⟩;have:=ajF hv;rw[live,nH] at this;obtain⟨j,_,hj⟩:=this;omega
 |some c::r,i,k,h=>by
  simp only[freeN,akW] at h;obtain⟨i',h',rfl⟩:=h;obtain⟨h1,h2,h3,h4,h5,h6,h7⟩:=jm (k+1) h';refine⟨by simp;omega,by simpa using h2,by simp[live];omega,by simp[live];omega,λj hj=> ?_,λv b hv=> ?_,λb=> ?_⟩
  ·cases j with
   |zero=>exact⟨c,by simp[live],by simp⟩
   |succ j=>
    obtain⟨b,g1,g2⟩:=h5 j (by omega);refine⟨b,?_,by simpa using g2⟩;rw[live,adB,g1,show k+1+j=k+(j+1) by omega]
  ·rw[live,adB] at hv;have:=h6 v b hv
   rwa [show k+1+i'=k+(i'+1) by omega] at this
  ·rw[aho,live,h7 b,live,List.take_succ_cons,List.drop_succ_cons,show k+1+i'=k+(i'+1) by omega];rfl
theorem kV:∀{S:Slots} {i:Nat} {b:Bnd} (k:Nat),S[i]? =some (some b)->(live k (S.set i none)).length+1=(live k S).length
 |[],_,_,_,h=>by simp at h
 |c::r,0,b,k,h=>by
  simp at h;subst h;simp[live]
 |none::r,i+1,b,k,h=>by
  rw[aho,live,live];exact kV (k+1) (by simpa using h)
 |some c::r,i+1,b,k,h=>by
  rw[aho,live,live,aeW,aeW,kV (k+1) (by simpa using h)]
structure GoodB (S:Slots) (Mi Mo:ByteArray->Option Int):Prop where
 i:∀k v,Mi k=some v↔∃(j:Nat) (b:Bnd),S[j]? =some (some b)/\keyS b.i=k/\v=(j:Int)
 o:∀k v,Mo k=some v↔∃(j:Nat) (b:Bnd),S[j]? =some (some b)/\keyS b.o=k/\v=(j:Int)
 ok:∀(j:Nat) (b:Bnd),S[j]? =some (some b)->b.ok
def upd (M:ByteArray->Option Int) (k:ByteArray) (v:Option Int):ByteArray->Option Int:=λx=>if x=k then v else M x
theorem g_ {S:Slots} {i j:Nat} {v:Option Bnd} (hi:i<S.length):(S.set i v)[j]? =if i=j then some v else S[j]? :=by
 rw[ajo];split
 ·rename_i h;subst h;simp[]
 ·rfl
theorem GoodB.add {S:Slots} {Mi Mo:ByteArray->Option Int} (h:GoodB S Mi Mo) {i:Nat} {b:Bnd} (hi:S[i]? =some none) (hb:b.ok) (h1:Mi (keyS b.i)=none) (h2:Mo (keyS b.o)=none):
  GoodB (S.set i (some b)) (upd Mi (keyS b.i) (some i)) (upd Mo (keyS b.o) (some i)):=by
 have hl:i<S.length:=(ady.1 hi).1;refine⟨λk v=> ?_,λk v=> ?_,λj c hc=> ?_⟩
 ·unfold upd;by_cases hk:k=keyS b.i
  ·rw[Ζ hk];constructor
   ·intro e;exact⟨i,b,by rw[g_ hl,Ζ rfl],hk.symm,by simpa using e.symm⟩
   ·rintro⟨j,c,hc,hk2,rfl⟩;rw[g_ hl] at hc;split at hc
    ·rename_i e;subst e;rfl
    ·have:=(h.i k j).2 ⟨j,c,hc,hk2,rfl⟩;rw[hk,h1] at this;cases this
  ·rw[Ε hk,h.i];constructor
   ·rintro⟨j,c,hc,hk2,rfl⟩;refine⟨j,c,?_,hk2,rfl⟩;rw[g_ hl,Ε]
    ·exact hc
    ·rintro rfl;rw[hi] at hc;cases hc
   ·rintro⟨j,c,hc,hk2,rfl⟩;rw[g_ hl] at hc;split at hc
    ·rename_i e;subst e;simp only[afM] at hc;subst hc;exact absurd hk2.symm hk
    ·exact⟨j,c,hc,hk2,rfl⟩
 ·unfold upd;by_cases hk:k=keyS b.o
  ·rw[Ζ hk];constructor
   ·intro e;exact⟨i,b,by rw[g_ hl,Ζ rfl],hk.symm,by simpa using e.symm⟩
   ·rintro⟨j,c,hc,hk2,rfl⟩;rw[g_ hl] at hc;split at hc
    ·rename_i e;subst e;rfl
    ·have:=(h.o k j).2 ⟨j,c,hc,hk2,rfl⟩;rw[hk,h2] at this;cases this
  ·rw[Ε hk,h.o];constructor
   ·rintro⟨j,c,hc,hk2,rfl⟩;refine⟨j,c,?_,hk2,rfl⟩;rw[g_ hl,Ε]
    ·exact hc
    ·rintro rfl;rw[hi] at hc;cases hc
   ·rintro⟨j,c,hc,hk2,rfl⟩;rw[g_ hl] at hc;split at hc
    ·rename_i e;subst e;simp only[afM] at hc;subst hc;exact absurd hk2.symm hk
    ·exact⟨j,c,hc,hk2,rfl⟩
 ·rw[g_ hl] at hc;split at hc
  ·simp only[afM] at hc;subst hc;exact hb
  ·exact h.ok j c hc
theorem GoodB.one {S:Slots} {Mi Mo:ByteArray->Option Int} (h:GoodB S Mi Mo) {i j:Nat} {b c:Bnd} (hi:S[i]? =some (some b)) (hj:S[j]? =some (some c)) (e:keyS b.i=keyS c.i\/keyS b.o=keyS c.o):i=j:=by
 rcases e with e|e
 ·have h1:=(h.i _ i).2 ⟨i,b,hi,rfl,rfl⟩;have h2:=(h.i _ j).2 ⟨j,c,hj,rfl,rfl⟩;rw[e,h2] at h1;simp at h1;omega
 ·have h1:=(h.o _ i).2 ⟨i,b,hi,rfl,rfl⟩;have h2:=(h.o _ j).2 ⟨j,c,hj,rfl,rfl⟩;rw[e,h2] at h1;simp at h1;omega
theorem GoodB.remove {S:Slots} {Mi Mo:ByteArray->Option Int} (h:GoodB S Mi Mo) {i:Nat} {b:Bnd} (hi:S[i]? =some (some b)):
  GoodB (S.set i none) (upd Mi (keyS b.i) none) (upd Mo (keyS b.o) none):=by
 have hl:i<S.length:=(ady.1 hi).1;refine⟨λk v=> ?_,λk v=> ?_,λj c hc=> ?_⟩
 ·unfold upd;by_cases hk:k=keyS b.i
  ·rw[Ζ hk];constructor
   ·intro e;cases e
   ·rintro⟨j,c,hc,hk2,rfl⟩;rw[g_ hl] at hc;split at hc
    ·cases hc
    ·rename_i e;exact absurd (h.one hi hc (.inl (by rw[hk2,hk]))) e
  ·rw[Ε hk,h.i];constructor
   ·rintro⟨j,c,hc,hk2,rfl⟩;refine⟨j,c,?_,hk2,rfl⟩;rw[g_ hl,Ε]
    ·exact hc
    ·rintro rfl;rw[hi] at hc;simp only[afM] at hc;subst hc;exact hk hk2.symm
   ·rintro⟨j,c,hc,hk2,rfl⟩;rw[g_ hl] at hc;split at hc
    ·cases hc
    ·exact⟨j,c,hc,hk2,rfl⟩
 ·unfold upd;by_cases hk:k=keyS b.o
  ·rw[Ζ hk];constructor
   ·intro e;cases e
   ·rintro⟨j,c,hc,hk2,rfl⟩;rw[g_ hl] at hc;split at hc
    ·cases hc
    ·rename_i e;exact absurd (h.one hi hc (.inr (by rw[hk2,hk]))) e
  ·rw[Ε hk,h.o];constructor
   ·rintro⟨j,c,hc,hk2,rfl⟩;refine⟨j,c,?_,hk2,rfl⟩;rw[g_ hl,Ε]
    ·exact hc
    ·rintro rfl;rw[hi] at hc;simp only[afM] at hc;subst hc;exact hk hk2.symm
   ·rintro⟨j,c,hc,hk2,rfl⟩;rw[g_ hl] at hc;split at hc
    ·cases hc
    ·exact⟨j,c,hc,hk2,rfl⟩
 ·rw[g_ hl] at hc;split at hc
  ·cases hc
  ·exact h.ok j c hc
def getS (S:Slots) (id:Int):Option Bnd:=if 0<=id then (S[id.toNat]?).join else none
theorem nV {S:Slots} {id:Int} {b:Bnd}:getS S id=some b↔0<=id/\S[id.toNat]? =some (some b):=by
 unfold getS;split
 ·rename_i h;rw[Option.join_eq_some_iff];simp[h]
 ·rename_i h;simp[h]
end Gp.Bind
end
section
namespace Go.Proofs
open Gp Gp.Hash
theorem ahI (m:Nat):V4.jX 8 m=V4.jX 4 (m / 4294967296)++V4.jX 4 (m % 4294967296):=by
 simp only[V4.jX,akv,akC,akF,akD];refine⟨?_,?_,?_,?_,?_,?_,?_,?_⟩<;>apply UInt8.toNat_inj.1<;>simp<;>omega
theorem aeF {x:Int} (h:Bind.In64 x):kT .i64 (jy .i64 x 32) 4294967295=(((x % 18446744073709551616).toNat / 4294967296:Nat):Int)/\kT .i64 x 4294967295=(((x % 18446744073709551616).toNat % 4294967296:Nat):Int):=by
 obtain⟨h1,h2⟩:=h;have low:∀y:Int,kT .i64 y 4294967295=(((y % 18446744073709551616).toNat % 4294967296:Nat):Int):=by
  intro y;unfold kT;have e1:(BitVec.ofInt (IntKind.bits .i64) y).toNat=(y % 18446744073709551616).toNat:=by rw[vT,aj1];rfl
  have e2:(BitVec.ofInt (IntKind.bits .i64) 4294967295).toNat=2^32 - 1:=by rw[vT,aj1];rfl
  rw[akU,e1,e2,I_];rw[Α]
 refine⟨?_,low x⟩;rw[low];unfold jy;have e:(2:Int)^(min (32:Int).toNat (IntKind.bits .i64))=4294967296:=by decide
 rw[e,ak2 _ (by omega)];omega
theorem key_ok {w:θ} {b:Nat} {ns:List Int} {vs:List Value} (h:Row w b vs) (hv:vs=ns.map λn=>Value.int .i64 n) (n c:Nat) (hn:n=ns.length) (hl:ns.length<=10) (hr:∀n∈ns,Bind.In64 n):
  Eu ⟨some ⟨b,0,none⟩,n,c⟩ w λr w'=>r=Bind.keyS ns/\Ext w w':=by
 subst hv hn;apply ZQ;refine gK (λst W=>∃i:Nat,i<=ns.length/\st.2.1=(i:Int)/\h_ W st.1 (Bind.keyB (ns.take i))/\Ext w W) (λst _=>ns.length - st.2.1.toNat) ⟨0,by omega,rfl,h_.nil,Ext.refl _⟩ ?_;rintro⟨s,x,⟨⟩⟩ W ⟨i,hi,rfl,hs,hx⟩ next I
 have hs:h_ W s (Bind.keyB (ns.take i)):=hs;by_cases J:i<ns.length
 ·have u:((i:Int)<(ns.length:Int)):=by omega
  simp only[sx,u,aaA,Η,ahy,(h.ext hx).cell,aiF,abe J,aik];refine⟨by omega,by trivial,by omega,?_⟩;obtain⟨e1,e2⟩:=aeF (hr _ (ajm J));rw[e1,e2];generalize hm:(ns[i] % 18446744073709551616).toNat=m;have hm2:m<18446744073709551616:=by omega
  have kl:=Bind.Nr (ns.take i);have kl2:(ns.take i).length<=10:=by simp;omega
  refine cmS2 (yT hs (by omega) _ 4) ?_;rintro t1 w1 ⟨b1,f1,_⟩;have p1:j_ (Bind.keyB (ns.take i)) ((m / 4294967296:Nat):Int) 4=Bind.keyB (ns.take i)++V4.jX 4 (m / 4294967296):=by
   unfold j_;rw[Ζ ⟨⟨by omega,by omega⟩,by omega,by simp;omega⟩];rfl
  rw[p1] at b1;refine cmS2 (yT (h_.iG b1) (by simp[V4.iQ];omega) _ 4) ?_;rintro t2 w2 ⟨b2,f2,_⟩;have p2:j_ (Bind.keyB (ns.take i)++V4.jX 4 (m / 4294967296)) ((m % 4294967296:Nat):Int) 4=Bind.keyB (ns.take i)++V4.jX 4 (m / 4294967296)++V4.jX 4 (m % 4294967296):=by
   unfold j_;rw[Ζ ⟨⟨by omega,by omega⟩,by omega,by simp;omega⟩];rfl
  rw[p2] at b2;rw[Α];refine I _ _ ⟨i+1,by omega,by simp,?_,(hx.trans f1).trans f2⟩ (by simp only;omega);have ek:Bind.keyB (ns.take (i+1))=Bind.keyB (ns.take i)++V4.jX 4 (m / 4294967296)++V4.jX 4 (m % 4294967296):=by
   rw[ajM J];unfold Bind.keyB;rw[ajT,List.flatMap_singleton,hm,ahI,ajj]
  rw[ek];exact h_.iG b2
 ·have u:¬((i:Int)<(ns.length:Int)):=by omega
  simp only[u,aaV,Β];have:i=ns.length:=by omega
  subst this;rw[ajU] at hs;exact Pz hs ⟨rfl,hx⟩
theorem qO (l:List Int) (h:l.length<=10):(Bind.keyS l).size<=2^63 - 1:=by
 have:(Bind.keyS l).size=(Bind.keyB l).length:=rfl;rw[this,Bind.Nr];omega
theorem XK (a b c d:Int) (h:∀n∈[a,b,c,d],Bind.In64 n) (w:θ):qF a b c d w λr w'=>r=Bind.keyS [a,b,c,d]/\Ext w w':=by
 apply OV;refine gu λp w1 r1 _ _ f1=> ?_;simp only[sx,r1.cell];refine gu λq w2 r2 _ _ f2=> ?_;refine cmS9 (key_ok (ns:=[a,b,c,d]) r2 rfl 4 4 rfl (by simp) h) ?_;rintro _ w3 ⟨rfl,f3⟩;exact⟨rfl,(f1.trans f2).trans f3⟩
theorem Yz (a b c:Int) (h:∀n∈[a,b,c],Bind.In64 n) (w:θ):qG a b c w λr w'=>r=Bind.keyS [a,b,c]/\Ext w w':=by
 apply OW;refine gu λp w1 r1 _ _ f1=> ?_;simp only[sx,r1.cell];refine gu λq w2 r2 _ _ f2=> ?_;refine cmS9 (key_ok (ns:=[a,b,c]) r2 rfl 3 3 rfl (by simp) h) ?_;rintro _ w3 ⟨rfl,f3⟩;exact⟨rfl,(f1.trans f2).trans f3⟩
open Gp.Bind (Bnd Slots live GoodB freeN getS In64)
def iO:Option Bnd->List Value
 |none=>[.int .i64 0,.int .i64 0,.int .i64 0,.int .i64 0,.int .i64 0,.int .i64 0,.int .i64 0,.bool false,.bool false]
 |some b=>[.int .i64 b.sw,.int .i64 b.pr,.int .i64 b.ad,.int .i64 b.po,.int .i64 b.opr,.int .i64 b.oad,.int .i64 b.opo,.bool b.st,.bool true]
theorem kS (o:Option Bnd):(iO o).length=9:=by cases o<;>rfl
theorem Pn (o:Option Bnd):(iO o).all iL=true:=by cases o<;>rfl
theorem Bj (o:Option Bnd):(iO o)[8]? =some (.bool o.isSome):=by cases o<;>rfl
structure QZ where
 d:Nat
 sl:Nat
 ti:Nat
 si:Nat
 tu:Nat
 su:Nat
def fp (A:QZ) (b:Nat):Prop:=b=A.d\/b=A.sl\/b=A.ti\/b=A.si\/b=A.tu\/b=A.su
def QZ.ne (A:QZ):Prop:=A.d≠A.sl/\A.d≠A.ti/\A.d≠A.si/\A.d≠A.tu/\A.d≠A.su/\A.sl≠A.ti/\A.sl≠A.si/\A.sl≠A.tu/\A.sl≠A.su/\A.ti≠A.tu/\A.ti≠A.su/\A.si≠A.tu/\A.si≠A.su
structure DB (w:θ) (A:QZ) (most:Nat) (S:Slots) (Mi Mo:ByteArray->Option Int):Prop where
 hd:Row w A.d [.slice (some ⟨A.sl,0,none⟩) most most,.pointer (some ⟨A.ti,0,none⟩),.pointer (some ⟨A.tu,0,none⟩),.int .i64 ((live 0 S).length:Int)]
 row:Row w A.sl (S.flatMap iO)
 len:S.length=most
 mx:most<=4096
 tI:∃L,TB w A.ti A.si L most Mi/\cnt L=(live 0 S).length
 tO:∃L,TB w A.tu A.su L most Mo/\cnt L=(live 0 S).length
 good:GoodB S Mi Mo
 ne:A.ne
section
variable {w w':θ} {A:QZ} {most:Nat} {S:Slots} {Mi Mo:ByteArray->Option Int}
theorem DB.fr {F:Nat->Prop} (h:DB w A most S Mi Mo) (hf:gU w w' F) (hs:∀b,fp A b->¬F b):DB w' A most S Mi Mo:=by
 obtain⟨L,h1,h2⟩:=h.tI;obtain⟨L',h3,h4⟩:=h.tO;exact⟨h.hd.fr hf (hs _ (.inl rfl)),h.row.fr hf (hs _ (.inr (.inl rfl))),h.len,h.mx,⟨L,h1.fr hf (hs _ (.inr (.inr (.inl rfl)))) (hs _ (.inr (.inr (.inr (.inl rfl))))),h2⟩,
  ⟨L',h3.fr hf (hs _ (.inr (.inr (.inr (.inr (.inl rfl)))))) (hs _ (.inr (.inr (.inr (.inr (.inr rfl)))))),h4⟩,h.good,h.ne⟩
theorem DB.ext (h:DB w A most S Mi Mo) (hf:Ext w w'):DB w' A most S Mi Mo:=h.fr (hf λ_=>False) (λ_ _=>by simp)
theorem DB.slot (h:DB w A most S Mi Mo) {i:Nat} {o:Option Bnd} (hi:S[i]? =some o) (j:Nat) (hj:j<9):w.cell? ⟨A.sl,i * 9+j,none⟩=(iO o)[j]? :=by
 rw[h.row.cell,flat_get iO 9 kS _ _ j hj,hi];rfl
theorem DX (h:DB w A most S Mi Mo):lM (some ⟨A.d,0,none⟩) w λr w'=>r=true/\w'=w:=by
 apply OU;simp only[sx,h.hd.cell,aek];exact⟨by trivial,by trivial⟩
theorem MW (h:DB w A most S Mi Mo) (a b c d:Int) (hq:∀n∈[a,b,c,d],In64 n):
  oQ (some ⟨A.d,0,none⟩) a b c d w λn t w'=>t=(Mi (Bind.keyS [a,b,c,d])).isSome/\n=(Mi (Bind.keyS [a,b,c,d])).getD 0/\Ext w w':=by
 apply Ql;refine gu λp w1 r1 _ _ f1=> ?_;refine cmS0 (DX (h.ext f1)) ?_;rintro _ w2 ⟨rfl,hw⟩;subst hw;have h2:=(h.ext f1).ext (Ext.drew _);simp only[sx,ab6,h2.hd.cell,r1.drew.cell];refine cmS9 (XK a b c d hq _) ?_;rintro _ w3 ⟨rfl,f3⟩;have h3:=h2.ext f3;simp only[aeA,d_,h3.hd.cell];obtain⟨L,hL,_⟩:=h3.tI;refine cmS3 (XH hL _ (qO _ (by simp))) ?_;rintro n t w4 ⟨f4,rfl,rfl⟩;exact⟨rfl,rfl,((f1.trans (Ext.drew _)).trans f3).trans f4⟩
theorem RI (h:DB w A most S Mi Mo) (a b c:Int) (hq:∀n∈[a,b,c],In64 n):
  rQ (some ⟨A.d,0,none⟩) a b c w λn t w'=>t=(Mo (Bind.keyS [a,b,c])).isSome/\n=(Mo (Bind.keyS [a,b,c])).getD 0/\Ext w w':=by
 apply Qk;refine gu λp w1 r1 _ _ f1=> ?_;refine cmS0 (DX (h.ext f1)) ?_;rintro _ w2 ⟨rfl,hw⟩;subst hw;have h2:=(h.ext f1).ext (Ext.drew _);simp only[sx,ab6,h2.hd.cell,r1.drew.cell];refine cmS9 (Yz a b c hq _) ?_;rintro _ w3 ⟨rfl,f3⟩;have h3:=h2.ext f3;simp only[aeA,d_,h3.hd.cell];obtain⟨L,hL,_⟩:=h3.tO;refine cmS3 (XH hL _ (qO _ (by simp))) ?_;rintro n t w4 ⟨f4,rfl,rfl⟩;exact⟨rfl,rfl,((f1.trans (Ext.drew _)).trans f3).trans f4⟩
theorem afR (h:DB w A most S Mi Mo):CS (some ⟨A.d,0,none⟩) w λn w'=>n=((live 0 S).length:Int)/\w'=w:=by
 apply Tt;refine cmS0 (DX h) ?_;rintro _ w2 ⟨rfl,hw⟩;subst hw;simp only[sx,ab6,h.hd.cell];exact⟨by trivial,by trivial⟩
theorem vw:∀{S:Slots} {i:Nat},freeN S=some i↔S[i]? =some none/\∀j,j<i->∃b,S[j]? =some (some b)
 |[],i=>by simp[freeN]
 |none::r,i=>by
  simp only[freeN,afM];constructor
  ·rintro rfl;exact⟨rfl,by omega⟩
  ·rintro⟨_,h2⟩
   cases i with
   |zero=>rfl
   |succ i=>obtain⟨b,hb⟩:=h2 0 (by omega);simp at hb
 |some c::r,i=>by
  simp only[freeN,akW];constructor
  ·rintro⟨k,hk,rfl⟩;obtain⟨h1,h2⟩:=vw.1 hk;refine⟨by simpa using h1,λj hj=> ?_⟩
   cases j with
   |zero=>exact⟨c,rfl⟩
   |succ j=>simpa using h2 j (by omega)
  ·rintro⟨h1,h2⟩
   cases i with
   |zero=>simp at h1
   |succ i=>exact⟨i,vw.2 ⟨by simpa using h1,λj hj=>by simpa using h2 (j+1) (by omega)⟩,rfl⟩
theorem DY:∀{S:Slots},(∀j,j<S.length->∃b,S[j]? =some (some b))->freeN S=none
 |[],_=>rfl
 |none::r,h=>by obtain⟨b,hb⟩:=h 0 (by simp);simp at hb
 |some c::r,h=>by
  simp only[freeN,Option.map_eq_none_iff];exact DY λj hj=>by simpa using h (j+1) (by simp;omega)
theorem aec (h:DB w A most S Mi Mo):Ah (some ⟨A.d,0,none⟩) w λn t w'=>w'=w/\t=(freeN S).isSome/\n=(((freeN S).getD 0:Nat):Int):=by
 apply Qm;have hm:=h.mx;have hl:=h.len;simp only[sx,h.hd.cell];refine gK (λst W=>W=w/\∃i:Nat,i<=most/\st.1=(i:Int)/\∀j,j<i->∃b,S[j]? =some (some b)) (λst _=>most - st.1.toNat) ⟨rfl,0,by omega,rfl,by omega⟩ ?_;rintro⟨x,⟨⟩⟩ W ⟨rfl,i,hi,rfl,hp⟩ next I
 by_cases hlt:i<most
 ·have u:((i:Int)<(most:Int)):=by omega
  have hS:S[i]? =some S[i]:=abe (by omega);generalize S[i]=o at hS;simp only[sx,u,aaA,h.hd.cell,Η,h.slot hS 8 (by omega),Bj];refine⟨by omega,by trivial,?_⟩
  cases o with
  |none=>
   have hf:=vw.2 ⟨hS,hp⟩;simp only[aj_,aek,Δ,hf];exact⟨by trivial,rfl,rfl⟩
  |some b=>
   simp only[ajv,ab6,Β];rw[Α];refine I _ _ ⟨rfl,i+1,by omega,by simp,λj hj=> ?_⟩ (by simp only;omega);by_cases J:j<i
   ·exact hp j J
   ·have:j=i:=by omega
    subst this;exact⟨b,hS⟩
 ·have u:¬((i:Int)<(most:Int)):=by omega
  simp only[u,aaV,Β];have hf:=DY (S:=S) λj hj=>hp j (by omega);rw[hf];exact⟨by trivial,rfl,rfl⟩
theorem acE {S:Slots} {i:Nat} (hi:i<S.length) (o:Option Bnd):(S.flatMap iO).take (i * 9)++iO o++(S.flatMap iO).drop (i * 9+9)=(S.set i o).flatMap iO:=by
 have e1:(S.flatMap iO).take (i * 9)=(S.take i).flatMap iO:=by
  have h:S=S.take i++S.drop i:=(ajS i S).symm;have hl:((S.take i).flatMap iO).length=i * 9:=by rw[iT iO 9 kS];simp;omega
  conv=>lhs;rw[h,ajT]
  rw[<- hl];simp
 have e2:(S.flatMap iO).drop (i * 9+9)=(S.drop (i+1)).flatMap iO:=by
  have h:S=S.take (i+1)++S.drop (i+1):=(ajS (i+1) S).symm;have hl:((S.take (i+1)).flatMap iO).length=i * 9+9:=by rw[iT iO 9 kS];simp;omega
  conv=>lhs;rw[h,ajT]
  rw[<- hl];simp
 rw[e1,e2,alI,Ζ hi,ajT,ajB,ajj]
theorem MG (h:Row w A.sl (S.flatMap iO)) {i:Nat} (hi:i<S.length) (o:Option Bnd) {K:b_} (hK:∀w',Row w' A.sl ((S.set i o).flatMap iO)->gU w w' (·=A.sl)->w'.heap.size=w.heap.size->K w'):ig (iO o) w ⟨A.sl,i * 9,none⟩ 0 K:=by
 refine QC (iO o) w _ (i * 9) 0 h (λv hv=>akh.1 (Pn o) v hv) ?_ λw1 r1 f1 z1=> ?_
 ·rw[kS,iT iO 9 kS];omega
 ·rw[ajt,kS,acE hi] at r1;exact hK w1 r1 (f1 _ rfl) z1
def vS (S:Slots) (Mi Mo:ByteArray->Option Int) (b:Bnd):Int×Int:=
 if (Mi (Bind.keyS b.i)).isSome||(Mo (Bind.keyS b.o)).isSome then (0,9) else match freeN S with
  |none=>(0,7)
  |some i=>((i:Int),0)
theorem abp (h:DB w A most S Mi Mo) (b:Bnd) (hb:b.ok) (u:∀x,fp A x->x<w.heap.size):
  xG (some ⟨A.d,0,none⟩) b.sw b.pr b.ad b.po b.opr b.oad b.opo b.st w λn e w'=>(n,e)=vS S Mi Mo b/\gU w w' (fp A)/\
   ∃A' S' Mi' Mo',DB w' A' most S' Mi' Mo'/\A'.d=A.d/\(∀x,fp A' x->fp A x\/w.heap.size<=x)/\(∀x,fp A' x->x<w'.heap.size)/\S'=(if (vS S Mi Mo b).2=0 then S.set (vS S Mi Mo b).1.toNat (some b) else S):=by
 apply Tn;refine gu λp w1 r1 e1 z1 f1=> ?_;refine cmS0 (DX (h.ext f1)) ?_;rintro _ w2 ⟨rfl,hw⟩;subst hw;simp only[sx,ab6,r1.cell];refine cmS3 (MW (h.ext f1) _ _ _ _ hb.1) ?_;rintro n2 t2 w3 ⟨ht2,_,f3⟩;simp only[d_,fZ,gq,(r1.ext f3).cell];refine cmS3 (RI ((h.ext f1).ext f3) _ _ _ hb.2) ?_;rintro n4 t4 w4 ⟨ht4,_,f4⟩;have ht2:t2=(Mi (Bind.keyS b.i)).isSome:=ht2;have ht4:t4=(Mo (Bind.keyS b.o)).isSome:=ht4;have y4:=f3.trans f4;have x4:Ext w w4:=f1.trans y4;have h4:=h.ext x4;have twice:(t2||t4)=true->((0:Int),(9:Int))=vS S Mi Mo b/\gU w w4 (fp A)/\∃A' S' Mi' Mo',DB w4 A' most S' Mi' Mo'/\A'.d=A.d/\(∀x,fp A' x->fp A x\/w.heap.size<=x)/\(∀x,fp A' x->x<w4.heap.size)/\S'=(if (vS S Mi Mo b).2=0 then S.set (vS S Mi Mo b).1.toNat (some b) else S):=by
  intro ht;have e:vS S Mi Mo b=(0,9):=by unfold vS;rw[<- ht2,<- ht4,Ζ ht]
  rw[e];exact⟨rfl,x4 _,A,S,Mi,Mo,h4,rfl,λx hx=> .inl hx,λx hx=>by have:=u x hx;have:=x4.size;omega,by rw[Ε (by simp)]⟩
 cases aa:t2 with
 |true=>simp only[Δ];exact twice (by rw[aa];rfl)
 |false=>
 cases Y:t4 with
 |true=>simp only[Δ,Β];exact twice (by rw[aa,Y];rfl)
 |false=>
 rw[aa] at ht2;rw[Y] at ht4;simp only[Β];refine cmS3 (aec h4) ?_;rintro n5 t5 w5 ⟨hw,ht5,hn5⟩;subst hw
 cases Z:freeN S with
 |none=>
  rw[Z] at ht5;subst ht5;simp only[aj_,aek,Δ];have e:vS S Mi Mo b=(0,7):=by unfold vS;rw[<- ht2,<- ht4,Z];rfl
  rw[e];exact⟨rfl,x4 _,A,S,Mi,Mo,h4,rfl,λx hx=> .inl hx,λx hx=>by have:=u x hx;have:=x4.size;omega,by rw[Ε (by simp)]⟩
 |some i=>
  rw[Z] at ht5 hn5;subst ht5;have hn5:n5=(i:Int):=hn5;subst hn5;have e:vS S Mi Mo b=((i:Int),0):=by unfold vS;rw[<- ht2,<- ht4,Z];rfl
  rw[e];obtain⟨g1,g2,g3,g4,g5,g6,g7⟩:=Bind.jm 0 Z;have hm:=h.mx;have hl:=h.len;have h5:=h4.ext (Ext.drew _);have r5:=(r1.ext y4).drew;simp only[sx,ajv,ab6,h5.hd.cell,r5.cell,Η];refine⟨by omega,by omega,?_⟩;refine MG h5.row g1 (some b) λw6 row6 f6 z6=> ?_;obtain⟨n1,n2,n3,n4,n5,n6,n7,n8,n9,n10,n11,n12,n13⟩:=h.ne;have hp:∀x,fp A x->x≠p:=λx hx=>by have:=u x hx;omega
  have hpd:=hp _ (.inl rfl);have af:=hp _ (.inr (.inl rfl));have hd6:=(h5.hd.fr f6 n1).drew;have r6:=(r5.fr f6 (afx af)).drew;simp only[d_,fZ,gq,oM,hd6.cell,r6.cell];refine cmS9 (XK _ _ _ _ hb.1 _) ?_;rintro _ w7 ⟨rfl,f7⟩;have hd7:=hd6.ext f7;have r7:=r6.ext f7;simp only[aeA,d_,hd7.cell];obtain⟨LI,tI,cI⟩:=h5.tI;obtain⟨LO,tO,cO⟩:=h5.tO;have f67:gU w5.drew w7 (·=A.sl):=(f6.ext (Ext.drew _)).ext f7;have tI7:=tI.fr f67 (afx n6) (afx n7);have tO7:=tO.fr f67 (afx n8) (afx n9);have ab:Mi (Bind.keyS b.i)=none:=by cases hx:Mi (Bind.keyS b.i) with
   |none=>rfl
   |some v=>rw[hx] at ht2;cases ht2
  have ac:Mo (Bind.keyS b.o)=none:=by cases hx:Mo (Bind.keyS b.o) with
   |none=>rfl
   |some v=>rw[hx] at ht4;cases ht4
  have z7:=f67.size;have hdrz:w5.drew.heap.size=w5.heap.size:=rfl;have x4z:=x4.size;refine cmS1 (XJ tI7 (Bind.keyS b.i) (i:Int) (qO _ (by simp[Bnd.i]))) ?_;rintro e8 w8 (⟨rfl,hlt8,s8,L8,t8,c8,f8,hs8⟩|⟨_,_,R,_⟩);rotate_left
  ·exfalso;rw[cI] at R;omega
  have hd8:=(hd7.fr f8 (by rintro(h|h);exact n2 h;exact n3 h)).drew;have r8:Row w8.drew p _:=(r7.fr f8 (by rintro(h|h);exact hp _ (.inr (.inr (.inl rfl))) h.symm;exact hp _ (.inr (.inr (.inr (.inl rfl)))) h.symm)).drew;simp only[d_,fZ,gq,oM,hd8.cell,r8.cell];refine cmS9 (Yz _ _ _ hb.2 _) ?_;rintro _ w9 ⟨rfl,f9⟩;have hd9:=hd8.ext f9;simp only[aeA,d_,hd9.cell];have hs8':s8≠A.tu/\s8≠A.su/\s8≠A.d/\s8≠A.sl:=by
   have q1:=u A.tu (.inr (.inr (.inr (.inr (.inl rfl)))));have q2:=u A.su (.inr (.inr (.inr (.inr (.inr rfl)))));have q3:=u A.d (.inl rfl);have q4:=u A.sl (.inr (.inl rfl));rcases hs8 with h8|h8
   ·rw[h8];exact⟨n12,n13,afx n3,afx n7⟩
   ·have O:w.heap.size<=s8:=ahO x4z (ahO z7 h8);exact⟨λh=>by rw[h] at O;exact akg _ (ajn q1 O),λh=>by rw[h] at O;exact akg _ (ajn q2 O),λh=>by rw[h] at O;exact akg _ (ajn q3 O),λh=>by rw[h] at O;exact akg _ (ajn q4 O)⟩
  have f89:gU w7 w9 (λx=>x=A.ti\/x=A.si):=(f8.ext (Ext.drew _)).ext f9;have tO9:=tO7.fr f89 (by rintro(h|h);exact n10 h.symm;exact n12 h.symm) (by rintro(h|h);exact n11 h.symm;exact n13 h.symm);have tI9:=(t8.KE (Ext.drew w8)).KE f9;have z8:=f8.size;have z9:=f9.size;have hdrz8:w8.drew.heap.size=w8.heap.size:=rfl;refine cmS1 (XJ tO9 (Bind.keyS b.o) (i:Int) (qO _ (by simp[Bnd.o]))) ?_;rintro e10 ag (⟨rfl,hlt10,J,ae,t10,ah,f10,hs10⟩|⟨_,_,R,_⟩);rotate_left
  ·exfalso;rw[cO] at R;omega
  have hs10':J≠A.ti/\J≠s8/\J≠A.d/\J≠A.sl:=by
   have q1:=u A.ti (.inr (.inr (.inl rfl)));have q2:=u A.su (.inr (.inr (.inr (.inr (.inr rfl)))));have q3:=u A.d (.inl rfl);have q4:=u A.sl (.inr (.inl rfl));have q5:s8<w9.heap.size:=by
    have:s8<w8.heap.size:=by
     by_cases hL:L8=[]
     ·rw[t8.nils hL];exact t8.ht.hd.lt
     ·exact(t8.ht.row hL).lt
    exact ajn this z9
   rcases hs10 with N|N
   ·rw[N];exact⟨afx n11,afx hs8'.2.1,afx n5,afx n9⟩
   ·have z49:w.heap.size<=J:=ahO x4z (ahO z7 (ahO z8 (ahO z9 N)));exact⟨λh=>by rw[h] at z49;exact akg _ (ajn q1 z49),λh=>by rw[h] at N;exact akg _ (ajn q5 N),λh=>by rw[h] at z49;exact akg _ (ajn q3 z49),λh=>by rw[h] at z49;exact akg _ (ajn q4 z49)⟩
  have hd10:=hd9.fr f10 (by rintro(h|h);exact n4 h;exact n5 h);simp only[d_,fZ,gq,hd10.cell];have hll:=Bind.jV S 0;rw[Α];refine gX hd10 rfl (by simp) λU hd11 f11 z11=> ?_;simp only[agE,aho] at hd11;have f11d:=f11 (·=A.d) rfl;have I:(live 0 (S.set i (some b))).length=(live 0 S).length+1:=by
   rw[g7 b];simp only[adH,aeW,ahP,aj0];omega
  have tI11:TB U A.ti s8 L8 most (Go.Proofs.upd Mi (Bind.keyS b.i) (some (i:Int))):=(tI9.fr f10 (by rintro(h|h);exact n10 h;exact n11 h) (by rintro(h|h);exact hs8'.1 h;exact hs8'.2.1 h)).fr f11d (afx n2) hs8'.2.2.1;have tO11:TB U A.tu J ae most (Go.Proofs.upd Mo (Bind.keyS b.o) (some (i:Int))):=t10.fr f11d (afx n4) hs10'.2.2.1;have row11:Row U A.sl ((S.set i (some b)).flatMap iO):=((((row6.ext (Ext.drew _)).ext f7).fr f89 (by rintro(h|h);exact n6 h;exact n7 h)).fr f10 (by rintro(h|h);exact n8 h;exact n9 h)).fr f11d (afx n1);have zb:w5.drew.heap.size<=w7.heap.size:=f67.size;have ftot:gU w U (fp A):=by
   have q1:gU w w7 (fp A):=((x4.trans (Ext.drew w5)) _).trans f67 λx _ hx=> .inr (.inl hx);have q2:gU w w9 (fp A):=q1.trans f89 λx _ hx=>by
    rcases hx with hx|hx
    ·exact .inr (.inr (.inl hx))
    ·exact .inr (.inr (.inr (.inl hx)))
   have q3:gU w ag (fp A):=q2.trans f10 λx _ hx=>by
    rcases hx with hx|hx
    ·exact .inr (.inr (.inr (.inr (.inl hx))))
    ·exact .inr (.inr (.inr (.inr (.inr hx))))
   exact q3.trans f11d λx _ hx=> .inl hx
  have zt:=ftot.size;have eu:∀M k v,Go.Proofs.upd M k v=Gp.Bind.upd M k v:=λ_ _ _=>rfl;rw[eu] at tI11 tO11;have db:DB U ⟨A.d,A.sl,A.ti,s8,A.tu,J⟩ most (S.set i (some b)) (Gp.Bind.upd Mi (Bind.keyS b.i) (some (i:Int))) (Gp.Bind.upd Mo (Bind.keyS b.o) (some (i:Int))):=by
   refine⟨?_,row11,by rw[ajl];exact hl,hm,⟨L8,tI11,?_⟩,⟨ae,tO11,?_⟩,h.good.add g2 hb ab ac,?_⟩
   ·rw[I];simpa using hd11
   ·rw[c8,I,ab,cI];rfl
   ·rw[ah,I,ac,cO];rfl
   ·exact⟨n1,n2,afx hs8'.2.2.1,n4,afx hs10'.2.2.1,n6,afx hs8'.2.2.2,n8,afx hs10'.2.2.2,n10,afx hs10'.1,hs8'.1,afx hs10'.2.1⟩
  refine⟨ftot,_,_,_,_,db,rfl,?_,?_,by simp⟩
  ·intro x hx;rcases hx with hx|hx|hx|hx|hx|hx
   ·exact .inl (.inl hx)
   ·exact .inl (.inr (.inl hx))
   ·exact .inl (.inr (.inr (.inl hx)))
   ·have hx:x=s8:=hx;rcases hs8 with h8|h8
    ·exact .inl (.inr (.inr (.inr (.inl (hx.trans h8)))))
    ·right;rw[hx];exact ahO x4z (ahO z7 h8)
   ·exact .inl (.inr (.inr (.inr (.inr (.inl hx)))))
   ·have hx:x=J:=hx;rcases hs10 with N|N
    ·exact .inl (.inr (.inr (.inr (.inr (.inr (hx.trans N))))))
    ·right;rw[hx];exact ahO x4z (ahO z7 (ahO z8 (ahO z9 N)))
  ·intro x hx;have tlt:∀{w0:θ} {b s:Nat} {L:List vF} {m:Int} {M:ByteArray->Option Int},TB w0 b s L m M->s<w0.heap.size:=by
    intro w0 b s L m M t;by_cases hL:L=[]
    ·rw[t.nils hL];exact t.ht.hd.lt
    ·exact(t.ht.row hL).lt
   have lt:∀y,fp A y->y<U.heap.size:=λy hy=>ajn (u y hy) zt;rcases hx with hx|hx|hx|hx|hx|hx
   ·exact lt x (.inl hx)
   ·exact lt x (.inr (.inl hx))
   ·exact lt x (.inr (.inr (.inl hx)))
   ·have hx:x=s8:=hx;rw[hx];exact tlt tI11
   ·exact lt x (.inr (.inr (.inr (.inr (.inl hx)))))
   ·have hx:x=J:=hx;rw[hx];exact tlt tO11
end
end Go.Proofs
end
