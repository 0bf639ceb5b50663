import Derived.Shelf.SlSortCmp.WholeK
import Derived.Test.YtnemccmcpllhcaaGreatDoorW8
import Derived.Test.YtnemccmcpllhcaaGreatDoorW3
import Derived.Test.YtnemccmcpllhcaaGreatDoorW2
set_option maxRecDepth 100000
section
namespace Go.Proofs.WN
open Gp Gp.Wh
def aeP:Go.Shelf.Ren:=⟨fun|6=>208|15=>261|14=>260|28=>290|29=>291|20=>282|21=>283|22=>284|23=>285|24=>286|25=>287|26=>288|27=>289|46=>303|47=>304|48=>305|49=>306|50=>307|57=>310|n=>n,fun|22=>160|24=>317|25=>328|3=>3|39=>338|0=>0|53=>396|55=>398|4=>4|46=>390|45=>389|50=>126|5=>5|9=>9|66=>409|70=>413|76=>418|77=>419|n=>n,fun|n=>n⟩
theorem ajJ:SlLaysF0.n6 υ aeP:={
 mixed:=by kernel_rfl,
 f6:=⟨Tryz.f208.name,by decide,Tryz.func208.trans (congrArg some (by kernel_rfl))⟩,
 f14:=⟨Tryz.f260.name,by decide,Tryz.func260.trans (congrArg some (by kernel_rfl))⟩,
 f15:=Tryz.func261.trans (congrArg some (by kernel_rfl)),
 f20:=⟨Tryz.f282.name,by decide,Tryz.func282.trans (congrArg some (by kernel_rfl))⟩,
 f21:=⟨Tryz.f283.name,by decide,Tryz.func283.trans (congrArg some (by kernel_rfl))⟩,
 f22:=⟨Tryz.f284.name,by decide,Tryz.func284.trans (congrArg some (by kernel_rfl))⟩,
 f23:=⟨Tryz.f285.name,by decide,Tryz.func285.trans (congrArg some (by kernel_rfl))⟩,
 f24:=⟨Tryz.f286.name,by decide,Tryz.func286.trans (congrArg some (by kernel_rfl))⟩,
 f25:=⟨Tryz.f287.name,by decide,Tryz.func287.trans (congrArg some (by kernel_rfl))⟩,
 f26:=⟨Tryz.f288.name,by decide,Tryz.func288.trans (congrArg some (by kernel_rfl))⟩,
 f27:=⟨Tryz.f289.name,by decide,Tryz.func289.trans (congrArg some (by kernel_rfl))⟩,
 f28:=Tryz.func290.trans (congrArg some (by kernel_rfl)),
 f29:=Tryz.func291.trans (congrArg some (by kernel_rfl)),
 f46:=⟨Tryz.f303.name,by decide,Tryz.func303.trans (congrArg some (by kernel_rfl))⟩,
 f47:=Tryz.func304.trans (congrArg some (by kernel_rfl)),
 f48:=Tryz.func305.trans (congrArg some (by kernel_rfl)),
 f49:=⟨Tryz.f306.name,by decide,Tryz.func306.trans (congrArg some (by kernel_rfl))⟩,
 f50:=⟨Tryz.f307.name,by decide,Tryz.func307.trans (congrArg some (by kernel_rfl))⟩,
 f57:=⟨Tryz.f310.name,by decide,Tryz.func310.trans (congrArg some (by kernel_rfl))⟩,
 t0:=Tryz.underlying0,
 a0:=Tryz.isAgg0,
 z0:=Tryz.sizeOf0,
 v0:=Tryz.zeroValue0,
 t3:=Tryz.underlying3,
 a3:=Tryz.isAgg3,
 z3:=Tryz.sizeOf3,
 v3:=Tryz.zeroValue3,
 t4:=Tryz.underlying4,
 a4:=Tryz.isAgg4,
 z4:=Tryz.sizeOf4,
 v4:=Tryz.zeroValue4,
 t5:=Tryz.underlying5,
 a5:=Tryz.isAgg5,
 z5:=Tryz.sizeOf5,
 v5:=Tryz.zeroValue5,
 t9:=Tryz.underlying9,
 a9:=Tryz.isAgg9,
 z9:=Tryz.sizeOf9,
 v9:=Tryz.zeroValue9,
 t22:=Tryz.underlying160,
 a22:=Tryz.isAgg160,
 z22:=Tryz.sizeOf160,
 v22:=Tryz.zeroValue160,
 t25:=Tryz.underlying328,
 a25:=Tryz.isAgg328,
 z25:=Tryz.sizeOf328,
 v25:=Tryz.zeroValue328,
 t39:=Tryz.underlying338,
 a39:=Tryz.isAgg338,
 z39:=Tryz.sizeOf338,
 v39:=Tryz.zeroValue338,
 t45:=Tryz.underlying389,
 a45:=Tryz.isAgg389,
 z45:=Tryz.sizeOf389,
 v45:=Tryz.zeroValue389,
 t46:=Tryz.underlying390,
 a46:=Tryz.isAgg390,
 z46:=Tryz.sizeOf390,
 v46:=Tryz.zeroValue390,
 t50:=Tryz.underlying126,
 a50:=Tryz.isAgg126,
 z50:=Tryz.sizeOf126,
 v50:=Tryz.zeroValue126,
 t53:=Tryz.underlying396,
 a53:=Tryz.isAgg396,
 z53:=Tryz.sizeOf396,
 v53:=Tryz.zeroValue396,
 t55:=Tryz.underlying398,
 a55:=Tryz.isAgg398,
 z55:=Tryz.sizeOf398,
 v55:=Tryz.zeroValue398,
 t66:=Tryz.underlying409,
 a66:=Tryz.isAgg409,
 z66:=Tryz.sizeOf409,
 v66:=Tryz.zeroValue409,
 t70:=Tryz.underlying413,
 a70:=Tryz.isAgg413,
 z70:=Tryz.sizeOf413,
 v70:=Tryz.zeroValue413,
 t76:=Tryz.underlying418,
 a76:=Tryz.isAgg418,
 z76:=Tryz.sizeOf418,
 v76:=Tryz.zeroValue418,
 t77:=Tryz.underlying419,
 a77:=Tryz.isAgg419,
 z77:=Tryz.sizeOf419,
 v77:=Tryz.zeroValue419}
namespace Srt
open Go.Shelf Go.RowKit Go.Lib Go.Sort
instance :Inhabited Tm:=⟨⟨0,0,0⟩⟩
theorem afU (t:Tm):∀v∈eT t,v.oneCell'=true:=by
 intro v hv;simp only[eT,afm,ajp,ajV] at hv;rcases hv with rfl|rfl|rfl<;>rfl
def cfT (x y:Tm):Int:=Xp x.tn y.tn
theorem agp (x y:Tm):ltOf cfT x y=decide (x.tn<y.tn):=by
 unfold ltOf cfT Xp;by_cases h1:x.tn<y.tn
 ·simp[h1]
 ·by_cases h2:x.tn>y.tn<;>simp[h1,h2]
theorem swo:SWO (ltOf cfT) where
 irrefl x:=by rw[agp];simp
 trans x y z h1 h2:=by rw[agp] at *;simp at *;omega
 ntrans x y z h1 h2:=by rw[agp] at *;simp at *;omega
theorem closure (x y:Tm) (W:θ):uy x.id x.a x.tn y.id y.a y.tn W λr W'=>r=cfT x y/\∃q os',W'=grow (W.drewN q) os':=by
 apply IK;unfold Al;have r1:Row (W.alloc (.cells ⟨eT x⟩ 317)) W.heap.size (eT x):=Row.new W (eT x) 317;have x2:Ext (W.alloc (.cells ⟨eT x⟩ 317)) ((W.alloc (.cells ⟨eT x⟩ 317)).alloc (.cells ⟨eT y⟩ 317)):=λS=>gU.alloc _ _ S;have r2:=r1.ext x2;have r3:Row ((W.alloc (.cells ⟨eT x⟩ 317)).alloc (.cells ⟨eT y⟩ 317)) (W.alloc (.cells ⟨eT x⟩ 317)).heap.size (eT y):=Row.new _ (eT y) 317;have c1:((W.alloc (.cells ⟨[.int .i64 x.id,.int .i64 (x.a:Int),.int .i64 x.tn]⟩ 317)).alloc (.cells ⟨[.int .i64 y.id,.int .i64 (y.a:Int),.int .i64 y.tn]⟩ 317)).cell? ⟨W.heap.size,2,none⟩=some (.int .i64 x.tn):=by
  have:=r2.cell 2;exact this
 have c2:((W.alloc (.cells ⟨[.int .i64 x.id,.int .i64 (x.a:Int),.int .i64 x.tn]⟩ 317)).alloc (.cells ⟨[.int .i64 y.id,.int .i64 (y.a:Int),.int .i64 y.tn]⟩ 317)).cell? ⟨(W.alloc (.cells ⟨[.int .i64 x.id,.int .i64 (x.a:Int),.int .i64 x.tn]⟩ 317)).heap.size,2,none⟩=some (.int .i64 y.tn):=by
  have:=r3.cell 2;exact this
 simp only[sx,c1,c2];refine cmS1 (RG _ _ _) ?_;rintro r W3 ⟨rfl,hw⟩;subst hw;exact⟨rfl,0,_,by rw[alloc_eq_grow,alloc_eq_grow,grow_grow];rfl⟩
theorem lays (blk off size:Nat) (w:θ):CmpLays υ oN #[] eT 3 cfT blk off size w:=by
 intro m os dk _ x y;have h:=closure x y (sortWorldK eT 3 w blk off m dk os);unfold uy at h;have e:(#[.agg (eT x).toArray,.agg (eT y).toArray]++ #[]:Array Value)=⟨[.agg ⟨eT x⟩,.agg ⟨eT y⟩]⟩:=by simp
 rw[e];refine Calls.mono h ?_;rintro e W' ⟨r,he,rfl,hq⟩;exact⟨he,hq⟩
theorem V8 (d:Array Tm) {j:Nat} (hj:j<d.size * 3):(flatK eT 3 d)[j]! =(d.toList.flatMap eT)[j]?.getD default:=by
 rw[get_flatK eT 3 d j hj];have h:j / 3<d.size:=by omega
 have e:=flat_get eT 3 lS d.toList (j / 3) (j % 3) (akf _ (by omega));rw[show j / 3 * 3+j % 3=j by omega] at e;rw[e,Array.getElem?_toList,akL h,getElem!_pos d _ h,Option.bind_some];rw[List.getElem!_eq_getElem?_getD]
theorem OA {l:List Tm} {j:Nat} (hj:j<l.length * 3):(l.flatMap eT)[j]? =some ((l.flatMap eT)[j]?.getD default):=by
 have hl:=iT eT 3 lS l;rw[abe (by omega)];rfl
theorem holds {w:θ} {b:Nat} {xs:List Tm} {pad:List Value} (hr:Row w b (xs.flatMap eT++pad)):HoldsK eT 3 w b 0 xs.toArray:=by
 intro j hj;rw[size_flatK] at hj;have hl:=iT eT 3 lS xs;simp only[ald] at hj;refine⟨?_,hr.frozen _⟩;rw[ahA,hr.cell,aj8 (by omega),V8 _ (by simpa using hj),List.toList_toArray];exact OA hj
theorem row_of {w:θ} {b n:Nat} {xs:List Tm} {pad:List Value} {d':Array Tm} {os:Array Obj} (hr:Row w b (xs.flatMap eT++pad)) (hd:d'.size=xs.length):
  Row (sortWorldK eT 3 w b 0 n d' os) b (d'.toList.flatMap eT++pad)/\gU w (sortWorldK eT 3 w b 0 n d' os) (·=b):=by
 obtain⟨T,ht⟩:=hr;have hb:b<w.heap.size:=(aiQ.1 ht).1;have hl:=iT eT 3 lS xs;have hl':(d'.toList.flatMap eT).length=d'.size * 3:=by rw[iT eT 3 lS,ak_]
 have hh:(sortWorldK eT 3 w b 0 n d' os).heap=w.heap.modify b (onCells (putCells id 0 (flatK eT 3 d')))++os:=rfl;constructor
 ·refine⟨T,?_⟩;rw[hh,alJ (by simpa using hb),ajZ,Ζ rfl,ht];have:putCells id 0 (flatK eT 3 d') ⟨xs.flatMap eT++pad⟩=⟨d'.toList.flatMap eT++pad⟩:=by
   apply Array.ext_getElem?;intro k;unfold putCells;rw[Array.getElem?_mapIdx];simp only[size_flatK,Nat.zero_le,aeA,ahA,aky,id_eq,List.getElem?_toArray];by_cases hk:k<d'.size * 3
   ·rw[aj8 (by omega),aj8 (by omega),OA (l:=xs) (by omega),aik,Ζ hk,V8 _ hk];exact(OA (by rw[ak_];exact hk)).symm
   ·rw[ajy (by omega),ajy (by omega),hl,hl',hd]
    cases pad[k - xs.length * 3]? with
    |none=>rfl
    |some v=>rw[aik,Ε (by rw[<- hd];exact hk)]
  simp only[aik,onCells,this]
 ·refine⟨?_,λc hc h=> ?_,⟨rfl,rfl,rfl⟩⟩
  ·rw[hh];simp
  ·rw[hh,alJ (by simpa using hc),ajZ,Ε (λe=>h e.symm)]
end Srt
theorem ajK (w:θ):yL (IntKind.u64.wrap ((0:Nat):Int)) w λr w'=>r=0/\w'=w:=by
 apply OY;have h:vV (IntKind.u64.wrap ((0:Nat):Int)) w λr w'=>r=0/\w'=w:=by
  apply LK;rw[show IntKind.u64.wrap ((0:Nat):Int)=0 from rfl];simp only[show decide ((0:Int)>=4294967296)=false from rfl,show decide ((0:Int)>=65536)=false from rfl,show decide ((0:Int)>=256)=false from rfl,Β,show IntKind.u8.wrap 0=0 from rfl];exact⟨0,by decide,rfl,rfl,by trivial⟩
 refine cmS1 h ?_;rintro r w' ⟨rfl,hw⟩;exact⟨rfl,hw⟩
theorem ajL (s:fU) (lim:Int) (v:Value) (w:θ):iV s 0 ((0:Nat):Int) lim v w λw'=>w'=w:=by
 apply uG;refine gK (λst W=>W=w/\st.1=0/\st.2.1=0) (λ_ _=>0) ⟨rfl,rfl,rfl⟩ ?_;rintro⟨a,b,c,d,e,⟨⟩⟩ W ⟨rfl,ha,hb⟩ next hnext
 simp only at ha hb;subst ha hb;have:decide ((ο.wrap ((0:Int) - 0))<=12)=true:=rfl;rw[this,Δ];have h:jv s 0 0 v W λw'=>w'=W:=by
  apply qC;refine gK (λst W'=>W'=W/\st.1=1) (λ_ _=>0) ⟨rfl,rfl⟩ ?_;rintro⟨a,⟨⟩⟩ W' ⟨rfl,ha⟩ next' hnext'
  simp only at ha;subst ha;have:decide ((1:Int)<0)=false:=rfl;rw[this,Β]
 refine cmS4 h ?_;rintro w' hw;exact hw
open Srt in
theorem afp {w:θ} {s:fU} {xs:List Tm} (hs:iY 3 eT w s xs) (hl:xs.length<=2^30):
  iW s (Value.func (.func oN) #[] #[]) w λw'=>gU w w' (fU.at s)/\∃ys:List Tm,ys.Perm xs/\ys.Pairwise (λx y=>¬y.tn<x.tn)/\iY 3 eT w' s ys:=by
 by_cases I:s.a=none
 ·have hx:xs=[]:=by
   rcases hs.mem with ⟨_,h,_⟩|⟨b,pad,h,_⟩
   ·exact h
   ·rw[I] at h;cases h
  subst hx;have hlen:s.len=0:=hs.len;apply qB;rw[hlen];refine cmS1 (ajK w) ?_;rintro r w' ⟨rfl,hw⟩;subst hw;refine cmS4 (ajL s _ _ _) ?_;rintro w' hw;subst hw;exact⟨gU.refl _ _,[],List.Perm.refl _,List.Pairwise.nil,hs⟩
 obtain⟨b,pad,ha,hc,hr⟩:∃b pad,s.a=some ⟨b,0,none⟩/\s.cap * 3=xs.length * 3+pad.length/\Row w b (xs.flatMap eT++pad):=by
  rcases hs.mem with ⟨h,_,_⟩|h
  ·exact absurd h I
  ·exact h
 have hlen:=hs.len;have eg:∀args w,(callFunc 209 args).run υ w= .ok (.enter 209 args) w:=enters_of Tryz.func209 (by kernel_rfl) rfl;have u:=AnyQ.slices_SortFunc ajJ 3 Tryz.isAgg317 Tryz.sizeOf317 eT lS afU cfT swo 209 #[] b 0 s.cap xs.toArray w eg (lays b 0 xs.toArray.size w) (holds hr) hr.lt (by rw[ald];omega);unfold iW;rw[ha,hlen];change Calls υ 208 #[.slice (some ⟨b,0,none⟩) xs.length s.cap,.func (.func oN) #[] #[]] w _;refine Calls.mono (show Calls υ 208 #[.slice (some ⟨b,0,none⟩) xs.toArray.size s.cap,.func (.func oN) #[] #[]] w _ from u) ?_;rintro e w' ⟨rfl,d',n,os,⟨hp1,_,hp3⟩,O,rfl⟩;have J:xs.toArray.size=xs.length:=by simp
 have hp1:d'.size=xs.length:=hp1.trans J;rw[J] at hp3;have N:d'.toList.length=xs.length:=hp1;obtain⟨g1,g2⟩:=row_of (n:=n) (os:=os) hr hp1;have e1:(d'.extract 0 xs.length).toList=d'.toList:=by rw[<- hp1];simp
 have e2:(xs.toArray.extract 0 xs.length).toList=xs:=by simp
 rw[e1,e2] at hp3;refine⟨rfl,g2.mono λc R=>⟨0,by rw[ha,R]⟩,d'.toList,hp3,?_,⟨?_,.inr ⟨b,pad,ha,?_,g1⟩⟩⟩
 ·rw[alk];intro i j hi hj U;rw[ak_] at hi hj;have:=O i j (Nat.zero_le _) U (by rw[ald];omega);rw[getElem!_pos d' j hj,getElem!_pos d' i hi,agp] at this;simpa using this
 ·rw[hlen];exact N.symm
 ·rw[hc,N]
end Go.Proofs.WN
end
section
namespace Go.Proofs.WN
open Gp Gp.Wh
abbrev eI (x:Int):List Value:=[.int .i64 x]
theorem jc (x:Int):(eI x).length=1:=rfl
theorem Ho (x:Int):∀v∈eI x,iL v=true:=by intro v hv;rw[aiB.1 hv];rfl
theorem afO {l:PL} {id:Int} {t:Tm} (h:lJ l id=some t):(DW l id).length+1=l.length:=by
 induction l with
 |nil=>cases h
 |cons x l ih=>
  unfold DW;unfold lJ at h;by_cases hx:id=x.1
  ·rw[Ζ hx];simp
  ·rw[Ε hx] at h ⊢;simp only[aeW];have:=ih h;omega
section
variable {w w':θ} {d m:Nat} {ss:List fU} {l:PL} {now:Nat} {tn most:Int} {F:Fs}
def Eo (p d now:Nat) (W:θ):Prop:=Row W p [.pointer (some ⟨d,0,none⟩)]/\W.cell? ⟨d,449,none⟩=some (.int .i64 (now:Int))
theorem Eo.ext {p d now:Nat} {W W':θ} (h:Eo p d now W) (hx:Ext W W'):Eo p d now W':=⟨h.1.ext hx,og h.2 hx⟩
theorem aib (p d now:Nat):FnT (Value.func (.func JH) #[] #[.pointer (some ⟨p,0,none⟩)]) (Eo p d now) (λx=>(x.a:Int) !=(now:Int)):=by
 intro x W K hC hK;refine jZ (by kernel_rfl) ?_;have:yX x.id x.a x.tn ⟨p,0,none⟩ W λr W'=>r=((x.a:Int) !=(now:Int))/\Ext W W':=by
  apply II;refine gu λq W1 q1 _ _ g1=> ?_;have y:=g1.trans (Ext.drew W1);have hC':=hC.ext y;simp only[sx,q1.drew.cell,hC'.1.cell,hC'.2];exact⟨by trivial,y⟩
 refine Calls.mono this ?_;rintro e W' ⟨r,he,rfl,hf⟩;exact⟨_,he,hK W' hf⟩
theorem ai0 (p d now:Nat):FnT (Value.func (.func JI) #[] #[.pointer (some ⟨p,0,none⟩)]) (Eo p d now) (λx=>(x.a:Int)==(now:Int)):=by
 intro x W K hC hK;refine jZ (by kernel_rfl) ?_;have:yY x.id x.a x.tn ⟨p,0,none⟩ W λr W'=>r=((x.a:Int)==(now:Int))/\Ext W W':=by
  apply IJ;refine gu λq W1 q1 _ _ g1=> ?_;have y:=g1.trans (Ext.drew W1);have hC':=hC.ext y;simp only[sx,q1.drew.cell,hC'.1.cell,hC'.2];exact⟨by trivial,y⟩
 refine Calls.mono this ?_;rintro e W' ⟨r,he,rfl,hf⟩;exact⟨_,he,hK W' hf⟩
theorem ag9 (h:WS w d m ss l now tn most F):
  wz (some ⟨d,0,none⟩) w λr w'=>gU w w' (pK d m ss)/\∃D:List Tm,D.Pairwise (λx y=>x.tn<y.tn)/\(∀t,t∈D↔lJ l t.id=some t/\t.a=now)/\iY 1 eI w' r (D.map Tm.id)/\(∀b,fU.at r b->w.heap.size<=b)/\
   ∃ss' l' F',WS w' d m ss' l' now tn most F'/\(∀id t,lJ l' id=some t↔lJ l id=some t/\t∉D)/\l'.length+D.length=l.length/\(∀b,pK d m ss' b->pK d m ss b\/w.heap.size<=b)/\(∀b,fU.at r b->¬pK d m ss' b):=by
 apply LW;refine⟨rfl,gu λp w1 r1 e1 z1 f1=> ?_⟩;have x1:=f1.trans (Ext.drew w1);have h1:=h.ext x1;have r1d:=r1.drew;have hp:∀b,pK d m ss b->b≠p:=λb hb=>by have:=h.wm.lt hb;omega
 simp only[sx,r1d.cell,h1.wm.Xm];refine cmS17 (UD h1.wm h.wi.nw h.wi.nw) ?_;rintro _ w2 ⟨⟨n,hn,ay,rfl⟩,f2⟩;have hn0:n=0:=ay.uniq (Lv.self now);subst hn0;rw[akG,ahA];have x2:=x1.trans f2;have h2:=h.ext x2;have r2:=r1d.ext f2;have hk:=AU now 0;obtain⟨s,hs,hb⟩:=h2.wm.buf 0 (dg now 0) (by omega) hk;rw[akG,ahA] at hs;have az:=ahO (WI.short h.wi (λ_ _ e=>e) (show 0<7 by omega) hk) (by have:=h.mo;omega:l.length<=2^20);have ag:∀b,fU.at s b->pK d m ss b:=λb hb=> .inr (.inr ⟨_,s,hs,hb⟩);have all:∀t∈F 0 (dg now 0),t.a=now:=λt ht=>(h.wi.abu.1 ht).2;have s2:Eo p d now w2:=⟨r2,h2.wm.Xm⟩;simp only[wG,fZ,gI,h2.wm.cs hs];refine cmS2 (nD (hb.sl lS (by omega)) (by omega)) ?_;rintro c3 w3 ⟨f3,b3,n3⟩;have h3:=h2.ext f3;have s3:=s2.ext f3;have hz0:=h.wm.lt (.inl rfl:pK d m ss d);have hx2:=x2.size;have hx3:=f3.size;refine cmS2 (Xt b3 (by omega) (aib p d now) λW hf=> ?_) ?_
 ·refine⟨s3.1.fr hf λe=> ?_,E5 s3.2 hf λe=> ?_⟩
  ·have:=n3 p e;have:=r2.lt;omega
  ·have:=n3 d e;omega
 rintro c4 w4 ⟨b4,f4,n4⟩;have e4:(F 0 (dg now 0)).filter (λx=> !((x.a:Int) !=(now:Int)))=F 0 (dg now 0):=ak5.2 λt ht=>by rw[all t ht];simp
 rw[e4] at b4;have old3:∀b,b<w2.heap.size->¬fU.at c3 b:=λb hb e=>by have:=n3 b e;omega
 have h4:=h3.fr f4 λb hb e=>old3 b (h2.wm.lt hb) e;have s4:Eo p d now w4:=⟨s3.1.fr f4 (old3 p r2.lt),h4.wm.Xm⟩;have aA:iY 3 eT w4 s (F 0 (dg now 0)):=(hb.ext f3).fr f4 λb hb' e=>old3 b (hb.lt hb') e;have hs4:=h4.wm.cs hs;simp only[hs4,fZ,gI];refine cmS2 (Xt aA (by omega) (ai0 p d now) λW hf=>⟨s4.1.fr hf λe=>hp p (ag p e) rfl,E5 s4.2 hf λe=>(h.wm.ne d ⟨_,s,hs,e⟩).1 rfl⟩) ?_;rintro c5 w5 ⟨b5,f5,n5⟩;have e5:(F 0 (dg now 0)).filter (λx=> !((x.a:Int)==(now:Int)))=[]:=List.filter_eq_nil_iff.2 λt ht=>by rw[all t ht];simp
 rw[e5] at b5;rw[show (⟨d,dg now 0,none⟩:Addr)=⟨d,0 * 64+dg now 0,none⟩ by rw[akG,ahA]];refine h4.wm.agS (n:=0) (k:=dg now 0) (by omega) hk (by rw[akG,ahA];exact hs) (S:=fU.at s) f5 (λb _ hb=>hb) b5 (λb hb=> .inl (n5 b hb)) (by simp) λw6 h6 f6 z6=> ?_;rw[akG,ahA] at h6;have c4new:∀b,fU.at c4 b->w2.heap.size<=b:=λb hb=>n3 b (n4 b hb);have sold:∀b,fU.at s b->b<w2.heap.size:=λb hb'=>hb.lt hb';have aB:iY 3 eT w6 c4 (F 0 (dg now 0)):=((b4.fr f5 λb hb' e=>by have:=c4new b hb';have:=sold b e;omega)).fr f6 λb hb' e=>by have:=c4new b hb';omega
 have aC:gU w w6 (pK d m ss):=(((((x2.trans f3) (pK d m ss)).trans f4 λb hb1 hb2=>by have:=n3 b hb2;omega).trans f5 λb _ e=>ag b e)).trans f6 λb _ e=> .inl e;have sub6:∀b,pK d m (ss.set (dg now 0) c5) b->pK d m ss b:=λb hb'=>by
  rcases hb' with g|g|⟨j,u,hj,hu⟩
  ·exact .inl g
  ·exact .inr (.inl g)
  ·rw[ajo] at hj;split at hj
   ·split at hj
    ·cases hj;exact ag b (n5 b hu)
    ·cases hj
   ·exact .inr (.inr ⟨j,u,hj,hu⟩)
 have r6:Row w6 p [.pointer (some ⟨d,0,none⟩)]:=(s4.1.fr f5 λe=>hp p (ag p e) rfl).fr f6 λe=>hp d (.inl rfl) e.symm;have hz6:w2.heap.size<=w6.heap.size:=by have:=f4.size;have:=f5.size;have:=f6.size;omega
 refine cmS4 (afp aB (by omega)) ?_;rintro w7 ⟨f7,D,I,N,b7⟩;have lt2:∀b,pK d m (ss.set (dg now 0) c5) b->b<w2.heap.size:=λb hb'=>h2.wm.lt (sub6 b hb');have h7:=h6.fr f7 λb hb' e=>by have:=c4new b e;have:=lt2 b hb';omega
 have r7:=r6.fr f7 λe=>by have:=c4new p e;have:=r2.lt;omega
 have aq:gU w w7 (pK d m ss):=aC.trans f7 λb hb1 e=>by have:=c4new b e;omega
 have ab:∀t,t∈D↔lJ l t.id=some t/\t.a=now:=λt=>by rw[I.mem_iff];exact h.wi.abu
 have aj:=h.wi.nd 0 (dg now 0) (by omega) hk;have ar:(D.map Tm.id).Nodup:=(I.map Tm.id).nodup_iff.2 aj;have hDl:D.length<=2^20:=by rw[I.length_eq];exact az
 have ak:D.Pairwise (λx y=>x.tn<y.tn):=by
  rw[alk] at N ⊢;intro i j hi hj au;have q1:=N i j hi hj au;have m1:=(ab D[i]).1 (ajm hi);have m2:=(ab D[j]).1 (ajm hj);have:D[i].tn≠D[j].tn:=λe=>by
   have Z:=h.ti _ _ _ _ m1.1 m2.1 e;have:=alk.1 ar i j (by simpa using hi) (by simpa using hj) au;simp only[List.getElem_map] at this;exact this Z
  omega
 have clen:=b7.len;have c4lt:∀b,fU.at c4 b->b<w7.heap.size:=λb hb'=>b7.lt hb';refine gK (λst W=>∃(i:Nat) (l1:PL),i<=D.length/\st.2.1=(i:Int)/\iY 1 eI W st.1 ((D.take i).map Tm.id)/\(∀b,fU.at st.1 b->w7.heap.size<=b)/\WM W d m (ss.set (dg now 0) c5) l1 now tn most (vO F 0 (dg now 0) [])/\
   (∀id t,lJ l1 id=some t↔lJ l id=some t/\t∉D.take i)/\l1.length+i=l.length/\gU w7 W (·=m)) (λst _=>D.length - st.2.1.toNat)
  ⟨0,l,by omega,rfl,iY.nil,(λb ⟨o,hb'⟩=>by cases hb'),h7,λid t=>by simp,by omega,gU.refl _ _⟩ ?_
 rintro⟨out,i,⟨⟩⟩ W ⟨i,l1,hiD,av,ah,O,am,J,hlen,aa⟩ next ac
 simp only at av ah O;subst av;have ml7:m<w7.heap.size:=h7.lt (.inr (.inl rfl));by_cases aw:(i:Int)<(c4.len:Int)
 ·rw[ab9 aw,Δ];have U:i<D.length:=by omega
  have hx:=abe U;have ai:D.take (i+1)=D.take i++[D[i]]:=ajM U;have Y:=ajm U;have ae:D[i]∉D.take i:=λaD=>by
   have hn2:=ar;rw[<- ajS (i+1) D,ai,akk,akk,akV,akV] at hn2;exact hn2.1.2.2 _ (ajX.2 ⟨_,aD,rfl⟩) _ (by simp) rfl
  generalize D[i]=t at hx ai Y ae;have aE:iY 3 eT W c4 D:=b7.fr aa λb hb' e=>by have:=c4new b hb';have:=h2.wm.lt (.inr (.inl rfl):pK d m ss m);omega
  refine VP (aE.sl lS (by omega)) hx λa q0 q1 q2=> ?_;simp only[fZ,gq,q0,q1,q2];refine Gu rfl rfl λq w8 r8 e8 z8 f8=> ?_;have rpW:Row W p [.pointer (some ⟨d,0,none⟩)]:=r7.fr aa λe=>hp m (.inr (.inl rfl)) e.symm;have y8:=f8.trans (Ext.drew w8);have h8:=am.ext y8;have r8d:=r8.drew;simp only[sx,(rpW.ext y8).cell,h8.ad2,r8d.cell];refine h8.ajC t.id λw9 h9 f9 z9=> ?_;have aF:m≠q:=by have:=aa.size;omega
  have r9:=r8d.fr f9 λe=>aF e.symm;simp only[abY,fZ,gq,r9.cell];refine gu λq2 aG aH e10 z10 f10=> ?_;have aI:lD 1 eI aG ⟨some ⟨q2,0,none⟩,1,1⟩ [t.id]:=(iY.row (xs:=[t.id]) (f:=eI) (n:=1) (by simpa using aH)).sl jc (by omega);have hbo10:=((ah.ext y8).fr f9 λb hb' e=>by have:=O b hb';omega).ext f10;refine mX jc hbo10 aI rfl (by omega) Ho (by rw[ahv,ahP,ako];omega) (by rw[ahv,ahP,ako];omega) λo11 aJ aK f11 n11=> ?_;have an:lJ l1 t.id=some t:=(J t.id t).2 ⟨((ab t).1 Y).1,ae⟩;have aL:=(h9.ext f10).fr f11 λb hb' e=>by
   have:=O b e;have:=h7.lt hb';omega
  have hwz:w8.drew.heap.size=w8.heap.size:=rfl;have f7z:=aa.size;have f8z:=f8.size;have f9z:=f9.size;have f10z:=f10.size;have f711:gU w7 aJ (·=m):=((((aa.ext y8).trans f9 λ_ _ e=>e).ext f10)).trans f11 λb hb1 e=>by have:=O b e;omega
  rw[Α];refine ac _ _ ⟨i+1,_,by omega,by simp,?_,?_,aL,λid u=> ?_,?_,f711⟩ (by simp only;omega)
  ·simp only;rw[ai,akk];exact aK
  ·simp only;intro b hb';rcases n11 b hb' with g|g
   ·exact O b g
   ·omega
  ·rw[XR am.nd,ai,ajk,aiB];by_cases Z:id=t.id
   ·rw[Ζ Z];constructor
    ·intro hx;cases hx
    ·rintro⟨g1,g2⟩;rw[Z,((ab t).1 Y).1] at g1
     cases g1
     exact absurd (.inr rfl) g2
   ·rw[Ε Z,J];constructor
    ·rintro⟨g1,g2⟩;refine⟨g1,?_⟩;rintro(g|rfl)
     ·exact g2 g
     ·exact Z ((h.wi.pl _ _ g1).1).symm
    ·rintro⟨g1,g2⟩;exact⟨g1,λg=>g2 (.inl g)⟩
  ·have:=afO an;omega
 ·rw[abW aw,Β];have:i=D.length:=by omega
  subst this;rw[ajU] at ah J;have ao:gU w W (pK d m ss):=aq.trans aa λb _ e=> .inr (.inl e);have R:∀u,u∈F 0 (dg now 0)↔u∈D:=λu=>I.mem_iff.symm;have af:rest (lJ l) (F 0 (dg now 0))=lJ l1:=by
   funext id
   cases hq:lJ l1 id with
   |some t=>
    have:=(J id t).1 hq;exact vK.2 ⟨this.1,λe=>this.2 ((R t).1 e)⟩
   |none=>
    cases hr:rest (lJ l) (F 0 (dg now 0)) id with
    |none=>rfl
    |some t=>
     have:=vK.1 hr;have:=(J id t).2 ⟨this.1,λe=>this.2 ((R t).2 e)⟩;rw[hq] at this;cases this
  have ax:=h.wi.due;rw[af] at ax;have hout:∀b,fU.at out b->w7.heap.size<=b:=O;have hz7:w.heap.size<=w7.heap.size:=aq.size;refine⟨ao,D,ak,ab,ah,λb hb'=>by have:=O b hb';omega,_,l1,_,⟨am,ax,⟨h.mo.1,by have:=h.mo.2;omega⟩,λid t ht=>h.tb id t ((J id t).1 ht).1,λi1 i2 t u q1 q2 q3=>h.ti i1 i2 t u ((J i1 t).1 q1).1 ((J i2 u).1 q2).1 q3,h.t0⟩,J,by omega,λb hb'=> .inl (sub6 b hb'),λb hb' e=>by have:=O b hb';have:=lt2 b e;have:=f7.size;omega⟩
def ltT (x y:Tm):Prop:=x.a<y.a\/(x.a=y.a/\x.tn<y.tn)
theorem Ϟ (h:WS w d m ss l now tn most F) (a:Int) {T:Nat} (hT:T=max now (min a 1099511627776).toNat):
  qV (some ⟨d,0,none⟩) a w λr w'=>gU w w' (pK d m ss)/\∃D:List Tm,D.Pairwise ltT/\(∀t,t∈D↔lJ l t.id=some t/\t.a<=T)/\iY 1 eI w' r (D.map Tm.id)/\(∀b,fU.at r b->w.heap.size<=b)/\
   ∃ss' l' F',WS w' d m ss' l' T tn most F'/\(∀id t,lJ l' id=some t↔lJ l id=some t/\T<t.a)/\l'.length+D.length=l.length/\(∀b,pK d m ss' b->pK d m ss b\/w.heap.size<=b)/\(∀b,fU.at r b->¬pK d m ss' b):=by
 apply FK;have hnw:=h.wi.nw;have ak:=h.mo;have hT40:T<=2^40:=by omega
 have aq:now<=T:=by omega
 refine cmS0 (WW h.wm) ?_;rintro _ w2 ⟨rfl,hw⟩;subst hw;simp -zeta only[sx,ab6,h.wm.Xm];have eT':(if (if (1099511627776:Int)<a then 1099511627776 else a)>(now:Int) then (if (1099511627776:Int)<a then 1099511627776 else a) else (now:Int))=(T:Int):=by
  rw[hT];split<;>split<;>omega
 simp -zeta only[eT'];refine gK (λst W=>∃(O:List Tm) (ss1:List fU) (l1:PL) (n1:Nat) (F1:Fs),WS W d m ss1 l1 n1 tn most F1/\n1<=T/\now<=n1/\iY 1 eI W st.1 (O.map Tm.id)/\(∀b,fU.at st.1 b->w2.heap.size<=b/\¬pK d m ss1 b)/\O.Pairwise ltT/\
   (∀id t,lJ l1 id=some t↔lJ l id=some t/\t∉O)/\(∀t∈O,lJ l t.id=some t/\t.a<=T)/\(∀t∈O,∀id u,lJ l1 id=some u->t.a<u.a)/\l1.length+O.length=l.length/\gU w2 W (pK d m ss)/\(∀b,pK d m ss1 b->pK d m ss b\/w2.heap.size<=b))
  (λst W=>st.1.cap * 0+(l.length - st.1.len)) ⟨[],ss,l,now,F,h,aq,aiq _,iY.nil,(λb ⟨o,hb⟩=>by cases hb),List.Pairwise.nil,λid t=>by simp,by simp,by simp,by simp,gU.refl _ _,λb hb=> .inl hb⟩ ?_
 rintro⟨out,⟨⟩⟩ W ⟨O,ss1,l1,n1,F1,hW,hn1,hn0,af,N,am,aa,hO,an,hlen,hf,I⟩ next ab
 simp only at af N;have hl20:l1.length<=2^20:=by omega
 refine cmS3 (afv hW.wm hW.wi) ?_;rintro r t w3 ⟨f3,ag⟩;have h3:=hW.ext f3;have R:=af.ext f3;have hf3:=hf.ext f3;intro J;have fin:(∀id u,lJ l1 id=some u->T<u.a)->J true:=by
  intro U;simp only[J,Δ];refine cmS4 (Ϥ h3.wm h3.wi hn1 hT40 (λid u hu=>Nat.le_of_lt (U id u hu)) hl20) ?_;rintro w4 ⟨f4,ss4,F4,h4,hi4,hs4⟩;have hW3:w2.heap.size<=w3.heap.size:=hf3.size;refine⟨hf3.trans f4 λb hb1 hb2=> ?_,O,am,λu=>⟨λhu=>hO u hu,λ⟨g1,g2⟩=> ?_⟩,R.fr f4 λb hb e=>(N b hb).2 e,λb hb=>(N b hb).1,ss4,l1,F4,⟨h4,hi4,⟨ak.1,by omega⟩,h3.tb,h3.ti,h3.t0⟩,λid u=> ?_,hlen,λb hb=> ?_,λb hb e=> ?_⟩
  ·rcases I b hb2 with g|g
   ·exact g
   ·omega
  ·refine akp λhn=> ?_;have:=U _ u ((aa u.id u).2 ⟨g1,hn⟩);omega
  ·rw[aa];constructor
   ·rintro⟨g1,g2⟩;exact⟨g1,U id u ((aa id u).2 ⟨g1,g2⟩)⟩
   ·rintro⟨g1,g2⟩;exact⟨g1,λe=>by have:=(hO u e).2;omega⟩
  ·rcases hs4 b hb with g|g
   ·exact I b g
   ·exact .inr (by omega)
  ·rcases hs4 b e with g|g
   ·exact(N b hb).2 g
   ·have:=af.lt hb;have:=f3.size;omega
 rcases ag with ⟨rfl,ac⟩|⟨rfl,u,hu,rfl,ar,Y⟩
 ·rw[aek,Δ];exact fin λid v hv=>by rw[ac id] at hv;cases hv
 ·rw[ab6,Β];by_cases ao:(u.a:Int)>(T:Int)
  ·rw[ab9 ao];exact fin λid v hv=>by have:=Y id v hv;omega
  ·rw[abW ao];have au:u.a<=T:=by omega
   simp only[J,Β];refine cmS4 (Ϥ h3.wm h3.wi ar (by omega) Y hl20) ?_;rintro w4 ⟨f4,ss4,F4,h4,hi4,hs4⟩;have ah:WS w4 d m ss4 l1 u.a tn most F4:=⟨h4,hi4,⟨ak.1,by omega⟩,h3.tb,h3.ti,h3.t0⟩;refine cmS2 (ag9 ah) ?_;rintro r5 w5 ⟨f5,D,av,Z,hb5,hn5,ss5,l5,F5,h5,ae,hlen5,hs5,hd5⟩;have ai:=R.fr f4 λb hb e=>(N b hb).2 e;have olt:∀b,fU.at out b->b<w3.heap.size:=λb hb=>R.lt hb;have out4:∀b,fU.at out b->¬pK d m ss4 b:=λb hb e=>by
    rcases hs4 b e with g|g
    ·exact(N b hb).2 g
    ·have:=olt b hb;omega
   have aj:=ai.fr f5 λb hb e=>out4 b hb e;have z3:=hf3.size;have z4:=f4.size;have z5:=f5.size;have hDl:D.length<=2^20:=by omega
   refine mX jc aj (hb5.sl jc (by omega)) rfl (by omega) Ho (by rw[ahv,ahv];omega) (by rw[ahv,ahv];omega) λo6 w6 b6 f6 n6=> ?_;have f24:gU w2 w4 (pK d m ss):=hf3.trans f4 λb hb1 hb2=>by
    rcases I b hb2 with g|g
    ·exact g
    ·omega
   have f25:gU w2 w5 (pK d m ss):=f24.trans f5 λb hb1 hb2=>by
    rcases hs4 b hb2 with g|g
    ·rcases I b g with g|g
     ·exact g
     ·omega
    ·omega
   have f26:gU w2 w6 (pK d m ss):=f25.trans f6 λb hb1 hb2=>by have:=(N b hb2).1;omega
   have out5:∀b,fU.at out b->¬pK d m ss5 b:=λb hb e=>by
    rcases hs5 b e with g|g
    ·exact out4 b hb g
    ·have:=olt b hb;omega
   have h6:=h5.fr f6 λb hb e=>out5 b e hb;rw[<- akk] at b6;have hD0:0<D.length:=List.length_pos_of_mem ((Z u).2 ⟨by
    have:=(h3.wi.pl _ _ hu).1;rw[this];exact hu,rfl⟩)
   have b6l:=b6.len;have bol:=af.len;rw[ahv] at b6l bol;rw[adH] at b6l;refine ab _ _ ⟨O++D,ss5,l5,u.a,F5,h6,au,by omega,b6,λb hb=> ?_,?_,λid v=> ?_,λv hv=> ?_,λv hv id x hx=> ?_,by rw[adH];omega,f26,λb hb=> ?_⟩ (by simp only[Nat.mul_zero,ahA];omega)
   ·rcases n6 b hb with g|g
    ·exact⟨(N b g).1,out5 b g⟩
    ·refine⟨by omega,λe=> ?_⟩;have:=h5.wm.lt e;omega
   ·rw[List.pairwise_append];refine⟨am,av.imp_of_mem λ{x y} hx hy aw=> .inr ⟨?_,aw⟩,λx hx y hy=> .inl ?_⟩
    ·rw[((Z x).1 hx).2,((Z y).1 hy).2]
    ·exact an x hx _ y ((Z y).1 hy).1
   ·rw[ae,aa,ajk,not_or,and_assoc]
   ·rcases ajk.1 hv with g|g
    ·exact hO v g
    ·obtain⟨g1,g2⟩:=(Z v).1 g;exact⟨((aa _ _).1 g1).1,by omega⟩
   ·obtain⟨q1,q2⟩:=(ae id x).1 hx;rcases ajk.1 hv with g|g
    ·exact an v g id x q1
    ·obtain⟨g1,g2⟩:=(Z v).1 g;have:=Y id x q1;have:x.a≠u.a:=λe=>q2 ((Z x).2 ⟨by rw[(h3.wi.pl _ _ q1).1];exact q1,e⟩);omega
   ·rcases hs5 b hb with g|g
    ·rcases hs4 b g with g|g
     ·exact I b g
     ·exact .inr (by omega)
    ·exact .inr (by omega)
end
end Go.Proofs.WN
end
section
namespace Go.Proofs.WN
open Gp Gp.Wh
theorem Me {α β:Type} {enc:α->Value} {ev:β->Value} {w:θ} {K:Addr->b_} (h:∀w1,rG enc ev w1 w.heap.size []->w1.heap.size=w.heap.size+1->Ext w w1->K ⟨w.heap.size,0,none⟩ w1):Al w (.map #[] 0) K:=
 h _ (rG.new w enc ev) (by simp) (λS=>gU.alloc w _ S)
theorem ag_ (n:Int) (hn:0<=n/\n<=1048576) (w:θ):Hl n w λp e w'=>Ext w w'/\e=0/\∃d m ss,p=some ⟨d,0,none⟩/\WS w' d m ss [] 0 0 n (λ_ _=>[])/\∀b,pK d m ss b->w.heap.size<=b:=by
 apply Yy;have c1:¬n<0:=by omega
 have c2:¬n>1048576:=by omega
 simp only[c1,c2,aaV,Β];refine Me (enc:=RY) (ev:=evT) λw4 m4 z4 f4=> ?_;refine gu λd w5 r5 e5 z5 f5=> ?_;have h:∀(i:Nat) (s:fU),(List.replicate 448 (⟨none,0,0⟩:fU))[i]? =some s->s=⟨none,0,0⟩:=λi s hi=>by
  rw[akb] at hi;split at hi
  ·cases hi;rfl
  ·cases hi
 have noat:∀b,¬atS (List.replicate 448 (⟨none,0,0⟩:fU)) b:=λb ⟨i,s,hi,o,hs⟩=>by rw[h i s hi] at hs;cases hs
 refine⟨f4.trans f5,by trivial,d,w.heap.size,List.replicate 448 ⟨none,0,0⟩,rfl,⟨⟨?_,by simp,m4.ext f5,by simp,λn k hn hk=> ?_,λi j s s' b hij hi hj hb=> ?_,λb hb=>absurd hb (noat b),by omega,λ_ _ _ _=>by simp⟩,⟨λid t ht=> ?_,by omega,λn k t hn hk=> ?_,λn k hn hk=>by simp⟩,⟨by omega,by simpa using hn.1⟩,λid t ht=> ?_,λi i' t u ht=> ?_,by omega⟩,λb hb=> ?_⟩
 ·rw[List.map_replicate];exact r5
 ·refine⟨⟨none,0,0⟩,?_,iY.nil⟩;rw[akb,Ζ (by omega)]
 ·rw[h i s hi] at hb;obtain⟨o,ho⟩:=hb;cases ho
 ·cases ht
 ·constructor
  ·intro hx;simp at hx
  ·rintro⟨hx,_⟩;cases hx
 ·cases ht
 ·cases ht
 ·rcases hb with rfl|rfl|hb
  ·omega
  ·omega
  ·exact absurd hb (noat b)
end Go.Proofs.WN
end
section
namespace Gp.Pool
end Gp.Pool
namespace Go.Proofs.CN
end Go.Proofs.CN
namespace Go.Proofs.CN
end Go.Proofs.CN
namespace Go.Proofs.CN
end Go.Proofs.CN
namespace Go.Proofs.CN
open Gp
theorem U1 (a b:Int):(a==b)=decide (a=b):=rfl
theorem eqP (a b:Int):E8 υ 16 3 (.int .i64 a) (.int .i64 b)=some (decide (a=b)):=by
 have h:E8 υ 16 3 (.int .i64 a) (.int .i64 b)=some (a==b):=by kernel_rfl
 rw[h];rfl
theorem agl (a:Int):oz υ 3 (.int .i64 a)=true:=by
 unfold oz;rw[eqP];rfl
theorem yI (k:Int) (w:θ):lu k w λr w'=>r=decide (0<=k/\k<4294967296)/\w'=w:=by
 apply KG;by_cases h:0<=k
 ·simp[h]
 ·simp[h]
end Go.Proofs.CN
namespace Go.Proofs.CN
open Gp
theorem QG {w w':θ} {S:Nat->Prop} (h:gU w w' S) (l:Nat):gU (gG w l) (gG w' l) S:=by
 refine⟨by simpa [gG] using h.size,λb hb hn=> ?_,h.io⟩;have:=h.same b (by simpa [gG] using hb) hn;simp only[gG,ajZ,this]
end Go.Proofs.CN
namespace Go.Proofs.CN
open Gp
theorem Zg {x y a:Int} (hy:0<=y) (hy2:y<=32) (w:θ):wW x y a w λr w'=>r=(decide (0<=a/\a<4294967296) && (jy .i64 a (32 - y)==jy .i64 x (32 - y)))/\Ext w w':=by
 apply NG;refine gu λt w1 r1 e1 z1 f1=> ?_;simp only[sx,r1.cell];refine cmS0 (yI a _) ?_;rintro _ w' ⟨rfl,hw⟩;subst hw;have f2:=f1.trans (Ext.drew w1);by_cases h:0<=a/\a<4294967296
 ·rw[Α];simp only[h,aaA,Δ,Δ,abY,fZ,gq,r1.drew.cell,aj7,alb];exact⟨by omega,by omega,by trivial,f2⟩
 ·simp only[h,aaV,Β,Bool.false_and];exact⟨by trivial,f2⟩
def abA (a:Int):Prop:=0<=a/\a<4294967296/\(jy .i64 a 24==jy .i64 0 24)=false/\(jy .i64 a 24==jy .i64 2130706432 24)=false/\(jy .i64 a 29==jy .i64 3758096384 29)=false
theorem af8 {a:Int} (h:abA a) (w:θ):rU a w λr w'=>r=true/\Ext w w':=by
 obtain⟨h1,h2,h3,h4,h5⟩:=h;apply ND;refine cmS0 (yI a _) ?_;rintro _ w' ⟨rfl,hw⟩;subst hw;have hr:(0<=a/\a<4294967296):=⟨h1,h2⟩;simp only[hr,aj7,aaA,ab6,Β];refine gu λt w1 r1 e1 z1 f1=> ?_;refine cmS0 (K:=λr w2=>r=false/\Ext w1 w2) ?_ ?_
 ·apply P5;refine gK (λst W=>∃j:Nat,j<=3/\st.1=(j:Int)/\Ext w1 W) (λst _=>(3 - st.1).toNat) ⟨0,by omega,rfl,Ext.refl _⟩ ?_;rintro⟨i,⟨⟩⟩ W ⟨j,hj,hi,hx⟩ next u
  simp only at hi;subst hi;have r:=r1.ext hx;by_cases I:j<3
  ·have hl:((j:Int)<((3:Nat):Int)):=by omega
   have J:∃x y:Int,0<=y/\y<=32/\(jy .i64 a (32 - y)==jy .i64 x (32 - y))=false/\W.cell? ⟨t,j * 2,none⟩=some (.int .i64 x)/\W.cell? ⟨t,j * 2+1,none⟩=some (.int .i64 y):=by
    match j,I with
    |0,_=>exact⟨0,8,by omega,by omega,h3,r.cell 0,r.cell 1⟩
    |1,_=>exact⟨2130706432,8,by omega,by omega,h4,r.cell 2,r.cell 3⟩
    |2,_=>exact⟨3758096384,3,by omega,by omega,h5,r.cell 4,r.cell 5⟩
   obtain⟨x,y,hy,hy2,hs,c0,c1⟩:=J;simp only[sx,hl,aaA,Η,c0,c1];refine⟨by first|trivial|omega,by first|trivial|omega,?_⟩
   refine Gu rfl rfl λb w3 r3 e3 z3 x3=> ?_;simp only[sx,r3.cell];refine cmS0 (Zg hy hy2 _) ?_;rintro _ w4 ⟨rfl,x4⟩;simp only[hs,Bool.and_false,Β];rw[Α];exact u _ _ ⟨j+1,by omega,by simp,(hx.trans x3).trans x4⟩ (by simp only;omega)
  ·have hl:¬((j:Int)<((3:Nat):Int)):=by omega
   simp only[hl,aaV,Β];exact⟨by trivial,hx⟩
 ·rintro _ w2 ⟨rfl,f2⟩;exact⟨rfl,f1.trans f2⟩
end Go.Proofs.CN
namespace Go.Proofs.CN
open Gp
theorem ahq {w:θ} {K:Addr->b_} (h:∀w1,(∀(α:Type) (enc:α->Value),zl enc w1 w.heap.size [])->w1.heap.size=w.heap.size+1->Ext w w1->K ⟨w.heap.size,0,none⟩ w1):Al w (.map #[] 0) K:=
 h _ (λ_ enc=>zl.new w enc) (by simp) (λS=>gU.alloc w _ S)
end Go.Proofs.CN
end
