import Derived.Test.YtlpncoeijhpddaaGreatDoorW0
import Derived.Lib.ConvBytes
open Nat (beq_eq)
section
namespace Gp
open Go
section
variable {P:Program}
theorem aej:∀(ks:List Kind) (φ:List Value->Prop),ajI ks φ->∃vs,φ vs:=by
 intro ks
 induction ks with
 |nil=>exact λφ h=>⟨_,h⟩
 |cons k ks ih=>rintro φ ⟨x,h⟩;grind
theorem NU (s:Shape) (φ:Value->Prop) (h:s.ex φ):∃v,φ v:=by
 cases s with
 |one k=>obtain⟨x,h⟩:=h;grind
 |agg ks=>obtain⟨vs,h⟩:=aej ks _ h;grind
theorem Et:∀(sh:List Shape) (φ:List Value->Prop),IY sh φ->∃vs,φ vs:=by
 intro sh
 induction sh with
 |nil=>exact λφ h=>⟨_,h⟩
 |cons s sh ih=>intro φ h;obtain⟨v,h⟩:=NU s _ h;grind
theorem AP (hP:XR P) {f:FuncId} (hb:o9 P f=true) (args:Array Value) (w:θ):(callFunc f args).run P w= .ok (.enter f args) w:=by
 unfold o9 at hb
 cases hf:P.funcs[f]? with
 |none=>simp_all
 |some fn=>
  simp only[hf] at hb;have hn:=hP.enter f fn hf hb;have hn':¬(fn.name="runtime.NumGoroutine"):=by simp_all
  have hb':¬(fn.body=none):=by grind
  simp[callFunc,hf,hn',hb']
theorem J_ {sh:List Shape} {f:FuncId} {args:List Value} {w:θ} {K:Value->b_} (h:Ii P sh f args w K):
  Calls P f ⟨args⟩ w λe w'=>∃v,e= .returned v/\K v w':=by
 refine Calls.mono h λe w' hx=> ?_;obtain⟨vs,he,hk⟩:=Et _ _ hx
 simp_all
theorem ad8 (hP:XR P) {sh:List Shape} {v:Value} {args:List Value} {w:θ} {K:Value->b_} (h:jF P sh v args w K):
  Ran P K ((do let d<- Deferred.ofValue v ⟨args⟩;invoke d.target d.args:Sem Next).run P w):=by
 unfold jF at h;split at h
 ·rename_i f first cap
  cases hb:o9 P f with
  |false=>rw[hb] at h;exact h.elim
  |true=>
   rw[hb] at h;have h:=J_ h;have e:(⟨first.toList++(args++cap.toList)⟩:Array Value)=first++(⟨args⟩:Array Value)++cap:=by simp
   rw[e] at h;simpa [Deferred.ofValue,invoke,AP hP hb,Ran] using h
 ·rename_i l first cap
  obtain⟨fn,tmps,assign,body,hy,hr⟩:=h;have e:(⟨first.toList++args⟩:Array Value)=first++(⟨args⟩:Array Value):=by simp
  rw[e] at hy;have:Ran P K (.ok (.round l fn tmps assign body) w):=RoundIn.mono hr λe w' ⟨b,hb,hk⟩=>⟨_,hb,hk⟩;simpa [Deferred.ofValue,invoke,hy] using this
 ·exact h.elim
theorem acr {t:TypeId} {name:String} {f:FuncId} {d:TypeDesc} {v:Value} {w:θ} (n:Nat) (ht:P.underlying t=some d) (hd:Zg d=false) (h:Zt P t name=some f):
  (Go.method (n+1) t v name).run P w= .ok (f,v) w:=by
 unfold Zt at h;split at h
 ·rename_i i hi;split at h
  ·rename_i m hm;split at h
   ·rename_i f' hp hf;obtain rfl:=akR h;unfold Go.method
    cases d<;>first|(cases hd;done)|simp[run_typeInfo hi,hm,hp,hf,follow,receiverAt,run_underlying ht,Place.get]
   ·cases h
  ·cases h
 ·cases h
theorem ah6 (hP:XR P) {sh:List Shape} {x:Value} {name:String} {args:List Value} {w:θ} {K:Value->b_} (h:ajm P sh x name args w K):
  Ran P K ((do let d<- (pure {target:= .fn (.method name) #[],args:= #[x]++(⟨args⟩:Array Value)}:Sem Deferred);invoke d.target d.args:Sem Next).run P w):=by
 unfold ajm at h;split at h
 ·rename_i t v;split at h
  ·rename_i d f ht hm
   cases hd:Zg d with
   |true=>rw[hd] at h;exact h.elim
   |false=>
    cases hb:o9 P f with
    |false=>rw[hd,hb] at h;exact h.elim
    |true=>
     rw[hd,hb] at h;have h:=J_ h;have e1:((#[Value.iface t v]++(⟨args⟩:Array Value)).extract 1 (#[Value.iface t v]++(⟨args⟩:Array Value)).size)=⟨args⟩:=by simp
     have e2:(⟨v::args⟩:Array Value)= #[v]++⟨args⟩:=by simp
     rw[e2] at h;have hm':∀k,(Go.method (k+Made.depth) t v name).run P w= .ok (f,v) w:=λk=>acr (k+(Made.depth - 1)) ht hd hm;simpa [invoke,callMethod,e1,hm',AP hP hb,Ran] using h
  ·exact h.elim
 ·exact h.elim
theorem ahz {z:Value} {t xt:TypeId} {d:TypeDesc} {x:Value} {ok:Bool} {K:Value->Prop} {w:θ} (hd:∀m,d≠.interface m) (ht:P.underlying t=some d) (hz:EK P t=some z) (h:AsP z t x ok K):
  ∃v,(Instr.typeAssert x xt t ok).run P w= .ok v w/\K v:=by
 have hz':=yQ (w:=w) hz;unfold AsP at h;split at h
 ·rename_i t' v
  cases hb:Nat.beq t' t with
  |true=>
   rw[hb] at h;obtain rfl:=alW hb;refine⟨_,?_,h⟩
   cases d<;>first|exact(hd _ rfl).elim|(cases ok<;>simp[Instr.typeAssert,run_underlying ht])
  |false=>
   rw[hb] at h;have hn:¬t'=t:=λe=>by simp_all
   cases ok with
   |false=>exact h.elim
   |true=>
    refine⟨_,?_,h⟩
    cases d<;>first|exact(hd _ rfl).elim|simp[Instr.typeAssert,run_underlying ht,hn,hz']
 ·cases ok with
  |false=>exact h.elim
  |true=>
   refine⟨_,?_,h⟩
   cases d<;>first|exact(hd _ rfl).elim|simp[Instr.typeAssert,run_underlying ht,hz']
 trivial
theorem QY {mx:Bool} {w:θ}:∀(r:List Value) (x:Int) (k:IntKind) (φ:Value->Prop),Gw mx x r k φ->
  ∃v,(r.foldlM (cond mx Builtin.max2 Builtin.min2) (Value.int k x)).run P w= .ok v w/\φ v:=by
 intro r
 induction r with
 |nil=>exact λx k φ h=>⟨_,by simp,h⟩
 |cons y r ih=>
  intro x k φ h
  cases y with
  |int ky y=>
   simp only[Gw] at h;obtain⟨v,hv,hφ⟩:=ih _ _ _ h;refine⟨v,?_,hφ⟩
   cases mx<;>simp only[abt,aaf] at hv ⊢<;>simp[List.foldlM_cons,Builtin.max2,Builtin.min2,hv]
  |_=>simp[Gw] at h
theorem ace {d:TypeDesc} {t ty:TypeId} {x:Value} {w:θ} {φ:Int->Prop} (ht:P.underlying t=some d) (h:Qd d x w φ):
  ∃n,(Builtin.len_ #[t] ty #[x]).run P w= .ok (.int .i64 n) w/\φ n:=by
 unfold Qd at h;split at h
 ·exact⟨_,by simp[Builtin.len_,run_underlying ht,goInt],h⟩
 ·exact⟨_,by simp[Builtin.len_,run_underlying ht,goInt],h⟩
 ·exact⟨_,by simp[Builtin.len_,run_underlying ht,goInt],h⟩
 ·unfold TJ at h;split at h
  ·exact⟨_,by simp[Builtin.len_,run_underlying ht,goInt],h⟩
  ·obtain⟨es,clock,hb,h⟩:=h;exact⟨_,by simp[Builtin.len_,run_underlying ht,goInt,getObj,Sem.run,hb],h⟩
 trivial
theorem iJ {K:Value->b_} {s:Sem Value} {w w':θ} {v:Value} (hr:s.run P w= .ok v w') (hk:K v w'):
  Ran P K ((do pure (Next.value (<- s)):Sem Next).run P w):=by
 simp only[Sem.run_bind,hr,Result.andThen_ok,Sem.run_pure,Ran];exact hk
theorem JK {K:Value->b_} {s:Sem Unit} {w w':θ} (hr:s.run P w= .ok () w') (hk:K undef w'):
  Ran P K ((do s;pure Next.skip:Sem Next).run P w):=by
 simp only[Sem.run_bind,hr,Result.andThen_ok,Sem.run_pure,Ran];exact hk
theorem ϥ {b:Builtin} {args:List Value} {tl:List TypeId} {ty:TypeId} {consts:Array Bool} {w:θ} {K:Value->b_} (h:qG P b tl args w K):
  Ran P K ((builtin b ⟨tl⟩ ty consts ⟨args⟩).run P w):=by
 unfold qG at h;split at h
 ·split at h
  ·rename_i ht;obtain⟨n,hr,hk⟩:=ace (ty:=ty) ht h;simp[builtin,hr,Ran,hk]
  ·exact h.elim
 ·split at h
  ·rename_i ht;simp[builtin,Builtin.cap_,run_underlying ht,goInt,Ran,h]
  ·exact h.elim
 ·obtain⟨v,hr,hk⟩:=QY (P:=P) (w:=w) _ _ _ _ h;simp only[abt] at hr;simp[builtin,Builtin.max_,hr,Ran,hk]
 ·obtain⟨v,hr,hk⟩:=QY (P:=P) (w:=w) _ _ _ _ h;simp only[aaf] at hr;simp[builtin,Builtin.min_,hr,Ran,hk]
 ·split at h
  ·rename_i e d ht ht';split at h
   ·rename_i _ b n m hs hb hz;obtain⟨i,hi,rfl⟩:=uK hs;obtain⟨i',hi',rfl⟩:=yR hb;obtain⟨i'',z,hi'',hz0,rfl⟩:=oO hz;rw[hi] at hi' hi'';cases hi';cases hi'';obtain⟨vs,u,h⟩:=h;obtain⟨s',w',hr,hk⟩:=XY ht hi hz0 ht' (.inl ⟨_,rfl⟩) (λw=>by rfl) (uD u) (uD (Dw u)) h;show Ran P K ((do pure (Next.value (<- Builtin.append_ #[_,_] ty #[_,_])):Sem Next).run P w)
    exact iJ hr hk
   ·rename_i hs hb hz;obtain⟨i,hi,rfl⟩:=uK hs;obtain⟨i',hi',rfl⟩:=yR hb;obtain⟨i'',z,hi'',hz0,rfl⟩:=oO hz;rw[hi] at hi' hi'';cases hi';cases hi'';have hf:∀(sz:Nat) (s:ByteArray) (w:θ),(Builtin.firstCells sz s.size (.string s)).run P w= .ok ⟨byteCells s⟩ w:=by
     intro sz s w;simp only[Builtin.firstCells,Sem.run_pure,Result.ok.injEq,amf];apply amL.mp;have e:s.extract 0 s.size=s:=ByteArray.extract_zero_size;rw[e,Array.toList_map];rfl
    obtain⟨s',w',hr,hk⟩:=XY ht hi hz0 ht' (.inr rfl) (λw=>by rfl) (hf _ _ _) (hf _ _ _) h;show Ran P K ((do pure (Next.value (<- Builtin.append_ #[_,_] ty #[_,_])):Sem Next).run P w)
    exact iJ hr hk
   ·rename_i hs hb hz;obtain⟨i,hi,rfl⟩:=uK hs;obtain⟨i',hi',rfl⟩:=yR hb;obtain⟨i'',z,hi'',hz0,rfl⟩:=oO hz;rw[hi] at hi' hi'';cases hi';cases hi''
    cases hb:Nat.beq z.cells.toList.length i.size with
    |false=>rw[hb] at h;exact h.elim
    |true=>
     rw[hb] at h;simp only[abt] at h;obtain⟨s',w',hr,hk⟩:=ϝ ht hi hz0 (alW hb) ht' h;show Ran P K ((do pure (Next.value (<- Builtin.append_ #[_,_] ty #[_,_])):Sem Next).run P w)
     exact iJ hr hk
   ·exact h.elim
  ·exact h.elim
 ·split at h
  ·rename_i e ht;split at h
   ·rename_i hs;obtain⟨i,hi,rfl⟩:=uK hs;obtain⟨n,w',hr,hk⟩:=abS ht hi h;show Ran P K ((do pure (Next.value (<- Builtin.copy_ #[_,_] ty #[_,_])):Sem Next).run P w)
    exact iJ hr hk
   ·exact h.elim
  ·exact h.elim
 ·split at h
  ·rename_i e ht;split at h
   ·rename_i hs hz;obtain⟨i,hi,rfl⟩:=uK hs;obtain⟨i'',z,hi'',hz0,rfl⟩:=oO hz;rw[hi] at hi'';cases hi''
    cases hb:Nat.beq z.cells.toList.length i.size with
    |false=>rw[hb] at h;exact h.elim
    |true=>
     rw[hb] at h;simp only[abt] at h;obtain⟨w',hr,hk⟩:=Ϩ ht hi hz0 (alW hb) h;show Ran P K ((do pure (Next.value (<- Builtin.clear_ #[_] ty #[_])):Sem Next).run P w)
     exact iJ hr hk
   ·exact h.elim
  ·exact h.elim
 ·split at h
  ·rename_i kt et ht;obtain⟨w',hr,hk⟩:=abw ht h;show Ran P K ((do pure (Next.value (<- Builtin.delete_ ⟨[_,_]⟩ ty ⟨[_,_]⟩)):Sem Next).run P w)
   exact iJ hr hk
  ·exact h.elim
 ·exact h.elim
theorem KC (ρ:Operand->Value) (ps:Array (Nat×Operand)):(ps.map λ(i,x)=>(i,ρ x)).toList=ps.toList.map λp=>(p.1,ρ p.2):=by
 simp
theorem Y9 (w:θ) (cs:Array Value) (e:TypeId) (n:Nat):(w.alloc (.cells cs e)).freeze ⟨w.heap.size,n,none⟩ 1=w.alloc (.cells cs e (n,n+1)):=by
 unfold World.freeze World.alloc;simp only[Nat.succ_ne_zero,aku];congr 1
 grind
theorem WH (w:θ) (e:TypeId) (s:ByteArray):
  Lib.bytesWorld w e s=w.drew.alloc (.cells ⟨byteCells s++iw [.int .u8 0] (grownCap w s.size 0 e - s.size)⟩ e (grownCap w s.size 0 e,grownCap w s.size 0 e+1)):=by
 have h:∀n,iw [.int .u8 0] n=List.replicate n (.int .u8 0):=by
  intro n
  induction n with
  |zero=>rfl
  |succ n ih=>simp[iw,ih,al6]
 have hc:Lib.bytesCells w e s=⟨byteCells s++iw [.int .u8 0] (grownCap w s.size 0 e - s.size)⟩:=by
  apply amL.mp;simp[Lib.bytesCells,byteCells,h]
 have hn:(Lib.bytesCells w e s).size=grownCap w s.size 0 e:=by
  have:=grownCap_ge w s.size 0 e;have h2:s.data.size=s.size:=rfl;simp[Lib.bytesCells,h2];omega
 unfold Lib.bytesWorld;rw[hn,<- hc];exact Y9 w.drew _ e _
theorem aaM (hP:XR P) {o:Oper} {ρ:Operand->Value} {w:θ} {K:Value->b_} (hρ:∀f,ρ (.func f)= .func (.func f) #[] #[]) (h:zU P o ρ w K):Ran P K ((execOp ρ o).run P w):=by
 obtain⟨dst,op,type,pos,after,guard⟩:=o
 cases op<;>simp only[zU] at h<;>simp only[execOp]
 case move x=>exact h
 case assign x=>exact h
 case pick c a b=>
  split at h
  ·rename_i t hc
   cases t<;>simp only[abt,aaf] at h<;>simp[asBool,hc,Ran,h]
  ·exact h.elim
 case alloc e=>
  split at h
  ·rename_i z hz;obtain⟨v,hr,hv⟩:=xM (w:=w) hz;refine iJ ?_ h;simp[Instr.alloc,hr,newVar,newRow,hv]
  ·exact h.elim
 case box e x=>
  split at h
  ·refine iJ ?_ h.2;simp[Instr.box,newVar,newRow,Q5 h.1]
  ·split at h
   ·rename_i cs hc;refine iJ ?_ h;simp[Instr.box,newVar,newRow,Value.cells,hc]
   ·exact h.elim
  ·exact h.elim
 case build t ps=>
  split at h
  ·rename_i z fs hz ht;obtain⟨v,hr,hv⟩:=xM (w:=w) hz;split at h
   ·rename_i pl aa;split at h
    ·rename_i cs hf;refine iJ ?_ h;have hp:=Z_ (w:=w) _ _ aa;have hm:(fs.mapM λ(f:Field)=>(do pure (f.offset,<- Go.sizeOf f.type):Sem (Nat×Nat))).run P w= .ok ⟨pl⟩ w:=by
      rw[Array.mapM_eq_mapM_toList,Sem.run_map,hp];rfl
     have I:=Na _ (λi=>(⟨pl⟩:Array (Nat×Nat))[i]?) (λi x hx=>by simp_all) _ _ _ hf;simp only[Instr.build,Sem.run_bind,hr,Result.andThen_ok,run_underlying ht,hm,hv,KC]
     simp_all
    ·exact h.elim
   ·exact h.elim
  ·rename_i z n e hz ht;obtain⟨v,hr,hv⟩:=xM (w:=w) hz;split at h
   ·rename_i size hs;split at h
    ·rename_i cs hf;refine iJ ?_ h;have I:=Na _ (λi=>some (i * size,size)) (λi x hx=>hx) _ _ _ hf;simp only[Instr.build,Sem.run_bind,hr,Result.andThen_ok,run_underlying ht,jV hs,hv,KC]
     simp_all
    ·exact h.elim
   ·exact h.elim
  ·exact h.elim
 case buildSlice t n ps=>
  split at h
  ·rename_i e ht;split at h
   ·rename_i size z hs hz;obtain⟨v,hr,hv⟩:=xM (w:=w) hz
    cases hb:(Nat.ble (n * size) 4096 && Nat.beq z.length size) with
    |false=>rw[hb] at h;exact h.elim
    |true=>
     rw[hb] at h;simp only[alg,Nat.ble_eq,beq_eq] at hb;obtain⟨b1,b2⟩:=hb;simp only[abt] at h;obtain⟨cs,hf,h⟩:=akW h
     ·refine iJ ?_ h;have I:=Na _ (λi=>some (i * size,size)) (λi x hx=>hx) _ _ _ hf;have hz2:(Array.range (n * size)).map (λi=>v.cells[i % v.cells.size]!)=⟨iw z n⟩:=by
       have:=o_ v.cells n;rw[hv] at this ⊢;simp only[Builtin.zeroCells,amR,b2] at this ⊢;exact this
      have c1:¬(n * size>2^24):=by omega
      by_cases c2:n * size=0
      ·have R:iw z n=[]:=by
        grind
       rw[R] at I;have N:=I;have c1':¬(0>2^24):=by decide
       simp only[Instr.buildSlice,Sem.run_bind,run_underlying ht,Result.andThen_ok,jV hs,c2,ajn,KC,c1',aku,Sem.run_pure,Array.range_zero',Array.map_empty,N];rfl
      ·simp only[Instr.buildSlice,Sem.run_bind,run_underlying ht,Result.andThen_ok,jV hs,c1,aku,c2,KC,hr,Sem.run_pure];rw[hz2,I];rfl
   ·exact h.elim
  ·exact h.elim
 case load t x=>
  split at h
  ·rename_i a sh n hx hs hn
   cases hb:Nat.beq sh.cells n with
   |false=>rw[hb] at h;exact h.elim
   |true=>
    rw[hb] at h;obtain⟨v,hr,hk⟩:=Ri hs hn (alW hb) h;exact iJ (by simp[Instr.loadAt,Instr.sureAddr,hx,hr]) hk
  ·exact h.elim
 case store t x y=>
  split at h
  ·rename_i a k n hx hs hn
   cases hb:Nat.beq n 1 with
   |false=>rw[hb] at h;exact h.elim
   |true=>
    rw[hb] at h;have hb:=alW hb;subst hb;obtain⟨hr,hk⟩:=abB (P:=P) h;refine JK ?_ hk;have h1:=Q5 h.1;simp[Instr.storeAt,Instr.sureAddr,hx,storeVar,h1,jV hn,storeCells,add_zero',hr]
  ·rename_i a ks n hx hs hn;split at h
   ·rename_i cs hy
    cases hb:Nat.beq cs.toList.length n with
    |false=>rw[hb] at h;exact h.elim
    |true=>
     rw[hb] at h;have hb:=alW hb;obtain⟨w',hr,hk⟩:=ahs (P:=P) _ _ _ h;refine JK ?_ hk;have hl:cs.size=n:=by trivial
     simp[Instr.storeAt,Instr.sureAddr,hx,hy,storeVar,Value.cells,jV hn,hl,hr]
   ·exact h.elim
  ·exact h.elim
 case nilCheck x=>
  split at h
  ·rename_i q hx;obtain⟨a,rfl,hk⟩:=h;simp only[hx];exact hk
  ·exact h.elim
 case binOp op t x y yt=>
  split at h
  ·obtain⟨v,hr,hk⟩:=aeH x h;exact iJ hr hk
  ·obtain⟨v,hr,hk⟩:=YQ x y h;exact iJ hr hk
 case unOp op t x=>
  obtain⟨v,hr,hk⟩:=abg h;exact iJ hr hk
 case convert s d x=>
  split at h
  ·rename_i e a n c hs hd hx;split at h
   ·rename_i he;obtain⟨b,hr,hk⟩:=TU h;refine iJ ?_ hk;rw[hx,run_convert_bytes_string w s d e a n c hs he hd];exact hr
   ·exact h.elim
  ·rename_i e b hs hd hx;split at h
   ·rename_i he;have hr:=Lib.run_convert_string_bytes w s d e b hs hd he;have hc:=h.2 (grownCap w b.size 0 e) (by have:=grownCap_ge w b.size 0 e;omega) (by
     simp only[grownCap,Question.cut];have h1:=h.1;have:=alV (w.tape w.drawn (.appendCap b.size 0 e)) (show 0<2^63 - b.size by omega);omega)
    rw[<- WH] at hc;exact iJ (by rw[hx];exact hr) hc
   ·exact h.elim
  ·rename_i e' e a n c hs hd hx;split at h
   ·rename_i he hb;obtain⟨T,m,U,hk⟩:=h;refine iJ ?_ hk;have ab:=alW hb;subst ab;have ac:e'=e:=by simp_all
    subst ac;rw[hx];simp[convert,run_underlying hd,run_underlying he,markStringish,U]
   ·exact h.elim
  ·rename_i n1 n2 n3;unfold SE at h;split at h
   ·rename_i u k n hs hd hx;refine iJ ?_ h;simp[convert,hx,run_underlying hs,run_underlying hd,Conv.intToInt]
   ·rename_i b hs hd hx;refine iJ ?_ h;simp[convert,hx,run_underlying hs,run_underlying hd]
   ·exact h.elim
 case makeFunc fn first cap=>
  rw[YL,YL];exact h
 case lookup t x i ok=>
  cases ok with
  |true=>
   simp only at h;split at h
   case h_2=>exact h.elim
   rename_i kt et r ht hx;split at h
   case h_2=>exact h.elim
   rename_i sh z hs hz;obtain⟨v,b,hr,hk⟩:=QM ht hz h true;obtain⟨v',rfl,hk⟩:=NU _ _ hk;exact iJ (by simp_all) hk
  |false=>
   simp only at h;split at h
   case h_2=>exact h.elim
   rename_i kt et r ht hx;split at h
   case h_3=>exact h.elim
   case h_1=>
    rename_i k z hs hz;obtain⟨x',hr,hk⟩:=aby ht hz h;exact iJ (by simp_all) hk
   case h_2=>
    rename_i ks z hs hz;obtain⟨v,b,hr,hk⟩:=QM ht hz h false;obtain⟨v',rfl,hk⟩:=NU _ _ hk;exact iJ (by simp_all) hk
 case mapUpdate t x i v=>
  split at h
  case h_2=>exact h.elim
  rename_i kt et r ht hx;obtain⟨w',hr,hk⟩:=TK ht h;exact JK (by simp_all) hk
 case insert t x i v=>
  split at h
  case h_2=>exact h.elim
  rename_i kt et r ht hx;obtain⟨w',hr,hk⟩:=TK ht h;exact JK (by simp_all) hk
 case mapEntry t x i=>
  split at h
  case h_2=>exact h.elim
  rename_i kt et r ht hx;split at h
  ·rename_i z hz;obtain⟨v,n,w',hr,hk⟩:=abx ht hz h;exact iJ (by simp_all) hk
  ·exact h.elim
 case entryStore t x st v=>
  split at h
  ·rename_i r k n hx ae;obtain⟨w',hr,hk⟩:=adV h;exact JK (by rw[hx,ae];exact hr) hk
  ·exact h.elim
 case makeMap t r=>
  cases r with
  |some r=>exact h.elim
  |none=>exact iJ (by rfl) h
 case makeSlice t l c=>
  split at h
  ·rename_i e kl n kc m ht hl hc;split at h
   ·rename_i size bytes z hs hb hz;obtain⟨i,hi,rfl⟩:=uK hs;obtain⟨i',hi',rfl⟩:=yR hb;obtain⟨i'',z,hi'',hz0,rfl⟩:=oO hz;rw[hi] at hi' hi'';cases hi';cases hi''
    cases hb:Nat.beq z.cells.toList.length i.size with
    |false=>rw[hb] at h;exact h.elim
    |true=>
     rw[hb] at h;simp only[abt] at h;obtain⟨s,w',hr,hk⟩:=acn ht hi hz0 (alW hb) h;exact iJ (by simp_all;omega) hk
   ·exact h.elim
  ·exact h.elim
 case slice t x lo hi mx=>
  obtain⟨v,hr,hk⟩:=Ξ h;exact iJ hr hk
 case fieldAddr t x f=>
  split at h
  ·rename_i fs a ht hx;split at h
   ·rename_i off size hf
    cases hb:Nat.beq size 0 with
    |true=>rw[hb] at h;exact h.elim
    |false=>
     rw[hb] at h;obtain⟨fd,h1,h2⟩:=Ur (w:=w) hf hb a;exact iJ (by simp[Instr.fieldAt,run_underlying ht,h1,Instr.sureAddr,hx,h2]) h
   ·exact h.elim
  ·exact h.elim
 case field t x f=>
  split at h
  ·rename_i fs cs ht hx;split at h
   ·rename_i fd hf;split at h
    ·rename_i d size hd hs;obtain⟨v,hr,hk⟩:=VF (w:=w) hd hs h;have hf':fs[f]? =some fd:=by simp_all
     exact iJ (by simp[Instr.field,run_underlying ht,hf',hx,asAgg,hr]) hk
    ·exact h.elim
   ·exact h.elim
  ·exact h.elim
 case indexAddr t x i=>
  split at h
  ·rename_i e a n c k i' ht hx hi;split at h
   ·rename_i size hs;obtain⟨a',h1,h2,h3,hk⟩:=h;simp only at h1 h2 h3 hk;subst h1;refine iJ ?_ hk;simp[Instr.indexAt,hi,hx,asIntOf,run_underlying ht,jV hs,h2,h3]
   ·exact h.elim
  ·rename_i n e a k i' ht hx hi;split at h
   ·rename_i size hs;obtain⟨h2,h3,hk⟩:=h;refine iJ ?_ hk;simp[Instr.indexAt,hi,hx,asIntOf,run_underlying ht,jV hs,h2,h3,Instr.sureAddr]
   ·exact h.elim
  ·exact h.elim
 case index t x i=>
  split at h
  ·rename_i s k i' ht hx hi;obtain⟨b,h1,h2,hk⟩:=h;refine iJ ?_ hk;simp[Instr.index,hi,hx,asIntOf,run_underlying ht,h1,h2]
  ·rename_i n e cs k i' ht hx hi;split at h
   ·rename_i d size hd hs;obtain⟨h1,h2,h⟩:=h;obtain⟨v,hr,hk⟩:=VF (w:=w) hd hs h;refine iJ ?_ hk;simp[Instr.index,hi,hx,asIntOf,run_underlying ht,jV hs,h1,h2,hr]
   ·exact h.elim
  ·exact h.elim
 case extract t i=>
  split at h
  ·rename_i vs ht;split at h
   ·rename_i v hv;have hv':vs[i]? =some v:=by simp_all
    split at h
    ·obtain⟨x,hx,h⟩:=Ov h;refine iJ ?_ h;rw[<- hx];simp[Instr.extract,ht,hv']
    ·refine iJ ?_ h;simp[Instr.extract,ht,hv']
   ·exact h.elim
  ·exact h.elim
 case range t x=>
  split at h
  ·rename_i kt et r ht hx;rcases h with ⟨rfl,h⟩|⟨b,es,clock,rfl,hb,h⟩
   ·exact iJ (by rw[hx];simp[Instr.range,run_underlying ht]) h
   ·exact iJ (by rw[hx];simp[Instr.range,run_underlying ht,MapKept.run_getObj_map hb]) h
  ·exact h.elim
 case next x s=>
  cases s with
  |true=>exact h.elim
  |false=>
  simp only at h;split at h
  ·rename_i a hx;obtain⟨h0,h⟩:=h;rcases h with ⟨s,sn,c,hr,h⟩|⟨b,since,seen,c0,es,clock,hr,hb,W,af,Y,O⟩
   ·refine iJ ?_ h;rw[hx,h0];simp[Instr.next,getObj,Sem.run,hr,Result.andThen]
   ·rcases run_next_at w _ a.block b since c0 seen es clock hr hb W af with ⟨h1,h2⟩|⟨e,he,w1,hw1,h2⟩
    ·exact iJ (by rw[hx,h0];exact h2) (Y h1)
    ·exact iJ (by rw[hx,h0];exact h2) (O e he w1 hw1)
  ·exact h.elim
 case entry x=>
  split at h
  ·rename_i a hx;obtain⟨h0,b,since,seen,es,clock,e,hr,hb,he,hn,h⟩:=h;exact iJ (by rw[hx,h0];exact run_entry_at w a.block b since seen es clock e hr hb he hn) h
  ·exact h.elim
 case call c=>
  have J:c.args.map ρ=⟨c.args.toList.map ρ⟩:=YL _ _;split at h
  ·rename_i f hc;split at h
   ·rename_i sh U
    cases hb:o9 P f with
    |false=>
     rw[hb] at h;obtain⟨v,w',hr,hk⟩:=h;obtain⟨vs,rfl,hk'⟩:=Et _ _ hk;have Z:=hρ f;simp only[resolve,hc,Z,Deferred.ofValue,J];simpa [invoke,hr,Ran] using hk'
    |true=>
     rw[hb] at h;have h:=J_ h;have Z:=hρ f;simp only[resolve,hc,Z,Deferred.ofValue,J];simpa [invoke,AP hP hb,Ran] using h
   ·exact h.elim
  ·rename_i x hx hc;split at h
   ·rename_i sh U;have:=ad8 hP h;simp only[resolve,hc,J];refine Ran.mono (λr w' hr=> ?_) this;obtain⟨vs,rfl,hk⟩:=Et _ _ hr;exact hk
   ·exact h.elim
  ·rename_i b hc;simp only[resolve,hc,J];exact ϥ h
  ·rename_i x name hc;split at h
   ·simp only[resolve,hc,J];exact ah6 hP h
   ·exact h.elim
 case makeInterface t x=>
  split at h
  ·exact h.elim
  ·rename_i d hd ht;refine iJ (by simp only[Instr.makeInterface,Sem.run_bind,run_underlying ht];cases d<;>first|rfl|simp_all) h
  ·exact h.elim
 case typeAssert x xt t ok=>
  split at h
  ·exact h.elim
  ·rename_i d z hd ht hz;obtain⟨v,hr,hk⟩:=ahz (λm=>hd m) ht hz h;exact iJ hr hk
  ·exact h.elim
 all_goals exact h.elim
end
end Gp
end
section
namespace Gp
open Go
def Fr (r:Option Nat):Fence:={Fence.wide with round:=r}
def Agr (env:Env) (a:Act):Prop:=∀s v,env.get s=some v->a.tmps[s]? =some v
theorem qj (s:Nat) (v:Value) (r:Env) (t:Nat):Env.get ((s,v)::r) t=if s=t then some v else Env.get r t:=by
 simp only[Env.get];by_cases h:s=t
 ·subst h;simp
 ·have:Nat.beq s t=false:=by cases hb:Nat.beq s t;rfl;exact absurd (alW hb) h
  simp[this,h]
theorem EF (a:Act) (d:Option Nat) (v:Value):(a.put d v).tmps.size=a.tmps.size:=by cases d<;>simp[Act.put]
theorem JJ (a:Act) (d:Option Nat) (v:Value):(a.put d v).defers=a.defers:=by cases d<;>rfl
theorem DW (a:Act) (d:Option Nat) (v:Value) (s:Nat):(a.put d v).tmps[s]? =if d=some s/\s<a.tmps.size then some v else a.tmps[s]? :=by
 cases d with
 |none=>simp[Act.put]
 |some d=>
  simp only[Act.put,ama,aho];by_cases h:d=s
  ·subst h;by_cases h2:d<a.tmps.size
   ·simp[h2]
   ·simp[h2]
  ·simp[h]
theorem Agr.put {env:Env} {a:Act} {d:Option Nat} {v:Value} (h:Agr env a) (hd:uO a.tmps.size d=true):Agr (env.put d v) (a.put d v):=by
 intro s u hs;rw[DW]
 cases d with
 |none=>simpa using h s u hs
 |some d=>
  simp only[Env.put] at hs;rw[qj] at hs;have I:d<a.tmps.size:=by simp only[uO,amv] at hd;exact hd
  by_cases e:d=s
  ·subst e;simp at hs;simp[I,hs]
  ·rw[acZ e] at hs;have:¬(some d=some s/\s<a.tmps.size):=λx=>e (by simpa using x.1);rw[acZ this];exact h s u hs
theorem afS {env:Env}:∀(l:List Operand),aee env l=true->∀x∈l,(evO env x).isSome=true:=by
 intro l
 induction l with
 |nil=>intro _ x hx;cases hx
 |cons y l ih=>
  intro h x hx;simp only[aee,alg] at h
  cases hx with
  |head=>exact h.1
  |tail _ hx=>exact ih h.2 x hx
theorem akV {env:Env} {a:Act} (h:Agr env a) {x:Operand} (hx:(evO env x).isSome=true):ev env x=a.eval x:=by
 unfold ev
 cases x with
 |tmp t=>
  simp only[evO] at hx ⊢
  cases hg:env.get t with
  |none=>simp[hg] at hx
  |some v=>
   have:=h t v hg;simp[Act.eval,this]
 |const v=>rfl
 |global g=>rfl
 |func f=>rfl
theorem UN {P:Program} {o:Oper} {ρ:Operand->Value} {w:θ} {K:Value->b_} (h:zU P o ρ w K):(∀cs b,o.op≠.select cs b)/\(∀c,o.op≠.defer c):=by
 constructor
 ·intro cs b e;simp only[zU,e] at h
 ·intro c e;simp only[zU,e] at h
theorem ag2 {P:Program} {o:Oper} {a:Act} {w:θ} {K:Value->b_} {r:Option Nat} {n:Nat} {next:Act->b_} {Q:Exit->Act->b_}
  (hd:∀c,o.op≠.defer c) (h:Ran P K ((execOp a.eval o).run P w)) (hk:∀v w',K v w'->next (a.put o.dst v) w'):o.wpIn (Fr r) n P a w next Q:=by
 refine⟨λ_ _=>trivial,?_⟩;rw[Oper.semAt_eq _ _ _ hd];generalize (execOp a.eval o).run P w=res at h
 cases res with
 |halt x w'=>exact h.elim
 |ok x w'=>
  cases x<;>simp only[Ran] at h<;>simp only[Oper.uponIn]
  case value v=>exact hk _ _ h
  case skip=>exact hk _ _ h
  case enter f args=>
   refine⟨λhx=>by simp[Fr,Fence.wide] at hx,?_⟩;have:CallsIn Fence.wide (n - 1) P f args w' λe w''=>∃v,e= .returned v/\K v w'':=callsIn_wide.2 h;refine CallsIn.mono (F:=Fr r) this λe w'' hx=> ?_;obtain⟨v,rfl,hv⟩:=hx;exact hk _ _ hv
  case round l f tmps assign body=>
   refine⟨λhx=>by simp[Fr,Fence.wide] at hx,?_⟩;refine RoundIn.mono (F:=Fr r) (n:=n - 1) ⟨h.1,λc cs _=>h.2 c cs (room_wide _)⟩ λe w'' hx=> ?_;obtain⟨v,rfl,hv⟩:=hx;exact hk _ _ hv
  all_goals exact h.elim
theorem VX {g:Bool} {v:Value} {K:Value->Prop} (h:split g v K):K v:=by
 unfold split at h
 cases g with
 |false=>exact h
 |true=>
  simp only[abt] at h
  cases v<;>first|exact h|skip
  rename_i b
  cases b<;>exact h
structure JV (nt:Nat) (ds:List Deferred) (ws:List Nat) (a0:Act) (env:Env) (a:Act):Prop where
 agr:Agr env a
 size:a.tmps.size=nt
 defers:a.defers=ds
 same:∀s,s∉ws->a.tmps[s]? =a0.tmps[s]?
theorem Rl {ops:Array Oper} {a:Act} {env:Env} {j s:Nat} (ha:∀u,env.get s=some u->a.tmps[s]? =some u) {t:Bool} (h1:(ops.toList[j]?).bind (·.dst)=some s) (h2:env.get s=some (.bool t)):
  yielded ops a.tmps j=some t:=by
 have h1':(ops[j]?).bind (·.dst)=some s:=by simpa using h1
 have:=ha _ h2;simp[yielded,h1',this]
def ϑ (env:Env) (a:Act) (ss:List Nat):Prop:=∀s∈ss,∀u,env.get s=some u->a.tmps[s]? =some u
theorem Agr.on {env:Env} {a:Act} (h:Agr env a) (ss:List Nat):ϑ env a ss:=λs _ u hu=>h s u hu
theorem af6 {env:Env} {a:Act} {ss:List Nat} (h:ϑ env a ss) {x:Operand} (hm:∀t,x= .tmp t->t∈ss) (hx:(evO env x).isSome=true):ev env x=a.eval x:=by
 unfold ev
 cases x with
 |tmp t=>
  simp only[evO] at hx ⊢
  cases hg:env.get t with
  |none=>simp[hg] at hx
  |some v=>
   have:=h t (hm t rfl) v hg;simp[Act.eval,this]
 |const v=>rfl
 |global g=>rfl
 |func f=>rfl
theorem WW {ops:Array Oper} {o:Oper} {t:Nat} (h:Operand.tmp t∈o.op.operands.toList):t∈o.looksAt ops:=
 List.mem_append_left _ (amS.2 ⟨.tmp t,h,rfl⟩)
theorem DI {ops:Array Oper} {o:Oper} {j s:Nat} {want:Bool} (hg:o.guard=some (j,want)) (hs:(ops.toList[j]?).bind (·.dst)=some s):s∈o.looksAt ops:=by
 refine List.mem_append_right _ ?_;have h1':(ops[j]?).bind (·.dst)=some s:=by simpa using hs
 simp[hg,h1']
theorem L_ {P:Program} (hP:XR P) {nt:Nat} {o:Oper} {g:Bool} {env:Env} {w:θ} {K:Env->b_} {a:Act} {r:Option Nat} {n:Nat}
  {next:Act->b_} {Q:Exit->Act->b_} {ops:Array Oper} (h:zC P nt o g env w K) (ha:ϑ env a (o.looksAt ops))
  (hk:∀v w',K (env.put o.dst v) w'->uO nt o.dst=true->next (a.put o.dst v) w'):o.wpIn (Fr r) n P a w next Q:=by
 unfold zC at h
 cases hb:(aee env o.op.operands.toList && uO nt o.dst) with
 |false=>rw[hb] at h;exact h.elim
 |true=>
  rw[hb] at h;simp only[abt] at h;simp only[alg] at hb;have u:execOp a.eval o=execOp (ev env) o:=(execOp_congr o (UN h).1 λx hx=>af6 ha (λt e=>WW (by subst e;simpa using hx)) (afS _ hb.1 x (by simpa using hx))).symm;have hr:=aaM hP (λf=>rfl) h;rw[<- u] at hr;exact ag2 (UN h).2 hr λv w' hv=>hk v w' (VX hv) hb.2
theorem EJ {P:Program} (hP:XR P) {nt:Nat} {ops:Array Oper} {i:Nat} {o:Oper} {g:Bool} {env:Env} {w:θ} {K:Env->b_} {a:Act} {r:Option Nat} {n:Nat}
  {next:Act->b_} {Q:Exit->Act->b_} (ho:ops[i]? =some o) (h:uM P nt ops.toList o g env w K) (ha:ϑ env a (o.looksAt ops))
  (hk:∀v w',K (env.put o.dst v) w'->uO nt o.dst=true->next (a.put o.dst v) w'):wpOpIn (Fr r) n P ops Q i next a w:=by
 unfold wpOpIn;simp only[ho];unfold uM at h
 cases hg:o.guard with
 |none=>
  simp only[hg] at h;have hw:Region.wanted o (yielded ops a.tmps)=true:=by simp[Region.wanted,hg]
  rw[adZ hw];exact L_ hP h ha hk
 |some jw=>
  obtain⟨j,want⟩:=jw;simp only[hg] at h
  cases hs:(ops.toList[j]?).bind (·.dst) with
  |none=>simp only[hs] at h
  |some s=>
   simp only[hs] at h;split at h
   ·rename_i t ht;have hy:=Rl (ha _ (DI hg hs)) hs ht
    cases hb:(t==want) with
    |true=>
     rw[hb] at h;have hw:Region.wanted o (yielded ops a.tmps)=true:=by
      have:t=want:=by simpa using hb
      simp[Region.wanted,hg,hy,this]
     rw[adZ hw];exact L_ hP h ha hk
    |false=>
     rw[hb] at h;have hw:¬(Region.wanted o (yielded ops a.tmps)=true):=by
      have:t≠want:=by intro e;simp[e] at hb
      simp[Region.wanted,hg,hy,this]
     rw[acZ hw];refine⟨λ_ _=>trivial,?_⟩;simp only[aaf] at h
     cases hd:uO nt o.dst with
     |false=>rw[hd] at h;exact h.elim
     |true=>rw[hd] at h;exact hk _ _ h hd
   ·rename_i vs ht;have hw:¬(Region.wanted o (yielded ops a.tmps)=true):=by
     have h1':(ops[j]?).bind (·.dst)=some s:=by simpa using hs
     have:=(ha _ (DI hg hs)) _ ht;simp[Region.wanted,hg,yielded,h1',this]
    rw[acZ hw];refine⟨λ_ _=>trivial,?_⟩
    cases hd:uO nt o.dst with
    |false=>rw[hd] at h;exact h.elim
    |true=>rw[hd] at h;exact hk _ _ h hd
   ·exact h.elim
def Ox (ops:List Oper):List Nat:=ops.filterMap (·.dst)
theorem JV.put {nt:Nat} {ds:List Deferred} {ws:List Nat} {a0:Act} {env:Env} {a:Act} {d:Option Nat} {v:Value} (h:JV nt ds ws a0 env a) (hd:uO nt d=true) (hw:∀s,d=some s->s∈ws):
  JV nt ds ws a0 (env.put d v) (a.put d v):=by
 refine⟨h.agr.put (by rw[h.size];exact hd),by rw[EF];exact h.size,by rw[JJ];exact h.defers,λs hs=> ?_⟩;rw[DW];have:¬(d=some s/\s<a.tmps.size):=λx=>hs (hw s x.1);rw[acZ this];exact h.same s hs
theorem Z9 {P:Program} (hP:XR P) {nt:Nat} {ops:Array Oper} {K:Env->b_} {r:Option Nat} {n:Nat} {Q:Exit->Act->b_} {ds:List Deferred} {ws:List Nat} {a0:Act}
  (I:∀d∈Ox ops.toList,d∈ws) (hQ:∀env a w,JV nt ds ws a0 env a->K env w->Q .normal a w):
  ∀(l:List Oper) (i:Nat) (env:Env) (a:Act) (w:θ),ops.toList.drop i=l->JV nt ds ws a0 env a->acF P nt ops.toList i l env w K->
   wpOpsIn (Fr r) n P ops Q (List.range' i l.length) a w:=by
 intro l
 induction l with
 |nil=>intro i env a w _ ha h;exact hQ _ _ _ ha h
 |cons o l ih=>
  intro i env a w hl ha h;have ho:ops[i]? =some o:=by
   have:=congrArg (λl:List Oper=>l[0]?) hl;simpa using this
  rw[ajg,List.range'_succ,wpOpsIn_cons];have u:o∈ops.toList:=by
   have:o∈ops.toList.drop i:=by rw[hl];simp
   exact amD this
  refine EJ hP ho h (ha.agr.on _) λv w' hv hd=> ?_;refine ih (i+1) _ _ _ ?_ (ha.put hd λs hs=>I s (amS.2 ⟨o,u,hs⟩)) hv;have:=congrArg List.tail hl;simpa [List.tail_drop] using this
def Hz (x:Nat):List Nat->Bool
 |[]=>false
 |y::r=>cond (Nat.beq y x) true (Hz x r)
def B_ (P:Program) (o:Oper):Bool:=
 match o.op with
 | .load _ _=>o.dst.isNone
 | .move _| .assign _| .pick _ _ _| .build _ _| .nilCheck _| .binOp _ _ _ _ _| .unOp _ _ _| .makeFunc _ _ _| .slice _ _ _ _ _
 | .fieldAddr _ _ _| .field _ _ _| .indexAddr _ _ _| .index _ _ _| .extract _ _=>false
 | .convert s d _=>match P.underlying s,P.underlying d with
  |some (.slice _),some .string=>true
  |some .string,some (.slice _)=>true
  |some (.slice _),some (.slice _)=>true
  |_,_=>false
 | .call c=>match c.callee with
  | .builtin .len=>match c.argTypes.toList with
   |[t]=>match P.underlying t with
    |some .string=>false
    |some (.slice _)=>false
    |some (.array _ _)=>false
    |_=>true
   |_=>true
  | .builtin .cap=>false
  | .builtin .max=>false
  | .builtin .min=>false
  |_=>true
 |_=>true
def xE (done:List Nat) (o:Oper):Bool:=o.after.toList.all λe=> !Region.binds .any e||Hz e.on done
def enumFrom:Nat->List Oper->List (Nat×Oper)
 |_,[]=>[]
 |i,o::r=>(i,o)::enumFrom (i+1) r
def zF (P:Program) (done:List Nat):List (Nat×Oper)->Option (Nat×Oper)
 |[]=>none
 |(i,o)::r=>cond (!Hz i done && (!B_ P o && xE done o)) (some (i,o)) (zF P done r)
def G7 (P:Program) (done:List Nat):List (Nat×Oper)->List (Nat×Oper)
 |[]=>[]
 |(i,o)::r=>cond (!Hz i done && (B_ P o && xE done o)) ((i,o)::G7 P done r) (G7 P done r)
def Fh:List Value->θ->Addr->Nat->Prop->Prop
 |[],_,_,_,rest=>rest
 |v::vs,w,a,i,rest=>w.cell? (a.add i)=some v/\Fh vs w a (i+1) rest
def Ho (sh:Shape) (av v:Value) (w:θ) (rest:Prop):Prop:=
 match sh,av,v with
 | .one _,.pointer (some a),v=>w.cell? a=some v/\rest
 | .agg _,.pointer (some a),.agg cs=>Fh cs.toList w a 0 rest
 |_,_,_=>False
def bitsOf (acc:List Nat):List Edge->Nat
 |[]=>0
 |e::r=>cond (Region.binds .any e) (2^e.on|||(acc.getD e.on 0|||bitsOf acc r)) (bitsOf acc r)
def AX:List Oper->List Nat->List Nat
 |[],acc=>acc
 |o::r,acc=>AX r (acc++[bitsOf acc o.after.toList])
def aa7 (pb:Nat) (w:θ):List (Nat×Shape×Value×Value)->Prop->Prop
 |[],rest=>rest
 |(i,sh,av,v)::r,rest=>cond (Nat.testBit pb i) (aa7 pb w r rest) (Ho sh av v w (aa7 pb w r rest))
def Za (ops:List Oper) (o:Oper) (env:Env):Bool:=
 match o.guard with
 |none=>true
 |some (j,want)=>match (ops[j]?).bind (·.dst) with
  |some s=>match env.get s with
   |some (.bool t)=>t==want
   |some (.tuple _)=>false
   |_=>true
  |none=>true
def UL (P:Program) (ops:List Oper) (i:Nat) (o:Oper) (env env':Env) (ld:List (Nat×Shape×Value×Value)):List (Nat×Shape×Value×Value):=
 match o.op,o.dst with
 | .load t x,some d=>cond (Za ops o env) (match shapeOf P t with
  |some sh=>(i,sh,ev env x,ev env' (.tmp d))::ld
  |none=>ld) ld
 |_,_=>ld
def allOf {α:Type} (f:α->Prop):List α->Prop
 |[]=>True
 |[x]=>f x
 |x::r=>f x/\allOf f r
def zB (P:Program) (nt:Nat) (ops:List Oper) (pbs:List Nat):Nat->List Nat->List (Nat×Shape×Value×Value)->Env->θ->(Env->b_)->Prop
 |0,_,_,_,_,_=>False
 |fuel+1,done,ld,env,w,K=>
  match zF P done (enumFrom 0 ops) with
  |some (i,o)=>uM P nt ops o (Zf ops i) env w λenv' w'=>zB P nt ops pbs fuel (i::done) (UL P ops i o env env' ld) env' w' K
  |none=>match G7 P done (enumFrom 0 ops) with
   |[]=>cond (Nat.beq done.length ops.length) (K env w) False
   |e::es=>allOf (λ(e:Nat×Oper)=>uM P nt ops e.2 (Zf ops e.1) env w λenv' w'=>
     aa7 (pbs.getD e.1 0) w' ld (zB P nt ops pbs fuel (e.1::done) ld env' w' K)) (e::es)
def Zm (ops:List Oper) (o:Oper):List Nat:=
 (o.op.operands.toList.filterMap fun| .tmp t=>some t|_=>none)++
 (match o.guard with
  |some (g,_)=>((ops[g]?).bind (·.dst)).toList
  |none=>[])
def Jg:List Nat->Bool
 |[]=>true
 |x::r=> !Hz x r && Jg r
def SB (ops:List Oper) (pbs:List Nat) (i:Nat) (o:Oper):List (Nat×Oper)->Bool
 |[]=>true
 |(j,p)::r=>(match p.dst with
  |some d=>Nat.beq i j|| !Hz d (Zm ops o)||(Nat.testBit (pbs.getD i 0) j||Nat.testBit (pbs.getD j 0) i)
  |none=>true) && SB ops pbs i o r
def backOk (i:Nat) (o:Oper):Bool:=o.after.toList.all λe=> !Region.binds .any e||Nat.blt e.on i
def Po (ops:List Oper) (pbs:List Nat):Bool:=
 Jg (Ox ops) && (enumFrom 0 ops).all λx=>backOk x.1 x.2 && SB ops pbs x.1 x.2 (enumFrom 0 ops)
def Ui (P:Program) (nt:Nat) (ops:List Oper) (env:Env) (w:θ) (K:Env->b_):Prop:=
 cond (Po ops (AX ops [])) (zB P nt ops (AX ops []) (ops.length+1) [] [] env w.drew K) False
theorem tZ {x:Nat} {l:List Nat}:Hz x l=true↔x∈l:=by
 induction l with
 |nil=>simp[Hz]
 |cons y r ih=>
  simp only[Hz];by_cases h:y=x
  ·subst h;simp
  ·have:Nat.beq y x=false:=by cases hb:Nat.beq y x;rfl;exact absurd (alW hb) h
   simp[this,ih,air h]
theorem agH {o:Oper} {i:Nat}:∀(l:List Oper) (k:Nat),(i,o)∈enumFrom k l↔∃j,l[j]? =some o/\i=k+j:=by
 intro l
 induction l with
 |nil=>intro k;simp[enumFrom]
 |cons p l ih=>
  intro k;simp only[enumFrom,agI,alX,ih];constructor
  ·rintro(⟨rfl,rfl⟩|⟨j,h1,h2⟩)
   ·exact⟨0,by simp,by omega⟩
   ·exact⟨j+1,by simpa using h1,by omega⟩
  ·rintro⟨j,h1,h2⟩
   cases j with
   |zero=>simp at h1;exact .inl ⟨by omega,h1.symm⟩
   |succ j=>exact .inr ⟨j,by simpa using h1,by omega⟩
theorem yH {ops:Array Oper} {o:Oper} {i:Nat}:(i,o)∈enumFrom 0 ops.toList↔ops[i]? =some o:=by
 rw[agH];constructor
 ·rintro⟨j,h1,h2⟩;have:i=j:=by omega
  subst this;simpa using h1
 ·intro h;exact⟨i,by simpa using h,by omega⟩
theorem Y7 {P:Program} {done:List Nat} {i:Nat} {o:Oper}:∀(l:List (Nat×Oper)),zF P done l=some (i,o)->
  (i,o)∈l/\i∉done/\B_ P o=false/\xE done o=true:=by
 intro l
 induction l with
 |nil=>intro h;simp[zF] at h
 |cons x l ih=>
  obtain⟨j,p⟩:=x;intro h;simp only[zF] at h
  cases hb:(!Hz j done && (!B_ P p && xE done p)) with
  |true=>
   rw[hb] at h;simp only[abt,aho,alX] at h;obtain⟨rfl,rfl⟩:=h;simp only[alg,al_] at hb;exact⟨by simp,λhm=>by rw[tZ.2 hm] at hb;simp at hb,hb.2.1,hb.2.2⟩
  |false=>
   rw[hb] at h;obtain⟨h1,h2⟩:=ih h;exact⟨by simp[h1],h2⟩
theorem Y6 {P:Program} {done:List Nat}:∀(l:List (Nat×Oper)),zF P done l=none->∀i o,(i,o)∈l->i∉done->xE done o=true->B_ P o=true:=by
 intro l
 induction l with
 |nil=>intro _ i o h;cases h
 |cons x l ih=>
  obtain⟨j,p⟩:=x;intro h i o hm hd hp;simp only[zF] at h
  cases hb:(!Hz j done && (!B_ P p && xE done p)) with
  |true=>rw[hb] at h;simp at h
  |false=>
   rw[hb] at h
   cases hm with
   |head=>
    have:Hz j done=false:=by cases hx:Hz j done;rfl;exact absurd (tZ.1 hx) hd
    simp[this,hp] at hb;exact hb
   |tail _ hm=>exact ih h i o hm hd hp
theorem VJ {P:Program} {done:List Nat} {i:Nat} {o:Oper}:∀(l:List (Nat×Oper)),(i,o)∈G7 P done l↔(i,o)∈l/\i∉done/\B_ P o=true/\xE done o=true:=by
 intro l
 induction l with
 |nil=>simp[G7]
 |cons x l ih=>
  obtain⟨j,p⟩:=x;simp only[G7]
  cases hb:(!Hz j done && (B_ P p && xE done p)) with
  |true=>
   simp only[alg,al_] at hb;have u:j∉done:=λhm=>by rw[tZ.2 hm] at hb;simp at hb
   simp only[abt,agI,alX,ih];constructor
   ·rintro(⟨rfl,rfl⟩|h)
    ·exact⟨.inl ⟨rfl,rfl⟩,u,hb.2⟩
    ·exact⟨.inr h.1,h.2⟩
   ·rintro⟨h1|h1,h2⟩
    ·exact .inl h1
    ·exact .inr ⟨h1,h2⟩
  |false=>
   simp only[aaf,agI,alX,ih];constructor
   ·intro h;exact⟨.inr h.1,h.2⟩
   ·rintro⟨h1|h1,h2,h3,h4⟩
    ·obtain⟨rfl,rfl⟩:=h1;have:Hz i done=false:=by cases hx:Hz i done;rfl;exact absurd (tZ.1 hx) h2
     simp[this,h3,h4] at hb
    ·exact⟨h1,h2,h3,h4⟩
theorem ad1 {α:Type} {f:α->Prop}:∀(l:List α),allOf f l->∀x∈l,f x:=by
 intro l
 induction l with
 |nil=>intro _ x hx;cases hx
 |cons y r ih=>
  intro h x hx
  cases r with
  |nil=>simp at hx;subst hx;exact h
  |cons z r=>
   cases hx with
   |head=>exact h.1
   |tail _ hx=>exact ih h.2 x hx
def Dir (ops:Array Oper) (j i:Nat):Prop:=∃o,ops[i]? =some o/\∃e∈o.after.toList,Region.binds .any e=true/\e.on=j
inductive Pre (ops:Array Oper):Nat->Nat->Prop
 |one {j i:Nat}:Dir ops j i->Pre ops j i
 |tail {j k i:Nat}:Pre ops j k->Dir ops k i->Pre ops j i
theorem ϣ {acc:List Nat} {j:Nat}:∀(es:List Edge),(bitsOf acc es).testBit j=true->∃e∈es,Region.binds .any e=true/\(e.on=j\/(acc.getD e.on 0).testBit j=true):=by
 intro es
 induction es with
 |nil=>intro h;simp[bitsOf] at h
 |cons e es ih=>
  intro h;simp only[bitsOf] at h
  cases hb:Region.binds .any e with
  |false=>
   rw[hb] at h;obtain⟨e',h1,h2⟩:=ih h;exact⟨e',by simp[h1],h2⟩
  |true=>
   rw[hb] at h;simp only[abt,Nat.testBit_or,amQ,Nat.testBit_two_pow,decide_eq_true_eq] at h;rcases h with h|h|h
   ·exact⟨e,by simp,hb,.inl h⟩
   ·exact⟨e,by simp,hb,.inr h⟩
   ·obtain⟨e',h1,h2⟩:=ih h;exact⟨e',by simp[h1],h2⟩
theorem Κ {ops:Array Oper}:∀(l:List Oper) (acc:List Nat),ops.toList.drop acc.length=l->(∀i j,(acc.getD i 0).testBit j=true->Pre ops j i)->
  ∀i j,((AX l acc).getD i 0).testBit j=true->Pre ops j i:=by
 intro l
 induction l with
 |nil=>intro acc _ h;exact h
 |cons o l ih=>
  intro acc hl h;simp only[AX];have ho:ops[acc.length]? =some o:=by
   have:=congrArg (λl:List Oper=>l[0]?) hl;simpa using this
  refine ih _ ?_ ?_
  ·have:=congrArg List.tail hl;simpa [List.tail_drop] using this
  ·intro i j hb;rcases al7 i acc.length with hi|hi|hi
   ·rw[amE,alT hi,<- amE] at hb;exact h i j hb
   ·subst hi;rw[amE,alh (ajq _)] at hb;simp only[Nat.sub_self,afe,alO] at hb;obtain⟨e,h1,h2,h3⟩:=ϣ _ hb;rcases h3 with h3|h3
    ·exact .one ⟨o,ho,e,h1,h2,h3⟩
    ·exact .tail (h _ _ h3) ⟨o,ho,e,h1,h2,rfl⟩
   ·rw[amE,amT (by simp;omega)] at hb;simp at hb
theorem VI {ops:Array Oper} {i j:Nat} (h:((AX ops.toList []).getD i 0).testBit j=true):Pre ops j i:=
 Κ ops.toList [] rfl (λi j h=>by simp at h) i j h
theorem yN {ops:Array Oper} {D:Nat->Prop} (hD:∀i j,D i->Dir ops j i->D j) {i j:Nat} (h:Pre ops j i):D i->D j:=by
 induction h with
 |one h=>exact λhi=>hD _ _ hi h
 |tail _ h ih=>exact λhi=>ih (hD _ _ hi h)
theorem Bf {ops:Array Oper} {D:Nat->Prop} (hD:∀i j,D i->Dir ops j i->D j) {i:Nat} (hi:∀j,Dir ops j i->D j) {j:Nat} (h:Pre ops j i):D j:=by
 cases h with
 |one h=>exact hi _ h
 |tail h1 h2=>exact yN hD h1 (hi _ h2)
theorem acu:∀(ops:List Oper),Jg (Ox ops)=true->∀(i j:Nat) (oi oj:Oper) (s:Nat),ops[i]? =some oi->ops[j]? =some oj->oi.dst=some s->oj.dst=some s->i=j:=by
 intro ops
 induction ops with
 |nil=>intro _ i j oi oj s hi;simp at hi
 |cons o r ih=>
  intro h i j oi oj s hi hj u I;have J:∀(k:Nat) (x:Oper),r[k]? =some x->x.dst=some s->s∈Ox r:=λk x hk hx=>amS.2 ⟨x,als hk,hx⟩
  cases hd:o.dst with
  |none=>
   have h':Jg (Ox r)=true:=by simpa [Ox,hd] using h
   cases i with
   |zero=>simp at hi;subst hi;rw[hd] at u;cases u
   |succ i=>cases j with
    |zero=>simp at hj;subst hj;rw[hd] at I;cases I
    |succ j=>rw[ih h' i j oi oj s (by simpa using hi) (by simpa using hj) u I]
  |some d=>
   have h0:Jg (d::Ox r)=true:=by simpa [Ox,hd] using h
   simp only[Jg,alg,al_] at h0;have N:d∉Ox r:=λhm=>by rw[tZ.2 hm] at h0;simp at h0
   cases i with
   |zero=>
    simp at hi;subst hi;rw[hd] at u;cases u
    cases j with
    |zero=>rfl
    |succ j=>exact absurd (J j oj (by simpa using hj) I) N
   |succ i=>cases j with
    |zero=>
     simp at hj;subst hj;rw[hd] at I;cases I;exact absurd (J i oi (by simpa using hi) u) N
    |succ j=>rw[ih h0.2 i j oi oj s (by simpa using hi) (by simpa using hj) u I]
theorem aeF (ops:Array Oper) (o:Oper):Zm ops.toList o=o.looksAt ops:=by
 unfold Zm Oper.looksAt;congr 1
 cases o.guard<;>simp
theorem YJ {ops:List Oper} {pbs:List Nat} {i:Nat} {o:Oper}:∀(l:List (Nat×Oper)),SB ops pbs i o l=true->∀j p d,(j,p)∈l->p.dst=some d->d∈Zm ops o->
  i=j\/(pbs.getD i 0).testBit j=true\/(pbs.getD j 0).testBit i=true:=by
 intro l
 induction l with
 |nil=>intro _ j p d h;cases h
 |cons x l ih=>
  obtain⟨k,q⟩:=x;intro h j p d hm hd hl;simp only[SB,alg] at h
  cases hm with
  |head=>
   rw[hd] at h;simp only[amQ,al_,beq_eq] at h;rcases h.1 with (h1|h1)|h1
   ·exact .inl h1
   ·rw[tZ.2 hl] at h1;cases h1
   ·exact .inr h1
  |tail _ hm=>exact ih h.2 j p d hm hd hl
structure ROk (ops:Array Oper):Prop where
 dst:∀(i j:Nat) (oi oj:Oper) (s:Nat),ops[i]? =some oi->ops[j]? =some oj->oi.dst=some s->oj.dst=some s->i=j
 apart:∀(i j:Nat) (oi oj:Oper) (s:Nat),ops[i]? =some oi->ops[j]? =some oj->oj.dst=some s->s∈oi.looksAt ops->i=j\/Pre ops j i\/Pre ops i j
 back:∀i j,Dir ops j i->j<i
theorem XK {ops:Array Oper} (h:Po ops.toList (AX ops.toList [])=true):ROk ops:=by
 simp only[Po,alg,al5] at h;refine⟨λi j oi oj s hi hj=>acu _ h.1 i j oi oj s (by simpa using hi) (by simpa using hj),λi j oi oj s hi hj hs hl=> ?_,λi j hd=> ?_⟩
 ·have:=(h.2 (i,oi) (yH.2 hi)).2;rcases YJ _ this j oj s (yH.2 hj) hs (by rw[aeF];exact hl) with h1|h1|h1
  ·exact .inl h1
  ·exact .inr (.inl (VI h1))
  ·exact .inr (.inr (VI h1))
 ·obtain⟨o,ho,e,he,hb,rfl⟩:=hd;have:=(h.2 (i,o) (yH.2 ho)).1;simp only[backOk,al5,amQ,al_,amv] at this;rcases this e he with h1|h1
  ·rw[hb] at h1;cases h1
  ·exact h1
theorem aed {k:Kind} {x:k.T} {φ:k.T->Prop} (h:φ x):k.dec (k.enc x) φ:=by
 cases k with
 |int k=>
  have e:Nk k k=true:=by cases k<;>rfl
  show cond (Nk k k) (φ x) False;rw[e];exact h
 |_=>exact h
def Lin {α:Type} (F:(α->Prop)->Prop):Prop:=∀φ,F φ->∃v,φ v/\∀φ':α->Prop,φ' v->F φ'
theorem acf (op:BinOp) (k:IntKind) (a b:Int):Lin (Nl op k a b):=by
 intro φ h
 cases op<;>simp only[Nl] at h ⊢<;>first
  |exact⟨_,h,λ_ h'=>h'⟩
  |exact⟨_,h.2,λ_ h'=>⟨h.1,h'⟩⟩
  |exact h.elim
theorem acg (op:BinOp) (a b:ByteArray):Lin (NV op a b):=by
 intro φ h
 cases op<;>simp only[NV] at h ⊢<;>first
  |exact⟨_,h,λ_ h'=>h'⟩
  |exact⟨_,h.2,λ_ h'=>⟨h.1,h'⟩⟩
  |exact h.elim
theorem UH (op:BinOp) (x y:Value):Lin (MO op x y):=by
 intro φ h
 cases x with
 |int k n=>
  cases y with
  |int k' m=>
   by_cases h1:op= .shl
   ·subst h1;exact⟨_,h.2,λ_ h'=>⟨h.1,h'⟩⟩
   ·by_cases h2:op= .shr
    ·subst h2;exact⟨_,h.2,λ_ h'=>⟨h.1,h'⟩⟩
    ·have e:∀φ,MO op (.int k n) (.int k' m) φ=cond (Nk k k') (Nl op k n m φ) False:=by
      intro φ;cases op<;>first|rfl|exact absurd rfl h1|exact absurd rfl h2
     rw[e] at h
     cases hk:Nk k k' with
     |false=>rw[hk] at h;exact h.elim
     |true=>
      rw[hk] at h;obtain⟨v,hv,h'⟩:=acf op k n m φ h;exact⟨v,hv,λφ' hφ=>by rw[e,hk];exact h' φ' hφ⟩
  |_=>cases op<;>exact h.elim
 |string s=>
  cases y with
  |string s'=>
   have e:∀φ,MO op (.string s) (.string s') φ=NV op s s' φ:=by intro φ;cases op<;>rfl
   rw[e] at h;obtain⟨v,hv,h'⟩:=acg op s s' φ h;exact⟨v,hv,λφ' hφ=>by rw[e];exact h' φ' hφ⟩
  |_=>cases op<;>exact h.elim
 |_=>cases op<;>exact h.elim
theorem Yj (d:TypeDesc) (x y:Value):Lin (LZ d x y):=by
 intro φ h;unfold LZ at h ⊢;split at h<;>first|exact⟨_,h,λ_ h'=>h'⟩|exact h.elim
theorem Zi (P:Program) (op:BinOp) (t:TypeId) (x y:Value):Lin (Il P op t x y):=by
 intro φ h;unfold Il at h ⊢;split at h
 ·exact UH _ _ _ φ h
 ·exact UH _ _ _ φ h
 ·split at h
  case h_2=>exact h.elim
  rename_i s ys ho
  cases hg:P.eqGuardType P.depth t with
  |true=>rw[hg] at h;exact h.elim
  |false=>
   simp only[hg,aaf] at h ⊢;split at h
   case h_2=>exact h.elim
   rename_i r hr;exact⟨_,h,λφ' hφ=>by simpa only [hr] using hφ⟩
 ·split at h
  ·obtain⟨v,hv,h'⟩:=Yj _ _ _ _ h;exact⟨_,hv,λφ' hφ=>h' (λb=>φ' (.bool b)) hφ⟩
  ·obtain⟨v,hv,h'⟩:=Yj _ _ _ _ h;exact⟨_,hv,λφ' hφ=>h' (λb=>φ' (.bool !b)) hφ⟩
  ·exact h.elim
theorem aeD (P:Program) (op:BinOp) (t:TypeId) (x y:Value):Lin (G_ P op t x y):=by
 intro φ h;unfold G_ at h ⊢;split at h<;>first|exact⟨_,h,λ_ h'=>h'⟩|exact h.elim
theorem aal (op:UnOp) (x:Value):Lin (Py op x):=by
 intro φ h;unfold Py at h ⊢;split at h<;>first|exact⟨_,h,λ_ h'=>h'⟩|exact h.elim
theorem xB {α:Type} (ρ:Operand->Value) (x:Option Operand) (d:Int) (F:Int->(α->Prop)->Prop) (hF:∀i,Lin (F i)):Lin (λφ=>zX ρ x d λi=>F i φ):=by
 intro φ h;unfold zX at h ⊢;split at h
 ·exact hF _ φ h
 ·split at h
  ·exact hF _ φ h
  ·exact h.elim
theorem Zj (P:Program) (t:TypeId) (x:Value) (ρ:Operand->Value) (lo hi mx:Option Operand):Lin (JO P t x ρ lo hi mx):=by
 intro φ h;unfold JO at h ⊢;split at h
 ·split at h
  ·exact xB ρ lo 0 (λl (φ:Value->Prop)=>zX ρ hi _ λh=>abD _ l h λs'=>φ (.string s')) (λl=>xB ρ hi _ (λh (φ:Value->Prop)=>abD _ l h λs'=>φ (.string s'))
    λh φ hh=>⟨_,hh.2.2.2,λ_ h'=>⟨hh.1,hh.2.1,hh.2.2.1,h'⟩⟩) φ h
  ·exact h.elim
 ·split at h
  ·split at h
   ·exact xB ρ lo 0 (λl φ=>zX ρ hi _ λh=>lG _ _ l h λs'=>φ s'.v) (λl=>xB ρ hi _ (λh φ=>lG _ _ l h λs'=>φ s'.v)
     λh φ hh=>⟨_,hh.2.2.2,λ_ h'=>⟨hh.1,hh.2.1,hh.2.2.1,h'⟩⟩) φ h
   ·split at h
    ·exact xB ρ lo 0 (λl φ=>zX ρ _ 0 λh=>zX ρ _ 0 λm=>TM _ _ l h m λs'=>φ s'.v) (λl=>xB ρ _ 0 (λh φ=>zX ρ _ 0 λm=>TM _ _ l h m λs'=>φ s'.v)
      λh=>xB ρ _ 0 (λm φ=>TM _ _ l h m λs'=>φ s'.v)
      λm φ hh=>⟨_,hh.2.2.2.2,λ_ h'=>⟨hh.1,hh.2.1,hh.2.2.1,hh.2.2.2.1,h'⟩⟩) φ h
    ·exact h.elim
  ·exact h.elim
 ·split at h
  ·split at h
   ·exact xB ρ lo 0 (λl φ=>zX ρ hi _ λh=>abC _ _ _ l h λs'=>φ s'.v) (λl=>xB ρ hi _ (λh φ=>abC _ _ _ l h λs'=>φ s'.v)
     λh φ hh=>⟨_,hh.2.2.2,λ_ h'=>⟨hh.1,hh.2.1,hh.2.2.1,h'⟩⟩) φ h
   ·exact h.elim
  ·exact h.elim
 ·exact h.elim
theorem UJ (d:TypeDesc) (size off:Nat) (cs:List Value):Lin (partOf d size off cs):=by
 intro φ h;unfold partOf at h ⊢
 cases hg:I_ d with
 |true=>simp only[hg,abt] at h ⊢;exact⟨_,h,λ_ h'=>h'⟩
 |false=>
  simp only[hg,aaf] at h ⊢;split at h
  ·exact⟨_,h,λ_ h'=>h'⟩
  ·exact h.elim
theorem Q7 (mx:Bool):∀(r:List Value) (x:Int) (k:IntKind),Lin (Gw mx x r k):=by
 intro r
 induction r with
 |nil=>exact λx k φ h=>⟨_,h,λ_ h'=>h'⟩
 |cons y r ih=>
  intro x k φ h
  cases y with
  |int ky y=>exact ih _ _ φ h
  |_=>exact h.elim
theorem aak (P:Program) (s d:TypeId) (x:Value):Lin (SE P s d x):=by
 intro φ h;unfold SE at h ⊢;split at h<;>first|exact⟨_,h,λ_ h'=>h'⟩|exact h.elim
theorem Λ {P:Program} {b:Builtin} {ts:List TypeId} {args:List Value} {w:θ} {K:Value->b_}
  (hb:(b= .len/\∃t,ts=[t]/\∃d,P.underlying t=some d/\(d= .string\/(∃e,d= .slice e)\/∃n e,d= .array n e))\/b= .cap\/b= .max\/b= .min) (h:qG P b ts args w K):
  ∃v,K v w/\∀(w':θ) (K':Value->b_),K' v w'->qG P b ts args w' K':=by
 rcases hb with ⟨rfl,t,rfl,d,hd,hk⟩|rfl|rfl|rfl
 ·unfold qG at h ⊢;split at h<;>first|contradiction|exact h.elim|skip
  rename_i e1 e2
  cases e2
  simp only[hd] at h ⊢;rcases hk with rfl|⟨e,rfl⟩|⟨n,e,rfl⟩
  ·unfold Qd at h ⊢;split at h<;>first|contradiction|exact h.elim|exact⟨_,h,λ_ _ h'=>h'⟩
  ·unfold Qd at h ⊢;split at h<;>first|contradiction|exact h.elim|exact⟨_,h,λ_ _ h'=>h'⟩
  ·unfold Qd at h ⊢;split at h<;>first|contradiction|exact h.elim|exact⟨_,h,λ_ _ h'=>h'⟩
 ·unfold qG at h ⊢;split at h<;>first|contradiction|exact h.elim|skip
  split at h
  ·exact⟨_,h,λ_ _ h'=>h'⟩
  ·exact h.elim
 ·unfold qG at h ⊢;split at h<;>first|contradiction|exact h.elim|skip
  obtain⟨v,hv,h'⟩:=Q7 _ _ _ _ _ h;exact⟨v,hv,λw' K' hk=>h' (λv=>K' v w') hk⟩
 ·unfold qG at h ⊢;split at h<;>first|contradiction|exact h.elim|skip
  obtain⟨v,hv,h'⟩:=Q7 _ _ _ _ _ h;exact⟨v,hv,λw' K' hk=>h' (λv=>K' v w') hk⟩
theorem aiB {P:Program} {o:Oper} {ρ:Operand->Value} {w:θ} {K:Value->b_} (u:B_ P o=false) (hl:∀t x,o.op≠.load t x) (h:zU P o ρ w K):
  ∃v,K v w/\∀(w':θ) (K':Value->b_),K' v w'->zU P o ρ w' K':=by
 obtain⟨dst,op,type,pos,after,guard⟩:=o
 cases op<;>simp only[zU] at h ⊢<;>simp only[B_] at u
 case load t x=>exact absurd rfl (hl t x)
 case move x=>exact⟨_,h,λ_ _ h'=>h'⟩
 case assign x=>exact⟨_,h,λ_ _ h'=>h'⟩
 case pick c a b=>
  split at h
  ·rename_i t hc
   cases t with
   |true=>exact⟨_,h,λ_ _ h'=>h'⟩
   |false=>exact⟨_,h,λ_ _ h'=>h'⟩
  ·exact h.elim
 case build t ps=>
  split at h
  ·split at h
   ·rename_i pl hpl;split at h
    ·rename_i cs I;exact⟨_,h,λ_ _ h'=>h'⟩
    ·exact h.elim
   ·exact h.elim
  ·split at h
   ·rename_i size hs;split at h
    ·rename_i cs I;exact⟨_,h,λ_ _ h'=>h'⟩
    ·exact h.elim
   ·exact h.elim
  ·exact h.elim
 case nilCheck x=>
  split at h
  ·obtain⟨a,ha,h⟩:=h;exact⟨_,h,λ_ _ h'=>⟨a,ha,h'⟩⟩
  ·exact h.elim
 case binOp op t x y yt=>
  split at h
  ·obtain⟨v,hv,h'⟩:=aeD P op t _ _ _ h;exact⟨v,hv,λw' K' hk=>h' (λv=>K' v w') hk⟩
  ·obtain⟨v,hv,h'⟩:=Zi P op t _ _ _ h;exact⟨v,hv,λw' K' hk=>h' (λv=>K' v w') hk⟩
 case unOp op t x=>
  obtain⟨v,hv,h'⟩:=aal op _ _ h;exact⟨v,hv,λw' K' hk=>h' (λv=>K' v w') hk⟩
 case convert s d x=>
  split at h
  ·rename_i hs hd hx;rw[hs,hd] at u
   cases u
  ·rename_i hs hd hx;rw[hs,hd] at u
   cases u
  ·rename_i hs hd hx;rw[hs,hd] at u
   cases u
  ·obtain⟨v,hv,h'⟩:=aak P s d _ _ h;exact⟨v,hv,λw' K' hk=>h' (λv=>K' v w') hk⟩
 case makeFunc fn first cap=>exact⟨_,h,λ_ _ h'=>h'⟩
 case slice t x lo hi mx=>
  obtain⟨v,hv,h'⟩:=Zj P t _ ρ lo hi mx _ h;exact⟨v,hv,λw' K' hk=>h' (λv=>K' v w') hk⟩
 case fieldAddr t x f=>
  split at h
  ·rename_i fs a ht hx;split at h
   ·rename_i off size hf
    cases hb:Nat.beq size 0 with
    |true=>rw[hb] at h;exact False.elim h
    |false=>
     have h2:K (.pointer (some (a.add off))) w:=by rw[hb] at h;exact h
     exact⟨_,h2,λ_ _ h'=>h'⟩
   ·exact h.elim
  ·exact h.elim
 case field t x f=>
  split at h
  ·split at h
   ·rename_i fd hf;split at h
    ·rename_i d size hd hs;obtain⟨v,hv,h'⟩:=UJ _ _ _ _ _ h;exact⟨v,hv,λw' K' hk=>h' (λv=>K' v w') hk⟩
    ·exact h.elim
   ·exact h.elim
  ·exact h.elim
 case indexAddr t x i=>
  split at h
  ·split at h
   ·rename_i size hs;obtain⟨a',h1,h2,h3,h⟩:=h;exact⟨_,h,λ_ _ h'=>⟨a',h1,h2,h3,h'⟩⟩
   ·exact h.elim
  ·split at h
   ·rename_i size hs;obtain⟨h2,h3,h⟩:=h;exact⟨_,h,λ_ _ h'=>⟨h2,h3,h'⟩⟩
   ·exact h.elim
  ·exact h.elim
 case index t x i=>
  split at h
  ·obtain⟨b,h1,h2,h⟩:=h;exact⟨_,h,λ_ _ h'=>⟨b,h1,h2,h'⟩⟩
  ·split at h
   ·rename_i d size hd hs;obtain⟨h1,h2,h⟩:=h;obtain⟨v,hv,h'⟩:=UJ _ _ _ _ _ h;exact⟨v,hv,λw' K' hk=>⟨h1,h2,h' (λv=>K' v w') hk⟩⟩
   ·exact h.elim
  ·exact h.elim
 case extract t i=>
  split at h
  ·split at h
   ·rename_i v hv;split at h
    ·obtain⟨x,hx,h⟩:=Ov h;exact⟨_,h,λ_ _ h'=>by rw[hx];exact aed h'⟩
    ·exact⟨_,h,λ_ _ h'=>h'⟩
   ·exact h.elim
  ·exact h.elim
 case call c=>
  split at h
  ·rename_i f hc;simp only[hc] at u;cases u
  ·rename_i hc;simp only[hc] at u;cases u
  ·rename_i b hc;simp only[hc] at u;refine Λ ?_ h
   cases b<;>first|(cases u;done)|(exact .inr (.inl rfl))|(exact .inr (.inr (.inl rfl)))|(exact .inr (.inr (.inr rfl)))|skip
   refine .inl ⟨rfl,?_⟩;simp only at u;split at u
   ·rename_i t ht;refine⟨t,ht,?_⟩;split at u<;>first|(cases u;done)|skip
    ·rename_i hd;exact⟨_,hd,.inl rfl⟩
    ·rename_i hd;exact⟨_,hd,.inr (.inl ⟨_,rfl⟩)⟩
    ·rename_i hd;exact⟨_,hd,.inr (.inr ⟨_,_,rfl⟩)⟩
   ·cases u
  ·rename_i hc;simp only[hc] at u;cases u
 all_goals first|exact h.elim|(cases u;done)
def Ex (P:Program) (r:Option Nat) (ops:Array Oper) (i:Nat) (o:Oper) (E:Env) (v:Value) (w:θ):Prop:=
 ∀(n:Nat) (Q:Exit->Act->b_) (a:Act) (next:Act->b_),ϑ E a (o.looksAt ops)->next (a.put o.dst v) w->wpOpIn (Fr r) n P ops Q i next a w
theorem JQ {w:θ} {a:Addr} {rest:Prop}:∀(vs:List Value) (i:Nat),Fh vs w a i rest->(∀j v,vs[j]? =some v->w.cell? (a.add (i+j))=some v)/\rest:=by
 intro vs
 induction vs with
 |nil=>exact λi h=>⟨λj v hj=>by simp at hj,h⟩
 |cons v vs ih=>
  rintro i ⟨h1,h2⟩;obtain⟨h3,h4⟩:=ih (i+1) h2;refine⟨λj u hj=> ?_,h4⟩
  cases j with
  |zero=>simp at hj;subst hj;exact h1
  |succ j=>rw[show i+(j+1)=i+1+j by omega];exact h3 j u (by simpa using hj)
theorem VY {w:θ} {a:Addr} {rest:Prop}:∀(vs:List Value) (i:Nat),Fh vs w a i rest->Fh vs w a i True:=by
 intro vs
 induction vs with
 |nil=>exact λ_ _=>trivial
 |cons v vs ih=>exact λi h=>⟨h.1,ih _ h.2⟩
theorem acO {sh:Shape} {av v:Value} {w:θ} {rest:Prop} (h:Ho sh av v w rest):Ho sh av v w True/\rest:=by
 unfold Ho at h ⊢;split at h
 ·exact⟨⟨h.1,trivial⟩,h.2⟩
 ·exact⟨VY _ _ h,(JQ _ _ h).2⟩
 ·exact h.elim
theorem acP {pb:Nat} {w:θ} {rest:Prop}:∀(ld:List (Nat×Shape×Value×Value)),aa7 pb w ld rest->
  rest/\∀i sh av v,(i,sh,av,v)∈ld->pb.testBit i=true\/Ho sh av v w True:=by
 intro ld
 induction ld with
 |nil=>exact λh=>⟨h,λi sh av v hm=>by cases hm⟩
 |cons x ld ih=>
  obtain⟨i,sh,av,v⟩:=x;intro h;simp only[aa7] at h
  cases hb:pb.testBit i with
  |true=>
   rw[hb] at h;obtain⟨h1,h2⟩:=ih h;refine⟨h1,λj sj bv u hm=> ?_⟩
   cases hm with
   |head=>exact .inl hb
   |tail _ hm=>exact h2 _ _ _ _ hm
  |false=>
   rw[hb] at h;obtain⟨h0,h⟩:=acO h;obtain⟨h1,h2⟩:=ih h;refine⟨h1,λj sj bv u hm=> ?_⟩
   cases hm with
   |head=>exact .inr h0
   |tail _ hm=>exact h2 _ _ _ _ hm
theorem aeC {w:θ} {a:Addr}:∀(ks:List Kind) (i:Nat) (φ:List Value->Prop),LdN ks w a i φ->
  ∃vs,φ vs/\(∀j v,vs[j]? =some v->w.cell? (a.add (i+j))=some v)/\
   ∀w':θ,(∀j v,vs[j]? =some v->w'.cell? (a.add (i+j))=some v)->∀φ':List Value->Prop,φ' vs->LdN ks w' a i φ':=by
 intro ks
 induction ks with
 |nil=>exact λi φ h=>⟨[],h,λj v hj=>by simp at hj,λ_ _ φ' h'=>h'⟩
 |cons k ks ih=>
  rintro i φ ⟨x,hx,h⟩;obtain⟨vs,hφ,hc,u⟩:=ih (i+1) _ h;refine⟨k.enc x::vs,hφ,λj v hj=> ?_,λw' hw φ' h'=> ?_⟩
  ·cases j with
   |zero=>simp at hj;subst hj;exact hx
   |succ j=>rw[show i+(j+1)=i+1+j by omega];exact hc j v (by simpa using hj)
  ·refine⟨x,by simpa using hw 0 (k.enc x) (by simp),u w' (λj v hj=> ?_) _ h'⟩;have:=hw (j+1) v (by simpa using hj)
   rwa [show i+(j+1)=i+1+j by omega] at this
theorem ach {sh:Shape} {w:θ} {a:Addr} {φ:Value->Prop} (h:sh.ld w a φ):
  ∃v,φ v/\(∀φ':Value->Prop,φ' v->sh.ld w a φ')/\∀w',Ho sh (.pointer (some a)) v w' True->∀φ':Value->Prop,φ' v->sh.ld w' a φ':=by
 cases sh with
 |one k=>
  obtain⟨x,hx,h⟩:=h;exact⟨_,h,λφ' h'=>⟨x,hx,h'⟩,λw' hs φ' h'=>⟨x,hs.1,h'⟩⟩
 |agg ks=>
  obtain⟨vs,hφ,hc,u⟩:=aeC ks 0 _ h;exact⟨_,hφ,λφ' h'=>u w hc (λvs=>φ' (.agg ⟨vs⟩)) h',λw' hs φ' h'=>u w' (JQ _ _ hs).1 (λvs=>φ' (.agg ⟨vs⟩)) h'⟩
theorem ak4 {P:Program} {o:Oper} {ρ:Operand->Value} {w:θ} {K:Value->b_} (u:B_ P o=false) (h:zU P o ρ w K):
  ∃v,K v w/\(∀K':Value->b_,K' v w->zU P o ρ w K')/\
   ((∀(w':θ) (K':Value->b_),K' v w'->zU P o ρ w' K')\/
    ∃t x d sh,o.op= .load t x/\o.dst=some d/\shapeOf P t=some sh/\∀w',Ho sh (ρ x) v w' True->∀K':Value->b_,K' v w'->zU P o ρ w' K'):=by
 by_cases hl:∃t x,o.op= .load t x
 ·obtain⟨t,x,ho⟩:=hl;have hd:∃d,o.dst=some d:=by
   simp only[B_,ho] at u
   cases hd:o.dst with
   |none=>simp[hd] at u
   |some d=>exact⟨d,rfl⟩
  obtain⟨d,hd⟩:=hd;have e:∀w K,zU P o ρ w K=(match ρ x,shapeOf P t,jT P t with
    | .pointer (some a),some sh,some n=>cond (Nat.beq sh.cells n) (sh.ld w a λv=>K v w) False
    |_,_,_=>False):=by
   intro w K;simp only[zU,ho]<;>rfl
  rw[e] at h;split at h
  ·rename_i a sh n hx hs hn
   cases hb:Nat.beq sh.cells n with
   |false=>rw[hb] at h;exact h.elim
   |true=>
    rw[hb] at h;obtain⟨v,hv,h1,h2⟩:=ach h;have e':∀w K,zU P o ρ w K=sh.ld w a λv=>K v w:=by
     intro w K;rw[e];simp only[hx,hs,hn,hb,abt]
    refine⟨v,hv,λK' hk=> ?_,.inr ⟨t,x,d,sh,ho,hd,hs,λw' I K' hk=> ?_⟩⟩
    ·rw[e'];exact h1 (λv=>K' v w) hk
    ·rw[e'];rw[hx] at I;exact h2 w' I (λv=>K' v w') hk
  ·exact h.elim
 ·obtain⟨v,hv,h'⟩:=aiB u (λt x e=>hl ⟨t,x,e⟩) h;exact⟨v,hv,λK' hk=>h' w K' hk,.inl h'⟩
theorem aif {P:Program} (hP:XR P) {nt:Nat} {ops:Array Oper} {i:Nat} {o:Oper} {g:Bool} {env:Env} {w:θ} {K:Env->b_} (r:Option Nat)
  (ho:ops[i]? =some o) (N:B_ P o=false) (h:uM P nt ops.toList o g env w K):
  ∃v,uO nt o.dst=true/\K (env.put o.dst v) w/\Ex P r ops i o env v w/\
   ((∀w',Ex P r ops i o env v w')\/∃sh av,(∀ld,(i,sh,av,v)∈UL P ops.toList i o env (env.put o.dst v) ld)/\∀w',Ho sh av v w' True->Ex P r ops i o env v w'):=by
 have run:∀(K':Env->b_),zC P nt o g env w K'->uM P nt ops.toList o g env w K->(∀w' (K'':Env->b_),zC P nt o false env w' K''->uM P nt ops.toList o false env w' K'')->
   Za ops.toList o env=true->zC P nt o g env w K->
   ∃v,uO nt o.dst=true/\K (env.put o.dst v) w/\Ex P r ops i o env v w/\
   ((∀w',Ex P r ops i o env v w')\/∃sh av,(∀ld,(i,sh,av,v)∈UL P ops.toList i o env (env.put o.dst v) ld)/\∀w',Ho sh av v w' True->Ex P r ops i o env v w'):=by
  intro _ _ _ I O h;unfold zC at h
  cases hb:(aee env o.op.operands.toList && uO nt o.dst) with
  |false=>rw[hb] at h;exact h.elim
  |true=>
   rw[hb] at h;simp only[abt] at h;have J:uO nt o.dst=true:=by simp only[alg] at hb;exact hb.2
   obtain⟨v,hv,h1,h2⟩:=ak4 N h;have mk:∀w',(∀K':Value->b_,K' v w'->zU P o (ev env) w' K')->Ex P r ops i o env v w':=by
    intro w' hw' n Q a next ha hn
    have hx2:zC P nt o false env w' λenv' w''=>(∀u,env'=env.put o.dst u->u=v\/o.dst=none)/\w''=w':=by
     unfold zC;rw[hb];simp only[abt];refine hw' _ ?_;simp only[split,aaf];refine⟨λu hu=> ?_,by trivial⟩
     cases hd:o.dst with
     |none=>exact .inr rfl
     |some d=>
      left;rw[hd] at hu;simp only[Env.put,amh,alX,afp,amf] at hu;exact hu.symm
    refine EJ hP ho (I w' _ hx2) ha λu w'' hu _=> ?_;obtain⟨hu,rfl⟩:=hu;rcases hu u rfl with rfl|hd
    ·exact hn
    ·rw[hd] at hn ⊢;exact hn
   refine⟨v,J,VX hv,mk w h1,?_⟩;rcases h2 with h2|⟨t,x,d,sh,e1,e2,e3,h2⟩
   ·exact .inl λw'=>mk w' (h2 w')
   ·refine .inr ⟨sh,ev env x,λld=> ?_,λw' hs=>mk w' (h2 w' hs)⟩;simp only[UL,e1,e2,O,abt,e3];have:ev (env.put (some d) v) (.tmp d)=v:=by simp[ev,evO,Env.put,qj]
    rw[this];exact amk ..
 unfold uM at h
 cases hg:o.guard with
 |none=>
  simp only[hg] at h;exact run _ h (by unfold uM;simp only[hg];exact h) (λw' K'' hx=>by unfold uM;simp only[hg];exact hx) (by simp[Za,hg]) h
 |some jw=>
  obtain⟨j,want⟩:=jw;simp only[hg] at h
  cases hs:(ops.toList[j]?).bind (·.dst) with
  |none=>simp only[hs] at h
  |some s=>
   simp only[hs] at h;split at h
   ·rename_i t ht
    cases hb:(t==want) with
    |true=>
     rw[hb] at h;refine run _ h (by unfold uM;simp only[hg,hs,ht,hb];exact h) (λw' K'' hx=>by unfold uM;simp only[hg,hs,ht,hb];exact hx) (by simp only[Za,hg,hs,ht];exact hb) h
    |false=>
     rw[hb] at h;simp only[aaf] at h
     cases hd:uO nt o.dst with
     |false=>rw[hd] at h;exact h.elim
     |true=>
      rw[hd] at h;have mk:∀w',Ex P r ops i o env undef w':=by
       intro w' n Q a next ha hn
       have hy:=Rl (ha _ (DI hg hs)) hs ht;have hw:¬(Region.wanted o (yielded ops a.tmps)=true):=by
        have:t≠want:=by intro e;simp[e] at hb
        simp[Region.wanted,hg,hy,this]
       unfold wpOpIn;simp only[ho];rw[acZ hw];exact⟨λ_ _=>trivial,hn⟩
      exact⟨undef,by first|exact hd|rfl,h,mk w,.inl mk⟩
   ·rename_i vs ht
    cases hd:uO nt o.dst with
    |false=>rw[hd] at h;exact h.elim
    |true=>
     rw[hd] at h;have mk:∀w',Ex P r ops i o env undef w':=by
      intro w' n Q a next ha hn
      have hw:¬(Region.wanted o (yielded ops a.tmps)=true):=by
       have h1':(ops[j]?).bind (·.dst)=some s:=by simpa using hs
       have:=(ha _ (DI hg hs)) _ ht;simp[Region.wanted,hg,yielded,h1',this]
      unfold wpOpIn;simp only[ho];rw[acZ hw];exact⟨λ_ _=>trivial,hn⟩
     exact⟨undef,by first|exact hd|rfl,h,mk w,.inl mk⟩
   ·exact h.elim
end Gp
end
section
namespace Gp
open Go
def YG (listed:Array Bool) (i:Nat):Prop:=listed.getD i false=true
structure Sim (P:Program) (r:Option Nat) (nt:Nat) (dfr:List Deferred) (ws:List Nat) (a0:Act) (ops:Array Oper)
  (D:Nat->Prop) (p:List Nat) (ld:List (Nat×Shape×Value×Value)) (V:Nat->Value) (E:Nat->Env) (env:Env) (a:Act) (w:θ):Prop where
 sub:∀i,D i->i∈p
 lt:∀i∈p,i<ops.size
 closedP:∀i j,i∈p->Dir ops j i->j∈p
 closedD:∀i j,D i->Dir ops j i->D j
 pend:∀i∈p,¬D i->∀o,ops[i]? =some o->B_ P o=false/\uO nt o.dst=true/\Ex P r ops i o (E i) (V i) w/\
  ((∀w',Ex P r ops i o (E i) (V i) w')\/∃sh av,(i,sh,av,V i)∈ld/\∀w',Ho sh av (V i) w' True->Ex P r ops i o (E i) (V i) w')
 look:∀i∈p,¬D i->∀o,ops[i]? =some o->∀s∈o.looksAt ops,(∀(j:Nat) (oj:Oper),ops[j]? =some oj->oj.dst=some s->Pre ops j i->D j)->∀u,(E i).get s=some u->a.tmps[s]? =some u
 src:∀i∈p,¬D i->∀(j:Nat) (oj:Oper) (s:Nat),Pre ops j i->ops[j]? =some oj->oj.dst=some s->(E i).get s=some (V j)
 cur:∀s u,(∀(j:Nat) (oj:Oper),j∈p->¬D j->ops[j]? =some oj->oj.dst≠some s)->env.get s=some u->a.tmps[s]? =some u
 val:∀(j:Nat) (oj:Oper) (s:Nat),j∈p->ops[j]? =some oj->oj.dst=some s->env.get s=some (V j)
 size:a.tmps.size=nt
 defers:a.defers=dfr
 same:∀s,s∉ws->a.tmps[s]? =a0.tmps[s]?
theorem DC (env:Env) (d:Option Nat) (v:Value) (s:Nat):(env.put d v).get s=if d=some s then some v else env.get s:=by
 cases d with
 |none=>rfl
 |some d=>simp only[Env.put,qj,aho]
section
variable {P:Program} {r:Option Nat} {nt:Nat} {dfr:List Deferred} {ws:List Nat} {a0:Act} {ops:Array Oper}
theorem Sim.more {D:Nat->Prop} {p:List Nat} {ld:List (Nat×Shape×Value×Value)} {V:Nat->Value} {E:Nat->Env} {env:Env} {a:Act} {w:θ} (hR:ROk ops)
  (hs:Sim P r nt dfr ws a0 ops D p ld V E env a w) {i:Nat} {o:Oper} {v:Value} (ho:ops[i]? =some o) (hi:i∉p) (hne:B_ P o=false) (U:∀j,Dir ops j i->j∈p)
  (hd:uO nt o.dst=true) (hex:Ex P r ops i o env v w) {ld':List (Nat×Shape×Value×Value)} (hld:∀x∈ld,x∈ld')
  (hag:(∀w',Ex P r ops i o env v w')\/∃sh av,(i,sh,av,v)∈ld'/\∀w',Ho sh av v w' True->Ex P r ops i o env v w'):
  Sim P r nt dfr ws a0 ops D (i::p) ld' (λk=>if k=i then v else V k) (λk=>if k=i then env else E k) (env.put o.dst v) a w:=by
 have hD:=λh=>hi (hs.sub i h);have aa:∀j,Pre ops j i->j∈p:=λj hj=>Bf hs.closedP U hj;have hself:=λh=>hi (aa i h);refine⟨λj hj=>alU _ (hs.sub j hj),?_,?_,hs.closedD,?_,?_,?_,?_,?_,hs.size,hs.defers,hs.same⟩
 ·intro j hj
  cases hj with
  |head=>grind
  |tail _ hj=>exact hs.lt j hj
 ·intro j k hj hk
  cases hj with
  |head=>simp_all
  |tail _ hj=>exact alU _ (hs.closedP j k hj hk)
 ·intro j hj N oj I;by_cases e:j=i
  ·simp_all
  ·simp only[acZ e];have hj':j∈p:=by simp_all
   obtain⟨h1,h2,h3,h4⟩:=hs.pend j hj' N oj I
   grind
 ·intro j hj N oj I s ab hw u hu;by_cases e:j=i
  ·subst e;rw[ho] at I
   cases I
   simp only[ajn] at hu;refine hs.cur s u (λk ok J hkd O R=> ?_) hu;rcases hR.apart j k o ok s ho O R ab with h|h|h
   ·simp_all
   ·simp_all
   ·exact hi (yN hs.closedP h J)
  ·simp only[acZ e] at hu;have hj':j∈p:=by simp_all
   exact hs.look j hj' N oj I s ab hw u hu
 ·intro j hj N k ok s W O R;by_cases e:j=i
  ·subst e;simp only[ajn];have J:=aa k W;have Y:k≠j:=λh=>hi (h ▸ J);rw[acZ Y];exact hs.val k ok s J O R
  ·simp only[acZ e];have hj':j∈p:=by simp_all
   have J:=yN hs.closedP W hj';have Y:k≠i:=λh=>hi (h ▸ J);rw[acZ Y];exact hs.src j hj' N k ok s W O R
 ·intro s u hn hu;have Z:=hn i o (amk ..) hD ho;rw[DC,acZ Z] at hu;exact hs.cur s u (λj oj hj=>hn j oj (alU _ hj)) hu
 ·intro j oj s hj I ac;rw[DC];by_cases e:j=i
  ·simp_all
  ·have hj':j∈p:=by simp_all
   have Z:=λh=>e (hR.dst j i oj o s I ho ac h);rw[acZ Z,acZ e];exact hs.val j oj s hj' I ac
theorem Sim.take {D:Nat->Prop} {p:List Nat} {ld:List (Nat×Shape×Value×Value)} {V:Nat->Value} {E:Nat->Env} {env:Env} {a:Act} {w:θ} (hR:ROk ops)
  (hs:Sim P r nt dfr ws a0 ops D p ld V E env a w) {i:Nat} {o:Oper} (ho:ops[i]? =some o) (hi:i∈p) (aa:¬D i) (J:∀j,Dir ops j i->D j) (ab:∀d∈Ox ops.toList,d∈ws)
  {D':Nat->Prop} (hD':∀k,D' k↔D k\/k=i):Sim P r nt dfr ws a0 ops D' p ld V E env (a.put o.dst (V i)) w:=by
 have hpp:∀j,Pre ops j i->D j:=λj hj=>Bf hs.closedD J hj;obtain⟨_,hd,_⟩:=hs.pend i hi aa o ho;have N:=λd h=>ab d (amS.2 ⟨o,als (by simpa using ho),h⟩);have I:∀k,¬D' k->¬D k/\k≠i:=λk h=>⟨λx=>h ((hD' k).2 (.inl x)),λx=>h ((hD' k).2 (.inr x))⟩;have U:∀d,o.dst=some d->d<a.tmps.size:=λd h=>by
  rw[h] at hd;rw[hs.size];simpa [uO] using hd
 refine⟨?_,hs.lt,hs.closedP,?_,?_,?_,?_,?_,hs.val,by rw[EF];exact hs.size,by rw[JJ];exact hs.defers,?_⟩
 ·intro j hj;rcases(hD' j).1 hj with h|rfl
  ·exact hs.sub j h
  ·exact hi
 ·intro j k hj hk;rcases(hD' j).1 hj with h|rfl
  ·exact(hD' k).2 (.inl (hs.closedD j k h hk))
  ·exact(hD' k).2 (.inl (J k hk))
 ·intro j hj hn;exact hs.pend j hj (I j hn).1
 ·intro j hj hn oj O s W hw u hu;obtain⟨hn1,hn2⟩:=I j hn;rw[DW];by_cases e:o.dst=some s
  ·rw[adZ ⟨e,U s e⟩];rcases hR.apart j i oj o s O ho e W with h|h|h
   ·trivial
   ·rw[hs.src j hj hn1 i o s h ho e] at hu;exact hu
   simp_all
  ·rw[acZ (λx=>e x.1)];refine hs.look j hj hn1 oj O s W (λk ok R Y ac=> ?_) u hu;rcases(hD' k).1 (hw k ok R Y ac) with h|rfl
   ·exact h
   ·rw[ho] at R;cases R;exact absurd Y e
 ·intro j hj hn;exact hs.src j hj (I j hn).1
 ·intro s u hn hu;rw[DW];by_cases e:o.dst=some s
  ·rw[adZ ⟨e,U s e⟩,<- hu];exact(hs.val i o s hi ho e).symm
  ·rw[acZ (λx=>e x.1)];refine hs.cur s u (λj oj hj hjd O=> ?_) hu
   grind
 ·intro s Z;rw[DW,acZ (λx=>Z (N s x.1))];exact hs.same s Z
theorem Sim.eff {D:Nat->Prop} {p:List Nat} {ld:List (Nat×Shape×Value×Value)} {V:Nat->Value} {E:Nat->Env} {env:Env} {a:Act} {w w':θ} (hR:ROk ops)
  (hs:Sim P r nt dfr ws a0 ops D p ld V E env a w) {i:Nat} {o:Oper} {v:Value} (ho:ops[i]? =some o) (hi:i∉p) (J:∀j,Dir ops j i->D j) (hd:uO nt o.dst=true)
  (hst:∀j sh av v,(j,sh,av,v)∈ld->¬D j->Ho sh av v w' True) (ac:∀d∈Ox ops.toList,d∈ws)
  {D':Nat->Prop} (hD':∀k,D' k↔D k\/k=i):
  Sim P r nt dfr ws a0 ops D' (i::p) ld (λk=>if k=i then v else V k) E (env.put o.dst v) (a.put o.dst v) w':=by
 have hpp:∀j,Pre ops j i->D j:=λj hj=>Bf hs.closedD J hj;have Y:=λd h=>ac d (amS.2 ⟨o,als (by simpa using ho),h⟩);have N:∀k,¬D' k->¬D k/\k≠i:=λk h=>⟨λx=>h ((hD' k).2 (.inl x)),λx=>h ((hD' k).2 (.inr x))⟩;have hlt:∀d,o.dst=some d->d<a.tmps.size:=λd h=>by
  rw[h] at hd;rw[hs.size];simpa [uO] using hd
 have R:∀j,j∈i::p->j≠i->j∈p:=λj hj hne=>by simp_all
 refine⟨?_,?_,?_,?_,?_,?_,?_,?_,?_,by rw[EF];exact hs.size,by rw[JJ];exact hs.defers,?_⟩
 ·intro j hj;rcases(hD' j).1 hj with h|rfl
  ·exact alU _ (hs.sub j h)
  simp
 ·intro j hj
  cases hj with
  |head=>grind
  |tail _ hj=>exact hs.lt j hj
 ·intro j k hj hk
  cases hj with
  |head=>exact alU _ (hs.sub k (J k hk))
  |tail _ hj=>exact alU _ (hs.closedP j k hj hk)
 ·intro j k hj hk;rcases(hD' j).1 hj with h|rfl
  ·exact(hD' k).2 (.inl (hs.closedD j k h hk))
  ·exact(hD' k).2 (.inl (J k hk))
 ·intro j hj hn oj I;obtain⟨hn1,hn2⟩:=N j hn;obtain⟨h1,h2,h3,h4⟩:=hs.pend j (R j hj hn2) hn1 oj I
  grind
 ·intro j hj hn oj I s Z hw u hu;obtain⟨hn1,hn2⟩:=N j hn;have hj':=R j hj hn2;rw[DW];by_cases e:o.dst=some s
  ·rcases hR.apart j i oj o s I ho e Z with h|h|h
   ·trivial
   ·exact absurd (yN hs.closedP h hj') hi
   simp_all
  ·rw[acZ (λx=>e x.1)];refine hs.look j hj' hn1 oj I s Z (λk ok O U W=> ?_) u hu;rcases(hD' k).1 (hw k ok O U W) with h|rfl
   ·exact h
   ·rw[ho] at O;cases O;exact absurd U e
 ·intro j hj hn k ok s W O U;obtain⟨hn1,hn2⟩:=N j hn;have hj':=R j hj hn2;have ae:=yN hs.closedP W hj';have af:k≠i:=λh=>hi (h ▸ ae);rw[acZ af];exact hs.src j hj' hn1 k ok s W O U
 ·intro s u hn hu;rw[DW];rw[DC] at hu;by_cases e:o.dst=some s
  ·simp_all
  ·rw[acZ (λx=>e x.1)];rw[acZ e] at hu;refine hs.cur s u (λj oj hj hjd I=> ?_) hu
   grind
 ·intro j oj s hj I aa;rw[DC];by_cases e:j=i
  ·simp_all
  ·have ag:=λh=>e (hR.dst j i oj o s I ho aa h);rw[acZ ag,acZ e];exact hs.val j oj s (R j hj e) I aa
 ·intro s ab;rw[DW,acZ (λx=>ab (Y s x.1))];exact hs.same s ab
theorem Q9 {done:List Nat} {i:Nat} {o:Oper} (ho:ops[i]? =some o):xE done o=true↔∀j,Dir ops j i->j∈done:=by
 simp only[xE,al5,amQ,al_];constructor
 ·rintro h j ⟨o',ho',e,he,hb,rfl⟩;rw[ho] at ho'
  cases ho'
  rcases h e he with h1|h1
  ·simp_all
  ·exact tZ.1 h1
 ·intro h e he
  cases hb:Region.binds .any e with
  |false=>simp
  |true=>exact .inr (tZ.2 (h e.on ⟨o,ho,e,he,hb,rfl⟩))
theorem normalize (hP:XR P) (hR:ROk ops) {pbs:List Nat} {K:Env->b_} {D:Nat->Prop} {a:Act} {w:θ}:
  ∀(fuel:Nat) (p:List Nat) (ld:List (Nat×Shape×Value×Value)) (V:Nat->Value) (E:Nat->Env) (env:Env),
   Sim P r nt dfr ws a0 ops D p ld V E env a w->zB P nt ops.toList pbs fuel p ld env w K->
   ∃fuel' p' ld' V' E' env',Sim P r nt dfr ws a0 ops D p' ld' V' E' env' a w/\zB P nt ops.toList pbs (fuel'+1) p' ld' env' w K/\zF P p' (enumFrom 0 ops.toList)=none:=by
 intro fuel
 induction fuel with
 |zero=>intro p ld V E env _ h;exact h.elim
 |succ fuel ih=>
  intro p ld V E env hs h
  cases hf:zF P p (enumFrom 0 ops.toList) with
  |none=>grind
  |some x=>
   obtain⟨i,o⟩:=x;simp only[zB,hf] at h;obtain⟨hm,hi,u,I⟩:=Y7 _ hf;have ho:=yH.1 hm;obtain⟨v,hd,hK,hex,hag⟩:=aif hP r ho u h;refine ih _ _ _ _ _ (hs.more hR ho hi u ((Q9 ho).1 I) hd hex (λx hx=> ?_) ?_) hK
   ·unfold UL
    grind
   grind
end
end Gp
end
section
namespace Gp
open Go
section
variable {P:Program} {r:Option Nat} {nt:Nat} {dfr:List Deferred} {ws:List Nat} {a0:Act} {ops:Array Oper}
def nF:List Bool->Nat
 |[]=>0
 |b::l=>(if b then 0 else 1)+nF l
theorem aj2:∀(l:List Bool) (i:Nat),l[i]? =some false->nF (l.set i true)+1=nF l:=by
 intro l
 induction l with
 |nil=>intro i h;simp at h
 |cons b l ih=>
  intro i h
  cases i with
  |zero=>simp at h;subst h;simp[nF];omega
  |succ i=>
   have:=ih i (by simpa using h);simp only[ahm,nF];omega
theorem aie:∀(l:List Bool),nF l=0->∀i,i<l.length->l[i]? =some true:=by
 intro l
 induction l with
 |nil=>intro _ i h;simp at h
 |cons b l ih=>
  intro h i hi;simp only[nF] at h
  cases i with
  |zero=>cases b<;>simp at h ⊢
  |succ i=>simpa using ih (by omega) i (by simpa using hi)
theorem aia {listed:Array Bool} {i:Nat} (hi:i<listed.size) (k:Nat):YG (listed.setIfInBounds i true) k↔YG listed k\/k=i:=by
 unfold YG;simp only[al9,ama];by_cases h:i=k
 ·subst h;simp[hi]
 ·simp[h,air h]
theorem QD {listed:Array Bool} (hsz:listed.size=ops.size) {i:Nat}:i∈Region.ready .any ops listed↔∃o,ops[i]? =some o/\¬YG listed i/\∀j,Dir ops j i->YG listed j:=by
 unfold Region.ready;simp only[al1,List.mem_range,alg];constructor
 ·rintro⟨h1,h2,h3⟩;have ho:ops[i]? =some ops[i]:=amq h1;refine⟨ops[i],ho,?_,?_⟩
  ·have:i<listed.size:=by omega
   unfold YG;simp only[al9,amq this,alO] at h2 ⊢;simpa using h2
  ·rintro j ⟨o',ho',e,he,hb,rfl⟩;rw[ho] at ho'
   cases ho'
   simp only[ho,ahF,alO,Array.all_eq_true_iff_forall_mem] at h3;have:=h3 e (by simpa using he);rw[hb] at this;simpa [YG] using this
 ·rintro⟨o,ho,h1,h2⟩;have hi:=(akE.1 ho).1;refine⟨hi,?_,?_⟩
  ·have:i<listed.size:=by omega
   unfold YG at h1;simp only[al9,amq this,alO] at h1 ⊢;simpa using h1
  ·simp only[ho,ahF,alO,Array.all_eq_true_iff_forall_mem];intro e he
   cases hb:Region.binds .any e with
   |false=>rfl
   |true=>simpa [YG] using h2 e.on ⟨o,ho,e,by simpa using he,hb,rfl⟩
theorem Rq (hR:ROk ops) {listed:Array Bool} (u:listed.size=ops.size) (h:Region.ready .any ops listed=[]):∀i,i<ops.size->YG listed i:=by
 intro i
 induction i using Nat.strongRecOn with
 |_ i ih=>
  intro hi;by_cases hl:YG listed i
  ·exact hl
  ·have:i∈Region.ready .any ops listed:=(QD u).2 ⟨ops[i],amq hi,hl,λj hj=>by
    have:=hR.back i j hj;exact ih j this (by omega)⟩
   rw[h] at this
   cases this
theorem finish {K:Env->b_} {Q:Exit->Act->b_} {listed:Array Bool} {p:List Nat} {ld:List (Nat×Shape×Value×Value)} {V:Nat->Value} {E:Nat->Env} {env:Env} {a:Act} {w:θ} {pbs:List Nat} {fuel:Nat}
  (I:∀i,i<ops.size->YG listed i) (hs:Sim P r nt dfr ws a0 ops (YG listed) p ld V E env a w) (h:zB P nt ops.toList pbs (fuel+1) p ld env w K)
  (hf:zF P p (enumFrom 0 ops.toList)=none) (hQ:∀env a w,JV nt dfr ws a0 env a->K env w->Q .normal a w):Q .normal a w:=by
 have hr:G7 P p (enumFrom 0 ops.toList)=[]:=by
  cases hx:G7 P p (enumFrom 0 ops.toList) with
  |nil=>rfl
  |cons x l=>
   obtain⟨i,o⟩:=x;obtain⟨h1,h2,_⟩:=(VJ (P:=P) (done:=p) (i:=i) (o:=o) _).1 (by rw[hx];simp);exact absurd (hs.sub i (I i (akE.1 (yH.1 h1)).1)) h2
 simp only[zB,hf,hr] at h;have hK:K env w:=by
  cases hb:Nat.beq p.length ops.toList.length with
  |false=>rw[hb] at h;exact h.elim
  |true=>rw[hb] at h;exact h
 refine hQ env a w ⟨λs u hu=>hs.cur s u (λj oj hj J _=>absurd (I j (hs.lt j hj)) J) hu,hs.size,hs.defers,hs.same⟩ hK
theorem abV (hP:XR P) (hR:ROk ops) {n:Nat} {K:Env->b_} {Q:Exit->Act->b_} (ae:∀d∈Ox ops.toList,d∈ws)
  (hQ:∀env a w,JV nt dfr ws a0 env a->K env w->Q .normal a w):
  ∀(m:Nat) (listed:Array Bool) (a:Act) (w:θ) (p:List Nat) (ld:List (Nat×Shape×Value×Value)) (V:Nat->Value) (E:Nat->Env) (env:Env) (fuel:Nat),
   listed.size=ops.size->nF listed.toList<=m->Sim P r nt dfr ws a0 ops (YG listed) p ld V E env a w->
   zB P nt ops.toList (AX ops.toList []) fuel p ld env w K->wpAnyIn (Fr r) n P .any ops Q m listed a w:=by
 intro m
 induction m with
 |zero=>
  intro listed a w p ld V E env fuel O hm hs h;have W:∀i,i<ops.size->YG listed i:=by
   intro i hi;have:=aie listed.toList (by omega) i (by simpa [O] using hi);have h2:listed[i]? =some true:=by simpa using this
   simp[YG,h2]
  obtain⟨fuel',p',ld',V',E',env',hs',h',hf⟩:=normalize hP hR fuel p ld V E env hs h;refine⟨?_,finish W hs' h' hf hQ⟩
  cases hx:Region.ready .any ops listed with
  |nil=>rfl
  |cons i l=>
   obtain⟨o,ho,hn,_⟩:=(QD O (i:=i)).1 (by rw[hx];simp);exact absurd (W i (akE.1 ho).1) hn
 |succ m ih=>
  intro listed a w p ld V E env fuel O hm hs h;obtain⟨fuel',p',ld',V',E',env',hs',h',hf⟩:=normalize hP hR fuel p ld V E env hs h;refine⟨λhr=>finish (Rq hR O hr) hs' h' hf hQ,λi hi=> ?_⟩;obtain⟨o,ho,U,I⟩:=(QD O).1 hi;have aa:i<listed.size:=by rw[O];exact(akE.1 ho).1
  have hD':=aia aa;have Y:(listed.setIfInBounds i true).size=ops.size:=by simpa using O
  have hm':nF (listed.setIfInBounds i true).toList<=m:=by
   have R:listed.toList[i]? =some false:=by
    have:listed[i]? =some listed[i]:=amq aa;unfold YG at U;simp only[al9,this,alO] at U;have h2:listed[i]=false:=by simpa using U
    simp[aa,h2]
   have:=aj2 listed.toList i R;rw[Array.toList_setIfInBounds];omega
  by_cases N:i∈p'
  ·obtain⟨_,_,hex,_⟩:=hs'.pend i N U o ho;refine hex n Q a _ (λs ab u hu=>hs'.look i N U o ho s ab (λj oj _ _ ag=>Bf hs'.closedD I ag) u hu) ?_;exact ih _ _ _ _ _ _ _ _ _ Y hm' (hs'.take hR ho N U I ae hD') h'
  ·have af:xE p' o=true:=(Q9 ho).2 λj hj=>hs'.sub j (I j hj);have ac:=Y6 _ hf i o (yH.2 ho) N af;have J:=(VJ (P:=P) (done:=p') (i:=i) (o:=o) (enumFrom 0 ops.toList)).2 ⟨yH.2 ho,N,ac,af⟩;simp only[zB,hf] at h'
   cases hx:G7 P p' (enumFrom 0 ops.toList) with
   |nil=>rw[hx] at J;cases J
   |cons e es=>
    rw[hx] at J h';have Z:=ad1 _ h' (i,o) J;refine EJ hP ho Z (λs ab u hu=>hs'.cur s u (λj oj hj ah ai aj=> ?_) hu) λv w' hv hd=> ?_
    ·rcases hR.apart i j o oj s ho ai aj ab with e|e|e
     ·exact N (e ▸ hj)
     ·exact ah (Bf hs'.closedD I e)
     ·exact N (yN (D:=(·∈p')) hs'.closedP e hj)
    ·obtain⟨hd1,hd2⟩:=acP _ hv;refine ih _ _ _ _ _ _ _ _ _ Y hm' (hs'.eff hR ho N I hd (λj sh av v hj ak=> ?_) ae hD') hd1;rcases hd2 j sh av v hj with hb|hb
     ·exact absurd (Bf hs'.closedD I (VI hb)) ak
     ·exact hb
theorem Uj (hP:XR P) {id n:Nat} {K:Env->b_} {Q:Exit->Act->b_} {env:Env} {a:Act} {w:θ} (J:∀d∈Ox ops.toList,d∈ws)
  (hQ:∀env a w,JV nt dfr ws a0 env a->K env w->Q .normal a w) (ha:JV nt dfr ws a0 env a) (h:Ui P nt ops.toList env w K):(Code.region id ops true).wpIn (Fr r) n P Q a w:=by
 unfold Ui at h
 cases hb:Po ops.toList (AX ops.toList []) with
 |false=>rw[hb] at h;exact h.elim
 |true=>
  rw[hb] at h;have hR:=XK hb;refine wpIn_region_any hP.mixed ?_;have I:∀i,¬YG (Array.replicate ops.size false) i:=by
   intro i hi;unfold YG at hi;simp only[al9,Array.getElem?_replicate] at hi;by_cases h2:i<ops.size
   ·simp[h2] at hi
   ·simp[h2] at hi
  refine abV (V:=λ_=>undef) (E:=λ_=>[]) hP hR J hQ ops.size (Array.replicate ops.size false) a w.drew [] [] env _ (by simp) ?_ ?_ h
  ·have:∀k,nF (List.replicate k false)=k:=by
    intro k
    induction k with
    |zero=>rfl
    |succ k ih=>simp[al6,nF,ih];omega
   simp[this]
  ·exact⟨λi hi=>absurd hi (I i),λi hi=>by simp at hi,λi j hi=>by simp at hi,λi j hi=>absurd hi (I i),λi hi=>by simp at hi,λi hi=>by simp at hi,
    λi hi=>by simp at hi,λs u _ hu=>ha.agr s u hu,λj oj s hj=>by simp at hj,ha.size,ha.defers,ha.same⟩
end
end Gp
end
