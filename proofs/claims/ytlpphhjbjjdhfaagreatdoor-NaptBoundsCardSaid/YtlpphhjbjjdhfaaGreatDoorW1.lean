import Derived.Test.YtlpphhjbjjdhfaaGreatDoorW0
import Derived.Lib.ConvBytes
open Nat (beq_eq)
section
namespace Gp
open Go
section
variable {P:Program}
theorem adI:∀(ks:List Kind) (φ:List Value->Prop),ai9 ks φ->∃vs,φ vs:=by
 intro ks
 induction ks with
 |nil=>exact λφ h=>⟨_,h⟩
 |cons k ks ih=>rintro φ ⟨x,h⟩;grind
theorem Nw (s:Shape) (φ:Value->Prop) (h:s.ex φ):∃v,φ v:=by
 cases s with
 |one k=>obtain⟨x,h⟩:=h;grind
 |agg ks=>obtain⟨vs,h⟩:=adI ks _ h;grind
theorem Ec:∀(sh:List Shape) (φ:List Value->Prop),Iz sh φ->∃vs,φ vs:=by
 intro sh
 induction sh with
 |nil=>exact λφ h=>⟨_,h⟩
 |cons s sh ih=>intro φ h;obtain⟨v,h⟩:=Nw s _ h;grind
theorem Am (hP:Xo P) {f:FuncId} (hb:oI P f=true) (args:Array Value) (w:θ):(callFunc f args).run P w= .ok (.enter f args) w:=by
 unfold oI at hb
 cases hf:P.funcs[f]? with
 |none=>simp_all
 |some fn=>
  simp only[hf] at hb;have hn:=hP.enter f fn hf hb;have hn':¬(fn.name="runtime.NumGoroutine"):=by simp_all
  have hb':¬(fn.body=none):=by grind
  simp[callFunc,hf,hn',hb']
theorem JJ {sh:List Shape} {f:FuncId} {args:List Value} {w:θ} {K:Value->b_} (h:Hz P sh f args w K):
  Calls P f ⟨args⟩ w λe w'=>∃v,e= .returned v/\K v w':=by
 refine Calls.mono h λe w' hx=> ?_;obtain⟨vs,he,hk⟩:=Ec _ _ hx
 simp_all
theorem adw (hP:Xo P) {sh:List Shape} {v:Value} {args:List Value} {w:θ} {K:Value->b_} (h:jy P sh v args w K):
  Ran P K ((do let d<- Deferred.ofValue v ⟨args⟩;invoke d.target d.args:Sem Next).run P w):=by
 unfold jy at h;split at h
 ·rename_i f first cap
  cases hb:oI P f with
  |false=>rw[hb] at h;exact h.elim
  |true=>
   rw[hb] at h;have h:=JJ h;have e:(⟨first.toList++(args++cap.toList)⟩:Array Value)=first++(⟨args⟩:Array Value)++cap:=by simp
   rw[e] at h;simpa [Deferred.ofValue,invoke,Am hP hb,Ran] using h
 ·rename_i l first cap
  obtain⟨fn,tmps,assign,body,hy,hr⟩:=h;have e:(⟨first.toList++args⟩:Array Value)=first++(⟨args⟩:Array Value):=by simp
  rw[e] at hy;have:Ran P K (.ok (.round l fn tmps assign body) w):=RoundIn.mono hr λe w' ⟨b,hb,hk⟩=>⟨_,hb,hk⟩;simpa [Deferred.ofValue,invoke,hy] using this
 ·exact h.elim
theorem abN {t:TypeId} {name:String} {f:FuncId} {d:TypeDesc} {v:Value} {w:θ} (n:Nat) (ht:P.underlying t=some d) (hd:YO d=false) (h:Y0 P t name=some f):
  (Go.method (n+1) t v name).run P w= .ok (f,v) w:=by
 unfold Y0 at h;split at h
 ·rename_i i hi;split at h
  ·rename_i m hm;split at h
   ·rename_i f' hp hf;obtain rfl:=alq h;unfold Go.method
    cases d<;>first|(cases hd;done)|simp[run_typeInfo hi,hm,hp,hf,follow,receiverAt,run_underlying ht,Place.get]
   ·cases h
  ·cases h
 ·cases h
theorem aht (hP:Xo P) {sh:List Shape} {x:Value} {name:String} {args:List Value} {w:θ} {K:Value->b_} (h:aiM P sh x name args w K):
  Ran P K ((do let d<- (pure {target:= .fn (.method name) #[],args:= #[x]++(⟨args⟩:Array Value)}:Sem Deferred);invoke d.target d.args:Sem Next).run P w):=by
 unfold aiM at h;split at h
 ·rename_i t v;split at h
  ·rename_i d f ht hm
   cases hd:YO d with
   |true=>rw[hd] at h;exact h.elim
   |false=>
    cases hb:oI P f with
    |false=>rw[hd,hb] at h;exact h.elim
    |true=>
     rw[hd,hb] at h;have h:=JJ h;have e1:((#[Value.iface t v]++(⟨args⟩:Array Value)).extract 1 (#[Value.iface t v]++(⟨args⟩:Array Value)).size)=⟨args⟩:=by simp
     have e2:(⟨v::args⟩:Array Value)= #[v]++⟨args⟩:=by simp
     rw[e2] at h;have hm':∀k,(Go.method (k+Made.depth) t v name).run P w= .ok (f,v) w:=λk=>abN (k+(Made.depth - 1)) ht hd hm;simpa [invoke,callMethod,e1,hm',Am hP hb,Ran] using h
  ·exact h.elim
 ·exact h.elim
theorem agZ {z:Value} {t xt:TypeId} {d:TypeDesc} {x:Value} {ok:Bool} {K:Value->Prop} {w:θ} (hd:∀m,d≠.interface m) (ht:P.underlying t=some d) (hz:Es P t=some z) (h:AsP z t x ok K):
  ∃v,(Instr.typeAssert x xt t ok).run P w= .ok v w/\K v:=by
 have hz':=yw (w:=w) hz;unfold AsP at h;split at h
 ·rename_i t' v
  cases hb:Nat.beq t' t with
  |true=>
   rw[hb] at h;obtain rfl:=alo hb;refine⟨_,?_,h⟩
   cases d<;>first|exact(hd _ rfl).elim|(cases ok<;>simp[Instr.typeAssert,run_underlying ht])
  |false=>
   rw[hb] at h;have hn:¬t'=t:=λe=>by simp_all
   cases ok with
   |false=>exact h.elim
   |true=>
    refine⟨_,?_,h⟩
    cases d<;>first|exact(hd _ rfl).elim|simp[Instr.typeAssert,run_underlying ht,hn,hz']
 ·cases ok with
  |false=>exact h.elim
  |true=>
   refine⟨_,?_,h⟩
   cases d<;>first|exact(hd _ rfl).elim|simp[Instr.typeAssert,run_underlying ht,hz']
 trivial
theorem QB {mx:Bool} {w:θ}:∀(r:List Value) (x:Int) (k:IntKind) (φ:Value->Prop),Gg mx x r k φ->
  ∃v,(r.foldlM (cond mx Builtin.max2 Builtin.min2) (Value.int k x)).run P w= .ok v w/\φ v:=by
 intro r
 induction r with
 |nil=>exact λx k φ h=>⟨_,by simp,h⟩
 |cons y r ih=>
  intro x k φ h
  cases y with
  |int ky y=>
   simp only[Gg] at h;obtain⟨v,hv,hφ⟩:=ih _ _ _ h;refine⟨v,?_,hφ⟩
   cases mx<;>simp only[aaU,aaT] at hv ⊢<;>simp[List.foldlM_cons,Builtin.max2,Builtin.min2,hv]
  |_=>simp[Gg] at h
theorem abD {d:TypeDesc} {t ty:TypeId} {x:Value} {w:θ} {φ:Int->Prop} (ht:P.underlying t=some d) (h:PI d x w φ):
  ∃n,(Builtin.len_ #[t] ty #[x]).run P w= .ok (.int .i64 n) w/\φ n:=by
 unfold PI at h;split at h
 ·exact⟨_,by simp[Builtin.len_,run_underlying ht,goInt],h⟩
 ·exact⟨_,by simp[Builtin.len_,run_underlying ht,goInt],h⟩
 ·exact⟨_,by simp[Builtin.len_,run_underlying ht,goInt],h⟩
 ·unfold S_ at h;split at h
  ·exact⟨_,by simp[Builtin.len_,run_underlying ht,goInt],h⟩
  ·obtain⟨es,clock,hb,h⟩:=h;exact⟨_,by simp[Builtin.len_,run_underlying ht,goInt,getObj,Sem.run,hb],h⟩
 trivial
theorem iC {K:Value->b_} {s:Sem Value} {w w':θ} {v:Value} (hr:s.run P w= .ok v w') (hk:K v w'):
  Ran P K ((do pure (Next.value (<- s)):Sem Next).run P w):=by
 simp only[Sem.run_bind,hr,Result.andThen_ok,Sem.run_pure,Ran];exact hk
theorem Ju {K:Value->b_} {s:Sem Unit} {w w':θ} (hr:s.run P w= .ok () w') (hk:K undef w'):
  Ran P K ((do s;pure Next.skip:Sem Next).run P w):=by
 simp only[Sem.run_bind,hr,Result.andThen_ok,Sem.run_pure,Ran];exact hk
theorem Χ {b:Builtin} {args:List Value} {tl:List TypeId} {ty:TypeId} {consts:Array Bool} {w:θ} {K:Value->b_} (h:qc P b tl args w K):
  Ran P K ((builtin b ⟨tl⟩ ty consts ⟨args⟩).run P w):=by
 unfold qc at h;split at h
 ·split at h
  ·rename_i ht;obtain⟨n,hr,hk⟩:=abD (ty:=ty) ht h;simp[builtin,hr,Ran,hk]
  ·exact h.elim
 ·split at h
  ·rename_i ht;simp[builtin,Builtin.cap_,run_underlying ht,goInt,Ran,h]
  ·exact h.elim
 ·obtain⟨v,hr,hk⟩:=QB (P:=P) (w:=w) _ _ _ _ h;simp only[aaU] at hr;simp[builtin,Builtin.max_,hr,Ran,hk]
 ·obtain⟨v,hr,hk⟩:=QB (P:=P) (w:=w) _ _ _ _ h;simp only[aaT] at hr;simp[builtin,Builtin.min_,hr,Ran,hk]
 ·split at h
  ·rename_i e d ht ht';split at h
   ·rename_i _ b n m hs hb hz;obtain⟨i,hi,rfl⟩:=tZ hs;obtain⟨i',hi',rfl⟩:=yx hb;obtain⟨i'',z,hi'',hz0,rfl⟩:=oq hz;rw[hi] at hi' hi'';cases hi';cases hi'';obtain⟨vs,u,h⟩:=h;obtain⟨s',w',hr,hk⟩:=Xu ht hi hz0 ht' (.inl ⟨_,rfl⟩) (λw=>by rfl) (tK u) (tK (Dk u)) h;show Ran P K ((do pure (Next.value (<- Builtin.append_ #[_,_] ty #[_,_])):Sem Next).run P w)
    exact iC hr hk
   ·rename_i hs hb hz;obtain⟨i,hi,rfl⟩:=tZ hs;obtain⟨i',hi',rfl⟩:=yx hb;obtain⟨i'',z,hi'',hz0,rfl⟩:=oq hz;rw[hi] at hi' hi'';cases hi';cases hi'';have hf:∀(sz:Nat) (s:ByteArray) (w:θ),(Builtin.firstCells sz s.size (.string s)).run P w= .ok ⟨byteCells s⟩ w:=by
     intro sz s w;simp only[Builtin.firstCells,Sem.run_pure,Result.ok.injEq,alO];apply ame.mp;have e:s.extract 0 s.size=s:=ByteArray.extract_zero_size;rw[e,Array.toList_map];rfl
    obtain⟨s',w',hr,hk⟩:=Xu ht hi hz0 ht' (.inr rfl) (λw=>by rfl) (hf _ _ _) (hf _ _ _) h;show Ran P K ((do pure (Next.value (<- Builtin.append_ #[_,_] ty #[_,_])):Sem Next).run P w)
    exact iC hr hk
   ·rename_i hs hb hz;obtain⟨i,hi,rfl⟩:=tZ hs;obtain⟨i',hi',rfl⟩:=yx hb;obtain⟨i'',z,hi'',hz0,rfl⟩:=oq hz;rw[hi] at hi' hi'';cases hi';cases hi''
    cases hb:Nat.beq z.cells.toList.length i.size with
    |false=>rw[hb] at h;exact h.elim
    |true=>
     rw[hb] at h;simp only[aaU] at h;obtain⟨s',w',hr,hk⟩:=Λ ht hi hz0 (alo hb) ht' h;show Ran P K ((do pure (Next.value (<- Builtin.append_ #[_,_] ty #[_,_])):Sem Next).run P w)
     exact iC hr hk
   ·exact h.elim
  ·exact h.elim
 ·split at h
  ·rename_i e ht;split at h
   ·rename_i hs;obtain⟨i,hi,rfl⟩:=tZ hs;obtain⟨n,w',hr,hk⟩:=abj ht hi h;show Ran P K ((do pure (Next.value (<- Builtin.copy_ #[_,_] ty #[_,_])):Sem Next).run P w)
    exact iC hr hk
   ·exact h.elim
  ·exact h.elim
 ·split at h
  ·rename_i e ht;split at h
   ·rename_i hs hz;obtain⟨i,hi,rfl⟩:=tZ hs;obtain⟨i'',z,hi'',hz0,rfl⟩:=oq hz;rw[hi] at hi'';cases hi''
    cases hb:Nat.beq z.cells.toList.length i.size with
    |false=>rw[hb] at h;exact h.elim
    |true=>
     rw[hb] at h;simp only[aaU] at h;obtain⟨w',hr,hk⟩:=ϋ ht hi hz0 (alo hb) h;show Ran P K ((do pure (Next.value (<- Builtin.clear_ #[_] ty #[_])):Sem Next).run P w)
     exact iC hr hk
   ·exact h.elim
  ·exact h.elim
 ·split at h
  ·rename_i kt et ht;obtain⟨w',hr,hk⟩:=aaW ht h;show Ran P K ((do pure (Next.value (<- Builtin.delete_ ⟨[_,_]⟩ ty ⟨[_,_]⟩)):Sem Next).run P w)
   exact iC hr hk
  ·exact h.elim
 ·exact h.elim
theorem JW (ρ:Operand->Value) (ps:Array (Nat×Operand)):(ps.map λ(i,x)=>(i,ρ x)).toList=ps.toList.map λp=>(p.1,ρ p.2):=by
 simp
theorem YF (w:θ) (cs:Array Value) (e:TypeId) (n:Nat):(w.alloc (.cells cs e)).freeze ⟨w.heap.size,n,none⟩ 1=w.alloc (.cells cs e (n,n+1)):=by
 unfold World.freeze World.alloc;simp only[Nat.succ_ne_zero,ajY];congr 1
 grind
theorem VR (w:θ) (e:TypeId) (s:ByteArray):
  Lib.bytesWorld w e s=w.drew.alloc (.cells ⟨byteCells s++gX [.int .u8 0] (grownCap w s.size 0 e - s.size)⟩ e (grownCap w s.size 0 e,grownCap w s.size 0 e+1)):=by
 have h:∀n,gX [.int .u8 0] n=List.replicate n (.int .u8 0):=by
  intro n
  induction n with
  |zero=>rfl
  |succ n ih=>simp[gX,ih,alB]
 have hc:Lib.bytesCells w e s=⟨byteCells s++gX [.int .u8 0] (grownCap w s.size 0 e - s.size)⟩:=by
  apply ame.mp;simp[Lib.bytesCells,byteCells,h]
 have hn:(Lib.bytesCells w e s).size=grownCap w s.size 0 e:=by
  have:=grownCap_ge w s.size 0 e;have h2:s.data.size=s.size:=rfl;simp[Lib.bytesCells,h2];omega
 unfold Lib.bytesWorld;rw[hn,<- hc];exact YF w.drew _ e _
theorem aag (hP:Xo P) {o:Oper} {ρ:Operand->Value} {w:θ} {K:Value->b_} (hρ:∀f,ρ (.func f)= .func (.func f) #[] #[]) (h:zC P o ρ w K):Ran P K ((execOp ρ o).run P w):=by
 obtain⟨dst,op,type,pos,after,guard⟩:=o
 cases op<;>simp only[zC] at h<;>simp only[execOp]
 case move x=>exact h
 case assign x=>exact h
 case pick c a b=>
  split at h
  ·rename_i t hc
   cases t<;>simp only[aaU,aaT] at h<;>simp[asBool,hc,Ran,h]
  ·exact h.elim
 case alloc e=>
  split at h
  ·rename_i z hz;obtain⟨v,hr,hv⟩:=xg (w:=w) hz;refine iC ?_ h;simp[Instr.alloc,hr,newVar,newRow,hv]
  ·exact h.elim
 case box e x=>
  split at h
  ·refine iC ?_ h.2;simp[Instr.box,newVar,newRow,QD h.1]
  ·split at h
   ·rename_i cs hc;refine iC ?_ h;simp[Instr.box,newVar,newRow,Value.cells,hc]
   ·exact h.elim
  ·exact h.elim
 case build t ps=>
  split at h
  ·rename_i z fs hz ht;obtain⟨v,hr,hv⟩:=xg (w:=w) hz;split at h
   ·rename_i pl aa;split at h
    ·rename_i cs hf;refine iC ?_ h;have hp:=ZA (w:=w) _ _ aa;have hm:(fs.mapM λ(f:Field)=>(do pure (f.offset,<- Go.sizeOf f.type):Sem (Nat×Nat))).run P w= .ok ⟨pl⟩ w:=by
      rw[Array.mapM_eq_mapM_toList,Sem.run_map,hp];rfl
     have I:=MI _ (λi=>(⟨pl⟩:Array (Nat×Nat))[i]?) (λi x hx=>by simp_all) _ _ _ hf;simp only[Instr.build,Sem.run_bind,hr,Result.andThen_ok,run_underlying ht,hm,hv,JW]
     simp_all
    ·exact h.elim
   ·exact h.elim
  ·rename_i z n e hz ht;obtain⟨v,hr,hv⟩:=xg (w:=w) hz;split at h
   ·rename_i size hs;split at h
    ·rename_i cs hf;refine iC ?_ h;have I:=MI _ (λi=>some (i * size,size)) (λi x hx=>hx) _ _ _ hf;simp only[Instr.build,Sem.run_bind,hr,Result.andThen_ok,run_underlying ht,jH hs,hv,JW]
     simp_all
    ·exact h.elim
   ·exact h.elim
  ·exact h.elim
 case buildSlice t n ps=>
  split at h
  ·rename_i e ht;split at h
   ·rename_i size z hs hz;obtain⟨v,hr,hv⟩:=xg (w:=w) hz
    cases hb:(Nat.ble (n * size) 4096 && Nat.beq z.length size) with
    |false=>rw[hb] at h;exact h.elim
    |true=>
     rw[hb] at h;simp only[akN,Nat.ble_eq,beq_eq] at hb;obtain⟨b1,b2⟩:=hb;simp only[aaU] at h;obtain⟨cs,hf,h⟩:=akn h
     ·refine iC ?_ h;have I:=MI _ (λi=>some (i * size,size)) (λi x hx=>hx) _ _ _ hf;have hz2:(Array.range (n * size)).map (λi=>v.cells[i % v.cells.size]!)=⟨gX z n⟩:=by
       have:=oJ v.cells n;rw[hv] at this ⊢;simp only[Builtin.zeroCells,amj,b2] at this ⊢;exact this
      have c1:¬(n * size>2^24):=by omega
      by_cases c2:n * size=0
      ·have R:gX z n=[]:=by
        grind
       rw[R] at I;have N:=I;have c1':¬(0>2^24):=by decide
       simp only[Instr.buildSlice,Sem.run_bind,run_underlying ht,Result.andThen_ok,jH hs,c2,aiS,JW,c1',ajY,Sem.run_pure,Array.range_zero',Array.map_empty,N];rfl
      ·simp only[Instr.buildSlice,Sem.run_bind,run_underlying ht,Result.andThen_ok,jH hs,c1,ajY,c2,JW,hr,Sem.run_pure];rw[hz2,I];rfl
   ·exact h.elim
  ·exact h.elim
 case load t x=>
  split at h
  ·rename_i a sh n hx hs hn
   cases hb:Nat.beq sh.cells n with
   |false=>rw[hb] at h;exact h.elim
   |true=>
    rw[hb] at h;obtain⟨v,hr,hk⟩:=QK hs hn (alo hb) h;exact iC (by simp[Instr.loadAt,Instr.sureAddr,hx,hr]) hk
  ·exact h.elim
 case store t x y=>
  split at h
  ·rename_i a k n hx hs hn
   cases hb:Nat.beq n 1 with
   |false=>rw[hb] at h;exact h.elim
   |true=>
    rw[hb] at h;have hb:=alo hb;subst hb;obtain⟨hr,hk⟩:=aa1 (P:=P) h;refine Ju ?_ hk;have h1:=QD h.1;simp[Instr.storeAt,Instr.sureAddr,hx,storeVar,h1,jH hn,storeCells,add_zero',hr]
  ·rename_i a ks n hx hs hn;split at h
   ·rename_i cs hy
    cases hb:Nat.beq cs.toList.length n with
    |false=>rw[hb] at h;exact h.elim
    |true=>
     rw[hb] at h;have hb:=alo hb;obtain⟨w',hr,hk⟩:=agS (P:=P) _ _ _ h;refine Ju ?_ hk;have hl:cs.size=n:=by trivial
     simp[Instr.storeAt,Instr.sureAddr,hx,hy,storeVar,Value.cells,jH hn,hl,hr]
   ·exact h.elim
  ·exact h.elim
 case nilCheck x=>
  split at h
  ·rename_i q hx;obtain⟨a,rfl,hk⟩:=h;simp only[hx];exact hk
  ·exact h.elim
 case binOp op t x y yt=>
  split at h
  ·obtain⟨v,hr,hk⟩:=ad4 x h;exact iC hr hk
  ·obtain⟨v,hr,hk⟩:=Yn x y h;exact iC hr hk
 case unOp op t x=>
  obtain⟨v,hr,hk⟩:=aaI h;exact iC hr hk
 case convert s d x=>
  split at h
  ·rename_i e a n c hs hd hx;split at h
   ·rename_i he;obtain⟨b,hr,hk⟩:=Tv h;refine iC ?_ hk;rw[hx,run_convert_bytes_string w s d e a n c hs he hd];exact hr
   ·exact h.elim
  ·rename_i e b hs hd hx;split at h
   ·rename_i he;have hr:=Lib.run_convert_string_bytes w s d e b hs hd he;have hc:=h.2 (grownCap w b.size 0 e) (by have:=grownCap_ge w b.size 0 e;omega) (by
     simp only[grownCap,Question.cut];have h1:=h.1;have:=aln (w.tape w.drawn (.appendCap b.size 0 e)) (show 0<2^63 - b.size by omega);omega)
    rw[<- VR] at hc;exact iC (by rw[hx];exact hr) hc
   ·exact h.elim
  ·rename_i e' e a n c hs hd hx;split at h
   ·rename_i he hb;obtain⟨T,m,U,hk⟩:=h;refine iC ?_ hk;have ab:=alo hb;subst ab;have ac:e'=e:=by simp_all
    subst ac;rw[hx];simp[convert,run_underlying hd,run_underlying he,markStringish,U]
   ·exact h.elim
  ·rename_i n1 n2 n3;unfold RV at h;split at h
   ·rename_i u k n hs hd hx;refine iC ?_ h;simp[convert,hx,run_underlying hs,run_underlying hd,Conv.intToInt]
   ·rename_i b hs hd hx;refine iC ?_ h;simp[convert,hx,run_underlying hs,run_underlying hd]
   ·exact h.elim
 case makeFunc fn first cap=>
  rw[Yi,Yi];exact h
 case lookup t x i ok=>
  cases ok with
  |true=>
   simp only at h;split at h
   case h_2=>exact h.elim
   rename_i kt et r ht hx;split at h
   case h_2=>exact h.elim
   rename_i sh z hs hz;obtain⟨v,b,hr,hk⟩:=Qs ht hz h true;obtain⟨v',rfl,hk⟩:=Nw _ _ hk;exact iC (by simp_all) hk
  |false=>
   simp only at h;split at h
   case h_2=>exact h.elim
   rename_i kt et r ht hx;split at h
   case h_3=>exact h.elim
   case h_1=>
    rename_i k z hs hz;obtain⟨x',hr,hk⟩:=aaY ht hz h;exact iC (by simp_all) hk
   case h_2=>
    rename_i ks z hs hz;obtain⟨v,b,hr,hk⟩:=Qs ht hz h false;obtain⟨v',rfl,hk⟩:=Nw _ _ hk;exact iC (by simp_all) hk
 case mapUpdate t x i v=>
  split at h
  case h_2=>exact h.elim
  rename_i kt et r ht hx;obtain⟨w',hr,hk⟩:=Tc ht h;exact Ju (by simp_all) hk
 case insert t x i v=>
  split at h
  case h_2=>exact h.elim
  rename_i kt et r ht hx;obtain⟨w',hr,hk⟩:=Tc ht h;exact Ju (by simp_all) hk
 case mapEntry t x i=>
  split at h
  case h_2=>exact h.elim
  rename_i kt et r ht hx;split at h
  ·rename_i z hz;obtain⟨v,n,w',hr,hk⟩:=aaX ht hz h;exact iC (by simp_all) hk
  ·exact h.elim
 case entryStore t x st v=>
  split at h
  ·rename_i r k n hx ae;obtain⟨w',hr,hk⟩:=adk h;exact Ju (by rw[hx,ae];exact hr) hk
  ·exact h.elim
 case makeMap t r=>
  cases r with
  |some r=>exact h.elim
  |none=>exact iC (by rfl) h
 case makeSlice t l c=>
  split at h
  ·rename_i e kl n kc m ht hl hc;split at h
   ·rename_i size bytes z hs hb hz;obtain⟨i,hi,rfl⟩:=tZ hs;obtain⟨i',hi',rfl⟩:=yx hb;obtain⟨i'',z,hi'',hz0,rfl⟩:=oq hz;rw[hi] at hi' hi'';cases hi';cases hi''
    cases hb:Nat.beq z.cells.toList.length i.size with
    |false=>rw[hb] at h;exact h.elim
    |true=>
     rw[hb] at h;simp only[aaU] at h;obtain⟨s,w',hr,hk⟩:=abK ht hi hz0 (alo hb) h;exact iC (by simp_all;omega) hk
   ·exact h.elim
  ·exact h.elim
 case slice t x lo hi mx=>
  obtain⟨v,hr,hk⟩:=ZI h;exact iC hr hk
 case fieldAddr t x f=>
  split at h
  ·rename_i fs a ht hx;split at h
   ·rename_i off size hf
    cases hb:Nat.beq size 0 with
    |true=>rw[hb] at h;exact h.elim
    |false=>
     rw[hb] at h;obtain⟨fd,h1,h2⟩:=TW (w:=w) hf hb a;exact iC (by simp[Instr.fieldAt,run_underlying ht,h1,Instr.sureAddr,hx,h2]) h
   ·exact h.elim
  ·exact h.elim
 case field t x f=>
  split at h
  ·rename_i fs cs ht hx;split at h
   ·rename_i fd hf;split at h
    ·rename_i d size hd hs;obtain⟨v,hr,hk⟩:=Ve (w:=w) hd hs h;have hf':fs[f]? =some fd:=by simp_all
     exact iC (by simp[Instr.field,run_underlying ht,hf',hx,asAgg,hr]) hk
    ·exact h.elim
   ·exact h.elim
  ·exact h.elim
 case indexAddr t x i=>
  split at h
  ·rename_i e a n c k i' ht hx hi;split at h
   ·rename_i size hs;obtain⟨a',h1,h2,h3,hk⟩:=h;simp only at h1 h2 h3 hk;subst h1;refine iC ?_ hk;simp[Instr.indexAt,hi,hx,asIntOf,run_underlying ht,jH hs,h2,h3]
   ·exact h.elim
  ·rename_i n e a k i' ht hx hi;split at h
   ·rename_i size hs;obtain⟨h2,h3,hk⟩:=h;refine iC ?_ hk;simp[Instr.indexAt,hi,hx,asIntOf,run_underlying ht,jH hs,h2,h3,Instr.sureAddr]
   ·exact h.elim
  ·exact h.elim
 case index t x i=>
  split at h
  ·rename_i s k i' ht hx hi;obtain⟨b,h1,h2,hk⟩:=h;refine iC ?_ hk;simp[Instr.index,hi,hx,asIntOf,run_underlying ht,h1,h2]
  ·rename_i n e cs k i' ht hx hi;split at h
   ·rename_i d size hd hs;obtain⟨h1,h2,h⟩:=h;obtain⟨v,hr,hk⟩:=Ve (w:=w) hd hs h;refine iC ?_ hk;simp[Instr.index,hi,hx,asIntOf,run_underlying ht,jH hs,h1,h2,hr]
   ·exact h.elim
  ·exact h.elim
 case extract t i=>
  split at h
  ·rename_i vs ht;split at h
   ·rename_i v hv;have hv':vs[i]? =some v:=by simp_all
    split at h
    ·obtain⟨x,hx,h⟩:=NY h;refine iC ?_ h;rw[<- hx];simp[Instr.extract,ht,hv']
    ·refine iC ?_ h;simp[Instr.extract,ht,hv']
   ·exact h.elim
  ·exact h.elim
 case range t x=>
  split at h
  ·rename_i kt et r ht hx;rcases h with ⟨rfl,h⟩|⟨b,es,clock,rfl,hb,h⟩
   ·exact iC (by rw[hx];simp[Instr.range,run_underlying ht]) h
   ·exact iC (by rw[hx];simp[Instr.range,run_underlying ht,MapKept.run_getObj_map hb]) h
  ·exact h.elim
 case next x s=>
  cases s with
  |true=>exact h.elim
  |false=>
  simp only at h;split at h
  ·rename_i a hx;obtain⟨h0,h⟩:=h;rcases h with ⟨s,sn,c,hr,h⟩|⟨b,since,seen,c0,es,clock,hr,hb,W,af,Y,O⟩
   ·refine iC ?_ h;rw[hx,h0];simp[Instr.next,getObj,Sem.run,hr,Result.andThen]
   ·rcases run_next_at w _ a.block b since c0 seen es clock hr hb W af with ⟨h1,h2⟩|⟨e,he,w1,hw1,h2⟩
    ·exact iC (by rw[hx,h0];exact h2) (Y h1)
    ·exact iC (by rw[hx,h0];exact h2) (O e he w1 hw1)
  ·exact h.elim
 case entry x=>
  split at h
  ·rename_i a hx;obtain⟨h0,b,since,seen,es,clock,e,hr,hb,he,hn,h⟩:=h;exact iC (by rw[hx,h0];exact run_entry_at w a.block b since seen es clock e hr hb he hn) h
  ·exact h.elim
 case call c=>
  have J:c.args.map ρ=⟨c.args.toList.map ρ⟩:=Yi _ _;split at h
  ·rename_i f hc;split at h
   ·rename_i sh U
    cases hb:oI P f with
    |false=>
     rw[hb] at h;obtain⟨v,w',hr,hk⟩:=h;obtain⟨vs,rfl,hk'⟩:=Ec _ _ hk;have Z:=hρ f;simp only[resolve,hc,Z,Deferred.ofValue,J];simpa [invoke,hr,Ran] using hk'
    |true=>
     rw[hb] at h;have h:=JJ h;have Z:=hρ f;simp only[resolve,hc,Z,Deferred.ofValue,J];simpa [invoke,Am hP hb,Ran] using h
   ·exact h.elim
  ·rename_i x hx hc;split at h
   ·rename_i sh U;have:=adw hP h;simp only[resolve,hc,J];refine Ran.mono (λr w' hr=> ?_) this;obtain⟨vs,rfl,hk⟩:=Ec _ _ hr;exact hk
   ·exact h.elim
  ·rename_i b hc;simp only[resolve,hc,J];exact Χ h
  ·rename_i x name hc;split at h
   ·simp only[resolve,hc,J];exact aht hP h
   ·exact h.elim
 case makeInterface t x=>
  split at h
  ·exact h.elim
  ·rename_i d hd ht;refine iC (by simp only[Instr.makeInterface,Sem.run_bind,run_underlying ht];cases d<;>first|rfl|simp_all) h
  ·exact h.elim
 case typeAssert x xt t ok=>
  split at h
  ·exact h.elim
  ·rename_i d z hd ht hz;obtain⟨v,hr,hk⟩:=agZ (λm=>hd m) ht hz h;exact iC hr hk
  ·exact h.elim
 all_goals exact h.elim
end
end Gp
end
section
namespace Gp
open Go
def Fr (r:Option Nat):Fence:={Fence.wide with round:=r}
def Agr (env:Env) (a:Act):Prop:=∀s v,env.get s=some v->a.tmps[s]? =some v
theorem pJ (s:Nat) (v:Value) (r:Env) (t:Nat):Env.get ((s,v)::r) t=if s=t then some v else Env.get r t:=by
 simp only[Env.get];by_cases h:s=t
 ·subst h;simp
 ·have:Nat.beq s t=false:=by cases hb:Nat.beq s t;rfl;exact absurd (alo hb) h
  simp[this,h]
theorem Ej (a:Act) (d:Option Nat) (v:Value):(a.put d v).tmps.size=a.tmps.size:=by cases d<;>simp[Act.put]
theorem Jt (a:Act) (d:Option Nat) (v:Value):(a.put d v).defers=a.defers:=by cases d<;>rfl
theorem Dy (a:Act) (d:Option Nat) (v:Value) (s:Nat):(a.put d v).tmps[s]? =if d=some s/\s<a.tmps.size then some v else a.tmps[s]? :=by
 cases d with
 |none=>simp[Act.put]
 |some d=>
  simp only[Act.put,alG,agP];by_cases h:d=s
  ·subst h;by_cases h2:d<a.tmps.size
   ·simp[h2]
   ·simp[h2]
  ·simp[h]
theorem Agr.put {env:Env} {a:Act} {d:Option Nat} {v:Value} (h:Agr env a) (hd:uh a.tmps.size d=true):Agr (env.put d v) (a.put d v):=by
 intro s u hs;rw[Dy]
 cases d with
 |none=>simpa using h s u hs
 |some d=>
  simp only[Env.put] at hs;rw[pJ] at hs;have I:d<a.tmps.size:=by simp only[uh,al0] at hd;exact hd
  by_cases e:d=s
  ·subst e;simp at hs;simp[I,hs]
  ·rw[ada e] at hs;have:¬(some d=some s/\s<a.tmps.size):=λx=>e (by simpa using x.1);rw[ada this];exact h s u hs
theorem afk {env:Env}:∀(l:List Operand),adD env l=true->∀x∈l,(evO env x).isSome=true:=by
 intro l
 induction l with
 |nil=>intro _ x hx;cases hx
 |cons y l ih=>
  intro h x hx;simp only[adD,akN] at h
  cases hx with
  |head=>exact h.1
  |tail _ hx=>exact ih h.2 x hx
theorem akm {env:Env} {a:Act} (h:Agr env a) {x:Operand} (hx:(evO env x).isSome=true):ev env x=a.eval x:=by
 unfold ev
 cases x with
 |tmp t=>
  simp only[evO] at hx ⊢
  cases hg:env.get t with
  |none=>simp[hg] at hx
  |some v=>
   have:=h t v hg;simp[Act.eval,alE,this]
 |const v=>rfl
 |global g=>rfl
 |func f=>rfl
theorem Ut {P:Program} {o:Oper} {ρ:Operand->Value} {w:θ} {K:Value->b_} (h:zC P o ρ w K):(∀cs b,o.op≠.select cs b)/\(∀c,o.op≠.defer c):=by
 constructor
 ·intro cs b e;simp only[zC,e] at h
 ·intro c e;simp only[zC,e] at h
theorem agt {P:Program} {o:Oper} {a:Act} {w:θ} {K:Value->b_} {r:Option Nat} {n:Nat} {next:Act->b_} {Q:Exit->Act->b_}
  (hd:∀c,o.op≠.defer c) (h:Ran P K ((execOp a.eval o).run P w)) (hk:∀v w',K v w'->next (a.put o.dst v) w'):o.wpIn (Fr r) n P a w next Q:=by
 refine⟨λ_ _=>trivial,?_⟩;rw[Oper.semAt_eq _ _ _ hd];generalize (execOp a.eval o).run P w=res at h
 cases res with
 |halt x w'=>exact h.elim
 |ok x w'=>
  cases x<;>simp only[Ran] at h<;>simp only[Oper.uponIn]
  case value v=>exact hk _ _ h
  case skip=>exact hk _ _ h
  case enter f args=>
   refine⟨λhx=>by simp[Fr,Fence.wide] at hx,?_⟩;have:CallsIn Fence.wide (n - 1) P f args w' λe w''=>∃v,e= .returned v/\K v w'':=callsIn_wide.2 h;refine CallsIn.mono (F:=Fr r) this λe w'' hx=> ?_;obtain⟨v,rfl,hv⟩:=hx;exact hk _ _ hv
  case round l f tmps assign body=>
   refine⟨λhx=>by simp[Fr,Fence.wide] at hx,?_⟩;refine RoundIn.mono (F:=Fr r) (n:=n - 1) ⟨h.1,λc cs _=>h.2 c cs (room_wide _)⟩ λe w'' hx=> ?_;obtain⟨v,rfl,hv⟩:=hx;exact hk _ _ hv
  all_goals exact h.elim
theorem Vu {g:Bool} {v:Value} {K:Value->Prop} (h:split g v K):K v:=by
 unfold split at h
 cases g with
 |false=>exact h
 |true=>
  simp only[aaU] at h
  cases v<;>first|exact h|skip
  rename_i b
  cases b<;>exact h
structure Kv (nt:Nat) (ds:List Deferred) (ws:List Nat) (a0:Act) (env:Env) (a:Act):Prop where
 agr:Agr env a
 size:a.tmps.size=nt
 defers:a.defers=ds
 same:∀s,s∉ws->a.tmps[s]? =a0.tmps[s]?
theorem QO {ops:Array Oper} {a:Act} {env:Env} {j s:Nat} (ha:∀u,env.get s=some u->a.tmps[s]? =some u) {t:Bool} (h1:(ops.toList[j]?).bind (·.dst)=some s) (h2:env.get s=some (.bool t)):
  yielded ops a.tmps j=some t:=by
 have h1':(ops[j]?).bind (·.dst)=some s:=by simpa using h1
 have:=ha _ h2;simp[yielded,h1',this]
def ZX (env:Env) (a:Act) (ss:List Nat):Prop:=∀s∈ss,∀u,env.get s=some u->a.tmps[s]? =some u
theorem Agr.on {env:Env} {a:Act} (h:Agr env a) (ss:List Nat):ZX env a ss:=λs _ u hu=>h s u hu
theorem afv {env:Env} {a:Act} {ss:List Nat} (h:ZX env a ss) {x:Operand} (hm:∀t,x= .tmp t->t∈ss) (hx:(evO env x).isSome=true):ev env x=a.eval x:=by
 unfold ev
 cases x with
 |tmp t=>
  simp only[evO] at hx ⊢
  cases hg:env.get t with
  |none=>simp[hg] at hx
  |some v=>
   have:=h t (hm t rfl) v hg;simp[Act.eval,alE,this]
 |const v=>rfl
 |global g=>rfl
 |func f=>rfl
theorem V6 {ops:Array Oper} {o:Oper} {t:Nat} (h:Operand.tmp t∈o.op.operands.toList):t∈o.looksAt ops:=
 amE _ (amk.2 ⟨.tmp t,h,rfl⟩)
theorem Dv {ops:Array Oper} {o:Oper} {j s:Nat} {want:Bool} (hg:o.guard=some (j,want)) (hs:(ops.toList[j]?).bind (·.dst)=some s):s∈o.looksAt ops:=by
 refine List.mem_append_right _ ?_;have h1':(ops[j]?).bind (·.dst)=some s:=by simpa using hs
 simp[hg,h1']
theorem LG {P:Program} (hP:Xo P) {nt:Nat} {o:Oper} {g:Bool} {env:Env} {w:θ} {K:Env->b_} {a:Act} {r:Option Nat} {n:Nat}
  {next:Act->b_} {Q:Exit->Act->b_} {ops:Array Oper} (h:yO P nt o g env w K) (ha:ZX env a (o.looksAt ops))
  (hk:∀v w',K (env.put o.dst v) w'->uh nt o.dst=true->next (a.put o.dst v) w'):o.wpIn (Fr r) n P a w next Q:=by
 unfold yO at h
 cases hb:(adD env o.op.operands.toList && uh nt o.dst) with
 |false=>rw[hb] at h;exact h.elim
 |true=>
  rw[hb] at h;simp only[aaU] at h;simp only[akN] at hb;have u:execOp a.eval o=execOp (ev env) o:=(execOp_congr o (Ut h).1 λx hx=>afv ha (λt e=>V6 (by subst e;simpa using hx)) (afk _ hb.1 x (by simpa using hx))).symm;have hr:=aag hP (λf=>rfl) h;rw[<- u] at hr;exact agt (Ut h).2 hr λv w' hv=>hk v w' (Vu hv) hb.2
theorem Ep {P:Program} (hP:Xo P) {nt:Nat} {ops:Array Oper} {i:Nat} {o:Oper} {g:Bool} {env:Env} {w:θ} {K:Env->b_} {a:Act} {r:Option Nat} {n:Nat}
  {next:Act->b_} {Q:Exit->Act->b_} (ho:ops[i]? =some o) (h:t_ P nt ops.toList o g env w K) (ha:ZX env a (o.looksAt ops))
  (hk:∀v w',K (env.put o.dst v) w'->uh nt o.dst=true->next (a.put o.dst v) w'):wpOpIn (Fr r) n P ops Q i next a w:=by
 unfold wpOpIn;simp only[ho];unfold t_ at h
 cases hg:o.guard with
 |none=>
  simp only[hg] at h;have hw:Region.wanted o (yielded ops a.tmps)=true:=by simp[Region.wanted,hg]
  rw[aeH hw];exact LG hP h ha hk
 |some jw=>
  obtain⟨j,want⟩:=jw;simp only[hg] at h
  cases hs:(ops.toList[j]?).bind (·.dst) with
  |none=>simp only[hs] at h
  |some s=>
   simp only[hs] at h;split at h
   ·rename_i t ht;have hy:=QO (ha _ (Dv hg hs)) hs ht
    cases hb:(t==want) with
    |true=>
     rw[hb] at h;have hw:Region.wanted o (yielded ops a.tmps)=true:=by
      have:t=want:=by simpa using hb
      simp[Region.wanted,hg,hy,this]
     rw[aeH hw];exact LG hP h ha hk
    |false=>
     rw[hb] at h;have hw:¬(Region.wanted o (yielded ops a.tmps)=true):=by
      have:t≠want:=by intro e;simp[e] at hb
      simp[Region.wanted,hg,hy,this]
     rw[ada hw];refine⟨λ_ _=>trivial,?_⟩;simp only[aaT] at h
     cases hd:uh nt o.dst with
     |false=>rw[hd] at h;exact h.elim
     |true=>rw[hd] at h;exact hk _ _ h hd
   ·rename_i vs ht;have hw:¬(Region.wanted o (yielded ops a.tmps)=true):=by
     have h1':(ops[j]?).bind (·.dst)=some s:=by simpa using hs
     have:=(ha _ (Dv hg hs)) _ ht;simp[Region.wanted,hg,yielded,h1',this]
    rw[ada hw];refine⟨λ_ _=>trivial,?_⟩
    cases hd:uh nt o.dst with
    |false=>rw[hd] at h;exact h.elim
    |true=>rw[hd] at h;exact hk _ _ h hd
   ·exact h.elim
def NZ (ops:List Oper):List Nat:=ops.filterMap (·.dst)
theorem Kv.put {nt:Nat} {ds:List Deferred} {ws:List Nat} {a0:Act} {env:Env} {a:Act} {d:Option Nat} {v:Value} (h:Kv nt ds ws a0 env a) (hd:uh nt d=true) (hw:∀s,d=some s->s∈ws):
  Kv nt ds ws a0 (env.put d v) (a.put d v):=by
 refine⟨h.agr.put (by rw[h.size];exact hd),by rw[Ej];exact h.size,by rw[Jt];exact h.defers,λs hs=> ?_⟩;rw[Dy];have:¬(d=some s/\s<a.tmps.size):=λx=>hs (hw s x.1);rw[ada this];exact h.same s hs
theorem Zz {P:Program} (hP:Xo P) {nt:Nat} {ops:Array Oper} {K:Env->b_} {r:Option Nat} {n:Nat} {Q:Exit->Act->b_} {ds:List Deferred} {ws:List Nat} {a0:Act}
  (I:∀d∈NZ ops.toList,d∈ws) (hQ:∀env a w,Kv nt ds ws a0 env a->K env w->Q .normal a w):
  ∀(l:List Oper) (i:Nat) (env:Env) (a:Act) (w:θ),ops.toList.drop i=l->Kv nt ds ws a0 env a->abZ P nt ops.toList i l env w K->
   wpOpsIn (Fr r) n P ops Q (List.range' i l.length) a w:=by
 intro l
 induction l with
 |nil=>intro i env a w _ ha h;exact hQ _ _ _ ha h
 |cons o l ih=>
  intro i env a w hl ha h;have ho:ops[i]? =some o:=by
   have:=congrArg (λl:List Oper=>l[0]?) hl;simpa using this
  rw[aiQ,List.range'_succ,wpOpsIn_cons];have u:o∈ops.toList:=by
   have:o∈ops.toList.drop i:=by rw[hl];simp
   exact al8 this
  refine Ep hP ho h (ha.agr.on _) λv w' hv hd=> ?_;refine ih (i+1) _ _ _ ?_ (ha.put hd λs hs=>I s (amk.2 ⟨o,u,hs⟩)) hv;have:=congrArg List.tail hl;simpa [List.tail_drop] using this
def G9 (x:Nat):List Nat->Bool
 |[]=>false
 |y::r=>cond (Nat.beq y x) true (G9 x r)
def BO (P:Program) (o:Oper):Bool:=
 match o.op with
 | .load _ _=>o.dst.isNone
 | .move _| .assign _| .pick _ _ _| .build _ _| .nilCheck _| .binOp _ _ _ _ _| .unOp _ _ _| .makeFunc _ _ _| .slice _ _ _ _ _
 | .fieldAddr _ _ _| .field _ _ _| .indexAddr _ _ _| .index _ _ _| .extract _ _=>false
 | .convert s d _=>match P.underlying s,P.underlying d with
  |some (.slice _),some .string=>true
  |some .string,some (.slice _)=>true
  |some (.slice _),some (.slice _)=>true
  |_,_=>false
 | .call c=>match c.callee with
  | .builtin .len=>match c.argTypes.toList with
   |[t]=>match P.underlying t with
    |some .string=>false
    |some (.slice _)=>false
    |some (.array _ _)=>false
    |_=>true
   |_=>true
  | .builtin .cap=>false
  | .builtin .max=>false
  | .builtin .min=>false
  |_=>true
 |_=>true
def wV (done:List Nat) (o:Oper):Bool:=o.after.toList.all λe=> !Region.binds .any e||G9 e.on done
def enumFrom:Nat->List Oper->List (Nat×Oper)
 |_,[]=>[]
 |i,o::r=>(i,o)::enumFrom (i+1) r
def yQ (P:Program) (done:List Nat):List (Nat×Oper)->Option (Nat×Oper)
 |[]=>none
 |(i,o)::r=>cond (!G9 i done && (!BO P o && wV done o)) (some (i,o)) (yQ P done r)
def GI (P:Program) (done:List Nat):List (Nat×Oper)->List (Nat×Oper)
 |[]=>[]
 |(i,o)::r=>cond (!G9 i done && (BO P o && wV done o)) ((i,o)::GI P done r) (GI P done r)
def ET:List Value->θ->Addr->Nat->Prop->Prop
 |[],_,_,_,rest=>rest
 |v::vs,w,a,i,rest=>w.cell? (a.add i)=some v/\ET vs w a (i+1) rest
def GY (sh:Shape) (av v:Value) (w:θ) (rest:Prop):Prop:=
 match sh,av,v with
 | .one _,.pointer (some a),v=>w.cell? a=some v/\rest
 | .agg _,.pointer (some a),.agg cs=>ET cs.toList w a 0 rest
 |_,_,_=>False
def bitsOf (acc:List Nat):List Edge->Nat
 |[]=>0
 |e::r=>cond (Region.binds .any e) (2^e.on|||(acc.getD e.on 0|||bitsOf acc r)) (bitsOf acc r)
def Au:List Oper->List Nat->List Nat
 |[],acc=>acc
 |o::r,acc=>Au r (acc++[bitsOf acc o.after.toList])
def aaA (pb:Nat) (w:θ):List (Nat×Shape×Value×Value)->Prop->Prop
 |[],rest=>rest
 |(i,sh,av,v)::r,rest=>cond (Nat.testBit pb i) (aaA pb w r rest) (GY sh av v w (aaA pb w r rest))
def YH (ops:List Oper) (o:Oper) (env:Env):Bool:=
 match o.guard with
 |none=>true
 |some (j,want)=>match (ops[j]?).bind (·.dst) with
  |some s=>match env.get s with
   |some (.bool t)=>t==want
   |some (.tuple _)=>false
   |_=>true
  |none=>true
def Uo (P:Program) (ops:List Oper) (i:Nat) (o:Oper) (env env':Env) (ld:List (Nat×Shape×Value×Value)):List (Nat×Shape×Value×Value):=
 match o.op,o.dst with
 | .load t x,some d=>cond (YH ops o env) (match shapeOf P t with
  |some sh=>(i,sh,ev env x,ev env' (.tmp d))::ld
  |none=>ld) ld
 |_,_=>ld
def allOf {α:Type} (f:α->Prop):List α->Prop
 |[]=>True
 |[x]=>f x
 |x::r=>f x/\allOf f r
def yN (P:Program) (nt:Nat) (ops:List Oper) (pbs:List Nat):Nat->List Nat->List (Nat×Shape×Value×Value)->Env->θ->(Env->b_)->Prop
 |0,_,_,_,_,_=>False
 |fuel+1,done,ld,env,w,K=>
  match yQ P done (enumFrom 0 ops) with
  |some (i,o)=>t_ P nt ops o (YN ops i) env w λenv' w'=>yN P nt ops pbs fuel (i::done) (Uo P ops i o env env' ld) env' w' K
  |none=>match GI P done (enumFrom 0 ops) with
   |[]=>cond (Nat.beq done.length ops.length) (K env w) False
   |e::es=>allOf (λ(e:Nat×Oper)=>t_ P nt ops e.2 (YN ops e.1) env w λenv' w'=>
     aaA (pbs.getD e.1 0) w' ld (yN P nt ops pbs fuel (e.1::done) ld env' w' K)) (e::es)
def YT (ops:List Oper) (o:Oper):List Nat:=
 (o.op.operands.toList.filterMap fun| .tmp t=>some t|_=>none)++
 (match o.guard with
  |some (g,_)=>((ops[g]?).bind (·.dst)).toList
  |none=>[])
def IX:List Nat->Bool
 |[]=>true
 |x::r=> !G9 x r && IX r
def RS (ops:List Oper) (pbs:List Nat) (i:Nat) (o:Oper):List (Nat×Oper)->Bool
 |[]=>true
 |(j,p)::r=>(match p.dst with
  |some d=>Nat.beq i j|| !G9 d (YT ops o)||(Nat.testBit (pbs.getD i 0) j||Nat.testBit (pbs.getD j 0) i)
  |none=>true) && RS ops pbs i o r
def backOk (i:Nat) (o:Oper):Bool:=o.after.toList.all λe=> !Region.binds .any e||Nat.blt e.on i
def OV (ops:List Oper) (pbs:List Nat):Bool:=
 IX (NZ ops) && (enumFrom 0 ops).all λx=>backOk x.1 x.2 && RS ops pbs x.1 x.2 (enumFrom 0 ops)
def TQ (P:Program) (nt:Nat) (ops:List Oper) (env:Env) (w:θ) (K:Env->b_):Prop:=
 cond (OV ops (Au ops [])) (yN P nt ops (Au ops []) (ops.length+1) [] [] env w.drew K) False
theorem sN {x:Nat} {l:List Nat}:G9 x l=true↔x∈l:=by
 induction l with
 |nil=>simp[G9]
 |cons y r ih=>
  simp only[G9];by_cases h:y=x
  ·subst h;simp
  ·have:Nat.beq y x=false:=by cases hb:Nat.beq y x;rfl;exact absurd (alo hb) h
   simp[this,ih,ah6 h]
theorem af6 {o:Oper} {i:Nat}:∀(l:List Oper) (k:Nat),(i,o)∈enumFrom k l↔∃j,l[j]? =some o/\i=k+j:=by
 intro l
 induction l with
 |nil=>intro k;simp[enumFrom]
 |cons p l ih=>
  intro k;simp only[enumFrom,agN,alp,ih];constructor
  ·rintro(⟨rfl,rfl⟩|⟨j,h1,h2⟩)
   ·exact⟨0,by simp,by omega⟩
   ·exact⟨j+1,by simpa using h1,by omega⟩
  ·rintro⟨j,h1,h2⟩
   cases j with
   |zero=>simp at h1;exact .inl ⟨by omega,h1.symm⟩
   |succ j=>exact .inr ⟨j,by simpa using h1,by omega⟩
theorem xX {ops:Array Oper} {o:Oper} {i:Nat}:(i,o)∈enumFrom 0 ops.toList↔ops[i]? =some o:=by
 rw[af6];constructor
 ·rintro⟨j,h1,h2⟩;have:i=j:=by omega
  subst this;simpa using h1
 ·intro h;exact⟨i,by simpa using h,by omega⟩
theorem YD {P:Program} {done:List Nat} {i:Nat} {o:Oper}:∀(l:List (Nat×Oper)),yQ P done l=some (i,o)->
  (i,o)∈l/\i∉done/\BO P o=false/\wV done o=true:=by
 intro l
 induction l with
 |nil=>intro h;simp[yQ] at h
 |cons x l ih=>
  obtain⟨j,p⟩:=x;intro h;simp only[yQ] at h
  cases hb:(!G9 j done && (!BO P p && wV done p)) with
  |true=>
   rw[hb] at h;simp only[aaU,agP,alp] at h;obtain⟨rfl,rfl⟩:=h;simp only[akN,alF] at hb;exact⟨by simp,λhm=>by rw[sN.2 hm] at hb;simp at hb,hb.2.1,hb.2.2⟩
  |false=>
   rw[hb] at h;obtain⟨h1,h2⟩:=ih h;exact⟨by simp[h1],h2⟩
theorem YC {P:Program} {done:List Nat}:∀(l:List (Nat×Oper)),yQ P done l=none->∀i o,(i,o)∈l->i∉done->wV done o=true->BO P o=true:=by
 intro l
 induction l with
 |nil=>intro _ i o h;cases h
 |cons x l ih=>
  obtain⟨j,p⟩:=x;intro h i o hm hd hp;simp only[yQ] at h
  cases hb:(!G9 j done && (!BO P p && wV done p)) with
  |true=>rw[hb] at h;simp at h
  |false=>
   rw[hb] at h
   cases hm with
   |head=>
    have:G9 j done=false:=by cases hx:G9 j done;rfl;exact absurd (sN.1 hx) hd
    simp[this,hp] at hb;exact hb
   |tail _ hm=>exact ih h i o hm hd hp
theorem Vj {P:Program} {done:List Nat} {i:Nat} {o:Oper}:∀(l:List (Nat×Oper)),(i,o)∈GI P done l↔(i,o)∈l/\i∉done/\BO P o=true/\wV done o=true:=by
 intro l
 induction l with
 |nil=>simp[GI]
 |cons x l ih=>
  obtain⟨j,p⟩:=x;simp only[GI]
  cases hb:(!G9 j done && (BO P p && wV done p)) with
  |true=>
   simp only[akN,alF] at hb;have u:j∉done:=λhm=>by rw[sN.2 hm] at hb;simp at hb
   simp only[aaU,agN,alp,ih];constructor
   ·rintro(⟨rfl,rfl⟩|h)
    ·exact⟨.inl ⟨rfl,rfl⟩,u,hb.2⟩
    ·exact⟨.inr h.1,h.2⟩
   ·rintro⟨h1|h1,h2⟩
    ·exact .inl h1
    ·exact .inr ⟨h1,h2⟩
  |false=>
   simp only[aaT,agN,alp,ih];constructor
   ·intro h;exact⟨.inr h.1,h.2⟩
   ·rintro⟨h1|h1,h2,h3,h4⟩
    ·obtain⟨rfl,rfl⟩:=h1;have:G9 i done=false:=by cases hx:G9 i done;rfl;exact absurd (sN.1 hx) h2
     simp[this,h3,h4] at hb
    ·exact⟨h1,h2,h3,h4⟩
theorem adq {α:Type} {f:α->Prop}:∀(l:List α),allOf f l->∀x∈l,f x:=by
 intro l
 induction l with
 |nil=>intro _ x hx;cases hx
 |cons y r ih=>
  intro h x hx
  cases r with
  |nil=>simp at hx;subst hx;exact h
  |cons z r=>
   cases hx with
   |head=>exact h.1
   |tail _ hx=>exact ih h.2 x hx
def Dir (ops:Array Oper) (j i:Nat):Prop:=∃o,ops[i]? =some o/\∃e∈o.after.toList,Region.binds .any e=true/\e.on=j
inductive Pre (ops:Array Oper):Nat->Nat->Prop
 |one {j i:Nat}:Dir ops j i->Pre ops j i
 |tail {j k i:Nat}:Pre ops j k->Dir ops k i->Pre ops j i
theorem Τ {acc:List Nat} {j:Nat}:∀(es:List Edge),(bitsOf acc es).testBit j=true->∃e∈es,Region.binds .any e=true/\(e.on=j\/(acc.getD e.on 0).testBit j=true):=by
 intro es
 induction es with
 |nil=>intro h;simp[bitsOf] at h
 |cons e es ih=>
  intro h;simp only[bitsOf] at h
  cases hb:Region.binds .any e with
  |false=>
   rw[hb] at h;obtain⟨e',h1,h2⟩:=ih h;exact⟨e',by simp[h1],h2⟩
  |true=>
   rw[hb] at h;simp only[aaU,Nat.testBit_or,ami,Nat.testBit_two_pow,decide_eq_true_eq] at h;rcases h with h|h|h
   ·exact⟨e,by simp,hb,.inl h⟩
   ·exact⟨e,by simp,hb,.inr h⟩
   ·obtain⟨e',h1,h2⟩:=ih h;exact⟨e',by simp[h1],h2⟩
theorem ZE {ops:Array Oper}:∀(l:List Oper) (acc:List Nat),ops.toList.drop acc.length=l->(∀i j,(acc.getD i 0).testBit j=true->Pre ops j i)->
  ∀i j,((Au l acc).getD i 0).testBit j=true->Pre ops j i:=by
 intro l
 induction l with
 |nil=>intro acc _ h;exact h
 |cons o l ih=>
  intro acc hl h;simp only[Au];have ho:ops[acc.length]? =some o:=by
   have:=congrArg (λl:List Oper=>l[0]?) hl;simpa using this
  refine ih _ ?_ ?_
  ·have:=congrArg List.tail hl;simpa [List.tail_drop] using this
  ·intro i j hb;rcases alC i acc.length with hi|hi|hi
   ·rw[al1,alk hi,<- al1] at hb;exact h i j hb
   ·subst hi;rw[al1,akQ (ai8 _)] at hb;simp only[Nat.sub_self,aeI,alf] at hb;obtain⟨e,h1,h2,h3⟩:=Τ _ hb;rcases h3 with h3|h3
    ·exact .one ⟨o,ho,e,h1,h2,h3⟩
    ·exact .tail (h _ _ h3) ⟨o,ho,e,h1,h2,rfl⟩
   ·rw[al1,aml (by simp;omega)] at hb;simp at hb
theorem Vh {ops:Array Oper} {i j:Nat} (h:((Au ops.toList []).getD i 0).testBit j=true):Pre ops j i:=
 ZE ops.toList [] rfl (λi j h=>by simp at h) i j h
theorem yj {ops:Array Oper} {D:Nat->Prop} (hD:∀i j,D i->Dir ops j i->D j) {i j:Nat} (h:Pre ops j i):D i->D j:=by
 induction h with
 |one h=>exact λhi=>hD _ _ hi h
 |tail _ h ih=>exact λhi=>ih (hD _ _ hi h)
theorem AP {ops:Array Oper} {D:Nat->Prop} (hD:∀i j,D i->Dir ops j i->D j) {i:Nat} (hi:∀j,Dir ops j i->D j) {j:Nat} (h:Pre ops j i):D j:=by
 cases h with
 |one h=>exact hi _ h
 |tail h1 h2=>exact yj hD h1 (hi _ h2)
theorem abP:∀(ops:List Oper),IX (NZ ops)=true->∀(i j:Nat) (oi oj:Oper) (s:Nat),ops[i]? =some oi->ops[j]? =some oj->oi.dst=some s->oj.dst=some s->i=j:=by
 intro ops
 induction ops with
 |nil=>intro _ i j oi oj s hi;simp at hi
 |cons o r ih=>
  intro h i j oi oj s hi hj u I;have J:∀(k:Nat) (x:Oper),r[k]? =some x->x.dst=some s->s∈NZ r:=λk x hk hx=>amk.2 ⟨x,akK hk,hx⟩
  cases hd:o.dst with
  |none=>
   have h':IX (NZ r)=true:=by simpa [NZ,hd] using h
   cases i with
   |zero=>simp at hi;subst hi;rw[hd] at u;cases u
   |succ i=>cases j with
    |zero=>simp at hj;subst hj;rw[hd] at I;cases I
    |succ j=>rw[ih h' i j oi oj s (by simpa using hi) (by simpa using hj) u I]
  |some d=>
   have h0:IX (d::NZ r)=true:=by simpa [NZ,hd] using h
   simp only[IX,akN,alF] at h0;have N:d∉NZ r:=λhm=>by rw[sN.2 hm] at h0;simp at h0
   cases i with
   |zero=>
    simp at hi;subst hi;rw[hd] at u;cases u
    cases j with
    |zero=>rfl
    |succ j=>exact absurd (J j oj (by simpa using hj) I) N
   |succ i=>cases j with
    |zero=>
     simp at hj;subst hj;rw[hd] at I;cases I;exact absurd (J i oi (by simpa using hi) u) N
    |succ j=>rw[ih h0.2 i j oi oj s (by simpa using hi) (by simpa using hj) u I]
theorem ad2 (ops:Array Oper) (o:Oper):YT ops.toList o=o.looksAt ops:=by
 unfold YT Oper.looksAt;congr 1
 cases o.guard<;>simp
theorem Yg {ops:List Oper} {pbs:List Nat} {i:Nat} {o:Oper}:∀(l:List (Nat×Oper)),RS ops pbs i o l=true->∀j p d,(j,p)∈l->p.dst=some d->d∈YT ops o->
  i=j\/(pbs.getD i 0).testBit j=true\/(pbs.getD j 0).testBit i=true:=by
 intro l
 induction l with
 |nil=>intro _ j p d h;cases h
 |cons x l ih=>
  obtain⟨k,q⟩:=x;intro h j p d hm hd hl;simp only[RS,akN] at h
  cases hm with
  |head=>
   rw[hd] at h;simp only[ami,alF,beq_eq] at h;rcases h.1 with (h1|h1)|h1
   ·exact .inl h1
   ·rw[sN.2 hl] at h1;cases h1
   ·exact .inr h1
  |tail _ hm=>exact ih h.2 j p d hm hd hl
structure ROk (ops:Array Oper):Prop where
 dst:∀(i j:Nat) (oi oj:Oper) (s:Nat),ops[i]? =some oi->ops[j]? =some oj->oi.dst=some s->oj.dst=some s->i=j
 apart:∀(i j:Nat) (oi oj:Oper) (s:Nat),ops[i]? =some oi->ops[j]? =some oj->oj.dst=some s->s∈oi.looksAt ops->i=j\/Pre ops j i\/Pre ops i j
 back:∀i j,Dir ops j i->j<i
theorem Xg {ops:Array Oper} (h:OV ops.toList (Au ops.toList [])=true):ROk ops:=by
 simp only[OV,akN,alA] at h;refine⟨λi j oi oj s hi hj=>abP _ h.1 i j oi oj s (by simpa using hi) (by simpa using hj),λi j oi oj s hi hj hs hl=> ?_,λi j hd=> ?_⟩
 ·have:=(h.2 (i,oi) (xX.2 hi)).2;rcases Yg _ this j oj s (xX.2 hj) hs (by rw[ad2];exact hl) with h1|h1|h1
  ·exact .inl h1
  ·exact .inr (.inl (Vh h1))
  ·exact .inr (.inr (Vh h1))
 ·obtain⟨o,ho,e,he,hb,rfl⟩:=hd;have:=(h.2 (i,o) (xX.2 ho)).1;simp only[backOk,alA,ami,alF,al0] at this;rcases this e he with h1|h1
  ·rw[hb] at h1;cases h1
  ·exact h1
theorem adC {k:Kind} {x:k.T} {φ:k.T->Prop} (h:φ x):k.dec (k.enc x) φ:=by
 cases k with
 |int k=>
  have e:MO k k=true:=by cases k<;>rfl
  show cond (MO k k) (φ x) False;rw[e];exact h
 |_=>exact h
def Lin {α:Type} (F:(α->Prop)->Prop):Prop:=∀φ,F φ->∃v,φ v/\∀φ':α->Prop,φ' v->F φ'
theorem abE (op:BinOp) (k:IntKind) (a b:Int):Lin (MP op k a b):=by
 intro φ h
 cases op<;>simp only[MP] at h ⊢<;>first
  |exact⟨_,h,λ_ h'=>h'⟩
  |exact⟨_,h.2,λ_ h'=>⟨h.1,h'⟩⟩
  |exact h.elim
theorem abG (op:BinOp) (a b:ByteArray):Lin (Ny op a b):=by
 intro φ h
 cases op<;>simp only[Ny] at h ⊢<;>first
  |exact⟨_,h,λ_ h'=>h'⟩
  |exact⟨_,h.2,λ_ h'=>⟨h.1,h'⟩⟩
  |exact h.elim
theorem Ul (op:BinOp) (x y:Value):Lin (Mc op x y):=by
 intro φ h
 cases x with
 |int k n=>
  cases y with
  |int k' m=>
   by_cases h1:op= .shl
   ·subst h1;exact⟨_,h.2,λ_ h'=>⟨h.1,h'⟩⟩
   ·by_cases h2:op= .shr
    ·subst h2;exact⟨_,h.2,λ_ h'=>⟨h.1,h'⟩⟩
    ·have e:∀φ,Mc op (.int k n) (.int k' m) φ=cond (MO k k') (MP op k n m φ) False:=by
      intro φ;cases op<;>first|rfl|exact absurd rfl h1|exact absurd rfl h2
     rw[e] at h
     cases hk:MO k k' with
     |false=>rw[hk] at h;exact h.elim
     |true=>
      rw[hk] at h;obtain⟨v,hv,h'⟩:=abE op k n m φ h;exact⟨v,hv,λφ' hφ=>by rw[e,hk];exact h' φ' hφ⟩
  |_=>cases op<;>exact h.elim
 |string s=>
  cases y with
  |string s'=>
   have e:∀φ,Mc op (.string s) (.string s') φ=Ny op s s' φ:=by intro φ;cases op<;>rfl
   rw[e] at h;obtain⟨v,hv,h'⟩:=abG op s s' φ h;exact⟨v,hv,λφ' hφ=>by rw[e];exact h' φ' hφ⟩
  |_=>cases op<;>exact h.elim
 |_=>cases op<;>exact h.elim
theorem XP (d:TypeDesc) (x y:Value):Lin (LD d x y):=by
 intro φ h;unfold LD at h ⊢;split at h<;>first|exact⟨_,h,λ_ h'=>h'⟩|exact h.elim
theorem YQ (P:Program) (op:BinOp) (t:TypeId) (x y:Value):Lin (H6 P op t x y):=by
 intro φ h;unfold H6 at h ⊢;split at h
 ·exact Ul _ _ _ φ h
 ·exact Ul _ _ _ φ h
 ·split at h
  case h_2=>exact h.elim
  rename_i s ys ho
  cases hg:P.eqGuardType P.depth t with
  |true=>rw[hg] at h;exact h.elim
  |false=>
   simp only[hg,aaT] at h ⊢;split at h
   case h_2=>exact h.elim
   rename_i r hr;exact⟨_,h,λφ' hφ=>by simpa only [hr] using hφ⟩
 ·split at h
  ·obtain⟨v,hv,h'⟩:=XP _ _ _ _ h;exact⟨_,hv,λφ' hφ=>h' (λb=>φ' (.bool b)) hφ⟩
  ·obtain⟨v,hv,h'⟩:=XP _ _ _ _ h;exact⟨_,hv,λφ' hφ=>h' (λb=>φ' (.bool !b)) hφ⟩
  ·exact h.elim
theorem adZ (P:Program) (op:BinOp) (t:TypeId) (x y:Value):Lin (GN P op t x y):=by
 intro φ h;unfold GN at h ⊢;split at h<;>first|exact⟨_,h,λ_ h'=>h'⟩|exact h.elim
theorem ϥ (op:UnOp) (x:Value):Lin (OZ op x):=by
 intro φ h;unfold OZ at h ⊢;split at h<;>first|exact⟨_,h,λ_ h'=>h'⟩|exact h.elim
theorem wU {α:Type} (ρ:Operand->Value) (x:Option Operand) (d:Int) (F:Int->(α->Prop)->Prop) (hF:∀i,Lin (F i)):Lin (λφ=>zF ρ x d λi=>F i φ):=by
 intro φ h;unfold zF at h ⊢;split at h
 ·exact hF _ φ h
 ·split at h
  ·exact hF _ φ h
  ·exact h.elim
theorem YR (P:Program) (t:TypeId) (x:Value) (ρ:Operand->Value) (lo hi mx:Option Operand):Lin (Jy P t x ρ lo hi mx):=by
 intro φ h;unfold Jy at h ⊢;split at h
 ·split at h
  ·exact wU ρ lo 0 (λl (φ:Value->Prop)=>zF ρ hi _ λh=>aa3 _ l h λs'=>φ (.string s')) (λl=>wU ρ hi _ (λh (φ:Value->Prop)=>aa3 _ l h λs'=>φ (.string s'))
    λh φ hh=>⟨_,hh.2.2.2,λ_ h'=>⟨hh.1,hh.2.1,hh.2.2.1,h'⟩⟩) φ h
  ·exact h.elim
 ·split at h
  ·split at h
   ·exact wU ρ lo 0 (λl φ=>zF ρ hi _ λh=>kM _ _ l h λs'=>φ s'.v) (λl=>wU ρ hi _ (λh φ=>kM _ _ l h λs'=>φ s'.v)
     λh φ hh=>⟨_,hh.2.2.2,λ_ h'=>⟨hh.1,hh.2.1,hh.2.2.1,h'⟩⟩) φ h
   ·split at h
    ·exact wU ρ lo 0 (λl φ=>zF ρ _ 0 λh=>zF ρ _ 0 λm=>Tf _ _ l h m λs'=>φ s'.v) (λl=>wU ρ _ 0 (λh φ=>zF ρ _ 0 λm=>Tf _ _ l h m λs'=>φ s'.v)
      λh=>wU ρ _ 0 (λm φ=>Tf _ _ l h m λs'=>φ s'.v)
      λm φ hh=>⟨_,hh.2.2.2.2,λ_ h'=>⟨hh.1,hh.2.1,hh.2.2.1,hh.2.2.2.1,h'⟩⟩) φ h
    ·exact h.elim
  ·exact h.elim
 ·split at h
  ·split at h
   ·exact wU ρ lo 0 (λl φ=>zF ρ hi _ λh=>aa2 _ _ _ l h λs'=>φ s'.v) (λl=>wU ρ hi _ (λh φ=>aa2 _ _ _ l h λs'=>φ s'.v)
     λh φ hh=>⟨_,hh.2.2.2,λ_ h'=>⟨hh.1,hh.2.1,hh.2.2.1,h'⟩⟩) φ h
   ·exact h.elim
  ·exact h.elim
 ·exact h.elim
theorem Um (d:TypeDesc) (size off:Nat) (cs:List Value):Lin (partOf d size off cs):=by
 intro φ h;unfold partOf at h ⊢
 cases hg:IJ d with
 |true=>simp only[hg,aaU] at h ⊢;exact⟨_,h,λ_ h'=>h'⟩
 |false=>
  simp only[hg,aaT] at h ⊢;split at h
  ·exact⟨_,h,λ_ h'=>h'⟩
  ·exact h.elim
theorem QE (mx:Bool):∀(r:List Value) (x:Int) (k:IntKind),Lin (Gg mx x r k):=by
 intro r
 induction r with
 |nil=>exact λx k φ h=>⟨_,h,λ_ h'=>h'⟩
 |cons y r ih=>
  intro x k φ h
  cases y with
  |int ky y=>exact ih _ _ φ h
  |_=>exact h.elim
theorem Ϥ (P:Program) (s d:TypeId) (x:Value):Lin (RV P s d x):=by
 intro φ h;unfold RV at h ⊢;split at h<;>first|exact⟨_,h,λ_ h'=>h'⟩|exact h.elim
theorem ZF {P:Program} {b:Builtin} {ts:List TypeId} {args:List Value} {w:θ} {K:Value->b_}
  (hb:(b= .len/\∃t,ts=[t]/\∃d,P.underlying t=some d/\(d= .string\/(∃e,d= .slice e)\/∃n e,d= .array n e))\/b= .cap\/b= .max\/b= .min) (h:qc P b ts args w K):
  ∃v,K v w/\∀(w':θ) (K':Value->b_),K' v w'->qc P b ts args w' K':=by
 rcases hb with ⟨rfl,t,rfl,d,hd,hk⟩|rfl|rfl|rfl
 ·unfold qc at h ⊢;split at h<;>first|contradiction|exact h.elim|skip
  rename_i e1 e2
  cases e2
  simp only[hd] at h ⊢;rcases hk with rfl|⟨e,rfl⟩|⟨n,e,rfl⟩
  ·unfold PI at h ⊢;split at h<;>first|contradiction|exact h.elim|exact⟨_,h,λ_ _ h'=>h'⟩
  ·unfold PI at h ⊢;split at h<;>first|contradiction|exact h.elim|exact⟨_,h,λ_ _ h'=>h'⟩
  ·unfold PI at h ⊢;split at h<;>first|contradiction|exact h.elim|exact⟨_,h,λ_ _ h'=>h'⟩
 ·unfold qc at h ⊢;split at h<;>first|contradiction|exact h.elim|skip
  split at h
  ·exact⟨_,h,λ_ _ h'=>h'⟩
  ·exact h.elim
 ·unfold qc at h ⊢;split at h<;>first|contradiction|exact h.elim|skip
  obtain⟨v,hv,h'⟩:=QE _ _ _ _ _ h;exact⟨v,hv,λw' K' hk=>h' (λv=>K' v w') hk⟩
 ·unfold qc at h ⊢;split at h<;>first|contradiction|exact h.elim|skip
  obtain⟨v,hv,h'⟩:=QE _ _ _ _ _ h;exact⟨v,hv,λw' K' hk=>h' (λv=>K' v w') hk⟩
theorem ahX {P:Program} {o:Oper} {ρ:Operand->Value} {w:θ} {K:Value->b_} (u:BO P o=false) (hl:∀t x,o.op≠.load t x) (h:zC P o ρ w K):
  ∃v,K v w/\∀(w':θ) (K':Value->b_),K' v w'->zC P o ρ w' K':=by
 obtain⟨dst,op,type,pos,after,guard⟩:=o
 cases op<;>simp only[zC] at h ⊢<;>simp only[BO] at u
 case load t x=>exact absurd rfl (hl t x)
 case move x=>exact⟨_,h,λ_ _ h'=>h'⟩
 case assign x=>exact⟨_,h,λ_ _ h'=>h'⟩
 case pick c a b=>
  split at h
  ·rename_i t hc
   cases t with
   |true=>exact⟨_,h,λ_ _ h'=>h'⟩
   |false=>exact⟨_,h,λ_ _ h'=>h'⟩
  ·exact h.elim
 case build t ps=>
  split at h
  ·split at h
   ·rename_i pl hpl;split at h
    ·rename_i cs I;exact⟨_,h,λ_ _ h'=>h'⟩
    ·exact h.elim
   ·exact h.elim
  ·split at h
   ·rename_i size hs;split at h
    ·rename_i cs I;exact⟨_,h,λ_ _ h'=>h'⟩
    ·exact h.elim
   ·exact h.elim
  ·exact h.elim
 case nilCheck x=>
  split at h
  ·obtain⟨a,ha,h⟩:=h;exact⟨_,h,λ_ _ h'=>⟨a,ha,h'⟩⟩
  ·exact h.elim
 case binOp op t x y yt=>
  split at h
  ·obtain⟨v,hv,h'⟩:=adZ P op t _ _ _ h;exact⟨v,hv,λw' K' hk=>h' (λv=>K' v w') hk⟩
  ·obtain⟨v,hv,h'⟩:=YQ P op t _ _ _ h;exact⟨v,hv,λw' K' hk=>h' (λv=>K' v w') hk⟩
 case unOp op t x=>
  obtain⟨v,hv,h'⟩:=ϥ op _ _ h;exact⟨v,hv,λw' K' hk=>h' (λv=>K' v w') hk⟩
 case convert s d x=>
  split at h
  ·rename_i hs hd hx;rw[hs,hd] at u
   cases u
  ·rename_i hs hd hx;rw[hs,hd] at u
   cases u
  ·rename_i hs hd hx;rw[hs,hd] at u
   cases u
  ·obtain⟨v,hv,h'⟩:=Ϥ P s d _ _ h;exact⟨v,hv,λw' K' hk=>h' (λv=>K' v w') hk⟩
 case makeFunc fn first cap=>exact⟨_,h,λ_ _ h'=>h'⟩
 case slice t x lo hi mx=>
  obtain⟨v,hv,h'⟩:=YR P t _ ρ lo hi mx _ h;exact⟨v,hv,λw' K' hk=>h' (λv=>K' v w') hk⟩
 case fieldAddr t x f=>
  split at h
  ·rename_i fs a ht hx;split at h
   ·rename_i off size hf
    cases hb:Nat.beq size 0 with
    |true=>rw[hb] at h;exact False.elim h
    |false=>
     have h2:K (.pointer (some (a.add off))) w:=by rw[hb] at h;exact h
     exact⟨_,h2,λ_ _ h'=>h'⟩
   ·exact h.elim
  ·exact h.elim
 case field t x f=>
  split at h
  ·split at h
   ·rename_i fd hf;split at h
    ·rename_i d size hd hs;obtain⟨v,hv,h'⟩:=Um _ _ _ _ _ h;exact⟨v,hv,λw' K' hk=>h' (λv=>K' v w') hk⟩
    ·exact h.elim
   ·exact h.elim
  ·exact h.elim
 case indexAddr t x i=>
  split at h
  ·split at h
   ·rename_i size hs;obtain⟨a',h1,h2,h3,h⟩:=h;exact⟨_,h,λ_ _ h'=>⟨a',h1,h2,h3,h'⟩⟩
   ·exact h.elim
  ·split at h
   ·rename_i size hs;obtain⟨h2,h3,h⟩:=h;exact⟨_,h,λ_ _ h'=>⟨h2,h3,h'⟩⟩
   ·exact h.elim
  ·exact h.elim
 case index t x i=>
  split at h
  ·obtain⟨b,h1,h2,h⟩:=h;exact⟨_,h,λ_ _ h'=>⟨b,h1,h2,h'⟩⟩
  ·split at h
   ·rename_i d size hd hs;obtain⟨h1,h2,h⟩:=h;obtain⟨v,hv,h'⟩:=Um _ _ _ _ _ h;exact⟨v,hv,λw' K' hk=>⟨h1,h2,h' (λv=>K' v w') hk⟩⟩
   ·exact h.elim
  ·exact h.elim
 case extract t i=>
  split at h
  ·split at h
   ·rename_i v hv;split at h
    ·obtain⟨x,hx,h⟩:=NY h;exact⟨_,h,λ_ _ h'=>by rw[hx];exact adC h'⟩
    ·exact⟨_,h,λ_ _ h'=>h'⟩
   ·exact h.elim
  ·exact h.elim
 case call c=>
  split at h
  ·rename_i f hc;simp only[hc] at u;cases u
  ·rename_i hc;simp only[hc] at u;cases u
  ·rename_i b hc;simp only[hc] at u;refine ZF ?_ h
   cases b<;>first|(cases u;done)|(exact .inr (.inl rfl))|(exact .inr (.inr (.inl rfl)))|(exact .inr (.inr (.inr rfl)))|skip
   refine .inl ⟨rfl,?_⟩;simp only at u;split at u
   ·rename_i t ht;refine⟨t,ht,?_⟩;split at u<;>first|(cases u;done)|skip
    ·rename_i hd;exact⟨_,hd,.inl rfl⟩
    ·rename_i hd;exact⟨_,hd,.inr (.inl ⟨_,rfl⟩)⟩
    ·rename_i hd;exact⟨_,hd,.inr (.inr ⟨_,_,rfl⟩)⟩
   ·cases u
  ·rename_i hc;simp only[hc] at u;cases u
 all_goals first|exact h.elim|(cases u;done)
def Ex (P:Program) (r:Option Nat) (ops:Array Oper) (i:Nat) (o:Oper) (E:Env) (v:Value) (w:θ):Prop:=
 ∀(n:Nat) (Q:Exit->Act->b_) (a:Act) (next:Act->b_),ZX E a (o.looksAt ops)->next (a.put o.dst v) w->wpOpIn (Fr r) n P ops Q i next a w
theorem Jz {w:θ} {a:Addr} {rest:Prop}:∀(vs:List Value) (i:Nat),ET vs w a i rest->(∀j v,vs[j]? =some v->w.cell? (a.add (i+j))=some v)/\rest:=by
 intro vs
 induction vs with
 |nil=>exact λi h=>⟨λj v hj=>by simp at hj,h⟩
 |cons v vs ih=>
  rintro i ⟨h1,h2⟩;obtain⟨h3,h4⟩:=ih (i+1) h2;refine⟨λj u hj=> ?_,h4⟩
  cases j with
  |zero=>simp at hj;subst hj;exact h1
  |succ j=>rw[show i+(j+1)=i+1+j by omega];exact h3 j u (by simpa using hj)
theorem Vw {w:θ} {a:Addr} {rest:Prop}:∀(vs:List Value) (i:Nat),ET vs w a i rest->ET vs w a i True:=by
 intro vs
 induction vs with
 |nil=>exact λ_ _=>trivial
 |cons v vs ih=>exact λi h=>⟨h.1,ih _ h.2⟩
theorem ab9 {sh:Shape} {av v:Value} {w:θ} {rest:Prop} (h:GY sh av v w rest):GY sh av v w True/\rest:=by
 unfold GY at h ⊢;split at h
 ·exact⟨⟨h.1,trivial⟩,h.2⟩
 ·exact⟨Vw _ _ h,(Jz _ _ h).2⟩
 ·exact h.elim
theorem ab_ {pb:Nat} {w:θ} {rest:Prop}:∀(ld:List (Nat×Shape×Value×Value)),aaA pb w ld rest->
  rest/\∀i sh av v,(i,sh,av,v)∈ld->pb.testBit i=true\/GY sh av v w True:=by
 intro ld
 induction ld with
 |nil=>exact λh=>⟨h,λi sh av v hm=>by cases hm⟩
 |cons x ld ih=>
  obtain⟨i,sh,av,v⟩:=x;intro h;simp only[aaA] at h
  cases hb:pb.testBit i with
  |true=>
   rw[hb] at h;obtain⟨h1,h2⟩:=ih h;refine⟨h1,λj sj bv u hm=> ?_⟩
   cases hm with
   |head=>exact .inl hb
   |tail _ hm=>exact h2 _ _ _ _ hm
  |false=>
   rw[hb] at h;obtain⟨h0,h⟩:=ab9 h;obtain⟨h1,h2⟩:=ih h;refine⟨h1,λj sj bv u hm=> ?_⟩
   cases hm with
   |head=>exact .inr h0
   |tail _ hm=>exact h2 _ _ _ _ hm
theorem adY {w:θ} {a:Addr}:∀(ks:List Kind) (i:Nat) (φ:List Value->Prop),LdN ks w a i φ->
  ∃vs,φ vs/\(∀j v,vs[j]? =some v->w.cell? (a.add (i+j))=some v)/\
   ∀w':θ,(∀j v,vs[j]? =some v->w'.cell? (a.add (i+j))=some v)->∀φ':List Value->Prop,φ' vs->LdN ks w' a i φ':=by
 intro ks
 induction ks with
 |nil=>exact λi φ h=>⟨[],h,λj v hj=>by simp at hj,λ_ _ φ' h'=>h'⟩
 |cons k ks ih=>
  rintro i φ ⟨x,hx,h⟩;obtain⟨vs,hφ,hc,u⟩:=ih (i+1) _ h;refine⟨k.enc x::vs,hφ,λj v hj=> ?_,λw' hw φ' h'=> ?_⟩
  ·cases j with
   |zero=>simp at hj;subst hj;exact hx
   |succ j=>rw[show i+(j+1)=i+1+j by omega];exact hc j v (by simpa using hj)
  ·refine⟨x,by simpa using hw 0 (k.enc x) (by simp),u w' (λj v hj=> ?_) _ h'⟩;have:=hw (j+1) v (by simpa using hj)
   rwa [show i+(j+1)=i+1+j by omega] at this
theorem abH {sh:Shape} {w:θ} {a:Addr} {φ:Value->Prop} (h:sh.ld w a φ):
  ∃v,φ v/\(∀φ':Value->Prop,φ' v->sh.ld w a φ')/\∀w',GY sh (.pointer (some a)) v w' True->∀φ':Value->Prop,φ' v->sh.ld w' a φ':=by
 cases sh with
 |one k=>
  obtain⟨x,hx,h⟩:=h;exact⟨_,h,λφ' h'=>⟨x,hx,h'⟩,λw' hs φ' h'=>⟨x,hs.1,h'⟩⟩
 |agg ks=>
  obtain⟨vs,hφ,hc,u⟩:=adY ks 0 _ h;exact⟨_,hφ,λφ' h'=>u w hc (λvs=>φ' (.agg ⟨vs⟩)) h',λw' hs φ' h'=>u w' (Jz _ _ hs).1 (λvs=>φ' (.agg ⟨vs⟩)) h'⟩
theorem akv {P:Program} {o:Oper} {ρ:Operand->Value} {w:θ} {K:Value->b_} (u:BO P o=false) (h:zC P o ρ w K):
  ∃v,K v w/\(∀K':Value->b_,K' v w->zC P o ρ w K')/\
   ((∀(w':θ) (K':Value->b_),K' v w'->zC P o ρ w' K')\/
    ∃t x d sh,o.op= .load t x/\o.dst=some d/\shapeOf P t=some sh/\∀w',GY sh (ρ x) v w' True->∀K':Value->b_,K' v w'->zC P o ρ w' K'):=by
 by_cases hl:∃t x,o.op= .load t x
 ·obtain⟨t,x,ho⟩:=hl;have hd:∃d,o.dst=some d:=by
   simp only[BO,ho] at u
   cases hd:o.dst with
   |none=>simp[hd] at u
   |some d=>exact⟨d,rfl⟩
  obtain⟨d,hd⟩:=hd;have e:∀w K,zC P o ρ w K=(match ρ x,shapeOf P t,jF P t with
    | .pointer (some a),some sh,some n=>cond (Nat.beq sh.cells n) (sh.ld w a λv=>K v w) False
    |_,_,_=>False):=by
   intro w K;simp only[zC,ho]<;>rfl
  rw[e] at h;split at h
  ·rename_i a sh n hx hs hn
   cases hb:Nat.beq sh.cells n with
   |false=>rw[hb] at h;exact h.elim
   |true=>
    rw[hb] at h;obtain⟨v,hv,h1,h2⟩:=abH h;have e':∀w K,zC P o ρ w K=sh.ld w a λv=>K v w:=by
     intro w K;rw[e];simp only[hx,hs,hn,hb,aaU]
    refine⟨v,hv,λK' hk=> ?_,.inr ⟨t,x,d,sh,ho,hd,hs,λw' I K' hk=> ?_⟩⟩
    ·rw[e'];exact h1 (λv=>K' v w) hk
    ·rw[e'];rw[hx] at I;exact h2 w' I (λv=>K' v w') hk
  ·exact h.elim
 ·obtain⟨v,hv,h'⟩:=ahX u (λt x e=>hl ⟨t,x,e⟩) h;exact⟨v,hv,λK' hk=>h' w K' hk,.inl h'⟩
theorem ahF {P:Program} (hP:Xo P) {nt:Nat} {ops:Array Oper} {i:Nat} {o:Oper} {g:Bool} {env:Env} {w:θ} {K:Env->b_} (r:Option Nat)
  (ho:ops[i]? =some o) (N:BO P o=false) (h:t_ P nt ops.toList o g env w K):
  ∃v,uh nt o.dst=true/\K (env.put o.dst v) w/\Ex P r ops i o env v w/\
   ((∀w',Ex P r ops i o env v w')\/∃sh av,(∀ld,(i,sh,av,v)∈Uo P ops.toList i o env (env.put o.dst v) ld)/\∀w',GY sh av v w' True->Ex P r ops i o env v w'):=by
 have run:∀(K':Env->b_),yO P nt o g env w K'->t_ P nt ops.toList o g env w K->(∀w' (K'':Env->b_),yO P nt o false env w' K''->t_ P nt ops.toList o false env w' K'')->
   YH ops.toList o env=true->yO P nt o g env w K->
   ∃v,uh nt o.dst=true/\K (env.put o.dst v) w/\Ex P r ops i o env v w/\
   ((∀w',Ex P r ops i o env v w')\/∃sh av,(∀ld,(i,sh,av,v)∈Uo P ops.toList i o env (env.put o.dst v) ld)/\∀w',GY sh av v w' True->Ex P r ops i o env v w'):=by
  intro _ _ _ I O h;unfold yO at h
  cases hb:(adD env o.op.operands.toList && uh nt o.dst) with
  |false=>rw[hb] at h;exact h.elim
  |true=>
   rw[hb] at h;simp only[aaU] at h;have J:uh nt o.dst=true:=by simp only[akN] at hb;exact hb.2
   obtain⟨v,hv,h1,h2⟩:=akv N h;have mk:∀w',(∀K':Value->b_,K' v w'->zC P o (ev env) w' K')->Ex P r ops i o env v w':=by
    intro w' hw' n Q a next ha hn
    have hx2:yO P nt o false env w' λenv' w''=>(∀u,env'=env.put o.dst u->u=v\/o.dst=none)/\w''=w':=by
     unfold yO;rw[hb];simp only[aaU];refine hw' _ ?_;simp only[split,aaT];refine⟨λu hu=> ?_,by trivial⟩
     cases hd:o.dst with
     |none=>exact .inr rfl
     |some d=>
      left;rw[hd] at hu;simp only[Env.put,alP,alp,afu,alO] at hu;exact hu.symm
    refine Ep hP ho (I w' _ hx2) ha λu w'' hu _=> ?_;obtain⟨hu,rfl⟩:=hu;rcases hu u rfl with rfl|hd
    ·exact hn
    ·rw[hd] at hn ⊢;exact hn
   refine⟨v,J,Vu hv,mk w h1,?_⟩;rcases h2 with h2|⟨t,x,d,sh,e1,e2,e3,h2⟩
   ·exact .inl λw'=>mk w' (h2 w')
   ·refine .inr ⟨sh,ev env x,λld=> ?_,λw' hs=>mk w' (h2 w' hs)⟩;simp only[Uo,e1,e2,O,aaU,e3];have:ev (env.put (some d) v) (.tmp d)=v:=by simp[ev,evO,Env.put,pJ]
    rw[this];exact alQ ..
 unfold t_ at h
 cases hg:o.guard with
 |none=>
  simp only[hg] at h;exact run _ h (by unfold t_;simp only[hg];exact h) (λw' K'' hx=>by unfold t_;simp only[hg];exact hx) (by simp[YH,hg]) h
 |some jw=>
  obtain⟨j,want⟩:=jw;simp only[hg] at h
  cases hs:(ops.toList[j]?).bind (·.dst) with
  |none=>simp only[hs] at h
  |some s=>
   simp only[hs] at h;split at h
   ·rename_i t ht
    cases hb:(t==want) with
    |true=>
     rw[hb] at h;refine run _ h (by unfold t_;simp only[hg,hs,ht,hb];exact h) (λw' K'' hx=>by unfold t_;simp only[hg,hs,ht,hb];exact hx) (by simp only[YH,hg,hs,ht];exact hb) h
    |false=>
     rw[hb] at h;simp only[aaT] at h
     cases hd:uh nt o.dst with
     |false=>rw[hd] at h;exact h.elim
     |true=>
      rw[hd] at h;have mk:∀w',Ex P r ops i o env undef w':=by
       intro w' n Q a next ha hn
       have hy:=QO (ha _ (Dv hg hs)) hs ht;have hw:¬(Region.wanted o (yielded ops a.tmps)=true):=by
        have:t≠want:=by intro e;simp[e] at hb
        simp[Region.wanted,hg,hy,this]
       unfold wpOpIn;simp only[ho];rw[ada hw];exact⟨λ_ _=>trivial,hn⟩
      exact⟨undef,by first|exact hd|rfl,h,mk w,.inl mk⟩
   ·rename_i vs ht
    cases hd:uh nt o.dst with
    |false=>rw[hd] at h;exact h.elim
    |true=>
     rw[hd] at h;have mk:∀w',Ex P r ops i o env undef w':=by
      intro w' n Q a next ha hn
      have hw:¬(Region.wanted o (yielded ops a.tmps)=true):=by
       have h1':(ops[j]?).bind (·.dst)=some s:=by simpa using hs
       have:=(ha _ (Dv hg hs)) _ ht;simp[Region.wanted,hg,yielded,h1',this]
      unfold wpOpIn;simp only[ho];rw[ada hw];exact⟨λ_ _=>trivial,hn⟩
     exact⟨undef,by first|exact hd|rfl,h,mk w,.inl mk⟩
   ·exact h.elim
end Gp
end
section
namespace Gp
open Go
def Yd (listed:Array Bool) (i:Nat):Prop:=listed.getD i false=true
structure Sim (P:Program) (r:Option Nat) (nt:Nat) (dfr:List Deferred) (ws:List Nat) (a0:Act) (ops:Array Oper)
  (D:Nat->Prop) (p:List Nat) (ld:List (Nat×Shape×Value×Value)) (V:Nat->Value) (E:Nat->Env) (env:Env) (a:Act) (w:θ):Prop where
 sub:∀i,D i->i∈p
 lt:∀i∈p,i<ops.size
 closedP:∀i j,i∈p->Dir ops j i->j∈p
 closedD:∀i j,D i->Dir ops j i->D j
 pend:∀i∈p,¬D i->∀o,ops[i]? =some o->BO P o=false/\uh nt o.dst=true/\Ex P r ops i o (E i) (V i) w/\
  ((∀w',Ex P r ops i o (E i) (V i) w')\/∃sh av,(i,sh,av,V i)∈ld/\∀w',GY sh av (V i) w' True->Ex P r ops i o (E i) (V i) w')
 look:∀i∈p,¬D i->∀o,ops[i]? =some o->∀s∈o.looksAt ops,(∀(j:Nat) (oj:Oper),ops[j]? =some oj->oj.dst=some s->Pre ops j i->D j)->∀u,(E i).get s=some u->a.tmps[s]? =some u
 src:∀i∈p,¬D i->∀(j:Nat) (oj:Oper) (s:Nat),Pre ops j i->ops[j]? =some oj->oj.dst=some s->(E i).get s=some (V j)
 cur:∀s u,(∀(j:Nat) (oj:Oper),j∈p->¬D j->ops[j]? =some oj->oj.dst≠some s)->env.get s=some u->a.tmps[s]? =some u
 val:∀(j:Nat) (oj:Oper) (s:Nat),j∈p->ops[j]? =some oj->oj.dst=some s->env.get s=some (V j)
 size:a.tmps.size=nt
 defers:a.defers=dfr
 same:∀s,s∉ws->a.tmps[s]? =a0.tmps[s]?
theorem Dt (env:Env) (d:Option Nat) (v:Value) (s:Nat):(env.put d v).get s=if d=some s then some v else env.get s:=by
 cases d with
 |none=>rfl
 |some d=>simp only[Env.put,pJ,agP]
section
variable {P:Program} {r:Option Nat} {nt:Nat} {dfr:List Deferred} {ws:List Nat} {a0:Act} {ops:Array Oper}
theorem Sim.more {D:Nat->Prop} {p:List Nat} {ld:List (Nat×Shape×Value×Value)} {V:Nat->Value} {E:Nat->Env} {env:Env} {a:Act} {w:θ} (hR:ROk ops)
  (hs:Sim P r nt dfr ws a0 ops D p ld V E env a w) {i:Nat} {o:Oper} {v:Value} (ho:ops[i]? =some o) (hi:i∉p) (hne:BO P o=false) (U:∀j,Dir ops j i->j∈p)
  (hd:uh nt o.dst=true) (hex:Ex P r ops i o env v w) {ld':List (Nat×Shape×Value×Value)} (hld:∀x∈ld,x∈ld')
  (hag:(∀w',Ex P r ops i o env v w')\/∃sh av,(i,sh,av,v)∈ld'/\∀w',GY sh av v w' True->Ex P r ops i o env v w'):
  Sim P r nt dfr ws a0 ops D (i::p) ld' (λk=>if k=i then v else V k) (λk=>if k=i then env else E k) (env.put o.dst v) a w:=by
 have hD:=λh=>hi (hs.sub i h);have aa:∀j,Pre ops j i->j∈p:=λj hj=>AP hs.closedP U hj;have hself:=λh=>hi (aa i h);refine⟨λj hj=>alm _ (hs.sub j hj),?_,?_,hs.closedD,?_,?_,?_,?_,?_,hs.size,hs.defers,hs.same⟩
 ·intro j hj
  cases hj with
  |head=>grind
  |tail _ hj=>exact hs.lt j hj
 ·intro j k hj hk
  cases hj with
  |head=>simp_all
  |tail _ hj=>exact alm _ (hs.closedP j k hj hk)
 ·intro j hj N oj I;by_cases e:j=i
  ·simp_all
  ·simp only[ada e];have hj':j∈p:=by simp_all
   obtain⟨h1,h2,h3,h4⟩:=hs.pend j hj' N oj I
   grind
 ·intro j hj N oj I s ab hw u hu;by_cases e:j=i
  ·subst e;rw[ho] at I
   cases I
   simp only[aiS] at hu;refine hs.cur s u (λk ok J hkd O R=> ?_) hu;rcases hR.apart j k o ok s ho O R ab with h|h|h
   ·simp_all
   ·simp_all
   ·exact hi (yj hs.closedP h J)
  ·simp only[ada e] at hu;have hj':j∈p:=by simp_all
   exact hs.look j hj' N oj I s ab hw u hu
 ·intro j hj N k ok s W O R;by_cases e:j=i
  ·subst e;simp only[aiS];have J:=aa k W;have Y:k≠j:=λh=>hi (h ▸ J);rw[ada Y];exact hs.val k ok s J O R
  ·simp only[ada e];have hj':j∈p:=by simp_all
   have J:=yj hs.closedP W hj';have Y:k≠i:=λh=>hi (h ▸ J);rw[ada Y];exact hs.src j hj' N k ok s W O R
 ·intro s u hn hu;have Z:=hn i o (alQ ..) hD ho;rw[Dt,ada Z] at hu;exact hs.cur s u (λj oj hj=>hn j oj (alm _ hj)) hu
 ·intro j oj s hj I ac;rw[Dt];by_cases e:j=i
  ·simp_all
  ·have hj':j∈p:=by simp_all
   have Z:=λh=>e (hR.dst j i oj o s I ho ac h);rw[ada Z,ada e];exact hs.val j oj s hj' I ac
theorem Sim.take {D:Nat->Prop} {p:List Nat} {ld:List (Nat×Shape×Value×Value)} {V:Nat->Value} {E:Nat->Env} {env:Env} {a:Act} {w:θ} (hR:ROk ops)
  (hs:Sim P r nt dfr ws a0 ops D p ld V E env a w) {i:Nat} {o:Oper} (ho:ops[i]? =some o) (hi:i∈p) (aa:¬D i) (J:∀j,Dir ops j i->D j) (ab:∀d∈NZ ops.toList,d∈ws)
  {D':Nat->Prop} (hD':∀k,D' k↔D k\/k=i):Sim P r nt dfr ws a0 ops D' p ld V E env (a.put o.dst (V i)) w:=by
 have hpp:∀j,Pre ops j i->D j:=λj hj=>AP hs.closedD J hj;obtain⟨_,hd,_⟩:=hs.pend i hi aa o ho;have N:=λd h=>ab d (amk.2 ⟨o,akK (by simpa using ho),h⟩);have I:∀k,¬D' k->¬D k/\k≠i:=λk h=>⟨λx=>h ((hD' k).2 (.inl x)),λx=>h ((hD' k).2 (.inr x))⟩;have U:∀d,o.dst=some d->d<a.tmps.size:=λd h=>by
  rw[h] at hd;rw[hs.size];simpa [uh] using hd
 refine⟨?_,hs.lt,hs.closedP,?_,?_,?_,?_,?_,hs.val,by rw[Ej];exact hs.size,by rw[Jt];exact hs.defers,?_⟩
 ·intro j hj;rcases(hD' j).1 hj with h|rfl
  ·exact hs.sub j h
  ·exact hi
 ·intro j k hj hk;rcases(hD' j).1 hj with h|rfl
  ·exact(hD' k).2 (.inl (hs.closedD j k h hk))
  ·exact(hD' k).2 (.inl (J k hk))
 ·intro j hj hn;exact hs.pend j hj (I j hn).1
 ·intro j hj hn oj O s W hw u hu;obtain⟨hn1,hn2⟩:=I j hn;rw[Dy];by_cases e:o.dst=some s
  ·rw[aeH ⟨e,U s e⟩];rcases hR.apart j i oj o s O ho e W with h|h|h
   ·trivial
   ·rw[hs.src j hj hn1 i o s h ho e] at hu;exact hu
   simp_all
  ·rw[ada (λx=>e x.1)];refine hs.look j hj hn1 oj O s W (λk ok R Y ac=> ?_) u hu;rcases(hD' k).1 (hw k ok R Y ac) with h|rfl
   ·exact h
   ·rw[ho] at R;cases R;exact absurd Y e
 ·intro j hj hn;exact hs.src j hj (I j hn).1
 ·intro s u hn hu;rw[Dy];by_cases e:o.dst=some s
  ·rw[aeH ⟨e,U s e⟩,<- hu];exact(hs.val i o s hi ho e).symm
  ·rw[ada (λx=>e x.1)];refine hs.cur s u (λj oj hj hjd O=> ?_) hu
   grind
 ·intro s Z;rw[Dy,ada (λx=>Z (N s x.1))];exact hs.same s Z
theorem Sim.eff {D:Nat->Prop} {p:List Nat} {ld:List (Nat×Shape×Value×Value)} {V:Nat->Value} {E:Nat->Env} {env:Env} {a:Act} {w w':θ} (hR:ROk ops)
  (hs:Sim P r nt dfr ws a0 ops D p ld V E env a w) {i:Nat} {o:Oper} {v:Value} (ho:ops[i]? =some o) (hi:i∉p) (J:∀j,Dir ops j i->D j) (hd:uh nt o.dst=true)
  (hst:∀j sh av v,(j,sh,av,v)∈ld->¬D j->GY sh av v w' True) (ac:∀d∈NZ ops.toList,d∈ws)
  {D':Nat->Prop} (hD':∀k,D' k↔D k\/k=i):
  Sim P r nt dfr ws a0 ops D' (i::p) ld (λk=>if k=i then v else V k) E (env.put o.dst v) (a.put o.dst v) w':=by
 have hpp:∀j,Pre ops j i->D j:=λj hj=>AP hs.closedD J hj;have Y:=λd h=>ac d (amk.2 ⟨o,akK (by simpa using ho),h⟩);have N:∀k,¬D' k->¬D k/\k≠i:=λk h=>⟨λx=>h ((hD' k).2 (.inl x)),λx=>h ((hD' k).2 (.inr x))⟩;have hlt:∀d,o.dst=some d->d<a.tmps.size:=λd h=>by
  rw[h] at hd;rw[hs.size];simpa [uh] using hd
 have R:∀j,j∈i::p->j≠i->j∈p:=λj hj hne=>by simp_all
 refine⟨?_,?_,?_,?_,?_,?_,?_,?_,?_,by rw[Ej];exact hs.size,by rw[Jt];exact hs.defers,?_⟩
 ·intro j hj;rcases(hD' j).1 hj with h|rfl
  ·exact alm _ (hs.sub j h)
  simp
 ·intro j hj
  cases hj with
  |head=>grind
  |tail _ hj=>exact hs.lt j hj
 ·intro j k hj hk
  cases hj with
  |head=>exact alm _ (hs.sub k (J k hk))
  |tail _ hj=>exact alm _ (hs.closedP j k hj hk)
 ·intro j k hj hk;rcases(hD' j).1 hj with h|rfl
  ·exact(hD' k).2 (.inl (hs.closedD j k h hk))
  ·exact(hD' k).2 (.inl (J k hk))
 ·intro j hj hn oj I;obtain⟨hn1,hn2⟩:=N j hn;obtain⟨h1,h2,h3,h4⟩:=hs.pend j (R j hj hn2) hn1 oj I
  grind
 ·intro j hj hn oj I s Z hw u hu;obtain⟨hn1,hn2⟩:=N j hn;have hj':=R j hj hn2;rw[Dy];by_cases e:o.dst=some s
  ·rcases hR.apart j i oj o s I ho e Z with h|h|h
   ·trivial
   ·exact absurd (yj hs.closedP h hj') hi
   simp_all
  ·rw[ada (λx=>e x.1)];refine hs.look j hj' hn1 oj I s Z (λk ok O U W=> ?_) u hu;rcases(hD' k).1 (hw k ok O U W) with h|rfl
   ·exact h
   ·rw[ho] at O;cases O;exact absurd U e
 ·intro j hj hn k ok s W O U;obtain⟨hn1,hn2⟩:=N j hn;have hj':=R j hj hn2;have ae:=yj hs.closedP W hj';have af:k≠i:=λh=>hi (h ▸ ae);rw[ada af];exact hs.src j hj' hn1 k ok s W O U
 ·intro s u hn hu;rw[Dy];rw[Dt] at hu;by_cases e:o.dst=some s
  ·simp_all
  ·rw[ada (λx=>e x.1)];rw[ada e] at hu;refine hs.cur s u (λj oj hj hjd I=> ?_) hu
   grind
 ·intro j oj s hj I aa;rw[Dt];by_cases e:j=i
  ·simp_all
  ·have ag:=λh=>e (hR.dst j i oj o s I ho aa h);rw[ada ag,ada e];exact hs.val j oj s (R j hj e) I aa
 ·intro s ab;rw[Dy,ada (λx=>ab (Y s x.1))];exact hs.same s ab
theorem QG {done:List Nat} {i:Nat} {o:Oper} (ho:ops[i]? =some o):wV done o=true↔∀j,Dir ops j i->j∈done:=by
 simp only[wV,alA,ami,alF];constructor
 ·rintro h j ⟨o',ho',e,he,hb,rfl⟩;rw[ho] at ho'
  cases ho'
  rcases h e he with h1|h1
  ·simp_all
  ·exact sN.1 h1
 ·intro h e he
  cases hb:Region.binds .any e with
  |false=>simp
  |true=>exact .inr (sN.2 (h e.on ⟨o,ho,e,he,hb,rfl⟩))
theorem normalize (hP:Xo P) (hR:ROk ops) {pbs:List Nat} {K:Env->b_} {D:Nat->Prop} {a:Act} {w:θ}:
  ∀(fuel:Nat) (p:List Nat) (ld:List (Nat×Shape×Value×Value)) (V:Nat->Value) (E:Nat->Env) (env:Env),
   Sim P r nt dfr ws a0 ops D p ld V E env a w->yN P nt ops.toList pbs fuel p ld env w K->
   ∃fuel' p' ld' V' E' env',Sim P r nt dfr ws a0 ops D p' ld' V' E' env' a w/\yN P nt ops.toList pbs (fuel'+1) p' ld' env' w K/\yQ P p' (enumFrom 0 ops.toList)=none:=by
 intro fuel
 induction fuel with
 |zero=>intro p ld V E env _ h;exact h.elim
 |succ fuel ih=>
  intro p ld V E env hs h
  cases hf:yQ P p (enumFrom 0 ops.toList) with
  |none=>grind
  |some x=>
   obtain⟨i,o⟩:=x;simp only[yN,hf] at h;obtain⟨hm,hi,u,I⟩:=YD _ hf;have ho:=xX.1 hm;obtain⟨v,hd,hK,hex,hag⟩:=ahF hP r ho u h;refine ih _ _ _ _ _ (hs.more hR ho hi u ((QG ho).1 I) hd hex (λx hx=> ?_) ?_) hK
   ·unfold Uo
    grind
   grind
end
end Gp
end
section
namespace Gp
open Go
section
variable {P:Program} {r:Option Nat} {nt:Nat} {dfr:List Deferred} {ws:List Nat} {a0:Act} {ops:Array Oper}
def nF:List Bool->Nat
 |[]=>0
 |b::l=>(if b then 0 else 1)+nF l
theorem ajt:∀(l:List Bool) (i:Nat),l[i]? =some false->nF (l.set i true)+1=nF l:=by
 intro l
 induction l with
 |nil=>intro i h;simp at h
 |cons b l ih=>
  intro i h
  cases i with
  |zero=>simp at h;subst h;simp[nF];omega
  |succ i=>
   have:=ih i (by simpa using h);simp only[agO,nF];omega
theorem ahE:∀(l:List Bool),nF l=0->∀i,i<l.length->l[i]? =some true:=by
 intro l
 induction l with
 |nil=>intro _ i h;simp at h
 |cons b l ih=>
  intro h i hi;simp only[nF] at h
  cases i with
  |zero=>cases b<;>simp at h ⊢
  |succ i=>simpa using ih (by omega) i (by simpa using hi)
theorem ahy {listed:Array Bool} {i:Nat} (hi:i<listed.size) (k:Nat):Yd (listed.setIfInBounds i true) k↔Yd listed k\/k=i:=by
 unfold Yd;simp only[alE,alG];by_cases h:i=k
 ·subst h;simp[hi]
 ·simp[h,ah6 h]
theorem Qk {listed:Array Bool} (hsz:listed.size=ops.size) {i:Nat}:i∈Region.ready .any ops listed↔∃o,ops[i]? =some o/\¬Yd listed i/\∀j,Dir ops j i->Yd listed j:=by
 unfold Region.ready;simp only[alv,List.mem_range,akN];constructor
 ·rintro⟨h1,h2,h3⟩;have ho:ops[i]? =some ops[i]:=alW h1;refine⟨ops[i],ho,?_,?_⟩
  ·have:i<listed.size:=by omega
   unfold Yd;simp only[alE,alW this,alf] at h2 ⊢;simpa using h2
  ·rintro j ⟨o',ho',e,he,hb,rfl⟩;rw[ho] at ho'
   cases ho'
   simp only[ho,ag4,alf,Array.all_eq_true_iff_forall_mem] at h3;have:=h3 e (by simpa using he);rw[hb] at this;simpa [Yd] using this
 ·rintro⟨o,ho,h1,h2⟩;have hi:=(akl.1 ho).1;refine⟨hi,?_,?_⟩
  ·have:i<listed.size:=by omega
   unfold Yd at h1;simp only[alE,alW this,alf] at h1 ⊢;simpa using h1
  ·simp only[ho,ag4,alf,Array.all_eq_true_iff_forall_mem];intro e he
   cases hb:Region.binds .any e with
   |false=>rfl
   |true=>simpa [Yd] using h2 e.on ⟨o,ho,e,by simpa using he,hb,rfl⟩
theorem QU (hR:ROk ops) {listed:Array Bool} (u:listed.size=ops.size) (h:Region.ready .any ops listed=[]):∀i,i<ops.size->Yd listed i:=by
 intro i
 induction i using Nat.strongRecOn with
 |_ i ih=>
  intro hi;by_cases hl:Yd listed i
  ·exact hl
  ·have:i∈Region.ready .any ops listed:=(Qk u).2 ⟨ops[i],alW hi,hl,λj hj=>by
    have:=hR.back i j hj;exact ih j this (by omega)⟩
   rw[h] at this
   cases this
theorem finish {K:Env->b_} {Q:Exit->Act->b_} {listed:Array Bool} {p:List Nat} {ld:List (Nat×Shape×Value×Value)} {V:Nat->Value} {E:Nat->Env} {env:Env} {a:Act} {w:θ} {pbs:List Nat} {fuel:Nat}
  (I:∀i,i<ops.size->Yd listed i) (hs:Sim P r nt dfr ws a0 ops (Yd listed) p ld V E env a w) (h:yN P nt ops.toList pbs (fuel+1) p ld env w K)
  (hf:yQ P p (enumFrom 0 ops.toList)=none) (hQ:∀env a w,Kv nt dfr ws a0 env a->K env w->Q .normal a w):Q .normal a w:=by
 have hr:GI P p (enumFrom 0 ops.toList)=[]:=by
  cases hx:GI P p (enumFrom 0 ops.toList) with
  |nil=>rfl
  |cons x l=>
   obtain⟨i,o⟩:=x;obtain⟨h1,h2,_⟩:=(Vj (P:=P) (done:=p) (i:=i) (o:=o) _).1 (by rw[hx];simp);exact absurd (hs.sub i (I i (akl.1 (xX.1 h1)).1)) h2
 simp only[yN,hf,hr] at h;have hK:K env w:=by
  cases hb:Nat.beq p.length ops.toList.length with
  |false=>rw[hb] at h;exact h.elim
  |true=>rw[hb] at h;exact h
 refine hQ env a w ⟨λs u hu=>hs.cur s u (λj oj hj J _=>absurd (I j (hs.lt j hj)) J) hu,hs.size,hs.defers,hs.same⟩ hK
theorem abo (hP:Xo P) (hR:ROk ops) {n:Nat} {K:Env->b_} {Q:Exit->Act->b_} (ae:∀d∈NZ ops.toList,d∈ws)
  (hQ:∀env a w,Kv nt dfr ws a0 env a->K env w->Q .normal a w):
  ∀(m:Nat) (listed:Array Bool) (a:Act) (w:θ) (p:List Nat) (ld:List (Nat×Shape×Value×Value)) (V:Nat->Value) (E:Nat->Env) (env:Env) (fuel:Nat),
   listed.size=ops.size->nF listed.toList<=m->Sim P r nt dfr ws a0 ops (Yd listed) p ld V E env a w->
   yN P nt ops.toList (Au ops.toList []) fuel p ld env w K->wpAnyIn (Fr r) n P .any ops Q m listed a w:=by
 intro m
 induction m with
 |zero=>
  intro listed a w p ld V E env fuel O hm hs h;have W:∀i,i<ops.size->Yd listed i:=by
   intro i hi;have:=ahE listed.toList (by omega) i (by simpa [O] using hi);have h2:listed[i]? =some true:=by simpa using this
   simp[Yd,alE,h2]
  obtain⟨fuel',p',ld',V',E',env',hs',h',hf⟩:=normalize hP hR fuel p ld V E env hs h;refine⟨?_,finish W hs' h' hf hQ⟩
  cases hx:Region.ready .any ops listed with
  |nil=>rfl
  |cons i l=>
   obtain⟨o,ho,hn,_⟩:=(Qk O (i:=i)).1 (by rw[hx];simp);exact absurd (W i (akl.1 ho).1) hn
 |succ m ih=>
  intro listed a w p ld V E env fuel O hm hs h;obtain⟨fuel',p',ld',V',E',env',hs',h',hf⟩:=normalize hP hR fuel p ld V E env hs h;refine⟨λhr=>finish (QU hR O hr) hs' h' hf hQ,λi hi=> ?_⟩;obtain⟨o,ho,U,I⟩:=(Qk O).1 hi;have aa:i<listed.size:=by rw[O];exact(akl.1 ho).1
  have hD':=ahy aa;have Y:(listed.setIfInBounds i true).size=ops.size:=by simpa using O
  have hm':nF (listed.setIfInBounds i true).toList<=m:=by
   have R:listed.toList[i]? =some false:=by
    have:listed[i]? =some listed[i]:=alW aa;unfold Yd at U;simp only[alE,this,alf] at U;have h2:listed[i]=false:=by simpa using U
    simp[aa,h2]
   have:=ajt listed.toList i R;rw[Array.toList_setIfInBounds];omega
  by_cases N:i∈p'
  ·obtain⟨_,_,hex,_⟩:=hs'.pend i N U o ho;refine hex n Q a _ (λs ab u hu=>hs'.look i N U o ho s ab (λj oj _ _ ag=>AP hs'.closedD I ag) u hu) ?_;exact ih _ _ _ _ _ _ _ _ _ Y hm' (hs'.take hR ho N U I ae hD') h'
  ·have af:wV p' o=true:=(QG ho).2 λj hj=>hs'.sub j (I j hj);have ac:=YC _ hf i o (xX.2 ho) N af;have J:=(Vj (P:=P) (done:=p') (i:=i) (o:=o) (enumFrom 0 ops.toList)).2 ⟨xX.2 ho,N,ac,af⟩;simp only[yN,hf] at h'
   cases hx:GI P p' (enumFrom 0 ops.toList) with
   |nil=>rw[hx] at J;cases J
   |cons e es=>
    rw[hx] at J h';have Z:=adq _ h' (i,o) J;refine Ep hP ho Z (λs ab u hu=>hs'.cur s u (λj oj hj ah ai aj=> ?_) hu) λv w' hv hd=> ?_
    ·rcases hR.apart i j o oj s ho ai aj ab with e|e|e
     ·exact N (e ▸ hj)
     ·exact ah (AP hs'.closedD I e)
     ·exact N (yj (D:=(·∈p')) hs'.closedP e hj)
    ·obtain⟨hd1,hd2⟩:=ab_ _ hv;refine ih _ _ _ _ _ _ _ _ _ Y hm' (hs'.eff hR ho N I hd (λj sh av v hj ak=> ?_) ae hD') hd1;rcases hd2 j sh av v hj with hb|hb
     ·exact absurd (AP hs'.closedD I (Vh hb)) ak
     ·exact hb
theorem TR (hP:Xo P) {id n:Nat} {K:Env->b_} {Q:Exit->Act->b_} {env:Env} {a:Act} {w:θ} (J:∀d∈NZ ops.toList,d∈ws)
  (hQ:∀env a w,Kv nt dfr ws a0 env a->K env w->Q .normal a w) (ha:Kv nt dfr ws a0 env a) (h:TQ P nt ops.toList env w K):(Code.region id ops true).wpIn (Fr r) n P Q a w:=by
 unfold TQ at h
 cases hb:OV ops.toList (Au ops.toList []) with
 |false=>rw[hb] at h;exact h.elim
 |true=>
  rw[hb] at h;have hR:=Xg hb;refine wpIn_region_any hP.mixed ?_;have I:∀i,¬Yd (Array.replicate ops.size false) i:=by
   intro i hi;unfold Yd at hi;simp only[alE,Array.getElem?_replicate] at hi;by_cases h2:i<ops.size
   ·simp[h2] at hi
   ·simp[h2] at hi
  refine abo (V:=λ_=>undef) (E:=λ_=>[]) hP hR J hQ ops.size (Array.replicate ops.size false) a w.drew [] [] env _ (by simp) ?_ ?_ h
  ·have:∀k,nF (List.replicate k false)=k:=by
    intro k
    induction k with
    |zero=>rfl
    |succ k ih=>simp[alB,nF,ih];omega
   simp[this]
  ·exact⟨λi hi=>absurd hi (I i),λi hi=>by simp at hi,λi j hi=>by simp at hi,λi j hi=>absurd hi (I i),λi hi=>by simp at hi,λi hi=>by simp at hi,
    λi hi=>by simp at hi,λs u _ hu=>ha.agr s u hu,λj oj s hj=>by simp at hj,ha.size,ha.defers,ha.same⟩
end
end Gp
end
