import Derived.Test.YtdmbjlliegbpcaaGreatDoorW0
import Derived.Lib.ConvBytes
open List (all_eq_true mem_cons mem_cons_of_mem mem_cons_self)
open Nat (beq_eq blt_eq)
open Option (getD_some map_some)
open Array (getD_eq_getD_getElem? getElem?_eq_getElem)
open Bool (and_eq_true not_eq_true' or_eq_true)
section
namespace Gp
open Go
section
variable {P:Program}
theorem ace:∀(ks:List Kind) (φ:List Value->Prop),ahD ks φ->∃vs,φ vs:=by
 intro ks
 induction ks with
 |nil=>exact λφ h=>⟨_,h⟩
 |cons k ks ih=>rintro φ ⟨x,h⟩;obtain⟨vs,h⟩:=ih _ h;exact⟨_,h⟩
theorem Lr (s:Shape) (φ:Value->Prop) (h:s.ex φ):∃v,φ v:=by
 cases s with
 |one k=>obtain⟨x,h⟩:=h;exact⟨_,h⟩
 |agg ks=>obtain⟨vs,h⟩:=ace ks _ h;exact⟨_,h⟩
theorem CP:∀(sh:List Shape) (φ:List Value->Prop),Gw sh φ->∃vs,φ vs:=by
 intro sh
 induction sh with
 |nil=>exact λφ h=>⟨_,h⟩
 |cons s sh ih=>intro φ h;obtain⟨v,h⟩:=Lr s _ h;obtain⟨vs,h⟩:=ih _ h;exact⟨_,h⟩
theorem yX (hP:Vo P) {f:FuncId} (hb:ni P f=true) (args:Array Value) (w:θ):(callFunc f args).run P w= .ok (.enter f args) w:=by
 unfold ni at hb
 cases hf:P.funcs[f]? with
 |none=>simp[hf] at hb
 |some fn=>
  simp only[hf] at hb;have hn:=hP.enter f fn hf hb;have hn':¬(fn.name="runtime.NumGoroutine"):=by simpa using hn
  have hb':¬(fn.body=none):=by intro hx;simp[hx] at hb
  simp[callFunc,hf,hn',hb']
theorem Iu {sh:List Shape} {f:FuncId} {args:List Value} {w:θ} {K:Value->b_} (h:FV P sh f args w K):
  Calls P f ⟨args⟩ w λe w'=>∃v,e= .returned v/\K v w':=by
 refine Calls.mono h λe w' hx=> ?_;obtain⟨vs,he,hk⟩:=CP _ _ hx;exact⟨_,he,hk⟩
theorem ab2 (hP:Vo P) {sh:List Shape} {v:Value} {args:List Value} {w:θ} {K:Value->b_} (h:jy P sh v args w K):
  Ran P K ((do let d<- Deferred.ofValue v ⟨args⟩;invoke d.target d.args:Sem Next).run P w):=by
 unfold jy at h;split at h
 ·rename_i f first cap
  cases hb:ni P f with
  |false=>rw[hb] at h;exact h.elim
  |true=>
   rw[hb] at h;have h:=Iu h;have e:(⟨first.toList++(args++cap.toList)⟩:Array Value)=first++(⟨args⟩:Array Value)++cap:=by apply Array.toList_inj.mp;simp
   rw[e] at h;simpa [Deferred.ofValue,invoke,yX hP hb,Ran] using h
 ·rename_i l first cap
  obtain⟨fn,tmps,assign,body,hy,hr⟩:=h;have e:(⟨first.toList++args⟩:Array Value)=first++(⟨args⟩:Array Value):=by apply Array.toList_inj.mp;simp
  rw[e] at hy;have:Ran P K (.ok (.round l fn tmps assign body) w):=RoundIn.mono hr λe w' ⟨b,hb,hk⟩=>⟨_,hb,hk⟩;simpa [Deferred.ofValue,invoke,hy] using this
 ·exact h.elim
theorem aan {t:TypeId} {name:String} {f:FuncId} {d:TypeDesc} {v:Value} {w:θ} (n:Nat) (ht:P.underlying t=some d) (hd:Xn d=false) (h:Xx P t name=some f):
  (Go.method (n+1) t v name).run P w= .ok (f,v) w:=by
 unfold Xx at h;split at h
 ·rename_i i hi;split at h
  ·rename_i m hm;split at h
   ·rename_i f' hp hf;obtain rfl:=Option.some.inj h;unfold Go.method
    cases d<;>first|(cases hd;done)|simp[run_typeInfo hi,hm,hp,hf,follow,receiverAt,run_underlying ht,Place.get]
   ·cases h
  ·cases h
 ·cases h
theorem aga (hP:Vo P) {sh:List Shape} {x:Value} {name:String} {args:List Value} {w:θ} {K:Value->b_} (h:ahg P sh x name args w K):
  Ran P K ((do let d<- (pure {target:= .fn (.method name) #[],args:= #[x]++(⟨args⟩:Array Value)}:Sem Deferred);invoke d.target d.args:Sem Next).run P w):=by
 unfold ahg at h;split at h
 ·rename_i t v;split at h
  ·rename_i d f ht hm
   cases hd:Xn d with
   |true=>rw[hd] at h;exact h.elim
   |false=>
    cases hb:ni P f with
    |false=>rw[hd,hb] at h;exact h.elim
    |true=>
     rw[hd,hb] at h;have h:=Iu h;have e1:((#[Value.iface t v]++(⟨args⟩:Array Value)).extract 1 (#[Value.iface t v]++(⟨args⟩:Array Value)).size)=⟨args⟩:=by apply Array.toList_inj.mp;simp
     have e2:(⟨v::args⟩:Array Value)= #[v]++⟨args⟩:=by apply Array.toList_inj.mp;simp
     rw[e2] at h;have hm':∀k,(Go.method (k+Made.depth) t v name).run P w= .ok (f,v) w:=λk=>aan (k+(Made.depth - 1)) ht hd hm;simpa [invoke,callMethod,e1,hm',yX hP hb,Ran] using h
  ·exact h.elim
 ·exact h.elim
theorem afB {z:Value} {t xt:TypeId} {d:TypeDesc} {x:Value} {ok:Bool} {K:Value->Prop} {w:θ} (hd:∀m,d≠.interface m) (ht:P.underlying t=some d) (hz:C_ P t=some z) (h:AsP z t x ok K):
  ∃v,(Instr.typeAssert x xt t ok).run P w= .ok v w/\K v:=by
 have hz':=xk (w:=w) hz;unfold AsP at h;split at h
 ·rename_i t' v
  cases hb:Nat.beq t' t with
  |true=>
   rw[hb] at h;obtain rfl:=Nat.eq_of_beq_eq_true hb;refine⟨_,?_,h⟩
   cases d<;>first|exact(hd _ rfl).elim|(cases ok<;>simp[Instr.typeAssert,run_underlying ht])
  |false=>
   rw[hb] at h;have hn:¬t'=t:=λe=>by rw[e,Nat.beq_refl] at hb;cases hb
   cases ok with
   |false=>exact h.elim
   |true=>
    refine⟨_,?_,h⟩
    cases d<;>first|exact(hd _ rfl).elim|simp[Instr.typeAssert,run_underlying ht,hn,hz']
 ·cases ok with
  |false=>exact h.elim
  |true=>
   refine⟨_,?_,h⟩
   cases d<;>first|exact(hd _ rfl).elim|simp[Instr.typeAssert,run_underlying ht,hz']
 ·exact h.elim
theorem Pv {mx:Bool} {w:θ}:∀(r:List Value) (x:Int) (k:IntKind) (φ:Value->Prop),EI mx x r k φ->
  ∃v,(r.foldlM (cond mx Builtin.max2 Builtin.min2) (Value.int k x)).run P w= .ok v w/\φ v:=by
 intro r
 induction r with
 |nil=>exact λx k φ h=>⟨_,by simp,h⟩
 |cons y r ih=>
  intro x k φ h
  cases y with
  |int ky y=>
   simp only[EI] at h;obtain⟨v,hv,hφ⟩:=ih _ _ _ h;refine⟨v,?_,hφ⟩
   cases mx<;>simp only[cond_true,cond_false] at hv ⊢<;>simp[List.foldlM_cons,Builtin.max2,Builtin.min2,hv]
  |_=>simp[EI] at h
theorem aaf {d:TypeDesc} {t ty:TypeId} {x:Value} {w:θ} {φ:Int->Prop} (ht:P.underlying t=some d) (h:Ou d x w φ):
  ∃n,(Builtin.len_ #[t] ty #[x]).run P w= .ok (.int .i64 n) w/\φ n:=by
 unfold Ou at h;split at h
 ·exact⟨_,by simp[Builtin.len_,run_underlying ht,goInt],h⟩
 ·exact⟨_,by simp[Builtin.len_,run_underlying ht,goInt],h⟩
 ·exact⟨_,by simp[Builtin.len_,run_underlying ht,goInt],h⟩
 ·unfold NP at h;split at h
  ·exact⟨_,by simp[Builtin.len_,run_underlying ht,goInt],h⟩
  ·obtain⟨es,clock,hb,h⟩:=h;exact⟨_,by simp[Builtin.len_,run_underlying ht,goInt,getObj,Sem.run,hb],h⟩
 ·exact h.elim
theorem iE {K:Value->b_} {s:Sem Value} {w w':θ} {v:Value} (hr:s.run P w= .ok v w') (hk:K v w'):
  Ran P K ((do pure (Next.value (<- s)):Sem Next).run P w):=by
 simp only[Sem.run_bind,hr,Result.andThen_ok,Sem.run_pure,Ran];exact hk
theorem H_ {K:Value->b_} {s:Sem Unit} {w w':θ} (hr:s.run P w= .ok () w') (hk:K undef w'):
  Ran P K ((do s;pure Next.skip:Sem Next).run P w):=by
 simp only[Sem.run_bind,hr,Result.andThen_ok,Sem.run_pure,Ran];exact hk
theorem YL {b:Builtin} {args:List Value} {tl:List TypeId} {ty:TypeId} {consts:Array Bool} {w:θ} {K:Value->b_} (h:oQ P b tl args w K):
  Ran P K ((builtin b ⟨tl⟩ ty consts ⟨args⟩).run P w):=by
 unfold oQ at h;split at h
 ·split at h
  ·rename_i ht;obtain⟨n,hr,hk⟩:=aaf (ty:=ty) ht h;simp[builtin,hr,Ran,hk]
  ·exact h.elim
 ·split at h
  ·rename_i ht;simp[builtin,Builtin.cap_,run_underlying ht,goInt,Ran,h]
  ·exact h.elim
 ·obtain⟨v,hr,hk⟩:=Pv (P:=P) (w:=w) _ _ _ _ h;simp only[cond_true] at hr;simp[builtin,Builtin.max_,hr,Ran,hk]
 ·obtain⟨v,hr,hk⟩:=Pv (P:=P) (w:=w) _ _ _ _ h;simp only[cond_false] at hr;simp[builtin,Builtin.min_,hr,Ran,hk]
 ·split at h
  ·rename_i e d ht ht';split at h
   ·rename_i _ b n m hs hb hz;obtain⟨i,hi,rfl⟩:=rP hs;obtain⟨i',hi',rfl⟩:=xq hb;obtain⟨i'',z,hi'',hz0,rfl⟩:=mV hz;rw[hi] at hi' hi'';cases hi';cases hi'';obtain⟨vs,u,h⟩:=h;obtain⟨s',w',hr,hk⟩:=Vr (ty:=ty) ht hi hz0 ht' (.inl ⟨_,rfl⟩) (x:= .slice b n m) (n:=n) (λw=>by simp[Builtin.lenOf]) (rF u) (rF (Bo u)) h;show Ran P K ((do pure (Next.value (<- Builtin.append_ #[_,_] ty #[_,_])):Sem Next).run P w)
    exact iE hr hk
   ·rename_i hs hb hz;obtain⟨i,hi,rfl⟩:=rP hs;obtain⟨i',hi',rfl⟩:=xq hb;obtain⟨i'',z,hi'',hz0,rfl⟩:=mV hz;rw[hi] at hi' hi'';cases hi';cases hi'';have hf:∀(sz:Nat) (s:ByteArray) (w:θ),(Builtin.firstCells sz s.size (.string s)).run P w= .ok ⟨byteCells s⟩ w:=by
     intro sz s w;simp only[Builtin.firstCells,Sem.run_pure,Result.ok.injEq,and_true];apply Array.toList_inj.mp;have e:s.extract 0 s.size=s:=ByteArray.extract_zero_size;rw[e,Array.toList_map];rfl
    obtain⟨s',w',hr,hk⟩:=Vr (ty:=ty) ht hi hz0 ht' (.inr rfl) (λw=>by simp[Builtin.lenOf]) (hf _ _ _) (hf _ _ _) h;show Ran P K ((do pure (Next.value (<- Builtin.append_ #[_,_] ty #[_,_])):Sem Next).run P w)
    exact iE hr hk
   ·rename_i hs hb hz;obtain⟨i,hi,rfl⟩:=rP hs;obtain⟨i',hi',rfl⟩:=xq hb;obtain⟨i'',z,hi'',hz0,rfl⟩:=mV hz;rw[hi] at hi' hi'';cases hi';cases hi''
    cases hb:Nat.beq z.cells.toList.length i.size with
    |false=>rw[hb] at h;exact h.elim
    |true=>
     rw[hb] at h;simp only[cond_true] at h;obtain⟨s',w',hr,hk⟩:=YD (ty:=ty) ht hi hz0 (Nat.eq_of_beq_eq_true hb) ht' h;show Ran P K ((do pure (Next.value (<- Builtin.append_ #[_,_] ty #[_,_])):Sem Next).run P w)
     exact iE hr hk
   ·exact h.elim
  ·exact h.elim
 ·split at h
  ·rename_i e ht;split at h
   ·rename_i hs;obtain⟨i,hi,rfl⟩:=rP hs;obtain⟨n,w',hr,hk⟩:=Ϩ (t':=_) (ty:=ty) ht hi h;show Ran P K ((do pure (Next.value (<- Builtin.copy_ #[_,_] ty #[_,_])):Sem Next).run P w)
    exact iE hr hk
   ·exact h.elim
  ·exact h.elim
 ·split at h
  ·rename_i e ht;split at h
   ·rename_i hs hz;obtain⟨i,hi,rfl⟩:=rP hs;obtain⟨i'',z,hi'',hz0,rfl⟩:=mV hz;rw[hi] at hi'';cases hi''
    cases hb:Nat.beq z.cells.toList.length i.size with
    |false=>rw[hb] at h;exact h.elim
    |true=>
     rw[hb] at h;simp only[cond_true] at h;obtain⟨w',hr,hk⟩:=YR (ty:=ty) ht hi hz0 (Nat.eq_of_beq_eq_true hb) h;show Ran P K ((do pure (Next.value (<- Builtin.clear_ #[_] ty #[_])):Sem Next).run P w)
     exact iE hr hk
   ·exact h.elim
  ·exact h.elim
 ·split at h
  ·rename_i kt et ht;obtain⟨w',hr,hk⟩:=ϖ (t':=_) (ty:=ty) ht h;show Ran P K ((do pure (Next.value (<- Builtin.delete_ ⟨[_,_]⟩ ty ⟨[_,_]⟩)):Sem Next).run P w)
   exact iE hr hk
  ·exact h.elim
 ·exact h.elim
theorem IG (ρ:Operand->Value) (ps:Array (Nat×Operand)):(ps.map λ(i,x)=>(i,ρ x)).toList=ps.toList.map λp=>(p.1,ρ p.2):=by
 simp
theorem Xe (w:θ) (cs:Array Value) (e:TypeId) (n:Nat):(w.alloc (.cells cs e)).freeze ⟨w.heap.size,n,none⟩ 1=w.alloc (.cells cs e (n,n+1)):=by
 unfold World.freeze World.alloc;simp only[Nat.succ_ne_zero,if_false];congr 1;apply Array.ext_getElem?;intro i;rw[Array.getElem?_modify];by_cases h:w.heap.size=i
 ·subst h;simp
 ·simp[h,Ne.symm h,Array.getElem?_push]
theorem Um (w:θ) (e:TypeId) (s:ByteArray):
  Lib.bytesWorld w e s=w.drew.alloc (.cells ⟨byteCells s++gZ [.int .u8 0] (grownCap w s.size 0 e - s.size)⟩ e (grownCap w s.size 0 e,grownCap w s.size 0 e+1)):=by
 have u:∀n,gZ [.int .u8 0] n=List.replicate n (.int .u8 0):=by
  intro n
  induction n with
  |zero=>rfl
  |succ n ih=>simp[gZ,ih,List.replicate_succ]
 have hc:Lib.bytesCells w e s=⟨byteCells s++gZ [.int .u8 0] (grownCap w s.size 0 e - s.size)⟩:=by
  apply Array.toList_inj.mp;simp[Lib.bytesCells,byteCells,u]
 have hn:(Lib.bytesCells w e s).size=grownCap w s.size 0 e:=by
  have:=grownCap_ge w s.size 0 e;have h2:s.data.size=s.size:=rfl;simp[Lib.bytesCells,h2];omega
 unfold Lib.bytesWorld;rw[hn,<- hc];exact Xe w.drew _ e _
theorem ZM (hP:Vo P) {o:Oper} {ρ:Operand->Value} {w:θ} {K:Value->b_} (hρ:∀f,ρ (.func f)= .func (.func f) #[] #[]) (h:yg P o ρ w K):Ran P K ((execOp ρ o).run P w):=by
 obtain⟨dst,op,type,pos,after,guard⟩:=o
 cases op<;>simp only[yg] at h<;>simp only[execOp]
 case move x=>exact h
 case assign x=>exact h
 case pick c a b=>
  split at h
  ·rename_i t hc
   cases t<;>simp only[cond_true,cond_false] at h<;>simp[asBool,hc,Ran,h]
  ·exact h.elim
 case alloc e=>
  split at h
  ·rename_i z hz;obtain⟨v,hr,hv⟩:=wE (w:=w) hz;refine iE (v:=abk w) (w':=w.alloc (.cells ⟨z⟩ e)) ?_ h;simp[Instr.alloc,hr,newVar,newRow,hv]
  ·exact h.elim
 case box e x=>
  split at h
  ·refine iE ?_ h.2;simp[Instr.box,newVar,newRow,Py h.1]
  ·split at h
   ·rename_i cs hc;refine iE ?_ h;simp[Instr.box,newVar,newRow,Value.cells,hc]
   ·exact h.elim
  ·exact h.elim
 case build t ps=>
  split at h
  ·rename_i z fs hz ht;obtain⟨v,hr,hv⟩:=wE (w:=w) hz;split at h
   ·rename_i pl ac;split at h
    ·rename_i cs hf;refine iE ?_ h;have hp:=X9 (w:=w) _ _ ac;have hm:(fs.mapM λ(f:Field)=>(do pure (f.offset,<- Go.sizeOf f.type):Sem (Nat×Nat))).run P w= .ok ⟨pl⟩ w:=by
      rw[Array.mapM_eq_mapM_toList,Sem.run_map,hp];rfl
     have I:=KE _ (λi=>(⟨pl⟩:Array (Nat×Nat))[i]?) (λi x hx=>by simpa using hx) _ _ _ hf;simp only[Instr.build,Sem.run_bind,hr,Result.andThen_ok,run_underlying ht,hm,hv,IG];rw[I];rfl
    ·exact h.elim
   ·exact h.elim
  ·rename_i z n e hz ht;obtain⟨v,hr,hv⟩:=wE (w:=w) hz;split at h
   ·rename_i size hs;split at h
    ·rename_i cs hf;refine iE ?_ h;have I:=KE _ (λi=>some (i * size,size)) (λi x hx=>hx) _ _ _ hf;simp only[Instr.build,Sem.run_bind,hr,Result.andThen_ok,run_underlying ht,jC hs,hv,IG];rw[I];rfl
    ·exact h.elim
   ·exact h.elim
  ·exact h.elim
 case buildSlice t n ps=>
  split at h
  ·rename_i e ht;split at h
   ·rename_i size z hs hz;obtain⟨v,hr,hv⟩:=wE (w:=w) hz
    cases hb:(Nat.ble (n * size) 4096 && Nat.beq z.length size) with
    |false=>rw[hb] at h;exact h.elim
    |true=>
     rw[hb] at h;simp only[and_eq_true,Nat.ble_eq,beq_eq] at hb;obtain⟨b1,b2⟩:=hb;simp only[cond_true] at h;obtain⟨cs,hf,h⟩:=aiH h
     ·refine iE ?_ h;have I:=KE _ (λi=>some (i * size,size)) (λi x hx=>hx) _ _ _ hf;have hz2:(Array.range (n * size)).map (λi=>v.cells[i % v.cells.size]!)=⟨gZ z n⟩:=by
       have:=nG v.cells n;rw[hv] at this ⊢;simp only[Builtin.zeroCells,List.size_toArray,b2] at this ⊢;exact this
      have c1:¬(n * size>2^24):=by omega
      by_cases c2:n * size=0
      ·have R:gZ z n=[]:=by
        have:=yF z n;rw[b2,c2] at this;exact List.length_eq_zero_iff.1 this
       rw[R] at I;have N:Instr.fill (λi=>some (i * size,size)) #[] (ps.toList.map λp=>(p.1,ρ p.2))=some ⟨cs⟩:=I;have c1':¬(0>2^24):=by decide
       simp only[Instr.buildSlice,Sem.run_bind,run_underlying ht,Result.andThen_ok,jC hs,c2,if_true,IG,c1',if_false,Sem.run_pure,Array.range_zero',Array.map_empty,N];rfl
      ·simp only[Instr.buildSlice,Sem.run_bind,run_underlying ht,Result.andThen_ok,jC hs,c1,if_false,c2,IG,hr,Sem.run_pure];rw[hz2,I];rfl
   ·exact h.elim
  ·exact h.elim
 case load t x=>
  split at h
  ·rename_i a sh n hx hs hn
   cases hb:Nat.beq sh.cells n with
   |false=>rw[hb] at h;exact h.elim
   |true=>
    rw[hb] at h;obtain⟨v,hr,hk⟩:=PK hs hn (Nat.eq_of_beq_eq_true hb) h;exact iE (by simp[Instr.loadAt,Instr.sureAddr,hx,hr]) hk
  ·exact h.elim
 case store t x y=>
  split at h
  ·rename_i a k n hx hs hn
   cases hb:Nat.beq n 1 with
   |false=>rw[hb] at h;exact h.elim
   |true=>
    rw[hb] at h;have hb:=Nat.eq_of_beq_eq_true hb;subst hb;obtain⟨hr,hk⟩:=Ϛ (P:=P) h;refine H_ (w':=w.setCell a (ρ y)) ?_ hk;have h1:=Py h.1;simp[Instr.storeAt,Instr.sureAddr,hx,storeVar,h1,jC hn,storeCells,add_zero',hr]
  ·rename_i a ks n hx hs hn;split at h
   ·rename_i cs hy
    cases hb:Nat.beq cs.toList.length n with
    |false=>rw[hb] at h;exact h.elim
    |true=>
     rw[hb] at h;have hb:=Nat.eq_of_beq_eq_true hb;obtain⟨w',hr,hk⟩:=afu (P:=P) _ _ _ h;refine H_ (w':=w') ?_ hk;have hl:cs.size=n:=by simpa using hb
     simp[Instr.storeAt,Instr.sureAddr,hx,hy,storeVar,Value.cells,jC hn,hl,hr]
   ·exact h.elim
  ·exact h.elim
 case nilCheck x=>
  split at h
  ·rename_i q hx;obtain⟨a,rfl,hk⟩:=h;simp only[hx];exact hk
  ·exact h.elim
 case binOp op t x y yt=>
  split at h
  ·obtain⟨v,hr,hk⟩:=acF x (w:=w) h;exact iE hr hk
  ·obtain⟨v,hr,hk⟩:=WH x y (w:=w) h;exact iE hr hk
 case unOp op t x=>
  obtain⟨v,hr,hk⟩:=Ω (P:=P) (w:=w) h;exact iE hr hk
 case convert s d x=>
  split at h
  ·rename_i e a n c hs hd hx;split at h
   ·rename_i he;obtain⟨b,hr,hk⟩:=QW (P:=P) h;refine iE ?_ hk;rw[hx,run_convert_bytes_string w s d e a n c hs he hd];exact hr
   ·exact h.elim
  ·rename_i e b hs hd hx;split at h
   ·rename_i he;have hr:=Lib.run_convert_string_bytes w s d e b hs hd he;have hc:=h.2 (grownCap w b.size 0 e) (by have:=grownCap_ge w b.size 0 e;omega) (by
     simp only[grownCap,Question.cut];have h1:=h.1;have:=Nat.mod_lt (w.tape w.drawn (.appendCap b.size 0 e)) (show 0<2^63 - b.size by omega);omega)
    rw[<- Um] at hc;exact iE (by rw[hx];exact hr) hc
   ·exact h.elim
  ·rename_i e' e a n c hs hd hx;split at h
   ·rename_i he hb;obtain⟨T,m,U,hk⟩:=h;refine iE ?_ hk;have af:s=d:=Nat.eq_of_beq_eq_true hb;subst af;have ag:e'=e:=by rw[hd] at hs;cases hs;rfl
    subst ag;rw[hx];simp[convert,run_underlying hd,run_underlying he,markStringish,U]
   ·exact h.elim
  ·rename_i n1 n2 n3;unfold Qw at h;split at h
   ·rename_i u k n hs hd hx;refine iE ?_ h;simp[convert,hx,run_underlying hs,run_underlying hd,Conv.intToInt]
   ·rename_i b hs hd hx;refine iE ?_ h;simp[convert,hx,run_underlying hs,run_underlying hd]
   ·exact h.elim
 case makeFunc fn first cap=>
  rw[WA,WA];exact h
 case lookup t x i ok=>
  cases ok with
  |true=>
   simp only at h;split at h
   case h_2=>exact h.elim
   rename_i kt et r ht hx;split at h
   case h_2=>exact h.elim
   rename_i sh z hs hz;obtain⟨v,b,hr,hk⟩:=Pg ht hz h true;obtain⟨v',rfl,hk⟩:=Lr _ _ hk;exact iE (by rw[hx];exact hr) hk
  |false=>
   simp only at h;split at h
   case h_2=>exact h.elim
   rename_i kt et r ht hx;split at h
   case h_3=>exact h.elim
   case h_1=>
    rename_i k z hs hz;obtain⟨x',hr,hk⟩:=Ϙ ht hz h;exact iE (by rw[hx];exact hr) hk
   case h_2=>
    rename_i ks z hs hz;obtain⟨v,b,hr,hk⟩:=Pg ht hz h false;obtain⟨v',rfl,hk⟩:=Lr _ _ hk;exact iE (by rw[hx];exact hr) hk
 case mapUpdate t x i v=>
  split at h
  case h_2=>exact h.elim
  rename_i kt et r ht hx;obtain⟨w',hr,hk⟩:=QJ ht h;exact H_ (by rw[hx];exact hr) hk
 case insert t x i v=>
  split at h
  case h_2=>exact h.elim
  rename_i kt et r ht hx;obtain⟨w',hr,hk⟩:=QJ ht h;exact H_ (by rw[hx];exact hr) hk
 case mapEntry t x i=>
  split at h
  case h_2=>exact h.elim
  rename_i kt et r ht hx;split at h
  ·rename_i z hz;obtain⟨v,n,w',hr,hk⟩:=ϗ ht hz h;exact iE (by rw[hx];exact hr) hk
  ·exact h.elim
 case entryStore t x st v=>
  split at h
  ·rename_i r k n hx ah;obtain⟨w',hr,hk⟩:=abN (t:=t) (k:=k) h;exact H_ (by rw[hx,ah];exact hr) hk
  ·exact h.elim
 case makeMap t r=>
  cases r with
  |some r=>exact h.elim
  |none=>exact iE (by simp[Instr.makeMap]) h
 case makeSlice t l c=>
  split at h
  ·rename_i e kl n kc m ht hl hc;split at h
   ·rename_i size bytes z hs hb hz;obtain⟨i,hi,rfl⟩:=rP hs;obtain⟨i',hi',rfl⟩:=xq hb;obtain⟨i'',z,hi'',hz0,rfl⟩:=mV hz;rw[hi] at hi' hi'';cases hi';cases hi''
    cases hb:Nat.beq z.cells.toList.length i.size with
    |false=>rw[hb] at h;exact h.elim
    |true=>
     rw[hb] at h;simp only[cond_true] at h;obtain⟨s,w',hr,hk⟩:=aak ht hi hz0 (Nat.eq_of_beq_eq_true hb) h;exact iE (by rw[hl,hc];exact hr) hk
   ·exact h.elim
  ·exact h.elim
 case slice t x lo hi mx=>
  obtain⟨v,hr,hk⟩:=Yd (w:=w) h;exact iE hr hk
 case fieldAddr t x f=>
  split at h
  ·rename_i fs a ht hx;split at h
   ·rename_i off size hf
    cases hb:Nat.beq size 0 with
    |true=>rw[hb] at h;exact h.elim
    |false=>
     rw[hb] at h;obtain⟨fd,h1,h2⟩:=Rw (w:=w) hf hb a;exact iE (by simp[Instr.fieldAt,run_underlying ht,h1,Instr.sureAddr,hx,h2]) h
   ·exact h.elim
  ·exact h.elim
 case field t x f=>
  split at h
  ·rename_i fs cs ht hx;split at h
   ·rename_i fd hf;split at h
    ·rename_i d size hd hs;obtain⟨v,hr,hk⟩:=TK (w:=w) hd hs h;have hf':fs[f]? =some fd:=by simpa using hf
     exact iE (by simp[Instr.field,run_underlying ht,hf',hx,asAgg,hr]) hk
    ·exact h.elim
   ·exact h.elim
  ·exact h.elim
 case indexAddr t x i=>
  split at h
  ·rename_i e a n c k i' ht hx hi;split at h
   ·rename_i size hs;obtain⟨a',h1,h2,h3,hk⟩:=h;simp only at h1 h2 h3 hk;subst h1;refine iE ?_ hk;simp[Instr.indexAt,hi,hx,asIntOf,run_underlying ht,jC hs,h2,h3]
   ·exact h.elim
  ·rename_i n e a k i' ht hx hi;split at h
   ·rename_i size hs;obtain⟨h2,h3,hk⟩:=h;refine iE ?_ hk;simp[Instr.indexAt,hi,hx,asIntOf,run_underlying ht,jC hs,h2,h3,Instr.sureAddr]
   ·exact h.elim
  ·exact h.elim
 case index t x i=>
  split at h
  ·rename_i s k i' ht hx hi;obtain⟨b,h1,h2,hk⟩:=h;refine iE ?_ hk;simp[Instr.index,hi,hx,asIntOf,run_underlying ht,h1,h2]
  ·rename_i n e cs k i' ht hx hi;split at h
   ·rename_i d size hd hs;obtain⟨h1,h2,h⟩:=h;obtain⟨v,hr,hk⟩:=TK (w:=w) hd hs h;refine iE ?_ hk;simp[Instr.index,hi,hx,asIntOf,run_underlying ht,jC hs,h1,h2,hr]
   ·exact h.elim
  ·exact h.elim
 case extract t i=>
  split at h
  ·rename_i vs ht;split at h
   ·rename_i v hv;have hv':vs[i]? =some v:=by simpa using hv
    split at h
    ·obtain⟨x,hx,h⟩:=LZ h;refine iE ?_ h;rw[<- hx];simp[Instr.extract,ht,hv']
    ·refine iE ?_ h;simp[Instr.extract,ht,hv']
   ·exact h.elim
  ·exact h.elim
 case range t x=>
  split at h
  ·rename_i kt et r ht hx;rcases h with ⟨rfl,h⟩|⟨b,es,clock,rfl,hb,h⟩
   ·exact iE (by rw[hx];simp[Instr.range,run_underlying ht]) h
   ·exact iE (by rw[hx];simp[Instr.range,run_underlying ht,MapKept.run_getObj_map hb]) h
  ·exact h.elim
 case next x s=>
  cases s with
  |true=>exact h.elim
  |false=>
  simp only at h;split at h
  ·rename_i a hx;obtain⟨h0,h⟩:=h;rcases h with ⟨s,sn,c,hr,h⟩|⟨b,since,seen,c0,es,clock,hr,hb,Y,ai,Z,O⟩
   ·refine iE ?_ h;rw[hx,h0];simp[Instr.next,getObj,Sem.run,hr,Result.andThen]
   ·rcases run_next_at (P:=P) w _ a.block b since c0 seen es clock hr hb Y ai with ⟨h1,h2⟩|⟨e,he,w1,hw1,h2⟩
    ·exact iE (by rw[hx,h0];exact h2) (Z h1)
    ·exact iE (by rw[hx,h0];exact h2) (O e he w1 hw1)
  ·exact h.elim
 case entry x=>
  split at h
  ·rename_i a hx;obtain⟨h0,b,since,seen,es,clock,e,hr,hb,he,hn,h⟩:=h;exact iE (by rw[hx,h0];exact run_entry_at (P:=P) w a.block b since seen es clock e hr hb he hn) h
  ·exact h.elim
 case call c=>
  have J:c.args.map ρ=⟨c.args.toList.map ρ⟩:=WA _ _;split at h
  ·rename_i f hc;split at h
   ·rename_i sh U
    cases hb:ni P f with
    |false=>
     rw[hb] at h;obtain⟨v,w',hr,hk⟩:=h;obtain⟨vs,rfl,hk'⟩:=CP _ _ hk;have aa:ρ (.func f)= .func (.func f) #[] #[]:=hρ f;simp only[resolve,hc,aa,Deferred.ofValue,J];simpa [invoke,hr,Ran] using hk'
    |true=>
     rw[hb] at h;have h:=Iu h;have aa:ρ (.func f)= .func (.func f) #[] #[]:=hρ f;simp only[resolve,hc,aa,Deferred.ofValue,J];simpa [invoke,yX hP hb,Ran] using h
   ·exact h.elim
  ·rename_i x hx hc;split at h
   ·rename_i sh U;have:=ab2 hP h;simp only[resolve,hc,J];refine Ran.mono (λr w' hr=> ?_) this;obtain⟨vs,rfl,hk⟩:=CP _ _ hr;exact hk
   ·exact h.elim
  ·rename_i b hc;simp only[resolve,hc,J];exact YL (tl:=c.argTypes.toList) h
  ·rename_i x name hc;split at h
   ·simp only[resolve,hc,J];exact aga hP h
   ·exact h.elim
 case makeInterface t x=>
  split at h
  ·exact h.elim
  ·rename_i d hd ht;refine iE (by simp only[Instr.makeInterface,Sem.run_bind,run_underlying ht];cases d<;>first|rfl|exact(hd _ rfl).elim) h
  ·exact h.elim
 case typeAssert x xt t ok=>
  split at h
  ·exact h.elim
  ·rename_i d z hd ht hz;obtain⟨v,hr,hk⟩:=afB (xt:=xt) (λm=>hd m) ht hz h;exact iE hr hk
  ·exact h.elim
 all_goals exact h.elim
end
end Gp
end
section
namespace Gp
open Go
def Fr (r:Option Nat):Fence:={Fence.wide with round:=r}
def Agr (env:Env) (a:Act):Prop:=∀s v,env.get s=some v->a.tmps[s]? =some v
theorem oI (s:Nat) (v:Value) (r:Env) (t:Nat):Env.get ((s,v)::r) t=if s=t then some v else Env.get r t:=by
 simp only[Env.get];by_cases h:s=t
 ·subst h;simp
 ·have:Nat.beq s t=false:=by cases hb:Nat.beq s t;rfl;exact absurd (Nat.eq_of_beq_eq_true hb) h
  simp[this,h]
theorem CV (a:Act) (d:Option Nat) (v:Value):(a.put d v).tmps.size=a.tmps.size:=by cases d<;>simp[Act.put]
theorem H9 (a:Act) (d:Option Nat) (v:Value):(a.put d v).defers=a.defers:=by cases d<;>rfl
theorem BI (a:Act) (d:Option Nat) (v:Value) (s:Nat):(a.put d v).tmps[s]? =if d=some s/\s<a.tmps.size then some v else a.tmps[s]? :=by
 cases d with
 |none=>simp[Act.put]
 |some d=>
  simp only[Act.put,Array.getElem?_setIfInBounds,Option.some.injEq];by_cases h:d=s
  ·subst h;by_cases h2:d<a.tmps.size
   ·simp[h2]
   ·simp[h2]
  ·simp[h]
theorem Agr.put {env:Env} {a:Act} {d:Option Nat} {v:Value} (h:Agr env a) (hd:rX a.tmps.size d=true):Agr (env.put d v) (a.put d v):=by
 intro s u hs;rw[BI]
 cases d with
 |none=>simpa using h s u hs
 |some d=>
  simp only[Env.put] at hs;rw[oI] at hs;have I:d<a.tmps.size:=by simp only[rX,blt_eq] at hd;exact hd
  by_cases e:d=s
  ·subst e;simp at hs;simp[I,hs]
  ·rw[if_neg e] at hs;have:¬(some d=some s/\s<a.tmps.size):=λx=>e (by simpa using x.1);rw[if_neg this];exact h s u hs
theorem ad6 {env:Env}:∀(l:List Operand),ab8 env l=true->∀x∈l,(evO env x).isSome=true:=by
 intro l
 induction l with
 |nil=>intro _ x hx;cases hx
 |cons y l ih=>
  intro h x hx;simp only[ab8,and_eq_true] at h
  cases hx with
  |head=>exact h.1
  |tail _ hx=>exact ih h.2 x hx
theorem aiF {env:Env} {a:Act} (h:Agr env a) {x:Operand} (hx:(evO env x).isSome=true):ev env x=a.eval x:=by
 unfold ev
 cases x with
 |tmp t=>
  simp only[evO] at hx ⊢
  cases hg:env.get t with
  |none=>simp[hg] at hx
  |some v=>
   have:=h t v hg;simp[Act.eval,getD_eq_getD_getElem?,this]
 |const v=>rfl
 |global g=>rfl
 |func f=>rfl
theorem Sz {P:Program} {o:Oper} {ρ:Operand->Value} {w:θ} {K:Value->b_} (h:yg P o ρ w K):(∀cs b,o.op≠.select cs b)/\(∀c,o.op≠.defer c):=by
 constructor
 ·intro cs b e;simp only[yg,e] at h
 ·intro c e;simp only[yg,e] at h
theorem ae9 {P:Program} {o:Oper} {a:Act} {w:θ} {K:Value->b_} {r:Option Nat} {n:Nat} {next:Act->b_} {Q:Exit->Act->b_}
  (hd:∀c,o.op≠.defer c) (h:Ran P K ((execOp a.eval o).run P w)) (hk:∀v w',K v w'->next (a.put o.dst v) w'):o.wpIn (Fr r) n P a w next Q:=by
 refine⟨λ_ _=>trivial,?_⟩;rw[Oper.semAt_eq _ _ _ hd];generalize (execOp a.eval o).run P w=res at h
 cases res with
 |halt x w'=>exact h.elim
 |ok x w'=>
  cases x<;>simp only[Ran] at h<;>simp only[Oper.uponIn]
  case value v=>exact hk _ _ h
  case skip=>exact hk _ _ h
  case enter f args=>
   refine⟨λhx=>by simp[Fr,Fence.wide] at hx,?_⟩;have:CallsIn Fence.wide (n - 1) P f args w' λe w''=>∃v,e= .returned v/\K v w'':=callsIn_wide.2 h;refine CallsIn.mono (F:=Fr r) this λe w'' hx=> ?_;obtain⟨v,rfl,hv⟩:=hx;exact hk _ _ hv
  case round l f tmps assign body=>
   refine⟨λhx=>by simp[Fr,Fence.wide] at hx,?_⟩;refine RoundIn.mono (F:=Fr r) (n:=n - 1) ⟨h.1,λc cs _=>h.2 c cs (room_wide _)⟩ λe w'' hx=> ?_;obtain⟨v,rfl,hv⟩:=hx;exact hk _ _ hv
  all_goals exact h.elim
theorem TU {g:Bool} {v:Value} {K:Value->Prop} (h:split g v K):K v:=by
 unfold split at h
 cases g with
 |false=>exact h
 |true=>
  simp only[cond_true] at h
  cases v<;>first|exact h|skip
  rename_i b
  cases b<;>exact h
structure LD (nt:Nat) (ds:List Deferred) (ws:List Nat) (a0:Act) (env:Env) (a:Act):Prop where
 agr:Agr env a
 size:a.tmps.size=nt
 defers:a.defers=ds
 same:∀s,s∉ws->a.tmps[s]? =a0.tmps[s]?
theorem PU {ops:Array Oper} {a:Act} {env:Env} {j s:Nat} (ha:∀u,env.get s=some u->a.tmps[s]? =some u) {t:Bool} (h1:(ops.toList[j]?).bind (·.dst)=some s) (h2:env.get s=some (.bool t)):
  yielded ops a.tmps j=some t:=by
 have h1':(ops[j]?).bind (·.dst)=some s:=by simpa using h1
 have:=ha _ h2;simp[yielded,h1',this]
def Yt (env:Env) (a:Act) (ss:List Nat):Prop:=∀s∈ss,∀u,env.get s=some u->a.tmps[s]? =some u
theorem Agr.on {env:Env} {a:Act} (h:Agr env a) (ss:List Nat):Yt env a ss:=λs _ u hu=>h s u hu
theorem aek {env:Env} {a:Act} {ss:List Nat} (h:Yt env a ss) {x:Operand} (hm:∀t,x= .tmp t->t∈ss) (hx:(evO env x).isSome=true):ev env x=a.eval x:=by
 unfold ev
 cases x with
 |tmp t=>
  simp only[evO] at hx ⊢
  cases hg:env.get t with
  |none=>simp[hg] at hx
  |some v=>
   have:=h t (hm t rfl) v hg;simp[Act.eval,getD_eq_getD_getElem?,this]
 |const v=>rfl
 |global g=>rfl
 |func f=>rfl
theorem UC {ops:Array Oper} {o:Oper} {t:Nat} (h:Operand.tmp t∈o.op.operands.toList):t∈o.looksAt ops:=
 List.mem_append_left _ (List.mem_filterMap.2 ⟨.tmp t,h,rfl⟩)
theorem BA {ops:Array Oper} {o:Oper} {j s:Nat} {want:Bool} (hg:o.guard=some (j,want)) (hs:(ops.toList[j]?).bind (·.dst)=some s):s∈o.looksAt ops:=by
 refine List.mem_append_right _ ?_;have h1':(ops[j]?).bind (·.dst)=some s:=by simpa using hs
 simp[hg,h1']
theorem JI {P:Program} (hP:Vo P) {nt:Nat} {o:Oper} {g:Bool} {env:Env} {w:θ} {K:Env->b_} {a:Act} {r:Option Nat} {n:Nat}
  {next:Act->b_} {Q:Exit->Act->b_} {ops:Array Oper} (h:xG P nt o g env w K) (ha:Yt env a (o.looksAt ops))
  (hk:∀v w',K (env.put o.dst v) w'->rX nt o.dst=true->next (a.put o.dst v) w'):o.wpIn (Fr r) n P a w next Q:=by
 unfold xG at h
 cases hb:(ab8 env o.op.operands.toList && rX nt o.dst) with
 |false=>rw[hb] at h;exact h.elim
 |true=>
  rw[hb] at h;simp only[cond_true] at h;simp only[and_eq_true] at hb;have u:execOp a.eval o=execOp (ev env) o:=(execOp_congr o (Sz h).1 λx hx=>aek ha (λt e=>UC (by subst e;simpa using hx)) (ad6 _ hb.1 x (by simpa using hx))).symm;have hr:=ZM hP (λf=>rfl) h;rw[<- u] at hr;exact ae9 (Sz h).2 hr λv w' hv=>hk v w' (TU hv) hb.2
theorem CZ {P:Program} (hP:Vo P) {nt:Nat} {ops:Array Oper} {i:Nat} {o:Oper} {g:Bool} {env:Env} {w:θ} {K:Env->b_} {a:Act} {r:Option Nat} {n:Nat}
  {next:Act->b_} {Q:Exit->Act->b_} (ho:ops[i]? =some o) (h:rQ P nt ops.toList o g env w K) (ha:Yt env a (o.looksAt ops))
  (hk:∀v w',K (env.put o.dst v) w'->rX nt o.dst=true->next (a.put o.dst v) w'):wpOpIn (Fr r) n P ops Q i next a w:=by
 unfold wpOpIn;simp only[ho];unfold rQ at h
 cases hg:o.guard with
 |none=>
  simp only[hg] at h;have hw:Region.wanted o (yielded ops a.tmps)=true:=by simp[Region.wanted,hg]
  rw[if_pos hw];exact JI hP h ha hk
 |some jw=>
  obtain⟨j,want⟩:=jw;simp only[hg] at h
  cases hs:(ops.toList[j]?).bind (·.dst) with
  |none=>simp only[hs] at h
  |some s=>
   simp only[hs] at h;split at h
   ·rename_i t ht;have hy:=PU (ha _ (BA hg hs)) hs ht
    cases hb:(t==want) with
    |true=>
     rw[hb] at h;have hw:Region.wanted o (yielded ops a.tmps)=true:=by
      have:t=want:=by simpa using hb
      simp[Region.wanted,hg,hy,this]
     rw[if_pos hw];exact JI hP h ha hk
    |false=>
     rw[hb] at h;have hw:¬(Region.wanted o (yielded ops a.tmps)=true):=by
      have:t≠want:=by intro e;simp[e] at hb
      simp[Region.wanted,hg,hy,this]
     rw[if_neg hw];refine⟨λ_ _=>trivial,?_⟩;simp only[cond_false] at h
     cases hd:rX nt o.dst with
     |false=>rw[hd] at h;exact h.elim
     |true=>rw[hd] at h;exact hk _ _ h hd
   ·rename_i vs ht;have hw:¬(Region.wanted o (yielded ops a.tmps)=true):=by
     have h1':(ops[j]?).bind (·.dst)=some s:=by simpa using hs
     have:=(ha _ (BA hg hs)) _ ht;simp[Region.wanted,hg,yielded,h1',this]
    rw[if_neg hw];refine⟨λ_ _=>trivial,?_⟩
    cases hd:rX nt o.dst with
    |false=>rw[hd] at h;exact h.elim
    |true=>rw[hd] at h;exact hk _ _ h hd
   ·exact h.elim
def Md (ops:List Oper):List Nat:=ops.filterMap (·.dst)
theorem LD.put {nt:Nat} {ds:List Deferred} {ws:List Nat} {a0:Act} {env:Env} {a:Act} {d:Option Nat} {v:Value} (h:LD nt ds ws a0 env a) (hd:rX nt d=true) (hw:∀s,d=some s->s∈ws):
  LD nt ds ws a0 (env.put d v) (a.put d v):=by
 refine⟨h.agr.put (by rw[h.size];exact hd),by rw[CV];exact h.size,by rw[H9];exact h.defers,λs hs=> ?_⟩;rw[BI];have:¬(d=some s/\s<a.tmps.size):=λx=>hs (hw s x.1);rw[if_neg this];exact h.same s hs
theorem X6 {P:Program} (hP:Vo P) {nt:Nat} {ops:Array Oper} {K:Env->b_} {r:Option Nat} {n:Nat} {Q:Exit->Act->b_} {ds:List Deferred} {ws:List Nat} {a0:Act}
  (I:∀d∈Md ops.toList,d∈ws) (hQ:∀env a w,LD nt ds ws a0 env a->K env w->Q .normal a w):
  ∀(l:List Oper) (i:Nat) (env:Env) (a:Act) (w:θ),ops.toList.drop i=l->LD nt ds ws a0 env a->aaD P nt ops.toList i l env w K->
   wpOpsIn (Fr r) n P ops Q (List.range' i l.length) a w:=by
 intro l
 induction l with
 |nil=>intro i env a w _ ha h;exact hQ _ _ _ ha h
 |cons o l ih=>
  intro i env a w hl ha h;have ho:ops[i]? =some o:=by
   have:=congrArg (λl:List Oper=>l[0]?) hl;simpa using this
  rw[List.length_cons,List.range'_succ,wpOpsIn_cons];have u:o∈ops.toList:=by
   have:o∈ops.toList.drop i:=by rw[hl];simp
   exact List.mem_of_mem_drop this
  refine CZ hP ho h (ha.agr.on _) λv w' hv hd=> ?_;refine ih (i+1) _ _ _ ?_ (ha.put hd λs hs=>I s (List.mem_filterMap.2 ⟨o,u,hs⟩)) hv;have:=congrArg List.tail hl;simpa [List.tail_drop] using this
def FB (x:Nat):List Nat->Bool
 |[]=>false
 |y::r=>cond (Nat.beq y x) true (FB x r)
def Am (P:Program) (o:Oper):Bool:=
 match o.op with
 | .load _ _=>o.dst.isNone
 | .move _| .assign _| .pick _ _ _| .build _ _| .nilCheck _| .binOp _ _ _ _ _| .unOp _ _ _| .makeFunc _ _ _| .slice _ _ _ _ _
 | .fieldAddr _ _ _| .field _ _ _| .indexAddr _ _ _| .index _ _ _| .extract _ _=>false
 | .convert s d _=>match P.underlying s,P.underlying d with
  |some (.slice _),some .string=>true
  |some .string,some (.slice _)=>true
  |some (.slice _),some (.slice _)=>true
  |_,_=>false
 | .call c=>match c.callee with
  | .builtin .len=>match c.argTypes.toList with
   |[t]=>match P.underlying t with
    |some .string=>false
    |some (.slice _)=>false
    |some (.array _ _)=>false
    |_=>true
   |_=>true
  | .builtin .cap=>false
  | .builtin .max=>false
  | .builtin .min=>false
  |_=>true
 |_=>true
def vZ (done:List Nat) (o:Oper):Bool:=o.after.toList.all λe=> !Region.binds .any e||FB e.on done
def enumFrom:Nat->List Oper->List (Nat×Oper)
 |_,[]=>[]
 |i,o::r=>(i,o)::enumFrom (i+1) r
def xI (P:Program) (done:List Nat):List (Nat×Oper)->Option (Nat×Oper)
 |[]=>none
 |(i,o)::r=>cond (!FB i done && (!Am P o && vZ done o)) (some (i,o)) (xI P done r)
def E5 (P:Program) (done:List Nat):List (Nat×Oper)->List (Nat×Oper)
 |[]=>[]
 |(i,o)::r=>cond (!FB i done && (Am P o && vZ done o)) ((i,o)::E5 P done r) (E5 P done r)
def DU:List Value->θ->Addr->Nat->Prop->Prop
 |[],_,_,_,rest=>rest
 |v::vs,w,a,i,rest=>w.cell? (a.add i)=some v/\DU vs w a (i+1) rest
def Fg (sh:Shape) (av v:Value) (w:θ) (rest:Prop):Prop:=
 match sh,av,v with
 | .one _,.pointer (some a),v=>w.cell? a=some v/\rest
 | .agg _,.pointer (some a),.agg cs=>DU cs.toList w a 0 rest
 |_,_,_=>False
def bitsOf (acc:List Nat):List Edge->Nat
 |[]=>0
 |e::r=>cond (Region.binds .any e) (2^e.on|||(acc.getD e.on 0|||bitsOf acc r)) (bitsOf acc r)
def zi:List Oper->List Nat->List Nat
 |[],acc=>acc
 |o::r,acc=>zi r (acc++[bitsOf acc o.after.toList])
def Κ (pb:Nat) (w:θ):List (Nat×Shape×Value×Value)->Prop->Prop
 |[],rest=>rest
 |(i,sh,av,v)::r,rest=>cond (Nat.testBit pb i) (Κ pb w r rest) (Fg sh av v w (Κ pb w r rest))
def RJ (ops:List Oper) (o:Oper) (env:Env):Bool:=
 match o.guard with
 |none=>true
 |some (j,want)=>match (ops[j]?).bind (·.dst) with
  |some s=>match env.get s with
   |some (.bool t)=>t==want
   |some (.tuple _)=>false
   |_=>true
  |none=>true
def Ox (P:Program) (ops:List Oper) (i:Nat) (o:Oper) (env env':Env) (ld:List (Nat×Shape×Value×Value)):List (Nat×Shape×Value×Value):=
 match o.op,o.dst with
 | .load t x,some d=>cond (RJ ops o env) (match shapeOf P t with
  |some sh=>(i,sh,ev env x,ev env' (.tmp d))::ld
  |none=>ld) ld
 |_,_=>ld
def allOf {α:Type} (f:α->Prop):List α->Prop
 |[]=>True
 |[x]=>f x
 |x::r=>f x/\allOf f r
def xE (P:Program) (nt:Nat) (ops:List Oper) (pbs:List Nat):Nat->List Nat->List (Nat×Shape×Value×Value)->Env->θ->(Env->b_)->Prop
 |0,_,_,_,_,_=>False
 |fuel+1,done,ld,env,w,K=>
  match xI P done (enumFrom 0 ops) with
  |some (i,o)=>rQ P nt ops o (Xm ops i) env w λenv' w'=>xE P nt ops pbs fuel (i::done) (Ox P ops i o env env' ld) env' w' K
  |none=>match E5 P done (enumFrom 0 ops) with
   |[]=>cond (Nat.beq done.length ops.length) (K env w) False
   |e::es=>allOf (λ(e:Nat×Oper)=>rQ P nt ops e.2 (Xm ops e.1) env w λenv' w'=>
     Κ (pbs.getD e.1 0) w' ld (xE P nt ops pbs fuel (e.1::done) ld env' w' K)) (e::es)
def Xr (ops:List Oper) (o:Oper):List Nat:=
 (o.op.operands.toList.filterMap fun| .tmp t=>some t|_=>none)++
 (match o.guard with
  |some (g,_)=>((ops[g]?).bind (·.dst)).toList
  |none=>[])
def GY:List Nat->Bool
 |[]=>true
 |x::r=> !FB x r && GY r
def Qu (ops:List Oper) (pbs:List Nat) (i:Nat) (o:Oper):List (Nat×Oper)->Bool
 |[]=>true
 |(j,p)::r=>(match p.dst with
  |some d=>Nat.beq i j|| !FB d (Xr ops o)||(Nat.testBit (pbs.getD i 0) j||Nat.testBit (pbs.getD j 0) i)
  |none=>true) && Qu ops pbs i o r
def backOk (i:Nat) (o:Oper):Bool:=o.after.toList.all λe=> !Region.binds .any e||Nat.blt e.on i
def Nw (ops:List Oper) (pbs:List Nat):Bool:=
 GY (Md ops) && (enumFrom 0 ops).all λx=>backOk x.1 x.2 && Qu ops pbs x.1 x.2 (enumFrom 0 ops)
def Rk (P:Program) (nt:Nat) (ops:List Oper) (env:Env) (w:θ) (K:Env->b_):Prop:=
 cond (Nw ops (zi ops [])) (xE P nt ops (zi ops []) (ops.length+1) [] [] env w.drew K) False
theorem qP {x:Nat} {l:List Nat}:FB x l=true↔x∈l:=by
 induction l with
 |nil=>simp[FB]
 |cons y r ih=>
  simp only[FB];by_cases h:y=x
  ·subst h;simp
  ·have:Nat.beq y x=false:=by cases hb:Nat.beq y x;rfl;exact absurd (Nat.eq_of_beq_eq_true hb) h
   simp[this,ih,Ne.symm h]
theorem aeP {o:Oper} {i:Nat}:∀(l:List Oper) (k:Nat),(i,o)∈enumFrom k l↔∃j,l[j]? =some o/\i=k+j:=by
 intro l
 induction l with
 |nil=>intro k;simp[enumFrom]
 |cons p l ih=>
  intro k;simp only[enumFrom,mem_cons,Prod.mk.injEq,ih];constructor
  ·rintro(⟨rfl,rfl⟩|⟨j,h1,h2⟩)
   ·exact⟨0,by simp,by omega⟩
   ·exact⟨j+1,by simpa using h1,by omega⟩
  ·rintro⟨j,h1,h2⟩
   cases j with
   |zero=>simp at h1;exact .inl ⟨by omega,h1.symm⟩
   |succ j=>exact .inr ⟨j,by simpa using h1,by omega⟩
theorem wX {ops:Array Oper} {o:Oper} {i:Nat}:(i,o)∈enumFrom 0 ops.toList↔ops[i]? =some o:=by
 rw[aeP];constructor
 ·rintro⟨j,h1,h2⟩;have:i=j:=by omega
  subst this;simpa using h1
 ·intro h;exact⟨i,by simpa using h,by omega⟩
theorem Xb {P:Program} {done:List Nat} {i:Nat} {o:Oper}:∀(l:List (Nat×Oper)),xI P done l=some (i,o)->
  (i,o)∈l/\i∉done/\Am P o=false/\vZ done o=true:=by
 intro l
 induction l with
 |nil=>intro h;simp[xI] at h
 |cons x l ih=>
  obtain⟨j,p⟩:=x;intro h;simp only[xI] at h
  cases hb:(!FB j done && (!Am P p && vZ done p)) with
  |true=>
   rw[hb] at h;simp only[cond_true,Option.some.injEq,Prod.mk.injEq] at h;obtain⟨rfl,rfl⟩:=h;simp only[and_eq_true,not_eq_true'] at hb;exact⟨by simp,λhm=>by rw[qP.2 hm] at hb;simp at hb,hb.2.1,hb.2.2⟩
  |false=>
   rw[hb] at h;obtain⟨h1,h2⟩:=ih h;exact⟨by simp[h1],h2⟩
theorem Xa {P:Program} {done:List Nat}:∀(l:List (Nat×Oper)),xI P done l=none->∀i o,(i,o)∈l->i∉done->vZ done o=true->Am P o=true:=by
 intro l
 induction l with
 |nil=>intro _ i o h;cases h
 |cons x l ih=>
  obtain⟨j,p⟩:=x;intro h i o hm hd hp;simp only[xI] at h
  cases hb:(!FB j done && (!Am P p && vZ done p)) with
  |true=>rw[hb] at h;simp at h
  |false=>
   rw[hb] at h
   cases hm with
   |head=>
    have:FB j done=false:=by cases hx:FB j done;rfl;exact absurd (qP.1 hx) hd
    simp[this,hp] at hb;exact hb
   |tail _ hm=>exact ih h i o hm hd hp
theorem TP {P:Program} {done:List Nat} {i:Nat} {o:Oper}:∀(l:List (Nat×Oper)),(i,o)∈E5 P done l↔(i,o)∈l/\i∉done/\Am P o=true/\vZ done o=true:=by
 intro l
 induction l with
 |nil=>simp[E5]
 |cons x l ih=>
  obtain⟨j,p⟩:=x;simp only[E5]
  cases hb:(!FB j done && (Am P p && vZ done p)) with
  |true=>
   simp only[and_eq_true,not_eq_true'] at hb;have u:j∉done:=λhm=>by rw[qP.2 hm] at hb;simp at hb
   simp only[cond_true,mem_cons,Prod.mk.injEq,ih];constructor
   ·rintro(⟨rfl,rfl⟩|h)
    ·exact⟨.inl ⟨rfl,rfl⟩,u,hb.2⟩
    ·exact⟨.inr h.1,h.2⟩
   ·rintro⟨h1|h1,h2⟩
    ·exact .inl h1
    ·exact .inr ⟨h1,h2⟩
  |false=>
   simp only[cond_false,mem_cons,Prod.mk.injEq,ih];constructor
   ·intro h;exact⟨.inr h.1,h.2⟩
   ·rintro⟨h1|h1,h2,h3,h4⟩
    ·obtain⟨rfl,rfl⟩:=h1;have:FB i done=false:=by cases hx:FB i done;rfl;exact absurd (qP.1 hx) h2
     simp[this,h3,h4] at hb
    ·exact⟨h1,h2,h3,h4⟩
theorem abT {α:Type} {f:α->Prop}:∀(l:List α),allOf f l->∀x∈l,f x:=by
 intro l
 induction l with
 |nil=>intro _ x hx;cases hx
 |cons y r ih=>
  intro h x hx
  cases r with
  |nil=>simp at hx;subst hx;exact h
  |cons z r=>
   cases hx with
   |head=>exact h.1
   |tail _ hx=>exact ih h.2 x hx
def Dir (ops:Array Oper) (j i:Nat):Prop:=∃o,ops[i]? =some o/\∃e∈o.after.toList,Region.binds .any e=true/\e.on=j
inductive Pre (ops:Array Oper):Nat->Nat->Prop
 |one {j i:Nat}:Dir ops j i->Pre ops j i
 |tail {j k i:Nat}:Pre ops j k->Dir ops k i->Pre ops j i
theorem YJ {acc:List Nat} {j:Nat}:∀(es:List Edge),(bitsOf acc es).testBit j=true->∃e∈es,Region.binds .any e=true/\(e.on=j\/(acc.getD e.on 0).testBit j=true):=by
 intro es
 induction es with
 |nil=>intro h;simp[bitsOf] at h
 |cons e es ih=>
  intro h;simp only[bitsOf] at h
  cases hb:Region.binds .any e with
  |false=>
   rw[hb] at h;obtain⟨e',h1,h2⟩:=ih h;exact⟨e',by simp[h1],h2⟩
  |true=>
   rw[hb] at h;simp only[cond_true,Nat.testBit_or,or_eq_true,Nat.testBit_two_pow,decide_eq_true_eq] at h;rcases h with h|h|h
   ·exact⟨e,by simp,hb,.inl h⟩
   ·exact⟨e,by simp,hb,.inr h⟩
   ·obtain⟨e',h1,h2⟩:=ih h;exact⟨e',by simp[h1],h2⟩
theorem Yb {ops:Array Oper}:∀(l:List Oper) (acc:List Nat),ops.toList.drop acc.length=l->(∀i j,(acc.getD i 0).testBit j=true->Pre ops j i)->
  ∀i j,((zi l acc).getD i 0).testBit j=true->Pre ops j i:=by
 intro l
 induction l with
 |nil=>intro acc _ h;exact h
 |cons o l ih=>
  intro acc hl h;simp only[zi];have ho:ops[acc.length]? =some o:=by
   have:=congrArg (λl:List Oper=>l[0]?) hl;simpa using this
  refine ih _ ?_ ?_
  ·have:=congrArg List.tail hl;simpa [List.tail_drop] using this
  ·intro i j hb;rcases Nat.lt_trichotomy i acc.length with hi|hi|hi
   ·rw[List.getD_eq_getElem?_getD,List.getElem?_append_left hi,<- List.getD_eq_getElem?_getD] at hb;exact h i j hb
   ·subst hi;rw[List.getD_eq_getElem?_getD,List.getElem?_append_right (Nat.le_refl _)] at hb;simp only[Nat.sub_self,List.getElem?_cons_zero,getD_some] at hb;obtain⟨e,h1,h2,h3⟩:=YJ _ hb;rcases h3 with h3|h3
    ·exact .one ⟨o,ho,e,h1,h2,h3⟩
    ·exact .tail (h _ _ h3) ⟨o,ho,e,h1,h2,rfl⟩
   ·rw[List.getD_eq_getElem?_getD,List.getElem?_eq_none (by simp;omega)] at hb;simp at hb
theorem TN {ops:Array Oper} {i j:Nat} (h:((zi ops.toList []).getD i 0).testBit j=true):Pre ops j i:=
 Yb ops.toList [] rfl (λi j h=>by simp at h) i j h
theorem xg {ops:Array Oper} {D:Nat->Prop} (hD:∀i j,D i->Dir ops j i->D j) {i j:Nat} (h:Pre ops j i):D i->D j:=by
 induction h with
 |one h=>exact λhi=>hD _ _ hi h
 |tail _ h ih=>exact λhi=>ih (hD _ _ hi h)
theorem zG {ops:Array Oper} {D:Nat->Prop} (hD:∀i j,D i->Dir ops j i->D j) {i:Nat} (hi:∀j,Dir ops j i->D j) {j:Nat} (h:Pre ops j i):D j:=by
 cases h with
 |one h=>exact hi _ h
 |tail h1 h2=>exact xg hD h1 (hi _ h2)
theorem aar:∀(ops:List Oper),GY (Md ops)=true->∀(i j:Nat) (oi oj:Oper) (s:Nat),ops[i]? =some oi->ops[j]? =some oj->oi.dst=some s->oj.dst=some s->i=j:=by
 intro ops
 induction ops with
 |nil=>intro _ i j oi oj s hi;simp at hi
 |cons o r ih=>
  intro h i j oi oj s hi hj u I;have J:∀(k:Nat) (x:Oper),r[k]? =some x->x.dst=some s->s∈Md r:=λk x hk hx=>List.mem_filterMap.2 ⟨x,List.mem_of_getElem? hk,hx⟩
  cases hd:o.dst with
  |none=>
   have h':GY (Md r)=true:=by simpa [Md,hd] using h
   cases i with
   |zero=>simp at hi;subst hi;rw[hd] at u;cases u
   |succ i=>cases j with
    |zero=>simp at hj;subst hj;rw[hd] at I;cases I
    |succ j=>rw[ih h' i j oi oj s (by simpa using hi) (by simpa using hj) u I]
  |some d=>
   have h0:GY (d::Md r)=true:=by simpa [Md,hd] using h
   simp only[GY,and_eq_true,not_eq_true'] at h0;have N:d∉Md r:=λhm=>by rw[qP.2 hm] at h0;simp at h0
   cases i with
   |zero=>
    simp at hi;subst hi;rw[hd] at u;cases u
    cases j with
    |zero=>rfl
    |succ j=>exact absurd (J j oj (by simpa using hj) I) N
   |succ i=>cases j with
    |zero=>
     simp at hj;subst hj;rw[hd] at I;cases I;exact absurd (J i oi (by simpa using hi) u) N
    |succ j=>rw[ih h0.2 i j oi oj s (by simpa using hi) (by simpa using hj) u I]
theorem acD (ops:Array Oper) (o:Oper):Xr ops.toList o=o.looksAt ops:=by
 unfold Xr Oper.looksAt;congr 1
 cases o.guard<;>simp
theorem Wx {ops:List Oper} {pbs:List Nat} {i:Nat} {o:Oper}:∀(l:List (Nat×Oper)),Qu ops pbs i o l=true->∀j p d,(j,p)∈l->p.dst=some d->d∈Xr ops o->
  i=j\/(pbs.getD i 0).testBit j=true\/(pbs.getD j 0).testBit i=true:=by
 intro l
 induction l with
 |nil=>intro _ j p d h;cases h
 |cons x l ih=>
  obtain⟨k,q⟩:=x;intro h j p d hm hd hl;simp only[Qu,and_eq_true] at h
  cases hm with
  |head=>
   rw[hd] at h;simp only[or_eq_true,not_eq_true',beq_eq] at h;rcases h.1 with (h1|h1)|h1
   ·exact .inl h1
   ·rw[qP.2 hl] at h1;cases h1
   ·exact .inr h1
  |tail _ hm=>exact ih h.2 j p d hm hd hl
structure ROk (ops:Array Oper):Prop where
 dst:∀(i j:Nat) (oi oj:Oper) (s:Nat),ops[i]? =some oi->ops[j]? =some oj->oi.dst=some s->oj.dst=some s->i=j
 apart:∀(i j:Nat) (oi oj:Oper) (s:Nat),ops[i]? =some oi->ops[j]? =some oj->oj.dst=some s->s∈oi.looksAt ops->i=j\/Pre ops j i\/Pre ops i j
 back:∀i j,Dir ops j i->j<i
theorem Vj {ops:Array Oper} (h:Nw ops.toList (zi ops.toList [])=true):ROk ops:=by
 simp only[Nw,and_eq_true,all_eq_true] at h;refine⟨λi j oi oj s hi hj=>aar _ h.1 i j oi oj s (by simpa using hi) (by simpa using hj),λi j oi oj s hi hj hs hl=> ?_,λi j hd=> ?_⟩
 ·have:=(h.2 (i,oi) (wX.2 hi)).2;rcases Wx _ this j oj s (wX.2 hj) hs (by rw[acD];exact hl) with h1|h1|h1
  ·exact .inl h1
  ·exact .inr (.inl (TN h1))
  ·exact .inr (.inr (TN h1))
 ·obtain⟨o,ho,e,he,hb,rfl⟩:=hd;have:=(h.2 (i,o) (wX.2 ho)).1;simp only[backOk,all_eq_true,or_eq_true,not_eq_true',blt_eq] at this;rcases this e he with h1|h1
  ·rw[hb] at h1;cases h1
  ·exact h1
theorem ab7 {k:Kind} {x:k.T} {φ:k.T->Prop} (h:φ x):k.dec (k.enc x) φ:=by
 cases k with
 |int k=>
  have e:KH k k=true:=by cases k<;>rfl
  show cond (KH k k) (φ x) False;rw[e];exact h
 |_=>exact h
def Lin {α:Type} (F:(α->Prop)->Prop):Prop:=∀φ,F φ->∃v,φ v/\∀φ':α->Prop,φ' v->F φ'
theorem aag (op:BinOp) (k:IntKind) (a b:Int):Lin (KJ op k a b):=by
 intro φ h
 cases op<;>simp only[KJ] at h ⊢<;>first
  |exact⟨_,h,λ_ h'=>h'⟩
  |exact⟨_,h.2,λ_ h'=>⟨h.1,h'⟩⟩
  |exact h.elim
theorem aah (op:BinOp) (a b:ByteArray):Lin (Ls op a b):=by
 intro φ h
 cases op<;>simp only[Ls] at h ⊢<;>first
  |exact⟨_,h,λ_ h'=>h'⟩
  |exact⟨_,h.2,λ_ h'=>⟨h.1,h'⟩⟩
  |exact h.elim
theorem R_ (op:BinOp) (x y:Value):Lin (JX op x y):=by
 intro φ h
 cases x with
 |int k n=>
  cases y with
  |int k' m=>
   by_cases h1:op= .shl
   ·subst h1;exact⟨_,h.2,λ_ h'=>⟨h.1,h'⟩⟩
   ·by_cases h2:op= .shr
    ·subst h2;exact⟨_,h.2,λ_ h'=>⟨h.1,h'⟩⟩
    ·have e:∀φ,JX op (.int k n) (.int k' m) φ=cond (KH k k') (KJ op k n m φ) False:=by
      intro φ;cases op<;>first|rfl|exact absurd rfl h1|exact absurd rfl h2
     rw[e] at h
     cases hk:KH k k' with
     |false=>rw[hk] at h;exact h.elim
     |true=>
      rw[hk] at h;obtain⟨v,hv,h'⟩:=aag op k n m φ h;exact⟨v,hv,λφ' hφ=>by rw[e,hk];exact h' φ' hφ⟩
  |_=>cases op<;>exact h.elim
 |string s=>
  cases y with
  |string s'=>
   have e:∀φ,JX op (.string s) (.string s') φ=Ls op s s' φ:=by intro φ;cases op<;>rfl
   rw[e] at h;obtain⟨v,hv,h'⟩:=aah op s s' φ h;exact⟨v,hv,λφ' hφ=>by rw[e];exact h' φ' hφ⟩
  |_=>cases op<;>exact h.elim
 |_=>cases op<;>exact h.elim
theorem VQ (d:TypeDesc) (x y:Value):Lin (JH d x y):=by
 intro φ h;unfold JH at h ⊢;split at h<;>first|exact⟨_,h,λ_ h'=>h'⟩|exact h.elim
theorem Xo (P:Program) (op:BinOp) (t:TypeId) (x y:Value):Lin (FY P op t x y):=by
 intro φ h;unfold FY at h ⊢;split at h
 ·exact R_ _ _ _ φ h
 ·exact R_ _ _ _ φ h
 ·split at h
  case h_2=>exact h.elim
  rename_i s ys ho
  cases hg:P.eqGuardType P.depth t with
  |true=>rw[hg] at h;exact h.elim
  |false=>
   simp only[hg,cond_false] at h ⊢;split at h
   case h_2=>exact h.elim
   rename_i r hr;exact⟨_,h,λφ' hφ=>by simpa only [hr] using hφ⟩
 ·split at h
  ·obtain⟨v,hv,h'⟩:=VQ _ _ _ _ h;exact⟨_,hv,λφ' hφ=>h' (λb=>φ' (.bool b)) hφ⟩
  ·obtain⟨v,hv,h'⟩:=VQ _ _ _ _ h;exact⟨_,hv,λφ' hφ=>h' (λb=>φ' (.bool !b)) hφ⟩
  ·exact h.elim
theorem acB (P:Program) (op:BinOp) (t:TypeId) (x y:Value):Lin (E8 P op t x y):=by
 intro φ h;unfold E8 at h ⊢;split at h<;>first|exact⟨_,h,λ_ h'=>h'⟩|exact h.elim
theorem Ze (op:UnOp) (x:Value):Lin (NJ op x):=by
 intro φ h;unfold NJ at h ⊢;split at h<;>first|exact⟨_,h,λ_ h'=>h'⟩|exact h.elim
theorem vY {α:Type} (ρ:Operand->Value) (x:Option Operand) (d:Int) (F:Int->(α->Prop)->Prop) (hF:∀i,Lin (F i)):Lin (λφ=>yh ρ x d λi=>F i φ):=by
 intro φ h;unfold yh at h ⊢;split at h
 ·exact hF _ φ h
 ·split at h
  ·exact hF _ φ h
  ·exact h.elim
theorem Xp (P:Program) (t:TypeId) (x:Value) (ρ:Operand->Value) (lo hi mx:Option Operand):Lin (Ib P t x ρ lo hi mx):=by
 intro φ h;unfold Ib at h ⊢;split at h
 ·split at h
  ·exact vY ρ lo 0 (λl (φ:Value->Prop)=>yh ρ hi _ λh=>ϛ _ l h λs'=>φ (.string s')) (λl=>vY ρ hi _ (λh (φ:Value->Prop)=>ϛ _ l h λs'=>φ (.string s'))
    λh φ hh=>⟨_,hh.2.2.2,λ_ h'=>⟨hh.1,hh.2.1,hh.2.2.1,h'⟩⟩) φ h
  ·exact h.elim
 ·split at h
  ·split at h
   ·exact vY ρ lo 0 (λl φ=>yh ρ hi _ λh=>kT _ _ l h λs'=>φ s'.v) (λl=>vY ρ hi _ (λh φ=>kT _ _ l h λs'=>φ s'.v)
     λh φ hh=>⟨_,hh.2.2.2,λ_ h'=>⟨hh.1,hh.2.1,hh.2.2.1,h'⟩⟩) φ h
   ·split at h
    ·exact vY ρ lo 0 (λl φ=>yh ρ _ 0 λh=>yh ρ _ 0 λm=>QK _ _ l h m λs'=>φ s'.v) (λl=>vY ρ _ 0 (λh φ=>yh ρ _ 0 λm=>QK _ _ l h m λs'=>φ s'.v)
      λh=>vY ρ _ 0 (λm φ=>QK _ _ l h m λs'=>φ s'.v)
      λm φ hh=>⟨_,hh.2.2.2.2,λ_ h'=>⟨hh.1,hh.2.1,hh.2.2.1,hh.2.2.2.1,h'⟩⟩) φ h
    ·exact h.elim
  ·exact h.elim
 ·split at h
  ·split at h
   ·exact vY ρ lo 0 (λl φ=>yh ρ hi _ λh=>FX _ _ _ l h λs'=>φ s'.v) (λl=>vY ρ hi _ (λh φ=>FX _ _ _ l h λs'=>φ s'.v)
     λh φ hh=>⟨_,hh.2.2.2,λ_ h'=>⟨hh.1,hh.2.1,hh.2.2.1,h'⟩⟩) φ h
   ·exact h.elim
  ·exact h.elim
 ·exact h.elim
theorem Si (d:TypeDesc) (size off:Nat) (cs:List Value):Lin (partOf d size off cs):=by
 intro φ h;unfold partOf at h ⊢
 cases hg:GR d with
 |true=>simp only[hg,cond_true] at h ⊢;exact⟨_,h,λ_ h'=>h'⟩
 |false=>
  simp only[hg,cond_false] at h ⊢;split at h
  ·exact⟨_,h,λ_ h'=>h'⟩
  ·exact h.elim
theorem Pz (mx:Bool):∀(r:List Value) (x:Int) (k:IntKind),Lin (EI mx x r k):=by
 intro r
 induction r with
 |nil=>exact λx k φ h=>⟨_,h,λ_ h'=>h'⟩
 |cons y r ih=>
  intro x k φ h
  cases y with
  |int ky y=>exact ih _ _ φ h
  |_=>exact h.elim
theorem Zd (P:Program) (s d:TypeId) (x:Value):Lin (Qw P s d x):=by
 intro φ h;unfold Qw at h ⊢;split at h<;>first|exact⟨_,h,λ_ h'=>h'⟩|exact h.elim
theorem Yc {P:Program} {b:Builtin} {ts:List TypeId} {args:List Value} {w:θ} {K:Value->b_}
  (hb:(b= .len/\∃t,ts=[t]/\∃d,P.underlying t=some d/\(d= .string\/(∃e,d= .slice e)\/∃n e,d= .array n e))\/b= .cap\/b= .max\/b= .min) (h:oQ P b ts args w K):
  ∃v,K v w/\∀(w':θ) (K':Value->b_),K' v w'->oQ P b ts args w' K':=by
 rcases hb with ⟨rfl,t,rfl,d,hd,hk⟩|rfl|rfl|rfl
 ·unfold oQ at h ⊢;split at h<;>first|contradiction|exact h.elim|skip
  rename_i e1 e2
  cases e2
  simp only[hd] at h ⊢;rcases hk with rfl|⟨e,rfl⟩|⟨n,e,rfl⟩
  ·unfold Ou at h ⊢;split at h<;>first|contradiction|exact h.elim|exact⟨_,h,λ_ _ h'=>h'⟩
  ·unfold Ou at h ⊢;split at h<;>first|contradiction|exact h.elim|exact⟨_,h,λ_ _ h'=>h'⟩
  ·unfold Ou at h ⊢;split at h<;>first|contradiction|exact h.elim|exact⟨_,h,λ_ _ h'=>h'⟩
 ·unfold oQ at h ⊢;split at h<;>first|contradiction|exact h.elim|skip
  split at h
  ·exact⟨_,h,λ_ _ h'=>h'⟩
  ·exact h.elim
 ·unfold oQ at h ⊢;split at h<;>first|contradiction|exact h.elim|skip
  obtain⟨v,hv,h'⟩:=Pz _ _ _ _ _ h;exact⟨v,hv,λw' K' hk=>h' (λv=>K' v w') hk⟩
 ·unfold oQ at h ⊢;split at h<;>first|contradiction|exact h.elim|skip
  obtain⟨v,hv,h'⟩:=Pz _ _ _ _ _ h;exact⟨v,hv,λw' K' hk=>h' (λv=>K' v w') hk⟩
theorem agD {P:Program} {o:Oper} {ρ:Operand->Value} {w:θ} {K:Value->b_} (u:Am P o=false) (hl:∀t x,o.op≠.load t x) (h:yg P o ρ w K):
  ∃v,K v w/\∀(w':θ) (K':Value->b_),K' v w'->yg P o ρ w' K':=by
 obtain⟨dst,op,type,pos,after,guard⟩:=o
 cases op<;>simp only[yg] at h ⊢<;>simp only[Am] at u
 case load t x=>exact absurd rfl (hl t x)
 case move x=>exact⟨_,h,λ_ _ h'=>h'⟩
 case assign x=>exact⟨_,h,λ_ _ h'=>h'⟩
 case pick c a b=>
  split at h
  ·rename_i t hc
   cases t with
   |true=>exact⟨_,h,λ_ _ h'=>h'⟩
   |false=>exact⟨_,h,λ_ _ h'=>h'⟩
  ·exact h.elim
 case build t ps=>
  split at h
  ·split at h
   ·rename_i pl hpl;split at h
    ·rename_i cs I;exact⟨_,h,λ_ _ h'=>h'⟩
    ·exact h.elim
   ·exact h.elim
  ·split at h
   ·rename_i size hs;split at h
    ·rename_i cs I;exact⟨_,h,λ_ _ h'=>h'⟩
    ·exact h.elim
   ·exact h.elim
  ·exact h.elim
 case nilCheck x=>
  split at h
  ·obtain⟨a,ha,h⟩:=h;exact⟨_,h,λ_ _ h'=>⟨a,ha,h'⟩⟩
  ·exact h.elim
 case binOp op t x y yt=>
  split at h
  ·obtain⟨v,hv,h'⟩:=acB P op t _ _ _ h;exact⟨v,hv,λw' K' hk=>h' (λv=>K' v w') hk⟩
  ·obtain⟨v,hv,h'⟩:=Xo P op t _ _ _ h;exact⟨v,hv,λw' K' hk=>h' (λv=>K' v w') hk⟩
 case unOp op t x=>
  obtain⟨v,hv,h'⟩:=Ze op _ _ h;exact⟨v,hv,λw' K' hk=>h' (λv=>K' v w') hk⟩
 case convert s d x=>
  split at h
  ·rename_i hs hd hx;rw[hs,hd] at u
   cases u
  ·rename_i hs hd hx;rw[hs,hd] at u
   cases u
  ·rename_i hs hd hx;rw[hs,hd] at u
   cases u
  ·obtain⟨v,hv,h'⟩:=Zd P s d _ _ h;exact⟨v,hv,λw' K' hk=>h' (λv=>K' v w') hk⟩
 case makeFunc fn first cap=>exact⟨_,h,λ_ _ h'=>h'⟩
 case slice t x lo hi mx=>
  obtain⟨v,hv,h'⟩:=Xp P t _ ρ lo hi mx _ h;exact⟨v,hv,λw' K' hk=>h' (λv=>K' v w') hk⟩
 case fieldAddr t x f=>
  split at h
  ·rename_i fs a ht hx;split at h
   ·rename_i off size hf
    cases hb:Nat.beq size 0 with
    |true=>rw[hb] at h;exact False.elim h
    |false=>
     have h2:K (.pointer (some (a.add off))) w:=by rw[hb] at h;exact h
     exact⟨_,h2,λ_ _ h'=>h'⟩
   ·exact h.elim
  ·exact h.elim
 case field t x f=>
  split at h
  ·split at h
   ·rename_i fd hf;split at h
    ·rename_i d size hd hs;obtain⟨v,hv,h'⟩:=Si _ _ _ _ _ h;exact⟨v,hv,λw' K' hk=>h' (λv=>K' v w') hk⟩
    ·exact h.elim
   ·exact h.elim
  ·exact h.elim
 case indexAddr t x i=>
  split at h
  ·split at h
   ·rename_i size hs;obtain⟨a',h1,h2,h3,h⟩:=h;exact⟨_,h,λ_ _ h'=>⟨a',h1,h2,h3,h'⟩⟩
   ·exact h.elim
  ·split at h
   ·rename_i size hs;obtain⟨h2,h3,h⟩:=h;exact⟨_,h,λ_ _ h'=>⟨h2,h3,h'⟩⟩
   ·exact h.elim
  ·exact h.elim
 case index t x i=>
  split at h
  ·obtain⟨b,h1,h2,h⟩:=h;exact⟨_,h,λ_ _ h'=>⟨b,h1,h2,h'⟩⟩
  ·split at h
   ·rename_i d size hd hs;obtain⟨h1,h2,h⟩:=h;obtain⟨v,hv,h'⟩:=Si _ _ _ _ _ h;exact⟨v,hv,λw' K' hk=>⟨h1,h2,h' (λv=>K' v w') hk⟩⟩
   ·exact h.elim
  ·exact h.elim
 case extract t i=>
  split at h
  ·split at h
   ·rename_i v hv;split at h
    ·obtain⟨x,hx,h⟩:=LZ h;exact⟨_,h,λ_ _ h'=>by rw[hx];exact ab7 h'⟩
    ·exact⟨_,h,λ_ _ h'=>h'⟩
   ·exact h.elim
  ·exact h.elim
 case call c=>
  split at h
  ·rename_i f hc;simp only[hc] at u;cases u
  ·rename_i hc;simp only[hc] at u;cases u
  ·rename_i b hc;simp only[hc] at u;refine Yc ?_ h
   cases b<;>first|(cases u;done)|(exact .inr (.inl rfl))|(exact .inr (.inr (.inl rfl)))|(exact .inr (.inr (.inr rfl)))|skip
   refine .inl ⟨rfl,?_⟩;simp only at u;split at u
   ·rename_i t ht;refine⟨t,ht,?_⟩;split at u<;>first|(cases u;done)|skip
    ·rename_i hd;exact⟨_,hd,.inl rfl⟩
    ·rename_i hd;exact⟨_,hd,.inr (.inl ⟨_,rfl⟩)⟩
    ·rename_i hd;exact⟨_,hd,.inr (.inr ⟨_,_,rfl⟩)⟩
   ·cases u
  ·rename_i hc;simp only[hc] at u;cases u
 all_goals first|exact h.elim|(cases u;done)
def Ex (P:Program) (r:Option Nat) (ops:Array Oper) (i:Nat) (o:Oper) (E:Env) (v:Value) (w:θ):Prop:=
 ∀(n:Nat) (Q:Exit->Act->b_) (a:Act) (next:Act->b_),Yt E a (o.looksAt ops)->next (a.put o.dst v) w->wpOpIn (Fr r) n P ops Q i next a w
theorem Ic {w:θ} {a:Addr} {rest:Prop}:∀(vs:List Value) (i:Nat),DU vs w a i rest->(∀j v,vs[j]? =some v->w.cell? (a.add (i+j))=some v)/\rest:=by
 intro vs
 induction vs with
 |nil=>exact λi h=>⟨λj v hj=>by simp at hj,h⟩
 |cons v vs ih=>
  rintro i ⟨h1,h2⟩;obtain⟨h3,h4⟩:=ih (i+1) h2;refine⟨λj u hj=> ?_,h4⟩
  cases j with
  |zero=>simp at hj;subst hj;exact h1
  |succ j=>rw[show i+(j+1)=i+1+j by omega];exact h3 j u (by simpa using hj)
theorem TV {w:θ} {a:Addr} {rest:Prop}:∀(vs:List Value) (i:Nat),DU vs w a i rest->DU vs w a i True:=by
 intro vs
 induction vs with
 |nil=>exact λ_ _=>trivial
 |cons v vs ih=>exact λi h=>⟨h.1,ih _ h.2⟩
theorem aaM {sh:Shape} {av v:Value} {w:θ} {rest:Prop} (h:Fg sh av v w rest):Fg sh av v w True/\rest:=by
 unfold Fg at h ⊢;split at h
 ·exact⟨⟨h.1,trivial⟩,h.2⟩
 ·exact⟨TV _ _ h,(Ic _ _ h).2⟩
 ·exact h.elim
theorem aaN {pb:Nat} {w:θ} {rest:Prop}:∀(ld:List (Nat×Shape×Value×Value)),Κ pb w ld rest->
  rest/\∀i sh av v,(i,sh,av,v)∈ld->pb.testBit i=true\/Fg sh av v w True:=by
 intro ld
 induction ld with
 |nil=>exact λh=>⟨h,λi sh av v hm=>by cases hm⟩
 |cons x ld ih=>
  obtain⟨i,sh,av,v⟩:=x;intro h;simp only[Κ] at h
  cases hb:pb.testBit i with
  |true=>
   rw[hb] at h;obtain⟨h1,h2⟩:=ih h;refine⟨h1,λj sj bv u hm=> ?_⟩
   cases hm with
   |head=>exact .inl hb
   |tail _ hm=>exact h2 _ _ _ _ hm
  |false=>
   rw[hb] at h;obtain⟨h0,h⟩:=aaM h;obtain⟨h1,h2⟩:=ih h;refine⟨h1,λj sj bv u hm=> ?_⟩
   cases hm with
   |head=>exact .inr h0
   |tail _ hm=>exact h2 _ _ _ _ hm
theorem acA {w:θ} {a:Addr}:∀(ks:List Kind) (i:Nat) (φ:List Value->Prop),LdN ks w a i φ->
  ∃vs,φ vs/\(∀j v,vs[j]? =some v->w.cell? (a.add (i+j))=some v)/\
   ∀w':θ,(∀j v,vs[j]? =some v->w'.cell? (a.add (i+j))=some v)->∀φ':List Value->Prop,φ' vs->LdN ks w' a i φ':=by
 intro ks
 induction ks with
 |nil=>exact λi φ h=>⟨[],h,λj v hj=>by simp at hj,λ_ _ φ' h'=>h'⟩
 |cons k ks ih=>
  rintro i φ ⟨x,hx,h⟩;obtain⟨vs,hφ,hc,u⟩:=ih (i+1) _ h;refine⟨k.enc x::vs,hφ,λj v hj=> ?_,λw' hw φ' h'=> ?_⟩
  ·cases j with
   |zero=>simp at hj;subst hj;exact hx
   |succ j=>rw[show i+(j+1)=i+1+j by omega];exact hc j v (by simpa using hj)
  ·refine⟨x,by simpa using hw 0 (k.enc x) (by simp),u w' (λj v hj=> ?_) _ h'⟩;have:=hw (j+1) v (by simpa using hj)
   rwa [show i+(j+1)=i+1+j by omega] at this
theorem aai {sh:Shape} {w:θ} {a:Addr} {φ:Value->Prop} (h:sh.ld w a φ):
  ∃v,φ v/\(∀φ':Value->Prop,φ' v->sh.ld w a φ')/\∀w',Fg sh (.pointer (some a)) v w' True->∀φ':Value->Prop,φ' v->sh.ld w' a φ':=by
 cases sh with
 |one k=>
  obtain⟨x,hx,h⟩:=h;exact⟨_,h,λφ' h'=>⟨x,hx,h'⟩,λw' hs φ' h'=>⟨x,hs.1,h'⟩⟩
 |agg ks=>
  obtain⟨vs,hφ,hc,u⟩:=acA ks 0 _ h;exact⟨_,hφ,λφ' h'=>u w hc (λvs=>φ' (.agg ⟨vs⟩)) h',λw' hs φ' h'=>u w' (Ic _ _ hs).1 (λvs=>φ' (.agg ⟨vs⟩)) h'⟩
theorem aiM {P:Program} {o:Oper} {ρ:Operand->Value} {w:θ} {K:Value->b_} (u:Am P o=false) (h:yg P o ρ w K):
  ∃v,K v w/\(∀K':Value->b_,K' v w->yg P o ρ w K')/\
   ((∀(w':θ) (K':Value->b_),K' v w'->yg P o ρ w' K')\/
    ∃t x d sh,o.op= .load t x/\o.dst=some d/\shapeOf P t=some sh/\∀w',Fg sh (ρ x) v w' True->∀K':Value->b_,K' v w'->yg P o ρ w' K'):=by
 by_cases hl:∃t x,o.op= .load t x
 ·obtain⟨t,x,ho⟩:=hl;have hd:∃d,o.dst=some d:=by
   simp only[Am,ho] at u
   cases hd:o.dst with
   |none=>simp[hd] at u
   |some d=>exact⟨d,rfl⟩
  obtain⟨d,hd⟩:=hd;have e:∀w K,yg P o ρ w K=(match ρ x,shapeOf P t,jB P t with
    | .pointer (some a),some sh,some n=>cond (Nat.beq sh.cells n) (sh.ld w a λv=>K v w) False
    |_,_,_=>False):=by
   intro w K;simp only[yg,ho]<;>rfl
  rw[e] at h;split at h
  ·rename_i a sh n hx hs hn
   cases hb:Nat.beq sh.cells n with
   |false=>rw[hb] at h;exact h.elim
   |true=>
    rw[hb] at h;obtain⟨v,hv,h1,h2⟩:=aai h;have e':∀w K,yg P o ρ w K=sh.ld w a λv=>K v w:=by
     intro w K;rw[e];simp only[hx,hs,hn,hb,cond_true]
    refine⟨v,hv,λK' hk=> ?_,.inr ⟨t,x,d,sh,ho,hd,hs,λw' I K' hk=> ?_⟩⟩
    ·rw[e'];exact h1 (λv=>K' v w) hk
    ·rw[e'];rw[hx] at I;exact h2 w' I (λv=>K' v w') hk
  ·exact h.elim
 ·obtain⟨v,hv,h'⟩:=agD u (λt x e=>hl ⟨t,x,e⟩) h;exact⟨v,hv,λK' hk=>h' w K' hk,.inl h'⟩
theorem agn {P:Program} (hP:Vo P) {nt:Nat} {ops:Array Oper} {i:Nat} {o:Oper} {g:Bool} {env:Env} {w:θ} {K:Env->b_} (r:Option Nat)
  (ho:ops[i]? =some o) (N:Am P o=false) (h:rQ P nt ops.toList o g env w K):
  ∃v,rX nt o.dst=true/\K (env.put o.dst v) w/\Ex P r ops i o env v w/\
   ((∀w',Ex P r ops i o env v w')\/∃sh av,(∀ld,(i,sh,av,v)∈Ox P ops.toList i o env (env.put o.dst v) ld)/\∀w',Fg sh av v w' True->Ex P r ops i o env v w'):=by
 have run:∀(K':Env->b_),xG P nt o g env w K'->rQ P nt ops.toList o g env w K->(∀w' (K'':Env->b_),xG P nt o false env w' K''->rQ P nt ops.toList o false env w' K'')->
   RJ ops.toList o env=true->xG P nt o g env w K->
   ∃v,rX nt o.dst=true/\K (env.put o.dst v) w/\Ex P r ops i o env v w/\
   ((∀w',Ex P r ops i o env v w')\/∃sh av,(∀ld,(i,sh,av,v)∈Ox P ops.toList i o env (env.put o.dst v) ld)/\∀w',Fg sh av v w' True->Ex P r ops i o env v w'):=by
  intro _ _ _ I O h;unfold xG at h
  cases hb:(ab8 env o.op.operands.toList && rX nt o.dst) with
  |false=>rw[hb] at h;exact h.elim
  |true=>
   rw[hb] at h;simp only[cond_true] at h;have J:rX nt o.dst=true:=by simp only[and_eq_true] at hb;exact hb.2
   obtain⟨v,hv,h1,h2⟩:=aiM N h;have mk:∀w',(∀K':Value->b_,K' v w'->yg P o (ev env) w' K')->Ex P r ops i o env v w':=by
    intro w' hw' n Q a next ha hn
    have hx2:xG P nt o false env w' λenv' w''=>(∀u,env'=env.put o.dst u->u=v\/o.dst=none)/\w''=w':=by
     unfold xG;rw[hb];simp only[cond_true];refine hw' _ ?_;simp only[split,cond_false];refine⟨λu hu=> ?_,by trivial⟩
     cases hd:o.dst with
     |none=>exact .inr rfl
     |some d=>
      left;rw[hd] at hu;simp only[Env.put,List.cons.injEq,Prod.mk.injEq,true_and,and_true] at hu;exact hu.symm
    refine CZ hP ho (I w' _ hx2) ha λu w'' hu _=> ?_;obtain⟨hu,rfl⟩:=hu;rcases hu u rfl with rfl|hd
    ·exact hn
    ·rw[hd] at hn ⊢;exact hn
   refine⟨v,J,TU hv,mk w h1,?_⟩;rcases h2 with h2|⟨t,x,d,sh,e1,e2,e3,h2⟩
   ·exact .inl λw'=>mk w' (h2 w')
   ·refine .inr ⟨sh,ev env x,λld=> ?_,λw' hs=>mk w' (h2 w' hs)⟩;simp only[Ox,e1,e2,O,cond_true,e3];have:ev (env.put (some d) v) (.tmp d)=v:=by simp[ev,evO,Env.put,oI]
    rw[this];exact mem_cons_self ..
 unfold rQ at h
 cases hg:o.guard with
 |none=>
  simp only[hg] at h;exact run _ h (by unfold rQ;simp only[hg];exact h) (λw' K'' hx=>by unfold rQ;simp only[hg];exact hx) (by simp[RJ,hg]) h
 |some jw=>
  obtain⟨j,want⟩:=jw;simp only[hg] at h
  cases hs:(ops.toList[j]?).bind (·.dst) with
  |none=>simp only[hs] at h
  |some s=>
   simp only[hs] at h;split at h
   ·rename_i t ht
    cases hb:(t==want) with
    |true=>
     rw[hb] at h;refine run _ h (by unfold rQ;simp only[hg,hs,ht,hb];exact h) (λw' K'' hx=>by unfold rQ;simp only[hg,hs,ht,hb];exact hx) (by simp only[RJ,hg,hs,ht];exact hb) h
    |false=>
     rw[hb] at h;simp only[cond_false] at h
     cases hd:rX nt o.dst with
     |false=>rw[hd] at h;exact h.elim
     |true=>
      rw[hd] at h;have mk:∀w',Ex P r ops i o env undef w':=by
       intro w' n Q a next ha hn
       have hy:=PU (ha _ (BA hg hs)) hs ht;have hw:¬(Region.wanted o (yielded ops a.tmps)=true):=by
        have:t≠want:=by intro e;simp[e] at hb
        simp[Region.wanted,hg,hy,this]
       unfold wpOpIn;simp only[ho];rw[if_neg hw];exact⟨λ_ _=>trivial,hn⟩
      exact⟨undef,by first|exact hd|rfl,h,mk w,.inl mk⟩
   ·rename_i vs ht
    cases hd:rX nt o.dst with
    |false=>rw[hd] at h;exact h.elim
    |true=>
     rw[hd] at h;have mk:∀w',Ex P r ops i o env undef w':=by
      intro w' n Q a next ha hn
      have hw:¬(Region.wanted o (yielded ops a.tmps)=true):=by
       have h1':(ops[j]?).bind (·.dst)=some s:=by simpa using hs
       have:=(ha _ (BA hg hs)) _ ht;simp[Region.wanted,hg,yielded,h1',this]
      unfold wpOpIn;simp only[ho];rw[if_neg hw];exact⟨λ_ _=>trivial,hn⟩
     exact⟨undef,by first|exact hd|rfl,h,mk w,.inl mk⟩
   ·exact h.elim
end Gp
end
section
namespace Gp
open Go
def Wn (listed:Array Bool) (i:Nat):Prop:=listed.getD i false=true
structure Sim (P:Program) (r:Option Nat) (nt:Nat) (dfr:List Deferred) (ws:List Nat) (a0:Act) (ops:Array Oper)
  (D:Nat->Prop) (p:List Nat) (ld:List (Nat×Shape×Value×Value)) (V:Nat->Value) (E:Nat->Env) (env:Env) (a:Act) (w:θ):Prop where
 sub:∀i,D i->i∈p
 lt:∀i∈p,i<ops.size
 closedP:∀i j,i∈p->Dir ops j i->j∈p
 closedD:∀i j,D i->Dir ops j i->D j
 pend:∀i∈p,¬D i->∀o,ops[i]? =some o->Am P o=false/\rX nt o.dst=true/\Ex P r ops i o (E i) (V i) w/\
  ((∀w',Ex P r ops i o (E i) (V i) w')\/∃sh av,(i,sh,av,V i)∈ld/\∀w',Fg sh av (V i) w' True->Ex P r ops i o (E i) (V i) w')
 look:∀i∈p,¬D i->∀o,ops[i]? =some o->∀s∈o.looksAt ops,(∀(j:Nat) (oj:Oper),ops[j]? =some oj->oj.dst=some s->Pre ops j i->D j)->∀u,(E i).get s=some u->a.tmps[s]? =some u
 src:∀i∈p,¬D i->∀(j:Nat) (oj:Oper) (s:Nat),Pre ops j i->ops[j]? =some oj->oj.dst=some s->(E i).get s=some (V j)
 cur:∀s u,(∀(j:Nat) (oj:Oper),j∈p->¬D j->ops[j]? =some oj->oj.dst≠some s)->env.get s=some u->a.tmps[s]? =some u
 val:∀(j:Nat) (oj:Oper) (s:Nat),j∈p->ops[j]? =some oj->oj.dst=some s->env.get s=some (V j)
 size:a.tmps.size=nt
 defers:a.defers=dfr
 same:∀s,s∉ws->a.tmps[s]? =a0.tmps[s]?
theorem Bv (env:Env) (d:Option Nat) (v:Value) (s:Nat):(env.put d v).get s=if d=some s then some v else env.get s:=by
 cases d with
 |none=>simp[Env.put]
 |some d=>simp only[Env.put,oI,Option.some.injEq]
section
variable {P:Program} {r:Option Nat} {nt:Nat} {dfr:List Deferred} {ws:List Nat} {a0:Act} {ops:Array Oper}
theorem Sim.more {D:Nat->Prop} {p:List Nat} {ld:List (Nat×Shape×Value×Value)} {V:Nat->Value} {E:Nat->Env} {env:Env} {a:Act} {w:θ} (hR:ROk ops)
  (hs:Sim P r nt dfr ws a0 ops D p ld V E env a w) {i:Nat} {o:Oper} {v:Value} (ho:ops[i]? =some o) (hi:i∉p) (ah:Am P o=false) (N:∀j,Dir ops j i->j∈p)
  (hd:rX nt o.dst=true) (hex:Ex P r ops i o env v w) {ld':List (Nat×Shape×Value×Value)} (ai:∀x∈ld,x∈ld')
  (aj:(∀w',Ex P r ops i o env v w')\/∃sh av,(i,sh,av,v)∈ld'/\∀w',Fg sh av v w' True->Ex P r ops i o env v w'):
  Sim P r nt dfr ws a0 ops D (i::p) ld' (λk=>if k=i then v else V k) (λk=>if k=i then env else E k) (env.put o.dst v) a w:=by
 have hD:¬D i:=λh=>hi (hs.sub i h);have af:∀j,Pre ops j i->j∈p:=λj hj=>zG (D:=(·∈p)) hs.closedP N hj;have hself:¬Pre ops i i:=λh=>hi (af i h);refine⟨λj hj=>mem_cons_of_mem _ (hs.sub j hj),?_,?_,hs.closedD,?_,?_,?_,?_,?_,hs.size,hs.defers,hs.same⟩
 ·intro j hj
  cases hj with
  |head=>exact(Array.getElem?_eq_some_iff.1 ho).1
  |tail _ hj=>exact hs.lt j hj
 ·intro j k hj hk
  cases hj with
  |head=>exact mem_cons_of_mem _ (N k hk)
  |tail _ hj=>exact mem_cons_of_mem _ (hs.closedP j k hj hk)
 ·intro j hj O oj I;by_cases e:j=i
  ·subst e;rw[ho] at I
   cases I
   simp only[if_true];exact⟨ah,hd,hex,aj⟩
  ·simp only[if_neg e];have hj':j∈p:=by cases hj with|head=>exact absurd rfl e|tail _ h=>exact h
   obtain⟨h1,h2,h3,h4⟩:=hs.pend j hj' O oj I;refine⟨h1,h2,h3,?_⟩;rcases h4 with h4|⟨sh,av,h5,h6⟩
   ·exact .inl h4
   ·exact .inr ⟨sh,av,ai _ h5,h6⟩
 ·intro j hj O oj I s ag hw u hu;by_cases e:j=i
  ·subst e;rw[ho] at I
   cases I
   simp only[if_true] at hu;refine hs.cur s u (λk ok J ak R U=> ?_) hu;rcases hR.apart j k o ok s ho R U ag with h|h|h
   ·exact hi (h ▸ J)
   ·exact ak (hw k ok R U h)
   ·exact hi (xg (D:=(·∈p)) hs.closedP h J)
  ·simp only[if_neg e] at hu;have hj':j∈p:=by cases hj with|head=>exact absurd rfl e|tail _ h=>exact h
   exact hs.look j hj' O oj I s ag hw u hu
 ·intro j hj O k ok s Y R U;by_cases e:j=i
  ·subst e;simp only[if_true];have J:=af k Y;have Z:k≠j:=λh=>hi (h ▸ J);rw[if_neg Z];exact hs.val k ok s J R U
  ·simp only[if_neg e];have hj':j∈p:=by cases hj with|head=>exact absurd rfl e|tail _ h=>exact h
   have J:=xg (D:=(·∈p)) hs.closedP Y hj';have Z:k≠i:=λh=>hi (h ▸ J);rw[if_neg Z];exact hs.src j hj' O k ok s Y R U
 ·intro s u hn hu;have aa:o.dst≠some s:=hn i o (mem_cons_self ..) hD ho;rw[Bv,if_neg aa] at hu;exact hs.cur s u (λj oj hj=>hn j oj (mem_cons_of_mem _ hj)) hu
 ·intro j oj s hj I ac;rw[Bv];by_cases e:j=i
  ·subst e;rw[ho] at I
   cases I
   simp[ac]
  ·have hj':j∈p:=by cases hj with|head=>exact absurd rfl e|tail _ h=>exact h
   have aa:o.dst≠some s:=λh=>e (hR.dst j i oj o s I ho ac h);rw[if_neg aa,if_neg e];exact hs.val j oj s hj' I ac
theorem Sim.take {D:Nat->Prop} {p:List Nat} {ld:List (Nat×Shape×Value×Value)} {V:Nat->Value} {E:Nat->Env} {env:Env} {a:Act} {w:θ} (hR:ROk ops)
  (hs:Sim P r nt dfr ws a0 ops D p ld V E env a w) {i:Nat} {o:Oper} (ho:ops[i]? =some o) (hi:i∈p) (ac:¬D i) (N:∀j,Dir ops j i->D j) (af:∀d∈Md ops.toList,d∈ws)
  {D':Nat->Prop} (hD':∀k,D' k↔D k\/k=i):Sim P r nt dfr ws a0 ops D' p ld V E env (a.put o.dst (V i)) w:=by
 have ag:∀j,Pre ops j i->D j:=λj hj=>zG hs.closedD N hj;obtain⟨_,hd,_⟩:=hs.pend i hi ac o ho;have O:∀d,o.dst=some d->d∈ws:=λd h=>af d (List.mem_filterMap.2 ⟨o,List.mem_of_getElem? (by simpa using ho),h⟩);have I:∀k,¬D' k->¬D k/\k≠i:=λk h=>⟨λx=>h ((hD' k).2 (.inl x)),λx=>h ((hD' k).2 (.inr x))⟩;have U:∀d,o.dst=some d->d<a.tmps.size:=λd h=>by
  rw[h] at hd;rw[hs.size];simpa [rX] using hd
 refine⟨?_,hs.lt,hs.closedP,?_,?_,?_,?_,?_,hs.val,by rw[CV];exact hs.size,by rw[H9];exact hs.defers,?_⟩
 ·intro j hj;rcases(hD' j).1 hj with h|rfl
  ·exact hs.sub j h
  ·exact hi
 ·intro j k hj hk;rcases(hD' j).1 hj with h|rfl
  ·exact(hD' k).2 (.inl (hs.closedD j k h hk))
  ·exact(hD' k).2 (.inl (N k hk))
 ·intro j hj hn;exact hs.pend j hj (I j hn).1
 ·intro j hj hn oj J s Y hw u hu;obtain⟨hn1,hn2⟩:=I j hn;rw[BI];by_cases e:o.dst=some s
  ·rw[if_pos ⟨e,U s e⟩];rcases hR.apart j i oj o s J ho e Y with h|h|h
   ·exact absurd h hn2
   ·rw[hs.src j hj hn1 i o s h ho e] at hu;exact hu
   ·exact absurd (ag j h) hn1
  ·rw[if_neg (λx=>e x.1)];refine hs.look j hj hn1 oj J s Y (λk ok R Z ah=> ?_) u hu;rcases(hD' k).1 (hw k ok R Z ah) with h|rfl
   ·exact h
   ·rw[ho] at R;cases R;exact absurd Z e
 ·intro j hj hn;exact hs.src j hj (I j hn).1
 ·intro s u hn hu;rw[BI];by_cases e:o.dst=some s
  ·rw[if_pos ⟨e,U s e⟩,<- hu];exact(hs.val i o s hi ho e).symm
  ·rw[if_neg (λx=>e x.1)];refine hs.cur s u (λj oj hj ai J=> ?_) hu;by_cases ej:j=i
   ·subst ej;rw[ho] at J;cases J;exact e
   ·exact hn j oj hj (λx=>by rcases(hD' j).1 x with h|h;exact ai h;exact ej h) J
 ·intro s aa;rw[BI,if_neg (λx=>aa (O s x.1))];exact hs.same s aa
theorem Sim.eff {D:Nat->Prop} {p:List Nat} {ld:List (Nat×Shape×Value×Value)} {V:Nat->Value} {E:Nat->Env} {env:Env} {a:Act} {w w':θ} (hR:ROk ops)
  (hs:Sim P r nt dfr ws a0 ops D p ld V E env a w) {i:Nat} {o:Oper} {v:Value} (ho:ops[i]? =some o) (hi:i∉p) (J:∀j,Dir ops j i->D j) (hd:rX nt o.dst=true)
  (ag:∀j sh av v,(j,sh,av,v)∈ld->¬D j->Fg sh av v w' True) (ah:∀d∈Md ops.toList,d∈ws)
  {D':Nat->Prop} (hD':∀k,D' k↔D k\/k=i):
  Sim P r nt dfr ws a0 ops D' (i::p) ld (λk=>if k=i then v else V k) E (env.put o.dst v) (a.put o.dst v) w':=by
 have ai:∀j,Pre ops j i->D j:=λj hj=>zG hs.closedD J hj;have Z:∀d,o.dst=some d->d∈ws:=λd h=>ah d (List.mem_filterMap.2 ⟨o,List.mem_of_getElem? (by simpa using ho),h⟩);have N:∀k,¬D' k->¬D k/\k≠i:=λk h=>⟨λx=>h ((hD' k).2 (.inl x)),λx=>h ((hD' k).2 (.inr x))⟩;have aj:∀d,o.dst=some d->d<a.tmps.size:=λd h=>by
  rw[h] at hd;rw[hs.size];simpa [rX] using hd
 have R:∀j,j∈i::p->j≠i->j∈p:=λj hj ak=>by cases hj with|head=>exact absurd rfl ak|tail _ h=>exact h
 refine⟨?_,?_,?_,?_,?_,?_,?_,?_,?_,by rw[CV];exact hs.size,by rw[H9];exact hs.defers,?_⟩
 ·intro j hj;rcases(hD' j).1 hj with h|rfl
  ·exact mem_cons_of_mem _ (hs.sub j h)
  ·exact mem_cons_self ..
 ·intro j hj
  cases hj with
  |head=>exact(Array.getElem?_eq_some_iff.1 ho).1
  |tail _ hj=>exact hs.lt j hj
 ·intro j k hj hk
  cases hj with
  |head=>exact mem_cons_of_mem _ (hs.sub k (J k hk))
  |tail _ hj=>exact mem_cons_of_mem _ (hs.closedP j k hj hk)
 ·intro j k hj hk;rcases(hD' j).1 hj with h|rfl
  ·exact(hD' k).2 (.inl (hs.closedD j k h hk))
  ·exact(hD' k).2 (.inl (J k hk))
 ·intro j hj hn oj I;obtain⟨hn1,hn2⟩:=N j hn;obtain⟨h1,h2,h3,h4⟩:=hs.pend j (R j hj hn2) hn1 oj I;simp only[if_neg hn2];rcases h4 with h4|⟨sh,av,h5,h6⟩
  ·exact⟨h1,h2,h4 w',.inl h4⟩
  ·exact⟨h1,h2,h6 w' (ag j sh av _ h5 hn1),.inr ⟨sh,av,h5,h6⟩⟩
 ·intro j hj hn oj I s ac hw u hu;obtain⟨hn1,hn2⟩:=N j hn;have hj':=R j hj hn2;rw[BI];by_cases e:o.dst=some s
  ·rcases hR.apart j i oj o s I ho e ac with h|h|h
   ·exact absurd h hn2
   ·exact absurd (xg (D:=(·∈p)) hs.closedP h hj') hi
   ·exact absurd (ai j h) hn1
  ·rw[if_neg (λx=>e x.1)];refine hs.look j hj' hn1 oj I s ac (λk ok O U Y=> ?_) u hu;rcases(hD' k).1 (hw k ok O U Y) with h|rfl
   ·exact h
   ·rw[ho] at O;cases O;exact absurd U e
 ·intro j hj hn k ok s Y O U;obtain⟨hn1,hn2⟩:=N j hn;have hj':=R j hj hn2;have am:=xg (D:=(·∈p)) hs.closedP Y hj';have an:k≠i:=λh=>hi (h ▸ am);rw[if_neg an];exact hs.src j hj' hn1 k ok s Y O U
 ·intro s u hn hu;rw[BI];rw[Bv] at hu;by_cases e:o.dst=some s
  ·rw[if_pos ⟨e,aj s e⟩];rw[if_pos e] at hu;exact hu
  ·rw[if_neg (λx=>e x.1)];rw[if_neg e] at hu;refine hs.cur s u (λj oj hj ao I=> ?_) hu;have ej:j≠i:=λh=>hi (h ▸ hj);exact hn j oj (mem_cons_of_mem _ hj) (λx=>by rcases(hD' j).1 x with h|h;exact ao h;exact ej h) I
 ·intro j oj s hj I aa;rw[Bv];by_cases e:j=i
  ·subst e;rw[ho] at I
   cases I
   simp[aa]
  ·have aq:o.dst≠some s:=λh=>e (hR.dst j i oj o s I ho aa h);rw[if_neg aq,if_neg e];exact hs.val j oj s (R j hj e) I aa
 ·intro s af;rw[BI,if_neg (λx=>af (Z s x.1))];exact hs.same s af
theorem PE {done:List Nat} {i:Nat} {o:Oper} (ho:ops[i]? =some o):vZ done o=true↔∀j,Dir ops j i->j∈done:=by
 simp only[vZ,all_eq_true,or_eq_true,not_eq_true'];constructor
 ·rintro h j ⟨o',ho',e,he,hb,rfl⟩;rw[ho] at ho'
  cases ho'
  rcases h e he with h1|h1
  ·rw[hb] at h1;cases h1
  ·exact qP.1 h1
 ·intro h e he
  cases hb:Region.binds .any e with
  |false=>exact .inl rfl
  |true=>exact .inr (qP.2 (h e.on ⟨o,ho,e,he,hb,rfl⟩))
theorem normalize (hP:Vo P) (hR:ROk ops) {pbs:List Nat} {K:Env->b_} {D:Nat->Prop} {a:Act} {w:θ}:
  ∀(fuel:Nat) (p:List Nat) (ld:List (Nat×Shape×Value×Value)) (V:Nat->Value) (E:Nat->Env) (env:Env),
   Sim P r nt dfr ws a0 ops D p ld V E env a w->xE P nt ops.toList pbs fuel p ld env w K->
   ∃fuel' p' ld' V' E' env',Sim P r nt dfr ws a0 ops D p' ld' V' E' env' a w/\xE P nt ops.toList pbs (fuel'+1) p' ld' env' w K/\xI P p' (enumFrom 0 ops.toList)=none:=by
 intro fuel
 induction fuel with
 |zero=>intro p ld V E env _ h;exact h.elim
 |succ fuel ih=>
  intro p ld V E env hs h
  cases hf:xI P p (enumFrom 0 ops.toList) with
  |none=>exact⟨fuel,p,ld,V,E,env,hs,h,hf⟩
  |some x=>
   obtain⟨i,o⟩:=x;simp only[xE,hf] at h;obtain⟨hm,hi,I,J⟩:=Xb _ hf;have ho:=wX.1 hm;obtain⟨v,hd,hK,hex,u⟩:=agn hP r ho I h;refine ih _ _ _ _ _ (hs.more hR ho hi I ((PE ho).1 J) hd hex (ld':=Ox P ops.toList i o env (env.put o.dst v) ld) (λx hx=> ?_) ?_) hK
   ·unfold Ox;split
    ·cases RJ ops.toList o env with
     |false=>exact hx
     |true=>
      simp only[cond_true];split
      ·exact mem_cons_of_mem _ hx
      ·exact hx
    ·exact hx
   ·rcases u with u|⟨sh,av,h1,h2⟩
    ·exact .inl u
    ·exact .inr ⟨sh,av,h1 ld,h2⟩
end
end Gp
end
section
namespace Gp
open Go
section
variable {P:Program} {r:Option Nat} {nt:Nat} {dfr:List Deferred} {ws:List Nat} {a0:Act} {ops:Array Oper}
def nF:List Bool->Nat
 |[]=>0
 |b::l=>(if b then 0 else 1)+nF l
theorem ahS:∀(l:List Bool) (i:Nat),l[i]? =some false->nF (l.set i true)+1=nF l:=by
 intro l
 induction l with
 |nil=>intro i h;simp at h
 |cons b l ih=>
  intro i h
  cases i with
  |zero=>simp at h;subst h;simp[nF];omega
  |succ i=>
   have:=ih i (by simpa using h);simp only[List.set_cons_succ,nF];omega
theorem agm:∀(l:List Bool),nF l=0->∀i,i<l.length->l[i]? =some true:=by
 intro l
 induction l with
 |nil=>intro _ i h;simp at h
 |cons b l ih=>
  intro h i hi;simp only[nF] at h
  cases i with
  |zero=>cases b<;>simp at h ⊢
  |succ i=>simpa using ih (by omega) i (by simpa using hi)
theorem agj {listed:Array Bool} {i:Nat} (hi:i<listed.size) (k:Nat):Wn (listed.setIfInBounds i true) k↔Wn listed k\/k=i:=by
 unfold Wn;simp only[getD_eq_getD_getElem?,Array.getElem?_setIfInBounds];by_cases h:i=k
 ·subst h;simp[hi]
 ·simp[h,Ne.symm h]
theorem OZ {listed:Array Bool} (hsz:listed.size=ops.size) {i:Nat}:i∈Region.ready .any ops listed↔∃o,ops[i]? =some o/\¬Wn listed i/\∀j,Dir ops j i->Wn listed j:=by
 unfold Region.ready;simp only[List.mem_filter,List.mem_range,and_eq_true];constructor
 ·rintro⟨h1,h2,h3⟩;have ho:ops[i]? =some ops[i]:=getElem?_eq_getElem h1;refine⟨ops[i],ho,?_,?_⟩
  ·have:i<listed.size:=by omega
   unfold Wn;simp only[getD_eq_getD_getElem?,getElem?_eq_getElem this,getD_some] at h2 ⊢;simpa using h2
  ·rintro j ⟨o',ho',e,he,hb,rfl⟩;rw[ho] at ho'
   cases ho'
   simp only[ho,map_some,getD_some,Array.all_eq_true_iff_forall_mem] at h3;have:=h3 e (by simpa using he);rw[hb] at this;simpa [Wn] using this
 ·rintro⟨o,ho,h1,h2⟩;have hi:=(Array.getElem?_eq_some_iff.1 ho).1;refine⟨hi,?_,?_⟩
  ·have:i<listed.size:=by omega
   unfold Wn at h1;simp only[getD_eq_getD_getElem?,getElem?_eq_getElem this,getD_some] at h1 ⊢;simpa using h1
  ·simp only[ho,map_some,getD_some,Array.all_eq_true_iff_forall_mem];intro e he
   cases hb:Region.binds .any e with
   |false=>rfl
   |true=>simpa [Wn] using h2 e.on ⟨o,ho,e,by simpa using he,hb,rfl⟩
theorem PW (hR:ROk ops) {listed:Array Bool} (u:listed.size=ops.size) (h:Region.ready .any ops listed=[]):∀i,i<ops.size->Wn listed i:=by
 intro i
 induction i using Nat.strongRecOn with
 |_ i ih=>
  intro hi;by_cases hl:Wn listed i
  ·exact hl
  ·have:i∈Region.ready .any ops listed:=(OZ u).2 ⟨ops[i],getElem?_eq_getElem hi,hl,λj hj=>by
    have:=hR.back i j hj;exact ih j this (by omega)⟩
   rw[h] at this
   cases this
theorem finish {K:Env->b_} {Q:Exit->Act->b_} {listed:Array Bool} {p:List Nat} {ld:List (Nat×Shape×Value×Value)} {V:Nat->Value} {E:Nat->Env} {env:Env} {a:Act} {w:θ} {pbs:List Nat} {fuel:Nat}
  (I:∀i,i<ops.size->Wn listed i) (hs:Sim P r nt dfr ws a0 ops (Wn listed) p ld V E env a w) (h:xE P nt ops.toList pbs (fuel+1) p ld env w K)
  (hf:xI P p (enumFrom 0 ops.toList)=none) (hQ:∀env a w,LD nt dfr ws a0 env a->K env w->Q .normal a w):Q .normal a w:=by
 have hr:E5 P p (enumFrom 0 ops.toList)=[]:=by
  cases hx:E5 P p (enumFrom 0 ops.toList) with
  |nil=>rfl
  |cons x l=>
   obtain⟨i,o⟩:=x;obtain⟨h1,h2,_⟩:=(TP (P:=P) (done:=p) (i:=i) (o:=o) _).1 (by rw[hx];simp);exact absurd (hs.sub i (I i (Array.getElem?_eq_some_iff.1 (wX.1 h1)).1)) h2
 simp only[xE,hf,hr] at h;have hK:K env w:=by
  cases hb:Nat.beq p.length ops.toList.length with
  |false=>rw[hb] at h;exact h.elim
  |true=>rw[hb] at h;exact h
 refine hQ env a w ⟨λs u hu=>hs.cur s u (λj oj hj J _=>absurd (I j (hs.lt j hj)) J) hu,hs.size,hs.defers,hs.same⟩ hK
theorem Ϫ (hP:Vo P) (hR:ROk ops) {n:Nat} {K:Env->b_} {Q:Exit->Act->b_} (ah:∀d∈Md ops.toList,d∈ws)
  (hQ:∀env a w,LD nt dfr ws a0 env a->K env w->Q .normal a w):
  ∀(m:Nat) (listed:Array Bool) (a:Act) (w:θ) (p:List Nat) (ld:List (Nat×Shape×Value×Value)) (V:Nat->Value) (E:Nat->Env) (env:Env) (fuel:Nat),
   listed.size=ops.size->nF listed.toList<=m->Sim P r nt dfr ws a0 ops (Wn listed) p ld V E env a w->
   xE P nt ops.toList (zi ops.toList []) fuel p ld env w K->wpAnyIn (Fr r) n P .any ops Q m listed a w:=by
 intro m
 induction m with
 |zero=>
  intro listed a w p ld V E env fuel O hm hs h;have Y:∀i,i<ops.size->Wn listed i:=by
   intro i hi;have:=agm listed.toList (by omega) i (by simpa [O] using hi);have h2:listed[i]? =some true:=by simpa using this
   simp[Wn,getD_eq_getD_getElem?,h2]
  obtain⟨fuel',p',ld',V',E',env',hs',h',hf⟩:=normalize hP hR fuel p ld V E env hs h;refine⟨?_,finish Y hs' h' hf hQ⟩
  cases hx:Region.ready .any ops listed with
  |nil=>rfl
  |cons i l=>
   obtain⟨o,ho,hn,_⟩:=(OZ O (i:=i)).1 (by rw[hx];simp);exact absurd (Y i (Array.getElem?_eq_some_iff.1 ho).1) hn
 |succ m ih=>
  intro listed a w p ld V E env fuel O hm hs h;obtain⟨fuel',p',ld',V',E',env',hs',h',hf⟩:=normalize hP hR fuel p ld V E env hs h;refine⟨λhr=>finish (PW hR O hr) hs' h' hf hQ,λi hi=> ?_⟩;obtain⟨o,ho,U,I⟩:=(OZ O).1 hi;have ac:i<listed.size:=by rw[O];exact(Array.getElem?_eq_some_iff.1 ho).1
  have hD':=agj ac;have Z:(listed.setIfInBounds i true).size=ops.size:=by simpa using O
  have hm':nF (listed.setIfInBounds i true).toList<=m:=by
   have R:listed.toList[i]? =some false:=by
    have:listed[i]? =some listed[i]:=getElem?_eq_getElem ac;unfold Wn at U;simp only[getD_eq_getD_getElem?,this,getD_some] at U;have h2:listed[i]=false:=by simpa using U
    simp[ac,h2]
   have:=ahS listed.toList i R;rw[Array.toList_setIfInBounds];omega
  by_cases N:i∈p'
  ·obtain⟨_,_,hex,_⟩:=hs'.pend i N U o ho;refine hex n Q a _ (λs af u hu=>hs'.look i N U o ho s af (λj oj _ _ aj=>zG hs'.closedD I aj) u hu) ?_;exact ih _ _ _ _ _ _ _ _ _ Z hm' (hs'.take hR ho N U I ah hD') h'
  ·have ai:vZ p' o=true:=(PE ho).2 λj hj=>hs'.sub j (I j hj);have ag:=Xa _ hf i o (wX.2 ho) N ai;have J:=(TP (P:=P) (done:=p') (i:=i) (o:=o) (enumFrom 0 ops.toList)).2 ⟨wX.2 ho,N,ag,ai⟩;simp only[xE,hf] at h'
   cases hx:E5 P p' (enumFrom 0 ops.toList) with
   |nil=>rw[hx] at J;cases J
   |cons e es=>
    rw[hx] at J h';have aa:=abT _ h' (i,o) J;refine CZ hP ho aa (λs af u hu=>hs'.cur s u (λj oj hj ak am an=> ?_) hu) λv w' hv hd=> ?_
    ·rcases hR.apart i j o oj s ho am an af with e|e|e
     ·exact N (e ▸ hj)
     ·exact ak (zG hs'.closedD I e)
     ·exact N (xg (D:=(·∈p')) hs'.closedP e hj)
    ·obtain⟨hd1,hd2⟩:=aaN _ hv;refine ih _ _ _ _ _ _ _ _ _ Z hm' (hs'.eff hR ho N I hd (λj sh av v hj ao=> ?_) ah hD') hd1;rcases hd2 j sh av v hj with hb|hb
     ·exact absurd (zG hs'.closedD I (TN hb)) ao
     ·exact hb
theorem Rl (hP:Vo P) {id n:Nat} {K:Env->b_} {Q:Exit->Act->b_} {env:Env} {a:Act} {w:θ} (J:∀d∈Md ops.toList,d∈ws)
  (hQ:∀env a w,LD nt dfr ws a0 env a->K env w->Q .normal a w) (ha:LD nt dfr ws a0 env a) (h:Rk P nt ops.toList env w K):(Code.region id ops true).wpIn (Fr r) n P Q a w:=by
 unfold Rk at h
 cases hb:Nw ops.toList (zi ops.toList []) with
 |false=>rw[hb] at h;exact h.elim
 |true=>
  rw[hb] at h;have hR:=Vj hb;refine wpIn_region_any hP.mixed ?_;have I:∀i,¬Wn (Array.replicate ops.size false) i:=by
   intro i hi;unfold Wn at hi;simp only[getD_eq_getD_getElem?,Array.getElem?_replicate] at hi;by_cases h2:i<ops.size
   ·simp[h2] at hi
   ·simp[h2] at hi
  refine Ϫ (V:=λ_=>undef) (E:=λ_=>[]) hP hR J hQ ops.size (Array.replicate ops.size false) a w.drew [] [] env _ (by simp) ?_ ?_ h
  ·have:∀k,nF (List.replicate k false)=k:=by
    intro k
    induction k with
    |zero=>rfl
    |succ k ih=>simp[List.replicate_succ,nF,ih];omega
   simp[this]
  ·exact⟨λi hi=>absurd hi (I i),λi hi=>by simp at hi,λi j hi=>by simp at hi,λi j hi=>absurd hi (I i),λi hi=>by simp at hi,λi hi=>by simp at hi,
    λi hi=>by simp at hi,λs u _ hu=>ha.agr s u hu,λj oj s hj=>by simp at hj,ha.size,ha.defers,ha.same⟩
end
end Gp
end
