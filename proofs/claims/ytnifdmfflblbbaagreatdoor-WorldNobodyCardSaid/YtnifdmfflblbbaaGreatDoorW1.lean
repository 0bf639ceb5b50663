import Derived.Test.YtnifdmfflblbbaaGreatDoorW0
import Derived.Lib.ConvBytes
section
namespace Gp
open Go
section
variable {P:Program}
theorem DW:∀(ks:List Kind) (φ:List Value->Prop),Di ks φ->∃vs,φ vs:=by
 intro ks
 induction ks with
 |nil=>exact fun φ h=>⟨_,h⟩
 |cons k ks ih=>rintro φ ⟨x,h⟩;obtain⟨vs,h⟩:=ih _ h;exact⟨_,h⟩
theorem nM (s:Shape) (φ:Value->Prop) (h:s.ex φ):∃v,φ v:=by
 cases s with
 |one k=>obtain⟨x,h⟩:=h;exact⟨_,h⟩
 |agg ks=>obtain⟨vs,h⟩:=DW ks _ h;exact⟨_,h⟩
theorem jG:∀(sh:List Shape) (φ:List Value->Prop),dw sh φ->∃vs,φ vs:=by
 intro sh
 induction sh with
 |nil=>exact fun φ h=>⟨_,h⟩
 |cons s sh ih=>intro φ h;obtain⟨v,h⟩:=nM s _ h;obtain⟨vs,h⟩:=ih _ h;exact⟨_,h⟩
theorem iL (hP:jZ P) {f:FuncId} (hb:dD P f=true) (args:Array Value) (w:World):(callFunc f args).run P w= .ok (.enter f args) w:=by
 unfold dD at hb
 cases hf:P.funcs[f]? with
 |none=>simp [hf] at hb
 |some fn=>
  simp only [hf] at hb
  have hn:=hP.enter f fn hf hb
  have hn':¬(fn.name="runtime.NumGoroutine"):=by simpa using hn
  have hb':¬(fn.body=none):=by intro hx;simp [hx] at hb
  simp [callFunc,hf,hn',hb']
theorem lU {sh:List Shape} {f:FuncId} {args:List Value} {w:World} {K:Value->World->Prop} (h:vN P sh f args w K):
  Calls P f ⟨args⟩ w fun e w'=>∃v,e= .returned v/\K v w':=by
 refine Calls.mono h fun e w' hx=> ?_
 obtain⟨vs,he,hk⟩:=jG _ _ hx
 exact⟨_,he,hk⟩
theorem Dv (hP:jZ P) {sh:List Shape} {v:Value} {args:List Value} {w:World} {K:Value->World->Prop} (h:Bh P sh v args w K):
  Ran P K ((do let d<- Deferred.ofValue v ⟨args⟩;invoke d.target d.args:Sem Next).run P w):=by
 unfold Bh at h
 split at h
 ·rename_i f first cap
  cases hb:dD P f with
  |false=>rw [hb] at h;exact h.elim
  |true=>
   rw [hb] at h
   have h:=lU h
   have e:(⟨first.toList++(args++cap.toList)⟩:Array Value)=first++(⟨args⟩:Array Value)++cap:=by apply Array.toList_inj.mp;simp
   rw [e] at h
   simpa [Deferred.ofValue,invoke,iL hP hb,Ran] using h
 ·rename_i l first cap
  obtain⟨fn,tmps,assign,body,hy,hr⟩:=h
  have e:(⟨first.toList++args⟩:Array Value)=first++(⟨args⟩:Array Value):=by apply Array.toList_inj.mp;simp
  rw [e] at hy
  have:Ran P K (.ok (.round l fn tmps assign body) w):=RoundIn.mono hr fun e w' ⟨b,hb,hk⟩=>⟨_,hb,hk⟩
  simpa [Deferred.ofValue,invoke,hy] using this
 ·exact h.elim
theorem zL {t:TypeId} {name:String} {f:FuncId} {d:TypeDesc} {v:Value} {w:World} (n:Nat) (ht:P.underlying t=some d) (hd:qA d=false) (h:xq P t name=some f):
  (Go.method (n+1) t v name).run P w= .ok (f,v) w:=by
 unfold xq at h
 split at h
 ·rename_i i hi
  split at h
  ·rename_i m hm
   split at h
   ·rename_i f' hp hf
    obtain rfl:=Option.some.inj h
    unfold Go.method
    cases d<;>first|(cases hd;done)|simp [run_typeInfo hi,hm,hp,hf,follow,receiverAt,run_underlying ht,Place.get]
   ·cases h
  ·cases h
 ·cases h
theorem Ht (hP:jZ P) {sh:List Shape} {x:Value} {name:String} {args:List Value} {w:World} {K:Value->World->Prop} (h:Gv P sh x name args w K):
  Ran P K ((do let d<- (pure {target:= .fn (.method name) #[],args:= #[x]++(⟨args⟩:Array Value)}:Sem Deferred);invoke d.target d.args:Sem Next).run P w):=by
 unfold Gv at h
 split at h
 ·rename_i t v
  split at h
  ·rename_i d f ht hm
   cases hd:qA d with
   |true=>rw [hd] at h;exact h.elim
   |false=>
    cases hb:dD P f with
    |false=>rw [hd,hb] at h;exact h.elim
    |true=>
     rw [hd,hb] at h
     have h:=lU h
     have e1:((#[Value.iface t v]++(⟨args⟩:Array Value)).extract 1 (#[Value.iface t v]++(⟨args⟩:Array Value)).size)=⟨args⟩:=by apply Array.toList_inj.mp;simp
     have e2:(⟨v::args⟩:Array Value)= #[v]++⟨args⟩:=by apply Array.toList_inj.mp;simp
     rw [e2] at h
     have hm':∀k,(Go.method (k+Made.depth) t v name).run P w= .ok (f,v) w:=fun k=>zL (k+(Made.depth - 1)) ht hd hm
     simpa [invoke,callMethod,e1,hm',iL hP hb,Ran] using h
  ·exact h.elim
 ·exact h.elim
theorem GZ {z:Value} {t xt:TypeId} {d:TypeDesc} {x:Value} {ok:Bool} {K:Value->Prop} {w:World} (hd:∀m,d≠.interface m) (ht:P.underlying t=some d) (hz:eH P t=some z) (h:J5 z t x ok K):
  ∃v,(Instr.typeAssert x xt t ok).run P w= .ok v w/\K v:=by
 have hz':=gW (w:=w) hz
 unfold J5 at h
 split at h
 ·rename_i t' v
  cases hb:Nat.beq t' t with
  |true=>
   rw [hb] at h
   obtain rfl:=Nat.eq_of_beq_eq_true hb
   refine⟨_,?_,h⟩
   cases d<;>first|exact(hd _ rfl).elim|(cases ok<;>simp [Instr.typeAssert,run_underlying ht])
  |false=>
   rw [hb] at h
   have hn:¬t'=t:=fun e=>by rw [e,Nat.beq_refl] at hb;cases hb
   cases ok with
   |false=>exact h.elim
   |true=>
    refine⟨_,?_,h⟩
    cases d<;>first|exact(hd _ rfl).elim|simp [Instr.typeAssert,run_underlying ht,hn,hz']
 ·cases ok with
  |false=>exact h.elim
  |true=>
   refine⟨_,?_,h⟩
   cases d<;>first|exact(hd _ rfl).elim|simp [Instr.typeAssert,run_underlying ht,hz']
 ·exact h.elim
theorem qL {mx:Bool} {w:World}:∀(r:List Value) (x:Int) (k:IntKind) (φ:Value->Prop),iO mx x r k φ->
  ∃v,(r.foldlM (cond mx Builtin.max2 Builtin.min2) (Value.int k x)).run P w= .ok v w/\φ v:=by
 intro r
 induction r with
 |nil=>exact fun x k φ h=>⟨_,by simp,h⟩
 |cons y r ih=>
  intro x k φ h
  cases y with
  |int ky y=>
   simp only [iO] at h
   obtain⟨v,hv,hφ⟩:=ih _ _ _ h
   refine⟨v,?_,hφ⟩
   cases mx<;>simp only [cond_true,cond_false] at hv ⊢<;>simp [List.foldlM_cons,Builtin.max2,Builtin.min2,hv]
  |_=>simp [iO] at h
theorem zT {d:TypeDesc} {t ty:TypeId} {x:Value} {w:World} {φ:Int->Prop} (ht:P.underlying t=some d) (h:pU d x w φ):
  ∃n,(Builtin.len_ #[t] ty #[x]).run P w= .ok (.int .i64 n) w/\φ n:=by
 unfold pU at h
 split at h
 ·exact⟨_,by simp [Builtin.len_,run_underlying ht,goInt],h⟩
 ·exact⟨_,by simp [Builtin.len_,run_underlying ht,goInt],h⟩
 ·exact⟨_,by simp [Builtin.len_,run_underlying ht,goInt],h⟩
 ·unfold Ed at h
  split at h
  ·exact⟨_,by simp [Builtin.len_,run_underlying ht,goInt],h⟩
  ·obtain⟨es,clock,hb,h⟩:=h
   exact⟨_,by simp [Builtin.len_,run_underlying ht,goInt,getObj,Sem.run,hb],h⟩
 ·exact h.elim
theorem aA {K:Value->World->Prop} {s:Sem Value} {w w':World} {v:Value} (hr:s.run P w= .ok v w') (hk:K v w'):
  Ran P K ((do pure (Next.value (<- s)):Sem Next).run P w):=by
 simp only [Sem.run_bind,hr,Result.andThen_ok,Sem.run_pure,Ran];exact hk
theorem oK {K:Value->World->Prop} {s:Sem Unit} {w w':World} (hr:s.run P w= .ok () w') (hk:K undef w'):
  Ran P K ((do s;pure Next.skip:Sem Next).run P w):=by
 simp only [Sem.run_bind,hr,Result.andThen_ok,Sem.run_pure,Ran];exact hk
theorem yV {b:Builtin} {args:List Value} {tl:List TypeId} {ty:TypeId} {consts:Array Bool} {w:World} {K:Value->World->Prop} (h:aK P b tl args w K):
  Ran P K ((builtin b ⟨tl⟩ ty consts ⟨args⟩).run P w):=by
 unfold aK at h
 split at h
 ·split at h
  ·rename_i ht
   obtain⟨n,hr,hk⟩:=zT (ty:=ty) ht h
   simp [builtin,hr,Ran,hk]
  ·exact h.elim
 ·split at h
  ·rename_i ht
   simp [builtin,Builtin.cap_,run_underlying ht,goInt,Ran,h]
  ·exact h.elim
 ·obtain⟨v,hr,hk⟩:=qL (P:=P) (w:=w) _ _ _ _ h
  simp only [cond_true] at hr
  simp [builtin,Builtin.max_,hr,Ran,hk]
 ·obtain⟨v,hr,hk⟩:=qL (P:=P) (w:=w) _ _ _ _ h
  simp only [cond_false] at hr
  simp [builtin,Builtin.min_,hr,Ran,hk]
 ·split at h
  ·rename_i e d ht ht'
   split at h
   ·rename_i _ b n m hs hb hz
    obtain⟨i,hi,rfl⟩:=eY hs
    obtain⟨i',hi',rfl⟩:=iq hb
    obtain⟨i'',z,hi'',hz0,rfl⟩:=bU hz
    rw [hi] at hi' hi'';cases hi';cases hi''
    obtain⟨vs,hvs,h⟩:=h
    obtain⟨s',w',hr,hk⟩:=vS (ty:=ty) ht hi hz0 ht' (.inl ⟨_,rfl⟩) (x:= .slice b n m) (n:=n) (fun w=>by simp [Builtin.lenOf]) (eU hvs) (eU (jg hvs)) h
    show Ran P K ((do pure (Next.value (<- Builtin.append_ #[_,_] ty #[_,_])):Sem Next).run P w)
    exact aA hr hk
   ·rename_i hs hb hz
    obtain⟨i,hi,rfl⟩:=eY hs
    obtain⟨i',hi',rfl⟩:=iq hb
    obtain⟨i'',z,hi'',hz0,rfl⟩:=bU hz
    rw [hi] at hi' hi'';cases hi';cases hi''
    have hf:∀(sz:Nat) (s:ByteArray) (w:World),(Builtin.firstCells sz s.size (.string s)).run P w= .ok ⟨byteCells s⟩ w:=by
     intro sz s w
     simp only [Builtin.firstCells,Sem.run_pure,Result.ok.injEq,and_true]
     apply Array.toList_inj.mp
     have e:s.extract 0 s.size=s:=ByteArray.extract_zero_size
     rw [e,Array.toList_map]
     rfl
    obtain⟨s',w',hr,hk⟩:=vS (ty:=ty) ht hi hz0 ht' (.inr rfl) (fun w=>by simp [Builtin.lenOf]) (hf _ _ _) (hf _ _ _) h
    show Ran P K ((do pure (Next.value (<- Builtin.append_ #[_,_] ty #[_,_])):Sem Next).run P w)
    exact aA hr hk
   ·rename_i hs hb hz
    obtain⟨i,hi,rfl⟩:=eY hs
    obtain⟨i',hi',rfl⟩:=iq hb
    obtain⟨i'',z,hi'',hz0,rfl⟩:=bU hz
    rw [hi] at hi' hi'';cases hi';cases hi''
    cases hb:Nat.beq z.cells.toList.length i.size with
    |false=>rw [hb] at h;exact h.elim
    |true=>
     rw [hb] at h
     simp only [cond_true] at h
     obtain⟨s',w',hr,hk⟩:=zn (ty:=ty) ht hi hz0 (Nat.eq_of_beq_eq_true hb) ht' h
     show Ran P K ((do pure (Next.value (<- Builtin.append_ #[_,_] ty #[_,_])):Sem Next).run P w)
     exact aA hr hk
   ·exact h.elim
  ·exact h.elim
 ·split at h
  ·rename_i e ht
   split at h
   ·rename_i hs
    obtain⟨i,hi,rfl⟩:=eY hs
    obtain⟨n,w',hr,hk⟩:=zD (t':=_) (ty:=ty) ht hi h
    show Ran P K ((do pure (Next.value (<- Builtin.copy_ #[_,_] ty #[_,_])):Sem Next).run P w)
    exact aA hr hk
   ·exact h.elim
  ·exact h.elim
 ·split at h
  ·rename_i e ht
   split at h
   ·rename_i hs hz
    obtain⟨i,hi,rfl⟩:=eY hs
    obtain⟨i'',z,hi'',hz0,rfl⟩:=bU hz
    rw [hi] at hi'';cases hi''
    cases hb:Nat.beq z.cells.toList.length i.size with
    |false=>rw [hb] at h;exact h.elim
    |true=>
     rw [hb] at h
     simp only [cond_true] at h
     obtain⟨w',hr,hk⟩:=yZ (ty:=ty) ht hi hz0 (Nat.eq_of_beq_eq_true hb) h
     show Ran P K ((do pure (Next.value (<- Builtin.clear_ #[_] ty #[_])):Sem Next).run P w)
     exact aA hr hk
   ·exact h.elim
  ·exact h.elim
 ·split at h
  ·rename_i kt et ht
   obtain⟨w',hr,hk⟩:=zX (t':=_) (ty:=ty) ht h
   show Ran P K ((do pure (Next.value (<- Builtin.delete_ ⟨[_,_]⟩ ty ⟨[_,_]⟩)):Sem Next).run P w)
   exact aA hr hk
  ·exact h.elim
 ·exact h.elim
theorem lY (ρ:Operand->Value) (ps:Array (Nat×Operand)):(ps.map fun(i,x)=>(i,ρ x)).toList=ps.toList.map fun p=>(p.1,ρ p.2):=by
 simp
theorem vY (w:World) (cs:Array Value) (e:TypeId) (n:Nat):(w.alloc (.cells cs e)).freeze ⟨w.heap.size,n,none⟩ 1=w.alloc (.cells cs e (n,n+1)):=by
 unfold World.freeze World.alloc
 simp only [Nat.succ_ne_zero,if_false]
 congr 1
 apply Array.ext_getElem?
 intro i
 rw [Array.getElem?_modify]
 by_cases h:w.heap.size=i
 ·subst h;simp
 ·simp [h,Ne.symm h,Array.getElem?_push]
theorem uT (w:World) (e:TypeId) (s:ByteArray):
  Lib.bytesWorld w e s=w.drew.alloc (.cells ⟨byteCells s++aC [.int .u8 0] (grownCap w s.size 0 e - s.size)⟩ e (grownCap w s.size 0 e,grownCap w s.size 0 e+1)):=by
 have hrep:∀n,aC [.int .u8 0] n=List.replicate n (.int .u8 0):=by
  intro n
  induction n with
  |zero=>rfl
  |succ n ih=>simp [aC,ih,List.replicate_succ]
 have hc:Lib.bytesCells w e s=⟨byteCells s++aC [.int .u8 0] (grownCap w s.size 0 e - s.size)⟩:=by
  apply Array.toList_inj.mp
  simp [Lib.bytesCells,byteCells,hrep]
 have hn:(Lib.bytesCells w e s).size=grownCap w s.size 0 e:=by
  have:=grownCap_ge w s.size 0 e
  have h2:s.data.size=s.size:=rfl
  simp [Lib.bytesCells,h2];omega
 unfold Lib.bytesWorld
 rw [hn,<- hc]
 exact vY w.drew _ e _
theorem yN (hP:jZ P) {o:Oper} {ρ:Operand->Value} {w:World} {K:Value->World->Prop} (hρ:∀f,ρ (.func f)= .func (.func f) #[] #[]) (h:fJ P o ρ w K):Ran P K ((execOp ρ o).run P w):=by
 obtain⟨dst,op,type,pos,after,guard⟩:=o
 cases op<;>simp only [fJ] at h<;>simp only [execOp]
 case move x=>exact h
 case assign x=>exact h
 case pick c a b=>
  split at h
  ·rename_i t hc
   cases t<;>simp only [cond_true,cond_false] at h<;>simp [asBool,hc,Ran,h]
  ·exact h.elim
 case alloc e=>
  split at h
  ·rename_i z hz
   obtain⟨v,hr,hv⟩:=gG (w:=w) hz
   refine aA (v:=sD w) (w':=w.alloc (.cells ⟨z⟩ e)) ?_ h
   simp [Instr.alloc,hr,newVar,newRow,hv]
  ·exact h.elim
 case box e x=>
  split at h
  ·refine aA ?_ h.2
   simp [Instr.box,newVar,newRow,qN h.1]
  ·split at h
   ·rename_i cs hc
    refine aA ?_ h
    simp [Instr.box,newVar,newRow,Value.cells,hc]
   ·exact h.elim
  ·exact h.elim
 case build t ps=>
  split at h
  ·rename_i z fs hz ht
   obtain⟨v,hr,hv⟩:=gG (w:=w) hz
   split at h
   ·rename_i pl hpl
    split at h
    ·rename_i cs hf
     refine aA ?_ h
     have hp:=wu (w:=w) _ _ hpl
     have hm:(fs.mapM fun(f:Field)=>(do pure (f.offset,<- Go.sizeOf f.type):Sem (Nat×Nat))).run P w= .ok ⟨pl⟩ w:=by
      rw [Array.mapM_eq_mapM_toList,Sem.run_map,hp];rfl
     have hfill:=nP _ (fun i=>(⟨pl⟩:Array (Nat×Nat))[i]?) (fun i x hx=>by simpa using hx) _ _ _ hf
     simp only [Instr.build,Sem.run_bind,hr,Result.andThen_ok,run_underlying ht,hm,hv,lY]
     rw [hfill]
     rfl
    ·exact h.elim
   ·exact h.elim
  ·rename_i z n e hz ht
   obtain⟨v,hr,hv⟩:=gG (w:=w) hz
   split at h
   ·rename_i size hs
    split at h
    ·rename_i cs hf
     refine aA ?_ h
     have hfill:=nP _ (fun i=>some (i * size,size)) (fun i x hx=>hx) _ _ _ hf
     simp only [Instr.build,Sem.run_bind,hr,Result.andThen_ok,run_underlying ht,aJ hs,hv,lY]
     rw [hfill]
     rfl
    ·exact h.elim
   ·exact h.elim
  ·exact h.elim
 case buildSlice t n ps=>
  split at h
  ·rename_i e ht
   split at h
   ·rename_i size z hs hz
    obtain⟨v,hr,hv⟩:=gG (w:=w) hz
    cases hb:(Nat.ble (n * size) 4096 && Nat.beq z.length size) with
    |false=>rw [hb] at h;exact h.elim
    |true=>
     rw [hb] at h
     simp only [Bool.and_eq_true,Nat.ble_eq,Nat.beq_eq] at hb
     obtain⟨b1,b2⟩:=hb
     simp only [cond_true] at h
     obtain⟨cs,hf,h⟩:=qW h
     ·refine aA ?_ h
      have hfill:=nP _ (fun i=>some (i * size,size)) (fun i x hx=>hx) _ _ _ hf
      have hz2:(Array.range (n * size)).map (fun i=>v.cells[i % v.cells.size]!)=⟨aC z n⟩:=by
       have:=bZ v.cells n
       rw [hv] at this ⊢
       simp only [Builtin.zeroCells,List.size_toArray,b2] at this ⊢
       exact this
      have c1:¬(n * size>2^24):=by omega
      by_cases c2:n * size=0
      ·have hrep:aC z n=[]:=by
        have:=iE z n
        rw [b2,c2] at this
        exact List.length_eq_zero_iff.1 this
       rw [hrep] at hfill
       have hfill':Instr.fill (fun i=>some (i * size,size)) #[] (ps.toList.map fun p=>(p.1,ρ p.2))=some ⟨cs⟩:=hfill
       have c1':¬(0>2^24):=by decide
       simp only [Instr.buildSlice,Sem.run_bind,run_underlying ht,Result.andThen_ok,aJ hs,c2,if_true,lY,c1',if_false,Sem.run_pure,Array.range_zero',Array.map_empty,hfill']
       rfl
      ·simp only [Instr.buildSlice,Sem.run_bind,run_underlying ht,Result.andThen_ok,aJ hs,c1,if_false,c2,lY,hr,Sem.run_pure]
       rw [hz2,hfill]
       rfl
   ·exact h.elim
  ·exact h.elim
 case load t x=>
  split at h
  ·rename_i a sh n hx hs hn
   cases hb:Nat.beq sh.cells n with
   |false=>rw [hb] at h;exact h.elim
   |true=>
    rw [hb] at h
    obtain⟨v,hr,hk⟩:=qO hs hn (Nat.eq_of_beq_eq_true hb) h
    exact aA (by simp [Instr.loadAt,Instr.sureAddr,hx,hr]) hk
  ·exact h.elim
 case store t x y=>
  split at h
  ·rename_i a k n hx hs hn
   cases hb:Nat.beq n 1 with
   |false=>rw [hb] at h;exact h.elim
   |true=>
    rw [hb] at h
    have hb:=Nat.eq_of_beq_eq_true hb
    subst hb
    obtain⟨hr,hk⟩:=z_ (P:=P) h
    refine oK (w':=w.setCell a (ρ y)) ?_ hk
    have h1:=qN h.1
    simp [Instr.storeAt,Instr.sureAddr,hx,storeVar,h1,aJ hn,storeCells,add_zero',hr]
  ·rename_i a ks n hx hs hn
   split at h
   ·rename_i cs hy
    cases hb:Nat.beq cs.toList.length n with
    |false=>rw [hb] at h;exact h.elim
    |true=>
     rw [hb] at h
     have hb:=Nat.eq_of_beq_eq_true hb
     obtain⟨w',hr,hk⟩:=Ic (P:=P) _ _ _ h
     refine oK (w':=w') ?_ hk
     have hl:cs.size=n:=by simpa using hb
     simp [Instr.storeAt,Instr.sureAddr,hx,hy,storeVar,Value.cells,aJ hn,hl,hr]
   ·exact h.elim
  ·exact h.elim
 case nilCheck x=>
  split at h
  ·rename_i q hx
   obtain⟨a,rfl,hk⟩:=h
   simp only [hx]
   exact hk
  ·exact h.elim
 case binOp op t x y yt=>
  split at h
  ·obtain⟨v,hr,hk⟩:=Cm x (w:=w) h
   exact aA hr hk
  ·obtain⟨v,hr,hk⟩:=wz x y (w:=w) h
   exact aA hr hk
 case unOp op t x=>
  obtain⟨v,hr,hk⟩:=zf (P:=P) (w:=w) h
  exact aA hr hk
 case convert s d x=>
  split at h
  ·rename_i e a n c hs hd hx
   split at h
   ·rename_i he
    obtain⟨b,hr,hk⟩:=tH (P:=P) h
    refine aA ?_ hk
    rw [hx,run_convert_bytes_string w s d e a n c hs he hd]
    exact hr
   ·exact h.elim
  ·rename_i e b hs hd hx
   split at h
   ·rename_i he
    have hr:=Lib.run_convert_string_bytes w s d e b hs hd he
    have hc:=h.2 (grownCap w b.size 0 e) (by have:=grownCap_ge w b.size 0 e;omega) (by
     simp only [grownCap,Question.cut]
     have h1:=h.1
     have:=Nat.mod_lt (w.tape w.drawn (.appendCap b.size 0 e)) (show 0<2^63 - b.size by omega)
     omega)
    rw [<- uT] at hc
    exact aA (by rw [hx];exact hr) hc
   ·exact h.elim
  ·rename_i e' e a n c hs hd hx
   split at h
   ·rename_i he hb
    obtain⟨T,m,hsh,hk⟩:=h
    refine aA ?_ hk
    have hsd:s=d:=Nat.eq_of_beq_eq_true hb
    subst hsd
    have hee:e'=e:=by rw [hd] at hs;cases hs;rfl
    subst hee
    rw [hx]
    simp [convert,run_underlying hd,run_underlying he,markStringish,hsh]
   ·exact h.elim
  ·rename_i n1 n2 n3
   unfold iP at h
   split at h
   ·rename_i u k n hs hd hx
    refine aA ?_ h
    simp [convert,hx,run_underlying hs,run_underlying hd,Conv.intToInt]
   ·rename_i b hs hd hx
    refine aA ?_ h
    simp [convert,hx,run_underlying hs,run_underlying hd]
   ·exact h.elim
 case makeFunc fn first cap=>
  rw [wP,wP]
  exact h
 case lookup t x i ok=>
  cases ok with
  |true=>
   simp only at h
   split at h
   case h_2=>exact h.elim
   rename_i kt et r ht hx
   split at h
   case h_2=>exact h.elim
   rename_i sh z hs hz
   obtain⟨v,b,hr,hk⟩:=qG ht hz h true
   obtain⟨v',rfl,hk⟩:=nM _ _ hk
   exact aA (by rw [hx];exact hr) hk
  |false=>
   simp only at h
   split at h
   case h_2=>exact h.elim
   rename_i kt et r ht hx
   split at h
   case h_3=>exact h.elim
   case h_1=>
    rename_i k z hs hz
    obtain⟨x',hr,hk⟩:=zY ht hz h
    exact aA (by rw [hx];exact hr) hk
   case h_2=>
    rename_i ks z hs hz
    obtain⟨v,b,hr,hk⟩:=qG ht hz h false
    obtain⟨v',rfl,hk⟩:=nM _ _ hk
    exact aA (by rw [hx];exact hr) hk
 case mapUpdate t x i v=>
  split at h
  case h_2=>exact h.elim
  rename_i kt et r ht hx
  obtain⟨w',hr,hk⟩:=zV ht h
  exact oK (by rw [hx];exact hr) hk
 case mapEntry t x i=>
  split at h
  case h_2=>exact h.elim
  rename_i kt et r ht hx
  split at h
  ·rename_i z hz
   obtain⟨v,n,w',hr,hk⟩:=Ar ht hz h
   exact aA (by rw [hx];exact hr) hk
  ·exact h.elim
 case entryStore t x st v=>
  split at h
  ·rename_i r k n hx hst
   obtain⟨w',hr,hk⟩:=CV (t:=t) (k:=k) h
   exact oK (by rw [hx,hst];exact hr) hk
  ·exact h.elim
 case makeMap t r=>
  cases r with
  |some r=>exact h.elim
  |none=>exact aA (by simp [Instr.makeMap]) h
 case makeSlice t l c=>
  split at h
  ·rename_i e kl n kc m ht hl hc
   split at h
   ·rename_i size bytes z hs hb hz
    obtain⟨i,hi,rfl⟩:=eY hs
    obtain⟨i',hi',rfl⟩:=iq hb
    obtain⟨i'',z,hi'',hz0,rfl⟩:=bU hz
    rw [hi] at hi' hi'';cases hi';cases hi''
    cases hb:Nat.beq z.cells.toList.length i.size with
    |false=>rw [hb] at h;exact h.elim
    |true=>
     rw [hb] at h
     simp only [cond_true] at h
     obtain⟨s,w',hr,hk⟩:=Aa ht hi hz0 (Nat.eq_of_beq_eq_true hb) h
     exact aA (by rw [hl,hc];exact hr) hk
   ·exact h.elim
  ·exact h.elim
 case slice t x lo hi mx=>
  obtain⟨v,hr,hk⟩:=wX (w:=w) h
  exact aA hr hk
 case fieldAddr t x f=>
  split at h
  ·rename_i fs a ht hx
   split at h
   ·rename_i off size hf
    cases hb:Nat.beq size 0 with
    |true=>rw [hb] at h;exact h.elim
    |false=>
     rw [hb] at h
     obtain⟨fd,h1,h2⟩:=uf (w:=w) hf hb a
     exact aA (by simp [Instr.fieldAt,run_underlying ht,h1,Instr.sureAddr,hx,h2]) h
   ·exact h.elim
  ·exact h.elim
 case field t x f=>
  split at h
  ·rename_i fs cs ht hx
   split at h
   ·rename_i fd hf
    split at h
    ·rename_i d size hd hs
     obtain⟨v,hr,hk⟩:=rY (w:=w) hd hs h
     have hf':fs[f]? =some fd:=by simpa using hf
     exact aA (by simp [Instr.field,run_underlying ht,hf',hx,asAgg,hr]) hk
    ·exact h.elim
   ·exact h.elim
  ·exact h.elim
 case indexAddr t x i=>
  split at h
  ·rename_i e a n c k i' ht hx hi
   split at h
   ·rename_i size hs
    obtain⟨a',h1,h2,h3,hk⟩:=h
    simp only at h1 h2 h3 hk
    subst h1
    refine aA ?_ hk
    simp [Instr.indexAt,hi,hx,asIntOf,run_underlying ht,aJ hs,h2,h3]
   ·exact h.elim
  ·rename_i n e a k i' ht hx hi
   split at h
   ·rename_i size hs
    obtain⟨h2,h3,hk⟩:=h
    refine aA ?_ hk
    simp [Instr.indexAt,hi,hx,asIntOf,run_underlying ht,aJ hs,h2,h3,Instr.sureAddr]
   ·exact h.elim
  ·exact h.elim
 case index t x i=>
  split at h
  ·rename_i s k i' ht hx hi
   obtain⟨b,h1,h2,hk⟩:=h
   refine aA ?_ hk
   simp [Instr.index,hi,hx,asIntOf,run_underlying ht,h1,h2]
  ·rename_i n e cs k i' ht hx hi
   split at h
   ·rename_i d size hd hs
    obtain⟨h1,h2,h⟩:=h
    obtain⟨v,hr,hk⟩:=rY (w:=w) hd hs h
    refine aA ?_ hk
    simp [Instr.index,hi,hx,asIntOf,run_underlying ht,aJ hs,h1,h2,hr]
   ·exact h.elim
  ·exact h.elim
 case extract t i=>
  split at h
  ·rename_i vs ht
   split at h
   ·rename_i v hv
    have hv':vs[i]? =some v:=by simpa using hv
    split at h
    ·obtain⟨x,hx,h⟩:=oW h
     refine aA ?_ h
     rw [<- hx]
     simp [Instr.extract,ht,hv']
    ·refine aA ?_ h
     simp [Instr.extract,ht,hv']
   ·exact h.elim
  ·exact h.elim
 case range t x=>
  split at h
  ·rename_i kt et r ht hx
   rcases h with ⟨rfl,h⟩|⟨b,es,clock,rfl,hb,h⟩
   ·exact aA (by rw [hx];simp [Instr.range,run_underlying ht]) h
   ·exact aA (by rw [hx];simp [Instr.range,run_underlying ht,MapKept.run_getObj_map hb]) h
  ·exact h.elim
 case next x s=>
  cases s with
  |true=>exact h.elim
  |false=>
  simp only at h
  split at h
  ·rename_i a hx
   obtain⟨h0,h⟩:=h
   rcases h with ⟨s,sn,c,hr,h⟩|⟨b,since,seen,c0,es,clock,hr,hb,hold,hsc,hend,hstep⟩
   ·refine aA ?_ h
    rw [hx,h0]
    simp [Instr.next,getObj,Sem.run,hr,Result.andThen]
   ·rcases run_next_at (P:=P) w _ a.block b since c0 seen es clock hr hb hold hsc with ⟨h1,h2⟩|⟨e,he,w1,hw1,h2⟩
    ·exact aA (by rw [hx,h0];exact h2) (hend h1)
    ·exact aA (by rw [hx,h0];exact h2) (hstep e he w1 hw1)
  ·exact h.elim
 case entry x=>
  split at h
  ·rename_i a hx
   obtain⟨h0,b,since,seen,es,clock,e,hr,hb,he,hn,h⟩:=h
   exact aA (by rw [hx,h0];exact run_entry_at (P:=P) w a.block b since seen es clock e hr hb he hn) h
  ·exact h.elim
 case call c=>
  have hargs:c.args.map ρ=⟨c.args.toList.map ρ⟩:=wP _ _
  split at h
  ·rename_i f hc
   split at h
   ·rename_i sh hsh
    cases hb:dD P f with
    |false=>
     rw [hb] at h
     obtain⟨v,w',hr,hk⟩:=h
     obtain⟨vs,rfl,hk'⟩:=jG _ _ hk
     have hev:ρ (.func f)= .func (.func f) #[] #[]:=hρ f
     simp only [resolve,hc,hev,Deferred.ofValue,hargs]
     simpa [invoke,hr,Ran] using hk'
    |true=>
     rw [hb] at h
     have h:=lU h
     have hev:ρ (.func f)= .func (.func f) #[] #[]:=hρ f
     simp only [resolve,hc,hev,Deferred.ofValue,hargs]
     simpa [invoke,iL hP hb,Ran] using h
   ·exact h.elim
  ·rename_i x hx hc
   split at h
   ·rename_i sh hsh
    have:=Dv hP h
    simp only [resolve,hc,hargs]
    refine Ran.mono (fun r w' hr=> ?_) this
    obtain⟨vs,rfl,hk⟩:=jG _ _ hr
    exact hk
   ·exact h.elim
  ·rename_i b hc
   simp only [resolve,hc,hargs]
   exact yV (tl:=c.argTypes.toList) h
  ·rename_i x name hc
   split at h
   ·simp only [resolve,hc,hargs]
    exact Ht hP h
   ·exact h.elim
 case makeInterface t x=>
  split at h
  ·exact h.elim
  ·rename_i d hd ht
   refine aA (by simp only [Instr.makeInterface,Sem.run_bind,run_underlying ht];cases d<;>first|rfl|exact(hd _ rfl).elim) h
  ·exact h.elim
 case typeAssert x xt t ok=>
  split at h
  ·exact h.elim
  ·rename_i d z hd ht hz
   obtain⟨v,hr,hk⟩:=GZ (xt:=xt) (fun m=>hd m) ht hz h
   exact aA hr hk
  ·exact h.elim
 all_goals exact h.elim
end
end Gp
end
section
namespace Gp
open Go
def Fr (r:Option Nat):Fence:={Fence.wide with round:=r}
def CO (env:Env) (a:Act):Prop:=∀s v,env.get s=some v->a.tmps[s]? =some v
theorem aS (s:Nat) (v:Value) (r:Env) (t:Nat):Env.get ((s,v)::r) t=if s=t then some v else Env.get r t:=by
 simp only [Env.get]
 by_cases h:s=t
 ·subst h;simp
 ·have:Nat.beq s t=false:=by cases hb:Nat.beq s t;rfl;exact absurd (Nat.eq_of_beq_eq_true hb) h
  simp [this,h]
theorem jC (a:Act) (d:Option Nat) (v:Value):(a.put d v).tmps.size=a.tmps.size:=by cases d<;>simp [Act.put]
theorem lI (a:Act) (d:Option Nat) (v:Value):(a.put d v).defers=a.defers:=by cases d<;>rfl
theorem jf (a:Act) (d:Option Nat) (v:Value) (s:Nat):(a.put d v).tmps[s]? =if d=some s/\s<a.tmps.size then some v else a.tmps[s]? :=by
 cases d with
 |none=>simp [Act.put]
 |some d=>
  simp only [Act.put,Array.getElem?_setIfInBounds,Option.some.injEq]
  by_cases h:d=s
  ·subst h
   by_cases h2:d<a.tmps.size
   ·simp [h2]
   ·simp [h2]
  ·simp [h]
theorem CO.put {env:Env} {a:Act} {d:Option Nat} {v:Value} (h:CO env a) (hd:cO a.tmps.size d=true):CO (env.put d v) (a.put d v):=by
 intro s u hs
 rw [jf]
 cases d with
 |none=>simpa using h s u hs
 |some d=>
  simp only [Env.put] at hs
  rw [aS] at hs
  have hlt:d<a.tmps.size:=by simp only [cO,Nat.blt_eq] at hd;exact hd
  by_cases e:d=s
  ·subst e;simp at hs;simp [hlt,hs]
  ·rw [if_neg e] at hs
   have:¬(some d=some s/\s<a.tmps.size):=fun x=>e (by simpa using x.1)
   rw [if_neg this]
   exact h s u hs
theorem FC {env:Env}:∀(l:List Operand),ru env l=true->∀x∈l,(D7 env x).isSome=true:=by
 intro l
 induction l with
 |nil=>intro _ x hx;cases hx
 |cons y l ih=>
  intro h x hx
  simp only [ru,Bool.and_eq_true] at h
  cases hx with
  |head=>exact h.1
  |tail _ hx=>exact ih h.2 x hx
theorem J7 {env:Env} {a:Act} (h:CO env a) {x:Operand} (hx:(D7 env x).isSome=true):ev env x=a.eval x:=by
 unfold ev
 cases x with
 |tmp t=>
  simp only [D7] at hx ⊢
  cases hg:env.get t with
  |none=>simp [hg] at hx
  |some v=>
   have:=h t v hg
   simp [Act.eval,Array.getD_eq_getD_getElem?,this]
 |const v=>rfl
 |global g=>rfl
 |func f=>rfl
theorem sQ {P:Program} {o:Oper} {ρ:Operand->Value} {w:World} {K:Value->World->Prop} (h:fJ P o ρ w K):(∀cs b,o.op≠.select cs b)/\(∀c,o.op≠.defer c):=by
 constructor
 ·intro cs b e;simp only [fJ,e] at h
 ·intro c e;simp only [fJ,e] at h
theorem Fa {P:Program} {o:Oper} {a:Act} {w:World} {K:Value->World->Prop} {r:Option Nat} {n:Nat} {next:Act->World->Prop} {Q:Exit->Act->World->Prop}
  (hd:∀c,o.op≠.defer c) (h:Ran P K ((execOp a.eval o).run P w)) (hk:∀v w',K v w'->next (a.put o.dst v) w'):o.wpIn (Fr r) n P a w next Q:=by
 refine⟨fun _ _=>trivial,?_⟩
 rw [Oper.semAt_eq _ _ _ hd]
 generalize (execOp a.eval o).run P w=res at h
 cases res with
 |halt x w'=>exact h.elim
 |ok x w'=>
  cases x<;>simp only [Ran] at h<;>simp only [Oper.uponIn]
  case value v=>exact hk _ _ h
  case skip=>exact hk _ _ h
  case enter f args=>
   refine⟨fun hx=>by simp [Fr,Fence.wide] at hx,?_⟩
   have:CallsIn Fence.wide (n - 1) P f args w' fun e w''=>∃v,e= .returned v/\K v w'':=callsIn_wide.2 h
   refine CallsIn.mono (F:=Fr r) this fun e w'' hx=> ?_
   obtain⟨v,rfl,hv⟩:=hx
   exact hk _ _ hv
  case round l f tmps assign body=>
   refine⟨fun hx=>by simp [Fr,Fence.wide] at hx,?_⟩
   refine RoundIn.mono (F:=Fr r) (n:=n - 1) ⟨h.1,fun c cs _=>h.2 c cs (room_wide _)⟩ fun e w'' hx=> ?_
   obtain⟨v,rfl,hv⟩:=hx
   exact hk _ _ hv
  all_goals exact h.elim
theorem uq {g:Bool} {v:Value} {K:Value->Prop} (h:split g v K):K v:=by
 unfold split at h
 cases g with
 |false=>exact h
 |true=>
  simp only [cond_true] at h
  cases v<;>first|exact h|skip
  rename_i b
  cases b<;>exact h
structure n_ (nt:Nat) (ds:List Deferred) (ws:List Nat) (a0:Act) (env:Env) (a:Act):Prop where
 agr:CO env a
 size:a.tmps.size=nt
 defers:a.defers=ds
 same:∀s,s∉ws->a.tmps[s]? =a0.tmps[s]?
theorem qK {ops:Array Oper} {a:Act} {env:Env} {j s:Nat} (ha:∀u,env.get s=some u->a.tmps[s]? =some u) {t:Bool} (h1:(ops.toList[j]?).bind (·.dst)=some s) (h2:env.get s=some (.bool t)):
  yielded ops a.tmps j=some t:=by
 have h1':(ops[j]?).bind (·.dst)=some s:=by simpa using h1
 have:=ha _ h2
 simp [yielded,h1',this]
def xQ (env:Env) (a:Act) (ss:List Nat):Prop:=∀s∈ss,∀u,env.get s=some u->a.tmps[s]? =some u
theorem CO.on {env:Env} {a:Act} (h:CO env a) (ss:List Nat):xQ env a ss:=fun s _ u hu=>h s u hu
theorem E_ {env:Env} {a:Act} {ss:List Nat} (h:xQ env a ss) {x:Operand} (hm:∀t,x= .tmp t->t∈ss) (hx:(D7 env x).isSome=true):ev env x=a.eval x:=by
 unfold ev
 cases x with
 |tmp t=>
  simp only [D7] at hx ⊢
  cases hg:env.get t with
  |none=>simp [hg] at hx
  |some v=>
   have:=h t (hm t rfl) v hg
   simp [Act.eval,Array.getD_eq_getD_getElem?,this]
 |const v=>rfl
 |global g=>rfl
 |func f=>rfl
theorem uQ {ops:Array Oper} {o:Oper} {t:Nat} (h:Operand.tmp t∈o.op.operands.toList):t∈o.looksAt ops:=
 List.mem_append_left _ (List.mem_filterMap.2 ⟨.tmp t,h,rfl⟩)
theorem je {ops:Array Oper} {o:Oper} {j s:Nat} {want:Bool} (hg:o.guard=some (j,want)) (hs:(ops.toList[j]?).bind (·.dst)=some s):s∈o.looksAt ops:=by
 refine List.mem_append_right _ ?_
 have h1':(ops[j]?).bind (·.dst)=some s:=by simpa using hs
 simp [hg,h1']
theorem ng {P:Program} (hP:jZ P) {nt:Nat} {o:Oper} {g:Bool} {env:Env} {w:World} {K:Env->World->Prop} {a:Act} {r:Option Nat} {n:Nat}
  {next:Act->World->Prop} {Q:Exit->Act->World->Prop} {ops:Array Oper} (h:eX P nt o g env w K) (ha:xQ env a (o.looksAt ops))
  (hk:∀v w',K (env.put o.dst v) w'->cO nt o.dst=true->next (a.put o.dst v) w'):o.wpIn (Fr r) n P a w next Q:=by
 unfold eX at h
 cases hb:(ru env o.op.operands.toList && cO nt o.dst) with
 |false=>rw [hb] at h;exact h.elim
 |true=>
  rw [hb] at h
  simp only [cond_true] at h
  simp only [Bool.and_eq_true] at hb
  have hcongr:execOp a.eval o=execOp (ev env) o:=(execOp_congr o (sQ h).1 fun x hx=>E_ ha (fun t e=>uQ (by subst e;simpa using hx)) (FC _ hb.1 x (by simpa using hx))).symm
  have hr:=yN hP (fun f=>rfl) h
  rw [<- hcongr] at hr
  exact Fa (sQ h).2 hr fun v w' hv=>hk v w' (uq hv) hb.2
theorem jD {P:Program} (hP:jZ P) {nt:Nat} {ops:Array Oper} {i:Nat} {o:Oper} {g:Bool} {env:Env} {w:World} {K:Env->World->Prop} {a:Act} {r:Option Nat} {n:Nat}
  {next:Act->World->Prop} {Q:Exit->Act->World->Prop} (ho:ops[i]? =some o) (h:bV P nt ops.toList o g env w K) (ha:xQ env a (o.looksAt ops))
  (hk:∀v w',K (env.put o.dst v) w'->cO nt o.dst=true->next (a.put o.dst v) w'):wpOpIn (Fr r) n P ops Q i next a w:=by
 unfold wpOpIn
 simp only [ho]
 unfold bV at h
 cases hg:o.guard with
 |none=>
  simp only [hg] at h
  have hw:Region.wanted o (yielded ops a.tmps)=true:=by simp [Region.wanted,hg]
  rw [if_pos hw]
  exact ng hP h ha hk
 |some jw=>
  obtain⟨j,want⟩:=jw
  simp only [hg] at h
  cases hs:(ops.toList[j]?).bind (·.dst) with
  |none=>simp only [hs] at h
  |some s=>
   simp only [hs] at h
   split at h
   ·rename_i t ht
    have hy:=qK (ha _ (je hg hs)) hs ht
    cases hb:(t==want) with
    |true=>
     rw [hb] at h
     have hw:Region.wanted o (yielded ops a.tmps)=true:=by
      have:t=want:=by simpa using hb
      simp [Region.wanted,hg,hy,this]
     rw [if_pos hw]
     exact ng hP h ha hk
    |false=>
     rw [hb] at h
     have hw:¬(Region.wanted o (yielded ops a.tmps)=true):=by
      have:t≠want:=by intro e;simp [e] at hb
      simp [Region.wanted,hg,hy,this]
     rw [if_neg hw]
     refine⟨fun _ _=>trivial,?_⟩
     simp only [cond_false] at h
     cases hd:cO nt o.dst with
     |false=>rw [hd] at h;exact h.elim
     |true=>rw [hd] at h;exact hk _ _ h hd
   ·rename_i vs ht
    have hw:¬(Region.wanted o (yielded ops a.tmps)=true):=by
     have h1':(ops[j]?).bind (·.dst)=some s:=by simpa using hs
     have:=(ha _ (je hg hs)) _ ht
     simp [Region.wanted,hg,yielded,h1',this]
    rw [if_neg hw]
    refine⟨fun _ _=>trivial,?_⟩
    cases hd:cO nt o.dst with
    |false=>rw [hd] at h;exact h.elim
    |true=>rw [hd] at h;exact hk _ _ h hd
   ·exact h.elim
def oC (ops:List Oper):List Nat:=ops.filterMap (·.dst)
theorem n_.put {nt:Nat} {ds:List Deferred} {ws:List Nat} {a0:Act} {env:Env} {a:Act} {d:Option Nat} {v:Value} (h:n_ nt ds ws a0 env a) (hd:cO nt d=true) (hw:∀s,d=some s->s∈ws):
  n_ nt ds ws a0 (env.put d v) (a.put d v):=by
 refine⟨h.agr.put (by rw [h.size];exact hd),by rw [jC];exact h.size,by rw [lI];exact h.defers,fun s hs=> ?_⟩
 rw [jf]
 have:¬(d=some s/\s<a.tmps.size):=fun x=>hs (hw s x.1)
 rw [if_neg this]
 exact h.same s hs
theorem wH {P:Program} (hP:jZ P) {nt:Nat} {ops:Array Oper} {K:Env->World->Prop} {r:Option Nat} {n:Nat} {Q:Exit->Act->World->Prop} {ds:List Deferred} {ws:List Nat} {a0:Act}
  (hws:∀d∈oC ops.toList,d∈ws) (hQ:∀env a w,n_ nt ds ws a0 env a->K env w->Q .normal a w):
  ∀(l:List Oper) (i:Nat) (env:Env) (a:Act) (w:World),ops.toList.drop i=l->n_ nt ds ws a0 env a->uj P nt ops.toList i l env w K->
   wpOpsIn (Fr r) n P ops Q (List.range' i l.length) a w:=by
 intro l
 induction l with
 |nil=>intro i env a w _ ha h;exact hQ _ _ _ ha h
 |cons o l ih=>
  intro i env a w hl ha h
  have ho:ops[i]? =some o:=by
   have:=congrArg (fun l:List Oper=>l[0]?) hl
   simpa using this
  rw [List.length_cons,List.range'_succ,wpOpsIn_cons]
  have hmem:o∈ops.toList:=by
   have:o∈ops.toList.drop i:=by rw [hl];simp
   exact List.mem_of_mem_drop this
  refine jD hP ho h (ha.agr.on _) fun v w' hv hd=> ?_
  refine ih (i+1) _ _ _ ?_ (ha.put hd fun s hs=>hws s (List.mem_filterMap.2 ⟨o,hmem,hs⟩)) hv
  have:=congrArg List.tail hl
  simpa [List.tail_drop] using this
end Gp
end
section
namespace Gp
open Go
def gK (x:Nat):List Nat->Bool
 |[]=>false
 |y::r=>cond (Nat.beq y x) true (gK x r)
def iW (P:Program) (o:Oper):Bool:=
 match o.op with
 | .load _ _=>o.dst.isNone
 | .move _| .assign _| .pick _ _ _| .build _ _| .nilCheck _| .binOp _ _ _ _ _| .unOp _ _ _| .makeFunc _ _ _| .slice _ _ _ _ _
 | .fieldAddr _ _ _| .field _ _ _| .indexAddr _ _ _| .index _ _ _| .extract _ _=>false
 | .convert s d _=>match P.underlying s,P.underlying d with
  |some (.slice _),some .string=>true
  |some .string,some (.slice _)=>true
  |some (.slice _),some (.slice _)=>true
  |_,_=>false
 | .call c=>match c.callee with
  | .builtin .len=>match c.argTypes.toList with
   |[t]=>match P.underlying t with
    |some .string=>false
    |some (.slice _)=>false
    |some (.array _ _)=>false
    |_=>true
   |_=>true
  | .builtin .cap=>false
  | .builtin .max=>false
  | .builtin .min=>false
  |_=>true
 |_=>true
def fQ (done:List Nat) (o:Oper):Bool:=o.after.toList.all fun e=> !Region.binds .any e||gK e.on done
def enumFrom:Nat->List Oper->List (Nat×Oper)
 |_,[]=>[]
 |i,o::r=>(i,o)::enumFrom (i+1) r
def fO (P:Program) (done:List Nat):List (Nat×Oper)->Option (Nat×Oper)
 |[]=>none
 |(i,o)::r=>cond (!gK i done && (!iW P o && fQ done o)) (some (i,o)) (fO P done r)
def jq (P:Program) (done:List Nat):List (Nat×Oper)->List (Nat×Oper)
 |[]=>[]
 |(i,o)::r=>cond (!gK i done && (iW P o && fQ done o)) ((i,o)::jq P done r) (jq P done r)
def iQ:List Value->World->Addr->Nat->Prop->Prop
 |[],_,_,_,rest=>rest
 |v::vs,w,a,i,rest=>w.cell? (a.add i)=some v/\iQ vs w a (i+1) rest
def jK (sh:Shape) (av v:Value) (w:World) (rest:Prop):Prop:=
 match sh,av,v with
 | .one _,.pointer (some a),v=>w.cell? a=some v/\rest
 | .agg _,.pointer (some a),.agg cs=>iQ cs.toList w a 0 rest
 |_,_,_=>False
def bitsOf (acc:List Nat):List Edge->Nat
 |[]=>0
 |e::r=>cond (Region.binds .any e) (2^e.on|||(acc.getD e.on 0|||bitsOf acc r)) (bitsOf acc r)
def fU:List Oper->List Nat->List Nat
 |[],acc=>acc
 |o::r,acc=>fU r (acc++[bitsOf acc o.after.toList])
def oV (pb:Nat) (w:World):List (Nat×Shape×Value×Value)->Prop->Prop
 |[],rest=>rest
 |(i,sh,av,v)::r,rest=>cond (Nat.testBit pb i) (oV pb w r rest) (jK sh av v w (oV pb w r rest))
def nN (ops:List Oper) (o:Oper) (env:Env):Bool:=
 match o.guard with
 |none=>true
 |some (j,want)=>match (ops[j]?).bind (·.dst) with
  |some s=>match env.get s with
   |some (.bool t)=>t==want
   |some (.tuple _)=>false
   |_=>true
  |none=>true
def lu (P:Program) (ops:List Oper) (i:Nat) (o:Oper) (env env':Env) (ld:List (Nat×Shape×Value×Value)):List (Nat×Shape×Value×Value):=
 match o.op,o.dst with
 | .load t x,some d=>cond (nN ops o env) (match shapeOf P t with
  |some sh=>(i,sh,ev env x,ev env' (.tmp d))::ld
  |none=>ld) ld
 |_,_=>ld
def allOf {α:Type} (f:α->Prop):List α->Prop
 |[]=>True
 |[x]=>f x
 |x::r=>f x/\allOf f r
def dK (P:Program) (nt:Nat) (ops:List Oper) (pbs:List Nat):Nat->List Nat->List (Nat×Shape×Value×Value)->Env->World->(Env->World->Prop)->Prop
 |0,_,_,_,_,_=>False
 |fuel+1,done,ld,env,w,K=>
  match fO P done (enumFrom 0 ops) with
  |some (i,o)=>bV P nt ops o (pJ ops i) env w fun env' w'=>dK P nt ops pbs fuel (i::done) (lu P ops i o env env' ld) env' w' K
  |none=>match jq P done (enumFrom 0 ops) with
   |[]=>cond (Nat.beq done.length ops.length) (K env w) False
   |e::es=>allOf (fun(e:Nat×Oper)=>bV P nt ops e.2 (pJ ops e.1) env w fun env' w'=>
     oV (pbs.getD e.1 0) w' ld (dK P nt ops pbs fuel (e.1::done) ld env' w' K)) (e::es)
def wG (ops:List Oper) (o:Oper):List Nat:=
 (o.op.operands.toList.filterMap fun| .tmp t=>some t|_=>none)++
 (match o.guard with
  |some (g,_)=>((ops[g]?).bind (·.dst)).toList
  |none=>[])
def j_:List Nat->Bool
 |[]=>true
 |x::r=> !gK x r && j_ r
def rU (ops:List Oper) (pbs:List Nat) (i:Nat) (o:Oper):List (Nat×Oper)->Bool
 |[]=>true
 |(j,p)::r=>(match p.dst with
  |some d=>Nat.beq i j|| !gK d (wG ops o)||(Nat.testBit (pbs.getD i 0) j||Nat.testBit (pbs.getD j 0) i)
  |none=>true) && rU ops pbs i o r
def backOk (i:Nat) (o:Oper):Bool:=o.after.toList.all fun e=> !Region.binds .any e||Nat.blt e.on i
def lM (ops:List Oper) (pbs:List Nat):Bool:=
 j_ (oC ops) && (enumFrom 0 ops).all fun x=>backOk x.1 x.2 && rU ops pbs x.1 x.2 (enumFrom 0 ops)
def o9 (P:Program) (nt:Nat) (ops:List Oper) (env:Env) (w:World) (K:Env->World->Prop):Prop:=
 cond (lM ops (fU ops [])) (dK P nt ops (fU ops []) (ops.length+1) [] [] env w.drew K) False
end Gp
end
section
namespace Gp
open Go
theorem bI {x:Nat} {l:List Nat}:gK x l=true↔x∈l:=by
 induction l with
 |nil=>simp [gK]
 |cons y r ih=>
  simp only [gK]
  by_cases h:y=x
  ·subst h;simp
  ·have:Nat.beq y x=false:=by cases hb:Nat.beq y x;rfl;exact absurd (Nat.eq_of_beq_eq_true hb) h
   simp [this,ih,Ne.symm h]
theorem Fv {o:Oper} {i:Nat}:∀(l:List Oper) (k:Nat),(i,o)∈enumFrom k l↔∃j,l[j]? =some o/\i=k+j:=by
 intro l
 induction l with
 |nil=>intro k;simp [enumFrom]
 |cons p l ih=>
  intro k
  simp only [enumFrom,List.mem_cons,Prod.mk.injEq,ih]
  constructor
  ·rintro(⟨rfl,rfl⟩|⟨j,h1,h2⟩)
   ·exact⟨0,by simp,by omega⟩
   ·exact⟨j+1,by simpa using h1,by omega⟩
  ·rintro⟨j,h1,h2⟩
   cases j with
   |zero=>simp at h1;exact .inl ⟨by omega,h1.symm⟩
   |succ j=>exact .inr ⟨j,by simpa using h1,by omega⟩
theorem gX {ops:Array Oper} {o:Oper} {i:Nat}:(i,o)∈enumFrom 0 ops.toList↔ops[i]? =some o:=by
 rw [Fv]
 constructor
 ·rintro⟨j,h1,h2⟩
  have:i=j:=by omega
  subst this
  simpa using h1
 ·intro h
  exact⟨i,by simpa using h,by omega⟩
theorem w_ {P:Program} {done:List Nat} {i:Nat} {o:Oper}:∀(l:List (Nat×Oper)),fO P done l=some (i,o)->
  (i,o)∈l/\i∉done/\iW P o=false/\fQ done o=true:=by
 intro l
 induction l with
 |nil=>intro h;simp [fO] at h
 |cons x l ih=>
  obtain⟨j,p⟩:=x
  intro h
  simp only [fO] at h
  cases hb:(!gK j done && (!iW P p && fQ done p)) with
  |true=>
   rw [hb] at h
   simp only [cond_true,Option.some.injEq,Prod.mk.injEq] at h
   obtain⟨rfl,rfl⟩:=h
   simp only [Bool.and_eq_true,Bool.not_eq_true'] at hb
   exact⟨by simp,fun hm=>by rw [bI.2 hm] at hb;simp at hb,hb.2.1,hb.2.2⟩
  |false=>
   rw [hb] at h
   obtain⟨h1,h2⟩:=ih h
   exact⟨by simp [h1],h2⟩
theorem xA {P:Program} {done:List Nat}:∀(l:List (Nat×Oper)),fO P done l=none->∀i o,(i,o)∈l->i∉done->fQ done o=true->iW P o=true:=by
 intro l
 induction l with
 |nil=>intro _ i o h;cases h
 |cons x l ih=>
  obtain⟨j,p⟩:=x
  intro h i o hm hd hp
  simp only [fO] at h
  cases hb:(!gK j done && (!iW P p && fQ done p)) with
  |true=>rw [hb] at h;simp at h
  |false=>
   rw [hb] at h
   cases hm with
   |head=>
    have:gK j done=false:=by cases hx:gK j done;rfl;exact absurd (bI.1 hx) hd
    simp [this,hp] at hb
    exact hb
   |tail _ hm=>exact ih h i o hm hd hp
theorem su {P:Program} {done:List Nat} {i:Nat} {o:Oper}:∀(l:List (Nat×Oper)),(i,o)∈jq P done l↔(i,o)∈l/\i∉done/\iW P o=true/\fQ done o=true:=by
 intro l
 induction l with
 |nil=>simp [jq]
 |cons x l ih=>
  obtain⟨j,p⟩:=x
  simp only [jq]
  cases hb:(!gK j done && (iW P p && fQ done p)) with
  |true=>
   simp only [Bool.and_eq_true,Bool.not_eq_true'] at hb
   have hnd:j∉done:=fun hm=>by rw [bI.2 hm] at hb;simp at hb
   simp only [cond_true,List.mem_cons,Prod.mk.injEq,ih]
   constructor
   ·rintro(⟨rfl,rfl⟩|h)
    ·exact⟨.inl ⟨rfl,rfl⟩,hnd,hb.2⟩
    ·exact⟨.inr h.1,h.2⟩
   ·rintro⟨h1|h1,h2⟩
    ·exact .inl h1
    ·exact .inr ⟨h1,h2⟩
  |false=>
   simp only [cond_false,List.mem_cons,Prod.mk.injEq,ih]
   constructor
   ·intro h;exact⟨.inr h.1,h.2⟩
   ·rintro⟨h1|h1,h2,h3,h4⟩
    ·obtain⟨rfl,rfl⟩:=h1
     have:gK i done=false:=by cases hx:gK i done;rfl;exact absurd (bI.1 hx) h2
     simp [this,h3,h4] at hb
    ·exact⟨h1,h2,h3,h4⟩
theorem Cc {α:Type} {f:α->Prop}:∀(l:List α),allOf f l->∀x∈l,f x:=by
 intro l
 induction l with
 |nil=>intro _ x hx;cases hx
 |cons y r ih=>
  intro h x hx
  cases r with
  |nil=>simp at hx;subst hx;exact h
  |cons z r=>
   cases hx with
   |head=>exact h.1
   |tail _ hx=>exact ih h.2 x hx
def Dir (ops:Array Oper) (j i:Nat):Prop:=∃o,ops[i]? =some o/\∃e∈o.after.toList,Region.binds .any e=true/\e.on=j
inductive Pre (ops:Array Oper):Nat->Nat->Prop
 |one {j i:Nat}:Dir ops j i->Pre ops j i
 |tail {j k i:Nat}:Pre ops j k->Dir ops k i->Pre ops j i
theorem yA {acc:List Nat} {j:Nat}:∀(es:List Edge),(bitsOf acc es).testBit j=true->∃e∈es,Region.binds .any e=true/\(e.on=j\/(acc.getD e.on 0).testBit j=true):=by
 intro es
 induction es with
 |nil=>intro h;simp [bitsOf] at h
 |cons e es ih=>
  intro h
  simp only [bitsOf] at h
  cases hb:Region.binds .any e with
  |false=>
   rw [hb] at h
   obtain⟨e',h1,h2⟩:=ih h
   exact⟨e',by simp [h1],h2⟩
  |true=>
   rw [hb] at h
   simp only [cond_true,Nat.testBit_or,Bool.or_eq_true,Nat.testBit_two_pow,decide_eq_true_eq] at h
   rcases h with h|h|h
   ·exact⟨e,by simp,hb,.inl h⟩
   ·exact⟨e,by simp,hb,.inr h⟩
   ·obtain⟨e',h1,h2⟩:=ih h
    exact⟨e',by simp [h1],h2⟩
theorem vZ {ops:Array Oper}:∀(l:List Oper) (acc:List Nat),ops.toList.drop acc.length=l->(∀i j,(acc.getD i 0).testBit j=true->Pre ops j i)->
  ∀i j,((fU l acc).getD i 0).testBit j=true->Pre ops j i:=by
 intro l
 induction l with
 |nil=>intro acc _ h;exact h
 |cons o l ih=>
  intro acc hl h
  simp only [fU]
  have ho:ops[acc.length]? =some o:=by
   have:=congrArg (fun l:List Oper=>l[0]?) hl
   simpa using this
  refine ih _ ?_ ?_
  ·have:=congrArg List.tail hl
   simpa [List.tail_drop] using this
  ·intro i j hb
   rcases Nat.lt_trichotomy i acc.length with hi|hi|hi
   ·rw [List.getD_eq_getElem?_getD,List.getElem?_append_left hi,<- List.getD_eq_getElem?_getD] at hb
    exact h i j hb
   ·subst hi
    rw [List.getD_eq_getElem?_getD,List.getElem?_append_right (Nat.le_refl _)] at hb
    simp only [Nat.sub_self,List.getElem?_cons_zero,Option.getD_some] at hb
    obtain⟨e,h1,h2,h3⟩:=yA _ hb
    rcases h3 with h3|h3
    ·exact .one ⟨o,ho,e,h1,h2,h3⟩
    ·exact .tail (h _ _ h3) ⟨o,ho,e,h1,h2,rfl⟩
   ·rw [List.getD_eq_getElem?_getD,List.getElem?_eq_none (by simp;omega)] at hb
    simp at hb
theorem uF {ops:Array Oper} {i j:Nat} (h:((fU ops.toList []).getD i 0).testBit j=true):Pre ops j i:=
 vZ ops.toList [] rfl (fun i j h=>by simp at h) i j h
theorem gY {ops:Array Oper} {D:Nat->Prop} (hD:∀i j,D i->Dir ops j i->D j) {i j:Nat} (h:Pre ops j i):D i->D j:=by
 induction h with
 |one h=>exact fun hi=>hD _ _ hi h
 |tail _ h ih=>exact fun hi=>ih (hD _ _ hi h)
theorem iR {ops:Array Oper} {D:Nat->Prop} (hD:∀i j,D i->Dir ops j i->D j) {i:Nat} (hi:∀j,Dir ops j i->D j) {j:Nat} (h:Pre ops j i):D j:=by
 cases h with
 |one h=>exact hi _ h
 |tail h1 h2=>exact gY hD h1 (hi _ h2)
theorem AA:∀(ops:List Oper),j_ (oC ops)=true->∀(i j:Nat) (oi oj:Oper) (s:Nat),ops[i]? =some oi->ops[j]? =some oj->oi.dst=some s->oj.dst=some s->i=j:=by
 intro ops
 induction ops with
 |nil=>intro _ i j oi oj s hi;simp at hi
 |cons o r ih=>
  intro h i j oi oj s hi hj hsi hsj
  have hmem:∀(k:Nat) (x:Oper),r[k]? =some x->x.dst=some s->s∈oC r:=fun k x hk hx=>List.mem_filterMap.2 ⟨x,List.mem_of_getElem? hk,hx⟩
  cases hd:o.dst with
  |none=>
   have h':j_ (oC r)=true:=by simpa [oC,hd] using h
   cases i with
   |zero=>simp at hi;subst hi;rw [hd] at hsi;cases hsi
   |succ i=>cases j with
    |zero=>simp at hj;subst hj;rw [hd] at hsj;cases hsj
    |succ j=>rw [ih h' i j oi oj s (by simpa using hi) (by simpa using hj) hsi hsj]
  |some d=>
   have h0:j_ (d::oC r)=true:=by simpa [oC,hd] using h
   simp only [j_,Bool.and_eq_true,Bool.not_eq_true'] at h0
   have hnd:d∉oC r:=fun hm=>by rw [bI.2 hm] at h0;simp at h0
   cases i with
   |zero=>
    simp at hi;subst hi
    rw [hd] at hsi;cases hsi
    cases j with
    |zero=>rfl
    |succ j=>exact absurd (hmem j oj (by simpa using hj) hsj) hnd
   |succ i=>cases j with
    |zero=>
     simp at hj;subst hj
     rw [hd] at hsj;cases hsj
     exact absurd (hmem i oi (by simpa using hi) hsi) hnd
    |succ j=>rw [ih h0.2 i j oi oj s (by simpa using hi) (by simpa using hj) hsi hsj]
theorem DI (ops:Array Oper) (o:Oper):wG ops.toList o=o.looksAt ops:=by
 unfold wG Oper.looksAt
 congr 1
 cases o.guard<;>simp
theorem wR {ops:List Oper} {pbs:List Nat} {i:Nat} {o:Oper}:∀(l:List (Nat×Oper)),rU ops pbs i o l=true->∀j p d,(j,p)∈l->p.dst=some d->d∈wG ops o->
  i=j\/(pbs.getD i 0).testBit j=true\/(pbs.getD j 0).testBit i=true:=by
 intro l
 induction l with
 |nil=>intro _ j p d h;cases h
 |cons x l ih=>
  obtain⟨k,q⟩:=x
  intro h j p d hm hd hl
  simp only [rU,Bool.and_eq_true] at h
  cases hm with
  |head=>
   rw [hd] at h
   simp only [Bool.or_eq_true,Bool.not_eq_true',Nat.beq_eq] at h
   rcases h.1 with (h1|h1)|h1
   ·exact .inl h1
   ·rw [bI.2 hl] at h1;cases h1
   ·exact .inr h1
  |tail _ hm=>exact ih h.2 j p d hm hd hl
structure JR (ops:Array Oper):Prop where
 dst:∀(i j:Nat) (oi oj:Oper) (s:Nat),ops[i]? =some oi->ops[j]? =some oj->oi.dst=some s->oj.dst=some s->i=j
 apart:∀(i j:Nat) (oi oj:Oper) (s:Nat),ops[i]? =some oi->ops[j]? =some oj->oj.dst=some s->s∈oi.looksAt ops->i=j\/Pre ops j i\/Pre ops i j
 back:∀i j,Dir ops j i->j<i
theorem uY {ops:Array Oper} (h:lM ops.toList (fU ops.toList [])=true):JR ops:=by
 simp only [lM,Bool.and_eq_true,List.all_eq_true] at h
 refine⟨fun i j oi oj s hi hj=>AA _ h.1 i j oi oj s (by simpa using hi) (by simpa using hj),fun i j oi oj s hi hj hs hl=> ?_,fun i j hd=> ?_⟩
 ·have:=(h.2 (i,oi) (gX.2 hi)).2
  rcases wR _ this j oj s (gX.2 hj) hs (by rw [DI];exact hl) with h1|h1|h1
  ·exact .inl h1
  ·exact .inr (.inl (uF h1))
  ·exact .inr (.inr (uF h1))
 ·obtain⟨o,ho,e,he,hb,rfl⟩:=hd
  have:=(h.2 (i,o) (gX.2 ho)).1
  simp only [backOk,List.all_eq_true,Bool.or_eq_true,Bool.not_eq_true',Nat.blt_eq] at this
  rcases this e he with h1|h1
  ·rw [hb] at h1;cases h1
  ·exact h1
end Gp
end
section
namespace Gp
open Go
theorem C_ {k:Kind} {x:k.T} {φ:k.T->Prop} (h:φ x):k.dec (k.enc x) φ:=by
 cases k with
 |int k=>
  have e:jQ k k=true:=by cases k<;>rfl
  show cond (jQ k k) (φ x) False
  rw [e];exact h
 |_=>exact h
def DK {α:Type} (F:(α->Prop)->Prop):Prop:=∀φ,F φ->∃v,φ v/\∀φ':α->Prop,φ' v->F φ'
theorem Ag (op:BinOp) (k:IntKind) (a b:Int):DK (jU op k a b):=by
 intro φ h
 cases op<;>simp only [jU] at h ⊢<;>first
  |exact⟨_,h,fun _ h'=>h'⟩
  |exact⟨_,h.2,fun _ h'=>⟨h.1,h'⟩⟩
  |exact h.elim
theorem zK (op:BinOp) (a b:ByteArray):DK (jW op a b):=by
 intro φ h
 cases op<;>simp only [jW] at h ⊢<;>first
  |exact⟨_,h,fun _ h'=>h'⟩
  |exact⟨_,h.2,fun _ h'=>⟨h.1,h'⟩⟩
  |exact h.elim
theorem sW (op:BinOp) (x y:Value):DK (jS op x y):=by
 intro φ h
 cases x with
 |int k n=>
  cases y with
  |int k' m=>
   by_cases h1:op= .shl
   ·subst h1;exact⟨_,h.2,fun _ h'=>⟨h.1,h'⟩⟩
   ·by_cases h2:op= .shr
    ·subst h2;exact⟨_,h.2,fun _ h'=>⟨h.1,h'⟩⟩
    ·have e:∀φ,jS op (.int k n) (.int k' m) φ=cond (jQ k k') (jU op k n m φ) False:=by
      intro φ;cases op<;>first|rfl|exact absurd rfl h1|exact absurd rfl h2
     rw [e] at h
     cases hk:jQ k k' with
     |false=>rw [hk] at h;exact h.elim
     |true=>
      rw [hk] at h
      obtain⟨v,hv,h'⟩:=Ag op k n m φ h
      exact⟨v,hv,fun φ' hφ=>by rw [e,hk];exact h' φ' hφ⟩
  |_=>cases op<;>exact h.elim
 |string s=>
  cases y with
  |string s'=>
   have e:∀φ,jS op (.string s) (.string s') φ=jW op s s' φ:=by intro φ;cases op<;>rfl
   rw [e] at h
   obtain⟨v,hv,h'⟩:=zK op s s' φ h
   exact⟨v,hv,fun φ' hφ=>by rw [e];exact h' φ' hφ⟩
  |_=>cases op<;>exact h.elim
 |_=>cases op<;>exact h.elim
theorem vP (d:TypeDesc) (x y:Value):DK (jP d x y):=by
 intro φ h
 unfold jP at h ⊢
 split at h<;>first|exact⟨_,h,fun _ h'=>h'⟩|exact h.elim
theorem xu (P:Program) (op:BinOp) (t:TypeId) (x y:Value):DK (fD P op t x y):=by
 intro φ h
 unfold fD at h ⊢
 split at h
 ·exact sW _ _ _ φ h
 ·exact sW _ _ _ φ h
 ·split at h
  case h_2=>exact h.elim
  rename_i s ys ho
  cases hg:P.eqGuardType P.depth t with
  |true=>rw [hg] at h;exact h.elim
  |false=>
   simp only [hg,cond_false] at h ⊢
   split at h
   case h_2=>exact h.elim
   rename_i r hr
   exact⟨_,h,fun φ' hφ=>by simpa only [hr] using hφ⟩
 ·split at h
  ·obtain⟨v,hv,h'⟩:=vP _ _ _ _ h
   exact⟨_,hv,fun φ' hφ=>h' (fun b=>φ' (.bool b)) hφ⟩
  ·obtain⟨v,hv,h'⟩:=vP _ _ _ _ h
   exact⟨_,hv,fun φ' hφ=>h' (fun b=>φ' (.bool !b)) hφ⟩
  ·exact h.elim
theorem Dw (P:Program) (op:BinOp) (t:TypeId) (x y:Value):DK (qE P op t x y):=by
 intro φ h
 unfold qE at h ⊢
 split at h<;>first|exact⟨_,h,fun _ h'=>h'⟩|exact h.elim
theorem xK (op:UnOp) (x:Value):DK (lV op x):=by
 intro φ h
 unfold lV at h ⊢
 split at h<;>first|exact⟨_,h,fun _ h'=>h'⟩|exact h.elim
theorem fM {α:Type} (ρ:Operand->Value) (x:Option Operand) (d:Int) (F:Int->(α->Prop)->Prop) (hF:∀i,DK (F i)):DK (fun φ=>gI ρ x d fun i=>F i φ):=by
 intro φ h
 unfold gI at h ⊢
 split at h
 ·exact hF _ φ h
 ·split at h
  ·exact hF _ φ h
  ·exact h.elim
theorem wB (P:Program) (t:TypeId) (x:Value) (ρ:Operand->Value) (lo hi mx:Option Operand):DK (iY P t x ρ lo hi mx):=by
 intro φ h
 unfold iY at h ⊢
 split at h
 ·split at h
  ·exact fM ρ lo 0 (fun l (φ:Value->Prop)=>gI ρ hi _ fun h=>zQ _ l h fun s'=>φ (.string s')) (fun l=>fM ρ hi _ (fun h (φ:Value->Prop)=>zQ _ l h fun s'=>φ (.string s'))
    fun h φ hh=>⟨_,hh.2.2.2,fun _ h'=>⟨hh.1,hh.2.1,hh.2.2.1,h'⟩⟩) φ h
  ·exact h.elim
 ·split at h
  ·split at h
   ·exact fM ρ lo 0 (fun l φ=>gI ρ hi _ fun h=>AX _ _ l h fun s'=>φ s'.v) (fun l=>fM ρ hi _ (fun h φ=>AX _ _ l h fun s'=>φ s'.v)
     fun h φ hh=>⟨_,hh.2.2.2,fun _ h'=>⟨hh.1,hh.2.1,hh.2.2.1,h'⟩⟩) φ h
   ·split at h
    ·exact fM ρ lo 0 (fun l φ=>gI ρ _ 0 fun h=>gI ρ _ 0 fun m=>qy _ _ l h m fun s'=>φ s'.v) (fun l=>fM ρ _ 0 (fun h φ=>gI ρ _ 0 fun m=>qy _ _ l h m fun s'=>φ s'.v)
      fun h=>fM ρ _ 0 (fun m φ=>qy _ _ l h m fun s'=>φ s'.v)
      fun m φ hh=>⟨_,hh.2.2.2.2,fun _ h'=>⟨hh.1,hh.2.1,hh.2.2.1,hh.2.2.2.1,h'⟩⟩) φ h
    ·exact h.elim
  ·exact h.elim
 ·split at h
  ·split at h
   ·exact fM ρ lo 0 (fun l φ=>gI ρ hi _ fun h=>zN _ _ _ l h fun s'=>φ s'.v) (fun l=>fM ρ hi _ (fun h φ=>zN _ _ _ l h fun s'=>φ s'.v)
     fun h φ hh=>⟨_,hh.2.2.2,fun _ h'=>⟨hh.1,hh.2.1,hh.2.2.1,h'⟩⟩) φ h
   ·exact h.elim
  ·exact h.elim
 ·exact h.elim
theorem um (d:TypeDesc) (size off:Nat) (cs:List Value):DK (partOf d size off cs):=by
 intro φ h
 unfold partOf at h ⊢
 cases hg:jI d with
 |true=>simp only [hg,cond_true] at h ⊢;exact⟨_,h,fun _ h'=>h'⟩
 |false=>
  simp only [hg,cond_false] at h ⊢
  split at h
  ·exact⟨_,h,fun _ h'=>h'⟩
  ·exact h.elim
theorem qI (mx:Bool):∀(r:List Value) (x:Int) (k:IntKind),DK (iO mx x r k):=by
 intro r
 induction r with
 |nil=>exact fun x k φ h=>⟨_,h,fun _ h'=>h'⟩
 |cons y r ih=>
  intro x k φ h
  cases y with
  |int ky y=>exact ih _ _ φ h
  |_=>exact h.elim
theorem zh (P:Program) (s d:TypeId) (x:Value):DK (iP P s d x):=by
 intro φ h
 unfold iP at h ⊢
 split at h<;>first|exact⟨_,h,fun _ h'=>h'⟩|exact h.elim
theorem xw {P:Program} {b:Builtin} {ts:List TypeId} {args:List Value} {w:World} {K:Value->World->Prop}
  (hb:(b= .len/\∃t,ts=[t]/\∃d,P.underlying t=some d/\(d= .string\/(∃e,d= .slice e)\/∃n e,d= .array n e))\/b= .cap\/b= .max\/b= .min) (h:aK P b ts args w K):
  ∃v,K v w/\∀(w':World) (K':Value->World->Prop),K' v w'->aK P b ts args w' K':=by
 rcases hb with ⟨rfl,t,rfl,d,hd,hk⟩|rfl|rfl|rfl
 ·unfold aK at h ⊢
  split at h<;>first|contradiction|exact h.elim|skip
  rename_i e1 e2
  cases e2
  simp only [hd] at h ⊢
  rcases hk with rfl|⟨e,rfl⟩|⟨n,e,rfl⟩
  ·unfold pU at h ⊢
   split at h<;>first|contradiction|exact h.elim|exact⟨_,h,fun _ _ h'=>h'⟩
  ·unfold pU at h ⊢
   split at h<;>first|contradiction|exact h.elim|exact⟨_,h,fun _ _ h'=>h'⟩
  ·unfold pU at h ⊢
   split at h<;>first|contradiction|exact h.elim|exact⟨_,h,fun _ _ h'=>h'⟩
 ·unfold aK at h ⊢
  split at h<;>first|contradiction|exact h.elim|skip
  split at h
  ·exact⟨_,h,fun _ _ h'=>h'⟩
  ·exact h.elim
 ·unfold aK at h ⊢
  split at h<;>first|contradiction|exact h.elim|skip
  obtain⟨v,hv,h'⟩:=qI _ _ _ _ _ h
  exact⟨v,hv,fun w' K' hk=>h' (fun v=>K' v w') hk⟩
 ·unfold aK at h ⊢
  split at h<;>first|contradiction|exact h.elim|skip
  obtain⟨v,hv,h'⟩:=qI _ _ _ _ _ h
  exact⟨v,hv,fun w' K' hk=>h' (fun v=>K' v w') hk⟩
theorem H6 {P:Program} {o:Oper} {ρ:Operand->Value} {w:World} {K:Value->World->Prop} (hne:iW P o=false) (hl:∀t x,o.op≠.load t x) (h:fJ P o ρ w K):
  ∃v,K v w/\∀(w':World) (K':Value->World->Prop),K' v w'->fJ P o ρ w' K':=by
 obtain⟨dst,op,type,pos,after,guard⟩:=o
 cases op<;>simp only [fJ] at h ⊢<;>simp only [iW] at hne
 case load t x=>exact absurd rfl (hl t x)
 case move x=>exact⟨_,h,fun _ _ h'=>h'⟩
 case assign x=>exact⟨_,h,fun _ _ h'=>h'⟩
 case pick c a b=>
  split at h
  ·rename_i t hc
   cases t with
   |true=>exact⟨_,h,fun _ _ h'=>h'⟩
   |false=>exact⟨_,h,fun _ _ h'=>h'⟩
  ·exact h.elim
 case build t ps=>
  split at h
  ·split at h
   ·rename_i pl hpl
    split at h
    ·rename_i cs hcs
     exact⟨_,h,fun _ _ h'=>h'⟩
    ·exact h.elim
   ·exact h.elim
  ·split at h
   ·rename_i size hs
    split at h
    ·rename_i cs hcs
     exact⟨_,h,fun _ _ h'=>h'⟩
    ·exact h.elim
   ·exact h.elim
  ·exact h.elim
 case nilCheck x=>
  split at h
  ·obtain⟨a,ha,h⟩:=h
   exact⟨_,h,fun _ _ h'=>⟨a,ha,h'⟩⟩
  ·exact h.elim
 case binOp op t x y yt=>
  split at h
  ·obtain⟨v,hv,h'⟩:=Dw P op t _ _ _ h
   exact⟨v,hv,fun w' K' hk=>h' (fun v=>K' v w') hk⟩
  ·obtain⟨v,hv,h'⟩:=xu P op t _ _ _ h
   exact⟨v,hv,fun w' K' hk=>h' (fun v=>K' v w') hk⟩
 case unOp op t x=>
  obtain⟨v,hv,h'⟩:=xK op _ _ h
  exact⟨v,hv,fun w' K' hk=>h' (fun v=>K' v w') hk⟩
 case convert s d x=>
  split at h
  ·rename_i hs hd hx
   rw [hs,hd] at hne
   cases hne
  ·rename_i hs hd hx
   rw [hs,hd] at hne
   cases hne
  ·rename_i hs hd hx
   rw [hs,hd] at hne
   cases hne
  ·obtain⟨v,hv,h'⟩:=zh P s d _ _ h
   exact⟨v,hv,fun w' K' hk=>h' (fun v=>K' v w') hk⟩
 case makeFunc fn first cap=>exact⟨_,h,fun _ _ h'=>h'⟩
 case slice t x lo hi mx=>
  obtain⟨v,hv,h'⟩:=wB P t _ ρ lo hi mx _ h
  exact⟨v,hv,fun w' K' hk=>h' (fun v=>K' v w') hk⟩
 case fieldAddr t x f=>
  split at h
  ·rename_i fs a ht hx
   split at h
   ·rename_i off size hf
    cases hb:Nat.beq size 0 with
    |true=>rw [hb] at h;exact False.elim h
    |false=>
     have h2:K (.pointer (some (a.add off))) w:=by rw [hb] at h;exact h
     exact⟨_,h2,fun _ _ h'=>h'⟩
   ·exact h.elim
  ·exact h.elim
 case field t x f=>
  split at h
  ·split at h
   ·rename_i fd hf
    split at h
    ·rename_i d size hd hs
     obtain⟨v,hv,h'⟩:=um _ _ _ _ _ h
     exact⟨v,hv,fun w' K' hk=>h' (fun v=>K' v w') hk⟩
    ·exact h.elim
   ·exact h.elim
  ·exact h.elim
 case indexAddr t x i=>
  split at h
  ·split at h
   ·rename_i size hs
    obtain⟨a',h1,h2,h3,h⟩:=h
    exact⟨_,h,fun _ _ h'=>⟨a',h1,h2,h3,h'⟩⟩
   ·exact h.elim
  ·split at h
   ·rename_i size hs
    obtain⟨h2,h3,h⟩:=h
    exact⟨_,h,fun _ _ h'=>⟨h2,h3,h'⟩⟩
   ·exact h.elim
  ·exact h.elim
 case index t x i=>
  split at h
  ·obtain⟨b,h1,h2,h⟩:=h
   exact⟨_,h,fun _ _ h'=>⟨b,h1,h2,h'⟩⟩
  ·split at h
   ·rename_i d size hd hs
    obtain⟨h1,h2,h⟩:=h
    obtain⟨v,hv,h'⟩:=um _ _ _ _ _ h
    exact⟨v,hv,fun w' K' hk=>⟨h1,h2,h' (fun v=>K' v w') hk⟩⟩
   ·exact h.elim
  ·exact h.elim
 case extract t i=>
  split at h
  ·split at h
   ·rename_i v hv
    split at h
    ·obtain⟨x,hx,h⟩:=oW h
     exact⟨_,h,fun _ _ h'=>by rw [hx];exact C_ h'⟩
    ·exact⟨_,h,fun _ _ h'=>h'⟩
   ·exact h.elim
  ·exact h.elim
 case call c=>
  split at h
  ·rename_i f hc;simp only [hc] at hne;cases hne
  ·rename_i hc;simp only [hc] at hne;cases hne
  ·rename_i b hc
   simp only [hc] at hne
   refine xw ?_ h
   cases b<;>first|(cases hne;done)|(exact .inr (.inl rfl))|(exact .inr (.inr (.inl rfl)))|(exact .inr (.inr (.inr rfl)))|skip
   refine .inl ⟨rfl,?_⟩
   simp only at hne
   split at hne
   ·rename_i t ht
    refine⟨t,ht,?_⟩
    split at hne<;>first|(cases hne;done)|skip
    ·rename_i hd;exact⟨_,hd,.inl rfl⟩
    ·rename_i hd;exact⟨_,hd,.inr (.inl ⟨_,rfl⟩)⟩
    ·rename_i hd;exact⟨_,hd,.inr (.inr ⟨_,_,rfl⟩)⟩
   ·cases hne
  ·rename_i hc;simp only [hc] at hne;cases hne
 all_goals first|exact h.elim|(cases hne;done)
end Gp
end
section
namespace Gp
open Go
def Ex (P:Program) (r:Option Nat) (ops:Array Oper) (i:Nat) (o:Oper) (E:Env) (v:Value) (w:World):Prop:=
 ∀(n:Nat) (Q:Exit->Act->World->Prop) (a:Act) (next:Act->World->Prop),xQ E a (o.looksAt ops)->next (a.put o.dst v) w->wpOpIn (Fr r) n P ops Q i next a w
theorem lK {w:World} {a:Addr} {rest:Prop}:∀(vs:List Value) (i:Nat),iQ vs w a i rest->(∀j v,vs[j]? =some v->w.cell? (a.add (i+j))=some v)/\rest:=by
 intro vs
 induction vs with
 |nil=>exact fun i h=>⟨fun j v hj=>by simp at hj,h⟩
 |cons v vs ih=>
  rintro i ⟨h1,h2⟩
  obtain⟨h3,h4⟩:=ih (i+1) h2
  refine⟨fun j u hj=> ?_,h4⟩
  cases j with
  |zero=>simp at hj;subst hj;exact h1
  |succ j=>rw [show i+(j+1)=i+1+j by omega];exact h3 j u (by simpa using hj)
theorem sH {w:World} {a:Addr} {rest:Prop}:∀(vs:List Value) (i:Nat),iQ vs w a i rest->iQ vs w a i True:=by
 intro vs
 induction vs with
 |nil=>exact fun _ _=>trivial
 |cons v vs ih=>exact fun i h=>⟨h.1,ih _ h.2⟩
theorem AL {sh:Shape} {av v:Value} {w:World} {rest:Prop} (h:jK sh av v w rest):jK sh av v w True/\rest:=by
 unfold jK at h ⊢
 split at h
 ·exact⟨⟨h.1,trivial⟩,h.2⟩
 ·exact⟨sH _ _ h,(lK _ _ h).2⟩
 ·exact h.elim
theorem AO {pb:Nat} {w:World} {rest:Prop}:∀(ld:List (Nat×Shape×Value×Value)),oV pb w ld rest->
  rest/\∀i sh av v,(i,sh,av,v)∈ld->pb.testBit i=true\/jK sh av v w True:=by
 intro ld
 induction ld with
 |nil=>exact fun h=>⟨h,fun i sh av v hm=>by cases hm⟩
 |cons x ld ih=>
  obtain⟨i,sh,av,v⟩:=x
  intro h
  simp only [oV] at h
  cases hb:pb.testBit i with
  |true=>
   rw [hb] at h
   obtain⟨h1,h2⟩:=ih h
   refine⟨h1,fun j sj bv u hm=> ?_⟩
   cases hm with
   |head=>exact .inl hb
   |tail _ hm=>exact h2 _ _ _ _ hm
  |false=>
   rw [hb] at h
   obtain⟨h0,h⟩:=AL h
   obtain⟨h1,h2⟩:=ih h
   refine⟨h1,fun j sj bv u hm=> ?_⟩
   cases hm with
   |head=>exact .inr h0
   |tail _ hm=>exact h2 _ _ _ _ hm
theorem Dl {w:World} {a:Addr}:∀(ks:List Kind) (i:Nat) (φ:List Value->Prop),J4 ks w a i φ->
  ∃vs,φ vs/\(∀j v,vs[j]? =some v->w.cell? (a.add (i+j))=some v)/\
   ∀w':World,(∀j v,vs[j]? =some v->w'.cell? (a.add (i+j))=some v)->∀φ':List Value->Prop,φ' vs->J4 ks w' a i φ':=by
 intro ks
 induction ks with
 |nil=>exact fun i φ h=>⟨[],h,fun j v hj=>by simp at hj,fun _ _ φ' h'=>h'⟩
 |cons k ks ih=>
  rintro i φ ⟨x,hx,h⟩
  obtain⟨vs,hφ,hc,hag⟩:=ih (i+1) _ h
  refine⟨k.enc x::vs,hφ,fun j v hj=> ?_,fun w' hw φ' h'=> ?_⟩
  ·cases j with
   |zero=>simp at hj;subst hj;exact hx
   |succ j=>rw [show i+(j+1)=i+1+j by omega];exact hc j v (by simpa using hj)
  ·refine⟨x,by simpa using hw 0 (k.enc x) (by simp),hag w' (fun j v hj=> ?_) _ h'⟩
   have:=hw (j+1) v (by simpa using hj)
   rwa [show i+(j+1)=i+1+j by omega] at this
theorem AQ {sh:Shape} {w:World} {a:Addr} {φ:Value->Prop} (h:sh.ld w a φ):
  ∃v,φ v/\(∀φ':Value->Prop,φ' v->sh.ld w a φ')/\∀w',jK sh (.pointer (some a)) v w' True->∀φ':Value->Prop,φ' v->sh.ld w' a φ':=by
 cases sh with
 |one k=>
  obtain⟨x,hx,h⟩:=h
  exact⟨_,h,fun φ' h'=>⟨x,hx,h'⟩,fun w' hs φ' h'=>⟨x,hs.1,h'⟩⟩
 |agg ks=>
  obtain⟨vs,hφ,hc,hag⟩:=Dl ks 0 _ h
  exact⟨_,hφ,fun φ' h'=>hag w hc (fun vs=>φ' (.agg ⟨vs⟩)) h',fun w' hs φ' h'=>hag w' (lK _ _ hs).1 (fun vs=>φ' (.agg ⟨vs⟩)) h'⟩
theorem Kq {P:Program} {o:Oper} {ρ:Operand->Value} {w:World} {K:Value->World->Prop} (hne:iW P o=false) (h:fJ P o ρ w K):
  ∃v,K v w/\(∀K':Value->World->Prop,K' v w->fJ P o ρ w K')/\
   ((∀(w':World) (K':Value->World->Prop),K' v w'->fJ P o ρ w' K')\/
    ∃t x d sh,o.op= .load t x/\o.dst=some d/\shapeOf P t=some sh/\∀w',jK sh (ρ x) v w' True->∀K':Value->World->Prop,K' v w'->fJ P o ρ w' K'):=by
 by_cases hl:∃t x,o.op= .load t x
 ·obtain⟨t,x,ho⟩:=hl
  have hd:∃d,o.dst=some d:=by
   simp only [iW,ho] at hne
   cases hd:o.dst with
   |none=>simp [hd] at hne
   |some d=>exact⟨d,rfl⟩
  obtain⟨d,hd⟩:=hd
  have e:∀w K,fJ P o ρ w K=(match ρ x,shapeOf P t,aB P t with
    | .pointer (some a),some sh,some n=>cond (Nat.beq sh.cells n) (sh.ld w a fun v=>K v w) False
    |_,_,_=>False):=by
   intro w K;simp only [fJ,ho]<;>rfl
  rw [e] at h
  split at h
  ·rename_i a sh n hx hs hn
   cases hb:Nat.beq sh.cells n with
   |false=>rw [hb] at h;exact h.elim
   |true=>
    rw [hb] at h
    obtain⟨v,hv,h1,h2⟩:=AQ h
    have e':∀w K,fJ P o ρ w K=sh.ld w a fun v=>K v w:=by
     intro w K;rw [e];simp only [hx,hs,hn,hb,cond_true]
    refine⟨v,hv,fun K' hk=> ?_,.inr ⟨t,x,d,sh,ho,hd,hs,fun w' hst K' hk=> ?_⟩⟩
    ·rw [e'];exact h1 (fun v=>K' v w) hk
    ·rw [e'];rw [hx] at hst;exact h2 w' hst (fun v=>K' v w') hk
  ·exact h.elim
 ·obtain⟨v,hv,h'⟩:=H6 hne (fun t x e=>hl ⟨t,x,e⟩) h
  exact⟨v,hv,fun K' hk=>h' w K' hk,.inl h'⟩
theorem G6 {P:Program} (hP:jZ P) {nt:Nat} {ops:Array Oper} {i:Nat} {o:Oper} {g:Bool} {env:Env} {w:World} {K:Env->World->Prop} (r:Option Nat)
  (ho:ops[i]? =some o) (hne:iW P o=false) (h:bV P nt ops.toList o g env w K):
  ∃v,cO nt o.dst=true/\K (env.put o.dst v) w/\Ex P r ops i o env v w/\
   ((∀w',Ex P r ops i o env v w')\/∃sh av,(∀ld,(i,sh,av,v)∈lu P ops.toList i o env (env.put o.dst v) ld)/\∀w',jK sh av v w' True->Ex P r ops i o env v w'):=by
 have run:∀(K':Env->World->Prop),eX P nt o g env w K'->bV P nt ops.toList o g env w K->(∀w' (K'':Env->World->Prop),eX P nt o false env w' K''->bV P nt ops.toList o false env w' K'')->
   nN ops.toList o env=true->eX P nt o g env w K->
   ∃v,cO nt o.dst=true/\K (env.put o.dst v) w/\Ex P r ops i o env v w/\
   ((∀w',Ex P r ops i o env v w')\/∃sh av,(∀ld,(i,sh,av,v)∈lu P ops.toList i o env (env.put o.dst v) ld)/\∀w',jK sh av v w' True->Ex P r ops i o env v w'):=by
  intro _ _ _ hstep hgo h
  unfold eX at h
  cases hb:(ru env o.op.operands.toList && cO nt o.dst) with
  |false=>rw [hb] at h;exact h.elim
  |true=>
   rw [hb] at h
   simp only [cond_true] at h
   have hdst:cO nt o.dst=true:=by simp only [Bool.and_eq_true] at hb;exact hb.2
   obtain⟨v,hv,h1,h2⟩:=Kq hne h
   have mk:∀w',(∀K':Value->World->Prop,K' v w'->fJ P o (ev env) w' K')->Ex P r ops i o env v w':=by
    intro w' hw' n Q a next ha hn
    have hx2:eX P nt o false env w' fun env' w''=>(∀u,env'=env.put o.dst u->u=v\/o.dst=none)/\w''=w':=by
     unfold eX
     rw [hb]
     simp only [cond_true]
     refine hw' _ ?_
     simp only [split,cond_false]
     refine⟨fun u hu=> ?_,by trivial⟩
     cases hd:o.dst with
     |none=>exact .inr rfl
     |some d=>
      left
      rw [hd] at hu
      simp only [Env.put,List.cons.injEq,Prod.mk.injEq,true_and,and_true] at hu
      exact hu.symm
    refine jD hP ho (hstep w' _ hx2) ha fun u w'' hu _=> ?_
    obtain⟨hu,rfl⟩:=hu
    rcases hu u rfl with rfl|hd
    ·exact hn
    ·rw [hd] at hn ⊢;exact hn
   refine⟨v,hdst,uq hv,mk w h1,?_⟩
   rcases h2 with h2|⟨t,x,d,sh,e1,e2,e3,h2⟩
   ·exact .inl fun w'=>mk w' (h2 w')
   ·refine .inr ⟨sh,ev env x,fun ld=> ?_,fun w' hs=>mk w' (h2 w' hs)⟩
    simp only [lu,e1,e2,hgo,cond_true,e3]
    have:ev (env.put (some d) v) (.tmp d)=v:=by simp [ev,D7,Env.put,aS]
    rw [this]
    exact List.mem_cons_self ..
 unfold bV at h
 cases hg:o.guard with
 |none=>
  simp only [hg] at h
  exact run _ h (by unfold bV;simp only [hg];exact h) (fun w' K'' hx=>by unfold bV;simp only [hg];exact hx) (by simp [nN,hg]) h
 |some jw=>
  obtain⟨j,want⟩:=jw
  simp only [hg] at h
  cases hs:(ops.toList[j]?).bind (·.dst) with
  |none=>simp only [hs] at h
  |some s=>
   simp only [hs] at h
   split at h
   ·rename_i t ht
    cases hb:(t==want) with
    |true=>
     rw [hb] at h
     refine run _ h (by unfold bV;simp only [hg,hs,ht,hb];exact h) (fun w' K'' hx=>by unfold bV;simp only [hg,hs,ht,hb];exact hx) (by simp only [nN,hg,hs,ht];exact hb) h
    |false=>
     rw [hb] at h
     simp only [cond_false] at h
     cases hd:cO nt o.dst with
     |false=>rw [hd] at h;exact h.elim
     |true=>
      rw [hd] at h
      have mk:∀w',Ex P r ops i o env undef w':=by
       intro w' n Q a next ha hn
       have hy:=qK (ha _ (je hg hs)) hs ht
       have hw:¬(Region.wanted o (yielded ops a.tmps)=true):=by
        have:t≠want:=by intro e;simp [e] at hb
        simp [Region.wanted,hg,hy,this]
       unfold wpOpIn
       simp only [ho]
       rw [if_neg hw]
       exact⟨fun _ _=>trivial,hn⟩
      exact⟨undef,by first|exact hd|rfl,h,mk w,.inl mk⟩
   ·rename_i vs ht
    cases hd:cO nt o.dst with
    |false=>rw [hd] at h;exact h.elim
    |true=>
     rw [hd] at h
     have mk:∀w',Ex P r ops i o env undef w':=by
      intro w' n Q a next ha hn
      have hw:¬(Region.wanted o (yielded ops a.tmps)=true):=by
       have h1':(ops[j]?).bind (·.dst)=some s:=by simpa using hs
       have:=(ha _ (je hg hs)) _ ht
       simp [Region.wanted,hg,yielded,h1',this]
      unfold wpOpIn
      simp only [ho]
      rw [if_neg hw]
      exact⟨fun _ _=>trivial,hn⟩
     exact⟨undef,by first|exact hd|rfl,h,mk w,.inl mk⟩
   ·exact h.elim
end Gp
end
section
namespace Gp
open Go
def wK (listed:Array Bool) (i:Nat):Prop:=listed.getD i false=true
structure Dn (P:Program) (r:Option Nat) (nt:Nat) (dfr:List Deferred) (ws:List Nat) (a0:Act) (ops:Array Oper)
  (D:Nat->Prop) (p:List Nat) (ld:List (Nat×Shape×Value×Value)) (V:Nat->Value) (E:Nat->Env) (env:Env) (a:Act) (w:World):Prop where
 sub:∀i,D i->i∈p
 lt:∀i∈p,i<ops.size
 closedP:∀i j,i∈p->Dir ops j i->j∈p
 closedD:∀i j,D i->Dir ops j i->D j
 pend:∀i∈p,¬D i->∀o,ops[i]? =some o->iW P o=false/\cO nt o.dst=true/\Ex P r ops i o (E i) (V i) w/\
  ((∀w',Ex P r ops i o (E i) (V i) w')\/∃sh av,(i,sh,av,V i)∈ld/\∀w',jK sh av (V i) w' True->Ex P r ops i o (E i) (V i) w')
 look:∀i∈p,¬D i->∀o,ops[i]? =some o->∀s∈o.looksAt ops,(∀(j:Nat) (oj:Oper),ops[j]? =some oj->oj.dst=some s->Pre ops j i->D j)->∀u,(E i).get s=some u->a.tmps[s]? =some u
 src:∀i∈p,¬D i->∀(j:Nat) (oj:Oper) (s:Nat),Pre ops j i->ops[j]? =some oj->oj.dst=some s->(E i).get s=some (V j)
 cur:∀s u,(∀(j:Nat) (oj:Oper),j∈p->¬D j->ops[j]? =some oj->oj.dst≠some s)->env.get s=some u->a.tmps[s]? =some u
 val:∀(j:Nat) (oj:Oper) (s:Nat),j∈p->ops[j]? =some oj->oj.dst=some s->env.get s=some (V j)
 size:a.tmps.size=nt
 defers:a.defers=dfr
 same:∀s,s∉ws->a.tmps[s]? =a0.tmps[s]?
theorem jl (env:Env) (d:Option Nat) (v:Value) (s:Nat):(env.put d v).get s=if d=some s then some v else env.get s:=by
 cases d with
 |none=>simp [Env.put]
 |some d=>simp only [Env.put,aS,Option.some.injEq]
section
variable {P:Program} {r:Option Nat} {nt:Nat} {dfr:List Deferred} {ws:List Nat} {a0:Act} {ops:Array Oper}
theorem Dn.more {D:Nat->Prop} {p:List Nat} {ld:List (Nat×Shape×Value×Value)} {V:Nat->Value} {E:Nat->Env} {env:Env} {a:Act} {w:World} (hR:JR ops)
  (hs:Dn P r nt dfr ws a0 ops D p ld V E env a w) {i:Nat} {o:Oper} {v:Value} (ho:ops[i]? =some o) (hi:i∉p) (hne:iW P o=false) (hpre:∀j,Dir ops j i->j∈p)
  (hd:cO nt o.dst=true) (hex:Ex P r ops i o env v w) {ld':List (Nat×Shape×Value×Value)} (hld:∀x∈ld,x∈ld')
  (hag:(∀w',Ex P r ops i o env v w')\/∃sh av,(i,sh,av,v)∈ld'/\∀w',jK sh av v w' True->Ex P r ops i o env v w'):
  Dn P r nt dfr ws a0 ops D (i::p) ld' (fun k=>if k=i then v else V k) (fun k=>if k=i then env else E k) (env.put o.dst v) a w:=by
 have hD:¬D i:=fun h=>hi (hs.sub i h)
 have hpp:∀j,Pre ops j i->j∈p:=fun j hj=>iR (D:=(·∈p)) hs.closedP hpre hj
 have hself:¬Pre ops i i:=fun h=>hi (hpp i h)
 refine⟨fun j hj=>List.mem_cons_of_mem _ (hs.sub j hj),?_,?_,hs.closedD,?_,?_,?_,?_,?_,hs.size,hs.defers,hs.same⟩
 ·intro j hj
  cases hj with
  |head=>exact(Array.getElem?_eq_some_iff.1 ho).1
  |tail _ hj=>exact hs.lt j hj
 ·intro j k hj hk
  cases hj with
  |head=>exact List.mem_cons_of_mem _ (hpre k hk)
  |tail _ hj=>exact List.mem_cons_of_mem _ (hs.closedP j k hj hk)
 ·intro j hj hnd oj hoj
  by_cases e:j=i
  ·subst e
   rw [ho] at hoj
   cases hoj
   simp only [if_true]
   exact⟨hne,hd,hex,hag⟩
  ·simp only [if_neg e]
   have hj':j∈p:=by cases hj with|head=>exact absurd rfl e|tail _ h=>exact h
   obtain⟨h1,h2,h3,h4⟩:=hs.pend j hj' hnd oj hoj
   refine⟨h1,h2,h3,?_⟩
   rcases h4 with h4|⟨sh,av,h5,h6⟩
   ·exact .inl h4
   ·exact .inr ⟨sh,av,hld _ h5,h6⟩
 ·intro j hj hnd oj hoj s hsl hw u hu
  by_cases e:j=i
  ·subst e
   rw [ho] at hoj
   cases hoj
   simp only [if_true] at hu
   refine hs.cur s u (fun k ok hkp hkd hok hks=> ?_) hu
   rcases hR.apart j k o ok s ho hok hks hsl with h|h|h
   ·exact hi (h ▸ hkp)
   ·exact hkd (hw k ok hok hks h)
   ·exact hi (gY (D:=(·∈p)) hs.closedP h hkp)
  ·simp only [if_neg e] at hu
   have hj':j∈p:=by cases hj with|head=>exact absurd rfl e|tail _ h=>exact h
   exact hs.look j hj' hnd oj hoj s hsl hw u hu
 ·intro j hj hnd k ok s hpk hok hks
  by_cases e:j=i
  ·subst e
   simp only [if_true]
   have hkp:=hpp k hpk
   have hki:k≠j:=fun h=>hi (h ▸ hkp)
   rw [if_neg hki]
   exact hs.val k ok s hkp hok hks
  ·simp only [if_neg e]
   have hj':j∈p:=by cases hj with|head=>exact absurd rfl e|tail _ h=>exact h
   have hkp:=gY (D:=(·∈p)) hs.closedP hpk hj'
   have hki:k≠i:=fun h=>hi (h ▸ hkp)
   rw [if_neg hki]
   exact hs.src j hj' hnd k ok s hpk hok hks
 ·intro s u hn hu
  have hds:o.dst≠some s:=hn i o (List.mem_cons_self ..) hD ho
  rw [jl,if_neg hds] at hu
  exact hs.cur s u (fun j oj hj=>hn j oj (List.mem_cons_of_mem _ hj)) hu
 ·intro j oj s hj hoj hjs
  rw [jl]
  by_cases e:j=i
  ·subst e
   rw [ho] at hoj
   cases hoj
   simp [hjs]
  ·have hj':j∈p:=by cases hj with|head=>exact absurd rfl e|tail _ h=>exact h
   have hds:o.dst≠some s:=fun h=>e (hR.dst j i oj o s hoj ho hjs h)
   rw [if_neg hds,if_neg e]
   exact hs.val j oj s hj' hoj hjs
theorem Dn.take {D:Nat->Prop} {p:List Nat} {ld:List (Nat×Shape×Value×Value)} {V:Nat->Value} {E:Nat->Env} {env:Env} {a:Act} {w:World} (hR:JR ops)
  (hs:Dn P r nt dfr ws a0 ops D p ld V E env a w) {i:Nat} {o:Oper} (ho:ops[i]? =some o) (hi:i∈p) (hnd:¬D i) (hpre:∀j,Dir ops j i->D j) (hws:∀d∈oC ops.toList,d∈ws)
  {D':Nat->Prop} (hD':∀k,D' k↔D k\/k=i):Dn P r nt dfr ws a0 ops D' p ld V E env (a.put o.dst (V i)) w:=by
 have hpp:∀j,Pre ops j i->D j:=fun j hj=>iR hs.closedD hpre hj
 obtain⟨_,hd,_⟩:=hs.pend i hi hnd o ho
 have hmem:∀d,o.dst=some d->d∈ws:=fun d h=>hws d (List.mem_filterMap.2 ⟨o,List.mem_of_getElem? (by simpa using ho),h⟩)
 have hnd':∀k,¬D' k->¬D k/\k≠i:=fun k h=>⟨fun x=>h ((hD' k).2 (.inl x)),fun x=>h ((hD' k).2 (.inr x))⟩
 have hlt:∀d,o.dst=some d->d<a.tmps.size:=fun d h=>by
  rw [h] at hd
  rw [hs.size]
  simpa [cO] using hd
 refine⟨?_,hs.lt,hs.closedP,?_,?_,?_,?_,?_,hs.val,by rw [jC];exact hs.size,by rw [lI];exact hs.defers,?_⟩
 ·intro j hj
  rcases(hD' j).1 hj with h|rfl
  ·exact hs.sub j h
  ·exact hi
 ·intro j k hj hk
  rcases(hD' j).1 hj with h|rfl
  ·exact(hD' k).2 (.inl (hs.closedD j k h hk))
  ·exact(hD' k).2 (.inl (hpre k hk))
 ·intro j hj hn;exact hs.pend j hj (hnd' j hn).1
 ·intro j hj hn oj hoj s hsl hw u hu
  obtain⟨hn1,hn2⟩:=hnd' j hn
  rw [jf]
  by_cases e:o.dst=some s
  ·rw [if_pos ⟨e,hlt s e⟩]
   rcases hR.apart j i oj o s hoj ho e hsl with h|h|h
   ·exact absurd h hn2
   ·rw [hs.src j hj hn1 i o s h ho e] at hu
    exact hu
   ·exact absurd (hpp j h) hn1
  ·rw [if_neg (fun x=>e x.1)]
   refine hs.look j hj hn1 oj hoj s hsl (fun k ok hok hks hpk=> ?_) u hu
   rcases(hD' k).1 (hw k ok hok hks hpk) with h|rfl
   ·exact h
   ·rw [ho] at hok;cases hok;exact absurd hks e
 ·intro j hj hn;exact hs.src j hj (hnd' j hn).1
 ·intro s u hn hu
  rw [jf]
  by_cases e:o.dst=some s
  ·rw [if_pos ⟨e,hlt s e⟩,<- hu]
   exact(hs.val i o s hi ho e).symm
  ·rw [if_neg (fun x=>e x.1)]
   refine hs.cur s u (fun j oj hj hjd hoj=> ?_) hu
   by_cases ej:j=i
   ·subst ej;rw [ho] at hoj;cases hoj;exact e
   ·exact hn j oj hj (fun x=>by rcases(hD' j).1 x with h|h;exact hjd h;exact ej h) hoj
 ·intro s hsw
  rw [jf,if_neg (fun x=>hsw (hmem s x.1))]
  exact hs.same s hsw
theorem Dn.eff {D:Nat->Prop} {p:List Nat} {ld:List (Nat×Shape×Value×Value)} {V:Nat->Value} {E:Nat->Env} {env:Env} {a:Act} {w w':World} (hR:JR ops)
  (hs:Dn P r nt dfr ws a0 ops D p ld V E env a w) {i:Nat} {o:Oper} {v:Value} (ho:ops[i]? =some o) (hi:i∉p) (hpre:∀j,Dir ops j i->D j) (hd:cO nt o.dst=true)
  (hst:∀j sh av v,(j,sh,av,v)∈ld->¬D j->jK sh av v w' True) (hws:∀d∈oC ops.toList,d∈ws)
  {D':Nat->Prop} (hD':∀k,D' k↔D k\/k=i):
  Dn P r nt dfr ws a0 ops D' (i::p) ld (fun k=>if k=i then v else V k) E (env.put o.dst v) (a.put o.dst v) w':=by
 have hpp:∀j,Pre ops j i->D j:=fun j hj=>iR hs.closedD hpre hj
 have hmem:∀d,o.dst=some d->d∈ws:=fun d h=>hws d (List.mem_filterMap.2 ⟨o,List.mem_of_getElem? (by simpa using ho),h⟩)
 have hnd':∀k,¬D' k->¬D k/\k≠i:=fun k h=>⟨fun x=>h ((hD' k).2 (.inl x)),fun x=>h ((hD' k).2 (.inr x))⟩
 have hlt:∀d,o.dst=some d->d<a.tmps.size:=fun d h=>by
  rw [h] at hd
  rw [hs.size]
  simpa [cO] using hd
 have hin:∀j,j∈i::p->j≠i->j∈p:=fun j hj hne=>by cases hj with|head=>exact absurd rfl hne|tail _ h=>exact h
 refine⟨?_,?_,?_,?_,?_,?_,?_,?_,?_,by rw [jC];exact hs.size,by rw [lI];exact hs.defers,?_⟩
 ·intro j hj
  rcases(hD' j).1 hj with h|rfl
  ·exact List.mem_cons_of_mem _ (hs.sub j h)
  ·exact List.mem_cons_self ..
 ·intro j hj
  cases hj with
  |head=>exact(Array.getElem?_eq_some_iff.1 ho).1
  |tail _ hj=>exact hs.lt j hj
 ·intro j k hj hk
  cases hj with
  |head=>exact List.mem_cons_of_mem _ (hs.sub k (hpre k hk))
  |tail _ hj=>exact List.mem_cons_of_mem _ (hs.closedP j k hj hk)
 ·intro j k hj hk
  rcases(hD' j).1 hj with h|rfl
  ·exact(hD' k).2 (.inl (hs.closedD j k h hk))
  ·exact(hD' k).2 (.inl (hpre k hk))
 ·intro j hj hn oj hoj
  obtain⟨hn1,hn2⟩:=hnd' j hn
  obtain⟨h1,h2,h3,h4⟩:=hs.pend j (hin j hj hn2) hn1 oj hoj
  simp only [if_neg hn2]
  rcases h4 with h4|⟨sh,av,h5,h6⟩
  ·exact⟨h1,h2,h4 w',.inl h4⟩
  ·exact⟨h1,h2,h6 w' (hst j sh av _ h5 hn1),.inr ⟨sh,av,h5,h6⟩⟩
 ·intro j hj hn oj hoj s hsl hw u hu
  obtain⟨hn1,hn2⟩:=hnd' j hn
  have hj':=hin j hj hn2
  rw [jf]
  by_cases e:o.dst=some s
  ·rcases hR.apart j i oj o s hoj ho e hsl with h|h|h
   ·exact absurd h hn2
   ·exact absurd (gY (D:=(·∈p)) hs.closedP h hj') hi
   ·exact absurd (hpp j h) hn1
  ·rw [if_neg (fun x=>e x.1)]
   refine hs.look j hj' hn1 oj hoj s hsl (fun k ok hok hks hpk=> ?_) u hu
   rcases(hD' k).1 (hw k ok hok hks hpk) with h|rfl
   ·exact h
   ·rw [ho] at hok;cases hok;exact absurd hks e
 ·intro j hj hn k ok s hpk hok hks
  obtain⟨hn1,hn2⟩:=hnd' j hn
  have hj':=hin j hj hn2
  have hkp:=gY (D:=(·∈p)) hs.closedP hpk hj'
  have hki:k≠i:=fun h=>hi (h ▸ hkp)
  rw [if_neg hki]
  exact hs.src j hj' hn1 k ok s hpk hok hks
 ·intro s u hn hu
  rw [jf]
  rw [jl] at hu
  by_cases e:o.dst=some s
  ·rw [if_pos ⟨e,hlt s e⟩]
   rw [if_pos e] at hu
   exact hu
  ·rw [if_neg (fun x=>e x.1)]
   rw [if_neg e] at hu
   refine hs.cur s u (fun j oj hj hjd hoj=> ?_) hu
   have ej:j≠i:=fun h=>hi (h ▸ hj)
   exact hn j oj (List.mem_cons_of_mem _ hj) (fun x=>by rcases(hD' j).1 x with h|h;exact hjd h;exact ej h) hoj
 ·intro j oj s hj hoj hjs
  rw [jl]
  by_cases e:j=i
  ·subst e
   rw [ho] at hoj
   cases hoj
   simp [hjs]
  ·have hds:o.dst≠some s:=fun h=>e (hR.dst j i oj o s hoj ho hjs h)
   rw [if_neg hds,if_neg e]
   exact hs.val j oj s (hin j hj e) hoj hjs
 ·intro s hsw
  rw [jf,if_neg (fun x=>hsw (hmem s x.1))]
  exact hs.same s hsw
theorem qH {done:List Nat} {i:Nat} {o:Oper} (ho:ops[i]? =some o):fQ done o=true↔∀j,Dir ops j i->j∈done:=by
 simp only [fQ,List.all_eq_true,Bool.or_eq_true,Bool.not_eq_true']
 constructor
 ·rintro h j ⟨o',ho',e,he,hb,rfl⟩
  rw [ho] at ho'
  cases ho'
  rcases h e he with h1|h1
  ·rw [hb] at h1;cases h1
  ·exact bI.1 h1
 ·intro h e he
  cases hb:Region.binds .any e with
  |false=>exact .inl rfl
  |true=>exact .inr (bI.2 (h e.on ⟨o,ho,e,he,hb,rfl⟩))
theorem normalize (hP:jZ P) (hR:JR ops) {pbs:List Nat} {K:Env->World->Prop} {D:Nat->Prop} {a:Act} {w:World}:
  ∀(fuel:Nat) (p:List Nat) (ld:List (Nat×Shape×Value×Value)) (V:Nat->Value) (E:Nat->Env) (env:Env),
   Dn P r nt dfr ws a0 ops D p ld V E env a w->dK P nt ops.toList pbs fuel p ld env w K->
   ∃fuel' p' ld' V' E' env',Dn P r nt dfr ws a0 ops D p' ld' V' E' env' a w/\dK P nt ops.toList pbs (fuel'+1) p' ld' env' w K/\fO P p' (enumFrom 0 ops.toList)=none:=by
 intro fuel
 induction fuel with
 |zero=>intro p ld V E env _ h;exact h.elim
 |succ fuel ih=>
  intro p ld V E env hs h
  cases hf:fO P p (enumFrom 0 ops.toList) with
  |none=>exact⟨fuel,p,ld,V,E,env,hs,h,hf⟩
  |some x=>
   obtain⟨i,o⟩:=x
   simp only [dK,hf] at h
   obtain⟨hm,hi,hne,hok⟩:=w_ _ hf
   have ho:=gX.1 hm
   obtain⟨v,hd,hK,hex,hag⟩:=G6 hP r ho hne h
   refine ih _ _ _ _ _ (hs.more hR ho hi hne ((qH ho).1 hok) hd hex (ld':=lu P ops.toList i o env (env.put o.dst v) ld) (fun x hx=> ?_) ?_) hK
   ·unfold lu
    split
    ·cases nN ops.toList o env with
     |false=>exact hx
     |true=>
      simp only [cond_true]
      split
      ·exact List.mem_cons_of_mem _ hx
      ·exact hx
    ·exact hx
   ·rcases hag with hag|⟨sh,av,h1,h2⟩
    ·exact .inl hag
    ·exact .inr ⟨sh,av,h1 ld,h2⟩
end
end Gp
end
section
namespace Gp
open Go
section
variable {P:Program} {r:Option Nat} {nt:Nat} {dfr:List Deferred} {ws:List Nat} {a0:Act} {ops:Array Oper}
def nF:List Bool->Nat
 |[]=>0
 |b::l=>(if b then 0 else 1)+nF l
theorem IU:∀(l:List Bool) (i:Nat),l[i]? =some false->nF (l.set i true)+1=nF l:=by
 intro l
 induction l with
 |nil=>intro i h;simp at h
 |cons b l ih=>
  intro i h
  cases i with
  |zero=>simp at h;subst h;simp [nF];omega
  |succ i=>
   have:=ih i (by simpa using h)
   simp only [List.set_cons_succ,nF]
   omega
theorem Hq:∀(l:List Bool),nF l=0->∀i,i<l.length->l[i]? =some true:=by
 intro l
 induction l with
 |nil=>intro _ i h;simp at h
 |cons b l ih=>
  intro h i hi
  simp only [nF] at h
  cases i with
  |zero=>cases b<;>simp at h ⊢
  |succ i=>simpa using ih (by omega) i (by simpa using hi)
theorem Ia {listed:Array Bool} {i:Nat} (hi:i<listed.size) (k:Nat):wK (listed.setIfInBounds i true) k↔wK listed k\/k=i:=by
 unfold wK
 simp only [Array.getD_eq_getD_getElem?,Array.getElem?_setIfInBounds]
 by_cases h:i=k
 ·subst h;simp [hi]
 ·simp [h,Ne.symm h]
theorem pR {listed:Array Bool} (hsz:listed.size=ops.size) {i:Nat}:i∈Region.ready .any ops listed↔∃o,ops[i]? =some o/\¬wK listed i/\∀j,Dir ops j i->wK listed j:=by
 unfold Region.ready
 simp only [List.mem_filter,List.mem_range,Bool.and_eq_true]
 constructor
 ·rintro⟨h1,h2,h3⟩
  have ho:ops[i]? =some ops[i]:=Array.getElem?_eq_getElem h1
  refine⟨ops[i],ho,?_,?_⟩
  ·have:i<listed.size:=by omega
   unfold wK
   simp only [Array.getD_eq_getD_getElem?,Array.getElem?_eq_getElem this,Option.getD_some] at h2 ⊢
   simpa using h2
  ·rintro j ⟨o',ho',e,he,hb,rfl⟩
   rw [ho] at ho'
   cases ho'
   simp only [ho,Option.map_some,Option.getD_some,Array.all_eq_true_iff_forall_mem] at h3
   have:=h3 e (by simpa using he)
   rw [hb] at this
   simpa [wK] using this
 ·rintro⟨o,ho,h1,h2⟩
  have hi:=(Array.getElem?_eq_some_iff.1 ho).1
  refine⟨hi,?_,?_⟩
  ·have:i<listed.size:=by omega
   unfold wK at h1
   simp only [Array.getD_eq_getD_getElem?,Array.getElem?_eq_getElem this,Option.getD_some] at h1 ⊢
   simpa using h1
  ·simp only [ho,Option.map_some,Option.getD_some,Array.all_eq_true_iff_forall_mem]
   intro e he
   cases hb:Region.binds .any e with
   |false=>rfl
   |true=>simpa [wK] using h2 e.on ⟨o,ho,e,by simpa using he,hb,rfl⟩
theorem rD (hR:JR ops) {listed:Array Bool} (hsz:listed.size=ops.size) (h:Region.ready .any ops listed=[]):∀i,i<ops.size->wK listed i:=by
 intro i
 induction i using Nat.strongRecOn with
 |_ i ih=>
  intro hi
  by_cases hl:wK listed i
  ·exact hl
  ·have:i∈Region.ready .any ops listed:=(pR hsz).2 ⟨ops[i],Array.getElem?_eq_getElem hi,hl,fun j hj=>by
    have:=hR.back i j hj
    exact ih j this (by omega)⟩
   rw [h] at this
   cases this
theorem finish {K:Env->World->Prop} {Q:Exit->Act->World->Prop} {listed:Array Bool} {p:List Nat} {ld:List (Nat×Shape×Value×Value)} {V:Nat->Value} {E:Nat->Env} {env:Env} {a:Act} {w:World} {pbs:List Nat} {fuel:Nat}
  (hall:∀i,i<ops.size->wK listed i) (hs:Dn P r nt dfr ws a0 ops (wK listed) p ld V E env a w) (h:dK P nt ops.toList pbs (fuel+1) p ld env w K)
  (hf:fO P p (enumFrom 0 ops.toList)=none) (hQ:∀env a w,n_ nt dfr ws a0 env a->K env w->Q .normal a w):Q .normal a w:=by
 have hr:jq P p (enumFrom 0 ops.toList)=[]:=by
  cases hx:jq P p (enumFrom 0 ops.toList) with
  |nil=>rfl
  |cons x l=>
   obtain⟨i,o⟩:=x
   obtain⟨h1,h2,_⟩:=(su (P:=P) (done:=p) (i:=i) (o:=o) _).1 (by rw [hx];simp)
   exact absurd (hs.sub i (hall i (Array.getElem?_eq_some_iff.1 (gX.1 h1)).1)) h2
 simp only [dK,hf,hr] at h
 have hK:K env w:=by
  cases hb:Nat.beq p.length ops.toList.length with
  |false=>rw [hb] at h;exact h.elim
  |true=>rw [hb] at h;exact h
 refine hQ env a w ⟨fun s u hu=>hs.cur s u (fun j oj hj hnd _=>absurd (hall j (hs.lt j hj)) hnd) hu,hs.size,hs.defers,hs.same⟩ hK
theorem AP (hP:jZ P) (hR:JR ops) {n:Nat} {K:Env->World->Prop} {Q:Exit->Act->World->Prop} (hws:∀d∈oC ops.toList,d∈ws)
  (hQ:∀env a w,n_ nt dfr ws a0 env a->K env w->Q .normal a w):
  ∀(m:Nat) (listed:Array Bool) (a:Act) (w:World) (p:List Nat) (ld:List (Nat×Shape×Value×Value)) (V:Nat->Value) (E:Nat->Env) (env:Env) (fuel:Nat),
   listed.size=ops.size->nF listed.toList<=m->Dn P r nt dfr ws a0 ops (wK listed) p ld V E env a w->
   dK P nt ops.toList (fU ops.toList []) fuel p ld env w K->wpAnyIn (Fr r) n P .any ops Q m listed a w:=by
 intro m
 induction m with
 |zero=>
  intro listed a w p ld V E env fuel hsz hm hs h
  have hall:∀i,i<ops.size->wK listed i:=by
   intro i hi
   have:=Hq listed.toList (by omega) i (by simpa [hsz] using hi)
   have h2:listed[i]? =some true:=by simpa using this
   simp [wK,Array.getD_eq_getD_getElem?,h2]
  obtain⟨fuel',p',ld',V',E',env',hs',h',hf⟩:=normalize hP hR fuel p ld V E env hs h
  refine⟨?_,finish hall hs' h' hf hQ⟩
  cases hx:Region.ready .any ops listed with
  |nil=>rfl
  |cons i l=>
   obtain⟨o,ho,hn,_⟩:=(pR hsz (i:=i)).1 (by rw [hx];simp)
   exact absurd (hall i (Array.getElem?_eq_some_iff.1 ho).1) hn
 |succ m ih=>
  intro listed a w p ld V E env fuel hsz hm hs h
  obtain⟨fuel',p',ld',V',E',env',hs',h',hf⟩:=normalize hP hR fuel p ld V E env hs h
  refine⟨fun hr=>finish (rD hR hsz hr) hs' h' hf hQ,fun i hi=> ?_⟩
  obtain⟨o,ho,hnd,hpre⟩:=(pR hsz).1 hi
  have hil:i<listed.size:=by rw [hsz];exact(Array.getElem?_eq_some_iff.1 ho).1
  have hD':=Ia hil
  have hsz':(listed.setIfInBounds i true).size=ops.size:=by simpa using hsz
  have hm':nF (listed.setIfInBounds i true).toList<=m:=by
   have hfalse:listed.toList[i]? =some false:=by
    have:listed[i]? =some listed[i]:=Array.getElem?_eq_getElem hil
    unfold wK at hnd
    simp only [Array.getD_eq_getD_getElem?,this,Option.getD_some] at hnd
    have h2:listed[i]=false:=by simpa using hnd
    simp [hil,h2]
   have:=IU listed.toList i hfalse
   rw [Array.toList_setIfInBounds]
   omega
  by_cases hip:i∈p'
  ·obtain⟨_,_,hex,_⟩:=hs'.pend i hip hnd o ho
   refine hex n Q a _ (fun s hsl u hu=>hs'.look i hip hnd o ho s hsl (fun j oj _ _ hpj=>iR hs'.closedD hpre hpj) u hu) ?_
   exact ih _ _ _ _ _ _ _ _ _ hsz' hm' (hs'.take hR ho hip hnd hpre hws hD') h'
  ·have hok:fQ p' o=true:=(qH ho).2 fun j hj=>hs'.sub j (hpre j hj)
   have heff:=xA _ hf i o (gX.2 ho) hip hok
   have hmem:=(su (P:=P) (done:=p') (i:=i) (o:=o) (enumFrom 0 ops.toList)).2 ⟨gX.2 ho,hip,heff,hok⟩
   simp only [dK,hf] at h'
   cases hx:jq P p' (enumFrom 0 ops.toList) with
   |nil=>rw [hx] at hmem;cases hmem
   |cons e es=>
    rw [hx] at hmem h'
    have hstep:=Cc _ h' (i,o) hmem
    refine jD hP ho hstep (fun s hsl u hu=>hs'.cur s u (fun j oj hj hjd hoj hjs=> ?_) hu) fun v w' hv hd=> ?_
    ·rcases hR.apart i j o oj s ho hoj hjs hsl with e|e|e
     ·exact hip (e ▸ hj)
     ·exact hjd (iR hs'.closedD hpre e)
     ·exact hip (gY (D:=(·∈p')) hs'.closedP e hj)
    ·obtain⟨hd1,hd2⟩:=AO _ hv
     refine ih _ _ _ _ _ _ _ _ _ hsz' hm' (hs'.eff hR ho hip hpre hd (fun j sh av v hj hjn=> ?_) hws hD') hd1
     rcases hd2 j sh av v hj with hb|hb
     ·exact absurd (iR hs'.closedD hpre (uF hb)) hjn
     ·exact hb
theorem uH (hP:jZ P) {id n:Nat} {K:Env->World->Prop} {Q:Exit->Act->World->Prop} {env:Env} {a:Act} {w:World} (hws:∀d∈oC ops.toList,d∈ws)
  (hQ:∀env a w,n_ nt dfr ws a0 env a->K env w->Q .normal a w) (ha:n_ nt dfr ws a0 env a) (h:o9 P nt ops.toList env w K):(Code.region id ops true).wpIn (Fr r) n P Q a w:=by
 unfold o9 at h
 cases hb:lM ops.toList (fU ops.toList []) with
 |false=>rw [hb] at h;exact h.elim
 |true=>
  rw [hb] at h
  have hR:=uY hb
  refine wpIn_region_any hP.mixed ?_
  have hno:∀i,¬wK (Array.replicate ops.size false) i:=by
   intro i hi
   unfold wK at hi
   simp only [Array.getD_eq_getD_getElem?,Array.getElem?_replicate] at hi
   by_cases h2:i<ops.size
   ·simp [h2] at hi
   ·simp [h2] at hi
  refine AP (V:=fun _=>undef) (E:=fun _=>[]) hP hR hws hQ ops.size (Array.replicate ops.size false) a w.drew [] [] env _ (by simp) ?_ ?_ h
  ·have:∀k,nF (List.replicate k false)=k:=by
    intro k
    induction k with
    |zero=>rfl
    |succ k ih=>simp [List.replicate_succ,nF,ih];omega
   simp [this]
  ·exact⟨fun i hi=>absurd hi (hno i),fun i hi=>by simp at hi,fun i j hi=>by simp at hi,fun i j hi=>absurd hi (hno i),fun i hi=>by simp at hi,fun i hi=>by simp at hi,
    fun i hi=>by simp at hi,fun s u _ hu=>ha.agr s u hu,fun j oj s hj=>by simp at hj,ha.size,ha.defers,ha.same⟩
end
end Gp
end
