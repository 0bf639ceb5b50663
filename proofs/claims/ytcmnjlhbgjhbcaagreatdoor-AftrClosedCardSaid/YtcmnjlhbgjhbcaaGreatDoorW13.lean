import Derived.Test.YtcmnjlhbgjhbcaaGreatDoorW12
import Derived.Test.YtcmnjlhbgjhbcaaGreatDoorProg
import Derived.KernelRfl
import Derived.Test.YtcmnjlhbgjhbcaaGreatDoorW2
open Bool (and_eq_true)
set_option maxRecDepth 100000
section
namespace Gp.Rn
open Go Gp
noncomputable section
mutual
def jEq:Jmp->Jmp->Bool
 | .no,.no=>true
 | .ret,.ret=>true
 | .ex a,.ex b=>Nat.beq a b
 |_,_=>false
end
def lsE:LoopState->LoopState->Bool
 | .ready,.ready=>true
 | .busy,.busy=>true
 | .done,.done=>true
 | .exhausted,.exhausted=>true
 |_,_=>false
def ahg:List (AV×AV×Nat)->List (AV×AV×Nat)->Bool
 |[],[]=>true
 |(a,b,n)::l,(a',b',n')::l'=>B_ a a' && (B_ b b' && (Nat.beq n n' && ahg l l'))
 |_,_=>false
def ah0:List Nat->List Nat->Bool
 |[],[]=>true
 |a::l,b::l'=>Nat.beq a b && ah0 l l'
 |_,_=>false
def oEq:Option Nat->Option Nat->Bool
 |none,none=>true
 |some a,some b=>Nat.beq a b
 |_,_=>false
def bEq (a b:Bool):Bool:=cond a b (!b)
def aac:AB->AB->Bool
 | .row cs z p,.row cs' z' p'=>wC cs cs' && (Nat.beq z z' && bEq p p')
 | .map es c,.map es' c'=>ahg es es' && Nat.beq c c'
 | .iter m a l c,.iter m' a' l' c'=>oEq m m' && (Nat.beq a a' && (ah0 l l' && Nat.beq c c'))
 | .loop a j,.loop a' j'=>lsE a a' && jEq j j'
 | .mark,.mark=>true
 | .dead,.dead=>true
 |_,_=>false
def UA:Tr->Tr->Bool
 | .lf,.lf=>true
 | .nd v l r,.nd v' l' r'=>(match v,v' with
  |none,none=>true
  |some a,some b=>aac a b
  |_,_=>false) && (UA l l' && UA r r')
 |_,_=>false
def NT (e e':AE):List (Nat×AV)->Bool
 |[]=>true
 |(t,_)::r=>(match e.get t,e'.get t with
  |some a,some b=>B_ a b
  |_,_=>false) && NT e e' r
structure abA where
 nt:Nat
 ps:List Nat
 ks:List Shape
 x:CY
 y:CY
 assign:Code
 body:Code
 env:AE
abbrev G9:=List (Nat×abA)
def G9.get:G9->Nat->Option abA
 |[],_=>none
 |(l,i)::r,m=>cond (Nat.beq l m) (some i) (G9.get r m)
abbrev KC:=Exit->AE->List Nat->St->Bool
abbrev RunT:=Nat->Code->Option Nat->CY->AE->List Nat->G9->St->KC->Bool
section
variable (P:Program) (cb:Cb) (nt:Nat)
def aou:Op->Option Operand
 | .move x=>some x
 | .assign x=>some x
 |_=>none
def YD (o:Oper) (e:AE) (s:St) (k:AE->St->Bool):Bool:=
 match aou o.op with
 |some x=>match evA e x with
  |some v=>cond (nR nt o.dst) (k (e.put o.dst v) s) false
  |none=>false
 |none=>cond (nR nt o.dst) (match evs e o.op.operands.toList with
  |some _=>opC P cb o.op o.type (λx=>(evA e x).getD (.kW [])) s λv s'=>k (e.put o.dst v) s'
  |none=>false) false
def IX (ops:List Oper) (o:Oper) (e:AE) (s:St) (k:AE->St->Bool):Bool:=
 match o.guard with
 |none=>YD P cb nt o e s k
 |some (j,want)=>match (ops[j]?).bind (·.dst) with
  |some d=>match e.get d with
   |some (.bool t)=>cond (t==want) (YD P cb nt o e s k) (cond (nR nt o.dst) (k (e.put o.dst (.kW [])) s) false)
   |some (.kW _)=>cond (nR nt o.dst) (k (e.put o.dst (.kW [])) s) false
   |_=>false
  |none=>false
def adL (ops:List Oper) (l:List Oper):AE->St->(AE->St->Bool)->Bool:=
 List.rec (motive:=λ_=>AE->St->(AE->St->Bool)->Bool) (λe s k=>k e s) (λo _ ih e s k=>IX P cb nt ops o e s λe' s'=>ih e' s' k) l
theorem opsC_cons (ops:List Oper) (o:Oper) (r:List Oper) (e:AE) (s:St) (k:AE->St->Bool):adL P cb nt ops (o::r) e s k=IX P cb nt ops o e s λe' s'=>adL P cb nt ops r e' s' k:=rfl
def XK (sh:Shape) (a v:AV) (s:St):Bool:=
 match sh,a with
 | .one _,.ptr i o=>match rdC s i o 1 with
  |some [u]=>B_ v u
  |_=>false
 | .agg _,.ptr i o=>match v with
  | .agg vs=>match rdC s i o vs.length with
   |some us=>wC vs us
   |none=>false
  |_=>false
 |_,_=>false
def JV (pb:Nat) (s:St):List (Nat×Shape×AV×AV)->Bool
 |[]=>true
 |(i,sh,a,v)::r=>cond (Nat.testBit pb i) (JV pb s r) (XK sh a v s && JV pb s r)
def abX (ops:List Oper) (o:Oper) (e:AE):Bool:=
 match o.guard with
 |none=>true
 |some (j,want)=>match (ops[j]?).bind (·.dst) with
  |some d=>match e.get d with
   |some (.bool t)=>t==want
   |some (.kW _)=>false
   |_=>true
  |none=>true
def afE (ops:List Oper) (i:Nat) (o:Oper) (e e':AE) (ld:List (Nat×Shape×AV×AV)):Option (List (Nat×Shape×AV×AV)):=
 match o.op,o.dst with
 | .load t x,some d=>cond (abX ops o e) (match shapeOf P t with
  |some sh=>match evA e x,e'.get d with
   |some a,some v=>some ((i,sh,a,v)::ld)
   |_,_=>none
  |none=>some ld) (some ld)
 |_,_=>some ld
def anl:List (Nat×Nat)->Nat->Nat->Nat
 |[],_,d=>d
 |(i,n)::r,j,d=>cond (Nat.beq i j) n (anl r j d)
abbrev KD:=AE->St->List (Nat×Nat)->Bool
abbrev DrT:=Option (List (Nat×Nat))->List (Nat×Nat)->List Nat->List (Nat×Shape×AV×AV)->AE->St->KD->Bool
def IC (ops:List Oper) (pbs:List Nat) (prev:DrT) (l acc:List (Nat×Nat)) (done:List Nat) (ld:List (Nat×Shape×AV×AV)) (e:AE) (s:St) (k:KD):List (Nat×Oper)->Bool
 |[]=>true
 |x::r=>IX P cb nt ops x.2 e ⟨s.h,anl l x.1 s.n⟩ (λe' s'=>cond (JV (pbs.getD x.1 0) s' ld) (prev (some l) acc (x.1::done) ld e' s' k) false) && IC ops pbs prev l acc done ld e s k r
def aeU (ops:List Oper) (pbs:List Nat) (prev:DrT) (rp:Option (List (Nat×Nat))) (acc:List (Nat×Nat)) (done:List Nat) (ld:List (Nat×Shape×AV×AV)) (e:AE) (s:St) (k:KD) (i:Nat) (o:Oper) (es:List (Nat×Oper)):Bool:=
 match rp with
 |none=>IX P cb nt ops o e s λe' s'=>cond (JV (pbs.getD i 0) s' ld) (prev none ((i,s.n)::acc) (i::done) ld e' s' λe0 s0 acc0=>
   IC P cb nt ops pbs prev acc0 [] done ld e s (λe1 s1 _=>NT e0 e1 e0 && UA s0.h s1.h) es && k e0 s0 acc0) false
 |some l=>IC P cb nt ops pbs prev l acc done ld e s k ((i,o)::es)
def Qx (ops:List Oper) (pbs:List Nat) (prev:DrT):DrT:=λrp acc done ld e s k=>
 match vJ P done (enumFrom 0 ops) with
 |some (i,o)=>IX P cb nt ops o e s λe' s'=>match afE P ops i o e e' ld with
  |some ld'=>prev rp acc (i::done) ld' e' s' k
  |none=>false
 |none=>match CS P done (enumFrom 0 ops) with
  |[]=>cond (Nat.beq done.length ops.length) (k e s acc) false
  |(i,o)::es=>aeU P cb nt ops pbs prev rp acc done ld e s k i o es
def Qy (ops:List Oper) (pbs:List Nat) (n:Nat):DrT:=
 Nat.rec (motive:=λ_=>DrT) (λ_ _ _ _ _ _ _=>false) (λ_ prev=>Qx P cb nt ops pbs prev) n
end
def YN:List (Nat×Kind)->AE->Option AE
 |[],_=>some []
 |(t,kd)::r,e=>match e.get t with
  |some v=>cond (kOk kd v) (match YN r e with
   |some l=>some ((t,v)::l)
   |none=>none) none
  |none=>none
def aen:Nat->List AV->AE
 |_,[]=>[]
 |i,v::vs=>(i,v)::aen (i+1) vs
def abS:List Nat->List AV->AE
 |[],_=>[]
 |_::_,[]=>[]
 |s::r,v::vs=>(s,v)::abS r vs
def DY:List Nat->St->(St->Bool)->Bool
 |[],s,k=>k s
 |D::ds,s,k=>match s.h.get D with
  |some .mark=>CO s D .dead λs'=>DY ds s' k
  |_=>false
def Sl (P:Program):List ResultVar->AE->St->Option (List AV)
 |[],_,_=>some []
 | .tmp t::r,e,s=>match e.get t,Sl P r e s with
  |some v,some l=>some (v::l)
  |_,_=>none
 | .cell a t::r,e,s=>match e.get a,shapeOf P t,gG P t with
  |some (.ptr i o),some (.one kd),some n=>cond (Nat.beq 1 n) (match rdC s i o 1,Sl P r e s with
   |some [v],some l=>cond (kOk kd v) (some (v::l)) none
   |_,_=>none) none
  |some (.ptr i o),some (.agg ks),some n=>cond (Nat.beq ks.length n) (match rdC s i o n,Sl P r e s with
   |some vs,some l=>cond (QY ks vs) (some (.agg vs::l)) none
   |_,_=>none) none
  |_,_,_=>none
structure P7 where
 f:FuncId
 args:List AV
 s:St
 rs:List AV
 t:St
structure Tab where
 ann:Nat->Option CY
 memo:List P7
def Ri:List P7->FuncId->List AV->St->Option (List AV×St)
 |[],_,_,_=>none
 |m::r,f,args,s=>cond (Nat.beq m.f f) (cond (Nat.beq m.s.n s.n) (cond (wC m.args args && UA m.s.h s.h) (some (m.rs,m.t)) (Ri r f args s)) (Ri r f args s)) (Ri r f args s)
section
variable (P:Program) (A:Tab) (prev:RunT)
def VX (Γ:G9) (f:FuncId) (args:List AV) (s:St) (k:List AV->St->Bool):Bool:=
 match P.funcs[f]?,A.ann f with
 |some fn,some an=>match fn.body with
  |some c=>cond (Nat.ble args.length fn.ntmps) (prev fn.ntmps c none an (aen 0 args) [] Γ s λe env ds s'=>
   match e with
   | .normal=>DY ds s' λs''=>match Sl P fn.results.toList env s'' with
    |some vs=>k vs s''
    |none=>false
   | .ret=>DY ds s' λs''=>match Sl P fn.results.toList env s'' with
    |some vs=>k vs s''
    |none=>false
   |_=>false) false
  |none=>false
 |_,_=>false
def Ak (Γ:G9) (f:FuncId) (args:List AV) (s:St) (k:List AV->St->Bool):Bool:=
 match Ri A.memo f args s with
 |some (rs,t)=>k rs t
 |none=>VX P A prev Γ f args s k
def cb0:Cb:=⟨λ_ _ _ _=>false,λ_ _ _ _=>false⟩
def Tj (nt:Nat):Code->CY->AE->St->(AE->St->Bool)->Bool
 | .skip,_,e,s,k=>k e s
 | .region _ ops draw,_,e,s,k=>cond draw false (adL P cb0 nt ops.toList ops.toList e s k)
 | .seq a b,an,e,s,k=>match an with
  | .seq x y=>Tj nt a x e s λe' s'=>Tj nt b y e' s' k
  |_=>false
 |_,_,_,_,_=>false
def SX (Γ:G9) (l:Nat) (args:List AV) (s:St) (k:Bool->St->Bool):Bool:=
 match Γ.get l,s.h.get l with
 |some i,some (.loop .ready p)=>cond (LZ i.ks args) (Tj P i.nt i.assign i.x (abS i.ps args++i.env) s λenv1 s1=>CO s1 l (.loop .busy p) λs2=>prev i.nt i.body (some l) i.y env1 [] Γ s2 λe _ _ s3=>match s3.h.get l with
    |some (.loop .busy p3)=>cond (jEq p3 p) (match e with
     | .normal=>CO s3 l (.loop .ready .no) λs4=>k true s4
     | .ret=>CO s3 l (.loop .done .ret) λs4=>k false s4
     | .exit id=>CO s3 l (.loop .done (.ex id)) λs4=>k false s4
     |_=>false) false
    |_=>false) false
 |_,_=>false
def aeD (Γ:G9):Cb:=⟨Ak P A prev Γ,SX P prev Γ⟩
def adR (nt:Nat) (g:Operand) (ps:List Nat) (assign body:Code) (ks:List Shape) (x y:CY) (env:AE) (ds:List Nat) (Γ:G9) (m:Option Nat) (s:St) (k:KC):Bool:=
 match evA env g with
 |some (.fn f first cap)=>cond (jZ P f) (Dv s (.loop .ready .no) λl s1=>
   Ak P A prev ((l,⟨nt,ps,ks,x,y,assign,body,env⟩)::Γ) f (first++(.yld l::cap)) s1 λrs s2=>match rs,s2.h.get l with
    |[],some (.loop st p)=>cond (lsE st .busy) false (CO s2 l .dead λs3=>
      match p with
      | .no=>k .normal env (m.toList++ds) s3
      | .ret=>k .ret env (m.toList++ds) s3
      | .ex id=>cond (vZ id (pX body)) (k (.exit id) env (m.toList++ds) s3) false)
    |_,_=>false) false
 |_=>false
def aie (nt:Nat) (ops:List Oper) (draw:Bool) (env:AE) (ds:List Nat) (Γ:G9) (s:St) (k:KC):Bool:=
 cond draw (cond (Gi ops (vT ops [])) (Qy P (aeD P A prev Γ) nt ops (vT ops []) (ops.length+1) none [] [] [] env s λe s' _=>k .normal e ds s') false)
  (adL P (aeD P A prev Γ) nt ops ops env s λe s'=>k .normal e ds s')
def alB (nt:Nat) (b:Code) (r:Option Nat) (y:CY) (Γ:G9) (k:KC):KC:=λe env' ds' s'=>
 match e with
 | .normal=>prev nt b r y env' ds' Γ s' k
 |e=>k e env' ds' s'
def af_ (nt:Nat) (a b:Code) (r:Option Nat) (an:CY) (env:AE) (ds:List Nat) (Γ:G9) (s:St) (k:KC):Bool:=
 match an with
 | .seq x y=>prev nt a r x env ds Γ s (alB prev nt b r y Γ k)
 |_=>false
def condC (nt:Nat) (c:Operand) (a b:Code) (r:Option Nat) (an:CY) (env:AE) (ds:List Nat) (Γ:G9) (s:St) (k:KC):Bool:=
 match an with
 | .cond x y=>match evA env c with
  |some (.bool t)=>cond t (prev nt a r x env ds Γ s k) (prev nt b r y env ds Γ s k)
  |_=>false
 |_=>false
def akH (id:Nat) (k:KC):KC:=λe env' ds' s'=>
 match e with
 | .exit id'=>cond (Nat.beq id' id) (k .normal env' ds' s') (k (.exit id') env' ds' s')
 |e=>k e env' ds' s'
def aey (nt:Nat) (id:Nat) (a:Code) (r:Option Nat) (an:CY) (env:AE) (ds:List Nat) (Γ:G9) (s:St) (k:KC):Bool:=
 match an with
 | .blk x=>prev nt a r x env ds Γ s (akH id k)
 |_=>false
def af9 (k:KC):KC:=λe env' ds' s'=>
 match e with
 | .goto _=>false
 |e=>k e env' ds' s'
abbrev LpT:=AE->List Nat->St->Bool
def Q9 (nt:Nat) (a:Code) (r:Option Nat) (x:CY) (st:List (Nat×Kind)) (base:AE) (Γ:G9) (k:KC) (next:LpT):LpT:=λl ds s=>
 prev nt a r x (l++base) ds Γ s λe env' ds' s'=>match e with
  | .normal=>match YN st env' with
   |some l'=>next l' (cond (jH a) ds' ds) s'
   |none=>false
  |e=>k e env' ds' s'
def Ub (nt:Nat) (a:Code) (r:Option Nat) (x:CY) (st:List (Nat×Kind)) (base:AE) (Γ:G9) (k:KC) (n:Nat):LpT:=
 Nat.rec (motive:=λ_=>LpT) (λ_ _ _=>false) (λ_ next=>Q9 prev nt a r x st base Γ k next) n
def lpC (nt:Nat) (a:Code) (r:Option Nat) (an:CY) (env:AE) (ds:List Nat) (Γ:G9) (s:St) (k:KC):Bool:=
 match an with
 | .loop st x=>match YN st env with
  |some l=>Ub prev nt a r x st (AE.without (writes a) env) Γ k 1000000 l ds s
  |none=>false
 |_=>false
def rfC (nt:Nat) (g:Operand) (ps:List Nat) (assign body:Code) (r:Option Nat) (an:CY) (env:AE) (ds:List Nat) (Γ:G9) (s:St) (k:KC):Bool:=
 match an with
 | .rng ks x y=>cond (!jH assign && (Nat.beq ps.length ks.length && (Ew ps && ps.all λs=>Nat.blt s nt)))
   (match r with
    |none=>Dv s .mark λm s1=>adR P A prev nt g ps assign body ks x y env ds Γ (some m) s1 k
    |some l0=>match s.h.get l0 with
     |some (.loop _ _)=>adR P A prev nt g ps assign body ks x y env ds Γ none s k
     |_=>false) false
 |_=>false
def abM:RunT:=λnt c r an env ds Γ s k=>
 match c with
 | .skip=>k .normal env ds s
 | .label _=>k .normal env ds s
 | .ret=>k .ret env ds s
 | .exit id=>k (.exit id) env ds s
 | .region _ ops draw=>aie P A prev nt ops.toList draw env ds Γ s k
 | .seq a b=>af_ prev nt a b r an env ds Γ s k
 | .cond c a b=>condC prev nt c a b r an env ds Γ s k
 | .block id a=>aey prev nt id a r an env ds Γ s k
 | .scope a=>prev nt a r an env ds Γ s (af9 k)
 | .loop a=>lpC prev nt a r an env ds Γ s k
 | .rangeFunc g ps assign body=>rfC P A prev nt g ps.toList assign body r an env ds Γ s k
 |_=>false
end
def run (P:Program) (A:Tab) (n:Nat):RunT:=
 Nat.rec (motive:=λ_=>RunT) (λ_ _ _ _ _ _ _ _ _=>false) (λ_ prev=>abM P A prev) n
def alz (P:Program) (A:Tab) (n:Nat) (f:FuncId) (k:List AV->St->Bool):Bool:=Ak P A (run P A n) [] f [] ⟨.lf,0⟩ k
end
end Gp.Rn
end
section
namespace Go.Proofs
open Gp Gp.Rn
def anL:List (Nat×CY):=
 (3,(.seq .leaf (.seq (.seq .leaf (.cond (.seq .leaf .leaf) .leaf)) (.seq .leaf (.seq (.seq .leaf (.cond (.seq .leaf .leaf) .leaf)) (.seq (.seq .leaf (.blk (.loop [(41,(.int .i64))] (.seq .leaf (.seq (.cond .leaf .leaf) (.seq (.blk (.seq .leaf (.seq .leaf (.seq (.seq .leaf (.blk (.loop [(53,(.int .i64))] (.seq .leaf (.seq (.cond .leaf .leaf) (.seq (.blk (.seq .leaf (.seq .leaf (.cond (.seq .leaf .leaf) .leaf)))) .leaf)))))) (.seq .leaf (.cond (.seq .leaf .leaf) .leaf)))))) .leaf)))))) (.seq .leaf .leaf)))))))::
 (4,(.seq .leaf (.seq .leaf .leaf)))::
 (5,(.seq .leaf (.seq (.seq .leaf (.cond (.seq .leaf .leaf) .leaf)) (.seq .leaf .leaf))))::
 (6,(.seq .leaf (.seq .leaf (.seq .leaf (.seq (.seq .leaf (.cond (.seq .leaf .leaf) .leaf)) (.seq .leaf (.seq .leaf (.seq .leaf (.seq .leaf .leaf)))))))))::
 (7,(.seq .leaf (.seq .leaf (.seq (.seq .leaf (.cond (.seq .leaf .leaf) .leaf)) (.seq .leaf (.seq .leaf (.seq .leaf (.seq .leaf .leaf))))))))::
 (8,(.seq .leaf (.seq (.seq .leaf (.cond (.seq .leaf .leaf) .leaf)) (.seq .leaf (.seq (.seq .leaf (.cond (.seq .leaf .leaf) .leaf)) (.seq (.seq .leaf (.cond (.seq .leaf .leaf) .leaf)) (.seq .leaf (.seq (.seq .leaf (.cond (.seq .leaf .leaf) .leaf)) (.seq .leaf .leaf)))))))))::
 (9,(.seq .leaf (.seq (.seq .leaf (.cond (.seq .leaf .leaf) .leaf)) (.seq .leaf (.seq .leaf (.seq .leaf (.seq .leaf (.seq .leaf (.seq .leaf .leaf)))))))))::
 (10,(.seq .leaf (.seq .leaf .leaf)))::
 (11,(.seq .leaf (.seq (.seq .leaf (.cond (.seq .leaf .leaf) .leaf)) (.seq (.seq .leaf (.cond (.seq .leaf .leaf) .leaf)) (.seq .leaf .leaf)))))::
 (12,(.seq .leaf (.seq .leaf .leaf)))::
 (13,(.seq .leaf (.seq .leaf .leaf)))::
 (14,(.seq .leaf (.seq .leaf .leaf)))::
 (15,(.seq .leaf (.seq (.seq .leaf (.cond (.seq .leaf .leaf) .leaf)) (.seq .leaf (.seq (.blk (.seq .leaf (.cond (.seq .leaf .leaf) (.seq .leaf (.cond (.seq .leaf .leaf) (.seq .leaf (.cond (.seq .leaf .leaf) .leaf))))))) (.seq .leaf (.seq (.seq .leaf (.cond (.seq .leaf .leaf) .leaf)) (.seq .leaf (.seq (.seq .leaf (.cond (.seq .leaf .leaf) .leaf)) (.seq (.seq .leaf (.cond (.seq .leaf .leaf) .leaf)) (.seq .leaf (.seq (.seq .leaf (.cond (.seq .leaf .leaf) .leaf)) (.seq .leaf (.seq (.seq .leaf (.cond (.seq .leaf .leaf) .leaf)) (.seq .leaf .leaf)))))))))))))))::
 (16,(.seq .leaf (.seq .leaf (.seq .leaf (.seq .leaf .leaf)))))::
 (17,(.seq .leaf (.seq .leaf (.seq .leaf (.seq .leaf .leaf)))))::
 (18,(.seq .leaf (.seq (.seq .leaf (.seq .leaf (.cond (.seq .leaf .leaf) .leaf))) (.seq .leaf (.seq .leaf (.seq .leaf (.seq .leaf (.seq .leaf (.seq .leaf (.seq (.seq .leaf (.blk (.loop [(76,(.int .i64))] (.seq .leaf (.seq (.cond .leaf .leaf) (.seq (.blk (.seq .leaf .leaf)) .leaf)))))) (.seq .leaf .leaf)))))))))))::
 (19,(.seq .leaf (.seq .leaf .leaf)))::
 (20,(.seq .leaf (.seq .leaf (.seq (.seq .leaf (.cond (.seq .leaf .leaf) .leaf)) (.seq .leaf .leaf)))))::
 (21,(.seq .leaf (.seq .leaf .leaf)))::
 (22,(.seq .leaf (.seq .leaf (.seq (.seq .leaf (.cond (.seq .leaf .leaf) .leaf)) (.seq (.seq .leaf (.cond (.seq .leaf .leaf) .leaf)) (.seq .leaf (.seq (.seq .leaf (.cond (.seq .leaf .leaf) .leaf)) (.seq .leaf .leaf))))))))::
 (23,(.seq .leaf (.seq .leaf (.seq .leaf .leaf))))::
 (24,(.seq .leaf (.seq .leaf .leaf)))::
 (25,(.seq .leaf (.seq (.seq .leaf (.cond (.seq .leaf .leaf) .leaf)) (.seq .leaf (.seq .leaf (.seq .leaf (.seq (.seq .leaf (.cond (.seq .leaf .leaf) .leaf)) (.seq .leaf (.seq .leaf (.seq (.seq .leaf (.cond (.seq .leaf .leaf) .leaf)) (.seq .leaf .leaf)))))))))))::
 (26,(.seq .leaf (.seq .leaf (.seq (.seq .leaf (.cond (.seq .leaf .leaf) .leaf)) (.seq .leaf (.seq (.seq .leaf (.cond (.seq .leaf .leaf) .leaf)) (.seq .leaf .leaf)))))))::
 (27,(.seq .leaf (.seq (.seq .leaf (.cond (.seq .leaf .leaf) .leaf)) (.seq .leaf (.seq .leaf (.seq (.seq .leaf (.blk (.rng [.one (.int .i64),.agg [(.int .i64),(.int .i64),(.int .i64),(.int .i64),(.int .i64),(.int .i64),(.int .i64),.bool]] (.seq .leaf .leaf) (.blk (.seq .leaf .leaf))))) (.seq (.seq .leaf (.blk (.rng [.one (.int .i64),.agg [(.int .i64),(.int .i64),(.int .i64),(.int .i64),(.int .i64)]] .leaf (.blk (.seq .leaf .leaf))))) (.seq .leaf .leaf))))))))::
 (28,(.seq .leaf (.seq (.seq .leaf (.cond (.seq .leaf .leaf) .leaf)) (.seq .leaf .leaf))))::
 (29,(.seq .leaf (.seq (.seq .leaf (.cond (.seq .leaf .leaf) .leaf)) (.seq .leaf .leaf))))::
 (30,(.seq .leaf (.seq (.seq .leaf (.cond (.seq .leaf .leaf) .leaf)) (.seq .leaf .leaf))))::
 (31,(.seq .leaf (.seq .leaf (.seq .leaf (.seq .leaf (.seq .leaf .leaf))))))::
 (32,(.seq .leaf (.seq (.seq .leaf (.cond (.seq .leaf .leaf) .leaf)) (.seq (.seq .leaf (.blk (.loop [(3,(.int .i64))] (.seq (.seq .leaf (.cond .leaf .leaf)) (.seq (.blk (.seq .leaf (.cond (.seq .leaf .leaf) .leaf))) .leaf))))) (.seq (.seq .leaf (.blk (.loop [(4,(.int .i64))] (.seq (.seq .leaf (.cond .leaf .leaf)) (.seq (.blk (.seq .leaf (.cond (.seq .leaf .leaf) .leaf))) .leaf))))) (.seq (.seq .leaf (.blk (.loop [(5,(.int .i64))] (.seq (.seq .leaf (.cond .leaf .leaf)) (.seq (.blk (.seq .leaf (.cond (.seq .leaf .leaf) .leaf))) .leaf))))) (.seq .leaf .leaf)))))))::
 (33,(.seq .leaf (.seq (.seq .leaf (.blk (.loop [(3,(.int .i64))] (.seq (.seq .leaf (.cond .leaf .leaf)) (.seq (.blk (.seq (.seq .leaf (.blk (.loop [(4,(.int .i64))] (.seq (.seq .leaf (.cond .leaf .leaf)) (.seq (.blk (.seq .leaf (.cond (.seq .leaf .leaf) .leaf))) .leaf))))) (.seq .leaf (.cond (.seq .leaf .leaf) .leaf)))) .leaf))))) (.seq (.seq .leaf (.blk (.loop [(5,(.int .i64))] (.seq (.seq .leaf (.cond .leaf .leaf)) (.seq (.blk (.seq .leaf (.blk (.loop [(6,(.int .i64))] (.seq (.seq .leaf (.cond .leaf .leaf)) (.seq (.blk (.seq .leaf (.cond (.seq .leaf .leaf) .leaf))) .leaf)))))) .leaf))))) (.seq (.seq .leaf (.blk (.loop [(7,(.int .i64))] (.seq (.seq .leaf (.cond .leaf .leaf)) (.seq (.blk (.seq .leaf (.seq (.seq .leaf (.blk (.loop [(8,(.int .i64)),(9,(.int .i64))] (.seq (.seq .leaf (.cond .leaf .leaf)) (.seq (.blk (.seq (.seq .leaf (.cond (.seq .leaf .leaf) .leaf)) (.seq .leaf (.cond .leaf .leaf)))) .leaf))))) (.seq .leaf (.cond (.seq .leaf .leaf) .leaf))))) .leaf))))) (.seq .leaf .leaf))))))::
 (34,(.seq .leaf (.seq (.seq .leaf (.blk (.loop [(8,(.int .i64))] (.seq .leaf (.seq (.cond .leaf .leaf) (.seq (.blk (.seq .leaf (.seq .leaf (.cond (.seq .leaf .leaf) .leaf)))) .leaf)))))) (.seq .leaf .leaf))))::
 (35,(.seq .leaf (.seq .leaf (.seq (.seq .leaf (.blk (.loop [(4,(.int .i64))] (.seq (.seq .leaf (.cond .leaf .leaf)) (.seq (.blk (.seq .leaf .leaf)) .leaf))))) (.seq .leaf .leaf)))))::
 (36,(.seq .leaf (.seq .leaf .leaf)))::
 (37,(.seq .leaf (.seq .leaf (.seq (.seq .leaf (.cond (.seq .leaf .leaf) .leaf)) (.seq .leaf (.seq (.seq .leaf (.cond (.seq .leaf .leaf) .leaf)) (.seq .leaf (.seq (.seq .leaf (.cond (.seq .leaf .leaf) .leaf)) (.seq .leaf (.seq (.seq .leaf (.cond (.seq .leaf .leaf) .leaf)) (.seq .leaf .leaf)))))))))))::
 (38,(.seq .leaf (.seq .leaf (.seq .leaf .leaf))))::
 (39,(.seq .leaf (.seq (.seq .leaf (.cond (.seq .leaf .leaf) .leaf)) (.seq .leaf (.seq (.seq .leaf (.cond (.seq .leaf .leaf) .leaf)) (.seq .leaf (.seq (.seq .leaf (.cond (.seq .leaf .leaf) .leaf)) (.seq .leaf .leaf))))))))::
 (40,(.seq .leaf (.seq .leaf (.seq (.seq .leaf (.blk (.seq .leaf (.cond .leaf (.seq (.seq .leaf (.cond .leaf (.seq .leaf (.cond .leaf .leaf)))) (.cond (.seq .leaf .leaf) (.seq .leaf .leaf))))))) (.seq (.seq .leaf (.cond (.seq .leaf .leaf) .leaf)) (.seq .leaf (.seq (.seq .leaf (.cond (.seq .leaf .leaf) .leaf)) (.seq .leaf (.seq (.seq .leaf (.blk (.loop [(12,.slice),(87,(.int .i64))] (.seq .leaf (.seq (.cond .leaf .leaf) (.seq (.blk (.seq .leaf .leaf)) .leaf)))))) (.seq .leaf .leaf))))))))))::
 (41,(.seq .leaf (.seq .leaf (.seq .leaf (.seq (.seq .leaf (.seq .leaf (.cond (.seq .leaf .leaf) .leaf))) (.seq .leaf .leaf))))))::
 (42,(.seq .leaf (.seq (.seq .leaf (.seq .leaf (.cond (.seq .leaf .leaf) .leaf))) (.seq .leaf (.seq .leaf (.seq .leaf (.seq .leaf (.seq .leaf .leaf))))))))::
 (43,(.seq .leaf (.seq (.seq .leaf (.seq .leaf (.cond (.seq .leaf .leaf) .leaf))) (.seq .leaf (.seq (.seq .leaf (.cond (.seq .leaf .leaf) .leaf)) (.seq .leaf (.seq (.seq .leaf (.cond .leaf .leaf)) (.seq .leaf .leaf))))))))::
 (44,(.seq .leaf (.seq (.seq .leaf (.seq .leaf (.cond (.seq .leaf .leaf) .leaf))) (.seq .leaf (.seq .leaf .leaf)))))::
 (45,(.seq .leaf (.seq (.seq .leaf (.blk (.loop [(8,(.int .i64))] (.seq .leaf (.seq (.cond .leaf .leaf) (.seq (.blk (.seq .leaf (.seq .leaf (.cond (.seq .leaf .leaf) .leaf)))) .leaf)))))) (.seq (.seq .leaf (.cond (.seq .leaf .leaf) .leaf)) (.seq (.seq .leaf (.cond (.seq .leaf .leaf) .leaf)) (.seq .leaf .leaf))))))::
 (46,(.seq .leaf (.seq (.seq .leaf (.cond (.seq .leaf .leaf) .leaf)) (.seq (.seq .leaf (.blk (.loop [(33,(.int .i64))] (.seq .leaf (.seq (.cond .leaf .leaf) (.seq (.blk (.seq .leaf (.seq .leaf (.cond (.seq .leaf .leaf) .leaf)))) .leaf)))))) (.seq .leaf .leaf)))))::
 (47,(.seq .leaf (.seq (.seq .leaf (.cond (.seq .leaf .leaf) .leaf)) (.seq .leaf (.seq (.seq .leaf (.blk (.loop [(31,(.int .i64))] (.seq .leaf (.seq (.cond .leaf .leaf) (.seq (.blk (.seq .leaf .leaf)) .leaf)))))) (.seq .leaf .leaf))))))::
 (48,(.seq .leaf (.seq (.seq .leaf (.cond (.seq .leaf .leaf) .leaf)) (.seq .leaf (.seq .leaf (.seq (.seq .leaf (.cond (.seq .leaf .leaf) .leaf)) (.seq .leaf .leaf)))))))::
 (49,(.seq .leaf (.seq (.seq .leaf (.cond (.seq .leaf .leaf) .leaf)) (.seq .leaf (.seq (.seq .leaf (.cond (.seq .leaf .leaf) .leaf)) (.seq .leaf .leaf))))))::
 (50,(.seq .leaf (.seq (.seq .leaf (.cond (.seq .leaf .leaf) .leaf)) (.seq .leaf .leaf))))::
 (51,(.seq .leaf (.seq (.seq .leaf (.cond (.seq .leaf .leaf) .leaf)) (.seq (.seq .leaf (.cond (.seq .leaf .leaf) .leaf)) (.seq .leaf (.seq .leaf (.seq (.blk (.seq (.seq .leaf (.cond .leaf .leaf)) (.cond (.seq .leaf .leaf) (.seq .leaf (.cond (.seq .leaf .leaf) (.seq .leaf (.cond (.seq .leaf .leaf) .leaf))))))) (.seq .leaf (.seq .leaf (.seq .leaf (.seq .leaf .leaf)))))))))))::
 (52,(.seq .leaf (.seq .leaf .leaf)))::
 (53,(.seq .leaf (.seq (.seq .leaf (.cond (.seq .leaf .leaf) .leaf)) (.seq .leaf (.seq .leaf (.seq (.blk (.seq (.seq .leaf (.cond .leaf .leaf)) (.cond (.seq .leaf .leaf) (.seq (.seq .leaf (.cond .leaf .leaf)) (.cond (.seq .leaf .leaf) (.seq (.seq .leaf (.cond .leaf .leaf)) (.cond (.seq .leaf .leaf) .leaf))))))) (.seq .leaf .leaf)))))))::
 (54,(.seq .leaf (.seq .leaf .leaf)))::
 (55,(.seq .leaf (.seq .leaf (.seq .leaf (.seq .leaf (.seq .leaf (.seq .leaf (.seq .leaf .leaf))))))))::
 (56,(.seq .leaf (.seq .leaf (.seq .leaf (.seq .leaf (.seq .leaf (.seq (.seq .leaf (.cond (.seq .leaf .leaf) .leaf)) (.seq (.seq .leaf (.cond (.seq .leaf .leaf) .leaf)) (.seq .leaf .leaf)))))))))::
 (57,(.seq .leaf (.seq (.seq .leaf (.cond (.seq .leaf .leaf) .leaf)) (.seq .leaf (.seq .leaf .leaf)))))::
 (58,(.seq .leaf (.seq .leaf .leaf)))::
 (59,(.seq .leaf (.seq .leaf .leaf)))::
 (60,(.seq .leaf (.seq .leaf .leaf)))::
 (61,(.seq .leaf (.seq (.seq .leaf (.cond (.seq .leaf .leaf) .leaf)) (.seq .leaf (.seq (.seq .leaf (.cond (.seq .leaf .leaf) .leaf)) (.seq (.seq .leaf (.cond (.seq .leaf .leaf) .leaf)) (.seq (.seq .leaf (.seq .leaf (.cond (.seq .leaf (.seq .leaf .leaf)) .leaf))) (.seq (.seq .leaf (.cond .leaf .leaf)) (.seq .leaf (.seq (.seq .leaf (.cond (.seq .leaf (.seq .leaf .leaf)) .leaf)) (.seq .leaf (.seq .leaf .leaf))))))))))))::
 (62,(.seq .leaf (.seq .leaf (.seq (.seq .leaf (.blk (.loop [(5,.slice),(17,(.int .i64))] (.seq .leaf (.seq (.cond .leaf .leaf) (.seq (.blk (.seq .leaf .leaf)) .leaf)))))) (.seq .leaf .leaf)))))::
 (63,(.seq .leaf (.seq .leaf (.seq .leaf .leaf))))::
 (64,(.seq .leaf (.seq (.seq .leaf (.blk (.seq .leaf (.cond (.seq .leaf .leaf) (.seq .leaf (.cond (.seq .leaf .leaf) (.seq .leaf (.cond (.seq .leaf .leaf) .leaf)))))))) (.seq .leaf .leaf))))::
 (65,(.seq .leaf (.seq (.seq .leaf (.cond (.seq .leaf .leaf) .leaf)) (.seq .leaf (.seq .leaf (.seq .leaf .leaf))))))::
 (66,(.seq .leaf (.seq .leaf (.seq .leaf .leaf))))::
 (67,(.seq .leaf (.seq (.seq .leaf (.cond (.seq .leaf .leaf) .leaf)) (.seq .leaf (.seq (.seq .leaf (.cond (.seq .leaf .leaf) .leaf)) (.seq .leaf .leaf))))))::
 (68,(.seq .leaf (.seq (.seq .leaf (.cond (.seq .leaf .leaf) .leaf)) (.seq (.seq .leaf (.seq .leaf (.cond (.seq .leaf .leaf) .leaf))) (.seq .leaf (.seq (.seq .leaf (.cond (.seq .leaf .leaf) .leaf)) (.seq .leaf (.seq (.seq .leaf (.cond (.seq .leaf .leaf) .leaf)) (.seq .leaf (.seq .leaf (.seq (.seq .leaf (.cond (.seq .leaf .leaf) .leaf)) (.seq (.seq .leaf (.seq .leaf (.cond (.seq .leaf .leaf) .leaf))) (.seq .leaf (.seq .leaf .leaf))))))))))))))::
 (69,(.seq .leaf (.seq .leaf (.seq (.seq .leaf (.cond (.seq .leaf .leaf) .leaf)) (.seq .leaf (.seq (.seq .leaf (.cond (.seq .leaf .leaf) .leaf)) (.seq (.seq .leaf (.cond .leaf .leaf)) (.seq .leaf (.seq (.seq .leaf (.blk (.loop [(10,.slice),(71,(.int .i64))] (.seq .leaf (.seq (.cond .leaf .leaf) (.seq (.blk (.seq .leaf (.seq .leaf .leaf))) .leaf)))))) (.seq .leaf .leaf))))))))))::
 (70,(.seq .leaf (.seq (.seq .leaf (.cond (.seq .leaf .leaf) .leaf)) (.seq .leaf .leaf))))::
 (71,(.seq .leaf (.seq (.seq .leaf (.cond (.seq .leaf .leaf) .leaf)) (.seq .leaf .leaf))))::
 (72,(.seq .leaf (.seq .leaf .leaf)))::
 (73,(.seq .leaf (.seq .leaf .leaf)))::
 (74,(.seq .leaf (.seq .leaf .leaf)))::
 (75,(.seq .leaf (.seq .leaf (.seq (.seq .leaf (.blk (.loop [(3,(.int .i64))] (.seq .leaf (.seq (.cond .leaf .leaf) (.blk (.seq .leaf .leaf))))))) (.seq .leaf .leaf)))))::
 (76,(.seq .leaf (.seq (.seq .leaf (.cond (.seq .leaf .leaf) .leaf)) (.seq .leaf .leaf))))::
 (77,(.seq .leaf (.seq .leaf .leaf)))::
 (78,(.seq .leaf (.seq .leaf .leaf)))::
 (79,(.seq .leaf (.seq .leaf .leaf)))::
 (80,(.seq .leaf (.seq .leaf (.seq .leaf (.seq .leaf .leaf)))))::
 (81,(.seq .leaf (.seq (.seq .leaf (.cond (.seq .leaf .leaf) .leaf)) (.seq .leaf (.seq .leaf (.seq (.blk (.seq .leaf (.cond (.seq .leaf .leaf) (.seq .leaf (.cond (.seq .leaf .leaf) .leaf))))) (.seq .leaf (.seq .leaf (.seq .leaf (.seq .leaf (.seq .leaf .leaf)))))))))))::
 (82,(.seq .leaf (.seq (.blk (.seq .leaf (.cond (.seq .leaf .leaf) (.seq .leaf (.cond (.seq .leaf .leaf) (.seq .leaf (.cond (.seq .leaf .leaf) .leaf))))))) (.seq .leaf (.seq .leaf .leaf)))))::
 (83,(.seq .leaf (.seq .leaf (.seq (.seq .leaf (.cond (.seq .leaf .leaf) .leaf)) (.seq .leaf (.seq (.seq .leaf (.cond (.seq .leaf .leaf) .leaf)) (.seq .leaf .leaf)))))))::
 (84,(.seq .leaf (.seq .leaf .leaf)))::
 (85,(.seq .leaf (.seq .leaf .leaf)))::
 (86,(.seq .leaf (.seq (.seq .leaf (.blk (.loop [(8,(.int .i64))] (.seq .leaf (.seq (.cond .leaf .leaf) (.seq (.blk (.seq .leaf (.seq .leaf (.cond (.seq .leaf .leaf) .leaf)))) .leaf)))))) (.seq .leaf .leaf))))::
 (87,(.seq .leaf (.seq (.seq .leaf (.cond (.seq .leaf .leaf) .leaf)) (.seq .leaf (.seq .leaf .leaf)))))::
 (88,(.seq .leaf (.seq .leaf .leaf)))::
 (89,(.seq .leaf (.seq (.seq .leaf (.cond (.seq .leaf .leaf) .leaf)) (.seq (.seq .leaf (.seq .leaf (.cond (.seq .leaf .leaf) .leaf))) (.seq .leaf (.seq (.seq .leaf (.cond (.seq .leaf .leaf) .leaf)) (.seq .leaf (.seq .leaf (.seq .leaf (.seq (.seq .leaf (.cond (.seq .leaf .leaf) .leaf)) (.seq .leaf (.seq .leaf (.seq .leaf (.seq .leaf .leaf))))))))))))))::
 (90,(.seq .leaf (.seq .leaf (.seq (.seq .leaf (.cond (.seq .leaf .leaf) .leaf)) (.seq .leaf .leaf)))))::
 (91,(.seq .leaf (.seq (.seq .leaf (.cond (.seq .leaf .leaf) .leaf)) (.seq (.seq .leaf (.seq .leaf (.cond (.seq .leaf .leaf) .leaf))) (.seq (.seq .leaf (.cond (.seq .leaf (.seq .leaf .leaf)) .leaf)) (.seq (.seq .leaf (.cond (.seq .leaf .leaf) .leaf)) (.seq .leaf .leaf)))))))::
 (92,(.seq .leaf (.seq (.seq .leaf (.cond (.seq .leaf .leaf) .leaf)) (.seq .leaf .leaf))))::
 (93,(.seq .leaf (.seq (.blk (.seq (.seq .leaf (.cond .leaf (.seq .leaf (.cond .leaf .leaf)))) (.cond (.seq .leaf .leaf) (.seq (.seq .leaf (.cond .leaf .leaf)) (.cond (.seq .leaf .leaf) (.seq .leaf (.cond (.seq .leaf .leaf) .leaf))))))) (.seq .leaf .leaf))))::
 (94,(.seq .leaf (.seq .leaf (.seq (.seq .leaf (.cond (.seq .leaf .leaf) .leaf)) (.seq .leaf .leaf)))))::
 (95,(.seq .leaf (.seq .leaf (.seq (.seq .leaf (.blk (.loop [(3,(.int .i64)),(11,(.int .i64))] (.seq .leaf (.seq (.cond .leaf .leaf) (.seq (.blk (.seq .leaf (.seq .leaf (.seq .leaf (.cond .leaf .leaf))))) .leaf)))))) (.seq .leaf (.seq (.seq .leaf (.blk (.loop [(6,.slice),(27,(.int .i64))] (.seq .leaf (.seq (.cond .leaf .leaf) (.seq (.blk (.seq .leaf .leaf)) .leaf)))))) (.seq .leaf .leaf)))))))::
 (96,(.seq .leaf (.seq (.seq .leaf (.cond (.seq .leaf .leaf) .leaf)) (.seq (.seq .leaf (.cond (.seq .leaf .leaf) .leaf)) (.seq .leaf .leaf)))))::
 (97,(.seq .leaf (.seq .leaf (.seq .leaf (.seq .leaf .leaf)))))::
 (98,(.seq .leaf (.seq .leaf .leaf)))::
 (99,(.seq .leaf (.seq .leaf (.seq .leaf .leaf))))::
 (100,(.seq .leaf (.seq .leaf (.seq .leaf (.seq .leaf (.seq (.seq .leaf (.cond (.seq .leaf .leaf) .leaf)) (.seq (.seq .leaf (.cond (.seq .leaf .leaf) .leaf)) (.seq .leaf .leaf))))))))::
 (101,(.seq .leaf (.seq .leaf (.seq (.seq .leaf (.cond .leaf .leaf)) (.seq (.seq .leaf (.cond .leaf .leaf)) (.seq .leaf (.seq .leaf (.seq .leaf (.seq .leaf (.seq .leaf .leaf))))))))))::
 (102,(.seq .leaf (.seq .leaf .leaf)))::
 (103,(.seq .leaf (.seq .leaf .leaf)))::
 (104,(.seq .leaf (.seq .leaf .leaf)))::
 (105,(.seq .leaf (.seq .leaf .leaf)))::
 (106,(.seq .leaf (.seq .leaf (.seq .leaf (.seq .leaf (.seq (.blk (.seq (.seq .leaf (.cond .leaf .leaf)) (.cond (.seq .leaf .leaf) (.seq (.seq .leaf (.cond .leaf .leaf)) (.cond (.seq .leaf .leaf) .leaf))))) (.seq .leaf .leaf)))))))::
 (107,(.seq .leaf (.seq .leaf (.seq .leaf (.seq .leaf (.seq (.seq .leaf (.cond (.seq .leaf .leaf) .leaf)) (.seq .leaf (.seq (.seq .leaf (.blk (.loop [(46,(.int .i64))] (.seq .leaf (.seq (.cond .leaf .leaf) (.seq (.blk (.seq .leaf .leaf)) .leaf)))))) (.seq .leaf .leaf)))))))))::
 (108,(.seq .leaf (.seq (.seq .leaf (.cond (.seq .leaf .leaf) .leaf)) (.seq .leaf .leaf))))::
 (109,(.seq .leaf (.seq .leaf .leaf)))::
 (110,(.seq .leaf (.seq (.seq .leaf (.cond (.seq .leaf .leaf) .leaf)) (.seq .leaf .leaf))))::
 (111,(.seq .leaf (.seq (.seq .leaf (.blk (.seq (.seq .leaf (.cond .leaf (.seq .leaf (.cond .leaf .leaf)))) (.cond .leaf (.seq .leaf .leaf))))) (.seq .leaf (.seq .leaf .leaf)))))::
 (112,(.seq .leaf (.seq (.seq .leaf (.cond (.seq .leaf .leaf) .leaf)) (.seq .leaf .leaf))))::
 (113,(.seq .leaf (.seq (.seq .leaf (.cond (.seq .leaf .leaf) .leaf)) (.seq .leaf .leaf))))::
 (114,(.seq .leaf (.seq .leaf (.seq (.seq .leaf (.cond (.seq .leaf .leaf) .leaf)) (.seq .leaf .leaf)))))::
 (115,(.seq .leaf (.seq .leaf .leaf)))::
 (116,(.seq .leaf (.seq .leaf (.seq (.seq .leaf (.cond (.seq .leaf .leaf) .leaf)) (.seq (.seq .leaf (.cond (.seq .leaf .leaf) .leaf)) (.seq .leaf (.seq .leaf .leaf)))))))::
 (117,(.seq .leaf (.seq (.blk (.seq .leaf (.cond (.seq .leaf .leaf) (.seq (.seq .leaf (.cond .leaf (.seq .leaf (.cond .leaf (.seq .leaf (.cond .leaf .leaf)))))) (.cond (.seq .leaf .leaf) (.seq .leaf (.cond (.seq .leaf .leaf) .leaf))))))) (.seq .leaf (.seq .leaf .leaf)))))::
 (118,(.seq .leaf (.seq (.seq .leaf (.cond (.seq .leaf .leaf) .leaf)) (.seq .leaf (.seq .leaf (.seq (.seq .leaf (.cond (.seq .leaf .leaf) .leaf)) (.seq .leaf (.seq (.seq .leaf (.cond (.seq .leaf .leaf) .leaf)) (.seq .leaf (.seq .leaf (.seq .leaf (.seq .leaf (.seq .leaf .leaf)))))))))))))::
 (119,(.seq .leaf (.seq .leaf (.seq .leaf .leaf))))::
 (120,(.seq .leaf (.seq .leaf .leaf)))::
 (121,(.seq .leaf (.seq .leaf .leaf)))::
 (122,(.seq .leaf (.seq .leaf .leaf)))::
 (123,(.seq .leaf (.seq .leaf .leaf)))::
 (124,(.seq .leaf (.seq .leaf .leaf)))::
 (125,(.seq .leaf (.seq .leaf .leaf)))::
 (126,(.seq .leaf (.seq .leaf .leaf)))::
 (127,(.seq .leaf (.seq (.seq .leaf (.seq .leaf (.cond (.seq .leaf .leaf) .leaf))) (.seq (.seq .leaf (.cond (.seq .leaf .leaf) .leaf)) (.seq .leaf (.seq .leaf .leaf))))))::
 (128,(.seq .leaf (.seq (.seq .leaf (.cond (.seq .leaf .leaf) .leaf)) (.seq .leaf .leaf))))::
 (129,(.seq .leaf (.seq (.seq .leaf (.cond (.seq .leaf .leaf) .leaf)) (.seq .leaf (.seq (.seq .leaf (.seq .leaf (.cond (.seq .leaf .leaf) .leaf))) (.seq (.blk (.seq .leaf (.cond (.seq .leaf .leaf) (.seq .leaf (.cond (.seq .leaf .leaf) (.seq .leaf (.cond (.seq .leaf .leaf) .leaf))))))) (.seq .leaf (.seq .leaf (.seq .leaf (.seq .leaf (.seq (.seq .leaf (.cond .leaf .leaf)) (.seq .leaf .leaf))))))))))))::
 (130,(.seq .leaf (.seq (.seq .leaf (.cond (.seq .leaf .leaf) .leaf)) (.seq (.seq .leaf (.blk (.rng [.one (.int .i64),.one (.int .i64)] .leaf (.blk (.seq .leaf .leaf))))) (.seq .leaf (.seq (.seq .leaf (.blk (.loop [(4,.slice),(31,(.int .i64))] (.seq .leaf (.seq (.cond .leaf .leaf) (.seq (.blk (.seq .leaf .leaf)) .leaf)))))) (.seq .leaf .leaf)))))))::
 (131,(.seq .leaf (.seq (.seq .leaf (.seq .leaf (.cond (.seq .leaf .leaf) .leaf))) (.seq .leaf (.seq (.seq .leaf (.blk (.loop [(5,.slice),(16,(.int .i64))] (.seq .leaf (.seq (.cond .leaf .leaf) (.seq (.blk (.seq .leaf .leaf)) .leaf)))))) (.seq .leaf (.seq .leaf (.seq .leaf .leaf))))))))::
 (132,(.seq .leaf (.seq .leaf (.seq (.seq .leaf (.cond (.seq .leaf .leaf) .leaf)) (.seq .leaf (.seq .leaf (.seq (.seq .leaf (.cond (.seq .leaf .leaf) .leaf)) (.seq .leaf (.seq (.seq .leaf (.cond (.seq .leaf .leaf) .leaf)) (.seq .leaf .leaf))))))))))::
 (133,(.seq .leaf (.seq .leaf .leaf)))::
 (134,(.seq .leaf (.seq (.seq .leaf (.cond (.seq .leaf .leaf) .leaf)) (.seq .leaf (.seq .leaf .leaf)))))::
 (135,(.seq .leaf (.seq .leaf (.seq (.seq .leaf (.cond (.seq .leaf .leaf) .leaf)) (.seq .leaf (.seq (.seq .leaf (.cond (.seq .leaf .leaf) .leaf)) (.seq .leaf (.seq .leaf (.seq .leaf (.seq .leaf .leaf))))))))))::
 (136,(.seq .leaf (.seq .leaf (.seq (.seq .leaf (.cond (.seq .leaf .leaf) .leaf)) (.seq .leaf .leaf)))))::
 (137,(.seq .leaf (.seq (.seq .leaf (.cond (.seq .leaf .leaf) .leaf)) (.seq .leaf .leaf))))::
 (138,(.seq .leaf (.seq (.seq .leaf (.cond (.seq .leaf .leaf) .leaf)) (.seq .leaf .leaf))))::
 (139,(.seq .leaf (.seq (.seq .leaf (.cond (.seq .leaf .leaf) .leaf)) (.seq .leaf (.seq (.seq .leaf (.cond (.seq .leaf .leaf) .leaf)) (.seq .leaf .leaf))))))::
 (140,(.seq .leaf (.seq (.seq .leaf (.cond .leaf .leaf)) (.seq .leaf .leaf))))::
 (141,(.seq .leaf (.seq (.seq .leaf (.blk (.seq .leaf (.cond (.seq .leaf .leaf) (.seq .leaf (.cond (.seq .leaf .leaf) (.seq .leaf (.cond (.seq .leaf .leaf) .leaf)))))))) (.seq .leaf .leaf))))::
 (142,(.seq .leaf (.seq .leaf (.seq (.seq .leaf (.blk (.rng [.one (.int .i64),.agg [(.int .i64),(.int .i64),(.int .i64),(.int .i64),(.int .i64)]] .leaf (.blk .leaf)))) (.seq .leaf .leaf)))))::
 (143,(.seq .leaf (.seq (.seq .leaf (.cond (.seq .leaf .leaf) .leaf)) (.seq .leaf (.seq (.blk (.seq .leaf (.cond (.seq .leaf .leaf) (.seq .leaf (.cond (.seq .leaf .leaf) .leaf))))) (.seq .leaf (.seq .leaf .leaf)))))))::
 (144,(.seq .leaf (.seq .leaf .leaf)))::
 (145,(.seq .leaf (.seq (.seq .leaf (.cond (.seq .leaf .leaf) .leaf)) (.seq (.seq .leaf (.seq .leaf (.cond (.seq .leaf .leaf) .leaf))) (.seq (.seq .leaf (.cond (.seq .leaf (.seq .leaf .leaf)) .leaf)) (.seq .leaf (.seq (.seq .leaf (.blk (.rng [.agg [(.int .i64),(.int .i64),(.int .i64),.bool],.one .slice] (.seq .leaf .leaf) (.blk (.seq .leaf (.seq .leaf (.seq (.seq .leaf (.cond (.seq .leaf .leaf) .leaf)) (.seq .leaf (.seq .leaf .leaf))))))))) (.seq .leaf .leaf))))))))::
 (146,(.seq .leaf (.seq .leaf (.seq (.seq .leaf (.cond (.seq .leaf .leaf) .leaf)) (.seq (.seq .leaf (.seq .leaf (.cond (.seq .leaf .leaf) .leaf))) (.seq .leaf (.seq (.seq .leaf (.seq .leaf (.cond .leaf .leaf))) (.seq .leaf .leaf))))))))::
 (147,(.seq .leaf (.seq .leaf .leaf)))::
 (148,(.seq (.seq .leaf (.cond .leaf .leaf)) (.seq .leaf (.blk (.loop [(13,(.int .i64))] (.seq .leaf (.seq (.cond .leaf .leaf) (.seq (.blk (.seq .leaf (.seq .leaf (.cond .leaf .leaf)))) .leaf))))))))::
 (149,(.seq .leaf (.seq .leaf .leaf)))::
 (150,(.seq (.seq .leaf (.cond .leaf .leaf)) (.seq .leaf (.blk (.loop [(13,(.int .i64))] (.seq .leaf (.seq (.cond .leaf .leaf) (.seq (.blk (.seq .leaf (.seq .leaf (.cond .leaf .leaf)))) .leaf))))))))::
 (151,(.seq .leaf (.seq .leaf .leaf)))::
 (152,(.seq .leaf (.seq (.seq .leaf (.cond (.seq .leaf .leaf) .leaf)) (.seq .leaf .leaf))))::
 (153,(.seq .leaf (.seq (.seq .leaf (.blk (.loop [(5,(.int .i64))] (.seq (.seq .leaf (.cond .leaf .leaf)) (.seq (.blk (.seq .leaf (.cond (.seq .leaf .leaf) .leaf))) .leaf))))) (.seq .leaf .leaf))))::
 (154,(.seq .leaf (.seq .leaf (.seq .leaf (.seq (.seq .leaf (.blk (.loop [(10,(.int .i64)),(22,(.int .i64))] (.seq .leaf (.seq (.cond .leaf .leaf) (.seq (.blk (.seq .leaf .leaf)) .leaf)))))) (.seq .leaf .leaf))))))::
 (155,(.seq .leaf (.seq .leaf .leaf)))::
 (156,(.seq .leaf (.seq (.seq .leaf (.blk (.seq .leaf (.cond (.seq .leaf (.seq (.seq .leaf (.cond .leaf .leaf)) (.seq .leaf .leaf))) (.seq (.seq .leaf (.cond .leaf (.seq .leaf (.cond .leaf .leaf)))) (.cond (.seq .leaf .leaf) .leaf)))))) (.seq .leaf .leaf))))::
 (157,(.seq .leaf (.seq .leaf (.seq (.seq .leaf (.cond (.seq .leaf .leaf) .leaf)) (.seq (.seq .leaf (.cond (.seq .leaf .leaf) .leaf)) (.seq .leaf (.seq (.seq .leaf (.cond (.seq .leaf .leaf) .leaf)) (.seq .leaf (.seq (.seq .leaf (.cond (.seq .leaf .leaf) .leaf)) (.seq (.seq .leaf (.cond (.seq .leaf .leaf) .leaf)) (.seq .leaf .leaf)))))))))))::
 (158,(.seq .leaf (.seq (.seq .leaf (.cond (.seq .leaf .leaf) .leaf)) (.seq .leaf (.seq .leaf (.seq .leaf (.seq .leaf .leaf)))))))::
 (159,(.seq .leaf (.seq .leaf .leaf)))::
 (160,(.seq .leaf (.seq .leaf (.seq (.seq .leaf (.cond (.seq .leaf .leaf) .leaf)) (.seq .leaf (.seq (.seq .leaf (.cond (.seq .leaf .leaf) .leaf)) (.seq .leaf (.seq .leaf (.seq .leaf (.seq .leaf .leaf))))))))))::
 (161,(.seq .leaf (.seq .leaf (.seq .leaf (.seq .leaf (.seq .leaf (.seq (.blk (.seq .leaf (.cond (.seq .leaf .leaf) (.seq .leaf (.cond (.seq .leaf .leaf) (.seq .leaf (.cond (.seq .leaf .leaf) .leaf))))))) (.seq (.seq .leaf (.cond (.seq .leaf (.seq (.seq .leaf (.cond (.seq .leaf .leaf) .leaf)) .leaf)) .leaf)) (.seq .leaf (.seq .leaf .leaf))))))))))::
 (162,(.seq .leaf (.seq (.seq .leaf (.cond (.seq .leaf .leaf) .leaf)) (.seq (.seq .leaf (.cond .leaf .leaf)) (.seq .leaf (.seq .leaf (.seq (.seq .leaf (.cond .leaf .leaf)) (.seq .leaf (.seq (.seq .leaf (.cond .leaf .leaf)) (.seq .leaf .leaf))))))))))::
 (163,(.seq .leaf (.seq .leaf (.seq (.seq .leaf (.cond .leaf .leaf)) .leaf))))::
 (164,(.seq .leaf (.seq .leaf .leaf)))::
 (165,(.seq .leaf (.seq .leaf .leaf)))::
 (166,(.seq .leaf (.seq .leaf .leaf)))::
 (167,(.seq .leaf (.seq (.seq .leaf (.blk (.rng [.one (.int .u8)] .leaf (.blk .leaf)))) (.seq .leaf .leaf))))::
 (168,(.seq .leaf (.seq .leaf .leaf)))::
 (169,(.seq .leaf (.seq (.seq .leaf (.cond .leaf .leaf)) (.seq (.seq .leaf (.seq .leaf (.cond .leaf .leaf))) (.seq .leaf .leaf)))))::
 (170,(.seq .leaf (.seq .leaf .leaf)))::
 (171,(.seq .leaf (.seq .leaf (.seq (.seq .leaf (.cond (.seq .leaf .leaf) .leaf)) (.seq (.seq .leaf (.blk (.loop [(7,.slice),(8,(.int .i64))] (.seq (.seq .leaf (.cond .leaf .leaf)) (.seq (.blk .leaf) .leaf))))) (.seq .leaf .leaf))))))::
 (172,(.seq .leaf (.seq .leaf (.seq (.seq .leaf (.blk (.loop [(3,(.int .i64)),(4,(.int .i64))] (.seq (.seq .leaf (.cond .leaf .leaf)) (.seq (.blk (.seq .leaf (.blk (.loop [(3,(.int .i64)),(5,(.int .i64))] (.seq (.seq .leaf (.cond .leaf .leaf)) (.seq (.blk .leaf) .leaf)))))) .leaf))))) (.seq .leaf .leaf)))))::
 (173,(.seq .leaf (.seq .leaf .leaf)))::
 (174,(.seq .leaf (.seq .leaf .leaf)))::
 (175,(.seq .leaf (.seq .leaf .leaf)))::
 (176,(.seq .leaf (.seq .leaf .leaf)))::
 (177,(.seq .leaf (.seq .leaf (.seq .leaf .leaf))))::
 (178,(.seq .leaf (.seq .leaf .leaf)))::
 (179,(.seq .leaf (.seq .leaf .leaf)))::
 (180,(.seq .leaf (.seq .leaf (.seq .leaf (.seq .leaf (.seq .leaf .leaf))))))::
 (181,(.seq .leaf (.seq .leaf .leaf)))::
 (182,(.seq .leaf (.seq .leaf .leaf)))::
 (183,(.seq .leaf (.seq .leaf .leaf)))::
 (184,(.seq .leaf (.seq (.seq .leaf (.cond (.seq .leaf .leaf) .leaf)) (.seq .leaf .leaf))))::
 (185,(.seq .leaf (.seq .leaf .leaf)))::
 (186,(.seq .leaf (.seq .leaf .leaf)))::
 (187,(.seq .leaf (.seq .leaf (.seq (.seq .leaf (.blk (.rng [.agg [(.int .u8),(.int .u8),(.int .u8),(.int .u8),(.int .u8),(.int .u8),(.int .u8),(.int .u8),(.int .u8),(.int .u8),(.int .u8),(.int .u8),(.int .u8),(.int .u8),(.int .u8),(.int .u8)]] .leaf (.blk (.seq (.seq .leaf (.cond (.seq .leaf .leaf) .leaf)) .leaf))))) (.seq .leaf .leaf)))))::
 (188,(.seq .leaf (.seq .leaf .leaf)))::
 (189,(.seq .leaf (.seq .leaf .leaf)))::
 (190,(.seq .leaf (.seq .leaf (.seq (.seq .leaf (.blk (.rng [.one (.int .i64)] .leaf (.blk (.seq (.seq .leaf (.cond (.seq .leaf .leaf) .leaf)) .leaf))))) (.seq .leaf .leaf)))))::
 (191,(.seq .leaf (.seq .leaf .leaf)))::
 (192,(.seq .leaf (.seq .leaf .leaf)))::
 (193,(.seq .leaf (.seq .leaf (.seq (.seq .leaf (.blk (.rng [.agg [(.int .i64),(.int .i64),(.int .i64),(.int .i64)]] .leaf (.blk (.seq (.seq .leaf (.cond (.seq .leaf .leaf) .leaf)) .leaf))))) (.seq .leaf .leaf)))))::
 (194,(.seq .leaf (.seq .leaf .leaf)))::
 (195,(.seq .leaf (.seq .leaf (.seq (.seq .leaf (.blk (.rng [.agg [(.int .i64),(.int .i64),(.int .i64)]] .leaf (.blk (.seq (.seq .leaf (.cond (.seq .leaf .leaf) .leaf)) .leaf))))) (.seq .leaf .leaf)))))::
 (196,(.seq .leaf (.seq .leaf .leaf)))::
 (197,(.seq .leaf (.seq .leaf .leaf)))::
 (198,(.seq .leaf (.seq (.seq .leaf (.blk (.loop [(9,(.int .i64))] (.seq .leaf (.seq (.cond .leaf .leaf) (.seq (.blk (.seq .leaf (.seq .leaf (.cond (.seq .leaf .leaf) .leaf)))) .leaf)))))) (.seq .leaf .leaf))))::
 (199,(.seq .leaf (.seq (.seq .leaf (.blk (.loop [(8,(.int .i64))] (.seq .leaf (.seq (.cond .leaf .leaf) (.seq (.blk (.seq .leaf (.seq .leaf (.cond (.seq .leaf .leaf) .leaf)))) .leaf)))))) (.seq .leaf .leaf))))::
 (200,(.seq .leaf (.seq .leaf .leaf)))::
 (201,(.seq .leaf (.seq (.seq .leaf (.cond (.seq .leaf .leaf) .leaf)) (.seq .leaf (.seq (.seq .leaf (.cond (.seq .leaf .leaf) .leaf)) (.seq .leaf .leaf))))))::
 (202,(.seq .leaf (.seq .leaf .leaf)))::
 (203,(.seq .leaf (.seq .leaf .leaf)))::
 (204,(.seq .leaf (.seq (.blk (.seq .leaf (.cond (.seq .leaf .leaf) (.seq .leaf (.cond (.seq .leaf .leaf) .leaf))))) (.seq .leaf .leaf))))::
 (205,(.seq .leaf (.seq (.seq .leaf (.cond (.seq .leaf .leaf) .leaf)) (.seq .leaf .leaf))))::
 (206,(.seq .leaf (.seq .leaf .leaf)))::
 (207,(.seq .leaf (.seq (.seq .leaf (.blk (.seq (.seq .leaf (.cond .leaf (.seq .leaf (.cond .leaf .leaf)))) (.cond (.seq .leaf .leaf) .leaf)))) (.seq .leaf .leaf))))::
 (208,(.seq .leaf (.seq (.seq .leaf (.blk (.loop [(10,(.int .i64))] (.seq .leaf (.seq (.cond .leaf .leaf) (.seq (.blk (.seq .leaf (.seq .leaf (.cond (.seq .leaf .leaf) .leaf)))) .leaf)))))) (.seq .leaf .leaf))))::
 (209,(.seq .leaf (.seq (.seq .leaf (.cond (.seq .leaf .leaf) .leaf)) (.seq .leaf (.seq (.seq .leaf (.cond (.seq .leaf (.seq .leaf .leaf)) .leaf)) (.seq (.seq .leaf (.cond (.seq .leaf .leaf) .leaf)) (.seq .leaf (.seq .leaf (.seq .leaf (.seq .leaf (.seq .leaf .leaf)))))))))))::
 (210,(.seq .leaf (.seq .leaf (.seq (.blk (.loop [(0,(.int .i64))] (.seq (.seq .leaf (.cond .leaf .leaf)) (.blk .leaf)))) (.seq .leaf .leaf)))))::
 (211,(.seq .leaf (.seq .leaf (.seq (.seq .leaf (.blk (.loop [(10,(.int .i64))] (.seq .leaf (.seq (.cond .leaf .leaf) (.seq (.blk (.seq .leaf (.seq .leaf (.blk (.rng [.one (.int .i64),.one (.int .i64)] .leaf (.blk .leaf)))))) .leaf)))))) (.seq .leaf .leaf)))))::
 (212,(.seq .leaf (.seq .leaf .leaf)))::
 (213,(.seq .leaf (.seq .leaf .leaf)))::
 (214,(.seq .leaf (.seq .leaf .leaf)))::
 (215,(.seq .leaf (.seq .leaf .leaf)))::
 (216,(.seq .leaf (.seq .leaf .leaf)))::
 (217,(.seq .leaf (.seq .leaf .leaf)))::
 (218,(.seq .leaf (.seq (.blk (.seq (.seq .leaf (.cond .leaf .leaf)) (.cond (.seq .leaf .leaf) (.seq .leaf (.cond (.seq .leaf .leaf) .leaf))))) (.seq .leaf .leaf))))::
 (219,(.seq .leaf (.seq (.seq .leaf (.blk (.loop [(13,(.int .i64))] (.seq .leaf (.seq (.cond .leaf .leaf) (.seq (.blk (.seq .leaf (.seq .leaf (.blk (.seq .leaf (.cond (.seq .leaf .leaf) (.seq .leaf (.cond .leaf (.seq .leaf (.cond (.seq .leaf .leaf) .leaf)))))))))) .leaf)))))) (.seq .leaf .leaf))))::
 (220,(.seq .leaf (.seq (.seq .leaf (.cond (.seq .leaf .leaf) .leaf)) (.seq .leaf .leaf))))::
 (221,(.seq .leaf (.seq .leaf (.seq .leaf (.seq (.blk (.loop [(9,(.int .i64)),(10,(.int .i64))] (.seq (.seq .leaf (.cond .leaf .leaf)) (.blk (.seq .leaf (.seq .leaf (.cond .leaf .leaf))))))) (.seq .leaf .leaf))))))::
 (222,(.seq .leaf (.seq .leaf .leaf)))::
 (223,(.seq .leaf (.seq .leaf (.seq .leaf (.seq (.seq .leaf (.cond (.seq .leaf .leaf) .leaf)) (.seq .leaf (.seq (.seq .leaf (.cond (.seq .leaf .leaf) .leaf)) (.seq (.seq .leaf (.cond (.seq .leaf (.seq .leaf (.seq .leaf (.seq .leaf .leaf)))) .leaf)) (.seq .leaf (.seq (.seq .leaf (.cond (.seq .leaf (.seq .leaf (.seq .leaf .leaf))) .leaf)) (.seq .leaf (.seq .leaf (.seq .leaf .leaf)))))))))))))::
 (224,(.seq .leaf (.seq .leaf .leaf)))::
 (225,(.seq .leaf (.seq .leaf .leaf)))::
 (226,(.seq .leaf (.seq .leaf .leaf)))::
 (227,(.seq .leaf (.seq (.seq .leaf (.cond (.seq .leaf .leaf) .leaf)) (.seq .leaf (.seq .leaf (.seq (.seq .leaf (.cond (.seq .leaf .leaf) .leaf)) (.seq (.seq .leaf (.blk (.loop [(36,(.int .i64))] (.seq .leaf (.seq (.cond .leaf .leaf) (.seq (.blk (.seq .leaf .leaf)) .leaf)))))) (.seq .leaf .leaf))))))))::
 (228,(.seq .leaf (.seq .leaf .leaf)))::
 (229,(.seq .leaf (.seq .leaf (.seq (.blk (.seq (.seq .leaf (.cond .leaf .leaf)) (.cond (.seq .leaf .leaf) (.seq (.seq .leaf (.cond .leaf .leaf)) (.cond (.seq .leaf .leaf) .leaf))))) (.seq .leaf .leaf)))))::
 (230,(.seq .leaf (.seq .leaf .leaf)))::
 (231,(.seq .leaf (.seq (.seq .leaf (.seq .leaf (.cond (.seq .leaf .leaf) .leaf))) (.seq .leaf (.seq .leaf (.seq .leaf .leaf))))))::
 (232,(.seq .leaf (.seq (.blk (.seq .leaf (.cond (.seq .leaf .leaf) (.seq .leaf (.cond (.seq .leaf .leaf) (.seq .leaf (.cond (.seq .leaf .leaf) .leaf))))))) (.seq .leaf (.seq .leaf .leaf)))))::
 (233,(.seq .leaf (.seq .leaf .leaf)))::
 (234,(.seq .leaf (.seq .leaf (.seq (.seq .leaf (.cond (.seq .leaf .leaf) .leaf)) (.seq .leaf (.seq (.seq .leaf (.cond (.seq .leaf .leaf) .leaf)) (.seq .leaf .leaf)))))))::
 (235,(.seq .leaf (.seq .leaf (.seq .leaf (.seq .leaf (.seq .leaf .leaf))))))::
 (236,(.seq .leaf (.seq (.seq .leaf (.seq .leaf (.cond (.seq .leaf .leaf) .leaf))) (.seq (.seq .leaf (.cond (.seq .leaf .leaf) .leaf)) (.seq (.seq .leaf (.blk (.seq .leaf (.cond (.seq .leaf (.seq .leaf .leaf)) (.seq .leaf (.cond (.seq .leaf (.seq .leaf .leaf)) (.seq .leaf (.cond (.seq .leaf (.seq (.seq .leaf (.cond .leaf .leaf)) (.seq .leaf .leaf))) .leaf)))))))) (.seq .leaf .leaf))))))::
 (237,(.seq .leaf (.seq .leaf .leaf)))::
 (238,(.seq .leaf (.seq (.seq .leaf (.cond (.seq .leaf .leaf) .leaf)) (.seq .leaf .leaf))))::
 (239,(.seq .leaf (.seq (.seq .leaf (.cond (.seq .leaf .leaf) .leaf)) (.seq .leaf .leaf))))::
 (240,(.seq .leaf (.seq .leaf .leaf)))::
 (241,(.seq .leaf (.seq .leaf .leaf)))::
 (242,(.seq .leaf (.seq .leaf .leaf)))::
 (243,(.seq .leaf (.seq .leaf .leaf)))::
 (244,(.seq .leaf (.seq (.seq .leaf (.cond (.seq .leaf .leaf) .leaf)) (.seq .leaf .leaf))))::
 (245,(.seq .leaf (.seq .leaf .leaf)))::
 (246,(.seq .leaf (.seq .leaf (.seq (.seq .leaf (.cond (.seq .leaf .leaf) .leaf)) (.seq .leaf (.seq (.seq .leaf (.cond (.seq .leaf .leaf) .leaf)) (.seq .leaf (.seq .leaf (.seq .leaf (.seq .leaf .leaf))))))))))::
 (247,(.seq .leaf (.seq .leaf .leaf)))::
 (248,(.seq .leaf (.seq .leaf .leaf)))::
 (249,(.seq .leaf (.seq (.seq .leaf (.cond (.seq .leaf .leaf) .leaf)) (.seq .leaf (.seq (.seq .leaf (.cond .leaf .leaf)) (.seq .leaf (.seq .leaf .leaf)))))))::
 (250,(.seq .leaf (.seq (.seq .leaf (.cond (.seq .leaf .leaf) .leaf)) (.seq .leaf (.seq (.blk (.seq .leaf (.cond (.seq .leaf .leaf) (.seq .leaf (.cond (.seq .leaf .leaf) (.seq .leaf (.cond (.seq .leaf .leaf) (.seq .leaf (.cond (.seq .leaf .leaf) .leaf))))))))) (.seq .leaf (.seq .leaf (.seq .leaf (.seq .leaf (.seq .leaf .leaf))))))))))::
 (251,(.seq .leaf (.seq (.seq .leaf (.seq .leaf (.cond (.seq .leaf .leaf) .leaf))) (.seq .leaf (.seq (.seq .leaf (.blk (.loop [(9,.slice),(20,(.int .i64))] (.seq .leaf (.seq (.cond .leaf .leaf) (.seq (.blk (.seq .leaf .leaf)) .leaf)))))) (.seq .leaf (.seq .leaf .leaf)))))))::
 (252,(.seq .leaf (.seq .leaf (.seq (.seq .leaf (.seq .leaf (.cond .leaf .leaf))) (.seq .leaf .leaf)))))::
 (253,(.seq .leaf (.seq (.seq .leaf (.cond (.seq .leaf .leaf) .leaf)) (.seq (.seq .leaf (.cond (.seq .leaf .leaf) .leaf)) (.seq .leaf .leaf)))))::
 (254,(.seq .leaf (.seq .leaf (.seq .leaf (.seq .leaf .leaf)))))::
 (255,(.seq .leaf (.seq .leaf .leaf)))::
 (256,(.seq .leaf (.seq (.seq .leaf (.blk (.seq .leaf (.cond (.seq .leaf .leaf) (.seq .leaf (.cond (.seq .leaf (.seq (.seq .leaf (.cond (.seq .leaf .leaf) .leaf)) (.seq .leaf (.cond (.seq .leaf .leaf) .leaf)))) .leaf)))))) (.seq .leaf .leaf))))::
 (257,(.seq .leaf (.seq .leaf (.seq (.seq .leaf (.cond (.seq .leaf .leaf) .leaf)) (.seq .leaf .leaf)))))::
 (258,(.seq .leaf (.seq .leaf .leaf)))::
 (259,(.seq .leaf (.seq (.seq .leaf (.cond (.seq .leaf .leaf) .leaf)) (.seq (.seq .leaf (.cond (.seq .leaf .leaf) .leaf)) (.seq .leaf (.seq (.seq .leaf (.cond (.seq .leaf .leaf) .leaf)) (.seq .leaf (.seq .leaf (.seq .leaf .leaf)))))))))::
 (263,(.seq .leaf (.blk (.loop [(0,.any)] (.blk (.seq (.seq .leaf (.cond (.seq .leaf (.seq .leaf .leaf)) .leaf)) (.seq (.seq .leaf (.seq .leaf (.cond (.seq .leaf .leaf) .leaf))) (.seq .leaf (.blk (.seq .leaf (.cond (.seq .leaf (.seq .leaf (.seq .leaf (.cond (.seq .leaf .leaf) .leaf)))) (.seq .leaf (.cond (.seq .leaf (.seq (.seq .leaf (.blk (.loop [(50,(.int .i64))] (.seq .leaf (.seq (.cond .leaf .leaf) (.seq (.blk (.seq .leaf (.seq (.seq .leaf (.cond .leaf .leaf)) (.seq .leaf (.cond (.seq .leaf .leaf) .leaf))))) .leaf)))))) (.seq .leaf .leaf))) (.seq .leaf (.seq .leaf .leaf)))))))))))))))::
 (264,(.seq .leaf (.seq (.seq .leaf (.blk (.seq .leaf (.cond (.seq .leaf .leaf) (.seq .leaf (.cond (.seq .leaf .leaf) (.seq .leaf (.cond (.seq (.seq .leaf (.cond (.seq .leaf .leaf) .leaf)) (.seq .leaf .leaf)) .leaf)))))))) (.seq .leaf .leaf))))::
 (265,(.seq .leaf (.seq (.seq .leaf (.cond (.seq .leaf .leaf) .leaf)) (.seq .leaf (.seq .leaf (.seq .leaf .leaf))))))::
 (266,(.seq .leaf (.seq (.seq .leaf (.cond (.seq .leaf .leaf) .leaf)) (.seq (.seq .leaf (.seq .leaf (.cond (.seq .leaf .leaf) .leaf))) (.seq .leaf (.seq (.seq .leaf (.cond (.seq .leaf .leaf) .leaf)) (.seq .leaf (.seq .leaf (.seq .leaf (.seq .leaf (.seq .leaf (.seq .leaf (.seq .leaf .leaf)))))))))))))::
 (267,(.seq .leaf (.seq (.blk (.seq .leaf (.cond (.seq .leaf .leaf) (.seq (.seq .leaf (.cond .leaf (.seq .leaf (.cond .leaf (.seq .leaf (.cond .leaf .leaf)))))) (.cond (.seq .leaf .leaf) .leaf))))) (.seq .leaf (.seq (.seq .leaf (.cond (.seq .leaf .leaf) .leaf)) (.seq (.seq .leaf (.cond .leaf .leaf)) (.seq .leaf (.seq .leaf (.seq .leaf (.seq .leaf (.seq .leaf .leaf)))))))))))::
 (268,(.seq .leaf (.seq (.seq .leaf (.blk (.rng [.agg [(.int .i64),(.int .i64),(.int .i64),(.int .i64),(.int .i64),(.int .i64),(.int .i64),.bool,.bool,.slice,.slice]] .leaf (.blk .leaf)))) (.seq .leaf .leaf))))::
 (269,(.seq .leaf (.seq .leaf (.seq .leaf (.blk (.loop [(4,.slice)] (.blk (.seq .leaf (.seq .leaf (.seq (.seq .leaf (.cond .leaf .leaf)) (.seq .leaf (.seq .leaf .leaf))))))))))))::
 (270,(.seq .leaf (.seq .leaf (.seq (.seq .leaf (.blk (.rng [.one (.int .i64),.one .slice] .leaf (.blk (.seq .leaf (.cond .leaf .leaf)))))) (.seq (.blk (.loop [] (.seq (.seq .leaf (.cond .leaf .leaf)) (.blk .leaf)))) (.seq .leaf .leaf))))))::
 (271,(.seq .leaf (.seq (.seq .leaf (.cond (.seq .leaf .leaf) .leaf)) (.seq .leaf .leaf))))::
 (272,(.seq .leaf (.blk (.loop [(4,(.int .i64))] (.seq (.seq .leaf (.cond .leaf .leaf)) (.seq (.blk (.seq .leaf (.cond .leaf .leaf))) .leaf))))))::
 (273,(.seq .leaf (.seq .leaf (.seq (.seq .leaf (.blk (.loop [(3,(.int .i64)),(4,(.int .i64))] (.seq (.seq .leaf (.cond .leaf .leaf)) (.seq (.blk .leaf) .leaf))))) (.seq .leaf .leaf)))))::
 (274,(.seq .leaf (.seq (.seq .leaf (.cond (.seq .leaf .leaf) .leaf)) (.seq .leaf .leaf))))::
 (275,(.seq .leaf (.seq (.seq .leaf (.cond (.seq .leaf .leaf) .leaf)) (.seq (.blk (.loop [(0,(.int .i64))] (.seq (.seq .leaf (.cond .leaf .leaf)) (.blk .leaf)))) (.seq .leaf .leaf)))))::
 (276,(.seq .leaf (.seq .leaf .leaf)))::
 (277,(.seq .leaf (.seq (.seq .leaf (.blk (.loop [(8,(.int .i64))] (.seq .leaf (.seq (.cond .leaf .leaf) (.seq (.blk (.seq .leaf (.seq .leaf (.cond (.seq .leaf .leaf) .leaf)))) .leaf)))))) (.seq .leaf .leaf))))::
 (278,(.seq .leaf (.seq (.seq .leaf (.blk (.loop [(8,(.int .i64))] (.seq .leaf (.seq (.cond .leaf .leaf) (.seq (.blk (.seq .leaf (.seq .leaf (.cond (.seq .leaf .leaf) .leaf)))) .leaf)))))) (.seq .leaf .leaf))))::
 (279,(.seq .leaf (.seq (.seq .leaf (.blk (.loop [(8,(.int .i64))] (.seq .leaf (.seq (.cond .leaf .leaf) (.seq (.blk (.seq .leaf (.seq .leaf (.cond (.seq .leaf .leaf) .leaf)))) .leaf)))))) (.seq .leaf .leaf))))::
 (280,(.seq .leaf (.blk (.loop [(8,(.int .i64))] (.seq .leaf (.seq (.cond .leaf .leaf) (.seq (.blk (.seq .leaf (.seq .leaf (.cond .leaf .leaf)))) .leaf)))))))::
 (281,(.seq .leaf (.blk (.loop [(8,(.int .i64))] (.seq .leaf (.seq (.cond .leaf .leaf) (.seq (.blk (.seq .leaf (.seq .leaf (.cond .leaf .leaf)))) .leaf)))))))::
 (282,(.seq .leaf (.blk (.loop [(8,(.int .i64))] (.seq .leaf (.seq (.cond .leaf .leaf) (.seq (.blk (.seq .leaf (.seq .leaf (.cond .leaf .leaf)))) .leaf)))))))::
 (283,(.seq .leaf (.blk (.loop [(8,(.int .i64))] (.seq .leaf (.seq (.cond .leaf .leaf) (.seq (.blk (.seq .leaf (.seq .leaf (.cond .leaf .leaf)))) .leaf)))))))::
 (284,(.seq .leaf (.seq .leaf (.seq .leaf .leaf))))::
 (285,(.seq .leaf (.seq .leaf .leaf)))::
 (286,(.seq .leaf (.seq (.seq .leaf (.cond (.seq .leaf .leaf) .leaf)) (.seq (.seq .leaf (.blk (.rng [.one (.int .i64)] .leaf (.blk (.seq .leaf (.seq (.seq .leaf (.cond (.seq .leaf .leaf) .leaf)) (.seq .leaf (.cond (.seq .leaf .leaf) .leaf)))))))) (.seq .leaf .leaf)))))::
 (287,(.seq .leaf (.seq .leaf (.seq (.seq .leaf (.blk (.loop [(3,.slice),(8,(.int .i64))] (.seq .leaf (.seq (.cond .leaf .leaf) (.seq (.blk (.seq .leaf .leaf)) .leaf)))))) (.seq .leaf .leaf)))))::
 (288,(.seq (.seq .leaf (.cond .leaf .leaf)) (.seq .leaf (.seq .leaf (.seq .leaf (.blk (.loop [(33,(.int .i64))] (.seq .leaf (.seq (.cond .leaf .leaf) (.seq (.blk (.seq .leaf (.seq .leaf (.cond (.seq .leaf .leaf) .leaf)))) .leaf))))))))))::
 (289,(.seq .leaf (.seq .leaf .leaf)))::
 (290,(.seq .leaf (.seq (.seq .leaf (.blk (.loop [(8,(.int .i64))] (.seq .leaf (.seq (.cond .leaf .leaf) (.seq (.blk (.seq .leaf (.seq .leaf (.cond (.seq .leaf .leaf) .leaf)))) .leaf)))))) (.seq .leaf .leaf))))::
 (291,(.seq .leaf (.seq .leaf .leaf)))::
 (292,(.seq .leaf (.seq .leaf .leaf)))::
 (293,(.seq .leaf (.seq .leaf (.seq (.seq .leaf (.blk (.loop [(3,(.int .i64)),(11,(.int .i64))] (.seq .leaf (.seq (.cond .leaf .leaf) (.seq (.blk (.seq .leaf .leaf)) .leaf)))))) (.seq .leaf .leaf)))))::
 (294,(.seq .leaf (.seq .leaf (.seq (.seq .leaf (.blk (.loop [(8,(.int .i64))] (.seq .leaf (.seq (.cond .leaf .leaf) (.seq (.blk (.seq .leaf (.seq .leaf (.cond (.seq .leaf .leaf) .leaf)))) .leaf)))))) (.seq .leaf .leaf)))))::
 (295,(.seq .leaf (.seq .leaf (.seq .leaf (.seq (.seq .leaf (.cond (.seq (.seq .leaf (.cond (.seq .leaf .leaf) .leaf)) (.seq .leaf .leaf)) .leaf)) (.seq (.seq .leaf (.cond (.seq .leaf .leaf) .leaf)) (.seq (.seq .leaf (.cond (.seq .leaf .leaf) .leaf)) (.seq (.seq .leaf (.cond (.seq .leaf .leaf) .leaf)) (.seq .leaf .leaf)))))))))::
 (297,.leaf)::
 (298,(.seq (.seq .leaf (.cond .leaf .leaf)) (.seq .leaf (.seq (.seq .leaf (.blk (.loop [(3,(.int .i64)),(14,(.int .i64))] (.seq .leaf (.seq (.cond .leaf .leaf) (.seq (.blk (.seq .leaf (.seq (.seq .leaf (.cond .leaf .leaf)) .leaf))) .leaf)))))) (.seq .leaf (.cond .leaf .leaf))))))::
 (299,(.seq .leaf (.seq .leaf (.seq (.seq .leaf (.cond .leaf .leaf)) (.seq (.seq .leaf (.cond .leaf .leaf)) (.seq .leaf .leaf))))))::
 (300,(.seq .leaf (.seq .leaf .leaf)))::
 (301,(.seq .leaf (.seq (.seq .leaf (.cond (.seq .leaf .leaf) .leaf)) (.seq .leaf .leaf))))::
 (302,(.seq .leaf (.seq (.seq .leaf (.cond (.seq .leaf .leaf) .leaf)) (.seq (.seq .leaf (.cond (.seq .leaf .leaf) .leaf)) (.seq .leaf .leaf)))))::
 (303,(.seq .leaf (.seq .leaf .leaf)))::
 (304,(.seq .leaf (.seq .leaf (.seq (.blk (.seq .leaf (.cond (.seq .leaf .leaf) (.seq .leaf (.cond (.seq .leaf .leaf) (.seq .leaf (.cond (.seq .leaf .leaf) .leaf))))))) (.seq .leaf .leaf)))))::
 (305,(.seq .leaf (.seq (.seq .leaf (.blk (.seq (.seq .leaf (.cond .leaf .leaf)) (.cond (.seq .leaf .leaf) (.seq .leaf (.cond (.seq .leaf (.cond (.seq .leaf .leaf) .leaf)) .leaf)))))) (.seq .leaf .leaf))))::
 (306,(.seq .leaf (.seq .leaf (.seq (.seq .leaf (.cond .leaf .leaf)) (.seq .leaf (.seq (.seq .leaf (.cond (.seq .leaf .leaf) .leaf)) (.seq .leaf (.seq .leaf .leaf))))))))::
 (307,(.seq .leaf (.seq (.seq .leaf (.cond (.seq .leaf .leaf) .leaf)) (.seq .leaf (.seq (.seq .leaf (.blk (.rng [.one (.int .i64),.one (.int .i64)] (.seq .leaf .leaf) (.blk .leaf)))) (.seq .leaf (.seq (.blk (.seq .leaf (.cond (.seq .leaf .leaf) (.seq .leaf (.cond (.seq .leaf .leaf) (.seq .leaf (.cond (.seq .leaf .leaf) (.seq .leaf (.cond (.seq .leaf .leaf) .leaf))))))))) (.seq .leaf .leaf))))))))::
 (308,(.seq .leaf (.seq .leaf .leaf)))::
 (309,(.seq .leaf (.seq .leaf (.seq (.seq .leaf (.blk (.loop [(5,.slice),(15,(.int .i64))] (.seq .leaf (.seq (.cond .leaf .leaf) (.seq (.blk (.seq .leaf .leaf)) .leaf)))))) (.seq .leaf .leaf)))))::
 (310,(.seq .leaf (.seq .leaf .leaf)))::
 (311,(.seq .leaf (.seq (.seq .leaf (.blk (.loop [(8,(.int .i64))] (.seq .leaf (.seq (.cond .leaf .leaf) (.seq (.blk (.seq .leaf (.seq .leaf (.cond (.seq .leaf .leaf) .leaf)))) .leaf)))))) (.seq .leaf .leaf))))::
 (312,(.seq .leaf (.seq (.seq .leaf (.blk (.loop [(8,(.int .i64))] (.seq .leaf (.seq (.cond .leaf .leaf) (.seq (.blk (.seq .leaf (.seq .leaf (.cond (.seq .leaf .leaf) .leaf)))) .leaf)))))) (.seq .leaf .leaf))))::
 (313,(.seq (.seq .leaf (.cond .leaf .leaf)) (.seq .leaf (.blk (.loop [(17,(.int .i64))] (.seq .leaf (.seq (.cond .leaf .leaf) (.seq (.blk (.seq .leaf (.seq .leaf (.cond .leaf .leaf)))) .leaf))))))))::
 (314,(.seq .leaf (.seq (.blk (.seq (.seq .leaf (.cond .leaf .leaf)) (.cond (.seq .leaf .leaf) (.seq .leaf (.cond (.seq .leaf .leaf) (.seq .leaf (.cond (.seq .leaf .leaf) .leaf))))))) (.seq (.seq .leaf (.cond (.seq .leaf (.seq .leaf (.cond (.seq .leaf .leaf) .leaf))) .leaf)) (.seq (.seq .leaf (.cond (.seq .leaf .leaf) .leaf)) (.seq .leaf .leaf))))))::
 (315,(.seq .leaf (.seq .leaf (.seq (.seq .leaf (.cond (.seq .leaf .leaf) .leaf)) (.seq .leaf (.seq (.seq .leaf (.cond (.seq .leaf .leaf) .leaf)) (.seq .leaf .leaf)))))))::
 (316,(.seq .leaf (.seq (.seq .leaf (.cond (.seq .leaf .leaf) .leaf)) (.seq .leaf .leaf))))::
 (317,(.seq .leaf (.seq .leaf (.blk (.loop [(5,(.int .i64))] (.blk (.seq .leaf (.seq .leaf (.seq (.seq .leaf (.cond .leaf .leaf)) (.seq (.seq .leaf (.cond .leaf .leaf)) .leaf))))))))))::
 (318,(.seq .leaf (.seq .leaf (.seq .leaf (.seq .leaf (.seq .leaf .leaf))))))::
 (319,(.seq .leaf (.seq .leaf (.seq .leaf .leaf))))::
 (320,(.seq .leaf (.seq (.seq .leaf (.cond (.seq .leaf .leaf) .leaf)) (.seq (.seq .leaf (.blk (.loop [(29,(.int .i64))] (.seq .leaf (.seq (.cond .leaf .leaf) (.seq (.blk (.seq .leaf (.seq .leaf (.cond (.seq .leaf .leaf) .leaf)))) .leaf)))))) (.seq (.seq .leaf (.cond (.seq .leaf .leaf) .leaf)) (.seq .leaf .leaf))))))::
 (321,(.seq .leaf (.seq .leaf (.seq .leaf .leaf))))::
 (322,(.seq .leaf (.seq (.seq .leaf (.cond (.seq .leaf .leaf) .leaf)) (.seq .leaf (.seq .leaf .leaf)))))::
 (323,(.seq .leaf (.seq .leaf .leaf)))::
 (324,(.seq .leaf (.seq (.seq .leaf (.cond (.seq .leaf .leaf) .leaf)) (.seq (.seq .leaf (.cond (.seq .leaf .leaf) .leaf)) (.seq .leaf (.seq .leaf (.seq (.seq .leaf (.blk (.loop [(34,(.int .i64))] (.seq .leaf (.seq (.cond .leaf .leaf) (.seq (.blk (.seq .leaf (.seq .leaf (.seq .leaf (.seq .leaf (.blk (.rng [.one (.int .i64)] .leaf (.blk (.seq (.seq .leaf (.cond .leaf .leaf)) (.seq .leaf (.seq .leaf .leaf))))))))))) .leaf)))))) (.seq .leaf .leaf))))))))::
 (328,(.seq .leaf (.seq (.seq .leaf (.blk (.loop [(8,(.int .i64))] (.seq .leaf (.seq (.cond .leaf .leaf) (.seq (.blk (.seq .leaf (.seq .leaf (.cond (.seq .leaf .leaf) .leaf)))) .leaf)))))) (.seq .leaf .leaf))))::
 (329,(.seq .leaf (.seq .leaf .leaf)))::
 (330,(.seq .leaf (.seq .leaf (.seq .leaf (.seq (.blk (.loop [(7,(.int .i64)),(8,(.int .i64))] (.seq (.seq .leaf (.cond .leaf .leaf)) (.blk (.seq .leaf (.seq .leaf (.cond .leaf .leaf))))))) (.seq .leaf .leaf))))))::
 (331,(.seq .leaf (.seq .leaf (.seq .leaf (.seq (.seq .leaf (.cond (.seq .leaf .leaf) .leaf)) (.seq .leaf (.seq (.seq .leaf (.cond (.seq .leaf .leaf) .leaf)) (.seq (.seq .leaf (.cond (.seq .leaf (.seq .leaf (.seq .leaf (.seq .leaf .leaf)))) .leaf)) (.seq .leaf (.seq (.seq .leaf (.cond (.seq .leaf (.seq .leaf (.seq .leaf .leaf))) .leaf)) (.seq .leaf (.seq .leaf (.seq .leaf .leaf)))))))))))))::
 (332,(.seq .leaf (.seq .leaf .leaf)))::
 (333,(.seq .leaf (.seq .leaf .leaf)))::
 (334,(.seq .leaf (.seq .leaf .leaf)))::
 (335,(.seq .leaf (.seq .leaf .leaf)))::
 (336,(.seq .leaf (.seq .leaf (.seq (.seq .leaf (.blk (.loop [(5,(.int .u32)),(9,(.int .i64))] (.seq .leaf (.seq (.cond .leaf .leaf) (.seq (.blk (.seq .leaf .leaf)) .leaf)))))) (.seq .leaf .leaf)))))::
 (337,(.seq .leaf (.blk (.loop [(3,(.int .i64))] (.seq (.seq .leaf (.cond .leaf .leaf)) (.seq (.blk (.seq .leaf (.seq (.seq .leaf (.cond .leaf .leaf)) (.seq .leaf (.cond .leaf .leaf))))) .leaf))))))::
 (338,(.seq .leaf (.seq (.seq .leaf (.blk (.loop [(8,(.int .i64))] (.seq .leaf (.seq (.cond .leaf .leaf) (.seq (.blk (.seq .leaf (.seq .leaf (.cond (.seq .leaf .leaf) .leaf)))) .leaf)))))) (.seq .leaf .leaf))))::
 (339,(.seq .leaf (.seq .leaf .leaf)))::
 (340,(.seq .leaf (.seq .leaf .leaf)))::
 (341,(.seq .leaf (.seq .leaf .leaf)))::
 (342,(.seq .leaf (.seq .leaf (.seq .leaf .leaf))))::
 (343,(.seq .leaf (.seq .leaf (.seq (.seq .leaf (.cond (.seq .leaf .leaf) .leaf)) (.seq .leaf .leaf)))))::
 (344,(.seq .leaf (.seq .leaf (.seq (.seq .leaf (.cond (.seq .leaf .leaf) .leaf)) (.seq .leaf .leaf)))))::
 (345,(.seq .leaf (.seq .leaf .leaf)))::
 (346,(.seq .leaf (.seq (.seq .leaf (.blk (.seq (.seq .leaf (.cond .leaf .leaf)) (.cond (.seq .leaf .leaf) (.seq .leaf (.cond (.seq .leaf .leaf) (.seq .leaf (.cond (.seq .leaf .leaf) .leaf)))))))) (.seq .leaf .leaf))))::
 (347,(.seq .leaf (.seq (.seq .leaf (.blk (.seq .leaf (.cond (.seq .leaf .leaf) (.seq .leaf (.cond (.seq .leaf .leaf) (.seq .leaf (.cond (.seq .leaf .leaf) .leaf)))))))) (.seq .leaf .leaf))))::
 (348,(.seq .leaf (.seq .leaf .leaf)))::
 (349,(.seq .leaf (.seq (.seq .leaf (.blk (.rng [.one (.int .i64),.one .slice] (.seq .leaf .leaf) (.blk (.seq .leaf (.cond (.seq .leaf (.seq .leaf .leaf)) .leaf)))))) (.seq .leaf .leaf))))::
 (350,(.seq .leaf (.seq .leaf .leaf)))::
 (351,(.seq .leaf (.seq .leaf .leaf)))::
 (352,(.seq .leaf (.seq .leaf .leaf)))::
 (354,.leaf)::
 (355,(.seq .leaf (.seq .leaf (.seq .leaf .leaf))))::
 (356,(.seq .leaf (.seq .leaf (.seq (.seq .leaf (.cond (.seq .leaf .leaf) .leaf)) (.seq (.seq .leaf (.blk (.loop [(5,(.int .i64)),(6,(.int .i64))] (.seq (.seq .leaf (.cond .leaf .leaf)) (.seq (.blk (.seq .leaf (.seq .leaf (.cond (.seq .leaf .leaf) .leaf)))) .leaf))))) (.seq .leaf (.seq .leaf .leaf)))))))::
 (357,(.seq .leaf (.seq .leaf .leaf)))::
 (358,(.seq .leaf (.seq .leaf (.blk (.loop [(3,(.int .i64))] (.seq (.seq .leaf (.cond .leaf .leaf)) (.blk (.seq .leaf (.seq (.seq .leaf (.blk (.seq .leaf (.cond (.seq .leaf .leaf) (.seq .leaf (.cond .leaf (.seq .leaf (.cond .leaf (.seq .leaf (.seq .leaf (.cond .leaf .leaf))))))))))) (.seq (.seq .leaf (.cond .leaf .leaf)) .leaf))))))))))::
 (359,(.seq .leaf (.blk (.loop [(10,(.int .i64))] (.seq .leaf (.seq (.cond .leaf .leaf) (.seq (.blk (.seq .leaf (.seq .leaf (.cond .leaf .leaf)))) .leaf)))))))::
 (360,(.seq .leaf (.blk (.loop [(2,(.int .i64)),(3,(.int .i64))] (.seq (.seq .leaf (.cond .leaf .leaf)) (.seq (.blk .leaf) .leaf))))))::
 (361,(.seq .leaf (.seq (.seq .leaf (.seq .leaf (.cond (.seq .leaf .leaf) .leaf))) (.seq (.seq .leaf (.cond (.seq .leaf .leaf) .leaf)) (.seq .leaf .leaf)))))::
 (362,(.seq .leaf (.seq (.seq .leaf (.cond .leaf .leaf)) (.seq .leaf (.seq .leaf (.seq .leaf (.seq .leaf (.seq (.seq .leaf (.cond (.seq .leaf (.seq .leaf .leaf)) .leaf)) (.seq .leaf (.seq (.seq .leaf (.cond (.seq .leaf .leaf) .leaf)) (.seq .leaf (.seq (.seq .leaf (.seq .leaf (.cond .leaf .leaf))) (.seq .leaf .leaf)))))))))))))::
 (363,(.seq .leaf (.seq (.seq .leaf (.cond (.seq .leaf .leaf) .leaf)) (.seq .leaf .leaf))))::
 (364,(.seq .leaf (.seq (.seq .leaf (.cond .leaf .leaf)) (.seq .leaf (.seq (.seq .leaf (.cond .leaf .leaf)) (.seq .leaf (.blk (.loop [(36,(.int .i64))] (.seq .leaf (.seq (.cond .leaf .leaf) (.seq (.blk (.seq .leaf (.seq .leaf (.blk (.rng [.one (.int .i64)] .leaf (.blk (.seq .leaf (.seq (.seq .leaf (.cond .leaf .leaf)) (.seq .leaf (.cond .leaf .leaf)))))))))) .leaf)))))))))))::
 (365,(.seq .leaf (.seq .leaf .leaf)))::
 (366,(.seq .leaf (.seq (.seq .leaf (.cond (.seq .leaf .leaf) .leaf)) (.seq .leaf (.seq .leaf .leaf)))))::
 (367,(.seq .leaf (.seq .leaf .leaf)))::
 (368,(.seq .leaf (.seq .leaf (.seq (.seq .leaf (.blk (.loop [(5,(.int .i64)),(6,(.int .i64))] (.seq (.seq .leaf (.cond .leaf .leaf)) (.seq (.blk .leaf) .leaf))))) (.seq .leaf .leaf)))))::
 (369,(.seq .leaf (.seq (.seq .leaf (.blk (.loop [(8,(.int .i64))] (.seq .leaf (.seq (.cond .leaf .leaf) (.seq (.blk (.seq .leaf (.seq .leaf (.cond (.seq .leaf .leaf) .leaf)))) .leaf)))))) (.seq .leaf .leaf))))::
 (370,(.seq .leaf (.seq .leaf .leaf)))::
 (371,(.seq .leaf (.seq .leaf (.seq .leaf (.seq (.seq .leaf (.blk (.loop [(8,.slice),(9,.slice),(18,(.int .i64))] (.seq .leaf (.seq (.cond .leaf .leaf) (.seq (.blk (.seq .leaf (.seq .leaf .leaf))) .leaf)))))) (.seq .leaf (.seq .leaf (.seq .leaf .leaf))))))))::
 (373,(.seq .leaf (.seq .leaf .leaf)))::
 (374,(.seq .leaf (.seq .leaf .leaf)))::
 (375,(.seq .leaf (.seq (.seq .leaf (.cond (.seq .leaf .leaf) .leaf)) (.seq .leaf .leaf))))::
 (376,(.seq .leaf (.seq (.seq .leaf (.cond (.seq .leaf .leaf) .leaf)) (.seq .leaf .leaf))))::
 (377,(.seq .leaf (.seq .leaf .leaf)))::
 (378,(.seq .leaf (.blk (.loop [(2,(.int .i64)),(3,(.int .i64))] (.seq (.seq .leaf (.cond .leaf .leaf)) (.seq (.blk .leaf) .leaf))))))::
 (379,(.seq .leaf (.seq (.seq .leaf (.cond (.seq .leaf .leaf) .leaf)) (.seq .leaf (.seq (.seq .leaf (.blk (.rng [.one (.int .i64),.one (.int .i64)] .leaf (.blk .leaf)))) (.seq .leaf .leaf))))))::
 (380,(.seq .leaf (.blk (.loop [(5,(.int .i64))] (.seq (.seq .leaf (.cond .leaf .leaf)) (.seq (.blk (.seq .leaf (.cond .leaf .leaf))) .leaf))))))::
 (405,(.seq .leaf (.seq .leaf .leaf)))::
 (406,(.seq .leaf (.seq .leaf .leaf)))::
 (407,(.seq .leaf (.seq .leaf (.seq .leaf .leaf))))::
 (408,(.seq .leaf (.seq (.seq .leaf (.seq .leaf (.cond (.seq .leaf .leaf) .leaf))) (.seq .leaf (.seq (.seq .leaf (.blk (.loop [(9,.slice),(27,(.int .i64))] (.seq .leaf (.seq (.cond .leaf .leaf) (.seq (.blk (.seq .leaf .leaf)) .leaf)))))) (.seq .leaf (.seq (.seq .leaf (.cond (.seq .leaf .leaf) .leaf)) (.seq .leaf .leaf))))))))::
 (409,(.seq .leaf (.seq (.seq .leaf (.cond (.seq .leaf .leaf) .leaf)) (.seq .leaf .leaf))))::
 (410,(.seq .leaf (.seq (.seq .leaf (.cond (.seq .leaf .leaf) .leaf)) (.seq (.seq .leaf (.cond (.seq .leaf .leaf) .leaf)) (.seq .leaf .leaf)))))::
 (411,(.seq .leaf (.seq .leaf (.seq (.seq .leaf (.cond (.seq .leaf .leaf) .leaf)) (.seq .leaf .leaf)))))::
 (412,(.seq .leaf (.seq .leaf .leaf)))::
 (413,(.seq .leaf (.seq .leaf .leaf)))::
 (414,(.seq .leaf (.seq .leaf (.seq .leaf .leaf))))::
 (415,(.seq .leaf (.seq .leaf .leaf)))::
 (416,(.seq .leaf (.seq .leaf (.seq .leaf .leaf))))::
 (417,(.seq .leaf (.seq .leaf (.seq .leaf .leaf))))::
 (418,(.seq .leaf (.seq .leaf .leaf)))::
 (419,(.seq .leaf (.seq .leaf (.seq .leaf (.seq .leaf .leaf)))))::
 []
def lookA:List (Nat×CY)->Nat->Option CY
 |[],_=>none
 |(i,a)::r,n=>cond (Nat.beq i n) (some a) (lookA r n)
def ans:Nat->Option CY:=lookA anL
end Go.Proofs
end
section
namespace Gp.Rn
open Go Gp
structure Loc where
 b:Nat
 c:Nat
 L:LoopState->Option Code->b_
abbrev Nm:=Nat->Option Loc
def Le (ρ ρ':Nm):Prop:=∀i x,ρ i=some x->ρ' i=some x
theorem Le.refl (ρ:Nm):Le ρ ρ:=λ_ _ h=>h
theorem Le.trans {ρ ρ' ρ'':Nm} (h:Le ρ ρ') (h':Le ρ' ρ''):Le ρ ρ'':=λi x g=>h' i x (h i x g)
mutual
inductive VR (ρ:Nm):AV->Value->Prop
 |int (k n):VR ρ (.int k n) (.int k n)
 |bool (b):VR ρ (.bool b) (.bool b)
 |str (s):VR ρ (.str s) (.string s)
 |ptr0:VR ρ .ptr0 (.pointer none)
 |ptr {i o x} (h:ρ i=some x):VR ρ (.ptr i o) (.pointer (some ⟨x.b,o,none⟩))
 |sl0:VR ρ .sl0 (.slice none 0 0)
 |sl {i o n c x} (h:ρ i=some x):VR ρ (.sl i o n c) (.slice (some ⟨x.b,o,none⟩) n c)
 |slo {i o n d x} (h:ρ i=some x):VR ρ (.slo i o n d) (.slice (some ⟨x.b,o,none⟩) n (x.c - d))
 |slE {i x} (h:ρ i=some x) (o c):VR ρ (.slE i) (.slice (some ⟨x.b,o,none⟩) 0 c)
 |map0:VR ρ .map0 (.map none)
 |map {i x} (h:ρ i=some x):VR ρ (.map i) (.map (some x.b))
 |fn (f) {a a' b b'} (h:lg ρ a a') (h':lg ρ b b'):VR ρ (.fn f a b) (.func (.func f) ⟨a'⟩ ⟨b'⟩)
 |yld {i x} (h:ρ i=some x):VR ρ (.yld i) (.func (.yield x.b) #[] #[])
 |agg {a a'} (h:lg ρ a a'):VR ρ (.agg a) (.agg ⟨a'⟩)
 |kW {a a'} (h:lg ρ a a'):VR ρ (.kW a) (.tuple ⟨a'⟩)
 |nilF:VR ρ .nilF .nilFunc
 |nilI:VR ρ .nilI .nilIface
 |ifc (t) {a v} (h:VR ρ a v):VR ρ (.ifc t a) (.iface t v)
inductive lg (ρ:Nm):List AV->List Value->Prop
 |nil:lg ρ [] []
 |cons {a v us vs} (h:VR ρ a v) (h':lg ρ us vs):lg ρ (a::us) (v::vs)
end
section
variable {ρ ρ':Nm}
theorem VR.mono {a:AV} {v:Value} (h:VR ρ a v) (hl:Le ρ ρ'):VR ρ' a v:=by
 refine VR.rec (motive_1:=λa v _=>VR ρ' a v) (motive_2:=λa v _=>lg ρ' a v) ?_ ?_ ?_ ?_ ?_ ?_ ?_ ?_ ?_ ?_ ?_ ?_ ?_ ?_ ?_ ?_ ?_ ?_ ?_ ?_ h
 ·exact λk n=> .int k n
 ·exact λb=> .bool b
 ·exact λb=> .str b
 ·exact .ptr0
 ·exact λh=> .ptr (hl _ _ h)
 ·exact .sl0
 ·exact λh=> .sl (hl _ _ h)
 ·exact λh=> .slo (hl _ _ h)
 ·exact λh o c=> .slE (hl _ _ h) o c
 ·exact .map0
 ·exact λh=> .map (hl _ _ h)
 ·exact λf _ _ _ _ _ _ h h'=> .fn f h h'
 ·exact λh=> .yld (hl _ _ h)
 ·exact λ_ h=> .agg h
 ·exact λ_ h=> .kW h
 ·exact .nilF
 ·exact .nilI
 ·exact λt _ _ _ h=> .ifc t h
 ·exact .nil
 ·exact λ_ _ h h'=> .cons h h'
theorem lg.iff {a:List AV} {v:List Value}:lg ρ a v↔a.length=v.length/\∀(i:Nat) (x:AV) (y:Value),a[i]? =some x->v[i]? =some y->VR ρ x y:=by
 constructor
 ·intro h
  induction a generalizing v with
  |nil=>cases h;exact⟨rfl,λi x y hx=>by simp at hx⟩
  |cons x a ih=>
   cases h with
   |cons h h'=>
    obtain⟨l,g⟩:=ih h';refine⟨by simp[l],λi y z hy hz=> ?_⟩
    cases i with
    |zero=>simp at hy hz;subst hy hz;exact h
    |succ i=>exact g i y z (by simpa using hy) (by simpa using hz)
 ·intro ⟨l,g⟩
  induction a generalizing v with
  |nil=>cases v with
   |nil=>exact .nil
   |cons y v=>simp at l
  |cons x a ih=>cases v with
   |nil=>simp at l
   |cons y v=>exact .cons (g 0 x y rfl rfl) (ih (by simpa using l) λi z u hz hu=>g (i+1) z u (by simpa using hz) (by simpa using hu))
theorem lg.mono {a:List AV} {v:List Value} (h:lg ρ a v) (hl:Le ρ ρ'):lg ρ' a v:=by
 rw[lg.iff] at h ⊢;exact⟨h.1,λi x y hx hy=>(h.2 i x y hx hy).mono hl⟩
theorem lg.len {a:List AV} {v:List Value} (h:lg ρ a v):a.length=v.length:=(lg.iff.1 h).1
theorem lg.get {a:List AV} {v:List Value} (h:lg ρ a v) {i:Nat} {x:AV} (hx:a[i]? =some x):∃y,v[i]? =some y/\VR ρ x y:=by
 obtain⟨l,g⟩:=lg.iff.1 h;have hi:=(List.getElem?_eq_some_iff.1 hx).1;exact⟨_,List.getElem?_eq_getElem (by omega),g i x _ hx (List.getElem?_eq_getElem (by omega))⟩
theorem lg.app {a b:List AV} {v u:List Value} (h:lg ρ a v) (h':lg ρ b u):lg ρ (a++b) (v++u):=by
 induction a generalizing v with
 |nil=>cases h;exact h'
 |cons x a ih=>cases h with|cons g g'=>exact .cons g (ih g')
theorem lg.take {a:List AV} {v:List Value} (h:lg ρ a v) (n:Nat):lg ρ (a.take n) (v.take n):=by
 induction n generalizing a v with
 |zero=>simp;exact .nil
 |succ n ih=>cases h with
  |nil=>simp;exact .nil
  |cons g g'=>simp;exact .cons g (ih g')
theorem lg.drop {a:List AV} {v:List Value} (h:lg ρ a v) (n:Nat):lg ρ (a.drop n) (v.drop n):=by
 induction n generalizing a v with
 |zero=>exact h
 |succ n ih=>cases h with
  |nil=>simp;exact .nil
  |cons g g'=>simp;exact ih g'
theorem lg.set {a:List AV} {v:List Value} (h:lg ρ a v) (i:Nat) {x:AV} {y:Value} (hx:VR ρ x y):lg ρ (a.set i x) (v.set i y):=by
 induction a generalizing v i with
 |nil=>cases h;exact .nil
 |cons z a ih=>cases h with
  |cons g g'=>cases i with
   |zero=>exact .cons hx g'
   |succ i=>exact .cons g (ih g' i)
theorem lg.rep {a:List AV} {v:List Value} (h:lg ρ a v):∀n,lg ρ (ZA a n) (fO v n)
 |0=> .nil
 |n+1=>h.app (lg.rep h n)
theorem lg.map {α:Type} {l:List α} {f:α->AV} {g:α->Value} (h:∀x∈l,VR ρ (f x) (g x)):lg ρ (l.map f) (l.map g):=by
 induction l with
 |nil=>exact .nil
 |cons x l ih=>exact .cons (h x (List.mem_cons_self ..)) (ih λy hy=>h y (List.mem_cons_of_mem _ hy))
theorem Y0 {v:Value} {a:AV} (h:YZ v=some a):VR ρ a v:=by
 unfold YZ at h;split at h<;>first|(cases h;constructor)|cases h
theorem Ed:∀{v:List Value} {a:List AV},BL v=some a->lg ρ a v
 |[],_,h=>by cases h;exact .nil
 |x::v,a,h=>by
  unfold BL at h;split at h
  ·rename_i y l hy hl
   cases h
   exact .cons (Y0 hy) (Ed hl)
  ·cases h
theorem wP {v:Value} {a:AV} (h:Fp v=some a):VR ρ a v:=by
 unfold Fp at h;split at h
 ·split at h
  ·rename_i cs l hl
   cases h
   have:=Ed (ρ:=ρ) hl;exact .agg this
  ·cases h
 ·split at h
  ·rename_i vs _ hv
   cases h
   obtain⟨vs⟩:=vs;have:vs=[]:=hv;subst this;exact .kW .nil
  ·cases h
 ·exact Y0 h
theorem Nz {a:AV} {v:Value} (h:VR ρ a v) (h1:one a=true):iC v=true:=by
 cases h<;>first|rfl|cases h1
theorem MF:∀{a:List AV} {v:List Value},lg ρ a v->Bv a=true->∀x∈v,iC x=true
 |[],_,h,_=>by cases h;simp
 |y::a,_,h,h1=>by
  cases h with
  |cons g g'=>
   unfold Bv at h1;rw[and_eq_true] at h1;intro x hx;rcases List.mem_cons.1 hx with rfl|hx
   ·exact Nz g h1.1
   ·exact MF g' h1.2 x hx
theorem BK {a b:IntKind} (h:Dq a b=true):a=b:=by cases a<;>cases b<;>first|rfl|cases h
theorem CB {k:Kind} {a:AV} {v:Value} (h:VR ρ a v) (h1:kOk k a=true):∃x:k.T,v=k.enc x:=by
 cases k with
 |any=>exact⟨v,rfl⟩
 |int k=>cases h<;>first|(rename_i k' n;cases BK h1;exact⟨n,rfl⟩)|cases h1
 |bool=>cases h<;>first|exact⟨_,rfl⟩|cases h1
 |str=>cases h<;>first|exact⟨_,rfl⟩|cases h1
 |ptr=>cases h<;>first|exact⟨_,rfl⟩|cases h1
 |slice=>cases h<;>first|exact⟨⟨_,_,_⟩,rfl⟩|cases h1
 |map=>cases h<;>first|exact⟨_,rfl⟩|cases h1
theorem ab3:∀{ks:List Kind} {a:List AV} {v:List Value} {φ:List Value->Prop},lg ρ a v->QY ks a=true->φ v->ac7 ks φ
 |[],[],_,φ,h,_,hp=>by cases h;exact hp
 |[],_::_,_,_,_,h1,_=>by cases h1
 |_::_,[],_,_,_,h1,_=>by cases h1
 |k::ks,x::a,_,φ,h,h1,hp=>by
  cases h with
  |cons g g'=>
   unfold QY at h1;rw[and_eq_true] at h1;obtain⟨y,rfl⟩:=CB g h1.1;exact⟨y,ab3 g' h1.2 hp⟩
theorem XH {sh:Shape} {a:AV} {v:Value} {φ:Value->Prop} (h:VR ρ a v) (h1:alD sh a=true) (hp:φ v):sh.ex φ:=by
 cases sh with
 |one k=>
  obtain⟨x,rfl⟩:=CB h h1;exact⟨x,hp⟩
 |agg ks=>cases h with
  |agg g=>exact ab3 g h1 hp
  |_=>cases h1
theorem Gm:∀{sh:List Shape} {a:List AV} {v:List Value} {φ:List Value->Prop},lg ρ a v->LZ sh a=true->φ v->oD sh φ
 |[],[],_,φ,h,_,hp=>by cases h;exact hp
 |[],_::_,_,_,_,h1,_=>by cases h1
 |_::_,[],_,_,_,h1,_=>by cases h1
 |s::sh,x::a,_,φ,h,h1,hp=>by
  cases h with
  |cons g g'=>
   unfold LZ at h1;rw[and_eq_true] at h1;exact XH g h1.1 (φ:=λv=>oD sh λvs=>φ (v::vs)) (Gm g' h1.2 hp)
theorem aco {a:List AV} {v:List Value} (h:lg ρ a v):VR ρ (alO a) (kW v):=by
 cases h with
 |nil=>exact .kW .nil
 |cons g g'=>cases g' with
  |nil=>exact g
  |cons g1 g2=>exact .kW (.cons g (.cons g1 g2))
theorem AE.get_nil (t:Nat):AE.get [] t=none:=rfl
theorem AE.jg (s:Nat) (v:AV) (r:AE) (t:Nat):AE.get ((s,v)::r) t=if s=t then some v else AE.get r t:=by
 show (Bool.rec (AE.get r t) (some v) (Nat.beq s t):Option AV)=_;by_cases h:s=t
 ·rw[if_pos h,show Nat.beq s t=true from h ▸ Nat.beq_refl s]
 ·rw[if_neg h]
  cases hb:Nat.beq s t with
  |false=>rfl
  |true=>exact absurd (Nat.eq_of_beq_eq_true hb) h
def ER (ρ:Nm) (e:AE) (env:Env):Prop:=∀t v,e.get t=some v->∃u,env.get t=some u/\VR ρ v u
theorem ER.mono {e:AE} {env:Env} (h:ER ρ e env) (hl:Le ρ ρ'):ER ρ' e env:=λt v g=>by
 obtain⟨u,h1,h2⟩:=h t v g;exact⟨u,h1,h2.mono hl⟩
theorem ER.nil {env:Env}:ER ρ [] env:=λt v h=>by rw[AE.get_nil] at h;cases h
theorem ER.cons {e:AE} {env:Env} (h:ER ρ e env) {v:AV} {u:Value} (hv:VR ρ v u) (s:Nat):ER ρ ((s,v)::e) ((s,u)::env):=λt x g=>by
 rw[AE.jg] at g;rw[jg];split at g
 ·cases g
  rw[if_pos (by assumption)];exact⟨u,rfl,hv⟩
 ·rw[if_neg (by assumption)];exact h t x g
theorem ER.put {e:AE} {env:Env} (h:ER ρ e env) (d:Option Nat) {v:AV} {u:Value} (hv:VR ρ v u):ER ρ (e.put d v) (env.put d u):=by
 cases d with
 |none=>exact h
 |some s=>exact h.cons hv s
theorem QC {e:AE} {env:Env} (h:ER ρ e env) {x:Operand} {a:AV} (hx:evA e x=some a):∃v,evO env x=some v/\VR ρ a v:=by
 cases x with
 |tmp t=>exact h t a hx
 |const v=>exact⟨v,rfl,wP hx⟩
 |global g=>cases hx
 |func f=>cases hx;exact⟨_,rfl,.fn f .nil .nil⟩
theorem ae3 {e:AE} {env:Env} (h:ER ρ e env):∀{l:List Operand} {us:List AV},evs e l=some us->OY env l=true/\∀x∈l,VR ρ ((evA e x).getD (.kW [])) (ev env x)
 |[],_,_=>⟨rfl,by simp⟩
 |x::l,us,g=>by
  unfold evs at g;split at g
  ·rename_i a m ha hm;obtain⟨g1,g2⟩:=ae3 h hm;obtain⟨v,hv,hr⟩:=QC h ha;refine⟨by unfold OY;rw[hv,g1];rfl,λy hy=> ?_⟩;rcases List.mem_cons.1 hy with rfl|hy
   ·rw[ha];unfold ev;rw[hv];exact hr
   ·exact g2 y hy
  ·cases g
end
end Gp.Rn
end
