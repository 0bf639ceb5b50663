import Derived.Test.YtnifdmfflblbbaaGreatDoorW2
section
namespace Gp
open Go
def fill:Code->jO->jO
 | .seq a b,an=>match an with
  | .leaf=> .seq (fill a .leaf) (fill b .leaf)
  | .seq x y=> .seq (fill a x) (fill b y)
  | .join st x y=> .join st (fill a x) (fill b y)
  |x=>x
 | .cond _ a b,an=>match an with
  | .leaf=> .cond (fill a .leaf) (fill b .leaf)
  | .cond x y=> .cond (fill a x) (fill b y)
  |x=>x
 | .block _ a,an=>match an with
  | .leaf=> .blk (fill a .leaf)
  | .blk x=> .blk (fill a x)
  |x=>x
 | .loop a,an=>match an with
  | .loop st x=> .loop st (fill a x)
  |x=>x
 | .scope a,an=>fill a an
 | .rangeFunc _ _ a b,an=>match an with
  | .rng ks x y=> .rng ks (fill a x) (fill b y)
  |x=>x
 |_,an=>an
def yK:(ks:List Kind)->uI ks->uI ks->Prop
 |[],K,K'=>∀w,K w->K' w
 |k::ks,K,K'=>∀x:k.T,yK ks (K x) (K' x)
theorem tJ {rest:List Kind}:∀(ks:List Kind) {K K':uI (ks++rest)} {φ ψ:List Value->uI rest->Prop},yK (ks++rest) K K'->
  (∀vs c c',yK rest c c'->φ vs c->ψ vs c')->xP ks rest K φ->xP ks rest K' ψ
 |[],_,_,_,_,h,hp,hk=>hp _ _ _ h hk
 |_::ks,_,_,_,_,h,hp,⟨x,hk⟩=>⟨x,tJ ks (h x) (fun _ _ _ hc hh=>hp _ _ _ hc hh) hk⟩
theorem pW:∀(sh:List Shape) {K K':uI (flat sh)} {φ:List Value->Prop} {w:World},yK (flat sh) K K'->yQ sh K φ w->yQ sh K' φ w
 |[],_,_,_,_,h,hk=>⟨hk.1,h _ hk.2⟩
 | .one _::sh,_,_,_,_,h,⟨x,hk⟩=>⟨x,pW sh (h x) hk⟩
 | .agg ks::sh,_,_,_,_,h,hk=>tJ ks h (fun _ _ _ hc hh=>pW sh hc hh) hk
def cZ (P:Program) (f:FuncId) (args:List Value) (sh:List Shape) (w:World) (K:uI (flat sh)):Prop:=
 Calls P f ⟨args⟩ w fun e w'=>yQ sh K (fun us=>e= .returned (bJ us)) w'
theorem cZ.mono {P:Program} {f:FuncId} {args:List Value} {sh:List Shape} {w:World} {K K':uI (flat sh)} (h:cZ P f args sh w K) (hk:yK (flat sh) K K'):cZ P f args sh w K':=
 Calls.mono h fun _ _ hh=>pW sh hk hh
def J8 (P:Program) (fn:Func) (sh:List Shape) (an:jO) (args:List Value) (w:World) (K:uI (flat sh)):Prop:=
 match fn.body with
 |some c=>cond (Nat.ble args.length fn.ntmps) (den P fn.ntmps c none (fill c an) (jV 0 args) [] w (La P fn.results.toList sh K)) False
 |none=>False
@[reducible] def uV (A B:Prop):Prop:=B->A
theorem okF {P:Program} (hP:jZ P) {f:FuncId} {fn:Func} (hf:P.funcs[f]? =some fn) {args:List Value} {sh:List Shape} {w:World} {K:uI (flat sh)} {S:Prop} (an:jO)
  (e:J8 P fn sh an args w K=S):uV (cZ P f args sh w K) S:=by
 intro h
 rw [<- e] at h
 unfold J8 at h
 cases hb:fn.body with
 |none=>rw [hb] at h;exact h.elim
 |some c=>
  rw [hb] at h
  dsimp only at h
  cases hl:Nat.ble args.length fn.ntmps with
  |false=>rw [hl] at h;exact h.elim
  |true=>
   rw [hl] at h
   exact Ec hP hf hb rfl (rs:=fn.results.toList) rfl sh K (fill c an) args hl w h
@[reducible] def Pt (p:Option Addr) (K:Addr->Prop):Prop:=∃a,p=some a/\K a
theorem Hg {a:Addr} {K:Addr->Prop}:Pt (some a) K↔K a:=
 ⟨fun⟨_,h,k⟩=>by cases h;exact k,fun k=>⟨a,rfl,k⟩⟩
end Gp
end
section
namespace Gp
open Go
theorem sx:(∀(w:World) (a:Addr) (i:Nat) (K:World->Prop),zB [] w a i K=K w)/\(∀(a:Addr),(some a).isNone=false)/\((none:Option Addr).isNone=true)/\
  (∀(a b:Prop),cond false a b=b)/\(∀(a b:Prop),cond true a b=a)/\(∀(a:Addr) (P:Addr->Prop),(∃x,some a=some x/\P x)↔P a)/\
  (∀(k:Kind) (w:World) (a:Addr) (K:k.T->Prop),Ld k w a K↔LX k (w.cell? a) K)/\
  (∀(a:Value) (l:List Value),(a::l)[0]? =some a)/\(∀(a:Value) (l:List Value) (i:Nat),(a::l)[i+1]? =l[i]?)/\
  (∀(k:Kind) (v:Value) (K:k.T->Prop),LX k (some v) K=k.dec v K)/\(∀(a:Option Addr) (l c:Nat) (K:ah->Prop),Kind.dec .slice (.slice a l c) K=K ⟨a,l,c⟩)/\
  (∀(k:IntKind) (n:Int) (K:Int->Prop),Kind.dec (.int k) (.int k n) K=K n)/\(∀(b:Bool) (K:Bool->Prop),Kind.dec .bool (.bool b) K=K b)/\
  (∀(a:Option Addr) (K:Option Addr->Prop),Kind.dec .ptr (.pointer a) K=K a)/\(∀(b:ByteArray) (K:ByteArray->Prop),Kind.dec .str (.string b) K=K b)/\
  (∀(r:Option Nat) (K:Option Nat->Prop),Kind.dec .map (.map r) K=K r)/\(∀(v:Value) (K:Value->Prop),Kind.dec .any v K=K v)/\
  (∀(a:Addr) (l c size:Nat) (i:Int) (K:Addr->Prop),Aw ⟨some a,l,c⟩ size i K↔(0<=i/\i<(l:Int)/\K (a.add (i.toNat * size))))/\
  (∀(b o n:Nat),(⟨b,o,none⟩:Addr).add n=⟨b,o+n,none⟩)/\(∀n:Nat,0+n=n)/\(∀n:Nat,n+0=n):=
 ⟨G8,fun _=>rfl,rfl,fun _ _=>rfl,fun _ _=>rfl,Gs,KU,fun _ _=>rfl,fun _ _ _=>rfl,FP,DL,AZ,Eh,GY,Ig,G7,BQ,CP,aV,Nat.zero_add,fun _=>rfl⟩
end Gp
end
section
namespace Gp.Rn
open Go Gp
noncomputable section
inductive AV where
 |int (k:IntKind) (n:Int)
 |bool (b:Bool)
 |str (s:ByteArray)
 |ptr0
 |ptr (i o:Nat)
 |sl0
 |sl (i o len cap:Nat)
 |slo (i o len d:Nat)
 |slE (i:Nat)
 |map0
 |map (r:Nat)
 |fn (f:FuncId) (first cap:List AV)
 |yld (l:Nat)
 |agg (vs:List AV)
 |bJ (vs:List AV)
 |nilF
 |nilI
 |ifc (t:TypeId) (v:AV)
inductive JL where
 |no
 |ret
 |ex (id:Nat)
inductive AB where
 |row (cs:List AV) (size:Nat) (opn:Bool)
 |map (es:List (AV×AV×Nat)) (clock:Nat)
 |iter (m:Option Nat) (since:Nat) (seen:List Nat) (c:Nat)
 |loop (st:LoopState) (p:JL)
 |mark
 |dead
inductive Tr where
 |lf
 |nd (v:Option AB) (l r:Tr)
def Tr.get:Tr->Nat->Option AB
 | .lf,_=>none
 | .nd v l r,n=>match n with
  |0=>v
  |m+1=>cond (Nat.beq (m % 2) 0) (l.get (m / 2)) (r.get (m / 2))
def Tr.wo:Nat->Tr->Nat->AB->(Tr->Bool)->Bool
 |0,_,_,_,_=>false
 |f+1,t,n,v,k=>match t with
  | .lf=>match n with
   |0=>k (.nd (some v) .lf .lf)
   |m+1=>cond (Nat.beq (m % 2) 0) (wo f .lf (m / 2) v fun l=>k (.nd none l .lf)) (wo f .lf (m / 2) v fun r=>k (.nd none .lf r))
  | .nd x l r=>match n with
   |0=>k (.nd (some v) l r)
   |m+1=>cond (Nat.beq (m % 2) 0) (wo f l (m / 2) v fun l'=>k (.nd x l' r)) (wo f r (m / 2) v fun r'=>k (.nd x l r'))
structure St where
 h:Tr
 n:Nat
abbrev AE:=List (Nat×AV)
def AE.get (e:AE) (t:Nat):Option AV:=List.rec (motive:=fun _=>Option AV) none (fun p _ ih=>Bool.rec ih (some p.2) (Nat.beq p.1 t)) e
def AE.put (e:AE) (d:Option Nat) (v:AV):AE:=
 match d with
 |some s=>(s,v)::e
 |none=>e
def AE.without (ws:List Nat):AE->AE
 |[]=>[]
 |(s,v)::r=>cond (gK s ws) (AE.without ws r) ((s,v)::AE.without ws r)
def fN (n:Nat) (k:Nat->Bool):Bool:=match n with
 |0=>k 0
 |m+1=>k (Nat.succ m)
def fI (n:Int) (k:Int->Bool):Bool:=match n with
 | .ofNat a=>fN a fun a=>k (.ofNat a)
 | .negSucc a=>fN a fun a=>k (.negSucc a)
def fB (b:Bool) (k:Bool->Bool):Bool:=match b with
 |true=>k true
 |false=>k false
def yI:Value->Option AV
 | .int k n=>some (.int k n)
 | .bool b=>some (.bool b)
 | .string s=>some (.str s)
 | .pointer none=>some .ptr0
 | .slice none 0 0=>some .sl0
 | .map none=>some .map0
 | .nilFunc=>some .nilF
 | .nilIface=>some .nilI
 |_=>none
def jh:List Value->Option (List AV)
 |[]=>some []
 |v::r=>match yI v,jh r with
  |some a,some l=>some (a::l)
  |_,_=>none
def lQ:Value->Option AV
 | .agg cs=>match jh cs.toList with
  |some l=>some (.agg l)
  |none=>none
 | .tuple vs=>match vs.toList with
  |[]=>some (.bJ [])
  |_=>none
 |v=>yI v
def one:AV->Bool
 | .agg _=>false
 | .bJ _=>false
 |_=>true
def Gx:Kind->AV->Bool
 | .int k,.int k' _=>jQ k k'
 | .bool,.bool _=>true
 | .str,.str _=>true
 | .ptr,.ptr0=>true
 | .ptr,.ptr _ _=>true
 | .slice,.sl0=>true
 | .slice,.sl _ _ _ _=>true
 | .slice,.slo _ _ _ _=>true
 | .slice,.slE _=>true
 | .map,.map0=>true
 | .map,.map _=>true
 | .any,_=>true
 |_,_=>false
def sV:List Kind->List AV->Bool
 |[],[]=>true
 |k::ks,v::vs=>Gx k v && sV ks vs
 |_,_=>false
def IW:Shape->AV->Bool
 | .one k,v=>Gx k v
 | .agg ks,.agg vs=>sV ks vs
 |_,_=>false
def oP:List Shape->List AV->Bool
 |[],[]=>true
 |k::ks,v::vs=>IW k v && oP ks vs
 |_,_=>false
def IG (e:AE):Operand->Option AV
 | .tmp t=>e.get t
 | .const v=>lQ v
 | .global _=>none
 | .func f=>some (.fn f [] [])
def evs (e:AE):List Operand->Option (List AV)
 |[]=>some []
 |x::r=>match IG e x,evs e r with
  |some a,some l=>some (a::l)
  |_,_=>none
def pY:List AV->Option (List Value)
 |[]=>some []
 |v::r=>match (match v with
  | .int k n=>some (Value.int k n)
  | .bool b=>some (.bool b)
  | .str s=>some (.string s)
  |_=>none),pY r with
  |some a,some l=>some (a::l)
  |_,_=>none
def xE:AV->Option Value
 | .int k n=>some (.int k n)
 | .bool b=>some (.bool b)
 | .str s=>some (.string s)
 | .agg vs=>match pY vs with
  |some l=>some (.agg ⟨l⟩)
  |none=>none
 |_=>none
def LV:List UInt8->List UInt8->Bool
 |[],[]=>true
 |a::l,b::m=>cond (Nat.beq a.toNat b.toNat) (LV l m) false
 |_,_=>false
def Me:List UInt8->List UInt8->Bool
 |[],[]=>false
 |[],_::_=>true
 |_::_,[]=>false
 |a::l,b::m=>cond (Nat.blt a.toNat b.toNat) true (cond (Nat.beq a.toNat b.toNat) (Me l m) false)
def GK (a b:ByteArray):Bool:=LV a.data.toList b.data.toList
def JY (a b:ByteArray):Bool:=Me a.data.toList b.data.toList
def wF (P:Program):Nat->TypeId->Value->Value->Option Bool
 |0,_,_,_=>none
 |d+1,t,x,y=>match P.underlying t,x,y with
  |some .bool,.bool a,.bool b=>some (a==b)
  |some (.int _),.int k a,.int k' b=>cond (jQ k k') (some (a==b)) none
  |some .string,.string a,.string b=>some (GK a b)
  |some (.struct fs),.agg xs,.agg ys=>cond (P.stoodInHeld t) none (DJ P (wF P d) xs.toList ys.toList fs.toList)
  |some (.array n e),.agg xs,.agg ys=>match P.underlying e,aB P e with
   |some de,some size=>CY (wF P d e) de size xs.toList ys.toList n 0
   |_,_=>none
  |_,_,_=>none
def jM (s:St) (b:AB) (k:Nat->St->Bool):Bool:=
 match s.h.get s.n with
 |none=>s.h.wo 64 s.n b fun h'=>fN (s.n+1) fun m=>k s.n ⟨h',m⟩
 |some _=>false
def jE (s:St) (i:Nat) (b:AB) (k:St->Bool):Bool:=s.h.wo 64 i b fun h'=>k ⟨h',s.n⟩
def BO {α:Type}:Nat->List α->Option (List α)
 |0,_=>some []
 |_+1,[]=>none
 |n+1,x::l=>match BO n l with
  |some r=>some (x::r)
  |none=>none
def Ee (s:St) (i o n:Nat):Option (List AV):=
 match s.h.get i with
 |some (.row cs _ _)=>BO n (cs.drop o)
 |_=>none
def xJ:List AV->Nat->List AV->(List AV->Bool)->Bool
 |[],_,vs,k=>match vs with
  |[]=>k []
  |_=>false
 |c::cs,n,vs,k=>match n with
  |m+1=>xJ cs m vs fun r=>k (c::r)
  |0=>match vs with
   |[]=>k (c::cs)
   |v::vs=>xJ cs 0 vs fun r=>k (v::r)
def ji:List AV->Bool
 |[]=>true
 |v::r=>one v && ji r
def D5 (s:St) (i o:Nat) (vs:List AV) (k:St->Bool):Bool:=
 cond (ji vs) (match s.h.get i with
  |some (.row cs z p)=>xJ cs o vs fun cs'=>jE s i (.row cs' z p) k
  |_=>false) false
def Lj (s:St) (size n:Nat):AV->Option (List AV)
 | .sl0=>cond (Nat.beq n 0) (some []) none
 | .sl i o len _=>cond (Nat.ble n len) (Ee s i o (n * size)) none
 | .slo i o len _=>cond (Nat.ble n len) (Ee s i o (n * size)) none
 | .slE _=>cond (Nat.beq n 0) (some []) none
 |_=>none
def r_:AV->Option Nat
 | .sl0=>some 0
 | .sl _ _ n _=>some n
 | .slo _ _ n _=>some n
 | .slE _=>some 0
 |_=>none
def xX (z:List AV):Nat->List AV
 |0=>[]
 |n+1=>z++xX z n
def wI (size bytes zl:Nat) (x:AV) (n:Nat) (vs:List AV) (s:St) (k:AV->St->Bool):Bool:=
 cond (ji vs && (Nat.beq zl size && (Nat.beq vs.length (n * size) && Nat.blt 0 size))) (match x with
  | .sl0=>match n with
   |0=>k .sl0 s
   |_+1=>cond (Nat.ble (n * bytes) (2^46) && Nat.ble n (2^62)) (jM s (.row vs size true) fun j s'=>k (.slo j 0 n 0) s') false
  | .sl i o len cap=>fN (len+n) fun m=>cond (Nat.ble m cap) (D5 s i (o+len * size) vs fun s'=>k (.sl i o m cap) s')
    (cond (Nat.ble (m * bytes) (2^46) && Nat.ble m (2^62)) (match Ee s i o (len * size) with
     |some old=>jM s (.row (old++vs) size true) fun j s'=>k (.slo j 0 m 0) s'
     |none=>false) false)
  | .slo i o len d=>fN (len+n) fun m=>match s.h.get i with
   |some (.row cs z true)=>cond (Nat.beq z size && Nat.beq (d * size) o)
     (cond (Nat.ble (o+m * size) cs.length) (D5 s i (o+len * size) vs fun s'=>k (.slo i o m d) s')
      (cond (Nat.beq o 0 && (Nat.beq d 0 && (Nat.beq (len * size) cs.length && (Nat.ble (m * bytes) (2^46) && Nat.ble m (2^62)))))
       (jE s i .dead fun s1=>jM s1 (.row (cs++vs) size true) fun j s'=>k (.slo j 0 m 0) s') false)) false
   |_=>false
  |_=>false) false
end
end Gp.Rn
end
section
namespace Gp.Rn
open Go Gp
noncomputable section
structure Cb where
 call:FuncId->List AV->St->(List AV->St->Bool)->Bool
 yld:Nat->List AV->St->(Bool->St->Bool)->Bool
def EU (op:BinOp) (kd:IntKind) (a b:Int) (k:AV->Bool):Bool:=
 match op with
 | .add=>fI (kd.wrap (a+b)) fun n=>k (.int kd n)
 | .sub=>fI (kd.wrap (a - b)) fun n=>k (.int kd n)
 | .mul=>fI (kd.wrap (a * b)) fun n=>k (.int kd n)
 | .quo=>cond (b==0) false (fI (kd.wrap (a.tdiv b)) fun n=>k (.int kd n))
 | .rem=>cond (b==0) false (fI (a.tmod b) fun n=>k (.int kd n))
 | .and=>fI (Ll kd a b) fun n=>k (.int kd n)
 | .or=>fI (MX kd a b) fun n=>k (.int kd n)
 | .xor=>fI (G_ kd a b) fun n=>k (.int kd n)
 | .andNot=>fI (Bo kd a b) fun n=>k (.int kd n)
 | .eql=>fB (a==b) fun t=>k (.bool t)
 | .neq=>fB (a !=b) fun t=>k (.bool t)
 | .lss=>fB (decide (a<b)) fun t=>k (.bool t)
 | .leq=>fB (decide (a<=b)) fun t=>k (.bool t)
 | .gtr=>fB (decide (a>b)) fun t=>k (.bool t)
 | .geq=>fB (decide (a>=b)) fun t=>k (.bool t)
 |_=>false
def Fj (op:BinOp) (a b:ByteArray) (k:AV->Bool):Bool:=
 match op with
 | .add=>cond (Nat.ble (a.size+b.size) 9223372036854775807) (k (.str ⟨⟨a.data.toList++b.data.toList⟩⟩)) false
 | .eql=>fB (GK a b) fun t=>k (.bool t)
 | .neq=>fB (!GK a b) fun t=>k (.bool t)
 | .lss=>fB (JY a b) fun t=>k (.bool t)
 | .leq=>fB (JY a b||GK a b) fun t=>k (.bool t)
 | .gtr=>fB (!(JY a b||GK a b)) fun t=>k (.bool t)
 | .geq=>fB (!JY a b) fun t=>k (.bool t)
 |_=>false
def MO (d:TypeDesc) (x y:AV):Option Bool:=
 match d,x,y with
 | .bool,.bool a,.bool b=>some (a==b)
 | .pointer _,.ptr0,.ptr0=>some true
 | .pointer _,.ptr _ _,.ptr0=>some false
 | .slice _,.sl0,.sl0=>some true
 | .slice _,.sl _ _ _ _,.sl0=>some false
 | .slice _,.slo _ _ _ _,.sl0=>some false
 | .slice _,.slE _,.sl0=>some false
 | .map _ _,.map0,.map0=>some true
 | .map _ _,.map _,.map0=>some false
 |_,_,_=>none
def D8 (P:Program) (op:BinOp) (t:TypeId) (x y:AV) (k:AV->Bool):Bool:=
 match x with
 | .int kd a=>match y with
  | .int kd' b=>match op with
   | .shl=>cond (decide (0<=b)) (fI (IZ kd a b) fun n=>k (.int kd n)) false
   | .shr=>cond (decide (0<=b)) (fI (I_ kd a b) fun n=>k (.int kd n)) false
   |op=>cond (jQ kd kd') (EU op kd a b k) false
  |_=>false
 | .str a=>match y with
  | .str b=>Fj op a b k
  |_=>false
 | .agg xs=>match iD op,pY xs,y with
  |some s,some xs',.agg ys=>match pY ys with
   |some ys'=>cond (P.eqGuardType P.depth t) false (match wF P 16 t (.agg ⟨xs'⟩) (.agg ⟨ys'⟩) with
    |some b=>fB (cond s b (!b)) fun b=>k (.bool b)
    |none=>false)
   |none=>false
  |_,_,_=>false
 |x=>match iD op,P.underlying t with
  |some s,some d=>match MO d x y with
   |some b=>fB (cond s b (!b)) fun b=>k (.bool b)
   |none=>false
  |_,_=>false
def KH (op:UnOp) (x:AV) (k:AV->Bool):Bool:=
 match op,x with
 | .neg,.int kd n=>fI (kd.wrap (0 - n)) fun n=>k (.int kd n)
 | .not,.bool b=>fB (!b) fun b=>k (.bool b)
 | .xor,.int kd n=>fI (G_ kd (if kd.signed then -1 else kd.max) n) fun n=>k (.int kd n)
 |_,_=>false
def qx (ρ:Operand->AV) (x:Option Operand) (d:Int) (k:Int->Bool):Bool:=
 match x with
 |none=>k d
 |some o=>match ρ o with
  | .int _ n=>k n
  |_=>false
def FB (x:AV) (size:Nat) (l h:Int) (s:St) (k:AV->Bool):Bool:=
 cond (decide (0<=l) && decide (l<=h)) (match x with
  | .sl0=>cond (decide (h<=0)) (k .sl0) false
  | .sl i o _ cap=>cond (decide (h<=(cap:Int))) (fN (cond (Nat.beq cap l.toNat) o (o+l.toNat * size)) fun o'=>fN (h.toNat - l.toNat) fun n'=>fN (cap - l.toNat) fun c'=>k (.sl i o' n' c')) false
  | .slE i=>cond (decide (h<=0)) (k (.slE i)) false
  | .slo i o _ d=>match s.h.get i with
   |some (.row cs z true)=>cond (Nat.beq z size && (Nat.beq (d * size) o && Nat.ble (o+h.toNat * size) cs.length))
     (match l.toNat with
      |0=>fN h.toNat fun n'=>k (.slo i o n' d)
      |m+1=>cond (Nat.blt (o+(m+1) * size) cs.length) (fN (o+(m+1) * size) fun o'=>fN (h.toNat - (m+1)) fun n'=>fN (d+(m+1)) fun d'=>k (.slo i o' n' d'))
       (cond (Nat.beq (h.toNat - (m+1)) 0) (k (.slE i)) false)) false
   |_=>false
  |_=>false) false
def yH (x:AV) (size:Nat) (l h m:Int) (s:St) (k:AV->Bool):Bool:=
 cond (decide (0<=l) && (decide (l<=h) && decide (h<=m))) (match x with
  | .sl0=>cond (decide (m<=0)) (k .sl0) false
  | .sl i o _ cap=>cond (decide (m<=(cap:Int))) (fN (cond (Nat.beq m.toNat l.toNat) o (o+l.toNat * size)) fun o'=>fN (h.toNat - l.toNat) fun n'=>fN (m.toNat - l.toNat) fun c'=>k (.sl i o' n' c')) false
  | .slo i o _ d=>match s.h.get i with
   |some (.row cs z true)=>cond (Nat.beq z size && (Nat.beq (d * size) o && Nat.ble (o+m.toNat * size) cs.length))
     (fN (cond (Nat.beq m.toNat l.toNat) o (o+l.toNat * size)) fun o'=>fN (h.toNat - l.toNat) fun n'=>fN (m.toNat - l.toNat) fun c'=>k (.sl i o' n' c')) false
   |_=>false
  |_=>false) false
def uo (P:Program) (t:TypeId) (x:AV) (ρ:Operand->AV) (lo hi mx:Option Operand) (s:St) (k:AV->Bool):Bool:=
 match P.underlying t with
 |some .string=>match x,mx with
  | .str b,none=>qx ρ lo 0 fun l=>qx ρ hi (b.size:Int) fun h=>cond (decide (0<=l) && (decide (l<=h) && decide (h<=(b.size:Int)))) (k (.str ⟨⟨(b.data.toList.take h.toNat).drop l.toNat⟩⟩)) false
  |_,_=>false
 |some (.slice e)=>match aB P e,r_ x with
  |some size,some n=>cond (Nat.blt 0 size) (match mx with
   |none=>qx ρ lo 0 fun l=>qx ρ hi (n:Int) fun h=>FB x size l h s k
   |some m=>match hi with
    |some _=>qx ρ lo 0 fun l=>qx ρ hi 0 fun h=>qx ρ (some m) 0 fun m'=>yH x size l h m' s k
    |none=>false) false
  |_,_=>false
 |some (.array n e)=>match x,aB P e,mx with
  | .ptr i o,some size,none=>qx ρ lo 0 fun l=>qx ρ hi (n:Int) fun h=>cond (decide (0<=l) && (decide (l<=h) && decide (h<=(n:Int))))
    (fN (cond (Nat.beq n l.toNat) o (o+l.toNat * size)) fun o'=>fN (h.toNat - l.toNat) fun n'=>fN (n - l.toNat) fun c'=>k (.sl i o' n' c')) false
  |_,_,_=>false
 |_=>false
def MJ:List AV->Option (List UInt8)
 |[]=>some []
 | .int .u8 (.ofNat n)::r=>cond (Nat.blt n 256) (match MJ r with
  |some l=>some (UInt8.ofNat n::l)
  |none=>none) none
 |_=>none
def L9 (l:List UInt8):List AV:=l.map fun b=> .int .u8 (.ofNat b.toNat)
def zu (P:Program) (sd d:TypeId) (x:AV) (s:St) (k:AV->St->Bool):Bool:=
 match P.underlying sd,P.underlying d with
 |some (.slice e),some .string=>match P.underlying e,r_ x with
  |some (.int .u8),some n=>match Lj s 1 n x with
   |some cs=>match MJ cs with
    |some l=>k (.str ⟨⟨l⟩⟩) s
    |none=>false
   |none=>false
  |_,_=>false
 |some .string,some (.slice e)=>match P.underlying e,x with
  |some (.int .u8),.str b=>cond (Nat.ble b.size (2^62)) (jM s (.row (L9 b.data.toList) 1 true) fun i s'=>k (.slo i 0 b.size 0) s') false
  |_,_=>false
 |some (.slice _),some (.slice e)=>match P.underlying e,Nat.beq sd d,x with
  |some (.int .u8),true,.sl i _ _ _=>match s.h.get i with
   |some (.row _ _ _)=>k x s
   |_=>false
  |_,_,_=>false
 |some _,some (.int kd)=>match x with
  | .int _ n=>fI (kd.wrap n) fun n=>k (.int kd n) s
  |_=>false
 |some _,some .string=>match x with
  | .str b=>k (.str b) s
  |_=>false
 |_,_=>false
def vG (d:TypeDesc) (size off:Nat) (cs:List AV) (k:AV->Bool):Bool:=
 cond (jI d) (k (.agg ((cs.drop off).take size))) (match cs[off]? with
  |some v=>k v
  |none=>false)
def cellsA:AV->List AV
 | .agg cs=>cs
 |v=>[v]
def BJ (cs:List AV) (off:Nat) (vs:List AV):List AV:=cs.take off++(vs++cs.drop (off+vs.length))
def qW (place:Nat->Option (Nat×Nat)):List (Nat×AV)->List AV->Option (List AV)
 |[],cs=>some cs
 |(i,v)::r,cs=>match place i with
  |some (off,size)=>cond (Nat.beq (cellsA v).length size && Nat.ble (off+size) cs.length) (qW place r (BJ cs off (cellsA v))) none
  |none=>none
def wS:List (Nat×AV)->List AV->Option (List AV)
 |[],cs=>some cs
 |(i,v)::r,cs=>cond (Nat.blt i cs.length) (wS r (cs.set i v)) none
def jF (P:Program) (e:TypeId):Option (List AV):=
 match aY P e with
 |some z=>jh z
 |none=>none
def tu (P:Program) (kt:TypeId) (key:Value):List (AV×AV×Nat)->Nat->Option (Option (Nat×AV×AV))
 |[],_=>some none
 |(q,v,_)::es,i=>match xE q with
  |some q'=>match wF P 16 kt key q' with
   |some true=>some (some (i,q,v))
   |some false=>tu P kt key es (i+1)
   |none=>none
  |none=>none
def DN (P:Program) (kt:TypeId) (key:AV):Option Value:=
 match xE key with
 |some v=>cond (qB v && (wF P 16 kt v v).isSome) (some v) none
 |none=>none
def E5 (s:St) (m:AV):Option (List (AV×AV×Nat)×Nat):=
 match m with
 | .map r=>match s.h.get r with
  |some (.map es c)=>some (es,c)
  |_=>none
 |_=>none
def Dj (P:Program) (kt:TypeId) (m key:AV) (z:AV) (s:St) (k:AV->Bool->Bool):Bool:=
 match DN P kt key with
 |some kv=>match m with
  | .map0=>k z false
  |m=>match E5 s m with
   |some (es,_)=>match tu P kt kv es 0 with
    |some (some (_,_,v))=>k v true
    |some none=>k z false
    |none=>false
   |none=>false
 |none=>false
mutual
def jB:AV->AV->Bool
 | .int k n,.int k' n'=>jQ k k' && n==n'
 | .bool a,.bool b=>a==b
 | .str a,.str b=>GK a b
 | .ptr0,.ptr0=>true
 | .ptr i o,.ptr i' o'=>Nat.beq i i' && Nat.beq o o'
 | .sl0,.sl0=>true
 | .sl i o l c,.sl i' o' l' c'=>Nat.beq i i' && (Nat.beq o o' && (Nat.beq l l' && Nat.beq c c'))
 | .slo i o l c,.slo i' o' l' c'=>Nat.beq i i' && (Nat.beq o o' && (Nat.beq l l' && Nat.beq c c'))
 | .map0,.map0=>true
 | .map r,.map r'=>Nat.beq r r'
 | .fn f a b,.fn f' a' b'=>Nat.beq f f' && (fC a a' && fC b b')
 | .yld l,.yld l'=>Nat.beq l l'
 | .agg a,.agg b=>fC a b
 | .bJ a,.bJ b=>fC a b
 | .nilF,.nilF=>true
 | .nilI,.nilI=>true
 | .ifc t v,.ifc t' v'=>Nat.beq t t' && jB v v'
 |_,_=>false
def fC:List AV->List AV->Bool
 |[],[]=>true
 |a::l,b::m=>jB a b && fC l m
 |_,_=>false
end
def ET (P:Program) (kt:TypeId) (m key val:AV) (s:St) (k:St->Bool):Bool:=
 match DN P kt key with
 |some kv=>match m with
  | .map r=>match s.h.get r with
   |some (.map es c)=>match tu P kt kv es 0 with
    |some (some (i,q,_))=>cond (jB q key) (match es[i]? with
     |some (_,_,b)=>jE s r (.map (es.set i (key,val,b)) c) k
     |none=>false) false
    |some none=>jE s r (.map (es++[(key,val,c)]) (c+1)) k
    |none=>false
   |_=>false
  |_=>false
 |none=>false
def FT (P:Program) (kt:TypeId) (m key:AV) (s:St) (k:St->Bool):Bool:=
 match DN P kt key with
 |some kv=>match m with
  | .map0=>k s
  | .map r=>match s.h.get r with
   |some (.map es c)=>match tu P kt kv es 0 with
    |some (some (i,_,_))=>jE s r (.map (es.eraseIdx i) c) k
    |some none=>k s
    |none=>false
   |_=>false
  |_=>false
 |none=>false
def Lr (b:Nat):List Nat->Bool
 |[]=>false
 |x::r=>cond (Nat.beq x b) true (Lr b r)
def xM (since:Nat) (seen:List Nat):List (AV×AV×Nat)->List (AV×AV×Nat)
 |[]=>[]
 |e::es=>cond (Lr e.2.2 seen) (xM since seen es) (e::xM since seen es)
def oz (n:Nat):List (AV×AV×Nat)->Bool
 |[]=>true
 |e::es=>Nat.blt e.2.2 n && oz n es
def y8 (q:AV) (s:St) (k:AV->St->Bool):Bool:=
 match q with
 | .ptr i 0=>match s.h.get i with
  |some (.iter none _ _ _)=>k (.bJ [.bool false]) s
  |some (.iter (some m) since seen _)=>match s.h.get m with
   |some (.map es c)=>cond (oz since es && Nat.ble since c) (match xM since seen es with
     |[]=>k (.bJ [.bool false]) s
     |[(a,b,n)]=>jE s i (.iter (some m) since (seen++[n]) c) fun s'=>k (.bJ [.bool true,a,b]) s'
     |_=>false) false
   |_=>false
  |_=>false
 |_=>false
def qp (n:Nat):List (AV×AV×Nat)->Option (AV×AV)
 |[]=>none
 |e::es=>cond (Nat.beq e.2.2 n) (some (e.1,e.2.1)) (qp n es)
def wU:List (AV×AV×Nat)->Bool
 |[]=>true
 |e::es=>(match qp e.2.2 es with
  |none=>true
  |some _=>false) && wU es
def FU:List Nat->Option Nat
 |[]=>none
 |[x]=>some x
 |_::r=>FU r
def sS (q:AV) (s:St) (k:AV->Bool):Bool:=
 match q with
 | .ptr i 0=>match s.h.get i with
  |some (.iter (some m) _ seen c)=>match s.h.get m,FU seen with
   |some (.map es c'),some n=>cond (wU es && Nat.beq c c') (match qp n es with
    |some (a,b)=>k (.bJ [a,b])
    |none=>false) false
   |_,_=>false
  |_=>false
 |_=>false
def tX (mx:Bool):Int->List AV->IntKind->(AV->Bool)->Bool
 |x,[],k,f=>fI x fun x=>f (.int k x)
 |x,.int _ y::r,k,f=>tX mx (cond mx (cond (decide (y>x)) y x) (cond (decide (y<x)) y x)) r k f
 |_,_::_,_,_=>false
def KT (P:Program) (b:Builtin) (ts:List TypeId) (args:List AV) (s:St) (k:AV->St->Bool):Bool:=
 match b with
 | .len=>match ts,args with
  |[t],[x]=>match P.underlying t,x with
   |some .string,.str b=>fN b.size fun n=>k (.int .i64 (.ofNat n)) s
   |some (.array n _),_=>k (.int .i64 (.ofNat n)) s
   |some (.slice _),x=>match r_ x with
    |some n=>k (.int .i64 (.ofNat n)) s
    |none=>false
   |some (.map _ _),.map0=>k (.int .i64 (.ofNat 0)) s
   |some (.map _ _),.map r=>match s.h.get r with
    |some (.map es _)=>fN es.length fun n=>k (.int .i64 (.ofNat n)) s
    |_=>false
   |_,_=>false
  |_,_=>false
 | .cap=>match ts,args with
  |[t],[x]=>match P.underlying t,x with
   |some (.slice _),.sl0=>k (.int .i64 (.ofNat 0)) s
   |some (.slice _),.sl _ _ _ c=>k (.int .i64 (.ofNat c)) s
   |_,_=>false
  |_,_=>false
 | .max=>match args with
  | .int kd x::r=>tX true x r kd fun v=>k v s
  |_=>false
 | .min=>match args with
  | .int kd x::r=>tX false x r kd fun v=>k v s
  |_=>false
 | .append=>match ts,args with
  |[t,t'],[x,y]=>match P.underlying t,P.underlying t' with
   |some (.slice e),some d=>match aB P e,jL P e,aY P e with
    |some size,some bytes,some z=>match d with
     | .slice _=>match r_ y with
      |some n=>match Lj s size n y with
       |some vs=>wI size bytes z.length x n vs s k
       |none=>false
      |none=>false
     | .string=>match y with
      | .str b=>wI size bytes z.length x b.size (L9 b.data.toList) s k
      |_=>false
     | .int _=>match y,jh z with
      | .int _ (.ofNat n),some za=>cond (Nat.beq z.length size && (Nat.ble (n * bytes) (2^46) && Nat.ble n (2^62))) (wI size bytes z.length x n (xX za n) s k) false
      |_,_=>false
     |_=>false
    |_,_,_=>false
   |_,_=>false
  |_,_=>false
 | .copy=>match ts,args with
  |[t,_],[x,y]=>match P.underlying t with
   |some (.slice e)=>match aB P e,r_ x,r_ y with
    |some size,some n,some m=>match Lj s size (Nat.min m n) y with
     |some vs=>match x with
      | .sl i o _ _=>D5 s i o vs fun s'=>k (.int .i64 (.ofNat (Nat.min m n))) s'
      | .slo i o _ _=>D5 s i o vs fun s'=>k (.int .i64 (.ofNat (Nat.min m n))) s'
      | .sl0=>k (.int .i64 (.ofNat 0)) s
      |_=>false
     |none=>false
    |_,_,_=>false
   |_=>false
  |_,_=>false
 | .clear=>match ts,args with
  |[t],[x]=>match P.underlying t with
   |some (.slice e)=>match aB P e,jF P e,x with
    |some size,some z,.sl i o n _=>cond (Nat.beq z.length size) (D5 s i o (xX z n) fun s'=>k (.bJ []) s') false
    |some size,some z,.slo i o n _=>cond (Nat.beq z.length size) (D5 s i o (xX z n) fun s'=>k (.bJ []) s') false
    |some size,some z,.sl0=>cond (Nat.beq z.length size) (k (.bJ []) s) false
    |_,_,_=>false
   |_=>false
  |_,_=>false
 | .delete=>match ts,args with
  |[t,_],[m,key]=>match P.underlying t with
   |some (.map kt _)=>FT P kt m key s fun s'=>k (.bJ []) s'
   |_=>false
  |_,_=>false
 |_=>false
def JJ:List AV->AV
 |[v]=>v
 |vs=> .bJ vs
section
variable (P:Program)
def BN (c a b:AV) (s:St) (k:AV->St->Bool):Bool:=
 match c with
 | .bool t=>cond t (k a s) (k b s)
 |_=>false
def xk (e:TypeId) (s:St) (k:AV->St->Bool):Bool:=
 match jF P e with
 |some z=>jM s (.row z 1 false) fun i s'=>k (.ptr i 0) s'
 |none=>false
def Gn (e:TypeId) (x:AV) (s:St) (k:AV->St->Bool):Bool:=
 match shapeOf P e with
 |some (.one _)=>cond (one x) (jM s (.row [x] 1 false) fun i s'=>k (.ptr i 0) s') false
 |some (.agg _)=>match x with
  | .agg cs=>jM s (.row cs 1 false) fun i s'=>k (.ptr i 0) s'
  |_=>false
 |none=>false
def wL (t:TypeId) (ps:List (Nat×AV)) (k:AV->Bool):Bool:=
 match jF P t,P.underlying t with
 |some z,some (.struct fs)=>match placesOf P fs.toList with
  |some pl=>match qW (fun i=>pl[i]?) ps z with
   |some cs=>k (.agg cs)
   |none=>false
  |none=>false
 |some z,some (.array _ e)=>match aB P e with
  |some size=>match qW (fun i=>some (i * size,size)) ps z with
   |some cs=>k (.agg cs)
   |none=>false
  |none=>false
 |_,_=>false
def rO (t:TypeId) (n:Nat) (ps:List (Nat×AV)) (s:St) (k:AV->St->Bool):Bool:=
 match P.underlying t with
 |some (.slice e)=>match aB P e,jF P e with
  |some size,some z=>cond (Nat.ble (n * size) 4096 && Nat.beq z.length size)
   (cond (u_ (shapeOf P e)) (cond (Nat.beq size 1 && ji (ps.map fun p=>p.2)) (match wS ps (xX z n) with
    |some cs=>jM s (.row cs size false) fun i s'=>k (.sl i 0 n n) s'
    |none=>false) false)
    (match qW (fun i=>some (i * size,size)) ps (xX z n) with
    |some cs=>jM s (.row cs size false) fun i s'=>k (.sl i 0 n n) s'
    |none=>false)) false
  |_,_=>false
 |_=>false
def LU (t:TypeId) (x:AV) (s:St) (k:AV->St->Bool):Bool:=
 match x,shapeOf P t,aB P t with
 | .ptr i a,some (.one kd),some n=>cond (Nat.beq 1 n) (match Ee s i a 1 with
  |some [v]=>cond (Gx kd v) (k v s) false
  |_=>false) false
 | .ptr i a,some (.agg ks),some n=>cond (Nat.beq ks.length n) (match Ee s i a n with
  |some vs=>cond (sV ks vs) (k (.agg vs) s) false
  |none=>false) false
 |_,_,_=>false
def LW (t:TypeId) (x y:AV) (s:St) (k:AV->St->Bool):Bool:=
 match x,shapeOf P t,aB P t with
 | .ptr i a,some (.one _),some n=>cond (Nat.beq n 1) (D5 s i a [y] fun s'=>k (.bJ []) s') false
 | .ptr i a,some (.agg _),some n=>match y with
  | .agg cs=>cond (Nat.beq cs.length n) (D5 s i a cs fun s'=>k (.bJ []) s') false
  |_=>false
 |_,_,_=>false
def ML (x:AV) (k:AV->Bool):Bool:=
 match x with
 | .ptr i a=>k (.ptr i a)
 |_=>false
def IL (fn:Fn) (first cap:List AV) (k:AV->Bool):Bool:=
 match fn with
 | .func f=>k (.fn f first cap)
 |_=>false
def BP (t:TypeId) (m key:AV) (c:Bool) (s:St) (k:AV->St->Bool):Bool:=
 match P.underlying t with
 |some (.map kt et)=>match shapeOf P et,eH P et with
  |some sh,some z=>match lQ z with
   |some za=>Dj P kt m key za s fun v b=>cond (IW sh v) (cond c (k (.bJ [v,.bool b]) s) (k v s)) false
   |none=>false
  |_,_=>false
 |_=>false
def Jj (t:TypeId) (m key v:AV) (s:St) (k:AV->St->Bool):Bool:=
 match P.underlying t with
 |some (.map kt _)=>ET P kt m key v s fun s'=>k (.bJ []) s'
 |_=>false
def Bz (t:TypeId) (m key:AV) (s:St) (k:AV->St->Bool):Bool:=
 match P.underlying t with
 |some (.map kt et)=>match eH P et with
  |some z=>match lQ z,DN P kt key,m with
   |some za,some kv,.map r=>match s.h.get r with
    |some (.map es c)=>match tu P kt kv es 0 with
     |some (some (i,q,v))=>cond (jB q key) (match es[i]? with
      |some (_,v',b)=>jE s r (.map (es.set i (key,v',b)) c) fun s'=>k (.bJ [v',.int .i64 (.ofNat b)]) s'
      |none=>false) false
     |some none=>jE s r (.map (es++[(key,za,c)]) (c+1)) fun s'=>k (.bJ [za,.int .i64 (.ofNat c)]) s'
     |none=>false
    |_=>false
   |_,_,_=>false
  |none=>false
 |_=>false
def GN (n:Nat):List (AV×AV×Nat)->Option Nat
 |[]=>none
 |e::es=>cond (Nat.beq e.2.2 n) (some 0) (match GN n es with
  |some i=>some (i+1)
  |none=>none)
def Gi (m st v:AV) (s:St) (k:AV->St->Bool):Bool:=
 match m,st with
 | .map r,.int _ (.ofNat n)=>match s.h.get r with
  |some (.map es c)=>match GN n es with
   |some i=>match es[i]? with
    |some (q,_,b)=>jE s r (.map (es.set i (q,v,b)) c) fun s'=>k (.bJ []) s'
    |none=>false
   |none=>false
  |_=>false
 |_,_=>false
def Jg (s:St) (k:AV->St->Bool):Bool:=jM s (.map [] 0) fun i s'=>k (.map i) s'
def Jm (t:TypeId) (l c:AV) (s:St) (k:AV->St->Bool):Bool:=
 match P.underlying t,l,c with
 |some (.slice e),.int _ (.ofNat n),.int _ (.ofNat m)=>match aB P e,jL P e,jF P e with
  |some size,some bytes,some z=>cond (Nat.beq z.length size && (Nat.ble n m && (Nat.ble m (2^62) && Nat.ble (bytes * m) (2^48)))) (jM s (.row (xX z m) size false) fun i s'=>k (.sl i 0 n m) s') false
  |_,_,_=>false
 |_,_,_=>false
def Mc (t:TypeId) (x:AV) (f:Nat) (k:AV->Bool):Bool:=
 match P.underlying t,x with
 |some (.struct fs),.ptr i a=>match iy P fs f with
  |some (off,size)=>cond (Nat.beq size 0) false (fN (a+off) fun a'=>k (.ptr i a'))
  |none=>false
 |_,_=>false
def MB (t:TypeId) (x:AV) (f:Nat) (k:AV->Bool):Bool:=
 match P.underlying t,x with
 |some (.struct fs),.agg cs=>match fs.toList[f]? with
  |some fd=>match P.underlying fd.type,aB P fd.type with
   |some d,some size=>vG d size fd.offset cs k
   |_,_=>false
  |none=>false
 |_,_=>false
def L6 (t:TypeId) (x i:AV) (k:AV->Bool):Bool:=
 match P.underlying t,x,i with
 |some (.slice e),x,.int _ (.ofNat i)=>match aB P e,x with
  |some size,.sl b o len _=>cond (Nat.blt i len) (fN (o+i * size) fun a=>k (.ptr b a)) false
  |some size,.slo b o len _=>cond (Nat.blt i len) (fN (o+i * size) fun a=>k (.ptr b a)) false
  |_,_=>false
 |some (.array n e),.ptr b o,.int _ (.ofNat i)=>match aB P e with
  |some size=>cond (Nat.blt i n) (fN (o+i * size) fun a=>k (.ptr b a)) false
  |none=>false
 |_,_,_=>false
def LZ (t:TypeId) (x i:AV) (k:AV->Bool):Bool:=
 match P.underlying t,x,i with
 |some .string,.str b,.int _ (.ofNat i)=>match b.data.toList[i]? with
  |some c=>fN c.toNat fun n=>k (.int .u8 (.ofNat n))
  |none=>false
 |some (.array n e),.agg cs,.int _ (.ofNat i)=>match P.underlying e,aB P e with
  |some d,some size=>cond (Nat.blt i n) (vG d size (i * size) cs k) false
  |_,_=>false
 |_,_,_=>false
def L8 (ty:TypeId) (t:AV) (i:Nat) (k:AV->Bool):Bool:=
 match t with
 | .bJ vs=>match vs[i]? with
  |some v=>match shapeOf P ty with
   |some (.one kd)=>cond (Gx kd v) (k v) false
   |_=>k v
  |none=>false
 |_=>false
def MF (t:TypeId) (x:AV) (s:St) (k:AV->St->Bool):Bool:=
 match P.underlying t,x with
 |some (.map _ _),.map0=>jM s (.iter none 0 [] 0) fun i s'=>k (.ptr i 0) s'
 |some (.map _ _),.map r=>match s.h.get r with
  |some (.map _ c)=>jM s (.iter (some r) c [] c) fun i s'=>k (.ptr i 0) s'
  |_=>false
 |_,_=>false
def JX (cb:Cb) (ty:TypeId) (f:FuncId) (args:List AV) (s:St) (k:AV->St->Bool):Bool:=
 match gV P ty with
 |some sh=>cond (dD P f) (cb.call f args s fun rs s'=>cond (oP sh rs) (k (JJ rs) s') false) false
 |none=>false
def L_ (cb:Cb) (ty:TypeId) (v:AV) (args:List AV) (s:St) (k:AV->St->Bool):Bool:=
 match gV P ty,v with
 |some sh,.fn f first cap=>cond (dD P f) (cb.call f (first++(args++cap)) s fun rs s'=>cond (oP sh rs) (k (JJ rs) s') false) false
 |some sh,.yld l=>cb.yld l args s fun b s'=>cond (oP sh [.bool b]) (k (.bool b) s') false
 |_,_=>false
def MR (cb:Cb) (ty:TypeId) (x:AV) (name:String) (args:List AV) (s:St) (k:AV->St->Bool):Bool:=
 match x with
 | .ifc t v=>match P.underlying t,xq P t name with
  |some d,some f=>cond (qA d) false (JX P cb ty f (v::args) s k)
  |_,_=>false
 |_=>false
def GH (t:TypeId) (x:AV) (k:AV->Bool):Bool:=
 match P.underlying t with
 |some (.interface _)=>false
 |some _=>k (.ifc t x)
 |none=>false
def BH (op:BinOp) (t:TypeId) (x y:AV) (k:AV->Bool):Bool:=
 match iD op,P.underlying t,x,y with
 |some s,some (.interface _),.nilI,.nilI=>k (.bool s)
 |some s,some (.interface _),.ifc _ _,.nilI=>fB (!s) fun s=>k (.bool s)
 |_,_,_,_=>false
def Gz (op:BinOp) (t:TypeId) (ρ:Operand->AV) (x y:Operand) (k:AV->Bool):Bool:=
 match y with
 | .const .nilIface=>BH P op t (ρ x) (ρ (.const .nilIface)) k
 |y=>D8 P op t (ρ x) (ρ y) k
def MH (t:TypeId) (x:AV) (ok:Bool) (k:AV->Bool):Bool:=
 match P.underlying t,eH P t with
 |some (.interface _),_=>false
 |some _,some z=>match x with
  | .ifc t' v=>cond (Nat.beq t' t) (k (cond ok (.bJ [v,.bool true]) v)) (cond ok (match lQ z with
   |some a=>k (.bJ [a,.bool false])
   |none=>false) false)
  | .nilI=>cond ok (match lQ z with
   |some a=>k (.bJ [a,.bool false])
   |none=>false) false
  |_=>false
 |_,_=>false
def LY (cb:Cb) (ty:TypeId) (ρ:Operand->AV) (c:Callee) (ts:List TypeId) (args:List AV) (s:St) (k:AV->St->Bool):Bool:=
 match c with
 | .value x=>match x with
  | .func f=>JX P cb ty f args s k
  |x=>L_ P cb ty (ρ x) args s k
 | .builtin b=>KT P b ts args s k
 | .invoke x name=>MR P cb ty (ρ x) name args s k
def opC (cb:Cb) (op:Op) (ty:TypeId) (ρ:Operand->AV) (s:St) (k:AV->St->Bool):Bool:=
 match op with
 | .move x=>k (ρ x) s
 | .assign x=>k (ρ x) s
 | .pick c a b=>BN (ρ c) (ρ a) (ρ b) s k
 | .alloc e=>xk P e s k
 | .box e x=>Gn P e (ρ x) s k
 | .build t ps=>wL P t (ps.toList.map fun p=>(p.1,ρ p.2)) fun v=>k v s
 | .buildSlice t n ps=>rO P t n (ps.toList.map fun p=>(p.1,ρ p.2)) s k
 | .load t x=>LU P t (ρ x) s k
 | .store t x y=>LW P t (ρ x) (ρ y) s k
 | .nilCheck x=>ML (ρ x) fun v=>k v s
 | .binOp op t x y _=>Gz P op t ρ x y fun v=>k v s
 | .unOp op _ x=>KH op (ρ x) fun v=>k v s
 | .convert sd d x=>zu P sd d (ρ x) s k
 | .makeFunc fn first cap=>IL fn (first.toList.map ρ) (cap.toList.map ρ) fun v=>k v s
 | .lookup t x i c=>BP P t (ρ x) (ρ i) c s k
 | .mapUpdate t x i v=>Jj P t (ρ x) (ρ i) (ρ v) s k
 | .mapEntry t x i=>Bz P t (ρ x) (ρ i) s k
 | .entryStore _ x st v=>Gi (ρ x) (ρ st) (ρ v) s k
 | .makeMap _ none=>Jg s k
 | .makeSlice t l c=>Jm P t (ρ l) (ρ c) s k
 | .slice t x lo hi mx=>uo P t (ρ x) ρ lo hi mx s fun v=>k v s
 | .fieldAddr t x f=>Mc P t (ρ x) f fun v=>k v s
 | .field t x f=>MB P t (ρ x) f fun v=>k v s
 | .indexAddr t x i=>L6 P t (ρ x) (ρ i) fun v=>k v s
 | .index t x i=>LZ P t (ρ x) (ρ i) fun v=>k v s
 | .extract t i=>L8 P ty (ρ t) i fun v=>k v s
 | .range t x=>MF P t (ρ x) s k
 | .next x false=>y8 (ρ x) s k
 | .entry x=>sS (ρ x) s fun v=>k v s
 | .makeInterface t x=>GH P t (ρ x) fun v=>k v s
 | .typeAssert x _ t ok=>MH P t (ρ x) ok fun v=>k v s
 | .call c=>LY P cb ty ρ c.callee c.argTypes.toList (c.args.toList.map ρ) s k
 |_=>false
end
end
end Gp.Rn
end
section
namespace Gp.Rn
open Go Gp
noncomputable section
mutual
def JZ:JL->JL->Bool
 | .no,.no=>true
 | .ret,.ret=>true
 | .ex a,.ex b=>Nat.beq a b
 |_,_=>false
end
def J9:LoopState->LoopState->Bool
 | .ready,.ready=>true
 | .busy,.busy=>true
 | .done,.done=>true
 | .exhausted,.exhausted=>true
 |_,_=>false
def Gy:List (AV×AV×Nat)->List (AV×AV×Nat)->Bool
 |[],[]=>true
 |(a,b,n)::l,(a',b',n')::l'=>jB a a' && (jB b b' && (Nat.beq n n' && Gy l l'))
 |_,_=>false
def H7:List Nat->List Nat->Bool
 |[],[]=>true
 |a::l,b::l'=>Nat.beq a b && H7 l l'
 |_,_=>false
def MZ:Option Nat->Option Nat->Bool
 |none,none=>true
 |some a,some b=>Nat.beq a b
 |_,_=>false
def MW (a b:Bool):Bool:=cond a b (!b)
def Am:AB->AB->Bool
 | .row cs z p,.row cs' z' p'=>fC cs cs' && (Nat.beq z z' && MW p p')
 | .map es c,.map es' c'=>Gy es es' && Nat.beq c c'
 | .iter m a l c,.iter m' a' l' c'=>MZ m m' && (Nat.beq a a' && (H7 l l' && Nat.beq c c'))
 | .loop a j,.loop a' j'=>J9 a a' && JZ j j'
 | .mark,.mark=>true
 | .dead,.dead=>true
 |_,_=>false
def uU:Tr->Tr->Bool
 | .lf,.lf=>true
 | .nd v l r,.nd v' l' r'=>(match v,v' with
  |none,none=>true
  |some a,some b=>Am a b
  |_,_=>false) && (uU l l' && uU r r')
 |_,_=>false
def qC (e e':AE):List (Nat×AV)->Bool
 |[]=>true
 |(t,_)::r=>(match e.get t,e'.get t with
  |some a,some b=>jB a b
  |_,_=>false) && qC e e' r
structure BM where
 nt:Nat
 ps:List Nat
 ks:List Shape
 x:jO
 y:jO
 assign:Code
 body:Code
 env:AE
abbrev mP:=List (Nat×BM)
def mP.get:mP->Nat->Option BM
 |[],_=>none
 |(l,i)::r,m=>cond (Nat.beq l m) (some i) (mP.get r m)
abbrev KC:=Exit->AE->List Nat->St->Bool
abbrev RunT:=Nat->Code->Option Nat->jO->AE->List Nat->mP->St->KC->Bool
section
variable (P:Program) (cb:Cb) (nt:Nat)
def MN:Op->Option Operand
 | .move x=>some x
 | .assign x=>some x
 |_=>none
def xU (o:Oper) (e:AE) (s:St) (k:AE->St->Bool):Bool:=
 match MN o.op with
 |some x=>match IG e x with
  |some v=>cond (cO nt o.dst) (k (e.put o.dst v) s) false
  |none=>false
 |none=>cond (cO nt o.dst) (match evs e o.op.operands.toList with
  |some _=>opC P cb o.op o.type (fun x=>(IG e x).getD (.bJ [])) s fun v s'=>k (e.put o.dst v) s'
  |none=>false) false
def mZ (ops:List Oper) (o:Oper) (e:AE) (s:St) (k:AE->St->Bool):Bool:=
 match o.guard with
 |none=>xU P cb nt o e s k
 |some (j,want)=>match (ops[j]?).bind (·.dst) with
  |some d=>match e.get d with
   |some (.bool t)=>cond (t==want) (xU P cb nt o e s k) (cond (cO nt o.dst) (k (e.put o.dst (.bJ [])) s) false)
   |some (.bJ _)=>cond (cO nt o.dst) (k (e.put o.dst (.bJ [])) s) false
   |_=>false
  |none=>false
def CU (ops:List Oper) (l:List Oper):AE->St->(AE->St->Bool)->Bool:=
 List.rec (motive:=fun _=>AE->St->(AE->St->Bool)->Bool) (fun e s k=>k e s) (fun o _ ih e s k=>mZ P cb nt ops o e s fun e' s'=>ih e' s' k) l
theorem opsC_cons (ops:List Oper) (o:Oper) (r:List Oper) (e:AE) (s:St) (k:AE->St->Bool):CU P cb nt ops (o::r) e s k=mZ P cb nt ops o e s fun e' s'=>CU P cb nt ops r e' s' k:=rfl
def wW (sh:Shape) (a v:AV) (s:St):Bool:=
 match sh,a with
 | .one _,.ptr i o=>match Ee s i o 1 with
  |some [u]=>jB v u
  |_=>false
 | .agg _,.ptr i o=>match v with
  | .agg vs=>match Ee s i o vs.length with
   |some us=>fC vs us
   |none=>false
  |_=>false
 |_,_=>false
def nX (pb:Nat) (s:St):List (Nat×Shape×AV×AV)->Bool
 |[]=>true
 |(i,sh,a,v)::r=>cond (Nat.testBit pb i) (nX pb s r) (wW sh a v s && nX pb s r)
def BG (ops:List Oper) (o:Oper) (e:AE):Bool:=
 match o.guard with
 |none=>true
 |some (j,want)=>match (ops[j]?).bind (·.dst) with
  |some d=>match e.get d with
   |some (.bool t)=>t==want
   |some (.bJ _)=>false
   |_=>true
  |none=>true
def F5 (ops:List Oper) (i:Nat) (o:Oper) (e e':AE) (ld:List (Nat×Shape×AV×AV)):Option (List (Nat×Shape×AV×AV)):=
 match o.op,o.dst with
 | .load t x,some d=>cond (BG ops o e) (match shapeOf P t with
  |some sh=>match IG e x,e'.get d with
   |some a,some v=>some ((i,sh,a,v)::ld)
   |_,_=>none
  |none=>some ld) (some ld)
 |_,_=>some ld
def Lu:List (Nat×Nat)->Nat->Nat->Nat
 |[],_,d=>d
 |(i,n)::r,j,d=>cond (Nat.beq i j) n (Lu r j d)
abbrev KD:=AE->St->List (Nat×Nat)->Bool
abbrev H9:=Option (List (Nat×Nat))->List (Nat×Nat)->List Nat->List (Nat×Shape×AV×AV)->AE->St->KD->Bool
def ny (ops:List Oper) (pbs:List Nat) (prev:H9) (l acc:List (Nat×Nat)) (done:List Nat) (ld:List (Nat×Shape×AV×AV)) (e:AE) (s:St) (k:KD):List (Nat×Oper)->Bool
 |[]=>true
 |x::r=>mZ P cb nt ops x.2 e ⟨s.h,Lu l x.1 s.n⟩ (fun e' s'=>cond (nX (pbs.getD x.1 0) s' ld) (prev (some l) acc (x.1::done) ld e' s' k) false) && ny ops pbs prev l acc done ld e s k r
def FV (ops:List Oper) (pbs:List Nat) (prev:H9) (rp:Option (List (Nat×Nat))) (acc:List (Nat×Nat)) (done:List Nat) (ld:List (Nat×Shape×AV×AV)) (e:AE) (s:St) (k:KD) (i:Nat) (o:Oper) (es:List (Nat×Oper)):Bool:=
 match rp with
 |none=>mZ P cb nt ops o e s fun e' s'=>cond (nX (pbs.getD i 0) s' ld) (prev none ((i,s.n)::acc) (i::done) ld e' s' fun e0 s0 acc0=>
   ny P cb nt ops pbs prev acc0 [] done ld e s (fun e1 s1 _=>qC e0 e1 e0 && uU s0.h s1.h) es && k e0 s0 acc0) false
 |some l=>ny P cb nt ops pbs prev l acc done ld e s k ((i,o)::es)
def uy (ops:List Oper) (pbs:List Nat) (prev:H9):H9:=fun rp acc done ld e s k=>
 match fO P done (enumFrom 0 ops) with
 |some (i,o)=>mZ P cb nt ops o e s fun e' s'=>match F5 P ops i o e e' ld with
  |some ld'=>prev rp acc (i::done) ld' e' s' k
  |none=>false
 |none=>match jq P done (enumFrom 0 ops) with
  |[]=>cond (Nat.beq done.length ops.length) (k e s acc) false
  |(i,o)::es=>FV P cb nt ops pbs prev rp acc done ld e s k i o es
def uG (ops:List Oper) (pbs:List Nat) (n:Nat):H9:=
 Nat.rec (motive:=fun _=>H9) (fun _ _ _ _ _ _ _=>false) (fun _ prev=>uy P cb nt ops pbs prev) n
end
def yF:List (Nat×Kind)->AE->Option AE
 |[],_=>some []
 |(t,kd)::r,e=>match e.get t with
  |some v=>cond (Gx kd v) (match yF r e with
   |some l=>some ((t,v)::l)
   |none=>none) none
  |none=>none
def ES:Nat->List AV->AE
 |_,[]=>[]
 |i,v::vs=>(i,v)::ES (i+1) vs
def Bg:List Nat->List AV->AE
 |[],_=>[]
 |_::_,[]=>[]
 |s::r,v::vs=>(s,v)::Bg r vs
def jX:List Nat->St->(St->Bool)->Bool
 |[],s,k=>k s
 |D::ds,s,k=>match s.h.get D with
  |some .mark=>jE s D .dead fun s'=>jX ds s' k
  |_=>false
def rV (P:Program):List ResultVar->AE->St->Option (List AV)
 |[],_,_=>some []
 | .tmp t::r,e,s=>match e.get t,rV P r e s with
  |some v,some l=>some (v::l)
  |_,_=>none
 | .cell a t::r,e,s=>match e.get a,shapeOf P t,aB P t with
  |some (.ptr i o),some (.one kd),some n=>cond (Nat.beq 1 n) (match Ee s i o 1,rV P r e s with
   |some [v],some l=>cond (Gx kd v) (some (v::l)) none
   |_,_=>none) none
  |some (.ptr i o),some (.agg ks),some n=>cond (Nat.beq ks.length n) (match Ee s i o n,rV P r e s with
   |some vs,some l=>cond (sV ks vs) (some (.agg vs::l)) none
   |_,_=>none) none
  |_,_,_=>none
structure oD where
 f:FuncId
 args:List AV
 s:St
 rs:List AV
 t:St
structure Tab where
 ann:Nat->Option jO
 memo:List oD
def uz:List oD->FuncId->List AV->St->Option (List AV×St)
 |[],_,_,_=>none
 |m::r,f,args,s=>cond (Nat.beq m.f f) (cond (Nat.beq m.s.n s.n) (cond (fC m.args args && uU m.s.h s.h) (some (m.rs,m.t)) (uz r f args s)) (uz r f args s)) (uz r f args s)
section
variable (P:Program) (A:Tab) (prev:RunT)
def wC (Γ:mP) (f:FuncId) (args:List AV) (s:St) (k:List AV->St->Bool):Bool:=
 match P.funcs[f]?,A.ann f with
 |some fn,some an=>match fn.body with
  |some c=>cond (Nat.ble args.length fn.ntmps) (prev fn.ntmps c none an (ES 0 args) [] Γ s fun e env ds s'=>
   match e with
   | .normal=>jX ds s' fun s''=>match rV P fn.results.toList env s'' with
    |some vs=>k vs s''
    |none=>false
   | .ret=>jX ds s' fun s''=>match rV P fn.results.toList env s'' with
    |some vs=>k vs s''
    |none=>false
   |_=>false) false
  |none=>false
 |_,_=>false
def gU (Γ:mP) (f:FuncId) (args:List AV) (s:St) (k:List AV->St->Bool):Bool:=
 match uz A.memo f args s with
 |some (rs,t)=>k rs t
 |none=>wC P A prev Γ f args s k
def cb0:Cb:=⟨fun _ _ _ _=>false,fun _ _ _ _=>false⟩
def uJ (nt:Nat):Code->jO->AE->St->(AE->St->Bool)->Bool
 | .skip,_,e,s,k=>k e s
 | .region _ ops draw,_,e,s,k=>cond draw false (CU P cb0 nt ops.toList ops.toList e s k)
 | .seq a b,an,e,s,k=>match an with
  | .seq x y=>uJ nt a x e s fun e' s'=>uJ nt b y e' s' k
  |_=>false
 |_,_,_,_,_=>false
def sG (Γ:mP) (l:Nat) (args:List AV) (s:St) (k:Bool->St->Bool):Bool:=
 match Γ.get l,s.h.get l with
 |some i,some (.loop .ready p)=>cond (oP i.ks args) (uJ P i.nt i.assign i.x (Bg i.ps args++i.env) s fun env1 s1=>jE s1 l (.loop .busy p) fun s2=>prev i.nt i.body (some l) i.y env1 [] Γ s2 fun e _ _ s3=>match s3.h.get l with
    |some (.loop .busy p3)=>cond (JZ p3 p) (match e with
     | .normal=>jE s3 l (.loop .ready .no) fun s4=>k true s4
     | .ret=>jE s3 l (.loop .done .ret) fun s4=>k false s4
     | .exit id=>jE s3 l (.loop .done (.ex id)) fun s4=>k false s4
     |_=>false) false
    |_=>false) false
 |_,_=>false
def EH (Γ:mP):Cb:=⟨gU P A prev Γ,sG P prev Γ⟩
def B_ (nt:Nat) (g:Operand) (ps:List Nat) (assign body:Code) (ks:List Shape) (x y:jO) (env:AE) (ds:List Nat) (Γ:mP) (m:Option Nat) (s:St) (k:KC):Bool:=
 match IG env g with
 |some (.fn f first cap)=>cond (dD P f) (jM s (.loop .ready .no) fun l s1=>
   gU P A prev ((l,⟨nt,ps,ks,x,y,assign,body,env⟩)::Γ) f (first++(.yld l::cap)) s1 fun rs s2=>match rs,s2.h.get l with
    |[],some (.loop st p)=>cond (J9 st .busy) false (jE s2 l .dead fun s3=>
      match p with
      | .no=>k .normal env (m.toList++ds) s3
      | .ret=>k .ret env (m.toList++ds) s3
      | .ex id=>cond (gK id (dJ body)) (k (.exit id) env (m.toList++ds) s3) false)
    |_,_=>false) false
 |_=>false
def Hf (nt:Nat) (ops:List Oper) (draw:Bool) (env:AE) (ds:List Nat) (Γ:mP) (s:St) (k:KC):Bool:=
 cond draw (cond (lM ops (fU ops [])) (uG P (EH P A prev Γ) nt ops (fU ops []) (ops.length+1) none [] [] [] env s fun e s' _=>k .normal e ds s') false)
  (CU P (EH P A prev Γ) nt ops ops env s fun e s'=>k .normal e ds s')
def Ja (nt:Nat) (b:Code) (r:Option Nat) (y:jO) (Γ:mP) (k:KC):KC:=fun e env' ds' s'=>
 match e with
 | .normal=>prev nt b r y env' ds' Γ s' k
 |e=>k e env' ds' s'
def EG (nt:Nat) (a b:Code) (r:Option Nat) (an:jO) (env:AE) (ds:List Nat) (Γ:mP) (s:St) (k:KC):Bool:=
 match an with
 | .seq x y=>prev nt a r x env ds Γ s (Ja prev nt b r y Γ k)
 |_=>false
def condC (nt:Nat) (c:Operand) (a b:Code) (r:Option Nat) (an:jO) (env:AE) (ds:List Nat) (Γ:mP) (s:St) (k:KC):Bool:=
 match an with
 | .cond x y=>match IG env c with
  |some (.bool t)=>cond t (prev nt a r x env ds Γ s k) (prev nt b r y env ds Γ s k)
  |_=>false
 |_=>false
def Je (id:Nat) (k:KC):KC:=fun e env' ds' s'=>
 match e with
 | .exit id'=>cond (Nat.beq id' id) (k .normal env' ds' s') (k (.exit id') env' ds' s')
 |e=>k e env' ds' s'
def Ep (nt:Nat) (id:Nat) (a:Code) (r:Option Nat) (an:jO) (env:AE) (ds:List Nat) (Γ:mP) (s:St) (k:KC):Bool:=
 match an with
 | .blk x=>prev nt a r x env ds Γ s (Je id k)
 |_=>false
def FD (k:KC):KC:=fun e env' ds' s'=>
 match e with
 | .goto _=>false
 |e=>k e env' ds' s'
abbrev Md:=AE->List Nat->St->Bool
def sN (nt:Nat) (a:Code) (r:Option Nat) (x:jO) (st:List (Nat×Kind)) (base:AE) (Γ:mP) (k:KC) (next:Md):Md:=fun l ds s=>
 prev nt a r x (l++base) ds Γ s fun e env' ds' s'=>match e with
  | .normal=>match yF st env' with
   |some l'=>next l' (cond (bg a) ds' ds) s'
   |none=>false
  |e=>k e env' ds' s'
def uN (nt:Nat) (a:Code) (r:Option Nat) (x:jO) (st:List (Nat×Kind)) (base:AE) (Γ:mP) (k:KC) (n:Nat):Md:=
 Nat.rec (motive:=fun _=>Md) (fun _ _ _=>false) (fun _ next=>sN prev nt a r x st base Γ k next) n
def J3 (nt:Nat) (a:Code) (r:Option Nat) (an:jO) (env:AE) (ds:List Nat) (Γ:mP) (s:St) (k:KC):Bool:=
 match an with
 | .loop st x=>match yF st env with
  |some l=>uN prev nt a r x st (AE.without (writes a) env) Γ k 1000000 l ds s
  |none=>false
 |_=>false
def J6 (nt:Nat) (g:Operand) (ps:List Nat) (assign body:Code) (r:Option Nat) (an:jO) (env:AE) (ds:List Nat) (Γ:mP) (s:St) (k:KC):Bool:=
 match an with
 | .rng ks x y=>cond (!bg assign && (Nat.beq ps.length ks.length && (j_ ps && ps.all fun s=>Nat.blt s nt)))
   (match r with
    |none=>jM s .mark fun m s1=>B_ P A prev nt g ps assign body ks x y env ds Γ (some m) s1 k
    |some l0=>match s.h.get l0 with
     |some (.loop _ _)=>B_ P A prev nt g ps assign body ks x y env ds Γ none s k
     |_=>false) false
 |_=>false
def A_:RunT:=fun nt c r an env ds Γ s k=>
 match c with
 | .skip=>k .normal env ds s
 | .label _=>k .normal env ds s
 | .ret=>k .ret env ds s
 | .exit id=>k (.exit id) env ds s
 | .region _ ops draw=>Hf P A prev nt ops.toList draw env ds Γ s k
 | .seq a b=>EG prev nt a b r an env ds Γ s k
 | .cond c a b=>condC prev nt c a b r an env ds Γ s k
 | .block id a=>Ep prev nt id a r an env ds Γ s k
 | .scope a=>prev nt a r an env ds Γ s (FD k)
 | .loop a=>J3 prev nt a r an env ds Γ s k
 | .rangeFunc g ps assign body=>J6 P A prev nt g ps.toList assign body r an env ds Γ s k
 |_=>false
end
def run (P:Program) (A:Tab) (n:Nat):RunT:=
 Nat.rec (motive:=fun _=>RunT) (fun _ _ _ _ _ _ _ _ _=>false) (fun _ prev=>A_ P A prev) n
def JD (P:Program) (A:Tab) (n:Nat) (f:FuncId) (k:List AV->St->Bool):Bool:=gU P A (run P A n) [] f [] ⟨.lf,0⟩ k
end
end Gp.Rn
end
