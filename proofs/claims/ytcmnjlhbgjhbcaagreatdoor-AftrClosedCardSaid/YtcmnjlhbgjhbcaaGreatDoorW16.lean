import Derived.Test.YtcmnjlhbgjhbcaaGreatDoorW15
import Derived.Test.YtcmnjlhbgjhbcaaGreatDoorW13
open Bool (and_eq_true)
set_option maxRecDepth 100000
set_option maxHeartbeats 4000000
section
namespace Gp.Rn
open Go Gp
def afr:AB->Bool
 | .dead=>true
 |_=>false
def BQ {α:Type}:Option α->Bool
 |some _=>true
 |none=>false
mutual
def ZR (h:Tr):AV->Bool
 | .ptr i _=>BQ (h.get i)
 | .sl i _ _ _=>BQ (h.get i)
 | .slo i _ _ _=>BQ (h.get i)
 | .slE i=>BQ (h.get i)
 | .map i=>BQ (h.get i)
 | .yld i=>BQ (h.get i)
 | .fn _ a b=>Ro h a && Ro h b
 | .agg a=>Ro h a
 | .kW a=>Ro h a
 | .ifc _ a=>ZR h a
 |_=>true
def Ro (h:Tr):List AV->Bool
 |[]=>true
 |a::l=>ZR h a && Ro h l
end
def nmE (h:Tr):List (AV×AV×Nat)->Bool
 |[]=>true
 |(a,b,_)::l=>ZR h a && (ZR h b && nmE h l)
def nmB (h:Tr):AB->Bool
 | .row cs _ _=>Ro h cs
 | .map es _=>nmE h es
 | .iter (some m) _ _ _=>BQ (h.get m)
 |_=>true
def ZL (p:AB->Bool):Tr->Bool
 | .lf=>true
 | .nd v l r=>(match v with
  |none=>true
  |some a=>p a) && (ZL p l && ZL p r)
def OC:Tr->Tr->Bool
 | .lf,_=>true
 | .nd v l r,.lf=> !BQ v && (OC l .lf && OC r .lf)
 | .nd v l r,.nd v' l' r'=>(match v,v' with
  |none,_=>true
  |some a,some b=>cond (afr a) true (aac a b)
  |some _,none=>false) && (OC l l' && OC r r')
def Fv:Tr->Tr->Bool
 | .lf,_=>true
 | .nd v l r,.lf=> !BQ v && (Fv l .lf && Fv r .lf)
 | .nd v l r,.nd v' l' r'=>(!BQ v||BQ v') && (Fv l l' && Fv r r')
def fits (s:St) (rs:List AV) (t t':St):Bool:=
 Fv s.h t.h && (OC t.h t'.h && (ZL (nmB t.h) t.h && Ro t.h rs))
theorem NK {p:AB->Bool}:∀{t:Tr} {i:Nat} {a:AB},ZL p t=true->t.get i=some a->p a=true
 | .lf,i,a,_,g=>by cases g
 | .nd v l r,i,a,h,g=>by
  unfold ZL at h;rw[and_eq_true,and_eq_true] at h
  cases i with
  |zero=>
   have g:v=some a:=g;have h1:=h.1;rw[g] at h1;exact h1
  |succ m=>
   unfold Tr.get at g
   cases hc:Nat.beq (m % 2) 0 with
   |true=>simp only[hc,cond_true] at g;exact NK h.2.1 g
   |false=>simp only[hc,cond_false] at g;exact NK h.2.2 g
theorem uN:∀{t u:Tr} {i:Nat} {a:AB},OC t u=true->t.get i=some a->∃b,u.get i=some b/\(a=b\/a= .dead)
 | .lf,_,i,a,_,g=>by cases g
 | .nd v l r,.lf,i,a,h,g=>by
  unfold OC at h;rw[and_eq_true,and_eq_true] at h
  cases i with
  |zero=>
   have g:v=some a:=g;rw[g] at h
   cases h.1
  |succ m=>
   unfold Tr.get at g
   cases hc:Nat.beq (m % 2) 0 with
   |true=>simp only[hc,cond_true] at g;obtain⟨b,hb,_⟩:=uN h.2.1 g;cases hb
   |false=>simp only[hc,cond_false] at g;obtain⟨b,hb,_⟩:=uN h.2.2 g;cases hb
 | .nd v l r,.nd v' l' r',i,a,h,g=>by
  unfold OC at h;rw[and_eq_true,and_eq_true] at h
  cases i with
  |zero=>
   have g:v=some a:=g;have h1:=h.1;rw[g] at h1
   cases v' with
   |none=>cases h1
   |some b=>
    refine⟨b,rfl,?_⟩
    cases hd:afr a with
    |true=>cases a<;>first|exact .inr rfl|cases hd
    |false=>simp only[hd,cond_false] at h1;exact .inl (abD h1)
  |succ m=>
   unfold Tr.get at g ⊢
   cases hc:Nat.beq (m % 2) 0 with
   |true=>simp only[hc,cond_true] at g ⊢;exact uN h.2.1 g
   |false=>simp only[hc,cond_false] at g ⊢;exact uN h.2.2 g
theorem Au:∀{t u:Tr} {i:Nat} {a:AB},Fv t u=true->t.get i=some a->∃b,u.get i=some b
 | .lf,_,i,a,_,g=>by cases g
 | .nd v l r,.lf,i,a,h,g=>by
  unfold Fv at h;rw[and_eq_true,and_eq_true] at h
  cases i with
  |zero=>
   have g:v=some a:=g;rw[g] at h
   cases h.1
  |succ m=>
   unfold Tr.get at g
   cases hc:Nat.beq (m % 2) 0 with
   |true=>simp only[hc,cond_true] at g;obtain⟨b,hb⟩:=Au h.2.1 g;cases hb
   |false=>simp only[hc,cond_false] at g;obtain⟨b,hb⟩:=Au h.2.2 g;cases hb
 | .nd v l r,.nd v' l' r',i,a,h,g=>by
  unfold Fv at h;rw[and_eq_true,and_eq_true] at h
  cases i with
  |zero=>
   have g:v=some a:=g;have h1:=h.1;rw[g] at h1
   cases v' with
   |none=>cases h1
   |some b=>exact⟨b,rfl⟩
  |succ m=>
   unfold Tr.get at g ⊢
   cases hc:Nat.beq (m % 2) 0 with
   |true=>simp only[hc,cond_true] at g ⊢;exact Au h.2.1 g
   |false=>simp only[hc,cond_false] at g ⊢;exact Au h.2.2 g
def keep (h:Tr) (ρ:Nm):Nm:=λi=>cond (BQ (h.get i)) (ρ i) none
theorem qZ {h:Tr} {ρ:Nm} {i:Nat} {x:Loc} (a:BQ (h.get i)=true) (g:ρ i=some x):keep h ρ i=some x:=by
 unfold keep;rw[a];exact g
theorem Pz {h:Tr} {ρ:Nm} {i:Nat} {x:Loc} (g:keep h ρ i=some x):ρ i=some x:=by
 unfold keep at g
 cases a:BQ (h.get i) with
 |true=>rw[a] at g;exact g
 |false=>rw[a] at g;cases g
theorem VR.keep {h:Tr} {ρ:Nm} {a:AV} {v:Value} (hv:VR ρ a v):ZR h a=true->VR (keep h ρ) a v:=by
 refine VR.rec (motive_1:=λa v _=>ZR h a=true->VR (Rn.keep h ρ) a v) (motive_2:=λa v _=>Ro h a=true->lg (Rn.keep h ρ) a v) ?_ ?_ ?_ ?_ ?_ ?_ ?_ ?_ ?_ ?_ ?_ ?_ ?_ ?_ ?_ ?_ ?_ ?_ ?_ ?_ hv
 ·exact λk n _=> .int k n
 ·exact λb _=> .bool b
 ·exact λb _=> .str b
 ·exact λ_=> .ptr0
 ·exact λg q=> .ptr (qZ (by unfold ZR at q;exact q) g)
 ·exact λ_=> .sl0
 ·exact λg q=> .sl (qZ (by unfold ZR at q;exact q) g)
 ·exact λg q=> .slo (qZ (by unfold ZR at q;exact q) g)
 ·exact λg o c q=> .slE (qZ (by unfold ZR at q;exact q) g) o c
 ·exact λ_=> .map0
 ·exact λg q=> .map (qZ (by unfold ZR at q;exact q) g)
 ·exact λf _ _ _ _ _ _ g g' q=>by
   unfold ZR at q;rw[and_eq_true] at q;exact .fn f (g q.1) (g' q.2)
 ·exact λg q=> .yld (qZ (by unfold ZR at q;exact q) g)
 ·exact λ_ g q=> .agg (g (by unfold ZR at q;exact q))
 ·exact λ_ g q=> .kW (g (by unfold ZR at q;exact q))
 ·exact λ_=> .nilF
 ·exact λ_=> .nilI
 ·exact λt _ _ _ g q=> .ifc t (g (by unfold ZR at q;exact q))
 ·exact λ_=> .nil
 ·exact λ_ _ g g' q=>by
   unfold Ro at q;rw[and_eq_true] at q;exact .cons (g q.1) (g' q.2)
theorem lg.keep {h:Tr} {ρ:Nm}:∀{a:List AV} {v:List Value},lg ρ a v->Ro h a=true->lg (keep h ρ) a v
 |[],_,g,_=>by cases g;exact .nil
 |a::l,_,g,q=>by
  unfold Ro at q;rw[and_eq_true] at q
  cases g with
  |cons g g'=>exact .cons (g.keep q.1) (lg.keep g' q.2)
theorem I4.keep {h:Tr} {ρ:Nm} {a:List (AV×AV×Nat)} {b:List MapEntry} (g:I4 ρ a b):nmE h a=true->I4 (keep h ρ) a b:=by
 induction g with
 |nil=>exact λ_=> .nil
 |cons h h' hn _ ih=>
  intro q;unfold nmE at q;rw[and_eq_true,and_eq_true] at q;exact .cons (h.keep q.1) (h'.keep q.2.1) hn (ih q.2.2)
theorem BR.keep {h:Tr} {ρ:Nm} {w:World} {x:Loc} {a:AB} (g:BR ρ w x a) (q:nmB h a=true):BR (keep h ρ) w x a:=by
 cases a with
 |row cs z p=>obtain⟨vs,pad,h1,h2⟩:=g;exact⟨vs,pad,h1.keep q,h2⟩
 |map es c=>obtain⟨es',h1,h2⟩:=g;exact⟨es',h1,h2.keep q⟩
 |iter m s n c=>cases m with
  |none=>exact g
  |some m=>obtain⟨y,h1,h2⟩:=g;exact⟨y,qZ q h1,h2⟩
 |_=>exact g
theorem wY {P:Program} {A:Tab} (hP:ET P) {n:Nat} {m:P7} (h:Ak P A (run P A n) [] m.f m.args m.s (λrs t=>wC rs m.rs && fits m.s m.rs m.t t)=true) (hM:∀w0,tY P w0 A.memo) (w0:World):tY P w0 (m::A.memo):=λm' hm ρ w args' hr ha=>by
 rcases List.mem_cons.1 hm with rfl|hm
 ·refine Calls.mono (Kz hP (abd hP (hM w0) n) (hM w0) (K:=λvs w'=>∃ρ',Le ρ ρ'/\Rel w0 ρ' m'.t w'/\lg ρ' m'.rs vs) h (λl i g=>by cases g) hr ha λrs t hk ρ' w' vs l' r' v'=> ?_) ?_
  ·rw[and_eq_true] at hk;obtain⟨e1,e2⟩:=hk;have e1:=(uU _ _ e1).1;subst e1;unfold fits at e2;rw[and_eq_true,and_eq_true,and_eq_true] at e2;obtain⟨d1,d2,d3,d4⟩:=e2;refine⟨keep m'.t.h ρ',λi x g=> ?_,⟨λi a g=> ?_,λi g=> ?_,λi a x g g'=> ?_,λi x g=> ?_,λi j a b x y g1 g2 l1 l2 q1 q2 e=> ?_,r'.ext⟩,v'.keep d4⟩
   ·cases hs:m'.s.h.get i with
    |none=>rw[hr.fresh i hs] at g;cases g
    |some a=>
     obtain⟨b,hb⟩:=Au d1 hs;exact qZ (by rw[hb];rfl) (l' _ _ g)
   ·obtain⟨b,hb,_⟩:=uN d2 g;obtain⟨x,hx⟩:=r'.dom i b hb;exact⟨x,qZ (by rw[g];rfl) hx⟩
   ·unfold keep;rw[g];rfl
   ·obtain⟨b,hb,e⟩:=uN d2 g;have q:=r'.br i b x hb (Pz g');have nm:=NK d3 g;rcases e with rfl|rfl
    ·exact q.keep nm
    ·trivial
   ·exact r'.new i x (Pz g)
   ·obtain⟨a',ha',e1⟩:=uN d2 g1;obtain⟨b',hb',e2⟩:=uN d2 g2;rcases e1 with rfl|rfl
    ·rcases e2 with rfl|rfl
     ·exact r'.inj i j _ _ x y ha' hb' l1 l2 (Pz q1) (Pz q2) e
     ·exact l2.elim
    ·exact l1.elim
  ·rintro e w' ⟨vs,rfl,ρ',l',r',v'⟩;exact⟨ρ',vs,l',r',v',rfl⟩
 ·exact hM w0 m' hm ρ w args' hr ha
end Gp.Rn
end
section
namespace Gp.Rn
noncomputable def rp (n:Nat) (a:AV) (l:List AV):List AV:=Nat.rec l (λ_ r=>a::r) n
end Gp.Rn
end
section
namespace Go.Proofs
open Gp Gp.Rn
def zJ (n:Int):AV:= .int .i64 n
def zB (n:Int):AV:= .int .u8 n
def zF:AV:= .bool false
def zT:AV:= .bool true
def zR (l:List AV):AB:= .row l 1 false
def zN (b:AB) (l r:Tr):Tr:= .nd (some b) l r
def zO (l r:Tr):Tr:= .nd none l r
def zK (b:AB):Tr:= .nd (some b) .lf .lf
def zE:Tr:= .lf
def AZ:AB:=zR [zB 32,zB 1,zB 13,zB 184,zB 0,zB 0,zB 0,zB 0,zB 0,zB 0,zB 0,zB 0,zB 0,zB 0,zB 0,zB 1,.sl 10 0 2 2,.sl 11 0 1 1,zJ 1024,zJ 65535,zJ 16,zJ 64,zJ 128,zJ 8,zJ 1048576,zJ 1500,zJ 1500,zJ 64,zJ 0,zJ 2,zJ 300,zJ 7440,zJ 240,zJ 60,zJ 60,.sl0]
def bk1:AB:=zR [zJ 8193,zJ 3512,zJ 0,zJ 0,zJ 0,zJ 0,zJ 0,zJ 1]
def bk2:AB:=zR [zB 32,zB 1,zB 13,zB 184,zB 0,zB 0,zB 0,zB 0,zB 0,zB 0,zB 0,zB 0,zB 0,zB 0,zB 0,zB 1]
def bk3:AB:=zR [zJ 8193,zJ 3512,zJ 2,zJ 0,zJ 0,zJ 0,zJ 0,zJ 1]
def bk4:AB:=zR [zJ 64,zJ 1,zJ 4096]
def JZ:AB:=zR [zB 32,zB 1,zB 13,zB 184,zB 0,zB 2,zB 0,zB 0,zB 0,zB 0,zB 0,zB 0,zB 0,zB 0,zB 0,zB 1]
def bk6:AB:= .row [zJ 3325256705] 1 true
def bk7:AB:=zR [zJ 300,zJ 120,zJ 1048576]
def bk8:AB:=zR [zJ 0,zJ 0,zJ 64]
def UJ:AB:=zR [zJ 1500,zJ 1280,zJ 65535]
def EC:AB:=zR [zJ 3758096384,zJ 3]
def akq:AB:=zR [.sl 134 0 64 64,.ptr 132 0,.ptr 133 0,zJ 0]
def acJ:AB:=zR [zJ 60,zJ 1,zJ 1048576]
def tZ:AB:=zR [zB 32,zB 1,zB 13,zB 184,zB 0,zB 1,zB 0,zB 0,zB 0,zB 0,zB 0,zB 0,zB 0,zB 0,zB 0,zB 1]
def aaf:AB:= .row [zJ 0,zJ 8,zJ 2130706432,zJ 8,zJ 3758096384,zJ 3] 2 false
def aes:AB:=zR [zJ 3325256705]
def OM:AB:=zR [zJ 2,zJ 1,zJ 64]
def Tn:AB:=zR [zJ 8,zJ 0,zJ 4096]
def Qb:AB:=zR [zJ 0,zJ 8]
def aeu:AB:= .map [(zJ 3325256705,zT,0)] 1
def aag:AB:=zR [zJ 240,zJ 240,zJ 1048576]
def Qc:AB:=zR [zJ 65535,zJ 1024,zJ 65535]
def Tq:AB:=zR [zJ 64,zJ 1,zJ 255]
def aev:AB:= .row [zB 32,zB 1,zB 13,zB 184,zB 0,zB 0,zB 0,zB 0,zB 0,zB 0,zB 0,zB 0,zB 0,zB 0,zB 0,zB 1] 16 false
def akr:AB:=zR [.sl 137 0 128 128,.ptr 136 0,.map 138,zJ 0]
def I8:AB:=zR [zJ 2130706432,zJ 8]
def ag1:AB:= .row [zJ 2,zJ 1,zJ 64,zJ 1,zJ 1,zJ 16,zJ 0,zJ 0,zJ 64,zJ 1024,zJ 1,zJ 65535,zJ 65535,zJ 1024,zJ 65535,zJ 16,zJ 1,zJ 4096,zJ 64,zJ 1,zJ 4096,zJ 128,zJ 1,zJ 4096,zJ 8,zJ 0,zJ 4096,zJ 1048576,zJ 0,zJ 67108864,zJ 1500,zJ 1280,zJ 65535,zJ 1500,zJ 1280,zJ 65535,zJ 64,zJ 1,zJ 255,zJ 2,zJ 0,zJ 2,zJ 300,zJ 120,zJ 1048576,zJ 7440,zJ 7440,zJ 1048576,zJ 240,zJ 240,zJ 1048576,zJ 60,zJ 60,zJ 1048576,zJ 60,zJ 1,zJ 1048576] 3 false
def VO:AB:=zR [zJ 128,zJ 1,zJ 4096]
def ag2:AB:=zR [zJ 1024,zJ 65535,.slo 127 0 1 0,.map 128]
def acK:AB:=zR [zJ 7440,zJ 7440,zJ 1048576]
def Tt:AB:=zR [zJ 1024,zJ 1,zJ 65535]
def aks:AB:= .row [zJ 0,zJ 0,zJ 0,zJ 0,zJ 0,zF,zJ 0,zJ 0,zJ 0,zJ 0,zJ 0,zF,zJ 0,zJ 0,zJ 0,zJ 0,zJ 0,zF,zJ 0,zJ 0,zJ 0,zJ 0,zJ 0,zF,zJ 0,zJ 0,zJ 0,zJ 0,zJ 0,zF,zJ 0,zJ 0,zJ 0,zJ 0,zJ 0,zF,zJ 0,zJ 0,zJ 0,zJ 0,zJ 0,zF,zJ 0,zJ 0,zJ 0,zJ 0,zJ 0,zF,zJ 0,zJ 0,zJ 0,zJ 0,zJ 0,zF,zJ 0,zJ 0,zJ 0,zJ 0,zJ 0,zF,zJ 0,zJ 0,zJ 0,zJ 0,zJ 0,zF,zJ 0,zJ 0,zJ 0,zJ 0,zJ 0,zF,zJ 0,zJ 0,zJ 0,zJ 0,zJ 0,zF,zJ 0,zJ 0,zJ 0,zJ 0,zJ 0,zF,zJ 0,zJ 0,zJ 0,zJ 0,zJ 0,zF,zJ 0,zJ 0,zJ 0,zJ 0,zJ 0,zF,zJ 0,zJ 0,zJ 0,zJ 0,zJ 0,zF,zJ 0,zJ 0,zJ 0,zJ 0,zJ 0,zF,zJ 0,zJ 0,zJ 0,zJ 0,zJ 0,zF,zJ 0,zJ 0,zJ 0,zJ 0,zJ 0,zF,zJ 0,zJ 0,zJ 0,zJ 0,zJ 0,zF,zJ 0,zJ 0,zJ 0,zJ 0,zJ 0,zF,zJ 0,zJ 0,zJ 0,zJ 0,zJ 0,zF,zJ 0,zJ 0,zJ 0,zJ 0,zJ 0,zF,zJ 0,zJ 0,zJ 0,zJ 0,zJ 0,zF,zJ 0,zJ 0,zJ 0,zJ 0,zJ 0,zF,zJ 0,zJ 0,zJ 0,zJ 0,zJ 0,zF,zJ 0,zJ 0,zJ 0,zJ 0,zJ 0,zF,zJ 0,zJ 0,zJ 0,zJ 0,zJ 0,zF,zJ 0,zJ 0,zJ 0,zJ 0,zJ 0,zF,zJ 0,zJ 0,zJ 0,zJ 0,zJ 0,zF,zJ 0,zJ 0,zJ 0,zJ 0,zJ 0,zF,zJ 0,zJ 0,zJ 0,zJ 0,zJ 0,zF,zJ 0,zJ 0,zJ 0,zJ 0,zJ 0,zF,zJ 0,zJ 0,zJ 0,zJ 0,zJ 0,zF,zJ 0,zJ 0,zJ 0,zJ 0,zJ 0,zF,zJ 0,zJ 0,zJ 0,zJ 0,zJ 0,zF,zJ 0,zJ 0,zJ 0,zJ 0,zJ 0,zF,zJ 0,zJ 0,zJ 0,zJ 0,zJ 0,zF,zJ 0,zJ 0,zJ 0,zJ 0,zJ 0,zF,zJ 0,zJ 0,zJ 0,zJ 0,zJ 0,zF,zJ 0,zJ 0,zJ 0,zJ 0,zJ 0,zF,zJ 0,zJ 0,zJ 0,zJ 0,zJ 0,zF,zJ 0,zJ 0,zJ 0,zJ 0,zJ 0,zF,zJ 0,zJ 0,zJ 0,zJ 0,zJ 0,zF,zJ 0,zJ 0,zJ 0,zJ 0,zJ 0,zF,zJ 0,zJ 0,zJ 0,zJ 0,zJ 0,zF,zJ 0,zJ 0,zJ 0,zJ 0,zJ 0,zF,zJ 0,zJ 0,zJ 0,zJ 0,zJ 0,zF,zJ 0,zJ 0,zJ 0,zJ 0,zJ 0,zF,zJ 0,zJ 0,zJ 0,zJ 0,zJ 0,zF,zJ 0,zJ 0,zJ 0,zJ 0,zJ 0,zF,zJ 0,zJ 0,zJ 0,zJ 0,zJ 0,zF,zJ 0,zJ 0,zJ 0,zJ 0,zJ 0,zF,zJ 0,zJ 0,zJ 0,zJ 0,zJ 0,zF,zJ 0,zJ 0,zJ 0,zJ 0,zJ 0,zF,zJ 0,zJ 0,zJ 0,zJ 0,zJ 0,zF,zJ 0,zJ 0,zJ 0,zJ 0,zJ 0,zF,zJ 0,zJ 0,zJ 0,zJ 0,zJ 0,zF,zJ 0,zJ 0,zJ 0,zJ 0,zJ 0,zF,zJ 0,zJ 0,zJ 0,zJ 0,zJ 0,zF,zJ 0,zJ 0,zJ 0,zJ 0,zJ 0,zF,zJ 0,zJ 0,zJ 0,zJ 0,zJ 0,zF,zJ 0,zJ 0,zJ 0,zJ 0,zJ 0,zF,zJ 0,zJ 0,zJ 0,zJ 0,zJ 0,zF,zJ 0,zJ 0,zJ 0,zJ 0,zJ 0,zF,zJ 0,zJ 0,zJ 0,zJ 0,zJ 0,zF,zJ 0,zJ 0,zJ 0,zJ 0,zJ 0,zF,zJ 0,zJ 0,zJ 0,zJ 0,zJ 0,zF,zJ 0,zJ 0,zJ 0,zJ 0,zJ 0,zF,zJ 0,zJ 0,zJ 0,zJ 0,zJ 0,zF,zJ 0,zJ 0,zJ 0,zJ 0,zJ 0,zF,zJ 0,zJ 0,zJ 0,zJ 0,zJ 0,zF,zJ 0,zJ 0,zJ 0,zJ 0,zJ 0,zF,zJ 0,zJ 0,zJ 0,zJ 0,zJ 0,zF,zJ 0,zJ 0,zJ 0,zJ 0,zJ 0,zF,zJ 0,zJ 0,zJ 0,zJ 0,zJ 0,zF,zJ 0,zJ 0,zJ 0,zJ 0,zJ 0,zF,zJ 0,zJ 0,zJ 0,zJ 0,zJ 0,zF,zJ 0,zJ 0,zJ 0,zJ 0,zJ 0,zF,zJ 0,zJ 0,zJ 0,zJ 0,zJ 0,zF,zJ 0,zJ 0,zJ 0,zJ 0,zJ 0,zF,zJ 0,zJ 0,zJ 0,zJ 0,zJ 0,zF,zJ 0,zJ 0,zJ 0,zJ 0,zJ 0,zF,zJ 0,zJ 0,zJ 0,zJ 0,zJ 0,zF,zJ 0,zJ 0,zJ 0,zJ 0,zJ 0,zF,zJ 0,zJ 0,zJ 0,zJ 0,zJ 0,zF,zJ 0,zJ 0,zJ 0,zJ 0,zJ 0,zF,zJ 0,zJ 0,zJ 0,zJ 0,zJ 0,zF,zJ 0,zJ 0,zJ 0,zJ 0,zJ 0,zF,zJ 0,zJ 0,zJ 0,zJ 0,zJ 0,zF,zJ 0,zJ 0,zJ 0,zJ 0,zJ 0,zF,zJ 0,zJ 0,zJ 0,zJ 0,zJ 0,zF,zJ 0,zJ 0,zJ 0,zJ 0,zJ 0,zF,zJ 0,zJ 0,zJ 0,zJ 0,zJ 0,zF,zJ 0,zJ 0,zJ 0,zJ 0,zJ 0,zF,zJ 0,zJ 0,zJ 0,zJ 0,zJ 0,zF,zJ 0,zJ 0,zJ 0,zJ 0,zJ 0,zF,zJ 0,zJ 0,zJ 0,zJ 0,zJ 0,zF,zJ 0,zJ 0,zJ 0,zJ 0,zJ 0,zF,zJ 0,zJ 0,zJ 0,zJ 0,zJ 0,zF,zJ 0,zJ 0,zJ 0,zJ 0,zJ 0,zF,zJ 0,zJ 0,zJ 0,zJ 0,zJ 0,zF,zJ 0,zJ 0,zJ 0,zJ 0,zJ 0,zF,zJ 0,zJ 0,zJ 0,zJ 0,zJ 0,zF,zJ 0,zJ 0,zJ 0,zJ 0,zJ 0,zF,zJ 0,zJ 0,zJ 0,zJ 0,zJ 0,zF,zJ 0,zJ 0,zJ 0,zJ 0,zJ 0,zF,zJ 0,zJ 0,zJ 0,zJ 0,zJ 0,zF,zJ 0,zJ 0,zJ 0,zJ 0,zJ 0,zF,zJ 0,zJ 0,zJ 0,zJ 0,zJ 0,zF,zJ 0,zJ 0,zJ 0,zJ 0,zJ 0,zF,zJ 0,zJ 0,zJ 0,zJ 0,zJ 0,zF,zJ 0,zJ 0,zJ 0,zJ 0,zJ 0,zF,zJ 0,zJ 0,zJ 0,zJ 0,zJ 0,zF,zJ 0,zJ 0,zJ 0,zJ 0,zJ 0,zF,zJ 0,zJ 0,zJ 0,zJ 0,zJ 0,zF,zJ 0,zJ 0,zJ 0,zJ 0,zJ 0,zF,zJ 0,zJ 0,zJ 0,zJ 0,zJ 0,zF,zJ 0,zJ 0,zJ 0,zJ 0,zJ 0,zF,zJ 0,zJ 0,zJ 0,zJ 0,zJ 0,zF,zJ 0,zJ 0,zJ 0,zJ 0,zJ 0,zF,zJ 0,zJ 0,zJ 0,zJ 0,zJ 0,zF,zJ 0,zJ 0,zJ 0,zJ 0,zJ 0,zF,zJ 0,zJ 0,zJ 0,zJ 0,zJ 0,zF,zJ 0,zJ 0,zJ 0,zJ 0,zJ 0,zF,zJ 0,zJ 0,zJ 0,zJ 0,zJ 0,zF,zJ 0,zJ 0,zJ 0,zJ 0,zJ 0,zF] 6 false
def Tv:AB:=zR [zJ 1,zJ 1,zJ 16]
def Tz:AB:=zR [zJ 1048576,zJ 0,zJ 67108864]
def akt:AB:=zR [.sl0,zJ 0,zJ 64,zT]
def aah:AB:=zR [zJ 60,zJ 60,zJ 1048576]
def aku:AB:=zR [zJ 0,zJ 0]
def Qd:AB:=zR [zJ 16,zJ 1,zJ 4096]
def TD:AB:=zR [zJ 2,zJ 0,zJ 2]
def akv:AB:=zR [.sl0,.sl0,.sl0,.sl0,.sl0,.sl0,.sl0,.sl0,.sl0,.sl0,.sl0,.sl0,.sl0,.sl0,.sl0,.sl0,.sl0,.sl0,.sl0,.sl0,.sl0,.sl0,.sl0,.sl0,.sl0,.sl0,.sl0,.sl0,.sl0,.sl0,.sl0,.sl0,.sl0,.sl0,.sl0,.sl0,.sl0,.sl0,.sl0,.sl0,.sl0,.sl0,.sl0,.sl0,.sl0,.sl0,.sl0,.sl0,.sl0,.sl0,.sl0,.sl0,.sl0,.sl0,.sl0,.sl0,.sl0,.sl0,.sl0,.sl0,.sl0,.sl0,.sl0,.sl0,.sl0,.sl0,.sl0,.sl0,.sl0,.sl0,.sl0,.sl0,.sl0,.sl0,.sl0,.sl0,.sl0,.sl0,.sl0,.sl0,.sl0,.sl0,.sl0,.sl0,.sl0,.sl0,.sl0,.sl0,.sl0,.sl0,.sl0,.sl0,.sl0,.sl0,.sl0,.sl0,.sl0,.sl0,.sl0,.sl0,.sl0,.sl0,.sl0,.sl0,.sl0,.sl0,.sl0,.sl0,.sl0,.sl0,.sl0,.sl0,.sl0,.sl0,.sl0,.sl0,.sl0,.sl0,.sl0,.sl0,.sl0,.sl0,.sl0,.sl0,.sl0,.sl0,.sl0,.sl0,.sl0,.sl0,.sl0,.sl0,.sl0,.sl0,.sl0,.sl0,.sl0,.sl0,.sl0,.sl0,.sl0,.sl0,.sl0,.sl0,.sl0,.sl0,.sl0,.sl0,.sl0,.sl0,.sl0,.sl0,.sl0,.sl0,.sl0,.sl0,.sl0,.sl0,.sl0,.sl0,.sl0,.sl0,.sl0,.sl0,.sl0,.sl0,.sl0,.sl0,.sl0,.sl0,.sl0,.sl0,.sl0,.sl0,.sl0,.sl0,.sl0,.sl0,.sl0,.sl0,.sl0,.sl0,.sl0,.sl0,.sl0,.sl0,.sl0,.sl0,.sl0,.sl0,.sl0,.sl0,.sl0,.sl0,.sl0,.sl0,.sl0,.sl0,.sl0,.sl0,.sl0,.sl0,.sl0,.sl0,.sl0,.sl0,.sl0,.sl0,.sl0,.sl0,.sl0,.sl0,.sl0,.sl0,.sl0,.sl0,.sl0,.sl0,.sl0,.sl0,.sl0,.sl0,.sl0,.sl0,.sl0,.sl0,.sl0,.sl0,.sl0,.sl0,.sl0,.sl0,.sl0,.sl0,.sl0,.sl0,.sl0,.sl0,.sl0,.sl0,.sl0,.sl0,.sl0,.sl0,.sl0,.sl0,.sl0,.sl0,.sl0,.sl0,.sl0,.sl0,.sl0,.sl0,.sl0,.sl0,.sl0,.sl0,.sl0,.sl0,.sl0,.sl0,.sl0,.sl0,.sl0,.sl0,.sl0,.sl0,.sl0,.sl0,.sl0,.sl0,.sl0,.sl0,.sl0,.sl0,.sl0,.sl0,.sl0,.sl0,.sl0,.sl0,.sl0,.sl0,.sl0,.sl0,.sl0,.sl0,.sl0,.sl0,.sl0,.sl0,.sl0,.sl0,.sl0,.sl0,.sl0,.sl0,.sl0,.sl0,.sl0,.sl0,.sl0,.sl0,.sl0,.sl0,.sl0,.sl0,.sl0,.sl0,.sl0,.sl0,.sl0,.sl0,.sl0,.sl0,.sl0,.sl0,.sl0,.sl0,.sl0,.sl0,.sl0,.sl0,.sl0,.sl0,.sl0,.sl0,.sl0,.sl0,.sl0,.sl0,.sl0,.sl0,.sl0,.sl0,.sl0,.sl0,.sl0,.sl0,.sl0,.sl0,.sl0,.sl0,.sl0,.sl0,.sl0,.sl0,.sl0,.sl0,.sl0,.sl0,.sl0,.sl0,.sl0,.sl0,.sl0,.sl0,.sl0,.sl0,.sl0,.sl0,.sl0,.sl0,.sl0,.sl0,.sl0,.sl0,.sl0,.sl0,.sl0,.sl0,.sl0,.sl0,.sl0,.sl0,.sl0,.sl0,.sl0,.sl0,.sl0,.sl0,.sl0,.sl0,.sl0,.sl0,.sl0,.sl0,.sl0,.sl0,.sl0,.sl0,.sl0,.sl0,.sl0,.sl0,.sl0,.sl0,.sl0,.sl0,.sl0,.sl0,.sl0,.sl0,.sl0,.sl0,.sl0,.sl0,.sl0,.sl0,.sl0,.sl0,.sl0,.sl0,.sl0,.sl0,.sl0,.sl0,.sl0,.sl0,.sl0,.sl0,.sl0,.sl0,.sl0,.sl0,.sl0,.sl0,.sl0,.sl0,.sl0,.sl0,.sl0,.sl0,.sl0,.sl0,.sl0,.sl0,.sl0,.sl0,.sl0,.sl0,.sl0,.sl0,.sl0,.sl0,.sl0,.sl0,.map 140,zJ 0,zJ 0,zJ 128]
def MH:AB:=zR [zB 0,zB 0,zB 0,zB 0,zB 0,zB 0,zB 0,zB 0,zB 0,zB 0,zB 0,zB 0,zB 0,zB 0,zB 0,zB 0]
def aew:AB:=zR [zJ 8193,zJ 3512,zJ 1,zJ 0,zJ 0,zJ 0,zJ 0,zJ 1]
def akx:AB:= .map [(.agg [zB 32,zB 1,zB 13,zB 184,zB 0,zB 1,zB 0,zB 0,zB 0,zB 0,zB 0,zB 0,zB 0,zB 0,zB 0,zB 1],zT,0),(.agg [zB 32,zB 1,zB 13,zB 184,zB 0,zB 2,zB 0,zB 0,zB 0,zB 0,zB 0,zB 0,zB 0,zB 0,zB 0,zB 1],zT,1),(.agg [zB 32,zB 1,zB 13,zB 184,zB 0,zB 0,zB 0,zB 0,zB 0,zB 0,zB 0,zB 0,zB 0,zB 0,zB 0,zB 1],zT,2)] 3
def aky:AB:=zR [.ptr 146 0,.ptr 148 0,zB 32,zB 1,zB 13,zB 184,zB 0,zB 0,zB 0,zB 0,zB 0,zB 0,zB 0,zB 0,zB 0,zB 0,zB 0,zB 1,.sl 10 0 2 2,.sl 11 0 1 1,zJ 1024,zJ 65535,zJ 16,zJ 64,zJ 128,zJ 8,zJ 1048576,zJ 1500,zJ 1500,zJ 64,zJ 0,zJ 2,zJ 300,zJ 7440,zJ 240,zJ 60,zJ 60,.sl0,.ptr 118 0,.ptr 143 0,zJ 0,zJ 1]
def akz:AB:=zR [.sl0,zJ 0,zJ 128,zT]
def amm:AB:=zR [.map 147,zJ 8,zJ 1048576,zJ 60]
def aex:AB:= .row [zB 32,zB 1,zB 13,zB 184,zB 0,zB 1,zB 0,zB 0,zB 0,zB 0,zB 0,zB 0,zB 0,zB 0,zB 0,zB 1,zB 32,zB 1,zB 13,zB 184,zB 0,zB 2,zB 0,zB 0,zB 0,zB 0,zB 0,zB 0,zB 0,zB 0,zB 0,zB 1,zB 32,zB 1,zB 13,zB 184,zB 0,zB 0,zB 0,zB 0,zB 0,zB 0,zB 0,zB 0,zB 0,zB 0,zB 0,zB 1] 16 true
def Ya:AB:= .row [zB 32,zB 1,zB 13,zB 184,zB 0,zB 1,zB 0,zB 0,zB 0,zB 0,zB 0,zB 0,zB 0,zB 0,zB 0,zB 1,zB 32,zB 1,zB 13,zB 184,zB 0,zB 2,zB 0,zB 0,zB 0,zB 0,zB 0,zB 0,zB 0,zB 0,zB 0,zB 1] 16 false
def akA:AB:= .row [zJ 0,zJ 16,zJ 0,zJ 16] 2 false
def akB:AB:=zR [.map 145,zJ 8,zJ 1048576,zJ 60]
def akC:AB:= .row [zJ 0,zJ 0,zJ 0,zJ 0,zJ 0,zJ 0,zJ 0,zF,zF,zJ 0,zJ 0,zJ 0,zJ 0,zJ 0,zJ 0,zJ 0,zF,zF,zJ 0,zJ 0,zJ 0,zJ 0,zJ 0,zJ 0,zJ 0,zF,zF,zJ 0,zJ 0,zJ 0,zJ 0,zJ 0,zJ 0,zJ 0,zF,zF,zJ 0,zJ 0,zJ 0,zJ 0,zJ 0,zJ 0,zJ 0,zF,zF,zJ 0,zJ 0,zJ 0,zJ 0,zJ 0,zJ 0,zJ 0,zF,zF,zJ 0,zJ 0,zJ 0,zJ 0,zJ 0,zJ 0,zJ 0,zF,zF,zJ 0,zJ 0,zJ 0,zJ 0,zJ 0,zJ 0,zJ 0,zF,zF,zJ 0,zJ 0,zJ 0,zJ 0,zJ 0,zJ 0,zJ 0,zF,zF,zJ 0,zJ 0,zJ 0,zJ 0,zJ 0,zJ 0,zJ 0,zF,zF,zJ 0,zJ 0,zJ 0,zJ 0,zJ 0,zJ 0,zJ 0,zF,zF,zJ 0,zJ 0,zJ 0,zJ 0,zJ 0,zJ 0,zJ 0,zF,zF,zJ 0,zJ 0,zJ 0,zJ 0,zJ 0,zJ 0,zJ 0,zF,zF,zJ 0,zJ 0,zJ 0,zJ 0,zJ 0,zJ 0,zJ 0,zF,zF,zJ 0,zJ 0,zJ 0,zJ 0,zJ 0,zJ 0,zJ 0,zF,zF,zJ 0,zJ 0,zJ 0,zJ 0,zJ 0,zJ 0,zJ 0,zF,zF,zJ 0,zJ 0,zJ 0,zJ 0,zJ 0,zJ 0,zJ 0,zF,zF,zJ 0,zJ 0,zJ 0,zJ 0,zJ 0,zJ 0,zJ 0,zF,zF,zJ 0,zJ 0,zJ 0,zJ 0,zJ 0,zJ 0,zJ 0,zF,zF,zJ 0,zJ 0,zJ 0,zJ 0,zJ 0,zJ 0,zJ 0,zF,zF,zJ 0,zJ 0,zJ 0,zJ 0,zJ 0,zJ 0,zJ 0,zF,zF,zJ 0,zJ 0,zJ 0,zJ 0,zJ 0,zJ 0,zJ 0,zF,zF,zJ 0,zJ 0,zJ 0,zJ 0,zJ 0,zJ 0,zJ 0,zF,zF,zJ 0,zJ 0,zJ 0,zJ 0,zJ 0,zJ 0,zJ 0,zF,zF,zJ 0,zJ 0,zJ 0,zJ 0,zJ 0,zJ 0,zJ 0,zF,zF,zJ 0,zJ 0,zJ 0,zJ 0,zJ 0,zJ 0,zJ 0,zF,zF,zJ 0,zJ 0,zJ 0,zJ 0,zJ 0,zJ 0,zJ 0,zF,zF,zJ 0,zJ 0,zJ 0,zJ 0,zJ 0,zJ 0,zJ 0,zF,zF,zJ 0,zJ 0,zJ 0,zJ 0,zJ 0,zJ 0,zJ 0,zF,zF,zJ 0,zJ 0,zJ 0,zJ 0,zJ 0,zJ 0,zJ 0,zF,zF,zJ 0,zJ 0,zJ 0,zJ 0,zJ 0,zJ 0,zJ 0,zF,zF,zJ 0,zJ 0,zJ 0,zJ 0,zJ 0,zJ 0,zJ 0,zF,zF,zJ 0,zJ 0,zJ 0,zJ 0,zJ 0,zJ 0,zJ 0,zF,zF,zJ 0,zJ 0,zJ 0,zJ 0,zJ 0,zJ 0,zJ 0,zF,zF,zJ 0,zJ 0,zJ 0,zJ 0,zJ 0,zJ 0,zJ 0,zF,zF,zJ 0,zJ 0,zJ 0,zJ 0,zJ 0,zJ 0,zJ 0,zF,zF,zJ 0,zJ 0,zJ 0,zJ 0,zJ 0,zJ 0,zJ 0,zF,zF,zJ 0,zJ 0,zJ 0,zJ 0,zJ 0,zJ 0,zJ 0,zF,zF,zJ 0,zJ 0,zJ 0,zJ 0,zJ 0,zJ 0,zJ 0,zF,zF,zJ 0,zJ 0,zJ 0,zJ 0,zJ 0,zJ 0,zJ 0,zF,zF,zJ 0,zJ 0,zJ 0,zJ 0,zJ 0,zJ 0,zJ 0,zF,zF,zJ 0,zJ 0,zJ 0,zJ 0,zJ 0,zJ 0,zJ 0,zF,zF,zJ 0,zJ 0,zJ 0,zJ 0,zJ 0,zJ 0,zJ 0,zF,zF,zJ 0,zJ 0,zJ 0,zJ 0,zJ 0,zJ 0,zJ 0,zF,zF,zJ 0,zJ 0,zJ 0,zJ 0,zJ 0,zJ 0,zJ 0,zF,zF,zJ 0,zJ 0,zJ 0,zJ 0,zJ 0,zJ 0,zJ 0,zF,zF,zJ 0,zJ 0,zJ 0,zJ 0,zJ 0,zJ 0,zJ 0,zF,zF,zJ 0,zJ 0,zJ 0,zJ 0,zJ 0,zJ 0,zJ 0,zF,zF,zJ 0,zJ 0,zJ 0,zJ 0,zJ 0,zJ 0,zJ 0,zF,zF,zJ 0,zJ 0,zJ 0,zJ 0,zJ 0,zJ 0,zJ 0,zF,zF,zJ 0,zJ 0,zJ 0,zJ 0,zJ 0,zJ 0,zJ 0,zF,zF,zJ 0,zJ 0,zJ 0,zJ 0,zJ 0,zJ 0,zJ 0,zF,zF,zJ 0,zJ 0,zJ 0,zJ 0,zJ 0,zJ 0,zJ 0,zF,zF,zJ 0,zJ 0,zJ 0,zJ 0,zJ 0,zJ 0,zJ 0,zF,zF,zJ 0,zJ 0,zJ 0,zJ 0,zJ 0,zJ 0,zJ 0,zF,zF,zJ 0,zJ 0,zJ 0,zJ 0,zJ 0,zJ 0,zJ 0,zF,zF,zJ 0,zJ 0,zJ 0,zJ 0,zJ 0,zJ 0,zJ 0,zF,zF,zJ 0,zJ 0,zJ 0,zJ 0,zJ 0,zJ 0,zJ 0,zF,zF,zJ 0,zJ 0,zJ 0,zJ 0,zJ 0,zJ 0,zJ 0,zF,zF,zJ 0,zJ 0,zJ 0,zJ 0,zJ 0,zJ 0,zJ 0,zF,zF,zJ 0,zJ 0,zJ 0,zJ 0,zJ 0,zJ 0,zJ 0,zF,zF,zJ 0,zJ 0,zJ 0,zJ 0,zJ 0,zJ 0,zJ 0,zF,zF,zJ 0,zJ 0,zJ 0,zJ 0,zJ 0,zJ 0,zJ 0,zF,zF,zJ 0,zJ 0,zJ 0,zJ 0,zJ 0,zJ 0,zJ 0,zF,zF] 9 false
def akD:AB:=zR [.ptr 129 0,.ptr 131 0,.ptr 135 0,.ptr 139 0,.ptr 141 0,zB 32,zB 1,zB 13,zB 184,zB 0,zB 0,zB 0,zB 0,zB 0,zB 0,zB 0,zB 0,zB 0,zB 0,zB 0,zB 1,.sl 10 0 2 2,.sl 11 0 1 1,zJ 1024,zJ 65535,zJ 16,zJ 64,zJ 128,zJ 8,zJ 1048576,zJ 1500,zJ 1500,zJ 64,zJ 0,zJ 2,zJ 300,zJ 7440,zJ 240,zJ 60,zJ 60,.sl0,zJ 0]
def akE:AB:=zR [zJ 0,zJ 0,zJ 0,zJ 0,zJ 0,zJ 0,zJ 0,zJ 0,zJ 0,zJ 0,zJ 0,zJ 0,zJ 0,zJ 0]
def amn:AB:= .row [zB 69,zB 0,zB 0,zB 28,zB 0,zB 0,zB 0,zB 0,zB 9,zB 17,zB 229,zB 207,zB 10,zB 0,zB 0,zB 1,zB 192,zB 0,zB 2,zB 1,zB 19,zB 136,zB 0,zB 53,zB 0,zB 8,zB 32,zB 31] 1 true
def akF:AB:=zR [.slo 358 0 28 0,zJ 20,zJ 28]
def amo:AB:=zR [zJ 0,zJ 0,zJ 4,zJ 64,zB 32,zB 1,zB 13,zB 184,zB 0,zB 2,zB 0,zB 0,zB 0,zB 0,zB 0,zB 0,zB 0,zB 0,zB 0,zB 1,zB 32,zB 1,zB 13,zB 184,zB 0,zB 0,zB 0,zB 0,zB 0,zB 0,zB 0,zB 0,zB 0,zB 0,zB 0,zB 1,.slo 321 0 28 0]
def an0:AB:= .row [zB 96,zB 0,zB 0,zB 0,zB 0,zB 28,zB 4,zB 64] 1 true
def an1:AB:=zR [zJ 0,zJ 0,zJ 0,zJ 9,zJ 17,zJ 167772161,zJ 3221225985,zF,zF,.sl 385 0 0 0,.slo 387 0 8 0]
def an2:AB:=zR [.slo 358 0 28 0,zJ 20,zJ 0]
def ag3:AB:=zR [zT,zT]
def akG:AB:=zR [zJ 0,zJ 0,zJ 4,zJ 64,zB 32,zB 1,zB 13,zB 184,zB 0,zB 2,zB 0,zB 0,zB 0,zB 0,zB 0,zB 0,zB 0,zB 0,zB 0,zB 1,zB 32,zB 1,zB 13,zB 184,zB 0,zB 0,zB 0,zB 0,zB 0,zB 0,zB 0,zB 0,zB 0,zB 0,zB 0,zB 1,.slo 358 0 28 0]
def an3:AB:= .row [zB 19,zB 136,zB 0,zB 53,zB 0,zB 8,zB 32,zB 31] 1 true
def an4:AB:=zR [zJ 131070]
def an5:AB:= .row [zB 96,zB 0,zB 0,zB 0,zB 0,zB 28,zB 4,zB 64,zB 32,zB 1,zB 13,zB 184,zB 0,zB 2,zB 0,zB 0,zB 0,zB 0,zB 0,zB 0,zB 0,zB 0,zB 0,zB 1,zB 32,zB 1,zB 13,zB 184,zB 0,zB 0,zB 0,zB 0,zB 0,zB 0,zB 0,zB 0,zB 0,zB 0,zB 0,zB 1,zB 69,zB 0,zB 0,zB 28,zB 0,zB 0,zB 0,zB 0,zB 9,zB 17,zB 229,zB 207,zB 10,zB 0,zB 0,zB 1,zB 192,zB 0,zB 2,zB 1,zB 19,zB 136,zB 0,zB 53,zB 0,zB 8,zB 32,zB 31] 1 true
def an6:AB:=zR [.slo 351 0 8 0,.sl 324 4 16 16,.sl 324 20 16 16,.slo 321 0 28 0]
def an7:AB:=zR [zT,zT,zT,zT]
def amq:AB:= .row [zB 96,zB 0,zB 0,zB 0] 1 true
def an8:AB:=zR [zJ 1610612736]
def an9:AB:=zR [zB 4,zB 64]
def amr:AB:=zR [.sl 134 0 64 64,.ptr 132 0,.ptr 133 0,zJ 1]
def an_:AB:= .row [zB 19,zB 136,zB 0,zB 53,zB 0,zB 8,zB 255,zB 234] 1 true
def ams:AB:= .row [.str ⟨⟨[]⟩⟩,zJ 0,zF,.str ⟨⟨[]⟩⟩,zJ 0,zF,.str ⟨⟨[]⟩⟩,zJ 0,zF,.str ⟨⟨[]⟩⟩,zJ 0,zF,.str ⟨⟨[]⟩⟩,zJ 0,zF,.str ⟨⟨[]⟩⟩,zJ 0,zF,.str ⟨⟨[]⟩⟩,zJ 0,zF,.str ⟨⟨[0,0,0,0,0,0,0,1,0,0,0,0,0,0,0,17,0,0,0,0,10,0,0,1,0,0,0,0,0,0,19,136]⟩⟩,zJ 0,zT] 3 false
def amu:AB:=zR [.sl 137 0 128 128,.ptr 136 0,.map 138,zJ 1]
def aoa:AB:= .row [.str ⟨⟨[]⟩⟩,zJ 0,zF,.str ⟨⟨[]⟩⟩,zJ 0,zF,.str ⟨⟨[]⟩⟩,zJ 0,zF,.str ⟨⟨[]⟩⟩,zJ 0,zF,.str ⟨⟨[]⟩⟩,zJ 0,zF,.str ⟨⟨[0,0,0,0,0,0,0,17,0,0,0,0,198,51,100,1,0,0,0,0,0,0,19,136]⟩⟩,zJ 0,zT,.str ⟨⟨[]⟩⟩,zJ 0,zF,.str ⟨⟨[]⟩⟩,zJ 0,zF] 3 false
def amv:AB:= .row [zJ 0,zJ 0,zJ 300,zJ 3221225985,zJ 53,zT,zJ 0,zJ 0,zJ 0,zJ 0,zJ 0,zF,zJ 0,zJ 0,zJ 0,zJ 0,zJ 0,zF,zJ 0,zJ 0,zJ 0,zJ 0,zJ 0,zF,zJ 0,zJ 0,zJ 0,zJ 0,zJ 0,zF,zJ 0,zJ 0,zJ 0,zJ 0,zJ 0,zF,zJ 0,zJ 0,zJ 0,zJ 0,zJ 0,zF,zJ 0,zJ 0,zJ 0,zJ 0,zJ 0,zF,zJ 0,zJ 0,zJ 0,zJ 0,zJ 0,zF,zJ 0,zJ 0,zJ 0,zJ 0,zJ 0,zF,zJ 0,zJ 0,zJ 0,zJ 0,zJ 0,zF,zJ 0,zJ 0,zJ 0,zJ 0,zJ 0,zF,zJ 0,zJ 0,zJ 0,zJ 0,zJ 0,zF,zJ 0,zJ 0,zJ 0,zJ 0,zJ 0,zF,zJ 0,zJ 0,zJ 0,zJ 0,zJ 0,zF,zJ 0,zJ 0,zJ 0,zJ 0,zJ 0,zF,zJ 0,zJ 0,zJ 0,zJ 0,zJ 0,zF,zJ 0,zJ 0,zJ 0,zJ 0,zJ 0,zF,zJ 0,zJ 0,zJ 0,zJ 0,zJ 0,zF,zJ 0,zJ 0,zJ 0,zJ 0,zJ 0,zF,zJ 0,zJ 0,zJ 0,zJ 0,zJ 0,zF,zJ 0,zJ 0,zJ 0,zJ 0,zJ 0,zF,zJ 0,zJ 0,zJ 0,zJ 0,zJ 0,zF,zJ 0,zJ 0,zJ 0,zJ 0,zJ 0,zF,zJ 0,zJ 0,zJ 0,zJ 0,zJ 0,zF,zJ 0,zJ 0,zJ 0,zJ 0,zJ 0,zF,zJ 0,zJ 0,zJ 0,zJ 0,zJ 0,zF,zJ 0,zJ 0,zJ 0,zJ 0,zJ 0,zF,zJ 0,zJ 0,zJ 0,zJ 0,zJ 0,zF,zJ 0,zJ 0,zJ 0,zJ 0,zJ 0,zF,zJ 0,zJ 0,zJ 0,zJ 0,zJ 0,zF,zJ 0,zJ 0,zJ 0,zJ 0,zJ 0,zF,zJ 0,zJ 0,zJ 0,zJ 0,zJ 0,zF,zJ 0,zJ 0,zJ 0,zJ 0,zJ 0,zF,zJ 0,zJ 0,zJ 0,zJ 0,zJ 0,zF,zJ 0,zJ 0,zJ 0,zJ 0,zJ 0,zF,zJ 0,zJ 0,zJ 0,zJ 0,zJ 0,zF,zJ 0,zJ 0,zJ 0,zJ 0,zJ 0,zF,zJ 0,zJ 0,zJ 0,zJ 0,zJ 0,zF,zJ 0,zJ 0,zJ 0,zJ 0,zJ 0,zF,zJ 0,zJ 0,zJ 0,zJ 0,zJ 0,zF,zJ 0,zJ 0,zJ 0,zJ 0,zJ 0,zF,zJ 0,zJ 0,zJ 0,zJ 0,zJ 0,zF,zJ 0,zJ 0,zJ 0,zJ 0,zJ 0,zF,zJ 0,zJ 0,zJ 0,zJ 0,zJ 0,zF,zJ 0,zJ 0,zJ 0,zJ 0,zJ 0,zF,zJ 0,zJ 0,zJ 0,zJ 0,zJ 0,zF,zJ 0,zJ 0,zJ 0,zJ 0,zJ 0,zF,zJ 0,zJ 0,zJ 0,zJ 0,zJ 0,zF,zJ 0,zJ 0,zJ 0,zJ 0,zJ 0,zF,zJ 0,zJ 0,zJ 0,zJ 0,zJ 0,zF,zJ 0,zJ 0,zJ 0,zJ 0,zJ 0,zF,zJ 0,zJ 0,zJ 0,zJ 0,zJ 0,zF,zJ 0,zJ 0,zJ 0,zJ 0,zJ 0,zF,zJ 0,zJ 0,zJ 0,zJ 0,zJ 0,zF,zJ 0,zJ 0,zJ 0,zJ 0,zJ 0,zF,zJ 0,zJ 0,zJ 0,zJ 0,zJ 0,zF,zJ 0,zJ 0,zJ 0,zJ 0,zJ 0,zF,zJ 0,zJ 0,zJ 0,zJ 0,zJ 0,zF,zJ 0,zJ 0,zJ 0,zJ 0,zJ 0,zF,zJ 0,zJ 0,zJ 0,zJ 0,zJ 0,zF,zJ 0,zJ 0,zJ 0,zJ 0,zJ 0,zF,zJ 0,zJ 0,zJ 0,zJ 0,zJ 0,zF,zJ 0,zJ 0,zJ 0,zJ 0,zJ 0,zF,zJ 0,zJ 0,zJ 0,zJ 0,zJ 0,zF,zJ 0,zJ 0,zJ 0,zJ 0,zJ 0,zF,zJ 0,zJ 0,zJ 0,zJ 0,zJ 0,zF,zJ 0,zJ 0,zJ 0,zJ 0,zJ 0,zF,zJ 0,zJ 0,zJ 0,zJ 0,zJ 0,zF,zJ 0,zJ 0,zJ 0,zJ 0,zJ 0,zF,zJ 0,zJ 0,zJ 0,zJ 0,zJ 0,zF,zJ 0,zJ 0,zJ 0,zJ 0,zJ 0,zF,zJ 0,zJ 0,zJ 0,zJ 0,zJ 0,zF,zJ 0,zJ 0,zJ 0,zJ 0,zJ 0,zF,zJ 0,zJ 0,zJ 0,zJ 0,zJ 0,zF,zJ 0,zJ 0,zJ 0,zJ 0,zJ 0,zF,zJ 0,zJ 0,zJ 0,zJ 0,zJ 0,zF,zJ 0,zJ 0,zJ 0,zJ 0,zJ 0,zF,zJ 0,zJ 0,zJ 0,zJ 0,zJ 0,zF,zJ 0,zJ 0,zJ 0,zJ 0,zJ 0,zF,zJ 0,zJ 0,zJ 0,zJ 0,zJ 0,zF,zJ 0,zJ 0,zJ 0,zJ 0,zJ 0,zF,zJ 0,zJ 0,zJ 0,zJ 0,zJ 0,zF,zJ 0,zJ 0,zJ 0,zJ 0,zJ 0,zF,zJ 0,zJ 0,zJ 0,zJ 0,zJ 0,zF,zJ 0,zJ 0,zJ 0,zJ 0,zJ 0,zF,zJ 0,zJ 0,zJ 0,zJ 0,zJ 0,zF,zJ 0,zJ 0,zJ 0,zJ 0,zJ 0,zF,zJ 0,zJ 0,zJ 0,zJ 0,zJ 0,zF,zJ 0,zJ 0,zJ 0,zJ 0,zJ 0,zF,zJ 0,zJ 0,zJ 0,zJ 0,zJ 0,zF,zJ 0,zJ 0,zJ 0,zJ 0,zJ 0,zF,zJ 0,zJ 0,zJ 0,zJ 0,zJ 0,zF,zJ 0,zJ 0,zJ 0,zJ 0,zJ 0,zF,zJ 0,zJ 0,zJ 0,zJ 0,zJ 0,zF,zJ 0,zJ 0,zJ 0,zJ 0,zJ 0,zF,zJ 0,zJ 0,zJ 0,zJ 0,zJ 0,zF,zJ 0,zJ 0,zJ 0,zJ 0,zJ 0,zF,zJ 0,zJ 0,zJ 0,zJ 0,zJ 0,zF,zJ 0,zJ 0,zJ 0,zJ 0,zJ 0,zF,zJ 0,zJ 0,zJ 0,zJ 0,zJ 0,zF,zJ 0,zJ 0,zJ 0,zJ 0,zJ 0,zF,zJ 0,zJ 0,zJ 0,zJ 0,zJ 0,zF,zJ 0,zJ 0,zJ 0,zJ 0,zJ 0,zF,zJ 0,zJ 0,zJ 0,zJ 0,zJ 0,zF,zJ 0,zJ 0,zJ 0,zJ 0,zJ 0,zF,zJ 0,zJ 0,zJ 0,zJ 0,zJ 0,zF,zJ 0,zJ 0,zJ 0,zJ 0,zJ 0,zF,zJ 0,zJ 0,zJ 0,zJ 0,zJ 0,zF,zJ 0,zJ 0,zJ 0,zJ 0,zJ 0,zF,zJ 0,zJ 0,zJ 0,zJ 0,zJ 0,zF,zJ 0,zJ 0,zJ 0,zJ 0,zJ 0,zF,zJ 0,zJ 0,zJ 0,zJ 0,zJ 0,zF,zJ 0,zJ 0,zJ 0,zJ 0,zJ 0,zF,zJ 0,zJ 0,zJ 0,zJ 0,zJ 0,zF,zJ 0,zJ 0,zJ 0,zJ 0,zJ 0,zF,zJ 0,zJ 0,zJ 0,zJ 0,zJ 0,zF,zJ 0,zJ 0,zJ 0,zJ 0,zJ 0,zF,zJ 0,zJ 0,zJ 0,zJ 0,zJ 0,zF,zJ 0,zJ 0,zJ 0,zJ 0,zJ 0,zF,zJ 0,zJ 0,zJ 0,zJ 0,zJ 0,zF,zJ 0,zJ 0,zJ 0,zJ 0,zJ 0,zF,zJ 0,zJ 0,zJ 0,zJ 0,zJ 0,zF,zJ 0,zJ 0,zJ 0,zJ 0,zJ 0,zF,zJ 0,zJ 0,zJ 0,zJ 0,zJ 0,zF,zJ 0,zJ 0,zJ 0,zJ 0,zJ 0,zF,zJ 0,zJ 0,zJ 0,zJ 0,zJ 0,zF,zJ 0,zJ 0,zJ 0,zJ 0,zJ 0,zF] 6 false
def amw:AB:=zR [.sl 1099 0 8 8,zJ 1,zJ 64,zT]
def amx:AB:=zR [.sl0,.sl0,.sl0,.sl0,.sl0,.sl0,.sl0,.sl0,.sl0,.sl0,.sl0,.sl0,.sl0,.sl0,.sl0,.sl0,.sl0,.sl0,.sl0,.sl0,.sl0,.sl0,.sl0,.sl0,.sl0,.sl0,.sl0,.sl0,.sl0,.sl0,.sl0,.sl0,.sl0,.sl0,.sl0,.sl0,.sl0,.sl0,.sl0,.sl0,.sl0,.sl0,.sl0,.sl0,.sl0,.sl0,.sl0,.sl0,.sl0,.sl0,.sl0,.sl0,.sl0,.sl0,.sl0,.sl0,.sl0,.sl0,.sl0,.sl0,.sl0,.sl0,.sl0,.sl0,.sl0,.sl0,.sl0,.sl0,.slo 1320 0 1 0,.sl0,.sl0,.sl0,.sl0,.sl0,.sl0,.sl0,.sl0,.sl0,.sl0,.sl0,.sl0,.sl0,.sl0,.sl0,.sl0,.sl0,.sl0,.sl0,.sl0,.sl0,.sl0,.sl0,.sl0,.sl0,.sl0,.sl0,.sl0,.sl0,.sl0,.sl0,.sl0,.sl0,.sl0,.sl0,.sl0,.sl0,.sl0,.sl0,.sl0,.sl0,.sl0,.sl0,.sl0,.sl0,.sl0,.sl0,.sl0,.sl0,.sl0,.sl0,.sl0,.sl0,.sl0,.sl0,.sl0,.sl0,.sl0,.sl0,.sl0,.sl0,.sl0,.sl0,.sl0,.sl0,.sl0,.sl0,.sl0,.sl0,.sl0,.sl0,.sl0,.sl0,.sl0,.sl0,.sl0,.sl0,.sl0,.sl0,.sl0,.sl0,.sl0,.sl0,.sl0,.sl0,.sl0,.sl0,.sl0,.sl0,.sl0,.sl0,.sl0,.sl0,.sl0,.sl0,.sl0,.sl0,.sl0,.sl0,.sl0,.sl0,.sl0,.sl0,.sl0,.sl0,.sl0,.sl0,.sl0,.sl0,.sl0,.sl0,.sl0,.sl0,.sl0,.sl0,.sl0,.sl0,.sl0,.sl0,.sl0,.sl0,.sl0,.sl0,.sl0,.sl0,.sl0,.sl0,.sl0,.sl0,.sl0,.sl0,.sl0,.sl0,.sl0,.sl0,.sl0,.sl0,.sl0,.sl0,.sl0,.sl0,.sl0,.sl0,.sl0,.sl0,.sl0,.sl0,.sl0,.sl0,.sl0,.sl0,.sl0,.sl0,.sl0,.sl0,.sl0,.sl0,.sl0,.sl0,.sl0,.sl0,.sl0,.sl0,.sl0,.sl0,.sl0,.sl0,.sl0,.sl0,.sl0,.sl0,.sl0,.sl0,.sl0,.sl0,.sl0,.sl0,.sl0,.sl0,.sl0,.sl0,.sl0,.sl0,.sl0,.sl0,.sl0,.sl0,.sl0,.sl0,.sl0,.sl0,.sl0,.sl0,.sl0,.sl0,.sl0,.sl0,.sl0,.sl0,.sl0,.sl0,.sl0,.sl0,.sl0,.sl0,.sl0,.sl0,.sl0,.sl0,.sl0,.sl0,.sl0,.sl0,.sl0,.sl0,.sl0,.sl0,.sl0,.sl0,.sl0,.sl0,.sl0,.sl0,.sl0,.sl0,.sl0,.sl0,.sl0,.sl0,.sl0,.sl0,.sl0,.sl0,.sl0,.sl0,.sl0,.sl0,.sl0,.sl0,.sl0,.sl0,.sl0,.sl0,.sl0,.sl0,.sl0,.sl0,.sl0,.sl0,.sl0,.sl0,.sl0,.sl0,.sl0,.sl0,.sl0,.sl0,.sl0,.sl0,.sl0,.sl0,.sl0,.sl0,.sl0,.sl0,.sl0,.sl0,.sl0,.sl0,.sl0,.sl0,.sl0,.sl0,.sl0,.sl0,.sl0,.sl0,.sl0,.sl0,.sl0,.sl0,.sl0,.sl0,.sl0,.sl0,.sl0,.sl0,.sl0,.sl0,.sl0,.sl0,.sl0,.sl0,.sl0,.sl0,.sl0,.sl0,.sl0,.sl0,.sl0,.sl0,.sl0,.sl0,.sl0,.sl0,.sl0,.sl0,.sl0,.sl0,.sl0,.sl0,.sl0,.sl0,.sl0,.sl0,.sl0,.sl0,.sl0,.sl0,.sl0,.sl0,.sl0,.sl0,.sl0,.sl0,.sl0,.sl0,.sl0,.sl0,.sl0,.sl0,.sl0,.sl0,.sl0,.sl0,.sl0,.sl0,.sl0,.sl0,.sl0,.sl0,.sl0,.sl0,.sl0,.sl0,.sl0,.sl0,.sl0,.sl0,.sl0,.sl0,.sl0,.sl0,.sl0,.sl0,.sl0,.sl0,.sl0,.sl0,.sl0,.sl0,.sl0,.sl0,.sl0,.sl0,.sl0,.sl0,.sl0,.sl0,.sl0,.sl0,.sl0,.sl0,.sl0,.sl0,.sl0,.sl0,.sl0,.sl0,.map 140,zJ 0,zJ 1,zJ 128]
def amy:AB:= .map [(.agg [zJ 17,zJ 3325256705,zJ 5000],zT,0)] 1
def amA:AB:=zR [.sl 1304 0 8 8,zJ 1,zJ 128,zT]
def aob:AB:= .row [zJ 0,zJ 300,zJ 1] 3 true
def aoc:AB:= .row [.str ⟨⟨[]⟩⟩,zJ 0,zF,.str ⟨⟨[]⟩⟩,zJ 0,zF,.str ⟨⟨[]⟩⟩,zJ 0,zF,.str ⟨⟨[0,0,0,0,0,0,0,0,0,0,0,0,192,0,2,1,0,0,0,0,0,0,0,53]⟩⟩,zJ 0,zT,.str ⟨⟨[]⟩⟩,zJ 0,zF,.str ⟨⟨[]⟩⟩,zJ 0,zF,.str ⟨⟨[]⟩⟩,zJ 0,zF,.str ⟨⟨[]⟩⟩,zJ 0,zF] 3 false
def amB:AB:=zR [.sl 995 0 8 8,zJ 1,zJ 64,zT]
def amC:AB:= .map [(zJ 0,.agg [zJ 0,zJ 300,zJ 1],0)] 1
def amD:AB:= .row [zJ 0,zJ 16,zJ 1,zJ 16] 2 false
def amE:AB:= .map [(zJ 0,.slo 1315 0 1 0,0)] 1
def amF:AB:= .row [zJ 1,zJ 17,zJ 167772161,zJ 5000,zJ 17,zJ 3325256705,zJ 5000,zF,zT,zJ 0,zJ 0,zJ 0,zJ 0,zJ 0,zJ 0,zJ 0,zF,zF,zJ 0,zJ 0,zJ 0,zJ 0,zJ 0,zJ 0,zJ 0,zF,zF,zJ 0,zJ 0,zJ 0,zJ 0,zJ 0,zJ 0,zJ 0,zF,zF,zJ 0,zJ 0,zJ 0,zJ 0,zJ 0,zJ 0,zJ 0,zF,zF,zJ 0,zJ 0,zJ 0,zJ 0,zJ 0,zJ 0,zJ 0,zF,zF,zJ 0,zJ 0,zJ 0,zJ 0,zJ 0,zJ 0,zJ 0,zF,zF,zJ 0,zJ 0,zJ 0,zJ 0,zJ 0,zJ 0,zJ 0,zF,zF,zJ 0,zJ 0,zJ 0,zJ 0,zJ 0,zJ 0,zJ 0,zF,zF,zJ 0,zJ 0,zJ 0,zJ 0,zJ 0,zJ 0,zJ 0,zF,zF,zJ 0,zJ 0,zJ 0,zJ 0,zJ 0,zJ 0,zJ 0,zF,zF,zJ 0,zJ 0,zJ 0,zJ 0,zJ 0,zJ 0,zJ 0,zF,zF,zJ 0,zJ 0,zJ 0,zJ 0,zJ 0,zJ 0,zJ 0,zF,zF,zJ 0,zJ 0,zJ 0,zJ 0,zJ 0,zJ 0,zJ 0,zF,zF,zJ 0,zJ 0,zJ 0,zJ 0,zJ 0,zJ 0,zJ 0,zF,zF,zJ 0,zJ 0,zJ 0,zJ 0,zJ 0,zJ 0,zJ 0,zF,zF,zJ 0,zJ 0,zJ 0,zJ 0,zJ 0,zJ 0,zJ 0,zF,zF,zJ 0,zJ 0,zJ 0,zJ 0,zJ 0,zJ 0,zJ 0,zF,zF,zJ 0,zJ 0,zJ 0,zJ 0,zJ 0,zJ 0,zJ 0,zF,zF,zJ 0,zJ 0,zJ 0,zJ 0,zJ 0,zJ 0,zJ 0,zF,zF,zJ 0,zJ 0,zJ 0,zJ 0,zJ 0,zJ 0,zJ 0,zF,zF,zJ 0,zJ 0,zJ 0,zJ 0,zJ 0,zJ 0,zJ 0,zF,zF,zJ 0,zJ 0,zJ 0,zJ 0,zJ 0,zJ 0,zJ 0,zF,zF,zJ 0,zJ 0,zJ 0,zJ 0,zJ 0,zJ 0,zJ 0,zF,zF,zJ 0,zJ 0,zJ 0,zJ 0,zJ 0,zJ 0,zJ 0,zF,zF,zJ 0,zJ 0,zJ 0,zJ 0,zJ 0,zJ 0,zJ 0,zF,zF,zJ 0,zJ 0,zJ 0,zJ 0,zJ 0,zJ 0,zJ 0,zF,zF,zJ 0,zJ 0,zJ 0,zJ 0,zJ 0,zJ 0,zJ 0,zF,zF,zJ 0,zJ 0,zJ 0,zJ 0,zJ 0,zJ 0,zJ 0,zF,zF,zJ 0,zJ 0,zJ 0,zJ 0,zJ 0,zJ 0,zJ 0,zF,zF,zJ 0,zJ 0,zJ 0,zJ 0,zJ 0,zJ 0,zJ 0,zF,zF,zJ 0,zJ 0,zJ 0,zJ 0,zJ 0,zJ 0,zJ 0,zF,zF,zJ 0,zJ 0,zJ 0,zJ 0,zJ 0,zJ 0,zJ 0,zF,zF,zJ 0,zJ 0,zJ 0,zJ 0,zJ 0,zJ 0,zJ 0,zF,zF,zJ 0,zJ 0,zJ 0,zJ 0,zJ 0,zJ 0,zJ 0,zF,zF,zJ 0,zJ 0,zJ 0,zJ 0,zJ 0,zJ 0,zJ 0,zF,zF,zJ 0,zJ 0,zJ 0,zJ 0,zJ 0,zJ 0,zJ 0,zF,zF,zJ 0,zJ 0,zJ 0,zJ 0,zJ 0,zJ 0,zJ 0,zF,zF,zJ 0,zJ 0,zJ 0,zJ 0,zJ 0,zJ 0,zJ 0,zF,zF,zJ 0,zJ 0,zJ 0,zJ 0,zJ 0,zJ 0,zJ 0,zF,zF,zJ 0,zJ 0,zJ 0,zJ 0,zJ 0,zJ 0,zJ 0,zF,zF,zJ 0,zJ 0,zJ 0,zJ 0,zJ 0,zJ 0,zJ 0,zF,zF,zJ 0,zJ 0,zJ 0,zJ 0,zJ 0,zJ 0,zJ 0,zF,zF,zJ 0,zJ 0,zJ 0,zJ 0,zJ 0,zJ 0,zJ 0,zF,zF,zJ 0,zJ 0,zJ 0,zJ 0,zJ 0,zJ 0,zJ 0,zF,zF,zJ 0,zJ 0,zJ 0,zJ 0,zJ 0,zJ 0,zJ 0,zF,zF,zJ 0,zJ 0,zJ 0,zJ 0,zJ 0,zJ 0,zJ 0,zF,zF,zJ 0,zJ 0,zJ 0,zJ 0,zJ 0,zJ 0,zJ 0,zF,zF,zJ 0,zJ 0,zJ 0,zJ 0,zJ 0,zJ 0,zJ 0,zF,zF,zJ 0,zJ 0,zJ 0,zJ 0,zJ 0,zJ 0,zJ 0,zF,zF,zJ 0,zJ 0,zJ 0,zJ 0,zJ 0,zJ 0,zJ 0,zF,zF,zJ 0,zJ 0,zJ 0,zJ 0,zJ 0,zJ 0,zJ 0,zF,zF,zJ 0,zJ 0,zJ 0,zJ 0,zJ 0,zJ 0,zJ 0,zF,zF,zJ 0,zJ 0,zJ 0,zJ 0,zJ 0,zJ 0,zJ 0,zF,zF,zJ 0,zJ 0,zJ 0,zJ 0,zJ 0,zJ 0,zJ 0,zF,zF,zJ 0,zJ 0,zJ 0,zJ 0,zJ 0,zJ 0,zJ 0,zF,zF,zJ 0,zJ 0,zJ 0,zJ 0,zJ 0,zJ 0,zJ 0,zF,zF,zJ 0,zJ 0,zJ 0,zJ 0,zJ 0,zJ 0,zJ 0,zF,zF,zJ 0,zJ 0,zJ 0,zJ 0,zJ 0,zJ 0,zJ 0,zF,zF,zJ 0,zJ 0,zJ 0,zJ 0,zJ 0,zJ 0,zJ 0,zF,zF,zJ 0,zJ 0,zJ 0,zJ 0,zJ 0,zJ 0,zJ 0,zF,zF,zJ 0,zJ 0,zJ 0,zJ 0,zJ 0,zJ 0,zJ 0,zF,zF,zJ 0,zJ 0,zJ 0,zJ 0,zJ 0,zJ 0,zJ 0,zF,zF,zJ 0,zJ 0,zJ 0,zJ 0,zJ 0,zJ 0,zJ 0,zF,zF] 9 false
def aod:AB:=zR [zJ 0,zJ 0,zJ 0,zJ 0,zJ 0,zJ 0,zJ 0,zF,zF,.sl0,.sl0]
def aoe:AB:= .row [.int .i64 (-1),.slo 1689 0 28 0] 2 true
def aof:AB:= .row [zB 69,zB 0,zB 0,zB 28,zB 0,zB 0,zB 0,zB 0,zB 9,zB 17,zB 197,zB 155,zB 198,zB 51,zB 100,zB 1,zB 192,zB 0,zB 2,zB 1,zB 19,zB 136,zB 0,zB 53,zB 0,zB 8,zB 255,zB 234] 1 true
def aog:AB:= .row [zB 69,zB 0,zB 0,zB 28,zB 0,zB 0,zB 0,zB 0,zB 9,zB 17,zB 197,zB 155,zB 192,zB 0,zB 2,zB 1,zB 198,zB 51,zB 100,zB 1,zB 0,zB 53,zB 19,zB 136,zB 0,zB 8,zB 255,zB 234] 1 true
def zv0:AB:=(zR [.sl 142 0 14 14])
def zv1:AB:=(zR [zF])
def zv2:AB:=(.row [.fn 186 [] []] 1 false)
def zv3:AB:=(zR [.sl0])
def zv4:AB:=(zR [.sl 130 0 2 2])
def zv5:AB:=(.map [] 0)
def UC:AB:=(.dead)
def zv7:AB:=(zR [.map 106])
def zv8:AB:=(.row [.fn 192 [] []] 1 false)
def zv9:AB:=(zR [.map 80])
def agF:AB:=(.row [] 16 false)
def agG:AB:=(zR [.slo 76 0 3 0])
def anv:AB:=(zR [.sl 11 0 1 1])
def agH:AB:=(.row [.fn 185 [] []] 1 false)
def agI:AB:=(zR [.map 99])
def aiJ:AB:=(zR [.map 113])
def alX:AB:=(.row [.fn 189 [] []] 1 false)
def abt:AB:=(zR [])
def alY:AB:=(zR [zB 96])
def JX:Tr:=zK zv5
def EL:Tr:=zK UC
def ZQ:Tr:=zK zv1
def ad6:Tr:=zK Qb
def anr:Tr:=zN I8 (zK akt) zE
def ant:Tr:=zN bk1 (zN bk2 (zN bk3 (zN AZ (zN bk4 (zN JZ (zK bk6) zE) (zK bk2)) (zN bk7 (zN zv1 (zK zv0) zE) (zK zv2))) (zN bk8 (zN UJ (zN EC (zK akq) zE) (zK zv3)) (zN acJ (zK tZ) (zK aaf)))) (zN aes (zN OM (zN Tn (zN Qb (zK zv4) zE) (zK aeu)) (zN aag (zN UC JX zE) EL)) (zN Qc (zN Tq (zN aev (zK akr) zE) (zK zv7)) (zN tZ (zK JZ) (zK I8))))) (zN tZ (zN JZ (zN ag1 (zN VO (zN aaf (zK ag2) zE) (zK zv8)) (zN acK (zN zv9 JX zE) JX)) (zN Tt (zN UJ (zN agF (zK aks) zE) ZQ) (zN bk2 (zK JZ) ad6))) (zN AZ (zN Tv (zN Tz anr EL) (zN aah (zK tZ) (zK aku))) (zN Qd (zN TD (zN agG (zK akv) zE) EL) (zN MH (zK bk2) (zK EC)))))
def anu:Tr:=zN aew (zN JZ (zN AZ (zN VO (zN MH JX zE) (zK anv)) (zN acK (zN akx (zK aky) zE) ZQ)) (zN Tt (zN UJ (zN AZ (zK akz) zE) (zK agH)) (zN AZ (zK JZ) ad6))) (zN AZ (zN Tv (zN Tz anr (zK agI)) (zN aah (zN tZ (zK amm) zE) EL)) (zN Qd (zN TD (zN aex JX zE) EL) (zN tZ (zK bk2) (zK EC))))
def aiZ:Tr:=zN OM (zN Tn (zN Qb (zK akA) zE) ZQ) (zN aag (zN UC (zK akB) zE) (zK aiJ))
def ai0:Tr:=zN Tq (zN UC JX zE) JX
def ai1:Tr:=zN AZ (zN bk8 (zN UJ (zN EC (zK akC) zE) EL) (zN acJ (zK tZ) (zK akD))) (zN bk4 (zN bk7 (zN alX (zK akE) zE) (zK zv3)) (zN JZ (zK bk2) (zK abt)))
def SY:Tr:=zO (zK amn) zE
def m0:P7:=⟨17,[zJ 167772161,zJ 3221225985,zJ 5000,zJ 53,zJ 9,.sl0],⟨(zN AZ ant (zN bk2 anu (zN tZ (zN Ya aiZ (zN Qc ai0 (zN MH (zK JZ) (zK I8)))) ai1))),149⟩,[.slo 314 0 28 0],⟨(zN AZ ant (zN bk2 anu (zN tZ (zN Ya aiZ (zN Qc ai0 (zN MH (zK JZ) (zN I8 SY zE)))) ai1))),315⟩⟩
theorem alb:Ak Tryz.prog ⟨ans,[]⟩ (run Tryz.prog ⟨ans,[]⟩ 3000) [] m0.f m0.args m0.s (λrs t=>wC rs m0.rs && fits m0.s m0.rs m0.t t)=true:=by kernel_rfl
theorem am1 (hP:ET Tryz.prog):∀w0,tY Tryz.prog w0 [m0]:=wY (A:=⟨ans,[]⟩) hP alb (afM _)
def yU:Tr:=zO (zK amo) zE
def agy:Tr:=zN bk2 zE (zO (zK an0) zE)
def yV:Tr:=zK an1
def IZ:Tr:=zO (zK ((zR [zB 0]))) zE
def ai2:Tr:=zN AZ (zN bk4 (zN JZ (zN bk6 zE (zK akF)) yU) agy) (zN bk7 (zN zv1 (zN zv0 zE yV) IZ) (zN zv2 zE (zO (zK an2) zE)))
def acp:Tr:=zO (zK ((zR [zJ 4]))) zE
def OE:Tr:=zO (zK akG) zE
def ai3:Tr:=zN tZ zE (zO (zK ((zR [.slo 349 0 6 0]))) zE)
def Ey:Tr:=zO (zK akF) zE
def ai4:Tr:=zN acJ ai3 (zN aaf zE Ey)
def ai5:Tr:=zN Qb (zN zv4 zE (zK an3)) yU
def acr:Tr:=zN zv5 zE yV
def Md:Tr:=zO (zK abt) zE
def ai6:Tr:=zN aag (zN UC acr Md) (zN UC zE (zO (zK an4) zE))
def qc:Tr:=zO EL zE
def Vu:Tr:=zN JZ zE qc
def ZP:Tr:=zO (zK AZ) zE
def ai7:Tr:=zN tZ Vu (zN I8 ZP Ey)
def agz:Tr:=zN zv8 zE (zO (zK an5) zE)
def ai8:Tr:=zN ag1 (zN VO (zN aaf (zN ag2 zE (zK abt)) SY) agz) (zN acK (zN zv9 acr IZ) (zN zv5 zE Ey))
def S9:Tr:=zO (zK JZ) zE
def ai9:Tr:=zN bk2 Vu (zN Qb zE Ey)
def ai_:Tr:=zN I8 (zN akt zE yV) yU
def aja:Tr:=zN tZ zE (zO (zK ((zR [zJ 28]))) zE)
def ajb:Tr:=zN aah aja (zN aku zE qc)
def agA:Tr:=zN bk2 zE qc
def ajc:Tr:=zN MH agA (zN EC (zO (zK bk2) zE) Ey)
def ajd:Tr:=zN bk1 (zN bk2 (zN bk3 ai2 (zN bk8 (zN UJ (zN EC (zN akq zE (zK ag3)) acp) (zN zv3 zE OE)) ai4)) (zN aes (zN OM (zN Tn ai5 (zN aeu zE OE)) ai6) (zN Qc (zN Tq (zN aev (zN akr zE yV) (zO (zK alY) zE)) (zN zv7 zE OE)) ai7))) (zN tZ (zN JZ ai8 (zN Tt (zN UJ (zN agF (zN aks zE (zK ag3)) qc) (zN zv1 zE S9)) ai9)) (zN AZ (zN Tv (zN Tz ai_ (zN UC zE Md)) ajb) (zN Qd (zN TD (zN agG (zN akv zE yV) IZ) (zN UC zE Ey)) ajc)))
def acs:Tr:=zN anv zE (zO (zK an6) zE)
def aje:Tr:=zN acK (zN akx (zN aky zE yV) qc) (zN zv1 zE Ey)
def Vw:Tr:=zK an7
def acu:Tr:=zO (zK ((zR [.slo 338 0 4 0]))) zE
def ajf:Tr:=zN Qb zE (zO yV zE)
def agB:Tr:=zN tZ (zK amm) qc
def agC:Tr:=zK ((zR [.slo 358 0 20 0]))
def ajg:Tr:=zN aah agB (zN UC zE (zO agC zE))
def ajh:Tr:=zN UC zE (zO yV zE)
def agD:Tr:=zN bk2 zE (zO (zK ((zR [zB 28]))) zE)
def aji:Tr:=zN aew (zN JZ (zN AZ (zN VO (zN MH acr Md) acs) aje) (zN Tt (zN UJ (zN AZ (zN akz zE Vw) acu) (zN agH zE ZP)) (zN AZ Vu ajf))) (zN AZ (zN Tv (zN Tz ai_ (zN agI zE OE)) ajg) (zN Qd (zN TD (zN aex acr qc) ajh) (zN tZ agD (zN EC S9 Ey))))
def ajj:Tr:=zN Tn (zN Qb (zN akA zE (zK abt)) yU) (zN zv1 zE OE)
def ajk:Tr:=zN UC (zN akB zE yV) (zO (zK amq) zE)
def ajl:Tr:=zN aag ajk (zN aiJ zE (zO agC zE))
def ajm:Tr:=zN MH (zN JZ zE IZ) (zN I8 SY Ey)
def ajn:Tr:=zN Qc (zN Tq (zN UC (zN zv5 zE Vw) qc) (zN zv5 zE S9)) ajm
def acv:Tr:=zO (zK an8) zE
def ajo:Tr:=zN tZ zE (zO (zK ((zR [zJ 2]))) zE)
def ajp:Tr:=zN acJ ajo (zN akD zE qc)
def ajq:Tr:=zN bk2 zE (zO (zK an9) zE)
def ajr:Tr:=zN bk4 (zN bk7 (zN alX (zN akE zE yV) qc) (zN zv3 zE Ey)) (zN JZ ajq (zN abt yU Ey))
def ajs:Tr:=zN AZ (zN bk8 (zN UJ (zN EC (zN akC zE Vw) acv) (zN UC zE SY)) ajp) ajr
def ajt:Tr:=zO (zO zE (zO (zK ((.row [zJ 0] 1 true))) zE)) zE
def aju:Tr:=zO (zN alY (zO (zK aoa) zE) zE) zE
def ajv:Tr:=zN bk1 (zN bk2 (zN bk3 ai2 (zN bk8 (zN UJ (zN EC (zN amr zE (zK ag3)) acp) (zN zv3 zE (zO (zK akG) (zO zE (zO (zK an_) zE))))) ai4)) (zN aes (zN OM (zN Tn ai5 (zN aeu ajt (zO (zK akG) (zO zE (zK ams))))) ai6) (zN Qc (zN Tq (zN aev (zN amu zE yV) aju) (zN zv7 zE OE)) ai7))) (zN tZ (zN JZ ai8 (zN Tt (zN UJ (zN agF (zN amv zE (zK ag3)) qc) (zN zv1 zE S9)) ai9)) (zN AZ (zN Tv (zN Tz (zN I8 (zN amw zE yV) yU) (zN UC zE Md)) ajb) (zN Qd (zN TD (zN agG (zN amx zE yV) IZ) (zN UC zE Ey)) ajc)))
def ajw:Tr:=zO (zO zE (zO (zK aob) zE)) zE
def ajx:Tr:=zN JZ (zO (zO zE (zO (zK aoc) zE)) zE) qc
def ajy:Tr:=zN aew (zN JZ (zN AZ (zN VO (zN MH (zN amy zE yV) Md) acs) aje) (zN Tt (zN UJ (zN AZ (zN amA zE Vw) acu) (zN agH ajw ZP)) (zN AZ ajx ajf))) (zN AZ (zN Tv (zN Tz (zN I8 (zN amB zE yV) yU) (zN agI zE OE)) ajg) (zN Qd (zN TD (zN aex (zN amC zE yV) qc) ajh) (zN tZ agD (zN EC S9 (zO (zN akF zE Md) zE)))))
def ajz:Tr:=zN Tn (zN Qb (zN amD zE (zK abt)) yU) (zN zv1 zE OE)
def ajA:Tr:=zN Qc (zN Tq (zN UC (zN amE zE Vw) qc) (zN zv5 zE S9)) ajm
def ajB:Tr:=zN AZ (zN bk8 (zN UJ (zN EC (zN amF zE Vw) acv) (zN UC zE SY)) ajp) ajr
def m1:P7:=⟨89,[.ptr 118 0,zJ 1,.agg [zJ 0,zJ 0,zJ 0,zJ 9,zJ 17,zJ 167772161,zJ 3221225985,zF,zF,.sl 385 0 0 0,.slo 387 0 8 0]],⟨(zN AZ ajd (zN bk2 aji (zN tZ (zN Ya (zN OM ajj ajl) ajn) ajs))),404⟩,[.agg [zJ 0,zJ 0,zJ 0,zJ 9,zJ 17,zJ 3325256705,zJ 3221225985,zF,zF,.sl 1404 0 0 0,.slo 1511 0 8 0],zJ 0],⟨(zN AZ ajv (zN bk2 ajy (zN tZ (zN Ya (zN OM ajz ajl) ajA) ajB))),1522⟩⟩
theorem alc:Ak Tryz.prog ⟨ans,[m0]⟩ (run Tryz.prog ⟨ans,[m0]⟩ 3000) [] m1.f m1.args m1.s (λrs t=>wC rs m1.rs && fits m1.s m1.rs m1.t t)=true:=by kernel_rfl
theorem am2 (hP:ET Tryz.prog):∀w0,tY Tryz.prog w0 [m1,m0]:=wY (A:=⟨ans,[m0]⟩) hP alc (am1 hP)
def ajC:Tr:=zN aag ajk (zN aiJ zE (zO agC (zO zE (zO (zK aod) zE))))
def m2:P7:=⟨89,[.ptr 118 0,zJ 1,.agg [zJ 0,zJ 0,zJ 0,zJ 9,zJ 17,zJ 167772161,zJ 3221225985,zF,zF,.sl 385 0 0 0,.slo 387 0 8 0]],⟨(zN AZ ajd (zN bk2 aji (zN tZ (zN Ya (zN OM ajj ajC) ajn) ajs))),404⟩,[.agg [zJ 0,zJ 0,zJ 0,zJ 9,zJ 17,zJ 3325256705,zJ 3221225985,zF,zF,.sl 1404 0 0 0,.slo 1511 0 8 0],zJ 0],⟨(zN AZ ajv (zN bk2 ajy (zN tZ (zN Ya (zN OM ajz ajC) ajA) ajB))),1522⟩⟩
theorem ald:Ak Tryz.prog ⟨ans,[m1,m0]⟩ (run Tryz.prog ⟨ans,[m1,m0]⟩ 3000) [] m2.f m2.args m2.s (λrs t=>wC rs m2.rs && fits m2.s m2.rs m2.t t)=true:=by kernel_rfl
theorem am3 (hP:ET Tryz.prog):∀w0,tY Tryz.prog w0 [m2,m1,m0]:=wY (A:=⟨ans,[m1,m0]⟩) hP ald (am2 hP)
def ajD:Tr:=zN bk7 (zN zv1 (zK zv0) IZ) (zK zv2)
def ajE:Tr:=zN AZ (zN bk4 (zN JZ (zK bk6) yU) agy) ajD
def ajF:Tr:=zN acJ ai3 (zK aaf)
def ajG:Tr:=zN Qb (zK zv4) yU
def ajH:Tr:=zN aag (zN UC JX Md) EL
def ajI:Tr:=zN acK (zN zv9 JX IZ) JX
def ajJ:Tr:=zN ag1 (zN VO (zN aaf (zK ag2) SY) agz) ajI
def ajK:Tr:=zN I8 (zK akt) yU
def ajL:Tr:=zN aah aja (zK aku)
def ajM:Tr:=zN MH agA (zN EC (zO (zK bk2) zE) zE)
def ajN:Tr:=zN acK (zN akx (zK aky) qc) ZQ
def ajO:Tr:=zN tZ agD (zN EC S9 zE)
def ajP:Tr:=zN aag (zN UC (zK akB) (zO (zK amq) zE)) (zK aiJ)
def ajQ:Tr:=zN MH (zN JZ zE IZ) (zN I8 SY zE)
def ajR:Tr:=zN acJ ajo (zK akD)
def ajS:Tr:=zN bk4 (zN bk7 (zN alX (zK akE) qc) (zK zv3)) (zN JZ ajq (zN abt yU zE))
def ajT:Tr:=zN bk8 (zN UJ (zN EC (zK amr) acp) (zK zv3)) ajF
def ajU:Tr:=zN aes (zN OM (zN Tn ajG (zN aeu ajt (zO zE (zO zE (zK ams))))) ajH) (zN Qc (zN Tq (zN aev (zK amu) aju) (zK zv7)) (zN tZ (zN JZ (zO zE (zO (zO zE (zK aoe)) zE)) qc) (zN I8 ZP zE)))
def ajV:Tr:=zN bk2 (zN bk3 ajE ajT) ajU
def ajW:Tr:=zN Tt (zN UJ (zN agF (zK amv) qc) ZQ) (zN bk2 (zN JZ (zO zE (zO (zO zE (zK aof)) zE)) qc) ad6)
def ajX:Tr:=zN Tv (zN Tz (zN I8 (zK amw) yU) EL) ajL
def ajY:Tr:=zN TD (zN agG (zK amx) IZ) EL
def ajZ:Tr:=zN AZ ajX (zN Qd ajY ajM)
def agE:Tr:=zN bk2 (zN aew (zN JZ (zN AZ (zN VO (zN MH (zK amy) Md) acs) ajN) (zN Tt (zN UJ (zN AZ (zK amA) acu) (zN agH ajw zE)) (zN AZ ajx ad6))) (zN AZ (zN Tv (zN Tz (zN I8 (zK amB) yU) (zK agI)) (zN aah agB EL)) (zN Qd (zN TD (zN aex (zK amC) qc) EL) ajO))) (zN tZ (zN Ya (zN OM (zN Tn (zN Qb (zK amD) yU) ZQ) ajP) (zN Qc (zN Tq (zN UC (zK amE) qc) JX) ajQ)) (zN AZ (zN bk8 (zN UJ (zN EC (zK amF) acv) EL) ajR) ajS))
def aj0:Tr:=zN AZ (zN bk1 ajV (zN tZ (zN JZ ajJ ajW) ajZ)) agE
def m3:P7:=⟨15,[.ptr 144 0,.slo 353 0 68 0],⟨(zN AZ (zN bk1 (zN bk2 (zN bk3 ajE (zN bk8 (zN UJ (zN EC (zK akq) acp) (zK zv3)) ajF)) (zN aes (zN OM (zN Tn ajG (zK aeu)) ajH) (zN Qc (zN Tq (zN aev (zK akr) (zO (zK alY) zE)) (zK zv7)) (zN tZ Vu (zN I8 ZP zE))))) (zN tZ (zN JZ ajJ (zN Tt (zN UJ (zN agF (zK aks) qc) ZQ) (zN bk2 Vu ad6))) (zN AZ (zN Tv (zN Tz ajK EL) ajL) (zN Qd (zN TD (zN agG (zK akv) IZ) EL) ajM)))) (zN bk2 (zN aew (zN JZ (zN AZ (zN VO (zN MH JX Md) acs) ajN) (zN Tt (zN UJ (zN AZ (zK akz) acu) (zK agH)) (zN AZ Vu ad6))) (zN AZ (zN Tv (zN Tz ajK (zK agI)) (zN aah agB EL)) (zN Qd (zN TD (zN aex JX qc) EL) ajO))) (zN tZ (zN Ya (zN OM (zN Tn (zN Qb (zK akA) yU) ZQ) ajP) (zN Qc (zN Tq (zN UC JX qc) JX) ajQ)) (zN AZ (zN bk8 (zN UJ (zN EC (zK akC) acv) EL) ajR) ajS)))),354⟩,[.slo 1691 0 1 0,zJ 0],⟨aj0,1692⟩⟩
theorem ale:Ak Tryz.prog ⟨ans,[m2,m1,m0]⟩ (run Tryz.prog ⟨ans,[m2,m1,m0]⟩ 3000) [] m3.f m3.args m3.s (λrs t=>wC rs m3.rs && fits m3.s m3.rs m3.t t)=true:=by kernel_rfl
theorem am4 (hP:ET Tryz.prog):∀w0,tY Tryz.prog w0 [m3,m2,m1,m0]:=wY (A:=⟨ans,[m2,m1,m0]⟩) hP ale (am3 hP)
def aj1:Tr:=zN JZ (zN ag1 (zN VO (zN aaf (zK ag2) (zO (zN amn zE (zO zE (zK aog))) zE)) agz) ajI) ajW
def aj2:Tr:=zN AZ (zN bk1 ajV (zN tZ aj1 ajZ)) agE
def m4:P7:=⟨17,[zJ 3221225985,zJ 3325256705,zJ 53,zJ 5000,zJ 9,.sl0],⟨aj0,1692⟩,[.slo 1857 0 28 0],⟨aj2,1858⟩⟩
theorem alf:Ak Tryz.prog ⟨ans,[m3,m2,m1,m0]⟩ (run Tryz.prog ⟨ans,[m3,m2,m1,m0]⟩ 3000) [] m4.f m4.args m4.s (λrs t=>wC rs m4.rs && fits m4.s m4.rs m4.t t)=true:=by kernel_rfl
theorem am5 (hP:ET Tryz.prog):∀w0,tY Tryz.prog w0 [m4,m3,m2,m1,m0]:=wY (A:=⟨ans,[m3,m2,m1,m0]⟩) hP alf (am4 hP)
def m5:P7:=⟨8,[.ptr 144 0,.slo 1857 0 28 0],⟨aj2,1858⟩,[.slo 2623 0 1 0,zJ 0],⟨(zN AZ (zN bk1 (zN bk2 (zN bk3 (zN AZ (zN bk4 (zN JZ (zK bk6) (zO (zN amo (zO zE (zO (zK ((.row [zJ 1,.slo 2621 0 68 0] 2 true))) zE)) zE) zE)) agy) ajD) ajT) ajU) (zN tZ aj1 (zN AZ ajX (zN Qd ajY (zN MH agA (zN EC (zO (zN bk2 (zO zE (zO (zK ((.row [zB 96,zB 0,zB 0,zB 0,zB 0,zB 28,zB 4,zB 64,zB 32,zB 1,zB 13,zB 184,zB 0,zB 0,zB 0,zB 0,zB 0,zB 0,zB 0,zB 0,zB 0,zB 0,zB 0,zB 1,zB 32,zB 1,zB 13,zB 184,zB 0,zB 2,zB 0,zB 0,zB 0,zB 0,zB 0,zB 0,zB 0,zB 0,zB 0,zB 1,zB 69,zB 0,zB 0,zB 28,zB 0,zB 0,zB 0,zB 0,zB 8,zB 17,zB 230,zB 207,zB 192,zB 0,zB 2,zB 1,zB 10,zB 0,zB 0,zB 1,zB 0,zB 53,zB 19,zB 136,zB 0,zB 8,zB 32,zB 31] 1 true))) zE)) zE) zE) zE)))))) agE),2624⟩⟩
theorem alg:Ak Tryz.prog ⟨ans,[m4,m3,m2,m1,m0]⟩ (run Tryz.prog ⟨ans,[m4,m3,m2,m1,m0]⟩ 3000) [] m5.f m5.args m5.s (λrs t=>wC rs m5.rs && fits m5.s m5.rs m5.t t)=true:=by kernel_rfl
theorem am6 (hP:ET Tryz.prog):∀w0,tY Tryz.prog w0 [m5,m4,m3,m2,m1,m0]:=wY (A:=⟨ans,[m4,m3,m2,m1,m0]⟩) hP alg (am5 hP)
end Go.Proofs
end
