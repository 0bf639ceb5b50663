import Derived.Test.YtmcdmhegjhcjhaaGreatRn12
/- A machine that runs closed code over named blocks: where nothing is wanted, nothing is had. -/
namespace Gp.Rn
open Go Gp

theorem setK_f : ∀ (f : Nat) (t : Tr) (n : Nat) (v : AB), t.setK f n v (fun _ => false) = false := by
  intro f t n v
  cases h : t.setK f n v (fun _ => false) with
  | false => rfl
  | true => obtain ⟨_, g, _⟩ := setK_ok _ _ _ _ _ h; cases g
theorem newB_f (s : St) (b : AB) : newB s b (fun _ _ => false) = false := by
  cases h : newB s b (fun _ _ => false) with
  | false => rfl
  | true => obtain ⟨_, _, g, _⟩ := newB_ok h; cases g
theorem putB_f (s : St) (i : Nat) (b : AB) : putB s i b (fun _ => false) = false := by
  cases h : putB s i b (fun _ => false) with
  | false => rfl
  | true => obtain ⟨_, g, _⟩ := putB_ok h; cases g
theorem splK_f (cs : List AV) (o : Nat) (vs : List AV) : splK cs o vs (fun _ => false) = false := by
  cases h : splK cs o vs (fun _ => false) with
  | false => rfl
  | true => obtain ⟨_, g, _⟩ := splK_ok h; cases g
theorem fN_f (n : Nat) : fN n (fun _ => false) = false := by cases n <;> rfl
theorem fI_f (n : Int) : fI n (fun _ => false) = false := by cases n <;> exact fN_f _
theorem fB_f (n : Bool) : fB n (fun _ => false) = false := by cases n <;> rfl
theorem cond_f (a : Bool) : cond a false false = false := by cases a <;> rfl
theorem wrC_f (s : St) (i o : Nat) (vs : List AV) : wrC s i o vs (fun _ => false) = false := by
  unfold wrC
  split <;> simp only [putB_f, splK_f, cond_f]

theorem appC_f (size bytes zl : Nat) (x : AV) (n : Nat) (vs : List AV) (s : St) : appC size bytes zl x n vs s (fun _ _ => false) = false := by
  unfold appC
  simp only [newB_f, wrC_f, putB_f, cond_f, fN_f]
  repeat' split
  all_goals simp only [cond_f, fN_f]
  all_goals (repeat' split)
  all_goals simp only [cond_f, fN_f]

theorem intC_f (op : BinOp) (kd : IntKind) (a b : Int) : intC op kd a b (fun _ => false) = false := by
  cases op <;> simp only [intC, fI_f, fB_f, cond_f]
theorem strC_f (op : BinOp) (a b : ByteArray) : strC op a b (fun _ => false) = false := by
  cases op <;> simp only [strC, fB_f, cond_f]
theorem binC_f (P : Program) (op : BinOp) (t : TypeId) (x y : AV) : binC P op t x y (fun _ => false) = false := by
  unfold binC
  simp only [fI_f, fB_f, intC_f, strC_f, cond_f]
  repeat' split
  all_goals simp only [cond_f]
  all_goals (repeat' split)
  all_goals simp only [cond_f]
theorem unC_f (op : UnOp) (x : AV) : unC op x (fun _ => false) = false := by
  unfold unC
  split <;> simp only [fI_f, fB_f]
theorem optC_f (α : Operand → AV) (x : Option Operand) (d : Int) : optC α x d (fun _ => false) = false := by
  unfold optC
  repeat' split
  all_goals rfl
theorem subC_f (x : AV) (size : Nat) (l h : Int) (s : St) : subC x size l h s (fun _ => false) = false := by
  unfold subC
  simp only [fN_f, cond_f]
  repeat' split
  all_goals simp only [cond_f]
  all_goals (repeat' split)
  all_goals simp only [cond_f]
theorem sub3C_f (x : AV) (size : Nat) (l h m : Int) (s : St) : sub3C x size l h m s (fun _ => false) = false := by
  unfold sub3C
  simp only [fN_f, cond_f]
  repeat' split
  all_goals simp only [cond_f]
theorem sliceC_f (P : Program) (t : TypeId) (x : AV) (α : Operand → AV) (lo hi mx : Option Operand) (s : St) : sliceC P t x α lo hi mx s (fun _ => false) = false := by
  unfold sliceC
  simp only [fN_f, cond_f, optC_f, subC_f, sub3C_f]
  repeat' split
  all_goals simp only [cond_f]
  all_goals (repeat' split)
  all_goals simp only [cond_f]
theorem convC_f (P : Program) (a b : TypeId) (x : AV) (s : St) : convC P a b x s (fun _ _ => false) = false := by
  unfold convC
  simp only [newB_f, cond_f, fI_f]
  repeat' split
  all_goals rfl
theorem partC_f (d : TypeDesc) (size off : Nat) (cs : List AV) : partC d size off cs (fun _ => false) = false := by
  unfold partC
  split <;> simp only [cond_f]
theorem getC_f (P : Program) (kt : TypeId) (m key z : AV) (s : St) : getC P kt m key z s (fun _ _ => false) = false := by
  unfold getC
  repeat' split
  all_goals rfl
theorem setC_f (P : Program) (kt : TypeId) (m key v : AV) (s : St) : setC P kt m key v s (fun _ => false) = false := by
  unfold setC
  simp only [putB_f]
  repeat' split
  all_goals simp only [cond_f]
  all_goals (repeat' split)
  all_goals simp only [cond_f]
theorem delC_f (P : Program) (kt : TypeId) (m key : AV) (s : St) : delC P kt m key s (fun _ => false) = false := by
  unfold delC
  simp only [putB_f]
  repeat' split
  all_goals rfl
theorem nextC_f (x : AV) (s : St) : nextC x s (fun _ _ => false) = false := by
  unfold nextC
  simp only [putB_f]
  repeat' split
  all_goals simp only [cond_f]
  all_goals (repeat' split)
  all_goals simp only [cond_f]
theorem entryC_f (x : AV) (s : St) : entryC x s (fun _ => false) = false := by
  unfold entryC
  repeat' split
  all_goals simp only [cond_f]
  all_goals (repeat' split)
  all_goals simp only [cond_f]
theorem foldC_f (mx : Bool) : ∀ (r : List AV) (x : Int) (kd : IntKind), foldC mx x r kd (fun _ => false) = false
  | [], x, kd => fI_f _
  | a :: r, x, kd => by
    unfold foldC
    split
    · rename_i he; cases he
    · rename_i he; cases he; exact foldC_f mx _ _ _
    · rfl
theorem biC_f (P : Program) (b : Builtin) (ts : List TypeId) (args : List AV) (s : St) : biC P b ts args s (fun _ _ => false) = false := by
  unfold biC
  simp only [fN_f, foldC_f, appC_f, wrC_f, delC_f, cond_f]
  repeat' split
  all_goals simp only [cond_f]
  all_goals (repeat' split)
  all_goals simp only [cond_f]

structure CbF (cb : Cb) : Prop where
  call : ∀ f args s, cb.call f args s (fun _ _ => false) = false
  yld : ∀ l args s, cb.yld l args s (fun _ _ => false) = false
theorem cb0_f : CbF cb0 := ⟨fun _ _ _ => rfl, fun _ _ _ => rfl⟩

section
variable (P : Program) {cb : Cb} (hcb : CbF cb)
 include hcb
theorem ccC_f (ty : TypeId) (α : Operand → AV) (c : Callee) (ts : List TypeId) (args : List AV) (s : St) : ccC P cb ty α c ts args s (fun _ _ => false) = false := by
  unfold ccC clC cvC
  simp only [biC_f, cond_f, hcb.call, hcb.yld]
  repeat' split
  all_goals simp only [cond_f]

theorem opC_f (op : Op) (ty : TypeId) (α : Operand → AV) (s : St) : opC P cb op ty α s (fun _ _ => false) = false := by
  cases op
  case call c => exact ccC_f P hcb ..
  case makeMap t r => cases r <;> simp only [opC, mkmC, newB_f]
  case next x b => cases b <;> simp only [opC, nextC_f]
  all_goals simp only [opC, pickC, allocC, boxC, buildC, buildSC, ldC, stC, nlC, mkfC, lookC, updC, mentC, mstC, mksC, faC, fdC, iaC, ixC, exC, rgC, newB_f, putB_f, wrC_f, binC_f, unC_f, convC_f, getC_f, setC_f, sliceC_f, partC_f, entryC_f, fN_f, cond_f]
  all_goals (repeat' split)
  all_goals simp only [cond_f]
  all_goals (repeat' split)
  all_goals simp only [cond_f]

theorem stepC_f (nt : Nat) (ops : List Oper) (o : Oper) (e : AE) (s : St) : stepC P cb nt ops o e s (fun _ _ => false) = false := by
  unfold stepC execC
  simp only [opC_f P hcb, cond_f]
  repeat' split
  all_goals simp only [cond_f]
  all_goals (repeat' split)
  all_goals simp only [cond_f]

theorem opsC_f (nt : Nat) (ops : List Oper) : ∀ (l : List Oper) (e : AE) (s : St), opsC P cb nt ops l e s (fun _ _ => false) = false
  | [], _, _ => rfl
  | o :: r, e, s => by
    rw [opsC_cons]
    simp only [opsC_f nt ops r, stepC_f P hcb]

theorem drAll_f {nt : Nat} {ops : List Oper} {pbs : List Nat} {prev : DrT} (hp : ∀ a b c d e s, prev a b c d e s (fun _ _ _ => false) = false) (l acc : List (Nat × Nat)) (done : List Nat) (ld : List (Nat × Shape × AV × AV)) (e : AE) (s : St) (x : Nat × Oper) (r : List (Nat × Oper)) :
    drAll P cb nt ops pbs prev l acc done ld e s (fun _ _ _ => false) (x :: r) = false := by
  unfold drAll
  simp only [hp, cond_f, stepC_f P hcb, Bool.false_and]

theorem drawC_f (nt : Nat) (ops : List Oper) (pbs : List Nat) : ∀ (n : Nat) (rp : Option (List (Nat × Nat))) (acc : List (Nat × Nat)) (done : List Nat) (ld : List (Nat × Shape × AV × AV)) (e : AE) (s : St), drawC P cb nt ops pbs n rp acc done ld e s (fun _ _ _ => false) = false
  | 0, _, _, _, _, _, _ => rfl
  | n + 1, rp, acc, done, ld, e, s => by
    have ih := drawC_f nt ops pbs n
    show drStep P cb nt ops pbs (drawC P cb nt ops pbs n) rp acc done ld e s (fun _ _ _ => false) = false
    generalize drawC P cb nt ops pbs n = prev at ih
    unfold drStep drEff
    split
    · rename_i i o hne
      refine Eq.trans (congrArg (stepC P cb nt ops o e s) (funext fun e' => funext fun s' => ?_)) (stepC_f P hcb nt ops o e s)
      split
      · exact ih ..
      · rfl
    · split
      · exact cond_f _
      · split
        · simp only [Bool.and_false, ih, cond_f, stepC_f P hcb]
        · exact drAll_f P hcb ih ..
end
end Gp.Rn
