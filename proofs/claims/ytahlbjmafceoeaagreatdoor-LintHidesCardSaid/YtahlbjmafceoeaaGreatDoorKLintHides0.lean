/- Texts of this claim, those in one that belong together; printed by a program of this project. -/
import Derived.WalkKit
import Derived.WalkSpells
import Derived.Deep.Quiet
import Derived.Laws.AppendOwn
import Derived.Deep.MidRow
import Derived.Lib.OthersKept
import Derived.Lib.AppendStr
import Derived.Lib.UnsafeStr
import Derived.Lib.Repeat
import Derived.Laws.StructEq
import Derived.ChangeKeysEq
import Derived.Laws.Externs
import Derived.Lib.BytesEntry
import Derived.Lib.Bytealg
import Derived.ChangeShapes
import Derived.WideShapes
import Derived.Lib.AppendIntMem
import Derived.Lib.Itoa
import Derived.Lib.ParseIntB
import Derived.Lib.LaidTab
import Derived.LaidOnce
import Derived.Laws.CopyRow
import Derived.StillTail
import Derived.Orders
import Derived.Lib.SliceRun
import Derived.MapKept
import Derived.Test.YtahlbjmafceoeaaGreatDoorProg
set_option linter.unusedVariables false
set_option linter.unusedSimpArgs false
set_option maxRecDepth 20000
namespace Go.Proofs.YtahlbjmafceoeaaGreatDoor.E
open Go.RowKit
def lk:List (Nat×Value)→Nat→Option Value
 | [],_=>none
 | (t,v)::L,s=>bif Nat.beq t s then some v else lk L s
def ev(L:List (Nat×Value)):Operand→Option Value
 | .tmp t=>lk L t
 | .const v=>some v
 | .global g=>some (.pointer (some ⟨g,0,none⟩))
 | .func f=>some (.func (.func f) #[] #[])
def evs(L:List (Nat×Value)):List Operand→Option (List Value)
 | []=>some []
 | x::l=>match ev L x,evs L l with
  | some v,some vs=>some (v::vs)
  | _,_=>none
structure Env (n:Nat) (L:List (Nat×Value)) (a:Act):Prop where
 size:a.tmps.size=n
 defs:a.defers=[]
 vals:∀ t v,lk L t=some v→a.tmps.getD t undef=v
variable {n : Nat} {L L' : List (Nat × Value)} {a : Act} {W : World → Prop} {P : Program} {ops : Array Oper} {Q : Exit → Act → World → Prop} {rest : List Oper}
theorem Env.eval(h:Env n L a){x:Operand}{v:Value}(hx:ev L x=some v):a.eval x=v:=by
 cases x with
 | tmp t=>exact h.vals t v hx
 | const u=>simpa [ev,Act.eval] using hx
 | global g=>simpa [ev,Act.eval] using hx
 | func f=>simpa [ev,Act.eval] using hx
theorem Env.evals(h:Env n L a):∀ {l:List Operand} {vs:List Value},evs L l=some vs→l.map a.eval=vs
 | [],vs,hx=>by simp [evs] at hx;simp [hx]
 | x::l,vs,hx=>by
  unfold evs at hx
  split at hx
  ·next v vs' h1 h2 =>
   cases hx
   simp [h.eval h1,h.evals h2]
  ·cases hx
theorem lk_cons(t:Nat)(v:Value)(s:Nat):lk ((t,v)::L) s=if t=s then some v else lk L s:=by
 show (bif Nat.beq t s then some v else lk L s)=_
 by_cases e:t=s
 ·subst e;simp
 ·have:Nat.beq t s=false:=by
   cases hb:Nat.beq t s
   ·rfl
   ·exact absurd (Nat.eq_of_beq_eq_true hb) e
  rw [this,if_neg e];rfl
theorem Env.put(h:Env n L a){d:Nat}(hd:Nat.blt d n=true)(v:Value):Env n ((d,v)::L) (a.put (some d) v):=by
 refine ⟨by simp [Act.put,h.size],by simp [Act.put,h.defs],fun t u hu=>?_⟩
 have hd':d<a.tmps.size:=by rw [h.size];exact Nat.le_of_ble_eq_true hd
 rw [lk_cons] at hu
 simp only [Act.put,Array.getD_eq_getD_getElem?,Array.getElem?_setIfInBounds]
 split at hu
 ·next e=>subst e;cases hu;simp [hd']
 ·next e =>
  rw [if_neg e]
  have:=h.vals t u hu
  simpa [Array.getD_eq_getD_getElem?] using this
theorem Env.put_none(h:Env n L a)(v:Value):Env n L (a.put none v):=h
def Sub:List (Nat×Value)→List (Nat×Value)→Prop
 | [],_=>True
 | (t,v)::r,L=>lk L t=some v∧Sub r L
theorem Sub.lk:∀ {r:List (Nat×Value)},Sub r L→∀ t v,lk r t=some v→E.lk L t=some v
 | [],_,_,_,h=>by cases h
 | (_,_)::r,hs,t,v,h=>by
  rw [lk_cons] at h
  split at h
  ·next e=>subst e;cases h;exact hs.1
  ·exact Sub.lk hs.2 t v h
theorem Env.weak(h:Env n L a)(hs:Sub L' L):Env n L' a:=⟨h.size,h.defs,fun t v hv=>h.vals t v (hs.lk t v hv)⟩
def At(n:Nat)(L:List (Nat×Value))(W:World→Prop)(X:Act→World→Prop):Prop:=∀ a w,Env n L a→W w→X a w
theorem at_weak{X:Act→World→Prop}(L':List (Nat×Value))(hs:Sub L' L)(k:At n L' W X):At n L W X:=fun a w h hw=>k a w (h.weak hs) hw
theorem at_weak_k{X:Act→World→Prop}(k:At n L' W X)(hs:Sub L' L):At n L W X:=fun a w h hw=>k a w (h.weak hs) hw
theorem at_world{X:Act→World→Prop}{W':World→Prop}(hs:∀ w,W w→W' w)(k:At n L W' X):At n L W X:=fun a w h hw=>k a w h (hs w hw)
theorem at_seq{x y:Code}(k:At n L W (x.wp P (Exit.then (y.wp P Q) Q))):At n L W ((Code.seq x y).wp P Q):=fun a w h hw=>wp_seq (k a w h hw)
theorem at_region{id:Nat}{l:List Oper}(k:At n L W (wpList P l.toArray Q l)):At n L W ((Code.region id l.toArray false).wp P Q):=fun a w h hw=>wp_region_lit (k a w h hw)
theorem at_nil(k:At n L W (Q .normal)):At n L W (wpList P ops Q []):=fun a w h hw=>wpList_nil (k a w h hw)
theorem at_block{id:Nat}{c:Code}(k:At n L W (c.wp P (Exit.inBlock id Q))):At n L W ((Code.block id c).wp P Q):=fun a w h hw=>wp_block (k a w h hw)
theorem at_skip(k:At n L W (Q .normal)):At n L W (Code.skip.wp P Q):=fun a w h hw=>wp_skip (k a w h hw)
theorem at_exit{id:Nat}(k:At n L W (Q (.exit id))):At n L W ((Code.exit id).wp P Q):=fun a w h hw=>wp_exit (k a w h hw)
theorem at_ret(k:At n L W (Q .ret)):At n L W (Code.ret.wp P Q):=fun a w h hw=>wp_ret (k a w h hw)
theorem at_cond_true{c:Operand}{x y:Code}{b:Bool}(hc:ev L c=some (.bool b))(hb:b=true)(k:At n L W (x.wp P Q)):At n L W ((Code.cond c x y).wp P Q) :=
 fun a w h hw=>wp_cond_true (by rw [h.eval hc,hb]) (k a w h hw)
theorem at_cond_false{c:Operand}{x y:Code}{b:Bool}(hc:ev L c=some (.bool b))(hb:b=false)(k:At n L W (y.wp P Q)):At n L W ((Code.cond c x y).wp P Q) :=
 fun a w h hw=>wp_cond_false (by rw [h.eval hc,hb]) (k a w h hw)
def LoopFrom(P:Program)(c:Code)(Q:Exit→Act→World→Prop)(a:Act)(w:World):Prop :=
 ∀ (b:Frame) (k:List Item) (cs:List Frame),∃ e a' w',Q e a' w'∧Arrives P (lone (b.at a (.code c::.inLoop c::k)) cs w) b k cs e a' w'
theorem at_loop{c:Code}(k:At n L W (LoopFrom P c Q)):At n L W ((Code.loop c).wp P Q):=fun a w h hw b kk cs =>
 let ⟨e,a',w',hq,harr⟩:=k a w h hw b kk cs
 ⟨e,a',w',hq,.of_steps (.one step_loop) harr⟩
theorem loop_round{c:Code}{a:Act}{w:World}(h:c.wp P (Exit.then (LoopFrom P c Q) Q) a w):LoopFrom P c Q a w:=by
 intro b k cs
 obtain ⟨e,a₁,w₁,hq,harr⟩:=h b (.inLoop c::k) cs
 cases e with
 | normal =>
  obtain ⟨e₂,a₂,w₂,hq₂,harr₂⟩:=hq b k cs
  exact ⟨e₂,a₂,w₂,hq₂,.of_steps (Steps.trans harr (.one step_inLoop)) harr₂⟩
 | exit id=>exact ⟨_,a₁,w₁,hq,.pass (x:=.inLoop c) rfl (fun _ _=>.inl (by simp)) harr⟩
 | goto l=>exact ⟨_,a₁,w₁,hq,.pass (x:=.inLoop c) rfl (fun _ _=>.inl (by simp)) harr⟩
 | ret=>exact ⟨_,a₁,w₁,hq,.pass (x:=.inLoop c) rfl (fun _ _=>.inl (by simp)) harr⟩
 | panic ch=>exact ⟨_,a₁,w₁,hq,.pass (x:=.inLoop c) rfl (fun _ _=>.inl (by simp)) harr⟩
 | outgrown=>exact ⟨_,a₁,w₁,hq,.pass (x:=.inLoop c) rfl (fun _ _=>.inl (by simp)) harr⟩
theorem at_round{c:Code}(k:At n L W (c.wp P (Exit.then (LoopFrom P c Q) Q))):At n L W (LoopFrom P c Q):=fun a w h hw=>loop_round (k a w h hw)
def rep(l:List Value)(i:Nat):List (Nat×Value):=match l with | []=>[] | v::l=>(i,v)::rep l (i+1)
theorem rep_lk:∀ (l:List Value) (i t:Nat) (v:Value),lk (rep l i) t=some v→i≤t∧l[t-i]? = some v
 | [],_,_,_,h=>by cases h
 | u::l,i,t,v,h=>by
  unfold rep at h
  rw [lk_cons] at h
  split at h
  ·next e=>subst e;cases h;simp
  ·next e =>
   obtain ⟨h1,h2⟩:=rep_lk l (i+1) t v h
   refine ⟨by omega,?_⟩
   rw [show t-i=(t-(i+1))+1 by omega]
   simpa using h2
theorem calls_enter{f:FuncId}{fn:Func}{c:Code}{l:List Value}{w:World}{R:Ending→World→Prop}(hf:P.funcs[f]? = some fn)(hb:fn.body=some c)(hn:fn.ntmps=n)(hl:Nat.ble l.length n=true)
  (k:At n (rep l 0) (fun w'=>w'=w) (c.wp P (bodyPost P fn R))):Calls P f l.toArray w R:=by
 refine calls_of_wp hf hb ?_
 have hl':l.length≤n:=by simpa using hl
 refine k _ _ ⟨by simp [hn];omega,rfl,fun t v hv=>?_⟩ rfl
 obtain ⟨_,h2⟩:=rep_lk l 0 t v hv
 simp only [Nat.sub_zero] at h2
 simp only [Array.getD_eq_getD_getElem?]
 have:t<l.length:=(List.getElem?_eq_some_iff.1 h2).1
 rw [Array.getElem?_append_left (by simpa using this)]
 simp [h2]
theorem at_return1{fn:Func}{R:Ending→World→Prop}{t:Nat}{v:Value}(hr:fn.results=#[.tmp t])(hv:lk L t=some v)(hR:∀ w,W w→R (.returned v) w):At n L W (bodyPost P fn R .ret) :=
 fun a w h hw=>⟨h.defs,_,results_tmp hr a.tmps P w,by rw [h.vals t v hv];exact hR w hw⟩
theorem at_return2{fn:Func}{R:Ending→World→Prop}{t u:Nat}{v v':Value}(hr:fn.results=#[.tmp t,.tmp u])(hv:lk L t=some v)(hv':lk L u=some v')(hR:∀ w,W w→R (.returned (.tuple #[v,v'])) w):At n L W (bodyPost P fn R .ret) :=
 fun a w h hw=>⟨h.defs,_,results_tmp2 hr a.tmps P w,by rw [h.vals t v hv,h.vals u v' hv'];exact hR w hw⟩
theorem at_return0{fn:Func}{R:Ending→World→Prop}(hr:fn.results=#[])(hR:∀ w,W w→R (.returned (.tuple #[])) w):At n L W (bodyPost P fn R .normal) :=
 fun a w h hw=>⟨h.defs,_,results_none hr a.tmps P w,hR w hw⟩
variable {d : Nat} {ty : TypeId} {pos : String} {aft : Array Edge}
def Runs(n:Nat)(L:List (Nat×Value))(W:World→Prop)(P:Program)(o:Oper)(v:Value):Prop:=∀ a w,Env n L a→W w→(execOp a.eval o).run P w=.ok (.value v) w
theorem at_val{o:Oper}{v:Value}(hg:o.guard=none)(hd:o.dst=some d)(hdn:Nat.blt d n=true)(hr:Runs n L W P o v)
  (k:At n ((d,v)::L) W (wpList P ops Q rest)):At n L W (wpList P ops Q (o::rest)):=fun a w h hw =>
 wpList_plain hg fun K hK=>by
  unfold Oper.wp
  rw [hr a w h hw]
  simp only [Oper.upon,hd]
  exact hK _ _ (k _ _ (h.put hdn v) hw)
theorem at_any{o:Oper}{W':Value→World→Prop}(hg:o.guard=none)(hd:o.dst=some d)(hdn:Nat.blt d n=true)
  (hr:∀ a w,Env n L a→W w→∃ v w',(execOp a.eval o).run P w=.ok (.value v) w'∧W' v w')
  (k:∀ v,At n ((d,v)::L) (W' v) (wpList P ops Q rest)):At n L W (wpList P ops Q (o::rest)):=fun a w h hw =>
 wpList_plain hg fun K hK=>by
  obtain ⟨v,w',hrun,hw'⟩:=hr a w h hw
  unfold Oper.wp
  rw [hrun]
  simp only [Oper.upon,hd]
  exact hK _ _ (k v _ _ (h.put hdn v) hw')
theorem at_unit{o:Oper}{W':World→Prop}(hg:o.guard=none)(hd:o.dst=none)
  (hr:∀ a w,Env n L a→W w→∃ w',(execOp a.eval o).run P w=.ok .skip w'∧W' w')
  (k:At n L W' (wpList P ops Q rest)):At n L W (wpList P ops Q (o::rest)):=fun a w h hw =>
 wpList_plain hg fun K hK=>by
  obtain ⟨w',hrun,hw'⟩:=hr a w h hw
  unfold Oper.wp
  rw [hrun]
  simp only [Oper.upon,hd]
  exact hK _ _ (k _ _ (h.put_none _) hw')
theorem r_move{x:Operand}{v:Value}(hx:ev L x=some v) :
  Runs n L W P ⟨some d,.move x,ty,pos,aft,none⟩ (v) :=
 fun a w h _=>by simp only [execOp,h.eval hx];rfl
theorem r_assign{x:Operand}{v:Value}(hx:ev L x=some v) :
  Runs n L W P ⟨some d,.assign x,ty,pos,aft,none⟩ (v) :=
 fun a w h _=>by simp only [execOp,h.eval hx];rfl
def iop(op:BinOp)(k:IntKind)(x y:Int):Value:=match op with
 | .add=>.int k (k.wrap (x+y))
 | .sub=>.int k (k.wrap (x-y))
 | .mul=>.int k (k.wrap (x*y))
 | .and=>.int k (k.wrap (BitVec.ofInt k.bits x &&& BitVec.ofInt k.bits y).toNat)
 | .or=>.int k (k.wrap (BitVec.ofInt k.bits x ||| BitVec.ofInt k.bits y).toNat)
 | .xor=>.int k (k.wrap (BitVec.ofInt k.bits x ^^^ BitVec.ofInt k.bits y).toNat)
 | .andNot=>.int k (k.wrap (BitVec.ofInt k.bits x &&& ~~~ BitVec.ofInt k.bits y).toNat)
 | .eql=>.bool (x==y)
 | .neq=>.bool (x != y)
 | .lss=>.bool (decide (x<y))
 | .leq=>.bool (decide (x≤y))
 | .gtr=>.bool (decide (x>y))
 | .geq=>.bool (decide (x≥y))
 | _=>undef
def iopOk:BinOp→Bool
 | .add | .sub | .mul | .and | .or | .xor | .andNot | .eql | .neq | .lss | .leq | .gtr | .geq=>true
 | _=>false
theorem eqGuard_int(op:BinOp)(t:TypeId)(x y:Operand)(k l:IntKind)(a b:Int)(w:World):(eqGuard op t x y (.int k a) (.int l b)).run P w=.ok () w:=by
 cases op<;>rfl
theorem r_int{op:BinOp}{xt yt:TypeId}{x y:Operand}{k:IntKind}{i j:Int}{v:Value}(hx:ev L x=some (.int k i))(hy:ev L y=some (.int k j))(ho:iopOk op=true)(hv:iop op k i j=v) :
  Runs n L W P ⟨some d,.binOp op xt x y yt,ty,pos,aft,none⟩ (v) :=
 fun a w h _=>by
  subst hv
  simp only [execOp,h.eval hx,h.eval hy,Sem.run_bind,eqGuard_int,Result.andThen_ok]
  cases op<;>simp_all [iopOk]<;>simp [binOp,iop,Op.intArith,Op.intBits,Op.intCmp]
theorem r_shift{op:BinOp}{xt yt:TypeId}{x y:Operand}{k l:IntKind}{i j:Int}{v:Value}(hx:ev L x=some (.int k i))(hy:ev L y=some (.int l j))(hj:0≤j)
  (hv:(match op with | .shl=>Value.int k (k.wrap (i*2 ^ (min j.toNat k.bits))) | .shr=>.int k (i.fdiv (2 ^ (min j.toNat k.bits))) | _=>undef)=v) (ho:op=.shl∨op=.shr) :
  Runs n L W P ⟨some d,.binOp op xt x y yt,ty,pos,aft,none⟩ (v) :=
 fun a w h _=>by
  subst hv
  simp only [execOp,h.eval hx,h.eval hy,Sem.run_bind,eqGuard_int,Result.andThen_ok]
  rcases ho with rfl | rfl<;>simp [binOp,Op.shift,Int.not_lt.2 hj]
theorem r_div{op:BinOp}{xt yt:TypeId}{x y:Operand}{k:IntKind}{i j:Int}{v:Value}(hx:ev L x=some (.int k i))(hy:ev L y=some (.int k j))(hj:j≠0)
  (hv:(match op with | .quo=>Value.int k (k.wrap (i.tdiv j)) | .rem=>.int k (i.tmod j) | _=>undef)=v) (ho:op=.quo∨op=.rem) :
  Runs n L W P ⟨some d,.binOp op xt x y yt,ty,pos,aft,none⟩ (v) :=
 fun a w h _=>by
  subst hv
  simp only [execOp,h.eval hx,h.eval hy,Sem.run_bind,eqGuard_int,Result.andThen_ok]
  rcases ho with rfl | rfl<;>simp [binOp,Op.intDiv,hj]
section
variable {xt yt : TypeId} {x y : Operand} {k : IntKind} {i j : Int}
theorem r_iadd(hx:ev L x=some (.int k i))(hy:ev L y=some (.int k j)) :
  Runs n L W P ⟨some d,.binOp .add xt x y yt,ty,pos,aft,none⟩ (.int k (k.wrap (i+j))):=r_int hx hy rfl rfl
theorem r_isub(hx:ev L x=some (.int k i))(hy:ev L y=some (.int k j)) :
  Runs n L W P ⟨some d,.binOp .sub xt x y yt,ty,pos,aft,none⟩ (.int k (k.wrap (i-j))):=r_int hx hy rfl rfl
theorem r_imul(hx:ev L x=some (.int k i))(hy:ev L y=some (.int k j)) :
  Runs n L W P ⟨some d,.binOp .mul xt x y yt,ty,pos,aft,none⟩ (.int k (k.wrap (i*j))):=r_int hx hy rfl rfl
theorem r_iand(hx:ev L x=some (.int k i))(hy:ev L y=some (.int k j)) :
  Runs n L W P ⟨some d,.binOp .and xt x y yt,ty,pos,aft,none⟩ (.int k (k.wrap (BitVec.ofInt k.bits i &&& BitVec.ofInt k.bits j).toNat)):=r_int hx hy rfl rfl
theorem r_ior(hx:ev L x=some (.int k i))(hy:ev L y=some (.int k j)) :
  Runs n L W P ⟨some d,.binOp .or xt x y yt,ty,pos,aft,none⟩ (.int k (k.wrap (BitVec.ofInt k.bits i ||| BitVec.ofInt k.bits j).toNat)):=r_int hx hy rfl rfl
theorem r_ieql(hx:ev L x=some (.int k i))(hy:ev L y=some (.int k j)) :
  Runs n L W P ⟨some d,.binOp .eql xt x y yt,ty,pos,aft,none⟩ (.bool (i==j)):=r_int hx hy rfl rfl
theorem r_ineq(hx:ev L x=some (.int k i))(hy:ev L y=some (.int k j)) :
  Runs n L W P ⟨some d,.binOp .neq xt x y yt,ty,pos,aft,none⟩ (.bool (i != j)):=r_int hx hy rfl rfl
theorem r_ilss(hx:ev L x=some (.int k i))(hy:ev L y=some (.int k j)) :
  Runs n L W P ⟨some d,.binOp .lss xt x y yt,ty,pos,aft,none⟩ (.bool (decide (i<j))):=r_int hx hy rfl rfl
theorem r_ileq(hx:ev L x=some (.int k i))(hy:ev L y=some (.int k j)) :
  Runs n L W P ⟨some d,.binOp .leq xt x y yt,ty,pos,aft,none⟩ (.bool (decide (i≤j))):=r_int hx hy rfl rfl
theorem r_igtr(hx:ev L x=some (.int k i))(hy:ev L y=some (.int k j)) :
  Runs n L W P ⟨some d,.binOp .gtr xt x y yt,ty,pos,aft,none⟩ (.bool (decide (i>j))):=r_int hx hy rfl rfl
theorem r_igeq(hx:ev L x=some (.int k i))(hy:ev L y=some (.int k j)) :
  Runs n L W P ⟨some d,.binOp .geq xt x y yt,ty,pos,aft,none⟩ (.bool (decide (i≥j))):=r_int hx hy rfl rfl
theorem r_ishl{l:IntKind}(hx:ev L x=some (.int k i))(hy:ev L y=some (.int l j))(hj:0≤j) :
  Runs n L W P ⟨some d,.binOp .shl xt x y yt,ty,pos,aft,none⟩ (.int k (k.wrap (i*2 ^ (min j.toNat k.bits)))):=r_shift hx hy hj rfl (.inl rfl)
theorem r_ishr{l:IntKind}(hx:ev L x=some (.int k i))(hy:ev L y=some (.int l j))(hj:0≤j) :
  Runs n L W P ⟨some d,.binOp .shr xt x y yt,ty,pos,aft,none⟩ (.int k (i.fdiv (2 ^ (min j.toNat k.bits)))):=r_shift hx hy hj rfl (.inr rfl)
theorem r_iquo(hx:ev L x=some (.int k i))(hy:ev L y=some (.int k j))(hj:j≠0) :
  Runs n L W P ⟨some d,.binOp .quo xt x y yt,ty,pos,aft,none⟩ (.int k (k.wrap (i.tdiv j))):=r_div hx hy hj rfl (.inl rfl)
theorem r_irem(hx:ev L x=some (.int k i))(hy:ev L y=some (.int k j))(hj:j≠0) :
  Runs n L W P ⟨some d,.binOp .rem xt x y yt,ty,pos,aft,none⟩ (.int k (i.tmod j)):=r_div hx hy hj rfl (.inr rfl)
end
def seq(x y:ByteArray):Bool:=x.toList==y.toList
def sop(op:BinOp)(x y:ByteArray):Value:=match op with
 | .eql=>.bool (seq x y)
 | .neq=>.bool (!seq x y)
 | .lss=>.bool (Op.bytesLess x.toList y.toList)
 | .leq=>.bool (Op.bytesLess x.toList y.toList||seq x y)
 | .gtr=>.bool (!(Op.bytesLess x.toList y.toList||seq x y))
 | .geq=>.bool (!Op.bytesLess x.toList y.toList)
 | _=>undef
def sopOk:BinOp→Bool
 | .eql | .neq | .lss | .leq | .gtr | .geq=>true
 | _=>false
theorem eqGuard_str(op:BinOp)(t:TypeId)(x y:Operand)(a b:ByteArray)(w:World):(eqGuard op t x y (.string a) (.string b)).run P w=.ok () w:=by
 cases op<;>rfl
theorem r_str{op:BinOp}{xt yt:TypeId}{x y:Operand}{i j:ByteArray}{v:Value}(hx:ev L x=some (.string i))(hy:ev L y=some (.string j))(ho:sopOk op=true)(hv:sop op i j=v) :
  Runs n L W P ⟨some d,.binOp op xt x y yt,ty,pos,aft,none⟩ (v) :=
 fun a w h _=>by
  subst hv
  simp only [execOp,h.eval hx,h.eval hy,Sem.run_bind,eqGuard_str,Result.andThen_ok]
  cases op<;>simp_all [sopOk]<;>simp [binOp,sop,Op.stringOp,seq]
section
variable {xt yt : TypeId} {x y : Operand} {i j : ByteArray}
theorem r_seql(hx:ev L x=some (.string i))(hy:ev L y=some (.string j)) :
  Runs n L W P ⟨some d,.binOp .eql xt x y yt,ty,pos,aft,none⟩ (.bool (seq i j)):=r_str hx hy rfl rfl
end
theorem r_concat{xt yt:TypeId}{x y:Operand}{i j:ByteArray}(hx:ev L x=some (.string i))(hy:ev L y=some (.string j))(hs:i.size+j.size≤140737488355328) :
  Runs n L W P ⟨some d,.binOp .add xt x y yt,ty,pos,aft,none⟩ (.string (i++j)) :=
 fun a w h _=>by
  have:¬ (((i.size+j.size:Nat):Int)>IntKind.i64.max):=by
   have:IntKind.i64.max=9223372036854775807:=by decide
   omega
  simp only [execOp,h.eval hx,h.eval hy,Sem.run_bind,eqGuard_str,Result.andThen_ok]
  simp only [binOp,Op.stringOp,this,if_false]
  rfl
theorem r_not{xt:TypeId}{x:Operand}{b:Bool}(hx:ev L x=some (.bool b)) :
  Runs n L W P ⟨some d,.unOp .not xt x,ty,pos,aft,none⟩ (.bool (!b)) :=
 fun a w h _=>by simp only [execOp,h.eval hx];rfl
theorem r_conv{s t:TypeId}{x:Operand}{k l:IntKind}{i:Int}(hs:P.underlying s=some (.int l))(ht:P.underlying t=some (.int k))(hx:ev L x=some (.int l i)) :
  Runs n L W P ⟨some d,.convert s t x,ty,pos,aft,none⟩ (.int k (k.wrap i)) :=
 fun a w h _=>by
  simp only [execOp,h.eval hx,convert,Sem.run_bind,run_underlying hs,run_underlying ht,Result.andThen_ok]
  rfl
theorem r_conv_str{s t:TypeId}{x:Operand}{l:IntKind}{i:Int}(hs:P.underlying s=some (.int l))(ht:P.underlying t=some .string)(hx:ev L x=some (.int l i)) :
  Runs n L W P ⟨some d,.convert s t x,ty,pos,aft,none⟩ (.string (Utf8.encode i)) :=
 fun a w h _=>by
  simp only [execOp,h.eval hx,convert,Sem.run_bind,run_underlying hs,run_underlying ht,Result.andThen_ok]
  rfl
section
variable {t u : TypeId} {x y : Operand} {k : IntKind} {i j : Int}
theorem r_min(hx:ev L x=some (.int k i))(hy:ev L y=some (.int k j)) :
  Runs n L W P ⟨some d,.call { callee:=.builtin .min,args:=#[x,y],argTypes:=#[t,u] },ty,pos,aft,none⟩ (.int k (if j<i then j else i)) :=
 fun a w h _=>by
  simp only [execOp,resolve,invoke,builtin,Sem.run_bind,Sem.run_pure,Result.andThen_ok,List.map_toArray,List.map_cons,List.map_nil,h.eval hx,h.eval hy]
  simp [Builtin.min_,Builtin.min2]
theorem r_max(hx:ev L x=some (.int k i))(hy:ev L y=some (.int k j)) :
  Runs n L W P ⟨some d,.call { callee:=.builtin .max,args:=#[x,y],argTypes:=#[t,u] },ty,pos,aft,none⟩ (.int k (if i<j then j else i)) :=
 fun a w h _=>by
  simp only [execOp,resolve,invoke,builtin,Sem.run_bind,Sem.run_pure,Result.andThen_ok,List.map_toArray,List.map_cons,List.map_nil,h.eval hx,h.eval hy]
  simp [Builtin.max_,Builtin.max2]
end
def bt(s:ByteArray)(i:Int):Int:=((s[i.toNat]?).getD 0).toNat
theorem r_index_str{t:TypeId}{x y:Operand}{s:ByteArray}{k:IntKind}{i:Int}(ht:P.underlying t=some .string)(hx:ev L x=some (.string s))(hy:ev L y=some (.int k i))(hi:0≤i∧i<s.size) :
  Runs n L W P ⟨some d,.index t x y,ty,pos,aft,none⟩ (.int .u8 (bt s i)) :=
 fun a w h _=>by
  have hlt:i.toNat<s.size:=by omega
  simp only [execOp,h.eval hx,h.eval hy]
  simp [Instr.index,asIntOf,run_underlying ht,hi.1,hlt,bt]
theorem r_extract{x:Operand}{i:Nat}{vs:Array Value}{v:Value}(hx:ev L x=some (.tuple vs))(hv:vs[i]? = some v) :
  Runs n L W P ⟨some d,.extract x i,ty,pos,aft,none⟩ (v) :=
 fun a w h _=>by simp [execOp,h.eval hx,Instr.extract,hv]
theorem r_pick{c x y:Operand}{b:Bool}{u v:Value}(hc:ev L c=some (.bool b))(hx:ev L x=some u)(hy:ev L y=some v) :
  Runs n L W P ⟨some d,.pick c x y,ty,pos,aft,none⟩ (bif b then u else v) :=
 fun a w h _=>by cases b<;>simp [execOp,h.eval hc,h.eval hx,h.eval hy,asBool]
theorem at_call{f : FuncId}{fn : Func}{xs : List Operand}{ats : Array TypeId}{l : List Value}{W' : Value → World → Prop}(hf : P.funcs[f]? = some fn)(hb : fn.body.isSome = true)(hnm : (fn.name == "runtime.NumGoroutine") = false)
  (hx:evs L xs=some l) (hdn:Nat.blt d n=true) (hc:∀ w,W w→Calls P f l.toArray w fun e w'=>∃ v,e=.returned v∧W' v w')
  (kk:∀ v,At n ((d,v)::L) (W' v) (wpList P ops Q rest)) :
  At n L W (wpList P ops Q (⟨some d,.call { callee:=.value (.func f),args:=xs.toArray,argTypes:=ats },ty,pos,aft,none⟩::rest)):=fun a w h hw =>
 wpList_plain rfl fun K hK=>by
  have hargs:=h.evals hx
  unfold Oper.wp
  rw [execOp_call_go]
  have hrun:(callFunc f (#[]++xs.toArray.map a.eval++#[])).run P w=.ok (.enter f l.toArray) w:=by
   have hbn:¬ fn.body=none:=by intro hq;simp [hq] at hb
   have hn' : ¬ fn.name = "runtime.NumGoroutine" := by intro hq; rw [hq] at hnm; simp at hnm
   simp [callFunc,program,Sem.run,hf,hn',hbn,hargs]
  rw [hrun]
  simp only [Oper.upon]
  refine (hc w hw).mono ?_
  rintro e w' ⟨v,rfl,hw'⟩
  exact hK _ _ (kk v _ _ (h.put hdn v) hw')
theorem of_guard{α:Type}{p:Prop}[Decidable p]{G:Option α}{r:α}(h:(if p then G else none)=some r):p∧G=some r:=by
 split at h
 ·exact ⟨‹_›,h⟩
 ·cases h
theorem of_ite{α:Type}{c:Bool}{A B:Option α}{r:α}(h:(if c=true then A else B)=some r):(c=true∧A=some r)∨(c=false∧B=some r):=by
 cases c
 ·exact .inr ⟨rfl,h⟩
 ·exact .inl ⟨rfl,h⟩
theorem of_some{α:Type}{x r:α}(h:some x=some r):x=r:=Option.some.inj h
abbrev wr(k:IntKind)(x:Int):Int:=k.wrap x
abbrev iand(k:IntKind)(x y:Int):Int:=k.wrap (BitVec.ofInt k.bits x &&& BitVec.ofInt k.bits y).toNat
abbrev ior(k:IntKind)(x y:Int):Int:=k.wrap (BitVec.ofInt k.bits x ||| BitVec.ofInt k.bits y).toNat
abbrev ishl(k:IntKind)(x y:Int):Int:=k.wrap (x*2 ^ (min y.toNat k.bits))
abbrev ishr(k:IntKind)(x y:Int):Int:=x.fdiv (2 ^ (min y.toNat k.bits))
inductive Ctl (R S:Type) where
 | ret (r:R)
 | nx (s:S)
def Kq{R S:Type}(q:Ctl R S)(r:R)(A:S→Prop):Prop:=match q with
 | .ret r'=>r'=r
 | .nx s=>A s
abbrev Post:=(Act→World→Prop)→Prop
def KN(A:Post)(Q:Exit→Act→World→Prop)(B:Nat):Prop:=A (Q (.exit B))
def KR{R S:Type}(A:S→Post)(Q:Exit→Act→World→Prop)(B:Nat)(r:R)(x:Ctl R S):Prop:=Kq x r fun s=>A s (Q (.exit B))
def Round(A:Post)(P:Program)(c:Code)(Q:Exit→Act→World→Prop):Prop:=A (LoopFrom P c Q)
section
variable {K : Act → World → Prop} {i id : Nat} {c x x2 y : Code} {R S : Type}
theorem at_then_normal(k:At n L W K):At n L W (Exit.then K Q .normal):=k
theorem at_then_exit(k:At n L W (Q (.exit i))):At n L W (Exit.then K Q (.exit i)):=k
theorem at_then_ret(k:At n L W (Q .ret)):At n L W (Exit.then K Q .ret):=k
theorem at_blk_normal(k:At n L W (Q .normal)):At n L W (Exit.inBlock id Q .normal):=k
theorem at_blk_ret(k:At n L W (Q .ret)):At n L W (Exit.inBlock id Q .ret):=k
theorem at_blk_same(k:At n L W (Q .normal)):At n L W (Exit.inBlock id Q (.exit id)):=fun a w h hw=>by simpa [Exit.inBlock] using k a w h hw
theorem at_loop_n(B:Nat)(A:Post)(h:KN A Q B→At n L W (LoopFrom P c Q))(k:KN A Q B):At n L W ((Code.loop c).wp P Q):=at_loop (h k)
theorem at_loop_r(B:Nat)(r:R)(q:Ctl R S)(A:S→Post)(h:KR A Q B r q→At n L W (LoopFrom P c Q))(k:KR A Q B r q):At n L W ((Code.loop c).wp P Q):=at_loop (h k)
theorem at_loop_only(r q:R)(h:q=r→At n L W (LoopFrom P c Q))(k:q=r):At n L W ((Code.loop c).wp P Q):=at_loop (h k)
theorem at_join(r:R)(q:Ctl R S)(A:S→Post)(h1:∀ Y:Act→World→Prop,Kq q r (fun s=>A s Y)→At n L W (x.wp P (Exit.then Y Q)))
  (h2:Kq q r (fun s=>A s (y.wp P Q))):At n L W ((Code.seq x y).wp P Q):=at_seq (h1 _ h2)
theorem at_joinp(A:Post)(h1:∀ Y:Act→World→Prop,A Y→At n L W (x.wp P (Exit.then Y Q)))
  (h2:A (y.wp P Q)):At n L W ((Code.seq x y).wp P Q):=at_seq (h1 _ h2)
end
theorem at_fix{X:Act→World→Prop}{g:Nat}{b b':Bool}(hg:lk L g=some (.bool b))(hb:b=b')(k:At n ((g,.bool b')::L) W X):At n L W X:=fun a w h hw =>
 k a w ⟨h.size,h.defs,fun t v hv=>by
  rw [lk_cons] at hv
  split at hv
  ·next e=>subst e hb;cases hv;exact h.vals _ _ hg
  ·exact h.vals t v hv⟩ hw
theorem yields_of{a:Act}(h:Env n L a){j g:Nat}{oj:Oper}{b:Bool}(hj:ops[j]? = some oj)(hd:oj.dst=some g)(hg:lk L g=some (.bool b)):yielded ops a.tmps j=some b:=by
 have:=h.vals g _ hg
 rw [Array.getD_eq_getD_getElem?] at this
 unfold yielded
 simp only [hj,hd,Option.bind_some]
 cases hq:a.tmps[g]? with
 | none=>rw [hq] at this;cases this
 | some u=>rw [hq] at this;simp only [Option.getD_some] at this;subst this;rfl
section
variable {dst : Option Tmp} {op : Op} {j g : Nat} {oj : Oper} {b b' : Bool}
theorem at_guard_yes(hj:ops[j]? = some oj)(hd:oj.dst=some g)(hg:lk L g=some (.bool b))(k:At n L W (wpList P ops Q (⟨dst,op,ty,pos,aft,none⟩::rest))) :
  At n L W (wpList P ops Q (⟨dst,op,ty,pos,aft,some (j,b)⟩::rest)):=fun a w h hw=>by
 have hk:=k a w h hw
 have hy:=yields_of h hj hd hg
 unfold wpList at hk ⊢
 rw [if_pos (by simp [Region.wanted])] at hk
 rw [if_pos (by simp [Region.wanted,hy])]
 exact hk
theorem at_guard_undef(hj:ops[j]? = some oj)(hd:oj.dst=some g)(hg:lk L g=some undef)(hdn:Nat.blt d n=true)(k:At n ((d,undef)::L) W (wpList P ops Q rest)) :
  At n L W (wpList P ops Q (⟨some d,op,ty,pos,aft,some (j,b')⟩::rest)):=fun a w h hw=>by
 have hy:yielded ops a.tmps j=none:=by
  have:=h.vals g _ hg
  rw [Array.getD_eq_getD_getElem?] at this
  unfold yielded
  simp only [hj,hd,Option.bind_some]
  cases hq:a.tmps[g]? with
  | none=>rfl
  | some u=>rw [hq] at this;simp only [Option.getD_some] at this;subst this;rfl
 unfold wpList
 rw [if_neg (by simp [Region.wanted,hy])]
 exact k _ _ (h.put hdn _) hw
theorem at_guard_no(hj:ops[j]? = some oj)(hd:oj.dst=some g)(hg:lk L g=some (.bool b))(hne:(b==b')=false)(hdn:Nat.blt d n=true)(k:At n ((d,undef)::L) W (wpList P ops Q rest)) :
  At n L W (wpList P ops Q (⟨some d,op,ty,pos,aft,some (j,b')⟩::rest)):=fun a w h hw=>by
 have hy:=yields_of h hj hd hg
 unfold wpList
 rw [if_neg (by simp [Region.wanted,hy];simpa using hne)]
 exact k _ _ (h.put hdn _) hw
end
theorem at_call0{f : FuncId}{fn : Func}{xs : List Operand}{ats : Array TypeId}{l : List Value}{v : Value}(hf : P.funcs[f]? = some fn)(hb : fn.body.isSome = true)(hnm : (fn.name == "runtime.NumGoroutine") = false)
  (hx:evs L xs=some l) (hdn:Nat.blt d n=true) (hc:∀ w,Calls P f l.toArray w fun e w'=>e=.returned v∧w'=w)
  (kk:At n ((d,v)::L) W (wpList P ops Q rest)) :
  At n L W (wpList P ops Q (⟨some d,.call { callee:=.value (.func f),args:=xs.toArray,argTypes:=ats },ty,pos,aft,none⟩::rest)) :=
 at_call (W':=fun u w'=>u=v∧W w') hf hb hnm hx hdn (fun w hw=>(hc w).mono fun e w' ⟨he,hw'⟩=>⟨v,he,rfl,hw'▸hw⟩) fun u a w h hw=>by
  obtain ⟨rfl,hw⟩:=hw
  exact kk a w h hw
theorem eqGuard_bool(op:BinOp)(t:TypeId)(x y:Operand)(a b:Bool)(w:World):(eqGuard op t x y (.bool a) (.bool b)).run P w=.ok () w:=by
 cases op<;>rfl
theorem run_equalIn_bool{t:TypeId}(ht:P.underlying t=some .bool)(d:Nat)(x y:Bool)(w:World):(Op.equalIn (d+1) t (.bool x) (.bool y)).run P w=.ok (x==y) w:=by
 unfold Op.equalIn
 simp only [Sem.run_bind,run_underlying ht,Result.andThen_ok]
 rfl
theorem run_equal_bool{t:TypeId}(ht:P.underlying t=some .bool)(x y:Bool)(w:World):(Op.equal t (.bool x) (.bool y)).run P w=.ok (x==y) w:=run_equalIn_bool ht 9999 x y w
theorem r_bool{op:BinOp}{xt yt:TypeId}{x y:Operand}{i j:Bool}{v:Value}(ht:P.underlying xt=some .bool)(hx:ev L x=some (.bool i))(hy:ev L y=some (.bool j))(ho:op=.eql∨op=.neq)(hv:(match op with | .eql=>Value.bool (i==j) | _=>.bool (i != j))=v) :
  Runs n L W P ⟨some d,.binOp op xt x y yt,ty,pos,aft,none⟩ (v) :=
 fun a w h _=>by
  subst hv
  simp only [execOp,h.eval hx,h.eval hy,Sem.run_bind,eqGuard_bool,Result.andThen_ok]
  rcases ho with rfl | rfl<;>simp only [binOp,Sem.run_bind,run_equal_bool ht,Result.andThen_ok]<;>rfl
theorem of_bindM{α β:Type}{x:Option α}{G:α→Option β}{r:β}(h:(x>>=G)=some r):∃ v,x=some v∧G v=some r:=Option.bind_eq_some_iff.1 h
end Go.Proofs.YtahlbjmafceoeaaGreatDoor.E
namespace Go.Proofs.YtahlbjmafceoeaaGreatDoor.E
open Go.RowKit
structure Cd (α:Type) where
 sz:Nat
 cs:α→List Value
 len:∀ x,(cs x).length=sz
 one:∀ x,∀ v∈cs x,v.oneCell'=true
 pos:0<sz
def Cd.all{α:Type}(c:Cd α)(xs:List α):List Value:=xs.flatMap c.cs
theorem Cd.all_cons{α:Type}(c:Cd α)(x:α)(xs:List α):c.all (x::xs)=c.cs x++c.all xs:=rfl
theorem Cd.all_append{α:Type}(c:Cd α)(xs ys:List α):c.all (xs++ys)=c.all xs++c.all ys:=by simp [Cd.all]
theorem Cd.all_len{α:Type}(c:Cd α)(xs:List α):(c.all xs).length=xs.length*c.sz:=by
 induction xs with
 | nil=>simp [Cd.all]
 | cons x xs ih=>rw [Cd.all_cons,List.length_append,c.len,ih,List.length_cons,Nat.add_mul];omega
theorem Cd.all_one{α:Type}(c:Cd α)(xs:List α):∀ v∈c.all xs,v.oneCell'=true:=by
 intro v hv
 obtain ⟨x,_,hx⟩:=List.mem_flatMap.1 hv
 exact c.one x v hx
theorem Cd.all_get{α:Type}(c:Cd α):∀ (xs:List α) (i k:Nat) (x:α),xs[i]? = some x→k<c.sz→(c.all xs)[i*c.sz+k]? = (c.cs x)[k]?
 | [],_,_,_,h,_=>by simp at h
 | y::xs,0,k,x,h,hk=>by
  simp at h;subst h
  rw [Cd.all_cons,Nat.zero_mul,Nat.zero_add,List.getElem?_append_left (by rw [c.len];exact hk)]
 | y::xs,i+1,k,x,h,hk=>by
  rw [Cd.all_cons,List.getElem?_append_right (by rw [c.len,Nat.add_mul];omega),c.len,show (i+1)*c.sz+k-c.sz=i*c.sz+k by rw [Nat.add_mul];omega]
  exact Cd.all_get c xs i k x (by simpa using h) hk
def cInt(k:IntKind):Cd Int:=⟨1,fun n=>[.int k n],fun _=>rfl,fun _ v hv=>by simp at hv;subst hv;rfl,by decide⟩
def cBool:Cd Bool:=⟨1,fun b=>[.bool b],fun _=>rfl,fun _ v hv=>by simp at hv;subst hv;rfl,by decide⟩
def cStr:Cd ByteArray:=⟨1,fun s=>[.string s],fun _=>rfl,fun _ v hv=>by simp at hv;subst hv;rfl,by decide⟩
def lget{α:Type}[Inhabited α](xs:List α)(i:Int):α:=xs.getD i.toNat default
theorem lget_some{α:Type}[Inhabited α]{xs:List α}{i:Int}(h:0≤i∧i<xs.length):xs[i.toNat]? = some (lget xs i):=by
 have:i.toNat<xs.length:=by omega
 simp [lget,this]
def Row{α:Type}(c:Cd α)(w:World)(p:Option Addr)(cap:Nat)(xs:List α):Prop :=
 xs.length≤cap∧(xs=[]∨∃ b o,p=some ⟨b,o,none⟩∧∀ j u,(c.all xs)[j]? = some u→w.cell? ⟨b,o+j,none⟩=some u)
theorem Row.len{α:Type}{c:Cd α}{w:World}{p:Option Addr}{cap:Nat}{xs:List α}(h:Row c w p cap xs):xs.length≤cap:=h.1
theorem Row.nil{α:Type}(c:Cd α)(w:World)(p:Option Addr)(cap:Nat):Row c w p cap []:=⟨Nat.zero_le _,.inl rfl⟩
theorem Row.below{α:Type}{c:Cd α}{w w':World}{p:Option Addr}{cap:Nat}{xs:List α}(h:Row c w p cap xs)(hb:Below w.heap.size w w'):Row c w' p cap xs:=by
 obtain ⟨hl,h⟩:=h
 rcases h with h | ⟨b,o,hp,hc⟩
 ·exact ⟨hl,.inl h⟩
 ·refine ⟨hl,.inr ⟨b,o,hp,fun j u hu=>?_⟩⟩
  have h1:=hc j u hu
  rw [hb.cell (p:=⟨b,o+j,none⟩) (World.block_lt_of_cell? w _ h1)]
  exact h1
theorem Row.ptr{α:Type}[Inhabited α]{c:Cd α}{w:World}{p:Option Addr}{cap:Nat}{xs:List α}{i:Int}(h:Row c w p cap xs)(hi:0≤i∧i<xs.length) :
  ∃ b o,p=some ⟨b,o,none⟩∧∀ k v,(c.cs (lget xs i))[k]? = some v→w.cell? ⟨b,o+(i.toNat*c.sz+k),none⟩=some v:=by
 obtain ⟨hl,h⟩:=h
 rcases h with h | ⟨b,o,hp,hc⟩
 ·subst h;simp at hi;omega
 ·refine ⟨b,o,hp,fun k v hv=>hc _ _ ?_⟩
  have hk:k<c.sz:=by rw [←c.len (lget xs i)];exact (List.getElem?_eq_some_iff.1 hv).1
  rw [c.all_get xs i.toNat k _ (lget_some hi) hk]
  exact hv
def lsub{α:Type}(xs:List α)(l h:Int):List α:=(xs.take h.toNat).drop l.toNat
theorem lsub_length{α:Type}{xs:List α}{l h:Int}(hb:0≤l∧l≤h∧h≤xs.length):(lsub xs l h).length=h.toNat-l.toNat:=by
 simp only [lsub,List.length_drop,List.length_take];omega
def rsp(p:Option Addr)(cap:Nat)(l:Int)(sz:Nat):Option Addr:=if cap=l.toNat then p else p.map (·.add (l.toNat*sz))
theorem Row.sub{α:Type}{c:Cd α}{w:World}{p:Option Addr}{cap:Nat}{xs:List α}{l h:Int}(hr:Row c w p cap xs)(hb:0≤l∧l≤h∧h≤xs.length) :
  Row c w (rsp p cap l c.sz) (cap-l.toNat) (lsub xs l h):=by
 obtain ⟨hl,hr⟩:=hr
 refine ⟨by rw [lsub_length hb];omega,?_⟩
 by_cases he:l=h
 ·left;apply List.eq_nil_of_length_eq_zero;rw [lsub_length hb];omega
 ·right
  rcases hr with hr | ⟨b,o,hp,hc⟩
  ·subst hr;simp at hb;omega
  ·refine ⟨b,o+l.toNat*c.sz,?_,fun j u hu=>?_⟩
   ·unfold rsp;rw [if_neg (by omega),hp];simp [Addr.add_lit]
   ·rw [Nat.add_assoc]
    refine hc _ _ ?_
    have e1:xs=xs.take l.toNat++(lsub xs l h++xs.drop h.toNat):=by
     have:=List.take_append_drop l.toNat (xs.take h.toNat)
     have h2:=List.take_append_drop h.toNat xs
     rw [List.take_take,Nat.min_eq_left (by omega)] at this
     unfold lsub
     rw [←List.append_assoc,this,h2]
    have hl2:(c.all (xs.take l.toNat)).length=l.toNat*c.sz:=by rw [c.all_len,List.length_take];congr 1;omega
    rw [e1,c.all_append,c.all_append,List.getElem?_append_right (by omega),hl2,Nat.add_sub_cancel_left,List.getElem?_append_left]
    ·exact hu
    ·exact (List.getElem?_eq_some_iff.1 hu).1
structure Ent where
 fp:List Nat
 ok:World→Prop
 loc:∀ w w',(∀ k∈fp,w'.heap[k]? = w.heap[k]?)→ok w→ok w'
def Sep(B:Nat):List Ent→World→Prop
 | [],_=>True
 | E::H,w=>E.ok w∧(∀ k∈E.fp,B≤k∧k<w.heap.size∧∀ E'∈H,k∉E'.fp)∧Sep B H w
structure Wd (w0:World) (H:List Ent) (w:World):Prop where
 below:Below w0.heap.size w0 w
 sep:Sep w0.heap.size H w
theorem Wd.refl(w:World):Wd w [] w:=⟨Below.refl _ _,trivial⟩
theorem Sep.fp{B:Nat}:∀ {H:List Ent} {w:World},Sep B H w→∀ E∈H,∀ k∈E.fp,B≤k∧k<w.heap.size
 | _::_,_,h,E,hE,k,hk=>by
  rcases List.mem_cons.1 hE with rfl | hE
  ·exact ⟨(h.2.1 k hk).1,(h.2.1 k hk).2.1⟩
  ·exact Sep.fp h.2.2 E hE k hk
theorem Sep.mono{B:Nat}:∀ {H:List Ent} {w w':World},Sep B H w→w.heap.size≤w'.heap.size→(∀ E∈H,∀ k∈E.fp,w'.heap[k]? = w.heap[k]?)→Sep B H w'
 | [],_,_,_,_,_=>trivial
 | E::H,w,w',h,hs,he =>
  ⟨E.loc w w' (he E (List.mem_cons_self ..)) h.1,fun k hk=>⟨(h.2.1 k hk).1,Nat.lt_of_lt_of_le (h.2.1 k hk).2.1 hs,(h.2.1 k hk).2.2⟩,
   Sep.mono h.2.2 hs fun E' hE'=>he E' (List.mem_cons_of_mem _ hE')⟩
variable {n : Nat} {L L' : List (Nat × Value)} {a : Act} {W : World → Prop} {P : Program} {ops : Array Oper} {Q : Exit → Act → World → Prop} {rest : List Oper} {w0 : World} {H : List Ent}
theorem Wd.call{w w':World}(h:Wd w0 H w)(hb:Below w.heap.size w w'):Wd w0 H w' :=
 ⟨h.below.trans (hb.mono h.below.size),h.sep.mono hb.size fun E hE k hk=>hb.block k (h.sep.fp E hE k hk).2⟩
theorem Below.drawn(w:World)(m:Nat):Below w.heap.size w { w with drawn:=m }:=⟨rfl,rfl,rfl,Nat.le_refl _,fun _ _=>rfl⟩
theorem Wd.drew{w:World}(h:Wd w0 H w):Wd w0 H { w with drawn:=w.drawn+1 }:=h.call (Below.drawn w _)
theorem Wd.push{w w':World}{E:Ent}(h:Wd w0 H w)(hb:Below w.heap.size w w')(hok:E.ok w')(hfp:∀ k∈E.fp,w.heap.size≤k∧k<w'.heap.size):Wd w0 (E::H) w':=by
 have h':=h.call hb
 refine ⟨h'.below,hok,fun k hk=>⟨Nat.le_trans h.below.size (hfp k hk).1,(hfp k hk).2,fun E' hE' hk'=>?_⟩,h'.sep⟩
 have:=(h.sep.fp E' hE' k hk').2
 have:=(hfp k hk).1
 omega
theorem Wd.pop{w:World}{E:Ent}(h:Wd w0 (E::H) w):Wd w0 H w:=⟨h.below,h.sep.2.2⟩
inductive Upd:List Ent→Ent→(Ent→List Ent)→List Ent→Prop
 | z {E:Ent} {H:List Ent}:Upd (E::H) E (fun E'=>E'::H) H
 | s {F E:Ent} {H:List Ent} {f:Ent→List Ent} {G:List Ent} (h:Upd H E f G):Upd (F::H) E (fun E'=>F::f E') (F::G)
theorem Upd.mem{E:Ent}{f:Ent→List Ent}{G:List Ent}(h:Upd H E f G):E∈H:=by
 induction h with
 | z=>exact List.mem_cons_self ..
 | s _ ih=>exact List.mem_cons_of_mem _ ih
theorem Upd.mem'{E E':Ent}{f:Ent→List Ent}{G:List Ent}(h:Upd H E f G):∀ F∈f E',F=E'∨F∈H:=by
 induction h with
 | z=>intro F hF;exact (List.mem_cons.1 hF).imp id (List.mem_cons_of_mem _)
 | s _ ih =>
  intro F hF
  rcases List.mem_cons.1 hF with rfl | hF
  ·exact .inr (List.mem_cons_self ..)
  ·rcases ih F hF with h | h
   ·exact .inl h
   ·exact .inr (List.mem_cons_of_mem _ h)
theorem Upd.same{E:Ent}{f:Ent→List Ent}{G:List Ent}(h:Upd H E f G):f E=H:=by
 induction h with
 | z=>rfl
 | s _ ih=>simp only [ih]
theorem Sep.ok{B:Nat}{w:World}:∀ {H:List Ent},Sep B H w→∀ E∈H,E.ok w
 | _::_,h,E,hE=>by
  rcases List.mem_cons.1 hE with rfl | hE
  ·exact h.1
  ·exact Sep.ok h.2.2 E hE
theorem Wd.ok{w:World}{E:Ent}(h:Wd w0 H w)(hE:E∈H):E.ok w:=h.sep.ok E hE
theorem Wd.fp{w:World}{E:Ent}(h:Wd w0 H w)(hE:E∈H):∀ k∈E.fp,w0.heap.size≤k∧k<w.heap.size:=h.sep.fp E hE
theorem Sep.upd{B:Nat}{E E':Ent}{f:Ent→List Ent}{G:List Ent}{w w':World}(hu:Upd H E f G)(h:Sep B H w)(hsz:w.heap.size≤w'.heap.size)
  (hfr:∀ k,k<w.heap.size→k∉E.fp→w'.heap[k]? = w.heap[k]?) (hok:E'.ok w') (hB:B≤w.heap.size) (hfp:∀ k∈E'.fp,k∈E.fp∨(w.heap.size≤k∧k<w'.heap.size)):Sep B (f E') w':=by
 induction hu with
 | @z E H =>
  refine ⟨hok,fun k hk=>?_,h.2.2.mono hsz fun F hF k hk=>?_⟩
  ·rcases hfp k hk with h1 | h1
   ·exact ⟨(h.2.1 k h1).1,Nat.lt_of_lt_of_le (h.2.1 k h1).2.1 hsz,(h.2.1 k h1).2.2⟩
   ·exact ⟨Nat.le_trans hB h1.1,h1.2,fun F hF hk'=>by have:=(h.2.2.fp F hF k hk').2;omega⟩
  ·exact hfr k (h.2.2.fp F hF k hk).2 fun hk'=>(h.2.1 k hk').2.2 F hF hk
 | @s F E H f G hu ih =>
  have hE:=hu.mem
  refine ⟨F.loc w w' (fun k hk=>hfr k (h.2.1 k hk).2.1 ((h.2.1 k hk).2.2 E hE)) h.1,fun k hk=>⟨(h.2.1 k hk).1,Nat.lt_of_lt_of_le (h.2.1 k hk).2.1 hsz,fun F' hF' hk'=>?_⟩,ih h.2.2 hfr hfp⟩
  rcases hu.mem' F' hF' with rfl | hF'
  ·rcases hfp k hk' with h1 | h1
   ·exact (h.2.1 k hk).2.2 E hE h1
   ·have:=(h.2.1 k hk).2.1;omega
  ·exact (h.2.1 k hk).2.2 F' hF' hk'
theorem Wd.upd{E E':Ent}{f:Ent→List Ent}{G:List Ent}{w w':World}(hu:Upd H E f G)(h:Wd w0 H w)(hsz:w.heap.size≤w'.heap.size)(hos:w'.os=w.os)(ht:w'.tape=w.tape)(ho:w'.output=w.output)
  (hfr:∀ k,k<w.heap.size→k∉E.fp→w'.heap[k]? = w.heap[k]?) (hok:E'.ok w') (hfp:∀ k∈E'.fp,k∈E.fp∨(w.heap.size≤k∧k<w'.heap.size)):Wd w0 (f E') w' :=
 ⟨⟨hos.trans h.below.os,ht.trans h.below.tape,ho.trans h.below.output,Nat.le_trans h.below.size hsz,fun k hk =>
   (hfr k (Nat.lt_of_lt_of_le hk h.below.size) fun hk'=>by have:=(h.fp hu.mem k hk').1;omega).trans (h.below.block k hk)⟩,
  h.sep.upd hu hsz hfr hok h.below.size hfp⟩
theorem Sep.drop{B:Nat}{E:Ent}{f:Ent→List Ent}{G:List Ent}{w:World}(hu:Upd H E f G)(h:Sep B H w):Sep B G w:=by
 induction hu with
 | z=>exact h.2.2
 | @s F E H f G hu ih =>
  refine ⟨h.1,fun k hk=>⟨(h.2.1 k hk).1,(h.2.1 k hk).2.1,fun F' hF'=>(h.2.1 k hk).2.2 F' ?_⟩,ih h.2.2⟩
  clear ih h hk
  induction hu with
  | z=>exact List.mem_cons_of_mem _ hF'
  | s _ ih =>
   rcases List.mem_cons.1 hF' with rfl | hF'
   ·exact List.mem_cons_self ..
   ·exact List.mem_cons_of_mem _ (ih hF')
theorem Wd.drop{E:Ent}{f:Ent→List Ent}{G:List Ent}{w:World}(hu:Upd H E f G)(h:Wd w0 H w):Wd w0 G w:=⟨h.below,h.sep.drop hu⟩
theorem at_drop{X:Act→World→Prop}{E:Ent}{f:Ent→List Ent}{G:List Ent}(hu:Upd H E f G)(k:At n L (Wd w0 G) X):At n L (Wd w0 H) X:=at_world (fun _ h=>h.drop hu) k
theorem at_start{X:Act→World→Prop}(k:At n L (Wd w0 []) X):At n L (fun w=>w=w0) X:=at_world (fun w h=>by subst h;exact Wd.refl _) k
theorem at_pure{X:Act→World→Prop}{φ:Prop}(h:∀ w,W w→φ)(k:φ→At n L W X):At n L W X:=fun a w he hw=>k (h w hw) a w he hw
def AtQ(n:Nat)(L:List (Nat×Value))(X:Act→Prop):Prop:=∀ a,Env n L a→X a
theorem at_draw{id:Nat}{l:List Oper}(hm:P.follows .mixedOrders=true)(hB:Region.lexB .any l.toArray=true)(hWd:∀ w,W w→W { w with drawn:=w.drawn+1 })
  (k:AtQ n L (wpQuiet P l.toArray W (fun a'=>∀ w',W w'→Q .normal a' w') l)):At n L W ((Code.region id l.toArray true).wp P Q):=fun a w h hw =>
 wp_region_quiet hm hB (hWd w hw) (k a h)
theorem atq_nil(k:At n L W (Q .normal)):AtQ n L (wpQuiet P ops W (fun a'=>∀ w',W w'→Q .normal a' w') []):=fun a h=>wpQuiet_nil fun w hw=>k a w h hw
section
variable {d : Nat} {Q' : Act → Prop}
theorem atq_val{o:Oper}{v:Value}(hg:o.guard=none)(hd:o.dst=some d)(hdn:Nat.blt d n=true)(hr:Runs n L W P o v)
  (k:AtQ n ((d,v)::L) (wpQuiet P ops W Q' rest)):AtQ n L (wpQuiet P ops W Q' (o::rest)):=fun a h =>
 wpQuiet_step fun K hK=>by
  simp only [Region.wanted,hg,if_true]
  refine ⟨v,fun w hw=>?_,?_⟩
  ·unfold Oper.quietAt
   rw [hr a w h hw]
   exact ⟨rfl,rfl⟩
  ·rw [hd]
   exact hK _ (k _ (h.put hdn v))
theorem atq_call{f : FuncId}{fn : Func}{xs : List Operand}{ats : Array TypeId}{l : List Value}{v : Value}{ty : TypeId}{pos : String}{aft : Array Edge}(hf : P.funcs[f]? = some fn)(hb : fn.body.isSome = true)(hnm : (fn.name == "runtime.NumGoroutine") = false)
  (hx:evs L xs=some l) (hdn:Nat.blt d n=true) (hc:∀ w,W w→Calls P f l.toArray w fun e w'=>e=.returned v∧W w')
  (k:AtQ n ((d,v)::L) (wpQuiet P ops W Q' rest)) :
  AtQ n L (wpQuiet P ops W Q' (⟨some d,.call { callee:=.value (.func f),args:=xs.toArray,argTypes:=ats },ty,pos,aft,none⟩::rest)):=fun a h =>
 wpQuiet_step fun K hK=>by
  simp only [Region.wanted,if_true]
  refine ⟨v,fun w hw=>?_,hK _ (k _ (h.put hdn v))⟩
  unfold Oper.quietAt
  have hargs:=h.evals hx
  rw [execOp_call_go]
  have hrun:(callFunc f (#[]++xs.toArray.map a.eval++#[])).run P w=.ok (.enter f l.toArray) w:=by
   have hbn:¬ fn.body=none:=by intro hq;simp [hq] at hb
   have hn' : ¬ fn.name = "runtime.NumGoroutine" := by intro hq; rw [hq] at hnm; simp at hnm
   simp [callFunc,program,Sem.run,hf,hn',hbn,hargs]
  rw [hrun]
  exact ⟨rfl,hc w hw⟩
section
variable {dst : Option Tmp} {op : Op} {j g : Nat} {oj : Oper} {b b' : Bool} {ty : TypeId} {pos : String} {aft : Array Edge}
theorem atq_guard_yes(hj:ops[j]? = some oj)(hd:oj.dst=some g)(hg:lk L g=some (.bool b))(k:AtQ n L (wpQuiet P ops W Q' (⟨dst,op,ty,pos,aft,none⟩::rest))) :
  AtQ n L (wpQuiet P ops W Q' (⟨dst,op,ty,pos,aft,some (j,b)⟩::rest)):=fun a h=>by
 have hk:=k a h
 have hy:=yields_of h hj hd hg
 unfold wpQuiet at hk ⊢
 rw [if_pos (by simp [Region.wanted])] at hk
 rw [if_pos (by simp [Region.wanted,hy])]
 exact hk
theorem atq_guard_no(hj:ops[j]? = some oj)(hd:oj.dst=some g)(hg:lk L g=some (.bool b))(hne:(b==b')=false)(hdn:Nat.blt d n=true)(k:AtQ n ((d,undef)::L) (wpQuiet P ops W Q' rest)) :
  AtQ n L (wpQuiet P ops W Q' (⟨some d,op,ty,pos,aft,some (j,b')⟩::rest)):=fun a h=>by
 have hy:=yields_of h hj hd hg
 unfold wpQuiet
 rw [if_neg (by simp [Region.wanted,hy];simpa using hne)]
 exact k _ (h.put hdn _)
theorem atq_guard_undef(hj:ops[j]? = some oj)(hd:oj.dst=some g)(hg:lk L g=some undef)(hdn:Nat.blt d n=true)(k:AtQ n ((d,undef)::L) (wpQuiet P ops W Q' rest)) :
  AtQ n L (wpQuiet P ops W Q' (⟨some d,op,ty,pos,aft,some (j,b')⟩::rest)):=fun a h=>by
 have hy:yielded ops a.tmps j=none:=by
  have:=h.vals g _ hg
  rw [Array.getD_eq_getD_getElem?] at this
  unfold yielded
  simp only [hj,hd,Option.bind_some]
  cases hq:a.tmps[g]? with
  | none=>rfl
  | some u=>rw [hq] at this;simp only [Option.getD_some] at this;subst this;rfl
 unfold wpQuiet
 rw [if_neg (by simp [Region.wanted,hy])]
 exact k _ (h.put hdn _)
theorem atq_fix{X:Act→Prop}(hg:lk L g=some (.bool b))(hb:b=b')(k:AtQ n ((g,.bool b')::L) X):AtQ n L X:=fun a h =>
 k a ⟨h.size,h.defs,fun t v hv=>by
  rw [lk_cons] at hv
  split at hv
  ·next e=>subst e hb;cases hv;exact h.vals _ _ hg
  ·exact h.vals t v hv⟩
end
end
theorem app_small{a b:Nat}{k:Nat}(h:(a+b)*k≤140737488355328)(hk:0<k:=by decide):a+b≤140737488355328:=Nat.le_trans (Nat.le_mul_of_pos_right _ hk) h
theorem at_call0w{f : FuncId}{fn : Func}{xs : List Operand}{ats : Array TypeId}{l : List Value}{v : Value}{d : Nat}{ty : TypeId}{pos : String}{aft : Array Edge}(hf : P.funcs[f]? = some fn)(hb : fn.body.isSome = true)(hnm : (fn.name == "runtime.NumGoroutine") = false)
  (hx:evs L xs=some l) (hdn:Nat.blt d n=true) (hc:∀ w,W w→Calls P f l.toArray w fun e w'=>e=.returned v∧w'=w)
  (kk:At n ((d,v)::L) W (wpList P ops Q rest)) :
  At n L W (wpList P ops Q (⟨some d,.call { callee:=.value (.func f),args:=xs.toArray,argTypes:=ats },ty,pos,aft,none⟩::rest)) :=
 at_call (W':=fun u w'=>u=v∧W w') hf hb hnm hx hdn (fun w hw=>(hc w hw).mono fun e w' ⟨he,hw'⟩=>⟨v,he,rfl,hw'▸hw⟩) fun u a w h hw=>by
  obtain ⟨rfl,hw⟩:=hw
  exact kk a w h hw
section
variable {d : Nat} {ty : TypeId} {pos : String} {aft : Array Edge} {t e : TypeId} {x y : Operand} {p : Option Addr} {m cap : Nat}
theorem r_len_sl(ht:P.underlying t=some (.slice e))(hx:ev L x=some (.slice p m cap)) :
  Runs n L W P (⟨some d,.call { callee:=.builtin .len,args:=#[x],argTypes:=#[t] },ty,pos,aft,none⟩) (.int .i64 m):=fun a w h _=>by
 simp only [execOp,resolve,invoke,builtin,Sem.run_bind,Sem.run_pure,Result.andThen_ok,List.map_toArray,List.map_cons,List.map_nil,h.eval hx]
 simp [Builtin.len_,run_underlying ht];rfl
theorem r_idx{sz:Nat}{k:IntKind}{i:Int}{b o:Nat}(ht:P.underlying t=some (.slice e))(hz:∀ w,(sizeOf e).run P w=.ok sz w)(hx:ev L x=some (.slice p m cap))(hy:ev L y=some (.int k i))(hi:0≤i∧i<m)(hp:p=some ⟨b,o,none⟩) :
  Runs n L W P (⟨some d,.indexAddr t x y,ty,pos,aft,none⟩) (.pointer (some ⟨b,o+i.toNat*sz,none⟩)):=fun a w h _=>by
 subst hp
 simp only [execOp,h.eval hx,h.eval hy]
 simp [Instr.indexAt,asIntOf,run_underlying ht,hi.1,hi.2,hz,Addr.add_lit]
theorem r_reslice{α:Type}{c:Cd α}{lo hi:Option Operand}{xs:List α}{l h:Int}(ht:P.underlying t=some (.slice e))(hz:∀ w,(sizeOf e).run P w=.ok c.sz w)(hx:ev L x=some (.slice p xs.length cap))(hc:xs.length≤cap)
  (hlo:match lo with | none=>l=0 | some y=>∃ k,ev L y=some (.int k l)) (hhi:match hi with | none=>h=xs.length | some y=>∃ k,ev L y=some (.int k h)) (hb:0≤l∧l≤h∧h≤xs.length) :
  Runs n L W P (⟨some d,.slice t x lo hi none,ty,pos,aft,none⟩) (.slice (rsp p cap l c.sz) (lsub xs l h).length (cap-l.toNat)):=fun a w he _=>by
 have hlen:=lsub_length hb
 obtain ⟨h1,h2,h3⟩:=hb
 have h0:0≤h:=by omega
 have h4:h≤(cap:Int):=by omega
 simp only [execOp,he.eval hx]
 rw [hlen]
 cases lo<;>cases hi<;>simp only at hlo hhi
 ·subst hlo hhi
  simp [Instr.sliceAt,Instr.slice,Instr.sliceBounds,run_underlying ht,hz,rsp]
 ·obtain ⟨k,hk⟩:=hhi
  subst hlo
  simp [Instr.sliceAt,Instr.slice,Instr.sliceBounds,Instr.sliceBound,asIntOf,run_underlying ht,hz,rsp,he.eval hk,h0,h4]
 ·obtain ⟨k,hk⟩:=hlo
  subst hhi
  simp [Instr.sliceAt,Instr.slice,Instr.sliceBounds,Instr.sliceBound,asIntOf,run_underlying ht,hz,rsp,he.eval hk,h1,h2]
 ·obtain ⟨k,hk⟩:=hlo
  obtain ⟨k',hk'⟩:=hhi
  have e1:(h.toNat:Int)=h:=Int.toNat_of_nonneg h0
  simp [Instr.sliceAt,Instr.slice,Instr.sliceBounds,Instr.sliceBound,asIntOf,run_underlying ht,hz,rsp,he.eval hk,he.eval hk',h0,h1,h2,h4,e1]
theorem r_load_cell{b o:Nat}{v:Value}(ha:∀ w,(isAgg t).run P w=.ok false w)(hx:ev L x=some (.pointer (some ⟨b,o,none⟩)))(hc:∀ w,W w→w.cell? ⟨b,o,none⟩=some v) :
  Runs n L W P (⟨some d,.load t x,ty,pos,aft,none⟩) v:=fun a w h hw=>by
 simp only [execOp,h.eval hx]
 simp [Instr.loadAt,Instr.sureAddr,loadVar,ha,load,Sem.run,hc w hw]
theorem r_load_agg{b o sz:Nat}{l:List Value}(ha:∀ w,(isAgg t).run P w=.ok true w)(hz:∀ w,(sizeOf t).run P w=.ok sz w)(hl:l.length=sz)(hx:ev L x=some (.pointer (some ⟨b,o,none⟩)))
  (hc:∀ w,W w→∀ j v,l[j]? = some v→w.cell? ⟨b,o+j,none⟩=some v) :
  Runs n L W P (⟨some d,.load t x,ty,pos,aft,none⟩) (.agg l.toArray):=fun a w h hw=>by
 have:=run_loadCells_list (P:=P) (w:=w) ⟨b,o,none⟩ l (fun j v hv=>by rw [Addr.add_lit];exact hc w hw j v hv)
 rw [hl] at this
 simp only [execOp,h.eval hx]
 simp [Instr.loadAt,Instr.sureAddr,loadVar,ha,hz,this]
end
theorem row_cell{α:Type}[Inhabited α]{c:Cd α}{p:Option Addr}{cap:Nat}{xs:List α}{i:Int}{b o:Nat}(hW:∀ w,W w→Below w0.heap.size w0 w)(hrow:Row c w0 p cap xs)(hi:0≤i∧i<xs.length)(hp:p=some ⟨b,o,none⟩) :
  ∀ w,W w→∀ k v,(c.cs (lget xs i))[k]? = some v→w.cell? ⟨b,o+i.toNat*c.sz+k,none⟩=some v:=fun w hw k v hv=>by
 obtain ⟨b',o',hp',hc⟩:=(hrow.below (hW w hw)).ptr hi
 rw [hp] at hp'
 cases hp'
 rw [Nat.add_assoc]
 exact hc k v hv
theorem row_cell0{α:Type}[Inhabited α]{c:Cd α}{p:Option Addr}{cap:Nat}{xs:List α}{i:Int}{b o:Nat}{v:Value}(hW:∀ w,W w→Below w0.heap.size w0 w)(hrow:Row c w0 p cap xs)(hi:0≤i∧i<xs.length)(hp:p=some ⟨b,o,none⟩)(hv:c.cs (lget xs i)=[v]) :
  ∀ w,W w→w.cell? ⟨b,o+i.toNat*c.sz,none⟩=some v:=fun w hw=>row_cell hW hrow hi hp w hw 0 v (by rw [hv];rfl)
theorem row_ptr{α:Type}[Inhabited α]{c:Cd α}{w:World}{p:Option Addr}{cap:Nat}{xs:List α}{i:Int}(h:Row c w p cap xs)(hi:0≤i∧i<xs.length):∃ b o,p=some ⟨b,o,none⟩ :=
 let ⟨b,o,hp,_⟩:=h.ptr hi
 ⟨b,o,hp⟩
def cellsE(b:Nat)(cs:List Value)(t:TypeId):Ent:=⟨[b],fun w=>w.heap[b]? = some (.cells cs.toArray t (0,0)),fun _ _ h hk=>(h b (by simp)).trans hk⟩
theorem cells_src{α:Type}{c:Cd α}{b:Nat}{ys:List α}{t:TypeId}{w:World}(h:(cellsE b (c.all ys) t).ok w):∀ j u,(c.all ys)[j]? = some u→w.cell? ((⟨b,0,none⟩:Addr).add j)=some u:=fun j u hu=>by
 rw [Addr.add_lit,Nat.zero_add]
 simp only [cellsE] at h
 simp [World.cell?,h,hu]
theorem cells_row{α:Type}{c:Cd α}{b:Nat}{ys:List α}{t:TypeId}{w:World}(h:(cellsE b (c.all ys) t).ok w):Row c w (some ⟨b,0,none⟩) ys.length ys :=
 ⟨Nat.le_refl _,.inr ⟨b,0,rfl,fun j u hu=>by have:=cells_src h j u hu;rwa [Addr.add_lit] at this⟩⟩
def rowE{α:Type}(c:Cd α)(e:TypeId)(p:Option Addr)(cap:Nat)(xs:List α):Ent :=
 ⟨(Value.slice p xs.length cap).ownBlock.toList,fun w=>w.ownsRow 0 e c.sz (.slice p xs.length cap) xs.length (c.all xs),fun w w' h hk=>by
  refine ⟨hk.1,?_⟩
  rcases hk.2 with h2 | ⟨g,cap',cur,hv,hg,hh,r⟩
  ·exact .inl h2
  ·exact .inr ⟨g,cap',cur,hv,hg,(h g (by rw [hv];simp [Value.ownBlock])).trans hh,r⟩⟩
def Own{α:Type}(c:Cd α)(e:TypeId)(B:Nat)(w:World)(p:Option Addr)(cap:Nat)(xs:List α):Prop:=w.ownsRow B e c.sz (.slice p xs.length cap) xs.length (c.all xs)
theorem Own.nil{α:Type}(c:Cd α)(e:TypeId)(B:Nat)(w:World):Own c e B w none 0 []:=World.ownsRow_nil w B e c.sz
theorem Wd.own{α:Type}{c:Cd α}{e:TypeId}{p:Option Addr}{cap:Nat}{xs:List α}{w:World}{f:Ent→List Ent}{G:List Ent}(hu:Upd H (rowE c e p cap xs) f G)(h:Wd w0 H w):Own c e w0.heap.size w p cap xs:=by
 obtain ⟨h1,h2⟩:w.ownsRow 0 e c.sz (.slice p xs.length cap) xs.length (c.all xs):=h.ok hu.mem
 refine ⟨h1,?_⟩
 rcases h2 with h2 | ⟨g,cap',cur,hv,_,hh,r⟩
 ·exact .inl h2
 ·exact .inr ⟨g,cap',cur,hv,(h.fp hu.mem g (by show g∈(Value.slice p xs.length cap).ownBlock.toList;rw [hv];simp [Value.ownBlock])).1,hh,r⟩
theorem Own.row{α:Type}{c:Cd α}{e:TypeId}{B:Nat}{w:World}{p:Option Addr}{cap:Nat}{xs:List α}(h:Own c e B w p cap xs):Row c w p cap xs:=by
 rcases h.2 with ⟨_,h0⟩ | ⟨g,cap',cur,hv,_,hh,r⟩
 ·exact ⟨by omega,.inl (List.eq_nil_of_length_eq_zero h0)⟩
 ·refine ⟨by cases hv;exact r.1,.inr ⟨g,0,by cases hv;rfl,fun j u hu=>?_⟩⟩
  have:=World.ownsRow.cells h (g:=g) (by rw [hv];rfl) j u hu
  rwa [Addr.add_lit] at this
theorem Wd.pushOwn{α:Type}{c:Cd α}{e:TypeId}{p:Option Addr}{cap:Nat}{xs:List α}{w w':World}(h:Wd w0 H w)(hb:Below w.heap.size w w')(ho:Own c e w.heap.size w' p cap xs):Wd w0 (rowE c e p cap xs::H) w':=by
 refine h.push hb ⟨ho.1,?_⟩ fun k hk=>?_
 ·rcases ho.2 with h2 | ⟨g,cap',cur,hv,_,r⟩
  ·exact .inl h2
  ·exact .inr ⟨g,cap',cur,hv,Nat.zero_le _,r⟩
 ·exact World.ownsRow.lt ho k (by simpa [rowE] using hk)
theorem at_own_nil{α:Type}{X:Act→World→Prop}(c:Cd α)(e:TypeId)(k:At n L (Wd w0 (rowE c e none 0 []::H)) X):At n L (Wd w0 H) X :=
 at_world (fun w h=>h.pushOwn (Below.refl _ _) (Own.nil c e _ w)) k
section
variable {d : Nat} {ty : TypeId} {pos : String} {aft : Array Edge} {t e : TypeId}
theorem at_alloc{z:Value}{cs:List Value}(hz:∀ w,(zeroValue t).run P w=.ok z w)(hcs:z.cells=cs.toArray)(hdn:Nat.blt d n=true)
  (k:∀ b,At n ((d,.pointer (some ⟨b,0,none⟩))::L) (Wd w0 (cellsE b cs t::H)) (wpList P ops Q rest)) :
  At n L (Wd w0 H) (wpList P ops Q (⟨some d,.alloc t,ty,pos,aft,none⟩::rest)) :=
 at_any (W':=fun v w'=>∃ b,v=.pointer (some ⟨b,0,none⟩)∧Wd w0 (cellsE b cs t::H) w') rfl rfl hdn (fun a w h hw=>by
  refine ⟨_,w.alloc (.cells cs.toArray t),?_,w.heap.size,rfl,hw.push ((Below.refl _ _).alloc (Nat.le_refl _) _) ?_ ?_⟩
  ·simp [execOp,Instr.alloc,hz,newVar,newRow,newObj,Sem.run,hcs]
  ·exact heap_alloc_new w _
  ·intro k hk;simp [cellsE] at hk;subst hk;simp) fun v a w h ⟨b,hv,hw⟩=>by subst hv;exact k b a w h hw
theorem at_box{x:Operand}{v:Value}{cs:List Value}(hx:ev L x=some v)(hcs:v.cells=cs.toArray)(hdn:Nat.blt d n=true)
  (k:∀ b,At n ((d,.pointer (some ⟨b,0,none⟩))::L) (Wd w0 (cellsE b cs t::H)) (wpList P ops Q rest)) :
  At n L (Wd w0 H) (wpList P ops Q (⟨some d,.box t x,ty,pos,aft,none⟩::rest)) :=
 at_any (W':=fun v w'=>∃ b,v=.pointer (some ⟨b,0,none⟩)∧Wd w0 (cellsE b cs t::H) w') rfl rfl hdn (fun a w h hw=>by
  refine ⟨_,w.alloc (.cells cs.toArray t),?_,w.heap.size,rfl,hw.push ((Below.refl _ _).alloc (Nat.le_refl _) _) ?_ ?_⟩
  ·simp [execOp,h.eval hx,Instr.box,newVar,newRow,newObj,Sem.run,hcs]
  ·exact heap_alloc_new w _
  ·intro k hk;simp [cellsE] at hk;subst hk;simp) fun v a w h ⟨b,hv,hw⟩=>by subst hv;exact k b a w h hw
def evp(L:List (Nat×Value)):List (Nat×Operand)→Option (List (Nat×Value))
 | []=>some []
 | (i,x)::l=>match ev L x,evp L l with
  | some v,some vs=>some ((i,v)::vs)
  | _,_=>none
theorem Env.evalp{a:Act}(h:Env n L a):∀ {l:List (Nat×Operand)} {vs:List (Nat×Value)},evp L l=some vs→l.map (fun p=>(p.1,a.eval p.2))=vs
 | [],vs,hx=>by simp [evp] at hx;simp [hx]
 | (i,x)::l,vs,hx=>by
  unfold evp at hx
  split at hx
  ·next v vs' h1 h2 =>
   cases hx
   simp [h.eval h1,h.evalp h2]
  ·cases hx
theorem at_lit{m:Nat}{parts:List (Nat×Operand)}{vs:List (Nat×Value)}{z:Value}{cs:List Value}(ht:P.underlying t=some (.slice e))(hz:∀ w,(sizeOf e).run P w=.ok 1 w)(hzv:∀ w,(zeroValue e).run P w=.ok z w)(hx:evp L parts=some vs)(hm:Nat.ble m 16777216=true)(h0:Nat.beq m 0=false)
  (hf:Instr.fill (fun i=>some (i*1,1)) ((Array.range (m*1)).map (z.cells[·%z.cells.size]!)) vs=some cs.toArray) (hdn:Nat.blt d n=true)
  (k:∀ b,At n ((d,.slice (some ⟨b,0,none⟩) m m)::L) (Wd w0 (cellsE b cs e::H)) (wpList P ops Q rest)) :
  At n L (Wd w0 H) (wpList P ops Q (⟨some d,.buildSlice t m parts.toArray,ty,pos,aft,none⟩::rest)) :=
 at_any (W':=fun v w'=>∃ b,v=.slice (some ⟨b,0,none⟩) m m∧Wd w0 (cellsE b cs e::H) w') rfl rfl hdn (fun a w h hw=>by
  refine ⟨_,w.alloc (.cells cs.toArray e),?_,w.heap.size,rfl,hw.push ((Below.refl _ _).alloc (Nat.le_refl _) _) ?_ ?_⟩
  ·have hm':¬ 2 ^ 24<m*1:=by have:=Nat.le_of_ble_eq_true hm;omega
   have h0':¬ m*1=0:=by intro h;rw [Nat.mul_one] at h;subst h;simp at h0
   have hev:=h.evalp hx
   simp only [execOp,Instr.buildSlice,Sem.run_bind,run_underlying ht,Result.andThen_ok,hz,List.map_toArray]
   rw [show List.map (fun (x:Nat×Operand)=>match x with | (i,x)=>(i,a.eval x)) parts=vs from hev]
   simp only [Sem.run_bind,hz,Result.andThen_ok,gt_iff_lt,hm',h0',if_false,Sem.run_pure,hzv,hf]
   simp [newRow,newObj,Sem.run]
  ·exact heap_alloc_new w _
  ·intro k hk;simp [cellsE] at hk;subst hk;simp) fun v a w h ⟨b,hv,hw⟩=>by subst hv;exact k b a w h hw
theorem at_litG{m sz:Nat}{parts:List (Nat×Operand)}{vs:List (Nat×Value)}{z:Value}{cs:List Value}(ht:P.underlying t=some (.slice e))(hz:∀ w,(sizeOf e).run P w=.ok sz w)(hzv:∀ w,(zeroValue e).run P w=.ok z w)(hx:evp L parts=some vs)(hm:Nat.ble (m*sz) 16777216=true)(h0:Nat.beq (m*sz) 0=false)
  (hf:Instr.fill (fun i=>some (i*sz,sz)) ((Array.range (m*sz)).map (z.cells[·%z.cells.size]!)) vs=some cs.toArray) (hdn:Nat.blt d n=true)
  (k:∀ b,At n ((d,.slice (some ⟨b,0,none⟩) m m)::L) (Wd w0 (cellsE b cs e::H)) (wpList P ops Q rest)) :
  At n L (Wd w0 H) (wpList P ops Q (⟨some d,.buildSlice t m parts.toArray,ty,pos,aft,none⟩::rest)) :=
 at_any (W':=fun v w'=>∃ b,v=.slice (some ⟨b,0,none⟩) m m∧Wd w0 (cellsE b cs e::H) w') rfl rfl hdn (fun a w h hw=>by
  refine ⟨_,w.alloc (.cells cs.toArray e),?_,w.heap.size,rfl,hw.push ((Below.refl _ _).alloc (Nat.le_refl _) _) ?_ ?_⟩
  ·have hm':¬ 2 ^ 24<m*sz:=by have:=Nat.le_of_ble_eq_true hm;omega
   have h0':¬ m*sz=0:=by intro h;rw [h] at h0;simp at h0
   have hev:=h.evalp hx
   simp only [execOp,Instr.buildSlice,Sem.run_bind,run_underlying ht,Result.andThen_ok,hz,List.map_toArray]
   rw [show List.map (fun (x:Nat×Operand)=>match x with | (i,x)=>(i,a.eval x)) parts=vs from hev]
   simp only [Sem.run_bind,hz,Result.andThen_ok,gt_iff_lt,hm',h0',if_false,Sem.run_pure,hzv,hf]
   simp [newRow,newObj,Sem.run]
  ·exact heap_alloc_new w _
  ·intro k hk;simp [cellsE] at hk;subst hk;simp) fun v a w h ⟨b,hv,hw⟩=>by subst hv;exact k b a w h hw
theorem append_block{α:Type}{c:Cd α}{p:Option Addr}{cap:Nat}{xs:List α}{B:Nat}{w w':World}{v':Value}{ad:Addr}{m cap':Nat}{i:TypeInfo}{z:Value}{news:List Value}
  (ht:P.underlying t=some (.slice e)) (hi:P.info? e=some i) (hiz:i.zero=some z) (hsz:i.size=c.sz) (hzs:z.cells.size=c.sz) (hown:Own c e B w p cap xs)
  (hl:news.length=m*c.sz) (hnews:∀ j u,news[j]? = some u→w.cell? (ad.add j)=some u) (h1:∀ u∈news,u.oneCell'=true) (hb:(xs.length+m)*i.bytes≤140737488355328) (hb':xs.length+m≤140737488355328)
  (hr:(Builtin.append_ #[t,t] ty #[.slice p xs.length cap,.slice (some ad) m cap']).run P w=.ok v' w') {k:Nat} (hk:v'.ownBlock=some k):(Value.slice p xs.length cap).ownBlock=some k∨w.heap.size≤k:=by
 rcases hown.2 with ⟨hv,h0⟩ | ⟨g,cap0,cur0,hv,_,hg,hnc,hcm,hcs,htake⟩
 ·have hx:c.all xs=[]:=List.eq_nil_of_length_eq_zero (by rw [c.all_len,h0,Nat.zero_mul])
  obtain ⟨v2,w2,hr2,h2,_⟩:=run_append_own (P:=P) w w.heap.size t ty e i z c.sz i.bytes ht hi hiz hsz rfl hzs c.pos (.slice p xs.length cap) xs.length (c.all xs) (by rw [hv,hx,h0];exact World.ownsRow_nil w _ e c.sz) ad m cap' news hl hnews h1 (by simp only [maxLen];omega) hb (Nat.le_refl _)
  rw [hr] at hr2
  cases hr2
  exact .inr (h2.lt k hk).1
 ·cases hv
  by_cases hroom:xs.length+m≤cap
  ·have hr2:=run_append_room (P:=P) w t ty e i ht hi g xs.length cap cur0 hg ad m cap' news (by rw [hl,hsz]) hnews h1 hroom (by rw [hl,hcs,hsz,←Nat.add_mul];exact Nat.mul_le_mul_right _ hroom)
   rw [hr] at hr2
   cases hr2
   exact .inl hk
  ·have hr2:=run_append_grow (P:=P) w t ty e i z ht hi hiz ⟨g,0,none⟩ xs.length cap (c.all xs) (by rw [c.all_len,hsz]) (World.ownsRow.cells hown (g:=g) rfl) ad m cap' news (by rw [hl,hsz]) hnews (by omega) (by omega) (growslice_fits (by omega) hb)
   rw [hr] at hr2
   cases hr2
   simp [Value.ownBlock] at hk
   exact .inr (by omega)
theorem at_append{α:Type}{c:Cd α}{p:Option Addr}{cap:Nat}{xs ys:List α}{f:Ent→List Ent}{G:List Ent}{sx xx:Operand}{ad:Addr}{m cap':Nat}{i:TypeInfo}{z:Value}(hu:Upd H (rowE c e p cap xs) f G)
  (ht:P.underlying t=some (.slice e)) (hi:P.info? e=some i) (hiz:i.zero=some z) (hsz:i.size=c.sz) (hzs:z.cells.size=c.sz)
  (hs:ev L sx=some (.slice p xs.length cap)) (hx:ev L xx=some (.slice (some ad) m cap')) (hm:ys.length=m)
  (hsrc:∀ w,Wd w0 H w→∀ j u,(c.all ys)[j]? = some u→w.cell? (ad.add j)=some u) {by_:Nat} (hby:i.bytes=by_) (hb0:(xs.length+m)*by_≤140737488355328) (hb':xs.length+m≤140737488355328) (hdn:Nat.blt d n=true)
  (k:∀ p' cap',At n ((d,.slice p' (xs++ys).length cap')::L) (Wd w0 (f (rowE c e p' cap' (xs++ys)))) (wpList P ops Q rest)) :
  At n L (Wd w0 H) (wpList P ops Q (⟨some d,.call { callee:=.builtin .append,args:=#[sx,xx],argTypes:=#[t,t] },ty,pos,aft,none⟩::rest)) :=
 have hb:(xs.length+m)*i.bytes≤140737488355328:=by rw [hby];exact hb0
 at_any (W':=fun v w'=>∃ p' cap',v=.slice p' (xs++ys).length cap'∧Wd w0 (f (rowE c e p' cap' (xs++ys))) w') rfl rfl hdn (fun a w h hw=>by
  have hown:=hw.own hu
  obtain ⟨v',w',hr,h2,h3,h4⟩:=run_append_own (P:=P) w w0.heap.size t ty e i z c.sz i.bytes ht hi hiz hsz rfl hzs c.pos _ _ _ hown ad m cap' (c.all ys) (by rw [c.all_len,hm]) (hsrc w hw) (c.all_one ys) (by simp only [maxLen];omega) hb hw.below.size
  obtain ⟨p',cp,hv'⟩:∃ p' cp,v'=.slice p' (xs.length+m) cp:=by
   rcases h2.2 with ⟨hv,h0⟩ | ⟨g,cp,cur,hv,_⟩
   ·exact ⟨none,0,by rw [hv,h0]⟩
   ·exact ⟨_,_,hv⟩
  subst hv'
  have hlen:(xs++ys).length=xs.length+m:=by rw [List.length_append,hm]
  refine ⟨_,w',?_,p',cp,by rw [hlen],hw.upd hu h3.size h3.os h3.tape h3.output (fun k hk hk'=>h3.block k hk fun e=>hk' ?_) ?_ fun k hk=>?_⟩
  ·simp only [execOp,resolve,invoke,builtin,Sem.run_bind,Sem.run_pure,Result.andThen_ok,List.map_toArray,List.map_cons,List.map_nil,h.eval hs,h.eval hx,hr]
  ·show k∈(Value.slice p xs.length cap).ownBlock.toList
   rw [←e];simp
  ·show w'.ownsRow 0 e c.sz (.slice p' (xs++ys).length cp) (xs++ys).length (c.all (xs++ys))
   rw [hlen,c.all_append]
   refine ⟨h2.1,?_⟩
   rcases h2.2 with h5 | ⟨g,cap',cur,hv,_,r⟩
   ·exact .inl h5
   ·exact .inr ⟨g,cap',cur,hv,Nat.zero_le _,r⟩
  ·have hk0:(Value.slice p' (xs.length+m) cp).ownBlock=some k:=by
    have:k∈(Value.slice p' (xs++ys).length cp).ownBlock.toList:=hk
    rw [hlen] at this
    simpa using this
   have hlt:=(h2.lt k hk0).2
   rcases append_block ht hi hiz hsz hzs hown (by rw [c.all_len,hm]) (hsrc w hw) (c.all_one ys) hb hb' hr hk0 with hq | hq
   ·left
    show k∈(Value.slice p xs.length cap).ownBlock.toList
    rw [hq];simp
   ·exact .inr ⟨hq,hlt⟩) fun v a w h ⟨p',cp,hv,hw⟩=>by subst hv;exact k p' cp a w h hw
theorem at_append_row{α:Type}{c:Cd α}{p:Option Addr}{cap:Nat}{xs ys:List α}{f:Ent→List Ent}{G:List Ent}{sx xx:Operand}{p2:Option Addr}{cap2:Nat}{i:TypeInfo}{z:Value}(hu:Upd H (rowE c e p cap xs) f G)
  (ht:P.underlying t=some (.slice e)) (hi:P.info? e=some i) (hiz:i.zero=some z) (hsz:i.size=c.sz) (hzs:z.cells.size=c.sz)
  (hs:ev L sx=some (.slice p xs.length cap)) (hx:ev L xx=some (.slice p2 ys.length cap2))
  (hsrc:∀ w,Wd w0 H w→Row c w p2 cap2 ys) {by_:Nat} (hby:i.bytes=by_) (hb0:(xs.length+ys.length)*by_≤140737488355328) (hb':xs.length+ys.length≤140737488355328) (hdn:Nat.blt d n=true)
  (k:∀ p' cap',At n ((d,.slice p' (xs++ys).length cap')::L) (Wd w0 (f (rowE c e p' cap' (xs++ys)))) (wpList P ops Q rest)) :
  At n L (Wd w0 H) (wpList P ops Q (⟨some d,.call { callee:=.builtin .append,args:=#[sx,xx],argTypes:=#[t,t] },ty,pos,aft,none⟩::rest)):=by
 cases ys with
 | nil =>
  have hk:=k p cap
  simp only [List.append_nil] at hk
  have hf:f (rowE c e p cap xs)=H:=hu.same
  rw [hf] at hk
  refine at_any (W':=fun v w'=>v=.slice p xs.length cap∧Wd w0 H w') rfl rfl hdn (fun a w h hw=>?_) fun v a w h ⟨hv,hw⟩=>by subst hv;exact hk a w h hw
  refine ⟨_,w,?_,rfl,hw⟩
  have hle:=(hw.own hu).row.1
  have hrun:(Builtin.append_ #[t,t] ty #[.slice p xs.length cap,.slice p2 ([]:List α).length cap2]).run P w=.ok (.slice p xs.length cap) w:=by
   cases p<;>cases p2<;>simp [Builtin.append_,run_underlying ht,sizeOf,typeInfo,hi,hle,storeCells,Builtin.lenOf,Builtin.firstCells,loadCells,loadCellsFrom]
  simp only [execOp,resolve,invoke,builtin,Sem.run_bind,Sem.run_pure,Result.andThen_ok,List.map_toArray,List.map_cons,List.map_nil,h.eval hs,h.eval hx,hrun]
 | cons y ys =>
  intro a w h hw
  obtain ⟨b,o,hp,_⟩:∃ b o,p2=some ⟨b,o,none⟩∧True:=by
   rcases (hsrc w hw).2 with h0 | ⟨b,o,hp,_⟩
   ·cases h0
   ·exact ⟨b,o,hp,trivial⟩
  subst hp
  refine at_append (ys:=y::ys) hu ht hi hiz hsz hzs hs hx rfl (fun w hw j u hj=>?_) hby hb0 hb' hdn k a w h hw
  rcases (hsrc w hw).2 with h0 | ⟨b',o',hp,hc⟩
  ·cases h0
  ·cases hp
   rw [Addr.add_lit]
   exact hc j u hj
theorem av {n : Nat} {L : List (Nat × Value)} {W : World → Prop} {P : Program} {ops : Array Oper} {Q : Exit → Act → World → Prop} {rest : List Oper} {d : Nat} {op : Op} {ty : TypeId} {pos : String} {aft : Array Edge} {v : Value} (hdn : Nat.blt d n = true) (hr : Runs n L W P ⟨some d, op, ty, pos, aft, none⟩ v) (k : At n ((d, v) :: L) W (wpList P ops Q rest)) : At n L W (wpList P ops Q (⟨some d, op, ty, pos, aft, none⟩ :: rest)) := at_val rfl rfl hdn hr k
section
variable {n id : Nat} {L : List (Nat × Value)} {W : World → Prop} {P : Program} {ops : Array Oper} {Q : Exit → Act → World → Prop} {K : Act → World → Prop} {l : List Oper} {y : Code}
theorem nwt (L' : List (Nat × Value)) (hs : Sub L' L) (k : At n L' W K) : At n L W (wpList P ops (Exit.then K Q) []) := at_nil (at_weak L' hs (at_then_normal k))
theorem sr (k : At n L W (wpList P l.toArray (Exit.then (y.wp P Q) Q) l)) : At n L W ((Code.seq (Code.region id l.toArray false) y).wp P Q) := at_seq (at_region k)
theorem nws (L' : List (Nat × Value)) (hs : Sub L' L) (k : At n L' W (wpList P l.toArray (Exit.then (y.wp P Q) Q) l)) : At n L W (wpList P ops (Exit.then ((Code.seq (Code.region id l.toArray false) y).wp P Q) Q) []) := nwt L' hs (sr k)
theorem rt (k : At n L W (Q .ret)) : At n L W (Code.ret.wp P (Exit.then K Q)) := at_ret (at_then_ret k)
theorem sn (k : At n L W K) : At n L W (Code.skip.wp P (Exit.then K Q)) := at_skip (at_then_normal k)
theorem sns (k : At n L W (wpList P l.toArray (Exit.then (y.wp P Q) Q) l)) : At n L W (Code.skip.wp P (Exit.then ((Code.seq (Code.region id l.toArray false) y).wp P Q) Q)) := sn (sr k)
end
def lkc (k : Nat) : List (Nat × Value) → (Value → Option (List (Nat × Value))) → Option (List (Nat × Value))
  | [], _ => none
  | (d, v) :: l, f => bif Nat.beq d k then f v else lkc k l f
def pk : List Nat → List (Nat × Value) → List (Nat × Value) → Option (List (Nat × Value))
  | [], _, acc => some acc
  | k :: ks, L, acc => lkc k L fun v => pk ks L ((k, v) :: acc)
theorem lkc_lk {k : Nat} {f : Value → Option (List (Nat × Value))} {r : List (Nat × Value)} : ∀ (L : List (Nat × Value)), lkc k L f = some r → ∃ v, lk L k = some v ∧ f v = some r
  | [], h => by cases h
  | (d, v) :: l, h => by
    unfold lkc at h
    rw [lk_cons]
    cases e : Nat.beq d k with
    | true => rw [e] at h; exact ⟨v, by rw [if_pos (Nat.eq_of_beq_eq_true e)], h⟩
    | false =>
      rw [e] at h
      rw [if_neg (fun h => Nat.ne_of_beq_eq_false e h)]
      exact lkc_lk l h
theorem pk_sub {L L' : List (Nat × Value)} : ∀ (ks : List Nat) (acc : List (Nat × Value)), pk ks L acc = some L' → Sub acc L → Sub L' L
  | [], acc, h, hs => by cases h; exact hs
  | k :: ks, acc, h, hs => by
    obtain ⟨v, h1, h2⟩ := lkc_lk L h
    exact pk_sub ks _ h2 ⟨h1, hs⟩
section
variable {n d : Nat} {L : List (Nat × Value)} {W : World → Prop} {P : Program} {ops : Array Oper} {Q : Exit → Act → World → Prop} {K : Act → World → Prop} {rest : List Oper} {ty : TypeId} {pos : String} {aft : Array Edge} {x : Operand} {v : Value}
theorem nt (k : At n L W K) : At n L W (wpList P ops (Exit.then K Q) []) := at_nil (at_then_normal k)
theorem wq (ks : List Nat) {L' : List (Nat × Value)} (k : At n L' W K) (h : pk ks L [] = some L' := by exact rfl) : At n L W K := at_weak L' (pk_sub ks [] h trivial) k
theorem nwq (ks : List Nat) {L' : List (Nat × Value)} (k : At n L' W K) (h : pk ks L [] = some L' := by exact rfl) : At n L W (wpList P ops (Exit.then K Q) []) := nwt L' (pk_sub ks [] h trivial) k
theorem nwx {id : Nat} {l : List Oper} {y : Code} (ks : List Nat) {L' : List (Nat × Value)} (k : At n L' W (wpList P l.toArray (Exit.then (y.wp P Q) Q) l)) (h : pk ks L [] = some L' := by exact rfl) : At n L W (wpList P ops (Exit.then ((Code.seq (Code.region id l.toArray false) y).wp P Q) Q) []) := nws L' (pk_sub ks [] h trivial) k
theorem ns {id : Nat} {l : List Oper} {y : Code} (k : At n L W (wpList P l.toArray (Exit.then (y.wp P Q) Q) l)) : At n L W (wpList P ops (Exit.then ((Code.seq (Code.region id l.toArray false) y).wp P Q) Q) []) := nt (sr k)
theorem tn (k : At n L W K) : At n L W (Exit.then K Q .normal) := at_then_normal k
theorem gy {dst : Option Tmp} {op : Op} {j g : Nat} {oj : Oper} {b : Bool} (k : At n L W (wpList P ops Q (⟨dst, op, ty, pos, aft, none⟩ :: rest))) (hj : ops[j]? = some oj := by exact rfl) (hd : oj.dst = some g := by exact rfl) (hg : lk L g = some (.bool b) := by exact rfl) : At n L W (wpList P ops Q (⟨dst, op, ty, pos, aft, some (j, b)⟩ :: rest)) := at_guard_yes hj hd hg k
theorem gn {op : Op} {j g : Nat} {oj : Oper} {b b' : Bool} (k : At n ((d, undef) :: L) W (wpList P ops Q rest)) (hj : ops[j]? = some oj := by exact rfl) (hd : oj.dst = some g := by exact rfl) (hg : lk L g = some (.bool b) := by exact rfl) (hne : (b == b') = false := by exact rfl) (hdn : Nat.blt d n = true := by exact rfl) : At n L W (wpList P ops Q (⟨some d, op, ty, pos, aft, some (j, b')⟩ :: rest)) := at_guard_no hj hd hg hne hdn k
theorem qs {x y : Code} (k : At n L W (x.wp P (Exit.then (y.wp P Q) Q))) : At n L W ((Code.seq x y).wp P Q) := at_seq k
theorem qr {id : Nat} {l : List Oper} (k : At n L W (wpList P l.toArray Q l)) : At n L W ((Code.region id l.toArray false).wp P Q) := at_region k
theorem qn (k : At n L W (Q .normal)) : At n L W (wpList P ops Q []) := at_nil k
theorem qt (k : At n L W (Q .ret)) : At n L W (Code.ret.wp P Q) := at_ret k
theorem tr (k : At n L W (Q .ret)) : At n L W (Exit.then K Q .ret) := at_then_ret k
theorem br {id : Nat} (k : At n L W (Q .ret)) : At n L W (Exit.inBlock id Q .ret) := at_blk_ret k
theorem bm {id : Nat} (k : At n L W K) : At n L W (Exit.inBlock id (Exit.then K Q) .normal) := at_blk_normal (at_then_normal k)
theorem te {i : Nat} (k : At n L W (Q (.exit i))) : At n L W (Exit.then K Q (.exit i)) := at_then_exit k
theorem qb {id : Nat} {c : Code} (k : At n L W (c.wp P (Exit.inBlock id Q))) : At n L W ((Code.block id c).wp P Q) := at_block k
theorem fx {X : Act → World → Prop} (g : Nat) {b b' : Bool} (hb : b = b') (k : At n ((g, .bool b') :: L) W X) (hg : lk L g = some (.bool b) := by exact rfl) : At n L W X := at_fix hg hb k
theorem r1 {fn : Func} {R : Ending → World → Prop} {t : Nat} {v : Value} (hR : ∀ w, W w → R (.returned v) w) (hr : fn.results = #[.tmp t] := by exact rfl) (hv : lk L t = some v := by exact rfl) : At n L W (bodyPost P fn R .ret) := at_return1 hr hv hR
theorem ce {f : FuncId} {fn : Func} {c : Code} {l : List Value} {w : World} {R : Ending → World → Prop} (hf : P.funcs[f]? = some fn) (hb : fn.body = some c) (hn : fn.ntmps = n) (k : At n (rep l 0) (fun w' => w' = w) (c.wp P (bodyPost P fn R))) (hl : Nat.ble l.length n = true := by exact rfl) : Calls P f l.toArray w R := calls_enter hf hb hn hl k
theorem bM {α β : Type} {x : Option α} {G : α → Option β} {r : β} (h : (x >>= G) = some r) : ∃ v, x = some v ∧ G v = some r := of_bindM h
theorem gd {α : Type} {c : Prop} [Decidable c] {x : Option α} {r : α} (h : (if c then x else none) = some r) : c ∧ x = some r := of_guard h
theorem os {α : Type} {x r : α} (h : some x = some r) : x = r := Option.some.inj h
theorem al {w0 : World} {H : List Ent} {t : TypeId} {z : Value} {cs : List Value} (hz : ∀ w, (zeroValue t).run P w = .ok z w) (k : ∀ b, At n ((d, .pointer (some ⟨b, 0, none⟩)) :: L) (Wd w0 (cellsE b cs t :: H)) (wpList P ops Q rest)) (hcs : z.cells = cs.toArray := by exact rfl) (hdn : Nat.blt d n = true := by exact rfl) : At n L (Wd w0 H) (wpList P ops Q (⟨some d, .alloc t, ty, pos, aft, none⟩ :: rest)) := at_alloc hz hcs hdn k
theorem oi {α : Type} {c : Bool} {A B : Option α} {r : α} (h : (if c = true then A else B) = some r) : (c = true ∧ A = some r) ∨ (c = false ∧ B = some r) := of_ite h
theorem am (k : At n ((d, v) :: L) W (wpList P ops Q rest)) (hx : ev L x = some v := by exact rfl) (hdn : Nat.blt d n = true := by exact rfl) : At n L W (wpList P ops Q (⟨some d, .move x, ty, pos, aft, none⟩ :: rest)) := av hdn (r_move hx) k
theorem aa (k : At n ((d, v) :: L) W (wpList P ops Q rest)) (hx : ev L x = some v := by exact rfl) (hdn : Nat.blt d n = true := by exact rfl) : At n L W (wpList P ops Q (⟨some d, .assign x, ty, pos, aft, none⟩ :: rest)) := av hdn (r_assign hx) k
theorem ct {c : Operand} {x y : Code} {b : Bool} (hb : b = true) (k : At n L W (x.wp P Q)) (hc : ev L c = some (.bool b) := by exact rfl) : At n L W ((Code.cond c x y).wp P Q) := at_cond_true hc hb k
theorem cf {c : Operand} {x y : Code} {b : Bool} (hb : b = false) (k : At n L W (y.wp P Q)) (hc : ev L c = some (.bool b) := by exact rfl) : At n L W ((Code.cond c x y).wp P Q) := at_cond_false hc hb k
theorem aw {op : Op} (hr : Runs n L W P ⟨some d, op, ty, pos, aft, none⟩ v) (k : At n ((d, v) :: L) W (wpList P ops Q rest)) (hdn : Nat.blt d n = true := by exact rfl) : At n L W (wpList P ops Q (⟨some d, op, ty, pos, aft, none⟩ :: rest)) := av hdn hr k
section
variable {y c : Operand} {k : IntKind} {i j : Int} {xt yt : TypeId} {b : Bool} {u : Value} {m : Nat} {vs : Array Value}
theorem xa (hx : ev L x = some (.int k i) := by exact rfl) (hy : ev L y = some (.int k j) := by exact rfl) : Runs n L W P ⟨some d, .binOp .add xt x y yt, ty, pos, aft, none⟩ (.int k (k.wrap (i + j))) := r_iadd hx hy
theorem xl (hx : ev L x = some (.int k i) := by exact rfl) (hy : ev L y = some (.int k j) := by exact rfl) : Runs n L W P ⟨some d, .binOp .lss xt x y yt, ty, pos, aft, none⟩ (.bool (decide (i < j))) := r_ilss hx hy
theorem xq (hx : ev L x = some (.int k i) := by exact rfl) (hy : ev L y = some (.int k j) := by exact rfl) : Runs n L W P ⟨some d, .binOp .eql xt x y yt, ty, pos, aft, none⟩ (.bool (i == j)) := r_ieql hx hy
theorem xn (hx : ev L x = some (.int k i) := by exact rfl) (hy : ev L y = some (.int k j) := by exact rfl) : Runs n L W P ⟨some d, .binOp .neq xt x y yt, ty, pos, aft, none⟩ (.bool (i != j)) := r_ineq hx hy
theorem xp (hc : ev L c = some (.bool b) := by exact rfl) (hx : ev L x = some u := by exact rfl) (hy : ev L y = some v := by exact rfl) : Runs n L W P ⟨some d, .pick c x y, ty, pos, aft, none⟩ (bif b then u else v) := r_pick hc hx hy
theorem xe (hx : ev L x = some (.tuple vs) := by exact rfl) (hv : vs[m]? = some v := by exact rfl) : Runs n L W P ⟨some d, .extract x m, ty, pos, aft, none⟩ v := r_extract hx hv
end
theorem dz {E : Ent} {H : List Ent} {w0 : World} (k : At n L (Wd w0 H) K) : At n L (Wd w0 (E :: H)) K := at_drop (H := _) .z k
end
end
end Go.Proofs.YtahlbjmafceoeaaGreatDoor.E
namespace Go.Proofs.YtahlbjmafceoeaaGreatDoor.E
open Go.RowKit
variable {n : Nat} {L L' : List (Nat × Value)} {a : Act} {W : World → Prop} {P : Program} {ops : Array Oper} {Q : Exit → Act → World → Prop} {rest : List Oper} {w0 : World} {H : List Ent}
section
variable {d : Nat} {ty : TypeId} {pos : String} {aft : Array Edge} {f : FuncId} {fn : Func} {xs : List Operand} {ats : Array TypeId} {l : List Value}
theorem at_callB{v : Value}(hf : P.funcs[f]? = some fn)(hb : fn.body.isSome = true)(hnm : (fn.name == "runtime.NumGoroutine") = false)
  (hx:evs L xs=some l) (hdn:Nat.blt d n=true) (hc:∀ w,Wd w0 H w→Calls P f l.toArray w fun e w'=>e=.returned v∧Below w.heap.size w w')
  (kk:At n ((d,v)::L) (Wd w0 H) (wpList P ops Q rest)) :
  At n L (Wd w0 H) (wpList P ops Q (⟨some d,.call { callee:=.value (.func f),args:=xs.toArray,argTypes:=ats },ty,pos,aft,none⟩::rest)) :=
 at_call (W':=fun u w'=>u=v∧Wd w0 H w') hf hb hnm hx hdn (fun w hw=>(hc w hw).mono fun e w' ⟨he,hw'⟩=>⟨v,he,rfl,hw.call hw'⟩) fun u a w h hw=>by
  obtain ⟨rfl,hw⟩:=hw
  exact kk a w h hw
theorem at_callO{α : Type}{c : Cd α}{e : TypeId}{ys : List α}{V : Option Addr → Nat → Value}(hf : P.funcs[f]? = some fn)(hb : fn.body.isSome = true)(hnm : (fn.name == "runtime.NumGoroutine") = false)
  (hx:evs L xs=some l) (hdn:Nat.blt d n=true) (hc:∀ w,Wd w0 H w→Calls P f l.toArray w fun en w'=>∃ p cap,en=.returned (V p cap)∧Own c e w.heap.size w' p cap ys∧Below w.heap.size w w')
  (kk:∀ p cap,At n ((d,V p cap)::L) (Wd w0 (rowE c e p cap ys::H)) (wpList P ops Q rest)) :
  At n L (Wd w0 H) (wpList P ops Q (⟨some d,.call { callee:=.value (.func f),args:=xs.toArray,argTypes:=ats },ty,pos,aft,none⟩::rest)) :=
 at_call (W':=fun u w'=>∃ p cap,u=V p cap∧Wd w0 (rowE c e p cap ys::H) w') hf hb hnm hx hdn (fun w hw=>(hc w hw).mono fun en w' ⟨p,cap,he,ho,hw'⟩=>⟨_,he,p,cap,rfl,hw.pushOwn hw' ho⟩) fun u a w h hw=>by
  obtain ⟨p,cap,rfl,hw⟩:=hw
  exact kk p cap a w h hw
theorem callB_of_call0{v:Value}{P:Program}{f:FuncId}{l:Array Value}{w:World}(h:Calls P f l w fun e w'=>e=.returned v∧w'=w):Calls P f l w fun e w'=>e=.returned v∧Below w.heap.size w w' :=
 h.mono fun e w' ⟨he,hw⟩=>⟨he,by subst hw;exact Below.refl _ _⟩
end
def bldE(T e:TypeId)(b:Nat)(g:Option Nat)(o:ByteArray):Ent :=
 ⟨b::g.toList,fun w=>∃ q v,w.heap[b]? = some (.cells #[q,v] T (0,0))∧w.ownsRowF b e 1 v o.size (Lib.strCells o)∧v.ownBlock≠some b∧(q=.pointer none∨q=.pointer (some ⟨b,0,none⟩))∧v.ownBlock=g,fun w w' h ⟨q,v,h1,h2,h3,h4,h5⟩=>by
  refine ⟨q,v,(h b (by simp)).trans h1,⟨h2.1,?_⟩,h3,h4,h5⟩
  rcases h2.2 with h6 | ⟨g',cap,cur,fz,hv,hg,hh,r⟩
  ·exact .inl h6
  ·refine .inr ⟨g',cap,cur,fz,hv,hg,(h g' ?_).trans hh,r⟩
   rw [←h5,hv];simp [Value.ownBlock]⟩
theorem bldE_is{T e:TypeId}{b:Nat}{g:Option Nat}{o:ByteArray}{w:World}(h:(bldE T e b g o).ok w):Lib.IsBuilderF T e b b (Lib.strCells o) w:=by
 obtain ⟨q,v,h1,h2,h3,h4,h5⟩:=h
 have hl:(Lib.strCells o).length=o.size:=Lib.strCells_length o
 rcases h4 with rfl | rfl
 ·exact .inl ⟨Nat.le_refl _,v,h1,by rw [hl];exact h2,h3⟩
 ·exact .inr ⟨Nat.le_refl _,v,h1,by rw [hl];exact h2,h3⟩
def Other(e:TypeId)(E:Ent):Prop:=∀ w,E.ok w→∀ k∈E.fp,∃ cs t fr,w.heap[k]? = some (.cells cs t fr)∧t≠e
def Others(e:TypeId):List Ent→Prop
 | []=>True
 | E::H=>Other e E∧Others e H
theorem Others.mem{e:TypeId}:∀ {H:List Ent},Others e H→∀ E∈H,Other e E
 | _::_,h,E,hE=>by
  rcases List.mem_cons.1 hE with rfl | hE
  ·exact h.1
  ·exact Others.mem h.2 E hE
theorem Upd.others{E:Ent}{f:Ent→List Ent}{G:List Ent}(h:Upd H E f G):∀ F∈G,F∈H:=by
 induction h with
 | z=>intro F hF;exact List.mem_cons_of_mem _ hF
 | s _ ih =>
  intro F hF
  rcases List.mem_cons.1 hF with rfl | hF
  ·exact List.mem_cons_self ..
  ·exact List.mem_cons_of_mem _ (ih F hF)
theorem Sep.put{B:Nat}{E E':Ent}{f:Ent→List Ent}{G:List Ent}{w w':World}(hu:Upd H E f G)(h:Sep B H w)(hsz:w.heap.size≤w'.heap.size)(hk:∀ F∈G,∀ k∈F.fp,w'.heap[k]? = w.heap[k]?)
  (hok:E'.ok w') (hfp:∀ k∈E'.fp,B≤k∧k<w'.heap.size∧∀ F∈G,k∉F.fp):Sep B (f E') w':=by
 induction hu with
 | z=>exact ⟨hok,hfp,h.2.2.mono hsz hk⟩
 | @s F E H f G hu ih =>
  refine ⟨F.loc w w' (hk F (List.mem_cons_self ..)) h.1,fun k hkF=>⟨(h.2.1 k hkF).1,Nat.lt_of_lt_of_le (h.2.1 k hkF).2.1 hsz,fun F' hF' hk'=>?_⟩,
   ih h.2.2 (fun F' hF'=>hk F' (List.mem_cons_of_mem _ hF')) fun k hk'=>⟨(hfp k hk').1,(hfp k hk').2.1,fun F' hF'=>(hfp k hk').2.2 F' (List.mem_cons_of_mem _ hF')⟩⟩
  rcases hu.mem' F' hF' with rfl | hF'
  ·exact (hfp k hk').2.2 F (List.mem_cons_self ..) hkF
  ·exact (h.2.1 k hkF).2.2 F' hF' hk'
theorem Wd.put{E E':Ent}{f:Ent→List Ent}{G:List Ent}{w w':World}(hu:Upd H E f G)(h:Wd w0 H w)(hb:Below w0.heap.size w w')(hk:∀ F∈G,∀ k∈F.fp,w'.heap[k]? = w.heap[k]?)
  (hok:E'.ok w') (hfp:∀ k∈E'.fp,w0.heap.size≤k∧k<w'.heap.size∧∀ F∈G,k∉F.fp):Wd w0 (f E') w' :=
 ⟨h.below.trans hb,h.sep.put hu hb.size hk hok hfp⟩
theorem Wd.bld{T e b:Nat}{g:Option Nat}{o o':ByteArray}{f:Ent→List Ent}{G:List Ent}{w w':World}{q:Value}(hu:Upd H (bldE T e b g o) f G)(h:Wd w0 H w)(hG:Others e G)(hq:q=.pointer none∨q=.pointer (some ⟨b,0,none⟩))
  (hB:Lib.BuilderAtF T e b b q (Lib.strCells o') w') (hb:Below b w w') (hk:Lib.OthersKept e (some b) w w'):∃ g',Wd w0 (f (bldE T e b g' o')) w':=by
 have hb0:w0.heap.size≤b:=(h.fp hu.mem b (by simp [bldE])).1
 obtain ⟨_,v,h1,h2,h3⟩:=hB
 have hl:(Lib.strCells o').length=o'.size:=Lib.strCells_length o'
 have hblt:b<w.heap.size:=(h.fp hu.mem b (by simp [bldE])).2
 have keep:∀ F∈G,∀ k∈F.fp,∃ cs t fr,w.heap[k]? = some (.cells cs t fr)∧t≠e∧w'.heap[k]? = w.heap[k]?:=by
  intro F hF k hkF
  obtain ⟨cs,t,fr,hc,hne⟩:=hG.mem F hF w (h.ok (hu.others F hF)) k hkF
  refine ⟨cs,t,fr,hc,hne,?_⟩
  rw [hc]
  refine hk k _ hc (fun hkb=>?_) (fun c fz hx=>by cases hx;exact hne rfl)
  have hkb':k=b:=by simpa using hkb
  subst hkb'
  have hs:=h.sep
  have:∀ {H:List Ent} {f G} (hu:Upd H (bldE T e k g o) f G),Sep w0.heap.size H w→F∈G→False:=by
   intro H f G hu
   generalize hE:bldE T e k g o=E at hu
   induction hu with
   | z=>intro hs hF;subst hE;exact (hs.2.1 k (by simp [bldE])).2.2 F hF hkF
   | s hu ih =>
    intro hs hF
    rcases List.mem_cons.1 hF with rfl | hF
    ·exact (hs.2.1 k hkF).2.2 _ hu.mem (by subst hE;simp [bldE])
    ·exact ih hE hs.2.2 hF
  exact this hu hs hF
 refine ⟨v.ownBlock,h.put hu (hb.mono hb0) (fun F hF k hkF=>by obtain ⟨_,_,_,_,_,h⟩:=keep F hF k hkF;exact h) ⟨q,v,h1,by rw [←hl];exact h2,h3,hq,rfl⟩ fun k hkE=>?_⟩
 have hbw':b<w'.heap.size:=Nat.lt_of_lt_of_le hblt hb.size
 have hk1:k=b∨v.ownBlock=some k:=by simpa [bldE] using hkE
 rcases hk1 with rfl | hk1
 ·refine ⟨hb0,hbw',fun F hF hkF=>?_⟩
  obtain ⟨cs,t,fr,hc,hne,hh⟩:=keep F hF k hkF
  have hs:=h.sep
  have:∀ {H:List Ent} {f G} (hu:Upd H (bldE T e k g o) f G),Sep w0.heap.size H w→F∈G→False:=by
   intro H f G hu
   generalize hE:bldE T e k g o=E at hu
   induction hu with
   | z=>intro hs hF;subst hE;exact (hs.2.1 k (by simp [bldE])).2.2 F hF hkF
   | s hu ih =>
    intro hs hF
    rcases List.mem_cons.1 hF with rfl | hF
    ·exact (hs.2.1 k hkF).2.2 _ hu.mem (by subst hE;simp [bldE])
    ·exact ih hE hs.2.2 hF
  exact this hu hs hF
 ·rcases h2.2 with ⟨hv,_⟩ | ⟨g2,cap,cur,fz,hv,hg,hh,r⟩
  ·rw [hv] at hk1;simp [Value.ownBlock] at hk1
  ·rw [hv] at hk1
   simp [Value.ownBlock] at hk1
   subst hk1
   refine ⟨Nat.le_trans hb0 hg,(Array.getElem?_eq_some_iff.1 hh).1,fun F hF hkF=>?_⟩
   obtain ⟨cs,t,fr,hc,hne,h4⟩:=keep F hF g2 hkF
   rw [h4,hc] at hh
   cases hh
   exact hne rfl
section
variable {d : Nat} {ty : TypeId} {pos : String} {aft : Array Edge} {fid : FuncId} {fn : Func} {xs : List Operand} {ats : Array TypeId} {T e b : Nat} {g : Option Nat} {o : ByteArray} {f : Ent → List Ent} {G : List Ent}
theorem at_alloc_bld{t:TypeId}(hz:∀ w,(zeroValue t).run P w=.ok (.agg #[.pointer none,.slice none 0 0]) w)(hdn:Nat.blt d n=true)
  (k:∀ b,At n ((d,.pointer (some ⟨b,0,none⟩))::L) (Wd w0 (bldE t e b none ByteArray.empty::H)) (wpList P ops Q rest)) :
  At n L (Wd w0 H) (wpList P ops Q (⟨some d,.alloc t,ty,pos,aft,none⟩::rest)) :=
 at_any (W':=fun v w'=>∃ b,v=.pointer (some ⟨b,0,none⟩)∧Wd w0 (bldE t e b none ByteArray.empty::H) w') rfl rfl hdn (fun a w h hw=>by
  refine ⟨_,w.alloc (.cells #[.pointer none,.slice none 0 0] t),?_,w.heap.size,rfl,hw.push ((Below.refl _ _).alloc (Nat.le_refl _) _) ?_ ?_⟩
  ·simp [execOp,Instr.alloc,hz,newVar,newRow,newObj,Sem.run,Value.cells]
  ·exact ⟨.pointer none,.slice none 0 0,heap_alloc_new w _,⟨rfl,.inl ⟨rfl,rfl⟩⟩,by simp [Value.ownBlock],.inl rfl,rfl⟩
  ·intro k hk;simp [bldE] at hk;subst hk;simp) fun v a w h ⟨b,hv,hw⟩=>by subst hv;exact k b a w h hw
theorem strCells_push(o:ByteArray)(c:Int)(hc:0≤c∧c<256):Lib.strCells o++[.int .u8 c]=Lib.strCells (o.push (UInt8.ofNat c.toNat)):=by
 have:((UInt8.ofNat c.toNat).toNat:Int)=c:=by
  have h1:c.toNat<256:=by omega
  simp [UInt8.toNat_ofNat,Nat.mod_eq_of_lt h1];omega
 simp only [Lib.strCells,ByteArray.push,Array.toList_push,List.map_append,List.map_cons,List.map_nil,this]
theorem strCells_append(o s:ByteArray):Lib.strCells o++Lib.strCells s=Lib.strCells (o++s):=by
 simp [Lib.strCells,ByteArray.data_append]
theorem at_bld_byte{c : Int}(hu : Upd H (bldE T e b g o) f G)(hG : Others e G)(hf : P.funcs[fid]? = some fn)(hb : fn.body.isSome = true)(hnm : (fn.name == "runtime.NumGoroutine") = false)
  (hx:evs L xs=some [.pointer (some ⟨b,0,none⟩),.int .u8 c]) (hdn:Nat.blt d n=true) (hc:0≤c∧c<256) (hs:o.size+1≤140737488355328)
  (hcon:∀ (B b:Nat) (bs:List Value) (c:Int) (w:World) (_:Lib.IsBuilderF T e B b bs w) (_:bs.length+1≤140737488355328) (_:B≤w.heap.size),
   Calls P fid #[.pointer (some ⟨b,0,none⟩),.int .u8 c] w fun en w'=>en=.returned .nilIface∧(Lib.BuilderAtF T e B b (.pointer (some ⟨b,0,none⟩)) (bs++[.int .u8 c]) w'∧Below B w w'∧Lib.OthersKept e (some b) w w'))
  (kk:∀ g',At n ((d,.nilIface)::L) (Wd w0 (f (bldE T e b g' (o.push (UInt8.ofNat c.toNat))))) (wpList P ops Q rest)) :
  At n L (Wd w0 H) (wpList P ops Q (⟨some d,.call { callee:=.value (.func fid),args:=xs.toArray,argTypes:=ats },ty,pos,aft,none⟩::rest)) :=
 at_call (W':=fun u w'=>u=.nilIface∧∃ g',Wd w0 (f (bldE T e b g' (o.push (UInt8.ofNat c.toNat)))) w') hf hb hnm hx hdn (fun w hw =>
  (hcon b b _ c w (bldE_is (hw.ok hu.mem)) (by rw [Lib.strCells_length];exact hs) (Nat.le_of_lt (hw.fp hu.mem b (by simp [bldE])).2)).mono fun en w' ⟨he,h1,h2,h3⟩ =>
   ⟨_,he,rfl,hw.bld hu hG (.inr rfl) (by rw [strCells_push o c hc] at h1;exact h1) h2 h3⟩) fun u a w h hw=>by
  obtain ⟨rfl,g',hw⟩:=hw
  exact kk g' a w h hw
theorem at_bld_str{s : ByteArray}(hu : Upd H (bldE T e b g o) f G)(hG : Others e G)(hf : P.funcs[fid]? = some fn)(hb : fn.body.isSome = true)(hnm : (fn.name == "runtime.NumGoroutine") = false)
  (hx:evs L xs=some [.pointer (some ⟨b,0,none⟩),.string s]) (hdn:Nat.blt d n=true) (hs:o.size+s.size≤140737488355328)
  (hcon:∀ (B b:Nat) (bs:List Value) (s:ByteArray) (w:World) (_:Lib.IsBuilderF T e B b bs w) (_:bs.length+s.size≤140737488355328) (_:B≤w.heap.size),
   Calls P fid #[.pointer (some ⟨b,0,none⟩),.string s] w fun en w'=>en=.returned (.tuple #[.int .i64 s.size,.nilIface])∧(Lib.BuilderAtF T e B b (.pointer (some ⟨b,0,none⟩)) (bs++Lib.strCells s) w'∧Below B w w'∧Lib.OthersKept e (some b) w w'))
  (kk:∀ g',At n ((d,.tuple #[.int .i64 s.size,.nilIface])::L) (Wd w0 (f (bldE T e b g' (o++s)))) (wpList P ops Q rest)) :
  At n L (Wd w0 H) (wpList P ops Q (⟨some d,.call { callee:=.value (.func fid),args:=xs.toArray,argTypes:=ats },ty,pos,aft,none⟩::rest)) :=
 at_call (W':=fun u w'=>u=.tuple #[.int .i64 s.size,.nilIface]∧∃ g',Wd w0 (f (bldE T e b g' (o++s))) w') hf hb hnm hx hdn (fun w hw =>
  (hcon b b _ s w (bldE_is (hw.ok hu.mem)) (by rw [Lib.strCells_length];exact hs) (Nat.le_of_lt (hw.fp hu.mem b (by simp [bldE])).2)).mono fun en w' ⟨he,h1,h2,h3⟩ =>
   ⟨_,he,rfl,hw.bld hu hG (.inr rfl) (by rw [strCells_append] at h1;exact h1) h2 h3⟩) fun u a w h hw=>by
  obtain ⟨rfl,g',hw⟩:=hw
  exact kk g' a w h hw
theorem at_bld_string(hu : Upd H (bldE T e b g o) f G)(hG : Others e G)(hf : P.funcs[fid]? = some fn)(hb : fn.body.isSome = true)(hnm : (fn.name == "runtime.NumGoroutine") = false)
  (hx:evs L xs=some [.pointer (some ⟨b,0,none⟩)]) (hdn:Nat.blt d n=true)
  (hcon:∀ (B b:Nat) (l:List UInt8) (w:World) (_:Lib.IsBuilderF T e B b (Lib.byteCells l) w) (_:B≤w.heap.size),
   Calls P fid #[.pointer (some ⟨b,0,none⟩)] w fun en w'=>en=.returned (.string ⟨l.toArray⟩)∧(Lib.IsBuilderF T e B b (Lib.byteCells l) w'∧Below B w w'∧Lib.OthersKept e (some b) w w'))
  (kk:∀ g',At n ((d,.string o)::L) (Wd w0 (f (bldE T e b g' o))) (wpList P ops Q rest)) :
  At n L (Wd w0 H) (wpList P ops Q (⟨some d,.call { callee:=.value (.func fid),args:=xs.toArray,argTypes:=ats },ty,pos,aft,none⟩::rest)) :=
 at_call (W':=fun u w'=>u=.string o∧∃ g',Wd w0 (f (bldE T e b g' o)) w') hf hb hnm hx hdn (fun w hw =>
  (hcon b b o.data.toList w (bldE_is (hw.ok hu.mem)) (Nat.le_of_lt (hw.fp hu.mem b (by simp [bldE])).2)).mono fun en w' ⟨he,h1,h2,h3⟩=>by
   refine ⟨_,he,by simp,?_⟩
   rcases h1 with h1 | h1
   ·exact hw.bld hu hG (.inl rfl) h1 h2 h3
   ·exact hw.bld hu hG (.inr rfl) h1 h2 h3) fun u a w h hw=>by
  obtain ⟨rfl,g',hw⟩:=hw
  exact kk g' a w h hw
end
def brep(s:ByteArray)(c:Int):ByteArray:=⟨(Lib.repeatL s.data.toList c.toNat).toArray⟩
theorem rep_lift{P:Program}{f:FuncId}(hcon:∀ (s:ByteArray) (c:Nat) (w:World) (_:c≤9223372036854775807) (_:s.size*c≤140737488355328),Calls P f #[.string s,.int .i64 c] w fun e w'=>e=.returned (.string ⟨(Lib.repeatL s.data.toList c).toArray⟩)∧Below w.heap.size w w')
  (s:ByteArray) (c:Int) (w:World) (h:0≤c∧c≤9223372036854775807∧(s.size:Int)*c≤140737488355328):Calls P f #[.string s,.int .i64 c] w fun e w'=>e=.returned (.string (brep s c))∧Below w.heap.size w w':=by
 obtain ⟨h1,h2,h3⟩:=h
 obtain ⟨m,rfl⟩:=Int.eq_ofNat_of_zero_le h1
 have h4:((s.size*m:Nat):Int)≤140737488355328:=by rw [Int.natCast_mul];exact h3
 exact hcon s m w (by omega) (by omega)
end Go.Proofs.YtahlbjmafceoeaaGreatDoor.E
namespace Go.Proofs.YtahlbjmafceoeaaGreatDoor.E
open Go.RowKit
theorem wr_i64{x:Int}(h : -9223372036854775808≤x)(h':x<9223372036854775808):wr .i64 x=x:=by
 unfold wr IntKind.wrap
 simp [IntKind.bits,IntKind.signed]
 split<;>omega
theorem wr_u8{x:Int}(h:0≤x)(h':x<256):wr .u8 x=x:=by
 unfold wr IntKind.wrap;simp only [IntKind.bits,IntKind.signed,Bool.false_and,Bool.false_eq_true,if_false];omega
theorem wr_u64{x:Int}(h:0≤x)(h':x<18446744073709551616):wr .u64 x=x:=by
 unfold wr IntKind.wrap;simp only [IntKind.bits,IntKind.signed,Bool.false_and,Bool.false_eq_true,if_false];omega
theorem wr_u8_mod(x:Int):wr .u8 x=x%256:=by
 unfold wr IntKind.wrap;simp only [IntKind.bits,IntKind.signed,Bool.false_and,Bool.false_eq_true,if_false];omega
theorem toNat_ofInt(b:Nat)(x:Nat)(h:x<2 ^ b):(BitVec.ofInt b (x:Int)).toNat=x:=by
 rw [BitVec.toNat_ofInt]
 rw [Int.emod_eq_of_lt (by omega) (by exact_mod_cast h)]
 simp
theorem ior_nat(k:IntKind)(hk:k.signed=false)(x y:Nat)(hx:x<2 ^ k.bits)(hy:y<2 ^ k.bits):ior k x y=((x ||| y:Nat):Int):=by
 unfold ior
 rw [BitVec.toNat_or,toNat_ofInt _ _ hx,toNat_ofInt _ _ hy]
 unfold IntKind.wrap
 have h1:x ||| y<2 ^ k.bits:=Nat.or_lt_two_pow hx hy
 rw [Int.emod_eq_of_lt (by omega) (by exact_mod_cast h1)]
 simp [hk]
theorem ishr_nat(k:IntKind)(x n:Nat)(hn:n≤k.bits):ishr k x n=((x/2 ^ n:Nat):Int):=by
 unfold ishr
 rw [Int.toNat_natCast,Nat.min_eq_left hn,Int.fdiv_eq_ediv_of_nonneg _ (by exact_mod_cast Nat.zero_le _)]
 exact_mod_cast rfl
theorem bindM_some{α β:Type}(x:α)(f:α→Option β):((some x:Option α)>>=f)=f x:=rfl
theorem all_int(k:IntKind)(xs:List Int):(cInt k).all xs=xs.map (Value.int k):=by
 induction xs with
 | nil=>rfl
 | cons x xs ih=>rw [Cd.all_cons,ih];rfl
theorem wf_u8{n:Int}(h:(Lit.int .u8 n).wf=true):0≤n∧n<256:=by
 simp [Lit.wf,IntKind.min,IntKind.max,IntKind.bits,IntKind.signed] at h;omega
def ob(l:List UInt8):List Int:=l.map fun b=>(b.toNat:Int)
theorem ob_length(l:List UInt8):(ob l).length=l.length:=by simp [ob]
theorem ob_append(l k:List UInt8):ob (l++k)=ob l++ob k:=by simp [ob]
theorem ob_inj{l k:List UInt8}(h:ob l=ob k):l=k:=by
 induction l generalizing k with
 | nil=>cases k with
  | nil=>rfl
  | cons b k=>simp [ob] at h
 | cons a l ih=>cases k with
  | nil=>simp [ob] at h
  | cons b k =>
   simp only [ob,List.map_cons,List.cons.injEq] at h
   have h1:a=b:=UInt8.toNat_inj.1 (by omega)
   rw [h1,ih h.2]
theorem exists_ob(xs:List Int)(h:∀ n∈xs,(Lit.int .u8 n).wf=true):∃ l,xs=ob l:=by
 induction xs with
 | nil=>exact ⟨[],rfl⟩
 | cons n xs ih =>
  obtain ⟨l,hl⟩:=ih fun m hm=>h m (List.mem_cons_of_mem _ hm)
  obtain ⟨h0,h1⟩:=wf_u8 (h n (List.mem_cons_self ..))
  refine ⟨UInt8.ofNat n.toNat::l,?_⟩
  rw [hl]
  simp only [ob,List.map_cons,UInt8.toNat_ofNat']
  congr 1
  omega
theorem drop_get{α:Type}(l:List α)(i:Nat)(h:i<l.length):∃ c,l[i]? = some c∧l.drop i=c::l.drop (i+1) :=
 ⟨l[i],List.getElem?_eq_getElem h,List.drop_eq_getElem_cons h⟩
end Go.Proofs.YtahlbjmafceoeaaGreatDoor.E
namespace Go.Proofs.YtahlbjmafceoeaaGreatDoor.E
open Go.RowKit
variable {n : Nat} {L L' : List (Nat × Value)} {a : Act} {W : World → Prop} {P : Program} {ops : Array Oper} {Q : Exit → Act → World → Prop} {rest : List Oper} {w0 : World} {H : List Ent}
variable {α β γ : Type}
def Lens(cells:List Value)(o:Nat)(c:Cd β)(y:β)(put:β→List Value):Prop :=
 ∃ pre post,cells=pre++c.cs y++post∧pre.length=o∧∀ z,put z=pre++c.cs z++post
theorem Lens.whole(c:Cd α)(x:α):Lens (c.cs x) 0 c x c.cs:=⟨[],[],by simp,rfl,fun z=>by simp⟩
theorem Lens.comp0{cells:List Value}{o o':Nat}{c:Cd β}{c':Cd γ}{y:β}{y':γ}{put:β→List Value}{put':γ→List Value}(h:Lens cells o c y put)(h':Lens (c.cs y) o' c' y' put') :
  Lens cells (o+o') c' y' (fun z=>cells.take o++put' z++cells.drop (o+(c.cs y).length)):=by
 obtain ⟨p1,q1,e1,l1,f1⟩:=h
 obtain ⟨p2,q2,e2,l2,f2⟩:=h'
 refine ⟨p1++p2,q2++q1,?_,by simp [l1,l2],fun z=>?_⟩
 ·rw [e1,e2];simp
 ·have t1:cells.take o=p1:=by rw [e1,←l1];simp
  have t2:cells.drop (o+(c.cs y).length)=q1:=by
   rw [e1,←l1,←List.length_append,List.drop_left]
  show cells.take o++put' z++cells.drop (o+(c.cs y).length)=_
  rw [t1,t2,f2 z];simp
theorem Lens.comp{cells:List Value}{o o':Nat}{c:Cd β}{c':Cd γ}{y:β}{y':γ}{put:β→List Value}(h:Lens cells o c y put)(g:γ→β)(h':Lens (c.cs y) o' c' y' (fun z=>c.cs (g z))) :
  Lens cells (o+o') c' y' (fun z=>put (g z)):=by
 obtain ⟨p1,q1,e1,l1,f1⟩:=h
 obtain ⟨p2,q2,e2,l2,f2⟩:=h'
 refine ⟨p1++p2,q2++q1,?_,by simp [l1,l2],fun z=>?_⟩
 ·rw [e1,e2];simp
 ·have f2z:c.cs (g z)=_:=f2 z
  show put (g z)=_
  rw [f1,f2z];simp
theorem Lens.get{cells:List Value}{o:Nat}{c:Cd β}{y:β}{put:β→List Value}(h:Lens cells o c y put):∀ k v,(c.cs y)[k]? = some v→cells[o+k]? = some v:=by
 obtain ⟨p,q,e,l,_⟩:=h
 intro k v hk
 have hlt:k<(c.cs y).length:=(List.getElem?_eq_some_iff.1 hk).1
 rw [e,List.append_assoc,List.getElem?_append_right (by omega),l,Nat.add_sub_cancel_left,List.getElem?_append_left hlt]
 exact hk
theorem Lens.size{cells:List Value}{o:Nat}{c:Cd β}{y:β}{put:β→List Value}(h:Lens cells o c y put):o+c.sz≤cells.length:=by
 obtain ⟨p,q,e,l,_⟩:=h
 rw [e];simp [c.len];omega
theorem Lens.splice{cells:List Value}{o:Nat}{c:Cd β}{y:β}{put:β→List Value}(h:Lens cells o c y put)(z:β):put z=cells.take o++c.cs z++cells.drop (o+c.sz):=by
 obtain ⟨p,q,e,l,f⟩:=h
 rw [f,e,←l]
 have h1:List.take p.length (p++c.cs y++q)=p:=by simp
 have h2:List.drop (p.length+c.sz) (p++c.cs y++q)=q:=by
  rw [←c.len y,←List.length_append];simp
 rw [h1,h2]
theorem Lens.all[Inhabited α](c:Cd α):∀ (xs:List α) (i:Nat),i<xs.length→Lens (c.all xs) (i*c.sz) c (xs.getD i default) (fun z=>c.all (xs.set i z))
 | x::xs,0,_=>⟨[],c.all xs,by simp [Cd.all_cons],by simp,fun z=>by simp [Cd.all_cons]⟩
 | x::xs,i+1,h=>by
  obtain ⟨p,q,e,l,f⟩:=Lens.all c xs i (by simpa using h)
  refine ⟨c.cs x++p,q,?_,by rw [List.length_append,c.len,l,Nat.add_mul];omega,fun z=>?_⟩
  ·rw [Cd.all_cons,e];simp
  ·have:=f z
   simp only [List.set_cons_succ,Cd.all_cons] at this ⊢
   rw [this];simp
structure Hd where
 p:Option Addr
 n:Nat
 cap:Nat
 deriving DecidableEq,Inhabited
def cHd:Cd Hd:=⟨1,fun h=>[.slice h.p h.n h.cap],fun _=>rfl,fun _ v hv=>by simp at hv;subst hv;rfl,by decide⟩
def vget[Inhabited α]{m:Nat}(v:Vector α m)(i:Int):α:=v.toList.getD i.toNat default
def vset{m:Nat}(v:Vector α m)(i:Int)(x:α):Vector α m:=v.setIfInBounds i.toNat x
theorem vset_toList{m:Nat}(v:Vector α m)(i:Int)(x:α):(vset v i x).toList=v.toList.set i.toNat x:=by
 simp [vset,Vector.toList_setIfInBounds]
def cVec(c:Cd α)(m:Nat)(hm:0<m):Cd (Vector α m) :=
 ⟨m*c.sz,fun v=>c.all v.toList,fun v=>by rw [c.all_len];simp,fun v=>c.all_one v.toList,Nat.mul_pos hm c.pos⟩
theorem Lens.vec[Inhabited α](c:Cd α){m:Nat}(hm:0<m)(v:Vector α m)(i:Int)(h:0≤i∧i<(m:Int)) :
  Lens ((cVec c m hm).cs v) (i.toNat*c.sz) c (vget v i) (fun z=>(cVec c m hm).cs (vset v i z)):=by
 have:=Lens.all c v.toList i.toNat (by simp;omega)
 show Lens (c.all v.toList) _ c (v.toList.getD i.toNat default) (fun z=>c.all (vset v i z).toList)
 simp only [vset_toList]
 exact this
theorem cells_get{b t:Nat}{cells:List Value}{w:World}(h:(cellsE b cells t).ok w)(k:Nat)(v:Value)(hk:cells[k]? = some v):w.cell? ⟨b,k,none⟩=some v:=by
 simp only [cellsE] at h
 simp [World.cell?,h,hk]
theorem lens_cell{b t o:Nat}{cells:List Value}{c:Cd β}{y:β}{put:β→List Value}{f:Ent→List Ent}{G:List Ent}(hu:Upd H (cellsE b cells t) f G)(l:Lens cells o c y put) :
  ∀ w,Wd w0 H w→∀ k v,(c.cs y)[k]? = some v→w.cell? ⟨b,o+k,none⟩=some v:=fun w hw k v hk=>cells_get (hw.ok hu.mem) _ _ (l.get k v hk)
theorem lens_cell0{b t o:Nat}{cells:List Value}{c:Cd β}{y:β}{put:β→List Value}{f:Ent→List Ent}{G:List Ent}{v:Value}(hu:Upd H (cellsE b cells t) f G)(l:Lens cells o c y put)(hv:c.cs y=[v]) :
  ∀ w,Wd w0 H w→w.cell? ⟨b,o,none⟩=some v:=fun w hw=>lens_cell hu l w hw 0 v (by rw [hv];rfl)
section
variable {d : Nat} {ty : TypeId} {pos : String} {aft : Array Edge} {t e s : TypeId} {x y : Operand}
theorem r_nilCheck{p:Addr}(hx:ev L x=some (.pointer (some p))):Runs n L W P (⟨some d,.nilCheck x,ty,pos,aft,none⟩) (.pointer (some p)):=fun a w h _=>by
 simp only [execOp,h.eval hx];rfl
theorem r_fieldAddr{fs:Array Field}{f:Field}{j b o fo:Nat}(hs:P.underlying s=some (.struct fs))(hf:fs[j]? = some f)(hfo:f.offset=fo)(hz:∀ w,∃ m,(sizeOf f.type).run P w=.ok (m+1) w)(hx:ev L x=some (.pointer (some ⟨b,o,none⟩))) :
  Runs n L W P (⟨some d,.fieldAddr s x j,ty,pos,aft,none⟩) (.pointer (some ⟨b,o+fo,none⟩)):=fun a w h _=>by
 subst hfo
 obtain ⟨m,hm⟩:=hz w
 simp only [execOp,h.eval hx]
 simp [Instr.fieldAt,run_underlying hs,hf,Instr.sureAddr,fieldPlace,hm,Addr.add_lit]
theorem r_idxArr{m sz b o:Nat}{k:IntKind}{i:Int}(ht:P.underlying t=some (.array m e))(hz:∀ w,(sizeOf e).run P w=.ok sz w)(hx:ev L x=some (.pointer (some ⟨b,o,none⟩)))(hy:ev L y=some (.int k i))(hi:0≤i∧i<(m:Int)) :
  Runs n L W P (⟨some d,.indexAddr t x y,ty,pos,aft,none⟩) (.pointer (some ⟨b,o+i.toNat*sz,none⟩)):=fun a w h _=>by
 simp only [execOp,h.eval hx,h.eval hy]
 simp [Instr.indexAt,asIntOf,run_underlying ht,Instr.sureAddr,hi.1,hi.2,hz,Addr.add_lit]
theorem r_load_aggc{b o:Nat}{c:Cd β}{z:β}(ha:∀ w,(isAgg t).run P w=.ok true w)(hz:∀ w,(sizeOf t).run P w=.ok c.sz w)(hx:ev L x=some (.pointer (some ⟨b,o,none⟩)))
  (hc:∀ w,W w→∀ j v,(c.cs z)[j]? = some v→w.cell? ⟨b,o+j,none⟩=some v) :
  Runs n L W P (⟨some d,.load t x,ty,pos,aft,none⟩) (.agg (c.cs z).toArray):=r_load_agg ha hz (c.len z) hx hc
theorem part_scalar{cells:List Value}{o:Nat}{c:Cd β}{y:β}{put:β→List Value}{v:Value}(l:Lens cells o c y put)(ha:∀ w,(isAgg t).run P w=.ok false w)(hv:c.cs y=[v])(w:World):(part t cells.toArray o).run P w=.ok v w:=by
 have:=l.get 0 v (by rw [hv];rfl)
 simp only [Nat.add_zero] at this
 simp [part,ha,this]
theorem part_agg{cells:List Value}{o:Nat}{c:Cd β}{y:β}{put:β→List Value}(l:Lens cells o c y put)(ha:∀ w,(isAgg t).run P w=.ok true w)(hz:∀ w,(sizeOf t).run P w=.ok c.sz w)(w:World) :
  (part t cells.toArray o).run P w=.ok (.agg (c.cs y).toArray) w:=by
 obtain ⟨p,q,he,hl,_⟩:=l
 have:List.take c.sz (List.drop o cells)=c.cs y:=by
  rw [he,←hl,←c.len y]
  simp
 simp [part,ha,hz,this]
theorem r_idxVal{m sz:Nat}{k:IntKind}{i:Int}{cells:List Value}{v:Value}(ht:P.underlying t=some (.array m e))(hz:∀ w,(sizeOf e).run P w=.ok sz w)(hx:ev L x=some (.agg cells.toArray))(hy:ev L y=some (.int k i))(hi:0≤i∧i<(m:Int))
  (hp:∀ w,(part e cells.toArray (i.toNat*sz)).run P w=.ok v w) :
  Runs n L W P (⟨some d,.index t x y,ty,pos,aft,none⟩) v:=fun a w h _=>by
 simp only [execOp,h.eval hx,h.eval hy]
 simp [Instr.index,asIntOf,run_underlying ht,hi.1,hi.2,hz,hp]
theorem at_store{b tb o:Nat}{cells:List Value}{c:Cd β}{u:β}{put:β→List Value}{z:β}{v:Value}{f:Ent→List Ent}{G:List Ent}(hu:Upd H (cellsE b cells tb) f G)(l:Lens cells o c u put)
  (hz:∀ w,(sizeOf t).run P w=.ok c.sz w) (hx:ev L x=some (.pointer (some ⟨b,o,none⟩))) (hy:ev L y=some v) (hv:v.cells=(c.cs z).toArray)
  (k:At n L (Wd w0 (f (cellsE b (put z) tb))) (wpList P ops Q rest)) :
  At n L (Wd w0 H) (wpList P ops Q (⟨none,.store t x y,ty,pos,aft,none⟩::rest)) :=
 at_unit (W':=Wd w0 (f (cellsE b (put z) tb))) rfl rfl (fun a w h hw=>by
  have hok:w.heap[b]? = some (.cells cells.toArray tb (0,0)):=hw.ok hu.mem
  have hsz:=l.size
  have hst:=run_storeCells_at P b o tb (c.cs z) 0 cells.toArray w hok (by simp [c.len];omega) (c.one z)
  simp only [Nat.add_zero] at hst
  have hput:(cells.toArray.toList.take o++c.cs z++cells.toArray.toList.drop (o+(c.cs z).length)).toArray=(put z).toArray:=by
   rw [l.splice z,c.len]
  rw [hput] at hst
  refine ⟨w.setRow b (put z).toArray,?_,hw.upd hu ?_ rfl rfl rfl (fun k hk hk'=>?_) ?_ fun k hk=>.inl hk⟩
  ·simp only [execOp,h.eval hx,h.eval hy]
   simp [Instr.storeAt,Instr.sureAddr,storeVar,hz,hv,c.len,hst]
  ·exact Nat.le_of_eq (by simp [World.setRow])
  ·exact setRow_other w b k _ (by intro e;exact hk' (by rw [e];simp [cellsE]))
  ·exact setRow_heap w b cells.toArray _ tb _ hok) k
theorem fill_step{place:Nat→Option (Nat×Nat)}{cells:List Value}{i o:Nat}{c:Cd β}{y z:β}{put:β→List Value}{v:Value}{ps:List (Nat×Value)}{r:Option (Array Value)}
  (hp:place i=some (o,c.sz)) (l:Lens cells o c y put) (hv:v.cells=(c.cs z).toArray) (k:Instr.fill place (put z).toArray ps=r):Instr.fill place cells.toArray ((i,v)::ps)=r:=by
 have hs:=l.size
 unfold Instr.fill
 simp only [hp,hv,List.size_toArray,c.len]
 rw [if_neg (by simp;omega)]
 have key:∀ (zs:List Value) (pre post:List Value) (k:Nat),pre.length=o+k→zs.length≤post.length →
   (zs.zipIdx k).foldl (fun (cs:Array Value) (p:Value×Nat)=>cs.setIfInBounds (o+p.2) p.1) (pre++post).toArray=(pre++zs++post.drop zs.length).toArray:=by
  intro zs
  induction zs with
  | nil=>intro pre post k _ _;simp
  | cons u zs ih =>
   intro pre post k hk hlen
   cases post with
   | nil=>simp at hlen
   | cons q post =>
    simp only [List.zipIdx_cons,List.foldl_cons]
    have:(pre++q::post).toArray.setIfInBounds (o+k) u=((pre++[u])++post).toArray:=by
     rw [List.setIfInBounds_toArray,←hk,List.set_append_right _ _ (Nat.le_refl _)];simp
    rw [this,ih (pre++[u]) post (k+1) (by simp;omega) (by simpa using hlen)]
    simp
 have e1:cells=cells.take o++cells.drop o:=(List.take_append_drop o cells).symm
 have h2:=key (c.cs z) (cells.take o) (cells.drop o) 0 (by simp;omega) (by simp [c.len];omega)
 rw [←e1] at h2
 have h3:(c.cs z).toArray.zipIdx.foldl (fun (cs:Array Value) (p:Value×Nat)=>cs.setIfInBounds (o+p.2) p.1) cells.toArray=(put z).toArray:=by
  have h4:(c.cs z).toArray.zipIdx.toList=(c.cs z).zipIdx:=by simp
  rw [←Array.foldl_toList,h4,h2,l.splice z]
  simp [c.len,Nat.add_comm]
 rw [show (fun (cs:Array Value) (x:Value×Nat)=>match x with | (c,j)=>cs.setIfInBounds (o+j) c)=(fun (cs:Array Value) (p:Value×Nat)=>cs.setIfInBounds (o+p.2) p.1) from rfl]
 rw [h3]
 exact k
theorem r_build_struct{fs:Array Field}{places:Array (Nat×Nat)}{parts:List (Nat×Operand)}{vs:List (Nat×Value)}{z:Value}{zs cs:List Value}(hs:P.underlying t=some (.struct fs))(hz:∀ w,(zeroValue t).run P w=.ok z w)(hzc:z.cells=zs.toArray)
  (hpl:∀ w,(fs.mapM fun f=>(do pure (f.offset,←sizeOf f.type):Sem (Nat×Nat))).run P w=.ok places w) (hx:evp L parts=some vs)
  (hf:Instr.fill (places[·]?) zs.toArray vs=some cs.toArray) :
  Runs n L W P (⟨some d,.build t parts.toArray,ty,pos,aft,none⟩) (.agg cs.toArray):=fun a w h _=>by
 have hev:=h.evalp hx
 simp only [execOp,List.map_toArray]
 rw [show List.map (fun (x:Nat×Operand)=>match x with | (i,x)=>(i,a.eval x)) parts=vs from hev]
 simp only [Instr.build,Sem.run_bind,hz,Result.andThen_ok,run_underlying hs,hzc,hpl,hf]
 rfl
theorem r_build_array{m sz:Nat}{parts:List (Nat×Operand)}{vs:List (Nat×Value)}{z:Value}{zs cs:List Value}(hs:P.underlying t=some (.array m e))(hz:∀ w,(zeroValue t).run P w=.ok z w)(hzc:z.cells=zs.toArray)
  (hsz:∀ w,(sizeOf e).run P w=.ok sz w) (hx:evp L parts=some vs)
  (hf:Instr.fill (fun i=>some (i*sz,sz)) zs.toArray vs=some cs.toArray) :
  Runs n L W P (⟨some d,.build t parts.toArray,ty,pos,aft,none⟩) (.agg cs.toArray):=fun a w h _=>by
 have hev:=h.evalp hx
 simp only [execOp,List.map_toArray]
 rw [show List.map (fun (x:Nat×Operand)=>match x with | (i,x)=>(i,a.eval x)) parts=vs from hev]
 simp only [Instr.build,Sem.run_bind,hz,Result.andThen_ok,run_underlying hs,hzc,hsz,hf]
 rfl
end
def vOf(agg:Bool)(cs:List Value):Value:=if agg then .agg cs.toArray else cs.headD undef
def Eqs[DecidableEq α](P:Program)(t:TypeId)(c:Cd α)(agg:Bool)(k:Nat):Prop :=
 ∀ d,k≤d→∀ x y w,(Op.equalIn (d+1) t (vOf agg (c.cs x)) (vOf agg (c.cs y))).run P w=.ok (decide (x=y)) w
theorem eqs_int{t:TypeId}{k:IntKind}(ht:P.underlying t=some (.int k)):Eqs P t (cInt k) false 0:=fun d _ x y w=>by
 have:=run_equalIn_int (P:=P) w d t k k x y ht
 show (Op.equalIn (d+1) t (.int k x) (.int k y)).run P w=_
 rw [this];congr 1
theorem part_vOf{t:TypeId}{agg:Bool}{cells:List Value}{o:Nat}{c:Cd β}{y:β}{put:β→List Value}(l:Lens cells o c y put)(ha:∀ w,(isAgg t).run P w=.ok agg w)(hz:∀ w,(sizeOf t).run P w=.ok c.sz w)(h1:agg=true∨c.sz=1)(w:World) :
  (part t cells.toArray o).run P w=.ok (vOf agg (c.cs y)) w:=by
 cases agg with
 | true=>exact part_agg l ha hz w
 | false =>
  have hs:c.sz=1:=by simpa using h1
  obtain ⟨u,hu⟩:∃ u,c.cs y=[u]:=by
   have:=c.len y;rw [hs] at this
   exact List.length_eq_one_iff.1 this
  have:=part_scalar (P:=P) (t:=t) (v:=u) l ha hu w
  rw [this,hu];rfl
theorem eqs_vec[DecidableEq α]{t e:TypeId}{c:Cd α}{m k:Nat}{hm:0<m}{agg:Bool}{i:TypeInfo}(ht:P.underlying t=some (.array m e))(hi:P.info? e=some i)(hz:∀ w,(sizeOf e).run P w=.ok c.sz w)(ha:∀ w,(isAgg e).run P w=.ok agg w)(h1:agg=true∨c.sz=1)(h:Eqs P e c agg k) :
  Eqs P t (cVec c m hm) true (k+1):=fun d hd x y w=>by
 obtain ⟨d,rfl⟩:∃ d',d=d'+1:=⟨d-1,by omega⟩
 have hcz:P.cellsOf e=c.sz:=by
  have a:=run_sizeOf (P:=P) w hi
  have b:=hz w
  rw [a] at b
  simpa using b
 have hpart:∀ (v:Vector α m) (j:Nat) (hj:j<m) (w:World),(part e (c.all v.toList).toArray (j*c.sz)).run P w=.ok (vOf agg (c.cs v[j])) w:=by
  intro v j hj w
  have l:=@Lens.all α ⟨v[j]⟩ c v.toList j (by simp;exact hj)
  have hv:v.toList.getD j (@default α ⟨v[j]⟩)=v[j]:=by simp [List.getD_eq_getElem?_getD,hj]
  rw [hv] at l
  exact part_vOf l ha hz h1 w
 have key:∀ (is:List Nat),(∀ j∈is,j<m)→∀ w,(Op.eqItems (d+1) e c.sz (c.all x.toList).toArray (c.all y.toList).toArray is).run P w=.ok (decide (∀ j∈is,x[j]? = y[j]?)) w:=by
  intro is
  induction is with
  | nil=>intro _ w;simp [Op.eqItems]
  | cons j is ih =>
   intro hlt w
   have hj:j<m:=hlt j (List.mem_cons_self ..)
   have ih':=ih (fun k hk=>hlt k (List.mem_cons_of_mem _ hk)) w
   unfold Op.eqItems
   simp only [Sem.run_bind,hpart x j hj,hpart y j hj,Result.andThen_ok,h d (by omega)]
   by_cases hxy:x[j]=y[j]
   ·simp only [hxy,decide_true,Bool.not_true,Bool.false_eq_true,if_false,ih']
    congr 1
    rw [decide_eq_decide]
    simp [hj,hxy]
   ·have:¬ ∀ k∈j::is,x[k]? = y[k]?:=fun hh=>hxy (by have:=hh j (List.mem_cons_self ..);simpa [hj] using this)
    simp [hxy,this,hj]
 show (Op.equalIn (d+1+1) t (.agg (c.all x.toList).toArray) (.agg (c.all y.toList).toArray)).run P w=_
 rw [run_equalIn_array w (d+1) _ _ ht hi,hcz,key _ (fun j hj=>List.mem_range.1 hj) w]
 congr 1
 rw [decide_eq_decide]
 constructor
 ·intro hh
  apply Vector.ext
  intro j hj
  have:=hh j (List.mem_range.2 hj)
  simpa [hj] using this
 ·rintro rfl;simp
theorem eqf_nil{d:Nat}{xs ys:Array Value}{w:World}:(Op.eqFields d xs ys []).run P w=.ok true w:=rfl
theorem eqf_cons[DecidableEq β]{f : Field}{fs : List Field}{d k o : Nat}{agg q : Bool}{c : Cd β}{cx cy : List Value}{a b : β}{px py : β → List Value}{w : World}(lx : Lens cx o c a px)(ly : Lens cy o c b py)(hn : (f.name == "_") = false)(ho : f.offset = o)
  (ha:∀ w,(isAgg f.type).run P w=.ok agg w) (hz:∀ w,(sizeOf f.type).run P w=.ok c.sz w) (h1:agg=true∨c.sz=1) (he:Eqs P f.type c agg k) (hd:k≤d) (hr:(Op.eqFields (d+1) cx.toArray cy.toArray fs).run P w=.ok q w) :
  (Op.eqFields (d+1) cx.toArray cy.toArray (f::fs)).run P w=.ok (decide (a=b)&&q) w:=by
 have hn' : f.name ≠ "_" := by simpa using hn
 subst ho
 unfold Op.eqFields
 simp only [if_pos hn',Sem.run_bind,part_vOf lx ha hz h1,part_vOf ly ha hz h1,Result.andThen_ok,he d hd]
 by_cases hab:a=b
 ·simp [hab,hr]
 ·simp [hab]
theorem r_eqagg[DecidableEq α]{op:BinOp}{xt yt:TypeId}{x y:Operand}{c:Cd α}{a b:α}{k d:Nat}{ty:TypeId}{pos:String}{aft:Array Edge}{v:Value}(he:Eqs P xt c true k)(hk:Nat.ble k 9999=true)(hm:P.eqGuardType P.depth xt=false)(hx:ev L x=some (.agg (c.cs a).toArray))(hy:ev L y=some (.agg (c.cs b).toArray))
  (ho:op=.eql∨op=.neq) (hv:(match op with | .eql=>Value.bool (decide (a=b)) | _=>.bool (!decide (a=b)))=v) :
  Runs n L W P ⟨some d,.binOp op xt x y yt,ty,pos,aft,none⟩ v:=fun ac w h _=>by
 subst hv
 have h1:(Op.equal xt (.agg (c.cs a).toArray) (.agg (c.cs b).toArray)).run P w=.ok (decide (a=b)) w:=he 9999 (by simpa using hk) a b w
 simp only [execOp,h.eval hx,h.eval hy,Sem.run_bind,run_eqGuard_agg w op xt x y _ _ hm,Result.andThen_ok]
 rcases ho with rfl | rfl<;>simp only [binOp,Sem.run_bind,h1,Result.andThen_ok]<;>rfl
def resv(tmps:Array Value):ResultVar→Sem Value
 | .tmp t=>pure (tmps.getD t undef)
 | .cell a t=>do loadVar t (←asAddr (tmps.getD a undef))
def ResOne(n:Nat)(L:List (Nat×Value))(W:World→Prop)(P:Program)(r:ResultVar)(v:Value):Prop:=∀ a w,Env n L a→W w→(resv a.tmps r).run P w=.ok v w
theorem res_tmp{t:Nat}{v:Value}(h:lk L t=some v):ResOne n L W P (.tmp t) v:=fun a w he _=>by
 simp [resv,he.vals t v h]
theorem res_cell{q t b:Nat}{cells:List Value}{tb:Nat}{c:Cd β}{y:β}{put:β→List Value}{f:Ent→List Ent}{G:List Ent}(hq:lk L q=some (.pointer (some ⟨b,0,none⟩)))(hu:Upd H (cellsE b cells tb) f G)(l:Lens cells 0 c y put){agg:Bool}
  (ha:∀ w,(isAgg t).run P w=.ok agg w) (hz:∀ w,(sizeOf t).run P w=.ok c.sz w) (h1:agg=true∨c.sz=1):ResOne n L (Wd w0 H) P (.cell q t) (vOf agg (c.cs y)):=fun a w he hw=>by
 have hc:=lens_cell hu l w hw
 simp only [resv,he.vals q _ hq]
 cases agg with
 | true =>
  have:=run_loadCells_list (P:=P) (w:=w) ⟨b,0,none⟩ (c.cs y) (fun j v hv=>by rw [Addr.add_lit];exact hc j v hv)
  rw [c.len] at this
  simp [loadVar,ha,hz,this,vOf,asAddr]
 | false =>
  have hs:c.sz=1:=by simpa using h1
  obtain ⟨u,hu⟩:∃ u,c.cs y=[u]:=by
   have:=c.len y;rw [hs] at this
   exact List.length_eq_one_iff.1 this
  have h0:=hc 0 u (by rw [hu];rfl)
  simp only [Nat.add_zero] at h0
  simp [loadVar,ha,load,Sem.run,h0,vOf,asAddr,hu]
theorem at_res1{fn:Func}{R:Ending→World→Prop}{r:ResultVar}{v:Value}(hr:fn.results=#[r])(h:ResOne n L W P r v)(hR:∀ w,W w→R (.returned v) w):At n L W (bodyPost P fn R .ret):=fun a w he hw=>by
 refine ⟨he.defs,v,?_,hR w hw⟩
 have:=h a w he hw
 show (do let vs ← fn.results.mapM (resv a.tmps);pure (if h:vs.size=1 then vs[0] else .tuple vs):Sem Value).run P w=_
 rw [hr];simp [this]
theorem at_res2{fn:Func}{R:Ending→World→Prop}{r s:ResultVar}{v u:Value}(hr:fn.results=#[r,s])(h:ResOne n L W P r v)(h2:ResOne n L W P s u)(hR:∀ w,W w→R (.returned (.tuple #[v,u])) w):At n L W (bodyPost P fn R .ret):=fun a w he hw=>by
 refine ⟨he.defs,_,?_,hR w hw⟩
 have:=h a w he hw
 have:=h2 a w he hw
 show (do let vs ← fn.results.mapM (resv a.tmps);pure (if h:vs.size=1 then vs[0] else .tuple vs):Sem Value).run P w=_
 rw [hr];simp [*]
theorem vec_row{c:Cd α}{m b t:Nat}{hm:0<m}{v:Vector α m}{w:World}(h:(cellsE b ((cVec c m hm).cs v) t).ok w):Row c w (some ⟨b,0,none⟩) m v.toList:=by
 have:=cells_row (c:=c) (ys:=v.toList) h
 simpa using this
theorem r_slice_arr{b m sz d:Nat}{t e:TypeId}{x:Operand}{ty:TypeId}{pos:String}{aft:Array Edge}(ht:P.underlying t=some (.array m e))(hz:∀ w,(sizeOf e).run P w=.ok sz w)(hx:ev L x=some (.pointer (some ⟨b,0,none⟩))) :
  Runs n L W P (⟨some d,.slice t x none none none,ty,pos,aft,none⟩) (.slice (some ⟨b,0,none⟩) m m):=fun a w h _=>by
 simp only [execOp,h.eval hx]
 by_cases h0:m=0
 ·subst h0;simp [Instr.sliceAt,Instr.sureAddr,Instr.sliceBounds,run_underlying ht,hz]
 ·simp [Instr.sliceAt,Instr.sureAddr,Instr.sliceBounds,run_underlying ht,hz,h0,Addr.add]
def lvec[Inhabited α](m:Nat)(xs:List α):Vector α m:=Vector.ofFn fun i=>xs.getD i.1 default
theorem lvec_toList[Inhabited α](m:Nat)(xs:List α)(h:m≤xs.length):(lvec m xs).toList=xs.take m:=by
 apply List.ext_getElem?
 intro i
 by_cases hi:i<m
 ·rw [List.getElem?_take,if_pos hi,List.getElem?_eq_getElem (by simp;exact hi),List.getElem?_eq_getElem (by omega)]
  simp [lvec,List.getD_eq_getElem?_getD,List.getElem?_eq_getElem (show i<xs.length by omega)]
 ·rw [List.getElem?_take,if_neg hi,List.getElem?_eq_none (by simp;omega)]
theorem r_arrptr{d m:Nat}{t e:TypeId}{x:Operand}{p:Option Addr}{len cap:Nat}{ty:TypeId}{pos:String}{aft:Array Edge}(ht:P.underlying t=some (.array m e))(hx:ev L x=some (.slice p len cap))(hl:m≤len) :
  Runs n L W P (⟨some d,.sliceToArrayPointer t x,ty,pos,aft,none⟩) (.pointer p):=fun a w h _=>by
 have hl':¬ len<m:=by omega
 simp only [execOp,h.eval hx]
 simp [Instr.arrayAt,run_underlying ht,hl']
theorem row_lvec[Inhabited α]{c:Cd α}{p:Option Addr}{cap m b o:Nat}{hm:0<m}{xs:List α}{w:World}(h:Row c w p cap xs)(hl:m≤xs.length)(hp:p=some ⟨b,o,none⟩):∀ j v,((cVec c m hm).cs (lvec m xs))[j]? = some v→w.cell? ⟨b,o+j,none⟩=some v:=fun j v hv=>by
 rcases h.2 with h0 | ⟨b',o',hp',hc⟩
 ·subst h0;simp at hl;omega
 ·rw [hp] at hp';cases hp'
  refine hc j v ?_
  have:c.all xs=c.all (xs.take m)++c.all (xs.drop m):=by rw [←c.all_append,List.take_append_drop]
  have hv':(c.all (xs.take m))[j]? = some v:=by rw [←lvec_toList m xs hl];exact hv
  rw [this,List.getElem?_append_left (List.getElem?_eq_some_iff.1 hv').1]
  exact hv'
theorem r_slice_vec{b m sz d:Nat}{t e:TypeId}{x:Operand}{ty:TypeId}{pos:String}{aft:Array Edge}(v:Vector α m)(ht:P.underlying t=some (.array m e))(hz:∀ w,(sizeOf e).run P w=.ok sz w)(hx:ev L x=some (.pointer (some ⟨b,0,none⟩))) :
  Runs n L W P (⟨some d,.slice t x none none none,ty,pos,aft,none⟩) (.slice (some ⟨b,0,none⟩) v.toList.length m):=by
 rw [Vector.length_toList];exact r_slice_arr ht hz hx
theorem run_eq_struct{d:Nat}{t:TypeId}{fs:Array Field}{xs ys:Array Value}{w:World}(ht:P.underlying t=some (.struct fs))(hp:P.stoodInHeld t=false) :
  (Op.equalIn (d+1) t (.agg xs) (.agg ys)).run P w=(Op.eqFields d xs ys fs.toList).run P w:=by
 have hf:P.fieldsOf t=fs:=by simp [Program.fieldsOf,ht]
 rw [run_equalIn_struct w d t xs ys (by rw [hf];exact ht) hp,hf]
def unb(xs:List Int):List UInt8:=xs.map fun x=>x.toNat.toUInt8
theorem bytesOf_row{p:Option Addr}{cap:Nat}{xs:List Int}{w:World}(h:Row (cInt .u8) w p cap xs):(Extern.Bytes.bytesOf (.slice p xs.length cap)).run P w=.ok ⟨(unb xs).toArray⟩ w:=by
 rcases h.2 with h0 | ⟨b,o,hp,hc⟩
 ·subst h0;cases p<;>rfl
 ·subst hp
  have:=Lib.run_loadBytesX (P:=P) (w:=w) xs ⟨b,o,none⟩ .empty (fun j x hx=>by
   rw [Addr.add_lit]
   have:=Cd.all_get (cInt .u8) xs j 0 x hx (by decide)
   refine hc j _ ?_
   have e:j*(cInt IntKind.u8).sz+0=j:=by show j*1+0=j;omega
   rw [e] at this
   rw [this];rfl)
  show (Extern.Bytes.loadBytes _ _ _).run P w=_
  rw [this]
  simp [unb,Lib.bytesOf]
theorem r_cmp{d : Nat}{f : FuncId}{fn : Func}{x y : Operand}{ats : Array TypeId}{ty : TypeId}{pos : String}{aft : Array Edge}{p q : Option Addr}{pc qc : Nat}{xs ys : List Int}(hf : P.funcs[f]? = some fn)(hnm : (fn.name == "runtime.NumGoroutine") = false)(hb : fn.body.isNone = true)
  (hn:Extern.findNext fn=none) (he:Extern.find fn=some Extern.BytealgCompare.compare) (hx:ev L x=some (.slice p xs.length pc)) (hy:ev L y=some (.slice q ys.length qc))
  (h1:∀ w,W w→Row (cInt .u8) w p pc xs) (h2:∀ w,W w→Row (cInt .u8) w q qc ys) :
  Runs n L W P (⟨some d,.call { callee:=.value (.func f),args:=#[x,y],argTypes:=ats },ty,pos,aft,none⟩) (.int .i64 (Lib.compareBytes (unb xs) (unb ys))):=fun a w h hw=>by
 rw [execOp_call_go]
 have h3:=bytesOf_row (P:=P) (h1 w hw)
 have h4:=bytesOf_row (P:=P) (h2 w hw)
 have:=run_callFunc_extern (P:=P) hf hnm hb hn he #[.slice p xs.length pc,.slice q ys.length qc] w
 have e1:(#[]++Array.map a.eval #[x,y]++#[]:Array Value)=#[.slice p xs.length pc,.slice q ys.length qc]:=by simp [h.eval hx,h.eval hy]
 rw [e1,this]
 show (Sem.run P (do pure (goInt (Extern.BytealgCompare.cmp (←Extern.Bytes.bytesOf (.slice p xs.length pc)) (←Extern.Bytes.bytesOf (.slice q ys.length qc))))) w).andThen _=_
 simp only [Sem.run_bind,h3,h4,Result.andThen_ok,Sem.run_pure,Lib.cmp_eq]
 rfl
theorem row_lens{α β:Type}[Inhabited α]{w0:World}{W:World→Prop}{c:Cd α}{c':Cd β}{y:β}{put:β→List Value}{ofs:Nat}{p:Option Addr}{cap:Nat}{xs:List α}{i:Int}{b o:Nat}(hW:∀ w,W w→Below w0.heap.size w0 w)(hrow:Row c w0 p cap xs)(hi:0≤i∧i<xs.length)(hp:p=some ⟨b,o,none⟩)
  (l:Lens (c.cs (lget xs i)) ofs c' y put):∀ w,W w→∀ j v,(c'.cs y)[j]? = some v→w.cell? ⟨b,o+i.toNat*c.sz+ofs+j,none⟩=some v:=fun w hw j v hv=>by
 rw [Nat.add_assoc (o+i.toNat*c.sz)]
 exact row_cell hW hrow hi hp w hw (ofs+j) v (l.get j v hv)
theorem row_lens0{α β:Type}[Inhabited α]{w0:World}{W:World→Prop}{c:Cd α}{c':Cd β}{y:β}{v:Value}{put:β→List Value}{ofs:Nat}{p:Option Addr}{cap:Nat}{xs:List α}{i:Int}{b o:Nat}(hW:∀ w,W w→Below w0.heap.size w0 w)(hrow:Row c w0 p cap xs)(hi:0≤i∧i<xs.length)(hp:p=some ⟨b,o,none⟩)
  (l:Lens (c.cs (lget xs i)) ofs c' y put) (hv:c'.cs y=[v]):∀ w,W w→w.cell? ⟨b,o+i.toNat*c.sz+ofs,none⟩=some v:=fun w hw=>row_lens hW hrow hi hp l w hw 0 v (by rw [hv];rfl)
end Go.Proofs.YtahlbjmafceoeaaGreatDoor.E
namespace Go.Proofs.YtahlbjmafceoeaaGreatDoor.E
open Go.RowKit
variable {α β : Type} {P : Program}
theorem mapM_some{α β:Type}{f:α→Option β}:∀ {l:List α} {ys:List β},l.mapM f=some ys→∀ a∈l,∃ y,f a=some y
 | [],_,_,a,ha=>by simp at ha
 | b::l,ys,h,a,ha=>by
  rw [List.mapM_cons] at h
  cases hb:f b with
  | none=>rw [hb] at h;cases h
  | some y =>
   rw [hb] at h
   cases hl:l.mapM f with
   | none=>rw [hl] at h;cases h
   | some zs =>
    rcases List.mem_cons.1 ha with rfl | ha
    ·exact ⟨y,hb⟩
    ·exact mapM_some hl a ha
def Opn(P:Program)(t:TypeId)(c:Cd α)(ok:α→Prop):Prop :=
 ∀ {H:Type} (enc:TypeId×Value→H) (w:World) (base:Nat) (spare:Nat→Bool) (held:Bool) (fuel:Nat) (cs:List Value) (d:DataW H) (ps:List MemPlace),
  DataW.trod enc P w base spare held fuel t cs=some (d,ps)→∃ x,cs=c.cs x∧ok x
theorem opn_int{t:TypeId}{k:IntKind}(ht:P.underlying t=some (.int k)):Opn P t (cInt k) (fun n=>(Lit.int k n).wf=true):=fun enc w base spare held fuel cs d ps h=>by
 obtain ⟨n,h1,_,hw⟩:=DataW.trod_int ht h
 exact ⟨n,h1,hw⟩
theorem chunks{c:Cd α}{ok:α→Prop}:∀ (n:Nat) (cs:List Value),cs.length=n*c.sz→(∀ i,i<n→∃ x,(cs.drop (i*c.sz)).take c.sz=c.cs x∧ok x)→∃ xs:List α,xs.length=n∧cs=c.all xs∧∀ x∈xs,ok x
 | 0,cs,hl,_=>⟨[],rfl,by rw [Nat.zero_mul] at hl;exact List.eq_nil_of_length_eq_zero hl,by simp⟩
 | n+1,cs,hl,h=>by
  obtain ⟨x,hx,ox⟩:=h 0 (by omega)
  rw [Nat.zero_mul,List.drop_zero] at hx
  rw [Nat.add_mul,Nat.one_mul] at hl
  obtain ⟨xs,h1,h2,h3⟩:=chunks (c:=c) (ok:=ok) n (cs.drop c.sz) (by rw [List.length_drop];omega) (fun i hi=>by
   have:=h (i+1) (by omega)
   rw [List.drop_drop]
   rw [Nat.add_mul,Nat.one_mul,Nat.add_comm] at this
   exact this)
  refine ⟨x::xs,by simp [h1],?_,fun y hy=>?_⟩
  ·rw [Cd.all_cons,←hx,←h2,List.take_append_drop]
  ·rcases List.mem_cons.1 hy with rfl | hy
   ·exact ox
   ·exact h3 y hy
theorem opn_vec{t e:TypeId}{c:Cd α}{ok:α→Prop}{m:Nat}{hm:0<m}(ht:P.underlying t=some (.array m e))(hz:P.cellsOf e=c.sz)(hzt:P.cellsOf t=m*c.sz)(h:Opn P e c ok):Opn P t (cVec c m hm) (fun v=>∀ x∈v.toList,ok x):=fun enc w base spare held fuel cs d ps hd=>by
 cases fuel with
 | zero=>simp [DataW.trod] at hd
 | succ fuel =>
  unfold DataW.trod at hd
  rw [ht] at hd
  simp only at hd
  split at hd
  ·next hlen =>
   obtain ⟨zs,hzs,_⟩:=Option.map_eq_some_iff.1 hd
   obtain ⟨xs,h1,h2,h3⟩:=chunks (c:=c) (ok:=ok) m cs (by rw [hlen,hzt]) (fun i hi=>by
    obtain ⟨⟨d',p'⟩,hy⟩:=mapM_some hzs i (List.mem_range.2 hi)
    rw [hz] at hy
    exact h enc w base spare held fuel _ _ _ hy)
   refine ⟨⟨xs.toArray,by simpa using h1⟩,?_,?_⟩
   ·show cs=c.all (Vector.toList ⟨xs.toArray,_⟩);rw [h2];simp [Vector.toList]
   ·intro x hx;exact h3 x (by simpa [Vector.toList] using hx)
  ·cases hd
theorem open_aggc{H:Type}{enc:TypeId×Value→H}{w:World}{base:Nat}{spare:Nat→Bool}{held:Bool}{t:TypeId}{c:Cd α}{ok:α→Prop}{v:Value}{d:DataW H}{ps:List MemPlace}(h:Opn P t c ok)(hv:∃ cs,v=.agg cs)(hd:DataW.Trod enc P w base spare held t v d ps) :
  ∃ x,v=.agg (c.cs x).toArray∧ok x:=by
 obtain ⟨cs,rfl⟩:=hv
 obtain ⟨fuel,hf⟩:=hd
 obtain ⟨x,hx,ho⟩:=h enc w base spare held fuel _ _ _ hf
 refine ⟨x,?_,ho⟩
 congr 1
 apply Array.toList_inj.1
 exact hx
theorem okWide_str{w:World}{r:Reach}{base:Nat}{t:TypeId}{fs:Array Field}{v:Value}(ht:P.underlying t=some (.struct fs))(h:Value.okWide P w r base t v):∃ cs,v=.agg cs:=by
 unfold Value.okWide at h
 rw [ht] at h
 obtain ⟨cs,hv,_⟩:=h
 exact ⟨cs,hv⟩
theorem opn_fields{H:Type}{enc:TypeId×Value→H}{w:World}{base:Nat}{spare:Nat→Bool}{held:Bool}{fuel:Nat}{t:TypeId}{fs:Array Field}{cs:List Value}{d:DataW H}{ps:List MemPlace}(ht:P.underlying t=some (.struct fs))(h:DataW.trod enc P w base spare held (fuel+1) t cs=some (d,ps)) :
  cs.length=P.cellsOf t∧∀ (j:Nat) (f:Field),fs[j]? = some f→∃ d' p',DataW.trod enc P w base spare held fuel f.type ((cs.drop f.offset).take (P.cellsOf f.type))=some (d',p'):=by
 unfold DataW.trod at h
 rw [ht] at h
 simp only at h
 split at h
 ·next hlen =>
  obtain ⟨zs,hzs,_⟩:=Option.map_eq_some_iff.1 h
  refine ⟨hlen,fun j f hf=>?_⟩
  obtain ⟨⟨d',p'⟩,hy⟩:=mapM_some hzs f (by
   rw [←Array.getElem?_toList] at hf
   exact List.mem_of_getElem? hf)
  exact ⟨d',p',hy⟩
 ·cases h
theorem opn_zero{H:Type}{enc:TypeId×Value→H}{w:World}{base:Nat}{spare:Nat→Bool}{held:Bool}{t:TypeId}{cs:List Value}{d:DataW H}{ps:List MemPlace}(h:DataW.trod enc P w base spare held 0 t cs=some (d,ps)):False:=by
 simp [DataW.trod] at h
theorem split_nil{l:List Value}{o:Nat}(h:l.length≤o):l.drop o=[]:=List.drop_eq_nil_of_le h
theorem split_cons{l r:List Value}{o k:Nat}(h:l.drop (o+k)=r):l.drop o=(l.drop o).take k++r:=by
 rw [←h,←List.drop_drop,List.take_append_drop]
theorem pick_list[Inhabited α]{φ:Nat→α→Prop}:∀ (n:Nat),(∀ i,i<n→∃ x,φ i x)→∃ xs:List α,xs.length=n∧∀ i x,xs[i]? = some x→φ i x
 | 0,_=>⟨[],rfl,fun i x h=>by simp at h⟩
 | n+1,h=>by
  obtain ⟨xs,h1,h2⟩:=pick_list n fun i hi=>h i (by omega)
  obtain ⟨x,hx⟩:=h n (by omega)
  refine ⟨xs++[x],by simp [h1],fun i y hy=>?_⟩
  by_cases hi:i<xs.length
  ·rw [List.getElem?_append_left hi] at hy;exact h2 i y hy
  ·rw [List.getElem?_append_right (by omega)] at hy
   have:i-xs.length=0:=by
    cases hq:i-xs.length with
    | zero=>rfl
    | succ k=>rw [hq] at hy;simp at hy
   rw [this] at hy
   simp at hy;subst hy
   have hin:i=n:=by omega
   subst hin;exact hx
end Go.Proofs.YtahlbjmafceoeaaGreatDoor.E
namespace Go.Proofs.YtahlbjmafceoeaaGreatDoor.E
open Go.RowKit
variable {n : Nat} {L L' : List (Nat × Value)} {a : Act} {W : World → Prop} {P : Program} {ops : Array Oper} {Q : Exit → Act → World → Prop} {rest : List Oper} {w0 : World} {H : List Ent}
section
variable {d : Nat} {ty : TypeId} {pos : String} {aft : Array Edge} {t e : TypeId}
theorem var_on{P:Program}{w w':World}{name:String}{cs:Array Value}(h:w.var? P name=some cs)(hb:Below w.heap.size w w'):w'.var? P name=some cs:=by
 unfold World.var? at *
 cases hg:P.globalNamed name with
 | none=>simp [hg] at h
 | some g =>
  simp only [hg,Option.bind_some] at h ⊢
  have hlt:g<w.heap.size:=by
   rcases Nat.lt_or_ge g w.heap.size with h' | h'
   ·exact h'
   ·rw [Array.getElem?_eq_none h'] at h;simp at h
  rw [hb.block g hlt];exact h
def Gv{α:Type}(P:Program)(w:World)(name:String)(c:Cd α)(x:α):Prop:=w.var? P name=some (c.cs x).toArray
theorem Gv.on{α:Type}{P:Program}{w w':World}{name:String}{c:Cd α}{x:α}(h:Gv P w name c x)(hb:Below w.heap.size w w'):Gv P w' name c x:=var_on h hb
theorem Gv.cell{α:Type}{P:Program}{w:World}{name:String}{g:Nat}{c:Cd α}{x:α}(hg:P.globalNamed name=some g)(h:Gv P w name c x)(k:Nat)(v:Value)(hv:(c.cs x)[k]? = some v):w.cell? ⟨g,k,none⟩=some v:=by
 rw [World.var?_cell hg h k];simpa using hv
theorem glob_cell{α β:Type}{name:String}{g o:Nat}{c:Cd α}{x:α}{c':Cd β}{y:β}{put:β→List Value}(hW:∀ w,W w→Below w0.heap.size w0 w)(h:Gv P w0 name c x)(hg:P.globalNamed name=some g)
  (l:Lens (c.cs x) o c' y put):∀ k v,(c'.cs y)[k]? = some v→∀ w,W w→w.cell? ⟨g,o+k,none⟩=some v:=fun k v hv w hw =>
 (h.on (hW w hw)).cell hg _ _ (l.get k v hv)
theorem glob_cell0{α β:Type}{name:String}{g o:Nat}{c:Cd α}{x:α}{c':Cd β}{y:β}{put:β→List Value}{v:Value}(hW:∀ w,W w→Below w0.heap.size w0 w)(h:Gv P w0 name c x)(hg:P.globalNamed name=some g)
  (l:Lens (c.cs x) o c' y put) (hv:c'.cs y=[v]):∀ w,W w→w.cell? ⟨g,o,none⟩=some v:=glob_cell hW h hg l 0 v (by simp [hv])
end
def fmtU(n:Int):ByteArray:=⟨(Lib.decDigits n.toNat).toArray⟩
def Reads(P:Program)(w:World)(n:String)(d:DataW Unit):Prop :=
 ∃ g t cs k q,P.globalNamed n=some g∧(P.globals[g]?).map (·.type)=some t∧w.var? P n=some cs∧DataW.trod (fun _=>()) P w 0 (fun _=>true) false k t cs.toList=some (d,q)
theorem reads_mem{P:Program}{w:World}:∀ {l:List (String×DataW Unit)} {ps:List MemPlace},DataW.LaidVars P w l ps→∀ {n d},(n,d)∈l→Reads P w n d
 | [],_,_,_,_,hm=>by cases hm
 | (_,_)::_,_,⟨g,t,cs,k,q,_,h1,h2,h3,h4,h5,_⟩,_,_,hm=>by
  cases hm with
  | head=>exact ⟨g,t,cs,k,q,h1,h2,h3,h4⟩
  | tail _ hm=>exact reads_mem h5 hm
theorem reads_of{P:Program}{w:World}{l:List (String×DataW Unit)}(h:laidMet P l w){n:String}{d:DataW Unit}(hm:(n,d)∈l):Reads P w n d :=
 let ⟨_,hv,_⟩:=h
 reads_mem hv hm
section
variable {Hh : Type} {enc : TypeId × Value → Hh} {w : World} {base : Nat} {sp : Nat → Bool} {held : Bool} {fuel : Nat} {t e : TypeId} {m : Nat} {cs : List Value} {p : List MemPlace}
theorem cells_of_strs{zs:List ByteArray}(ht:P.underlying t=some (.array m e))(he:P.underlying e=some .string)(hce:P.cellsOf e=1)(hct:P.cellsOf t=m)
  (h:DataW.trod enc P w base sp held fuel t cs=some (.agg (zs.map fun s=>.lit (.string s.data.toList)),p)):cs=zs.map Value.string:=by
 cases fuel with
 | zero=>simp [DataW.trod] at h
 | succ fuel =>
  simp only [DataW.trod,ht,hce,hct,Nat.mul_one] at h
  split at h
  ·rename_i hl
   obtain ⟨xs,hm,hx⟩:=Option.map_eq_some_iff.1 h
   have hxs:xs.map (·.1)=zs.map fun s=>(DataW.lit (.string s.data.toList):DataW Hh):=by
    have:=congrArg Prod.fst hx
    simpa using this
   have hxl:xs.length=m:=by simpa using Lib.mapM_length hm
   have hzl:zs.length=m:=by
    have:=congrArg List.length hxs
    simp at this
    omega
   apply List.ext_getElem?
   intro i
   by_cases hi:i<m
   ·obtain ⟨b,hb,hf⟩:=Lib.mapM_at hm i i (by simp [hi])
    obtain ⟨z,hc,rfl,_⟩:=DataW.trod_string he hf
    have h1:cs[i]? = some (.string z):=by
     have:=congrArg (·[0]?) hc
     simpa [List.getElem?_take,List.getElem?_drop] using this
    have h2:(xs.map (·.1))[i]? = some (DataW.lit (.string z.data.toList):DataW Hh):=by simp [hb]
    rw [hxs] at h2
    simp only [List.getElem?_map,Option.map_eq_some_iff,DataW.lit.injEq,Lit.string.injEq] at h2
    obtain ⟨z',hz',he'⟩:=h2
    have:z'=z:=by
     cases z' with | mk a=>cases z with | mk b=>simp at he';subst he';rfl
    subst this
    simp [h1,hz']
   ·rw [List.getElem?_eq_none (by omega),List.getElem?_eq_none (by simp;omega)]
  ·cases h
theorem gv_of_strs{name:String}{g:Nat}{zs:Vector ByteArray m}{hm:0<m}(hg:P.globalNamed name=some g)(hty:(P.globals[g]?).map (·.type)=some t)(ht:P.underlying t=some (.array m e))(he:P.underlying e=some .string)(hce:P.cellsOf e=1)(hct:P.cellsOf t=m)
  (h:Reads P w name (.agg (zs.toList.map fun s=>.lit (.string s.data.toList)))):Gv P w name (cVec cStr m hm) zs:=by
 obtain ⟨g',t',cs,fuel,p,hg',hty',hvar,hd⟩:=h
 obtain rfl:=Option.some.inj (hg.symm.trans hg')
 obtain rfl:=Option.some.inj (hty.symm.trans hty')
 have hcs:=cells_of_strs ht he hce hct hd
 show w.var? P name=some ((cStr.all zs.toList)).toArray
 rw [hvar]
 congr 1
 refine Array.toList_inj.1 ?_
 rw [hcs]
 show zs.toList.map Value.string=zs.toList.flatMap fun s=>[.string s]
 rw [List.map_eq_flatMap]
theorem tab_of_reads{name:String}{g:Nat}{k:IntKind}{zs:List Int}(hg:P.globalNamed name=some g)(hty:(P.globals[g]?).map (·.type)=some t)(ht:P.underlying t=some (.array m e))(he:P.underlying e=some (.int k))(hce:P.cellsOf e=1)(hct:P.cellsOf t=m)
  (h:Reads P w name (Lib.tabData k zs)):Lib.TabIs P w name k zs:=by
 obtain ⟨g',t',cs,fuel,p,hg',hty',hvar,hd⟩:=h
 obtain rfl:=Option.some.inj (hg.symm.trans hg')
 obtain rfl:=Option.some.inj (hty.symm.trans hty')
 unfold Lib.TabIs
 rw [hvar,←Lib.cells_of_tab ht he hce hct hd]
end
end Go.Proofs.YtahlbjmafceoeaaGreatDoor.E
namespace Go.Proofs.YtahlbjmafceoeaaGreatDoor.E
open Go.RowKit
variable {n : Nat} {L L' : List (Nat × Value)} {a : Act} {W : World → Prop} {P : Program} {ops : Array Oper} {Q : Exit → Act → World → Prop} {rest : List Oper} {w0 : World} {H : List Ent}
variable {α β : Type} {d : Nat} {ty : TypeId} {pos : String} {aft : Array Edge} {t e : TypeId}
theorem vbnd{m:Nat}{v:Vector α m}{l h:Int}(hb:0≤l∧l≤h∧h≤(m:Int)):0≤l∧l≤h∧h≤(v.toList.length:Int):=by
 rw [Vector.length_toList];exact hb
theorem rsp_eq{a:Addr}{cap sz:Nat}{l:Int}:rsp (some a) cap l sz=some (if cap=l.toNat then a else a.add (l.toNat*sz)):=by
 unfold rsp;split<;>rfl
theorem r_view{b o m:Nat}{c:Cd α}{x:Operand}{lo hi:Option Operand}{v:Vector α m}{l h:Int}(ht:P.underlying t=some (.array m e))(hz:∀ w,(sizeOf e).run P w=.ok c.sz w)(hx:ev L x=some (.pointer (some ⟨b,o,none⟩)))
  (hlo:match lo with | none=>l=0 | some y=>∃ k,ev L y=some (.int k l)) (hhi:match hi with | none=>h=(m:Int) | some y=>∃ k,ev L y=some (.int k h)) (hb:0≤l∧l≤h∧h≤(m:Int)) :
  Runs n L W P (⟨some d,.slice t x lo hi none,ty,pos,aft,none⟩) (.slice (rsp (some ⟨b,o,none⟩) m l c.sz) (lsub v.toList l h).length (m-l.toNat)):=fun a w he _=>by
 have hlen:=lsub_length (xs:=v.toList) (l:=l) (h:=h) (vbnd hb)
 obtain ⟨h1,h2,h3⟩:=hb
 have h0:0≤h:=by omega
 have h5:l≤(m:Int):=by omega
 have e1:(h.toNat:Int)=h:=Int.toNat_of_nonneg h0
 rw [hlen,rsp_eq]
 simp only [execOp,he.eval hx]
 cases lo<;>cases hi<;>simp only at hlo hhi
 ·subst hlo hhi
  simp [Instr.sliceAt,Instr.sureAddr,Instr.sliceBounds,run_underlying ht,hz]
 ·obtain ⟨k,hk⟩:=hhi
  subst hlo
  simp [Instr.sliceAt,Instr.sureAddr,Instr.sliceBounds,Instr.sliceBound,asIntOf,run_underlying ht,hz,he.eval hk,h0,h3]
 ·obtain ⟨k,hk⟩:=hlo
  subst hhi
  simp [Instr.sliceAt,Instr.sureAddr,Instr.sliceBounds,Instr.sliceBound,asIntOf,run_underlying ht,hz,he.eval hk,h1,h2]
 ·obtain ⟨k,hk⟩:=hlo
  obtain ⟨k',hk'⟩:=hhi
  simp [Instr.sliceAt,Instr.sureAddr,Instr.sliceBounds,Instr.sliceBound,asIntOf,run_underlying ht,hz,he.eval hk,he.eval hk',h0,h1,h2,h3,e1]
theorem r_view_all{b o m:Nat}{c:Cd α}{x:Operand}(v:Vector α m)(hm:0<m)(ht:P.underlying t=some (.array m e))(hz:∀ w,(sizeOf e).run P w=.ok c.sz w)(hx:ev L x=some (.pointer (some ⟨b,o,none⟩))) :
  Runs n L W P (⟨some d,.slice t x none none none,ty,pos,aft,none⟩) (.slice (some ⟨b,o,none⟩) v.toList.length m):=fun a w he _=>by
 simp only [execOp,he.eval hx]
 have h0:m≠0:=by omega
 simp [Instr.sliceAt,Instr.sureAddr,Instr.sliceBounds,run_underlying ht,hz,h0,Addr.add]
theorem rsp_zero{b o m sz:Nat}(hm:0<m):(some ⟨b,o,none⟩:Option Addr)=rsp (some ⟨b,o,none⟩) m 0 sz:=by
 have:m≠0:=by omega
 simp [rsp,Addr.add_lit,this]
theorem lens_row{b tb o m:Nat}{cells:List Value}{c:Cd β}{hm:0<m}{v:Vector β m}{put:Vector β m→List Value}{f:Ent→List Ent}{G:List Ent}(hu:Upd H (cellsE b cells tb) f G)(l:Lens cells o (cVec c m hm) v put){w:World}(hw:Wd w0 H w) :
  Row c w (some ⟨b,o,none⟩) m v.toList :=
 ⟨by simp,.inr ⟨b,o,rfl,fun j u hj=>cells_get (hw.ok hu.mem) _ _ (l.get j u hj)⟩⟩
theorem Cd.all_take{c:Cd β}(h:c.sz=1):∀ (xs:List β) (k:Nat),c.all (xs.take k)=(c.all xs).take k
 | [],k=>by simp [Cd.all]
 | x::xs,0=>by simp [Cd.all]
 | x::xs,k+1=>by
  obtain ⟨v,hv⟩:=List.length_eq_one_iff.1 (show (c.cs x).length=1 by rw [c.len,h])
  rw [List.take_succ_cons,Cd.all_cons,Cd.all_cons,hv,Cd.all_take h xs k];rfl
theorem Cd.all_drop{c:Cd β}(h:c.sz=1):∀ (xs:List β) (k:Nat),c.all (xs.drop k)=(c.all xs).drop k
 | [],k=>by simp [Cd.all]
 | x::xs,0=>by simp
 | x::xs,k+1=>by
  obtain ⟨v,hv⟩:=List.length_eq_one_iff.1 (show (c.cs x).length=1 by rw [c.len,h])
  rw [List.drop_succ_cons,Cd.all_cons,hv,Cd.all_drop h xs k];rfl
theorem rsp_plain{b o cap sz:Nat}{l:Int}:∃ b' o',rsp (some ⟨b,o,none⟩) cap l sz=some ⟨b',o',none⟩:=by
 unfold rsp;split
 ·exact ⟨_,_,rfl⟩
 ·exact ⟨b,o+l.toNat*sz,by simp [Addr.add_lit]⟩
def vcopy[Inhabited α]{m:Nat}(v:Vector α m)(l:Nat)(xs:List α):Vector α m:=lvec m (v.toList.take l++xs++v.toList.drop (l+xs.length))
theorem vcopy_toList[Inhabited α]{m:Nat}(v:Vector α m)(l:Nat)(xs:List α)(h:l+xs.length≤m):(vcopy v l xs).toList=v.toList.take l++xs++v.toList.drop (l+xs.length):=by
 have hl:(v.toList.take l++xs++v.toList.drop (l+xs.length)).length=m:=by
  simp;omega
 unfold vcopy
 rw [lvec_toList m _ (by omega),List.take_of_length_le (by omega)]
theorem at_copy[Inhabited β]{b tb o m cap:Nat}{cells:List Value}{c:Cd β}{hm:0<m}{v:Vector β m}{put:Vector β m→List Value}{f:Ent→List Ent}{G:List Ent}{lo hi:Int}{xs:List β}{p:Option Addr}{x y:Operand}{dT sT:TypeId}{q:Option Addr}{dl dc:Nat}
  (hu:Upd H (cellsE b cells tb) f G) (l:Lens cells o (cVec c m hm) v put) (hc1:c.sz=1) (hlh:0≤lo∧lo≤hi∧hi≤(m:Int)) (hud:P.underlying dT=some (.slice e)) (hs:(P.info? e).map (·.size)=some 1)
  (hx:ev L x=some (.slice q dl dc)) (hq:q=rsp (some ⟨b,o,none⟩) m lo c.sz) (hdl:dl=hi.toNat-lo.toNat) (hy:ev L y=some (.slice p xs.length cap)) (hp:∃ a,p=some a) (hr:∀ w,Wd w0 H w→Row c w p cap xs) (hdn:Nat.blt d n=true)
  (k:At n ((d,.int .i64 (min xs.length (hi-lo).toNat:Nat))::L) (Wd w0 (f (cellsE b (put (vcopy v lo.toNat (xs.take (hi-lo).toNat))) tb))) (wpList P ops Q rest)) :
  At n L (Wd w0 H) (wpList P ops Q (⟨some d,.call { callee:=.builtin .copy,args:=#[x,y],argTypes:=#[dT,sT] },ty,pos,aft,none⟩::rest)) :=
 at_any (W':=fun u w'=>u=.int .i64 (min xs.length (hi-lo).toNat:Nat)∧Wd w0 (f (cellsE b (put (vcopy v lo.toNat (xs.take (hi-lo).toNat))) tb)) w') rfl rfl hdn (fun a w h hw=>by
  have hok:w.heap[b]? = some (.cells cells.toArray tb (0,0)):=hw.ok hu.mem
  subst hq hdl
  obtain ⟨pa,rfl⟩:=hp
  have hsz:=l.size
  have hsz':o+m*c.sz≤cells.length:=hsz
  have hall:∀ (ys:List β),(c.all ys).length=ys.length:=fun ys=>by rw [c.all_len,hc1,Nat.mul_one]
  have hn:(xs.take (hi-lo).toNat).length=Nat.min xs.length (hi.toNat-lo.toNat):=by rw [List.length_take];show min _ _=min _ _;omega
  have hfit:lo.toNat+(xs.take (hi-lo).toNat).length≤m:=by rw [hn];show lo.toNat+min _ _≤m;omega
  obtain ⟨o',hrs,ho'⟩:∃ o',rsp (some (⟨b,o,none⟩:Addr)) m lo c.sz=some ⟨b,o',none⟩∧((xs.take (hi-lo).toNat)=[]∨o'=o+lo.toNat):=by
   unfold rsp
   by_cases hml:m=lo.toNat
   ·rw [if_pos hml]
    exact ⟨o,rfl,.inl (List.eq_nil_of_length_eq_zero (by omega))⟩
   ·rw [if_neg hml,hc1,Nat.mul_one]
    exact ⟨o+lo.toNat,by simp [Addr.add_lit],.inr rfl⟩
  have hrow:=hr w hw
  have hsrc:∀ j u,(c.all (xs.take (hi-lo).toNat))[j]? = some u→w.cell? (pa.add j)=some u:=fun j u hj=>by
   rcases hrow.2 with h0 | ⟨b2,o2,hp2,hc2⟩
   ·subst h0;simp [Cd.all] at hj
   ·cases hp2
    rw [Addr.add_lit]
    refine hc2 j u ?_
    have e1:c.all xs=c.all (xs.take (hi-lo).toNat)++c.all (xs.drop (hi-lo).toNat):=by rw [←c.all_append,List.take_append_drop]
    rw [e1,List.getElem?_append_left (List.getElem?_eq_some_iff.1 hj).1]
    exact hj
  by_cases hnil:xs.take (hi-lo).toNat=[]
  ·-- nothing
   have hrun2:(Builtin.copy_ #[dT,sT] ty #[.slice (some ⟨b,o',none⟩) (hi.toNat-lo.toNat) dc,.slice (some pa) xs.length cap]).run P w=.ok (goInt 0) w:=by
    have hmin:Nat.min xs.length (hi.toNat-lo.toNat)=0:=by rw [←hn,hnil];rfl
    cases hq:P.info? e with
    | none=>simp [hq] at hs
    | some i =>
     have hi':i.size=1:=by simpa [hq] using hs
     have hl:=run_loadCells_list (P:=P) w pa [] (fun j v hj=>by simp at hj)
     simp only [List.length_nil] at hl
     simp [Builtin.copy_,run_underlying hud,Builtin.lenOf,Builtin.firstCells,sizeOf,typeInfo,hq,hi',hmin,hl,storeCells]
   have hz0:min xs.length (hi-lo).toNat=0:=by
    have:=hn;rw [hnil] at this;simp at this
    have e3:(hi-lo).toNat=hi.toNat-lo.toNat:=by omega
    rw [e3];have h4:Nat.min xs.length (hi.toNat-lo.toNat)=0:=by rw [←hn,hnil];rfl
    exact h4
   refine ⟨_,w,?_,by rw [hz0],?_⟩
   ·simp only [execOp,resolve,invoke,builtin,Sem.run_bind,Sem.run_pure,Result.andThen_ok,List.map_toArray,List.map_cons,List.map_nil,h.eval hx,h.eval hy,hrs,hrun2]
    rfl
   ·have ev1:vcopy v lo.toNat (xs.take (hi-lo).toNat)=v:=by
     apply Vector.toList_inj.1
     rw [vcopy_toList _ _ _ (by rw [hnil];simp;omega),hnil];simp
    rw [ev1]
    have e2:put v=cells:=by rw [l.splice v,←List.take_append_drop o cells];obtain ⟨pre,post,hcells,hlen1,_⟩:=l;subst hcells;simp [←hlen1,Cd.len]
    rw [e2,hu.same];exact hw
  ·have ho2:o'=o+lo.toNat:=by rcases ho' with h1 | h1;exact absurd h1 hnil;exact h1
   subst ho2
   have hrun:=run_copy_row (P:=P) w dT sT ty e b (o+lo.toNat) (hi.toNat-lo.toNat) dc pa xs.length cap cells.toArray tb (c.all (xs.take (hi-lo).toNat)) hud hs hok (by rw [hall,hn]) hsrc
    (by rw [hall];rw [hc1,Nat.mul_one] at hsz';simp;omega) (c.all_one _)
   rw [hall] at hrun
   have hput:(cells.toArray.toList.take (o+lo.toNat)++c.all (xs.take (hi-lo).toNat)++cells.toArray.toList.drop (o+lo.toNat+(xs.take (hi-lo).toNat).length)).toArray=(put (vcopy v lo.toNat (xs.take (hi-lo).toNat))).toArray:=by
    congr 1
    obtain ⟨pre,post,hcells,hlen1,hput⟩:=l
    have e4:=hput (vcopy v lo.toNat (xs.take (hi-lo).toNat))
    rw [e4]
    show _=pre++c.all (vcopy v lo.toNat (xs.take (hi-lo).toNat)).toList++post
    rw [vcopy_toList _ _ _ hfit,c.all_append,c.all_append]
    have hvl:(c.all v.toList).length=m:=by rw [hall];simp
    have ht1:=Cd.all_take hc1 v.toList lo.toNat
    have ht2:=Cd.all_drop hc1 v.toList (lo.toNat+(xs.take (hi-lo).toNat).length)
    rw [ht1,ht2]
    have hcells':cells=pre++(c.all v.toList++post):=by rw [hcells];simp [cVec]
    subst hlen1
    rw [List.toList_toArray,hcells']
    rw [List.take_append,List.take_of_length_le (by omega),List.take_append_of_le_length (by omega)]
    rw [show pre.length+lo.toNat-pre.length=lo.toNat by omega]
    rw [Nat.add_assoc,List.drop_append,List.drop_eq_nil_of_le (by omega),List.nil_append,show pre.length+(lo.toNat+(xs.take (hi-lo).toNat).length)-pre.length=lo.toNat+(xs.take (hi-lo).toNat).length by omega]
    rw [List.drop_append_of_le_length (by omega)]
    simp [List.append_assoc]
   refine ⟨goInt ((xs.take (hi-lo).toNat).length:Nat),w.setRow b (put (vcopy v lo.toNat (xs.take (hi-lo).toNat))).toArray,?_,?_,hw.upd hu ?_ rfl rfl rfl (fun k hk hk'=>?_) ?_ fun k hk=>.inl hk⟩
   ·rw [hput] at hrun
    simp only [execOp,resolve,invoke,builtin,Sem.run_bind,Sem.run_pure,Result.andThen_ok,List.map_toArray,List.map_cons,List.map_nil,h.eval hx,h.eval hy,hrs,hrun]
   ·show goInt _=_
    rw [hn,show (hi-lo).toNat=hi.toNat-lo.toNat by omega];rfl
   ·exact Nat.le_of_eq (by simp [World.setRow])
   ·exact setRow_other w b k _ (by intro e;exact hk' (by rw [e];simp [cellsE]))
   ·exact setRow_heap w b cells.toArray _ tb _ hok) fun u a w h ⟨hu',hw⟩=>by subst hu';exact k a w h hw
section
variable {K : Act → World → Prop}
variable {dst : Option Tmp} {op : Op} {j g : Nat} {oj : Oper} {b b' : Bool} {ty : TypeId} {pos : String} {aft : Array Edge}
end
end Go.Proofs.YtahlbjmafceoeaaGreatDoor.E
namespace Go.Proofs.YtahlbjmafceoeaaGreatDoor.E
open Go.RowKit
variable {n : Nat} {L : List (Nat × Value)} {W : World → Prop} {P : Program} {ops : Array Oper} {Q : Exit → Act → World → Prop}
def QK(K:Act→World→Prop):Exit→Act→World→Prop
 | .normal=>K
 | _=>fun _ _=>False
theorem not_letsOut{K:Act→World→Prop}:¬ LetsOut (QK K):=fun ⟨_,_,h⟩=>h
theorem wp_of_QK{o:Oper}{a:Act}{w:World}{K K':Act→World→Prop}(h:o.wp P a w K (QK K')):o.wp P a w K Q:=by
 unfold Oper.wp at *
 generalize (execOp a.eval o).run P w=r at h
 unfold Oper.upon at *
 split at h
 ·exact h
 ·exact h
 ·exact h
 ·refine Calls.mono h fun e w'' he=>?_
  cases e with
  | returned v=>exact he
  | panicked c=>exact he.elim
  | outgrown=>exact absurd he not_letsOut
 ·exact h
 ·exact h.elim
 ·exact h.elim
theorem wpOp_of{i:Nat}{o:Oper}{a:Act}{w:World}{K:Act→World→Prop}(hi:ops[i]? = some o)(h:wpList P ops (QK K) [o] a w):wpOp P ops Q i K a w:=by
 unfold wpOp
 rw [hi]
 unfold wpList at h
 show (if Region.wanted o (yielded ops a.tmps)=true then _ else _)
 by_cases hw:Region.wanted o (yielded ops a.tmps)=true
 ·rw [if_pos hw] at h ⊢
  rcases h with h | h
  ·left
   have h':o.wp P a w K (QK K):=h
   exact wp_of_QK h'
  ·exact absurd h.2 not_letsOut
 ·rw [if_neg hw] at h ⊢
  exact h
abbrev G3:=Nat×Option Addr×Nat×Option Nat×List Nat×World×(Nat→Option Addr×Nat)
abbrev g3(a:Nat)(p:Option Addr)(b:Nat)(o:Option Nat)(w:World):G3:=(a,p,b,o,[],w,fun _=>(none,0))
abbrev Gh:=Nat→G3
def updG(g:Gh)(k:Nat)(x:G3):Gh:=fun j=>bif Nat.beq j k then x else g j
theorem updG_lt{g:Gh}{k j:Nat}{x:G3}(h:j<k):updG g k x j=g j:=by
 unfold updG
 have:Nat.beq j k=false:=by
  cases hb:Nat.beq j k
  ·rfl
  ·have:=Nat.eq_of_beq_eq_true hb;omega
 rw [this];rfl
inductive Kd where
 | q (d:Nat) (v:Gh→Value) (need:List Nat) (lo hi:Nat)
 | st (k:Nat) (dv:Option (Nat×(Gh→Value))) (need:List Nat)
 | al (k d:Nat) (v:Gh→Value) (need:List Nat)
def Kd.dst:Kd→Option Nat
 | .q d _ _ _ _=>some d
 | .st _ (some (d,_)) _=>some d
 | .st _ none _=>none
 | .al _ d _ _=>some d
def Kd.need:Kd→List Nat
 | .q _ _ l _ _=>l
 | .st _ _ l=>l
 | .al _ _ _ l=>l
def Kd.rank:Kd→Option Nat
 | .q ..=>none
 | .st k _ _=>some k
 | .al k _ _ _=>some k
def Kd.bound:Kd→Nat
 | .q _ _ _ lo _=>lo
 | .st k _ _=>k+1
 | .al k _ _ _=>k+1
def Kd.val(b:Gh):Kd→Value
 | .q _ v _ _ _=>v b
 | .st _ (some (_,v)) _=>v b
 | .st _ none _=>undef
 | .al _ _ v _=>v b
def Kd.fix(kd:Kd):Prop:=∀ g g':Gh,(∀ k,k<kd.bound→g k=g' k)→kd.val g=kd.val g'
def fixes:List Kd→Prop
 | []=>True
 | kd::r=>kd.fix∧fixes r
theorem fixes_get:∀ {kds:List Kd},fixes kds→∀ {i:Nat} {kd:Kd},kds[i]? = some kd→kd.fix
 | _::_,h,0,kd,hi=>by simp at hi;subst hi;exact h.1
 | _::_,h,i+1,kd,hi=>fixes_get h.2 (i:=i) (by simpa using hi)
 | [],_,_,_,hi=>by simp at hi
def facOf(kds:List Kd)(b:Gh):List Nat→List (Nat×Value)
 | []=>[]
 | j::r=>match kds[j]? with
  | some kd=>match kd.dst with
   | some d=>(d,kd.val b)::facOf kds b r
   | none=>facOf kds b r
  | none=>facOf kds b r
def Kd.add(b:Gh)(kd:Kd)(M:List (Nat×Value)):List (Nat×Value):=match kd.dst with
 | some d=>(d,kd.val b)::M
 | none=>M
def Ob(n:Nat)(L:List (Nat×Value))(P:Program)(ops:Array Oper)(kds:List Kd)(Wm:Gh→Nat→World→Prop)(kd:Kd)(o:Oper):Prop :=
 match kd with
 | .q d v need lo hi=>∀ (Lx:List (Nat×Value)) (b:Gh) (s:Nat) (K:Act→World→Prop),lo≤s→s≤hi→At n ((d,v b)::(facOf kds b need++(L++Lx))) (Wm b s) K→At n (facOf kds b need++(L++Lx)) (Wm b s) (wpList P ops (QK K) [o])
 | .st k dv need=>∀ (Lx:List (Nat×Value)) (b:Gh) (K:Act→World→Prop),At n (Kd.add b (.st k dv need) (facOf kds b need++(L++Lx))) (Wm b (k+1)) K→At n (facOf kds b need++(L++Lx)) (Wm b k) (wpList P ops (QK K) [o])
 | .al k d v need=>∀ (Lx:List (Nat×Value)) (b:Gh) (K:Act→World→Prop),(∀ x,At n ((d,v (updG b k x))::(facOf kds b need++(L++Lx))) (Wm (updG b k x) (k+1)) K)→At n (facOf kds b need++(L++Lx)) (Wm b k) (wpList P ops (QK K) [o])
def Obs(n:Nat)(L:List (Nat×Value))(P:Program)(ops:Array Oper)(kds:List Kd)(Wm:Gh→Nat→World→Prop):List Kd→List Oper→Prop
 | kd::r,o::l=>Ob n L P ops kds Wm kd o∧Obs n L P ops kds Wm r l
 | [],[]=>True
 | _,_=>False
def backB(l:List Oper):Bool:=(List.range l.length).all fun i=>match l[i]? with
 | some o=>o.after.all fun e=>!Region.binds .any e||Nat.blt e.on i
 | none=>false
def edge(o:Oper)(j:Nat):Bool:=o.after.any fun e=>Region.binds .any e&&Nat.beq e.on j
def rankAt(kds:List Kd)(j k:Nat):Bool:=match kds[j]? with
 | some kd=>match kd.rank with
  | some r=>Nat.beq r k
  | none=>false
 | none=>false
def oneB(n:Nat)(kds:List Kd)(kd:Kd)(o:Oper):Bool :=
 (match o.dst,kd.dst with | some a,some b=>Nat.beq a b&&Nat.blt a n | none,none=>true | _,_=>false) &&
 kd.need.all (fun j=>edge o j)
def allB(n:Nat)(kds:List Kd):List Kd→List Oper→Bool
 | kd::r,o::l=>oneB n kds kd o&&allB n kds r l
 | [],[]=>true
 | _,_=>false
def apartB(keys:List Nat)(kds:List Kd):Bool :=
 (List.range kds.length).all fun i=>match kds[i]? with
  | some kd=>match kd.dst with
   | some d=>!(keys.any fun t=>Nat.beq t d)&&(List.range kds.length).all fun j=>Nat.beq i j||(match kds[j]? with | some kd'=>(match kd'.dst with | some d'=>!Nat.beq d d' | none=>true) | none=>true)
   | none=>true
  | none=>true
def ranksB(kds:List Kd)(tot:Nat):Bool :=
 ((List.range tot).all fun k=>(List.range kds.length).any fun j=>rankAt kds j k) &&
 (List.range kds.length).all fun i=>match kds[i]? with
  | some kd=>match kd.rank with
   | some k=>Nat.blt k tot&&(List.range kds.length).all fun j=>Nat.beq i j||!rankAt kds j k
   | none=>true
  | none=>true
def reach(l:List Oper):Nat→Nat→Nat→Bool
 | 0,_,_=>false
 | f+1,i,j=>match l[i]? with
  | some o=>edge o j||(List.range i).any fun m=>edge o m&&reach l f m j
  | none=>false
def boundB(kds:List Kd)(l:List Oper)(tot:Nat):Bool:=(List.range kds.length).all fun i=>match kds[i]?,l[i]? with
 | some (.q _ _ _ lo hi),some o=>(match lo with
   | 0=>true
   | k+1=>(List.range kds.length).any fun j=>rankAt kds j k&&reach l 5 i j) &&
   (Nat.ble tot hi||(List.range kds.length).any fun j=>rankAt kds j hi&&reach l 5 j i)
 | some kd,some _=>(match kd.rank with
   | some (k+1)=>(List.range kds.length).any fun j=>rankAt kds j k&&reach l 8 i j
   | _=>true)
 | _,_=>true
theorem boundB_rank{kds:List Kd}{l:List Oper}{tot:Nat}(h:boundB kds l tot=true){i k:Nat}{kd:Kd}{o:Oper}(hi':kds[i]? = some kd)(ho:l[i]? = some o)(hr:kd.rank=some (k+1)):∃ j,reach l 8 i j=true∧rankAt kds j k=true:=by
 unfold boundB at h
 have h1:=List.all_eq_true.1 h i (List.mem_range.2 (List.getElem?_eq_some_iff.1 hi').1)
 rw [hi',ho] at h1
 cases kd with
 | q d v need lo hi=>cases hr
 | st a b c =>
  simp only at h1
  rw [hr] at h1
  obtain ⟨j,_,hj⟩:=List.any_eq_true.1 h1
  rw [Bool.and_eq_true] at hj
  exact ⟨j,hj.2,hj.1⟩
 | al a b c d =>
  simp only at h1
  rw [hr] at h1
  obtain ⟨j,_,hj⟩:=List.any_eq_true.1 h1
  rw [Bool.and_eq_true] at hj
  exact ⟨j,hj.2,hj.1⟩
def inSt(n:Nat)(L:List (Nat×Value))(l:List Oper)(kds:List Kd)(Wm:Gh→Nat→World→Prop)(tot:Nat)(S:Array Bool)(a:Act)(w:World):Prop :=
 ∃ b s,a.tmps.size=n∧a.defers=[]∧(∀ t v,lk L t=some v→a.tmps.getD t undef=v) ∧
  (∀ j kd d,S.getD j false=true→kds[j]? = some kd→kd.dst=some d→a.tmps.getD d undef=kd.val b) ∧
  (∀ j kd k,kds[j]? = some kd→kd.rank=some k→(S.getD j false=true↔k<s))∧s≤tot∧Wm b s w∧∀ j o i,S.getD j false=true→l[j]? = some o→edge o i=true→S.getD i false=true
def fullL(a:Act):List (Nat×Value):=(List.range a.tmps.size).map fun t=>(t,a.tmps.getD t undef)
theorem lk_mem:∀ {L:List (Nat×Value)} {t:Nat} {v:Value},lk L t=some v→(t,v)∈L
 | (s,u)::L,t,v,h=>by
  rw [lk_cons] at h
  split at h
  ·next e=>subst e;cases h;exact List.mem_cons_self ..
  ·exact List.mem_cons_of_mem _ (lk_mem h)
theorem lk_append{L M:List (Nat×Value)}{t:Nat}{v:Value}(h:lk (L++M) t=some v):lk L t=some v∨lk M t=some v:=by
 induction L with
 | nil=>exact .inr h
 | cons x r ih =>
  obtain ⟨s,u⟩:=x
  rw [List.cons_append,lk_cons] at h
  rw [lk_cons]
  split at h
  ·next e=>rw [if_pos e];exact .inl h
  ·next e=>rw [if_neg e];exact ih h
theorem lk_full(a:Act)(t:Nat)(h:t<a.tmps.size):lk (fullL a) t=some (a.tmps.getD t undef):=by
 have key:∀ (m i:Nat),i≤t→t<i+m→lk ((List.range' i m).map fun t=>(t,a.tmps.getD t undef)) t=some (a.tmps.getD t undef):=by
  intro m
  induction m with
  | zero=>intro i h1 h2;omega
  | succ m ih =>
   intro i h1 h2
   rw [List.range'_succ,List.map_cons,lk_cons]
   by_cases hi:i=t
   ·subst hi;rw [if_pos rfl]
   ·rw [if_neg hi];exact ih (i+1) (by omega) (by omega)
 unfold fullL
 rw [List.range_eq_range']
 exact key _ 0 (Nat.zero_le _) (by omega)
theorem lk_full_val{a:Act}{t:Nat}{v:Value}(h:lk (fullL a) t=some v):a.tmps.getD t undef=v:=by
 have:=lk_mem h
 unfold fullL at this
 obtain ⟨s,_,hs⟩:=List.mem_map.1 this
 cases hs;rfl
theorem getD_set_same{S:Array Bool}{i:Nat}(h:i<S.size):(S.setIfInBounds i true).getD i false=true:=by
 simp [Array.getD_eq_getD_getElem?,Array.getElem?_setIfInBounds,h]
theorem getD_set_other{S:Array Bool}{i j:Nat}(h:i≠j):(S.setIfInBounds i true).getD j false=S.getD j false:=by
 simp [Array.getD_eq_getD_getElem?,Array.getElem?_setIfInBounds,h]
theorem facOf_vals{kds:List Kd}{b:Gh}{a:Act}{S:Array Bool}(hf:∀ j kd d,S.getD j false=true→kds[j]? = some kd→kd.dst=some d→a.tmps.getD d undef=kd.val b) :
  ∀ {need:List Nat},(∀ j∈need,S.getD j false=true)→∀ t v,lk (facOf kds b need) t=some v→a.tmps.getD t undef=v
 | [],_,t,v,h=>by cases h
 | j::r,hn,t,v,h=>by
  have hr:=facOf_vals hf (need:=r) fun j hj=>hn j (List.mem_cons_of_mem _ hj)
  unfold facOf at h
  cases hk:kds[j]? with
  | none=>rw [hk] at h;exact hr t v h
  | some kd =>
   rw [hk] at h
   cases hd:kd.dst with
   | none=>simp only [hd] at h;exact hr t v h
   | some d =>
    simp only [hd] at h
    rw [lk_cons] at h
    split at h
    ·next e=>subst e;cases h;exact hf j kd d (hn j (List.mem_cons_self ..)) hk hd
    ·exact hr t v h
theorem obs_get{kds0:List Kd}{Wm:Gh→Nat→World→Prop}:∀ {kds:List Kd} {l:List Oper},Obs n L P ops kds0 Wm kds l→∀ {i:Nat} {o:Oper},l[i]? = some o→∃ kd,kds[i]? = some kd∧Ob n L P ops kds0 Wm kd o
 | kd::r,o'::l,h,0,o,hi=>by
  simp at hi;subst hi
  exact ⟨kd,rfl,h.1⟩
 | kd::r,o'::l,h,i+1,o,hi=>by
  obtain ⟨kd',h1,h2⟩:=obs_get h.2 (i:=i) (o:=o) (by simpa using hi)
  exact ⟨kd',by simpa using h1,h2⟩
 | [],[],_,i,o,hi=>by simp at hi
 | [],_::_,h,_,_,_=>h.elim
 | _::_,[],h,_,_,_=>h.elim
theorem allB_get{kds0:List Kd}:∀ {kds:List Kd} {l:List Oper},allB n kds0 kds l=true→∀ {i:Nat} {o:Oper} {kd:Kd},l[i]? = some o→kds[i]? = some kd→oneB n kds0 kd o=true
 | kd::r,o'::l,h,0,o,kd',hi,hk=>by
  simp at hi hk;subst hi hk
  simp only [allB,Bool.and_eq_true] at h
  exact h.1
 | kd::r,o'::l,h,i+1,o,kd',hi,hk=>by
  simp only [allB,Bool.and_eq_true] at h
  exact allB_get h.2 (by simpa using hi) (by simpa using hk)
 | [],[],_,i,o,kd',hi,_=>by simp at hi
 | [],_::_,h,_,_,_,_,_=>by simp [allB] at h
 | _::_,[],h,_,_,_,_,_=>by simp [allB] at h
theorem allB_len{kds0:List Kd}:∀ {kds:List Kd} {l:List Oper},allB n kds0 kds l=true→kds.length=l.length
 | kd::r,o::l,h=>by
  simp only [allB,Bool.and_eq_true] at h
  simp [allB_len h.2]
 | [],[],_=>rfl
 | [],_::_,h=>by simp [allB] at h
 | _::_,[],h=>by simp [allB] at h
theorem edge_listed{o:Oper}{j:Nat}{S:Array Bool}(hall:∀ e∈o.after,Region.binds .any e=true→S.getD e.on false=true)(h:edge o j=true):S.getD j false=true:=by
 unfold edge at h
 rw [Array.any_eq_true] at h
 obtain ⟨i,hi,he⟩:=h
 rw [Bool.and_eq_true] at he
 have:=hall _ (Array.getElem_mem hi) he.1
 rwa [Nat.eq_of_beq_eq_true he.2] at this
theorem rankAt_of{kds:List Kd}{j k:Nat}(h:rankAt kds j k=true):∃ kd,kds[j]? = some kd∧kd.rank=some k:=by
 unfold rankAt at h
 cases hk:kds[j]? with
 | none=>rw [hk] at h;cases h
 | some kd =>
  rw [hk] at h
  cases hr:kd.rank with
  | none=>simp only [hr] at h;cases h
  | some r=>simp only [hr] at h;exact ⟨kd,rfl,by rw [hr,Nat.eq_of_beq_eq_true h]⟩
theorem of_rankAt{kds:List Kd}{j k:Nat}{kd:Kd}(hk:kds[j]? = some kd)(hr:kd.rank=some k):rankAt kds j k=true:=by
 unfold rankAt
 rw [hk];simp [hr]
theorem boundB_spec{kds:List Kd}{l:List Oper}{tot:Nat}(h:boundB kds l tot=true){i d lo hi:Nat}{v:Gh→Value}{need:List Nat}{o:Oper}(hi':kds[i]? = some (.q d v need lo hi))(ho:l[i]? = some o) :
  (∀ k,lo=k+1→∃ j,reach l 5 i j=true∧rankAt kds j k=true)∧(tot≤hi∨∃ (j:Nat),rankAt kds j hi=true∧reach l 5 j i=true):=by
 unfold boundB at h
 have h1:=List.all_eq_true.1 h i (List.mem_range.2 (List.getElem?_eq_some_iff.1 hi').1)
 rw [hi',ho] at h1
 simp only [Bool.and_eq_true,Bool.or_eq_true] at h1
 refine ⟨fun k hk=>?_,?_⟩
 ·subst hk
  obtain ⟨j,_,hj⟩:=List.any_eq_true.1 h1.1
  rw [Bool.and_eq_true] at hj
  exact ⟨j,hj.2,hj.1⟩
 ·rcases h1.2 with h2 | h2
  ·exact .inl (Nat.le_of_ble_eq_true h2)
  ·obtain ⟨j,_,hj⟩:=List.any_eq_true.1 h2
   rw [Bool.and_eq_true] at hj
   exact .inr ⟨j,hj⟩
theorem reach_closed{l:List Oper}{S:Array Bool}(hcl:∀ j o i,S.getD j false=true→l[j]? = some o→edge o i=true→S.getD i false=true):∀ (f i j:Nat),reach l f i j=true→S.getD i false=true→S.getD j false=true
 | 0,_,_,h,_=>by cases h
 | f+1,i,j,h,hs=>by
  unfold reach at h
  cases hl:l[i]? with
  | none=>rw [hl] at h;cases h
  | some o =>
   rw [hl] at h
   simp only [Bool.or_eq_true] at h
   rcases h with h | h
   ·exact hcl i o j hs hl h
   ·obtain ⟨m,_,hm⟩:=List.any_eq_true.1 h
    rw [Bool.and_eq_true] at hm
    exact reach_closed hcl f m j hm.2 (hcl i o m hs hl hm.1)
theorem reach_listed{l:List Oper}{S:Array Bool}(hcl:∀ j o i,S.getD j false=true→l[j]? = some o→edge o i=true→S.getD i false=true){i:Nat}{o:Oper}(hl:l[i]? = some o)(hall:∀ e∈o.after,Region.binds .any e=true→S.getD e.on false=true){f j:Nat}(h:reach l f i j=true):S.getD j false=true:=by
 cases f with
 | zero=>cases h
 | succ f =>
  unfold reach at h
  rw [hl] at h
  simp only [Bool.or_eq_true] at h
  rcases h with h | h
  ·exact edge_listed hall h
  ·obtain ⟨m,_,hm⟩:=List.any_eq_true.1 h
   rw [Bool.and_eq_true] at hm
   exact reach_closed hcl f m j hm.2 (edge_listed hall hm.1)
theorem lk_cover:∀ {A:List (Nat×Value)} {B:List (Nat×Value)} {t:Nat},(∃ u,lk B t=some u)→∃ u,lk (A++B) t=some u
 | [],_,_,h=>h
 | (s,u)::A,B,t,h=>by
  rw [List.cons_append,lk_cons]
  split
  ·exact ⟨u,rfl⟩
  ·exact lk_cover h
theorem apartB_keys{keys:List Nat}{kds:List Kd}(h:apartB keys kds=true){i d:Nat}{kd:Kd}(hi:kds[i]? = some kd)(hd:kd.dst=some d):∀ t∈keys,t≠d:=by
 unfold apartB at h
 have h1:=List.all_eq_true.1 h i (List.mem_range.2 (List.getElem?_eq_some_iff.1 hi).1)
 simp only [hi,hd,Bool.and_eq_true] at h1
 intro t ht e
 subst e
 have h2:=h1.1
 simp only [Bool.not_eq_true'] at h2
 have:=List.any_eq_false.1 h2 t ht
 simp at this
theorem apartB_dst{keys:List Nat}{kds:List Kd}(h:apartB keys kds=true){i j d d':Nat}{kd kd':Kd}(hi:kds[i]? = some kd)(hd:kd.dst=some d)(hj:kds[j]? = some kd')(hd':kd'.dst=some d')(hne:i≠j):d≠d':=by
 unfold apartB at h
 have h1:=List.all_eq_true.1 h i (List.mem_range.2 (List.getElem?_eq_some_iff.1 hi).1)
 simp only [hi,hd,Bool.and_eq_true] at h1
 have h2:=List.all_eq_true.1 h1.2 j (List.mem_range.2 (List.getElem?_eq_some_iff.1 hj).1)
 simp only [hj,hd'] at h2
 intro e
 subst e
 simp at h2
 exact hne h2
theorem ranksB_cover{kds:List Kd}{tot:Nat}(h:ranksB kds tot=true){k:Nat}(hk:k<tot):∃ (j:Nat) (kd:Kd),kds[j]? = some kd∧kd.rank=some k:=by
 unfold ranksB at h
 rw [Bool.and_eq_true] at h
 have h1:=List.all_eq_true.1 h.1 k (List.mem_range.2 hk)
 obtain ⟨j,_,hj⟩:=List.any_eq_true.1 h1
 obtain ⟨kd,h2,h3⟩:=rankAt_of hj
 exact ⟨j,kd,h2,h3⟩
theorem ranksB_lt{kds:List Kd}{tot:Nat}(h:ranksB kds tot=true){i k:Nat}{kd:Kd}(hi:kds[i]? = some kd)(hk:kd.rank=some k):k<tot:=by
 unfold ranksB at h
 rw [Bool.and_eq_true] at h
 have h1:=List.all_eq_true.1 h.2 i (List.mem_range.2 (List.getElem?_eq_some_iff.1 hi).1)
 simp only [hi,hk,Bool.and_eq_true] at h1
 exact Nat.le_of_ble_eq_true h1.1
theorem ranksB_one{kds:List Kd}{tot:Nat}(h:ranksB kds tot=true){i j k:Nat}{kd kd':Kd}(hi:kds[i]? = some kd)(hk:kd.rank=some k)(hj:kds[j]? = some kd')(hk':kd'.rank=some k):i=j:=by
 unfold ranksB at h
 rw [Bool.and_eq_true] at h
 have h1:=List.all_eq_true.1 h.2 i (List.mem_range.2 (List.getElem?_eq_some_iff.1 hi).1)
 simp only [hi,hk,Bool.and_eq_true] at h1
 have h2:=List.all_eq_true.1 h1.2 j (List.mem_range.2 (List.getElem?_eq_some_iff.1 hj).1)
 rw [of_rankAt hj hk'] at h2
 simpa using h2
theorem oneB_spec{kds:List Kd}{kd:Kd}{o:Oper}(h:oneB n kds kd o=true):∀ j∈kd.need,edge o j=true:=by
 unfold oneB at h
 simp only [Bool.and_eq_true] at h
 exact fun j hj=>List.all_eq_true.1 h.2 j hj
def open_(S:Array Bool)(m:Nat):Nat:=((List.range m).filter fun j=>!S.getD j false).length
theorem open_set{S:Array Bool}{m i:Nat}(hi:i<m)(hs:i<S.size)(h:S.getD i false=false):open_ (S.setIfInBounds i true) m<open_ S m:=by
 unfold open_
 have key:∀ (l:List Nat),((l.filter fun j=>!(S.setIfInBounds i true).getD j false).length≤(l.filter fun j=>!S.getD j false).length) ∧
   (i∈l→(l.filter fun j=>!(S.setIfInBounds i true).getD j false).length<(l.filter fun j=>!S.getD j false).length):=by
  intro l
  induction l with
  | nil=>exact ⟨Nat.le_refl _,fun h=>by cases h⟩
  | cons x r ih =>
   by_cases hx:i=x
   ·subst hx
    rw [List.filter_cons,List.filter_cons,getD_set_same hs,h]
    simp only [Bool.not_true,Bool.not_false,↓reduceIte,Bool.false_eq_true,List.length_cons]
    exact ⟨by have:=ih.1;omega,fun _=>by have:=ih.1;omega⟩
   ·rw [List.filter_cons,List.filter_cons,getD_set_other hx]
    cases hb:S.getD x false with
    | true=>simp only [Bool.not_true,Bool.false_eq_true,↓reduceIte];exact ⟨ih.1,fun hm=>by rcases List.mem_cons.1 hm with e | e;exact absurd e hx;exact ih.2 e⟩
    | false =>
     simp only [Bool.not_false,↓reduceIte,List.length_cons]
     exact ⟨by have:=ih.1;omega,fun hm=>by rcases List.mem_cons.1 hm with e | e;exact absurd e hx;have:=ih.2 e;omega⟩
 exact (key _).2 (List.mem_range.2 hi)
theorem open_zero{S:Array Bool}{m:Nat}(h:open_ S m=0){j:Nat}(hj:j<m):S.getD j false=true:=by
 unfold open_ at h
 have h0:=List.eq_nil_of_length_eq_zero h
 have:=List.filter_eq_nil_iff.1 h0 j (List.mem_range.2 hj)
 simpa using this
theorem ready_nil{l:List Oper}{S:Array Bool}(hS:S.size=l.length)(hb:backB l=true)(h:Region.ready .any l.toArray S=[]):∀ j,j<l.length→S.getD j false=true:=by
 intro j
 induction j using Nat.strongRecOn with
 | ind j ih =>
  intro hj
  cases hc:S.getD j false with
  | true=>rfl
  | false =>
   exfalso
   have hm:j∈Region.ready .any l.toArray S:=by
    refine mem_ready.2 ⟨?_,l[j],by simp [hj],fun e he hbi=>?_⟩
    ·rw [Array.getD_eq_getD_getElem?] at hc ⊢
     have:j<S.size:=by omega
     simpa [this] using hc
    ·unfold backB at hb
     have h1:=List.all_eq_true.1 hb j (List.mem_range.2 hj)
     rw [List.getElem?_eq_getElem hj] at h1
     have h2:∀ e∈l[j].after,(!Region.binds .any e||Nat.blt e.on j)=true:=fun e he=>by
      obtain ⟨i,hi,he'⟩:=Array.mem_iff_getElem.1 he
      subst he'
      simp only [Array.all_eq_true] at h1
      exact h1 i hi
     have h3:=h2 e he
     rw [hbi] at h3
     have hlt:e.on<j:=by simpa using h3
     exact ih _ hlt (by omega)
   rw [h] at hm
   cases hm
theorem lk_mem_keys{t:Nat}{v:Value}(h:lk L t=some v):t∈L.map (·.1):=List.mem_map.2 ⟨_,lk_mem h,rfl⟩
theorem inv_go{l:List Oper}{kds:List Kd}{Wm:Gh→Nat→World→Prop}{tot:Nat}(hb:backB l=true)(ha:allB n kds kds l=true)(hap:apartB (L.map (·.1)) kds=true)(hr:ranksB kds tot=true)(hfx:fixes kds)(hbo:boundB kds l tot=true)
  (hO:Obs n L P l.toArray kds Wm kds l) (fin:∀ b,At n (facOf kds b (List.range l.length)++L) (Wm b tot) (Q .normal)) :
  ∀ (fuel:Nat) (S:Array Bool) (a:Act) (w:World),S.size=l.length→open_ S l.length≤fuel→inSt n L l kds Wm tot S a w→wpAny P .any l.toArray Q fuel S a w:=by
 have done:∀ (S:Array Bool) (a:Act) (w:World),(∀ j,j<l.length→S.getD j false=true)→inSt n L l kds Wm tot S a w→Q .normal a w:=by
  intro S a w hall ⟨b,s,h1,h2,h3,h4,h5,h6,h7,_⟩
  have hs:s=tot:=by
   rcases Nat.lt_or_ge s tot with hlt | hge
   ·obtain ⟨j,kd,hj,hk⟩:=ranksB_cover hr hlt
    have hjl:j<l.length:=by rw [←allB_len ha];exact (List.getElem?_eq_some_iff.1 hj).1
    exact absurd ((h5 j kd s hj hk).1 (hall j hjl)) (Nat.lt_irrefl _)
   ·omega
  subst hs
  refine fin b a w ⟨h1,h2,fun t v hv=>?_⟩ h7
  rcases lk_append hv with hv | hv
  ·exact facOf_vals h4 (fun j hj=>hall j (List.mem_range.1 hj)) t v hv
  ·exact h3 t v hv
 intro fuel
 induction fuel with
 | zero =>
  intro S a w hS ho hi
  have hall:=fun j (hj:j<l.length)=>open_zero (Nat.le_zero.1 ho) hj
  refine ⟨?_,done S a w hall hi⟩
  cases hrd:Region.ready .any l.toArray S with
  | nil=>rfl
  | cons x r =>
   exfalso
   obtain ⟨hx1,o,hx2,_⟩:=mem_ready.1 (show x∈Region.ready .any l.toArray S by rw [hrd];exact List.mem_cons_self ..)
   have hxl:x<l.length:=by simpa using (Array.getElem?_eq_some_iff.1 hx2).1
   have hx3:=hall x hxl
   have hxs:x<S.size:=by omega
   rw [Array.getD_eq_getD_getElem?] at hx1 hx3
   simp [hxs] at hx1 hx3
   rw [hx1] at hx3;cases hx3
 | succ fuel ih =>
  intro S a w hS ho hi
  refine ⟨fun hrd=>done S a w (ready_nil hS hb hrd) hi,fun i hir=>?_⟩
  obtain ⟨hx1,o,hx2,hx3⟩:=mem_ready.1 hir
  have hil:i<l.length:=by simpa using (Array.getElem?_eq_some_iff.1 hx2).1
  have his:i<S.size:=by omega
  have hx0:S.getD i false=false:=by
   rw [Array.getD_eq_getD_getElem?] at hx1 ⊢
   simpa [his] using hx1
  have hlo:l[i]? = some o:=by simpa using hx2
  obtain ⟨kd,hk,hob⟩:=obs_get hO hlo
  have hneed:=oneB_spec (allB_get ha hlo hk)
  obtain ⟨b,s,h1,h2,h3,h4,h5,h6,h7,h8⟩:=hi
  have hcnt:open_ (S.setIfInBounds i true) l.length≤fuel:=by have:=open_set hil his hx0;omega
  have hsz:(S.setIfInBounds i true).size=l.length:=by simpa using hS
  have env:Env n (facOf kds b kd.need++(L++fullL a)) a:=by
   refine ⟨h1,h2,fun t v hv=>?_⟩
   rcases lk_append hv with hv | hv
   ·exact facOf_vals h4 (fun j hj=>edge_listed hx3 (hneed j hj)) t v hv
   ·rcases lk_append hv with hv | hv
    ·exact h3 t v hv
    ·exact lk_full_val hv
  have out:∀ (a':Act),a'.tmps.size=n→∀ t,¬ t<a.tmps.size→a'.tmps.getD t undef=a.tmps.getD t undef:=by
   intro a' hz t hts
   have:¬ t<a'.tmps.size:=by rw [hz,←h1];exact hts
   rw [Array.getD_eq_getD_getElem?,Array.getD_eq_getD_getElem?]
   simp [hts,this]
  have kp:∀ (a':Act) (d:Nat) (v:Value),Env n ((d,v)::(facOf kds b kd.need++(L++fullL a))) a'→∀ t,t≠d→a'.tmps.getD t undef=a.tmps.getD t undef:=by
   intro a' d v he t htd
   by_cases hts:t<a.tmps.size
   ·obtain ⟨u,hu⟩:=lk_cover (A:=facOf kds b kd.need) (lk_cover (A:=L) ⟨_,lk_full a t hts⟩)
    rw [env.vals t u hu]
    refine he.vals t _ ?_
    rw [lk_cons,if_neg (fun e=>htd e.symm)]
    exact hu
   ·exact out a' he.size t hts
  have kp0:∀ (a':Act),Env n (facOf kds b kd.need++(L++fullL a)) a'→∀ t,a'.tmps.getD t undef=a.tmps.getD t undef:=by
   intro a' he t
   by_cases hts:t<a.tmps.size
   ·obtain ⟨u,hu⟩:=lk_cover (A:=facOf kds b kd.need) (lk_cover (A:=L) ⟨_,lk_full a t hts⟩)
    rw [env.vals t u hu]
    exact he.vals t _ hu
   ·exact out a' he.size t hts
  have other:∀ j,j≠i→(S.setIfInBounds i true).getD j false=S.getD j false:=fun j hj=>getD_set_other (fun e=>hj e.symm)
  have closed:∀ j o' i',(S.setIfInBounds i true).getD j false=true→l[j]? = some o'→edge o' i'=true→(S.setIfInBounds i true).getD i' false=true:=by
   intro j o' i' hj hjo he
   refine getD_set_true ?_
   by_cases hji:j=i
   ·subst hji
    rw [hlo] at hjo;cases hjo
    exact edge_listed hx3 he
   ·rw [other j hji] at hj
    exact h8 j o' i' hj hjo he
  have hsk:∀ k,kd.rank=some k→s=k:=by
   intro k hkk
   have hle:¬ k<s:=fun hlt=>by have:=(h5 i kd k hk hkk).2 hlt;rw [hx0] at this;cases this
   cases k with
   | zero=>omega
   | succ k =>
    obtain ⟨j,hje,hjr⟩:=boundB_rank hbo hk hlo hkk
    obtain ⟨kd',hj1,hj2⟩:=rankAt_of hjr
    have:=(h5 j kd' k hj1 hj2).1 (reach_listed h8 hlo hx3 hje)
    omega
  have ranks:∀ k,kd.rank=some k→∀ j kd' k',kds[j]? = some kd'→kd'.rank=some k'→((S.setIfInBounds i true).getD j false=true↔k'<k+1):=by
   intro k hkk j kd' k' hj hk'
   by_cases hji:j=i
   ·subst hji
    rw [hk] at hj;cases hj
    rw [hkk] at hk';cases hk'
    rw [getD_set_same his];simp
   ·rw [other j hji,h5 j kd' k' hj hk']
    have hs:=hsk k hkk
    have hne:k'≠k:=fun e=>by subst e;exact hji (ranksB_one hr hj hk' hk hkk)
    omega
  have ranks0:kd.rank=none→∀ j kd' k',kds[j]? = some kd'→kd'.rank=some k'→((S.setIfInBounds i true).getD j false=true↔k'<s):=by
   intro hkn j kd' k' hj hk'
   have hji:j≠i:=fun e=>by subst e;rw [hk] at hj;cases hj;rw [hkn] at hk';cases hk'
   rw [other j hji];exact h5 j kd' k' hj hk'
  have below:∀ j kd',S.getD j false=true→kds[j]? = some kd'→kd'.bound≤s:=by
   intro j kd' hj hj'
   have rk:∀ k,kd'.rank=some k→k+1≤s:=fun k hkk=>(h5 j kd' k hj' hkk).1 hj
   cases kd' with
   | st k dv need=>exact rk k rfl
   | al k d v need=>exact rk k rfl
   | q d v need lo hi =>
    have hjl:j<l.length:=by rw [←allB_len ha];exact (List.getElem?_eq_some_iff.1 hj').1
    have hjo:l[j]? = some l[j]:=List.getElem?_eq_getElem hjl
    cases lo with
    | zero=>exact Nat.zero_le _
    | succ k =>
     obtain ⟨i',hie,hir'⟩:=(boundB_spec hbo hj' hjo).1 k rfl
     obtain ⟨kd2,hi1,hi2⟩:=rankAt_of hir'
     exact (h5 i' kd2 k hi1 hi2).1 (reach_closed h8 _ _ _ hie hj)
  have putL:∀ (b':Gh) (d:Nat) (v:Value) (a':Act),kd.dst=some d→kd.val b'=v→(∀ k,k<s→b k=b' k)→Env n ((d,v)::(facOf kds b kd.need++(L++fullL a))) a' →
    (∀ t u,lk L t=some u→a'.tmps.getD t undef=u)∧(∀ j kd' d',(S.setIfInBounds i true).getD j false=true→kds[j]? = some kd'→kd'.dst=some d'→a'.tmps.getD d' undef=kd'.val b'):=by
   intro b' d v a' hd hv hbb he
   refine ⟨fun t u hu=>?_,fun j kd' d' hj hj' hd'=>?_⟩
   ·rw [kp a' d v he t (apartB_keys hap hk hd t (lk_mem_keys hu))];exact h3 t u hu
   ·by_cases hji:j=i
    ·subst hji
     rw [hk] at hj';cases hj'
     rw [hd] at hd';cases hd'
     rw [hv]
     exact he.vals _ _ (by rw [lk_cons,if_pos rfl])
    ·rw [other j hji] at hj
     rw [kp a' d v he d' (apartB_dst hap hj' hd' hk hd hji),h4 j kd' d' hj hj' hd']
     have hbd:=below j kd' hj hj'
     exact fixes_get hfx hj' b b' fun k hkl=>hbb k (by omega)
  refine wpOp_of hx2 ?_
  cases kd with
  | q d v need lo hi =>
   obtain ⟨hlo1,hhi1⟩:=boundB_spec hbo hk hlo
   have hls:lo≤s:=by
    cases lo with
    | zero=>exact Nat.zero_le _
    | succ k =>
     obtain ⟨j,hje,hjr⟩:=hlo1 k rfl
     obtain ⟨kd',hj1,hj2⟩:=rankAt_of hjr
     exact (h5 j kd' k hj1 hj2).1 (reach_listed h8 hlo hx3 hje)
   have hsh:s≤hi:=by
    rcases hhi1 with h | ⟨j,hjr,hje⟩
    ·omega
    ·obtain ⟨kd',hj1,hj2⟩:=rankAt_of hjr
     have:¬ hi<s:=fun hlt=>by
      have hc:=reach_closed h8 _ _ _ hje ((h5 j kd' hi hj1 hj2).2 hlt)
      rw [hx0] at hc;cases hc
     omega
   refine hob (fullL a) b s _ hls hsh (fun a' w' he hw'=>ih _ a' w' hsz hcnt ?_) a w env h7
   obtain ⟨p1,p2⟩:=putL b d _ a' rfl rfl (fun _ _=>rfl) he
   exact ⟨b,s,he.size,he.defs,p1,p2,ranks0 rfl,h6,hw',closed⟩
  | st k dv need =>
   have hs:=hsk k rfl
   subst hs
   refine hob (fullL a) b _ (fun a' w' he hw'=>ih _ a' w' hsz hcnt ?_) a w env h7
   cases dv with
   | none=>exact ⟨b,_,he.size,he.defs,fun t u hu=>by rw [kp0 a' he];exact h3 t u hu,fun j kd' d' hj hj' hd'=>by
     have hji:j≠i:=fun e=>by subst e;rw [hk] at hj';cases hj';cases hd'
     rw [other j hji] at hj
     rw [kp0 a' he];exact h4 j kd' d' hj hj' hd',ranks _ rfl,ranksB_lt hr hk rfl,hw',closed⟩
   | some x =>
    obtain ⟨d,v⟩:=x
    obtain ⟨p1,p2⟩:=putL b d _ a' rfl rfl (fun _ _=>rfl) he
    exact ⟨b,_,he.size,he.defs,p1,p2,ranks _ rfl,ranksB_lt hr hk rfl,hw',closed⟩
  | al k d v need =>
   have hs:=hsk k rfl
   subst hs
   refine hob (fullL a) b _ (fun x a' w' he hw'=>ih _ a' w' hsz hcnt ?_) a w env h7
   obtain ⟨p1,p2⟩:=putL (updG b s x) d _ a' rfl rfl (fun j hj=>(updG_lt hj).symm) he
   exact ⟨updG b s x,_,he.size,he.defs,p1,p2,ranks _ rfl,ranksB_lt hr hk rfl,hw',closed⟩
theorem at_cast{X:Act→World→Prop}{d:Nat}{b b':Bool}{M:List (Nat×Value)}(h:b=b')(k:At n ((d,.bool b')::M) W X):At n ((d,.bool b)::M) W X:=h▸k
theorem at_inv{id:Nat}{l:List Oper}(kds:List Kd)(Wm:Gh→Nat→World→Prop)(tot:Nat)(hm:P.follows .mixedOrders=true)
  (hb:backB l=true) (ha:allB n kds kds l=true) (hap:apartB (L.map (·.1)) kds=true) (hr:ranksB kds tot=true) (hfx:fixes kds) (hbo:boundB kds l tot=true)
  (hW:∀ w,W w→∃ b,Wm b 0 { w with drawn:=w.drawn+1 }) (hO:Obs n L P l.toArray kds Wm kds l)
  (fin:∀ b,At n (facOf kds b (List.range l.length)++L) (Wm b tot) (Q .normal)):At n L W ((Code.region id l.toArray true).wp P Q):=fun a w h hw=>by
 obtain ⟨b,hw0⟩:=hW w hw
 have hrep:∀ j,(Array.replicate l.toArray.size false).getD j false=false:=fun j=>by
  rw [Array.getD_eq_getD_getElem?,Array.getElem?_replicate];split<;>rfl
 refine wp_region_any hm (inv_go hb ha hap hr hfx hbo hO fin _ _ a _ (by simp) ?_ ⟨b,0,h.size,h.defs,h.vals,fun j kd d hj=>?_,fun j kd k _ _=>?_,Nat.zero_le _,hw0,fun j o i hj=>?_⟩)
 ·unfold open_
  exact Nat.le_trans (List.length_filter_le ..) (by simp)
 ·rw [hrep] at hj;cases hj
 ·rw [hrep];simp
 ·rw [hrep] at hj;cases hj
def downB(l:List Oper)(k:Nat):Bool:=(List.range k).all fun i=>(List.range (k-i)).any fun d=>match l[i+1+d]? with
 | some o=>edge o i
 | none=>false
theorem down_listed{l:List Oper}{k:Nat}(hd:downB l k=true){S:Array Bool}(hcl:∀ j o i,S.getD j false=true→l[j]? = some o→edge o i=true→S.getD i false=true){o:Oper}(hl:l[k]? = some o)(hall:∀ e∈o.after,Region.binds .any e=true→S.getD e.on false=true) :
  ∀ m j,k≤j+m→j<k→S.getD j false=true
 | 0,j,h1,h2=>by omega
 | m+1,j,h1,h2=>by
  have h3:=List.all_eq_true.1 hd j (List.mem_range.2 h2)
  obtain ⟨d,hd1,hd2⟩:=List.any_eq_true.1 h3
  have hd1:=List.mem_range.1 hd1
  split at hd2
  ·next o' ho =>
   by_cases he:j+1+d=k
   ·rw [he,hl] at ho;cases ho
    exact edge_listed hall hd2
   ·exact hcl _ o' j (down_listed hd hcl hl hall m (j+1+d) (by omega) (by omega)) ho hd2
  ·cases hd2
def tailB(l:List Oper)(k:Nat):Bool:=Nat.blt k l.length&&downB l k&&(List.range l.length).all fun t=>Nat.ble t k||match l[t]? with
 | some o=>edge o (t-1)
 | none=>false
theorem tailB_spec{l:List Oper}{k:Nat}(h:tailB l k=true):k<l.length∧downB l k=true∧∀ t o,k<t→l[t]? = some o→edge o (t-1)=true:=by
 unfold tailB at h
 simp only [Bool.and_eq_true] at h
 obtain ⟨⟨h1,h2⟩,h3⟩:=h
 refine ⟨Nat.le_of_ble_eq_true h1,h2,fun t o ht ho=>?_⟩
 have h4:=List.all_eq_true.1 h3 t (List.mem_range.2 (List.getElem?_eq_some_iff.1 ho).1)
 rw [Bool.or_eq_true] at h4
 rcases h4 with h4 | h4
 ·exact absurd (Nat.le_of_ble_eq_true h4) (by omega)
 ·rw [ho] at h4;exact h4
theorem ready_at{l:List Oper}{S:Array Bool}(hS:S.size=l.length){i:Nat}(hir:i∈Region.ready .any l.toArray S):i<l.length∧S.getD i false=false∧∃ o,l[i]? = some o∧∀ e∈o.after,Region.binds .any e=true→S.getD e.on false=true:=by
 obtain ⟨hx1,o,hx2,hx3⟩:=mem_ready.1 hir
 have hil:i<l.length:=by simpa using (Array.getElem?_eq_some_iff.1 hx2).1
 have his:i<S.size:=by omega
 refine ⟨hil,?_,o,by simpa using hx2,hx3⟩
 rw [Array.getD_eq_getD_getElem?] at hx1 ⊢
 simpa [his] using hx1
theorem tail_go{l:List Oper}{k:Nat}(hb:backB l=true)(htl:tailB l k=true):∀ (fuel m:Nat) (S:Array Bool) (a:Act) (w:World),S.size=l.length→k≤m→m≤l.length→(∀ j,j<m→S.getD j false=true)→(∀ j,m≤j→S.getD j false=false)→l.length-m≤fuel →
  wpList P l.toArray Q (l.drop m) a w→wpAny P .any l.toArray Q fuel S a w:=by
 obtain ⟨_,_,hch⟩:=tailB_spec htl
 intro fuel
 induction fuel with
 | zero =>
  intro m S a w hS hk hm h1 h2 hf h
  have e:m=l.length:=by omega
  subst e
  rw [List.drop_length] at h
  refine ⟨?_,h⟩
  cases hrd:Region.ready .any l.toArray S with
  | nil=>rfl
  | cons x r =>
   obtain ⟨hx,hx0,_⟩:=ready_at hS (show x∈Region.ready .any l.toArray S by rw [hrd];exact List.mem_cons_self ..)
   rw [h1 x hx] at hx0;cases hx0
 | succ fuel ih =>
  intro m S a w hS hk hm h1 h2 hf h
  by_cases hml:m=l.length
  ·subst hml
   rw [List.drop_length] at h
   refine ⟨fun _=>h,fun i hir=>?_⟩
   obtain ⟨hx,hx0,_⟩:=ready_at hS hir
   rw [h1 i hx] at hx0;cases hx0
  ·have hlt:m<l.length:=by omega
   refine ⟨fun hrd=>?_,fun i hir=>?_⟩
   ·have:=ready_nil hS hb hrd m hlt
    rw [h2 m (Nat.le_refl _)] at this;cases this
   ·obtain ⟨hx,hx0,o,ho,hall⟩:=ready_at hS hir
    have hge:m≤i:=by
     rcases Nat.lt_or_ge i m with hh | hh
     ·rw [h1 i hh] at hx0;cases hx0
     ·exact hh
    have him:i=m:=by
     rcases Nat.lt_or_ge m i with hh | hh
     ·have:=edge_listed hall (hch i o (by omega) ho)
      rw [h2 (i-1) (by omega)] at this;cases this
     ·omega
    subst him
    have h0:l.toArray[i]? = some o:=by simpa using ho
    rw [List.drop_eq_getElem_cons hlt] at h
    have ho2:l[i]=o:=by rw [List.getElem?_eq_getElem hlt] at ho;exact Option.some.inj ho
    rw [ho2] at h
    have hw:wpOp P l.toArray Q i (wpList P l.toArray Q (l.drop (i+1))) a w:=by unfold wpOp;simp only [h0];exact h
    refine wpOp_mono (fun a' w' h'=>ih (i+1) _ a' w' (by simpa using hS) (by omega) (by omega) (fun j hj=>?_) (fun j hj=>?_) (by omega) h') hw
    ·by_cases hji:i=j
     ·subst hji;exact getD_set_same (by omega)
     ·rw [getD_set_other hji];exact h1 j (by omega)
    ·rw [getD_set_other (by omega)];exact h2 j (by omega)
theorem inv_goT{l:List Oper}{kds:List Kd}{Wm:Gh→Nat→World→Prop}{tot k:Nat}(hb:backB l=true)(htl:tailB l k=true)(ha:allB n kds kds (l.take k)=true)(hap:apartB (L.map (·.1)) kds=true)(hr:ranksB kds tot=true)(hfx:fixes kds)(hbo:boundB kds (l.take k) tot=true)
  (hO:Obs n L P l.toArray kds Wm kds (l.take k)) (fin:∀ b,At n (facOf kds b (List.range k)++L) (Wm b tot) (wpList P l.toArray Q (l.drop k))) :
  ∀ (fuel:Nat) (S:Array Bool) (a:Act) (w:World),S.size=l.length→open_ S l.length≤fuel→inSt n L l kds Wm tot S a w→(∀ t,k≤t→S.getD t false=false)→wpAny P .any l.toArray Q fuel S a w:=by
 obtain ⟨hkl,hre,hch⟩:=tailB_spec htl
 have hkds:kds.length=k:=by rw [allB_len ha,List.length_take];omega
 have done:∀ (fuel:Nat) (S:Array Bool) (a:Act) (w:World),S.size=l.length→open_ S l.length≤fuel→(∀ j,j<k→S.getD j false=true)→(∀ t,k≤t→S.getD t false=false)→inSt n L l kds Wm tot S a w→wpAny P .any l.toArray Q fuel S a w:=by
  intro fuel S a w hS ho hall htu ⟨b,s,h1,h2,h3,h4,h5,h6,h7,_⟩
  have hs:s=tot:=by
   rcases Nat.lt_or_ge s tot with hlt | hge
   ·obtain ⟨j,kd,hj,hk⟩:=ranksB_cover hr hlt
    have hjl:j<k:=by rw [←hkds];exact (List.getElem?_eq_some_iff.1 hj).1
    exact absurd ((h5 j kd s hj hk).1 (hall j hjl)) (Nat.lt_irrefl _)
   ·omega
  subst hs
  refine tail_go hb htl fuel k S a w hS (Nat.le_refl _) (by omega) hall htu ?_ (fin b a w ⟨h1,h2,fun t v hv=>?_⟩ h7)
  ·refine Nat.le_trans ?_ ho
   have hsplit:List.range l.length=List.range k++(List.range' k (l.length-k)):=by
    rw [List.range_eq_range',List.range_eq_range',show l.length=k+(l.length-k) by omega,←List.range'_append]
    simp
   unfold open_
   rw [hsplit,List.filter_append,List.length_append]
   have:(List.range' k (l.length-k)).filter (fun j=>!S.getD j false)=List.range' k (l.length-k):=List.filter_eq_self.2 fun j hj=>by
    rw [htu j (List.mem_range'_1.1 hj).1];rfl
   rw [this,List.length_range'];omega
  ·rcases lk_append hv with hv | hv
   ·exact facOf_vals h4 (fun j hj=>hall j (List.mem_range.1 hj)) t v hv
   ·exact h3 t v hv
 intro fuel
 induction fuel with
 | zero =>
  intro S a w hS ho hi htu
  have:=open_zero (Nat.le_zero.1 ho) hkl
  rw [htu k (Nat.le_refl _)] at this;cases this
 | succ fuel ih =>
  intro S a w hS ho hi htu
  by_cases hopen:open_ S k=0
  ·exact done _ S a w hS ho (fun j hj=>open_zero hopen hj) htu hi
  obtain ⟨j0,hj0,hj0f⟩:∃ j,j<k∧S.getD j false=false:=by
   by_cases hex:∃ j,j<k∧S.getD j false=false
   ·exact hex
   ·exfalso
    apply hopen
    unfold open_
    rw [List.length_eq_zero_iff,List.filter_eq_nil_iff]
    intro j hj
    cases hc:S.getD j false with
    | true=>simp
    | false=>exact absurd ⟨j,List.mem_range.1 hj,hc⟩ hex
  refine ⟨fun hrd=>absurd (ready_nil hS hb hrd k hkl) (by rw [htu k (Nat.le_refl _)];simp),fun i hir=>?_⟩
  obtain ⟨hil,hx0,o,hloF,hx3⟩:=ready_at hS hir
  have his:i<S.size:=by omega
  obtain ⟨b,s,h1,h2,h3,h4,h5,h6,h7,h8⟩:=hi
  have hik:i<k:=by
   rcases Nat.lt_or_ge i k with hh | hh
   ·exact hh
   ·exfalso
    by_cases hek:i=k
    ·subst hek
     have:=down_listed hre h8 hloF hx3 i j0 (by omega) hj0
     rw [hj0f] at this;cases this
    ·have:=edge_listed hx3 (hch i o (by omega) hloF)
     rw [htu (i-1) (by omega)] at this;cases this
  have hx2:l.toArray[i]? = some o:=by simpa using hloF
  have hlo:(l.take k)[i]? = some o:=by rw [List.getElem?_take_of_lt hik];exact hloF
  obtain ⟨kd,hk,hob⟩:=obs_get hO hlo
  have hneed:=oneB_spec (allB_get ha hlo hk)
  have hcnt:open_ (S.setIfInBounds i true) l.length≤fuel:=by have:=open_set hil his hx0;omega
  have hsz:(S.setIfInBounds i true).size=l.length:=by simpa using hS
  have htu2:∀ t,k≤t→(S.setIfInBounds i true).getD t false=false:=fun t ht=>by rw [getD_set_other (by omega)];exact htu t ht
  have h8k:∀ j o' i',S.getD j false=true→(l.take k)[j]? = some o'→edge o' i'=true→S.getD i' false=true:=fun j o' i' hj hjo he=>by
   refine h8 j o' i' hj ?_ he
   rw [List.getElem?_take] at hjo
   split at hjo
   ·exact hjo
   ·cases hjo
  have env:Env n (facOf kds b kd.need++(L++fullL a)) a:=by
   refine ⟨h1,h2,fun t v hv=>?_⟩
   rcases lk_append hv with hv | hv
   ·exact facOf_vals h4 (fun j hj=>edge_listed hx3 (hneed j hj)) t v hv
   ·rcases lk_append hv with hv | hv
    ·exact h3 t v hv
    ·exact lk_full_val hv
  have out:∀ (a':Act),a'.tmps.size=n→∀ t,¬ t<a.tmps.size→a'.tmps.getD t undef=a.tmps.getD t undef:=by
   intro a' hz t hts
   have:¬ t<a'.tmps.size:=by rw [hz,←h1];exact hts
   rw [Array.getD_eq_getD_getElem?,Array.getD_eq_getD_getElem?]
   simp [hts,this]
  have kp:∀ (a':Act) (d:Nat) (v:Value),Env n ((d,v)::(facOf kds b kd.need++(L++fullL a))) a'→∀ t,t≠d→a'.tmps.getD t undef=a.tmps.getD t undef:=by
   intro a' d v he t htd
   by_cases hts:t<a.tmps.size
   ·obtain ⟨u,hu⟩:=lk_cover (A:=facOf kds b kd.need) (lk_cover (A:=L) ⟨_,lk_full a t hts⟩)
    rw [env.vals t u hu]
    refine he.vals t _ ?_
    rw [lk_cons,if_neg (fun e=>htd e.symm)]
    exact hu
   ·exact out a' he.size t hts
  have kp0:∀ (a':Act),Env n (facOf kds b kd.need++(L++fullL a)) a'→∀ t,a'.tmps.getD t undef=a.tmps.getD t undef:=by
   intro a' he t
   by_cases hts:t<a.tmps.size
   ·obtain ⟨u,hu⟩:=lk_cover (A:=facOf kds b kd.need) (lk_cover (A:=L) ⟨_,lk_full a t hts⟩)
    rw [env.vals t u hu]
    exact he.vals t _ hu
   ·exact out a' he.size t hts
  have other:∀ j,j≠i→(S.setIfInBounds i true).getD j false=S.getD j false:=fun j hj=>getD_set_other (fun e=>hj e.symm)
  have closed:∀ j o' i',(S.setIfInBounds i true).getD j false=true→l[j]? = some o'→edge o' i'=true→(S.setIfInBounds i true).getD i' false=true:=by
   intro j o' i' hj hjo he
   refine getD_set_true ?_
   by_cases hji:j=i
   ·subst hji
    rw [hloF] at hjo;cases hjo
    exact edge_listed hx3 he
   ·rw [other j hji] at hj
    exact h8 j o' i' hj hjo he
  have hsk:∀ k,kd.rank=some k→s=k:=by
   intro k hkk
   have hle:¬ k<s:=fun hlt=>by have:=(h5 i kd k hk hkk).2 hlt;rw [hx0] at this;cases this
   cases k with
   | zero=>omega
   | succ k =>
    obtain ⟨j,hje,hjr⟩:=boundB_rank hbo hk hlo hkk
    obtain ⟨kd',hj1,hj2⟩:=rankAt_of hjr
    have:=(h5 j kd' k hj1 hj2).1 (reach_listed h8k hlo hx3 hje)
    omega
  have ranks:∀ k,kd.rank=some k→∀ j kd' k',kds[j]? = some kd'→kd'.rank=some k'→((S.setIfInBounds i true).getD j false=true↔k'<k+1):=by
   intro k hkk j kd' k' hj hk'
   by_cases hji:j=i
   ·subst hji
    rw [hk] at hj;cases hj
    rw [hkk] at hk';cases hk'
    rw [getD_set_same his];simp
   ·rw [other j hji,h5 j kd' k' hj hk']
    have hs:=hsk k hkk
    have hne:k'≠k:=fun e=>by subst e;exact hji (ranksB_one hr hj hk' hk hkk)
    omega
  have ranks0:kd.rank=none→∀ j kd' k',kds[j]? = some kd'→kd'.rank=some k'→((S.setIfInBounds i true).getD j false=true↔k'<s):=by
   intro hkn j kd' k' hj hk'
   have hji:j≠i:=fun e=>by subst e;rw [hk] at hj;cases hj;rw [hkn] at hk';cases hk'
   rw [other j hji];exact h5 j kd' k' hj hk'
  have below:∀ j kd',S.getD j false=true→kds[j]? = some kd'→kd'.bound≤s:=by
   intro j kd' hj hj'
   have rk:∀ k,kd'.rank=some k→k+1≤s:=fun k hkk=>(h5 j kd' k hj' hkk).1 hj
   cases kd' with
   | st k dv need=>exact rk k rfl
   | al k d v need=>exact rk k rfl
   | q d v need lo hi =>
    have hjl:j<(l.take k).length:=by rw [←allB_len ha];exact (List.getElem?_eq_some_iff.1 hj').1
    have hjo:(l.take k)[j]? = some (l.take k)[j]:=List.getElem?_eq_getElem hjl
    cases lo with
    | zero=>exact Nat.zero_le _
    | succ k =>
     obtain ⟨i',hie,hir'⟩:=(boundB_spec hbo hj' hjo).1 k rfl
     obtain ⟨kd2,hi1,hi2⟩:=rankAt_of hir'
     exact (h5 i' kd2 k hi1 hi2).1 (reach_closed h8k _ _ _ hie hj)
  have putL:∀ (b':Gh) (d:Nat) (v:Value) (a':Act),kd.dst=some d→kd.val b'=v→(∀ k,k<s→b k=b' k)→Env n ((d,v)::(facOf kds b kd.need++(L++fullL a))) a' →
    (∀ t u,lk L t=some u→a'.tmps.getD t undef=u)∧(∀ j kd' d',(S.setIfInBounds i true).getD j false=true→kds[j]? = some kd'→kd'.dst=some d'→a'.tmps.getD d' undef=kd'.val b'):=by
   intro b' d v a' hd hv hbb he
   refine ⟨fun t u hu=>?_,fun j kd' d' hj hj' hd'=>?_⟩
   ·rw [kp a' d v he t (apartB_keys hap hk hd t (lk_mem_keys hu))];exact h3 t u hu
   ·by_cases hji:j=i
    ·subst hji
     rw [hk] at hj';cases hj'
     rw [hd] at hd';cases hd'
     rw [hv]
     exact he.vals _ _ (by rw [lk_cons,if_pos rfl])
    ·rw [other j hji] at hj
     rw [kp a' d v he d' (apartB_dst hap hj' hd' hk hd hji),h4 j kd' d' hj hj' hd']
     have hbd:=below j kd' hj hj'
     exact fixes_get hfx hj' b b' fun k hkl=>hbb k (by omega)
  refine wpOp_of hx2 ?_
  cases kd with
  | q d v need lo hi =>
   obtain ⟨hlo1,hhi1⟩:=boundB_spec hbo hk hlo
   have hls:lo≤s:=by
    cases lo with
    | zero=>exact Nat.zero_le _
    | succ k =>
     obtain ⟨j,hje,hjr⟩:=hlo1 k rfl
     obtain ⟨kd',hj1,hj2⟩:=rankAt_of hjr
     exact (h5 j kd' k hj1 hj2).1 (reach_listed h8k hlo hx3 hje)
   have hsh:s≤hi:=by
    rcases hhi1 with h | ⟨j,hjr,hje⟩
    ·omega
    ·obtain ⟨kd',hj1,hj2⟩:=rankAt_of hjr
     have:¬ hi<s:=fun hlt=>by
      have hc:=reach_closed h8k _ _ _ hje ((h5 j kd' hi hj1 hj2).2 hlt)
      rw [hx0] at hc;cases hc
     omega
   refine hob (fullL a) b s _ hls hsh (fun a' w' he hw'=>ih _ a' w' hsz hcnt ?_ htu2) a w env h7
   obtain ⟨p1,p2⟩:=putL b d _ a' rfl rfl (fun _ _=>rfl) he
   exact ⟨b,s,he.size,he.defs,p1,p2,ranks0 rfl,h6,hw',closed⟩
  | st k dv need =>
   have hs:=hsk k rfl
   subst hs
   refine hob (fullL a) b _ (fun a' w' he hw'=>ih _ a' w' hsz hcnt ?_ htu2) a w env h7
   cases dv with
   | none=>exact ⟨b,_,he.size,he.defs,fun t u hu=>by rw [kp0 a' he];exact h3 t u hu,fun j kd' d' hj hj' hd'=>by
     have hji:j≠i:=fun e=>by subst e;rw [hk] at hj';cases hj';cases hd'
     rw [other j hji] at hj
     rw [kp0 a' he];exact h4 j kd' d' hj hj' hd',ranks _ rfl,ranksB_lt hr hk rfl,hw',closed⟩
   | some x =>
    obtain ⟨d,v⟩:=x
    obtain ⟨p1,p2⟩:=putL b d _ a' rfl rfl (fun _ _=>rfl) he
    exact ⟨b,_,he.size,he.defs,p1,p2,ranks _ rfl,ranksB_lt hr hk rfl,hw',closed⟩
  | al k d v need =>
   have hs:=hsk k rfl
   subst hs
   refine hob (fullL a) b _ (fun x a' w' he hw'=>ih _ a' w' hsz hcnt ?_ htu2) a w env h7
   obtain ⟨p1,p2⟩:=putL (updG b s x) d _ a' rfl rfl (fun j hj=>(updG_lt hj).symm) he
   exact ⟨updG b s x,_,he.size,he.defs,p1,p2,ranks _ rfl,ranksB_lt hr hk rfl,hw',closed⟩
theorem at_invT{id:Nat}{l:List Oper}(kds:List Kd)(Wm:Gh→Nat→World→Prop)(tot k:Nat)(hm:P.follows .mixedOrders=true)
  (hb:backB l=true) (htl:tailB l k=true) (ha:allB n kds kds (l.take k)=true) (hap:apartB (L.map (·.1)) kds=true) (hr:ranksB kds tot=true) (hfx:fixes kds) (hbo:boundB kds (l.take k) tot=true)
  (hW:∀ w,W w→∃ b,Wm b 0 { w with drawn:=w.drawn+1 }) (hO:Obs n L P l.toArray kds Wm kds (l.take k))
  (fin:∀ b,At n (facOf kds b (List.range k)++L) (Wm b tot) (wpList P l.toArray Q (l.drop k))):At n L W ((Code.region id l.toArray true).wp P Q):=fun a w h hw=>by
 obtain ⟨b,hw0⟩:=hW w hw
 have hrep:∀ j,(Array.replicate l.toArray.size false).getD j false=false:=fun j=>by
  rw [Array.getD_eq_getD_getElem?,Array.getElem?_replicate];split<;>rfl
 refine wp_region_any hm (inv_goT hb htl ha hap hr hfx hbo hO fin _ _ a _ (by simp) ?_ ⟨b,0,h.size,h.defs,h.vals,fun j kd d hj=>?_,fun j kd k _ _=>?_,Nat.zero_le _,hw0,fun j o i hj=>?_⟩ fun t _=>hrep t)
 ·unfold open_
  exact Nat.le_trans (List.length_filter_le ..) (by simp)
 ·rw [hrep] at hj;cases hj
 ·rw [hrep];simp
 ·rw [hrep] at hj;cases hj
section
variable {n : Nat} {L : List (Nat × Value)} {w0 w : World} {H G : List Ent} {E E' : Ent} {f : Ent → List Ent} {P : Program} {ops : Array Oper} {Q : Exit → Act → World → Prop} {rest : List Oper} {d : Nat} {ty : TypeId} {pos : String} {aft : Array Edge}
end
section
variable {n : Nat} {L : List (Nat × Value)} {ops : Array Oper} {Q : Exit → Act → World → Prop} {rest : List Oper} {w0 : World} {H : List Ent} {P : Program} {d : Nat} {ty : TypeId} {pos : String} {aft : Array Edge} {t e : TypeId}
theorem at_lit0{α:Type}(c:Cd α)(ht:P.underlying t=some (.slice e))(hz:∀ w,(sizeOf e).run P w=.ok c.sz w)(hdn:Nat.blt d n=true)
  (k:∀ b,At n ((d,.slice (some ⟨b,0,none⟩) ([]:List α).length 0)::L) (Wd w0 (rowE c e (some ⟨b,0,none⟩) 0 []::H)) (wpList P ops Q rest)) :
  At n L (Wd w0 H) (wpList P ops Q (⟨some d,.buildSlice t 0 #[],ty,pos,aft,none⟩::rest)) :=
 at_any (W':=fun v w'=>∃ b,v=.slice (some ⟨b,0,none⟩) ([]:List α).length 0∧Wd w0 (rowE c e (some ⟨b,0,none⟩) 0 []::H) w') rfl rfl hdn (fun a w h hw=>by
  have hw2:(w.alloc (.cells #[] e)).heap[w.heap.size]? = some (.cells #[] e (0,0)):=heap_alloc_new w _
  refine ⟨_,w.alloc (.cells #[] e),?_,w.heap.size,rfl,hw.pushOwn ((Below.refl _ _).alloc (Nat.le_refl _) _) ⟨by simp [Cd.all],.inr ⟨w.heap.size,0,#[],rfl,Nat.le_refl _,hw2,Nat.le_refl _,Nat.zero_le _,by simp,by simp [Cd.all]⟩⟩⟩
  simp [execOp,Instr.buildSlice,Sem.run_bind,run_underlying ht,hz,Instr.fill,newRow,newObj,Sem.run]
  simp [Array.range]) fun v a w h ⟨b,hv,hw⟩=>by subst hv;exact k b a w h hw
end
end Go.Proofs.YtahlbjmafceoeaaGreatDoor.E
namespace Go.Proofs.YtahlbjmafceoeaaGreatDoor.E
open Go.RowKit
variable {n : Nat} {L L' : List (Nat × Value)} {a : Act} {W : World → Prop} {P : Program} {ops : Array Oper} {Q : Exit → Act → World → Prop} {rest : List Oper} {w0 : World} {H : List Ent}
variable {α β γ : Type}
theorem at_callee{f:FuncId}{dst:Option Nat}{x:Operand}{xs:Array Operand}{ats:Array TypeId}{ty:TypeId}{pos:String}{aft:Array Edge}{g:Option (Nat×Bool)}(hx:ev L x=some (.func (.func f) #[] #[]))
  (k:At n L W (wpList P ops Q (⟨dst,.call { callee:=.value (.func f),args:=xs,argTypes:=ats },ty,pos,aft,g⟩::rest))) :
  At n L W (wpList P ops Q (⟨dst,.call { callee:=.value x,args:=xs,argTypes:=ats },ty,pos,aft,g⟩::rest)):=fun a w h hw=>by
 have hk:=k a w h hw
 have e2:a.eval x=a.eval (.func f):=by rw [h.eval hx];rfl
 have e1:execOp a.eval (⟨dst,.call { callee:=.value x,args:=xs,argTypes:=ats },ty,pos,aft,g⟩:Oper)=execOp a.eval (⟨dst,.call { callee:=.value (.func f),args:=xs,argTypes:=ats },ty,pos,aft,g⟩:Oper):=by
  simp only [execOp,resolve,e2]
 have e3:∀ K Q',Oper.wp P (⟨dst,.call { callee:=.value x,args:=xs,argTypes:=ats },ty,pos,aft,g⟩:Oper) a w K Q'=Oper.wp P (⟨dst,.call { callee:=.value (.func f),args:=xs,argTypes:=ats },ty,pos,aft,g⟩:Oper) a w K Q':=fun K Q'=>by
  unfold Oper.wp
  rw [e1];rfl
 have e4:Oper.asks P (⟨dst,.call { callee:=.value x,args:=xs,argTypes:=ats },ty,pos,aft,g⟩:Oper) a w=Oper.asks P (⟨dst,.call { callee:=.value (.func f),args:=xs,argTypes:=ats },ty,pos,aft,g⟩:Oper) a w:=by
  unfold Oper.asks
  rw [e1]
 unfold wpList at hk ⊢
 simp only [e3,e4]
 exact hk
def NRow(c:Cd (γ×α))(N:World→γ×α→Prop)(w:World)(p:Option Addr)(cap:Nat)(xs:List α):Prop :=
 ∃ zs:List (γ×α),zs.map Prod.snd=xs∧Row c w p cap zs∧∀ z∈zs,N w z
theorem zlen{zs:List (γ×α)}{xs:List α}(hz:zs.map Prod.snd=xs):zs.length=xs.length:=by rw [←hz,List.length_map]
theorem zidx{zs:List (γ×α)}{xs:List α}{i:Int}(hz:zs.map Prod.snd=xs)(hi:0≤i∧i<xs.length):0≤i∧i<zs.length:=by rw [zlen hz];exact hi
theorem zget[Inhabited γ][Inhabited α]{zs:List (γ×α)}{xs:List α}(hz:zs.map Prod.snd=xs)(i:Int):∃ g,lget zs i=(g,lget xs i):=by
 refine ⟨(lget zs i).1,?_⟩
 have:lget xs i=(lget zs i).2:=by
  subst hz
  unfold lget
  rw [List.getD_eq_getElem?_getD,List.getD_eq_getElem?_getD,List.getElem?_map]
  cases zs[i.toNat]?<;>rfl
 rw [this]
theorem zmem[Inhabited α]{zs:List α}{i:Int}(hi:0≤i∧i<zs.length):lget zs i∈zs:=List.mem_of_getElem? (lget_some hi)
theorem nz[Inhabited γ][Inhabited α]{N:World→γ×α→Prop}{w:World}{zs:List (γ×α)}{z:γ×α}{i:Int}(hg:lget zs i=z)(hn:∀ z∈zs,N w z)(hi:0≤i∧i<zs.length):N w z:=hg▸hn _ (zmem hi)
theorem NRow.below{c:Cd (γ×α)}{N:World→γ×α→Prop}{w w':World}{p:Option Addr}{cap:Nat}{xs:List α}(h:NRow c N w p cap xs)(hb:Below w.heap.size w w')(hN:∀ z,N w z→N w' z):NRow c N w' p cap xs:=by
 obtain ⟨zs,h1,h2,h3⟩:=h
 exact ⟨zs,h1,h2.below hb,fun z hz=>hN z (h3 z hz)⟩
theorem NRow.nil(c:Cd (γ×α))(N:World→γ×α→Prop)(w:World)(p:Option Addr)(cap:Nat):NRow c N w p cap []:=⟨[],rfl,Row.nil ..,by simp⟩
theorem ncell[Inhabited γ][Inhabited α]{c:Cd (γ×α)}{p:Option Addr}{cap:Nat}{zs:List (γ×α)}{z:γ×α}{i:Int}{b o:Nat}(hW:∀ w,W w→Below w0.heap.size w0 w)(hrow:Row c w0 p cap zs)(hi:0≤i∧i<zs.length)(hp:p=some ⟨b,o,none⟩)(hg:lget zs i=z) :
  ∀ w,W w→∀ k v,(c.cs z)[k]? = some v→w.cell? ⟨b,o+i.toNat*c.sz+k,none⟩=some v:=by
 subst hg;exact row_cell hW hrow hi hp
theorem nlens[Inhabited γ][Inhabited α]{c:Cd (γ×α)}{c':Cd β}{y:β}{put:β→List Value}{ofs:Nat}{p:Option Addr}{cap:Nat}{zs:List (γ×α)}{z:γ×α}{i:Int}{b o:Nat}(hW:∀ w,W w→Below w0.heap.size w0 w)(hrow:Row c w0 p cap zs)(hi:0≤i∧i<zs.length)(hp:p=some ⟨b,o,none⟩)(hg:lget zs i=z)
  (l:Lens (c.cs z) ofs c' y put):∀ w,W w→∀ j v,(c'.cs y)[j]? = some v→w.cell? ⟨b,o+i.toNat*c.sz+ofs+j,none⟩=some v:=by
 subst hg;exact row_lens hW hrow hi hp l
theorem nlens0[Inhabited γ][Inhabited α]{c:Cd (γ×α)}{c':Cd β}{y:β}{v:Value}{put:β→List Value}{ofs:Nat}{p:Option Addr}{cap:Nat}{zs:List (γ×α)}{z:γ×α}{i:Int}{b o:Nat}(hW:∀ w,W w→Below w0.heap.size w0 w)(hrow:Row c w0 p cap zs)(hi:0≤i∧i<zs.length)(hp:p=some ⟨b,o,none⟩)(hg:lget zs i=z)
  (l:Lens (c.cs z) ofs c' y put) (hv:c'.cs y=[v]):∀ w,W w→w.cell? ⟨b,o+i.toNat*c.sz+ofs,none⟩=some v:=by
 subst hg;exact row_lens0 hW hrow hi hp l hv
def OpnW(P:Program)(t:TypeId)(c:Cd α)(ok:World→α→Prop):Prop :=
 ∀ {H:Type} (enc:TypeId×Value→H) (w:World) (base:Nat) (spare:Nat→Bool) (held:Bool) (fuel:Nat) (cs:List Value) (d:DataW H) (ps:List MemPlace),
  DataW.trod enc P w base spare held fuel t cs=some (d,ps)→∃ x,cs=c.cs x∧ok w x
theorem opn_up{t:TypeId}{c:Cd α}{ok:α→Prop}(h:Opn P t c ok):OpnW P t c (fun _=>ok):=fun enc w base spare held fuel cs d ps hd=>h enc w base spare held fuel cs d ps hd
theorem row_trod[Inhabited α]{Hh:Type}{enc:TypeId×Value→Hh}{w:World}{base:Nat}{spare:Nat→Bool}{held:Bool}{fuel:Nat}{t e:TypeId}{c:Cd α}{ok:World→α→Prop}{cs:List Value}{d:DataW Hh}{ps:List MemPlace}(ht:P.underlying t=some (.slice e))(hz:P.cellsOf e=c.sz)(ho:OpnW P e c ok)
  (hf:DataW.trod enc P w base spare held fuel t cs=some (d,ps)):∃ (a:Option Addr) (cap:Nat) (xs:List α),cs=[.slice a xs.length cap]∧Row c w a cap xs∧∀ x∈xs,ok w x:=by
 rcases DataW.trod_slice ht hf with ⟨h0,_⟩ | ⟨x,len,cap,elems,rest,n,_,h0,_,hb,hl,hm,hlen,hel,_,_⟩
 ·exact ⟨none,0,[],h0,Row.nil ..,by simp⟩
 ·have each:∀ i,i<len→∃ y,(ok w y∧∀ r,r<c.sz→w.cell? ((x.add (i*c.sz)).add r)=(c.cs y)[r]?):=by
   intro i hi
   have h1:=hel i hi
   rw [List.getElem?_eq_getElem (by omega),hz] at h1
   obtain ⟨cs,hcs,htr⟩:=Option.bind_eq_some_iff.1 h1
   obtain ⟨y,hy,oy⟩:=ho enc w base spare held n cs _ _ htr
   obtain ⟨_,hlc,hce⟩:=World.cells?_some hcs
   exact ⟨y,oy,fun r hr=>by rw [hce r hr,hy]⟩
  obtain ⟨xs,hxl,hxs⟩:=pick_list len each
  refine ⟨some x,cap,xs,by rw [hxl];exact h0,⟨by omega,?_⟩,fun y hy=>?_⟩
  ·cases xs with
   | nil=>exact .inl rfl
   | cons z zs =>
    right
    have h00:=(hxs 0 z rfl).2 0 c.pos
    have hcell:w.cell? (x.add 0)=(c.cs z)[0]?:=by
     have e0:(x.add (0*c.sz)).add 0=x.add 0:=by simp [Addr.add]
     rw [e0] at h00;exact h00
    have hz0:∃ v,(c.cs z)[0]? = some v:=⟨_,List.getElem?_eq_getElem (by rw [c.len];exact c.pos)⟩
    obtain ⟨v,hv⟩:=hz0
    rw [hv] at hcell
    have hspot:x.spot=none:=by
     have e0:x.add 0=x:=by simp [Addr.add]
     rw [e0] at hcell
     unfold World.cell? at hcell
     split at hcell
     ·split at hcell
      ·cases hcell
      ·next hs=>simpa using hs
     ·cases hcell
    obtain ⟨b,o,sp⟩:=x
    simp only at hspot;subst hspot
    refine ⟨b,o,rfl,fun j u hu=>?_⟩
    have hj:j<(z::zs).length*c.sz:=by
     have:=(List.getElem?_eq_some_iff.1 hu).1
     rw [Cd.all_len] at this;exact this
    have hdiv:j/c.sz<(z::zs).length:=Nat.div_lt_of_lt_mul (by rw [Nat.mul_comm];exact hj)
    have hmod:j%c.sz<c.sz:=Nat.mod_lt _ c.pos
    have hjj:j=j/c.sz*c.sz+j%c.sz:=by rw [Nat.mul_comm];exact (Nat.div_add_mod j c.sz).symm
    obtain ⟨y,hy⟩:∃ y,(z::zs)[j/c.sz]? = some y:=⟨_,List.getElem?_eq_getElem hdiv⟩
    rw [hjj,Cd.all_get c _ _ _ y hy hmod] at hu
    have:=(hxs _ y hy).2 _ hmod
    rw [hu,Addr.add_lit,Addr.add_lit,Nat.add_assoc,←hjj] at this
    exact this
  ·obtain ⟨i,hi⟩:=List.getElem?_of_mem hy
   exact (hxs i y hi).1
theorem open_aggw{Hh:Type}{enc:TypeId×Value→Hh}{w:World}{base:Nat}{spare:Nat→Bool}{held:Bool}{t:TypeId}{c:Cd α}{ok:World→α→Prop}{v:Value}{d:DataW Hh}{ps:List MemPlace}(h:OpnW P t c ok)(hv:∃ cs,v=.agg cs)(hd:DataW.Trod enc P w base spare held t v d ps) :
  ∃ x,v=.agg (c.cs x).toArray∧ok w x:=by
 obtain ⟨cs,rfl⟩:=hv
 obtain ⟨fuel,hf⟩:=hd
 obtain ⟨x,hx,ho⟩:=h enc w base spare held fuel _ _ _ hf
 refine ⟨x,?_,ho⟩
 congr 1
 apply Array.toList_inj.1
 exact hx
theorem NRow.len{c:Cd (γ×α)}{N:World→γ×α→Prop}{w:World}{p:Option Addr}{cap:Nat}{xs:List α}(h:NRow c N w p cap xs):xs.length≤cap:=by
 obtain ⟨zs,hz,hr,_⟩:=h
 rw [←zlen hz];exact hr.len
theorem NRow.sub{c:Cd (γ×α)}{N:World→γ×α→Prop}{w:World}{p:Option Addr}{cap:Nat}{xs:List α}{l h:Int}(hr:NRow c N w p cap xs)(hb:0≤l∧l≤h∧h≤xs.length) :
  NRow c N w (rsp p cap l c.sz) (cap-l.toNat) (lsub xs l h):=by
 obtain ⟨zs,hz,hrow,hn⟩:=hr
 refine ⟨lsub zs l h,?_,hrow.sub (by rw [zlen hz];exact hb),fun z hm=>hn z ?_⟩
 ·rw [←hz];unfold lsub;rw [List.map_drop,List.map_take]
 ·unfold lsub at hm
  exact List.mem_of_mem_take (List.mem_of_mem_drop hm)
theorem r_resliceN{d:Nat}{t e:TypeId}{x:Operand}{ty:TypeId}{pos:String}{aft:Array Edge}{p:Option Addr}{cap:Nat}{c:Cd (γ×α)}{lo hi:Option Operand}{xs:List α}{l h:Int}(ht:P.underlying t=some (.slice e))(hz:∀ w,(sizeOf e).run P w=.ok c.sz w)(hx:ev L x=some (.slice p xs.length cap))(hc:xs.length≤cap)
  (hlo:match lo with | none=>l=0 | some y=>∃ k,ev L y=some (.int k l)) (hhi:match hi with | none=>h=xs.length | some y=>∃ k,ev L y=some (.int k h)) (hb:0≤l∧l≤h∧h≤xs.length) :
  Runs n L W P (⟨some d,.slice t x lo hi none,ty,pos,aft,none⟩) (.slice (rsp p cap l c.sz) (lsub xs l h).length (cap-l.toNat)):=fun a w he _=>by
 have hlen:=lsub_length hb
 obtain ⟨h1,h2,h3⟩:=hb
 have h0:0≤h:=by omega
 have h4:h≤(cap:Int):=by omega
 simp only [execOp,he.eval hx]
 rw [hlen]
 cases lo<;>cases hi<;>simp only at hlo hhi
 ·subst hlo hhi
  simp [Instr.sliceAt,Instr.slice,Instr.sliceBounds,run_underlying ht,hz,rsp]
 ·obtain ⟨k,hk⟩:=hhi
  subst hlo
  simp [Instr.sliceAt,Instr.slice,Instr.sliceBounds,Instr.sliceBound,asIntOf,run_underlying ht,hz,rsp,he.eval hk,h0,h4]
 ·obtain ⟨k,hk⟩:=hlo
  subst hhi
  simp [Instr.sliceAt,Instr.slice,Instr.sliceBounds,Instr.sliceBound,asIntOf,run_underlying ht,hz,rsp,he.eval hk,h1,h2]
 ·obtain ⟨k,hk⟩:=hlo
  obtain ⟨k',hk'⟩:=hhi
  have e1:(h.toNat:Int)=h:=Int.toNat_of_nonneg h0
  simp [Instr.sliceAt,Instr.slice,Instr.sliceBounds,Instr.sliceBound,asIntOf,run_underlying ht,hz,rsp,he.eval hk,he.eval hk',h0,h1,h2,h4,e1]
end Go.Proofs.YtahlbjmafceoeaaGreatDoor.E
namespace Go.Proofs.YtahlbjmafceoeaaGreatDoor.E
open Go.RowKit
variable {n : Nat} {L L' : List (Nat × Value)} {a : Act} {W : World → Prop} {P : Program} {ops : Array Oper} {Q : Exit → Act → World → Prop} {rest : List Oper} {w0 : World} {H : List Ent}
variable {α β γ ν : Type}
abbrev nn(_:Nat):Option Addr:=none
def pv(g:Nat→Nat)(x:Option Nat):Value:=.pointer (x.map fun i=>⟨g i,0,none⟩)
theorem at_enterF{X:Act→World→Prop}{w:World}(hw:Wd w0 H w)(k:At n L (Wd w0 H) X):At n L (fun w'=>w'=w) X:=at_world (fun w1 e=>by subst e;exact hw) k
structure HK (ν:Type) where
 ob:(Nat→Nat)→ν→Obj→Prop
 ptr:ν→List (Option Nat)
 ext:∀ (g g':Nat→Nat) (v:ν) (o:Obj),(∀ i,some i∈ptr v→g' i=g i)→ob g v o→ob g' v o
def heapE(K:HK ν)(g0:Nat→Nat)(n0:Nat)(g:Nat→Nat)(h:List ν):Ent :=
 ⟨(List.range h.length).map g,fun w=>(∀ i v,h[i]? = some v→(∃ o,w.heap[g i]? = some o∧K.ob g v o)∧∀ j,some j∈K.ptr v→j<h.length)∧(∀ i j,i<h.length→j<h.length→g i=g j→i=j)∧n0≤h.length∧∀ i,i<n0→g i=g0 i,
  fun w w' hk ⟨h1,h2⟩=>⟨fun i v hv=>by
   obtain ⟨⟨o,ho,hb⟩,hp⟩:=h1 i v hv
   have hi:i<h.length:=(List.getElem?_eq_some_iff.1 hv).1
   exact ⟨⟨o,(hk (g i) (List.mem_map.2 ⟨i,List.mem_range.2 hi,rfl⟩)).trans ho,hb⟩,hp⟩,h2⟩⟩
variable {K : HK ν} {g0 g : Nat → Nat} {n0 : Nat} {h : List ν} {f : Ent → List Ent} {G : List Ent}
theorem hcell{c:Cd β}{v:ν}{i o t:Nat}{cells:List Value}{y:β}{put:β→List Value}(hu:Upd H (heapE K g0 n0 g h) f G)(hi:h[i]? = some v)(hob:∀ ob,K.ob g v ob→ob=.cells cells.toArray t (0,0))(l:Lens cells o c y put) :
  ∀ w,Wd w0 H w→∀ k u,(c.cs y)[k]? = some u→w.cell? ⟨g i,o+k,none⟩=some u:=fun w hw k u hk=>by
 obtain ⟨⟨ob,ho,hb⟩,_⟩:=(hw.ok hu.mem).1 i v hi
 have e:=hob ob hb
 subst e
 exact cells_get (b:=g i) (t:=t) (cells:=cells) ho _ _ (l.get k u hk)
theorem Sep.swap{B:Nat}{E E':Ent}{w:World}(hu:Upd H E f G)(h:Sep B H w)(hok:E'.ok w)(hfp:∀ k∈E'.fp,k∈E.fp∨(B≤k∧k<w.heap.size∧∀ F∈H,k∉F.fp)):Sep B (f E') w:=by
 induction hu with
 | @z E H =>
  refine ⟨hok,fun k hk=>?_,h.2.2⟩
  rcases hfp k hk with h1 | ⟨a,b,c⟩
  ·exact h.2.1 k h1
  ·exact ⟨a,b,fun F hF=>c F (List.mem_cons_of_mem _ hF)⟩
 | @s F E H f G hu ih =>
  refine ⟨h.1,fun k hk=>⟨(h.2.1 k hk).1,(h.2.1 k hk).2.1,fun F' hF' hk'=>?_⟩,ih h.2.2 fun k hk=>(hfp k hk).imp id fun ⟨a,b,c⟩=>⟨a,b,fun F' hF'=>c F' (List.mem_cons_of_mem _ hF')⟩⟩
  rcases hu.mem' F' hF' with rfl | hF'
  ·rcases hfp k hk' with h1 | ⟨_,_,c⟩
   ·exact (h.2.1 k hk).2.2 E hu.mem h1
   ·exact c F (List.mem_cons_self ..) hk
  ·exact (h.2.1 k hk).2.2 F' hF' hk'
theorem Wd.swap{E E':Ent}{w:World}(hu:Upd H E f G)(h:Wd w0 H w)(hok:E'.ok w)(hfp:∀ k∈E'.fp,k∈E.fp∨(w0.heap.size≤k∧k<w.heap.size∧∀ F∈H,k∉F.fp)):Wd w0 (f E') w :=
 ⟨h.below,h.sep.swap hu hok hfp⟩
theorem Sep.other{B:Nat}{E:Ent}{w:World}(hu:Upd H E f G)(h:Sep B H w):∀ k∈E.fp,∀ F∈G,k∉F.fp:=by
 induction hu with
 | z=>exact fun k hk F hF=>(h.2.1 k hk).2.2 F hF
 | @s F E H f G hu ih =>
  intro k hk F' hF'
  rcases List.mem_cons.1 hF' with rfl | hF'
  ·exact fun hk'=>(h.2.1 k hk').2.2 E hu.mem hk
  ·exact ih h.2.2 k hk F' hF'
theorem Wd.front{E:Ent}{w:World}(hu:Upd H E f G)(h:Wd w0 H w):Wd w0 (E::G) w :=
 ⟨h.below,h.ok hu.mem,fun k hk=>⟨(h.fp hu.mem k hk).1,(h.fp hu.mem k hk).2,h.sep.other hu k hk⟩,(h.drop hu).sep⟩
theorem at_front{X:Act→World→Prop}{E:Ent}(hu:Upd H E f G)(k:At n L (Wd w0 (E::G)) X):At n L (Wd w0 H) X:=at_world (fun _ h=>h.front hu) k
theorem at_ov{X:Act→World→Prop}{t:Nat}{v v':Value}(hg:lk L t=some v)(hv:v=v')(k:At n ((t,v')::L) W X):At n L W X:=fun a w h hw =>
 k a w ⟨h.size,h.defs,fun s u hu=>by
  rw [lk_cons] at hu
  split at hu
  ·next e=>subst e hv;cases hu;exact h.vals _ _ hg
  ·exact h.vals s u hu⟩ hw
section
variable {d : Nat} {ty : TypeId} {pos : String} {aft : Array Edge} {t e s : TypeId} {x y : Operand}
theorem at_callN{fid : FuncId}{fn : Func}{xs : List Operand}{ats : Array TypeId}{l : List Value}{v : Value}{T : List Ent}(hf : P.funcs[fid]? = some fn)(hb : fn.body.isSome = true)(hnm : (fn.name == "runtime.NumGoroutine") = false)
  (hx:evs L xs=some l) (hdn:Nat.blt d n=true) (hc:∀ w,Wd w0 H w→Calls P fid l.toArray w fun e w'=>e=.returned v∧Wd w0 T w')
  (kk:At n ((d,v)::L) (Wd w0 T) (wpList P ops Q rest)) :
  At n L (Wd w0 H) (wpList P ops Q (⟨some d,.call { callee:=.value (.func fid),args:=xs.toArray,argTypes:=ats },ty,pos,aft,none⟩::rest)) :=
 at_call (W':=fun u w'=>u=v∧Wd w0 T w') hf hb hnm hx hdn (fun w hw=>(hc w hw).mono fun e w' ⟨he,hw'⟩=>⟨v,he,rfl,hw'⟩) fun u a w he ⟨hu,hw⟩=>by subst hu;exact kk a w he hw
theorem at_callG{fid : FuncId}{fn : Func}{xs : List Operand}{ats : Array TypeId}{l : List Value}{V : Option Addr → Nat → Value}{T : Option Addr → Nat → List Ent}(hf : P.funcs[fid]? = some fn)(hb : fn.body.isSome = true)(hnm : (fn.name == "runtime.NumGoroutine") = false)
  (hx:evs L xs=some l) (hdn:Nat.blt d n=true) (hc:∀ w,Wd w0 H w→Calls P fid l.toArray w fun e w'=>∃ p cap,e=.returned (V p cap)∧Wd w0 (T p cap) w')
  (kk:∀ p cap,At n ((d,V p cap)::L) (Wd w0 (T p cap)) (wpList P ops Q rest)) :
  At n L (Wd w0 H) (wpList P ops Q (⟨some d,.call { callee:=.value (.func fid),args:=xs.toArray,argTypes:=ats },ty,pos,aft,none⟩::rest)) :=
 at_call (W':=fun u w'=>∃ p cap,u=V p cap∧Wd w0 (T p cap) w') hf hb hnm hx hdn (fun w hw=>(hc w hw).mono fun e w' ⟨p,c,he,hw'⟩=>⟨_,he,p,c,rfl,hw'⟩) fun u a w he ⟨p,c,hu,hw⟩=>by subst hu;exact kk p c a w he hw
variable {c : Cd α} {b cap : Nat} {p : Option Addr} {xs : List α}
end
end Go.Proofs.YtahlbjmafceoeaaGreatDoor.E
namespace Go.Proofs.YtahlbjmafceoeaaGreatDoor.E
open Go.RowKit
variable {n m : Nat} {L Lc : List (Nat × Value)} {W : World → Prop} {P : Program} {ops : Array Oper} {Q : Exit → Act → World → Prop} {rest : List Oper}
theorem calls_enterW{f:FuncId}{fn:Func}{c:Code}{l:List Value}{w:World}{R:Ending→World→Prop}(hf:P.funcs[f]? = some fn)(hb:fn.body=some c)(hn:fn.ntmps=n)(hl:Nat.ble l.length n=true)
  (k:At n (rep l 0) W (c.wp P (bodyPost P fn R))) (hw:W w):Calls P f l.toArray w R:=by
 refine calls_of_wp hf hb ?_
 have hl':l.length≤n:=by simpa using hl
 refine k _ _ ⟨by simp [hn];omega,rfl,fun t v hv=>?_⟩ hw
 obtain ⟨_,h2⟩:=rep_lk l 0 t v hv
 simp only [Nat.sub_zero] at h2
 simp only [Array.getD_eq_getD_getElem?]
 have:t<l.length:=(List.getElem?_eq_some_iff.1 h2).1
 rw [Array.getElem?_append_left (by simpa using this)]
 simp [h2]
def RK(n d:Nat)(Lc:List (Nat×Value))(P:Program)(ops:Array Oper)(Q:Exit→Act→World→Prop)(rest:List Oper):Ending→World→Prop :=
 fun e w'=>∃ v,e=.returned v∧∀ a,Env n ((d,v)::Lc) a→wpList P ops Q rest a w'
theorem at_callI{d : Nat}{fid : FuncId}{fn : Func}{c : Code}{xs : List Operand}{ats : Array TypeId}{ty : TypeId}{pos : String}{aft : Array Edge}{l : List Value}(hf : P.funcs[fid]? = some fn)(hc : fn.body = some c)(hnm : (fn.name == "runtime.NumGoroutine") = false)(hm : fn.ntmps = m)(hx : evs L xs = some l)(hdn : Nat.blt d n = true)(hl : Nat.ble l.length m = true)
  (k:At m (rep l 0) W (c.wp P (bodyPost P fn (RK n d L P ops Q rest)))) :
  At n L W (wpList P ops Q (⟨some d,.call { callee:=.value (.func fid),args:=xs.toArray,argTypes:=ats },ty,pos,aft,none⟩::rest)) :=
 at_call (W':=fun v w'=>∀ a,Env n ((d,v)::L) a→wpList P ops Q rest a w') hf (by rw [hc];rfl) hnm hx hdn (fun w hw=>(calls_enterW hf hc hm hl k hw)) fun v a w h hw=>hw a h
variable {d : Nat} {fn : Func}
theorem at_retI1{t:Nat}{v:Value}(hr:fn.results=#[.tmp t])(hv:lk L t=some v)(k:At n ((d,v)::Lc) W (wpList P ops Q rest)):At m L W (bodyPost P fn (RK n d Lc P ops Q rest) .ret) :=
 at_return1 hr hv fun w hw=>⟨v,rfl,fun a h=>k a w h hw⟩
theorem at_retI0(hr:fn.results=#[])(k:At n ((d,.tuple #[])::Lc) W (wpList P ops Q rest)):At m L W (bodyPost P fn (RK n d Lc P ops Q rest) .normal) :=
 at_return0 hr fun w hw=>⟨_,rfl,fun a h=>k a w h hw⟩
section
variable {f : FuncId} {dst : Option Nat} {x : Operand} {xs : List Operand} {ats : Array TypeId} {ty : TypeId} {pos : String} {aft : Array Edge} {g : Option (Nat × Bool)} {caps : List Value}
theorem exec_callee{a:Act}(he:a.eval x=.func (.func f) #[] caps.toArray) :
  execOp a.eval (⟨dst,.call { callee:=.value x,args:=xs.toArray,argTypes:=ats },ty,pos,aft,g⟩:Oper)=execOp a.eval (⟨dst,.call { callee:=.value (.func f),args:=(xs++caps.map Operand.const).toArray,argTypes:=ats },ty,pos,aft,g⟩:Oper):=by
 have e2:a.eval (.func f)=.func (.func f) #[] #[]:=rfl
 have e3:(caps.map Operand.const).map a.eval=caps:=by
  rw [List.map_map]
  have:(a.eval∘Operand.const)=id:=funext fun v=>rfl
  rw [this,List.map_id]
 simp [execOp,resolve,he,e2,invoke,Deferred.ofValue,e3]
theorem at_calleeC(hx:ev L x=some (.func (.func f) #[] caps.toArray))
  (k:At n L W (wpList P ops Q (⟨dst,.call { callee:=.value (.func f),args:=(xs++caps.map Operand.const).toArray,argTypes:=ats },ty,pos,aft,g⟩::rest))) :
  At n L W (wpList P ops Q (⟨dst,.call { callee:=.value x,args:=xs.toArray,argTypes:=ats },ty,pos,aft,g⟩::rest)):=fun a w h hw=>by
 have hk:=k a w h hw
 have e1:=exec_callee (dst:=dst) (xs:=xs) (ats:=ats) (ty:=ty) (pos:=pos) (aft:=aft) (g:=g) (h.eval hx)
 have e3:∀ K Q',Oper.wp P (⟨dst,.call { callee:=.value x,args:=xs.toArray,argTypes:=ats },ty,pos,aft,g⟩:Oper) a w K Q'=Oper.wp P (⟨dst,.call { callee:=.value (.func f),args:=(xs++caps.map Operand.const).toArray,argTypes:=ats },ty,pos,aft,g⟩:Oper) a w K Q':=fun K Q'=>by
  unfold Oper.wp
  rw [e1];rfl
 have e4:Oper.asks P (⟨dst,.call { callee:=.value x,args:=xs.toArray,argTypes:=ats },ty,pos,aft,g⟩:Oper) a w=Oper.asks P (⟨dst,.call { callee:=.value (.func f),args:=(xs++caps.map Operand.const).toArray,argTypes:=ats },ty,pos,aft,g⟩:Oper) a w:=by
  unfold Oper.asks
  rw [e1]
 unfold wpList at hk ⊢
 simp only [e3,e4]
 exact hk
theorem exec_calleeB{bnds:List Value}{a:Act}(he:a.eval x=.func (.func f) bnds.toArray #[]) :
  execOp a.eval (⟨dst,.call { callee:=.value x,args:=xs.toArray,argTypes:=ats },ty,pos,aft,g⟩:Oper)=execOp a.eval (⟨dst,.call { callee:=.value (.func f),args:=(bnds.map Operand.const++xs).toArray,argTypes:=ats },ty,pos,aft,g⟩:Oper):=by
 have e2:a.eval (.func f)=.func (.func f) #[] #[]:=rfl
 have e3:(bnds.map Operand.const).map a.eval=bnds:=by
  rw [List.map_map]
  have:(a.eval∘Operand.const)=id:=funext fun v=>rfl
  rw [this,List.map_id]
 simp [execOp,resolve,he,e2,invoke,Deferred.ofValue,e3]
theorem at_calleeB{bnds:List Value}(hx:ev L x=some (.func (.func f) bnds.toArray #[]))
  (k:At n L W (wpList P ops Q (⟨dst,.call { callee:=.value (.func f),args:=(bnds.map Operand.const++xs).toArray,argTypes:=ats },ty,pos,aft,g⟩::rest))) :
  At n L W (wpList P ops Q (⟨dst,.call { callee:=.value x,args:=xs.toArray,argTypes:=ats },ty,pos,aft,g⟩::rest)):=fun a w h hw=>by
 have hk:=k a w h hw
 have e1:=exec_calleeB (dst:=dst) (xs:=xs) (ats:=ats) (ty:=ty) (pos:=pos) (aft:=aft) (g:=g) (h.eval hx)
 have e3:∀ K Q',Oper.wp P (⟨dst,.call { callee:=.value x,args:=xs.toArray,argTypes:=ats },ty,pos,aft,g⟩:Oper) a w K Q'=Oper.wp P (⟨dst,.call { callee:=.value (.func f),args:=(bnds.map Operand.const++xs).toArray,argTypes:=ats },ty,pos,aft,g⟩:Oper) a w K Q':=fun K Q'=>by
  unfold Oper.wp
  rw [e1];rfl
 have e4:Oper.asks P (⟨dst,.call { callee:=.value x,args:=xs.toArray,argTypes:=ats },ty,pos,aft,g⟩:Oper) a w=Oper.asks P (⟨dst,.call { callee:=.value (.func f),args:=(bnds.map Operand.const++xs).toArray,argTypes:=ats },ty,pos,aft,g⟩:Oper) a w:=by
  unfold Oper.asks
  rw [e1]
 unfold wpList at hk ⊢
 simp only [e3,e4]
 exact hk
end
theorem r_makeFunc{d:Nat}{f:FuncId}{ty:TypeId}{pos:String}{aft:Array Edge}{xs:List Operand}{vs:List Value}(hx:evs L xs=some vs) :
  Runs n L W P ⟨some d,.makeFunc (.func f) #[] xs.toArray,ty,pos,aft,none⟩ (.func (.func f) #[] vs.toArray):=fun a w h _=>by
 have:=h.evals hx
 simp [execOp,Instr.makeFunc,this]
theorem r_makeFuncB{d:Nat}{f:FuncId}{ty:TypeId}{pos:String}{aft:Array Edge}{xs:List Operand}{vs:List Value}(hx:evs L xs=some vs) :
  Runs n L W P ⟨some d,.makeFunc (.func f) xs.toArray #[],ty,pos,aft,none⟩ (.func (.func f) vs.toArray #[]):=fun a w h _=>by
 have:=h.evals hx
 simp [execOp,Instr.makeFunc,this]
theorem r_pickB{d:Nat}{ty:TypeId}{pos:String}{aft:Array Edge}{c x y:Operand}{b u v:Bool}(hc:ev L c=some (.bool b))(hx:ev L x=some (.bool u))(hy:ev L y=some (.bool v)) :
  Runs n L W P ⟨some d,.pick c x y,ty,pos,aft,none⟩ (.bool (bif b then u else v)) :=
 fun a w h _=>by cases b<;>simp [execOp,h.eval hc,h.eval hx,h.eval hy,asBool]
def cK(k:Nat)(hk:0<k):Cd { l:List Value // l.length=k∧∀ v∈l,v.oneCell'=true }:=⟨k,fun x=>x.1,fun x=>x.2.1,fun x=>x.2.2,hk⟩
theorem at_storeAll{w0:World}{H:List Ent}{b tb k:Nat}{t:TypeId}{x y:Operand}{ty:TypeId}{pos:String}{aft:Array Edge}{cells cs:List Value}{v:Value}{f:Ent→List Ent}{G:List Ent}(hu:Upd H (cellsE b cells tb) f G)(hk:0<k)(h1:cells.length=k∧∀ v∈cells,v.oneCell'=true)(h2:cs.length=k∧∀ v∈cs,v.oneCell'=true)(hz:∀ w,(sizeOf t).run P w=.ok k w)
  (hx:ev L x=some (.pointer (some ⟨b,0,none⟩))) (hy:ev L y=some v) (hv:v.cells=cs.toArray) (kk:At n L (Wd w0 (f (cellsE b cs tb))) (wpList P ops Q rest)) :
  At n L (Wd w0 H) (wpList P ops Q (⟨none,.store t x y,ty,pos,aft,none⟩::rest)) :=
 at_store (c:=cK k hk) (u:=⟨cells,h1⟩) (put:=(cK k hk).cs) (z:=⟨cs,h2⟩) hu (Lens.whole (cK k hk) ⟨cells,h1⟩) hz hx hy hv kk
theorem Own.of_cells{α:Type}{w0 w:World}{H:List Ent}{c:Cd α}{e:TypeId}{b:Nat}{xs:List α}(hw:Wd w0 H w)(hm:cellsE b (c.all xs) e∈H)(hl:Nat.ble xs.length maxLen=true):Own c e w0.heap.size w (some ⟨b,0,none⟩) xs.length xs :=
 ⟨c.all_len xs,.inr ⟨b,xs.length,(c.all xs).toArray,rfl,(hw.fp hm b (by simp [cellsE])).1,hw.ok hm,Nat.le_refl _,Nat.le_of_ble_eq_true hl,by simp [c.all_len],by rw [←c.all_len xs];simp⟩⟩
end Go.Proofs.YtahlbjmafceoeaaGreatDoor.E
namespace Go.Proofs.YtahlbjmafceoeaaGreatDoor.E
open Go.RowKit
variable {n : Nat} {L L' : List (Nat × Value)} {a : Act} {W : World → Prop} {P : Program} {ops : Array Oper} {Q : Exit → Act → World → Prop} {rest : List Oper} {w0 : World} {H G : List Ent} {f : Ent → List Ent}
variable {α β γ : Type} {K K' K'' : Nat → Prop} {s s' s'' : World} {p : Option Addr} {cap : Nat}
structure Mono (K:Nat→Prop) (s:World) (K':Nat→Prop) (s':World):Prop where
 k:∀ b,K b→K' b
 e:∀ b,K b→s'.heap[b]? = s.heap[b]?
theorem Mono.mono(h:Mono K s K' s')(m:Mono K' s' K'' s''):Mono K s K'' s'':=⟨fun b hb=>m.k b (h.k b hb),fun b hb=>(m.e b (h.k b hb)).trans (h.e b hb)⟩
theorem cell_same{w w':World}{b o:Nat}(h:w'.heap[b]? = w.heap[b]?):w'.cell? ⟨b,o,none⟩=w.cell? ⟨b,o,none⟩:=by
 unfold World.cell?;simp only [h]
def RowK(K:Nat→Prop)(c:Cd α)(w:World)(p:Option Addr)(cap:Nat)(xs:List α):Prop :=
 Row c w p cap xs∧(xs=[]∨∃ b o,p=some ⟨b,o,none⟩∧K b)
theorem RowK.mono{c:Cd α}{xs:List α}(h:RowK K c s p cap xs)(m:Mono K s K' s'):RowK K' c s' p cap xs:=by
 obtain ⟨⟨hl,h1⟩,h2⟩:=h
 rcases h2 with rfl | ⟨b,o,hp,hb⟩
 ·exact ⟨⟨hl,.inl rfl⟩,.inl rfl⟩
 ·refine ⟨⟨hl,?_⟩,.inr ⟨b,o,hp,m.k b hb⟩⟩
  rcases h1 with h1 | ⟨b',o',hp',hc⟩
  ·exact .inl h1
  ·rw [hp] at hp'
   cases hp'
   exact .inr ⟨b,o,hp,fun j u hu=>(cell_same (m.e b hb)).trans (hc j u hu)⟩
def NRowK(c:Cd (γ×α))(N:(Nat→Prop)→World→γ×α→Prop)(K:Nat→Prop)(w:World)(p:Option Addr)(cap:Nat)(xs:List α):Prop :=
 ∃ zs:List (γ×α),zs.map Prod.snd=xs∧RowK K c w p cap zs∧∀ z∈zs,N K w z
theorem NRowK.mono_of{c:Cd (γ×α)}{N:(Nat→Prop)→World→γ×α→Prop}{xs:List α}(hN:∀ z,N K s z→N K' s' z)(h:NRowK c N K s p cap xs)(m:Mono K s K' s'):NRowK c N K' s' p cap xs:=by
 obtain ⟨zs,h1,h2,h3⟩:=h
 exact ⟨zs,h1,h2.mono m,fun z hz=>hN z (h3 z hz)⟩
def cSv(α:Type):Cd ((Option Addr×Nat)×List α):=⟨1,fun z=>[.slice z.1.1 z.2.length z.1.2],fun _=>rfl,fun _ v hv=>by simp at hv;subst hv;rfl,by decide⟩
variable {Z : List Nat}
theorem at_lit_row{X:Act→World→Prop}{c:Cd α}{e:TypeId}{b m:Nat}{xs:List α}(hu:Upd H (cellsE b (c.all xs) e) f G)(hm:xs.length=m)(hl:Nat.ble xs.length maxLen=true)(k:At n L (Wd w0 (f (rowE c e (some ⟨b,0,none⟩) m xs))) X):At n L (Wd w0 H) X :=
 at_world (fun w hw=>by
  subst hm
  refine hw.swap hu ?_ fun j hj=>.inl ?_
  ·obtain ⟨h1,h2⟩:=Own.of_cells hw hu.mem hl
   refine ⟨h1,?_⟩
   rcases h2 with h2 | ⟨g,cap',cur,hv,_,r⟩
   ·exact .inl h2
   ·exact .inr ⟨g,cap',cur,hv,Nat.zero_le _,r⟩
  ·simpa [rowE,Value.ownBlock,cellsE] using hj) k
section
variable {d : Nat} {ty : TypeId} {pos : String} {aft : Array Edge} {t e : TypeId}
end
end Go.Proofs.YtahlbjmafceoeaaGreatDoor.E
namespace Go.Proofs.YtahlbjmafceoeaaGreatDoor.E
open Go.RowKit
variable {n : Nat} {L L' : List (Nat × Value)} {a : Act} {W : World → Prop} {P : Program} {ops : Array Oper} {Q : Exit → Act → World → Prop} {rest : List Oper} {w0 : World} {H : List Ent}
variable {κ ν : Type}
def mfind[DecidableEq κ]:List (κ×ν)→κ→Option ν
 | [],_=>none
 | (a,b)::r,k=>if k=a then some b else mfind r k
def mput[DecidableEq κ]:List (κ×ν)→κ→ν→List (κ×ν)
 | [],k,v=>[(k,v)]
 | (a,b)::r,k,v=>if k=a then (k,v)::r else (a,b)::mput r k v
def mget[DecidableEq κ](l:List (κ×ν))(k:κ)(z:ν):ν:=(mfind l k).getD z
def mix[DecidableEq κ]:List (κ×ν)→κ→Nat→Option (Nat×ν)
 | [],_,_=>none
 | (a,b)::r,k,i=>if k=a then some (i,b) else mix r k (i+1)
theorem mix_find[DecidableEq κ]:∀ (l:List (κ×ν)) (k:κ) (i:Nat),(mix l k i).map (·.2)=mfind l k
 | [],_,_=>rfl
 | (a,b)::r,k,i=>by
  unfold mix mfind
  split
  ·rfl
  ·exact mix_find r k (i+1)
theorem mix_none[DecidableEq κ]:∀ (l:List (κ×ν)) (k:κ) (i:Nat) (v:ν),mix l k i=none→mput l k v=l++[(k,v)]
 | [],_,_,_,_=>rfl
 | (a,b)::r,k,i,v,h=>by
  unfold mix at h
  unfold mput
  split at h
  ·cases h
  ·next hk=>rw [if_neg hk,mix_none r k (i+1) v h];rfl
theorem mix_some[DecidableEq κ]:∀ (l:List (κ×ν)) (k:κ) (i j:Nat) (v u:ν),mix l k i=some (j,u)→i≤j∧l[j-i]? = some (k,u)∧mput l k v=l.set (j-i) (k,v)
 | [],_,_,_,_,_,h=>by cases h
 | (a,b)::r,k,i,j,v,u,h=>by
  unfold mix at h
  unfold mput
  split at h
  ·next hk =>
   cases h
   rw [if_pos hk,Nat.sub_self]
   exact ⟨Nat.le_refl _,by rw [hk];rfl,rfl⟩
  ·next hk =>
   obtain ⟨h1,h2,h3⟩:=mix_some r k (i+1) j v u h
   have e:j-i=(j-(i+1))+1:=by omega
   rw [if_neg hk,e,h3]
   exact ⟨by omega,by simpa using h2,by simp⟩
structure KeyLaw [DecidableEq κ] (P:Program) (t:TypeId) (c:Cd κ):Prop where
 chk:∀ e x w,(Instr.checkKey e 10000 t (.agg (c.cs x).toArray)).run P w=.ok () w
 eq:∀ x y w,(Op.equal t (.agg (c.cs x).toArray) (.agg (c.cs y).toArray)).run P w=.ok (decide (x=y)) w
 same:∀ x,Instr.sameBits 10000 (.agg (c.cs x).toArray) (.agg (c.cs x).toArray)=true
 under:∃ d,P.underlying t=some d
def mkv(c:Cd κ)(d:Cd ν)(va:Bool)(p:κ×ν):Value×Value:=(.agg (c.cs p.1).toArray,vOf va (d.cs p.2))
def Ments(c:Cd κ)(d:Cd ν)(va:Bool)(es:List MapEntry)(l:List (κ×ν)):Prop:=es.map (fun e=>(e.key,e.val))=l.map (mkv c d va)
theorem askM[DecidableEq κ]{t:TypeId}{c:Cd κ}{d:Cd ν}{va:Bool}(K:KeyLaw P t c)(k:κ)(w:World):∀ (es:List MapEntry) (l:List (κ×ν)) (i:Nat),Ments c d va es l →
  (Instr.findAsking t (.agg (c.cs k).toArray) es i).run P w=.ok ((mix l k i).map fun q=>(q.1,vOf va (d.cs q.2))) w
 | [],l,i,h=>by
  cases l with
  | nil=>rfl
  | cons p r=>simp [Ments] at h
 | e::es,l,i,h=>by
  cases l with
  | nil=>simp [Ments] at h
  | cons p r =>
   obtain ⟨a,b⟩:=p
   simp only [Ments,List.map_cons,List.cons.injEq,mkv,Prod.mk.injEq] at h
   obtain ⟨⟨h1,h2⟩,h3⟩:=h
   unfold Instr.findAsking mix
   simp only [Sem.run_bind,h1,K.eq,Result.andThen_ok]
   by_cases hk:k=a
   ·simp [hk,h2]
   ·simp only [hk,decide_false,Bool.false_eq_true,if_false]
    exact askM K k w es r (i+1) h3
theorem sameNow_agg(d:TypeDesc)(a:Array Value)(v:Value):Instr.sameNow d (.agg a) v=none:=by
 cases d<;>rfl
theorem find_key[DecidableEq κ]{t:TypeId}{c:Cd κ}{d:Cd ν}{va:Bool}(K:KeyLaw P t c)(k:κ)(w:World)(es:List MapEntry)(l:List (κ×ν))(h:Ments c d va es l) :
  (Instr.findKey t (.agg (c.cs k).toArray) es).run P w=.ok ((mix l k 0).map fun q=>(q.1,vOf va (d.cs q.2))) w:=by
 obtain ⟨td,hu⟩:=K.under
 unfold Instr.findKey
 simp only [Sem.run_bind,run_underlying hu,Result.andThen_ok]
 cases es with
 | nil =>
  cases l with
  | nil=>rfl
  | cons p r=>simp [Ments] at h
 | cons e es =>
  have:Instr.findNow td (.agg (c.cs k).toArray) (e::es) 0=none:=by
   unfold Instr.findNow
   rw [sameNow_agg]
  rw [this]
  exact askM K k w _ _ _ h
def mapE(b:Nat)(c:Cd κ)(d:Cd ν)(va:Bool)(l:List (κ×ν)):Ent :=
 ⟨[b],fun w=>∃ es clock,w.heap[b]? = some (.map es clock)∧Ments c d va es.toList l,fun w w' h ⟨es,cl,h1,h2⟩=>⟨es,cl,(h b (by simp)).trans h1,h2⟩⟩
section
variable {d' : Nat} {ty : TypeId} {pos : String} {aft : Array Edge} {t kt et : TypeId} {x y z : Operand} {b : Nat} {c : Cd κ} {d : Cd ν} {va : Bool} {l : List (κ × ν)} {f : Ent → List Ent} {G : List Ent}
theorem r_lookup[DecidableEq κ]{k:κ}{zv:ν}(ht:P.underlying t=some (.map kt et))(K:KeyLaw P kt c)(hz:∀ w,(zeroValue et).run P w=.ok (vOf va (d.cs zv)) w)(hx:ev L x=some (.map (some b)))(hy:ev L y=some (.agg (c.cs k).toArray))
  (hm:∀ w,W w→(mapE b c d va l).ok w) :
  Runs n L W P (⟨some d',.lookup t x y false,ty,pos,aft,none⟩) (vOf va (d.cs (mget l k zv))):=fun a w h hw=>by
 obtain ⟨es,clock,h1,h2⟩:=hm w hw
 simp only [execOp,h.eval hx,h.eval hy]
 have e1:(Instr.lookup t (.map (some b)) (.agg (c.cs k).toArray) false).run P w=.ok (vOf va (d.cs (mget l k zv))) w:=by
  unfold Instr.lookup
  simp only [Sem.run_bind,run_underlying ht,Result.andThen_ok,MapKept.run_getObj_map h1,Sem.run_pure,K.chk,find_key K k w es.toList l h2]
  unfold mget
  rw [←mix_find l k 0]
  cases mix l k 0 with
  | none=>simp [hz]
  | some q=>simp
 simp [e1]
theorem r_len_map(ht:P.underlying t=some (.map kt et))(hx:ev L x=some (.map (some b)))(hm:∀ w,W w→(mapE b c d va l).ok w) :
  Runs n L W P (⟨some d',.call { callee:=.builtin .len,args:=#[x],argTypes:=#[t] },ty,pos,aft,none⟩) (.int .i64 (l.length:Int)):=fun a w h hw=>by
 obtain ⟨es,clock,h1,h2⟩:=hm w hw
 have hl:es.size=l.length:=by have:=congrArg List.length h2;simpa using this
 have e1:(Builtin.len_ #[t] ty #[.map (some b)]).run P w=.ok (.int .i64 (l.length:Int)) w:=by
  simp [Builtin.len_,run_underlying ht,MapKept.run_getObj_map h1,goInt,hl]
 simp only [execOp,resolve,invoke,builtin,Sem.run_bind,Sem.run_pure,Result.andThen_ok,List.map_toArray,List.map_cons,List.map_nil,h.eval hx,e1]
theorem at_makeMap(c:Cd κ)(d:Cd ν)(va:Bool)(hdn:Nat.blt d' n=true)
  (k:∀ b,At n ((d',.map (some b))::L) (Wd w0 (mapE b c d va ([]:List (κ×ν))::H)) (wpList P ops Q rest)) :
  At n L (Wd w0 H) (wpList P ops Q (⟨some d',.makeMap t none,ty,pos,aft,none⟩::rest)) :=
 at_any (W':=fun v w'=>∃ b,v=.map (some b)∧Wd w0 (mapE b c d va ([]:List (κ×ν))::H) w') rfl rfl hdn (fun a w h hw=>by
  refine ⟨_,w.alloc (.map #[] 0),?_,w.heap.size,rfl,hw.push ((Below.refl _ _).alloc (Nat.le_refl _) _) ⟨#[],0,heap_alloc_new w _,rfl⟩ ?_⟩
  ·simp [execOp,Instr.makeMap,newObj,Sem.run]
  ·intro k hk;simp [mapE] at hk;subst hk;simp) fun v a w h ⟨b,hv,hw⟩=>by subst hv;exact k b a w h hw
theorem at_mapUpdate[DecidableEq κ]{k:κ}{v:ν}{vv:Value}(hu:Upd H (mapE b c d va l) f G)(ht:P.underlying t=some (.map kt et))(K:KeyLaw P kt c)(hx:ev L x=some (.map (some b)))(hy:ev L y=some (.agg (c.cs k).toArray))(hz:ev L z=some vv)(hv:vv=vOf va (d.cs v))
  (kk:At n L (Wd w0 (f (mapE b c d va (mput l k v)))) (wpList P ops Q rest)) :
  At n L (Wd w0 H) (wpList P ops Q (⟨none,.mapUpdate t x y z,ty,pos,aft,none⟩::rest)) :=
 at_unit (W':=Wd w0 (f (mapE b c d va (mput l k v)))) rfl rfl (fun a w h hw=>by
  subst hv
  obtain ⟨es,clock,h1,h2⟩:=hw.ok hu.mem
  have key:∃ es' cl',(Instr.mapUpdate t (.map (some b)) (.agg (c.cs k).toArray) (vOf va (d.cs v))).run P w=.ok () { w with heap:=w.heap.setIfInBounds b (.map es' cl') }∧Ments c d va es'.toList (mput l k v):=by
   unfold Instr.mapUpdate
   simp only [Sem.run_bind,run_underlying ht,Result.andThen_ok,MapKept.run_getObj_map h1,Sem.run_pure,K.chk,find_key K k w es.toList l h2]
   cases hm:mix l k 0 with
   | none =>
    refine ⟨es.push { key:=.agg (c.cs k).toArray,val:=vOf va (d.cs v),born:=clock },clock+1,?_,?_⟩
    ·exact MapKept.run_setObj_map _ h1
    ·rw [mix_none l k 0 v hm]
     simp only [Ments,Array.toList_push,List.map_append,List.map_cons,List.map_nil] at h2 ⊢
     rw [h2];rfl
   | some q =>
    obtain ⟨j,u⟩:=q
    obtain ⟨_,hj,hp⟩:=mix_some l k 0 j v u hm
    rw [Nat.sub_zero] at hj hp
    have hlen:es.size=l.length:=by have:=congrArg List.length h2;simpa using this
    have hjl:j<l.length:=(List.getElem?_eq_some_iff.1 hj).1
    have hje:j<es.size:=by omega
    have hkey:es[j].key=.agg (c.cs k).toArray:=by
     have:=congrArg (fun z:List (Value×Value)=>z[j]?) h2
     simp only [List.getElem?_map,Array.getElem?_toList,hj,Array.getElem?_eq_getElem hje,Option.map_some,mkv,Option.some.injEq,Prod.mk.injEq] at this
     exact this.1
    refine ⟨es.modify j fun e=>{ e with key:=.agg (c.cs k).toArray,val:=vOf va (d.cs v) },clock,?_,?_⟩
    ·simp only [Option.map_some,Array.getElem?_eq_getElem hje,hkey,Option.getD_some,Instr.keyThatStays,K.same,if_true,Sem.run_bind,Sem.run_pure,Result.andThen_ok]
     exact MapKept.run_setObj_map _ h1
    ·rw [hp]
     simp only [Ments] at h2 ⊢
     rw [List.map_set,←h2]
     apply List.ext_getElem?
     intro i
     rw [List.getElem?_map,Array.getElem?_toList,Array.getElem?_modify,List.getElem?_set,List.getElem?_map,Array.getElem?_toList]
     by_cases hij:j=i
     ·subst hij
      simp [hje,mkv]
     ·simp [hij]
  obtain ⟨es',cl',hrun,hm⟩:=key
  have hs:=MapKept.heap_set (o':=.map es' cl') h1
  refine ⟨_,?_,hw.upd (w':={ w with heap:=w.heap.setIfInBounds b (.map es' cl') }) hu (by simp) rfl rfl rfl (fun k hk hk'=>hs.2 k (by intro e;exact hk' (by rw [e];simp [mapE]))) ⟨es',cl',hs.1,hm⟩ fun k hk=>.inl hk⟩
  simp only [execOp,h.eval hx,h.eval hy,h.eval hz]
  simp [hrun]) kk
theorem at_insert[DecidableEq κ]{k:κ}{v:ν}{vv:Value}(hu:Upd H (mapE b c d va l) f G)(ht:P.underlying t=some (.map kt et))(K:KeyLaw P kt c)(hx:ev L x=some (.map (some b)))(hy:ev L y=some (.agg (c.cs k).toArray))(hz:ev L z=some vv)(hv:vv=vOf va (d.cs v))
  (kk:At n L (Wd w0 (f (mapE b c d va (mput l k v)))) (wpList P ops Q rest)) :
  At n L (Wd w0 H) (wpList P ops Q (⟨none,.insert t x y z,ty,pos,aft,none⟩::rest)) :=
 at_mapUpdate (ty:=ty) (pos:=pos) (aft:=aft) hu ht K hx hy hz hv kk
end
theorem run_forIn{body:Nat→Sem Unit}{w:World}:∀ (l:List Nat),(∀ i∈l,(body i).run P w=.ok () w)→(forIn l PUnit.unit (fun i _=>do body i;pure (ForInStep.yield PUnit.unit)):Sem PUnit).run P w=.ok PUnit.unit w
 | [],_=>by simp
 | i::l,h=>by
  rw [List.forIn_cons]
  simp only [Sem.run_bind,h i (List.mem_cons_self ..),Result.andThen_ok,Sem.run_pure]
  exact run_forIn l fun j hj=>h j (List.mem_cons_of_mem _ hj)
theorem keylaw_vec{t e:TypeId}{k:IntKind}{m dp:Nat}{hm:0<m}(ht:P.underlying t=some (.array m e))(he:P.underlying e=some (.int k))(hz:∀ w,(sizeOf e).run P w=.ok 1 w)(ha:∀ w,(isAgg e).run P w=.ok false w)
  (hq:Eqs P t (cVec (cInt k) m hm) true dp) (hdp:dp≤9999):KeyLaw P t (cVec (cInt k) m hm) where
 chk:=fun em x w=>by
  unfold Instr.checkKey
  simp only [Sem.run_bind,run_underlying ht,Result.andThen_ok]
  rw [Std.Legacy.Range.forIn_eq_forIn_range']
  have key:=run_forIn (P:=P) (w:=w) (body:=fun i=>do
   let sz ← sizeOf e
   let v ← part e ((cVec (cInt k) m hm).cs x).toArray (i*sz)
   Instr.checkKey em 9999 e v) (List.range' 0 m) (fun i hi=>by
    have hi':i<m:=by simpa using hi
    have l:=Lens.vec (cInt k) hm x (i:Int) (by omega)
    have e1:(i:Int).toNat*(cInt k).sz=i*1:=by simp [cInt]
    rw [e1] at l
    have h2:=part_scalar (P:=P) (t:=e) (v:=.int k (vget x (i:Int))) l ha rfl w
    simp only [Sem.run_bind,hz,Result.andThen_ok,h2]
    unfold Instr.checkKey
    simp [run_underlying he])
  have e0:([0:m]:Std.Legacy.Range).size=m:=by simp [Std.Legacy.Range.size]
  simp only [Sem.run_bind] at key ⊢
  simp [e0] at key ⊢
  rw [key];rfl
 eq:=fun x y w=>hq 9999 hdp x y w
 same:=fun x=>by
  have key:∀ (v:Value),v.oneCell'=true→True:=fun _ _=>trivial
  show (_==_&&_)=true
  simp only [List.size_toArray,beq_self_eq_true,Bool.true_and]
  rw [List.all_eq_true]
  rintro ⟨p,q⟩ hpq
  have hz':(p,q)∈List.zip ((cVec (cInt k) m hm).cs x) ((cVec (cInt k) m hm).cs x):=by simpa using hpq
  have hpe:p=q∧p∈(cVec (cInt k) m hm).cs x:=by
   rw [List.mem_iff_getElem?] at hz'
   obtain ⟨i,hi⟩:=hz'
   rw [List.getElem?_zip_eq_some] at hi
   have:=hi.1.symm.trans hi.2
   exact ⟨by simpa using this,List.mem_of_getElem? hi.1⟩
  obtain ⟨rfl,hp⟩:=hpe
  have:∃ z,p=.int k z:=by
   have hp':p∈(cInt k).all x.toList:=hp
   rw [all_int] at hp'
   obtain ⟨z,_,rfl⟩:=List.mem_map.1 hp'
   exact ⟨z,rfl⟩
  obtain ⟨z,rfl⟩:=this
  simp [Instr.sameBits]
 under:=⟨_,ht⟩
end Go.Proofs.YtahlbjmafceoeaaGreatDoor.E
namespace Go.Proofs.YtahlbjmafceoeaaGreatDoor.E
open Go.RowKit
variable {n : Nat} {L L' : List (Nat × Value)} {a : Act} {W : World → Prop} {P : Program} {ops : Array Oper} {Q : Exit → Act → World → Prop} {rest : List Oper} {w0 : World} {H : List Ent}
variable {α β γ ν κ μ : Type}
def Chk(P:Program)(t:TypeId)(c:Cd α)(agg:Bool)(k:Nat):Prop:=∀ n,k≤n→∀ e x w,(Instr.checkKey e (n+1) t (vOf agg (c.cs x))).run P w=.ok () w
theorem chk_int{t:TypeId}{k:IntKind}(ht:P.underlying t=some (.int k)):Chk P t (cInt k) false 0:=fun n _ e x w=>by
 unfold Instr.checkKey
 simp [run_underlying ht]
theorem chk_vec[Inhabited α]{t e:TypeId}{c:Cd α}{m k:Nat}{hm:0<m}{agg:Bool}(ht:P.underlying t=some (.array m e))(hz:∀ w,(sizeOf e).run P w=.ok c.sz w)(ha:∀ w,(isAgg e).run P w=.ok agg w)(h1:agg=true∨c.sz=1)(h:Chk P e c agg k):Chk P t (cVec c m hm) true (k+1):=fun n hn em x w=>by
 obtain ⟨n,rfl⟩:∃ d,n=d+1:=⟨n-1,by omega⟩
 show (Instr.checkKey em (n+1+1) t (.agg ((cVec c m hm).cs x).toArray)).run P w=_
 unfold Instr.checkKey
 simp only [Sem.run_bind,run_underlying ht,Result.andThen_ok]
 rw [Std.Legacy.Range.forIn_eq_forIn_range']
 have key:=run_forIn (P:=P) (w:=w) (body:=fun i=>do
  let sz ← sizeOf e
  let v ← part e ((cVec c m hm).cs x).toArray (i*sz)
  Instr.checkKey em (n+1) e v) (List.range' 0 m) (fun i hi=>by
   have hi':i<m:=by simpa using hi
   have l:=Lens.vec c hm x (i:Int) (by omega)
   rw [Int.toNat_natCast] at l
   have h2:=part_vOf (P:=P) (t:=e) l ha hz h1 w
   simp only [Sem.run_bind,hz,Result.andThen_ok,h2]
   exact h n (by omega) em _ w)
 have e0:([0:m]:Std.Legacy.Range).size=m:=by simp [Std.Legacy.Range.size]
 simp only [Sem.run_bind] at key ⊢
 simp [e0] at key ⊢
 rw [key];rfl
def ChkF(P : Program)(n : Nat)(cells : List Value)(l : List Field) : Prop := ∀ em w, (forIn l PUnit.unit (fun f _ => if f.name ≠ "_" then do
  let v ← part f.type cells.toArray f.offset
  Instr.checkKey em (n+1) f.type v
  pure (ForInStep.yield PUnit.unit)
 else pure (ForInStep.yield PUnit.unit)):Sem PUnit).run P w=.ok PUnit.unit w
theorem chkf_nil{n:Nat}{cells:List Value}:ChkF P n cells []:=fun _ _=>by simp
theorem chkf_cons{f : Field}{fs : List Field}{n k o : Nat}{agg : Bool}{c : Cd β}{cx : List Value}{a : β}{px : β → List Value}(lx : Lens cx o c a px)(hn : (f.name == "_") = false)(ho : f.offset = o)
  (ha:∀ w,(isAgg f.type).run P w=.ok agg w) (hz:∀ w,(sizeOf f.type).run P w=.ok c.sz w) (h1:agg=true∨c.sz=1) (he:Chk P f.type c agg k) (hd:k≤n) (hr:ChkF P n cx fs):ChkF P n cx (f::fs):=fun em w=>by
 have hn' : f.name ≠ "_" := by simpa using hn
 subst ho
 rw [List.forIn_cons]
 simp only [if_pos hn',Sem.run_bind,part_vOf lx ha hz h1,Result.andThen_ok,he n hd,Sem.run_pure]
 exact hr em w
theorem chk_struct{t:TypeId}{fs:Array Field}{c:Cd α}{k:Nat}(ht:P.underlying t=some (.struct fs))(h:∀ n x,k≤n→ChkF P n (c.cs x) fs.toList):Chk P t c true (k+1):=fun n hn em x w=>by
 obtain ⟨n,rfl⟩:∃ d,n=d+1:=⟨n-1,by omega⟩
 show (Instr.checkKey em (n+1+1) t (.agg (c.cs x).toArray)).run P w=_
 unfold Instr.checkKey
 simp only [Sem.run_bind,run_underlying ht,Result.andThen_ok]
 have:=h n x (by omega) em w
 rw [←Array.forIn_toList]
 rw [this];rfl
def Plain(c:Cd α):Prop:=∀ x,∀ v∈c.cs x,∃ k z,v=.int k z
theorem plain_int(k:IntKind):Plain (cInt k):=fun x v hv=>by
 have:v∈[Value.int k x]:=hv
 simp at this;exact ⟨_,_,this⟩
theorem plain_vec{c:Cd α}{m:Nat}{hm:0<m}(h:Plain c):Plain (cVec c m hm):=fun x v hv=>by
 have:v∈c.all x.toList:=hv
 obtain ⟨y,_,hy⟩:=List.mem_flatMap.1 this
 exact h y v hy
theorem keylaw_of[DecidableEq κ]{t:TypeId}{c:Cd κ}{k dp:Nat}{d:TypeDesc}(hu:P.underlying t=some d)(hc:Chk P t c true k)(hk:k≤9999)(hq:Eqs P t c true dp)(hdp:dp≤9999)(hp:Plain c):KeyLaw P t c where
 chk:=fun e x w=>hc 9999 hk e x w
 eq:=fun x y w=>hq 9999 hdp x y w
 same:=fun x=>by
  show (_==_&&_)=true
  simp only [List.size_toArray,beq_self_eq_true,Bool.true_and]
  rw [List.all_eq_true]
  rintro ⟨p,q⟩ hpq
  have hz':(p,q)∈List.zip (c.cs x) (c.cs x):=by simpa using hpq
  have hpe:p=q∧p∈c.cs x:=by
   rw [List.mem_iff_getElem?] at hz'
   obtain ⟨i,hi⟩:=hz'
   rw [List.getElem?_zip_eq_some] at hi
   have:=hi.1.symm.trans hi.2
   exact ⟨by simpa using this,List.mem_of_getElem? hi.1⟩
  obtain ⟨rfl,hpm⟩:=hpe
  obtain ⟨k,z,rfl⟩:=hp x p hpm
  simp [Instr.sameBits]
 under:=⟨_,hu⟩
variable {K : HK ν} {g0 g : Nat → Nat} {n0 : Nat} {h : List ν} {f : Ent → List Ent} {G : List Ent} {c : Cd κ} {d : Cd μ} {va : Bool} {l : List (κ × μ)}
section
variable {d' : Nat} {ty : TypeId} {pos : String} {aft : Array Edge} {t kt et : TypeId} {x y z : Operand} {b : Nat}
end
end Go.Proofs.YtahlbjmafceoeaaGreatDoor.E
namespace Go.Proofs.YtahlbjmafceoeaaGreatDoor
open E Go.RowKit
theorem infoT5_is:(Tryz.prog.info? 5).isSome=true:=by kernel_rfl
noncomputable def infoT5_v:TypeInfo:=(Tryz.prog.info? 5).get infoT5_is
theorem infoT5:Tryz.prog.info? 5=some infoT5_v:=(Option.some_get _).symm
structure S_api_Addr where
 f_V:Int
 f_B:(Vector Int 16)
 deriving DecidableEq,Inhabited
def c_api_Addr:Cd S_api_Addr:=⟨17,fun x=>Cd.cs (cInt .i64) x.f_V++(Cd.cs (cVec (cInt .u8) 16 (by decide)) x.f_B++[]),fun x=>by simp only [List.length_append,Cd.len,List.length_nil]<;>rfl,fun x v hv=>by
 simp only [List.mem_append,List.not_mem_nil,or_false] at hv
 rcases hv with hv | hv
 all_goals exact Cd.one _ _ _ hv,by decide⟩
def ok_api_Addr(x:S_api_Addr):Prop:=(fun n:Int=>(Lit.int .i64 n).wf=true) x.f_V∧(fun v:(Vector Int 16)=>∀ x∈v.toList,(fun n:Int=>(Lit.int .u8 n).wf=true) x) x.f_B
theorem c_api_Addr_f_V(x:S_api_Addr):Lens (c_api_Addr.cs x) 0 (cInt .i64) x.f_V (fun z=>c_api_Addr.cs { x with f_V:=z }) :=
 ⟨[],Cd.cs (cVec (cInt .u8) 16 (by decide)) x.f_B++[],by simp [c_api_Addr],by simp only [List.length_append,Cd.len,List.length_nil]<;>rfl,fun z=>by simp [c_api_Addr]⟩
theorem c_api_Addr_f_B(x:S_api_Addr):Lens (c_api_Addr.cs x) 1 (cVec (cInt .u8) 16 (by decide)) x.f_B (fun z=>c_api_Addr.cs { x with f_B:=z }) :=
 ⟨Cd.cs (cInt .i64) x.f_V++[],[],by simp [c_api_Addr],by simp only [List.length_append,Cd.len,List.length_nil]<;>rfl,fun z=>by simp [c_api_Addr]⟩
theorem eq_api_Addr_36:Eqs Tryz.prog 36 c_api_Addr true 2:=fun d hd x y w=>by
 obtain ⟨d,rfl⟩:∃ e,d=e+1:=⟨d-1,by omega⟩
 refine (run_eq_struct (xs:=(c_api_Addr.cs x).toArray) (ys:=(c_api_Addr.cs y).toArray) Tryz.underlying36 Tryz.stoodInHeld36).trans ?_
 refine Eq.trans (eqf_cons (c_api_Addr_f_V x) (c_api_Addr_f_V y) (by rfl) (by rfl) Tryz.isAgg3 Tryz.sizeOf3 (.inr rfl) (eqs_int Tryz.underlying3) (by omega) (eqf_cons (c_api_Addr_f_B x) (c_api_Addr_f_B y) (by rfl) (by rfl) Tryz.isAgg34 Tryz.sizeOf34 (.inl rfl) (eqs_vec Tryz.underlying34 infoT5 Tryz.sizeOf5 Tryz.isAgg5 (.inr rfl) (eqs_int Tryz.underlying5)) (by omega) eqf_nil)) ?_
 congr 1
 cases x;cases y
 rw [Bool.eq_iff_iff];simp
theorem opn_api_Addr_36:Opn Tryz.prog 36 c_api_Addr ok_api_Addr:=fun enc w base spare held fuel cs d ps hd=>by
 cases fuel with
 | zero=>exact (opn_zero hd).elim
 | succ fuel =>
  obtain ⟨hlen,hf⟩:=opn_fields Tryz.underlying36 hd
  rw [show Tryz.prog.cellsOf 36=17 from by kernel_rfl] at hlen
  obtain ⟨d0,p0,h0⟩:∃ d' p',DataW.trod enc Tryz.prog w base spare held fuel 3 ((cs.drop 0).take (Tryz.prog.cellsOf 3))=some (d',p'):=hf 0 _ rfl
  obtain ⟨x0,e0,o0⟩:=(opn_int Tryz.underlying3) enc w base spare held fuel _ _ _ h0
  rw [show Tryz.prog.cellsOf 3=1 from by kernel_rfl] at e0
  obtain ⟨d1,p1,h1⟩:∃ d' p',DataW.trod enc Tryz.prog w base spare held fuel 34 ((cs.drop 1).take (Tryz.prog.cellsOf 34))=some (d',p'):=hf 1 _ rfl
  obtain ⟨x1,e1,o1⟩:=(opn_vec Tryz.underlying34 (by kernel_rfl) (by kernel_rfl) (opn_int Tryz.underlying5)) enc w base spare held fuel _ _ _ h1
  rw [show Tryz.prog.cellsOf 34=16 from by kernel_rfl] at e1
  refine ⟨⟨x0,x1⟩,?_,o0,o1⟩
  show cs=Cd.cs (cInt .i64) x0++(Cd.cs (cVec (cInt .u8) 16 (by decide)) x1++[])
  rw [←e0,←e1]
  exact (split_cons (l:=cs) (o:=0) (k:=1) (split_cons (l:=cs) (o:=1) (k:=16) (split_nil (l:=cs) (o:=17) (by omega))))
theorem places_api_Addr_36: ∀ w, ((#[{ name := "V", type := 3, offset := 0, embedded := false, tag := "", pkgPath := "", byteOffset := 0 }, { name := "B", type := 34, offset := 1, embedded := false, tag := "", pkgPath := "", byteOffset := 8 }] : Array Field).mapM fun f => (do pure (f.offset, ← sizeOf f.type) : Sem (Nat × Nat))).run Tryz.prog w = .ok #[(0, 1), (1, 16)] w := fun w => by
 simp [Tryz.sizeOf3 w,Tryz.sizeOf34 w]
structure S_api_Endpoint where
 f_A:S_api_Addr
 f_Port:Int
 deriving DecidableEq,Inhabited
def c_api_Endpoint:Cd S_api_Endpoint:=⟨18,fun x=>Cd.cs c_api_Addr x.f_A++(Cd.cs (cInt .i64) x.f_Port++[]),fun x=>by simp only [List.length_append,Cd.len,List.length_nil]<;>rfl,fun x v hv=>by
 simp only [List.mem_append,List.not_mem_nil,or_false] at hv
 rcases hv with hv | hv
 all_goals exact Cd.one _ _ _ hv,by decide⟩
def ok_api_Endpoint(x:S_api_Endpoint):Prop:=ok_api_Addr x.f_A∧(fun n:Int=>(Lit.int .i64 n).wf=true) x.f_Port
theorem c_api_Endpoint_f_A(x:S_api_Endpoint):Lens (c_api_Endpoint.cs x) 0 c_api_Addr x.f_A (fun z=>c_api_Endpoint.cs { x with f_A:=z }) :=
 ⟨[],Cd.cs (cInt .i64) x.f_Port++[],by simp [c_api_Endpoint],by simp only [List.length_append,Cd.len,List.length_nil]<;>rfl,fun z=>by simp [c_api_Endpoint]⟩
theorem c_api_Endpoint_f_Port(x:S_api_Endpoint):Lens (c_api_Endpoint.cs x) 17 (cInt .i64) x.f_Port (fun z=>c_api_Endpoint.cs { x with f_Port:=z }) :=
 ⟨Cd.cs c_api_Addr x.f_A++[],[],by simp [c_api_Endpoint],by simp only [List.length_append,Cd.len,List.length_nil]<;>rfl,fun z=>by simp [c_api_Endpoint]⟩
theorem eq_api_Endpoint_56:Eqs Tryz.prog 56 c_api_Endpoint true 3:=fun d hd x y w=>by
 obtain ⟨d,rfl⟩:∃ e,d=e+1:=⟨d-1,by omega⟩
 refine (run_eq_struct (xs:=(c_api_Endpoint.cs x).toArray) (ys:=(c_api_Endpoint.cs y).toArray) Tryz.underlying56 Tryz.stoodInHeld56).trans ?_
 refine Eq.trans (eqf_cons (c_api_Endpoint_f_A x) (c_api_Endpoint_f_A y) (by rfl) (by rfl) Tryz.isAgg36 Tryz.sizeOf36 (.inl rfl) (eq_api_Addr_36) (by omega) (eqf_cons (c_api_Endpoint_f_Port x) (c_api_Endpoint_f_Port y) (by rfl) (by rfl) Tryz.isAgg3 Tryz.sizeOf3 (.inr rfl) (eqs_int Tryz.underlying3) (by omega) eqf_nil)) ?_
 congr 1
 cases x;cases y
 rw [Bool.eq_iff_iff];simp
theorem opn_api_Endpoint_56:Opn Tryz.prog 56 c_api_Endpoint ok_api_Endpoint:=fun enc w base spare held fuel cs d ps hd=>by
 cases fuel with
 | zero=>exact (opn_zero hd).elim
 | succ fuel =>
  obtain ⟨hlen,hf⟩:=opn_fields Tryz.underlying56 hd
  rw [show Tryz.prog.cellsOf 56=18 from by kernel_rfl] at hlen
  obtain ⟨d0,p0,h0⟩:∃ d' p',DataW.trod enc Tryz.prog w base spare held fuel 36 ((cs.drop 0).take (Tryz.prog.cellsOf 36))=some (d',p'):=hf 0 _ rfl
  obtain ⟨x0,e0,o0⟩:=(opn_api_Addr_36) enc w base spare held fuel _ _ _ h0
  rw [show Tryz.prog.cellsOf 36=17 from by kernel_rfl] at e0
  obtain ⟨d1,p1,h1⟩:∃ d' p',DataW.trod enc Tryz.prog w base spare held fuel 3 ((cs.drop 17).take (Tryz.prog.cellsOf 3))=some (d',p'):=hf 1 _ rfl
  obtain ⟨x1,e1,o1⟩:=(opn_int Tryz.underlying3) enc w base spare held fuel _ _ _ h1
  rw [show Tryz.prog.cellsOf 3=1 from by kernel_rfl] at e1
  refine ⟨⟨x0,x1⟩,?_,o0,o1⟩
  show cs=Cd.cs c_api_Addr x0++(Cd.cs (cInt .i64) x1++[])
  rw [←e0,←e1]
  exact (split_cons (l:=cs) (o:=0) (k:=17) (split_cons (l:=cs) (o:=17) (k:=1) (split_nil (l:=cs) (o:=18) (by omega))))
theorem places_api_Endpoint_56: ∀ w, ((#[{ name := "A", type := 36, offset := 0, embedded := false, tag := "", pkgPath := "", byteOffset := 0 }, { name := "Port", type := 3, offset := 17, embedded := false, tag := "", pkgPath := "", byteOffset := 24 }] : Array Field).mapM fun f => (do pure (f.offset, ← sizeOf f.type) : Sem (Nat × Nat))).run Tryz.prog w = .ok #[(0, 17), (17, 1)] w := fun w => by
 simp [Tryz.sizeOf36 w,Tryz.sizeOf3 w]
structure S_api_Prefix where
 f_A:S_api_Addr
 f_Bits:Int
 deriving DecidableEq,Inhabited
def c_api_Prefix:Cd S_api_Prefix:=⟨18,fun x=>Cd.cs c_api_Addr x.f_A++(Cd.cs (cInt .i64) x.f_Bits++[]),fun x=>by simp only [List.length_append,Cd.len,List.length_nil]<;>rfl,fun x v hv=>by
 simp only [List.mem_append,List.not_mem_nil,or_false] at hv
 rcases hv with hv | hv
 all_goals exact Cd.one _ _ _ hv,by decide⟩
def ok_api_Prefix(x:S_api_Prefix):Prop:=ok_api_Addr x.f_A∧(fun n:Int=>(Lit.int .i64 n).wf=true) x.f_Bits
theorem c_api_Prefix_f_A(x:S_api_Prefix):Lens (c_api_Prefix.cs x) 0 c_api_Addr x.f_A (fun z=>c_api_Prefix.cs { x with f_A:=z }) :=
 ⟨[],Cd.cs (cInt .i64) x.f_Bits++[],by simp [c_api_Prefix],by simp only [List.length_append,Cd.len,List.length_nil]<;>rfl,fun z=>by simp [c_api_Prefix]⟩
theorem c_api_Prefix_f_Bits(x:S_api_Prefix):Lens (c_api_Prefix.cs x) 17 (cInt .i64) x.f_Bits (fun z=>c_api_Prefix.cs { x with f_Bits:=z }) :=
 ⟨Cd.cs c_api_Addr x.f_A++[],[],by simp [c_api_Prefix],by simp only [List.length_append,Cd.len,List.length_nil]<;>rfl,fun z=>by simp [c_api_Prefix]⟩
theorem eq_api_Prefix_38:Eqs Tryz.prog 38 c_api_Prefix true 3:=fun d hd x y w=>by
 obtain ⟨d,rfl⟩:∃ e,d=e+1:=⟨d-1,by omega⟩
 refine (run_eq_struct (xs:=(c_api_Prefix.cs x).toArray) (ys:=(c_api_Prefix.cs y).toArray) Tryz.underlying38 Tryz.stoodInHeld38).trans ?_
 refine Eq.trans (eqf_cons (c_api_Prefix_f_A x) (c_api_Prefix_f_A y) (by rfl) (by rfl) Tryz.isAgg36 Tryz.sizeOf36 (.inl rfl) (eq_api_Addr_36) (by omega) (eqf_cons (c_api_Prefix_f_Bits x) (c_api_Prefix_f_Bits y) (by rfl) (by rfl) Tryz.isAgg3 Tryz.sizeOf3 (.inr rfl) (eqs_int Tryz.underlying3) (by omega) eqf_nil)) ?_
 congr 1
 cases x;cases y
 rw [Bool.eq_iff_iff];simp
theorem opn_api_Prefix_38:Opn Tryz.prog 38 c_api_Prefix ok_api_Prefix:=fun enc w base spare held fuel cs d ps hd=>by
 cases fuel with
 | zero=>exact (opn_zero hd).elim
 | succ fuel =>
  obtain ⟨hlen,hf⟩:=opn_fields Tryz.underlying38 hd
  rw [show Tryz.prog.cellsOf 38=18 from by kernel_rfl] at hlen
  obtain ⟨d0,p0,h0⟩:∃ d' p',DataW.trod enc Tryz.prog w base spare held fuel 36 ((cs.drop 0).take (Tryz.prog.cellsOf 36))=some (d',p'):=hf 0 _ rfl
  obtain ⟨x0,e0,o0⟩:=(opn_api_Addr_36) enc w base spare held fuel _ _ _ h0
  rw [show Tryz.prog.cellsOf 36=17 from by kernel_rfl] at e0
  obtain ⟨d1,p1,h1⟩:∃ d' p',DataW.trod enc Tryz.prog w base spare held fuel 3 ((cs.drop 17).take (Tryz.prog.cellsOf 3))=some (d',p'):=hf 1 _ rfl
  obtain ⟨x1,e1,o1⟩:=(opn_int Tryz.underlying3) enc w base spare held fuel _ _ _ h1
  rw [show Tryz.prog.cellsOf 3=1 from by kernel_rfl] at e1
  refine ⟨⟨x0,x1⟩,?_,o0,o1⟩
  show cs=Cd.cs c_api_Addr x0++(Cd.cs (cInt .i64) x1++[])
  rw [←e0,←e1]
  exact (split_cons (l:=cs) (o:=0) (k:=17) (split_cons (l:=cs) (o:=17) (k:=1) (split_nil (l:=cs) (o:=18) (by omega))))
theorem places_api_Prefix_38: ∀ w, ((#[{ name := "A", type := 36, offset := 0, embedded := false, tag := "", pkgPath := "", byteOffset := 0 }, { name := "Bits", type := 3, offset := 17, embedded := false, tag := "", pkgPath := "", byteOffset := 24 }] : Array Field).mapM fun f => (do pure (f.offset, ← sizeOf f.type) : Sem (Nat × Nat))).run Tryz.prog w = .ok #[(0, 17), (17, 1)] w := fun w => by
 simp [Tryz.sizeOf36 w,Tryz.sizeOf3 w]
structure S_api_Peer where
 f_Key:(Vector Int 32)
 f_Psk:(Vector Int 32)
 f_End:S_api_Endpoint
 f_Keep:Int
 f_Sent:Int
 f_Got:Int
 f_Allowed:List S_api_Prefix
 deriving DecidableEq,Inhabited
abbrev G_api_Peer:=(Option Addr×Nat)
def c_api_Peer:Cd (G_api_Peer×S_api_Peer):=⟨86,fun z=>Cd.cs (cVec (cInt .u8) 32 (by decide)) z.2.f_Key++(Cd.cs (cVec (cInt .u8) 32 (by decide)) z.2.f_Psk++(Cd.cs c_api_Endpoint z.2.f_End++(Cd.cs (cInt .i64) z.2.f_Keep++(Cd.cs (cInt .u64) z.2.f_Sent++(Cd.cs (cInt .u64) z.2.f_Got++(Cd.cs cHd ⟨z.1.1,List.length z.2.f_Allowed,z.1.2⟩++[])))))),fun x=>by simp only [List.length_append,Cd.len,List.length_nil]<;>rfl,fun x v hv=>by
 simp only [List.mem_append,List.not_mem_nil,or_false] at hv
 rcases hv with hv | hv | hv | hv | hv | hv | hv
 all_goals exact Cd.one _ _ _ hv,by decide⟩
def ok_api_Peer(x:S_api_Peer):Prop:=(fun v:(Vector Int 32)=>∀ x∈v.toList,(fun n:Int=>(Lit.int .u8 n).wf=true) x) x.f_Key∧(fun v:(Vector Int 32)=>∀ x∈v.toList,(fun n:Int=>(Lit.int .u8 n).wf=true) x) x.f_Psk∧ok_api_Endpoint x.f_End∧(fun n:Int=>(Lit.int .i64 n).wf=true) x.f_Keep∧(fun n:Int=>(Lit.int .u64 n).wf=true) x.f_Sent∧(fun n:Int=>(Lit.int .u64 n).wf=true) x.f_Got∧(fun l:List S_api_Prefix=>∀ x∈l,ok_api_Prefix x) x.f_Allowed
def N_api_Peer(w:World)(z:G_api_Peer×S_api_Peer):Prop:=Row c_api_Prefix w z.1.1 z.1.2 z.2.f_Allowed
theorem N_api_Peer.below{w w':World}{z:G_api_Peer×S_api_Peer}(h:N_api_Peer w z)(hb:Below w.heap.size w w'):N_api_Peer w' z:=Row.below h hb
abbrev NR_api_Peer(w:World)(p:Option Addr)(cap:Nat)(xs:List S_api_Peer):Prop:=NRow c_api_Peer N_api_Peer w p cap xs
theorem NR_api_Peer.below{w w':World}{p:Option Addr}{cap:Nat}{xs:List S_api_Peer}(h:NR_api_Peer w p cap xs)(hb:Below w.heap.size w w'):NR_api_Peer w' p cap xs:=NRow.below h hb fun z hz=>N_api_Peer.below hz hb
def NK_api_Peer(K:Nat→Prop)(w:World)(z:G_api_Peer×S_api_Peer):Prop:=E.RowK K c_api_Prefix w z.1.1 z.1.2 z.2.f_Allowed
theorem NK_api_Peer.mono{K K':Nat→Prop}{s s':World}{z:G_api_Peer×S_api_Peer}(h:NK_api_Peer K s z)(m:Mono K s K' s'):NK_api_Peer K' s' z:=E.RowK.mono h m
abbrev NKR_api_Peer(K:Nat→Prop)(w:World)(p:Option Addr)(cap:Nat)(xs:List S_api_Peer):Prop:=NRowK c_api_Peer NK_api_Peer K w p cap xs
theorem NKR_api_Peer.mono{K:Nat→Prop}{s:World}{p:Option Addr}{cap:Nat}{xs:List S_api_Peer}{K':Nat→Prop}{s':World}(h:NKR_api_Peer K s p cap xs)(m:Mono K s K' s'):NKR_api_Peer K' s' p cap xs:=NRowK.mono_of (fun _ hz=>NK_api_Peer.mono hz m) h m
theorem c_api_Peer_f_Key(g:G_api_Peer)(x:S_api_Peer):Lens (c_api_Peer.cs (g,x)) 0 (cVec (cInt .u8) 32 (by decide)) x.f_Key (fun z=>c_api_Peer.cs (g,{ x with f_Key:=z })) :=
 ⟨[],Cd.cs (cVec (cInt .u8) 32 (by decide)) x.f_Psk++(Cd.cs c_api_Endpoint x.f_End++(Cd.cs (cInt .i64) x.f_Keep++(Cd.cs (cInt .u64) x.f_Sent++(Cd.cs (cInt .u64) x.f_Got++(Cd.cs cHd ⟨g.1,List.length x.f_Allowed,g.2⟩++[]))))),by simp [c_api_Peer],by simp only [List.length_append,Cd.len,List.length_nil]<;>rfl,fun z=>by simp [c_api_Peer]⟩
theorem c_api_Peer_f_Psk(g:G_api_Peer)(x:S_api_Peer):Lens (c_api_Peer.cs (g,x)) 32 (cVec (cInt .u8) 32 (by decide)) x.f_Psk (fun z=>c_api_Peer.cs (g,{ x with f_Psk:=z })) :=
 ⟨Cd.cs (cVec (cInt .u8) 32 (by decide)) x.f_Key++[],Cd.cs c_api_Endpoint x.f_End++(Cd.cs (cInt .i64) x.f_Keep++(Cd.cs (cInt .u64) x.f_Sent++(Cd.cs (cInt .u64) x.f_Got++(Cd.cs cHd ⟨g.1,List.length x.f_Allowed,g.2⟩++[])))),by simp [c_api_Peer],by simp only [List.length_append,Cd.len,List.length_nil]<;>rfl,fun z=>by simp [c_api_Peer]⟩
theorem c_api_Peer_f_End(g:G_api_Peer)(x:S_api_Peer):Lens (c_api_Peer.cs (g,x)) 64 c_api_Endpoint x.f_End (fun z=>c_api_Peer.cs (g,{ x with f_End:=z })) :=
 ⟨Cd.cs (cVec (cInt .u8) 32 (by decide)) x.f_Key++(Cd.cs (cVec (cInt .u8) 32 (by decide)) x.f_Psk++[]),Cd.cs (cInt .i64) x.f_Keep++(Cd.cs (cInt .u64) x.f_Sent++(Cd.cs (cInt .u64) x.f_Got++(Cd.cs cHd ⟨g.1,List.length x.f_Allowed,g.2⟩++[]))),by simp [c_api_Peer],by simp only [List.length_append,Cd.len,List.length_nil]<;>rfl,fun z=>by simp [c_api_Peer]⟩
theorem c_api_Peer_f_Keep(g:G_api_Peer)(x:S_api_Peer):Lens (c_api_Peer.cs (g,x)) 82 (cInt .i64) x.f_Keep (fun z=>c_api_Peer.cs (g,{ x with f_Keep:=z })) :=
 ⟨Cd.cs (cVec (cInt .u8) 32 (by decide)) x.f_Key++(Cd.cs (cVec (cInt .u8) 32 (by decide)) x.f_Psk++(Cd.cs c_api_Endpoint x.f_End++[])),Cd.cs (cInt .u64) x.f_Sent++(Cd.cs (cInt .u64) x.f_Got++(Cd.cs cHd ⟨g.1,List.length x.f_Allowed,g.2⟩++[])),by simp [c_api_Peer],by simp only [List.length_append,Cd.len,List.length_nil]<;>rfl,fun z=>by simp [c_api_Peer]⟩
theorem c_api_Peer_f_Allowed(g:G_api_Peer)(x:S_api_Peer):Lens (c_api_Peer.cs (g,x)) 85 cHd ⟨g.1,List.length x.f_Allowed,g.2⟩ (fun h=>Cd.cs (cVec (cInt .u8) 32 (by decide)) x.f_Key++(Cd.cs (cVec (cInt .u8) 32 (by decide)) x.f_Psk++(Cd.cs c_api_Endpoint x.f_End++(Cd.cs (cInt .i64) x.f_Keep++(Cd.cs (cInt .u64) x.f_Sent++(Cd.cs (cInt .u64) x.f_Got++(Cd.cs cHd h++[]))))))) :=
 ⟨Cd.cs (cVec (cInt .u8) 32 (by decide)) x.f_Key++(Cd.cs (cVec (cInt .u8) 32 (by decide)) x.f_Psk++(Cd.cs c_api_Endpoint x.f_End++(Cd.cs (cInt .i64) x.f_Keep++(Cd.cs (cInt .u64) x.f_Sent++(Cd.cs (cInt .u64) x.f_Got++[]))))),[],by simp [c_api_Peer],by simp only [List.length_append,Cd.len,List.length_nil]<;>rfl,fun z=>by simp⟩
theorem opn_api_Peer_60:OpnW Tryz.prog 60 c_api_Peer (fun w z=>ok_api_Peer z.2∧N_api_Peer w z):=fun enc w base spare held fuel cs d ps hd=>by
 cases fuel with
 | zero=>exact (opn_zero hd).elim
 | succ fuel =>
  obtain ⟨hlen,hf⟩:=opn_fields Tryz.underlying60 hd
  rw [show Tryz.prog.cellsOf 60=86 from by kernel_rfl] at hlen
  obtain ⟨d0,p0,h0⟩:∃ d' p',DataW.trod enc Tryz.prog w base spare held fuel 23 ((cs.drop 0).take (Tryz.prog.cellsOf 23))=some (d',p'):=hf 0 _ rfl
  obtain ⟨x0,e0,o0⟩:=(opn_vec Tryz.underlying23 (by kernel_rfl) (by kernel_rfl) (opn_int Tryz.underlying5)) enc w base spare held fuel _ _ _ h0
  rw [show Tryz.prog.cellsOf 23=32 from by kernel_rfl] at e0
  obtain ⟨d1,p1,h1⟩:∃ d' p',DataW.trod enc Tryz.prog w base spare held fuel 23 ((cs.drop 32).take (Tryz.prog.cellsOf 23))=some (d',p'):=hf 1 _ rfl
  obtain ⟨x1,e1,o1⟩:=(opn_vec Tryz.underlying23 (by kernel_rfl) (by kernel_rfl) (opn_int Tryz.underlying5)) enc w base spare held fuel _ _ _ h1
  rw [show Tryz.prog.cellsOf 23=32 from by kernel_rfl] at e1
  obtain ⟨d2,p2,h2⟩:∃ d' p',DataW.trod enc Tryz.prog w base spare held fuel 56 ((cs.drop 64).take (Tryz.prog.cellsOf 56))=some (d',p'):=hf 2 _ rfl
  obtain ⟨x2,e2,o2⟩:=(opn_api_Endpoint_56) enc w base spare held fuel _ _ _ h2
  rw [show Tryz.prog.cellsOf 56=18 from by kernel_rfl] at e2
  obtain ⟨d3,p3,h3⟩:∃ d' p',DataW.trod enc Tryz.prog w base spare held fuel 3 ((cs.drop 82).take (Tryz.prog.cellsOf 3))=some (d',p'):=hf 3 _ rfl
  obtain ⟨x3,e3,o3⟩:=(opn_int Tryz.underlying3) enc w base spare held fuel _ _ _ h3
  rw [show Tryz.prog.cellsOf 3=1 from by kernel_rfl] at e3
  obtain ⟨d4,p4,h4⟩:∃ d' p',DataW.trod enc Tryz.prog w base spare held fuel 57 ((cs.drop 83).take (Tryz.prog.cellsOf 57))=some (d',p'):=hf 4 _ rfl
  obtain ⟨x4,e4,o4⟩:=(opn_int Tryz.underlying57) enc w base spare held fuel _ _ _ h4
  rw [show Tryz.prog.cellsOf 57=1 from by kernel_rfl] at e4
  obtain ⟨d5,p5,h5⟩:∃ d' p',DataW.trod enc Tryz.prog w base spare held fuel 57 ((cs.drop 84).take (Tryz.prog.cellsOf 57))=some (d',p'):=hf 5 _ rfl
  obtain ⟨x5,e5,o5⟩:=(opn_int Tryz.underlying57) enc w base spare held fuel _ _ _ h5
  rw [show Tryz.prog.cellsOf 57=1 from by kernel_rfl] at e5
  obtain ⟨d6,p6,h6⟩:∃ d' p',DataW.trod enc Tryz.prog w base spare held fuel 58 ((cs.drop 85).take (Tryz.prog.cellsOf 58))=some (d',p'):=hf 6 _ rfl
  obtain ⟨a6,k6,x6,e6,r6,o6⟩:=row_trod (c:=c_api_Prefix) Tryz.underlying58 (by kernel_rfl) (opn_up (opn_api_Prefix_38)) h6
  rw [show Tryz.prog.cellsOf 58=1 from by kernel_rfl] at e6
  refine ⟨((a6,k6),⟨x0,x1,x2,x3,x4,x5,x6⟩),?_,⟨o0,o1,o2,o3,o4,o5,o6⟩,r6⟩
  have hz:cs=Cd.cs (cVec (cInt .u8) 32 (by decide)) x0++(Cd.cs (cVec (cInt .u8) 32 (by decide)) x1++(Cd.cs c_api_Endpoint x2++(Cd.cs (cInt .i64) x3++(Cd.cs (cInt .u64) x4++(Cd.cs (cInt .u64) x5++([Value.slice a6 x6.length k6]++[])))))):=by
   rw [←e0,←e1,←e2,←e3,←e4,←e5,←e6]
   exact (split_cons (l:=cs) (o:=0) (k:=32) (split_cons (l:=cs) (o:=32) (k:=32) (split_cons (l:=cs) (o:=64) (k:=18) (split_cons (l:=cs) (o:=82) (k:=1) (split_cons (l:=cs) (o:=83) (k:=1) (split_cons (l:=cs) (o:=84) (k:=1) (split_cons (l:=cs) (o:=85) (k:=1) (split_nil (l:=cs) (o:=86) (by omega)))))))))
  rw [hz]
  simp [c_api_Peer,cHd]
structure S_api_Conf where
 f_Private:(Vector Int 32)
 f_Port:Int
 f_Mark:Int
 f_Peers:List S_api_Peer
 deriving DecidableEq,Inhabited
abbrev G_api_Conf:=(Option Addr×Nat)
def c_api_Conf:Cd (G_api_Conf×S_api_Conf):=⟨35,fun z=>Cd.cs (cVec (cInt .u8) 32 (by decide)) z.2.f_Private++(Cd.cs (cInt .i64) z.2.f_Port++(Cd.cs (cInt .u32) z.2.f_Mark++(Cd.cs cHd ⟨z.1.1,List.length z.2.f_Peers,z.1.2⟩++[]))),fun x=>by simp only [List.length_append,Cd.len,List.length_nil]<;>rfl,fun x v hv=>by
 simp only [List.mem_append,List.not_mem_nil,or_false] at hv
 rcases hv with hv | hv | hv | hv
 all_goals exact Cd.one _ _ _ hv,by decide⟩
def ok_api_Conf(x:S_api_Conf):Prop:=(fun v:(Vector Int 32)=>∀ x∈v.toList,(fun n:Int=>(Lit.int .u8 n).wf=true) x) x.f_Private∧(fun n:Int=>(Lit.int .i64 n).wf=true) x.f_Port∧(fun n:Int=>(Lit.int .u32 n).wf=true) x.f_Mark∧(fun l:List S_api_Peer=>∀ x∈l,ok_api_Peer x) x.f_Peers
def N_api_Conf(w:World)(z:G_api_Conf×S_api_Conf):Prop:=NR_api_Peer w z.1.1 z.1.2 z.2.f_Peers
theorem N_api_Conf.below{w w':World}{z:G_api_Conf×S_api_Conf}(h:N_api_Conf w z)(hb:Below w.heap.size w w'):N_api_Conf w' z:=NR_api_Peer.below h hb
def NK_api_Conf(K:Nat→Prop)(w:World)(z:G_api_Conf×S_api_Conf):Prop:=NRowK c_api_Peer NK_api_Peer K w z.1.1 z.1.2 z.2.f_Peers
theorem NK_api_Conf.mono{K K':Nat→Prop}{s s':World}{z:G_api_Conf×S_api_Conf}(h:NK_api_Conf K s z)(m:Mono K s K' s'):NK_api_Conf K' s' z:=NKR_api_Peer.mono h m
abbrev NKR_api_Conf(K:Nat→Prop)(w:World)(p:Option Addr)(cap:Nat)(xs:List S_api_Conf):Prop:=NRowK c_api_Conf NK_api_Conf K w p cap xs
theorem NKR_api_Conf.mono{K:Nat→Prop}{s:World}{p:Option Addr}{cap:Nat}{xs:List S_api_Conf}{K':Nat→Prop}{s':World}(h:NKR_api_Conf K s p cap xs)(m:Mono K s K' s'):NKR_api_Conf K' s' p cap xs:=NRowK.mono_of (fun _ hz=>NK_api_Conf.mono hz m) h m
theorem c_api_Conf_f_Private(g:G_api_Conf)(x:S_api_Conf):Lens (c_api_Conf.cs (g,x)) 0 (cVec (cInt .u8) 32 (by decide)) x.f_Private (fun z=>c_api_Conf.cs (g,{ x with f_Private:=z })) :=
 ⟨[],Cd.cs (cInt .i64) x.f_Port++(Cd.cs (cInt .u32) x.f_Mark++(Cd.cs cHd ⟨g.1,List.length x.f_Peers,g.2⟩++[])),by simp [c_api_Conf],by simp only [List.length_append,Cd.len,List.length_nil]<;>rfl,fun z=>by simp [c_api_Conf]⟩
theorem c_api_Conf_f_Port(g:G_api_Conf)(x:S_api_Conf):Lens (c_api_Conf.cs (g,x)) 32 (cInt .i64) x.f_Port (fun z=>c_api_Conf.cs (g,{ x with f_Port:=z })) :=
 ⟨Cd.cs (cVec (cInt .u8) 32 (by decide)) x.f_Private++[],Cd.cs (cInt .u32) x.f_Mark++(Cd.cs cHd ⟨g.1,List.length x.f_Peers,g.2⟩++[]),by simp [c_api_Conf],by simp only [List.length_append,Cd.len,List.length_nil]<;>rfl,fun z=>by simp [c_api_Conf]⟩
theorem c_api_Conf_f_Peers(g:G_api_Conf)(x:S_api_Conf):Lens (c_api_Conf.cs (g,x)) 34 cHd ⟨g.1,List.length x.f_Peers,g.2⟩ (fun h=>Cd.cs (cVec (cInt .u8) 32 (by decide)) x.f_Private++(Cd.cs (cInt .i64) x.f_Port++(Cd.cs (cInt .u32) x.f_Mark++(Cd.cs cHd h++[])))) :=
 ⟨Cd.cs (cVec (cInt .u8) 32 (by decide)) x.f_Private++(Cd.cs (cInt .i64) x.f_Port++(Cd.cs (cInt .u32) x.f_Mark++[])),[],by simp [c_api_Conf],by simp only [List.length_append,Cd.len,List.length_nil]<;>rfl,fun z=>by simp⟩
theorem opn_api_Conf_27:OpnW Tryz.prog 27 c_api_Conf (fun w z=>ok_api_Conf z.2∧N_api_Conf w z):=fun enc w base spare held fuel cs d ps hd=>by
 cases fuel with
 | zero=>exact (opn_zero hd).elim
 | succ fuel =>
  obtain ⟨hlen,hf⟩:=opn_fields Tryz.underlying27 hd
  rw [show Tryz.prog.cellsOf 27=35 from by kernel_rfl] at hlen
  obtain ⟨d0,p0,h0⟩:∃ d' p',DataW.trod enc Tryz.prog w base spare held fuel 23 ((cs.drop 0).take (Tryz.prog.cellsOf 23))=some (d',p'):=hf 0 _ rfl
  obtain ⟨x0,e0,o0⟩:=(opn_vec Tryz.underlying23 (by kernel_rfl) (by kernel_rfl) (opn_int Tryz.underlying5)) enc w base spare held fuel _ _ _ h0
  rw [show Tryz.prog.cellsOf 23=32 from by kernel_rfl] at e0
  obtain ⟨d1,p1,h1⟩:∃ d' p',DataW.trod enc Tryz.prog w base spare held fuel 3 ((cs.drop 32).take (Tryz.prog.cellsOf 3))=some (d',p'):=hf 1 _ rfl
  obtain ⟨x1,e1,o1⟩:=(opn_int Tryz.underlying3) enc w base spare held fuel _ _ _ h1
  rw [show Tryz.prog.cellsOf 3=1 from by kernel_rfl] at e1
  obtain ⟨d2,p2,h2⟩:∃ d' p',DataW.trod enc Tryz.prog w base spare held fuel 24 ((cs.drop 33).take (Tryz.prog.cellsOf 24))=some (d',p'):=hf 2 _ rfl
  obtain ⟨x2,e2,o2⟩:=(opn_int Tryz.underlying24) enc w base spare held fuel _ _ _ h2
  rw [show Tryz.prog.cellsOf 24=1 from by kernel_rfl] at e2
  obtain ⟨d3,p3,h3⟩:∃ d' p',DataW.trod enc Tryz.prog w base spare held fuel 25 ((cs.drop 34).take (Tryz.prog.cellsOf 25))=some (d',p'):=hf 3 _ rfl
  obtain ⟨a3,k3,x3,e3,r3,o3⟩:=row_trod (c:=c_api_Peer) Tryz.underlying25 (by kernel_rfl) (opn_api_Peer_60) h3
  rw [show Tryz.prog.cellsOf 25=1 from by kernel_rfl] at e3
  refine ⟨((a3,k3),⟨x0,x1,x2,x3.map Prod.snd⟩),?_,⟨o0,o1,o2,(fun y hy=>by obtain ⟨z,hz,rfl⟩:=List.mem_map.1 hy;exact (o3 z hz).1)⟩,⟨x3,rfl,r3,fun z hz=>(o3 z hz).2⟩⟩
  have hz:cs=Cd.cs (cVec (cInt .u8) 32 (by decide)) x0++(Cd.cs (cInt .i64) x1++(Cd.cs (cInt .u32) x2++([Value.slice a3 x3.length k3]++[]))):=by
   rw [←e0,←e1,←e2,←e3]
   exact (split_cons (l:=cs) (o:=0) (k:=32) (split_cons (l:=cs) (o:=32) (k:=1) (split_cons (l:=cs) (o:=33) (k:=1) (split_cons (l:=cs) (o:=34) (k:=1) (split_nil (l:=cs) (o:=35) (by omega))))))
  rw [hz]
  simp [c_api_Conf,cHd]
theorem places_api_Conf_27: ∀ w, ((#[{ name := "Private", type := 23, offset := 0, embedded := false, tag := "", pkgPath := "", byteOffset := 0 }, { name := "Port", type := 3, offset := 32, embedded := false, tag := "", pkgPath := "", byteOffset := 32 }, { name := "Mark", type := 24, offset := 33, embedded := false, tag := "", pkgPath := "", byteOffset := 40 }, { name := "Peers", type := 25, offset := 34, embedded := false, tag := "", pkgPath := "", byteOffset := 48 }] : Array Field).mapM fun f => (do pure (f.offset, ← sizeOf f.type) : Sem (Nat × Nat))).run Tryz.prog w = .ok #[(0, 32), (32, 1), (33, 1), (34, 1)] w := fun w => by
 simp [Tryz.sizeOf23 w,Tryz.sizeOf3 w,Tryz.sizeOf24 w,Tryz.sizeOf25 w]
structure S_lint_Odd where
 f_Kind:Int
 f_Peer:Int
 f_P:S_api_Prefix
 deriving DecidableEq,Inhabited
def c_lint_Odd:Cd S_lint_Odd:=⟨20,fun x=>Cd.cs (cInt .i64) x.f_Kind++(Cd.cs (cInt .i64) x.f_Peer++(Cd.cs c_api_Prefix x.f_P++[])),fun x=>by simp only [List.length_append,Cd.len,List.length_nil]<;>rfl,fun x v hv=>by
 simp only [List.mem_append,List.not_mem_nil,or_false] at hv
 rcases hv with hv | hv | hv
 all_goals exact Cd.one _ _ _ hv,by decide⟩
theorem c_lint_Odd_f_Kind(x:S_lint_Odd):Lens (c_lint_Odd.cs x) 0 (cInt .i64) x.f_Kind (fun z=>c_lint_Odd.cs { x with f_Kind:=z }) :=
 ⟨[],Cd.cs (cInt .i64) x.f_Peer++(Cd.cs c_api_Prefix x.f_P++[]),by simp [c_lint_Odd],by simp only [List.length_append,Cd.len,List.length_nil]<;>rfl,fun z=>by simp [c_lint_Odd]⟩
theorem c_lint_Odd_f_Peer(x:S_lint_Odd):Lens (c_lint_Odd.cs x) 1 (cInt .i64) x.f_Peer (fun z=>c_lint_Odd.cs { x with f_Peer:=z }) :=
 ⟨Cd.cs (cInt .i64) x.f_Kind++[],Cd.cs c_api_Prefix x.f_P++[],by simp [c_lint_Odd],by simp only [List.length_append,Cd.len,List.length_nil]<;>rfl,fun z=>by simp [c_lint_Odd]⟩
theorem c_lint_Odd_f_P(x:S_lint_Odd):Lens (c_lint_Odd.cs x) 2 c_api_Prefix x.f_P (fun z=>c_lint_Odd.cs { x with f_P:=z }) :=
 ⟨Cd.cs (cInt .i64) x.f_Kind++(Cd.cs (cInt .i64) x.f_Peer++[]),[],by simp [c_lint_Odd],by simp only [List.length_append,Cd.len,List.length_nil]<;>rfl,fun z=>by simp [c_lint_Odd]⟩
theorem eq_lint_Odd_40:Eqs Tryz.prog 40 c_lint_Odd true 4:=fun d hd x y w=>by
 obtain ⟨d,rfl⟩:∃ e,d=e+1:=⟨d-1,by omega⟩
 refine (run_eq_struct (xs:=(c_lint_Odd.cs x).toArray) (ys:=(c_lint_Odd.cs y).toArray) Tryz.underlying40 Tryz.stoodInHeld40).trans ?_
 refine Eq.trans (eqf_cons (c_lint_Odd_f_Kind x) (c_lint_Odd_f_Kind y) (by rfl) (by rfl) Tryz.isAgg3 Tryz.sizeOf3 (.inr rfl) (eqs_int Tryz.underlying3) (by omega) (eqf_cons (c_lint_Odd_f_Peer x) (c_lint_Odd_f_Peer y) (by rfl) (by rfl) Tryz.isAgg3 Tryz.sizeOf3 (.inr rfl) (eqs_int Tryz.underlying3) (by omega) (eqf_cons (c_lint_Odd_f_P x) (c_lint_Odd_f_P y) (by rfl) (by rfl) Tryz.isAgg38 Tryz.sizeOf38 (.inl rfl) (eq_api_Prefix_38) (by omega) eqf_nil))) ?_
 congr 1
 cases x;cases y
 rw [Bool.eq_iff_iff];simp
theorem places_lint_Odd_40: ∀ w, ((#[{ name := "Kind", type := 3, offset := 0, embedded := false, tag := "", pkgPath := "", byteOffset := 0 }, { name := "Peer", type := 3, offset := 1, embedded := false, tag := "", pkgPath := "", byteOffset := 8 }, { name := "P", type := 38, offset := 2, embedded := false, tag := "", pkgPath := "", byteOffset := 16 }] : Array Field).mapM fun f => (do pure (f.offset, ← sizeOf f.type) : Sem (Nat × Nat))).run Tryz.prog w = .ok #[(0, 1), (1, 1), (2, 18)] w := fun w => by
 simp [Tryz.sizeOf3 w,Tryz.sizeOf3 w,Tryz.sizeOf38 w]
structure S_api_Entry where
 f_P:S_api_Prefix
 f_Owner:Int
 deriving DecidableEq,Inhabited
def c_api_Entry:Cd S_api_Entry:=⟨19,fun x=>Cd.cs c_api_Prefix x.f_P++(Cd.cs (cInt .i64) x.f_Owner++[]),fun x=>by simp only [List.length_append,Cd.len,List.length_nil]<;>rfl,fun x v hv=>by
 simp only [List.mem_append,List.not_mem_nil,or_false] at hv
 rcases hv with hv | hv
 all_goals exact Cd.one _ _ _ hv,by decide⟩
theorem c_api_Entry_f_P(x:S_api_Entry):Lens (c_api_Entry.cs x) 0 c_api_Prefix x.f_P (fun z=>c_api_Entry.cs { x with f_P:=z }) :=
 ⟨[],Cd.cs (cInt .i64) x.f_Owner++[],by simp [c_api_Entry],by simp only [List.length_append,Cd.len,List.length_nil]<;>rfl,fun z=>by simp [c_api_Entry]⟩
theorem c_api_Entry_f_Owner(x:S_api_Entry):Lens (c_api_Entry.cs x) 18 (cInt .i64) x.f_Owner (fun z=>c_api_Entry.cs { x with f_Owner:=z }) :=
 ⟨Cd.cs c_api_Prefix x.f_P++[],[],by simp [c_api_Entry],by simp only [List.length_append,Cd.len,List.length_nil]<;>rfl,fun z=>by simp [c_api_Entry]⟩
theorem eq_api_Entry_49:Eqs Tryz.prog 49 c_api_Entry true 4:=fun d hd x y w=>by
 obtain ⟨d,rfl⟩:∃ e,d=e+1:=⟨d-1,by omega⟩
 refine (run_eq_struct (xs:=(c_api_Entry.cs x).toArray) (ys:=(c_api_Entry.cs y).toArray) Tryz.underlying49 Tryz.stoodInHeld49).trans ?_
 refine Eq.trans (eqf_cons (c_api_Entry_f_P x) (c_api_Entry_f_P y) (by rfl) (by rfl) Tryz.isAgg38 Tryz.sizeOf38 (.inl rfl) (eq_api_Prefix_38) (by omega) (eqf_cons (c_api_Entry_f_Owner x) (c_api_Entry_f_Owner y) (by rfl) (by rfl) Tryz.isAgg3 Tryz.sizeOf3 (.inr rfl) (eqs_int Tryz.underlying3) (by omega) eqf_nil)) ?_
 congr 1
 cases x;cases y
 rw [Bool.eq_iff_iff];simp
theorem places_api_Entry_49: ∀ w, ((#[{ name := "P", type := 38, offset := 0, embedded := false, tag := "", pkgPath := "", byteOffset := 0 }, { name := "Owner", type := 3, offset := 18, embedded := false, tag := "", pkgPath := "", byteOffset := 32 }] : Array Field).mapM fun f => (do pure (f.offset, ← sizeOf f.type) : Sem (Nat × Nat))).run Tryz.prog w = .ok #[(0, 18), (18, 1)] w := fun w => by
 simp [Tryz.sizeOf38 w,Tryz.sizeOf3 w]
structure S_lint_finder where
 f_c:S_api_Conf
 f_own:List S_api_Entry
 f_out:List S_lint_Odd
 deriving DecidableEq,Inhabited
abbrev G_lint_finder:=G_api_Conf×(Option Addr×Nat)×(Option Addr×Nat)
def c_lint_finder:Cd (G_lint_finder×S_lint_finder):=⟨37,fun z=>Cd.cs c_api_Conf (z.1.1,z.2.f_c)++(Cd.cs cHd ⟨z.1.2.1.1,List.length z.2.f_own,z.1.2.1.2⟩++(Cd.cs cHd ⟨z.1.2.2.1,List.length z.2.f_out,z.1.2.2.2⟩++[])),fun x=>by simp only [List.length_append,Cd.len,List.length_nil]<;>rfl,fun x v hv=>by
 simp only [List.mem_append,List.not_mem_nil,or_false] at hv
 rcases hv with hv | hv | hv
 all_goals exact Cd.one _ _ _ hv,by decide⟩
def NK_lint_finder(K:Nat→Prop)(w:World)(z:G_lint_finder×S_lint_finder):Prop:=NK_api_Conf K w (z.1.1,z.2.f_c)∧E.RowK K c_api_Entry w z.1.2.1.1 z.1.2.1.2 z.2.f_own∧E.RowK K c_lint_Odd w z.1.2.2.1 z.1.2.2.2 z.2.f_out
theorem NK_lint_finder.mono{K K':Nat→Prop}{s s':World}{z:G_lint_finder×S_lint_finder}(h:NK_lint_finder K s z)(m:Mono K s K' s'):NK_lint_finder K' s' z:=⟨NK_api_Conf.mono h.1 m,E.RowK.mono h.2.1 m,E.RowK.mono h.2.2 m⟩
abbrev NKR_lint_finder(K:Nat→Prop)(w:World)(p:Option Addr)(cap:Nat)(xs:List S_lint_finder):Prop:=NRowK c_lint_finder NK_lint_finder K w p cap xs
theorem NKR_lint_finder.mono{K:Nat→Prop}{s:World}{p:Option Addr}{cap:Nat}{xs:List S_lint_finder}{K':Nat→Prop}{s':World}(h:NKR_lint_finder K s p cap xs)(m:Mono K s K' s'):NKR_lint_finder K' s' p cap xs:=NRowK.mono_of (fun _ hz=>NK_lint_finder.mono hz m) h m
theorem c_lint_finder_f_out_sv(g:G_lint_finder)(x:S_lint_finder):Lens (c_lint_finder.cs (g,x)) 36 (cSv S_lint_Odd) (g.2.2,x.f_out) (fun z=>c_lint_finder.cs ((g.1,g.2.1,z.1),{ x with f_out:=z.2 })) :=
 ⟨Cd.cs c_api_Conf (g.1,x.f_c)++(Cd.cs cHd ⟨g.2.1.1,List.length x.f_own,g.2.1.2⟩++[]),[],by simp [c_lint_finder,cSv,cHd],by simp only [List.length_append,Cd.len,List.length_nil]<;>rfl,fun z=>by simp [c_lint_finder,cSv,cHd]⟩
theorem c_lint_finder_f_c(g:G_lint_finder)(x:S_lint_finder):Lens (c_lint_finder.cs (g,x)) 0 c_api_Conf (g.1,x.f_c) (fun h=>Cd.cs c_api_Conf h++(Cd.cs cHd ⟨g.2.1.1,List.length x.f_own,g.2.1.2⟩++(Cd.cs cHd ⟨g.2.2.1,List.length x.f_out,g.2.2.2⟩++[]))) :=
 ⟨[],Cd.cs cHd ⟨g.2.1.1,List.length x.f_own,g.2.1.2⟩++(Cd.cs cHd ⟨g.2.2.1,List.length x.f_out,g.2.2.2⟩++[]),by simp [c_lint_finder],by simp only [List.length_append,Cd.len,List.length_nil]<;>rfl,fun z=>by simp⟩
theorem c_lint_finder_f_own(g:G_lint_finder)(x:S_lint_finder):Lens (c_lint_finder.cs (g,x)) 35 cHd ⟨g.2.1.1,List.length x.f_own,g.2.1.2⟩ (fun h=>Cd.cs c_api_Conf (g.1,x.f_c)++(Cd.cs cHd h++(Cd.cs cHd ⟨g.2.2.1,List.length x.f_out,g.2.2.2⟩++[]))) :=
 ⟨Cd.cs c_api_Conf (g.1,x.f_c)++[],Cd.cs cHd ⟨g.2.2.1,List.length x.f_out,g.2.2.2⟩++[],by simp [c_lint_finder],by simp only [List.length_append,Cd.len,List.length_nil]<;>rfl,fun z=>by simp⟩
theorem c_lint_finder_f_out(g:G_lint_finder)(x:S_lint_finder):Lens (c_lint_finder.cs (g,x)) 36 cHd ⟨g.2.2.1,List.length x.f_out,g.2.2.2⟩ (fun h=>Cd.cs c_api_Conf (g.1,x.f_c)++(Cd.cs cHd ⟨g.2.1.1,List.length x.f_own,g.2.1.2⟩++(Cd.cs cHd h++[]))) :=
 ⟨Cd.cs c_api_Conf (g.1,x.f_c)++(Cd.cs cHd ⟨g.2.1.1,List.length x.f_own,g.2.1.2⟩++[]),[],by simp [c_lint_finder],by simp only [List.length_append,Cd.len,List.length_nil]<;>rfl,fun z=>by simp⟩
theorem places_lint_finder_63: ∀ w, ((#[{ name := "c", type := 27, offset := 0, embedded := false, tag := "", pkgPath := "crawlway/lint", byteOffset := 0 }, { name := "own", type := 46, offset := 35, embedded := false, tag := "", pkgPath := "crawlway/lint", byteOffset := 72 }, { name := "out", type := 30, offset := 36, embedded := false, tag := "", pkgPath := "crawlway/lint", byteOffset := 96 }] : Array Field).mapM fun f => (do pure (f.offset, ← sizeOf f.type) : Sem (Nat × Nat))).run Tryz.prog w = .ok #[(0, 35), (35, 1), (36, 1)] w := fun w => by
 simp [Tryz.sizeOf27 w,Tryz.sizeOf46 w,Tryz.sizeOf30 w]
structure S_aggregate_Range where
 f_From:S_api_Addr
 f_To:S_api_Addr
 deriving DecidableEq,Inhabited
def c_aggregate_Range:Cd S_aggregate_Range:=⟨34,fun x=>Cd.cs c_api_Addr x.f_From++(Cd.cs c_api_Addr x.f_To++[]),fun x=>by simp only [List.length_append,Cd.len,List.length_nil]<;>rfl,fun x v hv=>by
 simp only [List.mem_append,List.not_mem_nil,or_false] at hv
 rcases hv with hv | hv
 all_goals exact Cd.one _ _ _ hv,by decide⟩
theorem c_aggregate_Range_f_From(x:S_aggregate_Range):Lens (c_aggregate_Range.cs x) 0 c_api_Addr x.f_From (fun z=>c_aggregate_Range.cs { x with f_From:=z }) :=
 ⟨[],Cd.cs c_api_Addr x.f_To++[],by simp [c_aggregate_Range],by simp only [List.length_append,Cd.len,List.length_nil]<;>rfl,fun z=>by simp [c_aggregate_Range]⟩
theorem c_aggregate_Range_f_To(x:S_aggregate_Range):Lens (c_aggregate_Range.cs x) 17 c_api_Addr x.f_To (fun z=>c_aggregate_Range.cs { x with f_To:=z }) :=
 ⟨Cd.cs c_api_Addr x.f_From++[],[],by simp [c_aggregate_Range],by simp only [List.length_append,Cd.len,List.length_nil]<;>rfl,fun z=>by simp [c_aggregate_Range]⟩
theorem places_aggregate_Range_112: ∀ w, ((#[{ name := "From", type := 36, offset := 0, embedded := false, tag := "", pkgPath := "", byteOffset := 0 }, { name := "To", type := 36, offset := 17, embedded := false, tag := "", pkgPath := "", byteOffset := 24 }] : Array Field).mapM fun f => (do pure (f.offset, ← sizeOf f.type) : Sem (Nat × Nat))).run Tryz.prog w = .ok #[(0, 17), (17, 17)] w := fun w => by
 simp [Tryz.sizeOf36 w,Tryz.sizeOf36 w]
theorem plain_api_Addr:Plain c_api_Addr:=fun x v hv=>by
 have hv:v∈Cd.cs (cInt .i64) x.f_V++(Cd.cs (cVec (cInt .u8) 16 (by decide)) x.f_B++[]):=hv
 simp only [List.mem_append,List.not_mem_nil,or_false] at hv
 rcases hv with hv | hv
 ·exact (plain_int .i64) _ _ hv
 ·exact (plain_vec (plain_int .u8)) _ _ hv
theorem plain_api_Prefix:Plain c_api_Prefix:=fun x v hv=>by
 have hv:v∈Cd.cs c_api_Addr x.f_A++(Cd.cs (cInt .i64) x.f_Bits++[]):=hv
 simp only [List.mem_append,List.not_mem_nil,or_false] at hv
 rcases hv with hv | hv
 ·exact plain_api_Addr _ _ hv
 ·exact (plain_int .i64) _ _ hv
end Go.Proofs.YtahlbjmafceoeaaGreatDoor
