/- Texts of this claim, those in one that belong together; printed by a program of this project. -/
import Derived.WalkKit
import Derived.WalkSpells
import Derived.Deep.Quiet
import Derived.Laws.AppendOwn
import Derived.Deep.MidRow
import Derived.Lib.OthersKept
import Derived.Lib.AppendStr
import Derived.Lib.UnsafeStr
import Derived.Lib.Repeat
import Derived.Laws.StructEq
import Derived.ChangeKeysEq
import Derived.Laws.Externs
import Derived.Lib.BytesEntry
import Derived.Lib.Bytealg
import Derived.Lib.AppendIntMem
import Derived.Lib.Itoa
import Derived.Lib.ParseIntB
import Derived.Lib.LaidTab
import Derived.LaidOnce
import Derived.Laws.CopyRow
import Derived.StillTail
import Derived.Orders
import Derived.Lib.SliceRun
import Derived.MapKept
import Derived.Test.YtnekckhjmnhinaaGreatDoorProg
import Derived.Shelf.Strings.Builder1
import Derived.Shelf.Strings.Builder2
import Derived.Shelf.Strings.OnBuilder
import Derived.Shelf.Small.Strs
import Derived.Shelf.Small.Wraps
import Derived.Shelf.Strings.BuilderF
import Derived.Shelf.Strings.BuilderK
import Derived.Shelf.Utf8.RuneCount
import Derived.Shelf.Strings.Builder2Cap
import Derived.Shelf.Strconv.Itoa0
import Derived.Shelf.Strconv.Itoa1
import Derived.Shelf.LaysM
import Derived.Shelf.Strconv.Itoa2
import Derived.Shelf.Strconv.Itoa3
import Derived.Shelf.Strconv.Clone
import Derived.Shelf.Strconv.Lower
import Derived.Shelf.Strconv.ParseUint10
import Derived.Shelf.Strconv.ParseUint10Empty
import Derived.Shelf.Strconv.ParseUintEmpty
import Derived.Shelf.Strconv.ParseUint10b16
import Derived.Ground.MpProg
import Derived.Shelf.Pu.ParseUintPublic10
import Derived.Shelf.Pu.ErrVarParseUint
import Derived.Shelf.Strings.Search1
import Derived.Shelf.Strings.Search2
import Derived.Shelf.Strings.Search3
import Derived.Shelf.Strings.Cut
import Derived.Shelf.Strings.Count
import Derived.Shelf.Strings.Shaped
import Derived.Shelf.Strings.Prefix
import Derived.Shelf.Strings.Split
import Derived.Shelf.Strings.SplitShaped
import Derived.Shelf.Unicode.Decode
import Derived.Shelf.Strings.RuneCount
import Derived.Shelf.Strings.Explode
import Derived.Shelf.Bits.Mul64
import Derived.Shelf.Strings.Repeat
import Derived.Shelf.Unicode.DecodeSlow
import Derived.Shelf.Unicode.DecodeAny
import Derived.Shelf.Strings.BuilderCap
import Derived.Test.YtnekckhjmnhinaaGreatDoorRows
set_option linter.unusedVariables false
set_option linter.unusedSimpArgs false
set_option maxRecDepth 20000
namespace Go.Proofs.YtnekckhjmnhinaaGreatDoor.E
open Go.RowKit
def lk:List (Nat×Value)→Nat→Option Value
 | [],_=>none
 | (t,v)::L,s=>bif Nat.beq t s then some v else lk L s
def ev(L:List (Nat×Value)):Operand→Option Value
 | .tmp t=>lk L t
 | .const v=>some v
 | .global g=>some (.pointer (some ⟨g,0,none⟩))
 | .func f=>some (.func (.func f) #[] #[])
def evs(L:List (Nat×Value)):List Operand→Option (List Value)
 | []=>some []
 | x::l=>match ev L x,evs L l with
  | some v,some vs=>some (v::vs)
  | _,_=>none
structure Env (n:Nat) (L:List (Nat×Value)) (a:Act):Prop where
 size:a.tmps.size=n
 defs:a.defers=[]
 vals:∀ t v,lk L t=some v→a.tmps.getD t undef=v
variable {n : Nat} {L L' : List (Nat × Value)} {a : Act} {W : World → Prop} {P : Program} {ops : Array Oper} {Q : Exit → Act → World → Prop} {rest : List Oper}
theorem Env.eval(h:Env n L a){x:Operand}{v:Value}(hx:ev L x=some v):a.eval x=v:=by
 cases x with
 | tmp t=>exact h.vals t v hx
 | const u=>simpa [ev,Act.eval] using hx
 | global g=>simpa [ev,Act.eval] using hx
 | func f=>simpa [ev,Act.eval] using hx
theorem Env.evals(h:Env n L a):∀ {l:List Operand} {vs:List Value},evs L l=some vs→l.map a.eval=vs
 | [],vs,hx=>by simp [evs] at hx;simp [hx]
 | x::l,vs,hx=>by
  unfold evs at hx
  split at hx
  ·next v vs' h1 h2 =>
   cases hx
   simp [h.eval h1,h.evals h2]
  ·cases hx
theorem QdT(t:Nat)(v:Value)(s:Nat):lk ((t,v)::L) s=if t=s then some v else lk L s:=by
 show (bif Nat.beq t s then some v else lk L s)=_
 by_cases e:t=s
 ·subst e;simp
 ·have:Nat.beq t s=false:=by
   cases hb:Nat.beq t s
   ·rfl
   ·exact absurd (Nat.eq_of_beq_eq_true hb) e
  rw [this,if_neg e];rfl
theorem Env.put(h:Env n L a){d:Nat}(hd:Nat.blt d n=true)(v:Value):Env n ((d,v)::L) (a.put (some d) v):=by
 refine ⟨by simp [Act.put,h.size],by simp [Act.put,h.defs],fun t u hu=>?_⟩
 have hd':d<a.tmps.size:=by rw [h.size];exact Nat.le_of_ble_eq_true hd
 rw [QdT] at hu
 simp only [Act.put,Array.getD_eq_getD_getElem?,Array.getElem?_setIfInBounds]
 split at hu
 ·next e=>subst e;cases hu;simp [hd']
 ·next e =>
  rw [if_neg e]
  have:=h.vals t u hu
  simpa [Array.getD_eq_getD_getElem?] using this
theorem Env.put_none(h:Env n L a)(v:Value):Env n L (a.put none v):=h
def Sub:List (Nat×Value)→List (Nat×Value)→Prop
 | [],_=>True
 | (t,v)::r,L=>lk L t=some v∧Sub r L
theorem Sub.lk:∀ {r:List (Nat×Value)},Sub r L→∀ t v,lk r t=some v→E.lk L t=some v
 | [],_,_,_,h=>by cases h
 | (_,_)::r,hs,t,v,h=>by
  rw [QdT] at h
  split at h
  ·next e=>subst e;cases h;exact hs.1
  ·exact Sub.lk hs.2 t v h
theorem Env.weak(h:Env n L a)(hs:Sub L' L):Env n L' a:=⟨h.size,h.defs,fun t v hv=>h.vals t v (hs.lk t v hv)⟩
def At(n:Nat)(L:List (Nat×Value))(W:World→Prop)(X:Act→World→Prop):Prop:=∀ a w,Env n L a→W w→X a w
theorem Qkj{X:Act→World→Prop}(L':List (Nat×Value))(hs:Sub L' L)(k:At n L' W X):At n L W X:=fun a w h hw=>k a w (h.weak hs) hw
theorem Qk{X:Act→World→Prop}(k:At n L' W X)(hs:Sub L' L):At n L W X:=fun a w h hw=>k a w (h.weak hs) hw
theorem Qeo{X:Act→World→Prop}{W':World→Prop}(hs:∀ w,W w→W' w)(k:At n L W' X):At n L W X:=fun a w h hw=>k a w h (hs w hw)
theorem Qk3{x y:Code}(k:At n L W (x.wp P (Exit.then (y.wp P Q) Q))):At n L W ((Code.seq x y).wp P Q):=fun a w h hw=>wp_seq (k a w h hw)
theorem Qik{id:Nat}{l:List Oper}(k:At n L W (wpList P l.toArray Q l)):At n L W ((Code.region id l.toArray false).wp P Q):=fun a w h hw=>wp_region_lit (k a w h hw)
theorem Qs(k:At n L W (Q .normal)):At n L W (wpList P ops Q []):=fun a w h hw=>wpList_nil (k a w h hw)
theorem Qtb{id:Nat}{c:Code}(k:At n L W (c.wp P (Exit.inBlock id Q))):At n L W ((Code.block id c).wp P Q):=fun a w h hw=>wp_block (k a w h hw)
theorem QbQ(k:At n L W (Q .normal)):At n L W (Code.skip.wp P Q):=fun a w h hw=>wp_skip (k a w h hw)
theorem Q7{id:Nat}(k:At n L W (Q (.exit id))):At n L W ((Code.exit id).wp P Q):=fun a w h hw=>wp_exit (k a w h hw)
theorem QrT(k:At n L W (Q .ret)):At n L W (Code.ret.wp P Q):=fun a w h hw=>wp_ret (k a w h hw)
theorem QmZ{c:Operand}{x y:Code}{b:Bool}(hc:ev L c=some (.bool b))(hb:b=true)(k:At n L W (x.wp P Q)):At n L W ((Code.cond c x y).wp P Q) :=
 fun a w h hw=>wp_cond_true (by rw [h.eval hc,hb]) (k a w h hw)
theorem QlX{c:Operand}{x y:Code}{b:Bool}(hc:ev L c=some (.bool b))(hb:b=false)(k:At n L W (y.wp P Q)):At n L W ((Code.cond c x y).wp P Q) :=
 fun a w h hw=>wp_cond_false (by rw [h.eval hc,hb]) (k a w h hw)
def Qfa(P:Program)(c:Code)(Q:Exit→Act→World→Prop)(a:Act)(w:World):Prop :=
 ∀ (b:Frame) (k:List Item) (cs:List Frame),∃ e a' w',Q e a' w'∧Arrives P (lone (b.at a (.code c::.inLoop c::k)) cs w) b k cs e a' w'
theorem QnR{c:Code}(k:At n L W (Qfa P c Q)):At n L W ((Code.loop c).wp P Q):=fun a w h hw b kk cs =>
 let ⟨e,a',w',hq,harr⟩:=k a w h hw b kk cs
 ⟨e,a',w',hq,.of_steps (.one step_loop) harr⟩
theorem Qpo{c:Code}{a:Act}{w:World}(h:c.wp P (Exit.then (Qfa P c Q) Q) a w):Qfa P c Q a w:=by
 intro b k cs
 obtain ⟨e,a₁,w₁,hq,harr⟩:=h b (.inLoop c::k) cs
 cases e with
 | normal =>
  obtain ⟨e₂,a₂,w₂,hq₂,harr₂⟩:=hq b k cs
  exact ⟨e₂,a₂,w₂,hq₂,.of_steps (Steps.trans harr (.one step_inLoop)) harr₂⟩
 | exit id=>exact ⟨_,a₁,w₁,hq,.pass (x:=.inLoop c) rfl (fun _ _=>.inl (by simp)) harr⟩
 | goto l=>exact ⟨_,a₁,w₁,hq,.pass (x:=.inLoop c) rfl (fun _ _=>.inl (by simp)) harr⟩
 | ret=>exact ⟨_,a₁,w₁,hq,.pass (x:=.inLoop c) rfl (fun _ _=>.inl (by simp)) harr⟩
 | panic ch=>exact ⟨_,a₁,w₁,hq,.pass (x:=.inLoop c) rfl (fun _ _=>.inl (by simp)) harr⟩
 | outgrown=>exact ⟨_,a₁,w₁,hq,.pass (x:=.inLoop c) rfl (fun _ _=>.inl (by simp)) harr⟩
theorem QW{c:Code}(k:At n L W (c.wp P (Exit.then (Qfa P c Q) Q))):At n L W (Qfa P c Q):=fun a w h hw=>Qpo (k a w h hw)
def rep(l:List Value)(i:Nat):List (Nat×Value):=match l with | []=>[] | v::l=>(i,v)::rep l (i+1)
theorem Qtk:∀ (l:List Value) (i t:Nat) (v:Value),lk (rep l i) t=some v→i≤t∧l[t-i]? = some v
 | [],_,_,_,h=>by cases h
 | u::l,i,t,v,h=>by
  unfold rep at h
  rw [QdT] at h
  split at h
  ·next e=>subst e;cases h;simp
  ·next e =>
   obtain ⟨h1,h2⟩:=Qtk l (i+1) t v h
   refine ⟨by omega,?_⟩
   rw [show t-i=(t-(i+1))+1 by omega]
   simpa using h2
theorem Qkg{f:FuncId}{fn:Func}{c:Code}{l:List Value}{w:World}{R:Ending→World→Prop}(hf:P.funcs[f]? = some fn)(hb:fn.body=some c)(hn:fn.ntmps=n)(hl:Nat.ble l.length n=true)
  (k:At n (rep l 0) (fun w'=>w'=w) (c.wp P (bodyPost P fn R))):Calls P f l.toArray w R:=by
 refine calls_of_wp hf hb ?_
 have hl':l.length≤n:=by simpa using hl
 refine k _ _ ⟨by simp [hn];omega,rfl,fun t v hv=>?_⟩ rfl
 obtain ⟨_,h2⟩:=Qtk l 0 t v hv
 simp only [Nat.sub_zero] at h2
 simp only [Array.getD_eq_getD_getElem?]
 have:t<l.length:=(List.getElem?_eq_some_iff.1 h2).1
 rw [Array.getElem?_append_left (by simpa using this)]
 simp [h2]
theorem Qk4{fn:Func}{R:Ending→World→Prop}{t:Nat}{v:Value}(hr:fn.results=#[.tmp t])(hv:lk L t=some v)(hR:∀ w,W w→R (.returned v) w):At n L W (bodyPost P fn R .ret) :=
 fun a w h hw=>⟨h.defs,_,results_tmp hr a.tmps P w,by rw [h.vals t v hv];exact hR w hw⟩
theorem Q6{fn:Func}{R:Ending→World→Prop}{t u:Nat}{v v':Value}(hr:fn.results=#[.tmp t,.tmp u])(hv:lk L t=some v)(hv':lk L u=some v')(hR:∀ w,W w→R (.returned (.tuple #[v,v'])) w):At n L W (bodyPost P fn R .ret) :=
 fun a w h hw=>⟨h.defs,_,results_tmp2 hr a.tmps P w,by rw [h.vals t v hv,h.vals u v' hv'];exact hR w hw⟩
theorem Qk5{fn:Func}{R:Ending→World→Prop}(hr:fn.results=#[])(hR:∀ w,W w→R (.returned (.tuple #[])) w):At n L W (bodyPost P fn R .normal) :=
 fun a w h hw=>⟨h.defs,_,results_none hr a.tmps P w,hR w hw⟩
theorem Qmj{fn:Func}{t u s:Tmp}(h:fn.results=#[.tmp t,.tmp u,.tmp s])(tmps:Array Value)(P:Program)(w:World) :
  (results fn tmps).run P w=.ok (.tuple #[tmps.getD t undef,tmps.getD u undef,tmps.getD s undef]) w:=by
 simp [results,h]
theorem QdO{fn:Func}{R:Ending→World→Prop}{t u s:Nat}{v v' v'':Value}(hr:fn.results=#[.tmp t,.tmp u,.tmp s])(hv:lk L t=some v)(hv':lk L u=some v')(hv'':lk L s=some v'')(hR:∀ w,W w→R (.returned (.tuple #[v,v',v''])) w):At n L W (bodyPost P fn R .ret) :=
 fun a w h hw=>⟨h.defs,_,Qmj hr a.tmps P w,by rw [h.vals t v hv,h.vals u v' hv',h.vals s v'' hv''];exact hR w hw⟩
variable {d : Nat} {ty : TypeId} {pos : String} {aft : Array Edge}
def QdP(n:Nat)(L:List (Nat×Value))(W:World→Prop)(P:Program)(o:Oper)(v:Value):Prop:=∀ a w,Env n L a→W w→(execOp a.eval o).run P w=.ok (.value v) w
theorem Qk2{o:Oper}{v:Value}(hg:o.guard=none)(hd:o.dst=some d)(hdn:Nat.blt d n=true)(hr:QdP n L W P o v)
  (k:At n ((d,v)::L) W (wpList P ops Q rest)):At n L W (wpList P ops Q (o::rest)):=fun a w h hw =>
 wpList_plain hg fun K hK=>by
  unfold Oper.wp
  rw [hr a w h hw]
  simp only [Oper.upon,hd]
  exact hK _ _ (k _ _ (h.put hdn v) hw)
theorem Qgp{o:Oper}{W':Value→World→Prop}(hg:o.guard=none)(hd:o.dst=some d)(hdn:Nat.blt d n=true)
  (hr:∀ a w,Env n L a→W w→∃ v w',(execOp a.eval o).run P w=.ok (.value v) w'∧W' v w')
  (k:∀ v,At n ((d,v)::L) (W' v) (wpList P ops Q rest)):At n L W (wpList P ops Q (o::rest)):=fun a w h hw =>
 wpList_plain hg fun K hK=>by
  obtain ⟨v,w',hrun,hw'⟩:=hr a w h hw
  unfold Oper.wp
  rw [hrun]
  simp only [Oper.upon,hd]
  exact hK _ _ (k v _ _ (h.put hdn v) hw')
theorem QrS{o:Oper}{W':World→Prop}(hg:o.guard=none)(hd:o.dst=none)
  (hr:∀ a w,Env n L a→W w→∃ w',(execOp a.eval o).run P w=.ok .skip w'∧W' w')
  (k:At n L W' (wpList P ops Q rest)):At n L W (wpList P ops Q (o::rest)):=fun a w h hw =>
 wpList_plain hg fun K hK=>by
  obtain ⟨w',hrun,hw'⟩:=hr a w h hw
  unfold Oper.wp
  rw [hrun]
  simp only [Oper.upon,hd]
  exact hK _ _ (k _ _ (h.put_none _) hw')
theorem Qbz{x:Operand}{v:Value}(hx:ev L x=some v) :
  QdP n L W P ⟨some d,.move x,ty,pos,aft,none⟩ (v) :=
 fun a w h _=>by simp only [execOp,h.eval hx];rfl
theorem Qcf{x:Operand}{v:Value}(hx:ev L x=some v) :
  QdP n L W P ⟨some d,.assign x,ty,pos,aft,none⟩ (v) :=
 fun a w h _=>by simp only [execOp,h.eval hx];rfl
def iop(op:BinOp)(k:IntKind)(x y:Int):Value:=match op with
 | .add=>.int k (k.wrap (x+y))
 | .sub=>.int k (k.wrap (x-y))
 | .mul=>.int k (k.wrap (x*y))
 | .and=>.int k (k.wrap (BitVec.ofInt k.bits x &&& BitVec.ofInt k.bits y).toNat)
 | .or=>.int k (k.wrap (BitVec.ofInt k.bits x ||| BitVec.ofInt k.bits y).toNat)
 | .xor=>.int k (k.wrap (BitVec.ofInt k.bits x ^^^ BitVec.ofInt k.bits y).toNat)
 | .andNot=>.int k (k.wrap (BitVec.ofInt k.bits x &&& ~~~ BitVec.ofInt k.bits y).toNat)
 | .eql=>.bool (x==y)
 | .neq=>.bool (x != y)
 | .lss=>.bool (decide (x<y))
 | .leq=>.bool (decide (x≤y))
 | .gtr=>.bool (decide (x>y))
 | .geq=>.bool (decide (x≥y))
 | _=>undef
def QvH:BinOp→Bool
 | .add | .sub | .mul | .and | .or | .xor | .andNot | .eql | .neq | .lss | .leq | .gtr | .geq=>true
 | _=>false
theorem QhL(op:BinOp)(t:TypeId)(x y:Operand)(k l:IntKind)(a b:Int)(w:World):(eqGuard op t x y (.int k a) (.int l b)).run P w=.ok () w:=by
 cases op<;>rfl
theorem QjR{op:BinOp}{xt yt:TypeId}{x y:Operand}{k:IntKind}{i j:Int}{v:Value}(hx:ev L x=some (.int k i))(hy:ev L y=some (.int k j))(ho:QvH op=true)(hv:iop op k i j=v) :
  QdP n L W P ⟨some d,.binOp op xt x y yt,ty,pos,aft,none⟩ (v) :=
 fun a w h _=>by
  subst hv
  simp only [execOp,h.eval hx,h.eval hy,Sem.run_bind,QhL,Result.andThen_ok]
  cases op<;>simp_all [QvH]<;>simp [binOp,iop,Op.intArith,Op.intBits,Op.intCmp]
theorem Qqx{op:BinOp}{xt yt:TypeId}{x y:Operand}{k l:IntKind}{i j:Int}{v:Value}(hx:ev L x=some (.int k i))(hy:ev L y=some (.int l j))(hj:0≤j)
  (hv:(match op with | .shl=>Value.int k (k.wrap (i*2 ^ (min j.toNat k.bits))) | .shr=>.int k (i.fdiv (2 ^ (min j.toNat k.bits))) | _=>undef)=v) (ho:op=.shl∨op=.shr) :
  QdP n L W P ⟨some d,.binOp op xt x y yt,ty,pos,aft,none⟩ (v) :=
 fun a w h _=>by
  subst hv
  simp only [execOp,h.eval hx,h.eval hy,Sem.run_bind,QhL,Result.andThen_ok]
  rcases ho with rfl | rfl<;>simp [binOp,Op.shift,Int.not_lt.2 hj]
theorem Qvr{op:BinOp}{xt yt:TypeId}{x y:Operand}{k:IntKind}{i j:Int}{v:Value}(hx:ev L x=some (.int k i))(hy:ev L y=some (.int k j))(hj:j≠0)
  (hv:(match op with | .quo=>Value.int k (k.wrap (i.tdiv j)) | .rem=>.int k (i.tmod j) | _=>undef)=v) (ho:op=.quo∨op=.rem) :
  QdP n L W P ⟨some d,.binOp op xt x y yt,ty,pos,aft,none⟩ (v) :=
 fun a w h _=>by
  subst hv
  simp only [execOp,h.eval hx,h.eval hy,Sem.run_bind,QhL,Result.andThen_ok]
  rcases ho with rfl | rfl<;>simp [binOp,Op.intDiv,hj]
section
variable {xt yt : TypeId} {x y : Operand} {k : IntKind} {i j : Int}
theorem QjS(hx:ev L x=some (.int k i))(hy:ev L y=some (.int k j)) :
  QdP n L W P ⟨some d,.binOp .add xt x y yt,ty,pos,aft,none⟩ (.int k (k.wrap (i+j))):=QjR hx hy rfl rfl
theorem Qdh(hx:ev L x=some (.int k i))(hy:ev L y=some (.int k j)) :
  QdP n L W P ⟨some d,.binOp .sub xt x y yt,ty,pos,aft,none⟩ (.int k (k.wrap (i-j))):=QjR hx hy rfl rfl
theorem QcT(hx:ev L x=some (.int k i))(hy:ev L y=some (.int k j)) :
  QdP n L W P ⟨some d,.binOp .mul xt x y yt,ty,pos,aft,none⟩ (.int k (k.wrap (i*j))):=QjR hx hy rfl rfl
theorem QkM(hx:ev L x=some (.int k i))(hy:ev L y=some (.int k j)) :
  QdP n L W P ⟨some d,.binOp .and xt x y yt,ty,pos,aft,none⟩ (.int k (k.wrap (BitVec.ofInt k.bits i &&& BitVec.ofInt k.bits j).toNat)):=QjR hx hy rfl rfl
theorem Qnj(hx:ev L x=some (.int k i))(hy:ev L y=some (.int k j)) :
  QdP n L W P ⟨some d,.binOp .or xt x y yt,ty,pos,aft,none⟩ (.int k (k.wrap (BitVec.ofInt k.bits i ||| BitVec.ofInt k.bits j).toNat)):=QjR hx hy rfl rfl
theorem QqA(hx:ev L x=some (.int k i))(hy:ev L y=some (.int k j)) :
  QdP n L W P ⟨some d,.binOp .eql xt x y yt,ty,pos,aft,none⟩ (.bool (i==j)):=QjR hx hy rfl rfl
theorem Qtl(hx:ev L x=some (.int k i))(hy:ev L y=some (.int k j)) :
  QdP n L W P ⟨some d,.binOp .neq xt x y yt,ty,pos,aft,none⟩ (.bool (i != j)):=QjR hx hy rfl rfl
theorem Qoi(hx:ev L x=some (.int k i))(hy:ev L y=some (.int k j)) :
  QdP n L W P ⟨some d,.binOp .lss xt x y yt,ty,pos,aft,none⟩ (.bool (decide (i<j))):=QjR hx hy rfl rfl
theorem Qhw(hx:ev L x=some (.int k i))(hy:ev L y=some (.int k j)) :
  QdP n L W P ⟨some d,.binOp .leq xt x y yt,ty,pos,aft,none⟩ (.bool (decide (i≤j))):=QjR hx hy rfl rfl
theorem QbI(hx:ev L x=some (.int k i))(hy:ev L y=some (.int k j)) :
  QdP n L W P ⟨some d,.binOp .gtr xt x y yt,ty,pos,aft,none⟩ (.bool (decide (i>j))):=QjR hx hy rfl rfl
theorem QfM(hx:ev L x=some (.int k i))(hy:ev L y=some (.int k j)) :
  QdP n L W P ⟨some d,.binOp .geq xt x y yt,ty,pos,aft,none⟩ (.bool (decide (i≥j))):=QjR hx hy rfl rfl
theorem QgI{l:IntKind}(hx:ev L x=some (.int k i))(hy:ev L y=some (.int l j))(hj:0≤j) :
  QdP n L W P ⟨some d,.binOp .shl xt x y yt,ty,pos,aft,none⟩ (.int k (k.wrap (i*2 ^ (min j.toNat k.bits)))):=Qqx hx hy hj rfl (.inl rfl)
theorem QjQ{l:IntKind}(hx:ev L x=some (.int k i))(hy:ev L y=some (.int l j))(hj:0≤j) :
  QdP n L W P ⟨some d,.binOp .shr xt x y yt,ty,pos,aft,none⟩ (.int k (i.fdiv (2 ^ (min j.toNat k.bits)))):=Qqx hx hy hj rfl (.inr rfl)
theorem Qfl(hx:ev L x=some (.int k i))(hy:ev L y=some (.int k j))(hj:j≠0) :
  QdP n L W P ⟨some d,.binOp .quo xt x y yt,ty,pos,aft,none⟩ (.int k (k.wrap (i.tdiv j))):=Qvr hx hy hj rfl (.inl rfl)
theorem QfL(hx:ev L x=some (.int k i))(hy:ev L y=some (.int k j))(hj:j≠0) :
  QdP n L W P ⟨some d,.binOp .rem xt x y yt,ty,pos,aft,none⟩ (.int k (i.tmod j)):=Qvr hx hy hj rfl (.inr rfl)
end
def seq(x y:ByteArray):Bool:=x.toList==y.toList
def sop(op:BinOp)(x y:ByteArray):Value:=match op with
 | .eql=>.bool (seq x y)
 | .neq=>.bool (!seq x y)
 | .lss=>.bool (Op.bytesLess x.toList y.toList)
 | .leq=>.bool (Op.bytesLess x.toList y.toList||seq x y)
 | .gtr=>.bool (!(Op.bytesLess x.toList y.toList||seq x y))
 | .geq=>.bool (!Op.bytesLess x.toList y.toList)
 | _=>undef
def Qvb:BinOp→Bool
 | .eql | .neq | .lss | .leq | .gtr | .geq=>true
 | _=>false
theorem Qj9(op:BinOp)(t:TypeId)(x y:Operand)(a b:ByteArray)(w:World):(eqGuard op t x y (.string a) (.string b)).run P w=.ok () w:=by
 cases op<;>rfl
theorem Qvp{op:BinOp}{xt yt:TypeId}{x y:Operand}{i j:ByteArray}{v:Value}(hx:ev L x=some (.string i))(hy:ev L y=some (.string j))(ho:Qvb op=true)(hv:sop op i j=v) :
  QdP n L W P ⟨some d,.binOp op xt x y yt,ty,pos,aft,none⟩ (v) :=
 fun a w h _=>by
  subst hv
  simp only [execOp,h.eval hx,h.eval hy,Sem.run_bind,Qj9,Result.andThen_ok]
  cases op<;>simp_all [Qvb]<;>simp [binOp,sop,Op.stringOp,seq]
section
variable {xt yt : TypeId} {x y : Operand} {i j : ByteArray}
theorem QfK(hx:ev L x=some (.string i))(hy:ev L y=some (.string j)) :
  QdP n L W P ⟨some d,.binOp .eql xt x y yt,ty,pos,aft,none⟩ (.bool (seq i j)):=Qvp hx hy rfl rfl
theorem Qmu(hx:ev L x=some (.string i))(hy:ev L y=some (.string j)) :
  QdP n L W P ⟨some d,.binOp .neq xt x y yt,ty,pos,aft,none⟩ (.bool (!seq i j)):=Qvp hx hy rfl rfl
end
theorem Q2{xt yt:TypeId}{x y:Operand}{i j:ByteArray}(hx:ev L x=some (.string i))(hy:ev L y=some (.string j))(hs:i.size+j.size≤140737488355328) :
  QdP n L W P ⟨some d,.binOp .add xt x y yt,ty,pos,aft,none⟩ (.string (i++j)) :=
 fun a w h _=>by
  have:¬ (((i.size+j.size:Nat):Int)>IntKind.i64.max):=by
   have:IntKind.i64.max=9223372036854775807:=by decide
   omega
  simp only [execOp,h.eval hx,h.eval hy,Sem.run_bind,Qj9,Result.andThen_ok]
  simp only [binOp,Op.stringOp,this,if_false]
  rfl
theorem Qcq{xt:TypeId}{x:Operand}{b:Bool}(hx:ev L x=some (.bool b)) :
  QdP n L W P ⟨some d,.unOp .not xt x,ty,pos,aft,none⟩ (.bool (!b)) :=
 fun a w h _=>by simp only [execOp,h.eval hx];rfl
theorem QaW{s t:TypeId}{x:Operand}{k l:IntKind}{i:Int}(hs:P.underlying s=some (.int l))(ht:P.underlying t=some (.int k))(hx:ev L x=some (.int l i)) :
  QdP n L W P ⟨some d,.convert s t x,ty,pos,aft,none⟩ (.int k (k.wrap i)) :=
 fun a w h _=>by
  simp only [execOp,h.eval hx,convert,Sem.run_bind,run_underlying hs,run_underlying ht,Result.andThen_ok]
  rfl
theorem Qpd{s t:TypeId}{x:Operand}{l:IntKind}{i:Int}(hs:P.underlying s=some (.int l))(ht:P.underlying t=some .string)(hx:ev L x=some (.int l i)) :
  QdP n L W P ⟨some d,.convert s t x,ty,pos,aft,none⟩ (.string (Utf8.encode i)) :=
 fun a w h _=>by
  simp only [execOp,h.eval hx,convert,Sem.run_bind,run_underlying hs,run_underlying ht,Result.andThen_ok]
  rfl
theorem QaR{t:TypeId}{x:Operand}{s:ByteArray}(ht:P.underlying t=some .string)(hx:ev L x=some (.string s)) :
  QdP n L W P ⟨some d,.call { callee:=.builtin .len,args:=#[x],argTypes:=#[t] },ty,pos,aft,none⟩ (.int .i64 s.size) :=
 fun a w h _=>by
  simp only [execOp,resolve,invoke,builtin,Sem.run_bind,Sem.run_pure,Result.andThen_ok,List.map_toArray,List.map_cons,List.map_nil,h.eval hx]
  simp [Builtin.len_,run_underlying ht];rfl
section
variable {t u : TypeId} {x y : Operand} {k : IntKind} {i j : Int}
theorem Qqy(hx:ev L x=some (.int k i))(hy:ev L y=some (.int k j)) :
  QdP n L W P ⟨some d,.call { callee:=.builtin .min,args:=#[x,y],argTypes:=#[t,u] },ty,pos,aft,none⟩ (.int k (if j<i then j else i)) :=
 fun a w h _=>by
  simp only [execOp,resolve,invoke,builtin,Sem.run_bind,Sem.run_pure,Result.andThen_ok,List.map_toArray,List.map_cons,List.map_nil,h.eval hx,h.eval hy]
  simp [Builtin.min_,Builtin.min2]
theorem Qwq(hx:ev L x=some (.int k i))(hy:ev L y=some (.int k j)) :
  QdP n L W P ⟨some d,.call { callee:=.builtin .max,args:=#[x,y],argTypes:=#[t,u] },ty,pos,aft,none⟩ (.int k (if i<j then j else i)) :=
 fun a w h _=>by
  simp only [execOp,resolve,invoke,builtin,Sem.run_bind,Sem.run_pure,Result.andThen_ok,List.map_toArray,List.map_cons,List.map_nil,h.eval hx,h.eval hy]
  simp [Builtin.max_,Builtin.max2]
end
def bt(s:ByteArray)(i:Int):Int:=((s[i.toNat]?).getD 0).toNat
theorem QaZ{t:TypeId}{x y:Operand}{s:ByteArray}{k:IntKind}{i:Int}(ht:P.underlying t=some .string)(hx:ev L x=some (.string s))(hy:ev L y=some (.int k i))(hi:0≤i∧i<s.size) :
  QdP n L W P ⟨some d,.index t x y,ty,pos,aft,none⟩ (.int .u8 (bt s i)) :=
 fun a w h _=>by
  have hlt:i.toNat<s.size:=by omega
  simp only [execOp,h.eval hx,h.eval hy]
  simp [Instr.index,asIntOf,run_underlying ht,hi.1,hlt,bt]
theorem Qbc{t:TypeId}{x:Operand}{lo hi:Option Operand}{s:ByteArray}{l h:Int}(ht:P.underlying t=some .string)(hx:ev L x=some (.string s))
  (hlo:match lo with | none=>l=0 | some y=>∃ k,ev L y=some (.int k l)) (hhi:match hi with | none=>h=s.size | some y=>∃ k,ev L y=some (.int k h)) (hb:0≤l∧l≤h∧h≤s.size) :
  QdP n L W P ⟨some d,.slice t x lo hi none,ty,pos,aft,none⟩ (.string (s.extract l.toNat h.toNat)) :=
 fun a w he _=>by
  obtain ⟨h1,h2,h3⟩:=hb
  have h0:0≤h:=by omega
  have e1:(h.toNat:Int)=h:=Int.toNat_of_nonneg h0
  simp only [execOp,he.eval hx]
  cases lo<;>cases hi<;>simp only at hlo hhi
  ·subst hlo hhi
   simp [Instr.sliceAt,Instr.slice,Instr.sliceBounds,run_underlying ht]
  ·obtain ⟨k,hk⟩:=hhi
   subst hlo
   simp [Instr.sliceAt,Instr.slice,Instr.sliceBounds,Instr.sliceBound,asIntOf,run_underlying ht,he.eval hk,h0,h3]
  ·obtain ⟨k,hk⟩:=hlo
   subst hhi
   simp [Instr.sliceAt,Instr.slice,Instr.sliceBounds,Instr.sliceBound,asIntOf,run_underlying ht,he.eval hk,h1,h2]
  ·obtain ⟨k,hk⟩:=hlo
   obtain ⟨k',hk'⟩:=hhi
   simp [Instr.sliceAt,Instr.slice,Instr.sliceBounds,Instr.sliceBound,asIntOf,run_underlying ht,he.eval hk,he.eval hk',h0,h1,h2,h3,e1]
theorem QqB{x:Operand}{i:Nat}{vs:Array Value}{v:Value}(hx:ev L x=some (.tuple vs))(hv:vs[i]? = some v) :
  QdP n L W P ⟨some d,.extract x i,ty,pos,aft,none⟩ (v) :=
 fun a w h _=>by simp [execOp,h.eval hx,Instr.extract,hv]
theorem QdZ{c x y:Operand}{b:Bool}{u v:Value}(hc:ev L c=some (.bool b))(hx:ev L x=some u)(hy:ev L y=some v) :
  QdP n L W P ⟨some d,.pick c x y,ty,pos,aft,none⟩ (bif b then u else v) :=
 fun a w h _=>by cases b<;>simp [execOp,h.eval hc,h.eval hx,h.eval hy,asBool]
theorem QeZ{f : FuncId}{fn : Func}{xs : List Operand}{ats : Array TypeId}{l : List Value}{W' : Value → World → Prop}(hf : P.funcs[f]? = some fn)(hb : fn.body.isSome = true)(hnm : (fn.name == "runtime.NumGoroutine") = false)
  (hx:evs L xs=some l) (hdn:Nat.blt d n=true) (hc:∀ w,W w→Calls P f l.toArray w fun e w'=>∃ v,e=.returned v∧W' v w')
  (kk:∀ v,At n ((d,v)::L) (W' v) (wpList P ops Q rest)) :
  At n L W (wpList P ops Q (⟨some d,.call { callee:=.value (.func f),args:=xs.toArray,argTypes:=ats },ty,pos,aft,none⟩::rest)):=fun a w h hw =>
 wpList_plain rfl fun K hK=>by
  have hargs:=h.evals hx
  unfold Oper.wp
  rw [execOp_call_go]
  have hrun:(callFunc f (#[]++xs.toArray.map a.eval++#[])).run P w=.ok (.enter f l.toArray) w:=by
   have hbn:¬ fn.body=none:=by intro hq;simp [hq] at hb
   have hn' : ¬ fn.name = "runtime.NumGoroutine" := by intro hq; rw [hq] at hnm; simp at hnm
   simp [callFunc,program,Sem.run,hf,hn',hbn,hargs]
  rw [hrun]
  simp only [Oper.upon]
  refine (hc w hw).mono ?_
  rintro e w' ⟨v,rfl,hw'⟩
  exact hK _ _ (kk v _ _ (h.put hdn v) hw')
theorem Qsz{α:Type}{p:Prop}[Decidable p]{G:Option α}{r:α}(h:(if p then G else none)=some r):p∧G=some r:=by
 split at h
 ·exact ⟨‹_›,h⟩
 ·cases h
theorem Qvz{α:Type}{c:Bool}{A B:Option α}{r:α}(h:(if c=true then A else B)=some r):(c=true∧A=some r)∨(c=false∧B=some r):=by
 cases c
 ·exact .inr ⟨rfl,h⟩
 ·exact .inl ⟨rfl,h⟩
theorem Qwu{α:Type}{x r:α}(h:some x=some r):x=r:=Option.some.inj h
abbrev wr(k:IntKind)(x:Int):Int:=k.wrap x
abbrev Qjd(k:IntKind)(x y:Int):Int:=k.wrap (BitVec.ofInt k.bits x &&& BitVec.ofInt k.bits y).toNat
abbrev ior(k:IntKind)(x y:Int):Int:=k.wrap (BitVec.ofInt k.bits x ||| BitVec.ofInt k.bits y).toNat
abbrev Qh9(k:IntKind)(x y:Int):Int:=k.wrap (x*2 ^ (min y.toNat k.bits))
abbrev Qh8(k:IntKind)(x y:Int):Int:=x.fdiv (2 ^ (min y.toNat k.bits))
inductive Ctl (R S:Type) where
 | ret (r:R)
 | nx (s:S)
def Kq{R S:Type}(q:Ctl R S)(r:R)(A:S→Prop):Prop:=match q with
 | .ret r'=>r'=r
 | .nx s=>A s
abbrev QuP:=(Act→World→Prop)→Prop
def KN(A:QuP)(Q:Exit→Act→World→Prop)(B:Nat):Prop:=A (Q (.exit B))
def KR{R S:Type}(A:S→QuP)(Q:Exit→Act→World→Prop)(B:Nat)(r:R)(x:Ctl R S):Prop:=Kq x r fun s=>A s (Q (.exit B))
def QbB(A:QuP)(P:Program)(c:Code)(Q:Exit→Act→World→Prop):Prop:=A (Qfa P c Q)
section
variable {K : Act → World → Prop} {i id : Nat} {c x x2 y : Code} {R S : Type}
theorem Qdc(k:At n L W K):At n L W (Exit.then K Q .normal):=k
theorem QmW(k:At n L W (Q (.exit i))):At n L W (Exit.then K Q (.exit i)):=k
theorem Qkk(k:At n L W (Q .ret)):At n L W (Exit.then K Q .ret):=k
theorem Qby(k:At n L W (Q .normal)):At n L W (Exit.inBlock id Q .normal):=k
theorem QpP(k:At n L W (Q .ret)):At n L W (Exit.inBlock id Q .ret):=k
theorem QD(k:At n L W (Q .normal)):At n L W (Exit.inBlock id Q (.exit id)):=fun a w h hw=>by simpa [Exit.inBlock] using k a w h hw
theorem Qal(B:Nat)(A:QuP)(h:KN A Q B→At n L W (Qfa P c Q))(k:KN A Q B):At n L W ((Code.loop c).wp P Q):=QnR (h k)
theorem Qbn(B:Nat)(r:R)(q:Ctl R S)(A:S→QuP)(h:KR A Q B r q→At n L W (Qfa P c Q))(k:KR A Q B r q):At n L W ((Code.loop c).wp P Q):=QnR (h k)
theorem QfA(r q:R)(h:q=r→At n L W (Qfa P c Q))(k:q=r):At n L W ((Code.loop c).wp P Q):=QnR (h k)
theorem QhQ(r:R)(q:Ctl R S)(A:S→QuP)(h1:∀ Y:Act→World→Prop,Kq q r (fun s=>A s Y)→At n L W (x.wp P (Exit.then Y Q)))
  (h2:Kq q r (fun s=>A s (y.wp P Q))):At n L W ((Code.seq x y).wp P Q):=Qk3 (h1 _ h2)
theorem Qjx(A:QuP)(h1:∀ Y:Act→World→Prop,A Y→At n L W (x.wp P (Exit.then Y Q)))
  (h2:A (y.wp P Q)):At n L W ((Code.seq x y).wp P Q):=Qk3 (h1 _ h2)
end
theorem Qwa{X:Act→World→Prop}{g:Nat}{b b':Bool}(hg:lk L g=some (.bool b))(hb:b=b')(k:At n ((g,.bool b')::L) W X):At n L W X:=fun a w h hw =>
 k a w ⟨h.size,h.defs,fun t v hv=>by
  rw [QdT] at hv
  split at hv
  ·next e=>subst e hb;cases hv;exact h.vals _ _ hg
  ·exact h.vals t v hv⟩ hw
theorem QhS{a:Act}(h:Env n L a){j g:Nat}{oj:Oper}{b:Bool}(hj:ops[j]? = some oj)(hd:oj.dst=some g)(hg:lk L g=some (.bool b)):yielded ops a.tmps j=some b:=by
 have:=h.vals g _ hg
 rw [Array.getD_eq_getD_getElem?] at this
 unfold yielded
 simp only [hj,hd,Option.bind_some]
 cases hq:a.tmps[g]? with
 | none=>rw [hq] at this;cases this
 | some u=>rw [hq] at this;simp only [Option.getD_some] at this;subst this;rfl
section
variable {dst : Option Tmp} {op : Op} {j g : Nat} {oj : Oper} {b b' : Bool}
theorem QmX(hj:ops[j]? = some oj)(hd:oj.dst=some g)(hg:lk L g=some (.bool b))(k:At n L W (wpList P ops Q (⟨dst,op,ty,pos,aft,none⟩::rest))) :
  At n L W (wpList P ops Q (⟨dst,op,ty,pos,aft,some (j,b)⟩::rest)):=fun a w h hw=>by
 have hk:=k a w h hw
 have hy:=QhS h hj hd hg
 unfold wpList at hk ⊢
 rw [if_pos (by simp [Region.wanted])] at hk
 rw [if_pos (by simp [Region.wanted,hy])]
 exact hk
theorem Q9(hj:ops[j]? = some oj)(hd:oj.dst=some g)(hg:lk L g=some undef)(hdn:Nat.blt d n=true)(k:At n ((d,undef)::L) W (wpList P ops Q rest)) :
  At n L W (wpList P ops Q (⟨some d,op,ty,pos,aft,some (j,b')⟩::rest)):=fun a w h hw=>by
 have hy:yielded ops a.tmps j=none:=by
  have:=h.vals g _ hg
  rw [Array.getD_eq_getD_getElem?] at this
  unfold yielded
  simp only [hj,hd,Option.bind_some]
  cases hq:a.tmps[g]? with
  | none=>rfl
  | some u=>rw [hq] at this;simp only [Option.getD_some] at this;subst this;rfl
 unfold wpList
 rw [if_neg (by simp [Region.wanted,hy])]
 exact k _ _ (h.put hdn _) hw
theorem QnS(hj:ops[j]? = some oj)(hd:oj.dst=some g)(hg:lk L g=some (.bool b))(hne:(b==b')=false)(hdn:Nat.blt d n=true)(k:At n ((d,undef)::L) W (wpList P ops Q rest)) :
  At n L W (wpList P ops Q (⟨some d,op,ty,pos,aft,some (j,b')⟩::rest)):=fun a w h hw=>by
 have hy:=QhS h hj hd hg
 unfold wpList
 rw [if_neg (by simp [Region.wanted,hy];simpa using hne)]
 exact k _ _ (h.put hdn _) hw
end
theorem Qav{f : FuncId}{fn : Func}{xs : List Operand}{ats : Array TypeId}{l : List Value}{v : Value}(hf : P.funcs[f]? = some fn)(hb : fn.body.isSome = true)(hnm : (fn.name == "runtime.NumGoroutine") = false)
  (hx:evs L xs=some l) (hdn:Nat.blt d n=true) (hc:∀ w,Calls P f l.toArray w fun e w'=>e=.returned v∧w'=w)
  (kk:At n ((d,v)::L) W (wpList P ops Q rest)) :
  At n L W (wpList P ops Q (⟨some d,.call { callee:=.value (.func f),args:=xs.toArray,argTypes:=ats },ty,pos,aft,none⟩::rest)) :=
 QeZ (W':=fun u w'=>u=v∧W w') hf hb hnm hx hdn (fun w hw=>(hc w).mono fun e w' ⟨he,hw'⟩=>⟨v,he,rfl,hw'▸hw⟩) fun u a w h hw=>by
  obtain ⟨rfl,hw⟩:=hw
  exact kk a w h hw
theorem QmS(op:BinOp)(t:TypeId)(x y:Operand)(a b:Bool)(w:World):(eqGuard op t x y (.bool a) (.bool b)).run P w=.ok () w:=by
 cases op<;>rfl
theorem Qi9{t:TypeId}(ht:P.underlying t=some .bool)(d:Nat)(x y:Bool)(w:World):(Op.equalIn (d+1) t (.bool x) (.bool y)).run P w=.ok (x==y) w:=by
 unfold Op.equalIn
 simp only [Sem.run_bind,run_underlying ht,Result.andThen_ok]
 rfl
theorem Qkr{t:TypeId}(ht:P.underlying t=some .bool)(x y:Bool)(w:World):(Op.equal t (.bool x) (.bool y)).run P w=.ok (x==y) w:=Qi9 ht 9999 x y w
theorem QkN{op:BinOp}{xt yt:TypeId}{x y:Operand}{i j:Bool}{v:Value}(ht:P.underlying xt=some .bool)(hx:ev L x=some (.bool i))(hy:ev L y=some (.bool j))(ho:op=.eql∨op=.neq)(hv:(match op with | .eql=>Value.bool (i==j) | _=>.bool (i != j))=v) :
  QdP n L W P ⟨some d,.binOp op xt x y yt,ty,pos,aft,none⟩ (v) :=
 fun a w h _=>by
  subst hv
  simp only [execOp,h.eval hx,h.eval hy,Sem.run_bind,QmS,Result.andThen_ok]
  rcases ho with rfl | rfl<;>simp only [binOp,Sem.run_bind,Qkr ht,Result.andThen_ok]<;>rfl
theorem QsA{α β:Type}{x:Option α}{G:α→Option β}{r:β}(h:(x>>=G)=some r):∃ v,x=some v∧G v=some r:=Option.bind_eq_some_iff.1 h
end Go.Proofs.YtnekckhjmnhinaaGreatDoor.E
namespace Go.Proofs.YtnekckhjmnhinaaGreatDoor.E
open Go.RowKit
structure Cd (α:Type) where
 sz:Nat
 cs:α→List Value
 len:∀ x,(cs x).length=sz
 one:∀ x,∀ v∈cs x,v.oneCell'=true
 pos:0<sz
def Cd.all{α:Type}(c:Cd α)(xs:List α):List Value:=xs.flatMap c.cs
theorem Cd.all_cons{α:Type}(c:Cd α)(x:α)(xs:List α):c.all (x::xs)=c.cs x++c.all xs:=rfl
theorem Cd.all_append{α:Type}(c:Cd α)(xs ys:List α):c.all (xs++ys)=c.all xs++c.all ys:=by simp [Cd.all]
theorem Cd.all_len{α:Type}(c:Cd α)(xs:List α):(c.all xs).length=xs.length*c.sz:=by
 induction xs with
 | nil=>simp [Cd.all]
 | cons x xs ih=>rw [Cd.all_cons,List.length_append,c.len,ih,List.length_cons,Nat.add_mul];omega
theorem Cd.all_one{α:Type}(c:Cd α)(xs:List α):∀ v∈c.all xs,v.oneCell'=true:=by
 intro v hv
 obtain ⟨x,_,hx⟩:=List.mem_flatMap.1 hv
 exact c.one x v hx
theorem Cd.all_get{α:Type}(c:Cd α):∀ (xs:List α) (i k:Nat) (x:α),xs[i]? = some x→k<c.sz→(c.all xs)[i*c.sz+k]? = (c.cs x)[k]?
 | [],_,_,_,h,_=>by simp at h
 | y::xs,0,k,x,h,hk=>by
  simp at h;subst h
  rw [Cd.all_cons,Nat.zero_mul,Nat.zero_add,List.getElem?_append_left (by rw [c.len];exact hk)]
 | y::xs,i+1,k,x,h,hk=>by
  rw [Cd.all_cons,List.getElem?_append_right (by rw [c.len,Nat.add_mul];omega),c.len,show (i+1)*c.sz+k-c.sz=i*c.sz+k by rw [Nat.add_mul];omega]
  exact Cd.all_get c xs i k x (by simpa using h) hk
def Qv(k:IntKind):Cd Int:=⟨1,fun n=>[.int k n],fun _=>rfl,fun _ v hv=>by simp at hv;subst hv;rfl,by decide⟩
def QgD:Cd Bool:=⟨1,fun b=>[.bool b],fun _=>rfl,fun _ v hv=>by simp at hv;subst hv;rfl,by decide⟩
def QbA:Cd ByteArray:=⟨1,fun s=>[.string s],fun _=>rfl,fun _ v hv=>by simp at hv;subst hv;rfl,by decide⟩
def QO{α:Type}[Inhabited α](xs:List α)(i:Int):α:=xs.getD i.toNat default
theorem QmG{α:Type}[Inhabited α]{xs:List α}{i:Int}(h:0≤i∧i<xs.length):xs[i.toNat]? = some (QO xs i):=by
 have:i.toNat<xs.length:=by omega
 simp [QO,this]
def Row{α:Type}(c:Cd α)(w:World)(p:Option Addr)(cap:Nat)(xs:List α):Prop :=
 xs.length≤cap∧(xs=[]∨∃ b o,p=some ⟨b,o,none⟩∧∀ j u,(c.all xs)[j]? = some u→w.cell? ⟨b,o+j,none⟩=some u)
theorem Row.len{α:Type}{c:Cd α}{w:World}{p:Option Addr}{cap:Nat}{xs:List α}(h:Row c w p cap xs):xs.length≤cap:=h.1
theorem Row.nil{α:Type}(c:Cd α)(w:World)(p:Option Addr)(cap:Nat):Row c w p cap []:=⟨Nat.zero_le _,.inl rfl⟩
theorem Row.below{α:Type}{c:Cd α}{w w':World}{p:Option Addr}{cap:Nat}{xs:List α}(h:Row c w p cap xs)(hb:Below w.heap.size w w'):Row c w' p cap xs:=by
 obtain ⟨hl,h⟩:=h
 rcases h with h | ⟨b,o,hp,hc⟩
 ·exact ⟨hl,.inl h⟩
 ·refine ⟨hl,.inr ⟨b,o,hp,fun j u hu=>?_⟩⟩
  have h1:=hc j u hu
  rw [hb.cell (p:=⟨b,o+j,none⟩) (World.block_lt_of_cell? w _ h1)]
  exact h1
theorem Row.ptr{α:Type}[Inhabited α]{c:Cd α}{w:World}{p:Option Addr}{cap:Nat}{xs:List α}{i:Int}(h:Row c w p cap xs)(hi:0≤i∧i<xs.length) :
  ∃ b o,p=some ⟨b,o,none⟩∧∀ k v,(c.cs (QO xs i))[k]? = some v→w.cell? ⟨b,o+(i.toNat*c.sz+k),none⟩=some v:=by
 obtain ⟨hl,h⟩:=h
 rcases h with h | ⟨b,o,hp,hc⟩
 ·subst h;simp at hi;omega
 ·refine ⟨b,o,hp,fun k v hv=>hc _ _ ?_⟩
  have hk:k<c.sz:=by rw [←c.len (QO xs i)];exact (List.getElem?_eq_some_iff.1 hv).1
  rw [c.all_get xs i.toNat k _ (QmG hi) hk]
  exact hv
def QdS{α:Type}(xs:List α)(l h:Int):List α:=(xs.take h.toNat).drop l.toNat
theorem Qfn{α:Type}{xs:List α}{l h:Int}(hb:0≤l∧l≤h∧h≤xs.length):(QdS xs l h).length=h.toNat-l.toNat:=by
 simp only [QdS,List.length_drop,List.length_take];omega
def rsp(p:Option Addr)(cap:Nat)(l:Int)(sz:Nat):Option Addr:=if cap=l.toNat then p else p.map (·.add (l.toNat*sz))
theorem Row.sub{α:Type}{c:Cd α}{w:World}{p:Option Addr}{cap:Nat}{xs:List α}{l h:Int}(hr:Row c w p cap xs)(hb:0≤l∧l≤h∧h≤xs.length) :
  Row c w (rsp p cap l c.sz) (cap-l.toNat) (QdS xs l h):=by
 obtain ⟨hl,hr⟩:=hr
 refine ⟨by rw [Qfn hb];omega,?_⟩
 by_cases he:l=h
 ·left;apply List.eq_nil_of_length_eq_zero;rw [Qfn hb];omega
 ·right
  rcases hr with hr | ⟨b,o,hp,hc⟩
  ·subst hr;simp at hb;omega
  ·refine ⟨b,o+l.toNat*c.sz,?_,fun j u hu=>?_⟩
   ·unfold rsp;rw [if_neg (by omega),hp];simp [Addr.add_lit]
   ·rw [Nat.add_assoc]
    refine hc _ _ ?_
    have e1:xs=xs.take l.toNat++(QdS xs l h++xs.drop h.toNat):=by
     have:=List.take_append_drop l.toNat (xs.take h.toNat)
     have h2:=List.take_append_drop h.toNat xs
     rw [List.take_take,Nat.min_eq_left (by omega)] at this
     unfold QdS
     rw [←List.append_assoc,this,h2]
    have hl2:(c.all (xs.take l.toNat)).length=l.toNat*c.sz:=by rw [c.all_len,List.length_take];congr 1;omega
    rw [e1,c.all_append,c.all_append,List.getElem?_append_right (by omega),hl2,Nat.add_sub_cancel_left,List.getElem?_append_left]
    ·exact hu
    ·exact (List.getElem?_eq_some_iff.1 hu).1
structure Ent where
 fp:List Nat
 ok:World→Prop
 loc:∀ w w',(∀ k∈fp,w'.heap[k]? = w.heap[k]?)→ok w→ok w'
def Sep(B:Nat):List Ent→World→Prop
 | [],_=>True
 | E::H,w=>E.ok w∧(∀ k∈E.fp,B≤k∧k<w.heap.size∧∀ E'∈H,k∉E'.fp)∧Sep B H w
structure Wd (w0:World) (H:List Ent) (w:World):Prop where
 below:Below w0.heap.size w0 w
 sep:Sep w0.heap.size H w
theorem Wd.refl(w:World):Wd w [] w:=⟨Below.refl _ _,trivial⟩
theorem Sep.fp{B:Nat}:∀ {H:List Ent} {w:World},Sep B H w→∀ E∈H,∀ k∈E.fp,B≤k∧k<w.heap.size
 | _::_,_,h,E,hE,k,hk=>by
  rcases List.mem_cons.1 hE with rfl | hE
  ·exact ⟨(h.2.1 k hk).1,(h.2.1 k hk).2.1⟩
  ·exact Sep.fp h.2.2 E hE k hk
theorem Sep.mono{B:Nat}:∀ {H:List Ent} {w w':World},Sep B H w→w.heap.size≤w'.heap.size→(∀ E∈H,∀ k∈E.fp,w'.heap[k]? = w.heap[k]?)→Sep B H w'
 | [],_,_,_,_,_=>trivial
 | E::H,w,w',h,hs,he =>
  ⟨E.loc w w' (he E (List.mem_cons_self ..)) h.1,fun k hk=>⟨(h.2.1 k hk).1,Nat.lt_of_lt_of_le (h.2.1 k hk).2.1 hs,(h.2.1 k hk).2.2⟩,
   Sep.mono h.2.2 hs fun E' hE'=>he E' (List.mem_cons_of_mem _ hE')⟩
variable {n : Nat} {L L' : List (Nat × Value)} {a : Act} {W : World → Prop} {P : Program} {ops : Array Oper} {Q : Exit → Act → World → Prop} {rest : List Oper} {w0 : World} {H : List Ent}
theorem Wd.call{w w':World}(h:Wd w0 H w)(hb:Below w.heap.size w w'):Wd w0 H w' :=
 ⟨h.below.trans (hb.mono h.below.size),h.sep.mono hb.size fun E hE k hk=>hb.block k (h.sep.fp E hE k hk).2⟩
theorem Below.drawn(w:World)(m:Nat):Below w.heap.size w { w with drawn:=m }:=⟨rfl,rfl,rfl,Nat.le_refl _,fun _ _=>rfl⟩
theorem Wd.drew{w:World}(h:Wd w0 H w):Wd w0 H { w with drawn:=w.drawn+1 }:=h.call (Below.drawn w _)
theorem Wd.push{w w':World}{E:Ent}(h:Wd w0 H w)(hb:Below w.heap.size w w')(hok:E.ok w')(hfp:∀ k∈E.fp,w.heap.size≤k∧k<w'.heap.size):Wd w0 (E::H) w':=by
 have h':=h.call hb
 refine ⟨h'.below,hok,fun k hk=>⟨Nat.le_trans h.below.size (hfp k hk).1,(hfp k hk).2,fun E' hE' hk'=>?_⟩,h'.sep⟩
 have:=(h.sep.fp E' hE' k hk').2
 have:=(hfp k hk).1
 omega
theorem Wd.pop{w:World}{E:Ent}(h:Wd w0 (E::H) w):Wd w0 H w:=⟨h.below,h.sep.2.2⟩
inductive Upd:List Ent→Ent→(Ent→List Ent)→List Ent→Prop
 | z {E:Ent} {H:List Ent}:Upd (E::H) E (fun E'=>E'::H) H
 | s {F E:Ent} {H:List Ent} {f:Ent→List Ent} {G:List Ent} (h:Upd H E f G):Upd (F::H) E (fun E'=>F::f E') (F::G)
theorem Upd.mem{E:Ent}{f:Ent→List Ent}{G:List Ent}(h:Upd H E f G):E∈H:=by
 induction h with
 | z=>exact List.mem_cons_self ..
 | s _ ih=>exact List.mem_cons_of_mem _ ih
theorem Upd.mem'{E E':Ent}{f:Ent→List Ent}{G:List Ent}(h:Upd H E f G):∀ F∈f E',F=E'∨F∈H:=by
 induction h with
 | z=>intro F hF;exact (List.mem_cons.1 hF).imp id (List.mem_cons_of_mem _)
 | s _ ih =>
  intro F hF
  rcases List.mem_cons.1 hF with rfl | hF
  ·exact .inr (List.mem_cons_self ..)
  ·rcases ih F hF with h | h
   ·exact .inl h
   ·exact .inr (List.mem_cons_of_mem _ h)
theorem Upd.same{E:Ent}{f:Ent→List Ent}{G:List Ent}(h:Upd H E f G):f E=H:=by
 induction h with
 | z=>rfl
 | s _ ih=>simp only [ih]
theorem Sep.ok{B:Nat}{w:World}:∀ {H:List Ent},Sep B H w→∀ E∈H,E.ok w
 | _::_,h,E,hE=>by
  rcases List.mem_cons.1 hE with rfl | hE
  ·exact h.1
  ·exact Sep.ok h.2.2 E hE
theorem Wd.ok{w:World}{E:Ent}(h:Wd w0 H w)(hE:E∈H):E.ok w:=h.sep.ok E hE
theorem Wd.fp{w:World}{E:Ent}(h:Wd w0 H w)(hE:E∈H):∀ k∈E.fp,w0.heap.size≤k∧k<w.heap.size:=h.sep.fp E hE
theorem Sep.upd{B:Nat}{E E':Ent}{f:Ent→List Ent}{G:List Ent}{w w':World}(hu:Upd H E f G)(h:Sep B H w)(hsz:w.heap.size≤w'.heap.size)
  (hfr:∀ k,k<w.heap.size→k∉E.fp→w'.heap[k]? = w.heap[k]?) (hok:E'.ok w') (hB:B≤w.heap.size) (hfp:∀ k∈E'.fp,k∈E.fp∨(w.heap.size≤k∧k<w'.heap.size)):Sep B (f E') w':=by
 induction hu with
 | @z E H =>
  refine ⟨hok,fun k hk=>?_,h.2.2.mono hsz fun F hF k hk=>?_⟩
  ·rcases hfp k hk with h1 | h1
   ·exact ⟨(h.2.1 k h1).1,Nat.lt_of_lt_of_le (h.2.1 k h1).2.1 hsz,(h.2.1 k h1).2.2⟩
   ·exact ⟨Nat.le_trans hB h1.1,h1.2,fun F hF hk'=>by have:=(h.2.2.fp F hF k hk').2;omega⟩
  ·exact hfr k (h.2.2.fp F hF k hk).2 fun hk'=>(h.2.1 k hk').2.2 F hF hk
 | @s F E H f G hu ih =>
  have hE:=hu.mem
  refine ⟨F.loc w w' (fun k hk=>hfr k (h.2.1 k hk).2.1 ((h.2.1 k hk).2.2 E hE)) h.1,fun k hk=>⟨(h.2.1 k hk).1,Nat.lt_of_lt_of_le (h.2.1 k hk).2.1 hsz,fun F' hF' hk'=>?_⟩,ih h.2.2 hfr hfp⟩
  rcases hu.mem' F' hF' with rfl | hF'
  ·rcases hfp k hk' with h1 | h1
   ·exact (h.2.1 k hk).2.2 E hE h1
   ·have:=(h.2.1 k hk).2.1;omega
  ·exact (h.2.1 k hk).2.2 F' hF' hk'
theorem Wd.upd{E E':Ent}{f:Ent→List Ent}{G:List Ent}{w w':World}(hu:Upd H E f G)(h:Wd w0 H w)(hsz:w.heap.size≤w'.heap.size)(hos:w'.os=w.os)(ht:w'.tape=w.tape)(ho:w'.output=w.output)
  (hfr:∀ k,k<w.heap.size→k∉E.fp→w'.heap[k]? = w.heap[k]?) (hok:E'.ok w') (hfp:∀ k∈E'.fp,k∈E.fp∨(w.heap.size≤k∧k<w'.heap.size)):Wd w0 (f E') w' :=
 ⟨⟨hos.trans h.below.os,ht.trans h.below.tape,ho.trans h.below.output,Nat.le_trans h.below.size hsz,fun k hk =>
   (hfr k (Nat.lt_of_lt_of_le hk h.below.size) fun hk'=>by have:=(h.fp hu.mem k hk').1;omega).trans (h.below.block k hk)⟩,
  h.sep.upd hu hsz hfr hok h.below.size hfp⟩
theorem Sep.drop{B:Nat}{E:Ent}{f:Ent→List Ent}{G:List Ent}{w:World}(hu:Upd H E f G)(h:Sep B H w):Sep B G w:=by
 induction hu with
 | z=>exact h.2.2
 | @s F E H f G hu ih =>
  refine ⟨h.1,fun k hk=>⟨(h.2.1 k hk).1,(h.2.1 k hk).2.1,fun F' hF'=>(h.2.1 k hk).2.2 F' ?_⟩,ih h.2.2⟩
  clear ih h hk
  induction hu with
  | z=>exact List.mem_cons_of_mem _ hF'
  | s _ ih =>
   rcases List.mem_cons.1 hF' with rfl | hF'
   ·exact List.mem_cons_self ..
   ·exact List.mem_cons_of_mem _ (ih hF')
theorem Wd.drop{E:Ent}{f:Ent→List Ent}{G:List Ent}{w:World}(hu:Upd H E f G)(h:Wd w0 H w):Wd w0 G w:=⟨h.below,h.sep.drop hu⟩
theorem Qam{X:Act→World→Prop}{E:Ent}{f:Ent→List Ent}{G:List Ent}(hu:Upd H E f G)(k:At n L (Wd w0 G) X):At n L (Wd w0 H) X:=Qeo (fun _ h=>h.drop hu) k
theorem QN{X:Act→World→Prop}(k:At n L (Wd w0 []) X):At n L (fun w=>w=w0) X:=Qeo (fun w h=>by subst h;exact Wd.refl _) k
theorem Qae{X:Act→World→Prop}{φ:Prop}(h:∀ w,W w→φ)(k:φ→At n L W X):At n L W X:=fun a w he hw=>k (h w hw) a w he hw
def AtQ(n:Nat)(L:List (Nat×Value))(X:Act→Prop):Prop:=∀ a,Env n L a→X a
theorem Qdd{id:Nat}{l:List Oper}(hm:P.follows .mixedOrders=true)(hB:Region.lexB .any l.toArray=true)(hWd:∀ w,W w→W { w with drawn:=w.drawn+1 })
  (k:AtQ n L (wpQuiet P l.toArray W (fun a'=>∀ w',W w'→Q .normal a' w') l)):At n L W ((Code.region id l.toArray true).wp P Q):=fun a w h hw =>
 wp_region_quiet hm hB (hWd w hw) (k a h)
theorem Qck(k:At n L W (Q .normal)):AtQ n L (wpQuiet P ops W (fun a'=>∀ w',W w'→Q .normal a' w') []):=fun a h=>wpQuiet_nil fun w hw=>k a w h hw
section
variable {d : Nat} {Q' : Act → Prop}
theorem Ql{o:Oper}{v:Value}(hg:o.guard=none)(hd:o.dst=some d)(hdn:Nat.blt d n=true)(hr:QdP n L W P o v)
  (k:AtQ n ((d,v)::L) (wpQuiet P ops W Q' rest)):AtQ n L (wpQuiet P ops W Q' (o::rest)):=fun a h =>
 wpQuiet_step fun K hK=>by
  simp only [Region.wanted,hg,if_true]
  refine ⟨v,fun w hw=>?_,?_⟩
  ·unfold Oper.quietAt
   rw [hr a w h hw]
   exact ⟨rfl,rfl⟩
  ·rw [hd]
   exact hK _ (k _ (h.put hdn v))
theorem Qbl{f : FuncId}{fn : Func}{xs : List Operand}{ats : Array TypeId}{l : List Value}{v : Value}{ty : TypeId}{pos : String}{aft : Array Edge}(hf : P.funcs[f]? = some fn)(hb : fn.body.isSome = true)(hnm : (fn.name == "runtime.NumGoroutine") = false)
  (hx:evs L xs=some l) (hdn:Nat.blt d n=true) (hc:∀ w,W w→Calls P f l.toArray w fun e w'=>e=.returned v∧W w')
  (k:AtQ n ((d,v)::L) (wpQuiet P ops W Q' rest)) :
  AtQ n L (wpQuiet P ops W Q' (⟨some d,.call { callee:=.value (.func f),args:=xs.toArray,argTypes:=ats },ty,pos,aft,none⟩::rest)):=fun a h =>
 wpQuiet_step fun K hK=>by
  simp only [Region.wanted,if_true]
  refine ⟨v,fun w hw=>?_,hK _ (k _ (h.put hdn v))⟩
  unfold Oper.quietAt
  have hargs:=h.evals hx
  rw [execOp_call_go]
  have hrun:(callFunc f (#[]++xs.toArray.map a.eval++#[])).run P w=.ok (.enter f l.toArray) w:=by
   have hbn:¬ fn.body=none:=by intro hq;simp [hq] at hb
   have hn' : ¬ fn.name = "runtime.NumGoroutine" := by intro hq; rw [hq] at hnm; simp at hnm
   simp [callFunc,program,Sem.run,hf,hn',hbn,hargs]
  rw [hrun]
  exact ⟨rfl,hc w hw⟩
section
variable {dst : Option Tmp} {op : Op} {j g : Nat} {oj : Oper} {b b' : Bool} {ty : TypeId} {pos : String} {aft : Array Edge}
theorem QI(hj:ops[j]? = some oj)(hd:oj.dst=some g)(hg:lk L g=some (.bool b))(k:AtQ n L (wpQuiet P ops W Q' (⟨dst,op,ty,pos,aft,none⟩::rest))) :
  AtQ n L (wpQuiet P ops W Q' (⟨dst,op,ty,pos,aft,some (j,b)⟩::rest)):=fun a h=>by
 have hk:=k a h
 have hy:=QhS h hj hd hg
 unfold wpQuiet at hk ⊢
 rw [if_pos (by simp [Region.wanted])] at hk
 rw [if_pos (by simp [Region.wanted,hy])]
 exact hk
theorem QJ(hj:ops[j]? = some oj)(hd:oj.dst=some g)(hg:lk L g=some (.bool b))(hne:(b==b')=false)(hdn:Nat.blt d n=true)(k:AtQ n ((d,undef)::L) (wpQuiet P ops W Q' rest)) :
  AtQ n L (wpQuiet P ops W Q' (⟨some d,op,ty,pos,aft,some (j,b')⟩::rest)):=fun a h=>by
 have hy:=QhS h hj hd hg
 unfold wpQuiet
 rw [if_neg (by simp [Region.wanted,hy];simpa using hne)]
 exact k _ (h.put hdn _)
theorem Qad(hj:ops[j]? = some oj)(hd:oj.dst=some g)(hg:lk L g=some undef)(hdn:Nat.blt d n=true)(k:AtQ n ((d,undef)::L) (wpQuiet P ops W Q' rest)) :
  AtQ n L (wpQuiet P ops W Q' (⟨some d,op,ty,pos,aft,some (j,b')⟩::rest)):=fun a h=>by
 have hy:yielded ops a.tmps j=none:=by
  have:=h.vals g _ hg
  rw [Array.getD_eq_getD_getElem?] at this
  unfold yielded
  simp only [hj,hd,Option.bind_some]
  cases hq:a.tmps[g]? with
  | none=>rfl
  | some u=>rw [hq] at this;simp only [Option.getD_some] at this;subst this;rfl
 unfold wpQuiet
 rw [if_neg (by simp [Region.wanted,hy])]
 exact k _ (h.put hdn _)
theorem QdV{X:Act→Prop}(hg:lk L g=some (.bool b))(hb:b=b')(k:AtQ n ((g,.bool b')::L) X):AtQ n L X:=fun a h =>
 k a ⟨h.size,h.defs,fun t v hv=>by
  rw [QdT] at hv
  split at hv
  ·next e=>subst e hb;cases hv;exact h.vals _ _ hg
  ·exact h.vals t v hv⟩
end
end
theorem QbR{a b:Nat}{k:Nat}(h:(a+b)*k≤140737488355328)(hk:0<k:=by decide):a+b≤140737488355328:=Nat.le_trans (Nat.le_mul_of_pos_right _ hk) h
theorem Qm0{f : FuncId}{fn : Func}{xs : List Operand}{ats : Array TypeId}{l : List Value}{v : Value}{d : Nat}{ty : TypeId}{pos : String}{aft : Array Edge}(hf : P.funcs[f]? = some fn)(hb : fn.body.isSome = true)(hnm : (fn.name == "runtime.NumGoroutine") = false)
  (hx:evs L xs=some l) (hdn:Nat.blt d n=true) (hc:∀ w,W w→Calls P f l.toArray w fun e w'=>e=.returned v∧w'=w)
  (kk:At n ((d,v)::L) W (wpList P ops Q rest)) :
  At n L W (wpList P ops Q (⟨some d,.call { callee:=.value (.func f),args:=xs.toArray,argTypes:=ats },ty,pos,aft,none⟩::rest)) :=
 QeZ (W':=fun u w'=>u=v∧W w') hf hb hnm hx hdn (fun w hw=>(hc w hw).mono fun e w' ⟨he,hw'⟩=>⟨v,he,rfl,hw'▸hw⟩) fun u a w h hw=>by
  obtain ⟨rfl,hw⟩:=hw
  exact kk a w h hw
section
variable {d : Nat} {ty : TypeId} {pos : String} {aft : Array Edge} {t e : TypeId} {x y : Operand} {p : Option Addr} {m cap : Nat}
theorem QZ(ht:P.underlying t=some (.slice e))(hx:ev L x=some (.slice p m cap)) :
  QdP n L W P (⟨some d,.call { callee:=.builtin .len,args:=#[x],argTypes:=#[t] },ty,pos,aft,none⟩) (.int .i64 m):=fun a w h _=>by
 simp only [execOp,resolve,invoke,builtin,Sem.run_bind,Sem.run_pure,Result.andThen_ok,List.map_toArray,List.map_cons,List.map_nil,h.eval hx]
 simp [Builtin.len_,run_underlying ht];rfl
theorem QbD{sz:Nat}{k:IntKind}{i:Int}{b o:Nat}(ht:P.underlying t=some (.slice e))(hz:∀ w,(sizeOf e).run P w=.ok sz w)(hx:ev L x=some (.slice p m cap))(hy:ev L y=some (.int k i))(hi:0≤i∧i<m)(hp:p=some ⟨b,o,none⟩) :
  QdP n L W P (⟨some d,.indexAddr t x y,ty,pos,aft,none⟩) (.pointer (some ⟨b,o+i.toNat*sz,none⟩)):=fun a w h _=>by
 subst hp
 simp only [execOp,h.eval hx,h.eval hy]
 simp [Instr.indexAt,asIntOf,run_underlying ht,hi.1,hi.2,hz,Addr.add_lit]
theorem Qmv{α:Type}{c:Cd α}{lo hi:Option Operand}{xs:List α}{l h:Int}(ht:P.underlying t=some (.slice e))(hz:∀ w,(sizeOf e).run P w=.ok c.sz w)(hx:ev L x=some (.slice p xs.length cap))(hc:xs.length≤cap)
  (hlo:match lo with | none=>l=0 | some y=>∃ k,ev L y=some (.int k l)) (hhi:match hi with | none=>h=xs.length | some y=>∃ k,ev L y=some (.int k h)) (hb:0≤l∧l≤h∧h≤xs.length) :
  QdP n L W P (⟨some d,.slice t x lo hi none,ty,pos,aft,none⟩) (.slice (rsp p cap l c.sz) (QdS xs l h).length (cap-l.toNat)):=fun a w he _=>by
 have hlen:=Qfn hb
 obtain ⟨h1,h2,h3⟩:=hb
 have h0:0≤h:=by omega
 have h4:h≤(cap:Int):=by omega
 simp only [execOp,he.eval hx]
 rw [hlen]
 cases lo<;>cases hi<;>simp only at hlo hhi
 ·subst hlo hhi
  simp [Instr.sliceAt,Instr.slice,Instr.sliceBounds,run_underlying ht,hz,rsp]
 ·obtain ⟨k,hk⟩:=hhi
  subst hlo
  simp [Instr.sliceAt,Instr.slice,Instr.sliceBounds,Instr.sliceBound,asIntOf,run_underlying ht,hz,rsp,he.eval hk,h0,h4]
 ·obtain ⟨k,hk⟩:=hlo
  subst hhi
  simp [Instr.sliceAt,Instr.slice,Instr.sliceBounds,Instr.sliceBound,asIntOf,run_underlying ht,hz,rsp,he.eval hk,h1,h2]
 ·obtain ⟨k,hk⟩:=hlo
  obtain ⟨k',hk'⟩:=hhi
  have e1:(h.toNat:Int)=h:=Int.toNat_of_nonneg h0
  simp [Instr.sliceAt,Instr.slice,Instr.sliceBounds,Instr.sliceBound,asIntOf,run_underlying ht,hz,rsp,he.eval hk,he.eval hk',h0,h1,h2,h4,e1]
theorem Qe{b o:Nat}{v:Value}(ha:∀ w,(isAgg t).run P w=.ok false w)(hx:ev L x=some (.pointer (some ⟨b,o,none⟩)))(hc:∀ w,W w→w.cell? ⟨b,o,none⟩=some v) :
  QdP n L W P (⟨some d,.load t x,ty,pos,aft,none⟩) v:=fun a w h hw=>by
 simp only [execOp,h.eval hx]
 simp [Instr.loadAt,Instr.sureAddr,loadVar,ha,load,Sem.run,hc w hw]
theorem Qpc{b o sz:Nat}{l:List Value}(ha:∀ w,(isAgg t).run P w=.ok true w)(hz:∀ w,(sizeOf t).run P w=.ok sz w)(hl:l.length=sz)(hx:ev L x=some (.pointer (some ⟨b,o,none⟩)))
  (hc:∀ w,W w→∀ j v,l[j]? = some v→w.cell? ⟨b,o+j,none⟩=some v) :
  QdP n L W P (⟨some d,.load t x,ty,pos,aft,none⟩) (.agg l.toArray):=fun a w h hw=>by
 have:=run_loadCells_list (P:=P) (w:=w) ⟨b,o,none⟩ l (fun j v hv=>by rw [Addr.add_lit];exact hc w hw j v hv)
 rw [hl] at this
 simp only [execOp,h.eval hx]
 simp [Instr.loadAt,Instr.sureAddr,loadVar,ha,hz,this]
end
theorem QdB{α:Type}[Inhabited α]{c:Cd α}{p:Option Addr}{cap:Nat}{xs:List α}{i:Int}{b o:Nat}(hW:∀ w,W w→Below w0.heap.size w0 w)(hrow:Row c w0 p cap xs)(hi:0≤i∧i<xs.length)(hp:p=some ⟨b,o,none⟩) :
  ∀ w,W w→∀ k v,(c.cs (QO xs i))[k]? = some v→w.cell? ⟨b,o+i.toNat*c.sz+k,none⟩=some v:=fun w hw k v hv=>by
 obtain ⟨b',o',hp',hc⟩:=(hrow.below (hW w hw)).ptr hi
 rw [hp] at hp'
 cases hp'
 rw [Nat.add_assoc]
 exact hc k v hv
theorem QP{α:Type}[Inhabited α]{c:Cd α}{p:Option Addr}{cap:Nat}{xs:List α}{i:Int}{b o:Nat}{v:Value}(hW:∀ w,W w→Below w0.heap.size w0 w)(hrow:Row c w0 p cap xs)(hi:0≤i∧i<xs.length)(hp:p=some ⟨b,o,none⟩)(hv:c.cs (QO xs i)=[v]) :
  ∀ w,W w→w.cell? ⟨b,o+i.toNat*c.sz,none⟩=some v:=fun w hw=>QdB hW hrow hi hp w hw 0 v (by rw [hv];rfl)
theorem Qaa{α:Type}[Inhabited α]{c:Cd α}{w:World}{p:Option Addr}{cap:Nat}{xs:List α}{i:Int}(h:Row c w p cap xs)(hi:0≤i∧i<xs.length):∃ b o,p=some ⟨b,o,none⟩ :=
 let ⟨b,o,hp,_⟩:=h.ptr hi
 ⟨b,o,hp⟩
def Qi(b:Nat)(cs:List Value)(t:TypeId):Ent:=⟨[b],fun w=>w.heap[b]? = some (.cells cs.toArray t (0,0)),fun _ _ h hk=>(h b (by simp)).trans hk⟩
theorem QbX{α:Type}{c:Cd α}{b:Nat}{ys:List α}{t:TypeId}{w:World}(h:(Qi b (c.all ys) t).ok w):∀ j u,(c.all ys)[j]? = some u→w.cell? ((⟨b,0,none⟩:Addr).add j)=some u:=fun j u hu=>by
 rw [Addr.add_lit,Nat.zero_add]
 simp only [Qi] at h
 simp [World.cell?,h,hu]
theorem QgZ{α:Type}{c:Cd α}{b:Nat}{ys:List α}{t:TypeId}{w:World}(h:(Qi b (c.all ys) t).ok w):Row c w (some ⟨b,0,none⟩) ys.length ys :=
 ⟨Nat.le_refl _,.inr ⟨b,0,rfl,fun j u hu=>by have:=QbX h j u hu;rwa [Addr.add_lit] at this⟩⟩
def Qbm{α:Type}(c:Cd α)(e:TypeId)(p:Option Addr)(cap:Nat)(xs:List α):Ent :=
 ⟨(Value.slice p xs.length cap).ownBlock.toList,fun w=>w.ownsRow 0 e c.sz (.slice p xs.length cap) xs.length (c.all xs),fun w w' h hk=>by
  refine ⟨hk.1,?_⟩
  rcases hk.2 with h2 | ⟨g,cap',cur,hv,hg,hh,r⟩
  ·exact .inl h2
  ·exact .inr ⟨g,cap',cur,hv,hg,(h g (by rw [hv];simp [Value.ownBlock])).trans hh,r⟩⟩
def Own{α:Type}(c:Cd α)(e:TypeId)(B:Nat)(w:World)(p:Option Addr)(cap:Nat)(xs:List α):Prop:=w.ownsRow B e c.sz (.slice p xs.length cap) xs.length (c.all xs)
theorem Own.nil{α:Type}(c:Cd α)(e:TypeId)(B:Nat)(w:World):Own c e B w none 0 []:=World.ownsRow_nil w B e c.sz
theorem Wd.own{α:Type}{c:Cd α}{e:TypeId}{p:Option Addr}{cap:Nat}{xs:List α}{w:World}{f:Ent→List Ent}{G:List Ent}(hu:Upd H (Qbm c e p cap xs) f G)(h:Wd w0 H w):Own c e w0.heap.size w p cap xs:=by
 obtain ⟨h1,h2⟩:w.ownsRow 0 e c.sz (.slice p xs.length cap) xs.length (c.all xs):=h.ok hu.mem
 refine ⟨h1,?_⟩
 rcases h2 with h2 | ⟨g,cap',cur,hv,_,hh,r⟩
 ·exact .inl h2
 ·exact .inr ⟨g,cap',cur,hv,(h.fp hu.mem g (by show g∈(Value.slice p xs.length cap).ownBlock.toList;rw [hv];simp [Value.ownBlock])).1,hh,r⟩
theorem Own.row{α:Type}{c:Cd α}{e:TypeId}{B:Nat}{w:World}{p:Option Addr}{cap:Nat}{xs:List α}(h:Own c e B w p cap xs):Row c w p cap xs:=by
 rcases h.2 with ⟨_,h0⟩ | ⟨g,cap',cur,hv,_,hh,r⟩
 ·exact ⟨by omega,.inl (List.eq_nil_of_length_eq_zero h0)⟩
 ·refine ⟨by cases hv;exact r.1,.inr ⟨g,0,by cases hv;rfl,fun j u hu=>?_⟩⟩
  have:=World.ownsRow.cells h (g:=g) (by rw [hv];rfl) j u hu
  rwa [Addr.add_lit] at this
theorem Wd.pushOwn{α:Type}{c:Cd α}{e:TypeId}{p:Option Addr}{cap:Nat}{xs:List α}{w w':World}(h:Wd w0 H w)(hb:Below w.heap.size w w')(ho:Own c e w.heap.size w' p cap xs):Wd w0 (Qbm c e p cap xs::H) w':=by
 refine h.push hb ⟨ho.1,?_⟩ fun k hk=>?_
 ·rcases ho.2 with h2 | ⟨g,cap',cur,hv,_,r⟩
  ·exact .inl h2
  ·exact .inr ⟨g,cap',cur,hv,Nat.zero_le _,r⟩
 ·exact World.ownsRow.lt ho k (by simpa [Qbm] using hk)
theorem Qco{α:Type}{X:Act→World→Prop}(c:Cd α)(e:TypeId)(k:At n L (Wd w0 (Qbm c e none 0 []::H)) X):At n L (Wd w0 H) X :=
 Qeo (fun w h=>h.pushOwn (Below.refl _ _) (Own.nil c e _ w)) k
section
variable {d : Nat} {ty : TypeId} {pos : String} {aft : Array Edge} {t e : TypeId}
theorem Qtc{z:Value}{cs:List Value}(hz:∀ w,(zeroValue t).run P w=.ok z w)(hcs:z.cells=cs.toArray)(hdn:Nat.blt d n=true)
  (k:∀ b,At n ((d,.pointer (some ⟨b,0,none⟩))::L) (Wd w0 (Qi b cs t::H)) (wpList P ops Q rest)) :
  At n L (Wd w0 H) (wpList P ops Q (⟨some d,.alloc t,ty,pos,aft,none⟩::rest)) :=
 Qgp (W':=fun v w'=>∃ b,v=.pointer (some ⟨b,0,none⟩)∧Wd w0 (Qi b cs t::H) w') rfl rfl hdn (fun a w h hw=>by
  refine ⟨_,w.alloc (.cells cs.toArray t),?_,w.heap.size,rfl,hw.push ((Below.refl _ _).alloc (Nat.le_refl _) _) ?_ ?_⟩
  ·simp [execOp,Instr.alloc,hz,newVar,newRow,newObj,Sem.run,hcs]
  ·exact heap_alloc_new w _
  ·intro k hk;simp [Qi] at hk;subst hk;simp) fun v a w h ⟨b,hv,hw⟩=>by subst hv;exact k b a w h hw
theorem Qbv{x:Operand}{v:Value}{cs:List Value}(hx:ev L x=some v)(hcs:v.cells=cs.toArray)(hdn:Nat.blt d n=true)
  (k:∀ b,At n ((d,.pointer (some ⟨b,0,none⟩))::L) (Wd w0 (Qi b cs t::H)) (wpList P ops Q rest)) :
  At n L (Wd w0 H) (wpList P ops Q (⟨some d,.box t x,ty,pos,aft,none⟩::rest)) :=
 Qgp (W':=fun v w'=>∃ b,v=.pointer (some ⟨b,0,none⟩)∧Wd w0 (Qi b cs t::H) w') rfl rfl hdn (fun a w h hw=>by
  refine ⟨_,w.alloc (.cells cs.toArray t),?_,w.heap.size,rfl,hw.push ((Below.refl _ _).alloc (Nat.le_refl _) _) ?_ ?_⟩
  ·simp [execOp,h.eval hx,Instr.box,newVar,newRow,newObj,Sem.run,hcs]
  ·exact heap_alloc_new w _
  ·intro k hk;simp [Qi] at hk;subst hk;simp) fun v a w h ⟨b,hv,hw⟩=>by subst hv;exact k b a w h hw
def evp(L:List (Nat×Value)):List (Nat×Operand)→Option (List (Nat×Value))
 | []=>some []
 | (i,x)::l=>match ev L x,evp L l with
  | some v,some vs=>some ((i,v)::vs)
  | _,_=>none
theorem Env.evalp{a:Act}(h:Env n L a):∀ {l:List (Nat×Operand)} {vs:List (Nat×Value)},evp L l=some vs→l.map (fun p=>(p.1,a.eval p.2))=vs
 | [],vs,hx=>by simp [evp] at hx;simp [hx]
 | (i,x)::l,vs,hx=>by
  unfold evp at hx
  split at hx
  ·next v vs' h1 h2 =>
   cases hx
   simp [h.eval h1,h.evalp h2]
  ·cases hx
theorem Qep{m:Nat}{QM:List (Nat×Operand)}{vs:List (Nat×Value)}{z:Value}{cs:List Value}(ht:P.underlying t=some (.slice e))(hz:∀ w,(sizeOf e).run P w=.ok 1 w)(hzv:∀ w,(zeroValue e).run P w=.ok z w)(hx:evp L QM=some vs)(hm:Nat.ble m 16777216=true)(h0:Nat.beq m 0=false)
  (hf:Instr.fill (fun i=>some (i*1,1)) ((Array.range (m*1)).map (z.cells[·%z.cells.size]!)) vs=some cs.toArray) (hdn:Nat.blt d n=true)
  (k:∀ b,At n ((d,.slice (some ⟨b,0,none⟩) m m)::L) (Wd w0 (Qi b cs e::H)) (wpList P ops Q rest)) :
  At n L (Wd w0 H) (wpList P ops Q (⟨some d,.buildSlice t m QM.toArray,ty,pos,aft,none⟩::rest)) :=
 Qgp (W':=fun v w'=>∃ b,v=.slice (some ⟨b,0,none⟩) m m∧Wd w0 (Qi b cs e::H) w') rfl rfl hdn (fun a w h hw=>by
  refine ⟨_,w.alloc (.cells cs.toArray e),?_,w.heap.size,rfl,hw.push ((Below.refl _ _).alloc (Nat.le_refl _) _) ?_ ?_⟩
  ·have hm':¬ 2 ^ 24<m*1:=by have:=Nat.le_of_ble_eq_true hm;omega
   have h0':¬ m*1=0:=by intro h;rw [Nat.mul_one] at h;subst h;simp at h0
   have hev:=h.evalp hx
   simp only [execOp,Instr.buildSlice,Sem.run_bind,run_underlying ht,Result.andThen_ok,hz,List.map_toArray]
   rw [show List.map (fun (x:Nat×Operand)=>match x with | (i,x)=>(i,a.eval x)) QM=vs from hev]
   simp only [Sem.run_bind,hz,Result.andThen_ok,gt_iff_lt,hm',h0',if_false,Sem.run_pure,hzv,hf]
   simp [newRow,newObj,Sem.run]
  ·exact heap_alloc_new w _
  ·intro k hk;simp [Qi] at hk;subst hk;simp) fun v a w h ⟨b,hv,hw⟩=>by subst hv;exact k b a w h hw
theorem QuI{m sz:Nat}{QM:List (Nat×Operand)}{vs:List (Nat×Value)}{z:Value}{cs:List Value}(ht:P.underlying t=some (.slice e))(hz:∀ w,(sizeOf e).run P w=.ok sz w)(hzv:∀ w,(zeroValue e).run P w=.ok z w)(hx:evp L QM=some vs)(hm:Nat.ble (m*sz) 16777216=true)(h0:Nat.beq (m*sz) 0=false)
  (hf:Instr.fill (fun i=>some (i*sz,sz)) ((Array.range (m*sz)).map (z.cells[·%z.cells.size]!)) vs=some cs.toArray) (hdn:Nat.blt d n=true)
  (k:∀ b,At n ((d,.slice (some ⟨b,0,none⟩) m m)::L) (Wd w0 (Qi b cs e::H)) (wpList P ops Q rest)) :
  At n L (Wd w0 H) (wpList P ops Q (⟨some d,.buildSlice t m QM.toArray,ty,pos,aft,none⟩::rest)) :=
 Qgp (W':=fun v w'=>∃ b,v=.slice (some ⟨b,0,none⟩) m m∧Wd w0 (Qi b cs e::H) w') rfl rfl hdn (fun a w h hw=>by
  refine ⟨_,w.alloc (.cells cs.toArray e),?_,w.heap.size,rfl,hw.push ((Below.refl _ _).alloc (Nat.le_refl _) _) ?_ ?_⟩
  ·have hm':¬ 2 ^ 24<m*sz:=by have:=Nat.le_of_ble_eq_true hm;omega
   have h0':¬ m*sz=0:=by intro h;rw [h] at h0;simp at h0
   have hev:=h.evalp hx
   simp only [execOp,Instr.buildSlice,Sem.run_bind,run_underlying ht,Result.andThen_ok,hz,List.map_toArray]
   rw [show List.map (fun (x:Nat×Operand)=>match x with | (i,x)=>(i,a.eval x)) QM=vs from hev]
   simp only [Sem.run_bind,hz,Result.andThen_ok,gt_iff_lt,hm',h0',if_false,Sem.run_pure,hzv,hf]
   simp [newRow,newObj,Sem.run]
  ·exact heap_alloc_new w _
  ·intro k hk;simp [Qi] at hk;subst hk;simp) fun v a w h ⟨b,hv,hw⟩=>by subst hv;exact k b a w h hw
theorem Qm1{α:Type}{c:Cd α}{p:Option Addr}{cap:Nat}{xs:List α}{B:Nat}{w w':World}{v':Value}{ad:Addr}{m cap':Nat}{i:TypeInfo}{z:Value}{news:List Value}
  (ht:P.underlying t=some (.slice e)) (hi:P.info? e=some i) (hiz:i.zero=some z) (hsz:i.size=c.sz) (hzs:z.cells.size=c.sz) (hown:Own c e B w p cap xs)
  (hl:news.length=m*c.sz) (hnews:∀ j u,news[j]? = some u→w.cell? (ad.add j)=some u) (h1:∀ u∈news,u.oneCell'=true) (hb:(xs.length+m)*i.bytes≤140737488355328) (hb':xs.length+m≤140737488355328)
  (hr:(Builtin.append_ #[t,t] ty #[.slice p xs.length cap,.slice (some ad) m cap']).run P w=.ok v' w') {k:Nat} (hk:v'.ownBlock=some k):(Value.slice p xs.length cap).ownBlock=some k∨w.heap.size≤k:=by
 rcases hown.2 with ⟨hv,h0⟩ | ⟨g,cap0,cur0,hv,_,hg,hnc,hcm,hcs,htake⟩
 ·have hx:c.all xs=[]:=List.eq_nil_of_length_eq_zero (by rw [c.all_len,h0,Nat.zero_mul])
  obtain ⟨v2,w2,hr2,h2,_⟩:=run_append_own (P:=P) w w.heap.size t ty e i z c.sz i.bytes ht hi hiz hsz rfl hzs c.pos (.slice p xs.length cap) xs.length (c.all xs) (by rw [hv,hx,h0];exact World.ownsRow_nil w _ e c.sz) ad m cap' news hl hnews h1 (by simp only [maxLen];omega) hb (Nat.le_refl _)
  rw [hr] at hr2
  cases hr2
  exact .inr (h2.lt k hk).1
 ·cases hv
  by_cases hroom:xs.length+m≤cap
  ·have hr2:=run_append_room (P:=P) w t ty e i ht hi g xs.length cap cur0 hg ad m cap' news (by rw [hl,hsz]) hnews h1 hroom (by rw [hl,hcs,hsz,←Nat.add_mul];exact Nat.mul_le_mul_right _ hroom)
   rw [hr] at hr2
   cases hr2
   exact .inl hk
  ·have hr2:=run_append_grow (P:=P) w t ty e i z ht hi hiz ⟨g,0,none⟩ xs.length cap (c.all xs) (by rw [c.all_len,hsz]) (World.ownsRow.cells hown (g:=g) rfl) ad m cap' news (by rw [hl,hsz]) hnews (by omega) (by omega) (growslice_fits (by omega) hb)
   rw [hr] at hr2
   cases hr2
   simp [Value.ownBlock] at hk
   exact .inr (by omega)
theorem Qcl{α:Type}{c:Cd α}{p:Option Addr}{cap:Nat}{xs ys:List α}{f:Ent→List Ent}{G:List Ent}{sx xx:Operand}{ad:Addr}{m cap':Nat}{i:TypeInfo}{z:Value}(hu:Upd H (Qbm c e p cap xs) f G)
  (ht:P.underlying t=some (.slice e)) (hi:P.info? e=some i) (hiz:i.zero=some z) (hsz:i.size=c.sz) (hzs:z.cells.size=c.sz)
  (hs:ev L sx=some (.slice p xs.length cap)) (hx:ev L xx=some (.slice (some ad) m cap')) (hm:ys.length=m)
  (hsrc:∀ w,Wd w0 H w→∀ j u,(c.all ys)[j]? = some u→w.cell? (ad.add j)=some u) {by_:Nat} (hby:i.bytes=by_) (hb0:(xs.length+m)*by_≤140737488355328) (hb':xs.length+m≤140737488355328) (hdn:Nat.blt d n=true)
  (k:∀ p' cap',At n ((d,.slice p' (xs++ys).length cap')::L) (Wd w0 (f (Qbm c e p' cap' (xs++ys)))) (wpList P ops Q rest)) :
  At n L (Wd w0 H) (wpList P ops Q (⟨some d,.call { callee:=.builtin .append,args:=#[sx,xx],argTypes:=#[t,t] },ty,pos,aft,none⟩::rest)) :=
 have hb:(xs.length+m)*i.bytes≤140737488355328:=by rw [hby];exact hb0
 Qgp (W':=fun v w'=>∃ p' cap',v=.slice p' (xs++ys).length cap'∧Wd w0 (f (Qbm c e p' cap' (xs++ys))) w') rfl rfl hdn (fun a w h hw=>by
  have hown:=hw.own hu
  obtain ⟨v',w',hr,h2,h3,h4⟩:=run_append_own (P:=P) w w0.heap.size t ty e i z c.sz i.bytes ht hi hiz hsz rfl hzs c.pos _ _ _ hown ad m cap' (c.all ys) (by rw [c.all_len,hm]) (hsrc w hw) (c.all_one ys) (by simp only [maxLen];omega) hb hw.below.size
  obtain ⟨p',cp,hv'⟩:∃ p' cp,v'=.slice p' (xs.length+m) cp:=by
   rcases h2.2 with ⟨hv,h0⟩ | ⟨g,cp,cur,hv,_⟩
   ·exact ⟨none,0,by rw [hv,h0]⟩
   ·exact ⟨_,_,hv⟩
  subst hv'
  have hlen:(xs++ys).length=xs.length+m:=by rw [List.length_append,hm]
  refine ⟨_,w',?_,p',cp,by rw [hlen],hw.upd hu h3.size h3.os h3.tape h3.output (fun k hk hk'=>h3.block k hk fun e=>hk' ?_) ?_ fun k hk=>?_⟩
  ·simp only [execOp,resolve,invoke,builtin,Sem.run_bind,Sem.run_pure,Result.andThen_ok,List.map_toArray,List.map_cons,List.map_nil,h.eval hs,h.eval hx,hr]
  ·show k∈(Value.slice p xs.length cap).ownBlock.toList
   rw [←e];simp
  ·show w'.ownsRow 0 e c.sz (.slice p' (xs++ys).length cp) (xs++ys).length (c.all (xs++ys))
   rw [hlen,c.all_append]
   refine ⟨h2.1,?_⟩
   rcases h2.2 with h5 | ⟨g,cap',cur,hv,_,r⟩
   ·exact .inl h5
   ·exact .inr ⟨g,cap',cur,hv,Nat.zero_le _,r⟩
  ·have hk0:(Value.slice p' (xs.length+m) cp).ownBlock=some k:=by
    have:k∈(Value.slice p' (xs++ys).length cp).ownBlock.toList:=hk
    rw [hlen] at this
    simpa using this
   have hlt:=(h2.lt k hk0).2
   rcases Qm1 ht hi hiz hsz hzs hown (by rw [c.all_len,hm]) (hsrc w hw) (c.all_one ys) hb hb' hr hk0 with hq | hq
   ·left
    show k∈(Value.slice p xs.length cap).ownBlock.toList
    rw [hq];simp
   ·exact .inr ⟨hq,hlt⟩) fun v a w h ⟨p',cp,hv,hw⟩=>by subst hv;exact k p' cp a w h hw
theorem Qio{α:Type}{c:Cd α}{p:Option Addr}{cap:Nat}{xs ys:List α}{f:Ent→List Ent}{G:List Ent}{sx xx:Operand}{p2:Option Addr}{cap2:Nat}{i:TypeInfo}{z:Value}(hu:Upd H (Qbm c e p cap xs) f G)
  (ht:P.underlying t=some (.slice e)) (hi:P.info? e=some i) (hiz:i.zero=some z) (hsz:i.size=c.sz) (hzs:z.cells.size=c.sz)
  (hs:ev L sx=some (.slice p xs.length cap)) (hx:ev L xx=some (.slice p2 ys.length cap2))
  (hsrc:∀ w,Wd w0 H w→Row c w p2 cap2 ys) {by_:Nat} (hby:i.bytes=by_) (hb0:(xs.length+ys.length)*by_≤140737488355328) (hb':xs.length+ys.length≤140737488355328) (hdn:Nat.blt d n=true)
  (k:∀ p' cap',At n ((d,.slice p' (xs++ys).length cap')::L) (Wd w0 (f (Qbm c e p' cap' (xs++ys)))) (wpList P ops Q rest)) :
  At n L (Wd w0 H) (wpList P ops Q (⟨some d,.call { callee:=.builtin .append,args:=#[sx,xx],argTypes:=#[t,t] },ty,pos,aft,none⟩::rest)):=by
 cases ys with
 | nil =>
  have hk:=k p cap
  simp only [List.append_nil] at hk
  have hf:f (Qbm c e p cap xs)=H:=hu.same
  rw [hf] at hk
  refine Qgp (W':=fun v w'=>v=.slice p xs.length cap∧Wd w0 H w') rfl rfl hdn (fun a w h hw=>?_) fun v a w h ⟨hv,hw⟩=>by subst hv;exact hk a w h hw
  refine ⟨_,w,?_,rfl,hw⟩
  have hle:=(hw.own hu).row.1
  have hrun:(Builtin.append_ #[t,t] ty #[.slice p xs.length cap,.slice p2 ([]:List α).length cap2]).run P w=.ok (.slice p xs.length cap) w:=by
   cases p<;>cases p2<;>simp [Builtin.append_,run_underlying ht,sizeOf,typeInfo,hi,hle,storeCells,Builtin.lenOf,Builtin.firstCells,loadCells,loadCellsFrom]
  simp only [execOp,resolve,invoke,builtin,Sem.run_bind,Sem.run_pure,Result.andThen_ok,List.map_toArray,List.map_cons,List.map_nil,h.eval hs,h.eval hx,hrun]
 | cons y ys =>
  intro a w h hw
  obtain ⟨b,o,hp,_⟩:∃ b o,p2=some ⟨b,o,none⟩∧True:=by
   rcases (hsrc w hw).2 with h0 | ⟨b,o,hp,_⟩
   ·cases h0
   ·exact ⟨b,o,hp,trivial⟩
  subst hp
  refine Qcl (ys:=y::ys) hu ht hi hiz hsz hzs hs hx rfl (fun w hw j u hj=>?_) hby hb0 hb' hdn k a w h hw
  rcases (hsrc w hw).2 with h0 | ⟨b',o',hp,hc⟩
  ·cases h0
  ·cases hp
   rw [Addr.add_lit]
   exact hc j u hj
theorem av {n : Nat} {L : List (Nat × Value)} {W : World → Prop} {P : Program} {ops : Array Oper} {Q : Exit → Act → World → Prop} {rest : List Oper} {d : Nat} {op : Op} {ty : TypeId} {pos : String} {aft : Array Edge} {v : Value} (hdn : Nat.blt d n = true) (hr : QdP n L W P ⟨some d, op, ty, pos, aft, none⟩ v) (k : At n ((d, v) :: L) W (wpList P ops Q rest)) : At n L W (wpList P ops Q (⟨some d, op, ty, pos, aft, none⟩ :: rest)) := Qk2 rfl rfl hdn hr k
section
variable {n id : Nat} {L : List (Nat × Value)} {W : World → Prop} {P : Program} {ops : Array Oper} {Q : Exit → Act → World → Prop} {K : Act → World → Prop} {l : List Oper} {y : Code}
theorem nwt (L' : List (Nat × Value)) (hs : Sub L' L) (k : At n L' W K) : At n L W (wpList P ops (Exit.then K Q) []) := Qs (Qkj L' hs (Qdc k))
theorem sr (k : At n L W (wpList P l.toArray (Exit.then (y.wp P Q) Q) l)) : At n L W ((Code.seq (Code.region id l.toArray false) y).wp P Q) := Qk3 (Qik k)
theorem nws (L' : List (Nat × Value)) (hs : Sub L' L) (k : At n L' W (wpList P l.toArray (Exit.then (y.wp P Q) Q) l)) : At n L W (wpList P ops (Exit.then ((Code.seq (Code.region id l.toArray false) y).wp P Q) Q) []) := nwt L' hs (sr k)
theorem rt (k : At n L W (Q .ret)) : At n L W (Code.ret.wp P (Exit.then K Q)) := QrT (Qkk k)
theorem sn (k : At n L W K) : At n L W (Code.skip.wp P (Exit.then K Q)) := QbQ (Qdc k)
theorem sns (k : At n L W (wpList P l.toArray (Exit.then (y.wp P Q) Q) l)) : At n L W (Code.skip.wp P (Exit.then ((Code.seq (Code.region id l.toArray false) y).wp P Q) Q)) := sn (sr k)
end
def lkc (k : Nat) : List (Nat × Value) → (Value → Option (List (Nat × Value))) → Option (List (Nat × Value))
  | [], _ => none
  | (d, v) :: l, f => bif Nat.beq d k then f v else lkc k l f
def pk : List Nat → List (Nat × Value) → List (Nat × Value) → Option (List (Nat × Value))
  | [], _, acc => some acc
  | k :: ks, L, acc => lkc k L fun v => pk ks L ((k, v) :: acc)
theorem Qtt {k : Nat} {f : Value → Option (List (Nat × Value))} {r : List (Nat × Value)} : ∀ (L : List (Nat × Value)), lkc k L f = some r → ∃ v, lk L k = some v ∧ f v = some r
  | [], h => by cases h
  | (d, v) :: l, h => by
    unfold lkc at h
    rw [QdT]
    cases e : Nat.beq d k with
    | true => rw [e] at h; exact ⟨v, by rw [if_pos (Nat.eq_of_beq_eq_true e)], h⟩
    | false =>
      rw [e] at h
      rw [if_neg (fun h => Nat.ne_of_beq_eq_false e h)]
      exact Qtt l h
theorem Qok {L L' : List (Nat × Value)} : ∀ (ks : List Nat) (acc : List (Nat × Value)), pk ks L acc = some L' → Sub acc L → Sub L' L
  | [], acc, h, hs => by cases h; exact hs
  | k :: ks, acc, h, hs => by
    obtain ⟨v, h1, h2⟩ := Qtt L h
    exact Qok ks _ h2 ⟨h1, hs⟩
section
variable {n d : Nat} {L : List (Nat × Value)} {W : World → Prop} {P : Program} {ops : Array Oper} {Q : Exit → Act → World → Prop} {K : Act → World → Prop} {rest : List Oper} {ty : TypeId} {pos : String} {aft : Array Edge} {x : Operand} {v : Value}
theorem nt (k : At n L W K) : At n L W (wpList P ops (Exit.then K Q) []) := Qs (Qdc k)
theorem wq (ks : List Nat) {L' : List (Nat × Value)} (k : At n L' W K) (h : pk ks L [] = some L' := by exact rfl) : At n L W K := Qkj L' (Qok ks [] h trivial) k
theorem nwq (ks : List Nat) {L' : List (Nat × Value)} (k : At n L' W K) (h : pk ks L [] = some L' := by exact rfl) : At n L W (wpList P ops (Exit.then K Q) []) := nwt L' (Qok ks [] h trivial) k
theorem nwx {id : Nat} {l : List Oper} {y : Code} (ks : List Nat) {L' : List (Nat × Value)} (k : At n L' W (wpList P l.toArray (Exit.then (y.wp P Q) Q) l)) (h : pk ks L [] = some L' := by exact rfl) : At n L W (wpList P ops (Exit.then ((Code.seq (Code.region id l.toArray false) y).wp P Q) Q) []) := nws L' (Qok ks [] h trivial) k
theorem ns {id : Nat} {l : List Oper} {y : Code} (k : At n L W (wpList P l.toArray (Exit.then (y.wp P Q) Q) l)) : At n L W (wpList P ops (Exit.then ((Code.seq (Code.region id l.toArray false) y).wp P Q) Q) []) := nt (sr k)
theorem tn (k : At n L W K) : At n L W (Exit.then K Q .normal) := Qdc k
theorem gy {dst : Option Tmp} {op : Op} {j g : Nat} {oj : Oper} {b : Bool} (k : At n L W (wpList P ops Q (⟨dst, op, ty, pos, aft, none⟩ :: rest))) (hj : ops[j]? = some oj := by exact rfl) (hd : oj.dst = some g := by exact rfl) (hg : lk L g = some (.bool b) := by exact rfl) : At n L W (wpList P ops Q (⟨dst, op, ty, pos, aft, some (j, b)⟩ :: rest)) := QmX hj hd hg k
theorem gn {op : Op} {j g : Nat} {oj : Oper} {b b' : Bool} (k : At n ((d, undef) :: L) W (wpList P ops Q rest)) (hj : ops[j]? = some oj := by exact rfl) (hd : oj.dst = some g := by exact rfl) (hg : lk L g = some (.bool b) := by exact rfl) (hne : (b == b') = false := by exact rfl) (hdn : Nat.blt d n = true := by exact rfl) : At n L W (wpList P ops Q (⟨some d, op, ty, pos, aft, some (j, b')⟩ :: rest)) := QnS hj hd hg hne hdn k
theorem qs {x y : Code} (k : At n L W (x.wp P (Exit.then (y.wp P Q) Q))) : At n L W ((Code.seq x y).wp P Q) := Qk3 k
theorem qr {id : Nat} {l : List Oper} (k : At n L W (wpList P l.toArray Q l)) : At n L W ((Code.region id l.toArray false).wp P Q) := Qik k
theorem qn (k : At n L W (Q .normal)) : At n L W (wpList P ops Q []) := Qs k
theorem qt (k : At n L W (Q .ret)) : At n L W (Code.ret.wp P Q) := QrT k
theorem tr (k : At n L W (Q .ret)) : At n L W (Exit.then K Q .ret) := Qkk k
theorem br {id : Nat} (k : At n L W (Q .ret)) : At n L W (Exit.inBlock id Q .ret) := QpP k
theorem bm {id : Nat} (k : At n L W K) : At n L W (Exit.inBlock id (Exit.then K Q) .normal) := Qby (Qdc k)
theorem te {i : Nat} (k : At n L W (Q (.exit i))) : At n L W (Exit.then K Q (.exit i)) := QmW k
theorem qb {id : Nat} {c : Code} (k : At n L W (c.wp P (Exit.inBlock id Q))) : At n L W ((Code.block id c).wp P Q) := Qtb k
theorem fx {X : Act → World → Prop} (g : Nat) {b b' : Bool} (hb : b = b') (k : At n ((g, .bool b') :: L) W X) (hg : lk L g = some (.bool b) := by exact rfl) : At n L W X := Qwa hg hb k
theorem r1 {fn : Func} {R : Ending → World → Prop} {t : Nat} {v : Value} (hR : ∀ w, W w → R (.returned v) w) (hr : fn.results = #[.tmp t] := by exact rfl) (hv : lk L t = some v := by exact rfl) : At n L W (bodyPost P fn R .ret) := Qk4 hr hv hR
theorem ce {f : FuncId} {fn : Func} {c : Code} {l : List Value} {w : World} {R : Ending → World → Prop} (hf : P.funcs[f]? = some fn) (hb : fn.body = some c) (hn : fn.ntmps = n) (k : At n (rep l 0) (fun w' => w' = w) (c.wp P (bodyPost P fn R))) (hl : Nat.ble l.length n = true := by exact rfl) : Calls P f l.toArray w R := Qkg hf hb hn hl k
theorem bM {α β : Type} {x : Option α} {G : α → Option β} {r : β} (h : (x >>= G) = some r) : ∃ v, x = some v ∧ G v = some r := QsA h
theorem gd {α : Type} {c : Prop} [Decidable c] {x : Option α} {r : α} (h : (if c then x else none) = some r) : c ∧ x = some r := Qsz h
theorem os {α : Type} {x r : α} (h : some x = some r) : x = r := Option.some.inj h
theorem al {w0 : World} {H : List Ent} {t : TypeId} {z : Value} {cs : List Value} (hz : ∀ w, (zeroValue t).run P w = .ok z w) (k : ∀ b, At n ((d, .pointer (some ⟨b, 0, none⟩)) :: L) (Wd w0 (Qi b cs t :: H)) (wpList P ops Q rest)) (hcs : z.cells = cs.toArray := by exact rfl) (hdn : Nat.blt d n = true := by exact rfl) : At n L (Wd w0 H) (wpList P ops Q (⟨some d, .alloc t, ty, pos, aft, none⟩ :: rest)) := Qtc hz hcs hdn k
theorem oi {α : Type} {c : Bool} {A B : Option α} {r : α} (h : (if c = true then A else B) = some r) : (c = true ∧ A = some r) ∨ (c = false ∧ B = some r) := Qvz h
theorem am (k : At n ((d, v) :: L) W (wpList P ops Q rest)) (hx : ev L x = some v := by exact rfl) (hdn : Nat.blt d n = true := by exact rfl) : At n L W (wpList P ops Q (⟨some d, .move x, ty, pos, aft, none⟩ :: rest)) := av hdn (Qbz hx) k
theorem aa (k : At n ((d, v) :: L) W (wpList P ops Q rest)) (hx : ev L x = some v := by exact rfl) (hdn : Nat.blt d n = true := by exact rfl) : At n L W (wpList P ops Q (⟨some d, .assign x, ty, pos, aft, none⟩ :: rest)) := av hdn (Qcf hx) k
theorem ct {c : Operand} {x y : Code} {b : Bool} (hb : b = true) (k : At n L W (x.wp P Q)) (hc : ev L c = some (.bool b) := by exact rfl) : At n L W ((Code.cond c x y).wp P Q) := QmZ hc hb k
theorem cf {c : Operand} {x y : Code} {b : Bool} (hb : b = false) (k : At n L W (y.wp P Q)) (hc : ev L c = some (.bool b) := by exact rfl) : At n L W ((Code.cond c x y).wp P Q) := QlX hc hb k
theorem aw {op : Op} (hr : QdP n L W P ⟨some d, op, ty, pos, aft, none⟩ v) (k : At n ((d, v) :: L) W (wpList P ops Q rest)) (hdn : Nat.blt d n = true := by exact rfl) : At n L W (wpList P ops Q (⟨some d, op, ty, pos, aft, none⟩ :: rest)) := av hdn hr k
section
variable {y c : Operand} {k : IntKind} {i j : Int} {xt yt : TypeId} {b : Bool} {u : Value} {m : Nat} {vs : Array Value}
theorem xa (hx : ev L x = some (.int k i) := by exact rfl) (hy : ev L y = some (.int k j) := by exact rfl) : QdP n L W P ⟨some d, .binOp .add xt x y yt, ty, pos, aft, none⟩ (.int k (k.wrap (i + j))) := QjS hx hy
theorem xl (hx : ev L x = some (.int k i) := by exact rfl) (hy : ev L y = some (.int k j) := by exact rfl) : QdP n L W P ⟨some d, .binOp .lss xt x y yt, ty, pos, aft, none⟩ (.bool (decide (i < j))) := Qoi hx hy
theorem xq (hx : ev L x = some (.int k i) := by exact rfl) (hy : ev L y = some (.int k j) := by exact rfl) : QdP n L W P ⟨some d, .binOp .eql xt x y yt, ty, pos, aft, none⟩ (.bool (i == j)) := QqA hx hy
theorem xn (hx : ev L x = some (.int k i) := by exact rfl) (hy : ev L y = some (.int k j) := by exact rfl) : QdP n L W P ⟨some d, .binOp .neq xt x y yt, ty, pos, aft, none⟩ (.bool (i != j)) := Qtl hx hy
theorem xp (hc : ev L c = some (.bool b) := by exact rfl) (hx : ev L x = some u := by exact rfl) (hy : ev L y = some v := by exact rfl) : QdP n L W P ⟨some d, .pick c x y, ty, pos, aft, none⟩ (bif b then u else v) := QdZ hc hx hy
theorem xe (hx : ev L x = some (.tuple vs) := by exact rfl) (hv : vs[m]? = some v := by exact rfl) : QdP n L W P ⟨some d, .extract x m, ty, pos, aft, none⟩ v := QqB hx hv
end
theorem dz {E : Ent} {H : List Ent} {w0 : World} (k : At n L (Wd w0 H) K) : At n L (Wd w0 (E :: H)) K := Qam (H := _) .z k
end
end
end Go.Proofs.YtnekckhjmnhinaaGreatDoor.E
namespace Go.Proofs.YtnekckhjmnhinaaGreatDoor.E
open Go.RowKit
variable {n : Nat} {L L' : List (Nat × Value)} {a : Act} {W : World → Prop} {P : Program} {ops : Array Oper} {Q : Exit → Act → World → Prop} {rest : List Oper} {w0 : World} {H : List Ent}
section
variable {d : Nat} {ty : TypeId} {pos : String} {aft : Array Edge} {f : FuncId} {fn : Func} {xs : List Operand} {ats : Array TypeId} {l : List Value}
theorem Qta{v : Value}(hf : P.funcs[f]? = some fn)(hb : fn.body.isSome = true)(hnm : (fn.name == "runtime.NumGoroutine") = false)
  (hx:evs L xs=some l) (hdn:Nat.blt d n=true) (hc:∀ w,Wd w0 H w→Calls P f l.toArray w fun e w'=>e=.returned v∧Below w.heap.size w w')
  (kk:At n ((d,v)::L) (Wd w0 H) (wpList P ops Q rest)) :
  At n L (Wd w0 H) (wpList P ops Q (⟨some d,.call { callee:=.value (.func f),args:=xs.toArray,argTypes:=ats },ty,pos,aft,none⟩::rest)) :=
 QeZ (W':=fun u w'=>u=v∧Wd w0 H w') hf hb hnm hx hdn (fun w hw=>(hc w hw).mono fun e w' ⟨he,hw'⟩=>⟨v,he,rfl,hw.call hw'⟩) fun u a w h hw=>by
  obtain ⟨rfl,hw⟩:=hw
  exact kk a w h hw
theorem QbU{α : Type}{c : Cd α}{e : TypeId}{ys : List α}{V : Option Addr → Nat → Value}(hf : P.funcs[f]? = some fn)(hb : fn.body.isSome = true)(hnm : (fn.name == "runtime.NumGoroutine") = false)
  (hx:evs L xs=some l) (hdn:Nat.blt d n=true) (hc:∀ w,Wd w0 H w→Calls P f l.toArray w fun en w'=>∃ p cap,en=.returned (V p cap)∧Own c e w.heap.size w' p cap ys∧Below w.heap.size w w')
  (kk:∀ p cap,At n ((d,V p cap)::L) (Wd w0 (Qbm c e p cap ys::H)) (wpList P ops Q rest)) :
  At n L (Wd w0 H) (wpList P ops Q (⟨some d,.call { callee:=.value (.func f),args:=xs.toArray,argTypes:=ats },ty,pos,aft,none⟩::rest)) :=
 QeZ (W':=fun u w'=>∃ p cap,u=V p cap∧Wd w0 (Qbm c e p cap ys::H) w') hf hb hnm hx hdn (fun w hw=>(hc w hw).mono fun en w' ⟨p,cap,he,ho,hw'⟩=>⟨_,he,p,cap,rfl,hw.pushOwn hw' ho⟩) fun u a w h hw=>by
  obtain ⟨p,cap,rfl,hw⟩:=hw
  exact kk p cap a w h hw
theorem Qd1{v:Value}{P:Program}{f:FuncId}{l:Array Value}{w:World}(h:Calls P f l w fun e w'=>e=.returned v∧w'=w):Calls P f l w fun e w'=>e=.returned v∧Below w.heap.size w w' :=
 h.mono fun e w' ⟨he,hw⟩=>⟨he,by subst hw;exact Below.refl _ _⟩
end
def QfW(T e:TypeId)(b:Nat)(g:Option Nat)(o:ByteArray):Ent :=
 ⟨b::g.toList,fun w=>∃ q v,w.heap[b]? = some (.cells #[q,v] T (0,0))∧w.ownsRowF b e 1 v o.size (Lib.strCells o)∧v.ownBlock≠some b∧(q=.pointer none∨q=.pointer (some ⟨b,0,none⟩))∧v.ownBlock=g,fun w w' h ⟨q,v,h1,h2,h3,h4,h5⟩=>by
  refine ⟨q,v,(h b (by simp)).trans h1,⟨h2.1,?_⟩,h3,h4,h5⟩
  rcases h2.2 with h6 | ⟨g',cap,cur,fz,hv,hg,hh,r⟩
  ·exact .inl h6
  ·refine .inr ⟨g',cap,cur,fz,hv,hg,(h g' ?_).trans hh,r⟩
   rw [←h5,hv];simp [Value.ownBlock]⟩
theorem QnQ{T e:TypeId}{b:Nat}{g:Option Nat}{o:ByteArray}{w:World}(h:(QfW T e b g o).ok w):Lib.IsBuilderF T e b b (Lib.strCells o) w:=by
 obtain ⟨q,v,h1,h2,h3,h4,h5⟩:=h
 have hl:(Lib.strCells o).length=o.size:=Lib.strCells_length o
 rcases h4 with rfl | rfl
 ·exact .inl ⟨Nat.le_refl _,v,h1,by rw [hl];exact h2,h3⟩
 ·exact .inr ⟨Nat.le_refl _,v,h1,by rw [hl];exact h2,h3⟩
def Qwb(e:TypeId)(E:Ent):Prop:=∀ w,E.ok w→∀ k∈E.fp,∃ cs t fr,w.heap[k]? = some (.cells cs t fr)∧t≠e
def Qi8(e:TypeId):List Ent→Prop
 | []=>True
 | E::H=>Qwb e E∧Qi8 e H
theorem Qi8.mem{e:TypeId}:∀ {H:List Ent},Qi8 e H→∀ E∈H,Qwb e E
 | _::_,h,E,hE=>by
  rcases List.mem_cons.1 hE with rfl | hE
  ·exact h.1
  ·exact Qi8.mem h.2 E hE
theorem Upd.others{E:Ent}{f:Ent→List Ent}{G:List Ent}(h:Upd H E f G):∀ F∈G,F∈H:=by
 induction h with
 | z=>intro F hF;exact List.mem_cons_of_mem _ hF
 | s _ ih =>
  intro F hF
  rcases List.mem_cons.1 hF with rfl | hF
  ·exact List.mem_cons_self ..
  ·exact List.mem_cons_of_mem _ (ih F hF)
theorem Sep.put{B:Nat}{E E':Ent}{f:Ent→List Ent}{G:List Ent}{w w':World}(hu:Upd H E f G)(h:Sep B H w)(hsz:w.heap.size≤w'.heap.size)(hk:∀ F∈G,∀ k∈F.fp,w'.heap[k]? = w.heap[k]?)
  (hok:E'.ok w') (hfp:∀ k∈E'.fp,B≤k∧k<w'.heap.size∧∀ F∈G,k∉F.fp):Sep B (f E') w':=by
 induction hu with
 | z=>exact ⟨hok,hfp,h.2.2.mono hsz hk⟩
 | @s F E H f G hu ih =>
  refine ⟨F.loc w w' (hk F (List.mem_cons_self ..)) h.1,fun k hkF=>⟨(h.2.1 k hkF).1,Nat.lt_of_lt_of_le (h.2.1 k hkF).2.1 hsz,fun F' hF' hk'=>?_⟩,
   ih h.2.2 (fun F' hF'=>hk F' (List.mem_cons_of_mem _ hF')) fun k hk'=>⟨(hfp k hk').1,(hfp k hk').2.1,fun F' hF'=>(hfp k hk').2.2 F' (List.mem_cons_of_mem _ hF')⟩⟩
  rcases hu.mem' F' hF' with rfl | hF'
  ·exact (hfp k hk').2.2 F (List.mem_cons_self ..) hkF
  ·exact (h.2.1 k hkF).2.2 F' hF' hk'
theorem Wd.put{E E':Ent}{f:Ent→List Ent}{G:List Ent}{w w':World}(hu:Upd H E f G)(h:Wd w0 H w)(hb:Below w0.heap.size w w')(hk:∀ F∈G,∀ k∈F.fp,w'.heap[k]? = w.heap[k]?)
  (hok:E'.ok w') (hfp:∀ k∈E'.fp,w0.heap.size≤k∧k<w'.heap.size∧∀ F∈G,k∉F.fp):Wd w0 (f E') w' :=
 ⟨h.below.trans hb,h.sep.put hu hb.size hk hok hfp⟩
theorem Wd.bld{T e b:Nat}{g:Option Nat}{o o':ByteArray}{f:Ent→List Ent}{G:List Ent}{w w':World}{q:Value}(hu:Upd H (QfW T e b g o) f G)(h:Wd w0 H w)(hG:Qi8 e G)(hq:q=.pointer none∨q=.pointer (some ⟨b,0,none⟩))
  (hB:Lib.BuilderAtF T e b b q (Lib.strCells o') w') (hb:Below b w w') (hk:Lib.OthersKept e (some b) w w'):∃ g',Wd w0 (f (QfW T e b g' o')) w':=by
 have hb0:w0.heap.size≤b:=(h.fp hu.mem b (by simp [QfW])).1
 obtain ⟨_,v,h1,h2,h3⟩:=hB
 have hl:(Lib.strCells o').length=o'.size:=Lib.strCells_length o'
 have hblt:b<w.heap.size:=(h.fp hu.mem b (by simp [QfW])).2
 have keep:∀ F∈G,∀ k∈F.fp,∃ cs t fr,w.heap[k]? = some (.cells cs t fr)∧t≠e∧w'.heap[k]? = w.heap[k]?:=by
  intro F hF k hkF
  obtain ⟨cs,t,fr,hc,hne⟩:=hG.mem F hF w (h.ok (hu.others F hF)) k hkF
  refine ⟨cs,t,fr,hc,hne,?_⟩
  rw [hc]
  refine hk k _ hc (fun hkb=>?_) (fun c fz hx=>by cases hx;exact hne rfl)
  have hkb':k=b:=by simpa using hkb
  subst hkb'
  have hs:=h.sep
  have:∀ {H:List Ent} {f G} (hu:Upd H (QfW T e k g o) f G),Sep w0.heap.size H w→F∈G→False:=by
   intro H f G hu
   generalize hE:QfW T e k g o=E at hu
   induction hu with
   | z=>intro hs hF;subst hE;exact (hs.2.1 k (by simp [QfW])).2.2 F hF hkF
   | s hu ih =>
    intro hs hF
    rcases List.mem_cons.1 hF with rfl | hF
    ·exact (hs.2.1 k hkF).2.2 _ hu.mem (by subst hE;simp [QfW])
    ·exact ih hE hs.2.2 hF
  exact this hu hs hF
 refine ⟨v.ownBlock,h.put hu (hb.mono hb0) (fun F hF k hkF=>by obtain ⟨_,_,_,_,_,h⟩:=keep F hF k hkF;exact h) ⟨q,v,h1,by rw [←hl];exact h2,h3,hq,rfl⟩ fun k hkE=>?_⟩
 have hbw':b<w'.heap.size:=Nat.lt_of_lt_of_le hblt hb.size
 have hk1:k=b∨v.ownBlock=some k:=by simpa [QfW] using hkE
 rcases hk1 with rfl | hk1
 ·refine ⟨hb0,hbw',fun F hF hkF=>?_⟩
  obtain ⟨cs,t,fr,hc,hne,hh⟩:=keep F hF k hkF
  have hs:=h.sep
  have:∀ {H:List Ent} {f G} (hu:Upd H (QfW T e k g o) f G),Sep w0.heap.size H w→F∈G→False:=by
   intro H f G hu
   generalize hE:QfW T e k g o=E at hu
   induction hu with
   | z=>intro hs hF;subst hE;exact (hs.2.1 k (by simp [QfW])).2.2 F hF hkF
   | s hu ih =>
    intro hs hF
    rcases List.mem_cons.1 hF with rfl | hF
    ·exact (hs.2.1 k hkF).2.2 _ hu.mem (by subst hE;simp [QfW])
    ·exact ih hE hs.2.2 hF
  exact this hu hs hF
 ·rcases h2.2 with ⟨hv,_⟩ | ⟨g2,cap,cur,fz,hv,hg,hh,r⟩
  ·rw [hv] at hk1;simp [Value.ownBlock] at hk1
  ·rw [hv] at hk1
   simp [Value.ownBlock] at hk1
   subst hk1
   refine ⟨Nat.le_trans hb0 hg,(Array.getElem?_eq_some_iff.1 hh).1,fun F hF hkF=>?_⟩
   obtain ⟨cs,t,fr,hc,hne,h4⟩:=keep F hF g2 hkF
   rw [h4,hc] at hh
   cases hh
   exact hne rfl
section
variable {d : Nat} {ty : TypeId} {pos : String} {aft : Array Edge} {fid : FuncId} {fn : Func} {xs : List Operand} {ats : Array TypeId} {T e b : Nat} {g : Option Nat} {o : ByteArray} {f : Ent → List Ent} {G : List Ent}
theorem Qi5{t:TypeId}(hz:∀ w,(zeroValue t).run P w=.ok (.agg #[.pointer none,.slice none 0 0]) w)(hdn:Nat.blt d n=true)
  (k:∀ b,At n ((d,.pointer (some ⟨b,0,none⟩))::L) (Wd w0 (QfW t e b none ByteArray.empty::H)) (wpList P ops Q rest)) :
  At n L (Wd w0 H) (wpList P ops Q (⟨some d,.alloc t,ty,pos,aft,none⟩::rest)) :=
 Qgp (W':=fun v w'=>∃ b,v=.pointer (some ⟨b,0,none⟩)∧Wd w0 (QfW t e b none ByteArray.empty::H) w') rfl rfl hdn (fun a w h hw=>by
  refine ⟨_,w.alloc (.cells #[.pointer none,.slice none 0 0] t),?_,w.heap.size,rfl,hw.push ((Below.refl _ _).alloc (Nat.le_refl _) _) ?_ ?_⟩
  ·simp [execOp,Instr.alloc,hz,newVar,newRow,newObj,Sem.run,Value.cells]
  ·exact ⟨.pointer none,.slice none 0 0,heap_alloc_new w _,⟨rfl,.inl ⟨rfl,rfl⟩⟩,by simp [Value.ownBlock],.inl rfl,rfl⟩
  ·intro k hk;simp [QfW] at hk;subst hk;simp) fun v a w h ⟨b,hv,hw⟩=>by subst hv;exact k b a w h hw
theorem Qlf(o:ByteArray)(c:Int)(hc:0≤c∧c<256):Lib.strCells o++[.int .u8 c]=Lib.strCells (o.push (UInt8.ofNat c.toNat)):=by
 have:((UInt8.ofNat c.toNat).toNat:Int)=c:=by
  have h1:c.toNat<256:=by omega
  simp [UInt8.toNat_ofNat,Nat.mod_eq_of_lt h1];omega
 simp only [Lib.strCells,ByteArray.push,Array.toList_push,List.map_append,List.map_cons,List.map_nil,this]
theorem QjF(o s:ByteArray):Lib.strCells o++Lib.strCells s=Lib.strCells (o++s):=by
 simp [Lib.strCells,ByteArray.data_append]
theorem QnU{c : Int}(hu : Upd H (QfW T e b g o) f G)(hG : Qi8 e G)(hf : P.funcs[fid]? = some fn)(hb : fn.body.isSome = true)(hnm : (fn.name == "runtime.NumGoroutine") = false)
  (hx:evs L xs=some [.pointer (some ⟨b,0,none⟩),.int .u8 c]) (hdn:Nat.blt d n=true) (hc:0≤c∧c<256) (hs:o.size+1≤140737488355328)
  (hcon:∀ (B b:Nat) (bs:List Value) (c:Int) (w:World) (_:Lib.IsBuilderF T e B b bs w) (_:bs.length+1≤140737488355328) (_:B≤w.heap.size),
   Calls P fid #[.pointer (some ⟨b,0,none⟩),.int .u8 c] w fun en w'=>en=.returned .nilIface∧(Lib.BuilderAtF T e B b (.pointer (some ⟨b,0,none⟩)) (bs++[.int .u8 c]) w'∧Below B w w'∧Lib.OthersKept e (some b) w w'))
  (kk:∀ g',At n ((d,.nilIface)::L) (Wd w0 (f (QfW T e b g' (o.push (UInt8.ofNat c.toNat))))) (wpList P ops Q rest)) :
  At n L (Wd w0 H) (wpList P ops Q (⟨some d,.call { callee:=.value (.func fid),args:=xs.toArray,argTypes:=ats },ty,pos,aft,none⟩::rest)) :=
 QeZ (W':=fun u w'=>u=.nilIface∧∃ g',Wd w0 (f (QfW T e b g' (o.push (UInt8.ofNat c.toNat)))) w') hf hb hnm hx hdn (fun w hw =>
  (hcon b b _ c w (QnQ (hw.ok hu.mem)) (by rw [Lib.strCells_length];exact hs) (Nat.le_of_lt (hw.fp hu.mem b (by simp [QfW])).2)).mono fun en w' ⟨he,h1,h2,h3⟩ =>
   ⟨_,he,rfl,hw.bld hu hG (.inr rfl) (by rw [Qlf o c hc] at h1;exact h1) h2 h3⟩) fun u a w h hw=>by
  obtain ⟨rfl,g',hw⟩:=hw
  exact kk g' a w h hw
theorem QiQ{s : ByteArray}(hu : Upd H (QfW T e b g o) f G)(hG : Qi8 e G)(hf : P.funcs[fid]? = some fn)(hb : fn.body.isSome = true)(hnm : (fn.name == "runtime.NumGoroutine") = false)
  (hx:evs L xs=some [.pointer (some ⟨b,0,none⟩),.string s]) (hdn:Nat.blt d n=true) (hs:o.size+s.size≤140737488355328)
  (hcon:∀ (B b:Nat) (bs:List Value) (s:ByteArray) (w:World) (_:Lib.IsBuilderF T e B b bs w) (_:bs.length+s.size≤140737488355328) (_:B≤w.heap.size),
   Calls P fid #[.pointer (some ⟨b,0,none⟩),.string s] w fun en w'=>en=.returned (.tuple #[.int .i64 s.size,.nilIface])∧(Lib.BuilderAtF T e B b (.pointer (some ⟨b,0,none⟩)) (bs++Lib.strCells s) w'∧Below B w w'∧Lib.OthersKept e (some b) w w'))
  (kk:∀ g',At n ((d,.tuple #[.int .i64 s.size,.nilIface])::L) (Wd w0 (f (QfW T e b g' (o++s)))) (wpList P ops Q rest)) :
  At n L (Wd w0 H) (wpList P ops Q (⟨some d,.call { callee:=.value (.func fid),args:=xs.toArray,argTypes:=ats },ty,pos,aft,none⟩::rest)) :=
 QeZ (W':=fun u w'=>u=.tuple #[.int .i64 s.size,.nilIface]∧∃ g',Wd w0 (f (QfW T e b g' (o++s))) w') hf hb hnm hx hdn (fun w hw =>
  (hcon b b _ s w (QnQ (hw.ok hu.mem)) (by rw [Lib.strCells_length];exact hs) (Nat.le_of_lt (hw.fp hu.mem b (by simp [QfW])).2)).mono fun en w' ⟨he,h1,h2,h3⟩ =>
   ⟨_,he,rfl,hw.bld hu hG (.inr rfl) (by rw [QjF] at h1;exact h1) h2 h3⟩) fun u a w h hw=>by
  obtain ⟨rfl,g',hw⟩:=hw
  exact kk g' a w h hw
theorem Qin(hu : Upd H (QfW T e b g o) f G)(hG : Qi8 e G)(hf : P.funcs[fid]? = some fn)(hb : fn.body.isSome = true)(hnm : (fn.name == "runtime.NumGoroutine") = false)
  (hx:evs L xs=some [.pointer (some ⟨b,0,none⟩)]) (hdn:Nat.blt d n=true)
  (hcon:∀ (B b:Nat) (l:List UInt8) (w:World) (_:Lib.IsBuilderF T e B b (Lib.byteCells l) w) (_:B≤w.heap.size),
   Calls P fid #[.pointer (some ⟨b,0,none⟩)] w fun en w'=>en=.returned (.string ⟨l.toArray⟩)∧(Lib.IsBuilderF T e B b (Lib.byteCells l) w'∧Below B w w'∧Lib.OthersKept e (some b) w w'))
  (kk:∀ g',At n ((d,.string o)::L) (Wd w0 (f (QfW T e b g' o))) (wpList P ops Q rest)) :
  At n L (Wd w0 H) (wpList P ops Q (⟨some d,.call { callee:=.value (.func fid),args:=xs.toArray,argTypes:=ats },ty,pos,aft,none⟩::rest)) :=
 QeZ (W':=fun u w'=>u=.string o∧∃ g',Wd w0 (f (QfW T e b g' o)) w') hf hb hnm hx hdn (fun w hw =>
  (hcon b b o.data.toList w (QnQ (hw.ok hu.mem)) (Nat.le_of_lt (hw.fp hu.mem b (by simp [QfW])).2)).mono fun en w' ⟨he,h1,h2,h3⟩=>by
   refine ⟨_,he,by simp,?_⟩
   rcases h1 with h1 | h1
   ·exact hw.bld hu hG (.inl rfl) h1 h2 h3
   ·exact hw.bld hu hG (.inr rfl) h1 h2 h3) fun u a w h hw=>by
  obtain ⟨rfl,g',hw⟩:=hw
  exact kk g' a w h hw
end
def QuS(s:ByteArray)(c:Int):ByteArray:=⟨(Lib.repeatL s.data.toList c.toNat).toArray⟩
theorem Qsm{P:Program}{f:FuncId}(hcon:∀ (s:ByteArray) (c:Nat) (w:World) (_:c≤9223372036854775807) (_:s.size*c≤140737488355328),Calls P f #[.string s,.int .i64 c] w fun e w'=>e=.returned (.string ⟨(Lib.repeatL s.data.toList c).toArray⟩)∧Below w.heap.size w w')
  (s:ByteArray) (c:Int) (w:World) (h:0≤c∧c≤9223372036854775807∧(s.size:Int)*c≤140737488355328):Calls P f #[.string s,.int .i64 c] w fun e w'=>e=.returned (.string (QuS s c))∧Below w.heap.size w w':=by
 obtain ⟨h1,h2,h3⟩:=h
 obtain ⟨m,rfl⟩:=Int.eq_ofNat_of_zero_le h1
 have h4:((s.size*m:Nat):Int)≤140737488355328:=by rw [Int.natCast_mul];exact h3
 exact hcon s m w (by omega) (by omega)
end Go.Proofs.YtnekckhjmnhinaaGreatDoor.E
namespace Go.Proofs.YtnekckhjmnhinaaGreatDoor.E
open Go.RowKit
theorem QX{x:Int}(h : -9223372036854775808≤x)(h':x<9223372036854775808):wr .i64 x=x:=by
 unfold wr IntKind.wrap
 simp [IntKind.bits,IntKind.signed]
 split<;>omega
theorem Ql2{x:Int}(h:0≤x)(h':x<256):wr .u8 x=x:=by
 unfold wr IntKind.wrap;simp only [IntKind.bits,IntKind.signed,Bool.false_and,Bool.false_eq_true,if_false];omega
theorem Qn1{x:Int}(h:0≤x)(h':x<65536):wr .u16 x=x:=by
 unfold wr IntKind.wrap;simp only [IntKind.bits,IntKind.signed,Bool.false_and,Bool.false_eq_true,if_false];omega
theorem QpZ{x:Int}(h:0≤x)(h':x<4294967296):wr .u32 x=x:=by
 unfold wr IntKind.wrap;simp only [IntKind.bits,IntKind.signed,Bool.false_and,Bool.false_eq_true,if_false];omega
theorem QcI{x:Int}(h:0≤x)(h':x<18446744073709551616):wr .u64 x=x:=by
 unfold wr IntKind.wrap;simp only [IntKind.bits,IntKind.signed,Bool.false_and,Bool.false_eq_true,if_false];omega
theorem QhT(x:Int):wr .u8 x=x%256:=by
 unfold wr IntKind.wrap;simp only [IntKind.bits,IntKind.signed,Bool.false_and,Bool.false_eq_true,if_false];omega
theorem toNat_ofInt(b:Nat)(x:Nat)(h:x<2 ^ b):(BitVec.ofInt b (x:Int)).toNat=x:=by
 rw [BitVec.toNat_ofInt]
 rw [Int.emod_eq_of_lt (by omega) (by exact_mod_cast h)]
 simp
theorem QlH(k:IntKind)(hk:k.signed=false)(x y:Nat)(hx:x<2 ^ k.bits)(hy:y<2 ^ k.bits):Qjd k x y=((x &&& y:Nat):Int):=by
 unfold Qjd
 rw [BitVec.toNat_and,toNat_ofInt _ _ hx,toNat_ofInt _ _ hy]
 unfold IntKind.wrap
 have h1:x &&& y<2 ^ k.bits:=Nat.lt_of_le_of_lt Nat.and_le_left hx
 rw [Int.emod_eq_of_lt (by omega) (by exact_mod_cast h1)]
 simp [hk]
theorem QhH(k:IntKind)(hk:k.signed=false)(x y:Nat)(hx:x<2 ^ k.bits)(hy:y<2 ^ k.bits):ior k x y=((x ||| y:Nat):Int):=by
 unfold ior
 rw [BitVec.toNat_or,toNat_ofInt _ _ hx,toNat_ofInt _ _ hy]
 unfold IntKind.wrap
 have h1:x ||| y<2 ^ k.bits:=Nat.or_lt_two_pow hx hy
 rw [Int.emod_eq_of_lt (by omega) (by exact_mod_cast h1)]
 simp [hk]
theorem Qhe(k:IntKind)(x n:Nat)(hn:n≤k.bits):Qh8 k x n=((x/2 ^ n:Nat):Int):=by
 unfold Qh8
 rw [Int.toNat_natCast,Nat.min_eq_left hn,Int.fdiv_eq_ediv_of_nonneg _ (by exact_mod_cast Nat.zero_le _)]
 exact_mod_cast rfl
theorem Qfy(k:IntKind)(hk:k.signed=false)(x n:Nat)(hn:n≤k.bits):Qh9 k x n=(((x*2 ^ n)%2 ^ k.bits:Nat):Int):=by
 unfold Qh9 IntKind.wrap
 rw [Int.toNat_natCast,Nat.min_eq_left hn]
 simp [hk]
theorem QrR(s:ByteArray)(i:Nat)(h:i<s.size):s.data.toList[i]? = some (s[i]):=by
 rw [List.getElem?_eq_getElem (by simpa using h)];rfl
theorem QoW(s:ByteArray)(i:Nat):bt s i=((s.data.toList[i]?).getD 0).toNat:=by
 unfold bt
 rw [Int.toNat_natCast]
 have:s[i]? = s.data.toList[i]?:=by
  by_cases h:i<s.size
  ·rw [QrR s i h,getElem?_pos s i h]
  ·rw [getElem?_neg s i h,List.getElem?_eq_none (by simpa using h)]
 rw [this]
theorem QeW(x y:ByteArray):seq x y=true↔x=y:=by
 unfold seq
 rw [beq_iff_eq]
 constructor
 ·intro h
  have hx:∀ z:ByteArray,z.toList=z.data.toList:=fun z=>ByteArray.toList_eq z
  rw [hx,hx] at h
  cases x;cases y;simp_all
 ·rintro rfl;rfl
theorem Qg7(x:ByteArray):seq x x=true:=(QeW x x).2 rfl
theorem Qa{α β:Type}(x:α)(f:α→Option β):((some x:Option α)>>=f)=f x:=rfl
theorem QuL(k:IntKind)(xs:List Int):(Qv k).all xs=xs.map (Value.int k):=by
 induction xs with
 | nil=>rfl
 | cons x xs ih=>rw [Cd.all_cons,ih];rfl
theorem Qwi{n:Int}(h:(Lit.int .u8 n).wf=true):0≤n∧n<256:=by
 simp [Lit.wf,IntKind.min,IntKind.max,IntKind.bits,IntKind.signed] at h;omega
def ob(l:List UInt8):List Int:=l.map fun b=>(b.toNat:Int)
theorem Qa1(l:List UInt8):(ob l).length=l.length:=by simp [ob]
theorem Qh5(l k:List UInt8):ob (l++k)=ob l++ob k:=by simp [ob]
theorem QvC{l k:List UInt8}(h:ob l=ob k):l=k:=by
 induction l generalizing k with
 | nil=>cases k with
  | nil=>rfl
  | cons b k=>simp [ob] at h
 | cons a l ih=>cases k with
  | nil=>simp [ob] at h
  | cons b k =>
   simp only [ob,List.map_cons,List.cons.injEq] at h
   have h1:a=b:=UInt8.toNat_inj.1 (by omega)
   rw [h1,ih h.2]
theorem QmR(xs:List Int)(h:∀ n∈xs,(Lit.int .u8 n).wf=true):∃ l,xs=ob l:=by
 induction xs with
 | nil=>exact ⟨[],rfl⟩
 | cons n xs ih =>
  obtain ⟨l,hl⟩:=ih fun m hm=>h m (List.mem_cons_of_mem _ hm)
  obtain ⟨h0,h1⟩:=Qwi (h n (List.mem_cons_self ..))
  refine ⟨UInt8.ofNat n.toNat::l,?_⟩
  rw [hl]
  simp only [ob,List.map_cons,UInt8.toNat_ofNat']
  congr 1
  omega
theorem Qq8(l:List UInt8)(i:Nat)(b:UInt8)(h:l[i]? = some b):QO (ob l) i=b.toNat:=by
 unfold QO ob
 rw [Int.toNat_natCast,List.getD_eq_getElem?_getD,List.getElem?_map,h]
 rfl
theorem QcC{α:Type}(l:List α)(i:Nat)(h:i<l.length):∃ c,l[i]? = some c∧l.drop i=c::l.drop (i+1) :=
 ⟨l[i],List.getElem?_eq_getElem h,List.drop_eq_getElem_cons h⟩
end Go.Proofs.YtnekckhjmnhinaaGreatDoor.E
namespace Go.Proofs.YtnekckhjmnhinaaGreatDoor.E
open Go.RowKit
variable {n : Nat} {L L' : List (Nat × Value)} {a : Act} {W : World → Prop} {P : Program} {ops : Array Oper} {Q : Exit → Act → World → Prop} {rest : List Oper} {w0 : World} {H : List Ent}
variable {α β γ : Type}
def Qaf(cells:List Value)(o:Nat)(c:Cd β)(y:β)(put:β→List Value):Prop :=
 ∃ pre post,cells=pre++c.cs y++post∧pre.length=o∧∀ z,put z=pre++c.cs z++post
theorem Qaf.whole(c:Cd α)(x:α):Qaf (c.cs x) 0 c x c.cs:=⟨[],[],by simp,rfl,fun z=>by simp⟩
theorem Qaf.comp{cells:List Value}{o o':Nat}{c:Cd β}{c':Cd γ}{y:β}{y':γ}{put:β→List Value}(h:Qaf cells o c y put)(g:γ→β)(h':Qaf (c.cs y) o' c' y' (fun z=>c.cs (g z))) :
  Qaf cells (o+o') c' y' (fun z=>put (g z)):=by
 obtain ⟨p1,q1,e1,l1,f1⟩:=h
 obtain ⟨p2,q2,e2,l2,f2⟩:=h'
 refine ⟨p1++p2,q2++q1,?_,by simp [l1,l2],fun z=>?_⟩
 ·rw [e1,e2];simp
 ·have f2z:c.cs (g z)=_:=f2 z
  show put (g z)=_
  rw [f1,f2z];simp
theorem Qaf.get{cells:List Value}{o:Nat}{c:Cd β}{y:β}{put:β→List Value}(h:Qaf cells o c y put):∀ k v,(c.cs y)[k]? = some v→cells[o+k]? = some v:=by
 obtain ⟨p,q,e,l,_⟩:=h
 intro k v hk
 have hlt:k<(c.cs y).length:=(List.getElem?_eq_some_iff.1 hk).1
 rw [e,List.append_assoc,List.getElem?_append_right (by omega),l,Nat.add_sub_cancel_left,List.getElem?_append_left hlt]
 exact hk
theorem Qaf.size{cells:List Value}{o:Nat}{c:Cd β}{y:β}{put:β→List Value}(h:Qaf cells o c y put):o+c.sz≤cells.length:=by
 obtain ⟨p,q,e,l,_⟩:=h
 rw [e];simp [c.len];omega
theorem Qaf.splice{cells:List Value}{o:Nat}{c:Cd β}{y:β}{put:β→List Value}(h:Qaf cells o c y put)(z:β):put z=cells.take o++c.cs z++cells.drop (o+c.sz):=by
 obtain ⟨p,q,e,l,f⟩:=h
 rw [f,e,←l]
 have h1:List.take p.length (p++c.cs y++q)=p:=by simp
 have h2:List.drop (p.length+c.sz) (p++c.cs y++q)=q:=by
  rw [←c.len y,←List.length_append];simp
 rw [h1,h2]
theorem Qaf.all[Inhabited α](c:Cd α):∀ (xs:List α) (i:Nat),i<xs.length→Qaf (c.all xs) (i*c.sz) c (xs.getD i default) (fun z=>c.all (xs.set i z))
 | x::xs,0,_=>⟨[],c.all xs,by simp [Cd.all_cons],by simp,fun z=>by simp [Cd.all_cons]⟩
 | x::xs,i+1,h=>by
  obtain ⟨p,q,e,l,f⟩:=Qaf.all c xs i (by simpa using h)
  refine ⟨c.cs x++p,q,?_,by rw [List.length_append,c.len,l,Nat.add_mul];omega,fun z=>?_⟩
  ·rw [Cd.all_cons,e];simp
  ·have:=f z
   simp only [List.set_cons_succ,Cd.all_cons] at this ⊢
   rw [this];simp
structure Hd where
 p:Option Addr
 n:Nat
 cap:Nat
 deriving DecidableEq,Inhabited
def cHd:Cd Hd:=⟨1,fun h=>[.slice h.p h.n h.cap],fun _=>rfl,fun _ v hv=>by simp at hv;subst hv;rfl,by decide⟩
def Qbb[Inhabited α]{m:Nat}(v:Vector α m)(i:Int):α:=v.toList.getD i.toNat default
def Qb2{m:Nat}(v:Vector α m)(i:Int)(x:α):Vector α m:=v.setIfInBounds i.toNat x
theorem Qd4{m:Nat}(v:Vector α m)(i:Int)(x:α):(Qb2 v i x).toList=v.toList.set i.toNat x:=by
 simp [Qb2,Vector.toList_setIfInBounds]
def QQ(c:Cd α)(m:Nat)(hm:0<m):Cd (Vector α m) :=
 ⟨m*c.sz,fun v=>c.all v.toList,fun v=>by rw [c.all_len];simp,fun v=>c.all_one v.toList,Nat.mul_pos hm c.pos⟩
theorem Qaf.vec[Inhabited α](c:Cd α){m:Nat}(hm:0<m)(v:Vector α m)(i:Int)(h:0≤i∧i<(m:Int)) :
  Qaf ((QQ c m hm).cs v) (i.toNat*c.sz) c (Qbb v i) (fun z=>(QQ c m hm).cs (Qb2 v i z)):=by
 have:=Qaf.all c v.toList i.toNat (by simp;omega)
 show Qaf (c.all v.toList) _ c (v.toList.getD i.toNat default) (fun z=>c.all (Qb2 v i z).toList)
 simp only [Qd4]
 exact this
theorem Qkf{b t:Nat}{cells:List Value}{w:World}(h:(Qi b cells t).ok w)(k:Nat)(v:Value)(hk:cells[k]? = some v):w.cell? ⟨b,k,none⟩=some v:=by
 simp only [Qi] at h
 simp [World.cell?,h,hk]
theorem Qp{b t o:Nat}{cells:List Value}{c:Cd β}{y:β}{put:β→List Value}{f:Ent→List Ent}{G:List Ent}(hu:Upd H (Qi b cells t) f G)(l:Qaf cells o c y put) :
  ∀ w,Wd w0 H w→∀ k v,(c.cs y)[k]? = some v→w.cell? ⟨b,o+k,none⟩=some v:=fun w hw k v hk=>Qkf (hw.ok hu.mem) _ _ (l.get k v hk)
theorem Qm{b t o:Nat}{cells:List Value}{c:Cd β}{y:β}{put:β→List Value}{f:Ent→List Ent}{G:List Ent}{v:Value}(hu:Upd H (Qi b cells t) f G)(l:Qaf cells o c y put)(hv:c.cs y=[v]) :
  ∀ w,Wd w0 H w→w.cell? ⟨b,o,none⟩=some v:=fun w hw=>Qp hu l w hw 0 v (by rw [hv];rfl)
section
variable {d : Nat} {ty : TypeId} {pos : String} {aft : Array Edge} {t e s : TypeId} {x y : Operand}
theorem Qa3{p:Addr}(hx:ev L x=some (.pointer (some p))):QdP n L W P (⟨some d,.nilCheck x,ty,pos,aft,none⟩) (.pointer (some p)):=fun a w h _=>by
 simp only [execOp,h.eval hx];rfl
theorem Q4{fs:Array Field}{f:Field}{j b o fo:Nat}(hs:P.underlying s=some (.struct fs))(hf:fs[j]? = some f)(hfo:f.offset=fo)(hz:∀ w,∃ m,(sizeOf f.type).run P w=.ok (m+1) w)(hx:ev L x=some (.pointer (some ⟨b,o,none⟩))) :
  QdP n L W P (⟨some d,.fieldAddr s x j,ty,pos,aft,none⟩) (.pointer (some ⟨b,o+fo,none⟩)):=fun a w h _=>by
 subst hfo
 obtain ⟨m,hm⟩:=hz w
 simp only [execOp,h.eval hx]
 simp [Instr.fieldAt,run_underlying hs,hf,Instr.sureAddr,fieldPlace,hm,Addr.add_lit]
theorem Qas{m sz b o:Nat}{k:IntKind}{i:Int}(ht:P.underlying t=some (.array m e))(hz:∀ w,(sizeOf e).run P w=.ok sz w)(hx:ev L x=some (.pointer (some ⟨b,o,none⟩)))(hy:ev L y=some (.int k i))(hi:0≤i∧i<(m:Int)) :
  QdP n L W P (⟨some d,.indexAddr t x y,ty,pos,aft,none⟩) (.pointer (some ⟨b,o+i.toNat*sz,none⟩)):=fun a w h _=>by
 simp only [execOp,h.eval hx,h.eval hy]
 simp [Instr.indexAt,asIntOf,run_underlying ht,Instr.sureAddr,hi.1,hi.2,hz,Addr.add_lit]
theorem Qg{b o:Nat}{c:Cd β}{z:β}(ha:∀ w,(isAgg t).run P w=.ok true w)(hz:∀ w,(sizeOf t).run P w=.ok c.sz w)(hx:ev L x=some (.pointer (some ⟨b,o,none⟩)))
  (hc:∀ w,W w→∀ j v,(c.cs z)[j]? = some v→w.cell? ⟨b,o+j,none⟩=some v) :
  QdP n L W P (⟨some d,.load t x,ty,pos,aft,none⟩) (.agg (c.cs z).toArray):=Qpc ha hz (c.len z) hx hc
theorem QjX{cells:List Value}{o:Nat}{c:Cd β}{y:β}{put:β→List Value}{v:Value}(l:Qaf cells o c y put)(ha:∀ w,(isAgg t).run P w=.ok false w)(hv:c.cs y=[v])(w:World):(part t cells.toArray o).run P w=.ok v w:=by
 have:=l.get 0 v (by rw [hv];rfl)
 simp only [Nat.add_zero] at this
 simp [part,ha,this]
theorem Qsy{cells:List Value}{o:Nat}{c:Cd β}{y:β}{put:β→List Value}(l:Qaf cells o c y put)(ha:∀ w,(isAgg t).run P w=.ok true w)(hz:∀ w,(sizeOf t).run P w=.ok c.sz w)(w:World) :
  (part t cells.toArray o).run P w=.ok (.agg (c.cs y).toArray) w:=by
 obtain ⟨p,q,he,hl,_⟩:=l
 have:List.take c.sz (List.drop o cells)=c.cs y:=by
  rw [he,←hl,←c.len y]
  simp
 simp [part,ha,hz,this]
theorem Qlm{m sz:Nat}{k:IntKind}{i:Int}{cells:List Value}{v:Value}(ht:P.underlying t=some (.array m e))(hz:∀ w,(sizeOf e).run P w=.ok sz w)(hx:ev L x=some (.agg cells.toArray))(hy:ev L y=some (.int k i))(hi:0≤i∧i<(m:Int))
  (hp:∀ w,(part e cells.toArray (i.toNat*sz)).run P w=.ok v w) :
  QdP n L W P (⟨some d,.index t x y,ty,pos,aft,none⟩) v:=fun a w h _=>by
 simp only [execOp,h.eval hx,h.eval hy]
 simp [Instr.index,asIntOf,run_underlying ht,hi.1,hi.2,hz,hp]
theorem Qn{b tb o:Nat}{cells:List Value}{c:Cd β}{u:β}{put:β→List Value}{z:β}{v:Value}{f:Ent→List Ent}{G:List Ent}(hu:Upd H (Qi b cells tb) f G)(l:Qaf cells o c u put)
  (hz:∀ w,(sizeOf t).run P w=.ok c.sz w) (hx:ev L x=some (.pointer (some ⟨b,o,none⟩))) (hy:ev L y=some v) (hv:v.cells=(c.cs z).toArray)
  (k:At n L (Wd w0 (f (Qi b (put z) tb))) (wpList P ops Q rest)) :
  At n L (Wd w0 H) (wpList P ops Q (⟨none,.store t x y,ty,pos,aft,none⟩::rest)) :=
 QrS (W':=Wd w0 (f (Qi b (put z) tb))) rfl rfl (fun a w h hw=>by
  have hok:w.heap[b]? = some (.cells cells.toArray tb (0,0)):=hw.ok hu.mem
  have hsz:=l.size
  have hst:=run_storeCells_at P b o tb (c.cs z) 0 cells.toArray w hok (by simp [c.len];omega) (c.one z)
  simp only [Nat.add_zero] at hst
  have hput:(cells.toArray.toList.take o++c.cs z++cells.toArray.toList.drop (o+(c.cs z).length)).toArray=(put z).toArray:=by
   rw [l.splice z,c.len]
  rw [hput] at hst
  refine ⟨w.setRow b (put z).toArray,?_,hw.upd hu ?_ rfl rfl rfl (fun k hk hk'=>?_) ?_ fun k hk=>.inl hk⟩
  ·simp only [execOp,h.eval hx,h.eval hy]
   simp [Instr.storeAt,Instr.sureAddr,storeVar,hz,hv,c.len,hst]
  ·exact Nat.le_of_eq (by simp [World.setRow])
  ·exact setRow_other w b k _ (by intro e;exact hk' (by rw [e];simp [Qi]))
  ·exact setRow_heap w b cells.toArray _ tb _ hok) k
theorem QaB{place:Nat→Option (Nat×Nat)}{cells:List Value}{i o:Nat}{c:Cd β}{y z:β}{put:β→List Value}{v:Value}{ps:List (Nat×Value)}{r:Option (Array Value)}
  (hp:place i=some (o,c.sz)) (l:Qaf cells o c y put) (hv:v.cells=(c.cs z).toArray) (k:Instr.fill place (put z).toArray ps=r):Instr.fill place cells.toArray ((i,v)::ps)=r:=by
 have hs:=l.size
 unfold Instr.fill
 simp only [hp,hv,List.size_toArray,c.len]
 rw [if_neg (by simp;omega)]
 have key:∀ (zs:List Value) (pre post:List Value) (k:Nat),pre.length=o+k→zs.length≤post.length →
   (zs.zipIdx k).foldl (fun (cs:Array Value) (p:Value×Nat)=>cs.setIfInBounds (o+p.2) p.1) (pre++post).toArray=(pre++zs++post.drop zs.length).toArray:=by
  intro zs
  induction zs with
  | nil=>intro pre post k _ _;simp
  | cons u zs ih =>
   intro pre post k hk hlen
   cases post with
   | nil=>simp at hlen
   | cons q post =>
    simp only [List.zipIdx_cons,List.foldl_cons]
    have:(pre++q::post).toArray.setIfInBounds (o+k) u=((pre++[u])++post).toArray:=by
     rw [List.setIfInBounds_toArray,←hk,List.set_append_right _ _ (Nat.le_refl _)];simp
    rw [this,ih (pre++[u]) post (k+1) (by simp;omega) (by simpa using hlen)]
    simp
 have e1:cells=cells.take o++cells.drop o:=(List.take_append_drop o cells).symm
 have h2:=key (c.cs z) (cells.take o) (cells.drop o) 0 (by simp;omega) (by simp [c.len];omega)
 rw [←e1] at h2
 have h3:(c.cs z).toArray.zipIdx.foldl (fun (cs:Array Value) (p:Value×Nat)=>cs.setIfInBounds (o+p.2) p.1) cells.toArray=(put z).toArray:=by
  have h4:(c.cs z).toArray.zipIdx.toList=(c.cs z).zipIdx:=by simp
  rw [←Array.foldl_toList,h4,h2,l.splice z]
  simp [c.len,Nat.add_comm]
 rw [show (fun (cs:Array Value) (x:Value×Nat)=>match x with | (c,j)=>cs.setIfInBounds (o+j) c)=(fun (cs:Array Value) (p:Value×Nat)=>cs.setIfInBounds (o+p.2) p.1) from rfl]
 rw [h3]
 exact k
theorem Qw{fs:Array Field}{places:Array (Nat×Nat)}{QM:List (Nat×Operand)}{vs:List (Nat×Value)}{z:Value}{zs cs:List Value}(hs:P.underlying t=some (.struct fs))(hz:∀ w,(zeroValue t).run P w=.ok z w)(hzc:z.cells=zs.toArray)
  (hpl:∀ w,(fs.mapM fun f=>(do pure (f.offset,←sizeOf f.type):Sem (Nat×Nat))).run P w=.ok places w) (hx:evp L QM=some vs)
  (hf:Instr.fill (places[·]?) zs.toArray vs=some cs.toArray) :
  QdP n L W P (⟨some d,.build t QM.toArray,ty,pos,aft,none⟩) (.agg cs.toArray):=fun a w h _=>by
 have hev:=h.evalp hx
 simp only [execOp,List.map_toArray]
 rw [show List.map (fun (x:Nat×Operand)=>match x with | (i,x)=>(i,a.eval x)) QM=vs from hev]
 simp only [Instr.build,Sem.run_bind,hz,Result.andThen_ok,run_underlying hs,hzc,hpl,hf]
 rfl
theorem Qb3{m sz:Nat}{QM:List (Nat×Operand)}{vs:List (Nat×Value)}{z:Value}{zs cs:List Value}(hs:P.underlying t=some (.array m e))(hz:∀ w,(zeroValue t).run P w=.ok z w)(hzc:z.cells=zs.toArray)
  (hsz:∀ w,(sizeOf e).run P w=.ok sz w) (hx:evp L QM=some vs)
  (hf:Instr.fill (fun i=>some (i*sz,sz)) zs.toArray vs=some cs.toArray) :
  QdP n L W P (⟨some d,.build t QM.toArray,ty,pos,aft,none⟩) (.agg cs.toArray):=fun a w h _=>by
 have hev:=h.evalp hx
 simp only [execOp,List.map_toArray]
 rw [show List.map (fun (x:Nat×Operand)=>match x with | (i,x)=>(i,a.eval x)) QM=vs from hev]
 simp only [Instr.build,Sem.run_bind,hz,Result.andThen_ok,run_underlying hs,hzc,hsz,hf]
 rfl
end
def vOf(agg:Bool)(cs:List Value):Value:=if agg then .agg cs.toArray else cs.headD undef
def Eqs[DecidableEq α](P:Program)(t:TypeId)(c:Cd α)(agg:Bool)(k:Nat):Prop :=
 ∀ d,k≤d→∀ x y w,(Op.equalIn (d+1) t (vOf agg (c.cs x)) (vOf agg (c.cs y))).run P w=.ok (decide (x=y)) w
theorem QeX{t:TypeId}{k:IntKind}(ht:P.underlying t=some (.int k)):Eqs P t (Qv k) false 0:=fun d _ x y w=>by
 have:=run_equalIn_int (P:=P) w d t k k x y ht
 show (Op.equalIn (d+1) t (.int k x) (.int k y)).run P w=_
 rw [this];congr 1
theorem Qfw{t:TypeId}{agg:Bool}{cells:List Value}{o:Nat}{c:Cd β}{y:β}{put:β→List Value}(l:Qaf cells o c y put)(ha:∀ w,(isAgg t).run P w=.ok agg w)(hz:∀ w,(sizeOf t).run P w=.ok c.sz w)(h1:agg=true∨c.sz=1)(w:World) :
  (part t cells.toArray o).run P w=.ok (vOf agg (c.cs y)) w:=by
 cases agg with
 | true=>exact Qsy l ha hz w
 | false =>
  have hs:c.sz=1:=by simpa using h1
  obtain ⟨u,hu⟩:∃ u,c.cs y=[u]:=by
   have:=c.len y;rw [hs] at this
   exact List.length_eq_one_iff.1 this
  have:=QjX (P:=P) (t:=t) (v:=u) l ha hu w
  rw [this,hu];rfl
theorem Qgb[DecidableEq α]{t e:TypeId}{c:Cd α}{m k:Nat}{hm:0<m}{agg:Bool}{i:TypeInfo}(ht:P.underlying t=some (.array m e))(hi:P.info? e=some i)(hz:∀ w,(sizeOf e).run P w=.ok c.sz w)(ha:∀ w,(isAgg e).run P w=.ok agg w)(h1:agg=true∨c.sz=1)(h:Eqs P e c agg k) :
  Eqs P t (QQ c m hm) true (k+1):=fun d hd x y w=>by
 obtain ⟨d,rfl⟩:∃ d',d=d'+1:=⟨d-1,by omega⟩
 have hcz:P.cellsOf e=c.sz:=by
  have a:=run_sizeOf (P:=P) w hi
  have b:=hz w
  rw [a] at b
  simpa using b
 have hpart:∀ (v:Vector α m) (j:Nat) (hj:j<m) (w:World),(part e (c.all v.toList).toArray (j*c.sz)).run P w=.ok (vOf agg (c.cs v[j])) w:=by
  intro v j hj w
  have l:=@Qaf.all α ⟨v[j]⟩ c v.toList j (by simp;exact hj)
  have hv:v.toList.getD j (@default α ⟨v[j]⟩)=v[j]:=by simp [List.getD_eq_getElem?_getD,hj]
  rw [hv] at l
  exact Qfw l ha hz h1 w
 have key:∀ (is:List Nat),(∀ j∈is,j<m)→∀ w,(Op.eqItems (d+1) e c.sz (c.all x.toList).toArray (c.all y.toList).toArray is).run P w=.ok (decide (∀ j∈is,x[j]? = y[j]?)) w:=by
  intro is
  induction is with
  | nil=>intro _ w;simp [Op.eqItems]
  | cons j is ih =>
   intro hlt w
   have hj:j<m:=hlt j (List.mem_cons_self ..)
   have ih':=ih (fun k hk=>hlt k (List.mem_cons_of_mem _ hk)) w
   unfold Op.eqItems
   simp only [Sem.run_bind,hpart x j hj,hpart y j hj,Result.andThen_ok,h d (by omega)]
   by_cases hxy:x[j]=y[j]
   ·simp only [hxy,decide_true,Bool.not_true,Bool.false_eq_true,if_false,ih']
    congr 1
    rw [decide_eq_decide]
    simp [hj,hxy]
   ·have:¬ ∀ k∈j::is,x[k]? = y[k]?:=fun hh=>hxy (by have:=hh j (List.mem_cons_self ..);simpa [hj] using this)
    simp [hxy,this,hj]
 show (Op.equalIn (d+1+1) t (.agg (c.all x.toList).toArray) (.agg (c.all y.toList).toArray)).run P w=_
 rw [run_equalIn_array w (d+1) _ _ ht hi,hcz,key _ (fun j hj=>List.mem_range.1 hj) w]
 congr 1
 rw [decide_eq_decide]
 constructor
 ·intro hh
  apply Vector.ext
  intro j hj
  have:=hh j (List.mem_range.2 hj)
  simpa [hj] using this
 ·rintro rfl;simp
theorem QnL{d:Nat}{xs ys:Array Value}{w:World}:(Op.eqFields d xs ys []).run P w=.ok true w:=rfl
theorem Qhh[DecidableEq β]{f : Field}{fs : List Field}{d k o : Nat}{agg q : Bool}{c : Cd β}{cx cy : List Value}{a b : β}{px py : β → List Value}{w : World}(lx : Qaf cx o c a px)(ly : Qaf cy o c b py)(hn : (f.name == "_") = false)(ho : f.offset = o)
  (ha:∀ w,(isAgg f.type).run P w=.ok agg w) (hz:∀ w,(sizeOf f.type).run P w=.ok c.sz w) (h1:agg=true∨c.sz=1) (he:Eqs P f.type c agg k) (hd:k≤d) (hr:(Op.eqFields (d+1) cx.toArray cy.toArray fs).run P w=.ok q w) :
  (Op.eqFields (d+1) cx.toArray cy.toArray (f::fs)).run P w=.ok (decide (a=b)&&q) w:=by
 have hn' : f.name ≠ "_" := by simpa using hn
 subst ho
 unfold Op.eqFields
 simp only [if_pos hn',Sem.run_bind,Qfw lx ha hz h1,Qfw ly ha hz h1,Result.andThen_ok,he d hd]
 by_cases hab:a=b
 ·simp [hab,hr]
 ·simp [hab]
theorem QdR[DecidableEq α]{op:BinOp}{xt yt:TypeId}{x y:Operand}{c:Cd α}{a b:α}{k d:Nat}{ty:TypeId}{pos:String}{aft:Array Edge}{v:Value}(he:Eqs P xt c true k)(hk:Nat.ble k 9999=true)(hm:P.eqGuardType P.depth xt=false)(hx:ev L x=some (.agg (c.cs a).toArray))(hy:ev L y=some (.agg (c.cs b).toArray))
  (ho:op=.eql∨op=.neq) (hv:(match op with | .eql=>Value.bool (decide (a=b)) | _=>.bool (!decide (a=b)))=v) :
  QdP n L W P ⟨some d,.binOp op xt x y yt,ty,pos,aft,none⟩ v:=fun ac w h _=>by
 subst hv
 have h1:(Op.equal xt (.agg (c.cs a).toArray) (.agg (c.cs b).toArray)).run P w=.ok (decide (a=b)) w:=he 9999 (by simpa using hk) a b w
 simp only [execOp,h.eval hx,h.eval hy,Sem.run_bind,run_eqGuard_agg w op xt x y _ _ hm,Result.andThen_ok]
 rcases ho with rfl | rfl<;>simp only [binOp,Sem.run_bind,h1,Result.andThen_ok]<;>rfl
def Qvm(tmps:Array Value):ResultVar→Sem Value
 | .tmp t=>pure (tmps.getD t undef)
 | .cell a t=>do loadVar t (←asAddr (tmps.getD a undef))
def Qm5(n:Nat)(L:List (Nat×Value))(W:World→Prop)(P:Program)(r:ResultVar)(v:Value):Prop:=∀ a w,Env n L a→W w→(Qvm a.tmps r).run P w=.ok v w
theorem QS{t:Nat}{v:Value}(h:lk L t=some v):Qm5 n L W P (.tmp t) v:=fun a w he _=>by
 simp [Qvm,he.vals t v h]
theorem QE{q t b:Nat}{cells:List Value}{tb:Nat}{c:Cd β}{y:β}{put:β→List Value}{f:Ent→List Ent}{G:List Ent}(hq:lk L q=some (.pointer (some ⟨b,0,none⟩)))(hu:Upd H (Qi b cells tb) f G)(l:Qaf cells 0 c y put){agg:Bool}
  (ha:∀ w,(isAgg t).run P w=.ok agg w) (hz:∀ w,(sizeOf t).run P w=.ok c.sz w) (h1:agg=true∨c.sz=1):Qm5 n L (Wd w0 H) P (.cell q t) (vOf agg (c.cs y)):=fun a w he hw=>by
 have hc:=Qp hu l w hw
 simp only [Qvm,he.vals q _ hq]
 cases agg with
 | true =>
  have:=run_loadCells_list (P:=P) (w:=w) ⟨b,0,none⟩ (c.cs y) (fun j v hv=>by rw [Addr.add_lit];exact hc j v hv)
  rw [c.len] at this
  simp [loadVar,ha,hz,this,vOf,asAddr]
 | false =>
  have hs:c.sz=1:=by simpa using h1
  obtain ⟨u,hu⟩:∃ u,c.cs y=[u]:=by
   have:=c.len y;rw [hs] at this
   exact List.length_eq_one_iff.1 this
  have h0:=hc 0 u (by rw [hu];rfl)
  simp only [Nat.add_zero] at h0
  simp [loadVar,ha,load,Sem.run,h0,vOf,asAddr,hu]
theorem Qd9{fn:Func}{R:Ending→World→Prop}{r:ResultVar}{v:Value}(hr:fn.results=#[r])(h:Qm5 n L W P r v)(hR:∀ w,W w→R (.returned v) w):At n L W (bodyPost P fn R .ret):=fun a w he hw=>by
 refine ⟨he.defs,v,?_,hR w hw⟩
 have:=h a w he hw
 show (do let vs ← fn.results.mapM (Qvm a.tmps);pure (if h:vs.size=1 then vs[0] else .tuple vs):Sem Value).run P w=_
 rw [hr];simp [this]
theorem QU{fn:Func}{R:Ending→World→Prop}{r s:ResultVar}{v u:Value}(hr:fn.results=#[r,s])(h:Qm5 n L W P r v)(h2:Qm5 n L W P s u)(hR:∀ w,W w→R (.returned (.tuple #[v,u])) w):At n L W (bodyPost P fn R .ret):=fun a w he hw=>by
 refine ⟨he.defs,_,?_,hR w hw⟩
 have:=h a w he hw
 have:=h2 a w he hw
 show (do let vs ← fn.results.mapM (Qvm a.tmps);pure (if h:vs.size=1 then vs[0] else .tuple vs):Sem Value).run P w=_
 rw [hr];simp [*]
theorem Qlb{c:Cd α}{m b t:Nat}{hm:0<m}{v:Vector α m}{w:World}(h:(Qi b ((QQ c m hm).cs v) t).ok w):Row c w (some ⟨b,0,none⟩) m v.toList:=by
 have:=QgZ (c:=c) (ys:=v.toList) h
 simpa using this
theorem Qni{b m sz d:Nat}{t e:TypeId}{x:Operand}{ty:TypeId}{pos:String}{aft:Array Edge}(ht:P.underlying t=some (.array m e))(hz:∀ w,(sizeOf e).run P w=.ok sz w)(hx:ev L x=some (.pointer (some ⟨b,0,none⟩))) :
  QdP n L W P (⟨some d,.slice t x none none none,ty,pos,aft,none⟩) (.slice (some ⟨b,0,none⟩) m m):=fun a w h _=>by
 simp only [execOp,h.eval hx]
 by_cases h0:m=0
 ·subst h0;simp [Instr.sliceAt,Instr.sureAddr,Instr.sliceBounds,run_underlying ht,hz]
 ·simp [Instr.sliceAt,Instr.sureAddr,Instr.sliceBounds,run_underlying ht,hz,h0,Addr.add]
def Qjc[Inhabited α](m:Nat)(xs:List α):Vector α m:=Vector.ofFn fun i=>xs.getD i.1 default
theorem Qda[Inhabited α](m:Nat)(xs:List α)(h:m≤xs.length):(Qjc m xs).toList=xs.take m:=by
 apply List.ext_getElem?
 intro i
 by_cases hi:i<m
 ·rw [List.getElem?_take,if_pos hi,List.getElem?_eq_getElem (by simp;exact hi),List.getElem?_eq_getElem (by omega)]
  simp [Qjc,List.getD_eq_getElem?_getD,List.getElem?_eq_getElem (show i<xs.length by omega)]
 ·rw [List.getElem?_take,if_neg hi,List.getElem?_eq_none (by simp;omega)]
theorem Qln{d m:Nat}{t e:TypeId}{x:Operand}{p:Option Addr}{len cap:Nat}{ty:TypeId}{pos:String}{aft:Array Edge}(ht:P.underlying t=some (.array m e))(hx:ev L x=some (.slice p len cap))(hl:m≤len) :
  QdP n L W P (⟨some d,.sliceToArrayPointer t x,ty,pos,aft,none⟩) (.pointer p):=fun a w h _=>by
 have hl':¬ len<m:=by omega
 simp only [execOp,h.eval hx]
 simp [Instr.arrayAt,run_underlying ht,hl']
theorem Qlh[Inhabited α]{c:Cd α}{p:Option Addr}{cap m b o:Nat}{hm:0<m}{xs:List α}{w:World}(h:Row c w p cap xs)(hl:m≤xs.length)(hp:p=some ⟨b,o,none⟩):∀ j v,((QQ c m hm).cs (Qjc m xs))[j]? = some v→w.cell? ⟨b,o+j,none⟩=some v:=fun j v hv=>by
 rcases h.2 with h0 | ⟨b',o',hp',hc⟩
 ·subst h0;simp at hl;omega
 ·rw [hp] at hp';cases hp'
  refine hc j v ?_
  have:c.all xs=c.all (xs.take m)++c.all (xs.drop m):=by rw [←c.all_append,List.take_append_drop]
  have hv':(c.all (xs.take m))[j]? = some v:=by rw [←Qda m xs hl];exact hv
  rw [this,List.getElem?_append_left (List.getElem?_eq_some_iff.1 hv').1]
  exact hv'
theorem Qfk{b m sz d:Nat}{t e:TypeId}{x:Operand}{ty:TypeId}{pos:String}{aft:Array Edge}(v:Vector α m)(ht:P.underlying t=some (.array m e))(hz:∀ w,(sizeOf e).run P w=.ok sz w)(hx:ev L x=some (.pointer (some ⟨b,0,none⟩))) :
  QdP n L W P (⟨some d,.slice t x none none none,ty,pos,aft,none⟩) (.slice (some ⟨b,0,none⟩) v.toList.length m):=by
 rw [Vector.length_toList];exact Qni ht hz hx
theorem Qf2{d:Nat}{t:TypeId}{fs:Array Field}{xs ys:Array Value}{w:World}(ht:P.underlying t=some (.struct fs))(hp:P.stoodInHeld t=false) :
  (Op.equalIn (d+1) t (.agg xs) (.agg ys)).run P w=(Op.eqFields d xs ys fs.toList).run P w:=by
 have hf:P.fieldsOf t=fs:=by simp [Program.fieldsOf,ht]
 rw [run_equalIn_struct w d t xs ys (by rw [hf];exact ht) hp,hf]
def unb(xs:List Int):List UInt8:=xs.map fun x=>x.toNat.toUInt8
theorem Qkh{p:Option Addr}{cap:Nat}{xs:List Int}{w:World}(h:Row (Qv .u8) w p cap xs):(Extern.Bytes.bytesOf (.slice p xs.length cap)).run P w=.ok ⟨(unb xs).toArray⟩ w:=by
 rcases h.2 with h0 | ⟨b,o,hp,hc⟩
 ·subst h0;cases p<;>rfl
 ·subst hp
  have:=Lib.run_loadBytesX (P:=P) (w:=w) xs ⟨b,o,none⟩ .empty (fun j x hx=>by
   rw [Addr.add_lit]
   have:=Cd.all_get (Qv .u8) xs j 0 x hx (by decide)
   refine hc j _ ?_
   have e:j*(Qv IntKind.u8).sz+0=j:=by show j*1+0=j;omega
   rw [e] at this
   rw [this];rfl)
  show (Extern.Bytes.loadBytes _ _ _).run P w=_
  rw [this]
  simp [unb,Lib.bytesOf]
theorem Qwr{d : Nat}{f : FuncId}{fn : Func}{x y : Operand}{ats : Array TypeId}{ty : TypeId}{pos : String}{aft : Array Edge}{p q : Option Addr}{pc qc : Nat}{xs ys : List Int}(hf : P.funcs[f]? = some fn)(hnm : (fn.name == "runtime.NumGoroutine") = false)(hb : fn.body.isNone = true)
  (hn:Extern.findNext fn=none) (he:Extern.find fn=some Extern.BytealgCompare.compare) (hx:ev L x=some (.slice p xs.length pc)) (hy:ev L y=some (.slice q ys.length qc))
  (h1:∀ w,W w→Row (Qv .u8) w p pc xs) (h2:∀ w,W w→Row (Qv .u8) w q qc ys) :
  QdP n L W P (⟨some d,.call { callee:=.value (.func f),args:=#[x,y],argTypes:=ats },ty,pos,aft,none⟩) (.int .i64 (Lib.compareBytes (unb xs) (unb ys))):=fun a w h hw=>by
 rw [execOp_call_go]
 have h3:=Qkh (P:=P) (h1 w hw)
 have h4:=Qkh (P:=P) (h2 w hw)
 have:=run_callFunc_extern (P:=P) hf hnm hb hn he #[.slice p xs.length pc,.slice q ys.length qc] w
 have e1:(#[]++Array.map a.eval #[x,y]++#[]:Array Value)=#[.slice p xs.length pc,.slice q ys.length qc]:=by simp [h.eval hx,h.eval hy]
 rw [e1,this]
 show (Sem.run P (do pure (goInt (Extern.BytealgCompare.cmp (←Extern.Bytes.bytesOf (.slice p xs.length pc)) (←Extern.Bytes.bytesOf (.slice q ys.length qc))))) w).andThen _=_
 simp only [Sem.run_bind,h3,h4,Result.andThen_ok,Sem.run_pure,Lib.cmp_eq]
 rfl
theorem Qsk{α β:Type}[Inhabited α]{w0:World}{W:World→Prop}{c:Cd α}{c':Cd β}{y:β}{put:β→List Value}{ofs:Nat}{p:Option Addr}{cap:Nat}{xs:List α}{i:Int}{b o:Nat}(hW:∀ w,W w→Below w0.heap.size w0 w)(hrow:Row c w0 p cap xs)(hi:0≤i∧i<xs.length)(hp:p=some ⟨b,o,none⟩)
  (l:Qaf (c.cs (QO xs i)) ofs c' y put):∀ w,W w→∀ j v,(c'.cs y)[j]? = some v→w.cell? ⟨b,o+i.toNat*c.sz+ofs+j,none⟩=some v:=fun w hw j v hv=>by
 rw [Nat.add_assoc (o+i.toNat*c.sz)]
 exact QdB hW hrow hi hp w hw (ofs+j) v (l.get j v hv)
end Go.Proofs.YtnekckhjmnhinaaGreatDoor.E
namespace Go.Proofs.YtnekckhjmnhinaaGreatDoor.E
open Go.RowKit
variable {n : Nat} {L L' : List (Nat × Value)} {a : Act} {W : World → Prop} {P : Program} {ops : Array Oper} {Q : Exit → Act → World → Prop} {rest : List Oper} {w0 : World} {H : List Ent}
section
variable {d : Nat} {ty : TypeId} {pos : String} {aft : Array Edge} {t e : TypeId}
theorem Qp3{P:Program}{w w':World}{name:String}{cs:Array Value}(h:w.var? P name=some cs)(hb:Below w.heap.size w w'):w'.var? P name=some cs:=by
 unfold World.var? at *
 cases hg:P.globalNamed name with
 | none=>simp [hg] at h
 | some g =>
  simp only [hg,Option.bind_some] at h ⊢
  have hlt:g<w.heap.size:=by
   rcases Nat.lt_or_ge g w.heap.size with h' | h'
   ·exact h'
   ·rw [Array.getElem?_eq_none h'] at h;simp at h
  rw [hb.block g hlt];exact h
def Gv{α:Type}(P:Program)(w:World)(name:String)(c:Cd α)(x:α):Prop:=w.var? P name=some (c.cs x).toArray
theorem Gv.on{α:Type}{P:Program}{w w':World}{name:String}{c:Cd α}{x:α}(h:Gv P w name c x)(hb:Below w.heap.size w w'):Gv P w' name c x:=Qp3 h hb
theorem Gv.cell{α:Type}{P:Program}{w:World}{name:String}{g:Nat}{c:Cd α}{x:α}(hg:P.globalNamed name=some g)(h:Gv P w name c x)(k:Nat)(v:Value)(hv:(c.cs x)[k]? = some v):w.cell? ⟨g,k,none⟩=some v:=by
 rw [World.var?_cell hg h k];simpa using hv
def QtF(P:Program)(w:World)(name:String):Prop:=∃ tp p,w.var? P name=some #[.iface tp p]
theorem QtF.on{P:Program}{w w':World}{name:String}(h:QtF P w name)(hb:Below w.heap.size w w'):QtF P w' name:=let ⟨tp,p,h⟩:=h;⟨tp,p,Qp3 h hb⟩
theorem Qrt{α β:Type}{name:String}{g o:Nat}{c:Cd α}{x:α}{c':Cd β}{y:β}{put:β→List Value}(hW:∀ w,W w→Below w0.heap.size w0 w)(h:Gv P w0 name c x)(hg:P.globalNamed name=some g)
  (l:Qaf (c.cs x) o c' y put):∀ k v,(c'.cs y)[k]? = some v→∀ w,W w→w.cell? ⟨g,o+k,none⟩=some v:=fun k v hv w hw =>
 (h.on (hW w hw)).cell hg _ _ (l.get k v hv)
theorem QpE{α β:Type}{name:String}{g o:Nat}{c:Cd α}{x:α}{c':Cd β}{y:β}{put:β→List Value}{v:Value}(hW:∀ w,W w→Below w0.heap.size w0 w)(h:Gv P w0 name c x)(hg:P.globalNamed name=some g)
  (l:Qaf (c.cs x) o c' y put) (hv:c'.cs y=[v]):∀ w,W w→w.cell? ⟨g,o,none⟩=some v:=Qrt hW h hg l 0 v (by simp [hv])
def QtG(v:Value)(b:Bool):Prop:=(b=false∧v=.nilIface)∨(b=true∧∃ t x,v=.iface t x)
theorem QnM{v:Value}{b:Bool}(hv:QtG v b)(op:BinOp)(t:TypeId)(x:Operand)(w:World):(eqGuard op t x (.const .nilIface) v .nilIface).run P w=.ok () w:=by
 rcases hv with ⟨_,rfl⟩ | ⟨_,u,z,rfl⟩
 ·cases op<;>cases x<;>rfl
 ·cases op<;>rfl
theorem QjK{v:Value}{b:Bool}{ms:Array (String×TypeId)}(ht:P.underlying t=some (.interface ms))(hv:QtG v b)(d:Nat)(w:World):(Op.equalIn (d+1) t v .nilIface).run P w=.ok (!b) w:=by
 unfold Op.equalIn
 simp only [Sem.run_bind,run_underlying ht,Result.andThen_ok]
 rcases hv with ⟨rfl,rfl⟩ | ⟨rfl,u,z,rfl⟩<;>rfl
theorem Qlg{v:Value}{b:Bool}{ms:Array (String×TypeId)}(ht:P.underlying t=some (.interface ms))(hv:QtG v b)(w:World):(Op.equal t v .nilIface).run P w=.ok (!b) w:=QjK ht hv 9999 w
theorem Qvq{op:BinOp}{xt yt:TypeId}{x:Operand}{v u:Value}{b:Bool}{ms:Array (String×TypeId)}(ht:P.underlying xt=some (.interface ms))(hx:ev L x=some v)(hv:QtG v b)
  (ho:op=.eql∨op=.neq) (hu:(match op with | .eql=>Value.bool (!b) | _=>.bool (!(!b)))=u) :
  QdP n L W P ⟨some d,.binOp op xt x (.const .nilIface) yt,ty,pos,aft,none⟩ u:=fun a w h _=>by
 subst hu
 have hy:a.eval (.const .nilIface)=.nilIface:=h.eval (L:=L) rfl
 simp only [execOp,h.eval hx,hy,Sem.run_bind,QnM hv,Result.andThen_ok]
 rcases ho with rfl | rfl<;>simp only [binOp,Sem.run_bind,Qlg ht hv,Result.andThen_ok]<;>rfl
def QlE(b:Nat)(s:ByteArray)(pos:Nat):Ent:=⟨[b],fun w=>w.heap[b]? = some (.stringIter s pos),fun _ _ h hk=>(h b (by simp)).trans hk⟩
theorem Qs8{x:Operand}{s:ByteArray}(ht:P.underlying t=some .string)(hx:ev L x=some (.string s))(hdn:Nat.blt d n=true)
  (k:∀ b,At n ((d,.pointer (some ⟨b,0,none⟩))::L) (Wd w0 (QlE b s 0::H)) (wpList P ops Q rest)) :
  At n L (Wd w0 H) (wpList P ops Q (⟨some d,.range t x,ty,pos,aft,none⟩::rest)) :=
 Qgp (W':=fun v w'=>∃ b,v=.pointer (some ⟨b,0,none⟩)∧Wd w0 (QlE b s 0::H) w') rfl rfl hdn (fun a w h hw=>by
  refine ⟨_,w.alloc (.stringIter s 0),?_,w.heap.size,rfl,hw.push ((Below.refl _ _).alloc (Nat.le_refl _) _) ?_ ?_⟩
  ·simp [execOp,h.eval hx,Instr.range,run_underlying ht,newObj,Sem.run]
  ·exact heap_alloc_new w _
  ·intro k hk;simp [QlE] at hk;subst hk;simp) fun v a w h ⟨b,hv,hw⟩=>by subst hv;exact k b a w h hw
abbrev Qjf(s:ByteArray)(pos:Nat):Int:=(Utf8.decode s pos).1
abbrev QrE(s:ByteArray)(pos:Nat):Nat:=pos+(Utf8.decode s pos).2
theorem QuH{x:Operand}{s:ByteArray}{b p:Nat}{f:Ent→List Ent}{G:List Ent}(hu:Upd H (QlE b s p) f G)(hx:ev L x=some (.pointer (some ⟨b,0,none⟩)))(hdn:Nat.blt d n=true)(hp:decide (p<s.size)=true)
  (k:At n ((d,.tuple #[.bool true,.int .i64 p,.int .i32 (Qjf s p)])::L) (Wd w0 (f (QlE b s (QrE s p)))) (wpList P ops Q rest)) :
  At n L (Wd w0 H) (wpList P ops Q (⟨some d,.next x true,ty,pos,aft,none⟩::rest)) :=
 Qgp (W':=fun v w'=>v=.tuple #[.bool true,.int .i64 p,.int .i32 (Qjf s p)]∧Wd w0 (f (QlE b s (QrE s p))) w') rfl rfl hdn (fun a w h hw=>by
  have hok:w.heap[b]? = some (.stringIter s p):=hw.ok hu.mem
  refine ⟨_,w.iterAt b s (QrE s p),?_,rfl,hw.upd hu ?_ rfl rfl rfl (fun k hk hk'=>?_) ?_ fun k hk=>.inl hk⟩
  ·have:=Lib.run_next_any_at (P:=P) w b s p ty hok (of_decide_eq_true hp)
   simp [execOp,h.eval hx,this]
  ·exact Nat.le_of_eq (Lib.iterAt_size ..).symm
  ·exact Lib.iterAt_other w b k s _ (by intro e;exact hk' (by rw [e];simp [QlE]))
  ·exact Lib.iterAt_heap w b s p _ hok) fun v a w h ⟨hv,hw⟩=>by subst hv;exact k a w h hw
theorem QuG{x:Operand}{s:ByteArray}{b p:Nat}{f:Ent→List Ent}{G:List Ent}(hu:Upd H (QlE b s p) f G)(hx:ev L x=some (.pointer (some ⟨b,0,none⟩)))(hdn:Nat.blt d n=true)(hp:decide (p<s.size)=false)
  (k:At n ((d,.tuple #[.bool false])::L) (Wd w0 H) (wpList P ops Q rest)) :
  At n L (Wd w0 H) (wpList P ops Q (⟨some d,.next x true,ty,pos,aft,none⟩::rest)) :=
 Qgp (W':=fun v w'=>v=.tuple #[.bool false]∧Wd w0 H w') rfl rfl hdn (fun a w h hw=>by
  have hok:w.heap[b]? = some (.stringIter s p):=hw.ok hu.mem
  refine ⟨_,w,?_,rfl,hw⟩
  have:=Lib.run_next_end_at (P:=P) w b s p ty hok (of_decide_eq_false hp)
  simp [execOp,h.eval hx,this]) fun v a w h ⟨hv,hw⟩=>by subst hv;exact k a w h hw
theorem Ql5:∀ (xs:List Int) (r:ByteArray),xs.foldl (fun r n=>r.push (UInt8.ofNat n.toNat)) r=⟨r.data++(unb xs).toArray⟩
 | [],r=>by simp [unb]
 | b::l,r=>by
  rw [List.foldl_cons,Ql5 l]
  simp [unb,ByteArray.push]
theorem Qmw{s:TypeId}{x:Operand}{p:Option Addr}{cap:Nat}{xs:List Int}(hs:P.underlying s=some (.slice e))(he:P.underlying e=some (.int .u8))(ht:P.underlying t=some .string)(hx:ev L x=some (.slice p xs.length cap))
  (hr:∀ w,W w→Row (Qv .u8) w p cap xs):QdP n L W P ⟨some d,.convert s t x,ty,pos,aft,none⟩ (.string ⟨(unb xs).toArray⟩):=fun a w h hw=>by
 have hcv:(convert s t (.slice p xs.length cap)).run P w=.ok (.string ⟨(unb xs).toArray⟩) w:=by
  rcases (hr w hw).2 with h0 | ⟨b,o,hp,hc⟩
  ·subst h0
   rw [run_convert_bytes_string w s t e p ([]:List Int).length cap hs he ht]
   cases p<;>rfl
  ·subst hp
   rw [run_convert_bytes_string w s t e (some ⟨b,o,none⟩) xs.length cap hs he ht]
   have hl:=run_loadCells_list (P:=P) w ⟨b,o,none⟩ (xs.map (Value.int .u8)) (fun j v hj=>by
    rw [Addr.add_lit]
    refine hc j v ?_
    have e1:(Qv .u8).all xs=xs.map (Value.int .u8):=by
     show xs.flatMap (fun n=>[Value.int .u8 n])=_
     rw [List.map_eq_flatMap]
    rw [e1];exact hj)
   simp only [List.length_map] at hl
   rw [run_bytesToString w ⟨b,o,none⟩ xs.length cap _ hl,Ql5]
   have he0:ByteArray.empty.data=#[]:=rfl
   rw [he0]
   simp
 simp only [execOp,h.eval hx,Sem.run_bind,hcv,Result.andThen_ok]
 rfl
theorem QoX{f : FuncId}{fn : Func}{xs : List Operand}{ats : Array TypeId}{l : List Value}{v : Value}{b : Bool}(hf : P.funcs[f]? = some fn)(hb : fn.body.isSome = true)(hnm : (fn.name == "runtime.NumGoroutine") = false)
  (hx:evs L xs=some l) (hdn:Nat.blt d n=true) (hc:∀ w,Wd w0 H w→Calls P f l.toArray w fun e w'=>∃ u,e=.returned (.tuple #[v,u])∧QtG u b∧Below w.heap.size w w')
  (kk:∀ u,QtG u b→At n ((d,.tuple #[v,u])::L) (Wd w0 H) (wpList P ops Q rest)) :
  At n L (Wd w0 H) (wpList P ops Q (⟨some d,.call { callee:=.value (.func f),args:=xs.toArray,argTypes:=ats },ty,pos,aft,none⟩::rest)) :=
 QeZ (W':=fun x w'=>∃ u,x=.tuple #[v,u]∧QtG u b∧Wd w0 H w') hf hb hnm hx hdn (fun w hw=>(hc w hw).mono fun e w' ⟨u,he,hu,hw'⟩=>⟨_,he,u,rfl,hu,hw.call hw'⟩) fun x a w h hw=>by
  obtain ⟨u,rfl,hu,hw⟩:=hw
  exact kk u hu a w h hw
end
def Qga(n:Int):ByteArray:=⟨(Lib.decDigits n.toNat).toArray⟩
def Qol(s:ByteArray):Int×Bool:=match Lib.parseUintB 64 s.data.toList with
 | .ok u=>((u:Int),false)
 | .range=>(18446744073709551615,true)
 | _=>(0,true)
def QrZ(P:Program)(w:World)(n:String)(d:DataW Unit):Prop :=
 ∃ g t cs k q,P.globalNamed n=some g∧(P.globals[g]?).map (·.type)=some t∧w.var? P n=some cs∧DataW.trod (fun _=>()) P w 0 (fun _=>true) false k t cs.toList=some (d,q)
theorem Qmr{P:Program}{w:World}:∀ {l:List (String×DataW Unit)} {ps:List MemPlace},DataW.LaidVars P w l ps→∀ {n d},(n,d)∈l→QrZ P w n d
 | [],_,_,_,_,hm=>by cases hm
 | (_,_)::_,_,⟨g,t,cs,k,q,_,h1,h2,h3,h4,h5,_⟩,_,_,hm=>by
  cases hm with
  | head=>exact ⟨g,t,cs,k,q,h1,h2,h3,h4⟩
  | tail _ hm=>exact Qmr h5 hm
theorem Qg9{P:Program}{w:World}{l:List (String×DataW Unit)}(h:laidMet P l w){n:String}{d:DataW Unit}(hm:(n,d)∈l):QrZ P w n d :=
 let ⟨_,hv,_⟩:=h
 Qmr hv hm
section
variable {Hh : Type} {enc : TypeId × Value → Hh} {w : World} {base : Nat} {sp : Nat → Bool} {held : Bool} {fuel : Nat} {t e : TypeId} {m : Nat} {cs : List Value} {p : List MemPlace}
theorem QlV{zs:List ByteArray}(ht:P.underlying t=some (.array m e))(he:P.underlying e=some .string)(hce:P.cellsOf e=1)(hct:P.cellsOf t=m)
  (h:DataW.trod enc P w base sp held fuel t cs=some (.agg (zs.map fun s=>.lit (.string s.data.toList)),p)):cs=zs.map Value.string:=by
 cases fuel with
 | zero=>simp [DataW.trod] at h
 | succ fuel =>
  simp only [DataW.trod,ht,hce,hct,Nat.mul_one] at h
  split at h
  ·rename_i hl
   obtain ⟨xs,hm,hx⟩:=Option.map_eq_some_iff.1 h
   have hxs:xs.map (·.1)=zs.map fun s=>(DataW.lit (.string s.data.toList):DataW Hh):=by
    have:=congrArg Prod.fst hx
    simpa using this
   have hxl:xs.length=m:=by simpa using Lib.mapM_length hm
   have hzl:zs.length=m:=by
    have:=congrArg List.length hxs
    simp at this
    omega
   apply List.ext_getElem?
   intro i
   by_cases hi:i<m
   ·obtain ⟨b,hb,hf⟩:=Lib.mapM_at hm i i (by simp [hi])
    obtain ⟨z,hc,rfl,_⟩:=DataW.trod_string he hf
    have h1:cs[i]? = some (.string z):=by
     have:=congrArg (·[0]?) hc
     simpa [List.getElem?_take,List.getElem?_drop] using this
    have h2:(xs.map (·.1))[i]? = some (DataW.lit (.string z.data.toList):DataW Hh):=by simp [hb]
    rw [hxs] at h2
    simp only [List.getElem?_map,Option.map_eq_some_iff,DataW.lit.injEq,Lit.string.injEq] at h2
    obtain ⟨z',hz',he'⟩:=h2
    have:z'=z:=by
     cases z' with | mk a=>cases z with | mk b=>simp at he';subst he';rfl
    subst this
    simp [h1,hz']
   ·rw [List.getElem?_eq_none (by omega),List.getElem?_eq_none (by simp;omega)]
  ·cases h
theorem QkD{ms:Array (String×TypeId)}{nm:String}{d:DataW Hh}(ht:P.underlying t=some (.interface ms))(h:DataW.trod enc P w base sp held fuel t cs=some (.iface nm d,p)):∃ u v,cs=[.iface u v]:=by
 cases fuel with
 | zero=>simp [DataW.trod] at h
 | succ fuel =>
  unfold DataW.trod at h
  rw [ht] at h
  split at h<;>simp_all
theorem QpD{name:String}{g:Nat}{zs:Vector ByteArray m}{hm:0<m}(hg:P.globalNamed name=some g)(hty:(P.globals[g]?).map (·.type)=some t)(ht:P.underlying t=some (.array m e))(he:P.underlying e=some .string)(hce:P.cellsOf e=1)(hct:P.cellsOf t=m)
  (h:QrZ P w name (.agg (zs.toList.map fun s=>.lit (.string s.data.toList)))):Gv P w name (QQ QbA m hm) zs:=by
 obtain ⟨g',t',cs,fuel,p,hg',hty',hvar,hd⟩:=h
 obtain rfl:=Option.some.inj (hg.symm.trans hg')
 obtain rfl:=Option.some.inj (hty.symm.trans hty')
 have hcs:=QlV ht he hce hct hd
 show w.var? P name=some ((QbA.all zs.toList)).toArray
 rw [hvar]
 congr 1
 refine Array.toList_inj.1 ?_
 rw [hcs]
 show zs.toList.map Value.string=zs.toList.flatMap fun s=>[.string s]
 rw [List.map_eq_flatMap]
theorem QgF{name:String}{g:Nat}{k:IntKind}{zs:List Int}(hg:P.globalNamed name=some g)(hty:(P.globals[g]?).map (·.type)=some t)(ht:P.underlying t=some (.array m e))(he:P.underlying e=some (.int k))(hce:P.cellsOf e=1)(hct:P.cellsOf t=m)
  (h:QrZ P w name (Lib.tabData k zs)):Lib.TabIs P w name k zs:=by
 obtain ⟨g',t',cs,fuel,p,hg',hty',hvar,hd⟩:=h
 obtain rfl:=Option.some.inj (hg.symm.trans hg')
 obtain rfl:=Option.some.inj (hty.symm.trans hty')
 unfold Lib.TabIs
 rw [hvar,←Lib.cells_of_tab ht he hce hct hd]
theorem Qie{name nm:String}{g:Nat}{d:DataW Unit}{ms:Array (String×TypeId)}(hg:P.globalNamed name=some g)(hty:(P.globals[g]?).map (·.type)=some t)(ht:P.underlying t=some (.interface ms))
  (h:QrZ P w name (.iface nm d)):QtF P w name:=by
 obtain ⟨g',t',cs,fuel,p,hg',hty',hvar,hd⟩:=h
 obtain rfl:=Option.some.inj (hg.symm.trans hg')
 obtain rfl:=Option.some.inj (hty.symm.trans hty')
 obtain ⟨u,v,hcs⟩:=QkD ht hd
 exact ⟨u,v,by rw [hvar];congr 1;exact Array.toList_inj.1 hcs⟩
end
end Go.Proofs.YtnekckhjmnhinaaGreatDoor.E
namespace Go.Proofs.YtnekckhjmnhinaaGreatDoor.E
open Go.RowKit
variable {n : Nat} {L L' : List (Nat × Value)} {a : Act} {W : World → Prop} {P : Program} {ops : Array Oper} {Q : Exit → Act → World → Prop} {rest : List Oper} {w0 : World} {H : List Ent}
variable {α β : Type} {d : Nat} {ty : TypeId} {pos : String} {aft : Array Edge} {t e : TypeId}
theorem Qr9{m:Nat}{v:Vector α m}{l h:Int}(hb:0≤l∧l≤h∧h≤(m:Int)):0≤l∧l≤h∧h≤(v.toList.length:Int):=by
 rw [Vector.length_toList];exact hb
theorem Qvh{a:Addr}{cap sz:Nat}{l:Int}:rsp (some a) cap l sz=some (if cap=l.toNat then a else a.add (l.toNat*sz)):=by
 unfold rsp;split<;>rfl
theorem QiV{b o m:Nat}{c:Cd α}{x:Operand}{lo hi:Option Operand}{v:Vector α m}{l h:Int}(ht:P.underlying t=some (.array m e))(hz:∀ w,(sizeOf e).run P w=.ok c.sz w)(hx:ev L x=some (.pointer (some ⟨b,o,none⟩)))
  (hlo:match lo with | none=>l=0 | some y=>∃ k,ev L y=some (.int k l)) (hhi:match hi with | none=>h=(m:Int) | some y=>∃ k,ev L y=some (.int k h)) (hb:0≤l∧l≤h∧h≤(m:Int)) :
  QdP n L W P (⟨some d,.slice t x lo hi none,ty,pos,aft,none⟩) (.slice (rsp (some ⟨b,o,none⟩) m l c.sz) (QdS v.toList l h).length (m-l.toNat)):=fun a w he _=>by
 have hlen:=Qfn (xs:=v.toList) (l:=l) (h:=h) (Qr9 hb)
 obtain ⟨h1,h2,h3⟩:=hb
 have h0:0≤h:=by omega
 have h5:l≤(m:Int):=by omega
 have e1:(h.toNat:Int)=h:=Int.toNat_of_nonneg h0
 rw [hlen,Qvh]
 simp only [execOp,he.eval hx]
 cases lo<;>cases hi<;>simp only at hlo hhi
 ·subst hlo hhi
  simp [Instr.sliceAt,Instr.sureAddr,Instr.sliceBounds,run_underlying ht,hz]
 ·obtain ⟨k,hk⟩:=hhi
  subst hlo
  simp [Instr.sliceAt,Instr.sureAddr,Instr.sliceBounds,Instr.sliceBound,asIntOf,run_underlying ht,hz,he.eval hk,h0,h3]
 ·obtain ⟨k,hk⟩:=hlo
  subst hhi
  simp [Instr.sliceAt,Instr.sureAddr,Instr.sliceBounds,Instr.sliceBound,asIntOf,run_underlying ht,hz,he.eval hk,h1,h2]
 ·obtain ⟨k,hk⟩:=hlo
  obtain ⟨k',hk'⟩:=hhi
  simp [Instr.sliceAt,Instr.sureAddr,Instr.sliceBounds,Instr.sliceBound,asIntOf,run_underlying ht,hz,he.eval hk,he.eval hk',h0,h1,h2,h3,e1]
theorem QiD{b o m:Nat}{c:Cd α}{x:Operand}(v:Vector α m)(hm:0<m)(ht:P.underlying t=some (.array m e))(hz:∀ w,(sizeOf e).run P w=.ok c.sz w)(hx:ev L x=some (.pointer (some ⟨b,o,none⟩))) :
  QdP n L W P (⟨some d,.slice t x none none none,ty,pos,aft,none⟩) (.slice (some ⟨b,o,none⟩) v.toList.length m):=fun a w he _=>by
 simp only [execOp,he.eval hx]
 have h0:m≠0:=by omega
 simp [Instr.sliceAt,Instr.sureAddr,Instr.sliceBounds,run_underlying ht,hz,h0,Addr.add]
theorem Qn9{b o m sz:Nat}(hm:0<m):(some ⟨b,o,none⟩:Option Addr)=rsp (some ⟨b,o,none⟩) m 0 sz:=by
 have:m≠0:=by omega
 simp [rsp,Addr.add_lit,this]
theorem Qe7{b tb o m:Nat}{cells:List Value}{c:Cd β}{hm:0<m}{v:Vector β m}{put:Vector β m→List Value}{f:Ent→List Ent}{G:List Ent}(hu:Upd H (Qi b cells tb) f G)(l:Qaf cells o (QQ c m hm) v put){w:World}(hw:Wd w0 H w) :
  Row c w (some ⟨b,o,none⟩) m v.toList :=
 ⟨by simp,.inr ⟨b,o,rfl,fun j u hj=>Qkf (hw.ok hu.mem) _ _ (l.get j u hj)⟩⟩
theorem Qoa{a:Addr}{cap sz:Nat}{l:Int}:∃ b,rsp (some a) cap l sz=some b:=by
 unfold rsp;split
 ·exact ⟨_,rfl⟩
 ·exact ⟨_,rfl⟩
theorem Cd.all_take{c:Cd β}(h:c.sz=1):∀ (xs:List β) (k:Nat),c.all (xs.take k)=(c.all xs).take k
 | [],k=>by simp [Cd.all]
 | x::xs,0=>by simp [Cd.all]
 | x::xs,k+1=>by
  obtain ⟨v,hv⟩:=List.length_eq_one_iff.1 (show (c.cs x).length=1 by rw [c.len,h])
  rw [List.take_succ_cons,Cd.all_cons,Cd.all_cons,hv,Cd.all_take h xs k];rfl
theorem Cd.all_drop{c:Cd β}(h:c.sz=1):∀ (xs:List β) (k:Nat),c.all (xs.drop k)=(c.all xs).drop k
 | [],k=>by simp [Cd.all]
 | x::xs,0=>by simp
 | x::xs,k+1=>by
  obtain ⟨v,hv⟩:=List.length_eq_one_iff.1 (show (c.cs x).length=1 by rw [c.len,h])
  rw [List.drop_succ_cons,Cd.all_cons,hv,Cd.all_drop h xs k];rfl
theorem Qmg{b o cap sz:Nat}{l:Int}:∃ b' o',rsp (some ⟨b,o,none⟩) cap l sz=some ⟨b',o',none⟩:=by
 unfold rsp;split
 ·exact ⟨_,_,rfl⟩
 ·exact ⟨b,o+l.toNat*sz,by simp [Addr.add_lit]⟩
def QdW[Inhabited α]{m:Nat}(v:Vector α m)(l:Nat)(xs:List α):Vector α m:=Qjc m (v.toList.take l++xs++v.toList.drop (l+xs.length))
theorem QeI[Inhabited α]{m:Nat}(v:Vector α m)(l:Nat)(xs:List α)(h:l+xs.length≤m):(QdW v l xs).toList=v.toList.take l++xs++v.toList.drop (l+xs.length):=by
 have hl:(v.toList.take l++xs++v.toList.drop (l+xs.length)).length=m:=by
  simp;omega
 unfold QdW
 rw [Qda m _ (by omega),List.take_of_length_le (by omega)]
theorem QnT[Inhabited β]{b tb o m cap:Nat}{cells:List Value}{c:Cd β}{hm:0<m}{v:Vector β m}{put:Vector β m→List Value}{f:Ent→List Ent}{G:List Ent}{lo hi:Int}{xs:List β}{p:Option Addr}{x y:Operand}{dT sT:TypeId}{q:Option Addr}{dl dc:Nat}
  (hu:Upd H (Qi b cells tb) f G) (l:Qaf cells o (QQ c m hm) v put) (hc1:c.sz=1) (hlh:0≤lo∧lo≤hi∧hi≤(m:Int)) (hud:P.underlying dT=some (.slice e)) (hs:(P.info? e).map (·.size)=some 1)
  (hx:ev L x=some (.slice q dl dc)) (hq:q=rsp (some ⟨b,o,none⟩) m lo c.sz) (hdl:dl=hi.toNat-lo.toNat) (hy:ev L y=some (.slice p xs.length cap)) (hp:∃ a,p=some a) (hr:∀ w,Wd w0 H w→Row c w p cap xs) (hdn:Nat.blt d n=true)
  (k:At n ((d,.int .i64 (min xs.length (hi-lo).toNat:Nat))::L) (Wd w0 (f (Qi b (put (QdW v lo.toNat (xs.take (hi-lo).toNat))) tb))) (wpList P ops Q rest)) :
  At n L (Wd w0 H) (wpList P ops Q (⟨some d,.call { callee:=.builtin .copy,args:=#[x,y],argTypes:=#[dT,sT] },ty,pos,aft,none⟩::rest)) :=
 Qgp (W':=fun u w'=>u=.int .i64 (min xs.length (hi-lo).toNat:Nat)∧Wd w0 (f (Qi b (put (QdW v lo.toNat (xs.take (hi-lo).toNat))) tb)) w') rfl rfl hdn (fun a w h hw=>by
  have hok:w.heap[b]? = some (.cells cells.toArray tb (0,0)):=hw.ok hu.mem
  subst hq hdl
  obtain ⟨pa,rfl⟩:=hp
  have hsz:=l.size
  have hsz':o+m*c.sz≤cells.length:=hsz
  have hall:∀ (ys:List β),(c.all ys).length=ys.length:=fun ys=>by rw [c.all_len,hc1,Nat.mul_one]
  have hn:(xs.take (hi-lo).toNat).length=Nat.min xs.length (hi.toNat-lo.toNat):=by rw [List.length_take];show min _ _=min _ _;omega
  have hfit:lo.toNat+(xs.take (hi-lo).toNat).length≤m:=by rw [hn];show lo.toNat+min _ _≤m;omega
  obtain ⟨o',hrs,ho'⟩:∃ o',rsp (some (⟨b,o,none⟩:Addr)) m lo c.sz=some ⟨b,o',none⟩∧((xs.take (hi-lo).toNat)=[]∨o'=o+lo.toNat):=by
   unfold rsp
   by_cases hml:m=lo.toNat
   ·rw [if_pos hml]
    exact ⟨o,rfl,.inl (List.eq_nil_of_length_eq_zero (by omega))⟩
   ·rw [if_neg hml,hc1,Nat.mul_one]
    exact ⟨o+lo.toNat,by simp [Addr.add_lit],.inr rfl⟩
  have hrow:=hr w hw
  have hsrc:∀ j u,(c.all (xs.take (hi-lo).toNat))[j]? = some u→w.cell? (pa.add j)=some u:=fun j u hj=>by
   rcases hrow.2 with h0 | ⟨b2,o2,hp2,hc2⟩
   ·subst h0;simp [Cd.all] at hj
   ·cases hp2
    rw [Addr.add_lit]
    refine hc2 j u ?_
    have e1:c.all xs=c.all (xs.take (hi-lo).toNat)++c.all (xs.drop (hi-lo).toNat):=by rw [←c.all_append,List.take_append_drop]
    rw [e1,List.getElem?_append_left (List.getElem?_eq_some_iff.1 hj).1]
    exact hj
  by_cases hnil:xs.take (hi-lo).toNat=[]
  ·-- nothing
   have hrun2:(Builtin.copy_ #[dT,sT] ty #[.slice (some ⟨b,o',none⟩) (hi.toNat-lo.toNat) dc,.slice (some pa) xs.length cap]).run P w=.ok (goInt 0) w:=by
    have hmin:Nat.min xs.length (hi.toNat-lo.toNat)=0:=by rw [←hn,hnil];rfl
    cases hq:P.info? e with
    | none=>simp [hq] at hs
    | some i =>
     have hi':i.size=1:=by simpa [hq] using hs
     have hl:=run_loadCells_list (P:=P) w pa [] (fun j v hj=>by simp at hj)
     simp only [List.length_nil] at hl
     simp [Builtin.copy_,run_underlying hud,Builtin.lenOf,Builtin.firstCells,sizeOf,typeInfo,hq,hi',hmin,hl,storeCells]
   have hz0:min xs.length (hi-lo).toNat=0:=by
    have:=hn;rw [hnil] at this;simp at this
    have e3:(hi-lo).toNat=hi.toNat-lo.toNat:=by omega
    rw [e3];have h4:Nat.min xs.length (hi.toNat-lo.toNat)=0:=by rw [←hn,hnil];rfl
    exact h4
   refine ⟨_,w,?_,by rw [hz0],?_⟩
   ·simp only [execOp,resolve,invoke,builtin,Sem.run_bind,Sem.run_pure,Result.andThen_ok,List.map_toArray,List.map_cons,List.map_nil,h.eval hx,h.eval hy,hrs,hrun2]
    rfl
   ·have ev1:QdW v lo.toNat (xs.take (hi-lo).toNat)=v:=by
     apply Vector.toList_inj.1
     rw [QeI _ _ _ (by rw [hnil];simp;omega),hnil];simp
    rw [ev1]
    have e2:put v=cells:=by rw [l.splice v,←List.take_append_drop o cells];obtain ⟨pre,post,hcells,hlen1,_⟩:=l;subst hcells;simp [←hlen1,Cd.len]
    rw [e2,hu.same];exact hw
  ·have ho2:o'=o+lo.toNat:=by rcases ho' with h1 | h1;exact absurd h1 hnil;exact h1
   subst ho2
   have hrun:=run_copy_row (P:=P) w dT sT ty e b (o+lo.toNat) (hi.toNat-lo.toNat) dc pa xs.length cap cells.toArray tb (c.all (xs.take (hi-lo).toNat)) hud hs hok (by rw [hall,hn]) hsrc
    (by rw [hall];rw [hc1,Nat.mul_one] at hsz';simp;omega) (c.all_one _)
   rw [hall] at hrun
   have hput:(cells.toArray.toList.take (o+lo.toNat)++c.all (xs.take (hi-lo).toNat)++cells.toArray.toList.drop (o+lo.toNat+(xs.take (hi-lo).toNat).length)).toArray=(put (QdW v lo.toNat (xs.take (hi-lo).toNat))).toArray:=by
    congr 1
    obtain ⟨pre,post,hcells,hlen1,hput⟩:=l
    have e4:=hput (QdW v lo.toNat (xs.take (hi-lo).toNat))
    rw [e4]
    show _=pre++c.all (QdW v lo.toNat (xs.take (hi-lo).toNat)).toList++post
    rw [QeI _ _ _ hfit,c.all_append,c.all_append]
    have hvl:(c.all v.toList).length=m:=by rw [hall];simp
    have ht1:=Cd.all_take hc1 v.toList lo.toNat
    have ht2:=Cd.all_drop hc1 v.toList (lo.toNat+(xs.take (hi-lo).toNat).length)
    rw [ht1,ht2]
    have hcells':cells=pre++(c.all v.toList++post):=by rw [hcells];simp [QQ]
    subst hlen1
    rw [List.toList_toArray,hcells']
    rw [List.take_append,List.take_of_length_le (by omega),List.take_append_of_le_length (by omega)]
    rw [show pre.length+lo.toNat-pre.length=lo.toNat by omega]
    rw [Nat.add_assoc,List.drop_append,List.drop_eq_nil_of_le (by omega),List.nil_append,show pre.length+(lo.toNat+(xs.take (hi-lo).toNat).length)-pre.length=lo.toNat+(xs.take (hi-lo).toNat).length by omega]
    rw [List.drop_append_of_le_length (by omega)]
    simp [List.append_assoc]
   refine ⟨goInt ((xs.take (hi-lo).toNat).length:Nat),w.setRow b (put (QdW v lo.toNat (xs.take (hi-lo).toNat))).toArray,?_,?_,hw.upd hu ?_ rfl rfl rfl (fun k hk hk'=>?_) ?_ fun k hk=>.inl hk⟩
   ·rw [hput] at hrun
    simp only [execOp,resolve,invoke,builtin,Sem.run_bind,Sem.run_pure,Result.andThen_ok,List.map_toArray,List.map_cons,List.map_nil,h.eval hx,h.eval hy,hrs,hrun]
   ·show goInt _=_
    rw [hn,show (hi-lo).toNat=hi.toNat-lo.toNat by omega];rfl
   ·exact Nat.le_of_eq (by simp [World.setRow])
   ·exact setRow_other w b k _ (by intro e;exact hk' (by rw [e];simp [Qi]))
   ·exact setRow_heap w b cells.toArray _ tb _ hok) fun u a w h ⟨hu',hw⟩=>by subst hu';exact k a w h hw
def Sx(P:Program)(ops:Array Oper)(K:Act→World→Prop)(l:List Oper)(a:Act)(w:World):Prop:=wpStill P ops w (fun a'=>K a' w) l a
theorem QmY{id:Nat}{l:List Oper}(m:Nat)(hm:P.follows .mixedOrders=true)(hB:Region.lexTailB .any l.toArray m=true)(hWd:∀ w,W w→W { w with drawn:=w.drawn+1 })
  (k:At n L W (Sx P l.toArray (wpList P l.toArray Q (l.drop m)) (l.take m))):At n L W ((Code.region id l.toArray true).wp P Q):=fun a w h hw =>
 wp_region_still_tail m hm hB (k a _ h (hWd w hw))
section
variable {K : Act → World → Prop}
theorem QuF(k:At n L W K):At n L W (Sx P ops K []):=fun a w h hw=>wpStill_nil (k a w h hw)
theorem Qd8{o:Oper}{v:Value}(hg:o.guard=none)(hd:o.dst=some d)(hdn:Nat.blt d n=true)(hr:QdP n L W P o v)
  (k:At n ((d,v)::L) W (Sx P ops K rest)):At n L W (Sx P ops K (o::rest)):=fun a w h hw =>
 wpStill_step fun K' hK=>by
  simp only [Region.wanted,hg,if_true]
  unfold Oper.still
  rw [hr a w h hw,Oper.stillUpon_value,hd]
  exact hK _ (k _ _ (h.put hdn v) hw)
variable {dst : Option Tmp} {op : Op} {j g : Nat} {oj : Oper} {b b' : Bool} {ty : TypeId} {pos : String} {aft : Array Edge}
end
end Go.Proofs.YtnekckhjmnhinaaGreatDoor.E
namespace Go.Proofs.YtnekckhjmnhinaaGreatDoor.E
open Go.RowKit
variable {n : Nat} {L : List (Nat × Value)} {W : World → Prop} {P : Program} {ops : Array Oper} {Q : Exit → Act → World → Prop}
def QK(K:Act→World→Prop):Exit→Act→World→Prop
 | .normal=>K
 | _=>fun _ _=>False
theorem QjZ{K:Act→World→Prop}:¬ LetsOut (QK K):=fun ⟨_,_,h⟩=>h
theorem Qr4{o:Oper}{a:Act}{w:World}{K K':Act→World→Prop}(h:o.wp P a w K (QK K')):o.wp P a w K Q:=by
 unfold Oper.wp at *
 generalize (execOp a.eval o).run P w=r at h
 unfold Oper.upon at *
 split at h
 ·exact h
 ·exact h
 ·exact h
 ·refine Calls.mono h fun e w'' he=>?_
  cases e with
  | returned v=>exact he
  | panicked c=>exact he.elim
  | outgrown=>exact absurd he QjZ
 ·exact h
 ·exact h.elim
 ·exact h.elim
theorem Qp1{i:Nat}{o:Oper}{a:Act}{w:World}{K:Act→World→Prop}(hi:ops[i]? = some o)(h:wpList P ops (QK K) [o] a w):wpOp P ops Q i K a w:=by
 unfold wpOp
 rw [hi]
 unfold wpList at h
 show (if Region.wanted o (yielded ops a.tmps)=true then _ else _)
 by_cases hw:Region.wanted o (yielded ops a.tmps)=true
 ·rw [if_pos hw] at h ⊢
  rcases h with h | h
  ·left
   have h':o.wp P a w K (QK K):=h
   exact Qr4 h'
  ·exact absurd h.2 QjZ
 ·rw [if_neg hw] at h ⊢
  exact h
abbrev G3:=Nat×Option Addr×Nat×Option Nat×List Nat×World×(Nat→Option Addr×Nat)
abbrev g3(a:Nat)(p:Option Addr)(b:Nat)(o:Option Nat)(w:World):G3:=(a,p,b,o,[],w,fun _=>(none,0))
abbrev Gh:=Nat→G3
def QkG(g:Gh)(k:Nat)(x:G3):Gh:=fun j=>bif Nat.beq j k then x else g j
theorem Qp7{g:Gh}{k j:Nat}{x:G3}(h:j<k):QkG g k x j=g j:=by
 unfold QkG
 have:Nat.beq j k=false:=by
  cases hb:Nat.beq j k
  ·rfl
  ·have:=Nat.eq_of_beq_eq_true hb;omega
 rw [this];rfl
inductive Kd where
 | q (d:Nat) (v:Gh→Value) (need:List Nat) (lo hi:Nat)
 | st (k:Nat) (dv:Option (Nat×(Gh→Value))) (need:List Nat)
 | al (k d:Nat) (v:Gh→Value) (need:List Nat)
def Kd.dst:Kd→Option Nat
 | .q d _ _ _ _=>some d
 | .st _ (some (d,_)) _=>some d
 | .st _ none _=>none
 | .al _ d _ _=>some d
def Kd.need:Kd→List Nat
 | .q _ _ l _ _=>l
 | .st _ _ l=>l
 | .al _ _ _ l=>l
def Kd.rank:Kd→Option Nat
 | .q ..=>none
 | .st k _ _=>some k
 | .al k _ _ _=>some k
def Kd.bound:Kd→Nat
 | .q _ _ _ lo _=>lo
 | .st k _ _=>k+1
 | .al k _ _ _=>k+1
def Kd.val(b:Gh):Kd→Value
 | .q _ v _ _ _=>v b
 | .st _ (some (_,v)) _=>v b
 | .st _ none _=>undef
 | .al _ _ v _=>v b
def Kd.fix(kd:Kd):Prop:=∀ g g':Gh,(∀ k,k<kd.bound→g k=g' k)→kd.val g=kd.val g'
def QsW:List Kd→Prop
 | []=>True
 | kd::r=>kd.fix∧QsW r
theorem QmP:∀ {kds:List Kd},QsW kds→∀ {i:Nat} {kd:Kd},kds[i]? = some kd→kd.fix
 | _::_,h,0,kd,hi=>by simp at hi;subst hi;exact h.1
 | _::_,h,i+1,kd,hi=>QmP h.2 (i:=i) (by simpa using hi)
 | [],_,_,_,hi=>by simp at hi
def QdF(kds:List Kd)(b:Gh):List Nat→List (Nat×Value)
 | []=>[]
 | j::r=>match kds[j]? with
  | some kd=>match kd.dst with
   | some d=>(d,kd.val b)::QdF kds b r
   | none=>QdF kds b r
  | none=>QdF kds b r
def Kd.add(b:Gh)(kd:Kd)(M:List (Nat×Value)):List (Nat×Value):=match kd.dst with
 | some d=>(d,kd.val b)::M
 | none=>M
def Ob(n:Nat)(L:List (Nat×Value))(P:Program)(ops:Array Oper)(kds:List Kd)(Wm:Gh→Nat→World→Prop)(kd:Kd)(o:Oper):Prop :=
 match kd with
 | .q d v need lo hi=>∀ (Lx:List (Nat×Value)) (b:Gh) (s:Nat) (K:Act→World→Prop),lo≤s→s≤hi→At n ((d,v b)::(QdF kds b need++(L++Lx))) (Wm b s) K→At n (QdF kds b need++(L++Lx)) (Wm b s) (wpList P ops (QK K) [o])
 | .st k dv need=>∀ (Lx:List (Nat×Value)) (b:Gh) (K:Act→World→Prop),At n (Kd.add b (.st k dv need) (QdF kds b need++(L++Lx))) (Wm b (k+1)) K→At n (QdF kds b need++(L++Lx)) (Wm b k) (wpList P ops (QK K) [o])
 | .al k d v need=>∀ (Lx:List (Nat×Value)) (b:Gh) (K:Act→World→Prop),(∀ x,At n ((d,v (QkG b k x))::(QdF kds b need++(L++Lx))) (Wm (QkG b k x) (k+1)) K)→At n (QdF kds b need++(L++Lx)) (Wm b k) (wpList P ops (QK K) [o])
def Obs(n:Nat)(L:List (Nat×Value))(P:Program)(ops:Array Oper)(kds:List Kd)(Wm:Gh→Nat→World→Prop):List Kd→List Oper→Prop
 | kd::r,o::l=>Ob n L P ops kds Wm kd o∧Obs n L P ops kds Wm r l
 | [],[]=>True
 | _,_=>False
def QpM(l:List Oper):Bool:=(List.range l.length).all fun i=>match l[i]? with
 | some o=>o.after.all fun e=>!Region.binds .any e||Nat.blt e.on i
 | none=>false
def QpU(o:Oper)(j:Nat):Bool:=o.after.any fun e=>Region.binds .any e&&Nat.beq e.on j
def Qgm(kds:List Kd)(j k:Nat):Bool:=match kds[j]? with
 | some kd=>match kd.rank with
  | some r=>Nat.beq r k
  | none=>false
 | none=>false
def Qwe(n:Nat)(kds:List Kd)(kd:Kd)(o:Oper):Bool :=
 (match o.dst,kd.dst with | some a,some b=>Nat.beq a b&&Nat.blt a n | none,none=>true | _,_=>false) &&
 kd.need.all (fun j=>QpU o j)
def QoZ(n:Nat)(kds:List Kd):List Kd→List Oper→Bool
 | kd::r,o::l=>Qwe n kds kd o&&QoZ n kds r l
 | [],[]=>true
 | _,_=>false
def Qi6(keys:List Nat)(kds:List Kd):Bool :=
 (List.range kds.length).all fun i=>match kds[i]? with
  | some kd=>match kd.dst with
   | some d=>!(keys.any fun t=>Nat.beq t d)&&(List.range kds.length).all fun j=>Nat.beq i j||(match kds[j]? with | some kd'=>(match kd'.dst with | some d'=>!Nat.beq d d' | none=>true) | none=>true)
   | none=>true
  | none=>true
def Qhv(kds:List Kd)(tot:Nat):Bool :=
 ((List.range tot).all fun k=>(List.range kds.length).any fun j=>Qgm kds j k) &&
 (List.range kds.length).all fun i=>match kds[i]? with
  | some kd=>match kd.rank with
   | some k=>Nat.blt k tot&&(List.range kds.length).all fun j=>Nat.beq i j||!Qgm kds j k
   | none=>true
  | none=>true
def QiB(l:List Oper):Nat→Nat→Nat→Bool
 | 0,_,_=>false
 | f+1,i,j=>match l[i]? with
  | some o=>QpU o j||(List.range i).any fun m=>QpU o m&&QiB l f m j
  | none=>false
def Qi3(kds:List Kd)(l:List Oper)(tot:Nat):Bool:=(List.range kds.length).all fun i=>match kds[i]?,l[i]? with
 | some (.q _ _ _ lo hi),some o=>(match lo with
   | 0=>true
   | k+1=>(List.range kds.length).any fun j=>Qgm kds j k&&QiB l 5 i j) &&
   (Nat.ble tot hi||(List.range kds.length).any fun j=>Qgm kds j hi&&QiB l 5 j i)
 | some kd,some _=>(match kd.rank with
   | some (k+1)=>(List.range kds.length).any fun j=>Qgm kds j k&&QiB l 8 i j
   | _=>true)
 | _,_=>true
theorem Qki{kds:List Kd}{l:List Oper}{tot:Nat}(h:Qi3 kds l tot=true){i k:Nat}{kd:Kd}{o:Oper}(hi':kds[i]? = some kd)(ho:l[i]? = some o)(hr:kd.rank=some (k+1)):∃ j,QiB l 8 i j=true∧Qgm kds j k=true:=by
 unfold Qi3 at h
 have h1:=List.all_eq_true.1 h i (List.mem_range.2 (List.getElem?_eq_some_iff.1 hi').1)
 rw [hi',ho] at h1
 cases kd with
 | q d v need lo hi=>cases hr
 | st a b c =>
  simp only at h1
  rw [hr] at h1
  obtain ⟨j,_,hj⟩:=List.any_eq_true.1 h1
  rw [Bool.and_eq_true] at hj
  exact ⟨j,hj.2,hj.1⟩
 | al a b c d =>
  simp only at h1
  rw [hr] at h1
  obtain ⟨j,_,hj⟩:=List.any_eq_true.1 h1
  rw [Bool.and_eq_true] at hj
  exact ⟨j,hj.2,hj.1⟩
def inSt(n:Nat)(L:List (Nat×Value))(l:List Oper)(kds:List Kd)(Wm:Gh→Nat→World→Prop)(tot:Nat)(S:Array Bool)(a:Act)(w:World):Prop :=
 ∃ b s,a.tmps.size=n∧a.defers=[]∧(∀ t v,lk L t=some v→a.tmps.getD t undef=v) ∧
  (∀ j kd d,S.getD j false=true→kds[j]? = some kd→kd.dst=some d→a.tmps.getD d undef=kd.val b) ∧
  (∀ j kd k,kds[j]? = some kd→kd.rank=some k→(S.getD j false=true↔k<s))∧s≤tot∧Wm b s w∧∀ j o i,S.getD j false=true→l[j]? = some o→QpU o i=true→S.getD i false=true
def Qf9(a:Act):List (Nat×Value):=(List.range a.tmps.size).map fun t=>(t,a.tmps.getD t undef)
theorem Qq6:∀ {L:List (Nat×Value)} {t:Nat} {v:Value},lk L t=some v→(t,v)∈L
 | (s,u)::L,t,v,h=>by
  rw [QdT] at h
  split at h
  ·next e=>subst e;cases h;exact List.mem_cons_self ..
  ·exact List.mem_cons_of_mem _ (Qq6 h)
theorem QfQ{L M:List (Nat×Value)}{t:Nat}{v:Value}(h:lk (L++M) t=some v):lk L t=some v∨lk M t=some v:=by
 induction L with
 | nil=>exact .inr h
 | cons x r ih =>
  obtain ⟨s,u⟩:=x
  rw [List.cons_append,QdT] at h
  rw [QdT]
  split at h
  ·next e=>rw [if_pos e];exact .inl h
  ·next e=>rw [if_neg e];exact ih h
theorem Qly(a:Act)(t:Nat)(h:t<a.tmps.size):lk (Qf9 a) t=some (a.tmps.getD t undef):=by
 have key:∀ (m i:Nat),i≤t→t<i+m→lk ((List.range' i m).map fun t=>(t,a.tmps.getD t undef)) t=some (a.tmps.getD t undef):=by
  intro m
  induction m with
  | zero=>intro i h1 h2;omega
  | succ m ih =>
   intro i h1 h2
   rw [List.range'_succ,List.map_cons,QdT]
   by_cases hi:i=t
   ·subst hi;rw [if_pos rfl]
   ·rw [if_neg hi];exact ih (i+1) (by omega) (by omega)
 unfold Qf9
 rw [List.range_eq_range']
 exact key _ 0 (Nat.zero_le _) (by omega)
theorem Qj3{a:Act}{t:Nat}{v:Value}(h:lk (Qf9 a) t=some v):a.tmps.getD t undef=v:=by
 have:=Qq6 h
 unfold Qf9 at this
 obtain ⟨s,_,hs⟩:=List.mem_map.1 this
 cases hs;rfl
theorem Qe8{S:Array Bool}{i:Nat}(h:i<S.size):(S.setIfInBounds i true).getD i false=true:=by
 simp [Array.getD_eq_getD_getElem?,Array.getElem?_setIfInBounds,h]
theorem Qd0{S:Array Bool}{i j:Nat}(h:i≠j):(S.setIfInBounds i true).getD j false=S.getD j false:=by
 simp [Array.getD_eq_getD_getElem?,Array.getElem?_setIfInBounds,h]
theorem QfT{kds:List Kd}{b:Gh}{a:Act}{S:Array Bool}(hf:∀ j kd d,S.getD j false=true→kds[j]? = some kd→kd.dst=some d→a.tmps.getD d undef=kd.val b) :
  ∀ {need:List Nat},(∀ j∈need,S.getD j false=true)→∀ t v,lk (QdF kds b need) t=some v→a.tmps.getD t undef=v
 | [],_,t,v,h=>by cases h
 | j::r,hn,t,v,h=>by
  have hr:=QfT hf (need:=r) fun j hj=>hn j (List.mem_cons_of_mem _ hj)
  unfold QdF at h
  cases hk:kds[j]? with
  | none=>rw [hk] at h;exact hr t v h
  | some kd =>
   rw [hk] at h
   cases hd:kd.dst with
   | none=>simp only [hd] at h;exact hr t v h
   | some d =>
    simp only [hd] at h
    rw [QdT] at h
    split at h
    ·next e=>subst e;cases h;exact hf j kd d (hn j (List.mem_cons_self ..)) hk hd
    ·exact hr t v h
theorem QqR{kds0:List Kd}{Wm:Gh→Nat→World→Prop}:∀ {kds:List Kd} {l:List Oper},Obs n L P ops kds0 Wm kds l→∀ {i:Nat} {o:Oper},l[i]? = some o→∃ kd,kds[i]? = some kd∧Ob n L P ops kds0 Wm kd o
 | kd::r,o'::l,h,0,o,hi=>by
  simp at hi;subst hi
  exact ⟨kd,rfl,h.1⟩
 | kd::r,o'::l,h,i+1,o,hi=>by
  obtain ⟨kd',h1,h2⟩:=QqR h.2 (i:=i) (o:=o) (by simpa using hi)
  exact ⟨kd',by simpa using h1,h2⟩
 | [],[],_,i,o,hi=>by simp at hi
 | [],_::_,h,_,_,_=>h.elim
 | _::_,[],h,_,_,_=>h.elim
theorem QlY{kds0:List Kd}:∀ {kds:List Kd} {l:List Oper},QoZ n kds0 kds l=true→∀ {i:Nat} {o:Oper} {kd:Kd},l[i]? = some o→kds[i]? = some kd→Qwe n kds0 kd o=true
 | kd::r,o'::l,h,0,o,kd',hi,hk=>by
  simp at hi hk;subst hi hk
  simp only [QoZ,Bool.and_eq_true] at h
  exact h.1
 | kd::r,o'::l,h,i+1,o,kd',hi,hk=>by
  simp only [QoZ,Bool.and_eq_true] at h
  exact QlY h.2 (by simpa using hi) (by simpa using hk)
 | [],[],_,i,o,kd',hi,_=>by simp at hi
 | [],_::_,h,_,_,_,_,_=>by simp [QoZ] at h
 | _::_,[],h,_,_,_,_,_=>by simp [QoZ] at h
theorem Qip{kds0:List Kd}:∀ {kds:List Kd} {l:List Oper},QoZ n kds0 kds l=true→kds.length=l.length
 | kd::r,o::l,h=>by
  simp only [QoZ,Bool.and_eq_true] at h
  simp [Qip h.2]
 | [],[],_=>rfl
 | [],_::_,h=>by simp [QoZ] at h
 | _::_,[],h=>by simp [QoZ] at h
theorem QeB{o:Oper}{j:Nat}{S:Array Bool}(hall:∀ e∈o.after,Region.binds .any e=true→S.getD e.on false=true)(h:QpU o j=true):S.getD j false=true:=by
 unfold QpU at h
 rw [Array.any_eq_true] at h
 obtain ⟨i,hi,he⟩:=h
 rw [Bool.and_eq_true] at he
 have:=hall _ (Array.getElem_mem hi) he.1
 rwa [Nat.eq_of_beq_eq_true he.2] at this
theorem QdY{kds:List Kd}{j k:Nat}(h:Qgm kds j k=true):∃ kd,kds[j]? = some kd∧kd.rank=some k:=by
 unfold Qgm at h
 cases hk:kds[j]? with
 | none=>rw [hk] at h;cases h
 | some kd =>
  rw [hk] at h
  cases hr:kd.rank with
  | none=>simp only [hr] at h;cases h
  | some r=>simp only [hr] at h;exact ⟨kd,rfl,by rw [hr,Nat.eq_of_beq_eq_true h]⟩
theorem QqP{kds:List Kd}{j k:Nat}{kd:Kd}(hk:kds[j]? = some kd)(hr:kd.rank=some k):Qgm kds j k=true:=by
 unfold Qgm
 rw [hk];simp [hr]
theorem Qfs{kds:List Kd}{l:List Oper}{tot:Nat}(h:Qi3 kds l tot=true){i d lo hi:Nat}{v:Gh→Value}{need:List Nat}{o:Oper}(hi':kds[i]? = some (.q d v need lo hi))(ho:l[i]? = some o) :
  (∀ k,lo=k+1→∃ j,QiB l 5 i j=true∧Qgm kds j k=true)∧(tot≤hi∨∃ (j:Nat),Qgm kds j hi=true∧QiB l 5 j i=true):=by
 unfold Qi3 at h
 have h1:=List.all_eq_true.1 h i (List.mem_range.2 (List.getElem?_eq_some_iff.1 hi').1)
 rw [hi',ho] at h1
 simp only [Bool.and_eq_true,Bool.or_eq_true] at h1
 refine ⟨fun k hk=>?_,?_⟩
 ·subst hk
  obtain ⟨j,_,hj⟩:=List.any_eq_true.1 h1.1
  rw [Bool.and_eq_true] at hj
  exact ⟨j,hj.2,hj.1⟩
 ·rcases h1.2 with h2 | h2
  ·exact .inl (Nat.le_of_ble_eq_true h2)
  ·obtain ⟨j,_,hj⟩:=List.any_eq_true.1 h2
   rw [Bool.and_eq_true] at hj
   exact .inr ⟨j,hj⟩
theorem Qdm{l:List Oper}{S:Array Bool}(hcl:∀ j o i,S.getD j false=true→l[j]? = some o→QpU o i=true→S.getD i false=true):∀ (f i j:Nat),QiB l f i j=true→S.getD i false=true→S.getD j false=true
 | 0,_,_,h,_=>by cases h
 | f+1,i,j,h,hs=>by
  unfold QiB at h
  cases hl:l[i]? with
  | none=>rw [hl] at h;cases h
  | some o =>
   rw [hl] at h
   simp only [Bool.or_eq_true] at h
   rcases h with h | h
   ·exact hcl i o j hs hl h
   ·obtain ⟨m,_,hm⟩:=List.any_eq_true.1 h
    rw [Bool.and_eq_true] at hm
    exact Qdm hcl f m j hm.2 (hcl i o m hs hl hm.1)
theorem QeM{l:List Oper}{S:Array Bool}(hcl:∀ j o i,S.getD j false=true→l[j]? = some o→QpU o i=true→S.getD i false=true){i:Nat}{o:Oper}(hl:l[i]? = some o)(hall:∀ e∈o.after,Region.binds .any e=true→S.getD e.on false=true){f j:Nat}(h:QiB l f i j=true):S.getD j false=true:=by
 cases f with
 | zero=>cases h
 | succ f =>
  unfold QiB at h
  rw [hl] at h
  simp only [Bool.or_eq_true] at h
  rcases h with h | h
  ·exact QeB hall h
  ·obtain ⟨m,_,hm⟩:=List.any_eq_true.1 h
   rw [Bool.and_eq_true] at hm
   exact Qdm hcl f m j hm.2 (QeB hall hm.1)
theorem Qe6:∀ {A:List (Nat×Value)} {B:List (Nat×Value)} {t:Nat},(∃ u,lk B t=some u)→∃ u,lk (A++B) t=some u
 | [],_,_,h=>h
 | (s,u)::A,B,t,h=>by
  rw [List.cons_append,QdT]
  split
  ·exact ⟨u,rfl⟩
  ·exact Qe6 h
theorem Qkl{keys:List Nat}{kds:List Kd}(h:Qi6 keys kds=true){i d:Nat}{kd:Kd}(hi:kds[i]? = some kd)(hd:kd.dst=some d):∀ t∈keys,t≠d:=by
 unfold Qi6 at h
 have h1:=List.all_eq_true.1 h i (List.mem_range.2 (List.getElem?_eq_some_iff.1 hi).1)
 simp only [hi,hd,Bool.and_eq_true] at h1
 intro t ht e
 subst e
 have h2:=h1.1
 simp only [Bool.not_eq_true'] at h2
 have:=List.any_eq_false.1 h2 t ht
 simp at this
theorem Qk7{keys:List Nat}{kds:List Kd}(h:Qi6 keys kds=true){i j d d':Nat}{kd kd':Kd}(hi:kds[i]? = some kd)(hd:kd.dst=some d)(hj:kds[j]? = some kd')(hd':kd'.dst=some d')(hne:i≠j):d≠d':=by
 unfold Qi6 at h
 have h1:=List.all_eq_true.1 h i (List.mem_range.2 (List.getElem?_eq_some_iff.1 hi).1)
 simp only [hi,hd,Bool.and_eq_true] at h1
 have h2:=List.all_eq_true.1 h1.2 j (List.mem_range.2 (List.getElem?_eq_some_iff.1 hj).1)
 simp only [hj,hd'] at h2
 intro e
 subst e
 simp at h2
 exact hne h2
theorem QiU{kds:List Kd}{tot:Nat}(h:Qhv kds tot=true){k:Nat}(hk:k<tot):∃ (j:Nat) (kd:Kd),kds[j]? = some kd∧kd.rank=some k:=by
 unfold Qhv at h
 rw [Bool.and_eq_true] at h
 have h1:=List.all_eq_true.1 h.1 k (List.mem_range.2 hk)
 obtain ⟨j,_,hj⟩:=List.any_eq_true.1 h1
 obtain ⟨kd,h2,h3⟩:=QdY hj
 exact ⟨j,kd,h2,h3⟩
theorem Qfj{kds:List Kd}{tot:Nat}(h:Qhv kds tot=true){i k:Nat}{kd:Kd}(hi:kds[i]? = some kd)(hk:kd.rank=some k):k<tot:=by
 unfold Qhv at h
 rw [Bool.and_eq_true] at h
 have h1:=List.all_eq_true.1 h.2 i (List.mem_range.2 (List.getElem?_eq_some_iff.1 hi).1)
 simp only [hi,hk,Bool.and_eq_true] at h1
 exact Nat.le_of_ble_eq_true h1.1
theorem QkL{kds:List Kd}{tot:Nat}(h:Qhv kds tot=true){i j k:Nat}{kd kd':Kd}(hi:kds[i]? = some kd)(hk:kd.rank=some k)(hj:kds[j]? = some kd')(hk':kd'.rank=some k):i=j:=by
 unfold Qhv at h
 rw [Bool.and_eq_true] at h
 have h1:=List.all_eq_true.1 h.2 i (List.mem_range.2 (List.getElem?_eq_some_iff.1 hi).1)
 simp only [hi,hk,Bool.and_eq_true] at h1
 have h2:=List.all_eq_true.1 h1.2 j (List.mem_range.2 (List.getElem?_eq_some_iff.1 hj).1)
 rw [QqP hj hk'] at h2
 simpa using h2
theorem QmD{kds:List Kd}{kd:Kd}{o:Oper}(h:Qwe n kds kd o=true):∀ j∈kd.need,QpU o j=true:=by
 unfold Qwe at h
 simp only [Bool.and_eq_true] at h
 exact fun j hj=>List.all_eq_true.1 h.2 j hj
def QjY(S:Array Bool)(m:Nat):Nat:=((List.range m).filter fun j=>!S.getD j false).length
theorem Qoo{S:Array Bool}{m i:Nat}(hi:i<m)(hs:i<S.size)(h:S.getD i false=false):QjY (S.setIfInBounds i true) m<QjY S m:=by
 unfold QjY
 have key:∀ (l:List Nat),((l.filter fun j=>!(S.setIfInBounds i true).getD j false).length≤(l.filter fun j=>!S.getD j false).length) ∧
   (i∈l→(l.filter fun j=>!(S.setIfInBounds i true).getD j false).length<(l.filter fun j=>!S.getD j false).length):=by
  intro l
  induction l with
  | nil=>exact ⟨Nat.le_refl _,fun h=>by cases h⟩
  | cons x r ih =>
   by_cases hx:i=x
   ·subst hx
    rw [List.filter_cons,List.filter_cons,Qe8 hs,h]
    simp only [Bool.not_true,Bool.not_false,↓reduceIte,Bool.false_eq_true,List.length_cons]
    exact ⟨by have:=ih.1;omega,fun _=>by have:=ih.1;omega⟩
   ·rw [List.filter_cons,List.filter_cons,Qd0 hx]
    cases hb:S.getD x false with
    | true=>simp only [Bool.not_true,Bool.false_eq_true,↓reduceIte];exact ⟨ih.1,fun hm=>by rcases List.mem_cons.1 hm with e | e;exact absurd e hx;exact ih.2 e⟩
    | false =>
     simp only [Bool.not_false,↓reduceIte,List.length_cons]
     exact ⟨by have:=ih.1;omega,fun hm=>by rcases List.mem_cons.1 hm with e | e;exact absurd e hx;have:=ih.2 e;omega⟩
 exact (key _).2 (List.mem_range.2 hi)
theorem QmC{S:Array Bool}{m:Nat}(h:QjY S m=0){j:Nat}(hj:j<m):S.getD j false=true:=by
 unfold QjY at h
 have h0:=List.eq_nil_of_length_eq_zero h
 have:=List.filter_eq_nil_iff.1 h0 j (List.mem_range.2 hj)
 simpa using this
theorem Qmq{l:List Oper}{S:Array Bool}(hS:S.size=l.length)(hb:QpM l=true)(h:Region.ready .any l.toArray S=[]):∀ j,j<l.length→S.getD j false=true:=by
 intro j
 induction j using Nat.strongRecOn with
 | ind j ih =>
  intro hj
  cases hc:S.getD j false with
  | true=>rfl
  | false =>
   exfalso
   have hm:j∈Region.ready .any l.toArray S:=by
    refine mem_ready.2 ⟨?_,l[j],by simp [hj],fun e he hbi=>?_⟩
    ·rw [Array.getD_eq_getD_getElem?] at hc ⊢
     have:j<S.size:=by omega
     simpa [this] using hc
    ·unfold QpM at hb
     have h1:=List.all_eq_true.1 hb j (List.mem_range.2 hj)
     rw [List.getElem?_eq_getElem hj] at h1
     have h2:∀ e∈l[j].after,(!Region.binds .any e||Nat.blt e.on j)=true:=fun e he=>by
      obtain ⟨i,hi,he'⟩:=Array.mem_iff_getElem.1 he
      subst he'
      simp only [Array.all_eq_true] at h1
      exact h1 i hi
     have h3:=h2 e he
     rw [hbi] at h3
     have hlt:e.on<j:=by simpa using h3
     exact ih _ hlt (by omega)
   rw [h] at hm
   cases hm
theorem Qj2{t:Nat}{v:Value}(h:lk L t=some v):t∈L.map (·.1):=List.mem_map.2 ⟨_,Qq6 h,rfl⟩
theorem QvI{l:List Oper}{kds:List Kd}{Wm:Gh→Nat→World→Prop}{tot:Nat}(hb:QpM l=true)(ha:QoZ n kds kds l=true)(hap:Qi6 (L.map (·.1)) kds=true)(hr:Qhv kds tot=true)(hfx:QsW kds)(hbo:Qi3 kds l tot=true)
  (hO:Obs n L P l.toArray kds Wm kds l) (fin:∀ b,At n (QdF kds b (List.range l.length)++L) (Wm b tot) (Q .normal)) :
  ∀ (fuel:Nat) (S:Array Bool) (a:Act) (w:World),S.size=l.length→QjY S l.length≤fuel→inSt n L l kds Wm tot S a w→wpAny P .any l.toArray Q fuel S a w:=by
 have done:∀ (S:Array Bool) (a:Act) (w:World),(∀ j,j<l.length→S.getD j false=true)→inSt n L l kds Wm tot S a w→Q .normal a w:=by
  intro S a w hall ⟨b,s,h1,h2,h3,h4,h5,h6,h7,_⟩
  have hs:s=tot:=by
   rcases Nat.lt_or_ge s tot with hlt | hge
   ·obtain ⟨j,kd,hj,hk⟩:=QiU hr hlt
    have hjl:j<l.length:=by rw [←Qip ha];exact (List.getElem?_eq_some_iff.1 hj).1
    exact absurd ((h5 j kd s hj hk).1 (hall j hjl)) (Nat.lt_irrefl _)
   ·omega
  subst hs
  refine fin b a w ⟨h1,h2,fun t v hv=>?_⟩ h7
  rcases QfQ hv with hv | hv
  ·exact QfT h4 (fun j hj=>hall j (List.mem_range.1 hj)) t v hv
  ·exact h3 t v hv
 intro fuel
 induction fuel with
 | zero =>
  intro S a w hS ho hi
  have hall:=fun j (hj:j<l.length)=>QmC (Nat.le_zero.1 ho) hj
  refine ⟨?_,done S a w hall hi⟩
  cases hrd:Region.ready .any l.toArray S with
  | nil=>rfl
  | cons x r =>
   exfalso
   obtain ⟨hx1,o,hx2,_⟩:=mem_ready.1 (show x∈Region.ready .any l.toArray S by rw [hrd];exact List.mem_cons_self ..)
   have hxl:x<l.length:=by simpa using (Array.getElem?_eq_some_iff.1 hx2).1
   have hx3:=hall x hxl
   have hxs:x<S.size:=by omega
   rw [Array.getD_eq_getD_getElem?] at hx1 hx3
   simp [hxs] at hx1 hx3
   rw [hx1] at hx3;cases hx3
 | succ fuel ih =>
  intro S a w hS ho hi
  refine ⟨fun hrd=>done S a w (Qmq hS hb hrd) hi,fun i hir=>?_⟩
  obtain ⟨hx1,o,hx2,hx3⟩:=mem_ready.1 hir
  have hil:i<l.length:=by simpa using (Array.getElem?_eq_some_iff.1 hx2).1
  have his:i<S.size:=by omega
  have hx0:S.getD i false=false:=by
   rw [Array.getD_eq_getD_getElem?] at hx1 ⊢
   simpa [his] using hx1
  have hlo:l[i]? = some o:=by simpa using hx2
  obtain ⟨kd,hk,hob⟩:=QqR hO hlo
  have hneed:=QmD (QlY ha hlo hk)
  obtain ⟨b,s,h1,h2,h3,h4,h5,h6,h7,h8⟩:=hi
  have hcnt:QjY (S.setIfInBounds i true) l.length≤fuel:=by have:=Qoo hil his hx0;omega
  have hsz:(S.setIfInBounds i true).size=l.length:=by simpa using hS
  have env:Env n (QdF kds b kd.need++(L++Qf9 a)) a:=by
   refine ⟨h1,h2,fun t v hv=>?_⟩
   rcases QfQ hv with hv | hv
   ·exact QfT h4 (fun j hj=>QeB hx3 (hneed j hj)) t v hv
   ·rcases QfQ hv with hv | hv
    ·exact h3 t v hv
    ·exact Qj3 hv
  have out:∀ (a':Act),a'.tmps.size=n→∀ t,¬ t<a.tmps.size→a'.tmps.getD t undef=a.tmps.getD t undef:=by
   intro a' hz t hts
   have:¬ t<a'.tmps.size:=by rw [hz,←h1];exact hts
   rw [Array.getD_eq_getD_getElem?,Array.getD_eq_getD_getElem?]
   simp [hts,this]
  have kp:∀ (a':Act) (d:Nat) (v:Value),Env n ((d,v)::(QdF kds b kd.need++(L++Qf9 a))) a'→∀ t,t≠d→a'.tmps.getD t undef=a.tmps.getD t undef:=by
   intro a' d v he t htd
   by_cases hts:t<a.tmps.size
   ·obtain ⟨u,hu⟩:=Qe6 (A:=QdF kds b kd.need) (Qe6 (A:=L) ⟨_,Qly a t hts⟩)
    rw [env.vals t u hu]
    refine he.vals t _ ?_
    rw [QdT,if_neg (fun e=>htd e.symm)]
    exact hu
   ·exact out a' he.size t hts
  have kp0:∀ (a':Act),Env n (QdF kds b kd.need++(L++Qf9 a)) a'→∀ t,a'.tmps.getD t undef=a.tmps.getD t undef:=by
   intro a' he t
   by_cases hts:t<a.tmps.size
   ·obtain ⟨u,hu⟩:=Qe6 (A:=QdF kds b kd.need) (Qe6 (A:=L) ⟨_,Qly a t hts⟩)
    rw [env.vals t u hu]
    exact he.vals t _ hu
   ·exact out a' he.size t hts
  have other:∀ j,j≠i→(S.setIfInBounds i true).getD j false=S.getD j false:=fun j hj=>Qd0 (fun e=>hj e.symm)
  have closed:∀ j o' i',(S.setIfInBounds i true).getD j false=true→l[j]? = some o'→QpU o' i'=true→(S.setIfInBounds i true).getD i' false=true:=by
   intro j o' i' hj hjo he
   refine getD_set_true ?_
   by_cases hji:j=i
   ·subst hji
    rw [hlo] at hjo;cases hjo
    exact QeB hx3 he
   ·rw [other j hji] at hj
    exact h8 j o' i' hj hjo he
  have hsk:∀ k,kd.rank=some k→s=k:=by
   intro k hkk
   have hle:¬ k<s:=fun hlt=>by have:=(h5 i kd k hk hkk).2 hlt;rw [hx0] at this;cases this
   cases k with
   | zero=>omega
   | succ k =>
    obtain ⟨j,hje,hjr⟩:=Qki hbo hk hlo hkk
    obtain ⟨kd',hj1,hj2⟩:=QdY hjr
    have:=(h5 j kd' k hj1 hj2).1 (QeM h8 hlo hx3 hje)
    omega
  have ranks:∀ k,kd.rank=some k→∀ j kd' k',kds[j]? = some kd'→kd'.rank=some k'→((S.setIfInBounds i true).getD j false=true↔k'<k+1):=by
   intro k hkk j kd' k' hj hk'
   by_cases hji:j=i
   ·subst hji
    rw [hk] at hj;cases hj
    rw [hkk] at hk';cases hk'
    rw [Qe8 his];simp
   ·rw [other j hji,h5 j kd' k' hj hk']
    have hs:=hsk k hkk
    have hne:k'≠k:=fun e=>by subst e;exact hji (QkL hr hj hk' hk hkk)
    omega
  have ranks0:kd.rank=none→∀ j kd' k',kds[j]? = some kd'→kd'.rank=some k'→((S.setIfInBounds i true).getD j false=true↔k'<s):=by
   intro hkn j kd' k' hj hk'
   have hji:j≠i:=fun e=>by subst e;rw [hk] at hj;cases hj;rw [hkn] at hk';cases hk'
   rw [other j hji];exact h5 j kd' k' hj hk'
  have below:∀ j kd',S.getD j false=true→kds[j]? = some kd'→kd'.bound≤s:=by
   intro j kd' hj hj'
   have rk:∀ k,kd'.rank=some k→k+1≤s:=fun k hkk=>(h5 j kd' k hj' hkk).1 hj
   cases kd' with
   | st k dv need=>exact rk k rfl
   | al k d v need=>exact rk k rfl
   | q d v need lo hi =>
    have hjl:j<l.length:=by rw [←Qip ha];exact (List.getElem?_eq_some_iff.1 hj').1
    have hjo:l[j]? = some l[j]:=List.getElem?_eq_getElem hjl
    cases lo with
    | zero=>exact Nat.zero_le _
    | succ k =>
     obtain ⟨i',hie,hir'⟩:=(Qfs hbo hj' hjo).1 k rfl
     obtain ⟨kd2,hi1,hi2⟩:=QdY hir'
     exact (h5 i' kd2 k hi1 hi2).1 (Qdm h8 _ _ _ hie hj)
  have putL:∀ (b':Gh) (d:Nat) (v:Value) (a':Act),kd.dst=some d→kd.val b'=v→(∀ k,k<s→b k=b' k)→Env n ((d,v)::(QdF kds b kd.need++(L++Qf9 a))) a' →
    (∀ t u,lk L t=some u→a'.tmps.getD t undef=u)∧(∀ j kd' d',(S.setIfInBounds i true).getD j false=true→kds[j]? = some kd'→kd'.dst=some d'→a'.tmps.getD d' undef=kd'.val b'):=by
   intro b' d v a' hd hv hbb he
   refine ⟨fun t u hu=>?_,fun j kd' d' hj hj' hd'=>?_⟩
   ·rw [kp a' d v he t (Qkl hap hk hd t (Qj2 hu))];exact h3 t u hu
   ·by_cases hji:j=i
    ·subst hji
     rw [hk] at hj';cases hj'
     rw [hd] at hd';cases hd'
     rw [hv]
     exact he.vals _ _ (by rw [QdT,if_pos rfl])
    ·rw [other j hji] at hj
     rw [kp a' d v he d' (Qk7 hap hj' hd' hk hd hji),h4 j kd' d' hj hj' hd']
     have hbd:=below j kd' hj hj'
     exact QmP hfx hj' b b' fun k hkl=>hbb k (by omega)
  refine Qp1 hx2 ?_
  cases kd with
  | q d v need lo hi =>
   obtain ⟨hlo1,hhi1⟩:=Qfs hbo hk hlo
   have hls:lo≤s:=by
    cases lo with
    | zero=>exact Nat.zero_le _
    | succ k =>
     obtain ⟨j,hje,hjr⟩:=hlo1 k rfl
     obtain ⟨kd',hj1,hj2⟩:=QdY hjr
     exact (h5 j kd' k hj1 hj2).1 (QeM h8 hlo hx3 hje)
   have hsh:s≤hi:=by
    rcases hhi1 with h | ⟨j,hjr,hje⟩
    ·omega
    ·obtain ⟨kd',hj1,hj2⟩:=QdY hjr
     have:¬ hi<s:=fun hlt=>by
      have hc:=Qdm h8 _ _ _ hje ((h5 j kd' hi hj1 hj2).2 hlt)
      rw [hx0] at hc;cases hc
     omega
   refine hob (Qf9 a) b s _ hls hsh (fun a' w' he hw'=>ih _ a' w' hsz hcnt ?_) a w env h7
   obtain ⟨p1,p2⟩:=putL b d _ a' rfl rfl (fun _ _=>rfl) he
   exact ⟨b,s,he.size,he.defs,p1,p2,ranks0 rfl,h6,hw',closed⟩
  | st k dv need =>
   have hs:=hsk k rfl
   subst hs
   refine hob (Qf9 a) b _ (fun a' w' he hw'=>ih _ a' w' hsz hcnt ?_) a w env h7
   cases dv with
   | none=>exact ⟨b,_,he.size,he.defs,fun t u hu=>by rw [kp0 a' he];exact h3 t u hu,fun j kd' d' hj hj' hd'=>by
     have hji:j≠i:=fun e=>by subst e;rw [hk] at hj';cases hj';cases hd'
     rw [other j hji] at hj
     rw [kp0 a' he];exact h4 j kd' d' hj hj' hd',ranks _ rfl,Qfj hr hk rfl,hw',closed⟩
   | some x =>
    obtain ⟨d,v⟩:=x
    obtain ⟨p1,p2⟩:=putL b d _ a' rfl rfl (fun _ _=>rfl) he
    exact ⟨b,_,he.size,he.defs,p1,p2,ranks _ rfl,Qfj hr hk rfl,hw',closed⟩
  | al k d v need =>
   have hs:=hsk k rfl
   subst hs
   refine hob (Qf9 a) b _ (fun x a' w' he hw'=>ih _ a' w' hsz hcnt ?_) a w env h7
   obtain ⟨p1,p2⟩:=putL (QkG b s x) d _ a' rfl rfl (fun j hj=>(Qp7 hj).symm) he
   exact ⟨QkG b s x,_,he.size,he.defs,p1,p2,ranks _ rfl,Qfj hr hk rfl,hw',closed⟩
theorem Qey{id:Nat}{l:List Oper}(kds:List Kd)(Wm:Gh→Nat→World→Prop)(tot:Nat)(hm:P.follows .mixedOrders=true)
  (hb:QpM l=true) (ha:QoZ n kds kds l=true) (hap:Qi6 (L.map (·.1)) kds=true) (hr:Qhv kds tot=true) (hfx:QsW kds) (hbo:Qi3 kds l tot=true)
  (hW:∀ w,W w→∃ b,Wm b 0 { w with drawn:=w.drawn+1 }) (hO:Obs n L P l.toArray kds Wm kds l)
  (fin:∀ b,At n (QdF kds b (List.range l.length)++L) (Wm b tot) (Q .normal)):At n L W ((Code.region id l.toArray true).wp P Q):=fun a w h hw=>by
 obtain ⟨b,hw0⟩:=hW w hw
 have hrep:∀ j,(Array.replicate l.toArray.size false).getD j false=false:=fun j=>by
  rw [Array.getD_eq_getD_getElem?,Array.getElem?_replicate];split<;>rfl
 refine wp_region_any hm (QvI hb ha hap hr hfx hbo hO fin _ _ a _ (by simp) ?_ ⟨b,0,h.size,h.defs,h.vals,fun j kd d hj=>?_,fun j kd k _ _=>?_,Nat.zero_le _,hw0,fun j o i hj=>?_⟩)
 ·unfold QjY
  exact Nat.le_trans (List.length_filter_le ..) (by simp)
 ·rw [hrep] at hj;cases hj
 ·rw [hrep];simp
 ·rw [hrep] at hj;cases hj
section
variable {n : Nat} {L : List (Nat × Value)} {w0 w : World} {H G : List Ent} {E E' : Ent} {f : Ent → List Ent} {P : Program} {ops : Array Oper} {Q : Exit → Act → World → Prop} {rest : List Oper} {d : Nat} {ty : TypeId} {pos : String} {aft : Array Edge}
theorem Upd.again(h:Upd H E f G)(E':Ent):Upd (f E') E' f G:=by
 induction h with
 | z=>exact .z
 | s _ ih=>exact .s ih
theorem QdJ{X:Act→World→Prop}(hu:Upd H E f G)(hw:Wd w0 H w)(k:At n L (Wd w0 (f E)) X):At n L (fun w'=>w'=w) X :=
 Qeo (fun w1 h=>by subst h;rw [hu.same];exact hw) k
theorem QbM{fid : FuncId}{fn : Func}{xs : List Operand}{ats : Array TypeId}{l : List Value}{v : Value}(hf : P.funcs[fid]? = some fn)(hb : fn.body.isSome = true)(hnm : (fn.name == "runtime.NumGoroutine") = false)
  (hx:evs L xs=some l) (hdn:Nat.blt d n=true) (hc:∀ w,Wd w0 H w→Calls P fid l.toArray w fun e w'=>e=.returned v∧Wd w0 (f E') w')
  (kk:At n ((d,v)::L) (Wd w0 (f E')) (wpList P ops Q rest)) :
  At n L (Wd w0 H) (wpList P ops Q (⟨some d,.call { callee:=.value (.func fid),args:=xs.toArray,argTypes:=ats },ty,pos,aft,none⟩::rest)) :=
 QeZ (W':=fun u w'=>u=v∧Wd w0 (f E') w') hf hb hnm hx hdn (fun w hw=>(hc w hw).mono fun e w' ⟨he,hw'⟩=>⟨v,he,rfl,hw'⟩) fun u a w h ⟨hu,hw⟩=>by
  subst hu;exact kk a w h hw
end
section
variable {n : Nat} {L : List (Nat × Value)} {ops : Array Oper} {Q : Exit → Act → World → Prop} {rest : List Oper} {w0 : World} {H : List Ent} {P : Program} {d : Nat} {ty : TypeId} {pos : String} {aft : Array Edge} {t e : TypeId}
end
end Go.Proofs.YtnekckhjmnhinaaGreatDoor.E
namespace Go.Proofs.YtnekckhjmnhinaaGreatDoor.E
open Go.RowKit
variable {n : Nat} {L L' : List (Nat × Value)} {a : Act} {W : World → Prop} {P : Program} {ops : Array Oper} {Q : Exit → Act → World → Prop} {rest : List Oper} {w0 : World} {H : List Ent}
variable {α β γ : Type}
def QuT(c:Cd (γ×α))(N:World→γ×α→Prop)(w:World)(p:Option Addr)(cap:Nat)(xs:List α):Prop :=
 ∃ zs:List (γ×α),zs.map Prod.snd=xs∧Row c w p cap zs∧∀ z∈zs,N w z
theorem zlen{zs:List (γ×α)}{xs:List α}(hz:zs.map Prod.snd=xs):zs.length=xs.length:=by rw [←hz,List.length_map]
theorem QiT{zs:List (γ×α)}{xs:List α}{i:Int}(hz:zs.map Prod.snd=xs)(hi:0≤i∧i<xs.length):0≤i∧i<zs.length:=by rw [zlen hz];exact hi
theorem QtH[Inhabited γ][Inhabited α]{zs:List (γ×α)}{xs:List α}(hz:zs.map Prod.snd=xs)(i:Int):∃ g,QO zs i=(g,QO xs i):=by
 refine ⟨(QO zs i).1,?_⟩
 have:QO xs i=(QO zs i).2:=by
  subst hz
  unfold QO
  rw [List.getD_eq_getElem?_getD,List.getD_eq_getElem?_getD,List.getElem?_map]
  cases zs[i.toNat]?<;>rfl
 rw [this]
theorem zmem[Inhabited α]{zs:List α}{i:Int}(hi:0≤i∧i<zs.length):QO zs i∈zs:=List.mem_of_getElem? (QmG hi)
theorem nz[Inhabited γ][Inhabited α]{N:World→γ×α→Prop}{w:World}{zs:List (γ×α)}{z:γ×α}{i:Int}(hg:QO zs i=z)(hn:∀ z∈zs,N w z)(hi:0≤i∧i<zs.length):N w z:=hg▸hn _ (zmem hi)
theorem QuT.below{c:Cd (γ×α)}{N:World→γ×α→Prop}{w w':World}{p:Option Addr}{cap:Nat}{xs:List α}(h:QuT c N w p cap xs)(hb:Below w.heap.size w w')(hN:∀ z,N w z→N w' z):QuT c N w' p cap xs:=by
 obtain ⟨zs,h1,h2,h3⟩:=h
 exact ⟨zs,h1,h2.below hb,fun z hz=>hN z (h3 z hz)⟩
theorem all_nil{φ:α→Prop}:∀ z∈([]:List α),φ z:=by simp
theorem all_cons{φ:α→Prop}{a:α}{l:List α}(h:φ a)(t:∀ z∈l,φ z):∀ z∈a::l,φ z:=fun z hz=>by
 rcases List.mem_cons.1 hz with rfl | hz
 ·exact h
 ·exact t z hz
theorem Qpk[Inhabited γ][Inhabited α]{c:Cd (γ×α)}{p:Option Addr}{cap:Nat}{zs:List (γ×α)}{z:γ×α}{i:Int}{b o:Nat}(hW:∀ w,W w→Below w0.heap.size w0 w)(hrow:Row c w0 p cap zs)(hi:0≤i∧i<zs.length)(hp:p=some ⟨b,o,none⟩)(hg:QO zs i=z) :
  ∀ w,W w→∀ k v,(c.cs z)[k]? = some v→w.cell? ⟨b,o+i.toNat*c.sz+k,none⟩=some v:=by
 subst hg;exact QdB hW hrow hi hp
theorem Qww[Inhabited γ][Inhabited α]{c:Cd (γ×α)}{c':Cd β}{y:β}{put:β→List Value}{ofs:Nat}{p:Option Addr}{cap:Nat}{zs:List (γ×α)}{z:γ×α}{i:Int}{b o:Nat}(hW:∀ w,W w→Below w0.heap.size w0 w)(hrow:Row c w0 p cap zs)(hi:0≤i∧i<zs.length)(hp:p=some ⟨b,o,none⟩)(hg:QO zs i=z)
  (l:Qaf (c.cs z) ofs c' y put):∀ w,W w→∀ j v,(c'.cs y)[j]? = some v→w.cell? ⟨b,o+i.toNat*c.sz+ofs+j,none⟩=some v:=by
 subst hg;exact Qsk hW hrow hi hp l
end Go.Proofs.YtnekckhjmnhinaaGreatDoor.E
namespace Go.Proofs.YtnekckhjmnhinaaGreatDoor.E
open Go.RowKit
variable {n : Nat} {L L' : List (Nat × Value)} {a : Act} {W : World → Prop} {P : Program} {ops : Array Oper} {Q : Exit → Act → World → Prop} {rest : List Oper} {w0 : World} {H : List Ent}
variable {α β γ ν : Type}
abbrev nn(_:Nat):Option Addr:=none
def pv(g:Nat→Nat)(x:Option Nat):Value:=.pointer (x.map fun i=>⟨g i,0,none⟩)
def vp(m:Nat):Option Nat→Bool
 | none=>true
 | some i=>decide (i<m)
theorem QfX{X:Act→World→Prop}{w:World}(hw:Wd w0 H w)(k:At n L (Wd w0 H) X):At n L (fun w'=>w'=w) X:=Qeo (fun w1 e=>by subst e;exact hw) k
structure HK (ν:Type) where
 ob:(Nat→Nat)→ν→Obj→Prop
 ptr:ν→List (Option Nat)
 ext:∀ (g g':Nat→Nat) (v:ν) (o:Obj),(∀ i,some i∈ptr v→g' i=g i)→ob g v o→ob g' v o
def hvp(K:HK ν)(h:List ν)(v:ν):Bool:=(K.ptr v).all (vp h.length)
def QwC(K:HK ν)(g0:Nat→Nat)(n0:Nat)(g:Nat→Nat)(h:List ν):Ent :=
 ⟨(List.range h.length).map g,fun w=>(∀ i v,h[i]? = some v→(∃ o,w.heap[g i]? = some o∧K.ob g v o)∧∀ j,some j∈K.ptr v→j<h.length)∧(∀ i j,i<h.length→j<h.length→g i=g j→i=j)∧n0≤h.length∧∀ i,i<n0→g i=g0 i,
  fun w w' hk ⟨h1,h2⟩=>⟨fun i v hv=>by
   obtain ⟨⟨o,ho,hb⟩,hp⟩:=h1 i v hv
   have hi:i<h.length:=(List.getElem?_eq_some_iff.1 hv).1
   exact ⟨⟨o,(hk (g i) (List.mem_map.2 ⟨i,List.mem_range.2 hi,rfl⟩)).trans ho,hb⟩,hp⟩,h2⟩⟩
variable {K : HK ν} {g0 g : Nat → Nat} {n0 : Nat} {h : List ν} {f : Ent → List Ent} {G : List Ent}
theorem Qup{c:Cd β}{v:ν}{i o t:Nat}{cells:List Value}{y:β}{put:β→List Value}(hu:Upd H (QwC K g0 n0 g h) f G)(hi:h[i]? = some v)(hob:∀ ob,K.ob g v ob→ob=.cells cells.toArray t (0,0))(l:Qaf cells o c y put) :
  ∀ w,Wd w0 H w→∀ k u,(c.cs y)[k]? = some u→w.cell? ⟨g i,o+k,none⟩=some u:=fun w hw k u hk=>by
 obtain ⟨⟨ob,ho,hb⟩,_⟩:=(hw.ok hu.mem).1 i v hi
 have e:=hob ob hb
 subst e
 exact Qkf (b:=g i) (t:=t) (cells:=cells) ho _ _ (l.get k u hk)
theorem Sep.swap{B:Nat}{E E':Ent}{w:World}(hu:Upd H E f G)(h:Sep B H w)(hok:E'.ok w)(hfp:∀ k∈E'.fp,k∈E.fp∨(B≤k∧k<w.heap.size∧∀ F∈H,k∉F.fp)):Sep B (f E') w:=by
 induction hu with
 | @z E H =>
  refine ⟨hok,fun k hk=>?_,h.2.2⟩
  rcases hfp k hk with h1 | ⟨a,b,c⟩
  ·exact h.2.1 k h1
  ·exact ⟨a,b,fun F hF=>c F (List.mem_cons_of_mem _ hF)⟩
 | @s F E H f G hu ih =>
  refine ⟨h.1,fun k hk=>⟨(h.2.1 k hk).1,(h.2.1 k hk).2.1,fun F' hF' hk'=>?_⟩,ih h.2.2 fun k hk=>(hfp k hk).imp id fun ⟨a,b,c⟩=>⟨a,b,fun F' hF'=>c F' (List.mem_cons_of_mem _ hF')⟩⟩
  rcases hu.mem' F' hF' with rfl | hF'
  ·rcases hfp k hk' with h1 | ⟨_,_,c⟩
   ·exact (h.2.1 k hk).2.2 E hu.mem h1
   ·exact c F (List.mem_cons_self ..) hk
  ·exact (h.2.1 k hk).2.2 F' hF' hk'
theorem Wd.swap{E E':Ent}{w:World}(hu:Upd H E f G)(h:Wd w0 H w)(hok:E'.ok w)(hfp:∀ k∈E'.fp,k∈E.fp∨(w0.heap.size≤k∧k<w.heap.size∧∀ F∈H,k∉F.fp)):Wd w0 (f E') w :=
 ⟨h.below,h.sep.swap hu hok hfp⟩
theorem Sep.other{B:Nat}{E:Ent}{w:World}(hu:Upd H E f G)(h:Sep B H w):∀ k∈E.fp,∀ F∈G,k∉F.fp:=by
 induction hu with
 | z=>exact fun k hk F hF=>(h.2.1 k hk).2.2 F hF
 | @s F E H f G hu ih =>
  intro k hk F' hF'
  rcases List.mem_cons.1 hF' with rfl | hF'
  ·exact fun hk'=>(h.2.1 k hk').2.2 E hu.mem hk
  ·exact ih h.2.2 k hk F' hF'
theorem Wd.front{E:Ent}{w:World}(hu:Upd H E f G)(h:Wd w0 H w):Wd w0 (E::G) w :=
 ⟨h.below,h.ok hu.mem,fun k hk=>⟨(h.fp hu.mem k hk).1,(h.fp hu.mem k hk).2,h.sep.other hu k hk⟩,(h.drop hu).sep⟩
theorem Qac{X:Act→World→Prop}{E:Ent}(hu:Upd H E f G)(k:At n L (Wd w0 (E::G)) X):At n L (Wd w0 H) X:=Qeo (fun _ h=>h.front hu) k
section
variable {d : Nat} {ty : TypeId} {pos : String} {aft : Array Edge} {t e s : TypeId} {x y : Operand}
variable {c : Cd α} {b cap : Nat} {p : Option Addr} {xs : List α}
end
end Go.Proofs.YtnekckhjmnhinaaGreatDoor.E
namespace Go.Proofs.YtnekckhjmnhinaaGreatDoor.E
open Go.RowKit
variable {n m : Nat} {L Lc : List (Nat × Value)} {W : World → Prop} {P : Program} {ops : Array Oper} {Q : Exit → Act → World → Prop} {rest : List Oper}
variable {d : Nat} {fn : Func}
section
variable {f : FuncId} {dst : Option Nat} {x : Operand} {xs : List Operand} {ats : Array TypeId} {ty : TypeId} {pos : String} {aft : Array Edge} {g : Option (Nat × Bool)} {caps : List Value}
end
theorem Own.of_cells{α:Type}{w0 w:World}{H:List Ent}{c:Cd α}{e:TypeId}{b:Nat}{xs:List α}(hw:Wd w0 H w)(hm:Qi b (c.all xs) e∈H)(hl:Nat.ble xs.length maxLen=true):Own c e w0.heap.size w (some ⟨b,0,none⟩) xs.length xs :=
 ⟨c.all_len xs,.inr ⟨b,xs.length,(c.all xs).toArray,rfl,(hw.fp hm b (by simp [Qi])).1,hw.ok hm,Nat.le_refl _,Nat.le_of_ble_eq_true hl,by simp [c.all_len],by rw [←c.all_len xs];simp⟩⟩
end Go.Proofs.YtnekckhjmnhinaaGreatDoor.E
namespace Go.Proofs.YtnekckhjmnhinaaGreatDoor.E
open Go.RowKit
variable {n : Nat} {L L' : List (Nat × Value)} {a : Act} {W : World → Prop} {P : Program} {ops : Array Oper} {Q : Exit → Act → World → Prop} {rest : List Oper} {w0 : World} {H G : List Ent} {f : Ent → List Ent}
variable {α β γ : Type} {K K' K'' : Nat → Prop} {s s' s'' : World} {p : Option Addr} {cap : Nat}
structure Qc7 (K:Nat→Prop) (s:World) (K':Nat→Prop) (s':World):Prop where
 k:∀ b,K b→K' b
 e:∀ b,K b→s'.heap[b]? = s.heap[b]?
theorem Qc7.refl(K:Nat→Prop)(s:World):Qc7 K s K s:=⟨fun _ h=>h,fun _ _=>rfl⟩
theorem Qc7.mono(h:Qc7 K s K' s')(m:Qc7 K' s' K'' s''):Qc7 K s K'' s'':=⟨fun b hb=>m.k b (h.k b hb),fun b hb=>(m.e b (h.k b hb)).trans (h.e b hb)⟩
theorem QrL{w w':World}{b o:Nat}(h:w'.heap[b]? = w.heap[b]?):w'.cell? ⟨b,o,none⟩=w.cell? ⟨b,o,none⟩:=by
 unfold World.cell?;simp only [h]
def RowK(K:Nat→Prop)(c:Cd α)(w:World)(p:Option Addr)(cap:Nat)(xs:List α):Prop :=
 Row c w p cap xs∧(xs=[]∨∃ b o,p=some ⟨b,o,none⟩∧K b)
theorem RowK.row{c:Cd α}{xs:List α}(h:RowK K c s p cap xs):Row c s p cap xs:=h.1
theorem RowK.nil(K:Nat→Prop)(c:Cd α)(s:World)(p:Option Addr)(cap:Nat):RowK K c s p cap []:=⟨Row.nil ..,.inl rfl⟩
theorem RowK.mono{c:Cd α}{xs:List α}(h:RowK K c s p cap xs)(m:Qc7 K s K' s'):RowK K' c s' p cap xs:=by
 obtain ⟨⟨hl,h1⟩,h2⟩:=h
 rcases h2 with rfl | ⟨b,o,hp,hb⟩
 ·exact ⟨⟨hl,.inl rfl⟩,.inl rfl⟩
 ·refine ⟨⟨hl,?_⟩,.inr ⟨b,o,hp,m.k b hb⟩⟩
  rcases h1 with h1 | ⟨b',o',hp',hc⟩
  ·exact .inl h1
  ·rw [hp] at hp'
   cases hp'
   exact .inr ⟨b,o,hp,fun j u hu=>(QrL (m.e b hb)).trans (hc j u hu)⟩
def Qfv(c:Cd (γ×α))(N:(Nat→Prop)→World→γ×α→Prop)(K:Nat→Prop)(w:World)(p:Option Addr)(cap:Nat)(xs:List α):Prop :=
 ∃ zs:List (γ×α),zs.map Prod.snd=xs∧RowK K c w p cap zs∧∀ z∈zs,N K w z
theorem Qfv.nil(c:Cd (γ×α))(N:(Nat→Prop)→World→γ×α→Prop)(K:Nat→Prop)(w:World)(p:Option Addr)(cap:Nat):Qfv c N K w p cap []:=⟨[],rfl,RowK.nil ..,by simp⟩
theorem Qfv.mono_of{c:Cd (γ×α)}{N:(Nat→Prop)→World→γ×α→Prop}{xs:List α}(hN:∀ z,N K s z→N K' s' z)(h:Qfv c N K s p cap xs)(m:Qc7 K s K' s'):Qfv c N K' s' p cap xs:=by
 obtain ⟨zs,h1,h2,h3⟩:=h
 exact ⟨zs,h1,h2.mono m,fun z hz=>hN z (h3 z hz)⟩
theorem Qfv.n_of{c:Cd (γ×α)}{N:(Nat→Prop)→World→γ×α→Prop}{N':World→γ×α→Prop}{xs:List α}(hN:∀ z,N K s z→N' s z)(h:Qfv c N K s p cap xs):QuT c N' s p cap xs:=by
 obtain ⟨zs,h1,h2,h3⟩:=h
 exact ⟨zs,h1,h2.row,fun z hz=>hN z (h3 z hz)⟩
def cSv(α:Type):Cd ((Option Addr×Nat)×List α):=⟨1,fun z=>[.slice z.1.1 z.2.length z.1.2],fun _=>rfl,fun _ v hv=>by simp at hv;subst hv;rfl,by decide⟩
def KZ(w0:World)(Z:List Nat)(b:Nat):Prop:=b<w0.heap.size∨b∈Z
def QcM(w0:World)(Z:List Nat)(s:World):Ent :=
 ⟨Z,fun w=>(∀ b,b<w0.heap.size→s.heap[b]? = w0.heap[b]?)∧∀ b∈Z,w.heap[b]? = s.heap[b]?,fun w w' hk h=>⟨h.1,fun b hb=>(hk b hb).trans (h.2 b hb)⟩⟩
variable {Z : List Nat}
theorem QaX(hu:Upd H (QcM w0 Z s) f G){w:World}(hw:Wd w0 H w):Qc7 (KZ w0 Z) s (fun b=>b<w.heap.size) w:=by
 have ho:=hw.ok hu.mem
 refine ⟨fun b hb=>?_,fun b hb=>?_⟩
 ·rcases hb with hb | hb
  ·exact Nat.lt_of_lt_of_le hb hw.below.size
  ·exact (hw.fp hu.mem b hb).2
 ·rcases hb with hb | hb
  ·exact (hw.below.block b hb).trans (ho.1 b hb).symm
  ·exact ho.2 b hb
theorem kz0(w0:World):Qc7 (fun b=>b<w0.heap.size) w0 (KZ w0 []) w0:=⟨fun _ h=>.inl h,fun _ _=>rfl⟩
def Qbh(φ:Prop):Ent:=⟨[],fun _=>φ,fun _ _ _ h=>h⟩
theorem QcH{X:Act→World→Prop}{φ:Prop}(h:φ)(k:At n L (Wd w0 (Qbh φ::H)) X):At n L (Wd w0 H) X :=
 Qeo (fun w hw=>hw.push (E:=Qbh φ) (Below.refl _ _) h (by intro k hk;simp [Qbh] at hk)) k
theorem QuK{X:Act→World→Prop}(k:∀ Z s,Qc7 (fun b=>b<w0.heap.size) w0 (KZ w0 Z) s→At n L (Wd w0 (QcM w0 Z s::H)) X):At n L (Wd w0 H) X :=
 Qeo (fun w hw=>hw.push (E:=QcM w0 [] w0) (Below.refl _ _) ⟨fun _ _=>rfl,by simp⟩ (by intro k hk;simp [QcM] at hk)) (k [] w0 (kz0 w0))
theorem Qd2{X:Act→World→Prop}{c:Cd α}{e:TypeId}{xs:List α}(hu:Upd H (QcM w0 Z s) f G)
  (k:∀ Z' s',Qc7 (KZ w0 Z) s (KZ w0 Z') s'→RowK (KZ w0 Z') c s' p cap xs→At n L (Wd w0 (f (QcM w0 Z' s'))) X):At n L (Wd w0 (Qbm c e p cap xs::H)) X:=fun a w he hw=>by
 have hm:=QaX (Upd.s hu) hw
 have hown:=hw.own .z
 refine k ((Qbm c e p cap xs).fp++Z) w ⟨fun b hb=>hb.imp id (List.mem_append_right _),hm.e⟩ ⟨hown.row,?_⟩ a w he (hw.pop.swap hu ⟨fun b hb=>hw.below.block b hb,fun _ _=>rfl⟩ fun k hk=>?_)
 ·rcases hown.2 with ⟨_,h0⟩ | ⟨g,cap',cur,hv,_,hh,r⟩
  ·exact .inl (List.eq_nil_of_length_eq_zero h0)
  ·refine .inr ⟨g,0,by cases hv;rfl,.inr (List.mem_append_left _ ?_)⟩
   show g∈(Value.slice p xs.length cap).ownBlock.toList
   rw [hv];simp [Value.ownBlock]
 ·rcases List.mem_append.1 hk with hk | hk
  ·exact .inr (hw.sep.2.1 k hk)
  ·exact .inl hk
theorem QpO{X:Act→World→Prop}{c:Cd α}{e:TypeId}{b m:Nat}{xs:List α}(hu:Upd H (Qi b (c.all xs) e) f G)(hm:xs.length=m)(hl:Nat.ble xs.length maxLen=true)(k:At n L (Wd w0 (f (Qbm c e (some ⟨b,0,none⟩) m xs))) X):At n L (Wd w0 H) X :=
 Qeo (fun w hw=>by
  subst hm
  refine hw.swap hu ?_ fun j hj=>.inl ?_
  ·obtain ⟨h1,h2⟩:=Own.of_cells hw hu.mem hl
   refine ⟨h1,?_⟩
   rcases h2 with h2 | ⟨g,cap',cur,hv,_,r⟩
   ·exact .inl h2
   ·exact .inr ⟨g,cap',cur,hv,Nat.zero_le _,r⟩
  ·simpa [Qbm,Value.ownBlock,Qi] using hj) k
section
variable {d : Nat} {ty : TypeId} {pos : String} {aft : Array Edge} {t e : TypeId}
theorem Qjy{fid : FuncId}{fn : Func}{xs : List Operand}{ats : Array TypeId}{l : List Value}{V : γ → Value}{Φ : (Nat → Prop) → World → γ → Prop}(hf : P.funcs[fid]? = some fn)(hb : fn.body.isSome = true)(hnm : (fn.name == "runtime.NumGoroutine") = false)
  (hx:evs L xs=some l) (hdn:Nat.blt d n=true)
  (hc:∀ w,Wd w0 (QcM w0 Z s::H) w→Calls P fid l.toArray w fun e w'=>∃ (Z':List Nat) (s':World) (z:γ),Qc7 (KZ w0 Z) s (KZ w0 Z') s'∧e=.returned (V z)∧Φ (KZ w0 Z') s' z∧Wd w0 (QcM w0 Z' s'::H) w')
  (kk:∀ (Z':List Nat) (s':World) (z:γ),Qc7 (KZ w0 Z) s (KZ w0 Z') s'→Φ (KZ w0 Z') s' z→At n ((d,V z)::L) (Wd w0 (QcM w0 Z' s'::H)) (wpList P ops Q rest)) :
  At n L (Wd w0 (QcM w0 Z s::H)) (wpList P ops Q (⟨some d,.call { callee:=.value (.func fid),args:=xs.toArray,argTypes:=ats },ty,pos,aft,none⟩::rest)) :=
 QeZ (W':=fun u w'=>∃ (Z':List Nat) (s':World) (z:γ),u=V z∧Qc7 (KZ w0 Z) s (KZ w0 Z') s'∧Φ (KZ w0 Z') s' z∧Wd w0 (QcM w0 Z' s'::H) w') hf hb hnm hx hdn
  (fun w hw=>(hc w hw).mono fun e w' ⟨Z',s',z,hm,he,hp,hw'⟩=>⟨_,he,Z',s',z,rfl,hm,hp,hw'⟩) fun u a w he ⟨Z',s',z,hu,hm,hp,hw⟩=>by subst hu;exact kk Z' s' z hm hp a w he hw
theorem Qim{H' : List Ent}{fid : FuncId}{fn : Func}{xs : List Operand}{ats : Array TypeId}{l : List Value}{V : γ → Value}{Φ : (Nat → Prop) → World → γ → Prop}(hf : P.funcs[fid]? = some fn)(hb : fn.body.isSome = true)(hnm : (fn.name == "runtime.NumGoroutine") = false)
  (hx:evs L xs=some l) (hdn:Nat.blt d n=true)
  (hc:∀ w,Wd w0 (QcM w0 Z s::H) w→Calls P fid l.toArray w fun e w'=>∃ (Z':List Nat) (s':World) (z:γ),Qc7 (KZ w0 Z) s (KZ w0 Z') s'∧e=.returned (V z)∧Φ (KZ w0 Z') s' z∧Wd w0 (QcM w0 Z' s'::H') w')
  (kk:∀ (Z':List Nat) (s':World) (z:γ),Qc7 (KZ w0 Z) s (KZ w0 Z') s'→Φ (KZ w0 Z') s' z→At n ((d,V z)::L) (Wd w0 (QcM w0 Z' s'::H')) (wpList P ops Q rest)) :
  At n L (Wd w0 (QcM w0 Z s::H)) (wpList P ops Q (⟨some d,.call { callee:=.value (.func fid),args:=xs.toArray,argTypes:=ats },ty,pos,aft,none⟩::rest)) :=
 QeZ (W':=fun u w'=>∃ (Z':List Nat) (s':World) (z:γ),u=V z∧Qc7 (KZ w0 Z) s (KZ w0 Z') s'∧Φ (KZ w0 Z') s' z∧Wd w0 (QcM w0 Z' s'::H') w') hf hb hnm hx hdn
  (fun w hw=>(hc w hw).mono fun e w' ⟨Z',s',z,hm,he,hp,hw'⟩=>⟨_,he,Z',s',z,rfl,hm,hp,hw'⟩) fun u a w he ⟨Z',s',z,hu,hm,hp,hw⟩=>by subst hu;exact kk Z' s' z hm hp a w he hw
def mkz{α:Type}(fn:Nat→Option Addr×Nat)(xs:List α):List ((Option Addr×Nat)×α):=xs.zipIdx.map fun z=>(fn z.2,z.1)
theorem Qlv{α:Type}(fn:Nat→Option Addr×Nat)(xs:List α):(mkz fn xs).map Prod.snd=xs:=by
 unfold mkz
 rw [List.map_map]
 exact List.zipIdx_map_fst 0 xs
theorem Qot{α:Type}{zs:List ((Option Addr×Nat)×α)}{xs:List α}(h:zs.map Prod.snd=xs):∃ fn,zs=mkz fn xs:=by
 subst h
 refine ⟨fun i=>match zs[i]? with | some z=>z.1 | none=>(none,0),List.ext_getElem? fun i=>?_⟩
 unfold mkz
 rw [List.getElem?_map,List.getElem?_zipIdx,List.getElem?_map]
 cases h:zs[i]? with
 | none=>rfl
 | some z=>simp [h]
theorem Qhk{c:Cd (γ×α)}{xs ys:List α}{zs us:List (γ×α)}{Φ:γ×α→Prop}{sx xx:Operand}{ad:Addr}{m cap':Nat}{i:TypeInfo}{z:Value}(hu:Upd H (Qbm c e p cap zs) f G)(hz:zs.map Prod.snd=xs)(hy:us.map Prod.snd=ys)(ha:∀ z∈zs,Φ z)(hb1:∀ z∈us,Φ z)
  (ht:P.underlying t=some (.slice e)) (hi:P.info? e=some i) (hiz:i.zero=some z) (hsz:i.size=c.sz) (hzs:z.cells.size=c.sz)
  (hs:ev L sx=some (.slice p xs.length cap)) (hx:ev L xx=some (.slice (some ad) m cap')) (hm:ys.length=m)
  (hsrc:∀ w,Wd w0 H w→∀ j u,(c.all us)[j]? = some u→w.cell? (ad.add j)=some u) {by_:Nat} (hby:i.bytes=by_) (hb0:(xs.length+m)*by_≤140737488355328) (hb':xs.length+m≤140737488355328) (hdn:Nat.blt d n=true)
  (k:∀ p' cap' zs',zs'.map Prod.snd=xs++ys→(∀ z∈zs',Φ z)→At n ((d,.slice p' (xs++ys).length cap')::L) (Wd w0 (f (Qbm c e p' cap' zs'))) (wpList P ops Q rest)) :
  At n L (Wd w0 H) (wpList P ops Q (⟨some d,.call { callee:=.builtin .append,args:=#[sx,xx],argTypes:=#[t,t] },ty,pos,aft,none⟩::rest)):=by
 subst hz hy
 rw [List.length_map] at hs hm hb0 hb'
 refine Qcl (c:=c) (ys:=us) hu ht hi hiz hsz hzs hs hx hm hsrc hby hb0 hb' hdn fun p' cap'=>?_
 have hk:=k p' cap' (zs++us) (by rw [List.map_append]) fun z hz=>(List.mem_append.1 hz).elim (ha z) (hb1 z)
 rw [←List.map_append,List.length_map] at hk
 exact hk
end
end Go.Proofs.YtnekckhjmnhinaaGreatDoor.E
namespace Go.Proofs.YtnekckhjmnhinaaGreatDoor.E
open Go.RowKit
variable {n : Nat} {L L' : List (Nat × Value)} {a : Act} {W : World → Prop} {P : Program} {ops : Array Oper} {Q : Exit → Act → World → Prop} {rest : List Oper} {w0 : World} {H : List Ent}
variable {κ ν : Type}
def Qpm[DecidableEq κ]:List (κ×ν)→κ→Option ν
 | [],_=>none
 | (a,b)::r,k=>if k=a then some b else Qpm r k
def QlZ[DecidableEq κ]:List (κ×ν)→κ→ν→List (κ×ν)
 | [],k,v=>[(k,v)]
 | (a,b)::r,k,v=>if k=a then (k,v)::r else (a,b)::QlZ r k v
def QsD[DecidableEq κ](l:List (κ×ν))(k:κ)(z:ν):ν:=(Qpm l k).getD z
def mix[DecidableEq κ]:List (κ×ν)→κ→Nat→Option (Nat×ν)
 | [],_,_=>none
 | (a,b)::r,k,i=>if k=a then some (i,b) else mix r k (i+1)
theorem Qow[DecidableEq κ]:∀ (l:List (κ×ν)) (k:κ) (i:Nat),(mix l k i).map (·.2)=Qpm l k
 | [],_,_=>rfl
 | (a,b)::r,k,i=>by
  unfold mix Qpm
  split
  ·rfl
  ·exact Qow r k (i+1)
theorem Qov[DecidableEq κ]:∀ (l:List (κ×ν)) (k:κ) (i:Nat) (v:ν),mix l k i=none→QlZ l k v=l++[(k,v)]
 | [],_,_,_,_=>rfl
 | (a,b)::r,k,i,v,h=>by
  unfold mix at h
  unfold QlZ
  split at h
  ·cases h
  ·next hk=>rw [if_neg hk,Qov r k (i+1) v h];rfl
theorem Qou[DecidableEq κ]:∀ (l:List (κ×ν)) (k:κ) (i j:Nat) (v u:ν),mix l k i=some (j,u)→i≤j∧l[j-i]? = some (k,u)∧QlZ l k v=l.set (j-i) (k,v)
 | [],_,_,_,_,_,h=>by cases h
 | (a,b)::r,k,i,j,v,u,h=>by
  unfold mix at h
  unfold QlZ
  split at h
  ·next hk =>
   cases h
   rw [if_pos hk,Nat.sub_self]
   exact ⟨Nat.le_refl _,by rw [hk];rfl,rfl⟩
  ·next hk =>
   obtain ⟨h1,h2,h3⟩:=Qou r k (i+1) j v u h
   have e:j-i=(j-(i+1))+1:=by omega
   rw [if_neg hk,e,h3]
   exact ⟨by omega,by simpa using h2,by simp⟩
structure Qkn [DecidableEq κ] (P:Program) (t:TypeId) (c:Cd κ):Prop where
 chk:∀ e x w,(Instr.checkKey e 10000 t (.agg (c.cs x).toArray)).run P w=.ok () w
 eq:∀ x y w,(Op.equal t (.agg (c.cs x).toArray) (.agg (c.cs y).toArray)).run P w=.ok (decide (x=y)) w
 same:∀ x,Instr.sameBits 10000 (.agg (c.cs x).toArray) (.agg (c.cs x).toArray)=true
 under:∃ d,P.underlying t=some d
def mkv(c:Cd κ)(d:Cd ν)(va:Bool)(p:κ×ν):Value×Value:=(.agg (c.cs p.1).toArray,vOf va (d.cs p.2))
def QkF(c:Cd κ)(d:Cd ν)(va:Bool)(es:List MapEntry)(l:List (κ×ν)):Prop:=es.map (fun e=>(e.key,e.val))=l.map (mkv c d va)
theorem askM[DecidableEq κ]{t:TypeId}{c:Cd κ}{d:Cd ν}{va:Bool}(K:Qkn P t c)(k:κ)(w:World):∀ (es:List MapEntry) (l:List (κ×ν)) (i:Nat),QkF c d va es l →
  (Instr.findAsking t (.agg (c.cs k).toArray) es i).run P w=.ok ((mix l k i).map fun q=>(q.1,vOf va (d.cs q.2))) w
 | [],l,i,h=>by
  cases l with
  | nil=>rfl
  | cons p r=>simp [QkF] at h
 | e::es,l,i,h=>by
  cases l with
  | nil=>simp [QkF] at h
  | cons p r =>
   obtain ⟨a,b⟩:=p
   simp only [QkF,List.map_cons,List.cons.injEq,mkv,Prod.mk.injEq] at h
   obtain ⟨⟨h1,h2⟩,h3⟩:=h
   unfold Instr.findAsking mix
   simp only [Sem.run_bind,h1,K.eq,Result.andThen_ok]
   by_cases hk:k=a
   ·simp [hk,h2]
   ·simp only [hk,decide_false,Bool.false_eq_true,if_false]
    exact askM K k w es r (i+1) h3
theorem Qnf(d:TypeDesc)(a:Array Value)(v:Value):Instr.sameNow d (.agg a) v=none:=by
 cases d<;>rfl
theorem QoO[DecidableEq κ]{t:TypeId}{c:Cd κ}{d:Cd ν}{va:Bool}(K:Qkn P t c)(k:κ)(w:World)(es:List MapEntry)(l:List (κ×ν))(h:QkF c d va es l) :
  (Instr.findKey t (.agg (c.cs k).toArray) es).run P w=.ok ((mix l k 0).map fun q=>(q.1,vOf va (d.cs q.2))) w:=by
 obtain ⟨td,hu⟩:=K.under
 unfold Instr.findKey
 simp only [Sem.run_bind,run_underlying hu,Result.andThen_ok]
 cases es with
 | nil =>
  cases l with
  | nil=>rfl
  | cons p r=>simp [QkF] at h
 | cons e es =>
  have:Instr.findNow td (.agg (c.cs k).toArray) (e::es) 0=none:=by
   unfold Instr.findNow
   rw [Qnf]
  rw [this]
  exact askM K k w _ _ _ h
def Qjb(b:Nat)(c:Cd κ)(d:Cd ν)(va:Bool)(l:List (κ×ν)):Ent :=
 ⟨[b],fun w=>∃ es clock,w.heap[b]? = some (.map es clock)∧QkF c d va es.toList l,fun w w' h ⟨es,cl,h1,h2⟩=>⟨es,cl,(h b (by simp)).trans h1,h2⟩⟩
section
variable {d' : Nat} {ty : TypeId} {pos : String} {aft : Array Edge} {t kt et : TypeId} {x y z : Operand} {b : Nat} {c : Cd κ} {d : Cd ν} {va : Bool} {l : List (κ × ν)} {f : Ent → List Ent} {G : List Ent}
theorem Qoh[DecidableEq κ]{k:κ}{zv:ν}(ht:P.underlying t=some (.map kt et))(K:Qkn P kt c)(hz:∀ w,(zeroValue et).run P w=.ok (vOf va (d.cs zv)) w)(hx:ev L x=some (.map (some b)))(hy:ev L y=some (.agg (c.cs k).toArray))
  (hm:∀ w,W w→(Qjb b c d va l).ok w) :
  QdP n L W P (⟨some d',.lookup t x y false,ty,pos,aft,none⟩) (vOf va (d.cs (QsD l k zv))):=fun a w h hw=>by
 obtain ⟨es,clock,h1,h2⟩:=hm w hw
 simp only [execOp,h.eval hx,h.eval hy]
 have e1:(Instr.lookup t (.map (some b)) (.agg (c.cs k).toArray) false).run P w=.ok (vOf va (d.cs (QsD l k zv))) w:=by
  unfold Instr.lookup
  simp only [Sem.run_bind,run_underlying ht,Result.andThen_ok,MapKept.run_getObj_map h1,Sem.run_pure,K.chk,QoO K k w es.toList l h2]
  unfold QsD
  rw [←Qow l k 0]
  cases mix l k 0 with
  | none=>simp [hz]
  | some q=>simp
 simp [e1]
theorem Qqz(ht:P.underlying t=some (.map kt et))(hx:ev L x=some (.map (some b)))(hm:∀ w,W w→(Qjb b c d va l).ok w) :
  QdP n L W P (⟨some d',.call { callee:=.builtin .len,args:=#[x],argTypes:=#[t] },ty,pos,aft,none⟩) (.int .i64 (l.length:Int)):=fun a w h hw=>by
 obtain ⟨es,clock,h1,h2⟩:=hm w hw
 have hl:es.size=l.length:=by have:=congrArg List.length h2;simpa using this
 have e1:(Builtin.len_ #[t] ty #[.map (some b)]).run P w=.ok (.int .i64 (l.length:Int)) w:=by
  simp [Builtin.len_,run_underlying ht,MapKept.run_getObj_map h1,goInt,hl]
 simp only [execOp,resolve,invoke,builtin,Sem.run_bind,Sem.run_pure,Result.andThen_ok,List.map_toArray,List.map_cons,List.map_nil,h.eval hx,e1]
theorem Qk6(c:Cd κ)(d:Cd ν)(va:Bool)(hdn:Nat.blt d' n=true)
  (k:∀ b,At n ((d',.map (some b))::L) (Wd w0 (Qjb b c d va ([]:List (κ×ν))::H)) (wpList P ops Q rest)) :
  At n L (Wd w0 H) (wpList P ops Q (⟨some d',.makeMap t none,ty,pos,aft,none⟩::rest)) :=
 Qgp (W':=fun v w'=>∃ b,v=.map (some b)∧Wd w0 (Qjb b c d va ([]:List (κ×ν))::H) w') rfl rfl hdn (fun a w h hw=>by
  refine ⟨_,w.alloc (.map #[] 0),?_,w.heap.size,rfl,hw.push ((Below.refl _ _).alloc (Nat.le_refl _) _) ⟨#[],0,heap_alloc_new w _,rfl⟩ ?_⟩
  ·simp [execOp,Instr.makeMap,newObj,Sem.run]
  ·intro k hk;simp [Qjb] at hk;subst hk;simp) fun v a w h ⟨b,hv,hw⟩=>by subst hv;exact k b a w h hw
theorem Qg1[DecidableEq κ]{k:κ}{v:ν}{vv:Value}(hu:Upd H (Qjb b c d va l) f G)(ht:P.underlying t=some (.map kt et))(K:Qkn P kt c)(hx:ev L x=some (.map (some b)))(hy:ev L y=some (.agg (c.cs k).toArray))(hz:ev L z=some vv)(hv:vv=vOf va (d.cs v))
  (kk:At n L (Wd w0 (f (Qjb b c d va (QlZ l k v)))) (wpList P ops Q rest)) :
  At n L (Wd w0 H) (wpList P ops Q (⟨none,.mapUpdate t x y z,ty,pos,aft,none⟩::rest)) :=
 QrS (W':=Wd w0 (f (Qjb b c d va (QlZ l k v)))) rfl rfl (fun a w h hw=>by
  subst hv
  obtain ⟨es,clock,h1,h2⟩:=hw.ok hu.mem
  have key:∃ es' cl',(Instr.mapUpdate t (.map (some b)) (.agg (c.cs k).toArray) (vOf va (d.cs v))).run P w=.ok () { w with heap:=w.heap.setIfInBounds b (.map es' cl') }∧QkF c d va es'.toList (QlZ l k v):=by
   unfold Instr.mapUpdate
   simp only [Sem.run_bind,run_underlying ht,Result.andThen_ok,MapKept.run_getObj_map h1,Sem.run_pure,K.chk,QoO K k w es.toList l h2]
   cases hm:mix l k 0 with
   | none =>
    refine ⟨es.push { key:=.agg (c.cs k).toArray,val:=vOf va (d.cs v),born:=clock },clock+1,?_,?_⟩
    ·exact MapKept.run_setObj_map _ h1
    ·rw [Qov l k 0 v hm]
     simp only [QkF,Array.toList_push,List.map_append,List.map_cons,List.map_nil] at h2 ⊢
     rw [h2];rfl
   | some q =>
    obtain ⟨j,u⟩:=q
    obtain ⟨_,hj,hp⟩:=Qou l k 0 j v u hm
    rw [Nat.sub_zero] at hj hp
    have hlen:es.size=l.length:=by have:=congrArg List.length h2;simpa using this
    have hjl:j<l.length:=(List.getElem?_eq_some_iff.1 hj).1
    have hje:j<es.size:=by omega
    have hkey:es[j].key=.agg (c.cs k).toArray:=by
     have:=congrArg (fun z:List (Value×Value)=>z[j]?) h2
     simp only [List.getElem?_map,Array.getElem?_toList,hj,Array.getElem?_eq_getElem hje,Option.map_some,mkv,Option.some.injEq,Prod.mk.injEq] at this
     exact this.1
    refine ⟨es.modify j fun e=>{ e with key:=.agg (c.cs k).toArray,val:=vOf va (d.cs v) },clock,?_,?_⟩
    ·simp only [Option.map_some,Array.getElem?_eq_getElem hje,hkey,Option.getD_some,Instr.keyThatStays,K.same,if_true,Sem.run_bind,Sem.run_pure,Result.andThen_ok]
     exact MapKept.run_setObj_map _ h1
    ·rw [hp]
     simp only [QkF] at h2 ⊢
     rw [List.map_set,←h2]
     apply List.ext_getElem?
     intro i
     rw [List.getElem?_map,Array.getElem?_toList,Array.getElem?_modify,List.getElem?_set,List.getElem?_map,Array.getElem?_toList]
     by_cases hij:j=i
     ·subst hij
      simp [hje,mkv]
     ·simp [hij]
  obtain ⟨es',cl',hrun,hm⟩:=key
  have hs:=MapKept.heap_set (o':=.map es' cl') h1
  refine ⟨_,?_,hw.upd (w':={ w with heap:=w.heap.setIfInBounds b (.map es' cl') }) hu (by simp) rfl rfl rfl (fun k hk hk'=>hs.2 k (by intro e;exact hk' (by rw [e];simp [Qjb]))) ⟨es',cl',hs.1,hm⟩ fun k hk=>.inl hk⟩
  simp only [execOp,h.eval hx,h.eval hy,h.eval hz]
  simp [hrun]) kk
theorem QrU[DecidableEq κ]{k:κ}{v:ν}{vv:Value}(hu:Upd H (Qjb b c d va l) f G)(ht:P.underlying t=some (.map kt et))(K:Qkn P kt c)(hx:ev L x=some (.map (some b)))(hy:ev L y=some (.agg (c.cs k).toArray))(hz:ev L z=some vv)(hv:vv=vOf va (d.cs v))
  (kk:At n L (Wd w0 (f (Qjb b c d va (QlZ l k v)))) (wpList P ops Q rest)) :
  At n L (Wd w0 H) (wpList P ops Q (⟨none,.insert t x y z,ty,pos,aft,none⟩::rest)) :=
 Qg1 (ty:=ty) (pos:=pos) (aft:=aft) hu ht K hx hy hz hv kk
end
theorem QjJ{body:Nat→Sem Unit}{w:World}:∀ (l:List Nat),(∀ i∈l,(body i).run P w=.ok () w)→(forIn l PUnit.unit (fun i _=>do body i;pure (ForInStep.yield PUnit.unit)):Sem PUnit).run P w=.ok PUnit.unit w
 | [],_=>by simp
 | i::l,h=>by
  rw [List.forIn_cons]
  simp only [Sem.run_bind,h i (List.mem_cons_self ..),Result.andThen_ok,Sem.run_pure]
  exact QjJ l fun j hj=>h j (List.mem_cons_of_mem _ hj)
theorem QiI{t e:TypeId}{k:IntKind}{m dp:Nat}{hm:0<m}(ht:P.underlying t=some (.array m e))(he:P.underlying e=some (.int k))(hz:∀ w,(sizeOf e).run P w=.ok 1 w)(ha:∀ w,(isAgg e).run P w=.ok false w)
  (hq:Eqs P t (QQ (Qv k) m hm) true dp) (hdp:dp≤9999):Qkn P t (QQ (Qv k) m hm) where
 chk:=fun em x w=>by
  unfold Instr.checkKey
  simp only [Sem.run_bind,run_underlying ht,Result.andThen_ok]
  rw [Std.Legacy.Range.forIn_eq_forIn_range']
  have key:=QjJ (P:=P) (w:=w) (body:=fun i=>do
   let sz ← sizeOf e
   let v ← part e ((QQ (Qv k) m hm).cs x).toArray (i*sz)
   Instr.checkKey em 9999 e v) (List.range' 0 m) (fun i hi=>by
    have hi':i<m:=by simpa using hi
    have l:=Qaf.vec (Qv k) hm x (i:Int) (by omega)
    have e1:(i:Int).toNat*(Qv k).sz=i*1:=by simp [Qv]
    rw [e1] at l
    have h2:=QjX (P:=P) (t:=e) (v:=.int k (Qbb x (i:Int))) l ha rfl w
    simp only [Sem.run_bind,hz,Result.andThen_ok,h2]
    unfold Instr.checkKey
    simp [run_underlying he])
  have e0:([0:m]:Std.Legacy.Range).size=m:=by simp [Std.Legacy.Range.size]
  simp only [Sem.run_bind] at key ⊢
  simp [e0] at key ⊢
  rw [key];rfl
 eq:=fun x y w=>hq 9999 hdp x y w
 same:=fun x=>by
  have key:∀ (v:Value),v.oneCell'=true→True:=fun _ _=>trivial
  show (_==_&&_)=true
  simp only [List.size_toArray,beq_self_eq_true,Bool.true_and]
  rw [List.all_eq_true]
  rintro ⟨p,q⟩ hpq
  have hz':(p,q)∈List.zip ((QQ (Qv k) m hm).cs x) ((QQ (Qv k) m hm).cs x):=by simpa using hpq
  have hpe:p=q∧p∈(QQ (Qv k) m hm).cs x:=by
   rw [List.mem_iff_getElem?] at hz'
   obtain ⟨i,hi⟩:=hz'
   rw [List.getElem?_zip_eq_some] at hi
   have:=hi.1.symm.trans hi.2
   exact ⟨by simpa using this,List.mem_of_getElem? hi.1⟩
  obtain ⟨rfl,hp⟩:=hpe
  have:∃ z,p=.int k z:=by
   have hp':p∈(Qv k).all x.toList:=hp
   rw [QuL] at hp'
   obtain ⟨z,_,rfl⟩:=List.mem_map.1 hp'
   exact ⟨z,rfl⟩
  obtain ⟨z,rfl⟩:=this
  simp [Instr.sameBits]
 under:=⟨_,ht⟩
end Go.Proofs.YtnekckhjmnhinaaGreatDoor.E
namespace Go.Proofs.YtnekckhjmnhinaaGreatDoor.E
open Go.RowKit
variable {n : Nat} {L L' : List (Nat × Value)} {a : Act} {W : World → Prop} {P : Program} {ops : Array Oper} {Q : Exit → Act → World → Prop} {rest : List Oper} {w0 : World} {H : List Ent}
variable {α β γ ν κ μ : Type}
def Chk(P:Program)(t:TypeId)(c:Cd α)(agg:Bool)(k:Nat):Prop:=∀ n,k≤n→∀ e x w,(Instr.checkKey e (n+1) t (vOf agg (c.cs x))).run P w=.ok () w
theorem QiO{t:TypeId}{k:IntKind}(ht:P.underlying t=some (.int k)):Chk P t (Qv k) false 0:=fun n _ e x w=>by
 unfold Instr.checkKey
 simp [run_underlying ht]
theorem QrK[Inhabited α]{t e:TypeId}{c:Cd α}{m k:Nat}{hm:0<m}{agg:Bool}(ht:P.underlying t=some (.array m e))(hz:∀ w,(sizeOf e).run P w=.ok c.sz w)(ha:∀ w,(isAgg e).run P w=.ok agg w)(h1:agg=true∨c.sz=1)(h:Chk P e c agg k):Chk P t (QQ c m hm) true (k+1):=fun n hn em x w=>by
 obtain ⟨n,rfl⟩:∃ d,n=d+1:=⟨n-1,by omega⟩
 show (Instr.checkKey em (n+1+1) t (.agg ((QQ c m hm).cs x).toArray)).run P w=_
 unfold Instr.checkKey
 simp only [Sem.run_bind,run_underlying ht,Result.andThen_ok]
 rw [Std.Legacy.Range.forIn_eq_forIn_range']
 have key:=QjJ (P:=P) (w:=w) (body:=fun i=>do
  let sz ← sizeOf e
  let v ← part e ((QQ c m hm).cs x).toArray (i*sz)
  Instr.checkKey em (n+1) e v) (List.range' 0 m) (fun i hi=>by
   have hi':i<m:=by simpa using hi
   have l:=Qaf.vec c hm x (i:Int) (by omega)
   rw [Int.toNat_natCast] at l
   have h2:=Qfw (P:=P) (t:=e) l ha hz h1 w
   simp only [Sem.run_bind,hz,Result.andThen_ok,h2]
   exact h n (by omega) em _ w)
 have e0:([0:m]:Std.Legacy.Range).size=m:=by simp [Std.Legacy.Range.size]
 simp only [Sem.run_bind] at key ⊢
 simp [e0] at key ⊢
 rw [key];rfl
def Qwh(P : Program)(n : Nat)(cells : List Value)(l : List Field) : Prop := ∀ em w, (forIn l PUnit.unit (fun f _ => if f.name ≠ "_" then do
  let v ← part f.type cells.toArray f.offset
  Instr.checkKey em (n+1) f.type v
  pure (ForInStep.yield PUnit.unit)
 else pure (ForInStep.yield PUnit.unit)):Sem PUnit).run P w=.ok PUnit.unit w
theorem Qjw{n:Nat}{cells:List Value}:Qwh P n cells []:=fun _ _=>by simp
theorem QeT{f : Field}{fs : List Field}{n k o : Nat}{agg : Bool}{c : Cd β}{cx : List Value}{a : β}{px : β → List Value}(lx : Qaf cx o c a px)(hn : (f.name == "_") = false)(ho : f.offset = o)
  (ha:∀ w,(isAgg f.type).run P w=.ok agg w) (hz:∀ w,(sizeOf f.type).run P w=.ok c.sz w) (h1:agg=true∨c.sz=1) (he:Chk P f.type c agg k) (hd:k≤n) (hr:Qwh P n cx fs):Qwh P n cx (f::fs):=fun em w=>by
 have hn' : f.name ≠ "_" := by simpa using hn
 subst ho
 rw [List.forIn_cons]
 simp only [if_pos hn',Sem.run_bind,Qfw lx ha hz h1,Result.andThen_ok,he n hd,Sem.run_pure]
 exact hr em w
theorem Qhj{t:TypeId}{fs:Array Field}{c:Cd α}{k:Nat}(ht:P.underlying t=some (.struct fs))(h:∀ n x,k≤n→Qwh P n (c.cs x) fs.toList):Chk P t c true (k+1):=fun n hn em x w=>by
 obtain ⟨n,rfl⟩:∃ d,n=d+1:=⟨n-1,by omega⟩
 show (Instr.checkKey em (n+1+1) t (.agg (c.cs x).toArray)).run P w=_
 unfold Instr.checkKey
 simp only [Sem.run_bind,run_underlying ht,Result.andThen_ok]
 have:=h n x (by omega) em w
 rw [←Array.forIn_toList]
 rw [this];rfl
def QpS(c:Cd α):Prop:=∀ x,∀ v∈c.cs x,∃ k z,v=.int k z
theorem QjU(k:IntKind):QpS (Qv k):=fun x v hv=>by
 have:v∈[Value.int k x]:=hv
 simp at this;exact ⟨_,_,this⟩
theorem QqI{c:Cd α}{m:Nat}{hm:0<m}(h:QpS c):QpS (QQ c m hm):=fun x v hv=>by
 have:v∈c.all x.toList:=hv
 obtain ⟨y,_,hy⟩:=List.mem_flatMap.1 this
 exact h y v hy
theorem QmK[DecidableEq κ]{t:TypeId}{c:Cd κ}{k dp:Nat}{d:TypeDesc}(hu:P.underlying t=some d)(hc:Chk P t c true k)(hk:k≤9999)(hq:Eqs P t c true dp)(hdp:dp≤9999)(hp:QpS c):Qkn P t c where
 chk:=fun e x w=>hc 9999 hk e x w
 eq:=fun x y w=>hq 9999 hdp x y w
 same:=fun x=>by
  show (_==_&&_)=true
  simp only [List.size_toArray,beq_self_eq_true,Bool.true_and]
  rw [List.all_eq_true]
  rintro ⟨p,q⟩ hpq
  have hz':(p,q)∈List.zip (c.cs x) (c.cs x):=by simpa using hpq
  have hpe:p=q∧p∈c.cs x:=by
   rw [List.mem_iff_getElem?] at hz'
   obtain ⟨i,hi⟩:=hz'
   rw [List.getElem?_zip_eq_some] at hi
   have:=hi.1.symm.trans hi.2
   exact ⟨by simpa using this,List.mem_of_getElem? hi.1⟩
  obtain ⟨rfl,hpm⟩:=hpe
  obtain ⟨k,z,rfl⟩:=hp x p hpm
  simp [Instr.sameBits]
 under:=⟨_,hu⟩
variable {K : HK ν} {g0 g : Nat → Nat} {n0 : Nat} {h : List ν} {f : Ent → List Ent} {G : List Ent} {c : Cd κ} {d : Cd μ} {va : Bool} {l : List (κ × μ)}
section
variable {d' : Nat} {ty : TypeId} {pos : String} {aft : Array Edge} {t kt et : TypeId} {x y z : Operand} {b : Nat}
end
end Go.Proofs.YtnekckhjmnhinaaGreatDoor.E
namespace Go.Proofs.YtnekckhjmnhinaaGreatDoor
open E Go.RowKit
theorem Qrf:(Tryz.prog.info? 5).isSome=true:=by kernel_rfl
noncomputable def QsN:TypeInfo:=(Tryz.prog.info? 5).get Qrf
theorem Qia:Tryz.prog.info? 5=some QsN:=(Option.some_get _).symm
structure Qj where
 f_V:Int
 f_B:(Vector Int 16)
 deriving DecidableEq,Inhabited
def Qd:Cd Qj:=⟨17,fun x=>Cd.cs (Qv .i64) x.f_V++(Cd.cs (QQ (Qv .u8) 16 (by decide)) x.f_B++[]),fun x=>by simp only [List.length_append,Cd.len,List.length_nil]<;>rfl,fun x v hv=>by
 simp only [List.mem_append,List.not_mem_nil,or_false] at hv
 rcases hv with hv | hv
 all_goals exact Cd.one _ _ _ hv,by decide⟩
def Qf6(x:Qj):Prop:=(fun n:Int=>(Lit.int .i64 n).wf=true) x.f_V∧(fun v:(Vector Int 16)=>∀ x∈v.toList,(fun n:Int=>(Lit.int .u8 n).wf=true) x) x.f_B
theorem Q5(x:Qj):Qaf (Qd.cs x) 0 (Qv .i64) x.f_V (fun z=>Qd.cs { x with f_V:=z }) :=
 ⟨[],Cd.cs (QQ (Qv .u8) 16 (by decide)) x.f_B++[],by simp [Qd],by simp only [List.length_append,Cd.len,List.length_nil]<;>rfl,fun z=>by simp [Qd]⟩
theorem Q1(x:Qj):Qaf (Qd.cs x) 1 (QQ (Qv .u8) 16 (by decide)) x.f_B (fun z=>Qd.cs { x with f_B:=z }) :=
 ⟨Cd.cs (Qv .i64) x.f_V++[],[],by simp [Qd],by simp only [List.length_append,Cd.len,List.length_nil]<;>rfl,fun z=>by simp [Qd]⟩
theorem Qdu:Eqs Tryz.prog 55 Qd true 2:=fun d hd x y w=>by
 obtain ⟨d,rfl⟩:∃ e,d=e+1:=⟨d-1,by omega⟩
 refine (Qf2 (xs:=(Qd.cs x).toArray) (ys:=(Qd.cs y).toArray) Tryz.underlying55 Tryz.stoodInHeld55).trans ?_
 refine Eq.trans (Qhh (Q5 x) (Q5 y) (by rfl) (by rfl) Tryz.isAgg3 Tryz.sizeOf3 (.inr rfl) (QeX Tryz.underlying3) (by omega) (Qhh (Q1 x) (Q1 y) (by rfl) (by rfl) Tryz.isAgg53 Tryz.sizeOf53 (.inl rfl) (Qgb Tryz.underlying53 Qia Tryz.sizeOf5 Tryz.isAgg5 (.inr rfl) (QeX Tryz.underlying5)) (by omega) QnL)) ?_
 congr 1
 cases x;cases y
 rw [Bool.eq_iff_iff];simp
theorem Qbt: ∀ w, ((#[{ name := "V", type := 3, offset := 0, embedded := false, tag := "", pkgPath := "", byteOffset := 0 }, { name := "B", type := 53, offset := 1, embedded := false, tag := "", pkgPath := "", byteOffset := 8 }] : Array Field).mapM fun f => (do pure (f.offset, ← sizeOf f.type) : Sem (Nat × Nat))).run Tryz.prog w = .ok #[(0, 1), (1, 16)] w := fun w => by
 simp [Tryz.sizeOf3 w,Tryz.sizeOf53 w]
structure Qr where
 f_A:Qj
 f_Port:Int
 deriving DecidableEq,Inhabited
def Qb:Cd Qr:=⟨18,fun x=>Cd.cs Qd x.f_A++(Cd.cs (Qv .i64) x.f_Port++[]),fun x=>by simp only [List.length_append,Cd.len,List.length_nil]<;>rfl,fun x v hv=>by
 simp only [List.mem_append,List.not_mem_nil,or_false] at hv
 rcases hv with hv | hv
 all_goals exact Cd.one _ _ _ hv,by decide⟩
def QcU(x:Qr):Prop:=Qf6 x.f_A∧(fun n:Int=>(Lit.int .i64 n).wf=true) x.f_Port
theorem Qay(x:Qr):Qaf (Qb.cs x) 0 Qd x.f_A (fun z=>Qb.cs { x with f_A:=z }) :=
 ⟨[],Cd.cs (Qv .i64) x.f_Port++[],by simp [Qb],by simp only [List.length_append,Cd.len,List.length_nil]<;>rfl,fun z=>by simp [Qb]⟩
theorem Qaq(x:Qr):Qaf (Qb.cs x) 17 (Qv .i64) x.f_Port (fun z=>Qb.cs { x with f_Port:=z }) :=
 ⟨Cd.cs Qd x.f_A++[],[],by simp [Qb],by simp only [List.length_append,Cd.len,List.length_nil]<;>rfl,fun z=>by simp [Qb]⟩
theorem QdC:Eqs Tryz.prog 57 Qb true 3:=fun d hd x y w=>by
 obtain ⟨d,rfl⟩:∃ e,d=e+1:=⟨d-1,by omega⟩
 refine (Qf2 (xs:=(Qb.cs x).toArray) (ys:=(Qb.cs y).toArray) Tryz.underlying57 Tryz.stoodInHeld57).trans ?_
 refine Eq.trans (Qhh (Qay x) (Qay y) (by rfl) (by rfl) Tryz.isAgg55 Tryz.sizeOf55 (.inl rfl) (Qdu) (by omega) (Qhh (Qaq x) (Qaq y) (by rfl) (by rfl) Tryz.isAgg3 Tryz.sizeOf3 (.inr rfl) (QeX Tryz.underlying3) (by omega) QnL)) ?_
 congr 1
 cases x;cases y
 rw [Bool.eq_iff_iff];simp
theorem Qz: ∀ w, ((#[{ name := "A", type := 55, offset := 0, embedded := false, tag := "", pkgPath := "", byteOffset := 0 }, { name := "Port", type := 3, offset := 17, embedded := false, tag := "", pkgPath := "", byteOffset := 24 }] : Array Field).mapM fun f => (do pure (f.offset, ← sizeOf f.type) : Sem (Nat × Nat))).run Tryz.prog w = .ok #[(0, 17), (17, 1)] w := fun w => by
 simp [Tryz.sizeOf55 w,Tryz.sizeOf3 w]
structure Qo where
 f_A:Qj
 f_Bits:Int
 deriving DecidableEq,Inhabited
def Qc:Cd Qo:=⟨18,fun x=>Cd.cs Qd x.f_A++(Cd.cs (Qv .i64) x.f_Bits++[]),fun x=>by simp only [List.length_append,Cd.len,List.length_nil]<;>rfl,fun x v hv=>by
 simp only [List.mem_append,List.not_mem_nil,or_false] at hv
 rcases hv with hv | hv
 all_goals exact Cd.one _ _ _ hv,by decide⟩
def Qbx(x:Qo):Prop:=Qf6 x.f_A∧(fun n:Int=>(Lit.int .i64 n).wf=true) x.f_Bits
theorem Qai(x:Qo):Qaf (Qc.cs x) 0 Qd x.f_A (fun z=>Qc.cs { x with f_A:=z }) :=
 ⟨[],Cd.cs (Qv .i64) x.f_Bits++[],by simp [Qc],by simp only [List.length_append,Cd.len,List.length_nil]<;>rfl,fun z=>by simp [Qc]⟩
theorem Qan(x:Qo):Qaf (Qc.cs x) 17 (Qv .i64) x.f_Bits (fun z=>Qc.cs { x with f_Bits:=z }) :=
 ⟨Cd.cs Qd x.f_A++[],[],by simp [Qc],by simp only [List.length_append,Cd.len,List.length_nil]<;>rfl,fun z=>by simp [Qc]⟩
theorem Qds:Eqs Tryz.prog 74 Qc true 3:=fun d hd x y w=>by
 obtain ⟨d,rfl⟩:∃ e,d=e+1:=⟨d-1,by omega⟩
 refine (Qf2 (xs:=(Qc.cs x).toArray) (ys:=(Qc.cs y).toArray) Tryz.underlying74 Tryz.stoodInHeld74).trans ?_
 refine Eq.trans (Qhh (Qai x) (Qai y) (by rfl) (by rfl) Tryz.isAgg55 Tryz.sizeOf55 (.inl rfl) (Qdu) (by omega) (Qhh (Qan x) (Qan y) (by rfl) (by rfl) Tryz.isAgg3 Tryz.sizeOf3 (.inr rfl) (QeX Tryz.underlying3) (by omega) QnL)) ?_
 congr 1
 cases x;cases y
 rw [Bool.eq_iff_iff];simp
theorem QaM: ∀ w, ((#[{ name := "A", type := 55, offset := 0, embedded := false, tag := "", pkgPath := "", byteOffset := 0 }, { name := "Bits", type := 3, offset := 17, embedded := false, tag := "", pkgPath := "", byteOffset := 24 }] : Array Field).mapM fun f => (do pure (f.offset, ← sizeOf f.type) : Sem (Nat × Nat))).run Tryz.prog w = .ok #[(0, 17), (17, 1)] w := fun w => by
 simp [Tryz.sizeOf55 w,Tryz.sizeOf3 w]
structure Qq where
 f_Key:(Vector Int 32)
 f_Psk:(Vector Int 32)
 f_End:Qr
 f_Keep:Int
 f_Sent:Int
 f_Got:Int
 f_Allowed:List Qo
 deriving DecidableEq,Inhabited
abbrev QR:=(Option Addr×Nat)
def Qf:Cd (QR×Qq):=⟨86,fun z=>Cd.cs (QQ (Qv .u8) 32 (by decide)) z.2.f_Key++(Cd.cs (QQ (Qv .u8) 32 (by decide)) z.2.f_Psk++(Cd.cs Qb z.2.f_End++(Cd.cs (Qv .i64) z.2.f_Keep++(Cd.cs (Qv .u64) z.2.f_Sent++(Cd.cs (Qv .u64) z.2.f_Got++(Cd.cs cHd ⟨z.1.1,List.length z.2.f_Allowed,z.1.2⟩++[])))))),fun x=>by simp only [List.length_append,Cd.len,List.length_nil]<;>rfl,fun x v hv=>by
 simp only [List.mem_append,List.not_mem_nil,or_false] at hv
 rcases hv with hv | hv | hv | hv | hv | hv | hv
 all_goals exact Cd.one _ _ _ hv,by decide⟩
def Qfm(x:Qq):Prop:=(fun v:(Vector Int 32)=>∀ x∈v.toList,(fun n:Int=>(Lit.int .u8 n).wf=true) x) x.f_Key∧(fun v:(Vector Int 32)=>∀ x∈v.toList,(fun n:Int=>(Lit.int .u8 n).wf=true) x) x.f_Psk∧QcU x.f_End∧(fun n:Int=>(Lit.int .i64 n).wf=true) x.f_Keep∧(fun n:Int=>(Lit.int .u64 n).wf=true) x.f_Sent∧(fun n:Int=>(Lit.int .u64 n).wf=true) x.f_Got∧(fun l:List Qo=>∀ x∈l,Qbx x) x.f_Allowed
def Qdx(w:World)(z:QR×Qq):Prop:=Row Qc w z.1.1 z.1.2 z.2.f_Allowed
theorem Qdx.below{w w':World}{z:QR×Qq}(h:Qdx w z)(hb:Below w.heap.size w w'):Qdx w' z:=Row.below h hb
abbrev QeE(w:World)(p:Option Addr)(cap:Nat)(xs:List Qq):Prop:=QuT Qf Qdx w p cap xs
theorem QeE.below{w w':World}{p:Option Addr}{cap:Nat}{xs:List Qq}(h:QeE w p cap xs)(hb:Below w.heap.size w w'):QeE w' p cap xs:=QuT.below h hb fun z hz=>Qdx.below hz hb
def Qu(K:Nat→Prop)(w:World)(z:QR×Qq):Prop:=E.RowK K Qc w z.1.1 z.1.2 z.2.f_Allowed
theorem Qu.mono{K K':Nat→Prop}{s s':World}{z:QR×Qq}(h:Qu K s z)(m:Qc7 K s K' s'):Qu K' s' z:=E.RowK.mono h m
theorem Qu.n{K:Nat→Prop}{s:World}{z:QR×Qq}(h:Qu K s z):Qdx s z:=E.RowK.row h
abbrev Qc6(K:Nat→Prop)(w:World)(p:Option Addr)(cap:Nat)(xs:List Qq):Prop:=Qfv Qf Qu K w p cap xs
theorem Qc6.mono{K:Nat→Prop}{s:World}{p:Option Addr}{cap:Nat}{xs:List Qq}{K':Nat→Prop}{s':World}(h:Qc6 K s p cap xs)(m:Qc7 K s K' s'):Qc6 K' s' p cap xs:=Qfv.mono_of (fun _ hz=>Qu.mono hz m) h m
theorem Qc6.n{K:Nat→Prop}{s:World}{p:Option Addr}{cap:Nat}{xs:List Qq}(h:Qc6 K s p cap xs):QeE s p cap xs:=Qfv.n_of (fun _ hz=>Qu.n hz) h
theorem Qgh(g:QR)(x:Qq):Qaf (Qf.cs (g,x)) 85 (cSv Qo) (g,x.f_Allowed) (fun z=>Qf.cs (z.1,{ x with f_Allowed:=z.2 })) :=
 ⟨Cd.cs (QQ (Qv .u8) 32 (by decide)) x.f_Key++(Cd.cs (QQ (Qv .u8) 32 (by decide)) x.f_Psk++(Cd.cs Qb x.f_End++(Cd.cs (Qv .i64) x.f_Keep++(Cd.cs (Qv .u64) x.f_Sent++(Cd.cs (Qv .u64) x.f_Got++[]))))),[],by simp [Qf,cSv,cHd],by simp only [List.length_append,Cd.len,List.length_nil]<;>rfl,fun z=>by simp [Qf,cSv,cHd]⟩
theorem Qbo(g:QR)(x:Qq):Qaf (Qf.cs (g,x)) 0 (QQ (Qv .u8) 32 (by decide)) x.f_Key (fun z=>Qf.cs (g,{ x with f_Key:=z })) :=
 ⟨[],Cd.cs (QQ (Qv .u8) 32 (by decide)) x.f_Psk++(Cd.cs Qb x.f_End++(Cd.cs (Qv .i64) x.f_Keep++(Cd.cs (Qv .u64) x.f_Sent++(Cd.cs (Qv .u64) x.f_Got++(Cd.cs cHd ⟨g.1,List.length x.f_Allowed,g.2⟩++[]))))),by simp [Qf],by simp only [List.length_append,Cd.len,List.length_nil]<;>rfl,fun z=>by simp [Qf]⟩
theorem QcG(g:QR)(x:Qq):Qaf (Qf.cs (g,x)) 32 (QQ (Qv .u8) 32 (by decide)) x.f_Psk (fun z=>Qf.cs (g,{ x with f_Psk:=z })) :=
 ⟨Cd.cs (QQ (Qv .u8) 32 (by decide)) x.f_Key++[],Cd.cs Qb x.f_End++(Cd.cs (Qv .i64) x.f_Keep++(Cd.cs (Qv .u64) x.f_Sent++(Cd.cs (Qv .u64) x.f_Got++(Cd.cs cHd ⟨g.1,List.length x.f_Allowed,g.2⟩++[])))),by simp [Qf],by simp only [List.length_append,Cd.len,List.length_nil]<;>rfl,fun z=>by simp [Qf]⟩
theorem QbE(g:QR)(x:Qq):Qaf (Qf.cs (g,x)) 64 Qb x.f_End (fun z=>Qf.cs (g,{ x with f_End:=z })) :=
 ⟨Cd.cs (QQ (Qv .u8) 32 (by decide)) x.f_Key++(Cd.cs (QQ (Qv .u8) 32 (by decide)) x.f_Psk++[]),Cd.cs (Qv .i64) x.f_Keep++(Cd.cs (Qv .u64) x.f_Sent++(Cd.cs (Qv .u64) x.f_Got++(Cd.cs cHd ⟨g.1,List.length x.f_Allowed,g.2⟩++[]))),by simp [Qf],by simp only [List.length_append,Cd.len,List.length_nil]<;>rfl,fun z=>by simp [Qf]⟩
theorem Qbr(g:QR)(x:Qq):Qaf (Qf.cs (g,x)) 82 (Qv .i64) x.f_Keep (fun z=>Qf.cs (g,{ x with f_Keep:=z })) :=
 ⟨Cd.cs (QQ (Qv .u8) 32 (by decide)) x.f_Key++(Cd.cs (QQ (Qv .u8) 32 (by decide)) x.f_Psk++(Cd.cs Qb x.f_End++[])),Cd.cs (Qv .u64) x.f_Sent++(Cd.cs (Qv .u64) x.f_Got++(Cd.cs cHd ⟨g.1,List.length x.f_Allowed,g.2⟩++[])),by simp [Qf],by simp only [List.length_append,Cd.len,List.length_nil]<;>rfl,fun z=>by simp [Qf]⟩
theorem QbT(g:QR)(x:Qq):Qaf (Qf.cs (g,x)) 83 (Qv .u64) x.f_Sent (fun z=>Qf.cs (g,{ x with f_Sent:=z })) :=
 ⟨Cd.cs (QQ (Qv .u8) 32 (by decide)) x.f_Key++(Cd.cs (QQ (Qv .u8) 32 (by decide)) x.f_Psk++(Cd.cs Qb x.f_End++(Cd.cs (Qv .i64) x.f_Keep++[]))),Cd.cs (Qv .u64) x.f_Got++(Cd.cs cHd ⟨g.1,List.length x.f_Allowed,g.2⟩++[]),by simp [Qf],by simp only [List.length_append,Cd.len,List.length_nil]<;>rfl,fun z=>by simp [Qf]⟩
theorem Qb4(g:QR)(x:Qq):Qaf (Qf.cs (g,x)) 84 (Qv .u64) x.f_Got (fun z=>Qf.cs (g,{ x with f_Got:=z })) :=
 ⟨Cd.cs (QQ (Qv .u8) 32 (by decide)) x.f_Key++(Cd.cs (QQ (Qv .u8) 32 (by decide)) x.f_Psk++(Cd.cs Qb x.f_End++(Cd.cs (Qv .i64) x.f_Keep++(Cd.cs (Qv .u64) x.f_Sent++[])))),Cd.cs cHd ⟨g.1,List.length x.f_Allowed,g.2⟩++[],by simp [Qf],by simp only [List.length_append,Cd.len,List.length_nil]<;>rfl,fun z=>by simp [Qf]⟩
theorem QaP(g:QR)(x:Qq):Qaf (Qf.cs (g,x)) 85 cHd ⟨g.1,List.length x.f_Allowed,g.2⟩ (fun h=>Cd.cs (QQ (Qv .u8) 32 (by decide)) x.f_Key++(Cd.cs (QQ (Qv .u8) 32 (by decide)) x.f_Psk++(Cd.cs Qb x.f_End++(Cd.cs (Qv .i64) x.f_Keep++(Cd.cs (Qv .u64) x.f_Sent++(Cd.cs (Qv .u64) x.f_Got++(Cd.cs cHd h++[]))))))) :=
 ⟨Cd.cs (QQ (Qv .u8) 32 (by decide)) x.f_Key++(Cd.cs (QQ (Qv .u8) 32 (by decide)) x.f_Psk++(Cd.cs Qb x.f_End++(Cd.cs (Qv .i64) x.f_Keep++(Cd.cs (Qv .u64) x.f_Sent++(Cd.cs (Qv .u64) x.f_Got++[]))))),[],by simp [Qf],by simp only [List.length_append,Cd.len,List.length_nil]<;>rfl,fun z=>by simp⟩
theorem Qh2: ∀ w, ((#[{ name := "Key", type := 24, offset := 0, embedded := false, tag := "", pkgPath := "", byteOffset := 0 }, { name := "Psk", type := 24, offset := 32, embedded := false, tag := "", pkgPath := "", byteOffset := 32 }, { name := "End", type := 57, offset := 64, embedded := false, tag := "", pkgPath := "", byteOffset := 64 }, { name := "Keep", type := 3, offset := 82, embedded := false, tag := "", pkgPath := "", byteOffset := 96 }, { name := "Sent", type := 41, offset := 83, embedded := false, tag := "", pkgPath := "", byteOffset := 104 }, { name := "Got", type := 41, offset := 84, embedded := false, tag := "", pkgPath := "", byteOffset := 112 }, { name := "Allowed", type := 58, offset := 85, embedded := false, tag := "", pkgPath := "", byteOffset := 120 }] : Array Field).mapM fun f => (do pure (f.offset, ← sizeOf f.type) : Sem (Nat × Nat))).run Tryz.prog w = .ok #[(0, 32), (32, 32), (64, 18), (82, 1), (83, 1), (84, 1), (85, 1)] w := fun w => by
 simp [Tryz.sizeOf24 w,Tryz.sizeOf24 w,Tryz.sizeOf57 w,Tryz.sizeOf3 w,Tryz.sizeOf41 w,Tryz.sizeOf41 w,Tryz.sizeOf58 w]
structure Qx where
 f_Private:(Vector Int 32)
 f_Port:Int
 f_Mark:Int
 f_Peers:List Qq
 deriving DecidableEq,Inhabited
abbrev Qbs:=(Option Addr×Nat)
def Qh:Cd (Qbs×Qx):=⟨35,fun z=>Cd.cs (QQ (Qv .u8) 32 (by decide)) z.2.f_Private++(Cd.cs (Qv .i64) z.2.f_Port++(Cd.cs (Qv .u32) z.2.f_Mark++(Cd.cs cHd ⟨z.1.1,List.length z.2.f_Peers,z.1.2⟩++[]))),fun x=>by simp only [List.length_append,Cd.len,List.length_nil]<;>rfl,fun x v hv=>by
 simp only [List.mem_append,List.not_mem_nil,or_false] at hv
 rcases hv with hv | hv | hv | hv
 all_goals exact Cd.one _ _ _ hv,by decide⟩
def Qdk(w:World)(z:Qbs×Qx):Prop:=QeE w z.1.1 z.1.2 z.2.f_Peers
theorem Qdk.below{w w':World}{z:Qbs×Qx}(h:Qdk w z)(hb:Below w.heap.size w w'):Qdk w' z:=QeE.below h hb
def Qao(K:Nat→Prop)(w:World)(z:Qbs×Qx):Prop:=Qfv Qf Qu K w z.1.1 z.1.2 z.2.f_Peers
theorem Qao.mono{K K':Nat→Prop}{s s':World}{z:Qbs×Qx}(h:Qao K s z)(m:Qc7 K s K' s'):Qao K' s' z:=Qc6.mono h m
theorem Qao.n{K:Nat→Prop}{s:World}{z:Qbs×Qx}(h:Qao K s z):Qdk s z:=Qc6.n h
abbrev Qg3(K:Nat→Prop)(w:World)(p:Option Addr)(cap:Nat)(xs:List Qx):Prop:=Qfv Qh Qao K w p cap xs
theorem Qg3.mono{K:Nat→Prop}{s:World}{p:Option Addr}{cap:Nat}{xs:List Qx}{K':Nat→Prop}{s':World}(h:Qg3 K s p cap xs)(m:Qc7 K s K' s'):Qg3 K' s' p cap xs:=Qfv.mono_of (fun _ hz=>Qao.mono hz m) h m
theorem Qc4(g:Qbs)(x:Qx):Qaf (Qh.cs (g,x)) 34 (cSv Qq) (g,x.f_Peers) (fun z=>Qh.cs (z.1,{ x with f_Peers:=z.2 })) :=
 ⟨Cd.cs (QQ (Qv .u8) 32 (by decide)) x.f_Private++(Cd.cs (Qv .i64) x.f_Port++(Cd.cs (Qv .u32) x.f_Mark++[])),[],by simp [Qh,cSv,cHd],by simp only [List.length_append,Cd.len,List.length_nil]<;>rfl,fun z=>by simp [Qh,cSv,cHd]⟩
theorem Qcm(g:Qbs)(x:Qx):Qaf (Qh.cs (g,x)) 0 (QQ (Qv .u8) 32 (by decide)) x.f_Private (fun z=>Qh.cs (g,{ x with f_Private:=z })) :=
 ⟨[],Cd.cs (Qv .i64) x.f_Port++(Cd.cs (Qv .u32) x.f_Mark++(Cd.cs cHd ⟨g.1,List.length x.f_Peers,g.2⟩++[])),by simp [Qh],by simp only [List.length_append,Cd.len,List.length_nil]<;>rfl,fun z=>by simp [Qh]⟩
theorem Qce(g:Qbs)(x:Qx):Qaf (Qh.cs (g,x)) 32 (Qv .i64) x.f_Port (fun z=>Qh.cs (g,{ x with f_Port:=z })) :=
 ⟨Cd.cs (QQ (Qv .u8) 32 (by decide)) x.f_Private++[],Cd.cs (Qv .u32) x.f_Mark++(Cd.cs cHd ⟨g.1,List.length x.f_Peers,g.2⟩++[]),by simp [Qh],by simp only [List.length_append,Cd.len,List.length_nil]<;>rfl,fun z=>by simp [Qh]⟩
theorem QcR(g:Qbs)(x:Qx):Qaf (Qh.cs (g,x)) 33 (Qv .u32) x.f_Mark (fun z=>Qh.cs (g,{ x with f_Mark:=z })) :=
 ⟨Cd.cs (QQ (Qv .u8) 32 (by decide)) x.f_Private++(Cd.cs (Qv .i64) x.f_Port++[]),Cd.cs cHd ⟨g.1,List.length x.f_Peers,g.2⟩++[],by simp [Qh],by simp only [List.length_append,Cd.len,List.length_nil]<;>rfl,fun z=>by simp [Qh]⟩
theorem QV(g:Qbs)(x:Qx):Qaf (Qh.cs (g,x)) 34 cHd ⟨g.1,List.length x.f_Peers,g.2⟩ (fun h=>Cd.cs (QQ (Qv .u8) 32 (by decide)) x.f_Private++(Cd.cs (Qv .i64) x.f_Port++(Cd.cs (Qv .u32) x.f_Mark++(Cd.cs cHd h++[])))) :=
 ⟨Cd.cs (QQ (Qv .u8) 32 (by decide)) x.f_Private++(Cd.cs (Qv .i64) x.f_Port++(Cd.cs (Qv .u32) x.f_Mark++[])),[],by simp [Qh],by simp only [List.length_append,Cd.len,List.length_nil]<;>rfl,fun z=>by simp⟩
theorem QbJ: ∀ w, ((#[{ name := "Private", type := 24, offset := 0, embedded := false, tag := "", pkgPath := "", byteOffset := 0 }, { name := "Port", type := 3, offset := 32, embedded := false, tag := "", pkgPath := "", byteOffset := 32 }, { name := "Mark", type := 25, offset := 33, embedded := false, tag := "", pkgPath := "", byteOffset := 40 }, { name := "Peers", type := 26, offset := 34, embedded := false, tag := "", pkgPath := "", byteOffset := 48 }] : Array Field).mapM fun f => (do pure (f.offset, ← sizeOf f.type) : Sem (Nat × Nat))).run Tryz.prog w = .ok #[(0, 32), (32, 1), (33, 1), (34, 1)] w := fun w => by
 simp [Tryz.sizeOf24 w,Tryz.sizeOf3 w,Tryz.sizeOf25 w,Tryz.sizeOf26 w]
structure Q3 where
 f_e:Int
 deriving DecidableEq,Inhabited
def Qt:Cd Q3:=⟨1,fun x=>Cd.cs (Qv .i64) x.f_e++[],fun x=>by simp only [List.length_append,Cd.len,List.length_nil]<;>rfl,fun x v hv=>by
 simp only [List.mem_append,List.not_mem_nil,or_false] at hv
 rcases hv with hv
 all_goals exact Cd.one _ _ _ hv,by decide⟩
theorem QeC(x:Q3):Qaf (Qt.cs x) 0 (Qv .i64) x.f_e (fun z=>Qt.cs { x with f_e:=z }) :=
 ⟨[],[],by simp [Qt],by simp only [List.length_append,Cd.len,List.length_nil]<;>rfl,fun z=>by simp [Qt]⟩
theorem QgJ: ∀ w, ((#[{ name := "e", type := 29, offset := 0, embedded := false, tag := "", pkgPath := "crawlway/show", byteOffset := 0 }] : Array Field).mapM fun f => (do pure (f.offset, ← sizeOf f.type) : Sem (Nat × Nat))).run Tryz.prog w = .ok #[(0, 1)] w := fun w => by
 simp [Tryz.sizeOf29 w]
structure QF where
 f_g:(Vector Int 8)
 f_n:Int
 f_gap:Int
 deriving DecidableEq,Inhabited
def QL:Cd QF:=⟨10,fun x=>Cd.cs (QQ (Qv .u16) 8 (by decide)) x.f_g++(Cd.cs (Qv .i64) x.f_n++(Cd.cs (Qv .i64) x.f_gap++[])),fun x=>by simp only [List.length_append,Cd.len,List.length_nil]<;>rfl,fun x v hv=>by
 simp only [List.mem_append,List.not_mem_nil,or_false] at hv
 rcases hv with hv | hv | hv
 all_goals exact Cd.one _ _ _ hv,by decide⟩
theorem Qc3(x:QF):Qaf (QL.cs x) 0 (QQ (Qv .u16) 8 (by decide)) x.f_g (fun z=>QL.cs { x with f_g:=z }) :=
 ⟨[],Cd.cs (Qv .i64) x.f_n++(Cd.cs (Qv .i64) x.f_gap++[]),by simp [QL],by simp only [List.length_append,Cd.len,List.length_nil]<;>rfl,fun z=>by simp [QL]⟩
theorem Qbk(x:QF):Qaf (QL.cs x) 8 (Qv .i64) x.f_n (fun z=>QL.cs { x with f_n:=z }) :=
 ⟨Cd.cs (QQ (Qv .u16) 8 (by decide)) x.f_g++[],Cd.cs (Qv .i64) x.f_gap++[],by simp [QL],by simp only [List.length_append,Cd.len,List.length_nil]<;>rfl,fun z=>by simp [QL]⟩
theorem Qba(x:QF):Qaf (QL.cs x) 9 (Qv .i64) x.f_gap (fun z=>QL.cs { x with f_gap:=z }) :=
 ⟨Cd.cs (QQ (Qv .u16) 8 (by decide)) x.f_g++(Cd.cs (Qv .i64) x.f_n++[]),[],by simp [QL],by simp only [List.length_append,Cd.len,List.length_nil]<;>rfl,fun z=>by simp [QL]⟩
theorem Qf5: ∀ w, ((#[{ name := "g", type := 204, offset := 0, embedded := false, tag := "", pkgPath := "crawlway/colon", byteOffset := 0 }, { name := "n", type := 3, offset := 8, embedded := false, tag := "", pkgPath := "crawlway/colon", byteOffset := 16 }, { name := "gap", type := 3, offset := 9, embedded := false, tag := "", pkgPath := "crawlway/colon", byteOffset := 24 }] : Array Field).mapM fun f => (do pure (f.offset, ← sizeOf f.type) : Sem (Nat × Nat))).run Tryz.prog w = .ok #[(0, 8), (8, 1), (9, 1)] w := fun w => by
 simp [Tryz.sizeOf204 w,Tryz.sizeOf3 w,Tryz.sizeOf3 w]
theorem Qkv:QpS Qd:=fun x v hv=>by
 have hv:v∈Cd.cs (Qv .i64) x.f_V++(Cd.cs (QQ (Qv .u8) 16 (by decide)) x.f_B++[]):=hv
 simp only [List.mem_append,List.not_mem_nil,or_false] at hv
 rcases hv with hv | hv
 ·exact (QjU .i64) _ _ hv
 ·exact (QqI (QjU .u8)) _ _ hv
theorem Qgn:QpS Qc:=fun x v hv=>by
 have hv:v∈Cd.cs Qd x.f_A++(Cd.cs (Qv .i64) x.f_Bits++[]):=hv
 simp only [List.mem_append,List.not_mem_nil,or_false] at hv
 rcases hv with hv | hv
 ·exact Qkv _ _ hv
 ·exact (QjU .i64) _ _ hv
end Go.Proofs.YtnekckhjmnhinaaGreatDoor
namespace Go.Proofs
open Go.Shelf
def Tryz.lays169_ren:Go.Shelf.Ren:=⟨fun | 169=>64 | n=>n,fun | 70=>98 | 9=>9 | 0=>0 | 72=>100 | 37=>85 | 127=>131 | 3=>3 | 5=>5 | n=>n,fun | n=>n⟩
theorem Tryz.lays169:Go.Proofs.Lays.n169 Tryz.prog Tryz.lays169_ren:={
 mixed:=by kernel_rfl
 f169:=Tryz.func64.trans (congrArg some (by kernel_rfl))
 t0:=Tryz.underlying0
 a0:=Tryz.isAgg0
 z0:=Tryz.sizeOf0
 v0:=Tryz.zeroValue0
 t3:=Tryz.underlying3
 a3:=Tryz.isAgg3
 z3:=Tryz.sizeOf3
 v3:=Tryz.zeroValue3
 t9:=Tryz.underlying9
 a9:=Tryz.isAgg9
 z9:=Tryz.sizeOf9
 v9:=Tryz.zeroValue9
 t37:=Tryz.underlying85
 a37:=Tryz.isAgg85
 z37:=Tryz.sizeOf85
 v37:=Tryz.zeroValue85
 t70:=Tryz.underlying98
 a70:=Tryz.isAgg98
 z70:=Tryz.sizeOf98
 v70:=Tryz.zeroValue98
 t72:=Tryz.underlying100
 a72:=Tryz.isAgg100
 z72:=Tryz.sizeOf100
 v72:=Tryz.zeroValue100
 t127:=Tryz.underlying131
 a127:=Tryz.isAgg131
 z127:=Tryz.sizeOf131
 v127:=Tryz.zeroValue131 }
theorem Tryz.Builder_Extra_169:Builder.Extra Tryz.prog Tryz.lays169_ren:={
 sizeBuilder:=by kernel_rfl
 liesBuilder:=by kernel_rfl
 t5:=Tryz.underlying5
 a5:=Tryz.isAgg5
 z5:=Tryz.sizeOf5
 v5:=Tryz.zeroValue5
 infoByte:=by kernel_rfl
 cellsByte:=by kernel_rfl
 sizeByte:=by kernel_rfl
 neB5:=by decide }
def Tryz.lays156_ren:Go.Shelf.Ren:=⟨fun | 156=>25 | 165=>62 | 166=>63 | 169=>64 | 240=>93 | 241=>94 | 276=>126 | 277=>127 | n=>n,fun | 31=>46 | 9=>9 | 3=>3 | 4=>4 | 0=>0 | 20=>20 | 72=>100 | 76=>104 | 70=>98 | 37=>85 | 75=>103 | 127=>131 | 164=>164 | 5=>5 | 80=>106 | n=>n,fun | n=>n⟩
theorem Tryz.lays156:Go.Proofs.Lays.n156 Tryz.prog Tryz.lays156_ren:={
 mixed:=by kernel_rfl
 f156:=Tryz.func25.trans (congrArg some (by kernel_rfl))
 f165:=Tryz.func62.trans (congrArg some (by kernel_rfl))
 f166:=Tryz.func63.trans (congrArg some (by kernel_rfl))
 f169:=Tryz.func64.trans (congrArg some (by kernel_rfl))
 f240:=Tryz.func93.trans (congrArg some (by kernel_rfl))
 f241:=Tryz.func94.trans (congrArg some (by kernel_rfl))
 f276:=Tryz.func126.trans (congrArg some (by kernel_rfl))
 f277:=Tryz.func127.trans (congrArg some (by kernel_rfl))
 t0:=Tryz.underlying0
 a0:=Tryz.isAgg0
 z0:=Tryz.sizeOf0
 v0:=Tryz.zeroValue0
 t3:=Tryz.underlying3
 a3:=Tryz.isAgg3
 z3:=Tryz.sizeOf3
 v3:=Tryz.zeroValue3
 t4:=Tryz.underlying4
 a4:=Tryz.isAgg4
 z4:=Tryz.sizeOf4
 v4:=Tryz.zeroValue4
 t9:=Tryz.underlying9
 a9:=Tryz.isAgg9
 z9:=Tryz.sizeOf9
 v9:=Tryz.zeroValue9
 t20:=Tryz.underlying20
 a20:=Tryz.isAgg20
 z20:=Tryz.sizeOf20
 v20:=Tryz.zeroValue20
 t31:=Tryz.underlying46
 a31:=Tryz.isAgg46
 z31:=Tryz.sizeOf46
 v31:=Tryz.zeroValue46
 t37:=Tryz.underlying85
 a37:=Tryz.isAgg85
 z37:=Tryz.sizeOf85
 v37:=Tryz.zeroValue85
 t70:=Tryz.underlying98
 a70:=Tryz.isAgg98
 z70:=Tryz.sizeOf98
 v70:=Tryz.zeroValue98
 t72:=Tryz.underlying100
 a72:=Tryz.isAgg100
 z72:=Tryz.sizeOf100
 v72:=Tryz.zeroValue100
 t75:=Tryz.underlying103
 a75:=Tryz.isAgg103
 z75:=Tryz.sizeOf103
 v75:=Tryz.zeroValue103
 t76:=Tryz.underlying104
 a76:=Tryz.isAgg104
 z76:=Tryz.sizeOf104
 v76:=Tryz.zeroValue104
 t127:=Tryz.underlying131
 a127:=Tryz.isAgg131
 z127:=Tryz.sizeOf131
 v127:=Tryz.zeroValue131
 t164:=Tryz.underlying164
 a164:=Tryz.isAgg164
 z164:=Tryz.sizeOf164
 v164:=Tryz.zeroValue164 }
theorem Tryz.Builder_Extra_156:Builder.Extra Tryz.prog Tryz.lays156_ren:={
 sizeBuilder:=by kernel_rfl
 liesBuilder:=by kernel_rfl
 t5:=Tryz.underlying5
 a5:=Tryz.isAgg5
 z5:=Tryz.sizeOf5
 v5:=Tryz.zeroValue5
 infoByte:=by kernel_rfl
 cellsByte:=by kernel_rfl
 sizeByte:=by kernel_rfl
 neB5:=by decide }
open Go.RowKit in
theorem Tryz.strings_Join_none(a:Option Addr)(c:Nat)(sep:ByteArray)(w:World) :
  Calls Tryz.prog 25 #[.slice a 0 c,.string sep] w fun e w'=>e=.returned (.string ⟨#[]⟩)∧w'=w:=Any.strings_Join_none Tryz.lays156 Tryz.Builder_Extra_156 a c sep w
open Go.RowKit in
theorem Tryz.strings_Join(bk o c:Nat)(xs:List ByteArray)(sep:ByteArray)(w:World)(hcells:∀ (j:Nat) x,xs[j]? = some x→w.cell? ⟨bk,o+j,none⟩=some (.string x))(hbk:bk<w.heap.size)(hN:xs.length≤140737488355328)(hcap:xs.length≤c)(hlen:(Lib.join (xs.map (·.data.toList)) sep.data.toList).length≤140737488355328) :
  Calls Tryz.prog 25 #[.slice (some ⟨bk,o,none⟩) xs.length c,.string sep] w fun e w'=>e=.returned (.string ⟨(Lib.join (xs.map (·.data.toList)) sep.data.toList).toArray⟩)∧Below w.heap.size w w':=Any.strings_Join Tryz.lays156 Tryz.Builder_Extra_156 bk o c xs sep w hcells hbk hN hcap hlen
def Tryz.lays137_ren:Go.Shelf.Ren:=⟨fun | 137=>181 | 217=>170 | 266=>191 | n=>n,fun | 9=>9 | 5=>5 | 3=>3 | n=>n,fun | n=>n⟩
theorem Tryz.lays137:Go.Proofs.Lays.n137 Tryz.prog Tryz.lays137_ren:={
 mixed:=by kernel_rfl
 f137:=Tryz.func181.trans (congrArg some (by kernel_rfl))
 f217:=Tryz.func170.trans (congrArg some (by kernel_rfl))
 f266:=Tryz.func191.trans (congrArg some (by kernel_rfl))
 t3:=Tryz.underlying3
 a3:=Tryz.isAgg3
 z3:=Tryz.sizeOf3
 v3:=Tryz.zeroValue3
 t5:=Tryz.underlying5
 a5:=Tryz.isAgg5
 z5:=Tryz.sizeOf5
 v5:=Tryz.zeroValue5
 t9:=Tryz.underlying9
 a9:=Tryz.isAgg9
 z9:=Tryz.sizeOf9
 v9:=Tryz.zeroValue9 }
open Go.RowKit in
theorem Tryz.strings_IndexByte(s:ByteArray)(c:Int)(w:World) :
  Calls Tryz.prog 181 #[.string s,.int .u8 c] w fun e w'=>e=.returned (.int .i64 (Lib.indexByte s.data.toList c.toNat.toUInt8))∧w'=w:=Any.strings_IndexByte Tryz.lays137 s c w
def Tryz.lays210_ren:Go.Shelf.Ren:=⟨fun | 210=>182 | 206=>162 | n=>n,fun | 9=>9 | 4=>4 | 3=>3 | n=>n,fun | n=>n⟩
open Go.RowKit in
theorem Tryz.Builder_String_any_k(B b:Nat)(l:List UInt8)(w:World)(h:Lib.IsBuilderF 100 5 B b (Lib.byteCells l) w)(hBw:B≤w.heap.size) :
  Calls Tryz.prog 64 #[.pointer (some ⟨b,0,none⟩)] w fun e w'=>e=.returned (.string ⟨l.toArray⟩)∧(Lib.IsBuilderF 100 5 B b (Lib.byteCells l) w'∧Below B w w'∧Lib.OthersKept 5 (some b) w w'):=Any.Builder_String_any_k Tryz.lays169 Tryz.Builder_Extra_169 B b l w h hBw
def Tryz.lays283_ren:Go.Shelf.Ren:=⟨fun | 283=>99 | n=>n,fun | 3=>3 | 9=>9 | 4=>4 | n=>n,fun | n=>n⟩
theorem Tryz.lays283:Go.Proofs.Lays.n283 Tryz.prog Tryz.lays283_ren:={
 mixed:=by kernel_rfl
 f283:=Tryz.func99.trans (congrArg some (by kernel_rfl))
 t3:=Tryz.underlying3
 a3:=Tryz.isAgg3
 z3:=Tryz.sizeOf3
 v3:=Tryz.zeroValue3
 t4:=Tryz.underlying4
 a4:=Tryz.isAgg4
 z4:=Tryz.sizeOf4
 v4:=Tryz.zeroValue4
 t9:=Tryz.underlying9
 a9:=Tryz.isAgg9
 z9:=Tryz.sizeOf9
 v9:=Tryz.zeroValue9 }
open Go.Lib in
theorem Tryz.internal_strconv_small(i:Nat)(h:i<100)(w:World) :
  Calls Tryz.prog 99 #[.int .i64 i] w fun e w'=>e=.returned (.string ⟨(Lib.decDigits i).toArray⟩)∧w'=w:=Any.internal_strconv_small Tryz.lays283 i h w
def Tryz.laysM284_ren:Go.Shelf.Ren:=⟨fun | 284=>100 | 129=>134 | 317=>133 | 318=>135 | n=>n,fun | 53=>41 | 3=>3 | 212=>172 | 0=>0 | 4=>4 | 46=>78 | 5=>5 | 9=>9 | n=>n,fun | 17=>1 | n=>n⟩
theorem Tryz.laysM284:Go.Proofs.LaysM.n284 Tryz.prog Tryz.laysM284_ren:={
 mixed:=by kernel_rfl
 f129:=Tryz.func134.trans (congrArg some (by kernel_rfl))
 f284:=Tryz.func100.trans (congrArg some (by kernel_rfl))
 f317:=Tryz.func133.trans (congrArg some (by kernel_rfl))
 f318:=Tryz.func135.trans (congrArg some (by kernel_rfl))
 t0:=Tryz.underlying0
 a0:=Tryz.isAgg0
 z0:=Tryz.sizeOf0
 v0:=Tryz.zeroValue0
 t3:=Tryz.underlying3
 a3:=Tryz.isAgg3
 z3:=Tryz.sizeOf3
 v3:=Tryz.zeroValue3
 t4:=Tryz.underlying4
 a4:=Tryz.isAgg4
 z4:=Tryz.sizeOf4
 v4:=Tryz.zeroValue4
 t5:=Tryz.underlying5
 a5:=Tryz.isAgg5
 z5:=Tryz.sizeOf5
 v5:=Tryz.zeroValue5
 t9:=Tryz.underlying9
 a9:=Tryz.isAgg9
 z9:=Tryz.sizeOf9
 v9:=Tryz.zeroValue9
 t46:=Tryz.underlying78
 a46:=Tryz.isAgg78
 z46:=Tryz.sizeOf78
 v46:=Tryz.zeroValue78
 t53:=Tryz.underlying41
 a53:=Tryz.isAgg41
 z53:=Tryz.sizeOf41
 v53:=Tryz.zeroValue41
 t212:=Tryz.underlying172
 a212:=Tryz.isAgg172
 z212:=Tryz.sizeOf172
 v212:=Tryz.zeroValue172
 g17:=by kernel_rfl
 i0:=by kernel_rfl
 i3:=by kernel_rfl
 i4:=by kernel_rfl
 i5:=by kernel_rfl
 i9:=by kernel_rfl
 i46:=by kernel_rfl
 i53:=by kernel_rfl
 i212:=by kernel_rfl
 m17:=by kernel_rfl }
open Go.Lib in
theorem Tryz.internal_strconv_numDigits(u : Nat)(h1 : 1 ≤ u)(h2 : u < 18446744073709551616)(w : World)(htab : Lib.TabIs Tryz.prog w "internal/strconv.uint64pow10" .u64 Lib.pow10Tab) :
  Calls Tryz.prog 100 #[.int .u64 u] w fun e w'=>e=.returned (.int .i64 (Lib.nDigits u))∧w'=w:=Any.internal_strconv_numDigits Tryz.laysM284 u h1 h2 w htab
def Tryz.lays285_ren:Go.Shelf.Ren:=⟨fun | 285=>101 | n=>n,fun | 37=>85 | 53=>41 | 3=>3 | 4=>4 | 51=>25 | 9=>9 | 5=>5 | 0=>0 | n=>n,fun | n=>n⟩
theorem Tryz.lays285:Go.Proofs.Lays.n285 Tryz.prog Tryz.lays285_ren:={
 mixed:=by kernel_rfl
 f285:=Tryz.func101.trans (congrArg some (by kernel_rfl))
 t0:=Tryz.underlying0
 a0:=Tryz.isAgg0
 z0:=Tryz.sizeOf0
 v0:=Tryz.zeroValue0
 t3:=Tryz.underlying3
 a3:=Tryz.isAgg3
 z3:=Tryz.sizeOf3
 v3:=Tryz.zeroValue3
 t4:=Tryz.underlying4
 a4:=Tryz.isAgg4
 z4:=Tryz.sizeOf4
 v4:=Tryz.zeroValue4
 t5:=Tryz.underlying5
 a5:=Tryz.isAgg5
 z5:=Tryz.sizeOf5
 v5:=Tryz.zeroValue5
 t9:=Tryz.underlying9
 a9:=Tryz.isAgg9
 z9:=Tryz.sizeOf9
 v9:=Tryz.zeroValue9
 t37:=Tryz.underlying85
 a37:=Tryz.isAgg85
 z37:=Tryz.sizeOf85
 v37:=Tryz.zeroValue85
 t51:=Tryz.underlying25
 a51:=Tryz.isAgg25
 z51:=Tryz.sizeOf25
 v51:=Tryz.zeroValue25
 t53:=Tryz.underlying41
 a53:=Tryz.isAgg41
 z53:=Tryz.sizeOf41
 v53:=Tryz.zeroValue41 }
open Go.RowKit Go.Sort Go.Lib in
theorem Tryz.internal_strconv_formatBase10(blk off cap:Nat)(u:Nat)(d:Array UInt8)(w:World)(hH:Holds (fun (b:UInt8)=>Value.int .u8 (b.toNat:Int)) w blk off d)(hu:u<10 ^ d.size)(hu64:u<18446744073709551616)(hsz:d.size<4611686018427387904) :
  Calls Tryz.prog 101 #[.slice (some ⟨blk,off,none⟩) d.size cap,.int .u64 u] w fun e w' =>
   e=.returned (.tuple #[])∧∃ (n v':Nat) (dk:Array UInt8),w'=(putRow (fun (b:UInt8)=>Value.int .u8 (b.toNat:Int)) w blk off dk).drewN n∧FmtInv d.size u 0 v' dk:=Any.internal_strconv_formatBase10 Tryz.lays285 blk off cap u d w hH hu hu64 hsz
def Tryz.laysPu14_ren:Go.Shelf.Ren:=⟨fun | 14=>114 | 16=>146 | 17=>147 | 19=>175 | 20=>176 | 21=>177 | 22=>178 | 23=>179 | 24=>180 | 25=>193 | 27=>195 | 26=>194 | 28=>201 | 29=>204 | 30=>99 | 31=>100 | 32=>101 | 33=>102 | 35=>134 | 34=>133 | 36=>135 | 37=>136 | 38=>137 | 39=>166 | 40=>167 | n=>n,fun | 9=>9 | 3=>3 | 22=>41 | 24=>103 | 25=>149 | 4=>4 | 34=>213 | 5=>5 | 36=>78 | 37=>85 | 0=>0 | 39=>215 | 21=>21 | 44=>233 | 47=>131 | 50=>242 | 48=>240 | 2=>2 | 52=>134 | 55=>137 | 59=>172 | 60=>25 | 20=>20 | 61=>173 | 65=>23 | 66=>225 | 67=>106 | n=>n,fun | 0=>7 | 1=>8 | 2=>1 | 3=>3 | 4=>4 | n=>n⟩
theorem Tryz.laysPu14:Go.Proofs.LaysPu.n14 Tryz.prog Tryz.laysPu14_ren:={
 mixed:=by kernel_rfl
 f14:=Tryz.func114.trans (congrArg some (by kernel_rfl))
 f16:=Tryz.func146.trans (congrArg some (by kernel_rfl))
 f17:=Tryz.func147.trans (congrArg some (by kernel_rfl))
 f19:=Tryz.func175.trans (congrArg some (by kernel_rfl))
 f20:=Tryz.func176.trans (congrArg some (by kernel_rfl))
 f21:=Tryz.func177.trans (congrArg some (by kernel_rfl))
 f22:=Tryz.func178.trans (congrArg some (by kernel_rfl))
 f23:=Tryz.func179.trans (congrArg some (by kernel_rfl))
 f24:=Tryz.func180.trans (congrArg some (by kernel_rfl))
 f25:=Tryz.func193.trans (congrArg some (by kernel_rfl))
 f26:=Tryz.func194.trans (congrArg some (by kernel_rfl))
 f27:=Tryz.func195.trans (congrArg some (by kernel_rfl))
 f28:=Tryz.func201.trans (congrArg some (by kernel_rfl))
 f29:=Tryz.func204.trans (congrArg some (by kernel_rfl))
 f30:=Tryz.func99.trans (congrArg some (by kernel_rfl))
 f31:=Tryz.func100.trans (congrArg some (by kernel_rfl))
 f32:=Tryz.func101.trans (congrArg some (by kernel_rfl))
 f33:=Tryz.func102.trans (congrArg some (by kernel_rfl))
 f34:=Tryz.func133.trans (congrArg some (by kernel_rfl))
 f35:=Tryz.func134.trans (congrArg some (by kernel_rfl))
 f36:=Tryz.func135.trans (congrArg some (by kernel_rfl))
 f37:=Tryz.func136.trans (congrArg some (by kernel_rfl))
 f38:=Tryz.func137.trans (congrArg some (by kernel_rfl))
 f39:=Tryz.func166.trans (congrArg some (by kernel_rfl))
 f40:=Tryz.func167.trans (congrArg some (by kernel_rfl))
 t0:=Tryz.underlying0
 a0:=Tryz.isAgg0
 z0:=Tryz.sizeOf0
 v0:=Tryz.zeroValue0
 i0:=by kernel_rfl
 t2:=Tryz.underlying2
 a2:=Tryz.isAgg2
 z2:=Tryz.sizeOf2
 v2:=Tryz.zeroValue2
 i2:=by kernel_rfl
 t3:=Tryz.underlying3
 a3:=Tryz.isAgg3
 z3:=Tryz.sizeOf3
 v3:=Tryz.zeroValue3
 i3:=by kernel_rfl
 t4:=Tryz.underlying4
 a4:=Tryz.isAgg4
 z4:=Tryz.sizeOf4
 v4:=Tryz.zeroValue4
 i4:=by kernel_rfl
 t5:=Tryz.underlying5
 a5:=Tryz.isAgg5
 z5:=Tryz.sizeOf5
 v5:=Tryz.zeroValue5
 i5:=by kernel_rfl
 t9:=Tryz.underlying9
 a9:=Tryz.isAgg9
 z9:=Tryz.sizeOf9
 v9:=Tryz.zeroValue9
 i9:=by kernel_rfl
 t20:=Tryz.underlying20
 a20:=Tryz.isAgg20
 z20:=Tryz.sizeOf20
 v20:=Tryz.zeroValue20
 i20:=by kernel_rfl
 t21:=Tryz.underlying21
 a21:=Tryz.isAgg21
 z21:=Tryz.sizeOf21
 v21:=Tryz.zeroValue21
 i21:=by kernel_rfl
 t22:=Tryz.underlying41
 a22:=Tryz.isAgg41
 z22:=Tryz.sizeOf41
 v22:=Tryz.zeroValue41
 i22:=by kernel_rfl
 t24:=Tryz.underlying103
 a24:=Tryz.isAgg103
 z24:=Tryz.sizeOf103
 v24:=Tryz.zeroValue103
 i24:=by kernel_rfl
 t25:=Tryz.underlying149
 a25:=Tryz.isAgg149
 z25:=Tryz.sizeOf149
 v25:=Tryz.zeroValue149
 i25:=by kernel_rfl
 t34:=Tryz.underlying213
 a34:=Tryz.isAgg213
 z34:=Tryz.sizeOf213
 v34:=Tryz.zeroValue213
 i34:=by kernel_rfl
 c34:=by kernel_rfl
 t36:=Tryz.underlying78
 a36:=Tryz.isAgg78
 z36:=Tryz.sizeOf78
 v36:=Tryz.zeroValue78
 i36:=by kernel_rfl
 t37:=Tryz.underlying85
 a37:=Tryz.isAgg85
 z37:=Tryz.sizeOf85
 v37:=Tryz.zeroValue85
 i37:=by kernel_rfl
 t39:=Tryz.underlying215
 a39:=Tryz.isAgg215
 z39:=Tryz.sizeOf215
 v39:=Tryz.zeroValue215
 i39:=by kernel_rfl
 t44:=Tryz.underlying233
 a44:=Tryz.isAgg233
 z44:=Tryz.sizeOf233
 v44:=Tryz.zeroValue233
 i44:=by kernel_rfl
 t47:=Tryz.underlying131
 a47:=Tryz.isAgg131
 z47:=Tryz.sizeOf131
 v47:=Tryz.zeroValue131
 i47:=by kernel_rfl
 t48:=Tryz.underlying240
 a48:=Tryz.isAgg240
 z48:=Tryz.sizeOf240
 v48:=Tryz.zeroValue240
 i48:=by kernel_rfl
 t50:=Tryz.underlying242
 a50:=Tryz.isAgg242
 z50:=Tryz.sizeOf242
 v50:=Tryz.zeroValue242
 i50:=by kernel_rfl
 t52:=Tryz.underlying134
 a52:=Tryz.isAgg134
 z52:=Tryz.sizeOf134
 v52:=Tryz.zeroValue134
 i52:=by kernel_rfl
 t55:=Tryz.underlying137
 a55:=Tryz.isAgg137
 z55:=Tryz.sizeOf137
 v55:=Tryz.zeroValue137
 i55:=by kernel_rfl
 t59:=Tryz.underlying172
 a59:=Tryz.isAgg172
 z59:=Tryz.sizeOf172
 v59:=Tryz.zeroValue172
 i59:=by kernel_rfl
 t60:=Tryz.underlying25
 a60:=Tryz.isAgg25
 z60:=Tryz.sizeOf25
 v60:=Tryz.zeroValue25
 i60:=by kernel_rfl
 t61:=Tryz.underlying173
 a61:=Tryz.isAgg173
 z61:=Tryz.sizeOf173
 t65:=Tryz.underlying23
 a65:=Tryz.isAgg23
 z65:=Tryz.sizeOf23
 v65:=Tryz.zeroValue23
 i65:=by kernel_rfl
 t66:=Tryz.underlying225
 a66:=Tryz.isAgg225
 z66:=Tryz.sizeOf225
 v66:=Tryz.zeroValue225
 i66:=by kernel_rfl
 t67:=Tryz.underlying106
 a67:=Tryz.isAgg106
 z67:=Tryz.sizeOf106
 v67:=Tryz.zeroValue106
 i67:=by kernel_rfl
 g0:=by kernel_rfl
 m0:=by kernel_rfl
 g1:=by kernel_rfl
 m1:=by kernel_rfl
 g2:=by kernel_rfl
 m2:=by kernel_rfl
 g3:=by kernel_rfl
 m3:=by kernel_rfl
 g4:=by kernel_rfl
 m4:=by kernel_rfl }
open Go.RowKit in
theorem Tryz.strconv_ParseUint_10_at64_ok(s:ByteArray)(hmax:s.size≤9223372036854775806)(u:Nat)(h:Lib.parseUintB 64 s.data.toList=.ok u)(w:World) :
  Calls Tryz.prog 114 #[.string s,.int .i64 10,.int .i64 64] w fun e w'=>e=.returned (.tuple #[.int .u64 u,.nilIface])∧(w'=w∨w'=Lib.bytesWorld w 5 s):=Any.strconv_ParseUint_10_at64_ok Tryz.laysPu14 s hmax u h w
open Go.RowKit in
theorem Tryz.strconv_ParseUint_10_at64_range_var(s : ByteArray)(hlim : s.size ≤ 281474976710656)(h : Lib.parseUintB 64 s.data.toList = .range)(tp : TypeId)(p : Value)(w : World)(hvar : w.var? Tryz.prog "strconv.ErrRange" = some #[.iface tp p]) :
  Calls Tryz.prog 114 #[.string s,.int .i64 10,.int .i64 64] w fun e w'=>∃ N,e=.returned (.tuple #[.int .u64 18446744073709551615,.iface 215 (.pointer (some ⟨N,0,none⟩))])∧w.heap.size≤N∧w'.heap[N]? = some (.cells #[.string ⟨#[80,97,114,115,101,85,105,110,116]⟩,.string s,.iface tp p] 233 (0,0))∧Below w.heap.size w w':=Any.strconv_ParseUint_10_at64_range_var Tryz.laysPu14 s hlim h tp p w hvar
def Tryz.lays219_ren:Go.Shelf.Ren:=⟨fun | 219=>144 | 217=>170 | 225=>171 | 224=>172 | 267=>173 | 266=>191 | 314=>192 | n=>n,fun | 9=>9 | 3=>3 | 4=>4 | 5=>5 | 46=>78 | 146=>198 | 51=>25 | n=>n,fun | 1=>2 | n=>n⟩
def Tryz.lays144_ren:Go.Shelf.Ren:=⟨fun | 144=>152 | 143=>110 | 219=>144 | 217=>170 | 225=>171 | 224=>172 | 267=>173 | 266=>191 | 314=>192 | n=>n,fun | 9=>9 | 4=>4 | 3=>3 | 5=>5 | 46=>78 | 146=>198 | 51=>25 | n=>n,fun | 1=>2 | n=>n⟩
theorem Tryz.lays144:Go.Proofs.Lays.n144 Tryz.prog Tryz.lays144_ren:={
 mixed:=by kernel_rfl
 f143:=Tryz.func110.trans (congrArg some (by kernel_rfl))
 f144:=Tryz.func152.trans (congrArg some (by kernel_rfl))
 f217:=Tryz.func170.trans (congrArg some (by kernel_rfl))
 f219:=Tryz.func144.trans (congrArg some (by kernel_rfl))
 f224:=Tryz.func172.trans (congrArg some (by kernel_rfl))
 f225:=Tryz.func171.trans (congrArg some (by kernel_rfl))
 f266:=Tryz.func191.trans (congrArg some (by kernel_rfl))
 f267:=Tryz.func173.trans (congrArg some (by kernel_rfl))
 f314:=Tryz.func192.trans (congrArg some (by kernel_rfl))
 t3:=Tryz.underlying3
 a3:=Tryz.isAgg3
 z3:=Tryz.sizeOf3
 v3:=Tryz.zeroValue3
 t4:=Tryz.underlying4
 a4:=Tryz.isAgg4
 z4:=Tryz.sizeOf4
 v4:=Tryz.zeroValue4
 t5:=Tryz.underlying5
 a5:=Tryz.isAgg5
 z5:=Tryz.sizeOf5
 v5:=Tryz.zeroValue5
 t9:=Tryz.underlying9
 a9:=Tryz.isAgg9
 z9:=Tryz.sizeOf9
 v9:=Tryz.zeroValue9
 t46:=Tryz.underlying78
 a46:=Tryz.isAgg78
 z46:=Tryz.sizeOf78
 v46:=Tryz.zeroValue78
 t51:=Tryz.underlying25
 a51:=Tryz.isAgg25
 z51:=Tryz.sizeOf25
 v51:=Tryz.zeroValue25
 t146:=Tryz.underlying198
 a146:=Tryz.isAgg198
 z146:=Tryz.sizeOf198
 v146:=Tryz.zeroValue198
 g1:=by kernel_rfl }
open Go.RowKit Go.Lib in
theorem Tryz.strings_Contains_one(s:ByteArray)(c:UInt8)(w:World) :
  Calls Tryz.prog 152 #[.string s,.string ⟨#[c]⟩] w fun e w'=>e=.returned (.bool (decide (0≤Lib.indexByte s.data.toList c)))∧w'=w:=Any.strings_Contains_one Tryz.lays144 s c w
def Tryz.lays145_ren:Go.Shelf.Ren:=⟨fun | 145=>151 | 220=>183 | 219=>144 | 217=>170 | 225=>171 | 224=>172 | 267=>173 | 266=>191 | 314=>192 | n=>n,fun | 9=>9 | 4=>4 | 59=>126 | 3=>3 | 5=>5 | 46=>78 | 146=>198 | 51=>25 | n=>n,fun | 1=>2 | n=>n⟩
theorem Tryz.lays145:Go.Proofs.Lays.n145 Tryz.prog Tryz.lays145_ren:={
 mixed:=by kernel_rfl
 f145:=Tryz.func151.trans (congrArg some (by kernel_rfl))
 f217:=Tryz.func170.trans (congrArg some (by kernel_rfl))
 f219:=Tryz.func144.trans (congrArg some (by kernel_rfl))
 f220:=Tryz.func183.trans (congrArg some (by kernel_rfl))
 f224:=Tryz.func172.trans (congrArg some (by kernel_rfl))
 f225:=Tryz.func171.trans (congrArg some (by kernel_rfl))
 f266:=Tryz.func191.trans (congrArg some (by kernel_rfl))
 f267:=Tryz.func173.trans (congrArg some (by kernel_rfl))
 f314:=Tryz.func192.trans (congrArg some (by kernel_rfl))
 t3:=Tryz.underlying3
 a3:=Tryz.isAgg3
 z3:=Tryz.sizeOf3
 v3:=Tryz.zeroValue3
 t4:=Tryz.underlying4
 a4:=Tryz.isAgg4
 z4:=Tryz.sizeOf4
 v4:=Tryz.zeroValue4
 t5:=Tryz.underlying5
 a5:=Tryz.isAgg5
 z5:=Tryz.sizeOf5
 v5:=Tryz.zeroValue5
 t9:=Tryz.underlying9
 a9:=Tryz.isAgg9
 z9:=Tryz.sizeOf9
 v9:=Tryz.zeroValue9
 t46:=Tryz.underlying78
 a46:=Tryz.isAgg78
 z46:=Tryz.sizeOf78
 v46:=Tryz.zeroValue78
 t51:=Tryz.underlying25
 a51:=Tryz.isAgg25
 z51:=Tryz.sizeOf25
 v51:=Tryz.zeroValue25
 t59:=Tryz.underlying126
 a59:=Tryz.isAgg126
 z59:=Tryz.sizeOf126
 v59:=Tryz.zeroValue126
 t146:=Tryz.underlying198
 a146:=Tryz.isAgg198
 z146:=Tryz.sizeOf198
 v146:=Tryz.zeroValue198
 g1:=by kernel_rfl }
open Go.RowKit Go.Lib in
theorem Tryz.strings_Cut(s sep:ByteArray)(m:Int)(w:World)(hs:s.size<4294967281)(hm:w.cell? ⟨2,0,none⟩=some (.int .i64 m)) :
  Calls Tryz.prog 151 #[.string s,.string sep] w fun e w'=>e=.returned (.tuple #[.string ⟨(Lib.cut s.data.toList sep.data.toList).1.toArray⟩,.string ⟨(Lib.cut s.data.toList sep.data.toList).2.1.toArray⟩,.bool (Lib.cut s.data.toList sep.data.toList).2.2])∧∃ n,w'=w.drewN n:=Any.strings_Cut Tryz.lays145 s sep m w hs hm
def Tryz.laysM145_ren:Go.Shelf.Ren:=⟨fun | 145=>151 | 220=>183 | 219=>144 | 217=>170 | 225=>171 | 224=>172 | 267=>173 | 266=>191 | 314=>192 | n=>n,fun | 9=>9 | 4=>4 | 59=>126 | 3=>3 | 5=>5 | 46=>78 | 146=>198 | 51=>25 | n=>n,fun | 1=>2 | n=>n⟩
theorem Tryz.laysM145:Go.Proofs.LaysM.n145 Tryz.prog Tryz.laysM145_ren:={
 mixed:=by kernel_rfl
 f145:=Tryz.func151.trans (congrArg some (by kernel_rfl))
 f217:=Tryz.func170.trans (congrArg some (by kernel_rfl))
 f219:=Tryz.func144.trans (congrArg some (by kernel_rfl))
 f220:=Tryz.func183.trans (congrArg some (by kernel_rfl))
 f224:=Tryz.func172.trans (congrArg some (by kernel_rfl))
 f225:=Tryz.func171.trans (congrArg some (by kernel_rfl))
 f266:=Tryz.func191.trans (congrArg some (by kernel_rfl))
 f267:=Tryz.func173.trans (congrArg some (by kernel_rfl))
 f314:=Tryz.func192.trans (congrArg some (by kernel_rfl))
 t3:=Tryz.underlying3
 a3:=Tryz.isAgg3
 z3:=Tryz.sizeOf3
 v3:=Tryz.zeroValue3
 t4:=Tryz.underlying4
 a4:=Tryz.isAgg4
 z4:=Tryz.sizeOf4
 v4:=Tryz.zeroValue4
 t5:=Tryz.underlying5
 a5:=Tryz.isAgg5
 z5:=Tryz.sizeOf5
 v5:=Tryz.zeroValue5
 t9:=Tryz.underlying9
 a9:=Tryz.isAgg9
 z9:=Tryz.sizeOf9
 v9:=Tryz.zeroValue9
 t46:=Tryz.underlying78
 a46:=Tryz.isAgg78
 z46:=Tryz.sizeOf78
 v46:=Tryz.zeroValue78
 t51:=Tryz.underlying25
 a51:=Tryz.isAgg25
 z51:=Tryz.sizeOf25
 v51:=Tryz.zeroValue25
 t59:=Tryz.underlying126
 a59:=Tryz.isAgg126
 z59:=Tryz.sizeOf126
 v59:=Tryz.zeroValue126
 t146:=Tryz.underlying198
 a146:=Tryz.isAgg198
 z146:=Tryz.sizeOf198
 v146:=Tryz.zeroValue198
 g1:=by kernel_rfl
 i3:=by kernel_rfl
 i4:=by kernel_rfl
 i5:=by kernel_rfl
 i9:=by kernel_rfl
 i46:=by kernel_rfl
 i51:=by kernel_rfl
 i59:=by kernel_rfl
 i146:=by kernel_rfl
 m1:=by kernel_rfl
 s1_3:=fun w h=>Go.Proofs.cell_of_shapedOpen_int (zero:=#[.int .i64 0]) (t:=3) h (of_decide_eq_true (by kernel_rfl)) (by kernel_rfl) rfl (by kernel_rfl) (by kernel_rfl) Tryz.underlying3 }
def Tryz.lays102_ren:Go.Shelf.Ren:=⟨fun | 102=>51 | 209=>85 | 207=>119 | n=>n,fun | 9=>9 | 4=>4 | 3=>3 | n=>n,fun | n=>n⟩
theorem Tryz.lays102:Go.Proofs.Lays.n102 Tryz.prog Tryz.lays102_ren:={
 mixed:=by kernel_rfl
 f102:=Tryz.func51.trans (congrArg some (by kernel_rfl))
 f207:=Tryz.func119.trans (congrArg some (by kernel_rfl))
 f209:=Tryz.func85.trans (congrArg some (by kernel_rfl))
 t3:=Tryz.underlying3
 a3:=Tryz.isAgg3
 z3:=Tryz.sizeOf3
 v3:=Tryz.zeroValue3
 t4:=Tryz.underlying4
 a4:=Tryz.isAgg4
 z4:=Tryz.sizeOf4
 v4:=Tryz.zeroValue4
 t9:=Tryz.underlying9
 a9:=Tryz.isAgg9
 z9:=Tryz.sizeOf9
 v9:=Tryz.zeroValue9 }
open Go.RowKit Go.Lib in
theorem Tryz.strings_TrimSuffix(s p:ByteArray)(w:World)(hs:s.size≤9223372036854775807) :
  Calls Tryz.prog 51 #[.string s,.string p] w fun e w'=>e=.returned (.string ⟨(Lib.trimSuffix s.data.toList p.data.toList).toArray⟩)∧w'=w:=Any.strings_TrimSuffix Tryz.lays102 s p w hs
def Tryz.lays221_ren:Go.Shelf.Ren:=⟨fun | 221=>80 | 268=>108 | 138=>109 | 143=>110 | 195=>141 | 197=>142 | 218=>143 | 219=>144 | 260=>169 | 217=>170 | 225=>171 | 224=>172 | 267=>173 | 266=>191 | 314=>192 | n=>n,fun | 9=>9 | 3=>3 | 31=>46 | 4=>4 | 0=>0 | 105=>179 | 21=>21 | 5=>5 | 46=>78 | 119=>226 | 139=>229 | 138=>228 | 146=>198 | 51=>25 | n=>n,fun | 1=>2 | 3=>5 | 4=>6 | n=>n⟩
def Tryz.lays146_ren:Go.Shelf.Ren:=⟨fun | 146=>46 | 221=>80 | 268=>108 | 138=>109 | 143=>110 | 195=>141 | 197=>142 | 218=>143 | 219=>144 | 260=>169 | 217=>170 | 225=>171 | 224=>172 | 267=>173 | 266=>191 | 314=>192 | n=>n,fun | 9=>9 | 31=>46 | 3=>3 | 4=>4 | 0=>0 | 105=>179 | 21=>21 | 5=>5 | 46=>78 | 119=>226 | 139=>229 | 138=>228 | 146=>198 | 51=>25 | n=>n,fun | 1=>2 | 3=>5 | 4=>6 | n=>n⟩
theorem Tryz.lays146:Go.Proofs.Lays.n146 Tryz.prog Tryz.lays146_ren:={
 mixed:=by kernel_rfl
 f138:=Tryz.func109.trans (congrArg some (by kernel_rfl))
 f143:=Tryz.func110.trans (congrArg some (by kernel_rfl))
 f146:=Tryz.func46.trans (congrArg some (by kernel_rfl))
 f195:=Tryz.func141.trans (congrArg some (by kernel_rfl))
 f197:=Tryz.func142.trans (congrArg some (by kernel_rfl))
 f217:=Tryz.func170.trans (congrArg some (by kernel_rfl))
 f218:=Tryz.func143.trans (congrArg some (by kernel_rfl))
 f219:=Tryz.func144.trans (congrArg some (by kernel_rfl))
 f221:=Tryz.func80.trans (congrArg some (by kernel_rfl))
 f224:=Tryz.func172.trans (congrArg some (by kernel_rfl))
 f225:=Tryz.func171.trans (congrArg some (by kernel_rfl))
 f260:=Tryz.func169.trans (congrArg some (by kernel_rfl))
 f266:=Tryz.func191.trans (congrArg some (by kernel_rfl))
 f267:=Tryz.func173.trans (congrArg some (by kernel_rfl))
 f268:=Tryz.func108.trans (congrArg some (by kernel_rfl))
 f314:=Tryz.func192.trans (congrArg some (by kernel_rfl))
 t0:=Tryz.underlying0
 a0:=Tryz.isAgg0
 z0:=Tryz.sizeOf0
 v0:=Tryz.zeroValue0
 t3:=Tryz.underlying3
 a3:=Tryz.isAgg3
 z3:=Tryz.sizeOf3
 v3:=Tryz.zeroValue3
 t4:=Tryz.underlying4
 a4:=Tryz.isAgg4
 z4:=Tryz.sizeOf4
 v4:=Tryz.zeroValue4
 t5:=Tryz.underlying5
 a5:=Tryz.isAgg5
 z5:=Tryz.sizeOf5
 v5:=Tryz.zeroValue5
 t9:=Tryz.underlying9
 a9:=Tryz.isAgg9
 z9:=Tryz.sizeOf9
 v9:=Tryz.zeroValue9
 t21:=Tryz.underlying21
 a21:=Tryz.isAgg21
 z21:=Tryz.sizeOf21
 v21:=Tryz.zeroValue21
 t31:=Tryz.underlying46
 a31:=Tryz.isAgg46
 z31:=Tryz.sizeOf46
 v31:=Tryz.zeroValue46
 t46:=Tryz.underlying78
 a46:=Tryz.isAgg78
 z46:=Tryz.sizeOf78
 v46:=Tryz.zeroValue78
 t51:=Tryz.underlying25
 a51:=Tryz.isAgg25
 z51:=Tryz.sizeOf25
 v51:=Tryz.zeroValue25
 t105:=Tryz.underlying179
 a105:=Tryz.isAgg179
 z105:=Tryz.sizeOf179
 v105:=Tryz.zeroValue179
 t119:=Tryz.underlying226
 a119:=Tryz.isAgg226
 z119:=Tryz.sizeOf226
 t138:=Tryz.underlying228
 a138:=Tryz.isAgg228
 z138:=Tryz.sizeOf228
 v138:=Tryz.zeroValue228
 t139:=Tryz.underlying229
 a139:=Tryz.isAgg229
 z139:=Tryz.sizeOf229
 v139:=Tryz.zeroValue229
 t146:=Tryz.underlying198
 a146:=Tryz.isAgg198
 z146:=Tryz.sizeOf198
 v146:=Tryz.zeroValue198
 g1:=by kernel_rfl
 g3:=by kernel_rfl
 g4:=by kernel_rfl }
open Go.RowKit Go.Lib in
theorem Tryz.strings_Split(s sep:ByteArray)(m:Int)(w:World)(hs:s.size<4294967281)(hm:w.cell? ⟨2,0,none⟩=some (.int .i64 m))(h1:1≤sep.size) :
  Calls Tryz.prog 46 #[.string s,.string sep] w fun e w' =>
   e=.returned (.slice (some ⟨w.heap.size,0,none⟩) (Lib.countB s sep+1) (Lib.countB s sep+1))∧w'=w.alloc (.cells ((Lib.splitB sep 0 (Lib.countB s sep) s).map Value.string).toArray 9):=Any.strings_Split Tryz.lays146 (by kernel_rfl) s sep m w hs hm h1
def Tryz.lays105_ren:Go.Shelf.Ren:=⟨fun | 105=>96 | 212=>128 | 99=>129 | 165=>62 | 166=>63 | 170=>130 | 169=>64 | 263=>160 | 264=>161 | 206=>162 | 240=>93 | 241=>94 | 276=>126 | 277=>127 | n=>n,fun | 9=>9 | 3=>3 | 4=>4 | 20=>20 | 0=>0 | 46=>78 | 109=>167 | 5=>5 | 72=>100 | 76=>104 | 51=>25 | 146=>198 | 53=>41 | 148=>200 | 70=>98 | 37=>85 | 75=>103 | 127=>131 | 164=>164 | 80=>106 | n=>n,fun | n=>n⟩
theorem Tryz.lays105:Go.Proofs.Lays.n105 Tryz.prog Tryz.lays105_ren:={
 mixed:=by kernel_rfl
 f99:=Tryz.func129.trans (congrArg some (by kernel_rfl))
 f105:=Tryz.func96.trans (congrArg some (by kernel_rfl))
 f165:=Tryz.func62.trans (congrArg some (by kernel_rfl))
 f166:=Tryz.func63.trans (congrArg some (by kernel_rfl))
 f169:=Tryz.func64.trans (congrArg some (by kernel_rfl))
 f170:=Tryz.func130.trans (congrArg some (by kernel_rfl))
 f206:=Tryz.func162.trans (congrArg some (by kernel_rfl))
 f212:=Tryz.func128.trans (congrArg some (by kernel_rfl))
 f240:=Tryz.func93.trans (congrArg some (by kernel_rfl))
 f241:=Tryz.func94.trans (congrArg some (by kernel_rfl))
 f263:=Tryz.func160.trans (congrArg some (by kernel_rfl))
 f264:=Tryz.func161.trans (congrArg some (by kernel_rfl))
 f276:=Tryz.func126.trans (congrArg some (by kernel_rfl))
 f277:=Tryz.func127.trans (congrArg some (by kernel_rfl))
 t0:=Tryz.underlying0
 a0:=Tryz.isAgg0
 z0:=Tryz.sizeOf0
 v0:=Tryz.zeroValue0
 t3:=Tryz.underlying3
 a3:=Tryz.isAgg3
 z3:=Tryz.sizeOf3
 v3:=Tryz.zeroValue3
 t4:=Tryz.underlying4
 a4:=Tryz.isAgg4
 z4:=Tryz.sizeOf4
 v4:=Tryz.zeroValue4
 t5:=Tryz.underlying5
 a5:=Tryz.isAgg5
 z5:=Tryz.sizeOf5
 v5:=Tryz.zeroValue5
 t9:=Tryz.underlying9
 a9:=Tryz.isAgg9
 z9:=Tryz.sizeOf9
 v9:=Tryz.zeroValue9
 t20:=Tryz.underlying20
 a20:=Tryz.isAgg20
 z20:=Tryz.sizeOf20
 v20:=Tryz.zeroValue20
 t37:=Tryz.underlying85
 a37:=Tryz.isAgg85
 z37:=Tryz.sizeOf85
 v37:=Tryz.zeroValue85
 t46:=Tryz.underlying78
 a46:=Tryz.isAgg78
 z46:=Tryz.sizeOf78
 v46:=Tryz.zeroValue78
 t51:=Tryz.underlying25
 a51:=Tryz.isAgg25
 z51:=Tryz.sizeOf25
 v51:=Tryz.zeroValue25
 t53:=Tryz.underlying41
 a53:=Tryz.isAgg41
 z53:=Tryz.sizeOf41
 v53:=Tryz.zeroValue41
 t70:=Tryz.underlying98
 a70:=Tryz.isAgg98
 z70:=Tryz.sizeOf98
 v70:=Tryz.zeroValue98
 t72:=Tryz.underlying100
 a72:=Tryz.isAgg100
 z72:=Tryz.sizeOf100
 v72:=Tryz.zeroValue100
 t75:=Tryz.underlying103
 a75:=Tryz.isAgg103
 z75:=Tryz.sizeOf103
 v75:=Tryz.zeroValue103
 t76:=Tryz.underlying104
 a76:=Tryz.isAgg104
 z76:=Tryz.sizeOf104
 v76:=Tryz.zeroValue104
 t109:=Tryz.underlying167
 a109:=Tryz.isAgg167
 z109:=Tryz.sizeOf167
 v109:=Tryz.zeroValue167
 t127:=Tryz.underlying131
 a127:=Tryz.isAgg131
 z127:=Tryz.sizeOf131
 v127:=Tryz.zeroValue131
 t146:=Tryz.underlying198
 a146:=Tryz.isAgg198
 z146:=Tryz.sizeOf198
 v146:=Tryz.zeroValue198
 t148:=Tryz.underlying200
 a148:=Tryz.isAgg200
 z148:=Tryz.sizeOf200
 v148:=Tryz.zeroValue200
 t164:=Tryz.underlying164
 a164:=Tryz.isAgg164
 z164:=Tryz.sizeOf164
 v164:=Tryz.zeroValue164 }
theorem Tryz.Builder_Extra_105:Builder.Extra Tryz.prog Tryz.lays105_ren:={
 sizeBuilder:=by kernel_rfl
 liesBuilder:=by kernel_rfl
 t5:=Tryz.underlying5
 a5:=Tryz.isAgg5
 z5:=Tryz.sizeOf5
 v5:=Tryz.zeroValue5
 infoByte:=by kernel_rfl
 cellsByte:=by kernel_rfl
 sizeByte:=by kernel_rfl
 neB5:=by decide }
open Go.RowKit Go.Lib in
theorem Tryz.strings_Repeat(s:ByteArray)(c:Nat)(w:World)(hc:c≤9223372036854775807)(hlen:s.size*c≤140737488355328) :
  Calls Tryz.prog 96 #[.string s,.int .i64 c] w fun e w'=>e=.returned (.string ⟨(Lib.repeatL s.data.toList c).toArray⟩)∧Below w.heap.size w w':=Any.strings_Repeat Tryz.lays105 Tryz.Builder_Extra_105 s c w hc hlen
def Tryz.renAll:Go.Shelf.Ren:=⟨fun | 0=>0 | 1=>1 | 2=>2 | 99=>129 | 102=>51 | 103=>150 | 105=>96 | 129=>134 | 137=>181 | 138=>109 | 143=>110 | 144=>152 | 145=>151 | 146=>46 | 156=>25 | 165=>62 | 166=>63 | 167=>95 | 169=>64 | 170=>130 | 171=>195 | 195=>141 | 197=>142 | 205=>194 | 206=>162 | 207=>119 | 209=>85 | 210=>182 | 212=>128 | 217=>170 | 218=>143 | 219=>144 | 220=>183 | 221=>80 | 224=>172 | 225=>171 | 240=>93 | 241=>94 | 243=>201 | 245=>147 | 246=>204 | 260=>169 | 263=>160 | 264=>161 | 266=>191 | 267=>173 | 268=>108 | 276=>126 | 277=>127 | 279=>177 | 280=>178 | 281=>179 | 282=>180 | 283=>99 | 284=>100 | 285=>101 | 286=>102 | 287=>146 | 314=>192 | 316=>193 | 317=>133 | 318=>135 | 319=>136 | 320=>137 | 321=>175 | 322=>176 | 337=>166 | 338=>167 | 347=>205 | 348=>206 | 349=>207 | 350=>208 | 351=>209 | 352=>210 | 353=>211 | 354=>212 | 355=>213 | 356=>214 | 357=>215 | 358=>216 | 359=>217 | 360=>218 | 361=>219 | 362=>221 | 363=>224 | 364=>222 | 365=>223 | 366=>225 | 367=>236 | n=>n,fun | 0=>0 | 1=>1 | 2=>2 | 3=>3 | 4=>4 | 5=>5 | 6=>6 | 7=>7 | 8=>8 | 9=>9 | 10=>10 | 11=>11 | 12=>12 | 13=>13 | 14=>14 | 15=>15 | 16=>16 | 17=>17 | 18=>18 | 19=>19 | 20=>20 | 21=>21 | 22=>155 | 23=>84 | 24=>187 | 25=>188 | 26=>133 | 27=>145 | 28=>124 | 31=>46 | 37=>85 | 46=>78 | 47=>174 | 48=>125 | 49=>203 | 51=>25 | 52=>210 | 53=>41 | 54=>135 | 55=>181 | 59=>126 | 60=>189 | 61=>80 | 67=>63 | 68=>47 | 69=>231 | 70=>98 | 71=>99 | 72=>100 | 73=>101 | 74=>102 | 75=>103 | 76=>104 | 77=>105 | 78=>132 | 80=>106 | 81=>169 | 83=>65 | 84=>245 | 97=>197 | 103=>89 | 104=>37 | 105=>179 | 106=>180 | 108=>234 | 109=>167 | 110=>168 | 111=>71 | 113=>116 | 114=>170 | 119=>226 | 127=>131 | 128=>184 | 137=>227 | 138=>228 | 139=>229 | 143=>240 | 144=>241 | 145=>242 | 146=>198 | 147=>199 | 148=>200 | 149=>201 | 150=>144 | 151=>230 | 164=>164 | 165=>165 | 166=>166 | 167=>213 | 168=>215 | 169=>216 | 170=>217 | 171=>134 | 172=>136 | 173=>137 | 174=>138 | 175=>149 | 176=>150 | 209=>232 | 210=>233 | 211=>171 | 212=>172 | 213=>173 | 214=>214 | 229=>206 | 232=>23 | 233=>225 | 234=>209 | 238=>246 | 239=>247 | 240=>248 | 241=>249 | 242=>250 | 243=>251 | 244=>252 | 245=>253 | 246=>254 | 247=>255 | 248=>256 | 249=>257 | n=>n,fun | 1=>2 | 3=>5 | 4=>6 | 15=>7 | 16=>8 | 17=>1 | 18=>3 | 19=>4 | n=>n⟩
def Tryz.lays167_ren:Go.Shelf.Ren:=Tryz.renAll
theorem Tryz.lays167:Go.Proofs.Lays.n167 Tryz.prog Tryz.renAll:={
 mixed:=by kernel_rfl
 f167:=Tryz.func95.trans (congrArg some (by kernel_rfl))
 f240:=Tryz.func93.trans (congrArg some (by kernel_rfl))
 f276:=Tryz.func126.trans (congrArg some (by kernel_rfl))
 t0:=Tryz.underlying0
 a0:=Tryz.isAgg0
 z0:=Tryz.sizeOf0
 v0:=Tryz.zeroValue0
 t4:=Tryz.underlying4
 a4:=Tryz.isAgg4
 z4:=Tryz.sizeOf4
 v4:=Tryz.zeroValue4
 t5:=Tryz.underlying5
 a5:=Tryz.isAgg5
 z5:=Tryz.sizeOf5
 v5:=Tryz.zeroValue5
 t9:=Tryz.underlying9
 a9:=Tryz.isAgg9
 z9:=Tryz.sizeOf9
 v9:=Tryz.zeroValue9
 t20:=Tryz.underlying20
 a20:=Tryz.isAgg20
 z20:=Tryz.sizeOf20
 v20:=Tryz.zeroValue20
 t37:=Tryz.underlying85
 a37:=Tryz.isAgg85
 z37:=Tryz.sizeOf85
 v37:=Tryz.zeroValue85
 t70:=Tryz.underlying98
 a70:=Tryz.isAgg98
 z70:=Tryz.sizeOf98
 v70:=Tryz.zeroValue98
 t72:=Tryz.underlying100
 a72:=Tryz.isAgg100
 z72:=Tryz.sizeOf100
 v72:=Tryz.zeroValue100
 t75:=Tryz.underlying103
 a75:=Tryz.isAgg103
 z75:=Tryz.sizeOf103
 v75:=Tryz.zeroValue103
 t164:=Tryz.underlying164
 a164:=Tryz.isAgg164
 z164:=Tryz.sizeOf164
 v164:=Tryz.zeroValue164 }
theorem Tryz.Builder_Extra_167:Builder.Extra Tryz.prog Tryz.lays167_ren where
 sizeBuilder:=by kernel_rfl
 liesBuilder:=by kernel_rfl
 t5:=Tryz.underlying5
 a5:=Tryz.isAgg5
 z5:=Tryz.sizeOf5
 v5:=Tryz.zeroValue5
 infoByte:=by kernel_rfl
 cellsByte:=by kernel_rfl
 sizeByte:=by kernel_rfl
 neB5:=by decide
def Tryz.lays166_ren:Go.Shelf.Ren:=Tryz.renAll
theorem Tryz.lays166:Go.Proofs.Lays.n166 Tryz.prog Tryz.renAll:={
 mixed:=by kernel_rfl
 f166:=Tryz.func63.trans (congrArg some (by kernel_rfl))
 f240:=Tryz.func93.trans (congrArg some (by kernel_rfl))
 f276:=Tryz.func126.trans (congrArg some (by kernel_rfl))
 t0:=Tryz.underlying0
 a0:=Tryz.isAgg0
 z0:=Tryz.sizeOf0
 v0:=Tryz.zeroValue0
 t3:=Tryz.underlying3
 a3:=Tryz.isAgg3
 z3:=Tryz.sizeOf3
 v3:=Tryz.zeroValue3
 t4:=Tryz.underlying4
 a4:=Tryz.isAgg4
 z4:=Tryz.sizeOf4
 v4:=Tryz.zeroValue4
 t9:=Tryz.underlying9
 a9:=Tryz.isAgg9
 z9:=Tryz.sizeOf9
 v9:=Tryz.zeroValue9
 t20:=Tryz.underlying20
 a20:=Tryz.isAgg20
 z20:=Tryz.sizeOf20
 v20:=Tryz.zeroValue20
 t37:=Tryz.underlying85
 a37:=Tryz.isAgg85
 z37:=Tryz.sizeOf85
 v37:=Tryz.zeroValue85
 t70:=Tryz.underlying98
 a70:=Tryz.isAgg98
 z70:=Tryz.sizeOf98
 v70:=Tryz.zeroValue98
 t72:=Tryz.underlying100
 a72:=Tryz.isAgg100
 z72:=Tryz.sizeOf100
 v72:=Tryz.zeroValue100
 t75:=Tryz.underlying103
 a75:=Tryz.isAgg103
 z75:=Tryz.sizeOf103
 v75:=Tryz.zeroValue103
 t164:=Tryz.underlying164
 a164:=Tryz.isAgg164
 z164:=Tryz.sizeOf164
 v164:=Tryz.zeroValue164 }
theorem Tryz.Builder_Extra_166:Builder.Extra Tryz.prog Tryz.lays166_ren where
 sizeBuilder:=by kernel_rfl
 liesBuilder:=by kernel_rfl
 t5:=Tryz.underlying5
 a5:=Tryz.isAgg5
 z5:=Tryz.sizeOf5
 v5:=Tryz.zeroValue5
 infoByte:=by kernel_rfl
 cellsByte:=by kernel_rfl
 sizeByte:=by kernel_rfl
 neB5:=by decide
open Go.RowKit in
theorem Tryz.Builder_WriteByte_k(B b:Nat)(bs:List Value)(c:Int)(w:World)(h:Lib.IsBuilderF 100 5 B b bs w)(hlen:bs.length+1≤140737488355328)(hBw:B≤w.heap.size) :
  Calls Tryz.prog 95 #[.pointer (some ⟨b,0,none⟩),.int .u8 c] w fun e w'=>e=.returned .nilIface∧(Lib.BuilderAtF 100 5 B b (.pointer (some ⟨b,0,none⟩)) (bs++[.int .u8 c]) w'∧Below B w w'∧Lib.OthersKept 5 (some b) w w'):=Any.Builder_WriteByte_k Tryz.lays167 Tryz.Builder_Extra_167 B b bs c w h hlen hBw
open Go.RowKit in
theorem Tryz.Builder_WriteString_k(B b:Nat)(bs:List Value)(s:ByteArray)(w:World)(h:Lib.IsBuilderF 100 5 B b bs w)(hlen:bs.length+s.size≤140737488355328)(hBw:B≤w.heap.size) :
  Calls Tryz.prog 63 #[.pointer (some ⟨b,0,none⟩),.string s] w fun e w'=>e=.returned (.tuple #[.int .i64 s.size,.nilIface])∧(Lib.BuilderAtF 100 5 B b (.pointer (some ⟨b,0,none⟩)) (bs++Lib.strCells s) w'∧Below B w w'∧Lib.OthersKept 5 (some b) w w'):=Any.Builder_WriteString_k Tryz.lays166 Tryz.Builder_Extra_166 B b bs s w h hlen hBw
end Go.Proofs
namespace Go.Proofs.YtnekckhjmnhinaaGreatDoor
open E Go.RowKit
theorem Qhp: Tryz.prog.globalNamed "math/bits.deBruijn32tab" = some 3 := by kernel_rfl
theorem QgN:(Tryz.prog.globals[3]?).map (·.type)=some 23:=by kernel_rfl
def QeV(w : World) : Prop := Lib.TabIs Tryz.prog w "math/bits.deBruijn32tab" .u8 [0, 1, 28, 2, 29, 14, 24, 3, 30, 22, 20, 15, 25, 17, 4, 8, 31, 27, 13, 23, 21, 19, 16, 7, 26, 12, 18, 6, 11, 5, 10, 9]
theorem QeV.of_laid{l : List (String × DataW Unit)}{w : World}(h : laidMet Tryz.prog l w)(hm : ("math/bits.deBruijn32tab", Rows.laid_math_bits_deBruijn32tab) ∈ l) : QeV w := QgF Qhp QgN Tryz.underlying23 Tryz.underlying5 (by kernel_rfl) (by kernel_rfl) (Qg9 h hm)
theorem Qho: Tryz.prog.globalNamed "math/bits.deBruijn64tab" = some 4 := by kernel_rfl
theorem QgM:(Tryz.prog.globals[4]?).map (·.type)=some 225:=by kernel_rfl
def QeU(w : World) : Prop := Lib.TabIs Tryz.prog w "math/bits.deBruijn64tab" .u8 [0, 1, 56, 2, 57, 49, 28, 3, 61, 58, 42, 50, 38, 29, 17, 4, 62, 47, 59, 36, 45, 43, 51, 22, 53, 39, 33, 30, 24, 18, 12, 5, 63, 55, 48, 27, 60, 41, 37, 16, 46, 35, 44, 21, 52, 32, 23, 11, 54, 26, 40, 15, 34, 20, 31, 10, 25, 14, 19, 9, 13, 8, 7, 6]
theorem QeU.of_laid{l : List (String × DataW Unit)}{w : World}(h : laidMet Tryz.prog l w)(hm : ("math/bits.deBruijn64tab", Rows.laid_math_bits_deBruijn64tab) ∈ l) : QeU w := QgF Qho QgM Tryz.underlying225 Tryz.underlying5 (by kernel_rfl) (by kernel_rfl) (Qg9 h hm)
theorem QgO: Tryz.prog.globalNamed "internal/strconv.uint64pow10" = some 1 := by kernel_rfl
theorem Qgq:(Tryz.prog.globals[1]?).map (·.type)=some 172:=by kernel_rfl
def GV_strconv_uint64pow10(w : World) : Prop := Lib.TabIs Tryz.prog w "internal/strconv.uint64pow10" .u64 Lib.pow10Tab
theorem GV_strconv_uint64pow10.on{w w':World}(h:GV_strconv_uint64pow10 w)(hb:Below w.heap.size w w'):GV_strconv_uint64pow10 w':=Qp3 h hb
theorem GV_strconv_uint64pow10.of_laid{l : List (String × DataW Unit)}{w : World}(h : laidMet Tryz.prog l w)(hm : ("internal/strconv.uint64pow10", Rows.laid_internal_strconv_uint64pow10) ∈ l) : GV_strconv_uint64pow10 w := QgF QgO Qgq Tryz.underlying172 Tryz.underlying41 (by kernel_rfl) (by kernel_rfl) (Qg9 h hm)
theorem Qif: Tryz.prog.globalNamed "strconv.ErrRange" = some 8 := by kernel_rfl
theorem QhJ:(Tryz.prog.globals[8]?).map (·.type)=some 103:=by kernel_rfl
def GV_strconv_ErrRange(w : World) : Prop := QtF Tryz.prog w "strconv.ErrRange"
theorem GV_strconv_ErrRange.on{w w':World}(h:GV_strconv_ErrRange w)(hb:Below w.heap.size w w'):GV_strconv_ErrRange w':=QtF.on h hb
theorem GV_strconv_ErrRange.of_laid{l : List (String × DataW Unit)}{w : World}(h : laidMet Tryz.prog l w)(hm : ("strconv.ErrRange", Rows.laid_strconv_ErrRange) ∈ l) : GV_strconv_ErrRange w := Qie Qif QhJ Tryz.underlying103 (Qg9 h hm)
theorem QhK: Tryz.prog.globalNamed "strconv.ErrSyntax" = some 7 := by kernel_rfl
theorem Qhn:(Tryz.prog.globals[7]?).map (·.type)=some 103:=by kernel_rfl
def GV_strconv_ErrSyntax(w : World) : Prop := QtF Tryz.prog w "strconv.ErrSyntax"
theorem GV_strconv_ErrSyntax.on{w w':World}(h:GV_strconv_ErrSyntax w)(hb:Below w.heap.size w w'):GV_strconv_ErrSyntax w':=QtF.on h hb
theorem GV_strconv_ErrSyntax.of_laid{l : List (String × DataW Unit)}{w : World}(h : laidMet Tryz.prog l w)(hm : ("strconv.ErrSyntax", Rows.laid_strconv_ErrSyntax) ∈ l) : GV_strconv_ErrSyntax w := Qie QhK Qhn Tryz.underlying103 (Qg9 h hm)
theorem Qi0: Tryz.prog.globalNamed "crawlway/show.units" = some 0 := by kernel_rfl
theorem QlJ:(Tryz.prog.globals[0]?).map (·.type)=some 79:=by kernel_rfl
def QcB:Vector ByteArray 6:=#v[⟨#[75,105,66]⟩,⟨#[77,105,66]⟩,⟨#[71,105,66]⟩,⟨#[84,105,66]⟩,⟨#[80,105,66]⟩,⟨#[69,105,66]⟩]
def GV_show_units(w : World) : Prop := Gv Tryz.prog w "crawlway/show.units" (QQ QbA 6 (by decide)) QcB
theorem GV_show_units.on{w w':World}(h:GV_show_units w)(hb:Below w.heap.size w w'):GV_show_units w':=Gv.on h hb
theorem GV_show_units.of_laid{l : List (String × DataW Unit)}{w : World}(h : laidMet Tryz.prog l w)(hm : ("crawlway/show.units", Rows.laid_crawlway_show_units) ∈ l) : GV_show_units w := QpD Qi0 QlJ Tryz.underlying79 Tryz.underlying9 (by kernel_rfl) (by kernel_rfl) (Qg9 h hm)
end Go.Proofs.YtnekckhjmnhinaaGreatDoor
