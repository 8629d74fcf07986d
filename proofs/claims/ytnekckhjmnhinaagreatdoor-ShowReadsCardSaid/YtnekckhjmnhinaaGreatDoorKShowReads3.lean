/- Texts of this claim, those in one that belong together; printed by a program of this project. -/
import Derived.Lib.IndexLaws
import Derived.Test.YtnekckhjmnhinaaGreatDoorProg
import Derived.Lib.IndexMore
import Derived.Test.YtnekckhjmnhinaaGreatDoorKShowReads2
set_option linter.unusedVariables false
set_option linter.unusedSimpArgs false
set_option maxRecDepth 20000
namespace Go.Proofs.YtnekckhjmnhinaaGreatDoor
open E Go.RowKit
def bs(l:List UInt8):ByteArray:=⟨l.toArray⟩
theorem QaJ(l:List UInt8):(bs l).data.toList=l:=by simp [bs]
theorem QT(l:List UInt8):(bs l).size=l.length:=by
 show (bs l).data.size=_
 simp [bs]
theorem QsX(s:ByteArray):s=bs s.data.toList:=by apply Qde;rw [QaJ]
theorem Qk1{l k:List UInt8}(h:bs l=bs k):l=k:=by rw [←QaJ l,h,QaJ]
theorem Qcn(l:List UInt8)(i j:Nat):(bs l).extract i j=bs ((l.take j).drop i):=by
 apply Qde
 rw [QaJ]
 simp [bs,ByteArray.data_extract,List.drop_take]
def QM(c:UInt8):List UInt8→List (List UInt8)
 | []=>[[]]
 | x::r=>if x=c then []::QM c r else (x::(QM c r).headD [])::(QM c r).tail
theorem Qdn(c:UInt8):∀ (l:List UInt8),QM c l≠[]
 | []=>by simp [QM]
 | x::r=>by unfold QM;split<;>simp
theorem Qcc(c:UInt8):∀ (l:List UInt8),(∀ x∈l,x≠c)→QM c l=[l]
 | [],_=>rfl
 | x::r,h=>by
  unfold QM
  rw [if_neg (h x (List.mem_cons_self ..)),Qcc c r fun y hy=>h y (List.mem_cons_of_mem _ hy)];rfl
theorem Qbp(c:UInt8)(r:List UInt8):∀ (p:List UInt8),(∀ x∈p,x≠c)→QM c (p++c::r)=p::QM c r
 | [],_=>by
  show (if c=c then []::QM c r else (c::(QM c r).headD [])::(QM c r).tail)=_
  rw [if_pos rfl]
 | x::p,h=>by
  show QM c (x::(p++c::r))=_
  rw [QM,if_neg (h x (List.mem_cons_self ..)),Qbp c r p fun y hy=>h y (List.mem_cons_of_mem _ hy)];rfl
theorem Qej(c:UInt8):∀ (l:List UInt8),(QM c l).length≤l.length+1
 | []=>by simp [QM]
 | x::r=>by
  have h:=Qej c r
  have hne:=Qdn c r
  unfold QM
  split
  ·simp;omega
  ·cases hp:QM c r with
   | nil=>exact absurd hp hne
   | cons a b=>rw [hp] at h;simp at h ⊢;omega
theorem Qp9(c:UInt8):Nat.toUInt8 (Int.toNat (c.toNat:Int))=c:=by
 rw [Int.toNat_natCast];exact UInt8.ofNat_toNat
theorem QeH(l:List UInt8)(c:UInt8)(h:∀ x∈l,x≠c):QcV (bs l) (c.toNat:Int)=some (bs l,⟨#[]⟩,false):=by
 unfold QcV
 rw [Qp9,QaJ]
 have hi:Lib.indexByte l c = -1:=by
  have h1:=Lib.indexByte_ge l c
  by_cases h2:Lib.indexByte l c = -1
  ·exact h2
  ·obtain ⟨o,ho⟩:=Int.eq_ofNat_of_zero_le (show 0≤Lib.indexByte l c by omega)
   have:=(Lib.indexByte_some ho).1
   exact absurd rfl (h c (List.mem_of_getElem? this))
 rw [hi,if_pos (by decide)]
theorem QlG(p r:List UInt8)(c:UInt8)(h:∀ x∈p,x≠c):Lib.indexByte (p++c::r) c=(p.length:Int):=by
 have h1:=Lib.indexByte_ge (p++c::r) c
 have hc:(p++c::r)[p.length]? = some c:=by rw [List.getElem?_append_right (Nat.le_refl _),Nat.sub_self];rfl
 by_cases h2:Lib.indexByte (p++c::r) c = -1
 ·exact absurd hc (Lib.indexByte_none h2 p.length)
 ·obtain ⟨o,ho⟩:=Int.eq_ofNat_of_zero_le (show 0≤Lib.indexByte (p++c::r) c by omega)
  obtain ⟨ha,hb⟩:=Lib.indexByte_some ho
  have h3:¬ p.length<o:=fun hlt=>hb p.length hlt hc
  have h4:¬ o<p.length:=fun hlt=>by
   rw [List.getElem?_append_left hlt] at ha
   exact h c (List.mem_of_getElem? ha) rfl
  rw [ho];omega
theorem Qii(p r:List UInt8)(c:UInt8)(h:∀ x∈p,x≠c)(hl:p.length+r.length<1000000):QcV (bs (p++c::r)) (c.toNat:Int)=some (bs p,bs r,true):=by
 unfold QcV
 rw [Qp9,QaJ,QlG p r c h,QT]
 have hlen:(p++c::r).length=p.length+(r.length+1):=by simp
 have e1:wr .i64 ((p.length:Int)+1)=((p.length+1:Nat):Int):=by rw [QX (by omega) (by omega)];omega
 have g1:(0:Int)≤0∧(0:Int)≤(p.length:Int)∧(p.length:Int)≤((p++c::r).length:Int):=by omega
 have g2:(0:Int)≤((p.length+1:Nat):Int)∧((p.length+1:Nat):Int)≤((p++c::r).length:Int)∧((p++c::r).length:Int)≤((p++c::r).length:Int):=by omega
 rw [if_neg (by rw [decide_eq_true_eq];omega),e1,if_pos g1,if_pos g2]
 refine congrArg some ?_
 simp only [Int.toNat_natCast,Qcn,show (0:Int).toNat=0 from rfl,List.drop_zero]
 have t1:(p++c::r).take p.length=p:=List.take_left' rfl
 have t2:((p++c::r).take (p++c::r).length).drop (p.length+1)=r:=by
  rw [List.take_of_length_le (Nat.le_refl _),List.drop_append,List.drop_eq_nil_of_le (by omega),show p.length+1-p.length=1 by omega];rfl
 rw [t1,t2]
theorem QdA(c:UInt8):∀ (l:List UInt8),(∀ x∈l,x≠c)∨∃ p r,l=p++c::r∧∀ x∈p,x≠c
 | []=>.inl fun x h=>by cases h
 | x::l=>by
  by_cases hx:x=c
  ·exact .inr ⟨[],l,by rw [hx];rfl,fun y h=>by cases h⟩
  ·rcases QdA c l with h | ⟨p,r,rfl,h⟩
   ·refine .inl fun y hy=>?_
    rcases List.mem_cons.1 hy with rfl | hy
    ·exact hx
    ·exact h y hy
   ·refine .inr ⟨x::p,r,rfl,fun y hy=>?_⟩
    rcases List.mem_cons.1 hy with rfl | hy
    ·exact hx
    ·exact h y hy
theorem Qpg(c:UInt8):∀ (k:Nat) (l:List UInt8) (acc:List ByteArray),l.length≤k→acc.length+l.length<1000000 →
  Qb5.l0 (c.toNat:Int) (bs l) acc=some (acc++(QM c l).map bs):=by
 intro k
 induction k with
 | zero =>
  intro l acc hk hb
  obtain rfl:l=[]:=List.eq_nil_of_length_eq_zero (by omega)
  rw [Qb5.l0.eq_def,QeH [] c (fun x h=>by cases h),Qa,if_pos (by simp at hb;omega)];rfl
 | succ k ih =>
  intro l acc hk hb
  rcases QdA c l with h | ⟨p,r,rfl,h⟩
  ·rw [Qb5.l0.eq_def,QeH l c h,Qa,if_pos (by omega),Qcc c l h];rfl
  ·have hlen:(p++c::r).length=p.length+(r.length+1):=by simp
   rw [Qb5.l0.eq_def,Qii p r c h (by omega),Qa,if_pos (by omega),Qbp c r p h]
   show Qb5.l0 (c.toNat:Int) (bs r) (acc++[bs p])=_
   rw [ih r (acc++[bs p]) (by omega) (by simp;omega)]
   simp
theorem QkR(c:UInt8)(l:List UInt8)(h:l.length<1000000):Qb5 (bs l) (c.toNat:Int)=some ((QM c l).map bs):=by
 unfold Qb5
 rw [Qpg c l.length l [] (Nat.le_refl _) (by simp;omega)];rfl
theorem Qll(c:UInt8)(l:List UInt8)(hl:l.length<1000000):∀ (k fr i:Nat) (out:List ByteArray),l.length-i=k→fr≤i→i≤l.length→out.length≤i→(∀ x∈(l.take i).drop fr,x≠c) →
  ∃ (fr':Nat) (out':List ByteArray),QG.l0 (bs l) (c.toNat:Int) (fr:Int) out (i:Int)=some (((fr':Nat):Int),out')∧fr'≤l.length∧out'.length≤l.length∧out'++[bs (l.drop fr')]=out++(QM c (l.drop fr)).map bs:=by
 intro k
 induction k with
 | zero =>
  intro fr i out hk hfi hi ho hx
  have hil:i=l.length:=by omega
  subst hil
  rw [List.take_of_length_le (Nat.le_refl _)] at hx
  refine ⟨fr,out,?_,by omega,by omega,by rw [Qcc c _ hx];rfl⟩
  rw [QG.l0.eq_def,QT,if_neg (by rw [decide_eq_true_eq];omega)]
 | succ k ih =>
  intro fr i out hk hfi hi ho hx
  obtain ⟨b,hb,hd⟩:=QcC l i (by omega)
  have hbt:bt (bs l) (i:Int)=(b.toNat:Int):=QkE (by rw [QaJ];exact hb)
  have hi1:wr .i64 ((i:Int)+1)=((i+1:Nat):Int):=by rw [QX (by omega) (by omega)];omega
  have g0:(0:Int)≤(i:Int)∧(i:Int)<((l.length:Nat):Int):=by omega
  rw [QG.l0.eq_def,QT,if_pos (decide_eq_true (by omega)),if_pos g0,hbt,hi1]
  by_cases hbc:b=c
  ·subst hbc
   have g1:(0:Int)≤(fr:Int)∧(fr:Int)≤(i:Int)∧(i:Int)≤((l.length:Nat):Int):=by omega
   rw [if_pos (beq_self_eq_true _),if_pos g1,if_pos (by omega)]
   simp only [Int.toNat_natCast,Qcn]
   obtain ⟨fr',out',h1,h2,h3,h4⟩:=ih (i+1) (i+1) (out++[bs ((l.take i).drop fr)]) (by omega) (Nat.le_refl _) (by omega) (by simp;omega) (by
    intro x hx2
    rw [List.drop_eq_nil_of_le (by simp;omega)] at hx2
    cases hx2)
   refine ⟨fr',out',h1,h2,h3,?_⟩
   rw [h4]
   have hsplit:l.drop fr=(l.take i).drop fr++b::l.drop (i+1):=by
    rw [←hd]
    have:=List.take_append_drop (i-fr) (l.drop fr)
    rw [List.drop_drop,show fr+(i-fr)=i by omega] at this
    rw [List.drop_take]
    exact this.symm
   rw [hsplit,Qbp b _ _ hx]
   simp
  ·have hne:((b.toNat:Int)==(c.toNat:Int))=false:=by
    rw [beq_eq_false_iff_ne]
    intro e
    exact hbc (UInt8.toNat.inj (by omega))
   rw [hne,if_neg Bool.false_ne_true]
   refine ih fr (i+1) out (by omega) (by omega) (by omega) (by omega) ?_
   intro x hx2
   have:(l.take (i+1)).drop fr=(l.take i).drop fr++[b]:=by
    rw [List.take_add_one,hb]
    rw [List.drop_append_of_le_length (by simp;omega)];rfl
   rw [this] at hx2
   rcases List.mem_append.1 hx2 with h | h
   ·exact hx x h
   ·have:x=b:=by simpa using h
    rw [this];exact hbc
theorem Qei(c:UInt8)(l:List UInt8)(h:l.length<1000000):QG (bs l) (c.toNat:Int)=some ((QM c l).map bs):=by
 obtain ⟨fr',out',h1,h2,h3,h4⟩:=Qll c l h l.length 0 0 [] rfl (Nat.le_refl _) (Nat.zero_le _) (Nat.zero_le _) (by
  intro x hx;rw [List.take_zero] at hx;cases hx)
 rw [show ((0:Nat):Int)=0 from rfl] at h1
 unfold QG
 have g:(0:Int)≤(fr':Int)∧(fr':Int)≤((l.length:Nat):Int)∧((l.length:Nat):Int)≤((l.length:Nat):Int):=by omega
 rw [h1,Qa,QT,if_pos g,if_pos (by show (out'.length+1)*16≤_;omega)]
 simp only [Int.toNat_natCast,Qcn]
 rw [List.take_of_length_le (Nat.le_refl _),h4,List.drop_zero];rfl
end Go.Proofs.YtnekckhjmnhinaaGreatDoor
namespace Go.Proofs.YtnekckhjmnhinaaGreatDoor
open E Go.RowKit
theorem set_step{α:Type}(A l:List α)(i:Nat)(x:α)(hA:A.length=l.length)(hx:A[i]? = some x):(A.take i++l.drop i).set i x=A.take (i+1)++l.drop (i+1):=by
 have hi:i<A.length:=(List.getElem?_eq_some_iff.1 hx).1
 apply List.ext_getElem?
 intro j
 have h1:(A.take i).length=i:=by simp;omega
 have h2:(A.take (i+1)).length=i+1:=by simp;omega
 rw [List.getElem?_set]
 by_cases hj:i=j
 ·subst hj
  have hl:i<(A.take i++l.drop i).length:=by simp;omega
  rw [if_pos rfl,if_pos hl,List.getElem?_append_left (by omega),List.getElem?_take,if_pos (by omega),hx]
 ·rw [if_neg hj]
  by_cases hlt:j<i
  ·rw [List.getElem?_append_left (by omega),List.getElem?_append_left (by omega),List.getElem?_take,List.getElem?_take,if_pos hlt,if_pos (by omega)]
  ·rw [List.getElem?_append_right (by omega),List.getElem?_append_right (by omega),List.getElem?_drop,List.getElem?_drop,h1,h2]
   congr 1;omega
theorem Qmy(n:Nat)(h:n<256):(Qga (n:Int)).size≤3:=by
 have key:∀ n:Nat,n<256→(Lib.decDigits n).length≤3:=by
  intro n hn
  by_cases h1:n<10
  ·rw [Qbj h1];simp
  ·rw [QcA h1,List.length_append]
   by_cases h2:n/10<10
   ·rw [Qbj h2];simp
   ·rw [QcA h2,Qbj (by omega),List.length_append];simp
 have:=key n h
 rw [←QaY,Qdr]
 omega
def qT(m:List UInt8):List ByteArray:=m.map fun b=>Qga (b.toNat:Int)
def v4(m:List UInt8):Vector Int 4:=Qjc 4 (ob m)
theorem Qfg{m:List UInt8}(hm:m.length=4):(v4 m).toList=ob m:=by
 unfold v4
 rw [Qda 4 _ (by rw [Qa1];omega),List.take_of_length_le (by rw [Qa1];omega)]
theorem QtK{v:Vector Int 4}{m:List UInt8}(h:v.toList=ob m):v=v4 m:=by
 have hl:m.length=4:=by have:=congrArg List.length h;rw [Qa1] at this;simpa using this.symm
 apply Vector.toList_inj.1
 rw [Qfg hl,h]
theorem Qc8{m:List UInt8}(hm:m.length=4)(i:Nat)(c:UInt8)(hc:m[i]? = some c):Qbb (v4 m) (i:Int)=(c.toNat:Int):=by
 unfold Qbb
 rw [Qfg hm,Int.toNat_natCast,List.getD_eq_getElem?_getD]
 unfold ob
 rw [List.getElem?_map,hc];rfl
theorem Qp2{m:List UInt8}(hm:m.length=4)(i:Nat)(c:UInt8):Qb2 (v4 m) (i:Int) (c.toNat:Int)=v4 (m.set i c):=by
 apply Vector.toList_inj.1
 rw [Qd4,Qfg hm,Qfg (by simpa using hm),Int.toNat_natCast]
 unfold ob
 rw [List.map_set]
def vs4(xs:List ByteArray):Vector ByteArray 4:=Qjc 4 xs
theorem Qg4{xs:List ByteArray}(h:xs.length=4):(vs4 xs).toList=xs:=by
 unfold vs4
 rw [Qda 4 _ (by omega),List.take_of_length_le (by omega)]
theorem Qr6{xs:List ByteArray}(h:xs.length=4)(i:Nat)(t:ByteArray):Qb2 (vs4 xs) (i:Int) t=vs4 (xs.set i t):=by
 apply Vector.toList_inj.1
 rw [Qd4,Qg4 h,Qg4 (by simpa using h),Int.toNat_natCast]
theorem QqE{m:List UInt8}(hm:m.length=4):∀ (k i:Nat),i+k=4 →
  Qdi.l0 (v4 m) (i:Int) (vs4 ((qT m).take i++(List.replicate 4 (⟨#[]⟩:ByteArray)).drop i))=some (vs4 (qT m)):=by
 have hql:(qT m).length=4:=by simp [qT,hm]
 intro k
 induction k with
 | zero =>
  intro i hi
  have hz:decide ((i:Int)<4)=false:=decide_eq_false (by omega)
  rw [Qdi.l0.eq_def,hz,if_neg Bool.false_ne_true,List.drop_eq_nil_of_le (by simp;omega),List.append_nil,List.take_of_length_le (by omega)]
 | succ k ih =>
  intro i hi
  have hz:decide ((i:Int)<4)=true:=decide_eq_true (by omega)
  have hc:m[i]? = some m[i]:=List.getElem?_eq_getElem (by omega)
  generalize m[i]=c at hc
  have hcl:=c.toNat_lt
  have hg:(0:Int)≤(i:Int)∧(i:Int)<4:=by omega
  have hA:((qT m).take i++(List.replicate 4 (⟨#[]⟩:ByteArray)).drop i).length=4:=by simp;omega
  have hstep:=set_step (qT m) (List.replicate 4 (⟨#[]⟩:ByteArray)) i (Qga (c.toNat:Int)) (by simp;omega) (by unfold qT;rw [List.getElem?_map,hc];rfl)
  rw [Qdi.l0.eq_def,hz,if_pos rfl,if_pos hg,Qc8 hm i c hc,QcI (by omega) (by omega),QeK _ (by omega),Qa,if_pos hg,Qr6 hA,hstep,QX (by omega) (by omega),show ((i:Int)+1)=((i+1:Nat):Int) by omega]
  exact ih (i+1) (by omega)
def Qf4(m:List UInt8):List UInt8:=match m with
 | [a,b,c,d]=>Lib.decDigits a.toNat++46::(Lib.decDigits b.toNat++46::(Lib.decDigits c.toNat++46::Lib.decDigits d.toNat))
 | _=>[]
theorem QlP(n:Nat)(h:n<256):(Lib.decDigits n).length≤3:=by
 have:=Qmy n h
 rw [←QaY,Qdr] at this
 exact this
theorem Qmz{m:List UInt8}(hm:m.length=4):(Qf4 m).length≤15:=by
 match m,hm with
 | [a,b,c,d],_ =>
  have h1:=QlP a.toNat a.toNat_lt
  have h2:=QlP b.toNat b.toNat_lt
  have h3:=QlP c.toNat c.toNat_lt
  have h4:=QlP d.toNat d.toNat_lt
  simp only [Qf4,List.length_append,List.length_cons]
  omega
theorem Qs3{m:List UInt8}(hm:m.length=4):Qdp (qT m) ⟨#[46]⟩=bs (Qf4 m):=by
 match m,hm with
 | [a,b,c,d],_ =>
  apply Qde
  rw [QaJ]
  show (Qdp [Qga (a.toNat:Int),Qga (b.toNat:Int),Qga (c.toNat:Int),Qga (d.toNat:Int)] ⟨#[46]⟩).data.toList=_
  unfold Qdp Lib.join
  simp only [List.map_cons,List.map_nil,Qdr]
  simp [List.intercalate,List.intersperse,Qf4]
theorem QqD{m:List UInt8}(hm:m.length=4):Qdi (v4 m)=some (bs (Qf4 m)):=by
 have hql:(qT m).length=4:=by simp [qT,hm]
 unfold Qdi
 have h:=QqE hm 4 0 rfl
 rw [List.take_zero,List.nil_append,List.drop_zero,show ((0:Nat):Int)=0 from rfl] at h
 have hz:(Vector.replicate 4 (⟨#[]⟩:ByteArray):Vector ByteArray 4)=vs4 (List.replicate 4 (⟨#[]⟩:ByteArray)):=by
  apply Vector.toList_inj.1;rw [Qg4 (by simp)];rfl
 have hsz:=Qmz hm
 rw [hz,h,Qa,Qg4 hql,if_pos (by omega),Qs3 hm,if_pos (by rw [QT];omega)]
theorem Qmm{m:List UInt8}(hm:m.length=4):QaF (v4 m)=some (bs (Qf4 m)):=by
 match m,hm with
 | [a,b,c,d],hm =>
  have ha:=a.toNat_lt
  have hb:=b.toNat_lt
  have hc:=c.toNat_lt
  have hd:=d.toNat_lt
  have g0:Qbb (v4 [a,b,c,d]) 0=(a.toNat:Int):=Qc8 hm 0 a rfl
  have g1:Qbb (v4 [a,b,c,d]) 1=(b.toNat:Int):=Qc8 hm 1 b rfl
  have g2:Qbb (v4 [a,b,c,d]) 2=(c.toNat:Int):=Qc8 hm 2 c rfl
  have g3:Qbb (v4 [a,b,c,d]) 3=(d.toNat:Int):=Qc8 hm 3 d rfl
  have s0:=Qmy a.toNat ha
  have s1:=Qmy b.toNat hb
  have s2:=Qmy c.toNat hc
  have s3:=Qmy d.toNat hd
  have hdot:(⟨#[46]⟩:ByteArray).size=1:=rfl
  have w1:wr .i64 ((1:Int)+1)=2:=by rw [QX (by omega) (by omega)];rfl
  have w2:wr .i64 ((2:Int)+1)=3:=by rw [QX (by omega) (by omega)];rfl
  have w3:wr .i64 ((3:Int)+1)=4:=by rw [QX (by omega) (by omega)];rfl
  have d1:decide ((1:Int)<4)=true:=rfl
  have d2:decide ((2:Int)<4)=true:=rfl
  have d3:decide ((3:Int)<4)=true:=rfl
  have d4:decide ((4:Int)<4)=false:=rfl
  have i1:(0:Int)≤1∧(1:Int)<4:=by omega
  have i2:(0:Int)≤2∧(2:Int)<4:=by omega
  have i3:(0:Int)≤3∧(3:Int)<4:=by omega
  unfold QaF
  rw [g0,QcI (by omega) (by omega),Qf0 _ (by omega),Qa]
  rw [QaF.l0.eq_def,d1,if_pos rfl,if_pos (by omega),if_pos i1,g1,QcI (by omega) (by omega),Qf0 _ (by omega),Qa,if_pos (by rw [ByteArray.size_append];omega),w1]
  rw [QaF.l0.eq_def,d2,if_pos rfl,if_pos (by simp only [ByteArray.size_append];omega),if_pos i2,g2,QcI (by omega) (by omega),Qf0 _ (by omega),Qa,if_pos (by simp only [ByteArray.size_append];omega),w2]
  rw [QaF.l0.eq_def,d3,if_pos rfl,if_pos (by simp only [ByteArray.size_append];omega),if_pos i3,g3,QcI (by omega) (by omega),Qf0 _ (by omega),Qa,if_pos (by simp only [ByteArray.size_append];omega),w3]
  rw [QaF.l0.eq_def,d4,if_neg Bool.false_ne_true,Qa]
  refine congrArg some ?_
  apply Qde
  rw [QaJ]
  simp only [Qa0,Qdr,Qf4]
  simp
def pqs:List (List UInt8)→List UInt8→Nat×List UInt8
 | [],acc=>(0,acc)
 | p::r,acc=>if (rdU p 255).2=0 then pqs r (acc++[UInt8.ofNat (rdU p 255).1]) else ((rdU p 255).2,acc)
theorem Qgl(l:List UInt8)(most:Nat):(rdU l most).1≤most:=by
 unfold rdU;split
 ·exact Nat.zero_le _
 ·split
  ·assumption
  ·exact Nat.zero_le _
def Qdj(l:List UInt8):Vector Int 4×Nat :=
 if (QM 46 l).length=4 then (if (pqs (QM 46 l) []).1=0 then (v4 (pqs (QM 46 l) []).2,0) else (Vector.replicate 4 0,(pqs (QM 46 l) []).1)) else (Vector.replicate 4 0,5)
def Qr7(p:Vector Int 4×Nat):Vector Int 4×Int:=(p.1,(p.2:Int))
theorem QqN(acc:List UInt8)(i:Nat)(c:UInt8)(hi:acc.length=i)(h4:i<4):(acc++List.replicate (4-i) 0).set i c=(acc++[c])++List.replicate (4-(i+1)) 0:=by
 subst hi
 rw [List.set_append_right _ _ (Nat.le_refl _),Nat.sub_self,show 4-acc.length=(4-(acc.length+1))+1 by omega,List.replicate_succ]
 simp
theorem Qku(ps:List (List UInt8))(hps:ps.length=4)(hsz:∀ p∈ps,p.length<1000000):∀ (k i:Nat) (acc:List UInt8),i+k=4→acc.length=i →
  QcQ.l0 (ps.map bs) (i:Int) (v4 (acc++List.replicate (4-i) 0)) =
   some (if (pqs (ps.drop i) acc).1=0 then .nx (v4 (pqs (ps.drop i) acc).2) else .ret (Vector.replicate 4 0,((pqs (ps.drop i) acc).1:Int))):=by
 intro k
 induction k with
 | zero =>
  intro i acc hi ha
  have:i=4:=by omega
  subst this
  rw [QcQ.l0.eq_def,if_neg (by rw [decide_eq_true_eq,List.length_map];omega),List.drop_eq_nil_of_le (by omega)]
  show _=some (if (0:Nat)=0 then _ else _)
  rw [if_pos rfl]
  show some (Ctl.nx (v4 (acc++[])))=_
  rw [List.append_nil];rfl
 | succ k ih =>
  intro i acc hi ha
  have hp:ps[i]? = some ps[i]:=List.getElem?_eq_getElem (by omega)
  have hdrop:ps.drop i=ps[i]::ps.drop (i+1):=List.drop_eq_getElem_cons (by omega)
  generalize ps[i]=p at hp hdrop
  have hmem:=List.mem_of_getElem? hp
  have hpl:=hsz p hmem
  have hl:QO (ps.map bs) (i:Int)=bs p:=by
   unfold QO
   rw [Int.toNat_natCast,List.getD_eq_getElem?_getD,List.getElem?_map,hp];rfl
  have g:(0:Int)≤(i:Int)∧(i:Int)<((ps.map bs).length:Int):=by rw [List.length_map];omega
  have hr:=QhY (bs p) 255 (by rw [QT];omega) (by omega)
  rw [QaJ,show ((255:Nat):Int)=255 from rfl] at hr
  rw [QcQ.l0.eq_def,if_pos (decide_eq_true g.2),if_pos g,hl,hr,Qa,hdrop]
  unfold pqs
  have hle:=Qgl p 255
  by_cases h0:(rdU p 255).2=0
  ·have hb:((Ql0 (rdU p 255)).2 != 0)=false:=by simp [Ql0,h0]
   have e8:wr .u8 (Ql0 (rdU p 255)).1=((UInt8.ofNat (rdU p 255).1).toNat:Int):=by
    show wr .u8 ((rdU p 255).1:Int)=_
    rw [Ql2 (by omega) (by omega),UInt8.toNat_ofNat',Nat.mod_eq_of_lt (by omega)]
   have g4:(0:Int)≤(i:Int)∧(i:Int)<4:=by omega
   rw [hb,if_neg Bool.false_ne_true,if_pos g4,e8,Qp2 (by simp;omega),QqN acc i _ ha (by omega),QX (by omega) (by omega),show ((i:Int)+1)=((i+1:Nat):Int) by omega,if_pos h0]
   exact ih (i+1) _ (by omega) (by simp;omega)
  ·have hb:((Ql0 (rdU p 255)).2 != 0)=true:=by rw [bne_iff_ne];show ((rdU p 255).2:Int)≠0;omega
   rw [hb,if_pos rfl,if_neg h0,if_neg h0];rfl
theorem QiA(ps:List (List UInt8))(hps:ps.length=4)(hsz:∀ p∈ps,p.length<1000000):∀ (k i:Nat) (acc:List UInt8),i+k=4→acc.length=i →
  QaI.l0 (ps.map bs) (i:Int) (v4 (acc++List.replicate (4-i) 0)) =
   some (if (pqs (ps.drop i) acc).1=0 then .nx (v4 (pqs (ps.drop i) acc).2) else .ret (Vector.replicate 4 0,((pqs (ps.drop i) acc).1:Int))):=by
 intro k
 induction k with
 | zero =>
  intro i acc hi ha
  have:i=4:=by omega
  subst this
  rw [QaI.l0.eq_def,if_neg (by decide),List.drop_eq_nil_of_le (by omega)]
  show _=some (if (0:Nat)=0 then _ else _)
  rw [if_pos rfl]
  show some (Ctl.nx (v4 (acc++[])))=_
  rw [List.append_nil];rfl
 | succ k ih =>
  intro i acc hi ha
  have hp:ps[i]? = some ps[i]:=List.getElem?_eq_getElem (by omega)
  have hdrop:ps.drop i=ps[i]::ps.drop (i+1):=List.drop_eq_getElem_cons (by omega)
  generalize ps[i]=p at hp hdrop
  have hmem:=List.mem_of_getElem? hp
  have hpl:=hsz p hmem
  have hl:QO (ps.map bs) (i:Int)=bs p:=by
   unfold QO
   rw [Int.toNat_natCast,List.getD_eq_getElem?_getD,List.getElem?_map,hp];rfl
  have g:(0:Int)≤(i:Int)∧(i:Int)<((ps.map bs).length:Int):=by rw [List.length_map];omega
  have g4:(0:Int)≤(i:Int)∧(i:Int)<4:=by omega
  have hr:=Qjn (bs p) 255 (by rw [QT];omega) (by omega)
  rw [QaJ,show ((255:Nat):Int)=255 from rfl] at hr
  rw [QaI.l0.eq_def,if_pos (decide_eq_true g4.2),if_pos g,hl,hr,Qa,hdrop]
  unfold pqs
  have hle:=Qgl p 255
  by_cases h0:(rdU p 255).2=0
  ·have hb:((Ql0 (rdU p 255)).2 != 0)=false:=by simp [Ql0,h0]
   have e8:wr .u8 (Ql0 (rdU p 255)).1=((UInt8.ofNat (rdU p 255).1).toNat:Int):=by
    show wr .u8 ((rdU p 255).1:Int)=_
    rw [Ql2 (by omega) (by omega),UInt8.toNat_ofNat',Nat.mod_eq_of_lt (by omega)]
   rw [hb,if_neg Bool.false_ne_true,if_pos g4,e8,Qp2 (by simp;omega),QqN acc i _ ha (by omega),QX (by omega) (by omega),show ((i:Int)+1)=((i+1:Nat):Int) by omega,if_pos h0]
   exact ih (i+1) _ (by omega) (by simp;omega)
  ·have hb:((Ql0 (rdU p 255)).2 != 0)=true:=by rw [bne_iff_ne];show ((rdU p 255).2:Int)≠0;omega
   rw [hb,if_pos rfl,if_neg h0,if_neg h0];rfl
theorem QiE(c:UInt8):∀ (l p:List UInt8),p∈QM c l→p.length≤l.length:=by
 intro l
 induction l with
 | nil=>intro p hp;simp [QM] at hp;subst hp;exact Nat.le_refl _
 | cons x r ih =>
  intro p hp
  have hne:=Qdn c r
  unfold QM at hp
  split at hp
  ·rcases List.mem_cons.1 hp with rfl | hp
   ·exact Nat.zero_le _
   ·exact Nat.le_trans (ih p hp) (by simp)
  ·cases hq:QM c r with
   | nil=>exact absurd hq hne
   | cons a b =>
    rw [hq] at hp ih
    rcases List.mem_cons.1 hp with rfl | hp
    ·have:=ih a (List.mem_cons_self ..)
     simp;omega
    ·have:=ih p (List.mem_cons_of_mem _ hp)
     simp;omega
theorem QpW:(Vector.replicate 4 (0:Int):Vector Int 4)=v4 (List.replicate 4 0):=QtK rfl
theorem QkO(l:List UInt8)(h:l.length<1000000):QcQ (bs l)=some (Qr7 (Qdj l)):=by
 unfold QcQ Qdj
 have hp:=QkR 46 l h
 rw [show (((46:UInt8).toNat:Nat):Int)=46 from rfl] at hp
 rw [hp,Qa,List.length_map]
 by_cases h4:(QM 46 l).length=4
 ·have hne:(((QM 46 l).length:Int) != 4)=false:=by rw [h4];rfl
  have hl:=Qku (QM 46 l) h4 (fun p hp=>Nat.lt_of_le_of_lt (QiE 46 l p hp) h) 4 0 [] rfl rfl
  rw [List.nil_append,show 4-0=4 from rfl,←QpW,show ((0:Nat):Int)=0 from rfl,List.drop_zero] at hl
  rw [hne,if_neg Bool.false_ne_true,hl,Qa,if_pos h4]
  by_cases h0:(pqs (QM 46 l) []).1=0
  ·rw [if_pos h0,if_pos h0];rfl
  ·rw [if_neg h0,if_neg h0];rfl
 ·have hne:(((QM 46 l).length:Int) != 4)=true:=by rw [bne_iff_ne];omega
  rw [hne,if_pos rfl,if_neg h4];rfl
theorem Qhx(l:List UInt8)(h:l.length<1000000):QaI (bs l)=some (Qr7 (Qdj l)):=by
 unfold QaI Qdj
 have hp:=Qei 46 l h
 rw [show (((46:UInt8).toNat:Nat):Int)=46 from rfl] at hp
 rw [hp,Qa,List.length_map]
 by_cases h4:(QM 46 l).length=4
 ·have hne:(((QM 46 l).length:Int) != 4)=false:=by rw [h4];rfl
  have hl:=QiA (QM 46 l) h4 (fun p hp=>Nat.lt_of_le_of_lt (QiE 46 l p hp) h) 4 0 [] rfl rfl
  rw [List.nil_append,show 4-0=4 from rfl,←QpW,show ((0:Nat):Int)=0 from rfl,List.drop_zero] at hl
  rw [hne,if_neg Bool.false_ne_true,hl,Qa,if_pos h4]
  by_cases h0:(pqs (QM 46 l) []).1=0
  ·rw [if_pos h0,if_pos h0];rfl
  ·rw [if_neg h0,if_neg h0];rfl
 ·have hne:(((QM 46 l).length:Int) != 4)=true:=by rw [bne_iff_ne];omega
  rw [hne,if_pos rfl,if_neg h4];rfl
theorem Qpi(c:UInt8):∀ (l:List UInt8),[c].intercalate (QM c l)=l:=by
 have key:∀ (l:List UInt8),∃ p r,QM c l=p::r∧p++(r.map ([c]++·)).flatten=l:=by
  intro l
  induction l with
  | nil=>exact ⟨[],[],rfl,rfl⟩
  | cons x l ih =>
   obtain ⟨p,r,h1,h2⟩:=ih
   by_cases hx:x=c
   ·subst hx
    refine ⟨[],p::r,?_,?_⟩
    ·rw [QM,if_pos rfl,h1]
    ·rw [←h2];simp
   ·refine ⟨x::p,r,?_,?_⟩
    ·rw [QM,if_neg hx,h1];rfl
    ·rw [←h2];simp
 intro l
 obtain ⟨p,r,h1,h2⟩:=key l
 rw [h1]
 have:∀ (r:List (List UInt8)) (p:List UInt8),[c].intercalate (p::r)=p++(r.map ([c]++·)).flatten:=by
  intro r
  induction r with
  | nil=>intro p;simp [List.intercalate]
  | cons q r ih =>
   intro p
   have:=ih q
   simp only [List.intercalate,List.intersperse] at this ⊢
   simp [this]
 rw [this,h2]
theorem Qtm:∀ (ps:List (List UInt8)) (acc:List UInt8),(pqs ps acc).1=0→∃ m,(pqs ps acc).2=acc++m∧m.length=ps.length∧ps=m.map fun b=>Lib.decDigits b.toNat
 | [],acc,_=>⟨[],by simp [pqs],rfl,rfl⟩
 | p::r,acc,h=>by
  unfold pqs at h ⊢
  by_cases h0:(rdU p 255).2=0
  ·rw [if_pos h0] at h ⊢
   obtain ⟨m,h1,h2,h3⟩:=Qtm r _ h
   obtain ⟨b1,b2⟩:=Qss h0
   refine ⟨UInt8.ofNat (rdU p 255).1::m,by rw [h1];simp,by simp [h2],?_⟩
   rw [List.map_cons,←h3,UInt8.toNat_ofNat',Nat.mod_eq_of_lt (by omega),b1]
  ·rw [if_neg h0] at h
   exact absurd h h0
theorem QkQ:∀ (m:List UInt8) (acc:List UInt8),pqs (m.map fun b=>Lib.decDigits b.toNat) acc=(0,acc++m)
 | [],acc=>by simp [pqs]
 | b::m,acc=>by
  have hb:=b.toNat_lt
  have hr:rdU (Lib.decDigits b.toNat) 255=(b.toNat,0):=by rw [Qjo,if_pos (by omega)]
  rw [List.map_cons,pqs,hr]
  show (if (0:Nat)=0 then _ else _)=_
  rw [if_pos rfl,show (b.toNat,0).1=b.toNat from rfl,UInt8.ofNat_toNat,QkQ m]
  simp
theorem Qih(n:Nat):∀ x∈Lib.decDigits n,x≠46:=fun x hx=>by
 have:=QdG.1 (List.all_eq_true.1 (QdN n) x hx)
 intro e;subst e
 have:(46:UInt8).toNat=46:=rfl
 omega
theorem Qnn{m:List UInt8}(hm:m.length=4):QM 46 (Qf4 m)=m.map fun b=>Lib.decDigits b.toNat:=by
 match m,hm with
 | [a,b,c,d],_ =>
  show QM 46 (Lib.decDigits a.toNat++46::(Lib.decDigits b.toNat++46::(Lib.decDigits c.toNat++46::Lib.decDigits d.toNat)))=_
  rw [Qbp _ _ _ (Qih _),Qbp _ _ _ (Qih _),Qbp _ _ _ (Qih _),Qcc _ _ (Qih _)];rfl
theorem Qpe{m:List UInt8}(hm:m.length=4):Qdj (Qf4 m)=(v4 m,0):=by
 unfold Qdj
 rw [Qnn hm,QkQ,if_pos (by simp [hm])]
 show (if (0:Nat)=0 then _ else _)=_
 rw [if_pos rfl];rfl
theorem Qha{l:List UInt8}(h:(Qdj l).2=0):∃ m,m.length=4∧Qdj l=(v4 m,0)∧Qf4 m=l:=by
 unfold Qdj at h ⊢
 by_cases h4:(QM 46 l).length=4
 ·rw [if_pos h4] at h ⊢
  by_cases h0:(pqs (QM 46 l) []).1=0
  ·rw [if_pos h0]
   obtain ⟨m,h1,h2,h3⟩:=Qtm _ _ h0
   have hm:m.length=4:=by omega
   refine ⟨m,hm,by rw [h1];rfl,?_⟩
   rw [←Qpi 46 l,h3]
   match m,hm with
   | [a,b,c,d],_ =>
    simp [List.intercalate,List.intersperse,Qf4]
  ·rw [if_neg h0] at h;exact absurd h h0
 ·rw [if_neg h4] at h;cases h
end Go.Proofs.YtnekckhjmnhinaaGreatDoor
namespace Go.Proofs.YtnekckhjmnhinaaGreatDoor.Col
open E Go.RowKit
def un:List Nat→List UInt8
 | []=>[]
 | n::r=>UInt8.ofNat (n/256)::UInt8.ofNat (n%256)::un r
def gr:List UInt8→List Nat
 | a::b::r=>(256*a.toNat+b.toNat)::gr r
 | [_]=>[]
 | []=>[]
theorem Qu0(b:UInt8)(n:Nat)(h:n=b.toNat):UInt8.ofNat n=b:=by subst h;exact UInt8.ofNat_toNat
theorem un_gr:∀ (l:List UInt8),l.length%2=0→un (gr l)=l
 | [],_=>rfl
 | [_],h=>by simp at h
 | a::b::r,h=>by
  have ha:=a.toNat_lt
  have hb:=b.toNat_lt
  rw [gr,un,un_gr r (by simp at h;omega),Qu0 a _ (by omega),Qu0 b _ (by omega)]
theorem QwE:∀ (G:List Nat),(∀ n∈G,n<65536)→gr (un G)=G
 | [],_=>rfl
 | n::G,h=>by
  have hn:=h n (List.mem_cons_self ..)
  rw [un,gr,QwE G fun m hm=>h m (List.mem_cons_of_mem _ hm),UInt8.toNat_ofNat',UInt8.toNat_ofNat']
  congr 1
  have:2 ^ 8=256:=rfl
  omega
theorem gr_lt:∀ (l:List UInt8),∀ n∈gr l,n<65536
 | [],n,h=>by cases h
 | [_],n,h=>by cases h
 | a::b::r,n,h=>by
  rcases List.mem_cons.1 h with rfl | h
  ·have ha:=a.toNat_lt
   have hb:=b.toNat_lt
   omega
  ·exact gr_lt r n h
theorem gr_len:∀ (l:List UInt8),(gr l).length=l.length/2
 | []=>rfl
 | [_]=>by simp [gr]
 | a::b::r=>by simp only [gr,List.length_cons,gr_len r];omega
theorem un_len:∀ (G:List Nat),(un G).length=2*G.length
 | []=>rfl
 | n::G=>by simp only [un,List.length_cons,un_len G];omega
theorem Qtg:∀ (A B:List Nat),un (A++B)=un A++un B
 | [],_=>rfl
 | n::A,B=>by simp [un,Qtg A B]
def QtS:List Bool→Nat
 | true::r=>QtS r+1
 | _=>0
def lgC:List Bool→Nat→Nat→Nat→Nat→Nat×Nat
 | [],_,p,z,_=>(p,z)
 | b::r,i,p,z,now=>if b=false then lgC r (i+1) p z 0 else if now+1>z then lgC r (i+1) (i+1-(now+1)) (now+1) (now+1) else lgC r (i+1) p z (now+1)
def lgR:List Bool→Nat→Nat→Nat→Nat×Nat
 | [],_,p,z=>(p,z)
 | b::r,i,p,z=>if QtS (b::r)>z then lgR r (i+1) i (QtS (b::r)) else lgR r (i+1) p z
theorem QsI:∀ a b c d e f g h:Bool,lgC [a,b,c,d,e,f,g,h] 0 0 0 0=lgR [a,b,c,d,e,f,g,h] 0 0 0:=by decide +kernel
theorem QsJ:∀ a b c d e f g h:Bool,(lgR [a,b,c,d,e,f,g,h] 0 0 0).1+(lgR [a,b,c,d,e,f,g,h] 0 0 0).2≤8:=by decide +kernel
theorem QsH:∀ a b c d e f g h:Bool,([a,b,c,d,e,f,g,h].drop (lgR [a,b,c,d,e,f,g,h] 0 0 0).1).take (lgR [a,b,c,d,e,f,g,h] 0 0 0).2=List.replicate (lgR [a,b,c,d,e,f,g,h] 0 0 0).2 true:=by decide +kernel
theorem QuB{α:Type}{z:List α}(h:z.length=8):∃ a b c d e f g k,z=[a,b,c,d,e,f,g,k]:=by
 match z,h with
 | [a,b,c,d,e,f,g,k],_=>exact ⟨a,b,c,d,e,f,g,k,rfl⟩
def lg(z:List Bool):Nat×Nat:=lgR z 0 0 0
theorem Qui{z:List Bool}(h:z.length=8):lgC z 0 0 0 0=lg z:=by
 obtain ⟨a,b,c,d,e,f,g,k,rfl⟩:=QuB h;exact QsI ..
theorem QlA{z:List Bool}(h:z.length=8):(lg z).1+(lg z).2≤8:=by
 obtain ⟨a,b,c,d,e,f,g,k,rfl⟩:=QuB h;exact QsJ ..
theorem Quh{z:List Bool}(h:z.length=8):(z.drop (lg z).1).take (lg z).2=List.replicate (lg z).2 true:=by
 obtain ⟨a,b,c,d,e,f,g,k,rfl⟩:=QuB h;exact QsH ..
def g1(n:Nat):List UInt8:=(Hex.grp n).data.toList
def rowL:List Nat→List UInt8
 | []=>[]
 | [n]=>g1 n
 | n::m::r=>g1 n++58::rowL (m::r)
def zp(G:List Nat):List Bool:=G.map fun n=>n==0
def textL(G:List Nat):List UInt8:=if (lg (zp G)).2<2 then rowL G else rowL (G.take (lg (zp G)).1)++58::58::rowL (G.drop ((lg (zp G)).1+(lg (zp G)).2))
theorem Qgj(G:List Nat):(zp G).length=G.length:=by simp [zp]
theorem Qtz:∀ n:Fin 16,48≤(Hex.dg n.1).toNat∧Hex.dg n.1≠58∧Hex.dg n.1≠46:=by decide +kernel
theorem Qjt(n:Nat):∀ x∈g1 n,x≠58∧x≠46:=by
 induction n using Nat.strongRecOn with
 | _ n ih =>
  intro x hx
  unfold g1 Hex.grp at hx
  split at hx
  ·next h =>
   simp only [Hex.dig,List.mem_singleton] at hx
   subst hx
   exact (Qtz ⟨n,h⟩).2
  ·next h =>
   rw [Qa0] at hx
   rcases List.mem_append.1 hx with hx | hx
   ·exact ih _ (show n/16<n by omega) x hx
   ·simp only [Hex.dig,List.mem_singleton] at hx
    subst hx
    exact (Qtz ⟨n%16,by omega⟩).2
theorem Qrv(n:Nat)(h:n<65536):1≤(g1 n).length∧(g1 n).length≤4:=by
 have:=Hex.grp_size n
 unfold g1
 rw [QaY]
 exact ⟨this.1,this.2 3 (by simpa using h)⟩
theorem Qur(n:Nat):g1 n≠[]:=by
 have:=(Hex.grp_size n).1
 intro e
 have h2:(g1 n).length=0:=by rw [e];rfl
 unfold g1 at h2
 rw [QaY] at h2
 omega
theorem QeG:∀ (G:List Nat),(∀ n∈G,n<65536)→(rowL G).length≤5*G.length
 | [],_=>Nat.zero_le _
 | [n],h=>by
  have:=(Qrv n (h n (List.mem_cons_self ..))).2
  simp only [rowL,List.length_cons,List.length_nil];omega
 | n::m::r,h=>by
  have h1:=(Qrv n (h n (List.mem_cons_self ..))).2
  have h2:=QeG (m::r) fun k hk=>h k (List.mem_cons_of_mem _ hk)
  simp only [rowL,List.length_append,List.length_cons] at h2 ⊢;omega
theorem textL_len(G:List Nat)(h:∀ n∈G,n<65536)(h8:G.length=8):(textL G).length≤42:=by
 unfold textL
 split
 ·have:=QeG G h;omega
 ·have h1:=QeG (G.take (lg (zp G)).1) fun n hn=>h n (List.mem_of_mem_take hn)
  have h2:=QeG (G.drop ((lg (zp G)).1+(lg (zp G)).2)) fun n hn=>h n (List.mem_of_mem_drop hn)
  have hf:=QlA (z:=zp G) (by rw [Qgj,h8])
  simp only [List.length_append,List.length_cons,List.length_take,List.length_drop] at h1 h2 ⊢;omega
def spl:List (List UInt8)→Option (List (List UInt8)×List (List UInt8))
 | []=>none
 | p::r=>if r.head? = some []∧2≤r.length then some ([p],r.tail) else (spl r).map fun q=>(p::q.1,q.2)
def q2(v:Vector Int 4):List Nat:=[256*(Qbb v 0).toNat+(Qbb v 1).toNat,256*(Qbb v 2).toNat+(Qbb v 3).toNat]
def lst(last:Bool):List (List UInt8)→Option (List Nat)
 | []=>some []
 | p::r=>match Hex.read (bs p) with
  | some n=>(lst last r).map (n::·)
  | none=>if (Qdj p).2=0∧last=true∧r=[] then some (q2 (Qdj p).1) else none
def QiG(last:Bool)(ps:List (List UInt8)):Option (List Nat):=if ps=[[]] then some [] else lst last ps
def parseL(l:List UInt8):Option (List Nat):=match spl (QM 58 l) with
 | none=>(lst true (QM 58 l)).bind fun x=>if x.length=8 then some x else none
 | some (a,b)=>(QiG false a).bind fun x=>(QiG true b).bind fun y=>if x.length+y.length≤7 then some (x++(List.replicate (8-x.length-y.length) 0++y)) else none
theorem QcE(r:List UInt8):QM 58 (58::r)=[]::QM 58 r:=by rw [QM,if_pos rfl]
theorem QfN(r:List UInt8):((QM 58 r).head? = some []∧2≤(QM 58 r).length)↔∃ r2,r=58::r2:=by
 cases r with
 | nil=>simp [QM]
 | cons x r =>
  by_cases hx:x=58
  ·subst hx
   rw [QcE]
   have:=Qdn 58 r
   cases hp:QM 58 r with
   | nil=>exact absurd hp this
   | cons a b=>simp
  ·rw [QM,if_neg hx]
   simp [hx]
theorem Qsq:Hex.read (bs [])=none:=rfl
theorem Qst:(Qdj []).2=5:=rfl
theorem Qud(last:Bool)(r:List (List UInt8))(h:r≠[]∨True):lst last ([]::r)=none:=by
 unfold lst
 rw [Qsq,Qst]
 simp
theorem Qe5(l:List UInt8):QM 58 l=[[]]↔l=[]:=by
 constructor
 ·intro h
  cases l with
  | nil=>rfl
  | cons x r =>
   have hne:=Qdn 58 r
   by_cases hx:x=58
   ·subst hx
    rw [QcE] at h
    cases h2:QM 58 r with
    | nil=>exact absurd h2 hne
    | cons a b=>rw [h2] at h;simp at h
   ·rw [QM,if_neg hx] at h;simp at h
 ·intro h;subst h;rfl
theorem Qnu(last:Bool):∀ (G:List Nat),(∀ n∈G,n<65536)→lst last (G.map g1)=some G
 | [],_=>rfl
 | n::G,h=>by
  rw [List.map_cons,lst]
  have hb:bs (g1 n)=Hex.grp n:=(QsX _).symm
  rw [hb,Hex.read_grp n (h n (List.mem_cons_self ..))]
  show (lst last (G.map g1)).map _=_
  rw [Qnu last G fun m hm=>h m (List.mem_cons_of_mem _ hm)];rfl
theorem QjV:∀ (G:List Nat),G≠[]→QM 58 (rowL G)=G.map g1
 | [],h=>absurd rfl h
 | [n],_=>Qcc _ _ fun x hx=>(Qjt n x hx).1
 | n::m::r,_=>by
  rw [rowL,Qbp _ _ _ fun x hx=>(Qjt n x hx).1,QjV (m::r) (by simp)];rfl
theorem Qh3:∀ (G:List Nat) (r:List UInt8),QM 58 (rowL G++58::r)=(if G=[] then [[]] else G.map g1)++QM 58 r
 | [],r=>QcE r
 | [n],r=>by rw [rowL,Qbp _ _ _ fun x hx=>(Qjt n x hx).1];rfl
 | n::m::s,r=>by
  rw [rowL,List.append_assoc]
  show QM 58 (g1 n++58::(rowL (m::s)++58::r))=_
  rw [Qbp _ _ _ fun x hx=>(Qjt n x hx).1,Qh3 (m::s) r];rfl
theorem Qn8:∀ (G:List Nat),spl (G.map g1)=none
 | []=>rfl
 | n::G=>by
  rw [List.map_cons,spl,if_neg,Qn8 G];rfl
  rintro ⟨h,_⟩
  cases G with
  | nil=>cases h
  | cons m r=>simp at h;exact Qur m h
theorem Qqg:∀ (A:List (List UInt8)) (B:List (List UInt8)),A≠[]→(∀ p∈A.tail,p≠[])→B≠[]→spl (A++[]::B)=some (A,B)
 | [],_,h,_,_=>absurd rfl h
 | [p],B,_,_,hB=>by
  show spl (p::[]::B)=_
  rw [spl,if_pos];rfl
  refine ⟨rfl,?_⟩
  cases B with
  | nil=>exact absurd rfl hB
  | cons x y=>simp
 | p::q::A,B,_,h,hB=>by
  show spl (p::((q::A)++[]::B))=_
  rw [spl,if_neg,Qqg (q::A) B (by simp) (fun x hx=>h x (List.mem_cons_of_mem _ hx)) hB];rfl
  rintro ⟨h1,_⟩
  simp at h1
  exact h q (List.mem_cons_self ..) h1
theorem Qr3{G:List Nat}{p z:Nat}(h:((zp G).drop p).take z=List.replicate z true):(G.drop p).take z=List.replicate z 0:=by
 unfold zp at h
 rw [←List.map_drop,←List.map_take] at h
 generalize (G.drop p).take z=D at h
 have hl:D.length=z:=by have:=congrArg List.length h;simpa using this
 apply List.eq_replicate_iff.2
 refine ⟨hl,fun n hn=>?_⟩
 have:(n==0)∈List.replicate z true:=by rw [←h];exact List.mem_map.2 ⟨n,hn,rfl⟩
 have:=List.eq_of_mem_replicate this
 simpa using this
theorem Qu9{α:Type}(G:List α)(p z:Nat):G=G.take p++((G.drop p).take z++G.drop (p+z)):=by
 rw [←List.drop_drop,List.take_append_drop,List.take_append_drop]
theorem QoA(last:Bool)(G:List Nat)(h:∀ n∈G,n<65536):QiG last (if G=[] then [[]] else G.map g1)=some G:=by
 unfold QiG
 cases G with
 | nil=>rfl
 | cons n r =>
  have e1:(if n::r=[] then ([[]]:List (List UInt8)) else (n::r).map g1)=(n::r).map g1:=if_neg (by simp)
  rw [e1,if_neg,Qnu last _ h]
  intro e
  rw [List.map_cons] at e
  exact Qur n (List.cons.inj e).1
theorem parse_text(G:List Nat)(h:∀ n∈G,n<65536)(h8:G.length=8):parseL (textL G)=some G:=by
 unfold textL
 split
 ·unfold parseL
  have hne:G≠[]:=by intro e;subst e;simp at h8
  rw [QjV G hne,Qn8,Qnu true G h]
  show (if G.length=8 then some G else none)=_
  rw [if_pos h8]
 ·next h2 =>
  have hz:=Quh (z:=zp G) (by rw [Qgj,h8])
  have hf:=QlA (z:=zp G) (by rw [Qgj,h8])
  generalize hq:lg (zp G)=q at h2 hz hf
  obtain ⟨p,z⟩:=q
  simp only at h2 hz hf ⊢
  have hzz:=Qr3 hz
  have hG:=Qu9 G p z
  have hA:∀ n∈G.take p,n<65536:=fun n hn=>h n (List.mem_of_mem_take hn)
  have hB:∀ n∈G.drop (p+z),n<65536:=fun n hn=>h n (List.mem_of_mem_drop hn)
  have hAl:(G.take p).length=p:=by rw [List.length_take];omega
  have hBl:(G.drop (p+z)).length=8-(p+z):=by rw [List.length_drop,h8]
  rw [hzz] at hG
  generalize G.take p=A at *
  generalize G.drop (p+z)=B at *
  unfold parseL
  rw [Qh3 A,QcE]
  have e2:QM 58 (rowL B)=if B=[] then [[]] else B.map g1:=by
   cases B with
   | nil=>rfl
   | cons n r=>rw [if_neg (by simp),QjV _ (by simp)]
  rw [e2,Qqg _ _ (by split<;>simp_all) (by
   intro x hx
   split at hx
   ·cases hx
   ·rw [←List.map_tail] at hx
    obtain ⟨n,_,rfl⟩:=List.mem_map.1 hx
    exact Qur n) (by split<;>simp_all)]
  show (QiG false (if A=[] then [[]] else A.map g1)).bind _=_
  rw [QoA false A hA]
  show (QiG true (if B=[] then [[]] else B.map g1)).bind _=_
  rw [QoA true B hB]
  show (if A.length+B.length≤7 then _ else none)=_
  rw [if_pos (by omega),show 8-A.length-B.length=z by omega,←hG]
end Go.Proofs.YtnekckhjmnhinaaGreatDoor.Col
namespace Go.Proofs.YtnekckhjmnhinaaGreatDoor.Col
open E Go.RowKit
def ns(G:List Nat):List Int:=G.map fun n:Nat=>(n:Int)
theorem Qdq(G:List Nat):(ns G).length=G.length:=by simp [ns]
def gv(G:List Nat):Vector Int 8:=Qjc 8 (ns (G++List.replicate (8-G.length) 0))
theorem QeO{G:List Nat}(h:G.length≤8):(gv G).toList=ns (G++List.replicate (8-G.length) 0):=by
 have hl:(ns (G++List.replicate (8-G.length) 0)).length=8:=by rw [Qdq];simp;omega
 unfold gv
 rw [Qda 8 _ (by omega),List.take_of_length_le (by omega)]
theorem QwD{v:Vector Int 8}{G:List Nat}(h:v.toList=ns G):v=gv G:=by
 have hl:G.length=8:=by have:=congrArg List.length h;rw [Qdq] at this;simpa using this.symm
 apply Vector.toList_inj.1
 rw [QeO (by omega),h,hl];simp
theorem Qrp{G:List Nat}(h:G.length<8)(n:Nat):Qb2 (gv G) (G.length:Int) (n:Int)=gv (G++[n]):=by
 apply Vector.toList_inj.1
 rw [Qd4,QeO (by omega),QeO (by simp;omega),Int.toNat_natCast]
 unfold ns
 rw [←List.map_set,List.set_append_right _ _ (Nat.le_refl _),Nat.sub_self,show 8-G.length=(8-(G.length+1))+1 by omega,List.replicate_succ]
 simp
theorem QnJ:(Vector.replicate 8 (0:Int):Vector Int 8)=gv []:=by
 apply Vector.toList_inj.1;rw [QeO (by simp)];rfl
theorem Qos(G:List Nat)(i:Nat)(n:Nat)(h:G[i]? = some n):(ns G).getD i default=(n:Int):=by
 unfold ns;rw [List.getD_eq_getElem?_getD,List.getElem?_map,h];rfl
theorem QoI{G:List Nat}(h8:G.length=8)(i:Nat)(n:Nat)(h:G[i]? = some n):Qbb (gv G) (i:Int)=(n:Int):=by
 unfold Qbb
 rw [QeO (by omega),h8,Int.toNat_natCast,show 8-8=0 from rfl,List.replicate_zero,List.append_nil]
 exact Qos G i n h
def rd(acc:List Nat)(gp:Int):QF:={ f_g:=gv acc,f_n:=(acc.length:Int),f_gap:=gp }
def Res(r:Option (Bool×QF))(o:Option (List Nat×Int)):Prop:=match o with
 | some (G,gp)=>r=some (true,rd G gp)
 | none=>∃ s',r=some (false,s')
def Ql1(acc l:List Nat)(gp:Int):Option (List Nat×Int):=if acc.length+l.length≤8 then some (acc++l,gp) else none
theorem Qjp{acc:List Nat}(h:acc.length=8)(gp:Int)(x:Int):Qa7 (rd acc gp) x=some (false,rd acc gp):=by
 unfold Qa7
 have e:((rd acc gp).f_n==8)=true:=by show ((acc.length:Int)==8)=true;rw [h];rfl
 rw [e,if_pos rfl]
theorem QkP{acc:List Nat}(h:acc.length<8)(gp:Int)(n:Nat):Qa7 (rd acc gp) (n:Int)=some (true,rd (acc++[n]) gp):=by
 unfold Qa7
 have e:((rd acc gp).f_n==8)=false:=by
  show ((acc.length:Int)==8)=false
  rw [beq_eq_false_iff_ne];omega
 have hb:(0:Int)≤(rd acc gp).f_n∧(rd acc gp).f_n<8:=by show (0:Int)≤(acc.length:Int)∧(acc.length:Int)<8;omega
 rw [e,if_neg Bool.false_ne_true,if_pos hb]
 refine congrArg some (congrArg (Prod.mk true) ?_)
 show QF.mk (Qb2 (gv acc) (acc.length:Int) (n:Int)) (wr .i64 ((acc.length:Int)+1)) gp=QF.mk (gv (acc++[n])) ((acc++[n]).length:Int) gp
 rw [Qrp h,QX (by omega) (by omega)]
 congr 1
 simp
theorem or16(a b:Nat)(ha:a<256)(hb:b<256):ior .u16 (Qh9 .u16 (wr .u16 (a:Int)) 8) (wr .u16 (b:Int))=((256*a+b:Nat):Int):=by
 rw [Qn1 (by omega) (by omega),Qn1 (by omega) (by omega),show (8:Int)=((8:Nat):Int) from rfl,Qfy .u16 rfl a 8 (by decide)]
 have e:(a*2 ^ 8)%2 ^ IntKind.u16.bits=a*256:=by show (a*256)%65536=_;omega
 rw [e,QhH .u16 rfl _ _ (by show _<65536;omega) (by show _<65536;omega)]
 have h2:=Nat.two_pow_add_eq_or_of_lt (i:=8) (b:=b) (by simpa using hb) a
 have e3:2 ^ 8*a=a*256:=by omega
 rw [e3] at h2
 rw [←h2,Nat.mul_comm a 256]
theorem tail_ok{acc:List Nat}(h:acc.length≤8)(gp:Int)(p:List UInt8)(hp:p.length<1000000):Res (Qcy (rd acc gp) (bs p)) ((lst true [p]).bind fun x=>Ql1 acc x gp):=by
 unfold Qcy
 rw [Hex.read_eq,Qa]
 unfold lst
 cases hr:Hex.read (bs p) with
 | some n =>
  show Res (if ((0:Int)==0)=true then _ else _) (((lst true []).map (n::·)).bind _)
  rw [if_pos (by rfl)]
  show Res _ (Ql1 acc [n] gp)
  unfold Ql1
  by_cases h8:acc.length=8
  ·rw [Qjp h8,if_neg (by simp;omega)]
   exact ⟨_,rfl⟩
  ·rw [QkP (by omega),if_pos (by simp;omega)]
   rfl
 | none =>
  show Res (if ((5:Int)==0)=true then _ else _) _
  rw [if_neg (by decide),QkO p hp,Qa]
  by_cases h0:(Qdj p).2=0
  ·obtain ⟨m,hm,hq,_⟩:=Qha h0
   simp only [h0,and_self,if_pos,Option.bind_some]
   match m,hm with
   | [a,b,c,d],hm =>
    have ha:=a.toNat_lt
    have hb:=b.toNat_lt
    have hc:=c.toNat_lt
    have hd:=d.toNat_lt
    rw [hq]
    have e0:Qbb (v4 [a,b,c,d]) 0=(a.toNat:Int):=Qc8 hm 0 a rfl
    have e1:Qbb (v4 [a,b,c,d]) 1=(b.toNat:Int):=Qc8 hm 1 b rfl
    have e2:Qbb (v4 [a,b,c,d]) 2=(c.toNat:Int):=Qc8 hm 2 c rfl
    have e3:Qbb (v4 [a,b,c,d]) 3=(d.toNat:Int):=Qc8 hm 3 d rfl
    have eq:q2 (v4 [a,b,c,d])=[256*a.toNat+b.toNat,256*c.toNat+d.toNat]:=by unfold q2;rw [e0,e1,e2,e3];rfl
    show Res (if ((0:Int)==0)=true then (Qa7 (rd acc gp) (ior .u16 (Qh9 .u16 (wr .u16 (Qbb (v4 [a,b,c,d]) 0)) 8) (wr .u16 (Qbb (v4 [a,b,c,d]) 1)))>>=fun t7=>if t7.1=true then (Qa7 t7.2 (ior .u16 (Qh9 .u16 (wr .u16 (Qbb (v4 [a,b,c,d]) 2)) 8) (wr .u16 (Qbb (v4 [a,b,c,d]) 3)))>>=fun t9=>some (t9.1,t9.2)) else (some (false,t7.2))) else _) (Ql1 acc (q2 (v4 [a,b,c,d])) gp)
    rw [if_pos (by rfl),e0,e1,e2,e3,or16 _ _ ha hb,or16 _ _ hc hd,eq]
    unfold Ql1
    by_cases h8:acc.length=8
    ·rw [Qjp h8,Qa,if_neg Bool.false_ne_true,if_neg (by simp;omega)]
     exact ⟨_,rfl⟩
    ·rw [QkP (by omega),Qa,if_pos rfl]
     by_cases h7:acc.length=7
     ·rw [Qjp (by simp;omega),Qa,if_neg (by simp;omega)]
      exact ⟨_,rfl⟩
     ·rw [QkP (by simp;omega),Qa,if_pos (by simp;omega)]
      show _=some (true,rd (acc++[_,_]) gp)
      rw [List.append_assoc];rfl
  ·have hb:((Qr7 (Qdj p)).2==0)=false:=by rw [beq_eq_false_iff_ne];show (((Qdj p).2:Nat):Int)≠0;omega
   rw [hb,if_neg Bool.false_ne_true]
   simp only [h0,false_and,if_false,Option.bind_none]
   exact ⟨_,rfl⟩
def isC:List UInt8→Bool
 | x::_=>x==58
 | []=>false
def QkW:List UInt8→Bool
 | x::y::_=>x==58&&y==58
 | _=>false
theorem QnB(r:List UInt8):isC r=true↔∃ r2,r=58::r2:=by
 cases r with
 | nil=>simp [isC]
 | cons x r=>simp [isC]
theorem Qhf(r:List UInt8):QkW r=true↔∃ r2,r=58::58::r2:=by
 match r with
 | []=>simp [QkW]
 | [x]=>simp [QkW]
 | x::y::r=>simp [QkW]
theorem Qws(r:List UInt8):QbF (bs r) (⟨#[58]⟩:ByteArray)=some (isC r):=by
 unfold QbF Qbw
 cases r with
 | nil=>rw [if_neg (by decide)];rfl
 | cons x r =>
  have hsz:(bs (x::r)).size=r.length+1:=QT _
  have h1:((⟨#[58]⟩:ByteArray).size:Int)=1:=rfl
  rw [h1,hsz,if_pos (decide_eq_true (by omega)),if_pos (by omega),Qa]
  refine congrArg some ?_
  show seq ((bs (x::r)).extract 0 1) (bs [58])=_
  rw [Qcn]
  by_cases hx:x=58
  ·subst hx
   exact Qg7 _
  ·have hf:isC (x::r)=false:=by simp [isC,hx]
   rw [hf]
   cases hc:seq (bs ((List.take 1 (x::r)).drop 0)) (bs [58]) with
   | false=>rfl
   | true =>
    have:=Qk1 ((QeW _ _).1 hc)
    simp at this
    exact absurd this hx
theorem pre2(r:List UInt8):QbF (bs r) (⟨#[58,58]⟩:ByteArray)=some (QkW r):=by
 unfold QbF Qbw
 match r with
 | []=>rw [if_neg (by decide)];rfl
 | [x] =>
  have hsz:(bs [x]).size=1:=QT _
  have h1:((⟨#[58,58]⟩:ByteArray).size:Int)=2:=rfl
  rw [h1,hsz,if_neg (by decide)];rfl
 | x::y::r =>
  have hsz:(bs (x::y::r)).size=r.length+2:=QT _
  have h1:((⟨#[58,58]⟩:ByteArray).size:Int)=2:=rfl
  rw [h1,hsz,if_pos (decide_eq_true (by omega)),if_pos (by omega),Qa]
  refine congrArg some ?_
  show seq ((bs (x::y::r)).extract 0 2) (bs [58,58])=_
  rw [Qcn]
  by_cases hx:x=58∧y=58
  ·obtain ⟨rfl,rfl⟩:=hx
   exact Qg7 _
  ·have hf:QkW (x::y::r)=false:=by
    cases hc:QkW (x::y::r) with
    | false=>rfl
    | true=>simp [QkW] at hc;exact absurd hc hx
   rw [hf]
   cases hc:seq (bs ((List.take 2 (x::y::r)).drop 0)) (bs [58,58]) with
   | false=>rfl
   | true =>
    have:=Qk1 ((QeW _ _).1 hc)
    simp at this
    exact absurd this hx
def Qwc(R:ByteArray→QF→Option (Bool×QF)):Prop:=∀ s st,R s st=(QcV s 58>>=fun t8=>if (!t8.2.2)=true then (Qcy st t8.1>>=fun t10=>some (t10.1,t10.2)) else (Qa8 t8.1>>=fun t11=>if (t11.2 != 0)=true then (some (false,st)) else (Qa7 st t11.1>>=fun t13=>if (!t13.1)=true then (some (false,t13.2)) else (QbF t8.2.1 (⟨#[58]⟩:ByteArray)>>=fun t15=>if (!t15)=true then (R t8.2.1 t13.2) else (if (decide (t13.2.f_gap≥0))=true then (some (false,t13.2)) else (if (0:Int)≤1∧1≤(t8.2.1.size:Int)∧(t8.2.1.size:Int)≤(t8.2.1.size:Int) then if (seq (t8.2.1.extract (Int.toNat 1) (Int.toNat (t8.2.1.size:Int))) (⟨#[]⟩:ByteArray))=true then (some (true,{ t13.2 with f_gap:=t13.2.f_n })) else (R (t8.2.1.extract (Int.toNat 1) (Int.toNat (t8.2.1.size:Int))) ({ t13.2 with f_gap:=t13.2.f_n })) else none))))))
theorem Qwy:Qwc Qag.l0:=fun s st=>Qag.l0.eq_def s st
theorem Qwx:Qwc Qag.l1:=fun s st=>Qag.l1.eq_def s st
theorem Qiz(l:List UInt8):seq (bs l) (⟨#[]⟩:ByteArray)=true↔l=[]:=by
 rw [QeW]
 exact ⟨fun h=>Qk1 (k:=[]) h,fun h=>by rw [h];rfl⟩
theorem Qjl{r:Option (Bool×QF)}{o:Option (List Nat×Int)}(h:Res r o):Res (r>>=fun t=>some (t.1,t.2)) o:=by
 unfold Res at *
 cases o with
 | none=>obtain ⟨s',h⟩:=h;rw [h];exact ⟨s',rfl⟩
 | some q=>obtain ⟨G,gp⟩:=q;simp only at h ⊢;rw [h];rfl
theorem Qtj{r:Option (Bool×QF)}{o:Option (List Nat×Int)}(h:Res r o):Res (r>>=fun t=>some t) o:=by
 cases r<;>exact h
theorem Qvi{R:ByteArray→QF→Option (Bool×QF)}(hR:Qwc R){acc:List Nat}(gp:Int)(p r:List UInt8)(hp:∀ x∈p,x≠58)(hl:p.length+r.length<1000000) :
  (Hex.read (bs p)=none∨acc.length=8→∃ s',R (bs (p++58::r)) (rd acc gp)=some (false,s')) ∧
  (∀ n,Hex.read (bs p)=some n→acc.length<8→(∀ r2,r≠58::r2)→R (bs (p++58::r)) (rd acc gp)=R (bs r) (rd (acc++[n]) gp)) ∧
  (∀ n r2,Hex.read (bs p)=some n→acc.length<8→r=58::r2→0≤gp→∃ s',R (bs (p++58::r)) (rd acc gp)=some (false,s')) ∧
  (∀ n r2,Hex.read (bs p)=some n→acc.length<8→r=58::r2→gp<0→R (bs (p++58::r)) (rd acc gp)=if r2=[] then some (true,rd (acc++[n]) ((acc++[n]).length:Int)) else R (bs r2) (rd (acc++[n]) ((acc++[n]).length:Int))):=by
 have h58:((58:UInt8).toNat:Int)=58:=rfl
 have hcut:=Qii p r 58 hp hl
 rw [h58] at hcut
 have h1:∀ (r2:List UInt8),r=58::r2→(bs r).extract (Int.toNat 1) (Int.toNat ((bs r).size:Int))=bs r2:=by
  intro r2 e
  rw [Int.toNat_natCast,Qcn,QT,List.take_of_length_le (Nat.le_refl _),e];rfl
 have h2:∀ (r2:List UInt8),r=58::r2→(0:Int)≤1∧1≤((bs r).size:Int)∧((bs r).size:Int)≤((bs r).size:Int):=by
  intro r2 e
  rw [QT,e,List.length_cons];omega
 refine ⟨fun h=>?_,fun n hn h8 hr=>?_,fun n r2 hn h8 hr hg=>?_,fun n r2 hn h8 hr hg=>?_⟩
 ·rw [hR,hcut,Qa]
  show ∃ s',(if (!true)=true then _ else _)=_
  rw [if_neg (by decide),Hex.read_eq,Qa]
  cases hq:Hex.read (bs p) with
  | none =>
   show ∃ s',(if ((5:Int) != 0)=true then _ else _)=_
   rw [if_pos (by decide)]
   exact ⟨_,rfl⟩
  | some n =>
   show ∃ s',(if ((0:Int) != 0)=true then _ else _)=_
   have h8:acc.length=8:=by rcases h with h | h;rw [h] at hq;cases hq;exact h
   rw [if_neg (by decide),Qjp h8,Qa]
   exact ⟨_,rfl⟩
 ·rw [hR,hcut,Qa]
  show (if (!true)=true then _ else _)=_
  rw [if_neg (by decide),Hex.read_eq,Qa,hn]
  show (if ((0:Int) != 0)=true then _ else _)=_
  rw [if_neg (by decide),QkP h8,Qa]
  show (if (!true)=true then _ else _)=_
  have hf:isC r=false:=by
   cases hc:isC r with
   | false=>rfl
   | true=>obtain ⟨r2,h⟩:=(QnB r).1 hc;exact absurd h (hr r2)
  rw [if_neg (by decide),Qws,Qa,hf]
  rfl
 ·rw [hR,hcut,Qa]
  show ∃ s',(if (!true)=true then _ else _)=_
  rw [if_neg (by decide),Hex.read_eq,Qa,hn]
  show ∃ s',(if ((0:Int) != 0)=true then _ else _)=_
  rw [if_neg (by decide),QkP h8,Qa]
  show ∃ s',(if (!true)=true then _ else _)=_
  rw [if_neg (by decide),Qws,Qa,(QnB r).2 ⟨r2,hr⟩]
  show ∃ s',(if (!true)=true then _ else (if decide (gp≥0)=true then _ else _))=_
  rw [if_neg (by decide),if_pos (decide_eq_true hg)]
  exact ⟨_,rfl⟩
 ·rw [hR,hcut,Qa]
  show (if (!true)=true then _ else _)=_
  rw [if_neg (by decide),Hex.read_eq,Qa,hn]
  show (if ((0:Int) != 0)=true then _ else _)=_
  rw [if_neg (by decide),QkP h8,Qa]
  show (if (!true)=true then _ else _)=_
  rw [if_neg (by decide),Qws,Qa,(QnB r).2 ⟨r2,hr⟩]
  show (if (!true)=true then _ else (if decide (gp≥0)=true then _ else (if _ then (if seq ((bs r).extract (Int.toNat 1) (Int.toNat ((bs r).size:Int))) _=true then _ else _) else _)))=_
  rw [if_neg (by decide),if_neg (by rw [decide_eq_true_eq];omega),if_pos (h2 r2 hr),h1 r2 hr]
  by_cases h0:r2=[]
  ·subst h0
   rw [if_pos rfl,if_pos ((Qiz []).2 rfl)];rfl
  ·rw [if_neg h0,if_neg];rfl
   intro e
   exact h0 ((Qiz r2).1 e)
theorem Qqm{R:ByteArray→QF→Option (Bool×QF)}(hR:Qwc R)(gp:Int)(hg:0≤gp):∀ (k:Nat) (l:List UInt8) (acc:List Nat),l.length≤k→l.length<1000000→acc.length≤8 →
  Res (R (bs l) (rd acc gp)) ((lst true (QM 58 l)).bind fun x=>Ql1 acc x gp):=by
 intro k
 induction k with
 | zero =>
  intro l acc hk hb h8
  obtain rfl:l=[]:=List.eq_nil_of_length_eq_zero (by omega)
  have hc:=QeH [] 58 (fun x h=>by cases h)
  rw [show ((58:UInt8).toNat:Int)=58 from rfl] at hc
  rw [hR,hc,Qa]
  exact Qjl (tail_ok h8 gp [] (by simp))
 | succ k ih =>
  intro l acc hk hb h8
  rcases QdA 58 l with h | ⟨p,r,rfl,h⟩
  ·have hc:=QeH l 58 h
   rw [show ((58:UInt8).toNat:Int)=58 from rfl] at hc
   rw [hR,hc,Qa,Qcc _ _ h]
   exact Qjl (tail_ok h8 gp l hb)
  ·have hlen:(p++58::r).length=p.length+(r.length+1):=by simp
   obtain ⟨c1,c2,c3,_⟩:=Qvi hR (acc:=acc) gp p r h (by omega)
   have hne:=Qdn 58 r
   rw [Qbp 58 r p h]
   cases hr:Hex.read (bs p) with
   | none =>
    have e:lst true (p::QM 58 r)=none:=by
     unfold lst
     rw [hr]
     simp [hne]
    rw [e];exact c1 (.inl hr)
   | some n =>
    have e:lst true (p::QM 58 r)=(lst true (QM 58 r)).map (n::·):=by
     rw [lst,hr]
    rw [e]
    have hk2:∀ (o:Option (List Nat)),((o.map (n::·)).bind fun x=>Ql1 acc x gp)=if acc.length=8 then none else o.bind fun x=>Ql1 (acc++[n]) x gp:=by
     intro o
     cases o with
     | none=>simp
     | some x =>
      simp only [Option.map_some,Option.bind_some]
      unfold Ql1
      by_cases ha:acc.length=8
      ·rw [if_pos ha,if_neg (by simp;omega)]
      ·rw [if_neg ha]
       by_cases hb:acc.length+(n::x).length≤8
       ·rw [if_pos hb,if_pos (by simp at hb ⊢;omega)];simp
       ·rw [if_neg hb,if_neg (by simp at hb ⊢;omega)]
    rw [hk2]
    by_cases ha:acc.length=8
    ·rw [if_pos ha];exact c1 (.inr ha)
    ·rw [if_neg ha]
     by_cases hrc:∃ r2,r=58::r2
     ·obtain ⟨r2,hr2⟩:=hrc
      have e3:lst true (QM 58 r)=none:=by rw [hr2,QcE];exact Qud _ _ (.inr trivial)
      rw [e3]
      exact c3 n r2 hr (by omega) hr2 hg
     ·rw [c2 n hr (by omega) fun r2 e=>hrc ⟨r2,e⟩]
      exact ih r (acc++[n]) (by omega) (by omega) (by simp;omega)
def after(acc:List Nat)(ps:List (List UInt8)):Option (List Nat×Int):=match spl ps with
 | none=>(lst true ps).bind fun x=>Ql1 acc x (-1)
 | some (a,b)=>(lst false a).bind fun x=>(QiG true b).bind fun y=>if acc.length+x.length+y.length≤8 then some (acc++x++y,((acc.length+x.length:Nat):Int)) else none
theorem Qn7{p:List UInt8}{ps:List (List UInt8)}{a b:List (List UInt8)}(h:spl (p::ps)=some (a,b)):∃ r,a=p::r:=by
 rw [spl] at h
 split at h
 ·cases h;exact ⟨[],rfl⟩
 ·cases hs:spl ps with
  | none=>rw [hs] at h;cases h
  | some q=>rw [hs] at h;cases h;exact ⟨q.1,rfl⟩
theorem QpR{acc:List Nat}{p:List UInt8}{ps:List (List UInt8)}(hne:ps≠[])(h:Hex.read (bs p)=none):after acc (p::ps)=none:=by
 unfold after
 cases hs:spl (p::ps) with
 | none =>
  have e:lst true (p::ps)=none:=by
   unfold lst
   rw [h];simp [hne]
  simp only [e];rfl
 | some q =>
  obtain ⟨a,b⟩:=q
  obtain ⟨r,rfl⟩:=Qn7 hs
  have e:lst false (p::r)=none:=by
   unfold lst
   rw [h];simp
  simp only [e];rfl
theorem QpQ{acc:List Nat}{p:List UInt8}{ps:List (List UInt8)}{n:Nat}(h:Hex.read (bs p)=some n)(hc:¬ (ps.head? = some []∧2≤ps.length)):after acc (p::ps)=if acc.length=8 then none else after (acc++[n]) ps:=by
 have e0:spl (p::ps)=(spl ps).map fun q=>(p::q.1,q.2):=by rw [spl,if_neg hc]
 have el:∀ b t,lst b (p::t)=(lst b t).map (n::·):=fun b t=>by rw [lst,h]
 unfold after
 rw [e0]
 cases hs:spl ps with
 | none =>
  simp only [Option.map_none,el]
  cases hl:lst true ps with
  | none=>simp
  | some x =>
   simp only [Option.map_some,Option.bind_some]
   unfold Ql1
   by_cases ha:acc.length=8
   ·rw [if_pos ha,if_neg (by simp;omega)]
   ·rw [if_neg ha]
    by_cases hb:acc.length+(n::x).length≤8
    ·rw [if_pos hb,if_pos (by simp at hb ⊢;omega)];simp
    ·rw [if_neg hb,if_neg (by simp at hb ⊢;omega)]
 | some q =>
  obtain ⟨a,b⟩:=q
  simp only [Option.map_some,el]
  cases hl:lst false a with
  | none=>simp
  | some x =>
   simp only [Option.map_some,Option.bind_some]
   cases hl2:QiG true b with
   | none=>simp
   | some y =>
    simp only [Option.bind_some]
    by_cases ha:acc.length=8
    ·rw [if_pos ha,if_neg (by simp;omega)]
    ·rw [if_neg ha]
     by_cases hb:acc.length+(n::x).length+y.length≤8
     ·rw [if_pos hb,if_pos (by simp at hb ⊢;omega)]
      simp only [List.append_assoc,List.cons_append,List.nil_append,List.length_cons,List.length_append,List.length_nil]
      refine congrArg some (congrArg (Prod.mk _) ?_)
      omega
     ·rw [if_neg hb,if_neg (by simp at hb ⊢;omega)]
theorem QrY{acc:List Nat}(h8:acc.length≤8){p:List UInt8}{r2:List UInt8}{n:Nat}(h:Hex.read (bs p)=some n):after acc (p::[]::QM 58 r2)=if acc.length=8 then none else if r2=[] then some (acc++[n],((acc++[n]).length:Int)) else (lst true (QM 58 r2)).bind fun y=>Ql1 (acc++[n]) y ((acc++[n]).length:Int):=by
 have hne:=Qdn 58 r2
 have e0:spl (p::[]::QM 58 r2)=some ([p],QM 58 r2):=by
  rw [spl,if_pos];rfl
  refine ⟨rfl,?_⟩
  cases hp:QM 58 r2 with
  | nil=>exact absurd hp hne
  | cons a b=>simp
 have el:lst false [p]=some [n]:=by rw [lst,h];rfl
 unfold after
 simp only [e0,el,Option.bind_some]
 unfold QiG
 by_cases h0:r2=[]
 ·subst h0
  have e:QM 58 []=[[]]:=rfl
  simp only [e,if_true,Option.bind_some]
  by_cases ha:acc.length=8
  ·rw [if_pos ha,if_neg (by simp;omega)]
  ·rw [if_neg ha]
   rw [if_pos (by simp;omega)];simp
 ·rw [if_neg (fun e=>h0 ((Qe5 r2).1 e)),if_neg h0]
  cases hl:lst true (QM 58 r2) with
  | none=>simp
  | some y =>
   simp only [Option.bind_some]
   unfold Ql1
   by_cases ha:acc.length=8
   ·rw [if_pos ha,if_neg (by simp;omega)]
   ·rw [if_neg ha]
    by_cases hb:acc.length+[n].length+y.length≤8
    ·rw [if_pos hb,if_pos (by simp at hb ⊢;omega)];simp
    ·rw [if_neg hb,if_neg (by simp at hb ⊢;omega)]
theorem QtT{R:ByteArray→QF→Option (Bool×QF)}(hR:Qwc R):∀ (k:Nat) (l:List UInt8) (acc:List Nat),l.length≤k→l.length<1000000→acc.length≤8 →
  Res (R (bs l) (rd acc (-1))) (after acc (QM 58 l)):=by
 intro k
 induction k with
 | zero =>
  intro l acc hk hb h8
  obtain rfl:l=[]:=List.eq_nil_of_length_eq_zero (by omega)
  have hc:=QeH [] 58 (fun x h=>by cases h)
  rw [show ((58:UInt8).toNat:Int)=58 from rfl] at hc
  rw [hR,hc,Qa]
  exact Qjl (tail_ok h8 (-1) [] (by simp))
 | succ k ih =>
  intro l acc hk hb h8
  rcases QdA 58 l with h | ⟨p,r,rfl,h⟩
  ·have hc:=QeH l 58 h
   rw [show ((58:UInt8).toNat:Int)=58 from rfl] at hc
   rw [hR,hc,Qa,Qcc _ _ h]
   exact Qjl (tail_ok h8 (-1) l hb)
  ·have hlen:(p++58::r).length=p.length+(r.length+1):=by simp
   obtain ⟨c1,c2,_,c4⟩:=Qvi hR (acc:=acc) (-1) p r h (by omega)
   have hne:=Qdn 58 r
   rw [Qbp 58 r p h]
   cases hr:Hex.read (bs p) with
   | none=>rw [QpR hne hr];exact c1 (.inl hr)
   | some n =>
    by_cases hrc:∃ r2,r=58::r2
    ·obtain ⟨r2,hr2⟩:=hrc
     subst hr2
     rw [QcE,QrY h8 hr]
     by_cases ha:acc.length=8
     ·rw [if_pos ha];exact c1 (.inr ha)
     ·rw [if_neg ha,c4 n r2 hr (by omega) rfl (by omega)]
      by_cases h0:r2=[]
      ·rw [if_pos h0,if_pos h0];rfl
      ·rw [if_neg h0,if_neg h0]
       exact Qqm hR _ (by omega) r2.length r2 (acc++[n]) (Nat.le_refl _) (by simp only [List.length_append,List.length_cons] at hb;omega) (by simp;omega)
    ·rw [QpQ hr (fun hc=>hrc ((QfN r).1 hc))]
     by_cases ha:acc.length=8
     ·rw [if_pos ha];exact c1 (.inr ha)
     ·rw [if_neg ha,c2 n hr (by omega) fun r2 e=>hrc ⟨r2,e⟩]
      exact ih r (acc++[n]) (by omega) (by omega) (by simp;omega)
def Qmt(l:List UInt8):Option (List Nat×Int):=if QkW l=true then (if l.drop 2=[] then some ([],0) else (lst true (QM 58 (l.drop 2))).bind fun x=>Ql1 [] x 0) else after [] (QM 58 l)
theorem QtV(l:List UInt8)(hb:l.length<1000000):Res (Qag (rd [] (-1)) (bs l)) (Qmt l):=by
 unfold Qag Qmt
 rw [pre2,Qa]
 by_cases hc:QkW l=true
 ·obtain ⟨r,rfl⟩:=(Qhf l).1 hc
  have hg:(0:Int)≤2∧2≤((bs (58::58::r)).size:Int)∧((bs (58::58::r)).size:Int)≤((bs (58::58::r)).size:Int):=by
   rw [QT,List.length_cons,List.length_cons];omega
  have hx:(bs (58::58::r)).extract (Int.toNat 2) (Int.toNat ((bs (58::58::r)).size:Int))=bs r:=by
   rw [Int.toNat_natCast,Qcn,QT,List.take_of_length_le (Nat.le_refl _)];rfl
  rw [if_pos hc,if_pos hc,if_pos hg,hx]
  show Res (if seq (bs r) (⟨#[]⟩:ByteArray)=true then _ else _) (if r=[] then _ else _)
  by_cases h0:r=[]
  ·subst h0
   rw [if_pos rfl,if_pos ((Qiz []).2 rfl)];rfl
  ·rw [if_neg h0,if_neg (fun e=>h0 ((Qiz r).1 e))]
   exact Qtj (Qqm Qwy 0 (by omega) r.length r [] (Nat.le_refl _) (by simp only [List.length_cons] at hb;omega) (by simp))
 ·rw [if_neg hc,if_neg hc]
  exact Qtj (QtT Qwx l.length l [] (Nat.le_refl _) hb (by simp))
def fin(q:List Nat×Int):Option (List Nat):=if q.2<0 then (if q.1.length=8 then some q.1 else none) else if q.1.length=8 then none else some (q.1.take q.2.toNat++(List.replicate (8-q.1.length) 0++q.1.drop q.2.toNat))
theorem Qit{acc l:List Nat}{gp:Int}{q:List Nat×Int}(h:Ql1 acc l gp=some q):q.1.length≤8∧q.2=gp:=by
 unfold Ql1 at h
 split at h
 ·cases h;simp;omega
 ·cases h
theorem Qsr{l:List UInt8}{q:List Nat×Int}(h:Qmt l=some q):q.1.length≤8∧q.2≤q.1.length:=by
 unfold Qmt at h
 split at h
 ·split at h
  ·cases h;simp
  ·obtain ⟨x,_,h⟩:=Option.bind_eq_some_iff.1 h
   have:=Qit h
   omega
 ·unfold after at h
  split at h
  ·obtain ⟨x,_,h⟩:=Option.bind_eq_some_iff.1 h
   have:=Qit h
   omega
  ·obtain ⟨x,_,h⟩:=Option.bind_eq_some_iff.1 h
   obtain ⟨y,_,h⟩:=Option.bind_eq_some_iff.1 h
   split at h
   ·cases h;simp at *;omega
   ·cases h
theorem Qva:∀ {ps:List (List UInt8)} {a b:List (List UInt8)},spl ps=some (a,b)→a≠[]
 | [],_,_,h=>by cases h
 | p::r,a,b,h=>by
  obtain ⟨t,rfl⟩:=Qn7 h
  simp
theorem Qo5{l:List UInt8}{b:List (List UInt8)}(h:spl (QM 58 l)=some ([[]],b)):QkW l=true:=by
 have hne:=Qdn 58 l
 cases hp:QM 58 l with
 | nil=>exact absurd hp hne
 | cons p r =>
  rw [hp,spl] at h
  split at h
  ·next hc =>
   simp only [Option.some.injEq,Prod.mk.injEq,List.cons.injEq,and_true] at h
   obtain ⟨rfl,_⟩:=h
   obtain ⟨l2,rfl⟩:=(QfN l).1 ⟨by rw [hp];rfl,by rw [hp];simp;omega⟩
   rw [QcE] at hp
   obtain rfl:=(List.cons.inj hp).2
   obtain ⟨l3,rfl⟩:=(QfN l2).1 hc
   rfl
  ·cases hs:spl r with
   | none=>rw [hs] at h;cases h
   | some q =>
    rw [hs] at h
    simp only [Option.map_some,Option.some.injEq,Prod.mk.injEq,List.cons.injEq] at h
    obtain ⟨a,b'⟩:=q
    exact absurd h.1.2 (Qva hs)
theorem QkS(l:List UInt8):parseL l=(Qmt l).bind fin:=by
 unfold Qmt
 by_cases hc:QkW l=true
 ·obtain ⟨r,rfl⟩:=(Qhf l).1 hc
  rw [if_pos hc]
  have hne:=Qdn 58 r
  have e0:spl (QM 58 (58::58::r))=some ([[]],QM 58 r):=by
   rw [QcE,QcE,spl,if_pos];rfl
   refine ⟨rfl,?_⟩
   cases hp:QM 58 r with
   | nil=>exact absurd hp hne
   | cons a b=>simp
  have e1:QiG false [[]]=some []:=rfl
  unfold parseL
  simp only [e0,e1,Option.bind_some]
  show _=(if r=[] then _ else (lst true (QM 58 r)).bind _:Option (List Nat×Int)).bind fin
  by_cases h0:r=[]
  ·subst h0;rfl
  ·rw [if_neg h0]
   unfold QiG
   rw [if_neg (fun e=>h0 ((Qe5 r).1 e))]
   cases hl:lst true (QM 58 r) with
   | none=>rfl
   | some y =>
    simp only [Option.bind_some]
    unfold Ql1
    by_cases h7:y.length≤7
    ·rw [if_pos (by simp;omega),if_pos (by simp;omega)]
     show _=fin (y,0)
     unfold fin
     simp only [Int.lt_irrefl,if_false]
     rw [if_neg (by omega)]
     simp
    ·rw [if_neg (by simp;omega)]
     by_cases h8:y.length=8
     ·rw [if_pos (by simp;omega)]
      show _=fin (y,0)
      unfold fin
      simp only [Int.lt_irrefl,if_false]
      rw [if_pos h8]
     ·rw [if_neg (by simp;omega)];rfl
 ·rw [if_neg hc]
  unfold parseL after
  cases hs:spl (QM 58 l) with
  | none =>
   simp only
   cases hl:lst true (QM 58 l) with
   | none=>rfl
   | some x =>
    simp only [Option.bind_some]
    unfold Ql1
    by_cases h8:x.length=8
    ·rw [if_pos h8,if_pos (by simp;omega)]
     show _=fin (x,-1)
     unfold fin
     rw [if_pos (by show (-1:Int)<0;omega),if_pos h8]
    ·rw [if_neg h8]
     by_cases h9:x.length≤8
     ·rw [if_pos (by simp;omega)]
      show _=fin (x,-1)
      unfold fin
      rw [if_pos (by show (-1:Int)<0;omega),if_neg h8]
     ·rw [if_neg (by simp;omega)];rfl
  | some q =>
   obtain ⟨a,b⟩:=q
   simp only
   have ea:QiG false a=lst false a:=by
    unfold QiG
    rw [if_neg]
    intro e;subst e
    exact hc (Qo5 hs)
   rw [ea]
   cases hl:lst false a with
   | none=>rfl
   | some x =>
    simp only [Option.bind_some]
    cases hl2:QiG true b with
    | none=>rfl
    | some y =>
     simp only [Option.bind_some,List.nil_append,List.length_nil,Nat.zero_add]
     by_cases h8:x.length+y.length≤8
     ·rw [if_pos h8]
      show _=fin (x++y,((x.length:Nat):Int))
      unfold fin
      simp only [Int.toNat_natCast,List.take_left',List.drop_left',List.length_append]
      rw [if_neg (show ¬ ((x.length:Nat):Int)<0 by omega)]
      by_cases h7:x.length+y.length≤7
      ·rw [if_pos h7,if_neg (by omega),Nat.sub_sub]
      ·rw [if_neg h7,if_pos (by omega)]
     ·rw [if_neg h8,if_neg (by omega)];rfl
theorem Qls(G:List Nat)(k:Nat):(ns G).take k=ns (G.take k):=by unfold ns;rw [List.map_take]
theorem Qlt(G:List Nat)(k:Nat):(ns G).drop k=ns (G.drop k):=by unfold ns;rw [List.map_drop]
theorem Qh6(G H:List Nat):ns (G++H)=ns G++ns H:=by unfold ns;rw [List.map_append]
theorem Qqe{G:List Nat}{gp:Int}(h8:G.length≤8)(hg:gp≤G.length)(hg1 : -1≤gp):∃ v,Qcz (rd G gp)=some (v,(fin (G,gp)).isSome,rd G gp)∧∀ K,fin (G,gp)=some K→v=gv K∧K.length=8:=by
 unfold Qcz fin
 show ∃ v,(if decide (gp<0)=true then some (gv G,((G.length:Int)==8),rd G gp) else if ((G.length:Int)==8)=true then some (gv G,false,rd G gp) else _)=_∧_
 by_cases hn:gp<0
 ·rw [if_pos (decide_eq_true hn)]
  simp only [hn,if_true]
  by_cases h:G.length=8
  ·rw [if_pos h]
   exact ⟨gv G,by rw [h];rfl,fun K hK=>by cases hK;exact ⟨rfl,h⟩⟩
  ·rw [if_neg h]
   have e:((G.length:Int)==8)=false:=by rw [beq_eq_false_iff_ne];omega
   exact ⟨gv G,by rw [e];rfl,fun K hK=>by cases hK⟩
 ·rw [if_neg (by rw [decide_eq_true_eq];exact hn)]
  simp only [hn,if_false]
  by_cases h:G.length=8
  ·rw [if_pos h]
   have e:((G.length:Int)==8)=true:=by rw [h];rfl
   exact ⟨gv G,by rw [e];rfl,fun K hK=>by cases hK⟩
  ·rw [if_neg h]
   have e:((G.length:Int)==8)=false:=by rw [beq_eq_false_iff_ne];omega
   rw [e,if_neg Bool.false_ne_true]
   obtain ⟨g,rfl⟩:=Int.eq_ofNat_of_zero_le (show 0≤gp by omega)
   have hgl:g≤G.length:=by omega
   have w1:wr .i64 (8-(G.length:Int))=((8-G.length:Nat):Int):=by rw [QX (by omega) (by omega)];omega
   have w2:wr .i64 (((8-G.length:Nat):Int)+(g:Int))=((8-G.length+g:Nat):Int):=by rw [QX (by omega) (by omega)];omega
   show ∃ v,(if (0:Int)≤0∧(0:Int)≤(g:Int)∧(g:Int)≤8 then if (0:Int)≤wr .i64 (wr .i64 (8-(G.length:Int))+(g:Int))∧wr .i64 (wr .i64 (8-(G.length:Int))+(g:Int))≤8∧(8:Int)≤8 then if (0:Int)≤(g:Int)∧(g:Int)≤(G.length:Int)∧(G.length:Int)≤8 then some (QdW (QdW (Vector.replicate 8 (0:Int):Vector Int 8) (Int.toNat 0) (List.take (Int.toNat (8-0)) (QdS (Vector.toList (gv G)) 0 (g:Int)))) (Int.toNat (wr .i64 (wr .i64 (8-(G.length:Int))+(g:Int)))) (List.take (Int.toNat (8-wr .i64 (wr .i64 (8-(G.length:Int))+(g:Int)))) (QdS (Vector.toList (gv G)) (g:Int) (G.length:Int))),true,rd G (g:Int)) else none else none else none)=_∧_
   rw [w1,w2,if_pos (by omega),if_pos (by omega),if_pos (by omega)]
   have t1:List.take (Int.toNat (8-0)) (QdS (Vector.toList (gv G)) 0 (g:Int))=ns (G.take g):=by
    unfold QdS
    rw [QeO h8,Int.toNat_natCast,Qls,List.take_append_of_le_length hgl]
    show List.take 8 (ns (G.take g))=_
    exact List.take_of_length_le (by rw [Qdq,List.length_take];omega)
   have t2:List.take (Int.toNat (8-((8-G.length+g:Nat):Int))) (QdS (Vector.toList (gv G)) (g:Int) (G.length:Int))=ns (G.drop g):=by
    unfold QdS
    rw [QeO h8,Int.toNat_natCast,Int.toNat_natCast,Qls,List.take_left' rfl,Qlt]
    exact List.take_of_length_le (by rw [Qdq,List.length_drop];omega)
   rw [t1,t2,Int.toNat_natCast]
   refine ⟨_,rfl,fun K hK=>?_⟩
   cases hK
   have hz:(Vector.replicate 8 (0:Int):Vector Int 8).toList=ns (List.replicate 8 0):=by simp [ns]
   have c1:(QdW (Vector.replicate 8 (0:Int):Vector Int 8) (Int.toNat 0) (ns (G.take g))).toList=ns (G.take g++List.replicate (8-g) 0):=by
    rw [QeI _ _ _ (by rw [Qdq,List.length_take];show 0+_≤8;omega),hz,Qdq,List.length_take,Nat.min_eq_left hgl,Qlt,Qh6]
    show []++ns (G.take g)++ns ((List.replicate 8 0).drop (0+g))=_
    rw [List.nil_append,List.drop_replicate,Nat.zero_add]
   constructor
   ·apply QwD
    rw [QeI _ _ _ (by rw [Qdq,List.length_drop];omega),c1,Qdq,List.length_drop,Qls,Qlt,←Qh6,←Qh6]
    congr 1
    have hA:(G.take g).length=g:=by rw [List.length_take];omega
    have e5:(G.take g++List.replicate (8-g) 0).drop (8-G.length+g+(G.length-g))=[]:=List.drop_eq_nil_of_le (by simp;omega)
    rw [e5,List.append_nil,List.take_append,List.take_of_length_le (by omega),hA,List.take_replicate]
    rw [show min (8-G.length+g-g) (8-g)=8-G.length by omega,Int.toNat_natCast,List.append_assoc]
   ·simp;omega
def v16(m:List UInt8):Vector Int 16:=Qjc 16 (ob m)
theorem QfG{m:List UInt8}(h:m.length=16):(v16 m).toList=ob m:=by
 unfold v16
 rw [Qda 16 _ (by rw [Qa1];omega),List.take_of_length_le (by rw [Qa1];omega)]
theorem QuY{v:Vector Int 16}{m:List UInt8}(h:v.toList=ob m):v=v16 m:=by
 have hl:m.length=16:=by have:=congrArg List.length h;rw [Qa1] at this;simpa using this.symm
 apply Vector.toList_inj.1
 rw [QfG hl,h]
theorem Qef:(Vector.replicate 16 (0:Int):Vector Int 16)=v16 (List.replicate 16 0):=QuY rfl
theorem Qp4{m:List UInt8}(h:m.length=16)(i:Nat)(c:UInt8):Qb2 (v16 m) (i:Int) (c.toNat:Int)=v16 (m.set i c):=by
 apply Vector.toList_inj.1
 rw [Qd4,QfG h,QfG (by simpa using h),Int.toNat_natCast]
 unfold ob
 rw [List.map_set]
theorem Qp5{m:List UInt8}(h:m.length=16)(i:Nat)(c:UInt8)(hc:m[i]? = some c):Qbb (v16 m) (i:Int)=(c.toNat:Int):=by
 unfold Qbb
 rw [QfG h,Int.toNat_natCast,List.getD_eq_getElem?_getD]
 unfold ob
 rw [List.getElem?_map,hc];rfl
theorem set2(A:List UInt8)(k:Nat)(x y:UInt8):((A++List.replicate (k+2) 0).set A.length x).set (A.length+1) y=A++(x::y::List.replicate k 0):=by
 rw [List.set_append_right _ _ (Nat.le_refl _),Nat.sub_self,List.replicate_succ,List.replicate_succ,List.set_cons_zero,List.set_append_right _ _ (by omega),show A.length+1-A.length=1 by omega]
 rfl
theorem QtM(G:List Nat)(i n:Nat)(h:G[i]? = some n):un (G.take (i+1))=un (G.take i)++[UInt8.ofNat (n/256),UInt8.ofNat (n%256)]:=by
 rw [List.take_add_one,h,Qtg];rfl
theorem put2(G:List Nat)(h8:G.length=8)(i n:Nat)(hi:i<8)(h:G[i]? = some n)(hn:n<65536)(x y:Int)(hx:x=((n/256:Nat):Int))(hy:y=((n%256:Nat):Int)) :
  Qb2 (Qb2 (v16 (un (G.take i)++List.replicate (16-2*i) 0)) ((2*i:Nat):Int) x) ((2*i+1:Nat):Int) y=v16 (un (G.take (i+1))++List.replicate (16-2*(i+1)) 0):=by
 have hA:(un (G.take i)).length=2*i:=by rw [un_len,List.length_take];omega
 have e1:((UInt8.ofNat (n/256)).toNat:Int)=((n/256:Nat):Int):=by rw [UInt8.toNat_ofNat',Nat.mod_eq_of_lt (by omega)]
 have e2:((UInt8.ofNat (n%256)).toNat:Int)=((n%256:Nat):Int):=by rw [UInt8.toNat_ofNat',Nat.mod_eq_of_lt (by omega)]
 subst hx hy
 rw [←e1,←e2,Qp4 (by simp [hA];omega),Qp4 (by simp [hA];omega),QtM G i n h,show 16-2*i=(16-2*(i+1))+2 by omega]
 have:=set2 (un (G.take i)) (16-2*(i+1)) (UInt8.ofNat (n/256)) (UInt8.ofNat (n%256))
 rw [hA] at this
 rw [this,List.append_assoc];rfl
theorem QpK{G:List Nat}(h8:G.length=8)(hG:∀ n∈G,n<65536)(b:Bool)(st:QF):∀ (k i:Nat),i+k=8→Qcj.l0 (gv G,b,st) (i:Int) (v16 (un (G.take i)++List.replicate (16-2*i) 0))=some (v16 (un G)):=by
 intro k
 induction k with
 | zero =>
  intro i hi
  obtain rfl:i=8:=by omega
  rw [Qcj.l0.eq_def,if_neg (by decide),List.take_of_length_le (by omega)]
  simp
 | succ k ih =>
  intro i hi
  have hlt:i<8:=by omega
  obtain ⟨n,hn⟩:∃ n,G[i]? = some n:=⟨_,List.getElem?_eq_getElem (by omega)⟩
  have hn6:=hG n (List.mem_of_getElem? hn)
  have w1:wr .i64 (2*(i:Int))=((2*i:Nat):Int):=by rw [QX (by omega) (by omega)];omega
  have w2:wr .i64 (((2*i:Nat):Int)+1)=((2*i+1:Nat):Int):=by rw [QX (by omega) (by omega)];omega
  have w3:wr .i64 ((i:Int)+1)=((i+1:Nat):Int):=by rw [QX (by omega) (by omega)];omega
  have hv:Qbb (gv G) (i:Int)=(n:Int):=QoI h8 i n hn
  rw [Qcj.l0.eq_def,if_pos (decide_eq_true (by omega)),if_pos (by omega),w1,w2,if_pos (by omega),if_pos (by omega),w3]
  show Qcj.l0 (gv G,b,st) _ (Qb2 (Qb2 _ _ (wr .u8 (Qh8 .u16 (Qbb (gv G) (i:Int)) 8))) _ (wr .u8 (Qbb (gv G) (i:Int))))=_
  rw [hv,put2 G h8 i n hlt hn hn6]
  ·exact ih (i+1) (by omega)
  ·rw [show (8:Int)=((8:Nat):Int) from rfl,Qhe .u16 n 8 (by decide),Ql2 (by omega) (by show ((n/256:Nat):Int)<256;omega)]
  ·rw [QhT];omega
theorem Qq0(last:Bool):∀ (ps:List (List UInt8)) (x:List Nat),lst last ps=some x→∀ n∈x,n<65536
 | [],x,h,n,hn=>by cases h;cases hn
 | p::r,x,h,n,hn=>by
  rw [lst] at h
  cases hr:Hex.read (bs p) with
  | some m =>
   rw [hr] at h
   obtain ⟨y,hy,rfl⟩:=Option.map_eq_some_iff.1 h
   rcases List.mem_cons.1 hn with rfl | hn
   ·exact Hex.read_lt _ _ hr
   ·exact Qq0 last r y hy n hn
  | none =>
   rw [hr] at h
   simp only at h
   split at h
   ·next hq =>
    cases h
    obtain ⟨m,hm,hq2,_⟩:=Qha hq.1
    match m,hm with
    | [a,b,c,d],hm =>
     have ha:=a.toNat_lt
     have hb:=b.toNat_lt
     have hc:=c.toNat_lt
     have hd:=d.toNat_lt
     have e0:Qbb (v4 [a,b,c,d]) 0=(a.toNat:Int):=Qc8 hm 0 a rfl
     have e1:Qbb (v4 [a,b,c,d]) 1=(b.toNat:Int):=Qc8 hm 1 b rfl
     have e2:Qbb (v4 [a,b,c,d]) 2=(c.toNat:Int):=Qc8 hm 2 c rfl
     have e3:Qbb (v4 [a,b,c,d]) 3=(d.toNat:Int):=Qc8 hm 3 d rfl
     rw [hq2] at hn
     unfold q2 at hn
     simp only [e0,e1,e2,e3,Int.toNat_natCast,List.mem_cons,List.not_mem_nil,or_false] at hn
     omega
   ·cases h
theorem Qq2{last:Bool}{ps:List (List UInt8)}{x:List Nat}(h:QiG last ps=some x):∀ n∈x,n<65536:=by
 unfold QiG at h
 split at h
 ·cases h;intro n hn;cases hn
 ·exact Qq0 last ps x h
theorem parseL_ok{l:List UInt8}{G:List Nat}(h:parseL l=some G):G.length=8∧∀ n∈G,n<65536:=by
 unfold parseL at h
 split at h
 ·obtain ⟨x,hx,h⟩:=Option.bind_eq_some_iff.1 h
  split at h
  ·next h8=>cases h;exact ⟨h8,Qq0 _ _ _ hx⟩
  ·cases h
 ·obtain ⟨x,hx,h⟩:=Option.bind_eq_some_iff.1 h
  obtain ⟨y,hy,h⟩:=Option.bind_eq_some_iff.1 h
  split at h
  ·cases h
   refine ⟨by simp;omega,fun n hn=>?_⟩
   rcases List.mem_append.1 hn with hn | hn
   ·exact Qq2 hx n hn
   ·rcases List.mem_append.1 hn with hn | hn
    ·have:=List.eq_of_mem_replicate hn;omega
    ·exact Qq2 hy n hn
  ·cases h
def parseV(l:List UInt8):Vector Int 16:=v16 (match parseL l with | some G=>un G | none=>List.replicate 16 0)
theorem colon_parse(l:List UInt8)(hb:l.length<1000000):Qcj (bs l)=some (parseV l,if (parseL l).isSome then 0 else 5):=by
 unfold Qcj parseV
 have h0:({ ({ f_g:=(Vector.replicate 8 (0:Int):(Vector Int 8)),f_n:=(0:Int),f_gap:=(0:Int) }:QF) with f_gap:=(-1) }:QF)=rd [] (-1):=by
  show QF.mk _ _ _=QF.mk _ _ _
  rw [QnJ];rfl
 rw [h0,QkS]
 have hr:=QtV l hb
 cases hq:Qmt l with
 | none =>
  rw [hq] at hr
  obtain ⟨s',hr⟩:=hr
  rw [hr,Qa]
  show (if (!false)=true then _ else _)=_
  rw [if_pos (show (!false)=true from rfl),Qef];rfl
 | some q =>
  obtain ⟨G,gp⟩:=q
  rw [hq] at hr
  have hr':Qag (rd [] (-1)) (bs l)=some (true,rd G gp):=hr
  rw [hr',Qa]
  show (if (!true)=true then _ else _)=_
  obtain ⟨h8,hg⟩:=Qsr hq
  have hg1 : -1≤gp:=by
   unfold Qmt at hq
   split at hq
   ·split at hq
    ·cases hq;omega
    ·obtain ⟨x,_,hq⟩:=Option.bind_eq_some_iff.1 hq
     have:=(Qit hq).2
     simp only at this;omega
   ·unfold after at hq
    split at hq
    ·obtain ⟨x,_,hq⟩:=Option.bind_eq_some_iff.1 hq
     have:=(Qit hq).2
     simp only at this;omega
    ·obtain ⟨x,_,hq⟩:=Option.bind_eq_some_iff.1 hq
     obtain ⟨y,_,hq⟩:=Option.bind_eq_some_iff.1 hq
     split at hq
     ·cases hq;omega
     ·cases hq
  obtain ⟨v,hv,hK⟩:=Qqe h8 hg hg1
  rw [if_neg (by decide)]
  show (Qcz (rd G gp)>>=fun t5=>_)=_
  rw [hv,Qa]
  show (if (!(fin (G,gp)).isSome)=true then _ else _)=some (v16 (match fin (G,gp) with | some K=>un K | none=>List.replicate 16 0),if (fin (G,gp)).isSome=true then 0 else 5)
  cases hf:fin (G,gp) with
  | none =>
   rw [if_pos (show (!(none:Option (List Nat)).isSome)=true from rfl),Qef];rfl
  | some K =>
   obtain ⟨hv2,hK8⟩:=hK K hf
   have hlt:∀ n∈K,n<65536:=(parseL_ok (l:=l) (G:=K) (by rw [QkS,hq];exact hf)).2
   rw [if_neg (show ¬ (!(some K).isSome)=true from Bool.false_ne_true),Qef,hv2]
   have:=QpK hK8 hlt true (rd G gp) 8 0 rfl
   rw [show 16-2*0=16 from rfl,List.take_zero,show un []=[] from rfl,List.nil_append,show ((0:Nat):Int)=0 from rfl] at this
   show (Qcj.l0 (gv K,true,rd G gp) 0 (v16 (List.replicate 16 0))>>=fun q9=>_)=_
   rw [this];rfl
end Go.Proofs.YtnekckhjmnhinaaGreatDoor.Col
namespace Go.Proofs.YtnekckhjmnhinaaGreatDoor.Col
open E Go.RowKit
def QmN:List UInt8→Option (List UInt8×List UInt8)
 | []=>none
 | c::r=>if QkW (c::r)=true then some ([],r.drop 1) else (QmN r).map fun q=>(c::q.1,q.2)
theorem Qru:∀ {l a b:List UInt8},QmN l=some (a,b)→l=a++58::58::b
 | [],_,_,h=>by cases h
 | c::r,a,b,h=>by
  unfold QmN at h
  split at h
  ·next hc =>
   obtain ⟨r2,hr⟩:=(Qhf _).1 hc
   cases h
   rw [hr]
   obtain ⟨_,rfl⟩:=List.cons.inj hr
   rfl
  ·obtain ⟨q,hq,h⟩:=Option.map_eq_some_iff.1 h
   obtain ⟨a',b'⟩:=q
   cases h
   rw [Qru hq];rfl
theorem u8_58(x:UInt8):((x.toNat:Int)==58)=(x==58):=by
 by_cases h:x=58
 ·subst h;rfl
 ·have h2:x.toNat≠58:=fun e=>h (UInt8.toNat_inj.1 e)
  have h3:(x==58)=false:=by simp [h]
  rw [h3,beq_eq_false_iff_ne];omega
theorem QsV(l:List UInt8)(hl:l.length<1000000):∀ (k i:Nat),l.length-i=k→i≤l.length →
  QaH.l0 (bs l) (i:Int)=some (match QmN (l.drop i) with | some (a,_)=>.ret ((i+a.length:Nat):Int) | none=>.nx ()):=by
 intro k
 induction k with
 | zero =>
  intro i hk hi
  have w:wr .i64 ((i:Int)+1)=((i+1:Nat):Int):=by rw [QX (by omega) (by omega)];omega
  rw [QaH.l0.eq_def,w,QT,if_neg (by rw [decide_eq_true_eq];omega),List.drop_eq_nil_of_le (by omega)];rfl
 | succ k ih =>
  intro i hk hi
  have w:wr .i64 ((i:Int)+1)=((i+1:Nat):Int):=by rw [QX (by omega) (by omega)];omega
  obtain ⟨c,hc,hd⟩:=QcC l i (by omega)
  have hbc:bt (bs l) (i:Int)=(c.toNat:Int):=QkE (by rw [QaJ];exact hc)
  have e58:=u8_58
  have hi1:=ih (i+1) (by omega) (by omega)
  rw [QaH.l0.eq_def,w,QT]
  by_cases h1:i+1<l.length
  ·obtain ⟨d,hdd,hd2⟩:=QcC l (i+1) h1
   have hbd:bt (bs l) ((i+1:Nat):Int)=(d.toNat:Int):=QkE (by rw [QaJ];exact hdd)
   rw [if_pos (decide_eq_true (by omega)),if_pos (by omega),hbc,e58,hbd,e58,hd,hi1,hd2]
   unfold QmN
   by_cases hc58:c=58
   ·subst hc58
    rw [if_pos (by rfl),if_pos (by omega)]
    by_cases hd58:d=58
    ·subst hd58
     rw [if_pos (by rfl),if_pos (by rfl)];rfl
    ·have hf:(d==58)=false:=by simp [hd58]
     have hf2:QkW (58::d::l.drop (i+1+1))=false:=by simp [QkW,hd58]
     rw [hf,if_neg Bool.false_ne_true,hf2,if_neg Bool.false_ne_true]
     have e:QmN (d::l.drop (i+1+1))=if QkW (d::l.drop (i+1+1))=true then some ([],(l.drop (i+1+1)).drop 1) else (QmN (l.drop (i+1+1))).map fun q=>(d::q.1,q.2):=rfl
     rw [←e]
     cases hg:QmN (d::l.drop (i+1+1)) with
     | none=>rfl
     | some q=>obtain ⟨a,b⟩:=q;simp;omega
   ·have hf:(c==58)=false:=by simp [hc58]
    have hf2:QkW (c::d::l.drop (i+1+1))=false:=by simp [QkW,hc58]
    rw [hf,if_neg Bool.false_ne_true,hf2,if_neg Bool.false_ne_true]
    have e:QmN (d::l.drop (i+1+1))=if QkW (d::l.drop (i+1+1))=true then some ([],(l.drop (i+1+1)).drop 1) else (QmN (l.drop (i+1+1))).map fun q=>(d::q.1,q.2):=rfl
    rw [←e]
    cases hg:QmN (d::l.drop (i+1+1)) with
    | none=>rfl
    | some q=>obtain ⟨a,b⟩:=q;simp;omega
  ·rw [if_neg (by rw [decide_eq_true_eq];omega),hd,List.drop_eq_nil_of_le (show l.length≤i+1 by omega)]
   rfl
theorem QvK(l:List UInt8)(hl:l.length<1000000):QaH (bs l)=some (match QmN l with | some (a,_)=>(a.length:Int) | none=>-1):=by
 unfold QaH
 have h:=QsV l hl l.length 0 (by omega) (by omega)
 rw [show ((0:Nat):Int)=0 from rfl,List.drop_zero] at h
 rw [h,Qa]
 cases QmN l with
 | none=>rfl
 | some q=>obtain ⟨a,b⟩:=q;simp
theorem QjW{c:UInt8}(hc:c≠58)(r:List UInt8):QM 58 (c::r)=(c::(QM 58 r).headD [])::(QM 58 r).tail:=by rw [QM,if_neg hc]
theorem Qqf:∀ (l:List UInt8),spl (QM 58 l)=(QmN l).map fun q=>(QM 58 q.1,QM 58 q.2)
 | []=>rfl
 | c::r=>by
  have ih:=Qqf r
  have hne:=Qdn 58 r
  unfold QmN
  by_cases hc:c=58
  ·subst hc
   rw [QcE,spl]
   by_cases hr:∃ r2,r=58::r2
   ·rw [if_pos ((QfN r).2 hr),if_pos ((Qhf _).2 (by obtain ⟨r2,h⟩:=hr;exact ⟨r2,by rw [h]⟩))]
    obtain ⟨r2,rfl⟩:=hr
    rw [QcE];rfl
   ·rw [if_neg (fun h=>hr ((QfN r).1 h)),if_neg (fun h=>hr (by obtain ⟨r2,h⟩:=(Qhf _).1 h;exact ⟨r2,(List.cons.inj h).2⟩)),ih]
    cases QmN r with
    | none=>rfl
    | some q=>simp [QcE]
  ·rw [QjW hc]
   have hcc:¬ QkW (c::r)=true:=fun h=>by obtain ⟨r2,h⟩:=(Qhf _).1 h;exact hc (List.cons.inj h).1
   rw [if_neg hcc]
   cases hp:QM 58 r with
   | nil=>exact absurd hp hne
   | cons h t =>
    rw [hp] at ih
    show spl ((c::h)::t)=_
    rw [spl] at ih ⊢
    have key:∀ (q:Option (List UInt8×List UInt8)),(∀ z,q=some z→∃ h' t',QM 58 z.1=h'::t') →
      ((q.map fun q=>(c::q.1,q.2)).map fun q=>(QM 58 q.1,QM 58 q.2))=(q.map fun q=>(QM 58 q.1,QM 58 q.2)).map fun x=>((c::x.1.headD [])::x.1.tail,x.2):=by
     intro q _
     cases q with
     | none=>rfl
     | some z=>simp [QjW hc]
    rw [key _ (fun z _=>by
     have:=Qdn 58 z.1
     cases hz:QM 58 z.1 with
     | nil=>exact absurd hz this
     | cons a b=>exact ⟨a,b,rfl⟩),←ih]
    by_cases hcond:t.head? = some []∧2≤t.length
    ·rw [if_pos hcond,if_pos hcond];rfl
    ·rw [if_neg hcond,if_neg hcond]
     cases spl t with
     | none=>rfl
     | some z=>rfl
theorem QsG{α β:Type}[Inhabited β](f:α→β)(ps:List α)(i:Nat)(p:α)(h:ps[i]? = some p):QO (ps.map f) (i:Int)=f p:=by
 unfold QO
 rw [Int.toNat_natCast,List.getD_eq_getElem?_getD,List.getElem?_map,h];rfl
theorem Qq7(last:Bool)(ps:List (List UInt8))(hps:ps.length<1000000)(hsz:∀ p∈ps,p.length<1000000):∀ (k i:Nat) (acc:List Nat),ps.length-i=k→i≤ps.length→acc.length≤2*i →
  Qaj.l0 last (ps.map bs) (ns acc) (i:Int)=some (match lst last (ps.drop i) with | some x=>.nx (ns (acc++x)) | none=>.ret ([],false)):=by
 intro k
 induction k with
 | zero =>
  intro i acc hk hi ha
  rw [Qaj.l0.eq_def,if_neg (by rw [decide_eq_true_eq];simp;omega),List.drop_eq_nil_of_le (by omega)]
  simp [lst]
 | succ k ih =>
  intro i acc hk hi ha
  have w:wr .i64 ((i:Int)+1)=((i+1:Nat):Int):=by rw [QX (by omega) (by omega)];omega
  obtain ⟨p,hp,hd⟩:=QcC ps i (by omega)
  have hpm:=hsz p (List.mem_of_getElem? hp)
  have hlen:((ps.map bs).length:Int)=(ps.length:Int):=by simp
  have w2:wr .i64 ((ps.length:Int)-1)=(ps.length:Int)-1:=QX (by omega) (by omega)
  rw [Qaj.l0.eq_def,hlen,if_pos (decide_eq_true (by omega)),if_pos (by omega),QsG bs ps i p hp,Hex.refRead_eq,Qa,hd,lst]
  cases hr:Hex.read (bs p) with
  | some n =>
   show (if decide ((n:Int)≥0)=true then _ else _)=_
   rw [if_pos (decide_eq_true (by omega)),if_pos (by rw [Qdq];omega),w]
   have h2:=ih (i+1) (acc++[n]) (by omega) (by omega) (by simp;omega)
   rw [Qh6] at h2
   show Qaj.l0 last (ps.map bs) (ns acc++[(n:Int)]) _=_
   have e:ns [n]=[(n:Int)]:=rfl
   rw [←e,h2]
   simp only
   cases lst last (ps.drop (i+1)) with
   | none=>rfl
   | some x=>simp [Qh6,e]
  | none =>
   show (if decide ((-1:Int)≥0)=true then _ else _)=_
   rw [if_neg (by decide),if_pos (by omega),Qhx p hpm,Qa]
   simp only
   by_cases h0:(Qdj p).2=0
   ·obtain ⟨m,hm,hq,_⟩:=Qha h0
    have hb:((Qr7 (Qdj p)).2 != 0)=false:=by rw [hq];rfl
    rw [hb,if_neg Bool.false_ne_true]
    cases last with
    | false =>
     rw [if_pos (by rfl),if_neg (by simp)]
    | true =>
     rw [if_neg (by decide),w2]
     by_cases hl:i+1<ps.length
     ·rw [if_pos (decide_eq_true (by omega)),if_neg]
      rintro ⟨_,_,h⟩
      have:=congrArg List.length h
      simp at this;omega
     ·have hdn:ps.drop (i+1)=[]:=List.drop_eq_nil_of_le (by omega)
      rw [if_neg (by rw [decide_eq_true_eq];omega),if_pos (by rw [Qdq];omega),if_pos ⟨h0,rfl,hdn⟩,w]
      match m,hm with
      | [a,b,c,d],hm =>
       have la:=a.toNat_lt
       have lb:=b.toNat_lt
       have lc:=c.toNat_lt
       have ld:=d.toNat_lt
       rw [hq]
       have e0:Qbb (v4 [a,b,c,d]) 0=(a.toNat:Int):=Qc8 hm 0 a rfl
       have e1:Qbb (v4 [a,b,c,d]) 1=(b.toNat:Int):=Qc8 hm 1 b rfl
       have e2:Qbb (v4 [a,b,c,d]) 2=(c.toNat:Int):=Qc8 hm 2 c rfl
       have e3:Qbb (v4 [a,b,c,d]) 3=(d.toNat:Int):=Qc8 hm 3 d rfl
       have eq:q2 (v4 [a,b,c,d])=[256*a.toNat+b.toNat,256*c.toNat+d.toNat]:=by unfold q2;rw [e0,e1,e2,e3];rfl
       have g1:∀ x y:Nat,x<256→y<256→wr .i64 (wr .i64 (256*wr .i64 (x:Int))+wr .i64 (y:Int))=((256*x+y:Nat):Int):=by
        intro x y hx hy
        rw [QX (x:=(x:Int)) (by omega) (by omega),QX (x:=(y:Int)) (by omega) (by omega),QX (x:=256*(x:Int)) (by omega) (by omega),QX (by omega) (by omega)];omega
       show Qaj.l0 true (ps.map bs) (ns acc++[wr .i64 (wr .i64 (256*wr .i64 (Qbb (v4 [a,b,c,d]) 0))+wr .i64 (Qbb (v4 [a,b,c,d]) 1)),wr .i64 (wr .i64 (256*wr .i64 (Qbb (v4 [a,b,c,d]) 2))+wr .i64 (Qbb (v4 [a,b,c,d]) 3))]) _=some (Ctl.nx (ns (acc++q2 (v4 [a,b,c,d]))))
       rw [e0,e1,e2,e3,g1 _ _ la lb,g1 _ _ lc ld,eq,Qaj.l0.eq_def,hlen,if_neg (by rw [decide_eq_true_eq];omega),Qh6];rfl
   ·have hb:((Qr7 (Qdj p)).2 != 0)=true:=by rw [bne_iff_ne];show (((Qdj p).2:Nat):Int)≠0;omega
    rw [hb,if_pos rfl,if_neg (fun h=>h0 h.1)]
def liOf(o:Option (List Nat)):List Int×Bool:=match o with
 | some x=>(ns x,true)
 | none=>([],false)
theorem Qnw(l:List UInt8)(last:Bool)(hl:l.length<100000):Qaj (bs l) last=some (liOf (QiG last (QM 58 l))):=by
 unfold Qaj QiG
 by_cases h0:l=[]
 ·subst h0
  rw [if_pos ((Qiz []).2 rfl),if_pos (show QM 58 []=[[]] from rfl)];rfl
 ·rw [if_neg (fun e=>h0 ((Qiz l).1 e)),if_neg (fun e=>h0 ((Qe5 l).1 e))]
  have h58:((58:UInt8).toNat:Int)=58:=rfl
  have hp:=Qei 58 l (by omega)
  rw [h58] at hp
  rw [hp,Qa]
  have:=Qq7 last (QM 58 l) (by have:=Qej 58 l;omega) (fun p hpm=>by have:=QiE 58 l p hpm;omega) (QM 58 l).length 0 [] (by omega) (by omega) (by simp)
  rw [show ns []=([]:List Int) from rfl,show ((0:Nat):Int)=0 from rfl,List.drop_zero] at this
  rw [this,Qa]
  cases lst last (QM 58 l) with
  | none=>rfl
  | some x=>rfl
def Bytes(L:List Int)(R:Int→Vector Int 16→Option (Vector Int 16)):Prop:=∀ i o,R i o=if (decide (i<8))=true then (if (0:Int)≤i∧i<(L.length:Int) then if (0:Int)≤wr .i64 (2*i)∧wr .i64 (2*i)<16 then if (0:Int)≤i∧i<(L.length:Int) then if (0:Int)≤wr .i64 ((wr .i64 (2*i))+1)∧wr .i64 ((wr .i64 (2*i))+1)<16 then R (wr .i64 (i+1)) (Qb2 (Qb2 o (wr .i64 (2*i)) (wr .u8 (wr .i64 (Int.tdiv (QO L i) 256)))) (wr .i64 ((wr .i64 (2*i))+1)) (wr .u8 (Int.tmod (QO L i) 256))) else none else none else none else none) else (some o)
theorem Qmk{R:Int→Vector Int 16→Option (Vector Int 16)}{G:List Nat}(hR:Bytes (ns G) R)(h8:G.length=8)(hG:∀ n∈G,n<65536):∀ (k i:Nat),i+k=8→R (i:Int) (v16 (un (G.take i)++List.replicate (16-2*i) 0))=some (v16 (un G)):=by
 intro k
 induction k with
 | zero =>
  intro i hi
  obtain rfl:i=8:=by omega
  rw [hR,if_neg (by decide),List.take_of_length_le (by omega)]
  simp
 | succ k ih =>
  intro i hi
  have hlt:i<8:=by omega
  obtain ⟨n,hn⟩:∃ n,G[i]? = some n:=⟨_,List.getElem?_eq_getElem (by omega)⟩
  have hn6:=hG n (List.mem_of_getElem? hn)
  have w1:wr .i64 (2*(i:Int))=((2*i:Nat):Int):=by rw [QX (by omega) (by omega)];omega
  have w2:wr .i64 (((2*i:Nat):Int)+1)=((2*i+1:Nat):Int):=by rw [QX (by omega) (by omega)];omega
  have w3:wr .i64 ((i:Int)+1)=((i+1:Nat):Int):=by rw [QX (by omega) (by omega)];omega
  have hv:QO (ns G) (i:Int)=(n:Int):=by unfold QO;rw [Int.toNat_natCast];exact Qos G i n hn
  have hl:((ns G).length:Int)=8:=by rw [Qdq,h8];rfl
  have d1:Int.tdiv (n:Int) 256=((n/256:Nat):Int):=by rw [Int.tdiv_eq_ediv_of_nonneg (by omega)];omega
  have d2:Int.tmod (n:Int) 256=((n%256:Nat):Int):=by rw [Int.tmod_eq_emod_of_nonneg (by omega)];omega
  rw [hR,if_pos (decide_eq_true (by omega)),hl,if_pos (by omega),w1,w2,if_pos (by omega),if_pos (by omega),if_pos (by omega),w3,hv,d1,d2,put2 G h8 i n hlt hn hn6]
  ·exact ih (i+1) (by omega)
  ·rw [QX (by omega) (by omega),Ql2 (by omega) (by omega)]
  ·rw [Ql2 (by omega) (by omega)]
theorem Qv3(L:List Int)(b:Bool):Bytes L fun i o=>QC.l0 (L,b) i o:=fun i o=>by
 show QC.l0 (L,b) i o=_
 rw [QC.l0.eq_def]
theorem Qv2(q y:List Int)(b:Bool):Bytes (q++y) fun i o=>QC.l3 (y,b) q i o:=fun i o=>by
 show QC.l3 (y,b) q i o=_
 rw [QC.l3.eq_def]
theorem Qq1(last:Bool):∀ (ps:List (List UInt8)) (x:List Nat),lst last ps=some x→x.length≤ps.length+1
 | [],x,h=>by cases h;simp
 | p::r,x,h=>by
  rw [lst] at h
  cases hr:Hex.read (bs p) with
  | some m =>
   rw [hr] at h
   obtain ⟨y,hy,rfl⟩:=Option.map_eq_some_iff.1 h
   have:=Qq1 last r y hy
   simp;omega
  | none =>
   rw [hr] at h
   simp only at h
   split at h
   ·cases h;simp [q2]
   ·cases h
theorem QoB{last:Bool}{ps:List (List UInt8)}{x:List Nat}(h:QiG last ps=some x):x.length≤ps.length+1:=by
 unfold QiG at h
 split at h
 ·cases h;simp
 ·exact Qq1 last ps x h
theorem QrI(G:List Nat)(hG:G.length<1000000)(b:Bool):∀ (k i:Nat),G.length-i=k→i≤G.length→QC.l1 (ns G,b) (ns (G.take i)) (i:Int)=some (ns G):=by
 intro k
 induction k with
 | zero =>
  intro i hk hi
  rw [QC.l1.eq_def]
  show (if decide ((i:Int)<((ns G).length:Int))=true then _ else _)=_
  rw [Qdq,if_neg (by rw [decide_eq_true_eq];omega),List.take_of_length_le (by omega)]
 | succ k ih =>
  intro i hk hi
  obtain ⟨n,hn⟩:∃ n,G[i]? = some n:=⟨_,List.getElem?_eq_getElem (by omega)⟩
  have w:wr .i64 ((i:Int)+1)=((i+1:Nat):Int):=by rw [QX (by omega) (by omega)];omega
  have hv:QO (ns G) (i:Int)=(n:Int):=by unfold QO;rw [Int.toNat_natCast];exact Qos G i n hn
  have h2:=ih (i+1) (by omega) (by omega)
  rw [List.take_add_one,hn,Qh6] at h2
  rw [QC.l1.eq_def]
  show (if decide ((i:Int)<((ns G).length:Int))=true then (if (0:Int)≤(i:Int)∧(i:Int)<((ns G).length:Int) then if (ns (G.take i)).length.succ*8≤_ then QC.l1 (ns G,b) (ns (G.take i)++[QO (ns G) (i:Int)]) (wr .i64 ((i:Int)+1)) else none else none) else _)=_
  rw [Qdq,Qdq,if_pos (decide_eq_true (by omega)),if_pos (by omega),if_pos (by rw [List.length_take];omega),hv,w]
  exact h2
theorem QpX(y:List Int)(b:Bool)(hy:y.length≤8):∀ (k:Nat) (G:List Nat),8-(G.length+y.length)=k→G.length≤8→QC.l2 (y,b) (ns G)=some (ns (G++List.replicate (8-(G.length+y.length)) 0)):=by
 intro k
 induction k with
 | zero =>
  intro G hk hG
  rw [QC.l2.eq_def]
  show (if decide (wr .i64 (((ns G).length:Int)+(y.length:Int))<8)=true then _ else _)=_
  rw [Qdq,QX (by omega) (by omega),if_neg (by rw [decide_eq_true_eq];omega),hk]
  simp
 | succ k ih =>
  intro G hk hG
  have h2:=ih (G++[0]) (by simp;omega) (by simp;omega)
  rw [Qh6] at h2
  rw [QC.l2.eq_def]
  show (if decide (wr .i64 (((ns G).length:Int)+(y.length:Int))<8)=true then (if (ns G).length.succ*8≤_ then QC.l2 (y,b) (ns G++[0]) else none) else _)=_
  rw [Qdq,QX (by omega) (by omega),if_pos (decide_eq_true (by omega)),if_pos (by omega)]
  show QC.l2 (y,b) (ns G++ns [0])=_
  rw [h2,List.append_assoc,hk]
  simp only [List.length_append,List.length_cons,List.length_nil]
  rw [show 8-(G.length+(0+1)+y.length)=k by omega,List.replicate_succ]
  rfl
theorem ref_parse(l:List UInt8)(hb:l.length<100000):QC (bs l)=some (parseV l,(parseL l).isSome):=by
 unfold QC parseV
 have hgap:=QvK l (by omega)
 have hspl:=Qqf l
 cases hg:QmN l with
 | none =>
  rw [hg] at hspl
  have hspl':spl (QM 58 l)=none:=hspl
  have hgap':QaH (bs l)=some (-1):=by rw [hgap,hg]
  rw [hgap',Qa]
  show (if decide ((-1:Int)<0)=true then _ else _)=_
  rw [if_pos (by decide),Qnw l true hb,Qa]
  have e:QiG true (QM 58 l)=some []∧l=[]∨QiG true (QM 58 l)=lst true (QM 58 l)∧l≠[]:=by
   unfold QiG
   by_cases h0:l=[]
   ·subst h0;exact .inl ⟨rfl,rfl⟩
   ·exact .inr ⟨if_neg (fun e=>h0 ((Qe5 l).1 e)),h0⟩
  rcases e with ⟨e,h0⟩ | ⟨e,h0⟩
  ·subst h0
   rw [e]
   have e2:parseL []=none:=rfl
   rw [e2]
   show (if (!true)=true then _ else (if ((0:Int) != 8)=true then _ else _))=_
   rw [if_neg (by decide),if_pos (by decide),Qef];rfl
  ·rw [e]
   have e2:parseL l=(lst true (QM 58 l)).bind fun x=>if x.length=8 then some x else none:=by unfold parseL;rw [hspl']
   have hok:∀ {G:List Nat},parseL l=some G→G.length=8∧∀ n∈G,n<65536:=fun h=>parseL_ok h
   rw [e2] at hok ⊢
   cases hl:lst true (QM 58 l) with
   | none =>
    show (if (!false)=true then _ else _)=_
    rw [if_pos (show (!false)=true from rfl),Qef];rfl
   | some x =>
    rw [hl] at hok
    show (if (!true)=true then _ else (if (((ns x).length:Int) != 8)=true then _ else _))=_
    rw [if_neg (by decide),Qdq]
    simp only [Option.bind_some] at hok ⊢
    by_cases h8:x.length=8
    ·have hne:((x.length:Int) != 8)=false:=by rw [h8];rfl
     rw [if_pos h8] at hok ⊢
     have hlt:=(hok rfl).2
     rw [hne,if_neg Bool.false_ne_true,Qef]
     have:=Qmk (Qv3 (ns x) true) h8 hlt 8 0 rfl
     rw [show 16-2*0=16 from rfl,List.take_zero,show un []=[] from rfl,List.nil_append,show ((0:Nat):Int)=0 from rfl] at this
     show (QC.l0 (ns x,true) 0 (v16 (List.replicate 16 0))>>=fun q10=>_)=_
     rw [this];rfl
    ·have hne:((x.length:Int) != 8)=true:=by rw [bne_iff_ne];omega
     rw [hne,if_pos rfl,if_neg h8,Qef];rfl
 | some q =>
  obtain ⟨a,b⟩:=q
  rw [hg] at hspl
  have hspl':spl (QM 58 l)=some (QM 58 a,QM 58 b):=hspl
  have hl:=Qru hg
  have hlen:l.length=a.length+(b.length+2):=by rw [hl];simp
  have hgap':QaH (bs l)=some (a.length:Int):=by rw [hgap,hg]
  rw [hgap',Qa]
  have w2:wr .i64 ((a.length:Int)+2)=((a.length+2:Nat):Int):=by rw [QX (by omega) (by omega)];omega
  have x1:(bs l).extract (Int.toNat 0) (Int.toNat (a.length:Int))=bs a:=by
   rw [Int.toNat_natCast,Qcn,hl,List.take_left' rfl];rfl
  have x2:(bs l).extract (Int.toNat ((a.length+2:Nat):Int)) (Int.toNat ((bs l).size:Int))=bs b:=by
   rw [Int.toNat_natCast,Int.toNat_natCast,Qcn,QT,List.take_of_length_le (Nat.le_refl _),hl,List.drop_append,List.drop_eq_nil_of_le (by omega),show a.length+2-a.length=2 by omega];rfl
  have hsz:(bs l).size=l.length:=QT l
  rw [if_neg (by rw [decide_eq_true_eq];omega),if_pos (by rw [hsz];omega),x1,Qnw a false (by omega),Qa,w2,if_pos (by rw [hsz];omega),x2,Qnw b true (by omega),Qa]
  have e2:parseL l=(QiG false (QM 58 a)).bind fun x=>(QiG true (QM 58 b)).bind fun y=>if x.length+y.length≤7 then some (x++(List.replicate (8-x.length-y.length) 0++y)) else none:=by unfold parseL;rw [hspl']
  have hok:∀ {G:List Nat},parseL l=some G→G.length=8∧∀ n∈G,n<65536:=fun h=>parseL_ok h
  rw [e2] at hok ⊢
  cases hx:QiG false (QM 58 a) with
  | none =>
   show (if (!false)=true then _ else _)=_
   rw [if_pos (show (!false)=true from rfl),Qef];rfl
  | some x =>
   rw [hx] at hok
   cases hy:QiG true (QM 58 b) with
   | none =>
    show (if (!true)=true then _ else (if (!false)=true then _ else _))=_
    rw [if_neg (by decide),if_pos (show (!false)=true from rfl),Qef];rfl
   | some y =>
    rw [hy] at hok
    simp only [Option.bind_some] at hok ⊢
    have hxl:x.length<1000000:=by have:=QoB hx;have:=Qej 58 a;omega
    have hyl:y.length<1000000:=by have:=QoB hy;have:=Qej 58 b;omega
    show (if (!true)=true then _ else (if (!true)=true then _ else (if decide (wr .i64 (((ns x).length:Int)+((ns y).length:Int))>7)=true then _ else _)))=_
    rw [if_neg (by decide),if_neg (by decide),Qdq,Qdq,QX (by omega) (by omega)]
    by_cases h7:x.length+y.length≤7
    ·rw [if_neg (by rw [decide_eq_true_eq];omega)]
     rw [if_pos h7] at hok ⊢
     obtain ⟨h8,hlt⟩:=hok rfl
     have c1:=QrI x hxl true x.length 0 (by omega) (by omega)
     rw [List.take_zero,show ns []=([]:List Int) from rfl,show ((0:Nat):Int)=0 from rfl] at c1
     show (QC.l1 (ns x,true) [] 0>>=fun q37=>QC.l2 (ns y,true) q37>>=fun q55=>_)=_
     rw [c1,Qa,QpX (ns y) true (by rw [Qdq];omega) _ x rfl (by omega),Qa]
     rw [show liOf (some y)=(ns y,true) from rfl,Qdq,Qdq,if_pos (by simp;omega),Qef]
     have b3:=Qv2 (ns (x++List.replicate (8-(x.length+y.length)) 0)) (ns y) true
     have eG:ns (x++List.replicate (8-(x.length+y.length)) 0)++ns y=ns (x++(List.replicate (8-x.length-y.length) 0++y)):=by
      rw [←Qh6,List.append_assoc,Nat.sub_sub]
     rw [eG] at b3
     have:=Qmk b3 h8 hlt 8 0 rfl
     rw [show 16-2*0=16 from rfl,List.take_zero,show un []=[] from rfl,List.nil_append,show ((0:Nat):Int)=0 from rfl] at this
     rw [this];rfl
    ·rw [if_pos (decide_eq_true (by omega)),if_neg h7,Qef];rfl
end Go.Proofs.YtnekckhjmnhinaaGreatDoor.Col
namespace Go.Proofs.YtnekckhjmnhinaaGreatDoor.Col
open E Go.RowKit
theorem Qrr : ∀ (l : List UInt8) (i : Nat) (a b : UInt8), l[2 * i]? = some a → l[2 * i + 1]? = some b → (gr l)[i]? = some (256 * a.toNat + b.toNat)
  | x :: y :: r, 0, a, b, ha, hb => by simp at ha hb; subst ha hb; rfl
  | x :: y :: r, i + 1, a, b, ha, hb => by
    have e1 : 2 * (i + 1) = 2 * i + 1 + 1 := by omega
    have e2 : 2 * (i + 1) + 1 = 2 * i + 1 + 1 + 1 := by omega
    rw [e1] at ha
    rw [e2] at hb
    simp only [List.getElem?_cons_succ] at ha hb
    exact Qrr r i a b ha hb
  | [x], i, a, b, ha, hb => by
    cases i with
    | zero => simp at hb
    | succ i => have : 2 * (i + 1) = (2 * i + 1) + 1 := by omega
                rw [this] at ha; simp at ha
  | [], i, a, b, ha, hb => by simp at ha
theorem QvA(a b:UInt8):Qcp (ob [a,b])=some (((256*a.toNat+b.toNat:Nat):Int),0):=by
 have ha:=a.toNat_lt
 have hb:=b.toNat_lt
 have e1:ior .u64 (Qh9 .u64 0 8) (wr .u64 (a.toNat:Int))=(a.toNat:Int):=by
  rw [QcI (by omega) (by omega),show (8:Int)=((8:Nat):Int) from rfl,show (0:Int)=((0:Nat):Int) from rfl,Qfy .u64 rfl 0 8 (by decide),QhH .u64 rfl _ _ (by decide) (by show _<18446744073709551616;omega)]
  simp
 have e2:ior .u64 (Qh9 .u64 (a.toNat:Int) 8) (wr .u64 (b.toNat:Int))=((256*a.toNat+b.toNat:Nat):Int):=by
  rw [QcI (by omega) (by omega),show (8:Int)=((8:Nat):Int) from rfl,Qfy .u64 rfl a.toNat 8 (by decide)]
  have e:(a.toNat*2 ^ 8)%2 ^ IntKind.u64.bits=a.toNat*256:=by show (a.toNat*256)%18446744073709551616=_;omega
  rw [e,QhH .u64 rfl _ _ (by show _<18446744073709551616;omega) (by show _<18446744073709551616;omega)]
  have h2:=Nat.two_pow_add_eq_or_of_lt (i:=8) (b:=b.toNat) (by simpa using hb) a.toNat
  have e3:2 ^ 8*a.toNat=a.toNat*256:=by omega
  rw [e3] at h2
  rw [←h2,Nat.mul_comm a.toNat 256]
 have l0:QO (ob [a,b]) 0=(a.toNat:Int):=rfl
 have l1:QO (ob [a,b]) 1=(b.toNat:Int):=rfl
 have hl:((ob [a,b]).length:Int)=2:=rfl
 unfold Qcp Qfz
 rw [hl,if_pos (by decide),Qa]
 show (if (!true)=true then _ else _)=_
 rw [if_neg (by decide),Qcp.l0.eq_def,hl,if_pos (by decide),if_pos (by decide),l0,e1,show wr .i64 (0+1)=1 from rfl,Qcp.l0.eq_def,hl,if_pos (by decide),if_pos (by decide),l1,e2,show wr .i64 (1+1)=2 from rfl,Qcp.l0.eq_def,hl,if_neg (by decide),Qa]
theorem QnK{m:List UInt8}(hm:m.length=16):∀ (k i:Nat),i+k=8→Qcd.l0 (v16 m) (i:Int) (gv ((gr m).take i))=some (gv (gr m)):=by
 have hg:(gr m).length=8:=by rw [gr_len,hm]
 intro k
 induction k with
 | zero =>
  intro i hi
  obtain rfl:i=8:=by omega
  rw [Qcd.l0.eq_def,if_neg (by decide),List.take_of_length_le (by omega)]
 | succ k ih =>
  intro i hi
  have w1:wr .i64 (2*(i:Int))=((2*i:Nat):Int):=by rw [QX (by omega) (by omega)];omega
  have w2:wr .i64 (((2*i:Nat):Int)+2)=((2*i+2:Nat):Int):=by rw [QX (by omega) (by omega)];omega
  have w3:wr .i64 ((i:Int)+1)=((i+1:Nat):Int):=by rw [QX (by omega) (by omega)];omega
  obtain ⟨a,ha⟩:∃ a,m[2*i]? = some a:=⟨_,List.getElem?_eq_getElem (by omega)⟩
  obtain ⟨b,hb⟩:∃ b,m[2*i+1]? = some b:=⟨_,List.getElem?_eq_getElem (by omega)⟩
  have hn:=Qrr m i a b ha hb
  have la:=a.toNat_lt
  have lb:=b.toNat_lt
  have hs:QdS (Vector.toList (v16 m)) ((2*i:Nat):Int) ((2*i+2:Nat):Int)=ob [a,b]:=by
   unfold QdS
   rw [QfG hm,Int.toNat_natCast,Int.toNat_natCast]
   unfold ob
   rw [←List.map_take,←List.map_drop]
   congr 1
   rw [List.take_add_one,List.take_add_one,ha,hb]
   have hl:(m.take (2*i)).length=2*i:=by rw [List.length_take];omega
   simp only [Option.toList]
   rw [List.append_assoc,List.drop_left' hl];rfl
  have hi8:((gr m).take i).length=i:=by rw [List.length_take];omega
  rw [Qcd.l0.eq_def,if_pos (decide_eq_true (by omega)),w1,w2,if_pos (by omega),hs,QvA,Qa,if_pos (by omega),w3]
  show Qcd.l0 (v16 m) _ (Qb2 (gv ((gr m).take i)) (i:Int) (wr .u16 ((256*a.toNat+b.toNat:Nat):Int)))=_
  rw [Qn1 (by omega) (by omega)]
  have h2:=Qrp (G:=(gr m).take i) (by omega) (256*a.toNat+b.toNat)
  rw [hi8] at h2
  have h3:=ih (i+1) (by omega)
  rw [List.take_add_one,hn] at h3
  rw [h2];exact h3
theorem Qrq{m:List UInt8}(hm:m.length=16):Qcd (v16 m)=some (gv (gr m)):=by
 unfold Qcd
 have:=QnK hm 8 0 rfl
 rw [List.take_zero,←QnJ,show ((0:Nat):Int)=0 from rfl] at this
 rw [this,Qa]
theorem Qtd{G:List Nat}{i n:Nat}(h:G[i]? = some n):(zp G)[i]? = some (n==0):=by unfold zp;rw [List.getElem?_map,h];rfl
def ii(q:Nat×Nat):Int×Int:=((q.1:Int),(q.2:Int))
theorem QsM(n:Nat):((n:Int) != 0)=!(n==0):=by
 by_cases h:n=0
 ·subst h;rfl
 ·have h2:(n==0)=false:=by simp [h]
  rw [h2]
  have:((n:Int) != 0)=true:=by rw [bne_iff_ne];omega
  rw [this];rfl
theorem QmF{G:List Nat}(h8:G.length=8):∀ (k i p z now:Nat),i+k=8→p≤8→z≤8→now≤i→QbK.l0 (gv G) (p:Int) (z:Int) (now:Int) (i:Int)=some (ii (lgC ((zp G).drop i) i p z now)):=by
 intro k
 induction k with
 | zero =>
  intro i p z now hi hp hz hn
  obtain rfl:i=8:=by omega
  rw [QbK.l0.eq_def,if_neg (by decide),List.drop_eq_nil_of_le (by rw [Qgj];omega)];rfl
 | succ k ih =>
  intro i p z now hi hp hz hn
  obtain ⟨n,hn'⟩:∃ n,G[i]? = some n:=⟨_,List.getElem?_eq_getElem (by omega)⟩
  obtain ⟨c,hc,hd⟩:=QcC (zp G) i (by rw [Qgj];omega)
  rw [Qtd hn'] at hc
  cases hc
  have w1:wr .i64 ((i:Int)+1)=((i+1:Nat):Int):=by rw [QX (by omega) (by omega)];omega
  have w2:wr .i64 ((now:Int)+1)=((now+1:Nat):Int):=by rw [QX (by omega) (by omega)];omega
  have w3:wr .i64 (((i+1:Nat):Int)-((now+1:Nat):Int))=((i+1-(now+1):Nat):Int):=by rw [QX (by omega) (by omega)];omega
  rw [QbK.l0.eq_def,if_pos (decide_eq_true (by omega)),if_pos (by omega),QoI h8 i n hn',QsM,w1,w2,w3,hd,lgC]
  cases hb:(n==0) with
  | false =>
   rw [if_pos (show (!false)=true from rfl),if_pos (show false=false from rfl)]
   exact ih (i+1) p z 0 (by omega) hp hz (by omega)
  | true =>
   rw [if_neg (show ¬ (!true)=true by decide),if_neg (show ¬ true=false by decide)]
   by_cases hg:now+1>z
   ·rw [if_pos (decide_eq_true (by omega)),if_pos hg]
    exact ih (i+1) _ _ _ (by omega) (by omega) (by omega) (by omega)
   ·rw [if_neg (by rw [decide_eq_true_eq];omega),if_neg hg]
    exact ih (i+1) _ _ _ (by omega) hp hz (by omega)
theorem Qpp{G:List Nat}(h8:G.length=8):QbK (gv G)=some (ii (lg (zp G))):=by
 unfold QbK
 have:=QmF h8 8 0 0 0 0 rfl (by omega) (by omega) (by omega)
 rw [List.drop_zero,Qui (by rw [Qgj,h8])] at this
 rw [show (0:Int)=((0:Nat):Int) from rfl,this,Qa]
theorem Qsj(A:List Nat)(hA:∀ n∈A,n<65536)(hl:A.length≤8):∀ (k i:Nat),A.length-i=k→i≤A.length→QcK.l0 (ns A) ((A.take i).map Hex.grp) (i:Int)=some (A.map Hex.grp):=by
 intro k
 induction k with
 | zero =>
  intro i hk hi
  rw [QcK.l0.eq_def,Qdq,if_neg (by rw [decide_eq_true_eq];omega),List.take_of_length_le (by omega)]
 | succ k ih =>
  intro i hk hi
  obtain ⟨n,hn⟩:∃ n,A[i]? = some n:=⟨_,List.getElem?_eq_getElem (by omega)⟩
  have w:wr .i64 ((i:Int)+1)=((i+1:Nat):Int):=by rw [QX (by omega) (by omega)];omega
  have hv:QO (ns A) (i:Int)=(n:Int):=by unfold QO;rw [Int.toNat_natCast];exact Qos A i n hn
  have h2:=ih (i+1) (by omega) (by omega)
  rw [List.take_add_one,hn,List.map_append] at h2
  rw [QcK.l0.eq_def,Qdq,if_pos (decide_eq_true (by omega)),if_pos (by omega),hv,Hex.group_eq n (hA n (List.mem_of_getElem? hn)),Qa,if_pos (by rw [List.length_map,List.length_take];omega),w]
  exact h2
theorem Qoc:∀ (A:List Nat),[58].intercalate (A.map g1)=rowL A
 | []=>rfl
 | [n]=>by simp [List.intercalate,rowL]
 | n::m::r=>by
  have:=Qoc (m::r)
  simp only [List.intercalate,List.map_cons,List.intersperse,List.flatten_cons,rowL] at this ⊢
  rw [this];rfl
theorem QrO(A:List Nat):Qdp (A.map Hex.grp) (⟨#[58]⟩:ByteArray)=bs (rowL A):=by
 apply Qde
 rw [QaJ,←Qoc]
 unfold Qdp Lib.join
 simp only [List.map_map]
 rfl
theorem Qqn(A:List Nat)(hA:∀ n∈A,n<65536)(hl:A.length≤8):QcK (ns A)=some (bs (rowL A)):=by
 unfold QcK
 have h:=Qsj A hA hl A.length 0 (by omega) (by omega)
 rw [List.take_zero,List.map_nil,show ((0:Nat):Int)=0 from rfl] at h
 have hs:=QeG A hA
 rw [h,Qa,if_pos (by rw [List.length_map];omega),QrO,if_pos (by rw [QT];omega)]
theorem bs_app(l k:List UInt8):bs l++bs k=bs (l++k):=by apply Qde;rw [Qa0,QaJ,QaJ,QaJ]
theorem text_ok{m:List UInt8}(hm:m.length=16):Qfd (v16 m)=some (bs (textL (gr m))):=by
 have hg:(gr m).length=8:=by rw [gr_len,hm]
 have hlt:=gr_lt m
 have hf:=QlA (z:=zp (gr m)) (by rw [Qgj,hg])
 have hgl:(gv (gr m)).toList=ns (gr m):=by rw [QeO (by omega),hg];simp
 unfold Qfd
 rw [Qrq hm,Qa,Qpp hg,Qa,hgl]
 unfold textL
 generalize lg (zp (gr m))=q at hf
 obtain ⟨p,z⟩:=q
 simp only at hf
 show (if decide ((z:Int)<2)=true then _ else (if (0:Int)≤0∧(0:Int)≤(p:Int)∧(p:Int)≤8 then QcK (QdS (ns (gr m)) 0 (p:Int))>>=fun t8=>if t8.size+(⟨#[58,58]⟩:ByteArray).size≤140737488355328 then if (0:Int)≤wr .i64 ((p:Int)+(z:Int))∧wr .i64 ((p:Int)+(z:Int))≤8∧(8:Int)≤8 then QcK (QdS (ns (gr m)) (wr .i64 ((p:Int)+(z:Int))) 8)>>=fun t11=>if (t8++(⟨#[58,58]⟩:ByteArray)).size+t11.size≤140737488355328 then some ((t8++(⟨#[58,58]⟩:ByteArray))++t11) else none else none else none else none))=some (bs (if z<2 then rowL (gr m) else rowL ((gr m).take p)++58::58::rowL ((gr m).drop (p+z))))
 by_cases h2:z<2
 ·rw [if_pos (decide_eq_true (by omega)),if_pos h2,Qqn _ hlt (by omega)];rfl
 ·have w:wr .i64 ((p:Int)+(z:Int))=((p+z:Nat):Int):=by rw [QX (by omega) (by omega)];omega
  have s1:QdS (ns (gr m)) 0 (p:Int)=ns ((gr m).take p):=by unfold QdS;rw [Int.toNat_natCast,Qls];rfl
  have s2:QdS (ns (gr m)) ((p+z:Nat):Int) 8=ns ((gr m).drop (p+z)):=by
   unfold QdS;rw [Int.toNat_natCast,show Int.toNat 8=8 from rfl,List.take_of_length_le (by rw [Qdq];omega),Qlt]
  have hA:∀ n∈(gr m).take p,n<65536:=fun n hn=>hlt n (List.mem_of_mem_take hn)
  have hB:∀ n∈(gr m).drop (p+z),n<65536:=fun n hn=>hlt n (List.mem_of_mem_drop hn)
  have lA:=QeG _ hA
  have lB:=QeG _ hB
  rw [List.length_take] at lA
  rw [List.length_drop] at lB
  have h58:(⟨#[58,58]⟩:ByteArray)=bs [58,58]:=rfl
  rw [if_neg (by rw [decide_eq_true_eq];omega),if_pos (by omega),s1,Qqn _ hA (by rw [List.length_take];omega),Qa,h58,if_pos (by rw [QT,QT];simp only [List.length_cons,List.length_nil];omega),w,if_pos (by omega),s2,Qqn _ hB (by rw [List.length_drop];omega),Qa,bs_app,if_pos (by rw [QT,QT];simp only [List.length_append,List.length_cons,List.length_nil];omega),bs_app,if_neg h2]
  rw [List.append_assoc];rfl
end Go.Proofs.YtnekckhjmnhinaaGreatDoor.Col
namespace Go.Proofs.YtnekckhjmnhinaaGreatDoor.Col
open E Go.RowKit
theorem Qkt{m:List UInt8}(hm:m.length=16):∀ (k i:Nat),i+k=8→QaN.l0 (v16 m) (i:Int) (gv ((gr m).take i))=some (gv (gr m)):=by
 have hg:(gr m).length=8:=by rw [gr_len,hm]
 intro k
 induction k with
 | zero =>
  intro i hi
  obtain rfl:i=8:=by omega
  rw [QaN.l0.eq_def,if_neg (by decide),List.take_of_length_le (by omega)]
 | succ k ih =>
  intro i hi
  have w1:wr .i64 (2*(i:Int))=((2*i:Nat):Int):=by rw [QX (by omega) (by omega)];omega
  have w2:wr .i64 (((2*i:Nat):Int)+1)=((2*i+1:Nat):Int):=by rw [QX (by omega) (by omega)];omega
  have w3:wr .i64 ((i:Int)+1)=((i+1:Nat):Int):=by rw [QX (by omega) (by omega)];omega
  obtain ⟨a,ha⟩:∃ a,m[2*i]? = some a:=⟨_,List.getElem?_eq_getElem (by omega)⟩
  obtain ⟨b,hb⟩:∃ b,m[2*i+1]? = some b:=⟨_,List.getElem?_eq_getElem (by omega)⟩
  have hn:=Qrr m i a b ha hb
  have la:=a.toNat_lt
  have lb:=b.toNat_lt
  have va:=Qp5 hm (2*i) a ha
  have vb:=Qp5 hm (2*i+1) b hb
  have hi8:((gr m).take i).length=i:=by rw [List.length_take];omega
  have e:wr .i64 (wr .i64 (256*wr .i64 (a.toNat:Int))+wr .i64 (b.toNat:Int))=((256*a.toNat+b.toNat:Nat):Int):=by
   rw [QX (x:=(a.toNat:Int)) (by omega) (by omega),QX (x:=(b.toNat:Int)) (by omega) (by omega),QX (x:=256*(a.toNat:Int)) (by omega) (by omega),QX (by omega) (by omega)];omega
  have h2:=Qrp (G:=(gr m).take i) (by omega) (256*a.toNat+b.toNat)
  rw [hi8] at h2
  have h3:=ih (i+1) (by omega)
  rw [List.take_add_one,hn] at h3
  rw [QaN.l0.eq_def,if_pos (decide_eq_true (by omega)),w1,w2,if_pos (by omega),if_pos (by omega),if_pos (by omega),w3,va,vb,e,h2]
  exact h3
theorem Qmp{m:List UInt8}(hm:m.length=16):QaN (v16 m)=some (gv (gr m)):=by
 unfold QaN
 have:=Qkt hm 8 0 rfl
 rw [List.take_zero,←QnJ,show ((0:Nat):Int)=0 from rfl] at this
 rw [this,Qa]
theorem Qsi{G:List Nat}(h8:G.length=8)(f:Nat)(hf:f≤8):∀ (k i:Nat),f+i+k=8→Qa4.l0 (gv G) (f:Int) (i:Int)=some ((i+QtS ((zp G).drop (f+i)):Nat):Int):=by
 intro k
 induction k with
 | zero =>
  intro i hi
  have w:wr .i64 ((f:Int)+(i:Int))=((f+i:Nat):Int):=by rw [QX (by omega) (by omega)];omega
  rw [Qa4.l0.eq_def,w,if_neg (by rw [decide_eq_true_eq];omega),List.drop_eq_nil_of_le (by rw [Qgj];omega)];rfl
 | succ k ih =>
  intro i hi
  have w:wr .i64 ((f:Int)+(i:Int))=((f+i:Nat):Int):=by rw [QX (by omega) (by omega)];omega
  have w1:wr .i64 ((i:Int)+1)=((i+1:Nat):Int):=by rw [QX (by omega) (by omega)];omega
  obtain ⟨n,hn'⟩:∃ n,G[f+i]? = some n:=⟨_,List.getElem?_eq_getElem (by omega)⟩
  obtain ⟨c,hc,hd⟩:=QcC (zp G) (f+i) (by rw [Qgj];omega)
  rw [Qtd hn'] at hc
  cases hc
  have ez:((n:Int)==0)=(n==0):=by
   by_cases h:n=0
   ·subst h;rfl
   ·have h2:(n==0)=false:=by simp [h]
    rw [h2,beq_eq_false_iff_ne];omega
  rw [Qa4.l0.eq_def,w,if_pos (decide_eq_true (by omega)),if_pos (by omega),QoI h8 (f+i) n hn',ez,w1,hd]
  cases hb:(n==0) with
  | false=>rw [if_neg Bool.false_ne_true];rfl
  | true =>
   rw [if_pos rfl,ih (i+1) (by omega)]
   simp only [QtS]
   rw [show f+(i+1)=f+i+1 by omega]
   congr 2;omega
theorem Qvg{G:List Nat}(h8:G.length=8)(f:Nat)(hf:f≤8):Qa4 (gv G) (f:Int)=some ((QtS ((zp G).drop f):Nat):Int):=by
 unfold Qa4
 have:=Qsi h8 f hf (8-f) 0 (by omega)
 rw [show ((0:Nat):Int)=0 from rfl,Nat.zero_add,Nat.add_zero] at this
 rw [this,Qa]
theorem Qml{G:List Nat}(h8:G.length=8):∀ (k i p z:Nat),i+k=8→QaE.l0 (gv G) (p:Int) (z:Int) (i:Int)=some (ii (lgR ((zp G).drop i) i p z)):=by
 intro k
 induction k with
 | zero =>
  intro i p z hi
  obtain rfl:i=8:=by omega
  rw [QaE.l0.eq_def,if_neg (by decide),List.drop_eq_nil_of_le (by rw [Qgj];omega)];rfl
 | succ k ih =>
  intro i p z hi
  have w1:wr .i64 ((i:Int)+1)=((i+1:Nat):Int):=by rw [QX (by omega) (by omega)];omega
  obtain ⟨c,hc,hd⟩:=QcC (zp G) i (by rw [Qgj];omega)
  rw [QaE.l0.eq_def,if_pos (decide_eq_true (by omega)),Qvg h8 i (by omega),Qa,Qa,w1,hd,lgR]
  by_cases hg:QtS (c::(zp G).drop (i+1))>z
  ·rw [if_pos (decide_eq_true (by omega)),if_pos hg]
   exact ih (i+1) _ _ (by omega)
  ·rw [if_neg (by rw [decide_eq_true_eq];omega),if_neg hg]
   exact ih (i+1) _ _ (by omega)
theorem Qmh:∀ (A:List Nat) (n:Nat),rowL (A++[n])=if A=[] then g1 n else rowL A++58::g1 n
 | [],n=>rfl
 | [a],n=>by rw [if_neg (by simp)];rfl
 | a::b::r,n=>by
  have:=Qmh (b::r) n
  rw [if_neg (by simp)] at this ⊢
  show g1 a++58::rowL ((b::r)++[n])=_
  rw [this,rowL]
  simp
theorem Qv4(n:Nat):Hex.grp n=bs (g1 n):=QsX _
theorem Qnh{G:List Nat}(h8:G.length=8)(hlt:∀ n∈G,n<65536)(f t:Nat)(ht:t≤8):∀ (k i:Nat),i+k=t→f≤i→Qar.l0 (gv G) (f:Int) (t:Int) (bs (rowL ((G.take i).drop f))) (i:Int)=some (bs (rowL ((G.take t).drop f))):=by
 intro k
 induction k with
 | zero =>
  intro i hi hf
  obtain rfl:i=t:=by omega
  rw [Qar.l0.eq_def,if_neg (by rw [decide_eq_true_eq];omega)]
 | succ k ih =>
  intro i hi hf
  obtain ⟨n,hn⟩:∃ n,G[i]? = some n:=⟨_,List.getElem?_eq_getElem (by omega)⟩
  have hn6:=hlt n (List.mem_of_getElem? hn)
  have hgl:=Qrv n hn6
  have w1:wr .i64 ((i:Int)+1)=((i+1:Nat):Int):=by rw [QX (by omega) (by omega)];omega
  have h3:=ih (i+1) (by omega) (by omega)
  rw [List.take_add_one,hn,List.drop_append_of_le_length (by rw [List.length_take];omega)] at h3
  have h3':=h3
  rw [show (some n).toList=[n] from rfl,Qmh] at h3
  have hsz:=QeG ((G.take i).drop f) fun x hx=>hlt x (List.mem_of_mem_take (List.mem_of_mem_drop hx))
  have hll:((G.take i).drop f).length=i-f:=by rw [List.length_drop,List.length_take];omega
  rw [hll] at hsz
  have h58:(⟨#[58]⟩:ByteArray)=bs [58]:=rfl
  rw [Qar.l0.eq_def,if_pos (decide_eq_true (by omega)),QoI h8 i n hn,Hex.refGroup_eq n hn6,Qv4,w1,h58]
  by_cases hfi:f<i
  ·have hne:¬ (G.take i).drop f=[]:=fun e=>by have:=congrArg List.length e;rw [hll] at this;simp at this;omega
   rw [if_neg hne] at h3
   rw [if_pos (decide_eq_true (by omega)),if_pos (by rw [QT,QT];simp only [List.length_cons,List.length_nil];omega),if_pos (by omega),Qa,bs_app,if_pos (by rw [QT,QT,List.length_append];simp only [List.length_cons,List.length_nil];omega),bs_app,List.append_assoc]
   exact h3
  ·have he:(G.take i).drop f=[]:=List.eq_nil_of_length_eq_zero (by rw [hll];omega)
   rw [if_pos he] at h3
   rw [if_neg (by rw [decide_eq_true_eq];omega),if_pos (by omega),Qa,if_pos (by rw [QT,QT];omega),bs_app,he]
   exact h3
theorem QjO{G:List Nat}(h8:G.length=8)(hlt:∀ n∈G,n<65536)(f t:Nat)(hf:f≤t)(ht:t≤8):Qar (gv G) (f:Int) (t:Int)=some (bs (rowL ((G.take t).drop f))):=by
 unfold Qar
 have h:=Qnh h8 hlt f t ht (t-f) f (by omega) (Nat.le_refl _)
 have he:(G.take f).drop f=[]:=List.drop_eq_nil_of_le (by rw [List.length_take];omega)
 rw [he] at h
 show (Qar.l0 (gv G) (f:Int) (t:Int) (bs (rowL [])) (f:Int)>>=fun q2=>_)=_
 rw [h,Qa]
theorem refText_ok{m:List UInt8}(hm:m.length=16):QaE (v16 m)=some (bs (textL (gr m))):=by
 have hg:(gr m).length=8:=by rw [gr_len,hm]
 have hlt:=gr_lt m
 have hf:=QlA (z:=zp (gr m)) (by rw [Qgj,hg])
 have hl:=Qml hg 8 0 0 0 rfl
 rw [List.drop_zero,show ((0:Nat):Int)=0 from rfl] at hl
 unfold QaE
 rw [Qmp hm,Qa,hl,Qa]
 unfold textL
 show (if decide (((lg (zp (gr m))).2:Int)<2)=true then _ else Qar (gv (gr m)) 0 ((lg (zp (gr m))).1:Int)>>=fun t14=>if t14.size+(⟨#[58,58]⟩:ByteArray).size≤140737488355328 then Qar (gv (gr m)) (wr .i64 (((lg (zp (gr m))).1:Int)+((lg (zp (gr m))).2:Int))) 8>>=fun t16=>if (t14++(⟨#[58,58]⟩:ByteArray)).size+t16.size≤140737488355328 then some ((t14++(⟨#[58,58]⟩:ByteArray))++t16) else none else none)=_
 generalize lg (zp (gr m))=q at hf
 obtain ⟨p,z⟩:=q
 simp only at hf ⊢
 by_cases h2:z<2
 ·have hr:=QjO hg hlt 0 8 (by omega) (by omega)
  rw [show ((0:Nat):Int)=0 from rfl,show ((8:Nat):Int)=8 from rfl,List.take_of_length_le (by omega),List.drop_zero] at hr
  rw [if_pos (decide_eq_true (by omega)),if_pos h2,hr];rfl
 ·have w:wr .i64 ((p:Int)+(z:Int))=((p+z:Nat):Int):=by rw [QX (by omega) (by omega)];omega
  have hA:=QeG ((gr m).take p) fun n hn=>hlt n (List.mem_of_mem_take hn)
  have hB:=QeG ((gr m).drop (p+z)) fun n hn=>hlt n (List.mem_of_mem_drop hn)
  rw [List.length_take] at hA
  rw [List.length_drop] at hB
  have r1:=QjO hg hlt 0 p (by omega) (by omega)
  rw [show ((0:Nat):Int)=0 from rfl,List.drop_zero] at r1
  have r2:=QjO hg hlt (p+z) 8 (by omega) (by omega)
  rw [show ((8:Nat):Int)=8 from rfl,List.take_of_length_le (by omega)] at r2
  have h58:(⟨#[58,58]⟩:ByteArray)=bs [58,58]:=rfl
  rw [if_neg (by rw [decide_eq_true_eq];omega),r1,Qa,h58,if_pos (by rw [QT,QT];simp only [List.length_cons,List.length_nil];omega),w,r2,Qa,bs_app,if_pos (by rw [QT,QT];simp only [List.length_append,List.length_cons,List.length_nil];omega),bs_app,if_neg h2]
  rw [List.append_assoc];rfl
end Go.Proofs.YtnekckhjmnhinaaGreatDoor.Col
namespace Go.Proofs.YtnekckhjmnhinaaGreatDoor.AdrT
open E Go.RowKit
open Adr
def z16:List UInt8:=List.replicate 16 0
def Qid(l:List UInt8):Bool:=l.any (·==58)
theorem Qic(l:List UInt8):Qid l=true↔∃ p r,l=p++58::r∧∀ x∈p,x≠58:=by
 constructor
 ·intro h
  rcases QdA 58 l with h2 | h2
  ·unfold Qid at h
   obtain ⟨x,hx,h3⟩:=List.any_eq_true.1 h
   exact absurd (beq_iff_eq.1 h3) (h2 x hx)
  ·exact h2
 ·rintro ⟨p,r,rfl,_⟩
  unfold Qid;simp
theorem Qj6{l:List UInt8}(h:Qid l=false):∀ x∈l,x≠58:=fun x hx e=>by
 have:=List.any_eq_false.1 h x hx
 subst e;simp at this
theorem unb_ob(l:List UInt8):unb (ob l)=l:=by
 unfold unb ob
 rw [List.map_map]
 conv=>rhs;rw [←List.map_id l]
 apply List.map_congr_left
 intro b _
 show UInt8.ofNat (Int.toNat ((b.toNat:Int)))=b
 rw [Int.toNat_natCast,UInt8.ofNat_toNat]
def QqF(l:List UInt8):Qj×Int:=if (Qdj l).2=0 then (mkA 4 (Qig (unb (Qdj l).1.toList)),0) else (mkA 0 z16,((Qdj l).2:Int))
def Qgi(l:List UInt8):Qj×Int:=if Qid l=true then (match Col.parseL l with | some G=>(mkA 6 (Col.un G),0) | none=>(mkA 0 z16,5)) else QqF l
theorem Qve(m:List UInt8):Qiq (Col.v16 m)=some (mkA 6 m):=rfl
theorem Qus{m:List UInt8}(hm:m.length=4):Qes (v4 m)=some (mkA 4 (Qig m)):=four_eq _ _ (Qfg hm)
theorem Qnk{l:List UInt8}(h:(Qdj l).2=0):∃ m,m.length=4∧(Qdj l).1=v4 m∧unb (Qdj l).1.toList=m∧Qf4 m=l:=by
 obtain ⟨m,hm,hq,ht⟩:=Qha h
 refine ⟨m,hm,by rw [hq],?_,ht⟩
 rw [hq]
 show unb (v4 m).toList=m
 rw [Qfg hm,unb_ob]
theorem QiS(l:List UInt8)(hl:l.length<1000000):Qee (bs l)=some (Qgi l):=by
 unfold Qee Qgi
 have h58:((58:UInt8).toNat:Int)=58:=rfl
 cases hc:Qid l with
 | true =>
  obtain ⟨p,r,he,hp⟩:=(Qic l).1 hc
  have hcut:QcV (bs l) 58=some (bs p,bs r,true):=by
   rw [he,←h58];exact Qii p r 58 hp (by rw [he] at hl;simp at hl;omega)
  rw [hcut,Qa,if_pos rfl,if_pos rfl,Col.colon_parse l hl,Qa]
  unfold Col.parseV
  cases hq:Col.parseL l with
  | none =>
   show (if ((5:Int) != 0)=true then _ else _)=_
   rw [if_pos (by decide),QfZ];rfl
  | some G =>
   show (if ((0:Int) != 0)=true then _ else (Qiq (Col.v16 (Col.un G))>>=fun t7=>some (t7,0)))=_
   rw [if_neg (by decide),Qve,Qa]
 | false =>
  have hcut:=QeH l 58 (Qj6 hc)
  rw [h58] at hcut
  rw [hcut,Qa,if_neg Bool.false_ne_true,if_neg Bool.false_ne_true,QkO l hl,Qa]
  unfold QqF
  by_cases h0:(Qdj l).2=0
  ·obtain ⟨m,hm,hv,hu,_⟩:=Qnk h0
   have hb:((Qr7 (Qdj l)).2 != 0)=false:=by
    show ((((Qdj l).2:Nat):Int) != 0)=false
    rw [h0];rfl
   rw [hb,if_neg Bool.false_ne_true,if_pos h0,hu]
   show (Qes (Qdj l).1>>=fun t11=>some (t11,0))=_
   rw [hv,Qus hm,Qa]
  ·have hb:((Qr7 (Qdj l)).2 != 0)=true:=by rw [bne_iff_ne];show (((Qdj l).2:Nat):Int)≠0;omega
   rw [hb,if_pos rfl,if_neg h0,QfZ];rfl
def ofL(b:List UInt8):Qj×Int:=if b.length=4 then (mkA 4 (Qig b),0) else if b.length=16 then (mkA 6 b,0) else (mkA 0 z16,5)
def Qr0(R:List Int→Int→Qj→Option Qj):Prop:=∀ xs i a,R xs i a=if (decide (i<(xs.length:Int)))=true then (if (0:Int)≤i∧i<(xs.length:Int) then if (0:Int)≤i∧i<16 then R xs (wr .i64 (i+1)) ({ a with f_B:=Qb2 a.f_B i (QO xs i) }) else none else none) else (some a)
theorem QqQ{R:List Int→Int→Qj→Option Qj}(hR:Qr0 R)(V:Int)(b:List UInt8)(hb:b.length≤16):∀ (k i:Nat),i+k=b.length→R (ob b) (i:Int) (mkA V (b.take i++List.replicate (16-i) 0))=some (mkA V (b++List.replicate (16-b.length) 0)):=by
 intro k
 induction k with
 | zero =>
  intro i hi
  rw [hR,Qa1,if_neg (by rw [decide_eq_true_eq];omega),List.take_of_length_le (by omega),show i=b.length by omega]
 | succ k ih =>
  intro i hi
  obtain ⟨c,hc⟩:∃ c,b[i]? = some c:=⟨_,List.getElem?_eq_getElem (by omega)⟩
  have w:wr .i64 ((i:Int)+1)=((i+1:Nat):Int):=by rw [QX (by omega) (by omega)];omega
  have hA:(b.take i).length=i:=by rw [List.length_take];omega
  have hs:(b.take i++List.replicate (16-i) 0).set i c=b.take (i+1)++List.replicate (16-(i+1)) 0:=by
   have:16-i=(16-(i+1))+1:=by omega
   rw [this,List.replicate_succ,List.take_add_one,hc]
   have e:=List.set_append_right (s:=b.take i) (t:=0::List.replicate (16-(i+1)) 0) i c (by omega)
   rw [e,hA,Nat.sub_self]
   simp
  have hg:QO (ob b) (i:Int)=(c.toNat:Int):=Qq8 b i c hc
  rw [hR,Qa1,if_pos (decide_eq_true (by omega)),if_pos (by omega),if_pos (by omega),w,hg]
  show R (ob b) _ (Qj.mk V (Qb2 (vb (b.take i++List.replicate (16-i) 0)) (i:Int) (c.toNat:Int)))=_
  rw [Qm9 (by simp;omega),hs]
  exact ih (i+1) (by omega)
theorem ofl0:Qr0 Qat.l0:=fun xs i a=>Qat.l0.eq_def xs i a
theorem ofl1:Qr0 Qat.l1:=fun xs i a=>Qat.l1.eq_def xs i a
theorem Qvn(b:List UInt8):Qat (ob b)=some ((ofL b).1,decide ((ofL b).2=0)):=by
 unfold Qat ofL
 rw [Qa1]
 have z4:({ ({ f_V:=(0:Int),f_B:=(Vector.replicate 16 (0:Int):(Vector Int 16)) }:Qj) with f_V:=4 }:Qj)=mkA 4 (List.replicate 16 0):=by
  show Qj.mk _ _=Qj.mk _ _
  rw [Qk9]
 have z6:({ { ({ f_V:=(0:Int),f_B:=(Vector.replicate 16 (0:Int):(Vector Int 16)) }:Qj) with f_V:=4 } with f_V:=6 }:Qj)=mkA 6 (List.replicate 16 0):=by
  show Qj.mk _ _=Qj.mk _ _
  rw [Qk9]
 rw [z6,z4,QfZ]
 by_cases h4:b.length=4
 ·have e4:((b.length:Int) != 4)=false:=by rw [h4];rfl
  have e16:((b.length:Int)==16)=false:=by rw [h4];rfl
  have:=QqQ ofl1 4 b (by omega) b.length 0 (by omega)
  rw [List.take_zero,List.nil_append,show ((0:Nat):Int)=0 from rfl,show 16-0=16 from rfl] at this
  rw [e4,if_neg Bool.false_ne_true,e16,if_neg Bool.false_ne_true,Qa,this,Qa,if_pos h4,h4];rfl
 ·have e4:((b.length:Int) != 4)=true:=by rw [bne_iff_ne];omega
  rw [e4,if_pos rfl,if_neg h4]
  by_cases h16:b.length=16
  ·have n16:((b.length:Int) != 16)=false:=by rw [h16];rfl
   have e16:((b.length:Int)==16)=true:=by rw [h16];rfl
   have:=QqQ ofl0 6 b (by omega) b.length 0 (by omega)
   rw [List.take_zero,List.nil_append,show ((0:Nat):Int)=0 from rfl,show 16-0=16 from rfl] at this
   rw [n16,if_neg Bool.false_ne_true,e16,if_pos rfl,Qa,this,Qa,if_pos h16,h16]
   show some (mkA 6 (b++[]),true)=_
   rw [List.append_nil];rfl
  ·have n16:((b.length:Int) != 16)=true:=by rw [bne_iff_ne];omega
   rw [n16,if_pos rfl,if_neg h16];rfl
theorem Qhb(l:List UInt8):(1<(QM 58 l).length)↔Qid l=true:=by
 cases hc:Qid l with
 | true =>
  obtain ⟨p,r,rfl,hp⟩:=(Qic l).1 hc
  rw [Qbp 58 r p hp]
  have:=Qdn 58 r
  cases hq:QM 58 r with
  | nil=>exact absurd hq this
  | cons _ _=>simp
 | false=>rw [Qcc 58 l (Qj6 hc)];simp
theorem Qf3(l:List UInt8)(hl:l.length<100000):QaT (bs l)=some (Qgi l):=by
 unfold QaT Qgi
 have hp:=Qei 58 l (by omega)
 rw [show ((58:UInt8).toNat:Int)=58 from rfl] at hp
 rw [hp,Qa,List.length_map]
 cases hc:Qid l with
 | true =>
  have hm:=(Qhb l).2 hc
  rw [if_pos (decide_eq_true (by omega)),if_pos rfl,Col.ref_parse l hl,Qa]
  unfold Col.parseV
  cases hq:Col.parseL l with
  | none =>
   show (if (!false)=true then _ else _)=_
   rw [if_pos (show (!false)=true from rfl),QfZ];rfl
  | some G =>
   show (if (!true)=true then _ else _)=_
   rw [if_neg (by decide)];rfl
 | false =>
  have hm:¬ 1<(QM 58 l).length:=fun h=>by rw [(Qhb l).1 h] at hc;cases hc
  rw [if_neg (by rw [decide_eq_true_eq];omega),if_neg Bool.false_ne_true,Qhx l (by omega),Qa]
  unfold QqF
  by_cases h0:(Qdj l).2=0
  ·obtain ⟨m,hm,hv,hu,_⟩:=Qnk h0
   have hb:((Qr7 (Qdj l)).2 != 0)=false:=by
    show ((((Qdj l).2:Nat):Int) != 0)=false
    rw [h0];rfl
   rw [hb,if_neg Bool.false_ne_true,if_pos h0,hu]
   show (Qat [Qbb (Qdj l).1 0,Qbb (Qdj l).1 1,Qbb (Qdj l).1 2,Qbb (Qdj l).1 3]>>=fun t13=>some (t13.1,0))=_
   rw [hv]
   match m,hm with
   | [a,b,c,d],hm =>
    have e0:Qbb (v4 [a,b,c,d]) 0=(a.toNat:Int):=Qc8 hm 0 a rfl
    have e1:Qbb (v4 [a,b,c,d]) 1=(b.toNat:Int):=Qc8 hm 1 b rfl
    have e2:Qbb (v4 [a,b,c,d]) 2=(c.toNat:Int):=Qc8 hm 2 c rfl
    have e3:Qbb (v4 [a,b,c,d]) 3=(d.toNat:Int):=Qc8 hm 3 d rfl
    rw [e0,e1,e2,e3]
    show (Qat (ob [a,b,c,d])>>=_)=_
    rw [Qvn];rfl
  ·have hb:((Qr7 (Qdj l)).2 != 0)=true:=by rw [bne_iff_ne];show (((Qdj l).2:Nat):Int)≠0;omega
   rw [hb,if_pos rfl,if_neg h0,QfZ];rfl
def Qk8(V:Int)(l:List UInt8):List UInt8:=if QbW V l=true then (if V=4 then Qf4 (l.take 4) else Col.textL (Col.gr l)) else []
theorem Qm2{V:Int}{l:List UInt8}(hl:l.length=16):Qd3 (mkA V l)=some (bs (Qk8 V l)):=by
 unfold Qd3 Qk8
 rw [right_code hl,Qa]
 cases hr:QbW V l with
 | false=>rfl
 | true =>
  have h4l:(l.take 4).length=4:=by rw [List.length_take];omega
  rw [if_neg (by decide),if_pos rfl]
  by_cases h4:V=4
  ·have e:((mkA V l).f_V==4)=true:=by show (V==4)=true;rw [h4];rfl
   rw [e,if_pos rfl,if_pos h4]
   show (if 4≤(QdS (vb l).toList 0 4).length then (Qdi (Qjc 4 (QdS (vb l).toList 0 4))>>=fun t9=>some t9) else none)=_
   have hv:Qjc 4 (QdS (vb l).toList 0 4)=v4 (l.take 4):=QtK (Qu5 hl)
   rw [if_pos (Ql7 hl),hv,QqD h4l];rfl
  ·have e:((mkA V l).f_V==4)=false:=by rw [beq_eq_false_iff_ne];exact h4
   rw [e,if_neg Bool.false_ne_true,if_neg h4]
   show (Qfd (Col.v16 l)>>=fun t10=>some t10)=_
   rw [Col.text_ok hl];rfl
theorem Qrw{l:List UInt8}(hl:l.length=16):Qb2 (Qb2 (Qb2 (Qb2 (Vector.replicate 4 (0:Int):(Vector Int 4)) 0 (Qbb (vb l) 0)) 1 (Qbb (vb l) 1)) 2 (Qbb (vb l) 2)) 3 (Qbb (vb l) 3)=v4 (l.take 4):=by
 have g0:=QfB hl 0 (by omega)
 have g1:=QfB hl 1 (by omega)
 have g2:=QfB hl 2 (by omega)
 have g3:=QfB hl 3 (by omega)
 rw [show ((0:Nat):Int)=0 from rfl] at g0
 rw [show ((1:Nat):Int)=1 from rfl] at g1
 rw [show ((2:Nat):Int)=2 from rfl] at g2
 rw [show ((3:Nat):Int)=3 from rfl] at g3
 apply QtK
 rw [g0,g1,g2,g3]
 obtain ⟨a,b,c,d,r,rfl⟩:∃ a b c d r,l=a::b::c::d::r:=by
  obtain ⟨a,l1,rfl⟩:=List.exists_cons_of_length_pos (show 0<l.length by omega)
  rw [List.length_cons] at hl
  obtain ⟨b,l2,rfl⟩:=List.exists_cons_of_length_pos (show 0<l1.length by omega)
  rw [List.length_cons] at hl
  obtain ⟨c,l3,rfl⟩:=List.exists_cons_of_length_pos (show 0<l2.length by omega)
  rw [List.length_cons] at hl
  obtain ⟨d,l4,rfl⟩:=List.exists_cons_of_length_pos (show 0<l3.length by omega)
  exact ⟨a,b,c,d,l4,rfl⟩
 have e0:bg (a::b::c::d::r) 0=a.toNat:=rfl
 have e1:bg (a::b::c::d::r) 1=b.toNat:=rfl
 have e2:bg (a::b::c::d::r) 2=c.toNat:=rfl
 have e3:bg (a::b::c::d::r) 3=d.toNat:=rfl
 have et:(a::b::c::d::r).take 4=[a,b,c,d]:=rfl
 rw [e0,e1,e2,e3,et]
 simp only [Qd4]
 rfl
theorem QkI{V:Int}{l:List UInt8}(hl:l.length=16):Qbu (mkA V l)=some (bs (Qk8 V l)):=by
 unfold Qbu Qk8
 rw [QfI hl,Qa]
 cases hr:QbW V l with
 | false=>rfl
 | true =>
  have h4l:(l.take 4).length=4:=by rw [List.length_take];omega
  rw [if_neg (by decide),if_pos rfl]
  rcases Qd6 hr with h6 | ⟨h4,_⟩
  ·subst h6
   rw [if_pos (show ((mkA 6 l).f_V==6)=true from rfl),if_neg (by decide)]
   show (QaE (Col.v16 l)>>=fun t5=>some t5)=_
   rw [Col.refText_ok hl];rfl
  ·subst h4
   have e46:((mkA 4 l).f_V==6)=false:=beq_eq_false_iff_ne.2 (by show (4:Int)≠6;decide)
   rw [e46,if_neg Bool.false_ne_true,if_pos rfl]
   show (QaF (Qb2 (Qb2 (Qb2 (Qb2 (Vector.replicate 4 (0:Int):(Vector Int 4)) 0 (Qbb (vb l) 0)) 1 (Qbb (vb l) 1)) 2 (Qbb (vb l) 2)) 3 (Qbb (vb l) 3))>>=fun t6=>some t6)=_
   rw [Qrw hl,Qmm h4l];rfl
theorem Qgc(n:Nat):∀ x∈Lib.decDigits n,x≠58:=fun x hx=>by
 have:=QdG.1 (List.all_eq_true.1 (QdN n) x hx)
 intro e;subst e
 have:(58:UInt8).toNat=58:=rfl
 omega
theorem Qh0{m:List UInt8}(hm:m.length=4):Qid (Qf4 m)=false:=by
 cases h:Qid (Qf4 m) with
 | false=>rfl
 | true =>
  exfalso
  unfold Qid at h
  obtain ⟨x,hx,h3⟩:=List.any_eq_true.1 h
  have h58:=beq_iff_eq.1 h3
  match m,hm with
  | [a,b,c,d],_ =>
   have hx':x∈Lib.decDigits a.toNat++46::(Lib.decDigits b.toNat++46::(Lib.decDigits c.toNat++46::Lib.decDigits d.toNat)):=hx
   simp only [List.mem_append,List.mem_cons] at hx'
   rcases hx' with h | h | h | h | h | h | h
   ·exact Qgc _ x h h58
   ·subst h;cases h58
   ·exact Qgc _ x h h58
   ·subst h;cases h58
   ·exact Qgc _ x h h58
   ·subst h;cases h58
   ·exact Qgc _ x h h58
theorem QlI(p r:List UInt8):Qid (p++58::r)=true:=by unfold Qid;simp
theorem QjC{G:List Nat}(h8:G.length=8):Qid (Col.textL G)=true:=by
 unfold Col.textL
 split
 ·match G,h8 with
  | a::b::r,_=>exact QlI _ _
 ·exact QlI _ _
theorem QiW{V:Int}{l:List UInt8}(hl:l.length=16)(hr:QbW V l=true):Qgi (Qk8 V l)=(mkA V l,0):=by
 unfold Qk8 Qgi
 rw [if_pos hr]
 rcases Qd6 hr with h6 | ⟨h4,hlow⟩
 ·subst h6
  have hg:(Col.gr l).length=8:=by rw [Col.gr_len,hl]
  rw [if_neg (show ¬ (6:Int)=4 by decide),QjC hg,if_pos rfl,Col.parse_text _ (Col.gr_lt l) hg]
  show (mkA 6 (Col.un (Col.gr l)),(0:Int))=_
  rw [Col.un_gr l (by omega)]
 ·subst h4
  have h4l:(l.take 4).length=4:=by rw [List.length_take];omega
  rw [if_pos rfl,Qh0 h4l,if_neg Bool.false_ne_true]
  unfold QqF
  rw [Qpe h4l]
  show (if (0:Nat)=0 then (mkA 4 (Qig (unb (v4 (l.take 4)).toList)),(0:Int)) else _)=_
  rw [if_pos rfl,Qfg h4l,unb_ob,←(Qj1 hl).1 hlow]
theorem QeD{h:List UInt8}(e:(Qgi h).2=0):∃ V k,(Qgi h).1=mkA V k∧k.length=16∧QbW V k=true:=by
 unfold Qgi at e ⊢
 split at e
 ·next hc =>
  rw [if_pos hc]
  cases hq:Col.parseL h with
  | none=>rw [hq] at e;cases e
  | some G =>
   exact ⟨6,Col.un G,rfl,by rw [Col.un_len,(Col.parseL_ok hq).1],rfl⟩
 ·next hc =>
  rw [if_neg hc]
  unfold QqF at e ⊢
  split at e
  ·next h0 =>
   obtain ⟨m,hm,_,hu,_⟩:=Qnk h0
   rw [if_pos h0,hu]
   have hf:=QmO hm
   refine ⟨4,Qig m,rfl,hf,?_⟩
   unfold QbW
   have hlow:low (Qig m)=true:=(Qj1 hf).2 (by
    unfold Qig
    rw [List.take_left' hm])
   rw [hlow];rfl
  ·next h0 =>
   have:((Qdj h).2:Int)=0:=e
   omega
theorem Qhl{V:Int}{l:List UInt8}(hl:l.length=16):(Qk8 V l).length≤42:=by
 unfold Qk8
 split
 ·split
  ·have:=Qmz (m:=l.take 4) (by rw [List.length_take];omega);omega
  ·exact Col.textL_len _ (Col.gr_lt l) (by rw [Col.gr_len,hl])
 ·simp
end Go.Proofs.YtnekckhjmnhinaaGreatDoor.AdrT
namespace Go.Proofs.YtnekckhjmnhinaaGreatDoor
open E Go.RowKit _root_.Go.Proofs.Tryz
def Qc2(x0:ByteArray)(x1:ByteArray):Option (ByteArray×Bool) :=
 Qbw x0 x1>>=fun t1=>if (!t1)=true then (some (x0,false)) else (if (0:Int)≤(x1.size:Int)∧(x1.size:Int)≤(x0.size:Int)∧(x0.size:Int)≤(x0.size:Int) then some (x0.extract (Int.toNat (x1.size:Int)) (Int.toNat (x0.size:Int)),true) else none)
theorem QfH(x0:ByteArray)(x1:ByteArray)(r:ByteArray×Bool)(hF:Qc2 x0 x1=some r)(w:World) :
    Calls Tryz.prog 182 #[.string x0,.string x1] w (fun e w'=>e=.returned (.tuple #[.string r.1,.bool r.2])∧w'=w):=by
 unfold Qc2 at hF
 refine ce (l:=[.string x0,.string x1]) func182 rfl rfl ?_
 refine sr (aa (aa (nt (qs (sr (am (am ?_)))))))
 obtain ⟨t1,ht1,hF⟩:=bM hF
 refine Qav func162 rfl (by kernel_rfl) rfl rfl (fun w=>Qea _ _ _ ht1 w) ?_
 refine aw (Qcq rfl) ?_
 refine nwq [9,1,0] ?_
 obtain ⟨h2,hF⟩|⟨h2,hF⟩:=oi hF
 ·refine ct h2 ?_
  refine sr (am (aa (aa (nwq [5,4] ?_))))
  refine rt ?_
  have K:=os hF
  subst K
  exact Q6 rfl rfl rfl (fun w1 hw=>⟨rfl,hw⟩)
 refine cf h2 ?_
 refine sns (am (am ?_))
 refine aw (QaR underlying9 rfl) ?_
 obtain ⟨h3,hF⟩:=gd hF
 refine aw (Qbc underlying9 rfl ⟨_,rfl⟩ rfl h3) ?_
 refine aa (aa (nwq [5,4] ?_))
 refine qt ?_
 have K:=os hF
 subst K
 exact Q6 rfl rfl rfl (fun w1 hw=>⟨rfl,hw⟩)
def Qdf(x0:ByteArray)(x1:ByteArray):Option (ByteArray×Bool) :=
 Qc2 x0 x1>>=fun t1=>some (t1.1,t1.2)
theorem Qhm(x0:ByteArray)(x1:ByteArray)(r:ByteArray×Bool)(hF:Qdf x0 x1=some r)(w:World) :
    Calls Tryz.prog 150 #[.string x0,.string x1] w (fun e w'=>e=.returned (.tuple #[.string r.1,.bool r.2])∧w'=w):=by
 unfold Qdf at hF
 refine ce (l:=[.string x0,.string x1]) func150 rfl rfl ?_
 refine sr (aa (aa (ns (am (am ?_)))))
 obtain ⟨t1,ht1,hF⟩:=bM hF
 refine Qav func182 rfl (by kernel_rfl) rfl rfl (fun w=>QfH _ _ _ ht1 w) ?_
 refine aw xe (aw xe (aa (aa (nwq [5,4] ?_))))
 refine qt ?_
 have K:=os hF
 subst K
 exact Q6 rfl rfl rfl (fun w1 hw=>⟨rfl,hw⟩)
def QdL(x0:Qr):Option (Bool) :=
 some (decide (x0=({ f_A:=({ f_V:=(0:Int),f_B:=(Vector.replicate 16 (0:Int):(Vector Int 16)) }:Qj),f_Port:=(0:Int) }:Qr)))
theorem Qgo(x0:Qr)(r:Bool)(hF:QdL x0=some r)(w:World) :
    Calls Tryz.prog 60 #[.agg (Cd.cs Qb x0).toArray] w (fun e w'=>e=.returned (.bool r)∧Below w.heap.size w w'):=by
 unfold QdL at hF
 refine ce (l:=[.agg (Cd.cs Qb x0).toArray]) func60 rfl rfl ?_
 refine QN ?_
 refine sr ?_
 refine Qbv (cs:=Cd.cs Qb x0) rfl rfl rfl ?_
 intro b1
 refine aa (ns ?_)
 refine aw (Qg (c:=Qb) (z:=x0) isAgg57 sizeOf57 rfl (Qp .z lw)) ?_
 refine aw (Qw (zs:=Cd.cs Qb zv9) (cs:=Cd.cs Qb zv9) underlying57 zeroValue57 rfl (Qz) rfl rfl) ?_
 refine aw (QdR (c:=Qb) (a:=x0) (b:=zv9) (QdC) rfl Tryz.eqGuardType57 rfl rfl (.inl rfl) rfl) ?_
 refine aa (qn (dz (wq [2] ?_)))
 refine tn (qt ?_)
 have K:=os hF
 subst K
 exact r1 wb
def QcO(x0:Qr):Option (Bool) :=
 Qdw x0.f_A>>=fun t2=>if t2=true then (if (decide (x0.f_Port≥1))=true then (some (decide (x0.f_Port≤65535))) else (some false)) else (some false)
theorem QfS(x0:Qr)(r:Bool)(hF:QcO x0=some r)(w:World) :
    Calls Tryz.prog 61 #[.agg (Cd.cs Qb x0).toArray] w (fun e w'=>e=.returned (.bool r)∧Below w.heap.size w w'):=by
 unfold QcO at hF
 refine ce (l:=[.agg (Cd.cs Qb x0).toArray]) func61 rfl rfl ?_
 refine QN ?_
 refine sr ?_
 refine Qbv (cs:=Cd.cs Qb x0) rfl rfl rfl ?_
 intro b1
 refine aa (nwx [1] ?_)
 refine fa 0 underlying57 rfl sizeOf55 ?_
 refine aw (Qg (c:=Qd) (z:=x0.f_A) isAgg55 sizeOf55 rfl (Qp .z (Qaf.comp lw (fun z=>{ x0 with f_A:=z }) (Qay x0)))) ?_
 obtain ⟨t2,ht2,hF⟩:=bM hF
 refine cB func92 rfl (fun w hw=>Qer _ _ ht2 w) ?_
 refine am ?_
 obtain ⟨h3,hF⟩|⟨h3,hF⟩:=oi hF
 ·refine fx 6 h3 ?_
  refine gy (fa 17 underlying57 rfl sizeOf3 (gy ?_))
  refine aw (Qe isAgg3 rfl (Qm (c:=(Qv .i64)) (y:=x0.f_Port) .z (Qaf.comp lw (fun z=>{ x0 with f_Port:=z }) (Qaq x0)) rfl)) ?_
  refine gy ?_
  refine aw (QfM rfl rfl) ?_
  refine aw xp (am ?_)
  obtain ⟨h4,hF⟩|⟨h4,hF⟩:=oi hF
  ·refine fx 11 h4 ?_
   refine gy (fa 17 underlying57 rfl sizeOf3 (gy ?_))
   refine aw (Qe isAgg3 rfl (Qm (c:=(Qv .i64)) (y:=x0.f_Port) .z (Qaf.comp lw (fun z=>{ x0 with f_Port:=z }) (Qaq x0)) rfl)) ?_
   refine gy ?_
   refine aw (Qhw rfl rfl) ?_
   refine aw xp (aa (qn (dz (wq [2] ?_))))
   refine tn (qt ?_)
   have K:=os hF
   subst K
   exact r1 wb
  refine fx 11 h4 ?_
  refine gn ?_
  refine gn ?_
  refine gn ?_
  refine aw xp (aa (qn (dz (wq [2] ?_))))
  refine tn (qt ?_)
  have K:=os hF
  subst K
  exact r1 wb
 refine fx 6 h3 ?_
 refine gn ?_
 refine gn ?_
 refine gn ?_
 refine aw xp (am ?_)
 refine gn ?_
 refine gn ?_
 refine gn ?_
 refine aw xp (aa (qn (dz (wq [2] ?_))))
 refine tn (qt ?_)
 have K:=os hF
 subst K
 exact r1 wb
def QdK(x0:Qr):Option (ByteArray) :=
 QcO x0>>=fun t2=>if (!t2)=true then (some (⟨#[]⟩)) else (Qbi (wr .u64 x0.f_Port)>>=fun t4=>Qdv x0.f_A>>=fun t5=>if (decide (t5>32))=true then (Qd3 x0.f_A>>=fun t7=>if (⟨#[91]⟩:ByteArray).size+t7.size≤140737488355328 then if ((⟨#[91]⟩:ByteArray)++t7).size+(⟨#[93,58]⟩:ByteArray).size≤140737488355328 then if (((⟨#[91]⟩:ByteArray)++t7)++(⟨#[93,58]⟩:ByteArray)).size+t4.size≤140737488355328 then some ((((⟨#[91]⟩:ByteArray)++t7)++(⟨#[93,58]⟩:ByteArray))++t4) else none else none else none) else (Qd3 x0.f_A>>=fun t11=>if t11.size+(⟨#[58]⟩:ByteArray).size≤140737488355328 then if (t11++(⟨#[58]⟩:ByteArray)).size+t4.size≤140737488355328 then some ((t11++(⟨#[58]⟩:ByteArray))++t4) else none else none))
theorem Qje(x0:Qr)(r:ByteArray)(hF:QdK x0=some r)(w:World)(hg_strconv_uint64pow10:GV_strconv_uint64pow10 w) :
    Calls Tryz.prog 66 #[.agg (Cd.cs Qb x0).toArray] w (fun e w'=>e=.returned (.string r)∧Below w.heap.size w w'):=by
 unfold QdK at hF
 refine ce (l:=[.agg (Cd.cs Qb x0).toArray]) func66 rfl rfl ?_
 refine QN ?_
 refine sr ?_
 refine Qbv (cs:=Cd.cs Qb x0) rfl rfl rfl ?_
 intro b1
 refine aa (nt (qs (sr ?_)))
 refine aw (Qg (c:=Qb) (z:=x0) isAgg57 sizeOf57 rfl (Qp .z lw)) ?_
 obtain ⟨t2,ht2,hF⟩:=bM hF
 refine cB func61 rfl (fun w hw=>QfS _ _ ht2 w) ?_
 refine aw (Qcq rfl) ?_
 refine nwq [6,1] ?_
 obtain ⟨h3,hF⟩|⟨h3,hF⟩:=oi hF
 ·refine ct h3 ?_
  refine sr (aa (qn (dz (wq [2] ?_))))
  refine tn (rt ?_)
  have K:=os hF
  subst K
  exact r1 wb
 refine cf h3 ?_
 refine sns (fa 17 underlying57 rfl sizeOf3 ?_)
 refine aw (Qe isAgg3 rfl (Qm (c:=(Qv .i64)) (y:=x0.f_Port) .z (Qaf.comp lw (fun z=>{ x0 with f_Port:=z }) (Qaq x0)) rfl)) ?_
 refine aw (QaW underlying3 underlying41 rfl) ?_
 obtain ⟨t4,ht4,hF⟩:=bM hF
 refine cB func28 rfl (fun w hw=>Qb1 _ _ ht4 w (hg_strconv_uint64pow10.on hw.below)) ?_
 refine aa (nt (qs (sr (fa 0 underlying57 rfl sizeOf55 ?_))))
 refine aw (Qg (c:=Qd) (z:=x0.f_A) isAgg55 sizeOf55 rfl (Qp .z (Qaf.comp lw (fun z=>{ x0 with f_A:=z }) (Qay x0)))) ?_
 obtain ⟨t5,ht5,hF⟩:=bM hF
 refine cB func97 rfl (fun w hw=>Qeq _ _ ht5 w) ?_
 refine aw (QbI rfl rfl) ?_
 refine nwq [14,3,1] ?_
 obtain ⟨h6,hF⟩|⟨h6,hF⟩:=oi hF
 ·refine ct h6 ?_
  refine sr (fa 0 underlying57 rfl sizeOf55 ?_)
  refine aw (Qg (c:=Qd) (z:=x0.f_A) isAgg55 sizeOf55 rfl (Qp .z (Qaf.comp lw (fun z=>{ x0 with f_A:=z }) (Qay x0)))) ?_
  obtain ⟨t7,ht7,hF⟩:=bM hF
  refine cB func98 rfl (fun w hw=>Qg2 _ _ ht7 w (hg_strconv_uint64pow10.on hw.below)) ?_
  obtain ⟨h8,hF⟩:=gd hF
  refine aw (Q2 rfl rfl h8) ?_
  obtain ⟨h9,hF⟩:=gd hF
  refine aw (Q2 rfl rfl h9) ?_
  refine am ?_
  obtain ⟨h10,hF⟩:=gd hF
  refine aw (Q2 rfl rfl h10) ?_
  refine aa (qn (dz (wq [2] ?_)))
  refine tn (rt ?_)
  have K:=os hF
  subst K
  exact r1 wb
 refine cf h6 ?_
 refine sns (fa 0 underlying57 rfl sizeOf55 ?_)
 refine aw (Qg (c:=Qd) (z:=x0.f_A) isAgg55 sizeOf55 rfl (Qp .z (Qaf.comp lw (fun z=>{ x0 with f_A:=z }) (Qay x0)))) ?_
 obtain ⟨t11,ht11,hF⟩:=bM hF
 refine cB func98 rfl (fun w hw=>Qg2 _ _ ht11 w (hg_strconv_uint64pow10.on hw.below)) ?_
 obtain ⟨h12,hF⟩:=gd hF
 refine aw (Q2 rfl rfl h12) ?_
 refine am ?_
 obtain ⟨h13,hF⟩:=gd hF
 refine aw (Q2 rfl rfl h13) ?_
 refine aa (qn (dz (wq [2] ?_)))
 refine tn (qt ?_)
 have K:=os hF
 subst K
 exact r1 wb
def QdE(x0:ByteArray):Option (ByteArray×ByteArray×Bool) :=
 Qdf x0 (⟨#[91]⟩:ByteArray)>>=fun t1=>if t1.2=true then (if t1.1.size<4294967281 then if ((Qmb t1.1 (⟨#[93,58]⟩:ByteArray)).2.2)=true then (some ((Qmb t1.1 (⟨#[93,58]⟩:ByteArray)).1,(Qmb t1.1 (⟨#[93,58]⟩:ByteArray)).2.1,decide (0≤Lib.indexByte ((Qmb t1.1 (⟨#[93,58]⟩:ByteArray)).1).data.toList 58))) else (some ((Qmb t1.1 (⟨#[93,58]⟩:ByteArray)).1,(Qmb t1.1 (⟨#[93,58]⟩:ByteArray)).2.1,false)) else none) else (if (0:Int)≤0∧0<((⟨#[58]⟩:ByteArray).size:Int) then QcV x0 (bt (⟨#[58]⟩:ByteArray) 0)>>=fun t6=>some (t6.1,t6.2.1,t6.2.2) else none)
theorem Qib(x0:ByteArray)(r:ByteArray×ByteArray×Bool)(hF:QdE x0=some r)(w:World)(hg_bytealg_MaxLen:GV_bytealg_MaxLen w) :
    Calls Tryz.prog 117 #[.string x0] w (fun e w'=>e=.returned (.tuple #[.string r.1,.string r.2.1,.bool r.2.2])∧Below w.heap.size w w'):=by
 unfold QdE at hF
 refine ce (l:=[.string x0]) func117 rfl rfl ?_
 refine QN ?_
 refine sr (aa (aa (aa (nt (qs (sr (am ?_)))))))
 obtain ⟨t1,ht1,hF⟩:=bM hF
 refine Qav func150 rfl (by kernel_rfl) rfl rfl (fun w=>Qhm _ _ _ ht1 w) ?_
 refine am ?_
 refine aw xe (aw xe (aa (aa (ns (am (nwq [15,5,0] ?_))))))
 obtain ⟨h2,hF⟩|⟨h2,hF⟩:=oi hF
 ·refine ct h2 ?_
  refine sr (am ?_)
  obtain ⟨h3,hF⟩:=gd hF
  refine cB func151 rfl (fun w1 hw=>QuD _ _ h3 w1 (hg_bytealg_MaxLen.on hw.below)) ?_
  refine am ?_
  refine aw xe (aw xe (aw xe (aa (aa (aa (nwx [9,8,7] ?_))))))
  refine am (am (am (am ?_)))
  obtain ⟨h4,hF⟩|⟨h4,hF⟩:=oi hF
  ·refine fx 25 h4 ?_
   refine gy (am (gy ?_))
   refine Qav func152 rfl (by kernel_rfl) rfl rfl (fun w=>Tryz.strings_Contains_one _ _ w) ?_
   refine aw xp (aa (aa (aa (nwq [4,3,2] ?_))))
   refine rt ?_
   have K:=os hF
   subst K
   exact QdO rfl rfl rfl rfl wb
  refine fx 25 h4 ?_
  refine gn ?_
  refine gn ?_
  refine aw xp (aa (aa (aa (nwq [4,3,2] ?_))))
  refine rt ?_
  have K:=os hF
  subst K
  exact QdO rfl rfl rfl rfl wb
 refine cf h2 ?_
 refine sns (am ?_)
 obtain ⟨h5,hF⟩:=gd hF
 refine aw (QaZ underlying9 rfl rfl h5) ?_
 obtain ⟨t6,ht6,hF⟩:=bM hF
 refine cB func148 rfl (fun w hw=>Qeb _ _ _ ht6 w) ?_
 refine aw xe (aw xe (aw xe (aa (aa (aa (nwq [4,3,2] ?_))))))
 refine qt ?_
 have K:=os hF
 subst K
 exact QdO rfl rfl rfl rfl wb
def Qdt(x0:ByteArray):Option (Qr×Int) :=
 QdE x0>>=fun t2=>if (!t2.2.2)=true then (some (({ f_A:=({ f_V:=(0:Int),f_B:=(Vector.replicate 16 (0:Int):(Vector Int 16)) }:Qj),f_Port:=(0:Int) }:Qr),5)) else (Qee t2.1>>=fun t4=>if (t4.2 != 0)=true then (some (({ f_A:=({ f_V:=(0:Int),f_B:=(Vector.replicate 16 (0:Int):(Vector Int 16)) }:Qj),f_Port:=(0:Int) }:Qr),t4.2)) else (QcP t2.2.1 65535>>=fun t7=>if (t7.2 != 0)=true then (some (({ f_A:=({ f_V:=(0:Int),f_B:=(Vector.replicate 16 (0:Int):(Vector Int 16)) }:Qj),f_Port:=(0:Int) }:Qr),t7.2)) else (if (t7.1==0)=true then (some (({ f_A:=({ f_V:=(0:Int),f_B:=(Vector.replicate 16 (0:Int):(Vector Int 16)) }:Qj),f_Port:=(0:Int) }:Qr),6)) else (some ({ { ({ f_A:=({ f_V:=(0:Int),f_B:=(Vector.replicate 16 (0:Int):(Vector Int 16)) }:Qj),f_Port:=(0:Int) }:Qr) with f_A:=t4.1 } with f_Port:=wr .i64 t7.1 },0)))))
theorem QiL(x0:ByteArray)(r:Qr×Int)(hF:Qdt x0=some r)(w:World)(hg_bytealg_MaxLen:GV_bytealg_MaxLen w)(hg_strconv_ErrRange:GV_strconv_ErrRange w)(hg_strconv_ErrSyntax:GV_strconv_ErrSyntax w) :
    Calls Tryz.prog 84 #[.string x0] w (fun e w'=>e=.returned (.tuple #[.agg (Cd.cs Qb r.1).toArray,.int .i64 r.2])∧Below w.heap.size w w'):=by
 unfold Qdt at hF
 refine ce (l:=[.string x0]) func84 rfl rfl ?_
 refine QN ?_
 refine sr ?_
 refine al (cs:=Cd.cs Qb zv9) zeroValue57 ?_
 intro b1
 refine aa (ns (am ?_))
 obtain ⟨t2,ht2,hF⟩:=bM hF
 refine cB func117 rfl (fun w hw=>Qib _ _ ht2 w (hg_bytealg_MaxLen.on hw.below)) ?_
 refine am ?_
 refine aw xe (aw xe (aw xe (aa (aa (aa (nt (qs (sr ?_))))))))
 refine am ?_
 refine aw (Qcq rfl) ?_
 refine nwq [17,5,4,2] ?_
 obtain ⟨h3,hF⟩|⟨h3,hF⟩:=oi hF
 ·refine ct h3 ?_
  refine sr ?_
  refine aw (Qw (zs:=Cd.cs Qb zv9) (cs:=Cd.cs Qb zv9) underlying57 zeroValue57 rfl (Qz) rfl rfl) ?_
  refine Qn (c:=Qb) (z:=zv9) .z lw sizeOf57 rfl rfl rfl ?_
  refine aa (nwq [3,2] ?_)
  refine rt ?_
  have K:=os hF
  subst K
  exact QU rfl (QE (c:=Qb) (y:=zv9) rfl .z lw isAgg57 sizeOf57 (.inl rfl)) (QS rfl) wb
 refine cf h3 ?_
 refine sns (am ?_)
 obtain ⟨t4,ht4,hF⟩:=bM hF
 refine cB func118 rfl (fun w hw=>Qir _ _ ht4 w (hg_strconv_ErrRange.on hw.below) (hg_strconv_ErrSyntax.on hw.below)) ?_
 refine am ?_
 refine aw xe (aw xe ?_)
 refine al (cs:=Cd.cs Qd zv2) zeroValue55 ?_
 intro b5
 refine Qn (c:=Qd) (z:=t4.1) .z lw sizeOf55 rfl rfl rfl ?_
 refine aa (nt (qs (sr (am (aw xn (nwq [25,8,7,5,2] ?_))))))
 obtain ⟨h6,hF⟩|⟨h6,hF⟩:=oi hF
 ·refine ct h6 ?_
  refine sr ?_
  refine aw (Qw (zs:=Cd.cs Qb zv9) (cs:=Cd.cs Qb zv9) underlying57 zeroValue57 rfl (Qz) rfl rfl) ?_
  refine am ?_
  refine Qn (c:=Qb) (z:=zv9) (.s .z) lw sizeOf57 rfl rfl rfl ?_
  refine aa (qn (dz (wq [3,2] ?_)))
  refine tn (rt ?_)
  have K:=os hF
  subst K
  exact QU rfl (QE (c:=Qb) (y:=zv9) rfl .z lw isAgg57 sizeOf57 (.inl rfl)) (QS rfl) wb
 refine cf h6 ?_
 refine sns (am ?_)
 obtain ⟨t7,ht7,hF⟩:=bM hF
 refine cB func82 rfl (fun w hw=>Qem _ _ _ ht7 w (hg_strconv_ErrRange.on hw.below) (hg_strconv_ErrSyntax.on hw.below)) ?_
 refine am ?_
 refine aw xe (aw xe (aa (aa (nwq [9,8,7,2] ?_))))
 refine qs (qb (sr (am (aw xn (aa (nwq [33,9,8,7,2] ?_))))))
 obtain ⟨h8,hF⟩|⟨h8,hF⟩:=oi hF
 ·refine ct h8 ?_
  refine sr ?_
  refine aw (Qw (zs:=Cd.cs Qb zv9) (cs:=Cd.cs Qb zv9) underlying57 zeroValue57 rfl (Qz) rfl rfl) ?_
  refine am ?_
  refine Qn (c:=Qb) (z:=zv9) (.s .z) lw sizeOf57 rfl rfl rfl ?_
  refine aa (qn (dz (wq [3,2] ?_)))
  refine tn (qt ?_)
  refine br (tr ?_)
  have K:=os hF
  subst K
  exact QU rfl (QE (c:=Qb) (y:=zv9) rfl .z lw isAgg57 sizeOf57 (.inl rfl)) (QS rfl) wb
 refine cf h8 ?_
 refine sr (am (aw xq (aa (nwq [38,9,7,2] ?_))))
 obtain ⟨h9,hF⟩|⟨h9,hF⟩:=oi hF
 ·refine ct h9 ?_
  refine sr ?_
  refine aw (Qw (zs:=Cd.cs Qb zv9) (cs:=Cd.cs Qb zv9) underlying57 zeroValue57 rfl (Qz) rfl rfl) ?_
  refine Qn (c:=Qb) (z:=zv9) (.s .z) lw sizeOf57 rfl rfl rfl ?_
  refine aa (qn (dz (wq [3,2] ?_)))
  refine tn (qt ?_)
  refine br (tr ?_)
  have K:=os hF
  subst K
  exact QU rfl (QE (c:=Qb) (y:=zv9) rfl .z lw isAgg57 sizeOf57 (.inl rfl)) (QS rfl) wb
 refine cf h9 ?_
 refine QbQ ?_
 refine bm ?_
 refine sr ?_
 refine aw (Qg (c:=Qd) (z:=t4.1) isAgg55 sizeOf55 rfl (Qp .z lw)) ?_
 refine am ?_
 refine aw (QaW underlying41 underlying3 rfl) ?_
 refine aw (Qw (zs:=Cd.cs Qb zv9) (cs:=Cd.cs Qb ({ { zv9 with f_A:=t4.1 } with f_Port:=wr .i64 t7.1 })) underlying57 zeroValue57 rfl (Qz) rfl (QaB (c:=Qd) (z:=t4.1) rfl (Qay zv9) rfl (QaB (c:=(Qv .i64)) (z:=wr .i64 t7.1) rfl (Qaq ({ zv9 with f_A:=t4.1 })) rfl rfl))) ?_
 refine Qn (c:=Qb) (z:={ { zv9 with f_A:=t4.1 } with f_Port:=wr .i64 t7.1 }) (.s .z) lw sizeOf57 rfl rfl rfl ?_
 refine aa (qn (dz (wq [3,2] ?_)))
 refine tn (qt ?_)
 have K:=os hF
 subst K
 exact QU rfl (QE (c:=Qb) (y:={ { zv9 with f_A:=t4.1 } with f_Port:=wr .i64 t7.1 }) rfl .z lw isAgg57 sizeOf57 (.inl rfl)) (QS rfl) wb
def Qb6(x0:Qr):Option (Bool) :=
 Q8 x0.f_A>>=fun t2=>if t2=true then (if (decide (x0.f_Port≥1))=true then (some (decide (x0.f_Port≤65535))) else (some false)) else (some false)
theorem Qet(x0:Qr)(r:Bool)(hF:Qb6 x0=some r)(w:World) :
    Calls Tryz.prog 35 #[.agg (Cd.cs Qb x0).toArray] w (fun e w'=>e=.returned (.bool r)∧Below w.heap.size w w'):=by
 unfold Qb6 at hF
 refine ce (l:=[.agg (Cd.cs Qb x0).toArray]) func35 rfl rfl ?_
 refine QN ?_
 refine sr ?_
 refine Qbv (cs:=Cd.cs Qb x0) rfl rfl rfl ?_
 intro b1
 refine aa (nwx [1] ?_)
 refine fa 0 underlying57 rfl sizeOf55 ?_
 refine aw (Qg (c:=Qd) (z:=x0.f_A) isAgg55 sizeOf55 rfl (Qp .z (Qaf.comp lw (fun z=>{ x0 with f_A:=z }) (Qay x0)))) ?_
 obtain ⟨t2,ht2,hF⟩:=bM hF
 refine cB func72 rfl (fun w hw=>QbZ _ _ ht2 w) ?_
 refine am ?_
 obtain ⟨h3,hF⟩|⟨h3,hF⟩:=oi hF
 ·refine fx 6 h3 ?_
  refine gy (fa 17 underlying57 rfl sizeOf3 (gy ?_))
  refine aw (Qe isAgg3 rfl (Qm (c:=(Qv .i64)) (y:=x0.f_Port) .z (Qaf.comp lw (fun z=>{ x0 with f_Port:=z }) (Qaq x0)) rfl)) ?_
  refine gy ?_
  refine aw (QfM rfl rfl) ?_
  refine aw xp (am ?_)
  obtain ⟨h4,hF⟩|⟨h4,hF⟩:=oi hF
  ·refine fx 11 h4 ?_
   refine gy (fa 17 underlying57 rfl sizeOf3 (gy ?_))
   refine aw (Qe isAgg3 rfl (Qm (c:=(Qv .i64)) (y:=x0.f_Port) .z (Qaf.comp lw (fun z=>{ x0 with f_Port:=z }) (Qaq x0)) rfl)) ?_
   refine gy ?_
   refine aw (Qhw rfl rfl) ?_
   refine aw xp (aa (qn (dz (wq [2] ?_))))
   refine tn (qt ?_)
   have K:=os hF
   subst K
   exact r1 wb
  refine fx 11 h4 ?_
  refine gn ?_
  refine gn ?_
  refine gn ?_
  refine aw xp (aa (qn (dz (wq [2] ?_))))
  refine tn (qt ?_)
  have K:=os hF
  subst K
  exact r1 wb
 refine fx 6 h3 ?_
 refine gn ?_
 refine gn ?_
 refine gn ?_
 refine aw xp (am ?_)
 refine gn ?_
 refine gn ?_
 refine gn ?_
 refine aw xp (aa (qn (dz (wq [2] ?_))))
 refine tn (qt ?_)
 have K:=os hF
 subst K
 exact r1 wb
def Qcg(x0:Qr):Option (ByteArray) :=
 Qb6 x0>>=fun t2=>if (!t2)=true then (some (⟨#[]⟩)) else (Qab (wr .u64 x0.f_Port)>>=fun t4=>if (⟨#[58]⟩:ByteArray).size+t4.size≤140737488355328 then if (x0.f_A.f_V==6)=true then (Qbu x0.f_A>>=fun t7=>if (⟨#[91]⟩:ByteArray).size+t7.size≤140737488355328 then if ((⟨#[91]⟩:ByteArray)++t7).size+(⟨#[93]⟩:ByteArray).size≤140737488355328 then if (((⟨#[91]⟩:ByteArray)++t7)++(⟨#[93]⟩:ByteArray)).size+((⟨#[58]⟩:ByteArray)++t4).size≤140737488355328 then some ((((⟨#[91]⟩:ByteArray)++t7)++(⟨#[93]⟩:ByteArray))++((⟨#[58]⟩:ByteArray)++t4)) else none else none else none) else (Qbu x0.f_A>>=fun t11=>if t11.size+((⟨#[58]⟩:ByteArray)++t4).size≤140737488355328 then some (t11++((⟨#[58]⟩:ByteArray)++t4)) else none) else none)
theorem QgS(x0:Qr)(r:ByteArray)(hF:Qcg x0=some r)(w:World) :
    Calls Tryz.prog 42 #[.agg (Cd.cs Qb x0).toArray] w (fun e w'=>e=.returned (.string r)∧Below w.heap.size w w'):=by
 unfold Qcg at hF
 refine ce (l:=[.agg (Cd.cs Qb x0).toArray]) func42 rfl rfl ?_
 refine QN ?_
 refine sr ?_
 refine Qbv (cs:=Cd.cs Qb x0) rfl rfl rfl ?_
 intro b1
 refine aa (nt (qs (sr ?_)))
 refine aw (Qg (c:=Qb) (z:=x0) isAgg57 sizeOf57 rfl (Qp .z lw)) ?_
 obtain ⟨t2,ht2,hF⟩:=bM hF
 refine cB func35 rfl (fun w hw=>Qet _ _ ht2 w) ?_
 refine aw (Qcq rfl) ?_
 refine nwq [6,1] ?_
 obtain ⟨h3,hF⟩|⟨h3,hF⟩:=oi hF
 ·refine ct h3 ?_
  refine sr (aa (qn (dz (wq [2] ?_))))
  refine tn (rt ?_)
  have K:=os hF
  subst K
  exact r1 wb
 refine cf h3 ?_
 refine sns (fa 17 underlying57 rfl sizeOf3 ?_)
 refine aw (Qe isAgg3 rfl (Qm (c:=(Qv .i64)) (y:=x0.f_Port) .z (Qaf.comp lw (fun z=>{ x0 with f_Port:=z }) (Qaq x0)) rfl)) ?_
 refine aw (QaW underlying3 underlying41 rfl) ?_
 obtain ⟨t4,ht4,hF⟩:=bM hF
 refine cB func45 rfl (fun w hw=>Qa2 _ _ ht4 w) ?_
 obtain ⟨h5,hF⟩:=gd hF
 refine aw (Q2 rfl rfl h5) ?_
 refine aa (nt (qs (sr (fa 0 underlying57 rfl sizeOf55 (fa 0 underlying55 rfl sizeOf3 ?_)))))
 refine aw (Qe isAgg3 rfl (Qm (c:=(Qv .i64)) (y:=x0.f_A.f_V) .z (Qaf.comp (Qaf.comp lw (fun z=>{ x0 with f_A:=z }) (Qay x0)) (fun z=>{ x0.f_A with f_V:=z }) (Q5 x0.f_A)) rfl)) ?_
 refine aw xq (nwq [15,3,1] ?_)
 obtain ⟨h6,hF⟩|⟨h6,hF⟩:=oi hF
 ·refine ct h6 ?_
  refine sr (fa 0 underlying57 rfl sizeOf55 ?_)
  refine aw (Qg (c:=Qd) (z:=x0.f_A) isAgg55 sizeOf55 rfl (Qp .z (Qaf.comp lw (fun z=>{ x0 with f_A:=z }) (Qay x0)))) ?_
  obtain ⟨t7,ht7,hF⟩:=bM hF
  refine cB func78 rfl (fun w hw=>QdH _ _ ht7 w) ?_
  obtain ⟨h8,hF⟩:=gd hF
  refine aw (Q2 rfl rfl h8) ?_
  obtain ⟨h9,hF⟩:=gd hF
  refine aw (Q2 rfl rfl h9) ?_
  refine am ?_
  obtain ⟨h10,hF⟩:=gd hF
  refine aw (Q2 rfl rfl h10) ?_
  refine aa (qn (dz (wq [2] ?_)))
  refine tn (rt ?_)
  have K:=os hF
  subst K
  exact r1 wb
 refine cf h6 ?_
 refine sns (fa 0 underlying57 rfl sizeOf55 ?_)
 refine aw (Qg (c:=Qd) (z:=x0.f_A) isAgg55 sizeOf55 rfl (Qp .z (Qaf.comp lw (fun z=>{ x0 with f_A:=z }) (Qay x0)))) ?_
 obtain ⟨t11,ht11,hF⟩:=bM hF
 refine cB func78 rfl (fun w hw=>QdH _ _ ht11 w) ?_
 refine am ?_
 obtain ⟨h12,hF⟩:=gd hF
 refine aw (Q2 rfl rfl h12) ?_
 refine aa (qn (dz (wq [2] ?_)))
 refine tn (qt ?_)
 have K:=os hF
 subst K
 exact r1 wb
def QaS.l0(x0:ByteArray)(i2:Int):Option (Ctl (ByteArray×ByteArray×Bool) (Unit)) :=
 if (decide (wr .i64 (i2+1)<(x0.size:Int)))=true then (if (0:Int)≤i2∧i2<(x0.size:Int) then if (bt x0 i2==93)=true then (if (0:Int)≤wr .i64 (i2+1)∧wr .i64 (i2+1)<(x0.size:Int) then if (bt x0 (wr .i64 (i2+1))==58)=true then (if (0:Int)≤0∧0≤i2∧i2≤(x0.size:Int) then if (0:Int)≤wr .i64 (i2+2)∧wr .i64 (i2+2)≤(x0.size:Int)∧(x0.size:Int)≤(x0.size:Int) then some (.ret (x0.extract (Int.toNat 0) (Int.toNat i2),x0.extract (Int.toNat (wr .i64 (i2+2))) (Int.toNat (x0.size:Int)),true)) else none else none) else (QaS.l0 x0 (wr .i64 (i2+1))) else none) else (QaS.l0 x0 (wr .i64 (i2+1))) else none) else (some (.nx ()))
 partial_fixpoint
def QaS(x0:ByteArray):Option (ByteArray×ByteArray×Bool) :=
 QaS.l0 x0 0>>=fun q1=>match q1 with | .ret r'=>some r' | .nx sq1=>(some (⟨#[]⟩,⟨#[]⟩,false))
theorem Qhq(x0:ByteArray)(r:ByteArray×ByteArray×Bool)(hF:QaS x0=some r)(w:World) :
    Calls Tryz.prog 87 #[.string x0] w (fun e w'=>e=.returned (.tuple #[.string r.1,.string r.2.1,.bool r.2.2])∧Below w.heap.size w w'):=by
 unfold QaS at hF
 refine ce (l:=[.string x0]) func87 rfl rfl ?_
 refine QN ?_
 refine sr (aa (aa (aa (nt (qs (sr (aa (nwq [5,0] ?_))))))))
 refine qb ?_
 obtain ⟨q1,hq1,hF⟩:=bM hF
 refine wq [5,0] ?_
 refine Qbn (B:=0) (r:=r) (q:=q1) (A:=fun (_:Unit) Y=>At 31 [] (Wd w []) Y) ?_ ?_
 ·intro K
  refine QaS.l0.partial_correctness x0 (motive:=fun i2 x=>KR (fun (_:Unit) Y=>At 31 [] (Wd w []) Y) _ 0 r x→QbB (fun Y=>At 31 [(0,.string x0),(5,.int .i64 i2)] (Wd w []) Y) _ _ _) ?_ _ _ hq1 K
  ·clear K hF
   intro g ih i2 x hF K
   refine QW ?_
   refine qs (sr (am (aw xa (am ?_))))
   refine aw (QaR underlying9 rfl) ?_
   refine aw xl (nwq [10,5,0] ?_)
   obtain ⟨h3,hF⟩|⟨h3,hF⟩:=oi hF
   ·refine ct h3 ?_
    refine sn (qs (qb (sr (am (am ?_)))))
    obtain ⟨h4,hF⟩:=gd hF
    refine aw (QaZ underlying9 rfl rfl h4) ?_
    refine aw xq (am ?_)
    obtain ⟨h5,hF⟩|⟨h5,hF⟩:=oi hF
    ·refine fx 17 h5 ?_
     refine gy (am (gy (am (gy (aw xa (gy ?_))))))
     obtain ⟨h6,hF⟩:=gd hF
     refine aw (QaZ underlying9 rfl rfl h6) ?_
     refine gy (aw xq (aw xp (nwq [23,5,0] ?_)))
     obtain ⟨h7,hF⟩|⟨h7,hF⟩:=oi hF
     ·refine ct h7 ?_
      refine qs ?_
      refine Qdd (by kernel_rfl) (by kernel_rfl) (fun _ h=>h.drew) ?_
      refine Ql rfl rfl rfl (Qbz rfl) ?_
      refine Ql rfl rfl rfl (Qbz rfl) ?_
      obtain ⟨h8,hF⟩:=gd hF
      refine Ql rfl rfl rfl (Qbc underlying9 rfl rfl ⟨_,rfl⟩ h8) ?_
      refine Ql rfl rfl rfl (Qbz rfl) ?_
      refine Ql rfl rfl rfl (Qbz rfl) ?_
      refine Ql rfl rfl rfl (QjS rfl rfl) ?_
      obtain ⟨h9,hF⟩:=gd hF
      refine Ql rfl rfl rfl (Qbc underlying9 rfl ⟨_,rfl⟩ rfl h9) ?_
      refine Ql rfl rfl rfl (Qcf rfl) ?_
      refine Ql rfl rfl rfl (Qcf rfl) ?_
      refine Ql rfl rfl rfl (Qcf rfl) ?_
      refine Qck ?_
      refine wq [4,3,2] ?_
      refine tn (qt ?_)
      refine br (tr (tr (br (tr ?_))))
      obtain rfl:=os hF
      subst K
      exact QdO rfl rfl rfl rfl wb
     refine cf h7 ?_
     refine QbQ ?_
     refine bm ?_
     refine qr (am (aw xa (aa (nwq [5,0] ?_))))
     exact Qk (ih _ _ hF K) ⟨rfl,rfl,trivial⟩
    refine fx 17 h5 ?_
    refine gn ?_
    refine gn ?_
    refine gn ?_
    refine gn ?_
    refine gn ?_
    refine aw xp (nwq [23,5,0] ?_)
    refine cf rfl ?_
    refine QbQ ?_
    refine bm ?_
    refine qr (am (aw xa (aa (nwq [5,0] ?_))))
    exact Qk (ih _ _ hF K) ⟨rfl,rfl,trivial⟩
   refine cf h3 ?_
   refine Q7 ?_
   refine te (te ?_)
   obtain rfl:=os hF
   exact Qk K trivial
 cases q1 with
 | ret r'=>exact os hF
 | nx sq1 =>
  skip
  refine QD ?_
  refine tn (sr (aa (aa (aa (nwq [4,3,2] ?_)))))
  refine qt ?_
  have K:=os hF
  subst K
  exact QdO rfl rfl rfl rfl wb
def Qcu(x0:ByteArray):Option (Qr×Int) :=
 if (decide ((x0.size:Int)>0))=true then (if (0:Int)≤0∧0<(x0.size:Int) then if (bt x0 0==91)=true then (if (0:Int)≤1∧1≤(x0.size:Int)∧(x0.size:Int)≤(x0.size:Int) then QaS (x0.extract (Int.toNat 1) (Int.toNat (x0.size:Int)))>>=fun t6=>if (!t6.2.2)=true then (some (({ f_A:=({ f_V:=(0:Int),f_B:=(Vector.replicate 16 (0:Int):(Vector Int 16)) }:Qj),f_Port:=(0:Int) }:Qr),5)) else (QG t6.1 58>>=fun t8=>if (decide ((t8.length:Int)>1) != (bt x0 0==91))=true then (some (({ f_A:=({ f_V:=(0:Int),f_B:=(Vector.replicate 16 (0:Int):(Vector Int 16)) }:Qj),f_Port:=(0:Int) }:Qr),5)) else (QaT t6.1>>=fun t12=>if (t12.2 != 0)=true then (some (({ f_A:=({ f_V:=(0:Int),f_B:=(Vector.replicate 16 (0:Int):(Vector Int 16)) }:Qj),f_Port:=(0:Int) }:Qr),t12.2)) else (QA t6.2.1 65535>>=fun t15=>if (t15.2 != 0)=true then (some (({ f_A:=({ f_V:=(0:Int),f_B:=(Vector.replicate 16 (0:Int):(Vector Int 16)) }:Qj),f_Port:=(0:Int) }:Qr),t15.2)) else (if (t15.1==0)=true then (some (({ f_A:=({ f_V:=(0:Int),f_B:=(Vector.replicate 16 (0:Int):(Vector Int 16)) }:Qj),f_Port:=(0:Int) }:Qr),6)) else (some ({ { ({ f_A:=({ f_V:=(0:Int),f_B:=(Vector.replicate 16 (0:Int):(Vector Int 16)) }:Qj),f_Port:=(0:Int) }:Qr) with f_A:=t12.1 } with f_Port:=wr .i64 t15.1 },0)))))) else none) else (QG x0 58>>=fun t18=>if (0:Int)≤0∧0<(t18.length:Int) then if (decide ((t18.length:Int)>1))=true then (if (0:Int)≤0∧0<(t18.length:Int) then if (0:Int)≤wr .i64 (((QO t18 0).size:Int)+1)∧wr .i64 (((QO t18 0).size:Int)+1)≤(x0.size:Int)∧(x0.size:Int)≤(x0.size:Int) then if (!(decide ((t18.length:Int)>1)))=true then (some (({ f_A:=({ f_V:=(0:Int),f_B:=(Vector.replicate 16 (0:Int):(Vector Int 16)) }:Qj),f_Port:=(0:Int) }:Qr),5)) else (QG (QO t18 0) 58>>=fun t32=>if (decide ((t32.length:Int)>1) != (bt x0 0==91))=true then (some (({ f_A:=({ f_V:=(0:Int),f_B:=(Vector.replicate 16 (0:Int):(Vector Int 16)) }:Qj),f_Port:=(0:Int) }:Qr),5)) else (QaT (QO t18 0)>>=fun t36=>if (t36.2 != 0)=true then (some (({ f_A:=({ f_V:=(0:Int),f_B:=(Vector.replicate 16 (0:Int):(Vector Int 16)) }:Qj),f_Port:=(0:Int) }:Qr),t36.2)) else (QA (x0.extract (Int.toNat (wr .i64 (((QO t18 0).size:Int)+1))) (Int.toNat (x0.size:Int))) 65535>>=fun t39=>if (t39.2 != 0)=true then (some (({ f_A:=({ f_V:=(0:Int),f_B:=(Vector.replicate 16 (0:Int):(Vector Int 16)) }:Qj),f_Port:=(0:Int) }:Qr),t39.2)) else (if (t39.1==0)=true then (some (({ f_A:=({ f_V:=(0:Int),f_B:=(Vector.replicate 16 (0:Int):(Vector Int 16)) }:Qj),f_Port:=(0:Int) }:Qr),6)) else (some ({ { ({ f_A:=({ f_V:=(0:Int),f_B:=(Vector.replicate 16 (0:Int):(Vector Int 16)) }:Qj),f_Port:=(0:Int) }:Qr) with f_A:=t36.1 } with f_Port:=wr .i64 t39.1 },0)))))) else none else none) else (if (!(decide ((t18.length:Int)>1)))=true then (some (({ f_A:=({ f_V:=(0:Int),f_B:=(Vector.replicate 16 (0:Int):(Vector Int 16)) }:Qj),f_Port:=(0:Int) }:Qr),5)) else (QG (QO t18 0) 58>>=fun t43=>if (decide ((t43.length:Int)>1) != (bt x0 0==91))=true then (some (({ f_A:=({ f_V:=(0:Int),f_B:=(Vector.replicate 16 (0:Int):(Vector Int 16)) }:Qj),f_Port:=(0:Int) }:Qr),5)) else (QaT (QO t18 0)>>=fun t47=>if (t47.2 != 0)=true then (some (({ f_A:=({ f_V:=(0:Int),f_B:=(Vector.replicate 16 (0:Int):(Vector Int 16)) }:Qj),f_Port:=(0:Int) }:Qr),t47.2)) else (QA (⟨#[]⟩:ByteArray) 65535>>=fun t50=>if (t50.2 != 0)=true then (some (({ f_A:=({ f_V:=(0:Int),f_B:=(Vector.replicate 16 (0:Int):(Vector Int 16)) }:Qj),f_Port:=(0:Int) }:Qr),t50.2)) else (if (t50.1==0)=true then (some (({ f_A:=({ f_V:=(0:Int),f_B:=(Vector.replicate 16 (0:Int):(Vector Int 16)) }:Qj),f_Port:=(0:Int) }:Qr),6)) else (some ({ { ({ f_A:=({ f_V:=(0:Int),f_B:=(Vector.replicate 16 (0:Int):(Vector Int 16)) }:Qj),f_Port:=(0:Int) }:Qr) with f_A:=t47.1 } with f_Port:=wr .i64 t50.1 },0))))))) else none) else none) else (QG x0 58>>=fun t53=>if (0:Int)≤0∧0<(t53.length:Int) then if (decide ((t53.length:Int)>1))=true then (if (0:Int)≤0∧0<(t53.length:Int) then if (0:Int)≤wr .i64 (((QO t53 0).size:Int)+1)∧wr .i64 (((QO t53 0).size:Int)+1)≤(x0.size:Int)∧(x0.size:Int)≤(x0.size:Int) then if (!(decide ((t53.length:Int)>1)))=true then (some (({ f_A:=({ f_V:=(0:Int),f_B:=(Vector.replicate 16 (0:Int):(Vector Int 16)) }:Qj),f_Port:=(0:Int) }:Qr),5)) else (QG (QO t53 0) 58>>=fun t67=>if (decide ((t67.length:Int)>1) != false)=true then (some (({ f_A:=({ f_V:=(0:Int),f_B:=(Vector.replicate 16 (0:Int):(Vector Int 16)) }:Qj),f_Port:=(0:Int) }:Qr),5)) else (QaT (QO t53 0)>>=fun t71=>if (t71.2 != 0)=true then (some (({ f_A:=({ f_V:=(0:Int),f_B:=(Vector.replicate 16 (0:Int):(Vector Int 16)) }:Qj),f_Port:=(0:Int) }:Qr),t71.2)) else (QA (x0.extract (Int.toNat (wr .i64 (((QO t53 0).size:Int)+1))) (Int.toNat (x0.size:Int))) 65535>>=fun t74=>if (t74.2 != 0)=true then (some (({ f_A:=({ f_V:=(0:Int),f_B:=(Vector.replicate 16 (0:Int):(Vector Int 16)) }:Qj),f_Port:=(0:Int) }:Qr),t74.2)) else (if (t74.1==0)=true then (some (({ f_A:=({ f_V:=(0:Int),f_B:=(Vector.replicate 16 (0:Int):(Vector Int 16)) }:Qj),f_Port:=(0:Int) }:Qr),6)) else (some ({ { ({ f_A:=({ f_V:=(0:Int),f_B:=(Vector.replicate 16 (0:Int):(Vector Int 16)) }:Qj),f_Port:=(0:Int) }:Qr) with f_A:=t71.1 } with f_Port:=wr .i64 t74.1 },0)))))) else none else none) else (if (!(decide ((t53.length:Int)>1)))=true then (some (({ f_A:=({ f_V:=(0:Int),f_B:=(Vector.replicate 16 (0:Int):(Vector Int 16)) }:Qj),f_Port:=(0:Int) }:Qr),5)) else (QG (QO t53 0) 58>>=fun t78=>if (decide ((t78.length:Int)>1) != false)=true then (some (({ f_A:=({ f_V:=(0:Int),f_B:=(Vector.replicate 16 (0:Int):(Vector Int 16)) }:Qj),f_Port:=(0:Int) }:Qr),5)) else (QaT (QO t53 0)>>=fun t82=>if (t82.2 != 0)=true then (some (({ f_A:=({ f_V:=(0:Int),f_B:=(Vector.replicate 16 (0:Int):(Vector Int 16)) }:Qj),f_Port:=(0:Int) }:Qr),t82.2)) else (QA (⟨#[]⟩:ByteArray) 65535>>=fun t85=>if (t85.2 != 0)=true then (some (({ f_A:=({ f_V:=(0:Int),f_B:=(Vector.replicate 16 (0:Int):(Vector Int 16)) }:Qj),f_Port:=(0:Int) }:Qr),t85.2)) else (if (t85.1==0)=true then (some (({ f_A:=({ f_V:=(0:Int),f_B:=(Vector.replicate 16 (0:Int):(Vector Int 16)) }:Qj),f_Port:=(0:Int) }:Qr),6)) else (some ({ { ({ f_A:=({ f_V:=(0:Int),f_B:=(Vector.replicate 16 (0:Int):(Vector Int 16)) }:Qj),f_Port:=(0:Int) }:Qr) with f_A:=t82.1 } with f_Port:=wr .i64 t85.1 },0))))))) else none)
set_option maxRecDepth 20000 in
theorem Qgu(x0:ByteArray)(r:Qr×Int)(hF:Qcu x0=some r)(w:World) :
    Calls Tryz.prog 55 #[.string x0] w (fun e w'=>e=.returned (.tuple #[.agg (Cd.cs Qb r.1).toArray,.int .i64 r.2])∧Below w.heap.size w w'):=by
 unfold Qcu at hF
 refine ce (l:=[.string x0]) func55 rfl rfl ?_
 refine QN ?_
 refine sr ?_
 refine al (cs:=Cd.cs Qb zv9) zeroValue57 ?_
 intro b1
 refine aa (ns (aa (ns (aa (ns (aa (nwx [5,2,0] ?_)))))))
 refine am ?_
 refine aw (QaR underlying9 rfl) ?_
 refine aw (QbI rfl rfl) ?_
 refine am ?_
 obtain ⟨h2,hF⟩|⟨h2,hF⟩:=oi hF
 ·refine fx 16 h2 ?_
  refine gy (am (gy ?_))
  obtain ⟨h3,hF⟩:=gd hF
  refine aw (QaZ underlying9 rfl rfl h3) ?_
  refine gy (aw xq (aw xp (aa (nt (qs (sr (am (nwq [21,7,5,2,0] ?_))))))))
  obtain ⟨h4,hF⟩|⟨h4,hF⟩:=oi hF
  ·refine ct h4 ?_
   refine qr (am ?_)
   obtain ⟨h5,hF⟩:=gd hF
   refine aw (Qbc underlying9 rfl ⟨_,rfl⟩ rfl h5) ?_
   obtain ⟨t6,ht6,hF⟩:=bM hF
   refine cB func87 rfl (fun w hw=>Qhq _ _ ht6 w) ?_
   refine am ?_
   refine aw xe (aw xe (aw xe (aa (aa (aa (nwq [7,6,5,4,2] ?_))))))
   refine qs (sr (am ?_))
   refine aw (Qcq rfl) ?_
   refine am ?_
   obtain ⟨h7,hF⟩|⟨h7,hF⟩:=oi hF
   ·refine fx 47 h7 ?_
    refine gn ?_
    refine gn ?_
    refine gn ?_
    refine gn ?_
    refine gn ?_
    refine gn ?_
    refine aw xp (nwq [54,5,4,2] ?_)
    refine ct rfl ?_
    refine sr ?_
    refine aw (Qw (zs:=Cd.cs Qb zv9) (cs:=Cd.cs Qb zv9) underlying57 zeroValue57 rfl (Qz) rfl rfl) ?_
    refine Qn (c:=Qb) (z:=zv9) .z lw sizeOf57 rfl rfl rfl ?_
    refine aa (nwq [3,2] ?_)
    refine rt ?_
    have K:=os hF
    subst K
    exact QU rfl (QE (c:=Qb) (y:=zv9) rfl .z lw isAgg57 sizeOf57 (.inl rfl)) (QS rfl) wb
   refine fx 47 h7 ?_
   refine gy (am (gy ?_))
   obtain ⟨t8,ht8,hF⟩:=bM hF
   refine QbU (c:=QbA) (e:=9) (ys:=t8) (V:=fun p cap=>.slice p t8.length cap) func19 rfl (by kernel_rfl) rfl rfl (fun w hw=>Qak _ _ _ ht8 w) ?_
   intro p9 c10
   refine gy ?_
   refine aw (QZ underlying46 rfl) ?_
   refine gy ?_
   refine aw (QbI rfl rfl) ?_
   refine gy (am (gy ?_))
   refine aw (QkN underlying4 rfl rfl (.inr rfl) rfl) ?_
   refine aw xp (qn (dz (wq [54,5,4,2] ?_)))
   refine tn ?_
   obtain ⟨h11,hF⟩|⟨h11,hF⟩:=oi hF
   ·refine ct h11 ?_
    refine sr ?_
    refine aw (Qw (zs:=Cd.cs Qb zv9) (cs:=Cd.cs Qb zv9) underlying57 zeroValue57 rfl (Qz) rfl rfl) ?_
    refine Qn (c:=Qb) (z:=zv9) .z lw sizeOf57 rfl rfl rfl ?_
    refine aa (nwq [3,2] ?_)
    refine rt ?_
    have K:=os hF
    subst K
    exact QU rfl (QE (c:=Qb) (y:=zv9) rfl .z lw isAgg57 sizeOf57 (.inl rfl)) (QS rfl) wb
   refine cf h11 ?_
   refine sns (am ?_)
   obtain ⟨t12,ht12,hF⟩:=bM hF
   refine cB func88 rfl (fun w hw=>Qb0 _ _ ht12 w) ?_
   refine am ?_
   refine aw xe (aw xe ?_)
   refine al (cs:=Cd.cs Qd zv2) zeroValue55 ?_
   intro b13
   refine Qn (c:=Qd) (z:=t12.1) .z lw sizeOf55 rfl rfl rfl ?_
   refine aa (nt (qs (sr (am (aw xn (nwq [62,10,9,5,2] ?_))))))
   obtain ⟨h14,hF⟩|⟨h14,hF⟩:=oi hF
   ·refine ct h14 ?_
    refine sr ?_
    refine aw (Qw (zs:=Cd.cs Qb zv9) (cs:=Cd.cs Qb zv9) underlying57 zeroValue57 rfl (Qz) rfl rfl) ?_
    refine am ?_
    refine Qn (c:=Qb) (z:=zv9) (.s .z) lw sizeOf57 rfl rfl rfl ?_
    refine aa (qn (dz (wq [3,2] ?_)))
    refine tn (rt ?_)
    have K:=os hF
    subst K
    exact QU rfl (QE (c:=Qb) (y:=zv9) rfl .z lw isAgg57 sizeOf57 (.inl rfl)) (QS rfl) wb
   refine cf h14 ?_
   refine sns (am ?_)
   obtain ⟨t15,ht15,hF⟩:=bM hF
   refine Qav func21 rfl (by kernel_rfl) rfl rfl (fun w=>Qah _ _ _ ht15 w) ?_
   refine am ?_
   refine aw xe (aw xe (aa (aa (nt (qs (sr (am (aw xn ?_))))))))
   refine nwq [71,12,11,9,2] ?_
   obtain ⟨h16,hF⟩|⟨h16,hF⟩:=oi hF
   ·refine ct h16 ?_
    refine sr ?_
    refine aw (Qw (zs:=Cd.cs Qb zv9) (cs:=Cd.cs Qb zv9) underlying57 zeroValue57 rfl (Qz) rfl rfl) ?_
    refine am ?_
    refine Qn (c:=Qb) (z:=zv9) (.s .z) lw sizeOf57 rfl rfl rfl ?_
    refine aa (qn (dz (wq [3,2] ?_)))
    refine tn (rt ?_)
    have K:=os hF
    subst K
    exact QU rfl (QE (c:=Qb) (y:=zv9) rfl .z lw isAgg57 sizeOf57 (.inl rfl)) (QS rfl) wb
   refine cf h16 ?_
   refine sn (qs (sr (am (aw xq (nwq [75,11,9,2] ?_)))))
   obtain ⟨h17,hF⟩|⟨h17,hF⟩:=oi hF
   ·refine ct h17 ?_
    refine sr ?_
    refine aw (Qw (zs:=Cd.cs Qb zv9) (cs:=Cd.cs Qb zv9) underlying57 zeroValue57 rfl (Qz) rfl rfl) ?_
    refine Qn (c:=Qb) (z:=zv9) (.s .z) lw sizeOf57 rfl rfl rfl ?_
    refine aa (qn (dz (wq [3,2] ?_)))
    refine tn (rt ?_)
    have K:=os hF
    subst K
    exact QU rfl (QE (c:=Qb) (y:=zv9) rfl .z lw isAgg57 sizeOf57 (.inl rfl)) (QS rfl) wb
   refine cf h17 ?_
   refine sns ?_
   refine aw (Qg (c:=Qd) (z:=t12.1) isAgg55 sizeOf55 rfl (Qp .z lw)) ?_
   refine am ?_
   refine aw (QaW underlying41 underlying3 rfl) ?_
   refine aw (Qw (zs:=Cd.cs Qb zv9) (cs:=Cd.cs Qb ({ { zv9 with f_A:=t12.1 } with f_Port:=wr .i64 t15.1 })) underlying57 zeroValue57 rfl (Qz) rfl (QaB (c:=Qd) (z:=t12.1) rfl (Qay zv9) rfl (QaB (c:=(Qv .i64)) (z:=wr .i64 t15.1) rfl (Qaq ({ zv9 with f_A:=t12.1 })) rfl rfl))) ?_
   refine Qn (c:=Qb) (z:={ { zv9 with f_A:=t12.1 } with f_Port:=wr .i64 t15.1 }) (.s .z) lw sizeOf57 rfl rfl rfl ?_
   refine aa (qn (dz (wq [3,2] ?_)))
   refine tn (qt ?_)
   have K:=os hF
   subst K
   exact QU rfl (QE (c:=Qb) (y:={ { zv9 with f_A:=t12.1 } with f_Port:=wr .i64 t15.1 }) rfl .z lw isAgg57 sizeOf57 (.inl rfl)) (QS rfl) wb
  refine cf h4 ?_
  refine sr (am ?_)
  obtain ⟨t18,ht18,hF⟩:=bM hF
  refine QbU (c:=QbA) (e:=9) (ys:=t18) (V:=fun p cap=>.slice p t18.length cap) func19 rfl (by kernel_rfl) rfl rfl (fun w hw=>Qak _ _ _ ht18 w) ?_
  intro p19 c20
  refine aa (ns (am ?_))
  refine aw (QZ underlying46 rfl) ?_
  refine aw (QbI rfl rfl) ?_
  refine aa (ns (am ?_))
  obtain ⟨h21,hF⟩:=gd hF
  refine Qae (φ:=∃ b o,p19=some ⟨b,o,none⟩) (fun _ hw=>Qaa (hw.own .z).row h21) ?_
  rintro ⟨b23,o24,hp22⟩
  refine aw (QbD underlying46 sizeOf9 rfl rfl h21 hp22) ?_
  refine aw (Qe isAgg9 rfl (fun _ hw=>QP (W:=fun w1=>w1=_) (fun w1 h=>by subst h;exact Below.refl _ _) (hw.own .z).row h21 hp22 rfl _ rfl)) ?_
  refine aa (ns (am (nwq [37,8,7,6,5,4,2,0] ?_)))
  obtain ⟨h25,hF⟩|⟨h25,hF⟩:=oi hF
  ·refine ct h25 ?_
   refine qr (am (am ?_))
   obtain ⟨h26,hF⟩:=gd hF
   refine Qae (φ:=∃ b o,p19=some ⟨b,o,none⟩) (fun _ hw=>Qaa (hw.own .z).row h26) ?_
   rintro ⟨b28,o29,hp27⟩
   refine aw (QbD underlying46 sizeOf9 rfl rfl h26 hp27) ?_
   refine aw (Qe isAgg9 rfl (fun _ hw=>QP (W:=fun w1=>w1=_) (fun w1 h=>by subst h;exact Below.refl _ _) (hw.own .z).row h26 hp27 rfl _ rfl)) ?_
   refine aw (QaR underlying9 rfl) ?_
   refine aw xa ?_
   obtain ⟨h30,hF⟩:=gd hF
   refine aw (Qbc underlying9 rfl ⟨_,rfl⟩ rfl h30) ?_
   refine aa (qn (dz (wq [7,6,5,4,2] ?_)))
   refine tn (qs (sr (am ?_)))
   refine aw (Qcq rfl) ?_
   refine am ?_
   obtain ⟨h31,hF⟩|⟨h31,hF⟩:=oi hF
   ·refine fx 47 h31 ?_
    refine gn ?_
    refine gn ?_
    refine gn ?_
    refine gn ?_
    refine gn ?_
    refine gn ?_
    refine aw xp (nwq [54,5,4,2] ?_)
    refine ct rfl ?_
    refine sr ?_
    refine aw (Qw (zs:=Cd.cs Qb zv9) (cs:=Cd.cs Qb zv9) underlying57 zeroValue57 rfl (Qz) rfl rfl) ?_
    refine Qn (c:=Qb) (z:=zv9) .z lw sizeOf57 rfl rfl rfl ?_
    refine aa (nwq [3,2] ?_)
    refine rt ?_
    have K:=os hF
    subst K
    exact QU rfl (QE (c:=Qb) (y:=zv9) rfl .z lw isAgg57 sizeOf57 (.inl rfl)) (QS rfl) wb
   refine fx 47 h31 ?_
   refine gy (am (gy ?_))
   obtain ⟨t32,ht32,hF⟩:=bM hF
   refine QbU (c:=QbA) (e:=9) (ys:=t32) (V:=fun p cap=>.slice p t32.length cap) func19 rfl (by kernel_rfl) rfl rfl (fun w hw=>Qak _ _ _ ht32 w) ?_
   intro p33 c34
   refine gy ?_
   refine aw (QZ underlying46 rfl) ?_
   refine gy ?_
   refine aw (QbI rfl rfl) ?_
   refine gy (am (gy ?_))
   refine aw (QkN underlying4 rfl rfl (.inr rfl) rfl) ?_
   refine aw xp (qn (dz (wq [54,5,4,2] ?_)))
   refine tn ?_
   obtain ⟨h35,hF⟩|⟨h35,hF⟩:=oi hF
   ·refine ct h35 ?_
    refine sr ?_
    refine aw (Qw (zs:=Cd.cs Qb zv9) (cs:=Cd.cs Qb zv9) underlying57 zeroValue57 rfl (Qz) rfl rfl) ?_
    refine Qn (c:=Qb) (z:=zv9) .z lw sizeOf57 rfl rfl rfl ?_
    refine aa (nwq [3,2] ?_)
    refine rt ?_
    have K:=os hF
    subst K
    exact QU rfl (QE (c:=Qb) (y:=zv9) rfl .z lw isAgg57 sizeOf57 (.inl rfl)) (QS rfl) wb
   refine cf h35 ?_
   refine sns (am ?_)
   obtain ⟨t36,ht36,hF⟩:=bM hF
   refine cB func88 rfl (fun w hw=>Qb0 _ _ ht36 w) ?_
   refine am ?_
   refine aw xe (aw xe ?_)
   refine al (cs:=Cd.cs Qd zv2) zeroValue55 ?_
   intro b37
   refine Qn (c:=Qd) (z:=t36.1) .z lw sizeOf55 rfl rfl rfl ?_
   refine aa (nt (qs (sr (am (aw xn (nwq [62,10,9,5,2] ?_))))))
   obtain ⟨h38,hF⟩|⟨h38,hF⟩:=oi hF
   ·refine ct h38 ?_
    refine sr ?_
    refine aw (Qw (zs:=Cd.cs Qb zv9) (cs:=Cd.cs Qb zv9) underlying57 zeroValue57 rfl (Qz) rfl rfl) ?_
    refine am ?_
    refine Qn (c:=Qb) (z:=zv9) (.s .z) lw sizeOf57 rfl rfl rfl ?_
    refine aa (qn (dz (wq [3,2] ?_)))
    refine tn (rt ?_)
    have K:=os hF
    subst K
    exact QU rfl (QE (c:=Qb) (y:=zv9) rfl .z lw isAgg57 sizeOf57 (.inl rfl)) (QS rfl) wb
   refine cf h38 ?_
   refine sns (am ?_)
   obtain ⟨t39,ht39,hF⟩:=bM hF
   refine Qav func21 rfl (by kernel_rfl) rfl rfl (fun w=>Qah _ _ _ ht39 w) ?_
   refine am ?_
   refine aw xe (aw xe (aa (aa (nt (qs (sr (am (aw xn ?_))))))))
   refine nwq [71,12,11,9,2] ?_
   obtain ⟨h40,hF⟩|⟨h40,hF⟩:=oi hF
   ·refine ct h40 ?_
    refine sr ?_
    refine aw (Qw (zs:=Cd.cs Qb zv9) (cs:=Cd.cs Qb zv9) underlying57 zeroValue57 rfl (Qz) rfl rfl) ?_
    refine am ?_
    refine Qn (c:=Qb) (z:=zv9) (.s .z) lw sizeOf57 rfl rfl rfl ?_
    refine aa (qn (dz (wq [3,2] ?_)))
    refine tn (rt ?_)
    have K:=os hF
    subst K
    exact QU rfl (QE (c:=Qb) (y:=zv9) rfl .z lw isAgg57 sizeOf57 (.inl rfl)) (QS rfl) wb
   refine cf h40 ?_
   refine sn (qs (sr (am (aw xq (nwq [75,11,9,2] ?_)))))
   obtain ⟨h41,hF⟩|⟨h41,hF⟩:=oi hF
   ·refine ct h41 ?_
    refine sr ?_
    refine aw (Qw (zs:=Cd.cs Qb zv9) (cs:=Cd.cs Qb zv9) underlying57 zeroValue57 rfl (Qz) rfl rfl) ?_
    refine Qn (c:=Qb) (z:=zv9) (.s .z) lw sizeOf57 rfl rfl rfl ?_
    refine aa (qn (dz (wq [3,2] ?_)))
    refine tn (rt ?_)
    have K:=os hF
    subst K
    exact QU rfl (QE (c:=Qb) (y:=zv9) rfl .z lw isAgg57 sizeOf57 (.inl rfl)) (QS rfl) wb
   refine cf h41 ?_
   refine sns ?_
   refine aw (Qg (c:=Qd) (z:=t36.1) isAgg55 sizeOf55 rfl (Qp .z lw)) ?_
   refine am ?_
   refine aw (QaW underlying41 underlying3 rfl) ?_
   refine aw (Qw (zs:=Cd.cs Qb zv9) (cs:=Cd.cs Qb ({ { zv9 with f_A:=t36.1 } with f_Port:=wr .i64 t39.1 })) underlying57 zeroValue57 rfl (Qz) rfl (QaB (c:=Qd) (z:=t36.1) rfl (Qay zv9) rfl (QaB (c:=(Qv .i64)) (z:=wr .i64 t39.1) rfl (Qaq ({ zv9 with f_A:=t36.1 })) rfl rfl))) ?_
   refine Qn (c:=Qb) (z:={ { zv9 with f_A:=t36.1 } with f_Port:=wr .i64 t39.1 }) (.s .z) lw sizeOf57 rfl rfl rfl ?_
   refine aa (qn (dz (wq [3,2] ?_)))
   refine tn (qt ?_)
   have K:=os hF
   subst K
   exact QU rfl (QE (c:=Qb) (y:={ { zv9 with f_A:=t36.1 } with f_Port:=wr .i64 t39.1 }) rfl .z lw isAgg57 sizeOf57 (.inl rfl)) (QS rfl) wb
  refine cf h25 ?_
  refine sn (qs (sr (am ?_)))
  refine aw (Qcq rfl) ?_
  refine am ?_
  obtain ⟨h42,hF⟩|⟨h42,hF⟩:=oi hF
  ·refine fx 47 h42 ?_
   refine gn ?_
   refine gn ?_
   refine gn ?_
   refine gn ?_
   refine gn ?_
   refine gn ?_
   refine aw xp (qn (dz (wq [54,5,4,2] ?_)))
   refine tn ?_
   refine ct rfl ?_
   refine sr ?_
   refine aw (Qw (zs:=Cd.cs Qb zv9) (cs:=Cd.cs Qb zv9) underlying57 zeroValue57 rfl (Qz) rfl rfl) ?_
   refine Qn (c:=Qb) (z:=zv9) .z lw sizeOf57 rfl rfl rfl ?_
   refine aa (nwq [3,2] ?_)
   refine rt ?_
   have K:=os hF
   subst K
   exact QU rfl (QE (c:=Qb) (y:=zv9) rfl .z lw isAgg57 sizeOf57 (.inl rfl)) (QS rfl) wb
  refine fx 47 h42 ?_
  refine gy (am (gy ?_))
  obtain ⟨t43,ht43,hF⟩:=bM hF
  refine QbU (c:=QbA) (e:=9) (ys:=t43) (V:=fun p cap=>.slice p t43.length cap) func19 rfl (by kernel_rfl) rfl rfl (fun w hw=>Qak _ _ _ ht43 w) ?_
  intro p44 c45
  refine gy ?_
  refine aw (QZ underlying46 rfl) ?_
  refine gy ?_
  refine aw (QbI rfl rfl) ?_
  refine gy (am (gy ?_))
  refine aw (QkN underlying4 rfl rfl (.inr rfl) rfl) ?_
  refine aw xp (qn (dz (dz (wq [54,5,4,2] ?_))))
  refine tn ?_
  obtain ⟨h46,hF⟩|⟨h46,hF⟩:=oi hF
  ·refine ct h46 ?_
   refine sr ?_
   refine aw (Qw (zs:=Cd.cs Qb zv9) (cs:=Cd.cs Qb zv9) underlying57 zeroValue57 rfl (Qz) rfl rfl) ?_
   refine Qn (c:=Qb) (z:=zv9) .z lw sizeOf57 rfl rfl rfl ?_
   refine aa (nwq [3,2] ?_)
   refine rt ?_
   have K:=os hF
   subst K
   exact QU rfl (QE (c:=Qb) (y:=zv9) rfl .z lw isAgg57 sizeOf57 (.inl rfl)) (QS rfl) wb
  refine cf h46 ?_
  refine sns (am ?_)
  obtain ⟨t47,ht47,hF⟩:=bM hF
  refine cB func88 rfl (fun w hw=>Qb0 _ _ ht47 w) ?_
  refine am ?_
  refine aw xe (aw xe ?_)
  refine al (cs:=Cd.cs Qd zv2) zeroValue55 ?_
  intro b48
  refine Qn (c:=Qd) (z:=t47.1) .z lw sizeOf55 rfl rfl rfl ?_
  refine aa (nt (qs (sr (am (aw xn (nwq [62,10,9,5,2] ?_))))))
  obtain ⟨h49,hF⟩|⟨h49,hF⟩:=oi hF
  ·refine ct h49 ?_
   refine sr ?_
   refine aw (Qw (zs:=Cd.cs Qb zv9) (cs:=Cd.cs Qb zv9) underlying57 zeroValue57 rfl (Qz) rfl rfl) ?_
   refine am ?_
   refine Qn (c:=Qb) (z:=zv9) (.s .z) lw sizeOf57 rfl rfl rfl ?_
   refine aa (qn (dz (wq [3,2] ?_)))
   refine tn (rt ?_)
   have K:=os hF
   subst K
   exact QU rfl (QE (c:=Qb) (y:=zv9) rfl .z lw isAgg57 sizeOf57 (.inl rfl)) (QS rfl) wb
  refine cf h49 ?_
  refine sns (am ?_)
  obtain ⟨t50,ht50,hF⟩:=bM hF
  refine Qav func21 rfl (by kernel_rfl) rfl rfl (fun w=>Qah _ _ _ ht50 w) ?_
  refine am ?_
  refine aw xe (aw xe (aa (aa (nt (qs (sr (am (aw xn ?_))))))))
  refine nwq [71,12,11,9,2] ?_
  obtain ⟨h51,hF⟩|⟨h51,hF⟩:=oi hF
  ·refine ct h51 ?_
   refine sr ?_
   refine aw (Qw (zs:=Cd.cs Qb zv9) (cs:=Cd.cs Qb zv9) underlying57 zeroValue57 rfl (Qz) rfl rfl) ?_
   refine am ?_
   refine Qn (c:=Qb) (z:=zv9) (.s .z) lw sizeOf57 rfl rfl rfl ?_
   refine aa (qn (dz (wq [3,2] ?_)))
   refine tn (rt ?_)
   have K:=os hF
   subst K
   exact QU rfl (QE (c:=Qb) (y:=zv9) rfl .z lw isAgg57 sizeOf57 (.inl rfl)) (QS rfl) wb
  refine cf h51 ?_
  refine sn (qs (sr (am (aw xq (nwq [75,11,9,2] ?_)))))
  obtain ⟨h52,hF⟩|⟨h52,hF⟩:=oi hF
  ·refine ct h52 ?_
   refine sr ?_
   refine aw (Qw (zs:=Cd.cs Qb zv9) (cs:=Cd.cs Qb zv9) underlying57 zeroValue57 rfl (Qz) rfl rfl) ?_
   refine Qn (c:=Qb) (z:=zv9) (.s .z) lw sizeOf57 rfl rfl rfl ?_
   refine aa (qn (dz (wq [3,2] ?_)))
   refine tn (rt ?_)
   have K:=os hF
   subst K
   exact QU rfl (QE (c:=Qb) (y:=zv9) rfl .z lw isAgg57 sizeOf57 (.inl rfl)) (QS rfl) wb
  refine cf h52 ?_
  refine sns ?_
  refine aw (Qg (c:=Qd) (z:=t47.1) isAgg55 sizeOf55 rfl (Qp .z lw)) ?_
  refine am ?_
  refine aw (QaW underlying41 underlying3 rfl) ?_
  refine aw (Qw (zs:=Cd.cs Qb zv9) (cs:=Cd.cs Qb ({ { zv9 with f_A:=t47.1 } with f_Port:=wr .i64 t50.1 })) underlying57 zeroValue57 rfl (Qz) rfl (QaB (c:=Qd) (z:=t47.1) rfl (Qay zv9) rfl (QaB (c:=(Qv .i64)) (z:=wr .i64 t50.1) rfl (Qaq ({ zv9 with f_A:=t47.1 })) rfl rfl))) ?_
  refine Qn (c:=Qb) (z:={ { zv9 with f_A:=t47.1 } with f_Port:=wr .i64 t50.1 }) (.s .z) lw sizeOf57 rfl rfl rfl ?_
  refine aa (qn (dz (wq [3,2] ?_)))
  refine tn (qt ?_)
  have K:=os hF
  subst K
  exact QU rfl (QE (c:=Qb) (y:={ { zv9 with f_A:=t47.1 } with f_Port:=wr .i64 t50.1 }) rfl .z lw isAgg57 sizeOf57 (.inl rfl)) (QS rfl) wb
 refine fx 16 h2 ?_
 refine gn ?_
 refine gn ?_
 refine gn ?_
 refine aw xp (aa (nt (qs (sr (am (nwq [21,7,5,2,0] ?_))))))
 refine cf rfl ?_
 refine sr (am ?_)
 obtain ⟨t53,ht53,hF⟩:=bM hF
 refine QbU (c:=QbA) (e:=9) (ys:=t53) (V:=fun p cap=>.slice p t53.length cap) func19 rfl (by kernel_rfl) rfl rfl (fun w hw=>Qak _ _ _ ht53 w) ?_
 intro p54 c55
 refine aa (ns (am ?_))
 refine aw (QZ underlying46 rfl) ?_
 refine aw (QbI rfl rfl) ?_
 refine aa (ns (am ?_))
 obtain ⟨h56,hF⟩:=gd hF
 refine Qae (φ:=∃ b o,p54=some ⟨b,o,none⟩) (fun _ hw=>Qaa (hw.own .z).row h56) ?_
 rintro ⟨b58,o59,hp57⟩
 refine aw (QbD underlying46 sizeOf9 rfl rfl h56 hp57) ?_
 refine aw (Qe isAgg9 rfl (fun _ hw=>QP (W:=fun w1=>w1=_) (fun w1 h=>by subst h;exact Below.refl _ _) (hw.own .z).row h56 hp57 rfl _ rfl)) ?_
 refine aa (ns (am (nwq [37,8,7,6,5,4,2,0] ?_)))
 obtain ⟨h60,hF⟩|⟨h60,hF⟩:=oi hF
 ·refine ct h60 ?_
  refine qr (am (am ?_))
  obtain ⟨h61,hF⟩:=gd hF
  refine Qae (φ:=∃ b o,p54=some ⟨b,o,none⟩) (fun _ hw=>Qaa (hw.own .z).row h61) ?_
  rintro ⟨b63,o64,hp62⟩
  refine aw (QbD underlying46 sizeOf9 rfl rfl h61 hp62) ?_
  refine aw (Qe isAgg9 rfl (fun _ hw=>QP (W:=fun w1=>w1=_) (fun w1 h=>by subst h;exact Below.refl _ _) (hw.own .z).row h61 hp62 rfl _ rfl)) ?_
  refine aw (QaR underlying9 rfl) ?_
  refine aw xa ?_
  obtain ⟨h65,hF⟩:=gd hF
  refine aw (Qbc underlying9 rfl ⟨_,rfl⟩ rfl h65) ?_
  refine aa (qn (dz (wq [7,6,5,4,2] ?_)))
  refine tn (qs (sr (am ?_)))
  refine aw (Qcq rfl) ?_
  refine am ?_
  obtain ⟨h66,hF⟩|⟨h66,hF⟩:=oi hF
  ·refine fx 47 h66 ?_
   refine gn ?_
   refine gn ?_
   refine gn ?_
   refine gn ?_
   refine gn ?_
   refine gn ?_
   refine aw xp (nwq [54,5,4,2] ?_)
   refine ct rfl ?_
   refine sr ?_
   refine aw (Qw (zs:=Cd.cs Qb zv9) (cs:=Cd.cs Qb zv9) underlying57 zeroValue57 rfl (Qz) rfl rfl) ?_
   refine Qn (c:=Qb) (z:=zv9) .z lw sizeOf57 rfl rfl rfl ?_
   refine aa (nwq [3,2] ?_)
   refine rt ?_
   have K:=os hF
   subst K
   exact QU rfl (QE (c:=Qb) (y:=zv9) rfl .z lw isAgg57 sizeOf57 (.inl rfl)) (QS rfl) wb
  refine fx 47 h66 ?_
  refine gy (am (gy ?_))
  obtain ⟨t67,ht67,hF⟩:=bM hF
  refine QbU (c:=QbA) (e:=9) (ys:=t67) (V:=fun p cap=>.slice p t67.length cap) func19 rfl (by kernel_rfl) rfl rfl (fun w hw=>Qak _ _ _ ht67 w) ?_
  intro p68 c69
  refine gy ?_
  refine aw (QZ underlying46 rfl) ?_
  refine gy ?_
  refine aw (QbI rfl rfl) ?_
  refine gy (am (gy ?_))
  refine aw (QkN underlying4 rfl rfl (.inr rfl) rfl) ?_
  refine aw xp (qn (dz (wq [54,5,4,2] ?_)))
  refine tn ?_
  obtain ⟨h70,hF⟩|⟨h70,hF⟩:=oi hF
  ·refine ct h70 ?_
   refine sr ?_
   refine aw (Qw (zs:=Cd.cs Qb zv9) (cs:=Cd.cs Qb zv9) underlying57 zeroValue57 rfl (Qz) rfl rfl) ?_
   refine Qn (c:=Qb) (z:=zv9) .z lw sizeOf57 rfl rfl rfl ?_
   refine aa (nwq [3,2] ?_)
   refine rt ?_
   have K:=os hF
   subst K
   exact QU rfl (QE (c:=Qb) (y:=zv9) rfl .z lw isAgg57 sizeOf57 (.inl rfl)) (QS rfl) wb
  refine cf h70 ?_
  refine sns (am ?_)
  obtain ⟨t71,ht71,hF⟩:=bM hF
  refine cB func88 rfl (fun w hw=>Qb0 _ _ ht71 w) ?_
  refine am ?_
  refine aw xe (aw xe ?_)
  refine al (cs:=Cd.cs Qd zv2) zeroValue55 ?_
  intro b72
  refine Qn (c:=Qd) (z:=t71.1) .z lw sizeOf55 rfl rfl rfl ?_
  refine aa (nt (qs (sr (am (aw xn (nwq [62,10,9,5,2] ?_))))))
  obtain ⟨h73,hF⟩|⟨h73,hF⟩:=oi hF
  ·refine ct h73 ?_
   refine sr ?_
   refine aw (Qw (zs:=Cd.cs Qb zv9) (cs:=Cd.cs Qb zv9) underlying57 zeroValue57 rfl (Qz) rfl rfl) ?_
   refine am ?_
   refine Qn (c:=Qb) (z:=zv9) (.s .z) lw sizeOf57 rfl rfl rfl ?_
   refine aa (qn (dz (wq [3,2] ?_)))
   refine tn (rt ?_)
   have K:=os hF
   subst K
   exact QU rfl (QE (c:=Qb) (y:=zv9) rfl .z lw isAgg57 sizeOf57 (.inl rfl)) (QS rfl) wb
  refine cf h73 ?_
  refine sns (am ?_)
  obtain ⟨t74,ht74,hF⟩:=bM hF
  refine Qav func21 rfl (by kernel_rfl) rfl rfl (fun w=>Qah _ _ _ ht74 w) ?_
  refine am ?_
  refine aw xe (aw xe (aa (aa (nt (qs (sr (am (aw xn ?_))))))))
  refine nwq [71,12,11,9,2] ?_
  obtain ⟨h75,hF⟩|⟨h75,hF⟩:=oi hF
  ·refine ct h75 ?_
   refine sr ?_
   refine aw (Qw (zs:=Cd.cs Qb zv9) (cs:=Cd.cs Qb zv9) underlying57 zeroValue57 rfl (Qz) rfl rfl) ?_
   refine am ?_
   refine Qn (c:=Qb) (z:=zv9) (.s .z) lw sizeOf57 rfl rfl rfl ?_
   refine aa (qn (dz (wq [3,2] ?_)))
   refine tn (rt ?_)
   have K:=os hF
   subst K
   exact QU rfl (QE (c:=Qb) (y:=zv9) rfl .z lw isAgg57 sizeOf57 (.inl rfl)) (QS rfl) wb
  refine cf h75 ?_
  refine sn (qs (sr (am (aw xq (nwq [75,11,9,2] ?_)))))
  obtain ⟨h76,hF⟩|⟨h76,hF⟩:=oi hF
  ·refine ct h76 ?_
   refine sr ?_
   refine aw (Qw (zs:=Cd.cs Qb zv9) (cs:=Cd.cs Qb zv9) underlying57 zeroValue57 rfl (Qz) rfl rfl) ?_
   refine Qn (c:=Qb) (z:=zv9) (.s .z) lw sizeOf57 rfl rfl rfl ?_
   refine aa (qn (dz (wq [3,2] ?_)))
   refine tn (rt ?_)
   have K:=os hF
   subst K
   exact QU rfl (QE (c:=Qb) (y:=zv9) rfl .z lw isAgg57 sizeOf57 (.inl rfl)) (QS rfl) wb
  refine cf h76 ?_
  refine sns ?_
  refine aw (Qg (c:=Qd) (z:=t71.1) isAgg55 sizeOf55 rfl (Qp .z lw)) ?_
  refine am ?_
  refine aw (QaW underlying41 underlying3 rfl) ?_
  refine aw (Qw (zs:=Cd.cs Qb zv9) (cs:=Cd.cs Qb ({ { zv9 with f_A:=t71.1 } with f_Port:=wr .i64 t74.1 })) underlying57 zeroValue57 rfl (Qz) rfl (QaB (c:=Qd) (z:=t71.1) rfl (Qay zv9) rfl (QaB (c:=(Qv .i64)) (z:=wr .i64 t74.1) rfl (Qaq ({ zv9 with f_A:=t71.1 })) rfl rfl))) ?_
  refine Qn (c:=Qb) (z:={ { zv9 with f_A:=t71.1 } with f_Port:=wr .i64 t74.1 }) (.s .z) lw sizeOf57 rfl rfl rfl ?_
  refine aa (qn (dz (wq [3,2] ?_)))
  refine tn (qt ?_)
  have K:=os hF
  subst K
  exact QU rfl (QE (c:=Qb) (y:={ { zv9 with f_A:=t71.1 } with f_Port:=wr .i64 t74.1 }) rfl .z lw isAgg57 sizeOf57 (.inl rfl)) (QS rfl) wb
 refine cf h60 ?_
 refine sn (qs (sr (am ?_)))
 refine aw (Qcq rfl) ?_
 refine am ?_
 obtain ⟨h77,hF⟩|⟨h77,hF⟩:=oi hF
 ·refine fx 47 h77 ?_
  refine gn ?_
  refine gn ?_
  refine gn ?_
  refine gn ?_
  refine gn ?_
  refine gn ?_
  refine aw xp (qn (dz (wq [54,5,4,2] ?_)))
  refine tn ?_
  refine ct rfl ?_
  refine sr ?_
  refine aw (Qw (zs:=Cd.cs Qb zv9) (cs:=Cd.cs Qb zv9) underlying57 zeroValue57 rfl (Qz) rfl rfl) ?_
  refine Qn (c:=Qb) (z:=zv9) .z lw sizeOf57 rfl rfl rfl ?_
  refine aa (nwq [3,2] ?_)
  refine rt ?_
  have K:=os hF
  subst K
  exact QU rfl (QE (c:=Qb) (y:=zv9) rfl .z lw isAgg57 sizeOf57 (.inl rfl)) (QS rfl) wb
 refine fx 47 h77 ?_
 refine gy (am (gy ?_))
 obtain ⟨t78,ht78,hF⟩:=bM hF
 refine QbU (c:=QbA) (e:=9) (ys:=t78) (V:=fun p cap=>.slice p t78.length cap) func19 rfl (by kernel_rfl) rfl rfl (fun w hw=>Qak _ _ _ ht78 w) ?_
 intro p79 c80
 refine gy ?_
 refine aw (QZ underlying46 rfl) ?_
 refine gy ?_
 refine aw (QbI rfl rfl) ?_
 refine gy (am (gy ?_))
 refine aw (QkN underlying4 rfl rfl (.inr rfl) rfl) ?_
 refine aw xp (qn (dz (dz (wq [54,5,4,2] ?_))))
 refine tn ?_
 obtain ⟨h81,hF⟩|⟨h81,hF⟩:=oi hF
 ·refine ct h81 ?_
  refine sr ?_
  refine aw (Qw (zs:=Cd.cs Qb zv9) (cs:=Cd.cs Qb zv9) underlying57 zeroValue57 rfl (Qz) rfl rfl) ?_
  refine Qn (c:=Qb) (z:=zv9) .z lw sizeOf57 rfl rfl rfl ?_
  refine aa (nwq [3,2] ?_)
  refine rt ?_
  have K:=os hF
  subst K
  exact QU rfl (QE (c:=Qb) (y:=zv9) rfl .z lw isAgg57 sizeOf57 (.inl rfl)) (QS rfl) wb
 refine cf h81 ?_
 refine sns (am ?_)
 obtain ⟨t82,ht82,hF⟩:=bM hF
 refine cB func88 rfl (fun w hw=>Qb0 _ _ ht82 w) ?_
 refine am ?_
 refine aw xe (aw xe ?_)
 refine al (cs:=Cd.cs Qd zv2) zeroValue55 ?_
 intro b83
 refine Qn (c:=Qd) (z:=t82.1) .z lw sizeOf55 rfl rfl rfl ?_
 refine aa (nt (qs (sr (am (aw xn (nwq [62,10,9,5,2] ?_))))))
 obtain ⟨h84,hF⟩|⟨h84,hF⟩:=oi hF
 ·refine ct h84 ?_
  refine sr ?_
  refine aw (Qw (zs:=Cd.cs Qb zv9) (cs:=Cd.cs Qb zv9) underlying57 zeroValue57 rfl (Qz) rfl rfl) ?_
  refine am ?_
  refine Qn (c:=Qb) (z:=zv9) (.s .z) lw sizeOf57 rfl rfl rfl ?_
  refine aa (qn (dz (wq [3,2] ?_)))
  refine tn (rt ?_)
  have K:=os hF
  subst K
  exact QU rfl (QE (c:=Qb) (y:=zv9) rfl .z lw isAgg57 sizeOf57 (.inl rfl)) (QS rfl) wb
 refine cf h84 ?_
 refine sns (am ?_)
 obtain ⟨t85,ht85,hF⟩:=bM hF
 refine Qav func21 rfl (by kernel_rfl) rfl rfl (fun w=>Qah _ _ _ ht85 w) ?_
 refine am ?_
 refine aw xe (aw xe (aa (aa (nt (qs (sr (am (aw xn ?_))))))))
 refine nwq [71,12,11,9,2] ?_
 obtain ⟨h86,hF⟩|⟨h86,hF⟩:=oi hF
 ·refine ct h86 ?_
  refine sr ?_
  refine aw (Qw (zs:=Cd.cs Qb zv9) (cs:=Cd.cs Qb zv9) underlying57 zeroValue57 rfl (Qz) rfl rfl) ?_
  refine am ?_
  refine Qn (c:=Qb) (z:=zv9) (.s .z) lw sizeOf57 rfl rfl rfl ?_
  refine aa (qn (dz (wq [3,2] ?_)))
  refine tn (rt ?_)
  have K:=os hF
  subst K
  exact QU rfl (QE (c:=Qb) (y:=zv9) rfl .z lw isAgg57 sizeOf57 (.inl rfl)) (QS rfl) wb
 refine cf h86 ?_
 refine sn (qs (sr (am (aw xq (nwq [75,11,9,2] ?_)))))
 obtain ⟨h87,hF⟩|⟨h87,hF⟩:=oi hF
 ·refine ct h87 ?_
  refine sr ?_
  refine aw (Qw (zs:=Cd.cs Qb zv9) (cs:=Cd.cs Qb zv9) underlying57 zeroValue57 rfl (Qz) rfl rfl) ?_
  refine Qn (c:=Qb) (z:=zv9) (.s .z) lw sizeOf57 rfl rfl rfl ?_
  refine aa (qn (dz (wq [3,2] ?_)))
  refine tn (rt ?_)
  have K:=os hF
  subst K
  exact QU rfl (QE (c:=Qb) (y:=zv9) rfl .z lw isAgg57 sizeOf57 (.inl rfl)) (QS rfl) wb
 refine cf h87 ?_
 refine sns ?_
 refine aw (Qg (c:=Qd) (z:=t82.1) isAgg55 sizeOf55 rfl (Qp .z lw)) ?_
 refine am ?_
 refine aw (QaW underlying41 underlying3 rfl) ?_
 refine aw (Qw (zs:=Cd.cs Qb zv9) (cs:=Cd.cs Qb ({ { zv9 with f_A:=t82.1 } with f_Port:=wr .i64 t85.1 })) underlying57 zeroValue57 rfl (Qz) rfl (QaB (c:=Qd) (z:=t82.1) rfl (Qay zv9) rfl (QaB (c:=(Qv .i64)) (z:=wr .i64 t85.1) rfl (Qaq ({ zv9 with f_A:=t82.1 })) rfl rfl))) ?_
 refine Qn (c:=Qb) (z:={ { zv9 with f_A:=t82.1 } with f_Port:=wr .i64 t85.1 }) (.s .z) lw sizeOf57 rfl rfl rfl ?_
 refine aa (qn (dz (wq [3,2] ?_)))
 refine tn (qt ?_)
 have K:=os hF
 subst K
 exact QU rfl (QE (c:=Qb) (y:={ { zv9 with f_A:=t82.1 } with f_Port:=wr .i64 t85.1 }) rfl .z lw isAgg57 sizeOf57 (.inl rfl)) (QS rfl) wb
end Go.Proofs.YtnekckhjmnhinaaGreatDoor
namespace Go.Proofs.YtnekckhjmnhinaaGreatDoor.Cid
open E Go.RowKit
open Adr AdrT
theorem Qtq{V b:Int}{l:List UInt8}(hl:l.length=16):QcF (mkA V l) b=some (ofP V l b):=by
 unfold QcF ofP
 rw [QfI hl,Qa]
 have hw:=Qe3 (V:=V) (l:=l)
 cases hr:QbW V l with
 | false=>rfl
 | true =>
  rw [if_neg (show ¬ (!true)=true by decide),if_pos rfl]
  by_cases h0:b<0
  ·have hf:¬ Qkp V l b=true:=fun h=>by have:=(fits_iff.1 h).2.1;omega
   rw [if_pos (decide_eq_true h0),if_neg hf];rfl
  ·rw [if_neg (by rw [decide_eq_true_eq];exact h0),QgE hl,Qa]
   by_cases h1:b>(QbL V l:Int)
   ·have hf:¬ Qkp V l b=true:=fun h=>by have:=(fits_iff.1 h).2.2;omega
    rw [if_pos (decide_eq_true h1),if_neg hf];rfl
   ·have hf:Qkp V l b=true:=fits_iff.2 ⟨hr,by omega,by omega⟩
    rw [if_neg (by rw [decide_eq_true_eq];exact h1),Qoz hl,Qa,if_pos hf]
    unfold Qnt
    rw [if_pos hr];rfl
theorem Qo3{V:Int}{l:List UInt8}(hl:l.length=16):QfU (mkA V l)=some (ofP V l (QbL V l:Int)).1:=by
 unfold QfU
 rw [QfF hl,Qa,Qlq hl,Qa]
theorem Qm8{V b:Int}{l:List UInt8}(hl:l.length=16)(hr:QbW V l=true):QbL V (QdD l b)=QbL V l:=by
 unfold QbL
 rw [if_pos hr,if_pos (QjN hl hr)]
theorem rightP_of{V b:Int}{l:List UInt8}(hl:l.length=16)(hf:Qkp V l b=true):rightP V (QdD l b) b=true:=by
 obtain ⟨hr,h0,h1⟩:=fits_iff.1 hf
 exact rightP_iff.2 ⟨⟨QjN hl hr,h0,by rw [Qm8 hl hr];exact h1⟩,Qpl l b⟩
theorem bs_app(l k:List UInt8):bs l++bs k=bs (l++k):=by apply Qde;rw [Qa0,QaJ,QaJ,QaJ]
theorem fmtU_bs(k:Nat):Qga (k:Int)=bs (Lib.decDigits k):=by apply Qde;rw [Qdr,QaJ]
def cidT(V:Int)(l:List UInt8)(b:Nat):List UInt8:=Qk8 V l++47::Lib.decDigits b
theorem cidT_len{V:Int}{l:List UInt8}(hl:l.length=16)(b:Nat)(hb:b≤128):(cidT V l b).length≤70:=by
 have h1:=Qhl (V:=V) hl
 have h2:=QdM b (by omega)
 unfold cidT
 simp only [List.length_append,List.length_cons];omega
theorem ctext_code{V b:Int}{l:List UInt8}(hl:l.length=16):Qfr (mkP (mkA V l) b)=some (bs (if rightP V l b=true then cidT V l b.toNat else [])):=by
 unfold Qfr
 rw [cright_code hl,Qa]
 cases hr:rightP V l b with
 | false=>rw [if_pos (show (!false)=true from rfl)];rfl
 | true =>
  obtain ⟨⟨hrl,h0,h1⟩,_⟩:=rightP_iff.1 hr
  have hw:=Qe3 (V:=V) (l:=l)
  obtain ⟨k,rfl⟩:=Int.eq_ofNat_of_zero_le h0
  have ht:=Qhl (V:=V) hl
  have hd:=QdM k (by omega)
  have b47:(⟨#[47]⟩:ByteArray)=bs [47]:=rfl
  rw [if_neg (show ¬ (!true)=true by decide),if_pos rfl,Int.toNat_natCast]
  show (Qd3 (mkA V l)>>=fun t4=>if t4.size+(⟨#[47]⟩:ByteArray).size≤140737488355328 then Qbi (wr .u64 (k:Int))>>=fun t6=>if (t4++(⟨#[47]⟩:ByteArray)).size+t6.size≤140737488355328 then some ((t4++(⟨#[47]⟩:ByteArray))++t6) else none else none)=_
  rw [Qm2 hl,Qa,b47,if_pos (by rw [QT,QT];simp only [List.length_cons,List.length_nil];omega),QcI (by omega) (by omega),QeK k (by omega),Qa,fmtU_bs,bs_app,if_pos (by rw [QT,QT,List.length_append];simp only [List.length_cons,List.length_nil];omega),bs_app]
  unfold cidT
  rw [List.append_assoc];rfl
theorem ctext_ref{V b:Int}{l:List UInt8}(hl:l.length=16):Qch (mkP (mkA V l) b)=some (bs (if rightP V l b=true then cidT V l b.toNat else [])):=by
 unfold Qch
 rw [Qk0 hl,Qa]
 cases hr:rightP V l b with
 | false=>rw [if_pos (show (!false)=true from rfl)];rfl
 | true =>
  obtain ⟨⟨hrl,h0,h1⟩,_⟩:=rightP_iff.1 hr
  have hw:=Qe3 (V:=V) (l:=l)
  obtain ⟨k,rfl⟩:=Int.eq_ofNat_of_zero_le h0
  have ht:=Qhl (V:=V) hl
  have hd:=QdM k (by omega)
  have b47:(⟨#[47]⟩:ByteArray)=bs [47]:=rfl
  rw [if_neg (show ¬ (!true)=true by decide),if_pos rfl,Int.toNat_natCast]
  show (Qbu (mkA V l)>>=fun t4=>if t4.size+(⟨#[47]⟩:ByteArray).size≤140737488355328 then Qab (wr .u64 (k:Int))>>=fun t6=>if (t4++(⟨#[47]⟩:ByteArray)).size+t6.size≤140737488355328 then some ((t4++(⟨#[47]⟩:ByteArray))++t6) else none else none)=_
  rw [QkI hl,Qa,b47,if_pos (by rw [QT,QT];simp only [List.length_cons,List.length_nil];omega),QcI (by omega) (by omega),Qf0 k (by omega),Qa,fmtU_bs,bs_app,if_pos (by rw [QT,QT,List.length_append];simp only [List.length_cons,List.length_nil];omega),bs_app]
  unfold cidT
  rw [List.append_assoc];rfl
theorem QvV:∀ n:Fin 16,Hex.dg n.1≠47:=by decide +kernel
theorem QvM(n:Nat):∀ x∈Col.g1 n,x≠47:=by
 induction n using Nat.strongRecOn with
 | _ n ih =>
  intro x hx
  unfold Col.g1 Hex.grp at hx
  split at hx
  ·next h =>
   simp only [Hex.dig,List.mem_singleton] at hx
   subst hx
   exact QvV ⟨n,h⟩
  ·next h =>
   rw [Qa0] at hx
   rcases List.mem_append.1 hx with hx | hx
   ·exact ih _ (show n/16<n by omega) x hx
   ·simp only [Hex.dig,List.mem_singleton] at hx
    subst hx
    exact QvV ⟨n%16,by omega⟩
theorem Qlj:∀ (G:List Nat),∀ x∈Col.rowL G,x≠47
 | [],x,h=>by cases h
 | [n],x,h=>QvM n x h
 | n::m::r,x,h=>by
  rcases List.mem_append.1 h with h | h
  ·exact QvM n x h
  ·rcases List.mem_cons.1 h with rfl | h
   ·decide
   ·exact Qlj (m::r) x h
theorem Qsd(G:List Nat):∀ x∈Col.textL G,x≠47:=by
 intro x h
 unfold Col.textL at h
 split at h
 ·exact Qlj _ x h
 ·rcases List.mem_append.1 h with h | h
  ·exact Qlj _ x h
  ·rcases List.mem_cons.1 h with rfl | h
   ·decide
   ·rcases List.mem_cons.1 h with rfl | h
    ·decide
    ·exact Qlj _ x h
theorem QoT(n:Nat):∀ x∈Lib.decDigits n,x≠47:=fun x hx=>by
 have:=QdG.1 (List.all_eq_true.1 (QdN n) x hx)
 intro e;subst e
 have:(47:UInt8).toNat=47:=rfl
 omega
theorem Qsu{m:List UInt8}(hm:m.length=4):∀ x∈Qf4 m,x≠47:=by
 intro x hx
 match m,hm with
 | [a,b,c,d],_ =>
  have hx':x∈Lib.decDigits a.toNat++46::(Lib.decDigits b.toNat++46::(Lib.decDigits c.toNat++46::Lib.decDigits d.toNat)):=hx
  simp only [List.mem_append,List.mem_cons] at hx'
  rcases hx' with h | h | h | h | h | h | h
  ·exact QoT _ x h
  ·subst h;decide
  ·exact QoT _ x h
  ·subst h;decide
  ·exact QoT _ x h
  ·subst h;decide
  ·exact QoT _ x h
theorem QuN{V:Int}{l:List UInt8}(hl:l.length=16):∀ x∈Qk8 V l,x≠47:=by
 intro x hx
 unfold Qk8 at hx
 split at hx
 ·split at hx
  ·exact Qsu (by rw [List.length_take];omega) x hx
  ·exact Qsd _ x hx
 ·cases hx
def f47:List UInt8→Option (List UInt8×List UInt8)
 | []=>none
 | c::r=>if c=47 then some ([],r) else (f47 r).map fun q=>(c::q.1,q.2)
theorem QoP(r:List UInt8):∀ (p:List UInt8),(∀ x∈p,x≠47)→f47 (p++47::r)=some (p,r)
 | [],_=>by
  show (if (47:UInt8)=47 then some ([],r) else _)=_
  rw [if_pos rfl]
 | c::p,h=>by
  show (if c=47 then _ else (f47 (p++47::r)).map _)=_
  rw [if_neg (h c (List.mem_cons_self ..)),QoP r p fun x hx=>h x (List.mem_cons_of_mem _ hx)];rfl
theorem QlN:∀ (l:List UInt8),(∀ x∈l,x≠47)→f47 l=none
 | [],_=>rfl
 | c::r,h=>by
  unfold f47
  rw [if_neg (h c (List.mem_cons_self ..)),QlN r fun x hx=>h x (List.mem_cons_of_mem _ hx)];rfl
def wd(A:Qj):Nat:=((Qdv A).getD 0).toNat
def ofA(A:Qj)(b:Int):Qo×Int:=(QfD A b).getD (zP,0)
theorem wd_mkA{V:Int}{l:List UInt8}(hl:l.length=16):wd (mkA V l)=QbL V l:=by
 unfold wd
 rw [QfF hl];rfl
theorem ofA_mkA{V b:Int}{l:List UInt8}(hl:l.length=16):ofA (mkA V l) b=ofP V l b:=by
 unfold ofA
 rw [Qlq hl];rfl
def cidP(l:List UInt8):Qo×Int:=match f47 l with
 | none=>if (Qgi l).2=0 then ofA (Qgi l).1 (wd (Qgi l).1:Int) else (zP,(Qgi l).2)
 | some (h,p)=>if (Qgi h).2=0 then (if (rdU p (wd (Qgi h).1)).2=0 then ofA (Qgi h).1 ((rdU p (wd (Qgi h).1)).1:Int) else (zP,((rdU p (wd (Qgi h).1)).2:Int))) else (zP,(Qgi h).2)
theorem Qo2{V:Int}{l:List UInt8}(hr:QbW V l=true):Qkp V l (QbL V l:Int)=true:=fits_iff.2 ⟨hr,by omega,by omega⟩
theorem cid_parse(l:List UInt8)(hl:l.length<100000):Qfe (bs l)=some (cidP l):=by
 unfold Qfe cidP
 have h47:((47:UInt8).toNat:Int)=47:=rfl
 rcases QdA 47 l with h2 | ⟨h,r,rfl,h2⟩
 ·have hcut:=QeH l 47 h2
  rw [h47] at hcut
  rw [hcut,Qa,QlN l h2]
  show (Qee (bs l)>>=fun t3=>_)=_
  rw [QiS l (by omega),Qa]
  by_cases h0:(Qgi l).2=0
  ·obtain ⟨V,k,hA,hk,hr⟩:=QeD h0
   have e:((Qgi l).2 != 0)=false:=by rw [h0];rfl
   rw [e,if_neg Bool.false_ne_true,if_pos (show (!false)=true from rfl),hA,Qo3 hk,Qa]
   simp only [h0,if_true]
   rw [wd_mkA hk,ofA_mkA hk]
   unfold ofP
   rw [if_pos hr,if_pos (Qo2 hr)]
  ·have e:((Qgi l).2 != 0)=true:=by rw [bne_iff_ne];exact h0
   rw [e,if_pos rfl]
   simp only [h0,if_false];rfl
 ·have hlen:(h++47::r).length=h.length+(r.length+1):=by simp
  have hcut:=Qii h r 47 h2 (by omega)
  rw [h47] at hcut
  rw [hcut,Qa,QoP r h h2]
  show (Qee (bs h)>>=fun t3=>_)=_
  rw [QiS h (by omega),Qa]
  by_cases h0:(Qgi h).2=0
  ·obtain ⟨V,k,hA,hk,hr⟩:=QeD h0
   have hw:=Qe3 (V:=V) (l:=k)
   have e:((Qgi h).2 != 0)=false:=by rw [h0];rfl
   rw [e,if_neg Bool.false_ne_true,if_neg (show ¬ (!true)=true by decide),hA,QfF hk,Qa]
   simp only [h0,if_true]
   rw [hA,wd_mkA hk]
   have hrd:=QhY (bs r) (QbL V k) (by rw [QT];omega) (by omega)
   rw [QaJ] at hrd
   have hle:=Qgl r (QbL V k)
   rw [QcI (by omega) (by omega)]
   show (QcP (bs r) ((QbL V k:Nat):Int)>>=fun t9=>_)=_
   rw [hrd,Qa]
   show (if ((((rdU r (QbL V k)).2:Nat):Int) != 0)=true then some (zP,(((rdU r (QbL V k)).2:Nat):Int)) else (QfD (mkA V k) (wr .i64 (((rdU r (QbL V k)).1:Nat):Int))>>=fun t11=>some (t11.1,t11.2)))=_
   by_cases h3:(rdU r (QbL V k)).2=0
   ·have e3:((((rdU r (QbL V k)).2:Nat):Int) != 0)=false:=by rw [h3];rfl
    rw [e3,if_neg Bool.false_ne_true,if_pos h3,QX (by omega) (by omega),Qlq hk,Qa,ofA_mkA hk]
   ·have e3:((((rdU r (QbL V k)).2:Nat):Int) != 0)=true:=by rw [bne_iff_ne];omega
    rw [e3,if_pos rfl,if_neg h3]
  ·have e:((Qgi h).2 != 0)=true:=by rw [bne_iff_ne];exact h0
   rw [e,if_pos rfl]
   simp only [h0,if_false];rfl
theorem cid_parse_ref(l:List UInt8)(hl:l.length<100000):Qcv (bs l)=some (cidP l):=by
 unfold Qcv cidP
 have hp:=Qei 47 l (by omega)
 rw [show ((47:UInt8).toNat:Int)=47 from rfl] at hp
 rw [hp,Qa]
 have hne:=Qdn 47 l
 have hg0:(0:Int)≤0∧(0:Int)<(((QM 47 l).map bs).length:Int):=by
  rw [List.length_map]
  cases hq:QM 47 l with
  | nil=>exact absurd hq hne
  | cons _ _=>simp
 rw [if_pos hg0]
 rcases QdA 47 l with h2 | ⟨h,r,rfl,h2⟩
 ·have e0:QO ((QM 47 l).map bs) 0=bs l:=by rw [Qcc 47 l h2];rfl
  have e1:(((QM 47 l).map bs).length:Int)=1:=by rw [Qcc 47 l h2];rfl
  rw [e0,e1,QlN l h2,Qf3 l hl,Qa]
  by_cases h0:(Qgi l).2=0
  ·obtain ⟨V,k,hA,hk,hr⟩:=QeD h0
   have e:((Qgi l).2 != 0)=false:=by rw [h0];rfl
   rw [e,if_neg Bool.false_ne_true,if_pos (show ((1:Int)==1)=true from rfl),hA,QgE hk,Qa,Qtq hk,Qa]
   simp only [h0,if_true]
   rw [wd_mkA hk,ofA_mkA hk]
  ·have e:((Qgi l).2 != 0)=true:=by rw [bne_iff_ne];exact h0
   rw [e,if_pos rfl]
   simp only [h0,if_false];rfl
 ·have hlen:(h++47::r).length=h.length+(r.length+1):=by simp
  have e0:QO ((QM 47 (h++47::r)).map bs) 0=bs h:=by rw [Qbp 47 r h h2];rfl
  have e1:((((QM 47 (h++47::r)).map bs).length:Int)==1)=false:=by
   rw [Qbp 47 r h h2,beq_eq_false_iff_ne,List.length_map,List.length_cons]
   have:=Qdn 47 r
   cases hq:QM 47 r with
   | nil=>exact absurd hq this
   | cons _ _=>simp only [List.length_cons];omega
  have w:wr .i64 (((bs h).size:Int)+1)=((h.length+1:Nat):Int):=by rw [QT,QX (by omega) (by omega)];omega
  have x:(bs (h++47::r)).extract (Int.toNat ((h.length+1:Nat):Int)) (Int.toNat ((bs (h++47::r)).size:Int))=bs r:=by
   rw [Int.toNat_natCast,Int.toNat_natCast,Qcn,QT,List.take_of_length_le (Nat.le_refl _),List.drop_append,List.drop_eq_nil_of_le (by omega),show h.length+1-h.length=1 by omega];rfl
  rw [e0,QoP r h h2,Qf3 h (by omega),Qa]
  by_cases h0:(Qgi h).2=0
  ·obtain ⟨V,k,hA,hk,hr⟩:=QeD h0
   have hw:=Qe3 (V:=V) (l:=k)
   have e:((Qgi h).2 != 0)=false:=by rw [h0];rfl
   rw [e,if_neg Bool.false_ne_true,e1,if_neg Bool.false_ne_true,if_pos hg0,w,if_pos (by rw [QT];omega),hA,QgE hk,Qa,x]
   simp only [h0,if_true]
   rw [hA,wd_mkA hk,QcI (by omega) (by omega)]
   have hrd:=Qjn (bs r) (QbL V k) (by rw [QT];omega) (by omega)
   rw [QaJ] at hrd
   have hle:=Qgl r (QbL V k)
   rw [hrd,Qa]
   show (if ((((rdU r (QbL V k)).2:Nat):Int) != 0)=true then some (zP,(((rdU r (QbL V k)).2:Nat):Int)) else (QcF (mkA V k) (wr .i64 (((rdU r (QbL V k)).1:Nat):Int))>>=fun t11=>some (t11.1,t11.2)))=_
   by_cases h3:(rdU r (QbL V k)).2=0
   ·have e3:((((rdU r (QbL V k)).2:Nat):Int) != 0)=false:=by rw [h3];rfl
    rw [e3,if_neg Bool.false_ne_true,if_pos h3,QX (by omega) (by omega),Qtq hk,Qa,ofA_mkA hk]
   ·have e3:((((rdU r (QbL V k)).2:Nat):Int) != 0)=true:=by rw [bne_iff_ne];omega
    rw [e3,if_pos rfl,if_neg h3]
  ·have e:((Qgi h).2 != 0)=true:=by rw [bne_iff_ne];exact h0
   rw [e,if_pos rfl]
   simp only [h0,if_false];rfl
theorem cidP_text{V:Int}{l:List UInt8}(hl:l.length=16)(b:Nat)(hr:rightP V l (b:Int)=true):cidP (cidT V l b)=(mkP (mkA V l) (b:Int),0):=by
 obtain ⟨⟨hrl,h0,h1⟩,hm⟩:=rightP_iff.1 hr
 unfold cidP cidT
 rw [QoP _ _ (QuN hl)]
 simp only
 rw [QiW hl hrl]
 simp only [if_true]
 have hrd:rdU (Lib.decDigits b) (QbL V l)=(b,0):=by rw [Qjo,if_pos (by omega)]
 rw [wd_mkA hl,hrd]
 simp only [if_true]
 rw [ofA_mkA hl]
 unfold ofP
 rw [if_pos hrl,if_pos (fits_iff.2 ⟨hrl,h0,h1⟩),hm]
end Go.Proofs.YtnekckhjmnhinaaGreatDoor.Cid
namespace Go.Proofs.YtnekckhjmnhinaaGreatDoor.Host
open E Go.RowKit
open Adr AdrT
def isB:List UInt8→Bool
 | x::y::_=>x==93&&y==58
 | _=>false
theorem Qre(r:List UInt8):isB r=true↔∃ r2,r=93::58::r2:=by
 match r with
 | []=>simp [isB]
 | [x]=>simp [isB]
 | x::y::r=>simp [isB]
def QiN:List UInt8→Option (List UInt8×List UInt8)
 | []=>none
 | c::r=>if isB (c::r)=true then some ([],r.drop 1) else (QiN r).map fun q=>(c::q.1,q.2)
theorem QlR:∀ {l a b:List UInt8},QiN l=some (a,b)→l=a++93::58::b
 | [],_,_,h=>by cases h
 | c::r,a,b,h=>by
  unfold QiN at h
  split at h
  ·next hc =>
   obtain ⟨r2,hr⟩:=(Qre _).1 hc
   cases h
   rw [hr]
   obtain ⟨_,rfl⟩:=List.cons.inj hr
   rfl
  ·obtain ⟨q,hq,h⟩:=Option.map_eq_some_iff.1 h
   obtain ⟨a',b'⟩:=q
   cases h
   rw [QlR hq];rfl
theorem Qt3(l:List UInt8):List.isPrefixOf [93,58] l=isB l:=by
 match l with
 | []=>rfl
 | [x]=>simp [List.isPrefixOf,isB]
 | x::y::r=>simp only [List.isPrefixOf,isB,Bool.and_true];rw [BEq.comm (a:=(93:UInt8)),BEq.comm (a:=(58:UInt8))]
theorem QmM:∀ (l:List UInt8),Lib.index l [93,58]=match QiN l with | some (a,_)=>(a.length:Int) | none=>-1
 | []=>rfl
 | c::r=>by
  unfold Lib.index QiN
  rw [Qt3]
  by_cases h:isB (c::r)=true
  ·rw [if_pos h,if_pos h];rfl
  ·rw [if_neg h,if_neg h,QmM r]
   cases QiN r with
   | none=>rfl
   | some q =>
    obtain ⟨a,b⟩:=q
    have:(((a.length:Nat):Int) == -1)=false:=by rw [beq_eq_false_iff_ne];omega
    simp only [Option.map_some,List.length_cons]
    rw [this,if_neg Bool.false_ne_true]
    exact (Int.natCast_succ _).symm
theorem Qug(l:List UInt8):Lib.cut l [93,58]=match QiN l with | some (a,b)=>(a,b,true) | none=>(l,[],false):=by
 unfold Lib.cut
 rw [QmM]
 cases h:QiN l with
 | none=>rfl
 | some q =>
  obtain ⟨a,b⟩:=q
  have hl:=QlR h
  simp only
  rw [if_pos (by omega),Int.toNat_natCast]
  have e1:l.take a.length=a:=by rw [hl];exact List.take_left' rfl
  have e2:l.drop (a.length+([93,58]:List UInt8).length)=b:=by
   rw [hl,List.drop_append,List.drop_eq_nil_of_le (by omega)]
   simp only [List.length_cons,List.length_nil,List.nil_append]
   rw [show a.length+(0+1+1)-a.length=2 by omega];rfl
  rw [e1,e2]
theorem QtQ(l:List UInt8):Qmb (bs l) (⟨#[93,58]⟩:ByteArray)=match QiN l with | some (a,b)=>(bs a,bs b,true) | none=>(bs l,bs [],false):=by
 have h:=Qug l
 unfold Qmb
 rw [QaJ]
 show ((⟨(Lib.cut l [93,58]).1.toArray⟩:ByteArray),(⟨(Lib.cut l [93,58]).2.1.toArray⟩:ByteArray),(Lib.cut l [93,58]).2.2)=_
 rw [h]
 cases QiN l with
 | none=>rfl
 | some q=>rfl
theorem QnI(l:List UInt8):decide (0≤Lib.indexByte l 58)=Qid l:=by
 cases hc:Qid l with
 | true =>
  obtain ⟨p,r,rfl,hp⟩:=(Qic l).1 hc
  rw [QlG p r 58 hp]
  exact decide_eq_true (by omega)
 | false =>
  have:=QeH l 58 (Qj6 hc)
  have h1:=Lib.indexByte_ge l 58
  refine decide_eq_false fun h=>?_
  obtain ⟨o,ho⟩:=Int.eq_ofNat_of_zero_le h
  have:=(Lib.indexByte_some ho).1
  exact Qj6 hc 58 (List.mem_of_getElem? this) rfl
def f58:List UInt8→Option (List UInt8×List UInt8)
 | []=>none
 | c::r=>if c=58 then some ([],r) else (f58 r).map fun q=>(c::q.1,q.2)
theorem QmQ(r:List UInt8):∀ (p:List UInt8),(∀ x∈p,x≠58)→f58 (p++58::r)=some (p,r)
 | [],_=>by
  show (if (58:UInt8)=58 then some ([],r) else _)=_
  rw [if_pos rfl]
 | c::p,h=>by
  show (if c=58 then _ else (f58 (p++58::r)).map _)=_
  rw [if_neg (h c (List.mem_cons_self ..)),QmQ r p fun x hx=>h x (List.mem_cons_of_mem _ hx)];rfl
theorem Qju:∀ (l:List UInt8),(∀ x∈l,x≠58)→f58 l=none
 | [],_=>rfl
 | c::r,h=>by
  unfold f58
  rw [if_neg (h c (List.mem_cons_self ..)),Qju r fun x hx=>h x (List.mem_cons_of_mem _ hx)];rfl
def six(l:List UInt8):Bool:=l.head? == some 91
def Qr2(l:List UInt8):Option (List UInt8×List UInt8):=if six l=true then (QiN (l.drop 1)).bind fun q=>if Qid q.1=true then some q else none else f58 l
theorem QrG(l:List UInt8):Qdf (bs l) (⟨#[91]⟩:ByteArray)=some (if six l=true then (bs (l.drop 1),true) else (bs l,false)):=by
 have hp:Qbw (bs l) (⟨#[91]⟩:ByteArray)=some (six l):=by
  unfold Qbw
  cases l with
  | nil=>rw [if_neg (by decide)];rfl
  | cons x r =>
   have hsz:(bs (x::r)).size=r.length+1:=QT _
   have h1:((⟨#[91]⟩:ByteArray).size:Int)=1:=rfl
   rw [h1,hsz,if_pos (decide_eq_true (by omega)),if_pos (by omega)]
   refine congrArg some ?_
   show seq ((bs (x::r)).extract 0 1) (bs [91])=_
   rw [Qcn]
   by_cases hx:x=91
   ·subst hx
    exact Qg7 _
   ·have hf:six (x::r)=false:=by simp [six,hx]
    rw [hf]
    cases hc:seq (bs ((List.take 1 (x::r)).drop 0)) (bs [91]) with
    | false=>rfl
    | true =>
     have:=Qk1 ((QeW _ _).1 hc)
     simp at this
     exact absurd this hx
 unfold Qdf Qc2
 rw [hp,Qa]
 cases h:six l with
 | false=>rfl
 | true =>
  have hne:1≤l.length:=by
   cases l with
   | nil=>cases h
   | cons x r=>simp
  have h1:((⟨#[91]⟩:ByteArray).size:Int)=1:=rfl
  have hx:(bs l).extract (Int.toNat 1) (Int.toNat ((bs l).size:Int))=bs (l.drop 1):=by
   rw [Int.toNat_natCast,Qcn,QT,List.take_of_length_le (Nat.le_refl _)];rfl
  rw [if_neg (by decide),h1,if_pos (by rw [QT];omega),hx];rfl
theorem Qro(l:List UInt8)(hl:l.length<1000000):∃ a b,QdE (bs l)=some (a,b,(Qr2 l).isSome)∧∀ h p,Qr2 l=some (h,p)→a=bs h∧b=bs p:=by
 unfold QdE Qr2
 rw [QrG,Qa]
 cases h6:six l with
 | true =>
  have hd:(l.drop 1).length<1000000:=by rw [List.length_drop];omega
  rw [if_pos rfl]
  show ∃ a b,(if true=true then (if (bs (l.drop 1)).size<4294967281 then if (Qmb (bs (l.drop 1)) (⟨#[93,58]⟩:ByteArray)).2.2=true then some ((Qmb (bs (l.drop 1)) (⟨#[93,58]⟩:ByteArray)).1,(Qmb (bs (l.drop 1)) (⟨#[93,58]⟩:ByteArray)).2.1,decide (0≤Lib.indexByte (Qmb (bs (l.drop 1)) (⟨#[93,58]⟩:ByteArray)).1.data.toList 58)) else some ((Qmb (bs (l.drop 1)) (⟨#[93,58]⟩:ByteArray)).1,(Qmb (bs (l.drop 1)) (⟨#[93,58]⟩:ByteArray)).2.1,false) else none) else _)=_∧_
  rw [if_pos rfl,if_pos (by rw [QT];omega),QtQ]
  cases hc:QiN (l.drop 1) with
  | none =>
   exact ⟨_,_,rfl,fun h p e=>by cases e⟩
  | some q =>
   obtain ⟨a,b⟩:=q
   simp only [if_true,QaJ,QnI,Option.bind_some]
   cases Qid a with
   | true=>exact ⟨_,_,rfl,fun h p e=>by cases e;exact ⟨rfl,rfl⟩⟩
   | false=>exact ⟨_,_,rfl,fun h p e=>by cases e⟩
 | false =>
  have hb:bt (⟨#[58]⟩:ByteArray) 0=58:=rfl
  rw [if_neg Bool.false_ne_true]
  show ∃ a b,(if false=true then _ else (if (0:Int)≤0∧(0:Int)<((⟨#[58]⟩:ByteArray).size:Int) then QcV (bs l) (bt (⟨#[58]⟩:ByteArray) 0)>>=fun t6=>some (t6.1,t6.2.1,t6.2.2) else none))=_∧_
  rw [if_neg Bool.false_ne_true,if_pos (by decide),hb]
  have h58:((58:UInt8).toNat:Int)=58:=rfl
  rcases QdA 58 l with h2 | ⟨p,r,rfl,h2⟩
  ·have hcut:=QeH l 58 h2
   rw [h58] at hcut
   rw [hcut,Qa,if_neg Bool.false_ne_true,Qju l h2]
   exact ⟨_,_,rfl,fun h p e=>by cases e⟩
  ·have hcut:=Qii p r 58 h2 (by simp at hl;omega)
   rw [h58] at hcut
   rw [hcut,Qa,if_neg Bool.false_ne_true,QmQ r p h2]
   exact ⟨_,_,rfl,fun h q e=>by cases e;exact ⟨rfl,rfl⟩⟩
def mkE(A:Qj)(n:Int):Qr:={ f_A:=A,f_Port:=n }
def zE:Qr:={ f_A:=({ f_V:=(0:Int),f_B:=(Vector.replicate 16 (0:Int):(Vector Int 16)) }:Qj),f_Port:=(0:Int) }
def endQ(h p:List UInt8):Qr×Int:=if (Qgi h).2=0 then (if (rdU p 65535).2=0 then (if (rdU p 65535).1=0 then (zE,6) else (mkE (Qgi h).1 ((rdU p 65535).1:Int),0)) else (zE,((rdU p 65535).2:Int))) else (zE,(Qgi h).2)
def endP(l:List UInt8):Qr×Int:=match Qr2 l with
 | some (h,p)=>endQ h p
 | none=>(zE,5)
theorem tail_ok{P:Option (Qj×Int)}{R:Option (Int×Int)}(h p:List UInt8)(hP:P=some (Qgi h))(hR:R=some (Ql0 (rdU p 65535))) :
  (P>>=fun t4=>if (t4.2 != 0)=true then (some (zE,t4.2)) else (R>>=fun t7=>if (t7.2 != 0)=true then (some (zE,t7.2)) else (if (t7.1==0)=true then (some (zE,6)) else (some ({ { zE with f_A:=t4.1 } with f_Port:=wr .i64 t7.1 },0)))))=some (endQ h p):=by
 subst hP hR
 rw [Qa]
 unfold endQ
 have hle:=Qgl p 65535
 by_cases h1:(Qgi h).2=0
 ·have e:((Qgi h).2 != 0)=false:=by rw [h1];rfl
  rw [e,if_neg Bool.false_ne_true,if_pos h1,Qa]
  show (if ((((rdU p 65535).2:Nat):Int) != 0)=true then _ else (if ((((rdU p 65535).1:Nat):Int)==0)=true then _ else some (Qr.mk (Qgi h).1 (wr .i64 (((rdU p 65535).1:Nat):Int)),(0:Int))))=_
  by_cases h2:(rdU p 65535).2=0
  ·have e2:((((rdU p 65535).2:Nat):Int) != 0)=false:=by rw [h2];rfl
   rw [e2,if_neg Bool.false_ne_true,if_pos h2]
   by_cases h3:(rdU p 65535).1=0
   ·rw [h3,if_pos (by rfl),if_pos rfl]
   ·have e3:((((rdU p 65535).1:Nat):Int)==0)=false:=by rw [beq_eq_false_iff_ne];omega
    rw [e3,if_neg Bool.false_ne_true,if_neg h3,QX (by omega) (by omega)];rfl
  ·have e2:((((rdU p 65535).2:Nat):Int) != 0)=true:=by rw [bne_iff_ne];omega
   rw [e2,if_pos rfl,if_neg h2];rfl
 ·have e:((Qgi h).2 != 0)=true:=by rw [bne_iff_ne];exact h1
  rw [e,if_pos rfl,if_neg h1]
theorem QsR{l h p:List UInt8}(e:Qr2 l=some (h,p)):h.length≤l.length∧p.length≤l.length:=by
 unfold Qr2 at e
 split at e
 ·obtain ⟨q,hq,e⟩:=Option.bind_eq_some_iff.1 e
  split at e
  ·cases e
   have:=congrArg List.length (QlR hq)
   rw [List.length_drop,List.length_append,List.length_cons,List.length_cons] at this
   omega
  ·cases e
 ·rcases QdA 58 l with h2 | ⟨a,r,rfl,h2⟩
  ·rw [Qju l h2] at e;cases e
  ·rw [QmQ r a h2] at e
   cases e
   rw [List.length_append,List.length_cons]
   omega
theorem host_parse(l:List UInt8)(hl:l.length<100000):Qdt (bs l)=some (endP l):=by
 unfold Qdt endP
 obtain ⟨a,b,hh,hab⟩:=Qro l (by omega)
 rw [hh,Qa]
 cases hq:Qr2 l with
 | none =>
  show (if (!false)=true then _ else _)=_
  rw [if_pos (show (!false)=true from rfl)];rfl
 | some q =>
  obtain ⟨h,p⟩:=q
  obtain ⟨rfl,rfl⟩:=hab h p hq
  have hlen:=QsR hq
  show (if (!true)=true then _ else _)=_
  rw [if_neg (by decide)]
  exact tail_ok h p (QiS h (by omega)) (by
   have:=QhY (bs p) 65535 (by rw [QT];omega) (by omega)
   rw [QaJ] at this
   exact this)
theorem Qwl(x:UInt8):((x.toNat:Int)==93)=(x==93):=by
 by_cases h:x=93
 ·subst h;rfl
 ·have h2:x.toNat≠93:=fun e=>h (UInt8.toNat_inj.1 e)
  have h3:(x==93)=false:=by simp [h]
  rw [h3,beq_eq_false_iff_ne];omega
theorem Qs0(l:List UInt8)(hl:l.length<1000000):∀ (k i:Nat),l.length-i=k→i≤l.length →
  QaS.l0 (bs l) (i:Int)=some (match QiN (l.drop i) with | some (a,b)=>.ret (bs (l.take i++a),bs b,true) | none=>.nx ()):=by
 intro k
 induction k with
 | zero =>
  intro i hk hi
  have w:wr .i64 ((i:Int)+1)=((i+1:Nat):Int):=by rw [QX (by omega) (by omega)];omega
  rw [QaS.l0.eq_def,w,QT,if_neg (by rw [decide_eq_true_eq];omega),List.drop_eq_nil_of_le (by omega)];rfl
 | succ k ih =>
  intro i hk hi
  have w:wr .i64 ((i:Int)+1)=((i+1:Nat):Int):=by rw [QX (by omega) (by omega)];omega
  have w2:wr .i64 ((i:Int)+2)=((i+2:Nat):Int):=by rw [QX (by omega) (by omega)];omega
  obtain ⟨c,hc,hd⟩:=QcC l i (by omega)
  have hbc:bt (bs l) (i:Int)=(c.toNat:Int):=QkE (by rw [QaJ];exact hc)
  have hi1:=ih (i+1) (by omega) (by omega)
  have htk:l.take (i+1)=l.take i++[c]:=by rw [List.take_add_one,hc];rfl
  rw [QaS.l0.eq_def,w,QT]
  by_cases h1:i+1<l.length
  ·obtain ⟨d,hdd,hd2⟩:=QcC l (i+1) h1
   have hbd:bt (bs l) ((i+1:Nat):Int)=(d.toNat:Int):=QkE (by rw [QaJ];exact hdd)
   have hnot:∀ (hB:isB (c::d::l.drop (i+1+1))=false),QaS.l0 (bs l) ((i+1:Nat):Int)=some (match QiN (c::d::l.drop (i+1+1)) with | some (a,b)=>.ret (bs (l.take i++a),bs b,true) | none=>.nx ()):=by
    intro hB
    have e:QiN (c::d::l.drop (i+1+1))=(QiN (d::l.drop (i+1+1))).map fun q=>(c::q.1,q.2):=by
     conv=>lhs;unfold QiN
     rw [hB,if_neg Bool.false_ne_true]
    rw [hi1,e,hd2]
    cases QiN (d::l.drop (i+1+1)) with
    | none=>rfl
    | some q=>obtain ⟨a,b⟩:=q;simp [htk]
   rw [if_pos (decide_eq_true (by omega)),if_pos (by omega),hbc,Qwl,hbd,Col.u8_58,w2,hd,hd2]
   by_cases hc93:c=93
   ·subst hc93
    rw [if_pos (by rfl),if_pos (by omega)]
    by_cases hd58:d=58
    ·subst hd58
     have x1:(bs l).extract (Int.toNat 0) (Int.toNat (i:Int))=bs (l.take i):=by rw [Int.toNat_natCast,Qcn];rfl
     have x2:(bs l).extract (Int.toNat ((i+2:Nat):Int)) (Int.toNat ((l.length:Nat):Int))=bs (l.drop (i+2)):=by
      rw [Int.toNat_natCast,Int.toNat_natCast,Qcn,List.take_of_length_le (Nat.le_refl _)]
     rw [if_pos (by rfl),if_pos (by omega),if_pos (by omega),x1,x2]
     have e:QiN (93::58::l.drop (i+1+1))=some ([],l.drop (i+1+1)):=rfl
     rw [e]
     simp
    ·have hf:(d==58)=false:=by simp [hd58]
     rw [hf,if_neg Bool.false_ne_true]
     exact hnot (by simp [isB,hd58])
   ·have hf:(c==93)=false:=by simp [hc93]
    rw [hf,if_neg Bool.false_ne_true]
    exact hnot (by simp [isB,hc93])
  ·rw [if_neg (by rw [decide_eq_true_eq];omega),hd,List.drop_eq_nil_of_le (show l.length≤i+1 by omega)]
   rfl
theorem Qqu(l:List UInt8)(hl:l.length<1000000):QaS (bs l)=some (match QiN l with | some (a,b)=>(bs a,bs b,true) | none=>(bs [],bs [],false)):=by
 unfold QaS
 have h:=Qs0 l hl l.length 0 (by omega) (by omega)
 rw [show ((0:Nat):Int)=0 from rfl,List.drop_zero] at h
 rw [h,Qa]
 cases QiN l with
 | none=>rfl
 | some q=>obtain ⟨a,b⟩:=q;simp
theorem Qno(h:List UInt8)(hl:h.length<1000000):QG (bs h) 58=some ((QM 58 h).map bs):=by
 have:=Qei 58 h hl
 rwa [show ((58:UInt8).toNat:Int)=58 from rfl] at this
theorem QqZ(h:List UInt8):decide ((((QM 58 h).map bs).length:Int)>1)=Qid h:=by
 rw [List.length_map]
 cases hc:Qid h with
 | true=>exact decide_eq_true (by have:=(Qhb h).2 hc;omega)
 | false=>exact decide_eq_false fun h2=>by have:=(Qhb h).1 (by omega);rw [this] at hc;cases hc
theorem QpF(p r:List UInt8)(h:∀ x∈p,x≠58):QO ((QM 58 (p++58::r)).map bs) 0=bs p:=by
 rw [Qbp 58 r p h];rfl
theorem Qoe(p:List UInt8)(hp:p.length<1000000):QA (bs p) 65535=some (Ql0 (rdU p 65535)):=by
 have:=Qjn (bs p) 65535 (by rw [QT];omega) (by omega)
 rw [QaJ] at this
 exact this
theorem Qoj(l:List UInt8)(hl:l.length<100000)(h6:six l=false)(b:Bool)(hb:b=false) :
  (QG (bs l) 58>>=fun t18=>if (0:Int)≤0∧0<(t18.length:Int) then if (decide ((t18.length:Int)>1))=true then (if (0:Int)≤0∧0<(t18.length:Int) then if (0:Int)≤wr .i64 (((QO t18 0).size:Int)+1)∧wr .i64 (((QO t18 0).size:Int)+1)≤((bs l).size:Int)∧((bs l).size:Int)≤((bs l).size:Int) then if (!(decide ((t18.length:Int)>1)))=true then (some (zE,5)) else (QG (QO t18 0) 58>>=fun t32=>if (decide ((t32.length:Int)>1) != b)=true then (some (zE,5)) else (QaT (QO t18 0)>>=fun t36=>if (t36.2 != 0)=true then (some (zE,t36.2)) else (QA ((bs l).extract (Int.toNat (wr .i64 (((QO t18 0).size:Int)+1))) (Int.toNat ((bs l).size:Int))) 65535>>=fun t39=>if (t39.2 != 0)=true then (some (zE,t39.2)) else (if (t39.1==0)=true then (some (zE,6)) else (some ({ { zE with f_A:=t36.1 } with f_Port:=wr .i64 t39.1 },0)))))) else none else none) else (if (!(decide ((t18.length:Int)>1)))=true then (some (zE,5)) else (QG (QO t18 0) 58>>=fun t43=>if (decide ((t43.length:Int)>1) != b)=true then (some (zE,5)) else (QaT (QO t18 0)>>=fun t47=>if (t47.2 != 0)=true then (some (zE,t47.2)) else (QA (⟨#[]⟩:ByteArray) 65535>>=fun t50=>if (t50.2 != 0)=true then (some (zE,t50.2)) else (if (t50.1==0)=true then (some (zE,6)) else (some ({ { zE with f_A:=t47.1 } with f_Port:=wr .i64 t50.1 },0))))))) else none)=some (endP l):=by
 subst hb
 have hne:=Qdn 58 l
 have h0:(0:Int)≤0∧(0:Int)<(((QM 58 l).map bs).length:Int):=by
  rw [List.length_map]
  cases hq:QM 58 l with
  | nil=>exact absurd hq hne
  | cons _ _=>simp
 unfold endP Qr2
 rw [h6,if_neg Bool.false_ne_true,Qno l (by omega),Qa,if_pos h0,QqZ]
 rcases QdA 58 l with h2 | ⟨p,r,rfl,h2⟩
 ·have hc:Qid l=false:=by
   cases h:Qid l with
   | false=>rfl
   | true =>
    obtain ⟨p,r,rfl,_⟩:=(Qic l).1 h
    exact absurd rfl (h2 58 (by simp))
  rw [hc,if_neg Bool.false_ne_true,if_pos (show (!false)=true from rfl),Qju l h2]
 ·have hc:Qid (p++58::r)=true:=QlI p r
  have hpc:Qid p=false:=by
   cases h:Qid p with
   | false=>rfl
   | true =>
    obtain ⟨p',r',rfl,_⟩:=(Qic p).1 h
    exact absurd rfl (h2 58 (by simp))
  have hlen:(p++58::r).length=p.length+(r.length+1):=by simp
  have w:wr .i64 (((bs p).size:Int)+1)=((p.length+1:Nat):Int):=by rw [QT,QX (by omega) (by omega)];omega
  have x:(bs (p++58::r)).extract (Int.toNat ((p.length+1:Nat):Int)) (Int.toNat ((bs (p++58::r)).size:Int))=bs r:=by
   rw [Int.toNat_natCast,Int.toNat_natCast,Qcn,QT,List.take_of_length_le (Nat.le_refl _),List.drop_append,List.drop_eq_nil_of_le (by omega),show p.length+1-p.length=1 by omega];rfl
  rw [hc,if_pos rfl,if_pos h0,QpF p r h2,w,if_pos (by rw [QT];omega),if_neg (show ¬ (!true)=true by decide),Qno p (by omega),Qa,QqZ,hpc,if_neg (by decide),x,QmQ r p h2]
  exact tail_ok p r (Qf3 p (by omega)) (Qoe r (by omega))
theorem ref_parse12(l:List UInt8)(hl:l.length<100000):Qcu (bs l)=some (endP l):=by
 unfold Qcu
 cases l with
 | nil =>
  rw [if_neg (by decide)]
  exact Qoj [] hl rfl false rfl
 | cons x r =>
  have hb:bt (bs (x::r)) 0=(x.toNat:Int):=QkE (i:=0) (by rw [QaJ];rfl)
  have hs:(0:Int)≤0∧(0:Int)<((bs (x::r)).size:Int):=by rw [QT,List.length_cons];omega
  rw [if_pos (decide_eq_true hs.2),if_pos hs,hb]
  by_cases hx:x=91
  ·subst hx
   have e91:(((91:UInt8).toNat:Int)==91)=true:=rfl
   have hx1:(bs (91::r)).extract (Int.toNat 1) (Int.toNat ((bs (91::r)).size:Int))=bs r:=by
    rw [Int.toNat_natCast,Qcn,QT,List.take_of_length_le (Nat.le_refl _)];rfl
   have h6:six (91::r)=true:=rfl
   simp only [List.length_cons] at hl
   rw [e91,if_pos rfl,if_pos (by rw [QT,List.length_cons];omega),hx1,Qqu r (by omega),Qa]
   unfold endP Qr2
   rw [h6,if_pos rfl]
   show _=some (match (QiN r).bind fun q=>if Qid q.1=true then some q else none with | some (h,p)=>endQ h p | none=>(zE,5))
   cases hc:QiN r with
   | none=>rw [if_pos (show (!false)=true from rfl)];rfl
   | some q =>
    obtain ⟨a,b⟩:=q
    have hlen:=congrArg List.length (QlR hc)
    rw [List.length_append,List.length_cons,List.length_cons] at hlen
    simp only [Option.bind_some]
    rw [if_neg (show ¬ (!true)=true by decide),Qno a (by omega),Qa,QqZ]
    cases ha:Qid a with
    | false =>
     rw [if_pos (by decide)]
     simp only [Bool.false_eq_true,if_false];rfl
    | true =>
     rw [if_neg (by decide)]
     simp only [if_true]
     exact tail_ok a b (Qf3 a (by omega)) (Qoe b (by omega))
  ·have e91:((x.toNat:Int)==91)=false:=by
    rw [beq_eq_false_iff_ne]
    intro e
    exact hx (UInt8.toNat_inj.1 (by show x.toNat=91;omega))
   have h6:six (x::r)=false:=by simp [six,hx]
   rw [e91,if_neg Bool.false_ne_true]
   exact Qoj (x::r) hl h6 false rfl
end Go.Proofs.YtnekckhjmnhinaaGreatDoor.Host
namespace Go.Proofs.YtnekckhjmnhinaaGreatDoor.Host
open E Go.RowKit
open Adr AdrT
theorem exists_mkE(a:Qr)(h:QcU a):∃ V l n,a=mkE (mkA V l) n∧l.length=16∧(Lit.int .i64 n).wf=true:=by
 obtain ⟨V,l,hA,hl,_⟩:=QkY a.f_A h.1
 refine ⟨V,l,a.f_Port,?_,hl,h.2⟩
 cases a with | mk A n =>
 simp only at hA
 subst hA;rfl
def rightE(V:Int)(l:List UInt8)(n:Int):Bool:=QbW V l&&(decide (1≤n)&&decide (n≤65535))
theorem right_code12{V n:Int}{l:List UInt8}(hl:l.length=16):QcO (mkE (mkA V l) n)=some (rightE V l n):=by
 unfold QcO rightE
 show (Qdw (mkA V l)>>=fun t2=>if t2=true then (if decide (n≥1)=true then some (decide (n≤65535)) else some false) else some false)=_
 rw [right_code hl,Qa]
 cases QbW V l with
 | false=>rfl
 | true =>
  rw [if_pos rfl]
  by_cases h:1≤n
  ·rw [if_pos (decide_eq_true h),decide_eq_true h];rfl
  ·rw [if_neg (by rw [decide_eq_true_eq];exact h),decide_eq_false h];rfl
theorem right_ref12{V n:Int}{l:List UInt8}(hl:l.length=16):Qb6 (mkE (mkA V l) n)=some (rightE V l n):=by
 unfold Qb6 rightE
 show (Q8 (mkA V l)>>=fun t2=>if t2=true then (if decide (n≥1)=true then some (decide (n≤65535)) else some false) else some false)=_
 rw [QfI hl,Qa]
 cases QbW V l with
 | false=>rfl
 | true =>
  rw [if_pos rfl]
  by_cases h:1≤n
  ·rw [if_pos (decide_eq_true h),decide_eq_true h];rfl
  ·rw [if_neg (by rw [decide_eq_true_eq];exact h),decide_eq_false h];rfl
theorem rightE_iff{V n:Int}{l:List UInt8}(h:rightE V l n=true):QbW V l=true∧∃ k:Nat,n=(k:Int)∧1≤k∧k≤65535:=by
 unfold rightE at h
 simp only [Bool.and_eq_true,decide_eq_true_eq] at h
 exact ⟨h.1,n.toNat,by omega,by omega,by omega⟩
def hostL(V:Int)(l:List UInt8)(k:Nat):List UInt8:=if V=4 then Qk8 V l++58::Lib.decDigits k else 91::(Qk8 V l++93::58::Lib.decDigits k)
theorem QwL(k:Nat)(h:k≤65535):(Lib.decDigits k).length≤20:=QdM k (by omega)
theorem bs_app(l k:List UInt8):bs l++bs k=bs (l++k):=by apply Qde;rw [Qa0,QaJ,QaJ,QaJ]
theorem fmtU_bs(k:Nat):Qga (k:Int)=bs (Lib.decDigits k):=by apply Qde;rw [Qdr,QaJ]
theorem hostL_len{V:Int}{l:List UInt8}(hl:l.length=16)(k:Nat)(hk:k≤65535):(hostL V l k).length≤70:=by
 have h1:=Qhl (V:=V) hl
 have h2:=QwL k hk
 unfold hostL
 split<;>simp only [List.length_append,List.length_cons]<;>omega
theorem text_code12{V n:Int}{l:List UInt8}(hl:l.length=16):QdK (mkE (mkA V l) n)=some (bs (if rightE V l n=true then hostL V l n.toNat else [])):=by
 unfold QdK
 rw [right_code12 hl,Qa]
 cases hr:rightE V l n with
 | false=>rw [if_pos (show (!false)=true from rfl)];rfl
 | true =>
  obtain ⟨hrl,k,rfl,h1,h2⟩:=rightE_iff hr
  have ht:=Qhl (V:=V) hl
  have hd:=QwL k h2
  have b91:(⟨#[91]⟩:ByteArray)=bs [91]:=rfl
  have b9358:(⟨#[93,58]⟩:ByteArray)=bs [93,58]:=rfl
  have b58:(⟨#[58]⟩:ByteArray)=bs [58]:=rfl
  rw [if_neg (show ¬ (!true)=true by decide),if_pos rfl,Int.toNat_natCast]
  show (Qbi (wr .u64 (k:Int))>>=fun t4=>Qdv (mkA V l)>>=fun t5=>if (decide (t5>32))=true then (Qd3 (mkA V l)>>=fun t7=>if (⟨#[91]⟩:ByteArray).size+t7.size≤140737488355328 then if ((⟨#[91]⟩:ByteArray)++t7).size+(⟨#[93,58]⟩:ByteArray).size≤140737488355328 then if (((⟨#[91]⟩:ByteArray)++t7)++(⟨#[93,58]⟩:ByteArray)).size+t4.size≤140737488355328 then some ((((⟨#[91]⟩:ByteArray)++t7)++(⟨#[93,58]⟩:ByteArray))++t4) else none else none else none) else (Qd3 (mkA V l)>>=fun t11=>if t11.size+(⟨#[58]⟩:ByteArray).size≤140737488355328 then if (t11++(⟨#[58]⟩:ByteArray)).size+t4.size≤140737488355328 then some ((t11++(⟨#[58]⟩:ByteArray))++t4) else none else none))=_
  rw [QcI (by omega) (by omega),QeK k (by omega),Qa,QfF hl,Qa,Qm2 hl,Qa,Qa,fmtU_bs,b91,b9358,b58]
  unfold hostL QbL
  rw [if_pos hrl]
  by_cases h4:V=4
  ·rw [if_pos h4,if_pos h4,if_neg (by decide),if_pos (by rw [QT,QT];simp only [List.length_cons,List.length_nil];omega),bs_app,if_pos (by rw [QT,QT,List.length_append];simp only [List.length_cons,List.length_nil];omega),bs_app,List.append_assoc];rfl
  ·rw [if_neg h4,if_neg h4,if_pos (by decide),if_pos (by rw [QT,QT];simp only [List.length_cons,List.length_nil];omega),bs_app,if_pos (by rw [QT,QT,List.length_append];simp only [List.length_cons,List.length_nil];omega),bs_app,if_pos (by rw [QT,QT,List.length_append,List.length_append];simp only [List.length_cons,List.length_nil];omega),bs_app,List.append_assoc,List.append_assoc];rfl
theorem text_ref12{V n:Int}{l:List UInt8}(hl:l.length=16):Qcg (mkE (mkA V l) n)=some (bs (if rightE V l n=true then hostL V l n.toNat else [])):=by
 unfold Qcg
 rw [right_ref12 hl,Qa]
 cases hr:rightE V l n with
 | false=>rw [if_pos (show (!false)=true from rfl)];rfl
 | true =>
  obtain ⟨hrl,k,rfl,h1,h2⟩:=rightE_iff hr
  have ht:=Qhl (V:=V) hl
  have hd:=QwL k h2
  have b91:(⟨#[91]⟩:ByteArray)=bs [91]:=rfl
  have b93:(⟨#[93]⟩:ByteArray)=bs [93]:=rfl
  have b58:(⟨#[58]⟩:ByteArray)=bs [58]:=rfl
  rw [if_neg (show ¬ (!true)=true by decide),if_pos rfl,Int.toNat_natCast]
  show (Qab (wr .u64 (k:Int))>>=fun t4=>if (⟨#[58]⟩:ByteArray).size+t4.size≤140737488355328 then if (V==6)=true then (Qbu (mkA V l)>>=fun t7=>if (⟨#[91]⟩:ByteArray).size+t7.size≤140737488355328 then if ((⟨#[91]⟩:ByteArray)++t7).size+(⟨#[93]⟩:ByteArray).size≤140737488355328 then if (((⟨#[91]⟩:ByteArray)++t7)++(⟨#[93]⟩:ByteArray)).size+((⟨#[58]⟩:ByteArray)++t4).size≤140737488355328 then some ((((⟨#[91]⟩:ByteArray)++t7)++(⟨#[93]⟩:ByteArray))++((⟨#[58]⟩:ByteArray)++t4)) else none else none else none) else (Qbu (mkA V l)>>=fun t11=>if t11.size+((⟨#[58]⟩:ByteArray)++t4).size≤140737488355328 then some (t11++((⟨#[58]⟩:ByteArray)++t4)) else none) else none)=_
  rw [QcI (by omega) (by omega),Qf0 k (by omega),Qa,QkI hl,Qa,Qa,fmtU_bs,b91,b93,b58,if_pos (by rw [QT,QT];simp only [List.length_cons,List.length_nil];omega),bs_app]
  unfold hostL
  rcases Qd6 hrl with h6 | ⟨h4,_⟩
  ·subst h6
   rw [if_pos (show ((6:Int)==6)=true from rfl),if_neg (show ¬ (6:Int)=4 by decide),if_pos (by rw [QT,QT];simp only [List.length_cons,List.length_nil];omega),bs_app,if_pos (by rw [QT,QT,List.length_append];simp only [List.length_cons,List.length_nil];omega),bs_app,if_pos (by rw [QT,QT,List.length_append,List.length_append,List.length_append];simp only [List.length_cons,List.length_nil];omega),bs_app,List.append_assoc,List.append_assoc];rfl
  ·subst h4
   rw [if_neg (show ¬ ((4:Int)==6)=true by decide),if_pos rfl,if_pos (by rw [bs_app,QT,QT,List.length_append];simp only [List.length_cons,List.length_nil];omega),bs_app,bs_app];rfl
theorem QvU:∀ n:Fin 16,Hex.dg n.1≠93:=by decide +kernel
theorem QvL(n:Nat):∀ x∈Col.g1 n,x≠93:=by
 induction n using Nat.strongRecOn with
 | _ n ih =>
  intro x hx
  unfold Col.g1 Hex.grp at hx
  split at hx
  ·next h =>
   simp only [Hex.dig,List.mem_singleton] at hx
   subst hx
   exact QvU ⟨n,h⟩
  ·next h =>
   rw [Qa0] at hx
   rcases List.mem_append.1 hx with hx | hx
   ·exact ih _ (show n/16<n by omega) x hx
   ·simp only [Hex.dig,List.mem_singleton] at hx
    subst hx
    exact QvU ⟨n%16,by omega⟩
theorem Qli:∀ (G:List Nat),∀ x∈Col.rowL G,x≠93
 | [],x,h=>by cases h
 | [n],x,h=>QvL n x h
 | n::m::r,x,h=>by
  rcases List.mem_append.1 h with h | h
  ·exact QvL n x h
  ·rcases List.mem_cons.1 h with rfl | h
   ·decide
   ·exact Qli (m::r) x h
theorem Qsc(G:List Nat):∀ x∈Col.textL G,x≠93:=by
 intro x h
 unfold Col.textL at h
 split at h
 ·exact Qli _ x h
 ·rcases List.mem_append.1 h with h | h
  ·exact Qli _ x h
  ·rcases List.mem_cons.1 h with rfl | h
   ·decide
   ·rcases List.mem_cons.1 h with rfl | h
    ·decide
    ·exact Qli _ x h
theorem QrH(r:List UInt8):∀ (p:List UInt8),(∀ x∈p,x≠93)→QiN (p++93::58::r)=some (p,r)
 | [],_=>rfl
 | c::p,h=>by
  have hc:=h c (List.mem_cons_self ..)
  have hB:isB (c::(p++93::58::r))=false:=by
   cases hb:isB (c::(p++93::58::r)) with
   | false=>rfl
   | true =>
    obtain ⟨r2,h2⟩:=(Qre _).1 hb
    exact absurd (List.cons.inj h2).1 hc
  show QiN (c::(p++93::58::r))=_
  rw [QiN,hB,if_neg Bool.false_ne_true,QrH r p fun x hx=>h x (List.mem_cons_of_mem _ hx)];rfl
theorem Qqi{m:List UInt8}(hm:m.length=4)(r:List UInt8):six (Qf4 m++r)=false:=by
 match m,hm with
 | [a,b,c,d],_ =>
  show six ((Lib.decDigits a.toNat++46::(Lib.decDigits b.toNat++46::(Lib.decDigits c.toNat++46::Lib.decDigits d.toNat)))++r)=false
  cases hd:Lib.decDigits a.toNat with
  | nil=>exact absurd hd (QgP _)
  | cons x t =>
   have hx:=QdG.1 (List.all_eq_true.1 (QdN a.toNat) x (by rw [hd];exact List.mem_cons_self ..))
   show (some x==some 91)=false
   rw [beq_eq_false_iff_ne]
   intro e
   cases e
   have:(91:UInt8).toNat=91:=rfl
   omega
theorem QpG{V:Int}{l:List UInt8}(hl:l.length=16)(hr:QbW V l=true)(k:Nat)(h1:1≤k)(h2:k≤65535):endQ (Qk8 V l) (Lib.decDigits k)=(mkE (mkA V l) (k:Int),0):=by
 unfold endQ
 rw [QiW hl hr,Qjo,if_pos h2]
 show (if (0:Int)=0 then (if (0:Nat)=0 then (if k=0 then _ else _) else _) else _)=_
 rw [if_pos rfl,if_pos rfl,if_neg (by omega)]
theorem endP_text{V:Int}{l:List UInt8}(hl:l.length=16)(hr:QbW V l=true)(k:Nat)(h1:1≤k)(h2:k≤65535):endP (hostL V l k)=(mkE (mkA V l) (k:Int),0):=by
 have hq:=QpG hl hr k h1 h2
 unfold endP Qr2 hostL
 rcases Qd6 hr with h6 | ⟨h4,_⟩
 ·subst h6
  have hg:(Col.gr l).length=8:=by rw [Col.gr_len,hl]
  have he:Qk8 6 l=Col.textL (Col.gr l):=by unfold Qk8;rw [if_pos hr,if_neg (show ¬ (6:Int)=4 by decide)]
  rw [he] at hq ⊢
  rw [if_neg (show ¬ (6:Int)=4 by decide),if_pos (show six (91::(Col.textL (Col.gr l)++93::58::Lib.decDigits k))=true from rfl)]
  show (match (QiN (Col.textL (Col.gr l)++93::58::Lib.decDigits k)).bind fun q=>if Qid q.1=true then some q else none with | some (h,p)=>endQ h p | none=>(zE,5))=_
  rw [QrH _ _ (Qsc _),Option.bind_some,QjC hg,if_pos rfl]
  exact hq
 ·subst h4
  have h4l:(l.take 4).length=4:=by rw [List.length_take];omega
  have he:Qk8 4 l=Qf4 (l.take 4):=by unfold Qk8;rw [if_pos hr,if_pos rfl]
  rw [he] at hq ⊢
  rw [if_pos rfl,Qqi h4l,if_neg Bool.false_ne_true,QmQ _ _ (Qj6 (Qh0 h4l))]
  exact hq
theorem endQ_ok{h p:List UInt8}(e:(endQ h p).2=0):∃ V l k,(endQ h p).1=mkE (mkA V l) ((k:Nat):Int)∧l.length=16∧QbW V l=true∧1≤k∧k≤65535:=by
 unfold endQ at e ⊢
 split at e
 ·next h1 =>
  rw [if_pos h1]
  split at e
  ·next h2 =>
   rw [if_pos h2]
   split at e
   ·cases e
   ·next h3 =>
    rw [if_neg h3]
    obtain ⟨V,l,hA,hl,hr⟩:=QeD h1
    exact ⟨V,l,(rdU p 65535).1,by rw [hA],hl,hr,by omega,Qgl p 65535⟩
  ·next h2 =>
   have:((rdU p 65535).2:Int)=0:=e
   omega
 ·next h1=>exact absurd e h1
end Go.Proofs.YtnekckhjmnhinaaGreatDoor.Host
