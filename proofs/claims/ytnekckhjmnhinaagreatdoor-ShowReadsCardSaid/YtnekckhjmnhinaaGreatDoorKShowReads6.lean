/- Texts of this claim, those in one that belong together; printed by a program of this project. -/
import Derived.Test.YtnekckhjmnhinaaGreatDoorProg
import Derived.Test.YtnekckhjmnhinaaGreatDoorKShowReads5
set_option linter.unusedVariables false
set_option linter.unusedSimpArgs false
set_option maxRecDepth 20000
namespace Go.Proofs.YtnekckhjmnhinaaGreatDoor.Sho
open E Go.RowKit
open Adr AdrT Agg
theorem nl1:(⟨#[10]⟩:ByteArray).size=1:=rfl
theorem tab1:(⟨#[9]⟩:ByteArray).size=1:=rfl
theorem Qwv:(⟨#[40,110,111,110,101,41]⟩:ByteArray).size=6:=rfl
theorem Qn2{n:Int}(h:(Lit.int .u64 n).wf=true):0≤n∧n<18446744073709551616:=by
 simp [Lit.wf,IntKind.min,IntKind.max,IntKind.signed,IntKind.bits] at h
 omega
def lnP(p:Qq):List UInt8:=jc 9 [kT p.f_Key,kT p.f_Psk,eT p.f_End,aS [44] p.f_Allowed,dT p.f_Got,dT p.f_Sent,dT p.f_Keep]
def ln0(c:Qx):List UInt8:=jc 9 [kT c.f_Private,dT c.f_Port,dT c.f_Mark]
def Qle(c:Qx):List (List UInt8):=ln0 c::c.f_Peers.map lnP
structure PT (p:Qq):Prop where
 k1:Qek p.f_Key=some (bs (kT p.f_Key))
 k2:Qbq p.f_Key=some (bs (kT p.f_Key))
 kl:(bs (kT p.f_Key)).size=44
 s1:Qek p.f_Psk=some (bs (kT p.f_Psk))
 s2:Qbq p.f_Psk=some (bs (kT p.f_Psk))
 sl:(bs (kT p.f_Psk)).size=44
 e1:Qg6 p.f_End=some (bs (eT p.f_End))
 e2:p.f_End≠Qko→Qcg p.f_End=some (bs (eT p.f_End))
 el:(bs (eT p.f_End)).size≤80
 a1:Qca p.f_Allowed (⟨#[44]⟩:ByteArray)=some (bs (aS [44] p.f_Allowed))
 a2:Qap p.f_Allowed (⟨#[44]⟩:ByteArray)=some (bs (aS [44] p.f_Allowed))
 al:(bs (aS [44] p.f_Allowed)).size≤6000
 g1:Qbi p.f_Got=some (bs (dT p.f_Got))
 g2:Qab p.f_Got=some (bs (dT p.f_Got))
 gl:(bs (dT p.f_Got)).size≤20
 t1:Qbi p.f_Sent=some (bs (dT p.f_Sent))
 t2:Qab p.f_Sent=some (bs (dT p.f_Sent))
 tl:(bs (dT p.f_Sent)).size≤20
 n1:Qd5 p.f_Keep=some (bs (dT p.f_Keep))
 n2:QbG p.f_Keep=some (bs (dT p.f_Keep))
 nl:(bs (dT p.f_Keep)).size≤20
theorem Qoq(n:Int)(h:0≤n∧n<18446744073709551616):Qd5 n=some (bs (dT n))∧QbG n=some (bs (dT n)):=by
 obtain ⟨d1,d2,_⟩:=QeY n h
 unfold Qd5 QbG
 rw [QcI h.1 h.2,d1,d2];exact ⟨rfl,rfl⟩
theorem Qtp{c:Qx}(hr:Rt c)(ho:OkC c){p:Qq}(hp:p∈c.f_Peers):OkL p.f_Allowed:=⟨(ho.ok p hp).2.2.2.2.2.2,hr.rgt p hp,hr.each p hp⟩
theorem Qt2{c:Qx}(hr:Rt c)(ho:OkC c){p:Qq}(hp:p∈c.f_Peers):PT p:=by
 have op:=ho.ok p hp
 obtain ⟨k1,k2,k3,_⟩:=QiJ p.f_Key op.1
 obtain ⟨s1,s2,s3,_⟩:=QiJ p.f_Psk op.2.1
 obtain ⟨e1,e2,e3,_⟩:=QrA p.f_End op.2.2.1 (hr.end_ p hp)
 have hL:=Qtp hr ho hp
 obtain ⟨a1,a2⟩:=QuO hL [44] (by decide)
 have a3:=QtE hL [44] (by decide)
 obtain ⟨g1,g2,g3,_⟩:=QeY p.f_Got (Qn2 op.2.2.2.2.2.1)
 obtain ⟨t1,t2,t3,_⟩:=QeY p.f_Sent (Qn2 op.2.2.2.2.1)
 have hk:=hr.keep p hp
 obtain ⟨n1,n2⟩:=Qoq p.f_Keep (by omega)
 obtain ⟨_,_,n3,_⟩:=QeY p.f_Keep (by omega)
 exact ⟨k1,k2,by rw [QT,k3],s1,s2,by rw [QT,s3],e1,e2,by rw [QT];exact e3,a1,a2,by rw [QT];exact a3,g1,g2,by rw [QT];exact g3,t1,t2,by rw [QT];exact t3,n1,n2,by rw [QT];exact n3⟩
theorem Qq5{p:Qq}(h:PT p):(lnP p).length≤7000:=by
 have h1:=h.kl;have h2:=h.sl;have h3:=h.el;have h4:=h.al;have h5:=h.gl;have h6:=h.tl;have h7:=h.nl
 rw [QT] at h1 h2 h3 h4 h5 h6 h7
 show (kT p.f_Key++9::(kT p.f_Psk++9::(eT p.f_End++9::(aS [44] p.f_Allowed++9::(dT p.f_Got++9::(dT p.f_Sent++9::dT p.f_Keep)))))).length≤_
 simp only [List.length_append,List.length_cons]
 omega
theorem Qn6(W:List (List UInt8))(L:List ByteArray)(h:L=W.map bs):Qdp L (⟨#[9]⟩:ByteArray)=bs (jc 9 W):=by
 rw [h];exact Qs4 9 W _ rfl
theorem Ql8{c:Qx}(hr:Rt c)(ho:OkC c):∀ (k i:Nat) (acc:List ByteArray),i+k=c.f_Peers.length→acc.length≤i+1→Qcb.l0 c acc (i:Int)=some (acc++((c.f_Peers.drop i).map lnP).map bs)
 | 0,i,acc,hk,ha=>by
  rw [Qcb.l0.eq_def,decide_eq_false (by omega),if_neg Bool.false_ne_true,List.drop_eq_nil_of_le (by omega)]
  show _=some (acc++[])
  rw [List.append_nil]
 | k+1,i,acc,hk,ha=>by
  have hlen:=hr.len
  have hi:i<c.f_Peers.length:=by omega
  have h:=Qt2 hr ho (List.getElem_mem hi)
  have hl:=Qq5 h
  have hj:=Qn6 [kT c.f_Peers[i].f_Key,kT c.f_Peers[i].f_Psk,eT c.f_Peers[i].f_End,aS [44] c.f_Peers[i].f_Allowed,dT c.f_Peers[i].f_Got,dT c.f_Peers[i].f_Sent,dT c.f_Peers[i].f_Keep] _ rfl
  have hj:Qdp ([bs (kT c.f_Peers[i].f_Key),bs (kT c.f_Peers[i].f_Psk),bs (eT c.f_Peers[i].f_End),bs (aS [44] c.f_Peers[i].f_Allowed),bs (dT c.f_Peers[i].f_Got),bs (dT c.f_Peers[i].f_Sent),bs (dT c.f_Peers[i].f_Keep)]:List ByteArray) (⟨#[9]⟩:ByteArray)=bs (lnP c.f_Peers[i]):=hj
  rw [Qcb.l0.eq_def,decide_eq_true (by omega),if_pos rfl,if_pos (by omega),QcL hi,h.k1,Qa,h.s1,Qa,h.e1,Qa,h.a1,Qa,h.g1,Qa,h.t1,Qa,h.n1,Qa,hj,if_pos (by show (7:Nat)≤_;decide),if_pos (by rw [QT];omega),if_pos (by omega),wr1 (by omega),Ql8 hr ho k (i+1) _ (by omega) (by rw [List.length_append,List.length_singleton];omega),List.drop_eq_getElem_cons hi,List.map_cons,List.map_cons,List.append_assoc];rfl
theorem Qmf{c:Qx}(hr:Rt c)(ho:OkC c):∀ (k i:Nat) (acc:ByteArray),i+k=c.f_Peers.length→acc.size≤10000*(i+1)→Qaw.l0 c acc (i:Int)=some (acc++bs (lnT ((c.f_Peers.drop i).map lnP)))
 | 0,i,acc,hk,ha=>by
  rw [Qaw.l0.eq_def,decide_eq_false (by omega),if_neg Bool.false_ne_true,List.drop_eq_nil_of_le (by omega)]
  show some acc=some (acc++bs [])
  congr 1
  apply Qde
  rw [Qa0,QaJ,List.append_nil]
 | k+1,i,acc,hk,ha=>by
  have hlen:=hr.len
  have hi:i<c.f_Peers.length:=by omega
  have h:=Qt2 hr ho (List.getElem_mem hi)
  have h1:=h.kl;have h2:=h.sl;have h3:=h.el;have h4:=h.al;have h5:=h.gl;have h6:=h.tl;have h7:=h.nl
  have z1:=nl1;have z2:=tab1;have z3:=Qwv
  have fin:∀ E:ByteArray,E=bs (eT c.f_Peers[i].f_End)→Qaw.l0 c ((((((((((((((acc++bs (kT c.f_Peers[i].f_Key))++(⟨#[9]⟩:ByteArray))++bs (kT c.f_Peers[i].f_Psk))++(⟨#[9]⟩:ByteArray))++E)++(⟨#[9]⟩:ByteArray))++bs (aS [44] c.f_Peers[i].f_Allowed))++(⟨#[9]⟩:ByteArray))++bs (dT c.f_Peers[i].f_Got))++(⟨#[9]⟩:ByteArray))++bs (dT c.f_Peers[i].f_Sent))++(⟨#[9]⟩:ByteArray))++bs (dT c.f_Peers[i].f_Keep))++(⟨#[10]⟩:ByteArray)) ((i+1:Nat):Int)=some (acc++bs (lnT ((c.f_Peers.drop i).map lnP))):=by
   intro E hE
   subst hE
   rw [Qmf hr ho k (i+1) _ (by omega) (by simp only [ByteArray.size_append];omega),List.drop_eq_getElem_cons hi,List.map_cons,Qh7]
   congr 1
   apply Qde
   show _=(acc++bs ((kT c.f_Peers[i].f_Key++9::(kT c.f_Peers[i].f_Psk++9::(eT c.f_Peers[i].f_End++9::(aS [44] c.f_Peers[i].f_Allowed++9::(dT c.f_Peers[i].f_Got++9::(dT c.f_Peers[i].f_Sent++9::dT c.f_Peers[i].f_Keep))))))++10::lnT (List.map lnP (List.drop (i+1) c.f_Peers)))).data.toList
   simp only [Qa0,QaJ,List.append_assoc,List.cons_append,List.nil_append]
  rw [Qaw.l0.eq_def,decide_eq_true (by omega),if_pos rfl,if_pos (by omega),QcL hi,wr1 (by omega)]
  by_cases he:c.f_Peers[i].f_End=Qko
  ·have hb:decide (c.f_Peers[i].f_End=({ f_A:=({ f_V:=(0:Int),f_B:=(Vector.replicate 16 (0:Int):(Vector Int 16)) }:Qj),f_Port:=(0:Int) }:Qr))=true:=decide_eq_true he
   rw [hb,if_neg (by decide),h.k2,Qa,if_pos (by omega),if_pos (by simp only [ByteArray.size_append];omega),h.s2,Qa,if_pos (by simp only [ByteArray.size_append];omega),if_pos (by simp only [ByteArray.size_append];omega),if_pos (by simp only [ByteArray.size_append];omega),if_pos (by simp only [ByteArray.size_append];omega),h.a2,Qa,if_pos (by simp only [ByteArray.size_append];omega),if_pos (by simp only [ByteArray.size_append];omega),h.g2,Qa,if_pos (by simp only [ByteArray.size_append];omega),if_pos (by simp only [ByteArray.size_append];omega),h.t2,Qa,if_pos (by simp only [ByteArray.size_append];omega),if_pos (by simp only [ByteArray.size_append];omega),h.n2,Qa,if_pos (by simp only [ByteArray.size_append];omega),if_pos (by simp only [ByteArray.size_append];omega)]
   exact fin _ (by unfold eT;rw [if_pos he];rfl)
  ·have hb:decide (c.f_Peers[i].f_End=({ f_A:=({ f_V:=(0:Int),f_B:=(Vector.replicate 16 (0:Int):(Vector Int 16)) }:Qj),f_Port:=(0:Int) }:Qr))=false:=decide_eq_false he
   rw [hb,if_pos (by decide),h.e2 he,Qa,h.k2,Qa,if_pos (by omega),if_pos (by simp only [ByteArray.size_append];omega),h.s2,Qa,if_pos (by simp only [ByteArray.size_append];omega),if_pos (by simp only [ByteArray.size_append];omega),if_pos (by simp only [ByteArray.size_append];omega),if_pos (by simp only [ByteArray.size_append];omega),h.a2,Qa,if_pos (by simp only [ByteArray.size_append];omega),if_pos (by simp only [ByteArray.size_append];omega),h.g2,Qa,if_pos (by simp only [ByteArray.size_append];omega),if_pos (by simp only [ByteArray.size_append];omega),h.t2,Qa,if_pos (by simp only [ByteArray.size_append];omega),if_pos (by simp only [ByteArray.size_append];omega),h.n2,Qa,if_pos (by simp only [ByteArray.size_append];omega),if_pos (by simp only [ByteArray.size_append];omega)]
   exact fin _ rfl
theorem Quf{c:Qx}(h1:(kT c.f_Private).length=44)(h2:(dT c.f_Port).length≤20)(h3:(dT c.f_Mark).length≤20):(ln0 c).length≤100:=by
 show (kT c.f_Private++9::(dT c.f_Port++9::dT c.f_Mark)).length≤_
 simp only [List.length_append,List.length_cons]
 omega
theorem Qu6{c:Qx}(hr:Rt c)(ho:OkC c)(hv:Qbd c=some true):Qcb c=some (bs (lnT (Qle c)),0)∧Qaw c=some (bs (lnT (Qle c))):=by
 obtain ⟨k1,k2,k3,_⟩:=QiJ c.f_Private ho.key
 have hp:=hr.port
 obtain ⟨p1,p2⟩:=Qoq c.f_Port (by omega)
 obtain ⟨_,_,p3,_⟩:=QeY c.f_Port (by omega)
 have hm:=ho.mark
 obtain ⟨m1,m2,m3,_⟩:=QeY c.f_Mark (by omega)
 have hl0:=Quf k3 p3 m3
 have hj:Qdp ([bs (kT c.f_Private),bs (dT c.f_Port),bs (dT c.f_Mark)]:List ByteArray) (⟨#[9]⟩:ByteArray)=bs (ln0 c):=Qn6 [kT c.f_Private,dT c.f_Port,dT c.f_Mark] _ rfl
 have hst:=Ql8 hr ho c.f_Peers.length 0 [bs (ln0 c)] (by omega) (by simp)
 rw [show ((0:Nat):Int)=0 from rfl,List.drop_zero] at hst
 have hst:Qcb.l0 c [bs (ln0 c)] 0=some ((Qle c).map bs):=hst
 have hlen:=hr.len
 have hlj:=Qpq (Qle c) (fun w hw=>by
  rcases List.mem_cons.1 hw with rfl | hw
  ·omega
  ·obtain ⟨p,hp,rfl⟩:=List.mem_map.1 hw
   have:=Qq5 (Qt2 hr ho hp);omega) (by unfold Qle;rw [List.length_cons,List.length_map];omega)
 refine ⟨?_,?_⟩
 ·unfold Qcb
  rw [hv,Qa,if_neg (by decide),k1,Qa,p1,Qa,QcI (by omega) (by omega),m1,Qa,hj,if_pos (by show (3:Nat)≤_;decide),if_pos (by rw [QT];omega),hst,Qa,hlj,Qa]
 ·have s1:=QT (kT c.f_Private);have s2:=QT (dT c.f_Port);have s3:=QT (dT c.f_Mark)
  have z1:=nl1;have z2:=tab1
  unfold Qaw
  rw [k2,Qa,if_pos (by omega),p2,Qa,if_pos (by simp only [ByteArray.size_append];omega),if_pos (by simp only [ByteArray.size_append];omega),QcI (by omega) (by omega),m2,Qa,if_pos (by simp only [ByteArray.size_append];omega),if_pos (by simp only [ByteArray.size_append];omega)]
  have:=Qmf hr ho c.f_Peers.length 0 (((((bs (kT c.f_Private)++(⟨#[9]⟩:ByteArray))++bs (dT c.f_Port))++(⟨#[9]⟩:ByteArray))++bs (dT c.f_Mark))++(⟨#[10]⟩:ByteArray)) (by omega) (by simp only [ByteArray.size_append];omega)
  rw [show ((0:Nat):Int)=0 from rfl,List.drop_zero] at this
  rw [this,Qa]
  congr 1
  apply Qde
  unfold Qle
  rw [Qh7]
  show _=(bs ((kT c.f_Private++9::(dT c.f_Port++9::dT c.f_Mark))++10::lnT (List.map lnP c.f_Peers))).data.toList
  simp only [Qa0,QaJ,List.append_assoc,List.cons_append,List.nil_append]
end Go.Proofs.YtnekckhjmnhinaaGreatDoor.Sho
namespace Go.Proofs.YtnekckhjmnhinaaGreatDoor
open E
def Qld(n:Nat):Nat→Nat→Nat
 | 0,j=>j
 | f+1,j=>if 0<n/2 ^ (10*(j+2)) then Qld n f (j+1) else j
theorem Qn4(n:Nat):∀ (f j:Nat),Qld n f j≤j+f
 | 0,j=>Nat.le_refl _
 | f+1,j=>by
  unfold Qld
  split
  ·have:=Qn4 n f (j+1);omega
  ·omega
theorem Qsx(j:Nat)(h:j≤5):2 ^ (10*(j+1))≤1152921504606846976:=by
 have:2 ^ (10*(j+1))≤2 ^ 60:=Nat.pow_le_pow_right (by omega) (by omega)
 simpa using this
theorem Qsw(j:Nat):0<2 ^ (10*(j+1)):=Nat.pow_pos (by omega)
theorem Qvf(j:Nat)(h:j≤5)(m:Nat)(hm:m≤2):wr .u64 (wr .i64 (10*(wr .i64 ((j:Int)+(m:Int)))))=((10*(j+m):Nat):Int):=by
 have e1:wr .i64 ((j:Int)+(m:Int))=((j+m:Nat):Int):=by rw [QX (by omega) (by omega)];omega
 have e2:wr .i64 (10*((j+m:Nat):Int))=((10*(j+m):Nat):Int):=by rw [QX (by omega) (by omega)];omega
 rw [e1,e2,QcI (by omega) (by omega)]
theorem QtO(n:Nat)(hn:n<18446744073709551616):∀ (f j:Nat),j+f=5→QbV.l0 (n:Int) (j:Int)=some ((Qld n f j:Nat):Int):=by
 intro f
 induction f with
 | zero =>
  intro j hj
  have hz:decide ((j:Int)<5)=false:=decide_eq_false (by omega)
  rw [QbV.l0.eq_def,hz];rfl
 | succ f ih =>
  intro j hj
  have hz:decide ((j:Int)<5)=true:=decide_eq_true (by omega)
  have hs:=Qvf j (by omega) 2 (by omega)
  rw [show ((2:Nat):Int)=2 from rfl] at hs
  have hsr:Qh8 .u64 (n:Int) ((10*(j+2):Nat):Int)=((n/2 ^ (10*(j+2)):Nat):Int):=Qhe .u64 n _ (by show 10*(j+2)≤64;omega)
  have hg:(0:Int)≤((10*(j+2):Nat):Int):=by omega
  rw [QbV.l0.eq_def,hz,hs,hsr,if_pos rfl,if_pos hg]
  unfold Qld
  by_cases h:0<n/2 ^ (10*(j+2))
  ·have h':decide (((n/2 ^ (10*(j+2)):Nat):Int)>0)=true:=decide_eq_true (by omega)
   rw [h',if_pos rfl,if_pos h,QX (by omega) (by omega),show ((j:Int)+1)=((j+1:Nat):Int) by omega]
   exact ih (j+1) (by omega)
  ·have h':decide (((n/2 ^ (10*(j+2)):Nat):Int)>0)=false:=decide_eq_false (by omega)
   rw [h',if_neg Bool.false_ne_true,if_neg h]
def QtL(k:Nat):ByteArray:=Qbb QcB (k:Int)
def QwM(n k:Nat):ByteArray :=
 let u:=2 ^ (10*(k+1))
 let r:=n%u*10
 (((((Qga ((n/u:Nat):Int))++⟨#[46]⟩)++Qga ((r/u:Nat):Int))++Qga ((r%u*10/u:Nat):Int))++⟨#[32]⟩)++QtL k
theorem QuZ(k:Nat)(h:k≤5):QO ([⟨#[75,105,66]⟩,⟨#[77,105,66]⟩,⟨#[71,105,66]⟩,⟨#[84,105,66]⟩,⟨#[80,105,66]⟩,⟨#[69,105,66]⟩]:List ByteArray) (k:Int)=QtL k:=by
 have:k=0∨k=1∨k=2∨k=3∨k=4∨k=5:=by omega
 rcases this with rfl | rfl | rfl | rfl | rfl | rfl<;>rfl
theorem Qo4(k:Nat)(h:k≤5):(QtL k).size=3:=by
 have:k=0∨k=1∨k=2∨k=3∨k=4∨k=5:=by omega
 rcases this with rfl | rfl | rfl | rfl | rfl | rfl<;>rfl
theorem Qe4(a b:ByteArray):(a++b).size=a.size+b.size:=by
 rw [←QaY,Qa0,List.length_append,QaY,QaY]
theorem QrW(a b c:ByteArray):(a++b)++c=a++(b++c):=by
 apply Qde;rw [Qa0,Qa0,Qa0,Qa0,List.append_assoc]
theorem Qrz(a:ByteArray):(⟨#[]⟩:ByteArray)++a=a:=by
 apply Qde;rw [Qa0];rfl
theorem QjH(n:Nat)(hn:n<18446744073709551616):QbV (n:Int)=some (if n<1024 then Qga (n:Int)++⟨#[32,66]⟩ else QwM n (Qld n 5 0)):=by
 unfold QbV
 by_cases h:n<1024
 ·have h1:decide ((n:Int)<1024)=true:=decide_eq_true (by omega)
  have:=Qfp n hn
  have h2:(Qga (n:Int)).size+(⟨#[32,66]⟩:ByteArray).size≤140737488355328:=by
   show (Qga (n:Int)).size+2≤_;omega
  rw [h1,if_pos rfl,QeK n hn,Qa,if_pos h2,if_pos h]
 ·have h1:decide ((n:Int)<1024)=false:=decide_eq_false (by omega)
  have hl0:=QtO n hn 5 0 rfl
  rw [show ((0:Nat):Int)=0 from rfl] at hl0
  rw [h1,if_neg Bool.false_ne_true,hl0,Qa,if_neg h]
  have hk:=Qn4 n 5 0
  generalize hkk:Qld n 5 0=k at hk ⊢
  have hk5:k≤5:=by omega
  have hs:=Qvf k hk5 1 (by omega)
  rw [show ((1:Nat):Int)=1 from rfl] at hs
  have hg:(0:Int)≤((10*(k+1):Nat):Int):=by omega
  have hb:10*(k+1)≤IntKind.u64.bits:=by show 10*(k+1)≤64;omega
  have hp:=Qsw k
  have hle:=Qsx k hk5
  generalize hu:2 ^ (10*(k+1))=u at hp hle
  have hshl:wr .u64 ((Qh9 .u64 1 ((10*(k+1):Nat):Int))-1)=((2 ^ (10*(k+1))-1:Nat):Int):=by
   have:=Qfy .u64 rfl 1 (10*(k+1)) hb
   rw [show ((1:Nat):Int)=1 from rfl] at this
   rw [this,Nat.one_mul,hu,show (2:Nat) ^ IntKind.u64.bits=18446744073709551616 from rfl,Nat.mod_eq_of_lt (by omega),QcI (by omega) (by omega)]
   omega
  have hand:∀ m:Nat,m<18446744073709551616→Qjd .u64 (m:Int) ((2 ^ (10*(k+1))-1:Nat):Int)=((m%u:Nat):Int):=fun m hm=>by
   rw [QlH .u64 rfl m _ hm (by show 2 ^ (10*(k+1))-1<18446744073709551616;rw [hu];omega),Nat.and_two_pow_sub_one_eq_mod,hu]
  have hsr:∀ m:Nat,Qh8 .u64 (m:Int) ((10*(k+1):Nat):Int)=((m/u:Nat):Int):=fun m=>by rw [Qhe .u64 m _ hb,hu]
  rw [hs,if_pos hg,if_pos hg,hshl,hand n hn]
  have hr1:n%u<u:=Nat.mod_lt _ hp
  have e10:∀ m:Nat,m<u→wr .u64 ((m:Int)*10)=((m*10:Nat):Int):=fun m hm=>by rw [QcI (by omega) (by omega)];omega
  have hd1:n%u*10/u<18446744073709551616:=Nat.lt_of_le_of_lt (Nat.div_le_self _ _) (by omega)
  have hr2:n%u*10%u<u:=Nat.mod_lt _ hp
  have hd2:n%u*10%u*10/u<18446744073709551616:=Nat.lt_of_le_of_lt (Nat.div_le_self _ _) (by omega)
  have hl1:QbV.l1 (k:Int) ((n%u:Nat):Int) (⟨#[]⟩) 0=some (Qga ((n%u*10/u:Nat):Int)++Qga ((n%u*10%u*10/u:Nat):Int)):=by
   have s1:=Qfp _ hd1
   have s2:=Qfp _ hd2
   have g1:(⟨#[]⟩:ByteArray).size+(Qga ((n%u*10/u:Nat):Int)).size≤140737488355328:=by show 0+_≤_;omega
   have g2:(Qga ((n%u*10/u:Nat):Int)).size+(Qga ((n%u*10%u*10/u:Nat):Int)).size≤140737488355328:=by omega
   have w1:wr .i64 ((0:Int)+1)=1:=by rw [QX (by omega) (by omega)];rfl
   have w2:wr .i64 ((1:Int)+1)=2:=by rw [QX (by omega) (by omega)];rfl
   have d0:decide ((0:Int)<2)=true:=rfl
   have d1:decide ((1:Int)<2)=true:=rfl
   have d2:decide ((2:Int)<2)=false:=rfl
   rw [QbV.l1.eq_def,d0,if_pos rfl,hs,if_pos hg,e10 _ hr1,hsr,QeK _ hd1,Qa,if_pos g1,if_pos hg,hshl,hand _ (by omega),w1,Qrz]
   rw [QbV.l1.eq_def,d1,if_pos rfl,hs,if_pos hg,e10 _ hr2,hsr,QeK _ hd2,Qa,if_pos g2,if_pos hg,hshl,hand _ (by omega),w2]
   rw [QbV.l1.eq_def,d2,if_neg Bool.false_ne_true]
  have hd0:n/u<18446744073709551616:=Nat.lt_of_le_of_lt (Nat.div_le_self _ _) hn
  have s0:=Qfp _ hd0
  have s1:=Qfp _ hd1
  have s2:=Qfp _ hd2
  have s3:=Qo4 k hk5
  have s3':(Qbb QcB (k:Int)).size=3:=s3
  have z1:(⟨#[46]⟩:ByteArray).size=1:=rfl
  have z2:(⟨#[32]⟩:ByteArray).size=1:=rfl
  rw [hl1,Qa,hsr,QeK _ hd0,Qa]
  rw [if_pos (by omega),if_pos (by rw [Qe4,Qe4];omega),if_pos (by rw [Qe4,Qe4,Qe4];omega),if_pos (by omega),if_pos (by rw [Qe4,Qe4,Qe4,Qe4];omega)]
  unfold QwM
  simp only [hu]
  refine congrArg some ?_
  have tri:∀ (X A B S V:ByteArray),(((X++(A++B))++S)++V)=((((X++A)++B)++S)++V):=fun X A B S V=>by rw [QrW X A B]
  exact tri _ _ _ _ _
theorem Qhg(n:Nat)(h:n<10):Qga (n:Int)=⟨#[UInt8.ofNat (48+n)]⟩:=by
 apply Qde;rw [Qdr,Qbj h]
theorem QuM:QbP=some true:=by
 unfold QbP
 have h1:=QjH 1536 (by decide)
 have h2:=QjH 18446744073709551615 (by decide)
 have h3:=QjH 7 (by decide)
 have k1:Qld 1536 5 0=0:=by decide +kernel
 have k2:Qld 18446744073709551615 5 0=5:=by decide +kernel
 have a1:Qga ((1536/2 ^ (10*(0+1)):Nat):Int)=⟨#[49]⟩:=Qhg 1 (by decide)
 have a2:Qga ((1536%2 ^ (10*(0+1))*10/2 ^ (10*(0+1)):Nat):Int)=⟨#[53]⟩:=Qhg 5 (by decide)
 have a3:Qga ((1536%2 ^ (10*(0+1))*10%2 ^ (10*(0+1))*10/2 ^ (10*(0+1)):Nat):Int)=⟨#[48]⟩:=Qhg 0 (by decide)
 have b1:Qga ((18446744073709551615/2 ^ (10*(5+1)):Nat):Int)=⟨#[49,53]⟩:=by
  show Qga ((15:Nat):Int)=_
  apply Qde;rw [Qdr,QcA (by decide),Qbj (by decide)];rfl
 have b2:Qga ((18446744073709551615%2 ^ (10*(5+1))*10/2 ^ (10*(5+1)):Nat):Int)=⟨#[57]⟩:=Qhg 9 (by decide)
 have b3:Qga ((18446744073709551615%2 ^ (10*(5+1))*10%2 ^ (10*(5+1))*10/2 ^ (10*(5+1)):Nat):Int)=⟨#[57]⟩:=Qhg 9 (by decide)
 have c1:Qga ((7:Nat):Int)=⟨#[55]⟩:=Qhg 7 (by decide)
 rw [if_neg (by decide),k1] at h1
 rw [if_neg (by decide),k2] at h2
 rw [if_pos (by decide),c1] at h3
 unfold QwM at h1 h2
 simp only [a1,a2,a3] at h1
 simp only [b1,b2,b3] at h2
 rw [show ((1536:Nat):Int)=1536 from rfl] at h1
 rw [show ((18446744073709551615:Nat):Int)=18446744073709551615 from rfl] at h2
 rw [show ((7:Nat):Int)=7 from rfl] at h3
 rw [h1,Qa,if_pos ((QeW _ _).2 (by rfl)),h2,Qa,if_pos ((QeW _ _).2 (by rfl)),h3,Qa,(QeW _ _).2 (by rfl)]
end Go.Proofs.YtnekckhjmnhinaaGreatDoor
namespace Go.Proofs.YtnekckhjmnhinaaGreatDoor
open E Go.RowKit _root_.Go.Proofs.Tryz
def QcN(x0:ByteArray):Option (Bool) :=
 if (decide ((x0.size:Int)>9000))=true then (QbP>>=fun t2=>some t2) else (QgH x0>>=fun t3=>Qax x0>>=fun t8=>Qa5 t3.1 t8.1>>=fun t13=>if (!t13)=true then (some false) else (if ((t3.2==0) != t8.2)=true then (some false) else (if (!t8.2)=true then (if (t3.2==5)=true then (QbP>>=fun t18=>some t18) else (some false)) else (Qcb t3.1>>=fun t19=>if (seq t19.1 x0)=true then (if (t19.2==0)=true then (QbP>>=fun t22=>some t22) else (some false)) else (some false)))))
theorem crawlwaylaw56_ShowReads_ok(x0:ByteArray)(r:Bool)(hF:QcN x0=some r)(w:World)(hg_bytealg_MaxLen:GV_bytealg_MaxLen w)(hg_show_units:GV_show_units w)(hg_strconv_ErrRange:GV_strconv_ErrRange w)(hg_strconv_ErrSyntax:GV_strconv_ErrSyntax w)(hg_strconv_uint64pow10:GV_strconv_uint64pow10 w) :
    Calls Tryz.prog 3 #[.string x0] w (fun e w'=>e=.returned (.bool r)∧Below w.heap.size w w'):=by
 unfold QcN at hF
 refine ce (l:=[.string x0]) func3 rfl rfl ?_
 refine QN ?_
 refine QuK ?_
 intro Z_ s_ hB_
 refine sr (aa (nt (qs (sr (am ?_)))))
 refine aw (QaR underlying9 rfl) ?_
 refine aw (QbI rfl rfl) ?_
 refine nwq [11,0] ?_
 obtain ⟨h1,hF⟩|⟨h1,hF⟩:=oi hF
 ·refine ct h1 ?_
  refine sr ?_
  obtain ⟨t2,ht2,hF⟩:=bM hF
  refine cB func5 rfl (fun w hw=>Qdz  _ ht2 w (hg_show_units.on hw.below) (hg_strconv_uint64pow10.on hw.below)) ?_
  refine aa (nwq [2] ?_)
  refine rt ?_
  have K:=os hF
  subst K
  exact r1 wb
 refine cf h1 ?_
 refine sns (am ?_)
 obtain ⟨t3,ht3,hF⟩:=bM hF
 refine Qjy (γ:=Qbs) (V:=fun z=>.tuple #[.agg (Cd.cs Qh (z,t3.1)).toArray,.int .i64 t3.2]) (Φ:=fun K s z=>Qao K s (z,t3.1)) func6 rfl (by kernel_rfl) rfl rfl (fun w hw=>Qma ht3 hw hg_bytealg_MaxLen hg_strconv_ErrRange hg_strconv_ErrSyntax hg_strconv_uint64pow10) ?_
 intro Z_ s_ g5 hm4 hk6
 refine am ?_
 refine aw xe (aw xe ?_)
 refine al (cs:=Cd.cs Qh Qc1) zeroValue28 ?_
 intro b7
 refine Qn (c:=Qh) (z:=(g5,t3.1)) .z lw sizeOf28 rfl rfl rfl ?_
 refine aa (nwx [4,3,0] ?_)
 refine am ?_
 obtain ⟨t8,ht8,hF⟩:=bM hF
 refine Qac (.s .z) ?_
 refine Qjy (γ:=Qbs) (V:=fun z=>.tuple #[.agg (Cd.cs Qh (z,t8.1)).toArray,.bool t8.2]) (Φ:=fun K s z=>Qao K s (z,t8.1)) func7 rfl (by kernel_rfl) rfl rfl (fun w hw=>QgQ ht8 hw) ?_
 intro Z_ s_ g10 hm9 hk11
 replace hk6:=Qao.mono hk6 hm9
 refine am ?_
 refine aw xe (aw xe ?_)
 refine al (cs:=Cd.cs Qh Qc1) zeroValue28 ?_
 intro b12
 refine Qn (c:=Qh) (z:=(g10,t8.1)) .z lw sizeOf28 rfl rfl rfl ?_
 refine aa (nwq [6,5,4,3,0] ?_)
 refine qs (sr ?_)
 refine aw (Qg (c:=Qh) (z:=(g5,t3.1)) isAgg28 sizeOf28 rfl (Qp (.s (.s .z)) lw)) ?_
 refine aw (Qg (c:=Qh) (z:=(g10,t8.1)) isAgg28 sizeOf28 rfl (Qp .z lw)) ?_
 obtain ⟨t13,ht13,hF⟩:=bM hF
 refine cB func8 rfl (fun w hw=>QgR _ _ _ _ _ ht13 w (Qao.n (Qao.mono hk6 (QaX (.s .z) hw))) (Qao.n (Qao.mono hk11 (QaX (.s .z) hw)))) ?_
 refine aw (Qcq rfl) ?_
 refine am ?_
 obtain ⟨h14,hF⟩|⟨h14,hF⟩:=oi hF
 ·refine fx 27 h14 ?_
  refine gn ?_
  refine gn ?_
  refine gn ?_
  refine gn ?_
  refine aw xp (qn (dz (wq [32,6,4,3,0] ?_)))
  refine tn ?_
  refine ct rfl ?_
  refine sr (aa (qn ?_))
  refine Qam (H:=_) (.s .z) ?_
  refine wq [2] ?_
  refine tn (rt ?_)
  have K:=os hF
  subst K
  exact r1 wb
 refine fx 27 h14 ?_
 refine gy (am (gy (aw xq (gy (am (gy ?_))))))
 refine aw (QkN underlying4 rfl rfl (.inr rfl) rfl) ?_
 refine aw xp (qn (dz (wq [32,6,4,3,0] ?_)))
 refine tn ?_
 obtain ⟨h15,hF⟩|⟨h15,hF⟩:=oi hF
 ·refine ct h15 ?_
  refine sr (aa (qn ?_))
  refine Qam (H:=_) (.s .z) ?_
  refine wq [2] ?_
  refine tn (rt ?_)
  have K:=os hF
  subst K
  exact r1 wb
 refine cf h15 ?_
 refine sn (qs (sr (am ?_)))
 refine aw (Qcq rfl) ?_
 refine nwq [34,4,3,0] ?_
 obtain ⟨h16,hF⟩|⟨h16,hF⟩:=oi hF
 ·refine ct h16 ?_
  refine sr (am (aw xq (am ?_)))
  obtain ⟨h17,hF⟩|⟨h17,hF⟩:=oi hF
  ·refine fx 37 h17 ?_
   refine gy ?_
   obtain ⟨t18,ht18,hF⟩:=bM hF
   refine cB func5 rfl (fun w hw=>Qdz  _ ht18 w (hg_show_units.on hw.below) (hg_strconv_uint64pow10.on hw.below)) ?_
   refine aw xp (aa (qn ?_))
   refine Qam (H:=_) (.s .z) ?_
   refine wq [2] ?_
   refine tn (rt ?_)
   have K:=os hF
   subst K
   exact r1 wb
  refine fx 37 h17 ?_
  refine gn ?_
  refine aw xp (aa (qn ?_))
  refine Qam (H:=_) (.s .z) ?_
  refine wq [2] ?_
  refine tn (rt ?_)
  have K:=os hF
  subst K
  exact r1 wb
 refine cf h16 ?_
 refine sns ?_
 refine aw (Qg (c:=Qh) (z:=(g5,t3.1)) isAgg28 sizeOf28 rfl (Qp (.s .z) lw)) ?_
 obtain ⟨t19,ht19,hF⟩:=bM hF
 refine cB func9 rfl (fun w hw=>QhW _ _ _ ht19 w (Qao.n (Qao.mono hk6 (QaX .z hw))) (hg_strconv_uint64pow10.on hw.below)) ?_
 refine am ?_
 refine aw xe (aw xe (aa (aa (qn ?_))))
 refine Qam (H:=_) (.s .z) ?_
 refine wq [8,7,0] ?_
 refine tn (sr (am (am ?_)))
 refine aw (QfK rfl rfl) ?_
 refine am ?_
 obtain ⟨h20,hF⟩|⟨h20,hF⟩:=oi hF
 ·refine fx 48 h20 ?_
  refine gy (am (gy (aw xq (aw xp (am ?_)))))
  obtain ⟨h21,hF⟩|⟨h21,hF⟩:=oi hF
  ·refine fx 52 h21 ?_
   refine gy ?_
   obtain ⟨t22,ht22,hF⟩:=bM hF
   refine cB func5 rfl (fun w hw=>Qdz  _ ht22 w (hg_show_units.on hw.below) (hg_strconv_uint64pow10.on hw.below)) ?_
   refine aw xp (aa (nwq [2] ?_))
   refine qt ?_
   have K:=os hF
   subst K
   exact r1 wb
  refine fx 52 h21 ?_
  refine gn ?_
  refine aw xp (aa (nwq [2] ?_))
  refine qt ?_
  have K:=os hF
  subst K
  exact r1 wb
 refine fx 48 h20 ?_
 refine gn ?_
 refine gn ?_
 refine aw xp (am ?_)
 refine gn ?_
 refine aw xp (aa (nwq [2] ?_))
 refine qt ?_
 have K:=os hF
 subst K
 exact r1 wb
end Go.Proofs.YtnekckhjmnhinaaGreatDoor
namespace Go.Proofs.YtnekckhjmnhinaaGreatDoor.Sho
open E Go.RowKit
open Adr AdrT Agg
theorem Quk{c d:UInt8}(hc:c≠d):∀ (W:List (List UInt8)),(∀ w∈W,∀ x∈w,x≠d)→∀ x∈jc c W,x≠d
 | [],_=>fun x hx=>by cases hx
 | [a],h=>h a (by simp)
 | a::b::r,h=>fun x hx=>by
  have hx':x∈a++c::jc c (b::r):=hx
  rcases List.mem_append.1 hx' with h1 | h1
  ·exact h a (by simp) x h1
  ·rcases List.mem_cons.1 h1 with rfl | h1
   ·exact hc
   ·exact Quk hc (b::r) (fun w hw=>h w (List.mem_cons_of_mem _ hw)) x h1
theorem Qhy{x:List UInt8}{W:List (List UInt8)}(h:QM 9 x=W)(k:Nat):nth x k=W.getD k []:=by unfold nth;rw [h]
theorem QiZ:QhF 0 0=0:=rfl
theorem QjP{n:Int}{most:Nat}(h:0≤n∧n<18446744073709551616)(hm:n≤most):((rdU (dT n) most).1:Int)=n∧((rdU (dT n) most).2:Int)=0:=by
 obtain ⟨_,_,_,_,h5⟩:=QeY n h
 rw [h5 most hm]
 refine ⟨?_,rfl⟩
 show ((n.toNat:Nat):Int)=n
 omega
structure LB (p:Qq):Prop where
 len:(QM 9 (lnP p)).length=7
 val:pe (lnP p)=p
 err:peE 0 (nth (lnP p) 0) (nth (lnP p) 1) (nth (lnP p) 2) (nth (lnP p) 3) (nth (lnP p) 4) (nth (lnP p) 5) (nth (lnP p) 6)=0
 ne:∀ x∈lnP p,x≠10
theorem QqL{c:Qx}(hr:Rt c)(ho:OkC c){p:Qq}(hp:p∈c.f_Peers):LB p:=by
 have op:=ho.ok p hp
 obtain ⟨_,_,_,k4,k5⟩:=QiJ p.f_Key op.1
 obtain ⟨_,_,_,s4,s5⟩:=QiJ p.f_Psk op.2.1
 obtain ⟨_,_,_,e4,e5,e6⟩:=QrA p.f_End op.2.2.1 (hr.end_ p hp)
 obtain ⟨a1,a2,a3,a4⟩:=QwP (Qtp hr ho hp)
 have og:=Qn2 op.2.2.2.2.2.1
 have os:=Qn2 op.2.2.2.2.1
 have ok:=hr.keep p hp
 obtain ⟨_,_,_,g4,_⟩:=QeY p.f_Got og
 obtain ⟨_,_,_,t4,_⟩:=QeY p.f_Sent os
 obtain ⟨_,_,_,n4,_⟩:=QeY p.f_Keep (by omega)
 have hM:((M64:Nat):Int)=18446744073709551615:=rfl
 obtain ⟨g5,g6⟩:=QjP (most:=M64) og (by omega)
 obtain ⟨t5,t6⟩:=QjP (most:=M64) os (by omega)
 obtain ⟨n5,n6⟩:=QjP (n:=p.f_Keep) (most:=65535) (by omega) (by omega)
 have hw:∀ w∈[kT p.f_Key,kT p.f_Psk,eT p.f_End,aS [44] p.f_Allowed,dT p.f_Got,dT p.f_Sent,dT p.f_Keep],no 32 w:=by
  intro w hw
  simp only [List.mem_cons,List.not_mem_nil,or_false] at hw
  rcases hw with rfl | rfl | rfl | rfl | rfl | rfl | rfl
  ·exact k4
  ·exact s4
  ·exact e4
  ·exact a1
  ·exact g4.mono (by omega)
  ·exact t4.mono (by omega)
  ·exact n4.mono (by omega)
 have hparts:QM 9 (lnP p)=[kT p.f_Key,kT p.f_Psk,eT p.f_End,aS [44] p.f_Allowed,dT p.f_Got,dT p.f_Sent,dT p.f_Keep]:=Qh4 9 _ (by simp) fun w h=>(hw w h).ne 9 (by decide)
 have q0:nth (lnP p) 0=kT p.f_Key:=Qhy hparts 0
 have q1:nth (lnP p) 1=kT p.f_Psk:=Qhy hparts 1
 have q2:nth (lnP p) 2=eT p.f_End:=Qhy hparts 2
 have q3:nth (lnP p) 3=aS [44] p.f_Allowed:=Qhy hparts 3
 have q4:nth (lnP p) 4=dT p.f_Got:=Qhy hparts 4
 have q5:nth (lnP p) 5=dT p.f_Sent:=Qhy hparts 5
 have q6:nth (lnP p) 6=dT p.f_Keep:=Qhy hparts 6
 have hend:(if eT p.f_End=Qjz then Qko else (Host.endP (eT p.f_End)).1)=p.f_End:=by
  by_cases hz:p.f_End=Qko
  ·rw [if_pos (e5.2 hz),hz]
  ·rw [if_neg (fun h=>hz (e5.1 h)),e6 hz]
 have hende:Qux 0 (eT p.f_End)=0:=by
  unfold Qux
  by_cases hz:p.f_End=Qko
  ·rw [if_pos (e5.2 hz)]
  ·rw [if_neg (fun h=>hz (e5.1 h)),e6 hz];rfl
 refine ⟨by rw [hparts];rfl,?_,?_,?_⟩
 ·unfold pe peV
  rw [q0,q1,q2,q3,q4,q5,q6,hend,k5,s5,a3,g5,t5,n5]
 ·rw [q0,q1,q2,q3,q4,q5,q6]
  unfold peE
  rw [k5,s5]
  show QhF (QhF (QhF (Qux (prE (QhF (QhF 0 0) 0) _) _) _) _) _=0
  rw [QiZ,QiZ,a4,hende,g6,QiZ,t6,QiZ,n6,QiZ]
 ·exact Quk (by decide) _ fun w h=>(hw w h).ne 10 (by decide)
theorem QoJ:∀ (L:List Qq) (i:Nat) (c:Qx),(∀ p∈L,LB p)→goC (i+1) c (L.map lnP)=some { c with f_Peers:=c.f_Peers++L }∧(goS (i+1) c 0 (L.map lnP)).2=0
 | [],i,c,_=>by
  refine ⟨?_,rfl⟩
  show some c=some { c with f_Peers:=c.f_Peers++[] }
  rw [List.append_nil]
 | p::L,i,c,h=>by
  have hp:=h p (List.mem_cons_self ..)
  have hs:stC (i+1) c (lnP p)=some { c with f_Peers:=c.f_Peers++[p] }:=by
   unfold stC
   rw [if_neg (by omega),if_pos hp.len,hp.val]
  have hr:stR (i+1) 0 (lnP p)=0:=by
   unfold stR
   rw [if_neg (by omega),if_pos hp.len,hp.err]
  obtain ⟨h1,h2⟩:=QoJ L (i+1) { c with f_Peers:=c.f_Peers++[p] } fun q hq=>h q (List.mem_cons_of_mem _ hq)
  refine ⟨?_,?_⟩
  ·show (stC (i+1) c (lnP p)).bind _=_
   rw [hs]
   show goC (i+1+1) _ (L.map lnP)=_
   rw [h1]
   show some { c with f_Peers:=(c.f_Peers++[p])++L }=_
   rw [List.append_assoc];rfl
  ·show (goS (i+1+1) ((stC (i+1) c (lnP p)).getD c) (stR (i+1) 0 (lnP p)) (L.map lnP)).2=0
   rw [hs,hr];exact h2
theorem Quq{c:Qx}(hr:Rt c)(ho:OkC c):goC 0 zC (Qle c)=some c∧(goS 0 zC 0 (Qle c)).2=0∧lns (lnT (Qle c))=Qle c:=by
 obtain ⟨_,_,_,k4,k5⟩:=QiJ c.f_Private ho.key
 have hp:=hr.port
 have hm:=ho.mark
 obtain ⟨_,_,_,p4,_⟩:=QeY c.f_Port (by omega)
 obtain ⟨_,_,_,m4,_⟩:=QeY c.f_Mark (by omega)
 obtain ⟨p5,p6⟩:=QjP (n:=c.f_Port) (most:=65535) (by omega) (by omega)
 obtain ⟨m5,m6⟩:=QjP (n:=c.f_Mark) (most:=4294967295) (by omega) (by omega)
 have hw:∀ w∈[kT c.f_Private,dT c.f_Port,dT c.f_Mark],no 32 w:=by
  intro w hw
  simp only [List.mem_cons,List.not_mem_nil,or_false] at hw
  rcases hw with rfl | rfl | rfl
  ·exact k4
  ·exact p4.mono (by omega)
  ·exact m4.mono (by omega)
 have hparts:QM 9 (ln0 c)=[kT c.f_Private,dT c.f_Port,dT c.f_Mark]:=Qh4 9 _ (by simp) fun w h=>(hw w h).ne 9 (by decide)
 have q0:nth (ln0 c) 0=kT c.f_Private:=Qhy hparts 0
 have q1:nth (ln0 c) 1=dT c.f_Port:=Qhy hparts 1
 have q2:nth (ln0 c) 2=dT c.f_Mark:=Qhy hparts 2
 have hl3:(QM 9 (ln0 c)).length=3:=by rw [hparts];rfl
 have hs:stC 0 zC (ln0 c)=some { c with f_Peers:=[] }:=by
  unfold stC
  rw [if_pos rfl,if_pos hl3,q0,q1,q2,k5,p5,m5]
 have hr0:stR 0 0 (ln0 c)=0:=by
  unfold stR
  rw [if_pos rfl,if_pos hl3,q0,q1,q2,k5]
  show QhF (QhF (QhF 0 0) _) _=0
  rw [QiZ,p6,QiZ,m6,QiZ]
 have hb:∀ p∈c.f_Peers,LB p:=fun p hp=>QqL hr ho hp
 obtain ⟨h1,h2⟩:=QoJ c.f_Peers 0 { c with f_Peers:=[] } hb
 refine ⟨?_,?_,?_⟩
 ·show (stC 0 zC (ln0 c)).bind _=_
  rw [hs]
  show goC (0+1) _ (c.f_Peers.map lnP)=_
  rw [h1];rfl
 ·show (goS (0+1) ((stC 0 zC (ln0 c)).getD zC) (stR 0 0 (ln0 c)) (c.f_Peers.map lnP)).2=0
  rw [hs,hr0];exact h2
 ·refine Que _ (by unfold Qle;simp) fun w hw2=>?_
  rcases List.mem_cons.1 hw2 with rfl | hw2
  ·exact Quk (by decide) _ fun w h=>(hw w h).ne 10 (by decide)
  ·obtain ⟨p,hp,rfl⟩:=List.mem_map.1 hw2
   exact (hb p hp).ne
def got(l:List UInt8):Option Qx:=match goC 0 zC (lns l) with
 | none=>none
 | some c=>if Qe0 c=true∧lnT (Qle c)=l then some c else none
theorem QjD{c:Qx}(ho:OkC c):Qbd c=some (Qe0 c)∧QB c=some (Qe0 c)∧(Qe0 c=false→Qcb c=some (⟨#[]⟩,1))∧(Qe0 c=true→Qcb c=some (bs (lnT (Qle c)),0)∧Qaw c=some (bs (lnT (Qle c)))):=by
 obtain ⟨h1,h2⟩:=Qqq ho.ok ho.each
 refine ⟨h1,h2,fun h=>?_,fun h=>?_⟩
 ·unfold Qcb
  rw [h1,h,Qa,if_pos (by rfl)]
 ·exact Qu6 (QtU h) ho (by rw [h1,h])
theorem reads{l:List UInt8}(h:l.length<900000)(hl:∀ x∈lns l,x.length≤9500)(hn:(lns l).length≤10000) :
  QgH (bs l)=some (match got l with | some c=>(c,0) | none=>(zC,5))∧Qax (bs l)=some (match got l with | some c=>(c,true) | none=>(zC,false)):=by
 have h1:=QmT (lns l) hl hn (lns l).length 0 zC 0 (by omega) (Nat.le_refl _)
 have h2:=QkK (lns l) hl hn (lns l).length 0 zC (by omega) (Nat.le_refl _)
 rw [show ((0:Nat):Int)=0 from rfl,List.drop_zero] at h1 h2
 have ho:=Qrs (lns l) 0 zC 0 hl QuU
 unfold QgH Qax Qaz
 rw [Qpn l h,Qq4 l h,Qa,Qa]
 have h1':Qaz.l0 (List.map bs (lns l)) 0 ({ f_Private:=(Vector.replicate 32 (0:Int):(Vector Int 32)),f_Port:=(0:Int),f_Mark:=(0:Int),f_Peers:=([]:List Qq) }:Qx) ({ f_e:=(0:Int) }:Q3)=_:=h1
 have h2':Qax.l0 (List.map bs (lns l)) 0 ({ f_Private:=(Vector.replicate 32 (0:Int):(Vector Int 32)),f_Port:=(0:Int),f_Mark:=(0:Int),f_Peers:=([]:List Qq) }:Qx)=_:=h2
 rw [h1',h2',Qa,Qa,Qa]
 dsimp only
 obtain ⟨_,_,t3,t4⟩:=QjD ho
 unfold got
 cases hg:goC 0 zC (lns l) with
 | none =>
  have hz:=QoK (lns l) 0 zC 0 hg
  have hzb:((goS 0 zC 0 (lns l)).2 != 0)=true:=by rw [bne_iff_ne];exact hz
  refine ⟨?_,rfl⟩
  cases hr:Qe0 (goS 0 zC 0 (lns l)).1 with
  | false=>rw [t3 hr,Qa,hzb,if_pos rfl]
  | true=>rw [(t4 hr).1,Qa,hzb,if_pos rfl]
 | some c =>
  have hc:=QlK (lns l) 0 zC 0 c hg
  rw [hc] at ho t3 t4 ⊢
  obtain ⟨_,r2,_,_⟩:=QjD ho
  dsimp only [Qwt]
  rw [r2,Qa]
  have n0:¬ ((0:Int) != 0)=true:=by decide
  cases hr:Qe0 c with
  | false =>
   have hno:¬ (false=true∧lnT (Qle c)=l):=fun h=>by cases h.1
   rw [t3 hr,Qa,if_neg hno]
   refine ⟨?_,?_⟩
   ·dsimp only
    by_cases hz:((goS 0 zC 0 (lns l)).2 != 0)=true
    ·rw [if_pos hz]
    ·rw [if_neg hz,if_pos (show ((1:Int) != 0)=true by decide)]
   ·rw [if_pos (show (!false)=true from rfl)]
  | true =>
   obtain ⟨b1,b2⟩:=t4 hr
   rw [b1,b2,Qa,Qa]
   by_cases he:lnT (Qle c)=l
   ·obtain ⟨_,k2,k3⟩:=Quq (QtU hr) ho
    have hz:(goS 0 zC 0 (lns l)).2=0:=by rw [←he,k3];exact k2
    have hyes:true=true∧lnT (Qle c)=l:=⟨rfl,he⟩
    rw [if_pos hyes]
    dsimp only
    rw [hz,if_neg n0,if_neg n0,QkH,decide_eq_true he]
    exact ⟨rfl,rfl⟩
   ·have hno:¬ (true=true∧lnT (Qle c)=l):=fun h=>he h.2
    rw [if_neg hno]
    dsimp only
    rw [if_neg n0,QkH,decide_eq_false he]
    refine ⟨?_,rfl⟩
    by_cases hz:((goS 0 zC 0 (lns l)).2 != 0)=true
    ·rw [if_pos hz]
    ·rw [if_neg hz];rfl
theorem QsT{l:List UInt8}{c:Qx}(hl:∀ x∈lns l,x.length≤9500)(h:got l=some c):OkC c∧Qe0 c=true∧lnT (Qle c)=l:=by
 unfold got at h
 cases hg:goC 0 zC (lns l) with
 | none=>rw [hg] at h;cases h
 | some d =>
  rw [hg] at h
  dsimp only at h
  split at h
  ·next hq =>
   cases h
   have ho:=Qrs (lns l) 0 zC 0 hl QuU
   rw [QlK (lns l) 0 zC 0 c hg] at ho
   exact ⟨ho,hq.1,hq.2⟩
  ·cases h
theorem Qmc(l:List Px)(hn:l.length≤10000):∀ (k i:Nat),i+k=l.length→Qa6.l0 l l (i:Int)=some (.nx ())
 | 0,i,h=>by rw [Qa6.l0.eq_def,decide_eq_false (by omega),if_neg Bool.false_ne_true]
 | k+1,i,h=>by
  have hb:(!decide (QO l (i:Int)=QO l (i:Int)))=false:=by rw [decide_eq_true rfl];rfl
  rw [Qa6.l0.eq_def,decide_eq_true (by omega),if_pos rfl,if_pos (by omega),if_pos (by omega),hb,if_neg Bool.false_ne_true,wr1 (by omega)]
  exact Qmc l hn k (i+1) (by omega)
theorem Qql(p:Qq)(h:p.f_Allowed.length≤10000):Qcr p p=some true:=by
 have h1:=Qmc p.f_Allowed h p.f_Allowed.length 0 (by omega)
 rw [show ((0:Nat):Int)=0 from rfl] at h1
 have hs:Qa6 p.f_Allowed p.f_Allowed=some true:=by
  unfold Qa6
  rw [if_neg (by simp),h1];rfl
 unfold Qcr
 rw [if_pos (by simp),if_pos (by simp),if_pos (by simp),if_pos (by simp),if_pos (by simp),if_pos (by simp),hs];rfl
theorem Qmd(c:Qx)(hn:c.f_Peers.length≤10000)(h:∀ p∈c.f_Peers,p.f_Allowed.length≤10000):∀ (k i:Nat),i+k=c.f_Peers.length→Qa5.l0 c c (i:Int)=some (.nx ())
 | 0,i,hk=>by rw [Qa5.l0.eq_def,decide_eq_false (by omega),if_neg Bool.false_ne_true]
 | k+1,i,hk=>by
  have hi:i<c.f_Peers.length:=by omega
  rw [Qa5.l0.eq_def,decide_eq_true (by omega),if_pos rfl,if_pos (by omega),if_pos (by omega),QcL hi,Qql _ (h _ (List.getElem_mem hi)),Qa,if_neg (by decide),wr1 (by omega)]
  exact Qmd c hn h k (i+1) (by omega)
theorem Qme(c:Qx)(hn:c.f_Peers.length≤10000)(h:∀ p∈c.f_Peers,p.f_Allowed.length≤10000):Qa5 c c=some true:=by
 have h1:=Qmd c hn h c.f_Peers.length 0 (by omega)
 rw [show ((0:Nat):Int)=0 from rfl] at h1
 unfold Qa5
 rw [if_neg (by simp),if_neg (by simp),if_neg (by simp),if_neg (by simp),Qa]
 dsimp only
 rw [h1];rfl
theorem QiR:(QbP>>=fun t=>some t)=some true:=by rw [QuM];rfl
theorem ShowReads_pure(a0:ByteArray)(w0:a0.size≤maxLen):QcN a0=some true:=by
 unfold QcN
 by_cases h9:(a0.size:Int)>9000
 ·rw [decide_eq_true h9,if_pos rfl];exact QiR
 ·rw [decide_eq_false h9,if_neg Bool.false_ne_true]
  have he:=QsX a0
  have hl:a0.data.toList.length≤9000:=by rw [QaY];omega
  generalize a0.data.toList=l at he hl
  subst he
  have hp:∀ k:List UInt8,k.length≤9000→(∀ x∈QM 10 k,x.length≤9500)∧(QM 10 k).length≤10000:=fun k hk=>⟨fun x hx=>by have:=Qjq 10 _ k (Nat.le_refl _) x hx;omega,by have:=Qej 10 k;omega⟩
  have hlines:(∀ x∈lns l,x.length≤9500)∧(lns l).length≤10000:=by
   unfold lns
   split
   ·exact ⟨fun x hx=>(by cases hx),by simp⟩
   ·split
    ·exact hp _ (by rw [List.length_dropLast];omega)
    ·exact hp _ hl
  obtain ⟨r1,r2⟩:=reads (l:=l) (by omega) hlines.1 hlines.2
  cases hq:got l with
  | none =>
   rw [hq] at r1 r2
   dsimp only at r1 r2
   rw [r1,r2,Qa,Qa]
   dsimp only
   rw [Qme zC (by decide) (fun p hp=>(by cases hp)),Qa,if_neg (by decide),if_neg (by decide),if_pos (by decide),if_pos (by decide)]
   exact QiR
  | some c =>
   obtain ⟨ho,q1,q2⟩:=QsT hlines.1 hq
   have hr:=QtU q1
   obtain ⟨_,_,_,t4⟩:=QjD ho
   rw [hq] at r1 r2
   dsimp only at r1 r2
   rw [r1,r2,Qa,Qa]
   dsimp only
   rw [Qme c (by have:=hr.len;omega) ho.each,Qa,if_neg (by decide),if_neg (by decide),if_neg (by decide),(t4 q1).1,Qa,q2]
   dsimp only
   rw [Qg7,if_pos rfl,if_pos (by decide)]
   exact QiR
end Go.Proofs.YtnekckhjmnhinaaGreatDoor.Sho
